/-
  Part of package ratio, of whole numbers from 0 to 2^53.
-/
import Derived.Test.YtdcaklonhbiejaaVal
import Derived.Test.YtdcaklonhbiejaaAwake
namespace Go.Proofs.Ytdcaklonhbiejaa
open Go.RowKit

theorem word_false (r : Nat) : Ieee.double.word false r = r := rfl
theorem inf_eq : Ieee.double.infRung = 2047 * 2 ^ 52 := by decide

/-- float64(n) -/
theorem of_int (T : Nat) (hT : T = 1074) (n : Nat) (hn : n ≤ 2 ^ 53) : ∃ r, floatOfInt .f64 (n : Int) = r ∧ r ≤ 1076 * 2 ^ 52 ∧ V r = n * 2 ^ T := by
  obtain ⟨r0, hr0, hv⟩ := of_nat T hT n hn
  refine ⟨_, rfl, ?_⟩
  have e : floatOfInt .f64 (n : Int) = Ieee.double.nearest false n 0 := by
    show Ieee.double.nearest (decide ((n : Int) < 0)) (n : Int).natAbs 0 = _
    rw [decide_eq_false (by omega), Int.natAbs_natCast]
  rw [e]
  by_cases h0 : n = 0
  · subst h0
    have e2 : Ieee.double.nearest false 0 0 = 0 := by unfold Ieee.Format.nearest; rw [if_pos rfl]; rfl
    rw [e2]
    exact ⟨by omega, by unfold V; rw [if_pos (by omega), Nat.zero_mul]⟩
  · obtain ⟨r, hr, hrg⟩ := nearest_rung false n 0 (by omega) T 0 (by omega)
    have e3 : r = r0 := by
      have h1 : Rung (n * 2 ^ T) 1 r := hrg
      rw [← hv] at h1
      exact Nat.le_antisymm (rung_le Nat.one_pos h1 (by omega)) (rung_ge Nat.one_pos h1 (by omega))
    rw [hr, e3, word_false, inf_eq, Nat.min_eq_left (by omega)]
    exact ⟨hr0, hv⟩

/-- what Part's answer stands for: the exact quotient, rounded -/
theorem quo_eq (T : Nat) (hT : T = 1074) (n d : Nat) (hn : 0 < n) (hnd : n ≤ 2 ^ 53) (hd : 0 < d) (hdd : d ≤ 2 ^ 53) :
    ∃ r, floatBits .quo .f64 (floatOfInt .f64 (n : Int)) (floatOfInt .f64 (d : Int)) = some (min r (2047 * 2 ^ 52)) ∧ Rung (n * 2 ^ T) d r := by
  obtain ⟨x, hx, hx1, hx2⟩ := of_int T hT n hnd
  obtain ⟨y, hy, hy1, hy2⟩ := of_int T hT d hdd
  rw [hx, hy]
  obtain ⟨m, i, hm, hi, hmv⟩ := read_word x (by omega)
  obtain ⟨m', j, hm', hj, hmv'⟩ := read_word y (by omega)
  rw [hx2] at hmv
  rw [hy2] at hmv'
  have p : 0 < 2 ^ T := Nat.two_pow_pos _
  have hm0 : 0 < m := by
    refine Nat.pos_of_ne_zero fun e => ?_
    rw [e, Nat.zero_mul] at hmv
    have := Nat.mul_pos hn p
    omega
  have hm0' : 0 < m' := by
    refine Nat.pos_of_ne_zero fun e => ?_
    rw [e, Nat.zero_mul] at hmv'
    have := Nat.mul_pos hd p
    omega
  obtain ⟨u, hu⟩ : ∃ u : Nat, (i + 1074).toNat = u := ⟨_, rfl⟩
  obtain ⟨v, hv⟩ : ∃ v : Nat, (j + 1074).toNat = v := ⟨_, rfl⟩
  rw [hu] at hmv
  rw [hv] at hmv'
  obtain ⟨more, hmore⟩ : ∃ more, 54 + m'.log2 - m.log2 = more := ⟨_, rfl⟩
  obtain ⟨r, hr, hrg⟩ := quo_rung m m' more hm0 hm0' (by omega) (i - j - more - 1) (u + T) v (by omega)
  refine ⟨r, ?_, ?_⟩
  · show Ieee.double.div x y = _
    unfold Ieee.Format.div
    rw [hm, hm']
    have hq : Ieee.Datum.quotient (Ieee.double.fractionBits + 2) (.number false m i) (.number false m' j) = some (.number false (2 * (m * 2 ^ more / m') + (if m * 2 ^ more % m' = 0 then 0 else 1)) (i - j - more - 1)) := by
      have hf : Ieee.double.fractionBits + 2 = 54 := rfl
      rw [hf]
      simp only [Ieee.Datum.quotient]
      rw [if_neg (by omega), hmore, Nat.shiftLeft_eq]
      by_cases hz : m * 2 ^ more % m' = 0
      · simp [hz]
      · simp [hz]
    rw [hq]
    show some (Ieee.double.nearest false _ _) = _
    rw [hr, word_false, inf_eq]
  · refine rung_cross (Nat.mul_pos hm0' (Nat.two_pow_pos _)) hd hrg ?_
    -- m 2^(u+1074) d = n 2^1074 m' 2^v
    have e1 : m * 2 ^ (u + T) * d = (m * 2 ^ u) * (d * 2 ^ T) := by rw [Nat.pow_add]; simp only [Nat.mul_assoc, Nat.mul_comm, Nat.mul_left_comm]
    rw [e1, hmv, ← hmv']

end Go.Proofs.Ytdcaklonhbiejaa
