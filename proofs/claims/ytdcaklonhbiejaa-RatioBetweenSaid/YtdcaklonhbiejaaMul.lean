/-
  Four times a float that is a number and finite.
-/
import Derived.Test.YtdcaklonhbiejaaAdd
namespace Go.Proofs.Ytdcaklonhbiejaa

theorem mul4_fin {y : Nat} (hy : fin y) : ∃ b, floatBits .mul .f64 4616189618054758400 y = some b ∧ isn b = false ∧ RN (4 * fk y) (fk b) := by
  obtain ⟨t, n, j, hy⟩ := hy
  have fy := read_fine y
  rw [hy] at fy
  have hj : -1074 ≤ j := fy.1
  have h4 : Ieee.double.read 4616189618054758400 = .number false 4503599627370496 (-50) := by decide
  have hmul : floatBits .mul .f64 4616189618054758400 y = some (Ieee.double.nearest t (4503599627370496 * n) (-50 + j)) := by
    show Ieee.double.mul 4616189618054758400 y = _
    unfold Ieee.Format.mul
    rw [h4, hy]
    simp only [Ieee.Datum.product, Option.map_some, Bool.false_xor]
    rfl
  have hk : fk y = Ieee.signed t n (j + 1074).toNat := by unfold fk; rw [hy]; rfl
  rw [hmul, hk]
  by_cases h0 : n = 0
  · subst h0
    have e : Ieee.double.nearest t (4503599627370496 * 0) (-50 + j) = Ieee.double.word t 0 := by unfold Ieee.Format.nearest; rw [if_pos rfl]
    obtain ⟨h1, h2⟩ := word_fk t 0 (by omega)
    have hv : VT 0 = 0 := by unfold VT V; rw [if_pos (by omega), if_pos (by omega)]
    refine ⟨_, congrArg some e, h1, 0, by omega, fun _ => rfl, fun h => ?_, ?_⟩
    · exfalso; apply h; simp [Ieee.signed]
    · rw [h2, hv]
      simp [Ieee.signed]
  · obtain ⟨c, hc⟩ : ∃ c : Nat, (j + 1074).toNat = c := ⟨_, rfl⟩
    obtain ⟨r, hr, hrg⟩ := nearest_rung t (4503599627370496 * n) (-50 + j) (by omega) c 50 (by omega)
    have hp : 0 < n * 2 ^ c := Nat.mul_pos (Nat.pos_of_ne_zero h0) (Nat.two_pow_pos _)
    have hsg : Ieee.signed t n c = if t = true then -((n * 2 ^ c : Nat) : Int) else ((n * 2 ^ c : Nat) : Int) := by
      unfold Ieee.signed
      rw [Nat.shiftLeft_eq]
    rw [Nat.mul_assoc] at hrg
    rw [hc, hsg]
    generalize n * 2 ^ c = q at hp hrg
    have hrg2 : Rung (4 * q) 1 r := rung_cross (Nat.two_pow_pos 50) Nat.one_pos hrg (by omega)
    obtain ⟨h1, h2⟩ := word_fk t (min r (2047 * 2 ^ 52)) (by omega)
    rw [inf_eq] at hr
    refine ⟨_, congrArg some hr, h1, min r (2047 * 2 ^ 52), by omega, fun e => ?_, fun _ => ⟨r, ?_, rfl⟩, ?_⟩
    · exfalso
      cases t
      · rw [if_neg (by simp)] at e; omega
      · rw [if_pos rfl] at e; omega
    · have e : (4 * (if t = true then -(q : Int) else (q : Int))).natAbs = 4 * q := by
        cases t
        · rw [if_neg (by simp)]; omega
        · rw [if_pos rfl]; omega
      rw [e]; exact hrg2
    · rw [h2]
      cases t
      · have e : ¬ 4 * (if false = true then -(q : Int) else (q : Int)) < 0 := by rw [if_neg (by simp)]; omega
        rw [if_neg e, if_neg (by simp)]
      · have e : 4 * (if true = true then -(q : Int) else (q : Int)) < 0 := by rw [if_pos rfl]; omega
        rw [if_pos e, if_pos rfl]

end Go.Proofs.Ytdcaklonhbiejaa
