/-
  Sums of floats that are numbers and finite: the exact sum, rounded.
-/
import Derived.Test.YtdcaklonhbiejaaSum
namespace Go.Proofs.Ytdcaklonhbiejaa

/-- what the core writes of a signed number -/
theorem write_rn (neg : Bool) (mag : Nat) (place : Int) (hp : -1074 ≤ place) (z : Int) (hz : z.natAbs = mag * 2 ^ (place + 1074).toNat) (hneg : z ≠ 0 → (neg = true ↔ z < 0)) :
    ∃ b, Ieee.double.nearest neg mag place = b ∧ isn b = false ∧ RN z (fk b) := by
  have p : 0 < 2 ^ (place + 1074).toNat := Nat.two_pow_pos _
  by_cases h0 : mag = 0
  · subst h0
    have hz0 : z = 0 := by rw [Nat.zero_mul] at hz; omega
    subst hz0
    have e : Ieee.double.nearest neg 0 place = Ieee.double.word neg 0 := by unfold Ieee.Format.nearest; rw [if_pos rfl]
    obtain ⟨h1, h2⟩ := word_fk neg 0 (by omega)
    refine ⟨_, e, h1, 0, by omega, fun _ => rfl, fun h => absurd rfl h, ?_⟩
    have hv : VT 0 = 0 := by unfold VT V; rw [if_pos (by omega), if_pos (by omega)]
    rw [h2, hv]
    cases neg <;> simp
  · have hzn : z ≠ 0 := fun e => by
      rw [e] at hz
      have := Nat.mul_pos (Nat.pos_of_ne_zero h0) p
      simp at hz
      omega
    obtain ⟨r, hr, hrg⟩ := nearest_rung neg mag place (by omega) (place + 1074).toNat 0 (by omega)
    obtain ⟨h1, h2⟩ := word_fk neg (min r (2047 * 2 ^ 52)) (by omega)
    rw [inf_eq] at hr
    refine ⟨_, hr, h1, min r (2047 * 2 ^ 52), by omega, fun e => absurd e hzn, fun _ => ⟨r, ?_, rfl⟩, ?_⟩
    · rw [hz]; exact hrg
    · rw [h2]
      by_cases c : z < 0
      · rw [if_pos c, if_pos ((hneg hzn).2 c)]
      · rw [if_neg c, if_neg (fun e => c ((hneg hzn).1 e))]

/-- a float that is a number and finite -/
def fin (x : Nat) : Prop := ∃ s m e, Ieee.double.read x = .number s m e

theorem fin_not_nan {x : Nat} (h : fin x) : isn x = false := by
  obtain ⟨s, m, e, h⟩ := h
  unfold isn; rw [h]; rfl

theorem signed_scale (s : Bool) (m : Nat) (i base : Int) (hb : base ≤ i) (hl : -1074 ≤ base) : Ieee.signed s m (i + 1074).toNat = Ieee.signed s m (i - base).toNat * (2 ^ (base + 1074).toNat : Nat) := by
  have e : (i + 1074).toNat = (i - base).toNat + (base + 1074).toNat := by omega
  rw [e, signed_add]

theorem add_fin {x y : Nat} (hx : fin x) (hy : fin y) : ∃ b, floatBits .add .f64 x y = some b ∧ isn b = false ∧ RN (fk x + fk y) (fk b) := by
  obtain ⟨s, m, i, hx⟩ := hx
  obtain ⟨t, n, j, hy⟩ := hy
  have fx := read_fine x
  have fy := read_fine y
  rw [hx] at fx
  rw [hy] at fy
  have hi : -1074 ≤ i := fx.1
  have hj : -1074 ≤ j := fy.1
  obtain ⟨base, hbase⟩ : ∃ base : Int, min i j = base := ⟨_, rfl⟩
  have hb1 : base ≤ i := by omega
  have hb2 : base ≤ j := by omega
  have hb3 : -1074 ≤ base := by omega
  obtain ⟨total, htot⟩ : ∃ total, Ieee.signed s m (i - base).toNat + Ieee.signed t n (j - base).toNat = total := ⟨_, rfl⟩
  have hz : fk x + fk y = total * (2 ^ (base + 1074).toNat : Nat) := by
    have e1 : fk x = Ieee.signed s m (i + 1074).toNat := by unfold fk; rw [hx]; rfl
    have e2 : fk y = Ieee.signed t n (j + 1074).toNat := by unfold fk; rw [hy]; rfl
    rw [e1, e2, signed_scale s m i base hb1 hb3, signed_scale t n j base hb2 hb3, ← htot, Int.add_mul]
  have hpow : (0 : Int) < (2 ^ (base + 1074).toNat : Nat) := by have := Nat.two_pow_pos (base + 1074).toNat; omega
  obtain ⟨b, hb, hn, hr⟩ := write_rn (if total = 0 then s && t else decide (total < 0)) total.natAbs base hb3 (fk x + fk y) (by rw [hz, Int.natAbs_mul, Int.natAbs_natCast]) (fun hne => by
    have ht : total ≠ 0 := fun e => hne (by rw [hz, e, Int.zero_mul])
    rw [if_neg ht, decide_eq_true_iff, hz]
    constructor
    · intro h; exact Int.mul_neg_of_neg_of_pos h hpow
    · intro h
      refine Int.lt_of_not_ge fun hge => ?_
      have := Int.mul_nonneg hge (Int.le_of_lt hpow)
      omega)
  refine ⟨b, ?_, hn, hr⟩
  show Ieee.double.add x y = some b
  unfold Ieee.Format.add
  rw [hx, hy]
  simp only [Ieee.Datum.sum, hbase, htot, Option.map_some]
  rw [← hb]
  rfl

end Go.Proofs.Ytdcaklonhbiejaa
