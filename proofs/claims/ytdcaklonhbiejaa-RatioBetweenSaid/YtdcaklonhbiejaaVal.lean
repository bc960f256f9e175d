/-
  What a rung stands for.
-/
import Derived.Test.YtdcaklonhbiejaaQuo
namespace Go.Proofs.Ytdcaklonhbiejaa

/-- what rung r stands for, in units of the least float -/
def V (r : Nat) : Nat := if r < 2 ^ 52 then r else (2 ^ 52 + r % 2 ^ 52) * 2 ^ (r / 2 ^ 52 - 1)

theorem read_word (r : Nat) (hr : r < 2047 * 2 ^ 52) : ∃ m e, Ieee.double.read r = .number false m e ∧ -1074 ≤ e ∧ m * 2 ^ (e + 1074).toNat = V r := by
  have hb : Ieee.double.binade = 2 ^ 52 := by decide
  have hl : Ieee.double.leastPlace = -1074 := by decide
  have hi : Ieee.double.infRung = 2047 * 2 ^ 52 := by decide
  have hs : Ieee.double.signWeight = 2 ^ 63 := by decide
  unfold Ieee.Format.read
  dsimp only
  rw [hb, hl, hi, hs]
  have h1 : r / 2 ^ 63 = 0 := Nat.div_eq_of_lt (by omega)
  have h2 : r % 2 ^ 63 = r := Nat.mod_eq_of_lt (by omega)
  rw [h1, h2]
  by_cases h : r < 2 ^ 52
  · rw [if_pos h]
    refine ⟨r, -1074, rfl, by omega, ?_⟩
    unfold V
    rw [if_pos h]
    simp
  · rw [if_neg h, if_pos hr]
    refine ⟨_, _, rfl, by omega, ?_⟩
    unfold V
    rw [if_neg h]
    congr 2
    omega

theorem word_num (r : Nat) (hr : r < 2047 * 2 ^ 52) : isn r = false ∧ fk r = V r := by
  obtain ⟨m, e, h, _, hv⟩ := read_word r hr
  refine ⟨by unfold isn; rw [h]; rfl, ?_⟩
  unfold fk
  rw [h]
  simp only [key, Ieee.signed, Bool.false_eq_true, if_false, Nat.shiftLeft_eq, hv]

theorem V_rung (r : Nat) : Rung (V r) 1 r := by
  unfold V
  by_cases h : r < 2 ^ 52
  · rw [if_pos h]
    refine ⟨0, r, by omega, ⟨by omega, by omega, fun _ => ⟨by omega, by omega⟩⟩, .inl rfl, by omega⟩
  · rw [if_neg h]
    have hp : 0 < 2 ^ (r / 2 ^ 52 - 1) := Nat.two_pow_pos _
    refine ⟨r / 2 ^ 52 - 1, 2 ^ 52 + r % 2 ^ 52, by omega, ?_, .inr ?_, ?_⟩
    · refine rhe_scale' hp (P := 2 ^ 52 + r % 2 ^ 52) (D := 1) ⟨by omega, by omega, fun _ => ⟨by omega, by omega⟩⟩
    · rw [Nat.one_mul]
      exact Nat.mul_le_mul_right _ (by omega)
    · rw [Nat.one_mul]
      exact Nat.mul_lt_mul_of_pos_right (by omega) hp

theorem rung_le {P D r r0 : Nat} (hD : 0 < D) (h : Rung P D r) (hv : P ≤ V r0 * D) : r ≤ r0 :=
  rung_mono hD Nat.one_pos h (V_rung r0) (by rw [Nat.mul_one]; exact hv)
theorem rung_ge {P D r r0 : Nat} (hD : 0 < D) (h : Rung P D r) (hv : V r0 * D ≤ P) : r0 ≤ r :=
  rung_mono Nat.one_pos hD (V_rung r0) h (by rw [Nat.mul_one]; exact hv)
theorem V_mono {r r' : Nat} (h : r ≤ r') : V r ≤ V r' := by
  refine Nat.le_of_not_lt fun hlt => ?_
  have := rung_mono Nat.one_pos Nat.one_pos (V_rung r') (V_rung r) (by omega)
  have e : r = r' := by omega
  rw [e] at hlt
  omega
theorem V_inj {r r' : Nat} (h : V r = V r') : r = r' := by
  have h1 := rung_mono Nat.one_pos Nat.one_pos (V_rung r) (V_rung r') (by omega)
  have h2 := rung_mono Nat.one_pos Nat.one_pos (V_rung r') (V_rung r) (by omega)
  omega

/-- a whole number to 2^53 is a float -/
theorem of_nat (T : Nat) (hT : T = 1074) (n : Nat) (hn : n ≤ 2 ^ 53) : ∃ r, r ≤ 1076 * 2 ^ 52 ∧ V r = n * 2 ^ T := by
  by_cases h0 : n = 0
  · subst h0; exact ⟨0, by omega, by unfold V; rw [if_pos (by omega), Nat.zero_mul]⟩
  · have hlo : 2 ^ n.log2 ≤ n := Nat.log2_self_le h0
    have hhi : n < 2 ^ (n.log2 + 1) := Nat.lt_log2_self
    have ht : n.log2 ≤ 53 := by
      refine Nat.le_of_not_lt fun h => ?_
      have := Nat.pow_le_pow_right (show 0 < 2 by omega) h
      have : 2 ^ 54 ≤ n := Nat.le_trans this hlo
      omega
    generalize n.log2 = t at hlo hhi ht
    have key : ∀ (c s : Nat), n * 2 ^ c = 2 ^ 52 + s → s < 2 ^ 52 → ∀ E, E + c = T → V ((E + 1) * 2 ^ 52 + s) = n * 2 ^ T := by
      intro c s hc hs E hE
      unfold V
      rw [if_neg (by omega)]
      have e1 : ((E + 1) * 2 ^ 52 + s) % 2 ^ 52 = s := by omega
      have e2 : ((E + 1) * 2 ^ 52 + s) / 2 ^ 52 - 1 = E := by omega
      rw [e1, e2, ← hc, Nat.mul_assoc, ← Nat.pow_add, Nat.add_comm c, hE]
    by_cases h53 : t = 53
    · have hn53 : n = 2 ^ 53 := by subst h53; omega
      refine ⟨1076 * 2 ^ 52, Nat.le_refl _, ?_⟩
      unfold V
      rw [if_neg (by omega), hn53]
      have e1 : 1076 * 2 ^ 52 % 2 ^ 52 = 0 := by decide
      have e2 : 1076 * 2 ^ 52 / 2 ^ 52 - 1 = T + 1 := by omega
      have gen : ∀ T, (2 ^ 52 + 0) * 2 ^ (T + 1) = 2 ^ 53 * 2 ^ T := fun T => by rw [Nat.pow_succ 2 T]; omega
      rw [e1, e2]
      exact gen T
    · have hl : 2 ^ 52 ≤ n * 2 ^ (52 - t) := by
        have := Nat.mul_le_mul_right (2 ^ (52 - t)) hlo
        rw [← Nat.pow_add, show t + (52 - t) = 52 by omega] at this
        exact this
      have hu : n * 2 ^ (52 - t) < 2 ^ 53 := by
        have := Nat.mul_lt_mul_of_pos_right hhi (Nat.two_pow_pos (52 - t))
        rw [← Nat.pow_add, show t + 1 + (52 - t) = 53 by omega] at this
        exact this
      refine ⟨(1022 + t + 1) * 2 ^ 52 + (n * 2 ^ (52 - t) - 2 ^ 52), by omega, key (52 - t) _ (by omega) (by omega) (1022 + t) (by omega)⟩

end Go.Proofs.Ytdcaklonhbiejaa
