/-
  What the core writes of a signed number: where it stands; sums.
-/
import Derived.Test.YtdcaklonhbiejaaPart
namespace Go.Proofs.Ytdcaklonhbiejaa

/-- what a rung stands for, the one of infinity too -/
def VT (r : Nat) : Nat := if r < 2047 * 2 ^ 52 then V r else top

theorem V_top {r : Nat} (h : r < 2047 * 2 ^ 52) : V r < top := by
  have := (read_fine r)
  obtain ⟨m, e, hr, he, hv⟩ := read_word r h
  rw [hr] at this
  have h2 := this.2
  rw [Nat.shiftLeft_eq, hv] at h2
  exact h2

theorem VT_mono {r r' : Nat} (h : r ≤ r') : VT r ≤ VT r' := by
  unfold VT
  by_cases h1 : r' < 2047 * 2 ^ 52
  · rw [if_pos h1, if_pos (by omega)]; exact V_mono h
  · rw [if_neg h1]
    by_cases h2 : r < 2047 * 2 ^ 52
    · rw [if_pos h2]; exact Nat.le_of_lt (V_top h2)
    · rw [if_neg h2]; exact Nat.le_refl _

/-- a word of a sign and a rung -/
theorem word_fk (neg : Bool) (r : Nat) (hr : r ≤ 2047 * 2 ^ 52) : isn (Ieee.double.word neg r) = false ∧ fk (Ieee.double.word neg r) = if neg then -(VT r : Int) else VT r := by
  have hb : Ieee.double.binade = 2 ^ 52 := by decide
  have hl : Ieee.double.leastPlace = -1074 := by decide
  have hi : Ieee.double.infRung = 2047 * 2 ^ 52 := by decide
  have hs : Ieee.double.signWeight = 2 ^ 63 := by decide
  have hread : Ieee.double.read (Ieee.double.word neg r) = if r < 2 ^ 52 then .number neg r (-1074) else if r < 2047 * 2 ^ 52 then .number neg (2 ^ 52 + r % 2 ^ 52) (-1074 + (r / 2 ^ 52 - 1 : Nat)) else .infinity neg := by
    unfold Ieee.Format.read Ieee.Format.word
    dsimp only
    rw [hb, hl, hi, hs]
    have h0 : r < 2 ^ 63 := by omega
    cases neg
    · have h1 : r / 2 ^ 63 = 0 := Nat.div_eq_of_lt h0
      have h2 : r % 2 ^ 63 = r := Nat.mod_eq_of_lt h0
      simp only [Bool.false_eq_true, if_false, h1, h2]
      by_cases a : r < 2 ^ 52
      · rw [if_pos a, if_pos a]; rfl
      · rw [if_neg a, if_neg a]
        by_cases b : r < 2047 * 2 ^ 52
        · rw [if_pos b, if_pos b]; rfl
        · rw [if_neg b, if_neg b, if_pos (by omega)]; rfl
    · have h1 : (2 ^ 63 + r) / 2 ^ 63 = 1 := by omega
      have h2 : (2 ^ 63 + r) % 2 ^ 63 = r := by omega
      simp only [if_true, h1, h2]
      by_cases a : r < 2 ^ 52
      · rw [if_pos a, if_pos a]; rfl
      · rw [if_neg a, if_neg a]
        by_cases b : r < 2047 * 2 ^ 52
        · rw [if_pos b, if_pos b]; rfl
        · rw [if_neg b, if_neg b, if_pos (by omega)]; rfl
  unfold isn fk
  rw [hread]
  by_cases a : r < 2 ^ 52
  · rw [if_pos a]
    have hv : VT r = r := by unfold VT V; rw [if_pos (by omega), if_pos a]
    refine ⟨rfl, ?_⟩
    rw [hv]
    simp [key, Ieee.signed]
  · rw [if_neg a]
    by_cases b : r < 2047 * 2 ^ 52
    · rw [if_pos b]
      have hv : VT r = (2 ^ 52 + r % 2 ^ 52) * 2 ^ (r / 2 ^ 52 - 1) := by unfold VT V; rw [if_pos b, if_neg a]
      refine ⟨rfl, ?_⟩
      rw [hv]
      have e : (-1074 + ((r / 2 ^ 52 - 1 : Nat) : Int) + 1074).toNat = r / 2 ^ 52 - 1 := by omega
      simp only [key, Ieee.signed, e, Nat.shiftLeft_eq]
    · rw [if_neg b]
      have hv : VT r = top := by unfold VT; rw [if_neg b]
      refine ⟨rfl, ?_⟩
      rw [hv]
      rfl

/-- z units of the least float, rounded: v -/
def RN (z v : Int) : Prop := ∃ r, r ≤ 2047 * 2 ^ 52 ∧ (z = 0 → r = 0) ∧ (z ≠ 0 → ∃ r0, Rung z.natAbs 1 r0 ∧ r = min r0 (2047 * 2 ^ 52)) ∧ v = if z < 0 then -(VT r : Int) else VT r

theorem rn_mono {z z' v v' : Int} (h : RN z v) (h' : RN z' v') (hz : z ≤ z') : v ≤ v' := by
  obtain ⟨r, hr, h0, h1, rfl⟩ := h
  obtain ⟨r', hr', h0', h1', rfl⟩ := h'
  have hle : ∀ a b : Int, a ≠ 0 → b ≠ 0 → a.natAbs ≤ b.natAbs → ∀ ra rb, Rung a.natAbs 1 ra → Rung b.natAbs 1 rb → min ra (2047 * 2 ^ 52) ≤ min rb (2047 * 2 ^ 52) := fun a b _ _ hab ra rb hra hrb => by
    have := rung_mono Nat.one_pos Nat.one_pos hra hrb (by omega)
    omega
  by_cases c : z < 0
  · rw [if_pos c]
    by_cases c' : z' < 0
    · rw [if_pos c']
      obtain ⟨a, ha, e1⟩ := h1 (by omega)
      obtain ⟨b, hb, e2⟩ := h1' (by omega)
      have := VT_mono (hle z' z (by omega) (by omega) (by omega) b a hb ha)
      rw [← e1, ← e2] at this
      omega
    · rw [if_neg c']
      omega
  · rw [if_neg c, if_neg (by omega)]
    by_cases e : z = 0
    · rw [h0 e]
      have : VT 0 = 0 := by unfold VT V; rw [if_pos (by omega), if_pos (by omega)]
      omega
    · obtain ⟨a, ha, e1⟩ := h1 e
      obtain ⟨b, hb, e2⟩ := h1' (by omega)
      have := VT_mono (hle z z' (by omega) (by omega) (by omega) a b ha hb)
      rw [← e1, ← e2] at this
      omega

end Go.Proofs.Ytdcaklonhbiejaa
