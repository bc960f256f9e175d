/-
  The quotient of two numbers comes to the rung of the exact quotient.
-/
import Derived.Test.YtdcaklonhbiejaaRnd2
namespace Go.Proofs.Ytdcaklonhbiejaa

theorem quo_rung (m m' more : Nat) (hm : 0 < m) (hm' : 0 < m') (hmore : 54 + m'.log2 ≤ m.log2 + more) (place : Int) (a b : Nat) (hp : place + 1074 = (a : Int) - (b + more + 1 : Nat)) :
    ∃ r, Ieee.double.nearest false (2 * (m * 2 ^ more / m') + (if m * 2 ^ more % m' = 0 then 0 else 1)) place = Ieee.double.word false (min r Ieee.double.infRung) ∧ Rung (m * 2 ^ a) (m' * 2 ^ b) r := by
  have hX : 2 ^ (54 + m'.log2) ≤ m * 2 ^ more := by
    refine Nat.le_trans (Nat.pow_le_pow_right (by omega) hmore) ?_
    rw [Nat.pow_add]
    exact Nat.mul_le_mul_right _ (Nat.log2_self_le (by omega))
  have hm2 : m' < 2 ^ (m'.log2 + 1) := Nat.lt_log2_self
  have hq : 2 ^ 53 ≤ m * 2 ^ more / m' := by
    rw [Nat.le_div_iff_mul_le hm']
    have x : 2 ^ (54 + m'.log2) = 2 ^ 53 * 2 ^ (m'.log2 + 1) := by rw [← Nat.pow_add]; congr 1; omega
    have := Nat.mul_le_mul_left (2 ^ 53) (Nat.le_of_lt hm2)
    omega
  obtain ⟨X, hXe⟩ : ∃ X, m * 2 ^ more = X := ⟨_, rfl⟩
  rw [hXe] at hq ⊢
  obtain ⟨r, hr, e, k, hrr, hk, h1, h2⟩ := nearest_rung false (2 * (X / m') + (if X % m' = 0 then 0 else 1)) place (by omega) a (b + more + 1) hp
  refine ⟨r, hr, e, k, hrr, ?_⟩
  have hn := Nat.div_add_mod X m'
  have hrm := Nat.mod_lt X hm'
  obtain ⟨s, hs, hs1⟩ : ∃ s, (if X % m' = 0 then 0 else 1) = s ∧ s ≤ 1 := ⟨_, rfl, by split <;> omega⟩
  rw [← Nat.pow_add] at hk h1 h2
  -- at least two digits are dropped
  have hBa : a + 2 ≤ b + more + 1 + e := by
    refine Nat.le_of_not_lt fun hlt => ?_
    have x1 : 2 ^ 54 * 2 ^ a ≤ (2 * (X / m') + (if X % m' = 0 then 0 else 1)) * 2 ^ a := Nat.mul_le_mul_right _ (by omega)
    have x2 : 2 ^ 53 * 2 ^ (b + more + 1 + e) ≤ 2 ^ 54 * 2 ^ a := by
      rw [← Nat.pow_add, ← Nat.pow_add]
      exact Nat.pow_le_pow_right (by omega) (by omega)
    omega
  obtain ⟨c, hc⟩ : ∃ c, b + more + 1 + e = c + 2 + a := ⟨b + more + 1 + e - a - 2, by omega⟩
  rw [hc, Nat.pow_add 2 (c + 2) a] at hk h1 h2
  have hk2 := sticky hm' c k (rhe_scale (Nat.two_pow_pos a) hk)
  have pa : 0 < 2 ^ a := Nat.two_pow_pos a
  have p1 : 0 < m' * 2 ^ (c + 2) := Nat.mul_pos hm' (Nat.two_pow_pos _)
  have p2 : 0 < m' * 2 ^ b * 2 ^ e := Nat.mul_pos (Nat.mul_pos hm' (Nat.two_pow_pos _)) (Nat.two_pow_pos _)
  -- the two quotients are the same
  have hx : 2 * X * (m' * 2 ^ b * 2 ^ e) = m * 2 ^ a * (m' * 2 ^ (c + 2)) := by
    have e1 : 2 * X = m * 2 ^ (more + 1) := by rw [← hXe, Nat.pow_succ]; rw [Nat.mul_comm 2, Nat.mul_assoc]
    have e2 : m' * 2 ^ b * 2 ^ e = m' * 2 ^ (b + e) := by rw [Nat.mul_assoc, ← Nat.pow_add]
    rw [e1, e2]
    have e3 : m * 2 ^ (more + 1) * (m' * 2 ^ (b + e)) = m * m' * 2 ^ (more + 1 + (b + e)) := by rw [Nat.pow_add 2 (more + 1) (b + e)]; simp only [Nat.mul_assoc, Nat.mul_left_comm]
    have e4 : m * 2 ^ a * (m' * 2 ^ (c + 2)) = m * m' * 2 ^ (a + (c + 2)) := by rw [Nat.pow_add 2 a]; simp only [Nat.mul_assoc, Nat.mul_left_comm]
    rw [e3, e4]
    congr 2
    omega
  refine ⟨rhe_cross p1 p2 hk2 hx, ?_, ?_⟩
  · rcases h1 with h1 | h1
    · exact .inl h1
    · right
      rw [← Nat.mul_assoc] at h1
      have h1' : 2 ^ 52 * 2 ^ (c + 2) ≤ 2 * (X / m') + (if X % m' = 0 then 0 else 1) := Nat.le_of_mul_le_mul_right h1 pa
      have h4 : 2 ^ (c + 2) = 2 * 2 ^ (c + 1) := by rw [Nat.pow_succ 2 (c + 1), Nat.mul_comm]
      have hq2 : 2 ^ 52 * 2 ^ (c + 1) ≤ X / m' := by omega
      have hq3 : 2 ^ 52 * 2 ^ (c + 1) * m' ≤ X := (Nat.le_div_iff_mul_le hm').1 hq2
      refine Nat.le_of_mul_le_mul_right (c := m' * 2 ^ (c + 2)) ?_ p1
      rw [← hx]
      have := Nat.mul_le_mul_right (m' * 2 ^ b * 2 ^ e) (Nat.mul_le_mul_left 2 hq3)
      have x : 2 * (2 ^ 52 * 2 ^ (c + 1) * m') = 2 ^ 52 * (m' * 2 ^ (c + 2)) := by rw [h4]; simp only [Nat.mul_assoc, Nat.mul_comm, Nat.mul_left_comm]
      rw [x] at this
      have y : 2 ^ 52 * (m' * 2 ^ b * 2 ^ e) * (m' * 2 ^ (c + 2)) = 2 ^ 52 * (m' * 2 ^ (c + 2)) * (m' * 2 ^ b * 2 ^ e) := by rw [Nat.mul_assoc, Nat.mul_comm (m' * 2 ^ b * 2 ^ e), ← Nat.mul_assoc]
      omega
  · rw [← Nat.mul_assoc] at h2
    have h2' : 2 * (X / m') + (if X % m' = 0 then 0 else 1) < 2 ^ 53 * 2 ^ (c + 2) := Nat.lt_of_mul_lt_mul_right h2
    have h4 : 2 ^ (c + 2) = 2 * 2 ^ (c + 1) := by rw [Nat.pow_succ 2 (c + 1), Nat.mul_comm]
    have hq2 : X / m' < 2 ^ 53 * 2 ^ (c + 1) := by omega
    have hq3 : X < 2 ^ 53 * 2 ^ (c + 1) * m' := (Nat.div_lt_iff_lt_mul hm').1 hq2
    refine Nat.lt_of_mul_lt_mul_right (a := m' * 2 ^ (c + 2)) ?_
    rw [← hx]
    have := Nat.mul_lt_mul_of_pos_right (Nat.mul_lt_mul_of_pos_left hq3 (show 0 < 2 by omega)) p2
    have x : 2 * (2 ^ 53 * 2 ^ (c + 1) * m') = 2 ^ 53 * (m' * 2 ^ (c + 2)) := by rw [h4]; simp only [Nat.mul_assoc, Nat.mul_comm, Nat.mul_left_comm]
    rw [x] at this
    have y : 2 ^ 53 * (m' * 2 ^ b * 2 ^ e) * (m' * 2 ^ (c + 2)) = 2 ^ 53 * (m' * 2 ^ (c + 2)) * (m' * 2 ^ b * 2 ^ e) := by rw [Nat.mul_assoc, Nat.mul_comm (m' * 2 ^ b * 2 ^ e), ← Nat.mul_assoc]
    omega

end Go.Proofs.Ytdcaklonhbiejaa
