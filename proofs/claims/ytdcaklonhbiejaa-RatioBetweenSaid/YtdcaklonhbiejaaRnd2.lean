/-
  Rungs: scaling; a sticky digit rounds as the exact quotient; what a rung stands for.
-/
import Derived.Test.YtdcaklonhbiejaaRnd
namespace Go.Proofs.Ytdcaklonhbiejaa

theorem rhe_cross {P D P' D' k : Nat} (hD : 0 < D) (hD' : 0 < D') (h : Rhe P D k) (he : P * D' = P' * D) : Rhe P' D' k := by
  have h1 := rhe_scale' hD' h
  rw [he, Nat.mul_comm D D'] at h1
  exact rhe_scale hD h1

theorem rung_cross {P D P' D' r : Nat} (hD : 0 < D) (hD' : 0 < D') (h : Rung P D r) (he : P * D' = P' * D) : Rung P' D' r := by
  obtain ⟨e, k, hr, hk, h1, h2⟩ := h
  have p1 : 0 < D * 2 ^ e := Nat.mul_pos hD (Nat.two_pow_pos _)
  have p2 : 0 < D' * 2 ^ e := Nat.mul_pos hD' (Nat.two_pow_pos _)
  have hx : P * (D' * 2 ^ e) = P' * (D * 2 ^ e) := by rw [← Nat.mul_assoc, he, Nat.mul_assoc]
  refine ⟨e, k, hr, rhe_cross p1 p2 hk hx, ?_, ?_⟩
  · rcases h1 with h1 | h1
    · exact .inl h1
    · right
      refine Nat.le_of_mul_le_mul_right (c := D * 2 ^ e) ?_ p1
      rw [← hx]
      have := Nat.mul_le_mul_right (D' * 2 ^ e) h1
      have x : 2 ^ 52 * (D' * 2 ^ e) * (D * 2 ^ e) = 2 ^ 52 * (D * 2 ^ e) * (D' * 2 ^ e) := by rw [Nat.mul_assoc, Nat.mul_comm (D' * 2 ^ e), ← Nat.mul_assoc]
      omega
  · refine Nat.lt_of_mul_lt_mul_right (a := D * 2 ^ e) ?_
    rw [← hx]
    have := Nat.mul_lt_mul_of_pos_right h2 p2
    have x : 2 ^ 53 * (D' * 2 ^ e) * (D * 2 ^ e) = 2 ^ 53 * (D * 2 ^ e) * (D' * 2 ^ e) := by rw [Nat.mul_assoc, Nat.mul_comm (D' * 2 ^ e), ← Nat.mul_assoc]
    omega

/-- two digits and more are dropped: the sticky digit tells all that the rest of the quotient tells -/
theorem sticky {X m : Nat} (hm : 0 < m) (c k : Nat) (h : Rhe (2 * (X / m) + (if X % m = 0 then 0 else 1)) (2 ^ (c + 2)) k) : Rhe (2 * X) (m * 2 ^ (c + 2)) k := by
  have hn := Nat.div_add_mod X m
  have hr := Nat.mod_lt X hm
  generalize X / m = q at h hn
  generalize X % m = t at h hn hr
  have hG : 0 < 2 ^ c := Nat.two_pow_pos c
  have h4 : 2 ^ (c + 2) = 4 * 2 ^ c := by rw [Nat.pow_add]; omega
  rw [h4] at h ⊢
  generalize 2 ^ c = G at h hG
  obtain ⟨h1, h2, h3⟩ := h
  -- Y: the midpoint above, over 2; Z: the one below
  have y0 : (2 * k + 1) * (4 * G) = 4 * ((2 * k + 1) * G) := by rw [Nat.mul_left_comm]
  have z0 : 2 * k * (4 * G) = 4 * (2 * k * G) := by rw [Nat.mul_left_comm]
  have yz : (2 * k + 1) * G = 2 * k * G + G := by rw [Nat.add_mul, Nat.one_mul]
  rw [y0] at h1 h3
  rw [z0] at h2 h3
  have y1 : (2 * k + 1) * (m * (4 * G)) = 4 * (m * ((2 * k + 1) * G)) := by
    rw [Nat.mul_left_comm, y0, Nat.mul_left_comm]
  have z1 : 2 * k * (m * (4 * G)) = 4 * (m * (2 * k * G)) := by
    rw [Nat.mul_left_comm, z0, Nat.mul_left_comm]
  have g1 : m * (4 * G) = 4 * (m * G) := Nat.mul_left_comm _ _ _
  have up : ∀ Y, q + 1 ≤ Y → X < m * Y := fun Y hY => by
    have := Nat.mul_le_mul_left m hY
    rw [Nat.mul_add, Nat.mul_one] at this
    omega
  have upe : ∀ Y, q ≤ Y → t = 0 → X ≤ m * Y := fun Y hY ht => by
    have := Nat.mul_le_mul_left m hY
    omega
  have lo : ∀ A, A ≤ q + G → m * A ≤ X + m * G := fun A hA => by
    have := Nat.mul_le_mul_left m hA
    rw [Nat.mul_add] at this
    omega
  have los : ∀ A, A ≤ q + G → 0 < t → m * A < X + m * G := fun A hA ht => by
    have := Nat.mul_le_mul_left m hA
    rw [Nat.mul_add] at this
    omega
  have los2 : ∀ A, A + 1 ≤ q + G → m * A < X + m * G := fun A hA => by
    have := Nat.mul_le_mul_left m hA
    rw [Nat.mul_add, Nat.mul_add] at this
    omega
  unfold Rhe
  rw [y1, z1, g1]
  generalize (2 * k + 1) * G = Y at *
  generalize 2 * k * G = A at *
  refine ⟨?_, ?_, fun hk => ?_⟩
  · split at h1
    · have := upe Y (by omega) (by assumption); omega
    · have := up Y (by omega); omega
  · have := lo A (by split at h2 <;> omega); omega
  · have h3 := h3 hk
    refine ⟨?_, ?_⟩
    · have := up Y (by split at h3 <;> omega); omega
    · split at h3
      · have := los2 A (by omega); omega
      · have := los A (by omega) (by omega); omega

end Go.Proofs.Ytdcaklonhbiejaa
