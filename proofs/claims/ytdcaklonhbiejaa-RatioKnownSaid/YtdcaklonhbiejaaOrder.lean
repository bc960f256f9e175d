/-
  The law RatioOrder's walk.
-/
import Derived.Test.YtdcaklonhbiejaaAwake
namespace Go.Proofs.Ytdcaklonhbiejaa
open Go.RowKit

theorem bef_self (a : Nat) : bef a a = false := by unfold bef; cases isn a <;> simp
theorem bef_iff (a b : Nat) : bef a b = true ↔ isn a = false ∧ (isn b = true ∨ fk b < fk a) := by
  unfold bef
  cases isn a <;> cases isn b <;> simp
theorem bef_asym {a b : Nat} (h : bef a b = true) : bef b a = false := by
  cases k : bef b a
  · rfl
  · rw [bef_iff] at h k
    obtain ⟨h1, h2⟩ := h
    obtain ⟨k1, k2⟩ := k
    rcases h2 with h2 | h2
    · rw [k1] at h2; cases h2
    · rcases k2 with k2 | k2
      · rw [h1] at k2; cases k2
      · omega
theorem bef_trans {a b c : Nat} (h : bef a b = true) (k : bef b c = true) : bef a c = true := by
  rw [bef_iff] at h k ⊢
  refine ⟨h.1, ?_⟩
  rcases k.2 with k2 | k2
  · exact .inl k2
  · rcases h.2 with h2 | h2
    · rw [k.1] at h2; cases h2
    · exact .inr (by omega)
/-- two of which neither is ahead: both are none of the numbers, or they are equal -/
theorem bef_beside {a b : Nat} (h : bef a b = false) (k : bef b a = false) : (isn a = true ∧ isn b = true) ∨ (isn a = false ∧ isn b = false ∧ FloatKind.f64.format.order a b = some .eq) := by
  cases ha : isn a <;> cases hb : isn b
  · right
    refine ⟨rfl, rfl, ?_⟩
    have e : fk a = fk b := by
      unfold bef at h k
      simp [ha, hb] at h k
      omega
    rw [order_num ha hb, e, cmp_eq]
  · simp [bef, ha, hb] at h
  · simp [bef, ha, hb] at k
  · exact .inl ⟨rfl, rfl⟩

set_option maxHeartbeats 1600000 in
theorem order_law_nan (a b c : Nat) (w : World) (na : isn a = true) (nb : isn b = true) : Calls Try.prog 3 #[.float .f64 a, .float .f64 b, .float .f64 c] w fun e w' => e = .returned (.bool true) ∧ Below w.heap.size w w' := by
  have H0 : Hid (∀ w, Calls Try.prog 17 #[.float .f64 a, .float .f64 a] w fun e w' => e = .returned (.bool false) ∧ w = w') := Lib.hid fun w => by have := before_any a a w; rwa [bef_self] at this
  have e1 : bef a b = false := by simp [bef, na]
  have e2 : bef b a = false := by simp [bef, nb]
  have ho := order_nan1 b na
  have HAB : Hid (∀ w, Calls Try.prog 17 #[.float .f64 a, .float .f64 b] w fun e w' => e = .returned (.bool false) ∧ w = w') := Lib.hid fun w => by have := before_any a b w; rwa [e1] at this
  have HBA : Hid (∀ w, Calls Try.prog 17 #[.float .f64 b, .float .f64 a] w fun e w' => e = .returned (.bool false) ∧ w = w') := Lib.hid fun w => by have := before_any b a w; rwa [e2] at this
  have HNA : Hid (∀ w, Calls Try.prog 18 #[.float .f64 a] w fun e w' => e = .returned (.bool true) ∧ w = w') := Lib.hid fun w => by have := isnan_any a w; rwa [na] at this
  have HNB : Hid (∀ w, Calls Try.prog 18 #[.float .f64 b] w fun e w' => e = .returned (.bool true) ∧ w = w') := Lib.hid fun w => by have := isnan_any b w; rwa [nb] at this
  clear e1 e2 na nb
  go_enter Try.func3, Try.ntmps3
  go_wp2_with fail
  refine (awake_any _).mono ?_
  rintro e w1 ⟨rfl, hb1⟩
  go_wp2_with fail
  refine (H0.out _).mono ?_
  rintro e w2 ⟨rfl, rfl⟩
  go_wp2_with fail
  refine (HAB.out _).mono ?_
  rintro e w2 ⟨rfl, rfl⟩
  go_wp2_with fail
  refine (HAB.out _).mono ?_
  rintro e w2 ⟨rfl, rfl⟩
  go_wp2_with fail
  refine (HAB.out _).mono ?_
  rintro e w2 ⟨rfl, rfl⟩
  go_wp2_with fail
  refine (HBA.out _).mono ?_
  rintro e w2 ⟨rfl, rfl⟩
  go_wp2_with fail
  refine (HNA.out _).mono ?_
  rintro e w2 ⟨rfl, rfl⟩
  go_wp2_with fail
  refine (HNB.out _).mono ?_
  rintro e w2 ⟨rfl, rfl⟩
  go_wp2_with fail
  go_ret
  exact ⟨rfl, hb1⟩

set_option maxHeartbeats 1600000 in
theorem order_law_eq (a b c : Nat) (w : World) (e1 : bef a b = false) (e2 : bef b a = false) (ho : FloatKind.f64.format.order a b = some .eq) : Calls Try.prog 3 #[.float .f64 a, .float .f64 b, .float .f64 c] w fun e w' => e = .returned (.bool true) ∧ Below w.heap.size w w' := by
  have H0 : Hid (∀ w, Calls Try.prog 17 #[.float .f64 a, .float .f64 a] w fun e w' => e = .returned (.bool false) ∧ w = w') := Lib.hid fun w => by have := before_any a a w; rwa [bef_self] at this
  have HAB : Hid (∀ w, Calls Try.prog 17 #[.float .f64 a, .float .f64 b] w fun e w' => e = .returned (.bool false) ∧ w = w') := Lib.hid fun w => by have := before_any a b w; rwa [e1] at this
  have HBA : Hid (∀ w, Calls Try.prog 17 #[.float .f64 b, .float .f64 a] w fun e w' => e = .returned (.bool false) ∧ w = w') := Lib.hid fun w => by have := before_any b a w; rwa [e2] at this
  clear e1 e2
  go_enter Try.func3, Try.ntmps3
  go_wp2_with fail
  refine (awake_any _).mono ?_
  rintro e w1 ⟨rfl, hb1⟩
  go_wp2_with fail
  refine (H0.out _).mono ?_
  rintro e w2 ⟨rfl, rfl⟩
  go_wp2_with fail
  refine (HAB.out _).mono ?_
  rintro e w2 ⟨rfl, rfl⟩
  go_wp2_with fail
  refine (HAB.out _).mono ?_
  rintro e w2 ⟨rfl, rfl⟩
  go_wp2_with fail
  refine (HAB.out _).mono ?_
  rintro e w2 ⟨rfl, rfl⟩
  go_wp2_with fail
  refine (HBA.out _).mono ?_
  rintro e w2 ⟨rfl, rfl⟩
  go_wp2_with fail
  go_ret
  exact ⟨rfl, hb1⟩

set_option maxHeartbeats 1600000 in
theorem order_law_ba (a b c : Nat) (w : World) (e1 : bef a b = false) (e2 : bef b a = true) : Calls Try.prog 3 #[.float .f64 a, .float .f64 b, .float .f64 c] w fun e w' => e = .returned (.bool true) ∧ Below w.heap.size w w' := by
  have H0 : Hid (∀ w, Calls Try.prog 17 #[.float .f64 a, .float .f64 a] w fun e w' => e = .returned (.bool false) ∧ w = w') := Lib.hid fun w => by have := before_any a a w; rwa [bef_self] at this
  have HAB : Hid (∀ w, Calls Try.prog 17 #[.float .f64 a, .float .f64 b] w fun e w' => e = .returned (.bool false) ∧ w = w') := Lib.hid fun w => by have := before_any a b w; rwa [e1] at this
  have HBA : Hid (∀ w, Calls Try.prog 17 #[.float .f64 b, .float .f64 a] w fun e w' => e = .returned (.bool true) ∧ w = w') := Lib.hid fun w => by have := before_any b a w; rwa [e2] at this
  clear e1 e2
  go_enter Try.func3, Try.ntmps3
  go_wp2_with fail
  refine (awake_any _).mono ?_
  rintro e w1 ⟨rfl, hb1⟩
  go_wp2_with fail
  refine (H0.out _).mono ?_
  rintro e w2 ⟨rfl, rfl⟩
  go_wp2_with fail
  refine (HAB.out _).mono ?_
  rintro e w2 ⟨rfl, rfl⟩
  go_wp2_with fail
  refine (HAB.out _).mono ?_
  rintro e w2 ⟨rfl, rfl⟩
  go_wp2_with fail
  refine (HAB.out _).mono ?_
  rintro e w2 ⟨rfl, rfl⟩
  go_wp2_with fail
  refine (HBA.out _).mono ?_
  rintro e w2 ⟨rfl, rfl⟩
  go_wp2_with fail
  go_ret
  exact ⟨rfl, hb1⟩

set_option maxHeartbeats 1600000 in
theorem order_law_ab (a b c : Nat) (w : World) (e1 : bef a b = true) (e2 : bef b a = false) (e3 : bef b c = false) : Calls Try.prog 3 #[.float .f64 a, .float .f64 b, .float .f64 c] w fun e w' => e = .returned (.bool true) ∧ Below w.heap.size w w' := by
  have H0 : Hid (∀ w, Calls Try.prog 17 #[.float .f64 a, .float .f64 a] w fun e w' => e = .returned (.bool false) ∧ w = w') := Lib.hid fun w => by have := before_any a a w; rwa [bef_self] at this
  have HAB : Hid (∀ w, Calls Try.prog 17 #[.float .f64 a, .float .f64 b] w fun e w' => e = .returned (.bool true) ∧ w = w') := Lib.hid fun w => by have := before_any a b w; rwa [e1] at this
  have HBA : Hid (∀ w, Calls Try.prog 17 #[.float .f64 b, .float .f64 a] w fun e w' => e = .returned (.bool false) ∧ w = w') := Lib.hid fun w => by have := before_any b a w; rwa [e2] at this
  have HBC : Hid (∀ w, Calls Try.prog 17 #[.float .f64 b, .float .f64 c] w fun e w' => e = .returned (.bool false) ∧ w = w') := Lib.hid fun w => by have := before_any b c w; rwa [e3] at this
  clear e1 e2 e3
  go_enter Try.func3, Try.ntmps3
  go_wp2_with fail
  refine (awake_any _).mono ?_
  rintro e w1 ⟨rfl, hb1⟩
  go_wp2_with fail
  refine (H0.out _).mono ?_
  rintro e w2 ⟨rfl, rfl⟩
  go_wp2_with fail
  refine (HAB.out _).mono ?_
  rintro e w2 ⟨rfl, rfl⟩
  go_wp2_with fail
  refine (HBA.out _).mono ?_
  rintro e w2 ⟨rfl, rfl⟩
  go_wp2_with fail
  refine (HAB.out _).mono ?_
  rintro e w2 ⟨rfl, rfl⟩
  go_wp2_with fail
  refine (HBC.out _).mono ?_
  rintro e w2 ⟨rfl, rfl⟩
  go_wp2_with fail
  refine (HAB.out _).mono ?_
  rintro e w2 ⟨rfl, rfl⟩
  go_wp2_with fail
  go_ret
  exact ⟨rfl, hb1⟩

set_option maxHeartbeats 1600000 in
theorem order_law_abc (a b c : Nat) (w : World) (e1 : bef a b = true) (e2 : bef b a = false) (e3 : bef b c = true) (e4 : bef a c = true) : Calls Try.prog 3 #[.float .f64 a, .float .f64 b, .float .f64 c] w fun e w' => e = .returned (.bool true) ∧ Below w.heap.size w w' := by
  have H0 : Hid (∀ w, Calls Try.prog 17 #[.float .f64 a, .float .f64 a] w fun e w' => e = .returned (.bool false) ∧ w = w') := Lib.hid fun w => by have := before_any a a w; rwa [bef_self] at this
  have HAB : Hid (∀ w, Calls Try.prog 17 #[.float .f64 a, .float .f64 b] w fun e w' => e = .returned (.bool true) ∧ w = w') := Lib.hid fun w => by have := before_any a b w; rwa [e1] at this
  have HBA : Hid (∀ w, Calls Try.prog 17 #[.float .f64 b, .float .f64 a] w fun e w' => e = .returned (.bool false) ∧ w = w') := Lib.hid fun w => by have := before_any b a w; rwa [e2] at this
  have HBC : Hid (∀ w, Calls Try.prog 17 #[.float .f64 b, .float .f64 c] w fun e w' => e = .returned (.bool true) ∧ w = w') := Lib.hid fun w => by have := before_any b c w; rwa [e3] at this
  have HAC : Hid (∀ w, Calls Try.prog 17 #[.float .f64 a, .float .f64 c] w fun e w' => e = .returned (.bool true) ∧ w = w') := Lib.hid fun w => by have := before_any a c w; rwa [e4] at this
  clear e1 e2 e3 e4
  go_enter Try.func3, Try.ntmps3
  go_wp2_with fail
  refine (awake_any _).mono ?_
  rintro e w1 ⟨rfl, hb1⟩
  go_wp2_with fail
  refine (H0.out _).mono ?_
  rintro e w2 ⟨rfl, rfl⟩
  go_wp2_with fail
  refine (HAB.out _).mono ?_
  rintro e w2 ⟨rfl, rfl⟩
  go_wp2_with fail
  refine (HBA.out _).mono ?_
  rintro e w2 ⟨rfl, rfl⟩
  go_wp2_with fail
  refine (HAB.out _).mono ?_
  rintro e w2 ⟨rfl, rfl⟩
  go_wp2_with fail
  refine (HBC.out _).mono ?_
  rintro e w2 ⟨rfl, rfl⟩
  go_wp2_with fail
  refine (HAC.out _).mono ?_
  rintro e w2 ⟨rfl, rfl⟩
  go_wp2_with fail
  refine (HAB.out _).mono ?_
  rintro e w2 ⟨rfl, rfl⟩
  go_wp2_with fail
  go_ret
  exact ⟨rfl, hb1⟩

theorem order_law (a b c : Nat) (w : World) : Calls Try.prog 3 #[.float .f64 a, .float .f64 b, .float .f64 c] w fun e w' => e = .returned (.bool true) ∧ Below w.heap.size w w' := by
  cases e1 : bef a b
  · cases e2 : bef b a
    · rcases bef_beside e1 e2 with ⟨na, nb⟩ | ⟨_, _, ho⟩
      · exact order_law_nan a b c w na nb
      · exact order_law_eq a b c w e1 e2 ho
    · exact order_law_ba a b c w e1 e2
  · have e2 := bef_asym e1
    cases e3 : bef b c
    · exact order_law_ab a b c w e1 e2 e3
    · exact order_law_abc a b c w e1 e2 e3 (bef_trans e1 e3)

end Go.Proofs.Ytdcaklonhbiejaa
