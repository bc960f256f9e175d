/-
  The law FieldOrder: the cases in which n is not below m, or one is no number (made by gen/ord.py).
-/
import Derived.Test.YtkfhljggdcajpaaOrd
namespace Go.Proofs.Ytkfhljggdcajpaa
open Go.RowKit

set_option maxRecDepth 100000 in
set_option maxHeartbeats 800000 in
theorem order_eqv (n : Int) (w : World) (hn0 : 0 ≤ n) (hn1 : n ≤ 2147483647) :
    Calls Try.prog 3 #[.int .i64 n, .int .i64 n] w fun e w' => e = .returned (.bool true) ∧ Below w.heap.size w w' := by
  obtain ⟨k1, hk1⟩ : ∃ k, sizeN n = k := ⟨_, rfl⟩
  have pk1 := sizeN_pos n (by omega) (by omega)
  rw [hk1] at pk1
  obtain ⟨pk1a, pk1b⟩ := pk1
  have zk10 : ((k1 : Int) == 0) = false := beq_eq_false_iff_ne.2 (by omega)
  have zk11 : (k1 == 0) = false := beq_eq_false_iff_ne.2 (by omega)
  have zk12 : decide (k1 = 0) = false := decide_eq_false (by omega)
  obtain ⟨k2, hk2⟩ : ∃ k, sizeN n = k := ⟨_, rfl⟩
  have pk2 := sizeN_pos n (by omega) (by omega)
  rw [hk2] at pk2
  obtain ⟨pk2a, pk2b⟩ := pk2
  have zk20 : ((k2 : Int) == 0) = false := beq_eq_false_iff_ne.2 (by omega)
  have zk21 : (k2 == 0) = false := beq_eq_false_iff_ne.2 (by omega)
  have zk22 : decide (k2 = 0) = false := decide_eq_false (by omega)
  have HL1 := Lib.hid ((put_length n).trans hk1)
  have HL2 := Lib.hid ((put_length n).trans hk2)
  have HK1 := Lib.hid hk1
  have HK2 := Lib.hid hk2
  obtain rfl : k1 = k2 := hk1.symm.trans hk2
  clear hk1 hk2
  all_goals
    go_enter Try.func3, Try.ntmps3
    go_wp2_with fail
    refine (awake_any _).mono ?_
    rintro e w1 ⟨rfl, hb1⟩
    go_wp2_with fail
    refine (number_k _ _ _ HL1.out).mono ?_
    rintro e w2 ⟨a2, cap2, rfl, hy2, hc2, hb2⟩
    go_wp2_with fail
    refine (number_k _ _ _ HL2.out).mono ?_
    rintro e w3 ⟨a3, cap3, rfl, hy3, hc3, hb3⟩
    have hy2' := hy2.below hb3
    have HY2 := Lib.hid hy2'
    have HY3 := Lib.hid hy3
    clear hy2 hy2' hy3
    go_wp2_with fail
    refine (size_k _ _ _ HK1.out).mono ?_
    rintro e w4 ⟨rfl, rfl⟩
    go_wp2_with fail
    refine (size_k _ _ _ HK2.out).mono ?_
    rintro e w4 ⟨rfl, rfl⟩
    go_wp2_with fail
    refine (same_k _ _ _ _ _ _ _ (put n) (put n) HL1.out HL2.out (put_bys n) (put_bys n) HY2.out HY3.out true (decide_eq_true rfl)).mono ?_
    rintro e w4 ⟨rfl, rfl⟩
    go_wp2_with fail
    go_ret
    exact ⟨rfl, (hb1.trans (hb2.mono hb1.size)).trans (hb3.mono (Nat.le_trans hb1.size hb2.size))⟩

set_option maxRecDepth 100000 in
set_option maxHeartbeats 800000 in
theorem order_gtv (n m : Int) (w : World) (hn0 : 0 ≤ n) (hn1 : n ≤ 2147483647) (hm0 : 0 ≤ m) (hm1 : m ≤ 2147483647) (hlt : m < n) :
    Calls Try.prog 3 #[.int .i64 n, .int .i64 m] w fun e w' => e = .returned (.bool true) ∧ Below w.heap.size w w' := by
  obtain ⟨k1, hk1⟩ : ∃ k, sizeN n = k := ⟨_, rfl⟩
  have pk1 := sizeN_pos n (by omega) (by omega)
  rw [hk1] at pk1
  obtain ⟨pk1a, pk1b⟩ := pk1
  have zk10 : ((k1 : Int) == 0) = false := beq_eq_false_iff_ne.2 (by omega)
  have zk11 : (k1 == 0) = false := beq_eq_false_iff_ne.2 (by omega)
  have zk12 : decide (k1 = 0) = false := decide_eq_false (by omega)
  obtain ⟨k2, hk2⟩ : ∃ k, sizeN m = k := ⟨_, rfl⟩
  have pk2 := sizeN_pos m (by omega) (by omega)
  rw [hk2] at pk2
  obtain ⟨pk2a, pk2b⟩ := pk2
  have zk20 : ((k2 : Int) == 0) = false := beq_eq_false_iff_ne.2 (by omega)
  have zk21 : (k2 == 0) = false := beq_eq_false_iff_ne.2 (by omega)
  have zk22 : decide (k2 = 0) = false := decide_eq_false (by omega)
  have HL1 := Lib.hid ((put_length n).trans hk1)
  have HL2 := Lib.hid ((put_length m).trans hk2)
  have HK1 := Lib.hid hk1
  have HK2 := Lib.hid hk2
  clear hk1 hk2
  have hnm : (n != m) = true := by rw [bne_iff_ne]; omega
  have hnm2 : (n == m) = false := beq_eq_false_iff_ne.2 (by omega)
  all_goals
    go_enter Try.func3, Try.ntmps3
    go_wp2_with fail
    refine (awake_any _).mono ?_
    rintro e w1 ⟨rfl, hb1⟩
    go_wp2_with fail
    refine (number_k _ _ _ HL1.out).mono ?_
    rintro e w2 ⟨a2, cap2, rfl, hy2, hc2, hb2⟩
    go_wp2_with fail
    refine (number_k _ _ _ HL2.out).mono ?_
    rintro e w3 ⟨a3, cap3, rfl, hy3, hc3, hb3⟩
    have hy2' := hy2.below hb3
    have HY2 := Lib.hid hy2'
    have HY3 := Lib.hid hy3
    clear hy2 hy2' hy3
    go_wp2_with fail
    refine (size_k _ _ _ HK1.out).mono ?_
    rintro e w4 ⟨rfl, rfl⟩
    go_wp2_with fail
    refine (size_k _ _ _ HK2.out).mono ?_
    rintro e w4 ⟨rfl, rfl⟩
    go_wp2_with fail
    go_ret
    exact ⟨rfl, (hb1.trans (hb2.mono hb1.size)).trans (hb3.mono (Nat.le_trans hb1.size hb2.size))⟩

set_option maxRecDepth 100000 in
set_option maxHeartbeats 800000 in
theorem order_eqi (n : Int) (w : World) (hn : n < 0 ∨ 2147483647 < n) :
    Calls Try.prog 3 #[.int .i64 n, .int .i64 n] w fun e w' => e = .returned (.bool true) ∧ Below w.heap.size w w' := by
  have hk1 : sizeN n = 0 := sizeN_none n hn
  have hk2 : sizeN n = 0 := sizeN_none n hn
  have HL1 := Lib.hid ((put_length n).trans hk1)
  have HL2 := Lib.hid ((put_length n).trans hk2)
  have HK1 := Lib.hid hk1
  have HK2 := Lib.hid hk2
  clear hk1 hk2
  obtain ⟨x1, x2⟩ | ⟨x1, x2⟩ : (n < 0 ∧ ¬ 2147483647 < n) ∨ (¬ n < 0 ∧ 2147483647 < n) := by omega
  all_goals
    go_enter Try.func3, Try.ntmps3
    go_wp2_with fail
    refine (awake_any _).mono ?_
    rintro e w1 ⟨rfl, hb1⟩
    go_wp2_with fail
    refine (number_k _ _ _ HL1.out).mono ?_
    rintro e w2 ⟨a2, cap2, rfl, hy2, hc2, hb2⟩
    go_wp2_with fail
    refine (number_k _ _ _ HL2.out).mono ?_
    rintro e w3 ⟨a3, cap3, rfl, hy3, hc3, hb3⟩
    have hy2' := hy2.below hb3
    have HY2 := Lib.hid hy2'
    have HY3 := Lib.hid hy3
    clear hy2 hy2' hy3
    go_wp2_with fail
    refine (size_k _ _ _ HK1.out).mono ?_
    rintro e w4 ⟨rfl, rfl⟩
    go_wp2_with fail
    refine (size_k _ _ _ HK2.out).mono ?_
    rintro e w4 ⟨rfl, rfl⟩
    go_wp2_with fail
    refine (same_k _ _ _ _ _ _ _ (put n) (put n) HL1.out HL2.out (put_bys n) (put_bys n) HY2.out HY3.out true (decide_eq_true rfl)).mono ?_
    rintro e w4 ⟨rfl, rfl⟩
    go_wp2_with fail
    go_ret
    exact ⟨rfl, (hb1.trans (hb2.mono hb1.size)).trans (hb3.mono (Nat.le_trans hb1.size hb2.size))⟩

set_option maxRecDepth 100000 in
set_option maxHeartbeats 800000 in
theorem order_ii (n m : Int) (w : World) (hn : n < 0 ∨ 2147483647 < n) (hm : m < 0 ∨ 2147483647 < m) (hne : n ≠ m) :
    Calls Try.prog 3 #[.int .i64 n, .int .i64 m] w fun e w' => e = .returned (.bool true) ∧ Below w.heap.size w w' := by
  have hk1 : sizeN n = 0 := sizeN_none n hn
  have hk2 : sizeN m = 0 := sizeN_none m hm
  have HL1 := Lib.hid ((put_length n).trans hk1)
  have HL2 := Lib.hid ((put_length m).trans hk2)
  have HK1 := Lib.hid hk1
  have HK2 := Lib.hid hk2
  clear hk1 hk2
  have hnm : (n != m) = true := by rw [bne_iff_ne]; omega
  have hnm2 : (n == m) = false := beq_eq_false_iff_ne.2 (by omega)
  clear hne
  obtain ⟨x1, x2⟩ | ⟨x1, x2⟩ : (n < 0 ∧ ¬ 2147483647 < n) ∨ (¬ n < 0 ∧ 2147483647 < n) := by omega
  all_goals
    go_enter Try.func3, Try.ntmps3
    go_wp2_with fail
    refine (awake_any _).mono ?_
    rintro e w1 ⟨rfl, hb1⟩
    go_wp2_with fail
    refine (number_k _ _ _ HL1.out).mono ?_
    rintro e w2 ⟨a2, cap2, rfl, hy2, hc2, hb2⟩
    go_wp2_with fail
    refine (number_k _ _ _ HL2.out).mono ?_
    rintro e w3 ⟨a3, cap3, rfl, hy3, hc3, hb3⟩
    have hy2' := hy2.below hb3
    have HY2 := Lib.hid hy2'
    have HY3 := Lib.hid hy3
    clear hy2 hy2' hy3
    go_wp2_with fail
    refine (size_k _ _ _ HK1.out).mono ?_
    rintro e w4 ⟨rfl, rfl⟩
    go_wp2_with fail
    refine (size_k _ _ _ HK2.out).mono ?_
    rintro e w4 ⟨rfl, rfl⟩
    go_wp2_with fail
    go_ret
    exact ⟨rfl, (hb1.trans (hb2.mono hb1.size)).trans (hb3.mono (Nat.le_trans hb1.size hb2.size))⟩

set_option maxRecDepth 100000 in
set_option maxHeartbeats 800000 in
theorem order_vi (n m : Int) (w : World) (hn0 : 0 ≤ n) (hn1 : n ≤ 2147483647) (hm : m < 0 ∨ 2147483647 < m) (hne : n ≠ m) :
    Calls Try.prog 3 #[.int .i64 n, .int .i64 m] w fun e w' => e = .returned (.bool true) ∧ Below w.heap.size w w' := by
  obtain ⟨k1, hk1⟩ : ∃ k, sizeN n = k := ⟨_, rfl⟩
  have pk1 := sizeN_pos n (by omega) (by omega)
  rw [hk1] at pk1
  obtain ⟨pk1a, pk1b⟩ := pk1
  have zk10 : ((k1 : Int) == 0) = false := beq_eq_false_iff_ne.2 (by omega)
  have zk11 : (k1 == 0) = false := beq_eq_false_iff_ne.2 (by omega)
  have zk12 : decide (k1 = 0) = false := decide_eq_false (by omega)
  have hk2 : sizeN m = 0 := sizeN_none m hm
  have HL1 := Lib.hid ((put_length n).trans hk1)
  have HL2 := Lib.hid ((put_length m).trans hk2)
  have HK1 := Lib.hid hk1
  have HK2 := Lib.hid hk2
  clear hk1 hk2
  have hnm : (n != m) = true := by rw [bne_iff_ne]; omega
  have hnm2 : (n == m) = false := beq_eq_false_iff_ne.2 (by omega)
  clear hne
  all_goals
    go_enter Try.func3, Try.ntmps3
    go_wp2_with fail
    refine (awake_any _).mono ?_
    rintro e w1 ⟨rfl, hb1⟩
    go_wp2_with fail
    refine (number_k _ _ _ HL1.out).mono ?_
    rintro e w2 ⟨a2, cap2, rfl, hy2, hc2, hb2⟩
    go_wp2_with fail
    refine (number_k _ _ _ HL2.out).mono ?_
    rintro e w3 ⟨a3, cap3, rfl, hy3, hc3, hb3⟩
    have hy2' := hy2.below hb3
    have HY2 := Lib.hid hy2'
    have HY3 := Lib.hid hy3
    clear hy2 hy2' hy3
    go_wp2_with fail
    refine (size_k _ _ _ HK1.out).mono ?_
    rintro e w4 ⟨rfl, rfl⟩
    go_wp2_with fail
    refine (size_k _ _ _ HK2.out).mono ?_
    rintro e w4 ⟨rfl, rfl⟩
    go_wp2_with fail
    go_ret
    exact ⟨rfl, (hb1.trans (hb2.mono hb1.size)).trans (hb3.mono (Nat.le_trans hb1.size hb2.size))⟩

set_option maxRecDepth 100000 in
set_option maxHeartbeats 800000 in
theorem order_iv (n m : Int) (w : World) (hn : n < 0 ∨ 2147483647 < n) (hm0 : 0 ≤ m) (hm1 : m ≤ 2147483647) (hne : n ≠ m) :
    Calls Try.prog 3 #[.int .i64 n, .int .i64 m] w fun e w' => e = .returned (.bool true) ∧ Below w.heap.size w w' := by
  have hk1 : sizeN n = 0 := sizeN_none n hn
  obtain ⟨k2, hk2⟩ : ∃ k, sizeN m = k := ⟨_, rfl⟩
  have pk2 := sizeN_pos m (by omega) (by omega)
  rw [hk2] at pk2
  obtain ⟨pk2a, pk2b⟩ := pk2
  have zk20 : ((k2 : Int) == 0) = false := beq_eq_false_iff_ne.2 (by omega)
  have zk21 : (k2 == 0) = false := beq_eq_false_iff_ne.2 (by omega)
  have zk22 : decide (k2 = 0) = false := decide_eq_false (by omega)
  have HL1 := Lib.hid ((put_length n).trans hk1)
  have HL2 := Lib.hid ((put_length m).trans hk2)
  have HK1 := Lib.hid hk1
  have HK2 := Lib.hid hk2
  clear hk1 hk2
  have hnm : (n != m) = true := by rw [bne_iff_ne]; omega
  have hnm2 : (n == m) = false := beq_eq_false_iff_ne.2 (by omega)
  clear hne
  obtain ⟨x1, x2⟩ | ⟨x1, x2⟩ : (n < 0 ∧ ¬ 2147483647 < n) ∨ (¬ n < 0 ∧ 2147483647 < n) := by omega
  all_goals
    go_enter Try.func3, Try.ntmps3
    go_wp2_with fail
    refine (awake_any _).mono ?_
    rintro e w1 ⟨rfl, hb1⟩
    go_wp2_with fail
    refine (number_k _ _ _ HL1.out).mono ?_
    rintro e w2 ⟨a2, cap2, rfl, hy2, hc2, hb2⟩
    go_wp2_with fail
    refine (number_k _ _ _ HL2.out).mono ?_
    rintro e w3 ⟨a3, cap3, rfl, hy3, hc3, hb3⟩
    have hy2' := hy2.below hb3
    have HY2 := Lib.hid hy2'
    have HY3 := Lib.hid hy3
    clear hy2 hy2' hy3
    go_wp2_with fail
    refine (size_k _ _ _ HK1.out).mono ?_
    rintro e w4 ⟨rfl, rfl⟩
    go_wp2_with fail
    refine (size_k _ _ _ HK2.out).mono ?_
    rintro e w4 ⟨rfl, rfl⟩
    go_wp2_with fail
    go_ret
    exact ⟨rfl, (hb1.trans (hb2.mono hb1.size)).trans (hb3.mono (Nat.le_trans hb1.size hb2.size))⟩


/-- the law's call, at any two numbers -/
theorem order_any (n m : Int) (w : World) : Calls Try.prog 3 #[.int .i64 n, .int .i64 m] w fun e w' => e = .returned (.bool true) ∧ Below w.heap.size w w' := by
  by_cases hn : n < 0 ∨ 2147483647 < n
  · by_cases e : n = m
    · subst e; exact order_eqi n w hn
    · by_cases hm : m < 0 ∨ 2147483647 < m
      · exact order_ii n m w hn hm e
      · exact order_iv n m w hn (by omega) (by omega) e
  · by_cases e : n = m
    · subst e; exact order_eqv n w (by omega) (by omega)
    · by_cases hm : m < 0 ∨ 2147483647 < m
      · exact order_vi n m w (by omega) (by omega) hm e
      · by_cases hlt : n < m
        · by_cases hk : sizeN n = sizeN m
          · exact order_eqk n m w (by omega) hlt (by omega) _ rfl hk.symm
          · exact order_ltk n m w (by omega) hlt (by omega) _ _ rfl rfl (by have := put_sizes n m (by omega) hlt (by omega); omega)
        · exact order_gtv n m w (by omega) (by omega) (by omega) (by omega) (by omega)

end Go.Proofs.Ytkfhljggdcajpaa
