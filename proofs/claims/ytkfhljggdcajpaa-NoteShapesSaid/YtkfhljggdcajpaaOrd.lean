/-
  The law FieldOrder: its walk.
-/
import Derived.Test.YtkfhljggdcajpaaRdOpen
import Derived.Test.YtkfhljggdcajpaaPut
namespace Go.Proofs.Ytkfhljggdcajpaa
open Go.RowKit

/-- number, its length under a name -/
theorem number_k (w : World) (n : Int) (k : Nat) (hk : (put n).length = k) :
    Calls Try.prog 17 #[.int .i64 n] w fun e w' => ∃ a cap, e = .returned (.slice a k cap) ∧ BytesAt w' a (put n) ∧ k ≤ cap ∧ Below w.heap.size w w' := by
  subst hk; exact number_any w n

theorem same_k (w : World) (a b : Option Addr) (ca cb k l : Nat) (xs ys : List Int) (hk : xs.length = k) (hl : ys.length = l) (hx : Bys xs) (hy : Bys ys) (ha : BytesAt w a xs) (hb : BytesAt w b ys) (r : Bool) (hr : decide (xs = ys) = r) :
    Calls Try.prog 19 #[.slice a k ca, .slice b l cb] w fun e w' => e = .returned (.bool r) ∧ w = w' := by
  subst hk; subst hl; subst hr; exact same_any w a b ca cb xs ys hx hy ha hb

theorem size_k (n : Int) (k : Nat) (w : World) (h : sizeN n = k) : Calls Try.prog 18 #[.int .i64 n] w fun e w' => e = .returned (.int .i64 k) ∧ w = w' := by
  subst h; exact size_any n w

theorem sizeN_pos (n : Int) (h0 : 0 ≤ n) (h1 : n ≤ 2147483647) : 1 ≤ sizeN n ∧ sizeN n ≤ 5 := by unfold sizeN; (repeat' split) <;> omega
theorem sizeN_none (n : Int) (h : n < 0 ∨ 2147483647 < n) : sizeN n = 0 := by unfold sizeN; rw [if_pos h]

theorem string_k (w : World) (a : Option Addr) (cap k : Nat) (xs : List Int) (h : BytesAt w a xs) (hk : xs.length = k) :
    (convert 23 9 (.slice a k cap)).run Try.prog w = .ok (.string (strOfNums xs)) w := by
  subst hk; exact run_bytes_string w a cap xs h

set_option maxRecDepth 100000 in
set_option maxHeartbeats 800000 in
theorem order_eqk (n m : Int) (w : World) (h0 : 0 ≤ n) (h : n < m) (h1 : m ≤ 2147483647) (k1 : Nat) (hk1 : sizeN n = k1) (hk2 : sizeN m = k1) :
    Calls Try.prog 3 #[.int .i64 n, .int .i64 m] w fun e w' => e = .returned (.bool true) ∧ Below w.heap.size w w' := by
  obtain ⟨p1, p2⟩ := sizeN_pos n h0 (by omega)
  have hge : Op.bytesLess (strOfNums (put n)).toList (strOfNums (put m)).toList = true := (bytesLess_eq _ _ (put_bys n) (put_bys m)).trans (put_less n m h0 h h1 (hk1.trans hk2.symm))
  have hbeg := put_begins n m h0 h h1
  have hl1 := (put_length n).trans hk1
  have hl2 := (put_length m).trans hk2
  rw [hk1] at hbeg p1 p2
  have HK1 := Lib.hid hk1
  have HK2 := Lib.hid hk2
  have HL1 := Lib.hid hl1
  have HL2 := Lib.hid hl2
  have HB := Lib.hid hbeg
  clear hk1 hk2 hl1 hl2 hbeg
  have hz1 : ((k1 : Int) == 0) = false := beq_eq_false_iff_ne.2 (by omega)
  have hz2 : (k1 == 0) = false := beq_eq_false_iff_ne.2 (by omega)
  have hz3 : decide (k1 = 0) = false := decide_eq_false (by omega)
  have hr : decide (put n = (put m).take k1) = false := decide_eq_false HB.out
  have HR := Lib.hid hr
  clear hr
  go_enter Try.func3, Try.ntmps3
  go_wp2_with fail
  refine (awake_any _).mono ?_
  rintro e w1 ⟨rfl, hb1⟩
  go_wp2_with fail
  refine (number_k _ _ _ HL1.out).mono ?_
  rintro e w2 ⟨a2, cap2, rfl, hy2, hc2, hb2⟩
  go_wp2_with fail
  refine (number_k _ _ _ HL2.out).mono ?_
  rintro e w3 ⟨a3, cap3, rfl, hy3, hc3, hb3⟩
  have hy2' := hy2.below hb3
  have s2 := string_k w3 a2 cap2 k1 _ hy2' HL1.out
  have s3 := string_k w3 a3 cap3 k1 _ hy3 HL2.out
  go_wp2_with fail
  refine (size_k _ _ _ HK1.out).mono ?_
  rintro e w4 ⟨rfl, rfl⟩
  go_wp2_with fail
  refine (size_k _ _ _ HK2.out).mono ?_
  rintro e w4 ⟨rfl, rfl⟩
  go_wp2_with fail
  refine (same_k _ _ _ _ _ _ _ (put n) ((put m).take k1) HL1.out (by rw [List.length_take, HL2.out, Nat.min_self]) (put_bys n) ((put_bys m).take _) hy2' (hy3.take _) false HR.out).mono ?_
  rintro e w4 ⟨rfl, rfl⟩
  go_wp2_with fail
  go_ret
  exact ⟨rfl, (hb1.trans (hb2.mono hb1.size)).trans (hb3.mono (Nat.le_trans hb1.size hb2.size))⟩

set_option maxRecDepth 100000 in
set_option maxHeartbeats 800000 in
theorem order_ltk (n m : Int) (w : World) (h0 : 0 ≤ n) (h : n < m) (h1 : m ≤ 2147483647) (k1 k2 : Nat) (hk1 : sizeN n = k1) (hk2 : sizeN m = k2) (hlt : k1 < k2) :
    Calls Try.prog 3 #[.int .i64 n, .int .i64 m] w fun e w' => e = .returned (.bool true) ∧ Below w.heap.size w w' := by
  obtain ⟨p1, p2⟩ := sizeN_pos n h0 (by omega)
  have hbeg := put_begins n m h0 h h1
  have hl1 := (put_length n).trans hk1
  have hl2 := (put_length m).trans hk2
  obtain ⟨q1, q2⟩ := sizeN_pos m (by omega) h1
  rw [hk1] at hbeg p1 p2
  rw [hk2] at q1 q2
  have hne : ((k1 : Int) == (k2 : Int)) = false := beq_eq_false_iff_ne.2 (by omega)
  have hne2 : (k1 == k2) = false := beq_eq_false_iff_ne.2 (by omega)
  have hne3 : decide (k1 = k2) = false := decide_eq_false (by omega)
  have hz4 : ((k2 : Int) == 0) = false := beq_eq_false_iff_ne.2 (by omega)
  have hz5 : (k2 == 0) = false := beq_eq_false_iff_ne.2 (by omega)
  have hz6 : decide (k2 = 0) = false := decide_eq_false (by omega)
  have HK1 := Lib.hid hk1
  have HK2 := Lib.hid hk2
  have HL1 := Lib.hid hl1
  have HL2 := Lib.hid hl2
  have HB := Lib.hid hbeg
  clear hk1 hk2 hl1 hl2 hbeg
  have hz1 : ((k1 : Int) == 0) = false := beq_eq_false_iff_ne.2 (by omega)
  have hz2 : (k1 == 0) = false := beq_eq_false_iff_ne.2 (by omega)
  have hz3 : decide (k1 = 0) = false := decide_eq_false (by omega)
  have hr : decide (put n = (put m).take k1) = false := decide_eq_false HB.out
  have HR := Lib.hid hr
  clear hr
  go_enter Try.func3, Try.ntmps3
  go_wp2_with fail
  refine (awake_any _).mono ?_
  rintro e w1 ⟨rfl, hb1⟩
  go_wp2_with fail
  refine (number_k _ _ _ HL1.out).mono ?_
  rintro e w2 ⟨a2, cap2, rfl, hy2, hc2, hb2⟩
  go_wp2_with fail
  refine (number_k _ _ _ HL2.out).mono ?_
  rintro e w3 ⟨a3, cap3, rfl, hy3, hc3, hb3⟩
  have hy2' := hy2.below hb3
  have s2 := string_k w3 a2 cap2 k1 _ hy2' HL1.out
  have s3 := string_k w3 a3 cap3 k2 _ hy3 HL2.out
  go_wp2_with fail
  refine (size_k _ _ _ HK1.out).mono ?_
  rintro e w4 ⟨rfl, rfl⟩
  go_wp2_with fail
  refine (size_k _ _ _ HK2.out).mono ?_
  rintro e w4 ⟨rfl, rfl⟩
  go_wp2_with fail
  refine (same_k _ _ _ _ _ _ _ (put n) ((put m).take k1) HL1.out (by rw [List.length_take, HL2.out]; omega) (put_bys n) ((put_bys m).take _) hy2' (hy3.take _) false HR.out).mono ?_
  rintro e w4 ⟨rfl, rfl⟩
  go_wp2_with fail
  go_ret
  exact ⟨rfl, (hb1.trans (hb2.mono hb1.size)).trans (hb3.mono (Nat.le_trans hb1.size hb2.size))⟩


end Go.Proofs.Ytkfhljggdcajpaa
