/-
  The law RatioKnown's walk.
-/
import Derived.Test.YtdcaklonhbiejaaMean
import Derived.Test.YtdcaklonhbiejaaOrders
import Derived.Test.YtdcaklonhbiejaaParts
namespace Go.Proofs.Ytdcaklonhbiejaa
open Go.Shelf Go.RowKit Go.Lib Go.Sort

/-- Part(0, 0): a NaN that is drawn -/
theorem part_none (w : World) : Calls Try.prog 19 #[.int .i64 0, .int .i64 0] w fun e w' => ∃ r, e = .returned (.float .f64 r) ∧ isn r = true ∧ Below w.heap.size w w' := by
  obtain ⟨r, h1, h2⟩ := run_none .quo rfl (floatOfInt .f64 0) (floatOfInt .f64 0) (by kernel_rfl) w
  have H2 := Lib.hid h2
  clear h2
  go_enter Try.func19, Try.ntmps19
  go_wp2
  go_ret
  exact ⟨r, rfl, H2.out, (Below.refl _ _).drew⟩

/-- Part(-1, 0) -/
theorem part_minf (w : World) : Calls Try.prog 19 #[.int .i64 (-1), .int .i64 0] w fun e w' => e = .returned (.float .f64 18442240474082181120) ∧ w = w' :=
  part_run (-1) 0 18442240474082181120 (by kernel_rfl) w

theorem wait_minf (w : World) : Calls Try.prog 20 #[.float .f64 18442240474082181120, .float .f64 0] w fun e w' => e = .returned (.int .i64 2) ∧ w = w' := by
  have h1 : ∀ w, (binOp .mul 22 (.float .f64 4616189618054758400) (.float .f64 0)).run Try.prog w = .ok (.float .f64 0) w := fun w => run_float_arith w .mul 22 .f64 _ _ _ (by kernel_rfl)
  have h2 : ∀ w, (binOp .add 22 (.float .f64 18442240474082181120) (.float .f64 0)).run Try.prog w = .ok (.float .f64 18442240474082181120) w := fun w => run_float_arith w .add 22 .f64 _ _ _ (by kernel_rfl)
  have h3 : FloatKind.f64.format.order 18442240474082181120 18442240474082181120 = some .eq := by kernel_rfl
  have h4 : FloatKind.f64.format.order 18442240474082181120 4633641066610819072 = some .lt := by kernel_rfl
  have h5 : FloatKind.f64.format.order 18442240474082181120 4611686018427387904 = some .lt := by kernel_rfl
  go_enter Try.func20, Try.ntmps20
  go_wp2
  go_ret
  exact ⟨rfl, rfl⟩

theorem wait_zero (w : World) : Calls Try.prog 20 #[.float .f64 0, .float .f64 0] w fun e w' => e = .returned (.int .i64 2) ∧ w = w' := by
  have h1 : ∀ w, (binOp .mul 22 (.float .f64 4616189618054758400) (.float .f64 0)).run Try.prog w = .ok (.float .f64 0) w := fun w => run_float_arith w .mul 22 .f64 _ _ _ (by kernel_rfl)
  have h2 : ∀ w, (binOp .add 22 (.float .f64 0) (.float .f64 0)).run Try.prog w = .ok (.float .f64 0) w := fun w => run_float_arith w .add 22 .f64 _ _ _ (by kernel_rfl)
  have h3 : FloatKind.f64.format.order 0 0 = some .eq := by kernel_rfl
  have h4 : FloatKind.f64.format.order 0 4633641066610819072 = some .lt := by kernel_rfl
  have h5 : FloatKind.f64.format.order 0 4611686018427387904 = some .lt := by kernel_rfl
  go_enter Try.func20, Try.ntmps20
  go_wp2
  go_ret
  exact ⟨rfl, rfl⟩

theorem wait_most (w : World) : Calls Try.prog 20 #[.float .f64 4633711435354996736, .float .f64 0] w fun e w' => e = .returned (.int .i64 60) ∧ w = w' := by
  have h1 : ∀ w, (binOp .mul 22 (.float .f64 4616189618054758400) (.float .f64 0)).run Try.prog w = .ok (.float .f64 0) w := fun w => run_float_arith w .mul 22 .f64 _ _ _ (by kernel_rfl)
  have h2 : ∀ w, (binOp .add 22 (.float .f64 4633711435354996736) (.float .f64 0)).run Try.prog w = .ok (.float .f64 4633711435354996736) w := fun w => run_float_arith w .add 22 .f64 _ _ _ (by kernel_rfl)
  have h3 : FloatKind.f64.format.order 4633711435354996736 4633711435354996736 = some .eq := by kernel_rfl
  have h4 : FloatKind.f64.format.order 4633711435354996736 4633641066610819072 = some .gt := by kernel_rfl
  go_enter Try.func20, Try.ntmps20
  go_wp2
  go_ret
  exact ⟨rfl, rfl⟩

theorem wait_nan (w : World) : Calls Try.prog 20 #[.float .f64 9221120237041090561, .float .f64 0] w fun e w' => e = .returned (.int .i64 60) ∧ Below w.heap.size w w' := by
  obtain ⟨T, hT⟩ : ∃ T : Nat, T = 1074 := ⟨_, rfl⟩
  obtain ⟨n, hn, hw⟩ := wait_any T hT 9221120237041090561 0
  have e : n = 60 := by
    rcases hn with ⟨_, h⟩ | ⟨_, _, _, h⟩ | ⟨p, x, _, h, _⟩
    · exact h
    · exact h
    · rw [add_nan1 p (show isn 9221120237041090561 = true by decide +kernel)] at h
      cases h
  rw [e] at hw
  exact hw w

def kxs : List Nat := [4607182418800017408, 9221120237041090561, 4613937818241073152, 9223372036854775808, 0]
theorem kxs_len : kxs.length = 5 := rfl
theorem kxs_placed : Placed kxs [2, 0, 3, 4, 1] := by
  have h1 : ∀ j : Fin 5, ∀ i : Fin 5, i.val < j.val → rkn kxs (([2, 0, 3, 4, 1] : List Nat).getD i.val 0) < rkn kxs (([2, 0, 3, 4, 1] : List Nat).getD j.val 0) := by decide +kernel
  have h2 : ∀ i : Fin 5, ([2, 0, 3, 4, 1] : List Nat).getD i.val 0 < 5 := by decide
  have h3 : ∀ p : Fin 5, ∃ i : Fin 5, ([2, 0, 3, 4, 1] : List Nat).getD i.val 0 = p.val := by decide
  refine ⟨rfl, fun i hi => ?_, fun i j hij hj => ?_, fun p hp => ?_⟩
  · rw [kxs_len] at hi ⊢; exact h2 ⟨i, hi⟩
  · rw [kxs_len] at hj; exact h1 ⟨j, hj⟩ ⟨i, by omega⟩ hij
  · rw [kxs_len] at hp ⊢
    obtain ⟨i, e⟩ := h3 ⟨p, hp⟩
    exact ⟨i.val, i.isLt, e⟩

theorem korder (w : World) (a : Option Addr) (cap : Nat) (h : FloatsAt w a kxs) :
    Calls Try.prog 22 #[.slice a 5 cap] w fun e w' => ∃ oa oc, e = .returned (.slice oa 5 oc) ∧ IntsAt w' oa [2, 0, 3, 4, 1] ∧ Below w.heap.size w w' := by
  refine (order_any w a cap kxs h (by rw [kxs_len]; omega)).mono ?_
  rintro e w' ⟨v, ps, rfl, hps, hown, hb⟩
  have e : ps = [2, 0, 3, 4, 1] := placed_unique hps kxs_placed
  subst e
  obtain ⟨oa, oc, rfl, h⟩ := hown.at
  exact ⟨oa, oc, rfl, h, hb⟩

theorem ints_lit (w : World) (xs : List Int) : IntsAt (w.alloc (.cells (xs.map (Value.int .i64)).toArray 3)) (some ⟨w.heap.size, 0, none⟩) xs := by
  refine .inr ⟨w.heap.size, 0, rfl, by simp, fun i hi => ?_⟩
  rw [cell_of_row _ _ _ _ _ _ (heap_alloc_new w _)]
  simp [List.getD, hi]

set_option maxHeartbeats 3000000 in
set_option maxRecDepth 1000000 in
theorem known_law (w : World) : Calls Try.prog 7 #[] w fun e w' => e = .returned (.bool true) ∧ Below w.heap.size w w' := by
  have neg : Op.unary .neg (.float .f64 9218868437227405312) = pure (.float .f64 18442240474082181120) := by kernel_rfl
  have o1 : FloatKind.f64.format.order 18442240474082181120 18442240474082181120 = some .eq := by kernel_rfl
  have o2 : FloatKind.f64.format.order 4619567317775286272 4619567317775286272 = some .eq := by kernel_rfl
  have o3 : FloatKind.f64.format.order 9218868437227405312 9218868437227405312 = some .eq := by kernel_rfl
  have o4 : FloatKind.f64.format.order 4615063718147915776 4615063718147915776 = some .eq := by kernel_rfl
  have o5 : FloatKind.f64.format.order 4616189618054758400 4616189618054758400 = some .eq := by kernel_rfl
  go_enter Try.func7, Try.ntmps7
  go_wp2_with fail
  refine (part_none _).mono ?_
  rintro e w1 ⟨r, rfl, hr, hb1⟩
  have hi := isnan_any r w1
  rw [hr] at hi
  go_wp2_with fail
  refine hi.mono ?_
  rintro e w' ⟨rfl, rfl⟩
  clear hi hr
  go_wp2_with fail
  refine (part_minf _).mono ?_
  rintro e w' ⟨rfl, rfl⟩
  go_wp2_with fail
  refine (inf_any _).mono ?_
  rintro e w' ⟨rfl, rfl⟩
  go_wp2_with fail
  refine (before_any _ _ _).mono ?_
  rintro e w' ⟨rfl, rfl⟩
  rw [show bef 4611686018427387904 4607182418800017408 = true by decide +kernel]
  go_wp2_with fail
  refine (nan_any _).mono ?_
  rintro e w' ⟨rfl, rfl⟩
  go_wp2_with fail
  refine (before_any _ _ _).mono ?_
  rintro e w' ⟨rfl, rfl⟩
  rw [show bef 9221120237041090561 4607182418800017408 = false by decide +kernel]
  go_wp2_with fail
  refine (zero_any _).mono ?_
  rintro e w' ⟨rfl, rfl⟩
  go_wp2_with fail
  refine (before_any _ _ _).mono ?_
  rintro e w' ⟨rfl, rfl⟩
  rw [show bef 0 9223372036854775808 = false by decide +kernel]
  go_wp2_with fail
  refine (inf_any _).mono ?_
  rintro e w' ⟨rfl, rfl⟩
  go_wp2_with fail
  refine (before_any _ _ _).mono ?_
  rintro e w' ⟨rfl, rfl⟩
  rw [show bef 9218868437227405312 4617315517961601024 = true by decide +kernel]
  have HB1 := Lib.hid hb1
  clear hb1
  -- two
  go_wp2_with fail
  refine (nan_any _).mono ?_
  rintro e w' ⟨rfl, rfl⟩
  go_wp2_with fail
  refine (nan_any _).mono ?_
  rintro e w' ⟨rfl, rfl⟩
  go_wp2_with fail
  refine (pick_m _ _ _ 2 [9221120237041090561, 9221120237041090561] rfl (floats_lit w1 [9221120237041090561, 9221120237041090561]) (by decide)).mono ?_
  rintro e w' ⟨rfl, rfl⟩
  rw [show pickTo [9221120237041090561, 9221120237041090561] 2 = 0 by decide +kernel]
  obtain ⟨w2, hw2⟩ : ∃ w2, w1.alloc (.cells (([9221120237041090561, 9221120237041090561] : List Nat).map (Value.float .f64)).toArray 22) = w2 := ⟨_, rfl⟩
  have hb2 : Below w.heap.size w w2 := by rw [← hw2]; exact HB1.out.alloc HB1.out.size _
  rw [hw2]
  have HB2 := Lib.hid hb2
  clear hw2 hb2 HB1
  go_wp2_with fail
  refine (pick_m _ _ _ 0 [] rfl (.inl rfl) (by decide)).mono ?_
  rintro e w' ⟨rfl, rfl⟩
  rw [show pickTo [] 0 = -1 from rfl]
  go_wp2_with fail
  refine (nan_any _).mono ?_
  rintro e w' ⟨rfl, rfl⟩
  go_wp2_with fail
  refine (zero_any _).mono ?_
  rintro e w' ⟨rfl, rfl⟩
  go_wp2_with fail
  refine (korder _ _ _ (floats_lit w2 kxs)).mono ?_
  rintro e w3 ⟨oa, oc, rfl, ho, hb3⟩
  have hb23 : Below w.heap.size w w3 := (HB2.out.alloc HB2.out.size _).trans (hb3.mono (by have := HB2.out.size; simp; omega))
  have HB3 := Lib.hid hb23
  have HO := Lib.hid ho
  clear hb3 hb23 ho HB2
  go_wp2_with fail
  refine (same_ints _ oa _ oc _ [2, 0, 3, 4, 1] (HO.out.below ((Below.refl _ _).alloc (Nat.le_refl _) _)) (ints_lit w3 [2, 0, 3, 4, 1]) (by decide)).mono ?_
  rintro e w4 ⟨rfl, q4, hq4⟩
  have hb4 : Below w.heap.size w w4 := by
    rw [hq4]
    exact below_drewN (HB3.out.alloc HB3.out.size _) q4
  have HB4 := Lib.hid hb4
  clear hb4 hq4 HB3 HO
  -- three
  go_wp2_with fail
  refine (nan_any _).mono ?_
  rintro e w' ⟨rfl, rfl⟩
  go_wp2_with fail
  refine (mean_any _ _ _ _).mono ?_
  rintro e w5 ⟨rfl, hb5⟩
  rw [show meanv 9221120237041090561 4619567317775286272 4602678819172646912 = 4619567317775286272 by decide +kernel]
  have HB5 := Lib.hid (HB4.out.trans (hb5.mono HB4.out.size))
  clear hb5 HB4
  go_wp2_with fail
  refine (nan_any _).mono ?_
  rintro e w' ⟨rfl, rfl⟩
  go_wp2_with fail
  refine (mean_any _ _ _ _).mono ?_
  rintro e w6 ⟨rfl, hb6⟩
  rw [show meanv 4619567317775286272 9221120237041090561 4602678819172646912 = 4619567317775286272 by decide +kernel]
  have HB6 := Lib.hid (HB5.out.trans (hb6.mono HB5.out.size))
  clear hb6 HB5
  go_wp2_with fail
  refine (inf_any _).mono ?_
  rintro e w' ⟨rfl, rfl⟩
  go_wp2_with fail
  refine (inf_any _).mono ?_
  rintro e w' ⟨rfl, rfl⟩
  go_wp2_with fail
  refine (mean_any _ _ _ _).mono ?_
  rintro e w7 ⟨rfl, hb7⟩
  rw [show meanv 9218868437227405312 9218868437227405312 4602678819172646912 = 9218868437227405312 by decide +kernel]
  have HB7 := Lib.hid (HB6.out.trans (hb7.mono HB6.out.size))
  clear hb7 HB6
  go_wp2_with fail
  refine (inf_any _).mono ?_
  rintro e w' ⟨rfl, rfl⟩
  go_wp2_with fail
  refine (spread_lit 4607182418800017408 4621819117588971520 4616189618054758400 4602678819172646912 13841813454723219456 4618441417868443648 4615063718147915776 (by decide +kernel) (by decide +kernel) (by decide +kernel) _).mono ?_
  rintro e w8 ⟨rfl, hb8⟩
  have HB8 := Lib.hid (HB7.out.trans (hb8.mono HB7.out.size))
  clear hb8 HB7
  go_wp2_with fail
  refine (nan_any _).mono ?_
  rintro e w' ⟨rfl, rfl⟩
  go_wp2_with fail
  refine (spread_lit 9221120237041090561 4621819117588971520 4624070917402656768 4602678819172646912 4616189618054758400 4616189618054758400 4616189618054758400 (by decide +kernel) (by decide +kernel) (by decide +kernel) _).mono ?_
  rintro e w9 ⟨rfl, hb9⟩
  have HB9 := Lib.hid (HB8.out.trans (hb9.mono HB8.out.size))
  clear hb9 HB8
  go_wp2_with fail
  refine (awake_any _).mono ?_
  rintro e w10 ⟨rfl, hb10⟩
  have HB10 := Lib.hid (HB9.out.trans (hb10.mono HB9.out.size))
  clear hb10 HB9
  go_wp2_with fail
  refine (inf_any _).mono ?_
  rintro e w' ⟨rfl, rfl⟩
  go_wp2_with fail
  refine (wait_minf _).mono ?_
  rintro e w' ⟨rfl, rfl⟩
  go_wp2_with fail
  refine (nan_any _).mono ?_
  rintro e w' ⟨rfl, rfl⟩
  go_wp2_with fail
  refine (wait_nan _).mono ?_
  rintro e w11 ⟨rfl, hb11⟩
  have HB11 := Lib.hid (HB10.out.trans (hb11.mono HB10.out.size))
  clear hb11 HB10
  go_wp2_with fail
  refine (wait_most _).mono ?_
  rintro e w' ⟨rfl, rfl⟩
  go_wp2_with fail
  refine (wait_zero _).mono ?_
  rintro e w' ⟨rfl, rfl⟩
  go_wp2_with fail
  go_ret
  exact ⟨rfl, HB11.out⟩

end Go.Proofs.Ytdcaklonhbiejaa
