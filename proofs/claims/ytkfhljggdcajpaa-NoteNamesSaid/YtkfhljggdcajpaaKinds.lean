/-
  NoteKinds: the walk.
-/
import Derived.Test.YtkfhljggdcajpaaAwn
import Derived.Deep.RegionHeld3
namespace Go.Proofs.Ytkfhljggdcajpaa
open Go.RowKit Go.Sort

theorem agents_k (kind : Int) (w : World) (b : Bool) (hb : (decide (1 ≤ kind) && decide (kind ≤ 15)) = b) : Calls Try.prog 63 #[.int .i64 kind] w fun e w' => e = .returned (.bool b) ∧ w = w' :=
  (agents_any kind w).mono fun _ _ ⟨h1, h2⟩ => ⟨by rw [h1, hb], h2.symm⟩

theorem name_below (kind : Int) (w : World) (S : Shape) (hS : shapeAt kind = S) : Calls Try.prog 64 #[.int .i64 kind] w fun e w' => e = .returned (.string ⟨S.name.toArray⟩) ∧ Below w.heap.size w w' := by
  subst hS
  exact (name_any kind w).mono fun _ _ ⟨h1, p, h2⟩ => ⟨h1, by rw [h2]; exact below_grow _ _ _⟩

set_option maxRecDepth 1000000 in
set_option maxHeartbeats 2000000 in
theorem kinds_any (kind : Int) (w : World) : Calls Try.prog 13 #[.int .i64 kind] w fun e w' => e = .returned (.bool true) ∧ Below w.heap.size w w' := by
  obtain ⟨S, hS⟩ : ∃ S, shapeAt kind = S := ⟨_, rfl⟩
  have hof := of_ref_any kind w
  rw [hS, shapeOf] at hof
  have Hof := Lib.hid hof
  have Hnm := Lib.hid (fun W => name_below kind W S hS)
  clear hof hS
  go_enter Try.func13, Try.ntmps13
  go_wp2_with fail
  refine Hof.out.mono ?_
  rintro e w1 ⟨rfl, hB⟩
  have HB := Lib.hid (hB.alloc hB.size (.cells #[.string ⟨S.name.toArray⟩, .int .i64 S.n, .int .i64 S.ns, .int .i64 S.i, .int .i64 S.is, .int .i64 S.least, .int .i64 S.most] 83))
  have d0 : (w1.alloc (.cells #[.string ⟨S.name.toArray⟩, .int .i64 S.n, .int .i64 S.ns, .int .i64 S.i, .int .i64 S.is, .int .i64 S.least, .int .i64 S.most] 83)).drew.cell? ⟨w1.heap.size, 0, none⟩ = some (.string ⟨S.name.toArray⟩) := by
    rw [cell_of_row _ _ _ _ _ _ (row_drew (heap_alloc_new w1 _))]; rfl
  have lp3 : w1.heap.size < (w1.alloc (.cells #[.string ⟨S.name.toArray⟩, .int .i64 S.n, .int .i64 S.ns, .int .i64 S.i, .int .i64 S.is, .int .i64 S.least, .int .i64 S.most] 83)).heap.size := by simp
  clear hB Hof
  by_cases h1 : kind < 1
  · rw [show (decide (1 ≤ kind) && decide (kind ≤ 24)) = false by simp <;> omega]
    go_wp2_with fail
    generalize w1.alloc (.cells #[.string ⟨S.name.toArray⟩, .int .i64 S.n, .int .i64 S.ns, .int .i64 S.i, .int .i64 S.is, .int .i64 S.least, .int .i64 S.most] 83) = w2 at *
    generalize w1.heap.size = p3 at *
    refine wp_region_held_drew (S := fun w' => w'.cell? ⟨p3, 0, none⟩ = some (.string ⟨S.name.toArray⟩)) mixed d0 (fun hS => ?_)
    refine wpAnyH_take (i := 0) (v := .int .i64 kind) rfl (by kernel_rfl) (by kernel_rfl) (by kernel_rfl) (fun c a w h => h) (.inl ⟨rfl, fun w hw => by simp [go_sem]⟩) hS ?_
    refine wpAnyH_take (i := 2) (v := .bool false) rfl (by kernel_rfl) (by kernel_rfl) (by kernel_rfl) (fun c a w h => h) (.inl ⟨rfl, fun w hw => by simp [go_sem]⟩) hS ?_
    refine wpAnyH_all (rs := [1]) (by kernel_rfl) (by simp) (fun i hi => ?_)
    obtain rfl : i = 1 := by simpa using hi
    refine wpOp_step rfl (fun K hK => ?_)
    have HK := Lib.hid hK
    clear hK
    go_simp
    refine (agents_k kind _ false (by simp <;> omega)).mono ?_
    rintro e w4 ⟨rfl, rfl⟩
    with_reducible refine HK.out _ _ ⟨hS, ?_⟩
    clear HK
    refine wpAnyH_all (rs := [3]) (by kernel_rfl) (by simp) (fun i hi => ?_)
    obtain rfl : i = 3 := by simpa using hi
    refine wpOp_step rfl (fun K hK => ?_)
    have HK := Lib.hid hK
    clear hK
    go_simp
    with_reducible refine HK.out _ _ ⟨hS, ?_⟩
    clear HK
    refine wpAnyH_all (rs := [4]) (by kernel_rfl) (by simp) (fun i hi => ?_)
    obtain rfl : i = 4 := by simpa using hi
    refine wpOp_step rfl (fun K hK => ?_)
    have HK := Lib.hid hK
    clear hK
    go_simp
    with_reducible refine HK.out _ _ ⟨hS, ?_⟩
    clear HK
    refine wpAnyH_all (rs := [5]) (by kernel_rfl) (by simp) (fun i hi => ?_)
    obtain rfl : i = 5 := by simpa using hi
    refine wpOp_step rfl (fun K hK => ?_)
    have HK := Lib.hid hK
    clear hK
    go_simp
    with_reducible refine HK.out _ _ ⟨hS, ?_⟩
    clear HK
    refine wpAnyH_all (rs := [6]) (by kernel_rfl) (by simp) (fun i hi => ?_)
    obtain rfl : i = 6 := by simpa using hi
    refine wpOp_step rfl (fun K hK => ?_)
    have HK := Lib.hid hK
    clear hK
    go_simp
    with_reducible refine HK.out _ _ ⟨hS, ?_⟩
    clear HK
    refine wpAnyH_all (rs := [7]) (by kernel_rfl) (by simp) (fun i hi => ?_)
    obtain rfl : i = 7 := by simpa using hi
    refine wpOp_step rfl (fun K hK => ?_)
    have HK := Lib.hid hK
    clear hK
    go_simp
    with_reducible refine HK.out _ _ ⟨hS, ?_⟩
    clear HK
    refine wpAnyH_all (rs := [8]) (by kernel_rfl) (by simp) (fun i hi => ?_)
    obtain rfl : i = 8 := by simpa using hi
    refine wpOp_step rfl (fun K hK => ?_)
    have HK := Lib.hid hK
    clear hK
    go_simp
    with_reducible refine HK.out _ _ ⟨hS, ?_⟩
    clear HK
    refine wpAnyH_take (i := 9) (v := .int .i64 kind) rfl (by kernel_rfl) (by kernel_rfl) (by kernel_rfl) (fun c a w h => h) (.inl ⟨rfl, fun w hw => by simp [go_sem]⟩) hS ?_
    refine wpAnyH_take (i := 11) (v := .pointer (some ⟨p3, 0, none⟩)) rfl (by kernel_rfl) (by kernel_rfl) (by kernel_rfl) (fun c a w h => h) (.inl ⟨rfl, fun w hw => by simp [go_sem]⟩) hS ?_
    refine wpAnyH_take (i := 12) (v := .string ⟨S.name.toArray⟩) rfl (by kernel_rfl) (by kernel_rfl) (by kernel_rfl) (fun c a w h => h) (.inl ⟨rfl, fun w hw => by simp [go_sem, hw]⟩) hS ?_
    refine wpAnyH_all (rs := [10]) (by kernel_rfl) (by simp) (fun i hi => ?_)
    obtain rfl : i = 10 := by simpa using hi
    refine wpOp_step rfl (fun K hK => ?_)
    have HK := Lib.hid hK
    clear hK
    go_simp
    refine (Hnm.out _).mono ?_
    rintro e w5 ⟨rfl, hB5⟩
    have c5 : w5.cell? ⟨p3, 0, none⟩ = some (.string ⟨S.name.toArray⟩) := by rw [hB5.cell (by exact lp3)]; exact hS
    have HB5 := Lib.hid hB5
    have hs5 : w2.heap.size ≤ w5.heap.size := hB5.size
    clear hB5
    with_reducible refine HK.out _ _ ⟨c5, ?_⟩
    clear HK
    refine wpAnyH_all (rs := [13]) (by kernel_rfl) (by simp) (fun i hi => ?_)
    obtain rfl : i = 13 := by simpa using hi
    refine wpOp_step rfl (fun K hK => ?_)
    have HK := Lib.hid hK
    clear hK
    go_simp
    with_reducible refine HK.out _ _ ⟨c5, ?_⟩
    clear HK
    refine wpAnyH_all (rs := [14]) (by kernel_rfl) (by simp) (fun i hi => ?_)
    obtain rfl : i = 14 := by simpa using hi
    refine wpOp_step rfl (fun K hK => ?_)
    have HK := Lib.hid hK
    clear hK
    go_simp
    with_reducible refine HK.out _ _ ⟨c5, ?_⟩
    clear HK
    refine wpAnyH_all (rs := [15]) (by kernel_rfl) (by simp) (fun i hi => ?_)
    obtain rfl : i = 15 := by simpa using hi
    refine wpOp_step rfl (fun K hK => ?_)
    have HK := Lib.hid hK
    clear hK
    go_simp
    with_reducible refine HK.out _ _ ⟨c5, ?_⟩
    clear HK
    refine wpAnyH_all (rs := [16]) (by kernel_rfl) (by simp) (fun i hi => ?_)
    obtain rfl : i = 16 := by simpa using hi
    refine wpOp_step rfl (fun K hK => ?_)
    have HK := Lib.hid hK
    clear hK
    go_simp
    refine (awake10_any _).mono ?_
    rintro e w6 ⟨rfl, hB6⟩
    have c6 : w6.cell? ⟨p3, 0, none⟩ = some (.string ⟨S.name.toArray⟩) := by rw [hB6.cell (by simp only; omega)]; exact c5
    have HB6 := Lib.hid hB6
    clear hB6
    with_reducible refine HK.out _ _ ⟨c6, ?_⟩
    clear HK
    refine wpAnyH_all (rs := [17]) (by kernel_rfl) (by simp) (fun i hi => ?_)
    obtain rfl : i = 17 := by simpa using hi
    refine wpOp_step rfl (fun K hK => ?_)
    have HK := Lib.hid hK
    clear hK
    go_simp
    with_reducible refine HK.out _ _ ⟨c6, ?_⟩
    clear HK
    refine wpAnyH_all (rs := [18]) (by kernel_rfl) (by simp) (fun i hi => ?_)
    obtain rfl : i = 18 := by simpa using hi
    refine wpOp_step rfl (fun K hK => ?_)
    have HK := Lib.hid hK
    clear hK
    go_simp
    with_reducible refine HK.out _ _ ⟨c6, ?_⟩
    clear HK
    refine wpAnyH_done (by kernel_rfl) ?_ _
    go_wp2_with fail
    go_ret
    exact ⟨rfl, (HB.out.trans ((below_drew (Below.refl _ w2)).mono HB.out.size)).trans ((HB5.out.trans (HB6.out.mono HB5.out.size)).mono HB.out.size)⟩
  by_cases h2 : kind ≤ 15
  · rw [show (decide (1 ≤ kind) && decide (kind ≤ 24)) = true by simp <;> omega]
    go_wp2_with fail
    generalize w1.alloc (.cells #[.string ⟨S.name.toArray⟩, .int .i64 S.n, .int .i64 S.ns, .int .i64 S.i, .int .i64 S.is, .int .i64 S.least, .int .i64 S.most] 83) = w2 at *
    generalize w1.heap.size = p3 at *
    have h16 : kind < 16 := by omega
    refine wp_region_held_drew (S := fun w' => w'.cell? ⟨p3, 0, none⟩ = some (.string ⟨S.name.toArray⟩)) mixed d0 (fun hS => ?_)
    refine wpAnyH_take (i := 0) (v := .int .i64 kind) rfl (by kernel_rfl) (by kernel_rfl) (by kernel_rfl) (fun c a w h => h) (.inl ⟨rfl, fun w hw => by simp [go_sem]⟩) hS ?_
    refine wpAnyH_take (i := 2) (v := .bool true) rfl (by kernel_rfl) (by kernel_rfl) (by kernel_rfl) (fun c a w h => h) (.inl ⟨rfl, fun w hw => by simp [go_sem]⟩) hS ?_
    refine wpAnyH_all (rs := [1]) (by kernel_rfl) (by simp) (fun i hi => ?_)
    obtain rfl : i = 1 := by simpa using hi
    refine wpOp_step rfl (fun K hK => ?_)
    have HK := Lib.hid hK
    clear hK
    go_simp
    refine (agents_k kind _ true (by simp <;> omega)).mono ?_
    rintro e w4 ⟨rfl, rfl⟩
    with_reducible refine HK.out _ _ ⟨hS, ?_⟩
    clear HK
    refine wpAnyH_all (rs := [3]) (by kernel_rfl) (by simp) (fun i hi => ?_)
    obtain rfl : i = 3 := by simpa using hi
    refine wpOp_step rfl (fun K hK => ?_)
    have HK := Lib.hid hK
    clear hK
    go_simp
    with_reducible refine HK.out _ _ ⟨hS, ?_⟩
    clear HK
    refine wpAnyH_all (rs := [4]) (by kernel_rfl) (by simp) (fun i hi => ?_)
    obtain rfl : i = 4 := by simpa using hi
    refine wpOp_step rfl (fun K hK => ?_)
    have HK := Lib.hid hK
    clear hK
    go_simp
    with_reducible refine HK.out _ _ ⟨hS, ?_⟩
    clear HK
    refine wpAnyH_all (rs := [5]) (by kernel_rfl) (by simp) (fun i hi => ?_)
    obtain rfl : i = 5 := by simpa using hi
    refine wpOp_step rfl (fun K hK => ?_)
    have HK := Lib.hid hK
    clear hK
    go_simp
    with_reducible refine HK.out _ _ ⟨hS, ?_⟩
    clear HK
    refine wpAnyH_all (rs := [6]) (by kernel_rfl) (by simp) (fun i hi => ?_)
    obtain rfl : i = 6 := by simpa using hi
    refine wpOp_step rfl (fun K hK => ?_)
    have HK := Lib.hid hK
    clear hK
    go_simp
    with_reducible refine HK.out _ _ ⟨hS, ?_⟩
    clear HK
    refine wpAnyH_all (rs := [7]) (by kernel_rfl) (by simp) (fun i hi => ?_)
    obtain rfl : i = 7 := by simpa using hi
    refine wpOp_step rfl (fun K hK => ?_)
    have HK := Lib.hid hK
    clear hK
    go_simp
    with_reducible refine HK.out _ _ ⟨hS, ?_⟩
    clear HK
    refine wpAnyH_all (rs := [8]) (by kernel_rfl) (by simp) (fun i hi => ?_)
    obtain rfl : i = 8 := by simpa using hi
    refine wpOp_step rfl (fun K hK => ?_)
    have HK := Lib.hid hK
    clear hK
    go_simp
    with_reducible refine HK.out _ _ ⟨hS, ?_⟩
    clear HK
    refine wpAnyH_take (i := 9) (v := .int .i64 kind) rfl (by kernel_rfl) (by kernel_rfl) (by kernel_rfl) (fun c a w h => h) (.inl ⟨rfl, fun w hw => by simp [go_sem]⟩) hS ?_
    refine wpAnyH_take (i := 11) (v := .pointer (some ⟨p3, 0, none⟩)) rfl (by kernel_rfl) (by kernel_rfl) (by kernel_rfl) (fun c a w h => h) (.inl ⟨rfl, fun w hw => by simp [go_sem]⟩) hS ?_
    refine wpAnyH_take (i := 12) (v := .string ⟨S.name.toArray⟩) rfl (by kernel_rfl) (by kernel_rfl) (by kernel_rfl) (fun c a w h => h) (.inl ⟨rfl, fun w hw => by simp [go_sem, hw]⟩) hS ?_
    refine wpAnyH_all (rs := [10]) (by kernel_rfl) (by simp) (fun i hi => ?_)
    obtain rfl : i = 10 := by simpa using hi
    refine wpOp_step rfl (fun K hK => ?_)
    have HK := Lib.hid hK
    clear hK
    go_simp
    refine (Hnm.out _).mono ?_
    rintro e w5 ⟨rfl, hB5⟩
    have c5 : w5.cell? ⟨p3, 0, none⟩ = some (.string ⟨S.name.toArray⟩) := by rw [hB5.cell (by exact lp3)]; exact hS
    have HB5 := Lib.hid hB5
    have hs5 : w2.heap.size ≤ w5.heap.size := hB5.size
    clear hB5
    with_reducible refine HK.out _ _ ⟨c5, ?_⟩
    clear HK
    refine wpAnyH_all (rs := [13]) (by kernel_rfl) (by simp) (fun i hi => ?_)
    obtain rfl : i = 13 := by simpa using hi
    refine wpOp_step rfl (fun K hK => ?_)
    have HK := Lib.hid hK
    clear hK
    go_simp
    with_reducible refine HK.out _ _ ⟨c5, ?_⟩
    clear HK
    refine wpAnyH_all (rs := [14]) (by kernel_rfl) (by simp) (fun i hi => ?_)
    obtain rfl : i = 14 := by simpa using hi
    refine wpOp_step rfl (fun K hK => ?_)
    have HK := Lib.hid hK
    clear hK
    go_simp
    with_reducible refine HK.out _ _ ⟨c5, ?_⟩
    clear HK
    refine wpAnyH_all (rs := [15]) (by kernel_rfl) (by simp) (fun i hi => ?_)
    obtain rfl : i = 15 := by simpa using hi
    refine wpOp_step rfl (fun K hK => ?_)
    have HK := Lib.hid hK
    clear hK
    go_simp
    with_reducible refine HK.out _ _ ⟨c5, ?_⟩
    clear HK
    refine wpAnyH_all (rs := [16]) (by kernel_rfl) (by simp) (fun i hi => ?_)
    obtain rfl : i = 16 := by simpa using hi
    refine wpOp_step rfl (fun K hK => ?_)
    have HK := Lib.hid hK
    clear hK
    go_simp
    refine (awake10_any _).mono ?_
    rintro e w6 ⟨rfl, hB6⟩
    have c6 : w6.cell? ⟨p3, 0, none⟩ = some (.string ⟨S.name.toArray⟩) := by rw [hB6.cell (by simp only; omega)]; exact c5
    have HB6 := Lib.hid hB6
    clear hB6
    with_reducible refine HK.out _ _ ⟨c6, ?_⟩
    clear HK
    refine wpAnyH_all (rs := [17]) (by kernel_rfl) (by simp) (fun i hi => ?_)
    obtain rfl : i = 17 := by simpa using hi
    refine wpOp_step rfl (fun K hK => ?_)
    have HK := Lib.hid hK
    clear hK
    go_simp
    with_reducible refine HK.out _ _ ⟨c6, ?_⟩
    clear HK
    refine wpAnyH_all (rs := [18]) (by kernel_rfl) (by simp) (fun i hi => ?_)
    obtain rfl : i = 18 := by simpa using hi
    refine wpOp_step rfl (fun K hK => ?_)
    have HK := Lib.hid hK
    clear hK
    go_simp
    with_reducible refine HK.out _ _ ⟨c6, ?_⟩
    clear HK
    refine wpAnyH_done (by kernel_rfl) ?_ _
    go_wp2_with fail
    go_ret
    exact ⟨rfl, (HB.out.trans ((below_drew (Below.refl _ w2)).mono HB.out.size)).trans ((HB5.out.trans (HB6.out.mono HB5.out.size)).mono HB.out.size)⟩
  by_cases h3 : kind ≤ 24
  · rw [show (decide (1 ≤ kind) && decide (kind ≤ 24)) = true by simp <;> omega]
    go_wp2_with fail
    generalize w1.alloc (.cells #[.string ⟨S.name.toArray⟩, .int .i64 S.n, .int .i64 S.ns, .int .i64 S.i, .int .i64 S.is, .int .i64 S.least, .int .i64 S.most] 83) = w2 at *
    generalize w1.heap.size = p3 at *
    have h16 : ¬ kind < 16 := by omega
    refine wp_region_held_drew (S := fun w' => w'.cell? ⟨p3, 0, none⟩ = some (.string ⟨S.name.toArray⟩)) mixed d0 (fun hS => ?_)
    refine wpAnyH_take (i := 0) (v := .int .i64 kind) rfl (by kernel_rfl) (by kernel_rfl) (by kernel_rfl) (fun c a w h => h) (.inl ⟨rfl, fun w hw => by simp [go_sem]⟩) hS ?_
    refine wpAnyH_take (i := 2) (v := .bool true) rfl (by kernel_rfl) (by kernel_rfl) (by kernel_rfl) (fun c a w h => h) (.inl ⟨rfl, fun w hw => by simp [go_sem]⟩) hS ?_
    refine wpAnyH_all (rs := [1]) (by kernel_rfl) (by simp) (fun i hi => ?_)
    obtain rfl : i = 1 := by simpa using hi
    refine wpOp_step rfl (fun K hK => ?_)
    have HK := Lib.hid hK
    clear hK
    go_simp
    refine (agents_k kind _ false (by simp <;> omega)).mono ?_
    rintro e w4 ⟨rfl, rfl⟩
    with_reducible refine HK.out _ _ ⟨hS, ?_⟩
    clear HK
    refine wpAnyH_all (rs := [3]) (by kernel_rfl) (by simp) (fun i hi => ?_)
    obtain rfl : i = 3 := by simpa using hi
    refine wpOp_step rfl (fun K hK => ?_)
    have HK := Lib.hid hK
    clear hK
    go_simp
    with_reducible refine HK.out _ _ ⟨hS, ?_⟩
    clear HK
    refine wpAnyH_all (rs := [4]) (by kernel_rfl) (by simp) (fun i hi => ?_)
    obtain rfl : i = 4 := by simpa using hi
    refine wpOp_step rfl (fun K hK => ?_)
    have HK := Lib.hid hK
    clear hK
    go_simp
    with_reducible refine HK.out _ _ ⟨hS, ?_⟩
    clear HK
    refine wpAnyH_all (rs := [5]) (by kernel_rfl) (by simp) (fun i hi => ?_)
    obtain rfl : i = 5 := by simpa using hi
    refine wpOp_step rfl (fun K hK => ?_)
    have HK := Lib.hid hK
    clear hK
    go_simp
    with_reducible refine HK.out _ _ ⟨hS, ?_⟩
    clear HK
    refine wpAnyH_all (rs := [6]) (by kernel_rfl) (by simp) (fun i hi => ?_)
    obtain rfl : i = 6 := by simpa using hi
    refine wpOp_step rfl (fun K hK => ?_)
    have HK := Lib.hid hK
    clear hK
    go_simp
    with_reducible refine HK.out _ _ ⟨hS, ?_⟩
    clear HK
    refine wpAnyH_all (rs := [7]) (by kernel_rfl) (by simp) (fun i hi => ?_)
    obtain rfl : i = 7 := by simpa using hi
    refine wpOp_step rfl (fun K hK => ?_)
    have HK := Lib.hid hK
    clear hK
    go_simp
    with_reducible refine HK.out _ _ ⟨hS, ?_⟩
    clear HK
    refine wpAnyH_all (rs := [8]) (by kernel_rfl) (by simp) (fun i hi => ?_)
    obtain rfl : i = 8 := by simpa using hi
    refine wpOp_step rfl (fun K hK => ?_)
    have HK := Lib.hid hK
    clear hK
    go_simp
    with_reducible refine HK.out _ _ ⟨hS, ?_⟩
    clear HK
    refine wpAnyH_take (i := 9) (v := .int .i64 kind) rfl (by kernel_rfl) (by kernel_rfl) (by kernel_rfl) (fun c a w h => h) (.inl ⟨rfl, fun w hw => by simp [go_sem]⟩) hS ?_
    refine wpAnyH_take (i := 11) (v := .pointer (some ⟨p3, 0, none⟩)) rfl (by kernel_rfl) (by kernel_rfl) (by kernel_rfl) (fun c a w h => h) (.inl ⟨rfl, fun w hw => by simp [go_sem]⟩) hS ?_
    refine wpAnyH_take (i := 12) (v := .string ⟨S.name.toArray⟩) rfl (by kernel_rfl) (by kernel_rfl) (by kernel_rfl) (fun c a w h => h) (.inl ⟨rfl, fun w hw => by simp [go_sem, hw]⟩) hS ?_
    refine wpAnyH_all (rs := [10]) (by kernel_rfl) (by simp) (fun i hi => ?_)
    obtain rfl : i = 10 := by simpa using hi
    refine wpOp_step rfl (fun K hK => ?_)
    have HK := Lib.hid hK
    clear hK
    go_simp
    refine (Hnm.out _).mono ?_
    rintro e w5 ⟨rfl, hB5⟩
    have c5 : w5.cell? ⟨p3, 0, none⟩ = some (.string ⟨S.name.toArray⟩) := by rw [hB5.cell (by exact lp3)]; exact hS
    have HB5 := Lib.hid hB5
    have hs5 : w2.heap.size ≤ w5.heap.size := hB5.size
    clear hB5
    with_reducible refine HK.out _ _ ⟨c5, ?_⟩
    clear HK
    refine wpAnyH_all (rs := [13]) (by kernel_rfl) (by simp) (fun i hi => ?_)
    obtain rfl : i = 13 := by simpa using hi
    refine wpOp_step rfl (fun K hK => ?_)
    have HK := Lib.hid hK
    clear hK
    go_simp
    with_reducible refine HK.out _ _ ⟨c5, ?_⟩
    clear HK
    refine wpAnyH_all (rs := [14]) (by kernel_rfl) (by simp) (fun i hi => ?_)
    obtain rfl : i = 14 := by simpa using hi
    refine wpOp_step rfl (fun K hK => ?_)
    have HK := Lib.hid hK
    clear hK
    go_simp
    with_reducible refine HK.out _ _ ⟨c5, ?_⟩
    clear HK
    refine wpAnyH_all (rs := [15]) (by kernel_rfl) (by simp) (fun i hi => ?_)
    obtain rfl : i = 15 := by simpa using hi
    refine wpOp_step rfl (fun K hK => ?_)
    have HK := Lib.hid hK
    clear hK
    go_simp
    with_reducible refine HK.out _ _ ⟨c5, ?_⟩
    clear HK
    refine wpAnyH_all (rs := [16]) (by kernel_rfl) (by simp) (fun i hi => ?_)
    obtain rfl : i = 16 := by simpa using hi
    refine wpOp_step rfl (fun K hK => ?_)
    have HK := Lib.hid hK
    clear hK
    go_simp
    refine (awake10_any _).mono ?_
    rintro e w6 ⟨rfl, hB6⟩
    have c6 : w6.cell? ⟨p3, 0, none⟩ = some (.string ⟨S.name.toArray⟩) := by rw [hB6.cell (by simp only; omega)]; exact c5
    have HB6 := Lib.hid hB6
    clear hB6
    with_reducible refine HK.out _ _ ⟨c6, ?_⟩
    clear HK
    refine wpAnyH_all (rs := [17]) (by kernel_rfl) (by simp) (fun i hi => ?_)
    obtain rfl : i = 17 := by simpa using hi
    refine wpOp_step rfl (fun K hK => ?_)
    have HK := Lib.hid hK
    clear hK
    go_simp
    with_reducible refine HK.out _ _ ⟨c6, ?_⟩
    clear HK
    refine wpAnyH_all (rs := [18]) (by kernel_rfl) (by simp) (fun i hi => ?_)
    obtain rfl : i = 18 := by simpa using hi
    refine wpOp_step rfl (fun K hK => ?_)
    have HK := Lib.hid hK
    clear hK
    go_simp
    with_reducible refine HK.out _ _ ⟨c6, ?_⟩
    clear HK
    refine wpAnyH_done (by kernel_rfl) ?_ _
    go_wp2_with fail
    go_ret
    exact ⟨rfl, (HB.out.trans ((below_drew (Below.refl _ w2)).mono HB.out.size)).trans ((HB5.out.trans (HB6.out.mono HB5.out.size)).mono HB.out.size)⟩
  rw [show (decide (1 ≤ kind) && decide (kind ≤ 24)) = false by simp <;> omega]
  go_wp2_with fail
  generalize w1.alloc (.cells #[.string ⟨S.name.toArray⟩, .int .i64 S.n, .int .i64 S.ns, .int .i64 S.i, .int .i64 S.is, .int .i64 S.least, .int .i64 S.most] 83) = w2 at *
  generalize w1.heap.size = p3 at *
  refine wp_region_held_drew (S := fun w' => w'.cell? ⟨p3, 0, none⟩ = some (.string ⟨S.name.toArray⟩)) mixed d0 (fun hS => ?_)
  refine wpAnyH_take (i := 0) (v := .int .i64 kind) rfl (by kernel_rfl) (by kernel_rfl) (by kernel_rfl) (fun c a w h => h) (.inl ⟨rfl, fun w hw => by simp [go_sem]⟩) hS ?_
  refine wpAnyH_take (i := 2) (v := .bool false) rfl (by kernel_rfl) (by kernel_rfl) (by kernel_rfl) (fun c a w h => h) (.inl ⟨rfl, fun w hw => by simp [go_sem]⟩) hS ?_
  refine wpAnyH_all (rs := [1]) (by kernel_rfl) (by simp) (fun i hi => ?_)
  obtain rfl : i = 1 := by simpa using hi
  refine wpOp_step rfl (fun K hK => ?_)
  have HK := Lib.hid hK
  clear hK
  go_simp
  refine (agents_k kind _ false (by simp <;> omega)).mono ?_
  rintro e w4 ⟨rfl, rfl⟩
  with_reducible refine HK.out _ _ ⟨hS, ?_⟩
  clear HK
  refine wpAnyH_all (rs := [3]) (by kernel_rfl) (by simp) (fun i hi => ?_)
  obtain rfl : i = 3 := by simpa using hi
  refine wpOp_step rfl (fun K hK => ?_)
  have HK := Lib.hid hK
  clear hK
  go_simp
  with_reducible refine HK.out _ _ ⟨hS, ?_⟩
  clear HK
  refine wpAnyH_all (rs := [4]) (by kernel_rfl) (by simp) (fun i hi => ?_)
  obtain rfl : i = 4 := by simpa using hi
  refine wpOp_step rfl (fun K hK => ?_)
  have HK := Lib.hid hK
  clear hK
  go_simp
  with_reducible refine HK.out _ _ ⟨hS, ?_⟩
  clear HK
  refine wpAnyH_all (rs := [5]) (by kernel_rfl) (by simp) (fun i hi => ?_)
  obtain rfl : i = 5 := by simpa using hi
  refine wpOp_step rfl (fun K hK => ?_)
  have HK := Lib.hid hK
  clear hK
  go_simp
  with_reducible refine HK.out _ _ ⟨hS, ?_⟩
  clear HK
  refine wpAnyH_all (rs := [6]) (by kernel_rfl) (by simp) (fun i hi => ?_)
  obtain rfl : i = 6 := by simpa using hi
  refine wpOp_step rfl (fun K hK => ?_)
  have HK := Lib.hid hK
  clear hK
  go_simp
  with_reducible refine HK.out _ _ ⟨hS, ?_⟩
  clear HK
  refine wpAnyH_all (rs := [7]) (by kernel_rfl) (by simp) (fun i hi => ?_)
  obtain rfl : i = 7 := by simpa using hi
  refine wpOp_step rfl (fun K hK => ?_)
  have HK := Lib.hid hK
  clear hK
  go_simp
  with_reducible refine HK.out _ _ ⟨hS, ?_⟩
  clear HK
  refine wpAnyH_all (rs := [8]) (by kernel_rfl) (by simp) (fun i hi => ?_)
  obtain rfl : i = 8 := by simpa using hi
  refine wpOp_step rfl (fun K hK => ?_)
  have HK := Lib.hid hK
  clear hK
  go_simp
  with_reducible refine HK.out _ _ ⟨hS, ?_⟩
  clear HK
  refine wpAnyH_take (i := 9) (v := .int .i64 kind) rfl (by kernel_rfl) (by kernel_rfl) (by kernel_rfl) (fun c a w h => h) (.inl ⟨rfl, fun w hw => by simp [go_sem]⟩) hS ?_
  refine wpAnyH_take (i := 11) (v := .pointer (some ⟨p3, 0, none⟩)) rfl (by kernel_rfl) (by kernel_rfl) (by kernel_rfl) (fun c a w h => h) (.inl ⟨rfl, fun w hw => by simp [go_sem]⟩) hS ?_
  refine wpAnyH_take (i := 12) (v := .string ⟨S.name.toArray⟩) rfl (by kernel_rfl) (by kernel_rfl) (by kernel_rfl) (fun c a w h => h) (.inl ⟨rfl, fun w hw => by simp [go_sem, hw]⟩) hS ?_
  refine wpAnyH_all (rs := [10]) (by kernel_rfl) (by simp) (fun i hi => ?_)
  obtain rfl : i = 10 := by simpa using hi
  refine wpOp_step rfl (fun K hK => ?_)
  have HK := Lib.hid hK
  clear hK
  go_simp
  refine (Hnm.out _).mono ?_
  rintro e w5 ⟨rfl, hB5⟩
  have c5 : w5.cell? ⟨p3, 0, none⟩ = some (.string ⟨S.name.toArray⟩) := by rw [hB5.cell (by exact lp3)]; exact hS
  have HB5 := Lib.hid hB5
  have hs5 : w2.heap.size ≤ w5.heap.size := hB5.size
  clear hB5
  with_reducible refine HK.out _ _ ⟨c5, ?_⟩
  clear HK
  refine wpAnyH_all (rs := [13]) (by kernel_rfl) (by simp) (fun i hi => ?_)
  obtain rfl : i = 13 := by simpa using hi
  refine wpOp_step rfl (fun K hK => ?_)
  have HK := Lib.hid hK
  clear hK
  go_simp
  with_reducible refine HK.out _ _ ⟨c5, ?_⟩
  clear HK
  refine wpAnyH_all (rs := [14]) (by kernel_rfl) (by simp) (fun i hi => ?_)
  obtain rfl : i = 14 := by simpa using hi
  refine wpOp_step rfl (fun K hK => ?_)
  have HK := Lib.hid hK
  clear hK
  go_simp
  with_reducible refine HK.out _ _ ⟨c5, ?_⟩
  clear HK
  refine wpAnyH_all (rs := [15]) (by kernel_rfl) (by simp) (fun i hi => ?_)
  obtain rfl : i = 15 := by simpa using hi
  refine wpOp_step rfl (fun K hK => ?_)
  have HK := Lib.hid hK
  clear hK
  go_simp
  with_reducible refine HK.out _ _ ⟨c5, ?_⟩
  clear HK
  refine wpAnyH_all (rs := [16]) (by kernel_rfl) (by simp) (fun i hi => ?_)
  obtain rfl : i = 16 := by simpa using hi
  refine wpOp_step rfl (fun K hK => ?_)
  have HK := Lib.hid hK
  clear hK
  go_simp
  refine (awake10_any _).mono ?_
  rintro e w6 ⟨rfl, hB6⟩
  have c6 : w6.cell? ⟨p3, 0, none⟩ = some (.string ⟨S.name.toArray⟩) := by rw [hB6.cell (by simp only; omega)]; exact c5
  have HB6 := Lib.hid hB6
  clear hB6
  with_reducible refine HK.out _ _ ⟨c6, ?_⟩
  clear HK
  refine wpAnyH_all (rs := [17]) (by kernel_rfl) (by simp) (fun i hi => ?_)
  obtain rfl : i = 17 := by simpa using hi
  refine wpOp_step rfl (fun K hK => ?_)
  have HK := Lib.hid hK
  clear hK
  go_simp
  with_reducible refine HK.out _ _ ⟨c6, ?_⟩
  clear HK
  refine wpAnyH_all (rs := [18]) (by kernel_rfl) (by simp) (fun i hi => ?_)
  obtain rfl : i = 18 := by simpa using hi
  refine wpOp_step rfl (fun K hK => ?_)
  have HK := Lib.hid hK
  clear hK
  go_simp
  with_reducible refine HK.out _ _ ⟨c6, ?_⟩
  clear HK
  refine wpAnyH_done (by kernel_rfl) ?_ _
  go_wp2_with fail
  go_ret
  exact ⟨rfl, (HB.out.trans ((below_drew (Below.refl _ w2)).mono HB.out.size)).trans ((HB5.out.trans (HB6.out.mono HB5.out.size)).mono HB.out.size)⟩

end Go.Proofs.Ytkfhljggdcajpaa
