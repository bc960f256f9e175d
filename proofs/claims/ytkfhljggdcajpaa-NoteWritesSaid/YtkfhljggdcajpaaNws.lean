/-
  NoteWrites: the walk.
-/
import Derived.Test.YtkfhljggdcajpaaNwf
import Derived.Test.YtkfhljggdcajpaaNwx
import Derived.Test.YtkfhljggdcajpaaCpy
namespace Go.Proofs.Ytkfhljggdcajpaa
open Go.RowKit Go.Sort

theorem Full.below' {w w' : World} {a : Option Addr} {cap : Nat} {bs : List Int} (h : Full w a cap bs) (hb : Below w.heap.size w w') : Full w' a cap bs := by
  rcases h with h | ⟨g, zs, ha, hr, h1, h2, h3, h4⟩
  · exact .inl h
  · exact .inr ⟨g, zs, ha, hr.below hb, h1, h2, h3, h4⟩

/-- what Bytes tells -/
def outOf (x : Note) : List Int := if x.err = 0 then noteBytes x else []
theorem outOf_bys {x : Note} (hi : Ids x.ids) (hb : Bys x.bs) : Bys (outOf x) := by
  unfold outOf; split
  · exact noteBytes_bys hi hb
  · exact Bys.nil

theorem bytes_full_k (w : World) (x : Note) (aN : Option Addr) (cN : Nat) (aI : Option Addr) (cI : Nat) (aB : Option Addr) (cB : Nat) (h : NoteIn w x aN aI aB) (E : Int) (hE : x.err = E) (ys : List Int) (hy : outOf x = ys) :
    Calls Try.prog 51 #[.agg #[.int .i64 x.kind, .slice aN x.ns.length cN, .slice aI x.ids.length cI, .slice aB x.bs.length cB]] w fun e w' => ∃ a cap, e = .returned (.tuple #[.slice a ys.length cap, .int .i64 E]) ∧ Full w' a cap ys ∧ (∀ k, blk a = some k → w.heap.size ≤ k) ∧ Below w.heap.size w w' := by
  subst hE hy
  refine (bytes_full_any w x aN cN aI cI aB cB h).mono ?_
  rintro e w' ⟨hB, hq⟩
  by_cases he : x.err = 0
  · rw [if_pos he] at hq
    obtain ⟨a, cap, h1, h2, h3⟩ := hq
    have ho : outOf x = noteBytes x := if_pos he
    rw [ho, he]
    exact ⟨a, cap, h1, h2, h3, hB⟩
  · rw [if_neg he] at hq
    have ho : outOf x = [] := if_neg he
    rw [ho]
    exact ⟨none, 0, hq, .inl ⟨rfl, rfl, rfl⟩, (fun k hk => by cases hk), hB⟩

theorem bytes_ref_k (w : World) (x : Note) (aN : Option Addr) (cN : Nat) (aI : Option Addr) (cI : Nat) (aB : Option Addr) (cB : Nat) (h : NoteIn w x aN aI aB) (E : Int) (hE : x.err = E) (ys : List Int) (hy : outOf x = ys) :
    Calls Try.prog 52 #[.agg #[.int .i64 x.kind, .slice aN x.ns.length cN, .slice aI x.ids.length cI, .slice aB x.bs.length cB]] w fun e w' => ∃ a cap, e = .returned (.tuple #[.slice a ys.length cap, .int .i64 E]) ∧ BytesAt w' a ys ∧ Below w.heap.size w w' := by
  subst hE hy
  refine (bytes_ref_any w x aN cN aI cI aB cB h).mono ?_
  rintro e w' ⟨hB, hq⟩
  by_cases he : x.err = 0
  · rw [if_pos he] at hq
    obtain ⟨a, cap, h1, h2, _⟩ := hq
    have ho : outOf x = noteBytes x := if_pos he
    rw [ho, he]
    exact ⟨a, cap, h1, h2.bytes, hB⟩
  · rw [if_neg he] at hq
    have ho : outOf x = [] := if_neg he
    rw [ho]
    exact ⟨none, 0, hq, .inl ⟨rfl, rfl⟩, hB⟩

theorem check_ref_k (w : World) (x : Note) (aN : Option Addr) (cN : Nat) (aI : Option Addr) (cI : Nat) (aB : Option Addr) (cB : Nat) (h : NoteIn w x aN aI aB) (E : Int) (hE : x.err = E) :
    Calls Try.prog 54 #[.agg #[.int .i64 x.kind, .slice aN x.ns.length cN, .slice aI x.ids.length cI, .slice aB x.bs.length cB]] w fun e w' => e = .returned (.int .i64 E) ∧ Below w.heap.size w w' := by
  subst hE
  exact check_ref_any x.kind x.ns x.ids.length x.bs.length aN aI aB cN cI cB w h.ns h.ln

theorem Copied.inn {w : World} {x : Note} {w' : World} {aN : Option Addr} {cN : Nat} {aI : Option Addr} {cI : Nat} {aB : Option Addr} {cB : Nat} (h : Copied w x w' aN cN aI cI aB cB) {bN bI bB : Option Addr} {W : World} (hx : NoteIn W x bN bI bB) : NoteIn w' x aN aI aB :=
  ⟨OwnN.ints h.oN, OwnD.idsAt h.oI hx.wid, .inr h.oB.bytes, hx.wid, hx.wbs, hx.ln, hx.li, hx.lb⟩

set_option maxRecDepth 1000000 in
set_option maxHeartbeats 4000000 in
theorem nwrites_any (w : World) (x : Note) (aN : Option Addr) (cN : Nat) (aI : Option Addr) (cI : Nat) (aB : Option Addr) (cB : Nat) (h : NoteAny w x aN aI aB) :
    Calls Try.prog 8 #[.agg #[.int .i64 x.kind, .slice aN x.ns.length cN, .slice aI x.ids.length cI, .slice aB x.bs.length cB]] w fun e w' => e = .returned (.bool true) ∧ Below w.heap.size w w' := by
  have Hx := Lib.hid h
  have R0 := Lib.hid (heap_alloc_new w (.cells #[.int .i64 x.kind, .slice aN x.ns.length cN, .slice aI x.ids.length cI, .slice aB x.bs.length cB] 69))
  have HB0 := Lib.hid (bel_alloc (.cells #[.int .i64 x.kind, .slice aN x.ns.length cN, .slice aI x.ids.length cI, .slice aB x.bs.length cB] 69) (Below.refl w.heap.size w))
  clear h
  go_enter Try.func8, Try.ntmps8
  go_wp2_with fail
  by_cases hlong : 200 < x.ns.length ∨ 40 < x.ids.length ∨ 2000 < x.bs.length
  · refine (long_any _ _ _ _ _ _ _ _ _ _ _ true (decide_eq_true hlong)).mono ?_
    rintro e w2 ⟨rfl, hB2⟩
    have HB2 := Lib.hid (bel_trans HB0.out hB2)
    clear hB2 hlong
    go_wp2_with fail
    go_ret
    exact ⟨rfl, HB2.out⟩
  · refine (long_any _ _ _ _ _ _ _ _ _ _ _ false (decide_eq_false hlong)).mono ?_
    rintro e w2 ⟨rfl, hB2⟩
    have HB2 := Lib.hid (bel_trans HB0.out hB2)
    have R2 := Lib.hid ((hB2.block _ (lt_of_row R0.out)).trans R0.out)
    have HX0 := Lib.hid (Hx.out.inn hlong)
    have HX2 := Lib.hid (HX0.out.below HB2.out)
    clear hB2 hlong R0 HB0
    have c0 : w2.cell? ⟨w.heap.size, 0, none⟩ = some (.int .i64 x.kind) := by rw [cell_of_row _ _ _ _ _ _ R2.out]; rfl
    have c1 : w2.cell? ⟨w.heap.size, 1, none⟩ = some (.slice aN x.ns.length cN) := by rw [cell_of_row _ _ _ _ _ _ R2.out]; rfl
    have c2 : w2.cell? ⟨w.heap.size, 2, none⟩ = some (.slice aI x.ids.length cI) := by rw [cell_of_row _ _ _ _ _ _ R2.out]; rfl
    have c3 : w2.cell? ⟨w.heap.size, 3, none⟩ = some (.slice aB x.bs.length cB) := by rw [cell_of_row _ _ _ _ _ _ R2.out]; rfl
    go_wp2_with fail
    refine (copy_note_any _ x _ _ _ _ _ _ HX2.out).mono ?_
    rintro e w3 ⟨n1, k1, n2, k2, n3, k3, rfl, hC, hB3⟩
    have hk3 : Below w3.heap.size w3 (w3.alloc (.cells #[.int .i64 x.kind, .slice n1 x.ns.length k1, .slice n2 x.ids.length k2, .slice n3 x.bs.length k3] 69)) := bel_alloc _ (Below.refl _ _)
    have HB4 := Lib.hid (bel_trans (bel_trans HB2.out hB3) hk3)
    have R4 := Lib.hid (row_alloc ((hB3.block _ (lt_of_row R2.out)).trans R2.out) (.cells #[.int .i64 x.kind, .slice n1 x.ns.length k1, .slice n2 x.ids.length k2, .slice n3 x.bs.length k3] 69))
    have P4 := Lib.hid (heap_alloc_new w3 (.cells #[.int .i64 x.kind, .slice n1 x.ns.length k1, .slice n2 x.ids.length k2, .slice n3 x.bs.length k3] 69))
    have HC4 := Lib.hid ((hC.inn HX2.out).below hk3)
    have HX4 := Lib.hid ((HX2.out.below hB3).below hk3)
    have hR3 := (hB3.block _ (lt_of_row R2.out)).trans R2.out
    have hltw3 := lt_of_row hR3
    clear hC hB3 hk3 c0 c1 c2 c3 HX2 R2 HB2 hR3
    obtain ⟨E, hE⟩ : ∃ E, x.err = E := ⟨_, rfl⟩
    obtain ⟨ys, hys⟩ : ∃ ys, outOf x = ys := ⟨_, rfl⟩
    have HE := Lib.hid hE
    have HYs := Lib.hid hys
    have HYb : Hid (Bys ys) := by rw [← hys]; exact outOf_bys HX0.out.wid HX0.out.wbs
    clear hE hys
    go_wp2_with fail
    generalize hgw : w3.alloc (.cells #[.int .i64 x.kind, .slice n1 x.ns.length k1, .slice n2 x.ids.length k2, .slice n3 x.bs.length k3] 69) = w4 at *
    generalize w3.heap.size = p3 at *
    clear hgw hltw3
    refine (bytes_full_k _ x _ _ _ _ _ _ HC4.out E HE.out ys HYs.out).mono ?_
    rintro e w5 ⟨a5, cap5, rfl, hfull, new5, hB5⟩
    have HF5 := Lib.hid hfull
    have HN5 := Lib.hid new5
    have HB5 := Lib.hid hB5
    have R5 := Lib.hid ((hB5.block _ (lt_of_row R4.out)).trans R4.out)
    clear hfull new5 hB5
    have c0 : w5.cell? ⟨w.heap.size, 0, none⟩ = some (.int .i64 x.kind) := by rw [cell_of_row _ _ _ _ _ _ R5.out]; rfl
    have c1 : w5.cell? ⟨w.heap.size, 1, none⟩ = some (.slice aN x.ns.length cN) := by rw [cell_of_row _ _ _ _ _ _ R5.out]; rfl
    have c2 : w5.cell? ⟨w.heap.size, 2, none⟩ = some (.slice aI x.ids.length cI) := by rw [cell_of_row _ _ _ _ _ _ R5.out]; rfl
    have c3 : w5.cell? ⟨w.heap.size, 3, none⟩ = some (.slice aB x.bs.length cB) := by rw [cell_of_row _ _ _ _ _ _ R5.out]; rfl
    go_wp2_with fail
    refine (bytes_ref_k _ x _ _ _ _ _ _ (HX4.out.below HB5.out) E HE.out ys HYs.out).mono ?_
    rintro e w6 ⟨a6, cap6, rfl, hb6, hB6⟩
    have HF6 := Lib.hid (HF5.out.below' hB6)
    have HB6 := Lib.hid (bel_trans HB5.out hB6)
    have R6 := Lib.hid ((HB6.out.block _ (lt_of_row R4.out)).trans R4.out)
    have P6 := Lib.hid ((HB6.out.block _ (lt_of_row P4.out)).trans P4.out)
    have Hb6 := Lib.hid hb6
    clear hb6 hB6 c0 c1 c2 c3 R5
    go_wp2_with fail
    refine wp_region_held_drew (S := fun w' => (w'.cell? ⟨w.heap.size, 0, none⟩ = some (.int .i64 x.kind) ∧ w'.cell? ⟨w.heap.size, 1, none⟩ = some (.slice aN x.ns.length cN) ∧ w'.cell? ⟨w.heap.size, 2, none⟩ = some (.slice aI x.ids.length cI) ∧ w'.cell? ⟨w.heap.size, 3, none⟩ = some (.slice aB x.bs.length cB)) ∧
      (w'.cell? ⟨p3, 0, none⟩ = some (.int .i64 x.kind) ∧ w'.cell? ⟨p3, 1, none⟩ = some (.slice n1 x.ns.length k1) ∧ w'.cell? ⟨p3, 2, none⟩ = some (.slice n2 x.ids.length k2) ∧ w'.cell? ⟨p3, 3, none⟩ = some (.slice n3 x.bs.length k3))) mixed ⟨noteRow_cells (row_drew R6.out), noteRow_cells (row_drew P6.out)⟩ (fun hS => ?_)
    refine wpAnyH_take (i := 0) (v := .slice a5 ys.length cap5) rfl (by kernel_rfl) (by kernel_rfl) (by kernel_rfl) (fun c a w h => h) (.inl ⟨rfl, fun w hw => by simp [go_sem]⟩) hS ?_
    refine wpAnyH_take (i := 1) (v := .slice a6 ys.length cap6) rfl (by kernel_rfl) (by kernel_rfl) (by kernel_rfl) (fun c a w h => h) (.inl ⟨rfl, fun w hw => by simp [go_sem]⟩) hS ?_
    refine wpAnyH_all (rs := [2]) (by kernel_rfl) (by simp) (fun i hi => ?_)
    obtain rfl : i = 2 := by simpa using hi
    refine wpOp_step rfl (fun K hK => ?_)
    have HK := Lib.hid hK
    clear hK
    go_simp
    refine (same_src_k w6.drew a5 a6 cap5 cap6 ys ys HYb.out HYb.out (.inr (HF6.out.owns.bytes.below (below_drew (Below.refl _ w6)))) (.inr (Hb6.out.below (below_drew (Below.refl _ w6)))) true (decide_eq_true rfl)).mono ?_
    rintro e w7 ⟨rfl, rfl⟩
    with_reducible refine HK.out _ _ ⟨⟨noteRow_cells (row_drew R6.out), noteRow_cells (row_drew P6.out)⟩, ?_⟩
    clear HK
    refine wpAnyH_all (rs := [3]) (by kernel_rfl) (by simp) (fun i hi => ?_)
    obtain rfl : i = 3 := by simpa using hi
    refine wpOp_step rfl (fun K hK => ?_)
    have HK := Lib.hid hK
    clear hK
    go_simp
    with_reducible refine HK.out _ _ ⟨⟨noteRow_cells (row_drew R6.out), noteRow_cells (row_drew P6.out)⟩, ?_⟩
    clear HK
    refine wpAnyH_take (i := 4) (v := .int .i64 E) rfl (by kernel_rfl) (by kernel_rfl) (by kernel_rfl) (fun c a w h => h) (.inl ⟨rfl, fun w hw => by simp [go_sem]⟩) hS ?_
    refine wpAnyH_take (i := 5) (v := .int .i64 E) rfl (by kernel_rfl) (by kernel_rfl) (by kernel_rfl) (fun c a w h => h) (.inl ⟨rfl, fun w hw => by simp [go_sem]⟩) hS ?_
    refine wpAnyH_all (rs := [6]) (by kernel_rfl) (by simp) (fun i hi => ?_)
    obtain rfl : i = 6 := by simpa using hi
    refine wpOp_step rfl (fun K hK => ?_)
    have HK := Lib.hid hK
    clear hK
    go_simp
    with_reducible refine HK.out _ _ ⟨⟨noteRow_cells (row_drew R6.out), noteRow_cells (row_drew P6.out)⟩, ?_⟩
    clear HK
    refine wpAnyH_all (rs := [7]) (by kernel_rfl) (by simp) (fun i hi => ?_)
    obtain rfl : i = 7 := by simpa using hi
    refine wpOp_step rfl (fun K hK => ?_)
    have HK := Lib.hid hK
    clear hK
    go_simp
    with_reducible refine HK.out _ _ ⟨⟨noteRow_cells (row_drew R6.out), noteRow_cells (row_drew P6.out)⟩, ?_⟩
    clear HK
    refine wpAnyH_all (rs := [8]) (by kernel_rfl) (by simp) (fun i hi => ?_)
    obtain rfl : i = 8 := by simpa using hi
    refine wpOp_step rfl (fun K hK => ?_)
    have HK := Lib.hid hK
    clear hK
    go_simp
    with_reducible refine HK.out _ _ ⟨⟨noteRow_cells (row_drew R6.out), noteRow_cells (row_drew P6.out)⟩, ?_⟩
    clear HK
    refine wpAnyH_take (i := 9) (v := .agg #[.int .i64 x.kind, .slice n1 x.ns.length k1, .slice n2 x.ids.length k2, .slice n3 x.bs.length k3]) rfl (by kernel_rfl) (by kernel_rfl) (by kernel_rfl) (fun c a w h => h) (.inl ⟨rfl, fun w hw => by simp [go_sem, hw.2.1, hw.2.2.1, hw.2.2.2.1, hw.2.2.2.2]⟩) hS ?_
    refine wpAnyH_take (i := 11) (v := .agg #[.int .i64 x.kind, .slice aN x.ns.length cN, .slice aI x.ids.length cI, .slice aB x.bs.length cB]) rfl (by kernel_rfl) (by kernel_rfl) (by kernel_rfl) (fun c a w h => h) (.inl ⟨rfl, fun w hw => by simp [go_sem, hw.1.1, hw.1.2.1, hw.1.2.2.1, hw.1.2.2.2]⟩) hS ?_
    refine wpAnyH_all (rs := [10]) (by kernel_rfl) (by simp) (fun i hi => ?_)
    obtain rfl : i = 10 := by simpa using hi
    refine wpOp_step rfl (fun K hK => ?_)
    have HK := Lib.hid hK
    clear hK
    go_simp
    refine (check_k w6.drew x _ _ _ _ _ _ ((HC4.out.below HB6.out).below (below_drew (Below.refl _ w6))) E HE.out).mono ?_
    rintro e w7 ⟨rfl, hB7⟩
    have hB7' : Below w6.heap.size w6 w7 := (below_drew (Below.refl _ w6)).trans hB7
    have HB7 := Lib.hid (bel_trans HB6.out hB7')
    have R7 := Lib.hid ((HB7.out.block _ (lt_of_row R4.out)).trans R4.out)
    have P7 := Lib.hid ((HB7.out.block _ (lt_of_row P4.out)).trans P4.out)
    have HF7 := Lib.hid (HF6.out.below' hB7')
    clear hB7 hB7'
    with_reducible refine HK.out _ _ ⟨⟨noteRow_cells R7.out, noteRow_cells P7.out⟩, ?_⟩
    clear HK
    refine wpAnyH_all (rs := [12]) (by kernel_rfl) (by simp) (fun i hi => ?_)
    obtain rfl : i = 12 := by simpa using hi
    refine wpOp_step rfl (fun K hK => ?_)
    have HK := Lib.hid hK
    clear hK
    go_simp
    refine (check_ref_k w7 x _ _ _ _ _ _ (HX4.out.below HB7.out) E HE.out).mono ?_
    rintro e w8 ⟨rfl, hB8⟩
    have HB8 := Lib.hid (bel_trans HB7.out hB8)
    have R8 := Lib.hid ((HB8.out.block _ (lt_of_row R4.out)).trans R4.out)
    have P8 := Lib.hid ((HB8.out.block _ (lt_of_row P4.out)).trans P4.out)
    have HF8 := Lib.hid (HF7.out.below' hB8)
    clear hB8
    with_reducible refine HK.out _ _ ⟨⟨noteRow_cells R8.out, noteRow_cells P8.out⟩, ?_⟩
    clear HK
    refine wpAnyH_all (rs := [13]) (by kernel_rfl) (by simp) (fun i hi => ?_)
    obtain rfl : i = 13 := by simpa using hi
    refine wpOp_step rfl (fun K hK => ?_)
    have HK := Lib.hid hK
    clear hK
    go_simp
    with_reducible refine HK.out _ _ ⟨⟨noteRow_cells R8.out, noteRow_cells P8.out⟩, ?_⟩
    clear HK
    refine wpAnyH_all (rs := [14]) (by kernel_rfl) (by simp) (fun i hi => ?_)
    obtain rfl : i = 14 := by simpa using hi
    refine wpOp_step rfl (fun K hK => ?_)
    have HK := Lib.hid hK
    clear hK
    go_simp
    with_reducible refine HK.out _ _ ⟨⟨noteRow_cells R8.out, noteRow_cells P8.out⟩, ?_⟩
    clear HK
    refine wpAnyH_all (rs := [15]) (by kernel_rfl) (by simp) (fun i hi => ?_)
    obtain rfl : i = 15 := by simpa using hi
    refine wpOp_step rfl (fun K hK => ?_)
    have HK := Lib.hid hK
    clear hK
    go_simp
    with_reducible refine HK.out _ _ ⟨⟨noteRow_cells R8.out, noteRow_cells P8.out⟩, ?_⟩
    clear HK
    refine wpAnyH_done (by kernel_rfl) ?_ _
    go_wp2_with fail
    refine (over_any _ a5 cap5 ys HF8.out).mono ?_
    rintro e w9 ⟨rfl, hov, hovb⟩
    have HB9 : Hid (Below w4.heap.size w4 w9) := HB8.out.trans ⟨hov.os, hov.tape, hov.output, hov.size, fun k hk => hovb k (by have := HB8.out.size; omega) (fun e => by have := HN5.out k e; omega)⟩
    have R9 := Lib.hid ((HB9.out.block _ (lt_of_row R4.out)).trans R4.out)
    have P9 := Lib.hid ((HB9.out.block _ (lt_of_row P4.out)).trans P4.out)
    clear hov hovb
    have c0 : w9.cell? ⟨w.heap.size, 0, none⟩ = some (.int .i64 x.kind) := by rw [cell_of_row _ _ _ _ _ _ R9.out]; rfl
    have c1 : w9.cell? ⟨w.heap.size, 1, none⟩ = some (.slice aN x.ns.length cN) := by rw [cell_of_row _ _ _ _ _ _ R9.out]; rfl
    have c2 : w9.cell? ⟨w.heap.size, 2, none⟩ = some (.slice aI x.ids.length cI) := by rw [cell_of_row _ _ _ _ _ _ R9.out]; rfl
    have c3 : w9.cell? ⟨w.heap.size, 3, none⟩ = some (.slice aB x.bs.length cB) := by rw [cell_of_row _ _ _ _ _ _ R9.out]; rfl
    have d0 : w9.cell? ⟨p3, 0, none⟩ = some (.int .i64 x.kind) := by rw [cell_of_row _ _ _ _ _ _ P9.out]; rfl
    have d1 : w9.cell? ⟨p3, 1, none⟩ = some (.slice n1 x.ns.length k1) := by rw [cell_of_row _ _ _ _ _ _ P9.out]; rfl
    have d2 : w9.cell? ⟨p3, 2, none⟩ = some (.slice n2 x.ids.length k2) := by rw [cell_of_row _ _ _ _ _ _ P9.out]; rfl
    have d3 : w9.cell? ⟨p3, 3, none⟩ = some (.slice n3 x.bs.length k3) := by rw [cell_of_row _ _ _ _ _ _ P9.out]; rfl
    go_wp2_with fail
    refine (same_note_eq _ x _ _ _ _ _ _ _ _ _ _ _ _ (HC4.out.below HB9.out) (HX4.out.below HB9.out)).mono ?_
    rintro e w10 ⟨rfl, hB10⟩
    have HB10 := Lib.hid (bel_trans HB9.out hB10)
    clear hB10 c0 c1 c2 c3 d0 d1 d2 d3
    go_wp2_with fail
    refine (awake10_any _).mono ?_
    rintro e w11 ⟨rfl, hB11⟩
    have HB11 := Lib.hid (bel_trans HB10.out hB11)
    clear hB11
    go_wp2_with fail
    go_ret
    exact ⟨rfl, bel_trans HB4.out HB11.out⟩

end Go.Proofs.Ytkfhljggdcajpaa
