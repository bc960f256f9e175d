/-
  The law FieldNone's walk. (Made by gen/none.py)
-/
import Derived.Test.YtkfhljggdcajpaaNone2
import Derived.Test.YtkfhljggdcajpaaCut
namespace Go.Proofs.Ytkfhljggdcajpaa
open Go.RowKit

/-- what stays through the rounds of FieldNone: two rows of a pointer that is none and of one that shows what was never made -/
structure NS (w : World) (W : World) : Prop where
  below : Below w.heap.size w W
  sw : W.heap[w.heap.size]? = some (.cells #[.bool false, .bool false, .slice none 0 0] 60 (0, 0))
  rw' : W.heap[w.heap.size + 1]? = some (.cells #[.pointer none, .pointer (some ⟨w.heap.size, 0, none⟩)] 29 (0, 0))
  sr : W.heap[w.heap.size + 1 + 1]? = some (.cells #[.bool false, .slice none 0 0, .int .i64 0, .int .i64 0, .int .i64 0] 63 (0, 0))
  rr : W.heap[w.heap.size + 1 + 1 + 1]? = some (.cells #[.pointer none, .pointer (some ⟨w.heap.size + 1 + 1, 0, none⟩)] 48 (0, 0))
theorem NS.step {w W W' : World} (h : NS w W) (hb : Below W.heap.size W W') : NS w W' :=
  ⟨h.below.trans (hb.mono h.below.size), (hb.block _ (lt_of_row h.sw)).trans h.sw, (hb.block _ (lt_of_row h.rw')).trans h.rw', (hb.block _ (lt_of_row h.sr)).trans h.sr, (hb.block _ (lt_of_row h.rr)).trans h.rr⟩
theorem NS.w0 {w W : World} (h : NS w W) : ∃ p, W.cell? ⟨w.heap.size + 1, 0, none⟩ = some (.pointer p) ∧ WNo W p :=
  ⟨none, by rw [cell_of_row _ _ _ _ _ _ h.rw']; rfl, .inl rfl⟩
theorem NS.w1 {w W : World} (h : NS w W) : ∃ p, W.cell? ⟨w.heap.size + 1, 1, none⟩ = some (.pointer p) ∧ WNo W p :=
  ⟨some ⟨w.heap.size, 0, none⟩, by rw [cell_of_row _ _ _ _ _ _ h.rw']; rfl, .inr ⟨_, rfl, lt_of_row h.sw, by rw [cell_of_row _ _ _ _ _ _ h.sw]; rfl⟩⟩
theorem NS.r0 {w W : World} (h : NS w W) : ∃ p, W.cell? ⟨w.heap.size + 1 + 1 + 1, 0, none⟩ = some (.pointer p) ∧ RNo W p :=
  ⟨none, by rw [cell_of_row _ _ _ _ _ _ h.rr]; rfl, .inl rfl⟩
theorem NS.r1 {w W : World} (h : NS w W) : ∃ p, W.cell? ⟨w.heap.size + 1 + 1 + 1, 1, none⟩ = some (.pointer p) ∧ RNo W p :=
  ⟨some ⟨w.heap.size + 1 + 1, 0, none⟩, by rw [cell_of_row _ _ _ _ _ _ h.rr]; rfl, .inr ⟨_, rfl, h.sr⟩⟩

/-- the rows as FieldNone lays them -/
def ns4 (w : World) : World := (((w.alloc (.cells #[.bool false, .bool false, .slice none 0 0] 60)).alloc
  (.cells #[.pointer none, .pointer (some ⟨w.heap.size, 0, none⟩)] 29)).alloc
  (.cells #[.bool false, .slice none 0 0, .int .i64 0, .int .i64 0, .int .i64 0] 63)).alloc
  (.cells #[.pointer none, .pointer (some ⟨w.heap.size + 1 + 1, 0, none⟩)] 48)
theorem ns_start (w : World) : NS w (ns4 w) := by
  unfold ns4
  refine ⟨below_alloc1 (below_alloc1 (below_alloc1 (below_alloc1 (Below.refl _ _) _) _) _) _, ?_, ?_, ?_, newest (by simp)⟩
  · rw [Below.heap_alloc _ _ _ (by simp only [World.size_alloc]; omega), Below.heap_alloc _ _ _ (by simp only [World.size_alloc]; omega), Below.heap_alloc _ _ _ (by simp only [World.size_alloc]; omega)]
    exact newest rfl
  · rw [Below.heap_alloc _ _ _ (by simp only [World.size_alloc]; omega), Below.heap_alloc _ _ _ (by simp only [World.size_alloc]; omega)]
    exact newest (by simp)
  · rw [Below.heap_alloc _ _ _ (by simp only [World.size_alloc]; omega)]
    exact newest (by simp)

theorem no_text : (strOfNums []).toList = [] := by rw [ByteArray.toList_eq, strOfNums_data]; rfl

set_option maxRecDepth 100000 in
set_option maxHeartbeats 1600000 in
theorem none_law (w : World) (n : Int) (a : Option Addr) (cap : Nat) (xs : List Int) (hx : Bys xs) (hs : Src w a xs) :
    Calls Try.prog 7 #[.int .i64 n, .slice a xs.length cap] w fun e w' => e = .returned (.bool true) ∧ Below w.heap.size w w' := by
  by_cases hlen : (100 : Int) < xs.length
  · have hlen' : xs.length > 100 := by omega
    go_enter Try.func7, Try.ntmps7
    go_wp2_with fail
    refine (awake_any _).mono ?_
    rintro e w1 ⟨rfl, hb⟩
    go_wp2_with fail
    go_ret
    exact ⟨rfl, hb⟩
  · have hlen' : ¬ xs.length > 100 := by omega
    have hnt := no_text
    have hz := z16_eq
    have Hx := Lib.hid hx
    have HS := Lib.hid hs
    have H0 := Lib.hid (ns_start w)
    clear hx hs
    go_enter Try.func7, Try.ntmps7
    go_wp2_with fail
    change Code.wp _ _ _ _ (ns4 w)
    generalize ns4 w = w0 at H0
    go_loopw [9] (fun s9 wr => NS w wr ∧ (s9 = .int .i64 0 ∨ s9 = .int .i64 1 ∨ s9 = .int .i64 2)) (fun s9 _ => (2 - intOf s9).toNat)
    case atStart => exact ⟨H0.out, .inl rfl⟩
    case round =>
      obtain ⟨hN, rfl | rfl | rfl⟩ := hrel
      · have HN := Lib.hid hN
        obtain ⟨p, cw, wp⟩ := hN.w0
        obtain ⟨q, cr, rp⟩ := hN.r0
        clear hN
        go_wp2_with fail
        refine (wint_no _ _ _ wp).mono ?_
        rintro e w1 ⟨rfl, rfl⟩
        go_wp2_with fail
        refine (wbytes_no _ _ _ wp).mono ?_
        rintro e w1 ⟨rfl, rfl⟩
        go_wp2_with fail
        have hsr : Src wr.drew a xs := HS.out.bytesAt_or _ (HN.out.step (below_dn _ _ 1)).below
        have hNd : NS w wr.drew := HN.out.step (below_dn _ _ 1)
        have wpd : WNo wr.drew p := wp.below (below_dn _ _ 1)
        refine wp_region_held_drew (S := fun w' => w'.cell? ⟨w.heap.size + 1, 0, none⟩ = some (.pointer p) ∧ Src w' a xs) mixed ⟨cw, hsr⟩ (fun hS => ?_)
        refine wpAnyH_take (i := 0) (v := .slice (some ⟨w.heap.size + 1, 0, none⟩) 2 2) rfl (by kernel_rfl) (by kernel_rfl) (by kernel_rfl) (fun _ _ _ h => h) (.inl ⟨rfl, fun w hw => by simp [go_sem]⟩) hS ?_
        refine wpAnyH_take (i := 1) (v := .int .i64 0) rfl (by kernel_rfl) (by kernel_rfl) (by kernel_rfl) (fun _ _ _ h => h) (.inl ⟨rfl, fun w hw => by simp [go_sem]⟩) hS ?_
        refine wpAnyH_take (i := 2) (v := .pointer (some ⟨w.heap.size + 1, 0, none⟩)) rfl (by kernel_rfl) (by kernel_rfl) (by kernel_rfl) (fun _ _ _ h => h) (.inl ⟨rfl, fun w hw => by simp [go_sem]⟩) hS ?_
        refine wpAnyH_take (i := 3) (v := .pointer p) rfl (by kernel_rfl) (by kernel_rfl) (by kernel_rfl) (fun _ _ _ h => h) (.inl ⟨rfl, fun w hw => by simp [go_sem, hw.1]⟩) hS ?_
        refine wpAnyH_take (i := 4) (v := .slice a xs.length cap) rfl (by kernel_rfl) (by kernel_rfl) (by kernel_rfl) (fun _ _ _ h => h) (.inl ⟨rfl, fun w hw => by simp [go_sem]⟩) hS ?_
        refine wpAnyH_take (i := 5) (v := .string (strOfNums xs)) rfl (by kernel_rfl) (by kernel_rfl) (by kernel_rfl) (fun _ _ _ h => h) (.inl ⟨rfl, fun w hw => by have := run_src_string w a cap xs hw.2; simp [go_sem, this]⟩) hS ?_
        refine wpAnyH_all (rs := [6]) (by kernel_rfl) (by simp) (fun i hi => ?_)
        obtain rfl : i = 6 := by simpa using hi
        refine wpOp_step rfl (fun K hK => ?_)
        go_simp
        refine (wtext_no _ _ _ Hx.out wpd).mono ?_
        rintro e w1 ⟨rfl, hb1⟩
        have wp1 := wpd.below hb1
        have rp1 := (rp.below (below_dn wr.heap.size wr 1)).below hb1
        have HN1 := Lib.hid (hNd.step hb1)
        have cw1 : w1.cell? ⟨w.heap.size + 1, 0, none⟩ = some (.pointer p) := (hb1.cell (lt_of_row hNd.rw')).trans hS.1
        have cr1 : w1.cell? ⟨w.heap.size + 1 + 1 + 1, 0, none⟩ = some (.pointer q) := (hb1.cell (lt_of_row hNd.rr)).trans cr
        refine hK _ _ ⟨⟨cw1, (HS.out.bytesAt_or _ HN1.out.below)⟩, ?_⟩
        refine wpAnyH_done (by kernel_rfl) ?_ _
        clear hsr hNd wpd hS hb1 cw cr wp rp
        go_simp
        go_wp2_with fail
        refine (wid_no _ _ _ wp1).mono ?_
        rintro e w2 ⟨rfl, hb2⟩
        have wp2 := wp1.below hb2
        have rp2 := rp1.below hb2
        have cw2 : w2.cell? ⟨w.heap.size + 1, 0, none⟩ = some (.pointer p) := (hb2.cell (lt_of_row HN1.out.rw')).trans cw1
        have cr2 : w2.cell? ⟨w.heap.size + 1 + 1 + 1, 0, none⟩ = some (.pointer q) := (hb2.cell (lt_of_row HN1.out.rr)).trans cr1
        have HN2 := Lib.hid (HN1.out.step hb2)
        clear wp1 rp1 cw1 cr1 HN1 hb2
        go_wp2_with fail
        refine (out_no _ _ wp2).mono ?_
        rintro e w3 ⟨rfl, rfl⟩
        go_wp2_with fail
        refine (rint_no _ _ rp2 _ _).mono ?_
        rintro e w3 ⟨rfl, hb3⟩
        have wp3 := wp2.below hb3
        have rp3 := rp2.below hb3
        have cw3 : w3.cell? ⟨w.heap.size + 1, 0, none⟩ = some (.pointer p) := (hb3.cell (lt_of_row HN2.out.rw')).trans cw2
        have cr3 : w3.cell? ⟨w.heap.size + 1 + 1 + 1, 0, none⟩ = some (.pointer q) := (hb3.cell (lt_of_row HN2.out.rr)).trans cr2
        have HN3 := Lib.hid (HN2.out.step hb3)
        clear wp2 rp2 cw2 cr2 HN2 hb3
        go_wp2_with fail
        refine (rcount_no _ _ rp3 _).mono ?_
        rintro e w4 ⟨rfl, hb4⟩
        have wp4 := wp3.below hb4
        have rp4 := rp3.below hb4
        have cw4 : w4.cell? ⟨w.heap.size + 1, 0, none⟩ = some (.pointer p) := (hb4.cell (lt_of_row HN3.out.rw')).trans cw3
        have cr4 : w4.cell? ⟨w.heap.size + 1 + 1 + 1, 0, none⟩ = some (.pointer q) := (hb4.cell (lt_of_row HN3.out.rr)).trans cr3
        have HN4 := Lib.hid (HN3.out.step hb4)
        clear wp3 rp3 cw3 cr3 HN3 hb4
        go_wp2_with fail
        refine (rbytes_no _ _ rp4 _).mono ?_
        rintro e w5 ⟨rfl, hb5⟩
        have wp5 := wp4.below hb5
        have rp5 := rp4.below hb5
        have cw5 : w5.cell? ⟨w.heap.size + 1, 0, none⟩ = some (.pointer p) := (hb5.cell (lt_of_row HN4.out.rw')).trans cw4
        have cr5 : w5.cell? ⟨w.heap.size + 1 + 1 + 1, 0, none⟩ = some (.pointer q) := (hb5.cell (lt_of_row HN4.out.rr)).trans cr4
        have HN5 := Lib.hid (HN4.out.step hb5)
        clear wp4 rp4 cw4 cr4 HN4 hb5
        go_wp2_with fail
        refine (rtextn_no _ _ rp5 _).mono ?_
        rintro e w6 ⟨rfl, hb6⟩
        have wp6 := wp5.below hb6
        have rp6 := rp5.below hb6
        have cw6 : w6.cell? ⟨w.heap.size + 1, 0, none⟩ = some (.pointer p) := (hb6.cell (lt_of_row HN5.out.rw')).trans cw5
        have cr6 : w6.cell? ⟨w.heap.size + 1 + 1 + 1, 0, none⟩ = some (.pointer q) := (hb6.cell (lt_of_row HN5.out.rr)).trans cr5
        have HN6 := Lib.hid (HN5.out.step hb6)
        clear wp5 rp5 cw5 cr5 HN5 hb6
        go_wp2_with fail
        refine (rid_no _ _ rp6).mono ?_
        rintro e w7 ⟨rfl, hb7⟩
        have wp7 := wp6.below hb7
        have rp7 := rp6.below hb7
        have cw7 : w7.cell? ⟨w.heap.size + 1, 0, none⟩ = some (.pointer p) := (hb7.cell (lt_of_row HN6.out.rw')).trans cw6
        have cr7 : w7.cell? ⟨w.heap.size + 1 + 1 + 1, 0, none⟩ = some (.pointer q) := (hb7.cell (lt_of_row HN6.out.rr)).trans cr6
        have HN7 := Lib.hid (HN6.out.step hb7)
        clear wp6 rp6 cw6 cr6 HN6 hb7
        go_wp2_with fail
        refine (at_no _ _ rp7).mono ?_
        rintro e w8 ⟨rfl, rfl⟩
        go_wp2_with fail
        refine (left_no _ _ rp7).mono ?_
        rintro e w8 ⟨rfl, hb8⟩
        have wp8 := wp7.below hb8
        have rp8 := rp7.below hb8
        have cw8 : w8.cell? ⟨w.heap.size + 1, 0, none⟩ = some (.pointer p) := (hb8.cell (lt_of_row HN7.out.rw')).trans cw7
        have cr8 : w8.cell? ⟨w.heap.size + 1 + 1 + 1, 0, none⟩ = some (.pointer q) := (hb8.cell (lt_of_row HN7.out.rr)).trans cr7
        have HN8 := Lib.hid (HN7.out.step hb8)
        clear wp7 rp7 cw7 cr7 HN7 hb8
        go_wp2_with fail
        refine (fault_no _ _ rp8).mono ?_
        rintro e w9 ⟨rfl, hb9⟩
        have wp9 := wp8.below hb9
        have rp9 := rp8.below hb9
        have cw9 : w9.cell? ⟨w.heap.size + 1, 0, none⟩ = some (.pointer p) := (hb9.cell (lt_of_row HN8.out.rw')).trans cw8
        have cr9 : w9.cell? ⟨w.heap.size + 1 + 1 + 1, 0, none⟩ = some (.pointer q) := (hb9.cell (lt_of_row HN8.out.rr)).trans cr8
        have HN9 := Lib.hid (HN8.out.step hb9)
        clear wp8 rp8 cw8 cr8 HN8 hb9
        go_wp2_with fail
        refine (end_no _ _ rp9).mono ?_
        rintro e w10 ⟨rfl, hb10⟩
        have wp10 := wp9.below hb10
        have rp10 := rp9.below hb10
        have cw10 : w10.cell? ⟨w.heap.size + 1, 0, none⟩ = some (.pointer p) := (hb10.cell (lt_of_row HN9.out.rw')).trans cw9
        have cr10 : w10.cell? ⟨w.heap.size + 1 + 1 + 1, 0, none⟩ = some (.pointer q) := (hb10.cell (lt_of_row HN9.out.rr)).trans cr9
        have HN10 := Lib.hid (HN9.out.step hb10)
        clear wp9 rp9 cw9 cr9 HN9 hb10
        go_wp2_with fail
        go_roundw
        case rel => exact ⟨HN10.out, .inr (.inl rfl)⟩
        case measure => simp [intOf]
      · have HN := Lib.hid hN
        obtain ⟨p, cw, wp⟩ := hN.w1
        obtain ⟨q, cr, rp⟩ := hN.r1
        clear hN
        go_wp2_with fail
        refine (wint_no _ _ _ wp).mono ?_
        rintro e w1 ⟨rfl, rfl⟩
        go_wp2_with fail
        refine (wbytes_no _ _ _ wp).mono ?_
        rintro e w1 ⟨rfl, rfl⟩
        go_wp2_with fail
        have hsr : Src wr.drew a xs := HS.out.bytesAt_or _ (HN.out.step (below_dn _ _ 1)).below
        have hNd : NS w wr.drew := HN.out.step (below_dn _ _ 1)
        have wpd : WNo wr.drew p := wp.below (below_dn _ _ 1)
        refine wp_region_held_drew (S := fun w' => w'.cell? ⟨w.heap.size + 1, 1, none⟩ = some (.pointer p) ∧ Src w' a xs) mixed ⟨cw, hsr⟩ (fun hS => ?_)
        refine wpAnyH_take (i := 0) (v := .slice (some ⟨w.heap.size + 1, 0, none⟩) 2 2) rfl (by kernel_rfl) (by kernel_rfl) (by kernel_rfl) (fun _ _ _ h => h) (.inl ⟨rfl, fun w hw => by simp [go_sem]⟩) hS ?_
        refine wpAnyH_take (i := 1) (v := .int .i64 1) rfl (by kernel_rfl) (by kernel_rfl) (by kernel_rfl) (fun _ _ _ h => h) (.inl ⟨rfl, fun w hw => by simp [go_sem]⟩) hS ?_
        refine wpAnyH_take (i := 2) (v := .pointer (some ⟨w.heap.size + 1, 1, none⟩)) rfl (by kernel_rfl) (by kernel_rfl) (by kernel_rfl) (fun _ _ _ h => h) (.inl ⟨rfl, fun w hw => by simp [go_sem]⟩) hS ?_
        refine wpAnyH_take (i := 3) (v := .pointer p) rfl (by kernel_rfl) (by kernel_rfl) (by kernel_rfl) (fun _ _ _ h => h) (.inl ⟨rfl, fun w hw => by simp [go_sem, hw.1]⟩) hS ?_
        refine wpAnyH_take (i := 4) (v := .slice a xs.length cap) rfl (by kernel_rfl) (by kernel_rfl) (by kernel_rfl) (fun _ _ _ h => h) (.inl ⟨rfl, fun w hw => by simp [go_sem]⟩) hS ?_
        refine wpAnyH_take (i := 5) (v := .string (strOfNums xs)) rfl (by kernel_rfl) (by kernel_rfl) (by kernel_rfl) (fun _ _ _ h => h) (.inl ⟨rfl, fun w hw => by have := run_src_string w a cap xs hw.2; simp [go_sem, this]⟩) hS ?_
        refine wpAnyH_all (rs := [6]) (by kernel_rfl) (by simp) (fun i hi => ?_)
        obtain rfl : i = 6 := by simpa using hi
        refine wpOp_step rfl (fun K hK => ?_)
        go_simp
        refine (wtext_no _ _ _ Hx.out wpd).mono ?_
        rintro e w1 ⟨rfl, hb1⟩
        have wp1 := wpd.below hb1
        have rp1 := (rp.below (below_dn wr.heap.size wr 1)).below hb1
        have HN1 := Lib.hid (hNd.step hb1)
        have cw1 : w1.cell? ⟨w.heap.size + 1, 1, none⟩ = some (.pointer p) := (hb1.cell (lt_of_row hNd.rw')).trans hS.1
        have cr1 : w1.cell? ⟨w.heap.size + 1 + 1 + 1, 1, none⟩ = some (.pointer q) := (hb1.cell (lt_of_row hNd.rr)).trans cr
        refine hK _ _ ⟨⟨cw1, (HS.out.bytesAt_or _ HN1.out.below)⟩, ?_⟩
        refine wpAnyH_done (by kernel_rfl) ?_ _
        clear hsr hNd wpd hS hb1 cw cr wp rp
        go_simp
        go_wp2_with fail
        refine (wid_no _ _ _ wp1).mono ?_
        rintro e w2 ⟨rfl, hb2⟩
        have wp2 := wp1.below hb2
        have rp2 := rp1.below hb2
        have cw2 : w2.cell? ⟨w.heap.size + 1, 1, none⟩ = some (.pointer p) := (hb2.cell (lt_of_row HN1.out.rw')).trans cw1
        have cr2 : w2.cell? ⟨w.heap.size + 1 + 1 + 1, 1, none⟩ = some (.pointer q) := (hb2.cell (lt_of_row HN1.out.rr)).trans cr1
        have HN2 := Lib.hid (HN1.out.step hb2)
        clear wp1 rp1 cw1 cr1 HN1 hb2
        go_wp2_with fail
        refine (out_no _ _ wp2).mono ?_
        rintro e w3 ⟨rfl, rfl⟩
        go_wp2_with fail
        refine (rint_no _ _ rp2 _ _).mono ?_
        rintro e w3 ⟨rfl, hb3⟩
        have wp3 := wp2.below hb3
        have rp3 := rp2.below hb3
        have cw3 : w3.cell? ⟨w.heap.size + 1, 1, none⟩ = some (.pointer p) := (hb3.cell (lt_of_row HN2.out.rw')).trans cw2
        have cr3 : w3.cell? ⟨w.heap.size + 1 + 1 + 1, 1, none⟩ = some (.pointer q) := (hb3.cell (lt_of_row HN2.out.rr)).trans cr2
        have HN3 := Lib.hid (HN2.out.step hb3)
        clear wp2 rp2 cw2 cr2 HN2 hb3
        go_wp2_with fail
        refine (rcount_no _ _ rp3 _).mono ?_
        rintro e w4 ⟨rfl, hb4⟩
        have wp4 := wp3.below hb4
        have rp4 := rp3.below hb4
        have cw4 : w4.cell? ⟨w.heap.size + 1, 1, none⟩ = some (.pointer p) := (hb4.cell (lt_of_row HN3.out.rw')).trans cw3
        have cr4 : w4.cell? ⟨w.heap.size + 1 + 1 + 1, 1, none⟩ = some (.pointer q) := (hb4.cell (lt_of_row HN3.out.rr)).trans cr3
        have HN4 := Lib.hid (HN3.out.step hb4)
        clear wp3 rp3 cw3 cr3 HN3 hb4
        go_wp2_with fail
        refine (rbytes_no _ _ rp4 _).mono ?_
        rintro e w5 ⟨rfl, hb5⟩
        have wp5 := wp4.below hb5
        have rp5 := rp4.below hb5
        have cw5 : w5.cell? ⟨w.heap.size + 1, 1, none⟩ = some (.pointer p) := (hb5.cell (lt_of_row HN4.out.rw')).trans cw4
        have cr5 : w5.cell? ⟨w.heap.size + 1 + 1 + 1, 1, none⟩ = some (.pointer q) := (hb5.cell (lt_of_row HN4.out.rr)).trans cr4
        have HN5 := Lib.hid (HN4.out.step hb5)
        clear wp4 rp4 cw4 cr4 HN4 hb5
        go_wp2_with fail
        refine (rtextn_no _ _ rp5 _).mono ?_
        rintro e w6 ⟨rfl, hb6⟩
        have wp6 := wp5.below hb6
        have rp6 := rp5.below hb6
        have cw6 : w6.cell? ⟨w.heap.size + 1, 1, none⟩ = some (.pointer p) := (hb6.cell (lt_of_row HN5.out.rw')).trans cw5
        have cr6 : w6.cell? ⟨w.heap.size + 1 + 1 + 1, 1, none⟩ = some (.pointer q) := (hb6.cell (lt_of_row HN5.out.rr)).trans cr5
        have HN6 := Lib.hid (HN5.out.step hb6)
        clear wp5 rp5 cw5 cr5 HN5 hb6
        go_wp2_with fail
        refine (rid_no _ _ rp6).mono ?_
        rintro e w7 ⟨rfl, hb7⟩
        have wp7 := wp6.below hb7
        have rp7 := rp6.below hb7
        have cw7 : w7.cell? ⟨w.heap.size + 1, 1, none⟩ = some (.pointer p) := (hb7.cell (lt_of_row HN6.out.rw')).trans cw6
        have cr7 : w7.cell? ⟨w.heap.size + 1 + 1 + 1, 1, none⟩ = some (.pointer q) := (hb7.cell (lt_of_row HN6.out.rr)).trans cr6
        have HN7 := Lib.hid (HN6.out.step hb7)
        clear wp6 rp6 cw6 cr6 HN6 hb7
        go_wp2_with fail
        refine (at_no _ _ rp7).mono ?_
        rintro e w8 ⟨rfl, rfl⟩
        go_wp2_with fail
        refine (left_no _ _ rp7).mono ?_
        rintro e w8 ⟨rfl, hb8⟩
        have wp8 := wp7.below hb8
        have rp8 := rp7.below hb8
        have cw8 : w8.cell? ⟨w.heap.size + 1, 1, none⟩ = some (.pointer p) := (hb8.cell (lt_of_row HN7.out.rw')).trans cw7
        have cr8 : w8.cell? ⟨w.heap.size + 1 + 1 + 1, 1, none⟩ = some (.pointer q) := (hb8.cell (lt_of_row HN7.out.rr)).trans cr7
        have HN8 := Lib.hid (HN7.out.step hb8)
        clear wp7 rp7 cw7 cr7 HN7 hb8
        go_wp2_with fail
        refine (fault_no _ _ rp8).mono ?_
        rintro e w9 ⟨rfl, hb9⟩
        have wp9 := wp8.below hb9
        have rp9 := rp8.below hb9
        have cw9 : w9.cell? ⟨w.heap.size + 1, 1, none⟩ = some (.pointer p) := (hb9.cell (lt_of_row HN8.out.rw')).trans cw8
        have cr9 : w9.cell? ⟨w.heap.size + 1 + 1 + 1, 1, none⟩ = some (.pointer q) := (hb9.cell (lt_of_row HN8.out.rr)).trans cr8
        have HN9 := Lib.hid (HN8.out.step hb9)
        clear wp8 rp8 cw8 cr8 HN8 hb9
        go_wp2_with fail
        refine (end_no _ _ rp9).mono ?_
        rintro e w10 ⟨rfl, hb10⟩
        have wp10 := wp9.below hb10
        have rp10 := rp9.below hb10
        have cw10 : w10.cell? ⟨w.heap.size + 1, 1, none⟩ = some (.pointer p) := (hb10.cell (lt_of_row HN9.out.rw')).trans cw9
        have cr10 : w10.cell? ⟨w.heap.size + 1 + 1 + 1, 1, none⟩ = some (.pointer q) := (hb10.cell (lt_of_row HN9.out.rr)).trans cr9
        have HN10 := Lib.hid (HN9.out.step hb10)
        clear wp9 rp9 cw9 cr9 HN9 hb10
        go_wp2_with fail
        go_roundw
        case rel => exact ⟨HN10.out, .inr (.inr rfl)⟩
        case measure => simp [intOf]
      · go_wp2_with fail
        refine (awake_any _).mono ?_
        rintro e w1 ⟨rfl, hb⟩
        go_wp2_with fail
        go_ret
        exact ⟨rfl, hN.below.trans (hb.mono hN.below.size)⟩

end Go.Proofs.Ytkfhljggdcajpaa
