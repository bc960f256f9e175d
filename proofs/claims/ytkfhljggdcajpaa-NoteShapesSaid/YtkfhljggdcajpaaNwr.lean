/-
  Package note: Bytes.
-/
import Derived.Test.YtkfhljggdcajpaaNm
import Derived.Test.YtkfhljggdcajpaaOrd
import Derived.BigQuiet
namespace Go.Proofs.Ytkfhljggdcajpaa
open Go.RowKit Go.Sort

/-- a note's bytes -/
def noteBytes (x : Note) : List Int := put x.kind ++ put x.ns.length ++ x.ns.flatMap put ++ put x.ids.length ++ x.ids.flatten ++ put x.bs.length ++ x.bs

def Note.err (x : Note) : Int := noteErr x.kind x.ns x.ids.length x.bs.length

theorem shape_caps (k : Int) : (shapeAt k).ns ≤ 128 ∧ (shapeAt k).is ≤ 16 ∧ (shapeAt k).most ≤ 1024 := by
  have hall : ∀ s ∈ shapeList, s.ns ≤ 128 ∧ s.is ≤ 16 ∧ s.most ≤ 1024 := by
    unfold shapeList
    simp
  unfold shapeAt
  split
  · rename_i h
    have hl : shapeList.length = 25 := rfl
    have hk : k.toNat < shapeList.length := by omega
    have e : shapeList.getD k.toNat ⟨[], 0, 0, 0, 0, 0, 0⟩ = shapeList[k.toNat] := by simp [List.getD, hk]
    rw [e]; exact hall _ (List.getElem_mem hk)
  · decide

theorem fine_iff (x : Note) : x.err = 0 ↔ (1 ≤ x.kind ∧ x.kind ≤ 24) ∧ ((shapeAt x.kind).n ≤ x.ns.length ∧ x.ns.length ≤ (shapeAt x.kind).ns) ∧ ((shapeAt x.kind).i ≤ x.ids.length ∧ x.ids.length ≤ (shapeAt x.kind).is) ∧
    ((shapeAt x.kind).least ≤ x.bs.length ∧ x.bs.length ≤ (shapeAt x.kind).most) ∧ AllIn x.ns := by
  unfold Note.err noteErr
  simp only [Bool.and_eq_true, decide_eq_true_eq, Int.ofNat_le]
  constructor
  · intro h
    split at h
    · rename_i hk
      split at h
      · rename_i h2
        split at h
        · rename_i h3
          exact ⟨hk, h2.1, h2.2.1, h2.2.2, h3⟩
        · cases h
      · cases h
    · cases h
  · rintro ⟨h1, h2, h3, h4, h5⟩
    rw [if_pos h1, if_pos ⟨h2, h3, h4⟩, if_pos h5]

theorem put_le5 (n : Int) : (put n).length ≤ 5 := by rw [put_length]; unfold sizeN; (repeat' split) <;> omega
theorem sizeN_ne (n : Int) (h0 : 0 ≤ n) (h1 : n ≤ 2147483647) : decide (sizeN n = 0) = false := by
  have := (sizeN_pos n h0 h1).1
  simp; omega

/-- a writer of the call's own, beside the note -/
structure WB (w0 w : World) (x : Note) (aN : Option Addr) (cN : Nat) (aI : Option Addr) (cI : Nat) (aB : Option Addr) (cB : Nat) (b : Nat) (a : Option Addr) (cap : Nat) (out : List Int) : Prop where
  W : WAt w b false a cap out
  row : w.heap[w0.heap.size]? = some (.cells #[.int .i64 x.kind, .slice aN x.ns.length cN, .slice aI x.ids.length cI, .slice aB x.bs.length cB] 69 (0, 0))
  bel : Below w0.heap.size w0 w
  nb : w0.heap.size < b
  na : ∀ k, blk a = some k → w0.heap.size < k

section
variable {w0 w : World} {x : Note} {aN : Option Addr} {cN : Nat} {aI : Option Addr} {cI : Nat} {aB : Option Addr} {cB : Nat} {b : Nat} {a : Option Addr} {cap : Nat} {out : List Int}
theorem WB.wrote (h : WB w0 w x aN cN aI cI aB cB b a cap out) {out' : List Int} {e : Ending} {w' : World} (hw : Wrote w b false a out' e w') : ∃ a' cap', e = .returned (.tuple #[]) ∧ WB w0 w' x aN cN aI cI aB cB b a' cap' out' := by
  obtain ⟨a', cap', he, hW, hM⟩ := hw
  have hs := h.bel.size
  refine ⟨a', cap', he, hW, (hM.block _ (lt_of_row h.row) (by have := h.nb; omega) (fun e => by have := h.na _ e.symm; omega)).trans h.row, h.bel.trans (hM.below hs (by have := h.nb; omega) (fun k hk => by have := h.na k hk; omega)), h.nb, fun k hk => ?_⟩
  rcases hM.row with e | ⟨g, e, hg⟩
  · exact h.na k (by rw [← e]; exact hk)
  · rw [e] at hk; cases hk; have := lt_of_row h.row; omega
theorem WB.cells (h : WB w0 w x aN cN aI cI aB cB b a cap out) : w.cell? ⟨w0.heap.size, 0, none⟩ = some (.int .i64 x.kind) ∧ w.cell? ⟨w0.heap.size, 1, none⟩ = some (.slice aN x.ns.length cN) ∧ w.cell? ⟨w0.heap.size, 2, none⟩ = some (.slice aI x.ids.length cI) ∧ w.cell? ⟨w0.heap.size, 3, none⟩ = some (.slice aB x.bs.length cB) :=
  ⟨by rw [cell_of_row _ _ _ _ _ _ h.row]; rfl, by rw [cell_of_row _ _ _ _ _ _ h.row]; rfl, by rw [cell_of_row _ _ _ _ _ _ h.row]; rfl, by rw [cell_of_row _ _ _ _ _ _ h.row]; rfl⟩
theorem WB.below (h : WB w0 w x aN cN aI cI aB cB b a cap out) {w' : World} (hb : Below w.heap.size w w') : WB w0 w' x aN cN aI cI aB cB b a cap out :=
  ⟨h.W.below hb, (hb.block _ (lt_of_row h.row)).trans h.row, h.bel.trans (hb.mono h.bel.size), h.nb, h.na⟩
end

section
variable {w0 w : World} {x : Note} {aN : Option Addr} {cN : Nat} {aI : Option Addr} {cI : Nat} {aB : Option Addr} {cB : Nat} {b : Nat} {a : Option Addr} {cap : Nat} {out : List Int}
theorem WB.int (h : WB w0 w x aN cN aI cI aB cB b a cap out) (n : Int) (h0 : 0 ≤ n) (h1 : n ≤ 2147483647) (hlen : out.length ≤ 1000000) :
    Calls Try.prog 23 #[.pointer (some ⟨b, 0, none⟩), .int .i64 n] w fun e w' => ∃ a' cap', e = .returned (.tuple #[]) ∧ WB w0 w' x aN cN aI cI aB cB b a' cap' (out ++ put n) := by
  refine (wint_any n w b false a cap out h.W (by omega)).mono fun e w' hq => ?_
  rw [sizeN_ne n h0 h1] at hq
  exact h.wrote hq
theorem WB.id (h : WB w0 w x aN cN aI cI aB cB b a cap out) (ids : List Int) (hi : ids.length = 16 ∧ Bys ids) (hlen : out.length ≤ 1000000) :
    Calls Try.prog 29 #[.pointer (some ⟨b, 0, none⟩), .agg (bvals ids).toArray] w fun e w' => ∃ a' cap', e = .returned (.tuple #[]) ∧ WB w0 w' x aN cN aI cI aB cB b a' cap' (out ++ ids) :=
  (wid_any w b false a cap out h.W ids hi.2 hi.1 (by omega)).mono fun _ _ hq => h.wrote hq
theorem WB.bytes (h : WB w0 w x aN cN aI cI aB cB b a cap out) (hn : NoteIn w0 x aN aI aB) (hb : x.bs.length ≤ 1024) (hlen : out.length ≤ 1000000) :
    Calls Try.prog 25 #[.pointer (some ⟨b, 0, none⟩), .slice aB x.bs.length cB] w fun e w' => ∃ a' cap', e = .returned (.tuple #[]) ∧ WB w0 w' x aN cN aI cI aB cB b a' cap' (out ++ put x.bs.length ++ x.bs) := by
  refine (wbytes_any w b false a cap out h.W aB cB x.bs (fun r' w1 hm => ?_) hn.wbs (by omega)).mono fun e w' hq => ?_
  · exact hn.bs.imp _root_.id (fun k => k.below (h.bel.trans (hm.below h.bel.size (by have := h.nb; omega) (fun k hk => by have := h.na k hk; omega))))
  · rw [sizeN_ne _ (by omega) (by omega)] at hq
    exact h.wrote hq
end

/-- what Bytes leaves -/
def BytesEnd (w : World) (x : Note) (e : Ending) (w' : World) : Prop :=
  Below w.heap.size w w' ∧ if x.err = 0 then ∃ a cap, e = .returned (.tuple #[.slice a (noteBytes x).length cap, .int .i64 0]) ∧ Owns w' a cap (noteBytes x) ∧ (∀ k, blk a = some k → w.heap.size ≤ k)
    else e = .returned (.tuple #[.slice none 0 0, .int .i64 x.err])

theorem flat_take_succ (ns : List Int) (k : Nat) (hk : k < ns.length) : (ns.take (k + 1)).flatMap put = (ns.take k).flatMap put ++ put (ns.getD k 0) := by
  rw [List.take_add_one, List.flatMap_append, List.getElem?_eq_getElem hk]
  have : ns.getD k 0 = ns[k] := by simp [List.getD, hk]
  rw [this]
  simp
theorem flat_ids_succ (ids : List (List Int)) (k : Nat) (hk : k < ids.length) : (ids.take (k + 1)).flatten = (ids.take k).flatten ++ ids.getD k [] := by
  rw [List.take_add_one, List.flatten_append, List.getElem?_eq_getElem hk]
  have : ids.getD k [] = ids[k] := by simp [List.getD, hk]
  rw [this]
  simp

set_option maxRecDepth 1000000 in
set_option maxHeartbeats 2000000 in
theorem bytes_any (w : World) (x : Note) (aN : Option Addr) (cN : Nat) (aI : Option Addr) (cI : Nat) (aB : Option Addr) (cB : Nat) (h : NoteIn w x aN aI aB) :
    Calls Try.prog 51 #[x.val aN cN aI cI aB cB] w fun e w' => BytesEnd w x e w' := by
  have hB0 : Below w.heap.size w (w.alloc (.cells #[.int .i64 x.kind, .slice aN x.ns.length cN, .slice aI x.ids.length cI, .slice aB x.bs.length cB] 69)) := (Below.refl _ _).alloc (Nat.le_refl _) _
  have h0 := h.below hB0
  have hck := check_any x.kind x.ns x.ids.length x.bs.length aN aI aB cN cI cB _ h0.ns h0.ln
  have Hck := Lib.hid hck
  have H := Lib.hid h
  have HB0 := Lib.hid hB0
  obtain ⟨E, hE⟩ : ∃ E, x.err = E := ⟨_, rfl⟩
  rw [show noteErr x.kind x.ns x.ids.length x.bs.length = E from hE] at Hck
  have HE := Lib.hid hE
  have hrow := heap_alloc_new w (.cells #[.int .i64 x.kind, .slice aN x.ns.length cN, .slice aI x.ids.length cI, .slice aB x.bs.length cB] 69)
  have Hrow := Lib.hid hrow
  unfold Note.val
  clear hck h hB0 h0 hE hrow
  go_enter Try.func51, Try.ntmps51
  go_wp2_with fail
  refine Hck.out.mono ?_
  rintro e w1 ⟨rfl, hB⟩
  have HB1 := Lib.hid (HB0.out.trans (hB.mono (by simp)))
  have HR1 := Lib.hid ((hB.block _ (lt_of_row Hrow.out)).trans Hrow.out)
  clear hB Hck Hrow HB0
  by_cases hz : E = 0
  · subst hz
    go_wp2_with fail
    refine (new_any _).mono ?_
    rintro e w2 ⟨rfl, rfl⟩
    have hwb : WB w (w1.alloc (.cells #[.bool true, .bool false, .slice none 0 0] 60)) x aN cN aI cI aB cB w1.heap.size none 0 [] :=
      ⟨WAt.new w1, row_alloc HR1.out _, HB1.out.alloc HB1.out.size _, lt_of_row HR1.out, fun k hk => by cases hk⟩
    obtain ⟨hk, hn, hi, hb, hall⟩ := (fine_iff x).1 HE.out
    have hcap := shape_caps x.kind
    have hnl : x.ns.length ≤ 128 := by omega
    have hil : x.ids.length ≤ 16 := by omega
    have hbl : x.bs.length ≤ 1024 := by omega
    have HAll := Lib.hid hall
    have HK := Lib.hid hk
    clear hn hi hb hall hk hcap
    generalize w1.alloc (.cells #[.bool true, .bool false, .slice none 0 0] 60) = w2 at *
    generalize w1.heap.size = b at *
    obtain ⟨c0, c1, c2, c3⟩ := hwb.cells
    have HW := Lib.hid hwb
    clear hwb HB1 HR1
    go_wp2_with fail
    obtain ⟨hk1, hk24⟩ := HK.out
    refine (HW.out.int _ (by omega) (by omega) (by simp)).mono ?_
    rintro e w3 ⟨a3, cap3, rfl, hwb⟩
    clear c0 c1 c2 c3
    obtain ⟨c0, c1, c2, c3⟩ := hwb.cells
    have HW3 := Lib.hid hwb
    clear hwb HW
    go_wp2_with fail
    have hp1 := put_le5 x.kind
    refine (HW3.out.int _ (by omega) (by omega) (by simp; omega)).mono ?_
    rintro e w4 ⟨a4, cap4, rfl, hwb⟩
    clear c0 c1 c2 c3
    obtain ⟨c0, c1, c2, c3⟩ := hwb.cells
    have hp2 := put_le5 x.ns.length
    generalize hO : [] ++ put x.kind ++ put x.ns.length = out at *
    have HO := Lib.hid hO
    have hol : out.length ≤ 10 := by rw [← hO]; simp; omega
    have HW4 := Lib.hid hwb
    clear hwb HW3 hp1 hp2 hO
    go_wp2_with fail
    clear c0 c1 c2 c3
    go_loopg [28] x.ns.length (fun kx s wr => ∃ (k : Nat) (a : Option Addr) (cap : Nat), k ≤ x.ns.length ∧ s = .int .i64 (k : Int) ∧ x.ns.length - k ≤ kx ∧ ((x.ns.take k).flatMap put).length ≤ 5 * k ∧ Hid (WB w wr x aN cN aI cI aB cB b a cap (out ++ (x.ns.take k).flatMap put)))
    case atStart => exact ⟨0, a4, cap4, by omega, rfl, by omega, by simp, by rw [List.take_zero, List.flatMap_nil, List.append_nil]; exact HW4⟩
    case round =>
      clear HW4
      obtain ⟨k, a5, cap5, hk, rfl, hkx, hkl, HW⟩ := hrel
      by_cases hlt : k < x.ns.length
      · have hN := H.out.ns.below HW.out.bel (Nat.le_refl _)
        obtain ⟨g, off, rfl, hg, hc⟩ := hN.resolve_left (fun e => by rw [e] at hlt; simp at hlt)
        have hck := hc k hlt
        have hv : 0 ≤ x.ns.getD k 0 ∧ x.ns.getD k 0 ≤ 2147483647 := by
          have : x.ns.getD k 0 = x.ns[k] := by simp [List.getD, hlt]
          rw [this]; exact HAll.out _ (List.getElem_mem hlt)
        have hs := flat_take_succ x.ns k hlt
        have HS := Lib.hid hs
        have hltz : (k : Int) < (x.ns.length : Int) := by omega
        clear hs hc hN
        generalize x.ns.getD k 0 = v at *
        have hp := put_le5 v
        obtain ⟨hv0, hv1⟩ := hv
        go_wp2_with fail
        refine (HW.out.int v hv0 hv1 (by rw [List.length_append]; omega)).mono ?_
        rintro e w6 ⟨a6, cap6, rfl, hwb⟩
        rw [List.append_assoc, ← HS.out] at hwb
        have HW6 := Lib.hid hwb
        have hkl2 : ((x.ns.take (k + 1)).flatMap put).length ≤ 5 * (k + 1) := by rw [HS.out, List.length_append]; omega
        clear hwb
        go_wp2_with fail
        go_roundg (x.ns.length - (k + 1))
        case measure => omega
        case rel => exact ⟨k + 1, a6, cap6, by omega, by go_num, by omega, hkl2, HW6⟩
      · obtain rfl : k = x.ns.length := by omega
        rw [List.take_length] at HW hkl
        obtain ⟨c0, c1, c2, c3⟩ := HW.out.cells
        go_wp2_with fail
        refine (HW.out.int _ (by omega) (by omega) (by rw [List.length_append]; omega)).mono ?_
        rintro e w6 ⟨a6, cap6, rfl, hwb⟩
        clear c0 c1 c2 c3
        obtain ⟨c0, c1, c2, c3⟩ := hwb.cells
        have hp2 := put_le5 x.ids.length
        generalize hO2 : out ++ x.ns.flatMap put ++ put x.ids.length = out2 at *
        have HO2 := Lib.hid hO2
        have hol2 : out2.length ≤ 1000 := by rw [← hO2, List.length_append, List.length_append]; omega
        have HW6 := Lib.hid hwb
        clear hwb HW hkl hp2 hO2
        go_wp2_with fail
        clear c0 c1 c2 c3
        go_loopg [44] x.ids.length (fun kx s wr => ∃ (k : Nat) (a : Option Addr) (cap : Nat), k ≤ x.ids.length ∧ s = .int .i64 (k : Int) ∧ x.ids.length - k ≤ kx ∧ ((x.ids.take k).flatten).length ≤ 16 * k ∧ Hid (WB w wr x aN cN aI cI aB cB b a cap (out2 ++ (x.ids.take k).flatten)))
        case atStart => exact ⟨0, a6, cap6, by omega, rfl, by omega, by simp, by rw [List.take_zero, List.flatten_nil, List.append_nil]; exact HW6⟩
        case round =>
          clear HW6
          obtain ⟨k, a7, cap7, hk, rfl, hkx, hkl, HW⟩ := hrel
          by_cases hlt : k < x.ids.length
          · have hN := H.out.ids.below HW.out.bel (Nat.le_refl _)
            obtain ⟨g, off, rfl, hg, hc⟩ := hN.resolve_left (fun e => by rw [e] at hlt; simp at hlt)
            have hck := hc k hlt
            have hv := H.out.wid.get hlt
            have hs := flat_ids_succ x.ids k hlt
            have HS := Lib.hid hs
            have hltz : (k : Int) < (x.ids.length : Int) := by omega
            clear hs hc hN
            generalize x.ids.getD k [] = v at *
            have HCK := Lib.hid hck
            have HV := Lib.hid hv
            clear hck hv
            have hsz : (Try.prog.info? 37).map (·.size) = some (bvals v).toArray.size := by rw [List.size_toArray, bvals_length, HV.out.1]; kernel_rfl
            have HSZ := Lib.hid hsz
            have hAl : Below wr.heap.size wr (wr.alloc (.cells (bvals z16).toArray 37)) := (Below.refl _ _).alloc (Nat.le_refl _) _
            have hnew := heap_alloc_new wr (.cells (bvals z16).toArray 37)
            have hw7 := (HW.out.below hAl)
            have HNew := Lib.hid hnew
            have HW7 := Lib.hid hw7
            clear hsz hAl hnew hw7
            go_wp2_with (first
              | refine wpList_load_mid rfl 37 (.tmp 46) rfl g (off + k * 16) rfl (bvals v) _ HCK.out Try.underlying37 rfl (by rw [bvals_length, HV.out.1]; kernel_rfl) ?_
              | refine wpList_store_row rfl 37 (.tmp 9) (.tmp 47) rfl wr.heap.size _ rfl rfl 37 _ HNew.out HSZ.out (by rw [List.size_toArray, List.size_toArray, bvals_length, bvals_length, HV.out.1]; rfl) (all_oneCell_toArray (bvals_one v)) ?_
              | refine wpList_load_row rfl 37 (.tmp 9) rfl wr.heap.size rfl 37 (bvals v).toArray (0, 0) _ (setRow_heap _ _ _ _ _ _ HNew.out) Try.underlying37 rfl HSZ.out ?_)
            have hbl : Below wr.heap.size wr ((wr.alloc (.cells (bvals z16).toArray 37)).setRow wr.heap.size (bvals v).toArray) := ((Below.refl _ _).alloc (Nat.le_refl _) _).trans ((Moved.setRow _ _ _).below (by simp) (Nat.le_refl _) (fun k hk => by cases hk))
            have HW8 := Lib.hid (HW.out.below hbl)
            clear hbl HNew HW7 HSZ HCK
            refine (HW8.out.id v HV.out (by rw [List.length_append]; omega)).mono ?_
            rintro e w8 ⟨a8, cap8, rfl, hwb⟩
            rw [List.append_assoc, ← HS.out] at hwb
            have HW9 := Lib.hid hwb
            have hkl2 : ((x.ids.take (k + 1)).flatten).length ≤ 16 * (k + 1) := by rw [HS.out, List.length_append, HV.out.1]; omega
            clear hwb HW HW8
            go_wp2_with fail
            go_roundg (x.ids.length - (k + 1))
            case measure => omega
            case rel => exact ⟨k + 1, a8, cap8, by omega, by go_num, by omega, hkl2, HW9⟩
          · obtain rfl : k = x.ids.length := by omega
            rw [List.take_length] at HW hkl
            obtain ⟨c0, c1, c2, c3⟩ := HW.out.cells
            go_wp2_with fail
            refine (HW.out.bytes H.out hbl (by rw [List.length_append]; omega)).mono ?_
            rintro e w8 ⟨a8, cap8, rfl, hwb⟩
            have hOut : out2 ++ x.ids.flatten ++ put x.bs.length ++ x.bs = noteBytes x := by
              rw [← HO2.out, ← HO.out]
              unfold noteBytes
              simp only [List.append_assoc, List.nil_append]
            have hp3 := put_le5 x.bs.length
            have hlen : (noteBytes x).length ≤ 100000 := by rw [← hOut]; simp only [List.length_append]; omega
            rw [hOut] at hwb
            have HW9 := Lib.hid hwb
            clear hwb HW hOut hp3 c0 c1 c2 c3
            go_wp2_with fail
            refine (out_good _ _ _ _ _ HW9.out.W (by omega)).mono ?_
            rintro e w9 ⟨a9, cap9, rfl, own9, _, hb9, hn9⟩
            have hbel := HW9.out.bel
            go_wp2_with fail
            refine bodyPost_ret (v := .tuple #[.slice a9 (noteBytes x).length cap9, .int .i64 0]) (by simp [results, Try.results51]) rfl ⟨hbel.trans (hb9.mono hbel.size), ?_⟩
            rw [if_pos HE.out]
            exact ⟨a9, cap9, rfl, own9, fun j hj => Nat.le_trans hbel.size (hn9 j hj)⟩
  · have hzb : (E != 0) = true := by simpa using hz
    go_wp2_with fail
    refine bodyPost_ret (v := .tuple #[.slice none 0 0, .int .i64 E]) (by simp [results, Try.results51]) rfl ⟨HB1.out, ?_⟩
    rw [if_neg (by rw [HE.out]; exact hz), HE.out]

end Go.Proofs.Ytkfhljggdcajpaa
