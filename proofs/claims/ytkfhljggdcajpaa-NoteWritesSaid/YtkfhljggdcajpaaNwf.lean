/-
  Package note: Bytes, what is told being known in its whole room.
-/
import Derived.Test.YtkfhljggdcajpaaNwr
import Derived.Test.YtkfhljggdcajpaaKitOut
namespace Go.Proofs.Ytkfhljggdcajpaa
open Go.RowKit Go.Sort

/-- what Bytes leaves -/
def BytesFull (w : World) (x : Note) (e : Ending) (w' : World) : Prop :=
  Below w.heap.size w w' ∧ if x.err = 0 then ∃ a cap, e = .returned (.tuple #[.slice a (noteBytes x).length cap, .int .i64 0]) ∧ Full w' a cap (noteBytes x) ∧ (∀ k, blk a = some k → w.heap.size ≤ k)
    else e = .returned (.tuple #[.slice none 0 0, .int .i64 x.err])

set_option maxRecDepth 1000000 in
set_option maxHeartbeats 2000000 in
theorem bytes_full_any (w : World) (x : Note) (aN : Option Addr) (cN : Nat) (aI : Option Addr) (cI : Nat) (aB : Option Addr) (cB : Nat) (h : NoteIn w x aN aI aB) :
    Calls Try.prog 51 #[x.val aN cN aI cI aB cB] w fun e w' => BytesFull w x e w' := by
  have hB0 : Below w.heap.size w (w.alloc (.cells #[.int .i64 x.kind, .slice aN x.ns.length cN, .slice aI x.ids.length cI, .slice aB x.bs.length cB] 69)) := (Below.refl _ _).alloc (Nat.le_refl _) _
  have h0 := h.below hB0
  have hck := check_any x.kind x.ns x.ids.length x.bs.length aN aI aB cN cI cB _ h0.ns h0.ln
  have Hck := Lib.hid hck
  have H := Lib.hid h
  have HB0 := Lib.hid hB0
  obtain ⟨E, hE⟩ : ∃ E, x.err = E := ⟨_, rfl⟩
  rw [show noteErr x.kind x.ns x.ids.length x.bs.length = E from hE] at Hck
  have HE := Lib.hid hE
  have hrow := heap_alloc_new w (.cells #[.int .i64 x.kind, .slice aN x.ns.length cN, .slice aI x.ids.length cI, .slice aB x.bs.length cB] 69)
  have Hrow := Lib.hid hrow
  unfold Note.val
  clear hck h hB0 h0 hE hrow
  go_enter Try.func51, Try.ntmps51
  go_wp2_with fail
  refine Hck.out.mono ?_
  rintro e w1 ⟨rfl, hB⟩
  have HB1 := Lib.hid (HB0.out.trans (hB.mono (by simp)))
  have HR1 := Lib.hid ((hB.block _ (lt_of_row Hrow.out)).trans Hrow.out)
  clear hB Hck Hrow HB0
  by_cases hz : E = 0
  · subst hz
    go_wp2_with fail
    refine (new_any _).mono ?_
    rintro e w2 ⟨rfl, rfl⟩
    have hwb : WB w (w1.alloc (.cells #[.bool true, .bool false, .slice none 0 0] 60)) x aN cN aI cI aB cB w1.heap.size none 0 [] :=
      ⟨WAt.new w1, row_alloc HR1.out _, HB1.out.alloc HB1.out.size _, lt_of_row HR1.out, fun k hk => by cases hk⟩
    obtain ⟨hk, hn, hi, hb, hall⟩ := (fine_iff x).1 HE.out
    have hcap := shape_caps x.kind
    have hnl : x.ns.length ≤ 128 := by omega
    have hil : x.ids.length ≤ 16 := by omega
    have hbl : x.bs.length ≤ 1024 := by omega
    have HAll := Lib.hid hall
    have HK := Lib.hid hk
    clear hn hi hb hall hk hcap
    generalize w1.alloc (.cells #[.bool true, .bool false, .slice none 0 0] 60) = w2 at *
    generalize w1.heap.size = b at *
    obtain ⟨c0, c1, c2, c3⟩ := hwb.cells
    have HW := Lib.hid hwb
    clear hwb HB1 HR1
    go_wp2_with fail
    obtain ⟨hk1, hk24⟩ := HK.out
    refine (HW.out.int _ (by omega) (by omega) (by simp)).mono ?_
    rintro e w3 ⟨a3, cap3, rfl, hwb⟩
    clear c0 c1 c2 c3
    obtain ⟨c0, c1, c2, c3⟩ := hwb.cells
    have HW3 := Lib.hid hwb
    clear hwb HW
    go_wp2_with fail
    have hp1 := put_le5 x.kind
    refine (HW3.out.int _ (by omega) (by omega) (by simp; omega)).mono ?_
    rintro e w4 ⟨a4, cap4, rfl, hwb⟩
    clear c0 c1 c2 c3
    obtain ⟨c0, c1, c2, c3⟩ := hwb.cells
    have hp2 := put_le5 x.ns.length
    generalize hO : [] ++ put x.kind ++ put x.ns.length = out at *
    have HO := Lib.hid hO
    have hol : out.length ≤ 10 := by rw [← hO]; simp; omega
    have HW4 := Lib.hid hwb
    clear hwb HW3 hp1 hp2 hO
    go_wp2_with fail
    clear c0 c1 c2 c3
    go_loopg [28] x.ns.length (fun kx s wr => ∃ (k : Nat) (a : Option Addr) (cap : Nat), k ≤ x.ns.length ∧ s = .int .i64 (k : Int) ∧ x.ns.length - k ≤ kx ∧ ((x.ns.take k).flatMap put).length ≤ 5 * k ∧ Hid (WB w wr x aN cN aI cI aB cB b a cap (out ++ (x.ns.take k).flatMap put)))
    case atStart => exact ⟨0, a4, cap4, by omega, rfl, by omega, by simp, by rw [List.take_zero, List.flatMap_nil, List.append_nil]; exact HW4⟩
    case round =>
      clear HW4
      obtain ⟨k, a5, cap5, hk, rfl, hkx, hkl, HW⟩ := hrel
      by_cases hlt : k < x.ns.length
      · have hN := H.out.ns.below HW.out.bel (Nat.le_refl _)
        obtain ⟨g, off, rfl, hg, hc⟩ := hN.resolve_left (fun e => by rw [e] at hlt; simp at hlt)
        have hck := hc k hlt
        have hv : 0 ≤ x.ns.getD k 0 ∧ x.ns.getD k 0 ≤ 2147483647 := by
          have : x.ns.getD k 0 = x.ns[k] := by simp [List.getD, hlt]
          rw [this]; exact HAll.out _ (List.getElem_mem hlt)
        have hs := flat_take_succ x.ns k hlt
        have HS := Lib.hid hs
        have hltz : (k : Int) < (x.ns.length : Int) := by omega
        clear hs hc hN
        generalize x.ns.getD k 0 = v at *
        have hp := put_le5 v
        obtain ⟨hv0, hv1⟩ := hv
        go_wp2_with fail
        refine (HW.out.int v hv0 hv1 (by rw [List.length_append]; omega)).mono ?_
        rintro e w6 ⟨a6, cap6, rfl, hwb⟩
        rw [List.append_assoc, ← HS.out] at hwb
        have HW6 := Lib.hid hwb
        have hkl2 : ((x.ns.take (k + 1)).flatMap put).length ≤ 5 * (k + 1) := by rw [HS.out, List.length_append]; omega
        clear hwb
        go_wp2_with fail
        go_roundg (x.ns.length - (k + 1))
        case measure => omega
        case rel => exact ⟨k + 1, a6, cap6, by omega, by go_num, by omega, hkl2, HW6⟩
      · obtain rfl : k = x.ns.length := by omega
        rw [List.take_length] at HW hkl
        obtain ⟨c0, c1, c2, c3⟩ := HW.out.cells
        go_wp2_with fail
        refine (HW.out.int _ (by omega) (by omega) (by rw [List.length_append]; omega)).mono ?_
        rintro e w6 ⟨a6, cap6, rfl, hwb⟩
        clear c0 c1 c2 c3
        obtain ⟨c0, c1, c2, c3⟩ := hwb.cells
        have hp2 := put_le5 x.ids.length
        generalize hO2 : out ++ x.ns.flatMap put ++ put x.ids.length = out2 at *
        have HO2 := Lib.hid hO2
        have hol2 : out2.length ≤ 1000 := by rw [← hO2, List.length_append, List.length_append]; omega
        have HW6 := Lib.hid hwb
        clear hwb HW hkl hp2 hO2
        go_wp2_with fail
        clear c0 c1 c2 c3
        go_loopg [44] x.ids.length (fun kx s wr => ∃ (k : Nat) (a : Option Addr) (cap : Nat), k ≤ x.ids.length ∧ s = .int .i64 (k : Int) ∧ x.ids.length - k ≤ kx ∧ ((x.ids.take k).flatten).length ≤ 16 * k ∧ Hid (WB w wr x aN cN aI cI aB cB b a cap (out2 ++ (x.ids.take k).flatten)))
        case atStart => exact ⟨0, a6, cap6, by omega, rfl, by omega, by simp, by rw [List.take_zero, List.flatten_nil, List.append_nil]; exact HW6⟩
        case round =>
          clear HW6
          obtain ⟨k, a7, cap7, hk, rfl, hkx, hkl, HW⟩ := hrel
          by_cases hlt : k < x.ids.length
          · have hN := H.out.ids.below HW.out.bel (Nat.le_refl _)
            obtain ⟨g, off, rfl, hg, hc⟩ := hN.resolve_left (fun e => by rw [e] at hlt; simp at hlt)
            have hck := hc k hlt
            have hv := H.out.wid.get hlt
            have hs := flat_ids_succ x.ids k hlt
            have HS := Lib.hid hs
            have hltz : (k : Int) < (x.ids.length : Int) := by omega
            clear hs hc hN
            generalize x.ids.getD k [] = v at *
            have HCK := Lib.hid hck
            have HV := Lib.hid hv
            clear hck hv
            have hsz : (Try.prog.info? 37).map (·.size) = some (bvals v).toArray.size := by rw [List.size_toArray, bvals_length, HV.out.1]; kernel_rfl
            have HSZ := Lib.hid hsz
            have hAl : Below wr.heap.size wr (wr.alloc (.cells (bvals z16).toArray 37)) := (Below.refl _ _).alloc (Nat.le_refl _) _
            have hnew := heap_alloc_new wr (.cells (bvals z16).toArray 37)
            have hw7 := (HW.out.below hAl)
            have HNew := Lib.hid hnew
            have HW7 := Lib.hid hw7
            clear hsz hAl hnew hw7
            go_wp2_with (first
              | refine wpList_load_mid rfl 37 (.tmp 46) rfl g (off + k * 16) rfl (bvals v) _ HCK.out Try.underlying37 rfl (by rw [bvals_length, HV.out.1]; kernel_rfl) ?_
              | refine wpList_store_row rfl 37 (.tmp 9) (.tmp 47) rfl wr.heap.size _ rfl rfl 37 _ HNew.out HSZ.out (by rw [List.size_toArray, List.size_toArray, bvals_length, bvals_length, HV.out.1]; rfl) (all_oneCell_toArray (bvals_one v)) ?_
              | refine wpList_load_row rfl 37 (.tmp 9) rfl wr.heap.size rfl 37 (bvals v).toArray (0, 0) _ (setRow_heap _ _ _ _ _ _ HNew.out) Try.underlying37 rfl HSZ.out ?_)
            have hbl : Below wr.heap.size wr ((wr.alloc (.cells (bvals z16).toArray 37)).setRow wr.heap.size (bvals v).toArray) := ((Below.refl _ _).alloc (Nat.le_refl _) _).trans ((Moved.setRow _ _ _).below (by simp) (Nat.le_refl _) (fun k hk => by cases hk))
            have HW8 := Lib.hid (HW.out.below hbl)
            clear hbl HNew HW7 HSZ HCK
            refine (HW8.out.id v HV.out (by rw [List.length_append]; omega)).mono ?_
            rintro e w8 ⟨a8, cap8, rfl, hwb⟩
            rw [List.append_assoc, ← HS.out] at hwb
            have HW9 := Lib.hid hwb
            have hkl2 : ((x.ids.take (k + 1)).flatten).length ≤ 16 * (k + 1) := by rw [HS.out, List.length_append, HV.out.1]; omega
            clear hwb HW HW8
            go_wp2_with fail
            go_roundg (x.ids.length - (k + 1))
            case measure => omega
            case rel => exact ⟨k + 1, a8, cap8, by omega, by go_num, by omega, hkl2, HW9⟩
          · obtain rfl : k = x.ids.length := by omega
            rw [List.take_length] at HW hkl
            obtain ⟨c0, c1, c2, c3⟩ := HW.out.cells
            go_wp2_with fail
            refine (HW.out.bytes H.out hbl (by rw [List.length_append]; omega)).mono ?_
            rintro e w8 ⟨a8, cap8, rfl, hwb⟩
            have hOut : out2 ++ x.ids.flatten ++ put x.bs.length ++ x.bs = noteBytes x := by
              rw [← HO2.out, ← HO.out]
              unfold noteBytes
              simp only [List.append_assoc, List.nil_append]
            have hp3 := put_le5 x.bs.length
            have hlen : (noteBytes x).length ≤ 100000 := by rw [← hOut]; simp only [List.length_append]; omega
            rw [hOut] at hwb
            have HW9 := Lib.hid hwb
            clear hwb HW hOut hp3 c0 c1 c2 c3
            go_wp2_with fail
            refine (outf_any _ _ false _ _ _ HW9.out.W (by omega)).mono ?_
            simp only [Bool.false_eq_true, if_false]
            rintro e w9 ⟨a9, cap9, rfl, own9, _, hb9, hn9⟩
            have hbel := HW9.out.bel
            go_wp2_with fail
            refine bodyPost_ret (v := .tuple #[.slice a9 (noteBytes x).length cap9, .int .i64 0]) (by simp [results, Try.results51]) rfl ⟨hbel.trans (hb9.mono hbel.size), ?_⟩
            rw [if_pos HE.out]
            exact ⟨a9, cap9, rfl, own9, fun j hj => Nat.le_trans hbel.size (hn9 j hj)⟩
  · have hzb : (E != 0) = true := by simpa using hz
    go_wp2_with fail
    refine bodyPost_ret (v := .tuple #[.slice none 0 0, .int .i64 E]) (by simp [results, Try.results51]) rfl ⟨HB1.out, ?_⟩
    rw [if_neg (by rw [HE.out]; exact hz), HE.out]

end Go.Proofs.Ytkfhljggdcajpaa
