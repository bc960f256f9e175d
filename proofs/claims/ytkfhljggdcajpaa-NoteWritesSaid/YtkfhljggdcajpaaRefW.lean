/-
  The document's answer for layer 1 (package satchelref01): the writer.
-/
import Derived.Test.YtkfhljggdcajpaaRef
namespace Go.Proofs.Ytkfhljggdcajpaa
open Go.RowKit

/-- the document's writer in block b -/
structure XAt (w : World) (b : Nat) (bad : Bool) (a : Option Addr) (cap : Nat) (bs : List Int) : Prop where
  str : w.heap[b]? = some (.cells #[.slice a bs.length cap, .bool bad] 34 (0, 0))
  own : Owns w a cap bs
  apart : blk a ≠ some b
  bys : Bys bs

def XWrote (w : World) (b : Nat) (bad : Bool) (a : Option Addr) (bs : List Int) (e : Ending) (w' : World) : Prop :=
  ∃ a' cap', e = .returned (.tuple #[]) ∧ XAt w' b bad a' cap' bs ∧ Moved b (blk a) (blk a') w w'

section
variable {w V w2 : World} {b : Nat} {bad : Bool} {a : Option Addr} {cap : Nat} {bs : List Int}
theorem XAt.lt (hw : XAt w b bad a cap bs) : b < w.heap.size := lt_of_row hw.str
theorem XAt.below (hw : XAt w b bad a cap bs) (hb : Below w.heap.size w V) : XAt V b bad a cap bs :=
  ⟨(hb.block b hw.lt).trans hw.str, hw.own.of_block fun k _ hlt => hb.block k hlt, hw.apart, hw.bys⟩
theorem XAt.str_grown (hw : XAt w b bad a cap bs) (hV : Below w.heap.size w V) (hg : V.grownBy w2 (blk a)) : w2.heap[b]? = some (.cells #[.slice a bs.length cap, .bool bad] 34 (0, 0)) :=
  (hg.block b (by have := hw.lt; have := hV.size; omega) (fun e => hw.apart e.symm)).trans ((hV.block b hw.lt).trans hw.str)
theorem xwrote_store (hw : XAt w b bad a cap bs) (hV : Below w.heap.size w V) {zs : List Int} {a' : Option Addr} {cap' : Nat} (hz : Bys zs) (hown : Owns w2 a' cap' (bs ++ zs)) (hg : V.grownBy w2 (blk a)) (hat : blk a' = blk a ∨ blk a' = some V.heap.size) :
    XWrote w b bad a (bs ++ zs) (.returned (.tuple #[])) (w2.setCell ⟨b, 0, none⟩ (.slice a' (bs.length + zs.length) cap')) := by
  have hlt := hw.lt
  have hvs := hV.size
  have hap : blk a' ≠ some b := by
    rcases hat with h | h
    · rw [h]; exact hw.apart
    · rw [h]; intro e; cases e; omega
  refine ⟨a', cap', rfl, ⟨?_, hown.of_block fun k hk _ => heap_setCell_other _ _ _ _ (fun e => hap (by rw [hk, e])), hap, hw.bys.append hz⟩, ?_⟩
  · rw [heap_setCell_same _ _ _ _ _ _ (hw.str_grown hV hg), List.length_append]
    rfl
  · refine ⟨hg.os.trans hV.os, hg.tape.trans hV.tape, hg.output.trans hV.output, ?_, fun i hi hb hr => ?_, ?_⟩
    · have := hg.size
      simp [World.setCell]; omega
    · rw [heap_setCell_other _ _ _ _ hb, hg.block i (by omega) hr, hV.block i hi]
    · rcases hat with h | h
      · exact .inl h
      · exact .inr ⟨_, h, hvs⟩
theorem XWrote.after {w1 : World} {bad' : Bool} {a1 : Option Addr} {bs' : List Int} {e : Ending} (hm : Moved b (blk a) (blk a1) w w1) (h : XWrote w1 b bad' a1 bs' e w2) : XWrote w b bad' a bs' e w2 := by
  obtain ⟨a', cap', he, hw, hm'⟩ := h
  exact ⟨a', cap', he, hw, hm.trans hm'⟩
theorem XAt.setBad (hw : XAt w b bad a cap bs) : XAt (w.setCell ⟨b, 1, none⟩ (.bool true)) b true a cap bs :=
  ⟨by rw [heap_setCell_same _ _ _ _ _ _ hw.str]; rfl, hw.own.of_block fun k hk _ => heap_setCell_other _ _ _ _ (fun e => hw.apart (by rw [hk, e])), hw.apart, hw.bys⟩
end

theorem wp_at {P : Program} {c : Code} {Q : Exit → Act → World → Prop} {a : Act} (W : World) (h : ∀ W', W' = W → Code.wp P c Q a W') : Code.wp P c Q a W := h W rfl

set_option maxRecDepth 100000 in
set_option maxHeartbeats 800000 in
theorem xint_any (n : Int) (w : World) (b : Nat) (bad : Bool) (a : Option Addr) (cap : Nat) (bs : List Int) (hw : XAt w b bad a cap bs) (hlen : bs.length + 5 ≤ 140737488355328) :
    Calls Try.prog 24 #[.pointer (some ⟨b, 0, none⟩), .int .i64 n] w fun e w' => XWrote w b (bad || decide (sizeN n = 0)) a (bs ++ put n) e w' := by
  have hlt := hw.lt
  have c0 : w.cell? ⟨b, 0, none⟩ = some (.slice a bs.length cap) := by rw [cell_of_row w b 0 _ _ _ hw.str]; rfl
  have c1 : w.cell? ⟨b, 1, none⟩ = some (.bool bad) := by rw [cell_of_row w b 1 _ _ _ hw.str]; rfl
  have f1 : w.frozen? ⟨b, 1, none⟩ = false := frozen_of_row w b 1 _ _ hw.str
  have hpl : (put n).length ≤ 5 := by rw [put_length]; unfold sizeN; (repeat' split) <;> omega
  have HW := Lib.hid hw
  have HP := Lib.hid (put_bys n)
  clear hw
  by_cases hz : sizeN n = 0
  · have hM : Moved b (blk a) (blk a) w (w.setCell ⟨b, 1, none⟩ (.bool true)) := ⟨rfl, rfl, rfl, by simp [World.setCell], fun k _ hk _ => heap_setCell_other _ _ _ _ hk, .inl rfl⟩
    have hb' : (bad || decide (sizeN n = 0)) = true := by rw [hz]; simp
    have HX : Hid (XAt (w.setCell ⟨b, 1, none⟩ (.bool true)) b true a cap bs) := Lib.hid HW.out.setBad
    rw [hb']
    clear hb' HW
    have HM := Lib.hid hM
    clear hM
    go_enter Try.func24, Try.ntmps24
    go_wp2_with fail
    refine (rsize_any _ _).mono ?_
    rintro e w1 ⟨rfl, rfl⟩
    go_wp2_with fail
    refine wp_at _ (fun W hW => ?_)
    rw [← hW] at HX HM
    clear hW
    clear c0 c1 f1 hlt
    have hlt := HX.out.lt
    have c0 : W.cell? ⟨b, 0, none⟩ = some (.slice a bs.length cap) := by rw [cell_of_row W b 0 _ _ _ HX.out.str]; rfl
    go_region_law (first
      | (go_simp; go_at_call 66; refine (rput_any n _).mono ?_; rintro e w1 ⟨a1, cap1, rfl, own1, hb1, hn1⟩; have hb1' : Below W.heap.size W w1 := (Below.refl W.heap.size W).drew.trans hb1; have c01 : w1.cell? ⟨b, 0, none⟩ = some (.slice a bs.length cap) := (hb1'.cell hlt).trans c0)
      | (refine step_append_bytes _ rfl (.tmp 14) (.tmp 16) rfl a cap bs (by simp [Act.eval]) (HX.out.own.of_block fun k _ hk => hb1'.block k hk) a1 cap1 _ (put n) rfl (by simp [Act.eval]) (.inr own1.bytes) (by omega) ?_; intro a2 cap2 w2 own2 grow2 at2; have str2 := HX.out.str_grown hb1' grow2; have d2 : w2.cell? ⟨b, 0, none⟩ = some (.slice a bs.length cap) := (by rw [cell_of_row w2 b 0 _ _ _ str2]; rfl); have e2 : w2.frozen? ⟨b, 0, none⟩ = false := frozen_of_row w2 b 0 _ _ str2; have Str2 := Lib.hid str2; clear str2))
    all_goals (go_end0; exact (xwrote_store HX.out hb1' HP.out own2 grow2 at2).after HM.out)
  · have hb' : (bad || decide (sizeN n = 0)) = bad := by rw [decide_eq_false hz]; simp
    have HX : Hid (XAt w b bad a cap bs) := HW
    rw [hb']
    clear hb' HW
    have HM := Lib.hid (Moved.refl b (blk a) w)
    go_enter Try.func24, Try.ntmps24
    go_wp2_with fail
    refine (rsize_any _ _).mono ?_
    rintro e w1 ⟨rfl, rfl⟩
    have hz' : ¬ ((sizeN n : Nat) : Int) = 0 := by omega
    go_wp2_with fail
    refine wp_at _ (fun W hW => ?_)
    have HX : Hid (XAt W b bad a cap bs) := by rw [hW]; exact HX
    have HM : Hid (Moved b (blk a) (blk a) w W) := by rw [hW]; exact HM
    clear hW
    clear c0 c1 f1 hlt
    have hlt := HX.out.lt
    have c0 : W.cell? ⟨b, 0, none⟩ = some (.slice a bs.length cap) := by rw [cell_of_row W b 0 _ _ _ HX.out.str]; rfl
    go_region_law (first
      | (go_simp; go_at_call 66; refine (rput_any n _).mono ?_; rintro e w1 ⟨a1, cap1, rfl, own1, hb1, hn1⟩; have hb1' : Below W.heap.size W w1 := (Below.refl W.heap.size W).drew.trans hb1; have c01 : w1.cell? ⟨b, 0, none⟩ = some (.slice a bs.length cap) := (hb1'.cell hlt).trans c0)
      | (refine step_append_bytes _ rfl (.tmp 14) (.tmp 16) rfl a cap bs (by simp [Act.eval]) (HX.out.own.of_block fun k _ hk => hb1'.block k hk) a1 cap1 _ (put n) rfl (by simp [Act.eval]) (.inr own1.bytes) (by omega) ?_; intro a2 cap2 w2 own2 grow2 at2; have str2 := HX.out.str_grown hb1' grow2; have d2 : w2.cell? ⟨b, 0, none⟩ = some (.slice a bs.length cap) := (by rw [cell_of_row w2 b 0 _ _ _ str2]; rfl); have e2 : w2.frozen? ⟨b, 0, none⟩ = false := frozen_of_row w2 b 0 _ _ str2; have Str2 := Lib.hid str2; clear str2))
    all_goals (go_end0; exact (xwrote_store HX.out hb1' HP.out own2 grow2 at2).after HM.out)

end Go.Proofs.Ytkfhljggdcajpaa
