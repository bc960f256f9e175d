/-
  The document's answer for layer 1 (package satchelref01): Bytes, Text, ID, Out.
-/
import Derived.Test.YtkfhljggdcajpaaRefW
namespace Go.Proofs.Ytkfhljggdcajpaa
open Go.RowKit

set_option maxRecDepth 100000 in
set_option maxHeartbeats 400000 in
theorem xbytes_any (w : World) (b : Nat) (bad : Bool) (a : Option Addr) (cap : Nat) (bs : List Int) (hw : XAt w b bad a cap bs) (ao : Option Addr) (c : Nat) (ys : List Int) (hkeep : ∀ r' w1, Moved b (blk a) r' w w1 → Src w1 ao ys) (hys : Bys ys) (hlen : bs.length + 5 + ys.length ≤ 140737488355328) :
    Calls Try.prog 26 #[.pointer (some ⟨b, 0, none⟩), .slice ao ys.length c] w fun e w' => XWrote w b (bad || decide (sizeN ys.length = 0)) a (bs ++ put ys.length ++ ys) e w' := by
  have hlt := hw.lt
  have hint := xint_any ys.length w b bad a cap bs hw (by omega)
  have Hint := Lib.hid hint
  have Hk := Lib.hid hkeep
  have hput : (put ys.length).length ≤ 5 := by rw [put_length]; unfold sizeN; (repeat' split) <;> omega
  clear hint hkeep
  go_enter Try.func26, Try.ntmps26
  go_wp2_with fail
  refine Hint.out.mono ?_
  rintro e w1 ⟨a1, cap1, rfl, hw1, hm1⟩
  have hy1 := Hk.out _ _ hm1
  have c2 : w1.cell? ⟨b, 0, none⟩ = some (.slice a1 (bs ++ put ys.length).length cap1) := by rw [cell_of_row w1 b 0 _ _ _ hw1.str]; rfl
  go_wp2_with (at_builtin; refine wpList_append_bytes _ rfl (.tmp 12) (.tmp 13) rfl a1 cap1 (bs ++ put ys.length) (by simp [Act.eval]) hw1.own ao c ys (by simp [Act.eval]) hy1 (by rw [List.length_append]; omega) ?_; intro a2 cap2 w2 own2 grow2 at2; have str2 := hw1.str_grown (Below.refl _ _) grow2; have d2 : w2.cell? ⟨b, 0, none⟩ = some (.slice a1 (bs ++ put ys.length).length cap1) := (by rw [cell_of_row w2 b 0 _ _ _ str2]; rfl); have e2 : w2.frozen? ⟨b, 0, none⟩ = false := frozen_of_row w2 b 0 _ _ str2; have Str2 := Lib.hid str2; clear str2)
  go_end0
  have hfin := (xwrote_store hw1 (Below.refl _ _) hys own2 grow2 at2).after hm1
  rw [List.length_append] at hfin
  exact hfin

set_option maxRecDepth 100000 in
set_option maxHeartbeats 400000 in
theorem xtext_any (w : World) (b : Nat) (bad : Bool) (a : Option Addr) (cap : Nat) (bs : List Int) (hw : XAt w b bad a cap bs) (ys : List Int) (hys : Bys ys)
    (hlen : bs.length + 5 + ys.length ≤ 140737488355328) :
    Calls Try.prog 28 #[.pointer (some ⟨b, 0, none⟩), .string (strOfNums ys)] w fun e w' => XWrote w b (bad || decide (sizeN ys.length = 0)) a (bs ++ put ys.length ++ ys) e w' := by
  obtain ⟨c, W, hrun, hby, hbel, hsz⟩ := text_bytes w ys hys
  have hlt := hw.lt
  have hblk := hw.own.blk_lt
  have hb := xbytes_any W b bad a cap bs (hw.below hbel) _ c ys (fun r' w1 hm => .inr (hby.moved hm (fun e => by have := Option.some.inj e; simp only at this; omega) (fun k hk e => by have := hblk _ e; have := Option.some.inj hk; simp only at this; omega))) hys hlen
  have Hb := Lib.hid hb
  have Hbel := Lib.hid hbel
  clear hb hbel hby hw hblk
  go_enter Try.func28, Try.ntmps28
  go_wp2_with fail
  refine Hb.out.mono ?_
  intro e w1 hh
  have hh2 := hh.after (Hbel.out.movedR b (blk a))
  obtain ⟨a1, cap1, rfl, h2, h3⟩ := hh2
  go_wp2_with fail
  go_end0
  exact ⟨a1, cap1, rfl, h2, h3⟩

set_option maxRecDepth 100000 in
set_option maxHeartbeats 400000 in
theorem xid_any (w : World) (b : Nat) (bad : Bool) (a : Option Addr) (cap : Nat) (bs : List Int) (hw : XAt w b bad a cap bs) (ids : List Int) (hids : Bys ids) (h16 : ids.length = 16)
    (hlen : bs.length + 16 ≤ 140737488355328) :
    Calls Try.prog 30 #[.pointer (some ⟨b, 0, none⟩), .agg (bvals ids).toArray] w fun e w' => XWrote w b bad a (bs ++ ids) e w' := by
  have hlt := hw.lt
  have c2 : w.cell? ⟨b, 0, none⟩ = some (.slice a bs.length cap) := by rw [cell_of_row w b 0 _ _ _ hw.str]; rfl
  have H16 := Lib.hid h16
  clear h16
  go_enter Try.func30, Try.ntmps30
  go_wp2_with fail
  go_region_law (((refine step_append_bytes _ rfl (.tmp 8) (.tmp 9) rfl a cap bs (by simp [Act.eval]) (hw.own.of_block fun k hk hk2 => Below.heap_alloc w _ k hk2) (some ⟨w.heap.size, 0, none⟩) 16 16 ids H16.out (by simp [Act.eval]) (.inr (BytesAt.lit w ids 37)) (by rw [H16.out]; omega) ?_); intro a1 cap1 w1 own1 grow1 at1; have str1 := hw.str_grown ((Below.refl _ _).alloc (Nat.le_refl _) _).drew grow1; have d2 : w1.cell? ⟨b, 0, none⟩ = some (.slice a bs.length cap) := (by rw [cell_of_row w1 b 0 _ _ _ str1]; rfl); have e2 : w1.frozen? ⟨b, 0, none⟩ = false := frozen_of_row w1 b 0 _ _ str1; have Str1 := Lib.hid str1; clear str1))
  all_goals
    go_end0
    have hfin := xwrote_store hw ((Below.refl _ _).alloc (Nat.le_refl _) _).drew hids own1 grow1 at1
    rw [H16.out] at hfin
    exact hfin

theorem Owns.empty (w : World) : Owns (w.alloc (.cells #[] 5)) (some ⟨w.heap.size, 0, none⟩) 0 [] :=
  ⟨rfl, .inr ⟨w.heap.size, 0, #[], rfl, Nat.zero_le _, heap_alloc_new w _, Nat.le_refl _, Nat.zero_le _, rfl, rfl⟩⟩

set_option maxRecDepth 100000 in
set_option maxHeartbeats 400000 in
theorem xout_any (w : World) (b : Nat) (bad : Bool) (a : Option Addr) (cap : Nat) (bs : List Int) (hw : XAt w b bad a cap bs) (hlen : bs.length ≤ 140737488355328) :
    Calls Try.prog 34 #[.pointer (some ⟨b, 0, none⟩)] w fun e w' => Told w (if bad then [] else bs) (if bad then 5 else 0) e w' := by
  have hlt := hw.lt
  have c0 : w.cell? ⟨b, 0, none⟩ = some (.slice a bs.length cap) := by rw [cell_of_row w b 0 _ _ _ hw.str]; rfl
  have c1 : w.cell? ⟨b, 1, none⟩ = some (.bool bad) := by rw [cell_of_row w b 1 _ _ _ hw.str]; rfl
  cases bad
  · go_enter Try.func34, Try.ntmps34
    go_wp2_with (at_builtin; refine wpList_append_bytes _ rfl (.tmp 8) (.tmp 12) rfl (some ⟨w.heap.size, 0, none⟩) 0 [] (by simp [Act.eval]) (Owns.empty w) a cap bs (by simp [Act.eval]) (.inr (hw.below ((Below.refl _ _).alloc (Nat.le_refl _) _)).own.bytes) (by simpa using hlen) ?_; intro a1 cap1 w1 own1 grow1 at1)
    go_ret2
    rw [List.nil_append] at own1
    refine ⟨a1, cap1, by simp, own1, hw.bys, ((Below.refl _ _).alloc (Nat.le_refl _) _).grown grow1 (by simp) (fun k hk => by cases hk; exact Nat.le_refl _), fun k hk => ?_⟩
    rcases at1 with h | h
    · rw [h] at hk; cases hk; exact Nat.le_refl _
    · rw [h] at hk; cases hk; simp
  · go_enter Try.func34, Try.ntmps34
    go_wp2
    go_ret2
    exact ⟨none, 0, rfl, Owns.nil _, Bys.nil, Below.refl _ _, fun k hk => by cases hk⟩

end Go.Proofs.Ytkfhljggdcajpaa
