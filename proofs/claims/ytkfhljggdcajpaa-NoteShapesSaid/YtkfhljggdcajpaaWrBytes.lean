/-
  The writer of package field: Bytes, Text, ID.
-/
import Derived.Test.YtkfhljggdcajpaaWrOut
namespace Go.Proofs.Ytkfhljggdcajpaa
open Go.RowKit

theorem Try.info5' : ∃ i : TypeInfo, Try.prog.info? 5 = some i ∧ i.zero = some (.int .u8 0) ∧ i.size = 1 ∧ i.bytes = 1 := info_parts Try.info5

/-- a slice that came in reads as bytes: of an empty one nothing is known -/
def Src (w : World) (a : Option Addr) (xs : List Int) : Prop := xs = [] ∨ BytesAt w a xs

theorem run_src_string (w : World) (a : Option Addr) (cap : Nat) (xs : List Int) (h : Src w a xs) :
    (convert 23 9 (.slice a xs.length cap)).run Try.prog w = .ok (.string (strOfNums xs)) w := by
  rcases h with rfl | h
  · cases a with
    | none => exact run_bytes_string w none cap [] (.inl ⟨rfl, rfl⟩)
    | some ad =>
      have hl : (loadCells ad 0).run Try.prog w = .ok (([] : List Int).map (Value.int .u8)).toArray w := by simpa using run_loadCells_list (P := Try.prog) w ad [] (fun j v hj => by simp at hj)
      show (convert 23 9 (.slice (some ad) 0 cap)).run Try.prog w = _
      rw [run_convert_bytes_string w 23 9 5 _ 0 cap Try.underlying23 Try.underlying5 Try.underlying9, run_bytesToString w _ 0 cap [] hl]
      rfl
  · exact run_bytes_string w a cap xs h

/-- append of bytes, from whatever source, onto a row of the call's own -/
theorem run_append_bytes (w : World) (ty : TypeId) (a : Option Addr) (cap : Nat) (bs : List Int) (hown : Owns w a cap bs) (ao : Option Addr) (c : Nat) (ys : List Int) (hsrc0 : Src w ao ys) (hlen : bs.length + ys.length ≤ 140737488355328) :
    ∃ a' cap' w', (Builtin.append_ #[23, 23] ty #[.slice a bs.length cap, .slice ao ys.length c]).run Try.prog w = .ok (.slice a' (bs.length + ys.length) cap') w' ∧ Owns w' a' cap' (bs ++ ys) ∧ w.grownBy w' (blk a) ∧ (blk a' = blk a ∨ blk a' = some w.heap.size) := by
  obtain ⟨i5, hi5, hz5, hs5, hb5⟩ := Try.info5'
  have hsrc : (ao = none ∧ ys = []) ∨ ∃ ad, ao = some ad ∧ ∀ j u, (bvals ys)[j]? = some u → w.cell? (ad.add j) = some u := by
    rcases hsrc0 with rfl | ⟨h1, h2⟩ | ⟨g, off, rfl, hg, hc⟩
    · cases ao with
      | none => exact .inl ⟨rfl, rfl⟩
      | some ad => exact .inr ⟨ad, rfl, fun j u hu => by simp [bvals] at hu⟩
    · exact .inl ⟨h1, h2⟩
    · exact .inr ⟨_, rfl, BytesAt.news (.inr ⟨g, off, rfl, hg, hc⟩)⟩
  rcases hsrc with ⟨rfl, rfl⟩ | ⟨ad, rfl, hnews⟩
  · refine ⟨a, cap, w, ?_, by simpa using hown, ⟨rfl, rfl, rfl, Nat.le_refl _, fun _ _ _ => rfl⟩, .inl rfl⟩
    rcases hown.2 with ⟨hv, h0⟩ | ⟨g, c', cur, hv, _, _, hnc, _⟩
    · simp only [Value.slice.injEq] at hv
      obtain ⟨rfl, h1, rfl⟩ := hv
      rw [h1]
      simp [Builtin.append_, run_underlying Try.underlying23, sizeOf, typeInfo, hi5, Builtin.lenOf, Builtin.firstCells]
    · simp only [Value.slice.injEq] at hv
      obtain ⟨rfl, _, rfl⟩ := hv
      simp [Builtin.append_, run_underlying Try.underlying23, sizeOf, typeInfo, hi5, Builtin.lenOf, Builtin.firstCells, hnc, storeCells]
  · obtain ⟨v', w', hr, h2, h3, _, h5⟩ := run_append_own_at (P := Try.prog) w 0 23 ty 5 i5 (.int .u8 0) 1 1 Try.underlying23 hi5 hz5 hs5 hb5 rfl (by decide) (.slice a bs.length cap) bs.length (bvals bs) hown ad ys.length c (bvals ys)
      ((bvals_length ys).trans (Nat.mul_one _).symm) hnews (bvals_one _) (by unfold maxLen; omega) (by omega) (Nat.zero_le _)
    obtain ⟨a', cap', rfl⟩ : ∃ a' cap, v' = .slice a' (bs.length + ys.length) cap := by
      rcases h2.2 with ⟨hv, h0⟩ | ⟨g, cap, cur, hv, _⟩
      · exact ⟨none, 0, by rw [hv, h0]⟩
      · exact ⟨_, _, hv⟩
    rw [ownBlock_eq] at h3
    simp only [ownBlock_eq] at h5
    refine ⟨a', cap', w', hr, ?_, h3, h5⟩
    unfold Owns
    rw [List.length_append, bvals_append]
    exact h2

/-- the same, at a plain region -/
theorem wpList_append_bytes (w : World) {ops : Array Oper} {rest : List Oper} {o : Oper} {act : Act} {Q : Exit → Act → World → Prop} (hgd : o.guard = none) (s x : Operand)
    (ho : o.op = .call { callee := .builtin .append, args := #[s, x], argTypes := #[23, 23] })
    (a : Option Addr) (cap : Nat) (bs : List Int) (hs : act.eval s = .slice a bs.length cap) (hown : Owns w a cap bs) (ao : Option Addr) (c : Nat) (ys : List Int) (hx : act.eval x = .slice ao ys.length c) (hsrc : Src w ao ys)
    (hlen : bs.length + ys.length ≤ 140737488355328)
    (h : ∀ a' cap' w', Owns w' a' cap' (bs ++ ys) → w.grownBy w' (blk a) → (blk a' = blk a ∨ blk a' = some w.heap.size) → wpList Try.prog ops Q rest (act.put o.dst (.slice a' (bs.length + ys.length) cap')) w') : wpList Try.prog ops Q (o :: rest) act w := by
  obtain ⟨a', cap', w', hr, h2, h3, h4⟩ := run_append_bytes w o.type a cap bs hown ao c ys hsrc hlen
  refine wpList_plain hgd fun K hK => ?_
  unfold Oper.wp execOp
  simp only [ho, resolve, invoke, builtin, Sem.run_bind, Sem.run_pure, Result.andThen_ok, List.map_toArray, List.map_cons, List.map_nil, hs, hx, hr]
  exact hK _ _ (h a' cap' w' h2 h3 h4)

/-- the same, at a step of a region that draws -/
theorem step_append_bytes (w : World) {ops : Array Oper} {o : Oper} {act : Act} {K : Act → World → Prop} {Q : Exit → Act → World → Prop} {E : Prop} (hgd : o.guard = none) (s x : Operand)
    (ho : o.op = .call { callee := .builtin .append, args := #[s, x], argTypes := #[23, 23] })
    (a : Option Addr) (cap : Nat) (bs : List Int) (hs : act.eval s = .slice a bs.length cap) (hown : Owns w a cap bs) (ao : Option Addr) (c l : Nat) (ys : List Int) (hl : ys.length = l) (hx : act.eval x = .slice ao l c) (hsrc : Src w ao ys)
    (hlen : bs.length + ys.length ≤ 140737488355328)
    (h : ∀ a' cap' w', Owns w' a' cap' (bs ++ ys) → w.grownBy w' (blk a) → (blk a' = blk a ∨ blk a' = some w.heap.size) → K (act.put o.dst (.slice a' (bs.length + l) cap')) w') :
    if Region.wanted o (yielded ops act.tmps) = true then Oper.wp Try.prog o act w K Q else E := by
  subst hl
  have hw : Region.wanted o (yielded ops act.tmps) = true := by simp [Region.wanted, hgd]
  rw [if_pos hw]
  obtain ⟨a', cap', w', hr, h2, h3, h4⟩ := run_append_bytes w o.type a cap bs hown ao c ys hsrc hlen
  unfold Oper.wp execOp
  simp only [ho, resolve, invoke, builtin, Sem.run_bind, Sem.run_pure, Result.andThen_ok, List.map_toArray, List.map_cons, List.map_nil, hs, hx, hr]
  exact h a' cap' w' h2 h3 h4

section
variable {w V w2 : World} {b : Nat} {bad : Bool} {a : Option Addr} {cap : Nat} {bs : List Int}
theorem WAt.str_grown (hw : WAt w b bad a cap bs) (hV : Below w.heap.size w V) (hg : V.grownBy w2 (blk a)) : w2.heap[b]? = some (.cells #[.bool true, .bool bad, .slice a bs.length cap] 60 (0, 0)) :=
  (hg.block b (by have := hw.lt; have := hV.size; omega) (fun e => hw.apart e.symm)).trans ((hV.block b hw.lt).trans hw.str)

theorem wrote_store (hw : WAt w b bad a cap bs) (hV : Below w.heap.size w V) {zs : List Int} {a' : Option Addr} {cap' : Nat} (hz : Bys zs) (hown : Owns w2 a' cap' (bs ++ zs)) (hg : V.grownBy w2 (blk a)) (hat : blk a' = blk a ∨ blk a' = some V.heap.size) :
    Wrote w b bad a (bs ++ zs) (.returned (.tuple #[])) (w2.setCell ⟨b, 2, none⟩ (.slice a' (bs.length + zs.length) cap')) := by
  have hlt := hw.lt
  have hvs := hV.size
  have hap : blk a' ≠ some b := by
    rcases hat with h | h
    · rw [h]; exact hw.apart
    · rw [h]; intro e; cases e; omega
  refine ⟨a', cap', rfl, ⟨?_, hown.of_block fun k hk _ => heap_setCell_other _ _ _ _ (fun e => hap (by rw [hk, e])), hap, hw.bys.append hz⟩, ?_⟩
  · rw [heap_setCell_same _ _ _ _ _ _ (hw.str_grown hV hg), List.length_append]
    rfl
  · refine ⟨hg.os.trans hV.os, hg.tape.trans hV.tape, hg.output.trans hV.output, ?_, fun i hi hb hr => ?_, ?_⟩
    · have := hg.size
      simp [World.setCell]; omega
    · rw [heap_setCell_other _ _ _ _ hb, hg.block i (by omega) hr, hV.block i hi]
    · rcases hat with h | h
      · exact .inl h
      · exact .inr ⟨_, h, hvs⟩

theorem Wrote.after {w1 : World} {bad' : Bool} {a1 : Option Addr} {bs' : List Int} {e : Ending} (hm : Moved b (blk a) (blk a1) w w1) (h : Wrote w1 b bad' a1 bs' e w2) : Wrote w b bad' a bs' e w2 := by
  obtain ⟨a', cap', he, hw, hm'⟩ := h
  exact ⟨a', cap', he, hw, hm.trans hm'⟩

theorem _root_.Go.RowKit.Below.movedR {W : World} (h : Below w.heap.size w W) (b : Nat) (r : Option Nat) : Moved b r r w W := ⟨h.os, h.tape, h.output, h.size, fun k hk _ _ => h.block k hk, .inl rfl⟩
theorem BytesAt.moved {w' : World} {r r' : Option Nat} {ao : Option Addr} {ys : List Int} (h : BytesAt w ao ys) (hm : Moved b r r' w w') (hb : blk ao ≠ some b) (hr : ∀ k, blk ao = some k → r ≠ some k) : BytesAt w' ao ys :=
  h.of_block hm.size fun g off hg hlt => hm.block g hlt (fun e => hb (by rw [hg]; exact congrArg some e)) (fun e => hr g (by rw [hg]; rfl) e.symm)
end

set_option maxRecDepth 100000 in
set_option maxHeartbeats 400000 in
/-- (*Writer).Bytes -/
theorem wbytes_any (w : World) (b : Nat) (bad : Bool) (a : Option Addr) (cap : Nat) (bs : List Int) (hw : WAt w b bad a cap bs) (ao : Option Addr) (c : Nat) (ys : List Int) (hkeep : ∀ r' w1, Moved b (blk a) r' w w1 → Src w1 ao ys) (hys : Bys ys) (hlen : bs.length + 5 + ys.length ≤ 140737488355328) :
    Calls Try.prog 25 #[.pointer (some ⟨b, 0, none⟩), .slice ao ys.length c] w fun e w' => Wrote w b (bad || decide (sizeN ys.length = 0)) a (bs ++ put ys.length ++ ys) e w' := by
  have hnot : ∀ (x : Bool) (w : World), (Op.unary .not (.bool x)).run Try.prog w = .ok (.bool (!x)) w := fun _ _ => rfl
  have hlt := hw.lt
  have c0 : w.cell? ⟨b, 0, none⟩ = some (.bool true) := by rw [cell_of_row w b 0 _ _ _ hw.str]; rfl
  have hint := wint_any ys.length w b bad a cap bs hw (by omega)
  have Hint := Lib.hid hint
  have Hk := Lib.hid hkeep
  have hput : (put ys.length).length ≤ 5 := by rw [put_length]; unfold sizeN; (repeat' split) <;> omega
  clear hint hkeep
  go_enter Try.func25, Try.ntmps25
  go_wp2_with fail
  refine Hint.out.mono ?_
  rintro e w1 ⟨a1, cap1, rfl, hw1, hm1⟩
  have hy1 := Hk.out _ _ hm1
  have c2 : w1.cell? ⟨b, 2, none⟩ = some (.slice a1 (bs ++ put ys.length).length cap1) := by rw [cell_of_row w1 b 2 _ _ _ hw1.str]; rfl
  go_wp2_with (at_builtin; refine wpList_append_bytes _ rfl (.tmp 21) (.tmp 22) rfl a1 cap1 (bs ++ put ys.length) (by simp [Act.eval]) hw1.own ao c ys (by simp [Act.eval]) hy1 (by rw [List.length_append]; omega) ?_; intro a2 cap2 w2 own2 grow2 at2; have str2 := hw1.str_grown (Below.refl _ _) grow2; have d2 : w2.cell? ⟨b, 2, none⟩ = some (.slice a1 (bs ++ put ys.length).length cap1) := (by rw [cell_of_row w2 b 2 _ _ _ str2]; rfl); have e2 : w2.frozen? ⟨b, 2, none⟩ = false := frozen_of_row w2 b 2 _ _ str2; have Str2 := Lib.hid str2; clear str2)
  go_end0
  have hfin := (wrote_store hw1 (Below.refl _ _) hys own2 grow2 at2).after hm1
  rw [List.length_append] at hfin
  exact hfin

theorem bytesRow_get (ys : List Int) (hys : Bys ys) (n i : Nat) (hi : i < ys.length) : (bytesRow (strOfNums ys) n)[i]? = some (.int .u8 (ys.getD i 0)) := by
  have hb := hys.get i
  have hs : i < ((strOfNums ys).data.map (fun b => Value.int .u8 b.toNat)).size := by
    rw [Array.size_map]
    show i < (strOfNums ys).size
    rw [strOfNums_size]; exact hi
  unfold bytesRow
  rw [Array.getElem?_append_left hs, ← Array.getElem?_toList, Array.toList_map, strOfNums_data, List.getElem?_map, List.getElem?_map]
  have e : ys[i]? = some (ys.getD i 0) := by simp [List.getD, hi]
  rw [e]
  simp only [Option.map_some, Option.some.injEq, Value.int.injEq, true_and, UInt8.toNat_ofNat']
  omega

/-- '[]byte(s)' -/
theorem text_bytes (w : World) (ys : List Int) (hys : Bys ys) : ∃ cap W, (convert 9 23 (.string (strOfNums ys))).run Try.prog w = .ok (.slice (some ⟨w.heap.size, 0, none⟩) ys.length cap) W ∧ BytesAt W (some ⟨w.heap.size, 0, none⟩) ys ∧ Below w.heap.size w W ∧ W.heap.size = w.heap.size + 1 := by
  have hrun := run_bytes_of_string (P := Try.prog) w 9 23 5 (strOfNums ys) Try.underlying9 Try.underlying23 Try.underlying5
  rw [strOfNums_size] at hrun
  generalize hC : bytesRow (strOfNums ys) (grownCap w ys.length 0 5) = C at hrun
  refine ⟨_, _, hrun, ?_, ?_, ?_⟩
  · refine .inr ⟨w.heap.size, 0, rfl, ?_, fun i hi => ?_⟩
    · rw [World.size_alloc]; exact Nat.lt_succ_self _
    · have hb := heap_alloc_new w.drew (.cells C 5 (C.size, C.size + 1))
      have hb' : (w.drew.alloc (.cells C 5 (C.size, C.size + 1))).heap[w.heap.size]? = some (.cells C 5 (C.size, C.size + 1)) := hb
      rw [cell_of_row _ _ _ _ _ _ hb', Nat.zero_add, ← hC]
      exact bytesRow_get ys hys _ i hi
  · exact (Below.refl _ _).drew.alloc (Nat.le_refl _) _
  · rw [World.size_alloc]; rfl

set_option maxRecDepth 100000 in
set_option maxHeartbeats 400000 in
/-- (*Writer).Text -/
theorem wtext_any (w : World) (b : Nat) (bad : Bool) (a : Option Addr) (cap : Nat) (bs : List Int) (hw : WAt w b bad a cap bs) (ys : List Int) (hys : Bys ys)
    (hlen : bs.length + 5 + ys.length ≤ 140737488355328) :
    Calls Try.prog 27 #[.pointer (some ⟨b, 0, none⟩), .string (strOfNums ys)] w fun e w' => Wrote w b (bad || decide (sizeN ys.length = 0)) a (bs ++ put ys.length ++ ys) e w' := by
  obtain ⟨c, W, hrun, hby, hbel, hsz⟩ := text_bytes w ys hys
  have hlt := hw.lt
  have hblk := hw.own.blk_lt
  have hb := wbytes_any W b bad a cap bs (hw.below hbel) _ c ys (fun r' w1 hm => .inr (hby.moved hm (fun e => by have := Option.some.inj e; simp only at this; omega) (fun k hk e => by have := hblk _ e; have := Option.some.inj hk; simp only at this; omega))) hys hlen
  have Hb := Lib.hid hb
  have Hsz := Lib.hid hsz
  clear hb hsz
  go_enter Try.func27, Try.ntmps27
  go_wp2_with fail
  refine Hb.out.mono ?_
  rintro e w1 ⟨a1, cap1, rfl, hw1, hm1⟩
  go_wp2_with fail
  go_end0
  exact ⟨a1, cap1, rfl, hw1, (hbel.movedR b (blk a)).trans hm1⟩
/-- an ID as a value -/
def idv (ids : List Int) : Value := .agg (bvals ids).toArray

set_option maxRecDepth 100000 in
set_option maxHeartbeats 400000 in
/-- (*Writer).ID -/
theorem wid_any (w : World) (b : Nat) (bad : Bool) (a : Option Addr) (cap : Nat) (bs : List Int) (hw : WAt w b bad a cap bs) (ids : List Int) (hids : Bys ids) (h16 : ids.length = 16)
    (hlen : bs.length + 16 ≤ 140737488355328) :
    Calls Try.prog 29 #[.pointer (some ⟨b, 0, none⟩), .agg (bvals ids).toArray] w fun e w' => Wrote w b bad a (bs ++ ids) e w' := by
  have hlt := hw.lt
  have c0 : w.cell? ⟨b, 0, none⟩ = some (.bool true) := by rw [cell_of_row w b 0 _ _ _ hw.str]; rfl
  have c2 : w.cell? ⟨b, 2, none⟩ = some (.slice a bs.length cap) := by rw [cell_of_row w b 2 _ _ _ hw.str]; rfl
  have H16 := Lib.hid h16
  clear h16
  go_enter Try.func29, Try.ntmps29
  go_wp2_with fail
  go_region_law (((refine step_append_bytes _ rfl (.tmp 16) (.tmp 17) rfl a cap bs (by simp [Act.eval]) (hw.own.of_block fun k hk hk2 => Below.heap_alloc w _ k hk2) (some ⟨w.heap.size, 0, none⟩) 16 16 ids H16.out (by simp [Act.eval]) (.inr (BytesAt.lit w ids 37)) (by rw [H16.out]; omega) ?_); intro a1 cap1 w1 own1 grow1 at1; have str1 := hw.str_grown ((Below.refl _ _).alloc (Nat.le_refl _) _).drew grow1; have d2 : w1.cell? ⟨b, 2, none⟩ = some (.slice a bs.length cap) := (by rw [cell_of_row w1 b 2 _ _ _ str1]; rfl); have e2 : w1.frozen? ⟨b, 2, none⟩ = false := frozen_of_row w1 b 2 _ _ str1; have Str1 := Lib.hid str1; clear str1))
  go_end0
  have hfin := wrote_store hw ((Below.refl _ _).alloc (Nat.le_refl _) _).drew hids own1 grow1 at1
  rw [H16.out] at hfin
  exact hfin

end Go.Proofs.Ytkfhljggdcajpaa
