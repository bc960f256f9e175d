/-
  (*Writer).Out of package field, its answer's whole room known.
-/
import Derived.Test.YtkfhljggdcajpaaKit2
namespace Go.Proofs.Ytkfhljggdcajpaa
open Go.RowKit

theorem run_append_none0 (w : World) (ty : TypeId) (ao : Option Addr) (c : Nat) :
    (Builtin.append_ #[23, 23] ty #[.slice none 0 0, .slice ao 0 c]).run Try.prog w = .ok (.slice none 0 0) w := by
  obtain ⟨i5, hi5, hz5, hs5, hb5⟩ := Try.info5'
  have hl : ∀ (x : Addr), (loadCells x 0).run Try.prog w = .ok #[] w := fun x => by simpa using run_loadCells_list (P := Try.prog) w x [] (by simp)
  cases ao <;> simp [Builtin.append_, run_underlying Try.underlying23, sizeOf, typeInfo, hi5, Builtin.lenOf, Builtin.firstCells, hl]

/-- append of bytes onto nothing: the whole row -/
theorem run_append_new (w : World) (ty : TypeId) (ao : Option Addr) (c : Nat) (bs : List Int) (h : BytesAt w ao bs) (hlen : bs.length ≤ 140737488355328) :
    ∃ a cap w', (Builtin.append_ #[23, 23] ty #[.slice none 0 0, .slice ao bs.length c]).run Try.prog w = .ok (.slice a bs.length cap) w' ∧ Full w' a cap bs ∧ Below w.heap.size w w' ∧ (∀ k, blk a = some k → w.heap.size ≤ k) := by
  by_cases hb : bs = []
  · subst hb
    exact ⟨none, 0, w, run_append_none0 w ty ao c, .inl ⟨rfl, rfl, rfl⟩, Below.refl _ _, fun k hk => by cases hk⟩
  · obtain ⟨g, off, rfl, hg, hc⟩ := h.resolve_left (fun e => hb e.2)
    obtain ⟨i5, hi5, hz5, hs5, hb5⟩ := Try.info5'
    have hpos : 0 < bs.length := List.length_pos_iff.2 hb
    have hr := run_append_nil (P := Try.prog) w 23 ty 5 i5 (.int .u8 0) Try.underlying23 hi5 hz5 ⟨g, off, none⟩ bs.length c (bvals bs) (by rw [bvals_length, hs5, Nat.mul_one]) (BytesAt.news (.inr ⟨g, off, rfl, hg, hc⟩)) hpos (by omega) (by rw [hb5]; omega)
    have hge := grownCap_ge w bs.length 0 5
    refine ⟨_, _, _, hr, ?_, (Below.refl _ _).drew.alloc (Nat.le_refl _) _, fun k hk => by cases hk; exact Nat.le_refl _⟩
    refine .inr ⟨w.heap.size, bs ++ List.replicate (grownCap w bs.length 0 5 - bs.length) 0, rfl, ?_, by simp; omega, grownCap_le_maxLen w _ _ _ (by unfold maxLen; omega), by simp, hge⟩
    unfold RowB
    have e := heap_alloc_new w.drew (.cells ((bvals bs).toArray ++ Builtin.zeroCells (Value.int .u8 0).cells (grownCap w bs.length 0 5 - bs.length)) 5)
    have e2 : (bvals bs).toArray ++ Builtin.zeroCells (Value.int .u8 0).cells (grownCap w bs.length 0 5 - bs.length) = (bvals (bs ++ List.replicate (grownCap w bs.length 0 5 - bs.length) 0)).toArray := by
      apply Array.toList_inj.1
      rw [bvals_append]
      simp only [Array.toList_append, List.append_cancel_left_eq]
      apply List.ext_getElem?
      intro j
      by_cases hj : j < grownCap w bs.length 0 5 - bs.length
      · simp [Builtin.zeroCells, Value.cells, bvals, hj, Nat.mod_one]
      · simp [Builtin.zeroCells, Value.cells, bvals, hj]
    rw [e2] at e ⊢
    exact e

theorem wpList_append_run {P : Program} (w : World) {ops : Array Oper} {rest : List Oper} {o : Oper} {a : Act} {Q : Exit → Act → World → Prop} (hgd : o.guard = none) (d s : Operand) {dT sT : TypeId}
    (ho : o.op = .call { callee := .builtin .append, args := #[d, s], argTypes := #[dT, sT] }) (v1 v2 : Value) (hd : a.eval d = v1) (hs : a.eval s = v2) (v : Value) (w' : World)
    (hrun : (Builtin.append_ #[dT, sT] o.type #[v1, v2]).run P w = .ok v w') (h : wpList P ops Q rest (a.put o.dst v) w') : wpList P ops Q (o :: rest) a w := by
  refine wpList_plain hgd fun K hK => ?_
  unfold Oper.wp
  simp [execOp, ho, resolve, invoke, builtin, hd, hs, hrun, Result.andThen]
  exact hK _ _ h

/-- what Out hands back, its room known -/
def ToldF (w : World) (bs : List Int) (err : Int) (e : Ending) (w' : World) : Prop :=
  ∃ a cap, e = .returned (.tuple #[.slice a bs.length cap, .int .i64 err]) ∧ Full w' a cap bs ∧ Bys bs ∧ Below w.heap.size w w' ∧ (∀ k, blk a = some k → w.heap.size ≤ k)

set_option maxRecDepth 100000 in
set_option maxHeartbeats 400000 in
theorem outf_any (w : World) (b : Nat) (bad : Bool) (a : Option Addr) (cap : Nat) (bs : List Int) (hw : WAt w b bad a cap bs) (hlen : bs.length ≤ 140737488355328) :
    Calls Try.prog 33 #[.pointer (some ⟨b, 0, none⟩)] w fun e w' => ToldF w (if bad then [] else bs) (if bad then 5 else 0) e w' := by
  have hnot : ∀ (x : Bool) (w : World), (Op.unary .not (.bool x)).run Try.prog w = .ok (.bool (!x)) w := fun _ _ => rfl
  have hlt := hw.lt
  have c0 : w.cell? ⟨b, 0, none⟩ = some (.bool true) := by rw [cell_of_row w b 0 _ _ _ hw.str]; rfl
  have c1 : w.cell? ⟨b, 1, none⟩ = some (.bool bad) := by rw [cell_of_row w b 1 _ _ _ hw.str]; rfl
  have c2 : w.cell? ⟨b, 2, none⟩ = some (.slice a bs.length cap) := by rw [cell_of_row w b 2 _ _ _ hw.str]; rfl
  cases bad
  · obtain ⟨a1, cap1, w1, hr, hf, hb, hn⟩ := run_append_new w 23 a cap bs hw.own.bytes hlen
    have Hf := Lib.hid hf
    have Hb := Lib.hid hb
    have Hr := Lib.hid hr
    clear hf hb hr
    go_enter Try.func33, Try.ntmps33
    go_wp2_with (at_builtin; refine wpList_append_run _ rfl (.const (.slice none 0 0)) (.tmp 22) rfl (.slice none 0 0) (.slice a bs.length cap) rfl (by simp [Act.eval]) _ _ Hr.out ?_)
    go_ret2
    exact ⟨a1, cap1, by simp, Hf.out, hw.bys, Hb.out, hn⟩
  · go_enter Try.func33, Try.ntmps33
    go_wp2
    go_ret2
    exact ⟨none, 0, rfl, .inl ⟨rfl, rfl, rfl⟩, Bys.nil, Below.refl _ _, fun k hk => by cases hk⟩

end Go.Proofs.Ytkfhljggdcajpaa
