/-
  The reader of package field: Open, Int, Fault; the statements' own fails; awake of layer 1.
-/
import Derived.Test.YtkfhljggdcajpaaTry
namespace Go.Proofs.Ytkfhljggdcajpaa
open Go.RowKit

theorem lt_of_row {w : World} {p : Nat} {o : Obj} (h : w.heap[p]? = some o) : p < w.heap.size := by
  rcases Nat.lt_or_ge p w.heap.size with k | k
  · exact k
  · rw [Array.getElem?_eq_none k] at h; cases h

section
variable {w : World} {b : Nat} {a : Option Addr} {cap : Nat} {xs : List Int} {pos : Nat} {err fat : Int}
theorem RAt.setNew (h : RAt w b a cap xs pos err fat) (p i : Nat) (v : Value) (hp : p ≠ b) (hpa : blk a ≠ some p) : RAt (w.setCell ⟨p, i, none⟩ v) b a cap xs pos err fat :=
  ⟨(heap_setCell_other _ _ _ _ (fun e => hp e.symm)).trans h.str, h.byt.of_block (by simp [World.setCell]) fun g off hg _ => heap_setCell_other _ _ _ _ (fun e => hpa (by rw [hg]; exact congrArg some e)), h.apart, h.bys, h.le, h.len, h.capLe⟩
theorem Moved.setNew {w w' : World} (h : Moved b none none w w') (p i : Nat) (v : Value) (hp : w.heap.size ≤ p) : Moved b none none w (w'.setCell ⟨p, i, none⟩ v) :=
  ⟨h.os, h.tape, h.output, by have := h.size; simp [World.setCell]; omega, fun k hk hb hr => (heap_setCell_other _ _ _ _ (by simp only; omega)).trans (h.block k hk hb hr), h.row⟩
theorem RAt.blk_lt (h : RAt w b a cap xs pos err fat) : ∀ k, blk a = some k → k < w.heap.size := fun k hk => by
  rcases h.byt with ⟨ha, _⟩ | ⟨g, off, ha, hg, _⟩
  · rw [ha] at hk; cases hk
  · rw [ha] at hk; cases hk; exact hg
end

/-- what a read of a number comes to, whole: the fault, or the number -/
def Int1Post (b : Nat) (a : Option Addr) (cap : Nat) (xs : List Int) (nx : Nat) (v : Int) (p6 : Nat) (W W' : World) : Prop :=
  ∃ W1, RAt W1 b a cap xs nx 0 0 ∧ Moved b none none W W1 ∧ W' = W1.setCell ⟨p6, 0, none⟩ (.int .i64 v)

set_option maxRecDepth 100000 in
set_option maxHeartbeats 400000 in
theorem int1_ok (W : World) (b : Nat) (a : Option Addr) (cap : Nat) (xs : List Int) (at0 : Nat) (low high v old : Int) (nx : Nat) (p3 p4 p5 p6 : Nat) (h : RAt W b a cap xs at0 0 0) (hr : bnd xs at0 low high 5 = .ok (v, nx))
    (h3 : W.heap[p3]? = some (.cells #[.pointer (some ⟨b, 0, none⟩)] 48 (0, 0))) (h4 : W.heap[p4]? = some (.cells #[.int .i64 low] 3 (0, 0))) (h5 : W.heap[p5]? = some (.cells #[.int .i64 high] 3 (0, 0)))
    (h6 : W.heap[p6]? = some (.cells #[.int .i64 old] 3 (0, 0))) (hb : p6 ≠ b) :
    Calls Try.prog 68 #[.pointer (some ⟨p3, 0, none⟩), .pointer (some ⟨p4, 0, none⟩), .pointer (some ⟨p5, 0, none⟩), .pointer (some ⟨p6, 0, none⟩)] W fun e W' => e = .returned (.tuple #[]) ∧ Int1Post b a cap xs nx v p6 W W' := by
  have c3 : W.cell? ⟨p3, 0, none⟩ = some (.pointer (some ⟨b, 0, none⟩)) := by rw [cell_of_row _ _ _ _ _ _ h3]; rfl
  have c4 : W.cell? ⟨p4, 0, none⟩ = some (.int .i64 low) := by rw [cell_of_row _ _ _ _ _ _ h4]; rfl
  have c5 : W.cell? ⟨p5, 0, none⟩ = some (.int .i64 high) := by rw [cell_of_row _ _ _ _ _ _ h5]; rfl
  have H6 := Lib.hid h6
  have H := Lib.hid h
  have Hr := Lib.hid hr
  have Hb := Lib.hid hb
  clear h3 h4 h5 h6 h hr hb
  go_enter Try.func68, Try.ntmps68
  go_wp2_with fail
  refine (bounded_any _ _ _ _ _ _ _ _ _ H.out).mono ?_
  rintro e w1 hq
  rw [Hr.out] at hq
  obtain ⟨pos, hR, hM, rfl, rfl⟩ := hq
  have hb6 := (hM.block p6 (lt_of_row H6.out) Hb.out (by simp)).trans H6.out
  have c6 : w1.cell? ⟨p6, 0, none⟩ = some (.int .i64 old) := by rw [cell_of_row _ _ _ _ _ _ hb6]; rfl
  have f6 : w1.frozen? ⟨p6, 0, none⟩ = false := frozen_of_row _ _ _ _ _ hb6
  have HB6 := Lib.hid hb6
  clear hb6
  go_wp2_with fail
  go_end0
  exact ⟨rfl, w1, hR, hM, rfl⟩

set_option maxRecDepth 100000 in
set_option maxHeartbeats 400000 in
theorem int1_err (W : World) (b : Nat) (a : Option Addr) (cap : Nat) (xs : List Int) (at0 : Nat) (low high er fa : Int) (p3 p4 p5 p6 : Nat) (h : RAt W b a cap xs at0 0 0) (hr : bnd xs at0 low high 5 = .error (er, fa))
    (h3 : W.heap[p3]? = some (.cells #[.pointer (some ⟨b, 0, none⟩)] 48 (0, 0))) (h4 : W.heap[p4]? = some (.cells #[.int .i64 low] 3 (0, 0))) (h5 : W.heap[p5]? = some (.cells #[.int .i64 high] 3 (0, 0))) :
    Calls Try.prog 68 #[.pointer (some ⟨p3, 0, none⟩), .pointer (some ⟨p4, 0, none⟩), .pointer (some ⟨p5, 0, none⟩), .pointer (some ⟨p6, 0, none⟩)] W fun e W' => e = .panicked [{ v := .iface 110 (.agg #[.int .i64 er, .int .i64 fa]), recovered := false }] ∧ ∃ pos, RAt W' b a cap xs pos 0 0 ∧ Moved b none none W W' := by
  have c3 : W.cell? ⟨p3, 0, none⟩ = some (.pointer (some ⟨b, 0, none⟩)) := by rw [cell_of_row _ _ _ _ _ _ h3]; rfl
  have c4 : W.cell? ⟨p4, 0, none⟩ = some (.int .i64 low) := by rw [cell_of_row _ _ _ _ _ _ h4]; rfl
  have c5 : W.cell? ⟨p5, 0, none⟩ = some (.int .i64 high) := by rw [cell_of_row _ _ _ _ _ _ h5]; rfl
  have H := Lib.hid h
  have Hr := Lib.hid hr
  clear h3 h4 h5 h hr
  go_enter Try.func68, Try.ntmps68
  go_wp2_with fail
  refine (bounded_any _ _ _ _ _ _ _ _ _ H.out).mono ?_
  rintro e w1 hq
  rw [Hr.out] at hq
  obtain ⟨pos, hR, hM, he⟩ := hq
  unfold faultEnd at he
  subst he
  go_wp2_with fail
  exact ⟨rfl, rfl, pos, hR, hM⟩

/-- what a reader's call of a number leaves -/
def ReadInt (w : World) (b : Nat) (a : Option Addr) (cap : Nat) (xs : List Int) (at0 : Nat) (r : Except (Int × Int) (Int × Nat)) (e : Ending) (w' : World) : Prop :=
  Moved b none none w w' ∧ match r with
    | .ok (v, nx) => e = .returned (.int .i64 v) ∧ RAt w' b a cap xs nx 0 0
    | .error (er, fa) => e = .returned (.int .i64 0) ∧ RAt w' b a cap xs at0 er fa

/-- the four variables of Int that its closure holds -/
def int4 (w : World) (b : Nat) (low high : Int) : World := (((w.alloc (.cells #[.pointer (some ⟨b, 0, none⟩)] 48)).alloc (.cells #[.int .i64 low] 3)).alloc (.cells #[.int .i64 high] 3)).alloc (.cells #[.int .i64 0] 3)

theorem int4_size (w : World) (b : Nat) (low high : Int) : (int4 w b low high).heap.size = w.heap.size + 4 := by simp [int4]
theorem int4_moved (w : World) (b : Nat) (low high : Int) : Moved b none none w (int4 w b low high) := ((((Moved.refl _ _ _).alloc _).alloc _).alloc _).alloc _
theorem int4_rows (w : World) (b : Nat) (low high : Int) : (int4 w b low high).heap[w.heap.size]? = some (.cells #[.pointer (some ⟨b, 0, none⟩)] 48 (0, 0)) ∧ (int4 w b low high).heap[w.heap.size + 1]? = some (.cells #[.int .i64 low] 3 (0, 0)) ∧
    (int4 w b low high).heap[w.heap.size + 2]? = some (.cells #[.int .i64 high] 3 (0, 0)) ∧ (int4 w b low high).heap[w.heap.size + 3]? = some (.cells #[.int .i64 0] 3 (0, 0)) := by
  unfold int4
  refine ⟨?_, ?_, ?_, ?_⟩
  · rw [Below.heap_alloc _ _ _ (by simp only [World.size_alloc]; omega), Below.heap_alloc _ _ _ (by simp only [World.size_alloc]; omega)]; exact heap_alloc2_old w _ _
  · rw [Below.heap_alloc _ _ _ (by simp only [World.size_alloc]; omega), Below.heap_alloc _ _ _ (by simp only [World.size_alloc]; omega)]; exact heap_alloc2_new w _ _
  · rw [Below.heap_alloc _ _ _ (by simp only [World.size_alloc]; omega)]
    have := heap_alloc_new ((w.alloc (.cells #[.pointer (some ⟨b, 0, none⟩)] 48)).alloc (.cells #[.int .i64 low] 3)) (.cells #[.int .i64 high] 3)
    simpa only [World.size_alloc] using this
  · have := heap_alloc_new (((w.alloc (.cells #[.pointer (some ⟨b, 0, none⟩)] 48)).alloc (.cells #[.int .i64 low] 3)).alloc (.cells #[.int .i64 high] 3)) (.cells #[.int .i64 0] 3)
    simpa only [World.size_alloc] using this

/-- a call of a function that has a Go body: it is entered -/
theorem callFunc_enter {P : Program} {f : FuncId} {fn : Func} {c : Code} (hf : P.funcs[f]? = some fn) (hname : (fn.name == "runtime.NumGoroutine") = false) (hb : fn.body = some c) (args : Array Value) (w : World) :
    (callFunc f args).run P w = .ok (.enter f args) w := by
  have h1 : fn.name ≠ "runtime.NumGoroutine" := by simpa using hname
  simp [callFunc, hf, h1, hb]

theorem callFunc68 (args : Array Value) (w : World) : Sem.run Try.prog (callFunc 68 args) w = .ok (.enter 68 args) w :=
  callFunc_enter Try.func68 (by kernel_rfl) rfl args w

set_option maxRecDepth 100000 in
set_option maxHeartbeats 400000 in
theorem rint_err (w : World) (b : Nat) (a : Option Addr) (cap : Nat) (xs : List Int) (at0 : Nat) (low high er fa : Int) (h : RAt w b a cap xs at0 0 0) (hr : bnd xs at0 low high 5 = .error (er, fa)) :
    Calls Try.prog 38 #[.pointer (some ⟨b, 0, none⟩), .int .i64 low, .int .i64 high] w fun e w' => e = .returned (.int .i64 0) ∧ RAt w' b a cap xs at0 er fa ∧ Moved b none none w w' := by
  have hmf : ∀ (fn : Fn) (first cap : Array Value) (w : World), (Instr.makeFunc fn first cap).run Try.prog w = .ok (.func fn first cap) w := fun _ _ _ _ => rfl
  have hlt := h.lt
  have hblk := h.blk_lt
  have h4 : RAt (int4 w b low high) b a cap xs at0 0 0 := (((h.alloc _).alloc _).alloc _).alloc _
  have hrows := int4_rows w b low high
  have hsz := int4_size w b low high
  have hmv := int4_moved w b low high
  have ht := try_err (int4 w b low high) b a cap xs at0 h4 68 #[.pointer (some ⟨w.heap.size, 0, none⟩), .pointer (some ⟨w.heap.size + 1, 0, none⟩), .pointer (some ⟨w.heap.size + 2, 0, none⟩), .pointer (some ⟨w.heap.size + 3, 0, none⟩)] er fa (callFunc68 _)
    (fun W hM hR => int1_err W b a cap xs at0 low high er fa _ _ _ _ hR hr ((hM.block _ (by omega) (by omega) (by simp)).trans hrows.1) ((hM.block _ (by omega) (by omega) (by simp)).trans hrows.2.1) ((hM.block _ (by omega) (by omega) (by simp)).trans hrows.2.2.1))
  have Ht := Lib.hid ht
  have Hrow := Lib.hid hrows
  have Hsz := Lib.hid hsz
  have Hmv := Lib.hid hmv
  have Hblk := Lib.hid hblk
  clear ht hrows hsz hmv hr h4 h hblk
  go_enter Try.func38, Try.ntmps38
  go_wp2_with fail
  refine Ht.out.mono ?_
  rintro e w1 ⟨rfl, hR, hM⟩
  have hb6 := (hM.block (w.heap.size + 3) (by rw [Hsz.out]; omega) (by omega) (by simp)).trans Hrow.out.2.2.2
  have c6 : w1.cell? ⟨w.heap.size + 1 + 1 + 1, 0, none⟩ = some (.int .i64 0) := by rw [cell_of_row _ _ _ _ _ _ hb6]; rfl
  have f6 : w1.frozen? ⟨w.heap.size + 1 + 1 + 1, 0, none⟩ = false := frozen_of_row _ _ _ _ _ hb6
  have HB6 := Lib.hid hb6
  clear hb6
  go_wp2_with fail
  refine bodyPost_ret (v := .int .i64 0) (by simp [results, Try.results38, go_sem, c6]) rfl ⟨rfl, ?_, ?_⟩
  · exact hR.setNew _ _ _ (by omega) (fun e => by have := Hblk.out _ e; omega)
  · exact (Hmv.out.trans hM).setNew _ _ _ (by omega)

set_option maxRecDepth 100000 in
set_option maxHeartbeats 400000 in
theorem rint_ok (w : World) (b : Nat) (a : Option Addr) (cap : Nat) (xs : List Int) (at0 : Nat) (low high v : Int) (nx : Nat) (h : RAt w b a cap xs at0 0 0) (hr : bnd xs at0 low high 5 = .ok (v, nx)) :
    Calls Try.prog 38 #[.pointer (some ⟨b, 0, none⟩), .int .i64 low, .int .i64 high] w fun e w' => e = .returned (.int .i64 v) ∧ RAt w' b a cap xs nx 0 0 ∧ Moved b none none w w' := by
  have hmf : ∀ (fn : Fn) (first cap : Array Value) (w : World), (Instr.makeFunc fn first cap).run Try.prog w = .ok (.func fn first cap) w := fun _ _ _ _ => rfl
  have hlt := h.lt
  have hblk := h.blk_lt
  have h4 : RAt (int4 w b low high) b a cap xs at0 0 0 := (((h.alloc _).alloc _).alloc _).alloc _
  have hrows := int4_rows w b low high
  have hsz := int4_size w b low high
  have hmv := int4_moved w b low high
  have ht := try_ok (int4 w b low high) b a cap xs at0 h4 68 #[.pointer (some ⟨w.heap.size, 0, none⟩), .pointer (some ⟨w.heap.size + 1, 0, none⟩), .pointer (some ⟨w.heap.size + 2, 0, none⟩), .pointer (some ⟨w.heap.size + 3, 0, none⟩)]
    (fun W' => ∃ W, Moved b none none (int4 w b low high) W ∧ Int1Post b a cap xs nx v (w.heap.size + 3) W W') (callFunc68 _)
    (fun W hM hR => (int1_ok W b a cap xs at0 low high v 0 nx _ _ _ _ hR hr ((hM.block _ (by omega) (by omega) (by simp)).trans hrows.1) ((hM.block _ (by omega) (by omega) (by simp)).trans hrows.2.1) ((hM.block _ (by omega) (by omega) (by simp)).trans hrows.2.2.1) ((hM.block _ (by omega) (by omega) (by simp)).trans hrows.2.2.2) (by omega)).mono fun e W' hh => ⟨hh.1, W, hM, hh.2⟩)
  have Ht := Lib.hid ht
  have Hrow := Lib.hid hrows
  have Hsz := Lib.hid hsz
  have Hmv := Lib.hid hmv
  have Hblk := Lib.hid hblk
  clear ht hrows hsz hmv hr h4 h hblk
  go_enter Try.func38, Try.ntmps38
  go_wp2_with fail
  refine Ht.out.mono ?_
  rintro e w1 ⟨rfl, W, hM, W1, hR, hM1, hw1⟩
  have hM2 := hM.trans hM1
  have hb6 : W1.heap[w.heap.size + 3]? = some (.cells #[.int .i64 0] 3 (0, 0)) := (hM2.block (w.heap.size + 3) (by rw [Hsz.out]; omega) (by omega) (by simp)).trans Hrow.out.2.2.2
  have hb7 : w1.heap[w.heap.size + 3]? = some (.cells #[.int .i64 v] 3 (0, 0)) := by rw [hw1, heap_setCell_same _ _ _ _ _ _ hb6]; rfl
  have hR1 : RAt w1 b a cap xs nx 0 0 := by rw [hw1]; exact hR.setNew _ _ _ (by omega) (fun e => by have := Hblk.out _ e; omega)
  have hMw : Moved b none none w w1 := by rw [hw1]; exact (Hmv.out.trans hM2).setNew _ _ _ (by omega)
  have c6 : w1.cell? ⟨w.heap.size + 1 + 1 + 1, 0, none⟩ = some (.int .i64 v) := by rw [cell_of_row _ _ _ _ _ _ hb7]; rfl
  have f6 : w1.frozen? ⟨w.heap.size + 1 + 1 + 1, 0, none⟩ = false := frozen_of_row _ _ _ _ _ hb7
  clear hw1 hb6 hb7 hM hM1 hM2 hR
  go_wp2_with fail
  refine bodyPost_ret (v := .int .i64 v) (by simp [results, Try.results38, go_sem, c6]) rfl ⟨rfl, ?_, ?_⟩
  · exact hR1.setNew _ _ _ (by omega) (fun e => by have := Hblk.out _ e; omega)
  · exact hMw.setNew _ _ _ (by omega)

/-- (*Reader).Int, behind a fault -/
theorem rint_stop (w : World) (b : Nat) (a : Option Addr) (cap : Nat) (xs : List Int) (at0 : Nat) (low high err fat : Int) (h : RAt w b a cap xs at0 err fat) (he : err ≠ 0) :
    Calls Try.prog 38 #[.pointer (some ⟨b, 0, none⟩), .int .i64 low, .int .i64 high] w fun e w' => e = .returned (.int .i64 0) ∧ RAt w' b a cap xs at0 err fat ∧ Moved b none none w w' := by
  have hmf : ∀ (fn : Fn) (first cap : Array Value) (w : World), (Instr.makeFunc fn first cap).run Try.prog w = .ok (.func fn first cap) w := fun _ _ _ _ => rfl
  have hlt := h.lt
  have hblk := h.blk_lt
  have h4 : RAt (int4 w b low high) b a cap xs at0 err fat := (((h.alloc _).alloc _).alloc _).alloc _
  have hrows := int4_rows w b low high
  have hsz := int4_size w b low high
  have hmv := int4_moved w b low high
  have ht := try_stop (int4 w b low high) b a cap xs at0 err fat h4 he 68 #[.pointer (some ⟨w.heap.size, 0, none⟩), .pointer (some ⟨w.heap.size + 1, 0, none⟩), .pointer (some ⟨w.heap.size + 2, 0, none⟩), .pointer (some ⟨w.heap.size + 3, 0, none⟩)]
  have Ht := Lib.hid ht
  have Hrow := Lib.hid hrows
  have Hsz := Lib.hid hsz
  have Hmv := Lib.hid hmv
  have Hblk := Lib.hid hblk
  have He := Lib.hid he
  clear ht hrows hsz hmv h4 h hblk he
  go_enter Try.func38, Try.ntmps38
  go_wp2_with fail
  refine Ht.out.mono ?_
  rintro e w1 ⟨rfl, hR, hM⟩
  have hb6 := (hM.block (w.heap.size + 3) (by rw [Hsz.out]; omega) (by omega) (by simp)).trans Hrow.out.2.2.2
  have c6 : w1.cell? ⟨w.heap.size + 1 + 1 + 1, 0, none⟩ = some (.int .i64 0) := by rw [cell_of_row _ _ _ _ _ _ hb6]; rfl
  have f6 : w1.frozen? ⟨w.heap.size + 1 + 1 + 1, 0, none⟩ = false := frozen_of_row _ _ _ _ _ hb6
  have HB6 := Lib.hid hb6
  clear hb6
  go_wp2_with fail
  refine bodyPost_ret (v := .int .i64 0) (by simp [results, Try.results38, go_sem, c6]) rfl ⟨rfl, ?_, ?_⟩
  · exact hR.setNew _ _ _ (by omega) (fun e => by have := Hblk.out _ e; omega)
  · exact (Hmv.out.trans hM).setNew _ _ _ (by omega)

end Go.Proofs.Ytkfhljggdcajpaa
