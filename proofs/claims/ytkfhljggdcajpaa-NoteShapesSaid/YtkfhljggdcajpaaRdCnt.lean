/-
  The reader of package field: Count, End.
-/
import Derived.Test.YtkfhljggdcajpaaRdId
namespace Go.Proofs.Ytkfhljggdcajpaa
open Go.RowKit

set_option maxRecDepth 100000 in
set_option maxHeartbeats 400000 in
theorem cnt1_ok (W : World) (b : Nat) (a : Option Addr) (cap : Nat) (xs : List Int) (at0 : Nat) (high v old : Int) (nx : Nat) (p3 p5 p6 : Nat) (h : RAt W b a cap xs at0 0 0) (hr : bnd xs at0 0 high 3 = .ok (v, nx))
    (h3 : W.heap[p3]? = some (.cells #[.pointer (some ⟨b, 0, none⟩)] 48 (0, 0))) (h5 : W.heap[p5]? = some (.cells #[.int .i64 high] 3 (0, 0)))
    (h6 : W.heap[p6]? = some (.cells #[.int .i64 old] 3 (0, 0))) (hb : p6 ≠ b) :
    Calls Try.prog 73 #[.pointer (some ⟨p3, 0, none⟩), .pointer (some ⟨p5, 0, none⟩), .pointer (some ⟨p6, 0, none⟩)] W fun e W' => e = .returned (.tuple #[]) ∧ Int1Post b a cap xs nx v p6 W W' := by
  have c3 : W.cell? ⟨p3, 0, none⟩ = some (.pointer (some ⟨b, 0, none⟩)) := by rw [cell_of_row _ _ _ _ _ _ h3]; rfl
  have c5 : W.cell? ⟨p5, 0, none⟩ = some (.int .i64 high) := by rw [cell_of_row _ _ _ _ _ _ h5]; rfl
  have H6 := Lib.hid h6
  have H := Lib.hid h
  have Hr := Lib.hid hr
  have Hb := Lib.hid hb
  clear h3 h5 h6 h hr hb
  go_enter Try.func73, Try.ntmps73
  go_wp2_with fail
  refine (bounded_any _ _ _ _ _ _ _ _ _ H.out).mono ?_
  rintro e w1 hq
  rw [Hr.out] at hq
  obtain ⟨pos, hR, hM, rfl, rfl⟩ := hq
  have hb6 := (hM.block p6 (lt_of_row H6.out) Hb.out (by simp)).trans H6.out
  have c6 : w1.cell? ⟨p6, 0, none⟩ = some (.int .i64 old) := by rw [cell_of_row _ _ _ _ _ _ hb6]; rfl
  have f6 : w1.frozen? ⟨p6, 0, none⟩ = false := frozen_of_row _ _ _ _ _ hb6
  have HB6 := Lib.hid hb6
  clear hb6
  go_wp2_with fail
  go_end0
  exact ⟨rfl, w1, hR, hM, rfl⟩

set_option maxRecDepth 100000 in
set_option maxHeartbeats 400000 in
theorem cnt1_err (W : World) (b : Nat) (a : Option Addr) (cap : Nat) (xs : List Int) (at0 : Nat) (high er fa : Int) (p3 p5 p6 : Nat) (h : RAt W b a cap xs at0 0 0) (hr : bnd xs at0 0 high 3 = .error (er, fa))
    (h3 : W.heap[p3]? = some (.cells #[.pointer (some ⟨b, 0, none⟩)] 48 (0, 0))) (h5 : W.heap[p5]? = some (.cells #[.int .i64 high] 3 (0, 0))) :
    Calls Try.prog 73 #[.pointer (some ⟨p3, 0, none⟩), .pointer (some ⟨p5, 0, none⟩), .pointer (some ⟨p6, 0, none⟩)] W fun e W' => e = .panicked [{ v := .iface 110 (.agg #[.int .i64 er, .int .i64 fa]), recovered := false }] ∧ ∃ pos, RAt W' b a cap xs pos 0 0 ∧ Moved b none none W W' := by
  have c3 : W.cell? ⟨p3, 0, none⟩ = some (.pointer (some ⟨b, 0, none⟩)) := by rw [cell_of_row _ _ _ _ _ _ h3]; rfl
  have c5 : W.cell? ⟨p5, 0, none⟩ = some (.int .i64 high) := by rw [cell_of_row _ _ _ _ _ _ h5]; rfl
  have H := Lib.hid h
  have Hr := Lib.hid hr
  clear h3 h5 h hr
  go_enter Try.func73, Try.ntmps73
  go_wp2_with fail
  refine (bounded_any _ _ _ _ _ _ _ _ _ H.out).mono ?_
  rintro e w1 hq
  rw [Hr.out] at hq
  obtain ⟨pos, hR, hM, he⟩ := hq
  unfold faultEnd at he
  subst he
  go_wp2_with fail
  exact ⟨rfl, rfl, pos, hR, hM⟩

/-- the three variables of Count that its closure holds -/
def cn3 (w : World) (b : Nat) (high : Int) : World := ((w.alloc (.cells #[.pointer (some ⟨b, 0, none⟩)] 48)).alloc (.cells #[.int .i64 high] 3)).alloc (.cells #[.int .i64 0] 3)
theorem cn3_size (w : World) (b : Nat) (high : Int) : (cn3 w b high).heap.size = w.heap.size + 3 := by simp [cn3]
theorem cn3_moved (w : World) (b : Nat) (high : Int) : Moved b none none w (cn3 w b high) := (((Moved.refl _ _ _).alloc _).alloc _).alloc _
theorem cn3_rows (w : World) (b : Nat) (high : Int) : (cn3 w b high).heap[w.heap.size]? = some (.cells #[.pointer (some ⟨b, 0, none⟩)] 48 (0, 0)) ∧ (cn3 w b high).heap[w.heap.size + 1]? = some (.cells #[.int .i64 high] 3 (0, 0)) ∧
    (cn3 w b high).heap[w.heap.size + 2]? = some (.cells #[.int .i64 0] 3 (0, 0)) := by
  unfold cn3
  refine ⟨?_, ?_, ?_⟩
  · rw [Below.heap_alloc _ _ _ (by simp only [World.size_alloc]; omega)]; exact heap_alloc2_old w _ _
  · rw [Below.heap_alloc _ _ _ (by simp only [World.size_alloc]; omega)]; exact heap_alloc2_new w _ _
  · have := heap_alloc_new ((w.alloc (.cells #[.pointer (some ⟨b, 0, none⟩)] 48)).alloc (.cells #[.int .i64 high] 3)) (.cells #[.int .i64 0] 3)
    simpa only [World.size_alloc] using this

theorem callFunc73 (args : Array Value) (w : World) : Sem.run Try.prog (callFunc 73 args) w = .ok (.enter 73 args) w :=
  callFunc_enter Try.func73 (by kernel_rfl) rfl args w

/-- what a reader's call of Count leaves -/
def GotNum (w : World) (b : Nat) (a : Option Addr) (cap : Nat) (xs : List Int) (v : Int) (at1 : Nat) (er fa : Int) (e : Ending) (w' : World) : Prop :=
  e = .returned (.int .i64 v) ∧ RAt w' b a cap xs at1 er fa ∧ Moved b none none w w'

set_option maxRecDepth 100000 in
set_option maxHeartbeats 400000 in
theorem rcount_of (w : World) (b : Nat) (a : Option Addr) (cap : Nat) (xs : List Int) (at1 : Nat) (high v er fa : Int) (pos0 : Nat) (e0 f0 : Int) (h : RAt w b a cap xs pos0 e0 f0)
    (ht : Calls Try.prog 67 #[.pointer (some ⟨b, 0, none⟩), .func (.func 73) #[] #[.pointer (some ⟨w.heap.size, 0, none⟩), .pointer (some ⟨w.heap.size + 1, 0, none⟩), .pointer (some ⟨w.heap.size + 2, 0, none⟩)]] (cn3 w b high)
      fun e w' => e = .returned (.tuple #[]) ∧ RAt w' b a cap xs at1 er fa ∧ Moved b none none w w' ∧ w'.heap[w.heap.size + 2]? = some (.cells #[.int .i64 v] 3 (0, 0))) :
    Calls Try.prog 47 #[.pointer (some ⟨b, 0, none⟩), .int .i64 high] w fun e w' => GotNum w b a cap xs v at1 er fa e w' := by
  have hmf : ∀ (fn : Fn) (first cap : Array Value) (w : World), (Instr.makeFunc fn first cap).run Try.prog w = .ok (.func fn first cap) w := fun _ _ _ _ => rfl
  have hlt := h.lt
  have hblk := h.blk_lt
  have Ht := Lib.hid ht
  have Hblk := Lib.hid hblk
  clear ht h hblk
  go_enter Try.func47, Try.ntmps47
  go_wp2_with fail
  refine Ht.out.mono ?_
  rintro e w1 ⟨rfl, hR, hM, hb6⟩
  have c6 : w1.cell? ⟨w.heap.size + 1 + 1, 0, none⟩ = some (.int .i64 v) := by rw [cell_of_row _ _ _ _ _ _ hb6]; rfl
  have f6 : w1.frozen? ⟨w.heap.size + 1 + 1, 0, none⟩ = false := frozen_of_row _ _ _ _ _ hb6
  have HB6 := Lib.hid hb6
  clear hb6
  go_wp2_with fail
  refine bodyPost_ret (v := .int .i64 v) (by simp [results, Try.results47, go_sem, c6]) rfl ⟨rfl, ?_, ?_⟩
  · exact hR.setNew _ _ _ (by omega) (fun e => by have := Hblk.out _ e; omega)
  · exact hM.setNew _ _ _ (by omega)

theorem rcount_err (w : World) (b : Nat) (a : Option Addr) (cap : Nat) (xs : List Int) (at0 : Nat) (high er fa : Int) (h : RAt w b a cap xs at0 0 0) (hr : bnd xs at0 0 high 3 = .error (er, fa)) :
    Calls Try.prog 47 #[.pointer (some ⟨b, 0, none⟩), .int .i64 high] w fun e w' => GotNum w b a cap xs 0 at0 er fa e w' := by
  have hlt := h.lt
  have hrows := cn3_rows w b high
  have hsz := cn3_size w b high
  refine rcount_of w b a cap xs at0 high 0 er fa at0 0 0 h ((try_err (cn3 w b high) b a cap xs at0 (((h.alloc _).alloc _).alloc _) 73 _ er fa (callFunc73 _) (fun W hM hR => ?_)).mono fun e w' hh => ?_)
  · exact cnt1_err W b a cap xs at0 high er fa _ _ _ hR hr ((hM.block _ (by omega) (by omega) (by simp)).trans hrows.1) ((hM.block _ (by omega) (by omega) (by simp)).trans hrows.2.1)
  · exact ⟨hh.1, hh.2.1, (cn3_moved w b high).trans hh.2.2, (hh.2.2.block _ (by omega) (by omega) (by simp)).trans hrows.2.2⟩

theorem rcount_stop (w : World) (b : Nat) (a : Option Addr) (cap : Nat) (xs : List Int) (at0 : Nat) (high err fat : Int) (h : RAt w b a cap xs at0 err fat) (he : err ≠ 0) :
    Calls Try.prog 47 #[.pointer (some ⟨b, 0, none⟩), .int .i64 high] w fun e w' => GotNum w b a cap xs 0 at0 err fat e w' := by
  have hlt := h.lt
  have hrows := cn3_rows w b high
  have hsz := cn3_size w b high
  refine rcount_of w b a cap xs at0 high 0 err fat at0 err fat h ((try_stop (cn3 w b high) b a cap xs at0 err fat (((h.alloc _).alloc _).alloc _) he 73 _).mono fun e w' hh => ?_)
  exact ⟨hh.1, hh.2.1, (cn3_moved w b high).trans hh.2.2, (hh.2.2.block _ (by omega) (by omega) (by simp)).trans hrows.2.2⟩

theorem rcount_ok (w : World) (b : Nat) (a : Option Addr) (cap : Nat) (xs : List Int) (at0 : Nat) (high v : Int) (nx : Nat) (h : RAt w b a cap xs at0 0 0) (hr : bnd xs at0 0 high 3 = .ok (v, nx)) :
    Calls Try.prog 47 #[.pointer (some ⟨b, 0, none⟩), .int .i64 high] w fun e w' => GotNum w b a cap xs v nx 0 0 e w' := by
  have hlt := h.lt
  have hblk := h.blk_lt
  have hrows := cn3_rows w b high
  have hsz := cn3_size w b high
  refine rcount_of w b a cap xs nx high v 0 0 at0 0 0 h ((try_ok (cn3 w b high) b a cap xs at0 (((h.alloc _).alloc _).alloc _) 73 _
    (fun W' => ∃ W, Moved b none none (cn3 w b high) W ∧ Int1Post b a cap xs nx v (w.heap.size + 2) W W') (callFunc73 _)
    (fun W hM hR => (cnt1_ok W b a cap xs at0 high v 0 nx _ _ _ hR hr ((hM.block _ (by omega) (by omega) (by simp)).trans hrows.1) ((hM.block _ (by omega) (by omega) (by simp)).trans hrows.2.1) ((hM.block _ (by omega) (by omega) (by simp)).trans hrows.2.2) (by omega)).mono fun e W' hh => ⟨hh.1, W, hM, hh.2⟩)).mono fun e w' hh => ?_)
  obtain ⟨he, W, hM, W1, hR, hM1, hw1⟩ := hh
  have hM2 := hM.trans hM1
  have hb6 : W1.heap[w.heap.size + 2]? = some (.cells #[.int .i64 0] 3 (0, 0)) := (hM2.block _ (by omega) (by omega) (by simp)).trans hrows.2.2
  refine ⟨he, ?_, ?_, ?_⟩
  · rw [hw1]; exact hR.setNew _ _ _ (by omega) (fun e => by have := hblk _ e; omega)
  · rw [hw1]; exact ((cn3_moved w b high).trans hM2).setNew _ _ _ (by omega)
  · rw [hw1, heap_setCell_same _ _ _ _ _ _ hb6]; rfl

theorem row_set2 {w : World} {p t : Nat} {x y : Value} (h : w.heap[p]? = some (.cells #[x, y] t (0, 0))) (v u : Value) : ((w.setCell ⟨p, 0, none⟩ v).setCell ⟨p, 1, none⟩ u).heap[p]? = some (.cells #[v, u] t (0, 0)) := by
  rw [heap_setCell_same _ _ _ _ _ _ (heap_setCell_same _ _ _ _ _ _ h)]; rfl
theorem row_far2 {w : World} {p q : Nat} {o : Obj} (h : w.heap[p]? = some o) (hq : p ≠ q) (v u : Value) : ((w.setCell ⟨q, 0, none⟩ v).setCell ⟨q, 1, none⟩ u).heap[p]? = some o := by
  rw [heap_setCell_other _ _ _ _ hq, heap_setCell_other _ _ _ _ hq]; exact h
theorem row_alloc {w : World} {p : Nat} {o : Obj} (h : w.heap[p]? = some o) (o' : Obj) : (w.alloc o').heap[p]? = some o := (Below.heap_alloc _ _ _ (lt_of_row h)).trans h
theorem fault_size : (Try.prog.info? 51).map (·.size) = some 2 := by kernel_rfl

theorem below_drewN' (B : Nat) (w : World) (n : Nat) : Below B w (w.drewN n) := ⟨rfl, rfl, rfl, Nat.le_refl _, fun _ _ => rfl⟩

/-- what End tells -/
def endF (n pos : Nat) (err fat : Int) : Int × Int := if err = 0 ∧ pos < n then (4, pos) else (err, fat)

set_option maxRecDepth 100000 in
set_option maxHeartbeats 800000 in
theorem rend_any (w : World) (b : Nat) (a : Option Addr) (cap : Nat) (xs : List Int) (pos : Nat) (err fat : Int) (h : RAt w b a cap xs pos err fat) :
    Calls Try.prog 48 #[.pointer (some ⟨b, 0, none⟩)] w fun e w' => e = .returned (.agg #[.int .i64 (endF xs.length pos err fat).1, .int .i64 (endF xs.length pos err fat).2]) ∧ Below w.heap.size w w' := by
  obtain ⟨F1, F2, hF⟩ : ∃ F1 F2, endF xs.length pos err fat = (F1, F2) := ⟨_, _, rfl⟩
  rw [hF]
  have HF := Lib.hid hF
  clear hF
  have hlt := h.lt
  have hlen := h.len
  have hf := fault_any (w.alloc (.cells #[.int .i64 0, .int .i64 0] 51)) b a cap xs pos err fat (h.alloc _)
  have Hf := Lib.hid hf
  have hB0 : Below w.heap.size w (w.alloc (.cells #[.int .i64 0, .int .i64 0] 51)) := (Below.refl _ _).alloc (Nat.le_refl _) _
  have HB0 := Lib.hid hB0
  have Hw := Lib.hid h
  clear hf h hB0
  go_enter Try.func48, Try.ntmps48
  go_wp2_with fail
  refine Hf.out.mono ?_
  rintro e w1 ⟨rfl, hB⟩
  have hB1 := HB0.out.trans (hB.mono (by simp))
  have hR1 := Hw.out.below hB1
  obtain ⟨c0, c1, c2, c3, c4⟩ := hR1.cells
  have hlt1 := hR1.lt
  have hs1 := hB1.size
  have hr0 : w1.heap[w.heap.size]? = some (.cells #[.int .i64 0, .int .i64 0] 51) := (hB.block _ (by simp)).trans (by have := heap_alloc_new w (.cells #[.int .i64 0, .int .i64 0] 51); simpa using this)
  have hlt0 := lt_of_row hr0
  have d0 : w1.cell? ⟨w.heap.size, 0, none⟩ = some (.int .i64 0) := by rw [cell_of_row _ _ _ _ _ _ hr0]; rfl
  have d1 : w1.cell? ⟨w.heap.size, 1, none⟩ = some (.int .i64 0) := by rw [cell_of_row _ _ _ _ _ _ hr0]; rfl
  have f0 : w1.frozen? ⟨w.heap.size, 0, none⟩ = false := frozen_of_row _ _ _ _ _ hr0
  have f1 : w1.frozen? ⟨w.heap.size, 1, none⟩ = false := frozen_of_row _ _ _ _ _ hr0
  have HB1 := Lib.hid hB1
  have HR1 := Lib.hid hR1
  have HR0 := Lib.hid hr0
  clear hB hB1 hR1 hr0
  by_cases he : err = 0
  · subst he
    by_cases hp : pos < xs.length
    · have hend : endF xs.length pos 0 fat = (4, (pos : Int)) := by unfold endF; rw [if_pos ⟨rfl, hp⟩]
      rw [HF.out] at hend
      cases hend
      go_wp2_with fail
      go_quiet (fail)
      go_wp2_with fail
      refine bodyPost_ret (v := .agg #[.int .i64 4, .int .i64 pos]) (results_cell_row rfl _ _ w.heap.size 51 _ (0, 0) _ rfl (row_set2 (row_far2 (row_alloc HR0.out _) (by omega) _ _) _ _) Try.underlying51 rfl fault_size) rfl ⟨rfl, ?_⟩
      exact (((((HB1.out.alloc hs1 _).trans (below_drewN' _ _ _)).setCell (p := ⟨w1.heap.size, 0, none⟩) hs1 _).setCell (p := ⟨w1.heap.size, 1, none⟩) hs1 _).setCell (p := ⟨w.heap.size, 0, none⟩) (Nat.le_refl _) _).setCell (p := ⟨w.heap.size, 1, none⟩) (Nat.le_refl _) _
    · have hend : endF xs.length pos 0 fat = (0, fat) := by unfold endF; rw [if_neg (by omega)]
      rw [HF.out] at hend
      cases hend
      go_wp2_with fail
      go_quiet (fail)
      go_wp2_with fail
      refine bodyPost_ret (v := .agg #[.int .i64 0, .int .i64 fat]) (results_cell_row rfl _ _ w.heap.size 51 _ (0, 0) _ rfl (row_set2 (row_alloc HR0.out _) _ _) Try.underlying51 rfl fault_size) rfl ⟨rfl, ?_⟩
      exact (((HB1.out.alloc hs1 _).trans (below_drewN' _ _ _)).setCell (p := ⟨w.heap.size, 0, none⟩) (Nat.le_refl _) _).setCell (p := ⟨w.heap.size, 1, none⟩) (Nat.le_refl _) _
  · have hend : endF xs.length pos err fat = (err, fat) := by unfold endF; rw [if_neg (fun h => he h.1)]
    rw [HF.out] at hend
    cases hend
    go_wp2_with fail
    go_quiet (fail)
    go_wp2_with fail
    refine bodyPost_ret (v := .agg #[.int .i64 err, .int .i64 fat]) (results_cell_row rfl _ _ w.heap.size 51 _ (0, 0) _ rfl (row_set2 (row_alloc HR0.out _) _ _) Try.underlying51 rfl fault_size) rfl ⟨rfl, ?_⟩
    exact (((HB1.out.alloc hs1 _).trans (below_drewN' _ _ _)).setCell (p := ⟨w.heap.size, 0, none⟩) (Nat.le_refl _) _).setCell (p := ⟨w.heap.size, 1, none⟩) (Nat.le_refl _) _

end Go.Proofs.Ytkfhljggdcajpaa
