/-
  Package note: count.
-/
import Derived.Test.YtkfhljggdcajpaaRdCnt
namespace Go.Proofs.Ytkfhljggdcajpaa
open Go.RowKit

theorem Moved.below_ {b : Nat} {w w' W : World} (h : Moved b none none w w') (hb : Below w'.heap.size w' W) : Moved b none none w W :=
  h.trans (hb.movedR b none)

theorem field_err (x y : Int) (w : World) : (Instr.field 51 (.agg #[.int .i64 x, .int .i64 y]) 0).run Try.prog w = .ok (.int .i64 x) w := by kernel_rfl

section
variable {P : Program}
theorem results_tmp_cell {fn : Func} {i p : Tmp} {ty : TypeId} (h : fn.results = #[.tmp i, .cell p ty]) (tmps : Array Value) (w : World) (v : Value) (g : Nat) (t : TypeId) (cs : Array Value) (fr : Nat × Nat) (d : TypeDesc)
    (hi0 : tmps.getD i undef = v) (hp : tmps.getD p undef = .pointer (some ⟨g, 0, none⟩)) (hg : w.heap[g]? = some (.cells cs t fr))
    (hu : P.underlying ty = some d) (hd : (match d with | .struct _ | .array _ _ => true | _ => false) = true) (hi : (P.info? ty).map (·.size) = some cs.size) :
    (results fn tmps).run P w = .ok (.tuple #[v, .agg cs]) w := by
  have hp' : tmps[p]?.getD undef = .pointer (some ⟨g, 0, none⟩) := by simpa using hp
  have hi' : tmps[i]?.getD undef = v := by simpa using hi0
  simp [results, h, hp', hi', asAddr, run_loadVar_row w g t ty cs fr d hg hu hd hi]

theorem results_cell2 {fn : Func} {p q : Tmp} {ty uy : TypeId} (h : fn.results = #[.cell p ty, .cell q uy]) (tmps : Array Value) (w : World) (g1 g2 : Nat) (t1 t2 : TypeId) (cs ds : Array Value) (fr1 fr2 : Nat × Nat) (d1 d2 : TypeDesc)
    (hp : tmps.getD p undef = .pointer (some ⟨g1, 0, none⟩)) (hg : w.heap[g1]? = some (.cells cs t1 fr1))
    (hu : P.underlying ty = some d1) (hd : (match d1 with | .struct _ | .array _ _ => true | _ => false) = true) (hi : (P.info? ty).map (·.size) = some cs.size)
    (hp2 : tmps.getD q undef = .pointer (some ⟨g2, 0, none⟩)) (hg2 : w.heap[g2]? = some (.cells ds t2 fr2))
    (hu2 : P.underlying uy = some d2) (hd2 : (match d2 with | .struct _ | .array _ _ => true | _ => false) = true) (hi2 : (P.info? uy).map (·.size) = some ds.size) :
    (results fn tmps).run P w = .ok (.tuple #[.agg cs, .agg ds]) w := by
  have hp' : tmps[p]?.getD undef = .pointer (some ⟨g1, 0, none⟩) := by simpa using hp
  have hq' : tmps[q]?.getD undef = .pointer (some ⟨g2, 0, none⟩) := by simpa using hp2
  simp [results, h, hp', hq', asAddr, run_loadVar_row w g1 t1 ty cs fr1 d1 hg hu hd hi, run_loadVar_row w g2 t2 uy ds fr2 d2 hg2 hu2 hd2 hi2]
end

/-- the fault of too few -/
def fewOf (at0 : Nat) (lo v : Int) : Int × Int := if v < lo then (5, at0) else (0, 0)

/-- what count leaves -/
def Counted (w : World) (b : Nat) (a : Option Addr) (cap : Nat) (xs : List Int) (v : Int) (at1 : Nat) (er fa f1 f2 : Int) (e : Ending) (w' : World) : Prop :=
  e = .returned (.tuple #[.int .i64 v, .agg #[.int .i64 f1, .int .i64 f2]]) ∧ RAt w' b a cap xs at1 er fa ∧ Moved b none none w w'

set_option maxRecDepth 100000 in
set_option maxHeartbeats 1000000 in
theorem count_ok (w : World) (b : Nat) (a : Option Addr) (cap : Nat) (xs : List Int) (at0 : Nat) (lo hi v : Int) (nx : Nat) (h : RAt w b a cap xs at0 0 0) (hr : bnd xs at0 0 hi 3 = .ok (v, nx)) (few f2 : Int) (hf : (few, f2) = fewOf at0 lo v) :
    Calls Try.prog 79 #[.pointer (some ⟨b, 0, none⟩), .agg #[.int .i64 lo, .int .i64 hi]] w fun e w' => Counted w b a cap xs v nx 0 0 few f2 e w' := by
  replace hf := Lib.hid hf
  have hfld := field_err
  have hlt := h.lt
  have hblk := h.blk_lt
  have h2 := (h.alloc (.cells #[.int .i64 lo, .int .i64 hi] 95)).alloc (.cells #[.int .i64 0, .int .i64 0] 51)
  have hm2 : Moved b none none w ((w.alloc (.cells #[.int .i64 lo, .int .i64 hi] 95)).alloc (.cells #[.int .i64 0, .int .i64 0] 51)) := ((Moved.refl _ _ _).alloc _).alloc _
  have hrow0 := heap_alloc2_old w (.cells #[.int .i64 lo, .int .i64 hi] 95) (.cells #[.int .i64 0, .int .i64 0] 51)
  have hrow1 := heap_alloc2_new w (.cells #[.int .i64 lo, .int .i64 hi] 95) (.cells #[.int .i64 0, .int .i64 0] 51)
  have H2 := Lib.hid h2
  have HM2 := Lib.hid hm2
  have HR0 := Lib.hid hrow0
  have HR1 := Lib.hid hrow1
  have Hr := Lib.hid hr
  have Hblk := Lib.hid hblk
  clear h h2 hm2 hrow0 hrow1 hr hblk
  go_enter Try.func79, Try.ntmps79
  go_wp2_with fail
  refine (at_any _ _ _ _ _ _ _ _ H2.out).mono ?_
  rintro e w1 ⟨rfl, rfl⟩
  go_wp2_with fail
  refine (rcount_ok _ _ _ _ _ _ _ _ _ H2.out Hr.out).mono ?_
  rintro e w1 ⟨rfl, hR, hM⟩
  have hsz : w.heap.size + 2 ≤ w1.heap.size := by have := hM.size; simp at this; omega
  have hr0 := (hM.block w.heap.size (by simp; omega) (by omega) (by simp)).trans HR0.out
  have hr1 := (hM.block (w.heap.size + 1) (by simp) (by omega) (by simp)).trans HR1.out
  have c0 : w1.cell? ⟨w.heap.size, 0, none⟩ = some (.int .i64 lo) := by rw [cell_of_row _ _ _ _ _ _ hr0]; rfl
  have c1 : w1.cell? ⟨w.heap.size, 1, none⟩ = some (.int .i64 hi) := by rw [cell_of_row _ _ _ _ _ _ hr0]; rfl
  go_wp2_with fail
  refine (fault_any _ _ _ _ _ _ _ _ hR).mono ?_
  rintro e w2 ⟨rfl, hB⟩
  have hq0 := (hB.block _ (lt_of_row hr0)).trans hr0
  have hq1 := (hB.block _ (lt_of_row hr1)).trans hr1
  have d0 : w2.cell? ⟨w.heap.size, 0, none⟩ = some (.int .i64 lo) := by rw [cell_of_row _ _ _ _ _ _ hq0]; rfl
  have e0 : w2.cell? ⟨w.heap.size + 1, 0, none⟩ = some (.int .i64 0) := by rw [cell_of_row _ _ _ _ _ _ hq1]; rfl
  have e1 : w2.cell? ⟨w.heap.size + 1, 1, none⟩ = some (.int .i64 0) := by rw [cell_of_row _ _ _ _ _ _ hq1]; rfl
  have f0 : w2.frozen? ⟨w.heap.size + 1, 0, none⟩ = false := frozen_of_row _ _ _ _ _ hq1
  have f1 : w2.frozen? ⟨w.heap.size + 1, 1, none⟩ = false := frozen_of_row _ _ _ _ _ hq1
  have hlt2 := lt_of_row hq1
  have HR2 := Lib.hid (hR.below hB)
  have HM3 := Lib.hid ((HM2.out.trans hM).below_ (hB.mono (Nat.le_refl _)))
  have HQ1 := Lib.hid hq1
  clear hq0 hq1 hr0 hr1 c0 c1 hR hM hB H2 HM2 HR0 HR1
  by_cases hv : v < lo
  · have hg := hf.out
    rw [fewOf, if_pos hv] at hg
    cases hg
    go_wp2_with fail
    go_region
    go_wp2_with fail
    refine bodyPost_ret (v := .tuple #[.int .i64 v, .agg #[.int .i64 5, .int .i64 at0]]) (results_tmp_cell rfl _ _ _ (w.heap.size + 1) 51 _ (0, 0) _ rfl rfl (row_set2 (row_set2 HQ1.out _ _) _ _) Try.underlying51 rfl fault_size) rfl ⟨rfl, ((((HR2.out.setNew _ _ _ (by omega) (fun e => by have := Hblk.out _ e; omega)).setNew _ _ _ (by omega) (fun e => by have := Hblk.out _ e; omega)).setNew _ _ _ (by omega) (fun e => by have := Hblk.out _ e; omega)).setNew _ _ _ (by omega) (fun e => by have := Hblk.out _ e; omega)).drewN 1, ((((HM3.out.setNew _ _ _ (by omega)).setNew _ _ _ (by omega)).setNew _ _ _ (by omega)).setNew _ _ _ (by omega)).drewN 1⟩
  · have hg := hf.out
    rw [fewOf, if_neg hv] at hg
    cases hg
    go_wp2_with fail
    go_region
    go_wp2_with fail
    refine bodyPost_ret (v := .tuple #[.int .i64 v, .agg #[.int .i64 0, .int .i64 0]]) (results_tmp_cell rfl _ _ _ (w.heap.size + 1) 51 _ (0, 0) _ rfl rfl (row_set2 HQ1.out _ _) Try.underlying51 rfl fault_size) rfl ⟨rfl, ((HR2.out.setNew _ _ _ (by omega) (fun e => by have := Hblk.out _ e; omega)).setNew _ _ _ (by omega) (fun e => by have := Hblk.out _ e; omega)).drewN 1, ((HM3.out.setNew _ _ _ (by omega)).setNew _ _ _ (by omega)).drewN 1⟩

set_option maxRecDepth 100000 in
set_option maxHeartbeats 1000000 in
theorem count_err (w : World) (b : Nat) (a : Option Addr) (cap : Nat) (xs : List Int) (at0 : Nat) (lo hi er fa : Int) (h : RAt w b a cap xs at0 0 0) (hr : bnd xs at0 0 hi 3 = .error (er, fa)) (he : er ≠ 0) :
    Calls Try.prog 79 #[.pointer (some ⟨b, 0, none⟩), .agg #[.int .i64 lo, .int .i64 hi]] w fun e w' => Counted w b a cap xs 0 at0 er fa 0 0 e w' := by
  have hfld := field_err
  have hlt := h.lt
  have hblk := h.blk_lt
  have h2 := (h.alloc (.cells #[.int .i64 lo, .int .i64 hi] 95)).alloc (.cells #[.int .i64 0, .int .i64 0] 51)
  have hm2 : Moved b none none w ((w.alloc (.cells #[.int .i64 lo, .int .i64 hi] 95)).alloc (.cells #[.int .i64 0, .int .i64 0] 51)) := ((Moved.refl _ _ _).alloc _).alloc _
  have hrow0 := heap_alloc2_old w (.cells #[.int .i64 lo, .int .i64 hi] 95) (.cells #[.int .i64 0, .int .i64 0] 51)
  have hrow1 := heap_alloc2_new w (.cells #[.int .i64 lo, .int .i64 hi] 95) (.cells #[.int .i64 0, .int .i64 0] 51)
  have H2 := Lib.hid h2
  have HM2 := Lib.hid hm2
  have HR0 := Lib.hid hrow0
  have HR1 := Lib.hid hrow1
  have Hr := Lib.hid hr
  have Hblk := Lib.hid hblk
  clear h h2 hm2 hrow0 hrow1 hr hblk
  go_enter Try.func79, Try.ntmps79
  go_wp2_with fail
  refine (at_any _ _ _ _ _ _ _ _ H2.out).mono ?_
  rintro e w1 ⟨rfl, rfl⟩
  go_wp2_with fail
  refine (rcount_err _ _ _ _ _ _ _ _ _ H2.out Hr.out).mono ?_
  rintro e w1 ⟨rfl, hR, hM⟩
  have hsz : w.heap.size + 2 ≤ w1.heap.size := by have := hM.size; simp at this; omega
  have hr0 := (hM.block w.heap.size (by simp; omega) (by omega) (by simp)).trans HR0.out
  have hr1 := (hM.block (w.heap.size + 1) (by simp) (by omega) (by simp)).trans HR1.out
  have c0 : w1.cell? ⟨w.heap.size, 0, none⟩ = some (.int .i64 lo) := by rw [cell_of_row _ _ _ _ _ _ hr0]; rfl
  have c1 : w1.cell? ⟨w.heap.size, 1, none⟩ = some (.int .i64 hi) := by rw [cell_of_row _ _ _ _ _ _ hr0]; rfl
  go_wp2_with fail
  refine (fault_any _ _ _ _ _ _ _ _ hR).mono ?_
  rintro e w2 ⟨rfl, hB⟩
  have hq0 := (hB.block _ (lt_of_row hr0)).trans hr0
  have hq1 := (hB.block _ (lt_of_row hr1)).trans hr1
  have d0 : w2.cell? ⟨w.heap.size, 0, none⟩ = some (.int .i64 lo) := by rw [cell_of_row _ _ _ _ _ _ hq0]; rfl
  have e0 : w2.cell? ⟨w.heap.size + 1, 0, none⟩ = some (.int .i64 0) := by rw [cell_of_row _ _ _ _ _ _ hq1]; rfl
  have e1 : w2.cell? ⟨w.heap.size + 1, 1, none⟩ = some (.int .i64 0) := by rw [cell_of_row _ _ _ _ _ _ hq1]; rfl
  have f0 : w2.frozen? ⟨w.heap.size + 1, 0, none⟩ = false := frozen_of_row _ _ _ _ _ hq1
  have f1 : w2.frozen? ⟨w.heap.size + 1, 1, none⟩ = false := frozen_of_row _ _ _ _ _ hq1
  have hlt2 := lt_of_row hq1
  have HR2 := Lib.hid (hR.below hB)
  have HM3 := Lib.hid ((HM2.out.trans hM).below_ (hB.mono (Nat.le_refl _)))
  have HQ1 := Lib.hid hq1
  clear hq0 hq1 hr0 hr1 c0 c1 hR hM hB H2 HM2 HR0 HR1
  go_wp2_with fail
  go_region
  go_wp2_with fail
  refine bodyPost_ret (v := .tuple #[.int .i64 0, .agg #[.int .i64 0, .int .i64 0]]) (results_tmp_cell rfl _ _ _ (w.heap.size + 1) 51 _ (0, 0) _ rfl rfl (row_set2 HQ1.out _ _) Try.underlying51 rfl fault_size) rfl ⟨rfl, ((HR2.out.setNew _ _ _ (by omega) (fun e => by have := Hblk.out _ e; omega)).setNew _ _ _ (by omega) (fun e => by have := Hblk.out _ e; omega)).drewN 1, ((HM3.out.setNew _ _ _ (by omega)).setNew _ _ _ (by omega)).drewN 1⟩

end Go.Proofs.Ytkfhljggdcajpaa
