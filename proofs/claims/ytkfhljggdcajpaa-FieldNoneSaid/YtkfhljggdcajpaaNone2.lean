/-
  The calls of a reader that is none, or that Open did not make: each answers nothing.
-/
import Derived.Test.YtkfhljggdcajpaaNone
namespace Go.Proofs.Ytkfhljggdcajpaa
open Go.RowKit

/-- the two first variables that a call of a reader boxes -/
def no1 (w : World) (p : Option Addr) : World := w.alloc (.cells #[.pointer p] 48)
def no2 (w : World) (p : Option Addr) (o : Obj) : World := (no1 w p).alloc o
theorem no1_size (w : World) (p : Option Addr) : (no1 w p).heap.size = w.heap.size + 1 := by simp [no1]
theorem no1_below (w : World) (p : Option Addr) : Below w.heap.size w (no1 w p) := (Below.refl _ _).alloc (Nat.le_refl _) _
theorem below_alloc1 {w W : World} (h : Below w.heap.size w W) (o : Obj) : Below w.heap.size w (W.alloc o) := h.alloc h.size o
theorem newest {w : World} {n : Nat} {v : Array Value} {t : TypeId} (hn : n = w.heap.size) : (w.alloc (.cells v t)).heap[n]? = some (.cells v t (0, 0)) := by
  subst hn; exact heap_alloc_new w _

theorem below_dn (B : Nat) (w : World) (n : Nat) : Below B w (w.drewN n) := ⟨rfl, rfl, rfl, Nat.le_refl _, fun _ _ => rfl⟩

set_option maxHeartbeats 400000 in
theorem rint_no (w : World) (p : Option Addr) (h : RNo w p) (low high : Int) :
    Calls Try.prog 38 #[.pointer p, .int .i64 low, .int .i64 high] w fun e w' => e = .returned (.int .i64 0) ∧ Below w.heap.size w w' := by
  have hmf : ∀ (fn : Fn) (first cap : Array Value) (w : World), (Instr.makeFunc fn first cap).run Try.prog w = .ok (.func fn first cap) w := fun _ _ _ _ => rfl
  have hb := below_alloc1 (below_alloc1 (below_alloc1 (no1_below w p) (.cells #[.int .i64 low] 3)) (.cells #[.int .i64 high] 3)) (.cells #[.int .i64 0] 3)
  have ht := fun c => try_no _ _ (h.below hb) 68 c
  have Ht := Lib.hid ht
  have Hb := Lib.hid hb
  clear ht hb h
  go_enter Try.func38, Try.ntmps38
  go_wp2_with fail
  refine (Ht.out _).mono ?_
  rintro e w1 ⟨rfl, hM⟩
  have hb6 := (hM.block (w.heap.size + 3) (by simp [no1])).trans (newest (by simp [no1]))
  have c6 : w1.cell? ⟨w.heap.size + 1 + 1 + 1, 0, none⟩ = some (.int .i64 0) := by rw [cell_of_row _ _ _ _ _ _ hb6]; rfl
  have f6 : w1.frozen? ⟨w.heap.size + 1 + 1 + 1, 0, none⟩ = false := frozen_of_row _ _ _ _ _ hb6
  have hM1 := Hb.out.trans (hM.mono (by simp [no1]; omega))
  clear hb6 hM
  go_wp2_with fail
  exact bodyPost_ret (v := .int .i64 0) (by simp [results, Try.results38, go_sem, c6]) rfl ⟨rfl, hM1.setCell (by simp only; omega) _⟩

set_option maxHeartbeats 400000 in
theorem rcount_no (w : World) (p : Option Addr) (h : RNo w p) (most : Int) :
    Calls Try.prog 47 #[.pointer p, .int .i64 most] w fun e w' => e = .returned (.int .i64 0) ∧ Below w.heap.size w w' := by
  have hmf : ∀ (fn : Fn) (first cap : Array Value) (w : World), (Instr.makeFunc fn first cap).run Try.prog w = .ok (.func fn first cap) w := fun _ _ _ _ => rfl
  have hb := below_alloc1 (below_alloc1 (no1_below w p) (.cells #[.int .i64 most] 3)) (.cells #[.int .i64 0] 3)
  have ht := fun c => try_no _ _ (h.below hb) 73 c
  have Ht := Lib.hid ht
  have Hb := Lib.hid hb
  clear ht hb h
  go_enter Try.func47, Try.ntmps47
  go_wp2_with fail
  refine (Ht.out _).mono ?_
  rintro e w1 ⟨rfl, hM⟩
  have hb6 := (hM.block (w.heap.size + 2) (by simp [no1])).trans (newest (by simp [no1]))
  have c6 : w1.cell? ⟨w.heap.size + 1 + 1, 0, none⟩ = some (.int .i64 0) := by rw [cell_of_row _ _ _ _ _ _ hb6]; rfl
  have f6 : w1.frozen? ⟨w.heap.size + 1 + 1, 0, none⟩ = false := frozen_of_row _ _ _ _ _ hb6
  have hM1 := Hb.out.trans (hM.mono (by simp [no1]; omega))
  clear hb6 hM
  go_wp2_with fail
  exact bodyPost_ret (v := .int .i64 0) (by simp [results, Try.results47, go_sem, c6]) rfl ⟨rfl, hM1.setCell (by simp only; omega) _⟩

set_option maxHeartbeats 400000 in
theorem rbytes_no (w : World) (p : Option Addr) (h : RNo w p) (most : Int) :
    Calls Try.prog 41 #[.pointer p, .int .i64 most] w fun e w' => e = .returned (.slice none 0 0) ∧ Below w.heap.size w w' := by
  have hmf : ∀ (fn : Fn) (first cap : Array Value) (w : World), (Instr.makeFunc fn first cap).run Try.prog w = .ok (.func fn first cap) w := fun _ _ _ _ => rfl
  have hb := below_alloc1 (below_alloc1 (no1_below w p) (.cells #[.int .i64 most] 3)) (.cells #[.slice none 0 0] 23)
  have ht := fun c => try_no _ _ (h.below hb) 70 c
  have Ht := Lib.hid ht
  have Hb := Lib.hid hb
  clear ht hb h
  go_enter Try.func41, Try.ntmps41
  go_wp2_with fail
  refine (Ht.out _).mono ?_
  rintro e w1 ⟨rfl, hM⟩
  have hb6 := (hM.block (w.heap.size + 2) (by simp [no1])).trans (newest (by simp [no1]))
  have c6 : w1.cell? ⟨w.heap.size + 1 + 1, 0, none⟩ = some (.slice none 0 0) := by rw [cell_of_row _ _ _ _ _ _ hb6]; rfl
  have f6 : w1.frozen? ⟨w.heap.size + 1 + 1, 0, none⟩ = false := frozen_of_row _ _ _ _ _ hb6
  have hM1 := Hb.out.trans (hM.mono (by simp [no1]; omega))
  clear hb6 hM
  go_wp2_with fail
  exact bodyPost_ret (v := .slice none 0 0) (by simp [results, Try.results41, go_sem, c6]) rfl ⟨rfl, hM1.setCell (by simp only; omega) _⟩

set_option maxHeartbeats 400000 in
theorem rtextn_no (w : World) (p : Option Addr) (h : RNo w p) (most : Int) :
    Calls Try.prog 40 #[.pointer p, .int .i64 most] w fun e w' => e = .returned (.string (strOfNums [])) ∧ Below w.heap.size w w' := by
  have Hb := Lib.hid (rbytes_no w p h most)
  clear h
  go_enter Try.func40, Try.ntmps40
  go_wp2_with fail
  refine Hb.out.mono ?_
  rintro e w1 ⟨rfl, hM⟩
  have hs : Sem.run Try.prog (convert 23 9 (.slice none 0 0)) w1 = .ok (.string (strOfNums [])) w1 := run_bytes_string w1 none 0 [] (.inl ⟨rfl, rfl⟩)
  go_wp2_with fail
  go_ret
  exact ⟨rfl, hM⟩

set_option maxRecDepth 100000 in
set_option maxHeartbeats 400000 in
theorem rid_no (w : World) (p : Option Addr) (h : RNo w p) :
    Calls Try.prog 43 #[.pointer p] w fun e w' => e = .returned (.agg (bvals z16).toArray) ∧ Below w.heap.size w w' := by
  have hmf : ∀ (fn : Fn) (first cap : Array Value) (w : World), (Instr.makeFunc fn first cap).run Try.prog w = .ok (.func fn first cap) w := fun _ _ _ _ => rfl
  have hb := below_alloc1 (no1_below w p) (.cells (bvals z16).toArray 37)
  have ht := fun c => try_no _ _ (h.below hb) 72 c
  have Ht := Lib.hid ht
  have Hb := Lib.hid hb
  clear ht hb h
  go_enter Try.func43, Try.ntmps43
  go_wp2_with fail
  refine (Ht.out _).mono ?_
  rintro e w1 ⟨rfl, hM⟩
  have hrow := (hM.block (w.heap.size + 1) (by simp [no1])).trans (newest (by simp [no1]))
  have hM1 := Hb.out.trans (hM.mono (by simp [no1]; omega))
  have hsz : (Try.prog.info? 37).map (·.size) = some (bvals z16).toArray.size := by kernel_rfl
  have Hrow := Lib.hid hrow
  have Hsz := Lib.hid hsz
  have HM := Lib.hid hM1
  clear hrow hsz hM1 hM
  go_wp2_with (first
    | refine wpList_load_row rfl 37 (.tmp 2) rfl (w.heap.size + 1) rfl 37 _ (0, 0) _ Hrow.out Try.underlying37 rfl Hsz.out ?_
    | refine wpList_store_row rfl 37 (.tmp 2) (.tmp 6) rfl (w.heap.size + 1) _ rfl rfl 37 _ Hrow.out Hsz.out rfl (all_oneCell_toArray (bvals_one z16)) ?_)
  have hrow2 := setRow_heap w1 (w.heap.size + 1) _ (bvals z16).toArray 37 (0, 0) Hrow.out
  refine bodyPost_ret (v := .agg (bvals z16).toArray) (results_cell_row rfl _ _ (w.heap.size + 1) 37 _ (0, 0) _ rfl hrow2 Try.underlying37 rfl Hsz.out) rfl ⟨rfl, ?_⟩
  have hm := (Below.moved HM.out w.heap.size).over (Moved.setRow w1 (w.heap.size + 1) (bvals z16).toArray) (by omega)
  exact ⟨hm.os, hm.tape, hm.output, hm.size, fun k hk => hm.block k hk (by omega) (by simp)⟩

set_option maxHeartbeats 400000 in
theorem end_no (w : World) (p : Option Addr) (h : RNo w p) :
    Calls Try.prog 48 #[.pointer p] w fun e w' => e = .returned (.agg #[.int .i64 1, .int .i64 0]) ∧ Below w.heap.size w w' := by
  have hb := below_alloc1 (Below.refl w.heap.size w) (.cells #[.int .i64 0, .int .i64 0] 51)
  have Hf := Lib.hid (fault_no _ _ (h.below hb))
  have Hb := Lib.hid hb
  clear h hb
  go_enter Try.func48, Try.ntmps48
  go_wp2_with fail
  refine Hf.out.mono ?_
  rintro e w1 ⟨rfl, hM⟩
  have hb6 := (hM.block w.heap.size (by simp)).trans (newest rfl)
  have hM1 := Hb.out.trans (hM.mono (by simp))
  have hs := hM1.size
  have hb7 : (w1.alloc (.cells #[.int .i64 1, .int .i64 0] 51)).heap[w.heap.size]? = some (.cells #[.int .i64 0, .int .i64 0] 51 (0, 0)) := (Below.heap_alloc _ _ _ (lt_of_row hb6)).trans hb6
  have c6 : (w1.alloc (.cells #[.int .i64 1, .int .i64 0] 51)).cell? ⟨w.heap.size, 0, none⟩ = some (.int .i64 0) := by rw [cell_of_row _ _ _ _ _ _ hb7]; rfl
  have c7 : (w1.alloc (.cells #[.int .i64 1, .int .i64 0] 51)).cell? ⟨w.heap.size, 1, none⟩ = some (.int .i64 0) := by rw [cell_of_row _ _ _ _ _ _ hb7]; rfl
  have f6 : (w1.alloc (.cells #[.int .i64 1, .int .i64 0] 51)).frozen? ⟨w.heap.size, 0, none⟩ = false := frozen_of_row _ _ _ _ _ hb7
  have f7 : (w1.alloc (.cells #[.int .i64 1, .int .i64 0] 51)).frozen? ⟨w.heap.size, 1, none⟩ = false := frozen_of_row _ _ _ _ _ hb7
  have HB := Lib.hid hb7
  clear hb7 hb6
  go_wp2_with fail
  go_quiet (fail)
  go_wp2_with fail
  refine bodyPost_ret (v := .agg #[.int .i64 1, .int .i64 0]) ?_ rfl ⟨rfl, ?_⟩
  · simp [results, Try.results48, go_sem, c6, c7]
  · exact ((((hM1.alloc hs _).trans (below_dn _ _ _)).setCell (p := ⟨w.heap.size, 0, none⟩) (Nat.le_refl _) _).setCell (p := ⟨w.heap.size, 1, none⟩) (Nat.le_refl _) _)
end Go.Proofs.Ytkfhljggdcajpaa
