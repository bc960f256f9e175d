/-
  Package note: the shapes of the kinds.
-/
import Derived.Test.YtkfhljggdcajpaaQt
import Derived.Shelf.SlSortCmp.QuietGrown
namespace Go.Proofs.Ytkfhljggdcajpaa
open Go.RowKit Go.Sort

theorem heap_top (w : World) (o : Obj) : (w.alloc o).heap[w.heap.size]? = some o := by
  show (w.heap.push o)[w.heap.size]? = some o
  simp
theorem drewN_grow (w : World) (n : Nat) (os : Array Obj) : (grow w os).drewN n = grow (w.drewN n) os := rfl

theorem of_any (n : Int) (w : World) : Calls Try.prog 94 #[.int .i64 n] w fun e w' => e = .returned (.agg #[.int .i64 n, .int .i64 n]) ∧ w' = w.alloc (.cells #[.int .i64 n, .int .i64 n] 95) := by
  go_enter Try.func94, Try.ntmps94
  go_wp2
  refine bodyPost_ret (v := .agg #[.int .i64 n, .int .i64 n]) ?_ rfl ⟨rfl, rfl⟩
  simp [results, Try.results94, go_sem]

theorem of_grown (n : Int) (w : World) (k : Nat) (os : Array Obj) : Calls Try.prog 94 #[.int .i64 n] (grow (w.drewN k) os) fun e w'' => e = .returned (.agg #[.int .i64 n, .int .i64 n]) ∧ ∃ p : GrownBy, w'' = grow (w.drewN p.n) p.os :=
  Calls.grown_of ((of_any n _).mono fun _ _ ⟨h1, h2⟩ => ⟨h1, 0, #[.cells #[.int .i64 n, .int .i64 n] 95], by rw [h2, alloc_eq_grow]; rfl⟩)

/-- the shape of a kind: its name's letters; how many numbers, IDs and bytes it has at least and at most -/
structure Shape where
  name : List UInt8
  n : Nat
  ns : Nat
  i : Nat
  is : Nat
  least : Nat
  most : Nat

/-- the shapes, from kind 0 (that is none) on -/
def shapeList : List Shape := [
  ⟨[], 0, 0, 0, 0, 0, 0⟩,
  ⟨[98, 101, 103, 105, 110], 3, 3, 0, 0, 0, 0⟩,
  ⟨[112, 97, 114, 116], 1, 1, 0, 0, 1, 1000⟩,
  ⟨[113, 117, 101, 114, 121], 0, 0, 1, 16, 0, 0⟩,
  ⟨[103, 105, 118, 101], 0, 0, 1, 1, 1, 1024⟩,
  ⟨[99, 111, 109, 109, 105, 116], 0, 0, 0, 0, 0, 0⟩,
  ⟨[97, 98, 111, 114, 116], 0, 0, 0, 0, 0, 0⟩,
  ⟨[108, 105, 115, 116], 0, 0, 0, 0, 0, 0⟩,
  ⟨[114, 101, 115, 116, 111, 114, 101], 1, 1, 0, 0, 0, 0⟩,
  ⟨[109, 111, 114, 101], 1, 1, 0, 0, 0, 0⟩,
  ⟨[102, 101, 116, 99, 104], 0, 0, 1, 16, 0, 0⟩,
  ⟨[118, 101, 114, 105, 102, 121], 1, 1, 0, 0, 0, 0⟩,
  ⟨[102, 111, 114, 103, 101, 116], 1, 1, 0, 0, 0, 0⟩,
  ⟨[112, 114, 117, 110, 101], 0, 0, 0, 0, 0, 0⟩,
  ⟨[117, 115, 97, 103, 101], 0, 0, 0, 0, 0, 0⟩,
  ⟨[112, 105, 110, 103], 1, 1, 0, 0, 0, 0⟩,
  ⟨[114, 101, 97, 100, 121], 1, 1, 0, 0, 0, 0⟩,
  ⟨[104, 97, 118, 101], 1, 16, 0, 0, 0, 0⟩,
  ⟨[116, 111, 111, 107], 0, 0, 1, 1, 0, 0⟩,
  ⟨[100, 111, 110, 101], 1, 1, 0, 0, 0, 0⟩,
  ⟨[102, 97, 105, 108], 2, 2, 0, 0, 0, 0⟩,
  ⟨[115, 110, 97, 112, 115], 0, 128, 0, 0, 0, 0⟩,
  ⟨[112, 105, 101, 99, 101], 2, 2, 0, 0, 0, 1000⟩,
  ⟨[99, 104, 117, 110, 107], 0, 0, 1, 1, 1, 1024⟩,
  ⟨[99, 111, 117, 110, 116], 2, 2, 0, 0, 0, 0⟩]

def shapeOf (s : Shape) : List Value := [.string ⟨s.name.toArray⟩, .int .i64 s.n, .int .i64 s.ns, .int .i64 s.i, .int .i64 s.is, .int .i64 s.least, .int .i64 s.most]

def shapeCells : Array Value := (shapeList.flatMap shapeOf).toArray

/-- the rows of the region in which the shapes are laid -/
def shapeRows : List ORow := [
  ⟨some 3, [], []⟩,
  ⟨some 4, [], [0]⟩,
  ⟨some 5, [], [1]⟩,
  ⟨some 6, [3, 4, 5], [0, 1, 2]⟩,
  ⟨some 7, [], [2]⟩,
  ⟨some 8, [], [4]⟩,
  ⟨some 9, [], []⟩,
  ⟨some 10, [7, 8, 9], [4, 5, 6]⟩,
  ⟨some 11, [], [5]⟩,
  ⟨some 12, [1], []⟩,
  ⟨some 13, [], [8]⟩,
  ⟨some 14, [11, 12, 13], [8, 9, 10]⟩,
  ⟨some 15, [], [10]⟩,
  ⟨some 16, [], [12]⟩,
  ⟨some 17, [], []⟩,
  ⟨some 18, [15, 16, 17], [12, 13, 14]⟩,
  ⟨some 19, [], [13]⟩,
  ⟨some 20, [], [16]⟩,
  ⟨some 21, [], [17]⟩,
  ⟨some 22, [19, 20, 21], [16, 17, 18]⟩,
  ⟨some 23, [], [18]⟩,
  ⟨some 24, [], [20]⟩,
  ⟨some 25, [], [21]⟩,
  ⟨some 26, [23, 24, 25], [20, 21, 22]⟩,
  ⟨some 27, [], [22]⟩,
  ⟨some 28, [], [24]⟩,
  ⟨some 29, [], [25]⟩,
  ⟨some 30, [27, 28, 29], [24, 25, 26]⟩,
  ⟨some 31, [], [26]⟩,
  ⟨some 32, [], [28]⟩,
  ⟨some 33, [], [29]⟩,
  ⟨some 34, [31, 32, 33], [28, 29, 30]⟩,
  ⟨some 35, [], [30]⟩,
  ⟨some 36, [], [32]⟩,
  ⟨some 37, [], [33]⟩,
  ⟨some 38, [35, 36, 37], [32, 33, 34]⟩,
  ⟨some 39, [], [34]⟩,
  ⟨some 40, [1], []⟩,
  ⟨some 41, [], [36]⟩,
  ⟨some 42, [39, 40, 41], [36, 37, 38]⟩,
  ⟨some 43, [], [38]⟩,
  ⟨some 44, [], [40]⟩,
  ⟨some 45, [], [41]⟩,
  ⟨some 46, [43, 44, 45], [40, 41, 42]⟩,
  ⟨some 47, [], [42]⟩,
  ⟨some 48, [], [44]⟩,
  ⟨some 49, [], [45]⟩,
  ⟨some 50, [47, 48, 49], [44, 45, 46]⟩,
  ⟨some 51, [], [46]⟩,
  ⟨some 52, [], [48]⟩,
  ⟨some 53, [], [49]⟩,
  ⟨some 54, [51, 52, 53], [48, 49, 50]⟩,
  ⟨some 55, [], [50]⟩,
  ⟨some 56, [], [52]⟩,
  ⟨some 57, [], [53]⟩,
  ⟨some 58, [55, 56, 57], [52, 53, 54]⟩,
  ⟨some 59, [], [54]⟩,
  ⟨some 60, [], [56]⟩,
  ⟨some 61, [], [57]⟩,
  ⟨some 62, [59, 60, 61], [56, 57, 58]⟩,
  ⟨some 63, [], [58]⟩,
  ⟨some 64, [], [60]⟩,
  ⟨some 65, [], [61]⟩,
  ⟨some 66, [63, 64, 65], [60, 61, 62]⟩,
  ⟨some 67, [1], []⟩,
  ⟨some 68, [], [62]⟩,
  ⟨some 69, [], [65]⟩,
  ⟨some 70, [67, 68, 69], [64, 65, 66]⟩,
  ⟨some 71, [], [66]⟩,
  ⟨some 72, [], [68]⟩,
  ⟨some 73, [], [69]⟩,
  ⟨some 74, [71, 72, 73], [68, 69, 70]⟩,
  ⟨some 75, [], [70]⟩,
  ⟨some 76, [], [72]⟩,
  ⟨some 77, [], [73]⟩,
  ⟨some 78, [75, 76, 77], [72, 73, 74]⟩,
  ⟨some 79, [], [74]⟩,
  ⟨some 80, [], [76]⟩,
  ⟨some 81, [], [77]⟩,
  ⟨some 82, [79, 80, 81], [76, 77, 78]⟩,
  ⟨some 83, [], []⟩,
  ⟨some 84, [], [78]⟩,
  ⟨some 85, [], [81]⟩,
  ⟨some 86, [83, 84, 85], [80, 81, 82]⟩,
  ⟨some 87, [], [82]⟩,
  ⟨some 88, [], [84]⟩,
  ⟨some 89, [], []⟩,
  ⟨some 90, [87, 88, 89], [84, 85, 86]⟩,
  ⟨some 91, [], [85]⟩,
  ⟨some 92, [], [88]⟩,
  ⟨some 93, [], []⟩,
  ⟨some 94, [91, 92, 93], [88, 89, 90]⟩,
  ⟨some 95, [], [89]⟩,
  ⟨some 96, [], [92]⟩,
  ⟨some 97, [], [93]⟩,
  ⟨some 98, [95, 96, 97], [92, 93, 94]⟩,
  ⟨some 99, [6, 10, 14, 18, 22, 26, 30, 34, 38, 42, 46, 50, 54, 58, 62, 66, 70, 74, 78, 82, 86, 90, 94, 98], [3, 7, 11, 15, 19, 23, 27, 31, 35, 39, 43, 47, 51, 55, 59, 63, 67, 71, 75, 79, 83, 87, 91, 95]⟩,
  ⟨some 100, [99], [96]⟩,
  ⟨some 0, [100], [97, 94, 0, 1, 2, 3, 4, 5, 6, 7, 8, 9, 10, 11, 12, 13, 14, 15, 16, 17, 18, 19, 20, 21, 22, 23, 24, 25, 26, 27, 28, 29, 30, 31, 32, 33, 34, 35, 36, 37, 38, 39, 40, 41, 42, 43, 44, 45, 46, 47, 48, 49, 50, 51, 52, 53, 54, 55, 56, 57, 58, 59, 60, 61, 62, 63, 64, 65, 66, 67, 68, 69, 70, 71, 72, 73, 74, 75, 76, 77, 78, 79, 80, 81, 82, 83, 84, 85, 86, 87, 88, 89, 90, 91, 92, 93, 94, 95, 96, 97]⟩]

set_option maxHeartbeats 16000000 in
set_option maxRecDepth 1000000 in
theorem shapes_any (w : World) : Calls Try.prog 90 #[] w fun e w' => ∃ b, e = .returned (.pointer (some ⟨b, 0, none⟩)) ∧ w.heap.size ≤ b ∧ w'.heap[b]? = some (.cells shapeCells 116) ∧ b < w'.heap.size ∧ (∃ p : GrownBy, w' = grow (w.drewN p.n) p.os) := by
  obtain ⟨w0, hw0⟩ : ∃ w0, w.alloc (.cells #[.int .i64 1, .int .i64 16] 95) = w0 := ⟨_, rfl⟩
  have hlt : w.heap.size < w0.heap.size := by rw [← hw0]; simp
  have c0 : ∀ n os, (grow (w0.drewN n) os).cell? ⟨w.heap.size, 0, none⟩ = some (.int .i64 1) := fun n os => cell_grown hlt (by rw [← hw0]; simp) n os
  have c1 : ∀ n os, (grow (w0.drewN n) os).cell? ⟨w.heap.size, 1, none⟩ = some (.int .i64 16) := fun n os => cell_grown hlt (by rw [← hw0]; simp) n os
  have HB : Hid (w0 = w.alloc (.cells #[.int .i64 1, .int .i64 16] 95)) := hw0.symm
  have HL := Lib.hid hlt
  clear hlt
  go_enter Try.func90, Try.ntmps90
  go_wp2_with fail
  clear hw0
  simp only [List.append_eq, List.cons_append, List.nil_append]
  refine wp_region_quiet_rows (fun w' => ∃ p : GrownBy, w' = grow (w0.drewN p.n) p.os) 97 shapeRows (by kernel_rfl) (by kernel_rfl) (by kernel_rfl) (by kernel_rfl) ⟨⟨1, #[]⟩, by rw [grow_empty]; rfl⟩ ?_
  simp only [List.take_succ_cons, List.take_zero, List.drop_succ_cons, List.drop_zero]
  iterate 97 (quiet_step (first | (go_at_call 94; exact of_grown _ _ _ _)))
  refine wpQuiet_nil ?_
  intro w' hw'
  obtain ⟨⟨nq, osq⟩, rfl⟩ := hw'
  go_wp2_with fail
  refine bodyPost_ret (v := .pointer (some ⟨w0.heap.size + osq.size, 0, none⟩)) ?_ rfl ?_
  · simp [results, Try.results90, go_sem]
  · refine ⟨_, rfl, by have := (show w.heap.size < w0.heap.size from HL); omega, ?_, by simp, ?_⟩
    · rw [show w0.heap.size + osq.size = (grow (w0.drewN nq) osq).heap.size by simp, heap_top]
      exact congrArg some (congrArg (fun c => Obj.cells c 116) (by kernel_rfl))
    · have hw := HB.out
      rw [hw, alloc_eq_grow, alloc_eq_grow, drewN_grow, grow_grow, grow_grow]
      exact ⟨⟨nq, _⟩, rfl⟩

theorem below_grow (w : World) (n : Nat) (os : Array Obj) : Below w.heap.size w (grow (w.drewN n) os) :=
  ⟨rfl, rfl, rfl, by simp, fun k hk => heap_grow_old (w.drewN n) os hk⟩

end Go.Proofs.Ytkfhljggdcajpaa
