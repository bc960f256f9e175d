/-
  Writers and readers of package field that are none, or that New and Open did not make.
-/
import Derived.Test.YtkfhljggdcajpaaRdId
namespace Go.Proofs.Ytkfhljggdcajpaa
open Go.RowKit

/-- a writer that is none -/
def WNo (w : World) (p : Option Addr) : Prop := p = none ∨ ∃ b, p = some ⟨b, 0, none⟩ ∧ b < w.heap.size ∧ w.cell? ⟨b, 0, none⟩ = some (.bool false)
theorem WNo.below {w w' : World} {p : Option Addr} (h : WNo w p) (hb : Below w.heap.size w w') : WNo w' p := by
  rcases h with h | ⟨b, h, hlt, hc⟩
  · exact .inl h
  · exact .inr ⟨b, h, by have := hb.size; omega, (hb.cell hlt).trans hc⟩

theorem not_run : ∀ (x : Bool) (w : World), (Op.unary .not (.bool x)).run Try.prog w = .ok (.bool (!x)) w := fun _ _ => rfl

set_option maxHeartbeats 400000 in
theorem wint_no (w : World) (p : Option Addr) (n : Int) (h : WNo w p) : Calls Try.prog 23 #[.pointer p, .int .i64 n] w fun e w' => e = .returned (.tuple #[]) ∧ w = w' := by
  have hnot := not_run
  rcases h with rfl | ⟨b, rfl, hlt, c0⟩
  all_goals
    go_enter Try.func23, Try.ntmps23
    go_wp2
    refine bodyPost_ret (results_none rfl _ _ _) rfl ?_
    exact ⟨rfl, rfl⟩

set_option maxHeartbeats 400000 in
theorem wbytes_no (w : World) (p : Option Addr) (v : Value) (h : WNo w p) : Calls Try.prog 25 #[.pointer p, v] w fun e w' => e = .returned (.tuple #[]) ∧ w = w' := by
  have hnot := not_run
  rcases h with rfl | ⟨b, rfl, hlt, c0⟩
  all_goals
    go_enter Try.func25, Try.ntmps25
    go_wp2
    refine bodyPost_ret (results_none rfl _ _ _) rfl ?_
    exact ⟨rfl, rfl⟩

set_option maxHeartbeats 400000 in
theorem wtext_no (w : World) (p : Option Addr) (ys : List Int) (hys : Bys ys) (h : WNo w p) : Calls Try.prog 27 #[.pointer p, .string (strOfNums ys)] w fun e w' => e = .returned (.tuple #[]) ∧ Below w.heap.size w w' := by
  obtain ⟨c, W, hrun, hby, hbel, hsz⟩ := text_bytes w ys hys
  have h2 := h.below hbel
  clear hsz hby
  go_enter Try.func27, Try.ntmps27
  go_wp2_with fail
  refine (wbytes_no _ _ _ h2).mono ?_
  rintro e w1 ⟨rfl, rfl⟩
  go_wp2_with fail
  go_end0
  exact ⟨rfl, hbel⟩

set_option maxHeartbeats 400000 in
theorem wid_no (w : World) (p : Option Addr) (cs : Array Value) (h : WNo w p) : Calls Try.prog 29 #[.pointer p, .agg cs] w fun e w' => e = .returned (.tuple #[]) ∧ Below w.heap.size w w' := by
  rcases h with rfl | ⟨b, rfl, hlt, c0⟩
  all_goals
    go_enter Try.func29, Try.ntmps29
    go_wp2
    go_end0
    exact ⟨rfl, (Below.refl _ _).alloc (Nat.le_refl _) _⟩

set_option maxHeartbeats 400000 in
theorem out_no (w : World) (p : Option Addr) (h : WNo w p) : Calls Try.prog 33 #[.pointer p] w fun e w' => e = .returned (.tuple #[.slice none 0 0, .int .i64 1]) ∧ w = w' := by
  have hnot := not_run
  rcases h with rfl | ⟨b, rfl, hlt, c0⟩
  all_goals
    go_enter Try.func33, Try.ntmps33
    go_wp2
    go_ret2
    exact ⟨rfl, rfl⟩

/-- a reader that is none -/
def RNo (w : World) (p : Option Addr) : Prop := p = none ∨ ∃ b, p = some ⟨b, 0, none⟩ ∧ w.heap[b]? = some (.cells #[.bool false, .slice none 0 0, .int .i64 0, .int .i64 0, .int .i64 0] 63 (0, 0))
theorem RNo.below {w w' : World} {p : Option Addr} (h : RNo w p) (hb : Below w.heap.size w w') : RNo w' p := by
  rcases h with h | ⟨b, h, hr⟩
  · exact .inl h
  · exact .inr ⟨b, h, (hb.block b (lt_of_row hr)).trans hr⟩

theorem none_no (w : World) (p : Option Addr) (h : RNo w p) : Calls Try.prog 86 #[.pointer p] w fun e w' => e = .returned (.bool true) ∧ w = w' := by
  have hnot := not_run
  rcases h with rfl | ⟨b, rfl, hr⟩
  · go_enter Try.func86, Try.ntmps86
    go_wp2
    go_ret
    exact ⟨rfl, rfl⟩
  · have c0 : w.cell? ⟨b, 0, none⟩ = some (.bool false) := by rw [cell_of_row _ _ _ _ _ _ hr]; rfl
    go_enter Try.func86, Try.ntmps86
    go_wp2
    go_ret
    exact ⟨rfl, rfl⟩

set_option maxHeartbeats 400000 in
theorem try_no (w : World) (p : Option Addr) (h : RNo w p) (f : FuncId) (caps : Array Value) :
    Calls Try.prog 67 #[.pointer p, .func (.func f) #[] caps] w fun e w' => e = .returned (.tuple #[]) ∧ Below w.heap.size w w' := by
  have h1 := h.below ((Below.refl w.heap.size w).alloc (Nat.le_refl _) (.cells #[.pointer p] 48))
  go_enter_defers Try.func67, Try.ntmps67
  go_wp2_with fail
  refine (none_no _ _ h1).mono ?_
  rintro e w1 ⟨rfl, rfl⟩
  go_wp2_with fail
  exact ⟨.tuple #[], by simp [results, Try.results67], rfl, (Below.refl w.heap.size w).alloc (Nat.le_refl _) _⟩

set_option maxHeartbeats 400000 in
theorem at_no (w : World) (p : Option Addr) (h : RNo w p) : Calls Try.prog 42 #[.pointer p] w fun e w' => e = .returned (.int .i64 0) ∧ w = w' := by
  rcases h with rfl | ⟨b, rfl, hr⟩
  · go_enter Try.func42, Try.ntmps42
    go_wp2
    go_ret
    exact ⟨rfl, rfl⟩
  · have c2 : w.cell? ⟨b, 2, none⟩ = some (.int .i64 0) := by rw [cell_of_row _ _ _ _ _ _ hr]; rfl
    go_enter Try.func42, Try.ntmps42
    go_wp2
    go_ret
    exact ⟨rfl, rfl⟩

set_option maxHeartbeats 400000 in
theorem left_no (w : World) (p : Option Addr) (h : RNo w p) : Calls Try.prog 46 #[.pointer p] w fun e w' => e = .returned (.int .i64 0) ∧ Below w.heap.size w w' := by
  rcases h with rfl | ⟨b, rfl, hr⟩
  · go_enter Try.func46, Try.ntmps46
    go_wp2
    go_ret
    exact ⟨rfl, Below.refl _ _⟩
  · have c1 : w.cell? ⟨b, 1, none⟩ = some (.slice none 0 0) := by rw [cell_of_row _ _ _ _ _ _ hr]; rfl
    have c2 : w.cell? ⟨b, 2, none⟩ = some (.int .i64 0) := by rw [cell_of_row _ _ _ _ _ _ hr]; rfl
    have hw : IntKind.i64.wrap 0 = 0 := by decide
    go_enter Try.func46, Try.ntmps46
    go_wp2_with fail
    go_quiet (fail)
    go_wp2_with fail
    go_ret
    exact ⟨rfl, ⟨rfl, rfl, rfl, Nat.le_refl _, fun _ _ => rfl⟩⟩

set_option maxHeartbeats 400000 in
theorem fault_no (w : World) (p : Option Addr) (h : RNo w p) : Calls Try.prog 39 #[.pointer p] w fun e w' => e = .returned (.agg #[.int .i64 1, .int .i64 0]) ∧ Below w.heap.size w w' := by
  have hnot := not_run
  rcases h with rfl | ⟨b, rfl, hr⟩
  · go_enter Try.func39, Try.ntmps39
    go_wp2
    exact bodyPost_ret (v := .agg #[.int .i64 1, .int .i64 0]) (by simp [results, Try.results39, go_sem]) rfl ⟨rfl, (Below.refl _ _).alloc (Nat.le_refl _) _⟩
  · have hlt := lt_of_row hr
    have c0 : w.cell? ⟨b, 0, none⟩ = some (.bool false) := by rw [cell_of_row _ _ _ _ _ _ hr]; rfl
    go_enter Try.func39, Try.ntmps39
    go_wp2
    exact bodyPost_ret (v := .agg #[.int .i64 1, .int .i64 0]) (by simp [results, Try.results39, go_sem]) rfl ⟨rfl, (Below.refl _ _).alloc (Nat.le_refl _) _⟩

end Go.Proofs.Ytkfhljggdcajpaa
