/-
  The reader of package field: try, which does something and catches the fault that gives up.
-/
import Derived.Test.YtkfhljggdcajpaaRd2
import Derived.Defers
namespace Go.Proofs.Ytkfhljggdcajpaa
open Go.RowKit

theorem none_any (w : World) (b : Nat) (a : Option Addr) (cap : Nat) (xs : List Int) (at0 : Nat) (err fat : Int) (h : RAt w b a cap xs at0 err fat) :
    Calls Try.prog 86 #[.pointer (some ⟨b, 0, none⟩)] w fun e w' => e = .returned (.bool (err != 0)) ∧ w = w' := by
  obtain ⟨c0, c1, c2, c3, c4⟩ := h.cells
  have hnot : ∀ (x : Bool) (w : World), (Op.unary .not (.bool x)).run Try.prog w = .ok (.bool (!x)) w := fun _ _ => rfl
  go_enter Try.func86, Try.ntmps86
  go_wp2
  go_ret
  exact ⟨rfl, rfl⟩

section
variable {w : World} {b : Nat} {a : Option Addr} {cap : Nat} {xs : List Int} {pos : Nat} {err fat : Int}
theorem RAt.alloc (h : RAt w b a cap xs pos err fat) (o : Obj) : RAt (w.alloc o) b a cap xs pos err fat :=
  ⟨by rw [Below.heap_alloc _ _ _ h.lt]; exact h.str, h.byt.of_block (by simp) fun g _ _ hg => Below.heap_alloc _ _ _ hg, h.apart, h.bys, h.le, h.len, h.capLe⟩
theorem Moved.alloc {b : Nat} {w w' : World} (h : Moved b none none w w') (o : Obj) : Moved b none none w (w'.alloc o) :=
  ⟨h.os, h.tape, h.output, by have := h.size; simp; omega, fun k hk hb hr => by rw [Below.heap_alloc _ _ _ (by have := h.size; omega)]; exact h.block k hk hb hr, h.row⟩
end

set_option maxHeartbeats 400000 in
theorem try_stop (w : World) (b : Nat) (a : Option Addr) (cap : Nat) (xs : List Int) (at0 : Nat) (err fat : Int) (h : RAt w b a cap xs at0 err fat) (he : err ≠ 0) (f : FuncId) (caps : Array Value) :
    Calls Try.prog 67 #[.pointer (some ⟨b, 0, none⟩), .func (.func f) #[] caps] w fun e w' => e = .returned (.tuple #[]) ∧ RAt w' b a cap xs at0 err fat ∧ Moved b none none w w' := by
  have h1 := h.alloc (.cells #[.pointer (some ⟨b, 0, none⟩)] 48)
  have he' : (err != 0) = true := by simpa using he
  go_enter_defers Try.func67, Try.ntmps67
  go_wp2_with fail
  refine (none_any _ _ _ _ _ _ _ _ h1).mono ?_
  rw [he']
  rintro e w1 ⟨rfl, rfl⟩
  go_wp2_with fail
  exact ⟨.tuple #[], by simp [results, Try.results67], rfl, h1, (Moved.refl _ _ _).alloc _⟩

set_option maxHeartbeats 400000 in
theorem try_ok (w : World) (b : Nat) (a : Option Addr) (cap : Nat) (xs : List Int) (at0 : Nat) (h : RAt w b a cap xs at0 0 0) (f : FuncId) (caps : Array Value) (Post : World → Prop)
   (hcf : ∀ W, Sem.run Try.prog (callFunc f caps) W = .ok (.enter f caps) W)
   (hdo : ∀ W, Moved b none none w W → RAt W b a cap xs at0 0 0 → Calls Try.prog f caps W fun e W' => e = .returned (.tuple #[]) ∧ Post W') :
    Calls Try.prog 67 #[.pointer (some ⟨b, 0, none⟩), .func (.func f) #[] caps] w fun e w' => e = .returned (.tuple #[]) ∧ Post w' := by
  obtain ⟨c0, c1, c2, c3, c4⟩ := h.cells
  have hlt := h.lt
  have hmf : ∀ (fn : Fn) (first cap : Array Value) (w : World), (Instr.makeFunc fn first cap).run Try.prog w = .ok (.func fn first cap) w := fun _ _ _ _ => rfl
  have h1 := h.alloc (.cells #[.pointer (some ⟨b, 0, none⟩)] 48)
  have Hdo := Lib.hid hdo
  clear hdo
  have H := Lib.hid h
  clear h
  go_enter_defers Try.func67, Try.ntmps67
  go_wp2_with fail
  refine (none_any _ _ _ _ _ _ _ _ h1).mono ?_
  rintro e w1 ⟨rfl, rfl⟩
  go_wp2_with fail
  refine (Hdo.out _ (((Moved.refl _ _ _).alloc _).alloc _) ((H.out.alloc _).alloc _)).mono ?_
  rintro e w2 ⟨rfl, hp⟩
  go_wp2_with fail
  refine leaves_cons (f := 87) (args := #[.pointer (some ⟨w.heap.size + 1, 0, none⟩), .pointer (some ⟨w.heap.size, 0, none⟩)]) (by simp) (by simp [go_sem]) ?_
  refine (catch_idle _ _ _).mono ?_
  rintro e u' w'' ⟨rfl, rfl, rfl⟩
  simp [Leaves, settle, results, Try.results67, go_sem]
  exact hp

theorem RAt.fault {w : World} {b : Nat} {a : Option Addr} {cap : Nat} {xs : List Int} {pos : Nat} {err fat : Int} (h : RAt w b a cap xs pos err fat) (q : Nat) (er fa : Int) (hq : q ≤ xs.length) :
    RAt (((w.setCell ⟨b, 3, none⟩ (.int .i64 er)).setCell ⟨b, 4, none⟩ (.int .i64 fa)).setCell ⟨b, 2, none⟩ (.int .i64 q)) b a cap xs q er fa := by
  refine ⟨?_, h.byt.of_block (by simp [World.setCell]) fun g off hg _ => ?_, h.apart, h.bys, hq, h.len, h.capLe⟩
  · rw [heap_setCell_same _ _ _ _ _ _ (heap_setCell_same _ _ _ _ _ _ (heap_setCell_same _ _ _ _ _ _ h.str))]; rfl
  · have hne : g ≠ b := fun e => h.apart (by rw [hg, ← e]; rfl)
    rw [heap_setCell_other _ _ _ _ hne, heap_setCell_other _ _ _ _ hne, heap_setCell_other _ _ _ _ hne]

set_option maxRecDepth 100000 in
set_option maxHeartbeats 400000 in
theorem try_err (w : World) (b : Nat) (a : Option Addr) (cap : Nat) (xs : List Int) (at0 : Nat) (h : RAt w b a cap xs at0 0 0) (f : FuncId) (caps : Array Value) (er fa : Int)
   (hcf : ∀ W, Sem.run Try.prog (callFunc f caps) W = .ok (.enter f caps) W)
   (hdo : ∀ W, Moved b none none w W → RAt W b a cap xs at0 0 0 → Calls Try.prog f caps W fun e W' => e = .panicked [{ v := .iface 110 (.agg #[.int .i64 er, .int .i64 fa]), recovered := false }] ∧ ∃ pos, RAt W' b a cap xs pos 0 0 ∧ Moved b none none W W') :
    Calls Try.prog 67 #[.pointer (some ⟨b, 0, none⟩), .func (.func f) #[] caps] w fun e w' => e = .returned (.tuple #[]) ∧ RAt w' b a cap xs at0 er fa ∧ Moved b none none w w' := by
  obtain ⟨c0, c1, c2, c3, c4⟩ := h.cells
  have hlt := h.lt
  have hle := h.le
  have hmf : ∀ (fn : Fn) (first cap : Array Value) (w : World), (Instr.makeFunc fn first cap).run Try.prog w = .ok (.func fn first cap) w := fun _ _ _ _ => rfl
  have h1 := h.alloc (.cells #[.pointer (some ⟨b, 0, none⟩)] 48)
  have Hdo := Lib.hid hdo
  clear hdo
  have H := Lib.hid h
  clear h
  have hM : Moved b none none w ((w.alloc (.cells #[.pointer (some ⟨b, 0, none⟩)] 48)).alloc (.cells #[.int .i64 at0] 3)) := ((Moved.refl _ _ _).alloc _).alloc _
  have HM := Lib.hid hM
  clear hM
  go_enter_defers Try.func67, Try.ntmps67
  go_wp2_with fail
  refine (none_any _ _ _ _ _ _ _ _ h1).mono ?_
  rintro e w1 ⟨rfl, rfl⟩
  go_wp2_with fail
  refine (Hdo.out _ HM.out ((H.out.alloc _).alloc _)).mono ?_
  rintro e w2 ⟨rfl, pos, hR, hMo⟩
  go_wp2_with fail
  refine leaves_cons (f := 87) (args := #[.pointer (some ⟨w.heap.size + 1, 0, none⟩), .pointer (some ⟨w.heap.size, 0, none⟩)]) (by simp) (by simp [go_sem]) ?_
  have hsz := hMo.size
  simp only [World.size_alloc] at hsz
  have hp : w2.heap[w.heap.size + 1]? = some (.cells #[.int .i64 at0] 3 (0, 0)) := by
    rw [hMo.block _ (by simp) (by omega) (by simp)]
    exact heap_alloc2_new w _ _
  have hq : w2.heap[w.heap.size]? = some (.cells #[.pointer (some ⟨b, 0, none⟩)] 48 (0, 0)) := by
    rw [hMo.block _ (by simp; omega) (by omega) (by simp)]
    exact heap_alloc2_old w _ _
  obtain ⟨d0, d1, d2, d3, d4⟩ := hR.cells
  refine (catch_wrong (w.heap.size + 1) w.heap.size b at0 er fa _ _ _ w2 [] (by rw [cell_of_row _ _ _ _ _ _ hp]; rfl) (by rw [cell_of_row _ _ _ _ _ _ hq]; rfl) (by omega) (by omega) (by omega) d2 d3 d4 (hR.free _) (hR.free _) (hR.free _)).mono ?_
  rintro e u' w'' ⟨rfl, rfl, rfl⟩
  simp [Leaves, settle, results, Try.results67, go_sem]
  refine ⟨(hR.fault _ _ _ hle).alloc _, ?_⟩
  exact ((((HM.out.trans hMo).trans (Moved.set _ _ _ _)).trans (Moved.set _ _ _ _)).trans (Moved.set _ _ _ _)).alloc _

end Go.Proofs.Ytkfhljggdcajpaa
