/-
  Two IDs are equal as Go has it just if their bytes are.
-/
import Derived.Test.YtkfhljggdcajpaaWrOut
import Derived.DeepKeys
namespace Go.Proofs.Ytkfhljggdcajpaa
open Go.RowKit

theorem Try.keyType37 : Try.prog.keyTypeAt 2 37 = true := by kernel_rfl

theorem list16 {xs : List Int} (h : xs.length = 16) : ∃ a b c d e f g i j k l m n o p q, xs = [a, b, c, d, e, f, g, i, j, k, l, m, n, o, p, q] := by
  match xs, h with
  | [a, b, c, d, e, f, g, i, j, k, l, m, n, o, p, q], _ => exact ⟨a, b, c, d, e, f, g, i, j, k, l, m, n, o, p, q, rfl⟩

theorem keyLits5 (x : Int) (h : 0 ≤ x ∧ x ≤ 255) : Try.prog.keyLits 2 5 [.int .u8 x] = some [.int .u8 x] := by
  have hwf : (Lit.int .u8 x).wf = true := by simp [Lit.wf, IntKind.min, IntKind.max, IntKind.signed, IntKind.bits]; omega
  simp [Program.keyLits, Try.underlying5, hwf]

theorem cells37 : Try.prog.cellsOf 37 = 16 := by kernel_rfl
theorem cells5 : Try.prog.cellsOf 5 = 1 := by kernel_rfl

theorem mapM_some {α β : Type} (l : List α) (f : α → Option β) (g : α → β) (h : ∀ i ∈ l, f i = some (g i)) : l.mapM f = some (l.map g) := by
  induction l with
  | nil => rfl
  | cons x l ih => rw [List.mapM_cons, h x (by simp), ih (fun i hi => h i (by simp [hi]))]; rfl

theorem keyLits37 (xs : List Int) (h : xs.length = 16) (hb : Bys xs) : Try.prog.keyLits 3 37 (bvals xs) = some (xs.map (Lit.int .u8)) := by
  have hm : ∀ i, i < 16 → Try.prog.keyLits 2 5 (((bvals xs).drop (i * 1)).take 1) = some [Lit.int .u8 (xs.getD i 0)] := fun i hi => by
    have e : ((bvals xs).drop (i * 1)).take 1 = [Value.int .u8 (xs.getD i 0)] := by
      rw [Nat.mul_one, List.drop_eq_getElem_cons (by rw [bvals_length, h]; exact hi)]
      simp [bvals, List.getD, h, hi]
    rw [e, keyLits5 _ (hb.get i)]
  have hr := mapM_some (List.range 16) _ (fun i => [Lit.int .u8 (xs.getD i 0)]) (fun i hi => hm i (List.mem_range.1 hi))
  have hq : Try.prog.keyLits 3 37 (bvals xs) = if (bvals xs).length = Try.prog.cellsOf 37 then ((List.range 16).mapM fun i => Try.prog.keyLits 2 5 (((bvals xs).drop (i * Try.prog.cellsOf 5)).take (Try.prog.cellsOf 5))).map List.flatten else none := by
    conv => lhs; unfold Program.keyLits
    rw [Try.underlying37]
  rw [hq, cells37, cells5, bvals_length, h, if_pos rfl, hr, Option.map_some]
  refine congrArg some ?_
  obtain ⟨a, b, c, d, e, f, g, i', j, k, l, m, n, o, p, q, rfl⟩ := list16 h
  rfl

theorem formed37 (xs : List Int) (h : xs.length = 16) : (Value.agg (bvals xs).toArray).formed Try.prog 37 = true := by
  obtain ⟨a, b, c, d, e, f, g, i, j, k, l, m, n, o, p, q, rfl⟩ := list16 h
  kernel_rfl

theorem map_lit_inj {xs ys : List Int} (h : xs.map (Lit.int .u8) = ys.map (Lit.int .u8)) : xs = ys := by
  induction xs generalizing ys with
  | nil => cases ys with
    | nil => rfl
    | cons y ys => simp at h
  | cons x xs ih => cases ys with
    | nil => simp at h
    | cons y ys =>
      simp only [List.map_cons, List.cons.injEq, Lit.int.injEq, true_and] at h
      rw [h.1, ih h.2]

theorem id_eq (w : World) (xs ys : List Int) (hx : xs.length = 16) (hy : ys.length = 16) (bx : Bys xs) (by_ : Bys ys) :
    (Op.equalIn 10000 37 (.agg (bvals xs).toArray) (.agg (bvals ys).toArray)).run Try.prog w = .ok (decide (xs = ys)) w := by
  obtain ⟨r, hr, hiff⟩ := run_equalIn_deep (P := Try.prog) 9998 2 37 Try.keyType37 w 3 3 _ _ _ _ (formed37 xs hx) (formed37 ys hy) (keyLits37 xs hx bx) (keyLits37 ys hy by_)
  have he : r = decide (xs = ys) := by
    rw [Bool.eq_iff_iff, hiff, decide_eq_true_iff]
    refine ⟨fun h => ?_, fun h => by rw [h]⟩
    exact map_lit_inj h
  rw [← he]
  exact hr

end Go.Proofs.Ytkfhljggdcajpaa
