/-
  Package note: the shape of a kind.
-/
import Derived.Test.YtkfhljggdcajpaaShp
import Derived.Great.BuildSlice
namespace Go.Proofs.Ytkfhljggdcajpaa
open Go.RowKit Go.Sort

theorem has_any (lo hi n : Int) (w : World) : Calls Try.prog 75 #[.agg #[.int .i64 lo, .int .i64 hi], .int .i64 n] w fun e w' => e = .returned (.bool (decide (lo ≤ n) && decide (n ≤ hi))) ∧ ∃ p : GrownBy, w' = grow (w.drewN p.n) p.os := by
  go_enter Try.func75, Try.ntmps75
  go_wp2
  all_goals go_ret
  all_goals refine ⟨by simp <;> omega, ⟨⟨0, #[_]⟩, by rw [alloc_eq_grow]; rfl⟩⟩

/-- the shape of a kind, as the table lists it -/
def shapeAt (kind : Int) : Shape := if 1 ≤ kind ∧ kind ≤ 24 then shapeList.getD kind.toNat ⟨[], 0, 0, 0, 0, 0, 0⟩ else ⟨[], 0, 0, 0, 0, 0, 0⟩

/-- a shape lies in seven cells -/
structure ShapeIn (w : World) (b o : Nat) (S : Shape) : Prop where
  name : w.cell? ⟨b, o, none⟩ = some (.string ⟨S.name.toArray⟩)
  n : w.cell? ⟨b, o + 1, none⟩ = some (.int .i64 S.n)
  ns : w.cell? ⟨b, o + 2, none⟩ = some (.int .i64 S.ns)
  i : w.cell? ⟨b, o + 3, none⟩ = some (.int .i64 S.i)
  is : w.cell? ⟨b, o + 4, none⟩ = some (.int .i64 S.is)
  least : w.cell? ⟨b, o + 5, none⟩ = some (.int .i64 S.least)
  most : w.cell? ⟨b, o + 6, none⟩ = some (.int .i64 S.most)

theorem shapeIn_grow {w : World} {b o : Nat} {S : Shape} (h : ShapeIn w b o S) (hb : b < w.heap.size) (n : Nat) (os : Array Obj) : ShapeIn (grow (w.drewN n) os) b o S := by
  have q : ∀ o, (grow (w.drewN n) os).cell? ⟨b, o, none⟩ = w.cell? ⟨b, o, none⟩ := fun o => cell?_grow (w.drewN n) os ⟨b, o, none⟩ hb
  exact ⟨by rw [q]; exact h.name, by rw [q]; exact h.n, by rw [q]; exact h.ns, by rw [q]; exact h.i, by rw [q]; exact h.is, by rw [q]; exact h.least, by rw [q]; exact h.most⟩

theorem flat_at (L : List Shape) (k j : Nat) (hj : j < 7) : (L.flatMap shapeOf)[k * 7 + j]? = L[k]?.bind fun s => (shapeOf s)[j]? := by
  have hl : ∀ s, (shapeOf s).length = 7 := fun s => rfl
  induction L generalizing k with
  | nil => simp
  | cons s L ih =>
    rw [List.flatMap_cons]
    cases k with
    | zero => rw [List.getElem?_append_left (by rw [hl]; omega)]; simp
    | succ k =>
      rw [List.getElem?_append_right (by rw [hl]; omega), hl, show (k + 1) * 7 + j - 7 = k * 7 + j by omega, ih]
      simp

theorem shape_row (k : Nat) (hk : k < 25) (w : World) (b : Nat) (hc : w.heap[b]? = some (.cells shapeCells 116)) : ShapeIn w b (k * 7) (shapeList.getD k ⟨[], 0, 0, 0, 0, 0, 0⟩) := by
  have q : ∀ o, w.cell? ⟨b, o, none⟩ = shapeCells[o]? := fun o => by simp [World.cell?, hc]
  have hl : shapeList[k]? = some (shapeList.getD k ⟨[], 0, 0, 0, 0, 0, 0⟩) := by
    have : k < shapeList.length := hk
    rw [List.getD_eq_getElem?_getD, List.getElem?_eq_getElem this]; rfl
  have G : ∀ j, j < 7 → shapeCells[k * 7 + j]? = (shapeOf (shapeList.getD k ⟨[], 0, 0, 0, 0, 0, 0⟩))[j]? := by
    intro j hj
    rw [shapeCells, List.getElem?_toArray, flat_at _ _ _ hj, hl]; rfl
  exact ⟨(q _).trans (G 0 (by omega)), (q _).trans (G 1 (by omega)), (q _).trans (G 2 (by omega)), (q _).trans (G 3 (by omega)), (q _).trans (G 4 (by omega)), (q _).trans (G 5 (by omega)), (q _).trans (G 6 (by omega))⟩

theorem shaped_any (kind : Int) (w : World) : Calls Try.prog 74 #[.int .i64 kind] w fun e w' =>
    (if 1 ≤ kind ∧ kind ≤ 24 then ∃ b, e = .returned (.pointer (some ⟨b, kind.toNat * 7, none⟩)) ∧ w.heap.size ≤ b ∧ ShapeIn w' b (kind.toNat * 7) (shapeAt kind) ∧ b < w'.heap.size else e = .returned (.pointer none)) ∧ ∃ p : GrownBy, w' = grow (w.drewN p.n) p.os := by
  go_enter Try.func74, Try.ntmps74
  go_wp2_with fail
  go_at_call 90
  refine (shapes_any _).mono ?_
  rintro e w1 ⟨b, rfl, hb, hc, hlt, hw1⟩
  replace hw1 := Lib.hid hw1
  by_cases h1 : kind < 1
  · have h0 : ¬ (1 ≤ kind ∧ kind ≤ 24) := by omega
    go_wp2_with fail
    go_ret
    exact ⟨rfl, hw1⟩
  by_cases h2 : kind ≤ 24
  · have h0 : 1 ≤ kind ∧ kind ≤ 24 := by omega
    have hs := Lib.hid (shape_row kind.toNat (by omega) _ _ hc)
    go_wp2_with fail
    go_ret
    refine ⟨⟨b, rfl, hb, ?_, hlt⟩, hw1⟩
    rw [shapeAt, if_pos h0]
    exact hs
  · have h0 : ¬ (1 ≤ kind ∧ kind ≤ 24) := by omega
    go_wp2_with fail
    go_ret
    exact ⟨rfl, hw1⟩

theorem agents_any (kind : Int) (w : World) : Calls Try.prog 63 #[.int .i64 kind] w fun e w' => e = .returned (.bool (decide (1 ≤ kind) && decide (kind ≤ 15))) ∧ w' = w := by
  go_enter Try.func63, Try.ntmps63
  go_wp2
  all_goals go_ret
  all_goals refine ⟨by simp <;> omega, rfl⟩

theorem name_any (kind : Int) (w : World) : Calls Try.prog 64 #[.int .i64 kind] w fun e w' => e = .returned (.string ⟨(shapeAt kind).name.toArray⟩) ∧ ∃ p : GrownBy, w' = grow (w.drewN p.n) p.os := by
  obtain ⟨S, hS⟩ : ∃ S, shapeAt kind = S := ⟨_, rfl⟩
  rw [hS]
  replace hS := Lib.hid hS
  go_enter Try.func64, Try.ntmps64
  go_wp2_with fail
  go_at_call 74
  refine (shaped_any _ _).mono ?_
  rintro e w1 ⟨he, hw1⟩
  replace hw1 := Lib.hid hw1
  by_cases h : 1 ≤ kind ∧ kind ≤ 24
  · rw [if_pos h] at he
    obtain ⟨b, rfl, hb, hc, hlt⟩ := he
    rw [show shapeAt kind = S from hS] at hc
    have c0 := hc.name
    go_wp2_with fail
    go_ret
    exact ⟨rfl, hw1⟩
  · rw [if_neg h] at he
    subst he
    have hn : S = ⟨[], 0, 0, 0, 0, 0, 0⟩ := by rw [← show shapeAt kind = S from hS, shapeAt, if_neg h]
    subst hn
    go_wp2_with fail
    go_ret
    exact ⟨rfl, hw1⟩

theorem wp_build108 {o : Oper} {a : Act} {w : World} {K : Act → World → Prop} {Q : Exit → Act → World → Prop} (len : Nat) (parts : Array (Nat × Operand)) (ho : o.op = .buildSlice 108 len parts) (cells : Array Value)
    (hsmall : ¬ len * 7 > 2 ^ 24) (hpos : ¬ len * 7 = 0)
    (hf : Instr.fill (fun i => some (i * 7, 7)) ((Array.range (len * 7)).map ((Value.agg #[.string ⟨#[]⟩, .int .i64 0, .int .i64 0, .int .i64 0, .int .i64 0, .int .i64 0, .int .i64 0]).cells[· % (Value.agg #[.string ⟨#[]⟩, .int .i64 0, .int .i64 0, .int .i64 0, .int .i64 0, .int .i64 0, .int .i64 0]).cells.size]!)) (parts.map fun (i, x) => (i, a.eval x)).toList = some cells)
    (h : K (a.put o.dst (.slice (some ⟨w.heap.size, 0, none⟩) len len)) (w.alloc (.cells cells 83))) : o.wp Try.prog a w K Q := by
  have h7 : (Try.prog.info? 83).map (·.size) = some 7 := by kernel_rfl
  have hz : (Try.prog.info? 83).bind (·.zero) = some (Value.agg #[.string ⟨#[]⟩, .int .i64 0, .int .i64 0, .int .i64 0, .int .i64 0, .int .i64 0, .int .i64 0]) := by kernel_rfl
  cases hie : Try.prog.info? 83 with
  | none => rw [hie] at h7; cases h7
  | some ie =>
    rw [hie] at h7 hz
    have h7' : ie.size = 7 := Option.some.inj h7
    have hz' : ie.zero = some _ := hz
    refine Go.wp_buildSlice 108 83 len parts ho cells ie _ Try.underlying108 hie hz' (by rw [h7']; exact hsmall) (by rw [h7']; exact hpos) ?_ h
    rw [h7']; exact hf

set_option maxHeartbeats 16000000 in
set_option maxRecDepth 1000000 in
theorem of_ref_any (kind : Int) (w : World) : Calls Try.prog 62 #[.int .i64 kind] w fun e w' =>
    e = .returned (.tuple #[.agg (shapeOf (shapeAt kind)).toArray, .bool (decide (1 ≤ kind) && decide (kind ≤ 24))]) ∧ Below w.heap.size w w' := by
  go_enter Try.func62, Try.ntmps62
  go_wp2_with fail
  refine wp_build108 24 _ rfl (shapeCells.extract 7 175) (by decide) (by decide) ?_ ?_
  · kernel_rfl
  obtain ⟨w2, hw2⟩ : ∃ w2, (w.alloc (.cells #[.string ⟨#[]⟩, .int .i64 0, .int .i64 0, .int .i64 0, .int .i64 0, .int .i64 0, .int .i64 0] 83)).alloc (.cells (shapeCells.extract 7 175) 83) = w2 := ⟨_, rfl⟩
  have hsz : w2.heap.size = w.heap.size + 2 := by rw [← hw2]; simp
  have hA : w2.heap[w.heap.size]? = some (.cells #[.string ⟨#[]⟩, .int .i64 0, .int .i64 0, .int .i64 0, .int .i64 0, .int .i64 0, .int .i64 0] 83) := by
    rw [← hw2, Below.heap_alloc _ _ _ (by simp), heap_top]
  have hB : w2.heap[w.heap.size + 1]? = some (.cells (shapeCells.extract 7 175) 83) := by
    rw [← hw2, show w.heap.size + 1 = (w.alloc (.cells #[.string ⟨#[]⟩, .int .i64 0, .int .i64 0, .int .i64 0, .int .i64 0, .int .i64 0, .int .i64 0] 83)).heap.size by simp, heap_top]
  rw [show (w.alloc (.cells #[.string ⟨#[]⟩, .int .i64 0, .int .i64 0, .int .i64 0, .int .i64 0, .int .i64 0, .int .i64 0] 83)).heap.size = w.heap.size + 1 by simp]
  rw [hw2]
  have HB : Hid (Below w.heap.size w w2) := by
    rw [← hw2]; exact ((Below.refl _ _).alloc (Nat.le_refl _) _).alloc (by simp) _
  clear hw2
  have q : ∀ o, w2.cell? ⟨w.heap.size, o, none⟩ = (#[.string ⟨#[]⟩, .int .i64 0, .int .i64 0, .int .i64 0, .int .i64 0, .int .i64 0, .int .i64 0] : Array Value)[o]? := fun o => by simp [World.cell?, hA]
  have c0 : w2.cell? ⟨w.heap.size, 0, none⟩ = some (.string ⟨#[]⟩) := q 0
  have c1 : w2.cell? ⟨w.heap.size, 1, none⟩ = some (.int .i64 0) := q 1
  have c2 : w2.cell? ⟨w.heap.size, 2, none⟩ = some (.int .i64 0) := q 2
  have c3 : w2.cell? ⟨w.heap.size, 3, none⟩ = some (.int .i64 0) := q 3
  have c4 : w2.cell? ⟨w.heap.size, 4, none⟩ = some (.int .i64 0) := q 4
  have c5 : w2.cell? ⟨w.heap.size, 5, none⟩ = some (.int .i64 0) := q 5
  have c6 : w2.cell? ⟨w.heap.size, 6, none⟩ = some (.int .i64 0) := q 6
  have hq : ∀ o, w2.cell? ⟨w.heap.size + 1, o, none⟩ = shapeCells[7 + o]? := fun o => by
    have hs : shapeCells.size = 175 := by kernel_rfl
    simp only [World.cell?, hB]
    rw [if_neg (by simp), Array.getElem?_extract]
    by_cases ho : o < 168
    · rw [if_pos (by omega)]
    · rw [if_neg (by omega), Array.getElem?_eq_none (by omega)]
  have hf : ∀ o, w2.frozen? ⟨w.heap.size, o, none⟩ = false := fun o => by simp [World.frozen?, hA]
  clear q hA hB
  by_cases h1 : kind < 1
  · clear hq
    have h0 : shapeAt kind = ⟨[], 0, 0, 0, 0, 0, 0⟩ := by rw [shapeAt, if_neg (by omega)]
    go_wp2_with fail
    refine bodyPost_ret (v := .tuple #[.agg #[.string ⟨#[]⟩, .int .i64 0, .int .i64 0, .int .i64 0, .int .i64 0, .int .i64 0, .int .i64 0], .bool false]) ?_ rfl ?_
    · simp [results, Try.results62, go_sem, c0, c1, c2, c3, c4, c5, c6]
    refine ⟨?_, ?_⟩
    · rw [h0, decide_eq_false (show ¬ 1 ≤ kind by omega)]; rfl
    · have hb := Nat.le_refl w.heap.size
      exact ((((((HB.out.setCell (p := ⟨w.heap.size, 0, none⟩) hb _).setCell (p := ⟨w.heap.size, 1, none⟩) hb _).setCell (p := ⟨w.heap.size, 2, none⟩) hb _).setCell (p := ⟨w.heap.size, 3, none⟩) hb _).setCell (p := ⟨w.heap.size, 4, none⟩) hb _).setCell (p := ⟨w.heap.size, 5, none⟩) hb _).setCell (p := ⟨w.heap.size, 6, none⟩) hb _
  by_cases h2 : kind ≤ 24
  · obtain ⟨k, hk⟩ : ∃ k : Nat, kind = k + 1 := ⟨(kind - 1).toNat, by omega⟩
    have hk24 : k < 24 := by omega
    have hs : ∃ S, shapeAt kind = S ∧ ShapeIn w2 (w.heap.size + 1) (k * 7) S := by
      refine ⟨_, rfl, ?_⟩
      have hl : shapeList[k + 1]? = some (shapeAt kind) := by
        have h25 : k + 1 < shapeList.length := Nat.succ_lt_succ hk24
        rw [shapeAt, if_pos (by omega), show kind.toNat = k + 1 by omega, List.getD_eq_getElem?_getD, List.getElem?_eq_getElem h25]; rfl
      have G : ∀ j, j < 7 → w2.cell? ⟨w.heap.size + 1, k * 7 + j, none⟩ = (shapeOf (shapeAt kind))[j]? := by
        intro j hj
        rw [hq, show 7 + (k * 7 + j) = (k + 1) * 7 + j by omega, shapeCells, List.getElem?_toArray, flat_at _ _ _ hj, hl]; rfl
      exact ⟨G 0 (by omega), G 1 (by omega), G 2 (by omega), G 3 (by omega), G 4 (by omega), G 5 (by omega), G 6 (by omega)⟩
    obtain ⟨S, hS, ⟨d0, d1, d2, d3, d4, d5, d6⟩⟩ := hs
    clear hq
    replace hS := Lib.hid hS
    subst hk
    go_wp2_with fail
    refine bodyPost_ret (v := .tuple #[.agg (shapeOf S).toArray, .bool true]) ?_ rfl ?_
    · simp [results, Try.results62, go_sem, c0, c1, c2, c3, c4, c5, c6, shapeOf]
    refine ⟨?_, ?_⟩
    · rw [show shapeAt _ = S from hS]
    · have hb := Nat.le_refl w.heap.size
      exact ((((((HB.out.setCell (p := ⟨w.heap.size, 0, none⟩) hb _).setCell (p := ⟨w.heap.size, 1, none⟩) hb _).setCell (p := ⟨w.heap.size, 2, none⟩) hb _).setCell (p := ⟨w.heap.size, 3, none⟩) hb _).setCell (p := ⟨w.heap.size, 4, none⟩) hb _).setCell (p := ⟨w.heap.size, 5, none⟩) hb _).setCell (p := ⟨w.heap.size, 6, none⟩) hb _
  · clear hq
    have h0 : shapeAt kind = ⟨[], 0, 0, 0, 0, 0, 0⟩ := by rw [shapeAt, if_neg (by omega)]
    go_wp2_with fail
    refine bodyPost_ret (v := .tuple #[.agg #[.string ⟨#[]⟩, .int .i64 0, .int .i64 0, .int .i64 0, .int .i64 0, .int .i64 0, .int .i64 0], .bool false]) ?_ rfl ?_
    · simp [results, Try.results62, go_sem, c0, c1, c2, c3, c4, c5, c6]
    refine ⟨?_, ?_⟩
    · simp only [decide_eq_false (show ¬ kind ≤ 24 by omega)]; rfl
    · have hb := Nat.le_refl w.heap.size
      exact ((((((HB.out.setCell (p := ⟨w.heap.size, 0, none⟩) hb _).setCell (p := ⟨w.heap.size, 1, none⟩) hb _).setCell (p := ⟨w.heap.size, 2, none⟩) hb _).setCell (p := ⟨w.heap.size, 3, none⟩) hb _).setCell (p := ⟨w.heap.size, 4, none⟩) hb _).setCell (p := ⟨w.heap.size, 5, none⟩) hb _).setCell (p := ⟨w.heap.size, 6, none⟩) hb _

end Go.Proofs.Ytkfhljggdcajpaa
