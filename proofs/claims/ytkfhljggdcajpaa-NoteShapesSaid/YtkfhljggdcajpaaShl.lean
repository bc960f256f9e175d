/-
  NoteShapes: what the loops hold, and which notes may not be.
-/
import Derived.Test.YtkfhljggdcajpaaCpy
namespace Go.Proofs.Ytkfhljggdcajpaa
open Go.RowKit Go.Sort

theorem err_n {x : Note} (h : x.err = 0) (t : Nat) : noteErr x.kind (x.ns ++ List.replicate t 0) x.ids.length x.bs.length = if x.ns.length + t ≤ (shapeAt x.kind).ns then 0 else 5 := by
  obtain ⟨hk, hn, hi, hb, ha⟩ := (fine_iff x).1 h
  have hA : AllIn (x.ns ++ List.replicate t 0) := fun n hn => by
    rcases List.mem_append.1 hn with hn | hn
    · exact ha n hn
    · rw [List.eq_of_mem_replicate hn]; omega
  unfold noteErr
  rw [if_pos hk]
  simp only [Bool.and_eq_true, decide_eq_true_eq, Int.ofNat_le, List.length_append, List.length_replicate]
  by_cases hle : x.ns.length + t ≤ (shapeAt x.kind).ns
  · rw [if_pos ⟨⟨by omega, hle⟩, hi, hb⟩, if_pos hA, if_pos hle]
  · rw [if_neg (fun h => hle h.1.2), if_neg hle]
theorem err_i {x : Note} (h : x.err = 0) (n : Nat) (hn : x.ids.length ≤ n) : noteErr x.kind x.ns n x.bs.length = if n ≤ (shapeAt x.kind).is then 0 else 5 := by
  obtain ⟨hk, hn', hi, hb, ha⟩ := (fine_iff x).1 h
  unfold noteErr
  rw [if_pos hk]
  simp only [Bool.and_eq_true, decide_eq_true_eq, Int.ofNat_le]
  by_cases hle : n ≤ (shapeAt x.kind).is
  · rw [if_pos ⟨hn', ⟨by omega, hle⟩, hb⟩, if_pos ha, if_pos hle]
  · rw [if_neg (fun h => hle h.2.1.2), if_neg hle]
theorem err_b {x : Note} (h : x.err = 0) (n : Nat) (hn : x.bs.length ≤ n) : noteErr x.kind x.ns x.ids.length n = if n ≤ (shapeAt x.kind).most then 0 else 5 := by
  obtain ⟨hk, hn', hi, hb, ha⟩ := (fine_iff x).1 h
  unfold noteErr
  rw [if_pos hk]
  simp only [Bool.and_eq_true, decide_eq_true_eq, Int.ofNat_le]
  by_cases hle : n ≤ (shapeAt x.kind).most
  · rw [if_pos ⟨hn', hi, by omega, hle⟩, if_pos ha, if_pos hle]
  · rw [if_neg (fun h => hle h.2.2.2), if_neg hle]
theorem err_none {x : Note} (h : x.err = 0) (p : Nat) (hp : p < x.ns.length) : noteErr x.kind (x.ns.set p (-1)) x.ids.length x.bs.length = 5 := by
  obtain ⟨hk, hn', hi, hb, ha⟩ := (fine_iff x).1 h
  have hA : ¬ AllIn (x.ns.set p (-1)) := fun hq => by
    have := hq (-1) (by rw [List.mem_iff_getElem]; exact ⟨p, by simpa using hp, by simp⟩)
    omega
  unfold noteErr
  rw [if_pos hk]
  simp only [Bool.and_eq_true, decide_eq_true_eq, Int.ofNat_le, List.length_set]
  rw [if_pos ⟨hn', hi, hb⟩, if_neg hA]

/-- a note's row of the call's own, at p; all that lay below is as it was -/
structure Lay (w2 W : World) (p : Nat) (k : Int) (aN : Option Addr) (nN cN : Nat) (aI : Option Addr) (nI cI : Nat) (aB : Option Addr) (nB cB : Nat) : Prop where
  row : W.heap[p]? = some (.cells #[.int .i64 k, .slice aN nN cN, .slice aI nI cI, .slice aB nB cB] 69 (0, 0))
  bel : Below w2.heap.size w2 W
  pg : w2.heap.size ≤ p

/-- a row that grows lies apart from the note's -/
def Far (w2 : World) (p : Nat) (a : Option Addr) : Prop := ∀ k, blk a = some k → w2.heap.size ≤ k ∧ k ≠ p

section
variable {w2 W : World} {p : Nat} {k : Int} {aN : Option Addr} {nN cN : Nat} {aI : Option Addr} {nI cI : Nat} {aB : Option Addr} {nB cB : Nat}
theorem Lay.below (h : Lay w2 W p k aN nN cN aI nI cI aB nB cB) {W' : World} (hb : Below W.heap.size W W') : Lay w2 W' p k aN nN cN aI nI cI aB nB cB :=
  ⟨(hb.block _ (lt_of_row h.row)).trans h.row, h.bel.trans (hb.mono h.bel.size), h.pg⟩

theorem Lay.grown (h : Lay w2 W p k aN nN cN aI nI cI aB nB cB) {a : Option Addr} (hf : Far w2 p a) {W1 : World} (hg : W.grownBy W1 (blk a)) : Lay w2 W1 p k aN nN cN aI nI cI aB nB cB :=
  ⟨(hg.block _ (lt_of_row h.row) (fun e => (hf _ e.symm).2 rfl)).trans h.row, h.bel.grown hg h.bel.size (fun j hj => (hf j hj).1), h.pg⟩

theorem far_grown (h : Lay w2 W p k aN nN cN aI nI cI aB nB cB) {a a' : Option Addr} (hf : Far w2 p a) (hat : blk a' = blk a ∨ blk a' = some W.heap.size) : Far w2 p a' := fun j hj => by
  rcases hat with e | e
  · exact hf j (by rw [← e]; exact hj)
  · rw [e] at hj; cases hj; have := lt_of_row h.row; have := h.bel.size; omega

theorem Lay.setN (h : Lay w2 W p k aN nN cN aI nI cI aB nB cB) (a' : Option Addr) (n' c' : Nat) : Lay w2 (W.setCell ⟨p, 1, none⟩ (.slice a' n' c')) p k a' n' c' aI nI cI aB nB cB :=
  ⟨by rw [heap_setCell_same _ _ _ _ _ _ h.row]; rfl, h.bel.setCell (p := ⟨p, 1, none⟩) h.pg _, h.pg⟩
theorem Lay.setI (h : Lay w2 W p k aN nN cN aI nI cI aB nB cB) (a' : Option Addr) (n' c' : Nat) : Lay w2 (W.setCell ⟨p, 2, none⟩ (.slice a' n' c')) p k aN nN cN a' n' c' aB nB cB :=
  ⟨by rw [heap_setCell_same _ _ _ _ _ _ h.row]; rfl, h.bel.setCell (p := ⟨p, 2, none⟩) h.pg _, h.pg⟩
theorem Lay.setB (h : Lay w2 W p k aN nN cN aI nI cI aB nB cB) (a' : Option Addr) (n' c' : Nat) : Lay w2 (W.setCell ⟨p, 3, none⟩ (.slice a' n' c')) p k aN nN cN aI nI cI a' n' c' :=
  ⟨by rw [heap_setCell_same _ _ _ _ _ _ h.row]; rfl, h.bel.setCell (p := ⟨p, 3, none⟩) h.pg _, h.pg⟩
theorem own_setP {e size n c : Nat} {a : Option Addr} {vs : List Value} (h : W.ownsRow 0 e size (.slice a n c) n vs) (hf : Far w2 p a) (i : Nat) (v : Value) : (W.setCell ⟨p, i, none⟩ v).ownsRow 0 e size (.slice a n c) n vs :=
  ownsRow_of_block h fun j hj _ => heap_setCell_other _ _ _ _ (hf j hj).2
theorem Lay.cells (h : Lay w2 W p k aN nN cN aI nI cI aB nB cB) : w2 = w2 ∧ W.cell? ⟨p, 0, none⟩ = some (.int .i64 k) ∧ W.cell? ⟨p, 1, none⟩ = some (.slice aN nN cN) ∧ W.cell? ⟨p, 2, none⟩ = some (.slice aI nI cI) ∧ W.cell? ⟨p, 3, none⟩ = some (.slice aB nB cB) :=
  ⟨rfl, by rw [cell_of_row _ _ _ _ _ _ h.row]; rfl, by rw [cell_of_row _ _ _ _ _ _ h.row]; rfl, by rw [cell_of_row _ _ _ _ _ _ h.row]; rfl, by rw [cell_of_row _ _ _ _ _ _ h.row]; rfl⟩
theorem Lay.free (h : Lay w2 W p k aN nN cN aI nI cI aB nB cB) : ∀ i, W.frozen? ⟨p, i, none⟩ = false := fun _ => frozen_of_row _ _ _ _ _ h.row
end

/-- numbers that stand while another row grows -/
structure Kept (W : World) (p : Nat) (a : Option Addr) (ns : List Int) (g : Option Addr) : Prop where
  ints : IntsAt W a ns
  lt : ∀ j, blk a = some j → j < p ∧ blk g ≠ some j
theorem Kept.below {W W' : World} {p : Nat} {a : Option Addr} {ns : List Int} {g : Option Addr} (h : Kept W p a ns g) (hb : Below W.heap.size W W') : Kept W' p a ns g := ⟨h.ints.below hb (Nat.le_refl _), h.lt⟩
theorem Kept.grown {W W1 : World} {p : Nat} {a : Option Addr} {ns : List Int} {g g' : Option Addr} (h : Kept W p a ns g) (hp : p < W.heap.size) (hg : W.grownBy W1 (blk g)) (hat : blk g' = blk g ∨ blk g' = some W.heap.size) : Kept W1 p a ns g' := by
  refine ⟨?_, fun j hj => ⟨(h.lt j hj).1, fun e => ?_⟩⟩
  · rcases h.ints with q | ⟨b, off, ha, hlt, hc⟩
    · exact .inl q
    · have hb := h.lt b (by rw [ha]; rfl)
      exact .inr ⟨b, off, ha, by have := hg.size; omega, fun i hi => (World.cell?_of_block (hg.block b hlt (fun e => hb.2 e.symm))).trans (hc i hi)⟩
  · rcases hat with f | f
    · exact (h.lt j hj).2 (by rw [← f]; exact e)
    · rw [f] at e; have := (h.lt j hj).1; have := Option.some.inj e; omega
theorem Kept.setP {W : World} {p : Nat} {a : Option Addr} {ns : List Int} {g : Option Addr} (h : Kept W p a ns g) (i : Nat) (v : Value) : Kept (W.setCell ⟨p, i, none⟩ v) p a ns g := by
  refine ⟨?_, h.lt⟩
  rcases h.ints with q | ⟨b, off, ha, hlt, hc⟩
  · exact .inl q
  · have hb := (h.lt b (by rw [ha]; rfl)).1
    exact .inr ⟨b, off, ha, by simpa [World.setCell] using hlt, fun j hj => (World.cell?_of_block (heap_setCell_other _ _ _ _ (by simp only; omega))).trans (hc j hj)⟩

theorem check_kk (w : World) (k : Int) (ns : List Int) (aN : Option Addr) (nN cN : Nat) (aI : Option Addr) (nI cI : Nat) (aB : Option Addr) (nB cB : Nat) (hl : ns.length = nN) (hlen : nN < 2 ^ 40) (h : IntsAt w aN ns) (E : Int) (hE : noteErr k ns nI nB = E) :
    Calls Try.prog 53 #[.agg #[.int .i64 k, .slice aN nN cN, .slice aI nI cI, .slice aB nB cB]] w fun e w' => e = .returned (.int .i64 E) ∧ Below w.heap.size w w' := by
  subst hl hE
  exact check_any k ns nI nB aN aI aB cN cI cB w h hlen

theorem ivals_more (ns : List Int) (t : Nat) : ivals (ns ++ List.replicate t 0) ++ [.int .i64 0] = ivals (ns ++ List.replicate (t + 1) 0) := by
  rw [List.replicate_succ', ← List.append_assoc]
  simp [ivals]
theorem ints_of_own {w : World} {a : Option Addr} {n c : Nat} {ns : List Int} (hl : ns.length = n) (h : w.ownsRow 0 3 1 (.slice a n c) n (ivals ns)) : IntsAt w a ns := by
  subst hl; exact OwnN.ints h

/-- a number of a row of the call's own is set -/
theorem OwnN.set {w : World} {a : Option Addr} {cap : Nat} {ns : List Int} (h : OwnN w a cap ns) (p : Nat) (hp : p < ns.length) (v : Int) : ∃ g, a = some ⟨g, 0, none⟩ ∧ g < w.heap.size ∧ w.cell? ⟨g, p, none⟩ = some (.int .i64 (ns.getD p 0)) ∧ w.frozen? ⟨g, p, none⟩ = false ∧
    IntsAt (w.setCell ⟨g, p, none⟩ (.int .i64 v)) a (ns.set p v) := by
  have hi := h.ints
  rcases h.2 with ⟨hv, h0⟩ | ⟨g, c, cur, hv, _, hg, hnc, hcm, hcs, htake⟩
  · omega
  · simp only [Value.slice.injEq] at hv
    obtain ⟨b, off, ha, hlt, hc⟩ := hi.resolve_left (fun e => by rw [e] at hp; simp at hp)
    rw [hv.1] at ha
    cases ha
    simp only [Nat.zero_add] at hc
    refine ⟨g, hv.1, hlt, hc p hp, frozen_of_row _ _ _ _ _ hg, .inr ⟨g, 0, hv.1, by simpa [World.setCell] using hlt, fun i hil => ?_⟩⟩
    rw [List.length_set] at hil
    have hg' := heap_setCell_same w g p cur 3 (.int .i64 v) hg
    rw [cell_of_row _ _ _ _ _ _ hg', Nat.zero_add]
    have hci := hc i hil
    rw [cell_of_row _ _ _ _ _ _ hg] at hci
    by_cases hip : i = p
    · subst hip
      have hsz : i < cur.size := by
        rcases Nat.lt_or_ge i cur.size with q | q
        · exact q
        · rw [Array.getElem?_eq_none q] at hci; cases hci
      simp [hsz, List.getD, hil]
    · rw [Array.getElem?_setIfInBounds_ne (fun e => hip e.symm), hci]
      simp [List.getD, List.getElem?_set_ne (fun e => hip e.symm)]

end Go.Proofs.Ytkfhljggdcajpaa
