/-
  What FieldWrites keeps from step to step: the writer, the document's writer, what is lent: none shares a row with another one.
-/
import Derived.Test.YtkfhljggdcajpaaActs
import Derived.Deep.MidRow
namespace Go.Proofs.Ytkfhljggdcajpaa
open Go.RowKit

structure FW (w0 w : World) (bw bx : Nat) (bad1 : Bool) (a1 : Option Addr) (cap1 : Nat) (bs1 : List Int) (bad2 : Bool) (a2 : Option Addr) (cap2 : Nat) (bs2 : List Int) : Prop where
  below : Below w0.heap.size w0 w
  W : WAt w bw bad1 a1 cap1 bs1
  X : XAt w bx bad2 a2 cap2 bs2
  lw : w0.heap.size ≤ bw
  lx : w0.heap.size ≤ bx
  l1 : ∀ k, blk a1 = some k → w0.heap.size ≤ k
  l2 : ∀ k, blk a2 = some k → w0.heap.size ≤ k
  nwx : bw ≠ bx
  n1x : blk a1 ≠ some bx
  n2w : blk a2 ≠ some bw
  n12 : ∀ k, blk a1 = some k → blk a2 ≠ some k

/-- the same, beside a row of its own -/
structure SW (w0 w : World) (bw bx g : Nat) (zs : List Int) (bad1 : Bool) (a1 : Option Addr) (cap1 : Nat) (bs1 : List Int) (bad2 : Bool) (a2 : Option Addr) (cap2 : Nat) (bs2 : List Int) : Prop where
  F : FW w0 w bw bx bad1 a1 cap1 bs1 bad2 a2 cap2 bs2
  G : RowB w g zs
  lg : w0.heap.size ≤ g
  nwg : bw ≠ g
  nxg : bx ≠ g
  n1g : blk a1 ≠ some g
  n2g : blk a2 ≠ some g

section
variable {w0 w w' : World} {bw bx g : Nat} {zs : List Int} {bad1 : Bool} {a1 : Option Addr} {cap1 : Nat} {bs1 : List Int} {bad2 : Bool} {a2 : Option Addr} {cap2 : Nat} {bs2 : List Int}

theorem FW.to (h : FW w0 w bw bx bad1 a1 cap1 bs1 bad2 a2 cap2 bs2) (hb : Below w.heap.size w w') : FW w0 w' bw bx bad1 a1 cap1 bs1 bad2 a2 cap2 bs2 :=
  { h with below := h.below.trans (hb.mono h.below.size), W := h.W.below hb, X := h.X.below hb }
theorem SW.to (h : SW w0 w bw bx g zs bad1 a1 cap1 bs1 bad2 a2 cap2 bs2) (hb : Below w.heap.size w w') : SW w0 w' bw bx g zs bad1 a1 cap1 bs1 bad2 a2 cap2 bs2 :=
  { h with F := h.F.to hb, G := h.G.below hb }

theorem moved_below {b : Nat} {r r' : Option Nat} (hb : Below w0.heap.size w0 w) (hm : Moved b r r' w w') (hp : w0.heap.size ≤ b) (hr : ∀ k, r = some k → w0.heap.size ≤ k) : Below w0.heap.size w0 w' :=
  hb.trans (hm.below hb.size hp hr)

theorem FW.lent (h : FW w0 w bw bx bad1 a1 cap1 bs1 bad2 a2 cap2 bs2) (hb : Below w.heap.size w w') (hr : RowB w' w.heap.size zs) : SW w0 w' bw bx w.heap.size zs bad1 a1 cap1 bs1 bad2 a2 cap2 bs2 :=
  ⟨h.to hb, hr, h.below.size, Nat.ne_of_lt h.W.lt, Nat.ne_of_lt h.X.lt, fun e => Nat.lt_irrefl _ (h.W.own.blk_lt _ e), fun e => Nat.lt_irrefl _ (h.X.own.blk_lt _ e)⟩

theorem SW.wrote (h : SW w0 w bw bx g zs bad1 a1 cap1 bs1 bad2 a2 cap2 bs2) {bad : Bool} {bs : List Int} {e : Ending} (hw : Wrote w bw bad a1 bs e w') :
    ∃ a cap, e = .returned (.tuple #[]) ∧ SW w0 w' bw bx g zs bad a cap bs bad2 a2 cap2 bs2 := by
  obtain ⟨a, cap, he, hW, hm⟩ := hw
  have F := h.F
  have hx := F.X.lt
  have hgl := h.G.lt
  have hsz := hm.size
  have hnew : ∀ k, blk a = some k → k < w.heap.size → blk a1 = some k := by
    intro k hk hlt
    rcases hm.row with e | ⟨j, e, hj⟩
    · rw [← e]; exact hk
    · rw [e] at hk; cases hk; omega
  have hX : XAt w' bx bad2 a2 cap2 bs2 := ⟨(hm.block bx hx (fun e => F.nwx e.symm) (fun e => F.n1x e.symm)).trans F.X.str,
    F.X.own.of_block fun k hk hlt => hm.block k hlt (fun e => F.n2w (by rw [hk, e])) (fun e => F.n12 k e.symm hk), F.X.apart, F.X.bys⟩
  refine ⟨a, cap, he, ⟨moved_below F.below hm F.lw F.l1, hW, hX, F.lw, F.lx, fun k hk => ?_, F.l2, F.nwx, fun e => F.n1x (hnew _ e hx), F.n2w, fun k hk e => ?_⟩, h.G.moved hm h.nwg.symm (fun e => h.n1g e.symm), h.lg, h.nwg, h.nxg, fun e => h.n1g (hnew _ e hgl), h.n2g⟩
  · by_cases hlt : k < w.heap.size
    · exact F.l1 k (hnew k hk hlt)
    · have := F.below.size; omega
  · exact F.n12 k (hnew k hk (F.X.own.blk_lt k e)) e

theorem SW.xwrote (h : SW w0 w bw bx g zs bad1 a1 cap1 bs1 bad2 a2 cap2 bs2) {bad : Bool} {bs : List Int} {e : Ending} (hw : XWrote w bx bad a2 bs e w') :
    ∃ a cap, e = .returned (.tuple #[]) ∧ SW w0 w' bw bx g zs bad1 a1 cap1 bs1 bad a cap bs := by
  obtain ⟨a, cap, he, hX, hm⟩ := hw
  have F := h.F
  have hw := F.W.lt
  have hgl := h.G.lt
  have hsz := hm.size
  have hnew : ∀ k, blk a = some k → k < w.heap.size → blk a2 = some k := by
    intro k hk hlt
    rcases hm.row with e | ⟨j, e, hj⟩
    · rw [← e]; exact hk
    · rw [e] at hk; cases hk; omega
  have hW : WAt w' bw bad1 a1 cap1 bs1 := ⟨(hm.block bw hw F.nwx (fun e => F.n2w e.symm)).trans F.W.str,
    F.W.own.of_block fun k hk hlt => hm.block k hlt (fun e => F.n1x (by rw [hk, e])) (fun e => F.n12 k hk e.symm), F.W.apart, F.W.bys⟩
  refine ⟨a, cap, he, ⟨moved_below F.below hm F.lx F.l2, hW, hX, F.lw, F.lx, F.l1, fun k hk => ?_, F.nwx, F.n1x, fun e => F.n2w (hnew _ e hw), fun k hk e => ?_⟩, h.G.moved hm h.nxg.symm (fun e => h.n2g e.symm), h.lg, h.nwg, h.nxg, h.n1g, fun e => h.n2g (hnew _ e hgl)⟩
  · by_cases hlt : k < w.heap.size
    · exact F.l2 k (hnew k hk hlt)
    · have := F.below.size; omega
  · exact F.n12 k hk (hnew k e (F.W.own.blk_lt k hk))

/-- OverBytes of a row of its own -/
theorem FW.over (h : FW w0 w bw bx bad1 a1 cap1 bs1 bad2 a2 cap2 bs2) {a : Option Addr} {e : Ending} (ho : Over a w e w') (hl : ∀ k, blk a = some k → w0.heap.size ≤ k) (hw : blk a ≠ some bw) (hx : blk a ≠ some bx)
    (h1 : ∀ k, blk a = some k → blk a1 ≠ some k) (h2 : ∀ k, blk a = some k → blk a2 ≠ some k) : e = .returned (.tuple #[]) ∧ FW w0 w' bw bx bad1 a1 cap1 bs1 bad2 a2 cap2 bs2 := by
  obtain ⟨he, hb, hk⟩ := ho
  have hs := h.below.size
  refine ⟨he, { h with below := ?_, W := ?_, X := ?_ }⟩
  · exact ⟨hb.os.trans h.below.os, hb.tape.trans h.below.tape, hb.output.trans h.below.output, Nat.le_trans hs hb.size, fun k hlt => (hk k (by omega) (fun e => by have := hl k e; omega)).trans (h.below.block k hlt)⟩
  · exact ⟨(hk bw h.W.lt hw).trans h.W.str, h.W.own.of_block fun k e hlt => hk k hlt (fun e' => h1 k e' e), h.W.apart, h.W.bys⟩
  · exact ⟨(hk bx h.X.lt hx).trans h.X.str, h.X.own.of_block fun k e hlt => hk k hlt (fun e' => h2 k e' e), h.X.apart, h.X.bys⟩

/-- .. of what was lent -/
theorem SW.over (h : SW w0 w bw bx g zs bad1 a1 cap1 bs1 bad2 a2 cap2 bs2) {e : Ending} (ho : Over (some ⟨g, 0, none⟩) w e w') : e = .returned (.tuple #[]) ∧ FW w0 w' bw bx bad1 a1 cap1 bs1 bad2 a2 cap2 bs2 :=
  h.F.over ho (fun k hk => by cases hk; exact h.lg) (fun e => by cases e; exact h.nwg rfl) (fun e => by cases e; exact h.nxg rfl) (fun k hk e => by cases hk; exact h.n1g e) (fun k hk e => by cases hk; exact h.n2g e)

/-- .. of what was told since -/
theorem FW.over_new {w2 : World} (h : FW w0 w bw bx bad1 a1 cap1 bs1 bad2 a2 cap2 bs2) (hb : Below w.heap.size w w2) {a : Option Addr} {e : Ending} (ho : Over a w2 e w') (hn : ∀ k, blk a = some k → w.heap.size ≤ k) :
    e = .returned (.tuple #[]) ∧ FW w0 w' bw bx bad1 a1 cap1 bs1 bad2 a2 cap2 bs2 := by
  have hs := h.below.size
  exact (h.to hb).over ho (fun k hk => by have := hn k hk; omega) (fun e => by have := hn _ e; have := h.W.lt; omega) (fun e => by have := hn _ e; have := h.X.lt; omega)
    (fun k hk e => by have := hn k hk; have := h.W.own.blk_lt _ e; omega) (fun k hk e => by have := hn k hk; have := h.X.own.blk_lt _ e; omega)

theorem below_al {W : World} (h : Below w.heap.size w W) (o : Obj) : Below w.heap.size w (W.alloc o) := h.alloc h.size o

/-- at the start -/
theorem FW.start (w : World) : FW w ((w.alloc (.cells #[.bool true, .bool false, .slice none 0 0] 60)).alloc (.cells #[.slice none 0 0, .bool false] 34)) w.heap.size (w.heap.size + 1) false none 0 [] false none 0 [] := by
  have e := heap_alloc_new (w.alloc (.cells #[.bool true, .bool false, .slice none 0 0] 60)) (.cells #[.slice none 0 0, .bool false] 34)
  rw [World.size_alloc] at e
  exact ⟨below_al (below_al (Below.refl _ _) _) _, (WAt.new w).below ((Below.refl _ _).alloc (Nat.le_refl _) _), ⟨e, Owns.nil _, by simp [blk], Bys.nil⟩, Nat.le_refl _, Nat.le_succ _, (fun k hk => by cases hk), (fun k hk => by cases hk),
    Nat.ne_of_lt (Nat.lt_succ_self _), by simp [blk], by simp [blk], (fun k hk => by cases hk)⟩
end

end Go.Proofs.Ytkfhljggdcajpaa
