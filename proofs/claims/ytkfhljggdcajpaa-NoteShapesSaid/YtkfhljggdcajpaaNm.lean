/-
  Package note: what lies in memory while a note is read.
-/
import Derived.Test.YtkfhljggdcajpaaSmn
import Derived.Test.YtkfhljggdcajpaaCnt
namespace Go.Proofs.Ytkfhljggdcajpaa
open Go.RowKit Go.Sort

def ivals (xs : List Int) : List Value := xs.map (Value.int .i64)
def dvals (ids : List (List Int)) : List Value := ids.flatMap bvals

/-- numbers, IDs, in a row of the call's own -/
def OwnN (w : World) (a : Option Addr) (cap : Nat) (ns : List Int) : Prop := w.ownsRow 0 3 1 (.slice a ns.length cap) ns.length (ivals ns)
def OwnD (w : World) (a : Option Addr) (cap : Nat) (ids : List (List Int)) : Prop := w.ownsRow 0 37 16 (.slice a ids.length cap) ids.length (dvals ids)

theorem ownsRow_of_block {w w' : World} {base e size n cap : Nat} {a : Option Addr} {vs : List Value} (h : w.ownsRow base e size (.slice a n cap) n vs) (hb : ∀ k, blk a = some k → k < w.heap.size → w'.heap[k]? = w.heap[k]?) : w'.ownsRow base e size (.slice a n cap) n vs := by
  refine ⟨h.1, ?_⟩
  rcases h.2 with h2 | ⟨g, c, cur, hv, hbase, hg, r⟩
  · exact .inl h2
  · refine .inr ⟨g, c, cur, hv, hbase, ?_, r⟩
    simp only [Value.slice.injEq] at hv
    rw [hb g (by rw [hv.1]; rfl) (lt_of_row hg)]
    exact hg

theorem ownsRow_blk {w : World} {base e size n cap : Nat} {a : Option Addr} {vs : List Value} (h : w.ownsRow base e size (.slice a n cap) n vs) : ∀ k, blk a = some k → k < w.heap.size := fun k hk => (h.lt k (by rw [ownBlock_eq]; exact hk)).2

theorem OwnN.ints {w : World} {a : Option Addr} {cap : Nat} {ns : List Int} (h : OwnN w a cap ns) : IntsAt w a ns := by
  rcases h.2 with ⟨hv, h0⟩ | ⟨g, c, cur, hv, _, hg, hnc, hcm, hcs, htake⟩
  · exact .inl (List.eq_nil_of_length_eq_zero h0)
  · simp only [Value.slice.injEq] at hv
    refine .inr ⟨g, 0, hv.1, lt_of_row hg, fun i hi => ?_⟩
    rw [cell_of_row w g _ cur 3 (0, 0) hg, Nat.zero_add, ← Array.getElem?_toList]
    have e : cur.toList[i]? = (cur.toList.take (ns.length * 1))[i]? := by simp [hi]
    rw [e, htake]
    simp [ivals, List.getD, hi]

theorem dvals_at (ids : List (List Int)) (hi : Ids ids) (k j : Nat) (hj : j < 16) : (dvals ids)[k * 16 + j]? = ids[k]?.bind fun x => (bvals x)[j]? := by
  induction ids generalizing k with
  | nil => simp [dvals]
  | cons x ids ih =>
    have hx := (hi x (by simp)).1
    have ih' := ih (fun y hy => hi y (by simp [hy]))
    unfold dvals at *
    rw [List.flatMap_cons]
    cases k with
    | zero => rw [List.getElem?_append_left (by rw [bvals_length, hx]; omega)]; simp
    | succ k =>
      rw [List.getElem?_append_right (by rw [bvals_length, hx]; omega), bvals_length, hx, show (k + 1) * 16 + j - 16 = k * 16 + j by omega, ih']
      simp

theorem OwnD.idsAt {w : World} {a : Option Addr} {cap : Nat} {ids : List (List Int)} (h : OwnD w a cap ids) (hi : Ids ids) : IdsAt w a ids := by
  rcases h.2 with ⟨hv, h0⟩ | ⟨g, c, cur, hv, _, hg, hnc, hcm, hcs, htake⟩
  · exact .inl (List.eq_nil_of_length_eq_zero h0)
  · simp only [Value.slice.injEq] at hv
    refine .inr ⟨g, 0, hv.1, lt_of_row hg, fun i hil j v hj => ?_⟩
    have hj16 : j < 16 := by
      have := (List.getElem?_eq_some_iff.1 hj).1
      rw [bvals_length, (hi.get hil).1] at this; exact this
    rw [cell_of_row w g _ cur 37 (0, 0) hg, Nat.zero_add, ← Array.getElem?_toList]
    have e : cur.toList[i * 16 + j]? = (cur.toList.take (ids.length * 16))[i * 16 + j]? := by
      rw [List.getElem?_take_of_lt (by omega)]
    rw [e, htake, dvals_at ids hi i j hj16, List.getElem?_eq_getElem hil]
    have : ids.getD i [] = ids[i] := by simp [List.getD, hil]
    rw [this] at hj
    exact hj

def zeroNote : Array Value := #[.int .i64 0, .slice none 0 0, .slice none 0 0, .slice none 0 0]

/-- where all lies -/
structure RFix (w0 : World) (b p5 sb p7 m : Nat) (a : Option Addr) : Prop where
  b_ : w0.heap.size + 1 < b
  p5_ : b < p5
  sb_ : p5 < sb
  p7_ : sb < p7
  m_ : p7 < m
  far : ∀ k, blk a = some k → w0.heap.size + 1 < k ∧ k < p5

/-- what stands while the parts are read -/
structure RN (w0 w : World) (b p5 sb so p7 m : Nat) (a : Option Addr) (cap : Nat) (xs : List Int) (S : Shape) (k : Int) (pos : Nat) (er fa f1 f2 : Int)
    (aN : Option Addr) (cN : Nat) (ns : List Int) (aI : Option Addr) (cI : Nat) (ids : List (List Int)) (aB : Option Addr) (cB : Nat) (bs : List Int) : Prop where
  rat : RAt w b a cap xs pos er fa
  bel : Below w0.heap.size w0 w
  size : m ≤ w.heap.size
  r2 : w.heap[w0.heap.size]? = some (.cells zeroNote 69 (0, 0))
  r3 : w.heap[w0.heap.size + 1]? = some (.cells #[.int .i64 0, .int .i64 0] 51 (0, 0))
  r5 : w.heap[p5]? = some (.cells #[.int .i64 k, .slice aN ns.length cN, .slice aI ids.length cI, .slice aB bs.length cB] 69 (0, 0))
  r7 : w.heap[p7]? = some (.cells #[.int .i64 f1, .int .i64 f2] 51 (0, 0))
  shp : ShapeIn w sb so S
  oN : OwnN w aN cN ns
  oI : OwnD w aI cI ids
  oB : Owns w aB cB bs
  gN : ∀ k, blk aN = some k → m ≤ k
  gI : ∀ k, blk aI = some k → m ≤ k
  gB : ∀ k, blk aB = some k → m ≤ k
  dNI : ∀ k, blk aN = some k → blk aI ≠ some k
  dNB : ∀ k, blk aN = some k → blk aB ≠ some k
  dIB : ∀ k, blk aI = some k → blk aB ≠ some k

theorem ShapeIn.of_block {w w' : World} {sb so : Nat} {S : Shape} (h : ShapeIn w sb so S) (hb : w'.heap[sb]? = w.heap[sb]?) : ShapeIn w' sb so S := by
  have q : ∀ o, w'.cell? ⟨sb, o, none⟩ = w.cell? ⟨sb, o, none⟩ := fun o => World.cell?_of_block hb
  exact ⟨by rw [q]; exact h.name, by rw [q]; exact h.n, by rw [q]; exact h.ns, by rw [q]; exact h.i, by rw [q]; exact h.is, by rw [q]; exact h.least, by rw [q]; exact h.most⟩

section
variable {w0 w : World} {b p5 sb so p7 m : Nat} {a : Option Addr} {cap : Nat} {xs : List Int} {S : Shape} {k : Int} {pos : Nat} {er fa f1 f2 : Int}
    {aN : Option Addr} {cN : Nat} {ns : List Int} {aI : Option Addr} {cI : Nat} {ids : List (List Int)} {aB : Option Addr} {cB : Nat} {bs : List Int}

/-- all blocks that matter, but the reader's, are kept -/
theorem RN.keep (h : RN w0 w b p5 sb so p7 m a cap xs S k pos er fa f1 f2 aN cN ns aI cI ids aB cB bs) (hF : RFix w0 b p5 sb p7 m a) {w' : World} {pos' : Nat} {er' fa' : Int} (hR : RAt w' b a cap xs pos' er' fa')
    (hos : w'.os = w.os) (hta : w'.tape = w.tape) (hou : w'.output = w.output) (hs : w.heap.size ≤ w'.heap.size) (hk : ∀ p, p < w.heap.size → p ≠ b → w'.heap[p]? = w.heap[p]?) :
    RN w0 w' b p5 sb so p7 m a cap xs S k pos' er' fa' f1 f2 aN cN ns aI cI ids aB cB bs := by
  obtain ⟨h1, h2, h3, h4, h5, h6⟩ := hF
  have hm := h.size
  have hbl : Below w0.heap.size w0 w' := h.bel.trans ⟨hos, hta, hou, hs, fun p hp => hk p (by have := h.bel.size; omega) (by omega)⟩
  exact ⟨hR, hbl, by omega, (hk _ (by omega) (by omega)).trans h.r2, (hk _ (by omega) (by omega)).trans h.r3, (hk _ (by omega) (by omega)).trans h.r5, (hk _ (by omega) (by omega)).trans h.r7, h.shp.of_block (hk _ (by omega) (by omega)),
    ownsRow_of_block h.oN fun p hp hl => hk p hl (by have := h.gN p hp; omega), ownsRow_of_block h.oI fun p hp hl => hk p hl (by have := h.gI p hp; omega), h.oB.of_block fun p hp hl => hk p hl (by have := h.gB p hp; omega), h.gN, h.gI, h.gB, h.dNI, h.dNB, h.dIB⟩

theorem RN.read (h : RN w0 w b p5 sb so p7 m a cap xs S k pos er fa f1 f2 aN cN ns aI cI ids aB cB bs) (hF : RFix w0 b p5 sb p7 m a) {w' : World} {pos' : Nat} {er' fa' : Int} (hR : RAt w' b a cap xs pos' er' fa')
    (hm : Moved b none none w w') : RN w0 w' b p5 sb so p7 m a cap xs S k pos' er' fa' f1 f2 aN cN ns aI cI ids aB cB bs :=
  h.keep hF hR hm.os hm.tape hm.output hm.size fun p hp hb => hm.block p hp hb (by simp)

theorem RN.below (h : RN w0 w b p5 sb so p7 m a cap xs S k pos er fa f1 f2 aN cN ns aI cI ids aB cB bs) (hF : RFix w0 b p5 sb p7 m a) {w' : World} (hb : Below w.heap.size w w') :
    RN w0 w' b p5 sb so p7 m a cap xs S k pos er fa f1 f2 aN cN ns aI cI ids aB cB bs :=
  h.keep hF (h.rat.below hb) hb.os hb.tape hb.output hb.size fun p hp _ => hb.block p hp

/-- the fault's two cells are set -/
theorem RN.set7 (h : RN w0 w b p5 sb so p7 m a cap xs S k pos er fa f1 f2 aN cN ns aI cI ids aB cB bs) (hF : RFix w0 b p5 sb p7 m a) (g1 g2 : Int) :
    RN w0 ((w.setCell ⟨p7, 0, none⟩ (.int .i64 g1)).setCell ⟨p7, 1, none⟩ (.int .i64 g2)) b p5 sb so p7 m a cap xs S k pos er fa g1 g2 aN cN ns aI cI ids aB cB bs := by
  obtain ⟨h1, h2, h3, h4, h5, h6⟩ := hF
  have hk : ∀ p, p ≠ p7 → ((w.setCell ⟨p7, 0, none⟩ (.int .i64 g1)).setCell ⟨p7, 1, none⟩ (.int .i64 g2)).heap[p]? = w.heap[p]? := fun p hp => by rw [heap_setCell_other _ _ _ _ hp, heap_setCell_other _ _ _ _ hp]
  have hf : blk a ≠ some p7 := fun e => by have := h6 _ e; omega
  exact ⟨(h.rat.setNew _ _ _ (by omega) hf).setNew _ _ _ (by omega) hf, (h.bel.setCell (p := ⟨p7, 0, none⟩) (by simp only; omega) _).setCell (p := ⟨p7, 1, none⟩) (by simp only; omega) _, by have := h.size; simp [World.setCell]; omega,
    (hk _ (by omega)).trans h.r2, (hk _ (by omega)).trans h.r3, (hk _ (by omega)).trans h.r5, row_set2 h.r7 _ _, h.shp.of_block (hk _ (by omega)),
    ownsRow_of_block h.oN fun p hp hl => hk p (by have := h.gN p hp; omega), ownsRow_of_block h.oI fun p hp hl => hk p (by have := h.gI p hp; omega), h.oB.of_block fun p hp hl => hk p (by have := h.gB p hp; omega), h.gN, h.gI, h.gB, h.dNI, h.dNB, h.dIB⟩

theorem grown_far {w : World} {r r' : Option Nat} (hat : r' = r ∨ r' = some w.heap.size) {q : Option Nat} (hq : ∀ k, r = some k → q ≠ some k) (hl : ∀ k, q = some k → k < w.heap.size) : ∀ k, r' = some k → q ≠ some k := fun k hk e => by
  rcases hat with h | h
  · exact hq k (by rw [← h]; exact hk) e
  · rw [h] at hk; cases hk; have := hl _ e; omega

/-- a number is appended -/
theorem RN.pushN (h : RN w0 w b p5 sb so p7 m a cap xs S k pos er fa f1 f2 aN cN ns aI cI ids aB cB bs) (hF : RFix w0 b p5 sb p7 m a) {w1 : World} {a' : Option Addr} {c' : Nat} (v : Int)
    (hg : w.grownBy w1 (blk aN)) (hown : w1.ownsRow 0 3 1 (.slice a' (ns.length + 1) c') (ns.length + 1) (ivals ns ++ [.int .i64 v])) (hat : blk a' = blk aN ∨ blk a' = some w.heap.size) :
    RN w0 (w1.setCell ⟨p5, 1, none⟩ (.slice a' (ns.length + 1) c')) b p5 sb so p7 m a cap xs S k pos er fa f1 f2 a' c' (ns ++ [v]) aI cI ids aB cB bs := by
  obtain ⟨h1, h2, h3, h4, h5, h6⟩ := hF
  have hm := h.size
  have hlen : (ns ++ [v]).length = ns.length + 1 := by simp
  have hk1 : ∀ p, p < w.heap.size → blk aN ≠ some p → w1.heap[p]? = w.heap[p]? := fun p hp hn => hg.block p hp (fun e => hn e.symm)
  have hkf : ∀ p, p < m → w1.heap[p]? = w.heap[p]? := fun p hp => hk1 p (by omega) (fun e => by have := h.gN p e; omega)
  have hk : ∀ p, p ≠ p5 → (w1.setCell ⟨p5, 1, none⟩ (.slice a' (ns.length + 1) c')).heap[p]? = w1.heap[p]? := fun p hp => heap_setCell_other _ _ _ _ hp
  have hg' : ∀ k, blk a' = some k → m ≤ k := fun k hk => by
    rcases hat with e | e
    · exact h.gN k (by rw [← e]; exact hk)
    · rw [e] at hk; cases hk; exact hm
  have hrat : RAt w1 b a cap xs pos er fa := ⟨(hkf _ (by omega)).trans h.rat.str, h.rat.byt.of_block hg.size (fun p off hp hl => hkf p (by have := h6 p (by rw [hp]; rfl); omega)), h.rat.apart, h.rat.bys, h.rat.le, h.rat.len, h.rat.capLe⟩
  refine ⟨hrat.setNew _ _ _ (by omega) (fun e => by have := h6 _ e; omega), ?_, by have := hg.size; simp [World.setCell]; omega,
    (hk _ (by omega)).trans ((hkf _ (by omega)).trans h.r2), (hk _ (by omega)).trans ((hkf _ (by omega)).trans h.r3), ?_, (hk _ (by omega)).trans ((hkf _ (by omega)).trans h.r7), h.shp.of_block ((hk _ (by omega)).trans (hkf _ (by omega))),
    ?_, ownsRow_of_block h.oI fun p hp hl => (hk p (by have := h.gI p hp; omega)).trans (hk1 p hl (fun e => h.dNI p e hp)), h.oB.of_block fun p hp hl => (hk p (by have := h.gB p hp; omega)).trans (hk1 p hl (fun e => h.dNB p e hp)), hg', h.gI, h.gB,
    grown_far hat h.dNI (ownsRow_blk h.oI), grown_far hat h.dNB h.oB.blk_lt, h.dIB⟩
  · exact (h.bel.grown hg h.bel.size (fun p hp => by have := h.gN p hp; omega)).setCell (p := ⟨p5, 1, none⟩) (by simp only; omega) _
  · rw [heap_setCell_same _ _ _ _ _ _ ((hkf _ (by omega)).trans h.r5), hlen]; rfl
  · unfold OwnN
    rw [hlen, ivals, List.map_append]
    exact ownsRow_of_block hown fun p hp hl => hk p (by have := hg' p hp; omega)

/-- an ID is appended -/
theorem RN.pushI (h : RN w0 w b p5 sb so p7 m a cap xs S k pos er fa f1 f2 aN cN ns aI cI ids aB cB bs) (hF : RFix w0 b p5 sb p7 m a) {w1 : World} {a' : Option Addr} {c' : Nat} (x : List Int)
    (hg : w.grownBy w1 (blk aI)) (hown : w1.ownsRow 0 37 16 (.slice a' (ids.length + 1) c') (ids.length + 1) (dvals ids ++ bvals x)) (hat : blk a' = blk aI ∨ blk a' = some w.heap.size) :
    RN w0 (w1.setCell ⟨p5, 2, none⟩ (.slice a' (ids.length + 1) c')) b p5 sb so p7 m a cap xs S k pos er fa f1 f2 aN cN ns a' c' (ids ++ [x]) aB cB bs := by
  obtain ⟨h1, h2, h3, h4, h5, h6⟩ := hF
  have hm := h.size
  have hlen : (ids ++ [x]).length = ids.length + 1 := by simp
  have hk1 : ∀ p, p < w.heap.size → blk aI ≠ some p → w1.heap[p]? = w.heap[p]? := fun p hp hn => hg.block p hp (fun e => hn e.symm)
  have hkf : ∀ p, p < m → w1.heap[p]? = w.heap[p]? := fun p hp => hk1 p (by omega) (fun e => by have := h.gI p e; omega)
  have hk : ∀ p, p ≠ p5 → (w1.setCell ⟨p5, 2, none⟩ (.slice a' (ids.length + 1) c')).heap[p]? = w1.heap[p]? := fun p hp => heap_setCell_other _ _ _ _ hp
  have hg' : ∀ k, blk a' = some k → m ≤ k := fun k hk => by
    rcases hat with e | e
    · exact h.gI k (by rw [← e]; exact hk)
    · rw [e] at hk; cases hk; exact hm
  have hrat : RAt w1 b a cap xs pos er fa := ⟨(hkf _ (by omega)).trans h.rat.str, h.rat.byt.of_block hg.size (fun p off hp hl => hkf p (by have := h6 p (by rw [hp]; rfl); omega)), h.rat.apart, h.rat.bys, h.rat.le, h.rat.len, h.rat.capLe⟩
  refine ⟨hrat.setNew _ _ _ (by omega) (fun e => by have := h6 _ e; omega), ?_, by have := hg.size; simp [World.setCell]; omega,
    (hk _ (by omega)).trans ((hkf _ (by omega)).trans h.r2), (hk _ (by omega)).trans ((hkf _ (by omega)).trans h.r3), ?_, (hk _ (by omega)).trans ((hkf _ (by omega)).trans h.r7), h.shp.of_block ((hk _ (by omega)).trans (hkf _ (by omega))),
    ownsRow_of_block h.oN fun p hp hl => (hk p (by have := h.gN p hp; omega)).trans (hk1 p hl (fun e => h.dNI p hp e)), ?_, h.oB.of_block fun p hp hl => (hk p (by have := h.gB p hp; omega)).trans (hk1 p hl (fun e => h.dIB p e hp)), h.gN, hg', h.gB,
    fun p hp e => ?_, h.dNB, grown_far hat h.dIB h.oB.blk_lt⟩
  · exact (h.bel.grown hg h.bel.size (fun p hp => by have := h.gI p hp; omega)).setCell (p := ⟨p5, 2, none⟩) (by simp only; omega) _
  · rw [heap_setCell_same _ _ _ _ _ _ ((hkf _ (by omega)).trans h.r5), hlen]; rfl
  · unfold OwnD
    rw [hlen, dvals, List.flatMap_append]
    simp only [List.flatMap_cons, List.flatMap_nil, List.append_nil]
    exact ownsRow_of_block hown fun p hp hl => hk p (by have := hg' p hp; omega)
  · exact grown_far hat (fun p hp e => h.dNI p e hp) (ownsRow_blk h.oN) p e hp

/-- the bytes are laid in -/
theorem RN.setB (h : RN w0 w b p5 sb so p7 m a cap xs S k pos er fa f1 f2 aN cN ns aI cI ids aB cB bs) (hF : RFix w0 b p5 sb p7 m a) {a' : Option Addr} {c' : Nat} (ys : List Int) (hown : Owns w a' c' ys)
    (hm : ∀ k, blk a' = some k → m ≤ k) (hN : ∀ k, blk aN = some k → blk a' ≠ some k) (hI : ∀ k, blk aI = some k → blk a' ≠ some k) :
    RN w0 (w.setCell ⟨p5, 3, none⟩ (.slice a' ys.length c')) b p5 sb so p7 m a cap xs S k pos er fa f1 f2 aN cN ns aI cI ids a' c' ys := by
  obtain ⟨h1, h2, h3, h4, h5, h6⟩ := hF
  have hk : ∀ p, p ≠ p5 → (w.setCell ⟨p5, 3, none⟩ (.slice a' ys.length c')).heap[p]? = w.heap[p]? := fun p hp => heap_setCell_other _ _ _ _ hp
  refine ⟨h.rat.setNew _ _ _ (by omega) (fun e => by have := h6 _ e; omega), h.bel.setCell (p := ⟨p5, 3, none⟩) (by simp only; omega) _, by have := h.size; simp [World.setCell]; omega,
    (hk _ (by omega)).trans h.r2, (hk _ (by omega)).trans h.r3, ?_, (hk _ (by omega)).trans h.r7, h.shp.of_block (hk _ (by omega)),
    ownsRow_of_block h.oN fun p hp hl => hk p (by have := h.gN p hp; omega), ownsRow_of_block h.oI fun p hp hl => hk p (by have := h.gI p hp; omega), hown.of_block fun p hp hl => hk p (by have := hm p hp; omega), h.gN, h.gI, hm, h.dNI, hN, hI⟩
  rw [heap_setCell_same _ _ _ _ _ _ h.r5]; rfl
end

end Go.Proofs.Ytkfhljggdcajpaa
