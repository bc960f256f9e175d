/-
  A region that draws its order: all but its last operations are quiet in a class of worlds, and the last ones come in one order.
-/
import Derived.Test.YtkfhljggdcajpaaBase
import Derived.StillTail
import Derived.Deep.Quiet
import Derived.Deep.QuietTactic
import Derived.Sort.Grow
namespace Go.Proofs.Ytkfhljggdcajpaa
open Go.RowKit

section
variable {P : Program} {ops : Array Oper} {md : Region.Mode} {C : World → Prop}

/-- the first f operations, in whatever order, each below n and quiet; then L -/
def headQ (P : Program) (md : Region.Mode) (ops : Array Oper) (C : World → Prop) (n : Nat) (L : Array Bool → Act → Prop) : Nat → Array Bool → Act → Prop
  | 0, up, a => L up a
  | f + 1, up, a => Region.ready md ops up ≠ [] ∧ ∀ i, i ∈ Region.ready md ops up → i < n ∧ qOp P ops C i (headQ P md ops C n L f (up.setIfInBounds i true)) a

theorem any_of_headQ {n g : Nat} {L : Array Bool → Act → Prop} {Q : Exit → Act → World → Prop} (hL : ∀ up a w, C w → L up a → wpAny P md ops Q g up a w) (f : Nat) :
    ∀ (up : Array Bool) (a : Act) (w : World), C w → headQ P md ops C n L f up a → wpAny P md ops Q (f + g) up a w := by
  induction f with
  | zero =>
    intro up a w hw h
    have := hL up a w hw h
    rwa [Nat.zero_add]
  | succ f ih =>
    intro up a w hw h
    have e : f + 1 + g = f + g + 1 := by omega
    rw [e]
    refine ⟨fun h0 => absurd h0 h.1, fun i hi => ?_⟩
    exact wpOp_of_qOp hw (fun a' w' hw' h' => ih _ a' w' hw' h') (h.2 i hi).2

theorem headQ_take {n i : Nat} {o : Oper} {v : Value} {L : Array Bool → Act → Prop} (ho : ops[i]? = some o) (hsel : ∀ (j : Nat) (q : Oper) cs b, ops[j]? = some q → q.op ≠ .select cs b)
    (hs : Region.sinkB md ops n = true) (hc : Region.chainB md ops n = true) (hn : n < ops.size) (hin : i < n) (hdone : ∀ up a, L up a → ∀ j, j ∈ Region.ready md ops up → n ≤ j) (f : Nat) :
    ∀ (up : Array Bool) (a : Act), HeadInv md ops n up →
      (∀ j q, ops[j]? = some q → j ≠ i → up.getD j true = false → (∀ e ∈ q.after, Region.binds md e = true → e.on ≠ i) → o.apart ops q = true) →
      i ∈ Region.ready md ops up → YieldsIn P ops C o v a → headQ P md ops C n L f (up.setIfInBounds i true) (a.put o.dst v) → headQ P md ops C n L (f + 1) up a := by
  have below : ∀ up : Array Bool, HeadInv md ops n up → i ∈ Region.ready md ops up → ∀ j, j ∈ Region.ready md ops up → j < n := fun up inv hr j hj =>
    Nat.lt_of_not_le fun h => tail_waits hs hc hn inv _ i rfl hin (mem_ready.1 hr).1 j h hj
  induction f with
  | zero =>
    intro up a inv _ hr hy hL
    refine ⟨fun h => (by rw [h] at hr; cases hr), fun j hj => ⟨below up inv hr j hj, ?_⟩⟩
    by_cases e : j = i
    · subst e
      exact hy.qOp ho hL
    · have k1 := hdone _ _ hL j (ready_mono hj e)
      have k2 := below up inv hr j hj
      omega
  | succ f ih =>
    intro up a inv hap hr hy hL
    refine ⟨fun h => (by rw [h] at hr; cases hr), fun j hj => ⟨below up inv hr j hj, ?_⟩⟩
    by_cases e : j = i
    · subst e
      exact hy.qOp ho hL
    · obtain ⟨hup, q, hq, hall⟩ := mem_ready.1 hj
      have hun := (mem_ready.1 hr).1
      have hno : ∀ e ∈ q.after, Region.binds md e = true → e.on ≠ i := fun e he hb heq => by
        have h1 := hall e he hb
        rw [heq, getD_both hun] at h1
        cases h1
      have h1 := (hL.2 j (ready_mono hj e)).2
      have h2 := qOp_put hq (hap j q hq e hup hno) (fun cs b => hsel i o cs b ho) (fun cs b => hsel j q cs b hq) hy h1
      refine qOp_mono (fun a' h3 => ?_) h2
      refine ih (up.setIfInBounds j true) a' (inv.set hj (below up inv hr j hj)) (fun k p hk hki hku hkn => ?_) (ready_mono hr (Ne.symm e)) h3.1 ?_
      · refine hap k p hk hki ?_ hkn
        by_cases ejk : j = k
        · subst ejk; exact hup
        · rw [getD_set_ne true ejk] at hku; exact hku
      · rw [Array.setIfInBounds_comm _ _ e]
        exact h3.2

theorem headQ_lex {n g : Nat} {K : Act → Prop} (hsel : Region.noSelect ops = true) (hs : Region.sinkB md ops n = true) (hc : Region.chainB md ops n = true) (hn : n < ops.size) :
    ∀ (l : List Oper) (k : Nat) (up : Array Bool) (a : Act), (∀ j, j < l.length → l[j]? = ops[k + j]?) → k + l.length = n → HeadInv md ops n up → Region.lexHead md ops g l.length k up = true → wpQuiet P ops C K l a →
    headQ P md ops C n (fun up' a' => Region.seqB md ops g n up' = true ∧ K a') l.length up a := by
  intro l
  induction l with
  | nil =>
    intro k up a _ hk _ hB h
    have hk' : k = n := by simpa using hk
    subst hk'
    exact ⟨by simpa [Region.lexHead] using hB, h⟩
  | cons o l ih =>
    intro k up a hl hk inv hB h
    have h0 : ops[k]? = some o := by simpa using (hl 0 (by simp)).symm
    simp only [List.length_cons] at hk
    simp only [List.length_cons, Region.lexHead, Bool.and_eq_true] at hB
    have hr : k ∈ Region.ready md ops up := by simpa using hB.1.1
    have hkn : k < n := by omega
    obtain ⟨v, hy, hK⟩ := yieldsIn_of_qOp h0 (show qOp P ops C k (wpQuiet P ops C K l) a by unfold qOp; simp only [h0]; exact h)
    refine headQ_take h0 (Region.noSelect_spec hsel) hs hc hn hkn (fun up' a' hL => seqB_ready hL.1) l.length up a inv (Region.free_spec h0 hB.1.2) hr hy ?_
    refine ih (k + 1) _ _ (fun j hj => ?_) (by omega) (inv.set hr hkn) hB.2 hK
    have := hl (j + 1) (by simp; omega)
    simpa [Nat.add_assoc, Nat.add_comm 1 j] using this

/-- **quiet operations, then a tail in one order** -/
theorem wp_region_quiet_tail {id : Nat} {Q : Exit → Act → World → Prop} {a : Act} {w : World} {l : List Oper} (C : World → Prop) (n : Nat) (hm : P.follows .mixedOrders = true) (hB : Region.lexTailB .any l.toArray n = true) (hC : C w.drew)
    (h : wpQuiet P l.toArray C (fun a' => ∀ w', C w' → wpList P l.toArray Q (l.drop n) a' w') (l.take n) a) : (Code.region id l.toArray true).wp P Q a w := by
  simp only [Region.lexTailB, Bool.and_eq_true, decide_eq_true_eq] at hB
  obtain ⟨⟨⟨⟨hsel, hn⟩, hs⟩, hc⟩, hlex⟩ := hB
  have hn' : n < l.length := by simpa using hn
  have htl : (l.take n).length = n := by simp; omega
  have hdl : (l.drop n).length = l.toArray.size - n := by simp
  have inv0 : HeadInv .any l.toArray n (Array.replicate l.toArray.size false) :=
    ⟨by simp, fun j oj _ hl => (by rw [getD_replicate_false] at hl; cases hl), fun t _ ht => getD_in (by simpa using ht) (getD_replicate_false _ _)⟩
  have H := headQ_lex (md := .any) (g := l.toArray.size - n) hsel hs hc hn (l.take n) 0 _ a (fun j hj => by
    have hj' : j < n := by rw [htl] at hj; exact hj
    simp [hj']) (by simpa using htl) inv0 (by rw [htl]; exact hlex) h
  refine wp_region_any hm ?_
  have K := any_of_headQ (Q := Q) (g := l.toArray.size - n) (fun up a' w' hw' hL => by
    have := wpAny_of_seq (md := .any) (Q' := Q) (l.drop n) n up a' w' (fun j => by simp [List.getElem?_drop]) (by rw [hdl]; exact hL.1) (hL.2 w' hw')
    rwa [hdl] at this) _ _ _ _ hC H
  rw [htl, show n + (l.toArray.size - n) = l.toArray.size by omega] at K
  exact K
/-! ### the same, with a check that is made of short rows of numbers -/
/-- what an operation writes, looks at, waits for -/
structure ORow where
  dst : Option Nat
  looks : List Nat
  on : List Nat
def rowOf (md : Region.Mode) (ops : Array Oper) (o : Oper) : ORow := ⟨o.dst, o.looksAt ops, (o.after.toList.filter fun e => Region.binds md e).map fun e => e.on⟩
def ORow.apart (x y : ORow) : Bool :=
  (match x.dst with
   | some d => !(y.looks).contains d && y.dst != some d
   | none => true) &&
  (match y.dst with
   | some d => !(x.looks).contains d
   | none => true)
def pairsB : List ORow → Nat → Bool
  | [], _ => true
  | r :: l, i => (l.all fun q => q.on.contains i || r.apart q) && pairsB l (i + 1)
def backB : List ORow → Nat → Bool
  | [], _ => true
  | r :: l, k => (r.on.all fun i => decide (i < k)) && backB l (k + 1)
def chainR : List ORow → Nat → Bool
  | [], _ => true
  | r :: l, k => r.on.contains k && chainR l (k + 1)
def rowsOk (R : List ORow) (n : Nat) : Bool := decide (n < R.length) && pairsB R 0 && backB R 0 && ((List.range n).all fun i => ((R.take (n + 1)).drop (i + 1)).any fun q => q.on.contains i) && chainR (R.drop (n + 1)) n

theorem pairsB_spec : ∀ (R : List ORow) (k i j : Nat) (r q : ORow), pairsB R k = true → i < j → R[i]? = some r → R[j]? = some q → q.on.contains (k + i) = true ∨ r.apart q = true := by
  intro R
  induction R with
  | nil => intro k i j r q _ _ h; simp at h
  | cons x l ih =>
    intro k i j r q h hij hi hj
    simp only [pairsB, Bool.and_eq_true] at h
    cases i with
    | zero =>
      have e : x = r := by simpa using hi
      subst e
      obtain ⟨j, rfl⟩ : ∃ p, j = p + 1 := ⟨j - 1, by omega⟩
      have hj' : l[j]? = some q := by simpa using hj
      have := List.all_eq_true.1 h.1 q (List.mem_of_getElem? hj')
      simpa using this
    | succ i =>
      obtain ⟨j, rfl⟩ : ∃ p, j = p + 1 := ⟨j - 1, by omega⟩
      have := ih (k + 1) i j r q h.2 (by omega) (by simpa using hi) (by simpa using hj)
      rwa [show k + (i + 1) = k + 1 + i by omega]
theorem backB_spec : ∀ (R : List ORow) (k j : Nat) (q : ORow), backB R k = true → R[j]? = some q → ∀ i, i ∈ q.on → i < k + j := by
  intro R
  induction R with
  | nil => intro k j q _ h; simp at h
  | cons x l ih =>
    intro k j q h hj i hi
    simp only [backB, Bool.and_eq_true] at h
    cases j with
    | zero =>
      have e : x = q := by simpa using hj
      subst e
      have := List.all_eq_true.1 h.1 i hi
      simpa using this
    | succ j =>
      have := ih (k + 1) j q h.2 (by simpa using hj) i hi
      omega
theorem chainR_spec : ∀ (R : List ORow) (k j : Nat) (q : ORow), chainR R k = true → R[j]? = some q → q.on.contains (k + j) = true := by
  intro R
  induction R with
  | nil => intro k j q _ h; simp at h
  | cons x l ih =>
    intro k j q h hj
    simp only [chainR, Bool.and_eq_true] at h
    cases j with
    | zero =>
      have e : x = q := by simpa using hj
      subst e
      exact h.1
    | succ j =>
      have := ih (k + 1) j q h.2 (by simpa using hj)
      rwa [show k + (j + 1) = k + 1 + j by omega]

section
variable {R : List ORow} {n : Nat}

theorem row_at (hR : ops.toList.map (rowOf md ops) = R) {j : Nat} {o : Oper} (h : ops[j]? = some o) : R[j]? = some (rowOf md ops o) := by
  rw [← hR, List.getElem?_map]
  simp [h]
theorem on_iff {o : Oper} {i : Nat} : (rowOf md ops o).on.contains i = true ↔ ∃ e ∈ o.after, Region.binds md e = true ∧ e.on = i := by
  simp only [rowOf, List.contains_iff_mem, List.mem_map, List.mem_filter, Array.mem_toList_iff]
  constructor
  · rintro ⟨e, ⟨h1, h2⟩, h3⟩; exact ⟨e, h1, h2, h3⟩
  · rintro ⟨e, h1, h2, h3⟩; exact ⟨e, ⟨h1, h2⟩, h3⟩
theorem waits_of_on {o : Oper} {i j : Nat} (hj : ops[j]? = some o) (h : (rowOf md ops o).on.contains i = true) : Region.waitsFor md ops j i = true := by
  unfold Region.waitsFor
  rw [hj]
  obtain ⟨e, h1, h2, h3⟩ := on_iff.1 h
  exact Array.any_eq_true'.2 ⟨e, h1, by simp [h2, h3]⟩

/-- the first k are up -/
structure Upto (ops : Array Oper) (up : Array Bool) (k : Nat) : Prop where
  size : up.size = ops.size
  low : ∀ j, j < k → up.getD j false = true
  high : ∀ j, k ≤ j → j < ops.size → up.getD j true = false
theorem upto0 : Upto ops (Array.replicate ops.size false) 0 := ⟨by simp, fun j h => by omega, fun t _ ht => getD_in (by simpa using ht) (getD_replicate_false _ _)⟩
theorem Upto.next {up : Array Bool} {k : Nat} (h : Upto ops up k) (hk : k < ops.size) : Upto ops (up.setIfInBounds k true) (k + 1) := by
  refine ⟨by simp [h.size], fun j hj => ?_, fun j h1 h2 => by rw [getD_set_ne true (by omega)]; exact h.high j (by omega) h2⟩
  by_cases e : j = k
  · subst e
    have : j < up.size := by rw [h.size]; exact hk
    simp [this]
  · rw [getD_set_ne false (by omega)]; exact h.low j (by omega)

theorem up_ready (hR : ops.toList.map (rowOf md ops) = R) (hok : rowsOk R n = true) {up : Array Bool} {k : Nat} (h : Upto ops up k) (hk : k < ops.size) : k ∈ Region.ready md ops up := by
  simp only [rowsOk, Bool.and_eq_true, decide_eq_true_eq] at hok
  refine mem_ready.2 ⟨h.high k (Nat.le_refl _) hk, ops[k], by simp [hk], fun e he hb => ?_⟩
  have hrow := row_at hR (show ops[k]? = some ops[k] by simp [hk])
  have := backB_spec R 0 k _ hok.1.1.2 hrow e.on (List.contains_iff_mem.1 (on_iff.2 ⟨e, he, hb, rfl⟩))
  exact h.low _ (by omega)

theorem up_free (hR : ops.toList.map (rowOf md ops) = R) (hok : rowsOk R n = true) {up : Array Bool} {k : Nat} (h : Upto ops up k) {o : Oper} (hko : ops[k]? = some o) (j : Nat) (q : Oper) (hj : ops[j]? = some q) (hne : j ≠ k) (hun : up.getD j true = false)
    (hno : ∀ e ∈ q.after, Region.binds md e = true → e.on ≠ k) : o.apart ops q = true := by
  simp only [rowsOk, Bool.and_eq_true, decide_eq_true_eq] at hok
  have hjk : k < j := by
    refine Nat.lt_of_not_le fun hle => ?_
    have h1 := h.low j (by omega)
    rw [getD_both hun] at h1
    cases h1
  rcases pairsB_spec R 0 k j _ _ hok.1.1.1.2 hjk (row_at hR hko) (row_at hR hj) with h1 | h1
  · rw [Nat.zero_add] at h1
    obtain ⟨e, h2, h3, h4⟩ := on_iff.1 h1
    exact absurd h4 (hno e h2 h3)
  · exact h1

theorem sink_of (hR : ops.toList.map (rowOf md ops) = R) (hok : rowsOk R n = true) : Region.sinkB md ops n = true ∧ Region.chainB md ops n = true ∧ n < ops.size := by
  simp only [rowsOk, Bool.and_eq_true, decide_eq_true_eq] at hok
  obtain ⟨⟨⟨⟨h1, _⟩, _⟩, h4⟩, h5⟩ := hok
  have hlen : R.length = ops.size := by rw [← hR]; simp
  refine ⟨List.all_eq_true.2 fun i hi => List.any_eq_true.2 ?_, List.all_eq_true.2 fun t ht => ?_, by omega⟩
  · obtain ⟨q, hq, hc⟩ := List.any_eq_true.1 (List.all_eq_true.1 h4 i hi)
    obtain ⟨p, hp, e⟩ := List.getElem_of_mem hq
    simp only [List.length_drop, List.length_take] at hp
    rw [List.getElem_drop, List.getElem_take] at e
    have hj : i + 1 + p < ops.size := by omega
    have hrow := row_at hR (show ops[i + 1 + p]? = some ops[i + 1 + p] by simp [hj])
    have hq2 : R[i + 1 + p]? = some q := by rw [← e]; simp
    rw [hrow] at hq2
    have e2 := Option.some.inj hq2
    rw [← e2] at hc
    refine ⟨i + 1 + p, List.mem_range.2 (by omega), ?_⟩
    simp only [Bool.and_eq_true, decide_eq_true_eq]
    exact ⟨by omega, waits_of_on (by simp [hj]) hc⟩
  · simp only [Bool.or_eq_true, decide_eq_true_eq]
    by_cases htn : t ≤ n
    · exact .inl htn
    · right
      have ht2 := List.mem_range.1 ht
      have hrow := row_at hR (show ops[t]? = some ops[t] by simp [ht2])
      have hd : (R.drop (n + 1))[t - (n + 1)]? = some (rowOf md ops ops[t]) := by rw [List.getElem?_drop, show n + 1 + (t - (n + 1)) = t by omega]; exact hrow
      have := chainR_spec _ n _ _ h5 hd
      rw [show n + (t - (n + 1)) = t - 1 by omega] at this
      exact waits_of_on (by simp [ht2]) this

theorem headQ_rows {K : Act → Prop} (hsel : Region.noSelect ops = true) (hR : ops.toList.map (rowOf md ops) = R) (hok : rowsOk R n = true) :
    ∀ (l : List Oper) (k : Nat) (up : Array Bool) (a : Act), (∀ j, j < l.length → l[j]? = ops[k + j]?) → k + l.length = n → HeadInv md ops n up → Upto ops up k → wpQuiet P ops C K l a →
    headQ P md ops C n (fun up' a' => Upto ops up' n ∧ K a') l.length up a := by
  obtain ⟨hs, hc, hn⟩ := sink_of hR hok
  intro l
  induction l with
  | nil =>
    intro k up a _ hk _ hU h
    have hk' : k = n := by simpa using hk
    subst hk'
    exact ⟨hU, h⟩
  | cons o l ih =>
    intro k up a hl hk inv hU h
    have h0 : ops[k]? = some o := by simpa using (hl 0 (by simp)).symm
    simp only [List.length_cons] at hk
    have hkn : k < n := by omega
    have hr := up_ready hR hok hU (by omega)
    obtain ⟨v, hy, hK⟩ := yieldsIn_of_qOp h0 (show qOp P ops C k (wpQuiet P ops C K l) a by unfold qOp; simp only [h0]; exact h)
    refine headQ_take h0 (Region.noSelect_spec hsel) hs hc hn hkn (fun up' a' hL j hj => ?_) l.length up a inv (up_free hR hok hU h0) hr hy ?_
    · refine Nat.le_of_not_lt fun hlt => ?_
      have h1 := hL.1.low j hlt
      rw [getD_both (mem_ready.1 hj).1] at h1
      cases h1
    · refine ih (k + 1) _ _ (fun j hj => ?_) (by omega) (inv.set hr hkn) (hU.next (by omega)) hK
      have := hl (j + 1) (by simp; omega)
      simpa [Nat.add_assoc, Nat.add_comm 1 j] using this

/-- the tail, in its one order -/
theorem any_of_tail (hR : ops.toList.map (rowOf md ops) = R) (hok : rowsOk R n = true) {Q : Exit → Act → World → Prop} : ∀ (l : List Oper) (k : Nat) (up : Array Bool) (a : Act) (w : World), n ≤ k → (∀ j, l[j]? = ops[k + j]?) → Upto ops up k → wpList P ops Q l a w → wpAny P md ops Q l.length up a w := by
  obtain ⟨hs, hc, hn⟩ := sink_of hR hok
  intro l
  induction l with
  | nil =>
    intro k up a w hk hl hU h
    refine ⟨List.eq_nil_iff_forall_not_mem.2 fun j hj => ?_, h⟩
    obtain ⟨h1, o, h2, _⟩ := mem_ready.1 hj
    have hj2 : j < ops.size := (Array.getElem?_eq_some_iff.1 h2).1
    have hk2 : ops[k]? = none := by simpa using (hl 0).symm
    have hk3 : ops.size ≤ k := by simpa using hk2
    have := hU.low j (by omega)
    rw [getD_both h1] at this
    cases this
  | cons o l ih =>
    intro k up a w hk hl hU h
    have h0 : ops[k]? = some o := by simpa using (hl 0).symm
    have hks : k < ops.size := (Array.getElem?_eq_some_iff.1 h0).1
    have hrd : ∀ i, i ∈ Region.ready md ops up → i = k := fun i hi => by
      obtain ⟨h1, q, h2, h3⟩ := mem_ready.1 hi
      have his : i < ops.size := (Array.getElem?_eq_some_iff.1 h2).1
      have hki : k ≤ i := Nat.le_of_not_lt fun hlt => by
        have := hU.low i hlt
        rw [getD_both h1] at this
        cases this
      by_cases e : i = k
      · exact e
      · exfalso
        have h4 := List.all_eq_true.1 hc i (List.mem_range.2 his)
        simp only [Bool.or_eq_true, decide_eq_true_eq] at h4
        obtain ⟨q', hq', e1, he1, hb1, ho1⟩ := Region.waitsFor_spec (h4.resolve_left (by omega))
        have e3 : q' = q := Option.some.inj (hq'.symm.trans h2)
        subst e3
        have h5 := h3 e1 he1 hb1
        rw [ho1, getD_both (hU.high (i - 1) (by omega) (by omega))] at h5
        cases h5
    refine ⟨fun h1 => ?_, fun i hi => ?_⟩
    · have := up_ready hR hok hU hks
      rw [h1] at this
      cases this
    · have := hrd i hi
      subst this
      have hw : wpOp P ops Q i (wpList P ops Q l) a w := by unfold wpOp; simp only [h0]; exact h
      exact wpOp_mono (fun a' w' h' => ih (i + 1) _ a' w' (by omega) (fun j => by have := hl (j + 1); simpa [Nat.add_assoc, Nat.add_comm 1 j] using this) (hU.next hks) h') hw

/-- **quiet operations, then a tail in one order; the check by rows** -/
theorem wp_region_quiet_rows {id : Nat} {Q : Exit → Act → World → Prop} {a : Act} {w : World} {l : List Oper} (C : World → Prop) (n : Nat) (R : List ORow) (hm : P.follows .mixedOrders = true) (hsel : Region.noSelect l.toArray = true)
    (hR : l.map (rowOf .any l.toArray) = R) (hok : rowsOk R n = true) (hC : C w.drew) (h : wpQuiet P l.toArray C (fun a' => ∀ w', C w' → wpList P l.toArray Q (l.drop n) a' w') (l.take n) a) : (Code.region id l.toArray true).wp P Q a w := by
  have hR' : l.toArray.toList.map (rowOf .any l.toArray) = R := hR
  obtain ⟨hs, hc, hn⟩ := sink_of hR' hok
  have hn' : n < l.length := by simpa using hn
  have htl : (l.take n).length = n := by simp; omega
  have hdl : (l.drop n).length = l.toArray.size - n := by simp
  have inv0 : HeadInv .any l.toArray n (Array.replicate l.toArray.size false) :=
    ⟨by simp, fun j oj _ hl => (by rw [getD_replicate_false] at hl; cases hl), fun t _ ht => getD_in (by simpa using ht) (getD_replicate_false _ _)⟩
  have H := headQ_rows (md := .any) hsel hR' hok (l.take n) 0 _ a (fun j hj => by
    have hj' : j < n := by rw [htl] at hj; exact hj
    simp [hj']) (by simpa using htl) inv0 upto0 h
  refine wp_region_any hm ?_
  have K := any_of_headQ (Q := Q) (g := l.toArray.size - n) (fun up a' w' hw' hL => by
    have := any_of_tail hR' hok (Q := Q) (l.drop n) n up a' w' (Nat.le_refl _) (fun j => by simp [List.getElem?_drop]) hL.1 (hL.2 w' hw')
    rwa [hdl] at this) _ _ _ _ hC H
  rw [htl, show n + (l.toArray.size - n) = l.toArray.size by omega] at K
  exact K
end
end

end Go.Proofs.Ytkfhljggdcajpaa
