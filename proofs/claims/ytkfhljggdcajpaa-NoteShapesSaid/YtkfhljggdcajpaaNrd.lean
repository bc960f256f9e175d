/-
  Package note: what a note is read as, in plain Lean; the reader's calls, whether it stopped or not.
-/
import Derived.Test.YtkfhljggdcajpaaNm
namespace Go.Proofs.Ytkfhljggdcajpaa
open Go.RowKit Go.Sort

/-- how many there are -/
def rdCnt (xs : List Int) (at0 : Nat) (lo hi : Nat) : Except (Int × Int) (Nat × Nat) :=
  match bnd xs at0 0 hi 3 with
  | .error f => .error f
  | .ok (v, nx) => if v < lo then .error (5, at0) else .ok (v.toNat, nx)

/-- so many numbers -/
def rdInts (xs : List Int) : Nat → Nat → List Int → Except (Int × Int) (List Int × Nat)
  | 0, pos, acc => .ok (acc, pos)
  | n + 1, pos, acc => match bnd xs pos 0 2147483647 5 with
    | .error f => .error f
    | .ok (v, nx) => rdInts xs n nx (acc ++ [v])

/-- so many IDs -/
def rdIds (xs : List Int) : Nat → Nat → List (List Int) → Except (Int × Int) (List (List Int) × Nat)
  | 0, pos, acc => .ok (acc, pos)
  | n + 1, pos, acc => if pos + 16 ≤ xs.length then rdIds xs n (pos + 16) (acc ++ [(xs.drop pos).take 16]) else .error (4, xs.length)

/-- the bytes -/
def rdB (xs : List Int) (pos : Nat) (least most : Nat) : Except (Int × Int) (List Int × Nat) :=
  match rdBytes xs pos most with
  | .error f => .error f
  | .ok (bs, nx) => if bs.length < least then .error (5, pos) else .ok (bs, nx)

/-- the note that bytes are, or the fault -/
def rdNote (xs : List Int) : Except (Int × Int) Note :=
  match bnd xs 0 1 24 5 with
  | .error f => .error f
  | .ok (k, p0) =>
  match rdCnt xs p0 (shapeAt k).n (shapeAt k).ns with
  | .error f => .error f
  | .ok (n, p1) =>
  match rdInts xs n p1 [] with
  | .error f => .error f
  | .ok (ns, p2) =>
  match rdCnt xs p2 (shapeAt k).i (shapeAt k).is with
  | .error f => .error f
  | .ok (m, p3) =>
  match rdIds xs m p3 [] with
  | .error f => .error f
  | .ok (ids, p4) =>
  match rdB xs p4 (shapeAt k).least (shapeAt k).most with
  | .error f => .error f
  | .ok (bs, p5) => if p5 < xs.length then .error (4, p5) else .ok ⟨k, ns, ids, bs⟩

theorem rd_range {xs : List Int} {at0 : Nat} {er fa : Int} (h : rd xs at0 = .error (er, fa)) : er ≠ 0 := by
  have hgo : ∀ (k pos : Nat) (n : Int), rdGo xs at0 k pos n = .error (er, fa) → er ≠ 0 := by
    intro k
    induction k with
    | zero => intro pos n h; simp [rdGo] at h; omega
    | succ k ih =>
      intro pos n h
      unfold rdGo at h
      split at h
      · cases h; decide
      · split at h
        · exact ih _ _ h
        · split at h
          · cases h; decide
          · cases h
  unfold rd at h
  split at h
  · cases h; decide
  · exact hgo _ _ _ h

theorem bnd_ne {xs : List Int} {at0 : Nat} {lo hi above er fa : Int} (ha : above ≠ 0) (h : bnd xs at0 lo hi above = .error (er, fa)) : er ≠ 0 := by
  unfold bnd at h
  split at h
  · rename_i f hf; cases h; exact rd_range hf
  · split at h
    · cases h; exact ha
    · split at h
      · cases h; decide
      · cases h

theorem bnd_in {xs : List Int} {at0 nx : Nat} {lo hi above v : Int} (h : bnd xs at0 lo hi above = .ok (v, nx)) : lo ≤ v ∧ v ≤ hi := by
  unfold bnd at h
  split at h
  · cases h
  · split at h
    · cases h
    · split at h
      · cases h
      · cases h; omega

theorem rdBytes_ne {xs : List Int} {at0 : Nat} {most er fa : Int} (h : rdBytes xs at0 most = .error (er, fa)) : er ≠ 0 := by
  unfold rdBytes at h
  split at h
  · rename_i f hf; cases h; exact bnd_ne (by decide) hf
  · split at h
    · cases h; decide
    · cases h

/-- a read of a number, whether the reader stopped or not -/
def stepInt (xs : List Int) (pos : Nat) (er fa lo hi : Int) : Int × Nat × Int × Int := if er = 0 then intEnd xs pos lo hi else (0, pos, er, fa)

theorem rint_all (w : World) (b : Nat) (a : Option Addr) (cap : Nat) (xs : List Int) (pos : Nat) (er fa lo hi v : Int) (p' : Nat) (er' fa' : Int) (h : RAt w b a cap xs pos er fa) (hz : er = 0 → fa = 0) (hs : stepInt xs pos er fa lo hi = (v, p', er', fa')) :
    Calls Try.prog 38 #[.pointer (some ⟨b, 0, none⟩), .int .i64 lo, .int .i64 hi] w fun e w' => GotNum w b a cap xs v p' er' fa' e w' := by
  unfold stepInt at hs
  split at hs
  · rename_i he
    subst he
    rw [hz rfl] at h
    refine (rint_any w b a cap xs pos lo hi h).mono fun e w' hq => ?_
    rw [hs] at hq
    exact hq
  · rename_i he
    cases hs
    exact rint_stop w b a cap xs pos lo hi er fa h he

/-- a read of an ID, whether the reader stopped or not -/
def stepId (xs : List Int) (pos : Nat) (er fa : Int) : List Int × Nat × Int × Int := if er = 0 then (if pos + 16 ≤ xs.length then ((xs.drop pos).take 16, pos + 16, 0, 0) else (z16, pos, 4, xs.length)) else (z16, pos, er, fa)

theorem rid_all (w : World) (b : Nat) (a : Option Addr) (cap : Nat) (xs : List Int) (pos : Nat) (er fa : Int) (x : List Int) (p' : Nat) (er' fa' : Int) (h : RAt w b a cap xs pos er fa) (hz : er = 0 → fa = 0) (hs : stepId xs pos er fa = (x, p', er', fa')) :
    Calls Try.prog 43 #[.pointer (some ⟨b, 0, none⟩)] w fun e w' => GotId w b a cap xs p' er' fa' x e w' := by
  unfold stepId at hs
  split at hs
  · rename_i he
    subst he
    rw [hz rfl] at h
    split at hs
    · rename_i hle
      cases hs
      exact rid_ok w b a cap xs pos h hle
    · cases hs
      exact rid_err w b a cap xs pos h (by omega)
  · rename_i he
    cases hs
    exact rid_stop w b a cap xs pos er fa h he

/-- what is left to read: behind the kind, the numbers, the IDs, the bytes -/
def rest3 (xs : List Int) (k : Int) (ns : List Int) (ids : List (List Int)) (bs : List Int) (p5 : Nat) : Except (Int × Int) Note := if p5 < xs.length then .error (4, p5) else .ok ⟨k, ns, ids, bs⟩
def rest2 (xs : List Int) (k : Int) (ns : List Int) (ids : List (List Int)) (p4 : Nat) : Except (Int × Int) Note :=
  match rdB xs p4 (shapeAt k).least (shapeAt k).most with
  | .error f => .error f
  | .ok (bs, p5) => rest3 xs k ns ids bs p5
def rest1 (xs : List Int) (k : Int) (ns : List Int) (p2 : Nat) : Except (Int × Int) Note :=
  match rdCnt xs p2 (shapeAt k).i (shapeAt k).is with
  | .error f => .error f
  | .ok (m, p3) =>
  match rdIds xs m p3 [] with
  | .error f => .error f
  | .ok (ids, p4) => rest2 xs k ns ids p4
def rest0 (xs : List Int) (k : Int) (p0 : Nat) : Except (Int × Int) Note :=
  match rdCnt xs p0 (shapeAt k).n (shapeAt k).ns with
  | .error f => .error f
  | .ok (n, p1) =>
  match rdInts xs n p1 [] with
  | .error f => .error f
  | .ok (ns, p2) => rest1 xs k ns p2

theorem rdNote_rest {xs : List Int} {k : Int} {p0 : Nat} (h : bnd xs 0 1 24 5 = .ok (k, p0)) : rdNote xs = rest0 xs k p0 := by
  unfold rdNote
  rw [h]
  rfl

/-- the parts may be -/
def PartsWf (ns : List Int) (ids : List (List Int)) (bs : List Int) : Prop := ns.length < 2 ^ 40 ∧ Ids ids ∧ ids.length < 2 ^ 40 ∧ Bys bs ∧ bs.length < 2 ^ 40

/-- which part is read next; how many are left -/
def AtPart (xs : List Int) (k : Int) (s : Value) (j pos : Nat) (ns : List Int) (ids : List (List Int)) (bs : List Int) : Prop :=
  PartsWf ns ids bs ∧ ((s = .int .i64 0 ∧ j = 3 ∧ rdNote xs = rest0 xs k pos ∧ ns = [] ∧ ids = [] ∧ bs = []) ∨ (s = .int .i64 1 ∧ j = 2 ∧ rdNote xs = rest1 xs k ns pos ∧ ids = [] ∧ bs = []) ∨
    (s = .int .i64 2 ∧ j = 1 ∧ rdNote xs = rest2 xs k ns ids pos ∧ bs = []) ∨ (s = .int .i64 3 ∧ j = 0 ∧ rdNote xs = rest3 xs k ns ids bs pos))

/-- what count leaves, whole -/
def CountAll (w : World) (b : Nat) (a : Option Addr) (cap : Nat) (xs : List Int) (at0 lo hi : Nat) (e : Ending) (w' : World) : Prop :=
  ∃ (n pos : Nat) (er fa f1 f2 : Int), Counted w b a cap xs (n : Int) pos er fa f1 f2 e w' ∧ (er = 0 → fa = 0) ∧ n ≤ hi ∧
    ((f1 = 0 ∧ f2 = 0 ∧ ((er = 0 ∧ rdCnt xs at0 lo hi = .ok (n, pos)) ∨ (er ≠ 0 ∧ n = 0 ∧ rdCnt xs at0 lo hi = .error (er, fa)))) ∨ (f1 = 5 ∧ f2 = at0 ∧ er = 0 ∧ rdCnt xs at0 lo hi = .error (5, at0)))

theorem count_all (w : World) (b : Nat) (a : Option Addr) (cap : Nat) (xs : List Int) (at0 lo hi : Nat) (h : RAt w b a cap xs at0 0 0) :
    Calls Try.prog 79 #[.pointer (some ⟨b, 0, none⟩), .agg #[.int .i64 lo, .int .i64 hi]] w fun e w' => CountAll w b a cap xs at0 lo hi e w' := by
  cases hb : bnd xs at0 0 hi 3 with
  | error f =>
    obtain ⟨er, fa⟩ := f
    have hne := bnd_ne (by decide) hb
    refine (count_err w b a cap xs at0 lo hi er fa h hb hne).mono fun e w' hq => ?_
    exact ⟨0, at0, er, fa, 0, 0, hq, fun e => absurd e hne, by omega, .inl ⟨rfl, rfl, .inr ⟨hne, rfl, by unfold rdCnt; rw [hb]⟩⟩⟩
  | ok q =>
    obtain ⟨v, nx⟩ := q
    have hin := bnd_in hb
    obtain ⟨n, rfl⟩ : ∃ n : Nat, v = n := ⟨v.toNat, by omega⟩
    by_cases hv : (n : Int) < lo
    · refine (count_ok w b a cap xs at0 lo hi n nx h hb 5 at0 (by unfold fewOf; rw [if_pos hv])).mono fun e w' hq => ?_
      exact ⟨n, nx, 0, 0, 5, at0, hq, fun _ => rfl, by omega, .inr ⟨rfl, rfl, rfl, by unfold rdCnt; rw [hb]; exact if_pos hv⟩⟩
    · refine (count_ok w b a cap xs at0 lo hi n nx h hb 0 0 (by unfold fewOf; rw [if_neg hv])).mono fun e w' hq => ?_
      exact ⟨n, nx, 0, 0, 0, 0, hq, fun _ => rfl, by omega, .inl ⟨rfl, rfl, .inl ⟨rfl, by unfold rdCnt; rw [hb]; exact if_neg hv⟩⟩⟩

/-- how far the numbers are read, in the note -/
def NGo (xs : List Int) (k : Int) (n kk pos : Nat) (er fa : Int) (ns : List Int) : Prop :=
  ns.length = kk ∧ (er = 0 → fa = 0) ∧ ((er = 0 ∧ rdNote xs = match rdInts xs (n - kk) pos ns with | .error f => .error f | .ok (ns, p2) => rest1 xs k ns p2) ∨ (er ≠ 0 ∧ rdNote xs = .error (er, fa)))

theorem nGo_start {xs : List Int} {k : Int} {pos : Nat} (hQ : rdNote xs = rest0 xs k pos) {n pos' : Nat} {er fa : Int} (hz : er = 0 → fa = 0)
    (h : (er = 0 ∧ rdCnt xs pos (shapeAt k).n (shapeAt k).ns = .ok (n, pos')) ∨ (er ≠ 0 ∧ n = 0 ∧ rdCnt xs pos (shapeAt k).n (shapeAt k).ns = .error (er, fa))) : NGo xs k n 0 pos' er fa [] := by
  refine ⟨rfl, hz, ?_⟩
  unfold rest0 at hQ
  rcases h with ⟨he, h⟩ | ⟨he, _, h⟩
  · rw [h] at hQ
    exact .inl ⟨he, by rw [hQ, Nat.sub_zero]⟩
  · rw [h] at hQ
    exact .inr ⟨he, hQ⟩

theorem nGo_step {xs : List Int} {k : Int} {n kk pos : Nat} {er fa : Int} {ns : List Int} (h : NGo xs k n kk pos er fa ns) (hk : kk < n) {v : Int} {p' : Nat} {er' fa' : Int} (hs : stepInt xs pos er fa 0 2147483647 = (v, p', er', fa')) :
    NGo xs k n (kk + 1) p' er' fa' (ns ++ [v]) := by
  obtain ⟨hl, hz, h⟩ := h
  have hl' : (ns ++ [v]).length = kk + 1 := by simp [hl]
  unfold stepInt at hs
  rcases h with ⟨he, h⟩ | ⟨he, h⟩
  · rw [if_pos he] at hs
    rw [show n - kk = (n - (kk + 1)) + 1 by omega, rdInts] at h
    unfold intEnd at hs
    cases hb : bnd xs pos 0 2147483647 5 with
    | ok q =>
      obtain ⟨u, nx⟩ := q
      rw [hb] at h hs
      cases hs
      exact ⟨hl', fun _ => rfl, .inl ⟨rfl, h⟩⟩
    | error f =>
      obtain ⟨er2, fa2⟩ := f
      rw [hb] at h hs
      cases hs
      have hne := bnd_ne (by decide) hb
      exact ⟨hl', fun e => absurd e hne, .inr ⟨hne, h⟩⟩
  · rw [if_neg he] at hs
    cases hs
    exact ⟨hl', fun e => absurd e he, .inr ⟨he, h⟩⟩

/-- how far the IDs are read, in the note -/
def DGo (xs : List Int) (k : Int) (ns : List Int) (n kk pos : Nat) (er fa : Int) (ids : List (List Int)) : Prop :=
  ids.length = kk ∧ Ids ids ∧ (er = 0 → fa = 0) ∧ ((er = 0 ∧ rdNote xs = match rdIds xs (n - kk) pos ids with | .error f => .error f | .ok (ids, p4) => rest2 xs k ns ids p4) ∨ (er ≠ 0 ∧ rdNote xs = .error (er, fa)))

theorem dGo_start {xs : List Int} {k : Int} {ns : List Int} {pos : Nat} (hQ : rdNote xs = rest1 xs k ns pos) {n pos' : Nat} {er fa : Int} (hz : er = 0 → fa = 0)
    (h : (er = 0 ∧ rdCnt xs pos (shapeAt k).i (shapeAt k).is = .ok (n, pos')) ∨ (er ≠ 0 ∧ n = 0 ∧ rdCnt xs pos (shapeAt k).i (shapeAt k).is = .error (er, fa))) : DGo xs k ns n 0 pos' er fa [] := by
  refine ⟨rfl, (fun x hx => by cases hx), hz, ?_⟩
  unfold rest1 at hQ
  rcases h with ⟨he, h⟩ | ⟨he, _, h⟩
  · rw [h] at hQ
    exact .inl ⟨he, by rw [hQ, Nat.sub_zero]⟩
  · rw [h] at hQ
    exact .inr ⟨he, hQ⟩

theorem dGo_step {xs : List Int} (hx : Bys xs) {k : Int} {ns : List Int} {n kk pos : Nat} {er fa : Int} {ids : List (List Int)} (h : DGo xs k ns n kk pos er fa ids) (hk : kk < n) {x : List Int} {p' : Nat} {er' fa' : Int} (hs : stepId xs pos er fa = (x, p', er', fa')) :
    DGo xs k ns n (kk + 1) p' er' fa' (ids ++ [x]) := by
  obtain ⟨hl, hi, hz, h⟩ := h
  have hl' : (ids ++ [x]).length = kk + 1 := by simp [hl]
  have hi' : x.length = 16 ∧ Bys x → Ids (ids ++ [x]) := fun hq y hy => by
    rcases List.mem_append.1 hy with hy | hy
    · exact hi y hy
    · rw [List.mem_singleton] at hy; rw [hy]; exact hq
  unfold stepId at hs
  rcases h with ⟨he, h⟩ | ⟨he, h⟩
  · rw [if_pos he] at hs
    rw [show n - kk = (n - (kk + 1)) + 1 by omega, rdIds] at h
    by_cases hle : pos + 16 ≤ xs.length
    · rw [if_pos hle] at h hs
      cases hs
      exact ⟨hl', hi' ⟨by simp; omega, (hx.drop _).take _⟩, fun _ => rfl, .inl ⟨rfl, h⟩⟩
    · rw [if_neg hle] at h hs
      cases hs
      exact ⟨hl', hi' ⟨rfl, z16_bys⟩, (fun e => by cases e), .inr ⟨by decide, h⟩⟩
  · rw [if_neg he] at hs
    cases hs
    exact ⟨hl', hi' ⟨rfl, z16_bys⟩, fun e => absurd e he, .inr ⟨he, h⟩⟩

/-- the fault of too few, where it lies -/
structure Few (w : World) (p10 m : Nat) (x y : Int) (aN aI aB : Option Addr) : Prop where
  row : w.heap[p10]? = some (.cells #[.int .i64 x, .int .i64 y] 51 (0, 0))
  ge : m ≤ p10
  nN : blk aN ≠ some p10
  nI : blk aI ≠ some p10
  nB : blk aB ≠ some p10

section
variable {w0 w : World} {b p5 sb so p7 m p10 : Nat} {a : Option Addr} {cap : Nat} {xs : List Int} {S : Shape} {k : Int} {pos : Nat} {er fa f1 f2 x y : Int}
    {aN : Option Addr} {cN : Nat} {ns : List Int} {aI : Option Addr} {cI : Nat} {ids : List (List Int)} {aB : Option Addr} {cB : Nat} {bs : List Int}

theorem Few.new (h : RN w0 w b p5 sb so p7 m a cap xs S k pos er fa f1 f2 aN cN ns aI cI ids aB cB bs) (x y : Int) : Few (w.alloc (.cells #[.int .i64 x, .int .i64 y] 51)) w.heap.size m x y aN aI aB :=
  ⟨heap_alloc_new w _, h.size, fun e => by have := ownsRow_blk h.oN _ e; omega, fun e => by have := ownsRow_blk h.oI _ e; omega, fun e => by have := h.oB.blk_lt _ e; omega⟩

theorem Few.keep (h : Few w p10 m x y aN aI aB) {w' : World} (hk : w'.heap[p10]? = w.heap[p10]?) : Few w' p10 m x y aN aI aB := ⟨hk.trans h.row, h.ge, h.nN, h.nI, h.nB⟩

theorem Few.read (h : Few w p10 m x y aN aI aB) {w' : World} (hF : RFix w0 b p5 sb p7 m a) (hm : Moved b none none w w') : Few w' p10 m x y aN aI aB :=
  h.keep (hm.block _ (lt_of_row h.row) (by have := h.ge; have := hF.p5_; have := hF.sb_; have := hF.p7_; have := hF.m_; omega) (by simp))

theorem Few.set (h : Few w p10 m x y aN aI aB) (q i : Nat) (v : Value) (hq : q < m) : Few (w.setCell ⟨q, i, none⟩ v) p10 m x y aN aI aB :=
  h.keep (heap_setCell_other _ _ _ _ (by have := h.ge; simp only; omega))

theorem Few.own (h : Few w p10 m x y aN aI aB) (v u : Int) : Few ((w.setCell ⟨p10, 0, none⟩ (.int .i64 v)).setCell ⟨p10, 1, none⟩ (.int .i64 u)) p10 m v u aN aI aB := ⟨row_set2 h.row _ _, h.ge, h.nN, h.nI, h.nB⟩

theorem Few.pushN (h : Few w p10 m x y aN aI aB) {w1 : World} {a' : Option Addr} (hg : w.grownBy w1 (blk aN)) (hat : blk a' = blk aN ∨ blk a' = some w.heap.size) : Few w1 p10 m x y a' aI aB :=
  ⟨(hg.block _ (lt_of_row h.row) (fun e => h.nN e.symm)).trans h.row, h.ge, fun e => by
    rcases hat with q | q
    · exact h.nN (by rw [← q]; exact e)
    · rw [q] at e; have := lt_of_row h.row; have := Option.some.inj e; omega, h.nI, h.nB⟩
theorem Few.pushI (h : Few w p10 m x y aN aI aB) {w1 : World} {a' : Option Addr} (hg : w.grownBy w1 (blk aI)) (hat : blk a' = blk aI ∨ blk a' = some w.heap.size) : Few w1 p10 m x y aN a' aB :=
  ⟨(hg.block _ (lt_of_row h.row) (fun e => h.nI e.symm)).trans h.row, h.ge, h.nN, fun e => by
    rcases hat with q | q
    · exact h.nI (by rw [← q]; exact e)
    · rw [q] at e; have := lt_of_row h.row; have := Option.some.inj e; omega, h.nB⟩

/-- the fault of too few is set: nothing else is felt -/
theorem RN.set10 (h : RN w0 w b p5 sb so p7 m a cap xs S k pos er fa f1 f2 aN cN ns aI cI ids aB cB bs) (hF : RFix w0 b p5 sb p7 m a) (hw : Few w p10 m x y aN aI aB) (v u : Value) :
    RN w0 ((w.setCell ⟨p10, 0, none⟩ v).setCell ⟨p10, 1, none⟩ u) b p5 sb so p7 m a cap xs S k pos er fa f1 f2 aN cN ns aI cI ids aB cB bs := by
  obtain ⟨h1, h2, h3, h4, h5, h6⟩ := hF
  have hge := hw.ge
  have hk : ∀ p, p ≠ p10 → ((w.setCell ⟨p10, 0, none⟩ v).setCell ⟨p10, 1, none⟩ u).heap[p]? = w.heap[p]? := fun p hp => by rw [heap_setCell_other _ _ _ _ hp, heap_setCell_other _ _ _ _ hp]
  have hf : blk a ≠ some p10 := fun e => by have := h6 _ e; omega
  exact ⟨(h.rat.setNew _ _ _ (by omega) hf).setNew _ _ _ (by omega) hf, (h.bel.setCell (p := ⟨p10, 0, none⟩) (by simp only; omega) _).setCell (p := ⟨p10, 1, none⟩) (by simp only; omega) _, by have := h.size; simp [World.setCell]; omega,
    (hk _ (by omega)).trans h.r2, (hk _ (by omega)).trans h.r3, (hk _ (by omega)).trans h.r5, (hk _ (by omega)).trans h.r7, h.shp.of_block (hk _ (by omega)),
    ownsRow_of_block h.oN fun p hp hl => hk p (fun e => hw.nN (by rw [← e]; exact hp)), ownsRow_of_block h.oI fun p hp hl => hk p (fun e => hw.nI (by rw [← e]; exact hp)), h.oB.of_block fun p hp hl => hk p (fun e => hw.nB (by rw [← e]; exact hp)), h.gN, h.gI, h.gB, h.dNI, h.dNB, h.dIB⟩

theorem RN.cells (h : RN w0 w b p5 sb so p7 m a cap xs S k pos er fa f1 f2 aN cN ns aI cI ids aB cB bs) :
    w.cell? ⟨p5, 0, none⟩ = some (.int .i64 k) ∧ w.cell? ⟨p5, 1, none⟩ = some (.slice aN ns.length cN) ∧ w.cell? ⟨p5, 2, none⟩ = some (.slice aI ids.length cI) ∧ w.cell? ⟨p5, 3, none⟩ = some (.slice aB bs.length cB) ∧
    w.cell? ⟨p7, 0, none⟩ = some (.int .i64 f1) ∧ w.cell? ⟨p7, 1, none⟩ = some (.int .i64 f2) :=
  ⟨by rw [cell_of_row _ _ _ _ _ _ h.r5]; rfl, by rw [cell_of_row _ _ _ _ _ _ h.r5]; rfl, by rw [cell_of_row _ _ _ _ _ _ h.r5]; rfl, by rw [cell_of_row _ _ _ _ _ _ h.r5]; rfl, by rw [cell_of_row _ _ _ _ _ _ h.r7]; rfl, by rw [cell_of_row _ _ _ _ _ _ h.r7]; rfl⟩
theorem RN.free (h : RN w0 w b p5 sb so p7 m a cap xs S k pos er fa f1 f2 aN cN ns aI cI ids aB cB bs) :
    (∀ i, w.frozen? ⟨p5, i, none⟩ = false) ∧ (∀ i, w.frozen? ⟨p7, i, none⟩ = false) ∧ (∀ i, w.frozen? ⟨w0.heap.size, i, none⟩ = false) ∧ (∀ i, w.frozen? ⟨w0.heap.size + 1, i, none⟩ = false) :=
  ⟨fun _ => frozen_of_row _ _ _ _ _ h.r5, fun _ => frozen_of_row _ _ _ _ _ h.r7, fun _ => frozen_of_row _ _ _ _ _ h.r2, fun _ => frozen_of_row _ _ _ _ _ h.r3⟩
theorem Few.cells (h : Few w p10 m x y aN aI aB) : w.cell? ⟨p10, 0, none⟩ = some (.int .i64 x) ∧ w.cell? ⟨p10, 1, none⟩ = some (.int .i64 y) ∧ (∀ i, w.frozen? ⟨p10, i, none⟩ = false) :=
  ⟨by rw [cell_of_row _ _ _ _ _ _ h.row]; rfl, by rw [cell_of_row _ _ _ _ _ _ h.row]; rfl, fun _ => frozen_of_row _ _ _ _ _ h.row⟩
theorem RN.results (h : RN w0 w b p5 sb so p7 m a cap xs S k pos er fa f1 f2 aN cN ns aI cI ids aB cB bs) :
    w.cell? ⟨w0.heap.size, 0, none⟩ = some (.int .i64 0) ∧ w.cell? ⟨w0.heap.size, 1, none⟩ = some (.slice none 0 0) ∧ w.cell? ⟨w0.heap.size, 2, none⟩ = some (.slice none 0 0) ∧ w.cell? ⟨w0.heap.size, 3, none⟩ = some (.slice none 0 0) ∧
    w.cell? ⟨w0.heap.size + 1, 0, none⟩ = some (.int .i64 0) ∧ w.cell? ⟨w0.heap.size + 1, 1, none⟩ = some (.int .i64 0) :=
  ⟨by rw [cell_of_row _ _ _ _ _ _ h.r2]; rfl, by rw [cell_of_row _ _ _ _ _ _ h.r2]; rfl, by rw [cell_of_row _ _ _ _ _ _ h.r2]; rfl, by rw [cell_of_row _ _ _ _ _ _ h.r2]; rfl, by rw [cell_of_row _ _ _ _ _ _ h.r3]; rfl, by rw [cell_of_row _ _ _ _ _ _ h.r3]; rfl⟩
end

end Go.Proofs.Ytkfhljggdcajpaa
