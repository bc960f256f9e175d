/-
  What is read is written as it was: in plain Lean.
-/
import Derived.Test.YtkfhljggdcajpaaNpl
namespace Go.Proofs.Ytkfhljggdcajpaa
open Go.RowKit Go.Sort

theorem drop_get {xs : List Int} {pos : Nat} (h : ¬ xs.length ≤ pos) : xs.drop pos = xs.getD pos 0 :: xs.drop (pos + 1) := by
  have hp : pos < xs.length := by omega
  rw [List.drop_eq_getElem_cons hp]
  have : xs.getD pos 0 = xs[pos] := by simp [List.getD, hp]
  rw [this]

theorem put_1 {v : Int} (h0 : 0 ≤ v) (h : v < 128) : put v = [v % 128] := by unfold put; rw [if_neg (by omega), if_pos h]
theorem put_2 {v : Int} (h0 : 128 ≤ v) (h : v < 16384) : put v = [v / 128 % 128 + 128, v % 128] := by unfold put; rw [if_neg (by omega), if_neg (by omega), if_pos h]
theorem put_3 {v : Int} (h0 : 16384 ≤ v) (h : v < 2097152) : put v = [v / 16384 % 128 + 128, v / 128 % 128 + 128, v % 128] := by unfold put; rw [if_neg (by omega), if_neg (by omega), if_neg (by omega), if_pos h]
theorem put_4 {v : Int} (h0 : 2097152 ≤ v) (h : v < 268435456) : put v = [v / 2097152 % 128 + 128, v / 16384 % 128 + 128, v / 128 % 128 + 128, v % 128] := by unfold put; rw [if_neg (by omega), if_neg (by omega), if_neg (by omega), if_neg (by omega), if_pos h]
theorem put_5 {v : Int} (h0 : 268435456 ≤ v) (h : v ≤ 2147483647) : put v = [v / 268435456 % 128 + 128, v / 2097152 % 128 + 128, v / 16384 % 128 + 128, v / 128 % 128 + 128, v % 128] := by unfold put; rw [if_neg (by omega), if_neg (by omega), if_neg (by omega), if_neg (by omega), if_neg (by omega)]

/-- what a number that was read is -/
structure Back (xs : List Int) (pos : Nat) (v : Int) (nx : Nat) : Prop where
  lo : 0 ≤ v
  hi : v ≤ 2147483647
  le : nx ≤ xs.length
  nx_ : nx = pos + (put v).length
  eq : xs.drop pos = put v ++ xs.drop nx

theorem rdGo_succ (xs : List Int) (st k pos : Nat) (n : Int) : rdGo xs st (k + 1) pos n = if xs.length ≤ pos then .error (4, xs.length) else if 128 ≤ xs.getD pos 0 then rdGo xs st k (pos + 1) (n * 128 + xs.getD pos 0 % 128) else if 2147483647 < n * 128 + xs.getD pos 0 % 128 then .error (5, st) else .ok (n * 128 + xs.getD pos 0 % 128, pos + 1) := rfl

theorem rd_back {xs : List Int} (hx : Bys xs) {pos : Nat} {v : Int} {nx : Nat} (h : rd xs pos = .ok (v, nx)) : Back xs pos v nx := by
  have g0 := hx.get pos
  have g1 := hx.get (pos + 1)
  have g2 := hx.get (pos + 1 + 1)
  have g3 := hx.get (pos + 1 + 1 + 1)
  have g4 := hx.get (pos + 1 + 1 + 1 + 1)
  unfold rd at h
  split at h
  · cases h
  rename_i hne
  rw [rdGo_succ] at h
  split at h
  · cases h
  rename_i l0
  have e0 := drop_get l0
  have hne' : xs.getD pos 0 ≠ 128 := fun e => hne ⟨by omega, e⟩
  generalize xs.getD pos 0 = c0 at *
  split at h
  case isFalse =>
    split at h
    · cases h
    rename_i k0 k1
    simp only [Except.ok.injEq, Prod.mk.injEq] at h
    obtain ⟨rfl, rfl⟩ := h
    have hp := put_1 (v := 0 * 128 + c0 % 128) (by omega) (by omega)
    refine ⟨by omega, by omega, by omega, by rw [hp]; rfl, ?_⟩
    rw [hp, e0, show (0 * 128 + c0 % 128) % 128 = c0 by omega]; rfl
  rename_i k0
  rw [rdGo_succ] at h
  split at h
  · cases h
  rename_i l1
  rw [drop_get l1] at e0
  generalize xs.getD (pos + 1) 0 = c1 at *
  split at h
  case isFalse =>
    split at h
    · cases h
    rename_i k1 k2
    simp only [Except.ok.injEq, Prod.mk.injEq] at h
    obtain ⟨rfl, rfl⟩ := h
    have hp := put_2 (v := (0 * 128 + c0 % 128) * 128 + c1 % 128) (by omega) (by omega)
    refine ⟨by omega, by omega, by omega, by rw [hp]; rfl, ?_⟩
    rw [hp, e0, show ((0 * 128 + c0 % 128) * 128 + c1 % 128) / 128 % 128 + 128 = c0 by omega, show ((0 * 128 + c0 % 128) * 128 + c1 % 128) % 128 = c1 by omega]; rfl
  rename_i k1
  rw [rdGo_succ] at h
  split at h
  · cases h
  rename_i l2
  rw [drop_get l2] at e0
  generalize xs.getD (pos + 1 + 1) 0 = c2 at *
  split at h
  case isFalse =>
    split at h
    · cases h
    rename_i k2 k3
    simp only [Except.ok.injEq, Prod.mk.injEq] at h
    obtain ⟨rfl, rfl⟩ := h
    have hp := put_3 (v := ((0 * 128 + c0 % 128) * 128 + c1 % 128) * 128 + c2 % 128) (by omega) (by omega)
    refine ⟨by omega, by omega, by omega, by rw [hp]; rfl, ?_⟩
    rw [hp, e0, show (((0 * 128 + c0 % 128) * 128 + c1 % 128) * 128 + c2 % 128) / 16384 % 128 + 128 = c0 by omega, show (((0 * 128 + c0 % 128) * 128 + c1 % 128) * 128 + c2 % 128) / 128 % 128 + 128 = c1 by omega,
      show (((0 * 128 + c0 % 128) * 128 + c1 % 128) * 128 + c2 % 128) % 128 = c2 by omega]; rfl
  rename_i k2
  rw [rdGo_succ] at h
  split at h
  · cases h
  rename_i l3
  rw [drop_get l3] at e0
  generalize xs.getD (pos + 1 + 1 + 1) 0 = c3 at *
  split at h
  case isFalse =>
    split at h
    · cases h
    rename_i k3 k4
    simp only [Except.ok.injEq, Prod.mk.injEq] at h
    obtain ⟨rfl, rfl⟩ := h
    have hp := put_4 (v := (((0 * 128 + c0 % 128) * 128 + c1 % 128) * 128 + c2 % 128) * 128 + c3 % 128) (by omega) (by omega)
    refine ⟨by omega, by omega, by omega, by rw [hp]; rfl, ?_⟩
    rw [hp, e0, show ((((0 * 128 + c0 % 128) * 128 + c1 % 128) * 128 + c2 % 128) * 128 + c3 % 128) / 2097152 % 128 + 128 = c0 by omega, show ((((0 * 128 + c0 % 128) * 128 + c1 % 128) * 128 + c2 % 128) * 128 + c3 % 128) / 16384 % 128 + 128 = c1 by omega,
      show ((((0 * 128 + c0 % 128) * 128 + c1 % 128) * 128 + c2 % 128) * 128 + c3 % 128) / 128 % 128 + 128 = c2 by omega, show ((((0 * 128 + c0 % 128) * 128 + c1 % 128) * 128 + c2 % 128) * 128 + c3 % 128) % 128 = c3 by omega]; rfl
  rename_i k3
  rw [rdGo_succ] at h
  split at h
  · cases h
  rename_i l4
  rw [drop_get l4] at e0
  generalize xs.getD (pos + 1 + 1 + 1 + 1) 0 = c4 at *
  split at h
  · simp [rdGo] at h
  split at h
  · cases h
  rename_i k4 k5
  simp only [Except.ok.injEq, Prod.mk.injEq] at h
  obtain ⟨rfl, rfl⟩ := h
  have hp := put_5 (v := ((((0 * 128 + c0 % 128) * 128 + c1 % 128) * 128 + c2 % 128) * 128 + c3 % 128) * 128 + c4 % 128) (by omega) (by omega)
  refine ⟨by omega, by omega, by omega, by rw [hp]; rfl, ?_⟩
  rw [hp, e0, show (((((0 * 128 + c0 % 128) * 128 + c1 % 128) * 128 + c2 % 128) * 128 + c3 % 128) * 128 + c4 % 128) / 268435456 % 128 + 128 = c0 by omega, show (((((0 * 128 + c0 % 128) * 128 + c1 % 128) * 128 + c2 % 128) * 128 + c3 % 128) * 128 + c4 % 128) / 2097152 % 128 + 128 = c1 by omega,
    show (((((0 * 128 + c0 % 128) * 128 + c1 % 128) * 128 + c2 % 128) * 128 + c3 % 128) * 128 + c4 % 128) / 16384 % 128 + 128 = c2 by omega, show (((((0 * 128 + c0 % 128) * 128 + c1 % 128) * 128 + c2 % 128) * 128 + c3 % 128) * 128 + c4 % 128) / 128 % 128 + 128 = c3 by omega,
    show (((((0 * 128 + c0 % 128) * 128 + c1 % 128) * 128 + c2 % 128) * 128 + c3 % 128) * 128 + c4 % 128) % 128 = c4 by omega]; rfl

theorem bnd_back {xs : List Int} (hx : Bys xs) {pos : Nat} {lo hi above v : Int} {nx : Nat} (h : bnd xs pos lo hi above = .ok (v, nx)) : Back xs pos v nx := by
  unfold bnd at h
  split at h
  · cases h
  · rename_i v' nx' hr
    split at h
    · cases h
    · split at h
      · cases h
      · cases h; exact rd_back hx hr

theorem cnt_back {xs : List Int} (hx : Bys xs) {pos lo hi n nx : Nat} (h : rdCnt xs pos lo hi = .ok (n, nx)) : Back xs pos n nx ∧ lo ≤ n ∧ n ≤ hi := by
  unfold rdCnt at h
  split at h
  · cases h
  · rename_i v nx' hb
    have h1 := bnd_in hb
    split at h
    · cases h
    · simp only [Except.ok.injEq, Prod.mk.injEq] at h
      obtain ⟨rfl, rfl⟩ := h
      have := bnd_back hx hb
      have e : ((v.toNat : Nat) : Int) = v := by omega
      exact ⟨by rw [e]; exact this, by omega, by omega⟩

theorem ints_back {xs : List Int} (hx : Bys xs) : ∀ (n pos : Nat) (acc : List Int) (ns : List Int) (p2 : Nat), pos ≤ xs.length → rdInts xs n pos acc = .ok (ns, p2) → ∃ ms, ns = acc ++ ms ∧ ms.length = n ∧ AllIn ms ∧ p2 ≤ xs.length ∧ xs.drop pos = ms.flatMap put ++ xs.drop p2 := by
  intro n
  induction n with
  | zero =>
    intro pos acc ns p2 hp h
    simp only [rdInts, Except.ok.injEq, Prod.mk.injEq] at h
    obtain ⟨rfl, rfl⟩ := h
    exact ⟨[], by simp, rfl, (fun x hx => by cases hx), hp, by simp⟩
  | succ n ih =>
    intro pos acc ns p2 hp h
    rw [rdInts] at h
    split at h
    · cases h
    · rename_i v nx hb
      have hB := bnd_back hx hb
      obtain ⟨ms, h1, h2, h3, h4, h5⟩ := ih nx (acc ++ [v]) ns p2 hB.le h
      refine ⟨v :: ms, by rw [h1]; simp, by simp [h2], fun m hm => ?_, h4, ?_⟩
      · rcases List.mem_cons.1 hm with rfl | hm
        · exact ⟨hB.lo, hB.hi⟩
        · exact h3 m hm
      · rw [hB.eq, h5, List.flatMap_cons, List.append_assoc]

theorem ids_back {xs : List Int} (hx : Bys xs) : ∀ (n pos : Nat) (acc : List (List Int)) (ids : List (List Int)) (p2 : Nat), pos ≤ xs.length → rdIds xs n pos acc = .ok (ids, p2) → ∃ ms, ids = acc ++ ms ∧ ms.length = n ∧ Ids ms ∧ p2 ≤ xs.length ∧ xs.drop pos = ms.flatten ++ xs.drop p2 := by
  intro n
  induction n with
  | zero =>
    intro pos acc ns p2 hp h
    simp only [rdIds, Except.ok.injEq, Prod.mk.injEq] at h
    obtain ⟨rfl, rfl⟩ := h
    exact ⟨[], by simp, rfl, (fun x hx => by cases hx), hp, by simp⟩
  | succ n ih =>
    intro pos acc ids p2 hp h
    rw [rdIds] at h
    split at h
    · rename_i hle
      obtain ⟨ms, h1, h2, h3, h4, h5⟩ := ih (pos + 16) _ ids p2 (by omega) h
      refine ⟨(xs.drop pos).take 16 :: ms, by rw [h1]; simp, by simp [h2], fun m hm => ?_, h4, ?_⟩
      · rcases List.mem_cons.1 hm with rfl | hm
        · exact ⟨by simp; omega, (hx.drop _).take _⟩
        · exact h3 m hm
      · rw [List.flatten_cons, List.append_assoc, ← h5, ← List.drop_drop, List.take_append_drop]
    · cases h

theorem b_back {xs : List Int} (hx : Bys xs) {pos least most : Nat} {bs : List Int} {nx : Nat} (h : rdB xs pos least most = .ok (bs, nx)) : least ≤ bs.length ∧ bs.length ≤ most ∧ nx ≤ xs.length ∧ Bys bs ∧ xs.drop pos = put bs.length ++ bs ++ xs.drop nx := by
  unfold rdB at h
  split at h
  · cases h
  · rename_i bs' nx' hb
    split at h
    · cases h
    · cases h
      obtain ⟨n, m, h1, h2, h3, h4⟩ := rdBytes_ok hb
      have hB := bnd_back hx h1
      have hi := bnd_in h1
      have hml := hB.le
      have hl : bs.length = n := by rw [h3]; simp; omega
      refine ⟨by omega, by omega, by omega, by rw [h3]; exact (hx.drop _).take _, ?_⟩
      rw [hB.eq, hl, List.append_assoc, h4, ← List.drop_drop, h3, List.take_append_drop]

/-- what is read may be, and is written as it was read -/
theorem note_back {xs : List Int} (hx : Bys xs) {y : Note} (h : rdNote xs = .ok y) : y.err = 0 ∧ noteBytes y = xs ∧ Ids y.ids ∧ Bys y.bs := by
  unfold rdNote at h
  split at h
  · cases h
  rename_i k p0 hk
  split at h
  · cases h
  rename_i n p1 hn
  split at h
  · cases h
  rename_i ns p2 hns
  split at h
  · cases h
  rename_i m p3 hm
  split at h
  · cases h
  rename_i ids p4 hids
  split at h
  · cases h
  rename_i bs p5 hbs
  split at h
  · cases h
  rename_i hp
  cases h
  have hB := bnd_back hx hk
  have hki := bnd_in hk
  obtain ⟨c1, c2, c3⟩ := cnt_back hx hn
  obtain ⟨ms, e1, l1, a1, q1, d1⟩ := ints_back hx n p1 [] ns p2 c1.le hns
  obtain ⟨c4, c5, c6⟩ := cnt_back hx hm
  obtain ⟨js, e2, l2, a2, q2, d2⟩ := ids_back hx m p3 [] ids p4 c4.le hids
  obtain ⟨b1, b2, b3, b4, d3⟩ := b_back hx hbs
  rw [List.nil_append] at e1 e2
  subst e1 e2
  refine ⟨(fine_iff _).2 ⟨hki, ?_, ?_, ⟨b1, b2⟩, a1⟩, ?_, a2, b4⟩
  · simp only; omega
  · simp only; omega
  · have e0 := hB.eq
    rw [List.drop_zero] at e0
    have hend : xs.drop p5 = [] := List.drop_eq_nil_of_le (by omega)
    rw [e0, c1.eq, d1, c4.eq, d2, d3, hend, List.append_nil]
    unfold noteBytes
    simp only [List.append_assoc, l1, l2]

/-- a fault lies in the bytes, or at their end -/
def FaultIn (n : Nat) (fa : Int) : Prop := 0 ≤ fa ∧ fa ≤ n

theorem rd_fault {xs : List Int} {pos : Nat} (hp : pos ≤ xs.length) {er fa : Int} (h : rd xs pos = .error (er, fa)) : FaultIn xs.length fa := by
  have hgo : ∀ (k q : Nat) (n : Int), rdGo xs pos k q n = .error (er, fa) → FaultIn xs.length fa := by
    intro k
    induction k with
    | zero => intro q n h; simp [rdGo] at h; unfold FaultIn; omega
    | succ k ih =>
      intro q n h
      rw [rdGo_succ] at h
      split at h
      · cases h; unfold FaultIn; omega
      · split at h
        · exact ih _ _ h
        · split at h
          · cases h; unfold FaultIn; omega
          · cases h
  unfold rd at h
  split at h
  · cases h; unfold FaultIn; omega
  · exact hgo _ _ _ h

theorem bnd_fault {xs : List Int} {pos : Nat} (hp : pos ≤ xs.length) {lo hi above er fa : Int} (h : bnd xs pos lo hi above = .error (er, fa)) : FaultIn xs.length fa := by
  unfold bnd at h
  split at h
  · rename_i f hf; cases h; exact rd_fault hp hf
  · split at h
    · cases h; unfold FaultIn; omega
    · split at h
      · cases h; unfold FaultIn; omega
      · cases h

theorem cnt_fault {xs : List Int} {pos : Nat} (hp : pos ≤ xs.length) {lo hi : Nat} {er fa : Int} (h : rdCnt xs pos lo hi = .error (er, fa)) : FaultIn xs.length fa := by
  unfold rdCnt at h
  split at h
  · rename_i f hf; cases h; exact bnd_fault hp hf
  · split at h
    · cases h; unfold FaultIn; omega
    · cases h

theorem ints_fault {xs : List Int} (hx : Bys xs) {er fa : Int} : ∀ (n pos : Nat) (acc : List Int), pos ≤ xs.length → rdInts xs n pos acc = .error (er, fa) → FaultIn xs.length fa := by
  intro n
  induction n with
  | zero => intro pos acc _ h; cases h
  | succ n ih =>
    intro pos acc hp h
    rw [rdInts] at h
    split at h
    · rename_i f hf; cases h; exact bnd_fault hp hf
    · rename_i v nx hb; exact ih _ _ (bnd_back hx hb).le h

theorem ids_fault {xs : List Int} {er fa : Int} : ∀ (n pos : Nat) (acc : List (List Int)), rdIds xs n pos acc = .error (er, fa) → FaultIn xs.length fa := by
  intro n
  induction n with
  | zero => intro pos acc h; cases h
  | succ n ih =>
    intro pos acc h
    rw [rdIds] at h
    split at h
    · exact ih _ _ h
    · cases h; unfold FaultIn; omega

theorem b_fault {xs : List Int} {pos : Nat} (hp : pos ≤ xs.length) {least most : Nat} {er fa : Int} (h : rdB xs pos least most = .error (er, fa)) : FaultIn xs.length fa := by
  unfold rdB at h
  split at h
  · rename_i f hf
    cases h
    unfold rdBytes at hf
    split at hf
    · rename_i f2 hf2; cases hf; exact bnd_fault hp hf2
    · split at hf
      · cases hf; unfold FaultIn; omega
      · cases hf
  · split at h
    · cases h; unfold FaultIn; omega
    · cases h

theorem cnt_ne {xs : List Int} {pos lo hi : Nat} {er fa : Int} (h : rdCnt xs pos lo hi = .error (er, fa)) : er ≠ 0 := by
  unfold rdCnt at h
  split at h
  · rename_i f hf; cases h; exact bnd_ne (by decide) hf
  · split at h
    · cases h; decide
    · cases h
theorem ints_ne {xs : List Int} {er fa : Int} : ∀ {n pos : Nat} {acc : List Int}, rdInts xs n pos acc = .error (er, fa) → er ≠ 0 := by
  intro n
  induction n with
  | zero => intro pos acc h; cases h
  | succ n ih =>
    intro pos acc h
    rw [rdInts] at h
    split at h
    · rename_i f hf; cases h; exact bnd_ne (by decide) hf
    · exact ih h
theorem ids_ne {xs : List Int} {er fa : Int} : ∀ {n pos : Nat} {acc : List (List Int)}, rdIds xs n pos acc = .error (er, fa) → er ≠ 0 := by
  intro n
  induction n with
  | zero => intro pos acc h; cases h
  | succ n ih =>
    intro pos acc h
    rw [rdIds] at h
    split at h
    · exact ih h
    · cases h; decide
theorem b_ne {xs : List Int} {pos least most : Nat} {er fa : Int} (h : rdB xs pos least most = .error (er, fa)) : er ≠ 0 := by
  unfold rdB at h
  split at h
  · rename_i f hf; cases h; exact rdBytes_ne hf
  · split at h
    · cases h; decide
    · cases h
theorem note_fault {xs : List Int} (hx : Bys xs) {er fa : Int} (h : rdNote xs = .error (er, fa)) : FaultIn xs.length fa ∧ er ≠ 0 := by
  unfold rdNote at h
  split at h
  · rename_i f hf; cases h; exact ⟨bnd_fault (Nat.zero_le _) hf, bnd_ne (by decide) hf⟩
  rename_i k p0 hk
  have h0 := (bnd_back hx hk).le
  split at h
  · rename_i f hf; cases h; exact ⟨cnt_fault h0 hf, cnt_ne hf⟩
  rename_i n p1 hn
  have h1 := (cnt_back hx hn).1.le
  split at h
  · rename_i f hf; cases h; exact ⟨ints_fault hx _ _ _ h1 hf, ints_ne hf⟩
  rename_i ns p2 hns
  have h2 := (ints_back hx _ _ _ _ _ h1 hns).choose_spec.2.2.2.1
  split at h
  · rename_i f hf; cases h; exact ⟨cnt_fault h2 hf, cnt_ne hf⟩
  rename_i m p3 hm
  have h3 := (cnt_back hx hm).1.le
  split at h
  · rename_i f hf; cases h; exact ⟨ids_fault _ _ _ hf, ids_ne hf⟩
  rename_i ids p4 hids
  have h4 := (ids_back hx _ _ _ _ _ h3 hids).choose_spec.2.2.2.1
  split at h
  · rename_i f hf; cases h; exact ⟨b_fault h4 hf, b_ne hf⟩
  rename_i bs p5 hbs
  have h5 := (b_back hx hbs).2.2.1
  split at h
  · cases h; unfold FaultIn; exact ⟨by omega, by decide⟩
  · cases h

theorem flat_len (ns : List Int) : (ns.flatMap put).length ≤ 5 * ns.length := by
  induction ns with
  | nil => simp
  | cons n ns ih => rw [List.flatMap_cons, List.length_append, List.length_cons]; have := put_le5 n; omega
theorem ids_len (ids : List (List Int)) (h : Ids ids) : ids.flatten.length = 16 * ids.length := by
  induction ids with
  | nil => rfl
  | cons x ids ih => rw [List.flatten_cons, List.length_append, List.length_cons, (h x (by simp)).1, ih (fun y hy => h y (by simp [hy]))]; omega
theorem noteBytes_len (x : Note) (h : x.err = 0) (hi : Ids x.ids) : (noteBytes x).length ≤ 2 ^ 38 := by
  obtain ⟨hk, hn, hid, hb, _⟩ := (fine_iff x).1 h
  have hcap := shape_caps x.kind
  have h1 := put_le5 x.kind
  have h2 := put_le5 x.ns.length
  have h3 := put_le5 x.ids.length
  have h4 := put_le5 x.bs.length
  have h5 := flat_len x.ns
  have h6 := ids_len x.ids hi
  unfold noteBytes
  simp only [List.length_append]
  omega

end Go.Proofs.Ytkfhljggdcajpaa
