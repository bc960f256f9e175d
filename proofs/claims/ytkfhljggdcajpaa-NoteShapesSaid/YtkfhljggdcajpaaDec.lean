/-
  What is read of numbers as bytes: the number back, and the fault of one that is cut short.
-/
import Derived.Test.YtkfhljggdcajpaaRdSome
namespace Go.Proofs.Ytkfhljggdcajpaa

theorem drop_cons {xs t : List Int} {c : Int} {pos : Nat} (h : xs.drop pos = c :: t) : xs.getD pos 0 = c ∧ ¬ xs.length ≤ pos ∧ xs.drop (pos + 1) = t := by
  have hlt : pos < xs.length := by
    rcases Nat.lt_or_ge pos xs.length with k | k
    · exact k
    · rw [List.drop_eq_nil_of_le k] at h; cases h
  rw [List.drop_eq_getElem_cons hlt] at h
  simp only [List.cons.injEq] at h
  exact ⟨by simp [List.getD, hlt, h.1], by omega, h.2⟩

theorem rdGo_cons {xs t : List Int} {c : Int} {pos : Nat} (h : xs.drop pos = c :: t) (st k : Nat) (n : Int) :
    rdGo xs st (k + 1) pos n = if 128 ≤ c then rdGo xs st k (pos + 1) (n * 128 + c % 128) else if 2147483647 < n * 128 + c % 128 then .error (5, st) else .ok (n * 128 + c % 128, pos + 1) := by
  obtain ⟨h1, h2, _⟩ := drop_cons h
  rw [rdGo, if_neg h2, h1]

theorem rdGo_nil {xs : List Int} {pos : Nat} (h : xs.drop pos = []) (st k : Nat) (n : Int) : rdGo xs st (k + 1) pos n = .error (4, xs.length) := by
  have := List.drop_eq_nil_iff.1 h
  rw [rdGo, if_pos this]

theorem rd_go {xs : List Int} {at0 : Nat} (h : ∀ t, xs.drop at0 ≠ 128 :: t) : rd xs at0 = rdGo xs at0 5 at0 0 := by
  rw [rd, if_neg]
  rintro ⟨h1, h2⟩
  refine h (xs.drop (at0 + 1)) ?_
  rw [List.drop_eq_getElem_cons h1]
  congr 1
  simpa [List.getD, h1] using h2

/-- one part of a number, and what follows -/
theorem go_part {xs t : List Int} {q : Int} {pos : Nat} (h : xs.drop pos = (q % 128 + 128) :: t) (st k : Nat) (n : Int) : rdGo xs st (k + 1) pos n = rdGo xs st k (pos + 1) (n * 128 + q % 128) ∧ xs.drop (pos + 1) = t := by
  refine ⟨?_, (drop_cons h).2.2⟩
  rw [rdGo_cons h, if_pos (by omega), show (q % 128 + 128) % 128 = q % 128 by omega]

theorem go_last {xs t : List Int} {q : Int} {pos : Nat} (h : xs.drop pos = (q % 128) :: t) (st k : Nat) (n : Int) (hb : n * 128 + q % 128 ≤ 2147483647) : rdGo xs st (k + 1) pos n = .ok (n * 128 + q % 128, pos + 1) := by
  rw [rdGo_cons h, if_neg (by omega), show q % 128 % 128 = q % 128 by omega, if_neg (by omega)]

/-- what is written is read as it was, wherever it stands -/
theorem rd_put (xs rest : List Int) (at0 : Nat) (n : Int) (h0 : 0 ≤ n) (h1 : n ≤ 2147483647) (h : xs.drop at0 = put n ++ rest) : rd xs at0 = .ok (n, at0 + sizeN n) := by
  unfold put at h
  unfold sizeN
  (repeat' split at h) <;> first | omega | skip
  all_goals simp only [List.cons_append, List.nil_append] at h
  · rw [if_neg (by omega), if_pos (by omega), rd_go (by rw [h]; intro t e; simp only [List.cons.injEq] at e; omega), go_last h _ _ _ (by omega)]
    congr 2; omega
  · obtain ⟨e1, k1⟩ := go_part h at0 4 0
    rw [if_neg (by omega), if_neg (by omega), if_pos (by omega), rd_go (by rw [h]; intro t e; simp only [List.cons.injEq] at e; omega), e1, go_last k1 _ _ _ (by omega)]
    congr 2; omega
  · obtain ⟨e1, k1⟩ := go_part h at0 4 0
    obtain ⟨e2, k2⟩ := go_part k1 at0 3 (0 * 128 + n / 16384 % 128)
    rw [if_neg (by omega), if_neg (by omega), if_neg (by omega), if_pos (by omega), rd_go (by rw [h]; intro t e; simp only [List.cons.injEq] at e; omega), e1, e2, go_last k2 _ _ _ (by omega)]
    congr 2; omega
  · obtain ⟨e1, k1⟩ := go_part h at0 4 0
    obtain ⟨e2, k2⟩ := go_part k1 at0 3 (0 * 128 + n / 2097152 % 128)
    obtain ⟨e3, k3⟩ := go_part k2 at0 2 ((0 * 128 + n / 2097152 % 128) * 128 + n / 16384 % 128)
    rw [if_neg (by omega), if_neg (by omega), if_neg (by omega), if_neg (by omega), if_pos (by omega), rd_go (by rw [h]; intro t e; simp only [List.cons.injEq] at e; omega), e1, e2, e3, go_last k3 _ _ _ (by omega)]
    congr 2; omega
  · obtain ⟨e1, k1⟩ := go_part h at0 4 0
    obtain ⟨e2, k2⟩ := go_part k1 at0 3 (0 * 128 + n / 268435456 % 128)
    obtain ⟨e3, k3⟩ := go_part k2 at0 2 ((0 * 128 + n / 268435456 % 128) * 128 + n / 2097152 % 128)
    obtain ⟨e4, k4⟩ := go_part k3 at0 1 (((0 * 128 + n / 268435456 % 128) * 128 + n / 2097152 % 128) * 128 + n / 16384 % 128)
    rw [if_neg (by omega), if_neg (by omega), if_neg (by omega), if_neg (by omega), if_neg (by omega), rd_go (by rw [h]; intro t e; simp only [List.cons.injEq] at e; omega), e1, e2, e3, e4, go_last k4 _ _ _ (by omega)]
    congr 2; omega

/-- a number that is cut short is not read -/
theorem rd_cut (xs : List Int) (at0 k : Nat) (n : Int) (h0 : 0 ≤ n) (h1 : n ≤ 2147483647) (hk : k < sizeN n) (h : xs.drop at0 = (put n).take k) : rd xs at0 = .error (4, xs.length) := by
  unfold put at h
  unfold sizeN at hk
  have step0 : xs.drop at0 = [] → rd xs at0 = .error (4, xs.length) := fun e => by
    rw [rd_go (by rw [e]; intro t c; cases c), rdGo_nil e]
  rcases Nat.eq_zero_or_pos k with rfl | hpos
  · exact step0 (by rw [h, List.take_zero])
  (repeat' split at h) <;> (repeat' split at hk) <;> first | omega | skip
  · obtain rfl : k = 1 := by omega
    simp only [List.take] at h
    obtain ⟨e1, k1⟩ := go_part h at0 4 0
    rw [rd_go (by rw [h]; intro t e; simp only [List.cons.injEq] at e; omega), e1, rdGo_nil k1]
  · obtain rfl | rfl : k = 1 ∨ k = 2 := by omega
    all_goals simp only [List.take] at h
    all_goals rw [rd_go (by rw [h]; intro t e; simp only [List.cons.injEq] at e; omega)]
    all_goals obtain ⟨e1, k1⟩ := go_part h at0 4 0
    · rw [e1, rdGo_nil k1]
    · obtain ⟨e2, k2⟩ := go_part k1 at0 3 (0 * 128 + n / 16384 % 128)
      rw [e1, e2, rdGo_nil k2]
  · obtain rfl | rfl | rfl : k = 1 ∨ k = 2 ∨ k = 3 := by omega
    all_goals simp only [List.take] at h
    all_goals rw [rd_go (by rw [h]; intro t e; simp only [List.cons.injEq] at e; omega)]
    all_goals obtain ⟨e1, k1⟩ := go_part h at0 4 0
    · rw [e1, rdGo_nil k1]
    all_goals obtain ⟨e2, k2⟩ := go_part k1 at0 3 (0 * 128 + n / 2097152 % 128)
    · rw [e1, e2, rdGo_nil k2]
    obtain ⟨e3, k3⟩ := go_part k2 at0 2 ((0 * 128 + n / 2097152 % 128) * 128 + n / 16384 % 128)
    rw [e1, e2, e3, rdGo_nil k3]
  · obtain rfl | rfl | rfl | rfl : k = 1 ∨ k = 2 ∨ k = 3 ∨ k = 4 := by omega
    all_goals simp only [List.take] at h
    all_goals rw [rd_go (by rw [h]; intro t e; simp only [List.cons.injEq] at e; omega)]
    all_goals obtain ⟨e1, k1⟩ := go_part h at0 4 0
    · rw [e1, rdGo_nil k1]
    all_goals obtain ⟨e2, k2⟩ := go_part k1 at0 3 (0 * 128 + n / 268435456 % 128)
    · rw [e1, e2, rdGo_nil k2]
    all_goals obtain ⟨e3, k3⟩ := go_part k2 at0 2 ((0 * 128 + n / 268435456 % 128) * 128 + n / 2097152 % 128)
    · rw [e1, e2, e3, rdGo_nil k3]
    obtain ⟨e4, k4⟩ := go_part k3 at0 1 (((0 * 128 + n / 268435456 % 128) * 128 + n / 2097152 % 128) * 128 + n / 16384 % 128)
    rw [e1, e2, e3, e4, rdGo_nil k4]

end Go.Proofs.Ytkfhljggdcajpaa
