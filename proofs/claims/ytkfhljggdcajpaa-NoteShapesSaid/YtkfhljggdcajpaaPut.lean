/-
  What numbers are as bytes: their order, that none begins another one.
-/
import Derived.Test.YtkfhljggdcajpaaWr
namespace Go.Proofs.Ytkfhljggdcajpaa

/-- the order of texts, of whole numbers that are bytes -/
def lexLess : List Int → List Int → Bool
  | _, [] => false
  | [], _ :: _ => true
  | a :: x, b :: y => decide (a < b) || (decide (a = b) && lexLess x y)

theorem bytesLess_eq (xs ys : List Int) (hx : Bys xs) (hy : Bys ys) : Op.bytesLess (strOfNums xs).toList (strOfNums ys).toList = lexLess xs ys := by
  rw [ByteArray.toList_eq, ByteArray.toList_eq, strOfNums_data, strOfNums_data]
  induction xs generalizing ys with
  | nil => cases ys <;> rfl
  | cons x xs ih => cases ys with
    | nil => rfl
    | cons y ys =>
      have hx0 := hx x (by simp)
      have hy0 := hy y (by simp)
      simp only [List.map_cons, Op.bytesLess, lexLess]
      rw [ih ys (fun z hz => hx z (by simp [hz])) (fun z hz => hy z (by simp [hz]))]
      have e1 : decide (UInt8.ofNat x.toNat < UInt8.ofNat y.toNat) = decide (x < y) := by
        rw [Bool.eq_iff_iff, decide_eq_true_iff, decide_eq_true_iff, UInt8.lt_iff_toNat_lt]
        simp only [UInt8.toNat_ofNat']
        omega
      have e2 : (UInt8.ofNat x.toNat == UInt8.ofNat y.toNat) = decide (x = y) := by
        rw [Bool.eq_iff_iff, beq_iff_eq, decide_eq_true_iff, ← UInt8.toNat_inj]
        simp only [UInt8.toNat_ofNat']
        omega
      rw [e1, e2]

theorem put_sizes (n m : Int) (h0 : 0 ≤ n) (h : n < m) (h1 : m ≤ 2147483647) : sizeN n ≤ sizeN m := by
  unfold sizeN; (repeat' split) <;> omega

theorem dd (n : Int) : n / 128 / 128 = n / 16384 ∧ n / 16384 / 128 = n / 2097152 ∧ n / 2097152 / 128 = n / 268435456 := by omega
theorem lex_lt {x y : Int} (xs ys : List Int) (h : x < y) : lexLess (x :: xs) (y :: ys) = true := by simp [lexLess, h]
theorem lex_eq {x y : Int} {xs ys : List Int} (h : x = y) (hl : lexLess xs ys = true) : lexLess (x :: xs) (y :: ys) = true := by simp [lexLess, h, hl]

theorem less1 (n m : Int) (h : n < m) (e : n / 128 = m / 128) : lexLess [n % 128] [m % 128] = true := lex_lt _ _ (by omega)
theorem less2 (n m : Int) (h : n < m) (e : n / 16384 = m / 16384) : lexLess [n / 128 % 128 + 128, n % 128] [m / 128 % 128 + 128, m % 128] = true := by
  by_cases h1 : n / 128 = m / 128
  · exact lex_eq (by rw [h1]) (less1 n m h h1)
  · exact lex_lt _ _ (by have := dd n; have := dd m; omega)
theorem less3 (n m : Int) (h : n < m) (e : n / 2097152 = m / 2097152) : lexLess [n / 16384 % 128 + 128, n / 128 % 128 + 128, n % 128] [m / 16384 % 128 + 128, m / 128 % 128 + 128, m % 128] = true := by
  by_cases h1 : n / 16384 = m / 16384
  · exact lex_eq (by rw [h1]) (less2 n m h h1)
  · have h2 : n / 16384 < m / 16384 := by omega
    have := (dd n).2.1; have := (dd m).2.1
    exact lex_lt _ _ (by generalize n / 16384 = a at *; generalize m / 16384 = b at *; omega)
theorem less4 (n m : Int) (h : n < m) (e : n / 268435456 = m / 268435456) : lexLess [n / 2097152 % 128 + 128, n / 16384 % 128 + 128, n / 128 % 128 + 128, n % 128] [m / 2097152 % 128 + 128, m / 16384 % 128 + 128, m / 128 % 128 + 128, m % 128] = true := by
  by_cases h1 : n / 2097152 = m / 2097152
  · exact lex_eq (by rw [h1]) (less3 n m h h1)
  · have h2 : n / 2097152 < m / 2097152 := by omega
    have := (dd n).2.2; have := (dd m).2.2
    exact lex_lt _ _ (by generalize n / 2097152 = a at *; generalize m / 2097152 = b at *; omega)
theorem less5 (n m : Int) (h0 : 0 ≤ n) (h : n < m) (hm : m ≤ 2147483647) : lexLess [n / 268435456 % 128 + 128, n / 2097152 % 128 + 128, n / 16384 % 128 + 128, n / 128 % 128 + 128, n % 128] [m / 268435456 % 128 + 128, m / 2097152 % 128 + 128, m / 16384 % 128 + 128, m / 128 % 128 + 128, m % 128] = true := by
  by_cases h1 : n / 268435456 = m / 268435456
  · exact lex_eq (by rw [h1]) (less4 n m h h1)
  · exact lex_lt _ _ (by omega)

theorem put_less (n m : Int) (h0 : 0 ≤ n) (h : n < m) (h1 : m ≤ 2147483647) (hs : sizeN n = sizeN m) : lexLess (put n) (put m) = true := by
  unfold sizeN at hs
  unfold put
  (repeat' split at hs) <;> (repeat' split) <;> first | omega | skip
  · exact less1 n m h (by omega)
  · exact less2 n m h (by omega)
  · exact less3 n m h (by omega)
  · exact less4 n m h (by omega)
  · exact less5 n m h0 h h1

theorem put_begins (n m : Int) (h0 : 0 ≤ n) (h : n < m) (h1 : m ≤ 2147483647) : put n ≠ (put m).take (sizeN n) := by
  unfold put sizeN
  (repeat' split) <;> first | omega | skip
  all_goals simp only [List.take, ne_eq, List.cons.injEq, and_true]
  all_goals omega

end Go.Proofs.Ytkfhljggdcajpaa
