/-
  The plain theory of a stable sort by merging in place: ranges exchanged and turned, one place moved, two halves merged. No program in sight.
-/
import Derived.Sort.LotA
namespace Go.Proofs.Ytdcaklonhbiejaa
open Go.Sort
section
variable {α : Type} [Inhabited α]

theorem at_eq (d : Array α) {i j : Nat} (h : i = j) : d[i]! = d[j]! := by rw [h]

/-! ### two ranges exchanged -/
def swr (d : Array α) (a b : Nat) : Nat → Array α
  | 0 => d
  | k + 1 => swp (swr d a b k) (a + k) (b + k)
theorem size_swr (d : Array α) (a b k : Nat) : (swr d a b k).size = d.size := by
  induction k with
  | zero => rfl
  | succ k ih => unfold swr; rw [size_swp]; exact ih

theorem get_swr (d : Array α) (a b n : Nat) (hab : a + n ≤ b) (hb : b + n ≤ d.size) (p : Nat) :
    (swr d a b n)[p]! = if a ≤ p ∧ p < a + n then d[p + (b - a)]! else if b ≤ p ∧ p < b + n then d[p - (b - a)]! else d[p]! := by
  induction n generalizing p with
  | zero => rw [if_neg (by omega), if_neg (by omega)]; rfl
  | succ k ih =>
    have ih := ih (by omega) (by omega)
    have hs := size_swr d a b k
    show (swp (swr d a b k) (a + k) (b + k))[p]! = _
    rw [swp_get _ (by omega) (by omega)]
    by_cases h1 : p = b + k
    · rw [if_pos h1, ih, if_neg (by omega), if_neg (by omega), if_neg (by omega), if_pos (by omega)]
      exact at_eq d (by omega)
    · rw [if_neg h1]
      by_cases h2 : p = a + k
      · rw [if_pos h2, ih, if_neg (by omega), if_neg (by omega), if_pos (by omega)]
        exact at_eq d (by omega)
      · rw [if_neg h2, ih]
        by_cases h3 : a ≤ p ∧ p < a + k
        · rw [if_pos h3, if_pos (by omega)]
        · by_cases h4 : b ≤ p ∧ p < b + k
          · rw [if_neg h3, if_pos h4, if_neg (by omega), if_pos (by omega)]
          · rw [if_neg h3, if_neg h4, if_neg (by omega), if_neg (by omega)]

theorem perm_swr (d : Array α) (lo hi a b n : Nat) (ha : lo ≤ a) (hb : lo ≤ b) (ha2 : a + n ≤ hi) (hb2 : b + n ≤ hi) (hh : hi ≤ d.size) : PermIn lo hi d (swr d a b n) := by
  induction n with
  | zero => exact permIn_refl d lo hi
  | succ k ih => exact permIn_trans _ _ _ lo hi (ih (by omega) (by omega)) (swp_permIn (swr d a b k) lo hi (a + k) (b + k) (by omega) (by omega) (by omega) (by omega) (by rw [size_swr]; exact hh))

/-! ### a range turned -/
/-- what lies at p behind the turning of [m - i, m + j) at m -/
def rotAt (d : Array α) (m i j p : Nat) : α := if m - i ≤ p ∧ p < m + j then (if p < m - i + j then d[p + i]! else d[p - j]!) else d[p]!

theorem rot_gt (d : Array α) (m i j p : Nat) (hj : j < i) (hi : i ≤ m) (hs : m + j ≤ d.size) : rotAt (swr d (m - i) m j) m (i - j) j p = rotAt d m i j p := by
  have g := get_swr d (m - i) m j (by omega) (by omega)
  unfold rotAt
  by_cases h1 : m - (i - j) ≤ p ∧ p < m + j
  · rw [if_pos h1, if_pos (show m - i ≤ p ∧ p < m + j by omega)]
    by_cases h2 : p < m - (i - j) + j
    · rw [if_pos h2, g, if_neg (by omega), if_pos (by omega), if_neg (by omega)]
      exact at_eq d (by omega)
    · rw [if_neg h2, g, if_neg (by omega), if_neg (by omega), if_neg (by omega)]
  · rw [if_neg h1, g]
    by_cases h2 : m - i ≤ p ∧ p < m + j
    · rw [if_pos h2, if_pos (by omega), if_pos (by omega)]
      exact at_eq d (by omega)
    · rw [if_neg h2, if_neg (by omega), if_neg (by omega)]

theorem rot_lt (d : Array α) (m i j p : Nat) (hj : i < j) (hi : i ≤ m) (hs : m + j ≤ d.size) : rotAt (swr d (m - i) (m + j - i) i) m i (j - i) p = rotAt d m i j p := by
  have g := get_swr d (m - i) (m + j - i) i (by omega) (by omega)
  unfold rotAt
  by_cases h1 : m - i ≤ p ∧ p < m + (j - i)
  · rw [if_pos h1, if_pos (show m - i ≤ p ∧ p < m + j by omega)]
    by_cases h2 : p < m - i + (j - i)
    · rw [if_pos h2, g, if_neg (by omega), if_neg (by omega), if_pos (by omega)]
    · rw [if_neg h2, g, if_pos (by omega), if_pos (by omega)]
      exact at_eq d (by omega)
  · rw [if_neg h1, g]
    by_cases h2 : m - i ≤ p ∧ p < m + j
    · rw [if_pos h2, if_neg (by omega), if_pos (by omega), if_neg (by omega)]
      exact at_eq d (by omega)
    · rw [if_neg h2, if_neg (by omega), if_neg (by omega)]

theorem rot_eq (d : Array α) (m i p : Nat) (hi : i ≤ m) (hs : m + i ≤ d.size) : (swr d (m - i) m i)[p]! = rotAt d m i i p := by
  rw [get_swr d (m - i) m i (by omega) (by omega)]
  unfold rotAt
  by_cases h1 : m - i ≤ p ∧ p < m + i
  · rw [if_pos h1]
    by_cases h2 : p < m - i + i
    · rw [if_pos h2, if_pos (by omega)]
      exact at_eq d (by omega)
    · rw [if_neg h2, if_neg (by omega), if_pos (by omega)]
      exact at_eq d (by omega)
  · rw [if_neg h1, if_neg (by omega), if_neg (by omega)]

/-! ### one place moved up, or down -/
def shu (d : Array α) (a : Nat) : Nat → Array α
  | 0 => d
  | k + 1 => swp (shu d a k) (a + k) (a + k + 1)
theorem size_shu (d : Array α) (a k : Nat) : (shu d a k).size = d.size := by
  induction k with
  | zero => rfl
  | succ k ih => unfold shu; rw [size_swp]; exact ih
theorem get_shu (d : Array α) (a k : Nat) (hk : a + k < d.size) (p : Nat) : (shu d a k)[p]! = if a ≤ p ∧ p < a + k then d[p + 1]! else if p = a + k then d[a]! else d[p]! := by
  induction k generalizing p with
  | zero =>
    rw [if_neg (by omega)]
    split
    · exact at_eq d (by omega)
    · rfl
  | succ k ih =>
    have ih := ih (by omega)
    have hs := size_shu d a k
    show (swp (shu d a k) (a + k) (a + k + 1))[p]! = _
    rw [swp_get _ (by omega) (by omega)]
    by_cases h1 : p = a + k + 1
    · rw [if_pos h1, ih, if_neg (by omega), if_pos rfl, if_neg (by omega), if_pos (by omega)]
    · rw [if_neg h1]
      by_cases h2 : p = a + k
      · rw [if_pos h2, ih, if_neg (by omega), if_neg (by omega), if_pos (by omega)]
        exact at_eq d (by omega)
      · rw [if_neg h2, ih]
        by_cases h3 : a ≤ p ∧ p < a + k
        · rw [if_pos h3, if_pos (by omega)]
        · rw [if_neg h3, if_neg (by omega), if_neg (by omega), if_neg (by omega)]
theorem perm_shu (d : Array α) (lo hi a k : Nat) (ha : lo ≤ a) (hk : a + k < hi) (hh : hi ≤ d.size) : PermIn lo hi d (shu d a k) := by
  induction k with
  | zero => exact permIn_refl d lo hi
  | succ k ih => exact permIn_trans _ _ _ lo hi (ih (by omega)) (swp_permIn (shu d a k) lo hi (a + k) (a + k + 1) (by omega) (by omega) (by omega) (by omega) (by rw [size_shu]; exact hh))

def shd (d : Array α) (m : Nat) : Nat → Array α
  | 0 => d
  | k + 1 => swp (shd d m k) (m - k) (m - k - 1)
theorem size_shd (d : Array α) (m k : Nat) : (shd d m k).size = d.size := by
  induction k with
  | zero => rfl
  | succ k ih => unfold shd; rw [size_swp]; exact ih
theorem get_shd (d : Array α) (m k : Nat) (hm : m < d.size) (hk : k ≤ m) (p : Nat) : (shd d m k)[p]! = if m - k < p ∧ p ≤ m then d[p - 1]! else if p = m - k then d[m]! else d[p]! := by
  induction k generalizing p with
  | zero =>
    rw [if_neg (by omega)]
    split
    · exact at_eq d (by omega)
    · rfl
  | succ k ih =>
    have ih := ih (by omega)
    have hs := size_shd d m k
    show (swp (shd d m k) (m - k) (m - k - 1))[p]! = _
    rw [swp_get _ (by omega) (by omega)]
    by_cases h1 : p = m - k - 1
    · rw [if_pos h1, ih, if_neg (by omega), if_pos rfl, if_neg (by omega), if_pos (by omega)]
    · rw [if_neg h1]
      by_cases h2 : p = m - k
      · rw [if_pos h2, ih, if_neg (by omega), if_neg (by omega), if_pos (by omega)]
        exact at_eq d (by omega)
      · rw [if_neg h2, ih]
        by_cases h3 : m - k < p ∧ p ≤ m
        · rw [if_pos h3, if_pos (by omega)]
        · rw [if_neg h3, if_neg (by omega), if_neg (by omega), if_neg (by omega)]
theorem perm_shd (d : Array α) (lo hi m k : Nat) (hk : lo ≤ m - k) (hk2 : k ≤ m) (hm : m < hi) (hh : hi ≤ d.size) : PermIn lo hi d (shd d m k) := by
  induction k with
  | zero => exact permIn_refl d lo hi
  | succ k ih => exact permIn_trans _ _ _ lo hi (ih (by omega) (by omega)) (swp_permIn (shd d m k) lo hi (m - k) (m - k - 1) (by omega) (by omega) (by omega) (by omega) (by rw [size_shd]; exact hh))

/-! ### sorted by a number -/
def Srt (f : α → Int) (a b : Nat) (d : Array α) : Prop := ∀ i j, a ≤ i → i ≤ j → j < b → f d[i]! ≤ f d[j]!

theorem Srt.ext {f : α → Int} {a b : Nat} {d d' : Array α} (h : Srt f a b d) (he : ∀ p, a ≤ p → p < b → d'[p]! = d[p]!) : Srt f a b d' := fun i j h1 h2 h3 => by
  rw [he i h1 (by omega), he j (by omega) h3]
  exact h i j h1 h2 h3

/-- one place moved up to where it belongs -/
theorem shu_srt {f : α → Int} {a b k : Nat} {d : Array α} (hs : Srt f (a + 1) b d) (hk : a + k < b) (hb : b ≤ d.size) (h1 : ∀ p, a < p → p ≤ a + k → f d[p]! ≤ f d[a]!) (h2 : ∀ p, a + k < p → p < b → f d[a]! ≤ f d[p]!) : Srt f a b (shu d a k) := by
  intro i j h3 h4 h5
  have g := get_shu d a k (by omega)
  rw [g, g]
  by_cases c1 : a ≤ i ∧ i < a + k
  · rw [if_pos c1]
    by_cases c2 : a ≤ j ∧ j < a + k
    · rw [if_pos c2]; exact hs _ _ (by omega) (by omega) (by omega)
    · rw [if_neg c2]
      by_cases c3 : j = a + k
      · rw [if_pos c3]; exact h1 _ (by omega) (by omega)
      · rw [if_neg c3]; exact hs _ _ (by omega) (by omega) (by omega)
  · rw [if_neg c1]
    by_cases c3 : i = a + k
    · rw [if_pos c3, if_neg (by omega)]
      by_cases c4 : j = a + k
      · rw [if_pos c4]; exact Int.le_refl _
      · rw [if_neg c4]; exact h2 _ (by omega) (by omega)
    · rw [if_neg c3, if_neg (by omega), if_neg (by omega)]; exact hs _ _ (by omega) (by omega) (by omega)

/-- one place moved down to where it belongs -/
theorem shd_srt {f : α → Int} {a m k : Nat} {d : Array α} (hs : Srt f a m d) (hk : a ≤ m - k) (hk2 : k ≤ m) (hb : m < d.size) (h1 : ∀ p, a ≤ p → p < m - k → f d[p]! ≤ f d[m]!) (h2 : ∀ p, m - k ≤ p → p < m → f d[m]! ≤ f d[p]!) : Srt f a (m + 1) (shd d m k) := by
  intro i j h3 h4 h5
  have g := get_shd d m k (by omega) hk2
  rw [g, g]
  by_cases c1 : m - k < i ∧ i ≤ m
  · rw [if_pos c1, if_pos (by omega)]; exact hs _ _ (by omega) (by omega) (by omega)
  · rw [if_neg c1]
    by_cases c3 : i = m - k
    · rw [if_pos c3]
      by_cases c2 : m - k < j ∧ j ≤ m
      · rw [if_pos c2]; exact h2 _ (by omega) (by omega)
      · rw [if_neg c2, if_pos (by omega)]; exact Int.le_refl _
    · rw [if_neg c3]
      by_cases c2 : m - k < j ∧ j ≤ m
      · rw [if_pos c2]; exact hs _ _ (by omega) (by omega) (by omega)
      · rw [if_neg c2]
        by_cases c4 : j = m - k
        · rw [if_pos c4]; exact h1 _ (by omega) (by omega)
        · rw [if_neg c4]; exact hs _ _ (by omega) (by omega) (by omega)

/-- what the split is: start, the end; where the search stands -/
structure Split (f : α → Int) (a m b mid s : Nat) (d : Array α) : Prop where
  am : a < m
  mb : m < b
  size : b ≤ d.size
  s1 : Srt f a m d
  s2 : Srt f m b d
  mid1 : a < mid
  mid2 : mid < b
  two : 2 * mid ≤ a + b
  lo : a ≤ s
  lom : m > mid → mid + m - b ≤ s
  hi : s ≤ m
  him : m > mid → s ≤ mid
  below : (m > mid → s = mid + m - b) ∧ (¬ m > mid → s = a) ∨ f d[s - 1]! ≤ f d[mid + m - s]!
  above : (m > mid → s = mid) ∧ (¬ m > mid → s = m) ∨ f d[mid + m - s - 1]! ≤ f d[s]!

theorem Split.cross {f : α → Int} {a m b mid s : Nat} {d d' : Array α} (h : Split f a m b mid s d) (hr : ∀ p, d'[p]! = rotAt d m (m - s) (mid + m - s - m) p) :
    (∀ p q, a ≤ p → p < mid → mid ≤ q → q < b → f d'[p]! ≤ f d'[q]!) ∧ Srt f a s d' ∧ Srt f s mid d' ∧ Srt f mid (mid + m - s) d' ∧ Srt f (mid + m - s) b d' ∧
    (∀ p, a ≤ p → p < s → d'[p]! = d[p]!) ∧ (∀ p, s ≤ p → p < mid → d'[p]! = d[p + (m - s)]!) ∧ (∀ p, mid ≤ p → p < mid + m - s → d'[p]! = d[p - (mid + m - s - m)]!) ∧ (∀ p, mid + m - s ≤ p → p < b → d'[p]! = d[p]!) := by
  obtain ⟨am, mb, hsz, s1, s2, mid1, mid2, two, lo, lom, hi, him, below, above⟩ := h
  have e1 : ∀ p, a ≤ p → p < s → d'[p]! = d[p]! := fun p h1 h2 => by
    rw [hr]; unfold rotAt; rw [if_neg (by omega)]
  have e2 : ∀ p, s ≤ p → p < mid → d'[p]! = d[p + (m - s)]! := fun p h1 h2 => by
    rw [hr]; unfold rotAt; rw [if_pos (by omega), if_pos (by omega)]
  have e3 : ∀ p, mid ≤ p → p < mid + m - s → d'[p]! = d[p - (mid + m - s - m)]! := fun p h1 h2 => by
    rw [hr]; unfold rotAt; rw [if_pos (by omega), if_neg (by omega)]
  have e4 : ∀ p, mid + m - s ≤ p → p < b → d'[p]! = d[p]! := fun p h1 h2 => by
    rw [hr]; unfold rotAt; rw [if_neg (by omega)]
  refine ⟨fun p q h1 h2 h3 h4 => ?_, fun i j h1 h2 h3 => ?_, fun i j h1 h2 h3 => ?_, fun i j h1 h2 h3 => ?_, fun i j h1 h2 h3 => ?_, e1, e2, e3, e4⟩
  · by_cases c1 : p < s
    · rw [e1 p h1 c1]
      by_cases c2 : q < mid + m - s
      · rw [e3 q h3 c2]; exact s1 _ _ h1 (by omega) (by omega)
      · rw [e4 q (by omega) h4]
        rcases below with ⟨b1, b2⟩ | hb
        · exfalso
          by_cases c : m > mid
          · have := b1 c; omega
          · have := b2 c; omega
        · have k1 := s1 p (s - 1) h1 (by omega) (by omega)
          have k2 := s2 (mid + m - s) q (by omega) (by omega) h4
          omega
    · rw [e2 p (by omega) h2]
      by_cases c2 : q < mid + m - s
      · rw [e3 q h3 c2]
        rcases above with ⟨b1, b2⟩ | hb
        · exfalso
          by_cases c : m > mid
          · have := b1 c; omega
          · have := b2 c; omega
        · have k1 := s2 (p + (m - s)) (mid + m - s - 1) (by omega) (by omega) (by omega)
          have k2 := s1 s (q - (mid + m - s - m)) (by omega) (by omega) (by omega)
          omega
      · rw [e4 q (by omega) h4]; exact s2 _ _ (by omega) (by omega) (by omega)
  · rw [e1 i h1 (by omega), e1 j (by omega) h3]; exact s1 _ _ h1 h2 (by omega)
  · rw [e2 i h1 (by omega), e2 j (by omega) h3]; exact s2 _ _ (by omega) (by omega) (by omega)
  · rw [e3 i h1 (by omega), e3 j (by omega) h3]; exact s1 _ _ (by omega) (by omega) (by omega)
  · rw [e4 i h1 (by omega), e4 j (by omega) h3]; exact s2 _ _ (by omega) (by omega) (by omega)

theorem merge_join {f : α → Int} {a mid b : Nat} {d d1 d2 : Array α} (h1 : PermIn a mid d d1) (s1 : Srt f a mid d1) (h2 : PermIn mid b d1 d2) (s2 : Srt f mid b d2) (hm : a ≤ mid) (hm2 : mid ≤ b) (hb : b ≤ d.size)
    (hx : ∀ p q, a ≤ p → p < mid → mid ≤ q → q < b → f d[p]! ≤ f d[q]!) : PermIn a b d d2 ∧ Srt f a b d2 := by
  have hb1 : b ≤ d1.size := by rw [h1.1]; exact hb
  refine ⟨permIn_trans _ _ _ a b (permIn_mono d d1 a mid a b (Nat.le_refl _) hm2 hb h1) (permIn_mono d1 d2 mid b a b hm (Nat.le_refl _) hb1 h2), fun i j k1 k2 k3 => ?_⟩
  have cross : ∀ p q, a ≤ p → p < mid → mid ≤ q → q < b → f d2[p]! ≤ f d2[q]! := fun p q l1 l2 l3 l4 => by
    have x1 : ∀ q, mid ≤ q → q < b → ∀ p, a ≤ p → p < mid → f d1[p]! ≤ f d[q]! := fun q m1 m2 => permIn_all d d1 a mid (fun x => f x ≤ f d[q]!) (by omega) h1 (fun p n1 n2 => hx p q n1 n2 m1 m2)
    have x2 : ∀ q, mid ≤ q → q < b → f d1[p]! ≤ f d1[q]! := fun q m1 m2 => by
      rw [h1.2.1 q (.inr m1)]
      exact x1 q m1 m2 p l1 l2
    rw [h2.2.1 p (.inl l2)]
    exact permIn_all d1 d2 mid b (fun x => f d1[p]! ≤ f x) hb1 h2 (fun q n1 n2 => x2 q n1 n2) q l3 l4
  by_cases c1 : j < mid
  · rw [h2.2.1 i (.inl (by omega)), h2.2.1 j (.inl c1)]
    exact s1 i j k1 k2 c1
  · by_cases c2 : i < mid
    · exact cross i j k1 c2 (by omega) k3
    · exact s2 i j (by omega) k2 k3

/-! ### the insertion sort of places that stand in their order -/
theorem insInner_perm (lt : α → α → Bool) (a b : Nat) : ∀ (j : Nat) (d : Array α), a ≤ j → j < b → b ≤ d.size → PermIn a b d (insInner lt a j d)
  | 0, d, _, _, _ => by unfold insInner; exact permIn_refl d a b
  | j + 1, d, h1, h2, h3 => by
    unfold insInner
    split
    · rename_i hc
      simp only [Bool.and_eq_true, decide_eq_true_eq] at hc
      exact permIn_trans _ _ _ a b (swp_permIn d a b (j + 1) j h1 h2 (by omega) (by omega) h3) (insInner_perm lt a b j _ (by omega) (by omega) (by rw [size_swp]; exact h3))
    · exact permIn_refl d a b

variable (lt lt' : α → α → Bool) (idx : α → Nat)
theorem inner_eq (hag : ∀ x y, idx x < idx y → lt y x = lt' y x) (a : Nat) : ∀ (j : Nat) (d : Array α), j < d.size → (∀ p, a ≤ p → p < j → idx d[p]! < idx d[j]!) → insInner lt a j d = insInner lt' a j d
  | 0, d, _, _ => by unfold insInner; rfl
  | j + 1, d, hj, h => by
    unfold insInner
    by_cases hja : j + 1 > a
    · have e := hag d[j]! d[j + 1]! (h j (by omega) (by omega))
      rw [e]
      have ih := inner_eq hag a j (swp d (j + 1) j) (by rw [size_swp]; omega) (fun p h1 h2 => by
        rw [swp_get d hj (by omega), swp_get d hj (by omega), if_neg (by omega), if_neg (by omega), if_pos rfl]
        exact h p h1 (by omega))
      rw [ih]
    · simp [hja]

theorem outer_eq (hag : ∀ x y, idx x < idx y → lt y x = lt' y x) (a b : Nat) : ∀ (n i : Nat) (d : Array α), b - i = n → a < i → b ≤ d.size → (∀ p q, a ≤ p → p < q → i ≤ q → q < b → idx d[p]! < idx d[q]!) → insOuter lt a b i d = insOuter lt' a b i d
  | 0, i, d, hn, _, _, _ => by
    have st : ∀ l : α → α → Bool, insOuter l a b i d = d := fun l => by rw [insOuter, if_neg (show ¬ i < b by omega)]
    rw [st lt, st lt']
  | n + 1, i, d, hn, hi, hb, h => by
    have go : ∀ l : α → α → Bool, insOuter l a b i d = insOuter l a b (i + 1) (insInner l a i d) := fun l => by
      conv => lhs; rw [insOuter, if_pos (show i < b by omega)]
    rw [go lt, go lt']
    rw [inner_eq lt lt' idx hag a i d (by omega) (fun p h1 h2 => h p i h1 h2 (Nat.le_refl _) (by omega))]
    have hp := insInner_perm lt' a (i + 1) i d (by omega) (by omega) (by omega)
    refine outer_eq hag a b n (i + 1) _ (by omega) (by omega) (by rw [hp.1]; exact hb) (fun p q h1 h2 h3 h4 => ?_)
    rw [hp.2.1 q (.inr (by omega))]
    by_cases c : p < i + 1
    · exact permIn_all d _ a (i + 1) (fun x => idx x < idx d[q]!) (by omega) hp (fun p k1 k2 => h p q k1 (by omega) (by omega) h4) p h1 c
    · rw [hp.2.1 p (.inr (by omega))]
      exact h p q h1 h2 (by omega) h4

theorem ins_srt (f : α → Int) (hag : ∀ x y, idx x < idx y → lt y x = decide (f y < f x)) (a b : Nat) (d : Array α) (hab : a ≤ b) (hb : b ≤ d.size) (h : ∀ p q, a ≤ p → p < q → q < b → idx d[p]! < idx d[q]!) :
    PermIn a b d (insertionSort lt d a b) ∧ Srt f a b (insertionSort lt d a b) := by
  have e : insertionSort lt d a b = insertionSort (fun x y => decide (f x < f y)) d a b := outer_eq lt _ idx hag a b _ _ d rfl (by omega) hb (fun p q h1 h2 _ h4 => h p q h1 h2 h4)
  have hS : SWO (fun x y : α => decide (f x < f y)) := ⟨fun x => by simp, fun x y z h1 h2 => by simp at h1 h2 ⊢; omega, fun x y z h1 h2 => by simp at h1 h2 ⊢; omega⟩
  obtain ⟨h1, h2⟩ := insertionSort_holds hS d a b hab hb
  rw [e]
  refine ⟨h1, fun i j k1 k2 k3 => ?_⟩
  rcases Nat.lt_or_eq_of_le k2 with h | h
  · have := h2 i j k1 h k3
    simpa using this
  · rw [h]; exact Int.le_refl _

end
end Go.Proofs.Ytdcaklonhbiejaa
