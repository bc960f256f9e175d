/-
  Floats of 64 bits: which are numbers, and how they stand to each other, as whole numbers.
-/
import Derived.Test.YtdcaklonhbiejaaRows
import Derived.WalkKit
import Derived.WalkSpells
import Derived.WalkLawsBesides
import Derived.Laws.FloatArith
import Derived.Laws.Externs
import Derived.Lib.Hide
namespace Go.Proofs.Ytdcaklonhbiejaa
open Go.RowKit

/-- a bound above every float that is a number, in units of the least one -/
def top : Nat := 2 ^ 53 * (2 ^ 256) ^ 8

def key : Ieee.Datum → Int
  | .number s m e => Ieee.signed s m (e + 1074).toNat
  | .infinity s => if s then -(top : Int) else top
  | .nan .. => 0

theorem signed_add (s : Bool) (m u v : Nat) : Ieee.signed s m (u + v) = Ieee.signed s m u * (2 ^ v : Nat) := by
  unfold Ieee.signed
  simp only [Nat.shiftLeft_eq, Nat.pow_add]
  cases s
  · simp [Int.natCast_mul, Int.mul_assoc]
  · simp [Int.natCast_mul, Int.mul_assoc, Int.neg_mul]

theorem compare_mul (x y : Int) (c : Nat) (hc : 0 < c) : compare (x * (c : Int)) (y * (c : Int)) = compare x y := by
  have hc' : (0 : Int) < c := by omega
  simp only [compare, compareOfLessAndEq]
  have h1 : x * (c : Int) < y * c ↔ x < y := by
    constructor
    · intro h; exact Int.lt_of_mul_lt_mul_right h (by omega)
    · intro h; exact Int.mul_lt_mul_of_pos_right h hc'
  have h2 : x * (c : Int) = y * c ↔ x = y := by
    constructor
    · intro h; exact Int.eq_of_mul_eq_mul_right (by omega) h
    · intro h; rw [h]
  simp only [h1, h2]

/-- what a word of 64 bits is read as -/
def Fine (d : Ieee.Datum) : Prop := match d with
  | .number _ m e => -1074 ≤ e ∧ m <<< (e + 1074).toNat < top
  | _ => True

theorem cmp_lt {x y : Int} (h : x < y) : compare x y = .lt := by simp [compare, compareOfLessAndEq, h]
theorem cmp_gt {x y : Int} (h : y < x) : compare x y = .gt := by
  have h1 : ¬ x < y := by omega
  have h2 : ¬ x = y := by omega
  simp [compare, compareOfLessAndEq, h1, h2]
theorem cmp_eq (x : Int) : compare x x = .eq := by simp [compare, compareOfLessAndEq]

theorem fine_key {s : Bool} {m : Nat} {e : Int} (h : Fine (.number s m e)) : -(top : Int) < key (.number s m e) ∧ key (.number s m e) < top := by
  have h2 := h.2
  simp only [key, Ieee.signed]
  generalize m <<< (e + 1074).toNat = x at h2
  generalize top = t at h2
  cases s <;> simp <;> omega

theorem top_pos : (0 : Int) < top := by
  have : 0 < top := Nat.mul_pos (Nat.two_pow_pos _) (Nat.pow_pos (Nat.two_pow_pos _))
  omega

theorem order_key {d1 d2 : Ieee.Datum} (h1 : Fine d1) (h2 : Fine d2) : d1.order d2 = if d1.isNaN = true ∨ d2.isNaN = true then none else some (compare (key d1) (key d2)) := by
  have ht := top_pos
  cases d1 with
  | nan s f => simp [Ieee.Datum.order, Ieee.Datum.isNaN]
  | infinity s =>
    cases d2 with
    | nan t g => simp [Ieee.Datum.order, Ieee.Datum.isNaN]
    | infinity t =>
      cases s <;> cases t
      · simp [Ieee.Datum.order, Ieee.Datum.isNaN, key]
      · simp only [Ieee.Datum.order, Ieee.Datum.isNaN, key, Bool.false_eq_true, or_self, if_false, if_true, cmp_gt (show -(top : Int) < top by omega)]; rfl
      · simp only [Ieee.Datum.order, Ieee.Datum.isNaN, key, Bool.false_eq_true, or_self, if_false, if_true, cmp_lt (show -(top : Int) < top by omega)]; rfl
      · simp [Ieee.Datum.order, Ieee.Datum.isNaN, key]
    | number t n j =>
      obtain ⟨l, r⟩ := fine_key h2
      have e : ∀ b, key (.infinity b) = if b then -(top : Int) else top := fun _ => rfl
      cases s
      · simp only [Ieee.Datum.order, Ieee.Datum.isNaN, e, Bool.false_eq_true, or_self, if_false, cmp_gt r]
      · simp only [Ieee.Datum.order, Ieee.Datum.isNaN, e, Bool.false_eq_true, or_self, if_false, if_true, cmp_lt l]
  | number s m i =>
    cases d2 with
    | nan t g => simp [Ieee.Datum.order, Ieee.Datum.isNaN]
    | infinity t =>
      obtain ⟨l, r⟩ := fine_key h1
      have e : ∀ b, key (.infinity b) = if b then -(top : Int) else top := fun _ => rfl
      cases t
      · simp only [Ieee.Datum.order, Ieee.Datum.isNaN, e, Bool.false_eq_true, or_self, if_false, cmp_lt r]
      · simp only [Ieee.Datum.order, Ieee.Datum.isNaN, e, Bool.false_eq_true, or_self, if_false, if_true, cmp_gt l]
    | number t n j =>
      simp only [Ieee.Datum.order, Ieee.Datum.isNaN, Bool.false_eq_true, or_self, if_false, key]
      have e1 := h1.1
      have e2 := h2.1
      have hb : ∃ v : Nat, ((min i j : Int) + 1074).toNat = v ∧ (i + 1074).toNat = (i - min i j).toNat + v ∧ (j + 1074).toNat = (j - min i j).toNat + v := ⟨_, rfl, by omega, by omega⟩
      obtain ⟨v, _, hi, hj⟩ := hb
      rw [hi, hj, signed_add, signed_add, compare_mul _ _ _ (Nat.two_pow_pos v)]

theorem pow_pow_le (k a b : Nat) (h : k ≤ a * b) : 2 ^ k ≤ (2 ^ a) ^ b := by
  rw [← Nat.pow_mul]
  exact Nat.pow_le_pow_right (by omega) h

theorem read_fine (w : Nat) : Fine (Ieee.double.read w) := by
  unfold Ieee.Format.read
  dsimp only
  have hb : Ieee.double.binade = 4503599627370496 := by decide
  have hl : Ieee.double.leastPlace = -1074 := by decide
  have hi : Ieee.double.infRung = 2047 * 4503599627370496 := by decide
  rw [hb, hl, hi]
  generalize w % Ieee.double.signWeight = r
  split
  · refine ⟨by omega, ?_⟩
    show r <<< 0 < top
    have h1 : 1 ≤ (2 ^ 256) ^ 8 := Nat.pow_pos (Nat.two_pow_pos _)
    exact Nat.lt_of_lt_of_le (show r < 2 ^ 53 by omega) (Nat.le_mul_of_pos_right _ h1)
  · split
    · refine ⟨by omega, ?_⟩
      have e : (-1074 + ((r / 4503599627370496 - 1 : Nat) : Int) + 1074).toNat = r / 4503599627370496 - 1 := by omega
      rw [e, Nat.shiftLeft_eq]
      have h1 : 4503599627370496 + r % 4503599627370496 < 2 ^ 53 := by omega
      have h2 : (2 : Nat) ^ (r / 4503599627370496 - 1) ≤ (2 ^ 256) ^ 8 := pow_pow_le _ 256 8 (by omega)
      exact Nat.lt_of_lt_of_le (Nat.mul_lt_mul_of_pos_right h1 (Nat.two_pow_pos _)) (Nat.mul_le_mul_left _ h2)
    · split <;> trivial

/-- is a float none of the numbers -/
def isn (a : Nat) : Bool := (Ieee.double.read a).isNaN
/-- where it stands -/
def fk (a : Nat) : Int := key (Ieee.double.read a)

theorem order_eq (a b : Nat) : FloatKind.f64.format.order a b = if isn a = true ∨ isn b = true then none else some (compare (fk a) (fk b)) :=
  order_key (read_fine a) (read_fine b)
theorem order_nan1 {a : Nat} (b : Nat) (h : isn a = true) : FloatKind.f64.format.order a b = none := by rw [order_eq, if_pos (.inl h)]
theorem order_nan2 (a : Nat) {b : Nat} (h : isn b = true) : FloatKind.f64.format.order a b = none := by rw [order_eq, if_pos (.inr h)]
theorem order_num {a b : Nat} (ha : isn a = false) (hb : isn b = false) : FloatKind.f64.format.order a b = some (compare (fk a) (fk b)) := by
  rw [order_eq, if_neg (by simp [ha, hb])]
theorem order_self {a : Nat} (ha : isn a = false) : FloatKind.f64.format.order a a = some .eq := by rw [order_num ha ha, cmp_eq]

/-- is one ahead of another one -/
def bef (a b : Nat) : Bool := !isn a && (isn b || decide (fk b < fk a))

theorem before_any (a b : Nat) (w : World) : Calls Try.prog 17 #[.float .f64 a, .float .f64 b] w fun e w' => e = .returned (.bool (bef a b)) ∧ w = w' := by
  cases ha : isn a
  · cases hb : isn b
    · have h1 := order_self ha
      have h2 := order_self hb
      have h3 := order_num ha hb
      have h4 : (some (compare (fk a) (fk b)) == some Ordering.gt) = bef a b := by
        unfold bef
        rw [ha, hb]
        rcases Int.lt_trichotomy (fk a) (fk b) with h | h | h
        · rw [cmp_lt h]; simp; omega
        · rw [h, cmp_eq]; simp
        · rw [cmp_gt h]; simp [h]
      go_enter Try.func17, Try.ntmps17
      go_wp2
      go_ret
      exact ⟨rfl, rfl⟩
    · have h1 := order_self ha
      have h2 := order_nan1 b hb
      have h4 : bef a b = true := by simp [bef, ha, hb]
      rw [h4]
      clear h4
      go_enter Try.func17, Try.ntmps17
      go_wp2
      go_ret
      exact ⟨rfl, rfl⟩
  · have h1 := order_nan1 a ha
    have h4 : bef a b = false := by simp [bef, ha]
    rw [h4]
    clear h4
    go_enter Try.func17, Try.ntmps17
    go_wp2
    go_ret
    exact ⟨rfl, rfl⟩

theorem isnan_any (a : Nat) (w : World) : Calls Try.prog 18 #[.float .f64 a] w fun e w' => e = .returned (.bool (isn a)) ∧ w = w' := by
  cases ha : isn a
  · have h1 := order_self ha
    go_enter Try.func18, Try.ntmps18
    go_wp2
    go_ret
    exact ⟨rfl, rfl⟩
  · have h1 := order_nan1 a ha
    go_enter Try.func18, Try.ntmps18
    go_wp2
    go_ret
    exact ⟨rfl, rfl⟩

end Go.Proofs.Ytdcaklonhbiejaa
