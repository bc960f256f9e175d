/-
  Words for memory that several contracts share: a slice that reads as bytes, the size of a number as bytes.
-/
import Derived.Test.YtkfhljggdcajpaaRows
import Derived.WalkKit
import Derived.WalkSpells
import Derived.WalkLawsBesides
import Derived.Lib.Hide
namespace Go.Proofs.Ytkfhljggdcajpaa
open Go.RowKit

theorem ret_int {k : IntKind} {a b : Int} (h : a = b) : Ending.returned (.int k a) = .returned (.int k b) := by rw [h]
theorem ret_bool {a b : Bool} (h : a = b) : Ending.returned (.bool a) = .returned (.bool b) := by rw [h]

/-- whole numbers that are bytes -/
def Bys (xs : List Int) : Prop := ∀ x ∈ xs, 0 ≤ x ∧ x ≤ 255

theorem Bys.nil : Bys [] := fun _ h => by cases h
theorem Bys.append {xs ys : List Int} (h : Bys xs) (k : Bys ys) : Bys (xs ++ ys) := fun x hx => by
  rcases List.mem_append.1 hx with a | a
  · exact h x a
  · exact k x a
theorem Bys.left {xs ys : List Int} (h : Bys (xs ++ ys)) : Bys xs := fun x hx => h x (List.mem_append.2 (.inl hx))
theorem Bys.right {xs ys : List Int} (h : Bys (xs ++ ys)) : Bys ys := fun x hx => h x (List.mem_append.2 (.inr hx))
theorem Bys.take {xs : List Int} (h : Bys xs) (n : Nat) : Bys (xs.take n) := fun x hx => h x (List.mem_of_mem_take hx)
theorem Bys.drop {xs : List Int} (h : Bys xs) (n : Nat) : Bys (xs.drop n) := fun x hx => h x (List.mem_of_mem_drop hx)
theorem Bys.get {xs : List Int} (h : Bys xs) (i : Nat) : 0 ≤ xs.getD i 0 ∧ xs.getD i 0 ≤ 255 := by
  by_cases hi : i < xs.length
  · have : xs.getD i 0 = xs[i] := by simp [List.getD, hi]
    rw [this]; exact h _ (List.getElem_mem hi)
  · have : xs.getD i 0 = 0 := by simp [List.getD, List.getElem?_eq_none (Nat.le_of_not_lt hi)]
    rw [this]; omega

/-- the slice '.slice a xs.length cap' reads as the bytes xs -/
def BytesAt (w : World) (a : Option Addr) (xs : List Int) : Prop :=
  (a = none ∧ xs = []) ∨ ∃ b off, a = some ⟨b, off, none⟩ ∧ b < w.heap.size ∧ ∀ i, i < xs.length → w.cell? ⟨b, off + i, none⟩ = some (.int .u8 (xs.getD i 0))

theorem BytesAt.of_block {w w' : World} {a : Option Addr} {xs : List Int} (h : BytesAt w a xs) (hs : w.heap.size ≤ w'.heap.size) (hb : ∀ b off, a = some ⟨b, off, none⟩ → b < w.heap.size → w'.heap[b]? = w.heap[b]?) : BytesAt w' a xs := by
  rcases h with h | ⟨b, off, ha, hlt, hc⟩
  · exact .inl h
  · refine .inr ⟨b, off, ha, by omega, fun i hi => ?_⟩
    rw [World.cell?_of_block (hb b off ha hlt)]
    exact hc i hi

theorem BytesAt.below {w w' : World} {a : Option Addr} {xs : List Int} (h : BytesAt w a xs) (hb : Below w.heap.size w w') : BytesAt w' a xs :=
  h.of_block hb.size fun b _ _ hlt => hb.block b hlt

theorem BytesAt.take {w : World} {a : Option Addr} {xs : List Int} (h : BytesAt w a xs) (n : Nat) : BytesAt w a (xs.take n) := by
  rcases h with ⟨ha, hx⟩ | ⟨b, off, ha, hlt, hc⟩
  · exact .inl ⟨ha, by simp [hx]⟩
  · refine .inr ⟨b, off, ha, hlt, fun i hi => ?_⟩
    have hi' : i < n ∧ i < xs.length := by simpa [Nat.lt_min] using hi
    rw [hc i hi'.2]
    simp [List.getD, hi'.1]

theorem run_bytes_string (w : World) (a : Option Addr) (cap : Nat) (xs : List Int) (h : BytesAt w a xs) :
    (convert 23 9 (.slice a xs.length cap)).run Try.prog w = .ok (.string (strOfNums xs)) w := by
  rcases h with ⟨rfl, rfl⟩ | ⟨b, off, rfl, _, hc⟩
  · exact run_convert_bytes_nil w 23 5 (by kernel_rfl) (by kernel_rfl) _ _ 9 (by kernel_rfl)
  · exact run_convert_bytes_arg w 23 5 (by kernel_rfl) (by kernel_rfl) b off _ cap xs rfl hc 9 (by kernel_rfl)

theorem strOfNums_eq (xs ys : List Int) (hx : Bys xs) (hy : Bys ys) : ((strOfNums xs).toList == (strOfNums ys).toList) = decide (xs = ys) := by
  rw [ByteArray.toList_eq, ByteArray.toList_eq, strOfNums_data, strOfNums_data]
  rw [Bool.eq_iff_iff, beq_iff_eq, decide_eq_true_iff]
  refine ⟨fun h => ?_, fun h => by rw [h]⟩
  induction xs generalizing ys with
  | nil => cases ys with
    | nil => rfl
    | cons y ys => simp at h
  | cons x xs ih => cases ys with
    | nil => simp at h
    | cons y ys =>
      simp only [List.map_cons, List.cons.injEq] at h
      have hx0 := hx x (by simp)
      have hy0 := hy y (by simp)
      have e : x = y := by
        have := congrArg UInt8.toNat h.1
        simp only [UInt8.toNat_ofNat'] at this
        omega
      rw [e, ih ys (fun z hz => hx z (by simp [hz])) (fun z hz => hy z (by simp [hz])) h.2]

/-- satchelkit.SameBytes -/
theorem same_any (w : World) (a b : Option Addr) (ca cb : Nat) (xs ys : List Int) (hx : Bys xs) (hy : Bys ys) (ha : BytesAt w a xs) (hb : BytesAt w b ys) :
    Calls Try.prog 19 #[.slice a xs.length ca, .slice b ys.length cb] w fun e w' => e = .returned (.bool (decide (xs = ys))) ∧ w = w' := by
  have c1 := run_bytes_string w a ca xs ha
  have c2 := run_bytes_string w b cb ys hb
  have he := strOfNums_eq xs ys hx hy
  clear ha hb hx hy
  go_enter Try.func19, Try.ntmps19
  go_wp2
  go_ret
  exact ⟨rfl, rfl⟩

/-- how many bytes a number has -/
def sizeN (n : Int) : Nat := if n < 0 ∨ 2147483647 < n then 0 else if n < 128 then 1 else if n < 16384 then 2 else if n < 2097152 then 3 else if n < 268435456 then 4 else 5

theorem div_succ (n : Int) (j : Nat) : n / 128 ^ (j + 1) = n / 128 ^ j / 128 := by
  have : (0 : Int) ≤ 128 ^ j := Int.pow_nonneg (by decide)
  rw [Int.pow_succ, Int.ediv_ediv, if_neg (by omega), Int.sub_zero]

theorem sizeN_of (n : Int) (j : Nat) (h0 : 0 ≤ n) (h1 : n ≤ 2147483647) (hj : 1 ≤ j) (hj5 : j ≤ 5) (hz : n / 128 ^ j ≤ 0) (hlo : j = 1 ∨ 0 < n / 128 ^ (j - 1)) : (j : Int) = sizeN n := by
  unfold sizeN
  obtain rfl | rfl | rfl | rfl | rfl : j = 1 ∨ j = 2 ∨ j = 3 ∨ j = 4 ∨ j = 5 := by omega
  all_goals simp at hz hlo
  all_goals (repeat' split) <;> simp <;> omega

set_option maxHeartbeats 400000 in
theorem size_in (n : Int) (w : World) (h0 : 0 ≤ n) (h1 : n ≤ 2147483647) :
    Calls Try.prog 18 #[.int .i64 n] w fun e w' => e = .returned (.int .i64 (sizeN n)) ∧ w = w' := by
  go_enter Try.func18, Try.ntmps18
  go_wp2
  go_loop [0, 3] (fun a k => ∃ j : Nat, 1 ≤ j ∧ j ≤ 5 ∧ (j = 1 ∨ 0 < n / 128 ^ (j - 1)) ∧ a = .int .i64 (n / 128 ^ j) ∧ k = .int .i64 j) (fun _ k => (5 - intOf k).toNat)
  case atStart => exact ⟨1, by omega, by omega, .inl rfl, by simp, rfl⟩
  case round =>
    obtain ⟨j, hj1, hj5, hlo, rfl, rfl⟩ := hrel
    have hd := div_succ n j
    have hn : 0 ≤ n / 128 ^ j := Int.ediv_nonneg h0 (Int.pow_nonneg (by decide))
    have hnm : n / 128 ^ j ≤ 2147483647 := Int.le_trans (Int.ediv_le_self _ h0) h1
    by_cases hlt : 0 < n / 128 ^ j
    · have h5 : j < 5 := by
        refine Nat.lt_of_le_of_ne hj5 ?_
        rintro rfl
        simp at hlt
        omega
      have HD := Lib.hid hd
      clear hd
      go_wp2
      go_round
      case rel => exact ⟨j + 1, by omega, by omega, .inr (by simpa using hlt), by rw [HD.out], by go_num⟩
      case measure => simp [intOf]; omega
    · clear hd
      go_wp2
      go_ret
      exact ⟨ret_int (sizeN_of n j h0 h1 hj1 hj5 (by omega) hlo), rfl⟩

theorem size_out (n : Int) (w : World) (h : n < 0 ∨ 2147483647 < n) :
    Calls Try.prog 18 #[.int .i64 n] w fun e w' => e = .returned (.int .i64 (sizeN n)) ∧ w = w' := by
  have hs : sizeN n = 0 := by unfold sizeN; rw [if_pos h]
  rw [hs]
  clear hs
  rcases h with h | h
  · go_enter Try.func18, Try.ntmps18
    go_wp2
    go_ret
    exact ⟨rfl, rfl⟩
  · have h' : ¬ n < 0 := by omega
    go_enter Try.func18, Try.ntmps18
    go_wp2
    go_ret
    exact ⟨rfl, rfl⟩

theorem size_any (n : Int) (w : World) :
    Calls Try.prog 18 #[.int .i64 n] w fun e w' => e = .returned (.int .i64 (sizeN n)) ∧ w = w' := by
  by_cases h : n < 0 ∨ 2147483647 < n
  · exact size_out n w h
  · exact size_in n w (by omega) (by omega)

end Go.Proofs.Ytkfhljggdcajpaa
