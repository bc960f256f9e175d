/-
  Package satchelkit: OverBytes, KeptBytes.
-/
import Derived.Test.YtkfhljggdcajpaaKit
namespace Go.Proofs.Ytkfhljggdcajpaa
open Go.RowKit

/-- what OverBytes leaves: the row alone has turned -/
def Over (a : Option Addr) (w : World) (e : Ending) (w' : World) : Prop :=
  e = .returned (.tuple #[]) ∧ Below 0 w w' ∧ ∀ k, k < w.heap.size → blk a ≠ some k → w'.heap[k]? = w.heap[k]?

set_option maxRecDepth 100000 in
set_option maxHeartbeats 400000 in
theorem over_any (w : World) (a : Option Addr) (cap : Nat) (xs : List Int) (h : Full w a cap xs) :
    Calls Try.prog 32 #[.slice a xs.length cap] w fun e w' => Over a w e w' := by
  rcases h with ⟨rfl, rfl, rfl⟩ | ⟨g, zs, rfl, hr, hl, hm, ht, hle⟩
  · go_enter Try.func32, Try.ntmps32
    go_wp2_with fail
    refine wp_loop_rounds 1 ?_
    rw [rounds_succ]
    go_wp2_with fail
    go_end0
    exact ⟨rfl, Below.refl _ _, fun _ _ _ => rfl⟩
  · have hM := Moved.refl g none w
    have HR := Lib.hid hr
    have HM := Lib.hid hM
    have hcap : (cap : Int) ≤ 9223372036854775807 := by unfold maxLen at hm; omega
    have hle' : (xs.length : Int) ≤ cap := by omega
    clear hr hM ht hm
    go_enter Try.func32, Try.ntmps32
    go_wp2_with fail
    go_loopw [3] (fun s3 wr => ∃ k : Nat, k ≤ cap ∧ s3 = .int .i64 (k : Int) ∧ Hid (∃ ys : List Int, ys.length = cap ∧ RowB wr g ys) ∧ Hid (Moved g none none w wr)) (fun s3 _ => (cap - intOf s3).toNat)
    case atStart => exact ⟨0, by omega, rfl, Lib.hid ⟨zs, hl, HR.out⟩, HM⟩
    case round =>
      obtain ⟨k, hk, rfl, HY, HM1⟩ := hrel
      obtain ⟨ys, hyl, hry⟩ := HY.out
      by_cases hk3 : k < cap
      · have ck := hry.cell k (by omega)
        have fk := hry.frozen k
        have HRY := Lib.hid hry
        clear hry
        generalize hv : ys.getD k 0 = v at ck
        clear hv
        go_wp2_with fail
        refine ⟨⟨k + 1, by omega, by go_num, Lib.hid ⟨_, ?_, HRY.out.set k _⟩, Lib.hid (HM1.out.trans (Moved.set _ _ _ _))⟩, by simp [intOf]; omega⟩
        rw [List.length_set]; exact hyl
      · obtain rfl : k = cap := by omega
        clear hry
        go_wp2_with fail
        go_end0
        have hm := HM1.out
        exact ⟨rfl, ⟨hm.os, hm.tape, hm.output, hm.size, fun j hj => absurd hj (Nat.not_lt_zero j)⟩, fun j hj hb => hm.block j hj (fun e => hb (by rw [e]; rfl)) (by simp)⟩

theorem RowB.full {w : World} {g : Nat} {xs ys : List Int} (h : RowB w g (xs ++ ys)) (hm : (xs ++ ys).length ≤ maxLen) : Full w (some ⟨g, 0, none⟩) (xs.length + ys.length) xs :=
  .inr ⟨g, xs ++ ys, rfl, h, by simp, by simpa using hm, by simp, by omega⟩

theorem lent_m (w : World) (a : Option Addr) (cap n m : Nat) (xs : List Int) (hn : xs.length = n) (hm : n + 3 = m) (h : Src w a xs) (hlen : m ≤ 140737488355328) :
    Calls Try.prog 22 #[.slice a n cap] w fun e w' => e = .returned (.slice (some ⟨w.heap.size, 0, none⟩) n m) ∧ RowB w' w.heap.size (xs ++ marks n) ∧ Below w.heap.size w w' ∧ w.heap.size < w'.heap.size := by
  subst hn; subst hm
  exact lent_any w a cap xs h hlen

theorem same_m (w : World) (a b : Option Addr) (ca cb m : Nat) (xs : List Int) (hx : xs.length = m) (hbx : Bys xs) (ha : BytesAt w a xs) (hb : BytesAt w b xs) :
    Calls Try.prog 19 #[.slice a m ca, .slice b m cb] w fun e w' => e = .returned (.bool true) ∧ w = w' := by
  subst hx
  have h := same_any w a b ca cb xs xs hbx hbx ha hb
  rw [decide_eq_true rfl] at h
  exact h

set_option maxRecDepth 100000 in
set_option maxHeartbeats 400000 in
/-- KeptBytes of what LentBytes laid, and nobody wrote upon -/
theorem kept_m (w : World) (g : Nat) (a : Option Addr) (cap n m : Nat) (xs : List Int) (hx : Bys xs) (hn : xs.length = n) (hm : n + 3 = m) (hr : RowB w g (xs ++ marks n)) (h : Src w a xs) (hlen : m ≤ 140737488355328) :
    Calls Try.prog 31 #[.slice (some ⟨g, 0, none⟩) n m, .slice a n cap] w fun e w' => e = .returned (.bool true) ∧ Below w.heap.size w w' := by
  have hl3 : (xs ++ marks n).length = m := by simp [marks]; omega
  have hby : Bys (xs ++ marks n) := hx.append (marks_bys _)
  have HR := Lib.hid (hr.below (Below.refl w.heap.size w).drew)
  have HS := Lib.hid (h.bytesAt_or _ (Below.refl w.heap.size w).drew)
  have HB0 := Lib.hid (Below.refl w.heap.size w).drew
  have HBy := Lib.hid hby
  have HL := Lib.hid hl3
  have HN := Lib.hid hn
  have HM := Lib.hid hm
  have q0 : (0 : Int) ≤ m := by omega
  have q1 : (n : Int) ≤ m := by omega
  have q2 : IntKind.i64.wrap ((n : Int) + 3) = (m : Int) := by rw [wrap_in _ (by omega) (by omega)]; omega
  clear hr h hby hl3 hx hn hm
  go_enter Try.func31, Try.ntmps31
  go_wp2_with fail
  go_region_held3 (fun w' => RowB w' g (xs ++ marks n) ∧ Src w' a xs)
    (first | exact ⟨HR.out, HS.out⟩ | exact ⟨k0, k1⟩ | go_keep)
    (first | (go_at_call 22; refine (lent_m _ _ _ _ _ _ HN.out HM.out HS.out hlen).mono ?_; rintro e w1 ⟨rfl, hr1, hb1, hlt1⟩; have k0 := HR.out.below hb1; have k1 := HS.out.bytesAt_or _ hb1)
           | (go_at_call 19; refine (same_m _ _ _ _ _ _ _ HL.out HBy.out k0.bytes hr1.bytes).mono ?_; rintro e w2 ⟨rfl, rfl⟩))
  go_wp2_with fail
  go_ret
  exact ⟨rfl, HB0.out.trans hb1⟩

end Go.Proofs.Ytkfhljggdcajpaa
