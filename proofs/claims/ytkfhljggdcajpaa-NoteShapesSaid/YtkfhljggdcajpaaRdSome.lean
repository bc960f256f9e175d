/-
  The reader of package field: so many bytes.
-/
import Derived.Test.YtkfhljggdcajpaaRdOpen
import Derived.Test.YtkfhljggdcajpaaWrBytes
namespace Go.Proofs.Ytkfhljggdcajpaa
open Go.RowKit

/-- so many bytes, read -/
def SomeOk (w : World) (b : Nat) (a : Option Addr) (cap : Nat) (xs : List Int) (at0 n : Nat) (e : Ending) (w' : World) : Prop :=
  ∃ a' cap', e = .returned (.slice a' n cap') ∧ RAt w' b a cap xs (at0 + n) 0 0 ∧ Owns w' a' cap' ((xs.drop at0).take n) ∧ (∀ k, blk a' = some k → w.heap.size ≤ k) ∧ Moved b none none w w'

theorem BytesAt.sub {w : World} {g off : Nat} {xs : List Int} (h : BytesAt w (some ⟨g, off, none⟩) xs) (p n : Nat) (hp : p + n ≤ xs.length) : BytesAt w (some ⟨g, off + p, none⟩) ((xs.drop p).take n) := by
  rcases h with ⟨h, _⟩ | ⟨g', off', h, hg, hc⟩
  · cases h
  · cases h
    refine .inr ⟨g, off + p, rfl, hg, fun i hi => ?_⟩
    have hi' : i < n := by simp at hi; omega
    rw [Nat.add_assoc, hc (p + i) (by omega)]
    congr 2
    simp [List.getD, hi']

theorem wrap_in (n : Int) (h0 : -9223372036854775808 ≤ n) (h1 : n ≤ 9223372036854775807) : IntKind.i64.wrap n = n := IntWalk.i64_in n (by omega)

set_option maxRecDepth 100000 in
set_option maxHeartbeats 400000 in
theorem some_err (w : World) (b : Nat) (a : Option Addr) (cap : Nat) (xs : List Int) (at0 : Nat) (n : Int) (h : RAt w b a cap xs at0 0 0) (hn : (xs.length : Int) - at0 < n) :
    Calls Try.prog 71 #[.pointer (some ⟨b, 0, none⟩), .int .i64 n] w fun e w' => e = .panicked [{ v := .iface 110 (.agg #[.int .i64 4, .int .i64 xs.length]), recovered := false }] ∧ RAt w' b a cap xs at0 0 0 ∧ Moved b none none w w' := by
  obtain ⟨c0, c1, c2, c3, c4⟩ := h.cells
  have hle := h.le
  have hlen := h.len
  have hwr : IntKind.i64.wrap ((xs.length : Int) - at0) = (xs.length : Int) - at0 := wrap_in _ (by omega) (by omega)
  go_enter Try.func71, Try.ntmps71
  go_wp2_with fail
  go_quiet (fail)
  go_wp2_with (go_at_call 89; refine (give_any _ _ _).mono ?_; rintro e w' ⟨rfl, rfl⟩)
  exact ⟨rfl, rfl, h.drewN _, (Moved.refl _ _ _).drewN _⟩

theorem RAt.cut {w : World} {b g off cap : Nat} {xs : List Int} {at0 n : Nat} (h : RAt w b (some ⟨g, off, none⟩) cap xs at0 0 0) (hn : at0 + n ≤ xs.length) :
    ∃ A : Option Addr, (if cap = at0 then (some ⟨g, off, none⟩ : Option Addr) else some ⟨g, off + at0, none⟩) = A ∧ BytesAt w A ((xs.drop at0).take n) ∧ blk A = some g := by
  by_cases hc : cap = at0
  · refine ⟨some ⟨g, off, none⟩, by rw [if_pos hc], ?_, rfl⟩
    have hz : (xs.drop at0).take n = [] := by
      have := h.capLe
      apply List.eq_nil_of_length_eq_zero
      simp; omega
    rw [hz]
    refine .inr ⟨g, off, rfl, h.blk_lt g rfl, fun i hi => by simp at hi⟩
  · exact ⟨some ⟨g, off + at0, none⟩, by rw [if_neg hc], h.byt.sub at0 n hn, rfl⟩

set_option maxRecDepth 100000 in
set_option maxHeartbeats 400000 in
theorem some_mid (w : World) (b : Nat) (g off : Nat) (cap : Nat) (xs : List Int) (at0 n : Nat) (h : RAt w b (some ⟨g, off, none⟩) cap xs at0 0 0) (hn : at0 + n ≤ xs.length) :
    Calls Try.prog 71 #[.pointer (some ⟨b, 0, none⟩), .int .i64 n] w fun e w' => SomeOk w b (some ⟨g, off, none⟩) cap xs at0 n e w' := by
  obtain ⟨c0, c1, c2, c3, c4⟩ := h.cells
  have e2 := h.free 2
  have hle := h.le
  have hlen := h.len
  have hcap := h.capLe
  have hlt := h.lt
  obtain ⟨A, hA, hsub, hblk⟩ := h.cut hn
  have hap := h.apart
  have hll : ((xs.drop at0).take n).length = n := by simp; omega
  have hwr : IntKind.i64.wrap ((xs.length : Int) - at0) = (xs.length : Int) - at0 := wrap_in _ (by omega) (by omega)
  have hwr4 : IntKind.i64.wrap (at0 : Int) = at0 := wrap_in _ (by omega) (by omega)
  have hnn : ¬ (xs.length : Int) - at0 < n := by omega
  have k1 : (0 : Int) ≤ (at0 : Int) + n := by omega
  have k2 : (at0 : Int) + n ≤ cap := by omega
  have k3 : ((at0 : Int) + n).toNat = at0 + n := by omega
  have hfin : ∀ (V : World) (m : Nat), Moved b none none w V → RAt V b (some ⟨g, off, none⟩) cap xs (at0 + n) 0 0 → ∀ a1 cap1 w1, Owns w1 a1 cap1 ([] ++ (xs.drop at0).take n) → V.grownBy w1 (blk none) → (blk a1 = blk none ∨ blk a1 = some V.heap.size) → m = n → SomeOk w b (some ⟨g, off, none⟩) cap xs at0 n (.returned (.slice a1 m cap1)) w1 := by
    intro V m hM hR a1 cap1 w1 own1 grow1 at1 hm
    subst hm
    have hb1 : Below V.heap.size V w1 := (Below.refl _ _).grown grow1 (Nat.le_refl _) (fun k hk => by cases hk)
    refine ⟨a1, cap1, rfl, hR.below hb1, by simpa using own1, fun k hk => ?_, hM.trans (Below.moved hb1 b)⟩
    rcases at1 with e | e
    · rw [e] at hk; cases hk
    · rw [e] at hk; cases hk; exact hM.size
  have Hfin := Lib.hid hfin
  have HA := Lib.hid hA
  have H := Lib.hid h
  have Hll := Lib.hid hll
  have K3 := Lib.hid k3
  have Hap := Lib.hid hap
  have Hblk := Lib.hid hblk
  have Hx : xs.length + n ≤ 281474976710656 := by omega
  have Hn2 : n ≤ 140737488355328 := by omega
  clear hfin hA h hll k3 hap hblk
  go_enter Try.func71, Try.ntmps71
  go_wp2_with fail
  go_quiet (fail)
  go_wp2_with fail
  have hA := HA.out
  have k3 := K3.out
  have hM1 : Moved b none none w ((w.drewN nq).setCell ⟨b, 2, none⟩ (.int .i64 ((at0 : Int) + n))) := ((Moved.refl _ _ _).drewN _).trans (Moved.set _ _ _ _)
  have hR1 := (H.out.drewN nq).place (at0 + n) ((at0 : Int) + n) (by omega) hn
  have hs1 := hsub.moved hM1 (by rw [Hblk.out]; exact Hap.out) (fun k _ e => by cases e)
  have HM1 := Lib.hid hM1
  have HR1 := Lib.hid hR1
  have HS1 := Lib.hid hs1
  clear hM1 hR1 hs1 hsub
  go_region_law (((refine step_append_bytes _ rfl (.const (.slice none 0 0)) (.tmp 45) rfl none 0 [] rfl (Owns.nil _) A (cap - at0) n ((xs.drop at0).take n) Hll.out rfl (.inr HS1.out) (by rw [Hll.out]; simp; omega) ?_); intro a1 cap1 w1 own1 grow1 at1))
  all_goals go_wp2
  all_goals go_ret
  all_goals exact Hfin.out _ _ (HM1.out.drewN 1) (HR1.out.drewN 1) _ _ _ own1 grow1 at1 rfl

/-- of nothing, nothing is read -/
theorem some_nil (w : World) (b : Nat) (cap : Nat) (h : RAt w b none cap [] 0 0 0) :
    Calls Try.prog 71 #[.pointer (some ⟨b, 0, none⟩), .int .i64 0] w fun e w' => SomeOk w b none cap [] 0 0 e w' := by
  obtain ⟨c0, c1, c2, c3, c4⟩ := h.cells
  have e2 := h.free 2
  have hlt := h.lt
  have hwr : IntKind.i64.wrap 0 = 0 := by decide
  have H := Lib.hid h
  clear h
  go_enter Try.func71, Try.ntmps71
  go_wp2_with fail
  go_quiet (fail)
  go_wp2_with fail
  go_region_law (fail)
  all_goals go_wp2
  all_goals go_ret
  all_goals exact ⟨none, 0, rfl, ((H.out.drewN nq).place 0 0 rfl (Nat.zero_le _)).drewN 1, Owns.nil _, (fun k hk => by cases hk), (((Moved.refl _ _ _).drewN nq).trans (Moved.set _ _ _ _)).drewN 1⟩

theorem some_ok (w : World) (b : Nat) (a : Option Addr) (cap : Nat) (xs : List Int) (at0 n : Nat) (h : RAt w b a cap xs at0 0 0) (hn : at0 + n ≤ xs.length) :
    Calls Try.prog 71 #[.pointer (some ⟨b, 0, none⟩), .int .i64 n] w fun e w' => SomeOk w b a cap xs at0 n e w' := by
  rcases h.byt with ⟨rfl, rfl⟩ | ⟨g, off, rfl, _, _⟩
  · obtain rfl : at0 = 0 := by simp at hn; omega
    obtain rfl : n = 0 := by simp at hn; omega
    exact some_nil w b cap h
  · exact some_mid w b g off cap xs at0 n h hn

/-- so many bytes behind a count, as the reader reads them: the fault, or the bytes and the place behind them -/
def rdBytes (xs : List Int) (at0 : Nat) (most : Int) : Except (Int × Int) (List Int × Nat) :=
  match bnd xs at0 0 most 3 with
  | .error f => .error f
  | .ok (v, nx) => if (xs.length : Int) - nx < v then .error (4, xs.length) else .ok ((xs.drop nx).take v.toNat, nx + v.toNat)

end Go.Proofs.Ytkfhljggdcajpaa
