/-
  The reader of package field: Open, Fault; the statements' own fails; awake of layer 1.
-/
import Derived.Test.YtkfhljggdcajpaaRdInt
import Derived.Test.YtkfhljggdcajpaaWrBytes
namespace Go.Proofs.Ytkfhljggdcajpaa
open Go.RowKit

section
variable {w w' : World} {b : Nat} {a : Option Addr} {cap : Nat} {xs : List Int} {pos : Nat} {err fat : Int}
theorem RAt.below (h : RAt w b a cap xs pos err fat) (hb : Below w.heap.size w w') : RAt w' b a cap xs pos err fat :=
  ⟨(hb.block b h.lt).trans h.str, h.byt.below hb, h.apart, h.bys, h.le, h.len, h.capLe⟩
theorem Below.moved (h : Below w.heap.size w w') (b : Nat) : Moved b none none w w' := ⟨h.os, h.tape, h.output, h.size, fun k hk _ _ => h.block k hk, .inl rfl⟩
end

set_option maxHeartbeats 400000 in
theorem fault_any (w : World) (b : Nat) (a : Option Addr) (cap : Nat) (xs : List Int) (at0 : Nat) (err fat : Int) (h : RAt w b a cap xs at0 err fat) :
    Calls Try.prog 39 #[.pointer (some ⟨b, 0, none⟩)] w fun e w' => e = .returned (.agg #[.int .i64 err, .int .i64 fat]) ∧ Below w.heap.size w w' := by
  have hnot : ∀ (x : Bool) (w : World), (Op.unary .not (.bool x)).run Try.prog w = .ok (.bool (!x)) w := fun _ _ => rfl
  obtain ⟨c0, c1, c2, c3, c4⟩ := h.cells
  have hlt := h.lt
  go_enter Try.func39, Try.ntmps39
  go_wp2
  refine bodyPost_ret (v := .agg #[.int .i64 err, .int .i64 fat]) (by simp [results, Try.results39, go_sem]) rfl ⟨rfl, (Below.refl _ _).alloc (Nat.le_refl _) _⟩

/-- a reader that was opened -/
def Opened (w : World) (xs : List Int) (e : Ending) (w' : World) : Prop :=
  ∃ b a cap, e = .returned (.pointer (some ⟨b, 0, none⟩)) ∧ RAt w' b a cap xs 0 0 0 ∧ w.heap.size ≤ b ∧ Below w.heap.size w w' ∧ (∀ k, blk a = some k → w.heap.size ≤ k)

theorem opened_of {w w1 : World} {a : Option Addr} {cap : Nat} {xs : List Int} (h : BytesAt w1 a xs) (hx : Bys xs) (hlen : xs.length ≤ 140737488355328) (hcap : xs.length ≤ cap) (hb : Below w.heap.size w w1) (ha : ∀ k, blk a = some k → w.heap.size ≤ k) :
    Opened w xs (.returned (.pointer (some ⟨w1.heap.size, 0, none⟩))) (w1.alloc (.cells #[.bool true, .slice a xs.length cap, .int .i64 0, .int .i64 0, .int .i64 0] 63)) := by
  have hap : blk a ≠ some w1.heap.size := by
    rcases h with ⟨e, _⟩ | ⟨g, off, e, hg, _⟩
    · rw [e]; intro c; cases c
    · rw [e]; intro c; have := Option.some.inj c; simp only at this; omega
  refine ⟨w1.heap.size, a, cap, rfl, ⟨?_, h.of_block (by simp) fun g _ _ hg => Below.heap_alloc _ _ _ hg, hap, hx, Nat.zero_le _, hlen, hcap⟩, hb.size, hb.alloc hb.size _, ha⟩
  have := heap_alloc_new w1 (.cells #[.bool true, .slice a xs.length cap, .int .i64 0, .int .i64 0, .int .i64 0] 63)
  simpa using this

set_option maxHeartbeats 400000 in
theorem open_any (w : World) (a : Option Addr) (cap : Nat) (xs : List Int) (h : Src w a xs) (hx : Bys xs) (hlen : xs.length ≤ 140737488355328) :
    Calls Try.prog 37 #[.slice a xs.length cap] w fun e w' => Opened w xs e w' := by
  go_enter Try.func37, Try.ntmps37
  go_wp2_with (at_builtin; refine wpList_append_bytes _ rfl (.const (.slice none 0 0)) (.tmp 3) rfl none 0 [] rfl (Owns.nil _) a cap xs rfl h (by simpa using hlen) ?_; intro a1 cap1 w1 own1 grow1 at1)
  go_ret
  rw [List.nil_append] at own1
  refine opened_of own1.bytes hx hlen own1.le_cap ((Below.refl _ _).grown grow1 (Nat.le_refl _) (fun k hk => by cases hk)) (fun k hk => ?_)
  rcases at1 with h | h
  · rw [h] at hk; cases hk
  · rw [h] at hk; cases hk; exact Nat.le_refl _

/-- what a read of a number leaves in the reader -/
def intEnd (xs : List Int) (at0 : Nat) (low high : Int) : Int × Nat × Int × Int :=
  match bnd xs at0 low high 5 with
  | .ok (v, nx) => (v, nx, 0, 0)
  | .error (er, fa) => (0, at0, er, fa)

theorem rint_any (w : World) (b : Nat) (a : Option Addr) (cap : Nat) (xs : List Int) (at0 : Nat) (low high : Int) (h : RAt w b a cap xs at0 0 0) :
    Calls Try.prog 38 #[.pointer (some ⟨b, 0, none⟩), .int .i64 low, .int .i64 high] w fun e w' => e = .returned (.int .i64 (intEnd xs at0 low high).1) ∧
      RAt w' b a cap xs (intEnd xs at0 low high).2.1 (intEnd xs at0 low high).2.2.1 (intEnd xs at0 low high).2.2.2 ∧ Moved b none none w w' := by
  unfold intEnd
  cases hr : bnd xs at0 low high 5 with
  | ok p => obtain ⟨v, nx⟩ := p; exact rint_ok w b a cap xs at0 low high v nx h hr
  | error f => obtain ⟨er, fa⟩ := f; exact rint_err w b a cap xs at0 low high er fa h hr

theorem Moved.below' {b : Nat} {w w' : World} (h : Moved b none none w w') {B : Nat} (hB : B ≤ w.heap.size) (hb : B ≤ b) : Below B w w' :=
  h.below hB hb (fun k hk => by cases hk)

set_option maxRecDepth 100000 in
set_option maxHeartbeats 400000 in
/-- satchellaw01.fails -/
theorem fails_any (w : World) (a : Option Addr) (cap : Nat) (xs : List Int) (er fa : Int) (h : BytesAt w a xs) (hx : Bys xs) (hlen : xs.length ≤ 140737488355328)
    (hr : intEnd xs 0 0 2147483647 = (0, 0, er, fa)) :
    Calls Try.prog 45 #[.slice a xs.length cap, .int .i64 er, .int .i64 fa] w fun e w' => e = .returned (.bool true) ∧ Below w.heap.size w w' := by
  have Hr := Lib.hid hr
  clear hr
  go_enter Try.func45, Try.ntmps45
  go_wp2_with fail
  refine (open_any _ _ _ _ (.inr h) hx hlen).mono ?_
  rintro e w1 ⟨b, a1, cap1, rfl, hR, hb, hB, _⟩
  have HR := Lib.hid hR
  clear hR
  go_wp2_with fail
  refine (rint_any _ _ _ _ _ _ _ _ HR.out).mono ?_
  rw [Hr.out]
  rintro e w2 ⟨rfl, hR2, hM2⟩
  have HR2 := Lib.hid hR2
  clear hR2
  go_wp2_with fail
  refine (fault_any _ _ _ _ _ _ _ _ HR2.out).mono ?_
  rintro e w3 ⟨rfl, hB3⟩
  go_wp2_with fail
  go_ret
  refine ⟨rfl, (hB.trans (hM2.below' hB.size hb)).trans (hB3.mono ?_)⟩
  have := hB.size
  have := hM2.size
  omega

theorem is_lit (w : World) (n : Int) (a : Option Addr) (cap len : Nat) (xs : List Int) (hl : xs.length = len) (hx : Bys xs) (ha : BytesAt w a xs) (r : Bool) (hr : decide (put n = xs) = r) :
    Calls Try.prog 44 #[.int .i64 n, .slice a len cap] w fun e w' => e = .returned (.bool r) ∧ Below w.heap.size w w' := by
  subst hl; subst hr; exact is_any w n a cap xs ha hx

theorem fails_lit (w : World) (a : Option Addr) (cap len : Nat) (xs : List Int) (er fa : Int) (hl : xs.length = len) (hx : Bys xs) (hlen : len ≤ 140737488355328)
    (hr : intEnd xs 0 0 2147483647 = (0, 0, er, fa)) (h : BytesAt w a xs) :
    Calls Try.prog 45 #[.slice a len cap, .int .i64 er, .int .i64 fa] w fun e w' => e = .returned (.bool true) ∧ Below w.heap.size w w' := by
  subst hl; exact fails_any w a cap xs er fa h hx hlen hr

set_option maxRecDepth 100000 in
set_option maxHeartbeats 400000 in
/-- satchellaw01.awake -/
theorem awake_any (w : World) : Calls Try.prog 16 #[] w fun e w' => e = .returned (.bool true) ∧ Below w.heap.size w w' := by
  go_enter Try.func16, Try.ntmps16
  go_wp2_with fail
  refine (is_lit _ 0 _ 1 1 [0] rfl (bys_lit (by decide)) (BytesAt.lit w [0] _) true (by decide)).mono ?_
  rintro e w1 ⟨rfl, hb1⟩
  go_wp2_with fail
  refine (is_lit _ 128 _ 2 2 [129, 0] rfl (bys_lit (by decide)) (BytesAt.lit w1 [129, 0] _) true (by decide)).mono ?_
  rintro e w2 ⟨rfl, hb2⟩
  go_wp2_with fail
  refine (fails_lit _ _ 2 2 [128, 1] 4 0 rfl (bys_lit (by decide)) (by decide) (by decide) (BytesAt.lit w2 [128, 1] _)).mono ?_
  rintro e w3 ⟨rfl, hb3⟩
  go_wp2_with fail
  refine (fails_lit _ _ 1 1 [129] 4 1 rfl (bys_lit (by decide)) (by decide) (by decide) (BytesAt.lit w3 [129] _)).mono ?_
  rintro e w4 ⟨rfl, hb4⟩
  go_wp2_with fail
  refine (size_lit 128 2 _ (by decide)).mono ?_
  rintro e w5 ⟨rfl, rfl⟩
  go_wp2_with fail
  go_ret
  refine ⟨rfl, ?_⟩
  have h1 := ((Below.refl w.heap.size w).alloc (Nat.le_refl _) _).trans (hb1.mono (by simp))
  have h2 := (h1.alloc h1.size _).trans (hb2.mono (by have := h1.size; simp; omega))
  have h3 := (h2.alloc h2.size _).trans (hb3.mono (by have := h2.size; simp; omega))
  exact (h3.alloc h3.size _).trans (hb4.mono (by have := h3.size; simp; omega))

end Go.Proofs.Ytkfhljggdcajpaa
