/-
  The reader of package field: a number within bounds; the calls that catch the fault.
-/
import Derived.Test.YtkfhljggdcajpaaRd
namespace Go.Proofs.Ytkfhljggdcajpaa
open Go.RowKit

set_option maxRecDepth 100000 in
set_option maxHeartbeats 400000 in
theorem rnumber_128 (w : World) (b : Nat) (a : Option Addr) (cap : Nat) (xs : List Int) (at0 : Nat) (h : RAt w b a cap xs at0 0 0) (hat : at0 < xs.length) (hv : xs.getD at0 0 = 128) :
    Calls Try.prog 88 #[.pointer (some ⟨b, 0, none⟩)] w fun e w' => e = .panicked [{ v := .iface 110 (.agg #[.int .i64 4, .int .i64 at0]), recovered := false }] ∧ w = w' := by
  obtain ⟨c0, c1, c2, c3, c4⟩ := h.cells
  have hlen := h.len
  have hlt := h.lt
  obtain ⟨g, off, rfl, hg, hc⟩ : ∃ g off, a = some ⟨g, off, none⟩ ∧ g < w.heap.size ∧ ∀ i, i < xs.length → w.cell? ⟨g, off + i, none⟩ = some (.int .u8 (xs.getD i 0)) := by
    rcases h.byt with ⟨_, hx⟩ | k
    · rw [hx] at hat; simp at hat
    · exact k
  have hc0 := hc at0 hat
  rw [hv] at hc0
  clear hc hv
  go_enter Try.func88, Try.ntmps88
  go_wp2_with (go_at_call 89; refine (give_any _ _ _).mono ?_; rintro e w' ⟨rfl, rfl⟩)
  exact ⟨rfl, rfl, rfl⟩

theorem rnumber_any (w : World) (b : Nat) (a : Option Addr) (cap : Nat) (xs : List Int) (at0 : Nat) (h : RAt w b a cap xs at0 0 0) :
    Calls Try.prog 88 #[.pointer (some ⟨b, 0, none⟩)] w fun e w' => Rdn w b a cap xs (rd xs at0) e w' := by
  by_cases hn : at0 < xs.length ∧ xs.getD at0 0 = 128
  · refine (rnumber_128 w b a cap xs at0 h hn.1 hn.2).mono fun e w' ⟨he, hw⟩ => ?_
    subst he; subst hw
    rw [rd, if_pos hn]
    exact ⟨at0, h, Moved.refl _ _ _, rfl⟩
  · rw [rd, if_neg hn]
    exact rnumber_go w b a cap xs at0 h hn

theorem rnumber_ok (w : World) (b : Nat) (a : Option Addr) (cap : Nat) (xs : List Int) (at0 : Nat) (h : RAt w b a cap xs at0 0 0) (v : Int) (nx : Nat) (hr : rd xs at0 = .ok (v, nx)) :
    Calls Try.prog 88 #[.pointer (some ⟨b, 0, none⟩)] w fun e w' => e = .returned (.int .i64 v) ∧ RAt w' b a cap xs nx 0 0 ∧ Moved b none none w w' := by
  refine (rnumber_any w b a cap xs at0 h).mono fun e w' hq => ?_
  rw [hr] at hq
  obtain ⟨pos, h1, h2, h3, h4⟩ := hq
  subst h4
  exact ⟨h3, h1, h2⟩

theorem rnumber_err (w : World) (b : Nat) (a : Option Addr) (cap : Nat) (xs : List Int) (at0 : Nat) (h : RAt w b a cap xs at0 0 0) (er fa : Int) (hr : rd xs at0 = .error (er, fa)) :
    Calls Try.prog 88 #[.pointer (some ⟨b, 0, none⟩)] w fun e w' => e = .panicked [{ v := .iface 110 (.agg #[.int .i64 er, .int .i64 fa]), recovered := false }] ∧ ∃ pos, RAt w' b a cap xs pos 0 0 ∧ Moved b none none w w' := by
  refine (rnumber_any w b a cap xs at0 h).mono fun e w' hq => ?_
  rw [hr] at hq
  obtain ⟨pos, h1, h2, h3⟩ := hq
  exact ⟨h3, pos, h1, h2⟩

/-- a number from low to high; of a greater one this error -/
def bnd (xs : List Int) (at0 : Nat) (low high above : Int) : Except (Int × Int) (Int × Nat) :=
  match rd xs at0 with
  | .error f => .error f
  | .ok (v, nx) => if high < v then .error (above, at0) else if v < low then .error (5, at0) else .ok (v, nx)

set_option maxRecDepth 100000 in
set_option maxHeartbeats 400000 in
theorem bounded_any (w : World) (b : Nat) (a : Option Addr) (cap : Nat) (xs : List Int) (at0 : Nat) (low high above : Int) (h : RAt w b a cap xs at0 0 0) :
    Calls Try.prog 69 #[.pointer (some ⟨b, 0, none⟩), .int .i64 low, .int .i64 high, .int .i64 above] w fun e w' => Rdn w b a cap xs (bnd xs at0 low high above) e w' := by
  obtain ⟨c0, c1, c2, c3, c4⟩ := h.cells
  cases hr : rd xs at0 with
  | error f =>
    obtain ⟨er, fa⟩ := f
    have hb : bnd xs at0 low high above = .error (er, fa) := by rw [bnd, hr]
    have H := Lib.hid h
    have Hr := Lib.hid hr
    have Hb := Lib.hid hb
    clear hr hb h
    go_enter Try.func69, Try.ntmps69
    go_wp2_with fail
    refine (rnumber_err _ _ _ _ _ _ H.out _ _ Hr.out).mono ?_
    rintro e w1 ⟨rfl, pos, hR, hM⟩
    go_wp2_with fail
    show _ ∧ Rdn _ _ _ _ _ (bnd xs at0 low high above) _ _
    rw [Hb.out]
    exact ⟨rfl, pos, hR, hM, rfl⟩
  | ok p =>
    obtain ⟨v, nx⟩ := p
    have H := Lib.hid h
    have Hr := Lib.hid hr
    clear hr h
    by_cases h1 : high < v
    · have hb : bnd xs at0 low high above = .error (above, at0) := by rw [bnd, Hr.out]; simp only [if_pos h1]
      have Hb := Lib.hid hb
      clear hb
      go_enter Try.func69, Try.ntmps69
      go_wp2_with fail
      refine (rnumber_ok _ _ _ _ _ _ H.out _ _ Hr.out).mono ?_
      rintro e w1 ⟨rfl, hR, hM⟩
      go_wp2_with (go_at_call 89; refine (give_any _ _ _).mono ?_; rintro e w' ⟨rfl, rfl⟩)
      show _ ∧ Rdn _ _ _ _ _ (bnd xs at0 low high above) _ _
      rw [Hb.out]
      exact ⟨rfl, nx, hR, hM, rfl⟩
    · by_cases h2 : v < low
      · have hb : bnd xs at0 low high above = .error (5, at0) := by rw [bnd, Hr.out]; simp only [if_neg h1, if_pos h2]
        have Hb := Lib.hid hb
        clear hb
        go_enter Try.func69, Try.ntmps69
        go_wp2_with fail
        refine (rnumber_ok _ _ _ _ _ _ H.out _ _ Hr.out).mono ?_
        rintro e w1 ⟨rfl, hR, hM⟩
        go_wp2_with (go_at_call 89; refine (give_any _ _ _).mono ?_; rintro e w' ⟨rfl, rfl⟩)
        show _ ∧ Rdn _ _ _ _ _ (bnd xs at0 low high above) _ _
        rw [Hb.out]
        exact ⟨rfl, nx, hR, hM, rfl⟩
      · have hb : bnd xs at0 low high above = .ok (v, nx) := by rw [bnd, Hr.out]; simp only [if_neg h1, if_neg h2]
        have Hb := Lib.hid hb
        clear hb
        go_enter Try.func69, Try.ntmps69
        go_wp2_with fail
        refine (rnumber_ok _ _ _ _ _ _ H.out _ _ Hr.out).mono ?_
        rintro e w1 ⟨rfl, hR, hM⟩
        go_wp2_with fail
        go_ret
        rw [Hb.out]
        exact ⟨nx, hR, hM, rfl, rfl⟩

end Go.Proofs.Ytkfhljggdcajpaa
