/-
  satchellaw10: fails, NoteKnown.
-/
import Derived.Test.YtkfhljggdcajpaaAwn
import Derived.Test.YtkfhljggdcajpaaKnown
namespace Go.Proofs.Ytkfhljggdcajpaa
open Go.RowKit Go.Sort

def noNote : Note := ⟨0, [], [], []⟩
theorem noNote_in (w : World) (aN aI aB : Option Addr) : NoteIn w noNote aN aI aB := ⟨.inl rfl, .inl rfl, .inl rfl, (fun x hx => by cases hx), Bys.nil, by decide, by decide, by decide⟩

theorem same_none (w : World) : Calls Try.prog 55 #[.agg #[.int .i64 0, .slice none 0 0, .slice none 0 0, .slice none 0 0], .agg #[.int .i64 0, .slice none 0 0, .slice none 0 0, .slice none 0 0]] w fun e w' => e = .returned (.bool true) ∧ Below w.heap.size w w' :=
  (same_note_any w noNote noNote none none none none none none 0 0 0 0 0 0 (noNote_in _ _ _ _) (noNote_in _ _ _ _)).mono fun e w' ⟨he, hb⟩ => ⟨by rw [he, decide_eq_true rfl], hb⟩

set_option maxRecDepth 100000 in
set_option maxHeartbeats 1000000 in
/-- satchellaw10.fails -/
theorem fails10_any (w : World) (a : Option Addr) (cap : Nat) (xs : List Int) (er fa : Int) (h : Src w a xs) (hx : Bys xs) (hlen : xs.length ≤ 2 ^ 38) (hr : rdNote xs = .error (er, fa)) :
    Calls Try.prog 60 #[.slice a xs.length cap, .int .i64 er, .int .i64 fa] w fun e w' => e = .returned (.bool true) ∧ Below w.heap.size w w' := by
  have hrd := read_any w a cap xs h hx hlen
  unfold ReadEnd zeroNote at hrd
  rw [hr] at hrd
  have Hrd := Lib.hid hrd
  clear hrd h hx hr
  go_enter Try.func60, Try.ntmps60
  go_wp2_with fail
  refine Hrd.out.mono ?_
  rintro e w1 ⟨hB, rfl⟩
  have hs := hB.size
  have HB := Lib.hid hB
  clear hB
  go_wp2_with fail
  refine (same_none _).mono ?_
  rintro e w2 ⟨rfl, hB2⟩
  have hr2 := (hB2.block (w1.heap.size + 1) (by simp)).trans (heap_alloc2_new w1 (.cells #[.int .i64 0, .slice none 0 0, .slice none 0 0, .slice none 0 0] 69) (.cells #[.int .i64 er, .int .i64 fa] 51))
  have c0 : w2.cell? ⟨w1.heap.size + 1, 0, none⟩ = some (.int .i64 er) := by rw [cell_of_row _ _ _ _ _ _ hr2]; rfl
  have c1 : w2.cell? ⟨w1.heap.size + 1, 1, none⟩ = some (.int .i64 fa) := by rw [cell_of_row _ _ _ _ _ _ hr2]; rfl
  have HB2 := Lib.hid hB2
  clear hB2 hr2
  go_wp2_with fail
  go_ret
  refine ⟨rfl, (((HB.out.alloc hs _).alloc (by simp; omega) _).trans (HB2.out.mono (by simp; omega)))⟩

theorem fails10_lit (w : World) (a : Option Addr) (cap len : Nat) (xs : List Int) (er fa : Int) (hl : xs.length = len) (hx : Bys xs) (hlen : len ≤ 2 ^ 38) (hr : rdNote xs = .error (er, fa)) (h : BytesAt w a xs) :
    Calls Try.prog 60 #[.slice a len cap, .int .i64 er, .int .i64 fa] w fun e w' => e = .returned (.bool true) ∧ Below w.heap.size w w' := by
  subst hl; exact fails10_any w a cap xs er fa (.inr h) hx hlen hr

theorem obytes_lit (w : World) (x : Note) (aN : Option Addr) (cN : Nat) (aI : Option Addr) (cI : Nat) (aB : Option Addr) (cB : Nat) (k : Int) (nN nI nB : Nat) (hk : x.kind = k) (hN : x.ns.length = nN) (hI : x.ids.length = nI) (hB : x.bs.length = nB) (h : NoteIn w x aN aI aB)
    (bs : List Int) (hbs : (if x.err = 0 then noteBytes x else []) = bs) (L : Nat) (hL : bs.length = L) :
    Calls Try.prog 59 #[.agg #[.int .i64 k, .slice aN nN cN, .slice aI nI cI, .slice aB nB cB]] w fun e w' => ∃ a cap, e = .returned (.slice a L cap) ∧ BytesAt w' a bs ∧ Below w.heap.size w w' := by
  subst hk hN hI hB hbs hL
  exact (obytes_any w x aN cN aI cI aB cB h).mono fun e w' ⟨a, cap, he, own, _, _, hb⟩ => ⟨a, cap, he, own.bytes, hb⟩

theorem check_lit (w : World) (k : Int) (aN aI aB : Option Addr) (cN cI cB : Nat) (E : Int) (hE : noteErr k [] 0 0 = E) : Calls Try.prog 53 #[.agg #[.int .i64 k, .slice aN 0 cN, .slice aI 0 cI, .slice aB 0 cB]] w fun e w' => e = .returned (.int .i64 E) ∧ Below w.heap.size w w' := by
  subst hE
  exact check_any k [] 0 0 aN aI aB cN cI cB w (.inl rfl) (by decide)

theorem bel_trans {W W1 W2 : World} (h1 : Below W.heap.size W W1) (h2 : Below W1.heap.size W1 W2) : Below W.heap.size W W2 := h1.trans (h2.mono h1.size)
theorem bel_alloc {W W1 : World} (o : Obj) (h : Below W.heap.size W W1) : Below W.heap.size W (W1.alloc o) := h.alloc h.size _

def doneNote : Note := ⟨19, [7], [], []⟩

theorem rn0 : rdNote [25] = .error (5, 0) := by kernel_rfl
theorem rn1 : rdNote [5, 1, 0, 0] = .error (3, 1) := by kernel_rfl
theorem rn2 : rdNote [2, 0] = .error (5, 1) := by kernel_rfl
theorem rn3 : rdNote [5, 0, 0, 0, 0] = .error (4, 4) := by kernel_rfl
theorem rn4 : rdNote [5, 0, 0] = .error (4, 3) := by kernel_rfl
theorem ob1 : (if doneNote.err = 0 then noteBytes doneNote else []) = [19, 1, 7, 0, 0] := by kernel_rfl
theorem ob2 : (if partNote.err = 0 then noteBytes partNote else []) = [2, 1, 130, 44, 0, 2, 1, 2] := by kernel_rfl
theorem ce1 : noteErr 0 [] 0 0 = 2 := by kernel_rfl
theorem ce2 : noteErr 19 [] 0 0 = 5 := by kernel_rfl

set_option maxRecDepth 1000000 in
set_option maxHeartbeats 2000000 in
theorem known10_any (w : World) : Calls Try.prog 15 #[] w fun e w' => e = .returned (.bool true) ∧ Below w.heap.size w w' := by
  have hnot : ∀ (x : Bool) (w : World), (Op.unary .not (.bool x)).run Try.prog w = .ok (.bool (!x)) w := fun _ _ => rfl
  have b1 : Bys [19, 1, 7, 0, 0] := bys_lit (by decide)
  have b2 : Bys [2, 1, 130, 44, 0, 2, 1, 2] := bys_lit (by decide)
  have B1 := Lib.hid b1
  have B2 := Lib.hid b2
  clear b1 b2
  go_enter Try.func15, Try.ntmps15
  go_wp2_with fail
  refine (obytes_lit _ doneNote _ 1 none 0 none 0 19 1 0 0 rfl rfl rfl rfl ⟨ints_lit w [7] 3, .inl rfl, .inl rfl, (fun x hx => by cases hx), Bys.nil, by decide, by decide, by decide⟩ [19, 1, 7, 0, 0] ob1 5 rfl).mono ?_
  rintro e w1 ⟨a1, cap1, rfl, hb1, hB1⟩
  have H1 := Lib.hid (bel_trans (bel_alloc _ (Below.refl w.heap.size w)) hB1)
  have HB1 := Lib.hid hb1
  clear hB1 hb1
  go_wp2_with fail
  refine (same_lit _ a1 _ cap1 5 5 5 [19, 1, 7, 0, 0] [19, 1, 7, 0, 0] rfl rfl B1.out B1.out (HB1.out.below ((Below.refl _ _).alloc (Nat.le_refl _) _)) (BytesAt.lit w1 [19, 1, 7, 0, 0] 5) true rfl).mono ?_
  rintro e w2 ⟨rfl, rfl⟩
  go_wp2_with fail
  refine (part_any _).mono ?_
  rintro e w3 ⟨aP, aQ, rfl, hP, hB3⟩
  have H3 := Lib.hid (bel_trans (bel_alloc _ H1.out) hB3)
  have HP := Lib.hid hP
  clear hB3 hP
  go_wp2_with fail
  refine (obytes_lit _ partNote aP 1 none 0 aQ 2 2 1 0 2 rfl rfl rfl rfl HP.out [2, 1, 130, 44, 0, 2, 1, 2] ob2 8 rfl).mono ?_
  rintro e w4 ⟨a4, cap4, rfl, hb4, hB4⟩
  have H4 := Lib.hid (bel_trans H3.out hB4)
  have HB4 := Lib.hid hb4
  clear hB4 hb4
  go_wp2_with fail
  refine (same_lit _ a4 _ cap4 8 8 8 [2, 1, 130, 44, 0, 2, 1, 2] [2, 1, 130, 44, 0, 2, 1, 2] rfl rfl B2.out B2.out (HB4.out.below ((Below.refl _ _).alloc (Nat.le_refl _) _)) (BytesAt.lit w4 [2, 1, 130, 44, 0, 2, 1, 2] 5) true rfl).mono ?_
  rintro e w5 ⟨rfl, hw5⟩
  have H5 : Hid (Below w.heap.size w w5) := by rw [← hw5]; exact bel_alloc _ H4.out
  clear hw5
  go_wp2_with fail
  refine (fails10_lit _ _ 1 1 [25] 5 0 rfl (bys_lit (by decide)) (by decide) rn0 (BytesAt.lit _ [25] 5)).mono ?_
  rintro e w6 ⟨rfl, hB⟩
  have H6 := Lib.hid (bel_trans (bel_alloc _ H5.out) hB)
  clear hB
  go_wp2_with fail
  refine (fails10_lit _ _ 4 4 [5, 1, 0, 0] 3 1 rfl (bys_lit (by decide)) (by decide) rn1 (BytesAt.lit _ [5, 1, 0, 0] 5)).mono ?_
  rintro e w7 ⟨rfl, hB⟩
  have H7 := Lib.hid (bel_trans (bel_alloc _ H6.out) hB)
  clear hB
  go_wp2_with fail
  refine (fails10_lit _ _ 2 2 [2, 0] 5 1 rfl (bys_lit (by decide)) (by decide) rn2 (BytesAt.lit _ [2, 0] 5)).mono ?_
  rintro e w8 ⟨rfl, hB⟩
  have H8 := Lib.hid (bel_trans (bel_alloc _ H7.out) hB)
  clear hB
  go_wp2_with fail
  refine (fails10_lit _ _ 5 5 [5, 0, 0, 0, 0] 4 4 rfl (bys_lit (by decide)) (by decide) rn3 (BytesAt.lit _ [5, 0, 0, 0, 0] 5)).mono ?_
  rintro e w9 ⟨rfl, hB⟩
  have H9 := Lib.hid (bel_trans (bel_alloc _ H8.out) hB)
  clear hB
  go_wp2_with fail
  refine (fails10_lit _ _ 3 3 [5, 0, 0] 4 3 rfl (bys_lit (by decide)) (by decide) rn4 (BytesAt.lit _ [5, 0, 0] 5)).mono ?_
  rintro e w10 ⟨rfl, hB⟩
  have H10 := Lib.hid (bel_trans (bel_alloc _ H9.out) hB)
  clear hB
  go_wp2_with fail
  refine (awake10_any _).mono ?_
  rintro e w11 ⟨rfl, hB⟩
  have H11 := Lib.hid (bel_trans H10.out hB)
  clear hB
  go_wp2_with fail
  refine (check_lit _ 0 none none none 0 0 0 2 ce1).mono ?_
  rintro e w12 ⟨rfl, hB⟩
  have H12 := Lib.hid (bel_trans H11.out hB)
  clear hB
  go_wp2_with fail
  refine (check_lit _ 19 none none none 0 0 0 5 ce2).mono ?_
  rintro e w13 ⟨rfl, hB⟩
  have H13 := Lib.hid (bel_trans H12.out hB)
  clear hB
  go_wp2_with fail
  refine (agents_any 15 _).mono ?_
  rintro e w14 ⟨rfl, rfl⟩
  go_wp2_with fail
  refine (agents_any 16 _).mono ?_
  rintro e w14 ⟨rfl, rfl⟩
  go_wp2_with fail
  go_ret
  exact ⟨rfl, H13.out⟩

end Go.Proofs.Ytkfhljggdcajpaa
