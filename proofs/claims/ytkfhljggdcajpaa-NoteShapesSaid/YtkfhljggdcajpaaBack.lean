/-
  NoteBack: the walk.
-/
import Derived.Test.YtkfhljggdcajpaaKnn
import Derived.Test.YtkfhljggdcajpaaNop
import Derived.Test.YtkfhljggdcajpaaNpr
namespace Go.Proofs.Ytkfhljggdcajpaa
open Go.RowKit Go.Sort

theorem same_note_eq (w : World) (x : Note) (aN aI aB bN bI bB : Option Addr) (cN cI cB dN dI dB : Nat) (hx : NoteIn w x aN aI aB) (hy : NoteIn w x bN bI bB) :
    Calls Try.prog 55 #[.agg #[.int .i64 x.kind, .slice aN x.ns.length cN, .slice aI x.ids.length cI, .slice aB x.bs.length cB], .agg #[.int .i64 x.kind, .slice bN x.ns.length dN, .slice bI x.ids.length dI, .slice bB x.bs.length dB]] w fun e w' => e = .returned (.bool true) ∧ Below w.heap.size w w' :=
  (same_note_any w x x aN aI aB bN bI bB cN cI cB dN dI dB hx hy).mono fun e w' ⟨he, hb⟩ => ⟨by rw [he, decide_eq_true rfl], hb⟩

theorem read_ok (w : World) (a : Option Addr) (cap : Nat) (xs : List Int) (h : Src w a xs) (hx : Bys xs) (hlen : xs.length ≤ 2 ^ 38) (y : Note) (hr : rdNote xs = .ok y) :
    Calls Try.prog 57 #[.slice a xs.length cap] w fun e w' => ∃ aN cN aI cI aB cB, e = .returned (.tuple #[.agg #[.int .i64 y.kind, .slice aN y.ns.length cN, .slice aI y.ids.length cI, .slice aB y.bs.length cB], .agg #[.int .i64 0, .int .i64 0]]) ∧ NoteIn w' y aN aI aB ∧ Below w.heap.size w w' := by
  refine (read_any w a cap xs h hx hlen).mono ?_
  rintro e w' ⟨hB, hq⟩
  rw [hr] at hq
  obtain ⟨aN, cN, aI, cI, aB, cB, he, hn, _⟩ := hq
  exact ⟨aN, cN, aI, cI, aB, cB, he, hn, hB⟩
theorem read_no (w : World) (a : Option Addr) (cap : Nat) (xs : List Int) (h : Src w a xs) (hx : Bys xs) (hlen : xs.length ≤ 2 ^ 38) (er fa : Int) (hr : rdNote xs = .error (er, fa)) :
    Calls Try.prog 57 #[.slice a xs.length cap] w fun e w' => e = .returned (.tuple #[.agg #[.int .i64 0, .slice none 0 0, .slice none 0 0, .slice none 0 0], .agg #[.int .i64 er, .int .i64 fa]]) ∧ Below w.heap.size w w' := by
  refine (read_any w a cap xs h hx hlen).mono ?_
  rintro e w' ⟨hB, hq⟩
  rw [hr] at hq
  exact ⟨hq, hB⟩
theorem bytes_ok (w : World) (x : Note) (aN : Option Addr) (cN : Nat) (aI : Option Addr) (cI : Nat) (aB : Option Addr) (cB : Nat) (h : NoteIn w x aN aI aB) (he : x.err = 0) (bs : List Int) (hbs : noteBytes x = bs) :
    Calls Try.prog 51 #[.agg #[.int .i64 x.kind, .slice aN x.ns.length cN, .slice aI x.ids.length cI, .slice aB x.bs.length cB]] w fun e w' => ∃ a cap, e = .returned (.tuple #[.slice a bs.length cap, .int .i64 0]) ∧ BytesAt w' a bs ∧ Below w.heap.size w w' := by
  subst hbs
  refine (bytes_any w x aN cN aI cI aB cB h).mono ?_
  rintro e w' ⟨hB, hq⟩
  rw [if_pos he] at hq
  obtain ⟨a, cap, h1, h2, _⟩ := hq
  exact ⟨a, cap, h1, h2.bytes, hB⟩
theorem bytes_no (w : World) (x : Note) (aN : Option Addr) (cN : Nat) (aI : Option Addr) (cI : Nat) (aB : Option Addr) (cB : Nat) (h : NoteIn w x aN aI aB) (E : Int) (hE : x.err = E) (he : E ≠ 0) :
    Calls Try.prog 51 #[.agg #[.int .i64 x.kind, .slice aN x.ns.length cN, .slice aI x.ids.length cI, .slice aB x.bs.length cB]] w fun e w' => e = .returned (.tuple #[.slice none 0 0, .int .i64 E]) ∧ Below w.heap.size w w' := by
  subst hE
  refine (bytes_any w x aN cN aI cI aB cB h).mono ?_
  rintro e w' ⟨hB, hq⟩
  rw [if_neg he] at hq
  exact ⟨hq, hB⟩
theorem check_k (w : World) (x : Note) (aN : Option Addr) (cN : Nat) (aI : Option Addr) (cI : Nat) (aB : Option Addr) (cB : Nat) (h : NoteIn w x aN aI aB) (E : Int) (hE : x.err = E) :
    Calls Try.prog 53 #[.agg #[.int .i64 x.kind, .slice aN x.ns.length cN, .slice aI x.ids.length cI, .slice aB x.bs.length cB]] w fun e w' => e = .returned (.int .i64 E) ∧ Below w.heap.size w w' := by
  subst hE
  exact check_any x.kind x.ns x.ids.length x.bs.length aN aI aB cN cI cB w h.ns h.ln

theorem Src.bytesAt_or' {w : World} {a : Option Addr} {xs : List Int} (h : Src w a xs) {w' : World} (hb : Below w.heap.size w w') : Src w' a xs := h.imp id (fun k => k.below hb)

set_option maxRecDepth 1000000 in
set_option maxHeartbeats 2000000 in
theorem back_any (w : World) (x : Note) (aN : Option Addr) (cN : Nat) (aI : Option Addr) (cI : Nat) (aB : Option Addr) (cB : Nat) (ab : Option Addr) (cb : Nat) (xs : List Int) (h : NoteAny w x aN aI aB) (hs : Src w ab xs) (hys : Bys xs) :
    Calls Try.prog 10 #[.agg #[.int .i64 x.kind, .slice aN x.ns.length cN, .slice aI x.ids.length cI, .slice aB x.bs.length cB], .slice ab xs.length cb] w fun e w' => e = .returned (.bool true) ∧ Below w.heap.size w w' := by
  have hnot : ∀ (x : Bool) (w : World), (Op.unary .not (.bool x)).run Try.prog w = .ok (.bool (!x)) w := fun _ _ => rfl
  have Hx := Lib.hid h
  have Hsrc := Lib.hid hs
  have Hys := Lib.hid hys
  have R0 := Lib.hid (heap_alloc_new w (.cells #[.int .i64 x.kind, .slice aN x.ns.length cN, .slice aI x.ids.length cI, .slice aB x.bs.length cB] 69))
  clear h hs hys
  go_enter Try.func10, Try.ntmps10
  go_wp2_with fail
  refine (awake10_any _).mono ?_
  rintro e w1 ⟨rfl, hB1⟩
  have R1 := Lib.hid ((hB1.block _ (lt_of_row R0.out)).trans R0.out)
  have HB1 := Lib.hid (bel_trans (bel_alloc (.cells #[.int .i64 x.kind, .slice aN x.ns.length cN, .slice aI x.ids.length cI, .slice aB x.bs.length cB] 69) (Below.refl w.heap.size w)) hB1)
  clear hB1 R0
  have c0 : w1.cell? ⟨w.heap.size, 0, none⟩ = some (.int .i64 x.kind) := by rw [cell_of_row _ _ _ _ _ _ R1.out]; rfl
  have c1 : w1.cell? ⟨w.heap.size, 1, none⟩ = some (.slice aN x.ns.length cN) := by rw [cell_of_row _ _ _ _ _ _ R1.out]; rfl
  have c2 : w1.cell? ⟨w.heap.size, 2, none⟩ = some (.slice aI x.ids.length cI) := by rw [cell_of_row _ _ _ _ _ _ R1.out]; rfl
  have c3 : w1.cell? ⟨w.heap.size, 3, none⟩ = some (.slice aB x.bs.length cB) := by rw [cell_of_row _ _ _ _ _ _ R1.out]; rfl
  go_wp2_with fail
  by_cases hlong : 200 < x.ns.length ∨ 40 < x.ids.length ∨ 2000 < x.bs.length
  · refine (long_any _ _ _ _ _ _ _ _ _ _ _ true (decide_eq_true hlong)).mono ?_
    rintro e w2 ⟨rfl, hB2⟩
    have HB2 := Lib.hid (bel_trans HB1.out hB2)
    clear hB2 hlong
    go_wp2_with fail
    go_ret
    exact ⟨rfl, HB2.out⟩
  · refine (long_any _ _ _ _ _ _ _ _ _ _ _ false (decide_eq_false hlong)).mono ?_
    rintro e w2 ⟨rfl, hB2⟩
    have HB2 := Lib.hid (bel_trans HB1.out hB2)
    have R2 := Lib.hid ((hB2.block _ (lt_of_row R1.out)).trans R1.out)
    have HX := Lib.hid (Hx.out.inn hlong)
    clear hB2 hlong c0 c1 c2 c3 R1 HB1
    have c0 : w2.cell? ⟨w.heap.size, 0, none⟩ = some (.int .i64 x.kind) := by rw [cell_of_row _ _ _ _ _ _ R2.out]; rfl
    have c1 : w2.cell? ⟨w.heap.size, 1, none⟩ = some (.slice aN x.ns.length cN) := by rw [cell_of_row _ _ _ _ _ _ R2.out]; rfl
    have c2 : w2.cell? ⟨w.heap.size, 2, none⟩ = some (.slice aI x.ids.length cI) := by rw [cell_of_row _ _ _ _ _ _ R2.out]; rfl
    have c3 : w2.cell? ⟨w.heap.size, 3, none⟩ = some (.slice aB x.bs.length cB) := by rw [cell_of_row _ _ _ _ _ _ R2.out]; rfl
    by_cases hl : 2000 < xs.length
    · have hlz : (2000 : Int) < xs.length := by omega
      go_wp2_with fail
      go_ret
      exact ⟨rfl, HB2.out⟩
    · have hlz : ¬ (2000 : Int) < xs.length := by omega
      have hl2 : xs.length ≤ 2000 := by omega
      clear hl
      obtain ⟨E, hE⟩ : ∃ E, x.err = E := ⟨_, rfl⟩
      by_cases he : E = 0
      · subst he
        have HE := Lib.hid hE
        clear hE
        go_wp2_with fail
        refine (bytes_ok _ x _ _ _ _ _ _ (HX.out.below HB2.out) HE.out _ rfl).mono ?_
        rintro e w3 ⟨a3, cap3, rfl, hb3, hB3⟩
        have HB3 := Lib.hid (bel_trans HB2.out hB3)
        have R3 := Lib.hid ((hB3.block _ (lt_of_row R2.out)).trans R2.out)
        have Hb3 := Lib.hid hb3
        clear hB3 hb3 c0 c1 c2 c3
        have c0 : w3.cell? ⟨w.heap.size, 0, none⟩ = some (.int .i64 x.kind) := by rw [cell_of_row _ _ _ _ _ _ R3.out]; rfl
        have c1 : w3.cell? ⟨w.heap.size, 1, none⟩ = some (.slice aN x.ns.length cN) := by rw [cell_of_row _ _ _ _ _ _ R3.out]; rfl
        have c2 : w3.cell? ⟨w.heap.size, 2, none⟩ = some (.slice aI x.ids.length cI) := by rw [cell_of_row _ _ _ _ _ _ R3.out]; rfl
        have c3 : w3.cell? ⟨w.heap.size, 3, none⟩ = some (.slice aB x.bs.length cB) := by rw [cell_of_row _ _ _ _ _ _ R3.out]; rfl
        go_wp2_with fail
        refine (check_k _ x _ _ _ _ _ _ (HX.out.below HB3.out) 0 HE.out).mono ?_
        rintro e w4 ⟨rfl, hB4⟩
        have HB4 := Lib.hid (bel_trans HB3.out hB4)
        have R4 := Lib.hid ((hB4.block _ (lt_of_row R3.out)).trans R3.out)
        have Hb4 := Lib.hid (Hb3.out.below hB4)
        clear hB4 c0 c1 c2 c3 Hb3
        have c0 : w4.cell? ⟨w.heap.size, 0, none⟩ = some (.int .i64 x.kind) := by rw [cell_of_row _ _ _ _ _ _ R4.out]; rfl
        have c1 : w4.cell? ⟨w.heap.size, 1, none⟩ = some (.slice aN x.ns.length cN) := by rw [cell_of_row _ _ _ _ _ _ R4.out]; rfl
        have c2 : w4.cell? ⟨w.heap.size, 2, none⟩ = some (.slice aI x.ids.length cI) := by rw [cell_of_row _ _ _ _ _ _ R4.out]; rfl
        have c3 : w4.cell? ⟨w.heap.size, 3, none⟩ = some (.slice aB x.bs.length cB) := by rw [cell_of_row _ _ _ _ _ _ R4.out]; rfl
        have hnl : (noteBytes x).length ≤ 2 ^ 38 := noteBytes_len x HE.out HX.out.wid
        go_wp2_with fail
        refine (read_ok _ _ _ _ (.inr Hb4.out) (noteBytes_bys HX.out.wid HX.out.wbs) hnl x (note_whole x HE.out HX.out.wid)).mono ?_
        rintro e w5 ⟨bN, dN, bI, dI, bB, dB, rfl, hyn, hB5⟩
        have hk5 : Below w5.heap.size w5 ((w5.alloc (.cells #[.int .i64 x.kind, .slice bN x.ns.length dN, .slice bI x.ids.length dI, .slice bB x.bs.length dB] 69)).alloc (.cells #[.int .i64 0, .int .i64 0] 51)) := bel_alloc _ (bel_alloc _ (Below.refl _ _))
        have HB5 := Lib.hid (bel_trans HB4.out hB5)
        have R5 := Lib.hid ((hB5.block _ (lt_of_row R4.out)).trans R4.out)
        have HY := Lib.hid (hyn.below hk5)
        have HK := Lib.hid hk5
        have hlt5 := lt_of_row R5.out
        clear hB5 hyn hk5 c0 c1 c2 c3 R4 R3
        have c0 : w5.cell? ⟨w.heap.size, 0, none⟩ = some (.int .i64 x.kind) := by rw [cell_of_row _ _ _ _ _ _ R5.out]; rfl
        have c1 : w5.cell? ⟨w.heap.size, 1, none⟩ = some (.slice aN x.ns.length cN) := by rw [cell_of_row _ _ _ _ _ _ R5.out]; rfl
        have c2 : w5.cell? ⟨w.heap.size, 2, none⟩ = some (.slice aI x.ids.length cI) := by rw [cell_of_row _ _ _ _ _ _ R5.out]; rfl
        have c3 : w5.cell? ⟨w.heap.size, 3, none⟩ = some (.slice aB x.bs.length cB) := by rw [cell_of_row _ _ _ _ _ _ R5.out]; rfl
        go_wp2_with fail
        refine (same_note_eq _ x _ _ _ _ _ _ _ _ _ _ _ _ HY.out ((HX.out.below HB5.out).below HK.out)).mono ?_
        rintro e w6 ⟨rfl, hB6⟩
        have HB6 := Lib.hid (bel_trans (bel_trans HB5.out HK.out) hB6)
        clear hB6 c0 c1 c2 c3 HB5 HK HY Hb4
        go_wp2_with fail
        cases hr : rdNote xs with
        | error f =>
          obtain ⟨er, fa⟩ := f
          obtain ⟨⟨hf0, hf1⟩, hne⟩ := note_fault Hys.out hr
          have hneb : (er != 0) = true := by simpa using hne
          refine (read_no _ _ _ _ (Hsrc.out.bytesAt_or' HB6.out) Hys.out (by omega) er fa hr).mono ?_
          rintro e w8 ⟨rfl, hB8⟩
          have HB8 := Lib.hid (bel_trans HB6.out hB8)
          have HP := Lib.hid (heap_alloc2_new w8 (.cells #[.int .i64 0, .slice none 0 0, .slice none 0 0, .slice none 0 0] 69) (.cells #[.int .i64 er, .int .i64 fa] 51))
          clear hB8 hr
          go_wp2_with fail
          refine (same_none _).mono ?_
          rintro e w9 ⟨rfl, hB9⟩
          have hp9 := (hB9.block _ (lt_of_row HP.out)).trans HP.out
          have m1 : w9.cell? ⟨w8.heap.size + 1, 1, none⟩ = some (.int .i64 fa) := by rw [cell_of_row _ _ _ _ _ _ hp9]; rfl
          have HB9 := Lib.hid (bel_trans (bel_alloc _ (bel_alloc _ HB8.out)) hB9)
          clear hB9 hp9
          go_wp2_with fail
          go_ret
          exact ⟨rfl, HB9.out⟩
        | ok y =>
          obtain ⟨hye, hyb, hyi, hyB⟩ := note_back Hys.out hr
          refine (read_ok _ _ _ _ (Hsrc.out.bytesAt_or' HB6.out) Hys.out (by omega) y hr).mono ?_
          rintro e w8 ⟨bN, dN, bI, dI, bB, dB, rfl, hyn, hB8⟩
          have hk8 : Below w8.heap.size w8 ((w8.alloc (.cells #[.int .i64 y.kind, .slice bN y.ns.length dN, .slice bI y.ids.length dI, .slice bB y.bs.length dB] 69)).alloc (.cells #[.int .i64 0, .int .i64 0] 51)) := bel_alloc _ (bel_alloc _ (Below.refl _ _))
          have HB8 := Lib.hid (bel_trans (bel_trans HB6.out hB8) hk8)
          have HY := Lib.hid (hyn.below hk8)
          have Hyb := Lib.hid hyb
          clear hB8 hr hyn hk8 hyb
          go_wp2_with fail
          refine (bytes_ok _ y _ _ _ _ _ _ HY.out hye xs Hyb.out).mono ?_
          rintro e w9 ⟨a9, cap9, rfl, hb9, hB9⟩
          have HB9 := Lib.hid (bel_trans HB8.out hB9)
          have Hb9 := Lib.hid hb9
          clear hB9 hb9
          go_wp2_with fail
          refine (same_src_k _ a9 ab cap9 cb xs xs Hys.out Hys.out (.inr Hb9.out) (Hsrc.out.bytesAt_or' HB9.out) true (decide_eq_true rfl)).mono ?_
          rintro e w10 ⟨rfl, rfl⟩
          go_wp2_with fail
          go_ret
          exact ⟨rfl, HB9.out⟩
      · have hneb : (E == 0) = false := by simpa using he
        have hneb2 : (E != 0) = true := by simpa using he
        have HE := Lib.hid hE
        clear hE
        go_wp2_with fail
        refine (bytes_no _ x _ _ _ _ _ _ (HX.out.below HB2.out) E HE.out he).mono ?_
        rintro e w3 ⟨rfl, hB3⟩
        have HB3 := Lib.hid (bel_trans HB2.out hB3)
        have R3 := Lib.hid ((hB3.block _ (lt_of_row R2.out)).trans R2.out)
        clear hB3 c0 c1 c2 c3
        have c0 : w3.cell? ⟨w.heap.size, 0, none⟩ = some (.int .i64 x.kind) := by rw [cell_of_row _ _ _ _ _ _ R3.out]; rfl
        have c1 : w3.cell? ⟨w.heap.size, 1, none⟩ = some (.slice aN x.ns.length cN) := by rw [cell_of_row _ _ _ _ _ _ R3.out]; rfl
        have c2 : w3.cell? ⟨w.heap.size, 2, none⟩ = some (.slice aI x.ids.length cI) := by rw [cell_of_row _ _ _ _ _ _ R3.out]; rfl
        have c3 : w3.cell? ⟨w.heap.size, 3, none⟩ = some (.slice aB x.bs.length cB) := by rw [cell_of_row _ _ _ _ _ _ R3.out]; rfl
        go_wp2_with fail
        refine (check_k _ x _ _ _ _ _ _ (HX.out.below HB3.out) E HE.out).mono ?_
        rintro e w4 ⟨rfl, hB4⟩
        have HB6 := Lib.hid (bel_trans HB3.out hB4)
        clear hB4 c0 c1 c2 c3
        go_wp2_with fail
        cases hr : rdNote xs with
        | error f =>
          obtain ⟨er, fa⟩ := f
          obtain ⟨⟨hf0, hf1⟩, hne⟩ := note_fault Hys.out hr
          have hneb : (er != 0) = true := by simpa using hne
          refine (read_no _ _ _ _ (Hsrc.out.bytesAt_or' HB6.out) Hys.out (by omega) er fa hr).mono ?_
          rintro e w8 ⟨rfl, hB8⟩
          have HB8 := Lib.hid (bel_trans HB6.out hB8)
          have HP := Lib.hid (heap_alloc2_new w8 (.cells #[.int .i64 0, .slice none 0 0, .slice none 0 0, .slice none 0 0] 69) (.cells #[.int .i64 er, .int .i64 fa] 51))
          clear hB8 hr
          go_wp2_with fail
          refine (same_none _).mono ?_
          rintro e w9 ⟨rfl, hB9⟩
          have hp9 := (hB9.block _ (lt_of_row HP.out)).trans HP.out
          have m1 : w9.cell? ⟨w8.heap.size + 1, 1, none⟩ = some (.int .i64 fa) := by rw [cell_of_row _ _ _ _ _ _ hp9]; rfl
          have HB9 := Lib.hid (bel_trans (bel_alloc _ (bel_alloc _ HB8.out)) hB9)
          clear hB9 hp9
          go_wp2_with fail
          go_ret
          exact ⟨rfl, HB9.out⟩
        | ok y =>
          obtain ⟨hye, hyb, hyi, hyB⟩ := note_back Hys.out hr
          refine (read_ok _ _ _ _ (Hsrc.out.bytesAt_or' HB6.out) Hys.out (by omega) y hr).mono ?_
          rintro e w8 ⟨bN, dN, bI, dI, bB, dB, rfl, hyn, hB8⟩
          have hk8 : Below w8.heap.size w8 ((w8.alloc (.cells #[.int .i64 y.kind, .slice bN y.ns.length dN, .slice bI y.ids.length dI, .slice bB y.bs.length dB] 69)).alloc (.cells #[.int .i64 0, .int .i64 0] 51)) := bel_alloc _ (bel_alloc _ (Below.refl _ _))
          have HB8 := Lib.hid (bel_trans (bel_trans HB6.out hB8) hk8)
          have HY := Lib.hid (hyn.below hk8)
          have Hyb := Lib.hid hyb
          clear hB8 hr hyn hk8 hyb
          go_wp2_with fail
          refine (bytes_ok _ y _ _ _ _ _ _ HY.out hye xs Hyb.out).mono ?_
          rintro e w9 ⟨a9, cap9, rfl, hb9, hB9⟩
          have HB9 := Lib.hid (bel_trans HB8.out hB9)
          have Hb9 := Lib.hid hb9
          clear hB9 hb9
          go_wp2_with fail
          refine (same_src_k _ a9 ab cap9 cb xs xs Hys.out Hys.out (.inr Hb9.out) (Hsrc.out.bytesAt_or' HB9.out) true (decide_eq_true rfl)).mono ?_
          rintro e w10 ⟨rfl, rfl⟩
          go_wp2_with fail
          go_ret
          exact ⟨rfl, HB9.out⟩

end Go.Proofs.Ytkfhljggdcajpaa
