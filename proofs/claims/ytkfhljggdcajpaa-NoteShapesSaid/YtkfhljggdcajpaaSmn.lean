/-
  satchelkit.SameNote; a note as it lies in memory.
-/
import Derived.Test.YtkfhljggdcajpaaSame
import Derived.Test.YtkfhljggdcajpaaRdCnt
namespace Go.Proofs.Ytkfhljggdcajpaa
open Go.RowKit Go.Sort

structure Note where
  kind : Int
  ns : List Int
  ids : List (List Int)
  bs : List Int
  deriving DecidableEq

/-- a note as a value -/
def Note.val (x : Note) (aN : Option Addr) (cN : Nat) (aI : Option Addr) (cI : Nat) (aB : Option Addr) (cB : Nat) : Value := .agg #[.int .i64 x.kind, .slice aN x.ns.length cN, .slice aI x.ids.length cI, .slice aB x.bs.length cB]

/-- a note's parts lie there -/
structure NoteIn (w : World) (x : Note) (aN aI aB : Option Addr) : Prop where
  ns : IntsAt w aN x.ns
  ids : IdsAt w aI x.ids
  bs : Src w aB x.bs
  wid : Ids x.ids
  wbs : Bys x.bs
  ln : x.ns.length < 2 ^ 40
  li : x.ids.length < 2 ^ 40
  lb : x.bs.length < 2 ^ 40

theorem NoteIn.below {w w' : World} {x : Note} {aN aI aB : Option Addr} (h : NoteIn w x aN aI aB) (hb : Below w.heap.size w w') : NoteIn w' x aN aI aB :=
  ⟨h.ns.below hb (Nat.le_refl _), h.ids.below hb (Nat.le_refl _), h.bs.imp id (fun k => k.below hb), h.wid, h.wbs, h.ln, h.li, h.lb⟩

theorem same_src (w : World) (a b : Option Addr) (ca cb : Nat) (xs ys : List Int) (hx : Bys xs) (hy : Bys ys) (ha : Src w a xs) (hb : Src w b ys) :
    Calls Try.prog 19 #[.slice a xs.length ca, .slice b ys.length cb] w fun e w' => e = .returned (.bool (decide (xs = ys))) ∧ w = w' := by
  have c1 := run_src_string w a ca xs ha
  have c2 := run_src_string w b cb ys hb
  have he := strOfNums_eq xs ys hx hy
  clear ha hb hx hy
  go_enter Try.func19, Try.ntmps19
  go_wp2
  go_ret
  exact ⟨rfl, rfl⟩

theorem same_ints_k (w : World) (a b : Option Addr) (ca cb : Nat) (xs ys : List Int) (ha : IntsAt w a xs) (hb : IntsAt w b ys) (hlx : xs.length < 2 ^ 40) (E : Bool) (hE : decide (xs = ys) = E) :
    Calls Try.prog 77 #[.slice a xs.length ca, .slice b ys.length cb] w fun e w' => e = .returned (.bool E) ∧ ∃ n, w' = w.drewN n := by
  subst hE; exact same_ints_any w a b ca cb xs ys ha hb hlx
theorem same_ids_k (w : World) (a b : Option Addr) (ca cb : Nat) (xs ys : List (List Int)) (ha : IdsAt w a xs) (hb : IdsAt w b ys) (hx : Ids xs) (hy : Ids ys) (hlx : xs.length < 2 ^ 40) (E : Bool) (hE : decide (xs = ys) = E) :
    Calls Try.prog 78 #[.slice a xs.length ca, .slice b ys.length cb] w fun e w' => e = .returned (.bool E) ∧ ∃ n, w' = w.drewN n := by
  subst hE; exact same_ids_any w a b ca cb xs ys ha hb hx hy hlx
theorem same_src_k (w : World) (a b : Option Addr) (ca cb : Nat) (xs ys : List Int) (hx : Bys xs) (hy : Bys ys) (ha : Src w a xs) (hb : Src w b ys) (E : Bool) (hE : decide (xs = ys) = E) :
    Calls Try.prog 19 #[.slice a xs.length ca, .slice b ys.length cb] w fun e w' => e = .returned (.bool E) ∧ w = w' := by
  subst hE; exact same_src w a b ca cb xs ys hx hy ha hb

set_option maxRecDepth 100000 in
set_option maxHeartbeats 1000000 in
theorem same_note_any (w : World) (x y : Note) (aN aI aB bN bI bB : Option Addr) (cN cI cB dN dI dB : Nat) (hx : NoteIn w x aN aI aB) (hy : NoteIn w y bN bI bB) :
    Calls Try.prog 55 #[x.val aN cN aI cI aB cB, y.val bN dN bI dI bB dB] w fun e w' => e = .returned (.bool (decide (x = y))) ∧ Below w.heap.size w w' := by
  obtain ⟨xk, xn, xi, xb⟩ := x
  obtain ⟨yk, yn, yi, yb⟩ := y
  obtain ⟨E, hE⟩ : ∃ E, decide ((⟨xk, xn, xi, xb⟩ : Note) = ⟨yk, yn, yi, yb⟩) = E := ⟨_, rfl⟩
  rw [hE]
  simp only [Note.mk.injEq] at hE
  replace hE := Lib.hid hE
  have hBel : ∀ n, Below w.heap.size w (((w.alloc (.cells #[.int .i64 xk, .slice aN xn.length cN, .slice aI xi.length cI, .slice aB xb.length cB] 69)).alloc (.cells #[.int .i64 yk, .slice bN yn.length dN, .slice bI yi.length dI, .slice bB yb.length dB] 69)).drewN n) := fun n => (((Below.refl _ _).alloc (Nat.le_refl _) _).alloc (by simp) _).trans (below_drewN' _ _ _)
  have HBel := Lib.hid hBel
  have HX : ∀ n, Hid (NoteIn (((w.alloc (.cells #[.int .i64 xk, .slice aN xn.length cN, .slice aI xi.length cI, .slice aB xb.length cB] 69)).alloc (.cells #[.int .i64 yk, .slice bN yn.length dN, .slice bI yi.length dI, .slice bB yb.length dB] 69)).drewN n) ⟨xk, xn, xi, xb⟩ aN aI aB) := fun n => Lib.hid (hx.below (hBel n))
  have HY : ∀ n, Hid (NoteIn (((w.alloc (.cells #[.int .i64 xk, .slice aN xn.length cN, .slice aI xi.length cI, .slice aB xb.length cB] 69)).alloc (.cells #[.int .i64 yk, .slice bN yn.length dN, .slice bI yi.length dI, .slice bB yb.length dB] 69)).drewN n) ⟨yk, yn, yi, yb⟩ bN bI bB) := fun n => Lib.hid (hy.below (hBel n))
  clear hBel hx hy
  unfold Note.val
  go_enter Try.func55, Try.ntmps55
  by_cases h1 : xk = yk
  · subst h1
    have hB0 := HX 0
    have hC0 := HY 0
    rw [World.drewN_zero] at hB0 hC0
    by_cases h2 : xn = yn
    · have H2 := Lib.hid h2
      clear h2
      go_wp2_with fail
      refine (same_ints_k _ _ _ _ _ _ _ hB0.out.ns hC0.out.ns hB0.out.ln true (by simpa using H2.out)).mono ?_
      rintro e w1 ⟨rfl, n1, rfl⟩
      have hB1 := HX n1
      have hC1 := HY n1
      by_cases h3 : xi = yi
      · have H3 := Lib.hid h3
        clear h3
        go_wp2_with fail
        refine (same_ids_k _ _ _ _ _ _ _ hB1.out.ids hC1.out.ids hB1.out.wid hC1.out.wid hB1.out.li true (by simpa using H3.out)).mono ?_
        rintro e w1 ⟨rfl, n2, rfl⟩
        have hB2 := HX (n1 + n2)
        have hC2 := HY (n1 + n2)
        have hq := HBel.out (n1 + n2)
        have HQ := Lib.hid hq
        clear hq
        go_wp2_with fail
        refine (same_src_k _ _ _ _ _ _ _ hB2.out.wbs hC2.out.wbs hB2.out.bs hC2.out.bs E (by rw [← hE.out]; simp [H2.out, H3.out])).mono ?_
        rintro e w1 ⟨rfl, rfl⟩
        go_wp2_with fail
        go_ret
        exact ⟨rfl, HQ⟩
      · have h5 : E = false := by rw [← hE.out]; simp [h3]
        subst h5
        go_wp2_with fail
        refine (same_ids_k _ _ _ _ _ _ _ hB1.out.ids hC1.out.ids hB1.out.wid hC1.out.wid hB1.out.li false (by simpa using h3)).mono ?_
        rintro e w1 ⟨rfl, n2, rfl⟩
        have hq := HBel.out (n1 + n2)
        have HQ := Lib.hid hq
        clear hq
        go_wp2_with fail
        go_ret
        exact ⟨rfl, HQ⟩
    · have h5 : E = false := by rw [← hE.out]; simp [h2]
      subst h5
      go_wp2_with fail
      refine (same_ints_k _ _ _ _ _ _ _ hB0.out.ns hC0.out.ns hB0.out.ln false (by simpa using h2)).mono ?_
      rintro e w1 ⟨rfl, n1, rfl⟩
      have HQ : Hid _ := HBel.out n1
      go_wp2_with fail
      go_ret
      exact ⟨rfl, HQ⟩
  · have h5 : E = false := by rw [← hE.out]; simp [h1]
    subst h5
    have hq := HBel.out 0
    rw [World.drewN_zero] at hq
    have HQ := Lib.hid hq
    clear hq
    go_wp2_with fail
    go_ret
    exact ⟨rfl, HQ⟩

end Go.Proofs.Ytkfhljggdcajpaa
