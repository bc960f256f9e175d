/-
  The law RatioPlaces's walk.
-/
import Derived.Test.YtdcaklonhbiejaaPlc
import Derived.Laws.MakeOwn
import Derived.Laws.OwnMore
import Derived.Deep.LoopGhost
namespace Go.Proofs.Ytdcaklonhbiejaa
open Go.Shelf Go.RowKit Go.Lib Go.Sort

/-! ### the first place is Pick's -/
theorem pick_least (xs : List Nat) (n : Nat) (hn : n ≤ xs.length) (h0 : 0 < n) : ∃ b : Nat, pickTo xs n = b ∧ b < n ∧ ∀ k, k < n → rkn xs b ≤ rkn xs k := by
  induction n with
  | zero => omega
  | succ n ih =>
    rw [pickTo_succ]
    rcases Nat.eq_zero_or_pos n with h | h
    · subst h
      refine ⟨0, ?_, by omega, fun k hk => ?_⟩
      · unfold pickStep; rw [if_pos (.inl (by show (-1 : Int) < 0; omega))]
      · obtain rfl : k = 0 := by omega
        exact Int.le_refl _
    · obtain ⟨b, hb, hbn, hmin⟩ := ih (by omega) h
      rw [hb]
      unfold pickStep
      rw [Int.toNat_natCast, bef_kf]
      have lex : ∀ p q, p < xs.length → q < xs.length → (rkn xs p < rkn xs q ↔ kf (xs.getD p 0) < kf (xs.getD q 0) ∨ (kf (xs.getD p 0) = kf (xs.getD q 0) ∧ (p : Int) < q)) := fun p q hp hq =>
        lex_lt (by omega) (by omega) (by omega) (by omega)
      by_cases hc : kf (xs.getD n 0) < kf (xs.getD b 0)
      · rw [if_pos (.inr (decide_eq_true hc))]
        refine ⟨n, rfl, by omega, fun k hk => ?_⟩
        by_cases hkn : k = n
        · subst hkn; exact Int.le_refl _
        · have h1 := hmin k (by omega)
          have h2 := (lex n b (by omega) (by omega)).2 (.inl hc)
          omega
      · rw [if_neg (by rw [not_or, decide_eq_true_iff]; exact ⟨by omega, hc⟩)]
        refine ⟨b, rfl, by omega, fun k hk => ?_⟩
        by_cases hkn : k = n
        · subst hkn
          have h2 := (lex b k (by omega) (by omega)).2 (by omega)
          omega
        · exact hmin k (by omega)

theorem pick_first {xs ps : List Nat} (h : Placed xs ps) (h0 : 0 < xs.length) : pickTo xs xs.length = ((ps.getD 0 0 : Nat) : Int) := by
  obtain ⟨b, hb, hbn, hmin⟩ := pick_least xs xs.length (Nat.le_refl _) h0
  rw [hb]
  obtain ⟨i, hi, e⟩ := h.all b hbn
  have h1 : rkn xs (ps.getD 0 0) ≤ rkn xs b := by
    rw [← e]
    rcases Nat.eq_zero_or_pos i with hz | hz
    · subst hz; exact Int.le_refl _
    · exact Int.le_of_lt (h.asc 0 i hz hi)
  have h2 := hmin (ps.getD 0 0) (h.lt 0 h0)
  have := rkn_inj hbn (h.lt 0 h0) (by omega)
  omega

theorem FloatsAt.drewN {w : World} {a : Option Addr} {xs : List Nat} (h : FloatsAt w a xs) (n : Nat) : FloatsAt (w.drewN n) a xs := h
theorem pick_q (w : World) (n : Nat) (a : Option Addr) (cap : Nat) (xs : List Nat) (h : FloatsAt w a xs) (hlen : xs.length ≤ 9223372036854775807) :
    Calls Try.prog 23 #[.slice a xs.length cap] (w.drewN n) fun e w'' => e = .returned (.int .i64 (pickTo xs xs.length)) ∧ ∃ m, w'' = w.drewN m :=
  Calls.quiet_of_same ((pick_any _ a cap xs (h.drewN n) hlen).mono fun _ _ ⟨h1, h2⟩ => ⟨h1, h2.symm⟩)

/-- of two places in a row: not ahead; and if not behind, lower -/
theorem placed_step {xs ps : List Nat} (h : Placed xs ps) (i : Nat) (hi : i + 1 < xs.length) :
    bef (xs.getD (ps.getD (i + 1) 0) 0) (xs.getD (ps.getD i 0) 0) = false ∧ (bef (xs.getD (ps.getD i 0) 0) (xs.getD (ps.getD (i + 1) 0) 0) = true ∨ (bef (xs.getD (ps.getD i 0) 0) (xs.getD (ps.getD (i + 1) 0) 0) = false ∧ ps.getD i 0 < ps.getD (i + 1) 0)) := by
  have h1 := h.asc i (i + 1) (by omega) hi
  have l1 := h.lt i (by omega)
  have l2 := h.lt (i + 1) hi
  have hx := (lex_lt (A := kf (xs.getD (ps.getD i 0) 0)) (B := kf (xs.getD (ps.getD (i + 1) 0) 0)) (x := ((ps.getD i 0 : Nat) : Int)) (y := ((ps.getD (i + 1) 0 : Nat) : Int)) (M := (xs.length : Int)) (by omega) (by omega) (by omega) (by omega)).1 h1
  rw [bef_kf, bef_kf]
  rw [decide_eq_false_iff_not, decide_eq_true_iff, decide_eq_false_iff_not]
  omega

/-- which places were told already -/
def Had (w : World) (hb : Nat) (ps : List Nat) (n i : Nat) : Prop := ∀ p, p < n → w.cell? ⟨hb, p, none⟩ = some (.bool (decide (∃ j, j < i ∧ ps.getD j 0 = p))) ∧ w.frozen? ⟨hb, p, none⟩ = false

theorem Had.step {w : World} {hb n i : Nat} {ps : List Nat} (h : Had w hb ps n i) (hi : ps.getD i 0 < n) : Had (w.setCell ⟨hb, ps.getD i 0, none⟩ (.bool true)) hb ps n (i + 1) := by
  intro p hp
  obtain ⟨h1, h2⟩ := h p hp
  refine ⟨?_, by rw [World.frozen?_setCell]; exact h2⟩
  by_cases e : ps.getD i 0 = p
  · subst e
    rw [World.cell?_setCell_same _ _ _ h1, decide_eq_true (⟨i, by omega, rfl⟩ : ∃ j, j < i + 1 ∧ ps.getD j 0 = ps.getD i 0)]
  · rw [World.cell?_setCell_other _ _ _ _ (by intro k; simp only [Addr.mk.injEq] at k; exact e k.2.1), h1]
    congr 2
    apply decide_eq_decide.2
    constructor
    · rintro ⟨j, hj, k⟩; exact ⟨j, by omega, k⟩
    · rintro ⟨j, hj, k⟩
      by_cases hji : j = i
      · subst hji; exact absurd k e
      · exact ⟨j, by omega, k⟩

theorem infoBool : (Try.prog.info? 4).map (fun i => (i.zero, i.size, i.bytes)) = some (some (.bool false), 1, 1) := by kernel_rfl

theorem make_bools (n : Nat) (hn : n ≤ 200) (W : World) : (Instr.makeSlice 35 (.int .i64 (n : Int)) (.int .i64 (n : Int))).run Try.prog W = .ok (.slice (some ⟨W.heap.size, 0, none⟩) n n) (W.alloc (.cells (madeCells #[.bool false] n) 4)) := by
  obtain ⟨i, hi, hz, hs, hb⟩ := info_parts infoBool
  have h := run_make (P := Try.prog) W 35 4 i (.bool false) Try.underlying35 hi hz .i64 .i64 (n : Int) (n : Int) (by omega) (by omega) (by rw [hb]; omega) (by omega)
  rw [h, hs, Int.toNat_natCast, Nat.mul_one]
  rfl

theorem had_start (W : World) (ps : List Nat) (n : Nat) : Had (W.alloc (.cells (madeCells #[.bool false] n) 4)) W.heap.size ps n 0 := by
  intro p hp
  have hrow := heap_alloc_new W (.cells (madeCells #[.bool false] n) 4)
  refine ⟨?_, frozen_of_row _ _ _ _ _ hrow⟩
  rw [cell_of_row _ _ _ _ _ _ hrow]
  have h1 : (madeCells #[Value.bool false] n)[p]? = some (.bool false) := by
    rw [← Array.getElem?_toList, toList_madeCells_one]
    simp [hp]
  rw [h1, decide_eq_false (by rintro ⟨j, hj, _⟩; omega)]

set_option maxHeartbeats 3000000 in
set_option maxRecDepth 1000000 in
theorem places_law (w : World) (a : Option Addr) (cap : Nat) (xs : List Nat) (h : FloatsAt w a xs) :
    Calls Try.prog 6 #[.slice a xs.length cap] w fun e w' => e = .returned (.bool true) ∧ Below w.heap.size w w' := by
  have HF := Lib.hid h
  clear h
  by_cases hbig : 200 < xs.length
  · have hbigz : (200 : Int) < (xs.length : Int) := by omega
    go_enter Try.func6, Try.ntmps6
    go_wp2_with fail
    refine (awake_any _).mono ?_
    rintro e w1 ⟨rfl, hb1⟩
    go_wp2_with fail
    go_ret
    exact ⟨rfl, hb1⟩
  have hbigz : ¬ (200 : Int) < (xs.length : Int) := by omega
  go_enter Try.func6, Try.ntmps6
  go_wp2_with fail
  refine (awake_any _).mono ?_
  rintro e w1 ⟨rfl, hb1⟩
  have hF1 := HF.out.below hb1
  go_wp2_with fail
  refine (order_any w1 a cap xs hF1 (by omega)).mono ?_
  rintro e w2 ⟨v, ps, rfl, hps, hown, hb2⟩
  have c2 : Below w.heap.size w w2 := hb1.trans (hb2.mono hb1.size)
  have HF2 := Lib.hid (hF1.below hb2)
  have HP := Lib.hid hps
  clear hF1 hb1 hb2 hps
  obtain ⟨oa, oc, hv⟩ : ∃ oa oc, v = .slice oa xs.length oc := by
    rcases hown with ⟨h, h2⟩ | ⟨g, cp, h, _, _, _⟩
    · refine ⟨none, 0, ?_⟩
      have e : ps = [] := List.map_eq_nil_iff.1 h2
      have := HP.out.len
      rw [e] at this
      rw [h, ← this]; rfl
    · refine ⟨some ⟨g, 0, none⟩, cp, ?_⟩
      rw [h, List.length_map, HP.out.len]
  subst hv
  have hpq := fun n => pick_q w2 n a cap xs HF2.out (by omega)
  rcases Nat.eq_zero_or_pos xs.length with h0 | h0
  · have hx : xs = [] := List.length_eq_zero_iff.1 h0
    subst hx
    have hpq : ∀ n, Calls Try.prog 23 #[.slice a 0 cap] (w2.drewN n) fun e w'' => e = .returned (.int .i64 (-1)) ∧ ∃ m, w'' = w2.drewN m := fun n => pick_q w2 n a cap [] HF2.out (by simp)
    have hmk := fun W => make_bools 0 (by omega) W
    have HM := Lib.hid hmk
    have hmk0 : ∀ W : World, (Instr.makeSlice 35 (.int .i64 0) (.int .i64 0)).run Try.prog W = .ok (.slice (some ⟨W.heap.size, 0, none⟩) 0 0) (W.alloc (.cells (madeCells #[.bool false] 0) 4)) := fun W => HM.out W
    clear h0 hown hbig hbigz hmk HM
    simp only [List.length_nil]
    go_wp2_with fail
    go_quiet (first | (go_at_call 23; exact hpq _))
    go_wp2
    refine wp_loop_rounds 1 ?_
    rw [rounds_succ]
    go_wp2
    go_ret
    exact ⟨rfl, (c2.trans (below_drewN (Below.refl _ _) nq)).alloc (by have := c2.size; simpa using this) _⟩
  · have hpq' : ∀ n, Calls Try.prog 23 #[.slice a xs.length cap] (w2.drewN n) fun e w'' => e = .returned (.int .i64 ((ps.getD 0 0 : Nat) : Int)) ∧ ∃ m, w'' = w2.drewN m := fun n => by
      rw [← pick_first HP.out h0]; exact hpq n
    have hx0 : xs ≠ [] := fun e => by rw [e] at h0; simp at h0
    obtain ⟨gf, off, rfl, hgf, hcf⟩ := HF2.out.resolve_left hx0
    obtain ⟨g, rfl, hg, hoc⟩ : ∃ g, oa = some ⟨g, 0, none⟩ ∧ g < w2.heap.size ∧ ∀ i, i < xs.length → w2.cell? ⟨g, i, none⟩ = some (.int .i64 ((ps.getD i 0 : Nat) : Int)) := by
      rcases hown with ⟨_, h2⟩ | ⟨g, cp, h, _, hg, hc⟩
      · exfalso
        have e : ps = [] := List.map_eq_nil_iff.1 h2
        have := HP.out.len
        rw [e] at this
        simp at this
        omega
      · refine ⟨g, by simp only [Value.slice.injEq] at h; exact h.1, hg, fun i hi => ?_⟩
        have h3 := hc i (by rw [List.length_map, HP.out.len]; exact hi)
        rw [h3]
        congr 2
        have := HP.out.len
        simp [List.getD, show i < ps.length by omega]
    have o0 := hoc 0 h0
    have HOC := Lib.hid hoc
    have HCF := Lib.hid hcf
    have HMK := Lib.hid (fun W => make_bools xs.length (by omega) W)
    have h0z : ¬ (xs.length : Int) = 0 := by omega
    have h0p : (0 : Int) < (xs.length : Int) := by omega
    have hne : ((xs.length : Int) == 0) = false := beq_eq_false_iff_ne.2 (by omega)
    clear hpq hown hoc hcf hbig hbigz
    go_wp2_with fail
    go_quiet (first | (go_at_call 23; exact hpq' _))
    have c3 : Below w.heap.size w (w2.drewN nq) := c2.trans (below_drewN (Below.refl _ _) nq)
    have HOC3 : Hid (∀ i, i < xs.length → (w2.drewN nq).cell? ⟨g, i, none⟩ = some (.int .i64 ((ps.getD i 0 : Nat) : Int))) := HOC.out
    have HCF3 : Hid (∀ i, i < xs.length → (w2.drewN nq).cell? ⟨gf, off + i, none⟩ = some (.float .f64 (xs.getD i 0))) := HCF.out
    have hg3 : g < (w2.drewN nq).heap.size := hg
    have hgf3 : gf < (w2.drewN nq).heap.size := hgf
    clear hpq' o0 HOC HCF hg hgf c2 HF2 HF
    generalize w2.drewN nq = w3 at *
    have hmk := HMK.out
    go_wp2
    obtain ⟨w4, hw4⟩ : ∃ w4, w3.alloc (.cells (madeCells #[.bool false] xs.length) 4) = w4 := ⟨_, rfl⟩
    have hstart : Had w4 w3.heap.size ps xs.length 0 := by rw [← hw4]; exact had_start w3 ps xs.length
    have hsz4 : w4.heap.size = w3.heap.size + 1 := by rw [← hw4]; simp
    have c4 : Below w.heap.size w w4 := by rw [← hw4]; exact c3.alloc c3.size _
    have h34 : Below w3.heap.size w3 w4 := by rw [← hw4]; exact (Below.refl _ _).alloc (Nat.le_refl _) _
    rw [hw4]
    have HST := Lib.hid hstart
    clear hmk hstart hw4
    go_loopg [6] (xs.length) (fun kx iv wr => ∃ i : Nat, i ≤ xs.length ∧ iv = .int .i64 (i : Int) ∧ xs.length - i ≤ kx ∧ Hid (Had wr w3.heap.size ps xs.length i) ∧ Below w3.heap.size w4 wr)
    case atStart => exact ⟨0, Nat.zero_le _, rfl, by omega, HST.out, Below.refl _ _⟩
    case round =>
      obtain ⟨i, hi, rfl, hkx, HH, hbw⟩ := hrel
      have HBW := Lib.hid hbw
      clear hbw
      by_cases hlt : i < xs.length
      · have hltz : (i : Int) < (xs.length : Int) := by omega
        obtain ⟨p, hp⟩ : ∃ p, ps.getD i 0 = p := ⟨_, rfl⟩
        have hpl : p < xs.length := by rw [← hp]; exact HP.out.lt i hlt
        have hplz : (p : Int) < (xs.length : Int) := by omega
        have hpn : ¬ (xs.length : Int) ≤ (p : Int) := by omega
        have hkeep : Below w3.heap.size w3 wr := h34.trans HBW.out
        have oi : wr.cell? ⟨g, i, none⟩ = some (.int .i64 (p : Int)) := by rw [← hp]; exact (hkeep.cell hg3).trans (HOC3.out i hlt)
        have hd : wr.cell? ⟨w3.heap.size, p, none⟩ = some (.bool false) := by
          rw [(HH.out p hpl).1]
          congr 2
          apply decide_eq_false
          rintro ⟨j, hj, e⟩
          have h1 := HP.out.asc j i hj hlt
          rw [e, hp] at h1
          omega
        have hfz : wr.frozen? ⟨w3.heap.size, p, none⟩ = false := (HH.out p hpl).2
        have HK := Lib.hid hkeep
        have HPI := Lib.hid hp
        clear hkeep hp
        go_wp2_with fail
        obtain ⟨w5, hw5⟩ : ∃ w5, wr.setCell ⟨w3.heap.size, p, none⟩ (.bool true) = w5 := ⟨_, rfl⟩
        have HH5 : Hid (Had w5 w3.heap.size ps xs.length (i + 1)) := by
          rw [← hw5, ← HPI.out]
          exact HH.out.step (by rw [HPI.out]; exact hpl)
        have hb5 : Below w3.heap.size w4 w5 := by rw [← hw5]; exact HBW.out.setCell (show w3.heap.size ≤ (⟨w3.heap.size, p, none⟩ : Addr).block from Nat.le_refl _) _
        have hk5 : Below w3.heap.size w3 w5 := h34.trans hb5
        have oi5 : w5.cell? ⟨g, i, none⟩ = some (.int .i64 (p : Int)) := by rw [← HPI.out]; exact (hk5.cell hg3).trans (HOC3.out i hlt)
        have fi5 : w5.cell? ⟨gf, off + p, none⟩ = some (.float .f64 (xs.getD p 0)) := (hk5.cell hgf3).trans (HCF3.out p hpl)
        rw [hw5]
        have HB5 := Lib.hid hb5
        clear hb5 hw5 HH HBW HK oi hd hfz
        rcases Nat.eq_zero_or_pos i with hi0 | hi0
        · subst hi0
          go_quiet (fail)
          have HH6 : Hid (Had (w5.drewN nq) w3.heap.size ps xs.length (0 + 1)) := HH5.out
          have HB6 : Hid (Below w3.heap.size w4 (w5.drewN nq)) := HB5.out.trans (below_drewN (Below.refl _ _) nq)
          clear HH5 HB5 oi5 fi5 hk5
          generalize w5.drewN nq = w6 at *
          go_wp2
          go_roundg (xs.length - 1)
          case measure => omega
          case rel => exact ⟨0 + 1, by omega, by first | rfl | go_num, by omega, HH6, HB6.out⟩
        · obtain ⟨j, rfl⟩ : ∃ j, i = j + 1 := ⟨i - 1, by omega⟩
          obtain ⟨q, hq⟩ : ∃ q, ps.getD j 0 = q := ⟨_, rfl⟩
          have hql : q < xs.length := by rw [← hq]; exact HP.out.lt j (by omega)
          have hqlz : (q : Int) < (xs.length : Int) := by omega
          have oj5 : w5.cell? ⟨g, j, none⟩ = some (.int .i64 (q : Int)) := by rw [← hq]; exact (hk5.cell hg3).trans (HOC3.out j (by omega))
          have fj5 : w5.cell? ⟨gf, off + q, none⟩ = some (.float .f64 (xs.getD q 0)) := (hk5.cell hgf3).trans (HCF3.out q hql)
          have hst := placed_step HP.out j hlt
          rw [HPI.out, hq] at hst
          have hjz : (j : Int) < (xs.length : Int) := by omega
          have hj0 : (0 : Int) < (j : Int) + 1 := by omega
          have wj : IntKind.i64.wrap (j : Int) = (j : Int) := by rw [IntKind.wrap_i64]; omega
          obtain ⟨iN, hiN⟩ : ∃ q, q = j + 1 := ⟨_, rfl⟩
          have ea : ((j : Int) + 1).toNat = iN := by omega
          have pa : (0 : Int) ≤ (j : Int) + 1 := by omega
          have ba : (j : Int) + 1 < (xs.length : Int) := by omega
          have ra : IntKind.i64.wrap ((j : Int) + 1) = (j : Int) + 1 := by rw [IntKind.wrap_i64]; omega
          rw [← hiN] at oi5
          clear hq hiN
          generalize xs.getD p 0 = va at *
          generalize xs.getD q 0 = vb at *
          have hq1 := fun n => before_q va vb n w5
          have hq2 := fun n => before_q vb va n w5
          rw [hst.1] at hq1
          have HQ1 := Lib.hid hq1
          rcases hst.2 with h2 | ⟨h2, h3⟩
          · rw [h2] at hq2
            have HQ2 := Lib.hid hq2
            clear hq1 hq2 hst h2
            go_quiet (first | (go_at_call_of 17 (Value.float .f64 va); with_reducible exact HQ1.out _) | (go_at_call_of 17 (Value.float .f64 vb); with_reducible exact HQ2.out _))
            have HH6 : Hid (Had (w5.drewN nq) w3.heap.size ps xs.length (j + 1 + 1)) := HH5.out
            have HB6 : Hid (Below w3.heap.size w4 (w5.drewN nq)) := HB5.out.trans (below_drewN (Below.refl _ _) nq)
            clear HH5 HB5 oi5 fi5 oj5 fj5 hk5 HQ1 HQ2 ea
            generalize w5.drewN nq = w6 at *
            go_wp2
            go_roundg (xs.length - (j + 1 + 1))
            case measure => omega
            case rel => exact ⟨j + 1 + 1, by omega, by first | rfl | go_num, by omega, HH6, HB6.out⟩
          · rw [h2] at hq2
            have HQ2 := Lib.hid hq2
            have h3z : ¬ (p : Int) < (q : Int) := by omega
            clear hq1 hq2 hst h2
            go_quiet (first | (go_at_call_of 17 (Value.float .f64 va); with_reducible exact HQ1.out _) | (go_at_call_of 17 (Value.float .f64 vb); with_reducible exact HQ2.out _))
            have HH6 : Hid (Had (w5.drewN nq) w3.heap.size ps xs.length (j + 1 + 1)) := HH5.out
            have HB6 : Hid (Below w3.heap.size w4 (w5.drewN nq)) := HB5.out.trans (below_drewN (Below.refl _ _) nq)
            clear HH5 HB5 oi5 fi5 oj5 fj5 hk5 HQ1 HQ2 ea
            generalize w5.drewN nq = w6 at *
            go_wp2
            go_roundg (xs.length - (j + 1 + 1))
            case measure => omega
            case rel => exact ⟨j + 1 + 1, by omega, by first | rfl | go_num, by omega, HH6, HB6.out⟩
      · obtain rfl : i = xs.length := by omega
        go_wp2
        go_ret
        exact ⟨rfl, c4.trans (HBW.out.mono (by have := c3.size; omega))⟩

end Go.Proofs.Ytdcaklonhbiejaa
