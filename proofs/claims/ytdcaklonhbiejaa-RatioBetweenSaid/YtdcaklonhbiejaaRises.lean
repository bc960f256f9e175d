/-
  The law RatioRises's walk.
-/
import Derived.Test.YtdcaklonhbiejaaCeil
namespace Go.Proofs.Ytdcaklonhbiejaa
open Go.RowKit

theorem abs_any (x : Nat) : ∃ y, ∀ w, Calls Try.prog 21 #[.float .f64 x] w fun e w' => e = .returned (.float .f64 y) ∧ w = w' := by
  refine ⟨(bits .andNot .u64 (x : Int) 9223372036854775808).toNat, fun w => ?_⟩
  have h60 := ext60
  have h61 := ext61
  go_enter Try.func21, Try.ntmps21
  go_wp2
  go_ret
  exact ⟨rfl, rfl⟩

theorem run_op (op : BinOp) (hop : nanOp op = true) (x y : Nat) (w : World) :
    ∃ r w', (binOp op 22 (.float .f64 x) (.float .f64 y)).run Try.prog w = .ok (.float .f64 r) w' ∧ Below w.heap.size w w' ∧ (floatBits op .f64 x y = some r ∨ floatBits op .f64 x y = none ∧ isn r = true) := by
  cases h : floatBits op .f64 x y with
  | none =>
    obtain ⟨r, h1, h2⟩ := run_none op hop x y h w
    exact ⟨r, _, h1, (Below.refl _ _).drew, .inr ⟨rfl, h2⟩⟩
  | some r => exact ⟨r, w, run_float_arith w op 22 .f64 x y r h, Below.refl _ _, .inl rfl⟩

theorem wt_range {T m s : Nat} {n : Int} (h : Wt T m s n) : 2 ≤ n ∧ n ≤ 60 := by
  rcases h with ⟨_, h⟩ | ⟨_, _, _, h⟩ | ⟨_, _, _, _, h⟩
  · omega
  · omega
  · exact cx_range h

theorem wt_mono {T m s m' s' p x : Nat} {n n' : Int} (h1 : floatBits .mul .f64 4616189618054758400 s = some p) (h2 : floatBits .add .f64 m p = some x) (h : Wt T m s n) (h' : Wt T m' s' n') (hm : fk m ≤ fk m') (hs : fk s ≤ fk s') : n ≤ n' := by
  have r := wt_range h
  rcases h with ⟨a, _⟩ | ⟨q, a, b, _⟩ | ⟨q, y, a, b, c⟩
  · rw [h1] at a; cases a
  · rw [h1] at a; cases a; rw [h2] at b; cases b
  · rw [h1] at a; cases a; rw [h2] at b; cases b
    rcases h' with ⟨_, e⟩ | ⟨_, _, _, e⟩ | ⟨q', y', a', b', c'⟩
    · omega
    · omega
    · exact cx_mono c c' (add_mono h2 b' hm (mul4_mono h1 a' hs))

theorem wt_above {T m s p x : Nat} {n : Int} (h1 : floatBits .mul .f64 4616189618054758400 s = some p) (h2 : floatBits .add .f64 m p = some x) (h : Wt T m s n) (hn : n ≠ 60) (hs : 0 ≤ fk s) : fk m ≤ n * (2 ^ T : Nat) := by
  have ht := top_pos
  have hx : fk x ≤ n * (2 ^ T : Nat) := by
    rcases h with ⟨a, _⟩ | ⟨q, a, b, _⟩ | ⟨q, y, a, b, c⟩
    · rw [h1] at a; cases a
    · rw [h1] at a; cases a; rw [h2] at b; cases b
    · rw [h1] at a; cases a; rw [h2] at b; cases b
      rcases c with ⟨_, e⟩ | ⟨c1, e⟩ | ⟨_, _, _, _, c1, _⟩
      · omega
      · subst e
        have : (2 : Int) * (2 ^ T : Nat) = ((2 * 2 ^ T : Nat) : Int) := by rw [Int.natCast_mul]; rfl
        omega
      · exact c1
  have hp : 0 ≤ fk p := by
    have h0 : fk 0 = 0 := by decide
    have hf : fin 0 := ⟨false, 0, -1074, by decide⟩
    obtain ⟨b, hb, h3, h4⟩ := mul4_fin hf
    have h5 := mul4_mono hb h1 (by omega)
    rw [h0] at h4
    obtain ⟨r, hr, hz, _, e⟩ := h4
    rw [hz (by omega)] at e
    have hv : VT 0 = 0 := by unfold VT V; rw [if_pos (by omega), if_pos (by omega)]
    rw [hv, if_neg (by omega)] at e
    omega
  suffices hmx : fk m ≤ fk x by omega
  obtain ⟨nm, np, nx, k⟩ := add_some h2
  have rm := fk_range m nm
  rcases k with ⟨f1, f2, k⟩ | ⟨_, _, _, k⟩ | ⟨k1, k2, k3, k4⟩
  · exact rn_mono (rn_self f1) k (by omega)
  · omega
  · omega

theorem num_fk (T : Nat) (hT : T = 1074) (n : Int) (h0 : 0 ≤ n) (hn : n ≤ 60) : isn (floatOfInt .f64 n) = false ∧ fk (floatOfInt .f64 n) = n * (2 ^ T : Nat) := by
  obtain ⟨k, rfl⟩ : ∃ k : Nat, n = k := ⟨n.toNat, by omega⟩
  obtain ⟨r, h1, h2, h3⟩ := of_int T hT k (by omega)
  obtain ⟨a, b⟩ := word_num r (by omega)
  rw [h1]
  exact ⟨a, by rw [b, h3, Int.natCast_mul]⟩

theorem ord_ge {x y : Nat} (hx : isn x = false) (hy : isn y = false) (h : fk y ≤ fk x) : FloatKind.f64.format.order x y = some .gt ∨ FloatKind.f64.format.order x y = some .eq := by
  rw [order_num hx hy]
  rcases Int.lt_or_eq_of_le h with h | h
  · rw [cmp_gt h]; exact .inl rfl
  · rw [h, cmp_eq]; exact .inr rfl
theorem ge_ord {x y : Nat} (h : FloatKind.f64.format.order x y = some .gt ∨ FloatKind.f64.format.order x y = some .eq) : isn x = false ∧ isn y = false ∧ fk y ≤ fk x := by
  rw [order_eq] at h
  by_cases c : isn x = true ∨ isn y = true
  · rw [if_pos c] at h; rcases h with h | h <;> cases h
  · rw [if_neg c] at h
    rw [not_or] at c
    refine ⟨by simpa using c.1, by simpa using c.2, ?_⟩
    rcases Int.lt_trichotomy (fk x) (fk y) with k | k | k
    · rw [cmp_lt k] at h; rcases h with h | h <;> cases h
    · omega
    · omega

set_option maxRecDepth 100000 in
set_option maxHeartbeats 3200000 in
theorem rises_law (m s more : Nat) (w : World) : Calls Try.prog 5 #[.float .f64 m, .float .f64 s, .float .f64 more] w fun e w' => e = .returned (.bool true) ∧ Below w.heap.size w w' := by
  obtain ⟨T, hT⟩ : ∃ T : Nat, T = 1074 := ⟨_, rfl⟩
  obtain ⟨n, hn, HW⟩ := wait_any T hT m s
  obtain ⟨y, HA⟩ := abs_any more
  have hr := wt_range hn
  have h2n : ¬ n < 2 := by omega
  have h60n : ¬ 60 < n := by omega
  have HW := Lib.hid HW
  have HA := Lib.hid HA
  have HN := Lib.hid hn
  clear hn
  go_enter Try.func5, Try.ntmps5
  go_wp2_with fail
  refine (awake_any _).mono ?_
  rintro e w1 ⟨rfl, hb1⟩
  go_wp2_with fail
  refine (HW.out _).mono ?_
  rintro e w2 ⟨rfl, hb2⟩
  have c2 : Below w.heap.size w w2 := hb1.trans (hb2.mono hb1.size)
  obtain ⟨a, wa, ha, ba, ca⟩ := run_op .add rfl m y w2
  obtain ⟨b, wb, hb, bb, cb⟩ := run_op .add rfl s y wa
  obtain ⟨p, wc, hp, bc, cp⟩ := run_op .mul rfl 4616189618054758400 s wb
  obtain ⟨x, wd, hx, bd, cx⟩ := run_op .add rfl m p wc
  have ca2 : Below w.heap.size w wa := c2.trans (ba.mono c2.size)
  have cb2 : Below w.heap.size w wb := ca2.trans (bb.mono ca2.size)
  have cc2 : Below w.heap.size w wc := cb2.trans (bc.mono cb2.size)
  have cd2 : Below w.heap.size w wd := cc2.trans (bd.mono cc2.size)
  clear hb1 hb2 ba bb bc bd ca cb c2 ca2 cb2 cc2
  have CP := Lib.hid cp
  have CX := Lib.hid cx
  clear cp cx
  go_wp2_with fail
  refine (HA.out _).mono ?_
  rintro e w3 ⟨rfl, rfl⟩
  go_wp2_with fail
  refine (HA.out _).mono ?_
  rintro e w3 ⟨rfl, rfl⟩
  go_wp2_with fail
  have hi := isnan_any x wd
  cases hnx : isn x
  · rw [hnx] at hi
    refine hi.mono ?_
    rintro e w3 ⟨rfl, rfl⟩
    clear hi
    have hax : floatBits .add .f64 m p = some x := by
      rcases CX.out with h | ⟨_, h⟩
      · exact h
      · rw [hnx] at h; cases h
    have hmp : floatBits .mul .f64 4616189618054758400 s = some p := by
      rcases CP.out with h | ⟨_, h⟩
      · exact h
      · rw [add_nan2 m h] at hax; cases hax
    obtain ⟨nm, _, _, _⟩ := add_some hax
    obtain ⟨ns, _, _⟩ := mul4_some hmp
    by_cases g1 : FloatKind.f64.format.order a m = some .gt ∨ FloatKind.f64.format.order a m = some .eq
    · by_cases g2 : FloatKind.f64.format.order b s = some .gt ∨ FloatKind.f64.format.order b s = some .eq
      · obtain ⟨n1, hn1, HW1⟩ := wait_any T hT a s
        obtain ⟨n2, hn2, HW2⟩ := wait_any T hT m b
        have l1 : n ≤ n1 := wt_mono hmp hax HN.out hn1 (ge_ord g1).2.2 (Int.le_refl _)
        have l2 : n ≤ n2 := wt_mono hmp hax HN.out hn2 (Int.le_refl _) (ge_ord g2).2.2
        have HW1 := Lib.hid HW1
        have HW2 := Lib.hid HW2
        have last : (FloatKind.f64.format.order (floatOfInt .f64 n) m = some .gt ∨ FloatKind.f64.format.order (floatOfInt .f64 n) m = some .eq) ∨
            ((FloatKind.f64.format.order (floatOfInt .f64 n) m = none ∨ FloatKind.f64.format.order (floatOfInt .f64 n) m = some .lt) ∧ n = 60) ∨
            ((FloatKind.f64.format.order (floatOfInt .f64 n) m = none ∨ FloatKind.f64.format.order (floatOfInt .f64 n) m = some .lt) ∧ n ≠ 60 ∧ FloatKind.f64.format.order s 0 = some .lt) := by
          by_cases k : FloatKind.f64.format.order (floatOfInt .f64 n) m = some .gt ∨ FloatKind.f64.format.order (floatOfInt .f64 n) m = some .eq
          · exact .inl k
          · right
            have k2 : FloatKind.f64.format.order (floatOfInt .f64 n) m = none ∨ FloatKind.f64.format.order (floatOfInt .f64 n) m = some .lt := by
              cases ho : FloatKind.f64.format.order (floatOfInt .f64 n) m with
              | none => exact .inl rfl
              | some o =>
                rw [ho] at k
                cases o
                · exact .inr rfl
                · exact absurd (.inr rfl) k
                · exact absurd (.inl rfl) k
            by_cases e60 : n = 60
            · exact .inl ⟨k2, e60⟩
            · refine .inr ⟨k2, e60, ?_⟩
              by_cases hs0 : 0 ≤ fk s
              · exfalso
                have := wt_above hmp hax HN.out e60 hs0
                obtain ⟨i1, i2⟩ := num_fk T hT n (by omega) (by omega)
                exact k (ord_ge i1 nm (by omega))
              · have z1 : isn 0 = false := by decide
                have z2 : fk 0 = 0 := by decide
                rw [order_num ns z1, z2, cmp_lt (by omega)]
        clear hn1 hn2 hmp hax nm ns hr
        rcases last with l | ⟨l, e60⟩ | ⟨l, e60, hs0⟩
        · rcases g1 with g1 | g1 <;> rcases g2 with g2 | g2 <;> rcases l with l | l
          all_goals
            go_wp2_with fail
            refine (HW1.out _).mono ?_
            rintro e w4 ⟨rfl, hb4⟩
            go_wp2_with fail
            refine (HW2.out _).mono ?_
            rintro e w5 ⟨rfl, hb5⟩
            go_wp2_with fail
            go_ret
            have c4 := cd2.trans (hb4.mono cd2.size)
            exact ⟨rfl, c4.trans (hb5.mono c4.size)⟩
        · subst e60
          rcases g1 with g1 | g1 <;> rcases g2 with g2 | g2 <;> rcases l with l | l
          all_goals
            go_wp2_with fail
            refine (HW1.out _).mono ?_
            rintro e w4 ⟨rfl, hb4⟩
            go_wp2_with fail
            refine (HW2.out _).mono ?_
            rintro e w5 ⟨rfl, hb5⟩
            go_wp2_with fail
            go_ret
            have c4 := cd2.trans (hb4.mono cd2.size)
            exact ⟨rfl, c4.trans (hb5.mono c4.size)⟩
        · rcases g1 with g1 | g1 <;> rcases g2 with g2 | g2 <;> rcases l with l | l
          all_goals
            go_wp2_with fail
            refine (HW1.out _).mono ?_
            rintro e w4 ⟨rfl, hb4⟩
            go_wp2_with fail
            refine (HW2.out _).mono ?_
            rintro e w5 ⟨rfl, hb5⟩
            go_wp2_with fail
            go_ret
            have c4 := cd2.trans (hb4.mono cd2.size)
            exact ⟨rfl, c4.trans (hb5.mono c4.size)⟩
      · have g2' : FloatKind.f64.format.order b s = none ∨ FloatKind.f64.format.order b s = some .lt := by
          cases ho : FloatKind.f64.format.order b s with
          | none => exact .inl rfl
          | some o =>
            rw [ho] at g2
            cases o
            · exact .inr rfl
            · exact absurd (.inr rfl) g2
            · exact absurd (.inl rfl) g2
        clear g2 hmp hax
        rcases g1 with g1 | g1 <;> rcases g2' with g2 | g2
        all_goals
          go_wp2_with fail
          go_ret
          exact ⟨rfl, cd2⟩
    · have g1' : FloatKind.f64.format.order a m = none ∨ FloatKind.f64.format.order a m = some .lt := by
        cases ho : FloatKind.f64.format.order a m with
        | none => exact .inl rfl
        | some o =>
          rw [ho] at g1
          cases o
          · exact .inr rfl
          · exact absurd (.inr rfl) g1
          · exact absurd (.inl rfl) g1
      clear g1 hmp hax
      rcases g1' with g1 | g1
      all_goals
        go_wp2_with fail
        go_ret
        exact ⟨rfl, cd2⟩
  · rw [hnx] at hi
    refine hi.mono ?_
    rintro e w3 ⟨rfl, rfl⟩
    clear hi
    have e60 : n = 60 := by
      have hax : floatBits .add .f64 m p = none := by
        rcases CX.out with h | ⟨h, _⟩
        · obtain ⟨_, _, h3, _⟩ := add_some h
          rw [hnx] at h3; cases h3
        · exact h
      rcases HN.out with ⟨_, h⟩ | ⟨_, _, _, h⟩ | ⟨q, z, h1, h2, _⟩
      · exact h
      · exact h
      · exfalso
        rcases CP.out with h | ⟨h, _⟩
        · rw [h1] at h; cases h; rw [h2] at hax; cases hax
        · rw [h1] at h; cases h
    subst e60
    go_wp2_with fail
    go_ret
    exact ⟨rfl, cd2⟩

end Go.Proofs.Ytdcaklonhbiejaa
