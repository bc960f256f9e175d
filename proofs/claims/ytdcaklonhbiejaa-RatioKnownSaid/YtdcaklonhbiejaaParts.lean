/-
  The law RatioParts's walk.
-/
import Derived.Test.YtdcaklonhbiejaaPart
import Derived.Test.YtdcaklonhbiejaaOrder
namespace Go.Proofs.Ytdcaklonhbiejaa
open Go.RowKit

theorem quo_zero (T : Nat) (hT : T = 1074) (d : Nat) (hd : 0 < d) (hdd : d ≤ 2 ^ 53) : floatBits .quo .f64 (floatOfInt .f64 ((0 : Nat) : Int)) (floatOfInt .f64 (d : Int)) = some 0 := by
  obtain ⟨x, hx, hx1, hx2⟩ := of_int T hT 0 (by omega)
  obtain ⟨y, hy, hy1, hy2⟩ := of_int T hT d hdd
  rw [hx, hy]
  have p : 0 < 2 ^ T := Nat.two_pow_pos _
  obtain ⟨m, i, hm, hi, hmv⟩ := read_word x (by omega)
  obtain ⟨m', j, hm', hj, hmv'⟩ := read_word y (by omega)
  have hm0 : m = 0 := by
    rw [hx2, Nat.zero_mul] at hmv
    rcases Nat.mul_eq_zero.1 hmv with h | h
    · exact h
    · exact absurd h (Nat.ne_of_gt (Nat.two_pow_pos _))
  have hm0' : 0 < m' := by
    refine Nat.pos_of_ne_zero fun e => ?_
    rw [e, Nat.zero_mul, hy2] at hmv'
    have := Nat.mul_pos hd p
    omega
  subst hm0
  show Ieee.double.div x y = _
  unfold Ieee.Format.div
  rw [hm, hm']
  simp only [Ieee.Datum.quotient]
  rw [if_neg (by omega)]
  simp [Ieee.Format.write, Ieee.Format.nearest, Ieee.Format.word]

/-- two parts of one whole -/
theorem part_two (n m d : Nat) (hnm : n ≤ m) (hmd : m ≤ d) (hd : 0 < d) (hdd : d ≤ 2 ^ 53) :
    ∃ x y, floatBits .quo .f64 (floatOfInt .f64 (n : Int)) (floatOfInt .f64 (d : Int)) = some x ∧ floatBits .quo .f64 (floatOfInt .f64 (m : Int)) (floatOfInt .f64 (d : Int)) = some y ∧
      x ≤ y ∧ y ≤ 4607182418800017408 ∧ (x = 0 ↔ n = 0) ∧ (n = d → x = 4607182418800017408) := by
  obtain ⟨T, hT⟩ : ∃ T : Nat, T = 1074 := ⟨_, rfl⟩
  have p : 0 < 2 ^ T := Nat.two_pow_pos _
  have hone : V 4607182418800017408 = 2 ^ T := by
    unfold V
    rw [if_neg (by omega)]
    have e1 : 4607182418800017408 % 2 ^ 52 = 0 := by decide
    obtain ⟨S, hS⟩ : ∃ S : Nat, S = 1022 := ⟨_, rfl⟩
    have e2 : 4607182418800017408 / 2 ^ 52 - 1 = S := by omega
    rw [e1, e2, Nat.add_zero, ← Nat.pow_add]
    congr 1
    omega
  have hV1 : V 1 = 1 := by unfold V; rw [if_pos (by omega)]
  have h53 : 2 ^ 53 ≤ 2 ^ T := Nat.pow_le_pow_right (by omega) (by omega)
  have one : ∀ k, 0 < k → k ≤ d → ∃ r, floatBits .quo .f64 (floatOfInt .f64 (k : Int)) (floatOfInt .f64 (d : Int)) = some r ∧ Rung (k * 2 ^ T) d r ∧ r ≤ 4607182418800017408 ∧ 1 ≤ r := fun k hk hkd => by
    obtain ⟨r, hr, hrg⟩ := quo_eq T hT k d hk (by omega) hd hdd
    have h1 : r ≤ 4607182418800017408 := rung_le hd hrg (by rw [hone, Nat.mul_comm]; exact Nat.mul_le_mul_left _ hkd)
    have h2 : 1 ≤ r := rung_ge hd hrg (by
      rw [hV1, Nat.one_mul]
      exact Nat.le_trans hdd (Nat.le_trans h53 (Nat.le_mul_of_pos_left _ hk)))
    refine ⟨r, ?_, hrg, h1, h2⟩
    rw [hr, Nat.min_eq_left (by omega)]
  rcases Nat.eq_zero_or_pos n with h0 | h0
  · subst h0
    have hz := quo_zero T hT d hd hdd
    rcases Nat.eq_zero_or_pos m with k0 | k0
    · subst k0
      exact ⟨0, 0, hz, hz, Nat.le_refl _, by omega, ⟨fun _ => rfl, fun _ => rfl⟩, by omega⟩
    · obtain ⟨y, hy, _, hy1, _⟩ := one m k0 hmd
      exact ⟨0, y, hz, hy, Nat.zero_le _, hy1, ⟨fun _ => rfl, fun _ => rfl⟩, by omega⟩
  · obtain ⟨x, hx, hxr, hx1, hx2⟩ := one n h0 (by omega)
    obtain ⟨y, hy, hyr, hy1, _⟩ := one m (by omega) hmd
    refine ⟨x, y, hx, hy, rung_mono hd hd hxr hyr (Nat.mul_le_mul_right _ (Nat.mul_le_mul_right _ hnm)), hy1, ⟨fun h => by omega, fun h => by omega⟩, fun e => ?_⟩
    have h3 : 4607182418800017408 ≤ x := rung_ge hd hxr (by rw [hone, e, Nat.mul_comm]; exact Nat.le_refl _)
    omega

theorem part_run (n d : Int) (x : Nat) (h : floatBits .quo .f64 (floatOfInt .f64 n) (floatOfInt .f64 d) = some x) (w : World) :
    Calls Try.prog 19 #[.int .i64 n, .int .i64 d] w fun e w' => e = .returned (.float .f64 x) ∧ w = w' := by
  have hq : ∀ w, (binOp .quo 22 (.float .f64 (floatOfInt .f64 n)) (.float .f64 (floatOfInt .f64 d))).run Try.prog w = .ok (.float .f64 x) w := fun w => run_float_arith w .quo 22 .f64 _ _ _ h
  clear h
  go_enter Try.func19, Try.ntmps19
  go_wp2
  go_ret
  exact ⟨rfl, rfl⟩

theorem ord_lt {x y : Nat} (h : x < y) (hy : y < 2047 * 2 ^ 52) : FloatKind.f64.format.order x y = some .lt ∧ FloatKind.f64.format.order y x = some .gt := by
  obtain ⟨hx1, hx2⟩ := word_num x (by omega)
  obtain ⟨hy1, hy2⟩ := word_num y hy
  have hv : V x < V y := by
    have := V_mono (Nat.le_of_lt h)
    have h2 : V x ≠ V y := fun e => by have := V_inj e; omega
    omega
  rw [order_num hx1 hy1, order_num hy1 hx1, hx2, hy2, cmp_lt (by omega), cmp_gt (by omega)]
  exact ⟨rfl, rfl⟩
theorem ord_eq {x : Nat} (hx : x < 2047 * 2 ^ 52) : FloatKind.f64.format.order x x = some .eq := order_self (word_num x hx).1

theorem bef_le {x y : Nat} (h : x ≤ y) (hy : y < 2047 * 2 ^ 52) : bef x y = false := by
  obtain ⟨hx1, hx2⟩ := word_num x (by omega)
  obtain ⟨hy1, hy2⟩ := word_num y hy
  have := V_mono h
  unfold bef
  rw [hx1, hy1, hx2, hy2]
  simp
  omega

set_option maxRecDepth 100000 in
set_option maxHeartbeats 1600000 in
theorem parts_law (n m d : Int) (w : World) : Calls Try.prog 4 #[.int .i64 n, .int .i64 m, .int .i64 d] w fun e w' => e = .returned (.bool true) ∧ Below w.heap.size w w' := by
  by_cases hin : 0 ≤ n ∧ n ≤ m ∧ m ≤ d ∧ 1 ≤ d ∧ d ≤ 9007199254740992
  · obtain ⟨h0, h1, h2, h3, h4⟩ := hin
    obtain ⟨x, y, hx, hy, hxy, hy1, hz, ho⟩ := part_two n.toNat m.toNat d.toNat (by omega) (by omega) (by omega) (by omega)
    rw [Int.toNat_of_nonneg h0, Int.toNat_of_nonneg (by omega : 0 ≤ d)] at hx
    rw [Int.toNat_of_nonneg (by omega : 0 ≤ m), Int.toNat_of_nonneg (by omega : 0 ≤ d)] at hy
    have HX := Lib.hid (part_run n d x hx)
    have HY := Lib.hid (part_run m d y hy)
    have HB : Hid (∀ w, Calls Try.prog 17 #[.float .f64 x, .float .f64 y] w fun e w' => e = .returned (.bool false) ∧ w = w') := Lib.hid fun w => by
      have := before_any x y w
      rwa [bef_le hxy (by omega)] at this
    have hx0 : (x = 0 ∧ n = 0) ∨ (0 < x ∧ n ≠ 0) := by omega
    have ho' : n = d → x = 4607182418800017408 := fun e => ho (by omega)
    have n1 : ¬ n < 0 := by omega
    have n2 : ¬ m < n := by omega
    have n3 : ¬ d < m := by omega
    have n4 : ¬ d < 1 := by omega
    have n5 : ¬ 9007199254740992 < d := by omega
    have oxy : FloatKind.f64.format.order x y = some .lt ∨ FloatKind.f64.format.order x y = some .eq := by
      rcases Nat.lt_or_ge x y with h | h
      · exact .inl (ord_lt h (by omega)).1
      · have : x = y := by omega
        subst this; exact .inr (ord_eq (by omega))
    have oy1 : FloatKind.f64.format.order y 4607182418800017408 = some .lt ∨ FloatKind.f64.format.order y 4607182418800017408 = some .eq := by
      rcases Nat.lt_or_ge y 4607182418800017408 with h | h
      · exact .inl (ord_lt h (by omega)).1
      · have : y = 4607182418800017408 := by omega
        subst this; exact .inr (ord_eq (by omega))
    have ox0 : (FloatKind.f64.format.order x 0 = some .eq ∧ n = 0) ∨ (FloatKind.f64.format.order x 0 = some .gt ∧ n ≠ 0) := by
      rcases hx0 with ⟨h, k⟩ | ⟨h, k⟩
      · subst h; exact .inl ⟨ord_eq (by omega), k⟩
      · exact .inr ⟨(ord_lt h (by omega)).2, k⟩
    have ox1 : n ≠ d ∨ (n = d ∧ FloatKind.f64.format.order x 4607182418800017408 = some .eq) := by
      by_cases e : n = d
      · right
        have := ho' e
        subst this
        exact ⟨e, ord_eq (by omega)⟩
      · exact .inl e
    clear hx hy hz ho hx0 ho' hxy hy1
    have cs : (n = 0 ∧ n ≠ d ∧ FloatKind.f64.format.order x 0 = some .eq) ∨ (n ≠ 0 ∧ n ≠ d ∧ FloatKind.f64.format.order x 0 = some .gt) ∨ (d = n ∧ n ≠ 0 ∧ FloatKind.f64.format.order x 0 = some .gt ∧ FloatKind.f64.format.order x 4607182418800017408 = some .eq) := by
      rcases ox0 with ⟨a, b⟩ | ⟨a, b⟩
      · exact .inl ⟨b, by omega, a⟩
      · rcases ox1 with c | ⟨c, e⟩
        · exact .inr (.inl ⟨b, c, a⟩)
        · exact .inr (.inr ⟨c.symm, b, a, e⟩)
    clear ox0 ox1
    rcases cs with ⟨rfl, nd, ox0⟩ | ⟨nz, nd, ox0⟩ | ⟨rfl, nz, ox0, ox1⟩ <;> rcases oxy with oxy | oxy <;> rcases oy1 with oy1 | oy1
    all_goals try have nzb : (n == 0) = false := beq_eq_false_iff_ne.2 nz
    all_goals try have ndb : (d == 0) = false := beq_eq_false_iff_ne.2 nz
    all_goals
      go_enter Try.func4, Try.ntmps4
      go_wp2_with fail
      refine (awake_any _).mono ?_
      rintro e w1 ⟨rfl, hb1⟩
      go_wp2_with fail
      refine (HX.out _).mono ?_
      rintro e w2 ⟨rfl, rfl⟩
      go_wp2_with fail
      refine (HY.out _).mono ?_
      rintro e w2 ⟨rfl, rfl⟩
      go_wp2_with fail
      refine (HB.out _).mono ?_
      rintro e w2 ⟨rfl, rfl⟩
      go_wp2_with fail
      go_ret
      exact ⟨rfl, hb1⟩
  · have hg : n < 0 ∨ m < n ∨ d < m ∨ d < 1 ∨ 9007199254740992 < d := by omega
    clear hin
    go_enter Try.func4, Try.ntmps4
    go_wp2_with fail
    refine (awake_any _).mono ?_
    rintro e w1 ⟨rfl, hb1⟩
    by_cases g1 : n < 0
    · go_wp2_with fail
      go_ret
      exact ⟨rfl, hb1⟩
    by_cases g2 : m < n
    · go_wp2_with fail
      go_ret
      exact ⟨rfl, hb1⟩
    by_cases g3 : d < m
    · go_wp2_with fail
      go_ret
      exact ⟨rfl, hb1⟩
    by_cases g4 : d < 1
    · go_wp2_with fail
      go_ret
      exact ⟨rfl, hb1⟩
    have g5 : 9007199254740992 < d := by omega
    go_wp2_with fail
    go_ret
    exact ⟨rfl, hb1⟩

end Go.Proofs.Ytdcaklonhbiejaa
