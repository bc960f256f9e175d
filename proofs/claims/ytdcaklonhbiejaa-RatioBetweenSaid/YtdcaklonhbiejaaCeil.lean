/-
  A result that is a NaN is drawn; math.Ceil; what Wait of package ratio answers.
-/
import Derived.Test.YtdcaklonhbiejaaExt
namespace Go.Proofs.Ytdcaklonhbiejaa
open Go.RowKit

theorem isn_cut (a b t : Nat) : isn ((Question.nanBits .f64 a b).cut t) = true := by
  have hb : Ieee.double.binade = 2 ^ 52 := by decide
  have hi : Ieee.double.infRung = 2047 * 2 ^ 52 := by decide
  have hw : Ieee.double.signWeight = 2 ^ 63 := by decide
  unfold isn Ieee.Format.read
  dsimp only
  rw [hb, hi, hw]
  have e : (Question.nanBits .f64 a b).cut t = (t % 2) * 2 ^ 63 + 2047 * 2 ^ 52 + 1 + (t / 2) % (2 ^ 52 - 1) := rfl
  rw [e]
  have h1 : ((t % 2) * 2 ^ 63 + 2047 * 2 ^ 52 + 1 + (t / 2) % (2 ^ 52 - 1)) % 2 ^ 63 = 2047 * 2 ^ 52 + 1 + (t / 2) % (2 ^ 52 - 1) := by omega
  rw [h1, if_neg (by omega), if_neg (by omega), if_neg (by omega)]
  rfl

def nanOp : BinOp → Bool
  | .add | .sub | .mul | .quo => true
  | _ => false

theorem run_none (op : BinOp) (hop : nanOp op = true) (x y : Nat) (h : floatBits op .f64 x y = none) (w : World) :
    ∃ r, (binOp op 22 (.float .f64 x) (.float .f64 y)).run Try.prog w = .ok (.float .f64 r) w.drew ∧ isn r = true := by
  refine ⟨(Question.nanBits .f64 x y).cut (w.tape w.drawn (Question.nanBits .f64 x y)), ?_, isn_cut _ _ _⟩
  unfold floatBits at h
  cases op <;> first | (cases hop; done) | skip
  all_goals
    simp only at h
    simp [binOp, Op.floatArith, h, Question.forced]
    try rfl

theorem cut_up (N drop : Nat) (h : 2 ^ drop ≤ N) : N ≤ Ieee.Toward.up.cut false N drop * 2 ^ drop ∧ (Ieee.Toward.up.cut false N drop - 1) * 2 ^ drop < N ∧ 1 ≤ Ieee.Toward.up.cut false N drop := by
  have hp : 0 < 2 ^ drop := Nat.two_pow_pos _
  have hl : drop ≤ N.log2 := (Nat.le_log2 (by omega)).2 h
  unfold Ieee.Toward.cut
  dsimp only
  rw [Nat.min_eq_left (by omega), Nat.one_shiftLeft]
  have hn := Nat.div_add_mod N (2 ^ drop)
  have hr := Nat.mod_lt N hp
  have hq : 1 ≤ N / 2 ^ drop := (Nat.one_le_div_iff hp).2 h
  generalize 2 ^ drop = G at *
  generalize N / G = low at *
  generalize N % G = rest at *
  have e1 : low * G = G * low := Nat.mul_comm _ _
  by_cases hz : rest = 0
  · subst hz
    have e : (!false && (0 : Nat) != 0).toNat = 0 := rfl
    rw [e, Nat.add_zero, Nat.sub_mul, Nat.one_mul, e1]
    have : G * 1 ≤ G * low := Nat.mul_le_mul_left _ hq
    omega
  · have e : (!false && rest != 0).toNat = 1 := by simp [hz]
    rw [e, Nat.add_sub_cancel, Nat.add_mul, Nat.one_mul, e1]
    omega

theorem num_nearest (n : Nat) : floatOfInt .f64 (n : Int) = Ieee.double.nearest false n 0 := by
  show Ieee.double.nearest (decide ((n : Int) < 0)) (n : Int).natAbs 0 = _
  rw [decide_eq_false (by omega), Int.natAbs_natCast]

theorem ceil_num (T : Nat) (hT : T = 1074) {x : Nat} (h : fin x) (h2 : ((2 * 2 ^ T : Nat) : Int) ≤ fk x) (h60 : fk x ≤ ((60 * 2 ^ T : Nat) : Int)) :
    ∃ (s : Bool) (m : Nat) (e : Int) (n : Nat), Ieee.double.read x = .number s m e ∧ FloatKind.f64.encode ((Ieee.Datum.number s m e).integral .up) = floatOfInt .f64 (n : Int) ∧ 2 ≤ n ∧ n ≤ 60 ∧ fk x ≤ ((n * 2 ^ T : Nat) : Int) ∧ (((n - 1) * 2 ^ T : Nat) : Int) < fk x := by
  obtain ⟨s, m, e, hr⟩ := h
  have hf := read_fine x
  rw [hr] at hf
  have he : -1074 ≤ e := hf.1
  have hpT : 0 < 2 ^ T := Nat.two_pow_pos _
  have hk : fk x = Ieee.signed s m (e + 1074).toNat := by unfold fk; rw [hr]; rfl
  have hs : s = false := by
    cases s
    · rfl
    · exfalso
      have : fk x = -((m <<< (e + 1074).toNat : Nat) : Int) := hk
      generalize m <<< (e + 1074).toNat = q at this
      omega
  subst hs
  obtain ⟨c, hc⟩ : ∃ c : Nat, (e + 1074).toNat = c := ⟨_, rfl⟩
  obtain ⟨u, hu⟩ : ∃ u : Nat, e.toNat = u := ⟨_, rfl⟩
  obtain ⟨d, hd⟩ : ∃ d : Nat, (-e).toNat = d := ⟨_, rfl⟩
  have hsum : c + d = u + T := by omega
  have hk2 : fk x = ((m * 2 ^ c : Nat) : Int) := by
    rw [hk, hc, ← Nat.shiftLeft_eq]; rfl
  rw [hk2] at h2 h60 ⊢
  have hpd : 0 < 2 ^ d := Nat.two_pow_pos _
  have hN : m * 2 ^ u * 2 ^ T = m * 2 ^ c * 2 ^ d := by rw [Nat.mul_assoc, Nat.mul_assoc, ← Nat.pow_add, ← Nat.pow_add, hsum]
  have h2' : 2 * 2 ^ T ≤ m * 2 ^ c := by omega
  have h60' : m * 2 ^ c ≤ 60 * 2 ^ T := by omega
  have hlo : 2 * 2 ^ d ≤ m * 2 ^ u := by
    refine Nat.le_of_mul_le_mul_right (c := 2 ^ T) ?_ hpT
    rw [hN, Nat.mul_right_comm]
    exact Nat.mul_le_mul_right _ h2'
  have hhi : m * 2 ^ u ≤ 60 * 2 ^ d := by
    refine Nat.le_of_mul_le_mul_right (c := 2 ^ T) ?_ hpT
    rw [hN, Nat.mul_right_comm 60]
    exact Nat.mul_le_mul_right _ h60'
  obtain ⟨c1, c2, c3⟩ := cut_up (m * 2 ^ u) d (by omega)
  refine ⟨false, m, e, Ieee.Toward.up.cut false (m * 2 ^ u) d, hr, ?_, ?_, ?_, ?_, ?_⟩
  · rw [num_nearest]
    simp only [Ieee.Datum.integral, hu, hd, Nat.shiftLeft_eq]
    rfl
  all_goals generalize Ieee.Toward.up.cut false (m * 2 ^ u) d = n at *
  · refine Nat.le_of_mul_le_mul_right (c := 2 ^ d) ?_ hpd
    omega
  · have : (n - 1) * 2 ^ d < 60 * 2 ^ d := by omega
    have := Nat.lt_of_mul_lt_mul_right this
    omega
  · have : m * 2 ^ c ≤ n * 2 ^ T := by
      refine Nat.le_of_mul_le_mul_right (c := 2 ^ d) ?_ hpd
      rw [← hN, Nat.mul_right_comm n]
      exact Nat.mul_le_mul_right _ c1
    omega
  · have : (n - 1) * 2 ^ T < m * 2 ^ c := by
      refine Nat.lt_of_mul_lt_mul_right (a := 2 ^ d) ?_
      rw [← hN, Nat.mul_right_comm (n - 1)]
      exact Nat.mul_lt_mul_of_pos_right c2 hpT
    omega

theorem conv_small : ∀ n : Fin 61, floatToIntVal .f64 (floatOfInt .f64 ((n.val : Nat) : Int)) .i64 = some ((n.val : Nat) : Int) := by decide +kernel

theorem ceil_any (x : Nat) (s : Bool) (m : Nat) (e : Int) (h : Ieee.double.read x = .number s m e) (w : World) :
    Calls Try.prog 59 #[.float .f64 x] w fun r w' => r = .returned (.float .f64 (FloatKind.f64.encode ((Ieee.Datum.number s m e).integral .up))) ∧ w = w' := by
  have h78 : ∀ w, (callFunc 78 #[.float .f64 x]).run Try.prog w = .ok (.value (.float .f64 (FloatKind.f64.encode ((Ieee.Datum.number s m e).integral .up)))) w := fun w => ext78 x s m e h w
  generalize FloatKind.f64.encode ((Ieee.Datum.number s m e).integral .up) = r at *
  go_enter Try.func59, Try.ntmps59
  go_wp2
  go_ret
  exact ⟨rfl, rfl⟩

/-- x is clamped and made whole: n -/
def Cx (T : Nat) (z n : Int) : Prop :=
  (((60 * 2 ^ T : Nat) : Int) < z ∧ n = 60) ∨ (z < ((2 * 2 ^ T : Nat) : Int) ∧ n = 2) ∨
  (((2 * 2 ^ T : Nat) : Int) ≤ z ∧ z ≤ ((60 * 2 ^ T : Nat) : Int) ∧ 2 ≤ n ∧ n ≤ 60 ∧ z ≤ n * (2 ^ T : Nat) ∧ (n - 1) * (2 ^ T : Nat) < z)

theorem cx_range {T : Nat} {z n : Int} (h : Cx T z n) : 2 ≤ n ∧ n ≤ 60 := by
  rcases h with ⟨_, h⟩ | ⟨_, h⟩ | ⟨_, _, h1, h2, _⟩ <;> omega

theorem cx_mono {T : Nat} {z n z' n' : Int} (h : Cx T z n) (h' : Cx T z' n') (hz : z ≤ z') : n ≤ n' := by
  have r := cx_range h
  have r' := cx_range h'
  rcases h with ⟨a, b⟩ | ⟨a, b⟩ | ⟨a1, a2, a3, a4, a5, a6⟩
  · rcases h' with ⟨c, d⟩ | ⟨c, d⟩ | ⟨c1, c2, c3, c4, c5, c6⟩
    · omega
    · omega
    · omega
  · omega
  · rcases h' with ⟨c, d⟩ | ⟨c, d⟩ | ⟨c1, c2, c3, c4, c5, c6⟩
    · omega
    · omega
    · have hp : (0 : Int) < (2 ^ T : Nat) := by have := Nat.two_pow_pos T; omega
      have : (n - 1) * ((2 ^ T : Nat) : Int) < n' * ((2 ^ T : Nat) : Int) := by omega
      have := Int.lt_of_mul_lt_mul_right this (Int.le_of_lt hp)
      omega

/-- what is waited for -/
def Wt (T : Nat) (m s : Nat) (n : Int) : Prop :=
  (floatBits .mul .f64 4616189618054758400 s = none ∧ n = 60) ∨
  (∃ p, floatBits .mul .f64 4616189618054758400 s = some p ∧ floatBits .add .f64 m p = none ∧ n = 60) ∨
  (∃ p x, floatBits .mul .f64 4616189618054758400 s = some p ∧ floatBits .add .f64 m p = some x ∧ Cx T (fk x) n)

theorem lit60 (T : Nat) (hT : T = 1074) : isn 4633641066610819072 = false ∧ fk 4633641066610819072 = ((60 * 2 ^ T : Nat) : Int) := by
  obtain ⟨r, h1, h2, h3⟩ := of_int T hT 60 (by omega)
  have e : floatOfInt .f64 ((60 : Nat) : Int) = 4633641066610819072 := by decide +kernel
  rw [e] at h1
  subst h1
  obtain ⟨a, b⟩ := word_num 4633641066610819072 (by omega)
  exact ⟨a, by rw [b, h3]⟩
theorem lit2 (T : Nat) (hT : T = 1074) : isn 4611686018427387904 = false ∧ fk 4611686018427387904 = ((2 * 2 ^ T : Nat) : Int) := by
  obtain ⟨r, h1, h2, h3⟩ := of_int T hT 2 (by omega)
  have e : floatOfInt .f64 ((2 : Nat) : Int) = 4611686018427387904 := by decide +kernel
  rw [e] at h1
  subst h1
  obtain ⟨a, b⟩ := word_num 4611686018427387904 (by omega)
  exact ⟨a, by rw [b, h3]⟩

set_option maxHeartbeats 1600000 in
theorem wait_any (T : Nat) (hT : T = 1074) (m s : Nat) : ∃ n, Wt T m s n ∧ ∀ w, Calls Try.prog 20 #[.float .f64 m, .float .f64 s] w fun e w' => e = .returned (.int .i64 n) ∧ Below w.heap.size w w' := by
  cases hm : floatBits .mul .f64 4616189618054758400 s with
  | none =>
    refine ⟨60, .inl ⟨hm, rfl⟩, fun w => ?_⟩
    obtain ⟨p, h1, hp⟩ := run_none .mul rfl 4616189618054758400 s hm w
    obtain ⟨x, h2, hx⟩ := run_none .add rfl m p (add_nan2 m hp) w.drew
    have h3 := order_nan1 x hx
    clear hm hp hx
    go_enter Try.func20, Try.ntmps20
    go_wp2
    go_ret
    exact ⟨rfl, (Below.refl _ _).drew.drew⟩
  | some p =>
    have h1 : ∀ w, (binOp .mul 22 (.float .f64 4616189618054758400) (.float .f64 s)).run Try.prog w = .ok (.float .f64 p) w := fun w => run_float_arith w .mul 22 .f64 _ _ _ hm
    cases ha : floatBits .add .f64 m p with
    | none =>
      refine ⟨60, .inr (.inl ⟨p, hm, ha, rfl⟩), fun w => ?_⟩
      obtain ⟨x, h2, hx⟩ := run_none .add rfl m p ha w
      have h3 := order_nan1 x hx
      clear hm ha hx
      go_enter Try.func20, Try.ntmps20
      go_wp2
      go_ret
      exact ⟨rfl, (Below.refl _ _).drew⟩
    | some x =>
      have h2 : ∀ w, (binOp .add 22 (.float .f64 m) (.float .f64 p)).run Try.prog w = .ok (.float .f64 x) w := fun w => run_float_arith w .add 22 .f64 _ _ _ ha
      obtain ⟨_, _, nx, _⟩ := add_some ha
      have h3 := order_self nx
      obtain ⟨i60, k60⟩ := lit60 T hT
      obtain ⟨i2, k2⟩ := lit2 T hT
      have h4 := order_num nx i60
      have h5 := order_num nx i2
      rw [k60] at h4
      rw [k2] at h5
      by_cases c1 : ((60 * 2 ^ T : Nat) : Int) < fk x
      · refine ⟨60, .inr (.inr ⟨p, x, hm, ha, .inl ⟨c1, rfl⟩⟩), fun w => ?_⟩
        rw [cmp_gt c1] at h4
        clear hm ha h5 k60 k2 nx
        go_enter Try.func20, Try.ntmps20
        go_wp2
        go_ret
        exact ⟨rfl, Below.refl _ _⟩
      · have h4' : FloatKind.f64.format.order x 4633641066610819072 = some .lt ∨ FloatKind.f64.format.order x 4633641066610819072 = some .eq := by
          rw [h4]
          rcases Int.lt_trichotomy (fk x) ((60 * 2 ^ T : Nat) : Int) with h | h | h
          · rw [cmp_lt h]; exact .inl rfl
          · rw [h, cmp_eq]; exact .inr rfl
          · exact absurd h c1
        clear h4
        by_cases c2 : fk x < ((2 * 2 ^ T : Nat) : Int)
        · refine ⟨2, .inr (.inr ⟨p, x, hm, ha, .inr (.inl ⟨c2, rfl⟩)⟩), fun w => ?_⟩
          rw [cmp_lt c2] at h5
          clear hm ha k60 k2 nx
          rcases h4' with h4 | h4
          all_goals
            go_enter Try.func20, Try.ntmps20
            go_wp2
            go_ret
            exact ⟨rfl, Below.refl _ _⟩
        · have h5' : FloatKind.f64.format.order x 4611686018427387904 = some .gt ∨ FloatKind.f64.format.order x 4611686018427387904 = some .eq := by
            rw [h5]
            rcases Int.lt_trichotomy (fk x) ((2 * 2 ^ T : Nat) : Int) with h | h | h
            · exact absurd h c2
            · rw [h, cmp_eq]; exact .inr rfl
            · rw [cmp_gt h]; exact .inl rfl
          clear h5
          have ht := top_pos
          have hfin : fin x := by
            rcases kinds x nx with ⟨f, _, _⟩ | ⟨_, e⟩ | ⟨_, e⟩
            · exact f
            · exfalso
              obtain ⟨a, b, c⟩ := kinds 4633641066610819072 i60 |>.resolve_right (by
                rintro (⟨h, _⟩ | ⟨h, _⟩)
                · exact absurd h (by decide)
                · exact absurd h (by decide))
              omega
            · exfalso
              obtain ⟨a, b, c⟩ := kinds 4611686018427387904 i2 |>.resolve_right (by
                rintro (⟨h, _⟩ | ⟨h, _⟩)
                · exact absurd h (by decide)
                · exact absurd h (by decide))
              omega
          obtain ⟨sg, mm, e, n, hr, he, n2, n60, b1, b2⟩ := ceil_num T hT hfin (by omega) (by omega)
          refine ⟨n, .inr (.inr ⟨p, x, hm, ha, .inr (.inr ⟨by omega, by omega, by omega, by omega, ?_, ?_⟩)⟩), fun w => ?_⟩
          · rw [← Int.natCast_mul]; exact b1
          · have e1 : ((n : Int) - 1) = ((n - 1 : Nat) : Int) := by omega
            rw [e1, ← Int.natCast_mul]; exact b2
          · have hcv := conv_small ⟨n, by omega⟩
            have h6 : ∀ w, (convert 22 3 (.float .f64 (floatOfInt .f64 (n : Int)))).run Try.prog w = .ok (.int .i64 n) w := fun w => run_convert_float_int w 22 3 .f64 .i64 _ n (by kernel_rfl) Try.underlying3 hcv
            have hc := fun w => ceil_any x sg mm e hr w
            rw [he] at hc
            have HC := Lib.hid hc
            clear hm ha k60 k2 nx hcv hc b1 b2 hfin c1 c2 hr he
            rcases h4' with h4 | h4 <;> rcases h5' with h5 | h5
            all_goals
              go_enter Try.func20, Try.ntmps20
              go_wp2_with fail
              refine (HC.out _).mono ?_
              rintro e w1 ⟨rfl, rfl⟩
              go_wp2_with fail
              go_ret
              exact ⟨rfl, Below.refl _ _⟩

end Go.Proofs.Ytdcaklonhbiejaa
