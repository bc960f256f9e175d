/-
  How far a rounded number is from what it was rounded from; differences; sizes; a part of a number.
-/
import Derived.Test.YtdcaklonhbiejaaMean
namespace Go.Proofs.Ytdcaklonhbiejaa

/-! ### a float that is no NaN: its sign and rung -/
theorem read_sign (neg : Bool) (r : Nat) (hr : r ≤ 2047 * 2 ^ 52) : Ieee.double.read (Ieee.double.word neg r) = if r < 2 ^ 52 then .number neg r (-1074) else if r < 2047 * 2 ^ 52 then .number neg (2 ^ 52 + r % 2 ^ 52) (-1074 + (r / 2 ^ 52 - 1 : Nat)) else .infinity neg := by
  have hb : Ieee.double.binade = 2 ^ 52 := by decide
  have hl : Ieee.double.leastPlace = -1074 := by decide
  have hi : Ieee.double.infRung = 2047 * 2 ^ 52 := by decide
  have hs : Ieee.double.signWeight = 2 ^ 63 := by decide
  unfold Ieee.Format.read Ieee.Format.word
  dsimp only
  rw [hb, hl, hi, hs]
  have h0 : r < 2 ^ 63 := by omega
  cases neg
  · have h1 : r / 2 ^ 63 = 0 := Nat.div_eq_of_lt h0
    have h2 : r % 2 ^ 63 = r := Nat.mod_eq_of_lt h0
    simp only [Bool.false_eq_true, if_false, h1, h2]
    by_cases a : r < 2 ^ 52
    · rw [if_pos a, if_pos a]; rfl
    · rw [if_neg a, if_neg a]
      by_cases b : r < 2047 * 2 ^ 52
      · rw [if_pos b, if_pos b]; rfl
      · rw [if_neg b, if_neg b, if_pos (by omega)]; rfl
  · have h1 : (2 ^ 63 + r) / 2 ^ 63 = 1 := by omega
    have h2 : (2 ^ 63 + r) % 2 ^ 63 = r := by omega
    simp only [if_true, h1, h2]
    by_cases a : r < 2 ^ 52
    · rw [if_pos a, if_pos a]; rfl
    · rw [if_neg a, if_neg a]
      by_cases b : r < 2047 * 2 ^ 52
      · rw [if_pos b, if_pos b]; rfl
      · rw [if_neg b, if_neg b, if_pos (by omega)]; rfl

theorem num_word {x : Nat} (h : isn x = false) : ∃ s, x % 2 ^ 63 ≤ 2047 * 2 ^ 52 ∧ Ieee.double.read x = Ieee.double.read (Ieee.double.word s (x % 2 ^ 63)) ∧ fk x = if s = true then -(VT (x % 2 ^ 63) : Int) else VT (x % 2 ^ 63) := by
  obtain ⟨s, hs⟩ := read_as x
  have hle : x % 2 ^ 63 ≤ 2047 * 2 ^ 52 := by
    have hb : Ieee.double.binade = 2 ^ 52 := by decide
    have hi : Ieee.double.infRung = 2047 * 2 ^ 52 := by decide
    have hw : Ieee.double.signWeight = 2 ^ 63 := by decide
    unfold isn Ieee.Format.read at h
    dsimp only at h
    rw [hb, hi, hw] at h
    split at h
    · omega
    · split at h
      · omega
      · split at h
        · omega
        · cases h
  refine ⟨s, hle, hs, ?_⟩
  unfold fk
  rw [hs]
  exact (word_fk s _ hle).2

theorem abs_fk {x : Nat} (h : isn x = false) : isn (x % 2 ^ 63) = false ∧ fk (x % 2 ^ 63) = ((fk x).natAbs : Int) := by
  obtain ⟨s, h1, _, h3⟩ := num_word h
  obtain ⟨h4, h5⟩ := word_fk false (x % 2 ^ 63) h1
  rw [word_false] at h4 h5
  rw [if_neg (by simp)] at h5
  refine ⟨h4, ?_⟩
  rw [h5]
  cases s
  · rw [if_neg (by simp)] at h3; omega
  · rw [if_pos rfl] at h3; omega

theorem fin_of {x : Nat} (h : isn x = false) (h1 : -(top : Int) < fk x) (h2 : fk x < top) : fin x := by
  rcases kinds x h with ⟨f, _⟩ | ⟨_, e⟩ | ⟨_, e⟩
  · exact f
  · omega
  · omega

/-- the difference is the sum with the opposite -/
theorem sub_as_add {y : Nat} (h : fin y) : ∃ y', fin y' ∧ fk y' = -fk y ∧ ∀ x, floatBits .sub .f64 x y = floatBits .add .f64 x y' := by
  have hn := fin_not_nan h
  obtain ⟨s, h1, h2, h3⟩ := num_word hn
  have hlt := fin_fk h
  obtain ⟨w1, w2⟩ := word_fk (!s) (y % 2 ^ 63) h1
  have e : fk (Ieee.double.word (!s) (y % 2 ^ 63)) = -fk y := by
    rw [w2, h3]
    cases s <;> simp
  refine ⟨_, fin_of w1 (by omega) (by omega), e, fun x => ?_⟩
  rw [sub_def, add_def, h2, read_sign s _ h1, read_sign (!s) _ h1]
  by_cases a : y % 2 ^ 63 < 2 ^ 52
  · rw [if_pos a, if_pos a]; rfl
  · rw [if_neg a, if_neg a]
    by_cases b : y % 2 ^ 63 < 2047 * 2 ^ 52
    · rw [if_pos b, if_pos b]; rfl
    · rw [if_neg b, if_neg b]; rfl

theorem sub_fin {x y : Nat} (hx : fin x) (hy : fin y) : ∃ b, floatBits .sub .f64 x y = some b ∧ isn b = false ∧ RN (fk x - fk y) (fk b) := by
  obtain ⟨y', f', e, h⟩ := sub_as_add hy
  obtain ⟨b, h1, h2, h3⟩ := add_fin hx f'
  refine ⟨b, by rw [h]; exact h1, h2, ?_⟩
  rw [e] at h3
  exact h3

/-! ### how far -/
theorem rhe_near {P D k : Nat} (h : Rhe P D k) : 2 * P ≤ 2 * k * D + D ∧ 2 * k * D ≤ 2 * P + D := by
  obtain ⟨h1, h2, _⟩ := h
  rw [Nat.add_mul, Nat.one_mul] at h1
  exact ⟨h1, h2⟩

theorem V_at (e k : Nat) (h : (e = 0 ∧ k ≤ 2 ^ 53) ∨ (2 ^ 52 ≤ k ∧ k ≤ 2 ^ 53)) : V (e * 2 ^ 52 + k) = k * 2 ^ e := by
  by_cases hk : k = 2 ^ 53
  · subst hk
    unfold V
    rw [if_neg (by omega)]
    have e1 : (e * 2 ^ 52 + 2 ^ 53) % 2 ^ 52 = 0 := by omega
    have e2 : (e * 2 ^ 52 + 2 ^ 53) / 2 ^ 52 - 1 = e + 1 := by omega
    have gen : ∀ E, (2 ^ 52 + 0) * 2 ^ (E + 1) = 2 ^ 53 * 2 ^ E := fun E => by rw [Nat.pow_succ 2 E]; omega
    rw [e1, e2]
    exact gen e
  · unfold V
    by_cases hlt : e * 2 ^ 52 + k < 2 ^ 52
    · have e0 : e = 0 := by omega
      subst e0
      rw [if_pos hlt]
      omega
    · rw [if_neg hlt]
      have e1 : (e * 2 ^ 52 + k) % 2 ^ 52 = k - 2 ^ 52 := by omega
      have e2 : (e * 2 ^ 52 + k) / 2 ^ 52 - 1 = e := by omega
      have e3 : 2 ^ 52 + (k - 2 ^ 52) = k := by omega
      rw [e1, e2, e3]

theorem rung_err {P r : Nat} (h : Rung P 1 r) : 2 ^ 53 * V r ≤ 2 ^ 53 * P + P ∧ 2 ^ 53 * P ≤ 2 ^ 53 * V r + P := by
  obtain ⟨e, k, rfl, hk, he, hu⟩ := h
  rw [Nat.one_mul] at hk he hu
  have p : 0 < 2 ^ e := Nat.two_pow_pos e
  have k1 : k ≤ 2 ^ 53 := rhe_le p hk (Nat.le_of_lt hu)
  obtain ⟨n1, n2⟩ := rhe_near hk
  have hv : V (e * 2 ^ 52 + k) = k * 2 ^ e := by
    rcases he with he | he
    · exact V_at e k (.inl ⟨he, k1⟩)
    · exact V_at e k (.inr ⟨rhe_ge p hk he, k1⟩)
  rw [hv]
  rw [Nat.mul_assoc 2 k] at n1 n2
  rcases he with he | he
  · subst he
    rw [Nat.pow_zero, Nat.mul_one] at n1 n2 ⊢
    omega
  · generalize 2 ^ e = D at *
    generalize k * D = KD at *
    omega

theorem rn_err {z v : Int} (h : RN z v) (h1 : -(top : Int) < v) (h2 : v < top) : 2 ^ 53 * (v - z) ≤ z.natAbs ∧ 2 ^ 53 * (z - v) ≤ z.natAbs := by
  obtain ⟨r, hr, h0, hn, e⟩ := h
  have hv0 : VT 0 = 0 := by unfold VT V; rw [if_pos (by omega), if_pos (by omega)]
  by_cases hz : z = 0
  · rw [h0 hz, hv0] at e
    subst hz
    simp at e
    subst e
    simp
  · obtain ⟨r0, hr0, er⟩ := hn hz
    have hlt : r0 < 2047 * 2 ^ 52 := by
      refine Nat.lt_of_not_le fun hge => ?_
      have e2 : r = 2047 * 2 ^ 52 := by omega
      have e3 : VT r = top := by rw [e2]; unfold VT; rw [if_neg (by omega)]
      rw [e3] at e
      split at e <;> omega
    have e2 : r = r0 := by omega
    have e3 : VT r = V r0 := by rw [e2]; unfold VT; rw [if_pos hlt]
    rw [e3] at e
    obtain ⟨q1, q2⟩ := rung_err hr0
    generalize V r0 = u at *
    split at e
    · omega
    · omega

/-- rounding to a bound that is a float -/
theorem rn_le_V {z v : Int} {r0 : Nat} (h : RN z v) (hr : r0 < 2047 * 2 ^ 52) (hz : z ≤ V r0) : v ≤ V r0 := by
  have hvt : VT r0 = V r0 := by unfold VT; rw [if_pos hr]
  have hs : RN (V r0 : Int) (V r0 : Int) := by
    have hv0 : V 0 = 0 := by unfold V; rw [if_pos (by omega)]
    refine ⟨r0, by omega, fun h0 => V_inj (by omega), fun _ => ⟨r0, by rw [Int.natAbs_natCast]; exact V_rung r0, by omega⟩, ?_⟩
    rw [if_neg (by omega), hvt]
  exact rn_mono h hs hz
theorem rn_ge_V {z v : Int} {r0 : Nat} (h : RN z v) (hr : r0 < 2047 * 2 ^ 52) (hz : (V r0 : Int) ≤ z) : (V r0 : Int) ≤ v := by
  have hvt : VT r0 = V r0 := by unfold VT; rw [if_pos hr]
  have hs : RN (V r0 : Int) (V r0 : Int) := by
    have hv0 : V 0 = 0 := by unfold V; rw [if_pos (by omega)]
    refine ⟨r0, by omega, fun h0 => V_inj (by omega), fun _ => ⟨r0, by rw [Int.natAbs_natCast]; exact V_rung r0, by omega⟩, ?_⟩
    rw [if_neg (by omega), hvt]
  exact rn_mono hs h hz
theorem rn_neg {z v : Int} (h : RN z v) : RN (-z) (-v) := by
  obtain ⟨r, hr, h0, hn, e⟩ := h
  have hv0 : VT 0 = 0 := by unfold VT V; rw [if_pos (by omega), if_pos (by omega)]
  refine ⟨r, hr, fun k => h0 (by omega), fun k => by rw [Int.natAbs_neg]; exact hn (by omega), ?_⟩
  rcases Int.lt_trichotomy z 0 with c | c | c
  · rw [if_pos c] at e; rw [if_neg (by omega)]; omega
  · have := h0 c
    rw [this, hv0] at e
    rw [this, hv0]
    subst c
    simp at e
    subst e
    simp
  · rw [if_neg (by omega)] at e; rw [if_pos (by omega)]; omega

theorem rn_zero : RN 0 0 := by
  have hv0 : VT 0 = 0 := by unfold VT V; rw [if_pos (by omega), if_pos (by omega)]
  exact ⟨0, by omega, fun _ => rfl, fun h => absurd rfl h, by rw [if_neg (by omega), hv0]; rfl⟩

/-- a power of two is a float -/
theorem pow_rung (j : Nat) (hj : j ≤ 2000) : ∃ r, r < 2047 * 2 ^ 52 ∧ V r = 2 ^ j := by
  by_cases h : j < 52
  · have : 2 ^ j < 2 ^ 52 := Nat.pow_lt_pow_right (by omega) h
    exact ⟨2 ^ j, by omega, by unfold V; rw [if_pos this]⟩
  · refine ⟨(j - 52) * 2 ^ 52 + 2 ^ 52, by omega, ?_⟩
    rw [V_at (j - 52) (2 ^ 52) (.inr ⟨Nat.le_refl _, by omega⟩), ← Nat.pow_add]
    congr 1
    omega

/-- a part of a number is between nothing and all of it -/
theorem mul_part (T : Nat) (hT : T = 1074) {p g : Nat} (hp : fin p) (hg : fin g) (h0 : 0 ≤ fk p) (h1 : fk p ≤ ((2 ^ T : Nat) : Int)) :
    ∃ q, floatBits .mul .f64 p g = some q ∧ fin q ∧ (0 ≤ fk g → 0 ≤ fk q ∧ fk q ≤ fk g) ∧ (fk g ≤ 0 → fk g ≤ fk q ∧ fk q ≤ 0) ∧ (fk p = 0 → fk q = 0) ∧
      (∀ r0, r0 < 2047 * 2 ^ 52 → 0 ≤ fk g → (V r0 : Int) * ((2 ^ T : Nat) : Int) ≤ fk p * fk g → (V r0 : Int) ≤ fk q) := by
  have ht := top_pos
  have hgf := fin_fk hg
  obtain ⟨sg, rg, hrg, _, hvg⟩ := fin_word hg
  obtain ⟨s, m, i, hp⟩ := hp
  obtain ⟨t, n, j, hg⟩ := hg
  have f1 := read_fine p
  have f2 := read_fine g
  rw [hp] at f1
  rw [hg] at f2
  have hi : -1074 ≤ i := f1.1
  have hj : -1074 ≤ j := f2.1
  have e1 : fk p = Ieee.signed s m (i + 1074).toNat := by unfold fk; rw [hp]; rfl
  have e2 : fk g = Ieee.signed t n (j + 1074).toNat := by unfold fk; rw [hg]; rfl
  obtain ⟨u, hu⟩ : ∃ u : Nat, (i + 1074).toNat = u := ⟨_, rfl⟩
  obtain ⟨v, hv⟩ : ∃ v : Nat, (j + 1074).toNat = v := ⟨_, rfl⟩
  rw [hu] at e1
  rw [hv] at e2
  have s1 : fk p = if s = true then -((m * 2 ^ u : Nat) : Int) else ((m * 2 ^ u : Nat) : Int) := by rw [e1]; unfold Ieee.signed; rw [Nat.shiftLeft_eq]
  have s2 : fk g = if t = true then -((n * 2 ^ v : Nat) : Int) else ((n * 2 ^ v : Nat) : Int) := by rw [e2]; unfold Ieee.signed; rw [Nat.shiftLeft_eq]
  have hmul : floatBits .mul .f64 p g = some (Ieee.double.nearest (s ^^ t) (m * n) (i + j)) := by
    rw [mul_def, hp, hg]
    rfl
  have hv0 : VT 0 = 0 := by unfold VT V; rw [if_pos (by omega), if_pos (by omega)]
  by_cases hz : m * n = 0
  · have e : Ieee.double.nearest (s ^^ t) (m * n) (i + j) = Ieee.double.word (s ^^ t) 0 := by rw [hz]; unfold Ieee.Format.nearest; rw [if_pos rfl]
    obtain ⟨w1, w2⟩ := word_fk (s ^^ t) 0 (by omega)
    have w3 : fk (Ieee.double.word (s ^^ t) 0) = 0 := by rw [w2, hv0]; simp
    have hpg : fk p * fk g = 0 := by
      rcases Nat.mul_eq_zero.1 hz with k | k
      · rw [s1, k]; simp
      · rw [s2, k]; simp
    refine ⟨_, by rw [hmul, e], fin_of w1 (by omega) (by omega), fun k => by omega, fun k => by omega, fun _ => w3, fun r0 _ _ k => ?_⟩
    rw [hpg] at k
    have hpT : (0 : Int) < ((2 ^ T : Nat) : Int) := by have := Nat.two_pow_pos T; omega
    have : (V r0 : Int) ≤ 0 := by
      refine Int.le_of_mul_le_mul_right (a := ((2 ^ T : Nat) : Int)) ?_ hpT
      rw [Int.zero_mul]; exact k
    omega
  · have hm : 0 < m := Nat.pos_of_ne_zero fun k => hz (by rw [k, Nat.zero_mul])
    have hn : 0 < n := Nat.pos_of_ne_zero fun k => hz (by rw [k, Nat.mul_zero])
    have pm : 0 < m * 2 ^ u := Nat.mul_pos hm (Nat.two_pow_pos _)
    have hs : s = false := by
      cases s
      · rfl
      · rw [if_pos rfl] at s1; omega
    subst hs
    rw [if_neg (by simp)] at s1
    obtain ⟨r, hr, hrg2⟩ := nearest_rung (false ^^ t) (m * n) (i + j) (Nat.pos_of_ne_zero hz) (u + v) T (by omega)
    have hP : m * n * 2 ^ (u + v) = (m * 2 ^ u) * (n * 2 ^ v) := by rw [Nat.pow_add]; simp only [Nat.mul_assoc, Nat.mul_left_comm]
    rw [hP] at hrg2
    generalize m * 2 ^ u = P1 at *
    generalize n * 2 ^ v = P2 at *
    have hVg : V rg = P2 := by
      generalize V rg = vg at *
      cases t
      · rw [if_neg (by simp)] at s2
        cases sg
        · rw [if_neg (by simp)] at hvg; omega
        · rw [if_pos rfl] at hvg; omega
      · rw [if_pos rfl] at s2
        cases sg
        · rw [if_neg (by simp)] at hvg; omega
        · rw [if_pos rfl] at hvg; omega
    have hP1 : P1 ≤ 2 ^ T := by omega
    have hle : r ≤ rg := rung_le (Nat.two_pow_pos T) hrg2 (by rw [hVg, Nat.mul_comm]; exact Nat.mul_le_mul_left _ hP1)
    have hlt : r < 2047 * 2 ^ 52 := by omega
    obtain ⟨w1, w2⟩ := word_fk (false ^^ t) r (by omega)
    have hVr : VT r = V r := by unfold VT; rw [if_pos hlt]
    rw [hVr] at w2
    have hVle : V r ≤ P2 := by rw [← hVg]; exact V_mono hle
    rw [inf_eq, Nat.min_eq_left (by omega)] at hr
    have hq : fk (Ieee.double.word (false ^^ t) r) = if t = true then -(V r : Int) else V r := by
      rw [w2]; cases t <;> rfl
    refine ⟨_, by rw [hmul, hr], fin_of w1 ?_ ?_, fun k => ?_, fun k => ?_, fun k => by omega, fun r0 h3 h4 h5 => ?_⟩
    · rw [hq]
      cases t
      · simp at s2 ⊢; omega
      · simp at s2 ⊢; omega
    · rw [hq]
      cases t
      · simp at s2 ⊢; omega
      · simp at s2 ⊢; omega
    · rw [hq]
      cases t
      · simp at s2 ⊢; omega
      · simp at s2 ⊢; omega
    · rw [hq]
      cases t
      · simp at s2 ⊢; omega
      · simp at s2 ⊢; omega
    · rw [hq]
      cases t
      · rw [if_neg (by simp)] at s2 ⊢
        rw [s1, s2, ← Int.natCast_mul, ← Int.natCast_mul] at h5
        have := rung_ge (r0 := r0) (Nat.two_pow_pos T) hrg2 (by omega)
        have := V_mono this
        omega
      · rw [if_pos rfl] at s2
        have : P2 = 0 := by omega
        have hp2 : 0 < P2 := by
          refine Nat.pos_of_ne_zero fun k => ?_
          rw [k, Nat.mul_zero] at hP
          have := Nat.mul_pos (Nat.pos_of_ne_zero hz) (Nat.two_pow_pos (u + v))
          omega
        omega

end Go.Proofs.Ytdcaklonhbiejaa
