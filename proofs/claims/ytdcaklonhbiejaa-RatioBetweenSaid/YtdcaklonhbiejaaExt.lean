/-
  Floats that are numbers, infinities among them: sums, and four times one, rise with what they are of.
-/
import Derived.Test.YtdcaklonhbiejaaMul
namespace Go.Proofs.Ytdcaklonhbiejaa

/-- a float that is no NaN: finite, or an infinity -/
theorem kinds (x : Nat) (h : isn x = false) : (fin x ∧ -(top : Int) < fk x ∧ fk x < top) ∨ (Ieee.double.read x = .infinity false ∧ fk x = top) ∨ (Ieee.double.read x = .infinity true ∧ fk x = -(top : Int)) := by
  have hf := read_fine x
  unfold isn at h
  unfold fin fk
  cases hr : Ieee.double.read x with
  | number s m e =>
    rw [hr] at hf
    obtain ⟨a, b⟩ := fine_key hf
    exact .inl ⟨⟨s, m, e, rfl⟩, a, b⟩
  | infinity s =>
    cases s
    · exact .inr (.inl ⟨rfl, rfl⟩)
    · exact .inr (.inr ⟨rfl, rfl⟩)
  | nan s f => rw [hr] at h; cases h

theorem nan_read {x : Nat} (h : isn x = true) : ∃ s f, Ieee.double.read x = .nan s f := by
  unfold isn at h
  cases hr : Ieee.double.read x with
  | number s m e => rw [hr] at h; cases h
  | infinity s => rw [hr] at h; cases h
  | nan s f => exact ⟨s, f, rfl⟩

theorem add_def (x y : Nat) : floatBits .add .f64 x y = ((Ieee.double.read x).sum (Ieee.double.read y)).map Ieee.double.write := rfl
theorem mul_def (x y : Nat) : floatBits .mul .f64 x y = ((Ieee.double.read x).product (Ieee.double.read y)).map Ieee.double.write := rfl

theorem add_nan1 {x : Nat} (y : Nat) (h : isn x = true) : floatBits .add .f64 x y = none := by
  obtain ⟨s, f, h⟩ := nan_read h
  rw [add_def, h]
  rfl
theorem add_nan2 (x : Nat) {y : Nat} (h : isn y = true) : floatBits .add .f64 x y = none := by
  obtain ⟨s, f, h⟩ := nan_read h
  rw [add_def, h]
  cases Ieee.double.read x <;> rfl
theorem mul_nan2 (x : Nat) {y : Nat} (h : isn y = true) : floatBits .mul .f64 x y = none := by
  obtain ⟨s, f, h⟩ := nan_read h
  rw [mul_def, h]
  cases Ieee.double.read x <;> rfl
theorem mul_nan1 {x : Nat} (y : Nat) (h : isn x = true) : floatBits .mul .f64 x y = none := by
  obtain ⟨s, f, h⟩ := nan_read h
  rw [mul_def, h]
  rfl

theorem write_inf (s : Bool) : isn (Ieee.double.write (.infinity s)) = false ∧ fk (Ieee.double.write (.infinity s)) = if s then -(top : Int) else top := by
  have hv : VT (2047 * 2 ^ 52) = top := by unfold VT; rw [if_neg (by omega)]
  have e : Ieee.double.write (.infinity s) = Ieee.double.word s (2047 * 2 ^ 52) := by
    show Ieee.double.word s Ieee.double.infRung = _
    rw [inf_eq]
  have := word_fk s (2047 * 2 ^ 52) (Nat.le_refl _)
  rw [hv] at this
  rw [e]
  exact this

theorem vt_top (r : Nat) : VT r ≤ top := by
  unfold VT
  split
  · exact Nat.le_of_lt (V_top (by assumption))
  · exact Nat.le_refl _
theorem rn_range {z v : Int} (h : RN z v) : -(top : Int) ≤ v ∧ v ≤ top := by
  obtain ⟨r, _, _, _, rfl⟩ := h
  have := vt_top r
  split <;> omega
theorem fk_range (x : Nat) (h : isn x = false) : -(top : Int) ≤ fk x ∧ fk x ≤ top := by
  have := top_pos
  rcases kinds x h with ⟨_, a, b⟩ | ⟨_, a⟩ | ⟨_, a⟩ <;> omega

/-- what a sum is -/
theorem add_some {x y b : Nat} (h : floatBits .add .f64 x y = some b) :
    isn x = false ∧ isn y = false ∧ isn b = false ∧
    ((fin x ∧ fin y ∧ RN (fk x + fk y) (fk b)) ∨ ((fk x = top ∨ fk y = top) ∧ fk x ≠ -(top : Int) ∧ fk y ≠ -(top : Int) ∧ fk b = top) ∨
      ((fk x = -(top : Int) ∨ fk y = -(top : Int)) ∧ fk x ≠ top ∧ fk y ≠ top ∧ fk b = -(top : Int))) := by
  have ht := top_pos
  have hx : isn x = false := by
    cases e : isn x
    · rfl
    · rw [add_nan1 y e] at h; cases h
  have hy : isn y = false := by
    cases e : isn y
    · rfl
    · rw [add_nan2 x e] at h; cases h
  refine ⟨hx, hy, ?_⟩
  obtain ⟨w0, w0'⟩ := write_inf false
  obtain ⟨w1, w1'⟩ := write_inf true
  rw [if_neg (by simp)] at w0'
  rw [if_pos rfl] at w1'
  rcases kinds x hx with ⟨fx, a1, a2⟩ | ⟨rx, a1⟩ | ⟨rx, a1⟩ <;> rcases kinds y hy with ⟨fy, b1, b2⟩ | ⟨ry, b1⟩ | ⟨ry, b1⟩
  · obtain ⟨b', hb', h1, h2⟩ := add_fin fx fy
    rw [hb'] at h
    cases h
    exact ⟨h1, .inl ⟨fx, fy, h2⟩⟩
  · obtain ⟨s, m, e, rx⟩ := fx
    rw [add_def, rx, ry] at h
    obtain rfl := Option.some.inj (show some (Ieee.double.write (.infinity false)) = some b from h)
    exact ⟨w0, .inr (.inl ⟨.inr b1, by omega, by omega, w0'⟩)⟩
  · obtain ⟨s, m, e, rx⟩ := fx
    rw [add_def, rx, ry] at h
    obtain rfl := Option.some.inj (show some (Ieee.double.write (.infinity true)) = some b from h)
    exact ⟨w1, .inr (.inr ⟨.inr b1, by omega, by omega, w1'⟩)⟩
  · obtain ⟨s, m, e, ry⟩ := fy
    rw [add_def, rx, ry] at h
    obtain rfl := Option.some.inj (show some (Ieee.double.write (.infinity false)) = some b from h)
    exact ⟨w0, .inr (.inl ⟨.inl a1, by omega, by omega, w0'⟩)⟩
  · rw [add_def, rx, ry] at h
    obtain rfl := Option.some.inj (show some (Ieee.double.write (.infinity false)) = some b from h)
    exact ⟨w0, .inr (.inl ⟨.inl a1, by omega, by omega, w0'⟩)⟩
  · rw [add_def, rx, ry] at h
    cases h
  · obtain ⟨s, m, e, ry⟩ := fy
    rw [add_def, rx, ry] at h
    obtain rfl := Option.some.inj (show some (Ieee.double.write (.infinity true)) = some b from h)
    exact ⟨w1, .inr (.inr ⟨.inl a1, by omega, by omega, w1'⟩)⟩
  · rw [add_def, rx, ry] at h
    cases h
  · rw [add_def, rx, ry] at h
    obtain rfl := Option.some.inj (show some (Ieee.double.write (.infinity true)) = some b from h)
    exact ⟨w1, .inr (.inr ⟨.inl a1, by omega, by omega, w1'⟩)⟩

theorem fin_fk {x : Nat} (h : fin x) : -(top : Int) < fk x ∧ fk x < top := by
  obtain ⟨s, m, e, hr⟩ := h
  have hf := read_fine x
  unfold fk
  rw [hr] at hf ⊢
  exact fine_key hf

theorem add_mono {x y b x' y' b' : Nat} (h : floatBits .add .f64 x y = some b) (h' : floatBits .add .f64 x' y' = some b') (hx : fk x ≤ fk x') (hy : fk y ≤ fk y') : fk b ≤ fk b' := by
  have ht := top_pos
  obtain ⟨nx, ny, nb, k⟩ := add_some h
  obtain ⟨nx', ny', nb', k'⟩ := add_some h'
  have rb := fk_range b nb
  have rb' := fk_range b' nb'
  have rx := fk_range x nx
  have ry := fk_range y ny
  have rx' := fk_range x' nx'
  have ry' := fk_range y' ny'
  rcases k with ⟨f1, f2, k⟩ | ⟨k1, k2, k3, k4⟩ | ⟨k1, k2, k3, k4⟩
  · rcases k' with ⟨g1, g2, k'⟩ | ⟨l1, l2, l3, l4⟩ | ⟨l1, l2, l3, l4⟩
    · exact rn_mono k k' (by omega)
    · omega
    · have := fin_fk f1
      have := fin_fk f2
      omega
  · rcases k' with ⟨g1, g2, k'⟩ | ⟨l1, l2, l3, l4⟩ | ⟨l1, l2, l3, l4⟩
    · have := fin_fk g1
      have := fin_fk g2
      omega
    · omega
    · omega
  · omega

/-- what four times one is -/
theorem mul4_some {y b : Nat} (h : floatBits .mul .f64 4616189618054758400 y = some b) :
    isn y = false ∧ isn b = false ∧ ((fin y ∧ RN (4 * fk y) (fk b)) ∨ (fk y = top ∧ fk b = top) ∨ (fk y = -(top : Int) ∧ fk b = -(top : Int))) := by
  have hy : isn y = false := by
    cases e : isn y
    · rfl
    · rw [mul_nan2 _ e] at h; cases h
  have h4 : Ieee.double.read 4616189618054758400 = .number false 4503599627370496 (-50) := by decide
  obtain ⟨w0, w0'⟩ := write_inf false
  obtain ⟨w1, w1'⟩ := write_inf true
  rw [if_neg (by simp)] at w0'
  rw [if_pos rfl] at w1'
  refine ⟨hy, ?_⟩
  rcases kinds y hy with ⟨fy, b1, b2⟩ | ⟨ry, b1⟩ | ⟨ry, b1⟩
  · obtain ⟨b', hb', h1, h2⟩ := mul4_fin fy
    rw [hb'] at h
    cases h
    exact ⟨h1, .inl ⟨fy, h2⟩⟩
  · rw [mul_def, h4, ry] at h
    obtain rfl := Option.some.inj (show some (Ieee.double.write (.infinity false)) = some b from h)
    exact ⟨w0, .inr (.inl ⟨b1, w0'⟩)⟩
  · rw [mul_def, h4, ry] at h
    obtain rfl := Option.some.inj (show some (Ieee.double.write (.infinity true)) = some b from h)
    exact ⟨w1, .inr (.inr ⟨b1, w1'⟩)⟩

theorem mul4_is {y : Nat} (hy : isn y = false) : ∃ b, floatBits .mul .f64 4616189618054758400 y = some b := by
  have h4 : Ieee.double.read 4616189618054758400 = .number false 4503599627370496 (-50) := by decide
  rcases kinds y hy with ⟨fy, b1, b2⟩ | ⟨ry, b1⟩ | ⟨ry, b1⟩
  · obtain ⟨b', hb', h1, h2⟩ := mul4_fin fy
    exact ⟨b', hb'⟩
  · exact ⟨_, by rw [mul_def, h4, ry]; rfl⟩
  · exact ⟨_, by rw [mul_def, h4, ry]; rfl⟩

theorem mul4_mono {y b y' b' : Nat} (h : floatBits .mul .f64 4616189618054758400 y = some b) (h' : floatBits .mul .f64 4616189618054758400 y' = some b') (hy : fk y ≤ fk y') : fk b ≤ fk b' := by
  have ht := top_pos
  obtain ⟨ny, nb, k⟩ := mul4_some h
  obtain ⟨ny', nb', k'⟩ := mul4_some h'
  have rb := fk_range b nb
  have rb' := fk_range b' nb'
  have ry := fk_range y ny
  have ry' := fk_range y' ny'
  rcases k with ⟨f1, k⟩ | ⟨k1, k2⟩ | ⟨k1, k2⟩
  · rcases k' with ⟨g1, k'⟩ | ⟨l1, l2⟩ | ⟨l1, l2⟩
    · exact rn_mono k k' (by omega)
    · omega
    · have := fin_fk f1
      omega
  · rcases k' with ⟨g1, k'⟩ | ⟨l1, l2⟩ | ⟨l1, l2⟩
    · have := fin_fk g1
      omega
    · omega
    · omega
  · omega

/-- a float's sign and rung -/
theorem read_as (x : Nat) : ∃ s, Ieee.double.read x = Ieee.double.read (Ieee.double.word s (x % 2 ^ 63)) := by
  have hs : Ieee.double.signWeight = 2 ^ 63 := by decide
  refine ⟨x / 2 ^ 63 % 2 == 1, ?_⟩
  unfold Ieee.Format.read Ieee.Format.word
  dsimp only
  rw [hs]
  have h0 : x % 2 ^ 63 < 2 ^ 63 := Nat.mod_lt _ (Nat.two_pow_pos _)
  by_cases h : x / 2 ^ 63 % 2 = 1
  · have e : (x / 2 ^ 63 % 2 == 1) = true := by simp [h]
    rw [e]
    simp only [if_true]
    have h1 : (2 ^ 63 + x % 2 ^ 63) / 2 ^ 63 % 2 = 1 := by omega
    have h2 : (2 ^ 63 + x % 2 ^ 63) % 2 ^ 63 = x % 2 ^ 63 := by omega
    rw [h1, h2]
    rfl
  · have e : (x / 2 ^ 63 % 2 == 1) = false := by simp [h]
    rw [e]
    simp only [Bool.false_eq_true, if_false]
    have h1 : x % 2 ^ 63 / 2 ^ 63 % 2 = 0 := by omega
    have h2 : x % 2 ^ 63 % 2 ^ 63 = x % 2 ^ 63 := by omega
    rw [h1, h2]
    rfl

theorem fin_word {x : Nat} (h : fin x) : ∃ s r, r < 2047 * 2 ^ 52 ∧ r = x % 2 ^ 63 ∧ fk x = if s = true then -(V r : Int) else V r := by
  obtain ⟨s, hs⟩ := read_as x
  obtain ⟨t, m, e, hr⟩ := h
  have hlt : x % 2 ^ 63 < 2047 * 2 ^ 52 := by
    have hb : Ieee.double.binade = 2 ^ 52 := by decide
    have hi : Ieee.double.infRung = 2047 * 2 ^ 52 := by decide
    have hw : Ieee.double.signWeight = 2 ^ 63 := by decide
    unfold Ieee.Format.read at hr
    dsimp only at hr
    rw [hb, hi, hw] at hr
    split at hr
    · omega
    · split at hr
      · assumption
      · split at hr <;> cases hr
  obtain ⟨h1, h2⟩ := word_fk s (x % 2 ^ 63) (by omega)
  refine ⟨s, x % 2 ^ 63, hlt, rfl, ?_⟩
  unfold fk at h2 ⊢
  rw [hs, h2]
  unfold VT
  rw [if_pos hlt]

/-- a float that is finite is what it is rounded to -/
theorem rn_self {x : Nat} (h : fin x) : RN (fk x) (fk x) := by
  obtain ⟨s, r, hr, _, e⟩ := fin_word h
  have hv0 : V 0 = 0 := by unfold V; rw [if_pos (by omega)]
  have hvt : VT r = V r := by unfold VT; rw [if_pos hr]
  refine ⟨r, by omega, fun h0 => ?_, fun h0 => ⟨r, ?_, by omega⟩, ?_⟩
  · refine V_inj ?_
    rw [hv0]
    cases s
    · rw [if_neg (by simp)] at e; omega
    · rw [if_pos rfl] at e; omega
  · have e2 : (fk x).natAbs = V r := by
      cases s
      · rw [if_neg (by simp)] at e; omega
      · rw [if_pos rfl] at e; omega
    rw [e2]
    exact V_rung r
  · rw [hvt]
    cases s
    · rw [if_neg (by simp)] at e; split <;> omega
    · rw [if_pos rfl] at e; split <;> omega

end Go.Proofs.Ytdcaklonhbiejaa
