/-
  A mean lies between, but for rounding: the plain law.
-/
import Derived.Test.YtdcaklonhbiejaaErr
namespace Go.Proofs.Ytdcaklonhbiejaa

theorem lit_one (T : Nat) (hT : T = 1074) : fk 4607182418800017408 = ((2 ^ T : Nat) : Int) := by
  obtain ⟨r, h1, h2, h3⟩ := of_int T hT 1 (by omega)
  have e : floatOfInt .f64 ((1 : Nat) : Int) = 4607182418800017408 := by decide +kernel
  rw [e] at h1
  subst h1
  obtain ⟨_, b⟩ := word_num 4607182418800017408 (by omega)
  rw [b, h3, Nat.one_mul]

/-- the slack's part -/
theorem lit_c (T : Nat) (hT : T = 1074) : fin 4472406533629990549 ∧ 0 ≤ fk 4472406533629990549 ∧ fk 4472406533629990549 ≤ ((2 ^ T : Nat) : Int) ∧ ((2 ^ (T - 30) : Nat) : Int) ≤ fk 4472406533629990549 := by
  have h1 : ∃ m e, Ieee.double.read 4472406533629990549 = .number false m e := ⟨4835703278458517, -82, by decide +kernel⟩
  obtain ⟨m, e, h1⟩ := h1
  have h2 : fk 4472406533629990549 ≤ fk 4607182418800017408 := by decide +kernel
  have h3 : (((2 ^ 256) ^ 4 * 2 ^ 20 : Nat) : Int) ≤ fk 4472406533629990549 := by decide +kernel
  have gen : ∀ a b c : Nat, T - 30 = a * b + c → (2 : Nat) ^ (T - 30) = (2 ^ a) ^ b * 2 ^ c := fun a b c h => by rw [h, Nat.pow_add, Nat.pow_mul]
  have h4 := gen 256 4 20 (by omega)
  rw [lit_one T hT] at h2
  rw [h4]
  exact ⟨⟨false, m, e, h1⟩, by omega, h2, h3⟩

theorem slack_of (T J : Nat) (hT : T = 1074) (hJ : J = 1573) {old now : Nat} (ho : fin old) (hn : fin now) (bo : (fk old).natAbs ≤ 2 ^ J) (bn : (fk now).natAbs ≤ 2 ^ J) :
    ∃ sA sl, floatBits .add .f64 (old % 2 ^ 63) (now % 2 ^ 63) = some sA ∧ floatBits .mul .f64 4472406533629990549 sA = some sl ∧ fin sl ∧ 0 ≤ fk sl ∧
      ∀ d E : Int, d.natAbs ≤ (fk old).natAbs + (fk now).natAbs → 2 ^ 53 * E.natAbs ≤ d.natAbs → (E.natAbs : Int) ≤ fk sl := by
  have ht := top_pos
  obtain ⟨o1, o2⟩ := abs_fk (fin_not_nan ho)
  obtain ⟨n1, n2⟩ := abs_fk (fin_not_nan hn)
  have fo := fin_fk ho
  have fn := fin_fk hn
  have ao : fin (old % 2 ^ 63) := fin_of o1 (by omega) (by omega)
  have an : fin (now % 2 ^ 63) := fin_of n1 (by omega) (by omega)
  obtain ⟨sA, ha, hna, hra⟩ := add_fin ao an
  rw [o2, n2] at hra
  generalize (fk old).natAbs = a at *
  generalize (fk now).natAbs = b at *
  obtain ⟨rJ, hrJ, hVJ⟩ := pow_rung (J + 1) (by omega)
  have h2J : 2 ^ (J + 1) = 2 * 2 ^ J := by rw [Nat.pow_succ 2 J, Nat.mul_comm]
  have hup : fk sA ≤ V rJ := rn_le_V hra hrJ (by rw [hVJ]; omega)
  have hlo : 0 ≤ fk sA := rn_mono rn_zero hra (by omega)
  have hVtop := V_top hrJ
  have fA : fin sA := fin_of hna (by omega) (by omega)
  obtain ⟨c1, c2, c3, c4⟩ := lit_c T hT
  obtain ⟨sl, hs, fs, k1, _, _, k4⟩ := mul_part T hT c1 fA c2 c3
  obtain ⟨k1, k2⟩ := k1 hlo
  refine ⟨sA, sl, ha, hs, fs, k1, fun d E hd hE => ?_⟩
  by_cases hA : a + b < 2 ^ 53
  · have : E.natAbs = 0 := by omega
    omega
  · have hne : a + b ≠ 0 := by omega
    have l1 : 2 ^ (a + b).log2 ≤ a + b := Nat.log2_self_le hne
    have l2 : a + b < 2 ^ ((a + b).log2 + 1) := Nat.lt_log2_self
    have l3 : 53 ≤ (a + b).log2 := (Nat.le_log2 hne).2 (by omega)
    have l4 : (a + b).log2 ≤ J + 1 := by
      refine Nat.le_of_not_lt fun h => ?_
      have := Nat.pow_lt_pow_right (show 1 < 2 by omega) h
      omega
    generalize (a + b).log2 = K at *
    obtain ⟨rK, hrK, hVK⟩ := pow_rung K (by omega)
    have g1 : ((2 ^ K : Nat) : Int) ≤ fk sA := by rw [← hVK]; exact rn_ge_V hra hrK (by rw [hVK]; omega)
    obtain ⟨rm, hrm, hVm⟩ := pow_rung (K - 30) (by omega)
    have g2 : ((2 ^ (K - 30) : Nat) : Int) ≤ fk sl := by
      rw [← hVm]
      refine k4 rm hrm hlo ?_
      rw [hVm]
      have e1 : ((2 ^ (K - 30) : Nat) : Int) * ((2 ^ T : Nat) : Int) = ((2 ^ (T - 30) : Nat) : Int) * ((2 ^ K : Nat) : Int) := by
        rw [← Int.natCast_mul, ← Int.natCast_mul, ← Nat.pow_add, ← Nat.pow_add]
        congr 2
        omega
      rw [e1]
      exact Int.mul_le_mul c4 g1 (by omega) c2
    have e2 : 2 ^ (K + 1) = 2 ^ 53 * 2 ^ (K - 52) := by rw [← Nat.pow_add]; congr 1; omega
    have e3 : 2 ^ (K - 52) ≤ 2 ^ (K - 30) := Nat.pow_le_pow_right (by omega) (by omega)
    omega

theorem mean_of (T J : Nat) (hT : T = 1074) (hJ : J = 1573) {old now p : Nat} (ho : fin old) (hn : fin now) (hp : fin p) (h0 : 0 ≤ fk p) (h1 : fk p ≤ ((2 ^ T : Nat) : Int)) (bo : (fk old).natAbs ≤ 2 ^ J) (bn : (fk now).natAbs ≤ 2 ^ J) :
    ∃ g q x, floatBits .sub .f64 now old = some g ∧ floatBits .mul .f64 p g = some q ∧ floatBits .add .f64 old q = some x ∧ isn x = false ∧ RN (fk old + fk q) (fk x) ∧ (fk p = 0 → fk q = 0) ∧
      ∃ E : Int, 2 ^ 53 * E.natAbs ≤ (fk now - fk old).natAbs ∧ (0 ≤ fk now - fk old → 0 ≤ fk q ∧ fk q ≤ fk now - fk old + E) ∧ (fk now - fk old ≤ 0 → fk now - fk old + E ≤ fk q ∧ fk q ≤ 0) := by
  have ht := top_pos
  obtain ⟨g, hg, hng, hrg⟩ := sub_fin hn ho
  obtain ⟨rJ, hrJ, hVJ⟩ := pow_rung (J + 1) (by omega)
  have h2J : 2 ^ (J + 1) = 2 * 2 ^ J := by rw [Nat.pow_succ 2 J, Nat.mul_comm]
  have hVtop := V_top hrJ
  have up : fk g ≤ V rJ := rn_le_V hrg hrJ (by rw [hVJ]; omega)
  have dn : -fk g ≤ V rJ := rn_le_V (rn_neg hrg) hrJ (by rw [hVJ]; omega)
  have fg : fin g := fin_of hng (by omega) (by omega)
  obtain ⟨e1, e2⟩ := rn_err hrg (by omega) (by omega)
  obtain ⟨q, hq, fq, k1, k2, k3, _⟩ := mul_part T hT hp fg h0 h1
  obtain ⟨x, hx, hnx, hrx⟩ := add_fin ho fq
  refine ⟨g, q, x, hg, hq, hx, hnx, hrx, k3, fk g - (fk now - fk old), by omega, fun hd => ?_, fun hd => ?_⟩
  · have : 0 ≤ fk g := rn_mono rn_zero hrg hd
    have := k1 this
    omega
  · have : fk g ≤ 0 := rn_mono hrg rn_zero hd
    have := k2 this
    omega

/-- **the plain law** -/
theorem between (T J : Nat) (hT : T = 1074) (hJ : J = 1573) {old now p : Nat} (ho : fin old) (hn : fin now) (hp : fin p) (h0 : 0 ≤ fk p) (h1 : fk p ≤ ((2 ^ T : Nat) : Int)) (bo : (fk old).natAbs ≤ 2 ^ J) (bn : (fk now).natAbs ≤ 2 ^ J) :
    ∃ x sA sl, meanv old now p = x ∧ isn x = false ∧ (fk p = 0 → fk x = fk old) ∧ floatBits .add .f64 (old % 2 ^ 63) (now % 2 ^ 63) = some sA ∧ floatBits .mul .f64 4472406533629990549 sA = some sl ∧
      (∀ m, fin m → fk m = min (fk old) (fk now) → ∃ lo, floatBits .sub .f64 m sl = some lo ∧ isn lo = false ∧ fk lo ≤ fk x) ∧
      (∀ m, fin m → fk m = max (fk old) (fk now) → ∃ hi, floatBits .add .f64 m sl = some hi ∧ isn hi = false ∧ fk x ≤ fk hi) := by
  obtain ⟨g, q, x, e1, e2, e3, hnx, hrx, hz, E, hE, up, dn⟩ := mean_of T J hT hJ ho hn hp h0 h1 bo bn
  obtain ⟨sA, sl, a1, a2, fs, s0, hsl⟩ := slack_of T J hT hJ ho hn bo bn
  have hEs := hsl (fk now - fk old) E (by omega) hE
  have hm : meanv old now p = x := by unfold meanv; rw [if_neg (by rw [fin_not_nan ho]; simp), e1]; simp only [e2, e3]
  have hb : min (fk old) (fk now) - fk sl ≤ fk old + fk q ∧ fk old + fk q ≤ max (fk old) (fk now) + fk sl := by
    by_cases hd : 0 ≤ fk now - fk old
    · have := up hd
      omega
    · have := dn (by omega)
      omega
  refine ⟨x, sA, sl, hm, hnx, fun h => ?_, a1, a2, fun m fm e => ?_, fun m fm e => ?_⟩
  · have h2 := hz h
    rw [h2, Int.add_zero] at hrx
    have h3 := rn_self ho
    have h4 := rn_mono hrx h3 (Int.le_refl _)
    have h5 := rn_mono h3 hrx (Int.le_refl _)
    omega
  · obtain ⟨lo, l1, l2, l3⟩ := sub_fin fm fs
    rw [e] at l3
    exact ⟨lo, l1, l2, rn_mono l3 hrx hb.1⟩
  · obtain ⟨hi, l1, l2, l3⟩ := add_fin fm fs
    rw [e] at l3
    exact ⟨hi, l1, l2, rn_mono hrx l3 hb.2⟩

end Go.Proofs.Ytdcaklonhbiejaa
