/-
  Rounding to a float of 64 bits, as the model's own core does it: which rung a number comes to, and that a greater number comes to no lower rung.
-/
import Derived.Test.YtdcaklonhbiejaaFl
namespace Go.Proofs.Ytdcaklonhbiejaa

/-- k is P / D rounded to the nearest whole number, between two to the even one -/
def Rhe (P D k : Nat) : Prop := 2 * P ≤ (2 * k + 1) * D ∧ 2 * k * D ≤ 2 * P + D ∧ (k % 2 = 1 → 2 * P < (2 * k + 1) * D ∧ 2 * k * D < 2 * P + D)

theorem rhe_mono {P D k P' D' k' : Nat} (hD : 0 < D) (hD' : 0 < D') (h : Rhe P D k) (h' : Rhe P' D' k') (hle : P * D' ≤ P' * D) : k ≤ k' := by
  refine Nat.le_of_not_lt fun hlt => ?_
  obtain ⟨_, a2, a3⟩ := h
  obtain ⟨b1, _, b3⟩ := h'
  -- both at the same midpoint
  have e1 : 2 * k * D * D' ≤ (2 * P + D) * D' := Nat.mul_le_mul_right _ a2
  have e2 : 2 * P' * D ≤ (2 * k' + 1) * D' * D := Nat.mul_le_mul_right _ b1
  have hk : k' + 1 ≤ k := hlt
  have e3 : (2 * (k' + 1)) * (D * D') ≤ (2 * k) * (D * D') := Nat.mul_le_mul_right _ (by omega)
  have x1 : 2 * k * D * D' = 2 * k * (D * D') := Nat.mul_assoc _ _ _
  have x2 : (2 * P + D) * D' = 2 * (P * D') + D * D' := by rw [Nat.add_mul, Nat.mul_assoc]
  have x3 : 2 * P' * D = 2 * (P' * D) := Nat.mul_assoc _ _ _
  have x4 : (2 * k' + 1) * D' * D = 2 * k' * (D * D') + D * D' := by rw [Nat.mul_assoc, Nat.mul_comm D' D, Nat.add_mul, Nat.one_mul]
  have x5 : 2 * (k' + 1) * (D * D') = 2 * k' * (D * D') + 2 * (D * D') := by rw [Nat.mul_add, Nat.mul_one, Nat.add_mul]
  have hDD : 0 < D * D' := Nat.mul_pos hD hD'
  have hkk : k = k' + 1 := by
    refine Nat.le_antisymm ?_ hk
    refine Nat.le_of_not_lt fun h2 => ?_
    have e4 : (2 * (k' + 2)) * (D * D') ≤ (2 * k) * (D * D') := Nat.mul_le_mul_right _ (by omega)
    have x6 : 2 * (k' + 2) * (D * D') = 2 * k' * (D * D') + 4 * (D * D') := by rw [Nat.mul_add, Nat.add_mul]
    omega
  rcases Nat.mod_two_eq_zero_or_one k with hp | hp
  · have hq : k' % 2 = 1 := by omega
    have b4 := (b3 hq).1
    have e5 : 2 * P' * D < (2 * k' + 1) * D' * D := Nat.mul_lt_mul_of_pos_right b4 hD
    omega
  · have a4 := (a3 hp).2
    have e5 : 2 * k * D * D' < (2 * P + D) * D' := Nat.mul_lt_mul_of_pos_right a4 hD'
    omega

/-- P / D units of the least float come to rung r -/
def Rung (P D r : Nat) : Prop := ∃ e k, r = e * 2 ^ 52 + k ∧ Rhe P (D * 2 ^ e) k ∧ (e = 0 ∨ 2 ^ 52 * (D * 2 ^ e) ≤ P) ∧ P < 2 ^ 53 * (D * 2 ^ e)

theorem rhe_le {P D k n : Nat} (hD : 0 < D) (h : Rhe P D k) (hP : P ≤ n * D) : k ≤ n :=
  rhe_mono hD (Nat.lt_of_lt_of_le Nat.zero_lt_one (Nat.le_refl 1)) h (P' := n) (D' := 1) ⟨by omega, by omega, fun _ => ⟨by omega, by omega⟩⟩ (by rw [Nat.mul_one]; exact hP)
theorem rhe_ge {P D k n : Nat} (hD : 0 < D) (h : Rhe P D k) (hP : n * D ≤ P) : n ≤ k :=
  rhe_mono (D := 1) (P := n) (Nat.lt_of_lt_of_le Nat.zero_lt_one (Nat.le_refl 1)) hD ⟨by omega, by omega, fun _ => ⟨by omega, by omega⟩⟩ h (by rw [Nat.mul_one]; exact hP)

theorem rung_mono {P D r P' D' r' : Nat} (hD : 0 < D) (hD' : 0 < D') (h : Rung P D r) (h' : Rung P' D' r') (hle : P * D' ≤ P' * D) : r ≤ r' := by
  obtain ⟨e, k, rfl, hk, he, hu⟩ := h
  obtain ⟨e', k', rfl, hk', he', hu'⟩ := h'
  have p1 : 0 < D * 2 ^ e := Nat.mul_pos hD (Nat.two_pow_pos _)
  have p2 : 0 < D' * 2 ^ e' := Nat.mul_pos hD' (Nat.two_pow_pos _)
  have k1 : k ≤ 2 ^ 53 := rhe_le p1 hk (Nat.le_of_lt hu)
  rcases Nat.lt_trichotomy e e' with hlt | rfl | hgt
  · have k2 : 2 ^ 52 ≤ k' := rhe_ge p2 hk' (he'.resolve_left (by omega))
    have : (e + 1) * 2 ^ 52 ≤ e' * 2 ^ 52 := Nat.mul_le_mul_right _ hlt
    omega
  · have : k ≤ k' := rhe_mono p1 p2 hk hk' (by
      rw [← Nat.mul_assoc, ← Nat.mul_assoc]
      exact Nat.mul_le_mul_right _ hle)
    omega
  · exfalso
    have h1 := he.resolve_left (by omega)
    have h2 : 2 ^ e = 2 ^ (e' + 1) * 2 ^ (e - (e' + 1)) := by rw [← Nat.pow_add]; congr 1; omega
    have h3 : 2 ^ (e' + 1) ≤ 2 ^ e := Nat.pow_le_pow_right (by omega) hgt
    -- P / D ≥ 2^52 * 2^e ≥ 2^53 * 2^e' > P' / D'
    have a1 : 2 ^ 52 * (D * 2 ^ e) * D' ≤ P * D' := Nat.mul_le_mul_right _ h1
    have a2 : P' * D < 2 ^ 53 * (D' * 2 ^ e') * D := Nat.mul_lt_mul_of_pos_right hu' hD
    have a3 : 2 ^ 53 * (D' * 2 ^ e') * D = 2 ^ 52 * (D * D') * (2 ^ (e' + 1)) := by
      rw [Nat.pow_succ 2 e', show (2 : Nat) ^ 53 = 2 ^ 52 * 2 by decide]
      simp only [Nat.mul_assoc, Nat.mul_comm, Nat.mul_left_comm]
    have a4 : 2 ^ 52 * (D * 2 ^ e) * D' = 2 ^ 52 * (D * D') * 2 ^ e := by
      simp only [Nat.mul_assoc, Nat.mul_comm, Nat.mul_left_comm]
    have a5 : 2 ^ 52 * (D * D') * 2 ^ (e' + 1) ≤ 2 ^ 52 * (D * D') * 2 ^ e := Nat.mul_le_mul_left _ h3
    omega

theorem cut_rhe (neg : Bool) (n drop : Nat) : Rhe n (2 ^ drop) (Ieee.Toward.even.cut neg n drop) := by
  unfold Ieee.Toward.cut
  dsimp only
  rw [Nat.one_shiftLeft]
  have hlog : n < 2 ^ (n.log2 + 1) := Nat.lt_log2_self
  by_cases hd : drop ≤ n.log2 + 2
  · rw [Nat.min_eq_left hd]
    have hG : 0 < 2 ^ drop := Nat.two_pow_pos _
    generalize 2 ^ drop = G at hG
    have hn := Nat.div_add_mod n G
    have hr := Nat.mod_lt n hG
    generalize n / G = low at hn
    generalize n % G = rest at hn hr
    have e1 : (2 * low + 1) * G = 2 * (G * low) + G := by rw [Nat.add_mul, Nat.one_mul, Nat.mul_assoc, Nat.mul_comm low G]
    have e2 : 2 * low * G = 2 * (G * low) := by rw [Nat.mul_assoc, Nat.mul_comm low G]
    have e3 : (2 * (low + 1) + 1) * G = 2 * (G * low) + 3 * G := by rw [Nat.add_mul, Nat.one_mul, Nat.mul_assoc, Nat.add_mul, Nat.mul_comm low G]; omega
    have e4 : 2 * (low + 1) * G = 2 * (G * low) + 2 * G := by rw [Nat.mul_assoc, Nat.add_mul, Nat.mul_comm low G]; omega
    by_cases hb : G < 2 * rest ∨ (G = 2 * rest ∧ low % 2 = 1)
    · have hbb : (decide (G < 2 * rest) || (G == 2 * rest && low % 2 == 1)) = true := by simpa using hb
      rw [hbb]
      show Rhe n G (low + 1)
      unfold Rhe
      rw [e3, e4]
      omega
    · have hbb : (decide (G < 2 * rest) || (G == 2 * rest && low % 2 == 1)) = false := by simpa using hb
      rw [hbb]
      show Rhe n G (low + 0)
      rw [Nat.add_zero]
      unfold Rhe
      rw [e1, e2]
      omega
  · rw [Nat.min_eq_right (by omega)]
    have h2 : 2 ^ (n.log2 + 2) = 2 * 2 ^ (n.log2 + 1) := by rw [Nat.pow_succ 2 (n.log2 + 1), Nat.mul_comm]
    have h3 : 2 ^ (n.log2 + 2) ≤ 2 ^ drop := Nat.pow_le_pow_right (by omega) (by omega)
    have h4 : n / 2 ^ (n.log2 + 2) = 0 := Nat.div_eq_of_lt (by omega)
    have h5 : n % 2 ^ (n.log2 + 2) = n := Nat.mod_eq_of_lt (by omega)
    rw [h4, h5]
    have hbb : (decide (2 ^ (n.log2 + 2) < 2 * n) || (2 ^ (n.log2 + 2) == 2 * n && 0 % 2 == 1)) = false := by simp; omega
    rw [hbb]
    show Rhe n (2 ^ drop) 0
    unfold Rhe
    omega

theorem rhe_scale {P D k c : Nat} (hc : 0 < c) (h : Rhe (P * c) (D * c) k) : Rhe P D k := by
  obtain ⟨h1, h2, h3⟩ := h
  have e1 : 2 * (P * c) = 2 * P * c := (Nat.mul_assoc _ _ _).symm
  have e2 : (2 * k + 1) * (D * c) = (2 * k + 1) * D * c := (Nat.mul_assoc _ _ _).symm
  have e3 : 2 * k * (D * c) = 2 * k * D * c := (Nat.mul_assoc _ _ _).symm
  have e4 : 2 * P * c + D * c = (2 * P + D) * c := (Nat.add_mul _ _ _).symm
  rw [e1, e2] at h1
  rw [e1, e3, e4] at h2
  rw [e1, e2, e3, e4] at h3
  exact ⟨Nat.le_of_mul_le_mul_right h1 hc, Nat.le_of_mul_le_mul_right h2 hc, fun hk => ⟨Nat.lt_of_mul_lt_mul_right (h3 hk).1, Nat.lt_of_mul_lt_mul_right (h3 hk).2⟩⟩
theorem rhe_scale' {P D k c : Nat} (hc : 0 < c) (h : Rhe P D k) : Rhe (P * c) (D * c) k := by
  obtain ⟨h1, h2, h3⟩ := h
  have e1 : 2 * (P * c) = 2 * P * c := (Nat.mul_assoc _ _ _).symm
  have e2 : (2 * k + 1) * (D * c) = (2 * k + 1) * D * c := (Nat.mul_assoc _ _ _).symm
  have e3 : 2 * k * (D * c) = 2 * k * D * c := (Nat.mul_assoc _ _ _).symm
  have e4 : 2 * P * c + D * c = (2 * P + D) * c := (Nat.add_mul _ _ _).symm
  unfold Rhe
  rw [e1, e2, e3, e4]
  exact ⟨Nat.mul_le_mul_right _ h1, Nat.mul_le_mul_right _ h2, fun hk => ⟨Nat.mul_lt_mul_of_pos_right (h3 hk).1 hc, Nat.mul_lt_mul_of_pos_right (h3 hk).2 hc⟩⟩

/-- what the core writes of a number: the rung that it comes to -/
theorem nearest_rung (neg : Bool) (mag : Nat) (place : Int) (hm : 0 < mag) (a b : Nat) (hab : place + 1074 = (a : Int) - b) :
    ∃ r, Ieee.double.nearest neg mag place = Ieee.double.word neg (min r Ieee.double.infRung) ∧ Rung (mag * 2 ^ a) (2 ^ b) r := by
  have hb : Ieee.double.binade = 2 ^ 52 := rfl
  have hl : Ieee.double.leastPlace = -1074 := by decide
  have hf : Ieee.double.fractionBits = 52 := rfl
  unfold Ieee.Format.nearest
  rw [if_neg (by omega), hb, hl, hf]
  dsimp only
  generalize hlast : max (place + (mag.log2 : Int) - ((52 : Nat) : Int)) (-1074) = last
  have hla : -1074 ≤ last := by omega
  have hlb : place + (mag.log2 : Int) - 52 ≤ last := by omega
  have hlc : last = -1074 ∨ last = place + (mag.log2 : Int) - 52 := by omega
  clear hlast
  have hlo : 2 ^ mag.log2 ≤ mag := Nat.log2_self_le (by omega)
  have hhi : mag < 2 ^ (mag.log2 + 1) := Nat.lt_log2_self
  have hcut := cut_rhe neg (mag <<< (place - last).toNat) (last - place).toNat
  have he1 : (last - -1074).toNat = (last + 1074).toNat := by omega
  rw [Nat.shiftLeft_eq] at hcut ⊢
  rw [he1]
  obtain ⟨e, he⟩ : ∃ e : Nat, (last + 1074).toNat = e := ⟨_, rfl⟩
  obtain ⟨u, hu⟩ : ∃ u : Nat, (place - last).toNat = u := ⟨_, rfl⟩
  obtain ⟨d, hd⟩ : ∃ d : Nat, (last - place).toNat = d := ⟨_, rfl⟩
  rw [hu, hd] at hcut ⊢
  rw [he]
  have hsum : d + a = b + e + u := by omega
  refine ⟨_, rfl, e, _, rfl, ?_, ?_, ?_⟩
  · have h1 := rhe_scale' (c := 2 ^ a) (Nat.two_pow_pos _) hcut
    have x1 : mag * 2 ^ u * 2 ^ a = mag * 2 ^ a * 2 ^ u := by rw [Nat.mul_assoc, Nat.mul_comm (2 ^ u), ← Nat.mul_assoc]
    have x2 : 2 ^ d * 2 ^ a = 2 ^ b * 2 ^ e * 2 ^ u := by rw [← Nat.pow_add, ← Nat.pow_add, ← Nat.pow_add, hsum]
    rw [x1, x2] at h1
    exact rhe_scale (Nat.two_pow_pos _) h1
  · rcases hlc with h | h
    · exact .inl (by omega)
    · right
      have x : 52 + (b + e) = mag.log2 + a := by omega
      rw [← Nat.pow_add, ← Nat.pow_add, x, Nat.pow_add]
      exact Nat.mul_le_mul_right _ hlo
  · rw [← Nat.pow_add, ← Nat.pow_add]
    have x : mag.log2 + 1 + a ≤ 53 + (b + e) := by omega
    refine Nat.lt_of_lt_of_le (Nat.mul_lt_mul_of_pos_right hhi (Nat.two_pow_pos a)) ?_
    rw [← Nat.pow_add]
    exact Nat.pow_le_pow_right (by omega) x

end Go.Proofs.Ytdcaklonhbiejaa
