/-
  The law RatioBetween's walk.
-/
import Derived.Test.YtdcaklonhbiejaaBtw
import Derived.Test.YtdcaklonhbiejaaRefP
namespace Go.Proofs.Ytdcaklonhbiejaa
open Go.RowKit

theorem andNot_abs (x : Nat) (hx : x < 18446744073709551616) : (bits .andNot .u64 (x : Int) 9223372036854775808).toNat = x % 2 ^ 63 := by
  have h1 : (BitVec.ofInt 64 (x : Int)).toNat = x := by
    rw [BitVec.ofInt_natCast, BitVec.toNat_ofNat]; exact Nat.mod_eq_of_lt (by omega)
  have h2 : (~~~(BitVec.ofInt 64 9223372036854775808)).toNat = 2 ^ 63 - 1 := by decide
  show (IntKind.u64.wrap ((BitVec.ofInt 64 (x : Int) &&& ~~~(BitVec.ofInt 64 9223372036854775808)).toNat : Int)).toNat = _
  rw [BitVec.toNat_and, h1, h2, Nat.and_two_pow_sub_one_eq_mod, IntKind.wrap_u64]
  omega

theorem abs_num (x : Nat) (hx : x < 18446744073709551616) (w : World) : Calls Try.prog 21 #[.float .f64 x] w fun e w' => e = .returned (.float .f64 (x % 2 ^ 63)) ∧ w = w' := by
  have h60 := ext60
  have h61 := ext61
  have hv := andNot_abs x hx
  generalize x % 2 ^ 63 = y at *
  go_enter Try.func21, Try.ntmps21
  go_wp2
  go_ret
  exact ⟨rfl, rfl⟩

theorem pick_fin (name : String) (neg : Bool) (win : Ordering) {x y : Nat} (hx : fin x) (hy : fin y) :
    ∃ r, Extern.MathDim.pick name neg win #[.float .f64 x, .float .f64 y] = pure (.float .f64 r) ∧ ((fk x = 0 ∧ fk y = 0 ∧ (r = x ∨ r = y)) ∨ (FloatKind.f64.format.order x y = some win ∧ r = x) ∨ (FloatKind.f64.format.order x y ≠ some win ∧ r = y)) := by
  obtain ⟨s, m, i, hx⟩ := hx
  obtain ⟨t, n, j, hy⟩ := hy
  have hord : FloatKind.f64.format.order x y = (Ieee.double.read x).order (Ieee.double.read y) := rfl
  rw [hord]
  have e1 : fk x = Ieee.signed s m (i + 1074).toNat := by unfold fk; rw [hx]; rfl
  have e2 : fk y = Ieee.signed t n (j + 1074).toNat := by unfold fk; rw [hy]; rfl
  have d1 : FloatKind.f64.decode x = .number s m i := hx
  have d2 : FloatKind.f64.decode y = .number t n j := hy
  have key : Extern.MathDim.pick name neg win #[.float .f64 x, .float .f64 y] = pure (.float .f64 (if ((Ieee.Datum.number s m i).isZero && (Ieee.Datum.number t n j).isZero) = true then (if (s == neg) = true then x else y) else if ((Ieee.double.read x).order (Ieee.double.read y) == some win) = true then x else y)) := by
    delta Extern.MathDim.pick
    show (pure (Value.float .f64 (if (FloatKind.f64.decode x == Ieee.Datum.infinity neg || FloatKind.f64.decode y == Ieee.Datum.infinity neg) = true then FloatKind.f64.encode (.infinity neg) else if ((FloatKind.f64.decode x).isNaN || (FloatKind.f64.decode y).isNaN) = true then 0x7FF8000000000001 else if ((FloatKind.f64.decode x).isZero && (FloatKind.f64.decode y).isZero) = true then (if ((FloatKind.f64.decode x).neg == neg) = true then x else y) else if ((FloatKind.f64.decode x).order (FloatKind.f64.decode y) == some win) = true then x else y)) : Sem Value) = _
    have f1 : (Ieee.Datum.number s m i == Ieee.Datum.infinity neg || Ieee.Datum.number t n j == Ieee.Datum.infinity neg) = false := rfl
    have f2 : ((Ieee.Datum.number s m i).isNaN || (Ieee.Datum.number t n j).isNaN) = false := rfl
    rw [d1, d2, f1, f2, hx, hy, if_neg (by simp), if_neg (by simp)]
    rfl
  refine ⟨_, key, ?_⟩
  by_cases hz : ((Ieee.Datum.number s m i).isZero && (Ieee.Datum.number t n j).isZero) = true
  · rw [if_pos hz]
    have hm : m = 0 := by
      cases m with
      | zero => rfl
      | succ m => cases hz
    have hn : n = 0 := by
      subst hm
      cases n with
      | zero => rfl
      | succ n => cases hz
    subst hm
    subst hn
    refine .inl ⟨by rw [e1]; simp [Ieee.signed], by rw [e2]; simp [Ieee.signed], ?_⟩
    by_cases c : (s == neg) = true
    · rw [if_pos c]; exact .inl rfl
    · rw [if_neg c]; exact .inr rfl
  · rw [if_neg hz]
    by_cases c : (Ieee.double.read x).order (Ieee.double.read y) = some win
    · rw [c, if_pos (by simp)]
      exact .inr (.inl ⟨rfl, rfl⟩)
    · rw [if_neg (by simpa using c)]
      exact .inr (.inr ⟨c, rfl⟩)

theorem cmp_is {x y : Int} {o : Ordering} : compare x y = o ↔ (o = .lt ∧ x < y) ∨ (o = .eq ∧ x = y) ∨ (o = .gt ∧ y < x) := by
  rcases Int.lt_trichotomy x y with h | h | h
  · rw [cmp_lt h]; cases o <;> simp <;> omega
  · subst h; rw [cmp_eq]; cases o <;> simp
  · rw [cmp_gt h]; cases o <;> simp <;> omega

theorem min_any {x y : Nat} (hx : fin x) (hy : fin y) : ∃ r, fin r ∧ fk r = min (fk x) (fk y) ∧ ∀ w, Calls Try.prog 31 #[.float .f64 x, .float .f64 y] w fun e w' => e = .returned (.float .f64 r) ∧ w = w' := by
  obtain ⟨r, h1, h2⟩ := pick_fin "math.archMin" true .lt hx hy
  rw [order_num (fin_not_nan hx) (fin_not_nan hy)] at h2
  have hfin : fin r ∧ fk r = min (fk x) (fk y) := by
    rcases h2 with ⟨a, b, rfl | rfl⟩ | ⟨a, rfl⟩ | ⟨a, rfl⟩
    · exact ⟨hx, by omega⟩
    · exact ⟨hy, by omega⟩
    · have := cmp_is.1 (Option.some.inj a)
      simp at this
      exact ⟨hx, by omega⟩
    · have : ¬ fk x < fk r := fun k => a (by rw [cmp_lt k])
      exact ⟨hy, by omega⟩
  refine ⟨r, hfin.1, hfin.2, fun w => ?_⟩
  have h66 : ∀ w, (callFunc 66 #[.float .f64 x, .float .f64 y]).run Try.prog w = .ok (.value (.float .f64 r)) w := fun w => by
    have h := run_callFunc_extern (P := Try.prog) Try.func66 (e := Extern.MathDim.pick "math.archMin" true .lt) (by kernel_rfl) (by kernel_rfl) (by kernel_rfl) (by kernel_rfl) #[.float .f64 x, .float .f64 y] w
    rw [h, h1]; rfl
  clear h1 h2 hfin
  go_enter Try.func31, Try.ntmps31
  go_wp2
  go_ret
  exact ⟨rfl, rfl⟩

theorem max_any {x y : Nat} (hx : fin x) (hy : fin y) : ∃ r, fin r ∧ fk r = max (fk x) (fk y) ∧ ∀ w, Calls Try.prog 32 #[.float .f64 x, .float .f64 y] w fun e w' => e = .returned (.float .f64 r) ∧ w = w' := by
  obtain ⟨r, h1, h2⟩ := pick_fin "math.archMax" false .gt hx hy
  rw [order_num (fin_not_nan hx) (fin_not_nan hy)] at h2
  have hfin : fin r ∧ fk r = max (fk x) (fk y) := by
    rcases h2 with ⟨a, b, rfl | rfl⟩ | ⟨a, rfl⟩ | ⟨a, rfl⟩
    · exact ⟨hx, by omega⟩
    · exact ⟨hy, by omega⟩
    · have := cmp_is.1 (Option.some.inj a)
      simp at this
      exact ⟨hx, by omega⟩
    · have : ¬ fk r < fk x := fun k => a (by rw [cmp_gt k])
      exact ⟨hy, by omega⟩
  refine ⟨r, hfin.1, hfin.2, fun w => ?_⟩
  have h68 : ∀ w, (callFunc 68 #[.float .f64 x, .float .f64 y]).run Try.prog w = .ok (.value (.float .f64 r)) w := fun w => by
    have h := run_callFunc_extern (P := Try.prog) Try.func68 (e := Extern.MathDim.pick "math.archMax" false .gt) (by kernel_rfl) (by kernel_rfl) (by kernel_rfl) (by kernel_rfl) #[.float .f64 x, .float .f64 y] w
    rw [h, h1]; rfl
  clear h1 h2 hfin
  go_enter Try.func32, Try.ntmps32
  go_wp2
  go_ret
  exact ⟨rfl, rfl⟩

theorem meanv_nan {o n p : Nat} (h : isn (meanv o n p) = true) : isn o = true ∧ isn n = true := by
  have alt : isn o = false → isn (meanAlt o n) = true → False := fun ho k => by
    unfold meanAlt at k
    cases hn : isn n
    · rw [if_neg (by rw [hn]; simp), hn] at k; cases k
    · rw [if_pos hn, ho] at k; cases k
  cases ho : isn o
  · exfalso
    unfold meanv at h
    rw [if_neg (by rw [ho]; simp)] at h
    split at h
    · split at h
      · split at h
        · rename_i x hx
          obtain ⟨_, _, h3, _⟩ := add_some hx
          rw [h3] at h; cases h
        · exact alt ho h
      · exact alt ho h
    · exact alt ho h
  · unfold meanv at h
    rw [if_pos ho] at h
    exact ⟨rfl, h⟩


/-- not greater, not less -/
theorem not_gt {x y : Nat} (hx : isn x = false) (hy : isn y = false) (h : fk x ≤ fk y) : FloatKind.f64.format.order x y = some .lt ∨ FloatKind.f64.format.order x y = some .eq := by
  rw [order_num hx hy]
  rcases Int.lt_or_eq_of_le h with h | h
  · rw [cmp_lt h]; exact .inl rfl
  · rw [h, cmp_eq]; exact .inr rfl

theorem beq_gt {o : Option Ordering} (h : o = some .lt ∨ o = some .eq) : (o == some .gt) = false := by rcases h with h | h <;> rw [h] <;> rfl
theorem beq_lt {o : Option Ordering} (h : o = some .gt ∨ o = some .eq) : (o == some .lt) = false := by rcases h with h | h <;> rw [h] <;> rfl

set_option maxRecDepth 1000000 in
set_option maxHeartbeats 3200000 in
theorem between_law (old now p : Nat) (wo : old < 18446744073709551616) (wn : now < 18446744073709551616) (w : World) :
    Calls Try.prog 8 #[.float .f64 old, .float .f64 now, .float .f64 p] w fun e w' => e = .returned (.bool true) ∧ Below w.heap.size w w' := by
  have HM := Lib.hid (fun w => mean_any old now p w)
  have HIo := Lib.hid (fun w => isnan_any old w)
  have HIn := Lib.hid (fun w => isnan_any now w)
  have HIp := Lib.hid (fun w => isnan_any p w)
  have HIm := Lib.hid (fun w => isnan_any (meanv old now p) w)
  have HAo := Lib.hid (fun w => abs_num old wo w)
  have HAn := Lib.hid (fun w => abs_num now wn w)
  have HL := Lib.hid (show isn 6850974717710472879 = false by decide +kernel)
  obtain ⟨T, hT⟩ : ∃ T : Nat, T = 1074 := ⟨_, rfl⟩
  obtain ⟨J, hJ⟩ : ∃ J : Nat, J = 1573 := ⟨_, rfl⟩
  have gen : ∀ a b c : Nat, J = a * b + c → (2 : Nat) ^ J = (2 ^ a) ^ b * 2 ^ c := fun a b c h => by rw [h, Nat.pow_add, Nat.pow_mul]
  have HLb := Lib.hid (show fk 6850974717710472879 ≤ ((2 ^ J : Nat) : Int) by
    rw [gen 256 6 37 (by omega)]
    decide +kernel)
  have HLt := Lib.hid (show fk 6850974717710472879 < top by decide +kernel)
  have H1 := Lib.hid (lit_one T hT)
  have H1t := Lib.hid (show fk 4607182418800017408 < top by decide +kernel)
  have HD := Lib.hid (fun h => meanv_nan (o := old) (n := now) (p := p) h)
  have HSame := Lib.hid (fun w => same_float now w)
  have HMO := Lib.hid (show isn old = true → meanv old now p = now from fun h => by unfold meanv; rw [if_pos h])
  have HBT := Lib.hid (fun (ho : fin old) (hn : fin now) (hp : fin p) => between T J hT hJ ho hn hp)
  clear gen hT hJ
  generalize hm : meanv old now p = m at *
  go_enter Try.func8, Try.ntmps8
  go_wp2_with fail
  refine (awake_any _).mono ?_
  rintro e w1 ⟨rfl, hb1⟩
  go_wp2_with fail
  refine (HM.out _).mono ?_
  rintro e w2 ⟨rfl, hb2⟩
  have HB := Lib.hid (hb1.trans (hb2.mono hb1.size))
  clear hb1 hb2
  go_wp2_with fail
  cases im : isn m
  · have hi := HIm.out w2
    rw [im] at hi
    refine hi.mono ?_
    rintro e w1 ⟨rfl, rfl⟩
    clear hi
    go_wp2_with fail
    cases io : isn old
    · have ho := HIo.out w2
      rw [io] at ho
      have HO := Lib.hid ho
      refine ho.mono ?_
      rintro e w1 ⟨rfl, rfl⟩
      clear ho
      go_wp2_with fail
      refine HO.out.mono ?_
      rintro e w1 ⟨rfl, rfl⟩
      go_wp2_with fail
      cases inn : isn now
      · have hn := HIn.out w2
        rw [inn] at hn
        refine hn.mono ?_
        rintro e w1 ⟨rfl, rfl⟩
        clear hn
        go_wp2_with fail
        cases ip : isn p
        · have hp := HIp.out w2
          rw [ip] at hp
          refine hp.mono ?_
          rintro e w1 ⟨rfl, rfl⟩
          clear hp
          go_wp2_with fail
          refine (HAo.out _).mono ?_
          rintro e w1 ⟨rfl, rfl⟩
          obtain ⟨ao1, ao2⟩ := abs_fk io
          obtain ⟨an1, an2⟩ := abs_fk inn
          by_cases co : fk 6850974717710472879 < fk (old % 2 ^ 63)
          · have hco : FloatKind.f64.format.order (old % 2 ^ 63) 6850974717710472879 = some .gt := by rw [order_num ao1 HL.out, cmp_gt co]
            clear ao1 ao2 an1 an2
            generalize old % 2 ^ 63 = ao at *
            go_wp2_with fail
            go_ret
            exact ⟨rfl, HB.out⟩
          · have hco := not_gt ao1 HL.out (Int.not_lt.1 co)
            have hcob := beq_gt hco
            have HCO := Lib.hid co
            have HAO := Lib.hid ao2
            clear co hco ao1 ao2
            obtain ⟨ao, hao⟩ : ∃ ao, old % 2 ^ 63 = ao := ⟨_, rfl⟩
            obtain ⟨an, han⟩ : ∃ an, now % 2 ^ 63 = an := ⟨_, rfl⟩
            rw [hao] at HCO HAO hcob HAo ⊢
            rw [han] at HAn an1 an2
            have EAO := Lib.hid hao
            have EAN := Lib.hid han
            clear hao han
            go_wp2_with fail
            refine (HAn.out _).mono ?_
            rintro e w1 ⟨rfl, rfl⟩
            by_cases cn : fk 6850974717710472879 < fk an
            · have hcn : FloatKind.f64.format.order an 6850974717710472879 = some .gt := by rw [order_num an1 HL.out, cmp_gt cn]
              clear an1 an2
              go_wp2_with fail
              go_ret
              exact ⟨rfl, HB.out⟩
            · have hcn := not_gt an1 HL.out (Int.not_lt.1 cn)
              have hcnb := beq_gt hcn
              have HCN := Lib.hid cn
              have HAN := Lib.hid an2
              clear cn hcn an1 an2
              by_cases c0 : fk p < 0
              · have hc0 : FloatKind.f64.format.order p 0 = some .lt := by rw [order_num ip (show isn 0 = false by decide +kernel), show fk 0 = 0 by decide +kernel, cmp_lt c0]
                go_wp2_with fail
                go_ret
                exact ⟨rfl, HB.out⟩
              · by_cases c1 : fk 4607182418800017408 < fk p
                · have hc1 : FloatKind.f64.format.order p 4607182418800017408 = some .gt := by rw [order_num ip (show isn 4607182418800017408 = false by decide +kernel), cmp_gt c1]
                  have hc0 : FloatKind.f64.format.order p 0 = some .gt := by
                    have k1 : 0 < fk 4607182418800017408 := by decide +kernel
                    rw [order_num ip (show isn 0 = false by decide +kernel), show fk 0 = 0 by decide +kernel, cmp_gt (by omega)]
                  clear c0 c1
                  go_wp2_with fail
                  go_ret
                  exact ⟨rfl, HB.out⟩
                · have hpos : 0 ≤ fk p := by omega
                  have hp1 : fk p ≤ fk 4607182418800017408 := by omega
                  have i0 : isn 0 = false := by decide +kernel
                  have i1 : isn 4607182418800017408 = false := by decide +kernel
                  have k0 : fk 0 = 0 := by decide +kernel
                  have t0 := HLt.out
                  have t1 := H1t.out
                  have b0 := HLb.out
                  have q1 := HCO.out
                  have q2 := HAO.out
                  have q3 := HCN.out
                  have q4 := HAN.out
                  have fo : fin old := fin_of io (by omega) (by omega)
                  have fn : fin now := fin_of inn (by omega) (by omega)
                  have fp : fin p := fin_of ip (by omega) (by omega)
                  obtain ⟨x, sA, sl, e1, e2, e3, e4, e5, e6, e7⟩ := HBT.out fo fn fp hpos (by rw [← H1.out]; exact hp1) (by omega) (by omega)
                  subst e1
                  obtain ⟨mn, fmn, emn, HMN⟩ := min_any fo fn
                  obtain ⟨mx, fmx, emx, HMX⟩ := max_any fo fn
                  obtain ⟨lo, l1, l2, l3⟩ := e6 mn fmn emn
                  obtain ⟨hi, u1, u2, u3⟩ := e7 mx fmx emx
                  rw [EAO.out, EAN.out] at e4
                  have r1 : ∀ w, (binOp .add 22 (.float .f64 ao) (.float .f64 an)).run Try.prog w = .ok (.float .f64 sA) w := fun w => run_float_arith w .add 22 .f64 _ _ _ e4
                  have r2 : ∀ w, (binOp .mul 22 (.float .f64 4472406533629990549) (.float .f64 sA)).run Try.prog w = .ok (.float .f64 sl) w := fun w => run_float_arith w .mul 22 .f64 _ _ _ e5
                  have r3 : ∀ w, (binOp .sub 22 (.float .f64 mn) (.float .f64 sl)).run Try.prog w = .ok (.float .f64 lo) w := fun w => run_float_arith w .sub 22 .f64 _ _ _ l1
                  have r4 : ∀ w, (binOp .add 22 (.float .f64 mx) (.float .f64 sl)).run Try.prog w = .ok (.float .f64 hi) w := fun w => run_float_arith w .add 22 .f64 _ _ _ u1
                  have og := ord_ge im l2 l3
                  have ol := not_gt im u2 u3
                  have hc1b := beq_gt (not_gt ip i1 hp1)
                  have last : (FloatKind.f64.format.order p 0 = some .gt) ∨ (FloatKind.f64.format.order p 0 = some .eq ∧ FloatKind.f64.format.order m old = some .eq) := by
                    rcases Int.lt_or_eq_of_le hpos with h | h
                    · left; rw [order_num ip i0, k0, cmp_gt h]
                    · right
                      refine ⟨by rw [order_num ip i0, k0, ← h, cmp_eq], ?_⟩
                      rw [order_num im io, e3 h.symm, cmp_eq]
                  have HMN' := Lib.hid HMN
                  have HMX' := Lib.hid HMX
                  clear hpos hp1 i0 i1 k0 t0 t1 b0 q1 q2 q3 q4 fo fn fp e2 e3 e4 e5 e6 e7 fmn emn fmx emx l1 l2 l3 u1 u2 u3 c0 c1 HMN HMX
                  rcases last with hz | ⟨hz, hmo⟩ <;> rcases og with og | og <;> rcases ol with ol | ol
                  all_goals
                    go_wp2_with fail
                    refine (HAo.out _).mono ?_
                    rintro e w1 ⟨rfl, rfl⟩
                    go_wp2_with fail
                    refine (HAn.out _).mono ?_
                    rintro e w1 ⟨rfl, rfl⟩
                    go_wp2_with fail
                    refine (HMN'.out _).mono ?_
                    rintro e w1 ⟨rfl, rfl⟩
                    go_wp2_with fail
                    refine (HMX'.out _).mono ?_
                    rintro e w1 ⟨rfl, rfl⟩
                    go_wp2_with fail
                    go_ret
                    exact ⟨rfl, HB.out⟩
        · have hp := HIp.out w2
          rw [ip] at hp
          refine hp.mono ?_
          rintro e w1 ⟨rfl, rfl⟩
          clear hp
          go_wp2_with fail
          go_ret
          exact ⟨rfl, HB.out⟩
      · have hn := HIn.out w2
        rw [inn] at hn
        refine hn.mono ?_
        rintro e w1 ⟨rfl, rfl⟩
        clear hn
        go_wp2_with fail
        go_ret
        exact ⟨rfl, HB.out⟩
    · have ho := HIo.out w2
      rw [io] at ho
      have HO := Lib.hid ho
      have hmn := HMO.out io
      refine ho.mono ?_
      rintro e w1 ⟨rfl, rfl⟩
      clear ho
      rw [hmn]
      go_wp2_with fail
      refine (HSame.out _).mono ?_
      rintro e w1 ⟨rfl, rfl⟩
      go_wp2_with fail
      refine HO.out.mono ?_
      rintro e w1 ⟨rfl, rfl⟩
      go_wp2_with fail
      go_ret
      exact ⟨rfl, HB.out⟩
  · obtain ⟨io, inn⟩ := HD.out im
    have hi := HIm.out w2
    rw [im] at hi
    have ho := HIo.out w2
    rw [io] at ho
    have hn := HIn.out w2
    rw [inn] at hn
    have HO := Lib.hid ho
    have HN := Lib.hid hn
    refine hi.mono ?_
    rintro e w1 ⟨rfl, rfl⟩
    clear hi ho hn
    go_wp2_with fail
    refine HO.out.mono ?_
    rintro e w1 ⟨rfl, rfl⟩
    go_wp2_with fail
    refine HN.out.mono ?_
    rintro e w1 ⟨rfl, rfl⟩
    go_wp2_with fail
    go_ret
    exact ⟨rfl, HB.out⟩

theorem wf_lt {a : Nat} (h : (Lit.float .f64 a).wf = true) : a < 18446744073709551616 := by
  simpa [Lit.wf] using h

end Go.Proofs.Ytdcaklonhbiejaa
