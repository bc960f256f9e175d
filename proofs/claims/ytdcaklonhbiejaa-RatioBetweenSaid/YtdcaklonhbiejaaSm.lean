/-
  The stable sort of package slices at places: symMerge.
-/
import Derived.Test.YtdcaklonhbiejaaSw
namespace Go.Proofs.Ytdcaklonhbiejaa
open Go.Shelf Go.RowKit Go.Lib Go.Sort

section
variable {N : Nat}

set_option maxHeartbeats 8000000 in
set_option maxRecDepth 1000000 in
/-- one place against many behind it -/
theorem symA (f : Fin (N + 1) → Int) (cf : Fin (N + 1) → Fin (N + 1) → Int) (hcf : ∀ x y : Fin (N + 1), x.val < y.val → (cf y x < 0 ↔ f y < f x)) (g : Nat) (cb : Array Value) (blk off cap : Nat) (d0 : Array (Fin (N + 1))) (w0 : World)
    (eg : ∀ args w, (callFunc g args).run Try.prog w = .ok (.enter g args) w) (hcmp : CmpLays1 Try.prog g cb encP cf blk off d0.size w0) (R : Row1 encP w0 blk off d0) (hsz : d0.size < 4611686018427387904)
    (a m b c : Nat) (d : Array (Fin (N + 1))) (w : World) (hs : d.size = d0.size) (S : SW encP w0 blk off d w) (ham : m = a + 1) (hmb : m < b) (hb : b ≤ d.size) (s2 : Srt f m b d)
    (hl : ∀ p, a ≤ p → p < m → d[p]!.val < c) (hr : ∀ p, m ≤ p → p < b → c ≤ d[p]!.val) :
    Calls Try.prog 87 #[.slice (some ⟨blk, off, none⟩) d0.size cap, .int .i64 a, .int .i64 m, .int .i64 b, .func (.func g) #[] cb] w fun e w' => e = .returned (.tuple #[]) ∧ ∃ d', SW encP w0 blk off d' w' ∧ PermIn a b d d' ∧ Srt f a b d' := by
  have mixed : Try.prog.follows .mixedOrders = true := by kernel_rfl
  have hcl0 := R.hO.cells
  simp only [Value.cells] at hcl0
  have hst := R.hO.store Try.prog
  have S0 : Aside (SW encP w0 blk off d w) := S
  have HC : Aside _ := hcmp
  have HL : Aside _ := hl
  have HR : Aside _ := hr
  have HS2 : Aside _ := s2
  have HCF : Aside _ := hcf
  have hm1 : (m : Int) - (a : Int) = 1 := by omega
  have HAM := Lib.hid ham
  have am1 : m ≤ a + 1 := by omega
  have am2 : a + 1 ≤ m := by omega
  clear S hcmp hl hr s2 hcf ham
  have hr1 : IntKind.i64.wrap (1 : Int) = 1 := by rw [IntKind.wrap_i64]; omega
  go_enter Try.func87, Try.ntmps87
  go_wp2
  go_loopg [10, 11] (b - m) (fun kx s10 s11 wr => ∃ i j : Nat, s10 = .int .i64 i ∧ s11 = .int .i64 j ∧ m ≤ i ∧ i ≤ j ∧ j ≤ b ∧ j - i ≤ kx ∧ Aside (SW encP w0 blk off d wr) ∧ Hid ((i = m ∨ f d[i - 1]! < f d[a]!) ∧ (j = b ∨ f d[a]! ≤ f d[j]!)))
  case atStart => exact ⟨m, b, rfl, rfl, by omega, by omega, by omega, by omega, S0, ⟨.inl rfl, .inl rfl⟩⟩
  case round =>
    clear S0
    obtain ⟨i, j, rfl, rfl, hmi, hij, hjb, hkx, S1, HI⟩ := hrel
    by_cases hlt : i < j
    · have hltz : (i : Int) < (j : Int) := by omega
      have w1 : IntKind.i64.wrap ((i : Int) + (j : Int)) = (i : Int) + (j : Int) := by rw [IntKind.wrap_i64]; omega
      have w2 : IntKind.i64.wrap (((i : Int) + (j : Int)) / 2) = ((i : Int) + (j : Int)) / 2 := by rw [IntKind.wrap_i64]; omega
      go_wp2_with fail
      obtain ⟨h, hh⟩ : ∃ h : Nat, h = (i + j) / 2 := ⟨_, rfl⟩
      have eh : ((i : Int) + (j : Int)) / 2 = (h : Int) := by omega
      rw [eh]
      clear eh w1 w2
      have hih : i ≤ h := by omega
      have hhj : h < j := by omega
      clear hh
      obtain ⟨x, hx⟩ : ∃ x, x = d[h]! := ⟨_, rfl⟩
      obtain ⟨y, hy⟩ : ∃ x, x = d[a]! := ⟨_, rfl⟩
      have la := S1.out.cl R (by omega) h (by omega)
      have lb := S1.out.cl R (by omega) a (by omega)
      rw [← hx] at la
      rw [← hy] at lb
      have hc := S1.out.cmp HC.out (by omega) x y
      have hiff : cf x y < 0 ↔ f x < f y := HCF.out y x (by rw [hx, hy]; exact Nat.lt_of_lt_of_le (HL.out a (by omega) (by omega)) (HR.out h (by omega) (by omega)))
      have bh : (h : Int) < (d0.size : Int) := by omega
      have ba : (a : Int) < (d0.size : Int) := by omega
      have wh : IntKind.i64.wrap ((h : Int) + 1) = (h : Int) + 1 := by rw [IntKind.wrap_i64]; omega
      by_cases hv : cf x y < 0
      · have hf : f d[h]! < f d[a]! := by rw [← hx, ← hy]; exact hiff.1 hv
        have HF := Lib.hid hf
        clear hiff hx hy hf
        go_quiet_grown (first | (go_at_fn g; refine Calls.grown_of (hc _ _)))
        have S2 : Aside (SW encP w0 blk off d (grow (wr.drewN nq) osq)) := S1.out.grown nq osq
        clear la lb hc S1
        generalize grow (wr.drewN nq) osq = w2 at S2 ⊢
        clear nq osq
        go_wp2
        go_roundg (j - (h + 1))
        case measure => omega
        case rel => exact ⟨h + 1, j, by go_num, rfl, by omega, by omega, by omega, by omega, S2, ⟨.inr HF.out, HI.out.2⟩⟩
      · have hf : f d[a]! ≤ f d[h]! := by
          rw [← hx, ← hy]
          exact Int.not_lt.1 (fun k => hv (hiff.2 k))
        have HF := Lib.hid hf
        clear hiff hx hy hf
        go_quiet_grown (first | (go_at_fn g; refine Calls.grown_of (hc _ _)))
        have S2 : Aside (SW encP w0 blk off d (grow (wr.drewN nq) osq)) := S1.out.grown nq osq
        clear la lb hc S1
        generalize grow (wr.drewN nq) osq = w2 at S2 ⊢
        clear nq osq
        go_wp2
        go_roundg (h - i)
        case measure => omega
        case rel => exact ⟨i, h, rfl, rfl, by omega, by omega, by omega, by omega, S2, ⟨HI.out.1, .inr HF.out⟩⟩
    · obtain rfl : i = j := by omega
      clear hij hlt hkx
      go_wp2
      go_loopg [13] (i - a) (fun kx s13 wr => ∃ (t : Nat) (dk : Array (Fin (N + 1))), s13 = .int .i64 ((a + t : Nat) : Int) ∧ t ≤ i - 1 - a ∧ i - 1 - a - t ≤ kx ∧ dk.size = d.size ∧ Aside (SW encP w0 blk off dk wr) ∧ Hid (dk = shu d a t))
      case atStart => exact ⟨0, d, by first | rfl | go_num, by omega, by omega, rfl, S1, rfl⟩
      case round =>
        clear S1
        obtain ⟨t, dk, rfl, hti, hkx, hds, S1, HD⟩ := hrel
        obtain ⟨k, hk⟩ : ∃ k, a + t = k := ⟨_, rfl⟩
        rw [hk]
        have wi : IntKind.i64.wrap ((i : Int) - 1) = (i : Int) - 1 := by rw [IntKind.wrap_i64]; omega
        by_cases hlt : k < i - 1
        · have hltz : (k : Int) < (i : Int) - 1 := by omega
          obtain ⟨iN, hiN⟩ : ∃ q, q = k := ⟨_, rfl⟩
          obtain ⟨jN, hjN⟩ : ∃ q, q = k + 1 := ⟨_, rfl⟩
          have ea : ((k : Int)).toNat = iN := by omega
          have ec : ((k : Int) + 1).toNat = jN := by omega
          have ra : IntKind.i64.wrap ((k : Int) + 1) = (k : Int) + 1 := by rw [IntKind.wrap_i64]; omega
          have ba : (k : Int) < (d0.size : Int) := by omega
          have bc : (k : Int) + 1 < (d0.size : Int) := by omega
          have pc : (0 : Int) ≤ (k : Int) + 1 := by omega
          obtain ⟨x, hx⟩ : ∃ x, x = dk[k]! := ⟨_, rfl⟩
          obtain ⟨y, hy⟩ : ∃ x, x = dk[k + 1]! := ⟨_, rfl⟩
          have S2 : Aside (SW encP w0 blk off (swp dk k (k + 1)) ((wr.setCell ⟨blk, off + iN, none⟩ (encP y)).setCell ⟨blk, off + jN, none⟩ (encP x)).drew) := by rw [hiN, hjN, hx, hy]; exact S1.out.swapped R k (k + 1) (by omega) (by omega)
          have ca := S1.out.c1 R (by omega) k (by omega)
          have cb' := S1.out.c1 R (by omega) (k + 1) (by omega)
          have fa := S1.out.f1 R (by omega) k (by omega)
          have fb := S1.out.f1 R (by omega) (k + 1) (by omega)
          obtain ⟨u, cc⟩ := S1.out.c2 R (by omega) k (k + 1) (by omega) (by omega) (encP y)
          rw [← hjN, ← hiN] at cc
          rw [← hx, ← hiN] at ca
          rw [← hy, ← hjN] at cb'
          rw [← hiN] at fa
          rw [← hjN] at fb
          clear S1 hx hy hiN hjN
          go_wp2_with fail
          go_big_region
          clear ca cb' cc fa fb
          generalize ((wr.setCell ⟨blk, off + iN, none⟩ (encP y)).setCell ⟨blk, off + jN, none⟩ (encP x)).drew = w2 at S2 ⊢
          clear ea ec
          go_wp2
          go_roundg (i - 1 - a - (t + 1))
          case measure => omega
          case rel => exact ⟨t + 1, swp dk k (k + 1), by first | go_num | (congr 1; omega), by omega, by omega, by rw [size_swp]; exact hds, S2, (show Hid _ from by rw [HD.out, ← hk]; exact rfl)⟩
        · have hltz : ¬ (k : Int) < (i : Int) - 1 := by omega
          go_wp2
          refine bodyPost_ret (results_none rfl _ _ _) rfl ?_
          have et : t = i - 1 - a := by omega
          refine ⟨rfl, dk, S1.out, ?_, ?_⟩
          · rw [HD.out]; exact perm_shu d a b a t (by omega) (by omega) (by omega)
          · rw [HD.out]
            obtain ⟨h1, h2⟩ := HI.out
            refine shu_srt (by rw [← HAM.out]; exact HS2.out) (by omega) (by omega) (fun p k1 k2 => ?_) (fun p k1 k2 => ?_)
            · rcases h1 with h1 | h1
              · omega
              · have := HS2.out p (i - 1) (by omega) (by omega) (by omega)
                omega
            · rcases h2 with h2 | h2
              · omega
              · have := HS2.out i p (by omega) (by omega) (by omega)
                omega

set_option maxHeartbeats 8000000 in
set_option maxRecDepth 1000000 in
/-- one place behind many -/
theorem symB (f : Fin (N + 1) → Int) (cf : Fin (N + 1) → Fin (N + 1) → Int) (hcf : ∀ x y : Fin (N + 1), x.val < y.val → (cf y x < 0 ↔ f y < f x)) (g : Nat) (cb : Array Value) (blk off cap : Nat) (d0 : Array (Fin (N + 1))) (w0 : World)
    (eg : ∀ args w, (callFunc g args).run Try.prog w = .ok (.enter g args) w) (hcmp : CmpLays1 Try.prog g cb encP cf blk off d0.size w0) (R : Row1 encP w0 blk off d0) (hsz : d0.size < 4611686018427387904)
    (a m b c : Nat) (d : Array (Fin (N + 1))) (w : World) (hs : d.size = d0.size) (S : SW encP w0 blk off d w) (ham : a < m) (ham2 : m ≠ a + 1) (hmb : b = m + 1) (hb : b ≤ d.size) (s2 : Srt f a m d)
    (hl : ∀ p, a ≤ p → p < m → d[p]!.val < c) (hr : ∀ p, m ≤ p → p < b → c ≤ d[p]!.val) :
    Calls Try.prog 87 #[.slice (some ⟨blk, off, none⟩) d0.size cap, .int .i64 a, .int .i64 m, .int .i64 b, .func (.func g) #[] cb] w fun e w' => e = .returned (.tuple #[]) ∧ ∃ d', SW encP w0 blk off d' w' ∧ PermIn a b d d' ∧ Srt f a b d' := by
  have mixed : Try.prog.follows .mixedOrders = true := by kernel_rfl
  have hcl0 := R.hO.cells
  simp only [Value.cells] at hcl0
  have hst := R.hO.store Try.prog
  have S0 : Aside (SW encP w0 blk off d w) := S
  have HC : Aside _ := hcmp
  have HL : Aside _ := hl
  have HR : Aside _ := hr
  have HS2 : Aside _ := s2
  have HCF : Aside _ := hcf
  have hne : ((m : Int) - (a : Int) == 1) = false := beq_eq_false_iff_ne.2 (by omega)
  have hw0 : IntKind.i64.wrap ((m : Int) - (a : Int)) = (m : Int) - (a : Int) := by rw [IntKind.wrap_i64]; omega
  have hm1 : (b : Int) - (m : Int) = 1 := by omega
  have HMB := Lib.hid hmb
  have mb1 : b ≤ m + 1 := by omega
  have mb2 : m + 1 ≤ b := by omega
  clear S hcmp hl hr s2 hcf hmb ham2
  have hr1 : IntKind.i64.wrap (1 : Int) = 1 := by rw [IntKind.wrap_i64]; omega
  go_enter Try.func87, Try.ntmps87
  go_wp2
  go_loopg [14, 15] (m - a) (fun kx s10 s11 wr => ∃ i j : Nat, s10 = .int .i64 i ∧ s11 = .int .i64 j ∧ a ≤ i ∧ i ≤ j ∧ j ≤ m ∧ j - i ≤ kx ∧ Aside (SW encP w0 blk off d wr) ∧ Hid ((i = a ∨ f d[i - 1]! ≤ f d[m]!) ∧ (j = m ∨ f d[m]! ≤ f d[j]!)))
  case atStart => exact ⟨a, m, rfl, rfl, by omega, by omega, by omega, by omega, S0, ⟨.inl rfl, .inl rfl⟩⟩
  case round =>
    clear S0
    obtain ⟨i, j, rfl, rfl, hmi, hij, hjb, hkx, S1, HI⟩ := hrel
    by_cases hlt : i < j
    · have hltz : (i : Int) < (j : Int) := by omega
      have w1 : IntKind.i64.wrap ((i : Int) + (j : Int)) = (i : Int) + (j : Int) := by rw [IntKind.wrap_i64]; omega
      have w2 : IntKind.i64.wrap (((i : Int) + (j : Int)) / 2) = ((i : Int) + (j : Int)) / 2 := by rw [IntKind.wrap_i64]; omega
      go_wp2_with fail
      obtain ⟨h, hh⟩ : ∃ h : Nat, h = (i + j) / 2 := ⟨_, rfl⟩
      have eh : ((i : Int) + (j : Int)) / 2 = (h : Int) := by omega
      rw [eh]
      clear eh w1 w2
      have hih : i ≤ h := by omega
      have hhj : h < j := by omega
      clear hh
      obtain ⟨x, hx⟩ : ∃ x, x = d[m]! := ⟨_, rfl⟩
      obtain ⟨y, hy⟩ : ∃ x, x = d[h]! := ⟨_, rfl⟩
      have la := S1.out.cl R (by omega) m (by omega)
      have lb := S1.out.cl R (by omega) h (by omega)
      rw [← hx] at la
      rw [← hy] at lb
      have hc := S1.out.cmp HC.out (by omega) x y
      have hiff : cf x y < 0 ↔ f x < f y := HCF.out y x (by rw [hx, hy]; exact Nat.lt_of_lt_of_le (HL.out h (by omega) (by omega)) (HR.out m (by omega) (by omega)))
      have bh : (h : Int) < (d0.size : Int) := by omega
      have ba : (m : Int) < (d0.size : Int) := by omega
      have wh : IntKind.i64.wrap ((h : Int) + 1) = (h : Int) + 1 := by rw [IntKind.wrap_i64]; omega
      by_cases hv : cf x y < 0
      · have hf : f d[m]! ≤ f d[h]! := by rw [← hx, ← hy]; exact Int.le_of_lt (hiff.1 hv)
        have HF := Lib.hid hf
        have hvd : decide (cf x y < 0) = true := decide_eq_true hv
        clear hiff hx hy hf
        go_quiet_grown (first | (go_at_fn g; refine Calls.grown_of (hc _ _)))
        have S2 : Aside (SW encP w0 blk off d (grow (wr.drewN nq) osq)) := S1.out.grown nq osq
        clear la lb hc S1
        generalize grow (wr.drewN nq) osq = w2 at S2 ⊢
        clear nq osq
        go_wp2
        go_roundg (h - i)
        case measure => omega
        case rel => exact ⟨i, h, rfl, rfl, by omega, by omega, by omega, by omega, S2, ⟨HI.out.1, .inr HF.out⟩⟩
      · have hf : f d[h]! ≤ f d[m]! := by
          rw [← hx, ← hy]
          exact Int.not_lt.1 (fun k => hv (hiff.2 k))
        have HF := Lib.hid hf
        have hvd : decide (cf x y < 0) = false := decide_eq_false hv
        clear hiff hx hy hf
        go_quiet_grown (first | (go_at_fn g; refine Calls.grown_of (hc _ _)))
        have S2 : Aside (SW encP w0 blk off d (grow (wr.drewN nq) osq)) := S1.out.grown nq osq
        clear la lb hc S1
        generalize grow (wr.drewN nq) osq = w2 at S2 ⊢
        clear nq osq
        go_wp2
        go_roundg (j - (h + 1))
        case measure => omega
        case rel => exact ⟨h + 1, j, by go_num, rfl, by omega, by omega, by omega, by omega, S2, ⟨.inr HF.out, HI.out.2⟩⟩
    · obtain rfl : i = j := by omega
      clear hij hlt hkx
      go_wp2
      go_loopg [17] (m - i) (fun kx s17 wr => ∃ (t : Nat) (dk : Array (Fin (N + 1))), s17 = .int .i64 ((m - t : Nat) : Int) ∧ t ≤ m - i ∧ m - i - t ≤ kx ∧ dk.size = d.size ∧ Aside (SW encP w0 blk off dk wr) ∧ Hid (dk = shd d m t))
      case atStart => exact ⟨0, d, by first | rfl | go_num, by omega, by omega, rfl, S1, rfl⟩
      case round =>
        clear S1
        obtain ⟨t, dk, rfl, hti, hkx, hds, S1, HD⟩ := hrel
        by_cases hlt : i < m - t
        · obtain ⟨k, hk⟩ : ∃ k, m - t = k + 1 := ⟨m - t - 1, by omega⟩
          rw [hk]
          have hltz : (i : Int) < (k : Int) + 1 := by omega
          obtain ⟨iN, hiN⟩ : ∃ q, q = k + 1 := ⟨_, rfl⟩
          obtain ⟨jN, hjN⟩ : ∃ q, q = k := ⟨_, rfl⟩
          have ea : ((k : Int) + 1).toNat = iN := by omega
          have ec : ((k : Int)).toNat = jN := by omega
          have ra : IntKind.i64.wrap ((k : Int) + 1) = (k : Int) + 1 := by rw [IntKind.wrap_i64]; omega
          have rc : IntKind.i64.wrap (k : Int) = (k : Int) := by rw [IntKind.wrap_i64]; omega
          have ba : (k : Int) + 1 < (d0.size : Int) := by omega
          have bc : (k : Int) < (d0.size : Int) := by omega
          have pc : (0 : Int) ≤ (k : Int) + 1 := by omega
          obtain ⟨x, hx⟩ : ∃ x, x = dk[k + 1]! := ⟨_, rfl⟩
          obtain ⟨y, hy⟩ : ∃ x, x = dk[k]! := ⟨_, rfl⟩
          have S2 : Aside (SW encP w0 blk off (swp dk (k + 1) k) ((wr.setCell ⟨blk, off + iN, none⟩ (encP y)).setCell ⟨blk, off + jN, none⟩ (encP x)).drew) := by rw [hiN, hjN, hx, hy]; exact S1.out.swapped R (k + 1) k (by omega) (by omega)
          have ca := S1.out.c1 R (by omega) (k + 1) (by omega)
          have cb' := S1.out.c1 R (by omega) k (by omega)
          have fa := S1.out.f1 R (by omega) (k + 1) (by omega)
          have fb := S1.out.f1 R (by omega) k (by omega)
          obtain ⟨u, cc⟩ := S1.out.c2 R (by omega) (k + 1) k (by omega) (by omega) (encP y)
          rw [← hiN, ← hjN] at cc
          rw [← hx, ← hiN] at ca
          rw [← hy, ← hjN] at cb'
          rw [← hiN] at fa
          rw [← hjN] at fb
          have HK := Lib.hid hk
          clear S1 hx hy hiN hjN hk
          go_wp2_with fail
          go_big_region
          clear ca cb' cc fa fb
          generalize ((wr.setCell ⟨blk, off + iN, none⟩ (encP y)).setCell ⟨blk, off + jN, none⟩ (encP x)).drew = w2 at S2 ⊢
          clear ea ec
          have hk := HK.out
          go_wp2
          go_roundg (m - i - (t + 1))
          case measure => omega
          case rel => exact ⟨t + 1, swp dk (k + 1) k, by first | go_num | (congr 1; omega), by omega, by omega, by rw [size_swp]; exact hds, S2, (show Hid _ from by
            rw [HD.out]
            show _ = swp (shd d m t) (m - t) (m - t - 1)
            rw [HK.out]; rfl)⟩
        · have et : t = m - i := by omega
          have e0 : ((m - t : Nat) : Int) = (i : Int) := by omega
          rw [e0]
          have HT := Lib.hid et
          clear et e0
          go_wp2
          refine bodyPost_ret (results_none rfl _ _ _) rfl ?_
          have et := HT.out
          refine ⟨rfl, dk, S1.out, ?_, ?_⟩
          · rw [HD.out]; exact perm_shd d a b m t (by omega) (by omega) (by omega) (by omega)
          · rw [HD.out, HMB.out]
            obtain ⟨h1, h2⟩ := HI.out
            refine shd_srt HS2.out (by omega) (by omega) (by omega) (fun p k1 k2 => ?_) (fun p k1 k2 => ?_)
            · rcases h1 with h1 | h1
              · omega
              · have := HS2.out p (i - 1) (by omega) (by omega) (by omega)
                omega
            · rcases h2 with h2 | h2
              · omega
              · have := HS2.out i p (by omega) (by omega) (by omega)
                omega

end
end Go.Proofs.Ytdcaklonhbiejaa
