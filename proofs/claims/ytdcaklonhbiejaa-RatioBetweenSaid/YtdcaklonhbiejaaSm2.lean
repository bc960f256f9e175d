/-
  The stable sort of package slices at places: symMerge, whole.
-/
import Derived.Test.YtdcaklonhbiejaaSm
namespace Go.Proofs.Ytdcaklonhbiejaa
open Go.Shelf Go.RowKit Go.Lib Go.Sort

section
variable {N : Nat}

/-- symMerge of fewer than K places merges -/
def SymOk (f : Fin (N + 1) → Int) (g : Nat) (cb : Array Value) (blk off cap : Nat) (d0 : Array (Fin (N + 1))) (w0 : World) (K : Nat) : Prop :=
  ∀ (a m b c : Nat) (d : Array (Fin (N + 1))) (w : World), b - a < K → d.size = d0.size → SW encP w0 blk off d w → a < m → m < b → b ≤ d.size → Srt f a m d → Srt f m b d →
    (∀ p, a ≤ p → p < m → d[p]!.val < c) → (∀ p, m ≤ p → p < b → c ≤ d[p]!.val) →
    Calls Try.prog 87 #[.slice (some ⟨blk, off, none⟩) d0.size cap, .int .i64 a, .int .i64 m, .int .i64 b, .func (.func g) #[] cb] w fun e w' => e = .returned (.tuple #[]) ∧ ∃ d', SW encP w0 blk off d' w' ∧ PermIn a b d d' ∧ Srt f a b d'

/-- what is known behind the search and the turning -/
structure Turned (f : Fin (N + 1) → Int) (a m b mid s e c : Nat) (d d' : Array (Fin (N + 1))) : Prop where
  perm : PermIn a b d d'
  cross : ∀ p q, a ≤ p → p < mid → mid ≤ q → q < b → f d'[p]! ≤ f d'[q]!
  s1 : Srt f a s d'
  s2 : Srt f s mid d'
  s3 : Srt f mid e d'
  s4 : Srt f e b d'
  l1 : ∀ p, a ≤ p → p < s → d'[p]!.val < c
  r1 : ∀ p, s ≤ p → p < mid → c ≤ d'[p]!.val
  l2 : ∀ p, mid ≤ p → p < e → d'[p]!.val < c
  r2 : ∀ p, e ≤ p → p < b → c ≤ d'[p]!.val

theorem turned_of {f : Fin (N + 1) → Int} {a m b mid s e c : Nat} {d d' : Array (Fin (N + 1))} (h : Split f a m b mid s d) (he : e = mid + m - s) (hp : PermIn a b d d') (hr : ∀ p, d'[p]! = rotAt d m (m - s) (e - m) p)
    (hl : ∀ p, a ≤ p → p < m → d[p]!.val < c) (hrr : ∀ p, m ≤ p → p < b → c ≤ d[p]!.val) : Turned f a m b mid s e c d d' := by
  subst he
  obtain ⟨k1, k2, k3, k4, k5, e1, e2, e3, e4⟩ := h.cross hr
  have := h.lo
  have := h.hi
  have := h.lom
  have := h.him
  have := h.two
  refine ⟨hp, k1, k2, k3, k4, k5, fun p h1 h2 => ?_, fun p h1 h2 => ?_, fun p h1 h2 => ?_, fun p h1 h2 => ?_⟩
  · rw [e1 p h1 h2]; exact hl p h1 (by omega)
  · rw [e2 p h1 h2]; exact hrr _ (by omega) (by omega)
  · rw [e3 p h1 h2]; exact hl _ (by omega) (by omega)
  · rw [e4 p h1 h2]; exact hrr p (by omega) h2

/-- a part that is merged, or needs no merging -/
structure Part1 (f : Fin (N + 1) → Int) (a b : Nat) (d d' : Array (Fin (N + 1))) : Prop where
  perm : PermIn a b d d'
  srt : Srt f a b d'

set_option maxHeartbeats 16000000 in
set_option maxRecDepth 1000000 in
/-- many places against many -/
theorem symC (f : Fin (N + 1) → Int) (cf : Fin (N + 1) → Fin (N + 1) → Int) (hcf : ∀ x y : Fin (N + 1), x.val < y.val → (cf y x < 0 ↔ f y < f x)) (g : Nat) (cb : Array Value) (blk off cap : Nat) (d0 : Array (Fin (N + 1))) (w0 : World)
    (eg : ∀ args w, (callFunc g args).run Try.prog w = .ok (.enter g args) w) (hcmp : CmpLays1 Try.prog g cb encP cf blk off d0.size w0) (R : Row1 encP w0 blk off d0) (hsz : d0.size < 4611686018427387904)
    (K : Nat) (IH : SymOk f g cb blk off cap d0 w0 K)
    (a m b c : Nat) (d : Array (Fin (N + 1))) (w : World) (hK : b - a ≤ K) (hs : d.size = d0.size) (S : SW encP w0 blk off d w) (ham : a < m) (ham2 : m ≠ a + 1) (hmb : m < b) (hmb2 : b ≠ m + 1) (hb : b ≤ d.size) (s1 : Srt f a m d) (s2 : Srt f m b d)
    (hl : ∀ p, a ≤ p → p < m → d[p]!.val < c) (hr : ∀ p, m ≤ p → p < b → c ≤ d[p]!.val) :
    Calls Try.prog 87 #[.slice (some ⟨blk, off, none⟩) d0.size cap, .int .i64 a, .int .i64 m, .int .i64 b, .func (.func g) #[] cb] w fun e w' => e = .returned (.tuple #[]) ∧ ∃ d', SW encP w0 blk off d' w' ∧ PermIn a b d d' ∧ Srt f a b d' := by
  have mixed : Try.prog.follows .mixedOrders = true := by kernel_rfl
  have hcl0 := R.hO.cells
  simp only [Value.cells] at hcl0
  have hst := R.hO.store Try.prog
  obtain ⟨mid, hmid⟩ : ∃ mid : Nat, mid = (a + b) / 2 := ⟨_, rfl⟩
  obtain ⟨n, hn⟩ : ∃ n : Nat, n = mid + m := ⟨_, rfl⟩
  have emid : ((a : Int) + (b : Int)) / 2 = (mid : Int) := by omega
  have wmid : IntKind.i64.wrap ((a : Int) + (b : Int)) = (a : Int) + (b : Int) := by rw [IntKind.wrap_i64]; omega
  have wmid2 : IntKind.i64.wrap (mid : Int) = (mid : Int) := by rw [IntKind.wrap_i64]; omega
  have en : (mid : Int) + (m : Int) = (n : Int) := by omega
  have wn : IntKind.i64.wrap (n : Int) = (n : Int) := by rw [IntKind.wrap_i64]; omega
  have hne1 : ((m : Int) - (a : Int) == 1) = false := beq_eq_false_iff_ne.2 (by omega)
  have hw1 : IntKind.i64.wrap ((m : Int) - (a : Int)) = (m : Int) - (a : Int) := by rw [IntKind.wrap_i64]; omega
  have hne2 : ((b : Int) - (m : Int) == 1) = false := beq_eq_false_iff_ne.2 (by omega)
  have hw2 : IntKind.i64.wrap ((b : Int) - (m : Int)) = (b : Int) - (m : Int) := by rw [IntKind.wrap_i64]; omega
  obtain ⟨pN, hpN⟩ : ∃ pN : Nat, n = pN + 1 := ⟨n - 1, by omega⟩
  have ep : (n : Int) - 1 = (pN : Int) := by omega
  have wp : IntKind.i64.wrap (pN : Int) = (pN : Int) := by rw [IntKind.wrap_i64]; omega
  have mid1 : a + 2 ≤ mid := by omega
  have mid2 : mid + 2 ≤ b := by omega
  have two : 2 * mid ≤ a + b := by omega
  have two' : a + b ≤ 2 * mid + 1 := by omega
  have n1 : n ≤ mid + m := by omega
  have n2 : mid + m ≤ n := by omega
  have n3 : n ≤ pN + 1 := by omega
  have n4 : pN + 1 ≤ n := by omega
  have NE : Aside (m ≠ a + 1 ∧ b ≠ m + 1) := ⟨ham2, hmb2⟩
  have S0w : Aside (SW encP w0 blk off d w) := S
  have HC : Aside _ := hcmp
  have HL : Aside _ := hl
  have HR : Aside _ := hr
  have HS1 : Aside _ := s1
  have HS2 : Aside _ := s2
  have HCF : Aside _ := hcf
  have HI : Aside _ := IH
  clear S hcmp hl hr s1 s2 hcf hmid hn hpN ham2 hmb2 IH
  obtain ⟨s0, r0, hcase⟩ : ∃ s0 r0 : Nat, (((mid : Int) < (m : Int) ∧ (n : Int) - (b : Int) = (s0 : Int)) ∧ mid = r0) ∨ ((¬ (mid : Int) < (m : Int)) ∧ a = s0 ∧ m = r0) := by
    by_cases h : mid < m
    · exact ⟨n - b, mid, .inl ⟨⟨by omega, by omega⟩, rfl⟩⟩
    · exact ⟨a, m, .inr ⟨by omega, rfl, rfl⟩⟩
  have ws0 : IntKind.i64.wrap (s0 : Int) = (s0 : Int) := by rw [IntKind.wrap_i64]; omega
  have b1 : a ≤ s0 := by omega
  have b2 : s0 ≤ r0 := by omega
  have b3 : r0 ≤ m := by omega
  have b4 : r0 ≤ mid := by omega
  have b5 : n ≤ s0 + b := by omega
  have HCS : Aside _ := hcase
  rcases hcase with ⟨⟨h1, h2⟩, h3⟩ | ⟨h1, h2, h3⟩
  · subst h3
    go_enter Try.func87, Try.ntmps87
    go_wp2
    go_loopg [20, 21] (b - a) (fun kx s20 s21 wr => ∃ i j : Nat, s20 = .int .i64 i ∧ s21 = .int .i64 j ∧ s0 ≤ i ∧ i ≤ j ∧ j ≤ mid ∧ j - i ≤ kx ∧ Aside (SW encP w0 blk off d wr) ∧ Hid ((i = s0 ∨ f d[i - 1]! ≤ f d[n - i]!) ∧ (j = mid ∨ f d[n - j - 1]! ≤ f d[j]!)))
    case atStart => exact ⟨s0, mid, rfl, rfl, by omega, by omega, by omega, by omega, S0w, ⟨.inl rfl, .inl rfl⟩⟩
    case round =>
      clear S0w
      obtain ⟨i, j, rfl, rfl, hmi, hij, hjb, hkx, S1, HI2⟩ := hrel
      by_cases hlt : i < j
      · have hltz : (i : Int) < (j : Int) := by omega
        have w1 : IntKind.i64.wrap ((i : Int) + (j : Int)) = (i : Int) + (j : Int) := by rw [IntKind.wrap_i64]; omega
        obtain ⟨h, hh⟩ : ∃ h : Nat, h = (i + j) / 2 := ⟨_, rfl⟩
        have eh : ((i : Int) + (j : Int)) / 2 = (h : Int) := by omega
        have wh0 : IntKind.i64.wrap (h : Int) = (h : Int) := by rw [IntKind.wrap_i64]; omega
        have hih : i ≤ h := by omega
        have hhj : h < j := by omega
        obtain ⟨q, hq⟩ : ∃ q : Nat, q = pN - h := ⟨_, rfl⟩
        have eq : (pN : Int) - (h : Int) = (q : Int) := by omega
        have wq : IntKind.i64.wrap (q : Int) = (q : Int) := by rw [IntKind.wrap_i64]; omega
        have wh : IntKind.i64.wrap ((h : Int) + 1) = (h : Int) + 1 := by rw [IntKind.wrap_i64]; omega
        have q1 : q + h ≤ pN := by omega
        have q2 : pN ≤ q + h := by omega
        clear hh hq
        have bq : (q : Int) < (d0.size : Int) := by omega
        have bh : (h : Int) < (d0.size : Int) := by omega
        obtain ⟨x, hx⟩ : ∃ x, x = d[q]! := ⟨_, rfl⟩
        obtain ⟨y, hy⟩ : ∃ x, x = d[h]! := ⟨_, rfl⟩
        have la := S1.out.cl R (by omega) q (by omega)
        have lb := S1.out.cl R (by omega) h (by omega)
        rw [← hx] at la
        rw [← hy] at lb
        have hc := S1.out.cmp HC.out (by omega) x y
        have hiff : cf x y < 0 ↔ f x < f y := HCF.out y x (by rw [hx, hy]; exact Nat.lt_of_lt_of_le (HL.out h (by omega) (by omega)) (HR.out q (by omega) (by omega)))
        have HXY : Hid (x = d[q]! ∧ y = d[h]! ∧ (cf x y < 0 ↔ f x < f y)) := ⟨hx, hy, hiff⟩
        clear hx hy hiff
        go_wp2_with fail
        by_cases hv : cf x y < 0
        · have hvd : decide (cf x y < 0) = true := decide_eq_true hv
          go_quiet_grown (first | (go_at_fn g; refine Calls.grown_of (hc _ _)))
          have S2 : Aside (SW encP w0 blk off d (grow (wr.drewN nq) osq)) := S1.out.grown nq osq
          clear la lb hc S1
          generalize grow (wr.drewN nq) osq = w2 at S2 ⊢
          clear nq osq
          go_wp2
          go_roundg (h - i)
          case measure => omega
          case rel =>
            obtain ⟨hx, hy, hiff⟩ := HXY.out
            refine ⟨i, h, rfl, rfl, by omega, by omega, by omega, by omega, S2, ⟨HI2.out.1, .inr ?_⟩⟩
            have e : n - h - 1 = q := by omega
            rw [e, ← hx, ← hy]
            exact Int.le_of_lt (hiff.1 hv)
        · have hvd : decide (cf x y < 0) = false := decide_eq_false hv
          go_quiet_grown (first | (go_at_fn g; refine Calls.grown_of (hc _ _)))
          have S2 : Aside (SW encP w0 blk off d (grow (wr.drewN nq) osq)) := S1.out.grown nq osq
          clear la lb hc S1
          generalize grow (wr.drewN nq) osq = w2 at S2 ⊢
          clear nq osq
          go_wp2
          go_roundg (j - (h + 1))
          case measure => omega
          case rel =>
            obtain ⟨hx, hy, hiff⟩ := HXY.out
            refine ⟨h + 1, j, by go_num, rfl, by omega, by omega, by omega, by omega, S2, ⟨.inr ?_, HI2.out.2⟩⟩
            have e : n - (h + 1) = q := by omega
            have e2 : h + 1 - 1 = h := by omega
            rw [e, e2, ← hx, ← hy]
            refine Int.not_lt.1 (fun k => ?_)
            have := hiff.2 k
            omega
      · obtain rfl : i = j := by omega
        have SP : Split f a m b mid i d := ⟨by omega, by omega, hb, HS1.out, HS2.out, by omega, by omega, two, by omega, fun k => by omega, by omega, fun k => by omega, by
          rcases HI2.out.1 with k | k
          · left
            refine ⟨fun k2 => by omega, fun k2 => by omega⟩
          · right
            have e : n - i = mid + m - i := by omega
            rw [← e]; exact k, by
          rcases HI2.out.2 with k | k
          · left
            refine ⟨fun k2 => by omega, fun k2 => by omega⟩
          · right
            have e : n - i - 1 = mid + m - i - 1 := by omega
            rw [← e]; exact k⟩
        have SPL := Lib.hid SP
        clear SP
        obtain ⟨e, he⟩ : ∃ e : Nat, e = mid + m - i := ⟨_, rfl⟩
        have ee : (n : Int) - (i : Int) = (e : Int) := by omega
        have we : IntKind.i64.wrap (e : Int) = (e : Int) := by rw [IntKind.wrap_i64]; omega
        have e1 : e + i ≤ n := by omega
        have e2 : n ≤ e + i := by omega
        have HE := Lib.hid he
        clear he hij hlt hkx
        have him : i ≤ m := by omega
        have hime : m ≤ e := by omega
        have himid : i ≤ mid := by omega
        have hide : mid ≤ e := by omega
        have heb : e ≤ b := by omega
        have hai : a ≤ i := by omega
        have skip1 : ¬ (i < m ∧ m < e) → Turned f a m b mid i e c d d := fun k => turned_of SPL.out HE.out (permIn_refl d a b) (fun p => by
          unfold rotAt
          by_cases c1 : m - (m - i) ≤ p ∧ p < m + (e - m)
          · rw [if_pos c1]
            by_cases c2 : p < m - (m - i) + (e - m)
            · rw [if_pos c2]; exact at_eq d (by omega)
            · rw [if_neg c2]; exact at_eq d (by omega)
          · rw [if_neg c1]) HL.out HR.out
        have SK1 : Aside _ := skip1
        clear skip1
        by_cases c1 : i < m
        · have c1z : (i : Int) < (m : Int) := by omega
          by_cases c2 : m < e
          · have c2z : (m : Int) < (e : Int) := by omega
            have hrot := rotate_s g cb blk off cap i m e d0 d w0 wr R (by omega) S1.out c1 c2 (by omega) (by omega)
            rw [hs] at hrot
            have HROT := Lib.hid hrot
            clear hrot
            go_wp2_with fail
            refine HROT.out.mono ?_
            rintro e' w2 ⟨rfl, d', S2, hp, hrt⟩
            have hsd : d'.size = d0.size := by rw [hp.1]; exact hs
            have TN : Turned f a m b mid i e c d d' := turned_of SPL.out HE.out (permIn_mono d d' i e a b hai heb hb hp) hrt HL.out HR.out
            have ST : Aside (SW encP w0 blk off d' w2) := S2
            have TR := Lib.hid TN
            clear S1 S2 hp hrt TN HROT
            by_cases c3 : a < i
            · have c3z : (a : Int) < (i : Int) := by omega
              by_cases c4 : i < mid
              · have c4z : (i : Int) < (mid : Int) := by omega
                have HI1 := Lib.hid (HI.out a i mid c d' w2 (by omega) (by first | assumption | omega) ST.out c3 c4 (by first | omega | (rw [hsd]; omega)) TR.out.s1 TR.out.s2 TR.out.l1 TR.out.r1)
                go_wp2_with fail
                refine HI1.out.mono ?_
                rintro e' w3 ⟨rfl, dx, S3, hp3, hs3⟩
                have P1 := Lib.hid (Part1.mk hp3 hs3)
                have ST3 : Aside (SW encP w0 blk off dx w3) := S3
                clear S3 hp3 hs3 ST HI1
                have hsz3 : dx.size = d0.size := by rw [P1.out.perm.1]; first | assumption | exact hs
                by_cases c5 : mid < e
                · have c5z : (mid : Int) < (e : Int) := by omega
                  by_cases c6 : e < b
                  · have c6z : (e : Int) < (b : Int) := by omega
                    have HI3 := Lib.hid (HI.out mid e b c dx w3 (by omega) hsz3 ST3.out c5 c6 (by rw [hsz3]; omega) (TR.out.s3.ext (fun p k1 k2 => P1.out.perm.2.1 p (.inr k1))) (TR.out.s4.ext (fun p k1 k2 => P1.out.perm.2.1 p (.inr (by omega))))
                      (fun p k1 k2 => by rw [P1.out.perm.2.1 p (.inr k1)]; exact TR.out.l2 p k1 k2) (fun p k1 k2 => by rw [P1.out.perm.2.1 p (.inr (by omega))]; exact TR.out.r2 p k1 k2))
                    go_wp2_with fail
                    refine HI3.out.mono ?_
                    rintro e' w4 ⟨rfl, dy, S4, hp4, hs4⟩
                    go_wp2_with fail
                    go_end0
                    have hj := merge_join P1.out.perm P1.out.srt hp4 hs4 (by omega) (by omega) (by first | omega | (rw [hsd]; omega)) TR.out.cross
                    exact ⟨rfl, dy, S4, permIn_trans _ _ _ a b TR.out.perm hj.1, hj.2⟩
                  · have c6z : ¬ (e : Int) < (b : Int) := by omega
                    go_wp2_with fail
                    go_end0
                    have hq : Srt f mid b dx := by
                      have h := TR.out.s3.ext (fun p k1 k2 => P1.out.perm.2.1 p (.inr k1))
                      have e' : e = b := by omega
                      rwa [e'] at h
                    have hj := merge_join P1.out.perm P1.out.srt (permIn_refl _ mid b) hq (by omega) (by omega) (by first | omega | (rw [hsd]; omega)) TR.out.cross
                    exact ⟨rfl, _, ST3.out, permIn_trans _ _ _ a b TR.out.perm hj.1, hj.2⟩
                · have c5z : ¬ (mid : Int) < (e : Int) := by omega
                  go_wp2_with fail
                  go_end0
                  have hq : Srt f mid b dx := by
                    have h := TR.out.s4.ext (fun p k1 k2 => P1.out.perm.2.1 p (.inr (by omega)))
                    have e' : e = mid := by omega
                    rwa [e'] at h
                  have hj := merge_join P1.out.perm P1.out.srt (permIn_refl _ mid b) hq (by omega) (by omega) (by first | omega | (rw [hsd]; omega)) TR.out.cross
                  exact ⟨rfl, _, ST3.out, permIn_trans _ _ _ a b TR.out.perm hj.1, hj.2⟩
              · have c4z : ¬ (i : Int) < (mid : Int) := by omega
                have e0 : i = mid := by omega
                have hq0 := TR.out.s1
                rw [e0] at hq0
                have P1 : Hid (Part1 f a mid d' d') := ⟨permIn_refl _ a mid, hq0⟩
                clear e0 hq0
                have ST3 := ST
                clear ST
                have hsz3 : d'.size = d0.size := by rw [P1.out.perm.1]; first | assumption | exact hs
                by_cases c5 : mid < e
                · have c5z : (mid : Int) < (e : Int) := by omega
                  by_cases c6 : e < b
                  · have c6z : (e : Int) < (b : Int) := by omega
                    have HI3 := Lib.hid (HI.out mid e b c d' w2 (by omega) hsz3 ST3.out c5 c6 (by rw [hsz3]; omega) (TR.out.s3.ext (fun p k1 k2 => P1.out.perm.2.1 p (.inr k1))) (TR.out.s4.ext (fun p k1 k2 => P1.out.perm.2.1 p (.inr (by omega))))
                      (fun p k1 k2 => by rw [P1.out.perm.2.1 p (.inr k1)]; exact TR.out.l2 p k1 k2) (fun p k1 k2 => by rw [P1.out.perm.2.1 p (.inr (by omega))]; exact TR.out.r2 p k1 k2))
                    go_wp2_with fail
                    refine HI3.out.mono ?_
                    rintro e' w4 ⟨rfl, dy, S4, hp4, hs4⟩
                    go_wp2_with fail
                    go_end0
                    have hj := merge_join P1.out.perm P1.out.srt hp4 hs4 (by omega) (by omega) (by first | omega | (rw [hsd]; omega)) TR.out.cross
                    exact ⟨rfl, dy, S4, permIn_trans _ _ _ a b TR.out.perm hj.1, hj.2⟩
                  · have c6z : ¬ (e : Int) < (b : Int) := by omega
                    go_wp2_with fail
                    go_end0
                    have hq : Srt f mid b d' := by
                      have h := TR.out.s3.ext (fun p k1 k2 => P1.out.perm.2.1 p (.inr k1))
                      have e' : e = b := by omega
                      rwa [e'] at h
                    have hj := merge_join P1.out.perm P1.out.srt (permIn_refl _ mid b) hq (by omega) (by omega) (by first | omega | (rw [hsd]; omega)) TR.out.cross
                    exact ⟨rfl, _, ST3.out, permIn_trans _ _ _ a b TR.out.perm hj.1, hj.2⟩
                · have c5z : ¬ (mid : Int) < (e : Int) := by omega
                  go_wp2_with fail
                  go_end0
                  have hq : Srt f mid b d' := by
                    have h := TR.out.s4.ext (fun p k1 k2 => P1.out.perm.2.1 p (.inr (by omega)))
                    have e' : e = mid := by omega
                    rwa [e'] at h
                  have hj := merge_join P1.out.perm P1.out.srt (permIn_refl _ mid b) hq (by omega) (by omega) (by first | omega | (rw [hsd]; omega)) TR.out.cross
                  exact ⟨rfl, _, ST3.out, permIn_trans _ _ _ a b TR.out.perm hj.1, hj.2⟩
            · have c3z : ¬ (a : Int) < (i : Int) := by omega
              have e0 : i = a := by omega
              have hq0 := TR.out.s2
              rw [e0] at hq0
              have P1 : Hid (Part1 f a mid d' d') := ⟨permIn_refl _ a mid, hq0⟩
              clear e0 hq0
              have ST3 := ST
              clear ST
              have hsz3 : d'.size = d0.size := by rw [P1.out.perm.1]; first | assumption | exact hs
              by_cases c5 : mid < e
              · have c5z : (mid : Int) < (e : Int) := by omega
                by_cases c6 : e < b
                · have c6z : (e : Int) < (b : Int) := by omega
                  have HI3 := Lib.hid (HI.out mid e b c d' w2 (by omega) hsz3 ST3.out c5 c6 (by rw [hsz3]; omega) (TR.out.s3.ext (fun p k1 k2 => P1.out.perm.2.1 p (.inr k1))) (TR.out.s4.ext (fun p k1 k2 => P1.out.perm.2.1 p (.inr (by omega))))
                    (fun p k1 k2 => by rw [P1.out.perm.2.1 p (.inr k1)]; exact TR.out.l2 p k1 k2) (fun p k1 k2 => by rw [P1.out.perm.2.1 p (.inr (by omega))]; exact TR.out.r2 p k1 k2))
                  go_wp2_with fail
                  refine HI3.out.mono ?_
                  rintro e' w4 ⟨rfl, dy, S4, hp4, hs4⟩
                  go_wp2_with fail
                  go_end0
                  have hj := merge_join P1.out.perm P1.out.srt hp4 hs4 (by omega) (by omega) (by first | omega | (rw [hsd]; omega)) TR.out.cross
                  exact ⟨rfl, dy, S4, permIn_trans _ _ _ a b TR.out.perm hj.1, hj.2⟩
                · have c6z : ¬ (e : Int) < (b : Int) := by omega
                  go_wp2_with fail
                  go_end0
                  have hq : Srt f mid b d' := by
                    have h := TR.out.s3.ext (fun p k1 k2 => P1.out.perm.2.1 p (.inr k1))
                    have e' : e = b := by omega
                    rwa [e'] at h
                  have hj := merge_join P1.out.perm P1.out.srt (permIn_refl _ mid b) hq (by omega) (by omega) (by first | omega | (rw [hsd]; omega)) TR.out.cross
                  exact ⟨rfl, _, ST3.out, permIn_trans _ _ _ a b TR.out.perm hj.1, hj.2⟩
              · have c5z : ¬ (mid : Int) < (e : Int) := by omega
                go_wp2_with fail
                go_end0
                have hq : Srt f mid b d' := by
                  have h := TR.out.s4.ext (fun p k1 k2 => P1.out.perm.2.1 p (.inr (by omega)))
                  have e' : e = mid := by omega
                  rwa [e'] at h
                have hj := merge_join P1.out.perm P1.out.srt (permIn_refl _ mid b) hq (by omega) (by omega) (by first | omega | (rw [hsd]; omega)) TR.out.cross
                exact ⟨rfl, _, ST3.out, permIn_trans _ _ _ a b TR.out.perm hj.1, hj.2⟩
          · have c2z : ¬ (m : Int) < (e : Int) := by omega
            have TR := Lib.hid (SK1.out (fun k => c2 k.2))
            have ST := S1
            clear S1
            by_cases c3 : a < i
            · have c3z : (a : Int) < (i : Int) := by omega
              by_cases c4 : i < mid
              · have c4z : (i : Int) < (mid : Int) := by omega
                have HI1 := Lib.hid (HI.out a i mid c d wr (by omega) (by first | assumption | omega) ST.out c3 c4 (by first | omega | (rw [hs]; omega)) TR.out.s1 TR.out.s2 TR.out.l1 TR.out.r1)
                go_wp2_with fail
                refine HI1.out.mono ?_
                rintro e' w3 ⟨rfl, dx, S3, hp3, hs3⟩
                have P1 := Lib.hid (Part1.mk hp3 hs3)
                have ST3 : Aside (SW encP w0 blk off dx w3) := S3
                clear S3 hp3 hs3 ST HI1
                have hsz3 : dx.size = d0.size := by rw [P1.out.perm.1]; first | assumption | exact hs
                by_cases c5 : mid < e
                · have c5z : (mid : Int) < (e : Int) := by omega
                  by_cases c6 : e < b
                  · have c6z : (e : Int) < (b : Int) := by omega
                    have HI3 := Lib.hid (HI.out mid e b c dx w3 (by omega) hsz3 ST3.out c5 c6 (by rw [hsz3]; omega) (TR.out.s3.ext (fun p k1 k2 => P1.out.perm.2.1 p (.inr k1))) (TR.out.s4.ext (fun p k1 k2 => P1.out.perm.2.1 p (.inr (by omega))))
                      (fun p k1 k2 => by rw [P1.out.perm.2.1 p (.inr k1)]; exact TR.out.l2 p k1 k2) (fun p k1 k2 => by rw [P1.out.perm.2.1 p (.inr (by omega))]; exact TR.out.r2 p k1 k2))
                    go_wp2_with fail
                    refine HI3.out.mono ?_
                    rintro e' w4 ⟨rfl, dy, S4, hp4, hs4⟩
                    go_wp2_with fail
                    go_end0
                    have hj := merge_join P1.out.perm P1.out.srt hp4 hs4 (by omega) (by omega) (by first | omega | (rw [hs]; omega)) TR.out.cross
                    exact ⟨rfl, dy, S4, permIn_trans _ _ _ a b TR.out.perm hj.1, hj.2⟩
                  · have c6z : ¬ (e : Int) < (b : Int) := by omega
                    go_wp2_with fail
                    go_end0
                    have hq : Srt f mid b dx := by
                      have h := TR.out.s3.ext (fun p k1 k2 => P1.out.perm.2.1 p (.inr k1))
                      have e' : e = b := by omega
                      rwa [e'] at h
                    have hj := merge_join P1.out.perm P1.out.srt (permIn_refl _ mid b) hq (by omega) (by omega) (by first | omega | (rw [hs]; omega)) TR.out.cross
                    exact ⟨rfl, _, ST3.out, permIn_trans _ _ _ a b TR.out.perm hj.1, hj.2⟩
                · have c5z : ¬ (mid : Int) < (e : Int) := by omega
                  go_wp2_with fail
                  go_end0
                  have hq : Srt f mid b dx := by
                    have h := TR.out.s4.ext (fun p k1 k2 => P1.out.perm.2.1 p (.inr (by omega)))
                    have e' : e = mid := by omega
                    rwa [e'] at h
                  have hj := merge_join P1.out.perm P1.out.srt (permIn_refl _ mid b) hq (by omega) (by omega) (by first | omega | (rw [hs]; omega)) TR.out.cross
                  exact ⟨rfl, _, ST3.out, permIn_trans _ _ _ a b TR.out.perm hj.1, hj.2⟩
              · have c4z : ¬ (i : Int) < (mid : Int) := by omega
                have e0 : i = mid := by omega
                have hq0 := TR.out.s1
                rw [e0] at hq0
                have P1 : Hid (Part1 f a mid d d) := ⟨permIn_refl _ a mid, hq0⟩
                clear e0 hq0
                have ST3 := ST
                clear ST
                have hsz3 : d.size = d0.size := by rw [P1.out.perm.1]; first | assumption | exact hs
                by_cases c5 : mid < e
                · have c5z : (mid : Int) < (e : Int) := by omega
                  by_cases c6 : e < b
                  · have c6z : (e : Int) < (b : Int) := by omega
                    have HI3 := Lib.hid (HI.out mid e b c d wr (by omega) hsz3 ST3.out c5 c6 (by rw [hsz3]; omega) (TR.out.s3.ext (fun p k1 k2 => P1.out.perm.2.1 p (.inr k1))) (TR.out.s4.ext (fun p k1 k2 => P1.out.perm.2.1 p (.inr (by omega))))
                      (fun p k1 k2 => by rw [P1.out.perm.2.1 p (.inr k1)]; exact TR.out.l2 p k1 k2) (fun p k1 k2 => by rw [P1.out.perm.2.1 p (.inr (by omega))]; exact TR.out.r2 p k1 k2))
                    go_wp2_with fail
                    refine HI3.out.mono ?_
                    rintro e' w4 ⟨rfl, dy, S4, hp4, hs4⟩
                    go_wp2_with fail
                    go_end0
                    have hj := merge_join P1.out.perm P1.out.srt hp4 hs4 (by omega) (by omega) (by first | omega | (rw [hs]; omega)) TR.out.cross
                    exact ⟨rfl, dy, S4, permIn_trans _ _ _ a b TR.out.perm hj.1, hj.2⟩
                  · have c6z : ¬ (e : Int) < (b : Int) := by omega
                    go_wp2_with fail
                    go_end0
                    have hq : Srt f mid b d := by
                      have h := TR.out.s3.ext (fun p k1 k2 => P1.out.perm.2.1 p (.inr k1))
                      have e' : e = b := by omega
                      rwa [e'] at h
                    have hj := merge_join P1.out.perm P1.out.srt (permIn_refl _ mid b) hq (by omega) (by omega) (by first | omega | (rw [hs]; omega)) TR.out.cross
                    exact ⟨rfl, _, ST3.out, permIn_trans _ _ _ a b TR.out.perm hj.1, hj.2⟩
                · have c5z : ¬ (mid : Int) < (e : Int) := by omega
                  go_wp2_with fail
                  go_end0
                  have hq : Srt f mid b d := by
                    have h := TR.out.s4.ext (fun p k1 k2 => P1.out.perm.2.1 p (.inr (by omega)))
                    have e' : e = mid := by omega
                    rwa [e'] at h
                  have hj := merge_join P1.out.perm P1.out.srt (permIn_refl _ mid b) hq (by omega) (by omega) (by first | omega | (rw [hs]; omega)) TR.out.cross
                  exact ⟨rfl, _, ST3.out, permIn_trans _ _ _ a b TR.out.perm hj.1, hj.2⟩
            · have c3z : ¬ (a : Int) < (i : Int) := by omega
              have e0 : i = a := by omega
              have hq0 := TR.out.s2
              rw [e0] at hq0
              have P1 : Hid (Part1 f a mid d d) := ⟨permIn_refl _ a mid, hq0⟩
              clear e0 hq0
              have ST3 := ST
              clear ST
              have hsz3 : d.size = d0.size := by rw [P1.out.perm.1]; first | assumption | exact hs
              by_cases c5 : mid < e
              · have c5z : (mid : Int) < (e : Int) := by omega
                by_cases c6 : e < b
                · have c6z : (e : Int) < (b : Int) := by omega
                  have HI3 := Lib.hid (HI.out mid e b c d wr (by omega) hsz3 ST3.out c5 c6 (by rw [hsz3]; omega) (TR.out.s3.ext (fun p k1 k2 => P1.out.perm.2.1 p (.inr k1))) (TR.out.s4.ext (fun p k1 k2 => P1.out.perm.2.1 p (.inr (by omega))))
                    (fun p k1 k2 => by rw [P1.out.perm.2.1 p (.inr k1)]; exact TR.out.l2 p k1 k2) (fun p k1 k2 => by rw [P1.out.perm.2.1 p (.inr (by omega))]; exact TR.out.r2 p k1 k2))
                  go_wp2_with fail
                  refine HI3.out.mono ?_
                  rintro e' w4 ⟨rfl, dy, S4, hp4, hs4⟩
                  go_wp2_with fail
                  go_end0
                  have hj := merge_join P1.out.perm P1.out.srt hp4 hs4 (by omega) (by omega) (by first | omega | (rw [hs]; omega)) TR.out.cross
                  exact ⟨rfl, dy, S4, permIn_trans _ _ _ a b TR.out.perm hj.1, hj.2⟩
                · have c6z : ¬ (e : Int) < (b : Int) := by omega
                  go_wp2_with fail
                  go_end0
                  have hq : Srt f mid b d := by
                    have h := TR.out.s3.ext (fun p k1 k2 => P1.out.perm.2.1 p (.inr k1))
                    have e' : e = b := by omega
                    rwa [e'] at h
                  have hj := merge_join P1.out.perm P1.out.srt (permIn_refl _ mid b) hq (by omega) (by omega) (by first | omega | (rw [hs]; omega)) TR.out.cross
                  exact ⟨rfl, _, ST3.out, permIn_trans _ _ _ a b TR.out.perm hj.1, hj.2⟩
              · have c5z : ¬ (mid : Int) < (e : Int) := by omega
                go_wp2_with fail
                go_end0
                have hq : Srt f mid b d := by
                  have h := TR.out.s4.ext (fun p k1 k2 => P1.out.perm.2.1 p (.inr (by omega)))
                  have e' : e = mid := by omega
                  rwa [e'] at h
                have hj := merge_join P1.out.perm P1.out.srt (permIn_refl _ mid b) hq (by omega) (by omega) (by first | omega | (rw [hs]; omega)) TR.out.cross
                exact ⟨rfl, _, ST3.out, permIn_trans _ _ _ a b TR.out.perm hj.1, hj.2⟩
        · have c1z : ¬ (i : Int) < (m : Int) := by omega
          have TR := Lib.hid (SK1.out (fun k => c1 k.1))
          have ST := S1
          clear S1
          by_cases c3 : a < i
          · have c3z : (a : Int) < (i : Int) := by omega
            by_cases c4 : i < mid
            · have c4z : (i : Int) < (mid : Int) := by omega
              have HI1 := Lib.hid (HI.out a i mid c d wr (by omega) (by first | assumption | omega) ST.out c3 c4 (by first | omega | (rw [hs]; omega)) TR.out.s1 TR.out.s2 TR.out.l1 TR.out.r1)
              go_wp2_with fail
              refine HI1.out.mono ?_
              rintro e' w3 ⟨rfl, dx, S3, hp3, hs3⟩
              have P1 := Lib.hid (Part1.mk hp3 hs3)
              have ST3 : Aside (SW encP w0 blk off dx w3) := S3
              clear S3 hp3 hs3 ST HI1
              have hsz3 : dx.size = d0.size := by rw [P1.out.perm.1]; first | assumption | exact hs
              by_cases c5 : mid < e
              · have c5z : (mid : Int) < (e : Int) := by omega
                by_cases c6 : e < b
                · have c6z : (e : Int) < (b : Int) := by omega
                  have HI3 := Lib.hid (HI.out mid e b c dx w3 (by omega) hsz3 ST3.out c5 c6 (by rw [hsz3]; omega) (TR.out.s3.ext (fun p k1 k2 => P1.out.perm.2.1 p (.inr k1))) (TR.out.s4.ext (fun p k1 k2 => P1.out.perm.2.1 p (.inr (by omega))))
                    (fun p k1 k2 => by rw [P1.out.perm.2.1 p (.inr k1)]; exact TR.out.l2 p k1 k2) (fun p k1 k2 => by rw [P1.out.perm.2.1 p (.inr (by omega))]; exact TR.out.r2 p k1 k2))
                  go_wp2_with fail
                  refine HI3.out.mono ?_
                  rintro e' w4 ⟨rfl, dy, S4, hp4, hs4⟩
                  go_wp2_with fail
                  go_end0
                  have hj := merge_join P1.out.perm P1.out.srt hp4 hs4 (by omega) (by omega) (by first | omega | (rw [hs]; omega)) TR.out.cross
                  exact ⟨rfl, dy, S4, permIn_trans _ _ _ a b TR.out.perm hj.1, hj.2⟩
                · have c6z : ¬ (e : Int) < (b : Int) := by omega
                  go_wp2_with fail
                  go_end0
                  have hq : Srt f mid b dx := by
                    have h := TR.out.s3.ext (fun p k1 k2 => P1.out.perm.2.1 p (.inr k1))
                    have e' : e = b := by omega
                    rwa [e'] at h
                  have hj := merge_join P1.out.perm P1.out.srt (permIn_refl _ mid b) hq (by omega) (by omega) (by first | omega | (rw [hs]; omega)) TR.out.cross
                  exact ⟨rfl, _, ST3.out, permIn_trans _ _ _ a b TR.out.perm hj.1, hj.2⟩
              · have c5z : ¬ (mid : Int) < (e : Int) := by omega
                go_wp2_with fail
                go_end0
                have hq : Srt f mid b dx := by
                  have h := TR.out.s4.ext (fun p k1 k2 => P1.out.perm.2.1 p (.inr (by omega)))
                  have e' : e = mid := by omega
                  rwa [e'] at h
                have hj := merge_join P1.out.perm P1.out.srt (permIn_refl _ mid b) hq (by omega) (by omega) (by first | omega | (rw [hs]; omega)) TR.out.cross
                exact ⟨rfl, _, ST3.out, permIn_trans _ _ _ a b TR.out.perm hj.1, hj.2⟩
            · have c4z : ¬ (i : Int) < (mid : Int) := by omega
              have e0 : i = mid := by omega
              have hq0 := TR.out.s1
              rw [e0] at hq0
              have P1 : Hid (Part1 f a mid d d) := ⟨permIn_refl _ a mid, hq0⟩
              clear e0 hq0
              have ST3 := ST
              clear ST
              have hsz3 : d.size = d0.size := by rw [P1.out.perm.1]; first | assumption | exact hs
              by_cases c5 : mid < e
              · have c5z : (mid : Int) < (e : Int) := by omega
                by_cases c6 : e < b
                · have c6z : (e : Int) < (b : Int) := by omega
                  have HI3 := Lib.hid (HI.out mid e b c d wr (by omega) hsz3 ST3.out c5 c6 (by rw [hsz3]; omega) (TR.out.s3.ext (fun p k1 k2 => P1.out.perm.2.1 p (.inr k1))) (TR.out.s4.ext (fun p k1 k2 => P1.out.perm.2.1 p (.inr (by omega))))
                    (fun p k1 k2 => by rw [P1.out.perm.2.1 p (.inr k1)]; exact TR.out.l2 p k1 k2) (fun p k1 k2 => by rw [P1.out.perm.2.1 p (.inr (by omega))]; exact TR.out.r2 p k1 k2))
                  go_wp2_with fail
                  refine HI3.out.mono ?_
                  rintro e' w4 ⟨rfl, dy, S4, hp4, hs4⟩
                  go_wp2_with fail
                  go_end0
                  have hj := merge_join P1.out.perm P1.out.srt hp4 hs4 (by omega) (by omega) (by first | omega | (rw [hs]; omega)) TR.out.cross
                  exact ⟨rfl, dy, S4, permIn_trans _ _ _ a b TR.out.perm hj.1, hj.2⟩
                · have c6z : ¬ (e : Int) < (b : Int) := by omega
                  go_wp2_with fail
                  go_end0
                  have hq : Srt f mid b d := by
                    have h := TR.out.s3.ext (fun p k1 k2 => P1.out.perm.2.1 p (.inr k1))
                    have e' : e = b := by omega
                    rwa [e'] at h
                  have hj := merge_join P1.out.perm P1.out.srt (permIn_refl _ mid b) hq (by omega) (by omega) (by first | omega | (rw [hs]; omega)) TR.out.cross
                  exact ⟨rfl, _, ST3.out, permIn_trans _ _ _ a b TR.out.perm hj.1, hj.2⟩
              · have c5z : ¬ (mid : Int) < (e : Int) := by omega
                go_wp2_with fail
                go_end0
                have hq : Srt f mid b d := by
                  have h := TR.out.s4.ext (fun p k1 k2 => P1.out.perm.2.1 p (.inr (by omega)))
                  have e' : e = mid := by omega
                  rwa [e'] at h
                have hj := merge_join P1.out.perm P1.out.srt (permIn_refl _ mid b) hq (by omega) (by omega) (by first | omega | (rw [hs]; omega)) TR.out.cross
                exact ⟨rfl, _, ST3.out, permIn_trans _ _ _ a b TR.out.perm hj.1, hj.2⟩
          · have c3z : ¬ (a : Int) < (i : Int) := by omega
            have e0 : i = a := by omega
            have hq0 := TR.out.s2
            rw [e0] at hq0
            have P1 : Hid (Part1 f a mid d d) := ⟨permIn_refl _ a mid, hq0⟩
            clear e0 hq0
            have ST3 := ST
            clear ST
            have hsz3 : d.size = d0.size := by rw [P1.out.perm.1]; first | assumption | exact hs
            by_cases c5 : mid < e
            · have c5z : (mid : Int) < (e : Int) := by omega
              by_cases c6 : e < b
              · have c6z : (e : Int) < (b : Int) := by omega
                have HI3 := Lib.hid (HI.out mid e b c d wr (by omega) hsz3 ST3.out c5 c6 (by rw [hsz3]; omega) (TR.out.s3.ext (fun p k1 k2 => P1.out.perm.2.1 p (.inr k1))) (TR.out.s4.ext (fun p k1 k2 => P1.out.perm.2.1 p (.inr (by omega))))
                  (fun p k1 k2 => by rw [P1.out.perm.2.1 p (.inr k1)]; exact TR.out.l2 p k1 k2) (fun p k1 k2 => by rw [P1.out.perm.2.1 p (.inr (by omega))]; exact TR.out.r2 p k1 k2))
                go_wp2_with fail
                refine HI3.out.mono ?_
                rintro e' w4 ⟨rfl, dy, S4, hp4, hs4⟩
                go_wp2_with fail
                go_end0
                have hj := merge_join P1.out.perm P1.out.srt hp4 hs4 (by omega) (by omega) (by first | omega | (rw [hs]; omega)) TR.out.cross
                exact ⟨rfl, dy, S4, permIn_trans _ _ _ a b TR.out.perm hj.1, hj.2⟩
              · have c6z : ¬ (e : Int) < (b : Int) := by omega
                go_wp2_with fail
                go_end0
                have hq : Srt f mid b d := by
                  have h := TR.out.s3.ext (fun p k1 k2 => P1.out.perm.2.1 p (.inr k1))
                  have e' : e = b := by omega
                  rwa [e'] at h
                have hj := merge_join P1.out.perm P1.out.srt (permIn_refl _ mid b) hq (by omega) (by omega) (by first | omega | (rw [hs]; omega)) TR.out.cross
                exact ⟨rfl, _, ST3.out, permIn_trans _ _ _ a b TR.out.perm hj.1, hj.2⟩
            · have c5z : ¬ (mid : Int) < (e : Int) := by omega
              go_wp2_with fail
              go_end0
              have hq : Srt f mid b d := by
                have h := TR.out.s4.ext (fun p k1 k2 => P1.out.perm.2.1 p (.inr (by omega)))
                have e' : e = mid := by omega
                rwa [e'] at h
              have hj := merge_join P1.out.perm P1.out.srt (permIn_refl _ mid b) hq (by omega) (by omega) (by first | omega | (rw [hs]; omega)) TR.out.cross
              exact ⟨rfl, _, ST3.out, permIn_trans _ _ _ a b TR.out.perm hj.1, hj.2⟩
  · subst h2 h3
    go_enter Try.func87, Try.ntmps87
    go_wp2
    go_loopg [20, 21] (b - a) (fun kx s20 s21 wr => ∃ i j : Nat, s20 = .int .i64 i ∧ s21 = .int .i64 j ∧ a ≤ i ∧ i ≤ j ∧ j ≤ m ∧ j - i ≤ kx ∧ Aside (SW encP w0 blk off d wr) ∧ Hid ((i = a ∨ f d[i - 1]! ≤ f d[n - i]!) ∧ (j = m ∨ f d[n - j - 1]! ≤ f d[j]!)))
    case atStart => exact ⟨a, m, rfl, rfl, by omega, by omega, by omega, by omega, S0w, ⟨.inl rfl, .inl rfl⟩⟩
    case round =>
      clear S0w
      obtain ⟨i, j, rfl, rfl, hmi, hij, hjb, hkx, S1, HI2⟩ := hrel
      by_cases hlt : i < j
      · have hltz : (i : Int) < (j : Int) := by omega
        have w1 : IntKind.i64.wrap ((i : Int) + (j : Int)) = (i : Int) + (j : Int) := by rw [IntKind.wrap_i64]; omega
        obtain ⟨h, hh⟩ : ∃ h : Nat, h = (i + j) / 2 := ⟨_, rfl⟩
        have eh : ((i : Int) + (j : Int)) / 2 = (h : Int) := by omega
        have wh0 : IntKind.i64.wrap (h : Int) = (h : Int) := by rw [IntKind.wrap_i64]; omega
        have hih : i ≤ h := by omega
        have hhj : h < j := by omega
        obtain ⟨q, hq⟩ : ∃ q : Nat, q = pN - h := ⟨_, rfl⟩
        have eq : (pN : Int) - (h : Int) = (q : Int) := by omega
        have wq : IntKind.i64.wrap (q : Int) = (q : Int) := by rw [IntKind.wrap_i64]; omega
        have wh : IntKind.i64.wrap ((h : Int) + 1) = (h : Int) + 1 := by rw [IntKind.wrap_i64]; omega
        have q1 : q + h ≤ pN := by omega
        have q2 : pN ≤ q + h := by omega
        clear hh hq
        have bq : (q : Int) < (d0.size : Int) := by omega
        have bh : (h : Int) < (d0.size : Int) := by omega
        obtain ⟨x, hx⟩ : ∃ x, x = d[q]! := ⟨_, rfl⟩
        obtain ⟨y, hy⟩ : ∃ x, x = d[h]! := ⟨_, rfl⟩
        have la := S1.out.cl R (by omega) q (by omega)
        have lb := S1.out.cl R (by omega) h (by omega)
        rw [← hx] at la
        rw [← hy] at lb
        have hc := S1.out.cmp HC.out (by omega) x y
        have hiff : cf x y < 0 ↔ f x < f y := HCF.out y x (by rw [hx, hy]; exact Nat.lt_of_lt_of_le (HL.out h (by omega) (by omega)) (HR.out q (by omega) (by omega)))
        have HXY : Hid (x = d[q]! ∧ y = d[h]! ∧ (cf x y < 0 ↔ f x < f y)) := ⟨hx, hy, hiff⟩
        clear hx hy hiff
        go_wp2_with fail
        by_cases hv : cf x y < 0
        · have hvd : decide (cf x y < 0) = true := decide_eq_true hv
          go_quiet_grown (first | (go_at_fn g; refine Calls.grown_of (hc _ _)))
          have S2 : Aside (SW encP w0 blk off d (grow (wr.drewN nq) osq)) := S1.out.grown nq osq
          clear la lb hc S1
          generalize grow (wr.drewN nq) osq = w2 at S2 ⊢
          clear nq osq
          go_wp2
          go_roundg (h - i)
          case measure => omega
          case rel =>
            obtain ⟨hx, hy, hiff⟩ := HXY.out
            refine ⟨i, h, rfl, rfl, by omega, by omega, by omega, by omega, S2, ⟨HI2.out.1, .inr ?_⟩⟩
            have e : n - h - 1 = q := by omega
            rw [e, ← hx, ← hy]
            exact Int.le_of_lt (hiff.1 hv)
        · have hvd : decide (cf x y < 0) = false := decide_eq_false hv
          go_quiet_grown (first | (go_at_fn g; refine Calls.grown_of (hc _ _)))
          have S2 : Aside (SW encP w0 blk off d (grow (wr.drewN nq) osq)) := S1.out.grown nq osq
          clear la lb hc S1
          generalize grow (wr.drewN nq) osq = w2 at S2 ⊢
          clear nq osq
          go_wp2
          go_roundg (j - (h + 1))
          case measure => omega
          case rel =>
            obtain ⟨hx, hy, hiff⟩ := HXY.out
            refine ⟨h + 1, j, by go_num, rfl, by omega, by omega, by omega, by omega, S2, ⟨.inr ?_, HI2.out.2⟩⟩
            have e : n - (h + 1) = q := by omega
            have e2 : h + 1 - 1 = h := by omega
            rw [e, e2, ← hx, ← hy]
            refine Int.not_lt.1 (fun k => ?_)
            have := hiff.2 k
            omega
      · obtain rfl : i = j := by omega
        have SP : Split f a m b mid i d := ⟨by omega, by omega, hb, HS1.out, HS2.out, by omega, by omega, two, by omega, fun k => by omega, by omega, fun k => by omega, by
          rcases HI2.out.1 with k | k
          · left
            refine ⟨fun k2 => by omega, fun k2 => by omega⟩
          · right
            have e : n - i = mid + m - i := by omega
            rw [← e]; exact k, by
          rcases HI2.out.2 with k | k
          · left
            refine ⟨fun k2 => by omega, fun k2 => by omega⟩
          · right
            have e : n - i - 1 = mid + m - i - 1 := by omega
            rw [← e]; exact k⟩
        have SPL := Lib.hid SP
        clear SP
        obtain ⟨e, he⟩ : ∃ e : Nat, e = mid + m - i := ⟨_, rfl⟩
        have ee : (n : Int) - (i : Int) = (e : Int) := by omega
        have we : IntKind.i64.wrap (e : Int) = (e : Int) := by rw [IntKind.wrap_i64]; omega
        have e1 : e + i ≤ n := by omega
        have e2 : n ≤ e + i := by omega
        have HE := Lib.hid he
        clear he hij hlt hkx
        have him : i ≤ m := by omega
        have hime : m ≤ e := by omega
        have himid : i ≤ mid := by omega
        have hide : mid ≤ e := by omega
        have heb : e ≤ b := by omega
        have hai : a ≤ i := by omega
        have skip1 : ¬ (i < m ∧ m < e) → Turned f a m b mid i e c d d := fun k => turned_of SPL.out HE.out (permIn_refl d a b) (fun p => by
          unfold rotAt
          by_cases c1 : m - (m - i) ≤ p ∧ p < m + (e - m)
          · rw [if_pos c1]
            by_cases c2 : p < m - (m - i) + (e - m)
            · rw [if_pos c2]; exact at_eq d (by omega)
            · rw [if_neg c2]; exact at_eq d (by omega)
          · rw [if_neg c1]) HL.out HR.out
        have SK1 : Aside _ := skip1
        clear skip1
        by_cases c1 : i < m
        · have c1z : (i : Int) < (m : Int) := by omega
          by_cases c2 : m < e
          · have c2z : (m : Int) < (e : Int) := by omega
            have hrot := rotate_s g cb blk off cap i m e d0 d w0 wr R (by omega) S1.out c1 c2 (by omega) (by omega)
            rw [hs] at hrot
            have HROT := Lib.hid hrot
            clear hrot
            go_wp2_with fail
            refine HROT.out.mono ?_
            rintro e' w2 ⟨rfl, d', S2, hp, hrt⟩
            have hsd : d'.size = d0.size := by rw [hp.1]; exact hs
            have TN : Turned f a m b mid i e c d d' := turned_of SPL.out HE.out (permIn_mono d d' i e a b hai heb hb hp) hrt HL.out HR.out
            have ST : Aside (SW encP w0 blk off d' w2) := S2
            have TR := Lib.hid TN
            clear S1 S2 hp hrt TN HROT
            by_cases c3 : a < i
            · have c3z : (a : Int) < (i : Int) := by omega
              by_cases c4 : i < mid
              · have c4z : (i : Int) < (mid : Int) := by omega
                have HI1 := Lib.hid (HI.out a i mid c d' w2 (by omega) (by first | assumption | omega) ST.out c3 c4 (by first | omega | (rw [hsd]; omega)) TR.out.s1 TR.out.s2 TR.out.l1 TR.out.r1)
                go_wp2_with fail
                refine HI1.out.mono ?_
                rintro e' w3 ⟨rfl, dx, S3, hp3, hs3⟩
                have P1 := Lib.hid (Part1.mk hp3 hs3)
                have ST3 : Aside (SW encP w0 blk off dx w3) := S3
                clear S3 hp3 hs3 ST HI1
                have hsz3 : dx.size = d0.size := by rw [P1.out.perm.1]; first | assumption | exact hs
                by_cases c5 : mid < e
                · have c5z : (mid : Int) < (e : Int) := by omega
                  by_cases c6 : e < b
                  · have c6z : (e : Int) < (b : Int) := by omega
                    have HI3 := Lib.hid (HI.out mid e b c dx w3 (by omega) hsz3 ST3.out c5 c6 (by rw [hsz3]; omega) (TR.out.s3.ext (fun p k1 k2 => P1.out.perm.2.1 p (.inr k1))) (TR.out.s4.ext (fun p k1 k2 => P1.out.perm.2.1 p (.inr (by omega))))
                      (fun p k1 k2 => by rw [P1.out.perm.2.1 p (.inr k1)]; exact TR.out.l2 p k1 k2) (fun p k1 k2 => by rw [P1.out.perm.2.1 p (.inr (by omega))]; exact TR.out.r2 p k1 k2))
                    go_wp2_with fail
                    refine HI3.out.mono ?_
                    rintro e' w4 ⟨rfl, dy, S4, hp4, hs4⟩
                    go_wp2_with fail
                    go_end0
                    have hj := merge_join P1.out.perm P1.out.srt hp4 hs4 (by omega) (by omega) (by first | omega | (rw [hsd]; omega)) TR.out.cross
                    exact ⟨rfl, dy, S4, permIn_trans _ _ _ a b TR.out.perm hj.1, hj.2⟩
                  · have c6z : ¬ (e : Int) < (b : Int) := by omega
                    go_wp2_with fail
                    go_end0
                    have hq : Srt f mid b dx := by
                      have h := TR.out.s3.ext (fun p k1 k2 => P1.out.perm.2.1 p (.inr k1))
                      have e' : e = b := by omega
                      rwa [e'] at h
                    have hj := merge_join P1.out.perm P1.out.srt (permIn_refl _ mid b) hq (by omega) (by omega) (by first | omega | (rw [hsd]; omega)) TR.out.cross
                    exact ⟨rfl, _, ST3.out, permIn_trans _ _ _ a b TR.out.perm hj.1, hj.2⟩
                · have c5z : ¬ (mid : Int) < (e : Int) := by omega
                  go_wp2_with fail
                  go_end0
                  have hq : Srt f mid b dx := by
                    have h := TR.out.s4.ext (fun p k1 k2 => P1.out.perm.2.1 p (.inr (by omega)))
                    have e' : e = mid := by omega
                    rwa [e'] at h
                  have hj := merge_join P1.out.perm P1.out.srt (permIn_refl _ mid b) hq (by omega) (by omega) (by first | omega | (rw [hsd]; omega)) TR.out.cross
                  exact ⟨rfl, _, ST3.out, permIn_trans _ _ _ a b TR.out.perm hj.1, hj.2⟩
              · have c4z : ¬ (i : Int) < (mid : Int) := by omega
                have e0 : i = mid := by omega
                have hq0 := TR.out.s1
                rw [e0] at hq0
                have P1 : Hid (Part1 f a mid d' d') := ⟨permIn_refl _ a mid, hq0⟩
                clear e0 hq0
                have ST3 := ST
                clear ST
                have hsz3 : d'.size = d0.size := by rw [P1.out.perm.1]; first | assumption | exact hs
                by_cases c5 : mid < e
                · have c5z : (mid : Int) < (e : Int) := by omega
                  by_cases c6 : e < b
                  · have c6z : (e : Int) < (b : Int) := by omega
                    have HI3 := Lib.hid (HI.out mid e b c d' w2 (by omega) hsz3 ST3.out c5 c6 (by rw [hsz3]; omega) (TR.out.s3.ext (fun p k1 k2 => P1.out.perm.2.1 p (.inr k1))) (TR.out.s4.ext (fun p k1 k2 => P1.out.perm.2.1 p (.inr (by omega))))
                      (fun p k1 k2 => by rw [P1.out.perm.2.1 p (.inr k1)]; exact TR.out.l2 p k1 k2) (fun p k1 k2 => by rw [P1.out.perm.2.1 p (.inr (by omega))]; exact TR.out.r2 p k1 k2))
                    go_wp2_with fail
                    refine HI3.out.mono ?_
                    rintro e' w4 ⟨rfl, dy, S4, hp4, hs4⟩
                    go_wp2_with fail
                    go_end0
                    have hj := merge_join P1.out.perm P1.out.srt hp4 hs4 (by omega) (by omega) (by first | omega | (rw [hsd]; omega)) TR.out.cross
                    exact ⟨rfl, dy, S4, permIn_trans _ _ _ a b TR.out.perm hj.1, hj.2⟩
                  · have c6z : ¬ (e : Int) < (b : Int) := by omega
                    go_wp2_with fail
                    go_end0
                    have hq : Srt f mid b d' := by
                      have h := TR.out.s3.ext (fun p k1 k2 => P1.out.perm.2.1 p (.inr k1))
                      have e' : e = b := by omega
                      rwa [e'] at h
                    have hj := merge_join P1.out.perm P1.out.srt (permIn_refl _ mid b) hq (by omega) (by omega) (by first | omega | (rw [hsd]; omega)) TR.out.cross
                    exact ⟨rfl, _, ST3.out, permIn_trans _ _ _ a b TR.out.perm hj.1, hj.2⟩
                · have c5z : ¬ (mid : Int) < (e : Int) := by omega
                  go_wp2_with fail
                  go_end0
                  have hq : Srt f mid b d' := by
                    have h := TR.out.s4.ext (fun p k1 k2 => P1.out.perm.2.1 p (.inr (by omega)))
                    have e' : e = mid := by omega
                    rwa [e'] at h
                  have hj := merge_join P1.out.perm P1.out.srt (permIn_refl _ mid b) hq (by omega) (by omega) (by first | omega | (rw [hsd]; omega)) TR.out.cross
                  exact ⟨rfl, _, ST3.out, permIn_trans _ _ _ a b TR.out.perm hj.1, hj.2⟩
            · have c3z : ¬ (a : Int) < (i : Int) := by omega
              have e0 : i = a := by omega
              have hq0 := TR.out.s2
              rw [e0] at hq0
              have P1 : Hid (Part1 f a mid d' d') := ⟨permIn_refl _ a mid, hq0⟩
              clear e0 hq0
              have ST3 := ST
              clear ST
              have hsz3 : d'.size = d0.size := by rw [P1.out.perm.1]; first | assumption | exact hs
              by_cases c5 : mid < e
              · have c5z : (mid : Int) < (e : Int) := by omega
                by_cases c6 : e < b
                · have c6z : (e : Int) < (b : Int) := by omega
                  have HI3 := Lib.hid (HI.out mid e b c d' w2 (by omega) hsz3 ST3.out c5 c6 (by rw [hsz3]; omega) (TR.out.s3.ext (fun p k1 k2 => P1.out.perm.2.1 p (.inr k1))) (TR.out.s4.ext (fun p k1 k2 => P1.out.perm.2.1 p (.inr (by omega))))
                    (fun p k1 k2 => by rw [P1.out.perm.2.1 p (.inr k1)]; exact TR.out.l2 p k1 k2) (fun p k1 k2 => by rw [P1.out.perm.2.1 p (.inr (by omega))]; exact TR.out.r2 p k1 k2))
                  go_wp2_with fail
                  refine HI3.out.mono ?_
                  rintro e' w4 ⟨rfl, dy, S4, hp4, hs4⟩
                  go_wp2_with fail
                  go_end0
                  have hj := merge_join P1.out.perm P1.out.srt hp4 hs4 (by omega) (by omega) (by first | omega | (rw [hsd]; omega)) TR.out.cross
                  exact ⟨rfl, dy, S4, permIn_trans _ _ _ a b TR.out.perm hj.1, hj.2⟩
                · have c6z : ¬ (e : Int) < (b : Int) := by omega
                  go_wp2_with fail
                  go_end0
                  have hq : Srt f mid b d' := by
                    have h := TR.out.s3.ext (fun p k1 k2 => P1.out.perm.2.1 p (.inr k1))
                    have e' : e = b := by omega
                    rwa [e'] at h
                  have hj := merge_join P1.out.perm P1.out.srt (permIn_refl _ mid b) hq (by omega) (by omega) (by first | omega | (rw [hsd]; omega)) TR.out.cross
                  exact ⟨rfl, _, ST3.out, permIn_trans _ _ _ a b TR.out.perm hj.1, hj.2⟩
              · have c5z : ¬ (mid : Int) < (e : Int) := by omega
                go_wp2_with fail
                go_end0
                have hq : Srt f mid b d' := by
                  have h := TR.out.s4.ext (fun p k1 k2 => P1.out.perm.2.1 p (.inr (by omega)))
                  have e' : e = mid := by omega
                  rwa [e'] at h
                have hj := merge_join P1.out.perm P1.out.srt (permIn_refl _ mid b) hq (by omega) (by omega) (by first | omega | (rw [hsd]; omega)) TR.out.cross
                exact ⟨rfl, _, ST3.out, permIn_trans _ _ _ a b TR.out.perm hj.1, hj.2⟩
          · have c2z : ¬ (m : Int) < (e : Int) := by omega
            have TR := Lib.hid (SK1.out (fun k => c2 k.2))
            have ST := S1
            clear S1
            by_cases c3 : a < i
            · have c3z : (a : Int) < (i : Int) := by omega
              by_cases c4 : i < mid
              · have c4z : (i : Int) < (mid : Int) := by omega
                have HI1 := Lib.hid (HI.out a i mid c d wr (by omega) (by first | assumption | omega) ST.out c3 c4 (by first | omega | (rw [hs]; omega)) TR.out.s1 TR.out.s2 TR.out.l1 TR.out.r1)
                go_wp2_with fail
                refine HI1.out.mono ?_
                rintro e' w3 ⟨rfl, dx, S3, hp3, hs3⟩
                have P1 := Lib.hid (Part1.mk hp3 hs3)
                have ST3 : Aside (SW encP w0 blk off dx w3) := S3
                clear S3 hp3 hs3 ST HI1
                have hsz3 : dx.size = d0.size := by rw [P1.out.perm.1]; first | assumption | exact hs
                by_cases c5 : mid < e
                · have c5z : (mid : Int) < (e : Int) := by omega
                  by_cases c6 : e < b
                  · have c6z : (e : Int) < (b : Int) := by omega
                    have HI3 := Lib.hid (HI.out mid e b c dx w3 (by omega) hsz3 ST3.out c5 c6 (by rw [hsz3]; omega) (TR.out.s3.ext (fun p k1 k2 => P1.out.perm.2.1 p (.inr k1))) (TR.out.s4.ext (fun p k1 k2 => P1.out.perm.2.1 p (.inr (by omega))))
                      (fun p k1 k2 => by rw [P1.out.perm.2.1 p (.inr k1)]; exact TR.out.l2 p k1 k2) (fun p k1 k2 => by rw [P1.out.perm.2.1 p (.inr (by omega))]; exact TR.out.r2 p k1 k2))
                    go_wp2_with fail
                    refine HI3.out.mono ?_
                    rintro e' w4 ⟨rfl, dy, S4, hp4, hs4⟩
                    go_wp2_with fail
                    go_end0
                    have hj := merge_join P1.out.perm P1.out.srt hp4 hs4 (by omega) (by omega) (by first | omega | (rw [hs]; omega)) TR.out.cross
                    exact ⟨rfl, dy, S4, permIn_trans _ _ _ a b TR.out.perm hj.1, hj.2⟩
                  · have c6z : ¬ (e : Int) < (b : Int) := by omega
                    go_wp2_with fail
                    go_end0
                    have hq : Srt f mid b dx := by
                      have h := TR.out.s3.ext (fun p k1 k2 => P1.out.perm.2.1 p (.inr k1))
                      have e' : e = b := by omega
                      rwa [e'] at h
                    have hj := merge_join P1.out.perm P1.out.srt (permIn_refl _ mid b) hq (by omega) (by omega) (by first | omega | (rw [hs]; omega)) TR.out.cross
                    exact ⟨rfl, _, ST3.out, permIn_trans _ _ _ a b TR.out.perm hj.1, hj.2⟩
                · have c5z : ¬ (mid : Int) < (e : Int) := by omega
                  go_wp2_with fail
                  go_end0
                  have hq : Srt f mid b dx := by
                    have h := TR.out.s4.ext (fun p k1 k2 => P1.out.perm.2.1 p (.inr (by omega)))
                    have e' : e = mid := by omega
                    rwa [e'] at h
                  have hj := merge_join P1.out.perm P1.out.srt (permIn_refl _ mid b) hq (by omega) (by omega) (by first | omega | (rw [hs]; omega)) TR.out.cross
                  exact ⟨rfl, _, ST3.out, permIn_trans _ _ _ a b TR.out.perm hj.1, hj.2⟩
              · have c4z : ¬ (i : Int) < (mid : Int) := by omega
                have e0 : i = mid := by omega
                have hq0 := TR.out.s1
                rw [e0] at hq0
                have P1 : Hid (Part1 f a mid d d) := ⟨permIn_refl _ a mid, hq0⟩
                clear e0 hq0
                have ST3 := ST
                clear ST
                have hsz3 : d.size = d0.size := by rw [P1.out.perm.1]; first | assumption | exact hs
                by_cases c5 : mid < e
                · have c5z : (mid : Int) < (e : Int) := by omega
                  by_cases c6 : e < b
                  · have c6z : (e : Int) < (b : Int) := by omega
                    have HI3 := Lib.hid (HI.out mid e b c d wr (by omega) hsz3 ST3.out c5 c6 (by rw [hsz3]; omega) (TR.out.s3.ext (fun p k1 k2 => P1.out.perm.2.1 p (.inr k1))) (TR.out.s4.ext (fun p k1 k2 => P1.out.perm.2.1 p (.inr (by omega))))
                      (fun p k1 k2 => by rw [P1.out.perm.2.1 p (.inr k1)]; exact TR.out.l2 p k1 k2) (fun p k1 k2 => by rw [P1.out.perm.2.1 p (.inr (by omega))]; exact TR.out.r2 p k1 k2))
                    go_wp2_with fail
                    refine HI3.out.mono ?_
                    rintro e' w4 ⟨rfl, dy, S4, hp4, hs4⟩
                    go_wp2_with fail
                    go_end0
                    have hj := merge_join P1.out.perm P1.out.srt hp4 hs4 (by omega) (by omega) (by first | omega | (rw [hs]; omega)) TR.out.cross
                    exact ⟨rfl, dy, S4, permIn_trans _ _ _ a b TR.out.perm hj.1, hj.2⟩
                  · have c6z : ¬ (e : Int) < (b : Int) := by omega
                    go_wp2_with fail
                    go_end0
                    have hq : Srt f mid b d := by
                      have h := TR.out.s3.ext (fun p k1 k2 => P1.out.perm.2.1 p (.inr k1))
                      have e' : e = b := by omega
                      rwa [e'] at h
                    have hj := merge_join P1.out.perm P1.out.srt (permIn_refl _ mid b) hq (by omega) (by omega) (by first | omega | (rw [hs]; omega)) TR.out.cross
                    exact ⟨rfl, _, ST3.out, permIn_trans _ _ _ a b TR.out.perm hj.1, hj.2⟩
                · have c5z : ¬ (mid : Int) < (e : Int) := by omega
                  go_wp2_with fail
                  go_end0
                  have hq : Srt f mid b d := by
                    have h := TR.out.s4.ext (fun p k1 k2 => P1.out.perm.2.1 p (.inr (by omega)))
                    have e' : e = mid := by omega
                    rwa [e'] at h
                  have hj := merge_join P1.out.perm P1.out.srt (permIn_refl _ mid b) hq (by omega) (by omega) (by first | omega | (rw [hs]; omega)) TR.out.cross
                  exact ⟨rfl, _, ST3.out, permIn_trans _ _ _ a b TR.out.perm hj.1, hj.2⟩
            · have c3z : ¬ (a : Int) < (i : Int) := by omega
              have e0 : i = a := by omega
              have hq0 := TR.out.s2
              rw [e0] at hq0
              have P1 : Hid (Part1 f a mid d d) := ⟨permIn_refl _ a mid, hq0⟩
              clear e0 hq0
              have ST3 := ST
              clear ST
              have hsz3 : d.size = d0.size := by rw [P1.out.perm.1]; first | assumption | exact hs
              by_cases c5 : mid < e
              · have c5z : (mid : Int) < (e : Int) := by omega
                by_cases c6 : e < b
                · have c6z : (e : Int) < (b : Int) := by omega
                  have HI3 := Lib.hid (HI.out mid e b c d wr (by omega) hsz3 ST3.out c5 c6 (by rw [hsz3]; omega) (TR.out.s3.ext (fun p k1 k2 => P1.out.perm.2.1 p (.inr k1))) (TR.out.s4.ext (fun p k1 k2 => P1.out.perm.2.1 p (.inr (by omega))))
                    (fun p k1 k2 => by rw [P1.out.perm.2.1 p (.inr k1)]; exact TR.out.l2 p k1 k2) (fun p k1 k2 => by rw [P1.out.perm.2.1 p (.inr (by omega))]; exact TR.out.r2 p k1 k2))
                  go_wp2_with fail
                  refine HI3.out.mono ?_
                  rintro e' w4 ⟨rfl, dy, S4, hp4, hs4⟩
                  go_wp2_with fail
                  go_end0
                  have hj := merge_join P1.out.perm P1.out.srt hp4 hs4 (by omega) (by omega) (by first | omega | (rw [hs]; omega)) TR.out.cross
                  exact ⟨rfl, dy, S4, permIn_trans _ _ _ a b TR.out.perm hj.1, hj.2⟩
                · have c6z : ¬ (e : Int) < (b : Int) := by omega
                  go_wp2_with fail
                  go_end0
                  have hq : Srt f mid b d := by
                    have h := TR.out.s3.ext (fun p k1 k2 => P1.out.perm.2.1 p (.inr k1))
                    have e' : e = b := by omega
                    rwa [e'] at h
                  have hj := merge_join P1.out.perm P1.out.srt (permIn_refl _ mid b) hq (by omega) (by omega) (by first | omega | (rw [hs]; omega)) TR.out.cross
                  exact ⟨rfl, _, ST3.out, permIn_trans _ _ _ a b TR.out.perm hj.1, hj.2⟩
              · have c5z : ¬ (mid : Int) < (e : Int) := by omega
                go_wp2_with fail
                go_end0
                have hq : Srt f mid b d := by
                  have h := TR.out.s4.ext (fun p k1 k2 => P1.out.perm.2.1 p (.inr (by omega)))
                  have e' : e = mid := by omega
                  rwa [e'] at h
                have hj := merge_join P1.out.perm P1.out.srt (permIn_refl _ mid b) hq (by omega) (by omega) (by first | omega | (rw [hs]; omega)) TR.out.cross
                exact ⟨rfl, _, ST3.out, permIn_trans _ _ _ a b TR.out.perm hj.1, hj.2⟩
        · have c1z : ¬ (i : Int) < (m : Int) := by omega
          have TR := Lib.hid (SK1.out (fun k => c1 k.1))
          have ST := S1
          clear S1
          by_cases c3 : a < i
          · have c3z : (a : Int) < (i : Int) := by omega
            by_cases c4 : i < mid
            · have c4z : (i : Int) < (mid : Int) := by omega
              have HI1 := Lib.hid (HI.out a i mid c d wr (by omega) (by first | assumption | omega) ST.out c3 c4 (by first | omega | (rw [hs]; omega)) TR.out.s1 TR.out.s2 TR.out.l1 TR.out.r1)
              go_wp2_with fail
              refine HI1.out.mono ?_
              rintro e' w3 ⟨rfl, dx, S3, hp3, hs3⟩
              have P1 := Lib.hid (Part1.mk hp3 hs3)
              have ST3 : Aside (SW encP w0 blk off dx w3) := S3
              clear S3 hp3 hs3 ST HI1
              have hsz3 : dx.size = d0.size := by rw [P1.out.perm.1]; first | assumption | exact hs
              by_cases c5 : mid < e
              · have c5z : (mid : Int) < (e : Int) := by omega
                by_cases c6 : e < b
                · have c6z : (e : Int) < (b : Int) := by omega
                  have HI3 := Lib.hid (HI.out mid e b c dx w3 (by omega) hsz3 ST3.out c5 c6 (by rw [hsz3]; omega) (TR.out.s3.ext (fun p k1 k2 => P1.out.perm.2.1 p (.inr k1))) (TR.out.s4.ext (fun p k1 k2 => P1.out.perm.2.1 p (.inr (by omega))))
                    (fun p k1 k2 => by rw [P1.out.perm.2.1 p (.inr k1)]; exact TR.out.l2 p k1 k2) (fun p k1 k2 => by rw [P1.out.perm.2.1 p (.inr (by omega))]; exact TR.out.r2 p k1 k2))
                  go_wp2_with fail
                  refine HI3.out.mono ?_
                  rintro e' w4 ⟨rfl, dy, S4, hp4, hs4⟩
                  go_wp2_with fail
                  go_end0
                  have hj := merge_join P1.out.perm P1.out.srt hp4 hs4 (by omega) (by omega) (by first | omega | (rw [hs]; omega)) TR.out.cross
                  exact ⟨rfl, dy, S4, permIn_trans _ _ _ a b TR.out.perm hj.1, hj.2⟩
                · have c6z : ¬ (e : Int) < (b : Int) := by omega
                  go_wp2_with fail
                  go_end0
                  have hq : Srt f mid b dx := by
                    have h := TR.out.s3.ext (fun p k1 k2 => P1.out.perm.2.1 p (.inr k1))
                    have e' : e = b := by omega
                    rwa [e'] at h
                  have hj := merge_join P1.out.perm P1.out.srt (permIn_refl _ mid b) hq (by omega) (by omega) (by first | omega | (rw [hs]; omega)) TR.out.cross
                  exact ⟨rfl, _, ST3.out, permIn_trans _ _ _ a b TR.out.perm hj.1, hj.2⟩
              · have c5z : ¬ (mid : Int) < (e : Int) := by omega
                go_wp2_with fail
                go_end0
                have hq : Srt f mid b dx := by
                  have h := TR.out.s4.ext (fun p k1 k2 => P1.out.perm.2.1 p (.inr (by omega)))
                  have e' : e = mid := by omega
                  rwa [e'] at h
                have hj := merge_join P1.out.perm P1.out.srt (permIn_refl _ mid b) hq (by omega) (by omega) (by first | omega | (rw [hs]; omega)) TR.out.cross
                exact ⟨rfl, _, ST3.out, permIn_trans _ _ _ a b TR.out.perm hj.1, hj.2⟩
            · have c4z : ¬ (i : Int) < (mid : Int) := by omega
              have e0 : i = mid := by omega
              have hq0 := TR.out.s1
              rw [e0] at hq0
              have P1 : Hid (Part1 f a mid d d) := ⟨permIn_refl _ a mid, hq0⟩
              clear e0 hq0
              have ST3 := ST
              clear ST
              have hsz3 : d.size = d0.size := by rw [P1.out.perm.1]; first | assumption | exact hs
              by_cases c5 : mid < e
              · have c5z : (mid : Int) < (e : Int) := by omega
                by_cases c6 : e < b
                · have c6z : (e : Int) < (b : Int) := by omega
                  have HI3 := Lib.hid (HI.out mid e b c d wr (by omega) hsz3 ST3.out c5 c6 (by rw [hsz3]; omega) (TR.out.s3.ext (fun p k1 k2 => P1.out.perm.2.1 p (.inr k1))) (TR.out.s4.ext (fun p k1 k2 => P1.out.perm.2.1 p (.inr (by omega))))
                    (fun p k1 k2 => by rw [P1.out.perm.2.1 p (.inr k1)]; exact TR.out.l2 p k1 k2) (fun p k1 k2 => by rw [P1.out.perm.2.1 p (.inr (by omega))]; exact TR.out.r2 p k1 k2))
                  go_wp2_with fail
                  refine HI3.out.mono ?_
                  rintro e' w4 ⟨rfl, dy, S4, hp4, hs4⟩
                  go_wp2_with fail
                  go_end0
                  have hj := merge_join P1.out.perm P1.out.srt hp4 hs4 (by omega) (by omega) (by first | omega | (rw [hs]; omega)) TR.out.cross
                  exact ⟨rfl, dy, S4, permIn_trans _ _ _ a b TR.out.perm hj.1, hj.2⟩
                · have c6z : ¬ (e : Int) < (b : Int) := by omega
                  go_wp2_with fail
                  go_end0
                  have hq : Srt f mid b d := by
                    have h := TR.out.s3.ext (fun p k1 k2 => P1.out.perm.2.1 p (.inr k1))
                    have e' : e = b := by omega
                    rwa [e'] at h
                  have hj := merge_join P1.out.perm P1.out.srt (permIn_refl _ mid b) hq (by omega) (by omega) (by first | omega | (rw [hs]; omega)) TR.out.cross
                  exact ⟨rfl, _, ST3.out, permIn_trans _ _ _ a b TR.out.perm hj.1, hj.2⟩
              · have c5z : ¬ (mid : Int) < (e : Int) := by omega
                go_wp2_with fail
                go_end0
                have hq : Srt f mid b d := by
                  have h := TR.out.s4.ext (fun p k1 k2 => P1.out.perm.2.1 p (.inr (by omega)))
                  have e' : e = mid := by omega
                  rwa [e'] at h
                have hj := merge_join P1.out.perm P1.out.srt (permIn_refl _ mid b) hq (by omega) (by omega) (by first | omega | (rw [hs]; omega)) TR.out.cross
                exact ⟨rfl, _, ST3.out, permIn_trans _ _ _ a b TR.out.perm hj.1, hj.2⟩
          · have c3z : ¬ (a : Int) < (i : Int) := by omega
            have e0 : i = a := by omega
            have hq0 := TR.out.s2
            rw [e0] at hq0
            have P1 : Hid (Part1 f a mid d d) := ⟨permIn_refl _ a mid, hq0⟩
            clear e0 hq0
            have ST3 := ST
            clear ST
            have hsz3 : d.size = d0.size := by rw [P1.out.perm.1]; first | assumption | exact hs
            by_cases c5 : mid < e
            · have c5z : (mid : Int) < (e : Int) := by omega
              by_cases c6 : e < b
              · have c6z : (e : Int) < (b : Int) := by omega
                have HI3 := Lib.hid (HI.out mid e b c d wr (by omega) hsz3 ST3.out c5 c6 (by rw [hsz3]; omega) (TR.out.s3.ext (fun p k1 k2 => P1.out.perm.2.1 p (.inr k1))) (TR.out.s4.ext (fun p k1 k2 => P1.out.perm.2.1 p (.inr (by omega))))
                  (fun p k1 k2 => by rw [P1.out.perm.2.1 p (.inr k1)]; exact TR.out.l2 p k1 k2) (fun p k1 k2 => by rw [P1.out.perm.2.1 p (.inr (by omega))]; exact TR.out.r2 p k1 k2))
                go_wp2_with fail
                refine HI3.out.mono ?_
                rintro e' w4 ⟨rfl, dy, S4, hp4, hs4⟩
                go_wp2_with fail
                go_end0
                have hj := merge_join P1.out.perm P1.out.srt hp4 hs4 (by omega) (by omega) (by first | omega | (rw [hs]; omega)) TR.out.cross
                exact ⟨rfl, dy, S4, permIn_trans _ _ _ a b TR.out.perm hj.1, hj.2⟩
              · have c6z : ¬ (e : Int) < (b : Int) := by omega
                go_wp2_with fail
                go_end0
                have hq : Srt f mid b d := by
                  have h := TR.out.s3.ext (fun p k1 k2 => P1.out.perm.2.1 p (.inr k1))
                  have e' : e = b := by omega
                  rwa [e'] at h
                have hj := merge_join P1.out.perm P1.out.srt (permIn_refl _ mid b) hq (by omega) (by omega) (by first | omega | (rw [hs]; omega)) TR.out.cross
                exact ⟨rfl, _, ST3.out, permIn_trans _ _ _ a b TR.out.perm hj.1, hj.2⟩
            · have c5z : ¬ (mid : Int) < (e : Int) := by omega
              go_wp2_with fail
              go_end0
              have hq : Srt f mid b d := by
                have h := TR.out.s4.ext (fun p k1 k2 => P1.out.perm.2.1 p (.inr (by omega)))
                have e' : e = mid := by omega
                rwa [e'] at h
              have hj := merge_join P1.out.perm P1.out.srt (permIn_refl _ mid b) hq (by omega) (by omega) (by first | omega | (rw [hs]; omega)) TR.out.cross
              exact ⟨rfl, _, ST3.out, permIn_trans _ _ _ a b TR.out.perm hj.1, hj.2⟩

end
end Go.Proofs.Ytdcaklonhbiejaa
