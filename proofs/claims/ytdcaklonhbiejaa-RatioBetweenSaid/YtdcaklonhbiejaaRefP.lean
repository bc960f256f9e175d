/-
  The document's own Order; two lists of numbers that are the same; a float that is the same as itself.
-/
import Derived.Test.YtdcaklonhbiejaaRefO
namespace Go.Proofs.Ytdcaklonhbiejaa
open Go.Shelf Go.RowKit Go.Lib Go.Sort

/-- whole numbers at a slice -/
def IntsAt (w : World) (a : Option Addr) (xs : List Int) : Prop := xs = [] ∨ ∃ g off, a = some ⟨g, off, none⟩ ∧ g < w.heap.size ∧ ∀ i, i < xs.length → w.cell? ⟨g, off + i, none⟩ = some (.int .i64 (xs.getD i 0))
theorem IntsAt.below {w w' : World} {a : Option Addr} {xs : List Int} (h : IntsAt w a xs) (hb : Below w.heap.size w w') : IntsAt w' a xs := by
  rcases h with h | ⟨g, off, ha, hg, hc⟩
  · exact .inl h
  · exact .inr ⟨g, off, ha, by have := hb.size; omega, fun i hi => (hb.cell hg).trans (hc i hi)⟩
theorem OwnInts.at {w : World} {B : Nat} {v : Value} {ps : List Int} (h : OwnInts w B v ps) : ∃ a cap, v = .slice a ps.length cap ∧ IntsAt w a ps := by
  rcases h with ⟨rfl, rfl⟩ | ⟨g, cap, rfl, _, hg, hc⟩
  · exact ⟨none, 0, rfl, .inl rfl⟩
  · exact ⟨_, cap, rfl, .inr ⟨g, 0, rfl, hg, fun i hi => by rw [Nat.zero_add]; exact hc i hi⟩⟩

set_option maxHeartbeats 1600000 in
/-- of two lists that are the same: true -/
theorem same_ints (w : World) (a b : Option Addr) (ca cb : Nat) (xs : List Int) (ha : IntsAt w a xs) (hb : IntsAt w b xs) (hlen : xs.length ≤ 9223372036854775807) :
    Calls Try.prog 27 #[.slice a xs.length ca, .slice b xs.length cb] w fun e w' => e = .returned (.bool true) ∧ ∃ q, w' = w.drewN q := by
  have HA := Lib.hid ha
  have HB := Lib.hid hb
  clear ha hb
  go_enter Try.func27, Try.ntmps27
  go_wp2
  go_loopg [5] (xs.length) (fun kx s5 wr => ∃ (k m : Nat), k ≤ xs.length ∧ s5 = .int .i64 (k : Int) ∧ xs.length - k ≤ kx ∧ Hid (wr = w.drewN m))
  case atStart => exact ⟨0, 0, by omega, rfl, by omega, rfl⟩
  case round =>
    obtain ⟨k, m, hk, rfl, hkx, HW⟩ := hrel
    by_cases hlt : k < xs.length
    · have hne : xs ≠ [] := fun e => by rw [e] at hlt; simp at hlt
      obtain ⟨g, off, rfl, hg, hc⟩ := HA.out.resolve_left hne
      obtain ⟨g', off', rfl, hg', hc'⟩ := HB.out.resolve_left hne
      have hltz : (k : Int) < (xs.length : Int) := by omega
      have c1 : wr.cell? ⟨g, off + k, none⟩ = some (.int .i64 (xs.getD k 0)) := by rw [HW.out]; exact hc k hlt
      have c2 : wr.cell? ⟨g', off' + k, none⟩ = some (.int .i64 (xs.getD k 0)) := by rw [HW.out]; exact hc' k hlt
      generalize xs.getD k 0 = v at *
      clear hc hc'
      go_wp2_with fail
      go_quiet (fail)
      have HW2 : Hid (∀ q, ∃ m, wr.drewN q = w.drewN m) := fun q => ⟨m + q, by rw [HW.out, World.drewN_drewN]⟩
      obtain ⟨m2, hm2⟩ := HW2.out nq
      rw [hm2]
      generalize hg2 : w.drewN m2 = w2
      have HG : Hid (w2 = w.drewN m2) := hg2.symm
      clear c1 c2 hg2 hm2 HW2 HW
      go_wp2
      go_roundg (xs.length - (k + 1))
      case measure => omega
      case rel => exact ⟨k + 1, m2, by omega, by go_num, by omega, HG⟩
    · obtain rfl : k = xs.length := by omega
      go_wp2_with fail
      go_ret
      exact ⟨rfl, m, HW.out⟩

/-! ### SameFloat of one float -/
theorem one_over (a : Nat) (ha : isn a = false) : ∃ r, floatBits .quo .f64 4607182418800017408 a = some r ∧ isn r = false := by
  have h1 : Ieee.double.read 4607182418800017408 = .number false 4503599627370496 (-52) := by decide
  have wn : ∀ s m p, isn (Ieee.double.write (.number s m p)) = false := fun s m p => by
    show isn (Ieee.double.nearest s m p) = false
    unfold Ieee.Format.nearest
    have hi := inf_eq
    split
    · exact (word_fk s 0 (by omega)).1
    · dsimp only
      exact (word_fk s _ (by rw [hi]; omega)).1
  show ∃ r, Ieee.double.div 4607182418800017408 a = some r ∧ _
  unfold Ieee.Format.div
  rw [h1]
  rcases kinds a ha with ⟨⟨s, m, e, hr⟩, _⟩ | ⟨hr, _⟩ | ⟨hr, _⟩
  · rw [hr]
    simp only [Ieee.Datum.quotient]
    by_cases h0 : m = 0
    · rw [if_pos h0, if_neg (by omega)]
      exact ⟨_, rfl, (write_inf _).1⟩
    · rw [if_neg h0]
      exact ⟨_, rfl, wn _ _ _⟩
  · rw [hr]
    exact ⟨_, rfl, wn _ _ _⟩
  · rw [hr]
    exact ⟨_, rfl, wn _ _ _⟩

theorem same_float (a : Nat) (w : World) : Calls Try.prog 30 #[.float .f64 a, .float .f64 a] w fun e w' => e = .returned (.bool true) ∧ w = w' := by
  cases ha : isn a
  · obtain ⟨r, hr, hnr⟩ := one_over a ha
    have h1 := order_self ha
    have h2 := order_self hnr
    have h3 : ∀ w, (binOp .quo 22 (.float .f64 4607182418800017408) (.float .f64 a)).run Try.prog w = .ok (.float .f64 r) w := fun w => run_float_arith w .quo 22 .f64 _ _ _ hr
    clear hr
    go_enter Try.func30, Try.ntmps30
    go_wp2
    go_ret
    exact ⟨rfl, rfl⟩
  · have h1 := order_nan1 a ha
    go_enter Try.func30, Try.ntmps30
    go_wp2
    go_ret
    exact ⟨rfl, rfl⟩

/-! ### the document's Order -/
theorem rank_step (xs : List Nat) (i k : Nat) (hi : i < xs.length) (hk : k < xs.length) :
    (bef (xs.getD k 0) (xs.getD i 0) = true ∧ rankN xs i (k + 1) = rankN xs i k + 1) ∨
    (bef (xs.getD k 0) (xs.getD i 0) = false ∧ bef (xs.getD i 0) (xs.getD k 0) = true ∧ rankN xs i (k + 1) = rankN xs i k) ∨
    (bef (xs.getD k 0) (xs.getD i 0) = false ∧ bef (xs.getD i 0) (xs.getD k 0) = false ∧ k < i ∧ rankN xs i (k + 1) = rankN xs i k + 1) ∨
    (bef (xs.getD k 0) (xs.getD i 0) = false ∧ bef (xs.getD i 0) (xs.getD k 0) = false ∧ ¬ k < i ∧ rankN xs i (k + 1) = rankN xs i k) := by
  rw [rankN_succ, bef_kf, bef_kf]
  have hx : rkn xs k < rkn xs i ↔ kf (xs.getD k 0) < kf (xs.getD i 0) ∨ (kf (xs.getD k 0) = kf (xs.getD i 0) ∧ (k : Int) < i) := lex_lt (by omega) (by omega) (by omega) (by omega)
  simp only [decide_eq_true_iff, decide_eq_false_iff_not]
  generalize kf (xs.getD k 0) = u at *
  generalize kf (xs.getD i 0) = v at *
  by_cases h : rkn xs k < rkn xs i
  · rw [if_pos h]
    have := hx.1 h
    omega
  · rw [if_neg h]
    have : ¬ (u < v ∨ u = v ∧ (k : Int) < i) := fun k => h (hx.2 k)
    omega

/-- which places lie where they belong -/
def Laid (w : World) (hb : Nat) (xs : List Nat) (i : Nat) : Prop :=
  (∀ k, k < i → w.cell? ⟨hb, rankN xs k xs.length, none⟩ = some (.int .i64 (k : Int))) ∧ ∀ p, p < xs.length → (∃ v, w.cell? ⟨hb, p, none⟩ = some v) ∧ w.frozen? ⟨hb, p, none⟩ = false

theorem rank_inj {xs ps : List Nat} (h : Placed xs ps) {p q : Nat} (hp : p < xs.length) (hq : q < xs.length) (e : rankN xs p xs.length = rankN xs q xs.length) : p = q := by
  obtain ⟨i, hi, e1⟩ := h.all p hp
  obtain ⟨j, hj, e2⟩ := h.all q hq
  have r1 := rank_at h i hi
  have r2 := rank_at h j hj
  rw [e1] at r1
  rw [e2] at r2
  have : i = j := by omega
  rw [← e1, ← e2, this]
theorem rank_lt {xs ps : List Nat} (h : Placed xs ps) {p : Nat} (hp : p < xs.length) : rankN xs p xs.length < xs.length := by
  obtain ⟨i, hi, e1⟩ := h.all p hp
  have r1 := rank_at h i hi
  rw [e1] at r1
  omega

theorem Laid.step {w : World} {hb i : Nat} {xs ps : List Nat} (h : Laid w hb xs i) (hP : Placed xs ps) (hi : i < xs.length) : Laid (w.setCell ⟨hb, rankN xs i xs.length, none⟩ (.int .i64 (i : Int))) hb xs (i + 1) := by
  have hr := rank_lt hP hi
  obtain ⟨⟨u, hu⟩, _⟩ := h.2 _ hr
  refine ⟨fun k hk => ?_, fun p hp => ?_⟩
  · by_cases e : k = i
    · subst e; exact World.cell?_setCell_same _ _ _ hu
    · rw [World.cell?_setCell_other _ _ _ _ (by
        intro e2
        simp only [Addr.mk.injEq] at e2
        exact e (rank_inj hP (by omega) hi e2.2.1.symm))]
      exact h.1 k (by omega)
  · obtain ⟨⟨v, hv⟩, hf⟩ := h.2 p hp
    refine ⟨?_, by rw [World.frozen?_setCell]; exact hf⟩
    by_cases e : rankN xs i xs.length = p
    · exact ⟨_, by rw [← e]; exact World.cell?_setCell_same _ _ _ hu⟩
    · exact ⟨v, by rw [World.cell?_setCell_other _ _ _ _ (by intro e2; simp only [Addr.mk.injEq] at e2; exact e e2.2.1)]; exact hv⟩

theorem make_ints (n : Nat) (hn : n ≤ 200) (W : World) : (Instr.makeSlice 32 (.int .i64 (n : Int)) (.int .i64 (n : Int))).run Try.prog W = .ok (.slice (some ⟨W.heap.size, 0, none⟩) n n) (W.alloc (.cells (madeCells #[.int .i64 0] n) 3)) := by
  obtain ⟨i, hi, hz, hs, hb⟩ := info_parts infoInt
  have h := run_make (P := Try.prog) W 32 3 i (.int .i64 0) Try.underlying32 hi hz .i64 .i64 (n : Int) (n : Int) (by omega) (by omega) (by rw [hb]; omega) (by omega)
  rw [h, hs, Int.toNat_natCast, Nat.mul_one]
  rfl

theorem laid_start (W : World) (xs : List Nat) : Laid (W.alloc (.cells (madeCells #[.int .i64 0] xs.length) 3)) W.heap.size xs 0 := by
  have hrow := heap_alloc_new W (.cells (madeCells #[.int .i64 0] xs.length) 3)
  refine ⟨fun k hk => by omega, fun p hp => ⟨⟨.int .i64 0, ?_⟩, frozen_of_row _ _ _ _ _ hrow⟩⟩
  rw [cell_of_row _ _ _ _ _ _ hrow, ← Array.getElem?_toList, toList_madeCells_one]
  simp [hp]

set_option maxHeartbeats 6000000 in
set_option maxRecDepth 1000000 in
theorem rorder_any (w : World) (a : Option Addr) (cap : Nat) (xs ps : List Nat) (h : FloatsAt w a xs) (hP : Placed xs ps) (hlen : xs.length ≤ 200) :
    Calls Try.prog 58 #[.slice a xs.length cap] w fun e w' => ∃ v, e = .returned v ∧ OwnInts w' w.heap.size v (ps.map (fun (p : Nat) => (p : Int))) ∧ Below w.heap.size w w' := by
  have HF := Lib.hid h
  have HP := Lib.hid hP
  clear h hP
  have hmk := fun W => make_ints xs.length hlen W
  obtain ⟨w1, hw1⟩ : ∃ w1, w.alloc (.cells (madeCells #[.int .i64 0] xs.length) 3) = w1 := ⟨_, rfl⟩
  have hstart : Hid (Laid w1 w.heap.size xs 0) := by rw [← hw1]; exact laid_start w xs
  have hb1 : Below w.heap.size w w1 := by rw [← hw1]; exact (Below.refl _ _).alloc (Nat.le_refl _) _
  have hs1 : w1.heap.size = w.heap.size + 1 := by rw [← hw1]; simp
  have HB1 := Lib.hid hb1
  clear hb1
  go_enter Try.func58, Try.ntmps58
  go_wp2
  clear hw1 hmk
  go_loopg [4] (xs.length) (fun kx s4 wr => ∃ i : Nat, i ≤ xs.length ∧ s4 = .int .i64 (i : Int) ∧ xs.length - i ≤ kx ∧ Hid (Laid wr w.heap.size xs i) ∧ Hid (Below w.heap.size w1 wr))
  case atStart => exact ⟨0, by omega, rfl, by omega, hstart, Below.refl _ _⟩
  case round =>
    clear hstart
    obtain ⟨i, hi, rfl, hkx, HL, HB⟩ := hrel
    by_cases hlt : i < xs.length
    · obtain ⟨g, off, rfl, hg, hc⟩ := HF.out.resolve_left (fun e => by rw [e] at hlt; simp at hlt)
      have HC := Lib.hid hc
      clear hc
      have hltz : (i : Int) < (xs.length : Int) := by omega
      generalize wr = wo at *
      go_wp2
      go_loopg [5, 6] (xs.length) (fun ky s5 s6 wr => ∃ k m : Nat, k ≤ xs.length ∧ s6 = .int .i64 (k : Int) ∧ s5 = .int .i64 (rankN xs i k : Nat) ∧ xs.length - k ≤ ky ∧ Hid (wr = wo.drewN m))
      case atStart => exact ⟨0, 0, by omega, rfl, rfl, by omega, rfl⟩
      case round =>
        obtain ⟨k, m, hk, rfl, rfl, hky, HW⟩ := hrel
        by_cases hkl : k < xs.length
        · have hklz : (k : Int) < (xs.length : Int) := by omega
          have keep : ∀ p, p < xs.length → wr.cell? ⟨g, off + p, none⟩ = some (.float .f64 (xs.getD p 0)) := fun p hp => by
            rw [HW.out]
            exact ((HB.out.cell (by exact hg)).trans (HB1.out.cell (by exact hg))).trans (HC.out p hp)
          have ci := keep i hlt
          have ck := keep k hkl
          have hrs := rank_step xs i k hlt hkl
          have hrle := rankN_le xs i k
          have HW2 : Hid (∀ q, ∃ m, wr.drewN q = wo.drewN m) := fun q => ⟨m + q, by rw [HW.out, World.drewN_drewN]⟩
          have hq1 := fun n w => rbefore_q (xs.getD i 0) (xs.getD k 0) n w
          have hq2 := fun n w => rbefore_q (xs.getD k 0) (xs.getD i 0) n w
          clear keep HW
          generalize hr1 : rankN xs i (k + 1) = r1 at *
          generalize hr0 : rankN xs i k = r0 at *
          generalize xs.getD i 0 = vi at *
          generalize xs.getD k 0 = vk at *
          have HR1 := Lib.hid hr1
          clear hr1 hr0
          have wr0 : IntKind.i64.wrap ((r0 : Int) + 1) = (r0 : Int) + 1 := by rw [IntKind.wrap_i64]; omega
          rcases hrs with ⟨b1, e1⟩ | ⟨b1, b2, e1⟩ | ⟨b1, b2, hki, e1⟩ | ⟨b1, b2, hki, e1⟩
          · rw [b1] at hq2
            have HQ2 := Lib.hid hq2
            have HE := Lib.hid e1
            cases b2 : bef vi vk
            · rw [b2] at hq1
              have HQ1 := Lib.hid hq1
              clear hq1 hq2 b1 b2 e1
              go_wp2_with fail
              go_quiet (first | (with_reducible exact HQ1.out _ _) | (with_reducible exact HQ2.out _ _))
              obtain ⟨m2, hm2⟩ := HW2.out nq
              have ci2 : (wr.drewN nq).cell? ⟨g, off + i, none⟩ = some (.float .f64 vi) := ci
              have ck2 : (wr.drewN nq).cell? ⟨g, off + k, none⟩ = some (.float .f64 vk) := ck
              have HW3 : Hid (∀ q, ∃ m, (wr.drewN nq).drewN q = wo.drewN m) := fun q => ⟨m2 + q, by rw [hm2, World.drewN_drewN]⟩
              clear ci ck HW2 hm2
              generalize wr.drewN nq = wr3 at *
              go_wp2_with fail
              go_quiet (first | (with_reducible exact HQ2.out _ _))
              obtain ⟨m3, hm3⟩ := HW3.out nq
              rw [hm3]
              generalize hg2 : wo.drewN m3 = w5
              have HG : Hid (w5 = wo.drewN m3) := hg2.symm
              clear ci2 ck2 HW3 hm3 hg2
              go_wp2
              go_roundg (xs.length - (k + 1))
              case measure => omega
              case rel => exact ⟨k + 1, m3, by omega, by go_num, by rw [HR1.out, HE.out]; go_num, by omega, HG⟩
            · rw [b2] at hq1
              have HQ1 := Lib.hid hq1
              clear hq1 hq2 b1 b2 e1
              go_wp2_with fail
              go_quiet (first | (with_reducible exact HQ1.out _ _) | (with_reducible exact HQ2.out _ _))
              obtain ⟨m2, hm2⟩ := HW2.out nq
              have ci2 : (wr.drewN nq).cell? ⟨g, off + i, none⟩ = some (.float .f64 vi) := ci
              have ck2 : (wr.drewN nq).cell? ⟨g, off + k, none⟩ = some (.float .f64 vk) := ck
              have HW3 : Hid (∀ q, ∃ m, (wr.drewN nq).drewN q = wo.drewN m) := fun q => ⟨m2 + q, by rw [hm2, World.drewN_drewN]⟩
              clear ci ck HW2 hm2
              generalize wr.drewN nq = wr3 at *
              go_wp2_with fail
              go_quiet (first | (with_reducible exact HQ2.out _ _))
              obtain ⟨m3, hm3⟩ := HW3.out nq
              rw [hm3]
              generalize hg2 : wo.drewN m3 = w5
              have HG : Hid (w5 = wo.drewN m3) := hg2.symm
              clear ci2 ck2 HW3 hm3 hg2
              go_wp2
              go_roundg (xs.length - (k + 1))
              case measure => omega
              case rel => exact ⟨k + 1, m3, by omega, by go_num, by rw [HR1.out, HE.out]; go_num, by omega, HG⟩
          · skip
            rw [b1] at hq2
            rw [b2] at hq1
            have HQ2 := Lib.hid hq2
            have HQ1 := Lib.hid hq1
            have HE := Lib.hid e1
            clear hq1 hq2 b1 b2 e1
            go_wp2_with fail
            go_quiet (first | (with_reducible exact HQ1.out _ _) | (with_reducible exact HQ2.out _ _))
            obtain ⟨m2, hm2⟩ := HW2.out nq
            have ci2 : (wr.drewN nq).cell? ⟨g, off + i, none⟩ = some (.float .f64 vi) := ci
            have ck2 : (wr.drewN nq).cell? ⟨g, off + k, none⟩ = some (.float .f64 vk) := ck
            have HW3 : Hid (∀ q, ∃ m, (wr.drewN nq).drewN q = wo.drewN m) := fun q => ⟨m2 + q, by rw [hm2, World.drewN_drewN]⟩
            clear ci ck HW2 hm2
            generalize wr.drewN nq = wr3 at *
            go_wp2_with fail
            go_quiet (first | (with_reducible exact HQ2.out _ _))
            obtain ⟨m3, hm3⟩ := HW3.out nq
            rw [hm3]
            generalize hg2 : wo.drewN m3 = w5
            have HG : Hid (w5 = wo.drewN m3) := hg2.symm
            clear ci2 ck2 HW3 hm3 hg2
            go_wp2
            go_roundg (xs.length - (k + 1))
            case measure => omega
            case rel => exact ⟨k + 1, m3, by omega, by go_num, by rw [HR1.out, HE.out], by omega, HG⟩
          · skip
            rw [b1] at hq2
            rw [b2] at hq1
            have HQ2 := Lib.hid hq2
            have HQ1 := Lib.hid hq1
            have HE := Lib.hid e1
            have hkz : (k : Int) < (i : Int) := by omega
            clear hq1 hq2 b1 b2 e1
            go_wp2_with fail
            go_quiet (first | (with_reducible exact HQ1.out _ _) | (with_reducible exact HQ2.out _ _))
            obtain ⟨m2, hm2⟩ := HW2.out nq
            have ci2 : (wr.drewN nq).cell? ⟨g, off + i, none⟩ = some (.float .f64 vi) := ci
            have ck2 : (wr.drewN nq).cell? ⟨g, off + k, none⟩ = some (.float .f64 vk) := ck
            have HW3 : Hid (∀ q, ∃ m, (wr.drewN nq).drewN q = wo.drewN m) := fun q => ⟨m2 + q, by rw [hm2, World.drewN_drewN]⟩
            clear ci ck HW2 hm2
            generalize wr.drewN nq = wr3 at *
            go_wp2_with fail
            go_quiet (first | (with_reducible exact HQ2.out _ _))
            obtain ⟨m3, hm3⟩ := HW3.out nq
            rw [hm3]
            generalize hg2 : wo.drewN m3 = w5
            have HG : Hid (w5 = wo.drewN m3) := hg2.symm
            clear ci2 ck2 HW3 hm3 hg2
            go_wp2
            go_roundg (xs.length - (k + 1))
            case measure => omega
            case rel => exact ⟨k + 1, m3, by omega, by go_num, by rw [HR1.out, HE.out]; go_num, by omega, HG⟩
          · skip
            rw [b1] at hq2
            rw [b2] at hq1
            have HQ2 := Lib.hid hq2
            have HQ1 := Lib.hid hq1
            have HE := Lib.hid e1
            have hkz : ¬ (k : Int) < (i : Int) := by omega
            clear hq1 hq2 b1 b2 e1
            go_wp2_with fail
            go_quiet (first | (with_reducible exact HQ1.out _ _) | (with_reducible exact HQ2.out _ _))
            obtain ⟨m2, hm2⟩ := HW2.out nq
            have ci2 : (wr.drewN nq).cell? ⟨g, off + i, none⟩ = some (.float .f64 vi) := ci
            have ck2 : (wr.drewN nq).cell? ⟨g, off + k, none⟩ = some (.float .f64 vk) := ck
            have HW3 : Hid (∀ q, ∃ m, (wr.drewN nq).drewN q = wo.drewN m) := fun q => ⟨m2 + q, by rw [hm2, World.drewN_drewN]⟩
            clear ci ck HW2 hm2
            generalize wr.drewN nq = wr3 at *
            go_wp2_with fail
            go_quiet (first | (with_reducible exact HQ2.out _ _))
            obtain ⟨m3, hm3⟩ := HW3.out nq
            rw [hm3]
            generalize hg2 : wo.drewN m3 = w5
            have HG : Hid (w5 = wo.drewN m3) := hg2.symm
            clear ci2 ck2 HW3 hm3 hg2
            go_wp2
            go_roundg (xs.length - (k + 1))
            case measure => omega
            case rel => exact ⟨k + 1, m3, by omega, by go_num, by rw [HR1.out, HE.out], by omega, HG⟩
        · obtain rfl : k = xs.length := by omega
          have hrl := rank_lt HP.out hlt
          have hLr : Laid wr w.heap.size xs i := by rw [HW.out]; exact HL.out
          have hBr : Below w.heap.size w1 wr := by rw [HW.out]; exact below_drewN HB.out m
          obtain ⟨⟨u, cu⟩, fu⟩ := hLr.2 _ hrl
          have hLn := hLr.step HP.out hlt
          have hBn : Below w.heap.size w1 (wr.setCell ⟨w.heap.size, rankN xs i xs.length, none⟩ (.int .i64 (i : Int))) := hBr.setCell (show w.heap.size ≤ (⟨w.heap.size, rankN xs i xs.length, none⟩ : Addr).block from Nat.le_refl _) _
          have HLN := Lib.hid hLn
          have HBN := Lib.hid hBn
          clear hLr hBr hLn hBn HW
          generalize rankN xs i xs.length = r at *
          have hrz : (r : Int) < (xs.length : Int) := by omega
          go_wp2_with fail
          generalize hg5 : wr.setCell ⟨w.heap.size, r, none⟩ (.int .i64 (i : Int)) = w5 at *
          clear hg5 cu fu
          go_wp2
          go_roundg (xs.length - (i + 1))
          case measure => omega
          case rel => exact ⟨i + 1, by omega, by go_num, by omega, HLN, HBN⟩
    · obtain rfl : i = xs.length := by omega
      go_wp2
      go_ret
      have hbb := HB1.out.trans HB.out
      refine ⟨_, rfl, .inr ⟨w.heap.size, xs.length, by simp [HP.out.len], Nat.le_refl _, by have := HB.out.size; omega, fun j hj => ?_⟩, hbb⟩
      have hj' : j < xs.length := by simpa [HP.out.len] using hj
      have h1 := HL.out.1 (ps.getD j 0) (HP.out.lt j hj')
      rw [rank_at HP.out j hj'] at h1
      rw [h1]
      simp [List.getD, show j < ps.length by rw [HP.out.len]; exact hj']

end Go.Proofs.Ytdcaklonhbiejaa
