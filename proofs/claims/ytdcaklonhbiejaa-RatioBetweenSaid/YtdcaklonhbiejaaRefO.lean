/-
  The document's own Before, Pick and Order; two lists of numbers that are the same; a float that is the same as itself.
-/
import Derived.Test.YtdcaklonhbiejaaPlaces
namespace Go.Proofs.Ytdcaklonhbiejaa
open Go.Shelf Go.RowKit Go.Lib Go.Sort

/-! ### places are told in one way -/
theorem placed_perm {xs ps : List Nat} (h : Placed xs ps) : ps.Perm (List.range xs.length) := by
  have hget : ∀ i (hi : i < ps.length), ps[i] = ps.getD i 0 := fun i hi => by simp [List.getD, hi]
  have hnd : ps.Nodup := by
    rw [List.Nodup, List.pairwise_iff_getElem]
    intro i j hi hj hij e
    rw [hget i hi, hget j hj] at e
    have := h.asc i j hij (by rw [← h.len]; exact hj)
    rw [e] at this
    omega
  refine (List.perm_ext_iff_of_nodup hnd List.nodup_range).2 fun p => ?_
  rw [List.mem_range]
  constructor
  · intro hp
    obtain ⟨i, hi, e⟩ := List.getElem_of_mem hp
    rw [← e, hget i hi]
    exact h.lt i (by rw [← h.len]; exact hi)
  · intro hp
    obtain ⟨i, hi, e⟩ := h.all p hp
    rw [← e, ← hget i (by rw [h.len]; exact hi)]
    exact List.getElem_mem _

/-- how many of the first m places are ahead of x -/
def rankN (xs : List Nat) (x m : Nat) : Nat := (List.range m).countP fun k => decide (rkn xs k < rkn xs x)
theorem rankN_succ (xs : List Nat) (x m : Nat) : rankN xs x (m + 1) = rankN xs x m + if rkn xs m < rkn xs x then 1 else 0 := by
  unfold rankN
  rw [List.range_succ, List.countP_append]
  congr 1
  by_cases h : rkn xs m < rkn xs x
  · rw [if_pos h]; simp [h]
  · rw [if_neg h]; simp [h]
theorem rankN_le (xs : List Nat) (x m : Nat) : rankN xs x m ≤ m := by
  unfold rankN
  refine Nat.le_trans List.countP_le_length ?_
  simp

theorem rank_at {xs ps : List Nat} (h : Placed xs ps) (j : Nat) (hj : j < xs.length) : rankN xs (ps.getD j 0) xs.length = j := by
  unfold rankN
  rw [← (placed_perm h).countP_eq]
  have hget : ∀ i (hi : i < ps.length), ps[i] = ps.getD i 0 := fun i hi => by simp [List.getD, hi]
  have hl := h.len
  rw [← List.take_append_drop j ps, List.countP_append]
  have h1 : (ps.take j).countP (fun k => decide (rkn xs k < rkn xs ((List.take j ps ++ List.drop j ps).getD j 0))) = j := by
    rw [List.take_append_drop]
    have : (ps.take j).length = j := by rw [List.length_take]; omega
    rw [List.countP_eq_length.2, this]
    intro k hk
    obtain ⟨i, hi, e⟩ := List.getElem_of_mem hk
    rw [List.length_take] at hi
    rw [List.getElem_take] at e
    rw [← e, hget i (by omega), decide_eq_true_iff]
    exact h.asc i j (by omega) hj
  have h2 : (ps.drop j).countP (fun k => decide (rkn xs k < rkn xs ((List.take j ps ++ List.drop j ps).getD j 0))) = 0 := by
    rw [List.take_append_drop]
    rw [List.countP_eq_zero]
    intro k hk
    obtain ⟨i, hi, e⟩ := List.getElem_of_mem hk
    rw [List.length_drop] at hi
    rw [List.getElem_drop] at e
    rw [← e, hget (j + i) (by omega), decide_eq_true_iff]
    rcases Nat.eq_zero_or_pos i with h0 | h0
    · subst h0; simp
    · have := h.asc j (j + i) (by omega) (by omega)
      omega
  rw [h1, h2, Nat.add_zero]

theorem placed_unique {xs ps qs : List Nat} (h : Placed xs ps) (h' : Placed xs qs) : ps = qs := by
  apply List.ext_getElem (by rw [h.len, h'.len])
  intro j h1 h2
  have hj : j < xs.length := by rw [← h.len]; exact h1
  obtain ⟨i, hi, e⟩ := h'.all (ps.getD j 0) (h.lt j hj)
  have r1 := rank_at h j hj
  have r2 := rank_at h' i hi
  rw [e] at r2
  have : i = j := by omega
  subst this
  have a1 : ps[i] = ps.getD i 0 := by simp [List.getD, h1]
  have a2 : qs[i] = qs.getD i 0 := by simp [List.getD, h2]
  rw [a1, a2, e]

/-! ### the document's Before -/
theorem rnan_any (a : Nat) (w : World) : Calls Try.prog 77 #[.float .f64 a] w fun e w' => e = .returned (.bool (isn a)) ∧ w = w' := by
  cases ha : isn a
  · have h1 := order_self ha
    go_enter Try.func77, Try.ntmps77
    go_wp2
    go_ret
    exact ⟨rfl, rfl⟩
  · have h1 := order_nan1 a ha
    go_enter Try.func77, Try.ntmps77
    go_wp2
    go_ret
    exact ⟨rfl, rfl⟩

theorem rbefore_any (a b : Nat) (w : World) : Calls Try.prog 56 #[.float .f64 a, .float .f64 b] w fun e w' => e = .returned (.bool (bef a b)) ∧ w = w' := by
  have hna := rnan_any a
  have hnb := rnan_any b
  cases ha : isn a
  · rw [ha] at hna
    cases hb : isn b
    · rw [hb] at hnb
      have h3 := order_num ha hb
      have h4 : (some (compare (fk a) (fk b)) == some Ordering.gt) = bef a b := by
        unfold bef
        rw [ha, hb]
        rcases Int.lt_trichotomy (fk a) (fk b) with h | h | h
        · rw [cmp_lt h]; simp; omega
        · rw [h, cmp_eq]; simp
        · rw [cmp_gt h]; simp [h]
      rw [h4.symm]
      have HA := Lib.hid hna
      have HB := Lib.hid hnb
      clear hna hnb h4
      go_enter Try.func56, Try.ntmps56
      go_wp2_with fail
      refine (HA.out _).mono ?_
      rintro e w' ⟨rfl, rfl⟩
      go_wp2_with fail
      refine (HB.out _).mono ?_
      rintro e w' ⟨rfl, rfl⟩
      go_wp2_with fail
      go_ret
      exact ⟨rfl, rfl⟩
    · rw [hb] at hnb
      have h4 : bef a b = true := by simp [bef, ha, hb]
      rw [h4]
      have HA := Lib.hid hna
      have HB := Lib.hid hnb
      clear hna hnb h4
      go_enter Try.func56, Try.ntmps56
      go_wp2_with fail
      refine (HA.out _).mono ?_
      rintro e w' ⟨rfl, rfl⟩
      go_wp2_with fail
      refine (HB.out _).mono ?_
      rintro e w' ⟨rfl, rfl⟩
      go_wp2_with fail
      go_ret
      exact ⟨rfl, rfl⟩
  · rw [ha] at hna
    have h4 : bef a b = false := by simp [bef, ha]
    rw [h4]
    have HA := Lib.hid hna
    clear hna hnb h4
    go_enter Try.func56, Try.ntmps56
    go_wp2_with fail
    refine (HA.out _).mono ?_
    rintro e w' ⟨rfl, rfl⟩
    go_wp2_with fail
    go_ret
    exact ⟨rfl, rfl⟩

theorem rbefore_q (a b n : Nat) (w : World) : Calls Try.prog 56 #[.float .f64 a, .float .f64 b] (w.drewN n) fun e w'' => e = .returned (.bool (bef a b)) ∧ ∃ m, w'' = w.drewN m :=
  Calls.quiet_of_same ((rbefore_any a b _).mono fun _ _ ⟨h1, h2⟩ => ⟨h1, h2.symm⟩)

set_option maxHeartbeats 1600000 in
theorem rpick_any (w : World) (a : Option Addr) (cap : Nat) (xs : List Nat) (h : FloatsAt w a xs) (hlen : xs.length ≤ 9223372036854775807) :
    Calls Try.prog 57 #[.slice a xs.length cap] w fun e w' => e = .returned (.int .i64 (pickTo xs xs.length)) ∧ ∃ q, w' = w.drewN q := by
  have HF := Lib.hid h
  clear h
  go_enter Try.func57, Try.ntmps57
  go_wp2
  go_loopg [3, 4] (xs.length) (fun kx s3 s4 wr => ∃ (k m : Nat), k ≤ xs.length ∧ s4 = .int .i64 (k : Int) ∧ s3 = .int .i64 (pickTo xs k) ∧ xs.length - k ≤ kx ∧ Hid (wr = w.drewN m))
  case atStart => exact ⟨0, 0, by omega, rfl, rfl, by omega, rfl⟩
  case round =>
    obtain ⟨k, m, hk, rfl, rfl, hkx, HW⟩ := hrel
    by_cases hlt : k < xs.length
    · obtain ⟨g, off, rfl, hg, hc⟩ := HF.out.resolve_left (fun e => by rw [e] at hlt; simp at hlt)
      have hltz : (k : Int) < (xs.length : Int) := by omega
      have hck : wr.cell? ⟨g, off + k, none⟩ = some (.float .f64 (xs.getD k 0)) := by rw [HW.out]; exact hc k hlt
      obtain ⟨r0, r1, r2⟩ := pickTo_range xs k
      have hs := pickTo_succ xs k
      have HS := Lib.hid hs
      clear hs
      by_cases hneg : pickTo xs k < 0
      · have hst : pickStep xs (pickTo xs k) k = k := by unfold pickStep; rw [if_pos (.inl hneg)]
        have HST := Lib.hid hst
        clear hst hc
        go_wp2_with fail
        go_quiet (fail)
        have HW2 : Hid (∀ q, ∃ m, wr.drewN q = w.drewN m) := fun q => ⟨m + q, by rw [HW.out, World.drewN_drewN]⟩
        obtain ⟨m2, hm2⟩ := HW2.out nq
        rw [hm2]
        generalize hg2 : w.drewN m2 = w2
        have HG : Hid (w2 = w.drewN m2) := hg2.symm
        clear hck hg2 hm2 HW2 HW
        go_wp2
        go_roundg (xs.length - (k + 1))
        case measure => omega
        case rel => exact ⟨k + 1, m2, by omega, by go_num, by rw [HS.out, HST.out], by omega, HG⟩
      · obtain ⟨p, hp⟩ : ∃ p : Nat, pickTo xs k = p := ⟨(pickTo xs k).toNat, by omega⟩
        have hpl : p < xs.length := by omega
        have hplz : (p : Int) < (xs.length : Int) := by omega
        have hcp : wr.cell? ⟨g, off + p, none⟩ = some (.float .f64 (xs.getD p 0)) := by rw [HW.out]; exact hc p hpl
        rw [hp] at HS ⊢
        clear hc r2
        have hst : pickStep xs (p : Int) k = if bef (xs.getD k 0) (xs.getD p 0) = true then (k : Int) else p := by
          unfold pickStep
          rw [Int.toNat_natCast]
          by_cases hbf : bef (xs.getD k 0) (xs.getD p 0) = true
          · rw [if_pos (.inr hbf), if_pos hbf]
          · rw [if_neg (by rw [not_or]; exact ⟨by omega, hbf⟩), if_neg hbf]
        have hpn : ¬ (p : Int) < 0 := by omega
        have hb := fun n => rbefore_q (xs.getD k 0) (xs.getD p 0) n wr
        generalize xs.getD k 0 = vk at *
        generalize xs.getD p 0 = vp at *
        cases hbf : bef vk vp
        · rw [hbf] at hst hb
          have HST := Lib.hid hst
          have HB := Lib.hid hb
          clear hst hb hp hneg
          go_wp2_with fail
          go_quiet (first | (go_at_call 56; with_reducible exact HB.out _))
          have HW2 : Hid (∀ q, ∃ m, wr.drewN q = w.drewN m) := fun q => ⟨m + q, by rw [HW.out, World.drewN_drewN]⟩
          obtain ⟨m2, hm2⟩ := HW2.out nq
          rw [hm2]
          generalize hg2 : w.drewN m2 = w2
          have HG : Hid (w2 = w.drewN m2) := hg2.symm
          clear hck hcp hg2 hm2 HW2 HW
          go_wp2
          go_roundg (xs.length - (k + 1))
          case measure => omega
          case rel => exact ⟨k + 1, m2, by omega, by go_num, by rw [HS.out, HST.out]; simp, by omega, HG⟩
        · rw [hbf] at hst hb
          have HST := Lib.hid hst
          have HB := Lib.hid hb
          clear hst hb hp hneg
          go_wp2_with fail
          go_quiet (first | (go_at_call 56; with_reducible exact HB.out _))
          have HW2 : Hid (∀ q, ∃ m, wr.drewN q = w.drewN m) := fun q => ⟨m + q, by rw [HW.out, World.drewN_drewN]⟩
          obtain ⟨m2, hm2⟩ := HW2.out nq
          rw [hm2]
          generalize hg2 : w.drewN m2 = w2
          have HG : Hid (w2 = w.drewN m2) := hg2.symm
          clear hck hcp hg2 hm2 HW2 HW
          go_wp2
          go_roundg (xs.length - (k + 1))
          case measure => omega
          case rel => exact ⟨k + 1, m2, by omega, by go_num, by rw [HS.out, HST.out]; simp, by omega, HG⟩
    · obtain rfl : k = xs.length := by omega
      go_wp2_with fail
      go_ret
      exact ⟨rfl, m, HW.out⟩

end Go.Proofs.Ytdcaklonhbiejaa
