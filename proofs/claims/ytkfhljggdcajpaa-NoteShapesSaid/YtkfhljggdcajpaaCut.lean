/-
  The law FieldCut: what is cut short is not read; the walk.
-/
import Derived.Test.YtkfhljggdcajpaaKnown
import Derived.Test.YtkfhljggdcajpaaDec
import Derived.Test.YtkfhljggdcajpaaOrd
import Derived.Test.YtkfhljggdcajpaaIdEq
namespace Go.Proofs.Ytkfhljggdcajpaa
open Go.RowKit

theorem cut_int (n : Int) (k : Nat) (h0 : 0 ≤ n) (h1 : n ≤ 2147483647) (hk : k < sizeN n) : intEnd ((put n).take k) 0 0 2147483647 = (0, 0, 4, (k : Int)) := by
  have hr := rd_cut ((put n).take k) 0 k n h0 h1 hk (by simp)
  have hl : ((put n).take k).length = k := by rw [List.length_take, put_length]; omega
  rw [hl] at hr
  unfold intEnd bnd
  rw [hr]

theorem cut_bytes (b : List Int) (k : Nat) (hb : b.length ≤ 300) (hk : k < (put b.length ++ b).length) : rdBytes ((put b.length ++ b).take k) 0 300 = .error (4, (k : Int)) := by
  have hl : ((put b.length ++ b).take k).length = k := by rw [List.length_take]; omega
  have hp := put_length (b.length : Int)
  rw [List.length_append, hp] at hk
  rcases Nat.lt_or_ge k (sizeN b.length) with hlt | hge
  · have e : (put b.length ++ b).take k = (put b.length).take k := by rw [List.take_append_of_le_length (by omega)]
    have hr := rd_cut ((put b.length ++ b).take k) 0 k b.length (by omega) (by omega) hlt (by rw [List.drop_zero, e])
    rw [hl] at hr
    unfold rdBytes bnd
    rw [hr]
  · have hr := rd_put ((put b.length ++ b).take k) (b.take (k - sizeN b.length)) 0 b.length (by omega) (by omega) (by
      rw [List.drop_zero, List.take_append, List.take_of_length_le (by omega), hp])
    unfold rdBytes bnd
    rw [hr]
    simp only [hl]
    rw [if_neg (by omega), if_neg (by omega)]
    simp only
    rw [if_pos (by omega)]

/-- satchelkit.Pick -/
def pickF (x : Int) (n : Nat) : Nat := (x % n).toNat
theorem pickF_lt (x : Int) (n : Nat) (h : 0 < n) : pickF x n < n := by
  unfold pickF
  have h1 := Int.emod_nonneg x (show (n : Int) ≠ 0 by omega)
  have h2 := Int.emod_lt_of_pos x (show (0 : Int) < n by omega)
  omega

theorem pick_any (x : Int) (n : Nat) (w : World) (hn : 0 < n) (hn2 : n ≤ 140737488355328) :
    Calls Try.prog 36 #[.int .i64 x, .int .i64 n] w fun e w' => e = .returned (.int .i64 (pickF x n)) ∧ w' = w := by
  have h1 := Int.emod_nonneg x (show (n : Int) ≠ 0 by omega)
  have h2 := Int.emod_lt_of_pos x (show (0 : Int) < n by omega)
  have hp : ((pickF x n : Nat) : Int) = x % n := by unfold pickF; omega
  have ht := Int.tmod_eq_emod (a := x) (b := n)
  by_cases hneg : x.tmod n < 0
  · have hv : x.tmod n + n = x % n ∧ -(n : Int) < x.tmod n := by rw [ht] at hneg ⊢; split at hneg <;> rename_i hh <;> simp only [hh, if_true, if_false] <;> omega
    have hlo : -(n : Int) < x.tmod n := hv.2
    have Hv := Lib.hid (hv.1.trans hp.symm)
    clear ht hv hp h1 h2
    go_enter Try.func36, Try.ntmps36
    go_wp2
    go_ret
    exact ⟨ret_int Hv.out, rfl⟩
  · have hv : x.tmod n = x % n := by rw [ht] at hneg ⊢; split at hneg <;> rename_i hh <;> simp only [hh, if_true, if_false] <;> omega
    have Hv := Lib.hid (hv.trans hp.symm)
    clear ht hv hp h1 h2
    go_enter Try.func36, Try.ntmps36
    go_wp2
    go_ret
    exact ⟨ret_int Hv.out, rfl⟩

/-- Out of a good writer, the length under a name -/
theorem out_k (w : World) (b : Nat) (a : Option Addr) (cap : Nat) (bs : List Int) (l : Nat) (hw : WAt w b false a cap bs) (hl : bs.length = l) (hlen : l ≤ 140737488355328) :
    Calls Try.prog 33 #[.pointer (some ⟨b, 0, none⟩)] w fun e w' => ∃ a' cap', e = .returned (.tuple #[.slice a' l cap', .int .i64 0]) ∧ BytesAt w' a' bs ∧ l ≤ cap' ∧ Below w.heap.size w w' ∧ (∀ k, blk a' = some k → w.heap.size ≤ k) := by
  subst hl
  exact (out_good w b a cap bs hw hlen).mono fun e w' ⟨a', cap', he, h1, _, h3, h4⟩ => ⟨a', cap', he, h1.bytes, h1.le_cap, h3, h4⟩

/-- a part of what came in -/
theorem Src.keep {w w3 : World} {a : Option Addr} {xs : List Int} (h : Src w a xs) (hb : Below w.heap.size w w3) (p : Nat) (hp : w.heap.size ≤ p) (r r' : Option Nat) (hr : ∀ k, r = some k → w.heap.size ≤ k) (w1 : World) (hm : Moved p r r' w3 w1) : Src w1 a xs := by
  rcases h with h | h
  · exact .inl h
  · refine .inr ((h.below hb).moved hm ?_ ?_)
    · rcases h with ⟨e, _⟩ | ⟨g, off, e, hg, _⟩
      · rw [e]; simp [blk]
      · rw [e]; intro c; have := Option.some.inj c; simp only at this; omega
    · intro k hk c
      rcases h with ⟨e, _⟩ | ⟨g, off, e, hg, _⟩
      · rw [e] at hk; cases hk
      · rw [e] at hk; cases hk; have := hr g c; omega

theorem pick_k (x : Int) (n c : Nat) (w : World) (hn : 0 < n) (hn2 : n ≤ 140737488355328) (h : pickF x n = c) :
    Calls Try.prog 36 #[.int .i64 x, .int .i64 n] w fun e w' => e = .returned (.int .i64 c) ∧ w' = w := by
  subst h; exact pick_any x n w hn hn2

/-- what the law reads of its slice of bytes -/
theorem Src.bytesAt_or {w : World} {a : Option Addr} {xs : List Int} (h : Src w a xs) (w' : World) (hb : Below w.heap.size w w') : Src w' a xs := h.imp id (fun k => k.below hb)

theorem z16_eq : ∀ w, Sem.run Try.prog (Op.equalIn 10000 37 (.agg (bvals z16).toArray) (.agg #[.int .u8 0, .int .u8 0, .int .u8 0, .int .u8 0, .int .u8 0, .int .u8 0, .int .u8 0, .int .u8 0, .int .u8 0, .int .u8 0, .int .u8 0, .int .u8 0, .int .u8 0, .int .u8 0, .int .u8 0, .int .u8 0])) w = .ok true w := fun w => by
  have h := id_eq w z16 z16 rfl rfl z16_bys z16_bys
  rw [decide_eq_true rfl] at h
  exact h

set_option maxRecDepth 100000 in
set_option maxHeartbeats 3200000 in
theorem cut_main (n at_ : Int) (a : Option Addr) (cap : Nat) (b : List Int) (w : World) (hb : Src w a b) (hby : Bys b) (hlen : b.length ≤ 300) (h0 : 0 ≤ n) (h1 : n ≤ 2147483647) :
    Calls Try.prog 5 #[.int .i64 n, .slice a b.length cap, .int .i64 at_] w fun e w' => e = .returned (.bool true) ∧ Below w.heap.size w w' := by
  obtain ⟨k1, hk1⟩ : ∃ k, sizeN n = k := ⟨_, rfl⟩
  have p1 := sizeN_pos n h0 h1
  rw [hk1] at p1
  obtain ⟨p1a, p1b⟩ := p1
  obtain ⟨l2, hl2⟩ : ∃ k, sizeN b.length = k := ⟨_, rfl⟩
  have p2 := sizeN_pos b.length (by omega) (by omega)
  rw [hl2] at p2
  obtain ⟨p2a, p2b⟩ := p2
  obtain ⟨m, hm0⟩ : ∃ m, l2 + b.length = m := ⟨_, rfl⟩
  have hys : (put b.length ++ b).length = m := by rw [List.length_append, put_length, hl2, hm0]
  have m1 : 1 ≤ m := by omega
  have m2 : m ≤ 305 := by omega
  have hx1 : pickF at_ k1 < k1 := pickF_lt at_ k1 (by omega)
  have hx2 : pickF at_ m < m := pickF_lt at_ _ (by omega)
  obtain ⟨c1, hc1⟩ : ∃ c, pickF at_ k1 = c := ⟨_, rfl⟩
  obtain ⟨c2, hc2⟩ : ∃ c, pickF at_ m = c := ⟨_, rfl⟩
  rw [hc1] at hx1
  rw [hc2] at hx2
  have hl1 := put_length n
  rw [hk1] at hl1
  have HK1 := Lib.hid hk1
  have HL1 := Lib.hid hl1
  have HYS := Lib.hid hys
  have HC1 := Lib.hid hc1
  have HC2 := Lib.hid hc2
  have hbad : (false || decide (sizeN b.length = 0)) = false := by rw [hl2]; simp; omega
  have HBad := Lib.hid hbad
  have HB := Lib.hid hb
  have z1 : ((k1 : Int) == 0) = false := beq_eq_false_iff_ne.2 (by omega)
  have z2 : (k1 == 0) = false := beq_eq_false_iff_ne.2 (by omega)
  have z3 : decide (k1 = 0) = false := decide_eq_false (by omega)
  clear hk1 hl1 hys hc1 hc2 hl2 hbad hb hm0 p2a p2b
  go_enter Try.func5, Try.ntmps5
  go_wp2_with fail
  refine (awake_any _).mono ?_
  rintro e w1 ⟨rfl, hb1⟩
  go_wp2_with fail
  refine (number_k _ _ _ HL1.out).mono ?_
  rintro e w2 ⟨a2, cap2, rfl, hy2, hc2, hb2⟩
  have s1 := hb1.size
  have s2 := hb2.size
  have HY2 := Lib.hid hy2
  clear hy2
  go_wp2_with fail
  refine (new_any _).mono ?_
  rintro e w3 ⟨rfl, rfl⟩
  have hw3 := WAt.new w2
  have hb3 : Below w2.heap.size w2 (w2.alloc (.cells #[.bool true, .bool false, .slice none 0 0] 60)) := (Below.refl _ _).alloc (Nat.le_refl _) _
  have hsz3 : w2.heap.size + 1 ≤ (w2.alloc (.cells #[.bool true, .bool false, .slice none 0 0] 60)).heap.size := by simp
  generalize hg : w2.alloc (.cells #[.bool true, .bool false, .slice none 0 0] 60) = w3 at *
  clear hg
  have HW3 := Lib.hid hw3
  clear hw3
  have hb03 : Below w.heap.size w w3 := (hb1.trans (hb2.mono s1)).trans (hb3.mono (by omega))
  have HB3 := Lib.hid (HB.out.bytesAt_or _ hb03)
  go_wp2_with fail
  refine (wbytes_any _ _ _ _ _ _ HW3.out a cap b (fun r' w4 hm => HB.out.keep hb03 _ (by omega) none r' (fun k hk => by cases hk) w4 hm) hby (by simp; omega)).mono ?_
  rintro e w4 ⟨a4, cap4, rfl, hw4, hm4⟩
  rw [HBad.out, List.nil_append] at hw4
  have HW4 := Lib.hid hw4
  have s4 := hm4.size
  clear hw4
  go_wp2_with fail
  refine (out_k _ _ _ _ _ _ HW4.out HYS.out (by omega)).mono ?_
  rintro e w5 ⟨a5, cap5, rfl, hy5, hc5, hb5, ha5⟩
  have s5 := hb5.size
  have HX5 := Lib.hid (((HY2.out.below hb3).of_block hm4.size (fun g off hg hlt => hm4.block g (by have := hb3.size; omega) (by
    rcases HY2.out with ⟨e, _⟩ | ⟨g', off', e, hg', _⟩
    · rw [e] at hg; cases hg
    · rw [e] at hg; cases hg; omega) (by simp [blk]))).below hb5)
  have HY5 := Lib.hid hy5
  clear hy5
  have y1 : ((m : Int) == 0) = false := beq_eq_false_iff_ne.2 (by omega)
  have q1 : (0 : Int) ≤ c1 := by omega
  have q2 : (0 : Int) ≤ c2 := by omega
  have q3 : (c1 : Int) ≤ cap2 := by omega
  have q4 : (c2 : Int) ≤ cap5 := by omega
  have q5 : c1 ≤ cap2 := by omega
  have q6 : c2 ≤ cap5 := by omega
  go_wp2_with fail
  go_quiet ((first
    | (go_at_call_of 36 (Value.int .i64 (k1 : Int)); exact Calls.quiet_of_same (pick_k at_ k1 c1 _ (by omega) (by omega) HC1.out))
    | (go_at_call_of 36 (Value.int .i64 (m : Int)); exact Calls.quiet_of_same (pick_k at_ m c2 _ (by omega) (by omega) HC2.out))))
  go_wp2_with fail
  have s6 : (w5.drewN nq).heap.size = w5.heap.size := rfl
  have hb56 := below_drewN w.heap.size w5 nq
  have HX6 : Hid (BytesAt (w5.drewN nq) a2 ((put n).take c1)) := Lib.hid (HX5.out.take c1)
  have HY6 : Hid (BytesAt (w5.drewN nq) a5 ((put b.length ++ b).take c2)) := Lib.hid (HY5.out.take c2)
  have HE1 := Lib.hid (cut_int n c1 h0 h1 (by rw [HK1.out]; exact hx1))
  have HE2 := Lib.hid (cut_bytes b c2 hlen (by rw [HYS.out]; exact hx2))
  have HLx : Hid (((put n).take c1).length = c1) := Lib.hid (by rw [List.length_take, HL1.out]; omega)
  have HLy : Hid (((put b.length ++ b).take c2).length = c2) := Lib.hid (by rw [List.length_take, HYS.out]; omega)
  have HBx := Lib.hid ((put_bys n).take c1)
  have HBy := Lib.hid (((put_bys b.length).append hby).take c2)
  have hb06 : Below w.heap.size w (w5.drewN nq) := (((hb03.trans (hm4.below (by omega) (by omega) (fun k hk => by cases hk))).trans (hb5.mono (by omega)))).trans hb56
  generalize hgx : w5.drewN nq = w6 at *
  have s6' : w5.heap.size ≤ w6.heap.size := Nat.le_of_eq s6.symm
  clear hgx s6 HX5 HY5 HW4 HW3 HB3 HY2 hb56
  refine (open_lit _ _ _ c1 ((put n).take c1) HLx.out HBx.out (by omega) HX6.out).mono ?_
  rintro e w7 ⟨bp, ap, cp, rfl, hP7, hbp, hb7, hap⟩
  have s7 := hb7.size
  have hP7l := hP7.lt
  have HP7 := Lib.hid hP7
  have HY7 := Lib.hid (HY6.out.below hb7)
  clear hP7
  go_wp2_with fail
  refine (open_lit _ _ _ c2 ((put b.length ++ b).take c2) HLy.out HBy.out (by omega) HY7.out).mono ?_
  rintro e w8 ⟨bq, aq, cq, rfl, hQ8, hbq, hb8, haq⟩
  have s8 := hb8.size
  have hQ8l := hQ8.lt
  have HQ8 := Lib.hid hQ8
  have HP8 := Lib.hid (HP7.out.below hb8)
  have HY8 := Lib.hid (HY7.out.below hb8)
  clear hQ8
  go_wp2_with fail
  refine (open_lit _ _ _ c2 ((put b.length ++ b).take c2) HLy.out HBy.out (by omega) HY8.out).mono ?_
  rintro e w9 ⟨br, ar, cr, rfl, hR9, hbr, hb9, har⟩
  have s9 := hb9.size
  have hR9l := hR9.lt
  have HR9 := Lib.hid hR9
  have HP9 := Lib.hid (HP8.out.below hb9)
  have HQ9 := Lib.hid (HQ8.out.below hb9)
  clear hR9 HP7 HP8 HQ8 HY6 HY7 HY8 HX6
  go_wp2_with fail
  refine (rint_lit _ _ _ _ _ 0 0 2147483647 0 0 4 c1 HP9.out HE1.out).mono ?_
  rintro e w10 ⟨rfl, hP10, hm10⟩
  have s10 := hm10.size
  have HP10 := Lib.hid hP10
  clear hP10
  go_wp2_with fail
  refine (fault_any _ _ _ _ _ _ _ _ HP10.out).mono ?_
  rintro e w11 ⟨rfl, hb11⟩
  have s11 := hb11.size
  have HP11 := Lib.hid (HP10.out.below hb11)
  go_wp2_with fail
  refine (rtext_no _ _ _ _ _ _ 9 _ _ (rbytes_stop _ _ _ _ _ _ _ _ _ HP11.out (by decide))).mono ?_
  rintro e w12 ⟨rfl, hP12, hm12⟩
  have s12 := hm12.size
  have HP12 := Lib.hid hP12
  clear hP12
  have hnil : (strOfNums []).toList = [] := by rw [ByteArray.toList_eq, strOfNums_data]; rfl
  go_wp2_with fail
  refine (fault_any _ _ _ _ _ _ _ _ HP12.out).mono ?_
  rintro e w13 ⟨rfl, hb13⟩
  have s13 := hb13.size
  clear hnil
  have hm913 : Moved bp none none w9 w13 := ((hm10.trans (Below.moved hb11 bp)).trans hm12).trans (Below.moved hb13 bp)
  have HQ13 := Lib.hid (HQ9.out.moved hm913 (by omega) (far_lt haq (by omega)))
  have HR13 := Lib.hid (HR9.out.moved hm913 (by omega) (far_lt har (by omega)))
  clear HP9 HP10 HP11 HP12 HQ9 HR9
  go_wp2_with fail
  refine (rbytes_err _ _ _ _ _ 0 300 4 c2 HQ13.out HE2.out).mono ?_
  rintro e w14 ⟨rfl, hQ14, hm14⟩
  have s14 := hm14.size
  have HQ14 := Lib.hid hQ14
  clear hQ14
  go_wp2_with fail
  refine (fault_any _ _ _ _ _ _ _ _ HQ14.out).mono ?_
  rintro e w15 ⟨rfl, hb15⟩
  have s15 := hb15.size
  have HQ15 := Lib.hid (HQ14.out.below hb15)
  go_wp2_with fail
  refine (at_any _ _ _ _ _ _ _ _ HQ15.out).mono ?_
  rintro e w16 ⟨rfl, rfl⟩
  have hm1315 : Moved bq none none w13 w15 := hm14.trans (Below.moved hb15 bq)
  have HR15 := Lib.hid (HR13.out.moved hm1315 (by omega) (far_lt har (by omega)))
  have hb09 : Below w.heap.size w w9 := ((hb06.trans (hb7.mono (by omega))).trans (hb8.mono (by omega))).trans (hb9.mono (by omega))
  have hb15' : Below w.heap.size w w15 := (hb09.trans (hm913.below' (by omega) (by omega))).trans (hm1315.below' (by omega) (by omega))
  clear HQ13 HR13 HQ14 HQ15
  by_cases h16 : 16 ≤ c2
  · go_wp2_with fail
    go_ret
    exact ⟨rfl, hb15'⟩
  · have HV := Lib.hid (show (((put b.length ++ b).take c2).length : Int) - (0 : Nat) < 16 by rw [HLy.out]; omega)
    go_wp2_with fail
    refine (rid_err _ _ _ _ _ 0 HR15.out HV.out).mono ?_
    rintro e w17 ⟨rfl, hR17, hm17⟩
    rw [HLy.out] at hR17
    have s17 := hm17.size
    have HR17 := Lib.hid hR17
    clear hR17
    have hz := z16_eq
    go_wp2_with fail
    refine (fault_any _ _ _ _ _ _ _ _ HR17.out).mono ?_
    rintro e w18 ⟨rfl, hb18⟩
    go_wp2_with fail
    go_ret
    exact ⟨rfl, (hb15'.trans (hm17.below' (by omega) (by omega))).trans (hb18.mono (by omega))⟩

set_option maxRecDepth 100000 in
set_option maxHeartbeats 800000 in
theorem cut_long (n at_ : Int) (a : Option Addr) (cap len : Nat) (w : World) (hlen : 300 < len) :
    Calls Try.prog 5 #[.int .i64 n, .slice a len cap, .int .i64 at_] w fun e w' => e = .returned (.bool true) ∧ Below w.heap.size w w' := by
  obtain ⟨k1, hk1⟩ : ∃ k, (put n).length = k := ⟨_, rfl⟩
  have HK1 := Lib.hid hk1
  clear hk1
  go_enter Try.func5, Try.ntmps5
  go_wp2_with fail
  refine (awake_any _).mono ?_
  rintro e w1 ⟨rfl, hb1⟩
  go_wp2_with fail
  refine (number_k _ _ _ HK1.out).mono ?_
  rintro e w2 ⟨a2, cap2, rfl, hy2, hc2, hb2⟩
  go_wp2_with fail
  refine (new_any _).mono ?_
  rintro e w3 ⟨rfl, rfl⟩
  go_wp2_with fail
  go_ret
  exact ⟨rfl, (hb1.trans (hb2.mono hb1.size)).alloc (Nat.le_trans hb1.size hb2.size) _⟩

set_option maxRecDepth 100000 in
set_option maxHeartbeats 800000 in
theorem cut_none (n at_ : Int) (a : Option Addr) (cap len : Nat) (w : World) (hlen : ¬ 300 < len) (hn : n < 0 ∨ 2147483647 < n) :
    Calls Try.prog 5 #[.int .i64 n, .slice a len cap, .int .i64 at_] w fun e w' => e = .returned (.bool true) ∧ Below w.heap.size w w' := by
  have HK1 := Lib.hid ((put_length n).trans (sizeN_none n hn))
  clear hn
  go_enter Try.func5, Try.ntmps5
  go_wp2_with fail
  refine (awake_any _).mono ?_
  rintro e w1 ⟨rfl, hb1⟩
  go_wp2_with fail
  refine (number_k _ _ _ HK1.out).mono ?_
  rintro e w2 ⟨a2, cap2, rfl, hy2, hc2, hb2⟩
  go_wp2_with fail
  refine (new_any _).mono ?_
  rintro e w3 ⟨rfl, rfl⟩
  go_wp2_with fail
  go_ret
  exact ⟨rfl, (hb1.trans (hb2.mono hb1.size)).alloc (Nat.le_trans hb1.size hb2.size) _⟩

/-- the law's call -/
theorem cut_any (n at_ : Int) (a : Option Addr) (cap : Nat) (b : List Int) (w : World) (hb : Src w a b) (hby : Bys b) :
    Calls Try.prog 5 #[.int .i64 n, .slice a b.length cap, .int .i64 at_] w fun e w' => e = .returned (.bool true) ∧ Below w.heap.size w w' := by
  by_cases h : 300 < b.length
  · exact cut_long n at_ a cap b.length w h
  · by_cases hn : n < 0 ∨ 2147483647 < n
    · exact cut_none n at_ a cap b.length w h hn
    · exact cut_main n at_ a cap b w hb hby (by omega) (by omega) (by omega)

/-- a slice of bytes that came in, as the guide's frame tells of it -/
theorem src_of {w : World} {a : Option Addr} {len cap : Nat} {zs : List Int}
    (h : (a = none ∧ len = 0 ∧ cap = 0 ∧ zs = []) ∨ ∃ x, a = some x ∧ len ≤ cap ∧ cap ≤ maxLen ∧ zs.length = cap ∧ (∀ i, i < zs.length → w.cell? (x.add i) = some (.int .u8 (zs.getD i 0))) ∧ ∀ n ∈ zs, (Lit.int .u8 n).wf = true) :
    ∃ xs : List Int, xs.length = len ∧ Bys xs ∧ Src w a xs ∧ len ≤ cap := by
  rcases h with ⟨rfl, rfl, rfl, rfl⟩ | ⟨x, rfl, hl, hm, hz, hc, hw⟩
  · exact ⟨[], rfl, Bys.nil, .inl rfl, Nat.le_refl _⟩
  · refine ⟨zs.take len, by rw [List.length_take]; omega, fun n hn => ?_, ?_, hl⟩
    · have := hw n (List.mem_of_mem_take hn)
      simpa [Lit.wf, IntKind.min, IntKind.max, IntKind.signed, IntKind.bits] using this
    · rcases Nat.eq_zero_or_pos len with rfl | hpos
      · exact .inl (by simp)
      · refine .inr (.inr ?_)
        have h0 := hc 0 (by omega)
        have hx : x.add 0 = x := by simp [Addr.add]
        rw [hx] at h0
        obtain ⟨b, off, spot⟩ := x
        have hs : spot = none := by
          cases spot with
          | none => rfl
          | some s =>
            exfalso
            unfold World.cell? at h0
            split at h0 <;> simp at h0
        subst hs
        have hlt : b < w.heap.size := World.block_lt_of_cell? w _ h0
        refine ⟨b, off, rfl, hlt, fun i hi => ?_⟩
        have hi' : i < len ∧ i < zs.length := by simpa [Nat.lt_min] using hi
        have hadd : (⟨b, off, none⟩ : Addr).add i = ⟨b, off + i, none⟩ := by unfold Addr.add; split <;> simp_all
        have := hc i hi'.2
        rw [hadd] at this
        rw [this]
        simp [List.getD, hi'.1]

end Go.Proofs.Ytkfhljggdcajpaa
