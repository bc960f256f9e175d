/-
  satchelkit: SameInts, SameIDs.
-/
import Derived.Test.YtkfhljggdcajpaaChk
import Derived.Test.YtkfhljggdcajpaaIdEq
import Derived.Deep.RegionHeld3
namespace Go.Proofs.Ytkfhljggdcajpaa
open Go.RowKit Go.Sort

theorem list_upto_succ {α : Type} {xs ys : List α} {d : α} {k : Nat} (hl : xs.length = ys.length) (hk : k < xs.length) (h : xs.take k = ys.take k) (he : xs.getD k d = ys.getD k d) : xs.take (k + 1) = ys.take (k + 1) := by
  rw [List.take_add_one, List.take_add_one, h, List.getElem?_eq_getElem hk, List.getElem?_eq_getElem (by omega)]
  have h1 : xs.getD k d = xs[k] := by simp [List.getD, hk]
  have h2 : ys.getD k d = ys[k]'(by omega) := by simp [List.getD, show k < ys.length by omega]
  rw [h1, h2] at he
  rw [he]

set_option maxRecDepth 100000 in
set_option maxHeartbeats 1000000 in
theorem same_ints_any (w : World) (a b : Option Addr) (ca cb : Nat) (xs ys : List Int) (ha : IntsAt w a xs) (hb : IntsAt w b ys) (hlx : xs.length < 2 ^ 40) :
    Calls Try.prog 77 #[.slice a xs.length ca, .slice b ys.length cb] w fun e w' => e = .returned (.bool (decide (xs = ys))) ∧ ∃ n, w' = w.drewN n := by
  obtain ⟨E, hE⟩ : ∃ E, decide (xs = ys) = E := ⟨_, rfl⟩
  rw [hE]
  have HE := Lib.hid hE
  have HA := Lib.hid ha
  have HB := Lib.hid hb
  clear hE ha hb
  by_cases hl : xs.length = ys.length
  · rw [← hl]
    have Hl := Lib.hid hl
    clear hl
    go_enter Try.func77, Try.ntmps77
    go_wp2_with fail
    go_loopg [5] (xs.length) (fun kx s wr => ∃ k m : Nat, k ≤ xs.length ∧ s = .int .i64 (k : Int) ∧ xs.length - k ≤ kx ∧ Hid (xs.take k = ys.take k) ∧ Hid (wr = w.drewN m))
    case atStart => exact ⟨0, 0, by omega, rfl, by omega, Lib.hid rfl, Lib.hid rfl⟩
    case round =>
      obtain ⟨k, m, hk, rfl, hky, hU, HW⟩ := hrel
      by_cases hlt : k < xs.length
      · obtain ⟨g, off, rfl, hg, hc⟩ := HA.out.resolve_left (fun e => by rw [e] at hlt; simp at hlt)
        obtain ⟨g2, off2, rfl, hg2, hc2⟩ := HB.out.resolve_left (fun e => by rw [Hl.out, e] at hlt; simp at hlt)
        have c1 : wr.cell? ⟨g, off + k, none⟩ = some (.int .i64 (xs.getD k 0)) := by rw [HW.out]; exact hc k hlt
        have c2 : wr.cell? ⟨g2, off2 + k, none⟩ = some (.int .i64 (ys.getD k 0)) := by rw [HW.out]; exact hc2 k (by rw [← Hl.out]; exact hlt)
        have hltz : (k : Int) < (xs.length : Int) := by omega
        by_cases he : xs.getD k 0 = ys.getD k 0
        · have hs := list_upto_succ Hl.out hlt hU.out he
          have HS := Lib.hid hs
          rw [← he] at c2
          clear hs hc hc2 he hU
          generalize xs.getD k 0 = v at *
          go_wp2_with fail
          go_quiet (fail)
          go_wp2_with fail
          go_roundg (xs.length - (k + 1))
          case rel => exact ⟨k + 1, m + nq, by omega, by go_num, by omega, HS, Lib.hid (by rw [HW.out, World.drewN_drewN])⟩
          case measure => omega
        · have h5 : E = false := by
            rw [← HE.out, decide_eq_false_iff_not]
            intro h; exact he (by rw [h])
          subst h5
          clear hc hc2 hU
          generalize xs.getD k 0 = v at *
          generalize ys.getD k 0 = u at *
          go_wp2_with fail
          go_quiet (fail)
          go_wp2_with fail
          go_ret
          exact ⟨rfl, m + nq, by rw [HW.out, World.drewN_drewN]⟩
      · obtain rfl : k = xs.length := by omega
        have h5 : E = true := by
          rw [← HE.out, decide_eq_true_iff]
          have := hU.out
          rwa [List.take_length, Hl.out, List.take_length] at this
        subst h5
        clear hU
        go_wp2_with fail
        go_ret
        exact ⟨rfl, m, HW.out⟩
  · have h5 : E = false := by
      rw [← HE.out, decide_eq_false_iff_not]
      intro h; exact hl (by rw [h])
    subst h5
    go_enter Try.func77, Try.ntmps77
    go_wp2_with fail
    go_ret
    exact ⟨rfl, 0, rfl⟩

theorem wpQuiet_load {P : Program} {ops : Array Oper} {C : World → Prop} {Q : Act → Prop} {o : Oper} {rest : List Oper} {a : Act} (hgd : o.guard = none) (ty : TypeId) (x : Operand) (ho : o.op = .load ty x) (p : Addr)
    (hx : a.eval x = .pointer (some p)) (v : Value) (hl : ∀ w, C w → (loadVar ty p).run P w = .ok v w) (h : wpQuiet P ops C Q rest (a.put o.dst v)) : wpQuiet P ops C Q (o :: rest) a := by
  refine wpQuiet_step fun K hK => ?_
  rw [if_pos (by simp [Region.wanted, hgd])]
  refine ⟨v, fun w hw => ?_, hK _ h⟩
  unfold Oper.quietAt execOp
  simp only [ho, hx, Instr.loadAt, Instr.sureAddr, Sem.run_bind, Sem.run_pure, Result.andThen_ok, hl w hw, Oper.quietUpon]
  exact ⟨trivial, trivial⟩

/-- IDs: sixteen bytes each -/
def Ids (ids : List (List Int)) : Prop := ∀ x ∈ ids, x.length = 16 ∧ Bys x
theorem Ids.get {ids : List (List Int)} (h : Ids ids) {k : Nat} (hk : k < ids.length) : (ids.getD k []).length = 16 ∧ Bys (ids.getD k []) := by
  have : ids.getD k [] = ids[k] := by simp [List.getD, hk]
  rw [this]; exact h _ (List.getElem_mem hk)

/-- IDs lie in a row -/
def IdsAt (w : World) (a : Option Addr) (ids : List (List Int)) : Prop := ids = [] ∨ ∃ b off, a = some ⟨b, off, none⟩ ∧ b < w.heap.size ∧ ∀ i, i < ids.length → w.rangeAt b (off + i * 16) (bvals (ids.getD i []))

theorem rangeAt_block {w w' : World} {b o : Nat} {cs : List Value} (h : w.rangeAt b o cs) (hb : w'.heap[b]? = w.heap[b]?) : w'.rangeAt b o cs := fun j v hj => (World.cell?_of_block hb).trans (h j v hj)

theorem IdsAt.below {w w' : World} {a : Option Addr} {ids : List (List Int)} {B : Nat} (h : IdsAt w a ids) (hb : Below B w w') (hB : w.heap.size ≤ B) : IdsAt w' a ids := by
  rcases h with h | ⟨b, off, ha, hlt, hc⟩
  · exact .inl h
  · exact .inr ⟨b, off, ha, Nat.lt_of_lt_of_le hlt hb.size, fun i hi => rangeAt_block (hc i hi) (hb.block b (by omega))⟩

theorem load_id {w : World} {g o : Nat} {x : List Int} (h : w.rangeAt g o (bvals x)) (hl : x.length = 16) : (loadVar 37 ⟨g, o, none⟩).run Try.prog w = .ok (.agg (bvals x).toArray) w :=
  run_loadVar_mid w g o 37 (bvals x) _ h Try.underlying37 rfl (by rw [bvals_length, hl]; kernel_rfl)

set_option maxRecDepth 100000 in
set_option maxHeartbeats 1000000 in
theorem same_ids_any (w : World) (a b : Option Addr) (ca cb : Nat) (xs ys : List (List Int)) (ha : IdsAt w a xs) (hb : IdsAt w b ys) (hx : Ids xs) (hy : Ids ys) (hlx : xs.length < 2 ^ 40) :
    Calls Try.prog 78 #[.slice a xs.length ca, .slice b ys.length cb] w fun e w' => e = .returned (.bool (decide (xs = ys))) ∧ ∃ n, w' = w.drewN n := by
  obtain ⟨E, hE⟩ : ∃ E, decide (xs = ys) = E := ⟨_, rfl⟩
  rw [hE]
  have HE := Lib.hid hE
  have HA := Lib.hid ha
  have HB := Lib.hid hb
  clear hE ha hb
  by_cases hl : xs.length = ys.length
  · rw [← hl]
    have Hl := Lib.hid hl
    clear hl
    go_enter Try.func78, Try.ntmps78
    go_wp2_with fail
    go_loopg [5] (xs.length) (fun kx s wr => ∃ k m : Nat, k ≤ xs.length ∧ s = .int .i64 (k : Int) ∧ xs.length - k ≤ kx ∧ Hid (xs.take k = ys.take k) ∧ Hid (wr = w.drewN m))
    case atStart => exact ⟨0, 0, by omega, rfl, by omega, Lib.hid rfl, Lib.hid rfl⟩
    case round =>
      obtain ⟨k, m, hk, rfl, hky, hU, HW⟩ := hrel
      by_cases hlt : k < xs.length
      · obtain ⟨g, off, rfl, hg, hc⟩ := HA.out.resolve_left (fun e => by rw [e] at hlt; simp at hlt)
        obtain ⟨g2, off2, rfl, hg2, hc2⟩ := HB.out.resolve_left (fun e => by rw [Hl.out, e] at hlt; simp at hlt)
        have hky' : k < ys.length := by rw [← Hl.out]; exact hlt
        have c1 : ∀ n, (loadVar 37 ⟨g, off + k * 16, none⟩).run Try.prog (wr.drewN n) = .ok (.agg (bvals (xs.getD k [])).toArray) (wr.drewN n) := fun n => load_id (by rw [HW.out]; exact hc k hlt) (hx.get hlt).1
        have c2 : ∀ n, (loadVar 37 ⟨g2, off2 + k * 16, none⟩).run Try.prog (wr.drewN n) = .ok (.agg (bvals (ys.getD k [])).toArray) (wr.drewN n) := fun n => load_id (by rw [HW.out]; exact hc2 k hky') (hy.get hky').1
        have hq : ∀ w, (Op.equalIn 10000 37 (.agg (bvals (xs.getD k [])).toArray) (.agg (bvals (ys.getD k [])).toArray)).run Try.prog w = .ok (decide (xs.getD k [] = ys.getD k [])) w := fun w => id_eq w _ _ (hx.get hlt).1 (hy.get hky').1 (hx.get hlt).2 (hy.get hky').2
        have hltz : (k : Int) < (xs.length : Int) := by omega
        by_cases he : xs.getD k [] = ys.getD k []
        · have hs := list_upto_succ Hl.out hlt hU.out he
          have HS := Lib.hid hs
          rw [← he] at c2 hq
          rw [decide_eq_true rfl] at hq
          clear hs hc hc2 he hU hky'
          generalize xs.getD k [] = v at *
          go_wp2_with fail
          refine wp_region_quiet_lit (by kernel_rfl) (by kernel_rfl) ?_
          iterate 3 (quiet_step (fail))
          refine wpQuiet_load rfl 37 (.tmp 19) rfl ⟨g, off + k * 16, none⟩ rfl _ (by rintro w ⟨n, rfl⟩; exact c1 n) ?_
          iterate 3 (quiet_step (fail))
          refine wpQuiet_load rfl 37 (.tmp 23) rfl ⟨g2, off2 + k * 16, none⟩ rfl _ (by rintro w ⟨n, rfl⟩; exact c2 n) ?_
          clear c1 c2
          quiet_step (fail)
          refine wpQuiet_nil ?_
          intro w' hw'
          obtain ⟨nq, rfl⟩ := hw'
          go_wp2_with fail
          go_roundg (xs.length - (k + 1))
          case rel => exact ⟨k + 1, m + nq, by omega, by go_num, by omega, HS, Lib.hid (by rw [HW.out, World.drewN_drewN])⟩
          case measure => omega
        · have h5 : E = false := by
            rw [← HE.out, decide_eq_false_iff_not]
            intro h; exact he (by rw [h])
          subst h5
          rw [decide_eq_false he] at hq
          clear hc hc2 hU hky' he
          generalize xs.getD k [] = v at *
          generalize ys.getD k [] = u at *
          go_wp2_with fail
          refine wp_region_quiet_lit (by kernel_rfl) (by kernel_rfl) ?_
          iterate 3 (quiet_step (fail))
          refine wpQuiet_load rfl 37 (.tmp 19) rfl ⟨g, off + k * 16, none⟩ rfl _ (by rintro w ⟨n, rfl⟩; exact c1 n) ?_
          iterate 3 (quiet_step (fail))
          refine wpQuiet_load rfl 37 (.tmp 23) rfl ⟨g2, off2 + k * 16, none⟩ rfl _ (by rintro w ⟨n, rfl⟩; exact c2 n) ?_
          clear c1 c2
          quiet_step (fail)
          refine wpQuiet_nil ?_
          intro w' hw'
          obtain ⟨nq, rfl⟩ := hw'
          go_wp2_with fail
          go_ret
          exact ⟨rfl, m + nq, by rw [HW.out, World.drewN_drewN]⟩
      · obtain rfl : k = xs.length := by omega
        have h5 : E = true := by
          rw [← HE.out, decide_eq_true_iff]
          have := hU.out
          rwa [List.take_length, Hl.out, List.take_length] at this
        subst h5
        clear hU
        go_wp2_with fail
        go_ret
        exact ⟨rfl, m, HW.out⟩
  · have h5 : E = false := by
      rw [← HE.out, decide_eq_false_iff_not]
      intro h; exact hl (by rw [h])
    subst h5
    go_enter Try.func78, Try.ntmps78
    go_wp2_with fail
    go_ret
    exact ⟨rfl, 0, rfl⟩

end Go.Proofs.Ytkfhljggdcajpaa
