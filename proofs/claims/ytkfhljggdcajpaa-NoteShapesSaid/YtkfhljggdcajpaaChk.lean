/-
  Package note: may a note be? Both Checks.
-/
import Derived.Test.YtkfhljggdcajpaaShd
import Derived.Deep.LoopGhost
namespace Go.Proofs.Ytkfhljggdcajpaa
open Go.RowKit Go.Sort

theorem within_any (n lo hi : Int) (w : World) : Calls Try.prog 76 #[.int .i64 n, .int .i64 lo, .int .i64 hi] w fun e w' => e = .returned (.bool (decide (lo ≤ n) && decide (n ≤ hi))) ∧ w' = w := by
  go_enter Try.func76, Try.ntmps76
  go_wp2
  all_goals go_ret
  all_goals refine ⟨by simp <;> omega, rfl⟩

theorem has_grown (lo hi n : Int) (b : Bool) (hb : Hid ((decide (lo ≤ n) && decide (n ≤ hi)) = b)) (w : World) (k : Nat) (os : Array Obj) : Calls Try.prog 75 #[.agg #[.int .i64 lo, .int .i64 hi], .int .i64 n] (grow (w.drewN k) os) fun e w'' => e = .returned (.bool b) ∧ ∃ p : GrownBy, w'' = grow (w.drewN p.n) p.os :=
  Calls.grown_of ((has_any _ _ _ _).mono fun _ _ ⟨h1, p, h2⟩ => ⟨by rw [h1, hb.out], p.n, p.os, h2⟩)

/-- numbers lie in a row -/
def IntsAt (w : World) (a : Option Addr) (ns : List Int) : Prop := ns = [] ∨ ∃ b off, a = some ⟨b, off, none⟩ ∧ b < w.heap.size ∧ ∀ i, i < ns.length → w.cell? ⟨b, off + i, none⟩ = some (.int .i64 (ns.getD i 0))

theorem IntsAt.below {w w' : World} {a : Option Addr} {ns : List Int} {B : Nat} (h : IntsAt w a ns) (hb : Below B w w') (hB : w.heap.size ≤ B) : IntsAt w' a ns := by
  rcases h with h | ⟨b, off, ha, hlt, hc⟩
  · exact .inl h
  · refine .inr ⟨b, off, ha, Nat.lt_of_lt_of_le hlt hb.size, fun i hi => ?_⟩
    rw [← hc i hi]
    simp only [World.cell?, hb.block b (by omega)]

/-- are all numbers that may be? -/
def AllIn (ns : List Int) : Prop := ∀ n ∈ ns, 0 ≤ n ∧ n ≤ 2147483647
instance (ns : List Int) : Decidable (AllIn ns) := by unfold AllIn; infer_instance

/-- what is wrong with a note: its kind, its numbers, how many IDs and bytes it has -/
def noteErr (kind : Int) (ns : List Int) (ni nb : Int) : Int :=
  if 1 ≤ kind ∧ kind ≤ 24 then
    if (decide (((shapeAt kind).n : Int) ≤ ns.length) && decide ((ns.length : Int) ≤ (shapeAt kind).ns)) = true ∧ (decide (((shapeAt kind).i : Int) ≤ ni) && decide (ni ≤ (shapeAt kind).is)) = true ∧ (decide (((shapeAt kind).least : Int) ≤ nb) && decide (nb ≤ (shapeAt kind).most)) = true then
      if AllIn ns then 0 else 5
    else 5
  else 2


theorem IntsAt.grow {w : World} {a : Option Addr} {ns : List Int} (h : IntsAt w a ns) (n : Nat) (os : Array Obj) : IntsAt (grow (w.drewN n) os) a ns := h.below (below_grow w n os) (Nat.le_refl _)

theorem allIn_succ {ns : List Int} {k : Nat} (hk : k < ns.length) (h : AllIn (ns.take k)) (h0 : 0 ≤ ns.getD k 0) (h1 : ns.getD k 0 ≤ 2147483647) : AllIn (ns.take (k + 1)) := by
  intro n hn
  rw [List.take_add_one, List.mem_append] at hn
  rcases hn with hn | hn
  · exact h n hn
  · rw [List.getElem?_eq_getElem hk] at hn
    simp only [Option.toList_some, List.mem_singleton] at hn
    have : ns.getD k 0 = ns[k] := by simp [List.getD, hk]
    rw [hn, ← this]; exact ⟨h0, h1⟩

theorem allIn_not {ns : List Int} {k : Nat} (hk : k < ns.length) (h : ¬ (0 ≤ ns.getD k 0 ∧ ns.getD k 0 ≤ 2147483647)) : ¬ AllIn ns := fun hA => h (by
  have : ns.getD k 0 = ns[k] := by simp [List.getD, hk]
  rw [this]; exact hA _ (List.getElem_mem hk))

set_option maxRecDepth 100000 in
set_option maxHeartbeats 4000000 in
theorem check_any (kind : Int) (ns : List Int) (nI nB : Nat) (aN aI aB : Option Addr) (cN cI cB : Nat) (w : World) (hN : IntsAt w aN ns) (hl : ns.length < 2 ^ 40) :
    Calls Try.prog 53 #[.agg #[.int .i64 kind, .slice aN ns.length cN, .slice aI nI cI, .slice aB nB cB]] w fun e w' => e = .returned (.int .i64 (noteErr kind ns nI nB)) ∧ Below w.heap.size w w' := by
  obtain ⟨E, hE⟩ : ∃ E, noteErr kind ns nI nB = E := ⟨_, rfl⟩
  rw [hE]
  replace hE := Lib.hid hE
  replace hN := Lib.hid hN
  go_enter Try.func53, Try.ntmps53
  go_wp2_with fail
  go_at_call 74
  refine (shaped_any _ _).mono ?_
  rintro e w1 ⟨he, hw1⟩
  by_cases hk : 1 ≤ kind ∧ kind ≤ 24
  · rw [if_pos hk] at he
    obtain ⟨b, rfl, hb, hc, hlt⟩ := he
    obtain ⟨o, ho⟩ : ∃ o, kind.toNat * 7 = o := ⟨_, rfl⟩
    rw [ho] at hc ⊢
    obtain ⟨S, hS⟩ : ∃ S, shapeAt kind = S := ⟨_, rfl⟩
    rw [hS] at hc
    have hb1 : Below (w.heap.size + 1) (w.alloc (.cells #[.int .i64 kind, .slice aN ns.length cN, .slice aI nI cI, .slice aB nB cB] 69)) w1 := by
      obtain ⟨p, rfl⟩ := hw1
      exact (below_grow _ _ _).mono (by simp)
    have hrow : w1.heap[w.heap.size]? = some (.cells #[.int .i64 kind, .slice aN ns.length cN, .slice aI nI cI, .slice aB nB cB] 69) := by
      rw [hb1.block _ (Nat.lt_succ_self _), heap_top]
    have HB1 : Hid (Below w.heap.size w w1) := ((Below.refl _ _).alloc (Nat.le_refl _) _).trans (hb1.mono (by simp))
    have hN1 : Hid (IntsAt w1 aN ns) := IntsAt.below hN HB1 (Nat.le_refl _)
    have hws : w.heap.size < w1.heap.size := (Array.getElem?_eq_some_iff.1 hrow).1
    have c1 : ∀ n os, (grow (w1.drewN n) os).cell? ⟨w.heap.size, 1, none⟩ = some (.slice aN ns.length cN) := fun n os => cell_grown hws (by rw [cell_of_row _ _ _ _ _ _ hrow]; rfl) n os
    have c2 : ∀ n os, (grow (w1.drewN n) os).cell? ⟨w.heap.size, 2, none⟩ = some (.slice aI nI cI) := fun n os => cell_grown hws (by rw [cell_of_row _ _ _ _ _ _ hrow]; rfl) n os
    have c3 : ∀ n os, (grow (w1.drewN n) os).cell? ⟨w.heap.size, 3, none⟩ = some (.slice aB nB cB) := fun n os => cell_grown hws (by rw [cell_of_row _ _ _ _ _ _ hrow]; rfl) n os
    have d1 := fun n os => (shapeIn_grow hc hlt n os).n
    have d2 := fun n os => (shapeIn_grow hc hlt n os).ns
    have d3 := fun n os => (shapeIn_grow hc hlt n os).i
    have d4 := fun n os => (shapeIn_grow hc hlt n os).is
    have d5 := fun n os => (shapeIn_grow hc hlt n os).least
    have d6 := fun n os => (shapeIn_grow hc hlt n os).most
    have hE' : (if (decide ((S.n : Int) ≤ ns.length) && decide ((ns.length : Int) ≤ S.ns)) = true ∧ (decide ((S.i : Int) ≤ nI) && decide ((nI : Int) ≤ S.is)) = true ∧ (decide ((S.least : Int) ≤ nB) && decide ((nB : Int) ≤ S.most)) = true then
        if AllIn ns then (0 : Int) else 5 else 5) = E := by
      rw [← show noteErr kind ns nI nB = E from hE, noteErr, if_pos hk, hS]
    obtain ⟨b1, hB1⟩ : ∃ b1, (decide ((S.n : Int) ≤ ns.length) && decide ((ns.length : Int) ≤ S.ns)) = b1 := ⟨_, rfl⟩
    obtain ⟨b2, hB2⟩ : ∃ b2, (decide ((S.i : Int) ≤ nI) && decide ((nI : Int) ≤ S.is)) = b2 := ⟨_, rfl⟩
    obtain ⟨b3, hB3⟩ : ∃ b3, (decide ((S.least : Int) ≤ nB) && decide ((nB : Int) ≤ S.most)) = b3 := ⟨_, rfl⟩
    rw [hB1, hB2, hB3] at hE'
    replace hB1 := Lib.hid hB1
    replace hB2 := Lib.hid hB2
    replace hB3 := Lib.hid hB3
    replace hE' := Lib.hid hE'
    clear hE hw1 hb1 hrow hc hS ho
    have hnot : ∀ (x : Bool) (w : World), (Op.unary .not (.bool x)).run Try.prog w = .ok (.bool (!x)) w := fun _ _ => rfl
    have hmix : Try.prog.follows .mixedOrders = true := by kernel_rfl
    cases b1 with
    | false =>
      go_wp2_with fail
      refine wp_region_quiet_grown hmix (by kernel_rfl) ?_
      iterate 31 ((with_reducible refine wpQuiet_step (fun K hK => ?_)); go_simp; first | (with_reducible refine hK _ ?_; clear hK K) | (apply Exists.intro; with_reducible refine ⟨fun _ => ?_, hK _ ?_⟩; (go_at_call 75; first | with_reducible exact has_grown _ _ _ _ hB1 _ _ _ | with_reducible exact has_grown _ _ _ _ hB2 _ _ _ | with_reducible exact has_grown _ _ _ _ hB3 _ _ _); clear hK K))
      refine wpQuiet_nil ?_
      intro w' hw'
      obtain ⟨⟨nq, osq⟩, rfl⟩ := hw'
      have h5 : E = 5 := by rw [← show _ = E from hE']; simp
      subst h5
      go_wp2_with fail
      go_ret
      exact ⟨rfl, HB1.out.trans ((below_grow _ _ _).mono HB1.out.size)⟩
    | true =>
    cases b2 with
    | false =>
      go_wp2_with fail
      refine wp_region_quiet_grown hmix (by kernel_rfl) ?_
      iterate 31 ((with_reducible refine wpQuiet_step (fun K hK => ?_)); go_simp; first | (with_reducible refine hK _ ?_; clear hK K) | (apply Exists.intro; with_reducible refine ⟨fun _ => ?_, hK _ ?_⟩; (go_at_call 75; first | with_reducible exact has_grown _ _ _ _ hB1 _ _ _ | with_reducible exact has_grown _ _ _ _ hB2 _ _ _ | with_reducible exact has_grown _ _ _ _ hB3 _ _ _); clear hK K))
      refine wpQuiet_nil ?_
      intro w' hw'
      obtain ⟨⟨nq, osq⟩, rfl⟩ := hw'
      have h5 : E = 5 := by rw [← show _ = E from hE']; simp
      subst h5
      go_wp2_with fail
      go_ret
      exact ⟨rfl, HB1.out.trans ((below_grow _ _ _).mono HB1.out.size)⟩
    | true =>
    cases b3 with
    | false =>
      go_wp2_with fail
      refine wp_region_quiet_grown hmix (by kernel_rfl) ?_
      iterate 31 ((with_reducible refine wpQuiet_step (fun K hK => ?_)); go_simp; first | (with_reducible refine hK _ ?_; clear hK K) | (apply Exists.intro; with_reducible refine ⟨fun _ => ?_, hK _ ?_⟩; (go_at_call 75; first | with_reducible exact has_grown _ _ _ _ hB1 _ _ _ | with_reducible exact has_grown _ _ _ _ hB2 _ _ _ | with_reducible exact has_grown _ _ _ _ hB3 _ _ _); clear hK K))
      refine wpQuiet_nil ?_
      intro w' hw'
      obtain ⟨⟨nq, osq⟩, rfl⟩ := hw'
      have h5 : E = 5 := by rw [← show _ = E from hE']; simp
      subst h5
      go_wp2_with fail
      go_ret
      exact ⟨rfl, HB1.out.trans ((below_grow _ _ _).mono HB1.out.size)⟩
    | true =>
      go_wp2_with fail
      refine wp_region_quiet_grown hmix (by kernel_rfl) ?_
      iterate 31 ((with_reducible refine wpQuiet_step (fun K hK => ?_)); go_simp; first | (with_reducible refine hK _ ?_; clear hK K) | (apply Exists.intro; with_reducible refine ⟨fun _ => ?_, hK _ ?_⟩; (go_at_call 75; first | with_reducible exact has_grown _ _ _ _ hB1 _ _ _ | with_reducible exact has_grown _ _ _ _ hB2 _ _ _ | with_reducible exact has_grown _ _ _ _ hB3 _ _ _); clear hK K))
      refine wpQuiet_nil ?_
      intro w' hw'
      obtain ⟨⟨nq, osq⟩, rfl⟩ := hw'
      have e1 := c1 nq osq
      have hN2 : Hid (IntsAt (grow (w1.drewN nq) osq) aN ns) := hN1.out.grow nq osq
      have HB2 : Hid (Below w.heap.size w (grow (w1.drewN nq) osq)) := HB1.out.trans ((below_grow _ _ _).mono HB1.out.size)
      generalize grow (w1.drewN nq) osq = w2 at *
      clear c1 c2 c3 d1 d2 d3 d4 d5 d6 hN1 HB1 hB1 hB2 hB3
      go_wp2_with fail
      go_loop [45] (fun s => ∃ k : Nat, k ≤ ns.length ∧ s = .int .i64 (k : Int) ∧ Hid (AllIn (ns.take k))) (fun s => (ns.length - intOf s).toNat)
      case atStart => exact ⟨0, by omega, rfl, Lib.hid (fun n hn => by simp at hn)⟩
      case round =>
        obtain ⟨k, hk, rfl, hAll⟩ := hrel
        by_cases hlt : k < ns.length
        · obtain ⟨g, off, rfl, hg, hc⟩ := hN2.out.resolve_left (fun e => by rw [e] at hlt; simp at hlt)
          have hck := hc k hlt
          have hsucc := fun h0 h1 => allIn_succ hlt hAll.out h0 h1
          have hnot2 := fun h => allIn_not hlt h
          generalize ns.getD k 0 = v at *
          have HS := Lib.hid hsucc
          have HNt := Lib.hid hnot2
          clear hc hsucc hnot2
          by_cases h0 : 0 ≤ v
          · by_cases h1 : v ≤ 2147483647
            · clear HNt
              go_wp2_with fail
              go_round
              case rel => exact ⟨k + 1, by omega, by go_num, Lib.hid (HS.out h0 h1)⟩
              case measure => simp [intOf]; omega
            · have h5 : E = 5 := by rw [← show _ = E from hE', if_pos (by simp), if_neg (HNt.out (fun h => h1 h.2))]
              subst h5
              clear HNt HS
              go_wp2_with fail
              go_ret
              exact ⟨rfl, HB2⟩
          · have h5 : E = 5 := by rw [← show _ = E from hE', if_pos (by simp), if_neg (HNt.out (fun h => h0 h.1))]
            subst h5
            clear HNt HS
            go_wp2_with fail
            go_ret
            exact ⟨rfl, HB2⟩
        · obtain rfl : k = ns.length := by omega
          have hA : AllIn ns := by have := hAll.out; rwa [List.take_length] at this
          have h5 : E = 0 := by rw [← show _ = E from hE', if_pos (by simp), if_pos hA]
          subst h5
          clear hA
          go_wp2_with fail
          go_ret
          exact ⟨rfl, HB2⟩
  · rw [if_neg hk] at he
    subst he
    have hn : E = 2 := by rw [← show noteErr kind ns nI nB = E from hE, noteErr, if_neg hk]
    subst hn
    have hb1 : Below w.heap.size w w1 := by
      obtain ⟨p, rfl⟩ := hw1
      exact ((Below.refl _ _).alloc (Nat.le_refl _) _).trans ((below_grow _ _ _).mono (by simp))
    replace hb1 := Lib.hid hb1
    clear hw1 hE hk
    go_wp2_with fail
    go_ret
    exact ⟨rfl, hb1⟩

end Go.Proofs.Ytkfhljggdcajpaa
