/-
  Package satchelref10: Check.
-/
import Derived.Test.YtkfhljggdcajpaaChk
namespace Go.Proofs.Ytkfhljggdcajpaa
open Go.RowKit Go.Sort

theorem within_lit (n lo hi : Int) (b : Bool) (hb : Hid ((decide (lo ≤ n) && decide (n ≤ hi)) = b)) (w : World) : Calls Try.prog 76 #[.int .i64 n, .int .i64 lo, .int .i64 hi] w fun e w' => e = .returned (.bool b) ∧ w = w' :=
  (within_any n lo hi w).mono fun _ _ ⟨h1, h2⟩ => ⟨by rw [h1, hb.out], h2.symm⟩

set_option maxRecDepth 100000 in
set_option maxHeartbeats 4000000 in
theorem check_ref_any (kind : Int) (ns : List Int) (nI nB : Nat) (aN aI aB : Option Addr) (cN cI cB : Nat) (w : World) (hN : IntsAt w aN ns) (hl : ns.length < 2 ^ 40) :
    Calls Try.prog 54 #[.agg #[.int .i64 kind, .slice aN ns.length cN, .slice aI nI cI, .slice aB nB cB]] w fun e w' => e = .returned (.int .i64 (noteErr kind ns nI nB)) ∧ Below w.heap.size w w' := by
  have hnot : ∀ (x : Bool) (w : World), (Op.unary .not (.bool x)).run Try.prog w = .ok (.bool (!x)) w := fun _ _ => rfl
  obtain ⟨E, hE⟩ : ∃ E, noteErr kind ns nI nB = E := ⟨_, rfl⟩
  rw [hE]
  replace hE := Lib.hid hE
  replace hN := Lib.hid hN
  obtain ⟨S, hS⟩ : ∃ S, shapeAt kind = S := ⟨_, rfl⟩
  have hof := of_ref_any kind (w.alloc (.cells #[.int .i64 kind, .slice aN ns.length cN, .slice aI nI cI, .slice aB nB cB] 69))
  rw [hS, shapeOf] at hof
  have Hof := Lib.hid hof
  have HS := Lib.hid hS
  clear hof hS
  go_enter Try.func54, Try.ntmps54
  go_wp2_with fail
  refine Hof.out.mono ?_
  rintro e w1 ⟨rfl, hb1⟩
  have hrow : w1.heap[w.heap.size]? = some (.cells #[.int .i64 kind, .slice aN ns.length cN, .slice aI nI cI, .slice aB nB cB] 69) := by
    rw [hb1.block _ (by simp), heap_top]
  have HB1 : Hid (Below w.heap.size w w1) := ((Below.refl _ _).alloc (Nat.le_refl _) _).trans (hb1.mono (by simp))
  have hN1 : Hid (IntsAt w1 aN ns) := IntsAt.below hN HB1 (Nat.le_refl _)
  have hws : w.heap.size < w1.heap.size := (Array.getElem?_eq_some_iff.1 hrow).1
  have c1 : w1.cell? ⟨w.heap.size, 1, none⟩ = some (.slice aN ns.length cN) := by rw [cell_of_row _ _ _ _ _ _ hrow]; rfl
  have c2 : w1.cell? ⟨w.heap.size, 2, none⟩ = some (.slice aI nI cI) := by rw [cell_of_row _ _ _ _ _ _ hrow]; rfl
  have c3 : w1.cell? ⟨w.heap.size, 3, none⟩ = some (.slice aB nB cB) := by rw [cell_of_row _ _ _ _ _ _ hrow]; rfl
  clear hrow hb1 Hof hN
  have HB2 : Hid (Below w.heap.size w (w1.alloc (.cells #[.string ⟨S.name.toArray⟩, .int .i64 S.n, .int .i64 S.ns, .int .i64 S.i, .int .i64 S.is, .int .i64 S.least, .int .i64 S.most] 83))) := HB1.out.alloc HB1.out.size _
  by_cases hk : 1 ≤ kind ∧ kind ≤ 24
  · rw [show (decide (1 ≤ kind) && decide (kind ≤ 24)) = true by simp [hk.1, hk.2]]
    have hE' : (if (decide ((S.n : Int) ≤ ns.length) && decide ((ns.length : Int) ≤ S.ns)) = true ∧ (decide ((S.i : Int) ≤ nI) && decide ((nI : Int) ≤ S.is)) = true ∧ (decide ((S.least : Int) ≤ nB) && decide ((nB : Int) ≤ S.most)) = true then
        if AllIn ns then (0 : Int) else 5 else 5) = E := by
      rw [← show noteErr kind ns nI nB = E from hE, noteErr, if_pos hk, HS.out]
    obtain ⟨b1, hB1⟩ : ∃ b1, (decide ((S.n : Int) ≤ ns.length) && decide ((ns.length : Int) ≤ S.ns)) = b1 := ⟨_, rfl⟩
    obtain ⟨b2, hB2⟩ : ∃ b2, (decide ((S.i : Int) ≤ nI) && decide ((nI : Int) ≤ S.is)) = b2 := ⟨_, rfl⟩
    obtain ⟨b3, hB3⟩ : ∃ b3, (decide ((S.least : Int) ≤ nB) && decide ((nB : Int) ≤ S.most)) = b3 := ⟨_, rfl⟩
    rw [hB1, hB2, hB3] at hE'
    replace hB1 := Lib.hid hB1
    replace hB2 := Lib.hid hB2
    replace hB3 := Lib.hid hB3
    replace hE' := Lib.hid hE'
    clear hk
    cases b1 with
    | false =>
      have h5 : E = 5 := by rw [← show _ = E from hE']; simp
      subst h5
      go_wp2_with fail
      refine (within_lit _ _ _ _ hB1 _).mono ?_
      rintro e w' ⟨rfl, rfl⟩
      go_wp2_with fail
      go_ret
      exact ⟨rfl, HB2⟩
    | true =>
    cases b2 with
    | false =>
      have h5 : E = 5 := by rw [← show _ = E from hE']; simp
      subst h5
      go_wp2_with fail
      refine (within_lit _ _ _ _ hB1 _).mono ?_
      rintro e w' ⟨rfl, rfl⟩
      go_wp2_with fail
      refine (within_lit _ _ _ _ hB2 _).mono ?_
      rintro e w' ⟨rfl, rfl⟩
      go_wp2_with fail
      go_ret
      exact ⟨rfl, HB2⟩
    | true =>
    cases b3 with
    | false =>
      have h5 : E = 5 := by rw [← show _ = E from hE']; simp
      subst h5
      go_wp2_with fail
      refine (within_lit _ _ _ _ hB1 _).mono ?_
      rintro e w' ⟨rfl, rfl⟩
      go_wp2_with fail
      refine (within_lit _ _ _ _ hB2 _).mono ?_
      rintro e w' ⟨rfl, rfl⟩
      go_wp2_with fail
      refine (within_lit _ _ _ _ hB3 _).mono ?_
      rintro e w' ⟨rfl, rfl⟩
      go_wp2_with fail
      go_ret
      exact ⟨rfl, HB2⟩
    | true =>
      go_wp2_with fail
      refine (within_lit _ _ _ _ hB1 _).mono ?_
      rintro e w' ⟨rfl, rfl⟩
      go_wp2_with fail
      refine (within_lit _ _ _ _ hB2 _).mono ?_
      rintro e w' ⟨rfl, rfl⟩
      go_wp2_with fail
      refine (within_lit _ _ _ _ hB3 _).mono ?_
      rintro e w' ⟨rfl, rfl⟩
      have hN2 : Hid (IntsAt (w1.alloc (.cells #[.string ⟨S.name.toArray⟩, .int .i64 S.n, .int .i64 S.ns, .int .i64 S.i, .int .i64 S.is, .int .i64 S.least, .int .i64 S.most] 83)) aN ns) := hN1.out.below ((Below.refl _ _).alloc (Nat.le_refl _) _) (Nat.le_refl _)
      have c1' : (w1.alloc (.cells #[.string ⟨S.name.toArray⟩, .int .i64 S.n, .int .i64 S.ns, .int .i64 S.i, .int .i64 S.is, .int .i64 S.least, .int .i64 S.most] 83)).cell? ⟨w.heap.size, 1, none⟩ = some (.slice aN ns.length cN) := by
        rw [World.cell?_of_block (Below.heap_alloc _ _ _ hws)]; exact c1
      generalize w1.alloc (.cells #[.string ⟨S.name.toArray⟩, .int .i64 S.n, .int .i64 S.ns, .int .i64 S.i, .int .i64 S.is, .int .i64 S.least, .int .i64 S.most] 83) = w2 at *
      clear c1 c2 c3 hN1 HB1 hB1 hB2 hB3
      go_wp2_with fail
      go_loop [5] (fun s => ∃ k : Nat, k ≤ ns.length ∧ s = .int .i64 (k : Int) ∧ Hid (AllIn (ns.take k))) (fun s => (ns.length - intOf s).toNat)
      case atStart => exact ⟨0, by omega, rfl, Lib.hid (fun n hn => by simp at hn)⟩
      case round =>
        obtain ⟨k, hk, rfl, hAll⟩ := hrel
        by_cases hlt : k < ns.length
        · obtain ⟨g, off, rfl, hg, hc⟩ := hN2.out.resolve_left (fun e => by rw [e] at hlt; simp at hlt)
          have hck := hc k hlt
          have hsucc := fun h0 h1 => allIn_succ hlt hAll.out h0 h1
          have hnot2 := fun h => allIn_not hlt h
          generalize ns.getD k 0 = v at *
          have HS := Lib.hid hsucc
          have HNt := Lib.hid hnot2
          clear hc hsucc hnot2
          obtain ⟨bv, hbv⟩ : ∃ bv, (decide (0 ≤ v) && decide (v ≤ 2147483647)) = bv := ⟨_, rfl⟩
          cases bv with
          | true =>
            have h01 : 0 ≤ v ∧ v ≤ 2147483647 := by simpa using hbv
            have Hbv := Lib.hid hbv
            clear HNt hbv
            go_wp2_with fail
            refine (within_lit _ _ _ _ Hbv _).mono ?_
            rintro e w' ⟨rfl, rfl⟩
            go_wp2_with fail
            go_round
            case rel => exact ⟨k + 1, by omega, by go_num, Lib.hid (HS.out h01.1 h01.2)⟩
            case measure => simp [intOf]; omega
          | false =>
            have h01 : ¬ (0 ≤ v ∧ v ≤ 2147483647) := by simpa using hbv
            have Hbv := Lib.hid hbv
            have h5 : E = 5 := by rw [← show _ = E from hE', if_pos (by simp), if_neg (HNt.out h01)]
            subst h5
            clear HNt HS hbv h01
            go_wp2_with fail
            refine (within_lit _ _ _ _ Hbv _).mono ?_
            rintro e w' ⟨rfl, rfl⟩
            go_wp2_with fail
            go_ret
            exact ⟨rfl, HB2⟩
        · obtain rfl : k = ns.length := by omega
          have hA : AllIn ns := by have := hAll.out; rwa [List.take_length] at this
          have h5 : E = 0 := by rw [← show _ = E from hE', if_pos (by simp), if_pos hA]
          subst h5
          clear hA
          go_wp2_with fail
          go_ret
          exact ⟨rfl, HB2⟩
  · rw [show (decide (1 ≤ kind) && decide (kind ≤ 24)) = false by rw [Bool.eq_false_iff]; simpa using hk]
    have hn : E = 2 := by rw [← show noteErr kind ns nI nB = E from hE, noteErr, if_neg hk]
    subst hn
    clear hk hE
    go_wp2_with fail
    go_ret
    exact ⟨rfl, HB2⟩

end Go.Proofs.Ytkfhljggdcajpaa
