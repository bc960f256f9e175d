/-
  Package note: Read.
-/
import Derived.Test.YtkfhljggdcajpaaNrd
import Derived.BigQuiet
import Derived.WalkMore
import Derived.Deep.RegionLaw
namespace Go.Proofs.Ytkfhljggdcajpaa
open Go.RowKit Go.Sort

/-- what Read leaves -/
def ReadEnd (w : World) (xs : List Int) (e : Ending) (w' : World) : Prop :=
  Below w.heap.size w w' ∧ match rdNote xs with
    | .ok x => ∃ aN cN aI cI aB cB, e = .returned (.tuple #[x.val aN cN aI cI aB cB, .agg #[.int .i64 0, .int .i64 0]]) ∧ NoteIn w' x aN aI aB ∧
        (∀ k, blk aN = some k → w.heap.size ≤ k) ∧ (∀ k, blk aI = some k → w.heap.size ≤ k) ∧ (∀ k, blk aB = some k → w.heap.size ≤ k)
    | .error (er, fa) => e = .returned (.tuple #[.agg zeroNote, .agg #[.int .i64 er, .int .i64 fa]])

theorem Try.info3 : (Try.prog.info? 3).map (fun i => (i.zero, i.size, i.bytes)) = some (some (.int .i64 0), 1, 8) := by kernel_rfl
theorem Try.info37 : (Try.prog.info? 37).map (fun i => (i.zero, i.size, i.bytes)) = some (some (.agg (bvals z16).toArray), 16, 16) := by kernel_rfl
theorem shape_small (k : Int) : (shapeAt k).ns ≤ 128 ∧ (shapeAt k).is ≤ 16 ∧ (shapeAt k).most ≤ 1024 := by
  have hall : ∀ s ∈ shapeList, s.ns ≤ 128 ∧ s.is ≤ 16 ∧ s.most ≤ 1024 := by
    unfold shapeList
    simp
  unfold shapeAt
  split
  · rename_i h
    have hl : shapeList.length = 25 := rfl
    have hk : k.toNat < shapeList.length := by omega
    have e : shapeList.getD k.toNat ⟨[], 0, 0, 0, 0, 0, 0⟩ = shapeList[k.toNat] := by simp [List.getD, hk]
    rw [e]; exact hall _ (List.getElem_mem hk)
  · decide
theorem news_one (w : World) (v : Int) (ty : TypeId) : ∀ j u, [Value.int .i64 v][j]? = some u → (w.alloc (.cells #[.int .i64 v] ty)).cell? ((⟨w.heap.size, 0, none⟩ : Addr).add j) = some u := fun j u hu => by
  cases j with
  | zero => rw [Addr.add_mid, cell_of_row _ _ _ _ _ _ (heap_alloc_new w _)]; exact hu
  | succ j => cases hu
theorem news_id (w : World) (x : List Int) (ty : TypeId) : ∀ j u, (bvals x)[j]? = some u → (w.alloc (.cells (bvals x).toArray ty)).cell? ((⟨w.heap.size, 0, none⟩ : Addr).add j) = some u := fun j u hu => by
  rw [Addr.add_mid, cell_of_row _ _ _ _ _ _ (heap_alloc_new w _), Nat.zero_add]
  simpa using hu
theorem RN.noteIn {w0 w : World} {b p5 sb so p7 m : Nat} {a : Option Addr} {cap : Nat} {xs : List Int} {S : Shape} {k : Int} {pos : Nat} {er fa f1 f2 : Int}
    {aN : Option Addr} {cN : Nat} {ns : List Int} {aI : Option Addr} {cI : Nat} {ids : List (List Int)} {aB : Option Addr} {cB : Nat} {bs : List Int}
    (h : RN w0 w b p5 sb so p7 m a cap xs S k pos er fa f1 f2 aN cN ns aI cI ids aB cB bs) (hw : PartsWf ns ids bs) {W : World} (_hs : w.heap.size ≤ W.heap.size) (hk : ∀ p, m ≤ p → W.heap[p]? = w.heap[p]?) : NoteIn W ⟨k, ns, ids, bs⟩ aN aI aB :=
  ⟨OwnN.ints (ownsRow_of_block h.oN fun p hp _ => hk p (h.gN p hp)), OwnD.idsAt (ownsRow_of_block h.oI fun p hp _ => hk p (h.gI p hp)) hw.2.1, .inr (h.oB.of_block fun p hp _ => hk p (h.gB p hp)).bytes, hw.2.1, hw.2.2.2.1, hw.1, hw.2.2.1, hw.2.2.2.2⟩

theorem fault_grown (w : World) (b : Nat) (a : Option Addr) (cap : Nat) (xs : List Int) (at0 : Nat) (err fat : Int) (h : RAt w b a cap xs at0 err fat) (n : Nat) (os : Array Obj) :
    Calls Try.prog 39 #[.pointer (some ⟨b, 0, none⟩)] (grow (w.drewN n) os) fun e w'' => e = .returned (.agg #[.int .i64 err, .int .i64 fat]) ∧ ∃ p : GrownBy, w'' = grow (w.drewN p.n) p.os := by
  refine Calls.grown_of ?_
  have h' := h.below (below_grow w n os)
  generalize grow (w.drewN n) os = W at *
  have hnot : ∀ (x : Bool) (w : World), (Op.unary .not (.bool x)).run Try.prog w = .ok (.bool (!x)) w := fun _ _ => rfl
  obtain ⟨c0, c1, c2, c3, c4⟩ := h'.cells
  have hlt := h'.lt
  clear h h'
  go_enter Try.func39, Try.ntmps39
  go_wp2
  refine bodyPost_ret (v := .agg #[.int .i64 err, .int .i64 fat]) (by simp [results, Try.results39, go_sem]) rfl ⟨rfl, 0, _, by rw [alloc_eq_grow]; rfl⟩

theorem fold16 (x : List Int) (h : x.length = 16) : List.foldl (fun (cs : Array Value) (y : Value × Nat) => cs.setIfInBounds y.snd y.fst) #[.int .u8 0, .int .u8 0, .int .u8 0, .int .u8 0, .int .u8 0, .int .u8 0, .int .u8 0, .int .u8 0, .int .u8 0, .int .u8 0, .int .u8 0, .int .u8 0, .int .u8 0, .int .u8 0, .int .u8 0, .int .u8 0] (bvals x).zipIdx = (bvals x).toArray := by
  obtain ⟨a, b, c, d, e, f, g, i, j, k, l, m, n, o, p, q, rfl⟩ := list16 h
  kernel_rfl
theorem row_drew {w : World} {p : Nat} {o : Obj} (h : w.heap[p]? = some o) : w.drew.heap[p]? = some o := h
theorem below_drew {B : Nat} {w w' : World} (h : Below B w w') : Below B w w'.drew := ⟨h.os, h.tape, h.output, h.size, h.block⟩
theorem one_one (v : Int) : ∀ u ∈ [Value.int .i64 v], u.oneCell' = true := fun u hu => by
  rw [List.mem_singleton] at hu; rw [hu]; rfl
theorem note_size : (Try.prog.info? 69).map (·.size) = some 4 := by kernel_rfl

theorem row_far4 {w : World} {p q : Nat} {o : Obj} (h : w.heap[p]? = some o) (hq : p ≠ q) (a b c d : Value) : ((((w.setCell ⟨q, 0, none⟩ a).setCell ⟨q, 1, none⟩ b).setCell ⟨q, 2, none⟩ c).setCell ⟨q, 3, none⟩ d).heap[p]? = some o := by
  rw [heap_setCell_other _ _ _ _ hq, heap_setCell_other _ _ _ _ hq, heap_setCell_other _ _ _ _ hq, heap_setCell_other _ _ _ _ hq]; exact h
theorem row_set4 {w : World} {p t : Nat} {x y z u : Value} (h : w.heap[p]? = some (.cells #[x, y, z, u] t (0, 0))) (a b c d : Value) : ((((w.setCell ⟨p, 0, none⟩ a).setCell ⟨p, 1, none⟩ b).setCell ⟨p, 2, none⟩ c).setCell ⟨p, 3, none⟩ d).heap[p]? = some (.cells #[a, b, c, d] t (0, 0)) := by
  rw [heap_setCell_same _ _ _ _ _ _ (heap_setCell_same _ _ _ _ _ _ (heap_setCell_same _ _ _ _ _ _ (heap_setCell_same _ _ _ _ _ _ h)))]; rfl

set_option maxRecDepth 1000000 in
set_option maxHeartbeats 2000000 in
theorem read_any (w : World) (a0 : Option Addr) (cap0 : Nat) (xs : List Int) (h : Src w a0 xs) (hx : Bys xs) (hlen : xs.length ≤ 2 ^ 38) :
    Calls Try.prog 57 #[.slice a0 xs.length cap0] w fun e w' => ReadEnd w xs e w' := by
  have hB0 : Below w.heap.size w ((w.alloc (.cells zeroNote 69)).alloc (.cells #[.int .i64 0, .int .i64 0] 51)) := ((Below.refl _ _).alloc (Nat.le_refl _) _).alloc (by simp) _
  have hop := open_any ((w.alloc (.cells zeroNote 69)).alloc (.cells #[.int .i64 0, .int .i64 0] 51)) a0 cap0 xs (h.imp id (fun k => k.below hB0)) hx (by omega)
  have Hop := Lib.hid hop
  have HB0 := Lib.hid hB0
  have Hx := Lib.hid hx
  unfold zeroNote at Hop HB0
  clear hop h hB0 hx
  go_enter Try.func57, Try.ntmps57
  go_wp2_with fail
  go_step3
  go_wp2_with fail
  refine Hop.out.mono ?_
  rintro e w1 ⟨b, a1, cap1, rfl, hR, hb, hB, hfar⟩
  have HR := Lib.hid hR
  have hr2 : w1.heap[w.heap.size]? = some (.cells zeroNote 69 (0, 0)) := (hB.block _ (by simp; omega)).trans (heap_alloc2_old w _ _)
  have hr3 : w1.heap[w.heap.size + 1]? = some (.cells #[.int .i64 0, .int .i64 0] 51 (0, 0)) := (hB.block _ (by simp)).trans (heap_alloc2_new w _ _)
  have HB1 := Lib.hid (HB0.out.trans (hB.mono (by simp; omega)))
  have HR2 := Lib.hid hr2
  have HR3 := Lib.hid hr3
  simp only [World.size_alloc] at hb hfar
  have Hfar := Lib.hid hfar
  have hblt := hR.lt
  clear hR hB hfar hr2 hr3 Hop HB0
  go_wp2_with fail
  cases hk : bnd xs 0 1 24 5 with
  | error f =>
    obtain ⟨er, fa⟩ := f
    have hrd : rdNote xs = .error (er, fa) := by unfold rdNote; rw [hk]
    refine (rint_all _ _ _ _ _ _ _ _ _ _ 0 0 er fa HR.out (fun _ => rfl) (by unfold stepInt intEnd; rw [if_pos rfl, hk])).mono ?_
    rintro e w2 ⟨rfl, hR2, hM2⟩
    have hM : Moved b none none w1 w2 := hM2
    have hq2 := (hM.block _ (lt_of_row HR2.out) (by omega) (by simp)).trans HR2.out
    have hq3 := (hM.block _ (lt_of_row HR3.out) (by omega) (by simp)).trans HR3.out
    have hq2l := lt_of_row hq2
    have hq3l := lt_of_row hq3
    have HQ2 := Lib.hid hq2
    have HQ3 := Lib.hid hq3
    have HB2 := Lib.hid (HB1.out.trans (hM.below' HB1.out.size (by omega)))
    have hs2 := HB2.out.size
    have HR2b := Lib.hid hR2
    have hlt2 := hR2.lt
    clear hM hM2 hq2 hq3 hR2
    go_wp2_with fail
    go_at_call 74
    refine (shaped_any _ _).mono ?_
    rintro e w3 ⟨he, p, hp⟩
    rw [if_neg (by decide)] at he
    subst he
    have hB3 : Below w2.heap.size w2 w3 := by
      rw [hp]; exact (((Below.refl _ _).alloc (Nat.le_refl _) _).trans ((below_grow _ _ _).mono (by simp)))
    have HB3 := Lib.hid hB3
    have HR3b := Lib.hid (HR2b.out.below hB3)
    have hs3 := hB3.size
    have HS2 := Lib.hid ((hB3.block _ hq2l).trans HQ2.out)
    have HS3 := Lib.hid ((hB3.block _ hq3l).trans HQ3.out)
    clear hp hB3
    go_wp2_with fail
    refine (fault_any _ _ _ _ _ _ _ _ HR3b.out).mono ?_
    rintro e w4 ⟨rfl, hB4⟩
    have HB4 := Lib.hid hB4
    have HT2 := Lib.hid ((hB4.block _ (lt_of_row HS2.out)).trans HS2.out)
    have HT3 := Lib.hid ((hB4.block _ (lt_of_row HS3.out)).trans HS3.out)
    have hs4 := hB4.size
    have hz0 : w4.cell? ⟨w.heap.size, 0, none⟩ = some (.int .i64 0) := by rw [cell_of_row _ _ _ _ _ _ HT2.out]; rfl
    have hz1 : w4.cell? ⟨w.heap.size, 1, none⟩ = some (.slice none 0 0) := by rw [cell_of_row _ _ _ _ _ _ HT2.out]; rfl
    have hz2 : w4.cell? ⟨w.heap.size, 2, none⟩ = some (.slice none 0 0) := by rw [cell_of_row _ _ _ _ _ _ HT2.out]; rfl
    have hz3 : w4.cell? ⟨w.heap.size, 3, none⟩ = some (.slice none 0 0) := by rw [cell_of_row _ _ _ _ _ _ HT2.out]; rfl
    have hy0 : w4.cell? ⟨w.heap.size + 1, 0, none⟩ = some (.int .i64 0) := by rw [cell_of_row _ _ _ _ _ _ HT3.out]; rfl
    have hy1 : w4.cell? ⟨w.heap.size + 1, 1, none⟩ = some (.int .i64 0) := by rw [cell_of_row _ _ _ _ _ _ HT3.out]; rfl
    have hf2 : ∀ i, w4.frozen? ⟨w.heap.size, i, none⟩ = false := fun i => frozen_of_row _ _ _ _ _ HT2.out
    have hf3 : ∀ i, w4.frozen? ⟨w.heap.size + 1, i, none⟩ = false := fun i => frozen_of_row _ _ _ _ _ HT3.out
    clear hB4
    go_wp2_with fail
    rw [Exit.noGoto_ret]
    refine bodyPost_ret (v := .tuple #[.agg zeroNote, .agg #[.int .i64 er, .int .i64 fa]]) (results_cell2 rfl _ _ w.heap.size (w.heap.size + 1) 69 51 _ _ (0, 0) (0, 0) _ _ rfl (row_far2 (row_set4 HT2.out _ _ _ _) (by omega) _ _) Try.underlying69 rfl note_size rfl (row_set2 (row_far4 HT3.out (by omega) _ _ _ _) _ _) Try.underlying51 rfl fault_size) rfl ⟨?_, by rw [hrd]⟩
    have hbb := HB2.out.trans ((HB3.out.trans (HB4.out.mono hs3)).mono hs2)
    exact (((((hbb.setCell (p := ⟨w.heap.size, 0, none⟩) (Nat.le_refl _) _).setCell (p := ⟨w.heap.size, 1, none⟩) (Nat.le_refl _) _).setCell (p := ⟨w.heap.size, 2, none⟩) (Nat.le_refl _) _).setCell (p := ⟨w.heap.size, 3, none⟩) (Nat.le_refl _) _).setCell (p := ⟨w.heap.size + 1, 0, none⟩) (Nat.le_succ _) _).setCell (p := ⟨w.heap.size + 1, 1, none⟩) (Nat.le_succ _) _
  | ok q =>
    obtain ⟨k, p0⟩ := q
    have hrd := rdNote_rest hk
    have hkr := bnd_in hk
    refine (rint_all _ _ _ _ _ _ _ _ _ _ k p0 0 0 HR.out (fun _ => rfl) (by unfold stepInt intEnd; rw [if_pos rfl, hk])).mono ?_
    rintro e w2 ⟨rfl, hR2, hM⟩
    have hq2 := (hM.block _ (lt_of_row HR2.out) (by omega) (by simp)).trans HR2.out
    have hq3 := (hM.block _ (lt_of_row HR3.out) (by omega) (by simp)).trans HR3.out
    have hq2l := lt_of_row hq2
    have hq3l := lt_of_row hq3
    have HQ2 := Lib.hid hq2
    have HQ3 := Lib.hid hq3
    have HB2 := Lib.hid (HB1.out.trans (hM.below' HB1.out.size (by omega)))
    have hs2 := HB2.out.size
    have HR2b := Lib.hid hR2
    have hlt2 := hR2.lt
    have hblk2 := hR2.blk_lt
    have Hblk2 := Lib.hid hblk2
    have HRD := Lib.hid hrd
    clear hM hq2 hq3 hR2 hblk2 hrd hk HR HB1 HR2 HR3
    go_wp2_with fail
    go_at_call 74
    refine (shaped_any _ _).mono ?_
    rintro e w3 ⟨he, hp⟩
    rw [if_pos hkr] at he
    obtain ⟨sb, rfl, hsb, hsh, hsblt⟩ := he
    have hB3 : Below (w2.alloc (.cells #[.int .i64 k, .slice none 0 0, .slice none 0 0, .slice none 0 0] 69)).heap.size (w2.alloc (.cells #[.int .i64 k, .slice none 0 0, .slice none 0 0, .slice none 0 0] 69)) w3 := by
      obtain ⟨p, rfl⟩ := hp
      exact below_grow _ _ _
    rw [World.size_alloc] at hsb
    have hFix : RFix w b w2.heap.size sb w3.heap.size (w3.heap.size + 1) a1 := by
      refine ⟨by omega, hlt2, by omega, hsblt, by omega, fun j hj => ?_⟩
      have := Hfar.out j hj
      have := Hblk2.out j hj
      omega
    have hB3' : Below w2.heap.size w2 w3 := ((Below.refl _ _).alloc (Nat.le_refl _) _).trans (hB3.mono (by simp))
    have hRN : RN w (w3.alloc (.cells #[.int .i64 0, .int .i64 0] 51)) b w2.heap.size sb (k.toNat * 7) w3.heap.size (w3.heap.size + 1) a1 cap1 xs (shapeAt k) k p0 0 0 0 0 none 0 [] none 0 [] none 0 [] := by
      refine ⟨(HR2b.out.below hB3').alloc _, (HB2.out.trans (hB3'.mono hs2)).alloc (by have := hB3'.size; omega) _, by simp, row_alloc ((hB3'.block _ hq2l).trans HQ2.out) _, row_alloc ((hB3'.block _ hq3l).trans HQ3.out) _,
        row_alloc ((hB3.block _ (by simp)).trans (heap_alloc_new w2 _)) _, heap_alloc_new w3 _, hsh.of_block (Below.heap_alloc _ _ _ hsblt), World.ownsRow_nil _ _ _ _, World.ownsRow_nil _ _ _ _, Owns.nil _, ?_, ?_, ?_, ?_, ?_, ?_⟩
      all_goals intro j hj; cases hj
    have HRN := Lib.hid hRN
    have HFix := Lib.hid hFix
    clear hp hB3 hB3' hRN hFix hsh HQ2 HQ3 HB2 HR2b Hblk2
    go_wp2_with fail
    generalize w3.alloc (.cells #[.int .i64 0, .int .i64 0] 51) = w4 at *
    generalize hm0 : w3.heap.size + 1 = m at *
    generalize w3.heap.size = p7 at *
    generalize w2.heap.size = p5 at *
    generalize k.toNat * 7 = so at *
    clear hm0
    go_step3
    go_wp2_with fail
    go_loopg [26] 3 (fun kx s wr => ∃ (j pos : Nat) (aN : Option Addr) (cN : Nat) (ns : List Int) (aI : Option Addr) (cI : Nat) (ids : List (List Int)) (aB : Option Addr) (cB : Nat) (bs : List Int), j ≤ kx ∧ Hid (AtPart xs k s j pos ns ids bs) ∧
      Hid (RN w wr b p5 sb so p7 m a1 cap1 xs (shapeAt k) k pos 0 0 0 0 aN cN ns aI cI ids aB cB bs))
    case atStart => exact ⟨3, p0, none, 0, [], none, 0, [], none, 0, [], by omega, Lib.hid ⟨⟨by decide, (fun x hx => by cases hx), by decide, Bys.nil, by decide⟩, .inl ⟨rfl, rfl, HRD.out, rfl, rfl, rfl⟩⟩, HRN⟩
    case round =>
      clear HRN
      obtain ⟨j, pos, aN, cN, ns, aI, cI, ids, aB, cB, bs, hj, ⟨HW, HP⟩, HN⟩ := hrel
      have HW := Lib.hid HW
      rcases HP with ⟨rfl, rfl, HQ, rfl, rfl, rfl⟩ | ⟨rfl, rfl, HQ, rfl, rfl⟩ | ⟨rfl, rfl, HQ, rfl⟩ | ⟨rfl, rfl, HQ⟩
      · have HQ' := Lib.hid HQ
        have hsbl : sb < wr.heap.size := by have := HN.out.size; have := HFix.out.p7_; have := HFix.out.m_; omega
        have d1 := HN.out.shp.n
        have d2 := HN.out.shp.ns
        have hsm := shape_small k
        have hp5m : p5 < m := by have := HFix.out.sb_; have := HFix.out.p7_; have := HFix.out.m_; omega
        generalize hS : shapeAt k = S at *
        clear HQ
        have HNa := Lib.hid (HN.out.below HFix.out ((Below.refl _ _).alloc (Nat.le_refl _) (.cells #[.int .i64 0, .int .i64 0] 51)))
        have HFa := Lib.hid (Few.new HN.out 0 0)
        go_wp2_with fail
        refine (count_all _ _ _ _ _ _ _ _ HNa.out.rat).mono ?_
        rintro e w2 ⟨n, pos2, er, fa, f1, f2, ⟨rfl, hR2, hM2⟩, hz, hn, hf⟩
        have HN2 := Lib.hid (HNa.out.read HFix.out hR2 hM2)
        have HF2 := Lib.hid (HFa.out.read HFix.out hM2)
        generalize wr.heap.size = p10 at *
        clear HN HNa HFa hM2 hR2 hsbl d1 d2
        obtain ⟨e0, e1, ef⟩ := HF2.out.cells
        have hp10 := lt_of_row HF2.out.row
        rcases hf with ⟨rfl, rfl, hf⟩ | ⟨rfl, rfl, rfl, hf⟩
        · have HG := Lib.hid (nGo_start HQ'.out hz (by rw [hS]; exact hf))
          clear hf hz
          go_wp2_with fail
          have HN3 := Lib.hid (HN2.out.set10 HFix.out HF2.out (.int .i64 0) (.int .i64 0))
          have HF3 := Lib.hid (HF2.out.own 0 0)
          generalize (w2.setCell ⟨p10, 0, none⟩ (.int .i64 0)).setCell ⟨p10, 1, none⟩ (.int .i64 0) = w3 at *
          clear HN2 HF2 e0 e1 ef hp10
          go_loopg [73] n (fun ky s wi => ∃ (kk pos : Nat) (er fa : Int) (aN : Option Addr) (cN : Nat) (ns : List Int), s = .int .i64 (kk : Int) ∧ kk ≤ n ∧ n - kk ≤ ky ∧ Hid (NGo xs k n kk pos er fa ns) ∧
            Hid (RN w wi b p5 sb so p7 m a1 cap1 xs S k pos er fa 0 0 aN cN ns aI cI [] aB cB []) ∧ Hid (Few wi p10 m 0 0 aN aI aB))
          case atStart => exact ⟨0, pos2, er, fa, aN, cN, [], rfl, by omega, by omega, HG, HN3, HF3⟩
          case round =>
            clear HG HN3 HF3 HW
            obtain ⟨kk, pos3, er3, fa3, aN3, cN3, ns3, rfl, hkk, hky, HG, HN, HF⟩ := hrel
            by_cases hlt : kk < n
            · obtain ⟨v, p', er', fa', hst⟩ : ∃ v p' er' fa', stepInt xs pos3 er3 fa3 0 2147483647 = (v, p', er', fa') := ⟨_, _, _, _, rfl⟩
              have HG' := Lib.hid (nGo_step HG.out hlt hst)
              have Hst := Lib.hid hst
              have hltz : (kk : Int) < (n : Int) := by omega
              obtain ⟨c0, c1, c2, c3, c4, c5⟩ := HN.out.cells
              have HRd := Lib.hid (HN.out.rat.drewN 1)
              have hp5l := lt_of_row HN.out.r5
              clear hst
              go_wp2_with fail
              obtain ⟨i3, hi3, hz3, hs3, hb3⟩ := info_parts Try.info3
              go_region_law
                (first | (go_simp; go_at_call 38; refine (rint_all _ _ _ _ _ _ _ _ _ _ v p' er' fa' HRd.out HG.out.2.1 Hst.out).mono ?_; rintro e w6 ⟨rfl, hR6, hM6⟩; have HN6 := Lib.hid (HN.out.read HFix.out hR6 (((Moved.refl _ _ _).drewN 1).trans hM6)); have HF6 := Lib.hid (HF.out.read HFix.out (((Moved.refl _ _ _).drewN 1).trans hM6)); have c16 := HN6.out.cells.2.1; have hp5l6 := lt_of_row HN6.out.r5; clear hR6 hM6; dsimp only)
                       | (refine step_append_any _ rfl (.tmp 76) (.tmp 79) 66 rfl 0 3 i3 (.int .i64 0) 1 8 Try.underlying66 hi3 hz3 hs3 hb3 rfl (by decide) (.slice aN3 ns3.length cN3) ns3.length (ivals ns3) rfl (HN6.out.oN.alloc _) ⟨w6.heap.size, 0, none⟩ 1 1 [.int .i64 v] rfl rfl (news_one _ _ _) (one_one _) (by unfold maxLen; have := HG.out.1; omega) (by have := HG.out.1; omega) (Nat.zero_le _) ?_; intro a7 cap7 w7 own7 grow7 at7; rw [ownBlock_eq] at grow7 at7; have HN7 := Lib.hid ((HN6.out.below HFix.out ((Below.refl _ _).alloc (Nat.le_refl _) _)).pushN HFix.out v grow7 own7 at7); have HF7 := Lib.hid (((HF6.out.keep (Below.heap_alloc _ _ _ (lt_of_row HF6.out.row))).pushN grow7 at7).set p5 1 (.slice a7 (ns3.length + 1) cap7) (by omega)); have hr57 := (grow7.block p5 (by simp; omega) (fun e => by have := HN6.out.gN p5 e.symm; omega)).trans (row_alloc HN6.out.r5 _); have c17 : w7.cell? ⟨p5, 1, none⟩ = some (.slice aN3 ns3.length cN3) := (by rw [cell_of_row _ _ _ _ _ _ hr57]; rfl); have f17 : w7.frozen? ⟨p5, 1, none⟩ = false := frozen_of_row _ _ _ _ _ hr57; clear hr57 grow7 own7 at7))
              all_goals go_wp2_with fail
              all_goals go_roundg (n - (kk + 1))
              all_goals first | exact ⟨kk + 1, p', er', fa', a7, cap7, ns3 ++ [v], by go_num, by omega, by omega, HG', HN7, HF7⟩ | omega
            · obtain rfl : kk = n := by omega
              go_wp2_with fail
              refine (fault_any _ _ _ _ _ _ _ _ HN.out.rat).mono ?_
              rintro e w8 ⟨rfl, hB8⟩
              have HN8 := Lib.hid (HN.out.below HFix.out hB8)
              have HF8 := Lib.hid (HF.out.keep (hB8.block _ (lt_of_row HF.out.row)))
              clear hB8 HN HF
              obtain ⟨e0, e1, ef⟩ := HF8.out.cells
              have hp10 := lt_of_row HF8.out.row
              have hp10m := HF8.out.ge
              by_cases he3 : er3 = 0
              · subst he3
                obtain rfl : fa3 = 0 := HG.out.2.1 rfl
                obtain ⟨q5, q7, q2, q3⟩ := HN8.out.free
                obtain ⟨b0, b1, b2, b3, b4, b5⟩ := HN8.out.cells
                have l7 := lt_of_row HN8.out.r7
                have hp7m := HFix.out.m_
                have HQn : Hid (rdNote xs = rest1 xs k ns3 pos3) := by
                  have := (HG.out.2.2.resolve_right (fun h => h.1 rfl)).2
                  rw [Nat.sub_self] at this
                  exact this
                go_wp2_with fail
                go_roundg 2
                case measure => omega
                case rel => exact ⟨2, pos3, aN3, cN3, ns3, aI, cI, [], aB, cB, [], by omega, Lib.hid ⟨⟨by have := HG.out.1; omega, (fun x hx => by cases hx), by decide, Bys.nil, by decide⟩, .inr (.inl ⟨rfl, rfl, HQn.out, rfl, rfl⟩)⟩, Lib.hid ((HN8.out.set7 HFix.out 0 0).set7 HFix.out 0 0)⟩
              · have HErr := Lib.hid ((HG.out.2.2.resolve_left (fun h => he3 h.1)).2)
                obtain ⟨q5, q7, q2, q3⟩ := HN8.out.free
                obtain ⟨b0, b1, b2, b3, b4, b5⟩ := HN8.out.cells
                have l7 := lt_of_row HN8.out.r7
                go_wp2_with fail
                have HNz := (HN8.out.set7 HFix.out er3 fa3)
                generalize (w8.setCell ⟨p7, 0, none⟩ (.int .i64 er3)).setCell ⟨p7, 1, none⟩ (.int .i64 fa3) = wz at *
                clear q5 q7 q2 q3 b0 b1 b2 b3 b4 b5 l7
                obtain ⟨z0, z1, z2, z3, y0, y1⟩ := HNz.results
                obtain ⟨q5, q7, q2, q3⟩ := HNz.free
                obtain ⟨b0, b1, b2, b3, b4, b5⟩ := HNz.cells
                have l2 := lt_of_row HNz.r2
                have l3 := lt_of_row HNz.r3
                have l7 := lt_of_row HNz.r7
                go_region
                all_goals go_wp2_with fail
                all_goals rw [Exit.noGoto_ret]
                refine bodyPost_ret (v := .tuple #[.agg zeroNote, .agg #[.int .i64 er3, .int .i64 fa3]]) (results_cell2 rfl _ _ w.heap.size (w.heap.size + 1) 69 51 _ _ (0, 0) (0, 0) _ _ rfl (row_drew (row_far2 (row_set4 HNz.r2 _ _ _ _) (by omega) _ _)) Try.underlying69 rfl note_size rfl (row_drew (row_set2 (row_far4 HNz.r3 (by omega) _ _ _ _) _ _)) Try.underlying51 rfl fault_size) rfl ⟨?_, by rw [HErr.out]⟩
                exact below_drew ((((((HNz.bel.setCell (p := ⟨w.heap.size, 0, none⟩) (Nat.le_refl _) _).setCell (p := ⟨w.heap.size, 1, none⟩) (Nat.le_refl _) _).setCell (p := ⟨w.heap.size, 2, none⟩) (Nat.le_refl _) _).setCell (p := ⟨w.heap.size, 3, none⟩) (Nat.le_refl _) _).setCell (p := ⟨w.heap.size + 1, 0, none⟩) (Nat.le_succ _) _).setCell (p := ⟨w.heap.size + 1, 1, none⟩) (Nat.le_succ _) _)
        · obtain rfl : fa = 0 := hz rfl
          have HErr : Hid (rdNote xs = .error (5, pos)) := by
            have h1 := HQ'.out
            unfold rest0 at h1
            rw [hS, hf] at h1
            exact h1
          clear hf hz
          go_wp2_with fail
          have HN3 := Lib.hid (HN2.out.set10 HFix.out HF2.out (.int .i64 5) (.int .i64 pos))
          have HF3 := Lib.hid (HF2.out.own 5 pos)
          generalize (w2.setCell ⟨p10, 0, none⟩ (.int .i64 5)).setCell ⟨p10, 1, none⟩ (.int .i64 pos) = w3 at *
          clear HN2 HF2 e0 e1 ef hp10
          refine (fault_any _ _ _ _ _ _ _ _ HN3.out.rat).mono ?_
          rintro e w8 ⟨rfl, hB8⟩
          have HN8 := Lib.hid (HN3.out.below HFix.out hB8)
          have HF8 := Lib.hid (HF3.out.keep (hB8.block _ (lt_of_row HF3.out.row)))
          clear hB8 HN3 HF3
          obtain ⟨e0, e1, ef⟩ := HF8.out.cells
          have hp10 := lt_of_row HF8.out.row
          have hp10m := HF8.out.ge
          have hp7m := HFix.out.m_
          obtain ⟨q5, q7, q2, q3⟩ := HN8.out.free
          obtain ⟨b0, b1, b2, b3, b4, b5⟩ := HN8.out.cells
          have l7 := lt_of_row HN8.out.r7
          go_wp2_with fail
          have HNz := ((HN8.out.set7 HFix.out 0 0).set7 HFix.out 5 pos)
          generalize (((w8.setCell ⟨p7, 0, none⟩ (.int .i64 0)).setCell ⟨p7, 1, none⟩ (.int .i64 0)).setCell ⟨p7, 0, none⟩ (.int .i64 5)).setCell ⟨p7, 1, none⟩ (.int .i64 pos) = wz at *
          clear q5 q7 q2 q3 b0 b1 b2 b3 b4 b5 l7
          obtain ⟨z0, z1, z2, z3, y0, y1⟩ := HNz.results
          obtain ⟨q5, q7, q2, q3⟩ := HNz.free
          obtain ⟨b0, b1, b2, b3, b4, b5⟩ := HNz.cells
          have l2 := lt_of_row HNz.r2
          have l3 := lt_of_row HNz.r3
          have l7 := lt_of_row HNz.r7
          go_region
          all_goals go_wp2_with fail
          all_goals rw [Exit.noGoto_ret]
          refine bodyPost_ret (v := .tuple #[.agg zeroNote, .agg #[.int .i64 5, .int .i64 pos]]) (results_cell2 rfl _ _ w.heap.size (w.heap.size + 1) 69 51 _ _ (0, 0) (0, 0) _ _ rfl (row_drew (row_far2 (row_set4 HNz.r2 _ _ _ _) (by omega) _ _)) Try.underlying69 rfl note_size rfl (row_drew (row_set2 (row_far4 HNz.r3 (by omega) _ _ _ _) _ _)) Try.underlying51 rfl fault_size) rfl ⟨?_, by rw [HErr.out]⟩
          exact below_drew ((((((HNz.bel.setCell (p := ⟨w.heap.size, 0, none⟩) (Nat.le_refl _) _).setCell (p := ⟨w.heap.size, 1, none⟩) (Nat.le_refl _) _).setCell (p := ⟨w.heap.size, 2, none⟩) (Nat.le_refl _) _).setCell (p := ⟨w.heap.size, 3, none⟩) (Nat.le_refl _) _).setCell (p := ⟨w.heap.size + 1, 0, none⟩) (Nat.le_succ _) _).setCell (p := ⟨w.heap.size + 1, 1, none⟩) (Nat.le_succ _) _)
      · have HQ' := Lib.hid HQ
        have hsbl : sb < wr.heap.size := by have := HN.out.size; have := HFix.out.p7_; have := HFix.out.m_; omega
        have d1 := HN.out.shp.i
        have d2 := HN.out.shp.is
        have hsm := shape_small k
        have hp5m : p5 < m := by have := HFix.out.sb_; have := HFix.out.p7_; have := HFix.out.m_; omega
        generalize hS : shapeAt k = S at *
        clear HQ
        have HNa := Lib.hid (HN.out.below HFix.out ((Below.refl _ _).alloc (Nat.le_refl _) (.cells #[.int .i64 0, .int .i64 0] 51)))
        have HFa := Lib.hid (Few.new HN.out 0 0)
        go_wp2_with fail
        refine (count_all _ _ _ _ _ _ _ _ HNa.out.rat).mono ?_
        rintro e w2 ⟨n, pos2, er, fa, f1, f2, ⟨rfl, hR2, hM2⟩, hz, hn, hf⟩
        have HN2 := Lib.hid (HNa.out.read HFix.out hR2 hM2)
        have HF2 := Lib.hid (HFa.out.read HFix.out hM2)
        generalize wr.heap.size = p10 at *
        clear HN HNa HFa hM2 hR2 hsbl d1 d2
        obtain ⟨e0, e1, ef⟩ := HF2.out.cells
        have hp10 := lt_of_row HF2.out.row
        rcases hf with ⟨rfl, rfl, hf⟩ | ⟨rfl, rfl, rfl, hf⟩
        · have HG := Lib.hid (dGo_start HQ'.out hz (by rw [hS]; exact hf))
          clear hf hz
          go_wp2_with fail
          have HN3 := Lib.hid (HN2.out.set10 HFix.out HF2.out (.int .i64 0) (.int .i64 0))
          have HF3 := Lib.hid (HF2.out.own 0 0)
          generalize (w2.setCell ⟨p10, 0, none⟩ (.int .i64 0)).setCell ⟨p10, 1, none⟩ (.int .i64 0) = w3 at *
          clear HN2 HF2 e0 e1 ef hp10
          go_loopg [98] n (fun ky s wi => ∃ (kk pos : Nat) (er fa : Int) (aI : Option Addr) (cI : Nat) (ids : List (List Int)), s = .int .i64 (kk : Int) ∧ kk ≤ n ∧ n - kk ≤ ky ∧ Hid (DGo xs k ns n kk pos er fa ids) ∧
            Hid (RN w wi b p5 sb so p7 m a1 cap1 xs S k pos er fa 0 0 aN cN ns aI cI ids aB cB []) ∧ Hid (Few wi p10 m 0 0 aN aI aB))
          case atStart => exact ⟨0, pos2, er, fa, aI, cI, [], rfl, by omega, by omega, HG, HN3, HF3⟩
          case round =>
            clear HG HN3 HF3
            obtain ⟨kk, pos3, er3, fa3, aI3, cI3, ids3, rfl, hkk, hky, HG, HN, HF⟩ := hrel
            by_cases hlt : kk < n
            · obtain ⟨v, p', er', fa', hst⟩ : ∃ v p' er' fa', stepId xs pos3 er3 fa3 = (v, p', er', fa') := ⟨_, _, _, _, rfl⟩
              have HG' := Lib.hid (dGo_step Hx.out HG.out hlt hst)
              have HV : Hid ((bvals v).length = 1 * 16) := by rw [bvals_length]; exact (HG'.out.2.1 v (by simp)).1
              have hv16 : (bvals v).length = 16 := HV.out
              have hvf := fold16 v (by rw [← bvals_length]; exact hv16)
              have Hst := Lib.hid hst
              have hltz : (kk : Int) < (n : Int) := by omega
              obtain ⟨c0, c1, c2, c3, c4, c5⟩ := HN.out.cells
              have HRd := Lib.hid (HN.out.rat.drewN 1)
              have hp5l := lt_of_row HN.out.r5
              clear hst
              go_wp2_with fail
              obtain ⟨i37, hi37, hz37, hs37, hb37⟩ := info_parts Try.info37
              go_region_law
                (first | (go_simp; go_at_call 43; refine (rid_all _ _ _ _ _ _ _ _ v p' er' fa' HRd.out HG.out.2.2.1 Hst.out).mono ?_; rintro e w6 ⟨rfl, hR6, hM6⟩; have HN6 := Lib.hid (HN.out.read HFix.out hR6 (((Moved.refl _ _ _).drewN 1).trans hM6)); have HF6 := Lib.hid (HF.out.read HFix.out (((Moved.refl _ _ _).drewN 1).trans hM6)); have c16 := HN6.out.cells.2.2.1; have hp5l6 := lt_of_row HN6.out.r5; clear hR6 hM6; dsimp only)
                       | (refine step_append_any _ rfl (.tmp 101) (.tmp 104) 67 rfl 0 37 i37 (.agg (bvals z16).toArray) 16 16 Try.underlying67 hi37 hz37 hs37 hb37 rfl (by decide) (.slice aI3 ids3.length cI3) ids3.length (dvals ids3) rfl (HN6.out.oI.alloc _) ⟨w6.heap.size, 0, none⟩ 1 1 (bvals v) rfl HV.out (news_id _ _ _) (bvals_one _) (by unfold maxLen; have := HG.out.1; omega) (by have := HG.out.1; omega) (Nat.zero_le _) ?_; intro a7 cap7 w7 own7 grow7 at7; rw [ownBlock_eq] at grow7 at7; have HN7 := Lib.hid ((HN6.out.below HFix.out ((Below.refl _ _).alloc (Nat.le_refl _) _)).pushI HFix.out v grow7 own7 at7); have HF7 := Lib.hid (((HF6.out.keep (Below.heap_alloc _ _ _ (lt_of_row HF6.out.row))).pushI grow7 at7).set p5 2 (.slice a7 (ids3.length + 1) cap7) (by omega)); have hr57 := (grow7.block p5 (by simp; omega) (fun e => by have := HN6.out.gI p5 e.symm; omega)).trans (row_alloc HN6.out.r5 _); have c17 : w7.cell? ⟨p5, 2, none⟩ = some (.slice aI3 ids3.length cI3) := (by rw [cell_of_row _ _ _ _ _ _ hr57]; rfl); have f17 : w7.frozen? ⟨p5, 2, none⟩ = false := frozen_of_row _ _ _ _ _ hr57; clear hr57 grow7 own7 at7))
              all_goals go_wp2_with fail
              all_goals go_roundg (n - (kk + 1))
              all_goals first | exact ⟨kk + 1, p', er', fa', a7, cap7, ids3 ++ [v], by go_num, by omega, by omega, HG', HN7, HF7⟩ | omega
            · obtain rfl : kk = n := by omega
              go_wp2_with fail
              refine (fault_any _ _ _ _ _ _ _ _ HN.out.rat).mono ?_
              rintro e w8 ⟨rfl, hB8⟩
              have HN8 := Lib.hid (HN.out.below HFix.out hB8)
              have HF8 := Lib.hid (HF.out.keep (hB8.block _ (lt_of_row HF.out.row)))
              clear hB8 HN HF
              obtain ⟨e0, e1, ef⟩ := HF8.out.cells
              have hp10 := lt_of_row HF8.out.row
              have hp10m := HF8.out.ge
              by_cases he3 : er3 = 0
              · subst he3
                obtain rfl : fa3 = 0 := HG.out.2.2.1 rfl
                obtain ⟨q5, q7, q2, q3⟩ := HN8.out.free
                obtain ⟨b0, b1, b2, b3, b4, b5⟩ := HN8.out.cells
                have l7 := lt_of_row HN8.out.r7
                have hp7m := HFix.out.m_
                have HQn : Hid (rdNote xs = rest2 xs k ns ids3 pos3) := by
                  have := (HG.out.2.2.2.resolve_right (fun h => h.1 rfl)).2
                  rw [Nat.sub_self] at this
                  exact this
                go_wp2_with fail
                go_roundg 1
                case measure => omega
                case rel => exact ⟨1, pos3, aN, cN, ns, aI3, cI3, ids3, aB, cB, [], by omega, Lib.hid ⟨⟨HW.out.1, HG.out.2.1, by have := HG.out.1; omega, Bys.nil, by decide⟩, .inr (.inr (.inl ⟨rfl, rfl, HQn.out, rfl⟩))⟩, Lib.hid ((HN8.out.set7 HFix.out 0 0).set7 HFix.out 0 0)⟩
              · have HErr := Lib.hid ((HG.out.2.2.2.resolve_left (fun h => he3 h.1)).2)
                obtain ⟨q5, q7, q2, q3⟩ := HN8.out.free
                obtain ⟨b0, b1, b2, b3, b4, b5⟩ := HN8.out.cells
                have l7 := lt_of_row HN8.out.r7
                go_wp2_with fail
                have HNz := (HN8.out.set7 HFix.out er3 fa3)
                generalize (w8.setCell ⟨p7, 0, none⟩ (.int .i64 er3)).setCell ⟨p7, 1, none⟩ (.int .i64 fa3) = wz at *
                clear q5 q7 q2 q3 b0 b1 b2 b3 b4 b5 l7
                obtain ⟨z0, z1, z2, z3, y0, y1⟩ := HNz.results
                obtain ⟨q5, q7, q2, q3⟩ := HNz.free
                obtain ⟨b0, b1, b2, b3, b4, b5⟩ := HNz.cells
                have l2 := lt_of_row HNz.r2
                have l3 := lt_of_row HNz.r3
                have l7 := lt_of_row HNz.r7
                go_region
                all_goals go_wp2_with fail
                all_goals rw [Exit.noGoto_ret]
                refine bodyPost_ret (v := .tuple #[.agg zeroNote, .agg #[.int .i64 er3, .int .i64 fa3]]) (results_cell2 rfl _ _ w.heap.size (w.heap.size + 1) 69 51 _ _ (0, 0) (0, 0) _ _ rfl (row_drew (row_far2 (row_set4 HNz.r2 _ _ _ _) (by omega) _ _)) Try.underlying69 rfl note_size rfl (row_drew (row_set2 (row_far4 HNz.r3 (by omega) _ _ _ _) _ _)) Try.underlying51 rfl fault_size) rfl ⟨?_, by rw [HErr.out]⟩
                exact below_drew ((((((HNz.bel.setCell (p := ⟨w.heap.size, 0, none⟩) (Nat.le_refl _) _).setCell (p := ⟨w.heap.size, 1, none⟩) (Nat.le_refl _) _).setCell (p := ⟨w.heap.size, 2, none⟩) (Nat.le_refl _) _).setCell (p := ⟨w.heap.size, 3, none⟩) (Nat.le_refl _) _).setCell (p := ⟨w.heap.size + 1, 0, none⟩) (Nat.le_succ _) _).setCell (p := ⟨w.heap.size + 1, 1, none⟩) (Nat.le_succ _) _)
        · obtain rfl : fa = 0 := hz rfl
          have HErr : Hid (rdNote xs = .error (5, pos)) := by
            have h1 := HQ'.out
            unfold rest1 at h1
            rw [hS, hf] at h1
            exact h1
          clear hf hz
          go_wp2_with fail
          have HN3 := Lib.hid (HN2.out.set10 HFix.out HF2.out (.int .i64 5) (.int .i64 pos))
          have HF3 := Lib.hid (HF2.out.own 5 pos)
          generalize (w2.setCell ⟨p10, 0, none⟩ (.int .i64 5)).setCell ⟨p10, 1, none⟩ (.int .i64 pos) = w3 at *
          clear HN2 HF2 e0 e1 ef hp10
          refine (fault_any _ _ _ _ _ _ _ _ HN3.out.rat).mono ?_
          rintro e w8 ⟨rfl, hB8⟩
          have HN8 := Lib.hid (HN3.out.below HFix.out hB8)
          have HF8 := Lib.hid (HF3.out.keep (hB8.block _ (lt_of_row HF3.out.row)))
          clear hB8 HN3 HF3
          obtain ⟨e0, e1, ef⟩ := HF8.out.cells
          have hp10 := lt_of_row HF8.out.row
          have hp10m := HF8.out.ge
          have hp7m := HFix.out.m_
          obtain ⟨q5, q7, q2, q3⟩ := HN8.out.free
          obtain ⟨b0, b1, b2, b3, b4, b5⟩ := HN8.out.cells
          have l7 := lt_of_row HN8.out.r7
          go_wp2_with fail
          have HNz := ((HN8.out.set7 HFix.out 0 0).set7 HFix.out 5 pos)
          generalize (((w8.setCell ⟨p7, 0, none⟩ (.int .i64 0)).setCell ⟨p7, 1, none⟩ (.int .i64 0)).setCell ⟨p7, 0, none⟩ (.int .i64 5)).setCell ⟨p7, 1, none⟩ (.int .i64 pos) = wz at *
          clear q5 q7 q2 q3 b0 b1 b2 b3 b4 b5 l7
          obtain ⟨z0, z1, z2, z3, y0, y1⟩ := HNz.results
          obtain ⟨q5, q7, q2, q3⟩ := HNz.free
          obtain ⟨b0, b1, b2, b3, b4, b5⟩ := HNz.cells
          have l2 := lt_of_row HNz.r2
          have l3 := lt_of_row HNz.r3
          have l7 := lt_of_row HNz.r7
          go_region
          all_goals go_wp2_with fail
          all_goals rw [Exit.noGoto_ret]
          refine bodyPost_ret (v := .tuple #[.agg zeroNote, .agg #[.int .i64 5, .int .i64 pos]]) (results_cell2 rfl _ _ w.heap.size (w.heap.size + 1) 69 51 _ _ (0, 0) (0, 0) _ _ rfl (row_drew (row_far2 (row_set4 HNz.r2 _ _ _ _) (by omega) _ _)) Try.underlying69 rfl note_size rfl (row_drew (row_set2 (row_far4 HNz.r3 (by omega) _ _ _ _) _ _)) Try.underlying51 rfl fault_size) rfl ⟨?_, by rw [HErr.out]⟩
          exact below_drew ((((((HNz.bel.setCell (p := ⟨w.heap.size, 0, none⟩) (Nat.le_refl _) _).setCell (p := ⟨w.heap.size, 1, none⟩) (Nat.le_refl _) _).setCell (p := ⟨w.heap.size, 2, none⟩) (Nat.le_refl _) _).setCell (p := ⟨w.heap.size, 3, none⟩) (Nat.le_refl _) _).setCell (p := ⟨w.heap.size + 1, 0, none⟩) (Nat.le_succ _) _).setCell (p := ⟨w.heap.size + 1, 1, none⟩) (Nat.le_succ _) _)
      · have HQ' := Lib.hid HQ
        have hsbl : sb < wr.heap.size := by have := HN.out.size; have := HFix.out.p7_; have := HFix.out.m_; omega
        have d6 := HN.out.shp.most
        have hsm := shape_small k
        have hp5m : p5 < m := by have := HFix.out.sb_; have := HFix.out.p7_; have := HFix.out.m_; omega
        have hp7m := HFix.out.m_
        generalize hS : shapeAt k = S at *
        clear HQ
        have HNa := Lib.hid (HN.out.below HFix.out ((Below.refl _ _).alloc (Nat.le_refl _) (.cells #[.int .i64 0, .int .i64 0] 51)))
        have HFa := Lib.hid (Few.new HN.out 0 0)
        go_wp2_with fail
        refine (at_any _ _ _ _ _ _ _ _ HNa.out.rat).mono ?_
        rintro e w2 ⟨rfl, rfl⟩
        go_wp2_with fail
        cases hrb : rdBytes xs pos S.most with
        | error f =>
          obtain ⟨er, fa⟩ := f
          have hne := rdBytes_ne hrb
          have HErr : Hid (rdNote xs = .error (er, fa)) := by
            have h1 := HQ'.out
            unfold rest2 rdB at h1
            rw [hS, hrb] at h1
            exact h1
          refine (rbytes_err _ _ _ _ _ _ _ _ _ HNa.out.rat hrb).mono ?_
          rintro e w2 ⟨rfl, hR2, hM2⟩
          have HN2 := Lib.hid (HNa.out.read HFix.out hR2 hM2)
          have HF2 := Lib.hid (HFa.out.read HFix.out hM2)
          generalize wr.heap.size = p10 at *
          clear HN HNa HFa hM2 hR2 hsbl d6 hrb
          obtain ⟨q5, q7, q2, q3⟩ := HN2.out.free
          obtain ⟨b0, b1, b2, b3, b4, b5⟩ := HN2.out.cells
          have hp5l := lt_of_row HN2.out.r5
          go_wp2_with fail
          have HN3 := Lib.hid (HN2.out.setB HFix.out (a' := none) (c' := 0) [] (Owns.nil _) (fun k hk => by cases hk) (fun k _ hk => by cases hk) (fun k _ hk => by cases hk))
          have HF3 := Lib.hid (HF2.out.set p5 3 (.slice none 0 0) hp5m)
          simp only [List.length_nil] at HN3
          generalize w2.setCell ⟨p5, 3, none⟩ (.slice none 0 0) = w3 at *
          clear HN2 HF2 q5 q7 q2 q3 b0 b1 b2 b3 b4 b5 hp5l
          have hfg := fun n os => fault_grown w3 b a1 cap1 xs pos er fa HN3.out.rat n os
          have Hfg := Lib.hid hfg
          have b3 := fun n os => cell_grown (w := w3) (lt_of_row HN3.out.r5) HN3.out.cells.2.2.2.1 n os
          have hfld := field_err
          have hneb : (er == 0) = false := by simpa using hne
          clear hfg
          refine wp_region_quiet_grown mixed (by kernel_rfl) ?_
          iterate 15 ((with_reducible refine wpQuiet_step (fun K hK => ?_)); go_simp; first | (with_reducible refine hK _ ?_; clear hK K) | (apply Exists.intro; with_reducible refine ⟨fun _ => ?_, hK _ ?_⟩; (go_at_call 39; with_reducible exact Hfg.out _ _); clear hK K))
          refine wpQuiet_nil ?_
          intro w' hw'
          obtain ⟨⟨nq, osq⟩, rfl⟩ := hw'
          have HN4 := Lib.hid (HN3.out.below HFix.out (below_grow w3 nq osq))
          have HF4 := Lib.hid (HF3.out.keep ((below_grow w3 nq osq).block _ (lt_of_row HF3.out.row)))
          clear b3 HN3 HF3 Hfg
          generalize grow (w3.drewN nq) osq = w4 at *
          go_wp2_with fail
          refine (fault_any _ _ _ _ _ _ _ _ HN4.out.rat).mono ?_
          rintro e w8 ⟨rfl, hB8⟩
          have HN8 := Lib.hid (HN4.out.below HFix.out hB8)
          have HF8 := Lib.hid (HF4.out.keep (hB8.block _ (lt_of_row HF4.out.row)))
          clear hB8 HN4 HF4
          obtain ⟨e0, e1, ef⟩ := HF8.out.cells
          have hp10 := lt_of_row HF8.out.row
          have hp10m := HF8.out.ge
          obtain ⟨q5, q7, q2, q3⟩ := HN8.out.free
          obtain ⟨b0, b1, b2, b3, b4, b5⟩ := HN8.out.cells
          have l7 := lt_of_row HN8.out.r7
          go_wp2_with fail
          have HNz := (HN8.out.set7 HFix.out er fa)
          generalize (w8.setCell ⟨p7, 0, none⟩ (.int .i64 er)).setCell ⟨p7, 1, none⟩ (.int .i64 fa) = wz at *
          clear q5 q7 q2 q3 b0 b1 b2 b3 b4 b5 l7
          obtain ⟨z0, z1, z2, z3, y0, y1⟩ := HNz.results
          obtain ⟨q5, q7, q2, q3⟩ := HNz.free
          obtain ⟨b0, b1, b2, b3, b4, b5⟩ := HNz.cells
          have l2 := lt_of_row HNz.r2
          have l3 := lt_of_row HNz.r3
          have l7 := lt_of_row HNz.r7
          go_region
          all_goals go_wp2_with fail
          all_goals rw [Exit.noGoto_ret]
          refine bodyPost_ret (v := .tuple #[.agg zeroNote, .agg #[.int .i64 er, .int .i64 fa]]) (results_cell2 rfl _ _ w.heap.size (w.heap.size + 1) 69 51 _ _ (0, 0) (0, 0) _ _ rfl (row_drew (row_far2 (row_set4 HNz.r2 _ _ _ _) (by omega) _ _)) Try.underlying69 rfl note_size rfl (row_drew (row_set2 (row_far4 HNz.r3 (by omega) _ _ _ _) _ _)) Try.underlying51 rfl fault_size) rfl ⟨?_, by rw [HErr.out]⟩
          exact below_drew ((((((HNz.bel.setCell (p := ⟨w.heap.size, 0, none⟩) (Nat.le_refl _) _).setCell (p := ⟨w.heap.size, 1, none⟩) (Nat.le_refl _) _).setCell (p := ⟨w.heap.size, 2, none⟩) (Nat.le_refl _) _).setCell (p := ⟨w.heap.size, 3, none⟩) (Nat.le_refl _) _).setCell (p := ⟨w.heap.size + 1, 0, none⟩) (Nat.le_succ _) _).setCell (p := ⟨w.heap.size + 1, 1, none⟩) (Nat.le_succ _) _)
        | ok q =>
          obtain ⟨ys, nx⟩ := q
          refine (rbytes_ok _ _ _ _ _ _ _ _ _ HNa.out.rat hrb).mono ?_
          rintro e w2 ⟨a2, cap2, rfl, hR2, own2, new2, hM2⟩
          have HN2 := Lib.hid (HNa.out.read HFix.out hR2 hM2)
          have HF2 := Lib.hid (HFa.out.read HFix.out hM2)
          have hys : Hid (Bys ys ∧ ys.length ≤ S.most) := by
            obtain ⟨n, m, h1, h2, h3, h4⟩ := rdBytes_ok hrb
            have := bnd_in h1
            exact ⟨by rw [h3]; exact (Hx.out.drop _).take _, by rw [h3]; simp; omega⟩
          have hgeo : Hid ((∀ k, blk a2 = some k → m ≤ k) ∧ (∀ k, blk aN = some k → blk a2 ≠ some k) ∧ (∀ k, blk aI = some k → blk a2 ≠ some k) ∧ blk a2 ≠ some wr.heap.size) := by
            have hsz : ∀ k, blk a2 = some k → wr.heap.size + 1 ≤ k := fun k hk => by have := new2 k hk; simpa using this
            have hms := HN.out.size
            refine ⟨fun k hk => by have := hsz k hk; omega, fun k hk e => ?_, fun k hk e => ?_, fun e => ?_⟩
            · have := ownsRow_blk HN.out.oN k hk; have := hsz k e; omega
            · have := ownsRow_blk HN.out.oI k hk; have := hsz k e; omega
            · have := hsz _ e; omega
          have Hown := Lib.hid own2
          generalize wr.heap.size = p10 at *
          clear HN HNa HFa hM2 hR2 hsbl d6 own2 new2
          obtain ⟨q5, q7, q2, q3⟩ := HN2.out.free
          obtain ⟨b0, b1, b2, b3, b4, b5⟩ := HN2.out.cells
          have hp5l := lt_of_row HN2.out.r5
          go_wp2_with fail
          have HN3 := Lib.hid (HN2.out.setB HFix.out ys Hown.out hgeo.out.1 hgeo.out.2.1 hgeo.out.2.2.1)
          have HF3 : Hid (Few (w2.setCell ⟨p5, 3, none⟩ (.slice a2 ys.length cap2)) p10 m 0 0 aN aI a2) := ⟨(HF2.out.set p5 3 (.slice a2 ys.length cap2) hp5m).row, HF2.out.ge, HF2.out.nN, HF2.out.nI, hgeo.out.2.2.2⟩
          generalize w2.setCell ⟨p5, 3, none⟩ (.slice a2 ys.length cap2) = w3 at *
          clear HN2 HF2 q5 q7 q2 q3 b0 b1 b2 b3 b4 b5 hp5l Hown hgeo
          have hfg := fun n os => fault_grown w3 b a1 cap1 xs nx 0 0 HN3.out.rat n os
          have Hfg := Lib.hid hfg
          have b3 := fun n os => cell_grown (w := w3) (lt_of_row HN3.out.r5) HN3.out.cells.2.2.2.1 n os
          have hsb3 : sb < w3.heap.size := by have := HN3.out.size; have := HFix.out.p7_; omega
          have d5 := fun n os => cell_grown (w := w3) (a := ⟨sb, so + 5, none⟩) hsb3 HN3.out.shp.least n os
          have hfld := field_err
          have hysl : ys.length ≤ 1024 := by have := hys.out.2; omega
          have HRB := Lib.hid hrb
          clear hfg hrb
          by_cases hl : ys.length < S.least
          · have HErr : Hid (rdNote xs = .error (5, (pos : Int))) := by
              have h1 := HQ'.out
              unfold rest2 rdB at h1
              rw [hS, HRB.out] at h1
              simp only [if_pos hl] at h1
              exact h1
            have hlz : (ys.length : Int) < (S.least : Int) := by omega
            refine wp_region_quiet_grown mixed (by kernel_rfl) ?_
            iterate 15 ((with_reducible refine wpQuiet_step (fun K hK => ?_)); go_simp; first | (with_reducible refine hK _ ?_; clear hK K) | (apply Exists.intro; with_reducible refine ⟨fun _ => ?_, hK _ ?_⟩; (go_at_call 39; with_reducible exact Hfg.out _ _); clear hK K))
            refine wpQuiet_nil ?_
            intro w' hw'
            obtain ⟨⟨nq, osq⟩, rfl⟩ := hw'
            have HN4 := Lib.hid (HN3.out.below HFix.out (below_grow w3 nq osq))
            have HF4 := Lib.hid (HF3.out.keep ((below_grow w3 nq osq).block _ (lt_of_row HF3.out.row)))
            clear b3 d5 HN3 HF3 Hfg hsb3
            generalize grow (w3.drewN nq) osq = w4 at *
            obtain ⟨e0, e1, ef⟩ := HF4.out.cells
            have hp10 := lt_of_row HF4.out.row
            go_wp2_with fail
            have HN5 := Lib.hid (HN4.out.set10 HFix.out HF4.out (.int .i64 5) (.int .i64 pos))
            have HF5 := Lib.hid (HF4.out.own 5 pos)
            generalize (w4.setCell ⟨p10, 0, none⟩ (.int .i64 5)).setCell ⟨p10, 1, none⟩ (.int .i64 pos) = w5 at *
            clear HN4 HF4 e0 e1 ef hp10
            refine (fault_any _ _ _ _ _ _ _ _ HN5.out.rat).mono ?_
            rintro e w8 ⟨rfl, hB8⟩
            have HN8 := Lib.hid (HN5.out.below HFix.out hB8)
            have HF8 := Lib.hid (HF5.out.keep (hB8.block _ (lt_of_row HF5.out.row)))
            clear hB8 HN5 HF5
            obtain ⟨e0, e1, ef⟩ := HF8.out.cells
            have hp10 := lt_of_row HF8.out.row
            have hp10m := HF8.out.ge
            obtain ⟨q5, q7, q2, q3⟩ := HN8.out.free
            obtain ⟨b0, b1, b2, b3, b4, b5⟩ := HN8.out.cells
            have l7 := lt_of_row HN8.out.r7
            go_wp2_with fail
            have HNz := ((HN8.out.set7 HFix.out 0 0).set7 HFix.out 5 pos)
            generalize (((w8.setCell ⟨p7, 0, none⟩ (.int .i64 0)).setCell ⟨p7, 1, none⟩ (.int .i64 0)).setCell ⟨p7, 0, none⟩ (.int .i64 5)).setCell ⟨p7, 1, none⟩ (.int .i64 pos) = wz at *
            clear q5 q7 q2 q3 b0 b1 b2 b3 b4 b5 l7
            obtain ⟨z0, z1, z2, z3, y0, y1⟩ := HNz.results
            obtain ⟨q5, q7, q2, q3⟩ := HNz.free
            obtain ⟨b0, b1, b2, b3, b4, b5⟩ := HNz.cells
            have l2 := lt_of_row HNz.r2
            have l3 := lt_of_row HNz.r3
            have l7 := lt_of_row HNz.r7
            go_region
            all_goals go_wp2_with fail
            all_goals rw [Exit.noGoto_ret]
            refine bodyPost_ret (v := .tuple #[.agg zeroNote, .agg #[.int .i64 5, .int .i64 pos]]) (results_cell2 rfl _ _ w.heap.size (w.heap.size + 1) 69 51 _ _ (0, 0) (0, 0) _ _ rfl (row_drew (row_far2 (row_set4 HNz.r2 _ _ _ _) (by omega) _ _)) Try.underlying69 rfl note_size rfl (row_drew (row_set2 (row_far4 HNz.r3 (by omega) _ _ _ _) _ _)) Try.underlying51 rfl fault_size) rfl ⟨?_, by rw [HErr.out]⟩
            exact below_drew ((((((HNz.bel.setCell (p := ⟨w.heap.size, 0, none⟩) (Nat.le_refl _) _).setCell (p := ⟨w.heap.size, 1, none⟩) (Nat.le_refl _) _).setCell (p := ⟨w.heap.size, 2, none⟩) (Nat.le_refl _) _).setCell (p := ⟨w.heap.size, 3, none⟩) (Nat.le_refl _) _).setCell (p := ⟨w.heap.size + 1, 0, none⟩) (Nat.le_succ _) _).setCell (p := ⟨w.heap.size + 1, 1, none⟩) (Nat.le_succ _) _)
          · have HQn : Hid (rdNote xs = rest3 xs k ns ids ys nx) := by
              have h1 := HQ'.out
              unfold rest2 rdB at h1
              rw [hS, HRB.out] at h1
              simp only [if_neg hl] at h1
              exact h1
            have hlz : ¬ (ys.length : Int) < (S.least : Int) := by omega
            refine wp_region_quiet_grown mixed (by kernel_rfl) ?_
            iterate 15 ((with_reducible refine wpQuiet_step (fun K hK => ?_)); go_simp; first | (with_reducible refine hK _ ?_; clear hK K) | (apply Exists.intro; with_reducible refine ⟨fun _ => ?_, hK _ ?_⟩; (go_at_call 39; with_reducible exact Hfg.out _ _); clear hK K))
            refine wpQuiet_nil ?_
            intro w' hw'
            obtain ⟨⟨nq, osq⟩, rfl⟩ := hw'
            have HN4 := Lib.hid (HN3.out.below HFix.out (below_grow w3 nq osq))
            have HF4 := Lib.hid (HF3.out.keep ((below_grow w3 nq osq).block _ (lt_of_row HF3.out.row)))
            clear b3 d5 HN3 HF3 Hfg hsb3
            generalize grow (w3.drewN nq) osq = w4 at *
            go_wp2_with fail
            refine (fault_any _ _ _ _ _ _ _ _ HN4.out.rat).mono ?_
            rintro e w8 ⟨rfl, hB8⟩
            have HN8 := Lib.hid (HN4.out.below HFix.out hB8)
            have HF8 := Lib.hid (HF4.out.keep (hB8.block _ (lt_of_row HF4.out.row)))
            clear hB8 HN4 HF4
            obtain ⟨e0, e1, ef⟩ := HF8.out.cells
            have hp10 := lt_of_row HF8.out.row
            have hp10m := HF8.out.ge
            obtain ⟨q5, q7, q2, q3⟩ := HN8.out.free
            obtain ⟨b0, b1, b2, b3, b4, b5⟩ := HN8.out.cells
            have l7 := lt_of_row HN8.out.r7
            go_wp2_with fail
            go_roundg 0
            case measure => omega
            case rel => exact ⟨0, nx, aN, cN, ns, aI, cI, ids, a2, cap2, ys, by omega, Lib.hid ⟨⟨HW.out.1, HW.out.2.1, HW.out.2.2.1, hys.out.1, by omega⟩, .inr (.inr (.inr ⟨rfl, rfl, HQn.out⟩))⟩, Lib.hid ((HN8.out.set7 HFix.out 0 0).set7 HFix.out 0 0)⟩
      · have HN' := HN
        have hms := HN.out.size
        obtain ⟨q5, q7, q2, q3⟩ := HN.out.free
        obtain ⟨b0, b1, b2, b3, b4, b5⟩ := HN.out.cells
        go_wp2_with fail
        refine (rend_any _ _ _ _ _ _ _ _ HN.out.rat).mono ?_
        rintro e w8 ⟨rfl, hB8⟩
        have HN8 := Lib.hid (HN.out.below HFix.out hB8)
        have HQ' := Lib.hid HQ
        have hp7m := HFix.out.m_
        clear hB8 HN HN' q5 q7 q2 q3 b0 b1 b2 b3 b4 b5 HQ hms
        by_cases hp : pos < xs.length
        · have HErr : Hid (rdNote xs = .error (4, (pos : Int))) := by
            have h1 := HQ'.out
            unfold rest3 at h1
            rw [if_pos hp] at h1
            exact h1
          have hend : endF xs.length pos 0 0 = (4, (pos : Int)) := by unfold endF; rw [if_pos ⟨rfl, hp⟩]
          rw [hend]
          clear hend
          obtain ⟨q5, q7, q2, q3⟩ := HN8.out.free
          obtain ⟨b0, b1, b2, b3, b4, b5⟩ := HN8.out.cells
          have l7 := lt_of_row HN8.out.r7
          go_wp2_with fail
          have HNz := (HN8.out.set7 HFix.out 4 pos)
          generalize (w8.setCell ⟨p7, 0, none⟩ (.int .i64 4)).setCell ⟨p7, 1, none⟩ (.int .i64 pos) = wz at *
          clear q5 q7 q2 q3 b0 b1 b2 b3 b4 b5 l7
          obtain ⟨z0, z1, z2, z3, y0, y1⟩ := HNz.results
          obtain ⟨q5, q7, q2, q3⟩ := HNz.free
          obtain ⟨b0, b1, b2, b3, b4, b5⟩ := HNz.cells
          have l2 := lt_of_row HNz.r2
          have l3 := lt_of_row HNz.r3
          have l7 := lt_of_row HNz.r7
          go_region
          all_goals go_wp2_with fail
          all_goals rw [Exit.noGoto_ret]
          refine bodyPost_ret (v := .tuple #[.agg zeroNote, .agg #[.int .i64 4, .int .i64 pos]]) (results_cell2 rfl _ _ w.heap.size (w.heap.size + 1) 69 51 _ _ (0, 0) (0, 0) _ _ rfl (row_drew (row_far2 (row_set4 HNz.r2 _ _ _ _) (by omega) _ _)) Try.underlying69 rfl note_size rfl (row_drew (row_set2 (row_far4 HNz.r3 (by omega) _ _ _ _) _ _)) Try.underlying51 rfl fault_size) rfl ⟨?_, by rw [HErr.out]⟩
          exact below_drew ((((((HNz.bel.setCell (p := ⟨w.heap.size, 0, none⟩) (Nat.le_refl _) _).setCell (p := ⟨w.heap.size, 1, none⟩) (Nat.le_refl _) _).setCell (p := ⟨w.heap.size, 2, none⟩) (Nat.le_refl _) _).setCell (p := ⟨w.heap.size, 3, none⟩) (Nat.le_refl _) _).setCell (p := ⟨w.heap.size + 1, 0, none⟩) (Nat.le_succ _) _).setCell (p := ⟨w.heap.size + 1, 1, none⟩) (Nat.le_succ _) _)
        · have HOk : Hid (rdNote xs = .ok ⟨k, ns, ids, bs⟩) := by
            have h1 := HQ'.out
            unfold rest3 at h1
            rw [if_neg hp] at h1
            exact h1
          have hend : endF xs.length pos 0 0 = (0, 0) := by unfold endF; rw [if_neg (by omega)]
          rw [hend]
          clear hend
          obtain ⟨q5, q7, q2, q3⟩ := HN8.out.free
          obtain ⟨b0, b1, b2, b3, b4, b5⟩ := HN8.out.cells
          obtain ⟨z0, z1, z2, z3, y0, y1⟩ := HN8.out.results
          have l2 := lt_of_row HN8.out.r2
          have l3 := lt_of_row HN8.out.r3
          have l5 := lt_of_row HN8.out.r5
          have l7 := lt_of_row HN8.out.r7
          have hp5m : p5 < p7 := by have := HFix.out.sb_; have := HFix.out.p7_; omega
          go_wp2_with fail
          rw [Exit.noGoto_ret]
          have HNz := HN8.out.set7 HFix.out 0 0
          generalize (w8.setCell ⟨p7, 0, none⟩ (.int .i64 0)).setCell ⟨p7, 1, none⟩ (.int .i64 0) = wz at *
          refine bodyPost_ret (v := .tuple #[.agg #[.int .i64 k, .slice aN ns.length cN, .slice aI ids.length cI, .slice aB bs.length cB], .agg #[.int .i64 0, .int .i64 0]]) (results_cell2 rfl _ _ w.heap.size (w.heap.size + 1) 69 51 _ _ (0, 0) (0, 0) _ _ rfl (row_far2 (row_set4 HNz.r2 _ _ _ _) (by omega) _ _) Try.underlying69 rfl note_size rfl (row_set2 (row_far4 HNz.r3 (by omega) _ _ _ _) _ _) Try.underlying51 rfl fault_size) rfl ⟨?_, ?_⟩
          · exact ((((((HNz.bel.setCell (p := ⟨w.heap.size, 0, none⟩) (Nat.le_refl _) _).setCell (p := ⟨w.heap.size, 1, none⟩) (Nat.le_refl _) _).setCell (p := ⟨w.heap.size, 2, none⟩) (Nat.le_refl _) _).setCell (p := ⟨w.heap.size, 3, none⟩) (Nat.le_refl _) _).setCell (p := ⟨w.heap.size + 1, 0, none⟩) (Nat.le_succ _) _).setCell (p := ⟨w.heap.size + 1, 1, none⟩) (Nat.le_succ _) _)
          · rw [HOk.out]
            have hwm : w.heap.size + 1 < m := by omega
            refine ⟨aN, cN, aI, cI, aB, cB, rfl, HNz.noteIn HW.out (by simp [World.setCell]) (fun p hp => ?_), fun j hj => by have := HNz.gN j hj; omega, fun j hj => by have := HNz.gI j hj; omega, fun j hj => by have := HNz.gB j hj; omega⟩
            rw [heap_setCell_other _ _ _ _ (by simp only; omega), heap_setCell_other _ _ _ _ (by simp only; omega), heap_setCell_other _ _ _ _ (by simp only; omega), heap_setCell_other _ _ _ _ (by simp only; omega), heap_setCell_other _ _ _ _ (by simp only; omega), heap_setCell_other _ _ _ _ (by simp only; omega)]

end Go.Proofs.Ytkfhljggdcajpaa
