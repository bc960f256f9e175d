/-
  NoteShapes: the walk.
-/
import Derived.Test.YtkfhljggdcajpaaShl
namespace Go.Proofs.Ytkfhljggdcajpaa
open Go.RowKit Go.Sort

set_option maxRecDepth 1000000 in
set_option maxHeartbeats 2000000 in
theorem nshapes_any (w : World) (x : Note) (aN : Option Addr) (cN : Nat) (aI : Option Addr) (cI : Nat) (aB : Option Addr) (cB : Nat) (wh : Int) (h : NoteAny w x aN aI aB) :
    Calls Try.prog 12 #[.agg #[.int .i64 x.kind, .slice aN x.ns.length cN, .slice aI x.ids.length cI, .slice aB x.bs.length cB], .int .i64 wh] w fun e w' => e = .returned (.bool true) ∧ Below w.heap.size w w' := by
  have Hx := Lib.hid h
  have R0 := Lib.hid (heap_alloc_new w (.cells #[.int .i64 x.kind, .slice aN x.ns.length cN, .slice aI x.ids.length cI, .slice aB x.bs.length cB] 69))
  obtain ⟨i3, hi3, hz3, hs3, hb3⟩ := info_parts Try.info3
  obtain ⟨i37, hi37, hz37, hs37, hb37⟩ := info_parts Try.info37
  clear h
  go_enter Try.func12, Try.ntmps12
  go_wp2_with fail
  refine (awake10_any _).mono ?_
  rintro e w1 ⟨rfl, hB1⟩
  have R1 := Lib.hid ((hB1.block _ (lt_of_row R0.out)).trans R0.out)
  have HB1 := Lib.hid (bel_trans (bel_alloc (.cells #[.int .i64 x.kind, .slice aN x.ns.length cN, .slice aI x.ids.length cI, .slice aB x.bs.length cB] 69) (Below.refl w.heap.size w)) hB1)
  clear hB1 R0
  have c0 : w1.cell? ⟨w.heap.size, 0, none⟩ = some (.int .i64 x.kind) := by rw [cell_of_row _ _ _ _ _ _ R1.out]; rfl
  have c1 : w1.cell? ⟨w.heap.size, 1, none⟩ = some (.slice aN x.ns.length cN) := by rw [cell_of_row _ _ _ _ _ _ R1.out]; rfl
  have c2 : w1.cell? ⟨w.heap.size, 2, none⟩ = some (.slice aI x.ids.length cI) := by rw [cell_of_row _ _ _ _ _ _ R1.out]; rfl
  have c3 : w1.cell? ⟨w.heap.size, 3, none⟩ = some (.slice aB x.bs.length cB) := by rw [cell_of_row _ _ _ _ _ _ R1.out]; rfl
  go_wp2_with fail
  by_cases hlong : 200 < x.ns.length ∨ 40 < x.ids.length ∨ 2000 < x.bs.length
  · refine (long_any _ _ _ _ _ _ _ _ _ _ _ true (decide_eq_true hlong)).mono ?_
    rintro e w2 ⟨rfl, hB2⟩
    have HB2 := Lib.hid (bel_trans HB1.out hB2)
    clear hB2 hlong
    go_wp2_with fail
    go_ret
    exact ⟨rfl, HB2.out⟩
  · refine (long_any _ _ _ _ _ _ _ _ _ _ _ false (decide_eq_false hlong)).mono ?_
    rintro e w2 ⟨rfl, hB2⟩
    have HB2 := Lib.hid (bel_trans HB1.out hB2)
    have R2 := Lib.hid ((hB2.block _ (lt_of_row R1.out)).trans R1.out)
    have HX := Lib.hid (Hx.out.inn hlong)
    clear hB2 hlong c0 c1 c2 c3 R1 HB1
    have c0 : w2.cell? ⟨w.heap.size, 0, none⟩ = some (.int .i64 x.kind) := by rw [cell_of_row _ _ _ _ _ _ R2.out]; rfl
    have c1 : w2.cell? ⟨w.heap.size, 1, none⟩ = some (.slice aN x.ns.length cN) := by rw [cell_of_row _ _ _ _ _ _ R2.out]; rfl
    have c2 : w2.cell? ⟨w.heap.size, 2, none⟩ = some (.slice aI x.ids.length cI) := by rw [cell_of_row _ _ _ _ _ _ R2.out]; rfl
    have c3 : w2.cell? ⟨w.heap.size, 3, none⟩ = some (.slice aB x.bs.length cB) := by rw [cell_of_row _ _ _ _ _ _ R2.out]; rfl
    obtain ⟨E, hE⟩ : ∃ E, x.err = E := ⟨_, rfl⟩
    have HE := Lib.hid hE
    clear hE
    go_wp2_with fail
    refine (check_k _ x _ _ _ _ _ _ (HX.out.below HB2.out) E HE.out).mono ?_
    rintro e w3 ⟨rfl, hB3⟩
    have HB3 := Lib.hid (bel_trans HB2.out hB3)
    have R3 := Lib.hid ((hB3.block _ (lt_of_row R2.out)).trans R2.out)
    clear hB3 c0 c1 c2 c3 R2 HB2
    have c0 : w3.cell? ⟨w.heap.size, 0, none⟩ = some (.int .i64 x.kind) := by rw [cell_of_row _ _ _ _ _ _ R3.out]; rfl
    have c1 : w3.cell? ⟨w.heap.size, 1, none⟩ = some (.slice aN x.ns.length cN) := by rw [cell_of_row _ _ _ _ _ _ R3.out]; rfl
    have c2 : w3.cell? ⟨w.heap.size, 2, none⟩ = some (.slice aI x.ids.length cI) := by rw [cell_of_row _ _ _ _ _ _ R3.out]; rfl
    have c3 : w3.cell? ⟨w.heap.size, 3, none⟩ = some (.slice aB x.bs.length cB) := by rw [cell_of_row _ _ _ _ _ _ R3.out]; rfl
    by_cases he : E = 0
    · subst he
      have hfine := (fine_iff x).1 HE.out
      have hcap := shape_caps x.kind
      have hqn : x.ns.length ≤ (shapeAt x.kind).ns := hfine.2.1.2
      have hqi : x.ids.length ≤ (shapeAt x.kind).is := hfine.2.2.1.2
      have hqb : x.bs.length ≤ (shapeAt x.kind).most := hfine.2.2.2.1.2
      have hEN := fun t => err_n HE.out t
      have hEI := fun n hn => err_i HE.out n hn
      have hEB := fun n hn => err_b HE.out n hn
      have hEV := fun p hp => err_none HE.out p hp
      generalize (shapeAt x.kind).ns = qn at *
      generalize (shapeAt x.kind).is = qi at *
      generalize (shapeAt x.kind).most = qb at *
      obtain ⟨hc1, hc2, hc3⟩ := hcap
      have HEN := Lib.hid hEN
      have HEI := Lib.hid hEI
      have HEB := Lib.hid hEB
      have HEV := Lib.hid hEV
      clear hfine hEN hEI hEB hEV
      go_wp2_with fail
      refine (copy_note_any _ x _ _ _ _ _ _ (HX.out.below HB3.out)).mono ?_
      rintro e wyc ⟨n1y, k1y, n2y, k2y, n3y, k3y, rfl, hC, hB⟩
      have HCy := Lib.hid hC
      have Ly : Hid (Lay w3 (wyc.alloc (.cells #[.int .i64 x.kind, .slice n1y x.ns.length k1y, .slice n2y x.ids.length k2y, .slice n3y x.bs.length k3y] 69)) wyc.heap.size x.kind n1y x.ns.length k1y n2y x.ids.length k2y n3y x.bs.length k3y) := ⟨heap_alloc_new _ _, hB.alloc hB.size _, hB.size⟩
      have FNy : Hid (Far w3 wyc.heap.size n1y) := fun k hk => ⟨hC.nN k hk, by have := ownsRow_blk hC.oN k hk; omega⟩
      have FIy : Hid (Far w3 wyc.heap.size n2y) := fun k hk => ⟨hC.nI k hk, by have := ownsRow_blk hC.oI k hk; omega⟩
      have FBy : Hid (Far w3 wyc.heap.size n3y) := fun k hk => ⟨hC.nB k hk, by have := hC.oB.blk_lt k hk; omega⟩
      have KIy : Hid (Kept (wyc.alloc (.cells #[.int .i64 x.kind, .slice n1y x.ns.length k1y, .slice n2y x.ids.length k2y, .slice n3y x.bs.length k3y] 69)) wyc.heap.size n1y x.ns n2y) := ⟨(OwnN.ints hC.oN).below ((Below.refl _ _).alloc (Nat.le_refl _) _) (Nat.le_refl _), fun j hj => ⟨ownsRow_blk hC.oN j hj, hC.dNI j hj⟩⟩
      have KBy : Hid (Kept (wyc.alloc (.cells #[.int .i64 x.kind, .slice n1y x.ns.length k1y, .slice n2y x.ids.length k2y, .slice n3y x.bs.length k3y] 69)) wyc.heap.size n1y x.ns n3y) := ⟨(OwnN.ints hC.oN).below ((Below.refl _ _).alloc (Nat.le_refl _) _) (Nat.le_refl _), fun j hj => ⟨ownsRow_blk hC.oN j hj, hC.dNB j hj⟩⟩
      have ONy := Lib.hid (hC.oN.alloc (.cells #[.int .i64 x.kind, .slice n1y x.ns.length k1y, .slice n2y x.ids.length k2y, .slice n3y x.bs.length k3y] 69))
      have OIy := Lib.hid (hC.oI.alloc (.cells #[.int .i64 x.kind, .slice n1y x.ns.length k1y, .slice n2y x.ids.length k2y, .slice n3y x.bs.length k3y] 69))
      have OBy := Lib.hid (hC.oB.alloc (.cells #[.int .i64 x.kind, .slice n1y x.ns.length k1y, .slice n2y x.ids.length k2y, .slice n3y x.bs.length k3y] 69))
      clear hC hB c0 c1 c2 c3
      go_wp2_with fail
      generalize hgw : wyc.alloc (.cells #[.int .i64 x.kind, .slice n1y x.ns.length k1y, .slice n2y x.ids.length k2y, .slice n3y x.bs.length k3y] 69) = wyd at *
      generalize hgp : wyc.heap.size = p6 at *
      clear hgw hgp HCy
      go_loopg [21] (qn + 1) (fun kx s wr => ∃ (t : Nat) (a : Option Addr) (c : Nat), x.ns.length + t ≤ qn + 1 ∧ qn + 1 - (x.ns.length + t) ≤ kx ∧ Hid (Lay w3 wr p6 x.kind a (x.ns.length + t) c n2y x.ids.length k2y n3y x.bs.length k3y) ∧
        Hid (wr.ownsRow 0 3 1 (.slice a (x.ns.length + t) c) (x.ns.length + t) (ivals (x.ns ++ List.replicate t 0))) ∧ Hid (Far w3 p6 a))
      case atStart => exact ⟨0, n1y, k1y, by omega, by omega, Ly, by simpa [OwnN] using ONy, FNy⟩
      case round =>
        clear Ly ONy FNy
        obtain ⟨t, a, c, ht, hkx, HL, HO, HF⟩ := hrel
        obtain ⟨_, c0, c1, c2, c3⟩ := HL.out.cells
        have hln : (x.ns ++ List.replicate t 0).length = x.ns.length + t := by simp
        have hints := ints_of_own hln HO.out
        have HI := Lib.hid hints
        clear hints
        by_cases hle : x.ns.length + t ≤ qn
        · go_wp2_with fail
          refine (check_kk _ x.kind _ a _ c n2y _ k2y n3y _ k3y hln (by omega) HI.out 0 (by rw [HEN.out, if_pos hle])).mono ?_
          rintro e w5 ⟨rfl, hB5⟩
          have HL5 := Lib.hid (HL.out.below hB5)
          have HO5 := Lib.hid (ownsRow_of_block HO.out fun k _ hl => hB5.block k hl)
          clear hB5 c0 c1 c2 c3 HL HO HI
          obtain ⟨_, c0, c1, c2, c3⟩ := HL5.out.cells
          have hf := HL5.out.free
          have hlt5 := lt_of_row HL5.out.row
          have hlen3 : ((x.ns.length + t : Nat) : Int) < 300 := by omega
          have hlen4 : (x.ns.length : Int) + (t : Int) < 300 := by omega
          go_wp2_with (at_builtin; refine wpList_append_any _ rfl (.tmp 31) (.tmp 32) 66 rfl 0 3 i3 (.int .i64 0) 1 8 Try.underlying66 hi3 hz3 hs3 hb3 rfl (by decide) (.slice a (x.ns.length + t) c) (x.ns.length + t) (ivals (x.ns ++ List.replicate t 0)) rfl (HO5.out.alloc _) ⟨w5.heap.size, 0, none⟩ 1 1 [.int .i64 0] rfl rfl (news_one _ _ _) (one_one _) (by unfold maxLen; omega) (by omega) (Nat.zero_le _) ?_; intro a7 cap7 w7 own7 grow7 at7; rw [ownBlock_eq] at grow7 at7; have HL6 := Lib.hid ((HL5.out.below ((Below.refl _ _).alloc (Nat.le_refl _) (.cells #[.int .i64 0] 3))).grown HF.out grow7); have HF7 := Lib.hid (far_grown (HL5.out.below ((Below.refl _ _).alloc (Nat.le_refl _) (.cells #[.int .i64 0] 3))) HF.out at7); have HO7 := Lib.hid own7; obtain ⟨_, d0, d1, d2, d3⟩ := HL6.out.cells; have df := HL6.out.free; have hlt7 := lt_of_row HL6.out.row; clear own7 grow7 at7)
          go_roundg (qn + 1 - (x.ns.length + (t + 1)))
          case measure => omega
          case rel => exact ⟨t + 1, a7, cap7, by omega, by omega, Lib.hid (HL6.out.setN a7 (x.ns.length + t + 1) cap7), Lib.hid (by have := own_setP HO7.out HF7.out 1 (.slice a7 (x.ns.length + t + 1) cap7); rw [ivals_more] at this; exact this), HF7⟩
        · have HE5 : Hid (noteErr x.kind (x.ns ++ List.replicate t 0) x.ids.length x.bs.length = 5) := Lib.hid (by rw [HEN.out, if_neg hle])
          obtain ⟨ly, hly⟩ : ∃ ly, x.ns ++ List.replicate t 0 = ly := ⟨_, rfl⟩
          rw [hly] at HE5 hln HI
          clear hly HO hle hkx
          generalize x.ns.length + t = ny at *
          have hny2 : ny ≤ 129 := by omega
          have Hlny := Lib.hid hln
          clear hln ht
          go_wp2_with fail
          refine (check_kk _ x.kind ly a ny c n2y _ k2y n3y _ k3y Hlny.out (by omega) HI.out 5 HE5.out).mono ?_
          rintro e w5 ⟨rfl, hB5⟩
          have HLy := Lib.hid (HL.out.below hB5)
          have HIy := Lib.hid (HI.out.below hB5 (Nat.le_refl _))
          have HEy : Hid (noteErr x.kind ly x.ids.length x.bs.length = 5) := HE5
          have HB5 := Lib.hid (bel_trans HB3.out HLy.out.bel)
          have R5 := Lib.hid ((HLy.out.bel.block _ (lt_of_row R3.out)).trans R3.out)
          clear hB5 c0 c1 c2 c3 HL HI HF HE5
          have c0 : w5.cell? ⟨w.heap.size, 0, none⟩ = some (.int .i64 x.kind) := by rw [cell_of_row _ _ _ _ _ _ R5.out]; rfl
          have c1 : w5.cell? ⟨w.heap.size, 1, none⟩ = some (.slice aN x.ns.length cN) := by rw [cell_of_row _ _ _ _ _ _ R5.out]; rfl
          have c2 : w5.cell? ⟨w.heap.size, 2, none⟩ = some (.slice aI x.ids.length cI) := by rw [cell_of_row _ _ _ _ _ _ R5.out]; rfl
          have c3 : w5.cell? ⟨w.heap.size, 3, none⟩ = some (.slice aB x.bs.length cB) := by rw [cell_of_row _ _ _ _ _ _ R5.out]; rfl
          go_wp2_with fail
          refine (copy_note_any _ x _ _ _ _ _ _ (HX.out.below HB5.out)).mono ?_
          rintro e wzc ⟨n1z, k1z, n2z, k2z, n3z, k3z, rfl, hC, hB⟩
          have HCz := Lib.hid hC
          have Lz : Hid (Lay w5 (wzc.alloc (.cells #[.int .i64 x.kind, .slice n1z x.ns.length k1z, .slice n2z x.ids.length k2z, .slice n3z x.bs.length k3z] 69)) wzc.heap.size x.kind n1z x.ns.length k1z n2z x.ids.length k2z n3z x.bs.length k3z) := ⟨heap_alloc_new _ _, hB.alloc hB.size _, hB.size⟩
          have FNz : Hid (Far w5 wzc.heap.size n1z) := fun k hk => ⟨hC.nN k hk, by have := ownsRow_blk hC.oN k hk; omega⟩
          have FIz : Hid (Far w5 wzc.heap.size n2z) := fun k hk => ⟨hC.nI k hk, by have := ownsRow_blk hC.oI k hk; omega⟩
          have FBz : Hid (Far w5 wzc.heap.size n3z) := fun k hk => ⟨hC.nB k hk, by have := hC.oB.blk_lt k hk; omega⟩
          have KIz : Hid (Kept (wzc.alloc (.cells #[.int .i64 x.kind, .slice n1z x.ns.length k1z, .slice n2z x.ids.length k2z, .slice n3z x.bs.length k3z] 69)) wzc.heap.size n1z x.ns n2z) := ⟨(OwnN.ints hC.oN).below ((Below.refl _ _).alloc (Nat.le_refl _) _) (Nat.le_refl _), fun j hj => ⟨ownsRow_blk hC.oN j hj, hC.dNI j hj⟩⟩
          have KBz : Hid (Kept (wzc.alloc (.cells #[.int .i64 x.kind, .slice n1z x.ns.length k1z, .slice n2z x.ids.length k2z, .slice n3z x.bs.length k3z] 69)) wzc.heap.size n1z x.ns n3z) := ⟨(OwnN.ints hC.oN).below ((Below.refl _ _).alloc (Nat.le_refl _) _) (Nat.le_refl _), fun j hj => ⟨ownsRow_blk hC.oN j hj, hC.dNB j hj⟩⟩
          have ONz := Lib.hid (hC.oN.alloc (.cells #[.int .i64 x.kind, .slice n1z x.ns.length k1z, .slice n2z x.ids.length k2z, .slice n3z x.bs.length k3z] 69))
          have OIz := Lib.hid (hC.oI.alloc (.cells #[.int .i64 x.kind, .slice n1z x.ns.length k1z, .slice n2z x.ids.length k2z, .slice n3z x.bs.length k3z] 69))
          have OBz := Lib.hid (hC.oB.alloc (.cells #[.int .i64 x.kind, .slice n1z x.ns.length k1z, .slice n2z x.ids.length k2z, .slice n3z x.bs.length k3z] 69))
          clear hC hB c0 c1 c2 c3
          go_wp2_with fail
          generalize hgw : wzc.alloc (.cells #[.int .i64 x.kind, .slice n1z x.ns.length k1z, .slice n2z x.ids.length k2z, .slice n3z x.bs.length k3z] 69) = wzd at *
          generalize hgp : wzc.heap.size = p7 at *
          clear hgw hgp HCz
          go_loopg [37] (qi + 1) (fun kx s wr => ∃ (n : Nat) (l : List (List Int)) (a : Option Addr) (c : Nat), x.ids.length ≤ n ∧ n ≤ qi + 1 ∧ qi + 1 - n ≤ kx ∧ Hid (Lay w5 wr p7 x.kind n1z x.ns.length k1z a n c n3z x.bs.length k3z) ∧
            Hid (wr.ownsRow 0 37 16 (.slice a n c) n (dvals l)) ∧ Hid (Far w5 p7 a) ∧ Hid (Kept wr p7 n1z x.ns a))
          case atStart => exact ⟨x.ids.length, x.ids, n2z, k2z, by omega, by omega, by omega, Lz, OIz, FIz, KIz⟩
          case round =>
            clear Lz OIz FIz KIz
            obtain ⟨n, l, a, c, hn0, hn1, hkx, HL, HO, HF, HK⟩ := hrel
            obtain ⟨_, c0, c1, c2, c3⟩ := HL.out.cells
            by_cases hle : n ≤ qi
            · go_wp2_with fail
              refine (check_kk _ x.kind x.ns n1z _ k1z a n c n3z _ k3z rfl (by omega) HK.out.ints 0 (by rw [HEI.out n hn0, if_pos hle])).mono ?_
              rintro e w8 ⟨rfl, hB8⟩
              have HL5 := Lib.hid (HL.out.below hB8)
              have HO5 := Lib.hid (ownsRow_of_block HO.out fun k _ hl => hB8.block k hl)
              have HK5 := Lib.hid (HK.out.below hB8)
              clear hB8 c0 c1 c2 c3 HL HO HK
              obtain ⟨_, c0, c1, c2, c3⟩ := HL5.out.cells
              have hf := HL5.out.free
              have hlt5 := lt_of_row HL5.out.row
              have hlen3 : (n : Int) < 300 := by omega
              go_wp2_with (at_builtin; refine wpList_append_any _ rfl (.tmp 47) (.tmp 49) 67 rfl 0 37 i37 (.agg (bvals z16).toArray) 16 16 Try.underlying67 hi37 hz37 hs37 hb37 rfl (by decide) (.slice a n c) n (dvals l) rfl (HO5.out.alloc _) ⟨w8.heap.size, 0, none⟩ 1 1 (bvals z16) rfl rfl (news_id _ _ _) (bvals_one _) (by unfold maxLen; omega) (by omega) (Nat.zero_le _) ?_; intro a7 cap7 w7 own7 grow7 at7; rw [ownBlock_eq] at grow7 at7; have HL6 := Lib.hid ((HL5.out.below ((Below.refl _ _).alloc (Nat.le_refl _) (.cells (bvals z16).toArray 37))).grown HF.out grow7); have HF7 := Lib.hid (far_grown (HL5.out.below ((Below.refl _ _).alloc (Nat.le_refl _) (.cells (bvals z16).toArray 37))) HF.out at7); have HK7 := Lib.hid ((HK5.out.below ((Below.refl _ _).alloc (Nat.le_refl _) (.cells (bvals z16).toArray 37))).grown (by simp; omega) grow7 at7); have HO7 := Lib.hid own7; obtain ⟨_, d0, d1, d2, d3⟩ := HL6.out.cells; have df := HL6.out.free; have hlt7 := lt_of_row HL6.out.row; clear own7 grow7 at7)
              go_roundg (qi + 1 - (n + 1))
              case measure => omega
              case rel => exact ⟨n + 1, l ++ [z16], a7, cap7, by omega, by omega, by omega, Lib.hid (HL6.out.setI a7 (n + 1) cap7), Lib.hid (by have := own_setP HO7.out HF7.out 2 (.slice a7 (n + 1) cap7); rw [dvals, List.flatMap_append]; simpa [dvals] using this), HF7, Lib.hid (HK7.out.setP 2 _)⟩
            · go_wp2_with fail
              refine (check_kk _ x.kind x.ns n1z _ k1z a n c n3z _ k3z rfl (by omega) HK.out.ints 5 (by rw [HEI.out n hn0, if_neg hle])).mono ?_
              rintro e w8 ⟨rfl, hB8⟩
              have HLz := Lib.hid (HL.out.below hB8)
              have HIz := Lib.hid (HK.out.ints.below hB8 (Nat.le_refl _))
              have HEz : Hid (noteErr x.kind x.ns n x.bs.length = 5) := Lib.hid (by rw [HEI.out n hn0, if_neg hle])
              have HB8 := Lib.hid (bel_trans HB5.out HLz.out.bel)
              have R8 := Lib.hid ((HLz.out.bel.block _ (lt_of_row R5.out)).trans R5.out)
              have HLy8 := Lib.hid (HLy.out.below HLz.out.bel)
              have HIy8 := Lib.hid (HIy.out.below HLz.out.bel (Nat.le_refl _))
              clear hB8 c0 c1 c2 c3 HL HO HK HF hle hkx HLy HIy
              have c0 : w8.cell? ⟨w.heap.size, 0, none⟩ = some (.int .i64 x.kind) := by rw [cell_of_row _ _ _ _ _ _ R8.out]; rfl
              have c1 : w8.cell? ⟨w.heap.size, 1, none⟩ = some (.slice aN x.ns.length cN) := by rw [cell_of_row _ _ _ _ _ _ R8.out]; rfl
              have c2 : w8.cell? ⟨w.heap.size, 2, none⟩ = some (.slice aI x.ids.length cI) := by rw [cell_of_row _ _ _ _ _ _ R8.out]; rfl
              have c3 : w8.cell? ⟨w.heap.size, 3, none⟩ = some (.slice aB x.bs.length cB) := by rw [cell_of_row _ _ _ _ _ _ R8.out]; rfl
              go_wp2_with fail
              refine (copy_note_any _ x _ _ _ _ _ _ (HX.out.below HB8.out)).mono ?_
              rintro e wvc ⟨n1v, k1v, n2v, k2v, n3v, k3v, rfl, hC, hB⟩
              have HCv := Lib.hid hC
              have Lv : Hid (Lay w8 (wvc.alloc (.cells #[.int .i64 x.kind, .slice n1v x.ns.length k1v, .slice n2v x.ids.length k2v, .slice n3v x.bs.length k3v] 69)) wvc.heap.size x.kind n1v x.ns.length k1v n2v x.ids.length k2v n3v x.bs.length k3v) := ⟨heap_alloc_new _ _, hB.alloc hB.size _, hB.size⟩
              have FNv : Hid (Far w8 wvc.heap.size n1v) := fun k hk => ⟨hC.nN k hk, by have := ownsRow_blk hC.oN k hk; omega⟩
              have FIv : Hid (Far w8 wvc.heap.size n2v) := fun k hk => ⟨hC.nI k hk, by have := ownsRow_blk hC.oI k hk; omega⟩
              have FBv : Hid (Far w8 wvc.heap.size n3v) := fun k hk => ⟨hC.nB k hk, by have := hC.oB.blk_lt k hk; omega⟩
              have KIv : Hid (Kept (wvc.alloc (.cells #[.int .i64 x.kind, .slice n1v x.ns.length k1v, .slice n2v x.ids.length k2v, .slice n3v x.bs.length k3v] 69)) wvc.heap.size n1v x.ns n2v) := ⟨(OwnN.ints hC.oN).below ((Below.refl _ _).alloc (Nat.le_refl _) _) (Nat.le_refl _), fun j hj => ⟨ownsRow_blk hC.oN j hj, hC.dNI j hj⟩⟩
              have KBv : Hid (Kept (wvc.alloc (.cells #[.int .i64 x.kind, .slice n1v x.ns.length k1v, .slice n2v x.ids.length k2v, .slice n3v x.bs.length k3v] 69)) wvc.heap.size n1v x.ns n3v) := ⟨(OwnN.ints hC.oN).below ((Below.refl _ _).alloc (Nat.le_refl _) _) (Nat.le_refl _), fun j hj => ⟨ownsRow_blk hC.oN j hj, hC.dNB j hj⟩⟩
              have ONv := Lib.hid (hC.oN.alloc (.cells #[.int .i64 x.kind, .slice n1v x.ns.length k1v, .slice n2v x.ids.length k2v, .slice n3v x.bs.length k3v] 69))
              have OIv := Lib.hid (hC.oI.alloc (.cells #[.int .i64 x.kind, .slice n1v x.ns.length k1v, .slice n2v x.ids.length k2v, .slice n3v x.bs.length k3v] 69))
              have OBv := Lib.hid (hC.oB.alloc (.cells #[.int .i64 x.kind, .slice n1v x.ns.length k1v, .slice n2v x.ids.length k2v, .slice n3v x.bs.length k3v] 69))
              clear hC hB c0 c1 c2 c3
              go_wp2_with fail
              generalize hgw : wvc.alloc (.cells #[.int .i64 x.kind, .slice n1v x.ns.length k1v, .slice n2v x.ids.length k2v, .slice n3v x.bs.length k3v] 69) = wvd at *
              generalize hgp : wvc.heap.size = p8 at *
              clear hgw hgp HCv
              go_loopg [54] (qb + 1) (fun kx s wr => ∃ (l : List Int) (a : Option Addr) (c : Nat), x.bs.length ≤ l.length ∧ l.length ≤ qb + 1 ∧ qb + 1 - l.length ≤ kx ∧ Hid (Lay w8 wr p8 x.kind n1v x.ns.length k1v n2v x.ids.length k2v a l.length c) ∧
                Hid (Owns wr a c l) ∧ Hid (Far w8 p8 a) ∧ Hid (Kept wr p8 n1v x.ns a))
              case atStart => exact ⟨x.bs, n3v, k3v, by omega, by omega, by omega, Lv, OBv, FBv, KBv⟩
              case round =>
                clear Lv OBv FBv KBv
                obtain ⟨l, a, c, hn0, hn1, hkx, HL, HO, HF, HK⟩ := hrel
                obtain ⟨_, c0, c1, c2, c3⟩ := HL.out.cells
                by_cases hle : l.length ≤ qb
                · go_wp2_with fail
                  refine (check_kk _ x.kind x.ns n1v _ k1v n2v _ k2v a _ c rfl (by omega) HK.out.ints 0 (by rw [HEB.out _ hn0, if_pos hle])).mono ?_
                  rintro e w9 ⟨rfl, hB9⟩
                  have HL5 := Lib.hid (HL.out.below hB9)
                  have HO5 := Lib.hid (HO.out.of_block fun k _ hl => hB9.block k hl)
                  have HK5 := Lib.hid (HK.out.below hB9)
                  clear hB9 c0 c1 c2 c3 HL HO HK
                  obtain ⟨_, c0, c1, c2, c3⟩ := HL5.out.cells
                  have hf := HL5.out.free
                  have hlt5 := lt_of_row HL5.out.row
                  have hlen3 : (l.length : Int) < 3000 := by omega
                  go_wp2_with (at_builtin; refine wpList_append_bytes _ rfl (.tmp 64) (.tmp 65) rfl a c l rfl (HO5.out.of_block fun k _ hl => Below.heap_alloc _ _ _ hl) (some ⟨w9.heap.size, 0, none⟩) 1 [0] rfl (.inr (BytesAt.lit w9 [0] 5)) (by simp; omega) ?_; intro a7 cap7 w7 own7 grow7 at7; have HL6 := Lib.hid ((HL5.out.below ((Below.refl _ _).alloc (Nat.le_refl _) (.cells (bvals [0]).toArray 5))).grown HF.out grow7); have HF7 := Lib.hid (far_grown (HL5.out.below ((Below.refl _ _).alloc (Nat.le_refl _) (.cells (bvals [0]).toArray 5))) HF.out at7); have HK7 := Lib.hid ((HK5.out.below ((Below.refl _ _).alloc (Nat.le_refl _) (.cells (bvals [0]).toArray 5))).grown (by simp; omega) grow7 at7); have HO7 := Lib.hid own7; obtain ⟨_, d0, d1, d2, d3⟩ := HL6.out.cells; have df := HL6.out.free; have hlt7 := lt_of_row HL6.out.row; clear own7 grow7 at7)
                  have hll : (l ++ [0]).length = l.length + 1 := by simp
                  go_roundg (qb + 1 - (l.length + 1))
                  case measure => omega
                  case rel => exact ⟨l ++ [0], a7, cap7, by omega, by omega, by omega, Lib.hid (by rw [hll]; exact HL6.out.setB a7 (l.length + 1) cap7), Lib.hid (by have := own_setP (i := 3) (v := .slice a7 (l.length + 1) cap7) HO7.out HF7.out; exact this), HF7, Lib.hid (HK7.out.setP 3 _)⟩
                · have HEw0 : Hid (noteErr x.kind x.ns x.ids.length l.length = 5) := Lib.hid (by rw [HEB.out _ hn0, if_neg hle])
                  have HEw := HEw0
                  clear HO HEw0
                  generalize l.length = nb at *
                  go_wp2_with fail
                  refine (check_kk _ x.kind x.ns n1v _ k1v n2v _ k2v a nb c rfl (by omega) HK.out.ints 5 HEw.out).mono ?_
                  rintro e w9 ⟨rfl, hB9⟩
                  have HLw := Lib.hid (HL.out.below hB9)
                  have HIw := Lib.hid (HK.out.ints.below hB9 (Nat.le_refl _))
                  have HB9 := Lib.hid (bel_trans HB8.out HLw.out.bel)
                  have R9 := Lib.hid ((HLw.out.bel.block _ (lt_of_row R8.out)).trans R8.out)
                  have HLy9 := Lib.hid (HLy8.out.below HLw.out.bel)
                  have HIy9 := Lib.hid (HIy8.out.below HLw.out.bel (Nat.le_refl _))
                  have HLz9 := Lib.hid (HLz.out.below HLw.out.bel)
                  have HIz9 := Lib.hid (HIz.out.below HLw.out.bel (Nat.le_refl _))
                  clear hB9 c0 c1 c2 c3 HL HK HF hle hkx HLz HIz HLy8 HIy8 hn0
                  have c0 : w9.cell? ⟨w.heap.size, 0, none⟩ = some (.int .i64 x.kind) := by rw [cell_of_row _ _ _ _ _ _ R9.out]; rfl
                  have c1 : w9.cell? ⟨w.heap.size, 1, none⟩ = some (.slice aN x.ns.length cN) := by rw [cell_of_row _ _ _ _ _ _ R9.out]; rfl
                  have c2 : w9.cell? ⟨w.heap.size, 2, none⟩ = some (.slice aI x.ids.length cI) := by rw [cell_of_row _ _ _ _ _ _ R9.out]; rfl
                  have c3 : w9.cell? ⟨w.heap.size, 3, none⟩ = some (.slice aB x.bs.length cB) := by rw [cell_of_row _ _ _ _ _ _ R9.out]; rfl
                  have HLw9 := HLw
                  have HIw9 := HIw
                  clear HLw HIw
                  obtain ⟨_, y0, y1, y2, y3⟩ := HLy9.out.cells
                  obtain ⟨_, z0, z1, z2, z3⟩ := HLz9.out.cells
                  obtain ⟨_, v0, v1, v2, v3⟩ := HLw9.out.cells
                  have hg1 : ¬ (129 : Int) < (ny : Int) := by omega
                  have hg2 : ¬ (17 : Int) < (n : Int) := by omega
                  have hg3 : ¬ (1025 : Int) < (nb : Int) := by omega
                  by_cases hpos : 0 < x.ns.length
                  · have hposz : (0 : Int) < (x.ns.length : Int) := by omega
                    go_wp2_with fail
                    refine (copy_note_any _ x _ _ _ _ _ _ (HX.out.below HB9.out)).mono ?_
                    rintro e wuc ⟨n1u, k1u, n2u, k2u, n3u, k3u, rfl, hC, hB⟩
                    have HCu := Lib.hid hC
                    have Lu : Hid (Lay w9 (wuc.alloc (.cells #[.int .i64 x.kind, .slice n1u x.ns.length k1u, .slice n2u x.ids.length k2u, .slice n3u x.bs.length k3u] 69)) wuc.heap.size x.kind n1u x.ns.length k1u n2u x.ids.length k2u n3u x.bs.length k3u) := ⟨heap_alloc_new _ _, hB.alloc hB.size _, hB.size⟩
                    have FNu : Hid (Far w9 wuc.heap.size n1u) := fun k hk => ⟨hC.nN k hk, by have := ownsRow_blk hC.oN k hk; omega⟩
                    have FIu : Hid (Far w9 wuc.heap.size n2u) := fun k hk => ⟨hC.nI k hk, by have := ownsRow_blk hC.oI k hk; omega⟩
                    have FBu : Hid (Far w9 wuc.heap.size n3u) := fun k hk => ⟨hC.nB k hk, by have := hC.oB.blk_lt k hk; omega⟩
                    have KIu : Hid (Kept (wuc.alloc (.cells #[.int .i64 x.kind, .slice n1u x.ns.length k1u, .slice n2u x.ids.length k2u, .slice n3u x.bs.length k3u] 69)) wuc.heap.size n1u x.ns n2u) := ⟨(OwnN.ints hC.oN).below ((Below.refl _ _).alloc (Nat.le_refl _) _) (Nat.le_refl _), fun j hj => ⟨ownsRow_blk hC.oN j hj, hC.dNI j hj⟩⟩
                    have KBu : Hid (Kept (wuc.alloc (.cells #[.int .i64 x.kind, .slice n1u x.ns.length k1u, .slice n2u x.ids.length k2u, .slice n3u x.bs.length k3u] 69)) wuc.heap.size n1u x.ns n3u) := ⟨(OwnN.ints hC.oN).below ((Below.refl _ _).alloc (Nat.le_refl _) _) (Nat.le_refl _), fun j hj => ⟨ownsRow_blk hC.oN j hj, hC.dNB j hj⟩⟩
                    have ONu := Lib.hid (hC.oN.alloc (.cells #[.int .i64 x.kind, .slice n1u x.ns.length k1u, .slice n2u x.ids.length k2u, .slice n3u x.bs.length k3u] 69))
                    have OIu := Lib.hid (hC.oI.alloc (.cells #[.int .i64 x.kind, .slice n1u x.ns.length k1u, .slice n2u x.ids.length k2u, .slice n3u x.bs.length k3u] 69))
                    have OBu := Lib.hid (hC.oB.alloc (.cells #[.int .i64 x.kind, .slice n1u x.ns.length k1u, .slice n2u x.ids.length k2u, .slice n3u x.bs.length k3u] 69))
                    clear hC hB c0 c1 c2 c3 y0 y1 y2 y3 z0 z1 z2 z3 v0 v1 v2 v3
                    go_wp2_with fail
                    generalize hgw : wuc.alloc (.cells #[.int .i64 x.kind, .slice n1u x.ns.length k1u, .slice n2u x.ids.length k2u, .slice n3u x.bs.length k3u] 69) = wud at *
                    generalize hgp : wuc.heap.size = p9 at *
                    clear hgw hgp HCu
                    obtain ⟨_, c0, c1, c2, c3⟩ := Lu.out.cells
                    obtain ⟨pp, hpp⟩ : ∃ pp, pickF wh x.ns.length = pp := ⟨_, rfl⟩
                    have hplt : pp < x.ns.length := by rw [← hpp]; exact pickF_lt wh _ hpos
                    obtain ⟨g, rfl, hgl, hgc, hgf, hgi⟩ := OwnN.set ONu.out pp hplt (-1)
                    have Hgi := Lib.hid hgi
                    have Hpp := Lib.hid hpp
                    have hpltz : (pp : Int) < (x.ns.length : Int) := by omega
                    have hgfar := FNu.out g rfl
                    have hgp9 : p9 ≠ g := fun e => hgfar.2 e.symm
                    clear hgi hpp
                    refine wp_region_held_drew (S := fun w' => w'.cell? ⟨p9, 1, none⟩ = some (.slice (some ⟨g, 0, none⟩) x.ns.length k1u)) mixed c1 (fun hS => ?_)
                    refine wpAnyH_take (i := 0) (v := .pointer (some ⟨p9, 1, none⟩)) rfl (by kernel_rfl) (by kernel_rfl) (by kernel_rfl) (fun c a w h => h) (.inl ⟨rfl, fun w hw => by simp [go_sem]⟩) hS ?_
                    refine wpAnyH_take (i := 1) (v := .slice (some ⟨g, 0, none⟩) x.ns.length k1u) rfl (by kernel_rfl) (by kernel_rfl) (by kernel_rfl) (fun c a w h => h) (.inl ⟨rfl, fun w hw => by simp [go_sem, hw]⟩) hS ?_
                    refine wpAnyH_take (i := 2) (v := .int .i64 wh) rfl (by kernel_rfl) (by kernel_rfl) (by kernel_rfl) (fun c a w h => h) (.inl ⟨rfl, fun w hw => by simp [go_sem]⟩) hS ?_
                    refine wpAnyH_take (i := 3) (v := .pointer (some ⟨p9, 1, none⟩)) rfl (by kernel_rfl) (by kernel_rfl) (by kernel_rfl) (fun c a w h => h) (.inl ⟨rfl, fun w hw => by simp [go_sem]⟩) hS ?_
                    refine wpAnyH_take (i := 4) (v := .slice (some ⟨g, 0, none⟩) x.ns.length k1u) rfl (by kernel_rfl) (by kernel_rfl) (by kernel_rfl) (fun c a w h => h) (.inl ⟨rfl, fun w hw => by simp [go_sem, hw]⟩) hS ?_
                    refine wpAnyH_all (rs := [5]) (by kernel_rfl) (by simp) (fun i hi => ?_)
                    obtain rfl : i = 5 := by simpa using hi
                    refine wpOp_step rfl (fun K hK => ?_)
                    have HK := Lib.hid hK
                    clear hK
                    go_simp
                    with_reducible refine HK.out _ _ ⟨hS, ?_⟩
                    clear HK
                    refine wpAnyH_all (rs := [6]) (by kernel_rfl) (by simp) (fun i hi => ?_)
                    obtain rfl : i = 6 := by simpa using hi
                    refine wpOp_step rfl (fun K hK => ?_)
                    have HK := Lib.hid hK
                    clear hK
                    go_simp
                    refine (pick_k wh x.ns.length pp _ hpos (by omega) Hpp.out).mono ?_
                    rintro e w10 ⟨rfl, rfl⟩
                    with_reducible refine HK.out _ _ ⟨hS, ?_⟩
                    clear HK
                    refine wpAnyH_all (rs := [7]) (by kernel_rfl) (by simp) (fun i hi => ?_)
                    obtain rfl : i = 7 := by simpa using hi
                    refine wpOp_step rfl (fun K hK => ?_)
                    have HK := Lib.hid hK
                    clear hK
                    go_simp
                    with_reducible refine HK.out _ _ ⟨hS, ?_⟩
                    clear HK
                    refine wpAnyH_all (rs := [8]) (by kernel_rfl) (by simp) (fun i hi => ?_)
                    obtain rfl : i = 8 := by simpa using hi
                    refine wpOp_step rfl (fun K hK => ?_)
                    have HK := Lib.hid hK
                    clear hK
                    go_simp
                    with_reducible refine HK.out _ _ ⟨(noteRow_cells (row_drew ((heap_setCell_other _ _ _ _ (by simp only; omega)).trans Lu.out.row))).2.1, ?_⟩
                    clear HK
                    refine wpAnyH_done (by kernel_rfl) ?_ _
                    have Lu2 : Hid (Lay w9 ((wud.setCell ⟨g, pp, none⟩ (.int .i64 (-1))).drew) p9 x.kind (some ⟨g, 0, none⟩) x.ns.length k1u n2u x.ids.length k2u n3u x.bs.length k3u) := ⟨row_drew ((heap_setCell_other _ _ _ _ (by simp only; omega)).trans Lu.out.row), below_drew (Lu.out.bel.setCell (p := ⟨g, pp, none⟩) hgfar.1 _), Lu.out.pg⟩
                    have HIu2 : Hid (IntsAt ((wud.setCell ⟨g, pp, none⟩ (.int .i64 (-1))).drew) (some ⟨g, 0, none⟩) (x.ns.set pp (-1))) := Hgi.out.below (below_drew (Below.refl _ _)) (Nat.le_refl _)
                    clear c0 c1 c2 c3 hgc hgf Hgi
                    obtain ⟨_, c0, c1, c2, c3⟩ := Lu2.out.cells
                    generalize (wud.setCell ⟨g, pp, none⟩ (.int .i64 (-1))).drew = w13 at *
                    go_wp2_with fail
                    refine (check_kk w13 x.kind (x.ns.set pp (-1)) _ _ _ _ _ _ _ _ _ (by rw [List.length_set]) (by omega) HIu2.out 5 (HEV.out pp hplt)).mono ?_
                    rintro e w14 ⟨rfl, hB14⟩
                    have HBS := Lib.hid (bel_trans HB9.out (Lu2.out.bel.trans (hB14.mono Lu2.out.bel.size)))
                    have hbb : Below w9.heap.size w9 w14 := Lu2.out.bel.trans (hB14.mono Lu2.out.bel.size)
                    have HLyS := Lib.hid (HLy9.out.below hbb)
                    have HLzS := Lib.hid (HLz9.out.below hbb)
                    have HLwS := Lib.hid (HLw9.out.below hbb)
                    have HIyS := Lib.hid (HIy9.out.below hbb (Nat.le_refl _))
                    have HIzS := Lib.hid (HIz9.out.below hbb (Nat.le_refl _))
                    have HIwS := Lib.hid (HIw9.out.below hbb (Nat.le_refl _))
                    clear hB14 hbb c0 c1 c2 c3
                    obtain ⟨_, y0, y1, y2, y3⟩ := HLyS.out.cells
                    go_wp2_with fail
                    refine (check_kk _ x.kind _ _ _ _ _ _ _ _ _ _ Hlny.out (by omega) HIyS.out 5 HEy.out).mono ?_
                    rintro e w10 ⟨rfl, hBa⟩
                    have HBa := Lib.hid hBa
                    have HLzA := Lib.hid (HLzS.out.below hBa)
                    have HLwA := Lib.hid (HLwS.out.below hBa)
                    clear hBa y0 y1 y2 y3
                    obtain ⟨_, z0, z1, z2, z3⟩ := HLzA.out.cells
                    go_wp2_with fail
                    refine (check_kk _ x.kind _ _ _ _ _ _ _ _ _ _ rfl (by omega) (HIzS.out.below HBa.out (Nat.le_refl _)) 5 HEz.out).mono ?_
                    rintro e w11 ⟨rfl, hBb⟩
                    have HBb := Lib.hid (bel_trans HBa.out hBb)
                    have HLwB := Lib.hid (HLwA.out.below hBb)
                    clear hBb z0 z1 z2 z3
                    obtain ⟨_, v0, v1, v2, v3⟩ := HLwB.out.cells
                    go_wp2_with fail
                    refine (check_kk _ x.kind _ _ _ _ _ _ _ _ _ _ rfl (by omega) (HIwS.out.below HBb.out (Nat.le_refl _)) 5 HEw.out).mono ?_
                    rintro e w12 ⟨rfl, hBc⟩
                    have HBc := Lib.hid (bel_trans HBS.out (bel_trans HBb.out hBc))
                    clear hBc v0 v1 v2 v3
                    go_wp2_with fail
                    go_ret
                    exact ⟨rfl, HBc.out⟩
                  · have hposz : ¬ (0 : Int) < (x.ns.length : Int) := by omega
                    have HBS := HB9
                    have HLyS := HLy9
                    have HLzS := HLz9
                    have HLwS := HLw9
                    have HIyS := HIy9
                    have HIzS := HIz9
                    have HIwS := HIw9
                    go_wp2_with fail
                    refine (check_kk _ x.kind _ _ _ _ _ _ _ _ _ _ Hlny.out (by omega) HIyS.out 5 HEy.out).mono ?_
                    rintro e w10 ⟨rfl, hBa⟩
                    have HBa := Lib.hid hBa
                    have HLzA := Lib.hid (HLzS.out.below hBa)
                    have HLwA := Lib.hid (HLwS.out.below hBa)
                    clear hBa c0 c1 c2 c3 y0 y1 y2 y3 z0 z1 z2 z3 v0 v1 v2 v3
                    obtain ⟨_, z0, z1, z2, z3⟩ := HLzA.out.cells
                    go_wp2_with fail
                    refine (check_kk _ x.kind _ _ _ _ _ _ _ _ _ _ rfl (by omega) (HIzS.out.below HBa.out (Nat.le_refl _)) 5 HEz.out).mono ?_
                    rintro e w11 ⟨rfl, hBb⟩
                    have HBb := Lib.hid (bel_trans HBa.out hBb)
                    have HLwB := Lib.hid (HLwA.out.below hBb)
                    clear hBb z0 z1 z2 z3
                    obtain ⟨_, v0, v1, v2, v3⟩ := HLwB.out.cells
                    go_wp2_with fail
                    refine (check_kk _ x.kind _ _ _ _ _ _ _ _ _ _ rfl (by omega) (HIwS.out.below HBb.out (Nat.le_refl _)) 5 HEw.out).mono ?_
                    rintro e w12 ⟨rfl, hBc⟩
                    have HBc := Lib.hid (bel_trans HBS.out (bel_trans HBb.out hBc))
                    clear hBc v0 v1 v2 v3
                    go_wp2_with fail
                    go_ret
                    exact ⟨rfl, HBc.out⟩
    · have hneb : (E != 0) = true := by simpa using he
      go_wp2_with fail
      go_ret
      exact ⟨rfl, HB3.out⟩

end Go.Proofs.Ytkfhljggdcajpaa
