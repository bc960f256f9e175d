/-
  The law FieldWrites's walk. (Made by gen/writes.py)
-/
import Derived.Test.YtkfhljggdcajpaaFw
namespace Go.Proofs.Ytkfhljggdcajpaa
open Go.RowKit

theorem Full.below {w w' : World} {a : Option Addr} {cap : Nat} {bs : List Int} (h : Full w a cap bs) (hb : Below w.heap.size w w') : Full w' a cap bs := by
  rcases h with h | ⟨g, zs, h1, h2, h3⟩
  · exact .inl h
  · exact .inr ⟨g, zs, h1, h2.below hb, h3⟩
theorem RowB.src {w : World} {g : Nat} {xs ys : List Int} (h : RowB w g (xs ++ ys)) : Src w (some ⟨g, 0, none⟩) xs := by
  have e := h.bytes.take xs.length
  rw [List.take_left] at e
  exact .inr e
/-- both writers are asked: they tell the same -/
theorem outs_gen {w : World} {b : Nat} {bad : Bool} {a : Option Addr} {cap : Nat} {bs : List Int} (hw : WAt w b bad a cap bs) (hlen : bs.length ≤ 140737488355328) :
    ∃ (bo : List Int) (eo : Int), Calls Try.prog 33 #[.pointer (some ⟨b, 0, none⟩)] w (fun e w' => ToldF w bo eo e w') ∧
      ∀ (w' : World) (x : Nat) (a2 : Option Addr) (cap2 : Nat), XAt w' x bad a2 cap2 bs → Calls Try.prog 34 #[.pointer (some ⟨x, 0, none⟩)] w' fun e w'' => Told w' bo eo e w'' :=
  ⟨_, _, outf_any w b bad a cap bs hw hlen, fun w' x a2 cap2 hx => xout_any w' x bad a2 cap2 bs hx hlen⟩
theorem quiet_same {P : Program} {f : FuncId} {args : Array Value} {w : World} {n : Nat} {v : Value}
    (h : Calls P f args (w.drewN n) fun e w' => e = .returned v ∧ w.drewN n = w') : Calls P f args (w.drewN n) fun e w'' => e = .returned v ∧ ∃ m, w'' = w.drewN m :=
  h.mono fun _ _ ⟨he, hm⟩ => ⟨he, n, hm.symm⟩
theorem put_le5 (n : Int) : (put n).length ≤ 5 := by rw [put_length]; unfold sizeN; (repeat' split) <;> omega
theorem id_range {w : World} {g o : Nat} {t : Act1} (h : ActIn w g o t) : w.rangeAt g (o + 4) (bvals t.id) := fun j v hj => by
  have hjl : j < t.id.length := by have := (List.getElem?_eq_some_iff.1 hj).1; simpa [bvals] using this
  rw [h.id j (by rw [← h.id16]; exact hjl), ← hj]
  simp [bvals, List.getD, hjl]

set_option maxRecDepth 100000 in
set_option maxHeartbeats 6400000 in
theorem writes_law (w0 : World) (g off cap : Nat) (l : List Act1) (h : ActsAt w0 g off l) :
    Calls Try.prog 4 #[.slice (some ⟨g, off, none⟩) l.length cap] w0 fun e w' => e = .returned (.bool true) ∧ Below w0.heap.size w0 w' := by
  have hb1 : Below w0.heap.size w0 (w0.alloc (.cells #[.bool true, .bool false, .slice none 0 0] 60)) := below_al (Below.refl _ _) _
  have hlg : ∀ (w' : World), Below w0.heap.size w0 w' → Calls Try.prog 21 #[.slice (some ⟨g, off, none⟩) l.length cap] w' fun e w'' => Large l w' e w'' := fun w' hb =>
    large_any w' g off cap l fun i t ht => (h i t ht).below hb
  have HL := Lib.hid (hlg _ hb1)
  have HB1 := Lib.hid hb1
  have HF := Lib.hid (FW.start w0)
  have HA := Lib.hid h
  clear hlg hb1 h
  go_enter Try.func4, Try.ntmps4
  go_wp2_with fail
  refine (new_any _).mono ?_
  rintro e w1 ⟨rfl, rfl⟩
  go_wp2_with fail
  refine HL.out.mono ?_
  rintro e w1 ⟨r, rfl, rfl, hr⟩
  cases r
  · obtain ⟨hl40, hl3⟩ := hr rfl
    clear hr
    go_wp2_with fail
    refine wp_at _ (fun W hW => ?_)
    have HF : Hid (FW w0 W w0.heap.size (w0.heap.size + 1) false none 0 [] false none 0 []) := by rw [hW]; exact HF
    clear hW HL HB1
    go_loopw [5] (fun s5 wr => ∃ k : Nat, k ≤ l.length ∧ s5 = .int .i64 (k : Int) ∧ Hid (∃ bad a1 cap1 a2 cap2 bs, FW w0 wr w0.heap.size (w0.heap.size + 1) bad a1 cap1 bs bad a2 cap2 bs ∧ bs.length ≤ k * 4000)) (fun s5 _ => (l.length - intOf s5).toNat)
    case atStart => exact ⟨0, by omega, rfl, Lib.hid ⟨_, _, _, _, _, _, HF.out, by simp⟩⟩
    case round =>
      obtain ⟨k, hk, rfl, HK⟩ := hrel
      obtain ⟨bad, a1, cap1, a2, cap2, bs, hF, hbl⟩ := HK.out
      clear HK
      by_cases hlt : k < l.length
      · obtain ⟨t, ht⟩ : ∃ t, l[k]? = some t := ⟨_, List.getElem?_eq_getElem hlt⟩
        have HT := Lib.hid (HA.out k t ht)
        have hx3 : t.xs.length ≤ 3000 := by have := lens_get l k t ht; omega
        have HF0 := Lib.hid hF
        have hbs : bs.length ≤ 160000 := by omega
        have hA := HT.out.below hF.below
        have c0 := hA.kind
        have c3 := hA.xs
        clear hF ht
        go_wp2_with fail
        refine (lent_any _ _ _ _ hA.src (by omega)).mono ?_
        rintro e w1 ⟨rfl, hrow, hb1, hs1⟩
        have HS := Lib.hid (HF0.out.lent hb1 hrow)
        clear hrow c0 c3 hA HF0
        generalize hgl : wr.heap.size = gl at HS
        have HGL := Lib.hid hgl
        clear hgl hb1 hs1
        have hA1 := HT.out.below HS.out.F.below
        have d0 := hA1.kind
        have d1 := hA1.n
        have d3 := hA1.xs
        have HA1 := Lib.hid hA1
        clear hA1
        by_cases k0 : t.kind = 0
        · have hlb : (bs ++ put t.n).length ≤ bs.length + 3005 := by have := put_le5 t.n; rw [List.length_append]; omega
          go_wp2_with (fail)
          refine (wint_any _ _ _ _ _ _ _ HS.out.F.W (by omega)).mono ?_
          intro e w2 hw2
          obtain ⟨b1, kap1, rfl, hS2⟩ := HS.out.wrote hw2
          have HS2 := Lib.hid hS2
          have HA2 := Lib.hid (HT.out.below hS2.F.below)
          clear hw2 hS2 d0 d1 d3
          have d1 := HA2.out.n
          have d3 := HA2.out.xs
          go_wp2_with (fail)
          refine (xint_any _ _ _ _ _ _ _ HS2.out.F.X (by omega)).mono ?_
          intro e w3 hw3
          obtain ⟨b2, kap2, rfl, hS3⟩ := HS2.out.xwrote hw3
          have HS3 := Lib.hid hS3
          clear hw3 hS3 d1 d3 HS HS2 HA1 HA2
          have hA2 := HT.out.below HS3.out.F.below
          have HA3 := Lib.hid hA2
          clear hA2
          have e3 := HA3.out.xs
          go_wp2_with fail
          refine (kept_m _ _ _ _ _ _ _ HA3.out.xsb rfl rfl HS3.out.G HA3.out.src (by omega)).mono ?_
          rintro e w5 ⟨rfl, hb5⟩
          have HS5 := Lib.hid (HS3.out.to hb5)
          have hful5 := HS5.out.G.full (by rw [List.length_append]; simp only [marks, List.length_cons, List.length_nil, maxLen]; omega)
          have HFul5 := Lib.hid hful5
          clear e3 hb5 hful5
          go_wp2_with fail
          refine (over_any _ _ _ _ HFul5.out).mono ?_
          rintro e w6 ho6
          obtain ⟨rfl, hF6⟩ := HS5.out.over ho6
          have HF6 := Lib.hid hF6
          clear ho6 hF6 HS5 HS3 HFul5 HA3
          obtain ⟨bo, eo, hto, htx⟩ := outs_gen HF6.out.W (by omega)
          have HTO := Lib.hid hto
          have HTX := Lib.hid htx
          clear hto htx
          go_wp2_with fail
          refine HTO.out.mono ?_
          rintro e w7 ⟨ao, capo, rfl, hful7, hby7, hb7, hn7⟩
          have HF7 := Lib.hid (HF6.out.to hb7)
          have HB7 := Lib.hid hb7
          have HFul7 := Lib.hid hful7
          clear hb7 hful7
          go_wp2_with fail
          refine (HTX.out _ _ _ _ HF7.out.X).mono ?_
          rintro e w8 ⟨ap, capp, rfl, own8, hby8, hb8, hn8⟩
          have HFul8 := Lib.hid (HFul7.out.below hb8)
          have HB8 := Lib.hid (HB7.out.trans (hb8.mono HB7.out.size))
          have HO8 := Lib.hid own8
          have HF8 := Lib.hid (HF7.out.to hb8)
          have hA8 := HT.out.below HF8.out.below
          have d1 := hA8.n
          clear own8 hb8 hA8 HF7 HB7 HFul7 HTO HTX
          go_wp2_with fail
          have hee : (eo == eo) = true := beq_self_eq_true eo
          have q0 : (0 : Int) ≤ k := by omega
          have q1 : (k : Int) < l.length := by omega
          have HBA : Hid (∀ n, BytesAt (w8.drewN n) ao bo) := Lib.hid fun n => HFul8.out.owns.bytes.below (below_drewN _ _ n)
          have HBP : Hid (∀ n, BytesAt (w8.drewN n) ap bo) := Lib.hid fun n => HO8.out.bytes.below (below_drewN _ _ n)
          go_quiet ((first
            | (go_at_call 19; exact quiet_same (same_m _ _ _ _ _ _ _ rfl hby7 (HBA.out _) (HBP.out _)))
            | (go_at_call 18; exact quiet_same (size_any _ _))
            | (go_at_call 35; exact quiet_same (rsize_any _ _))))
          go_wp2_with fail
          refine (over_any _ _ _ _ (HFul8.out.below (below_drewN _ _ _))).mono ?_
          rintro e w9 ho9
          obtain ⟨rfl, hF9⟩ := HF6.out.over_new (HB8.out.trans (below_drewN _ _ _)) ho9 hn7
          have HF9 := Lib.hid hF9
          clear hF9 ho9 HF6
          go_wp2_with fail
          go_roundw
          case rel => exact ⟨k + 1, by omega, by go_num, Lib.hid ⟨_, _, _, _, _, _, HF9.out, by omega⟩⟩
          case measure => simp [intOf]; omega
        by_cases k1 : t.kind = 1
        · have hlb : (bs ++ put (t.xs.length : Int) ++ t.xs).length ≤ bs.length + 3005 := by have := put_le5 (t.xs.length : Int); rw [List.length_append, List.length_append]; omega
          go_wp2_with (fail)
          refine (wbytes_any _ _ _ _ _ _ HS.out.F.W _ _ _ (fun r' w2 hm => RowB.src (HS.out.G.moved hm (fun e => HS.out.nwg e.symm) (fun e => HS.out.n1g e.symm))) HA1.out.xsb (by omega)).mono ?_
          intro e w2 hw2
          obtain ⟨b1, kap1, rfl, hS2⟩ := HS.out.wrote hw2
          have HS2 := Lib.hid hS2
          have HA2 := Lib.hid (HT.out.below hS2.F.below)
          clear hw2 hS2 d0 d1 d3
          have d1 := HA2.out.n
          have d3 := HA2.out.xs
          go_wp2_with (fail)
          refine (xbytes_any _ _ _ _ _ _ HS2.out.F.X _ _ _ (fun r' w3 hm => HT.out.src.below (moved_below HS2.out.F.below hm HS2.out.F.lx HS2.out.F.l2)) HA1.out.xsb (by omega)).mono ?_
          intro e w3 hw3
          obtain ⟨b2, kap2, rfl, hS3⟩ := HS2.out.xwrote hw3
          have HS3 := Lib.hid hS3
          clear hw3 hS3 d1 d3 HS HS2 HA1 HA2
          have hA2 := HT.out.below HS3.out.F.below
          have HA3 := Lib.hid hA2
          clear hA2
          have e3 := HA3.out.xs
          go_wp2_with fail
          refine (kept_m _ _ _ _ _ _ _ HA3.out.xsb rfl rfl HS3.out.G HA3.out.src (by omega)).mono ?_
          rintro e w5 ⟨rfl, hb5⟩
          have HS5 := Lib.hid (HS3.out.to hb5)
          have hful5 := HS5.out.G.full (by rw [List.length_append]; simp only [marks, List.length_cons, List.length_nil, maxLen]; omega)
          have HFul5 := Lib.hid hful5
          clear e3 hb5 hful5
          go_wp2_with fail
          refine (over_any _ _ _ _ HFul5.out).mono ?_
          rintro e w6 ho6
          obtain ⟨rfl, hF6⟩ := HS5.out.over ho6
          have HF6 := Lib.hid hF6
          clear ho6 hF6 HS5 HS3 HFul5 HA3
          obtain ⟨bo, eo, hto, htx⟩ := outs_gen HF6.out.W (by omega)
          have HTO := Lib.hid hto
          have HTX := Lib.hid htx
          clear hto htx
          go_wp2_with fail
          refine HTO.out.mono ?_
          rintro e w7 ⟨ao, capo, rfl, hful7, hby7, hb7, hn7⟩
          have HF7 := Lib.hid (HF6.out.to hb7)
          have HB7 := Lib.hid hb7
          have HFul7 := Lib.hid hful7
          clear hb7 hful7
          go_wp2_with fail
          refine (HTX.out _ _ _ _ HF7.out.X).mono ?_
          rintro e w8 ⟨ap, capp, rfl, own8, hby8, hb8, hn8⟩
          have HFul8 := Lib.hid (HFul7.out.below hb8)
          have HB8 := Lib.hid (HB7.out.trans (hb8.mono HB7.out.size))
          have HO8 := Lib.hid own8
          have HF8 := Lib.hid (HF7.out.to hb8)
          have hA8 := HT.out.below HF8.out.below
          have d1 := hA8.n
          clear own8 hb8 hA8 HF7 HB7 HFul7 HTO HTX
          go_wp2_with fail
          have hee : (eo == eo) = true := beq_self_eq_true eo
          have q0 : (0 : Int) ≤ k := by omega
          have q1 : (k : Int) < l.length := by omega
          have HBA : Hid (∀ n, BytesAt (w8.drewN n) ao bo) := Lib.hid fun n => HFul8.out.owns.bytes.below (below_drewN _ _ n)
          have HBP : Hid (∀ n, BytesAt (w8.drewN n) ap bo) := Lib.hid fun n => HO8.out.bytes.below (below_drewN _ _ n)
          go_quiet ((first
            | (go_at_call 19; exact quiet_same (same_m _ _ _ _ _ _ _ rfl hby7 (HBA.out _) (HBP.out _)))
            | (go_at_call 18; exact quiet_same (size_any _ _))
            | (go_at_call 35; exact quiet_same (rsize_any _ _))))
          go_wp2_with fail
          refine (over_any _ _ _ _ (HFul8.out.below (below_drewN _ _ _))).mono ?_
          rintro e w9 ho9
          obtain ⟨rfl, hF9⟩ := HF6.out.over_new (HB8.out.trans (below_drewN _ _ _)) ho9 hn7
          have HF9 := Lib.hid hF9
          clear hF9 ho9 HF6
          go_wp2_with fail
          go_roundw
          case rel => exact ⟨k + 1, by omega, by go_num, Lib.hid ⟨_, _, _, _, _, _, HF9.out, by omega⟩⟩
          case measure => simp [intOf]; omega
        by_cases k2 : t.kind = 2
        · have hlb : (bs ++ put (t.xs.length : Int) ++ t.xs).length ≤ bs.length + 3005 := by have := put_le5 (t.xs.length : Int); rw [List.length_append, List.length_append]; omega
          have hcv := run_src_string _ _ t.cap _ HA1.out.src
          go_wp2_with (fail)
          refine (wtext_any _ _ _ _ _ _ HS.out.F.W _ HA1.out.xsb (by omega)).mono ?_
          intro e w2 hw2
          obtain ⟨b1, kap1, rfl, hS2⟩ := HS.out.wrote hw2
          have HS2 := Lib.hid hS2
          have HA2 := Lib.hid (HT.out.below hS2.F.below)
          clear hw2 hS2 d0 d1 d3
          have d1 := HA2.out.n
          have d3 := HA2.out.xs
          clear hcv
          have hcv := run_src_string _ _ t.cap _ HA2.out.src
          go_wp2_with (fail)
          refine (xtext_any _ _ _ _ _ _ HS2.out.F.X _ HA1.out.xsb (by omega)).mono ?_
          intro e w3 hw3
          obtain ⟨b2, kap2, rfl, hS3⟩ := HS2.out.xwrote hw3
          have HS3 := Lib.hid hS3
          clear hw3 hS3 d1 d3 HS HS2 HA1 HA2
          clear hcv
          have hA2 := HT.out.below HS3.out.F.below
          have HA3 := Lib.hid hA2
          clear hA2
          have e3 := HA3.out.xs
          go_wp2_with fail
          refine (kept_m _ _ _ _ _ _ _ HA3.out.xsb rfl rfl HS3.out.G HA3.out.src (by omega)).mono ?_
          rintro e w5 ⟨rfl, hb5⟩
          have HS5 := Lib.hid (HS3.out.to hb5)
          have hful5 := HS5.out.G.full (by rw [List.length_append]; simp only [marks, List.length_cons, List.length_nil, maxLen]; omega)
          have HFul5 := Lib.hid hful5
          clear e3 hb5 hful5
          go_wp2_with fail
          refine (over_any _ _ _ _ HFul5.out).mono ?_
          rintro e w6 ho6
          obtain ⟨rfl, hF6⟩ := HS5.out.over ho6
          have HF6 := Lib.hid hF6
          clear ho6 hF6 HS5 HS3 HFul5 HA3
          obtain ⟨bo, eo, hto, htx⟩ := outs_gen HF6.out.W (by omega)
          have HTO := Lib.hid hto
          have HTX := Lib.hid htx
          clear hto htx
          go_wp2_with fail
          refine HTO.out.mono ?_
          rintro e w7 ⟨ao, capo, rfl, hful7, hby7, hb7, hn7⟩
          have HF7 := Lib.hid (HF6.out.to hb7)
          have HB7 := Lib.hid hb7
          have HFul7 := Lib.hid hful7
          clear hb7 hful7
          go_wp2_with fail
          refine (HTX.out _ _ _ _ HF7.out.X).mono ?_
          rintro e w8 ⟨ap, capp, rfl, own8, hby8, hb8, hn8⟩
          have HFul8 := Lib.hid (HFul7.out.below hb8)
          have HB8 := Lib.hid (HB7.out.trans (hb8.mono HB7.out.size))
          have HO8 := Lib.hid own8
          have HF8 := Lib.hid (HF7.out.to hb8)
          have hA8 := HT.out.below HF8.out.below
          have d1 := hA8.n
          clear own8 hb8 hA8 HF7 HB7 HFul7 HTO HTX
          go_wp2_with fail
          have hee : (eo == eo) = true := beq_self_eq_true eo
          have q0 : (0 : Int) ≤ k := by omega
          have q1 : (k : Int) < l.length := by omega
          have HBA : Hid (∀ n, BytesAt (w8.drewN n) ao bo) := Lib.hid fun n => HFul8.out.owns.bytes.below (below_drewN _ _ n)
          have HBP : Hid (∀ n, BytesAt (w8.drewN n) ap bo) := Lib.hid fun n => HO8.out.bytes.below (below_drewN _ _ n)
          go_quiet ((first
            | (go_at_call 19; exact quiet_same (same_m _ _ _ _ _ _ _ rfl hby7 (HBA.out _) (HBP.out _)))
            | (go_at_call 18; exact quiet_same (size_any _ _))
            | (go_at_call 35; exact quiet_same (rsize_any _ _))))
          go_wp2_with fail
          refine (over_any _ _ _ _ (HFul8.out.below (below_drewN _ _ _))).mono ?_
          rintro e w9 ho9
          obtain ⟨rfl, hF9⟩ := HF6.out.over_new (HB8.out.trans (below_drewN _ _ _)) ho9 hn7
          have HF9 := Lib.hid hF9
          clear hF9 ho9 HF6
          go_wp2_with fail
          go_roundw
          case rel => exact ⟨k + 1, by omega, by go_num, Lib.hid ⟨_, _, _, _, _, _, HF9.out, by omega⟩⟩
          case measure => simp [intOf]; omega
        by_cases k3 : t.kind = 3
        · have hlb : (bs ++ t.id).length ≤ bs.length + 3005 := by rw [List.length_append, HT.out.id16]; omega
          go_wp2_with (refine wpList_load_mid rfl 37 (.tmp 88) rfl g (off + k * 20 + 4) rfl (bvals t.id) _ (id_range HA1.out) Try.underlying37 rfl (by rw [bvals_length, HA1.out.id16]; kernel_rfl) ?_)
          refine (wid_any _ _ _ _ _ _ HS.out.F.W _ HA1.out.idb HA1.out.id16 (by omega)).mono ?_
          intro e w2 hw2
          obtain ⟨b1, kap1, rfl, hS2⟩ := HS.out.wrote hw2
          have HS2 := Lib.hid hS2
          have HA2 := Lib.hid (HT.out.below hS2.F.below)
          clear hw2 hS2 d0 d1 d3
          have d1 := HA2.out.n
          have d3 := HA2.out.xs
          go_wp2_with (refine wpList_load_mid rfl 37 (.tmp 95) rfl g (off + k * 20 + 4) rfl (bvals t.id) _ (id_range HA2.out) Try.underlying37 rfl (by rw [bvals_length, HA1.out.id16]; kernel_rfl) ?_)
          refine (xid_any _ _ _ _ _ _ HS2.out.F.X _ HA1.out.idb HA1.out.id16 (by omega)).mono ?_
          intro e w3 hw3
          obtain ⟨b2, kap2, rfl, hS3⟩ := HS2.out.xwrote hw3
          have HS3 := Lib.hid hS3
          clear hw3 hS3 d1 d3 HS HS2 HA1 HA2
          have hA2 := HT.out.below HS3.out.F.below
          have HA3 := Lib.hid hA2
          clear hA2
          have e3 := HA3.out.xs
          go_wp2_with fail
          refine (kept_m _ _ _ _ _ _ _ HA3.out.xsb rfl rfl HS3.out.G HA3.out.src (by omega)).mono ?_
          rintro e w5 ⟨rfl, hb5⟩
          have HS5 := Lib.hid (HS3.out.to hb5)
          have hful5 := HS5.out.G.full (by rw [List.length_append]; simp only [marks, List.length_cons, List.length_nil, maxLen]; omega)
          have HFul5 := Lib.hid hful5
          clear e3 hb5 hful5
          go_wp2_with fail
          refine (over_any _ _ _ _ HFul5.out).mono ?_
          rintro e w6 ho6
          obtain ⟨rfl, hF6⟩ := HS5.out.over ho6
          have HF6 := Lib.hid hF6
          clear ho6 hF6 HS5 HS3 HFul5 HA3
          obtain ⟨bo, eo, hto, htx⟩ := outs_gen HF6.out.W (by omega)
          have HTO := Lib.hid hto
          have HTX := Lib.hid htx
          clear hto htx
          go_wp2_with fail
          refine HTO.out.mono ?_
          rintro e w7 ⟨ao, capo, rfl, hful7, hby7, hb7, hn7⟩
          have HF7 := Lib.hid (HF6.out.to hb7)
          have HB7 := Lib.hid hb7
          have HFul7 := Lib.hid hful7
          clear hb7 hful7
          go_wp2_with fail
          refine (HTX.out _ _ _ _ HF7.out.X).mono ?_
          rintro e w8 ⟨ap, capp, rfl, own8, hby8, hb8, hn8⟩
          have HFul8 := Lib.hid (HFul7.out.below hb8)
          have HB8 := Lib.hid (HB7.out.trans (hb8.mono HB7.out.size))
          have HO8 := Lib.hid own8
          have HF8 := Lib.hid (HF7.out.to hb8)
          have hA8 := HT.out.below HF8.out.below
          have d1 := hA8.n
          clear own8 hb8 hA8 HF7 HB7 HFul7 HTO HTX
          go_wp2_with fail
          have hee : (eo == eo) = true := beq_self_eq_true eo
          have q0 : (0 : Int) ≤ k := by omega
          have q1 : (k : Int) < l.length := by omega
          have HBA : Hid (∀ n, BytesAt (w8.drewN n) ao bo) := Lib.hid fun n => HFul8.out.owns.bytes.below (below_drewN _ _ n)
          have HBP : Hid (∀ n, BytesAt (w8.drewN n) ap bo) := Lib.hid fun n => HO8.out.bytes.below (below_drewN _ _ n)
          go_quiet ((first
            | (go_at_call 19; exact quiet_same (same_m _ _ _ _ _ _ _ rfl hby7 (HBA.out _) (HBP.out _)))
            | (go_at_call 18; exact quiet_same (size_any _ _))
            | (go_at_call 35; exact quiet_same (rsize_any _ _))))
          go_wp2_with fail
          refine (over_any _ _ _ _ (HFul8.out.below (below_drewN _ _ _))).mono ?_
          rintro e w9 ho9
          obtain ⟨rfl, hF9⟩ := HF6.out.over_new (HB8.out.trans (below_drewN _ _ _)) ho9 hn7
          have HF9 := Lib.hid hF9
          clear hF9 ho9 HF6
          go_wp2_with fail
          go_roundw
          case rel => exact ⟨k + 1, by omega, by go_num, Lib.hid ⟨_, _, _, _, _, _, HF9.out, by omega⟩⟩
          case measure => simp [intOf]; omega
        have hlb : bs.length ≤ bs.length + 3005 := by omega
        have HS3 := HS
        clear HS HA1 d0 d1 d3
        have HA1 := Lib.hid (HT.out.below HS3.out.F.below)
        have d0 := HA1.out.kind
        have hA2 := HT.out.below HS3.out.F.below
        have HA3 := Lib.hid hA2
        clear hA2
        have e3 := HA3.out.xs
        go_wp2_with fail
        refine (kept_m _ _ _ _ _ _ _ HA3.out.xsb rfl rfl HS3.out.G HA3.out.src (by omega)).mono ?_
        rintro e w5 ⟨rfl, hb5⟩
        have HS5 := Lib.hid (HS3.out.to hb5)
        have hful5 := HS5.out.G.full (by rw [List.length_append]; simp only [marks, List.length_cons, List.length_nil, maxLen]; omega)
        have HFul5 := Lib.hid hful5
        clear e3 hb5 hful5
        go_wp2_with fail
        refine (over_any _ _ _ _ HFul5.out).mono ?_
        rintro e w6 ho6
        obtain ⟨rfl, hF6⟩ := HS5.out.over ho6
        have HF6 := Lib.hid hF6
        clear ho6 hF6 HS5 HS3 HFul5 HA3
        obtain ⟨bo, eo, hto, htx⟩ := outs_gen HF6.out.W (by omega)
        have HTO := Lib.hid hto
        have HTX := Lib.hid htx
        clear hto htx
        go_wp2_with fail
        refine HTO.out.mono ?_
        rintro e w7 ⟨ao, capo, rfl, hful7, hby7, hb7, hn7⟩
        have HF7 := Lib.hid (HF6.out.to hb7)
        have HB7 := Lib.hid hb7
        have HFul7 := Lib.hid hful7
        clear hb7 hful7
        go_wp2_with fail
        refine (HTX.out _ _ _ _ HF7.out.X).mono ?_
        rintro e w8 ⟨ap, capp, rfl, own8, hby8, hb8, hn8⟩
        have HFul8 := Lib.hid (HFul7.out.below hb8)
        have HB8 := Lib.hid (HB7.out.trans (hb8.mono HB7.out.size))
        have HO8 := Lib.hid own8
        have HF8 := Lib.hid (HF7.out.to hb8)
        have hA8 := HT.out.below HF8.out.below
        have d1 := hA8.n
        clear own8 hb8 hA8 HF7 HB7 HFul7 HTO HTX
        go_wp2_with fail
        have hee : (eo == eo) = true := beq_self_eq_true eo
        have q0 : (0 : Int) ≤ k := by omega
        have q1 : (k : Int) < l.length := by omega
        have HBA : Hid (∀ n, BytesAt (w8.drewN n) ao bo) := Lib.hid fun n => HFul8.out.owns.bytes.below (below_drewN _ _ n)
        have HBP : Hid (∀ n, BytesAt (w8.drewN n) ap bo) := Lib.hid fun n => HO8.out.bytes.below (below_drewN _ _ n)
        go_quiet ((first
          | (go_at_call 19; exact quiet_same (same_m _ _ _ _ _ _ _ rfl hby7 (HBA.out _) (HBP.out _)))
          | (go_at_call 18; exact quiet_same (size_any _ _))
          | (go_at_call 35; exact quiet_same (rsize_any _ _))))
        go_wp2_with fail
        refine (over_any _ _ _ _ (HFul8.out.below (below_drewN _ _ _))).mono ?_
        rintro e w9 ho9
        obtain ⟨rfl, hF9⟩ := HF6.out.over_new (HB8.out.trans (below_drewN _ _ _)) ho9 hn7
        have HF9 := Lib.hid hF9
        clear hF9 ho9 HF6
        go_wp2_with fail
        go_roundw
        case rel => exact ⟨k + 1, by omega, by go_num, Lib.hid ⟨_, _, _, _, _, _, HF9.out, by omega⟩⟩
        case measure => simp [intOf]; omega
      · obtain rfl : k = l.length := by omega
        have HFe := Lib.hid hF
        clear hF
        go_wp2_with fail
        refine (awake_any _).mono ?_
        rintro e w1 ⟨rfl, hb⟩
        go_wp2_with fail
        go_ret
        exact ⟨rfl, HFe.out.below.trans (hb.mono HFe.out.below.size)⟩
  · go_wp2_with fail
    refine (awake_any _).mono ?_
    rintro e w1 ⟨rfl, hb⟩
    go_wp2_with fail
    go_ret
    exact ⟨rfl, HB1.out.trans (hb.mono (by simp))⟩

theorem writes_nil (w0 : World) :
    Calls Try.prog 4 #[.slice none 0 0] w0 fun e w' => e = .returned (.bool true) ∧ Below w0.heap.size w0 w' := by
  have HB1 := Lib.hid (FW.start w0).below
  go_enter Try.func4, Try.ntmps4
  go_wp2_with fail
  refine (new_any _).mono ?_
  rintro e w1 ⟨rfl, rfl⟩
  go_wp2_with fail
  refine (large_nil _).mono ?_
  rintro e w1 ⟨rfl, rfl⟩
  go_wp2_with fail
  refine wp_loop_rounds 1 ?_
  rw [rounds_succ]
  go_wp2_with fail
  refine (awake_any _).mono ?_
  rintro e w1 ⟨rfl, hb⟩
  go_wp2_with fail
  go_ret
  exact ⟨rfl, HB1.out.trans (hb.mono (by simp; omega))⟩

end Go.Proofs.Ytkfhljggdcajpaa
