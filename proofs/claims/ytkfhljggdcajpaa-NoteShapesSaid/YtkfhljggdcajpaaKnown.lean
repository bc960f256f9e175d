/-
  The law FieldKnown: its walk.
-/
import Derived.Test.YtkfhljggdcajpaaRdId
namespace Go.Proofs.Ytkfhljggdcajpaa
open Go.RowKit

section
variable {w w' : World} {b p : Nat} {a : Option Addr} {cap : Nat} {xs : List Int} {pos : Nat} {err fat : Int}
theorem RAt.movedW {r : Option Nat} (h : RAt w b a cap xs pos err fat) (hm : Moved p none r w w') (hp : p ≠ b) (hpa : blk a ≠ some p) : RAt w' b a cap xs pos err fat :=
  ⟨(hm.block b h.lt (fun e => hp e.symm) (by simp)).trans h.str, h.byt.moved hm hpa (fun k _ e => by cases e), h.apart, h.bys, h.le, h.len, h.capLe⟩
theorem BytesAt.movedN {a : Option Addr} {ys : List Int} (h : BytesAt w a ys) (hm : Moved p none none w w') (hpa : blk a ≠ some p) : BytesAt w' a ys := h.moved hm hpa (fun k _ e => by cases e)
theorem WAt.movedW {r : Option Nat} {bad : Bool} {bs : List Int} (h : WAt w b bad a cap bs) (hm : Moved p none r w w') (hp : p ≠ b) (hpa : blk a ≠ some p) : WAt w' b bad a cap bs :=
  h.moved hm (fun e => hp e.symm) (by simp) hpa (fun k _ e => by cases e)
end

/-- a block is none of a row's -/
theorem far_lt {a : Option Addr} {n p : Nat} (h : ∀ k, blk a = some k → n ≤ k) (hp : p < n) : blk a ≠ some p := fun e => by have := h p e; omega
theorem far_ge {a : Option Addr} {n p : Nat} (h : ∀ k, blk a = some k → k < n) (hp : n ≤ p) : blk a ≠ some p := fun e => by have := h p e; omega

theorem below_drewN (B : Nat) (w : World) (n : Nat) : Below B w (w.drewN n) := ⟨rfl, rfl, rfl, Nat.le_refl _, fun _ _ => rfl⟩

theorem open_lit (w : World) (a : Option Addr) (cap len : Nat) (xs : List Int) (hl : xs.length = len) (hx : Bys xs) (hlen : len ≤ 140737488355328) (h : BytesAt w a xs) :
    Calls Try.prog 37 #[.slice a len cap] w fun e w' => Opened w xs e w' := by
  subst hl; exact open_any w a cap xs (.inr h) hx hlen

theorem rint_lit (w : World) (b : Nat) (a : Option Addr) (cap : Nat) (xs : List Int) (at0 : Nat) (low high v : Int) (nx : Nat) (er fa : Int) (h : RAt w b a cap xs at0 0 0) (hr : intEnd xs at0 low high = (v, nx, er, fa)) :
    Calls Try.prog 38 #[.pointer (some ⟨b, 0, none⟩), .int .i64 low, .int .i64 high] w fun e w' => e = .returned (.int .i64 v) ∧ RAt w' b a cap xs nx er fa ∧ Moved b none none w w' := by
  have := rint_any w b a cap xs at0 low high h
  rw [hr] at this
  exact this

/-- of no bytes -/
theorem same_lit (w : World) (a b : Option Addr) (ca cb k l : Nat) (xs ys : List Int) (hk : xs.length = k) (hl : ys.length = l) (hx : Bys xs) (hy : Bys ys) (ha : BytesAt w a xs) (hb : BytesAt w b ys) (r : Bool) (hr : decide (xs = ys) = r) :
    Calls Try.prog 19 #[.slice a k ca, .slice b l cb] w fun e w' => e = .returned (.bool r) ∧ w = w' := by
  subst hk; subst hl; subst hr; exact same_any w a b ca cb xs ys hx hy ha hb

set_option maxRecDepth 100000 in
set_option maxHeartbeats 3200000 in
theorem known_any (w : World) : Calls Try.prog 6 #[] w fun e w' => e = .returned (.bool true) ∧ Below w.heap.size w w' := by
  go_enter Try.func6, Try.ntmps6
  go_wp2_with fail
  refine (new_any _).mono ?_
  rintro e w1 ⟨rfl, rfl⟩
  have hw1 := WAt.new w
  go_wp2_with fail
  refine (new_any _).mono ?_
  rintro e w2 ⟨rfl, rfl⟩
  have hw2 := hw1.below ((Below.refl _ _).alloc (Nat.le_refl _) (.cells #[.bool true, .bool false, .slice none 0 0] 60))
  have hv2 := WAt.new (w.alloc (.cells #[.bool true, .bool false, .slice none 0 0] 60))
  have hb2 : Below w.heap.size w ((w.alloc (.cells #[.bool true, .bool false, .slice none 0 0] 60)).alloc (.cells #[.bool true, .bool false, .slice none 0 0] 60)) := ((Below.refl _ _).alloc (Nat.le_refl _) _).alloc (by simp) _
  simp only [World.size_alloc] at hv2
  have hsz2 : ((w.alloc (.cells #[.bool true, .bool false, .slice none 0 0] 60)).alloc (.cells #[.bool true, .bool false, .slice none 0 0] 60)).heap.size = w.heap.size + 2 := by simp
  generalize hg : (w.alloc (.cells #[.bool true, .bool false, .slice none 0 0] 60)).alloc (.cells #[.bool true, .bool false, .slice none 0 0] 60) = w2 at *
  have hs2 : w.heap.size + 2 ≤ w2.heap.size := Nat.le_of_eq hsz2.symm
  have HV2 := Lib.hid hv2
  have HW2 := Lib.hid hw2
  clear hw1 hg hsz2 hv2 hw2
  go_wp2_with fail
  refine (open_lit _ _ 3 3 [129, 0, 5] rfl (bys_lit (by decide)) (by decide) (BytesAt.lit w2 [129, 0, 5] _)).mono ?_
  rintro e w3 ⟨br, ar, cr, rfl, hR3, hbr, hb3, har⟩
  rw [World.size_alloc] at hbr har
  have hb23 : Below w2.heap.size w2 w3 := ((Below.refl _ _).alloc (Nat.le_refl _) _).trans (hb3.mono (by simp))
  have hR3l := hR3.lt
  have hR3k := hR3.blk_lt
  have HR3 := Lib.hid hR3
  clear hR3 hb3
  go_wp2_with fail
  refine (open_lit _ _ 3 3 [3, 1, 2] rfl (bys_lit (by decide)) (by decide) (BytesAt.lit w3 [3, 1, 2] _)).mono ?_
  rintro e w4 ⟨bs, as_, cs, rfl, hR4, hbs, hb4, has⟩
  rw [World.size_alloc] at hbs has
  have hb34 : Below w3.heap.size w3 w4 := ((Below.refl _ _).alloc (Nat.le_refl _) _).trans (hb4.mono (by simp))
  have hR4l := hR4.lt
  have hR4k := hR4.blk_lt
  have HR4 := Lib.hid hR4
  clear hR4 hb4
  go_wp2_with fail
  refine (open_lit _ _ 2 2 [2, 1] rfl (bys_lit (by decide)) (by decide) (BytesAt.lit w4 [2, 1] _)).mono ?_
  rintro e w5 ⟨bq, aq, cq, rfl, hR5, hbq, hb5, haq⟩
  rw [World.size_alloc] at hbq haq
  have hb45 : Below w4.heap.size w4 w5 := ((Below.refl _ _).alloc (Nat.le_refl _) _).trans (hb5.mono (by simp))
  have hR5l := hR5.lt
  have hR5k := hR5.blk_lt
  have HQ5 := Lib.hid hR5
  have s23 := hb23.size
  have s34 := hb34.size
  have s45 := hb45.size
  have hb25 : Below w2.heap.size w2 w5 := (hb23.trans (hb34.mono s23)).trans (hb45.mono (by omega))
  have HW5 := Lib.hid (HW2.out.below hb25)
  have HV5 := Lib.hid (HV2.out.below hb25)
  have HR5 := Lib.hid (HR3.out.below ((hb34.trans (hb45.mono s34))))
  have HS5 := Lib.hid (HR4.out.below hb45)
  clear hR5 hb5 HW2 HV2 HR3 HR4
  go_wp2_with fail
  refine (wtext_any _ _ _ _ _ _ HW5.out [97, 98] (bys_lit (by decide)) (by simp)).mono ?_
  rintro e w6 ⟨a6, cap6, rfl, hw6, hm6⟩
  have HW6 := Lib.hid hw6
  clear hw6
  go_wp2_with fail
  refine (wbytes_any _ _ _ _ _ _ HW6.out none 0 [] (fun _ _ _ => .inl rfl) Bys.nil (by decide)).mono ?_
  rintro e w7 ⟨a7, cap7, rfl, hw7, hm7⟩
  have hm57 := hm6.trans hm7
  have hx7 : (((false || decide (sizeN ([97, 98] : List Int).length = 0)) || decide (sizeN ([] : List Int).length = 0)) : Bool) = false := by decide
  have hy7 : [] ++ put ([97, 98] : List Int).length ++ [97, 98] ++ put ([] : List Int).length ++ [] = [2, 97, 98, 0] := by decide
  rw [hx7, hy7] at hw7
  have HW7 := Lib.hid hw7
  clear hw7 hx7 hy7 HW6 hm6 hm7
  go_wp2_with fail
  refine (out_good _ _ _ _ _ HW7.out (by decide)).mono ?_
  rintro e w8 ⟨a8, cap8, rfl, hown8, _, hb78, ha8⟩
  have HO8 := Lib.hid hown8.bytes
  have hO8k := hown8.blk_lt
  have s57 := hm57.size
  have s78 := hb78.size
  have HV8 := Lib.hid ((HV5.out.movedW hm57 (by omega) (by simp [blk])).below hb78)
  have HR8 := Lib.hid ((HR5.out.movedW hm57 (by omega) (far_lt har (by omega))).below hb78)
  have HS8 := Lib.hid ((HS5.out.movedW hm57 (by omega) (far_lt has (by omega))).below hb78)
  have HQ8 := Lib.hid ((HQ5.out.movedW hm57 (by omega) (far_lt haq (by omega))).below hb78)
  clear HV5 HR5 HS5 HQ5 hown8 HW5 HW7
  go_wp2_with fail
  refine (wint_any (-1) _ _ _ _ _ _ HV8.out (by decide)).mono ?_
  rintro e w9 ⟨a9, cap9, rfl, hv9, hm9⟩
  have hx9 : (false || decide (sizeN (-1) = 0)) = true := by decide
  rw [hx9] at hv9
  have HV9 := Lib.hid hv9
  clear hx9 hv9
  go_wp2_with fail
  refine (out_bad _ _ _ _ _ HV9.out).mono ?_
  rintro e w10 ⟨a10, cap10, rfl, _, _, hb9, _⟩
  have s89 := hm9.size
  have s910 := hb9.size
  have HO10 := Lib.hid (((HO8.out).of_block hm9.size (fun g off hg hlt => hm9.block g hlt (by have := ha8 g (by rw [hg]; rfl); omega) (by simp [blk]))).below hb9)
  have HR10 := Lib.hid ((HR8.out.movedW hm9 (by omega) (far_lt har (by omega))).below hb9)
  have HS10 := Lib.hid ((HS8.out.movedW hm9 (by omega) (far_lt has (by omega))).below hb9)
  have HQ10 := Lib.hid ((HQ8.out.movedW hm9 (by omega) (far_lt haq (by omega))).below hb9)
  clear HR8 HS8 HQ8 HV8 HV9 HO8
  go_wp2_with fail
  refine (is_lit _ 127 _ 1 1 [127] rfl (bys_lit (by decide)) (BytesAt.lit w10 [127] _) true (by decide)).mono ?_
  rintro e w11 ⟨rfl, hb11⟩
  have hb1011 : Below w10.heap.size w10 w11 := ((Below.refl _ _).alloc (Nat.le_refl _) _).trans (hb11.mono (by simp))
  go_wp2_with fail
  refine (is_lit _ 2147483647 _ 5 5 [135, 255, 255, 255, 127] rfl (bys_lit (by decide)) (BytesAt.lit w11 [135, 255, 255, 255, 127] _) true (by decide)).mono ?_
  rintro e w12 ⟨rfl, hb12⟩
  have hb1112 : Below w11.heap.size w11 w12 := ((Below.refl _ _).alloc (Nat.le_refl _) _).trans (hb12.mono (by simp))
  have s1011 := hb1011.size
  have s1112 := hb1112.size
  have hb1012 := hb1011.trans (hb1112.mono s1011)
  have HO12 := Lib.hid (((HO10.out).below hb1012).below ((Below.refl w12.heap.size w12).alloc (Nat.le_refl _) (.cells (bvals [2, 97, 98, 0]).toArray 5)))
  clear hb11 hb12 hb1011 hb1112 HO10
  go_wp2_with fail
  refine (same_lit _ _ _ _ _ 4 4 [2, 97, 98, 0] [2, 97, 98, 0] rfl rfl (bys_lit (by decide)) (bys_lit (by decide)) HO12.out (BytesAt.lit w12 [2, 97, 98, 0] _) true (by decide)).mono ?_
  rintro e w13 ⟨rfl, hw13⟩
  have hb1013 : Below w10.heap.size w10 w13 := by rw [← hw13]; exact hb1012.alloc hb1012.size _
  have s1013 := hb1013.size
  have HR13 := Lib.hid (HR10.out.below hb1013)
  have HS13 := Lib.hid (HS10.out.below hb1013)
  have HQ13 := Lib.hid (HQ10.out.below hb1013)
  clear HR10 HS10 HQ10 hw13 hb1012 HO12
  go_wp2_with fail
  refine (rint_lit _ _ _ _ _ 0 0 200 128 2 0 0 HR13.out (by decide)).mono ?_
  rintro e w14 ⟨rfl, hR14, hm14⟩
  have HR14 := Lib.hid hR14
  clear hR14
  go_wp2_with fail
  refine (rint_lit _ _ _ _ _ 2 0 4 0 2 5 2 HR14.out (by decide)).mono ?_
  rintro e w15 ⟨rfl, hR15, hm15⟩
  have HR15 := Lib.hid hR15
  clear hR15
  go_wp2_with fail
  refine (at_any _ _ _ _ _ _ _ _ HR15.out).mono ?_
  rintro e w16 ⟨rfl, rfl⟩
  go_wp2_with fail
  refine (fault_any _ _ _ _ _ _ _ _ HR15.out).mono ?_
  rintro e w16 ⟨rfl, hb16⟩
  have HR16 := Lib.hid (HR15.out.below hb16)
  go_wp2_with fail
  refine (rint_stop _ _ _ _ _ _ _ _ _ _ HR16.out (by decide)).mono ?_
  rintro e w17 ⟨rfl, _, hm17⟩
  have hm1317 : Moved br none none w13 w17 := ((hm14.trans hm15).trans (Below.moved hb16 br)).trans hm17
  have s1317 := hm1317.size
  have HS17 := Lib.hid (HS13.out.moved hm1317 (by omega) (far_lt has (by omega)))
  have HQ17 := Lib.hid (HQ13.out.moved hm1317 (by omega) (far_lt haq (by omega)))
  clear hm14 hm15 hb16 hm17 HS13 HQ13 HR13 HR14 HR15 HR16
  go_wp2_with fail
  refine (rbytes_err _ _ _ _ _ 0 2 3 0 HS17.out (by rfl)).mono ?_
  rintro e w18 ⟨rfl, hS18, hm18⟩
  have HS18 := Lib.hid hS18
  clear hS18
  go_wp2_with fail
  refine (fault_any _ _ _ _ _ _ _ _ HS18.out).mono ?_
  rintro e w19 ⟨rfl, hb19⟩
  have HS19 := Lib.hid (HS18.out.below hb19)
  go_wp2_with fail
  refine (rbytes_stop _ _ _ _ _ _ _ _ _ HS19.out (by decide)).mono ?_
  rintro e w20 ⟨rfl, _, hm20⟩
  have hm1720 : Moved bs none none w17 w20 := (hm18.trans (Below.moved hb19 bs)).trans hm20
  have s1720 := hm1720.size
  have HQ20 := Lib.hid (HQ17.out.moved hm1720 (by omega) (far_lt haq (by omega)))
  clear hm18 hb19 hm20 HS18 HS19 HS17 HQ17
  go_wp2_with fail
  refine (fails_lit _ _ 5 5 [136, 128, 128, 128, 0] 5 0 rfl (bys_lit (by decide)) (by decide) (by decide) (BytesAt.lit w20 [136, 128, 128, 128, 0] _)).mono ?_
  rintro e w21 ⟨rfl, hb21⟩
  have hb2021 : Below w20.heap.size w20 w21 := ((Below.refl _ _).alloc (Nat.le_refl _) _).trans (hb21.mono (by simp))
  have s2021 := hb2021.size
  have HQ21 := Lib.hid (HQ20.out.below hb2021)
  go_wp2_with fail
  refine (rbytes_err _ _ _ _ _ 0 9 4 2 HQ21.out (by rfl)).mono ?_
  rintro e w22 ⟨rfl, hQ22, hm22⟩
  have HQ22 := Lib.hid hQ22
  clear hQ22
  go_wp2_with fail
  refine (fault_any _ _ _ _ _ _ _ _ HQ22.out).mono ?_
  rintro e w23 ⟨rfl, hb23'⟩
  have HQ23 := Lib.hid (HQ22.out.below hb23')
  go_wp2_with fail
  refine (left_any _ _ _ _ _ _ _ _ HQ23.out).mono ?_
  rintro e w24 ⟨rfl, n24, rfl⟩
  go_wp2_with fail
  refine (awake_any _).mono ?_
  rintro e w25 ⟨rfl, hb25'⟩
  go_wp2_with fail
  go_ret
  refine ⟨rfl, ?_⟩
  have s25 := hb25.size
  have c5 := hb2.trans (hb25.mono (show w.heap.size ≤ w2.heap.size by omega))
  have c7 := c5.trans (hm57.below (by omega) (Nat.le_refl _) (fun k hk => by cases hk))
  have c8 := c7.trans (hb78.mono (by omega))
  have c9 := c8.trans (hm9.below (by omega) (by omega) (fun k hk => by cases hk))
  have c10 := c9.trans (hb9.mono (by omega))
  have c13 := c10.trans (hb1013.mono (by omega))
  have c17 := c13.trans (hm1317.below' (by omega) (by omega))
  have c20 := c17.trans (hm1720.below' (by omega) (by omega))
  have c21 := c20.trans (hb2021.mono (by omega))
  have s22 := hm22.size
  have s23' := hb23'.size
  have c22 := c21.trans (hm22.below' (by omega) (by omega))
  have c23 := c22.trans (hb23'.mono (by omega))
  exact (c23.trans (below_drewN _ _ n24)).trans (hb25'.mono (show w.heap.size ≤ w23.heap.size by omega))

end Go.Proofs.Ytkfhljggdcajpaa
