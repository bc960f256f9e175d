/-
  NoteCut: the walk.
-/
import Derived.Test.YtkfhljggdcajpaaBack
import Derived.Test.YtkfhljggdcajpaaCut
namespace Go.Proofs.Ytkfhljggdcajpaa
open Go.RowKit Go.Sort

theorem noteBytes_len2 (x : Note) (h : x.err = 0) (hi : Ids x.ids) : (noteBytes x).length ≤ 100000 := by
  obtain ⟨hk, hn, hid, hb, _⟩ := (fine_iff x).1 h
  have hcap := shape_caps x.kind
  have h1 := put_le5 x.kind
  have h2 := put_le5 x.ns.length
  have h3 := put_le5 x.ids.length
  have h4 := put_le5 x.bs.length
  have h5 := flat_len x.ns
  have h6 := ids_len x.ids hi
  unfold noteBytes
  simp only [List.length_append]
  omega

/-- append of bytes under a guard that holds -/
theorem wpList_append_bytes_g (w : World) {ops : Array Oper} {rest : List Oper} {o : Oper} {act : Act} {Q : Exit → Act → World → Prop} (hwant : Region.wanted o (yielded ops act.tmps) = true) (s x : Operand)
    (ho : o.op = .call { callee := .builtin .append, args := #[s, x], argTypes := #[23, 23] })
    (a : Option Addr) (cap l0 : Nat) (bs : List Int) (hl0 : bs.length = l0) (hs : act.eval s = .slice a l0 cap) (hown : Owns w a cap bs) (ao : Option Addr) (c l : Nat) (ys : List Int) (hl : ys.length = l) (hx : act.eval x = .slice ao l c) (hsrc : Src w ao ys)
    (hlen : bs.length + ys.length ≤ 140737488355328)
    (h : ∀ a' cap' w', Owns w' a' cap' (bs ++ ys) → w.grownBy w' (blk a) → (blk a' = blk a ∨ blk a' = some w.heap.size) → wpList Try.prog ops Q rest (act.put o.dst (.slice a' (l0 + l) cap')) w') : wpList Try.prog ops Q (o :: rest) act w := by
  subst hl hl0
  obtain ⟨a', cap', w', hr, h2, h3, h4⟩ := run_append_bytes w o.type a cap bs hown ao c ys hsrc hlen
  refine wpList_step fun K hK => ?_
  rw [if_pos hwant]
  unfold Oper.wp execOp
  simp only [ho, resolve, invoke, builtin, Sem.run_bind, Sem.run_pure, Result.andThen_ok, List.map_toArray, List.map_cons, List.map_nil, hs, hx, hr]
  exact hK _ _ (h a' cap' w' h2 h3 h4)

theorem owns_empty (w : World) : Owns (w.alloc (.cells #[] 5)) (some ⟨w.heap.size, 0, none⟩) 0 [] := World.ownsRow_made w #[] 0 (Nat.zero_le _) (by decide) rfl

/-- satchelkit.CopyBytes -/
theorem copy_bytes_any (w : World) (a : Option Addr) (cap l : Nat) (bs : List Int) (hl : bs.length = l) (h : Src w a bs) (hlen : l ≤ 140737488355328) :
    Calls Try.prog 61 #[.slice a l cap] w fun e w' => ∃ a' cap', e = .returned (.slice a' l cap') ∧ Owns w' a' cap' bs ∧ (∀ k, blk a' = some k → w.heap.size ≤ k) ∧ Below w.heap.size w w' := by
  have hB : Below w.heap.size w (w.alloc (.cells #[] 5)) := (Below.refl _ _).alloc (Nat.le_refl _) _
  have HS := Lib.hid (h.imp id (fun k => k.below hB) : Src (w.alloc (.cells #[] 5)) a bs)
  have HB := Lib.hid hB
  have Hl := Lib.hid hl
  clear h hB hl
  go_enter Try.func61, Try.ntmps61
  go_wp2_with (at_builtin; refine wpList_append_bytes_g _ rfl (.tmp 3) (.tmp 4) rfl (some ⟨w.heap.size, 0, none⟩) 0 0 [] rfl rfl (owns_empty w) a cap l bs Hl.out rfl HS.out (by rw [Hl.out]; simpa using hlen) ?_; intro a1 cap1 w1 own1 grow1 at1)
  go_ret
  rw [List.nil_append] at own1
  refine ⟨a1, cap1, rfl, own1, fun k hk => ?_, HB.out.grown grow1 (by simp) (fun k hk => by cases hk; exact Nat.le_refl _)⟩
  rcases at1 with e | e
  · rw [e] at hk; cases hk; exact Nat.le_refl _
  · rw [e] at hk; cases hk; simp

theorem read_no_k (w : World) (a : Option Addr) (cap l : Nat) (xs : List Int) (hl : xs.length = l) (h : Src w a xs) (hx : Bys xs) (hlen : l ≤ 2 ^ 38) (er fa : Int) (hr : rdNote xs = .error (er, fa)) :
    Calls Try.prog 57 #[.slice a l cap] w fun e w' => e = .returned (.tuple #[.agg #[.int .i64 0, .slice none 0 0, .slice none 0 0, .slice none 0 0], .agg #[.int .i64 er, .int .i64 fa]]) ∧ Below w.heap.size w w' := by
  subst hl; exact read_no w a cap xs h hx hlen er fa hr

theorem obytes_ok (w : World) (x : Note) (aN : Option Addr) (cN : Nat) (aI : Option Addr) (cI : Nat) (aB : Option Addr) (cB : Nat) (h : NoteIn w x aN aI aB) (he : x.err = 0) (bs : List Int) (hb : noteBytes x = bs) (L : Nat) (hL : bs.length = L) :
    Calls Try.prog 59 #[.agg #[.int .i64 x.kind, .slice aN x.ns.length cN, .slice aI x.ids.length cI, .slice aB x.bs.length cB]] w fun e w' => ∃ a cap, e = .returned (.slice a L cap) ∧ Owns w' a cap bs ∧ (∀ k, blk a = some k → w.heap.size ≤ k) ∧ Below w.heap.size w w' := by
  subst hb hL
  refine (obytes_any w x aN cN aI cI aB cB h).mono ?_
  rw [if_pos he]
  rintro e w' ⟨a, cap, h1, h2, _, h3, h4⟩
  exact ⟨a, cap, h1, h2, h3, h4⟩

set_option maxRecDepth 1000000 in
set_option maxHeartbeats 2000000 in
theorem ncut_any (w : World) (x : Note) (aN : Option Addr) (cN : Nat) (aI : Option Addr) (cI : Nat) (aB : Option Addr) (cB : Nat) (at_ : Int) (am : Option Addr) (cm : Nat) (ms : List Int) (h : NoteAny w x aN aI aB) (hs : Src w am ms) (hys : Bys ms) :
    Calls Try.prog 11 #[.agg #[.int .i64 x.kind, .slice aN x.ns.length cN, .slice aI x.ids.length cI, .slice aB x.bs.length cB], .int .i64 at_, .slice am ms.length cm] w fun e w' => e = .returned (.bool true) ∧ Below w.heap.size w w' := by
  have Hx := Lib.hid h
  have Hsrc := Lib.hid hs
  have Hys := Lib.hid hys
  have R0 := Lib.hid (heap_alloc_new w (.cells #[.int .i64 x.kind, .slice aN x.ns.length cN, .slice aI x.ids.length cI, .slice aB x.bs.length cB] 69))
  clear h hs hys
  go_enter Try.func11, Try.ntmps11
  go_wp2_with fail
  refine (awake10_any _).mono ?_
  rintro e w1 ⟨rfl, hB1⟩
  have R1 := Lib.hid ((hB1.block _ (lt_of_row R0.out)).trans R0.out)
  have HB1 := Lib.hid (bel_trans (bel_alloc (.cells #[.int .i64 x.kind, .slice aN x.ns.length cN, .slice aI x.ids.length cI, .slice aB x.bs.length cB] 69) (Below.refl w.heap.size w)) hB1)
  clear hB1 R0
  have c0 : w1.cell? ⟨w.heap.size, 0, none⟩ = some (.int .i64 x.kind) := by rw [cell_of_row _ _ _ _ _ _ R1.out]; rfl
  have c1 : w1.cell? ⟨w.heap.size, 1, none⟩ = some (.slice aN x.ns.length cN) := by rw [cell_of_row _ _ _ _ _ _ R1.out]; rfl
  have c2 : w1.cell? ⟨w.heap.size, 2, none⟩ = some (.slice aI x.ids.length cI) := by rw [cell_of_row _ _ _ _ _ _ R1.out]; rfl
  have c3 : w1.cell? ⟨w.heap.size, 3, none⟩ = some (.slice aB x.bs.length cB) := by rw [cell_of_row _ _ _ _ _ _ R1.out]; rfl
  go_wp2_with fail
  by_cases hlong : 200 < x.ns.length ∨ 40 < x.ids.length ∨ 2000 < x.bs.length
  · refine (long_any _ _ _ _ _ _ _ _ _ _ _ true (decide_eq_true hlong)).mono ?_
    rintro e w2 ⟨rfl, hB2⟩
    have HB2 := Lib.hid (bel_trans HB1.out hB2)
    clear hB2 hlong
    go_wp2_with fail
    go_ret
    exact ⟨rfl, HB2.out⟩
  · refine (long_any _ _ _ _ _ _ _ _ _ _ _ false (decide_eq_false hlong)).mono ?_
    rintro e w2 ⟨rfl, hB2⟩
    have HB2 := Lib.hid (bel_trans HB1.out hB2)
    have R2 := Lib.hid ((hB2.block _ (lt_of_row R1.out)).trans R1.out)
    have HX := Lib.hid (Hx.out.inn hlong)
    clear hB2 hlong c0 c1 c2 c3 R1 HB1
    have c0 : w2.cell? ⟨w.heap.size, 0, none⟩ = some (.int .i64 x.kind) := by rw [cell_of_row _ _ _ _ _ _ R2.out]; rfl
    have c1 : w2.cell? ⟨w.heap.size, 1, none⟩ = some (.slice aN x.ns.length cN) := by rw [cell_of_row _ _ _ _ _ _ R2.out]; rfl
    have c2 : w2.cell? ⟨w.heap.size, 2, none⟩ = some (.slice aI x.ids.length cI) := by rw [cell_of_row _ _ _ _ _ _ R2.out]; rfl
    have c3 : w2.cell? ⟨w.heap.size, 3, none⟩ = some (.slice aB x.bs.length cB) := by rw [cell_of_row _ _ _ _ _ _ R2.out]; rfl
    obtain ⟨E, hE⟩ : ∃ E, x.err = E := ⟨_, rfl⟩
    have HE := Lib.hid hE
    clear hE
    go_wp2_with fail
    refine (check_k _ x _ _ _ _ _ _ (HX.out.below HB2.out) E HE.out).mono ?_
    rintro e w3 ⟨rfl, hB3⟩
    have HB3 := Lib.hid (bel_trans HB2.out hB3)
    have R3 := Lib.hid ((hB3.block _ (lt_of_row R2.out)).trans R2.out)
    clear hB3 c0 c1 c2 c3
    have c0 : w3.cell? ⟨w.heap.size, 0, none⟩ = some (.int .i64 x.kind) := by rw [cell_of_row _ _ _ _ _ _ R3.out]; rfl
    have c1 : w3.cell? ⟨w.heap.size, 1, none⟩ = some (.slice aN x.ns.length cN) := by rw [cell_of_row _ _ _ _ _ _ R3.out]; rfl
    have c2 : w3.cell? ⟨w.heap.size, 2, none⟩ = some (.slice aI x.ids.length cI) := by rw [cell_of_row _ _ _ _ _ _ R3.out]; rfl
    have c3 : w3.cell? ⟨w.heap.size, 3, none⟩ = some (.slice aB x.bs.length cB) := by rw [cell_of_row _ _ _ _ _ _ R3.out]; rfl
    by_cases he : E = 0
    · subst he
      by_cases hm1 : ms.length < 1
      · have hm1z : (ms.length : Int) < 1 := by omega
        go_wp2_with fail
        go_ret
        exact ⟨rfl, HB3.out⟩
      have hm1z : ¬ (ms.length : Int) < 1 := by omega
      by_cases hm2 : 100 < ms.length
      · have hm2z : (100 : Int) < ms.length := by omega
        go_wp2_with fail
        go_ret
        exact ⟨rfl, HB3.out⟩
      have hm2z : ¬ (100 : Int) < ms.length := by omega
      obtain ⟨bs, hbs⟩ : ∃ bs, noteBytes x = bs := ⟨_, rfl⟩
      obtain ⟨L, hL⟩ : ∃ L, bs.length = L := ⟨_, rfl⟩
      have hLpos : 0 < L := by
        have h1 := (fine_iff x).1 HE.out
        have h2 := sizeN_pos x.kind (by omega) (by omega)
        rw [← put_length] at h2
        rw [← hL, ← hbs]; unfold noteBytes; simp only [List.length_append]; omega
      have hLmax : L ≤ 100000 := by rw [← hL, ← hbs]; exact noteBytes_len2 x HE.out HX.out.wid
      have hbby : Bys bs := by rw [← hbs]; exact noteBytes_bys HX.out.wid HX.out.wbs
      obtain ⟨p, hp⟩ : ∃ p, pickF at_ L = p := ⟨_, rfl⟩
      have hpL : p < L := by rw [← hp]; exact pickF_lt at_ L hLpos
      have hcut := note_cut x HE.out HX.out.wid p (by rw [hbs, hL]; exact hpL)
      have hmore := note_more x HE.out HX.out.wid ms (fun e => by rw [e] at hm1; simp at hm1)
      rw [hbs] at hcut hmore
      rw [hL] at hmore
      have Hcut := Lib.hid hcut
      have Hmore := Lib.hid hmore
      have Hbs := Lib.hid hbs
      have HLl := Lib.hid hL
      have Hby := Lib.hid hbby
      have Hp := Lib.hid hp
      have hml : ms.length ≤ 100 := by omega
      clear hcut hmore hbs hL hbby hp hm1 hm2
      go_wp2_with fail
      refine (obytes_ok _ x _ _ _ _ _ _ (HX.out.below HB3.out) HE.out bs Hbs.out L HLl.out).mono ?_
      rintro e w4 ⟨a4, cap4, rfl, own4, new4, hB4⟩
      have HB4 := Lib.hid (bel_trans HB3.out hB4)
      have hcap4 := own4.le_cap
      rw [HLl.out] at hcap4
      have hcap4z : (p : Int) ≤ (cap4 : Int) := by omega
      have HO4 := Lib.hid own4
      have HN4 : Hid (∀ k, blk a4 = some k → w.heap.size ≤ k) := fun k hk => Nat.le_trans HB3.out.size (new4 k hk)
      clear hB4 own4 new4 c0 c1 c2 c3 R3
      go_wp2_with fail
      refine (pick_k at_ L p _ hLpos (by omega) Hp.out).mono ?_
      rintro e w5 ⟨rfl, rfl⟩
      go_wp2_with fail
      refine (read_no_k _ _ _ p (bs.take p) (by rw [List.length_take, HLl.out]; omega) (.inr (HO4.out.bytes.take p)) (Hby.out.take p) (by omega) 4 p Hcut.out).mono ?_
      rintro e w6 ⟨rfl, hB6⟩
      have HB6 := Lib.hid (bel_trans HB4.out hB6)
      have hP := heap_alloc2_new w6 (.cells #[.int .i64 0, .slice none 0 0, .slice none 0 0, .slice none 0 0] 69) (.cells #[.int .i64 4, .int .i64 p] 51)
      have hk6 : Below w6.heap.size w6 ((w6.alloc (.cells #[.int .i64 0, .slice none 0 0, .slice none 0 0, .slice none 0 0] 69)).alloc (.cells #[.int .i64 4, .int .i64 p] 51)) := bel_alloc _ (bel_alloc _ (Below.refl _ _))
      have HO6 := Lib.hid ((HO4.out.of_block fun k _ hk => hB6.block k hk).of_block fun k _ hk => hk6.block k hk)
      have HB7 := Lib.hid (bel_trans HB6.out hk6)
      clear hB6 hk6 HB4 HO4 hP
      go_wp2_with fail
      refine (copy_bytes_any _ _ _ L bs HLl.out (.inr HO6.out.bytes) (by omega)).mono ?_
      rintro e w8 ⟨a8, cap8, rfl, own8, new8, hB8⟩
      have HB8 := Lib.hid (bel_trans HB7.out hB8)
      have HO8 := Lib.hid own8
      have HN8 : Hid (∀ k, blk a8 = some k → w.heap.size ≤ k) := fun k hk => Nat.le_trans HB7.out.size (new8 k hk)
      clear hB8 own8 new8
      go_wp2_with (at_builtin; refine wpList_append_bytes_g _ (by kernel_rfl) (.tmp 50) (.tmp 51) rfl a8 cap8 L bs HLl.out rfl HO8.out am cm ms.length ms rfl rfl (Hsrc.out.bytesAt_or' HB8.out) (by rw [HLl.out]; omega) ?_; intro a9 cap9 w9 own9 grow9 at9)
      have HB9 := Lib.hid (HB8.out.grown grow9 HB8.out.size HN8.out)
      have HO9 := Lib.hid own9
      clear own9 grow9 at9
      go_wp2_with fail
      refine (fails10_lit _ _ _ (L + ms.length) (bs ++ ms) 4 L (by rw [List.length_append, HLl.out]) (Hby.out.append Hys.out) (by omega) Hmore.out HO9.out.bytes).mono ?_
      rintro e w10 ⟨rfl, hB10⟩
      have HB10 := Lib.hid (bel_trans HB9.out hB10)
      clear hB10
      go_wp2_with fail
      go_ret
      exact ⟨rfl, HB10.out⟩
    · have hneb : (E != 0) = true := by simpa using he
      go_wp2_with fail
      go_ret
      exact ⟨rfl, HB3.out⟩

end Go.Proofs.Ytkfhljggdcajpaa
