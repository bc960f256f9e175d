/-
  satchelkit.CopyNote.
-/
import Derived.Test.YtkfhljggdcajpaaNcut
import Derived.Deep.RegionHeld3
namespace Go.Proofs.Ytkfhljggdcajpaa
open Go.RowKit Go.Sort

/-- append onto a row of the call's own, from whatever source -/
theorem run_append_gen (w : World) (t ty e : TypeId) (i : TypeInfo) (z : Value) (size bytes : Nat) (ht : Try.prog.underlying t = some (.slice e)) (hi : Try.prog.info? e = some i) (hz : i.zero = some z)
    (hsize : i.size = size) (hby : i.bytes = bytes) (hzs : z.cells.size = size) (hsz : 0 < size) (a : Option Addr) (cap n : Nat) (xs : List Value) (hown : w.ownsRow 0 e size (.slice a n cap) n xs)
    (ao : Option Addr) (c m : Nat) (news : List Value) (hl : news.length = m * size) (hsrc : (ao = none ∧ m = 0) ∨ ∃ ad, ao = some ad ∧ ∀ j u, news[j]? = some u → w.cell? (ad.add j) = some u)
    (h1 : ∀ u ∈ news, u.oneCell' = true) (h63 : n + m ≤ maxLen) (hbytes : (n + m) * bytes ≤ 140737488355328) :
    ∃ a' cap' w', (Builtin.append_ #[t, t] ty #[.slice a n cap, .slice ao m c]).run Try.prog w = .ok (.slice a' (n + m) cap') w' ∧ w'.ownsRow 0 e size (.slice a' (n + m) cap') (n + m) (xs ++ news) ∧ w.grownBy w' (blk a) ∧ (blk a' = blk a ∨ blk a' = some w.heap.size) := by
  rcases hsrc with ⟨rfl, rfl⟩ | ⟨ad, rfl, hnews⟩
  · have hn0 : news = [] := List.eq_nil_of_length_eq_zero (by omega)
    subst hn0
    refine ⟨a, cap, w, ?_, by simpa using hown, ⟨rfl, rfl, rfl, Nat.le_refl _, fun _ _ _ => rfl⟩, .inl rfl⟩
    rcases hown.2 with ⟨hv, h0⟩ | ⟨g, c', cur, hv, _, _, hnc, _⟩
    · simp only [Value.slice.injEq] at hv
      obtain ⟨rfl, h1, rfl⟩ := hv
      rw [h1]
      simp [Builtin.append_, run_underlying ht, sizeOf, typeInfo, hi, Builtin.lenOf, Builtin.firstCells]
    · simp only [Value.slice.injEq] at hv
      obtain ⟨rfl, _, rfl⟩ := hv
      simp [Builtin.append_, run_underlying ht, sizeOf, typeInfo, hi, Builtin.lenOf, Builtin.firstCells, hnc, storeCells]
  · obtain ⟨v', w', hr, h2, h3, _, h5⟩ := run_append_own_at (P := Try.prog) w 0 t ty e i z size bytes ht hi hz hsize hby hzs hsz (.slice a n cap) n xs hown ad m c news hl hnews h1 h63 hbytes (Nat.zero_le _)
    obtain ⟨a', cap', rfl⟩ : ∃ a' cap, v' = .slice a' (n + m) cap := by
      rcases h2.2 with ⟨hv, h0⟩ | ⟨g, cap, cur, hv, _⟩
      · exact ⟨none, 0, by rw [hv, h0]⟩
      · exact ⟨_, _, hv⟩
    rw [ownBlock_eq] at h3
    simp only [ownBlock_eq] at h5
    exact ⟨a', cap', w', hr, h2, h3, h5⟩

/-- the same, at a step -/
theorem step_append_gen (w : World) {ops : Array Oper} {o : Oper} {act : Act} {K : Act → World → Prop} {Q : Exit → Act → World → Prop} {E : Prop} (hwant : Region.wanted o (yielded ops act.tmps) = true) (s x : Operand) (t e : TypeId)
    (ho : o.op = .call { callee := .builtin .append, args := #[s, x], argTypes := #[t, t] })
    (i : TypeInfo) (z : Value) (size bytes : Nat) (ht : Try.prog.underlying t = some (.slice e)) (hi : Try.prog.info? e = some i) (hz : i.zero = some z)
    (hsize : i.size = size) (hby : i.bytes = bytes) (hzs : z.cells.size = size) (hsz : 0 < size) (a : Option Addr) (cap n : Nat) (xs : List Value) (hown : w.ownsRow 0 e size (.slice a n cap) n xs)
    (ao : Option Addr) (c m : Nat) (news : List Value) (hs : act.eval s = .slice a n cap) (hx : act.eval x = .slice ao m c) (hl : news.length = m * size) (hsrc : (ao = none ∧ m = 0) ∨ ∃ ad, ao = some ad ∧ ∀ j u, news[j]? = some u → w.cell? (ad.add j) = some u)
    (h1 : ∀ u ∈ news, u.oneCell' = true) (h63 : n + m ≤ maxLen) (hbytes : (n + m) * bytes ≤ 140737488355328)
    (h : ∀ a' cap' w', w'.ownsRow 0 e size (.slice a' (n + m) cap') (n + m) (xs ++ news) → w.grownBy w' (blk a) → (blk a' = blk a ∨ blk a' = some w.heap.size) → K (act.put o.dst (.slice a' (n + m) cap')) w') :
    if Region.wanted o (yielded ops act.tmps) = true then Oper.wp Try.prog o act w K Q else E := by
  rw [if_pos hwant]
  obtain ⟨a', cap', w', hr, h2, h3, h4⟩ := run_append_gen w t o.type e i z size bytes ht hi hz hsize hby hzs hsz a cap n xs hown ao c m news hl hsrc h1 h63 hbytes
  unfold Oper.wp execOp
  simp only [ho, resolve, invoke, builtin, Sem.run_bind, Sem.run_pure, Result.andThen_ok, List.map_toArray, List.map_cons, List.map_nil, hs, hx, hr]
  exact h a' cap' w' h2 h3 h4

theorem ints_news {w : World} {a : Option Addr} {ns : List Int} (h : IntsAt w a ns) : (a = none ∧ ns.length = 0) ∨ ∃ ad, a = some ad ∧ ∀ j u, (ivals ns)[j]? = some u → w.cell? (ad.add j) = some u := by
  rcases h with rfl | ⟨b, off, rfl, _, hc⟩
  · cases a with
    | none => exact .inl ⟨rfl, rfl⟩
    | some ad => exact .inr ⟨ad, rfl, fun j u hu => by simp [ivals] at hu⟩
  · refine .inr ⟨_, rfl, fun j u hu => ?_⟩
    have hj : j < ns.length := by have := (List.getElem?_eq_some_iff.1 hu).1; simpa [ivals] using this
    rw [Addr.add_mid, hc j hj, ← hu]
    simp [ivals, List.getD, hj]
theorem ivals_one (ns : List Int) : ∀ u ∈ ivals ns, u.oneCell' = true := by
  intro u hu
  obtain ⟨x, _, rfl⟩ := List.mem_map.1 hu
  rfl
theorem dvals_one (ids : List (List Int)) : ∀ u ∈ dvals ids, u.oneCell' = true := by
  intro u hu
  obtain ⟨x, _, hx⟩ := List.mem_flatMap.1 hu
  exact bvals_one x u hx
theorem dvals_len (ids : List (List Int)) (h : Ids ids) : (dvals ids).length = ids.length * 16 := by
  induction ids with
  | nil => rfl
  | cons x ids ih =>
    have := ih (fun y hy => h y (by simp [hy]))
    unfold dvals at *
    rw [List.flatMap_cons, List.length_append, List.length_cons, bvals_length, (h x (by simp)).1, this]; omega
theorem ids_news {w : World} {a : Option Addr} {ids : List (List Int)} (hi : Ids ids) (h : IdsAt w a ids) : (a = none ∧ ids.length = 0) ∨ ∃ ad, a = some ad ∧ ∀ j u, (dvals ids)[j]? = some u → w.cell? (ad.add j) = some u := by
  rcases h with rfl | ⟨b, off, rfl, _, hc⟩
  · cases a with
    | none => exact .inl ⟨rfl, rfl⟩
    | some ad => exact .inr ⟨ad, rfl, fun j u hu => by simp [dvals] at hu⟩
  · refine .inr ⟨_, rfl, fun j u hu => ?_⟩
    have hj : j < ids.length * 16 := by have := (List.getElem?_eq_some_iff.1 hu).1; rwa [dvals_len ids hi] at this
    have hm : j % 16 < 16 := Nat.mod_lt _ (by decide)
    have hd : j / 16 < ids.length := by omega
    have e : j = j / 16 * 16 + j % 16 := by omega
    have hu' := hu
    rw [e, dvals_at ids hi (j / 16) (j % 16) hm, List.getElem?_eq_getElem hd] at hu'
    have hg : ids.getD (j / 16) [] = ids[j / 16] := by simp [List.getD, hd]
    have := hc (j / 16) hd (j % 16) u (by rw [hg]; exact hu')
    rw [Addr.add_mid, ← this]
    congr 2; omega
theorem src_news {w : World} {a : Option Addr} {bs : List Int} (h : Src w a bs) : Src w a bs := h

theorem owns_empty_ty (w : World) (e size : Nat) : (w.alloc (.cells #[] e)).ownsRow 0 e size (.slice (some ⟨w.heap.size, 0, none⟩) 0 0) 0 [] := World.ownsRow_made w #[] 0 (Nat.zero_le _) (by decide) (by simp)

/-- a copy of a note: rows of its own, apart from one another -/
structure Copied (w : World) (x : Note) (w' : World) (aN : Option Addr) (cN : Nat) (aI : Option Addr) (cI : Nat) (aB : Option Addr) (cB : Nat) : Prop where
  oN : OwnN w' aN cN x.ns
  oI : OwnD w' aI cI x.ids
  oB : Owns w' aB cB x.bs
  nN : ∀ k, blk aN = some k → w.heap.size ≤ k
  nI : ∀ k, blk aI = some k → w.heap.size ≤ k
  nB : ∀ k, blk aB = some k → w.heap.size ≤ k
  dNI : ∀ k, blk aN = some k → blk aI ≠ some k
  dNB : ∀ k, blk aN = some k → blk aB ≠ some k
  dIB : ∀ k, blk aI = some k → blk aB ≠ some k

theorem World.size_drew_ (w : World) : w.drew.heap.size = w.heap.size := rfl
theorem owns_empty_at (w : World) (e size q : Nat) (hq : w.heap.size = q) : (w.alloc (.cells #[] e)).ownsRow 0 e size (.slice (some ⟨q, 0, none⟩) 0 0) 0 [] := by subst hq; exact owns_empty_ty w e size

theorem noteRow_cells {w : World} {p : Nat} {a b c d : Value} (h : w.heap[p]? = some (.cells #[a, b, c, d] 69 (0, 0))) : w.cell? ⟨p, 0, none⟩ = some a ∧ w.cell? ⟨p, 1, none⟩ = some b ∧ w.cell? ⟨p, 2, none⟩ = some c ∧ w.cell? ⟨p, 3, none⟩ = some d :=
  ⟨by rw [cell_of_row _ _ _ _ _ _ h]; rfl, by rw [cell_of_row _ _ _ _ _ _ h]; rfl, by rw [cell_of_row _ _ _ _ _ _ h]; rfl, by rw [cell_of_row _ _ _ _ _ _ h]; rfl⟩

set_option maxRecDepth 1000000 in
set_option maxHeartbeats 4000000 in
/-- satchelkit.CopyNote -/
theorem copy_note_any (w : World) (x : Note) (aN : Option Addr) (cN : Nat) (aI : Option Addr) (cI : Nat) (aB : Option Addr) (cB : Nat) (h : NoteIn w x aN aI aB) :
    Calls Try.prog 50 #[.agg #[.int .i64 x.kind, .slice aN x.ns.length cN, .slice aI x.ids.length cI, .slice aB x.bs.length cB]] w fun e w' => ∃ n1 k1 n2 k2 n3 k3, e = .returned (.agg #[.int .i64 x.kind, .slice n1 x.ns.length k1, .slice n2 x.ids.length k2, .slice n3 x.bs.length k3]) ∧ Copied w x w' n1 k1 n2 k2 n3 k3 ∧ Below w.heap.size w w' := by
  have Hx := Lib.hid h
  have hln := Lib.hid h.ln
  have hli := Lib.hid h.li
  have hlb := Lib.hid h.lb
  clear h
  obtain ⟨i3, hi3, hz3, hs3, hb3⟩ := info_parts Try.info3
  obtain ⟨i37, hi37, hz37, hs37, hb37⟩ := info_parts Try.info37
  go_enter Try.func50, Try.ntmps50
  go_wp2_with fail
  have hr0 := heap_alloc2_old w (.cells #[.int .i64 x.kind, .slice aN x.ns.length cN, .slice aI x.ids.length cI, .slice aB x.bs.length cB] 69) (.cells #[.int .i64 0, .slice none 0 0, .slice none 0 0, .slice none 0 0] 69)
  have ht0 := heap_alloc2_new w (.cells #[.int .i64 x.kind, .slice aN x.ns.length cN, .slice aI x.ids.length cI, .slice aB x.bs.length cB] 69) (.cells #[.int .i64 0, .slice none 0 0, .slice none 0 0, .slice none 0 0] 69)
  have hb0 : Below w.heap.size w ((w.alloc (.cells #[.int .i64 x.kind, .slice aN x.ns.length cN, .slice aI x.ids.length cI, .slice aB x.bs.length cB] 69)).alloc (.cells #[.int .i64 0, .slice none 0 0, .slice none 0 0, .slice none 0 0] 69)) := bel_alloc _ (bel_alloc _ (Below.refl _ _))
  have hsz : ((w.alloc (.cells #[.int .i64 x.kind, .slice aN x.ns.length cN, .slice aI x.ids.length cI, .slice aB x.bs.length cB] 69)).alloc (.cells #[.int .i64 0, .slice none 0 0, .slice none 0 0, .slice none 0 0] 69)).heap.size = w.heap.size + 2 := by simp
  generalize (w.alloc (.cells #[.int .i64 x.kind, .slice aN x.ns.length cN, .slice aI x.ids.length cI, .slice aB x.bs.length cB] 69)).alloc (.cells #[.int .i64 0, .slice none 0 0, .slice none 0 0, .slice none 0 0] 69) = V at *
  have HR0 := Lib.hid (row_drew hr0)
  have HT0 := Lib.hid (row_drew ht0)
  have HB0 := Lib.hid (below_drew hb0)
  have hsz1 : w.heap.size + 2 ≤ (World.drew V).heap.size := by show _ ≤ V.heap.size; omega
  clear hr0 ht0 hb0 hsz
  refine wp_region_held_drew (S := fun w' => w'.cell? ⟨w.heap.size, 0, none⟩ = some (.int .i64 x.kind) ∧ w'.cell? ⟨w.heap.size, 1, none⟩ = some (.slice aN x.ns.length cN) ∧ w'.cell? ⟨w.heap.size, 2, none⟩ = some (.slice aI x.ids.length cI) ∧ w'.cell? ⟨w.heap.size, 3, none⟩ = some (.slice aB x.bs.length cB)) mixed (noteRow_cells HR0.out) (fun hS => ?_)
  generalize V.drew = U at *
  refine wpAnyH_take (i := 0) (v := .pointer (some ⟨w.heap.size, 0, none⟩)) rfl (by kernel_rfl) (by kernel_rfl) (by kernel_rfl) (fun c a w h => h) (.inl ⟨rfl, fun w hw => by simp [go_sem]⟩) hS ?_
  refine wpAnyH_take (i := 1) (v := .int .i64 x.kind) rfl (by kernel_rfl) (by kernel_rfl) (by kernel_rfl) (fun c a w h => h) (.inl ⟨rfl, fun w hw => by simp [go_sem, hw.1]⟩) hS ?_
  refine wpAnyH_take (i := 3) (v := .pointer (some ⟨w.heap.size, 1, none⟩)) rfl (by kernel_rfl) (by kernel_rfl) (by kernel_rfl) (fun c a w h => h) (.inl ⟨rfl, fun w hw => by simp [go_sem]⟩) hS ?_
  refine wpAnyH_take (i := 4) (v := .slice aN x.ns.length cN) rfl (by kernel_rfl) (by kernel_rfl) (by kernel_rfl) (fun c a w h => h) (.inl ⟨rfl, fun w hw => by simp [go_sem, hw.2.1]⟩) hS ?_
  refine wpAnyH_take (i := 7) (v := .pointer (some ⟨w.heap.size, 2, none⟩)) rfl (by kernel_rfl) (by kernel_rfl) (by kernel_rfl) (fun c a w h => h) (.inl ⟨rfl, fun w hw => by simp [go_sem]⟩) hS ?_
  refine wpAnyH_take (i := 8) (v := .slice aI x.ids.length cI) rfl (by kernel_rfl) (by kernel_rfl) (by kernel_rfl) (fun c a w h => h) (.inl ⟨rfl, fun w hw => by simp [go_sem, hw.2.2.1]⟩) hS ?_
  refine wpAnyH_take (i := 10) (v := .pointer (some ⟨w.heap.size, 3, none⟩)) rfl (by kernel_rfl) (by kernel_rfl) (by kernel_rfl) (fun c a w h => h) (.inl ⟨rfl, fun w hw => by simp [go_sem]⟩) hS ?_
  refine wpAnyH_take (i := 11) (v := .slice aB x.bs.length cB) rfl (by kernel_rfl) (by kernel_rfl) (by kernel_rfl) (fun c a w h => h) (.inl ⟨rfl, fun w hw => by simp [go_sem, hw.2.2.2]⟩) hS ?_
  refine wpAnyH_all (rs := [2, 6]) (by kernel_rfl) (by simp) (fun i hi => ?_)
  rcases (show i = 2 ∨ i = 6 by simpa using hi) with rfl | rfl
  · refine wpOp_step rfl (fun K hK => ?_)
    have HK := Lib.hid hK
    clear hK
    go_simp
    with_reducible refine HK.out _ _ ⟨noteRow_cells (row_alloc HR0.out _), ?_⟩
    clear HK
    refine wpAnyH_all (rs := [5, 6]) (by kernel_rfl) (by simp) (fun i hi => ?_)
    rcases (show i = 5 ∨ i = 6 by simpa using hi) with rfl | rfl
    · refine wpOp_step rfl (fun K hK => ?_)
      have HK := Lib.hid hK
      clear hK
      refine step_append_gen _ rfl (.tmp 5) (.tmp 7) 66 3 rfl i3 (.int .i64 0) 1 8 Try.underlying66 hi3 hz3 hs3 hb3 rfl (by decide) (some ⟨U.heap.size, 0, none⟩) 0 0 [] (owns_empty_ty U 3 1) aN cN x.ns.length (ivals x.ns) rfl rfl (by simp [ivals]) (ints_news (Hx.out.ns.below (bel_alloc _ HB0.out) (Nat.le_refl _))) (ivals_one _) (by unfold maxLen; have := hln.out; omega) (by have := hln.out; omega) ?_
      intro n1 k1 V2 own1 grow1 at1
      rw [Nat.zero_add, List.nil_append] at own1
      simp only [Nat.zero_add]
      have HRx := Lib.hid ((grow1.block _ (lt_of_row (row_alloc HR0.out (.cells #[] 3))) (fun e => by have := Option.some.inj e; simp only at this; omega)).trans (row_alloc HR0.out (.cells #[] 3)))
      have HTx := Lib.hid ((grow1.block _ (lt_of_row (row_alloc HT0.out (.cells #[] 3))) (fun e => by have := Option.some.inj e; simp only at this; omega)).trans (row_alloc HT0.out (.cells #[] 3)))
      have HBx := Lib.hid ((bel_alloc (.cells #[] 3) HB0.out).grown grow1 (bel_alloc (.cells #[] 3) HB0.out).size (fun k hk => by have := Option.some.inj hk; simp only at this; omega))
      have HNx := Lib.hid own1
      have gNx : Hid (∀ k, blk n1 = some k → w.heap.size + 2 ≤ k) := fun k hk => by
        rcases at1 with e | e
        · rw [e] at hk; have := Option.some.inj hk; simp only at this; omega
        · rw [e] at hk; have := Option.some.inj hk; have := lt_of_row (row_alloc HT0.out (.cells #[] 3)); simp only [World.size_alloc] at *; omega
      with_reducible refine HK.out _ _ ⟨noteRow_cells HRx.out, ?_⟩
      clear HK
      refine wpAnyH_all (rs := [6]) (by kernel_rfl) (by simp) (fun i hi => ?_)
      obtain rfl : i = 6 := by simpa using hi
      refine wpOp_step rfl (fun K hK => ?_)
      have HK := Lib.hid hK
      clear hK
      go_simp
      with_reducible refine HK.out _ _ ⟨noteRow_cells (row_alloc HRx.out _), ?_⟩
      clear HK
      have HR3 := Lib.hid (row_alloc HRx.out (.cells #[] 37))
      have HT3 := Lib.hid (row_alloc HTx.out (.cells #[] 37))
      have HB3 := Lib.hid (bel_alloc (.cells #[] 37) HBx.out)
      have HN3 := Lib.hid (HNx.out.alloc (.cells #[] 37))
      have HE3 := Lib.hid (owns_empty_ty V2 37 16)
      have G := Lib.hid (And.intro gNx.out (And.intro (show w.heap.size + 2 ≤ V2.heap.size by have := lt_of_row HTx.out; omega) (show ∀ k, blk n1 = some k → blk (some (⟨V2.heap.size, 0, none⟩ : Addr)) ≠ some k from fun k hk e => by have := ownsRow_blk HNx.out k hk; have := Option.some.inj e; simp only at this; omega)))
      clear HRx HTx HBx HNx gNx own1 grow1 at1
      refine wpAnyH_all (rs := [9]) (by kernel_rfl) (by simp) (fun i hi => ?_)
      obtain rfl : i = 9 := by simpa using hi
      refine wpOp_step rfl (fun K hK => ?_)
      have HK := Lib.hid hK
      clear hK
      refine step_append_gen _ rfl (.tmp 9) (.tmp 11) 67 37 rfl i37 (.agg (bvals z16).toArray) 16 16 Try.underlying67 hi37 hz37 hs37 hb37 rfl (by decide) (some ⟨V2.heap.size, 0, none⟩) 0 0 [] HE3.out aI cI x.ids.length (dvals x.ids) rfl rfl (dvals_len _ Hx.out.wid) (ids_news Hx.out.wid (Hx.out.ids.below HB3.out (Nat.le_refl _))) (dvals_one _) (by unfold maxLen; have := hli.out; omega) (by have := hli.out; omega) ?_
      intro n2 k2 V4 own2 grow2 at2
      rw [Nat.zero_add, List.nil_append] at own2
      simp only [Nat.zero_add]
      obtain ⟨g1, g2, g3⟩ := G.out
      have HR4 := Lib.hid ((grow2.block _ (lt_of_row HR3.out) (fun e => by have := Option.some.inj e; simp only at this; omega)).trans HR3.out)
      have HT4 := Lib.hid ((grow2.block _ (lt_of_row HT3.out) (fun e => by have := Option.some.inj e; simp only at this; omega)).trans HT3.out)
      have HB4 := Lib.hid (HB3.out.grown grow2 HB3.out.size (fun k hk => by have := Option.some.inj hk; simp only at this; omega))
      have HN4 := Lib.hid (ownsRow_of_block HN3.out fun k hk hl => grow2.block k hl (fun e => g3 k hk e.symm))
      have h2lt := ownsRow_blk own2
      have hn2 : ∀ k, blk n2 = some k → w.heap.size + 2 ≤ k := fun k hk => by
        rcases at2 with e | e
        · rw [e] at hk; have := Option.some.inj hk; simp only at this; omega
        · rw [e] at hk; have := Option.some.inj hk; have := lt_of_row HT3.out; omega
      have hd12 : ∀ k, blk n1 = some k → blk n2 ≠ some k := fun k hk e => by
        rcases at2 with f | f
        · rw [f] at e; exact g3 k hk e
        · rw [f] at e; have := ownsRow_blk HN3.out k hk; have := Option.some.inj e; omega
      have H2 := Lib.hid own2
      have G4 := Lib.hid (And.intro g1 (And.intro hn2 hd12))
      clear own2 grow2 at2 hn2 hd12 HR3 HT3 HN3 HE3 G g1 g2 g3 h2lt
      with_reducible refine HK.out _ _ ⟨noteRow_cells HR4.out, ?_⟩
      clear HK
      refine wpAnyH_all (rs := [12]) (by kernel_rfl) (by simp) (fun i hi => ?_)
      obtain rfl : i = 12 := by simpa using hi
      refine wpOp_step rfl (fun K hK => ?_)
      have HK := Lib.hid hK
      clear hK
      go_simp
      refine (copy_bytes_any V4 aB cB x.bs.length x.bs rfl (Hx.out.bs.bytesAt_or' HB4.out) (by have := hlb.out; omega)).mono ?_
      rintro e V5 ⟨n3, k3, rfl, own3, new3, hB5⟩
      have HR5 := Lib.hid ((hB5.block _ (lt_of_row HR4.out)).trans HR4.out)
      have HT5 := Lib.hid ((hB5.block _ (lt_of_row HT4.out)).trans HT4.out)
      have HN5 := Lib.hid (ownsRow_of_block HN4.out fun k _ hl => hB5.block k hl)
      have H25 := Lib.hid (ownsRow_of_block H2.out fun k _ hl => hB5.block k hl)
      have HB5 := Lib.hid (bel_trans HB4.out hB5)
      have H3 := Lib.hid own3
      have G5 : Hid (∀ k, blk n3 = some k → w.heap.size + 2 ≤ k ∧ blk n1 ≠ some k ∧ blk n2 ≠ some k) := fun k hk => by
        have h1 := new3 k hk
        refine ⟨by have := lt_of_row HT4.out; omega, fun e => ?_, fun e => ?_⟩
        · have := ownsRow_blk HN4.out k e; omega
        · have := ownsRow_blk H2.out k e; omega
      clear hB5 own3 new3 HR4 HT4 HN4 H2 HB4
      with_reducible refine HK.out _ _ ⟨noteRow_cells HR5.out, ?_⟩
      clear HK
      refine wpAnyH_all (rs := [13]) (by kernel_rfl) (by simp) (fun i hi => ?_)
      obtain rfl : i = 13 := by simpa using hi
      refine wpOp_step rfl (fun K hK => ?_)
      have HK := Lib.hid hK
      clear hK
      go_simp
      with_reducible refine HK.out _ _ ⟨noteRow_cells HR5.out, ?_⟩
      clear HK
      have z0 : V5.cell? ⟨w.heap.size + 1, 0, none⟩ = some (.int .i64 0) := by rw [cell_of_row _ _ _ _ _ _ HT5.out]; rfl
      have z1 : V5.cell? ⟨w.heap.size + 1, 1, none⟩ = some (.slice none 0 0) := by rw [cell_of_row _ _ _ _ _ _ HT5.out]; rfl
      have z2 : V5.cell? ⟨w.heap.size + 1, 2, none⟩ = some (.slice none 0 0) := by rw [cell_of_row _ _ _ _ _ _ HT5.out]; rfl
      have z3 : V5.cell? ⟨w.heap.size + 1, 3, none⟩ = some (.slice none 0 0) := by rw [cell_of_row _ _ _ _ _ _ HT5.out]; rfl
      have zf : ∀ i, V5.frozen? ⟨w.heap.size + 1, i, none⟩ = false := fun i => frozen_of_row _ _ _ _ _ HT5.out
      refine wpAnyH_all (rs := [14]) (by kernel_rfl) (by simp) (fun i hi => ?_)
      obtain rfl : i = 14 := by simpa using hi
      refine wpOp_step rfl (fun K hK => ?_)
      have HK := Lib.hid hK
      clear hK
      go_simp
      with_reducible refine HK.out _ _ ⟨noteRow_cells (row_far4 HR5.out (by omega) _ _ _ _), ?_⟩
      clear HK
      refine wpAnyH_done (by kernel_rfl) ?_ _
      go_wp2_with fail
      obtain ⟨g1, g2, g3⟩ := G4.out
      have hk : ∀ p, p ≠ w.heap.size + 1 → ∀ a b c d, ((((V5.setCell ⟨w.heap.size + 1, 0, none⟩ a).setCell ⟨w.heap.size + 1, 1, none⟩ b).setCell ⟨w.heap.size + 1, 2, none⟩ c).setCell ⟨w.heap.size + 1, 3, none⟩ d).heap[p]? = V5.heap[p]? := fun p hp a b c d => by
        rw [heap_setCell_other _ _ _ _ hp, heap_setCell_other _ _ _ _ hp, heap_setCell_other _ _ _ _ hp, heap_setCell_other _ _ _ _ hp]
      refine bodyPost_ret (v := .agg #[.int .i64 x.kind, .slice n1 x.ns.length k1, .slice n2 x.ids.length k2, .slice n3 x.bs.length k3]) (results_cell_row rfl _ _ (w.heap.size + 1) 69 _ (0, 0) _ rfl (row_set4 HT5.out _ _ _ _) Try.underlying69 rfl note_size) rfl ⟨n1, k1, n2, k2, n3, k3, rfl, ?_, ?_⟩
      · exact ⟨ownsRow_of_block HN5.out fun k hk' _ => hk k (by have := g1 k hk'; omega) _ _ _ _, ownsRow_of_block H25.out fun k hk' _ => hk k (by have := g2 k hk'; omega) _ _ _ _, H3.out.of_block fun k hk' _ => hk k (by have := (G5.out k hk').1; omega) _ _ _ _,
          fun k hk' => by have := g1 k hk'; omega, fun k hk' => by have := g2 k hk'; omega, fun k hk' => by have := (G5.out k hk').1; omega, g3, fun k hk' e => (G5.out k e).2.1 hk', fun k hk' e => (G5.out k e).2.2 hk'⟩
      · exact (((HB5.out.setCell (p := ⟨w.heap.size + 1, 0, none⟩) (Nat.le_succ _) _).setCell (p := ⟨w.heap.size + 1, 1, none⟩) (Nat.le_succ _) _).setCell (p := ⟨w.heap.size + 1, 2, none⟩) (Nat.le_succ _) _).setCell (p := ⟨w.heap.size + 1, 3, none⟩) (Nat.le_succ _) _
    · refine wpOp_step rfl (fun K hK => ?_)
      have HK := Lib.hid hK
      clear hK
      go_simp
      with_reducible refine HK.out _ _ ⟨noteRow_cells (row_alloc (row_alloc HR0.out (.cells #[] 3)) _), ?_⟩
      clear HK
      refine wpAnyH_all (rs := [5]) (by kernel_rfl) (by simp) (fun i hi => ?_)
      obtain rfl : i = 5 := by simpa using hi
      refine wpOp_step rfl (fun K hK => ?_)
      have HK := Lib.hid hK
      clear hK
      refine step_append_gen _ rfl (.tmp 5) (.tmp 7) 66 3 rfl i3 (.int .i64 0) 1 8 Try.underlying66 hi3 hz3 hs3 hb3 rfl (by decide) (some ⟨U.heap.size, 0, none⟩) 0 0 [] ((owns_empty_ty U 3 1).alloc (.cells #[] 37)) aN cN x.ns.length (ivals x.ns) rfl rfl (by simp [ivals]) (ints_news (Hx.out.ns.below (bel_alloc _ (bel_alloc _ HB0.out)) (Nat.le_refl _))) (ivals_one _) (by unfold maxLen; have := hln.out; omega) (by have := hln.out; omega) ?_
      intro n1 k1 V3 own1 grow1 at1
      rw [Nat.zero_add, List.nil_append] at own1
      simp only [Nat.zero_add]
      have HRx := Lib.hid ((grow1.block _ (lt_of_row (row_alloc (row_alloc HR0.out (.cells #[] 3)) (.cells #[] 37))) (fun e => by have := Option.some.inj e; simp only at this; omega)).trans (row_alloc (row_alloc HR0.out (.cells #[] 3)) (.cells #[] 37)))
      have HTx := Lib.hid ((grow1.block _ (lt_of_row (row_alloc (row_alloc HT0.out (.cells #[] 3)) (.cells #[] 37))) (fun e => by have := Option.some.inj e; simp only at this; omega)).trans (row_alloc (row_alloc HT0.out (.cells #[] 3)) (.cells #[] 37)))
      have HBx := Lib.hid ((bel_alloc (.cells #[] 37) (bel_alloc (.cells #[] 3) HB0.out)).grown grow1 (bel_alloc (.cells #[] 37) (bel_alloc (.cells #[] 3) HB0.out)).size (fun k hk => by have := Option.some.inj hk; simp only at this; omega))
      have HNx := Lib.hid own1
      have gNx : Hid (∀ k, blk n1 = some k → w.heap.size + 2 ≤ k) := fun k hk => by
        rcases at1 with e | e
        · rw [e] at hk; have := Option.some.inj hk; simp only at this; omega
        · rw [e] at hk; have := Option.some.inj hk; have := lt_of_row (row_alloc (row_alloc HT0.out (.cells #[] 3)) (.cells #[] 37)); simp only [World.size_alloc] at *; omega
      have HEx := Lib.hid (ownsRow_of_block (owns_empty_ty (U.alloc (.cells #[] 3)) 37 16) fun k hk hl => grow1.block k hl (fun e => by have h1 := Option.some.inj hk; have h2 := Option.some.inj e; simp only [World.size_alloc] at h1 h2; omega))
      rw [World.size_alloc] at HEx
      with_reducible refine HK.out _ _ ⟨noteRow_cells HRx.out, ?_⟩
      clear HK
      have HR3 := HRx
      have HT3 := HTx
      have HB3 := HBx
      have HN3 := HNx
      have HE3 := HEx
      have G := Lib.hid (And.intro gNx.out (And.intro (show w.heap.size + 2 ≤ U.heap.size + 1 by omega) (show ∀ k, blk n1 = some k → blk (some (⟨U.heap.size + 1, 0, none⟩ : Addr)) ≠ some k from fun k hk e => by
        have hq := Option.some.inj e
        simp only at hq
        rcases at1 with f | f
        · rw [f] at hk; have := Option.some.inj hk; simp only at this; omega
        · rw [f] at hk; have := Option.some.inj hk; simp only [World.size_alloc] at this; omega)))
      clear HRx HTx HBx HNx gNx own1 grow1 at1
      refine wpAnyH_all (rs := [9]) (by kernel_rfl) (by simp) (fun i hi => ?_)
      obtain rfl : i = 9 := by simpa using hi
      refine wpOp_step rfl (fun K hK => ?_)
      have HK := Lib.hid hK
      clear hK
      refine step_append_gen _ rfl (.tmp 9) (.tmp 11) 67 37 rfl i37 (.agg (bvals z16).toArray) 16 16 Try.underlying67 hi37 hz37 hs37 hb37 rfl (by decide) (some ⟨U.heap.size + 1, 0, none⟩) 0 0 [] HE3.out aI cI x.ids.length (dvals x.ids) rfl rfl (dvals_len _ Hx.out.wid) (ids_news Hx.out.wid (Hx.out.ids.below HB3.out (Nat.le_refl _))) (dvals_one _) (by unfold maxLen; have := hli.out; omega) (by have := hli.out; omega) ?_
      intro n2 k2 V4 own2 grow2 at2
      rw [Nat.zero_add, List.nil_append] at own2
      simp only [Nat.zero_add]
      obtain ⟨g1, g2, g3⟩ := G.out
      have HR4 := Lib.hid ((grow2.block _ (lt_of_row HR3.out) (fun e => by have := Option.some.inj e; simp only at this; omega)).trans HR3.out)
      have HT4 := Lib.hid ((grow2.block _ (lt_of_row HT3.out) (fun e => by have := Option.some.inj e; simp only at this; omega)).trans HT3.out)
      have HB4 := Lib.hid (HB3.out.grown grow2 HB3.out.size (fun k hk => by have := Option.some.inj hk; simp only at this; omega))
      have HN4 := Lib.hid (ownsRow_of_block HN3.out fun k hk hl => grow2.block k hl (fun e => g3 k hk e.symm))
      have h2lt := ownsRow_blk own2
      have hn2 : ∀ k, blk n2 = some k → w.heap.size + 2 ≤ k := fun k hk => by
        rcases at2 with e | e
        · rw [e] at hk; have := Option.some.inj hk; simp only at this; omega
        · rw [e] at hk; have := Option.some.inj hk; have := lt_of_row HT3.out; omega
      have hd12 : ∀ k, blk n1 = some k → blk n2 ≠ some k := fun k hk e => by
        rcases at2 with f | f
        · rw [f] at e; exact g3 k hk e
        · rw [f] at e; have := ownsRow_blk HN3.out k hk; have := Option.some.inj e; omega
      have H2 := Lib.hid own2
      have G4 := Lib.hid (And.intro g1 (And.intro hn2 hd12))
      clear own2 grow2 at2 hn2 hd12 HR3 HT3 HN3 HE3 G g1 g2 g3 h2lt
      with_reducible refine HK.out _ _ ⟨noteRow_cells HR4.out, ?_⟩
      clear HK
      refine wpAnyH_all (rs := [12]) (by kernel_rfl) (by simp) (fun i hi => ?_)
      obtain rfl : i = 12 := by simpa using hi
      refine wpOp_step rfl (fun K hK => ?_)
      have HK := Lib.hid hK
      clear hK
      go_simp
      refine (copy_bytes_any V4 aB cB x.bs.length x.bs rfl (Hx.out.bs.bytesAt_or' HB4.out) (by have := hlb.out; omega)).mono ?_
      rintro e V5 ⟨n3, k3, rfl, own3, new3, hB5⟩
      have HR5 := Lib.hid ((hB5.block _ (lt_of_row HR4.out)).trans HR4.out)
      have HT5 := Lib.hid ((hB5.block _ (lt_of_row HT4.out)).trans HT4.out)
      have HN5 := Lib.hid (ownsRow_of_block HN4.out fun k _ hl => hB5.block k hl)
      have H25 := Lib.hid (ownsRow_of_block H2.out fun k _ hl => hB5.block k hl)
      have HB5 := Lib.hid (bel_trans HB4.out hB5)
      have H3 := Lib.hid own3
      have G5 : Hid (∀ k, blk n3 = some k → w.heap.size + 2 ≤ k ∧ blk n1 ≠ some k ∧ blk n2 ≠ some k) := fun k hk => by
        have h1 := new3 k hk
        refine ⟨by have := lt_of_row HT4.out; omega, fun e => ?_, fun e => ?_⟩
        · have := ownsRow_blk HN4.out k e; omega
        · have := ownsRow_blk H2.out k e; omega
      clear hB5 own3 new3 HR4 HT4 HN4 H2 HB4
      with_reducible refine HK.out _ _ ⟨noteRow_cells HR5.out, ?_⟩
      clear HK
      refine wpAnyH_all (rs := [13]) (by kernel_rfl) (by simp) (fun i hi => ?_)
      obtain rfl : i = 13 := by simpa using hi
      refine wpOp_step rfl (fun K hK => ?_)
      have HK := Lib.hid hK
      clear hK
      go_simp
      with_reducible refine HK.out _ _ ⟨noteRow_cells HR5.out, ?_⟩
      clear HK
      have z0 : V5.cell? ⟨w.heap.size + 1, 0, none⟩ = some (.int .i64 0) := by rw [cell_of_row _ _ _ _ _ _ HT5.out]; rfl
      have z1 : V5.cell? ⟨w.heap.size + 1, 1, none⟩ = some (.slice none 0 0) := by rw [cell_of_row _ _ _ _ _ _ HT5.out]; rfl
      have z2 : V5.cell? ⟨w.heap.size + 1, 2, none⟩ = some (.slice none 0 0) := by rw [cell_of_row _ _ _ _ _ _ HT5.out]; rfl
      have z3 : V5.cell? ⟨w.heap.size + 1, 3, none⟩ = some (.slice none 0 0) := by rw [cell_of_row _ _ _ _ _ _ HT5.out]; rfl
      have zf : ∀ i, V5.frozen? ⟨w.heap.size + 1, i, none⟩ = false := fun i => frozen_of_row _ _ _ _ _ HT5.out
      refine wpAnyH_all (rs := [14]) (by kernel_rfl) (by simp) (fun i hi => ?_)
      obtain rfl : i = 14 := by simpa using hi
      refine wpOp_step rfl (fun K hK => ?_)
      have HK := Lib.hid hK
      clear hK
      go_simp
      with_reducible refine HK.out _ _ ⟨noteRow_cells (row_far4 HR5.out (by omega) _ _ _ _), ?_⟩
      clear HK
      refine wpAnyH_done (by kernel_rfl) ?_ _
      go_wp2_with fail
      obtain ⟨g1, g2, g3⟩ := G4.out
      have hk : ∀ p, p ≠ w.heap.size + 1 → ∀ a b c d, ((((V5.setCell ⟨w.heap.size + 1, 0, none⟩ a).setCell ⟨w.heap.size + 1, 1, none⟩ b).setCell ⟨w.heap.size + 1, 2, none⟩ c).setCell ⟨w.heap.size + 1, 3, none⟩ d).heap[p]? = V5.heap[p]? := fun p hp a b c d => by
        rw [heap_setCell_other _ _ _ _ hp, heap_setCell_other _ _ _ _ hp, heap_setCell_other _ _ _ _ hp, heap_setCell_other _ _ _ _ hp]
      refine bodyPost_ret (v := .agg #[.int .i64 x.kind, .slice n1 x.ns.length k1, .slice n2 x.ids.length k2, .slice n3 x.bs.length k3]) (results_cell_row rfl _ _ (w.heap.size + 1) 69 _ (0, 0) _ rfl (row_set4 HT5.out _ _ _ _) Try.underlying69 rfl note_size) rfl ⟨n1, k1, n2, k2, n3, k3, rfl, ?_, ?_⟩
      · exact ⟨ownsRow_of_block HN5.out fun k hk' _ => hk k (by have := g1 k hk'; omega) _ _ _ _, ownsRow_of_block H25.out fun k hk' _ => hk k (by have := g2 k hk'; omega) _ _ _ _, H3.out.of_block fun k hk' _ => hk k (by have := (G5.out k hk').1; omega) _ _ _ _,
          fun k hk' => by have := g1 k hk'; omega, fun k hk' => by have := g2 k hk'; omega, fun k hk' => by have := (G5.out k hk').1; omega, g3, fun k hk' e => (G5.out k e).2.1 hk', fun k hk' e => (G5.out k e).2.2 hk'⟩
      · exact (((HB5.out.setCell (p := ⟨w.heap.size + 1, 0, none⟩) (Nat.le_succ _) _).setCell (p := ⟨w.heap.size + 1, 1, none⟩) (Nat.le_succ _) _).setCell (p := ⟨w.heap.size + 1, 2, none⟩) (Nat.le_succ _) _).setCell (p := ⟨w.heap.size + 1, 3, none⟩) (Nat.le_succ _) _
  · refine wpOp_step rfl (fun K hK => ?_)
    have HK := Lib.hid hK
    clear hK
    go_simp
    with_reducible refine HK.out _ _ ⟨noteRow_cells (row_alloc HR0.out _), ?_⟩
    clear HK
    refine wpAnyH_all (rs := [2]) (by kernel_rfl) (by simp) (fun i hi => ?_)
    obtain rfl : i = 2 := by simpa using hi
    refine wpOp_step rfl (fun K hK => ?_)
    have HK := Lib.hid hK
    clear hK
    go_simp
    with_reducible refine HK.out _ _ ⟨noteRow_cells (row_alloc (row_alloc HR0.out (.cells #[] 37)) _), ?_⟩
    clear HK
    refine wpAnyH_all (rs := [5]) (by kernel_rfl) (by simp) (fun i hi => ?_)
    obtain rfl : i = 5 := by simpa using hi
    refine wpOp_step rfl (fun K hK => ?_)
    have HK := Lib.hid hK
    clear hK
    refine step_append_gen _ rfl (.tmp 5) (.tmp 7) 66 3 rfl i3 (.int .i64 0) 1 8 Try.underlying66 hi3 hz3 hs3 hb3 rfl (by decide) (some ⟨U.heap.size + 1, 0, none⟩) 0 0 [] (owns_empty_at (U.alloc (.cells #[] 37)) 3 1 (U.heap.size + 1) (by rw [World.size_alloc])) aN cN x.ns.length (ivals x.ns) rfl rfl (by simp [ivals]) (ints_news (Hx.out.ns.below (bel_alloc _ (bel_alloc _ HB0.out)) (Nat.le_refl _))) (ivals_one _) (by unfold maxLen; have := hln.out; omega) (by have := hln.out; omega) ?_
    intro n1 k1 V3 own1 grow1 at1
    rw [Nat.zero_add, List.nil_append] at own1
    simp only [Nat.zero_add]
    have HRx := Lib.hid ((grow1.block _ (lt_of_row (row_alloc (row_alloc HR0.out (.cells #[] 37)) (.cells #[] 3))) (fun e => by have := Option.some.inj e; simp only at this; omega)).trans (row_alloc (row_alloc HR0.out (.cells #[] 37)) (.cells #[] 3)))
    have HTx := Lib.hid ((grow1.block _ (lt_of_row (row_alloc (row_alloc HT0.out (.cells #[] 37)) (.cells #[] 3))) (fun e => by have := Option.some.inj e; simp only at this; omega)).trans (row_alloc (row_alloc HT0.out (.cells #[] 37)) (.cells #[] 3)))
    have HBx := Lib.hid ((bel_alloc (.cells #[] 3) (bel_alloc (.cells #[] 37) HB0.out)).grown grow1 (bel_alloc (.cells #[] 3) (bel_alloc (.cells #[] 37) HB0.out)).size (fun k hk => by have := Option.some.inj hk; simp only at this; omega))
    have HNx := Lib.hid own1
    have gNx : Hid (∀ k, blk n1 = some k → w.heap.size + 2 ≤ k) := fun k hk => by
      rcases at1 with e | e
      · rw [e] at hk; have := Option.some.inj hk; simp only at this; omega
      · rw [e] at hk; have := Option.some.inj hk; have := lt_of_row (row_alloc (row_alloc HT0.out (.cells #[] 37)) (.cells #[] 3)); simp only [World.size_alloc] at *; omega
    have HEx := Lib.hid (ownsRow_of_block ((owns_empty_ty U 37 16).alloc (.cells #[] 3)) fun k hk hl => grow1.block k hl (fun e => by have h1 := Option.some.inj hk; have h2 := Option.some.inj e; simp only at h1 h2; omega))
    with_reducible refine HK.out _ _ ⟨noteRow_cells HRx.out, ?_⟩
    clear HK
    have HR3 := HRx
    have HT3 := HTx
    have HB3 := HBx
    have HN3 := HNx
    have HE3 := HEx
    have G := Lib.hid (And.intro gNx.out (And.intro (show w.heap.size + 2 ≤ U.heap.size by omega) (show ∀ k, blk n1 = some k → blk (some (⟨U.heap.size, 0, none⟩ : Addr)) ≠ some k from fun k hk e => by
      have hq := Option.some.inj e
      simp only at hq
      rcases at1 with f | f
      · rw [f] at hk; have := Option.some.inj hk; simp only at this; omega
      · rw [f] at hk; have := Option.some.inj hk; simp only [World.size_alloc] at this; omega)))
    clear HRx HTx HBx HNx gNx own1 grow1 at1
    refine wpAnyH_all (rs := [9]) (by kernel_rfl) (by simp) (fun i hi => ?_)
    obtain rfl : i = 9 := by simpa using hi
    refine wpOp_step rfl (fun K hK => ?_)
    have HK := Lib.hid hK
    clear hK
    refine step_append_gen _ rfl (.tmp 9) (.tmp 11) 67 37 rfl i37 (.agg (bvals z16).toArray) 16 16 Try.underlying67 hi37 hz37 hs37 hb37 rfl (by decide) (some ⟨U.heap.size, 0, none⟩) 0 0 [] HE3.out aI cI x.ids.length (dvals x.ids) rfl rfl (dvals_len _ Hx.out.wid) (ids_news Hx.out.wid (Hx.out.ids.below HB3.out (Nat.le_refl _))) (dvals_one _) (by unfold maxLen; have := hli.out; omega) (by have := hli.out; omega) ?_
    intro n2 k2 V4 own2 grow2 at2
    rw [Nat.zero_add, List.nil_append] at own2
    simp only [Nat.zero_add]
    obtain ⟨g1, g2, g3⟩ := G.out
    have HR4 := Lib.hid ((grow2.block _ (lt_of_row HR3.out) (fun e => by have := Option.some.inj e; simp only at this; omega)).trans HR3.out)
    have HT4 := Lib.hid ((grow2.block _ (lt_of_row HT3.out) (fun e => by have := Option.some.inj e; simp only at this; omega)).trans HT3.out)
    have HB4 := Lib.hid (HB3.out.grown grow2 HB3.out.size (fun k hk => by have := Option.some.inj hk; simp only at this; omega))
    have HN4 := Lib.hid (ownsRow_of_block HN3.out fun k hk hl => grow2.block k hl (fun e => g3 k hk e.symm))
    have h2lt := ownsRow_blk own2
    have hn2 : ∀ k, blk n2 = some k → w.heap.size + 2 ≤ k := fun k hk => by
      rcases at2 with e | e
      · rw [e] at hk; have := Option.some.inj hk; simp only at this; omega
      · rw [e] at hk; have := Option.some.inj hk; have := lt_of_row HT3.out; omega
    have hd12 : ∀ k, blk n1 = some k → blk n2 ≠ some k := fun k hk e => by
      rcases at2 with f | f
      · rw [f] at e; exact g3 k hk e
      · rw [f] at e; have := ownsRow_blk HN3.out k hk; have := Option.some.inj e; omega
    have H2 := Lib.hid own2
    have G4 := Lib.hid (And.intro g1 (And.intro hn2 hd12))
    clear own2 grow2 at2 hn2 hd12 HR3 HT3 HN3 HE3 G g1 g2 g3 h2lt
    with_reducible refine HK.out _ _ ⟨noteRow_cells HR4.out, ?_⟩
    clear HK
    refine wpAnyH_all (rs := [12]) (by kernel_rfl) (by simp) (fun i hi => ?_)
    obtain rfl : i = 12 := by simpa using hi
    refine wpOp_step rfl (fun K hK => ?_)
    have HK := Lib.hid hK
    clear hK
    go_simp
    refine (copy_bytes_any V4 aB cB x.bs.length x.bs rfl (Hx.out.bs.bytesAt_or' HB4.out) (by have := hlb.out; omega)).mono ?_
    rintro e V5 ⟨n3, k3, rfl, own3, new3, hB5⟩
    have HR5 := Lib.hid ((hB5.block _ (lt_of_row HR4.out)).trans HR4.out)
    have HT5 := Lib.hid ((hB5.block _ (lt_of_row HT4.out)).trans HT4.out)
    have HN5 := Lib.hid (ownsRow_of_block HN4.out fun k _ hl => hB5.block k hl)
    have H25 := Lib.hid (ownsRow_of_block H2.out fun k _ hl => hB5.block k hl)
    have HB5 := Lib.hid (bel_trans HB4.out hB5)
    have H3 := Lib.hid own3
    have G5 : Hid (∀ k, blk n3 = some k → w.heap.size + 2 ≤ k ∧ blk n1 ≠ some k ∧ blk n2 ≠ some k) := fun k hk => by
      have h1 := new3 k hk
      refine ⟨by have := lt_of_row HT4.out; omega, fun e => ?_, fun e => ?_⟩
      · have := ownsRow_blk HN4.out k e; omega
      · have := ownsRow_blk H2.out k e; omega
    clear hB5 own3 new3 HR4 HT4 HN4 H2 HB4
    with_reducible refine HK.out _ _ ⟨noteRow_cells HR5.out, ?_⟩
    clear HK
    refine wpAnyH_all (rs := [13]) (by kernel_rfl) (by simp) (fun i hi => ?_)
    obtain rfl : i = 13 := by simpa using hi
    refine wpOp_step rfl (fun K hK => ?_)
    have HK := Lib.hid hK
    clear hK
    go_simp
    with_reducible refine HK.out _ _ ⟨noteRow_cells HR5.out, ?_⟩
    clear HK
    have z0 : V5.cell? ⟨w.heap.size + 1, 0, none⟩ = some (.int .i64 0) := by rw [cell_of_row _ _ _ _ _ _ HT5.out]; rfl
    have z1 : V5.cell? ⟨w.heap.size + 1, 1, none⟩ = some (.slice none 0 0) := by rw [cell_of_row _ _ _ _ _ _ HT5.out]; rfl
    have z2 : V5.cell? ⟨w.heap.size + 1, 2, none⟩ = some (.slice none 0 0) := by rw [cell_of_row _ _ _ _ _ _ HT5.out]; rfl
    have z3 : V5.cell? ⟨w.heap.size + 1, 3, none⟩ = some (.slice none 0 0) := by rw [cell_of_row _ _ _ _ _ _ HT5.out]; rfl
    have zf : ∀ i, V5.frozen? ⟨w.heap.size + 1, i, none⟩ = false := fun i => frozen_of_row _ _ _ _ _ HT5.out
    refine wpAnyH_all (rs := [14]) (by kernel_rfl) (by simp) (fun i hi => ?_)
    obtain rfl : i = 14 := by simpa using hi
    refine wpOp_step rfl (fun K hK => ?_)
    have HK := Lib.hid hK
    clear hK
    go_simp
    with_reducible refine HK.out _ _ ⟨noteRow_cells (row_far4 HR5.out (by omega) _ _ _ _), ?_⟩
    clear HK
    refine wpAnyH_done (by kernel_rfl) ?_ _
    go_wp2_with fail
    obtain ⟨g1, g2, g3⟩ := G4.out
    have hk : ∀ p, p ≠ w.heap.size + 1 → ∀ a b c d, ((((V5.setCell ⟨w.heap.size + 1, 0, none⟩ a).setCell ⟨w.heap.size + 1, 1, none⟩ b).setCell ⟨w.heap.size + 1, 2, none⟩ c).setCell ⟨w.heap.size + 1, 3, none⟩ d).heap[p]? = V5.heap[p]? := fun p hp a b c d => by
      rw [heap_setCell_other _ _ _ _ hp, heap_setCell_other _ _ _ _ hp, heap_setCell_other _ _ _ _ hp, heap_setCell_other _ _ _ _ hp]
    refine bodyPost_ret (v := .agg #[.int .i64 x.kind, .slice n1 x.ns.length k1, .slice n2 x.ids.length k2, .slice n3 x.bs.length k3]) (results_cell_row rfl _ _ (w.heap.size + 1) 69 _ (0, 0) _ rfl (row_set4 HT5.out _ _ _ _) Try.underlying69 rfl note_size) rfl ⟨n1, k1, n2, k2, n3, k3, rfl, ?_, ?_⟩
    · exact ⟨ownsRow_of_block HN5.out fun k hk' _ => hk k (by have := g1 k hk'; omega) _ _ _ _, ownsRow_of_block H25.out fun k hk' _ => hk k (by have := g2 k hk'; omega) _ _ _ _, H3.out.of_block fun k hk' _ => hk k (by have := (G5.out k hk').1; omega) _ _ _ _,
        fun k hk' => by have := g1 k hk'; omega, fun k hk' => by have := g2 k hk'; omega, fun k hk' => by have := (G5.out k hk').1; omega, g3, fun k hk' e => (G5.out k e).2.1 hk', fun k hk' e => (G5.out k e).2.2 hk'⟩
    · exact (((HB5.out.setCell (p := ⟨w.heap.size + 1, 0, none⟩) (Nat.le_succ _) _).setCell (p := ⟨w.heap.size + 1, 1, none⟩) (Nat.le_succ _) _).setCell (p := ⟨w.heap.size + 1, 2, none⟩) (Nat.le_succ _) _).setCell (p := ⟨w.heap.size + 1, 3, none⟩) (Nat.le_succ _) _

end Go.Proofs.Ytkfhljggdcajpaa
