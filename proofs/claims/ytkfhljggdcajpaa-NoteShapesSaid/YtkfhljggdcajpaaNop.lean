/-
  A note that came in, opened: from what the form reads to cells; LongNote.
-/
import Derived.Deep.Slices
import Derived.OpenShut
import Derived.Test.YtkfhljggdcajpaaSmn
namespace Go.Proofs.Ytkfhljggdcajpaa
open Go.ChangeShapes Go.WideShapes Go.RowKit

/-- a note's parts lie there, however many they are -/
structure NoteAny (w : World) (x : Note) (aN aI aB : Option Addr) : Prop where
  ns : IntsAt w aN x.ns
  ids : IdsAt w aI x.ids
  bs : Src w aB x.bs
  wid : Ids x.ids
  wbs : Bys x.bs

theorem NoteAny.inn {w : World} {x : Note} {aN aI aB : Option Addr} (h : NoteAny w x aN aI aB) (hl : ¬ (200 < x.ns.length ∨ 40 < x.ids.length ∨ 2000 < x.bs.length)) : NoteIn w x aN aI aB :=
  ⟨h.ns, h.ids, h.bs, h.wid, h.wbs, by omega, by omega, by omega⟩

theorem list_choose' {α : Type} (p : Nat → α → Prop) (n : Nat) (h : ∀ i, i < n → ∃ x, p i x) : ∃ l : List α, l.length = n ∧ ∀ (i : Nat) (x : α), l[i]? = some x → p i x := by
  induction n with
  | zero => exact ⟨[], rfl, fun i x hx => by simp at hx⟩
  | succ n ih =>
    obtain ⟨l, hl, hp⟩ := ih fun i hi => h i (by omega)
    obtain ⟨y, hy⟩ := h n (by omega)
    refine ⟨l ++ [y], by simp [hl], fun i x hx => ?_⟩
    by_cases hi : i < n
    · rw [List.getElem?_append_left (by omega)] at hx; exact hp i x hx
    · rw [List.getElem?_append_right (by omega)] at hx
      have hj : i - l.length < 1 := by have := (List.getElem?_eq_some_iff.1 hx).1; simpa using this
      have : i = n := by omega
      subst this
      simp [hl] at hx
      rw [← hx]; exact hy

theorem take_one' {α : Type} {l : List α} {j : Nat} {v : α} (h : (l.drop j).take 1 = [v]) : l[j]? = some v := by
  have e := congrArg (fun l => l[0]?) h
  simpa using e

theorem Try.k3 : Try.prog.cellsOf 3 = 1 := by kernel_rfl
theorem Try.k5 : Try.prog.cellsOf 5 = 1 := by kernel_rfl
theorem Try.k23 : Try.prog.cellsOf 23 = 1 := by kernel_rfl
theorem Try.k37 : Try.prog.cellsOf 37 = 16 := by kernel_rfl
theorem Try.c66 : Try.prog.cellsOf 66 = 1 := by kernel_rfl
theorem Try.c67 : Try.prog.cellsOf 67 = 1 := by kernel_rfl
theorem Try.c69 : Try.prog.cellsOf 69 = 4 := by kernel_rfl

section
variable {H : Type} {enc : TypeId × Value → H} {w : World} {spare : Nat → Bool} {held : Bool}

theorem int_field' {j n : Nat} {cs : List Value} {y : Option (DataW H × List MemPlace)} {x : DataW H × List MemPlace} (h : DataW.trod enc Try.prog w 0 spare held n 3 ((cs.drop j).take (Try.prog.cellsOf 3)) = y) (hy : y = some x) :
    ∃ k, cs[j]? = some (.int .i64 k) := by
  rw [hy, Try.k3] at h
  obtain ⟨k, hk, _⟩ := DataW.trod_int Try.underlying3 h
  exact ⟨k, take_one' hk⟩

theorem u8_field' {j n : Nat} {cs : List Value} {x : DataW H × List MemPlace} (h : DataW.trod enc Try.prog w 0 spare held n 5 ((cs.drop j).take 1) = some x) :
    ∃ k : Int, (0 ≤ k ∧ k ≤ 255) ∧ cs[j]? = some (.int .u8 k) := by
  obtain ⟨k, hk, _, hw⟩ := DataW.trod_int Try.underlying5 h
  exact ⟨k, bounds_u8 hw, take_one' hk⟩

theorem id_open {n : Nat} {cs : List Value} {x : DataW H × List MemPlace} (h : DataW.trod enc Try.prog w 0 spare held n 37 cs = some x) (hl : cs.length = 16) : ∃ id : List Int, id.length = 16 ∧ Bys id ∧ cs = bvals id := by
  obtain ⟨id, hid, hidc⟩ := list_choose' (fun i (x : Int) => (0 ≤ x ∧ x ≤ 255) ∧ cs[i]? = some (.int .u8 x)) 16 (fun i hi => by
    obtain ⟨zs, m, _, _, _, hzl, hz⟩ := DataW.trod_array Try.underlying37 h
    have e := hz i hi
    rw [Try.k5, Nat.mul_one] at e
    have hzi : zs[i]? = some (zs[i]'(by omega)) := List.getElem?_eq_getElem (by omega)
    exact u8_field' (e.trans hzi))
  refine ⟨id, hid, fun x hx => ?_, ?_⟩
  · obtain ⟨j, hj⟩ := List.getElem?_of_mem hx
    exact (hidc j x hj).1
  · refine List.ext_getElem? fun j => ?_
    by_cases hj : j < 16
    · have hji : id[j]? = some (id[j]'(by omega)) := List.getElem?_eq_getElem (by omega)
      rw [(hidc j _ hji).2, bvals, List.getElem?_map, hji]; rfl
    · rw [List.getElem?_eq_none (by omega), List.getElem?_eq_none (by rw [bvals_length]; omega)]

theorem ids_open {fuel : Nat} {a : Option Addr} {len cap : Nat} {x : DataW H × List MemPlace} (h : DataW.trod enc Try.prog w 0 spare held fuel 67 [.slice a len cap] = some x) :
    ∃ ids : List (List Int), ids.length = len ∧ Ids ids ∧ IdsAt w a ids := by
  rcases Go.Deep.open_slice Try.underlying67 h with ⟨hcs, _⟩ | ⟨a', len', cap', m, n, D, Pl, hcs, hb, hl, hm, hmm, hx, hi⟩
  · simp at hcs
    exact ⟨[], hcs.2.1.symm, (fun x hx => by cases hx), .inl rfl⟩
  · simp at hcs
    obtain ⟨rfl, rfl, rfl⟩ := hcs
    by_cases h0 : len = 0
    · exact ⟨[], h0.symm, (fun x hx => by cases hx), .inl rfl⟩
    · have hle : len ≤ m := by rw [hmm]; split <;> omega
      rw [Try.k37] at hi
      obtain ⟨g, off, rfl⟩ : ∃ g off, a' = ⟨g, off, none⟩ := by
        obtain ⟨cs', hc, ht⟩ := hi 0 (by omega)
        obtain ⟨_, hl20, hcell⟩ := World.cells?_some hc
        have e := hcell 0 (by omega)
        have hv : cs'[0]? = some (cs'[0]'(by omega)) := List.getElem?_eq_getElem (by omega)
        rw [hv, Go.Deep.add_add] at e
        obtain ⟨b, off, spot⟩ := a'
        have hspot : spot = none := by simpa [Addr.add] using World.cell?_spot e
        subst hspot
        exact ⟨b, off, rfl⟩
      obtain ⟨l, hll, hlp⟩ := list_choose' (fun i (t : List Int) => t.length = 16 ∧ Bys t ∧ w.rangeAt g (off + i * 16) (bvals t)) len (fun i hlen => by
        obtain ⟨cs', hc, ht⟩ := hi i (by omega)
        obtain ⟨_, hl20, hcell⟩ := World.cells?_some hc
        obtain ⟨id, h1, h2, h3⟩ := id_open ht (by omega)
        refine ⟨id, h1, h2, fun j v hj => ?_⟩
        rw [← h3] at hj
        have hj16 : j < 16 := by have := (List.getElem?_eq_some_iff.1 hj).1; omega
        rw [← hj, ← hcell j hj16, Go.Deep.add_add, Addr.add_mid, Nat.add_assoc])
      refine ⟨l, hll, fun t ht => ?_, .inr ⟨g, off, rfl, ?_, fun i hil => ?_⟩⟩
      · obtain ⟨j, hj⟩ := List.getElem?_of_mem ht
        exact ⟨(hlp j t hj).1, (hlp j t hj).2.1⟩
      · obtain ⟨h1, _, h2⟩ := hlp 0 _ (List.getElem?_eq_getElem (show 0 < l.length by omega))
        have h3 := h2 0 _ (List.getElem?_eq_getElem (show 0 < (bvals l[0]).length by rw [bvals_length, h1]; omega))
        exact World.block_lt_of_cell? w _ h3
      · have e := List.getElem?_eq_getElem hil
        have : l.getD i [] = l[i] := by simp [List.getD, hil]
        rw [this]
        exact (hlp i _ e).2.2

theorem ints_open {fuel : Nat} {a : Option Addr} {len cap : Nat} {x : DataW H × List MemPlace} (h : DataW.trod enc Try.prog w 0 spare held fuel 66 [.slice a len cap] = some x) :
    ∃ ns : List Int, ns.length = len ∧ IntsAt w a ns := by
  rcases open_ints Try.underlying66 Try.underlying3 Try.k3 h with ⟨h3, _⟩ | ⟨a', len', cap', zs, h3, hb, hl, hm, hz, hx, hcz, hwz⟩
  · simp at h3
    exact ⟨[], h3.2.1.symm, .inl rfl⟩
  · simp at h3
    obtain ⟨rfl, rfl, rfl⟩ := h3
    have hzl : len ≤ zs.length := by rw [hz]; split <;> omega
    refine ⟨zs.take len, by rw [List.length_take]; omega, ?_⟩
    by_cases h0 : len = 0
    · subst h0; exact .inl (by simp)
    · obtain ⟨b, off, rfl, hcb⟩ := ints_at hcz (by omega)
      refine .inr ⟨b, off, rfl, World.block_lt_of_cell? w _ (hcb 0 (by omega)), fun i hi => ?_⟩
      have hi2 : i < len ∧ i < zs.length := by simpa [Nat.lt_min] using hi
      rw [hcb i hi2.2]
      simp [List.getD, hi2.1]

theorem bytes_open {fuel : Nat} {a : Option Addr} {len cap : Nat} {x : DataW H × List MemPlace} (h : DataW.trod enc Try.prog w 0 spare held fuel 23 [.slice a len cap] = some x) :
    ∃ bs : List Int, bs.length = len ∧ Bys bs ∧ Src w a bs := by
  rcases open_ints Try.underlying23 Try.underlying5 Try.k5 h with ⟨h3, _⟩ | ⟨a', len', cap', zs, h3, hb, hl, hm, hz, hx, hcz, hwz⟩
  · simp at h3
    exact ⟨[], h3.2.1.symm, Bys.nil, .inl rfl⟩
  · simp at h3
    obtain ⟨rfl, rfl, rfl⟩ := h3
    have hzl : len ≤ zs.length := by rw [hz]; split <;> omega
    refine ⟨zs.take len, by rw [List.length_take]; omega, fun n hn => bounds_u8 (hwz n (List.mem_of_mem_take hn)), ?_⟩
    by_cases h0 : len = 0
    · subst h0; exact .inl (by simp)
    · obtain ⟨b, off, rfl, hcb⟩ := ints_at hcz (by omega)
      refine .inr (.inr ⟨b, off, rfl, World.block_lt_of_cell? w _ (hcb 0 (by omega)), fun i hi => ?_⟩)
      have hi2 : i < len ∧ i < zs.length := by simpa [Nat.lt_min] using hi
      rw [hcb i hi2.2]
      simp [List.getD, hi2.1]

theorem one_cell {t : TypeId} {j n : Nat} {cs : List Value} {y : DataW H × List MemPlace} (ht : ∃ e, Try.prog.underlying t = some (.slice e)) (hc : Try.prog.cellsOf t = 1) (h : DataW.trod enc Try.prog w 0 spare held n t ((cs.drop j).take (Try.prog.cellsOf t)) = some y) :
    ∃ a len cap, cs[j]? = some (.slice a len cap) ∧ DataW.trod enc Try.prog w 0 spare held n t [.slice a len cap] = some y := by
  obtain ⟨e, ht⟩ := ht
  rw [hc] at h
  rcases Go.Deep.open_slice ht h with ⟨hcs, _⟩ | ⟨a', len', cap', m, n', D, Pl, hcs, _⟩
  · exact ⟨none, 0, 0, take_one' hcs, by rw [← hcs]; exact h⟩
  · exact ⟨some a', len', cap', take_one' hcs, by rw [← hcs]; exact h⟩

theorem note_open {n : Nat} {cs : List Value} {y : DataW H × List MemPlace} (ht : DataW.trod enc Try.prog w 0 spare held n 69 cs = some y) (hl : cs.length = 4) :
    ∃ (x : Note) (aN : Option Addr) (cN : Nat) (aI : Option Addr) (cI : Nat) (aB : Option Addr) (cB : Nat), cs = [.int .i64 x.kind, .slice aN x.ns.length cN, .slice aI x.ids.length cI, .slice aB x.bs.length cB] ∧ NoteAny w x aN aI aB := by
  obtain ⟨ys, n', hn', hy, hlen, hyl, hf⟩ := DataW.trod_struct Try.underlying69 ht
  match ys, hyl with
  | [y0, y1, y2, y3], _ =>
    obtain ⟨k0, h0⟩ := int_field' (hf 0 _ rfl) rfl
    have f1 : DataW.trod enc Try.prog w 0 spare held n' 66 ((cs.drop 1).take (Try.prog.cellsOf 66)) = some y1 := hf 1 _ rfl
    have f2 : DataW.trod enc Try.prog w 0 spare held n' 67 ((cs.drop 2).take (Try.prog.cellsOf 67)) = some y2 := hf 2 _ rfl
    have f3 : DataW.trod enc Try.prog w 0 spare held n' 23 ((cs.drop 3).take (Try.prog.cellsOf 23)) = some y3 := hf 3 _ rfl
    obtain ⟨aN, lN, cN, h1, g1⟩ := one_cell ⟨_, Try.underlying66⟩ Try.c66 f1
    obtain ⟨aI, lI, cI, h2, g2⟩ := one_cell ⟨_, Try.underlying67⟩ Try.c67 f2
    obtain ⟨aB, lB, cB, h3, g3⟩ := one_cell ⟨_, Try.underlying23⟩ Try.k23 f3
    obtain ⟨ns, rfl, hns⟩ := ints_open g1
    obtain ⟨ids, rfl, hw, hids⟩ := ids_open g2
    obtain ⟨bs, rfl, hb, hbs⟩ := bytes_open g3
    refine ⟨⟨k0, ns, ids, bs⟩, aN, cN, aI, cI, aB, cB, ?_, hns, hids, hbs, hw, hb⟩
    clear hf f1 f2 f3 g1 g2 g3 ht
    refine List.ext_getElem? fun j => ?_
    match j with
    | 0 => exact h0
    | 1 => exact h1
    | 2 => exact h2
    | 3 => exact h3
    | j + 4 => rw [List.getElem?_eq_none (by omega)]; rfl
end

set_option maxRecDepth 100000 in
/-- satchelkit.LongNote -/
theorem long_any (w : World) (k : Int) (aN aI aB : Option Addr) (cN cI cB nN nI nB : Nat) (E : Bool) (hE : decide (200 < nN ∨ 40 < nI ∨ 2000 < nB) = E) :
    Calls Try.prog 49 #[.agg #[.int .i64 k, .slice aN nN cN, .slice aI nI cI, .slice aB nB cB]] w fun e w' => e = .returned (.bool E) ∧ Below w.heap.size w w' := by
  have hz1 : decide ((200 : Int) < nN) = decide (200 < nN) := by simp <;> omega
  have hB0 : Below w.heap.size w (w.alloc (.cells #[.int .i64 k, .slice aN nN cN, .slice aI nI cI, .slice aB nB cB] 69)) := (Below.refl _ _).alloc (Nat.le_refl _) _
  have HB0 := Lib.hid hB0
  clear hz1 hB0
  by_cases h1 : 200 < nN
  · have h1z : (200 : Int) < nN := by omega
    have h5 : E = true := by rw [← hE]; simp [h1]
    subst h5
    clear hE h1
    go_enter Try.func49, Try.ntmps49
    go_wp2_with fail
    go_ret
    exact ⟨rfl, HB0⟩
  · have h1z : ¬ (200 : Int) < nN := by omega
    by_cases h2 : 40 < nI
    · have h2z : (40 : Int) < nI := by omega
      have h5 : E = true := by rw [← hE]; simp [h2]
      subst h5
      clear hE h1 h2
      go_enter Try.func49, Try.ntmps49
      go_wp2_with fail
      go_ret
      exact ⟨rfl, HB0⟩
    · have h2z : ¬ (40 : Int) < nI := by omega
      have h5 : E = decide ((2000 : Int) < nB) := by rw [← hE]; simp [h1, h2]; omega
      subst h5
      clear hE h1 h2
      go_enter Try.func49, Try.ntmps49
      go_wp2_with fail
      go_ret
      exact ⟨rfl, HB0⟩

end Go.Proofs.Ytkfhljggdcajpaa
