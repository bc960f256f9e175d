/-
  A list of steps, opened: from what the form reads to cells.
-/
import Derived.Test.YtkfhljggdcajpaaWrites
import Derived.Deep.Slices
import Derived.OpenShut
import Derived.SizedLaws
namespace Go.Proofs.Ytkfhljggdcajpaa
open Go.ChangeShapes Go.WideShapes Go.RowKit

theorem list_choose {α : Type} (p : Nat → α → Prop) (n : Nat) (h : ∀ i, i < n → ∃ x, p i x) : ∃ l : List α, l.length = n ∧ ∀ (i : Nat) (x : α), l[i]? = some x → p i x := by
  induction n with
  | zero => exact ⟨[], rfl, fun i x hx => by simp at hx⟩
  | succ n ih =>
    obtain ⟨l, hl, hp⟩ := ih fun i hi => h i (by omega)
    obtain ⟨y, hy⟩ := h n (by omega)
    refine ⟨l ++ [y], by simp [hl], fun i x hx => ?_⟩
    by_cases hi : i < n
    · rw [List.getElem?_append_left (by omega)] at hx; exact hp i x hx
    · rw [List.getElem?_append_right (by omega)] at hx
      have hj : i - l.length < 1 := by have := (List.getElem?_eq_some_iff.1 hx).1; simpa using this
      have : i = n := by omega
      subst this
      simp [hl] at hx
      rw [← hx]; exact hy

theorem take_one {α : Type} {l : List α} {j : Nat} {v : α} (h : (l.drop j).take 1 = [v]) : l[j]? = some v := by
  have e := congrArg (fun l => l[0]?) h
  simpa using e

theorem Try.c3 : Try.prog.cellsOf 3 = 1 := by kernel_rfl
theorem Try.c5 : Try.prog.cellsOf 5 = 1 := by kernel_rfl
theorem Try.c23 : Try.prog.cellsOf 23 = 1 := by kernel_rfl
theorem Try.c37 : Try.prog.cellsOf 37 = 16 := by kernel_rfl
theorem Try.c39 : Try.prog.cellsOf 39 = 20 := by kernel_rfl
theorem Try.b5 : Try.prog.bytesOf 5 = 1 := by kernel_rfl

section
variable {H : Type} {enc : TypeId × Value → H} {w : World} {spare : Nat → Bool} {held : Bool}

theorem int_field {j n : Nat} {cs : List Value} {y : Option (DataW H × List MemPlace)} {x : DataW H × List MemPlace} (h : DataW.trod enc Try.prog w 0 spare held n 3 ((cs.drop j).take (Try.prog.cellsOf 3)) = y) (hy : y = some x) :
    ∃ k, cs[j]? = some (.int .i64 k) := by
  rw [hy, Try.c3] at h
  obtain ⟨k, hk, _⟩ := DataW.trod_int Try.underlying3 h
  exact ⟨k, take_one hk⟩

theorem u8_field {j n : Nat} {cs : List Value} {x : DataW H × List MemPlace} (h : DataW.trod enc Try.prog w 0 spare held n 5 ((cs.drop j).take 1) = some x) :
    ∃ k : Int, (0 ≤ k ∧ k ≤ 255) ∧ cs[j]? = some (.int .u8 k) := by
  obtain ⟨k, hk, _, hw⟩ := DataW.trod_int Try.underlying5 h
  exact ⟨k, bounds_u8 hw, take_one hk⟩

theorem act_open {g o n : Nat} {cs : List Value} {d : DataW H} {pl : List MemPlace} (hg : g < w.heap.size) (hcell : ∀ j, j < 20 → w.cell? ⟨g, o + j, none⟩ = cs[j]?)
    (ht : DataW.trod enc Try.prog w 0 spare held n 39 cs = some (d, pl)) (hsz : (DataW.weights Try.prog 39 d).all (· ≤ reachBytes) = true) : ∃ t : Act1, ActIn w g o t := by
  obtain ⟨ys, n', hn', hy, hlen, hyl, hf⟩ := DataW.trod_struct Try.underlying39 ht
  match ys, hyl with
  | [y0, y1, y2, y3, y4], _ =>
    simp only [Prod.mk.injEq] at hy
    obtain ⟨rfl, rfl⟩ := hy
    obtain ⟨k0, h0⟩ := int_field (hf 0 _ rfl) rfl
    obtain ⟨k1, h1⟩ := int_field (hf 1 _ rfl) rfl
    obtain ⟨k2, h2⟩ := int_field (hf 2 _ rfl) rfl
    have f3 : DataW.trod enc Try.prog w 0 spare held n' 23 ((cs.drop 3).take (Try.prog.cellsOf 23)) = some y3 := hf 3 _ rfl
    have f4 : DataW.trod enc Try.prog w 0 spare held n' 37 ((cs.drop 4).take (Try.prog.cellsOf 37)) = some y4 := hf 4 _ rfl
    rw [Try.c23] at f3
    rw [Try.c37] at f4
    have hc : ∀ j v, cs[j]? = some v → j < 20 → w.cell? ⟨g, o + j, none⟩ = some v := fun j v hv hj => (hcell j hj).trans hv
    obtain ⟨id, hid, hidc⟩ := list_choose (fun i (x : Int) => (0 ≤ x ∧ x ≤ 255) ∧ cs[4 + i]? = some (.int .u8 x)) 16 (fun i hi => by
      obtain ⟨zs, m, _, _, _, hzl, hz⟩ := DataW.trod_array Try.underlying37 f4
      have e := hz i hi
      rw [Try.c5, Nat.mul_one] at e
      have hzi : zs[i]? = some (zs[i]'(by omega)) := List.getElem?_eq_getElem (by omega)
      obtain ⟨k, hk, hkc⟩ := u8_field (e.trans hzi)
      refine ⟨k, hk, ?_⟩
      rw [List.getElem?_take, if_pos hi, List.getElem?_drop] at hkc
      exact hkc)
    have hidc' : ∀ j, j < 16 → w.cell? ⟨g, o + 4 + j, none⟩ = some (.int .u8 (id.getD j 0)) := fun j hj => by
      have hjl : j < id.length := by omega
      have e := (hidc j _ (List.getElem?_eq_getElem hjl)).2
      have e2 := hc (4 + j) _ e (by omega)
      rw [show o + 4 + j = o + (4 + j) by omega, e2]
      simp [List.getD, hjl]
    have hidb : Bys id := fun x hx => by
      obtain ⟨j, hj⟩ := List.getElem?_of_mem hx
      exact (hidc j x hj).1
    rcases open_ints Try.underlying23 Try.underlying5 Try.c5 f3 with ⟨h3, _⟩ | ⟨a, len, cap, zs, h3, hb, hl, hm, hz, hx, hcz, hwz⟩
    · exact ⟨⟨k0, k1, k2, none, 0, [], id⟩, hg, hc 0 _ h0 (by omega), hc 1 _ h1 (by omega), hc 2 _ h2 (by omega), hc 3 _ (take_one h3) (by omega), hidc', hid, hidb, Bys.nil, .inl rfl, Nat.zero_le _⟩
    · have hzl : len ≤ zs.length := by rw [hz]; split <;> omega
      have hlen2 : (zs.take len).length = len := by rw [List.length_take]; omega
      have hreach : zs.length ≤ reachBytes := by
        have hmem : (zs.length) * 1 ∈ DataW.weights Try.prog 39 (DataW.agg (H := H) [y0.1, y1.1, y2.1, y3.1, y4.1]) := by
          have e3 : y3.1 = .slice (lits .u8 (zs.take len)) (lits .u8 (zs.drop len)) := by rw [hx]
          rw [e3]
          simp [DataW.weights, DataW.weightsEach, Try.underlying39, Try.underlying23, Try.b5, lits]
          exact .inr (.inr (.inr (.inl (by omega))))
        have := List.all_eq_true.1 hsz _ hmem
        simpa using this
      refine ⟨⟨k0, k1, k2, some a, cap, zs.take len, id⟩, hg, hc 0 _ h0 (by omega), hc 1 _ h1 (by omega), hc 2 _ h2 (by omega), ?_, hidc', hid, hidb, fun n hn => bounds_u8 (hwz n (List.mem_of_mem_take hn)), ?_, ?_⟩
      · simp only [hlen2]
        exact hc 3 _ (take_one h3) (by omega)
      · by_cases h0 : len = 0
        · subst h0; exact .inl rfl
        · obtain ⟨b, off, rfl, hcb⟩ := ints_at hcz (by omega)
          refine .inr (.inr ⟨b, off, rfl, World.block_lt_of_cell? w _ (hcb 0 (by omega)), fun i hi => ?_⟩)
          rw [hlen2] at hi
          rw [hcb i (by omega)]
          simp [List.getD, hi]
      · have := reachBytes_lt; rw [hlen2]; omega

theorem weightsAll_mem {P : Program} {e : TypeId} : ∀ {l : List (DataW H)} {d : DataW H}, d ∈ l → ∀ n ∈ d.weights P e, n ∈ DataW.weightsAll P e l
  | d' :: r, d, hd, n, hn => by
    simp only [DataW.weightsAll, List.mem_append]
    rcases List.mem_cons.1 hd with rfl | h
    · exact Or.inl hn
    · exact Or.inr (weightsAll_mem h n hn)

theorem acts_open {fuel : Nat} {a : Option Addr} {len cap : Nat} {x : DataW H × List MemPlace} (h : DataW.trod enc Try.prog w 0 spare held fuel 28 [.slice a len cap] = some x)
    (hsz : (DataW.weights Try.prog 28 x.1).all (· ≤ reachBytes) = true) : len = 0 ∨ ∃ (g off : Nat) (l : List Act1), a = some ⟨g, off, none⟩ ∧ l.length = len ∧ ActsAt w g off l := by
  rcases Go.Deep.open_slice Try.underlying28 h with ⟨hcs, _⟩ | ⟨a', len', cap', m, n, D, Pl, hcs, hb, hl, hm, hmm, hx, hi⟩
  · simp at hcs
    exact .inl hcs.2.1
  · simp at hcs
    obtain ⟨rfl, rfl, rfl⟩ := hcs
    by_cases h0 : len = 0
    · exact .inl h0
    · have hle : len ≤ m := by rw [hmm]; split <;> omega
      rw [Try.c39] at hi
      obtain ⟨g, off, rfl⟩ : ∃ g off, a' = ⟨g, off, none⟩ := by
        obtain ⟨cs', hc, ht⟩ := hi 0 (by omega)
        obtain ⟨_, hl20, hcell⟩ := World.cells?_some hc
        have e := hcell 0 (by omega)
        have hv : cs'[0]? = some (cs'[0]'(by omega)) := List.getElem?_eq_getElem (by omega)
        rw [hv, Go.Deep.add_add] at e
        obtain ⟨b, off, spot⟩ := a'
        have hspot : spot = none := by simpa [Addr.add] using World.cell?_spot e
        subst hspot
        exact ⟨b, off, rfl⟩
      right
      obtain ⟨l, hll, hlp⟩ := list_choose (fun i t => ActIn w g (off + i * 20) t) len (fun i hlen => by
        obtain ⟨cs', hc, ht⟩ := hi i (by omega)
        obtain ⟨_, hl20, hcell⟩ := World.cells?_some hc
        have hcell' : ∀ j, j < 20 → w.cell? ⟨g, off + i * 20 + j, none⟩ = cs'[j]? := fun j hj => by
          rw [← hcell j hj, Go.Deep.add_add, Addr.add_mid, Nat.add_assoc]
        have hv : cs'[0]? = some (cs'[0]'(by omega)) := List.getElem?_eq_getElem (by omega)
        refine act_open (World.block_lt_of_cell? w _ ((hcell' 0 (by omega)).trans hv)) hcell' ht (List.all_eq_true.2 fun v hv => List.all_eq_true.1 hsz v ?_)
        rw [hx]
        simp only [DataW.weights, Try.underlying28, List.mem_cons, List.mem_append]
        exact .inr (.inl (weightsAll_mem (List.mem_map.2 ⟨i, List.mem_range.2 hlen, rfl⟩) v hv)))
      exact ⟨g, off, l, rfl, hll, hlp⟩
end

end Go.Proofs.Ytkfhljggdcajpaa
