/-
  Package satchelkit: LentBytes, OverBytes; a row of bytes, all of its room known.
-/
import Derived.Test.YtkfhljggdcajpaaRefW2
import Derived.Deep.OwnRows
import Derived.Laws.OwnMore
namespace Go.Proofs.Ytkfhljggdcajpaa
open Go.RowKit

/-- block g is a row of bytes -/
def RowB (w : World) (g : Nat) (zs : List Int) : Prop := w.heap[g]? = some (.cells (bvals zs).toArray 5 (0, 0))

theorem RowB.cell {w : World} {g : Nat} {zs : List Int} (h : RowB w g zs) (i : Nat) (hi : i < zs.length) : w.cell? ⟨g, i, none⟩ = some (.int .u8 (zs.getD i 0)) := by
  rw [cell_of_row _ _ _ _ _ _ h]
  simp [bvals, List.getD, hi]
theorem RowB.frozen {w : World} {g : Nat} {zs : List Int} (h : RowB w g zs) (i : Nat) : w.frozen? ⟨g, i, none⟩ = false := frozen_of_row _ _ _ _ _ h
theorem RowB.lt {w : World} {g : Nat} {zs : List Int} (h : RowB w g zs) : g < w.heap.size := lt_of_row h
theorem RowB.bytes {w : World} {g : Nat} {zs : List Int} (h : RowB w g zs) : BytesAt w (some ⟨g, 0, none⟩) zs :=
  .inr ⟨g, 0, rfl, h.lt, fun i hi => by rw [Nat.zero_add]; exact h.cell i hi⟩
theorem RowB.set {w : World} {g : Nat} {zs : List Int} (h : RowB w g zs) (j : Nat) (x : Int) : RowB (w.setCell ⟨g, j, none⟩ (.int .u8 x)) g (zs.set j x) := by
  unfold RowB
  rw [heap_setCell_same _ _ _ _ _ _ h]
  simp [bvals, List.map_set]
theorem RowB.below {w w' : World} {g : Nat} {zs : List Int} (h : RowB w g zs) (hb : Below w.heap.size w w') : RowB w' g zs := (hb.block g h.lt).trans h
theorem RowB.moved {w w' : World} {g p : Nat} {r r' : Option Nat} {zs : List Int} (h : RowB w g zs) (hm : Moved p r r' w w') (hp : g ≠ p) (hr : some g ≠ r) : RowB w' g zs := (hm.block g h.lt hp hr).trans h

/-- a slice whose whole room is known -/
def Full (w : World) (a : Option Addr) (cap : Nat) (bs : List Int) : Prop :=
  (a = none ∧ cap = 0 ∧ bs = []) ∨ ∃ g zs, a = some ⟨g, 0, none⟩ ∧ RowB w g zs ∧ zs.length = cap ∧ cap ≤ maxLen ∧ zs.take bs.length = bs ∧ bs.length ≤ cap

theorem Full.owns {w : World} {a : Option Addr} {cap : Nat} {bs : List Int} (h : Full w a cap bs) : Owns w a cap bs := by
  rcases h with ⟨rfl, rfl, rfl⟩ | ⟨g, zs, rfl, hr, hl, hm, ht, hle⟩
  · exact Owns.nil w
  · refine ⟨by simp [bvals_length], .inr ⟨g, cap, (bvals zs).toArray, rfl, Nat.zero_le _, hr, hle, hm, ?_, ?_⟩⟩
    · simp [bvals_length, hl]
    · simp only [Nat.mul_one]
      conv => rhs; rw [← ht]
      simp [bvals]

theorem made_row (w : World) (n : Nat) : RowB (w.alloc (.cells (madeCells #[.int .u8 0] n) 5)) w.heap.size (List.replicate n 0) := by
  have e : madeCells #[.int .u8 0] n = (bvals (List.replicate n 0)).toArray := by
    apply Array.toList_inj.1
    rw [toList_madeCells_one]
    simp [bvals]
  rw [e]
  exact heap_alloc_new w _

/-- copy of bytes that came in, onto the head of a row -/
theorem run_copy_src (w : World) (ty : TypeId) (g : Nat) (zs : List Int) (cap : Nat) (a : Option Addr) (c : Nat) (xs : List Int) (h : RowB w g zs) (hs : Src w a xs) (hle : xs.length ≤ zs.length) :
    ∃ v w', (Builtin.copy_ #[23, 23] ty #[.slice (some ⟨g, 0, none⟩) zs.length cap, .slice a xs.length c]).run Try.prog w = .ok v w' ∧ RowB w' g (xs ++ zs.drop xs.length) ∧ Moved g none none w w' := by
  have hs5 : (Try.prog.info? 5).map (·.size) = some 1 := by kernel_rfl
  by_cases hx : xs = []
  · subst hx
    exact ⟨_, w, run_copy_none (P := Try.prog) w 23 23 ty 5 _ a _ _ _ _ Try.underlying23 hs5 (by simp), by simpa using h, Moved.refl _ _ _⟩
  · have hb : BytesAt w a xs := hs.resolve_left hx
    obtain ⟨g', off, rfl, hg', hc⟩ := hb.resolve_left (fun e => hx e.2)
    refine ⟨_, _, run_copy_row (P := Try.prog) w 23 23 ty 5 g 0 zs.length cap ⟨g', off, none⟩ xs.length c (bvals zs).toArray 5 (bvals xs) Try.underlying23 hs5 h (by rw [bvals_length]; exact (Nat.min_eq_left hle).symm) (BytesAt.news hb) (by simp [bvals_length]; omega) (bvals_one _), ?_, Moved.setRow _ _ _⟩
    have e := setRow_heap w g (bvals zs).toArray ((bvals zs).toArray.toList.take 0 ++ bvals xs ++ (bvals zs).toArray.toList.drop (0 + (bvals xs).length)).toArray 5 (0, 0) h
    unfold RowB
    rw [e]
    simp [bvals]

theorem wpList_copy_run {P : Program} (w : World) {ops : Array Oper} {rest : List Oper} {o : Oper} {a : Act} {Q : Exit → Act → World → Prop} (hgd : o.guard = none) (d s : Operand) {dT sT : TypeId}
    (ho : o.op = .call { callee := .builtin .copy, args := #[d, s], argTypes := #[dT, sT] }) (v1 v2 : Value) (hd : a.eval d = v1) (hs : a.eval s = v2) (v : Value) (w' : World)
    (hrun : (Builtin.copy_ #[dT, sT] o.type #[v1, v2]).run P w = .ok v w') (h : wpList P ops Q rest (a.put o.dst v) w') : wpList P ops Q (o :: rest) a w := by
  refine wpList_plain hgd fun K hK => ?_
  unfold Oper.wp
  simp [execOp, ho, resolve, invoke, builtin, hd, hs, hrun, Result.andThen]
  exact hK _ _ h

/-- the marks behind what is lent -/
def marks (n : Nat) : List Int := [160 + ((n : Int) % 90), 160 + ((n : Int) + 1) % 90, 160 + ((n : Int) + 2) % 90]
theorem marks_bys (n : Nat) : Bys (marks n) := by
  intro x hx; simp [marks] at hx; omega

/-- what LentBytes hands back -/
def Lent (w : World) (xs : List Int) (e : Ending) (w' : World) : Prop :=
  e = .returned (.slice (some ⟨w.heap.size, 0, none⟩) xs.length (xs.length + 3)) ∧ RowB w' w.heap.size (xs ++ marks xs.length) ∧ Below w.heap.size w w' ∧ w.heap.size < w'.heap.size

set_option maxRecDepth 100000 in
set_option maxHeartbeats 400000 in
theorem lent_any (w : World) (a : Option Addr) (cap : Nat) (xs : List Int) (h : Src w a xs) (hlen : xs.length + 3 ≤ 140737488355328) :
    Calls Try.prog 22 #[.slice a xs.length cap] w fun e w' => Lent w xs e w' := by
  have hinfo : (Try.prog.info? 5).map (fun i => (i.zero, i.size, i.bytes)) = some (some (.int .u8 0), 1, 1) := by kernel_rfl
  have hmk := run_make_row' (P := Try.prog) 23 5 (.int .u8 0) 1 Try.underlying23 hinfo rfl .i64 .i64 (xs.length + 3) (by omega) (by omega)
  have ec : ((xs.length + 3 : Nat) : Int) = (xs.length : Int) + 3 := by omega
  rw [ec] at hmk
  have hrow := made_row w (xs.length + 3)
  have hb1 := (Below.refl w.heap.size w).alloc (Nat.le_refl _) (.cells (madeCells #[.int .u8 0] (xs.length + 3)) 5)
  have hs1 : Src (w.alloc (.cells (madeCells #[.int .u8 0] (xs.length + 3)) 5)) a xs := h.bytesAt_or _ hb1
  have hsz1 : (w.alloc (.cells (madeCells #[.int .u8 0] (xs.length + 3)) 5)).heap.size = w.heap.size + 1 := World.size_alloc _ _
  have hcp := fun ty => run_copy_src (w.alloc (.cells (madeCells #[.int .u8 0] (xs.length + 3)) 5)) ty w.heap.size (List.replicate (xs.length + 3) 0) (xs.length + 3) a cap xs hrow hs1 (by simp)
  rw [List.length_replicate] at hcp
  obtain ⟨v, w2, hr, hr2, hm2⟩ := hcp 3
  have hm2' : Below w.heap.size w w2 := hb1.trans (hm2.below (by omega) (Nat.le_refl _) (fun k hk => by cases hk))
  have hs2 : w.heap.size < w2.heap.size := by have := hm2.size; omega
  have e0 : xs ++ (List.replicate (xs.length + 3) (0 : Int)).drop xs.length = xs ++ [0, 0, 0] := by
    rw [List.drop_replicate, show xs.length + 3 - xs.length = 3 by omega]; rfl
  rw [e0] at hr2
  clear hb1 hm2 e0 hcp hrow hs1 h hinfo ec hsz1
  have HR := Lib.hid hr2
  have HB := Lib.hid hm2'
  have hd : (xs.length : Int) < xs.length + 3 := by omega
  clear hr2 hm2'
  go_enter Try.func22, Try.ntmps22
  go_wp2_with fail
  clear hmk hr hd
  go_loopw [4] (fun s4 wr => ∃ k : Nat, k ≤ 3 ∧ s4 = .int .i64 ((xs.length + k : Nat) : Int) ∧ Hid (RowB wr w.heap.size (xs ++ ((marks xs.length).take k ++ List.replicate (3 - k) 0)) ∧ Below w.heap.size w wr) ∧ w.heap.size < wr.heap.size) (fun s4 _ => (xs.length + 3 - intOf s4).toNat)
  case atStart => exact ⟨0, by omega, rfl, Lib.hid ⟨HR.out, HB.out⟩, hs2⟩
  case round =>
    obtain ⟨k, hk, rfl, HK, hlt⟩ := hrel
    by_cases hk3 : k < 3
    · have hlen2 : (xs ++ ((marks xs.length).take k ++ List.replicate (3 - k) 0)).length = xs.length + 3 := by simp [marks]; omega
      have ck : wr.cell? ⟨w.heap.size, xs.length + k, none⟩ = some (.int .u8 0) := by
        rw [HK.out.1.cell _ (by rw [hlen2]; omega)]
        obtain rfl | rfl | rfl : k = 0 ∨ k = 1 ∨ k = 2 := by omega
        all_goals simp [marks, List.getD]
      have fk := HK.out.1.frozen (xs.length + k)
      go_wp2_with fail
      refine ⟨⟨k + 1, by omega, by go_num, Lib.hid ⟨?_, HK.out.2.setCell (p := ⟨w.heap.size, xs.length + k, none⟩) (Nat.le_refl _) _⟩, by simpa [World.setCell] using hlt⟩, by simp [intOf]; omega⟩
      have e := HK.out.1.set (xs.length + k) (160 + ((xs.length : Int) + k) % 90)
      rw [List.set_append_right _ _ (by omega), show xs.length + k - xs.length = k by omega] at e
      obtain rfl | rfl | rfl : k = 0 ∨ k = 1 ∨ k = 2 := by omega
      all_goals simpa [marks] using e
    · obtain rfl : k = 3 := by omega
      have hd : ((xs.length + 3 : Nat) : Int) = xs.length + 3 := by omega
      rw [hd]
      go_wp2_with fail
      refine bodyPost_ret (v := .slice (some ⟨w.heap.size, 0, none⟩) xs.length (xs.length + 3)) (by simp [results, Try.results22, go_sem]) rfl ⟨rfl, ?_, HK.out.2, hlt⟩
      simpa [marks] using HK.out.1

end Go.Proofs.Ytkfhljggdcajpaa
