/-
  The reader of package field: ID, Text.
-/
import Derived.Test.YtkfhljggdcajpaaRdBytes
import Derived.Deep.MidRow
namespace Go.Proofs.Ytkfhljggdcajpaa
open Go.RowKit

section
variable {w w' : World} {b p : Nat} {a : Option Addr} {cap : Nat} {xs : List Int} {pos : Nat} {err fat : Int}
theorem RAt.moved (h : RAt w b a cap xs pos err fat) (hm : Moved p none none w w') (hp : p ≠ b) (hpa : blk a ≠ some p) : RAt w' b a cap xs pos err fat :=
  ⟨(hm.block b h.lt (fun e => hp e.symm) (by simp)).trans h.str, h.byt.moved hm hpa (fun k _ e => by cases e), h.apart, h.bys, h.le, h.len, h.capLe⟩
theorem Moved.over {w0 : World} (h : Moved b none none w0 w) (hm : Moved p none none w w') (hp : w0.heap.size ≤ p) : Moved b none none w0 w' :=
  ⟨hm.os.trans h.os, hm.tape.trans h.tape, hm.output.trans h.output, Nat.le_trans h.size hm.size, fun k hk hb _ => (hm.block k (by have := h.size; omega) (by omega) (by simp)).trans (h.block k hk hb (by simp)), .inl rfl⟩
theorem Moved.setRow (w : World) (p : Nat) (c : Array Value) : Moved p none none w (w.setRow p c) :=
  ⟨rfl, rfl, rfl, by simp, fun k _ hk _ => setRow_other w p k c hk, .inl rfl⟩
end

/-- sixteen bytes, as the reader reads them -/
def rdId (xs : List Int) (at0 : Nat) : Except (Int × Int) (List Int × Nat) :=
  if (xs.length : Int) - at0 < 16 then .error (4, xs.length) else .ok ((xs.drop at0).take 16, at0 + 16)

/-- the builtin copy, as one step of a region that draws -/
theorem step_copy {P : Program} {ops : Array Oper} {o : Oper} {a : Act} {w : World} {K : Act → World → Prop} {Q : Exit → Act → World → Prop} {E : Prop} (hgd : o.guard = none) (d s : Operand) {dT sT : TypeId}
    (ho : o.op = .call { callee := .builtin .copy, args := #[d, s], argTypes := #[dT, sT] }) (v1 v2 : Value) (hd : a.eval d = v1) (hs : a.eval s = v2) (v : Value) (w' : World)
    (hrun : (Builtin.copy_ #[dT, sT] o.type #[v1, v2]).run P w = .ok v w') (h : K (a.put o.dst v) w') :
    if Region.wanted o (yielded ops a.tmps) = true then Oper.wp P o a w K Q else E := by
  have hw : Region.wanted o (yielded ops a.tmps) = true := by simp [Region.wanted, hgd]
  rw [if_pos hw]
  unfold Oper.wp
  simp [execOp, ho, resolve, invoke, builtin, hd, hs, hrun, Result.andThen]
  exact h

/-- what the closure of ID leaves -/
def Id1Post (b : Nat) (a : Option Addr) (cap : Nat) (xs : List Int) (nx : Nat) (ys : List Int) (p0 : Nat) (W W' : World) : Prop :=
  ∃ W1, RAt W1 b a cap xs nx 0 0 ∧ Moved b none none W W1 ∧ Moved p0 none none W1 W' ∧ W'.heap[p0]? = some (.cells (bvals ys).toArray 37 (0, 0))

set_option maxRecDepth 100000 in
set_option maxHeartbeats 800000 in
theorem id1_ok (W : World) (b : Nat) (a : Option Addr) (cap : Nat) (xs : List Int) (at0 : Nat) (old : List Value) (p0 p1 : Nat) (h : RAt W b a cap xs at0 0 0) (hle : at0 + 16 ≤ xs.length)
    (h0 : W.heap[p0]? = some (.cells old.toArray 37 (0, 0))) (hold : old.length = 16) (h1 : W.heap[p1]? = some (.cells #[.pointer (some ⟨b, 0, none⟩)] 48 (0, 0))) (n0 : p0 ≠ b) (n1 : p1 ≠ b) (q : p1 ≠ p0) :
    Calls Try.prog 72 #[.pointer (some ⟨p0, 0, none⟩), .pointer (some ⟨p1, 0, none⟩)] W fun e W' => e = .returned (.tuple #[]) ∧ Id1Post b a cap xs (at0 + 16) ((xs.drop at0).take 16) p0 W W' := by
  have c1 : W.cell? ⟨p1, 0, none⟩ = some (.pointer (some ⟨b, 0, none⟩)) := by rw [cell_of_row _ _ _ _ _ _ h1]; rfl
  have hs := some_ok W.drew b a cap xs at0 16 (h.drewN 1) hle
  have hlen : ((xs.drop at0).take 16).length = 16 := by simp; omega
  have Hs := Lib.hid hs
  have Hlen := Lib.hid hlen
  have H0 := Lib.hid h0
  have Hold := Lib.hid hold
  have H1 := Lib.hid h1
  clear hs h h0 h1 hlen hold
  go_enter Try.func72, Try.ntmps72
  go_wp2_with fail
  refine wp_region_held_drew (S := fun w' => w'.cell? ⟨p1, 0, none⟩ = some (.pointer (some ⟨b, 0, none⟩))) mixed c1 (fun hS => ?_)
  refine wpAnyH_take (i := 0) (v := .slice (some ⟨p0, 0, none⟩) 16 16) rfl (by kernel_rfl) (by kernel_rfl) (by kernel_rfl) (panic_put _ _) (.inl ⟨rfl, fun w hw => by simp [go_sem]⟩) hS ?_
  refine wpAnyH_take (i := 1) (v := .pointer (some ⟨b, 0, none⟩)) rfl (by kernel_rfl) (by kernel_rfl) (by kernel_rfl) (panic_put _ _) (.inl ⟨rfl, fun w hw => by simp [go_sem, hw]⟩) hS ?_
  refine wpAnyH_all (rs := [2]) (by kernel_rfl) (by simp) (fun i hi => ?_)
  obtain rfl : i = 2 := by simpa using hi
  refine wpOp_step rfl (fun K hK => ?_)
  have HK := Lib.hid hK
  clear hK
  go_simp
  refine Hs.out.mono ?_
  rintro e w1 ⟨a2, cap2, rfl, hR, own, hnew, hM⟩
  have hM0 : Moved b none none W w1 := ((Moved.refl _ _ _).drewN 1).trans hM
  have g0 := (hM0.block _ (lt_of_row H0.out) n0 (by simp)).trans H0.out
  have g1 := (hM0.block _ (lt_of_row H1.out) n1 (by simp)).trans H1.out
  refine HK.out _ _ ⟨by rw [cell_of_row _ _ _ _ _ _ g1]; rfl, ?_⟩
  clear HK
  refine wpAnyH_all (rs := [3]) (by kernel_rfl) (by simp) (fun i hi => ?_)
  obtain rfl : i = 3 := by simpa using hi
  refine wpOp_step rfl (fun K2 hK2 => ?_)
  have HK2 := Lib.hid hK2
  clear hK2
  rcases own.form with ⟨_, _, hx⟩ | ⟨g, rfl⟩
  · rw [hx] at Hlen; exact absurd Hlen.out (by simp)
  have hrun := run_copy_row (P := Try.prog) w1 23 23 3 5 p0 0 16 16 ⟨g, 0, none⟩ 16 cap2 old.toArray 37 (bvals ((xs.drop at0).take 16)) Try.underlying23 (by kernel_rfl) g0 (by rw [bvals_length, Hlen.out]; rfl) own.bytes.news (by rw [bvals_length, Hlen.out]; simp [Hold.out]) (bvals_one _)
  have hcs : (old.toArray.toList.take 0 ++ bvals ((xs.drop at0).take 16) ++ old.toArray.toList.drop (0 + (bvals ((xs.drop at0).take 16)).length)).toArray = (bvals ((xs.drop at0).take 16)).toArray := by
    have e : old.toArray.toList.drop (0 + (bvals ((xs.drop at0).take 16)).length) = [] := List.drop_eq_nil_of_le (by rw [bvals_length, Hlen.out]; simp [Hold.out])
    rw [e, List.append_nil, List.take_zero, List.nil_append]
  rw [hcs] at hrun
  have hrow : (w1.setRow p0 (bvals ((xs.drop at0).take 16)).toArray).heap[p0]? = some (.cells (bvals ((xs.drop at0).take 16)).toArray 37 (0, 0)) := setRow_heap _ _ _ _ _ _ g0
  have g1' : (w1.setRow p0 (bvals ((xs.drop at0).take 16)).toArray).heap[p1]? = some (.cells #[.pointer (some ⟨b, 0, none⟩)] 48 (0, 0)) := (setRow_other _ _ _ _ q).trans g1
  refine step_copy rfl (.tmp 2) (.tmp 4) rfl _ _ rfl rfl _ _ hrun ?_
  refine HK2.out _ _ ⟨by rw [cell_of_row _ _ _ _ _ _ g1']; rfl, ?_⟩
  refine wpAnyH_done (by kernel_rfl) ?_ _
  exact ⟨rfl, .tuple #[], by simp [results, Try.results72], rfl, w1, hR, hM0, Moved.setRow _ _ _, hrow⟩

set_option maxRecDepth 100000 in
set_option maxHeartbeats 800000 in
theorem id1_err (W : World) (b : Nat) (a : Option Addr) (cap : Nat) (xs : List Int) (at0 : Nat) (p0 p1 : Nat) (h : RAt W b a cap xs at0 0 0) (hv : (xs.length : Int) - at0 < 16)
    (h1 : W.heap[p1]? = some (.cells #[.pointer (some ⟨b, 0, none⟩)] 48 (0, 0))) :
    Calls Try.prog 72 #[.pointer (some ⟨p0, 0, none⟩), .pointer (some ⟨p1, 0, none⟩)] W fun e W' => GaveUp W b a cap xs 4 xs.length e W' := by
  have c1 : W.cell? ⟨p1, 0, none⟩ = some (.pointer (some ⟨b, 0, none⟩)) := by rw [cell_of_row _ _ _ _ _ _ h1]; rfl
  have hs := some_err W.drew b a cap xs at0 16 (h.drewN 1) hv
  have Hs := Lib.hid hs
  clear hs h h1
  go_enter Try.func72, Try.ntmps72
  go_wp2_with fail
  refine wp_region_held_drew (S := fun w' => w'.cell? ⟨p1, 0, none⟩ = some (.pointer (some ⟨b, 0, none⟩))) mixed c1 (fun hS => ?_)
  refine wpAnyH_take (i := 0) (v := .slice (some ⟨p0, 0, none⟩) 16 16) rfl (by kernel_rfl) (by kernel_rfl) (by kernel_rfl) (panic_put _ _) (.inl ⟨rfl, fun w hw => by simp [go_sem]⟩) hS ?_
  refine wpAnyH_take (i := 1) (v := .pointer (some ⟨b, 0, none⟩)) rfl (by kernel_rfl) (by kernel_rfl) (by kernel_rfl) (panic_put _ _) (.inl ⟨rfl, fun w hw => by simp [go_sem, hw]⟩) hS ?_
  refine wpAnyH_all (rs := [2]) (by kernel_rfl) (by simp) (fun i hi => ?_)
  obtain rfl : i = 2 := by simpa using hi
  refine wpOp_step rfl (fun K hK => ?_)
  go_simp
  refine Hs.out.mono ?_
  rintro e w1 ⟨rfl, hR, hM⟩
  exact And.intro rfl (And.intro rfl ⟨at0, hR, ((Moved.refl _ _ _).drewN 1).trans hM⟩)

/-- no ID -/
def z16 : List Int := [0, 0, 0, 0, 0, 0, 0, 0, 0, 0, 0, 0, 0, 0, 0, 0]
theorem z16_bys : Bys z16 := bys_lit (by decide)

/-- the two variables of ID that its closure holds -/
def id2 (w : World) (b : Nat) : World := (w.alloc (.cells #[.pointer (some ⟨b, 0, none⟩)] 48)).alloc (.cells (bvals z16).toArray 37)
theorem id2_size (w : World) (b : Nat) : (id2 w b).heap.size = w.heap.size + 2 := by simp [id2]
theorem id2_moved (w : World) (b : Nat) : Moved b none none w (id2 w b) := ((Moved.refl _ _ _).alloc _).alloc _
theorem id2_rows (w : World) (b : Nat) : (id2 w b).heap[w.heap.size]? = some (.cells #[.pointer (some ⟨b, 0, none⟩)] 48 (0, 0)) ∧ (id2 w b).heap[w.heap.size + 1]? = some (.cells (bvals z16).toArray 37 (0, 0)) :=
  ⟨heap_alloc2_old w _ _, heap_alloc2_new w _ _⟩

theorem callFunc72 (args : Array Value) (w : World) : Sem.run Try.prog (callFunc 72 args) w = .ok (.enter 72 args) w :=
  callFunc_enter Try.func72 (by kernel_rfl) rfl args w

/-- what a reader's call of ID leaves -/
def GotId (w : World) (b : Nat) (a : Option Addr) (cap : Nat) (xs : List Int) (at0 : Nat) (er fa : Int) (ys : List Int) (e : Ending) (w' : World) : Prop :=
  e = .returned (.agg (bvals ys).toArray) ∧ RAt w' b a cap xs at0 er fa ∧ Moved b none none w w'

set_option maxRecDepth 100000 in
set_option maxHeartbeats 400000 in
theorem rid_of (w : World) (b : Nat) (a : Option Addr) (cap : Nat) (xs : List Int) (at0 : Nat) (er fa : Int) (ys : List Int) (hy : ys.length = 16) (pos0 : Nat) (e0 f0 : Int) (h : RAt w b a cap xs pos0 e0 f0)
    (ht : Calls Try.prog 67 #[.pointer (some ⟨b, 0, none⟩), .func (.func 72) #[] #[.pointer (some ⟨w.heap.size + 1, 0, none⟩), .pointer (some ⟨w.heap.size, 0, none⟩)]] (id2 w b)
      fun e w' => e = .returned (.tuple #[]) ∧ RAt w' b a cap xs at0 er fa ∧ Moved b none none w w' ∧ w'.heap[w.heap.size + 1]? = some (.cells (bvals ys).toArray 37 (0, 0))) :
    Calls Try.prog 43 #[.pointer (some ⟨b, 0, none⟩)] w fun e w' => GotId w b a cap xs at0 er fa ys e w' := by
  have hmf : ∀ (fn : Fn) (first cap : Array Value) (w : World), (Instr.makeFunc fn first cap).run Try.prog w = .ok (.func fn first cap) w := fun _ _ _ _ => rfl
  have hlt := h.lt
  have hblk := h.blk_lt
  have Ht := Lib.hid ht
  have Hblk := Lib.hid hblk
  have Hy := Lib.hid hy
  clear ht h hblk hy
  go_enter Try.func43, Try.ntmps43
  go_wp2_with fail
  refine Ht.out.mono ?_
  rintro e w1 ⟨rfl, hR, hM, hrow⟩
  have hsz : (Try.prog.info? 37).map (·.size) = some (bvals ys).toArray.size := by rw [List.size_toArray, bvals_length, Hy.out]; kernel_rfl
  have Hrow := Lib.hid hrow
  have Hsz := Lib.hid hsz
  clear hrow hsz
  go_wp2_with (first
    | refine wpList_load_row rfl 37 (.tmp 2) rfl (w.heap.size + 1) rfl 37 _ (0, 0) _ Hrow.out Try.underlying37 rfl Hsz.out ?_
    | refine wpList_store_row rfl 37 (.tmp 2) (.tmp 6) rfl (w.heap.size + 1) _ rfl rfl 37 _ Hrow.out Hsz.out rfl (all_oneCell_toArray (bvals_one ys)) ?_)
  have hrow2 := setRow_heap w1 (w.heap.size + 1) _ (bvals ys).toArray 37 (0, 0) Hrow.out
  refine bodyPost_ret (v := .agg (bvals ys).toArray) (results_cell_row rfl _ _ (w.heap.size + 1) 37 _ (0, 0) _ rfl hrow2 Try.underlying37 rfl Hsz.out) rfl ⟨rfl, ?_, ?_⟩
  · exact hR.moved (Moved.setRow _ _ _) (by omega) (fun e => by have := Hblk.out _ e; omega)
  · exact hM.over (Moved.setRow _ _ _) (by omega)
theorem z16_len : z16.length = 16 := rfl

theorem rid_err (w : World) (b : Nat) (a : Option Addr) (cap : Nat) (xs : List Int) (at0 : Nat) (h : RAt w b a cap xs at0 0 0) (hv : (xs.length : Int) - at0 < 16) :
    Calls Try.prog 43 #[.pointer (some ⟨b, 0, none⟩)] w fun e w' => GotId w b a cap xs at0 4 xs.length z16 e w' := by
  have hlt := h.lt
  have hsz := id2_size w b
  have hrows := id2_rows w b
  refine rid_of w b a cap xs at0 4 xs.length z16 rfl at0 0 0 h ((try_err (id2 w b) b a cap xs at0 ((h.alloc _).alloc _) 72 _ 4 xs.length (callFunc72 _) (fun W hM hR => ?_)).mono fun e w' hh => ?_)
  · exact id1_err W b a cap xs at0 _ _ hR hv ((hM.block _ (by omega) (by omega) (by simp)).trans hrows.1)
  · exact ⟨hh.1, hh.2.1, (id2_moved w b).trans hh.2.2, (hh.2.2.block _ (by omega) (by omega) (by simp)).trans hrows.2⟩

theorem rid_stop (w : World) (b : Nat) (a : Option Addr) (cap : Nat) (xs : List Int) (at0 : Nat) (err fat : Int) (h : RAt w b a cap xs at0 err fat) (he : err ≠ 0) :
    Calls Try.prog 43 #[.pointer (some ⟨b, 0, none⟩)] w fun e w' => GotId w b a cap xs at0 err fat z16 e w' := by
  have hlt := h.lt
  have hsz := id2_size w b
  have hrows := id2_rows w b
  refine rid_of w b a cap xs at0 err fat z16 rfl at0 err fat h ((try_stop (id2 w b) b a cap xs at0 err fat ((h.alloc _).alloc _) he 72 _).mono fun e w' hh => ?_)
  exact ⟨hh.1, hh.2.1, (id2_moved w b).trans hh.2.2, (hh.2.2.block _ (by omega) (by omega) (by simp)).trans hrows.2⟩

theorem rid_ok (w : World) (b : Nat) (a : Option Addr) (cap : Nat) (xs : List Int) (at0 : Nat) (h : RAt w b a cap xs at0 0 0) (hle : at0 + 16 ≤ xs.length) :
    Calls Try.prog 43 #[.pointer (some ⟨b, 0, none⟩)] w fun e w' => GotId w b a cap xs (at0 + 16) 0 0 ((xs.drop at0).take 16) e w' := by
  have hlt := h.lt
  have hblk := h.blk_lt
  have hsz := id2_size w b
  have hrows := id2_rows w b
  refine rid_of w b a cap xs (at0 + 16) 0 0 ((xs.drop at0).take 16) (by simp; omega) at0 0 0 h ((try_ok (id2 w b) b a cap xs at0 ((h.alloc _).alloc _) 72 _
    (fun W' => ∃ W, Moved b none none (id2 w b) W ∧ Id1Post b a cap xs (at0 + 16) ((xs.drop at0).take 16) (w.heap.size + 1) W W') (callFunc72 _)
    (fun W hM hR => (id1_ok W b a cap xs at0 (bvals z16) _ _ hR hle ((hM.block _ (by omega) (by omega) (by simp)).trans hrows.2) rfl ((hM.block _ (by omega) (by omega) (by simp)).trans hrows.1) (by omega) (by omega) (by omega)).mono fun e W' hh => ⟨hh.1, W, hM, hh.2⟩)).mono fun e w' hh => ?_)
  obtain ⟨he, W, hM, W1, hR, hM1, hM2, hrow⟩ := hh
  exact ⟨he, hR.moved hM2 (by omega) (fun e => by have := hblk _ e; omega), (((id2_moved w b).trans hM).trans hM1).over hM2 (by omega), hrow⟩

/-- what a reader's call of Text leaves -/
def GotText (w : World) (b : Nat) (a : Option Addr) (cap : Nat) (xs : List Int) (at0 : Nat) (er fa : Int) (ys : List Int) (e : Ending) (w' : World) : Prop :=
  e = .returned (.string (strOfNums ys)) ∧ RAt w' b a cap xs at0 er fa ∧ Moved b none none w w'

set_option maxHeartbeats 400000 in
theorem rtext_ok (w : World) (b : Nat) (a : Option Addr) (cap : Nat) (xs : List Int) (at0 : Nat) (most : Int) (ys : List Int) (nx : Nat) (h : RAt w b a cap xs at0 0 0) (hr : rdBytes xs at0 most = .ok (ys, nx)) :
    Calls Try.prog 40 #[.pointer (some ⟨b, 0, none⟩), .int .i64 most] w fun e w' => GotText w b a cap xs nx 0 0 ys e w' := by
  have hb := rbytes_ok w b a cap xs at0 most ys nx h hr
  have Hb := Lib.hid hb
  clear hb h hr
  go_enter Try.func40, Try.ntmps40
  go_wp2_with fail
  refine Hb.out.mono ?_
  rintro e w1 ⟨a1, cap1, rfl, hR, own, hnew, hM⟩
  have hs := run_bytes_string w1 a1 cap1 ys own.bytes
  go_wp2_with fail
  go_ret
  exact ⟨rfl, hR, hM⟩

set_option maxHeartbeats 400000 in
theorem rtext_no (w : World) (b : Nat) (a : Option Addr) (cap : Nat) (xs : List Int) (at0 : Nat) (most er fa : Int)
    (hb : Calls Try.prog 41 #[.pointer (some ⟨b, 0, none⟩), .int .i64 most] w fun e w' => NoBytes w b a cap xs at0 er fa e w') :
    Calls Try.prog 40 #[.pointer (some ⟨b, 0, none⟩), .int .i64 most] w fun e w' => GotText w b a cap xs at0 er fa [] e w' := by
  have Hb := Lib.hid hb
  clear hb
  go_enter Try.func40, Try.ntmps40
  go_wp2_with fail
  refine Hb.out.mono ?_
  rintro e w1 ⟨rfl, hR, hM⟩
  have hs : Sem.run Try.prog (convert 23 9 (.slice none 0 0)) w1 = .ok (.string (strOfNums [])) w1 := run_bytes_string w1 none 0 [] (.inl ⟨rfl, rfl⟩)
  go_wp2_with fail
  go_ret
  exact ⟨rfl, hR, hM⟩

theorem at_any (w : World) (b : Nat) (a : Option Addr) (cap : Nat) (xs : List Int) (pos : Nat) (err fat : Int) (h : RAt w b a cap xs pos err fat) :
    Calls Try.prog 42 #[.pointer (some ⟨b, 0, none⟩)] w fun e w' => e = .returned (.int .i64 pos) ∧ w = w' := by
  obtain ⟨c0, c1, c2, c3, c4⟩ := h.cells
  go_enter Try.func42, Try.ntmps42
  go_wp2
  go_ret
  exact ⟨rfl, rfl⟩

theorem left_any (w : World) (b : Nat) (a : Option Addr) (cap : Nat) (xs : List Int) (pos : Nat) (err fat : Int) (h : RAt w b a cap xs pos err fat) :
    Calls Try.prog 46 #[.pointer (some ⟨b, 0, none⟩)] w fun e w' => e = .returned (.int .i64 ((xs.length : Int) - pos)) ∧ ∃ n, w' = w.drewN n := by
  obtain ⟨c0, c1, c2, c3, c4⟩ := h.cells
  have hle := h.le
  have hlen := h.len
  have hwr : IntKind.i64.wrap ((xs.length : Int) - pos) = (xs.length : Int) - pos := wrap_in _ (by omega) (by omega)
  go_enter Try.func46, Try.ntmps46
  go_wp2_with fail
  go_quiet (fail)
  go_wp2_with fail
  go_ret
  exact ⟨rfl, _, rfl⟩

end Go.Proofs.Ytkfhljggdcajpaa
