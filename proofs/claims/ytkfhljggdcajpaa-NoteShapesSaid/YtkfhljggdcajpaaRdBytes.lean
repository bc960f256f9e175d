/-
  The reader of package field: Bytes, Text, ID, Count.
-/
import Derived.Test.YtkfhljggdcajpaaRdSome
import Derived.Deep.RegionHeld3
namespace Go.Proofs.Ytkfhljggdcajpaa
open Go.RowKit

theorem rdBytes_ok {xs : List Int} {at0 : Nat} {most : Int} {ys : List Int} {nx : Nat} (h : rdBytes xs at0 most = .ok (ys, nx)) :
    ∃ (n m : Nat), bnd xs at0 0 most 3 = .ok ((n : Int), m) ∧ (n : Int) ≤ xs.length - m ∧ ys = (xs.drop m).take n ∧ nx = m + n := by
  unfold rdBytes at h
  cases hb : bnd xs at0 0 most 3 with
  | error f => rw [hb] at h; simp at h
  | ok p =>
    obtain ⟨v, m⟩ := p
    rw [hb] at h
    simp only at h
    split at h
    · cases h
    · rename_i hle
      simp only [Except.ok.injEq, Prod.mk.injEq] at h
      have hv : 0 ≤ v := by
        unfold bnd at hb
        split at hb
        · cases hb
        · split at hb
          · cases hb
          · split at hb
            · cases hb
            · cases hb; omega
      refine ⟨v.toNat, m, by rw [Int.toNat_of_nonneg hv], by omega, h.1.symm, h.2.symm⟩

theorem cell_far {w : World} {p q : Nat} {x : Value} (v : Value) (h : p ≠ q) (hc : w.cell? ⟨p, 0, none⟩ = some x) : (w.setCell ⟨q, 0, none⟩ v).cell? ⟨p, 0, none⟩ = some x :=
  (World.cell?_of_block (heap_setCell_other _ _ _ _ h)).trans hc

/-- what the closure of Bytes leaves -/
def Bytes1Post (b : Nat) (a : Option Addr) (cap : Nat) (xs : List Int) (nx : Nat) (ys : List Int) (p2 : Nat) (W W' : World) : Prop :=
  ∃ W1 a' cap', RAt W1 b a cap xs nx 0 0 ∧ Owns W1 a' cap' ys ∧ (∀ k, blk a' = some k → W.heap.size ≤ k) ∧ Moved b none none W W1 ∧ W' = W1.setCell ⟨p2, 0, none⟩ (.slice a' ys.length cap')

/-- bounded, beside two rows that are kept -/
theorem bounded_keep (w : World) (b : Nat) (a : Option Addr) (cap : Nat) (xs : List Int) (at0 : Nat) (low high above v : Int) (nx : Nat) (h : RAt w b a cap xs at0 0 0) (hr : bnd xs at0 low high above = .ok (v, nx)) (p0 p1 p2 : Nat) (V0 V1 V2 : Value) (t0 t1 t2 : TypeId)
    (h0 : w.heap[p0]? = some (.cells #[V0] t0 (0, 0))) (h1 : w.heap[p1]? = some (.cells #[V1] t1 (0, 0))) (h2 : w.heap[p2]? = some (.cells #[V2] t2 (0, 0))) (n0 : p0 ≠ b) (n1 : p1 ≠ b) (n2 : p2 ≠ b) :
    Calls Try.prog 69 #[.pointer (some ⟨b, 0, none⟩), .int .i64 low, .int .i64 high, .int .i64 above] w fun e w' => e = .returned (.int .i64 v) ∧ RAt w' b a cap xs nx 0 0 ∧ Moved b none none w w' ∧
      w'.heap[p0]? = some (.cells #[V0] t0 (0, 0)) ∧ w'.heap[p1]? = some (.cells #[V1] t1 (0, 0)) ∧ w'.heap[p2]? = some (.cells #[V2] t2 (0, 0)) := by
  refine (bounded_any w b a cap xs at0 low high above h).mono fun e w' hq => ?_
  rw [hr] at hq
  obtain ⟨pos, hR, hM, rfl, rfl⟩ := hq
  exact ⟨rfl, hR, hM, (hM.block _ (lt_of_row h0) n0 (by simp)).trans h0, (hM.block _ (lt_of_row h1) n1 (by simp)).trans h1, (hM.block _ (lt_of_row h2) n2 (by simp)).trans h2⟩

set_option maxRecDepth 100000 in
set_option maxHeartbeats 800000 in
theorem bytes1_ok (W : World) (b : Nat) (a : Option Addr) (cap : Nat) (xs : List Int) (at0 : Nat) (most : Int) (old : Value) (ys : List Int) (nx : Nat) (p0 p1 p2 : Nat) (h : RAt W b a cap xs at0 0 0) (hr : rdBytes xs at0 most = .ok (ys, nx))
    (h0 : W.heap[p0]? = some (.cells #[.pointer (some ⟨b, 0, none⟩)] 48 (0, 0))) (h1 : W.heap[p1]? = some (.cells #[.int .i64 most] 3 (0, 0))) (h2 : W.heap[p2]? = some (.cells #[old] 23 (0, 0))) (n0 : p0 ≠ b) (n1 : p1 ≠ b) (n2 : p2 ≠ b) (q0 : p0 ≠ p2) (q1 : p1 ≠ p2) :
    Calls Try.prog 70 #[.pointer (some ⟨p0, 0, none⟩), .pointer (some ⟨p1, 0, none⟩), .pointer (some ⟨p2, 0, none⟩)] W fun e W' => e = .returned (.tuple #[]) ∧ Bytes1Post b a cap xs nx ys p2 W W' := by
  obtain ⟨n, m, hb, hle, rfl, rfl⟩ := rdBytes_ok hr
  have c0 : W.cell? ⟨p0, 0, none⟩ = some (.pointer (some ⟨b, 0, none⟩)) := by rw [cell_of_row _ _ _ _ _ _ h0]; rfl
  have c1 : W.cell? ⟨p1, 0, none⟩ = some (.int .i64 most) := by rw [cell_of_row _ _ _ _ _ _ h1]; rfl
  have hbk := bounded_keep W.drew b a cap xs at0 0 most 3 n m (h.drewN 1) hb p0 p1 p2 _ _ _ _ _ _ h0 h1 h2 n0 n1 n2
  have Hbk := Lib.hid hbk
  have Hle : m + n ≤ xs.length := by omega
  have hlen : ((xs.drop m).take n).length = n := by simp; omega
  have Hlen := Lib.hid hlen
  have N0 := Lib.hid n0
  have N1 := Lib.hid n1
  have N2 := Lib.hid n2
  clear hr hb hbk h h0 h1 h2 hlen n0 n1 n2
  go_enter Try.func70, Try.ntmps70
  go_wp2_with fail
  go_region_held3 (fun w' => w'.cell? ⟨p0, 0, none⟩ = some (.pointer (some ⟨b, 0, none⟩)) ∧ w'.cell? ⟨p1, 0, none⟩ = some (.int .i64 most))
    (first | exact ⟨m0, m1⟩ | exact ⟨cell_far _ q0 m0, cell_far _ q1 m1⟩ | exact ⟨k0, k1⟩ | go_keep)
    (first | (go_at_call 69; refine Hbk.out.mono ?_; rintro e w1 ⟨rfl, hR, hM, h0, h1, h2⟩; have k0 : w1.cell? ⟨p0, 0, none⟩ = some (.pointer (some ⟨b, 0, none⟩)) := (by rw [cell_of_row _ _ _ _ _ _ h0]; rfl); have k1 : w1.cell? ⟨p1, 0, none⟩ = some (.int .i64 most) := (by rw [cell_of_row _ _ _ _ _ _ h1]; rfl); have H0 := Lib.hid h0; have H1 := Lib.hid h1; have H2 := Lib.hid h2; clear h0 h1 h2)
           | (go_at_call 71; refine (some_ok _ b a cap xs m n hR Hle).mono ?_; rintro e w2 ⟨a2, cap2, rfl, hR2, own2, new2, hM2⟩;
              have g0 := (hM2.block _ (lt_of_row H0.out) N0.out (by simp)).trans H0.out; have g1 := (hM2.block _ (lt_of_row H1.out) N1.out (by simp)).trans H1.out; have g2 := (hM2.block _ (lt_of_row H2.out) N2.out (by simp)).trans H2.out;
              have m0 : w2.cell? ⟨p0, 0, none⟩ = some (.pointer (some ⟨b, 0, none⟩)) := (by rw [cell_of_row _ _ _ _ _ _ g0]; rfl); have m1 : w2.cell? ⟨p1, 0, none⟩ = some (.int .i64 most) := (by rw [cell_of_row _ _ _ _ _ _ g1]; rfl); have m2 : w2.cell? ⟨p2, 0, none⟩ = some old := (by rw [cell_of_row _ _ _ _ _ _ g2]; rfl); have f2 : w2.frozen? ⟨p2, 0, none⟩ = false := frozen_of_row _ _ _ _ _ g2; clear g0 g1 g2))
  all_goals go_end0
  all_goals exact ⟨rfl, w2, a2, cap2, hR2, own2, fun k hk => Nat.le_trans hM.size (new2 k hk), (((Moved.refl _ _ _).drewN 1).trans hM).trans hM2, by rw [Hlen.out]⟩

theorem mixed : Try.prog.follows .mixedOrders = true := by kernel_rfl
theorem panic_put {P : Program} {fn : Func} {R : Ending → World → Prop} (d : Option Tmp) (v : Value) : ∀ c a w, bodyPost P fn R (.panic c) (a.put d v) w → bodyPost P fn R (.panic c) a w := fun c a w h => by
  have e : (a.put d v).defers = a.defers := by cases d <;> rfl
  exact ⟨e.symm.trans h.1, h.2⟩

/-- what a call that gives up leaves -/
def GaveUp (W : World) (b : Nat) (a : Option Addr) (cap : Nat) (xs : List Int) (er fa : Int) (e : Ending) (W' : World) : Prop :=
  e = .panicked [{ v := .iface 110 (.agg #[.int .i64 er, .int .i64 fa]), recovered := false }] ∧ ∃ pos, RAt W' b a cap xs pos 0 0 ∧ Moved b none none W W'

set_option maxRecDepth 100000 in
set_option maxHeartbeats 800000 in
theorem bytes1_err1 (W : World) (b : Nat) (a : Option Addr) (cap : Nat) (xs : List Int) (at0 : Nat) (most er fa : Int) (p0 p1 p2 : Nat) (h : RAt W b a cap xs at0 0 0) (hr : bnd xs at0 0 most 3 = .error (er, fa))
    (h0 : W.heap[p0]? = some (.cells #[.pointer (some ⟨b, 0, none⟩)] 48 (0, 0))) (h1 : W.heap[p1]? = some (.cells #[.int .i64 most] 3 (0, 0))) :
    Calls Try.prog 70 #[.pointer (some ⟨p0, 0, none⟩), .pointer (some ⟨p1, 0, none⟩), .pointer (some ⟨p2, 0, none⟩)] W fun e W' => GaveUp W b a cap xs er fa e W' := by
  have c0 : W.cell? ⟨p0, 0, none⟩ = some (.pointer (some ⟨b, 0, none⟩)) := by rw [cell_of_row _ _ _ _ _ _ h0]; rfl
  have c1 : W.cell? ⟨p1, 0, none⟩ = some (.int .i64 most) := by rw [cell_of_row _ _ _ _ _ _ h1]; rfl
  have hbk := bounded_any W.drew b a cap xs at0 0 most 3 (h.drewN 1)
  rw [hr] at hbk
  have Hbk := Lib.hid hbk
  clear hr hbk h h0 h1
  go_enter Try.func70, Try.ntmps70
  go_wp2_with fail
  refine wp_region_held_drew (S := fun w' => w'.cell? ⟨p0, 0, none⟩ = some (.pointer (some ⟨b, 0, none⟩)) ∧ w'.cell? ⟨p1, 0, none⟩ = some (.int .i64 most)) mixed ⟨c0, c1⟩ (fun hS => ?_)
  refine wpAnyH_take (i := 0) (v := .pointer (some ⟨b, 0, none⟩)) rfl (by kernel_rfl) (by kernel_rfl) (by kernel_rfl) (panic_put _ _) (.inl ⟨rfl, fun w hw => by simp [go_sem, hw.1]⟩) hS ?_
  refine wpAnyH_take (i := 1) (v := .pointer (some ⟨b, 0, none⟩)) rfl (by kernel_rfl) (by kernel_rfl) (by kernel_rfl) (panic_put _ _) (.inl ⟨rfl, fun w hw => by simp [go_sem, hw.1]⟩) hS ?_
  refine wpAnyH_take (i := 2) (v := .int .i64 most) rfl (by kernel_rfl) (by kernel_rfl) (by kernel_rfl) (panic_put _ _) (.inl ⟨rfl, fun w hw => by simp [go_sem, hw.2]⟩) hS ?_
  refine wpAnyH_all (rs := [3]) (by kernel_rfl) (by simp) (fun i hi => ?_)
  obtain rfl : i = 3 := by simpa using hi
  refine wpOp_step rfl (fun K hK => ?_)
  go_simp
  refine Hbk.out.mono ?_
  rintro e w1 ⟨pos, hR, hM, he⟩
  unfold faultEnd at he
  subst he
  exact And.intro rfl (And.intro rfl ⟨pos, hR, ((Moved.refl _ _ _).drewN 1).trans hM⟩)

set_option maxRecDepth 100000 in
set_option maxHeartbeats 800000 in
theorem bytes1_err2 (W : World) (b : Nat) (a : Option Addr) (cap : Nat) (xs : List Int) (at0 : Nat) (most v : Int) (m : Nat) (p0 p1 p2 : Nat) (h : RAt W b a cap xs at0 0 0) (hb : bnd xs at0 0 most 3 = .ok (v, m)) (hv : (xs.length : Int) - m < v)
    (h0 : W.heap[p0]? = some (.cells #[.pointer (some ⟨b, 0, none⟩)] 48 (0, 0))) (h1 : W.heap[p1]? = some (.cells #[.int .i64 most] 3 (0, 0))) (n0 : p0 ≠ b) (n1 : p1 ≠ b) :
    Calls Try.prog 70 #[.pointer (some ⟨p0, 0, none⟩), .pointer (some ⟨p1, 0, none⟩), .pointer (some ⟨p2, 0, none⟩)] W fun e W' => GaveUp W b a cap xs 4 xs.length e W' := by
  have c0 : W.cell? ⟨p0, 0, none⟩ = some (.pointer (some ⟨b, 0, none⟩)) := by rw [cell_of_row _ _ _ _ _ _ h0]; rfl
  have c1 : W.cell? ⟨p1, 0, none⟩ = some (.int .i64 most) := by rw [cell_of_row _ _ _ _ _ _ h1]; rfl
  have hbk := bounded_keep W.drew b a cap xs at0 0 most 3 v m (h.drewN 1) hb p0 p1 p0 _ _ _ _ _ _ h0 h1 h0 n0 n1 n0
  have Hbk := Lib.hid hbk
  clear hb hbk h h0 h1
  go_enter Try.func70, Try.ntmps70
  go_wp2_with fail
  refine wp_region_held_drew (S := fun w' => w'.cell? ⟨p0, 0, none⟩ = some (.pointer (some ⟨b, 0, none⟩)) ∧ w'.cell? ⟨p1, 0, none⟩ = some (.int .i64 most)) mixed ⟨c0, c1⟩ (fun hS => ?_)
  refine wpAnyH_take (i := 0) (v := .pointer (some ⟨b, 0, none⟩)) rfl (by kernel_rfl) (by kernel_rfl) (by kernel_rfl) (panic_put _ _) (.inl ⟨rfl, fun w hw => by simp [go_sem, hw.1]⟩) hS ?_
  refine wpAnyH_take (i := 1) (v := .pointer (some ⟨b, 0, none⟩)) rfl (by kernel_rfl) (by kernel_rfl) (by kernel_rfl) (panic_put _ _) (.inl ⟨rfl, fun w hw => by simp [go_sem, hw.1]⟩) hS ?_
  refine wpAnyH_take (i := 2) (v := .int .i64 most) rfl (by kernel_rfl) (by kernel_rfl) (by kernel_rfl) (panic_put _ _) (.inl ⟨rfl, fun w hw => by simp [go_sem, hw.2]⟩) hS ?_
  refine wpAnyH_all (rs := [3]) (by kernel_rfl) (by simp) (fun i hi => ?_)
  obtain rfl : i = 3 := by simpa using hi
  refine wpOp_step rfl (fun K hK => ?_)
  have HK := Lib.hid hK
  clear hK
  go_simp
  refine Hbk.out.mono ?_
  rintro e w1 ⟨rfl, hR, hM, h0, h1, _⟩
  refine HK.out _ _ ⟨⟨by rw [cell_of_row _ _ _ _ _ _ h0]; rfl, by rw [cell_of_row _ _ _ _ _ _ h1]; rfl⟩, ?_⟩
  clear HK
  refine wpAnyH_all (rs := [4]) (by kernel_rfl) (by simp) (fun i hi => ?_)
  obtain rfl : i = 4 := by simpa using hi
  refine wpOp_step rfl (fun K2 hK2 => ?_)
  go_simp
  refine (some_err w1 b a cap xs m v hR hv).mono ?_
  rintro e w2 ⟨rfl, hR2, hM2⟩
  exact And.intro rfl (And.intro rfl ⟨m, hR2, (((Moved.refl _ _ _).drewN 1).trans hM).trans hM2⟩)

/-- the closure of Bytes gives up -/
theorem bytes1_err (W : World) (b : Nat) (a : Option Addr) (cap : Nat) (xs : List Int) (at0 : Nat) (most er fa : Int) (p0 p1 p2 : Nat) (h : RAt W b a cap xs at0 0 0) (hr : rdBytes xs at0 most = .error (er, fa))
    (h0 : W.heap[p0]? = some (.cells #[.pointer (some ⟨b, 0, none⟩)] 48 (0, 0))) (h1 : W.heap[p1]? = some (.cells #[.int .i64 most] 3 (0, 0))) (n0 : p0 ≠ b) (n1 : p1 ≠ b) :
    Calls Try.prog 70 #[.pointer (some ⟨p0, 0, none⟩), .pointer (some ⟨p1, 0, none⟩), .pointer (some ⟨p2, 0, none⟩)] W fun e W' => GaveUp W b a cap xs er fa e W' := by
  unfold rdBytes at hr
  cases hb : bnd xs at0 0 most 3 with
  | error f =>
    rw [hb] at hr
    cases hr
    exact bytes1_err1 W b a cap xs at0 most er fa p0 p1 p2 h hb h0 h1
  | ok p =>
    obtain ⟨v, m⟩ := p
    rw [hb] at hr
    simp only at hr
    split at hr
    · rename_i hv
      cases hr
      exact bytes1_err2 W b a cap xs at0 most v m p0 p1 p2 h hb hv h0 h1 n0 n1
    · cases hr

/-- the three variables of Bytes that its closure holds -/
def by3 (w : World) (b : Nat) (most : Int) : World := ((w.alloc (.cells #[.pointer (some ⟨b, 0, none⟩)] 48)).alloc (.cells #[.int .i64 most] 3)).alloc (.cells #[.slice none 0 0] 23)
theorem by3_size (w : World) (b : Nat) (most : Int) : (by3 w b most).heap.size = w.heap.size + 3 := by simp [by3]
theorem by3_moved (w : World) (b : Nat) (most : Int) : Moved b none none w (by3 w b most) := (((Moved.refl _ _ _).alloc _).alloc _).alloc _
theorem by3_rows (w : World) (b : Nat) (most : Int) : (by3 w b most).heap[w.heap.size]? = some (.cells #[.pointer (some ⟨b, 0, none⟩)] 48 (0, 0)) ∧ (by3 w b most).heap[w.heap.size + 1]? = some (.cells #[.int .i64 most] 3 (0, 0)) ∧
    (by3 w b most).heap[w.heap.size + 2]? = some (.cells #[.slice none 0 0] 23 (0, 0)) := by
  unfold by3
  refine ⟨?_, ?_, ?_⟩
  · rw [Below.heap_alloc _ _ _ (by simp only [World.size_alloc]; omega)]; exact heap_alloc2_old w _ _
  · rw [Below.heap_alloc _ _ _ (by simp only [World.size_alloc]; omega)]; exact heap_alloc2_new w _ _
  · have := heap_alloc_new ((w.alloc (.cells #[.pointer (some ⟨b, 0, none⟩)] 48)).alloc (.cells #[.int .i64 most] 3)) (.cells #[.slice none 0 0] 23)
    simpa only [World.size_alloc] using this

theorem callFunc70 (args : Array Value) (w : World) : Sem.run Try.prog (callFunc 70 args) w = .ok (.enter 70 args) w :=
  callFunc_enter Try.func70 (by kernel_rfl) rfl args w

/-- what a reader's call of Bytes that gives up, or did so ahead, leaves -/
def NoBytes (w : World) (b : Nat) (a : Option Addr) (cap : Nat) (xs : List Int) (at0 : Nat) (er fa : Int) (e : Ending) (w' : World) : Prop :=
  e = .returned (.slice none 0 0) ∧ RAt w' b a cap xs at0 er fa ∧ Moved b none none w w'

set_option maxRecDepth 100000 in
set_option maxHeartbeats 400000 in
theorem rbytes_of (w : World) (b : Nat) (a : Option Addr) (cap : Nat) (xs : List Int) (at0 : Nat) (most er fa : Int) (pos0 : Nat) (e0 f0 : Int) (h : RAt w b a cap xs pos0 e0 f0)
    (ht : Calls Try.prog 67 #[.pointer (some ⟨b, 0, none⟩), .func (.func 70) #[] #[.pointer (some ⟨w.heap.size, 0, none⟩), .pointer (some ⟨w.heap.size + 1, 0, none⟩), .pointer (some ⟨w.heap.size + 2, 0, none⟩)]] (by3 w b most)
      fun e w' => e = .returned (.tuple #[]) ∧ RAt w' b a cap xs at0 er fa ∧ Moved b none none (by3 w b most) w') :
    Calls Try.prog 41 #[.pointer (some ⟨b, 0, none⟩), .int .i64 most] w fun e w' => NoBytes w b a cap xs at0 er fa e w' := by
  have hmf : ∀ (fn : Fn) (first cap : Array Value) (w : World), (Instr.makeFunc fn first cap).run Try.prog w = .ok (.func fn first cap) w := fun _ _ _ _ => rfl
  have hlt := h.lt
  have hblk := h.blk_lt
  have Ht := Lib.hid ht
  have Hrow := Lib.hid (by3_rows w b most)
  have Hsz := Lib.hid (by3_size w b most)
  have Hmv := Lib.hid (by3_moved w b most)
  have Hblk := Lib.hid hblk
  clear ht h hblk
  go_enter Try.func41, Try.ntmps41
  go_wp2_with fail
  refine Ht.out.mono ?_
  rintro e w1 ⟨rfl, hR, hM⟩
  have hb6 := (hM.block (w.heap.size + 2) (by rw [Hsz.out]; omega) (by omega) (by simp)).trans Hrow.out.2.2
  have c6 : w1.cell? ⟨w.heap.size + 1 + 1, 0, none⟩ = some (.slice none 0 0) := by rw [cell_of_row _ _ _ _ _ _ hb6]; rfl
  have f6 : w1.frozen? ⟨w.heap.size + 1 + 1, 0, none⟩ = false := frozen_of_row _ _ _ _ _ hb6
  have HB6 := Lib.hid hb6
  clear hb6
  go_wp2_with fail
  refine bodyPost_ret (v := .slice none 0 0) (by simp [results, Try.results41, go_sem, c6]) rfl ⟨rfl, ?_, ?_⟩
  · exact hR.setNew _ _ _ (by omega) (fun e => by have := Hblk.out _ e; omega)
  · exact (Hmv.out.trans hM).setNew _ _ _ (by omega)

theorem rbytes_err (w : World) (b : Nat) (a : Option Addr) (cap : Nat) (xs : List Int) (at0 : Nat) (most er fa : Int) (h : RAt w b a cap xs at0 0 0) (hr : rdBytes xs at0 most = .error (er, fa)) :
    Calls Try.prog 41 #[.pointer (some ⟨b, 0, none⟩), .int .i64 most] w fun e w' => NoBytes w b a cap xs at0 er fa e w' := by
  have hlt := h.lt
  have hrows := by3_rows w b most
  have hsz := by3_size w b most
  refine rbytes_of w b a cap xs at0 most er fa at0 0 0 h (try_err (by3 w b most) b a cap xs at0 (((h.alloc _).alloc _).alloc _) 70 _ er fa (callFunc70 _) (fun W hM hR => ?_))
  exact bytes1_err W b a cap xs at0 most er fa _ _ _ hR hr ((hM.block _ (by omega) (by omega) (by simp)).trans hrows.1) ((hM.block _ (by omega) (by omega) (by simp)).trans hrows.2.1) (by omega) (by omega)

theorem rbytes_stop (w : World) (b : Nat) (a : Option Addr) (cap : Nat) (xs : List Int) (at0 : Nat) (most err fat : Int) (h : RAt w b a cap xs at0 err fat) (he : err ≠ 0) :
    Calls Try.prog 41 #[.pointer (some ⟨b, 0, none⟩), .int .i64 most] w fun e w' => NoBytes w b a cap xs at0 err fat e w' :=
  rbytes_of w b a cap xs at0 most err fat at0 err fat h (try_stop (by3 w b most) b a cap xs at0 err fat (((h.alloc _).alloc _).alloc _) he 70 _)

/-- what a reader's call of Bytes leaves that reads them -/
def GotBytes (w : World) (b : Nat) (a : Option Addr) (cap : Nat) (xs : List Int) (nx : Nat) (ys : List Int) (e : Ending) (w' : World) : Prop :=
  ∃ a' cap', e = .returned (.slice a' ys.length cap') ∧ RAt w' b a cap xs nx 0 0 ∧ Owns w' a' cap' ys ∧ (∀ k, blk a' = some k → w.heap.size ≤ k) ∧ Moved b none none w w'

set_option maxRecDepth 100000 in
set_option maxHeartbeats 400000 in
theorem rbytes_ok (w : World) (b : Nat) (a : Option Addr) (cap : Nat) (xs : List Int) (at0 : Nat) (most : Int) (ys : List Int) (nx : Nat) (h : RAt w b a cap xs at0 0 0) (hr : rdBytes xs at0 most = .ok (ys, nx)) :
    Calls Try.prog 41 #[.pointer (some ⟨b, 0, none⟩), .int .i64 most] w fun e w' => GotBytes w b a cap xs nx ys e w' := by
  have hmf : ∀ (fn : Fn) (first cap : Array Value) (w : World), (Instr.makeFunc fn first cap).run Try.prog w = .ok (.func fn first cap) w := fun _ _ _ _ => rfl
  have hlt := h.lt
  have hblk := h.blk_lt
  have hrows := by3_rows w b most
  have hsz := by3_size w b most
  have hmv := by3_moved w b most
  have ht := try_ok (by3 w b most) b a cap xs at0 (((h.alloc _).alloc _).alloc _) 70 #[.pointer (some ⟨w.heap.size, 0, none⟩), .pointer (some ⟨w.heap.size + 1, 0, none⟩), .pointer (some ⟨w.heap.size + 2, 0, none⟩)]
    (fun W' => ∃ W, Moved b none none (by3 w b most) W ∧ Bytes1Post b a cap xs nx ys (w.heap.size + 2) W W') (callFunc70 _)
    (fun W hM hR => (bytes1_ok W b a cap xs at0 most _ ys nx _ _ _ hR hr ((hM.block _ (by omega) (by omega) (by simp)).trans hrows.1) ((hM.block _ (by omega) (by omega) (by simp)).trans hrows.2.1) ((hM.block _ (by omega) (by omega) (by simp)).trans hrows.2.2) (by omega) (by omega) (by omega) (by omega) (by omega)).mono fun e W' hh => ⟨hh.1, W, hM, hh.2⟩)
  have Ht := Lib.hid ht
  have Hrow := Lib.hid hrows
  have Hsz := Lib.hid hsz
  have Hmv := Lib.hid hmv
  have Hblk := Lib.hid hblk
  clear ht hrows hsz hmv hr h hblk
  go_enter Try.func41, Try.ntmps41
  go_wp2_with fail
  refine Ht.out.mono ?_
  rintro e w1 ⟨rfl, W, hM, W1, a', cap', hR, own, hnew, hM1, hw1⟩
  have hM2 := hM.trans hM1
  have hsW := hM.size
  rw [Hsz.out] at hsW
  have hnew2 : ∀ k, blk a' = some k → w.heap.size + 3 ≤ k := fun k hk => Nat.le_trans hsW (hnew k hk)
  have hb6 : W1.heap[w.heap.size + 2]? = some (.cells #[.slice none 0 0] 23 (0, 0)) := (hM2.block (w.heap.size + 2) (by rw [Hsz.out]; omega) (by omega) (by simp)).trans Hrow.out.2.2
  have hb7 : w1.heap[w.heap.size + 2]? = some (.cells #[.slice a' ys.length cap'] 23 (0, 0)) := by rw [hw1, heap_setCell_same _ _ _ _ _ _ hb6]; rfl
  have hR1 : RAt w1 b a cap xs nx 0 0 := by rw [hw1]; exact hR.setNew _ _ _ (by omega) (fun e => by have := Hblk.out _ e; omega)
  have own1 : Owns w1 a' cap' ys := by rw [hw1]; exact own.of_block fun k hk _ => heap_setCell_other _ _ _ _ (by have := hnew2 k hk; simp only; omega)
  have hMw : Moved b none none w w1 := by rw [hw1]; exact (Hmv.out.trans hM2).setNew _ _ _ (by omega)
  have c6 : w1.cell? ⟨w.heap.size + 1 + 1, 0, none⟩ = some (.slice a' ys.length cap') := by rw [cell_of_row _ _ _ _ _ _ hb7]; rfl
  have f6 : w1.frozen? ⟨w.heap.size + 1 + 1, 0, none⟩ = false := frozen_of_row _ _ _ _ _ hb7
  clear hw1 hb6 hb7 hM hM1 hM2 hR own hnew
  go_wp2_with fail
  refine bodyPost_ret (v := .slice a' ys.length cap') (by simp [results, Try.results41, go_sem, c6]) rfl ⟨a', cap', rfl, ?_, ?_, fun k hk => by have := hnew2 k hk; omega, ?_⟩
  · exact hR1.setNew _ _ _ (by omega) (fun e => by have := Hblk.out _ e; omega)
  · exact own1.of_block fun k hk _ => heap_setCell_other _ _ _ _ (by have := hnew2 k hk; simp only; omega)
  · exact hMw.setNew _ _ _ (by omega)

end Go.Proofs.Ytkfhljggdcajpaa
