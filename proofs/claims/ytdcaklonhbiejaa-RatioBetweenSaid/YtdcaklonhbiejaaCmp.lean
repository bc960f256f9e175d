/-
  Order of package ratio: its comparison, and what the sort is asked.
-/
import Derived.Test.YtdcaklonhbiejaaSta
import Derived.Test.YtdcaklonhbiejaaAwake
import Derived.Test.YtdcaklonhbiejaaExt
namespace Go.Proofs.Ytdcaklonhbiejaa
open Go.Shelf Go.RowKit Go.Lib Go.Sort

theorem before_q (a b n : Nat) (w : World) : Calls Try.prog 17 #[.float .f64 a, .float .f64 b] (w.drewN n) fun e w'' => e = .returned (.bool (bef a b)) ∧ ∃ m, w'' = w.drewN m :=
  Calls.quiet_of_same ((before_any a b _).mono fun _ _ ⟨h1, h2⟩ => ⟨h1, h2.symm⟩)

def cfl (xs : List Nat) (x y : Nat) : Int := if bef (xs.getD x 0) (xs.getD y 0) = true then -1 else if bef (xs.getD y 0) (xs.getD x 0) = true then 1 else 0

set_option maxHeartbeats 1600000 in
theorem cmp_any (W : World) (bx g off cap : Nat) (xs : List Nat) (hbx : W.cell? ⟨bx, 0, none⟩ = some (.slice (some ⟨g, off, none⟩) xs.length cap)) (hc : ∀ i, i < xs.length → W.cell? ⟨g, off + i, none⟩ = some (.float .f64 (xs.getD i 0)))
    (x y : Nat) (hx : x < xs.length) (hy : y < xs.length) :
    Calls Try.prog 63 #[.int .i64 x, .int .i64 y, .pointer (some ⟨bx, 0, none⟩)] W fun e w' => e = .returned (.int .i64 (cfl xs x y)) ∧ ∃ q, w' = W.drewN q := by
  have cx := hc x hx
  have cy := hc y hy
  have bx1 : (x : Int) < (xs.length : Int) := by omega
  have by1 : (y : Int) < (xs.length : Int) := by omega
  clear hc
  unfold cfl
  generalize xs.getD x 0 = a at *
  generalize xs.getD y 0 = b at *
  have hb1 := fun n w => before_q a b n w
  have hb2 := fun n w => before_q b a n w
  cases h1 : bef a b
  · rw [h1] at hb1
    cases h2 : bef b a
    · rw [h2] at hb2
      have HB1 := Lib.hid hb1
      have HB2 := Lib.hid hb2
      clear hb1 hb2
      go_enter Try.func63, Try.ntmps63
      go_wp2_with fail
      go_quiet (first | (go_at_call_of 17 (Value.float .f64 a); exact HB1.out _ _))
      have hbx2 : (W.drewN nq).cell? ⟨bx, 0, none⟩ = some (.slice (some ⟨g, off, none⟩) xs.length cap) := hbx
      have cx2 : (W.drewN nq).cell? ⟨g, off + x, none⟩ = some (.float .f64 a) := cx
      have cy2 : (W.drewN nq).cell? ⟨g, off + y, none⟩ = some (.float .f64 b) := cy
      have HW2 : Hid (∀ n, ∃ q, (W.drewN nq).drewN n = W.drewN q) := fun n => ⟨_, World.drewN_drewN _ _ _⟩
      clear hbx cx cy
      generalize W.drewN nq = W2 at *
      go_wp2_with fail
      go_quiet (first | (go_at_call_of 17 (Value.float .f64 b); exact HB2.out _ _))
      go_wp2_with fail
      go_ret
      exact ⟨rfl, HW2.out _⟩
    · rw [h2] at hb2
      have HB1 := Lib.hid hb1
      have HB2 := Lib.hid hb2
      clear hb1 hb2
      go_enter Try.func63, Try.ntmps63
      go_wp2_with fail
      go_quiet (first | (go_at_call_of 17 (Value.float .f64 a); exact HB1.out _ _))
      have hbx2 : (W.drewN nq).cell? ⟨bx, 0, none⟩ = some (.slice (some ⟨g, off, none⟩) xs.length cap) := hbx
      have cx2 : (W.drewN nq).cell? ⟨g, off + x, none⟩ = some (.float .f64 a) := cx
      have cy2 : (W.drewN nq).cell? ⟨g, off + y, none⟩ = some (.float .f64 b) := cy
      have HW2 : Hid (∀ n, ∃ q, (W.drewN nq).drewN n = W.drewN q) := fun n => ⟨_, World.drewN_drewN _ _ _⟩
      clear hbx cx cy
      generalize W.drewN nq = W2 at *
      go_wp2_with fail
      go_quiet (first | (go_at_call_of 17 (Value.float .f64 b); exact HB2.out _ _))
      go_wp2_with fail
      go_ret
      exact ⟨rfl, HW2.out _⟩
  · rw [h1] at hb1
    have HB1 := Lib.hid hb1
    clear hb1 hb2
    go_enter Try.func63, Try.ntmps63
    go_wp2_with fail
    go_quiet (first | (go_at_call_of 17 (Value.float .f64 a); exact HB1.out _ _))
    go_wp2_with fail
    go_ret
    exact ⟨rfl, _, rfl⟩

/-! ### a float's place in the order, as a whole number; less: ahead -/
def kf (a : Nat) : Int := if isn a = true then (top : Int) + 1 else -fk a
theorem bef_kf (a b : Nat) : bef a b = decide (kf a < kf b) := by
  unfold bef kf
  cases ha : isn a
  · have ra := fk_range a ha
    cases hb : isn b
    · have rb := fk_range b hb
      simp
    · simp
      omega
  · cases hb : isn b
    · have rb := fk_range b hb
      simp
      omega
    · simp

def rkf {N : Nat} (xs : List Nat) (x : Fin (N + 1)) : Int := kf (xs.getD x.val 0) * ((N + 1 : Nat) : Int) + (x.val : Int)

theorem lex_lt {A B x y M : Int} (hx : 0 ≤ x) (hxM : x < M) (hy : 0 ≤ y) (hyM : y < M) : A * M + x < B * M + y ↔ A < B ∨ (A = B ∧ x < y) := by
  rcases Int.lt_trichotomy A B with h | h | h
  · have : (A + 1) * M ≤ B * M := Int.mul_le_mul_of_nonneg_right (by omega) (by omega)
    rw [Int.add_mul, Int.one_mul] at this
    constructor
    · intro _; exact .inl h
    · intro _; omega
  · subst h
    constructor
    · intro k; exact .inr ⟨rfl, by omega⟩
    · rintro (k | ⟨_, k⟩) <;> omega
  · have : (B + 1) * M ≤ A * M := Int.mul_le_mul_of_nonneg_right (by omega) (by omega)
    rw [Int.add_mul, Int.one_mul] at this
    constructor
    · intro k; omega
    · rintro (k | ⟨k, _⟩) <;> omega

theorem rkf_lt {N : Nat} (xs : List Nat) (x y : Fin (N + 1)) : rkf xs x < rkf xs y ↔ kf (xs.getD x.val 0) < kf (xs.getD y.val 0) ∨ (kf (xs.getD x.val 0) = kf (xs.getD y.val 0) ∧ x.val < y.val) := by
  have h1 := x.isLt
  have h2 := y.isLt
  unfold rkf
  rw [lex_lt (by omega) (by omega) (by omega) (by omega)]
  omega

theorem cfl_rkf {N : Nat} (xs : List Nat) (x y : Fin (N + 1)) (h : x.val < y.val) : cfl xs y.val x.val < 0 ↔ rkf xs y < rkf xs x := by
  rw [rkf_lt]
  unfold cfl
  rw [bef_kf, bef_kf]
  generalize kf (xs.getD x.val 0) = a
  generalize kf (xs.getD y.val 0) = b
  by_cases h1 : b < a
  · rw [if_pos (decide_eq_true h1)]
    exact ⟨fun _ => .inl h1, fun _ => by omega⟩
  · rw [if_neg (by rw [decide_eq_true_iff]; exact h1)]
    constructor
    · intro k
      split at k <;> omega
    · intro k; omega

theorem cmp_lays {N : Nat} (xs : List Nat) (hN : xs.length = N + 1) (w0 : World) (blk off size bx g goff cap : Nat) (hb1 : blk ≠ bx) (hb2 : blk ≠ g) (lb : bx < w0.heap.size) (lg : g < w0.heap.size)
    (hbx : w0.cell? ⟨bx, 0, none⟩ = some (.slice (some ⟨g, goff, none⟩) xs.length cap)) (hc : ∀ i, i < xs.length → w0.cell? ⟨g, goff + i, none⟩ = some (.float .f64 (xs.getD i 0))) :
    CmpLays1 Try.prog 63 #[.pointer (some ⟨bx, 0, none⟩)] (encP (N := N)) (fun x y => cfl xs x.val y.val) blk off size w0 := by
  intro m os dk _ x y
  have keep : ∀ (k p : Nat) (v : Value), k ≠ blk → k < w0.heap.size → w0.cell? ⟨k, p, none⟩ = some v → (sortWorld encP w0 blk off m dk os).cell? ⟨k, p, none⟩ = some v := fun k p v h1 h2 h3 => by
    unfold sortWorld
    rw [cell?_grow _ _ _ (by rw [size_putRow]; exact h2), cell?_putRow_other encP _ blk off _ _ (.inl h1)]
    exact h3
  have h := cmp_any (sortWorld encP w0 blk off m dk os) bx g goff cap xs (keep bx 0 _ (fun e => hb1 e.symm) lb hbx) (fun i hi => keep g (goff + i) _ (fun e => hb2 e.symm) lg (hc i hi)) x.val y.val (by have := x.isLt; omega) (by have := y.isLt; omega)
  refine h.mono ?_
  rintro e w' ⟨h1, q, h2⟩
  exact ⟨h1, q, #[], by rw [h2, grow_empty]⟩

end Go.Proofs.Ytdcaklonhbiejaa
