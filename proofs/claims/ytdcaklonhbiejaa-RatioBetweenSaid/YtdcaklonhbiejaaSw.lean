/-
  The stable sort of package slices at places (whole numbers below N + 1): exchanging two ranges, and turning a range.
-/
import Derived.Test.YtdcaklonhbiejaaRows
import Derived.Test.YtdcaklonhbiejaaStb
import Derived.Shelf.SlSortCmp.Insertion1
import Derived.Sort.WalkB2
import Derived.Sort.WalkB12
import Derived.Deep.LoopGhost
import Derived.Lib.Hide
namespace Go.Proofs.Ytdcaklonhbiejaa
open Go.Shelf Go.RowKit Go.Lib Go.Sort

/-- places, as the row holds them -/
def encP {N : Nat} (x : Fin (N + 1)) : Value := .int .i64 (x.val : Int)
theorem one_encP {N : Nat} : OneCell (encP (N := N)) := fun _ => rfl

section
variable {N : Nat}

set_option maxHeartbeats 4000000 in
set_option maxRecDepth 1000000 in
theorem swapRange_s (g : Nat) (cb : Array Value) (blk off cap a b n : Nat) (d0 d : Array (Fin (N + 1))) (w0 w : World)
    (R : Row1 encP w0 blk off d0) (hs : d0.size = d.size) (S : SW encP w0 blk off d w) (ha : a + n ≤ d.size) (hb : b + n ≤ d.size) (hsz : d.size < 4611686018427387904) :
    Calls Try.prog 92 #[.slice (some ⟨blk, off, none⟩) d.size cap, .int .i64 a, .int .i64 b, .int .i64 n, .func (.func g) #[] cb] w fun e w' => e = .returned (.tuple #[]) ∧ SW encP w0 blk off (swr d a b n) w' := by
  have hcl0 := R.hO.cells
  simp only [Value.cells] at hcl0
  have hst := R.hO.store Try.prog
  have S0 : Aside (SW encP w0 blk off d w) := S
  clear S
  go_enter Try.func92, Try.ntmps92
  go_wp2
  go_loopg [10] n (fun kx s10 wr => ∃ i : Nat, s10 = .int .i64 i ∧ i ≤ n ∧ n - i ≤ kx ∧ Aside (SW encP w0 blk off (swr d a b i) wr))
  case atStart => exact ⟨0, rfl, by omega, by omega, S0⟩
  case round =>
    clear S0
    obtain ⟨i, rfl, hin, hkx, S1⟩ := hrel
    by_cases hlt : i < n
    · have hltz : (i : Int) < (n : Int) := by omega
      have hds := size_swr d a b i
      have hst : swr d a b (i + 1) = swp (swr d a b i) (a + i) (b + i) := rfl
      generalize swr d a b i = dk at *
      obtain ⟨iN, hiN⟩ : ∃ q, q = a + i := ⟨_, rfl⟩
      obtain ⟨jN, hjN⟩ : ∃ q, q = b + i := ⟨_, rfl⟩
      have ra : IntKind.i64.wrap ((a : Int) + (i : Int)) = (iN : Int) := by rw [IntKind.wrap_i64]; omega
      have rc : IntKind.i64.wrap ((b : Int) + (i : Int)) = (jN : Int) := by rw [IntKind.wrap_i64]; omega
      have ba : (iN : Int) < (d.size : Int) := by omega
      have bc : (jN : Int) < (d.size : Int) := by omega
      obtain ⟨x, hx⟩ : ∃ x, x = dk[a + i]! := ⟨_, rfl⟩
      obtain ⟨y, hy⟩ : ∃ x, x = dk[b + i]! := ⟨_, rfl⟩
      have S2 : Aside (SW encP w0 blk off (swp dk (a + i) (b + i)) ((wr.setCell ⟨blk, off + iN, none⟩ (encP y)).setCell ⟨blk, off + jN, none⟩ (encP x)).drew) := by rw [hiN, hjN, hx, hy]; exact S1.out.swapped R (a + i) (b + i) (by omega) (by omega)
      have ca := S1.out.c1 R (by omega) (a + i) (by omega)
      have cb' := S1.out.c1 R (by omega) (b + i) (by omega)
      have fa := S1.out.f1 R (by omega) (a + i) (by omega)
      have fb := S1.out.f1 R (by omega) (b + i) (by omega)
      obtain ⟨u, cc⟩ := S1.out.c2 R (by omega) (a + i) (b + i) (by omega) (by omega) (encP y)
      rw [← hjN, ← hiN] at cc
      rw [← hx, ← hiN] at ca
      rw [← hy, ← hjN] at cb'
      rw [← hiN] at fa
      rw [← hjN] at fb
      have HST := Lib.hid hst
      clear S1 hx hy hiN hjN hst
      go_wp2_with fail
      go_big_region
      clear ca cb' cc fa fb
      generalize ((wr.setCell ⟨blk, off + iN, none⟩ (encP y)).setCell ⟨blk, off + jN, none⟩ (encP x)).drew = w2 at S2 ⊢
      clear ra rc
      go_wp2
      go_roundg (n - (i + 1))
      case measure => omega
      case rel => exact ⟨i + 1, by go_num, by omega, by omega, by rw [HST.out]; exact S2⟩
    · obtain rfl : i = n := by omega
      go_wp2
      go_end0
      exact ⟨rfl, S1.out⟩

set_option maxHeartbeats 4000000 in
set_option maxRecDepth 1000000 in
/-- a range turned: what lies in [a, m) goes behind what lies in [m, b) -/
theorem rotate_s (g : Nat) (cb : Array Value) (blk off cap a m b : Nat) (d0 d : Array (Fin (N + 1))) (w0 w : World)
    (R : Row1 encP w0 blk off d0) (hs : d0.size = d.size) (S : SW encP w0 blk off d w) (ham : a < m) (hmb : m < b) (hb : b ≤ d.size) (hsz : d.size < 4611686018427387904) :
    Calls Try.prog 90 #[.slice (some ⟨blk, off, none⟩) d.size cap, .int .i64 a, .int .i64 m, .int .i64 b, .func (.func g) #[] cb] w fun e w' => e = .returned (.tuple #[]) ∧
      ∃ d', SW encP w0 blk off d' w' ∧ PermIn a b d d' ∧ ∀ p, d'[p]! = rotAt d m (m - a) (b - m) p := by
  have S0 : Aside (SW encP w0 blk off d w) := S
  clear S
  have q1 : (m : Int) - (a : Int) = ((m - a : Nat) : Int) := by omega
  have q2 : (b : Int) - (m : Int) = ((b - m : Nat) : Int) := by omega
  have r1 : IntKind.i64.wrap ((m - a : Nat) : Int) = ((m - a : Nat) : Int) := by rw [IntKind.wrap_i64]; omega
  have r2 : IntKind.i64.wrap ((b - m : Nat) : Int) = ((b - m : Nat) : Int) := by rw [IntKind.wrap_i64]; omega
  go_enter Try.func90, Try.ntmps90
  go_wp2
  go_loopg [10, 11] (b - a) (fun kx s10 s11 wr => ∃ (i j : Nat) (dk : Array (Fin (N + 1))), s10 = .int .i64 i ∧ s11 = .int .i64 j ∧ 0 < i ∧ i ≤ m - a ∧ 0 < j ∧ j ≤ b - m ∧ i + j ≤ kx ∧ dk.size = d.size ∧ Aside (SW encP w0 blk off dk wr) ∧
    Hid (PermIn a b d dk ∧ ∀ p, rotAt dk m i j p = rotAt d m (m - a) (b - m) p))
  case atStart => exact ⟨m - a, b - m, d, by first | rfl | go_num | simp, by first | rfl | go_num | simp, by omega, by omega, by omega, by omega, by omega, rfl, S0, ⟨permIn_refl d a b, fun _ => rfl⟩⟩
  case round =>
    clear S0 q1 q2 r1 r2
    obtain ⟨i, j, dk, rfl, rfl, hi0, hi, hj0, hj, hkx, hds, S1, HI⟩ := hrel
    by_cases hij : i = j
    · subst hij
      have hc := swapRange_s g cb blk off cap (m - i) m i d0 dk w0 wr R (by omega) S1.out (by omega) (by omega) (by omega)
      rw [hds] at hc
      have e1 : ((m - i : Nat) : Int) = (m : Int) - (i : Int) := by omega
      rw [e1] at hc
      have HC := Lib.hid hc
      clear hc e1
      have w1 : IntKind.i64.wrap ((m : Int) - (i : Int)) = (m : Int) - (i : Int) := by rw [IntKind.wrap_i64]; omega
      go_wp2_with fail
      refine HC.out.mono ?_
      rintro e w2 ⟨rfl, S2⟩
      go_wp2_with fail
      go_end0
      refine ⟨rfl, _, S2, ?_, fun p => ?_⟩
      · exact permIn_trans _ _ _ a b HI.out.1 (perm_swr dk a b (m - i) m i (by omega) (by omega) (by omega) (by omega) (by omega))
      · rw [rot_eq dk m i p (by omega) (by omega)]; exact HI.out.2 p
    · by_cases hgt : j < i
      · have hc := swapRange_s g cb blk off cap (m - i) m j d0 dk w0 wr R (by omega) S1.out (by omega) (by omega) (by omega)
        rw [hds] at hc
        have e1 : ((m - i : Nat) : Int) = (m : Int) - (i : Int) := by omega
        rw [e1] at hc
        have HC := Lib.hid hc
        clear hc e1
        have w1 : IntKind.i64.wrap ((m : Int) - (i : Int)) = (m : Int) - (i : Int) := by rw [IntKind.wrap_i64]; omega
        have w2 : IntKind.i64.wrap ((i : Int) - (j : Int)) = (i : Int) - (j : Int) := by rw [IntKind.wrap_i64]; omega
        have ne : ¬ (i : Int) = (j : Int) := by omega
        have gt : (j : Int) < (i : Int) := by omega
        go_wp2_with fail
        refine HC.out.mono ?_
        rintro e w3 ⟨rfl, S2⟩
        have S3 := Lib.hid S2
        clear S2 S1
        go_wp2
        go_roundg (i - j + j)
        case measure => omega
        case rel =>
          refine ⟨i - j, j, swr dk (m - i) m j, by first | go_num | (congr 1; omega), rfl, by omega, by omega, by omega, by omega, by omega, by rw [size_swr]; exact hds, S3, ⟨?_, fun p => ?_⟩⟩
          · exact permIn_trans _ _ _ a b HI.out.1 (perm_swr dk a b (m - i) m j (by omega) (by omega) (by omega) (by omega) (by omega))
          · rw [rot_gt dk m i j p hgt (by omega) (by omega)]; exact HI.out.2 p
      · have hc := swapRange_s g cb blk off cap (m - i) (m + j - i) i d0 dk w0 wr R (by omega) S1.out (by omega) (by omega) (by omega)
        rw [hds] at hc
        have e1 : ((m - i : Nat) : Int) = (m : Int) - (i : Int) := by omega
        have e2 : ((m + j - i : Nat) : Int) = (m : Int) + (j : Int) - (i : Int) := by omega
        rw [e1, e2] at hc
        have HC := Lib.hid hc
        clear hc e1 e2
        have w1 : IntKind.i64.wrap ((m : Int) - (i : Int)) = (m : Int) - (i : Int) := by rw [IntKind.wrap_i64]; omega
        have w2 : IntKind.i64.wrap ((j : Int) - (i : Int)) = (j : Int) - (i : Int) := by rw [IntKind.wrap_i64]; omega
        have w3 : IntKind.i64.wrap ((m : Int) + (j : Int)) = (m : Int) + (j : Int) := by rw [IntKind.wrap_i64]; omega
        have w4 : IntKind.i64.wrap ((m : Int) + (j : Int) - (i : Int)) = (m : Int) + (j : Int) - (i : Int) := by rw [IntKind.wrap_i64]; omega
        have ne : ¬ (i : Int) = (j : Int) := by omega
        have gt : ¬ (j : Int) < (i : Int) := by omega
        go_wp2_with fail
        refine HC.out.mono ?_
        rintro e w5 ⟨rfl, S2⟩
        have S3 := Lib.hid S2
        clear S2 S1
        go_wp2
        go_roundg (i + (j - i))
        case measure => omega
        case rel =>
          refine ⟨i, j - i, swr dk (m - i) (m + j - i) i, rfl, by first | go_num | (congr 1; omega), by omega, by omega, by omega, by omega, by omega, by rw [size_swr]; exact hds, S3, ⟨?_, fun p => ?_⟩⟩
          · exact permIn_trans _ _ _ a b HI.out.1 (perm_swr dk a b (m - i) (m + j - i) i (by omega) (by omega) (by omega) (by omega) (by omega))
          · rw [rot_lt dk m i j p (by omega) (by omega) (by omega)]; exact HI.out.2 p

end
end Go.Proofs.Ytdcaklonhbiejaa
