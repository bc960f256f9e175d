/-
  The document's answer for layer 1 (package satchelref01): Size, Put.
-/
import Derived.Test.YtkfhljggdcajpaaCut
namespace Go.Proofs.Ytkfhljggdcajpaa
open Go.RowKit

set_option maxHeartbeats 400000 in
theorem rsize_in (n : Int) (w : World) (h0 : 0 ≤ n) (h1 : n ≤ 2147483647) :
    Calls Try.prog 35 #[.int .i64 n] w fun e w' => e = .returned (.int .i64 (sizeN n)) ∧ w = w' := by
  have h0' : ¬ n < 0 := by omega
  have h1' : ¬ 2147483647 < n := by omega
  go_enter Try.func35, Try.ntmps35
  go_wp2
  go_loop [0, 3] (fun a k => ∃ j : Nat, j ≤ 4 ∧ (j = 0 ∨ 0 < n / 128 ^ j) ∧ a = .int .i64 (n / 128 ^ j) ∧ k = .int .i64 ((j + 1 : Nat) : Int)) (fun _ k => (5 - intOf k).toNat)
  case atStart => exact ⟨0, by omega, .inl rfl, by simp, rfl⟩
  case round =>
    obtain ⟨j, hj5, hlo, rfl, rfl⟩ := hrel
    have hd := div_succ n j
    have hn : 0 ≤ n / 128 ^ j := Int.ediv_nonneg h0 (Int.pow_nonneg (by decide))
    have hnm : n / 128 ^ j ≤ 2147483647 := Int.le_trans (Int.ediv_le_self _ h0) h1
    by_cases hge : 128 ≤ n / 128 ^ j
    · have h5 : j < 4 := by
        refine Nat.lt_of_le_of_ne hj5 ?_
        rintro rfl
        simp at hge
        omega
      have HD := Lib.hid hd
      clear hd
      go_wp2
      go_round
      case rel => exact ⟨j + 1, by omega, .inr (by rw [HD.out]; omega), by rw [HD.out], by go_num⟩
      case measure => simp [intOf]; omega
    · have hz : n / 128 ^ (j + 1) ≤ 0 := by rw [hd]; omega
      have HD := Lib.hid hd
      clear hd
      go_wp2
      go_ret
      exact ⟨ret_int (sizeN_of n (j + 1) h0 h1 (by omega) (by omega) hz (by
        rcases hlo with rfl | h
        · exact .inl rfl
        · exact .inr (by simpa using h))), rfl⟩

theorem rsize_any (n : Int) (w : World) :
    Calls Try.prog 35 #[.int .i64 n] w fun e w' => e = .returned (.int .i64 (sizeN n)) ∧ w = w' := by
  by_cases h : n < 0 ∨ 2147483647 < n
  · have hs : sizeN n = 0 := by unfold sizeN; rw [if_pos h]
    rw [hs]
    clear hs
    rcases h with h | h
    · go_enter Try.func35, Try.ntmps35
      go_wp2
      go_ret
      exact ⟨rfl, rfl⟩
    · have h' : ¬ n < 0 := by omega
      go_enter Try.func35, Try.ntmps35
      go_wp2
      go_ret
      exact ⟨rfl, rfl⟩
  · exact rsize_in n w (by omega) (by omega)

theorem put_next (n : Int) (kk : Nat) (h : kk < sizeN n) : (put n).take (sizeN n - kk) = (put n).take (sizeN n - (kk + 1)) ++ [n / 128 ^ kk % 128 + if kk = 0 then 0 else 128] := by
  have h5 : sizeN n ≤ 5 := by unfold sizeN; (repeat' split) <;> omega
  obtain rfl | rfl | rfl | rfl | rfl : kk = 0 ∨ kk = 1 ∨ kk = 2 ∨ kk = 3 ∨ kk = 4 := by omega
  all_goals
    revert h
    unfold put sizeN
    (repeat' split) <;> (intro h; simp at h ⊢) <;> omega

/-- what Put hands back: a row of its own -/
def GotPut (w : World) (bs : List Int) (e : Ending) (w' : World) : Prop :=
  ∃ a cap, e = .returned (.slice a bs.length cap) ∧ Owns w' a cap bs ∧ Below w.heap.size w w' ∧ (∀ k, blk a = some k → w.heap.size ≤ k)

theorem one_src (w : World) (x : Int) : Src (w.alloc (.cells #[.int .u8 x] 5)) (some ⟨w.heap.size, 0, none⟩) [x] := by
  refine .inr (.inr ⟨w.heap.size, 0, rfl, by simp, fun i hi => ?_⟩)
  obtain rfl : i = 0 := by simpa using hi
  rw [cell_of_row _ _ _ _ _ _ (heap_alloc_new w _)]
  rfl

set_option maxRecDepth 100000 in
set_option maxHeartbeats 400000 in
theorem rput_any (n : Int) (w : World) : Calls Try.prog 66 #[.int .i64 n] w fun e w' => GotPut w (put n) e w' := by
  have h5 : sizeN n ≤ 5 := by unfold sizeN; (repeat' split) <;> omega
  have hpl := Lib.hid (put_length n)
  have hpb := Lib.hid (put_bys n)
  go_enter Try.func66, Try.ntmps66
  go_wp2_with fail
  refine (rsize_any _ _).mono ?_
  rintro e w1 ⟨rfl, rfl⟩
  go_wp2_with fail
  go_loopw [3, 4, 5] (fun s3 s4 s5 wr => ∃ (k j : Nat) (a : Option Addr) (cap : Nat), k ≤ sizeN n ∧ j = sizeN n - k ∧ s4 = .int .i64 ((k : Int) - 1) ∧ s3 = .slice a j cap ∧ Hid (Owns wr a cap ((put n).take j) ∧ Below w.heap.size w wr ∧ (∀ k, blk a = some k → w.heap.size ≤ k))) (fun _ s4 _ _ => (intOf s4 + 1).toNat)
  case atStart => exact ⟨sizeN n, 0, none, 0, Nat.le_refl _, by omega, by first | rfl | (congr 1; omega), rfl, Lib.hid ⟨by simpa using Owns.nil w, Below.refl _ _, fun k hk => by cases hk⟩⟩
  case round =>
    obtain ⟨k, j, a, cap, hk, hj, rfl, rfl, HR⟩ := hrel
    by_cases hk0 : k = 0
    · subst hk0
      obtain rfl : j = sizeN n := by omega
      go_wp2_with fail
      obtain ⟨own, hb, hnew⟩ := HR.out
      refine bodyPost_ret (v := .slice a (sizeN n) cap) (by simp [results, Try.results66, go_sem]) rfl ⟨a, cap, by rw [hpl.out], ?_, hb, hnew⟩
      rwa [List.take_of_length_le (by rw [hpl.out]; exact Nat.le_refl _)] at own
    · obtain ⟨kk, rfl⟩ : ∃ kk, k = kk + 1 := ⟨k - 1, by omega⟩
      have hr := put_next n kk (by omega)
      have hr5 : kk < 5 := by omega
      have hn0 : 0 ≤ n ∧ n ≤ 2147483647 := by
        by_cases h : n < 0 ∨ 2147483647 < n
        · have : sizeN n = 0 := by unfold sizeN; rw [if_pos h]
          omega
        · omega
      rw [show sizeN n - (kk + 1) = j by omega] at hr
      have hj1 : sizeN n - kk = j + 1 := by omega
      have hpj : ((put n).take j).length = j := by rw [List.length_take, hpl.out]; omega
      have HR1 := Lib.hid hr
      have HJ := Lib.hid hpj
      clear hr hpj
      have hj5 : j ≤ 5 := by omega
      have HJ0 := Lib.hid hj
      have HK := Lib.hid hk
      have HJ1 := Lib.hid hj1
      clear hj hk hj1 hk0
      obtain rfl | rfl | rfl | rfl | rfl : kk = 0 ∨ kk = 1 ∨ kk = 2 ∨ kk = 3 ∨ kk = 4 := by omega
      · have hx : n / 128 ^ 0 % 128 + (if 0 = 0 then 0 else 128) = n % 128 := by simp
        go_wp2_with (at_builtin; refine wpList_append_bytes _ rfl (.tmp 22) (.tmp 25) rfl a cap ((put n).take j) (by rw [HJ.out]; simp [Act.eval]) (HR.out.1.of_block fun k hk hlt => Below.heap_alloc _ _ _ hlt) _ 1 [n % 128] (by simp [Act.eval]) (one_src _ _) (by rw [HJ.out]; simp only [List.length_singleton]; omega) ?_; intro a1 cap1 w1 own1 grow1 at1)
        have hk := HK.out
        have hj := HJ0.out
        have hsz := HR.out.2.1.size
        refine ⟨⟨0, j + 1, a1, cap1, by omega, HJ1.out.symm, rfl, by rw [Nat.min_eq_left (by rw [hpl.out]; omega)], Lib.hid ⟨?_, ?_, ?_⟩⟩, by simp [intOf]⟩
        · have e := HR1.out
          rw [HJ1.out, hx] at e
          rw [e]
          exact own1
        · exact (HR.out.2.1.alloc hsz _).grown grow1 (by rw [World.size_alloc]; omega) HR.out.2.2
        · exact fun k hk => at1.elim (fun h => HR.out.2.2 k (h ▸ hk)) (fun h => by rw [h, World.size_alloc] at hk; have := Option.some.inj hk; omega)
      · have hx : n / 128 ^ 1 % 128 + (if 1 = 0 then 0 else 128) = n / 128 % 128 + 128 := by simp
        go_wp2_with (at_builtin; refine wpList_append_bytes _ rfl (.tmp 22) (.tmp 25) rfl a cap ((put n).take j) (by rw [HJ.out]; simp [Act.eval]) (HR.out.1.of_block fun k hk hlt => Below.heap_alloc _ _ _ hlt) _ 1 [n / 128 % 128 + 128] (by simp [Act.eval]) (one_src _ _) (by rw [HJ.out]; simp only [List.length_singleton]; omega) ?_; intro a1 cap1 w1 own1 grow1 at1)
        have hk := HK.out
        have hj := HJ0.out
        have hsz := HR.out.2.1.size
        refine ⟨⟨1, j + 1, a1, cap1, by omega, HJ1.out.symm, rfl, by rw [Nat.min_eq_left (by rw [hpl.out]; omega)], Lib.hid ⟨?_, ?_, ?_⟩⟩, by simp [intOf]⟩
        · have e := HR1.out
          rw [HJ1.out, hx] at e
          rw [e]
          exact own1
        · exact (HR.out.2.1.alloc hsz _).grown grow1 (by rw [World.size_alloc]; omega) HR.out.2.2
        · exact fun k hk => at1.elim (fun h => HR.out.2.2 k (h ▸ hk)) (fun h => by rw [h, World.size_alloc] at hk; have := Option.some.inj hk; omega)
      · have hx : n / 128 ^ 2 % 128 + (if 2 = 0 then 0 else 128) = n / 16384 % 128 + 128 := by simp
        go_wp2_with (at_builtin; refine wpList_append_bytes _ rfl (.tmp 22) (.tmp 25) rfl a cap ((put n).take j) (by rw [HJ.out]; simp [Act.eval]) (HR.out.1.of_block fun k hk hlt => Below.heap_alloc _ _ _ hlt) _ 1 [n / 16384 % 128 + 128] (by simp [Act.eval]) (one_src _ _) (by rw [HJ.out]; simp only [List.length_singleton]; omega) ?_; intro a1 cap1 w1 own1 grow1 at1)
        have hk := HK.out
        have hj := HJ0.out
        have hsz := HR.out.2.1.size
        refine ⟨⟨2, j + 1, a1, cap1, by omega, HJ1.out.symm, rfl, by rw [Nat.min_eq_left (by rw [hpl.out]; omega)], Lib.hid ⟨?_, ?_, ?_⟩⟩, by simp [intOf]⟩
        · have e := HR1.out
          rw [HJ1.out, hx] at e
          rw [e]
          exact own1
        · exact (HR.out.2.1.alloc hsz _).grown grow1 (by rw [World.size_alloc]; omega) HR.out.2.2
        · exact fun k hk => at1.elim (fun h => HR.out.2.2 k (h ▸ hk)) (fun h => by rw [h, World.size_alloc] at hk; have := Option.some.inj hk; omega)
      · have hx : n / 128 ^ 3 % 128 + (if 3 = 0 then 0 else 128) = n / 2097152 % 128 + 128 := by simp
        go_wp2_with (at_builtin; refine wpList_append_bytes _ rfl (.tmp 22) (.tmp 25) rfl a cap ((put n).take j) (by rw [HJ.out]; simp [Act.eval]) (HR.out.1.of_block fun k hk hlt => Below.heap_alloc _ _ _ hlt) _ 1 [n / 2097152 % 128 + 128] (by simp [Act.eval]) (one_src _ _) (by rw [HJ.out]; simp only [List.length_singleton]; omega) ?_; intro a1 cap1 w1 own1 grow1 at1)
        have hk := HK.out
        have hj := HJ0.out
        have hsz := HR.out.2.1.size
        refine ⟨⟨3, j + 1, a1, cap1, by omega, HJ1.out.symm, rfl, by rw [Nat.min_eq_left (by rw [hpl.out]; omega)], Lib.hid ⟨?_, ?_, ?_⟩⟩, by simp [intOf]⟩
        · have e := HR1.out
          rw [HJ1.out, hx] at e
          rw [e]
          exact own1
        · exact (HR.out.2.1.alloc hsz _).grown grow1 (by rw [World.size_alloc]; omega) HR.out.2.2
        · exact fun k hk => at1.elim (fun h => HR.out.2.2 k (h ▸ hk)) (fun h => by rw [h, World.size_alloc] at hk; have := Option.some.inj hk; omega)
      · have hx : n / 128 ^ 4 % 128 + (if 4 = 0 then 0 else 128) = n / 268435456 % 128 + 128 := by simp
        go_wp2_with (at_builtin; refine wpList_append_bytes _ rfl (.tmp 22) (.tmp 25) rfl a cap ((put n).take j) (by rw [HJ.out]; simp [Act.eval]) (HR.out.1.of_block fun k hk hlt => Below.heap_alloc _ _ _ hlt) _ 1 [n / 268435456 % 128 + 128] (by simp [Act.eval]) (one_src _ _) (by rw [HJ.out]; simp only [List.length_singleton]; omega) ?_; intro a1 cap1 w1 own1 grow1 at1)
        have hk := HK.out
        have hj := HJ0.out
        have hsz := HR.out.2.1.size
        refine ⟨⟨4, j + 1, a1, cap1, by omega, HJ1.out.symm, rfl, by rw [Nat.min_eq_left (by rw [hpl.out]; omega)], Lib.hid ⟨?_, ?_, ?_⟩⟩, by simp [intOf]⟩
        · have e := HR1.out
          rw [HJ1.out, hx] at e
          rw [e]
          exact own1
        · exact (HR.out.2.1.alloc hsz _).grown grow1 (by rw [World.size_alloc]; omega) HR.out.2.2
        · exact fun k hk => at1.elim (fun h => HR.out.2.2 k (h ▸ hk)) (fun h => by rw [h, World.size_alloc] at hk; have := Option.some.inj hk; omega)

end Go.Proofs.Ytkfhljggdcajpaa
