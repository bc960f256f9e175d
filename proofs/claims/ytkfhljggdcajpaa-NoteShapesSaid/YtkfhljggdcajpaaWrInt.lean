/-
  (*Writer).Int of package field: the walks, one for each number of bytes (made by gen/wr.py).
-/
import Derived.Test.YtkfhljggdcajpaaWr
namespace Go.Proofs.Ytkfhljggdcajpaa
open Go.RowKit

theorem Try.info5 : (Try.prog.info? 5).map (fun i => (i.zero, i.size, i.bytes)) = some (some (.int .u8 0), 1, 1) := by kernel_rfl

/-- behind the append: what was struck -/
def Wrote (w : World) (b : Nat) (bad : Bool) (a : Option Addr) (bs : List Int) (e : Ending) (w' : World) : Prop :=
  ∃ a' cap', e = .returned (.tuple #[]) ∧ WAt w' b bad a' cap' bs ∧ Moved b (blk a) (blk a') w w'


section
variable {w : World} {b : Nat} {bad : Bool} {a : Option Addr} {cap : Nat} {bs : List Int}
theorem WAt.lt (hw : WAt w b bad a cap bs) : b < w.heap.size := by
  rcases Nat.lt_or_ge b w.heap.size with k | k
  · exact k
  · have := hw.str; rw [Array.getElem?_eq_none k] at this; cases this

/-- the world at the append -/
def atAppend (w : World) (b : Nat) (v : Value) (c : Array Value) : World := ((w.setCell ⟨b, 1, none⟩ v).alloc (.cells c 89)).drew

theorem atAppend_block (w : World) (b : Nat) (v : Value) (c : Array Value) (k : Nat) (hk : k < w.heap.size) (hb : k ≠ b) : (atAppend w b v c).heap[k]? = w.heap[k]? := by
  show ((w.setCell ⟨b, 1, none⟩ v).alloc (.cells c 89)).heap[k]? = _
  rw [Below.heap_alloc _ _ _ (by simpa [World.setCell] using hk), heap_setCell_other _ _ _ _ hb]
theorem atAppend_size (w : World) (b : Nat) (v : Value) (c : Array Value) : (atAppend w b v c).heap.size = w.heap.size + 1 := by
  simp [atAppend, World.setCell, World.drew, World.alloc]

theorem WAt.own_there (hw : WAt w b bad a cap bs) (v : Value) (c : Array Value) : Owns (atAppend w b v c) a cap bs :=
  hw.own.of_block fun k hk hlt => atAppend_block w b v c k hlt (fun e => hw.apart (by rw [hk, e]))
theorem WAt.str_there (hw : WAt w b bad a cap bs) (v : Value) (c : Array Value) : (atAppend w b v c).heap[b]? = some (.cells #[.bool true, v, .slice a bs.length cap] 60 (0, 0)) := by
  show ((w.setCell ⟨b, 1, none⟩ v).alloc (.cells c 89)).heap[b]? = _
  rw [Below.heap_alloc _ _ _ (by simpa [World.setCell] using hw.lt), heap_setCell_same _ _ _ _ _ _ hw.str]
  rfl
theorem news_there (w : World) (b : Nat) (v : Value) (c : Array Value) (j0 : Nat) (news : List Value) (h : ∀ j u, news[j]? = some u → c[j0 + j]? = some u) :
    ∀ j u, news[j]? = some u → (atAppend w b v c).cell? ((⟨w.heap.size, j0, none⟩ : Addr).add j) = some u := fun j u hu => by
  have hadd : (⟨w.heap.size, j0, none⟩ : Addr).add j = ⟨w.heap.size, j0 + j, none⟩ := by unfold Addr.add; split <;> simp_all
  have hb : (atAppend w b v c).heap[w.heap.size]? = some (.cells c 89 (0, 0)) := by
    have h0 := heap_alloc_new (w.setCell ⟨b, 1, none⟩ v) (.cells c 89)
    have h1 : (w.setCell ⟨b, 1, none⟩ v).heap.size = w.heap.size := by simp [World.setCell]
    rw [h1] at h0
    exact h0
  rw [hadd, cell_of_row _ _ _ _ _ _ hb, h j u hu]

theorem str_behind (hw : WAt w b bad a cap bs) {v : Value} {c : Array Value} {w1 : World} {n k : Nat} (hg : (atAppend w b v c).grownBy w1 (Value.slice a n k).ownBlock) : w1.heap[b]? = some (.cells #[.bool true, v, .slice a bs.length cap] 60 (0, 0)) :=
  (hg.block b (by rw [atAppend_size]; have := hw.lt; omega) (fun e => hw.apart (by rw [ownBlock_eq] at e; exact e.symm))).trans (hw.str_there v c)

theorem wrote_of (hw : WAt w b bad a cap bs) {bad' : Bool} {c : Array Value} {w1 : World} {k m : Nat} {zs : List Int} {a' : Option Addr} {cap' : Nat} (hz : Bys zs) (hm : zs.length = m)
    (hown : w1.ownsRow 0 5 1 (.slice a' (bs.length + m) cap') (bs.length + m) (bvals bs ++ bvals zs)) (hg : (atAppend w b (.bool bad') c).grownBy w1 (Value.slice a bs.length k).ownBlock)
    (hat : blk a' = (Value.slice a bs.length k).ownBlock ∨ blk a' = some (atAppend w b (.bool bad') c).heap.size) : Wrote w b bad' a (bs ++ zs) (.returned (.tuple #[])) (w1.setCell ⟨b, 2, none⟩ (.slice a' (bs.length + m) cap')) := by
  subst hm
  rw [ownBlock_eq] at hat
  have hlt := hw.lt
  have hap : blk a' ≠ some b := by
    rcases hat with h | h
    · rw [h]; exact hw.apart
    · rw [h, atAppend_size]; intro e; cases e; omega
  have hown' : Owns w1 a' cap' (bs ++ zs) := by
    unfold Owns
    rw [List.length_append, bvals_append]
    exact hown
  refine ⟨a', cap', rfl, ⟨?_, hown'.of_block fun k hk _ => heap_setCell_other _ _ _ _ (fun e => hap (by rw [hk, e])), hap, hw.bys.append hz⟩, ?_⟩
  · rw [heap_setCell_same _ _ _ _ _ _ (str_behind hw hg), List.length_append]
    rfl
  · refine ⟨hg.os, hg.tape, hg.output, ?_, fun i hi hb hr => ?_, ?_⟩
    · have := hg.size
      rw [atAppend_size] at this
      simp [World.setCell]; omega
    · rw [heap_setCell_other _ _ _ _ hb, hg.block i (by rw [atAppend_size]; omega) (by rw [ownBlock_eq]; exact hr), atAppend_block _ _ _ _ _ hi hb]
    · rcases hat with h | h
      · exact .inl h
      · exact .inr ⟨_, h, by rw [atAppend_size]; omega⟩
end

theorem put_b0 : Bys [] := Bys.nil
set_option maxRecDepth 100000 in
set_option maxHeartbeats 400000 in
theorem wint0 (n : Int) (w : World) (b : Nat) (bad : Bool) (a : Option Addr) (cap : Nat) (bs : List Int) (h0 : n < 0 ∨ 2147483647 < n)
   (hw : WAt w b bad a cap bs) (hlen : bs.length + 5 ≤ 140737488355328) :
    Calls Try.prog 23 #[.pointer (some ⟨b, 0, none⟩), .int .i64 n] w fun e w' => Wrote w b true a (bs ++ []) e w' := by
  have hk : (sizeN n : Int) = 0 := by unfold sizeN; (repeat' split) <;> omega
  have hnot : ∀ (x : Bool) (w : World), (Op.unary .not (.bool x)).run Try.prog w = .ok (.bool (!x)) w := fun _ _ => rfl
  have hlt := hw.lt
  have c0 : w.cell? ⟨b, 0, none⟩ = some (.bool true) := by rw [cell_of_row w b 0 _ _ _ hw.str]; rfl
  have c1 : w.cell? ⟨b, 1, none⟩ = some (.bool bad) := by rw [cell_of_row w b 1 _ _ _ hw.str]; rfl
  have c2 : w.cell? ⟨b, 2, none⟩ = some (.slice a bs.length cap) := by rw [cell_of_row w b 2 _ _ _ hw.str]; rfl
  have f1 : w.frozen? ⟨b, 1, none⟩ = false := frozen_of_row w b 1 _ _ hw.str
  have f2 : w.frozen? ⟨b, 2, none⟩ = false := frozen_of_row w b 2 _ _ hw.str
  obtain ⟨i5, hi5, hz5, hs5, hb5⟩ := info_parts Try.info5
  have HK := Lib.hid hk
  have Hi5 := Lib.hid hi5
  have Hz5 := Lib.hid hz5
  have Hs5 := Lib.hid hs5
  have Hb5 := Lib.hid hb5
  clear hk hi5 hz5 hs5 hb5 h0
  have hw3 : IntKind.i64.wrap 5 = 5 := by decide
  cases bad
  all_goals
    go_enter Try.func23, Try.ntmps23
    go_wp2_with (go_at_call 18; refine (size_lit n 0 _ HK.out).mono ?_; rintro e w' ⟨rfl, rfl⟩)
    refine wp_loop_rounds 1 ?_
    rw [rounds_succ]
    go_wp2
    go_region_law (((refine step_append_any _ rfl (.tmp 54) (.tmp 57) 23 rfl 0 5 i5 (.int .u8 0) 1 1 Try.underlying23 Hi5.out Hz5.out Hs5.out Hb5.out rfl (by decide) (.slice a bs.length cap) bs.length (bvals bs) (by simp [Act.eval]) (hw.own_there _ _) ⟨w.heap.size, 0, none⟩ 0 0 (bvals []) (by simp [Act.eval]) rfl (news_there w b _ _ 0 _ (fun j u hu => by simp [bvals] at hu)) (bvals_one _) (by unfold maxLen; omega) (by omega) (Nat.zero_le _) ?_); intro a1 cap1 w1 own1 grow1 at1; have str1 := str_behind hw grow1; have d2 : w1.cell? ⟨b, 2, none⟩ = some (.slice a bs.length cap) := (by rw [cell_of_row w1 b 2 _ _ _ str1]; rfl); have e2 : w1.frozen? ⟨b, 2, none⟩ = false := frozen_of_row w1 b 2 _ _ str1; have Str1 := Lib.hid str1; clear str1))
    go_end0
    exact wrote_of hw put_b0 rfl own1 grow1 at1

theorem put_b1 (n : Int) : Bys [n % 128] := by
  intro x hx; simp at hx; omega
set_option maxRecDepth 100000 in
set_option maxHeartbeats 400000 in
theorem wint1 (n : Int) (w : World) (b : Nat) (bad : Bool) (a : Option Addr) (cap : Nat) (bs : List Int) (h0 : 0 ≤ n) (h1 : n < 128)
   (hw : WAt w b bad a cap bs) (hlen : bs.length + 5 ≤ 140737488355328) :
    Calls Try.prog 23 #[.pointer (some ⟨b, 0, none⟩), .int .i64 n] w fun e w' => Wrote w b bad a (bs ++ [n % 128]) e w' := by
  have hk : (sizeN n : Int) = 1 := by unfold sizeN; (repeat' split) <;> omega
  have hnot : ∀ (x : Bool) (w : World), (Op.unary .not (.bool x)).run Try.prog w = .ok (.bool (!x)) w := fun _ _ => rfl
  have hlt := hw.lt
  have c0 : w.cell? ⟨b, 0, none⟩ = some (.bool true) := by rw [cell_of_row w b 0 _ _ _ hw.str]; rfl
  have c1 : w.cell? ⟨b, 1, none⟩ = some (.bool bad) := by rw [cell_of_row w b 1 _ _ _ hw.str]; rfl
  have c2 : w.cell? ⟨b, 2, none⟩ = some (.slice a bs.length cap) := by rw [cell_of_row w b 2 _ _ _ hw.str]; rfl
  have f1 : w.frozen? ⟨b, 1, none⟩ = false := frozen_of_row w b 1 _ _ hw.str
  have f2 : w.frozen? ⟨b, 2, none⟩ = false := frozen_of_row w b 2 _ _ hw.str
  have p0 := part_eq (n) (by omega) (by omega)
  have l0 := last_eq n
  obtain ⟨i5, hi5, hz5, hs5, hb5⟩ := info_parts Try.info5
  have HK := Lib.hid hk
  have Hi5 := Lib.hid hi5
  have Hz5 := Lib.hid hz5
  have Hs5 := Lib.hid hs5
  have Hb5 := Lib.hid hb5
  clear hk hi5 hz5 hs5 hb5
  have hw3 : IntKind.i64.wrap 4 = 4 := by decide
  cases bad
  all_goals
    go_enter Try.func23, Try.ntmps23
    go_wp2_with (go_at_call 18; refine (size_lit n 1 _ HK.out).mono ?_; rintro e w' ⟨rfl, rfl⟩)
    refine wp_loop_rounds 2 ?_
    rw [rounds_succ]
    go_wp2
    rw [rounds_succ]
    go_wp2
    go_region_law (((refine step_append_any _ rfl (.tmp 54) (.tmp 57) 23 rfl 0 5 i5 (.int .u8 0) 1 1 Try.underlying23 Hi5.out Hz5.out Hs5.out Hb5.out rfl (by decide) (.slice a bs.length cap) bs.length (bvals bs) (by simp [Act.eval]) (hw.own_there _ _) ⟨w.heap.size, 4, none⟩ 1 1 (bvals [n % 128]) (by simp [Act.eval]) rfl (news_there w b _ _ 4 _ (fun j u hu => by match j, hu with | 0, hu => exact hu | j + 1, hu => simp [bvals] at hu)) (bvals_one _) (by unfold maxLen; omega) (by omega) (Nat.zero_le _) ?_); intro a1 cap1 w1 own1 grow1 at1; have str1 := str_behind hw grow1; have d2 : w1.cell? ⟨b, 2, none⟩ = some (.slice a bs.length cap) := (by rw [cell_of_row w1 b 2 _ _ _ str1]; rfl); have e2 : w1.frozen? ⟨b, 2, none⟩ = false := frozen_of_row w1 b 2 _ _ str1; have Str1 := Lib.hid str1; clear str1))
    go_end0
    exact wrote_of hw (put_b1 n) rfl own1 grow1 at1

theorem put_b2 (n : Int) : Bys [n / 128 % 128 + 128, n % 128] := by
  intro x hx; simp at hx; omega
set_option maxRecDepth 100000 in
set_option maxHeartbeats 400000 in
theorem wint2 (n : Int) (w : World) (b : Nat) (bad : Bool) (a : Option Addr) (cap : Nat) (bs : List Int) (h0 : 128 ≤ n) (h1 : n < 16384)
   (hw : WAt w b bad a cap bs) (hlen : bs.length + 5 ≤ 140737488355328) :
    Calls Try.prog 23 #[.pointer (some ⟨b, 0, none⟩), .int .i64 n] w fun e w' => Wrote w b bad a (bs ++ [n / 128 % 128 + 128, n % 128]) e w' := by
  have hk : (sizeN n : Int) = 2 := by unfold sizeN; (repeat' split) <;> omega
  have hnot : ∀ (x : Bool) (w : World), (Op.unary .not (.bool x)).run Try.prog w = .ok (.bool (!x)) w := fun _ _ => rfl
  have hlt := hw.lt
  have c0 : w.cell? ⟨b, 0, none⟩ = some (.bool true) := by rw [cell_of_row w b 0 _ _ _ hw.str]; rfl
  have c1 : w.cell? ⟨b, 1, none⟩ = some (.bool bad) := by rw [cell_of_row w b 1 _ _ _ hw.str]; rfl
  have c2 : w.cell? ⟨b, 2, none⟩ = some (.slice a bs.length cap) := by rw [cell_of_row w b 2 _ _ _ hw.str]; rfl
  have f1 : w.frozen? ⟨b, 1, none⟩ = false := frozen_of_row w b 1 _ _ hw.str
  have f2 : w.frozen? ⟨b, 2, none⟩ = false := frozen_of_row w b 2 _ _ hw.str
  have p0 := part_eq (n) (by omega) (by omega)
  have p1 := part_eq (n / 128) (by omega) (by omega)
  have l0 := last_eq n
  obtain ⟨i5, hi5, hz5, hs5, hb5⟩ := info_parts Try.info5
  have HK := Lib.hid hk
  have Hi5 := Lib.hid hi5
  have Hz5 := Lib.hid hz5
  have Hs5 := Lib.hid hs5
  have Hb5 := Lib.hid hb5
  clear hk hi5 hz5 hs5 hb5
  have hw3 : IntKind.i64.wrap 3 = 3 := by decide
  cases bad
  all_goals
    go_enter Try.func23, Try.ntmps23
    go_wp2_with (go_at_call 18; refine (size_lit n 2 _ HK.out).mono ?_; rintro e w' ⟨rfl, rfl⟩)
    refine wp_loop_rounds 3 ?_
    rw [rounds_succ]
    go_wp2
    rw [rounds_succ]
    go_wp2
    rw [rounds_succ]
    go_wp2
    go_region_law (((refine step_append_any _ rfl (.tmp 54) (.tmp 57) 23 rfl 0 5 i5 (.int .u8 0) 1 1 Try.underlying23 Hi5.out Hz5.out Hs5.out Hb5.out rfl (by decide) (.slice a bs.length cap) bs.length (bvals bs) (by simp [Act.eval]) (hw.own_there _ _) ⟨w.heap.size, 3, none⟩ 2 2 (bvals [n / 128 % 128 + 128, n % 128]) (by simp [Act.eval]) rfl (news_there w b _ _ 3 _ (fun j u hu => by match j, hu with | 0, hu => exact hu | 1, hu => exact hu | j + 2, hu => simp [bvals] at hu)) (bvals_one _) (by unfold maxLen; omega) (by omega) (Nat.zero_le _) ?_); intro a1 cap1 w1 own1 grow1 at1; have str1 := str_behind hw grow1; have d2 : w1.cell? ⟨b, 2, none⟩ = some (.slice a bs.length cap) := (by rw [cell_of_row w1 b 2 _ _ _ str1]; rfl); have e2 : w1.frozen? ⟨b, 2, none⟩ = false := frozen_of_row w1 b 2 _ _ str1; have Str1 := Lib.hid str1; clear str1))
    go_end0
    exact wrote_of hw (put_b2 n) rfl own1 grow1 at1

theorem put_b3 (n : Int) : Bys [n / 16384 % 128 + 128, n / 128 % 128 + 128, n % 128] := by
  intro x hx; simp at hx; omega
set_option maxRecDepth 100000 in
set_option maxHeartbeats 400000 in
theorem wint3 (n : Int) (w : World) (b : Nat) (bad : Bool) (a : Option Addr) (cap : Nat) (bs : List Int) (h0 : 16384 ≤ n) (h1 : n < 2097152)
   (hw : WAt w b bad a cap bs) (hlen : bs.length + 5 ≤ 140737488355328) :
    Calls Try.prog 23 #[.pointer (some ⟨b, 0, none⟩), .int .i64 n] w fun e w' => Wrote w b bad a (bs ++ [n / 16384 % 128 + 128, n / 128 % 128 + 128, n % 128]) e w' := by
  have hk : (sizeN n : Int) = 3 := by unfold sizeN; (repeat' split) <;> omega
  have hnot : ∀ (x : Bool) (w : World), (Op.unary .not (.bool x)).run Try.prog w = .ok (.bool (!x)) w := fun _ _ => rfl
  have hlt := hw.lt
  have c0 : w.cell? ⟨b, 0, none⟩ = some (.bool true) := by rw [cell_of_row w b 0 _ _ _ hw.str]; rfl
  have c1 : w.cell? ⟨b, 1, none⟩ = some (.bool bad) := by rw [cell_of_row w b 1 _ _ _ hw.str]; rfl
  have c2 : w.cell? ⟨b, 2, none⟩ = some (.slice a bs.length cap) := by rw [cell_of_row w b 2 _ _ _ hw.str]; rfl
  have f1 : w.frozen? ⟨b, 1, none⟩ = false := frozen_of_row w b 1 _ _ hw.str
  have f2 : w.frozen? ⟨b, 2, none⟩ = false := frozen_of_row w b 2 _ _ hw.str
  have p0 := part_eq (n) (by omega) (by omega)
  have p1 := part_eq (n / 128) (by omega) (by omega)
  have p2 := part_eq (n / 16384) (by omega) (by omega)
  have l0 := last_eq n
  obtain ⟨i5, hi5, hz5, hs5, hb5⟩ := info_parts Try.info5
  have HK := Lib.hid hk
  have Hi5 := Lib.hid hi5
  have Hz5 := Lib.hid hz5
  have Hs5 := Lib.hid hs5
  have Hb5 := Lib.hid hb5
  clear hk hi5 hz5 hs5 hb5
  have hw3 : IntKind.i64.wrap 2 = 2 := by decide
  cases bad
  all_goals
    go_enter Try.func23, Try.ntmps23
    go_wp2_with (go_at_call 18; refine (size_lit n 3 _ HK.out).mono ?_; rintro e w' ⟨rfl, rfl⟩)
    refine wp_loop_rounds 4 ?_
    rw [rounds_succ]
    go_wp2
    rw [rounds_succ]
    go_wp2
    rw [rounds_succ]
    go_wp2
    rw [rounds_succ]
    go_wp2
    go_region_law (((refine step_append_any _ rfl (.tmp 54) (.tmp 57) 23 rfl 0 5 i5 (.int .u8 0) 1 1 Try.underlying23 Hi5.out Hz5.out Hs5.out Hb5.out rfl (by decide) (.slice a bs.length cap) bs.length (bvals bs) (by simp [Act.eval]) (hw.own_there _ _) ⟨w.heap.size, 2, none⟩ 3 3 (bvals [n / 16384 % 128 + 128, n / 128 % 128 + 128, n % 128]) (by simp [Act.eval]) rfl (news_there w b _ _ 2 _ (fun j u hu => by match j, hu with | 0, hu => exact hu | 1, hu => exact hu | 2, hu => exact hu | j + 3, hu => simp [bvals] at hu)) (bvals_one _) (by unfold maxLen; omega) (by omega) (Nat.zero_le _) ?_); intro a1 cap1 w1 own1 grow1 at1; have str1 := str_behind hw grow1; have d2 : w1.cell? ⟨b, 2, none⟩ = some (.slice a bs.length cap) := (by rw [cell_of_row w1 b 2 _ _ _ str1]; rfl); have e2 : w1.frozen? ⟨b, 2, none⟩ = false := frozen_of_row w1 b 2 _ _ str1; have Str1 := Lib.hid str1; clear str1))
    go_end0
    exact wrote_of hw (put_b3 n) rfl own1 grow1 at1

theorem put_b4 (n : Int) : Bys [n / 2097152 % 128 + 128, n / 16384 % 128 + 128, n / 128 % 128 + 128, n % 128] := by
  intro x hx; simp at hx; omega
set_option maxRecDepth 100000 in
set_option maxHeartbeats 400000 in
theorem wint4 (n : Int) (w : World) (b : Nat) (bad : Bool) (a : Option Addr) (cap : Nat) (bs : List Int) (h0 : 2097152 ≤ n) (h1 : n < 268435456)
   (hw : WAt w b bad a cap bs) (hlen : bs.length + 5 ≤ 140737488355328) :
    Calls Try.prog 23 #[.pointer (some ⟨b, 0, none⟩), .int .i64 n] w fun e w' => Wrote w b bad a (bs ++ [n / 2097152 % 128 + 128, n / 16384 % 128 + 128, n / 128 % 128 + 128, n % 128]) e w' := by
  have hk : (sizeN n : Int) = 4 := by unfold sizeN; (repeat' split) <;> omega
  have hnot : ∀ (x : Bool) (w : World), (Op.unary .not (.bool x)).run Try.prog w = .ok (.bool (!x)) w := fun _ _ => rfl
  have hlt := hw.lt
  have c0 : w.cell? ⟨b, 0, none⟩ = some (.bool true) := by rw [cell_of_row w b 0 _ _ _ hw.str]; rfl
  have c1 : w.cell? ⟨b, 1, none⟩ = some (.bool bad) := by rw [cell_of_row w b 1 _ _ _ hw.str]; rfl
  have c2 : w.cell? ⟨b, 2, none⟩ = some (.slice a bs.length cap) := by rw [cell_of_row w b 2 _ _ _ hw.str]; rfl
  have f1 : w.frozen? ⟨b, 1, none⟩ = false := frozen_of_row w b 1 _ _ hw.str
  have f2 : w.frozen? ⟨b, 2, none⟩ = false := frozen_of_row w b 2 _ _ hw.str
  have p0 := part_eq (n) (by omega) (by omega)
  have p1 := part_eq (n / 128) (by omega) (by omega)
  have p2 := part_eq (n / 16384) (by omega) (by omega)
  have p3 := part_eq (n / 2097152) (by omega) (by omega)
  have l0 := last_eq n
  obtain ⟨i5, hi5, hz5, hs5, hb5⟩ := info_parts Try.info5
  have HK := Lib.hid hk
  have Hi5 := Lib.hid hi5
  have Hz5 := Lib.hid hz5
  have Hs5 := Lib.hid hs5
  have Hb5 := Lib.hid hb5
  clear hk hi5 hz5 hs5 hb5
  have hw3 : IntKind.i64.wrap 1 = 1 := by decide
  cases bad
  all_goals
    go_enter Try.func23, Try.ntmps23
    go_wp2_with (go_at_call 18; refine (size_lit n 4 _ HK.out).mono ?_; rintro e w' ⟨rfl, rfl⟩)
    refine wp_loop_rounds 5 ?_
    rw [rounds_succ]
    go_wp2
    rw [rounds_succ]
    go_wp2
    rw [rounds_succ]
    go_wp2
    rw [rounds_succ]
    go_wp2
    rw [rounds_succ]
    go_wp2
    go_region_law (((refine step_append_any _ rfl (.tmp 54) (.tmp 57) 23 rfl 0 5 i5 (.int .u8 0) 1 1 Try.underlying23 Hi5.out Hz5.out Hs5.out Hb5.out rfl (by decide) (.slice a bs.length cap) bs.length (bvals bs) (by simp [Act.eval]) (hw.own_there _ _) ⟨w.heap.size, 1, none⟩ 4 4 (bvals [n / 2097152 % 128 + 128, n / 16384 % 128 + 128, n / 128 % 128 + 128, n % 128]) (by simp [Act.eval]) rfl (news_there w b _ _ 1 _ (fun j u hu => by match j, hu with | 0, hu => exact hu | 1, hu => exact hu | 2, hu => exact hu | 3, hu => exact hu | j + 4, hu => simp [bvals] at hu)) (bvals_one _) (by unfold maxLen; omega) (by omega) (Nat.zero_le _) ?_); intro a1 cap1 w1 own1 grow1 at1; have str1 := str_behind hw grow1; have d2 : w1.cell? ⟨b, 2, none⟩ = some (.slice a bs.length cap) := (by rw [cell_of_row w1 b 2 _ _ _ str1]; rfl); have e2 : w1.frozen? ⟨b, 2, none⟩ = false := frozen_of_row w1 b 2 _ _ str1; have Str1 := Lib.hid str1; clear str1))
    go_end0
    exact wrote_of hw (put_b4 n) rfl own1 grow1 at1

theorem put_b5 (n : Int) : Bys [n / 268435456 % 128 + 128, n / 2097152 % 128 + 128, n / 16384 % 128 + 128, n / 128 % 128 + 128, n % 128] := by
  intro x hx; simp at hx; omega
set_option maxRecDepth 100000 in
set_option maxHeartbeats 400000 in
theorem wint5 (n : Int) (w : World) (b : Nat) (bad : Bool) (a : Option Addr) (cap : Nat) (bs : List Int) (h0 : 268435456 ≤ n) (h1 : n ≤ 2147483647)
   (hw : WAt w b bad a cap bs) (hlen : bs.length + 5 ≤ 140737488355328) :
    Calls Try.prog 23 #[.pointer (some ⟨b, 0, none⟩), .int .i64 n] w fun e w' => Wrote w b bad a (bs ++ [n / 268435456 % 128 + 128, n / 2097152 % 128 + 128, n / 16384 % 128 + 128, n / 128 % 128 + 128, n % 128]) e w' := by
  have hk : (sizeN n : Int) = 5 := by unfold sizeN; (repeat' split) <;> omega
  have hnot : ∀ (x : Bool) (w : World), (Op.unary .not (.bool x)).run Try.prog w = .ok (.bool (!x)) w := fun _ _ => rfl
  have hlt := hw.lt
  have c0 : w.cell? ⟨b, 0, none⟩ = some (.bool true) := by rw [cell_of_row w b 0 _ _ _ hw.str]; rfl
  have c1 : w.cell? ⟨b, 1, none⟩ = some (.bool bad) := by rw [cell_of_row w b 1 _ _ _ hw.str]; rfl
  have c2 : w.cell? ⟨b, 2, none⟩ = some (.slice a bs.length cap) := by rw [cell_of_row w b 2 _ _ _ hw.str]; rfl
  have f1 : w.frozen? ⟨b, 1, none⟩ = false := frozen_of_row w b 1 _ _ hw.str
  have f2 : w.frozen? ⟨b, 2, none⟩ = false := frozen_of_row w b 2 _ _ hw.str
  have p0 := part_eq (n) (by omega) (by omega)
  have p1 := part_eq (n / 128) (by omega) (by omega)
  have p2 := part_eq (n / 16384) (by omega) (by omega)
  have p3 := part_eq (n / 2097152) (by omega) (by omega)
  have p4 := part_eq (n / 268435456) (by omega) (by omega)
  have l0 := last_eq n
  obtain ⟨i5, hi5, hz5, hs5, hb5⟩ := info_parts Try.info5
  have HK := Lib.hid hk
  have Hi5 := Lib.hid hi5
  have Hz5 := Lib.hid hz5
  have Hs5 := Lib.hid hs5
  have Hb5 := Lib.hid hb5
  clear hk hi5 hz5 hs5 hb5
  have hw3 : IntKind.i64.wrap 0 = 0 := by decide
  cases bad
  all_goals
    go_enter Try.func23, Try.ntmps23
    go_wp2_with (go_at_call 18; refine (size_lit n 5 _ HK.out).mono ?_; rintro e w' ⟨rfl, rfl⟩)
    refine wp_loop_rounds 6 ?_
    rw [rounds_succ]
    go_wp2
    rw [rounds_succ]
    go_wp2
    rw [rounds_succ]
    go_wp2
    rw [rounds_succ]
    go_wp2
    rw [rounds_succ]
    go_wp2
    rw [rounds_succ]
    go_wp2
    go_region_law (((refine step_append_any _ rfl (.tmp 54) (.tmp 57) 23 rfl 0 5 i5 (.int .u8 0) 1 1 Try.underlying23 Hi5.out Hz5.out Hs5.out Hb5.out rfl (by decide) (.slice a bs.length cap) bs.length (bvals bs) (by simp [Act.eval]) (hw.own_there _ _) ⟨w.heap.size, 0, none⟩ 5 5 (bvals [n / 268435456 % 128 + 128, n / 2097152 % 128 + 128, n / 16384 % 128 + 128, n / 128 % 128 + 128, n % 128]) (by simp [Act.eval]) rfl (news_there w b _ _ 0 _ (fun j u hu => by match j, hu with | 0, hu => exact hu | 1, hu => exact hu | 2, hu => exact hu | 3, hu => exact hu | 4, hu => exact hu | j + 5, hu => simp [bvals] at hu)) (bvals_one _) (by unfold maxLen; omega) (by omega) (Nat.zero_le _) ?_); intro a1 cap1 w1 own1 grow1 at1; have str1 := str_behind hw grow1; have d2 : w1.cell? ⟨b, 2, none⟩ = some (.slice a bs.length cap) := (by rw [cell_of_row w1 b 2 _ _ _ str1]; rfl); have e2 : w1.frozen? ⟨b, 2, none⟩ = false := frozen_of_row w1 b 2 _ _ str1; have Str1 := Lib.hid str1; clear str1))
    go_end0
    exact wrote_of hw (put_b5 n) rfl own1 grow1 at1

/-- (*Writer).Int: the number's bytes stand behind what was written; a number that is none is kept in mind -/
theorem wint_any (n : Int) (w : World) (b : Nat) (bad : Bool) (a : Option Addr) (cap : Nat) (bs : List Int) (hw : WAt w b bad a cap bs) (hlen : bs.length + 5 ≤ 140737488355328) :
    Calls Try.prog 23 #[.pointer (some ⟨b, 0, none⟩), .int .i64 n] w fun e w' => Wrote w b (bad || decide (sizeN n = 0)) a (bs ++ put n) e w' := by
  by_cases h : n < 0 ∨ 2147483647 < n
  · have e1 : sizeN n = 0 := by unfold sizeN; rw [if_pos h]
    have e2 : put n = [] := by unfold put; rw [if_pos h]
    have e3 : (bad || decide (sizeN n = 0)) = true := by rw [e1]; simp
    rw [e2, e3]; exact wint0 n w b bad a cap bs h hw hlen
  · have e1 : ¬ sizeN n = 0 := by unfold sizeN; (repeat' split) <;> omega
    have e3 : (bad || decide (sizeN n = 0)) = bad := by rw [decide_eq_false e1]; simp
    rw [e3]
    unfold put
    rw [if_neg h]
    (repeat' split)
    · exact wint1 n w b bad a cap bs (by omega) (by omega) hw hlen
    · exact wint2 n w b bad a cap bs (by omega) (by omega) hw hlen
    · exact wint3 n w b bad a cap bs (by omega) (by omega) hw hlen
    · exact wint4 n w b bad a cap bs (by omega) (by omega) hw hlen
    · exact wint5 n w b bad a cap bs (by omega) (by omega) hw hlen

end Go.Proofs.Ytkfhljggdcajpaa
