/-
  The writer of package field: what a number is as bytes, and what (*Writer).Int does to a writer.
-/
import Derived.Test.YtkfhljggdcajpaaBase
import Derived.Deep.AppendLies
import Derived.Deep.RegionLaw
namespace Go.Proofs.Ytkfhljggdcajpaa
open Go.RowKit

theorem size_lit (n k : Int) (w : World) (h : (sizeN n : Int) = k) :
    Calls Try.prog 18 #[.int .i64 n] w fun e w' => e = .returned (.int .i64 k) ∧ w = w' := by
  subst h; exact size_any n w

/-- the block of a slice's array -/
def blk (a : Option Addr) : Option Nat := a.map (·.block)
theorem ownBlock_eq (a : Option Addr) (n c : Nat) : (Value.slice a n c).ownBlock = blk a := by cases a <;> rfl

/-- the bytes as values -/
def bvals (xs : List Int) : List Value := xs.map (Value.int .u8)
theorem bvals_length (xs : List Int) : (bvals xs).length = xs.length := by simp [bvals]
theorem bvals_append (xs ys : List Int) : bvals (xs ++ ys) = bvals xs ++ bvals ys := by simp [bvals]
theorem bvals_one (xs : List Int) : ∀ u ∈ bvals xs, u.oneCell' = true := by
  intro u hu
  obtain ⟨x, _, rfl⟩ := List.mem_map.1 hu
  rfl

/-- the slice '.slice a xs.length cap' is of a row of the call's own, that reads as the bytes xs -/
def Owns (w : World) (a : Option Addr) (cap : Nat) (xs : List Int) : Prop := w.ownsRow 0 5 1 (.slice a xs.length cap) xs.length (bvals xs)

theorem Owns.nil (w : World) : Owns w none 0 [] := World.ownsRow_nil w 0 5 1

theorem Owns.bytes {w : World} {a : Option Addr} {cap : Nat} {xs : List Int} (h : Owns w a cap xs) : BytesAt w a xs := by
  rcases h.2 with ⟨hv, h0⟩ | ⟨g, c, cur, hv, _, hg, hnc, hcm, hcs, htake⟩
  · simp only [Value.slice.injEq] at hv
    exact .inl ⟨hv.1, List.eq_nil_of_length_eq_zero h0⟩
  · simp only [Value.slice.injEq] at hv
    have hlt : g < w.heap.size := by
      rcases Nat.lt_or_ge g w.heap.size with k | k
      · exact k
      · rw [Array.getElem?_eq_none k] at hg; cases hg
    refine .inr ⟨g, 0, hv.1, hlt, fun i hi => ?_⟩
    rw [cell_of_row w g _ cur 5 (0, 0) hg, Nat.zero_add, ← Array.getElem?_toList]
    have e : cur.toList[i]? = (cur.toList.take (xs.length * 1))[i]? := by simp [hi]
    rw [e, htake]
    simp [bvals, List.getD, hi]

theorem Owns.of_block {w w' : World} {a : Option Addr} {cap : Nat} {xs : List Int} (h : Owns w a cap xs) (hb : ∀ k, blk a = some k → k < w.heap.size → w'.heap[k]? = w.heap[k]?) : Owns w' a cap xs := by
  refine ⟨h.1, ?_⟩
  rcases h.2 with h2 | ⟨g, c, cur, hv, hbase, hg, r⟩
  · exact .inl h2
  · have hlt : g < w.heap.size := by
      rcases Nat.lt_or_ge g w.heap.size with k | k
      · exact k
      · rw [Array.getElem?_eq_none k] at hg; cases hg
    refine .inr ⟨g, c, cur, hv, hbase, ?_, r⟩
    simp only [Value.slice.injEq] at hv
    rw [hb g (by rw [hv.1]; rfl) hlt]
    exact hg

theorem Owns.blk_lt {w : World} {a : Option Addr} {cap : Nat} {xs : List Int} (h : Owns w a cap xs) : ∀ k, blk a = some k → k < w.heap.size := fun k hk => (h.lt k (by rw [ownBlock_eq]; exact hk)).2

/-- nothing but block b, the row r and new blocks has turned; the row is r' now: the same or a new one -/
structure Moved (b : Nat) (r r' : Option Nat) (w w' : World) : Prop where
  os : w'.os = w.os
  tape : w'.tape = w.tape
  output : w'.output = w.output
  size : w.heap.size ≤ w'.heap.size
  block : ∀ k, k < w.heap.size → k ≠ b → some k ≠ r → w'.heap[k]? = w.heap[k]?
  row : r' = r ∨ ∃ g, r' = some g ∧ w.heap.size ≤ g

theorem Moved.refl (b : Nat) (r : Option Nat) (w : World) : Moved b r r w w := ⟨rfl, rfl, rfl, Nat.le_refl _, fun _ _ _ _ => rfl, .inl rfl⟩
theorem Moved.trans {b : Nat} {r r' r'' : Option Nat} {w w' w'' : World} (h : Moved b r r' w w') (k : Moved b r' r'' w' w'') : Moved b r r'' w w'' := by
  refine ⟨k.os.trans h.os, k.tape.trans h.tape, k.output.trans h.output, Nat.le_trans h.size k.size, fun i hi hb hr => ?_, ?_⟩
  · refine (k.block i (Nat.lt_of_lt_of_le hi h.size) hb ?_).trans (h.block i hi hb hr)
    rcases h.row with e | ⟨g, e, hg⟩
    · rw [e]; exact hr
    · rw [e]; intro c; cases c; omega
  · rcases k.row with e | ⟨g, e, hg⟩
    · rcases h.row with e' | h'
      · exact .inl (e.trans e')
      · exact .inr (by rw [e]; exact h')
    · exact .inr ⟨g, e, Nat.le_trans h.size hg⟩
theorem Moved.below {b : Nat} {r r' : Option Nat} {B : Nat} {w w' : World} (h : Moved b r r' w w') (hB : B ≤ w.heap.size) (hb : B ≤ b) (hr : ∀ k, r = some k → B ≤ k) : Below B w w' :=
  ⟨h.os, h.tape, h.output, h.size, fun k hk => h.block k (by omega) (by omega) (fun e => by have := hr k e.symm; omega)⟩

/-- a writer in block b: was a number none; what was written -/
structure WAt (w : World) (b : Nat) (bad : Bool) (a : Option Addr) (cap : Nat) (bs : List Int) : Prop where
  str : w.heap[b]? = some (.cells #[.bool true, .bool bad, .slice a bs.length cap] 60 (0, 0))
  own : Owns w a cap bs
  apart : blk a ≠ some b
  bys : Bys bs

/-- what a number is as bytes -/
def put (n : Int) : List Int := if n < 0 ∨ 2147483647 < n then [] else if n < 128 then [n % 128] else if n < 16384 then [n / 128 % 128 + 128, n % 128] else if n < 2097152 then [n / 16384 % 128 + 128, n / 128 % 128 + 128, n % 128]
  else if n < 268435456 then [n / 2097152 % 128 + 128, n / 16384 % 128 + 128, n / 128 % 128 + 128, n % 128] else [n / 268435456 % 128 + 128, n / 2097152 % 128 + 128, n / 16384 % 128 + 128, n / 128 % 128 + 128, n % 128]

theorem put_length (n : Int) : (put n).length = sizeN n := by unfold put sizeN; (repeat' split) <;> rfl
theorem put_bys (n : Int) : Bys (put n) := by
  unfold put
  (repeat' split) <;> intro x hx <;> simp at hx <;> omega

section bits
theorem wraps_i64_31 (n : Int) (_ : 0 ≤ n) (h1 : n < 2 ^ 31) : IntKind.i64.wrap n = n := IntWalk.i64_in n (by omega)
theorem and127 (x : Int) (h0 : 0 ≤ x) (h1 : x ≤ 2147483647) : bits .and .i64 x 127 = x % 128 :=
  bits_mask .i64 31 (by decide) wraps_i64_31 7 (by decide) x h0 (by omega)
theorem or128 (y : Int) (h0 : 0 ≤ y) (h1 : y < 128) : bits .or .u8 y 128 = y + 128 := by
  rw [u8_or y 128 h0 (by omega) (by decide) (by decide)]
  have : ∀ k, k < 128 → k ||| 128 = k + 128 := by decide
  have h2 := this y.toNat (by omega)
  show ((y.toNat ||| 128 : Nat) : Int) = _
  rw [h2]; omega
theorem u8and127 (x : Int) (h0 : 0 ≤ x) (h1 : x < 256) : bits .and .u8 x 127 = x % 128 :=
  bits_mask .u8 8 (by decide) wraps_u8 7 (by decide) x h0 (by omega)
/-- a part of a number, as the program lays it -/
theorem part_eq (x : Int) (h0 : 0 ≤ x) (h1 : x ≤ 2147483647) : bits .or .u8 (bits .and .i64 x 127 % 256) 128 = x % 128 + 128 := by
  rw [and127 x h0 h1, show x % 128 % 256 = x % 128 by omega, or128 _ (by omega) (by omega)]
theorem last_eq (x : Int) : bits .and .u8 (x % 128 + 128) 127 = x % 128 := by
  rw [u8and127 _ (by omega) (by omega)]; omega
end bits

section
variable {P : Program} (w : World)
/-- append of any number of elements, none too, at a step of a region that draws: where the new slice lies -/
theorem step_append_any {ops : Array Oper} {o : Oper} {a : Act} {K : Act → World → Prop} {Q : Exit → Act → World → Prop} {E : Prop} (hgd : o.guard = none) (s x : Operand) (t : TypeId)
    (ho : o.op = .call { callee := .builtin .append, args := #[s, x], argTypes := #[t, t] })
    (base : Nat) (e : TypeId) (i : TypeInfo) (z : Value) (size bytes : Nat) (ht : P.underlying t = some (.slice e)) (hi : P.info? e = some i) (hz : i.zero = some z)
    (hsize : i.size = size) (hby : i.bytes = bytes) (hzs : z.cells.size = size) (hsz : 0 < size)
    (v : Value) (n : Nat) (xs : List Value) (hs : a.eval s = v) (hown : w.ownsRow base e size v n xs)
    (ad : Addr) (m c : Nat) (news : List Value) (hx : a.eval x = .slice (some ad) m c) (hl : news.length = m * size) (hnews : ∀ j u, news[j]? = some u → w.cell? (ad.add j) = some u) (h1 : ∀ u ∈ news, u.oneCell' = true)
    (h63 : n + m ≤ maxLen) (hbytes : (n + m) * bytes ≤ 140737488355328) (hbase : base ≤ w.heap.size)
    (h : ∀ a' cap w', w'.ownsRow base e size (.slice a' (n + m) cap) (n + m) (xs ++ news) → w.grownBy w' v.ownBlock → (blk a' = v.ownBlock ∨ blk a' = some w.heap.size) → K (a.put o.dst (.slice a' (n + m) cap)) w') :
    if Region.wanted o (yielded ops a.tmps) = true then Oper.wp P o a w K Q else E := by
  have hw : Region.wanted o (yielded ops a.tmps) = true := by simp [Region.wanted, hgd]
  rw [if_pos hw]
  obtain ⟨v', w', hr, h2, h3, _, h5⟩ := run_append_own_at (P := P) w base t o.type e i z size bytes ht hi hz hsize hby hzs hsz v n xs hown ad m c news hl hnews h1 h63 hbytes hbase
  obtain ⟨a', cap, rfl⟩ : ∃ a' cap, v' = .slice a' (n + m) cap := by
    rcases h2.2 with ⟨hv, h0⟩ | ⟨g, cap, cur, hv, _⟩
    · exact ⟨none, 0, by rw [hv, h0]⟩
    · exact ⟨_, _, hv⟩
  unfold Oper.wp execOp
  simp only [ho, resolve, invoke, builtin, Sem.run_bind, Sem.run_pure, Result.andThen_ok, List.map_toArray, List.map_cons, List.map_nil, hs, hx, hr]
  exact h a' cap w' h2 h3 (by rwa [ownBlock_eq] at h5)
end

end Go.Proofs.Ytkfhljggdcajpaa
