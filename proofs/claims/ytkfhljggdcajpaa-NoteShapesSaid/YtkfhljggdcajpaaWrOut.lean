/-
  The writer of package field: New, Out; the statements' own number and is.
-/
import Derived.Test.YtkfhljggdcajpaaWrInt
import Derived.Laws.ResultCell
namespace Go.Proofs.Ytkfhljggdcajpaa
open Go.RowKit

theorem new_any (w : World) :
    Calls Try.prog 20 #[] w fun e w' => e = .returned (.pointer (some ⟨w.heap.size, 0, none⟩)) ∧ w' = w.alloc (.cells #[.bool true, .bool false, .slice none 0 0] 60) := by
  go_enter Try.func20, Try.ntmps20
  go_wp2
  go_ret
  exact ⟨rfl, rfl⟩

theorem WAt.new (w : World) : WAt (w.alloc (.cells #[.bool true, .bool false, .slice none 0 0] 60)) w.heap.size false none 0 [] :=
  ⟨heap_alloc_new w _, Owns.nil _, by simp [blk], Bys.nil⟩

/-- what Out hands back: new memory that reads as what was written -/
def Told (w : World) (bs : List Int) (err : Int) (e : Ending) (w' : World) : Prop :=
  ∃ a cap, e = .returned (.tuple #[.slice a bs.length cap, .int .i64 err]) ∧ Owns w' a cap bs ∧ Bys bs ∧ Below w.heap.size w w' ∧ (∀ k, blk a = some k → w.heap.size ≤ k)

set_option maxHeartbeats 400000 in
theorem out_bad (w : World) (b : Nat) (a : Option Addr) (cap : Nat) (bs : List Int) (hw : WAt w b true a cap bs) :
    Calls Try.prog 33 #[.pointer (some ⟨b, 0, none⟩)] w fun e w' => Told w [] 5 e w' := by
  have hnot : ∀ (x : Bool) (w : World), (Op.unary .not (.bool x)).run Try.prog w = .ok (.bool (!x)) w := fun _ _ => rfl
  have hlt := hw.lt
  have c0 : w.cell? ⟨b, 0, none⟩ = some (.bool true) := by rw [cell_of_row w b 0 _ _ _ hw.str]; rfl
  have c1 : w.cell? ⟨b, 1, none⟩ = some (.bool true) := by rw [cell_of_row w b 1 _ _ _ hw.str]; rfl
  go_enter Try.func33, Try.ntmps33
  go_wp2
  go_ret2
  exact ⟨none, 0, rfl, Owns.nil _, Bys.nil, Below.refl _ _, fun k hk => by cases hk⟩

/-- append of any number of elements, none too, at a plain region -/
theorem wpList_append_any {P : Program} (w : World) {ops : Array Oper} {rest : List Oper} {o : Oper} {a : Act} {Q : Exit → Act → World → Prop} (hgd : o.guard = none) (s x : Operand) (t : TypeId)
    (ho : o.op = .call { callee := .builtin .append, args := #[s, x], argTypes := #[t, t] })
    (base : Nat) (e : TypeId) (i : TypeInfo) (z : Value) (size bytes : Nat) (ht : P.underlying t = some (.slice e)) (hi : P.info? e = some i) (hz : i.zero = some z)
    (hsize : i.size = size) (hby : i.bytes = bytes) (hzs : z.cells.size = size) (hsz : 0 < size)
    (v : Value) (n : Nat) (xs : List Value) (hs : a.eval s = v) (hown : w.ownsRow base e size v n xs)
    (ad : Addr) (m c : Nat) (news : List Value) (hx : a.eval x = .slice (some ad) m c) (hl : news.length = m * size) (hnews : ∀ j u, news[j]? = some u → w.cell? (ad.add j) = some u) (h1 : ∀ u ∈ news, u.oneCell' = true)
    (h63 : n + m ≤ maxLen) (hbytes : (n + m) * bytes ≤ 140737488355328) (hbase : base ≤ w.heap.size)
    (h : ∀ a' cap w', w'.ownsRow base e size (.slice a' (n + m) cap) (n + m) (xs ++ news) → w.grownBy w' v.ownBlock → (blk a' = v.ownBlock ∨ blk a' = some w.heap.size) → wpList P ops Q rest (a.put o.dst (.slice a' (n + m) cap)) w') : wpList P ops Q (o :: rest) a w := by
  obtain ⟨v', w', hr, h2, h3, _, h5⟩ := run_append_own_at (P := P) w base t o.type e i z size bytes ht hi hz hsize hby hzs hsz v n xs hown ad m c news hl hnews h1 h63 hbytes hbase
  obtain ⟨a', cap, rfl⟩ : ∃ a' cap, v' = .slice a' (n + m) cap := by
    rcases h2.2 with ⟨hv, h0⟩ | ⟨g, cap, cur, hv, _⟩
    · exact ⟨none, 0, by rw [hv, h0]⟩
    · exact ⟨_, _, hv⟩
  refine wpList_plain hgd fun K hK => ?_
  unfold Oper.wp execOp
  simp only [ho, resolve, invoke, builtin, Sem.run_bind, Sem.run_pure, Result.andThen_ok, List.map_toArray, List.map_cons, List.map_nil, hs, hx, hr]
  exact hK _ _ (h a' cap w' h2 h3 (by rwa [ownBlock_eq] at h5))

theorem Owns.form {w : World} {a : Option Addr} {cap : Nat} {xs : List Int} (h : Owns w a cap xs) : (a = none ∧ cap = 0 ∧ xs = []) ∨ ∃ g, a = some ⟨g, 0, none⟩ := by
  rcases h.2 with ⟨hv, h0⟩ | ⟨g, c, cur, hv, _⟩
  · simp only [Value.slice.injEq] at hv
    exact .inl ⟨hv.1, hv.2.2, List.eq_nil_of_length_eq_zero h0⟩
  · simp only [Value.slice.injEq] at hv
    exact .inr ⟨g, hv.1⟩

/-- a row that reads as bytes, as the source of an append -/
theorem BytesAt.news {w : World} {g off : Nat} {xs : List Int} (h : BytesAt w (some ⟨g, off, none⟩) xs) : ∀ j u, (bvals xs)[j]? = some u → w.cell? ((⟨g, off, none⟩ : Addr).add j) = some u := fun j u hu => by
  rcases h with ⟨h, _⟩ | ⟨b, o, h, _, hc⟩
  · cases h
  · cases h
    have hj : j < xs.length := by
      have := (List.getElem?_eq_some_iff.1 hu).1
      simpa [bvals] using this
    have hadd : (⟨g, off, none⟩ : Addr).add j = ⟨g, off + j, none⟩ := by unfold Addr.add; split <;> simp_all
    rw [hadd, hc j hj, ← hu]
    simp [bvals, List.getD, hj]

set_option maxHeartbeats 400000 in
theorem out_good (w : World) (b : Nat) (a : Option Addr) (cap : Nat) (bs : List Int) (hw : WAt w b false a cap bs) (hlen : bs.length ≤ 140737488355328) :
    Calls Try.prog 33 #[.pointer (some ⟨b, 0, none⟩)] w fun e w' => Told w bs 0 e w' := by
  have hnot : ∀ (x : Bool) (w : World), (Op.unary .not (.bool x)).run Try.prog w = .ok (.bool (!x)) w := fun _ _ => rfl
  have hlt := hw.lt
  have c0 : w.cell? ⟨b, 0, none⟩ = some (.bool true) := by rw [cell_of_row w b 0 _ _ _ hw.str]; rfl
  have c1 : w.cell? ⟨b, 1, none⟩ = some (.bool false) := by rw [cell_of_row w b 1 _ _ _ hw.str]; rfl
  have c2 : w.cell? ⟨b, 2, none⟩ = some (.slice a bs.length cap) := by rw [cell_of_row w b 2 _ _ _ hw.str]; rfl
  have hby := hw.own.bytes
  have hbys := hw.bys
  rcases hw.own.form with ⟨rfl, rfl, rfl⟩ | ⟨g, rfl⟩
  · go_enter Try.func33, Try.ntmps33
    go_wp2
    go_ret2
    exact ⟨none, 0, rfl, Owns.nil _, Bys.nil, Below.refl _ _, fun k hk => by cases hk⟩
  · obtain ⟨i5, hi5, hz5, hs5, hb5⟩ := info_parts Try.info5
    have Hi5 := Lib.hid hi5
    have Hz5 := Lib.hid hz5
    have Hs5 := Lib.hid hs5
    have Hb5 := Lib.hid hb5
    clear hi5 hz5 hs5 hb5
    go_enter Try.func33, Try.ntmps33
    go_wp2_with (at_builtin; refine wpList_append_any _ rfl (.const (.slice none 0 0)) (.tmp 22) 23 rfl 0 5 i5 (.int .u8 0) 1 1 Try.underlying23 Hi5.out Hz5.out Hs5.out Hb5.out rfl (by decide) (.slice none 0 0) 0 [] rfl (World.ownsRow_nil _ _ _ _) ⟨g, 0, none⟩ bs.length cap (bvals bs) rfl ((bvals_length bs).trans (Nat.mul_one _).symm) hby.news (bvals_one _) (by unfold maxLen; omega) (by omega) (Nat.zero_le _) ?_; intro a1 cap1 w1 own1 grow1 at1)
    go_ret2
    rw [Nat.zero_add] at own1
    refine ⟨a1, cap1, rfl, own1, hbys, (Below.refl _ _).grown grow1 (Nat.le_refl _) (fun k hk => by cases hk), fun k hk => ?_⟩
    rcases at1 with h | h
    · rw [h] at hk; cases hk
    · rw [h] at hk; cases hk; exact Nat.le_refl _

/-- (*Writer).Out of a writer that was made -/
theorem out_any (w : World) (b : Nat) (bad : Bool) (a : Option Addr) (cap : Nat) (bs : List Int) (hw : WAt w b bad a cap bs) (hlen : bs.length ≤ 140737488355328) :
    Calls Try.prog 33 #[.pointer (some ⟨b, 0, none⟩)] w fun e w' => Told w (if bad then [] else bs) (if bad then 5 else 0) e w' := by
  cases bad
  · exact out_good w b a cap bs hw hlen
  · exact out_bad w b a cap bs hw

theorem Owns.le_cap {w : World} {a : Option Addr} {cap : Nat} {xs : List Int} (h : Owns w a cap xs) : xs.length ≤ cap := by
  rcases h.2 with ⟨hv, h0⟩ | ⟨g, c, cur, hv, _, _, hle, _⟩
  · omega
  · simp only [Value.slice.injEq] at hv
    omega

/-- satchellaw01.number: what it hands back -/
def Num (w : World) (n : Int) (e : Ending) (w' : World) : Prop :=
  ∃ a cap, e = .returned (.slice a (put n).length cap) ∧ BytesAt w' a (put n) ∧ (put n).length ≤ cap ∧ Below w.heap.size w w'

theorem WAt.moved {w w' : World} {b b' : Nat} {r r' : Option Nat} {bad : Bool} {a : Option Addr} {cap : Nat} {bs : List Int} (h : WAt w b bad a cap bs) (hm : Moved b' r r' w w') (hb : b ≠ b') (hr : some b ≠ r) (hb' : blk a ≠ some b') (hr' : ∀ k, blk a = some k → r ≠ some k) : WAt w' b bad a cap bs := by
  refine ⟨(hm.block b h.lt hb hr).trans h.str, h.own.of_block fun k hk hlt => hm.block k hlt (fun e => hb' (by rw [hk, e])) (fun e => hr' k hk e.symm), h.apart, h.bys⟩

theorem WAt.below {w w' : World} {b : Nat} {bad : Bool} {a : Option Addr} {cap : Nat} {bs : List Int} (h : WAt w b bad a cap bs) (hm : Below w.heap.size w w') : WAt w' b bad a cap bs :=
  ⟨(hm.block b h.lt).trans h.str, h.own.of_block fun k _ hlt => hm.block k hlt, h.apart, h.bys⟩

set_option maxHeartbeats 400000 in
theorem number_in (w : World) (n : Int) (h : ¬ (n < 0 ∨ 2147483647 < n)) :
    Calls Try.prog 17 #[.int .i64 n] w fun e w' => Num w n e w' := by
  have hs : decide (sizeN n = 0) = false := by unfold sizeN; rw [if_neg h]; (repeat' split) <;> rfl
  have hput : (put n).length ≤ 5 := by rw [put_length]; unfold sizeN; (repeat' split) <;> omega
  have hnew := WAt.new w
  have Hn := Lib.hid hnew
  have Hs := Lib.hid hs
  clear hnew hs
  go_enter Try.func17, Try.ntmps17
  go_wp2_with fail
  refine (new_any _).mono ?_
  rintro e w1 ⟨rfl, rfl⟩
  go_wp2_with fail
  refine (wint_any _ _ _ _ _ _ _ Hn.out (by simp)).mono ?_
  rintro e w2 ⟨a2, cap2, rfl, hw2, hm2⟩
  rw [Hs.out] at hw2
  go_wp2_with fail
  refine (out_any _ _ _ _ _ _ hw2 (by simp; omega)).mono ?_
  rintro e w3 ⟨a3, cap3, rfl, own3, by3, hb3, hr3⟩
  go_wp2_with fail
  go_ret
  refine ⟨a3, cap3, rfl, own3.bytes, own3.le_cap, ?_⟩
  exact (((Below.refl _ _).alloc (Nat.le_refl _) _).trans (hm2.below (by simp) (Nat.le_refl _) (fun k hk => by cases hk))).trans (hb3.mono (by have := hm2.size; simp at this; omega))

set_option maxHeartbeats 400000 in
theorem number_out (w : World) (n : Int) (h : n < 0 ∨ 2147483647 < n) :
    Calls Try.prog 17 #[.int .i64 n] w fun e w' => Num w n e w' := by
  have hs : (false || decide (sizeN n = 0)) = true := by unfold sizeN; rw [if_pos h]; rfl
  have hput : put n = [] := by unfold put; rw [if_pos h]
  have hnew := WAt.new w
  have Hn := Lib.hid hnew
  have Hs := Lib.hid hs
  have Hp := Lib.hid hput
  clear hnew hs hput h
  go_enter Try.func17, Try.ntmps17
  go_wp2_with fail
  refine (new_any _).mono ?_
  rintro e w1 ⟨rfl, rfl⟩
  go_wp2_with fail
  refine (wint_any _ _ _ _ _ _ _ Hn.out (by simp)).mono ?_
  rintro e w2 ⟨a2, cap2, rfl, hw2, hm2⟩
  rw [Hs.out] at hw2
  go_wp2_with fail
  refine (out_bad _ _ _ _ _ hw2).mono ?_
  rintro e w3 ⟨a3, cap3, rfl, own3, by3, hb3, hr3⟩
  go_wp2_with fail
  go_ret
  refine ⟨none, 0, by rw [Hp.out]; rfl, by rw [Hp.out]; exact .inl ⟨rfl, rfl⟩, by rw [Hp.out]; exact Nat.le_refl _, ?_⟩
  exact (((Below.refl _ _).alloc (Nat.le_refl _) _).trans (hm2.below (by simp) (Nat.le_refl _) (fun k hk => by cases hk))).trans (hb3.mono (by have := hm2.size; simp at this; omega))

theorem number_any (w : World) (n : Int) : Calls Try.prog 17 #[.int .i64 n] w fun e w' => Num w n e w' := by
  by_cases h : n < 0 ∨ 2147483647 < n
  · exact number_out w n h
  · exact number_in w n h

/-- a slice literal, laid just now -/
theorem BytesAt.lit (w : World) (xs : List Int) (t : TypeId) : BytesAt (w.alloc (.cells (bvals xs).toArray t)) (some ⟨w.heap.size, 0, none⟩) xs := by
  refine .inr ⟨w.heap.size, 0, rfl, by simp, fun i hi => ?_⟩
  rw [cell_of_row _ _ _ _ _ _ (heap_alloc_new w _)]
  simp [bvals, List.getD, hi]

theorem bys_lit {xs : List Int} (h : xs.all (fun x => decide (0 ≤ x) && decide (x ≤ 255)) = true) : Bys xs := fun x hx => by
  have := List.all_eq_true.1 h x hx
  simpa using this

/-- satchellaw01.is -/
theorem is_any (w : World) (n : Int) (a : Option Addr) (cap : Nat) (xs : List Int) (ha : BytesAt w a xs) (hx : Bys xs) :
    Calls Try.prog 44 #[.int .i64 n, .slice a xs.length cap] w fun e w' => e = .returned (.bool (decide (put n = xs))) ∧ Below w.heap.size w w' := by
  go_enter Try.func44, Try.ntmps44
  go_wp2_with fail
  refine (number_any _ _).mono ?_
  rintro e w1 ⟨a1, cap1, rfl, h1, _, hb1⟩
  go_wp2_with fail
  refine (same_any _ _ _ _ _ _ _ (put_bys n) hx h1 (ha.below hb1)).mono ?_
  rintro e w2 ⟨rfl, rfl⟩
  go_wp2_with fail
  go_ret
  exact ⟨rfl, hb1⟩

end Go.Proofs.Ytkfhljggdcajpaa
