/-
  The reader of package field: what a number is read as; the fault that gives up and the deferred call that recovers it.
-/
import Derived.Test.YtkfhljggdcajpaaWrOut
import Derived.Recover
import Derived.Deep.QuietTactic
import Derived.BigQuiet
namespace Go.Proofs.Ytkfhljggdcajpaa
open Go.RowKit
set_option maxRecDepth 100000 in
set_option maxHeartbeats 400000 in
theorem catch_idle (p q : Addr) (w : World) :
    CallsD Try.prog 87 #[.pointer (some p), .pointer (some q)] .returning w fun e u' w' => e = .returned (.tuple #[]) ∧ u' = .returning ∧ w = w' := by
  refine callsD_of_wpS Try.func87 rfl fun c₀ cs hu => ?_
  apply wpS_seq
  apply wpS_region
  simp [wpOpsS, go_sem, recoverD, hu, Try.ntmps87, Exit.thenS]
  refine wpS_of_wp ?_
  simp only [Array.replicate_succ, Array.replicate_zero, List.push_toArray, List.append_toArray, List.nil_append, List.cons_append, List.set_cons_succ, List.set_cons_zero, List.setIfInBounds_toArray]
  go_wp2
  cases c₀
  simp_all [bodyPostS, results, Try.results87]
theorem assert_wrong (V : Value) (w : World) : (Instr.typeAssert (.iface 110 V) 20 110 true).run Try.prog w = .ok (.tuple #[V, .bool true]) w := by
  simp [Instr.typeAssert, run_underlying Try.underlying110]
set_option maxRecDepth 100000 in
set_option maxHeartbeats 400000 in
theorem catch_wrong (p q b : Nat) (at0 fe fa : Int) (o1 o2 o3 : Value) (w : World) (older : List PanicEntry)
   (c0 : w.cell? ⟨p, 0, none⟩ = some (.int .i64 at0)) (c1 : w.cell? ⟨q, 0, none⟩ = some (.pointer (some ⟨b, 0, none⟩)))
   (hp : p < w.heap.size) (hq : q < w.heap.size) (hb : b < w.heap.size)
   (d2 : w.cell? ⟨b, 2, none⟩ = some o1) (d3 : w.cell? ⟨b, 3, none⟩ = some o2) (d4 : w.cell? ⟨b, 4, none⟩ = some o3)
   (f2 : w.frozen? ⟨b, 2, none⟩ = false) (f3 : w.frozen? ⟨b, 3, none⟩ = false) (f4 : w.frozen? ⟨b, 4, none⟩ = false) :
    CallsD Try.prog 87 #[.pointer (some ⟨p, 0, none⟩), .pointer (some ⟨q, 0, none⟩)] (.panicking ({ v := .iface 110 (.agg #[.int .i64 fe, .int .i64 fa]), recovered := false } :: older)) w fun e u' w' => e = .returned (.tuple #[]) ∧ u' = .panicking ({ v := .iface 110 (.agg #[.int .i64 fe, .int .i64 fa]), recovered := true } :: older) ∧ w' = (((w.setCell ⟨b, 3, none⟩ (.int .i64 fe)).setCell ⟨b, 4, none⟩ (.int .i64 fa)).setCell ⟨b, 2, none⟩ (.int .i64 at0)).alloc (.cells #[.int .i64 fe, .int .i64 fa] 110) := by
  refine callsD_of_wpS Try.func87 rfl fun c₀ cs hu => ?_
  apply wpS_seq
  apply wpS_region
  simp [wpOpsS, go_sem, recoverD, hu, Try.ntmps87, Exit.thenS]
  refine wpS_of_wp ?_
  simp only [Array.replicate_succ, Array.replicate_zero, List.push_toArray, List.append_toArray, List.nil_append, List.cons_append, List.set_cons_succ, List.set_cons_zero, List.setIfInBounds_toArray]
  have hta := assert_wrong (.agg #[.int .i64 fe, .int .i64 fa])
  go_wp2
  cases c₀
  simp_all [bodyPostS, results, Try.results87]
/-- a reader in block b: its bytes, its place, its fault -/
structure RAt (w : World) (b : Nat) (a : Option Addr) (cap : Nat) (xs : List Int) (pos : Nat) (err fat : Int) : Prop where
  str : w.heap[b]? = some (.cells #[.bool true, .slice a xs.length cap, .int .i64 pos, .int .i64 err, .int .i64 fat] 63 (0, 0))
  byt : BytesAt w a xs
  apart : blk a ≠ some b
  bys : Bys xs
  le : pos ≤ xs.length
  len : xs.length ≤ 140737488355328
  capLe : xs.length ≤ cap

theorem RAt.lt {w : World} {b : Nat} {a : Option Addr} {cap : Nat} {xs : List Int} {pos : Nat} {err fat : Int} (h : RAt w b a cap xs pos err fat) : b < w.heap.size := by
  rcases Nat.lt_or_ge b w.heap.size with k | k
  · exact k
  · have := h.str; rw [Array.getElem?_eq_none k] at this; cases this

/-- the first number of bytes from a place on, as the reader reads it: the fault, or the number and the place behind it -/
def rdGo (xs : List Int) (start : Nat) : Nat → Nat → Int → Except (Int × Int) (Int × Nat)
  | 0, _, _ => .error (5, start)
  | k + 1, pos, n => if xs.length ≤ pos then .error (4, xs.length) else if 128 ≤ xs.getD pos 0 then rdGo xs start k (pos + 1) (n * 128 + xs.getD pos 0 % 128) else if 2147483647 < n * 128 + xs.getD pos 0 % 128 then .error (5, start) else .ok (n * 128 + xs.getD pos 0 % 128, pos + 1)
def rd (xs : List Int) (start : Nat) : Except (Int × Int) (Int × Nat) := if start < xs.length ∧ xs.getD start 0 = 128 then .error (4, start) else rdGo xs start 5 start 0

/-- a fault, as what a call panics with -/
def faultEnd (er fa : Int) : Ending := .panicked [{ v := .iface 110 (.agg #[.int .i64 er, .int .i64 fa]), recovered := false }]

/-- what reading a number leaves -/
def Rdn (w : World) (b : Nat) (a : Option Addr) (cap : Nat) (xs : List Int) (r : Except (Int × Int) (Int × Nat)) (e : Ending) (w' : World) : Prop :=
  ∃ pos, RAt w' b a cap xs pos 0 0 ∧ Moved b none none w w' ∧ match r with
    | .ok (v, nx) => e = .returned (.int .i64 v) ∧ pos = nx
    | .error (er, fa) => e = faultEnd er fa

theorem give_any (er fa : Int) (w : World) : Calls Try.prog 89 #[.int .i64 er, .int .i64 fa] w fun e w' => e = .panicked [{ v := .iface 110 (.agg #[.int .i64 er, .int .i64 fa]), recovered := false }] ∧ w = w' := by
  have hc : Try.prog.concrete 110 = true := by kernel_rfl
  go_enter Try.func89, Try.ntmps89
  go_wp2
  exact ⟨rfl, rfl, rfl⟩

section
variable {w : World} {b : Nat} {a : Option Addr} {cap : Nat} {xs : List Int} {pos : Nat} {err fat : Int}
theorem RAt.cells (h : RAt w b a cap xs pos err fat) : w.cell? ⟨b, 0, none⟩ = some (.bool true) ∧ w.cell? ⟨b, 1, none⟩ = some (.slice a xs.length cap) ∧ w.cell? ⟨b, 2, none⟩ = some (.int .i64 pos) ∧ w.cell? ⟨b, 3, none⟩ = some (.int .i64 err) ∧ w.cell? ⟨b, 4, none⟩ = some (.int .i64 fat) :=
  ⟨by rw [cell_of_row w b 0 _ _ _ h.str]; rfl, by rw [cell_of_row w b 1 _ _ _ h.str]; rfl, by rw [cell_of_row w b 2 _ _ _ h.str]; rfl, by rw [cell_of_row w b 3 _ _ _ h.str]; rfl, by rw [cell_of_row w b 4 _ _ _ h.str]; rfl⟩
theorem RAt.free (h : RAt w b a cap xs pos err fat) (i : Nat) : w.frozen? ⟨b, i, none⟩ = false := frozen_of_row w b i _ _ h.str

theorem RAt.place (h : RAt w b a cap xs pos err fat) (q : Nat) (v : Int) (hv : v = q) (hq : q ≤ xs.length) : RAt (w.setCell ⟨b, 2, none⟩ (.int .i64 v)) b a cap xs q err fat := by
  subst hv
  refine ⟨by rw [heap_setCell_same _ _ _ _ _ _ h.str]; rfl, h.byt.of_block (by simp [World.setCell]) fun g off hg _ => heap_setCell_other _ _ _ _ (fun e => h.apart (by rw [hg]; exact congrArg some e)), h.apart, h.bys, hq, h.len, h.capLe⟩
theorem RAt.drewN (h : RAt w b a cap xs pos err fat) (n : Nat) : RAt (w.drewN n) b a cap xs pos err fat := ⟨h.str, h.byt, h.apart, h.bys, h.le, h.len, h.capLe⟩
theorem Moved.set (w : World) (b i : Nat) (v : Value) : Moved b none none w (w.setCell ⟨b, i, none⟩ v) :=
  ⟨rfl, rfl, rfl, by simp [World.setCell], fun k _ hb _ => heap_setCell_other _ _ _ _ hb, .inl rfl⟩
theorem Moved.drewN {b : Nat} {w w' : World} (h : Moved b none none w w') (n : Nat) : Moved b none none w (w'.drewN n) := ⟨h.os, h.tape, h.output, h.size, h.block, h.row⟩
end

theorem wraps_i64_36 (n : Int) (_ : 0 ≤ n) (h1 : n < 2 ^ 36) : IntKind.i64.wrap n = n := IntWalk.i64_in n (by omega)
theorem or_part (n c : Int) (h0 : 0 ≤ n) (h1 : n ≤ 268435456) (hc0 : 0 ≤ c) (hc1 : c < 128) : bits .or .i64 (n * 128) c = n * 128 + c :=
  bits_join .i64 36 (by decide) wraps_i64_36 7 (n * 128) c (by omega) (by omega) (by omega) (by omega) (by omega) (by omega)

set_option maxRecDepth 100000 in
set_option maxHeartbeats 400000 in
theorem rnumber_go (w : World) (b : Nat) (a : Option Addr) (cap : Nat) (xs : List Int) (at0 : Nat) (h : RAt w b a cap xs at0 0 0) (hn : ¬ (at0 < xs.length ∧ xs.getD at0 0 = 128)) :
    Calls Try.prog 88 #[.pointer (some ⟨b, 0, none⟩)] w fun e w' => Rdn w b a cap xs (rdGo xs at0 5 at0 0) e w' := by
  obtain ⟨c0, c1, c2, c3, c4⟩ := h.cells
  have hle := h.le
  have hlen := h.len
  have hlt := h.lt
  by_cases hat : at0 < xs.length
  · have hby := h.byt
    have hne : ¬ xs.getD at0 0 = 128 := fun e => hn ⟨hat, e⟩
    have hne' : (xs.getD at0 0 == 128) = false := by simpa using hne
    obtain ⟨g, off, rfl, hg, hc⟩ : ∃ g off, a = some ⟨g, off, none⟩ ∧ g < w.heap.size ∧ ∀ i, i < xs.length → w.cell? ⟨g, off + i, none⟩ = some (.int .u8 (xs.getD i 0)) := by
      rcases hby with ⟨_, hx⟩ | k
      · rw [hx] at hat; simp at hat
      · exact k
    have hc0 := hc at0 hat
    have hb0 := h.bys.get at0
    generalize hv : xs.getD at0 0 = v at hne hne' hc0 hb0
    clear hc hby hne
    have Hv := Lib.hid hv
    clear hv hn
    go_enter Try.func88, Try.ntmps88
    go_wp2
    clear hc0 hne' hb0
    go_loopw [4, 29] (fun s4 s29 wr => ∃ k pos : Nat, ∃ n : Int, k ≤ 5 ∧ s29 = .int .i64 k ∧ s4 = .int .i64 n ∧ 0 ≤ n ∧ n < 128 ^ k ∧ rdGo xs at0 (5 - k) pos n = rdGo xs at0 5 at0 0 ∧ RAt wr b (some ⟨g, off, none⟩) cap xs pos 0 0 ∧ Moved b none none w wr) (fun _ s29 _ => (5 - intOf s29).toNat)
    case atStart => exact ⟨0, at0, 0, by omega, rfl, rfl, by omega, by omega, rfl, h, Moved.refl _ _ _⟩
    case round =>
      obtain ⟨k, pos, n, hk, rfl, rfl, hn0, hn1, hgo, hR, hM⟩ := hrel
      obtain ⟨d0, d1, d2, d3, d4⟩ := hR.cells
      have e2 := hR.free 2
      have rle := hR.le
      have rlt := hR.lt
      clear c0 c1 c2 c3 c4
      have HG := Lib.hid hgo
      clear hgo
      by_cases hk5 : k < 5
      · by_cases hp : pos < xs.length
        · have hbl := hR.byt
          have hcv : wr.cell? ⟨g, off + pos, none⟩ = some (.int .u8 (xs.getD pos 0)) := by
            rcases hbl with ⟨hx, _⟩ | ⟨g', off', he, _, hcc⟩
            · cases hx
            · cases he; exact hcc pos hp
          have hcb := hR.bys.get pos
          generalize hw : xs.getD pos 0 = c at hcv hcb
          have Hw := Lib.hid hw
          clear hbl hw
          have hn28 : n ≤ 268435456 := by
            have : (128 : Int) ^ k ≤ 268435456 := by
              obtain rfl | rfl | rfl | rfl | rfl : k = 0 ∨ k = 1 ∨ k = 2 ∨ k = 3 ∨ k = 4 := by omega
              all_goals decide
            omega
          have hb := or_part n (c % 128) hn0 hn28 (by omega) (by omega)
          have ha := u8and127 c (by omega) (by omega)
          have hpe : ((pos : Int) == (xs.length : Int)) = false := beq_eq_false_iff_ne.2 (by omega)
          have hd31 : decide (0 ≤ (pos : Int)) = true := by simp
          go_wp2_with fail
          go_quiet (fail)
          go_wp2_with fail
          go_quiet (fail)
          by_cases h128 : 128 ≤ c
          · go_wp2
            go_roundw
            case rel =>
              refine ⟨k + 1, pos + 1, n * 128 + c % 128, by omega, by go_num, rfl, by omega, by rw [Int.pow_succ]; omega, ?_, ?_, ?_⟩
              · rw [← HG.out]
                obtain ⟨j, hj⟩ : ∃ j, 5 - k = j + 1 := ⟨4 - k, by omega⟩
                rw [hj, rdGo, if_neg (by omega), Hw.out, if_pos h128, show 5 - (k + 1) = j by omega]
              · exact (hR.drewN _).place _ _ (by omega) (by omega)
              · exact (hM.drewN _).trans (Moved.set _ _ _ _)
            case measure => simp [intOf]; omega
          · obtain ⟨j, hj⟩ : ∃ j, 5 - k = j + 1 := ⟨4 - k, by omega⟩
            by_cases hbig : 2147483647 < n * 128 + c % 128
            · have hfin : rdGo xs at0 5 at0 0 = .error (5, at0) := by rw [← HG.out, hj, rdGo, if_neg (by omega), Hw.out, if_neg h128, if_pos hbig]
              have Hfin := Lib.hid hfin
              clear hfin hj
              go_wp2_with (go_at_call 89; refine (give_any _ _ _).mono ?_; rintro e w' ⟨rfl, rfl⟩)
              show _ ∧ Rdn _ _ _ _ _ (rdGo xs at0 5 at0 0) _ _
              rw [Hfin.out]
              exact ⟨rfl, pos + 1, (hR.drewN _).place _ _ (by omega) (by omega), (hM.drewN _).trans (Moved.set _ _ _ _), rfl⟩
            · have hfin : rdGo xs at0 5 at0 0 = .ok (n * 128 + c % 128, pos + 1) := by rw [← HG.out, hj, rdGo, if_neg (by omega), Hw.out, if_neg h128, if_neg hbig]
              have Hfin := Lib.hid hfin
              clear hfin hj
              go_wp2
              go_ret
              rw [Hfin.out]
              exact ⟨pos + 1, (hR.drewN _).place _ _ (by omega) (by omega), (hM.drewN _).trans (Moved.set _ _ _ _), rfl, rfl⟩
        · have hpe : pos = xs.length := by omega
          have hd : decide ((pos : Int) = xs.length) = true := by simp [hpe]
          have hpe' : ((pos : Int) == (xs.length : Int)) = true := beq_iff_eq.2 (by omega)
          obtain ⟨j, hj⟩ : ∃ j, 5 - k = j + 1 := ⟨4 - k, by omega⟩
          have hfin : rdGo xs at0 5 at0 0 = .error (4, xs.length) := by rw [← HG.out, hj, rdGo, if_pos (by omega)]
          have Hfin := Lib.hid hfin
          clear hfin hj hpe hp
          go_wp2_with fail
          go_quiet (fail)
          go_wp2_with (go_at_call 89; refine (give_any _ _ _).mono ?_; rintro e w' ⟨rfl, rfl⟩)
          show _ ∧ Rdn _ _ _ _ _ (rdGo xs at0 5 at0 0) _ _
          rw [Hfin.out]
          exact ⟨rfl, pos, hR.drewN _, hM.drewN _, rfl⟩
      · have hfin : rdGo xs at0 5 at0 0 = .error (5, at0) := by rw [← HG.out, show 5 - k = 0 by omega, rdGo]
        have Hfin := Lib.hid hfin
        clear hfin
        go_wp2_with (go_at_call 89; refine (give_any _ _ _).mono ?_; rintro e w' ⟨rfl, rfl⟩)
        show _ ∧ Rdn _ _ _ _ _ (rdGo xs at0 5 at0 0) _ _
        rw [Hfin.out]
        exact ⟨rfl, pos, hR, hM, rfl⟩
  · have hfin : rdGo xs at0 5 at0 0 = .error (4, xs.length) := by rw [rdGo, if_pos (by omega)]
    have hpe' : ((at0 : Int) == (xs.length : Int)) = true := beq_iff_eq.2 (by omega)
    have Hfin := Lib.hid hfin
    clear hfin hn
    go_enter Try.func88, Try.ntmps88
    go_wp2
    refine wp_loop_rounds 1 ?_
    rw [rounds_succ]
    go_wp2_with fail
    go_quiet (fail)
    go_wp2_with (go_at_call 89; refine (give_any _ _ _).mono ?_; rintro e w' ⟨rfl, rfl⟩)
    show _ ∧ Rdn _ _ _ _ _ (rdGo xs at0 5 at0 0) _ _
    rw [Hfin.out]
    exact ⟨rfl, at0, h.drewN _, (Moved.refl _ _ _).drewN _, rfl⟩

end Go.Proofs.Ytkfhljggdcajpaa
