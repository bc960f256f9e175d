/-
  Order of package ratio: its walk.
-/
import Derived.Test.YtdcaklonhbiejaaCmp
import Derived.Below
namespace Go.Proofs.Ytdcaklonhbiejaa
open Go.Shelf Go.RowKit Go.Lib Go.Sort

/-! ### a world of the sort's, from below -/
theorem below_putRow {α : Type} [Inhabited α] (enc : α → Value) (w : World) (blk off : Nat) (d : Array α) (B : Nat) (h : B ≤ blk) : Below B w (putRow enc w blk off d) :=
  ⟨rfl, rfl, rfl, by rw [size_putRow]; exact Nat.le_refl _, fun k hk => by
    unfold putRow mapBlock
    simp only [Array.getElem?_modify]
    rw [if_neg (by omega)]⟩
theorem below_grow (w : World) (os : Array Obj) (B : Nat) (h : B ≤ w.heap.size) : Below B w (grow w os) :=
  ⟨rfl, rfl, rfl, by rw [size_grow]; omega, fun k hk => heap_grow_old w os (by omega)⟩
theorem sw_below {α : Type} [Inhabited α] {enc : α → Value} {w0 w : World} {blk off B : Nat} {d : Array α} (h : SW enc w0 blk off d w) (hb : B ≤ blk) (hs : B ≤ w0.heap.size) : Below B w0 w := by
  obtain ⟨n, os, rfl⟩ := h
  have h1 : Below B w0 (Sort.ahead w0 n) := ⟨rfl, rfl, rfl, Nat.le_refl _, fun _ _ => rfl⟩
  exact (h1.trans (below_putRow enc _ blk off d B hb)).trans (below_grow _ os B (by rw [size_putRow]; exact hs))

/-! ### what Order tells -/
def rkn (xs : List Nat) (p : Nat) : Int := kf (xs.getD p 0) * (xs.length : Int) + (p : Int)

structure Placed (xs ps : List Nat) : Prop where
  len : ps.length = xs.length
  lt : ∀ i, i < xs.length → ps.getD i 0 < xs.length
  asc : ∀ i j, i < j → j < xs.length → rkn xs (ps.getD i 0) < rkn xs (ps.getD j 0)
  all : ∀ p, p < xs.length → ∃ i, i < xs.length ∧ ps.getD i 0 = p

/-- whole numbers at a slice of the call's own -/
def OwnInts (w : World) (B : Nat) (v : Value) (ps : List Int) : Prop :=
  (v = .slice none 0 0 ∧ ps = []) ∨ ∃ g cap, v = .slice (some ⟨g, 0, none⟩) ps.length cap ∧ B ≤ g ∧ g < w.heap.size ∧ ∀ i, i < ps.length → w.cell? ⟨g, i, none⟩ = some (.int .i64 (ps.getD i 0))

/-- the places in order, as they come -/
def ids (N : Nat) : Array (Fin (N + 1)) := Array.ofFn fun i => i
theorem ids_size (N : Nat) : (ids N).size = N + 1 := by simp [ids]
theorem ids_at (N p : Nat) (h : p < N + 1) : (ids N)[p]! = ⟨p, h⟩ := by
  rw [getElem!_pos _ p (by rw [ids_size]; exact h)]
  simp [ids]

theorem rkf_rkn {N : Nat} (xs : List Nat) (hN : xs.length = N + 1) (x : Fin (N + 1)) : rkf xs x = rkn xs x.val := by
  unfold rkf rkn
  rw [hN]

theorem rkn_inj {xs : List Nat} {p q : Nat} (hp : p < xs.length) (hq : q < xs.length) (h : rkn xs p = rkn xs q) : p = q := by
  have h1 := (lex_lt (A := kf (xs.getD p 0)) (B := kf (xs.getD q 0)) (x := (p : Int)) (y := (q : Int)) (M := (xs.length : Int)) (by omega) (by omega) (by omega) (by omega))
  have h2 := (lex_lt (A := kf (xs.getD q 0)) (B := kf (xs.getD p 0)) (x := (q : Int)) (y := (p : Int)) (M := (xs.length : Int)) (by omega) (by omega) (by omega) (by omega))
  unfold rkn at h
  rw [h] at h1
  rw [h] at h2
  have n1 : ¬ (kf (xs.getD p 0) < kf (xs.getD q 0) ∨ kf (xs.getD p 0) = kf (xs.getD q 0) ∧ (p : Int) < q) := fun k => by have := h1.2 k; omega
  have n2 : ¬ (kf (xs.getD q 0) < kf (xs.getD p 0) ∨ kf (xs.getD q 0) = kf (xs.getD p 0) ∧ (q : Int) < p) := fun k => by have := h2.2 k; omega
  omega

theorem placed_of {N : Nat} {xs : List Nat} (hN : xs.length = N + 1) {d : Array (Fin (N + 1))} (hp : PermIn 0 (N + 1) (ids N) d) (hs : Srt (rkf xs) 0 (N + 1) d) : Placed xs (d.toList.map (fun x => x.val)) := by
  have hsz : d.size = N + 1 := by rw [hp.1, ids_size]
  have hget : ∀ i, i < N + 1 → (d.toList.map (fun x : Fin (N + 1) => x.val)).getD i 0 = d[i]!.val := fun i hi => by
    rw [getElem!_pos d i (by omega)]
    simp [List.getD, hsz, hi]
  have hl : (d.extract 0 (N + 1)).toList.Perm ((ids N).extract 0 (N + 1)).toList := hp.2.2
  rw [extract_toList d 0 (N + 1) (by omega), extract_toList (ids N) 0 (N + 1) (by rw [ids_size]; omega)] at hl
  have hid : (List.range' 0 (N + 1 - 0)).map (fun i => (ids N)[i]!) = (List.range' 0 (N + 1 - 0)).map (fun i => (if h : i < N + 1 then (⟨i, h⟩ : Fin (N + 1)) else default)) := by
    apply List.map_congr_left
    intro i hi
    have := List.mem_range'_1.1 hi
    rw [ids_at N i (by omega), dif_pos (by omega)]
  have hnd : ((List.range' 0 (N + 1 - 0)).map (fun i => (ids N)[i]!)).Nodup := by
    rw [List.Nodup, List.pairwise_map]
    refine List.Pairwise.imp_of_mem ?_ (List.nodup_range' (s := 0) (n := N + 1 - 0) (step := 1))
    intro a b ha hb hne e
    have h1 := List.mem_range'_1.1 ha
    have h2 := List.mem_range'_1.1 hb
    rw [ids_at N a (by omega), ids_at N b (by omega)] at e
    exact hne (by simpa using e)
  have hnd2 := hl.nodup_iff.2 hnd
  have hdist : ∀ i j, i < j → j < N + 1 → d[i]! ≠ d[j]! := fun i j hij hj e => by
    rw [List.Nodup, List.pairwise_map, List.pairwise_iff_getElem] at hnd2
    have h3 := hnd2 i j (by simp; omega) (by simp; omega) hij
    simp only [List.getElem_range', Nat.zero_add, Nat.one_mul] at h3
    exact h3 e
  refine ⟨by simp [hsz, hN], fun i hi => ?_, fun i j hij hj => ?_, fun p hp2 => ?_⟩
  · rw [hget i (by omega), hN]
    exact d[i]!.isLt
  · rw [hget i (by omega), hget j (by omega), ← rkf_rkn xs hN, ← rkf_rkn xs hN]
    have h1 := hs i j (Nat.zero_le _) (by omega) (by omega)
    rcases Int.lt_or_eq_of_le h1 with h | h
    · exact h
    · exfalso
      refine hdist i j hij (by omega) (Fin.ext ?_)
      rw [rkf_rkn xs hN, rkf_rkn xs hN] at h
      have l1 := d[i]!.isLt
      have l2 := d[j]!.isLt
      exact rkn_inj (by omega) (by omega) h
  · have hm : (⟨p, by omega⟩ : Fin (N + 1)) ∈ (List.range' 0 (N + 1 - 0)).map (fun i => d[i]!) := by
      rw [hl.mem_iff]
      exact List.mem_map.2 ⟨p, List.mem_range'_1.2 ⟨by omega, by omega⟩, ids_at N p (by omega)⟩
    obtain ⟨i, hi, e⟩ := List.mem_map.1 hm
    have := List.mem_range'_1.1 hi
    refine ⟨i, by omega, ?_⟩
    rw [hget i (by omega), e]

theorem infoInt : (Try.prog.info? 3).map (fun i => (i.zero, i.size, i.bytes)) = some (some (.int .i64 0), 1, 8) := by kernel_rfl

set_option maxHeartbeats 1600000 in
set_option maxRecDepth 1000000 in
/-- of no places nothing is sorted -/
theorem stable_nil (fv : Value) (w : World) : Calls Try.prog 80 #[.slice none 0 0, .int .i64 0, fv] w fun e w' => e = .returned (.tuple #[]) ∧ w' = w := by
  go_enter Try.func80, Try.ntmps80
  go_wp2
  refine wp_loop_rounds 1 ?_
  rw [rounds_succ]
  go_wp2
  refine wp_loop_rounds 1 ?_
  rw [rounds_succ]
  go_wp2
  go_end0
  simp only []
  go_at_K
  go_wp2
  refine wp_loop_rounds 1 ?_
  rw [rounds_succ]
  go_wp2
  go_end0
  exact ⟨rfl, rfl⟩

def gathered (k : Nat) : List Value := (List.range k).map fun (i : Nat) => Value.int .i64 (i : Int)
theorem gathered_succ (k : Nat) : gathered (k + 1) = gathered k ++ [.int .i64 (k : Int)] := by
  unfold gathered
  rw [List.range_succ, List.map_append]
  rfl
theorem gathered_len (k : Nat) : (gathered k).length = k := by simp [gathered]

theorem own_holds {w : World} {B N : Nat} {v : Value} (h : w.ownsRow B 3 1 v (N + 1) (gathered (N + 1))) : ∃ g cap, v = .slice (some ⟨g, 0, none⟩) (N + 1) cap ∧ B ≤ g ∧ g < w.heap.size ∧ Holds encP w g 0 (ids N) := by
  rcases h.2 with ⟨_, h0⟩ | ⟨g, cap, cur, rfl, hb, hh, _, _, _, _⟩
  · omega
  · refine ⟨g, cap, rfl, hb, (by
      rcases Nat.lt_or_ge g w.heap.size with k | k
      · exact k
      · rw [Array.getElem?_eq_none k] at hh; cases hh), fun j hj => ⟨?_, ?_⟩⟩
    · rw [ids_size] at hj
      have := h.cells (g := g) rfl j (.int .i64 (j : Int)) (by simp [gathered, hj])
      rw [ids_at N j hj]
      have e : ((⟨g, 0, none⟩ : Addr).add j) = ⟨g, 0 + j, none⟩ := by
        by_cases h0 : j = 0
        · subst h0; simp [Addr.add]
        · simp [Addr.add, h0]
      rw [e] at this
      exact this
    · exact frozen_of_row w g (0 + j) cur 3 hh

set_option maxHeartbeats 4000000 in
set_option maxRecDepth 1000000 in
/-- the places that were gathered, sorted -/
theorem sorted_any (w : World) (B : Nat) (v : Value) (xs : List Nat) (a : Option Addr) (cap : Nat) (hown : w.ownsRow (B + 1) 3 1 v xs.length (gathered xs.length)) (hnil : xs.length = 0 → v = .slice none 0 0) (hB : B < w.heap.size)
    (hbox : w.cell? ⟨B, 0, none⟩ = some (.slice a xs.length cap)) (hF : xs = [] ∨ ∃ g off, a = some ⟨g, off, none⟩ ∧ g < B ∧ ∀ i, i < xs.length → w.cell? ⟨g, off + i, none⟩ = some (.float .f64 (xs.getD i 0))) (hlen : xs.length < 17592186044416) :
    Calls Try.prog 62 #[v, .func (.func 63) #[] #[.pointer (some ⟨B, 0, none⟩)]] w fun e w' => e = .returned (.tuple #[]) ∧ ∃ ps, Placed xs ps ∧ OwnInts w' B v (ps.map (fun (p : Nat) => (p : Int))) ∧ Below B w w' := by
  by_cases h0 : xs.length = 0
  · have hv := hnil h0
    have hx : xs = [] := List.length_eq_zero_iff.1 h0
    subst hv
    subst hx
    have hst := stable_nil (.func (.func 63) #[] #[.pointer (some ⟨B, 0, none⟩)])
    clear hF hbox hown hnil
    go_enter Try.func62, Try.ntmps62
    go_wp2_with fail
    refine (hst _).mono ?_
    rintro e w' ⟨rfl, rfl⟩
    go_wp2_with fail
    go_end0
    exact ⟨rfl, [], ⟨rfl, fun i h => by simp at h, fun i j _ h => by simp at h, fun p h => by simp at h⟩, .inl ⟨rfl, rfl⟩, Below.refl _ _⟩
  · obtain ⟨N, hN⟩ : ∃ N, xs.length = N + 1 := ⟨xs.length - 1, by omega⟩
    obtain ⟨g, off, rfl, hg, hc⟩ := hF.resolve_left (fun e => by rw [e] at h0; simp at h0)
    rw [hN] at hown
    obtain ⟨blk, cp, hv, hblk, hblt, hH⟩ := own_holds hown
    have R : Row1 encP w blk 0 (ids N) := ⟨one_encP, hH, hblt⟩
    have hcmp : CmpLays1 Try.prog 63 #[.pointer (some ⟨B, 0, none⟩)] (encP (N := N)) (fun x y => cfl xs x.val y.val) blk 0 (ids N).size w :=
      cmp_lays xs hN w blk 0 (ids N).size B g off cap (by omega) (by omega) hB (by omega) hbox hc
    have eg : ∀ args w, (callFunc 63 args).run Try.prog w = .ok (.enter 63 args) w := enters_of Try.func63 (by kernel_rfl) rfl
    have hst := stable_s (rkf xs) (fun x y => cfl xs x.val y.val) (fun x y h => cfl_rkf xs x y h) 63 #[.pointer (some ⟨B, 0, none⟩)] blk 0 cp (ids N) w eg hcmp R (by rw [ids_size]; omega) (by rw [ids_size]; omega) (fun p hp => by rw [ids_size] at hp; rw [ids_at N p hp])
    rw [ids_size] at hst
    have hcast : (((N + 1 : Nat)) : Int) = (N : Int) + 1 := by omega
    rw [hcast] at hst
    have HST := Lib.hid hst
    have HB' := Lib.hid hB
    have HHH := Lib.hid (And.intro hblk hblt)
    subst hv
    have RR := Lib.hid R
    clear hst hcmp R hH hown hbox hc hF hcast hnil h0 hB
    go_enter Try.func62, Try.ntmps62
    go_wp2_with fail
    refine HST.out.mono ?_
    rintro e w' ⟨rfl, d, S, hp, hs⟩
    go_wp2_with fail
    go_end0
    have hds : d.size = N + 1 := by rw [hp.1, ids_size]
    refine ⟨rfl, d.toList.map (fun x => x.val), placed_of hN hp hs, .inr ⟨blk, cp, by simp [hds], by have := HHH.out.1; omega, S.lt RR.out.hblk, fun i hi => ?_⟩, sw_below S (by have := HHH.out.1; omega) (by have := HB'.out; omega)⟩
    have hi' : i < N + 1 := by simpa [hds] using hi
    have hcell := S.c1 RR.out (by rw [ids_size]; exact hds) i (by omega)
    rw [Nat.zero_add] at hcell
    rw [hcell, getElem!_pos d i (by omega)]
    simp [encP, List.getD, hds, hi']

set_option maxHeartbeats 4000000 in
set_option maxRecDepth 1000000 in
theorem order_any (w : World) (a : Option Addr) (cap : Nat) (xs : List Nat) (h : FloatsAt w a xs) (hlen : xs.length < 17592186044416) :
    Calls Try.prog 22 #[.slice a xs.length cap] w fun e w' => ∃ v ps, e = .returned v ∧ Placed xs ps ∧ OwnInts w' w.heap.size v (ps.map (fun (p : Nat) => (p : Int))) ∧ Below w.heap.size w w' := by
  obtain ⟨i0, hi, hz0, hz1, hz2⟩ := info_parts infoInt
  have HF := Lib.hid h
  clear h
  obtain ⟨w1, hw1⟩ : ∃ w1, w.alloc (.cells #[.slice a xs.length cap] 31) = w1 := ⟨_, rfl⟩
  have hs1 : w1.heap.size = w.heap.size + 1 := by rw [← hw1]; simp
  have hbox : w1.cell? ⟨w.heap.size, 0, none⟩ = some (.slice a xs.length cap) := by rw [← hw1]; simp
  have hb1 : Below w.heap.size w w1 := by rw [← hw1]; exact (Below.refl _ _).alloc (Nat.le_refl _) _
  go_enter Try.func22, Try.ntmps22
  go_wp2
  clear hw1
  go_loopw [3, 7] (fun v kv wr => ∃ k : Nat, k ≤ xs.length ∧ kv = .int .i64 (k : Int) ∧ Hid (wr.ownsRow (w.heap.size + 1) 3 1 v k (gathered k)) ∧ Below (w.heap.size + 1) w1 wr ∧ (k = 0 → v = .slice none 0 0)) (fun _ kv _ => xs.length - (intOf kv).toNat)
  case atStart => exact ⟨0, Nat.zero_le _, rfl, World.ownsRow_nil _ _ _ _, Below.refl _ _, fun _ => rfl⟩
  case round =>
    obtain ⟨k, hk, rfl, HO, hbw, hkn⟩ := hrel
    have HBW := Lib.hid hbw
    have HKN := Lib.hid hkn
    clear hbw hkn
    have hszr : w.heap.size + 1 ≤ wr.heap.size := by have := HBW.out.size; omega
    by_cases hlt : k < xs.length
    · have hltz : (k : Int) < (xs.length : Int) := by omega
      go_wp2_with (at_builtin; refine wpList_append_own _ rfl _ _ 32 rfl (w.heap.size + 1) 3 i0 (.int .i64 0) 1 8 Try.underlying32 hi hz0 hz1 hz2 rfl (by decide) _ _ _ rfl (HO.out.alloc _) ⟨wr.heap.size, 0, none⟩ 1 1 [.int .i64 (k : Int)] rfl rfl ?c1 ?c2 ?c3 ?c4 ?c5 ?_)
      case c1 =>
        intro j u hj
        match j, hj with
        | 0, hj => simp at hj; subst hj; simp [Addr.add]
      case c2 => intro u hu; simp at hu; subst hu; rfl
      case c3 => unfold maxLen; omega
      case c4 => omega
      case c5 => simp; omega
      intro v' w2 hown2 hgrow _
      have R1 : w2.ownsRow (w.heap.size + 1) 3 1 v' (k + 1) (gathered (k + 1)) := by rw [gathered_succ]; exact hown2
      have R2 : Below (w.heap.size + 1) w1 w2 := (HBW.out.alloc (by omega) _).grown hgrow (by simp; omega) (fun j hj => HO.out.lt j hj |>.1)
      have HR1 := Lib.hid R1
      have HR2 := Lib.hid R2
      clear R1 R2 hown2 hgrow HO HBW
      go_wp2
      go_roundw
      case rel => exact ⟨k + 1, by omega, by go_num, HR1, HR2.out, fun h => by omega⟩
      case measure => simp [intOf]; omega
    · obtain rfl : k = xs.length := by omega
      have hb2 := HBW.out
      have hboxr : wr.cell? ⟨w.heap.size, 0, none⟩ = some (.slice a xs.length cap) := (hb2.cell (by simp)).trans hbox
      have hfr : xs = [] ∨ ∃ g off, a = some ⟨g, off, none⟩ ∧ g < w.heap.size ∧ ∀ i, i < xs.length → wr.cell? ⟨g, off + i, none⟩ = some (.float .f64 (xs.getD i 0)) := by
        rcases HF.out with h | ⟨g, off, ha, hg, hc⟩
        · exact .inl h
        · exact .inr ⟨g, off, ha, hg, fun i hi => ((hb2.cell (by simp; omega)).trans (hb1.cell (by simpa using hg))).trans (hc i hi)⟩
      have hso := sorted_any wr w.heap.size u3 xs a cap HO.out HKN.out (by omega) hboxr hfr hlen
      have HSO := Lib.hid hso
      clear hso hboxr hfr hb2
      go_wp2_with fail
      refine HSO.out.mono ?_
      rintro e w2 ⟨rfl, ps, hps, hown2, hb3⟩
      have HP := Lib.hid hps
      have HO2 := Lib.hid hown2
      clear hps hown2
      go_wp2_with fail
      go_ret
      exact ⟨_, ps, rfl, HP.out, HO2.out, (hb1.trans (HBW.out.mono (by omega))).trans hb3⟩

end Go.Proofs.Ytdcaklonhbiejaa
