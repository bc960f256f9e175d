/-
  satchellaw10: bytes, part, awake.
-/
import Derived.Test.YtkfhljggdcajpaaRead
import Derived.Test.YtkfhljggdcajpaaNwr
import Derived.Deep.RegionHeld3
namespace Go.Proofs.Ytkfhljggdcajpaa
open Go.RowKit Go.Sort

/-- satchellaw10.bytes -/
def OnlyBytes (w : World) (bs : List Int) (e : Ending) (w' : World) : Prop :=
  ∃ a cap, e = .returned (.slice a bs.length cap) ∧ Owns w' a cap bs ∧ Bys bs ∧ (∀ k, blk a = some k → w.heap.size ≤ k) ∧ Below w.heap.size w w'

theorem flatMap_bys {ns : List Int} : Bys (ns.flatMap put) := fun x hx => by
  obtain ⟨n, _, hn⟩ := List.mem_flatMap.1 hx
  exact put_bys n x hn
theorem flatten_bys {ids : List (List Int)} (h : Ids ids) : Bys ids.flatten := fun x hx => by
  obtain ⟨l, hl, hn⟩ := List.mem_flatten.1 hx
  exact (h l hl).2 x hn
theorem noteBytes_bys {x : Note} (hi : Ids x.ids) (hb : Bys x.bs) : Bys (noteBytes x) :=
  ((((((put_bys _).append (put_bys _)).append flatMap_bys).append (put_bys _)).append (flatten_bys hi)).append (put_bys _)).append hb

theorem obytes_any (w : World) (x : Note) (aN : Option Addr) (cN : Nat) (aI : Option Addr) (cI : Nat) (aB : Option Addr) (cB : Nat) (h : NoteIn w x aN aI aB) :
    Calls Try.prog 59 #[x.val aN cN aI cI aB cB] w fun e w' => OnlyBytes w (if x.err = 0 then noteBytes x else []) e w' := by
  have hB0 : Below w.heap.size w (w.alloc (.cells #[.int .i64 x.kind, .slice aN x.ns.length cN, .slice aI x.ids.length cI, .slice aB x.bs.length cB] 69)) := (Below.refl _ _).alloc (Nat.le_refl _) _
  have hby := bytes_any _ x aN cN aI cI aB cB (h.below hB0)
  have Hby := Lib.hid hby
  have HB0 := Lib.hid hB0
  have hbb : Hid (Bys (noteBytes x)) := noteBytes_bys h.wid h.wbs
  unfold Note.val at *
  clear hby h hB0
  by_cases he : x.err = 0
  · rw [if_pos he]
    have HE := Lib.hid he
    clear he
    go_enter Try.func59, Try.ntmps59
    go_wp2_with fail
    refine Hby.out.mono ?_
    rintro e w1 ⟨hB, hq⟩
    rw [if_pos HE.out] at hq
    obtain ⟨a, cap, rfl, own, hn⟩ := hq
    go_wp2_with fail
    go_ret
    exact ⟨a, cap, rfl, own, hbb.out, fun k hk => by have := hn k hk; simp at this; omega, HB0.out.trans (hB.mono (by simp))⟩
  · rw [if_neg he]
    have HE := Lib.hid he
    clear he
    go_enter Try.func59, Try.ntmps59
    go_wp2_with fail
    refine Hby.out.mono ?_
    rintro e w1 ⟨hB, hq⟩
    rw [if_neg HE.out] at hq
    subst hq
    go_wp2_with fail
    go_ret
    exact ⟨none, 0, rfl, Owns.nil _, Bys.nil, (fun k hk => by cases hk), HB0.out.trans (hB.mono (by simp))⟩

/-- the chapter's note -/
def partNote : Note := ⟨2, [300], [], [1, 2]⟩

theorem ints_lit (w : World) (xs : List Int) (t : TypeId) : IntsAt (w.alloc (.cells (ivals xs).toArray t)) (some ⟨w.heap.size, 0, none⟩) xs := by
  refine .inr ⟨w.heap.size, 0, rfl, by simp, fun i hi => ?_⟩
  rw [cell_of_row _ _ _ _ _ _ (heap_alloc_new w _), Nat.zero_add]
  simp [ivals, List.getD, hi]

theorem IntsAt.of_block {w w' : World} {a : Option Addr} {ns : List Int} (h : IntsAt w a ns) (hs : w.heap.size ≤ w'.heap.size) (hb : ∀ b off, a = some ⟨b, off, none⟩ → w'.heap[b]? = w.heap[b]?) : IntsAt w' a ns := by
  rcases h with h | ⟨b, off, ha, hlt, hc⟩
  · exact .inl h
  · exact .inr ⟨b, off, ha, by omega, fun i hi => (World.cell?_of_block (hb b off ha)).trans (hc i hi)⟩

theorem partNote_ids : Ids partNote.ids := fun x hx => by cases hx
theorem partNote_bys : Bys partNote.bs := bys_lit (by decide)

theorem part_any (w : World) : Calls Try.prog 65 #[] w fun e w' => ∃ aN aB, e = .returned (.agg #[.int .i64 2, .slice aN 1 1, .slice none 0 0, .slice aB 2 2]) ∧ NoteIn w' partNote aN none aB ∧ Below w.heap.size w w' := by
  go_enter Try.func65, Try.ntmps65
  go_wp2_with fail
  refine bodyPost_ret (v := .agg #[.int .i64 2, .slice (some ⟨w.heap.size + 1, 0, none⟩) 1 1, .slice none 0 0, .slice (some ⟨w.heap.size + 1 + 1, 0, none⟩) 2 2]) ?_ rfl ⟨_, _, rfl, ?_, ?_⟩
  · simp [results, Try.results65, go_sem]
  · obtain ⟨w1, hw1⟩ : ∃ w1, w.alloc (.cells #[.int .i64 2, .slice (some ⟨w.heap.size + 1, 0, none⟩) 1 1, .slice none 0 0, .slice (some ⟨w.heap.size + 1 + 1, 0, none⟩) 2 2] 69) = w1 := ⟨_, rfl⟩
    have hs1 : w1.heap.size = w.heap.size + 1 := by rw [← hw1]; simp
    rw [hw1, ← hs1]
    have h1 := ints_lit w1 [300] 3
    have h2 := BytesAt.lit (w1.alloc (.cells (ivals [300]).toArray 3)) [1, 2] 5
    have h3 := h1.below ((Below.refl _ _).alloc (Nat.le_refl _) (.cells (bvals [1, 2]).toArray 5)) (Nat.le_refl _)
    rw [World.size_alloc] at h2
    exact ⟨h3, .inl rfl, .inr h2, partNote_ids, partNote_bys, by decide, by decide, by decide⟩
  · exact (((Below.refl _ _).alloc (Nat.le_refl _) _).alloc (by simp) _).alloc (by simp; omega) _

theorem name_have (w : World) : Calls Try.prog 64 #[.int .i64 17] w fun e w' => e = .returned (.string ⟨#[104, 97, 118, 101]⟩) ∧ Below w.heap.size w w' :=
  (name_any 17 w).mono fun _ _ ⟨h1, p, h2⟩ => ⟨by rw [h1]; rfl, by rw [h2]; exact below_grow _ _ _⟩

theorem read_part : rdNote [2, 1, 130, 44, 0, 2, 1, 2] = .ok partNote := by rfl

theorem obytes_commit (w : World) : Calls Try.prog 59 #[.agg #[.int .i64 5, .slice none 0 0, .slice none 0 0, .slice none 0 0]] w fun e w' => ∃ a cap, e = .returned (.slice a 4 cap) ∧ Owns w' a cap [5, 0, 0, 0] ∧ Below w.heap.size w w' := by
  have h := obytes_any w ⟨5, [], [], []⟩ none 0 none 0 none 0 ⟨.inl rfl, .inl rfl, .inl rfl, (fun x hx => by cases hx), Bys.nil, by decide, by decide, by decide⟩
  rw [if_pos (show Note.err ⟨5, [], [], []⟩ = 0 by rfl)] at h
  exact h.mono fun e w' ⟨a, cap, he, own, _, _, hb⟩ => ⟨a, cap, he, own, hb⟩

theorem same_part (w : World) (aN aI aB bN bI bB : Option Addr) (cN cI cB dN dI dB : Nat) (hx : NoteIn w partNote aN aI aB) (hy : NoteIn w partNote bN bI bB) :
    Calls Try.prog 55 #[.agg #[.int .i64 2, .slice aN 1 cN, .slice aI 0 cI, .slice aB 2 cB], .agg #[.int .i64 2, .slice bN 1 dN, .slice bI 0 dI, .slice bB 2 dB]] w fun e w' => e = .returned (.bool true) ∧ Below w.heap.size w w' :=
  (same_note_any w partNote partNote aN aI aB bN bI bB cN cI cB dN dI dB hx hy).mono fun e w' ⟨he, hb⟩ => ⟨by rw [he, decide_eq_true rfl], hb⟩

theorem read_part_any (w : World) : Calls Try.prog 57 #[.slice (some ⟨w.heap.size, 0, none⟩) 8 8] (w.alloc (.cells #[.int .u8 2, .int .u8 1, .int .u8 130, .int .u8 44, .int .u8 0, .int .u8 2, .int .u8 1, .int .u8 2] 5)) fun e w' =>
    ∃ aN cN aI cI aB cB, e = .returned (.tuple #[.agg #[.int .i64 2, .slice aN 1 cN, .slice aI 0 cI, .slice aB 2 cB], .agg #[.int .i64 0, .int .i64 0]]) ∧ NoteIn w' partNote aN aI aB ∧ Below w.heap.size w w' := by
  refine (read_any (w.alloc (.cells #[.int .u8 2, .int .u8 1, .int .u8 130, .int .u8 44, .int .u8 0, .int .u8 2, .int .u8 1, .int .u8 2] 5)) (some ⟨w.heap.size, 0, none⟩) 8 [2, 1, 130, 44, 0, 2, 1, 2] (.inr (BytesAt.lit w [2, 1, 130, 44, 0, 2, 1, 2] 5)) (bys_lit (by decide)) (by decide)).mono ?_
  rintro e w' ⟨hB, hq⟩
  rw [read_part] at hq
  obtain ⟨aN, cN, aI, cI, aB, cB, he, hn, _⟩ := hq
  exact ⟨aN, cN, aI, cI, aB, cB, he, hn, ((Below.refl _ _).alloc (Nat.le_refl _) _).trans (hB.mono (by simp))⟩

set_option maxRecDepth 1000000 in
set_option maxHeartbeats 2000000 in
/-- satchellaw10.awake -/
theorem awake10_any (w : World) : Calls Try.prog 56 #[] w fun e w' => e = .returned (.bool true) ∧ Below w.heap.size w w' := by
  go_enter Try.func56, Try.ntmps56
  go_wp2_with fail
  refine (read_part_any _).mono ?_
  rintro e w1 ⟨aN, cN, aI, cI, aB, cB, rfl, hN, hB⟩
  have hk : Below w1.heap.size w1 ((w1.alloc (.cells #[.int .i64 2, .slice aN 1 cN, .slice aI 0 cI, .slice aB 2 cB] 69)).alloc (.cells #[.int .i64 0, .int .i64 0] 51)) := ((Below.refl _ _).alloc (Nat.le_refl _) _).alloc (by simp) _
  have HX := Lib.hid (hN.below hk)
  have HB := Lib.hid (hB.trans (hk.mono hB.size))
  have hr1 := heap_alloc2_old w1 (.cells #[.int .i64 2, .slice aN 1 cN, .slice aI 0 cI, .slice aB 2 cB] 69) (.cells #[.int .i64 0, .int .i64 0] 51)
  have hr2 := heap_alloc2_new w1 (.cells #[.int .i64 2, .slice aN 1 cN, .slice aI 0 cI, .slice aB 2 cB] 69) (.cells #[.int .i64 0, .int .i64 0] 51)
  have HR1 := Lib.hid hr1
  have HR2 := Lib.hid hr2
  clear hN hB hk hr1 hr2
  go_wp2_with fail
  generalize (w1.alloc (.cells #[.int .i64 2, .slice aN 1 cN, .slice aI 0 cI, .slice aB 2 cB] 69)).alloc (.cells #[.int .i64 0, .int .i64 0] 51) = w2 at *
  generalize w1.heap.size + 1 = p2 at *
  generalize w1.heap.size = p1 at *
  have hby : Bys [5, 0, 0, 0] := bys_lit (by decide)
  have HBy := Lib.hid hby
  clear hby
  refine wp_region_held_drew (S := fun _ => True) mixed trivial (fun hS => ?_)
  refine wpAnyH_take (i := 0) (v := .agg #[.int .i64 5, .slice none 0 0, .slice none 0 0, .slice none 0 0]) rfl (by kernel_rfl) (by kernel_rfl) (by kernel_rfl) (fun c a w h => h) (.inl ⟨rfl, fun w hw => by simp [go_sem]⟩) hS ?_
  refine wpAnyH_all (rs := [1, 2]) (by kernel_rfl) (by simp) (fun i hi => ?_)
  rcases (show i = 1 ∨ i = 2 by simpa using hi) with rfl | rfl
  · refine wpOp_step rfl (fun K hK => ?_)
    have HK := Lib.hid hK
    clear hK
    go_simp
    refine (obytes_commit _).mono ?_
    rintro e w3 ⟨a3, cap3, rfl, own3, hB3⟩
    have HK3 := Lib.hid ((below_drew (Below.refl _ w2)).trans hB3)
    have HO3 := Lib.hid own3
    clear hB3 own3
    have hr3 := (HK3.out.block _ (lt_of_row HR1.out)).trans HR1.out
    have hq3 := (HK3.out.block _ (lt_of_row HR2.out)).trans HR2.out
    have c10 : w3.cell? ⟨p1, 0, none⟩ = some (.int .i64 2) := by rw [cell_of_row _ _ _ _ _ _ hr3]; rfl
    have c11 : w3.cell? ⟨p1, 1, none⟩ = some (.slice aN 1 cN) := by rw [cell_of_row _ _ _ _ _ _ hr3]; rfl
    have c12 : w3.cell? ⟨p1, 2, none⟩ = some (.slice aI 0 cI) := by rw [cell_of_row _ _ _ _ _ _ hr3]; rfl
    have c13 : w3.cell? ⟨p1, 3, none⟩ = some (.slice aB 2 cB) := by rw [cell_of_row _ _ _ _ _ _ hr3]; rfl
    have c20 : w3.cell? ⟨p2, 0, none⟩ = some (.int .i64 0) := by rw [cell_of_row _ _ _ _ _ _ hq3]; rfl
    have l13 := lt_of_row hr3
    have l23 := lt_of_row hq3
    clear hr3 hq3
    with_reducible refine HK.out _ _ ⟨trivial, ?_⟩
    clear HK
    refine wpAnyH_all (rs := [2]) (by kernel_rfl) (by simp) (fun i hi => ?_)
    obtain rfl : i = 2 := by simpa using hi
    refine wpOp_step rfl (fun K hK => ?_)
    have HK := Lib.hid hK
    clear hK
    go_simp
    with_reducible refine HK.out _ _ ⟨trivial, ?_⟩
    clear HK
    refine wpAnyH_all (rs := [3]) (by kernel_rfl) (by simp) (fun i hi => ?_)
    obtain rfl : i = 3 := by simpa using hi
    refine wpOp_step rfl (fun K hK => ?_)
    have HK := Lib.hid hK
    clear hK
    go_simp
    refine (same_src_k (w3.alloc (.cells (bvals [5, 0, 0, 0]).toArray 5)) a3 (some ⟨w3.heap.size, 0, none⟩) cap3 4 [5, 0, 0, 0] [5, 0, 0, 0] HBy.out HBy.out (.inr (HO3.out.bytes.below ((Below.refl _ _).alloc (Nat.le_refl _) _))) (.inr (BytesAt.lit w3 [5, 0, 0, 0] 5)) true rfl).mono ?_
    rintro e w4 ⟨rfl, rfl⟩
    with_reducible refine HK.out _ _ ⟨trivial, ?_⟩
    clear HK
    refine wpAnyH_all (rs := [4]) (by kernel_rfl) (by simp) (fun i hi => ?_)
    obtain rfl : i = 4 := by simpa using hi
    refine wpOp_step rfl (fun K hK => ?_)
    have HK := Lib.hid hK
    clear hK
    go_simp
    with_reducible refine HK.out _ _ ⟨trivial, ?_⟩
    clear HK
    refine wpAnyH_all (rs := [5]) (by kernel_rfl) (by simp) (fun i hi => ?_)
    obtain rfl : i = 5 := by simpa using hi
    refine wpOp_step rfl (fun K hK => ?_)
    have HK := Lib.hid hK
    clear hK
    go_simp
    with_reducible refine HK.out _ _ ⟨trivial, ?_⟩
    clear HK
    refine wpAnyH_all (rs := [6]) (by kernel_rfl) (by simp) (fun i hi => ?_)
    obtain rfl : i = 6 := by simpa using hi
    refine wpOp_step rfl (fun K hK => ?_)
    have HK := Lib.hid hK
    clear hK
    go_simp
    with_reducible refine HK.out _ _ ⟨trivial, ?_⟩
    clear HK
    refine wpAnyH_all (rs := [7]) (by kernel_rfl) (by simp) (fun i hi => ?_)
    obtain rfl : i = 7 := by simpa using hi
    refine wpOp_step rfl (fun K hK => ?_)
    have HK := Lib.hid hK
    clear hK
    go_simp
    with_reducible refine HK.out _ _ ⟨trivial, ?_⟩
    clear HK
    refine wpAnyH_all (rs := [8]) (by kernel_rfl) (by simp) (fun i hi => ?_)
    obtain rfl : i = 8 := by simpa using hi
    refine wpOp_step rfl (fun K hK => ?_)
    have HK := Lib.hid hK
    clear hK
    go_simp
    with_reducible refine HK.out _ _ ⟨trivial, ?_⟩
    clear HK
    refine wpAnyH_all (rs := [9]) (by kernel_rfl) (by simp) (fun i hi => ?_)
    obtain rfl : i = 9 := by simpa using hi
    refine wpOp_step rfl (fun K hK => ?_)
    have HK := Lib.hid hK
    clear hK
    go_simp
    with_reducible refine HK.out _ _ ⟨trivial, ?_⟩
    clear HK
    refine wpAnyH_all (rs := [10, 11]) (by kernel_rfl) (by simp) (fun i hi => ?_)
    rcases (show i = 10 ∨ i = 11 by simpa using hi) with rfl | rfl
    · refine wpOp_step rfl (fun K hK => ?_)
      have HK := Lib.hid hK
      clear hK
      go_simp
      with_reducible refine HK.out _ _ ⟨trivial, ?_⟩
      clear HK
      refine wpAnyH_all (rs := [11]) (by kernel_rfl) (by simp) (fun i hi => ?_)
      obtain rfl : i = 11 := by simpa using hi
      refine wpOp_step rfl (fun K hK => ?_)
      have HK := Lib.hid hK
      clear hK
      go_simp
      refine (part_any _).mono ?_
      rintro e w5 ⟨aP, aQ, rfl, hP, hB5⟩
      have HP := Lib.hid hP
      have HK5 := Lib.hid ((HK3.out.alloc HK3.out.size _).trans (hB5.mono (by have := HK3.out.size; simp <;> omega)))
      have hr5 := (HK5.out.block _ (lt_of_row HR1.out)).trans HR1.out
      have e10 : w5.cell? ⟨p1, 0, none⟩ = some (.int .i64 2) := by rw [cell_of_row _ _ _ _ _ _ hr5]; rfl
      have e11 : w5.cell? ⟨p1, 1, none⟩ = some (.slice aN 1 cN) := by rw [cell_of_row _ _ _ _ _ _ hr5]; rfl
      have e12 : w5.cell? ⟨p1, 2, none⟩ = some (.slice aI 0 cI) := by rw [cell_of_row _ _ _ _ _ _ hr5]; rfl
      have e13 : w5.cell? ⟨p1, 3, none⟩ = some (.slice aB 2 cB) := by rw [cell_of_row _ _ _ _ _ _ hr5]; rfl
      clear hr5 hB5 hP
      with_reducible refine HK.out _ _ ⟨trivial, ?_⟩
      clear HK
      refine wpAnyH_all (rs := [12]) (by kernel_rfl) (by simp) (fun i hi => ?_)
      obtain rfl : i = 12 := by simpa using hi
      refine wpOp_step rfl (fun K hK => ?_)
      have HK := Lib.hid hK
      clear hK
      go_simp
      refine (same_part _ _ _ _ _ _ _ _ _ _ _ _ _ (HX.out.below HK5.out) HP.out).mono ?_
      rintro e w6 ⟨rfl, hB6⟩
      have HK6 := Lib.hid (HK5.out.trans (hB6.mono HK5.out.size))
      clear hB6
      with_reducible refine HK.out _ _ ⟨trivial, ?_⟩
      clear HK
      refine wpAnyH_all (rs := [13]) (by kernel_rfl) (by simp) (fun i hi => ?_)
      obtain rfl : i = 13 := by simpa using hi
      refine wpOp_step rfl (fun K hK => ?_)
      have HK := Lib.hid hK
      clear hK
      go_simp
      with_reducible refine HK.out _ _ ⟨trivial, ?_⟩
      clear HK
      refine wpAnyH_all (rs := [14]) (by kernel_rfl) (by simp) (fun i hi => ?_)
      obtain rfl : i = 14 := by simpa using hi
      refine wpOp_step rfl (fun K hK => ?_)
      have HK := Lib.hid hK
      clear hK
      go_simp
      with_reducible refine HK.out _ _ ⟨trivial, ?_⟩
      clear HK
      refine wpAnyH_all (rs := [15]) (by kernel_rfl) (by simp) (fun i hi => ?_)
      obtain rfl : i = 15 := by simpa using hi
      refine wpOp_step rfl (fun K hK => ?_)
      have HK := Lib.hid hK
      clear hK
      go_simp
      refine (name_have _).mono ?_
      rintro e w7 ⟨rfl, hB7⟩
      have HK7 := Lib.hid (HK6.out.trans (hB7.mono HK6.out.size))
      clear hB7
      with_reducible refine HK.out _ _ ⟨trivial, ?_⟩
      clear HK
      refine wpAnyH_all (rs := [16]) (by kernel_rfl) (by simp) (fun i hi => ?_)
      obtain rfl : i = 16 := by simpa using hi
      refine wpOp_step rfl (fun K hK => ?_)
      have HK := Lib.hid hK
      clear hK
      go_simp
      with_reducible refine HK.out _ _ ⟨trivial, ?_⟩
      clear HK
      refine wpAnyH_all (rs := [17]) (by kernel_rfl) (by simp) (fun i hi => ?_)
      obtain rfl : i = 17 := by simpa using hi
      refine wpOp_step rfl (fun K hK => ?_)
      have HK := Lib.hid hK
      clear hK
      go_simp
      with_reducible refine HK.out _ _ ⟨trivial, ?_⟩
      clear HK
      refine wpAnyH_all (rs := [18]) (by kernel_rfl) (by simp) (fun i hi => ?_)
      obtain rfl : i = 18 := by simpa using hi
      refine wpOp_step rfl (fun K hK => ?_)
      have HK := Lib.hid hK
      clear hK
      go_simp
      with_reducible refine HK.out _ _ ⟨trivial, ?_⟩
      clear HK
      refine wpAnyH_done (by kernel_rfl) ?_ _
      go_wp2_with fail
      go_ret
      exact ⟨rfl, HB.out.trans (HK7.out.mono HB.out.size)⟩
    · refine wpOp_step rfl (fun K hK => ?_)
      have HK := Lib.hid hK
      clear hK
      go_simp
      refine (part_any _).mono ?_
      rintro e w5 ⟨aP, aQ, rfl, hP, hB5⟩
      have HP := Lib.hid hP
      have HK5 := Lib.hid ((HK3.out.alloc HK3.out.size _).trans (hB5.mono (by have := HK3.out.size; simp <;> omega)))
      have hr5 := (HK5.out.block _ (lt_of_row HR1.out)).trans HR1.out
      have e10 : w5.cell? ⟨p1, 0, none⟩ = some (.int .i64 2) := by rw [cell_of_row _ _ _ _ _ _ hr5]; rfl
      have e11 : w5.cell? ⟨p1, 1, none⟩ = some (.slice aN 1 cN) := by rw [cell_of_row _ _ _ _ _ _ hr5]; rfl
      have e12 : w5.cell? ⟨p1, 2, none⟩ = some (.slice aI 0 cI) := by rw [cell_of_row _ _ _ _ _ _ hr5]; rfl
      have e13 : w5.cell? ⟨p1, 3, none⟩ = some (.slice aB 2 cB) := by rw [cell_of_row _ _ _ _ _ _ hr5]; rfl
      clear hr5 hB5 hP
      with_reducible refine HK.out _ _ ⟨trivial, ?_⟩
      clear HK
      refine wpAnyH_all (rs := [10]) (by kernel_rfl) (by simp) (fun i hi => ?_)
      obtain rfl : i = 10 := by simpa using hi
      refine wpOp_step rfl (fun K hK => ?_)
      have HK := Lib.hid hK
      clear hK
      go_simp
      with_reducible refine HK.out _ _ ⟨trivial, ?_⟩
      clear HK
      refine wpAnyH_all (rs := [12]) (by kernel_rfl) (by simp) (fun i hi => ?_)
      obtain rfl : i = 12 := by simpa using hi
      refine wpOp_step rfl (fun K hK => ?_)
      have HK := Lib.hid hK
      clear hK
      go_simp
      refine (same_part _ _ _ _ _ _ _ _ _ _ _ _ _ (HX.out.below HK5.out) HP.out).mono ?_
      rintro e w6 ⟨rfl, hB6⟩
      have HK6 := Lib.hid (HK5.out.trans (hB6.mono HK5.out.size))
      clear hB6
      with_reducible refine HK.out _ _ ⟨trivial, ?_⟩
      clear HK
      refine wpAnyH_all (rs := [13]) (by kernel_rfl) (by simp) (fun i hi => ?_)
      obtain rfl : i = 13 := by simpa using hi
      refine wpOp_step rfl (fun K hK => ?_)
      have HK := Lib.hid hK
      clear hK
      go_simp
      with_reducible refine HK.out _ _ ⟨trivial, ?_⟩
      clear HK
      refine wpAnyH_all (rs := [14]) (by kernel_rfl) (by simp) (fun i hi => ?_)
      obtain rfl : i = 14 := by simpa using hi
      refine wpOp_step rfl (fun K hK => ?_)
      have HK := Lib.hid hK
      clear hK
      go_simp
      with_reducible refine HK.out _ _ ⟨trivial, ?_⟩
      clear HK
      refine wpAnyH_all (rs := [15]) (by kernel_rfl) (by simp) (fun i hi => ?_)
      obtain rfl : i = 15 := by simpa using hi
      refine wpOp_step rfl (fun K hK => ?_)
      have HK := Lib.hid hK
      clear hK
      go_simp
      refine (name_have _).mono ?_
      rintro e w7 ⟨rfl, hB7⟩
      have HK7 := Lib.hid (HK6.out.trans (hB7.mono HK6.out.size))
      clear hB7
      with_reducible refine HK.out _ _ ⟨trivial, ?_⟩
      clear HK
      refine wpAnyH_all (rs := [16]) (by kernel_rfl) (by simp) (fun i hi => ?_)
      obtain rfl : i = 16 := by simpa using hi
      refine wpOp_step rfl (fun K hK => ?_)
      have HK := Lib.hid hK
      clear hK
      go_simp
      with_reducible refine HK.out _ _ ⟨trivial, ?_⟩
      clear HK
      refine wpAnyH_all (rs := [17]) (by kernel_rfl) (by simp) (fun i hi => ?_)
      obtain rfl : i = 17 := by simpa using hi
      refine wpOp_step rfl (fun K hK => ?_)
      have HK := Lib.hid hK
      clear hK
      go_simp
      with_reducible refine HK.out _ _ ⟨trivial, ?_⟩
      clear HK
      refine wpAnyH_all (rs := [18]) (by kernel_rfl) (by simp) (fun i hi => ?_)
      obtain rfl : i = 18 := by simpa using hi
      refine wpOp_step rfl (fun K hK => ?_)
      have HK := Lib.hid hK
      clear hK
      go_simp
      with_reducible refine HK.out _ _ ⟨trivial, ?_⟩
      clear HK
      refine wpAnyH_done (by kernel_rfl) ?_ _
      go_wp2_with fail
      go_ret
      exact ⟨rfl, HB.out.trans (HK7.out.mono HB.out.size)⟩
  · refine wpOp_step rfl (fun K hK => ?_)
    have HK := Lib.hid hK
    clear hK
    go_simp
    with_reducible refine HK.out _ _ ⟨trivial, ?_⟩
    clear HK
    refine wpAnyH_all (rs := [1]) (by kernel_rfl) (by simp) (fun i hi => ?_)
    obtain rfl : i = 1 := by simpa using hi
    refine wpOp_step rfl (fun K hK => ?_)
    have HK := Lib.hid hK
    clear hK
    go_simp
    refine (obytes_commit _).mono ?_
    rintro e w3 ⟨a3, cap3, rfl, own3, hB3⟩
    have HL3 := Lib.hid ((BytesAt.lit w2.drew [5, 0, 0, 0] 5).below hB3)
    have HK3 := Lib.hid (((below_drew (Below.refl _ w2)).alloc (Nat.le_refl _) _).trans (hB3.mono (by simp)))
    have HO3 := Lib.hid own3
    clear hB3 own3
    have hr3 := (HK3.out.block _ (lt_of_row HR1.out)).trans HR1.out
    have hq3 := (HK3.out.block _ (lt_of_row HR2.out)).trans HR2.out
    have c10 : w3.cell? ⟨p1, 0, none⟩ = some (.int .i64 2) := by rw [cell_of_row _ _ _ _ _ _ hr3]; rfl
    have c11 : w3.cell? ⟨p1, 1, none⟩ = some (.slice aN 1 cN) := by rw [cell_of_row _ _ _ _ _ _ hr3]; rfl
    have c12 : w3.cell? ⟨p1, 2, none⟩ = some (.slice aI 0 cI) := by rw [cell_of_row _ _ _ _ _ _ hr3]; rfl
    have c13 : w3.cell? ⟨p1, 3, none⟩ = some (.slice aB 2 cB) := by rw [cell_of_row _ _ _ _ _ _ hr3]; rfl
    have c20 : w3.cell? ⟨p2, 0, none⟩ = some (.int .i64 0) := by rw [cell_of_row _ _ _ _ _ _ hq3]; rfl
    have l13 := lt_of_row hr3
    have l23 := lt_of_row hq3
    clear hr3 hq3
    with_reducible refine HK.out _ _ ⟨trivial, ?_⟩
    clear HK
    refine wpAnyH_all (rs := [3]) (by kernel_rfl) (by simp) (fun i hi => ?_)
    obtain rfl : i = 3 := by simpa using hi
    refine wpOp_step rfl (fun K hK => ?_)
    have HK := Lib.hid hK
    clear hK
    go_simp
    refine (same_src_k w3 a3 (some ⟨w2.heap.size, 0, none⟩) cap3 4 [5, 0, 0, 0] [5, 0, 0, 0] HBy.out HBy.out (.inr HO3.out.bytes) (.inr HL3.out) true rfl).mono ?_
    rintro e w4 ⟨rfl, rfl⟩
    with_reducible refine HK.out _ _ ⟨trivial, ?_⟩
    clear HK
    refine wpAnyH_all (rs := [4]) (by kernel_rfl) (by simp) (fun i hi => ?_)
    obtain rfl : i = 4 := by simpa using hi
    refine wpOp_step rfl (fun K hK => ?_)
    have HK := Lib.hid hK
    clear hK
    go_simp
    with_reducible refine HK.out _ _ ⟨trivial, ?_⟩
    clear HK
    refine wpAnyH_all (rs := [5]) (by kernel_rfl) (by simp) (fun i hi => ?_)
    obtain rfl : i = 5 := by simpa using hi
    refine wpOp_step rfl (fun K hK => ?_)
    have HK := Lib.hid hK
    clear hK
    go_simp
    with_reducible refine HK.out _ _ ⟨trivial, ?_⟩
    clear HK
    refine wpAnyH_all (rs := [6]) (by kernel_rfl) (by simp) (fun i hi => ?_)
    obtain rfl : i = 6 := by simpa using hi
    refine wpOp_step rfl (fun K hK => ?_)
    have HK := Lib.hid hK
    clear hK
    go_simp
    with_reducible refine HK.out _ _ ⟨trivial, ?_⟩
    clear HK
    refine wpAnyH_all (rs := [7]) (by kernel_rfl) (by simp) (fun i hi => ?_)
    obtain rfl : i = 7 := by simpa using hi
    refine wpOp_step rfl (fun K hK => ?_)
    have HK := Lib.hid hK
    clear hK
    go_simp
    with_reducible refine HK.out _ _ ⟨trivial, ?_⟩
    clear HK
    refine wpAnyH_all (rs := [8]) (by kernel_rfl) (by simp) (fun i hi => ?_)
    obtain rfl : i = 8 := by simpa using hi
    refine wpOp_step rfl (fun K hK => ?_)
    have HK := Lib.hid hK
    clear hK
    go_simp
    with_reducible refine HK.out _ _ ⟨trivial, ?_⟩
    clear HK
    refine wpAnyH_all (rs := [9]) (by kernel_rfl) (by simp) (fun i hi => ?_)
    obtain rfl : i = 9 := by simpa using hi
    refine wpOp_step rfl (fun K hK => ?_)
    have HK := Lib.hid hK
    clear hK
    go_simp
    with_reducible refine HK.out _ _ ⟨trivial, ?_⟩
    clear HK
    refine wpAnyH_all (rs := [10, 11]) (by kernel_rfl) (by simp) (fun i hi => ?_)
    rcases (show i = 10 ∨ i = 11 by simpa using hi) with rfl | rfl
    · refine wpOp_step rfl (fun K hK => ?_)
      have HK := Lib.hid hK
      clear hK
      go_simp
      with_reducible refine HK.out _ _ ⟨trivial, ?_⟩
      clear HK
      refine wpAnyH_all (rs := [11]) (by kernel_rfl) (by simp) (fun i hi => ?_)
      obtain rfl : i = 11 := by simpa using hi
      refine wpOp_step rfl (fun K hK => ?_)
      have HK := Lib.hid hK
      clear hK
      go_simp
      refine (part_any _).mono ?_
      rintro e w5 ⟨aP, aQ, rfl, hP, hB5⟩
      have HP := Lib.hid hP
      have HK5 := Lib.hid (HK3.out.trans (hB5.mono (by have := HK3.out.size; simp <;> omega)))
      have hr5 := (HK5.out.block _ (lt_of_row HR1.out)).trans HR1.out
      have e10 : w5.cell? ⟨p1, 0, none⟩ = some (.int .i64 2) := by rw [cell_of_row _ _ _ _ _ _ hr5]; rfl
      have e11 : w5.cell? ⟨p1, 1, none⟩ = some (.slice aN 1 cN) := by rw [cell_of_row _ _ _ _ _ _ hr5]; rfl
      have e12 : w5.cell? ⟨p1, 2, none⟩ = some (.slice aI 0 cI) := by rw [cell_of_row _ _ _ _ _ _ hr5]; rfl
      have e13 : w5.cell? ⟨p1, 3, none⟩ = some (.slice aB 2 cB) := by rw [cell_of_row _ _ _ _ _ _ hr5]; rfl
      clear hr5 hB5 hP
      with_reducible refine HK.out _ _ ⟨trivial, ?_⟩
      clear HK
      refine wpAnyH_all (rs := [12]) (by kernel_rfl) (by simp) (fun i hi => ?_)
      obtain rfl : i = 12 := by simpa using hi
      refine wpOp_step rfl (fun K hK => ?_)
      have HK := Lib.hid hK
      clear hK
      go_simp
      refine (same_part _ _ _ _ _ _ _ _ _ _ _ _ _ (HX.out.below HK5.out) HP.out).mono ?_
      rintro e w6 ⟨rfl, hB6⟩
      have HK6 := Lib.hid (HK5.out.trans (hB6.mono HK5.out.size))
      clear hB6
      with_reducible refine HK.out _ _ ⟨trivial, ?_⟩
      clear HK
      refine wpAnyH_all (rs := [13]) (by kernel_rfl) (by simp) (fun i hi => ?_)
      obtain rfl : i = 13 := by simpa using hi
      refine wpOp_step rfl (fun K hK => ?_)
      have HK := Lib.hid hK
      clear hK
      go_simp
      with_reducible refine HK.out _ _ ⟨trivial, ?_⟩
      clear HK
      refine wpAnyH_all (rs := [14]) (by kernel_rfl) (by simp) (fun i hi => ?_)
      obtain rfl : i = 14 := by simpa using hi
      refine wpOp_step rfl (fun K hK => ?_)
      have HK := Lib.hid hK
      clear hK
      go_simp
      with_reducible refine HK.out _ _ ⟨trivial, ?_⟩
      clear HK
      refine wpAnyH_all (rs := [15]) (by kernel_rfl) (by simp) (fun i hi => ?_)
      obtain rfl : i = 15 := by simpa using hi
      refine wpOp_step rfl (fun K hK => ?_)
      have HK := Lib.hid hK
      clear hK
      go_simp
      refine (name_have _).mono ?_
      rintro e w7 ⟨rfl, hB7⟩
      have HK7 := Lib.hid (HK6.out.trans (hB7.mono HK6.out.size))
      clear hB7
      with_reducible refine HK.out _ _ ⟨trivial, ?_⟩
      clear HK
      refine wpAnyH_all (rs := [16]) (by kernel_rfl) (by simp) (fun i hi => ?_)
      obtain rfl : i = 16 := by simpa using hi
      refine wpOp_step rfl (fun K hK => ?_)
      have HK := Lib.hid hK
      clear hK
      go_simp
      with_reducible refine HK.out _ _ ⟨trivial, ?_⟩
      clear HK
      refine wpAnyH_all (rs := [17]) (by kernel_rfl) (by simp) (fun i hi => ?_)
      obtain rfl : i = 17 := by simpa using hi
      refine wpOp_step rfl (fun K hK => ?_)
      have HK := Lib.hid hK
      clear hK
      go_simp
      with_reducible refine HK.out _ _ ⟨trivial, ?_⟩
      clear HK
      refine wpAnyH_all (rs := [18]) (by kernel_rfl) (by simp) (fun i hi => ?_)
      obtain rfl : i = 18 := by simpa using hi
      refine wpOp_step rfl (fun K hK => ?_)
      have HK := Lib.hid hK
      clear hK
      go_simp
      with_reducible refine HK.out _ _ ⟨trivial, ?_⟩
      clear HK
      refine wpAnyH_done (by kernel_rfl) ?_ _
      go_wp2_with fail
      go_ret
      exact ⟨rfl, HB.out.trans (HK7.out.mono HB.out.size)⟩
    · refine wpOp_step rfl (fun K hK => ?_)
      have HK := Lib.hid hK
      clear hK
      go_simp
      refine (part_any _).mono ?_
      rintro e w5 ⟨aP, aQ, rfl, hP, hB5⟩
      have HP := Lib.hid hP
      have HK5 := Lib.hid (HK3.out.trans (hB5.mono (by have := HK3.out.size; simp <;> omega)))
      have hr5 := (HK5.out.block _ (lt_of_row HR1.out)).trans HR1.out
      have e10 : w5.cell? ⟨p1, 0, none⟩ = some (.int .i64 2) := by rw [cell_of_row _ _ _ _ _ _ hr5]; rfl
      have e11 : w5.cell? ⟨p1, 1, none⟩ = some (.slice aN 1 cN) := by rw [cell_of_row _ _ _ _ _ _ hr5]; rfl
      have e12 : w5.cell? ⟨p1, 2, none⟩ = some (.slice aI 0 cI) := by rw [cell_of_row _ _ _ _ _ _ hr5]; rfl
      have e13 : w5.cell? ⟨p1, 3, none⟩ = some (.slice aB 2 cB) := by rw [cell_of_row _ _ _ _ _ _ hr5]; rfl
      clear hr5 hB5 hP
      with_reducible refine HK.out _ _ ⟨trivial, ?_⟩
      clear HK
      refine wpAnyH_all (rs := [10]) (by kernel_rfl) (by simp) (fun i hi => ?_)
      obtain rfl : i = 10 := by simpa using hi
      refine wpOp_step rfl (fun K hK => ?_)
      have HK := Lib.hid hK
      clear hK
      go_simp
      with_reducible refine HK.out _ _ ⟨trivial, ?_⟩
      clear HK
      refine wpAnyH_all (rs := [12]) (by kernel_rfl) (by simp) (fun i hi => ?_)
      obtain rfl : i = 12 := by simpa using hi
      refine wpOp_step rfl (fun K hK => ?_)
      have HK := Lib.hid hK
      clear hK
      go_simp
      refine (same_part _ _ _ _ _ _ _ _ _ _ _ _ _ (HX.out.below HK5.out) HP.out).mono ?_
      rintro e w6 ⟨rfl, hB6⟩
      have HK6 := Lib.hid (HK5.out.trans (hB6.mono HK5.out.size))
      clear hB6
      with_reducible refine HK.out _ _ ⟨trivial, ?_⟩
      clear HK
      refine wpAnyH_all (rs := [13]) (by kernel_rfl) (by simp) (fun i hi => ?_)
      obtain rfl : i = 13 := by simpa using hi
      refine wpOp_step rfl (fun K hK => ?_)
      have HK := Lib.hid hK
      clear hK
      go_simp
      with_reducible refine HK.out _ _ ⟨trivial, ?_⟩
      clear HK
      refine wpAnyH_all (rs := [14]) (by kernel_rfl) (by simp) (fun i hi => ?_)
      obtain rfl : i = 14 := by simpa using hi
      refine wpOp_step rfl (fun K hK => ?_)
      have HK := Lib.hid hK
      clear hK
      go_simp
      with_reducible refine HK.out _ _ ⟨trivial, ?_⟩
      clear HK
      refine wpAnyH_all (rs := [15]) (by kernel_rfl) (by simp) (fun i hi => ?_)
      obtain rfl : i = 15 := by simpa using hi
      refine wpOp_step rfl (fun K hK => ?_)
      have HK := Lib.hid hK
      clear hK
      go_simp
      refine (name_have _).mono ?_
      rintro e w7 ⟨rfl, hB7⟩
      have HK7 := Lib.hid (HK6.out.trans (hB7.mono HK6.out.size))
      clear hB7
      with_reducible refine HK.out _ _ ⟨trivial, ?_⟩
      clear HK
      refine wpAnyH_all (rs := [16]) (by kernel_rfl) (by simp) (fun i hi => ?_)
      obtain rfl : i = 16 := by simpa using hi
      refine wpOp_step rfl (fun K hK => ?_)
      have HK := Lib.hid hK
      clear hK
      go_simp
      with_reducible refine HK.out _ _ ⟨trivial, ?_⟩
      clear HK
      refine wpAnyH_all (rs := [17]) (by kernel_rfl) (by simp) (fun i hi => ?_)
      obtain rfl : i = 17 := by simpa using hi
      refine wpOp_step rfl (fun K hK => ?_)
      have HK := Lib.hid hK
      clear hK
      go_simp
      with_reducible refine HK.out _ _ ⟨trivial, ?_⟩
      clear HK
      refine wpAnyH_all (rs := [18]) (by kernel_rfl) (by simp) (fun i hi => ?_)
      obtain rfl : i = 18 := by simpa using hi
      refine wpOp_step rfl (fun K hK => ?_)
      have HK := Lib.hid hK
      clear hK
      go_simp
      with_reducible refine HK.out _ _ ⟨trivial, ?_⟩
      clear HK
      refine wpAnyH_done (by kernel_rfl) ?_ _
      go_wp2_with fail
      go_ret
      exact ⟨rfl, HB.out.trans (HK7.out.mono HB.out.size)⟩

end Go.Proofs.Ytkfhljggdcajpaa
