/-
  What FieldWrites is handed: a list of steps; large.
-/
import Derived.Test.YtkfhljggdcajpaaKitOut
namespace Go.Proofs.Ytkfhljggdcajpaa
open Go.RowKit

/-- a step, as it came in -/
structure Act1 where
  kind : Int
  n : Int
  low : Int
  a : Option Addr
  cap : Nat
  xs : List Int
  id : List Int

/-- a step lies at an address -/
structure ActIn (w : World) (g o : Nat) (t : Act1) : Prop where
  lt : g < w.heap.size
  kind : w.cell? ⟨g, o, none⟩ = some (.int .i64 t.kind)
  n : w.cell? ⟨g, o + 1, none⟩ = some (.int .i64 t.n)
  low : w.cell? ⟨g, o + 2, none⟩ = some (.int .i64 t.low)
  xs : w.cell? ⟨g, o + 3, none⟩ = some (.slice t.a t.xs.length t.cap)
  id : ∀ j, j < 16 → w.cell? ⟨g, o + 4 + j, none⟩ = some (.int .u8 (t.id.getD j 0))
  id16 : t.id.length = 16
  idb : Bys t.id
  xsb : Bys t.xs
  src : Src w t.a t.xs
  reach : t.xs.length ≤ 140737488355328

theorem Src.below {w w' : World} {a : Option Addr} {xs : List Int} (h : Src w a xs) (hb : Below w.heap.size w w') : Src w' a xs := h.imp id (fun k => k.below hb)
theorem ActIn.below {w w' : World} {g o : Nat} {t : Act1} (h : ActIn w g o t) (hb : Below w.heap.size w w') : ActIn w' g o t := by
  have hc : ∀ o', w'.cell? ⟨g, o', none⟩ = w.cell? ⟨g, o', none⟩ := fun o' => hb.cell h.lt
  have hs := hb.size
  have h0 := h.lt
  exact ⟨by omega, (hc _).trans h.kind, (hc _).trans h.n, (hc _).trans h.low, (hc _).trans h.xs, fun j hj => (hc _).trans (h.id j hj), h.id16, h.idb, h.xsb, h.src.below hb, h.reach⟩

/-- the steps, as they came in -/
def ActsAt (w : World) (g off : Nat) (l : List Act1) : Prop := ∀ (i : Nat) (t : Act1), l[i]? = some t → ActIn w g (off + i * 20) t

def lens (l : List Act1) : Nat := (l.map fun t => t.xs.length).sum
theorem lens_take (l : List Act1) (k : Nat) (t : Act1) (h : l[k]? = some t) : lens (l.take (k + 1)) = lens (l.take k) + t.xs.length := by
  rw [List.take_add_one, h]
  simp [lens]
theorem lens_get (l : List Act1) (i : Nat) (t : Act1) (h : l[i]? = some t) : t.xs.length ≤ lens l := by
  induction l generalizing i with
  | nil => simp at h
  | cons a r ih =>
    cases i with
    | zero => simp at h; subst h; simp [lens]
    | succ j => have := ih j (by simpa using h); simp only [lens, List.map_cons, List.sum_cons] at this ⊢; omega

def Large (l : List Act1) (w : World) (e : Ending) (w' : World) : Prop := ∃ r, e = .returned (.bool r) ∧ w = w' ∧ (r = false → l.length ≤ 40 ∧ lens l ≤ 3000)

set_option maxRecDepth 100000 in
set_option maxHeartbeats 400000 in
theorem large_any (w : World) (g off cap : Nat) (l : List Act1) (h : ActsAt w g off l) :
    Calls Try.prog 21 #[.slice (some ⟨g, off, none⟩) l.length cap] w fun e w' => Large l w e w' := by
  have hr : ∀ (i : Nat) (t : Act1), l[i]? = some t → t.xs.length ≤ 140737488355328 := fun i t ht => (h i t ht).reach
  have HA := Lib.hid h
  have HRr := Lib.hid hr
  clear h hr
  go_enter Try.func21, Try.ntmps21
  go_wp2_with fail
  go_loop [3, 4] (fun s3 s4 => ∃ k : Nat, k ≤ 41 ∧ k ≤ l.length ∧ s4 = .int .i64 (k : Int) ∧ s3 = .int .i64 ((lens (l.take k) : Nat) : Int) ∧ lens (l.take k) ≤ k * 140737488355328) (fun _ s4 => (41 - intOf s4).toNat)
  case atStart => exact ⟨0, by omega, by omega, rfl, rfl, by simp [lens]⟩
  case round =>
    obtain ⟨k, hk41, hkl, rfl, rfl, hb⟩ := hrel
    by_cases hlt : k < l.length
    · by_cases h41 : k < 41
      · obtain ⟨t, ht⟩ : ∃ t, l[k]? = some t := ⟨_, List.getElem?_eq_getElem hlt⟩
        have hn := lens_take l k t ht
        have hx := (HA.out k t ht).xs
        have hrx := HRr.out k t ht
        have HN := Lib.hid hn
        clear hn
        generalize hS : lens (l.take k) = S at *
        have hwr : IntKind.i64.wrap ((S : Int) + t.xs.length) = (S : Int) + t.xs.length := wrap_in _ (by omega) (by omega)
        go_wp2_with fail
        refine ⟨⟨k + 1, by omega, by omega, by go_num, by rw [HN.out]; go_num, by rw [HN.out]; omega⟩, by simp [intOf]; omega⟩
      · obtain rfl : k = 41 := by omega
        go_wp2_with fail
        all_goals (first
          | exact bodyPost_ret (v := .bool true) (by simp [results, Try.results21, go_sem]) rfl ⟨true, rfl, rfl, fun hf => by cases hf⟩
          | exact bodyPost_ret (v := .bool (decide ((40 : Int) < l.length) || decide ((3000 : Int) < (lens l : Nat)))) (by simp [results, Try.results21, go_sem]) rfl ⟨_, rfl, rfl, fun hf => by simp at hf; omega⟩)
    · obtain rfl : k = l.length := by omega
      have htk : List.take l.length l = l := List.take_length
      go_wp2_with fail
      · exact bodyPost_ret (v := .bool (decide ((40 : Int) < l.length) || decide ((3000 : Int) < (lens l : Nat)))) (by simp [results, Try.results21, go_sem]) rfl ⟨_, rfl, rfl, fun hf => by simp at hf; omega⟩
      · trace_state
        exact bodyPost_ret (v := .bool true) (by simp [results, Try.results21, go_sem]) rfl ⟨true, rfl, rfl, fun hf => by cases hf⟩

theorem large_nil (w : World) : Calls Try.prog 21 #[.slice none 0 0] w fun e w' => e = .returned (.bool false) ∧ w = w' := by
  go_enter Try.func21, Try.ntmps21
  go_wp2_with fail
  refine wp_loop_rounds 1 ?_
  rw [rounds_succ]
  go_wp2_with fail
  go_ret
  exact ⟨rfl, rfl⟩

end Go.Proofs.Ytkfhljggdcajpaa
