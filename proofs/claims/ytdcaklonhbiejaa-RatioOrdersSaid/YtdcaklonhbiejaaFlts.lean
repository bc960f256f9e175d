/-
  A slice of floats that came in, opened.
-/
import Derived.Test.YtdcaklonhbiejaaAwake
import Derived.Deep.Slices
namespace Go.Proofs.Ytdcaklonhbiejaa
open Go.ChangeShapes Go.RowKit

section
variable {H : Type} {enc : TypeId × Value → H} {P : Program} {w : World} {base : Nat} {spare : Nat → Bool} {held : Bool}
theorem trod_float1 {t : TypeId} {k : FloatKind} {fuel : Nat} {v : Value} {x : DataW H × List MemPlace} (ht : P.underlying t = some (.float k)) (h : DataW.trod enc P w base spare held fuel t [v] = some x) : ∃ b, v = .float k b ∧ (Lit.float k b).wf = true := by
  cases fuel with
  | zero => simp [DataW.trod] at h
  | succ n =>
    unfold DataW.trod at h
    rw [ht] at h
    split at h <;> simp_all

theorem spot_none {a : Addr} {v : Value} (h : w.cell? a = some v) : a.spot = none := by
  obtain ⟨b, off, spot⟩ := a
  cases spot with
  | none => rfl
  | some s =>
    exfalso
    unfold World.cell? at h
    split at h <;> simp at h

/-- floats at a slice that came in -/
theorem open_floats {t e : TypeId} {fuel : Nat} {a : Option Addr} {len cap : Nat} {x : DataW H × List MemPlace} (ht : P.underlying t = some (.slice e)) (he : P.underlying e = some (.float .f64)) (hc : P.cellsOf e = 1)
    (h : DataW.trod enc P w base (fun _ => true) held fuel t [.slice a len cap] = some x) : ∃ xs : List Nat, xs.length = len ∧ FloatsAt w a xs ∧ (∀ x ∈ xs, (Lit.float .f64 x).wf = true) ∧ len ≤ maxLen := by
  rcases Go.Deep.open_slice1 ht hc h with ⟨hcs, _⟩ | ⟨b, l, c, m, n, V, D, Pl, hcs, _, hl, hm, hmm, _, hx⟩
  · simp only [List.cons.injEq, Value.slice.injEq, and_true] at hcs
    obtain ⟨rfl, rfl, rfl⟩ := hcs
    exact ⟨[], rfl, .inl rfl, fun x hx => by simp at hx, Nat.zero_le _⟩
  · simp only [List.cons.injEq, Value.slice.injEq, and_true] at hcs
    obtain ⟨rfl, rfl, rfl⟩ := hcs
    rw [if_pos rfl] at hmm
    subst hmm
    have hv : ∀ i, i < len → ∃ q, V i = .float .f64 q ∧ (Lit.float .f64 q).wf = true := fun i hi => trod_float1 he (hx i (by omega)).2
    obtain ⟨f, hf⟩ := Go.Deep.choose_lt (α := Nat) (p := fun i q => V i = .float .f64 q ∧ (Lit.float .f64 q).wf = true) hv
    refine ⟨(List.range len).map f, by simp, ?_, fun y hy => ?_, by omega⟩
    · rcases Nat.eq_zero_or_pos len with h0 | h0
      · subst h0; exact .inl rfl
      · have hc0 := (hx 0 (by omega)).1
        have hb0 : b.add 0 = b := by simp [Addr.add]
        rw [hb0] at hc0
        have hsp := spot_none hc0
        obtain ⟨g, off, spot⟩ := b
        simp only at hsp
        subst hsp
        refine .inr ⟨g, off, rfl, World.block_lt_of_cell? w _ hc0, fun i hi => ?_⟩
        have hi' : i < len := by simpa using hi
        have hadd : (⟨g, off, none⟩ : Addr).add i = ⟨g, off + i, none⟩ := by unfold Addr.add; split <;> simp_all
        have h1 := (hx i (by omega)).1
        rw [hadd, (hf i hi').1] at h1
        rw [h1]
        simp [List.getD, hi']
    · obtain ⟨i, hi, rfl⟩ := List.mem_map.1 hy
      exact (hf i (by simpa using hi)).2
end
end Go.Proofs.Ytdcaklonhbiejaa
