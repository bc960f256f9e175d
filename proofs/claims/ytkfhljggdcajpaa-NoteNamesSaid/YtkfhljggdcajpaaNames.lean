/-
  NoteNames: the walk.
-/
import Derived.Test.YtkfhljggdcajpaaKinds
namespace Go.Proofs.Ytkfhljggdcajpaa
open Go.RowKit Go.Sort

theorem shapeAt_get (k : Int) (h : 1 ≤ k ∧ k ≤ 24) : ∃ j : Nat, j < 24 ∧ k = ((j + 1 : Nat) : Int) ∧ shapeAt k = shapeList.getD (j + 1) ⟨[], 0, 0, 0, 0, 0, 0⟩ :=
  ⟨(k - 1).toNat, by omega, by omega, by rw [shapeAt, if_pos h, show k.toNat = (k - 1).toNat + 1 by omega]⟩

theorem names_small : ∀ j, j < 24 → (shapeList.getD (j + 1) ⟨[], 0, 0, 0, 0, 0, 0⟩).name ≠ [] ∧ (shapeList.getD (j + 1) ⟨[], 0, 0, 0, 0, 0, 0⟩).name.length ≤ 7 ∧ ∀ c ∈ (shapeList.getD (j + 1) ⟨[], 0, 0, 0, 0, 0, 0⟩).name, 97 ≤ c.toNat ∧ c.toNat ≤ 122 := by decide
theorem names_apart : ∀ i, i < 24 → ∀ j, j < 24 → (shapeList.getD (i + 1) ⟨[], 0, 0, 0, 0, 0, 0⟩).name = (shapeList.getD (j + 1) ⟨[], 0, 0, 0, 0, 0, 0⟩).name → i = j := by decide

theorem name_letters (k : Int) (h : 1 ≤ k ∧ k ≤ 24) : (shapeAt k).name ≠ [] ∧ (shapeAt k).name.length ≤ 7 ∧ ∀ c ∈ (shapeAt k).name, 97 ≤ c.toNat ∧ c.toNat ≤ 122 := by
  obtain ⟨j, hj, _, e⟩ := shapeAt_get k h
  rw [e]; exact names_small j hj
theorem name_apart (k l : Int) (hk : 1 ≤ k ∧ k ≤ 24) (hl : 1 ≤ l ∧ l ≤ 24) (h : (shapeAt k).name = (shapeAt l).name) : k = l := by
  obtain ⟨i, hi, e1, e2⟩ := shapeAt_get k hk
  obtain ⟨j, hj, e3, e4⟩ := shapeAt_get l hl
  rw [e2, e4] at h
  have := names_apart i hi j hj h
  omega

theorem bel_trans' {W W1 W2 : World} (h1 : Below W.heap.size W W1) (h2 : Below W1.heap.size W1 W2) : Below W.heap.size W W2 := h1.trans (h2.mono h1.size)
theorem name_k (k : Int) (w : World) (nm : List UInt8) (h : (shapeAt k).name = nm) : Calls Try.prog 64 #[.int .i64 k] w fun e w' => e = .returned (.string ⟨nm.toArray⟩) ∧ Below w.heap.size w w' := by
  subst h
  exact name_below k w _ rfl

set_option maxRecDepth 1000000 in
set_option maxHeartbeats 2000000 in
theorem names_any (kind : Int) (w : World) : Calls Try.prog 14 #[.int .i64 kind] w fun e w' => e = .returned (.bool true) ∧ Below w.heap.size w w' := by
  have hnot : ∀ (x : Bool) (w : World), (Op.unary .not (.bool x)).run Try.prog w = .ok (.bool (!x)) w := fun _ _ => rfl
  by_cases h : 1 ≤ kind ∧ kind ≤ 24
  · obtain ⟨nm, hnm⟩ : ∃ nm, (shapeAt kind).name = nm := ⟨_, rfl⟩
    obtain ⟨l1, l2, l3⟩ := name_letters kind h
    rw [hnm] at l1 l2 l3
    have Hnm := Lib.hid hnm
    have L3 := Lib.hid l3
    have hemp : nm.isEmpty = false := by cases nm with | nil => exact absurd rfl l1 | cons _ _ => rfl
    clear hnm l3
    go_enter Try.func14, Try.ntmps14
    go_wp2_with fail
    refine (awake10_any _).mono ?_
    rintro e w1 ⟨rfl, hB1⟩
    have HB1 := Lib.hid hB1
    clear hB1
    go_wp2_with fail
    refine (name_k kind _ nm Hnm.out).mono ?_
    rintro e w2 ⟨rfl, hB2⟩
    have HB2 := Lib.hid (bel_trans' HB1.out hB2)
    clear hB2
    go_wp2_with fail
    go_loop [5] (fun s => ∃ k : Nat, k ≤ nm.length ∧ s = .int .i64 (k : Int)) (fun s => (nm.length - intOf s).toNat)
    case atStart => exact ⟨0, by omega, rfl⟩
    case round =>
      obtain ⟨k, hk, rfl⟩ := hrel
      by_cases hlt : k < nm.length
      · have hsz : k < (⟨nm.toArray⟩ : ByteArray).size := by show k < nm.toArray.size; simpa using hlt
        have hb : 97 ≤ ((⟨nm.toArray⟩ : ByteArray)[k]'hsz).toNat ∧ ((⟨nm.toArray⟩ : ByteArray)[k]'hsz).toNat ≤ 122 := by
          refine L3.out _ ?_
          show nm.toArray[k] ∈ nm
          simp
        have hb1 : ¬ (((⟨nm.toArray⟩ : ByteArray)[k]'hsz).toNat : Int) < 97 := by omega
        have hb2 : ¬ (122 : Int) < (((⟨nm.toArray⟩ : ByteArray)[k]'hsz).toNat : Int) := by omega
        clear hb
        go_wp2_with fail
        go_round
        case rel => exact ⟨k + 1, by omega, by go_num⟩
        case measure => simp [intOf]; omega
      · obtain rfl : k = nm.length := by omega
        go_wp2_with fail
        go_loopg [6] 24 (fun kx s wr => ∃ j : Nat, j ≤ 24 ∧ s = .int .i64 ((j : Int) + 1) ∧ 24 - j ≤ kx ∧ Hid (Below w.heap.size w wr))
        case atStart => exact ⟨0, by omega, rfl, by omega, HB2⟩
        case round =>
          obtain ⟨j, hj, rfl, hjx, HW⟩ := hrel
          by_cases hlt : j < 24
          · by_cases he : ((j : Int) + 1) = kind
            · have hne : (((j : Int) + 1) != kind) = false := by simpa using he
              go_wp2_with fail
              go_roundg (24 - (j + 1))
              case measure => omega
              case rel => exact ⟨j + 1, by omega, by go_num, by omega, HW⟩
            · obtain ⟨nl, hnl⟩ : ∃ nl, (shapeAt ((j : Int) + 1)).name = nl := ⟨_, rfl⟩
              have hap : nl ≠ nm := fun e => he (name_apart _ _ (by omega) h (by rw [hnl, Hnm.out, e]))
              have Hnl := Lib.hid hnl
              have Hap := Lib.hid hap
              clear hnl hap
              go_wp2_with fail
              refine (name_k _ _ nl Hnl.out).mono ?_
              rintro e w3 ⟨rfl, hB3⟩
              have HW3 := Lib.hid (bel_trans' HW.out hB3)
              have hap : (nl == nm) = false := by simpa using Hap.out
              clear hB3
              go_wp2_with fail
              go_roundg (24 - (j + 1))
              case measure => omega
              case rel => exact ⟨j + 1, by omega, by go_num, by omega, HW3⟩
          · obtain rfl : j = 24 := by omega
            have hag : decide (kind ≤ 15) = (decide (1 ≤ kind) && decide (kind ≤ 15)) := by
              have := h.1
              by_cases h15 : kind ≤ 15 <;> simp [h15, this]
            have hag2 := agents_k kind wr (decide (kind ≤ 15)) hag.symm
            have Hag := Lib.hid hag2
            clear hag hag2
            go_wp2_with fail
            refine Hag.out.mono ?_
            rintro e w3 ⟨rfl, rfl⟩
            go_wp2_with fail
            go_ret
            exact ⟨rfl, HW.out⟩
  · have hs : shapeAt kind = ⟨[], 0, 0, 0, 0, 0, 0⟩ := by rw [shapeAt, if_neg h]
    have hag := fun W => agents_k kind W false (by simp <;> omega)
    have Hag := Lib.hid hag
    have Hs := Lib.hid hs
    clear hag hs
    have hor : kind < 1 ∨ 24 < kind := by omega
    have Hor := Lib.hid hor
    clear h hor
    go_enter Try.func14, Try.ntmps14
    go_wp2_with fail
    refine (awake10_any _).mono ?_
    rintro e w1 ⟨rfl, hB1⟩
    have HB1 := Lib.hid hB1
    clear hB1
    go_wp2_with fail
    refine (name_k kind _ [] (by rw [Hs.out])).mono ?_
    rintro e w2 ⟨rfl, hB2⟩
    have HB2 := Lib.hid (bel_trans' HB1.out hB2)
    clear hB2
    by_cases h1 : kind < 1
    · go_wp2_with fail
      refine (Hag.out _).mono ?_
      rintro e w3 ⟨rfl, rfl⟩
      go_wp2_with fail
      go_ret
      exact ⟨rfl, HB2.out⟩
    · have h2 : 24 < kind := by have := Hor.out; omega
      go_wp2_with fail
      refine (Hag.out _).mono ?_
      rintro e w3 ⟨rfl, rfl⟩
      go_wp2_with fail
      go_ret
      exact ⟨rfl, HB2.out⟩

end Go.Proofs.Ytkfhljggdcajpaa
