/-
  Mean of package ratio; its edges; signs and infinities.
-/
import Derived.Test.YtdcaklonhbiejaaRises
namespace Go.Proofs.Ytdcaklonhbiejaa
open Go.RowKit

theorem sub_def (x y : Nat) : floatBits .sub .f64 x y = ((Ieee.double.read x).sum (Ieee.double.read y).opposite).map Ieee.double.write := rfl
theorem sub_nan1 {x : Nat} (y : Nat) (h : isn x = true) : floatBits .sub .f64 x y = none := by
  obtain ⟨s, f, h⟩ := nan_read h
  rw [sub_def, h]
  rfl
theorem sub_nan2 (x : Nat) {y : Nat} (h : isn y = true) : floatBits .sub .f64 x y = none := by
  obtain ⟨s, f, h⟩ := nan_read h
  rw [sub_def, h]
  cases Ieee.double.read x <;> rfl

/-- what Mean is where its sum is none of the numbers -/
def meanAlt (old now : Nat) : Nat := if isn now = true then old else now
/-- what Mean tells -/
def meanv (old now part : Nat) : Nat :=
  if isn old = true then now else
  match floatBits .sub .f64 now old with
  | some g => match floatBits .mul .f64 part g with
    | some q => match floatBits .add .f64 old q with
      | some x => x
      | none => meanAlt old now
    | none => meanAlt old now
  | none => meanAlt old now

set_option maxHeartbeats 1600000 in
theorem mean_any (old now part : Nat) (w : World) : Calls Try.prog 28 #[.float .f64 old, .float .f64 now, .float .f64 part] w fun e w' => e = .returned (.float .f64 (meanv old now part)) ∧ Below w.heap.size w w' := by
  cases ho : isn old
  · obtain ⟨g, w1, h1, b1, c1⟩ := run_op .sub rfl now old w
    obtain ⟨q, w2, h2, b2, c2⟩ := run_op .mul rfl part g w1
    obtain ⟨x, w3, h3, b3, c3⟩ := run_op .add rfl old q w2
    have hb : Below w.heap.size w w3 := (b1.trans (b2.mono b1.size)).trans (b3.mono (by have := b1.size; have := b2.size; omega))
    have ho1 := order_self ho
    cases hx : isn x
    · have ho2 := order_self hx
      have e3 : floatBits .add .f64 old q = some x := by
        rcases c3 with h | ⟨_, h⟩
        · exact h
        · rw [hx] at h; cases h
      have e2 : floatBits .mul .f64 part g = some q := by
        rcases c2 with h | ⟨_, h⟩
        · exact h
        · rw [add_nan2 old h] at e3; cases e3
      have e1 : floatBits .sub .f64 now old = some g := by
        rcases c1 with h | ⟨_, h⟩
        · exact h
        · rw [mul_nan2 part h] at e2; cases e2
      have hm : meanv old now part = x := by unfold meanv; rw [if_neg (by rw [ho]; simp), e1]; simp only [e2, e3]
      rw [hm]
      have HB := Lib.hid hb
      clear c1 c2 c3 e1 e2 e3 b1 b2 b3 hm hb
      go_enter Try.func28, Try.ntmps28
      go_wp2
      go_ret
      exact ⟨rfl, HB.out⟩
    · have ho2 := order_nan1 x hx
      have hm : meanv old now part = meanAlt old now := by
        have e3 : ∀ v, floatBits .add .f64 old q = some v → False := fun v k => by
          rcases c3 with h | ⟨h, _⟩
          · obtain ⟨_, _, h4, _⟩ := add_some h
            rw [hx] at h4; cases h4
          · rw [k] at h; cases h
        unfold meanv
        rw [if_neg (by rw [ho]; simp)]
        rcases c1 with k1 | ⟨k1, _⟩
        · rw [k1]
          rcases c2 with k2 | ⟨k2, _⟩
          · simp only [k2]
            cases k3 : floatBits .add .f64 old q with
            | none => rfl
            | some v => exact absurd k3 (fun k => e3 v k)
          · simp only [k2]
        · rw [k1]
      rw [hm]
      unfold meanAlt
      have HB := Lib.hid hb
      cases hn : isn now
      · have ho3 := order_self hn
        rw [if_neg (by simp)]
        clear c1 c2 c3 b1 b2 b3 hm hb
        go_enter Try.func28, Try.ntmps28
        go_wp2
        go_ret
        exact ⟨rfl, HB.out⟩
      · have ho3 := order_nan1 now hn
        rw [if_pos rfl]
        clear c1 c2 c3 b1 b2 b3 hm hb
        go_enter Try.func28, Try.ntmps28
        go_wp2
        go_ret
        exact ⟨rfl, HB.out⟩
  · have ho1 := order_nan1 old ho
    have hm : meanv old now part = now := by unfold meanv; rw [if_pos ho]
    rw [hm]
    go_enter Try.func28, Try.ntmps28
    go_wp2
    go_ret
    exact ⟨rfl, Below.refl _ _⟩

theorem inf_any (w : World) : Calls Try.prog 24 #[] w fun e w' => e = .returned (.float .f64 9218868437227405312) ∧ w = w' := by
  have h60 := ext60
  go_enter Try.func24, Try.ntmps24
  go_wp2
  go_ret
  exact ⟨rfl, rfl⟩

theorem copysign_any (x s : Nat) (w : World) : Calls Try.prog 65 #[.float .f64 x, .float .f64 s] w fun e w' => e = .returned (.float .f64 (bits .or .u64 (bits .andNot .u64 (x : Int) 9223372036854775808) (bits .and .u64 (s : Int) 9223372036854775808)).toNat) ∧ w = w' := by
  have h60 := ext60
  have h61 := ext61
  go_enter Try.func65, Try.ntmps65
  go_wp2
  go_ret
  exact ⟨rfl, rfl⟩

theorem zero_any (w : World) : Calls Try.prog 26 #[] w fun e w' => e = .returned (.float .f64 9223372036854775808) ∧ w = w' := by
  have hc := copysign_any 0 13830554455654793216 w
  have e : (bits .or .u64 (bits .andNot .u64 ((0 : Nat) : Int) 9223372036854775808) (bits .and .u64 ((13830554455654793216 : Nat) : Int) 9223372036854775808)).toNat = 9223372036854775808 := by decide +kernel
  rw [e] at hc
  go_enter Try.func26, Try.ntmps26
  go_wp2_with fail
  refine hc.mono ?_
  rintro e w' ⟨rfl, rfl⟩
  go_wp2_with fail
  go_ret
  exact ⟨rfl, rfl⟩

/-- Spread, where the difference is told -/
theorem spread_lit (old mean now part g c r : Nat) (hg : floatBits .sub .f64 now mean = some g) (hc : (bits .or .u64 (bits .andNot .u64 (g : Int) 9223372036854775808) (bits .and .u64 ((4607182418800017408 : Nat) : Int) 9223372036854775808)).toNat = c) (hr : meanv old c part = r) (w : World) :
    Calls Try.prog 29 #[.float .f64 old, .float .f64 mean, .float .f64 now, .float .f64 part] w fun e w' => e = .returned (.float .f64 r) ∧ Below w.heap.size w w' := by
  have h1 : ∀ w, (binOp .sub 22 (.float .f64 now) (.float .f64 mean)).run Try.prog w = .ok (.float .f64 g) w := fun w => run_float_arith w .sub 22 .f64 _ _ _ hg
  have h2 := fun w => copysign_any g 4607182418800017408 w
  rw [hc] at h2
  have h3 := fun w => mean_any old c part w
  rw [hr] at h3
  have H2 := Lib.hid h2
  have H3 := Lib.hid h3
  clear hg hc hr h2 h3
  go_enter Try.func29, Try.ntmps29
  go_wp2_with fail
  refine (H2.out _).mono ?_
  rintro e w' ⟨rfl, rfl⟩
  go_wp2_with fail
  refine (H3.out _).mono ?_
  rintro e w' ⟨rfl, hb⟩
  go_wp2_with fail
  go_ret
  exact ⟨rfl, hb⟩

end Go.Proofs.Ytdcaklonhbiejaa
