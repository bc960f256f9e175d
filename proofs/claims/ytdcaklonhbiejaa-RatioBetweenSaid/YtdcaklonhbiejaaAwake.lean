/-
  Closed answers of package ratio: Part, Pick, Mean, Wait at the chapter's examples; awake of layer 2.
-/
import Derived.Test.YtdcaklonhbiejaaFl
namespace Go.Proofs.Ytdcaklonhbiejaa
open Go.RowKit

theorem ext60 (n : Int) (w : World) : (callFunc 60 #[.int .u64 n]).run Try.prog w = .ok (.value (.float .f64 n.toNat)) w := by
  have h := run_callFunc_extern (P := Try.prog) Try.func60 (e := Extern.MathFloatBits.float64frombits) (by kernel_rfl) (by kernel_rfl) (by kernel_rfl) (by kernel_rfl) #[.int .u64 n] w
  rw [h]; rfl
theorem ext61 (b : Nat) (w : World) : (callFunc 61 #[.float .f64 b]).run Try.prog w = .ok (.value (.int .u64 b)) w := by
  have h := run_callFunc_extern (P := Try.prog) Try.func61 (e := Extern.MathFloatBits.float64bits) (by kernel_rfl) (by kernel_rfl) (by kernel_rfl) (by kernel_rfl) #[.float .f64 b] w
  rw [h]; rfl

def nanBits : Nat := 9221120237041090561

theorem mathNaN (w : World) : Calls Try.prog 55 #[] w fun e w' => e = .returned (.float .f64 9221120237041090561) ∧ w = w' := by
  have h60 := ext60
  go_enter Try.func55, Try.ntmps55
  go_wp2
  go_ret
  exact ⟨rfl, rfl⟩

theorem nan_any (w : World) : Calls Try.prog 25 #[] w fun e w' => e = .returned (.float .f64 9221120237041090561) ∧ w = w' := by
  go_enter Try.func25, Try.ntmps25
  go_wp2_with fail
  refine (mathNaN _).mono ?_
  rintro e w' ⟨rfl, rfl⟩
  go_wp2_with fail
  go_ret
  exact ⟨rfl, rfl⟩

theorem part_quarter (w : World) : Calls Try.prog 19 #[.int .i64 1, .int .i64 4] w fun e w' => e = .returned (.float .f64 4598175219545276416) ∧ w = w' := by
  have hq : ∀ w, (binOp .quo 22 (.float .f64 (floatOfInt .f64 1)) (.float .f64 (floatOfInt .f64 4))).run Try.prog w = .ok (.float .f64 4598175219545276416) w := fun w => run_float_arith w .quo 22 .f64 _ _ _ (by kernel_rfl)
  go_enter Try.func19, Try.ntmps19
  go_wp2
  go_ret
  exact ⟨rfl, rfl⟩

/-- a list of floats at a slice -/
def FloatsAt (w : World) (a : Option Addr) (xs : List Nat) : Prop := xs = [] ∨ ∃ g off, a = some ⟨g, off, none⟩ ∧ g < w.heap.size ∧ ∀ i, i < xs.length → w.cell? ⟨g, off + i, none⟩ = some (.float .f64 (xs.getD i 0))
theorem FloatsAt.below {w w' : World} {a : Option Addr} {xs : List Nat} (h : FloatsAt w a xs) (hb : Below w.heap.size w w') : FloatsAt w' a xs := by
  rcases h with h | ⟨g, off, ha, hg, hc⟩
  · exact .inl h
  · exact .inr ⟨g, off, ha, by have := hb.size; omega, fun i hi => (hb.cell hg).trans (hc i hi)⟩

def pickStep (xs : List Nat) (best : Int) (i : Nat) : Int := if best < 0 ∨ bef (xs.getD i 0) (xs.getD best.toNat 0) = true then i else best
def pickTo (xs : List Nat) (k : Nat) : Int := (List.range k).foldl (pickStep xs) (-1)
theorem pickTo_succ (xs : List Nat) (k : Nat) : pickTo xs (k + 1) = pickStep xs (pickTo xs k) k := by
  unfold pickTo
  rw [List.range_succ, List.foldl_append]
  rfl
theorem pickTo_range (xs : List Nat) (k : Nat) : -1 ≤ pickTo xs k ∧ pickTo xs k < k ∧ (0 < k → 0 ≤ pickTo xs k) := by
  induction k with
  | zero => exact ⟨Int.le_refl _, by show (-1 : Int) < 0; omega, by omega⟩
  | succ k ih =>
    rw [pickTo_succ]
    unfold pickStep
    split
    · omega
    · rename_i h
      rw [not_or] at h
      omega

set_option maxHeartbeats 400000 in
theorem pick_any (w : World) (a : Option Addr) (cap : Nat) (xs : List Nat) (h : FloatsAt w a xs) (hlen : xs.length ≤ 9223372036854775807) :
    Calls Try.prog 23 #[.slice a xs.length cap] w fun e w' => e = .returned (.int .i64 (pickTo xs xs.length)) ∧ w = w' := by
  have HF := Lib.hid h
  clear h
  go_enter Try.func23, Try.ntmps23
  go_wp2
  go_loop [3, 8] (fun s3 s8 => ∃ k : Nat, k ≤ xs.length ∧ s8 = .int .i64 (k : Int) ∧ s3 = .int .i64 (pickTo xs k)) (fun _ s8 => (xs.length - intOf s8).toNat)
  case atStart => exact ⟨0, by omega, rfl, rfl⟩
  case round =>
    obtain ⟨k, hk, rfl, rfl⟩ := hrel
    by_cases hlt : k < xs.length
    · obtain ⟨g, off, rfl, hg, hc⟩ := HF.out.resolve_left (fun e => by rw [e] at hlt; simp at hlt)
      have hck := hc k hlt
      obtain ⟨r0, r1, r2⟩ := pickTo_range xs k
      have hs := pickTo_succ xs k
      have HS := Lib.hid hs
      clear hs
      by_cases hneg : pickTo xs k < 0
      · have hst : pickStep xs (pickTo xs k) k = k := by unfold pickStep; rw [if_pos (.inl hneg)]
        have HST := Lib.hid hst
        clear hst hc
        go_wp2_with fail
        go_round
        case rel => exact ⟨k + 1, by omega, by go_num, by rw [HS.out, HST.out]⟩
        case measure => simp [intOf]; omega
      · obtain ⟨p, hp⟩ : ∃ p : Nat, pickTo xs k = p := ⟨(pickTo xs k).toNat, by omega⟩
        have hpl : p < xs.length := by omega
        have hcp := hc p hpl
        rw [hp] at HS ⊢
        clear hc r2
        have hb := before_any (xs.getD k 0) (xs.getD p 0) w
        have hst : pickStep xs (p : Int) k = if bef (xs.getD k 0) (xs.getD p 0) = true then (k : Int) else p := by
          unfold pickStep
          rw [Int.toNat_natCast]
          by_cases hbf : bef (xs.getD k 0) (xs.getD p 0) = true
          · rw [if_pos (.inr hbf), if_pos hbf]
          · rw [if_neg (by rw [not_or]; exact ⟨by omega, hbf⟩), if_neg hbf]
        have hpn : ¬ (p : Int) < 0 := by omega
        generalize xs.getD k 0 = vk at *
        generalize xs.getD p 0 = vp at *
        have HB := Lib.hid hb
        cases hbf : bef vk vp
        · rw [hbf] at hst HB
          have HST := Lib.hid hst
          clear hst hb hp hneg
          go_wp2_with fail
          refine HB.out.mono ?_
          rintro e w' ⟨rfl, rfl⟩
          go_wp2_with fail
          go_round
          case rel => exact ⟨k + 1, by omega, by go_num, by rw [HS.out, HST.out]; simp⟩
          case measure => simp [intOf]; omega
        · rw [hbf] at hst HB
          have HST := Lib.hid hst
          clear hst hb hp hneg
          go_wp2_with fail
          refine HB.out.mono ?_
          rintro e w' ⟨rfl, rfl⟩
          go_wp2_with fail
          go_round
          case rel => exact ⟨k + 1, by omega, by go_num, by rw [HS.out, HST.out]; simp⟩
          case measure => simp [intOf]; omega
    · obtain rfl : k = xs.length := by omega
      go_wp2_with fail
      go_ret
      exact ⟨rfl, rfl⟩

set_option maxHeartbeats 400000 in
theorem mean_lit (w : World) : Calls Try.prog 28 #[.float .f64 4621819117588971520, .float .f64 4626322717216342016, .float .f64 4598175219545276416] w fun e w' => e = .returned (.float .f64 4623226492472524800) ∧ w = w' := by
  have h1 : FloatKind.f64.format.order 4621819117588971520 4621819117588971520 = some .eq := by kernel_rfl
  have h2 : ∀ w, (binOp .sub 22 (.float .f64 4626322717216342016) (.float .f64 4621819117588971520)).run Try.prog w = .ok (.float .f64 4621819117588971520) w := fun w => run_float_arith w .sub 22 .f64 _ _ _ (by kernel_rfl)
  have h3 : ∀ w, (binOp .mul 22 (.float .f64 4598175219545276416) (.float .f64 4621819117588971520)).run Try.prog w = .ok (.float .f64 4612811918334230528) w := fun w => run_float_arith w .mul 22 .f64 _ _ _ (by kernel_rfl)
  have h4 : ∀ w, (binOp .add 22 (.float .f64 4621819117588971520) (.float .f64 4612811918334230528)).run Try.prog w = .ok (.float .f64 4623226492472524800) w := fun w => run_float_arith w .add 22 .f64 _ _ _ (by kernel_rfl)
  have h5 : FloatKind.f64.format.order 4623226492472524800 4623226492472524800 = some .eq := by kernel_rfl
  go_enter Try.func28, Try.ntmps28
  go_wp2
  go_ret
  exact ⟨rfl, rfl⟩

theorem toIntegral_num (name : String) (way : Ieee.Toward) (b : Nat) (s : Bool) (m : Nat) (e : Int) (h : FloatKind.f64.decode b = .number s m e) :
    Extern.MathFloor.toIntegral name way #[.float .f64 b] = pure (.float .f64 (FloatKind.f64.encode ((Ieee.Datum.number s m e).integral way))) := by
  delta Extern.MathFloor.toIntegral
  show (match FloatKind.f64.decode b with | .nan s t => _ | d => _) = _
  rw [h]

theorem ext78 (b : Nat) (s : Bool) (m : Nat) (e : Int) (h : FloatKind.f64.decode b = .number s m e) (w : World) : (callFunc 78 #[.float .f64 b]).run Try.prog w = .ok (.value (.float .f64 (FloatKind.f64.encode ((Ieee.Datum.number s m e).integral .up)))) w := by
  have h2 := run_callFunc_extern (P := Try.prog) Try.func78 (e := Extern.MathFloor.toIntegral "math.archCeil" .up) (by kernel_rfl) (by kernel_rfl) (by kernel_rfl) (by kernel_rfl) #[.float .f64 b] w
  rw [h2, toIntegral_num _ _ _ _ _ _ h]
  rfl

theorem ceil_lit (w : World) : Calls Try.prog 59 #[.float .f64 4621481347616918733] w fun e w' => e = .returned (.float .f64 4621819117588971520) ∧ w = w' := by
  have h78 : ∀ w, (callFunc 78 #[.float .f64 4621481347616918733]).run Try.prog w = .ok (.value (.float .f64 4621819117588971520)) w := fun w => by
    rw [ext78 4621481347616918733 false 5291729562160333 (-49) (by kernel_rfl)]
    congr 2
  go_enter Try.func59, Try.ntmps59
  go_wp2
  go_ret
  exact ⟨rfl, rfl⟩

set_option maxHeartbeats 400000 in
theorem wait_lit (w : World) : Calls Try.prog 20 #[.float .f64 4617315517961601024, .float .f64 4607632778762754458] w fun e w' => e = .returned (.int .i64 10) ∧ w = w' := by
  have h1 : ∀ w, (binOp .mul 22 (.float .f64 4616189618054758400) (.float .f64 4607632778762754458)).run Try.prog w = .ok (.float .f64 4616639978017495450) w := fun w => run_float_arith w .mul 22 .f64 _ _ _ (by kernel_rfl)
  have h2 : ∀ w, (binOp .add 22 (.float .f64 4617315517961601024) (.float .f64 4616639978017495450)).run Try.prog w = .ok (.float .f64 4621481347616918733) w := fun w => run_float_arith w .add 22 .f64 _ _ _ (by kernel_rfl)
  have h3 : FloatKind.f64.format.order 4621481347616918733 4621481347616918733 = some .eq := by kernel_rfl
  have h4 : FloatKind.f64.format.order 4621481347616918733 4633641066610819072 = some .lt := by kernel_rfl
  have h5 : FloatKind.f64.format.order 4621481347616918733 4611686018427387904 = some .gt := by kernel_rfl
  have h6 : ∀ w, (convert 22 3 (.float .f64 4621819117588971520)).run Try.prog w = .ok (.int .i64 10) w := fun w => run_convert_float_int w 22 3 .f64 .i64 _ 10 (by kernel_rfl) Try.underlying3 (by kernel_rfl)
  go_enter Try.func20, Try.ntmps20
  go_wp2_with fail
  refine (ceil_lit _).mono ?_
  rintro e w1 ⟨rfl, rfl⟩
  go_wp2_with fail
  go_ret
  exact ⟨rfl, rfl⟩

theorem pick_m (w : World) (a : Option Addr) (cap n : Nat) (xs : List Nat) (hn : xs.length = n) (h : FloatsAt w a xs) (hlen : n ≤ 9223372036854775807) :
    Calls Try.prog 23 #[.slice a n cap] w fun e w' => e = .returned (.int .i64 (pickTo xs n)) ∧ w = w' := by
  subst hn
  exact pick_any w a cap xs h hlen
theorem floats_lit (w : World) (xs : List Nat) : FloatsAt (w.alloc (.cells (xs.map (Value.float .f64)).toArray 22)) (some ⟨w.heap.size, 0, none⟩) xs := by
  refine .inr ⟨w.heap.size, 0, rfl, by simp, fun i hi => ?_⟩
  rw [cell_of_row _ _ _ _ _ _ (heap_alloc_new w _)]
  simp [List.getD, hi]
theorem bef_one_nan : bef 4607182418800017408 9221120237041090561 = true := by kernel_rfl
theorem pick_lit : pickTo [9221120237041090561, 4607182418800017408, 4613937818241073152, 4613937818241073152] 4 = 2 := by kernel_rfl

set_option maxHeartbeats 400000 in
/-- satchellaw02.awake -/
theorem awake_any (w : World) : Calls Try.prog 16 #[] w fun e w' => e = .returned (.bool true) ∧ Below w.heap.size w w' := by
  have h1 : FloatKind.f64.format.order 4598175219545276416 4598175219545276416 = some .eq := by kernel_rfl
  have h2 : FloatKind.f64.format.order 4623226492472524800 4623226492472524800 = some .eq := by kernel_rfl
  go_enter Try.func16, Try.ntmps16
  go_wp2_with fail
  refine (part_quarter _).mono ?_
  rintro e w1 ⟨rfl, rfl⟩
  go_wp2_with fail
  refine (nan_any _).mono ?_
  rintro e w1 ⟨rfl, rfl⟩
  go_wp2_with fail
  refine (before_any _ _ _).mono ?_
  rintro e w1 ⟨rfl, rfl⟩
  rw [bef_one_nan]
  go_wp2_with fail
  refine (nan_any _).mono ?_
  rintro e w1 ⟨rfl, rfl⟩
  go_wp2_with fail
  refine (pick_m _ _ _ 4 [9221120237041090561, 4607182418800017408, 4613937818241073152, 4613937818241073152] rfl (floats_lit w [9221120237041090561, 4607182418800017408, 4613937818241073152, 4613937818241073152]) (by decide)).mono ?_
  rintro e w1 ⟨rfl, rfl⟩
  rw [pick_lit]
  go_wp2_with fail
  refine (mean_lit _).mono ?_
  rintro e w1 ⟨rfl, rfl⟩
  go_wp2_with fail
  refine (wait_lit _).mono ?_
  rintro e w1 ⟨rfl, rfl⟩
  go_wp2_with fail
  go_ret
  exact ⟨rfl, (Below.refl _ _).alloc (Nat.le_refl _) _⟩

end Go.Proofs.Ytdcaklonhbiejaa
