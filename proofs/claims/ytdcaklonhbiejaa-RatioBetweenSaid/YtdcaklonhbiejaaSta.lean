/-
  The stable sort of package slices at places: all of it.
-/
import Derived.Test.YtdcaklonhbiejaaSm2
import Derived.Shelf.SlGeneric
namespace Go.Proofs.Ytdcaklonhbiejaa
open Go.Shelf Go.RowKit Go.Lib Go.Sort

/-- this program's numbers for those of the shelf's insertion sort -/
def insR : Ren where
  f := fun x => match x with
    | 20 => 86
    | n => n
  t := fun x => match x with
    | 24 => 3
    | 22 => 32
    | 3 => 3
    | 25 => 80
    | 4 => 4
    | 0 => 0
    | n => n
  g := fun n => n

theorem insL : SlLaysF.n20 Try.prog insR :=
  { mixed := by kernel_rfl
    f20 := ⟨"slices.insertionSortCmpFunc[int]", of_decide_eq_true (by kernel_rfl), Try.func86.trans (congrArg some (by kernel_rfl))⟩
    t0 := Try.underlying0, a0 := Try.isAgg0, z0 := Try.sizeOf0, v0 := Try.zeroValue0
    t3 := Try.underlying3, a3 := Try.isAgg3, z3 := Try.sizeOf3, v3 := Try.zeroValue3
    t4 := Try.underlying4, a4 := Try.isAgg4, z4 := Try.sizeOf4, v4 := Try.zeroValue4
    t22 := Try.underlying32, a22 := Try.isAgg32, z22 := Try.sizeOf32, v22 := Try.zeroValue32
    a24 := Try.isAgg3, z24 := Try.sizeOf3
    t25 := Try.underlying80, a25 := Try.isAgg80, z25 := Try.sizeOf80, v25 := Try.zeroValue80 }

section
variable {N : Nat}

/-- the places from x on, below y, are there, sorted -/
structure Good (f : Fin (N + 1) → Int) (x y : Nat) (d : Array (Fin (N + 1))) : Prop where
  srt : Srt f x y d
  lo : ∀ p, x ≤ p → p < y → x ≤ d[p]!.val
  hi : ∀ p, x ≤ p → p < y → d[p]!.val < y

theorem Good.ext {f : Fin (N + 1) → Int} {x y : Nat} {d d' : Array (Fin (N + 1))} (h : Good f x y d) (he : ∀ p, x ≤ p → p < y → d'[p]! = d[p]!) : Good f x y d' :=
  ⟨h.srt.ext he, fun p h1 h2 => by rw [he p h1 h2]; exact h.lo p h1 h2, fun p h1 h2 => by rw [he p h1 h2]; exact h.hi p h1 h2⟩

theorem good_perm {f : Fin (N + 1) → Int} {x y : Nat} {d d' : Array (Fin (N + 1))} (hy : y ≤ d.size) (hp : PermIn x y d d') (hs : Srt f x y d') (hlo : ∀ p, x ≤ p → p < y → x ≤ d[p]!.val) (hhi : ∀ p, x ≤ p → p < y → d[p]!.val < y) : Good f x y d' :=
  ⟨hs, permIn_all d d' x y (fun v => x ≤ v.val) hy hp hlo, permIn_all d d' x y (fun v => v.val < y) hy hp hhi⟩

/-- below a: parts of s2; from a on: parts of s1 -/
structure Upto (f : Fin (N + 1) → Int) (s1 s2 n a : Nat) (d : Array (Fin (N + 1))) : Prop where
  below : ∀ x, s2 ∣ x → x < a → Good f x (x + s2) d
  above : ∀ x, s1 ∣ x → a ≤ x → x < n → Good f x (min (x + s1) n) d

theorem dvd_next {s x a : Nat} (h1 : s ∣ x) (h2 : s ∣ a) (h : x < a) : x + s ≤ a := by
  have h3 := Nat.dvd_sub h2 h1
  have := Nat.le_of_dvd (by omega) h3
  omega

theorem upto_step {f : Fin (N + 1) → Int} {s n a : Nat} {d d' : Array (Fin (N + 1))} (h : Upto f s (2 * s) n a d) (ha : 2 * s ∣ a) (hn : a + 2 * s ≤ n) (hs : 0 < s) (hsz : n ≤ d.size) (hp : PermIn a (a + 2 * s) d d') (hso : Srt f a (a + 2 * s) d') : Upto f s (2 * s) n (a + 2 * s) d' := by
  have da : s ∣ a := Nat.dvd_trans (Nat.dvd_mul_left s 2) ha
  have g1 := h.above a da (Nat.le_refl _) (by omega)
  have g2 := h.above (a + s) (Nat.dvd_add da (Nat.dvd_refl s)) (by omega) (by omega)
  rw [Nat.min_eq_left (by omega)] at g1 g2
  have ga : Good f a (a + 2 * s) d' := good_perm (by omega) hp hso
    (fun p k1 k2 => by
      by_cases c : p < a + s
      · exact g1.lo p k1 c
      · have := g2.lo p (by omega) (by omega); omega)
    (fun p k1 k2 => by
      by_cases c : p < a + s
      · have := g1.hi p k1 c; omega
      · have := g2.hi p (by omega) (by omega); omega)
  refine ⟨fun x k1 k2 => ?_, fun x k1 k2 k3 => ?_⟩
  · by_cases c : x < a
    · have := dvd_next k1 ha c
      exact (h.below x k1 c).ext (fun p l1 l2 => hp.2.1 p (.inl (by omega)))
    · by_cases e : x = a
      · subst e; exact ga
      · exfalso
        have := dvd_next ha k1 (by omega)
        omega
  · exact (h.above x k1 (by omega) k3).ext (fun p l1 l2 => hp.2.1 p (.inr (by omega)))

/-- one round is over -/
theorem upto_end {f : Fin (N + 1) → Int} {s n a : Nat} {d : Array (Fin (N + 1))} (h : ∀ x, 2 * s ∣ x → x < a → Good f x (x + 2 * s) d) (ha : 2 * s ∣ a) (han : a ≤ n) (hn : n < a + 2 * s) (hl : a < n → Good f a n d) : Upto f (2 * s) (2 * (2 * s)) n 0 d := by
  refine ⟨fun x _ k => by omega, fun x k1 _ k3 => ?_⟩
  by_cases c : x < a
  · have := dvd_next k1 ha c
    rw [Nat.min_eq_left (by omega)]
    exact h x k1 c
  · by_cases e : x = a
    · subst e
      rw [Nat.min_eq_right (by omega)]
      exact hl k3
    · exfalso
      have := dvd_next ha k1 (by omega)
      omega

theorem sym_all (f : Fin (N + 1) → Int) (cf : Fin (N + 1) → Fin (N + 1) → Int) (hcf : ∀ x y : Fin (N + 1), x.val < y.val → (cf y x < 0 ↔ f y < f x)) (g : Nat) (cb : Array Value) (blk off cap : Nat) (d0 : Array (Fin (N + 1))) (w0 : World)
    (eg : ∀ args w, (callFunc g args).run Try.prog w = .ok (.enter g args) w) (hcmp : CmpLays1 Try.prog g cb encP cf blk off d0.size w0) (R : Row1 encP w0 blk off d0) (hsz : d0.size < 4611686018427387904) (K : Nat) : SymOk f g cb blk off cap d0 w0 K := by
  induction K with
  | zero => intro a m b c d w h; omega
  | succ K IH =>
    intro a m b c d w h hs S ham hmb hb s1 s2 hl hr
    by_cases h1 : m = a + 1
    · exact symA f cf hcf g cb blk off cap d0 w0 eg hcmp R hsz a m b c d w hs S h1 hmb hb s2 hl hr
    · by_cases h2 : b = m + 1
      · exact symB f cf hcf g cb blk off cap d0 w0 eg hcmp R hsz a m b c d w hs S ham h1 h2 hb s1 hl hr
      · exact symC f cf hcf g cb blk off cap d0 w0 eg hcmp R hsz K IH a m b c d w (by omega) hs S ham h1 hmb h2 hb s1 s2 hl hr

set_option maxHeartbeats 16000000 in
set_option maxRecDepth 1000000 in
theorem stable_s (f : Fin (N + 1) → Int) (cf : Fin (N + 1) → Fin (N + 1) → Int) (hcf : ∀ x y : Fin (N + 1), x.val < y.val → (cf y x < 0 ↔ f y < f x)) (g : Nat) (cb : Array Value) (blk off cap : Nat) (d0 : Array (Fin (N + 1))) (w0 : World)
    (eg : ∀ args w, (callFunc g args).run Try.prog w = .ok (.enter g args) w) (hcmp : CmpLays1 Try.prog g cb encP cf blk off d0.size w0) (R : Row1 encP w0 blk off d0) (hsz : d0.size < 1152921504606846976) (hn0 : 0 < d0.size) (hd0 : ∀ p, p < d0.size → d0[p]!.val = p) :
    Calls Try.prog 80 #[.slice (some ⟨blk, off, none⟩) d0.size cap, .int .i64 d0.size, .func (.func g) #[] cb] w0 fun e w' => e = .returned (.tuple #[]) ∧ ∃ d', SW encP w0 blk off d' w' ∧ PermIn 0 d0.size d0 d' ∧ Srt f 0 d0.size d' := by
  have hlt : ∀ x y : Fin (N + 1), x.val < y.val → ltOf cf y x = decide (f y < f x) := fun x y h => decide_eq_decide.2 (hcf x y h)
  have sym := fun K => sym_all f cf hcf g cb blk off cap d0 w0 eg hcmp R (by omega) K
  have S0 : Aside (SW encP w0 blk off d0 w0) := SW.start R.hH
  have SYM : Aside _ := sym
  have HC : Aside _ := hcmp
  have HLT : Aside _ := hlt
  have HD0 : Aside _ := hd0
  clear hcf hcmp sym hlt hd0
  obtain ⟨n, hn⟩ : ∃ n, n = d0.size := ⟨_, rfl⟩
  rw [← hn] at hsz hn0 ⊢
  have HN := Lib.hid hn
  clear hn
  go_enter Try.func80, Try.ntmps80
  go_wp2
  go_loopg [7, 8] n (fun kx s7 s8 wr => ∃ (a : Nat) (dk : Array (Fin (N + 1))), s7 = .int .i64 a ∧ s8 = .int .i64 ((a + 20 : Nat) : Int) ∧ a ≤ n ∧ n - a ≤ kx ∧ Aside (dk.size = d0.size) ∧ Aside (SW encP w0 blk off dk wr) ∧
    Hid (20 ∣ a ∧ PermIn 0 n d0 dk ∧ (∀ x, 20 ∣ x → x < a → Good f x (x + 20) dk) ∧ ∀ p, a ≤ p → p < n → dk[p]!.val = p))
  case atStart => exact ⟨0, d0, rfl, by first | rfl | go_num, by omega, by omega, rfl, S0, ⟨⟨0, rfl⟩, permIn_refl d0 0 n, fun x _ h => by omega, fun p _ h => HD0.out p (by rw [← HN.out]; exact h)⟩⟩
  case round =>
    clear S0
    obtain ⟨a, dk, rfl, rfl, han, hkx, hds, S1, HI⟩ := hrel
    have w1 : IntKind.i64.wrap ((a : Int) + 20) = (a : Int) + 20 := by rw [IntKind.wrap_i64]; omega
    have w2 : IntKind.i64.wrap ((a : Int) + 40) = (a : Int) + 40 := by rw [IntKind.wrap_i64]; omega
    by_cases hlt : a + 20 ≤ n
    · have hltz : (a : Int) + 20 ≤ (n : Int) := by omega
      obtain ⟨i1, i2, i3, i4⟩ := HI.out
      have hin := Any.insertionSortCmpFunc_s insL encP cf g cb blk off cap a (a + 20) d0 dk w0 wr eg HC.out R hds.out.symm S1.out (by omega) (by rw [hds.out, ← HN.out]; omega) (by rw [hds.out, ← HN.out]; omega)
      rw [hds.out, ← HN.out] at hin
      change Calls Try.prog 86 _ _ _ at hin
      have hadd : ((a + 20 : Nat) : Int) = (a : Int) + 20 := by omega
      rw [hadd] at hin
      have HIN := Lib.hid hin
      clear hin hadd
      obtain ⟨q1, q2⟩ := ins_srt (ltOf cf) (fun v => v.val) f HLT.out a (a + 20) dk (by omega) (by rw [hds.out, ← HN.out]; omega) (fun p q k1 k2 k3 => by rw [i4 p k1 (by omega), i4 q (by omega) (by omega)]; exact k2)
      have hgood : Good f a (a + 20) (insertionSort (ltOf cf) dk a (a + 20)) := good_perm (by rw [hds.out, ← HN.out]; omega) q1 q2 (fun p k1 k2 => by rw [i4 p k1 (by omega)]; exact k1) (fun p k1 k2 => by rw [i4 p k1 (by omega)]; exact k2)
      have hds2 : (insertionSort (ltOf cf) dk a (a + 20)).size = d0.size := by rw [q1.1]; exact hds.out
      have HNEW : Hid (20 ∣ a + 20 ∧ PermIn 0 n d0 (insertionSort (ltOf cf) dk a (a + 20)) ∧ (∀ x, 20 ∣ x → x < a + 20 → Good f x (x + 20) (insertionSort (ltOf cf) dk a (a + 20))) ∧ ∀ p, a + 20 ≤ p → p < n → (insertionSort (ltOf cf) dk a (a + 20))[p]!.val = p) := by
        refine ⟨Nat.dvd_add i1 (Nat.dvd_refl 20), permIn_trans _ _ _ 0 n i2 (permIn_mono _ _ a (a + 20) 0 n (by omega) (by omega) (by rw [hds.out, ← HN.out]; omega) q1), fun x k1 k2 => ?_, fun p k1 k2 => ?_⟩
        · by_cases c : x < a
          · have := dvd_next k1 i1 c
            exact (i3 x k1 c).ext (fun p l1 l2 => q1.2.1 p (.inl (by omega)))
          · by_cases e : x = a
            · subst e; exact hgood
            · exfalso
              have := dvd_next i1 k1 (by omega)
              omega
        · rw [q1.2.1 p (.inr k1)]; exact i4 p (by omega) k2
      have HDS2 : Aside _ := hds2
      clear i1 i2 i3 i4 q1 q2 hgood hds2 HI hds
      generalize insertionSort (ltOf cf) dk a (a + 20) = d2 at *
      go_wp2_with fail
      refine HIN.out.mono ?_
      rintro e w3 ⟨rfl, S2⟩
      have ST : Aside _ := S2
      clear S1 S2 HIN
      go_wp2
      go_roundg (n - (a + 20))
      case measure => omega
      case rel => exact ⟨a + 20, d2, by first | rfl | go_num | (congr 1; omega), by first | rfl | go_num | (congr 1; omega), by omega, by omega, HDS2, ST, HNEW⟩
    · have hltz : ¬ (a : Int) + 20 ≤ (n : Int) := by omega
      obtain ⟨i1, i2, i3, i4⟩ := HI.out
      have hin := Any.insertionSortCmpFunc_s insL encP cf g cb blk off cap a n d0 dk w0 wr eg HC.out R hds.out.symm S1.out (by omega) (by rw [hds.out, ← HN.out]; omega) (by rw [hds.out, ← HN.out]; omega)
      rw [hds.out, ← HN.out] at hin
      change Calls Try.prog 86 _ _ _ at hin
      have HIN := Lib.hid hin
      clear hin
      obtain ⟨q1, q2⟩ := ins_srt (ltOf cf) (fun v => v.val) f HLT.out a n dk (by omega) (by rw [hds.out, ← HN.out]; omega) (fun p q k1 k2 k3 => by rw [i4 p k1 (by omega), i4 q (by omega) (by omega)]; exact k2)
      have hgood : Good f a n (insertionSort (ltOf cf) dk a n) := good_perm (by rw [hds.out, ← HN.out]; omega) q1 q2 (fun p k1 k2 => by rw [i4 p k1 (by omega)]; exact k1) (fun p k1 k2 => by rw [i4 p k1 (by omega)]; exact k2)
      have hds2 : (insertionSort (ltOf cf) dk a n).size = d0.size := by rw [q1.1]; exact hds.out
      have HNEW : Hid (PermIn 0 n d0 (insertionSort (ltOf cf) dk a n) ∧ Upto f 20 (2 * 20) n 0 (insertionSort (ltOf cf) dk a n)) := by
        refine ⟨permIn_trans _ _ _ 0 n i2 (permIn_mono _ _ a n 0 n (by omega) (by omega) (by rw [hds.out, ← HN.out]; omega) q1), ?_⟩
        exact upto_end (s := 10) (fun x k1 k2 => (i3 x k1 k2).ext (fun p l1 l2 => q1.2.1 p (.inl (by have := dvd_next k1 i1 k2; omega)))) i1 han (by omega) (fun _ => hgood)
      have HDS2 : Aside _ := hds2
      clear i1 i2 i3 i4 q1 q2 hgood hds2 HI hds
      generalize insertionSort (ltOf cf) dk a n = d2 at *
      go_wp2_with fail
      refine HIN.out.mono ?_
      rintro e w3 ⟨rfl, S2⟩
      have ST : Aside _ := S2
      clear S1 S2 HIN hltz hlt w1 w2 hkx han
      go_wp2
      go_loopg [6] n (fun kx s6 wr => ∃ (s : Nat) (dk : Array (Fin (N + 1))), s6 = .int .i64 s ∧ 0 < s ∧ s ≤ 2 * n + 20 ∧ n - s ≤ kx ∧ Aside (dk.size = d0.size) ∧ Aside (SW encP w0 blk off dk wr) ∧ Hid (PermIn 0 n d0 dk ∧ Upto f s (2 * s) n 0 dk))
      case atStart => exact ⟨20, d2, rfl, by omega, by omega, by omega, HDS2, ST, HNEW⟩
      case round =>
        clear ST HNEW HDS2
        obtain ⟨s, dk, rfl, hs0, hsn, hkx, hds, S1, HI⟩ := hrel
        by_cases hsl : s < n
        · have hslz : (s : Int) < (n : Int) := by omega
          have w1 : IntKind.i64.wrap (2 * (s : Int)) = 2 * (s : Int) := by rw [IntKind.wrap_i64]; omega
          go_wp2
          go_loopg [7, 8] n (fun ky s7 s8 wr => ∃ (a : Nat) (dk : Array (Fin (N + 1))), s7 = .int .i64 a ∧ s8 = .int .i64 ((a + 2 * s : Nat) : Int) ∧ a ≤ n ∧ n - a ≤ ky ∧ Aside (dk.size = d0.size) ∧ Aside (SW encP w0 blk off dk wr) ∧ Hid (PermIn 0 n d0 dk ∧ 2 * s ∣ a ∧ Upto f s (2 * s) n a dk))
          case atStart => exact ⟨0, dk, rfl, by first | rfl | go_num | (congr 1; omega), by omega, by omega, hds, S1, ⟨HI.out.1, ⟨0, rfl⟩, HI.out.2⟩⟩
          case round =>
            clear S1 HI hds
            obtain ⟨a, dk, rfl, rfl, han, hky, hds, S1, HI⟩ := hrel
            have w2 : IntKind.i64.wrap ((a : Int) + (s : Int)) = (a : Int) + (s : Int) := by rw [IntKind.wrap_i64]; omega
            have w3 : IntKind.i64.wrap ((a : Int) + 2 * (s : Int) + 2 * (s : Int)) = (a : Int) + 2 * (s : Int) + 2 * (s : Int) := by rw [IntKind.wrap_i64]; omega
            have w4 : IntKind.i64.wrap ((s : Int) * 2) = (s : Int) * 2 := by rw [IntKind.wrap_i64]; omega
            obtain ⟨i1, i2, i3⟩ := HI.out
            have da : s ∣ a := Nat.dvd_trans (Nat.dvd_mul_left s 2) i2
            by_cases hle : a + 2 * s ≤ n
            · have hlez : (a : Int) + 2 * (s : Int) ≤ (n : Int) := by omega
              have g1 := i3.above a da (Nat.le_refl _) (by omega)
              have g2 := i3.above (a + s) (Nat.dvd_add da (Nat.dvd_refl s)) (by omega) (by omega)
              rw [Nat.min_eq_left (by omega)] at g1 g2
              have hsm := SYM.out (n + 1) a (a + s) (a + 2 * s) (a + s) dk wr (by omega) hds.out S1.out (by omega) (by omega) (by rw [hds.out, ← HN.out]; omega) g1.srt (by rw [show a + 2 * s = a + s + s by omega]; exact g2.srt) g1.hi (fun p k1 k2 => g2.lo p k1 (by omega))
              rw [← HN.out] at hsm
              have hadd : ((a + s : Nat) : Int) = (a : Int) + (s : Int) := by omega
              have hadd2 : ((a + 2 * s : Nat) : Int) = (a : Int) + 2 * (s : Int) := by omega
              rw [hadd, hadd2] at hsm
              have HSM := Lib.hid hsm
              clear hsm hadd hadd2 g1 g2 i1 i2 i3 da
              go_wp2_with fail
              refine HSM.out.mono ?_
              rintro e w5 ⟨rfl, d3, S3, hp3, hs3⟩
              have ST3 : Aside _ := S3
              have HNEW : Hid (PermIn 0 n d0 d3 ∧ 2 * s ∣ a + 2 * s ∧ Upto f s (2 * s) n (a + 2 * s) d3) := by
                obtain ⟨i1, i2, i3⟩ := HI.out
                exact ⟨permIn_trans _ _ _ 0 n i1 (permIn_mono _ _ a (a + 2 * s) 0 n (by omega) (by omega) (by rw [hds.out, ← HN.out]; omega) hp3), Nat.dvd_add i2 (Nat.dvd_refl _), upto_step i3 i2 hle hs0 (by rw [hds.out, ← HN.out]; omega) hp3 hs3⟩
              have HDS2 : Aside (d3.size = d0.size) := by
                show _ = _
                rw [hp3.1]; exact hds.out
              clear S1 S3 HSM HI hds hp3 hs3
              go_wp2
              go_roundg (n - (a + 2 * s))
              case measure => omega
              case rel => exact ⟨a + 2 * s, d3, by first | rfl | go_num | (congr 1; omega), by first | rfl | go_num | (congr 1; omega), by omega, by omega, HDS2, ST3, HNEW⟩
            · have hlez : ¬ (a : Int) + 2 * (s : Int) ≤ (n : Int) := by omega
              by_cases hms : a + s < n
              · have hmsz : (a : Int) + (s : Int) < (n : Int) := by omega
                have g1 := i3.above a da (Nat.le_refl _) (by omega)
                have g2 := i3.above (a + s) (Nat.dvd_add da (Nat.dvd_refl s)) (by omega) (by omega)
                rw [Nat.min_eq_left (by omega)] at g1
                rw [Nat.min_eq_right (by omega)] at g2
                have hsm := SYM.out (n + 1) a (a + s) n (a + s) dk wr (by omega) hds.out S1.out (by omega) (by omega) (by rw [hds.out, ← HN.out]; omega) g1.srt g2.srt g1.hi g2.lo
                rw [← HN.out] at hsm
                have hadd : ((a + s : Nat) : Int) = (a : Int) + (s : Int) := by omega
                rw [hadd] at hsm
                have HSM := Lib.hid hsm
                clear hsm hadd g1 g2 i1 i2 i3 da
                go_wp2_with fail
                refine HSM.out.mono ?_
                rintro e w5 ⟨rfl, d3, S3, hp3, hs3⟩
                have ST3 : Aside _ := S3
                have HNEW : Hid (PermIn 0 n d0 d3 ∧ Upto f (2 * s) (2 * (2 * s)) n 0 d3) := by
                  obtain ⟨i1, i2, i3⟩ := HI.out
                  have da : s ∣ a := Nat.dvd_trans (Nat.dvd_mul_left s 2) i2
                  have g1 := i3.above a da (Nat.le_refl _) (by omega)
                  have g2 := i3.above (a + s) (Nat.dvd_add da (Nat.dvd_refl s)) (by omega) (by omega)
                  rw [Nat.min_eq_left (by omega)] at g1
                  rw [Nat.min_eq_right (by omega)] at g2
                  refine ⟨permIn_trans _ _ _ 0 n i1 (permIn_mono _ _ a n 0 n (by omega) (by omega) (by rw [hds.out, ← HN.out]; omega) hp3), upto_end (fun x k1 k2 => (i3.below x k1 k2).ext (fun p l1 l2 => hp3.2.1 p (.inl (by have := dvd_next k1 i2 k2; omega)))) i2 han (by omega) (fun _ => ?_)⟩
                  refine good_perm (by rw [hds.out, ← HN.out]; omega) hp3 hs3 (fun p k1 k2 => ?_) (fun p k1 k2 => ?_)
                  · by_cases c : p < a + s
                    · exact g1.lo p k1 c
                    · have := g2.lo p (by omega) (by omega); omega
                  · by_cases c : p < a + s
                    · have := g1.hi p k1 c; omega
                    · have := g2.hi p (by omega) (by omega); omega
                have HDS2 : Aside (d3.size = d0.size) := by
                  show _ = _
                  rw [hp3.1]; exact hds.out
                clear S1 S3 HSM HI hds hp3 hs3
                go_wp2
                go_roundg (n - 2 * s)
                case measure => omega
                case rel => exact ⟨2 * s, d3, by first | rfl | go_num | (congr 1; omega), by omega, by omega, by omega, HDS2, ST3, HNEW⟩
              · have hmsz : ¬ (a : Int) + (s : Int) < (n : Int) := by omega
                have HNEW : Hid (PermIn 0 n d0 dk ∧ Upto f (2 * s) (2 * (2 * s)) n 0 dk) := ⟨i1, upto_end (fun x k1 k2 => i3.below x k1 k2) i2 han (by omega) (fun k => by
                  have g1 := i3.above a da (Nat.le_refl _) k
                  rwa [Nat.min_eq_right (by omega)] at g1)⟩
                clear i1 i2 i3 da HI
                go_wp2
                go_roundg (n - 2 * s)
                case measure => omega
                case rel => exact ⟨2 * s, dk, by first | rfl | go_num | (congr 1; omega), by omega, by omega, by omega, hds, S1, HNEW⟩
        · have hslz : ¬ (s : Int) < (n : Int) := by omega
          go_wp2
          go_end0
          obtain ⟨i1, i2⟩ := HI.out
          have g := i2.above 0 ⟨0, rfl⟩ (Nat.le_refl _) hn0
          rw [Nat.min_eq_right (by omega)] at g
          exact ⟨rfl, dk, S1.out, i1, g.srt⟩

end
end Go.Proofs.Ytdcaklonhbiejaa
