/-
  The law RatioOrders's walk.
-/
import Derived.Test.YtdcaklonhbiejaaRefP
namespace Go.Proofs.Ytdcaklonhbiejaa
open Go.Shelf Go.RowKit Go.Lib Go.Sort

/-- an append whose run is known -/
theorem wpList_append_run {P : Program} {w : World} {ops : Array Oper} {rest : List Oper} {o : Oper} {a : Act} {Q : Exit → Act → World → Prop} (hgd : o.guard = none) (s x : Operand) (t : TypeId)
    (ho : o.op = .call { callee := .builtin .append, args := #[s, x], argTypes := #[t, t] }) (u v : Value) (hs : a.eval s = u) (hx : a.eval x = v) {v' : Value} {w' : World}
    (hr : (Builtin.append_ #[t, t] o.type #[u, v]).run P w = .ok v' w') (h : wpList P ops Q rest (a.put o.dst v') w') : wpList P ops Q (o :: rest) a w :=
  wpList_plain hgd fun _ hK => by
    unfold Oper.wp execOp
    simp only [ho, resolve, invoke, builtin, Sem.run_bind, Sem.run_pure, Result.andThen_ok, List.map_toArray, List.map_cons, List.map_nil, hs, hx, hr]
    exact hK _ _ h

theorem infoFloat : (Try.prog.info? 22).map (fun i => (i.zero, i.size, i.bytes)) = some (some (.float .f64 0), 1, 8) := by kernel_rfl

/-- 'append([]float64{}, l...)': the same floats in memory of its own -/
theorem copy_floats (W : World) (a : Option Addr) (cap : Nat) (xs : List Nat) (h : FloatsAt W a xs) (hlen : xs.length ≤ 200) :
    ∃ b cb W', (Builtin.append_ #[31, 31] 31 #[.slice (some ⟨W.heap.size, 0, none⟩) 0 0, .slice a xs.length cap]).run Try.prog (W.alloc (.cells #[] 22)) = .ok (.slice b xs.length cb) W' ∧ FloatsAt W' b xs ∧ Below W.heap.size W W' := by
  obtain ⟨i0, hi, hz0, hz1, hz2⟩ := info_parts infoFloat
  rcases Nat.eq_zero_or_pos xs.length with h0 | h0
  · have hx : xs = [] := List.length_eq_zero_iff.1 h0
    subst hx
    refine ⟨some ⟨W.heap.size, 0, none⟩, 0, W.alloc (.cells #[] 22), ?_, .inl rfl, (Below.refl _ _).alloc (Nat.le_refl _) _⟩
    cases a with
    | none => simp [Builtin.append_, go_sem, run_underlying Try.underlying31]
    | some ad => simp [Builtin.append_, go_sem, run_underlying Try.underlying31]
  · obtain ⟨g, off, rfl, hg, hc⟩ := h.resolve_left (fun e => by rw [e] at h0; simp at h0)
    have hown : (W.alloc (.cells #[] 22)).ownsRow W.heap.size 22 1 (.slice (some ⟨W.heap.size, 0, none⟩) 0 0) 0 [] := World.ownsRow_made (base := W.heap.size) (e := 22) (size := 1) W #[] 0 (Nat.le_refl _) (Nat.zero_le _) rfl
    obtain ⟨v', w', hr, hown', hgr, hnil⟩ := run_append_own (P := Try.prog) (W.alloc (.cells #[] 22)) W.heap.size 31 31 22 i0 (.float .f64 0) 1 8 Try.underlying31 hi hz0 hz1 hz2 rfl (by decide) _ 0 [] hown ⟨g, off, none⟩ xs.length cap (xs.map (Value.float .f64)) (by simp) (fun j u hj => by
      have hj2 : j < xs.length := by
        have := (List.getElem?_eq_some_iff.1 hj).1
        simpa using this
      have e : ((⟨g, off, none⟩ : Addr).add j) = ⟨g, off + j, none⟩ := by unfold Addr.add; split <;> simp_all
      rw [e, World.cell?_alloc_lt W _ _ (by simpa using hg), hc j hj2]
      rw [List.getElem?_map, List.getElem?_eq_getElem hj2] at hj
      simp [List.getD, hj2] at hj ⊢
      exact hj) (fun u hu => by obtain ⟨q, _, rfl⟩ := List.mem_map.1 hu; rfl) (by unfold maxLen; omega) (by omega) (by simp)
    rw [Nat.zero_add, List.nil_append] at hown'
    rcases hown'.2 with ⟨_, h2⟩ | ⟨g2, c2, cur, rfl, hb2, hh, _, _, _, htake⟩
    · omega
    · refine ⟨_, _, w', hr, .inr ⟨g2, 0, rfl, ?_, fun i hi => ?_⟩, ((Below.refl _ _).alloc (Nat.le_refl _) _).grown hgr (by simp) (fun k hk => by simp [Value.ownBlock] at hk; omega)⟩
      · rcases Nat.lt_or_ge g2 w'.heap.size with k | k
        · exact k
        · rw [Array.getElem?_eq_none k] at hh; cases hh
      · rw [Nat.zero_add]
        have := hown'.cells (g := g2) rfl i (.float .f64 (xs.getD i 0)) (by rw [List.getElem?_map, List.getElem?_eq_getElem hi]; simp [List.getD, hi])
        have e : ((⟨g2, 0, none⟩ : Addr).add i) = ⟨g2, i, none⟩ := by
          by_cases h0 : i = 0
          · subst h0; simp [Addr.add]
          · simp [Addr.add, h0]
        rwa [e] at this

theorem same_float_q (a n : Nat) (w : World) : Calls Try.prog 30 #[.float .f64 a, .float .f64 a] (w.drewN n) fun e w'' => e = .returned (.bool true) ∧ ∃ m, w'' = w.drewN m :=
  Calls.quiet_of_same ((same_float a _).mono fun _ _ ⟨h1, h2⟩ => ⟨h1, h2.symm⟩)

set_option maxHeartbeats 3000000 in
set_option maxRecDepth 1000000 in
theorem orders_law (w : World) (x y : Nat) (a : Option Addr) (cap : Nat) (xs : List Nat) (h : FloatsAt w a xs) :
    Calls Try.prog 15 #[.float .f64 x, .float .f64 y, .slice a xs.length cap] w fun e w' => e = .returned (.bool true) ∧ Below w.heap.size w w' := by
  have HF := Lib.hid h
  clear h
  by_cases hbig : 200 < xs.length
  · have hbigz : (200 : Int) < (xs.length : Int) := by omega
    go_enter Try.func15, Try.ntmps15
    go_wp2_with fail
    go_ret
    exact ⟨rfl, Below.refl _ _⟩
  have hbigz : ¬ (200 : Int) < (xs.length : Int) := by omega
  obtain ⟨b, cb, w1, happ, hfb, hb1⟩ := copy_floats w a cap xs HF.out (by omega)
  have HFB := Lib.hid hfb
  have HFA := Lib.hid (HF.out.below hb1)
  have HB1 := Lib.hid hb1
  clear hfb hb1
  have HAPP := Lib.hid happ
  clear happ
  go_enter Try.func15, Try.ntmps15
  go_wp2_with (at_builtin; refine wpList_append_run rfl (.tmp 13) (.tmp 14) 31 rfl (.slice (some ⟨w.heap.size, 0, none⟩) 0 0) (.slice a xs.length cap) rfl rfl HAPP.out ?_)
  refine (before_any x y _).mono ?_
  rintro e w' ⟨rfl, rfl⟩
  go_wp2_with fail
  refine (rbefore_any x y _).mono ?_
  rintro e w' ⟨rfl, rfl⟩
  generalize bef x y = bb
  go_wp2_with fail
  refine (pick_any w1 b cb xs HFB.out (by omega)).mono ?_
  rintro e w' ⟨rfl, rfl⟩
  go_wp2_with fail
  refine (rpick_any w1 a cap xs HFA.out (by omega)).mono ?_
  rintro e w2 ⟨rfl, q2, hq2⟩
  have hb2 : Below w1.heap.size w1 w2 := by rw [hq2]; exact below_drewN (Below.refl _ _) q2
  have HFB2 := Lib.hid (HFB.out.below hb2)
  have HFA2 := Lib.hid (HFA.out.below hb2)
  have HB2 := Lib.hid (HB1.out.trans (hb2.mono HB1.out.size))
  clear hb2 hq2 HFB HFA HB1
  generalize pickTo xs xs.length = pp
  go_wp2_with fail
  refine (order_any w2 b cb xs HFB2.out (by omega)).mono ?_
  rintro e w3 ⟨v, ps, rfl, hps, hown, hb3⟩
  have HFB3 := Lib.hid (HFB2.out.below hb3)
  have HFA3 := Lib.hid (HFA2.out.below hb3)
  have HB3 := Lib.hid (HB2.out.trans (hb3.mono HB2.out.size))
  obtain ⟨oa, oc, rfl, hoat⟩ := hown.at
  have HO := Lib.hid hoat
  have HP := Lib.hid hps
  clear hb3 hown hoat hps HFB2 HFA2 HB2
  go_wp2_with fail
  refine (rorder_any w3 a cap xs ps HFA3.out HP.out (by omega)).mono ?_
  rintro e w4 ⟨v, rfl, hown, hb4⟩
  have HFB4 := Lib.hid (HFB3.out.below hb4)
  have HFA4 := Lib.hid (HFA3.out.below hb4)
  have HB4 := Lib.hid (HB3.out.trans (hb4.mono HB3.out.size))
  have HO4 := Lib.hid (HO.out.below hb4)
  obtain ⟨ra, rc, rfl, hrat⟩ := hown.at
  have HR4 := Lib.hid hrat
  clear hb4 hown hrat HFB3 HFA3 HB3 HO
  have hsi := same_ints w4 oa ra oc rc (ps.map (fun (p : Nat) => (p : Int))) HO4.out HR4.out (by rw [List.length_map, HP.out.len]; omega)
  rw [List.length_map] at hsi
  have HSI := Lib.hid hsi
  clear hsi
  go_wp2_with fail
  refine HSI.out.mono ?_
  rintro e w5 ⟨rfl, q5, hq5⟩
  have hb5 : Below w4.heap.size w4 w5 := by rw [hq5]; exact below_drewN (Below.refl _ _) q5
  have HFB5 := Lib.hid (HFB4.out.below hb5)
  have HFA5 := Lib.hid (HFA4.out.below hb5)
  have HB5 := Lib.hid (HB4.out.trans (hb5.mono HB4.out.size))
  clear hb5 hq5 HFB4 HFA4 HB4 HO4 HR4
  go_wp2_with fail
  go_loopg [8, 9] (xs.length) (fun kx s8 s9 wr => ∃ (k m : Nat), k ≤ xs.length ∧ s9 = .int .i64 (k : Int) ∧ s8 = .bool true ∧ xs.length - k ≤ kx ∧ Hid (wr = w5.drewN m))
  case atStart => exact ⟨0, 0, by omega, rfl, by first | rfl | simp, by omega, rfl⟩
  case round =>
    obtain ⟨k, m, hk, rfl, rfl, hkx, HW⟩ := hrel
    by_cases hlt : k < xs.length
    · have hne : xs ≠ [] := fun e => by rw [e] at hlt; simp at hlt
      obtain ⟨g, off, rfl, hg, hc⟩ := HFA5.out.resolve_left hne
      obtain ⟨g', off', rfl, hg', hc'⟩ := HFB5.out.resolve_left hne
      have hltz : (k : Int) < (xs.length : Int) := by omega
      have c1 : wr.cell? ⟨g, off + k, none⟩ = some (.float .f64 (xs.getD k 0)) := by rw [HW.out]; exact hc k hlt
      have c2 : wr.cell? ⟨g', off' + k, none⟩ = some (.float .f64 (xs.getD k 0)) := by rw [HW.out]; exact hc' k hlt
      generalize xs.getD k 0 = v at *
      have HS := Lib.hid (fun n => same_float_q v n wr)
      clear hc hc'
      go_wp2_with fail
      go_quiet (first | (with_reducible exact HS.out _))
      have HW2 : Hid (∀ q, ∃ m, wr.drewN q = w5.drewN m) := fun q => ⟨m + q, by rw [HW.out, World.drewN_drewN]⟩
      obtain ⟨m2, hm2⟩ := HW2.out nq
      rw [hm2]
      generalize hg2 : w5.drewN m2 = w6
      have HG : Hid (w6 = w5.drewN m2) := hg2.symm
      clear c1 c2 hg2 hm2 HW2 HW
      go_wp2
      go_roundg (xs.length - (k + 1))
      case measure => omega
      case rel => exact ⟨k + 1, m2, by omega, by go_num, rfl, by omega, HG⟩
    · obtain rfl : k = xs.length := by omega
      go_wp2_with fail
      refine (awake_any _).mono ?_
      rintro e w6 ⟨rfl, hb6⟩
      go_wp2_with fail
      go_ret
      have h5 := HB5.out
      have h56 : Below w.heap.size w wr := by rw [HW.out]; exact below_drewN h5 m
      exact ⟨rfl, h56.trans (hb6.mono h56.size)⟩

end Go.Proofs.Ytdcaklonhbiejaa
