/-
  A note's bytes are read as they were written, whole, cut short, or with more behind them: in plain Lean.
-/
import Derived.Test.YtkfhljggdcajpaaNwr
import Derived.Test.YtkfhljggdcajpaaNrd
import Derived.Test.YtkfhljggdcajpaaDec
namespace Go.Proofs.Ytkfhljggdcajpaa
open Go.RowKit Go.Sort

theorem take_app_le {α : Type} {s rest : List α} {r : Nat} (h : s.length ≤ r) : (s ++ rest).take r = s ++ rest.take (r - s.length) := by
  rw [List.take_append, List.take_of_length_le h]
theorem take_app_lt {α : Type} {s rest : List α} {r : Nat} (h : r < s.length) : (s ++ rest).take r = s.take r := by
  rw [List.take_append, show r - s.length = 0 by omega, List.take_zero, List.append_nil]

theorem drop_more {α : Type} {xs s t : List α} {pos l : Nat} (h : xs.drop pos = s ++ t) (hl : s.length = l) : xs.drop (pos + l) = t := by
  rw [← List.drop_drop, h, List.drop_left' hl]
theorem drop_len {α : Type} {xs s : List α} {pos : Nat} (h : xs.drop pos = s) : s.length = xs.length - pos := by rw [← h, List.length_drop]

/-- a number, behind which rest follows, cut at r -/
theorem rd_step {xs rest : List Int} {pos r : Nat} {n : Int} (h0 : 0 ≤ n) (h1 : n ≤ 2147483647) (h : xs.drop pos = (put n ++ rest).take r) :
    ((put n).length ≤ r ∧ rd xs pos = .ok (n, pos + (put n).length) ∧ xs.drop (pos + (put n).length) = rest.take (r - (put n).length)) ∨ (r < (put n).length ∧ rd xs pos = .error (4, xs.length)) := by
  by_cases hr : (put n).length ≤ r
  · rw [take_app_le hr] at h
    exact .inl ⟨hr, by rw [rd_put xs _ pos n h0 h1 h, put_length], drop_more h rfl⟩
  · rw [take_app_lt (by omega)] at h
    exact .inr ⟨by omega, rd_cut xs pos r n h0 h1 (by rw [← put_length]; omega) h⟩

theorem bnd_step {xs rest : List Int} {pos r : Nat} {n lo hi above : Int} (h0 : 0 ≤ n) (h1 : n ≤ 2147483647) (hlo : lo ≤ n) (hhi : n ≤ hi) (h : xs.drop pos = (put n ++ rest).take r) :
    ((put n).length ≤ r ∧ bnd xs pos lo hi above = .ok (n, pos + (put n).length) ∧ xs.drop (pos + (put n).length) = rest.take (r - (put n).length)) ∨ (r < (put n).length ∧ bnd xs pos lo hi above = .error (4, xs.length)) := by
  unfold bnd
  rcases rd_step h0 h1 h with ⟨a, b, c⟩ | ⟨a, b⟩
  · refine .inl ⟨a, ?_, c⟩
    rw [b]
    simp only
    rw [if_neg (by omega), if_neg (by omega)]
  · exact .inr ⟨a, by rw [b]⟩

theorem ints_step {xs rest : List Int} (ns : List Int) (hns : AllIn ns) : ∀ {pos r : Nat} (acc : List Int), xs.drop pos = (ns.flatMap put ++ rest).take r →
    ((ns.flatMap put).length ≤ r ∧ rdInts xs ns.length pos acc = .ok (acc ++ ns, pos + (ns.flatMap put).length) ∧ xs.drop (pos + (ns.flatMap put).length) = rest.take (r - (ns.flatMap put).length)) ∨ (r < (ns.flatMap put).length ∧ rdInts xs ns.length pos acc = .error (4, xs.length)) := by
  induction ns with
  | nil => intro pos r acc h; exact .inl ⟨by simp, by simp [rdInts], by simpa using h⟩
  | cons n ns ih =>
    intro pos r acc h
    have hn := hns n (by simp)
    rw [List.flatMap_cons, List.append_assoc] at h
    rw [List.flatMap_cons, List.length_cons, rdInts]
    rcases bnd_step (lo := 0) (hi := 2147483647) (above := 5) hn.1 hn.2 hn.1 hn.2 h with ⟨a, b, c⟩ | ⟨a, b⟩
    · rw [b]
      simp only
      rcases ih (fun m hm => hns m (by simp [hm])) (acc ++ [n]) c with ⟨a2, b2, c2⟩ | ⟨a2, b2⟩
      · refine .inl ⟨by rw [List.length_append]; omega, ?_, ?_⟩
        · rw [b2, List.length_append, Nat.add_assoc, List.append_assoc]; rfl
        · rw [List.length_append, ← Nat.add_assoc, c2, Nat.sub_add_eq]
      · exact .inr ⟨by rw [List.length_append]; omega, b2⟩
    · rw [b]
      exact .inr ⟨by rw [List.length_append]; omega, rfl⟩

theorem ids_step {xs rest : List Int} (ids : List (List Int)) (hids : Ids ids) : ∀ {pos r : Nat} (acc : List (List Int)), xs.drop pos = (ids.flatten ++ rest).take r →
    (ids.flatten.length ≤ r ∧ rdIds xs ids.length pos acc = .ok (acc ++ ids, pos + ids.flatten.length) ∧ xs.drop (pos + ids.flatten.length) = rest.take (r - ids.flatten.length)) ∨ (r < ids.flatten.length ∧ rdIds xs ids.length pos acc = .error (4, xs.length)) := by
  induction ids with
  | nil => intro pos r acc h; exact .inl ⟨by simp, by simp [rdIds], by simpa using h⟩
  | cons x ids ih =>
    intro pos r acc h
    have hx := (hids x (by simp)).1
    rw [List.flatten_cons, List.append_assoc] at h
    rw [List.flatten_cons, List.length_cons, rdIds]
    have hdl := drop_len h
    by_cases hr : 16 ≤ r
    · rw [take_app_le (by omega)] at h
      have hlen : pos + 16 ≤ xs.length := by rw [take_app_le (by omega), List.length_append, hx] at hdl; omega
      rw [if_pos hlen]
      have ht : (xs.drop pos).take 16 = x := by rw [h, List.take_left' hx]
      have c := drop_more h hx
      rw [ht]
      rw [hx] at c
      rcases ih (fun m hm => hids m (by simp [hm])) (acc ++ [x]) c with ⟨a2, b2, c2⟩ | ⟨a2, b2⟩
      · refine .inl ⟨by rw [List.length_append, hx]; omega, ?_, ?_⟩
        · rw [b2, List.length_append, hx, Nat.add_assoc, List.append_assoc]; rfl
        · rw [List.length_append, hx, ← Nat.add_assoc, c2, Nat.sub_add_eq]
      · exact .inr ⟨by rw [List.length_append, hx]; omega, b2⟩
    · rw [List.length_take] at hdl
      rw [if_neg (by omega)]
      exact .inr ⟨by rw [List.length_append]; omega, rfl⟩

theorem b_step {xs rest bs : List Int} {pos r least most : Nat} (h1 : least ≤ bs.length) (h2 : bs.length ≤ most) (h3 : bs.length ≤ 1024) (h : xs.drop pos = (put bs.length ++ (bs ++ rest)).take r) :
    ((put bs.length).length + bs.length ≤ r ∧ rdB xs pos least most = .ok (bs, pos + (put bs.length).length + bs.length) ∧ xs.drop (pos + (put bs.length).length + bs.length) = rest.take (r - ((put bs.length).length + bs.length))) ∨
      (r < (put bs.length).length + bs.length ∧ rdB xs pos least most = .error (4, xs.length)) := by
  unfold rdB rdBytes
  rcases bnd_step (lo := 0) (hi := (most : Int)) (above := 3) (n := (bs.length : Int)) (by omega) (by omega) (by omega) (by omega) h with ⟨a, b, c⟩ | ⟨a, b⟩
  · rw [b]
    simp only [Int.toNat_natCast]
    have hdl := drop_len c
    have hpl : pos + (put (bs.length : Int)).length ≤ xs.length := by
      have h' := h
      rw [take_app_le a] at h'
      have := drop_len h'
      have hp := sizeN_pos (bs.length : Int) (by omega) (by omega)
      rw [← put_length] at hp
      rw [List.length_append] at this
      omega
    by_cases hr : bs.length ≤ r - (put bs.length).length
    · rw [take_app_le hr] at c
      rw [take_app_le hr, List.length_append] at hdl
      rw [if_neg (by omega), c, List.take_left' rfl]
      refine .inl ⟨by omega, ?_, ?_⟩
      · simp only
        rw [if_neg (by omega)]
      · rw [drop_more c rfl, Nat.sub_add_eq]
    · rw [take_app_lt (by omega), List.length_take] at hdl
      rw [if_pos (by omega)]
      exact .inr ⟨by omega, rfl⟩
  · rw [b]
    exact .inr ⟨by omega, rfl⟩

theorem cnt_step {xs rest : List Int} {pos r n lo hi : Nat} (h1 : lo ≤ n) (h2 : n ≤ hi) (h3 : n ≤ 1024) (h : xs.drop pos = (put n ++ rest).take r) :
    ((put n).length ≤ r ∧ rdCnt xs pos lo hi = .ok (n, pos + (put n).length) ∧ xs.drop (pos + (put n).length) = rest.take (r - (put n).length)) ∨ (r < (put n).length ∧ rdCnt xs pos lo hi = .error (4, xs.length)) := by
  unfold rdCnt
  rcases bnd_step (lo := 0) (hi := (hi : Int)) (above := 3) (n := (n : Int)) (by omega) (by omega) (by omega) (by omega) h with ⟨a, b, c⟩ | ⟨a, b⟩
  · rw [b]
    refine .inl ⟨a, ?_, c⟩
    simp only [Int.toNat_natCast]
    rw [if_neg (by omega)]
  · rw [b]
    exact .inr ⟨a, rfl⟩

/-- the bytes of a note that may be, with more behind them, cut at r -/
theorem note_step (x : Note) (hx : x.err = 0) (hi : Ids x.ids) (more : List Int) (r : Nat) (xs : List Int) (h : xs = (noteBytes x ++ more).take r) :
    ((noteBytes x).length ≤ r ∧ rdNote xs = if (noteBytes x).length < xs.length then .error (4, ((noteBytes x).length : Int)) else .ok x) ∨ (r < (noteBytes x).length ∧ rdNote xs = .error (4, xs.length)) := by
  obtain ⟨hk, hn, hid, hb, hall⟩ := (fine_iff x).1 hx
  have hcap := shape_caps x.kind
  have hL : (noteBytes x).length = (put x.kind).length + (put x.ns.length).length + (x.ns.flatMap put).length + (put x.ids.length).length + x.ids.flatten.length + ((put x.bs.length).length + x.bs.length) := by
    unfold noteBytes; simp only [List.length_append]; omega
  have h0 : xs.drop 0 = (put x.kind ++ (put x.ns.length ++ (x.ns.flatMap put ++ (put x.ids.length ++ (x.ids.flatten ++ (put x.bs.length ++ (x.bs ++ more))))))).take r := by
    rw [List.drop_zero, h]; unfold noteBytes; simp only [List.append_assoc]
  unfold rdNote
  rcases bnd_step (lo := 1) (hi := 24) (above := 5) (n := x.kind) (by omega) (by omega) hk.1 hk.2 h0 with ⟨a0, b0, c0⟩ | ⟨a0, b0⟩
  · rw [b0]
    simp only
    rcases cnt_step hn.1 hn.2 (by omega) c0 with ⟨a1, b1, c1⟩ | ⟨a1, b1⟩
    · rw [b1]
      simp only
      rcases ints_step x.ns hall [] c1 with ⟨a2, b2, c2⟩ | ⟨a2, b2⟩
      · rw [b2]
        simp only
        rcases cnt_step hid.1 hid.2 (by omega) c2 with ⟨a3, b3, c3⟩ | ⟨a3, b3⟩
        · rw [b3]
          simp only
          rcases ids_step x.ids hi [] c3 with ⟨a4, b4, c4⟩ | ⟨a4, b4⟩
          · rw [b4]
            simp only
            rcases b_step hb.1 hb.2 (by omega) c4 with ⟨a5, b5, c5⟩ | ⟨a5, b5⟩
            · rw [b5]
              simp only
              refine .inl ⟨by omega, ?_⟩
              rw [show 0 + (put x.kind).length + (put (x.ns.length : Int)).length + (x.ns.flatMap put).length + (put (x.ids.length : Int)).length + x.ids.flatten.length + (put (x.bs.length : Int)).length + x.bs.length = (noteBytes x).length by omega]
              simp
            · rw [b5]; exact .inr ⟨by omega, rfl⟩
          · rw [b4]; exact .inr ⟨by omega, rfl⟩
        · rw [b3]; exact .inr ⟨by omega, rfl⟩
      · rw [b2]; exact .inr ⟨by omega, rfl⟩
    · rw [b1]; exact .inr ⟨by omega, rfl⟩
  · rw [b0]; exact .inr ⟨by omega, rfl⟩

theorem note_whole (x : Note) (hx : x.err = 0) (hi : Ids x.ids) : rdNote (noteBytes x) = .ok x := by
  rcases note_step x hx hi [] (noteBytes x).length (noteBytes x) (by rw [List.append_nil, List.take_length]) with ⟨_, h⟩ | ⟨h, _⟩
  · rw [h, if_neg (by omega)]
  · omega
theorem note_cut (x : Note) (hx : x.err = 0) (hi : Ids x.ids) (r : Nat) (hr : r < (noteBytes x).length) : rdNote ((noteBytes x).take r) = .error (4, (r : Int)) := by
  rcases note_step x hx hi [] r ((noteBytes x).take r) (by rw [List.append_nil]) with ⟨h, _⟩ | ⟨_, h⟩
  · omega
  · rw [h, List.length_take, Nat.min_eq_left (by omega)]
theorem note_more (x : Note) (hx : x.err = 0) (hi : Ids x.ids) (more : List Int) (hm : more ≠ []) : rdNote (noteBytes x ++ more) = .error (4, ((noteBytes x).length : Int)) := by
  rcases note_step x hx hi more (noteBytes x ++ more).length (noteBytes x ++ more) (by rw [List.take_length]) with ⟨_, h⟩ | ⟨h, _⟩
  · have : 0 < more.length := List.length_pos_iff.2 hm
    rw [h, if_pos (by rw [List.length_append]; omega)]
  · rw [List.length_append] at h; omega

end Go.Proofs.Ytkfhljggdcajpaa
