/- What is told of a number is read as it was; noughts ahead say nothing; lines joined are the text: the plain statement. -/
import Derived.Test.YthdndghhdiadiaaDoorPAllx4
import Derived.Test.YthdndghhdiadiaaDoorTextC
namespace Go.Proofs.YthdndghhdiadiaaDoor.Pure
open Go.RowKit Go.Proofs.YthdndghhdiadiaaDoor.PAll Go.Proofs.YthdndghhdiadiaaDoorW.PrintWords Go.Proofs.YthdndghhdiadiaaDoorW.PrintLast Go.Proofs.YthdndghhdiadiaaDoor.B Go.Proofs.YthdndghhdiadiaaDoor.TextL Go.Proofs.YthdndghhdiadiaaDoor.TextC
set_option linter.unusedVariables false
set_option linter.unusedSimpArgs false
theorem nDigits_le : ∀ (k u : Nat), u < 10 ^ (k + 1) → Lib.nDigits u ≤ k + 1 := by
  intro k; induction k with
  | zero => intro u h; rw [Lib.nDigits_small (by simpa using h)]; omega
  | succ k ih =>
    intro u h
    by_cases h2 : u < 10
    · rw [Lib.nDigits_small h2]; omega
    · rw [Lib.nDigits_big h2]
      have := ih (u / 10) (by rw [Nat.pow_succ] at h; omega)
      omega
theorem itoa_len (n : Int) (h0 : -9223372036854775808 ≤ n) (h1 : n ≤ 9223372036854775807) : (Lib.itoa n).length ≤ 100 := by
  unfold Lib.itoa
  split
  · have := nDigits_le 19 n.natAbs (by omega)
    rw [List.length_cons, Lib.decDigits_length]; omega
  · have := nDigits_le 19 n.toNat (by omega)
    rw [Lib.decDigits_length]; omega
theorem numOf_00 (n : Int) (h0 : 0 ≤ n) (h1 : n ≤ 4611686018427387904) : numOf (48 :: 48 :: Lib.itoa n) = (n, true) := by
  show num 0 (48 :: 48 :: Lib.itoa n) = _
  rw [num_00]
  have h := numOf_itoa n
  rw [if_pos ⟨h0, h1⟩] at h
  have hne : Lib.itoa n ≠ [] := by
    unfold Lib.itoa; rw [if_neg (by omega)]; exact dec_ne _
  match hl : Lib.itoa n, hne with
  | c :: r, _ => rw [hl] at h; exact h
theorem back_loop (n : Int) (s : ByteArray) (hs : (L s).length ≤ 400) : ∀ (d i : Nat) (t : ByteArray) (l r : List UInt8) (all : List ByteArray) (xs : List (List UInt8)), all.length - i = d → i ≤ all.length → all.length ≤ 1000 → all.drop i = xs.map mkB →
    L s = L t ++ r → ((r = [] ∧ xs = []) ∨ (r ≠ [] ∧ cut (trim r) = xs)) →
    Ev (fun k => conchlaw1_TextBack.l0 k n s n true n true false all t (i : Int)) true := by
  intro d; induction d with
  | zero =>
    intro i t l r all xs hd hi ha hx ht hr
    refine Ev.step (fun k => by rw [conchlaw1_TextBack.l0]) (ev_neg (by omega) ?_)
    have hr0 : r = [] := by
      rcases hr with h | h
      · exact h.1
      · rw [List.drop_of_length_le (by omega)] at hx
        have : xs = [] := by simpa using hx.symm
        exact absurd (h.2.trans this) (cut_ne _)
    refine ev_pos rfl (ev_pos rfl (ev_pos rfl (ev_pos rfl (ev_neg (by decide) (ev_pos ?_ (Ev.bind awake_some (ev_now rfl)))))))
    rw [tl, tl, ht, hr0, List.append_nil]
  | succ d ih =>
    intro i t l r all xs hd hi ha hx ht hr
    have hlt : i < all.length := by omega
    have ez := sz s
    have et := sz t
    rw [List.drop_eq_getElem_cons hlt] at hx
    match xs, hx with
    | x :: xs, hx =>
      have hx1 : all[i] = mkB x := (List.cons.inj hx).1
      have hx2 : all.drop (i + 1) = xs.map mkB := (List.cons.inj hx).2
      have hr2 : r ≠ [] ∧ cut (trim r) = x :: xs := by
        rcases hr with h | h
        · exact absurd h.2 (by simp)
        · exact h
      have erd : rdOf ByteArray.empty all (i : Int) = mkB x := by simp [rdOf, List.getD, hlt, hx1]
      have elen : (L s).length = (L t).length + r.length := by rw [ht, List.length_append]
      have exl : all.length = i + 1 + xs.length := by
        have := congrArg List.length hx2
        simp at this; omega
      have hxr : x.length ≤ r.length := by
        rcases step_line r x xs hr2.1 hr2.2 with ⟨h1, r', h2, _, _⟩ | ⟨_, h2 | h2⟩ <;> rw [h2] <;> simp
      refine Ev.step (fun k => by rw [conchlaw1_TextBack.l0]) (ev_pos (by omega) (ev_pos (by omega) ?_))
      rw [erd]
      refine ev_pos (by rw [sz_mkB]; omega) ?_
      rw [w64s (n := i) (by omega)]
      have e10 : L (⟨#[10]⟩ : ByteArray) = [10] := rfl
      have ez2 : (t ++ mkB x).size = (L t).length + x.length := by rw [sz, L_app, L_mkB, List.length_append]
      rcases step_line r x xs hr2.1 hr2.2 with ⟨h1, r', h2, h3, h4⟩ | ⟨h1, h2 | h2⟩
      · have hxl : 0 < xs.length := List.length_pos_iff.mpr h1
        refine ev_pos (by omega) (ev_pos (by omega) ?_)
        exact ih (i + 1) ((t ++ mkB x) ++ (⟨#[10]⟩ : ByteArray)) [] r' all xs (by omega) (by omega) ha hx2 (by rw [L_app, L_app, L_mkB, e10, ht, h2]; simp) (Or.inr ⟨h3, h4⟩)
      · subst h1
        simp only [List.length_nil, Nat.add_zero] at exl
        refine ev_neg (by omega) (ev_neg (by rw [ez2, ez, elen, h2]; omega) ?_)
        exact ih (i + 1) (t ++ mkB x) [] [] all [] (by omega) (by omega) ha hx2 (by rw [L_app, L_mkB, ht, h2]; simp) (Or.inl ⟨rfl, rfl⟩)
      · subst h1
        simp only [List.length_nil, Nat.add_zero] at exl
        refine ev_neg (by omega) (ev_pos (by rw [ez2, ez, elen, h2]; simp; omega) (ev_pos (by omega) ?_))
        exact ih (i + 1) ((t ++ mkB x) ++ (⟨#[10]⟩ : ByteArray)) [] [] all [] (by omega) (by omega) ha hx2 (by rw [L_app, L_app, L_mkB, e10, ht, h2]; simp) (Or.inl ⟨rfl, rfl⟩)
theorem go_len : ∀ (l p : List UInt8), (go p l).length ≤ l.length + 1
  | [], p => by rw [go]; split <;> simp
  | c :: l, p => by
    rw [go]; split
    · have := go_len l []; simp only [List.length_cons]; omega
    · have := go_len l (p ++ [c]); simp only [List.length_cons]; omega
theorem TextBack : conchlaw1_TextBack.Pure := by
  intro a0 a1 w0 h1
  apply ev_ex
  unfold conchlaw1_TextBack.f
  have e1 := sz a1
  by_cases hbig : (a1.size : Int) > 400
  · exact ev_pos hbig (Ev.bind awake_some (ev_now rfl))
  refine ev_neg hbig ?_
  rw [show Go.bits .and .i64 a0 4611686018427387903 = a0 % 4611686018427387904 from bits_mask64 a0 62 (by omega)]
  generalize hn : a0 % 4611686018427387904 = n
  have hn2 : 0 ≤ n ∧ n < 4611686018427387904 := by omega
  have l1 := itoa_len n (by omega) (by omega)
  have l2 := itoa_len (-1 - n) (by omega) (by omega)
  have e00 : L (⟨#[48, 48]⟩ : ByteArray) = [48, 48] := rfl
  rw [w64 (n := -1 - n) (by omega) (by omega), digits_some n (by omega) (by omega), digits_some (-1 - n) (by omega) (by omega), lines_some a1 (by omega)]
  have x1 := number_some (mkB (Lib.itoa n)) (by rw [L_mkB]; omega)
  rw [L_mkB, numOf_itoa, if_pos (by omega)] at x1
  have x2 := number_some ((⟨#[48, 48]⟩ : ByteArray) ++ mkB (Lib.itoa n)) (by rw [L_app, L_mkB, e00]; simp; omega)
  rw [L_app, L_mkB, e00, show [48, 48] ++ Lib.itoa n = 48 :: 48 :: Lib.itoa n from rfl, numOf_00 n (by omega) (by omega)] at x2
  have x3 := number_some (mkB (Lib.itoa (-1 - n))) (by rw [L_mkB]; omega)
  rw [L_mkB, numOf_itoa, if_neg (by omega)] at x3
  refine ev_some (Ev.bind x1 (ev_some (ev_pos (by rw [sz_mkB]; omega) (Ev.bind x2 (ev_some (Ev.bind x3 (ev_some ?_)))))))
  have hg := go_len (L a1) []
  rw [lines_go] at hg
  refine back_loop n a1 (by omega) _ 0 (⟨#[]⟩ : ByteArray) [] (L a1) _ (lines (L a1)) rfl (by omega) (by rw [List.length_map]; omega) rfl rfl ?_
  unfold lines
  by_cases h : L a1 = []
  · exact Or.inl ⟨h, by rw [if_pos h]⟩
  · exact Or.inr ⟨h, by rw [if_neg h]⟩
end Go.Proofs.YthdndghhdiadiaaDoor.Pure
