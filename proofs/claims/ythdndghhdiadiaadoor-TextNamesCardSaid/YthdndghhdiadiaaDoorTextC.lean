/- What the printed functions of layer 1 say, in the words of the plain laws of names, numbers and lines. -/
import Derived.Test.YthdndghhdiadiaaDoorPAllx
import Derived.Test.YthdndghhdiadiaaDoorTextL
import Derived.Laws.Bits64
namespace Go.Proofs.YthdndghhdiadiaaDoor.TextC
open Go.RowKit Go.Proofs.YthdndghhdiadiaaDoor.PAll Go.Proofs.YthdndghhdiadiaaDoorW.PrintWords Go.Proofs.YthdndghhdiadiaaDoorW.PrintLast Go.Proofs.YthdndghhdiadiaaDoorW.PrintMore Go.Proofs.YthdndghhdiadiaaDoor.B Go.Proofs.YthdndghhdiadiaaDoor.TextL
set_option linter.unusedVariables false
set_option linter.unusedSimpArgs false

theorem letter_some (c : UInt8) : text_letter.f (c.toNat : Int) = some (letterB c) := by
  have := c.toNat_lt
  have e : (((c.toNat : Int) == 95) : Bool) = (c.toNat == 95) := by
    rw [Bool.eq_iff_iff]; simp only [beq_iff_eq]; omega
  simp only [text_letter.f, letterB, e]
  repeat' split
  all_goals first | omega | (congr 1; rw [Bool.eq_iff_iff]; simp only [Bool.or_eq_true, Bool.and_eq_true, decide_eq_true_eq, beq_iff_eq, eq_self, true_iff]; omega)
theorem digit_some (c : UInt8) : text_digit.f (c.toNat : Int) = some (digitB c) := by
  simp only [text_digit.f, digitB]
  split
  · congr 1; rw [Bool.eq_iff_iff]; simp only [Bool.and_eq_true, decide_eq_true_eq]; omega
  · congr 1; rw [Bool.eq_iff_iff]; simp only [Bool.and_eq_true, decide_eq_true_eq, Bool.false_eq_true, false_iff]; omega
theorem ref_letter_some (c : UInt8) (first : Bool) : conchref1_letter.f (c.toNat : Int) first = some (letterB c || (!first && digitB c)) := by
  have := c.toNat_lt
  simp only [conchref1_letter.f, letterB, digitB]
  cases first
  all_goals
    simp only [Bool.false_eq_true, if_false, if_true]
    repeat' split
    all_goals first | omega | (congr 1; rw [Bool.eq_iff_iff]; simp only [Bool.or_eq_true, Bool.and_eq_true, decide_eq_true_eq, beq_iff_eq, Bool.not_false, Bool.not_true, Bool.false_eq_true, true_and, false_and, or_false, false_or, eq_self, true_iff, false_iff]; omega)

/-- How many bytes from a place on are a name. -/
def nameAt (s : ByteArray) (at_ : Int) : Nat := if at_ < 0 ∨ at_ ≥ ((L s).length : Int) then 0 else nameL ((L s).drop at_.toNat)
theorem nameLen_some (s : ByteArray) (at_ : Int) (hs : (L s).length ≤ 1000000) : Ev (fun k => text_NameLen.f k s at_) ((nameAt s at_ : Nat) : Int) := by
  have e1 := sz s
  unfold text_NameLen.f
  by_cases h0 : at_ < 0
  · refine ev_pos h0 (Ev.step (fun k => by rw [text_NameLen.j0]) (ev_pos rfl (ev_now ?_)))
    unfold nameAt; rw [if_pos (Or.inl h0)]; rfl
  refine ev_neg h0 ?_
  by_cases h1 : at_ ≥ (s.size : Int)
  · refine ev_pos h1 (Ev.step (fun k => by rw [text_NameLen.j0]) (ev_pos rfl (ev_now ?_)))
    unfold nameAt; rw [if_pos (Or.inr (by omega))]; rfl
  refine ev_neg h1 (ev_pos (by omega) (ev_pos (by omega) ?_))
  obtain ⟨a, rfl⟩ := Int.eq_ofNat_of_zero_le (show 0 ≤ at_ by omega)
  have ha : a < (L s).length := by omega
  have e : nameAt s (a : Int) = nameL ((L s).drop a) := by
    unfold nameAt; rw [if_neg (by omega)]; rfl
  rw [bt_n ha, letter_some, e, List.drop_eq_getElem_cons ha, nameL]
  refine ev_some (Ev.step (fun k => by rw [text_NameLen.j0]) ?_)
  by_cases hl : letterB (L s)[a] = true
  · refine ev_neg (by rw [hl]; decide) ?_
    rw [if_pos hl]
    have key : ∀ d n, (L s).length - (a + n) = d → a + n ≤ (L s).length → Ev (fun k => text_NameLen.l0 k s (a : Int) (n : Int)) (((n + (((L s).drop (a + n)).takeWhile more).length : Nat)) : Int) := by
      intro d; induction d with
      | zero =>
        intro n hd hn
        refine Ev.step (fun k => by rw [text_NameLen.l0]) ?_
        rw [w64 (n := (a : Int) + (n : Int)) (by omega) (by omega)]
        refine ev_neg (by omega) (ev_now ?_)
        rw [List.drop_of_length_le (by omega)]; rfl
      | succ d ih =>
        intro n hd hn
        have hlt : a + n < (L s).length := by omega
        refine Ev.step (fun k => by rw [text_NameLen.l0]) ?_
        rw [w64 (n := (a : Int) + (n : Int)) (by omega) (by omega)]
        refine ev_pos (by omega) (ev_pos (by omega) ?_)
        rw [show (a : Int) + (n : Int) = ((a + n : Nat) : Int) by omega, bt_n hlt, letter_some, digit_some, List.drop_eq_getElem_cons hlt, List.takeWhile_cons]
        refine ev_some ?_
        by_cases h2 : letterB (L s)[a + n] = true
        · refine ev_pos h2 ?_
          rw [if_pos (by simp [more, h2]), w64s (by omega)]
          have := ih (n + 1) (by omega) (by omega)
          rw [show a + (n + 1) = a + n + 1 by omega] at this
          rw [show n + ((L s)[a + n] :: List.takeWhile more (List.drop (a + n + 1) (L s))).length = n + 1 + (List.takeWhile more (List.drop (a + n + 1) (L s))).length by simp only [List.length_cons]; omega]
          exact this
        · refine ev_neg h2 (ev_some ?_)
          by_cases h3 : digitB (L s)[a + n] = true
          · refine ev_pos h3 ?_
            rw [if_pos (by simp [more, h3]), w64s (by omega)]
            have := ih (n + 1) (by omega) (by omega)
            rw [show a + (n + 1) = a + n + 1 by omega] at this
            rw [show n + ((L s)[a + n] :: List.takeWhile more (List.drop (a + n + 1) (L s))).length = n + 1 + (List.takeWhile more (List.drop (a + n + 1) (L s))).length by simp only [List.length_cons]; omega]
            exact this
          · refine ev_neg h3 (ev_now ?_)
            rw [if_neg (by simp [more, h2, h3])]; rfl
    have := key _ 1 rfl (by omega)
    exact this
  · refine ev_pos (by simpa using hl) (ev_now ?_)
    rw [if_neg hl]; rfl
theorem ref_nameLen_some (s : ByteArray) (at_ : Int) (hs : (L s).length ≤ 1000000) : Ev (fun k => conchref1_NameLen.f k s at_) ((nameAt s at_ : Nat) : Int) := by
  have e1 := sz s
  unfold conchref1_NameLen.f
  by_cases h0 : at_ < 0
  · refine ev_pos h0 (Ev.step (fun k => by rw [conchref1_NameLen.j0]) (ev_pos rfl (ev_now ?_)))
    unfold nameAt; rw [if_pos (Or.inl h0)]; rfl
  refine ev_neg h0 (Ev.step (fun k => by rw [conchref1_NameLen.j0]) ?_)
  by_cases h1 : at_ ≥ (s.size : Int)
  · refine ev_pos (by simpa using h1) (ev_now ?_)
    unfold nameAt; rw [if_pos (Or.inr (by omega))]; rfl
  refine ev_neg (by simpa using h1) ?_
  obtain ⟨a, rfl⟩ := Int.eq_ofNat_of_zero_le (show 0 ≤ at_ by omega)
  have ha : a < (L s).length := by omega
  have e : nameAt s (a : Int) = nameL ((L s).drop a) := by
    unfold nameAt; rw [if_neg (by omega)]; rfl
  have key : ∀ d n, (L s).length - (a + n) = d → a + n ≤ (L s).length → 1 ≤ n → Ev (fun k => conchref1_NameLen.l0 k s (a : Int) (n : Int)) (((n + (((L s).drop (a + n)).takeWhile more).length : Nat)) : Int) := by
    intro d; induction d with
    | zero =>
      intro n hd hn hn1
      refine Ev.step (fun k => by rw [conchref1_NameLen.l0]) ?_
      rw [w64 (n := (s.size : Int) - (a : Int)) (by omega) (by omega)]
      refine ev_neg (by omega) (ev_now ?_)
      rw [List.drop_of_length_le (by omega)]; rfl
    | succ d ih =>
      intro n hd hn hn1
      have hlt : a + n < (L s).length := by omega
      refine Ev.step (fun k => by rw [conchref1_NameLen.l0]) ?_
      rw [w64 (n := (s.size : Int) - (a : Int)) (by omega) (by omega), w64 (n := (a : Int) + (n : Int)) (by omega) (by omega)]
      refine ev_pos (by omega) (ev_pos (by omega) (ev_pos (by omega) ?_))
      have hz : ((n : Int) == 0) = false := by
        have : ¬ (n : Int) = 0 := by omega
        simpa using this
      rw [show (a : Int) + (n : Int) = ((a + n : Nat) : Int) by omega, bt_n hlt, ref_letter_some, List.drop_eq_getElem_cons hlt, List.takeWhile_cons, hz]
      refine ev_some ?_
      simp only [Bool.not_false, Bool.true_and]
      by_cases h2 : more (L s)[a + n] = true
      · refine ev_pos h2 ?_
        rw [if_pos h2, w64s (by omega)]
        have := ih (n + 1) (by omega) (by omega) (by omega)
        rw [show a + (n + 1) = a + n + 1 by omega] at this
        rw [show n + ((L s)[a + n] :: List.takeWhile more (List.drop (a + n + 1) (L s))).length = n + 1 + (List.takeWhile more (List.drop (a + n + 1) (L s))).length by simp only [List.length_cons]; omega]
        exact this
      · refine ev_neg h2 (ev_now ?_)
        rw [if_neg h2]; rfl
  rw [e, List.drop_eq_getElem_cons ha, nameL]
  refine Ev.step (fun k => by rw [conchref1_NameLen.l0]) ?_
  rw [w64 (n := (s.size : Int) - (a : Int)) (by omega) (by omega), w64 (n := (a : Int) + 0) (by omega) (by omega), Int.add_zero]
  refine ev_pos (by omega) (ev_pos (by omega) (ev_pos (by omega) ?_))
  rw [bt_n ha, ref_letter_some]
  refine ev_some ?_
  by_cases hl : letterB (L s)[a] = true
  · refine ev_pos (by rw [hl]; rfl) ?_
    rw [if_pos hl]
    rw [w64 (n := 0 + 1) (by omega) (by omega), show (0 : Int) + 1 = ((1 : Nat) : Int) from rfl]
    have := key _ 1 rfl (by omega) (by omega)
    exact this
  · refine ev_neg (by simpa using hl) (ev_now ?_)
    rw [if_neg hl]; rfl

theorem nameAt_0 (s : ByteArray) : nameAt s 0 = nameL (L s) := by
  unfold nameAt
  cases h : L s with
  | nil => simp [nameL]
  | cons c r => rw [if_neg (by simp <;> omega)]; rfl
theorem isName_dec (s : ByteArray) : ((L s).isEmpty = false ∧ nameL (L s) = (L s).length) ↔ isName (L s) = true := by
  rw [isName_iff]; cases L s <;> simp
theorem name_some (s : ByteArray) (hs : (L s).length ≤ 1000000) : Ev (fun k => text_Name.f k s) (isName (L s)) := by
  unfold text_Name.f
  by_cases h : L s = []
  · refine ev_pos (by rw [tl, h]) (ev_now (by rw [h]; rfl))
  · refine ev_neg (by rw [tl]; exact h) (Ev.bind (nameLen_some s 0 hs) (ev_now ?_))
    rw [nameAt_0, Bool.eq_iff_iff, isName_iff, beq_iff_eq, sz s]
    exact ⟨fun e => ⟨h, by omega⟩, fun e => by rw [e.2]⟩
theorem ref_name_some (s : ByteArray) (hs : (L s).length ≤ 1000000) : Ev (fun k => conchref1_Name.f k s) (isName (L s)) := by
  unfold conchref1_Name.f
  by_cases h : L s = []
  · refine ev_pos (by rw [tl, h]) (ev_now (by rw [h]; rfl))
  · refine ev_neg (by rw [tl]; exact h) (Ev.bind (ref_nameLen_some s 0 hs) (ev_now ?_))
    rw [nameAt_0, Bool.eq_iff_iff, isName_iff, beq_iff_eq, sz s]
    exact ⟨fun e => ⟨h, by omega⟩, fun e => by rw [e.2]⟩

/-! Numbers -/
theorem digit_val (c : UInt8) (h : digitB c = true) : (((c.toNat : Int) - 48) % 256) = (c.toNat : Int) - 48 := by
  simp only [digitB, Bool.and_eq_true, decide_eq_true_eq] at h; omega
theorem number_some (s : ByteArray) (hs : (L s).length ≤ 1000000) : Ev (fun k => text_Number.f k s) (numOf (L s)) := by
  have e1 := sz s
  have key : ∀ d i (n : Int), (L s).length - i = d → i ≤ (L s).length → 0 ≤ n → n ≤ 4611686018427387904 → Ev (fun k => text_Number.l0 k s n (s.size : Int) (i : Int)) (num n ((L s).drop i)) := by
    intro d; induction d with
    | zero =>
      intro i n hd hi h0 h1
      refine Ev.step (fun k => by rw [text_Number.l0]) (ev_neg (by omega) (ev_now ?_))
      rw [List.drop_of_length_le (by omega)]; rfl
    | succ d ih =>
      intro i n hd hi h0 h1
      have hlt : i < (L s).length := by omega
      refine Ev.step (fun k => by rw [text_Number.l0]) (ev_pos (by omega) (ev_pos (by omega) (ev_pos (by omega) ?_)))
      rw [bt_n hlt, digit_some, List.drop_eq_getElem_cons hlt, num]
      refine ev_some ?_
      have bad : ∀ r, r = ((0 : Int), false) → Ev (fun k => text_Number.j1 k s n (i : Int) (s.size : Int) (i : Int) true) r := fun r hr =>
        Ev.step (fun k => by rw [text_Number.j1]) (ev_pos rfl (ev_now hr.symm))
      by_cases hdg : digitB (L s)[i] = true
      · refine ev_pos hdg ?_
        by_cases hb : n > 461168601842738790
        · rw [decide_eq_true hb]
          exact bad _ (by rw [if_pos (Or.inr hb)])
        · rw [decide_eq_false hb, if_neg (by simp [hdg]; omega)]
          refine Ev.step (fun k => by rw [text_Number.j1]) (ev_neg (by decide) (ev_pos (by omega) (ev_pos (by omega) ?_)))
          rw [bt_n hlt, digit_val _ hdg, w64 (n := n * 10) (by omega) (by omega)]
          have hc : 48 ≤ ((L s)[i]).toNat ∧ ((L s)[i]).toNat ≤ 57 := by simpa [digitB] using hdg
          rw [w64 (n := n * 10 + _) (by omega) (by omega)]
          by_cases hm : n * 10 + ((((L s)[i]).toNat : Int) - 48) > 4611686018427387904
          · exact ev_pos hm (ev_now (by rw [if_pos hm]))
          · refine ev_neg hm ?_
            rw [if_neg hm, w64s (by omega)]
            exact ih (i + 1) _ (by omega) (by omega) (by omega) (by omega)
      · have hdf : digitB (L s)[i] = false := by simpa using hdg
        refine ev_neg (by rw [hdf]; decide) (bad _ (by rw [if_pos (Or.inl hdf)]))
  unfold text_Number.f
  by_cases h : L s = []
  · exact ev_pos (by rw [tl, h]) (ev_now (by rw [h]; rfl))
  · refine ev_neg (by rw [tl]; exact h) ?_
    have := key _ 0 0 rfl (by omega) (by omega) (by omega)
    match hl : L s, h with
    | c :: r, _ => rw [hl] at this; exact this
theorem ref_number_some (s : ByteArray) (hs : (L s).length ≤ 1000000) : Ev (fun k => conchref1_Number.f k s) (numOf (L s)) := by
  have e1 := sz s
  have fin : ∀ n : Int, ((n, (L s != [])) : Int × Bool) = (n, decide (L s ≠ [])) := fun n => by cases L s <;> rfl
  have key : ∀ d i (n : Int), (L s).length - i = d → i ≤ (L s).length → 0 ≤ n → n ≤ 4611686018427387904 → Ev (fun k => conchref1_Number.l0 k s n (i : Int)) (if L s = [] then (n, false) else num n ((L s).drop i)) := by
    intro d; induction d with
    | zero =>
      intro i n hd hi h0 h1
      refine Ev.step (fun k => by rw [conchref1_Number.l0]) (ev_neg (by omega) (ev_now ?_))
      rw [List.drop_of_length_le (by omega), tl, fin]
      cases L s <;> simp [num]
    | succ d ih =>
      intro i n hd hi h0 h1
      have hlt : i < (L s).length := by omega
      have hne : ¬ L s = [] := by intro e; rw [e] at hlt; simp at hlt
      have ih' := ih (i + 1)
      simp only [if_neg hne] at ih' ⊢
      refine Ev.step (fun k => by rw [conchref1_Number.l0]) (ev_pos (by omega) (ev_pos (by omega) ?_))
      rw [bt_n hlt, List.drop_eq_getElem_cons hlt, num]
      have bad : ∀ r, r = ((0 : Int), false) → Ev (fun k => conchref1_Number.j1 k s n (i : Int) true) r := fun r hr =>
        Ev.step (fun k => by rw [conchref1_Number.j1]) (ev_pos rfl (ev_now hr.symm))
      by_cases hdg : digitB (L s)[i] = true
      · have hc : 48 ≤ ((L s)[i]).toNat ∧ ((L s)[i]).toNat ≤ 57 := by simpa [digitB] using hdg
        refine ev_neg (by omega) (ev_neg (by omega) ?_)
        by_cases hb : n > 461168601842738790
        · rw [decide_eq_true hb]
          exact bad _ (by rw [if_pos (Or.inr hb)])
        · rw [decide_eq_false hb, if_neg (by simp [hdg]; omega)]
          refine Ev.step (fun k => by rw [conchref1_Number.j1]) (ev_neg (by decide) (ev_pos (by omega) (ev_pos (by omega) ?_)))
          rw [bt_n hlt, digit_val _ hdg, w64 (n := 10 * n) (by omega) (by omega), Int.mul_comm 10 n]
          rw [w64 (n := n * 10 + _) (by omega) (by omega)]
          by_cases hm : n * 10 + ((((L s)[i]).toNat : Int) - 48) > 4611686018427387904
          · exact ev_pos hm (ev_now (by rw [if_pos hm]))
          · refine ev_neg hm ?_
            rw [if_neg hm, w64s (by omega)]
            exact ih' _ (by omega) (by omega) (by omega) (by omega)
      · have hdf : digitB (L s)[i] = false := by simpa using hdg
        have hc : ((L s)[i]).toNat < 48 ∨ 57 < ((L s)[i]).toNat := by
          simp only [digitB, Bool.and_eq_false_iff, decide_eq_false_iff_not] at hdf; omega
        rw [if_pos (Or.inl hdf)]
        by_cases h4 : ((L s)[i]).toNat < 48
        · exact ev_pos (by omega) (bad _ rfl)
        · exact ev_neg (by omega) (ev_pos (by omega) (bad _ rfl))
  have := key _ 0 0 rfl (by omega) (by omega) (by omega)
  unfold conchref1_Number.f
  cases hl : L s with
  | nil => rw [hl] at this; exact this
  | cons c r => rw [hl] at this; exact this

/-! Digits -/
theorem digits_some (n : Int) (h0 : -9223372036854775808 ≤ n) (h1 : n ≤ 9223372036854775807) : text_Digits.f n = some (mkB (Lib.itoa n)) := by
  unfold text_Digits.f strconv_Itoa.f
  rw [if_pos ⟨h0, h1⟩]; rfl
theorem one_digit : ∀ d : Fin 10, (⟨#[48, 49, 50, 51, 52, 53, 54, 55, 56, 57]⟩ : ByteArray).extract d.val (d.val + 1) = mkB [UInt8.ofNat (48 + d.val)] := by
  intro d; apply L_inj; rw [L_mkB]; revert d; decide +kernel
theorem ref_digits_some (n : Int) (h0 : -9223372036854775808 ≤ n) (h1 : n ≤ 9223372036854775807) : Ev (fun k => conchref1_Digits.f k n) (mkB (Lib.itoa n)) := by
  have key : ∀ (u : Nat), u < 18446744073709551616 → ∀ (x : ByteArray), (L x).length ≤ 100 - Lib.nDigits u → Lib.nDigits u ≤ 50 →
      Ev (fun k => conchref1_Digits.l0 k n (u : Int) x) (mkB ((if n < 0 then [45] else []) ++ Lib.decDigits u ++ L x)) := by
    intro u
    induction u using Nat.strongRecOn with
    | ind u ih =>
      intro hu x hx hd
      have ex := sz x
      refine Ev.step (fun k => by rw [conchref1_Digits.l0]) ?_
      by_cases h9 : (u : Int) > 9
      · refine ev_pos h9 ?_
        have et : Int.tmod (u : Int) 10 = ((u % 10 : Nat) : Int) := by rw [Int.tmod_eq_emod_of_nonneg (by omega)]; omega
        have ed : Int.tdiv (u : Int) 10 = ((u / 10 : Nat) : Int) := by rw [Int.tdiv_eq_ediv_of_nonneg (by omega)]; omega
        have hw1 : IntKind.u64.wrap (((u % 10 : Nat) : Int) + 1) = ((u % 10 + 1 : Nat) : Int) := by rw [IntKind.wrap_u64]; omega
        have hw2 : IntKind.u64.wrap (((u / 10 : Nat) : Int)) = ((u / 10 : Nat) : Int) := by rw [IntKind.wrap_u64]; omega
        rw [et, ed, hw1, hw2]
        simp only [Int.toNat_natCast]
        have e1 := one_digit ⟨u % 10, by omega⟩
        simp only at e1
        rw [e1]
        have hnd : Lib.nDigits u = Lib.nDigits (u / 10) + 1 := Lib.nDigits_big (by omega)
        refine ev_pos (by omega) (ev_pos (by omega) (ev_pos (by omega) (ev_pos ?_ ?_)))
        · rw [sz_mkB, ex]; simp; omega
        · have := ih (u / 10) (by omega) (by omega) (mkB [UInt8.ofNat (48 + u % 10)] ++ x) (by rw [L_app, L_mkB]; simp; omega) (by omega)
          rw [L_app, L_mkB] at this
          have e2 : Lib.decDigits u = Lib.decDigits (u / 10) ++ [UInt8.ofNat (48 + u % 10)] := by
            conv => lhs; rw [Lib.decDigits]
            rw [dif_neg (by omega)]
          rw [e2]
          simpa [List.append_assoc] using this
      · refine ev_neg h9 ?_
        have hw1 : IntKind.u64.wrap ((u : Int) + 1) = ((u + 1 : Nat) : Int) := by rw [IntKind.wrap_u64]; omega
        rw [hw1]
        simp only [Int.toNat_natCast]
        have e1 := one_digit ⟨u, by omega⟩
        simp only at e1
        rw [e1]
        have e2 : Lib.decDigits u = [UInt8.ofNat (48 + u)] := Lib.decDigits_one (by omega)
        refine ev_pos (by omega) (ev_pos (by omega) (ev_pos (by omega) (ev_pos ?_ ?_)))
        · rw [sz_mkB, ex]; simp; omega
        · rw [e2]
          by_cases hn : n < 0
          · refine ev_pos hn (ev_pos ?_ (ev_now ?_))
            · rw [sz, L_app, L_mkB]; simp; omega
            · apply L_inj; rw [L_app, L_app, L_mkB, L_mkB, if_pos hn]; rfl
          · refine ev_neg hn (ev_now ?_)
            apply L_inj; rw [L_app, L_mkB, L_mkB, if_neg hn]; rfl
  have nd : ∀ u : Nat, u < 18446744073709551616 → Lib.nDigits u ≤ 50 := by
    intro u hu
    have : ∀ (k u : Nat), u < 10 ^ (k + 1) → Lib.nDigits u ≤ k + 1 := by
      intro k; induction k with
      | zero => intro u h; rw [Lib.nDigits_small (by simpa using h)]; omega
      | succ k ih =>
        intro u h
        by_cases h2 : u < 10
        · rw [Lib.nDigits_small h2]; omega
        · rw [Lib.nDigits_big h2]
          have := ih (u / 10) (by rw [Nat.pow_succ] at h; omega)
          omega
    have := this 19 u (by omega)
    omega
  unfold conchref1_Digits.f
  have e0 : L (⟨#[]⟩ : ByteArray) = [] := rfl
  by_cases hn : n < 0
  · have hw : IntKind.u64.wrap (-(IntKind.u64.wrap n)) = ((n.natAbs : Nat) : Int) := by rw [IntKind.wrap_u64, IntKind.wrap_u64]; omega
    refine ev_pos hn (Ev.step (fun k => by rw [conchref1_Digits.j0]) ?_)
    rw [hw]
    have := key n.natAbs (by omega) (⟨#[]⟩ : ByteArray) (by rw [e0]; simp) (nd _ (by omega))
    rw [e0, if_pos hn] at this
    unfold Lib.itoa; rw [if_pos hn]; simpa using this
  · have hw : IntKind.u64.wrap n = ((n.toNat : Nat) : Int) := by rw [IntKind.wrap_u64]; omega
    refine ev_neg hn (Ev.step (fun k => by rw [conchref1_Digits.j0]) ?_)
    rw [hw]
    have := key n.toNat (by omega) (⟨#[]⟩ : ByteArray) (by rw [e0]; simp) (nd _ (by omega))
    rw [e0, if_neg hn] at this
    unfold Lib.itoa; rw [if_neg hn]; simpa using this

/-! Lines -/
theorem lines_some (s : ByteArray) (hs : (L s).length ≤ 1000000) : text_Lines.f s = some ((lines (L s)).map mkB) := by
  have e1 := sz s
  have e10 : L (⟨#[10]⟩ : ByteArray) = [10] := rfl
  have s10 : (⟨#[10]⟩ : ByteArray).size = 1 := rfl
  unfold text_Lines.f
  by_cases h : L s = []
  · rw [if_pos (by rw [tl, h]), h]; rfl
  rw [if_neg (by rw [tl]; exact h)]
  have hp : 0 < (L s).length := List.length_pos_iff.mpr h
  have ht : strings_TrimSuffix.f s (⟨#[10]⟩ : ByteArray) = some (mkB (trim (L s))) := by
    unfold strings_TrimSuffix.f stringslite_TrimSuffix.f stringslite_HasSuffix.f
    rw [s10, w64 (n := (s.size : Int) - ((1 : Nat) : Int)) (by omega) (by omega), if_pos (by omega), if_pos (by omega), if_pos (by omega), Option.bind_some, tl, tl, L_ext, e10]
    rw [show ((s.size : Int) - ((1 : Nat) : Int)).toNat = (L s).length - 1 by omega, e1, List.take_of_length_le (Nat.le_refl _), trim_is _ h]
    by_cases h2 : (L s).drop ((L s).length - 1) = [10]
    · rw [if_pos (by rw [h2]; rfl), if_pos (by omega), if_pos (by omega), if_pos h2, Option.bind_some, ext_mkB, List.drop_zero]
    · rw [if_neg (by simpa using h2), if_neg h2, Option.bind_some, mkB_L]
  rw [ht, Option.bind_some]
  unfold strings_Split.f
  have hlen : (trim (L s)).length ≤ (L s).length := by
    rw [trim_is _ h]; split
    · simp
    · exact Nat.le_refl _
  rw [if_pos ⟨by rw [sz_mkB]; omega, by rw [s10]; omega⟩, Option.bind_some]
  congr 1
  have h3 := Lib.splitB_data (⟨#[10]⟩ : ByteArray) 0 (Lib.countB (mkB (trim (L s))) ⟨#[10]⟩) (mkB (trim (L s)))
  rw [L_def, L_def, L_mkB, e10] at h3
  have h4 : Lib.countB (mkB (trim (L s))) ⟨#[10]⟩ = Lib.count (trim (L s)) [10] := by
    show Lib.count (L (mkB (trim (L s)))) (L ⟨#[10]⟩) = _
    rw [L_mkB, e10]
  rw [h4, splitK_cut] at h3
  rw [h4]
  unfold lines; rw [if_neg h, ← h3]
  exact (map_L_mkB _).symm
theorem ref_lines_some (s : ByteArray) (hs : (L s).length ≤ 1000000) : Ev (fun k => conchref1_Lines.f k s) ((lines (L s)).map mkB) := by
  have e1 := sz s
  have key : ∀ d i f (x : List ByteArray), (L s).length - i = d → i ≤ (L s).length → f ≤ i → x.length ≤ i →
      Ev (fun k => conchref1_Lines.l0 k s x (f : Int) (i : Int)) (x ++ (go (((L s).take i).drop f) ((L s).drop i)).map mkB) := by
    intro d; induction d with
    | zero =>
      intro i f x hd hi hf hx
      have hi' : i = (L s).length := by omega
      subst hi'
      refine Ev.step (fun k => by rw [conchref1_Lines.l0]) (ev_neg (by omega) ?_)
      rw [List.drop_of_length_le (Nat.le_refl _), List.take_of_length_le (Nat.le_refl _), go]
      by_cases h : (f : Int) < (s.size : Int)
      · refine ev_pos h (ev_pos (by omega) (ev_pos (by omega) (ev_pos (by omega) (ev_now ?_))))
        rw [if_neg (by intro e; have := congrArg List.length e; simp at this; omega), ext_mkB, Int.toNat_natCast, e1, List.take_of_length_le (Nat.le_refl _)]; rfl
      · refine ev_neg h (ev_now ?_)
        rw [if_pos (List.drop_of_length_le (by omega))]; simp
    | succ d ih =>
      intro i f x hd hi hf hx
      have hlt : i < (L s).length := by omega
      refine Ev.step (fun k => by rw [conchref1_Lines.l0]) (ev_pos (by omega) (ev_pos (by omega) ?_))
      rw [bt_n hlt, List.drop_eq_getElem_cons hlt, go, w64s (by omega)]
      by_cases h : (L s)[i] = 10
      · refine ev_pos (by rw [h]; rfl) (ev_pos (by omega) (ev_pos (by omega) (ev_pos (by omega) (ev_pos (by omega) ?_))))
        have := ih (i + 1) (i + 1) (x ++ [s.extract (f : Int).toNat (i : Int).toNat]) (by omega) (by omega) (Nat.le_refl _) (by simp; omega)
        rw [List.drop_of_length_le (l := (L s).take (i + 1)) (by simp; omega)] at this
        rw [if_pos h]
        rw [ext_mkB, Int.toNat_natCast, Int.toNat_natCast] at this ⊢
        simpa [List.append_assoc] using this
      · refine ev_neg (fun e => h (u8_int.mp (by rw [e]; rfl))) ?_
        have := ih (i + 1) f x (by omega) (by omega) (by omega) (by omega)
        rw [if_neg h]
        rw [List.take_succ_eq_append_getElem hlt, List.drop_append_of_le_length (by simp; omega)] at this
        exact this
  have := key _ 0 0 [] rfl (by omega) (by omega) (by simp)
  unfold conchref1_Lines.f
  simpa [lines_go] using this

theorem same_some (xs ys : List ByteArray) (hx : xs.length ≤ 10000000) : Ev (fun k => conchlaw1_SameTexts.f k xs ys) (decide (xs = ys)) := by
  by_cases hl : xs.length = ys.length
  · have key : ∀ d n, xs.length - n = d → n ≤ xs.length → Ev (fun k => conchlaw1_SameTexts.l0 k xs ys (n : Int)) (decide (xs.drop n = ys.drop n)) := by
      intro d; induction d with
      | zero =>
        intro n hd hn
        refine Ev.step (fun k => by rw [conchlaw1_SameTexts.l0]) ?_
        exact ev_neg (by omega) (ev_now (by rw [List.drop_of_length_le (l := xs) (by omega), List.drop_of_length_le (l := ys) (by omega)]; simp))
      | succ d ih =>
        intro n hd hn
        have h1 : n < xs.length := by omega
        have h2 : n < ys.length := by omega
        refine Ev.step (fun k => by rw [conchlaw1_SameTexts.l0]) ?_
        refine ev_pos (by omega) (ev_pos (by omega) (ev_pos (by omega) ?_))
        have e1 : rdOf ByteArray.empty xs (n : Int) = xs[n] := by simp [rdOf, List.getD, h1]
        have e2 : rdOf ByteArray.empty ys (n : Int) = ys[n] := by simp [rdOf, List.getD, h2]
        rw [List.drop_eq_getElem_cons h1, List.drop_eq_getElem_cons h2]
        by_cases h : xs[n] = ys[n]
        · refine ev_pos (by rw [e1, e2, h]) ?_
          rw [w64s (by omega)]
          simp only [List.cons.injEq, h, true_and]
          exact ih (n + 1) (by omega) (by omega)
        · refine ev_neg (by rw [e1, e2, tl, tl, L_iff]; exact h) (ev_now (by simp only [List.cons.injEq, h, false_and, decide_false]))
    have := key _ 0 rfl (Nat.zero_le _)
    refine ev_pos (by omega) ?_
    simpa using this
  · refine ev_neg (by omega) (ev_now ?_)
    have : ¬ xs = ys := fun h => hl (by rw [h])
    simp [this]
theorem awake_some : Ev (fun k => conchlaw1_awake.f k) true := by
  refine Ev.of (fun k => conchlaw1_awake.mono k) (k := 60) ?_
  decide +kernel
end Go.Proofs.YthdndghhdiadiaaDoor.TextC
