/- Reserved words are just those of the document; each byte that begins an operator, and each blank, ends a word, and no other one does: the plain statement. -/
import Derived.Test.YtemdfhadijdddaaPAllx2
import Derived.Test.YtemdfhadijdddaaLexC
namespace Go.Proofs.Ytemdfhadijdddaa.Pure
open Go.RowKit Go.Proofs.Ytemdfhadijdddaa.PAll Go.Proofs.YtemdfhadijdddaaW.PrintWords Go.Proofs.YtemdfhadijdddaaW.PrintLast Go.Proofs.Ytemdfhadijdddaa.B Go.Proofs.Ytemdfhadijdddaa.LexL Go.Proofs.Ytemdfhadijdddaa.LexC
set_option linter.unusedVariables false
set_option linter.unusedSimpArgs false

theorem ends_is (c : UInt8) : ([32, 9, 10, 59, 38, 124, 40, 41, 60, 62] : List UInt8).contains c = (singles.contains c || c == 32 || c == 9) := by
  simp only [singles, List.contains_cons, List.contains_nil, Bool.or_false]
  cases c == 32 <;> cases c == 9 <;> cases c == 10 <;> cases c == 59 <;> cases c == 38 <;> cases c == 124 <;> cases c == 40 <;> cases c == 41 <;> cases c == 60 <;> cases c == 62 <;> rfl

theorem words_loop (s : ByteArray) (c : UInt8) (d : Nat) : ∀ n (b : Bool), 16 - n = d → n ≤ 16 → b = (reservedL.take n).contains (L s) →
    Ev (fun k => conchlaw9_LexWords.l0 k (c.toNat : Int) s (reservedL.map mkB) b (n : Int)) true := by
  have hlen : reservedL.length = 16 := rfl
  induction d with
  | zero =>
    intro n b hd hn hb
    have hn' : n = 16 := by omega
    subst hn'
    have hb' : b = reservedL.contains (L s) := hb
    refine Ev.step (fun k => by rw [conchlaw9_LexWords.l0]) (ev_neg (by rw [List.length_map, hlen]; omega) ?_)
    have hL : L (strOfNums ([(c.toNat : Int), 120] : List Int)) = [c, 120] := by simp [strOfNums, L]
    have hop : operAt (strOfNums ([(c.toNat : Int), 120] : List Int)) 0 = if singles.contains c then (mkB [c], true) else (mkB [], false) := by
      unfold operAt
      rw [if_pos (by rw [hL]; simp), hL]
      simp only [Int.toNat_zero, List.drop_zero]
      rw [opS_two]
      have : doubles.contains [c, 120] = false := by
        rw [Bool.eq_false_iff]; intro h
        have : [c, 120] ∈ doubles := by simpa using h
        simp [doubles] at this
      rw [this]; by_cases h : singles.contains c = true
      · rw [h]; rfl
      · rw [show singles.contains c = false by simpa using h]; rfl
    refine Ev.bind (op_some _ 0 (by rw [hL]; simp)) (Ev.bind (reserved_some s) (ev_pos (by rw [hb']; simp) ?_))
    simp only [ends_some, ends_is]
    refine ev_some ?_
    rw [hop]
    have a := Ev.bind (f := fun _ t => some t) awake_some (Ev.now true)
    have n9 : ((c.toNat : Int) == 9) = (c == 9) := by
      rw [Bool.eq_iff_iff]; simp only [beq_iff_eq]
      exact ⟨fun e => u8_int.mp (by rw [e]; rfl), fun e => by rw [e]; rfl⟩
    by_cases h : singles.contains c = true
    · rw [h]; exact ev_pos rfl (ev_pos (by simp) a)
    · rw [show singles.contains c = false by simpa using h]
      refine ev_neg (by simp) ?_
      by_cases h32 : (c.toNat : Int) = 32
      · have : c = 32 := u8_int.mp (by rw [h32]; rfl)
        exact ev_pos h32 (ev_pos (by simp [this]) a)
      · have : ¬ c = 32 := fun e => h32 (by rw [e]; rfl)
        exact ev_neg h32 (ev_pos (by rw [n9]; simp [this]) a)
  | succ d ih =>
    intro n b hd hn hb
    have hlt : n < reservedL.length := by omega
    have hb2 : (b || (L s == reservedL[n])) = (reservedL.take (n + 1)).contains (L s) := by
      rw [List.take_succ_eq_append_getElem hlt, hb, List.contains_eq_any_beq, List.contains_eq_any_beq, List.any_append]; simp only [List.any_cons, List.any_nil, Bool.or_false]
    have yes : reservedL.contains reservedL[n] = true := by simp
    have no : reservedL.contains (reservedL[n] ++ [120]) = false := by
      have : ∀ m : Nat, (h : m < reservedL.length) → reservedL.contains (reservedL[m] ++ [120]) = false := by decide
      exact this n hlt
    have tail : Ev (fun k => conchlaw9_LexWords.j1 k (c.toNat : Int) s (reservedL.map mkB) (b || (L s == reservedL[n])) (n : Int)) true := by
      refine Ev.step (fun k => by rw [conchlaw9_LexWords.j1]) (ev_pos (by omega) (ev_pos (by rw [List.length_map]; omega) ?_))
      simp only [rdOf_map hlt]
      have hsz : reservedL[n].length ≤ 10 := by
        have : ∀ m : Nat, (h : m < reservedL.length) → reservedL[m].length ≤ 10 := by decide
        exact this n hlt
      refine Ev.bind (reserved_some _) (ev_pos (by rw [L_mkB]; exact yes) (ev_pos (by rw [sz_mkB]; omega) ?_))
      refine Ev.bind (reserved_some _) (ev_neg (by rw [L_app, L_mkB, L_lit, no]; simp) ?_)
      rw [w64s (by omega)]
      exact ih (n + 1) _ (by omega) (by omega) hb2
    refine Ev.step (fun k => by rw [conchlaw9_LexWords.l0]) (ev_pos (by rw [List.length_map]; omega) ?_)
    by_cases h : b = true
    · refine ev_pos h ?_
      rw [h] at tail; simpa using tail
    · have h' : b = false := by simpa using h
      refine ev_neg h (ev_pos (by omega) ?_)
      simp only [rdOf_map hlt, tl_mkB, tl, L_mkB]
      rw [h'] at tail; simpa using tail

theorem LexWords : conchlaw9_LexWords.Pure := by
  intro c s hc hs
  obtain ⟨u, rfl⟩ := u8_wf hc
  exact ev_ex (r := true) (words_loop s u 16 0 false rfl (by omega) rfl)

end Go.Proofs.Ytemdfhadijdddaa.Pure
