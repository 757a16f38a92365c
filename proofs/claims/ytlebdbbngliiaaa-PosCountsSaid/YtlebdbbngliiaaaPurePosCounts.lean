/- The end's line is one more than there are line feeds; no line beyond it has a place, nor a column beyond a line's own: the plain statement. -/
import Derived.Test.YtlebdbbngliiaaaPAllx1
import Derived.Test.YtlebdbbngliiaaaPosC
namespace Go.Proofs.Ytlebdbbngliiaaa.Pure
open Go.RowKit Go.Proofs.Ytlebdbbngliiaaa.PAll Go.Proofs.YtlebdbbngliiaaaW.PrintWords Go.Proofs.YtlebdbbngliiaaaW.PrintLast Go.Proofs.Ytlebdbbngliiaaa.B Go.Proofs.Ytlebdbbngliiaaa.PosL Go.Proofs.Ytlebdbbngliiaaa.PosC
set_option linter.unusedVariables false
set_option linter.unusedSimpArgs false

theorem line_mono (l : List UInt8) (n : Nat) : lineOf (l.take n) ≤ lineOf l := by
  unfold lineOf
  have := List.count_append (a := (10 : UInt8)) (l₁ := l.take n) (l₂ := l.drop n)
  rw [List.take_append_drop] at this; omega

theorem counts_end (s : ByteArray) (hs : (L s).length ≤ 400) : Ev (fun k => conchlaw2_PosCounts.l0 k s (lineOf (L s) : Int) ((((L s).length + 1 - colOf (L s) : Nat)) : Int) (((L s).length : Nat) : Int)) true := by
  have e1 := sz s
  have hcol : colOf (L s) ≤ (L s).length + 1 := by
    unfold colOf; have := (List.takeWhile_sublist no10 (l := (L s).reverse)).length_le; simp at this; omega
  have hlin : lineOf (L s) ≤ (L s).length + 1 := by
    unfold lineOf; have := List.count_le_length (a := (10 : UInt8)) (l := L s); omega
  have hcp := col_pos (L s)
  have hlp := line_pos (L s)
  have hself : find (L s) (lineOf (L s)) (colOf (L s)) = some (L s).length :=
    (find_iff (L s) _ _ _ hlp hcp (Nat.le_refl _)).mp (by rw [List.take_of_length_le (Nat.le_refl _)]; exact ⟨rfl, rfl⟩)
  obtain ⟨a, ha, hle, hlen⟩ : ∃ a, startL (lineOf (L s) - 1) (L s) = some a ∧ colOf (L s) - 1 ≤ (((L s).drop a).takeWhile no10).length ∧ a + (colOf (L s) - 1) = (L s).length := by
    unfold find at hself
    cases hst : startL (lineOf (L s) - 1) (L s) with
    | none => rw [hst] at hself; cases hself
    | some a =>
      rw [hst] at hself; simp only at hself
      by_cases h : colOf (L s) - 1 ≤ (((L s).drop a).takeWhile no10).length
      · rw [if_pos h] at hself; exact ⟨a, rfl, h, by simpa using hself⟩
      · rw [if_neg h] at hself; cases hself
  have hof := of_some s (s.size : Int) (by omega)
  rw [e1, clamp_in s _ (Nat.le_refl _), List.take_of_length_le (Nat.le_refl _)] at hof
  have hof0 := of_some s (-1) (by omega)
  have hc0 : clamp s (-1) = 0 := by unfold clamp mn mx; (repeat' split) <;> omega
  rw [hc0] at hof0
  have w1 : wrap64 ((lineOf (L s) : Int) + 1) = ((lineOf (L s) + 1 : Nat) : Int) := w64s (by omega)
  have w2 : wrap64 ((s.size : Int) - (((L s).length + 1 - colOf (L s) : Nat) : Int)) = (colOf (L s) : Int) - 1 := by rw [w64 (by omega) (by omega)]; omega
  have w3 : wrap64 ((colOf (L s) : Int) - 1 + 2) = ((colOf (L s) + 1 : Nat) : Int) := by rw [w64 (by omega) (by omega)]; omega
  have w4 : wrap64 ((colOf (L s) : Int) - 1 + 1) = (colOf (L s) : Int) := by rw [w64 (by omega) (by omega)]; omega
  have a1 : atL (L s) ((lineOf (L s) + 1 : Nat) : Int) 1 = (0, false) := by
    unfold atL; rw [if_pos (by omega)]
    rw [(find_none (L s) _ _ (by omega) (by omega)).mpr]
    intro n hn hc
    have := line_mono (L s) n
    simp only [Int.toNat_natCast] at hc; omega
  have a2 : atL (L s) (lineOf (L s) : Int) ((colOf (L s) + 1 : Nat) : Int) = (0, false) := by
    unfold atL; rw [if_pos (by omega)]
    simp only [Int.toNat_natCast]
    have : find (L s) (lineOf (L s)) (colOf (L s) + 1) = none := by
      unfold find; rw [ha]; simp only
      rw [if_neg]
      have := (List.takeWhile_sublist no10 (l := (L s).drop a)).length_le
      rw [List.length_drop] at this; omega
    rw [this]
  have a3 : atL (L s) (lineOf (L s) : Int) 1 = ((((L s).length + 1 - colOf (L s) : Nat) : Int), true) := by
    unfold atL; rw [if_pos (by omega)]
    simp only [Int.toNat_natCast]
    have : find (L s) (lineOf (L s)) (1 : Int).toNat = some a := by
      unfold find; rw [ha]; simp
    rw [this]; simp; omega
  refine Ev.step (fun k => by rw [conchlaw2_PosCounts.l0]) (ev_neg (by omega) ?_)
  simp only [w1, w2, w3, w4]
  rw [← e1] at hof
  refine Ev.bind hof (Ev.bind (a := (0, false)) ?_ (Ev.bind (a := (0, false)) ?_ (Ev.bind (a := ((((L s).length + 1 - colOf (L s) : Nat) : Int), true)) ?_ (Ev.bind hof0 ?_))))
  · rw [← a1]; exact at_some s _ _ (by omega) (by omega) (by omega)
  · rw [← a2]; exact at_some s _ _ (by omega) (by omega) (by omega)
  · rw [← a3]; exact at_some s _ _ (by omega) (by omega) (by omega)
  · exact ev_pos rfl (ev_pos rfl (ev_neg (by simp) (ev_neg (by simp) (ev_pos rfl (ev_pos rfl (ev_pos rfl (ev_pos rfl (Ev.bind awake_some (Ev.now _)))))))))

theorem counts_loop (s : ByteArray) (hs : (L s).length ≤ 400) (d : Nat) : ∀ n, (L s).length - n = d → n ≤ (L s).length →
    Ev (fun k => conchlaw2_PosCounts.l0 k s (lineOf ((L s).take n) : Int) (((n + 1 - colOf ((L s).take n) : Nat)) : Int) (n : Int)) true := by
  have e1 := sz s
  induction d with
  | zero =>
    intro n hd hn
    have : n = (L s).length := by omega
    subst this
    rw [List.take_of_length_le (Nat.le_refl _)]; exact counts_end s hs
  | succ d ih =>
    intro n hd hn
    have hlt : n < (L s).length := by omega
    have next := ih (n + 1) (by omega) (by omega)
    have hcol : colOf ((L s).take n) ≤ n + 1 := by
      unfold colOf; have := (List.takeWhile_sublist no10 (l := ((L s).take n).reverse)).length_le; simp at this; simp; omega
    have hlin : lineOf ((L s).take n) ≤ n + 1 := by
      unfold lineOf; have := List.count_le_length (a := (10 : UInt8)) (l := (L s).take n); simp at this; omega
    rw [List.take_succ_eq_append_getElem hlt, line_snoc, col_snoc] at next
    refine Ev.step (fun k => by rw [conchlaw2_PosCounts.l0]) (ev_pos (by omega) (ev_pos (by omega) ?_))
    rw [bt_n hlt]
    by_cases h10 : (L s)[n] = 10
    · rw [if_pos h10, if_pos h10] at next
      refine ev_pos (by rw [h10]; rfl) ?_
      rw [w64s (by omega), w64s (by omega)]; exact next
    · rw [if_neg h10, if_neg h10] at next
      refine ev_neg (fun e => h10 (u8_int.mp (by rw [e]; rfl))) ?_
      rw [w64s (by omega)]
      rw [show n + 1 + 1 - (colOf ((L s).take n) + 1) = n + 1 - colOf ((L s).take n) by omega] at next; exact next

theorem PosCounts : conchlaw2_PosCounts.Pure := by
  intro s hs
  refine ev_ex (r := true) ?_
  show Ev (fun k => conchlaw2_PosCounts.f k s) true
  unfold conchlaw2_PosCounts.f
  by_cases h1 : (s.size : Int) > 400
  · exact ev_pos h1 (Ev.bind awake_some (Ev.now _))
  · have := counts_loop s (by rw [← sz]; omega) _ 0 rfl (Nat.zero_le _)
    simp only [List.take_zero, line_nil, col_nil] at this
    exact ev_neg h1 this
end Go.Proofs.Ytlebdbbngliiaaa.Pure
