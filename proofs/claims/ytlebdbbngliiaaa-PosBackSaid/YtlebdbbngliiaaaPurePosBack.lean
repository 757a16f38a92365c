/- Each place is found by its line and column; they rise with it: the plain statement. -/
import Derived.Test.YtlebdbbngliiaaaPAllx3
import Derived.Test.YtlebdbbngliiaaaPosC
namespace Go.Proofs.Ytlebdbbngliiaaa.Pure
open Go.RowKit Go.Proofs.Ytlebdbbngliiaaa.PAll Go.Proofs.YtlebdbbngliiaaaW.PrintWords Go.Proofs.YtlebdbbngliiaaaW.PrintLast Go.Proofs.Ytlebdbbngliiaaa.B Go.Proofs.Ytlebdbbngliiaaa.PosL Go.Proofs.Ytlebdbbngliiaaa.PosC
set_option linter.unusedVariables false
set_option linter.unusedSimpArgs false

theorem atL_back (l : List UInt8) (n : Nat) (hn : n ≤ l.length) : atL l (lineOf (l.take n) : Int) (colOf (l.take n) : Int) = ((n : Int), true) := by
  have h1 := line_pos (l.take n)
  have h2 := col_pos (l.take n)
  unfold atL
  rw [if_pos (by omega)]
  simp only [Int.toNat_natCast]
  rw [(find_iff l _ _ n h1 h2 hn).mp ⟨rfl, rfl⟩]

theorem back_loop (s : ByteArray) (hs : (L s).length ≤ 400) (d : Nat) : ∀ n, (L s).length + 1 - n = d → n ≤ (L s).length + 1 →
    ∀ line col : Int, (n = 0 → line = 1 ∧ col = 0) → (0 < n → line = (lineOf ((L s).take (n - 1)) : Int) ∧ col = (colOf ((L s).take (n - 1)) : Int)) →
    Ev (fun k => conchlaw2_PosBack.l0 k s line col (n : Int)) true := by
  have e1 := sz s
  induction d with
  | zero =>
    intro n hd hn line col h0 h1
    exact Ev.step (fun k => by rw [conchlaw2_PosBack.l0]) (ev_neg (by omega) (Ev.bind awake_some (Ev.now _)))
  | succ d ih =>
    intro n hd hn line col h0 h1
    have hle : n ≤ (L s).length := by omega
    have hof := of_some s (n : Int) (by omega)
    rw [clamp_in s n hle] at hof
    have hcol : colOf ((L s).take n) ≤ n + 1 := by
      unfold colOf; have := (List.takeWhile_sublist no10 (l := ((L s).take n).reverse)).length_le; simp at this; simp; omega
    have hlin : lineOf ((L s).take n) ≤ n + 1 := by
      unfold lineOf; have := List.count_le_length (a := (10 : UInt8)) (l := (L s).take n); simp at this; omega
    have hat := at_some s (lineOf ((L s).take n) : Int) (colOf ((L s).take n) : Int) (by omega) (by omega) (by omega)
    rw [atL_back _ n hle] at hat
    have next := ih (n + 1) (by omega) (by omega) (lineOf ((L s).take n) : Int) (colOf ((L s).take n) : Int) (fun h => by omega) (fun _ => ⟨by simp, by simp⟩)
    rw [← w64s (n := n) (by omega)] at next
    refine Ev.step (fun k => by rw [conchlaw2_PosBack.l0]) (ev_pos (by omega) (Ev.bind hof (Ev.bind hat ?_)))
    by_cases hn0 : n = 0
    · subst hn0
      obtain ⟨rfl, rfl⟩ := h0 rfl
      refine ev_neg (by omega) (ev_pos rfl (ev_pos rfl (ev_pos rfl (ev_pos (by show ((colOf [] : Nat) : Int) = wrap64 (0 + 1); rw [col_nil]; unfold wrap64; omega) next))))
    · obtain ⟨rfl, rfl⟩ := h1 (by omega)
      have hlt : n - 1 < (L s).length := by omega
      have hw : wrap64 ((n : Int) - 1) = ((n - 1 : Nat) : Int) := by rw [w64 (by omega) (by omega)]; omega
      have htk : (L s).take n = (L s).take (n - 1) ++ [(L s)[n - 1]] := by
        have := List.take_succ_eq_append_getElem hlt; rwa [show n - 1 + 1 = n by omega] at this
      have hcol2 : colOf ((L s).take (n - 1)) ≤ n + 1 := by
        unfold colOf; have := (List.takeWhile_sublist no10 (l := ((L s).take (n - 1)).reverse)).length_le; simp at this; simp; omega
      have hlin2 : lineOf ((L s).take (n - 1)) ≤ n + 1 := by
        unfold lineOf; have := List.count_le_length (a := (10 : UInt8)) (l := (L s).take (n - 1)); simp at this; omega
      have hl := line_snoc ((L s).take (n - 1)) (L s)[n - 1]
      have hc := col_snoc ((L s).take (n - 1)) (L s)[n - 1]
      rw [← htk] at hl hc
      simp only [hw]
      refine ev_pos (by omega) (ev_pos (by omega) (ev_pos (by omega) (ev_pos (by simp) (ev_pos (by simp) ?_))))
      simp only [bt_n hlt]
      by_cases h10 : (L s)[n - 1] = 10
      · rw [if_pos h10] at hl hc
        refine ev_pos (by rw [h10]; rfl) (ev_pos ?_ (ev_pos ?_ next))
        · rw [w64s (by omega), hl]
        · rw [hc]; rfl
      · rw [if_neg h10] at hl hc
        have hne : ¬ (((L s)[n - 1]).toNat : Int) = 10 := fun e => h10 (u8_int.mp (by rw [e]; rfl))
        refine ev_neg hne (ev_pos ?_ (ev_pos ?_ next))
        · rw [hl]
        · rw [w64s (by omega), hc]

theorem PosBack : conchlaw2_PosBack.Pure := by
  intro s hs
  refine ev_ex (r := true) ?_
  show Ev (fun k => conchlaw2_PosBack.f k s) true
  unfold conchlaw2_PosBack.f
  by_cases h1 : (s.size : Int) > 400
  · exact ev_pos h1 (Ev.bind awake_some (Ev.now _))
  · exact ev_neg h1 (back_loop s (by rw [← sz]; omega) _ 0 rfl (by omega) 1 0 (fun _ => ⟨rfl, rfl⟩) (fun h => by omega))
end Go.Proofs.Ytlebdbbngliiaaa.Pure
