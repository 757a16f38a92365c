/- Each place has the line and the column that the document says; any line and column the place that has them, or none: the plain statement. -/
import Derived.Test.YtlebdbbngliiaaaPAllx2
import Derived.Test.YtlebdbbngliiaaaPosC
namespace Go.Proofs.Ytlebdbbngliiaaa.Pure
open Go.RowKit Go.Proofs.Ytlebdbbngliiaaa.PAll Go.Proofs.YtlebdbbngliiaaaW.PrintWords Go.Proofs.YtlebdbbngliiaaaW.PrintLast Go.Proofs.Ytlebdbbngliiaaa.B Go.Proofs.Ytlebdbbngliiaaa.PosL Go.Proofs.Ytlebdbbngliiaaa.PosC
set_option linter.unusedVariables false
set_option linter.unusedSimpArgs false

theorem tells_fin (s : ByteArray) (at_ line col : Int) (i : Nat) (hi : i < 2) (hs : (L s).length ≤ 200) (hl : line ≤ 9223372036854775807) (hc : col ≤ 9223372036854775807) (q : Int) (w : Int) (b : Bool) (hw : atL (L s) line col = (w, b))
    (next : ∀ a l c, 0 ≤ a → a ≤ 300 → 0 ≤ l → l ≤ 7 → 0 ≤ c → c ≤ 31 → Ev (fun k => conchlaw2_PosTells.l0 k s a l c ((i + 1 : Nat) : Int)) true) :
    Ev (fun k => conchlaw2_PosTells.j3 k s at_ line col (i : Int) w b q false) true := by
  have e1 := sz s
  have hw1 : wrap64 ((s.size : Int) + 1) = (s.size : Int) + 1 := w64 (by omega) (by omega)
  have hat := at_some s line col (by omega) hl hc
  rw [hw] at hat
  refine Ev.step (fun k => by rw [conchlaw2_PosTells.j3]) (ev_neg (by decide) (Ev.bind hat (ev_neg (show ¬ ((b != b) = true) by cases b <;> decide) (ev_pos rfl ?_))))
  simp only [hw1]
  refine ev_neg (by omega) ?_
  rw [w64s (by omega), bits_and65535, bits_and7, bits_and31]
  have h0 : 0 ≤ at_ % 65536 := Int.emod_nonneg _ (by decide)
  rw [Int.tmod_eq_emod_of_nonneg h0]
  have h1 : 0 ≤ at_ % 65536 % ((s.size : Int) + 1) := Int.emod_nonneg _ (by omega)
  have h2 : at_ % 65536 % ((s.size : Int) + 1) < (s.size : Int) + 1 := Int.emod_lt_of_pos _ (by omega)
  exact next _ _ _ h1 (by omega) (by omega) (by omega) (by omega) (by omega)

theorem tells_seek (s : ByteArray) (at_ line col : Int) (i : Nat) (hi : i < 2) (hs : (L s).length ≤ 200) (hl : line ≤ 9223372036854775807) (hc : col ≤ 9223372036854775807)
    (next : ∀ a l c, 0 ≤ a → a ≤ 300 → 0 ≤ l → l ≤ 7 → 0 ≤ c → c ≤ 31 → Ev (fun k => conchlaw2_PosTells.l0 k s a l c ((i + 1 : Nat) : Int)) true) (d : Nat) :
    ∀ n, (L s).length + 1 - n = d → n ≤ (L s).length + 1 → (∀ m, m < n → ¬ ((lineOf ((L s).take m) : Int) = line ∧ (colOf ((L s).take m) : Int) = col)) →
      Ev (fun k => conchlaw2_PosTells.l1 k s at_ line col (i : Int) 0 false (n : Int)) true := by
  have e1 := sz s
  induction d with
  | zero =>
    intro n hd hn hno
    have hat : atL (L s) line col = (0, false) := by
      unfold atL
      by_cases hp : 1 ≤ line ∧ 1 ≤ col
      · rw [if_pos hp, (find_none (L s) line.toNat col.toNat (by omega) (by omega)).mpr]
        intro m hm hc2
        exact hno m (by omega) (by omega)
      · rw [if_neg hp]
    refine Ev.step (fun k => by rw [conchlaw2_PosTells.l1]) (ev_neg (by omega) ?_)
    exact tells_fin s at_ line col i hi hs hl hc _ _ _ hat next
  | succ d ih =>
    intro n hd hn hno
    have hle : n ≤ (L s).length := by omega
    have hpl := place_some s (n : Int) (by omega)
    rw [clamp_in s n hle] at hpl
    have more : (¬ ((lineOf ((L s).take n) : Int) = line ∧ (colOf ((L s).take n) : Int) = col)) → Ev (fun k => conchlaw2_PosTells.l1 k s at_ line col (i : Int) 0 false (wrap64 ((n : Int) + 1))) true := by
      intro h
      rw [w64s (by omega)]
      refine ih (n + 1) (by omega) (by omega) ?_
      intro m hm
      by_cases e : m = n
      · rw [e]; exact h
      · exact hno m (by omega)
    refine Ev.step (fun k => by rw [conchlaw2_PosTells.l1]) (ev_pos (by omega) ?_)
    refine Ev.step (fun k => by rw [conchlaw2_PosTells.j3]) (ev_pos (by simp) (Ev.bind hpl ?_))
    by_cases g1 : (lineOf ((L s).take n) : Int) = line
    · refine ev_pos g1 ?_
      by_cases g2 : (colOf ((L s).take n) : Int) = col
      · refine ev_pos g2 ?_
        have h1 := line_pos ((L s).take n)
        have h2 := col_pos ((L s).take n)
        have hat : atL (L s) line col = ((n : Int), true) := by
          unfold atL
          rw [if_pos (by omega), (find_iff (L s) line.toNat col.toNat n (by omega) (by omega) hle).mp (by omega)]
        refine Ev.step (fun k => by rw [conchlaw2_PosTells.l1]) ?_
        by_cases g3 : wrap64 ((n : Int) + 1) ≤ (s.size : Int)
        · exact ev_pos g3 (tells_fin s at_ line col i hi hs hl hc _ _ _ hat next)
        · exact ev_neg g3 (tells_fin s at_ line col i hi hs hl hc _ _ _ hat next)
      · exact ev_neg g2 (more (fun h => g2 h.2))
    · exact ev_neg g1 (more (fun h => g1 h.1))

theorem tells_turn (d : Nat) : ∀ (i : Nat) (s : ByteArray) (at_ line col : Int), 2 - i = d → i ≤ 2 → (L s).length ≤ 200 → line ≤ 9223372036854775807 → col ≤ 9223372036854775807 →
    Ev (fun k => conchlaw2_PosTells.l0 k s at_ line col (i : Int)) true := by
  induction d with
  | zero =>
    intro i s at_ line col hd hi hs hl hc
    exact Ev.step (fun k => by rw [conchlaw2_PosTells.l0]) (ev_neg (by omega) (Ev.bind awake_some (Ev.now _)))
  | succ d ih =>
    intro i s at_ line col hd hi hs hl hc
    refine Ev.step (fun k => by rw [conchlaw2_PosTells.l0]) (ev_pos (by omega) (Ev.bind (of_some s at_ (by omega)) (Ev.bind (place_some s at_ (by omega)) (ev_pos rfl ?_))))
    simp only [bne_self_eq_false]
    refine Ev.step (fun k => by rw [conchlaw2_PosTells.j1]) (ev_neg (by simp) ?_)
    exact tells_seek s at_ line col i (by omega) hs hl hc (fun a l c _ _ _ _ _ _ => ih (i + 1) s a l c (by omega) (by omega) hs (by omega) (by omega)) _ 0 rfl (by omega) (fun m h => by omega)

theorem PosTells : conchlaw2_PosTells.Pure := by
  intro s at_ line col hs ha hl hc
  refine ev_ex (r := true) ?_
  show Ev (fun k => conchlaw2_PosTells.f k s at_ line col) true
  unfold conchlaw2_PosTells.f
  by_cases h1 : (s.size : Int) > 200
  · exact ev_pos h1 (Ev.bind awake_some (Ev.now _))
  · exact ev_neg h1 (tells_turn 2 0 s at_ line col rfl (by omega) (by rw [← sz]; omega) (i64_wf hl).2 (i64_wf hc).2)
end Go.Proofs.Ytlebdbbngliiaaa.Pure
