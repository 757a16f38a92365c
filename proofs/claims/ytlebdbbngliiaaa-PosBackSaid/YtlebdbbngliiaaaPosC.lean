/- What the printed functions of layer 2 say, in the words of the plain laws of lines and columns. -/
import Derived.Test.YtlebdbbngliiaaaPAllx
import Derived.Test.YtlebdbbngliiaaaPosL
namespace Go.Proofs.Ytlebdbbngliiaaa.PosC
open Go.RowKit Go.Proofs.Ytlebdbbngliiaaa.PAll Go.Proofs.YtlebdbbngliiaaaW.PrintWords Go.Proofs.YtlebdbbngliiaaaW.PrintLast Go.Proofs.YtlebdbbngliiaaaW.PrintMore Go.Proofs.Ytlebdbbngliiaaa.B Go.Proofs.Ytlebdbbngliiaaa.PosL
set_option linter.unusedVariables false
set_option linter.unusedSimpArgs false

def clamp (s : ByteArray) (at_ : Int) : Nat := (mn (mx at_ 0) (s.size : Int)).toNat
theorem clamp_is (s : ByteArray) (at_ : Int) : mn (mx at_ 0) (s.size : Int) = (clamp s at_ : Int) ∧ clamp s at_ ≤ (L s).length := by
  have := sz s; unfold clamp mn mx; (repeat' split) <;> omega
theorem clamp_in (s : ByteArray) (n : Nat) (h : n ≤ (L s).length) : clamp s (n : Int) = n := by
  have := sz s; unfold clamp mn mx; (repeat' split) <;> omega

theorem idx_some (s : ByteArray) (c : UInt8) : strings_IndexByte.f s (c.toNat : Int) = some (Lib.indexByte (L s) c) := by
  simp only [strings_IndexByte.f, stringslite_IndexByte.f, Option.bind_some, u8_of, L_def]
theorem idx10_yes {l : List UInt8} (h : (10 : UInt8) ∈ l) : Lib.indexByte l 10 = ((l.takeWhile no10).length : Int) ∧ (l.takeWhile no10).length < l.length := by
  induction l with
  | nil => simp at h
  | cons b l ih =>
    by_cases hb : b = 10
    · subst hb; simp [Lib.indexByte, List.takeWhile_cons, no10]
    · have hm : (10 : UInt8) ∈ l := by
        rcases List.mem_cons.mp h with e | e
        · exact absurd e.symm hb
        · exact e
      obtain ⟨h1, h2⟩ := ih hm
      have hne : ¬ Lib.indexByte l 10 = -1 := by omega
      have hb' : (b == 10) = false := by simpa using hb
      have hb2 : no10 b = true := by simpa [no10] using hb
      have hn' : (Lib.indexByte l 10 == -1) = false := by simpa using hne
      simp only [Lib.indexByte, hb', Bool.false_eq_true, if_false, hn', List.takeWhile_cons, hb2, if_true, List.length_cons]
      omega
theorem idx10_no {l : List UInt8} (h : ¬ (10 : UInt8) ∈ l) : Lib.indexByte l 10 < 0 ∧ l.takeWhile no10 = l := by
  refine ⟨?_, tw_all _ (fun x hx e => h (by rw [← e]; exact hx))⟩
  have := indexByte_ge0 l 10
  have : ¬ Lib.indexByte l 10 ≥ 0 := fun x => h (by simpa using this.mp x)
  omega

/-- The last line feed. -/
theorem last_some (s : ByteArray) (hs : (L s).length ≤ 1000000) : Ev (fun k => strings_LastIndexByte.f k s 10) (((L s).length : Int) - (colOf (L s) : Int)) := by
  have e1 := sz s
  have key : ∀ n, n ≤ (L s).length → (∀ x ∈ (L s).drop n, ¬ x = 10) → Ev (fun k => bytealg_LastIndexByteString.l0 k s 10 ((n : Int) - 1)) (((L s).length : Int) - (colOf (L s) : Int)) := by
    intro n; induction n with
    | zero =>
      intro hn h
      refine Ev.step (fun k => by rw [bytealg_LastIndexByteString.l0]) (ev_neg (by omega) (ev_now ?_))
      rw [List.drop_zero] at h; rw [col_flat _ h]; omega
    | succ n ih =>
      intro hn h
      have hlt : n < (L s).length := by omega
      refine Ev.step (fun k => by rw [bytealg_LastIndexByteString.l0]) ?_
      rw [show ((n + 1 : Nat) : Int) - 1 = (n : Int) by omega]
      refine ev_pos (by omega) (ev_pos (by omega) (ev_pos (by omega) ?_))
      rw [bt_n hlt]
      by_cases h10 : (L s)[n] = 10
      · refine ev_pos (by rw [h10]; rfl) (ev_now ?_)
        have e : L s = (L s).take n ++ 10 :: (L s).drop (n + 1) := by
          rw [← h10, ← List.drop_eq_getElem_cons hlt, List.take_append_drop]
        have : colOf (L s) = (L s).length - n := by
          have h2 := col_over ((L s).take n) ((L s).drop (n + 1))
          rw [← e] at h2
          rw [h2, col_flat _ h]; simp; omega
        omega
      · refine ev_neg (fun e => h10 (u8_int.mp (by rw [e]; rfl))) ?_
        rw [w64 (by omega) (by omega)]
        refine ih (by omega) ?_
        intro x hx
        rw [List.drop_eq_getElem_cons hlt] at hx
        rcases List.mem_cons.mp hx with e | e
        · rw [e]; exact h10
        · exact h x e
  have := key (L s).length (Nat.le_refl _) (by simp)
  refine Ev.bind (f := fun _ t => some t) (a := ((L s).length : Int) - (colOf (L s) : Int)) ?_ (Ev.now _)
  show Ev (fun k => bytealg_LastIndexByteString.l0 k s 10 (wrap64 ((s.size : Int) - 1))) _
  rw [w64 (by omega) (by omega), e1]; exact this

theorem of_some (s : ByteArray) (at_ : Int) (hs : (L s).length ≤ 1000000) : Ev (fun k => pos_Of.f k s at_) ((lineOf ((L s).take (clamp s at_)) : Int), (colOf ((L s).take (clamp s at_)) : Int)) := by
  have e1 := sz s
  obtain ⟨hc, hcl⟩ := clamp_is s at_
  show Ev (fun k => pos_Of.f k s at_) _
  unfold pos_Of.f
  rw [hc]
  generalize clamp s at_ = n at *
  refine ev_pos (by omega) (ev_pos (by omega) ?_)
  have e2 : s.extract 0 ((n : Int)).toNat = mkB ((L s).take n) := by rw [ext_mkB]; simp
  have hcnt : strings_Count.f (s.extract 0 ((n : Int)).toNat) (⟨#[10]⟩ : ByteArray) = some ((((L s).take n).count 10 : Nat) : Int) := by
    rw [e2]; show some ((Lib.countByte (L (mkB ((L s).take n))) 10 : Nat) : Int) = _; rw [L_mkB]; rfl
  rw [hcnt]
  refine ev_some ?_
  have hl : ((L s).take n).length = n := by simp; omega
  have hcle := List.count_le_length (a := (10 : UInt8)) (l := (L s).take n)
  have hcol : colOf ((L s).take n) ≤ n + 1 := by
    unfold colOf; have := (List.takeWhile_sublist no10 (l := ((L s).take n).reverse)).length_le; simp at this; simp; omega
  have hcp := col_pos ((L s).take n)
  have hlast := last_some (s.extract 0 ((n : Int)).toNat) (by rw [e2, L_mkB]; omega)
  rw [e2] at hlast ⊢
  rw [L_mkB, hl] at hlast
  refine Ev.bind hlast (ev_now ?_)
  rw [w64 (by omega) (by omega), w64 (by omega) (by omega)]
  unfold lineOf; simp; omega

/-- What is answered of a line and a column. -/
def atL (l : List UInt8) (line col : Int) : Int × Bool :=
  if 1 ≤ line ∧ 1 ≤ col then (match find l line.toNat col.toNat with | some n => ((n : Int), true) | none => (0, false)) else (0, false)
theorem at_some (s : ByteArray) (line col : Int) (hs : (L s).length ≤ 1000000) (hl : line ≤ 9223372036854775807) (hc : col ≤ 9223372036854775807) : Ev (fun k => pos_At.f k s line col) (atL (L s) line col) := by
  have e1 := sz s
  have out : ∀ b, b = true → Ev (fun k => pos_At.j0 k s line col b) (0, false) := by
    intro b hb; subst hb
    exact Ev.step (fun k => by rw [pos_At.j0]) (ev_pos rfl (Ev.now _))
  show Ev (fun k => pos_At.f k s line col) _
  unfold pos_At.f atL
  by_cases h1 : line < 1
  · rw [if_neg (by omega)]; exact ev_pos h1 (out _ rfl)
  · refine ev_neg h1 ?_
    by_cases h2 : col < 1
    · rw [if_neg (by omega)]; exact out _ (decide_eq_true h2)
    · rw [if_pos (by omega), decide_eq_false h2]
      obtain ⟨q, rfl⟩ : ∃ q : Nat, line = ((q + 1 : Nat) : Int) := ⟨line.toNat - 1, by omega⟩
      obtain ⟨c, rfl⟩ : ∃ c : Nat, col = ((c + 1 : Nat) : Int) := ⟨col.toNat - 1, by omega⟩
      refine Ev.step (fun k => by rw [pos_At.j0]) (ev_neg (by simp) ?_)
      have key : ∀ (q a : Nat), a ≤ (L s).length → (q : Int) + 1 ≤ 9223372036854775807 → Ev (fun k => pos_At.l0 k s ((q + 1 : Nat) : Int) ((c + 1 : Nat) : Int) (a : Int))
          (match find ((L s).drop a) (q + 1) (c + 1) with | some n => (((a + n : Nat) : Int), true) | none => (0, false)) := by
        intro q; induction q with
        | zero =>
          intro a ha hq
          have e2 : L (s.extract ((a : Int)).toNat s.size) = (L s).drop a := by rw [L_ext, e1]; simp
          have hi := idx_some (s.extract ((a : Int)).toNat s.size) 10
          simp only [show ((10 : UInt8).toNat : Int) = 10 from rfl, e2] at hi
          refine Ev.step (fun k => by rw [pos_At.l0]) (ev_neg (by omega) (ev_pos (by omega) (ev_pos (by omega) ?_)))
          simp only [hi]
          refine ev_some ?_
          have hf : find ((L s).drop a) (0 + 1) (c + 1) = if c ≤ (((L s).drop a).takeWhile no10).length then some c else none := by
            unfold find; simp only [Nat.zero_add, Nat.sub_self, startL, Nat.add_sub_cancel, List.drop_zero]
          rw [hf]
          have hll : ((L s).drop a).length = (L s).length - a := by simp
          have hw1 : wrap64 (((c + 1 : Nat) : Int) - 1) = (c : Int) := by rw [w64 (by omega) (by omega)]; omega
          by_cases hm : (10 : UInt8) ∈ (L s).drop a
          · obtain ⟨g1, g2⟩ := idx10_yes hm
            rw [g1]
            refine ev_neg (by omega) ?_
            rw [hw1]
            by_cases hcc : c ≤ (((L s).drop a).takeWhile no10).length
            · rw [if_pos hcc]
              refine ev_neg (by omega) (ev_now ?_)
              rw [w64 (n := (a : Int) + ((c + 1 : Nat) : Int)) (by omega) (by omega), w64 (by omega) (by omega)]
              simp; omega
            · rw [if_neg hcc]; exact ev_pos (by omega) (Ev.now _)
          · obtain ⟨g1, g2⟩ := idx10_no hm
            rw [g2]
            refine ev_pos g1 ?_
            rw [hw1, w64 (n := (s.size : Int) - (a : Int)) (by omega) (by omega)]
            by_cases hcc : c ≤ ((L s).drop a).length
            · rw [if_pos hcc]
              refine ev_neg (by omega) (ev_now ?_)
              rw [w64 (n := (a : Int) + ((c + 1 : Nat) : Int)) (by omega) (by omega), w64 (by omega) (by omega)]
              simp; omega
            · rw [if_neg hcc]; exact ev_pos (by omega) (Ev.now _)
        | succ q ih =>
          intro a ha hq
          have e2 : L (s.extract ((a : Int)).toNat s.size) = (L s).drop a := by rw [L_ext, e1]; simp
          have hi := idx_some (s.extract ((a : Int)).toNat s.size) 10
          simp only [show ((10 : UInt8).toNat : Int) = 10 from rfl, e2] at hi
          refine Ev.step (fun k => by rw [pos_At.l0]) (ev_pos (by omega) (ev_pos (by omega) (ev_pos (by omega) ?_)))
          simp only [hi]
          refine ev_some ?_
          have hll : ((L s).drop a).length = (L s).length - a := by simp
          by_cases hm : (10 : UInt8) ∈ (L s).drop a
          · obtain ⟨g1, g2⟩ := idx10_yes hm
            have hf : find ((L s).drop a) (q + 1 + 1) (c + 1) = (find ((L s).drop (a + ((((L s).drop a).takeWhile no10).length + 1))) (q + 1) (c + 1)).map ((((L s).drop a).takeWhile no10).length + 1 + ·) := by
              unfold find
              simp only [Nat.add_sub_cancel]
              rw [startL, if_pos hm, List.drop_drop]
              cases hs : startL q ((L s).drop (a + ((((L s).drop a).takeWhile no10).length + 1))) with
              | none => rfl
              | some b =>
                simp only [Option.map_some, List.drop_drop]
                rw [show a + ((((L s).drop a).takeWhile no10).length + 1 + b) = a + ((((L s).drop a).takeWhile no10).length + 1) + b by omega]
                split
                · simp; omega
                · rfl
            have := ih (a + ((((L s).drop a).takeWhile no10).length + 1)) (by omega) (by omega)
            rw [g1]
            refine ev_neg (by omega) ?_
            rw [w64 (n := ((q + 1 + 1 : Nat) : Int) - 1) (by omega) (by omega), w64 (n := ((((L s).drop a).takeWhile no10).length : Int) + 1) (by omega) (by omega), w64 (by omega) (by omega)]
            rw [show ((q + 1 + 1 : Nat) : Int) - 1 = ((q + 1 : Nat) : Int) by omega, show (a : Int) + (((((L s).drop a).takeWhile no10).length : Int) + 1) = ((a + ((((L s).drop a).takeWhile no10).length + 1) : Nat) : Int) by omega]
            rw [hf]
            cases hx : find ((L s).drop (a + ((((L s).drop a).takeWhile no10).length + 1))) (q + 1) (c + 1) with
            | none => rw [hx] at this; exact this
            | some n =>
              rw [hx] at this
              simp only [Option.map_some]
              rw [show a + ((((L s).drop a).takeWhile no10).length + 1 + n) = a + ((((L s).drop a).takeWhile no10).length + 1) + n by omega]; exact this
          · obtain ⟨g1, g2⟩ := idx10_no hm
            have hf : find ((L s).drop a) (q + 1 + 1) (c + 1) = none := by
              unfold find; simp only [Nat.add_sub_cancel]; rw [startL, if_neg hm]
            rw [hf]; exact ev_pos g1 (Ev.now _)
      have := key q 0 (Nat.zero_le _) (by omega)
      simp only [List.drop_zero, Nat.zero_add] at this
      simpa using this

theorem place_some (s : ByteArray) (at_ : Int) (hs : (L s).length ≤ 1000000) : Ev (fun k => conchref1_Place.f k s at_) ((lineOf ((L s).take (clamp s at_)) : Int), (colOf ((L s).take (clamp s at_)) : Int)) := by
  have e1 := sz s
  obtain ⟨hc, hcl⟩ := clamp_is s at_
  show Ev (fun k => conchref1_Place.f k s at_) _
  unfold conchref1_Place.f
  rw [hc]
  generalize clamp s at_ = n at *
  have key : ∀ d i, n - i = d → i ≤ n → Ev (fun k => conchref1_Place.l0 k s (n : Int) (lineOf ((L s).take i) : Int) (colOf ((L s).take i) : Int) (i : Int)) ((lineOf ((L s).take n) : Int), (colOf ((L s).take n) : Int)) := by
    intro d; induction d with
    | zero =>
      intro i hd hi
      have : i = n := by omega
      subst this
      exact Ev.step (fun k => by rw [conchref1_Place.l0]) (ev_neg (by omega) (Ev.now _))
    | succ d ih =>
      intro i hd hi
      have hlt : i < (L s).length := by omega
      have hnext := ih (i + 1) (by omega) (by omega)
      rw [List.take_succ_eq_append_getElem hlt, line_snoc, col_snoc] at hnext
      have hcol : colOf ((L s).take i) ≤ i + 1 := by
        unfold colOf; have := (List.takeWhile_sublist no10 (l := ((L s).take i).reverse)).length_le; simp at this; simp; omega
      have hlin : lineOf ((L s).take i) ≤ i + 1 := by
        unfold lineOf; have := List.count_le_length (a := (10 : UInt8)) (l := (L s).take i); simp at this; omega
      refine Ev.step (fun k => by rw [conchref1_Place.l0]) (ev_pos (by omega) (ev_pos (by omega) (ev_pos (by omega) ?_)))
      rw [bt_n hlt]
      by_cases h10 : (L s)[i] = 10
      · refine ev_pos (by rw [h10]; rfl) ?_
        rw [if_pos h10, if_pos h10] at hnext
        rw [w64s (by omega), w64s (by omega)]; exact hnext
      · refine ev_neg (fun e => h10 (u8_int.mp (by rw [e]; rfl))) ?_
        rw [if_neg h10, if_neg h10] at hnext
        rw [w64s (by omega), w64s (by omega)]; exact hnext
  have := key n 0 (by omega) (Nat.zero_le _)
  simpa [line_nil, col_nil] using this

theorem awake_some : Ev (fun k => conchlaw2_awake.f k) true := by
  refine Ev.of (fun k => conchlaw2_awake.mono k) (k := 60) ?_
  decide +kernel
end Go.Proofs.Ytlebdbbngliiaaa.PosC
