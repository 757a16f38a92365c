/- What the printed functions of layer 9 say, in the words of the plain laws of scripts' bytes. -/
import Derived.Test.YtemdfhadijdddaaPAllx
import Derived.Test.YtemdfhadijdddaaLexL
namespace Go.Proofs.Ytemdfhadijdddaa.LexC
open Go.RowKit Go.Proofs.Ytemdfhadijdddaa.PAll Go.Proofs.YtemdfhadijdddaaW.PrintWords Go.Proofs.YtemdfhadijdddaaW.PrintLast Go.Proofs.YtemdfhadijdddaaW.PrintMore Go.Proofs.Ytemdfhadijdddaa.B Go.Proofs.Ytemdfhadijdddaa.LexL
set_option linter.unusedVariables false
set_option linter.unusedSimpArgs false

theorem idx_some (s : ByteArray) (c : UInt8) : strings_IndexByte.f s (c.toNat : Int) = some (Lib.indexByte (L s) c) := by
  simp only [strings_IndexByte.f, stringslite_IndexByte.f, Option.bind_some, u8_of, L_def]
theorem idx_yes {l : List UInt8} {c : UInt8} (h : c ∈ l) : Lib.indexByte l c = ((l.takeWhile (fun x => !(x == c))).length : Int) ∧ (l.takeWhile (fun x => !(x == c))).length < l.length := by
  induction l with
  | nil => simp at h
  | cons b l ih =>
    by_cases hb : b = c
    · subst hb; simp [Lib.indexByte, List.takeWhile_cons]
    · have hm : c ∈ l := by
        rcases List.mem_cons.mp h with e | e
        · exact absurd e.symm hb
        · exact e
      obtain ⟨h1, h2⟩ := ih hm
      have hne : ¬ Lib.indexByte l c = -1 := by omega
      have hb' : (b == c) = false := by simpa using hb
      have hn' : (Lib.indexByte l c == -1) = false := by simpa using hne
      simp only [Lib.indexByte, hb', Bool.false_eq_true, if_false, hn', List.takeWhile_cons, Bool.not_false, if_true, List.length_cons]
      omega
theorem idx_no {l : List UInt8} {c : UInt8} (h : ¬ c ∈ l) : Lib.indexByte l c < 0 ∧ l.takeWhile (fun x => !(x == c)) = l := by
  constructor
  · have := indexByte_ge0 l c
    have : ¬ Lib.indexByte l c ≥ 0 := fun x => h (by simpa using this.mp x)
    omega
  · induction l with
    | nil => rfl
    | cons b l ih =>
      have h1 : ¬ b = c := fun e => h (by simp [e])
      have h2 := ih (fun e => h (by simp [e]))
      simp [List.takeWhile_cons, h1, h2]

theorem ends_some (c : UInt8) : lex_Ends.f (c.toNat : Int) = some ([32, 9, 10, 59, 38, 124, 40, 41, 60, 62].contains c) := by
  simp only [lex_Ends.f, idx_some, Option.bind_some]
  congr 1
  rw [Bool.eq_iff_iff, decide_eq_true_iff, indexByte_ge0]; rfl

theorem pre_some (s t : ByteArray) : strings_HasPrefix.f s t = some (decide ((L s).take (L t).length = L t)) := by
  simp only [strings_HasPrefix.f, stringslite_HasPrefix.f]
  have e1 := sz s
  have e2 := sz t
  by_cases h : (s.size : Int) ≥ (t.size : Int)
  · rw [if_pos h, if_pos (by omega), if_pos (by omega), Option.bind_some]
    congr 1
    rw [tl, tl, L_ext, Bool.eq_iff_iff]; simp [e2]
  · rw [if_neg h, Option.bind_some]
    congr 1
    rw [Eq.comm, decide_eq_false_iff_not]
    intro e; have := congrArg List.length e; simp at this; omega

/-- The operator at a place. -/
def operAt (s : ByteArray) (at_ : Int) : ByteArray × Bool :=
  if 0 ≤ at_ ∧ at_ < ((L s).length : Int) then (match opS ((L s).drop at_.toNat) with | some o => (mkB o, true) | none => (mkB [], false)) else (mkB [], false)
theorem opsL_ops : lex_ops.f = some (opsL.map mkB) := rfl
theorem op_some (s : ByteArray) (at_ : Int) (hs : (L s).length ≤ 1000000) : Ev (fun k => lex_Op.f k s at_) (operAt s at_) := by
  have e1 := sz s
  have out : ∀ b, b = true → Ev (fun k => lex_Op.j0 k s at_ b) (mkB [], false) := by
    intro b hb; subst hb
    refine Ev.step (fun k => by rw [lex_Op.j0]) (ev_pos rfl (ev_now ?_)); rfl
  show Ev (fun k => lex_Op.f k s at_) _
  unfold lex_Op.f operAt
  by_cases h1 : at_ < 0
  · rw [if_neg (by omega)]; exact ev_pos h1 (out _ rfl)
  · refine ev_neg h1 ?_
    by_cases h2 : at_ ≥ (s.size : Int)
    · rw [if_neg (by omega)]; exact out _ (decide_eq_true h2)
    · rw [if_pos (by omega), decide_eq_false h2]
      refine Ev.step (fun k => by rw [lex_Op.j0]) (ev_neg (by simp) ?_)
      rw [opsL_ops]; refine ev_some ?_
      have key : ∀ d n, opsL.length - n = d → n ≤ opsL.length → Ev (fun k => lex_Op.l0 k s at_ (opsL.map mkB) (((opsL.map mkB).length : Nat) : Int) (n : Int))
          (match (opsL.drop n).find? (fun o => ((L s).drop at_.toNat).take o.length == o) with | some o => (mkB o, true) | none => (mkB [], false)) := by
        have hlen : opsL.length = 17 := rfl
        intro d; induction d with
        | zero =>
          intro n hd hn
          have hn' : n = 17 := by omega
          subst hn'
          refine Ev.step (fun k => by rw [lex_Op.l0]) (ev_neg (by rw [List.length_map, hlen]; omega) (ev_now ?_)); rfl
        | succ d ih =>
          intro n hd hn
          have hlt : n < opsL.length := by omega
          refine Ev.step (fun k => by rw [lex_Op.l0]) ?_
          refine ev_pos (by rw [List.length_map]; omega) (ev_pos (by omega) (ev_pos (by rw [List.length_map]; omega) (ev_pos (by omega) (ev_pos (by omega) ?_))))
          simp only [rdOf_map hlt, pre_some, L_mkB]
          refine ev_some ?_
          have e2 : L (s.extract at_.toNat s.size) = (L s).drop at_.toNat := by rw [L_ext, e1]; simp
          rw [e2, List.drop_eq_getElem_cons hlt, List.find?_cons]
          by_cases hp : ((L s).drop at_.toNat).take (opsL[n]).length = opsL[n]
          · refine ev_pos (by simpa using hp) (ev_now ?_)
            rw [show (((L s).drop at_.toNat).take (opsL[n]).length == opsL[n]) = true by simpa using hp]
          · refine ev_neg (by simpa using hp) ?_
            rw [show (((L s).drop at_.toNat).take (opsL[n]).length == opsL[n]) = false by simpa using hp, w64s (by omega)]
            exact ih (n + 1) (by omega) (by omega)
      exact key _ 0 rfl (Nat.zero_le _)

/-- A place within a text. -/
def clamp (s : ByteArray) (at_ : Int) : Nat := (mn (mx at_ 0) (s.size : Int)).toNat
theorem clamp_is (s : ByteArray) (at_ : Int) : mn (mx at_ 0) (s.size : Int) = (clamp s at_ : Int) ∧ clamp s at_ ≤ (L s).length := by
  have := sz s; unfold clamp mn mx; (repeat' split) <;> omega

theorem skip_some (s : ByteArray) (at_ : Int) (hs : (L s).length ≤ 1000000) : Ev (fun k => lex_Skip.f k s at_) ((clamp s at_ + skipL ((L s).drop (clamp s at_)) : Nat) : Int) := by
  have e1 := sz s
  obtain ⟨hc, hcl⟩ := clamp_is s at_
  show Ev (fun k => lex_Skip.f k s at_) _
  unfold lex_Skip.f
  rw [hc]
  generalize clamp s at_ = n at *
  have key : ∀ d n, (L s).length - n = d → n ≤ (L s).length → Ev (fun k => lex_Skip.l0 k s (n : Int)) ((n + skipL ((L s).drop n) : Nat) : Int) := by
    intro d; induction d using Nat.strongRecOn with
    | _ d ih =>
      intro n hd hn
      refine Ev.step (fun k => by rw [lex_Skip.l0]) ?_
      by_cases hlt : n < (L s).length
      · refine ev_pos (by omega) (ev_pos (by omega) ?_)
        have hb := bt_n hlt
        have hdrop := List.drop_eq_getElem_cons hlt
        generalize hcc : (L s)[n] = c at *
        simp only [hb]
        have blank : c = 32 ∨ c = 9 → Ev (fun k => lex_Skip.j1 k s (n : Int) true) ((n + skipL ((L s).drop n) : Nat) : Int) := by
          intro h
          refine Ev.step (fun k => by rw [lex_Skip.j1]) (ev_pos rfl ?_)
          rw [w64s (by omega), hdrop, skip_blank _ _ h]
          have := ih _ (by omega) (n + 1) rfl (by omega)
          rw [show n + (1 + skipL ((L s).drop (n + 1))) = n + 1 + skipL ((L s).drop (n + 1)) by omega]; exact this
        by_cases h32 : c = 32
        · refine ev_pos (by rw [h32]; rfl) (blank (.inl h32))
        · refine ev_neg (fun e => h32 (u8_int.mp (by rw [e]; rfl))) ?_
          by_cases h9 : c = 9
          · rw [show ((c.toNat : Int) == 9) = true by rw [h9]; rfl]; exact blank (.inr h9)
          · rw [show ((c.toNat : Int) == 9) = false by rw [beq_eq_false_iff_ne]; exact fun e => h9 (u8_int.mp (by rw [e]; rfl))]
            refine Ev.step (fun k => by rw [lex_Skip.j1]) (ev_neg (by simp) (ev_pos (by omega) (ev_pos (by omega) ?_)))
            have e2 : L (s.extract ((n : Int)).toNat s.size) = (L s).drop n := by rw [L_ext, e1]; simp
            simp only [pre_some, e2]
            refine ev_some ?_
            have e3 : (List.take (L (⟨#[92, 10]⟩ : ByteArray)).length ((L s).drop n) = L (⟨#[92, 10]⟩ : ByteArray)) ↔ (c = 92 ∧ ∃ m, (L s).drop (n + 1) = 10 :: m) := by
              rw [L_lit, hdrop]
              cases (L s).drop (n + 1) with
              | nil => simp
              | cons d m => simp
            by_cases hj : c = 92 ∧ ∃ m, (L s).drop (n + 1) = 10 :: m
            · refine ev_pos (by rw [decide_eq_true_iff]; exact e3.mpr hj) ?_
              obtain ⟨h92, m, hm⟩ := hj
              have hl2 : n + 2 ≤ (L s).length := by have := congrArg List.length hm; simp at this; omega
              have hm2 : (L s).drop (n + 2) = m := by
                have : (L s).drop (n + 2) = ((L s).drop (n + 1)).drop 1 := by rw [List.drop_drop]
                rw [this, hm]; rfl
              have := ih _ (by omega) (n + 2) rfl (by omega)
              rw [w64 (by omega) (by omega), hdrop, h92, hm, skip_joined, ← hm2]
              rw [show n + (2 + skipL ((L s).drop (n + 2))) = n + 2 + skipL ((L s).drop (n + 2)) by omega]; exact this
            · refine ev_neg (by rw [decide_eq_true_iff]; exact fun h => hj (e3.mp h)) (ev_pos (by omega) ?_)
              by_cases h35 : c = 35
              · refine ev_pos (by rw [hb, h35]; rfl) ?_
                have hi := idx_some (s.extract ((n : Int)).toNat s.size) 10
                simp only [show ((10 : UInt8).toNat : Int) = 10 from rfl] at hi
                simp only [hi, e2]
                refine ev_some ?_
                rw [hdrop, h35, skip_comment, ← h35, ← hdrop]
                by_cases hm : (10 : UInt8) ∈ (L s).drop n
                · obtain ⟨h1, h2⟩ := idx_yes hm
                  have hle : (L s).length - n = ((L s).drop n).length := by simp
                  refine ev_neg (by omega) (ev_now ?_)
                  rw [h1, w64 (by omega) (by omega)]; omega
                · obtain ⟨h1, h2⟩ := idx_no hm
                  refine ev_pos h1 (ev_now ?_)
                  rw [h2]; simp; omega
              · refine ev_neg (fun e => h35 (u8_int.mp (by rw [← hb, e]; rfl))) (ev_now ?_)
                rw [hdrop, skip_other c _ (fun h => h.elim h32 h9) h35 hj]; simp
      · refine ev_neg (by omega) (ev_now ?_)
        rw [List.drop_of_length_le (by omega)]; simp [skipL]
  exact key _ n rfl hcl

/-- What stands between two quotes. -/
def singleAt (s : ByteArray) (at_ : Int) : ByteArray × Int × Bool :=
  if 0 ≤ at_ ∧ at_ < ((L s).length : Int) ∧ bt s at_ = 39 ∧ (39 : UInt8) ∈ (L s).drop (at_.toNat + 1) then
    (mkB (((L s).drop (at_.toNat + 1)).takeWhile (fun x => !(x == 39))), at_ + ((((L s).drop (at_.toNat + 1)).takeWhile (fun x => !(x == 39))).length : Int) + 2, true) else (mkB [], 0, false)
theorem single_some (s : ByteArray) (at_ : Int) (hs : (L s).length ≤ 1000000) : Ev (fun k => lex_Single.f k s at_) (singleAt s at_) := by
  have e1 := sz s
  have out : ∀ b, b = true → Ev (fun k => lex_Single.j0 k s at_ b) (mkB [], 0, false) := by
    intro b hb; subst hb
    refine Ev.step (fun k => by rw [lex_Single.j0]) (ev_pos rfl (ev_now ?_)); rfl
  show Ev (fun k => lex_Single.f k s at_) _
  unfold lex_Single.f singleAt
  by_cases h1 : at_ < 0
  · rw [if_neg (by omega)]; exact ev_pos h1 (out _ rfl)
  · refine ev_neg h1 ?_
    by_cases h2 : at_ ≥ (s.size : Int)
    · rw [if_neg (by omega)]; exact ev_pos h2 (out _ rfl)
    · refine ev_neg h2 (ev_pos (by omega) (ev_pos (by omega) ?_))
      by_cases h3 : bt s at_ = 39
      · rw [show (bt s at_ != 39) = false by simp [h3]]
        have hw : wrap64 (at_ + 1) = at_ + 1 := w64 (by omega) (by omega)
        have hi := idx_some (s.extract ((at_ + 1)).toNat s.size) 39
        simp only [show ((39 : UInt8).toNat : Int) = 39 from rfl] at hi
        have e2 : L (s.extract ((at_ + 1)).toNat s.size) = (L s).drop (at_.toNat + 1) := by rw [L_ext, e1, show (at_ + 1).toNat = at_.toNat + 1 by omega]; simp
        rw [e2] at hi
        refine Ev.step (fun k => by rw [lex_Single.j0]) ?_
        simp only [hw, hi]
        refine ev_neg (by simp) (ev_pos (by omega) (ev_pos (by omega) (ev_some ?_)))
        by_cases hm : (39 : UInt8) ∈ (L s).drop (at_.toNat + 1)
        · obtain ⟨g1, g2⟩ := idx_yes hm
          have hc : 0 ≤ at_ ∧ at_ < ((L s).length : Int) ∧ bt s at_ = 39 ∧ (39 : UInt8) ∈ (L s).drop (at_.toNat + 1) := ⟨by omega, by omega, h3, hm⟩
          simp only [if_pos hc]
          have hle : ((L s).drop (at_.toNat + 1)).length = (L s).length - (at_.toNat + 1) := by simp
          have htk : (L s).drop (at_.toNat + 1) = ((L s).drop (at_.toNat + 1)).takeWhile (fun x => !(x == 39)) ++ ((L s).drop (at_.toNat + 1)).dropWhile (fun x => !(x == 39)) := List.takeWhile_append_dropWhile.symm
          generalize hq : ((L s).drop (at_.toNat + 1)).takeWhile (fun x => !(x == 39)) = q at *
          rw [g1, w64 (n := at_ + 1 + (q.length : Int)) (by omega) (by omega), w64 (n := at_ + (q.length : Int)) (by omega) (by omega), w64 (n := at_ + (q.length : Int) + 2) (by omega) (by omega)]
          refine ev_neg (by omega) (ev_pos (by omega) (ev_pos (by omega) (ev_now ?_)))
          have : s.extract (at_ + 1).toNat (at_ + 1 + (q.length : Int)).toNat = mkB q := by
            rw [ext_mkB, mkB_iff, show (at_ + 1).toNat = at_.toNat + 1 by omega, show (at_ + 1 + (q.length : Int)).toNat = at_.toNat + 1 + q.length by omega, ← List.take_drop, htk]; simp
          rw [this]
        · obtain ⟨g1, g2⟩ := idx_no hm
          have hc : ¬ (0 ≤ at_ ∧ at_ < ((L s).length : Int) ∧ bt s at_ = 39 ∧ (39 : UInt8) ∈ (L s).drop (at_.toNat + 1)) := fun h => hm h.2.2.2
          simp only [if_neg hc]
          exact ev_pos g1 (ev_now rfl)
      · rw [if_neg (by rintro ⟨_, _, h, _⟩; exact h3 h)]
        exact out _ (by simpa using h3)

theorem contains_some (xs : List (List UInt8)) (v : ByteArray) (hx : xs.length ≤ 1000) : Ev (fun k => slices_Contains_string_string.f k (xs.map mkB) v) (xs.contains (L v)) := by
  have key : ∀ d n, xs.length - n = d → n ≤ xs.length → ∃ r : Int, Ev (fun k => slices_Index_string_string.l0 k (xs.map mkB) v (((xs.map mkB).length : Nat) : Int) (n : Int)) r ∧ decide (r ≥ 0) = (xs.drop n).contains (L v) := by
    intro d; induction d with
    | zero =>
      intro n hd hn
      refine ⟨-1, Ev.step (fun k => by rw [slices_Index_string_string.l0]) (ev_neg (by rw [List.length_map]; omega) (ev_now rfl)), ?_⟩
      rw [List.drop_of_length_le (by omega)]; rfl
    | succ d ih =>
      intro n hd hn
      have hlt : n < xs.length := by omega
      rw [List.drop_eq_getElem_cons hlt, List.contains_cons]
      by_cases h : L v = xs[n]
      · refine ⟨(n : Int), Ev.step (fun k => by rw [slices_Index_string_string.l0]) (ev_pos (by rw [List.length_map]; omega) (ev_pos (by omega) (ev_pos (by rw [List.length_map]; omega) ?_))), ?_⟩
        · simp only [rdOf_map hlt, tl_mkB]; exact ev_pos (by rw [tl]; exact h) (ev_now rfl)
        · rw [h]; simp
      · obtain ⟨r, hr, e⟩ := ih (n + 1) (by omega) (by omega)
        refine ⟨r, Ev.step (fun k => by rw [slices_Index_string_string.l0]) (ev_pos (by rw [List.length_map]; omega) (ev_pos (by omega) (ev_pos (by rw [List.length_map]; omega) ?_))), ?_⟩
        · simp only [rdOf_map hlt, tl_mkB]; refine ev_neg (by rw [tl]; exact h) ?_
          rw [w64s (by omega)]; exact hr
        · rw [e, show (L v == xs[n]) = false by simpa using h, Bool.false_or]
  obtain ⟨r, hr, e⟩ := key _ 0 rfl (Nat.zero_le _)
  refine Ev.bind (f := fun _ t => some (decide (t ≥ 0))) hr (ev_now ?_)
  rw [e]; rfl

def reservedL : List (List UInt8) := [[105, 102], [116, 104, 101, 110], [101, 108, 115, 101], [101, 108, 105, 102], [102, 105], [119, 104, 105, 108, 101], [117, 110, 116, 105, 108], [100, 111], [100, 111, 110, 101], [102, 111, 114], [99, 97, 115, 101], [101, 115, 97, 99], [105, 110], [123], [125], [33]]
theorem reserved_some (s : ByteArray) : Ev (fun k => lex_Reserved.f k s) (reservedL.contains (L s)) :=
  Ev.bind (contains_some reservedL s (by decide)) (Ev.now _)

/-! ### the document's -/
theorem chain {l x : List UInt8} {r : Option Bool} {b : Bool} (h : r = some b) : (if l = x then some true else r) = some (l == x || b) := by
  by_cases e : l = x
  · simp [e]
  · rw [if_neg e, h, show (l == x) = false by simpa using e, Bool.false_or]
theorem rreserved_some (s : ByteArray) : conchref1_Reserved.f s = some (reservedL.contains (L s)) := by
  unfold conchref1_Reserved.f
  simp only [tl, reservedL, List.contains_cons, List.contains_nil]
  generalize L s = l
  exact chain (chain (chain (chain (chain (chain (chain (chain (chain (chain (chain (chain (chain (chain (chain (chain rfl)))))))))))))))
theorem rin_some (s : ByteArray) (c : UInt8) (hs : (L s).length ≤ 1000000) : Ev (fun k => conchref1_in.f k s (c.toNat : Int)) (mem s c) := by
  have key : ∀ d n, (L s).length - n = d → n ≤ (L s).length → Ev (fun k => conchref1_in.l0 k s (c.toNat : Int) (n : Int)) (((L s).drop n).contains c) := by
    intro d; induction d with
    | zero =>
      intro n hd hn
      refine Ev.step (fun k => by rw [conchref1_in.l0]) ?_
      exact ev_neg (by rw [sz]; omega) (ev_now (by rw [List.drop_of_length_le (by omega)]; rfl))
    | succ d ih =>
      intro n hd hn
      have hlt : n < (L s).length := by omega
      refine Ev.step (fun k => by rw [conchref1_in.l0]) ?_
      refine ev_pos (by rw [sz]; omega) (ev_pos (by omega) ?_)
      rw [List.drop_eq_getElem_cons hlt]
      by_cases h : (L s)[n] = c
      · exact ev_pos (by rw [bt_n hlt, h]) (ev_now (by simp [h]))
      · refine ev_neg (by rw [bt_n hlt, u8_int]; exact h) ?_
        rw [w64s (by omega)]
        have := ih (n + 1) (by omega) (by omega)
        have h' : (c == (L s)[n]) = false := by simpa using fun e => h (Eq.symm e)
        rw [List.contains_cons, h', Bool.false_or]; exact this
  have := key _ 0 rfl (Nat.zero_le _)
  show Ev (fun k => conchref1_in.l0 k s (c.toNat : Int) 0) ((L s).contains c)
  simpa using this
theorem rends_some (c : UInt8) : Ev (fun k => conchref1_Ends.f k (c.toNat : Int)) ([32, 9, 10, 59, 38, 124, 40, 41, 60, 62].contains c) :=
  Ev.bind (rin_some _ c (by decide)) (Ev.now _)

theorem rop_some (s : ByteArray) (at_ : Int) (hs : (L s).length ≤ 1000000) : Ev (fun k => conchref1_Op.f k s at_) (operAt s at_) := by
  have e1 := sz s
  have out : ∀ b, b = true → Ev (fun k => conchref1_Op.j0 k s at_ b) (mkB [], false) := by
    intro b hb; subst hb
    refine Ev.step (fun k => by rw [conchref1_Op.j0]) (ev_pos rfl (ev_now ?_)); rfl
  show Ev (fun k => conchref1_Op.f k s at_) _
  unfold conchref1_Op.f operAt
  by_cases h1 : at_ < 0
  · rw [if_neg (by omega)]; exact ev_pos h1 (out _ rfl)
  · refine ev_neg h1 ?_
    by_cases h2 : at_ ≥ (s.size : Int)
    · rw [if_neg (by omega)]; exact out _ (decide_eq_true h2)
    · rw [if_pos (by omega), decide_eq_false h2]
      have e2 : s.extract at_.toNat s.size = mkB ((L s).drop at_.toNat) := by rw [ext_mkB, e1]; simp
      have hlen : ((L s).drop at_.toNat).length = (L s).length - at_.toNat := by simp
      refine Ev.step (fun k => by rw [conchref1_Op.j0]) (ev_neg (by simp) ?_)
      simp only [e2]
      generalize (L s).drop at_.toNat = r at *
      obtain ⟨c, m, rfl⟩ : ∃ c m, r = c :: m := by
        cases r with
        | nil => simp at hlen; omega
        | cons c m => exact ⟨c, m, rfl⟩
      refine ev_pos (by omega) (ev_pos (by omega) (ev_pos (by rw [sz_mkB]; simp at hlen ⊢; omega) (ev_pos (by decide) (ev_pos (by rw [sz, L_app, L_mkB]; simp [L_lit]; omega) ?_))))
      have e3 : mkB (c :: m) ++ (⟨#[32]⟩ : ByteArray) = mkB (c :: m ++ [32]) := by rw [app_mkB, L_mkB, L_lit]
      obtain ⟨d, m', hd⟩ : ∃ d m', m ++ [32] = d :: m' := by
        cases m with
        | nil => exact ⟨32, [], rfl⟩
        | cons d m' => exact ⟨d, m' ++ [32], rfl⟩
      have e4 : (mkB (c :: m) ++ (⟨#[32]⟩ : ByteArray)).extract 0 2 = mkB [c, d] := by rw [ext_mkB, e3, L_mkB, List.cons_append, hd]; rfl
      have e5 : (mkB (c :: m) ++ (⟨#[32]⟩ : ByteArray)).extract 0 1 = mkB [c] := by rw [ext_mkB, e3, L_mkB, List.cons_append, hd]; rfl
      have hsz : (((mkB (c :: m) ++ (⟨#[32]⟩ : ByteArray)).size : Nat) : Int) ≥ 2 := by rw [e3, sz_mkB, List.cons_append, hd]; simp; omega
      have hop : opS (c :: m) = if doubles.contains [c, d] then some [c, d] else if singles.contains c then some [c] else none := by
        cases m with
        | nil =>
          have : d = 32 := by simp at hd; exact hd.1.symm
          subst this
          rw [opS_one]
          have : doubles.contains [c, 32] = false := by
            rw [Bool.eq_false_iff]; intro h
            have : [c, 32] ∈ doubles := by simpa using h
            simp [doubles] at this
          rw [this]; rfl
        | cons x m' =>
          have : d = x := by simp at hd; exact hd.1.symm
          subst this
          exact opS_two c d m'
      have yes : doubles.contains [c, d] = true → Ev (fun k => conchref1_Op.j1 k (mkB (c :: m) ++ (⟨#[32]⟩ : ByteArray)) true) (match opS (c :: m) with | some o => (mkB o, true) | none => (mkB [], false)) := by
        intro h
        refine Ev.step (fun k => by rw [conchref1_Op.j1]) (ev_pos rfl (ev_pos (by decide) (ev_pos (by omega) (ev_now ?_))))
        rw [e4, hop, if_pos h]
      have no : doubles.contains [c, d] = false → Ev (fun k => conchref1_Op.j1 k (mkB (c :: m) ++ (⟨#[32]⟩ : ByteArray)) false) (match opS (c :: m) with | some o => (mkB o, true) | none => (mkB [], false)) := by
        intro h
        have hb : bt (mkB (c :: m) ++ (⟨#[32]⟩ : ByteArray)) 0 = (c.toNat : Int) := bt_0 (s := mkB (c :: m) ++ (⟨#[32]⟩ : ByteArray)) (c := c) (m := m ++ [32]) (by rw [e3, L_mkB]; rfl)
        refine Ev.step (fun k => by rw [conchref1_Op.j1]) (ev_neg (by simp) (ev_pos (by omega) ?_))
        simp only [hb]
        refine Ev.bind (rin_some _ c (by decide)) ?_
        rw [hop, h]
        have hs : mem (⟨#[59, 124, 38, 40, 41, 60, 62, 10]⟩ : ByteArray) c = singles.contains c := rfl
        rw [hs]
        by_cases hc : singles.contains c = true
        · refine ev_pos hc (ev_pos (by decide) (ev_pos (by omega) (ev_now ?_)))
          rw [e5, hc]; rfl
        · refine ev_neg hc (ev_now ?_)
          rw [if_neg (by simp), if_neg hc]; rfl
      simp only [e4, tl_mkB]
      by_cases hdd : doubles.contains [c, d] = true
      · have := yes hdd
        simp only [doubles, List.contains_cons, List.contains_nil, Bool.or_false, Bool.or_eq_true, beq_iff_eq] at hdd
        rcases hdd with h | h | h | h | h | h | h | h | h <;> (rw [h]; (repeat' first | exact this | refine ev_pos rfl ?_ | refine ev_neg (by decide) ?_))
      · have hdf : doubles.contains [c, d] = false := by simpa using hdd
        have := no hdf
        simp only [doubles, List.contains_cons, List.contains_nil, Bool.or_false, Bool.or_eq_true, beq_iff_eq, not_or] at hdd
        obtain ⟨g1, g2, g3, g4, g5, g6, g7, g8, g9⟩ := hdd
        refine ev_neg g1 (ev_neg g2 (ev_neg g3 (ev_neg g4 (ev_neg g5 (ev_neg g6 (ev_neg g7 (ev_neg g8 ?_)))))))
        rw [show ([c, d] == ([62, 124] : List UInt8)) = false by simpa using g9]
        exact this

theorem rskip_some (s : ByteArray) (at_ : Int) (hs : (L s).length ≤ 1000000) : Ev (fun k => conchref1_Skip.f k s at_) ((clamp s at_ + skipL ((L s).drop (clamp s at_)) : Nat) : Int) := by
  have e1 := sz s
  obtain ⟨hc, hcl⟩ := clamp_is s at_
  show Ev (fun k => conchref1_Skip.f k s at_) _
  unfold conchref1_Skip.f
  rw [hc]
  generalize clamp s at_ = n at *
  have comment : ∀ d n, (L s).length - n = d → n ≤ (L s).length → Ev (fun k => conchref1_Skip.l1 k s (n : Int)) ((n + (((L s).drop n).takeWhile (fun x => !(x == 10))).length : Nat) : Int) := by
    intro d; induction d with
    | zero =>
      intro n hd hn
      refine Ev.step (fun k => by rw [conchref1_Skip.l1]) (ev_neg (by omega) (ev_now ?_))
      rw [List.drop_of_length_le (by omega)]; simp
    | succ d ih =>
      intro n hd hn
      have hlt : n < (L s).length := by omega
      refine Ev.step (fun k => by rw [conchref1_Skip.l1]) (ev_pos (by omega) (ev_pos (by omega) ?_))
      rw [bt_n hlt, List.drop_eq_getElem_cons hlt, List.takeWhile_cons]
      by_cases h : (L s)[n] = 10
      · refine ev_pos (by rw [h]; rfl) (ev_now ?_)
        rw [h]; simp
      · refine ev_neg (fun e => h (u8_int.mp (by rw [e]; rfl))) ?_
        rw [show (!((L s)[n] == 10)) = true by simpa using h, if_pos rfl, w64s (by omega), List.length_cons]
        have := ih (n + 1) (by omega) (by omega)
        rw [show n + ((((L s).drop (n + 1)).takeWhile (fun x => !(x == 10))).length + 1) = n + 1 + (((L s).drop (n + 1)).takeWhile (fun x => !(x == 10))).length by omega]; exact this
  have key : ∀ d n, (L s).length - n = d → n ≤ (L s).length → Ev (fun k => conchref1_Skip.l0 k s (n : Int)) ((n + skipL ((L s).drop n) : Nat) : Int) := by
    intro d; induction d using Nat.strongRecOn with
    | _ d ih =>
      intro n hd hn
      refine Ev.step (fun k => by rw [conchref1_Skip.l0]) ?_
      by_cases hlt : n < (L s).length
      · refine ev_pos (by omega) (ev_pos (by omega) ?_)
        have hb := bt_n hlt
        have hdrop := List.drop_eq_getElem_cons hlt
        generalize hcc : (L s)[n] = c at *
        simp only [hb]
        have blank : c = 32 ∨ c = 9 → Ev (fun k => conchref1_Skip.j1 k s (n : Int) true) ((n + skipL ((L s).drop n) : Nat) : Int) := by
          intro h
          refine Ev.step (fun k => by rw [conchref1_Skip.j1]) (ev_pos rfl ?_)
          rw [w64s (by omega), hdrop, skip_blank _ _ h]
          have := ih _ (by omega) (n + 1) rfl (by omega)
          rw [show n + (1 + skipL ((L s).drop (n + 1))) = n + 1 + skipL ((L s).drop (n + 1)) by omega]; exact this
        by_cases h32 : c = 32
        · refine ev_pos (by rw [h32]; rfl) (blank (.inl h32))
        · refine ev_neg (fun e => h32 (u8_int.mp (by rw [e]; rfl))) ?_
          by_cases h9 : c = 9
          · rw [show ((c.toNat : Int) == 9) = true by rw [h9]; rfl]; exact blank (.inr h9)
          · rw [show ((c.toNat : Int) == 9) = false by rw [beq_eq_false_iff_ne]; exact fun e => h9 (u8_int.mp (by rw [e]; rfl))]
            have tail : ¬ (c = 92 ∧ ∃ m, (L s).drop (n + 1) = 10 :: m) → Ev (fun k => conchref1_Skip.j2 k s (n : Int) false) ((n + skipL ((L s).drop n) : Nat) : Int) := by
              intro hj
              refine Ev.step (fun k => by rw [conchref1_Skip.j2]) (ev_neg (by simp) (ev_pos (by omega) (ev_pos (by omega) ?_)))
              simp only [hb]
              by_cases h35 : c = 35
              · refine ev_pos (by rw [h35]; rfl) ?_
                rw [hdrop, h35, skip_comment, ← h35, ← hdrop]
                exact comment _ n rfl hn
              · refine ev_neg (fun e => h35 (u8_int.mp (by rw [e]; rfl))) (ev_now ?_)
                rw [hdrop, skip_other c _ (fun h => h.elim h32 h9) h35 hj]; simp
            refine Ev.step (fun k => by rw [conchref1_Skip.j1]) (ev_neg (by simp) (ev_pos (by omega) (ev_pos (by omega) ?_)))
            simp only [hb, w64s (n := n) (by omega)]
            by_cases h92 : c = 92
            · refine ev_pos (by rw [h92]; rfl) ?_
              by_cases hl1 : n + 1 < (L s).length
              · refine ev_pos (by omega) (ev_pos (by omega) ?_)
                have hb2 := bt_n hl1
                have hdrop2 := List.drop_eq_getElem_cons hl1
                rw [hb2]
                by_cases h10 : (L s)[n + 1] = 10
                · rw [show ((((L s)[n + 1]).toNat : Int) == 10) = true by rw [h10]; rfl]
                  refine Ev.step (fun k => by rw [conchref1_Skip.j2]) (ev_pos rfl ?_)
                  have := ih _ (by omega) (n + 2) rfl (by omega)
                  rw [w64 (by omega) (by omega), hdrop, h92, hdrop2, h10, skip_joined]
                  rw [show n + 1 + 1 = n + 2 from rfl, show n + (2 + skipL ((L s).drop (n + 2))) = n + 2 + skipL ((L s).drop (n + 2)) by omega]; exact this
                · rw [show ((((L s)[n + 1]).toNat : Int) == 10) = false by rw [beq_eq_false_iff_ne]; exact fun e => h10 (u8_int.mp (by rw [e]; rfl))]
                  refine tail ?_
                  rintro ⟨_, m, hm⟩; rw [hdrop2] at hm; exact h10 (List.cons.inj hm).1
              · refine ev_neg (by omega) (tail ?_)
                rintro ⟨_, m, hm⟩; rw [List.drop_of_length_le (by omega)] at hm; cases hm
            · refine ev_neg (fun e => h92 (u8_int.mp (by rw [e]; rfl))) (tail (fun h => h92 h.1))
      · refine ev_neg (by omega) (ev_now ?_)
        rw [List.drop_of_length_le (by omega)]; simp [skipL]
  exact key _ n rfl hcl

theorem awake_some : Ev (fun k => conchlaw9_awake.f k) true := by
  refine Ev.of (fun k => conchlaw9_awake.mono k) (k := 60) ?_
  decide +kernel
end Go.Proofs.Ytemdfhadijdddaa.LexC
