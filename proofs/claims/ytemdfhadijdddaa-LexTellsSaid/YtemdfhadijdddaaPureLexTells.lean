/- Blanks, comments, operators, quoted rows, ends of words and reserved words are told as the document says, from any place of any bytes: the plain statement. -/
import Derived.Test.YtemdfhadijdddaaPAllx5
import Derived.Test.YtemdfhadijdddaaLexC
namespace Go.Proofs.Ytemdfhadijdddaa.Pure
open Go.RowKit Go.Proofs.Ytemdfhadijdddaa.PAll Go.Proofs.YtemdfhadijdddaaW.PrintWords Go.Proofs.YtemdfhadijdddaaW.PrintLast Go.Proofs.Ytemdfhadijdddaa.B Go.Proofs.Ytemdfhadijdddaa.LexL Go.Proofs.Ytemdfhadijdddaa.LexC
set_option linter.unusedVariables false
set_option linter.unusedSimpArgs false

/-- All is told alike: the next turn. -/
theorem tells_fin (s : ByteArray) (at_ : Int) (c : UInt8) (i : Nat) (hi : i < 2) (hs : (L s).length ≤ 300) (t : ByteArray) (e : Int) (b : Bool) (q : Int)
    (next : ∀ a, 0 ≤ a → a ≤ 300 → Ev (fun k => conchlaw9_LexTells.l0 k s a (c.toNat : Int) ((i + 1 : Nat) : Int)) true) :
    Ev (fun k => conchlaw9_LexTells.j4 k s at_ (c.toNat : Int) (i : Int) t e b t e b q false) true := by
  have e1 := sz s
  have hw : wrap64 ((s.size : Int) + 1) = (s.size : Int) + 1 := w64 (by omega) (by omega)
  refine Ev.step (fun k => by rw [conchlaw9_LexTells.j4]) (ev_neg (by simp) (ev_pos rfl (ev_pos rfl (ev_neg (by simp) ?_))))
  simp only [hw]
  refine ev_neg (by omega) ?_
  rw [w64s (by omega), bits_and65535]
  have h0 : 0 ≤ at_ % 65536 := Int.emod_nonneg _ (by decide)
  rw [Int.tmod_eq_emod_of_nonneg h0]
  have h1 : 0 ≤ at_ % 65536 % ((s.size : Int) + 1) := Int.emod_nonneg _ (by omega)
  have h2 : at_ % 65536 % ((s.size : Int) + 1) < (s.size : Int) + 1 := Int.emod_lt_of_pos _ (by omega)
  exact next _ h1 (by omega)

theorem tells_fin2 (s : ByteArray) (at_ : Int) (c : UInt8) (i : Nat) (hi : i < 2) (hs : (L s).length ≤ 300) (t : ByteArray) (e : Int) (b : Bool)
    (next : ∀ a, 0 ≤ a → a ≤ 300 → Ev (fun k => conchlaw9_LexTells.l0 k s a (c.toNat : Int) ((i + 1 : Nat) : Int)) true) :
    Ev (fun k => conchlaw9_LexTells.j2 k s at_ (c.toNat : Int) (i : Int) t e b t e b false) true := by
  have e1 := sz s
  have hw : wrap64 ((s.size : Int) + 1) = (s.size : Int) + 1 := w64 (by omega) (by omega)
  refine Ev.step (fun k => by rw [conchlaw9_LexTells.j2]) (ev_neg (by simp) (ev_pos rfl (ev_pos rfl (ev_neg (by simp) ?_))))
  simp only [hw]
  refine ev_neg (by omega) ?_
  rw [w64s (by omega), bits_and65535]
  have h0 : 0 ≤ at_ % 65536 := Int.emod_nonneg _ (by decide)
  rw [Int.tmod_eq_emod_of_nonneg h0]
  have h1 : 0 ≤ at_ % 65536 % ((s.size : Int) + 1) := Int.emod_nonneg _ (by omega)
  have h2 : at_ % 65536 % ((s.size : Int) + 1) < (s.size : Int) + 1 := Int.emod_lt_of_pos _ (by omega)
  exact next _ h1 (by omega)

/-- The next quote is looked for. -/
theorem tells_seek (s : ByteArray) (n : Nat) (hn : n < (L s).length) (hq : bt s (n : Int) = 39) (c : UInt8) (i : Nat) (hi : i < 2) (hs : (L s).length ≤ 300)
    (next : ∀ a, 0 ≤ a → a ≤ 300 → Ev (fun k => conchlaw9_LexTells.l0 k s a (c.toNat : Int) ((i + 1 : Nat) : Int)) true) (d : Nat) :
    ∀ q, (L s).length - q = d → n + 1 ≤ q → q ≤ (L s).length → (∀ x ∈ ((L s).take q).drop (n + 1), ¬ x = 39) →
      Ev (fun k => conchlaw9_LexTells.l1 k s (n : Int) (c.toNat : Int) (i : Int) (singleAt s (n : Int)).1 (singleAt s (n : Int)).2.1 (singleAt s (n : Int)).2.2 (mkB []) 0 false (q : Int)) true := by
  have e1 := sz s
  induction d with
  | zero =>
    intro q hd h1 h2 hno
    have hno' : ¬ (39 : UInt8) ∈ (L s).drop (n + 1) := by
      intro h; rw [List.take_of_length_le (by omega)] at hno; exact hno _ h rfl
    have hsg : singleAt s (n : Int) = (mkB [], 0, false) := by
      unfold singleAt; rw [if_neg]; rintro ⟨_, _, _, h⟩; simp only [Int.toNat_natCast] at h; exact hno' h
    refine Ev.step (fun k => by rw [conchlaw9_LexTells.l1]) (ev_neg (by omega) ?_)
    rw [hsg]
    exact tells_fin s _ c i hi hs _ _ _ _ next
  | succ d ih =>
    intro q hd h1 h2 hno
    have hlt : q < (L s).length := by omega
    refine Ev.step (fun k => by rw [conchlaw9_LexTells.l1]) (ev_pos (by omega) ?_)
    refine Ev.step (fun k => by rw [conchlaw9_LexTells.j4]) (ev_pos (by simp) (ev_pos (by omega) (ev_pos (by omega) ?_)))
    rw [bt_n hlt]
    have hsplit : (L s).drop (n + 1) = ((L s).take q).drop (n + 1) ++ (L s).drop q := by
      conv => lhs; rw [← List.take_append_drop q (L s)]
      rw [List.drop_append_of_le_length (by simp; omega)]
    by_cases h39 : (L s)[q] = 39
    · refine ev_pos (by rw [h39]; rfl) ?_
      have hw1 : wrap64 ((n : Int) + 1) = ((n + 1 : Nat) : Int) := w64s (by omega)
      have hw2 : wrap64 ((q : Int) + 1) = ((q + 1 : Nat) : Int) := w64s (by omega)
      simp only [hw1, hw2]
      refine ev_pos (by omega) (ev_pos (by omega) (ev_pos (by omega) ?_))
      have htw : ((L s).drop (n + 1)).takeWhile (fun x => !(x == 39)) = ((L s).take q).drop (n + 1) := by
        rw [hsplit, List.drop_eq_getElem_cons hlt, h39]
        have : ∀ (a b : List UInt8), (∀ x ∈ a, ¬ x = 39) → (a ++ (39 : UInt8) :: b).takeWhile (fun x => !(x == 39)) = a := by
          intro a b ha; induction a with
          | nil => simp [List.takeWhile_cons]
          | cons x a iha => rw [List.cons_append, List.takeWhile_cons, if_pos (by simpa using ha x (by simp)), iha (fun y hy => ha y (List.mem_cons_of_mem _ hy))]
        exact this _ _ hno
      have hmem : (39 : UInt8) ∈ (L s).drop (n + 1) := by
        rw [hsplit, List.drop_eq_getElem_cons hlt, h39]; simp
      have hsg : singleAt s (n : Int) = (mkB (((L s).take q).drop (n + 1)), ((q + 1 : Nat) : Int), true) := by
        unfold singleAt
        rw [if_pos ⟨by omega, by omega, hq, by simpa using hmem⟩]
        simp only [Int.toNat_natCast]
        rw [htw]; simp; omega
      rw [hsg]
      have hext : s.extract ((n + 1 : Nat) : Int).toNat ((q : Int)).toNat = mkB (((L s).take q).drop (n + 1)) := by rw [ext_mkB]; rfl
      rw [hext]
      refine Ev.step (fun k => by rw [conchlaw9_LexTells.l1]) ?_
      by_cases hend : ((q + 1 : Nat) : Int) < (s.size : Int)
      · exact ev_pos hend (tells_fin s _ c i hi hs _ _ _ _ next)
      · exact ev_neg hend (tells_fin s _ c i hi hs _ _ _ _ next)
    · refine ev_neg (fun e => h39 (u8_int.mp (by rw [e]; rfl))) ?_
      rw [w64s (by omega)]
      refine ih (q + 1) (by omega) (by omega) (by omega) ?_
      intro x hx
      rw [List.take_succ_eq_append_getElem hlt, List.drop_append_of_le_length (by simp; omega)] at hx
      rcases List.mem_append.mp hx with h | h
      · exact hno x h
      · simp at h; rw [h]; exact h39

theorem tells_turn (d : Nat) : ∀ (i : Nat) (s : ByteArray) (at_ : Int) (c : UInt8), 2 - i = d → i ≤ 2 → (L s).length ≤ 300 → Ev (fun k => conchlaw9_LexTells.l0 k s at_ (c.toNat : Int) (i : Int)) true := by
  induction d with
  | zero =>
    intro i s at_ c hd hi hs
    refine Ev.step (fun k => by rw [conchlaw9_LexTells.l0]) (ev_neg (by omega) ?_)
    simp only [ends_some, rreserved_some]
    refine ev_some (Ev.bind (rends_some c) (ev_pos (by simp) (Ev.bind (reserved_some s) (ev_some (ev_pos (by simp) (Ev.bind awake_some (Ev.now _)))))))
  | succ d ih =>
    intro i s at_ c hd hi hs
    have e1 := sz s
    have next : ∀ a, 0 ≤ a → a ≤ 300 → Ev (fun k => conchlaw9_LexTells.l0 k s a (c.toNat : Int) ((i + 1 : Nat) : Int)) true := fun a _ _ => ih (i + 1) s a c (by omega) (by omega) hs
    refine Ev.step (fun k => by rw [conchlaw9_LexTells.l0]) (ev_pos (by omega) ?_)
    refine Ev.bind (op_some s at_ (by omega)) (Ev.bind (rop_some s at_ (by omega)) (ev_pos rfl (ev_neg (by simp) ?_)))
    refine Ev.bind (skip_some s at_ (by omega)) (Ev.bind (rskip_some s at_ (by omega)) ?_)
    simp only [bne_self_eq_false]
    refine Ev.step (fun k => by rw [conchlaw9_LexTells.j1]) (ev_neg (by simp) ?_)
    refine Ev.bind (single_some s at_ (by omega)) ?_
    have out : (¬ (0 ≤ at_ ∧ at_ < ((L s).length : Int) ∧ bt s at_ = 39)) → Ev (fun k => conchlaw9_LexTells.j2 k s at_ (c.toNat : Int) (i : Int) (singleAt s at_).1 (singleAt s at_).2.1 (singleAt s at_).2.2 ⟨#[]⟩ 0 false false) true := by
      intro h
      have hsg : singleAt s at_ = (mkB [], 0, false) := by unfold singleAt; rw [if_neg]; rintro ⟨a, b, c, _⟩; exact h ⟨a, b, c⟩
      rw [hsg]; exact tells_fin2 s at_ c i (by omega) hs _ _ _ next
    by_cases h1 : at_ ≥ 0
    · refine ev_pos h1 ?_
      by_cases h2 : at_ < (s.size : Int)
      · refine ev_pos h2 (ev_pos h1 ?_)
        by_cases h3 : bt s at_ = 39
        · rw [show (bt s at_ == 39) = true by simpa using h3]
          obtain ⟨n, rfl⟩ : ∃ n : Nat, at_ = (n : Int) := ⟨at_.toNat, by omega⟩
          refine Ev.step (fun k => by rw [conchlaw9_LexTells.j2]) (ev_pos rfl ?_)
          rw [w64s (by omega)]
          exact tells_seek s n (by omega) h3 c i (by omega) hs next _ (n + 1) rfl (Nat.le_refl _) (by omega) (by
            intro x hx; rw [List.drop_of_length_le (by simp; omega)] at hx; simp at hx)
        · rw [show (bt s at_ == 39) = false by simpa using h3]
          exact out (fun h => h3 h.2.2)
      · exact ev_neg h2 (out (fun h => h2 (by omega)))
    · exact ev_neg h1 (out (fun h => h1 h.1))

theorem LexTells : conchlaw9_LexTells.Pure := by
  intro s at_ c hs ha hc
  obtain ⟨u, rfl⟩ := u8_wf hc
  refine ev_ex (r := true) ?_
  show Ev (fun k => conchlaw9_LexTells.f k s at_ (u.toNat : Int)) true
  unfold conchlaw9_LexTells.f
  by_cases h1 : (s.size : Int) > 300
  · exact ev_pos h1 (Ev.bind awake_some (Ev.now _))
  · exact ev_neg h1 (tells_turn 2 0 s at_ u rfl (by omega) (by rw [← sz]; omega))

end Go.Proofs.Ytemdfhadijdddaa.Pure
