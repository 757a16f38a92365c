/- Blanks, joined lines and a comment are passed over, and then nothing more of them; a line feed stays: the plain statement. -/
import Derived.Test.YtemdfhadijdddaaPAllx7
import Derived.Test.YtemdfhadijdddaaLexC
namespace Go.Proofs.Ytemdfhadijdddaa.Pure
open Go.RowKit Go.Proofs.Ytemdfhadijdddaa.PAll Go.Proofs.YtemdfhadijdddaaW.PrintWords Go.Proofs.YtemdfhadijdddaaW.PrintLast Go.Proofs.Ytemdfhadijdddaa.B Go.Proofs.Ytemdfhadijdddaa.LexL Go.Proofs.Ytemdfhadijdddaa.LexC
set_option linter.unusedVariables false
set_option linter.unusedSimpArgs false

/-- Rows that say nothing: blanks and joined lines. -/
inductive Blank : List UInt8 → Prop
  | nil : Blank []
  | space {l : List UInt8} : Blank l → Blank (32 :: l)
  | tab {l : List UInt8} : Blank l → Blank (9 :: l)
  | joined {l : List UInt8} : Blank l → Blank (92 :: 10 :: l)
theorem Blank.app {l m : List UInt8} (h : Blank l) (k : Blank m) : Blank (l ++ m) := by
  induction h with
  | nil => exact k
  | space _ ih => exact .space ih
  | tab _ ih => exact .tab ih
  | joined _ ih => exact .joined ih
theorem Blank.skip {l : List UInt8} (h : Blank l) (m : List UInt8) : skipL (l ++ m) = l.length + skipL m := by
  induction h with
  | nil => simp
  | space _ ih => rw [List.cons_append, skip_blank _ _ (.inl rfl), ih, List.length_cons]; omega
  | tab _ ih => rw [List.cons_append, skip_blank _ _ (.inr rfl), ih, List.length_cons]; omega
  | joined _ ih => rw [List.cons_append, List.cons_append, skip_joined, ih, List.length_cons, List.length_cons]; omega

theorem skip_at0 (s : ByteArray) (hs : (L s).length ≤ 1000000) : Ev (fun k => lex_Skip.f k s 0) ((skipL (L s) : Nat) : Int) := by
  have := skip_some s 0 hs
  have e : clamp s 0 = 0 := by unfold clamp mn mx; (repeat' split) <;> omega
  rw [e] at this; simpa using this

theorem skips_end (s more : ByteArray) (c : List UInt8) (hs : (L s).length ≤ 100) (hm : (L more).length ≤ 60) (hc : c.length ≤ 100) (hb : Blank (L s)) (h35 : ∃ m, c = 35 :: m ∧ ∀ x ∈ m, ¬ x = 10) (com : ByteArray) (hcom : (L com).length ≤ 60) :
    Ev (fun k => conchlaw9_LexSkips.l1 k com more s (mkB c) (((L com).length : Nat) : Int)) true := by
  have e1 := sz s
  have e2 := sz more
  have e3 := sz com
  obtain ⟨m, rfl, hm10⟩ := h35
  rw [List.length_cons] at hc
  have l10 : L (⟨#[10]⟩ : ByteArray) = [10] := rfl
  have l120 : L (⟨#[120]⟩ : ByteArray) = [120] := rfl
  refine Ev.step (fun k => by rw [conchlaw9_LexSkips.l1]) (ev_neg (by omega) (ev_pos (by rw [sz_mkB, List.length_cons]; omega) (ev_pos (by rw [sz, L_app, L_mkB]; simp; omega) (ev_pos (by rw [sz, L_app, L_app, L_mkB, l10]; simp; omega) ?_))))
  have hL : L (((s ++ mkB (35 :: m)) ++ (⟨#[10]⟩ : ByteArray)) ++ more) = L s ++ (35 :: (m ++ 10 :: L more)) := by
    rw [L_app, L_app, L_app, L_mkB, l10]; simp
  have hk : skipL (35 :: (m ++ 10 :: L more)) = m.length + 1 := by
    rw [skip_comment]
    have : ∀ (a b : List UInt8), (∀ x ∈ a, ¬ x = 10) → (a ++ (10 : UInt8) :: b).takeWhile (fun x => !(x == 10)) = a := by
      intro a b ha; induction a with
      | nil => simp [List.takeWhile_cons]
      | cons x a iha => rw [List.cons_append, List.takeWhile_cons, if_pos (by simpa using ha x (by simp)), iha (fun y hy => ha y (List.mem_cons_of_mem _ hy))]
    have h := this (35 :: m) (L more) (by
      intro x hx
      rcases List.mem_cons.mp hx with h | h
      · rw [h]; decide
      · exact hm10 x h)
    rw [List.cons_append] at h; rw [h]; rfl
  refine Ev.bind (skip_at0 _ (by rw [hL]; simp; omega)) (ev_pos (by omega) (ev_pos (by rw [sz, L_app]; simp [L_lit]; omega) ?_))
  have hL2 : L ((s ++ (⟨#[120]⟩ : ByteArray)) ++ more) = L s ++ 120 :: L more := by rw [L_app, L_app, l120]; simp
  refine Ev.bind (skip_at0 _ (by rw [hL2]; simp; omega)) ?_
  have hk2 : skipL (120 :: L more) = 0 := skip_other _ _ (by decide) (by decide) (fun h => absurd h.1 (by decide))
  rw [hL, hb.skip, hk, hL2, hb.skip, hk2]
  have hb0 : skipL (L s) = (L s).length := by have := hb.skip []; simpa [skipL] using this
  refine ev_pos (by rw [sz_mkB, w64 (by simp; omega) (by simp; omega)]; simp; omega) (ev_pos (by omega) ?_)
  refine Ev.bind (skip_at0 s (by omega)) (ev_pos (by omega) ?_)
  have c5 : clamp s (-5) = 0 := by unfold clamp mn mx; (repeat' split) <;> omega
  have cb : clamp s 4611686018427387904 = (L s).length := by unfold clamp mn mx; (repeat' split) <;> omega
  have s5 := skip_some s (-5) (by omega)
  have sb := skip_some s 4611686018427387904 (by omega)
  rw [c5] at s5
  rw [cb] at sb
  refine Ev.bind s5 (ev_pos (by simp; omega) (Ev.bind sb (ev_pos ?_ (Ev.bind awake_some (Ev.now _)))))
  rw [List.drop_of_length_le (Nat.le_refl _)]; simp [skipL]; omega

theorem skips_comment (s more com : ByteArray) (hs : (L s).length ≤ 100) (hm : (L more).length ≤ 60) (hb : Blank (L s)) (hcom : (L com).length ≤ 60) (d : Nat) :
    ∀ n (c : List UInt8), (L com).length - n = d → n ≤ (L com).length → c.length ≤ n + 1 → (∃ m, c = 35 :: m ∧ ∀ x ∈ m, ¬ x = 10) → Ev (fun k => conchlaw9_LexSkips.l1 k com more s (mkB c) (n : Int)) true := by
  have e3 := sz com
  induction d with
  | zero =>
    intro n c hd hn hc h35
    have : n = (L com).length := by omega
    subst this
    exact skips_end s more c hs hm (by omega) hb h35 com hcom
  | succ d ih =>
    intro n c hd hn hc h35
    have hlt : n < (L com).length := by omega
    refine Ev.step (fun k => by rw [conchlaw9_LexSkips.l1]) (ev_pos (by omega) (ev_pos (by omega) ?_))
    rw [bt_n hlt, w64s (by omega)]
    by_cases h10 : (L com)[n] = 10
    · exact ev_pos (by rw [h10]; rfl) (ih (n + 1) c (by omega) (by omega) (by omega) h35)
    · have hx : com.extract ((n : Int)).toNat ((n + 1 : Nat) : Int).toNat = mkB [(L com)[n]] := by
        rw [ext_mkB, mkB_iff]
        simp only [Int.toNat_natCast]
        rw [List.take_succ_eq_append_getElem hlt, List.drop_append_of_le_length (by simp; omega)]; simp
      simp only [hx]
      refine ev_neg (fun e => h10 (u8_int.mp (by rw [e]; rfl))) (ev_pos (by omega) (ev_pos (by omega) (ev_pos (by rw [sz_mkB, sz_mkB]; simp; omega) ?_)))
      have : mkB c ++ mkB [(L com)[n]] = mkB (c ++ [(L com)[n]]) := by rw [app_mkB, L_mkB, L_mkB]
      rw [this]
      refine ih (n + 1) _ (by omega) (by omega) (by simp; omega) ?_
      obtain ⟨m, rfl, hm10⟩ := h35
      refine ⟨m ++ [(L com)[n]], rfl, ?_⟩
      intro x hx
      rcases List.mem_append.mp hx with h | h
      · exact hm10 x h
      · simp at h; rw [h]; exact h10

theorem skips_blanks (l : List Int) (com more : ByteArray) (hm : (L more).length ≤ 60) (hcom : (L com).length ≤ 60) (d : Nat) :
    ∀ n (s : ByteArray), 20 - n = d → n ≤ 20 → (L s).length ≤ 2 * n → Blank (L s) → Ev (fun k => conchlaw9_LexSkips.l0 k l com more s (n : Int)) true := by
  have fin : ∀ s : ByteArray, (L s).length ≤ 40 → Blank (L s) → Ev (fun k => conchlaw9_LexSkips.j2 k com more s) true := by
    intro s hs hb
    refine Ev.step (fun k => by rw [conchlaw9_LexSkips.j2]) ?_
    exact skips_comment s more com (by omega) hm hb hcom _ 0 [35] rfl (Nat.zero_le _) (by simp) ⟨[], rfl, by simp⟩
  induction d with
  | zero =>
    intro n s hd hn hs hb
    refine Ev.step (fun k => by rw [conchlaw9_LexSkips.l0]) ?_
    by_cases h : (n : Int) < (l.length : Int)
    · exact ev_pos h (ev_neg (by omega) (fin s (by omega) hb))
    · exact ev_neg h (fin s (by omega) hb)
  | succ d ih =>
    intro n s hd hn hs hb
    refine Ev.step (fun k => by rw [conchlaw9_LexSkips.l0]) ?_
    by_cases h : (n : Int) < (l.length : Int)
    · refine ev_pos h (ev_pos (by omega) ?_)
      show Ev (fun k => (some (([[32], [9], [92, 10]] : List (List UInt8)).map mkB)).bind _) true
      refine ev_some ?_
      have hq0 : 0 ≤ rd l (n : Int) % 256 := Int.emod_nonneg _ (by decide)
      have hq : Int.tmod (Go.bits .and .i64 (rd l (n : Int)) 255) 3 = (((rd l (n : Int) % 256 % 3).toNat : Nat) : Int) := by
        rw [bits_and255, Int.tmod_eq_emod_of_nonneg hq0]; omega
      have hlt : (rd l (n : Int) % 256 % 3).toNat < ([[32], [9], [92, 10]] : List (List UInt8)).length := by show _ < 3; omega
      simp only [hq]
      generalize (rd l (n : Int) % 256 % 3).toNat = q at *
      simp only [rdOf_map hlt]
      have hx : Blank (([[32], [9], [92, 10]] : List (List UInt8))[q]) ∧ (([[32], [9], [92, 10]] : List (List UInt8))[q]).length ≤ 2 := by
        match q, hlt with
        | 0, _ => exact ⟨.space .nil, by simp⟩
        | 1, _ => exact ⟨.tab .nil, by simp⟩
        | 2, _ => exact ⟨.joined .nil, by simp⟩
        | q + 3, h => exact absurd h (by simp)
      generalize ([[32], [9], [92, 10]] : List (List UInt8))[q] = x at *
      have e1 := sz s
      refine ev_pos (by omega) (ev_pos (by omega) (ev_pos (by rw [List.length_map]; omega) (ev_pos (by rw [sz_mkB]; omega) ?_)))
      rw [w64s (by omega)]
      refine ih (n + 1) _ (by omega) (by omega) (by rw [L_app, L_mkB]; simp; omega) ?_
      rw [L_app, L_mkB]; exact hb.app hx.1
    · exact ev_neg h (fin s (by omega) hb)

theorem LexSkips : conchlaw9_LexSkips.Pure := by
  intro l com more h1 h2 h3 hc hm
  refine ev_ex (r := true) ?_
  show Ev (fun k => conchlaw9_LexSkips.f k l com more) true
  unfold conchlaw9_LexSkips.f
  have out : Ev (fun k => conchlaw9_LexSkips.j0 k l com more true) true :=
    Ev.step (fun k => by rw [conchlaw9_LexSkips.j0]) (ev_pos rfl (Ev.bind awake_some (Ev.now _)))
  by_cases g1 : (com.size : Int) > 60
  · exact ev_pos g1 out
  · refine ev_neg g1 ?_
    by_cases g2 : (more.size : Int) > 60
    · rw [decide_eq_true g2]; exact out
    · rw [decide_eq_false g2]
      refine Ev.step (fun k => by rw [conchlaw9_LexSkips.j0]) (ev_neg (by simp) ?_)
      exact skips_blanks l com more (by rw [← sz]; omega) (by rw [← sz]; omega) 20 0 ⟨#[]⟩ rfl (by omega) (by simp [L_lit]) .nil

end Go.Proofs.Ytemdfhadijdddaa.Pure
