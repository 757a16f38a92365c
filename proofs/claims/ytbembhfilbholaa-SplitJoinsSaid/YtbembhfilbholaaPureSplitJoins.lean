/- Fields joined by a byte that parts them are told again; two texts joined so have the fields of both: the plain statement. -/
import Derived.Test.YtbembhfilbholaaPAllx7
import Derived.Test.YtbembhfilbholaaSplitC
namespace Go.Proofs.Ytbembhfilbholaa.Pure
open Go.RowKit Go.Proofs.Ytbembhfilbholaa.PAll Go.Proofs.YtbembhfilbholaaW.PrintWords Go.Proofs.YtbembhfilbholaaW.PrintLast Go.Proofs.Ytbembhfilbholaa.B Go.Proofs.Ytbembhfilbholaa.SplitL Go.Proofs.Ytbembhfilbholaa.SplitC
set_option linter.unusedVariables false
set_option linter.unusedSimpArgs false

/-- How long fields are, joined. -/
theorem joined_len (p : UInt8 → Bool) : ∀ (l cur : List UInt8), ((flA p cur l).map List.length).sum + (flA p cur l).length ≤ 2 * l.length + cur.length + (if cur = [] then 0 else 1) := by
  intro l; induction l with
  | nil => intro cur; by_cases h : cur = [] <;> simp [flA, h]
  | cons c l ih =>
    intro cur
    by_cases hp : p c = true
    · by_cases h : cur = []
      · have := ih []; simp [flA, hp, h] at this ⊢; omega
      · have := ih []; simp [flA, hp, h] at this ⊢; omega
    · have := ih (cur ++ [c]); simp [flA, hp] at this ⊢; split <;> omega

theorem joins_loop (a b ifs : ByteArray) (c : UInt8) (hc : mem ifs c = true) (ha : (L a).length ≤ 200) (hb : (L b).length ≤ 200) (hi : (L ifs).length ≤ 60) (d : Nat) :
    ∀ (n : Nat) (x : ByteArray), (fl (mem ifs) (L a)).length - n = d → n ≤ (fl (mem ifs) (L a)).length →
      L x = (((fl (mem ifs) (L a)).take n).flatMap fun f => c :: (f ++ [c])) →
      Ev (fun k => conchlaw7_SplitJoins.l0 k a b ifs (mkB [c]) ((fl (mem ifs) (L a)).map mkB) ((fl (mem ifs) (L b)).map mkB) x (n : Int)) true := by
  have ja := joined_len (mem ifs) (L a) []
  have jb := joined_len (mem ifs) (L b) []
  simp only [if_true, List.length_nil] at ja jb
  have hla : (fl (mem ifs) (L a)).length ≤ 400 := by unfold fl; omega
  have hlb : (fl (mem ifs) (L b)).length ≤ 400 := by unfold fl; omega
  have hsa := sz a
  have hsb := sz b
  have size : ∀ n, (((fl (mem ifs) (L a)).take n).flatMap fun f => c :: (f ++ [c])).length ≤ 1200 := by
    have gen : ∀ (xs : List (List UInt8)) n, ((xs.take n).flatMap fun f => c :: (f ++ [c])).length ≤ (xs.map List.length).sum + 2 * xs.length := by
      intro xs; induction xs with
      | nil => intro n; simp
      | cons x xs ih => intro n; cases n with
        | zero => simp
        | succ n => have := ih n; simp [List.take_succ_cons, List.flatMap_cons] at this ⊢; omega
    intro n; have := gen (fl (mem ifs) (L a)) n; unfold fl at this hla ⊢; omega
  induction d with
  | zero =>
    intro n x hd hn hx
    have hn' : n = (fl (mem ifs) (L a)).length := by omega
    have hx' : L x = (fl (mem ifs) (L a)).flatMap fun f => c :: (f ++ [c]) := by rw [hx, hn', List.take_length]
    have hxl : (L x).length ≤ 1200 := by rw [hx]; exact size n
    refine Ev.step (fun k => by rw [conchlaw7_SplitJoins.l0]) ?_
    refine ev_neg (by rw [List.length_map]; omega) ?_
    refine Ev.bind (fields_some x ifs (by omega)) (Ev.bind (same_some _ _ (by rw [hx', fl_joined _ c hc _ (fl_mem _ _)]; simp; omega)) (ev_pos ?_ ?_))
    · rw [decide_eq_true_iff, hx', fl_joined _ c hc _ (fl_mem _ _)]
    · have hab : L ((a ++ mkB [c]) ++ b) = L a ++ c :: L b := by rw [L_app, L_app, L_mkB]; simp
      refine ev_pos (by rw [sz_mkB]; simp; omega) (ev_pos (by rw [sz, L_app, L_mkB]; simp; omega) ?_)
      refine Ev.bind (fields_some _ ifs (by rw [hab]; simp; omega)) (ev_some (ev_pos (by simp; omega) (ev_some (ev_pos (by simp; omega) ?_))))
      refine Ev.bind (same_some _ _ (by rw [hab, fl_app _ _ _ _ hc]; simp; omega)) (ev_pos ?_ ?_)
      · rw [decide_eq_true_iff, hab, fl_app _ _ _ _ hc]; simp
      · refine Ev.bind (trim_some a ifs (by omega)) (Ev.bind (fields_some _ ifs (by rw [L_mkB]; have := trim_len (mem ifs) (L a); omega)) (Ev.bind (same_some _ _ (by rw [L_mkB, fl_trim]; simp; omega)) (ev_pos ?_ (Ev.bind awake_some (Ev.now _)))))
        rw [decide_eq_true_iff, L_mkB, fl_trim]
  | succ d ih =>
    intro n x hd hn hx
    have hlt : n < (fl (mem ifs) (L a)).length := by omega
    have hx2 : (((fl (mem ifs) (L a)).take (n + 1)).flatMap fun f => c :: (f ++ [c])) = L x ++ (c :: ((fl (mem ifs) (L a))[n] ++ [c])) := by
      rw [List.take_succ_eq_append_getElem hlt, List.flatMap_append, ← hx]; simp
    have hs2 := size (n + 1)
    rw [hx2] at hs2; simp at hs2
    have hsx := sz x
    refine Ev.step (fun k => by rw [conchlaw7_SplitJoins.l0]) ?_
    simp only [rdOf_map hlt]
    refine ev_pos (by rw [List.length_map]; omega) (ev_pos (by rw [sz_mkB]; simp; omega) (ev_pos (by omega) (ev_pos (by rw [sz_mkB, sz, L_app, L_mkB]; simp; omega) (ev_pos (by rw [sz_mkB, sz, L_app, L_app, L_mkB, L_mkB]; simp; omega) ?_))))
    rw [w64s (by omega)]
    refine ih (n + 1) _ (by omega) (by omega) ?_
    rw [hx2, L_app, L_app, L_app, L_mkB, L_mkB]; simp

theorem SplitJoins : conchlaw7_SplitJoins.Pure := by
  intro a b ifs ha hb hi
  refine ev_ex (r := true) ?_
  show Ev (fun k => conchlaw7_SplitJoins.f k a b ifs) true
  unfold conchlaw7_SplitJoins.f
  have out : Ev (fun k => conchlaw7_SplitJoins.j0 k a b ifs true) true :=
    Ev.step (fun k => by rw [conchlaw7_SplitJoins.j0]) (ev_pos rfl (Ev.bind awake_some (Ev.now _)))
  by_cases h1 : (a.size : Int) > 200
  · exact ev_pos h1 out
  · refine ev_neg h1 ?_
    by_cases h2 : (b.size : Int) > 200
    · exact ev_pos h2 out
    · refine ev_neg h2 ?_
      by_cases h3 : (ifs.size : Int) = 0
      · exact ev_pos h3 out
      · refine ev_neg h3 ?_
        by_cases h4 : (ifs.size : Int) > 60
        · rw [decide_eq_true h4]; exact out
        · rw [decide_eq_false h4]
          have ha' : (L a).length ≤ 200 := by rw [← sz]; omega
          have hb' : (L b).length ≤ 200 := by rw [← sz]; omega
          have hi' : (L ifs).length ≤ 60 := by rw [← sz]; omega
          obtain ⟨c, m, hm⟩ : ∃ c m, L ifs = c :: m := by
            cases e : L ifs with
            | nil => have := sz ifs; rw [e, List.length_nil] at this; omega
            | cons c m => exact ⟨c, m, rfl⟩
          have hby : ifs.extract 0 1 = mkB [c] := by rw [ext_mkB, hm]; rfl
          refine Ev.step (fun k => by rw [conchlaw7_SplitJoins.j0]) (ev_neg (by simp) (ev_pos (by decide) (ev_pos (by omega) ?_)))
          refine Ev.bind (fields_some a ifs (by omega)) (Ev.bind (fields_some b ifs (by omega)) ?_)
          rw [hby]
          exact joins_loop a b ifs c (by simp [mem, hm]) ha' hb' hi' _ 0 _ rfl (Nat.zero_le _) (by simp [L_lit])

end Go.Proofs.Ytbembhfilbholaa.Pure
