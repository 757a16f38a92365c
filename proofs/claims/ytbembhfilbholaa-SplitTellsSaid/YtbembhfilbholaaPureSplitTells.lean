/- The program's fields, words, trimmed texts and whole values are the document's, for any texts, any bytes that part and any number of words: the plain statement. -/
import Derived.Test.YtbembhfilbholaaPAllx5
import Derived.Test.YtbembhfilbholaaSplitC
namespace Go.Proofs.Ytbembhfilbholaa.Pure
open Go.RowKit Go.Proofs.Ytbembhfilbholaa.PAll Go.Proofs.YtbembhfilbholaaW.PrintWords Go.Proofs.YtbembhfilbholaaW.PrintLast Go.Proofs.Ytbembhfilbholaa.B Go.Proofs.Ytbembhfilbholaa.SplitL Go.Proofs.Ytbembhfilbholaa.SplitC
set_option linter.unusedVariables false
set_option linter.unusedSimpArgs false

theorem tells_loop (d : Nat) : ∀ (n : Nat) (s ifs : ByteArray) (q : Int), 2 - n = d → n ≤ 2 → (L s).length ≤ 1000000 → (L ifs).length ≤ 1000000 → Ev (fun k => conchlaw7_SplitTells.l0 k s ifs q (n : Int)) true := by
  induction d with
  | zero =>
    intro n s ifs q hd hn hs hi
    refine Ev.step (fun k => by rw [conchlaw7_SplitTells.l0]) ?_
    exact ev_neg (by omega) (Ev.bind awake_some (Ev.now _))
  | succ d ih =>
    intro n s ifs q hd hn hs hi
    have hfl : ((fl (mem ifs) (L s)).map mkB).length ≤ 1000000 := by
      have key : ∀ (l cur : List UInt8), (flA (mem ifs) cur l).length ≤ l.length + (if cur = [] then 0 else 1) := by
        intro l; induction l with
        | nil => intro cur; by_cases h : cur = [] <;> simp [flA, h]
        | cons c l ihl =>
          intro cur
          by_cases hp : mem ifs c = true
          · by_cases h : cur = []
            · simp [flA, hp, h]; have := ihl []; simp at this; omega
            · simp [flA, hp, h]; have := ihl []; simp at this; omega
          · simp [flA, hp]; have := ihl (cur ++ [c]); simp at this; split <;> omega
      have := key (L s) []; simp [fl] at this ⊢; omega
    have hwl : ((words (mem ifs) (many q) (L s)).map mkB).length ≤ 1000000 := by
      have := many_is q; simp [words_len]; omega
    obtain ⟨t, ht, hT⟩ := tame_some s
    have hb : 0 ≤ Go.bits .and .i64 ((ifs.size : Int)) 1 ∧ Go.bits .and .i64 ((ifs.size : Int)) 1 ≤ 1 := by
      rw [bits_and1]; omega
    have hw : wrap64 (Go.bits .and .i64 ((ifs.size : Int)) 1 + 1) = Go.bits .and .i64 ((ifs.size : Int)) 1 + 1 := w64 (by omega) (by omega)
    refine Ev.step (fun k => by rw [conchlaw7_SplitTells.l0]) ?_
    refine ev_pos (by omega) ?_
    refine Ev.bind (fields_some s ifs hs) (Ev.bind (rfields_some s ifs hi hs) (Ev.bind (same_some _ _ hfl) ?_))
    refine ev_pos (by simp) (Ev.bind (whole_some s ifs hs) (Ev.bind (rwhole_some s ifs hi hs) (ev_neg (by simp) ?_)))
    refine Ev.bind (trim_some s ifs hs) (Ev.bind (rtrimd_some s ifs hi hs) (ev_pos rfl ?_))
    refine Ev.bind (words_some s ifs hs q) (Ev.bind (rwords_some s ifs hi hs q) (Ev.bind (same_some _ _ hwl) (ev_pos (by simp) ?_)))
    refine Ev.bind hT ?_
    simp only [hw]
    refine ev_pos (by omega) (ev_pos (by omega) ?_)
    rw [w64s (by omega)]
    refine ih (n + 1) _ _ _ (by omega) (by omega) (by omega) ?_
    rw [L_ext, L_lit]; simp; omega

theorem SplitTells : conchlaw7_SplitTells.Pure := by
  intro s ifs q hs hi hq
  refine ev_ex (r := true) ?_
  show Ev (fun k => conchlaw7_SplitTells.f k s ifs q) true
  unfold conchlaw7_SplitTells.f
  have out : Ev (fun k => conchlaw7_SplitTells.j0 k s ifs q true) true :=
    Ev.step (fun k => by rw [conchlaw7_SplitTells.j0]) (ev_pos rfl (Ev.bind awake_some (Ev.now _)))
  by_cases h1 : (s.size : Int) > 300
  · exact ev_pos h1 out
  · refine ev_neg h1 ?_
    by_cases h2 : (ifs.size : Int) > 60
    · rw [decide_eq_true h2]; exact out
    · rw [decide_eq_false h2]
      refine Ev.step (fun k => by rw [conchlaw7_SplitTells.j0]) (ev_neg (by simp) ?_)
      exact tells_loop 2 0 s ifs q rfl (by omega) (by rw [← sz]; omega) (by rw [← sz]; omega)

end Go.Proofs.Ytbembhfilbholaa.Pure
