/- As many words are told as were asked for; the first ones are fields, the last one has all that is left, and no byte that parts at its ends: the plain statement. -/
import Derived.Test.YtbembhfilbholaaPAllx8
import Derived.Test.YtbembhfilbholaaSplitC
namespace Go.Proofs.Ytbembhfilbholaa.Pure
open Go.RowKit Go.Proofs.Ytbembhfilbholaa.PAll Go.Proofs.YtbembhfilbholaaW.PrintWords Go.Proofs.YtbembhfilbholaaW.PrintLast Go.Proofs.Ytbembhfilbholaa.B Go.Proofs.Ytbembhfilbholaa.SplitL Go.Proofs.Ytbembhfilbholaa.SplitC
set_option linter.unusedVariables false
set_option linter.unusedSimpArgs false

variable (p : UInt8 → Bool)
theorem rest_none (l : List UInt8) (h : (l.dropWhile p).takeWhile (fun c => !p c) = []) : l.dropWhile p = [] := by
  rcases dw_shape p l with e | ⟨c, m, e, hc⟩
  · exact e
  · rw [e] at h; simp [List.takeWhile_cons, hc] at h
theorem words_get : ∀ (n : Nat) (l : List UInt8) (i : Nat), i < n → (words p n l).getD i [] = (fl p l).getD i [] := by
  intro n; induction n with
  | zero => intro l i h; omega
  | succ n ih =>
    intro l i h
    rw [words, fl_next]
    split
    · rename_i hw
      have e := rest_none p l hw
      rw [hw, e, List.dropWhile_nil]
      cases i with
      | zero => rfl
      | succ i => rw [List.getD_cons_succ, ih [] i (by omega)]; simp [fl, flA]
    · cases i with
      | zero => rfl
      | succ i => rw [List.getD_cons_succ, List.getD_cons_succ, ih _ i (by omega)]
theorem words_last : ∀ (n : Nat) (l : List UInt8), ∃ m, (words p n l).getD n [] = trim p m ∧ fl p m = (fl p l).drop n := by
  intro n; induction n with
  | zero => intro l; exact ⟨l, rfl, rfl⟩
  | succ n ih =>
    intro l
    obtain ⟨m, h1, h2⟩ := ih ((l.dropWhile p).dropWhile (fun c => !p c))
    refine ⟨m, by rw [words, List.getD_cons_succ, h1], ?_⟩
    rw [h2, fl_next p l]
    split
    · rename_i hw
      rw [rest_none p l hw]; simp [fl, flA]
    · rfl

theorem reads_loop (t : ByteArray) (ht : (L t).length ≤ 20) (q : Nat) (hq : q ≤ 7) (d : Nat) : ∀ n, q - n = d → n ≤ q →
    Ev (fun k => conchlaw7_SplitReads.l0 k ((q + 1 : Nat) : Int) ((words (mem ⟨#[32, 58]⟩) q (L t)).map mkB) ((fl (mem ⟨#[32, 58]⟩) (L t)).map mkB) (n : Int)) true := by
  have hwl := words_len (mem ⟨#[32, 58]⟩) q (L t)
  have hw1 : wrap64 (((q + 1 : Nat) : Int) - 1) = (q : Int) := by rw [w64 (by omega) (by omega)]; omega
  have hfl : (fl (mem ⟨#[32, 58]⟩) (L t)).length ≤ 1000000 := by
    have key : ∀ (l cur : List UInt8), (flA (mem ⟨#[32, 58]⟩) cur l).length ≤ l.length + (if cur = [] then 0 else 1) := by
      intro l; induction l with
      | nil => intro cur; by_cases h : cur = [] <;> simp [flA, h]
      | cons c l ihl =>
        intro cur
        by_cases hp : mem ⟨#[32, 58]⟩ c = true
        · by_cases h : cur = []
          · simp [flA, hp, h]; have := ihl []; simp at this; omega
          · simp [flA, hp, h]; have := ihl []; simp at this; omega
        · simp [flA, hp]; have := ihl (cur ++ [c]); simp at this; split <;> omega
    have := key (L t) []; simp [fl] at this ⊢; omega
  have each : ∀ f ∈ fl (mem ⟨#[32, 58]⟩) (L t), f.length ≤ 20 := by
    have key : ∀ (l cur : List UInt8), cur.length + l.length ≤ 20 → ∀ f ∈ flA (mem ⟨#[32, 58]⟩) cur l, f.length ≤ 20 := by
      intro l; induction l with
      | nil => intro cur h f hf; by_cases hc : cur = [] <;> simp [flA, hc] at hf; subst hf; simp at h; omega
      | cons c l ihl =>
        intro cur h f hf
        simp at h
        by_cases hp : mem ⟨#[32, 58]⟩ c = true
        · by_cases hc : cur = []
          · simp [flA, hp, hc] at hf; exact ihl [] (by simp; omega) f hf
          · simp [flA, hp, hc] at hf
            rcases hf with rfl | hf
            · omega
            · exact ihl [] (by simp; omega) f hf
        · simp [flA, hp] at hf; exact ihl _ (by simp; omega) f hf
    exact key (L t) [] (by simp; omega)
  have wlen : ∀ n l, l.length ≤ 20 → ∀ f ∈ words (mem ⟨#[32, 58]⟩) n l, f.length ≤ 20 := by
    intro n; induction n with
    | zero => intro l hl f hf; simp [words] at hf; subst hf; have := trim_len (mem ⟨#[32, 58]⟩) l; omega
    | succ n ih =>
      intro l hl f hf
      have h1 := dw_len (mem ⟨#[32, 58]⟩) l
      have h2 := dw_len (fun c => !mem ⟨#[32, 58]⟩ c) (l.dropWhile (mem ⟨#[32, 58]⟩))
      have h3 := congrArg List.length (List.takeWhile_append_dropWhile (p := fun c => !mem ⟨#[32, 58]⟩ c) (l := l.dropWhile (mem ⟨#[32, 58]⟩)))
      rw [List.length_append] at h3
      simp only [words, List.mem_cons] at hf
      rcases hf with rfl | hf
      · omega
      · exact ih _ (by omega) f hf
  induction d with
  | zero =>
    intro n hd hn
    have hn' : n = q := by omega
    subst hn'
    obtain ⟨m, h1, h2⟩ := words_last (mem ⟨#[32, 58]⟩) n (L t)
    have hlt : n < (words (mem ⟨#[32, 58]⟩) n (L t)).length := by omega
    have hget : (words (mem ⟨#[32, 58]⟩) n (L t))[n] = trim (mem ⟨#[32, 58]⟩) m := by rw [← h1]; simp [List.getD, hlt]
    have hl20 := wlen n (L t) ht _ (List.getElem_mem hlt)
    rw [hget] at hl20
    refine Ev.step (fun k => by rw [conchlaw7_SplitReads.l0]) ?_
    rw [w64s (by omega)]
    refine ev_neg (by omega) ?_
    simp only [hw1, rdOf_map hlt, hget]
    by_cases hc : ((((fl (mem ⟨#[32, 58]⟩) (L t)).map mkB).length : Nat) : Int) ≥ ((n + 1 : Nat) : Int)
    · refine ev_pos hc (ev_pos (by omega) (ev_pos (by omega) (ev_pos (by rw [List.length_map]; omega) ?_)))
      refine Ev.bind (trim_some _ _ (by rw [L_mkB]; omega)) (ev_pos (by rw [tl_mkB, tl_mkB, L_mkB, trim_trim]) ?_)
      refine Ev.bind (fields_some _ _ (by rw [L_mkB]; omega)) (Ev.bind (same_some _ _ (by rw [L_mkB, fl_trim, h2]; simp at hfl ⊢; omega)) (ev_pos ?_ (Ev.bind awake_some (Ev.now _))))
      rw [decide_eq_true_iff, L_mkB, fl_trim, h2]; simp
    · refine ev_neg hc (ev_pos (by omega) (ev_pos (by rw [List.length_map]; omega) ?_))
      rw [List.length_map] at hc
      refine Ev.bind (trim_some _ _ (by rw [L_mkB]; omega)) (ev_pos (by rw [tl_mkB, tl_mkB, L_mkB, trim_trim]) ?_)
      refine Ev.bind (fields_some _ _ (by rw [L_mkB]; omega)) (Ev.bind (same_some _ _ (by rw [L_mkB, fl_trim, h2]; simp at hfl ⊢; omega)) (ev_pos ?_ (Ev.bind awake_some (Ev.now _))))
      rw [decide_eq_true_iff, L_mkB, fl_trim, h2, List.drop_of_length_le (by omega)]; rfl
  | succ d ih =>
    intro n hd hn
    have hlt : n < (words (mem ⟨#[32, 58]⟩) q (L t)).length := by omega
    have hg := words_get (mem ⟨#[32, 58]⟩) q (L t) n (by omega)
    have hget : (words (mem ⟨#[32, 58]⟩) q (L t))[n] = (fl (mem ⟨#[32, 58]⟩) (L t)).getD n [] := by rw [← hg]; simp [List.getD, hlt]
    have next := ih (n + 1) (by omega) (by omega)
    refine Ev.step (fun k => by rw [conchlaw7_SplitReads.l0]) ?_
    simp only [w64s (n := n) (by omega)]
    refine ev_pos (by omega) ?_
    by_cases hc : (n : Int) < ((((fl (mem ⟨#[32, 58]⟩) (L t)).map mkB).length : Nat) : Int)
    · have hc' : n < (fl (mem ⟨#[32, 58]⟩) (L t)).length := by rw [List.length_map] at hc; omega
      refine ev_pos hc (ev_pos (by omega) (ev_pos (by rw [List.length_map]; omega) (ev_pos ?_ next)))
      rw [rdOf_map hlt, rdOf_map hc', hget]; simp [List.getD, hc']
    · have hc' : ¬ n < (fl (mem ⟨#[32, 58]⟩) (L t)).length := by rw [List.length_map] at hc; omega
      refine ev_neg hc (ev_pos (by omega) (ev_pos (by rw [List.length_map]; omega) (ev_pos ?_ next)))
      rw [rdOf_map hlt, hget, tl_mkB]; simp [List.getD, hc']

theorem SplitReads : conchlaw7_SplitReads.Pure := by
  intro s a hs ha
  refine ev_ex (r := true) ?_
  show Ev (fun k => conchlaw7_SplitReads.f k s a) true
  unfold conchlaw7_SplitReads.f
  by_cases h1 : (s.size : Int) > 200
  · exact ev_pos h1 (Ev.bind awake_some (Ev.now _))
  · obtain ⟨t, ht, hT⟩ := tame_some s
    have hq : wrap64 (Go.bits .and .i64 a 7 + 1) = (((a % 8).toNat + 1 : Nat) : Int) := by rw [bits_and7, w64 (by omega) (by omega)]; omega
    have hm : many (((a % 8).toNat + 1 : Nat) : Int) = (a % 8).toNat := by unfold many mn mx; (repeat' split) <;> omega
    refine ev_neg h1 (Ev.bind hT ?_)
    simp only [hq]
    refine Ev.bind (words_some t _ (by omega) _) (Ev.bind (fields_some t _ (by omega)) ?_)
    rw [hm]
    refine ev_pos (by rw [List.length_map, words_len]) ?_
    exact reads_loop t ht _ (by omega) _ 0 rfl (Nat.zero_le _)

end Go.Proofs.Ytbembhfilbholaa.Pure
