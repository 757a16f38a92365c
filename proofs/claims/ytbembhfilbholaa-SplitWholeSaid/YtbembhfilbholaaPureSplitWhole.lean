/- A value is one field, itself, just if it is not empty and has no byte of these; split again each field is itself: the plain statement. -/
import Derived.Test.YtbembhfilbholaaPAllx6
import Derived.Test.YtbembhfilbholaaSplitC
namespace Go.Proofs.Ytbembhfilbholaa.Pure
open Go.RowKit Go.Proofs.Ytbembhfilbholaa.PAll Go.Proofs.YtbembhfilbholaaW.PrintWords Go.Proofs.YtbembhfilbholaaW.PrintLast Go.Proofs.Ytbembhfilbholaa.B Go.Proofs.Ytbembhfilbholaa.SplitL Go.Proofs.Ytbembhfilbholaa.SplitC
set_option linter.unusedVariables false
set_option linter.unusedSimpArgs false

theorem flA_len (p : UInt8 → Bool) : ∀ (l cur : List UInt8), (flA p cur l).length ≤ l.length + (if cur = [] then 0 else 1) := by
  intro l; induction l with
  | nil => intro cur; by_cases h : cur = [] <;> simp [flA, h]
  | cons c l ihl =>
    intro cur
    by_cases hp : p c = true
    · by_cases h : cur = []
      · simp [flA, hp, h]; have := ihl []; simp at this; omega
      · simp [flA, hp, h]; have := ihl []; simp at this; omega
    · simp [flA, hp]; have := ihl (cur ++ [c]); simp at this; split <;> omega
theorem flA_each (p : UInt8 → Bool) (M : Nat) : ∀ (l cur : List UInt8), cur.length + l.length ≤ M → ∀ f ∈ flA p cur l, f.length ≤ M := by
  intro l; induction l with
  | nil => intro cur h f hf; by_cases hc : cur = [] <;> simp [flA, hc] at hf; subst hf; simp at h; omega
  | cons c l ihl =>
    intro cur h f hf
    simp at h
    by_cases hp : p c = true
    · by_cases hc : cur = []
      · simp [flA, hp, hc] at hf; exact ihl [] (by simp; omega) f hf
      · simp [flA, hp, hc] at hf
        rcases hf with rfl | hf
        · omega
        · exact ihl [] (by simp; omega) f hf
    · simp [flA, hp] at hf; exact ihl _ (by simp; omega) f hf

/-- The fields are each whole; then the next turn. -/
theorem whole_l3 (s ifs : ByteArray) (q : Nat) (hq : q < 2) (hs : (L s).length ≤ 1000000)
    (next : ∀ t, (L t).length ≤ 20 → Ev (fun k => conchlaw7_SplitWhole.l0 k t ⟨#[32, 58]⟩ ((q + 1 : Nat) : Int)) true) (d : Nat) :
    ∀ n, (fl (mem ifs) (L s)).length - n = d → n ≤ (fl (mem ifs) (L s)).length → Ev (fun k => conchlaw7_SplitWhole.l3 k s ifs (q : Int) ((fl (mem ifs) (L s)).map mkB) (n : Int)) true := by
  have hlen := flA_len (mem ifs) (L s) []
  simp only [if_true] at hlen
  have hlen : (fl (mem ifs) (L s)).length ≤ 1000000 := by unfold fl; omega
  induction d with
  | zero =>
    intro n hd hn
    obtain ⟨t, ht, hT⟩ := tame_some s
    refine Ev.step (fun k => by rw [conchlaw7_SplitWhole.l3]) ?_
    refine ev_neg (by rw [List.length_map]; omega) (Ev.bind hT ?_)
    rw [w64s (by omega)]; exact next t ht
  | succ d ih =>
    intro n hd hn
    have hlt : n < (fl (mem ifs) (L s)).length := by omega
    have hmem : (fl (mem ifs) (L s))[n] ∈ fl (mem ifs) (L s) := List.getElem_mem hlt
    obtain ⟨h1, h2⟩ := fl_mem (mem ifs) (L s) _ hmem
    have h3 := flA_each (mem ifs) (L s).length (L s) [] (by simp) _ hmem
    refine Ev.step (fun k => by rw [conchlaw7_SplitWhole.l3]) ?_
    refine ev_pos (by rw [List.length_map]; omega) (ev_pos (by omega) ?_)
    simp only [rdOf_map hlt]
    refine Ev.bind (whole_some _ ifs (by rw [L_mkB]; omega)) (ev_pos ?_ ?_)
    · rw [decide_eq_true_iff, L_mkB]; exact fl_one _ h2 h1
    · rw [w64s (by omega)]; exact ih (n + 1) (by omega) (by omega)

/-- Is any byte one of these? -/
theorem whole_l2 (s ifs : ByteArray) (q : Nat) (hs : (L s).length ≤ 1000000) (hi : (L ifs).length ≤ 1000000) (i : Nat) (h : i < (L s).length) (R : Bool) (some_ : Bool) (d : Nat) :
    ∀ n (b : Bool), (L ifs).length - n = d → n ≤ (L ifs).length →
      (Ev (fun k => conchlaw7_SplitWhole.l1 k s ifs (q : Int) (b || ((L ifs).drop n).contains (L s)[i]) ((i + 1 : Nat) : Int)) R) → Ev (fun k => conchlaw7_SplitWhole.l2 k s ifs (q : Int) b (i : Int) (n : Int)) R := by
  induction d with
  | zero =>
    intro n b hd hn H
    refine Ev.step (fun k => by rw [conchlaw7_SplitWhole.l2]) ?_
    refine ev_neg (by rw [sz]; omega) ?_
    rw [w64s (by omega)]
    rw [List.drop_of_length_le (by omega)] at H; simpa using H
  | succ d ih =>
    intro n b hd hn H
    have hlt : n < (L ifs).length := by omega
    refine Ev.step (fun k => by rw [conchlaw7_SplitWhole.l2]) ?_
    refine ev_pos (by rw [sz]; omega) ?_
    rw [List.drop_eq_getElem_cons hlt, List.contains_cons] at H
    by_cases hb : b = true
    · refine ev_pos hb ?_
      rw [w64s (by omega)]
      refine ih (n + 1) true (by omega) (by omega) ?_
      rw [hb] at H; simpa using H
    · have hb' : b = false := by simpa using hb
      refine ev_neg hb (ev_pos (by omega) (ev_pos (by rw [sz]; omega) (ev_pos (by omega) ?_)))
      rw [w64s (by omega)]
      refine ih (n + 1) _ (by omega) (by omega) ?_
      have e : (bt s (i : Int) == bt ifs (n : Int)) = ((L s)[i] == (L ifs)[n]) := by
        rw [bt_n h, bt_n hlt, Bool.eq_iff_iff]; simp only [beq_iff_eq, u8_int]
      rw [e]; rw [hb'] at H; simpa only [Bool.false_or] using H

theorem whole_l1 (s ifs : ByteArray) (q : Nat) (hq : q < 2) (hs : (L s).length ≤ 1000000) (hi : (L ifs).length ≤ 1000000)
    (next : ∀ t, (L t).length ≤ 20 → Ev (fun k => conchlaw7_SplitWhole.l0 k t ⟨#[32, 58]⟩ ((q + 1 : Nat) : Int)) true) (d : Nat) :
    ∀ n (b : Bool), (L s).length - n = d → n ≤ (L s).length → b = ((L s).take n).any (mem ifs) → Ev (fun k => conchlaw7_SplitWhole.l1 k s ifs (q : Int) b (n : Int)) true := by
  induction d with
  | zero =>
    intro n b hd hn hb
    have hb' : b = (L s).any (mem ifs) := by rw [hb, List.take_of_length_le (by omega)]
    have hw := fl_whole (mem ifs) (L s)
    have fin : ∀ b', b' = false → Ev (fun k => conchlaw7_SplitWhole.j4 k s ifs (q : Int) b') true := by
      intro b' h; subst h
      refine Ev.step (fun k => by rw [conchlaw7_SplitWhole.j4]) (ev_neg (by simp) (Ev.bind (fields_some s ifs hs) ?_))
      exact whole_l3 s ifs q hq hs next _ 0 rfl (Nat.zero_le _)
    refine Ev.step (fun k => by rw [conchlaw7_SplitWhole.l1]) ?_
    refine ev_neg (by rw [sz]; omega) (Ev.bind (whole_some s ifs hs) ?_)
    by_cases h0 : L s = []
    · refine ev_pos (by rw [tl]; exact h0) (fin _ ?_)
      simp [h0, fl, flA]
    · refine ev_neg (by rw [tl]; exact h0) (fin _ ?_)
      rw [hb']
      have : (decide (fl (mem ifs) (L s) = [L s])) = !(L s).any (mem ifs) := by
        rw [Bool.eq_iff_iff, decide_eq_true_iff, hw]
        simp [h0, none_]
      rw [this]; simp
  | succ d ih =>
    intro n b hd hn hb
    have hlt : n < (L s).length := by omega
    refine Ev.step (fun k => by rw [conchlaw7_SplitWhole.l1]) ?_
    refine ev_pos (by rw [sz]; omega) ?_
    refine whole_l2 s ifs q hs hi n hlt true b _ 0 b rfl (Nat.zero_le _) ?_
    refine ih (n + 1) _ (by omega) (by omega) ?_
    rw [List.take_succ_eq_append_getElem hlt, List.any_append, ← hb]; simp [mem]

theorem whole_turn (d : Nat) : ∀ (n : Nat) (s ifs : ByteArray), 2 - n = d → n ≤ 2 → (L s).length ≤ 1000000 → (L ifs).length ≤ 1000000 → Ev (fun k => conchlaw7_SplitWhole.l0 k s ifs (n : Int)) true := by
  induction d with
  | zero =>
    intro n s ifs hd hn hs hi
    refine Ev.step (fun k => by rw [conchlaw7_SplitWhole.l0]) ?_
    exact ev_neg (by omega) (Ev.bind awake_some (Ev.now _))
  | succ d ih =>
    intro n s ifs hd hn hs hi
    refine Ev.step (fun k => by rw [conchlaw7_SplitWhole.l0]) ?_
    refine ev_pos (by omega) ?_
    exact whole_l1 s ifs n (by omega) hs hi (fun t ht => ih (n + 1) t _ (by omega) (by omega) (by omega) (by simp [L_lit])) _ 0 false rfl (Nat.zero_le _) (by simp)

theorem SplitWhole : conchlaw7_SplitWhole.Pure := by
  intro s ifs hs hi
  refine ev_ex (r := true) ?_
  show Ev (fun k => conchlaw7_SplitWhole.f k s ifs) true
  unfold conchlaw7_SplitWhole.f
  have out : Ev (fun k => conchlaw7_SplitWhole.j0 k s ifs true) true :=
    Ev.step (fun k => by rw [conchlaw7_SplitWhole.j0]) (ev_pos rfl (Ev.bind awake_some (Ev.now _)))
  by_cases h1 : (s.size : Int) > 300
  · exact ev_pos h1 out
  · refine ev_neg h1 ?_
    by_cases h2 : (ifs.size : Int) > 60
    · rw [decide_eq_true h2]; exact out
    · rw [decide_eq_false h2]
      refine Ev.step (fun k => by rw [conchlaw7_SplitWhole.j0]) (ev_neg (by simp) ?_)
      exact whole_turn 2 0 s ifs rfl (by omega) (by rw [← sz]; omega) (by rw [← sz]; omega)

end Go.Proofs.Ytbembhfilbholaa.Pure
