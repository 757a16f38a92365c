/- What is trimmed begins and ends with another byte, or is empty; trimmed again, or with bytes that part around it, it is the same: the plain statement. -/
import Derived.Test.YtbembhfilbholaaPAllx3
import Derived.Test.YtbembhfilbholaaSplitC
namespace Go.Proofs.Ytbembhfilbholaa.Pure
open Go.RowKit Go.Proofs.Ytbembhfilbholaa.PAll Go.Proofs.YtbembhfilbholaaW.PrintWords Go.Proofs.YtbembhfilbholaaW.PrintLast Go.Proofs.Ytbembhfilbholaa.B Go.Proofs.Ytbembhfilbholaa.SplitL Go.Proofs.Ytbembhfilbholaa.SplitC
set_option linter.unusedVariables false
set_option linter.unusedSimpArgs false

theorem mem_two (c : UInt8) : mem (⟨#[32, 58]⟩ : ByteArray) c = (c == 32 || c == 58) := by
  rw [Bool.eq_iff_iff]; simp [mem, L_lit]

theorem trims_end (s x y : ByteArray) (hs : (L s).length ≤ 200) (hx : (L x).length ≤ 1000) (hy : (L y).length ≤ 1000) (ax : all_ (mem ⟨#[32, 58]⟩) (L x)) (ay : all_ (mem ⟨#[32, 58]⟩) (L y)) :
    Ev (fun k => conchlaw7_SplitTrims.j2 k s ⟨#[32, 58]⟩ (mkB (trim (mem ⟨#[32, 58]⟩) (L s))) x y false) true := by
  have hl := trim_len (mem ⟨#[32, 58]⟩) (L s)
  have hsx := sz x
  have hsy := sz y
  have hss := sz s
  refine Ev.step (fun k => by rw [conchlaw7_SplitTrims.j2]) ?_
  refine ev_neg (by simp) (Ev.bind (trim_some _ _ (by rw [L_mkB]; omega)) ?_)
  refine ev_pos (by rw [tl_mkB, tl_mkB, L_mkB, trim_trim]) (ev_pos (by omega) (ev_pos (by rw [sz, L_app]; simp; omega) ?_))
  refine Ev.bind (trim_some _ _ (by rw [L_app, L_app]; simp; omega)) ?_
  refine ev_pos (by rw [tl_mkB, tl_mkB, L_app, L_app, trim_around _ _ _ _ ax ay]) ?_
  refine Ev.bind (trim_some s ⟨#[]⟩ (by omega)) ?_
  have he : mem (⟨#[]⟩ : ByteArray) = fun _ => false := by funext c; simp [mem, L_lit]
  refine ev_pos (by rw [tl_mkB, tl, he, trim_none]; exact fun c _ => rfl) ?_
  exact ev_pos (by rw [sz_mkB, sz]; omega) (Ev.bind awake_some (Ev.now _))

theorem trims_y (d : Nat) : ∀ (n : Nat) (s x y : ByteArray) (b : Int), (b % 8).toNat - n = d → n ≤ 8 → (L s).length ≤ 200 → (L x).length ≤ 1000 → (L y).length ≤ n → all_ (mem ⟨#[32, 58]⟩) (L x) → all_ (mem ⟨#[32, 58]⟩) (L y) →
    Ev (fun k => conchlaw7_SplitTrims.l1 k s b ⟨#[32, 58]⟩ (mkB (trim (mem ⟨#[32, 58]⟩) (L s))) x y (n : Int)) true := by
  induction d with
  | zero =>
    intro n s x y b hd hn hs hx hy ax ay
    have fin := trims_end s x y hs hx (by omega) ax ay
    refine Ev.step (fun k => by rw [conchlaw7_SplitTrims.l1]) ?_
    refine ev_neg (by rw [bits_and7]; omega) ?_
    have hl := trim_len (mem ⟨#[32, 58]⟩) (L s)
    by_cases h0 : trim (mem ⟨#[32, 58]⟩) (L s) = []
    · exact ev_pos (by rw [tl_mkB]; exact h0) fin
    · refine ev_neg (by rw [tl_mkB]; exact h0) (ev_pos (by rw [sz_mkB]; have := List.length_pos_iff.mpr h0; omega) ?_)
      rcases trim_shape (mem ⟨#[32, 58]⟩) (L s) with h | ⟨c, m, hm, hc⟩
      · exact absurd h h0
      · rw [mem_two] at hc; simp at hc
        have b0 : bt (mkB (trim (mem ⟨#[32, 58]⟩) (L s))) 0 = (c.toNat : Int) := bt_0 (by rw [L_mkB, hm])
        have hlast := rtrim_last (mem ⟨#[32, 58]⟩) ((L s).dropWhile (mem ⟨#[32, 58]⟩)) h0
        have hsnoc : L (mkB (trim (mem ⟨#[32, 58]⟩) (L s))) = (trim (mem ⟨#[32, 58]⟩) (L s)).dropLast ++ [(trim (mem ⟨#[32, 58]⟩) (L s)).getLast h0] := by rw [L_mkB, List.dropLast_concat_getLast]
        have b1 := bt_last hsnoc (by simp; omega)
        have hlast' : mem ⟨#[32, 58]⟩ ((trim (mem ⟨#[32, 58]⟩) (L s)).getLast h0) = false := hlast
        generalize (trim (mem ⟨#[32, 58]⟩) (L s)).getLast h0 = e at *
        rw [mem_two] at hlast'; simp at hlast'
        have hw : wrap64 (((mkB (trim (mem ⟨#[32, 58]⟩) (L s))).size : Int) - 1) = ((trim (mem ⟨#[32, 58]⟩) (L s)).length : Int) - 1 := by rw [sz_mkB]; have := List.length_pos_iff.mpr h0; exact w64 (by omega) (by omega)
        have nx : ∀ u : UInt8, ¬ u = 32 → ¬ ((u.toNat : Int) = 32) := fun u h e => h (u8_int.mp (by rw [e]; rfl))
        have ny : ∀ u : UInt8, ¬ u = 58 → ¬ ((u.toNat : Int) = 58) := fun u h e => h (u8_int.mp (by rw [e]; rfl))
        refine ev_neg (by rw [b0]; exact nx c hc.1) (ev_neg (by rw [b0]; exact ny c hc.2) (ev_pos (by rw [hw]; have := List.length_pos_iff.mpr h0; omega) (ev_pos (by rw [hw, sz_mkB]; omega) (ev_neg (by rw [b1]; exact nx e hlast'.1) ?_))))
        have : (bt (mkB (trim (mem ⟨#[32, 58]⟩) (L s))) (wrap64 (((mkB (trim (mem ⟨#[32, 58]⟩) (L s))).size : Int) - 1)) == 58) = false := by rw [b1]; simpa using ny e hlast'.2
        simp only [this]
        exact fin
  | succ d ih =>
    intro n s x y b hd hn hs hx hy ax ay
    refine Ev.step (fun k => by rw [conchlaw7_SplitTrims.l1]) ?_
    refine ev_pos (by rw [bits_and7]; omega) (ev_pos (by rw [sz]; omega) ?_)
    rw [w64s (by omega)]
    refine ih (n + 1) s x _ b (by omega) (by omega) hs hx (by rw [L_app]; simp [L_lit]; omega) ax ?_
    intro c hc; rw [L_app] at hc
    rcases List.mem_append.mp hc with h | h
    · exact ay c h
    · simp [L_lit] at h; subst h; decide

theorem trims_x (d : Nat) : ∀ (n : Nat) (s x : ByteArray) (a b : Int), (a % 8).toNat - n = d → n ≤ 8 → (L s).length ≤ 200 → (L x).length ≤ 2 * n → all_ (mem ⟨#[32, 58]⟩) (L x) →
    Ev (fun k => conchlaw7_SplitTrims.l0 k s a b ⟨#[32, 58]⟩ (mkB (trim (mem ⟨#[32, 58]⟩) (L s))) x ⟨#[]⟩ (n : Int)) true := by
  induction d with
  | zero =>
    intro n s x a b hd hn hs hx ax
    refine Ev.step (fun k => by rw [conchlaw7_SplitTrims.l0]) ?_
    refine ev_neg (by rw [bits_and7]; omega) ?_
    exact trims_y _ 0 s x ⟨#[]⟩ b rfl (by omega) hs (by omega) (by simp [L_lit]) ax (fun c hc => by simp [L_lit] at hc)
  | succ d ih =>
    intro n s x a b hd hn hs hx ax
    refine Ev.step (fun k => by rw [conchlaw7_SplitTrims.l0]) ?_
    refine ev_pos (by rw [bits_and7]; omega) (ev_pos (by rw [sz]; omega) ?_)
    rw [w64s (by omega)]
    refine ih (n + 1) s _ a b (by omega) (by omega) hs (by rw [L_app]; simp [L_lit]; omega) ?_
    intro c hc; rw [L_app] at hc
    rcases List.mem_append.mp hc with h | h
    · exact ax c h
    · simp [L_lit] at h; rcases h with h | h <;> subst h <;> decide

theorem SplitTrims : conchlaw7_SplitTrims.Pure := by
  intro s a b hs ha hb
  refine ev_ex (r := true) ?_
  show Ev (fun k => conchlaw7_SplitTrims.f k s a b) true
  unfold conchlaw7_SplitTrims.f
  by_cases h1 : (s.size : Int) > 200
  · exact ev_pos h1 (Ev.bind awake_some (Ev.now _))
  · have h2 : (L s).length ≤ 200 := by rw [← sz]; omega
    refine ev_neg h1 (Ev.bind (trim_some s _ (by omega)) ?_)
    exact trims_x _ 0 s ⟨#[]⟩ a b rfl (by omega) h2 (by simp [L_lit]) (fun c hc => by simp [L_lit] at hc)

end Go.Proofs.Ytbembhfilbholaa.Pure
