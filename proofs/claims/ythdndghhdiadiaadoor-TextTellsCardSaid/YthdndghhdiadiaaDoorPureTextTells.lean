/- Names, numbers and lines are told as the document says, of any bytes and from any place: the plain statement. -/
import Derived.Test.YthdndghhdiadiaaDoorPAllx4
import Derived.Test.YthdndghhdiadiaaDoorTextC
namespace Go.Proofs.YthdndghhdiadiaaDoor.Pure
open Go.RowKit Go.Proofs.YthdndghhdiadiaaDoor.PAll Go.Proofs.YthdndghhdiadiaaDoorW.PrintWords Go.Proofs.YthdndghhdiadiaaDoorW.PrintLast Go.Proofs.YthdndghhdiadiaaDoor.B Go.Proofs.YthdndghhdiadiaaDoor.TextL Go.Proofs.YthdndghhdiadiaaDoor.TextC
set_option linter.unusedVariables false
set_option linter.unusedSimpArgs false
theorem go_len : ∀ (l p : List UInt8), (go p l).length ≤ l.length + 1
  | [], p => by rw [go]; split <;> simp
  | c :: l, p => by
    rw [go]; split
    · have := go_len l []; simp only [List.length_cons]; omega
    · have := go_len l (p ++ [c]); simp only [List.length_cons]; omega
theorem TextTells : conchlaw1_TextTells.Pure := by
  intro a0 a1 a2 h0 w1 w2
  obtain ⟨b0, b1⟩ := i64_wf w2
  apply ev_ex
  unfold conchlaw1_TextTells.f
  by_cases hbig : (a0.size : Int) > 400
  · exact ev_pos hbig (Ev.bind awake_some (ev_now rfl))
  refine ev_neg hbig ?_
  have e1 := sz a0
  have hs : (L a0).length ≤ 1000000 := by omega
  have fin : ∀ at_, Ev (fun k => conchlaw1_TextTells.l0 k a0 at_ a2 2) true := by
    intro at_
    refine Ev.step (fun k => by rw [conchlaw1_TextTells.l0]) (ev_neg (by omega) ?_)
    refine Ev.bind (number_some a0 hs) (Ev.bind (ref_number_some a0 hs) (ev_pos rfl (ev_pos (by simp) ?_)))
    refine Ev.bind (name_some a0 hs) (Ev.bind (ref_name_some a0 hs) (ev_pos (by simp) ?_))
    rw [digits_some a2 b0 b1]
    refine ev_some (Ev.bind (ref_digits_some a2 b0 b1) (ev_pos rfl ?_))
    rw [lines_some a0 hs]
    refine ev_some (Ev.bind (ref_lines_some a0 hs) (Ev.bind (same_some _ _ ?_) (ev_pos (by simp) (Ev.bind awake_some (ev_now rfl)))))
    have := go_len (L a0) []
    rw [lines_go] at this
    rw [List.length_map]; omega
  have rnd : ∀ (i : Nat) at_, i < 2 → (∀ at', Ev (fun k => conchlaw1_TextTells.l0 k a0 at' a2 ((i + 1 : Nat) : Int)) true) → Ev (fun k => conchlaw1_TextTells.l0 k a0 at_ a2 (i : Int)) true := by
    intro i at_ hi H
    refine Ev.step (fun k => by rw [conchlaw1_TextTells.l0]) (ev_pos (by omega) ?_)
    refine Ev.bind (nameLen_some a0 at_ hs) (Ev.bind (ref_nameLen_some a0 at_ hs) (ev_pos rfl (ev_neg ?_ ?_)))
    · rw [w64 (by omega) (by omega)]; omega
    · rw [w64s (n := i) (by omega)]; exact H _
  exact rnd 0 a1 (by omega) fun x => rnd 1 x (by omega) fun y => fin y
end Go.Proofs.YthdndghhdiadiaaDoor.Pure
