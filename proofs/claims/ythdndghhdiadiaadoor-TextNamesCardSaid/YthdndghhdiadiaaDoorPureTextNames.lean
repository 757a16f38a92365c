/- Names are joined to names, with digits behind, and nothing else: the plain statement. -/
import Derived.Test.YthdndghhdiadiaaDoorPAllx5
import Derived.Test.YthdndghhdiadiaaDoorTextC
namespace Go.Proofs.YthdndghhdiadiaaDoor.Pure
open Go.RowKit Go.Proofs.YthdndghhdiadiaaDoor.PAll Go.Proofs.YthdndghhdiadiaaDoorW.PrintWords Go.Proofs.YthdndghhdiadiaaDoorW.PrintLast Go.Proofs.YthdndghhdiadiaaDoor.B Go.Proofs.YthdndghhdiadiaaDoor.TextL Go.Proofs.YthdndghhdiadiaaDoor.TextC
set_option linter.unusedVariables false
set_option linter.unusedSimpArgs false
theorem one_name (c : UInt8) : isName [c] = letterB c := by simp [isName]
theorem a_name (c : UInt8) : isName [97, c] = (letterB c || digitB c) := by simp [isName, more, letterB]
theorem names_j2 (c : UInt8) : Ev (fun k => conchlaw1_TextNames.j2 k (c.toNat : Int) (letterB c)) true := by
  have hc := c.toNat_lt
  have es : strOfNums [(c.toNat : Int)] = mkB [c] := by
    apply L_inj; rw [L_mkB]; simp [strOfNums, L]
  have e97 : L (⟨#[97]⟩ : ByteArray) = [97] := rfl
  refine Ev.step (fun k => by rw [conchlaw1_TextNames.j2]) (ev_some ?_)
  rw [es]
  have h1 := name_some (mkB [c]) (by rw [L_mkB]; simp)
  rw [L_mkB, one_name] at h1
  have h2 := name_some ((⟨#[97]⟩ : ByteArray) ++ mkB [c]) (by rw [L_app, L_mkB, e97]; simp)
  rw [L_app, L_mkB, e97, show [97] ++ [c] = [97, c] from rfl, a_name] at h2
  have h3 := name_some (⟨#[]⟩ : ByteArray) (by decide)
  rw [show isName (L (⟨#[]⟩ : ByteArray)) = false from rfl] at h3
  refine Ev.bind h1 (ev_pos (by simp) (ev_pos (by rw [sz_mkB]; simp) (Ev.bind h2 ?_)))
  have last : Ev (fun k => (text_Name.f k (⟨#[]⟩ : ByteArray)).bind fun t195 => if t195 = true then some false else (conchlaw1_awake.f k).bind fun t196 => some t196) true :=
    Ev.bind h3 (ev_neg (by decide) (Ev.bind awake_some (ev_now rfl)))
  by_cases hl : letterB c = true
  · exact ev_pos hl (ev_pos (by simp [hl]) last)
  · have hl' : letterB c = false := by simpa using hl
    refine ev_neg hl ?_
    by_cases h48 : (c.toNat : Int) ≥ 48
    · refine ev_pos h48 (ev_pos ?_ last)
      rw [hl']; simp only [digitB, Bool.false_or, beq_iff_eq]
      rw [Bool.eq_iff_iff]; simp only [Bool.and_eq_true, decide_eq_true_eq]; omega
    · refine ev_neg h48 (ev_pos ?_ last)
      rw [hl']; simp only [digitB, Bool.false_or, beq_iff_eq]
      rw [Bool.eq_iff_iff]; simp only [Bool.and_eq_true, decide_eq_true_eq, Bool.false_eq_true, iff_false]; omega
theorem names_j1 (c : UInt8) : Ev (fun k => conchlaw1_TextNames.j1 k (c.toNat : Int) false) true := by
  have hc := c.toNat_lt
  have h := names_j2 c
  refine Ev.step (fun k => by rw [conchlaw1_TextNames.j1]) (ev_neg (by decide) ?_)
  have tell : ∀ b : Bool, (b = true ↔ letterB c = true) → Ev (fun k => conchlaw1_TextNames.j2 k (c.toNat : Int) b) true := by
    intro b hb; have : b = letterB c := Bool.eq_iff_iff.mpr hb
    rw [this]; exact h
  have hlet : letterB c = true ↔ ((97 ≤ c.toNat ∧ c.toNat ≤ 122) ∨ (65 ≤ c.toNat ∧ c.toNat ≤ 90) ∨ c.toNat = 95) := by
    simp only [letterB, Bool.or_eq_true, Bool.and_eq_true, decide_eq_true_eq, beq_iff_eq]; omega
  by_cases h95 : (c.toNat : Int) = 95
  · exact ev_pos h95 (tell _ (by rw [hlet]; simp; omega))
  refine ev_neg h95 ?_
  by_cases h97 : (c.toNat : Int) ≥ 97
  · refine ev_pos h97 ?_
    by_cases h122 : (c.toNat : Int) ≤ 122
    · exact ev_pos h122 (tell _ (by rw [hlet]; simp; omega))
    · exact ev_neg h122 (ev_pos (by omega) (tell _ (by rw [hlet, decide_eq_true_eq]; omega)))
  · refine ev_neg h97 ?_
    by_cases h65 : (c.toNat : Int) ≥ 65
    · exact ev_pos h65 (tell _ (by rw [hlet, decide_eq_true_eq]; omega))
    · exact ev_neg h65 (tell _ (by rw [hlet]; simp; omega))
theorem TextNames : conchlaw1_TextNames.Pure := by
  intro a0 a1 a2 h0 h1 w2
  obtain ⟨c, rfl⟩ := u8_wf w2
  apply ev_ex
  unfold conchlaw1_TextNames.f
  have e0 := sz a0
  have e1 := sz a1
  have e7 : L (⟨#[55]⟩ : ByteArray) = [55] := rfl
  have em : L (⟨#[45]⟩ : ByteArray) = [45] := rfl
  have big : Ev (fun k => conchlaw1_TextNames.j0 k a0 a1 (c.toNat : Int) true) true :=
    Ev.step (fun k => by rw [conchlaw1_TextNames.j0]) (ev_pos rfl (Ev.bind awake_some (ev_now rfl)))
  by_cases hb0 : (a0.size : Int) > 100
  · exact ev_pos hb0 big
  refine ev_neg hb0 ?_
  by_cases hb1 : (a1.size : Int) > 100
  · rw [decide_eq_true hb1]; exact big
  rw [decide_eq_false hb1]
  refine Ev.step (fun k => by rw [conchlaw1_TextNames.j0]) (ev_neg (by decide) ?_)
  refine Ev.bind (name_some a0 (by omega)) ?_
  by_cases hA : isName (L a0) = true
  case neg => exact ev_neg hA (names_j1 c)
  refine ev_pos hA (Ev.bind (name_some a1 (by omega)) ?_)
  by_cases hB : isName (L a1) = true
  case neg => exact ev_neg hB (names_j1 c)
  refine ev_pos hB ?_
  have hx1 := name_some (a0 ++ a1) (by rw [L_app]; simp; omega)
  rw [L_app, isName_app _ _ hA (isName_more _ hB)] at hx1
  refine ev_pos (by omega) (Ev.bind hx1 (ev_pos rfl (ev_pos (by omega) (ev_pos (by rw [sz, L_app, e7]; simp; omega) ?_))))
  have hx2 := name_some ((a0 ++ (⟨#[55]⟩ : ByteArray)) ++ a1) (by rw [L_app, L_app, e7]; simp; omega)
  rw [L_app, L_app, e7, isName_app _ _ (isName_app _ _ hA (by decide)) (isName_more _ hB)] at hx2
  refine Ev.bind hx2 (ev_pos rfl (ev_pos (by rw [sz, L_app, em]; simp; omega) ?_))
  have hx3 := nameLen_some ((a0 ++ (⟨#[45]⟩ : ByteArray)) ++ a1) 0 (by rw [L_app, L_app, em]; simp; omega)
  rw [nameAt_0, L_app, L_app, em, List.append_assoc, show [45] ++ L a1 = 45 :: L a1 from rfl, nameL_stop _ _ _ hA (by decide)] at hx3
  refine Ev.bind hx3 (ev_pos (by omega) (ev_pos (by omega) ?_))
  have hx4 := nameLen_some ((⟨#[45]⟩ : ByteArray) ++ a1) 1 (by rw [L_app, em]; simp; omega)
  have hne := (isName_iff _).mp hB
  have hpos : 0 < (L a1).length := List.length_pos_iff.mpr hne.1
  have h5 : nameAt ((⟨#[45]⟩ : ByteArray) ++ a1) 1 = (L a1).length := by
    unfold nameAt
    rw [L_app, em, if_neg (by simp; omega)]
    exact hne.2
  rw [h5] at hx4
  refine Ev.bind hx4 ?_
  rw [show (!((((L a1).length : Nat) : Int) == (a1.size : Int))) = false by rw [e1]; simp]
  exact names_j1 c
end Go.Proofs.YthdndghhdiadiaaDoor.Pure
