/- An evaluator of the program's code over abstract values and an abstract heap: regions whose order is drawn. -/
import Derived.Test.YtadohhhjpbhhoaaEvT
import Derived.Orders
namespace Go.Proofs.Ytadohhhjpbhhoaa.EvA
open Go.RowKit
set_option linter.unusedVariables false
set_option linter.unusedSimpArgs false
theorem nth_upd_ne {ts : Tmps} {v : AV} {d t : Nat} (h : t ≠ d) : nth (upd ts v d) t = nth ts t := by
  rw [nth_getD, nth_getD, upd_set, List.getD_eq_getElem?_getD, List.getD_eq_getElem?_getD, List.getElem?_set_ne (Ne.symm h)]
theorem upd_comm (ts : Tmps) {v u : AV} {d e : Nat} (h : d ≠ e) : upd (upd ts v d) u e = upd (upd ts u e) v d := by
  rw [upd_set, upd_set, upd_set, upd_set, List.set_comm _ _ h]
/-- Two rows of temporaries are alike at some operands. -/
def Alike (l : List Operand) (t1 t2 : Tmps) : Prop := ∀ x ∈ l, ∀ k, cX x = some k → k t1 = k t2
theorem alike_upd {l : List Operand} {ts : Tmps} {v : AV} {d : Nat} (h : d ∉ l.filterMap fun | .tmp t => some t | _ => none) : Alike l (upd ts v d) ts := by
  intro x hx k hk
  cases x with
  | tmp t =>
    simp only [cX, Option.some.injEq] at hk; subst hk
    exact nth_upd_ne fun e => h (List.mem_filterMap.2 ⟨.tmp t, hx, by simp [e]⟩)
  | const c =>
    simp only [cX, Option.map_eq_some_iff] at hk
    obtain ⟨b, _, rfl⟩ := hk; rfl
  | global g => simp [cX] at hk
  | func f => simp only [cX, Option.some.injEq] at hk; subst hk; rfl
theorem alike_vals {t1 t2 : Tmps} : ∀ {l : List Operand} {ks : List AX}, cXs l = some ks → Alike l t1 t2 → vals ks t1 = vals ks t2
  | [], ks, hk, _ => by simp [cXs] at hk; subst hk; rfl
  | x :: l, ks, hk, h => by
    simp only [cXs, List.mapM_cons, Option.bind_eq_bind, Option.bind_eq_some_iff, Option.pure_def, Option.some.injEq] at hk
    obtain ⟨b, hb, m, hm, rfl⟩ := hk
    show b t1 :: vals m t1 = b t2 :: vals m t2
    rw [h x (List.mem_cons_self ..) b hb, alike_vals hm fun y hy => h y (List.mem_cons_of_mem _ hy)]
theorem alike_opt {t1 t2 : Tmps} {x : Option Operand} {k : Option AX} (hk : cO x = some k) (h : Alike x.toList t1 t2) : opt k t1 = opt k t2 := by
  cases x with
  | none => simp only [cO, Option.some.injEq] at hk; subst hk; rfl
  | some y =>
    simp only [cO, Option.map_eq_some_iff] at hk
    obtain ⟨j, hj, rfl⟩ := hk
    simp only [opt]; rw [h y (by simp) j hj]
theorem alike_parts {place : Nat → Option (Nat × Nat)} {t1 t2 : Tmps} : ∀ {ps : List (Nat × Operand)} {qs : List (Nat × Nat × AX)}, PlOk place ps qs → Alike (ps.map (·.2)) t1 t2 → partsOf qs t1 = partsOf qs t2
  | [], [], _, _ => rfl
  | (i, x) :: r, (off, size, k) :: s, ⟨_, h2, h3⟩, h => by
    simp only [partsOf, List.map_cons]
    rw [h x (by simp) k h2]
    congr 1
    exact alike_parts h3 fun y hy => h y (by simp at hy ⊢; exact Or.inr hy)
  | [], _ :: _, h0, _ => h0.elim
  | _ :: _, [], h0, _ => h0.elim
/-- What an operation does hangs on its operands' values alone. -/
theorem cOp_alike {P : Program} {op : Op} {k : KO} (hk : cOp P op = some k) {t1 t2 : Tmps} (H : Alike op.operands.toList t1 t2) (call : Fn) (h : AH) : k call t1 h = k call t2 h := by
  unfold cOp at hk
  split at hk
  case h_1 => obtain ⟨a, h1, rfl⟩ := Option.map_eq_some_iff.1 hk; simp only [oMove]; rw [H _ (by simp [Op.operands]) _ h1]
  case h_2 => obtain ⟨a, h1, rfl⟩ := Option.map_eq_some_iff.1 hk; simp only [oMove]; rw [H _ (by simp [Op.operands]) _ h1]
  case h_3 =>
    split at hk
    · rename_i h1 h2 h3; simp only [Option.some.injEq] at hk; subst hk; simp only [oPick]; rw [H _ (by simp [Op.operands]) _ h1, H _ (by simp [Op.operands]) _ h2, H _ (by simp [Op.operands]) _ h3]
    · cases hk
  case h_4 =>
    split at hk
    · simp only [Option.some.injEq] at hk; subst hk; rfl
    · cases hk
  case h_5 =>
    split at hk
    · rename_i h1 h2; simp only [Option.some.injEq] at hk; subst hk; simp only [oBox]; rw [H _ (by simp [Op.operands]) _ h2]
    · cases hk
  case h_6 =>
    split at hk
    · split at hk
      · obtain ⟨q, h1, rfl⟩ := Option.map_eq_some_iff.1 hk
        simp only [oBuild]; rw [alike_parts (partsP_ok h1) (by simpa [Op.operands] using H)]
      · cases hk
    · split at hk
      · obtain ⟨q, h1, rfl⟩ := Option.map_eq_some_iff.1 hk
        simp only [oBuild]; rw [alike_parts (partsA_ok h1) (by simpa [Op.operands] using H)]
      · cases hk
    · cases hk
  case h_7 =>
    split at hk
    · split at hk
      · split at hk
        · obtain ⟨q, h1, rfl⟩ := Option.map_eq_some_iff.1 hk
          simp only [oRow]; rw [alike_parts (partsA_ok h1) (by simpa [Op.operands] using H)]
        · cases hk
      · cases hk
    · cases hk
  case h_8 =>
    split at hk
    · rename_i h1 h2; simp only [Option.some.injEq] at hk; subst hk; simp only [oLoad]; rw [H _ (by simp [Op.operands]) _ h2]
    · cases hk
  case h_9 =>
    split at hk
    · rename_i h1 h2 h3; simp only [Option.some.injEq] at hk; subst hk; simp only [oStore]; rw [H _ (by simp [Op.operands]) _ h2, H _ (by simp [Op.operands]) _ h3]
    · cases hk
  case h_10 => obtain ⟨a, h1, rfl⟩ := Option.map_eq_some_iff.1 hk; simp only [oNil]; rw [H _ (by simp [Op.operands]) _ h1]
  case h_11 =>
    split at hk
    · rename_i h1 h2
      have e1 := H _ (by simp [Op.operands]) _ h1
      have e2 := H _ (by simp [Op.operands]) _ h2
      split at hk
      · rcases eqK_cases hk with ⟨q, rfl⟩ | ⟨q, rfl⟩ <;> simp only [oEq, oEqS, e1, e2]
      · rcases eqK_cases hk with ⟨q, rfl⟩ | ⟨q, rfl⟩ <;> simp only [oEq, oEqS, e1, e2]
      · simp only [Option.some.injEq] at hk; subst hk; simp only [oShl, e1, e2]
      · simp only [Option.some.injEq] at hk; subst hk; simp only [oShr, e1, e2]
      · simp only [Option.some.injEq] at hk; subst hk; simp only [oArith, e1, e2]
    · cases hk
  case h_12 =>
    split at hk
    · obtain ⟨a, h1, rfl⟩ := Option.map_eq_some_iff.1 hk; simp only [oNot]; rw [H _ (by simp [Op.operands]) _ h1]
    · obtain ⟨a, h1, rfl⟩ := Option.map_eq_some_iff.1 hk; simp only [oNeg]; rw [H _ (by simp [Op.operands]) _ h1]
    · cases hk
  case h_13 =>
    split at hk
    · obtain ⟨a, h3, rfl⟩ := Option.map_eq_some_iff.1 hk; simp only [oConv]; rw [H _ (by simp [Op.operands]) _ h3]
    · cases hk
  case h_14 =>
    split at hk
    · rename_i first captured h1
      obtain ⟨a, h3, rfl⟩ := Option.map_eq_some_iff.1 hk
      simp only [oFn]; rw [alike_vals h3 fun y hy => H y (by simp [Op.operands]; exact Or.inr (by simpa using hy))]
    · split at hk
      · obtain ⟨a, h3, rfl⟩ := Option.map_eq_some_iff.1 hk
        simp only [oMfn]; rw [alike_vals h3 fun y hy => H y (by simp [Op.operands]; exact Or.inl (by simpa using hy))]
      · cases hk
  case h_15 =>
    split at hk
    · cases hk
    · split at hk
      · rename_i h1 h2 h3 h4; simp only [Option.some.injEq] at hk; subst hk; simp only [oCutstr]
        rw [H _ (by simp [Op.operands]) _ h2, alike_opt h3 fun y hy => H y (by simp [Op.operands]; simp at hy; simp [hy]), alike_opt h4 fun y hy => H y (by simp [Op.operands]; simp at hy; simp [hy])]
      · rename_i h1 h2 h3 h4; obtain ⟨q, h5, rfl⟩ := Option.map_eq_some_iff.1 hk; simp only [oCutrow]
        rw [H _ (by simp [Op.operands]) _ h2, alike_opt h3 fun y hy => H y (by simp [Op.operands]; simp at hy; simp [hy]), alike_opt h4 fun y hy => H y (by simp [Op.operands]; simp at hy; simp [hy])]
      · cases hk
  case h_16 =>
    split at hk
    · rename_i h1 h2
      split at hk
      · split at hk
        · cases hk
        · split at hk
          · simp only [Option.some.injEq] at hk; subst hk; simp only [oFaddr]; rw [H _ (by simp [Op.operands]) _ h2]
          · cases hk
      · cases hk
    · cases hk
  case h_17 =>
    split at hk
    · rename_i h1 h2
      split at hk
      · obtain ⟨q, h5, rfl⟩ := Option.map_eq_some_iff.1 hk; simp only [oField]; rw [H _ (by simp [Op.operands]) _ h2]
      · cases hk
    · cases hk
  case h_18 =>
    split at hk
    · rename_i h1 h2
      have e1 := H _ (by simp [Op.operands]) _ h1
      have e2 := H _ (by simp [Op.operands]) _ h2
      rcases iaddrK_cases hk with ⟨s, rfl⟩ | ⟨n, s, rfl⟩ <;> simp only [oIaddr, oIaddrA, e1, e2]
    · cases hk
  case h_19 =>
    split at hk
    · rename_i h1 h2 h3; simp only [Option.some.injEq] at hk; subst hk; simp only [oIdx]; rw [H _ (by simp [Op.operands]) _ h2, H _ (by simp [Op.operands]) _ h3]
    · cases hk
  case h_20 => obtain ⟨a, h1, rfl⟩ := Option.map_eq_some_iff.1 hk; simp only [oExtract]; rw [H _ (by simp [Op.operands]) _ h1]
  case h_21 =>
    split at hk
    · rename_i h1 h2 h3
      split at hk
      · simp only [Option.some.injEq] at hk; subst hk; simp only [oLookup]; rw [H _ (by simp [Op.operands]) _ h2, H _ (by simp [Op.operands]) _ h3]
      · cases hk
    · cases hk
  case h_22 =>
    split at hk
    · rename_i h1 h2 h3 h4; obtain ⟨q, h5, rfl⟩ := Option.map_eq_some_iff.1 hk; simp only [oSet]; rw [H _ (by simp [Op.operands]) _ h2, H _ (by simp [Op.operands]) _ h3, H _ (by simp [Op.operands]) _ h4]
    · cases hk
  case h_23 =>
    split at hk
    · rename_i h1 h2 h3 h4; obtain ⟨q, h5, rfl⟩ := Option.map_eq_some_iff.1 hk; simp only [oSet]; rw [H _ (by simp [Op.operands]) _ h2, H _ (by simp [Op.operands]) _ h3, H _ (by simp [Op.operands]) _ h4]
    · cases hk
  case h_24 => simp only [Option.some.injEq] at hk; subst hk; rfl
  case h_25 =>
    rename_i c
    obtain ⟨callee, ⟨args⟩, ⟨ats⟩⟩ := c
    split at hk
    · rename_i f hc
      simp only at hc; subst hc
      obtain ⟨q, h5, rfl⟩ := Option.map_eq_some_iff.1 hk
      simp only [oCall]; rw [alike_vals h5 fun y hy => H y (by simp [Op.operands, Call.operands]; exact Or.inr (by simpa using hy))]
    · rename_i x _ hc
      simp only at hc; subst hc
      split at hk
      · rename_i h1 h2; simp only [Option.some.injEq] at hk; subst hk
        simp only [oCallv]; rw [H _ (by simp [Op.operands, Call.operands]) _ h1, alike_vals h2 fun y hy => H y (by simp [Op.operands, Call.operands]; exact Or.inr (by simpa using hy))]
      · cases hk
    · rename_i hc
      simp only at hc; subst hc
      split at hk
      · rename_i x u e1 e2
        simp only at e1 e2; subst e1; subst e2
        split at hk
        · rename_i h1 h2; simp only [Option.some.injEq] at hk; subst hk; simp only [oLenS]; rw [H _ (by simp [Op.operands, Call.operands]) _ h2]
        · rename_i h1 h2; simp only [Option.some.injEq] at hk; subst hk; simp only [oLenR]; rw [H _ (by simp [Op.operands, Call.operands]) _ h2]
        · rename_i h1 h2; simp only [Option.some.injEq] at hk; subst hk; simp only [oLenM]; rw [H _ (by simp [Op.operands, Call.operands]) _ h2]
        · cases hk
      · cases hk
    · rename_i hc
      simp only at hc; subst hc
      split at hk
      · rename_i x y e1
        simp only at e1; subst e1
        split at hk
        · rename_i h1 h2; simp only [Option.some.injEq] at hk; subst hk; simp only [oMin]; rw [H _ (by simp [Op.operands, Call.operands]) _ h1, H _ (by simp [Op.operands, Call.operands]) _ h2]
        · cases hk
      · cases hk
    · rename_i hc
      simp only at hc; subst hc
      split at hk
      · rename_i x y e1
        simp only at e1; subst e1
        split at hk
        · rename_i h1 h2; simp only [Option.some.injEq] at hk; subst hk; simp only [oMax]; rw [H _ (by simp [Op.operands, Call.operands]) _ h1, H _ (by simp [Op.operands, Call.operands]) _ h2]
        · cases hk
      · cases hk
    · rename_i hc
      simp only at hc; subst hc
      split at hk
      · rename_i s x u v e1 e2
        simp only at e1 e2; subst e1; subst e2
        split at hk
        · rename_i h1 h2 h3 h4
          split at hk
          · split at hk
            · simp only [Option.some.injEq] at hk; subst hk; simp only [oAppend]; rw [H _ (by simp [Op.operands, Call.operands]) _ h3, H _ (by simp [Op.operands, Call.operands]) _ h4]
            · cases hk
          · cases hk
        · cases hk
      · cases hk
    · rename_i hc
      simp only at hc; subst hc
      split at hk
      · rename_i m k u r e1 e2
        simp only at e1 e2; subst e1; subst e2
        split at hk
        · rename_i h1 h2 h3
          obtain ⟨q, h5, rfl⟩ := Option.map_eq_some_iff.1 hk; simp only [oDelete]; rw [H _ (by simp [Op.operands, Call.operands]) _ h2, H _ (by simp [Op.operands, Call.operands]) _ h3]
        · cases hk
      · cases hk
    · cases hk
  case h_26 => cases hk
theorem rowZ_spec {P : Program} {t : TypeId} {n : Nat} {parts : Array (Nat × Operand)} {k : KO} (hk : rowZ P t n parts = some k) : ∃ s zs qs, partsA s parts.toList = some qs ∧ k = oRowZ n s zs qs := by
  unfold rowZ at hk
  split at hk
  · split at hk
    · split at hk
      · obtain ⟨a, h1, rfl⟩ := Option.map_eq_some_iff.1 hk
        exact ⟨_, _, _, h1, rfl⟩
      · cases hk
    · cases hk
  · cases hk
theorem cOpZ_alike {z : Bool} {P : Program} {op : Op} {k : KO} (hk : cOpZ z P op = some k) {t1 t2 : Tmps} (H : Alike op.operands.toList t1 t2) (call : Fn) (h : AH) : k call t1 h = k call t2 h := by
  unfold cOpZ at hk
  split at hk
  · exact cOp_alike hk H call h
  · split at hk
    · obtain ⟨s, zs, qs, h1, rfl⟩ := rowZ_spec hk
      simp only [oRowZ]; rw [alike_parts (partsA_ok h1) (by simpa [Op.operands] using H)]
    · exact cOp_alike hk H call h
end Go.Proofs.Ytadohhhjpbhhoaa.EvA
