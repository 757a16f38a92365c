/- An evaluator of the program's code over abstract values and an abstract heap: comparisons, cuts, parts, lengths. -/
import Derived.Test.YtadohhhjpbhhoaaEvF
namespace Go.Proofs.Ytadohhhjpbhhoaa.EvA
open Go.RowKit
set_option linter.unusedVariables false
set_option linter.unusedSimpArgs false
section
variable {P : Program} {d : Option Tmp} {t t2 t3 : TypeId} {pos : String} {af : Array Edge} {g : Option (Nat × Bool)}
/-- What a type's mode says of it. -/
theorem eqT0 (h : eqT P t2 = some 0) : P.underlying t2 = some .bool := by
  unfold eqT at h; split at h <;> simp at h <;> assumption
theorem eqT3 (h : eqT P t2 = some 3) : ∃ e, P.underlying t2 = some (.pointer e) := by
  unfold eqT at h; split at h <;> simp at h; rename_i e hu; exact ⟨_, hu⟩
theorem eqT4 (h : eqT P t2 = some 4) : ∃ e, P.underlying t2 = some (.slice e) := by
  unfold eqT at h; split at h <;> simp at h; rename_i e hu; exact ⟨_, hu⟩
theorem eqT5 (h : eqT P t2 = some 5) : ∃ k e, P.underlying t2 = some (.map k e) := by
  unfold eqT at h; split at h <;> simp at h; rename_i k e hu; exact ⟨_, _, hu⟩
theorem eqT6 (h : eqT P t2 = some 6) : ∃ a b c, P.underlying t2 = some (.func a b c) := by
  unfold eqT at h; split at h <;> simp at h; rename_i hu; exact ⟨_, _, _, hu⟩
theorem eqIn (n : Nat) {w : World} :
    (P.underlying t2 = some .bool → ∀ a b, (Op.equalIn (n + 1) t2 (.bool a) (.bool b)).run P w = .ok (a == b) w) ∧
    ((∃ e, P.underlying t2 = some (.pointer e)) → (∀ b, (Op.equalIn (n + 1) t2 (.pointer none) (.pointer b)).run P w = .ok b.isNone w) ∧ ∀ a, (Op.equalIn (n + 1) t2 (.pointer (some a)) (.pointer none)).run P w = .ok false w) ∧
    ((∃ e, P.underlying t2 = some (.slice e)) → (∀ b l c l2 c2, (Op.equalIn (n + 1) t2 (.slice none l c) (.slice b l2 c2)).run P w = .ok b.isNone w) ∧ ∀ a l c l2 c2, (Op.equalIn (n + 1) t2 (.slice (some a) l c) (.slice none l2 c2)).run P w = .ok false w) ∧
    ((∃ k e, P.underlying t2 = some (.map k e)) → (∀ b, (Op.equalIn (n + 1) t2 (.map none) (.map b)).run P w = .ok b.isNone w) ∧ ∀ a, (Op.equalIn (n + 1) t2 (.map (some a)) (.map none)).run P w = .ok false w) ∧
    ((∃ a b c, P.underlying t2 = some (.func a b c)) → (Op.equalIn (n + 1) t2 .nilFunc .nilFunc).run P w = .ok true w ∧ (∀ a b c, (Op.equalIn (n + 1) t2 .nilFunc (.func a b c)).run P w = .ok false w) ∧ ∀ a b c, (Op.equalIn (n + 1) t2 (.func a b c) .nilFunc).run P w = .ok false w) := by
  refine ⟨fun hu a b => ?_, fun ⟨e, hu⟩ => ⟨fun b => ?_, fun a => ?_⟩, fun ⟨e, hu⟩ => ⟨fun b l c l2 c2 => ?_, fun a l c l2 c2 => ?_⟩, fun ⟨k, e, hu⟩ => ⟨fun b => ?_, fun a => ?_⟩, fun ⟨a, b, c, hu⟩ => ⟨?_, fun a b c => ?_, fun a b c => ?_⟩⟩ <;>
    simp [Op.equalIn, underlying, program, bind, Sem.bind, pure, Sem.run, hu]
theorem eqTop {w : World} {u v : Value} {b : Bool} (h : (Op.equalIn (9999 + 1) t2 u v).run P w = .ok b w) : (Op.equal t2 u v).run P w = .ok b w := h
theorem run_eqs {w : World} {s : Sem Bool} {b : Bool} (h : s.run P w = .ok b w) : (do pure (Next.value (← (do pure (.bool (← s)))) : Next) : Sem Next).run P w = .ok (.value (.bool b)) w ∧ (do pure (Next.value (← (do pure (.bool (!(← s))))) : Next) : Sem Next).run P w = .ok (.value (.bool !b)) w := by
  constructor <;> simp [h, Result.andThen]
theorem ok_eqRun {x y : Operand} {m : Nat} (hm : eqT P t2 = some m) {G : Gh} {a : Act} {w : World} {p q : AV} {b : Bool} (hp : VR G p (a.eval x)) (hq : VR G q (a.eval y)) (hb : scalarEq m p q = some b) :
    (execOp a.eval ⟨d, .binOp .eql t2 x y t3, t, pos, af, g⟩).run P w = .ok (.value (.bool b)) w ∧ (execOp a.eval ⟨d, .binOp .neq t2 x y t3, t, pos, af, g⟩).run P w = .ok (.value (.bool !b)) w := by
  have hd : Op.maxDepth = 9999 + 1 := rfl
  unfold scalarEq at hb
  split at hb
  all_goals (first | (cases hb; done) | skip)
  all_goals (split at hb)
  all_goals (first | (cases hb; done) | skip)
  all_goals (rename_i hc; simp only [Option.some.injEq] at hb; subst hb)
  all_goals (simp only [VR] at hp hq)
  case h_1 => 
    subst hc
    have hu := eqT0 hm
    simp only [execOp, hp, hq, eqGuard, binOp]
    exact run_eqs (eqTop ((eqIn 9999 (w := w)).1 hu _ _))
  case h_2 =>
    obtain ⟨_, rfl⟩ := hc
    constructor
    · simp only [execOp, hp, hq, eqGuard, binOp, Op.intCmp, ne_eq, not_true_eq_false, if_false]; rfl
    · simp only [execOp, hp, hq, eqGuard, binOp, Op.intCmp, ne_eq, not_true_eq_false, if_false]; rfl
  case h_3 =>
    constructor
    · simp only [execOp, hp, hq, eqGuard, binOp, Op.stringOp]; rfl
    · simp only [execOp, hp, hq, eqGuard, binOp, Op.stringOp]; rfl
  all_goals (first | subst hc | skip)
  case h_4 => simp only [execOp, hp, hq, eqGuard, binOp]; exact run_eqs (eqTop (((eqIn 9999 (w := w)).2.1 (eqT3 hm)).1 _))
  case h_5 => obtain ⟨c, _, hq⟩ := hq; simp only [execOp, hp, hq, eqGuard, binOp]; exact run_eqs (eqTop (((eqIn 9999 (w := w)).2.1 (eqT3 hm)).1 _))
  case h_6 => obtain ⟨c, _, hp⟩ := hp; simp only [execOp, hp, hq, eqGuard, binOp]; exact run_eqs (eqTop (((eqIn 9999 (w := w)).2.1 (eqT3 hm)).2 _))
  case h_7 => obtain ⟨r, _, _, _, _, _, _, hq⟩ := hq; simp only [execOp, hp, hq, eqGuard, binOp]; exact run_eqs (eqTop (((eqIn 9999 (w := w)).2.1 (eqT3 hm)).1 _))
  case h_8 => obtain ⟨r, _, _, _, _, _, _, hp⟩ := hp; simp only [execOp, hp, hq, eqGuard, binOp]; exact run_eqs (eqTop (((eqIn 9999 (w := w)).2.1 (eqT3 hm)).2 _))
  case h_9 => simp only [execOp, hp, hq, eqGuard, binOp]; exact run_eqs (eqTop (((eqIn 9999 (w := w)).2.2.1 (eqT4 hm)).1 _ _ _ _ _))
  case h_10 =>
    obtain ⟨hc, hne⟩ := hc
    subst hc
    obtain ⟨_, _, ⟨g1, rfl, a1, cap, hq, g2⟩ | ⟨r, p, a1, cap, _, hq, _⟩⟩ := hq
    · obtain ⟨a2, rfl⟩ : ∃ a2, a1 = some a2 := by
        cases a1 with
        | some a2 => exact ⟨a2, rfl⟩
        | none => exact absurd rfl (g2 (Decidable.byContradiction fun e => hne ⟨g1, rfl, e⟩))
      simp only [execOp, hp, hq, eqGuard, binOp]; exact run_eqs (eqTop (((eqIn 9999 (w := w)).2.2.1 (eqT4 hm)).1 _ _ _ _ _))
    simp only [execOp, hp, hq, eqGuard, binOp]; exact run_eqs (eqTop (((eqIn 9999 (w := w)).2.2.1 (eqT4 hm)).1 _ _ _ _ _))
  case h_11 =>
    obtain ⟨hc, hne⟩ := hc
    subst hc
    obtain ⟨_, _, ⟨g1, rfl, a1, cap, hp, g2⟩ | ⟨r, p, a1, cap, _, hp, _⟩⟩ := hp
    · obtain ⟨a2, rfl⟩ : ∃ a2, a1 = some a2 := by
        cases a1 with
        | some a2 => exact ⟨a2, rfl⟩
        | none => exact absurd rfl (g2 (Decidable.byContradiction fun e => hne ⟨g1, rfl, e⟩))
      simp only [execOp, hp, hq, eqGuard, binOp]; exact run_eqs (eqTop (((eqIn 9999 (w := w)).2.2.1 (eqT4 hm)).2 _ _ _ _ _))
    simp only [execOp, hp, hq, eqGuard, binOp]; exact run_eqs (eqTop (((eqIn 9999 (w := w)).2.2.1 (eqT4 hm)).2 _ _ _ _ _))
  case h_12 => simp only [execOp, hp, hq, eqGuard, binOp]; exact run_eqs (eqTop (((eqIn 9999 (w := w)).2.2.2.1 (eqT5 hm)).1 _))
  case h_13 => obtain ⟨c, _, hq⟩ := hq; simp only [execOp, hp, hq, eqGuard, binOp]; exact run_eqs (eqTop (((eqIn 9999 (w := w)).2.2.2.1 (eqT5 hm)).1 _))
  case h_14 => obtain ⟨c, _, hp⟩ := hp; simp only [execOp, hp, hq, eqGuard, binOp]; exact run_eqs (eqTop (((eqIn 9999 (w := w)).2.2.2.1 (eqT5 hm)).2 _))
  case h_15 => simp only [execOp, hp, hq, eqGuard, binOp]; exact run_eqs (eqTop ((eqIn 9999 (w := w)).2.2.2.2 (eqT6 hm)).1)
  case h_16 => obtain ⟨l, hq, _⟩ := hq; simp only [execOp, hp, hq, eqGuard, binOp]; exact run_eqs (eqTop (((eqIn 9999 (w := w)).2.2.2.2 (eqT6 hm)).2.1 _ _ _))
  case h_17 => obtain ⟨l, hp, _⟩ := hp; simp only [execOp, hp, hq, eqGuard, binOp]; exact run_eqs (eqTop (((eqIn 9999 (w := w)).2.2.2.2 (eqT6 hm)).2.2 _ _ _))
theorem ok_eql {x y : Operand} {kx ky : AX} (hx : cX x = some kx) (hy : cX y = some ky) {m : Nat} (hm : eqT P t2 = some m) : OpOk P ⟨d, .binOp .eql t2 x y t3, t, pos, af, g⟩ (oEq false m kx ky) :=
  OpOk.pure fun call B w0 G h w a ts v h' h1 h2 h3 => by
    simp only [oEq] at h3
    split at h3
    · rename_i b hb
      simp only [Option.some.injEq, Prod.mk.injEq] at h3
      obtain ⟨rfl, rfl⟩ := h3
      exact ⟨rfl, .bool b, (ok_eqRun hm (cX_ok hx h1) (cX_ok hy h1) hb).1, by simp [VR]⟩
    · cases h3
theorem ok_neq {x y : Operand} {kx ky : AX} (hx : cX x = some kx) (hy : cX y = some ky) {m : Nat} (hm : eqT P t2 = some m) : OpOk P ⟨d, .binOp .neq t2 x y t3, t, pos, af, g⟩ (oEq true m kx ky) :=
  OpOk.pure fun call B w0 G h w a ts v h' h1 h2 h3 => by
    simp only [oEq] at h3
    split at h3
    · rename_i b hb
      simp only [Option.some.injEq, Prod.mk.injEq] at h3
      obtain ⟨rfl, rfl⟩ := h3
      exact ⟨rfl, .bool !b, (ok_eqRun hm (cX_ok hx h1) (cX_ok hy h1) hb).2, by simp [VR]⟩
    · cases h3
end
end Go.Proofs.Ytadohhhjpbhhoaa.EvA
