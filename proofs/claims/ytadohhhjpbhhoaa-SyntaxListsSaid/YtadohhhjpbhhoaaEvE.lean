/- An evaluator of the program's code over abstract values and an abstract heap: operands, and the operations that touch no heap. -/
import Derived.Test.YtadohhhjpbhhoaaEvD
import Derived.Laws.Bits64
namespace Go.Proofs.Ytadohhhjpbhhoaa.EvA
open Go.RowKit
set_option linter.unusedVariables false
set_option linter.unusedSimpArgs false

mutual
theorem VR_const (G : Gh) : ∀ (n : Nat) (v : Value) (a : AV), toAV n v = some a → VR G a v
  | 0, v, a, h => by simp [toAV] at h
  | n + 1, v, a, h => by
    cases v with
    | bool b => simp only [toAV, Option.some.injEq] at h; subst h; simp [VR]
    | int k i => simp only [toAV, Option.some.injEq] at h; subst h; simp [VR]
    | string s => simp only [toAV, Option.some.injEq] at h; subst h; simp [VR]
    | pointer p => cases p with
      | none => simp only [toAV, Option.some.injEq] at h; subst h; simp [VR]
      | some p => simp [toAV] at h
    | slice p l c => cases p with
      | none =>
        simp only [toAV] at h
        split at h
        · rename_i hc; simp only [Option.some.injEq] at h; subst h; simp only [VR]; rw [hc.1, hc.2]
        · cases h
      | some p => simp [toAV] at h
    | map p => cases p with
      | none => simp only [toAV, Option.some.injEq] at h; subst h; simp [VR]
      | some p => simp [toAV] at h
    | nilFunc => simp only [toAV, Option.some.injEq] at h; subst h; simp [VR]
    | nilIface => simp only [toAV, Option.some.injEq] at h; subst h; simp [VR]
    | agg cs =>
      simp only [toAV, Option.map_eq_some_iff] at h
      obtain ⟨l, h1, rfl⟩ := h
      obtain ⟨cs⟩ := cs
      simp only [VR]; exact ⟨cs, rfl, VRs_const G n cs l h1⟩
    | tuple cs =>
      simp only [toAV] at h
      split at h
      · rename_i hc
        simp only [Option.some.injEq] at h; subst h
        obtain ⟨cs⟩ := cs
        have : cs = [] := by simpa using hc
        subst this
        simp only [VR, AV.undef]; exact ⟨[], rfl, by simp [VRs]⟩
      · cases h
    | _ => simp [toAV] at h
theorem VRs_const (G : Gh) : ∀ (n : Nat) (v : List Value) (a : List AV), toAVs n v = some a → VRs G a v
  | 0, v, a, h => by simp [toAVs] at h
  | n + 1, [], a, h => by simp only [toAVs, Option.some.injEq] at h; subst h; simp [VRs]
  | n + 1, v :: r, a, h => by
    simp only [toAVs] at h
    split at h
    · rename_i x l h1 h2
      simp only [Option.some.injEq] at h; subst h
      simp only [VRs]; exact ⟨v, r, rfl, VR_const G n v x h1, VRs_const G n r l h2⟩
    · cases h
end
theorem VR_undef (G : Gh) : VR G (.tup []) undef := by simp only [VR]; exact ⟨[], rfl, by simp [VRs]⟩
theorem VR_getD {G : Gh} {ts : Tmps} {l : Array Value} (h : VRs G ts l.toList) (t : Nat) : VR G (nth ts t) (l.getD t undef) := by
  rw [nth_getD]
  rcases Nat.lt_or_ge t ts.length with hl | hl
  · obtain ⟨v, hv, hr⟩ := VRs_get h (List.getElem?_eq_getElem hl)
    have e : ts.getD t .undef = ts[t] := by simp [List.getD, hl]
    have e2 : l.getD t undef = v := by
      rw [Array.getElem?_toList] at hv
      simp [Array.getD_eq_getD_getElem?, hv]
    rw [e, e2]; exact hr
  · have e : ts.getD t .undef = .tup [] := by simp [List.getD, List.getElem?_eq_none hl]
    have e2 : l.getD t undef = undef := by
      have := VRs_length h
      rw [Array.getD_eq_getD_getElem?, Array.getElem?_eq_none (by simpa [← this] using hl)]; rfl
    rw [e, e2]; exact VR_undef G
theorem cX_ok {G : Gh} {x : Operand} {k : AX} (hk : cX x = some k) {ts : Tmps} {a : Act} (h : VRs G ts a.tmps.toList) : VR G (k ts) (a.eval x) := by
  cases x with
  | tmp t => simp only [cX, Option.some.injEq] at hk; subst hk; exact VR_getD h t
  | const v =>
    simp only [cX, Option.map_eq_some_iff] at hk
    obtain ⟨b, hb, rfl⟩ := hk
    exact VR_const G _ v b hb
  | global g => simp [cX] at hk
  | func f =>
    simp only [cX, Option.some.injEq] at hk; subst hk
    simp only [xF, VR, Act.eval]; exact ⟨[], rfl, by simp [VRs]⟩
theorem cXs_ok {G : Gh} {ts : Tmps} {a : Act} (h : VRs G ts a.tmps.toList) : ∀ {l : List Operand} {k : List AX}, cXs l = some k → VRs G (vals k ts) (l.map a.eval)
  | [], k, hk => by simp [cXs] at hk; subst hk; simp [vals, VRs]
  | x :: l, k, hk => by
    simp only [cXs, List.mapM_cons, Option.bind_eq_bind, Option.bind_eq_some_iff, Option.pure_def, Option.some.injEq] at hk
    obtain ⟨b, hb, m, hm, rfl⟩ := hk
    show VRs G (b ts :: vals m ts) (a.eval x :: l.map a.eval)
    simp only [VRs]
    exact ⟨_, _, rfl, cX_ok hb h, cXs_ok h hm⟩

/-- An operation that calls nothing does what its model does. -/
def OpOk (P : Program) (o : Oper) (k : KO) : Prop :=
  ∀ (call : Fn) (B : Nat → Prop) (w0 : World) (G : Gh) (h : AH) (w : World) (a : Act) (ts : Tmps) (v : AV) (h' : AH), VRs G ts a.tmps.toList → WR B w0 G h w → k call ts h = some (v, h') →
    ∃ u w' G', ((execOp a.eval o).run P w = .ok (.value u) w' ∨ ((execOp a.eval o).run P w = .ok .skip w' ∧ u = undef)) ∧ VR G' v u ∧ Gle G G' ∧ WR B w0 G' h' w'
/-- .. and leaves all as it was. -/
theorem OpOk.pure {P : Program} {o : Oper} {k : KO}
    (hk : ∀ (call : Fn) (B : Nat → Prop) (w0 : World) (G : Gh) (h : AH) (w : World) (a : Act) (ts : Tmps) (v : AV) (h' : AH), VRs G ts a.tmps.toList → WR B w0 G h w → k call ts h = some (v, h') →
      h' = h ∧ ∃ u, (execOp a.eval o).run P w = .ok (.value u) w ∧ VR G v u) : OpOk P o k := by
  intro call B w0 G h w a ts v h' h1 h2 h3
  obtain ⟨rfl, u, h4, h5⟩ := hk call B w0 G h w a ts v h' h1 h2 h3
  exact ⟨u, w, G, Or.inl h4, h5, Gle.refl G, h2⟩

section
variable {P : Program} {d : Option Tmp} {t t2 : TypeId} {pos : String} {af : Array Edge} {g : Option (Nat × Bool)}
theorem ok_move {x : Operand} {k : AX} (hk : cX x = some k) : OpOk P ⟨d, .move x, t, pos, af, g⟩ (oMove k) :=
  OpOk.pure fun call B w0 G h w a ts v h' h1 h2 h3 => by
    simp only [oMove, Option.some.injEq, Prod.mk.injEq] at h3
    obtain ⟨rfl, rfl⟩ := h3
    exact ⟨rfl, a.eval x, rfl, cX_ok hk h1⟩
theorem ok_assign {x : Operand} {k : AX} (hk : cX x = some k) : OpOk P ⟨d, .assign x, t, pos, af, g⟩ (oMove k) :=
  OpOk.pure fun call B w0 G h w a ts v h' h1 h2 h3 => by
    simp only [oMove, Option.some.injEq, Prod.mk.injEq] at h3
    obtain ⟨rfl, rfl⟩ := h3
    exact ⟨rfl, a.eval x, rfl, cX_ok hk h1⟩
theorem ok_pick {c x y : Operand} {kc kx ky : AX} (hc : cX c = some kc) (hx : cX x = some kx) (hy : cX y = some ky) : OpOk P ⟨d, .pick c x y, t, pos, af, g⟩ (oPick kc kx ky) :=
  OpOk.pure fun call B w0 G h w a ts v h' h1 h2 h3 => by
    have r1 := cX_ok hc h1
    simp only [oPick] at h3
    split at h3
    · rename_i b hb
      simp only [Option.some.injEq, Prod.mk.injEq] at h3
      obtain ⟨rfl, rfl⟩ := h3
      rw [hb] at r1
      simp only [VR] at r1
      refine ⟨rfl, if b then a.eval x else a.eval y, ?_, ?_⟩
      · simp only [execOp, r1]; cases b <;> rfl
      · cases b
        · exact cX_ok hy h1
        · exact cX_ok hx h1
    · cases h3
theorem ok_not {x : Operand} {k : AX} (hk : cX x = some k) : OpOk P ⟨d, .unOp .not t2 x, t, pos, af, g⟩ (oNot k) :=
  OpOk.pure fun call B w0 G h w a ts v h' h1 h2 h3 => by
    have r1 := cX_ok hk h1
    simp only [oNot] at h3
    split at h3
    · rename_i b hb
      simp only [Option.some.injEq, Prod.mk.injEq] at h3
      obtain ⟨rfl, rfl⟩ := h3
      rw [hb] at r1
      simp only [VR] at r1
      refine ⟨rfl, .bool !b, ?_, by simp [VR]⟩
      simp only [execOp, r1]; rfl
    · cases h3
end
end Go.Proofs.Ytadohhhjpbhhoaa.EvA
