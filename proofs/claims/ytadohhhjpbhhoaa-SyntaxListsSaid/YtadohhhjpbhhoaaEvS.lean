/- An evaluator of the program's code over abstract values and an abstract heap: each operation does what its model does. -/
import Derived.Test.YtadohhhjpbhhoaaEvRa
namespace Go.Proofs.Ytadohhhjpbhhoaa.EvA
open Go.RowKit
set_option linter.unusedVariables false
set_option linter.unusedSimpArgs false
/-- A call answers, by a body or at once. -/
def CallRes (P : Program) (f : FuncId) (vals : Array Value) (w : World) (R : Value → World → Prop) : Prop :=
  (∃ u w', (callFunc f vals).run P w = .ok (.value u) w' ∧ R u w') ∨
  ((callFunc f vals).run P w = .ok (.enter f vals) w ∧ Calls P f vals w (fun e w' => match e with | .returned u => R u w' | _ => False))
/-- What a call owes. -/
def CallOk (P : Program) (B : Nat → Prop) (w0 : World) (call : Fn) : Prop :=
  ∀ (f : FuncId) (args : List AV) (h : AH) (v : AV) (h' : AH), call f args h = some (v, h') → ∀ (G : Gh) (w : World) (vals : List Value), VRs G args vals → WR B w0 G h w →
    CallRes P f ⟨vals⟩ w fun u w' => ∃ G', Gle G G' ∧ VR G' v u ∧ WR B w0 G' h' w'
/-- What an operation owes, calls and all. -/
def OpSnd (P : Program) (o : Oper) (k : KO) : Prop :=
  ∀ (call : Fn) (B : Nat → Prop) (w0 : World), CallOk P B w0 call → ∀ (G : Gh) (h : AH) (w : World) (a : Act) (ts : Tmps) (v : AV) (h' : AH), VRs G ts a.tmps.toList → WR B w0 G h w → k call ts h = some (v, h') →
    ∀ (K : Act → World → Prop) (Q : Exit → Act → World → Prop), (∀ u w' G', Gle G G' → VR G' v u → WR B w0 G' h' w' → K (a.put o.dst u) w') → o.wp P a w K Q
theorem OpOk.snd {P : Program} {o : Oper} {k : KO} (hk : OpOk P o k) : OpSnd P o k := by
  intro call B w0 hc G h w a ts v h' h1 h2 h3 K Q hK
  obtain ⟨u, w', G', h4, h5, h6, h7⟩ := hk call B w0 G h w a ts v h' h1 h2 h3
  unfold Oper.wp
  rcases h4 with h4 | ⟨h4, rfl⟩
  · rw [h4]; exact hK u w' G' h6 h5 h7
  · rw [h4]; exact hK undef w' G' h6 h5 h7
theorem upon_call {P : Program} {o : Oper} {a : Act} {f : FuncId} {vals : Array Value} {w : World} {R : Value → World → Prop} (hr : CallRes P f vals w R) (ho : execOp a.eval o = callFunc f vals)
    {K : Act → World → Prop} {Q : Exit → Act → World → Prop} (hK : ∀ u w', R u w' → K (a.put o.dst u) w') : o.wp P a w K Q := by
  unfold Oper.wp
  rw [ho]
  rcases hr with ⟨u, w', h1, h2⟩ | ⟨h1, h2⟩
  · rw [h1]; exact hK u w' h2
  · rw [h1]
    rw [Oper.upon_enter]
    refine Calls.mono h2 fun e w' he => ?_
    cases e with
    | returned u => exact hK u w' he
    | panicked c => exact he.elim
    | outgrown => exact he.elim
section
variable {P : Program} {d : Option Tmp} {t t2 t3 : TypeId} {pos : String} {af : Array Edge} {g : Option (Nat × Bool)}
theorem snd_call {f : FuncId} {args : Array Operand} {ats : Array TypeId} {ks : List AX} (hk : cXs args.toList = some ks) : OpSnd P ⟨d, .call { callee := .value (.func f), args := args, argTypes := ats }, t, pos, af, g⟩ (oCall f ks) := by
  intro call B w0 hc G h w a ts v h' h1 h2 h3 K Q hK
  have r := cXs_ok h1 hk
  refine upon_call (hc f _ h v h' h3 G w _ r h2) ?_ (fun u w' ⟨G', g1, g2, g3⟩ => hK u w' G' g1 g2 g3)
  simp only [execOp, resolve, Act.eval, Deferred.ofValue, pure_bind, invoke]
  congr 1
  apply Array.ext'
  simp
theorem snd_callv {f : Operand} {kf : AX} {args : Array Operand} {ats : Array TypeId} {ks : List AX} (hf : cX f = some kf) (hk : cXs args.toList = some ks) : OpSnd P ⟨d, .call { callee := .value f, args := args, argTypes := ats }, t, pos, af, g⟩ (oCallv kf ks) := by
  intro call B w0 hc G h w a ts v h' h1 h2 h3 K Q hK
  have r := cXs_ok h1 hk
  have rf := cX_ok hf h1
  simp only [oCallv] at h3
  split at h3
  · rename_i q cs e
    rw [e] at rf; simp only [VR] at rf
    obtain ⟨l, hv, hl⟩ := rf
    refine upon_call (hc q _ h v h' h3 G w _ (VRs_app r hl) h2) ?_ (fun u w' ⟨G', g1, g2, g3⟩ => hK u w' G' g1 g2 g3)
    simp only [execOp, resolve, hv, Deferred.ofValue, pure_bind, invoke]
    congr 1
    apply Array.ext'
    simp
  · rename_i q cs e
    rw [e] at rf; simp only [VR] at rf
    obtain ⟨l, hv, hl⟩ := rf
    refine upon_call (hc q _ h v h' h3 G w _ (VRs_app hl r) h2) ?_ (fun u w' ⟨G', g1, g2, g3⟩ => hK u w' G' g1 g2 g3)
    simp only [execOp, resolve, hv, Deferred.ofValue, pure_bind, invoke]
    congr 1
    apply Array.ext'
    simp
  · cases h3
theorem cOp_ok : ∀ {op : Op} {k : KO}, cOp P op = some k → OpSnd P ⟨d, op, t, pos, af, g⟩ k := by
  intro op k hk
  unfold cOp at hk
  split at hk
  case h_1 => obtain ⟨a, h1, rfl⟩ := Option.map_eq_some_iff.1 hk; exact (ok_move h1).snd
  case h_2 => obtain ⟨a, h1, rfl⟩ := Option.map_eq_some_iff.1 hk; exact (ok_assign h1).snd
  case h_3 =>
    split at hk
    · rename_i h1 h2 h3; simp only [Option.some.injEq] at hk; subst hk; exact (ok_pick h1 h2 h3).snd
    · cases hk
  case h_4 =>
    split at hk
    · rename_i h1 h2; simp only [Option.some.injEq] at hk; subst hk; exact (ok_alloc h2).snd
    · cases hk
  case h_5 =>
    split at hk
    · rename_i h1 h2; simp only [Option.some.injEq] at hk; subst hk; exact (ok_box h2).snd
    · cases hk
  case h_6 =>
    split at hk
    · rename_i hu hz
      split at hk
      · rename_i pl hpl
        obtain ⟨q, h1, rfl⟩ := Option.map_eq_some_iff.1 hk
        exact (ok_build hz (Or.inl ⟨_, _, hu, hpl, h1⟩)).snd
      · cases hk
    · rename_i hu hz
      split at hk
      · rename_i s hs
        obtain ⟨q, h1, rfl⟩ := Option.map_eq_some_iff.1 hk
        exact (ok_build hz (Or.inr ⟨_, _, _, hu, hs, h1⟩)).snd
      · cases hk
    · cases hk
  case h_7 =>
    split at hk
    · rename_i hu
      split at hk
      · rename_i hs hz
        split at hk
        · rename_i hc
          obtain ⟨q, h1, rfl⟩ := Option.map_eq_some_iff.1 hk
          exact (ok_mkrow hu hs hz h1 hc.1 hc.2.1 hc.2.2).snd
        · cases hk
      · cases hk
    · cases hk
  case h_8 =>
    split at hk
    · rename_i h1 h2; simp only [Option.some.injEq] at hk; subst hk; exact (ok_load h2 h1).snd
    · cases hk
  case h_9 =>
    split at hk
    · rename_i h1 h2 h3; simp only [Option.some.injEq] at hk; subst hk; exact (ok_store h2 h3 h1).snd
    · cases hk
  case h_10 => obtain ⟨a, h1, rfl⟩ := Option.map_eq_some_iff.1 hk; exact (ok_nil h1).snd
  case h_11 =>
    split at hk
    · rename_i h1 h2
      split at hk
      · exact (ok_eqKt h1 h2 hk).snd
      · exact (ok_eqKf h1 h2 hk).snd
      · simp only [Option.some.injEq] at hk; subst hk; exact (ok_shl h1 h2).snd
      · simp only [Option.some.injEq] at hk; subst hk; exact (ok_shr h1 h2).snd
      · simp only [Option.some.injEq] at hk; subst hk; exact (ok_arith h1 h2).snd
    · cases hk
  case h_12 =>
    split at hk
    · obtain ⟨a, h1, rfl⟩ := Option.map_eq_some_iff.1 hk; exact (ok_not h1).snd
    · obtain ⟨a, h1, rfl⟩ := Option.map_eq_some_iff.1 hk; exact (ok_neg h1).snd
    · cases hk
  case h_13 =>
    split at hk
    · rename_i h1 h2
      obtain ⟨a, h3, rfl⟩ := Option.map_eq_some_iff.1 hk; exact (ok_conv h3 h1 h2).snd
    · cases hk
  case h_14 =>
    split at hk
    · rename_i first captured h1
      obtain ⟨a, h3, rfl⟩ := Option.map_eq_some_iff.1 hk
      have : first = #[] := Array.eq_empty_of_size_eq_zero h1
      subst this
      exact (ok_fn h3).snd
    · split at hk
      · rename_i first captured _ h1
        obtain ⟨a, h3, rfl⟩ := Option.map_eq_some_iff.1 hk
        have : captured = #[] := Array.eq_empty_of_size_eq_zero h1
        subst this
        exact (ok_mfn h3).snd
      · cases hk
  case h_15 =>
    split at hk
    · cases hk
    · rename_i mx hmx
      have : mx = none := by cases mx <;> simp_all
      subst this
      split at hk
      · rename_i h1 h2 h3 h4; simp only [Option.some.injEq] at hk; subst hk; exact (ok_cutstr h2 h3 h4 h1).snd
      · rename_i h1 h2 h3 h4; obtain ⟨q, h5, rfl⟩ := Option.map_eq_some_iff.1 hk; exact (ok_cutrow h2 h3 h4 h1 h5).snd
      · cases hk
  case h_16 =>
    split at hk
    · rename_i h1 h2
      split at hk
      · rename_i f hf
        split at hk
        · cases hk
        · rename_i hn
          split at hk
          · rename_i n hn0
            simp only [Option.some.injEq] at hk; subst hk; exact (ok_faddr h2 h1 hf hn0 (fun e => hn (by rw [hn0, e]))).snd
          · cases hk
      · cases hk
    · cases hk
  case h_17 =>
    split at hk
    · rename_i h1 h2
      split at hk
      · rename_i f hf
        obtain ⟨q, h5, rfl⟩ := Option.map_eq_some_iff.1 hk; exact (ok_field h2 h1 hf h5).snd
      · cases hk
    · cases hk
  case h_18 =>
    split at hk
    · rename_i h1 h2; exact (ok_iaddrK h1 h2 hk).snd
    · cases hk
  case h_19 =>
    split at hk
    · rename_i h1 h2 h3; simp only [Option.some.injEq] at hk; subst hk; exact (ok_idx h2 h3 h1).snd
    · cases hk
  case h_20 => obtain ⟨a, h1, rfl⟩ := Option.map_eq_some_iff.1 hk; exact (ok_extract h1).snd
  case h_21 =>
    split at hk
    · rename_i h1 h2 h3
      split at hk
      · rename_i h4 h5
        simp only [Option.some.injEq] at hk; subst hk; exact (ok_lookup h2 h3 h1 h4 h5).snd
      · cases hk
    · cases hk
  case h_22 =>
    split at hk
    · rename_i h1 h2 h3 h4; obtain ⟨q, h5, rfl⟩ := Option.map_eq_some_iff.1 hk; exact (ok_set h2 h3 h4 h1 h5).snd
    · cases hk
  case h_23 =>
    split at hk
    · rename_i h1 h2 h3 h4; obtain ⟨q, h5, rfl⟩ := Option.map_eq_some_iff.1 hk; exact (ok_insert h2 h3 h4 h1 h5).snd
    · cases hk
  case h_24 => simp only [Option.some.injEq] at hk; subst hk; exact ok_map.snd
  case h_25 =>
    rename_i c
    obtain ⟨callee, ⟨args⟩, ⟨ats⟩⟩ := c
    split at hk
    · rename_i f hc
      simp only at hc; subst hc
      obtain ⟨q, h5, rfl⟩ := Option.map_eq_some_iff.1 hk; exact snd_call h5
    · rename_i x _ hc
      simp only at hc; subst hc
      split at hk
      · rename_i h1 h2; simp only [Option.some.injEq] at hk; subst hk; exact snd_callv h1 h2
      · cases hk
    · rename_i hc
      simp only at hc; subst hc
      split at hk
      · rename_i x u e1 e2
        simp only at e1 e2; subst e1; subst e2
        split at hk
        · rename_i h1 h2; simp only [Option.some.injEq] at hk; subst hk; exact (ok_lenS h2 h1).snd
        · rename_i h1 h2; simp only [Option.some.injEq] at hk; subst hk; exact (ok_lenR h2 h1).snd
        · rename_i h1 h2; simp only [Option.some.injEq] at hk; subst hk; exact (ok_lenM h2 h1).snd
        · cases hk
      · cases hk
    · rename_i hc
      simp only at hc; subst hc
      split at hk
      · rename_i x y e1
        simp only at e1; subst e1
        split at hk
        · rename_i h1 h2; simp only [Option.some.injEq] at hk; subst hk; exact (ok_min h1 h2).snd
        · cases hk
      · cases hk
    · rename_i hc
      simp only at hc; subst hc
      split at hk
      · rename_i x y e1
        simp only at e1; subst e1
        split at hk
        · rename_i h1 h2; simp only [Option.some.injEq] at hk; subst hk; exact (ok_max h1 h2).snd
        · cases hk
      · cases hk
    · rename_i hc
      simp only at hc; subst hc
      split at hk
      · rename_i s x u v e1 e2
        simp only at e1 e2; subst e1; subst e2
        split at hk
        · rename_i h1 h2 h3 h4
          split at hk
          · rename_i h5 h6
            split at hk
            · rename_i h7; simp only [Option.some.injEq] at hk; subst hk; exact (ok_append h3 h4 h1 h2 h5 h6 h7.1 h7.2).snd
            · cases hk
          · cases hk
        · cases hk
      · cases hk
    · rename_i hc
      simp only at hc; subst hc
      split at hk
      · rename_i m k u r e1 e2
        simp only at e1 e2; subst e1; subst e2
        split at hk
        · rename_i h1 h2 h3
          obtain ⟨q, h5, rfl⟩ := Option.map_eq_some_iff.1 hk; exact (ok_delete h2 h3 h1 h5 (by simp)).snd
        · cases hk
      · cases hk
    · cases hk
  case h_26 => cases hk
theorem rowZ_ok {t0 : TypeId} {len : Nat} {parts : Array (Nat × Operand)} {k : KO} (hk : rowZ P t0 len parts = some k) : OpSnd P ⟨d, .buildSlice t0 len parts, t, pos, af, g⟩ k := by
  unfold rowZ at hk
  split at hk
  · rename_i e hu
    split at hk
    · rename_i s z hs hz
      split at hk
      · rename_i hc
        obtain ⟨a, h1, rfl⟩ := Option.map_eq_some_iff.1 hk
        exact (ok_mkrowZ hu hs hz h1 hc.1 hc.2.1 hc.2.2).snd
      · cases hk
    · cases hk
  · cases hk
theorem cOpZ_ok {z : Bool} {op : Op} {k : KO} (hk : cOpZ z P op = some k) : OpSnd P ⟨d, op, t, pos, af, g⟩ k := by
  unfold cOpZ at hk
  split at hk
  · exact cOp_ok hk
  · split at hk
    · exact rowZ_ok hk
    · exact cOp_ok hk
end
end Go.Proofs.Ytadohhhjpbhhoaa.EvA
