/- An evaluator of the program's code over abstract values and an abstract heap: shifts, cuts, places, parts, lengths. -/
import Derived.Test.YtadohhhjpbhhoaaEvG
namespace Go.Proofs.Ytadohhhjpbhhoaa.EvA
open Go.RowKit
set_option linter.unusedVariables false
set_option linter.unusedSimpArgs false
section
variable {P : Program} {d : Option Tmp} {t t2 t3 : TypeId} {pos : String} {af : Array Edge} {g : Option (Nat × Bool)}
theorem run_und {e : TypeDesc} {u : TypeId} (h : P.underlying u = some e) (w : World) : (underlying u).run P w = .ok e w := by
  simp [underlying, program, bind, Sem.bind, pure, Sem.run, h]
theorem run_size {s : Nat} {u : TypeId} (h : sizeT P u = some s) (w : World) : (sizeOf u).run P w = .ok s w := by
  unfold sizeT at h
  obtain ⟨i, hi, rfl⟩ := Option.map_eq_some_iff.1 h
  simp [sizeOf, typeInfo, program, bind, Sem.bind, pure, Sem.run, hi]
theorem ok_shr {x y : Operand} {kx ky : AX} (hx : cX x = some kx) (hy : cX y = some ky) : OpOk P ⟨d, .binOp .shr t2 x y t3, t, pos, af, g⟩ (oShr kx ky) :=
  OpOk.pure fun call B w0 G h w a ts v h' h1 h2 h3 => by
    have r1 := cX_ok hx h1
    have r2 := cX_ok hy h1
    simp only [oShr] at h3
    split at h3
    · rename_i k m j n e1 e2
      rw [e1] at r1; rw [e2] at r2
      simp only [VR] at r1 r2
      split at h3
      · cases h3
      · rename_i hn
        simp only [Option.some.injEq, Prod.mk.injEq] at h3
        obtain ⟨rfl, rfl⟩ := h3
        refine ⟨rfl, _, ?_, by simp only [VR]; try rfl⟩
        simp only [execOp, r1, r2, eqGuard, binOp, Op.shift, if_neg hn]; rfl
    · cases h3
theorem ok_shl {x y : Operand} {kx ky : AX} (hx : cX x = some kx) (hy : cX y = some ky) : OpOk P ⟨d, .binOp .shl t2 x y t3, t, pos, af, g⟩ (oShl kx ky) :=
  OpOk.pure fun call B w0 G h w a ts v h' h1 h2 h3 => by
    have r1 := cX_ok hx h1
    have r2 := cX_ok hy h1
    simp only [oShl] at h3
    split at h3
    · rename_i k m j n e1 e2
      rw [e1] at r1; rw [e2] at r2
      simp only [VR] at r1 r2
      split at h3
      · cases h3
      · rename_i hn
        simp only [Option.some.injEq, Prod.mk.injEq] at h3
        obtain ⟨rfl, rfl⟩ := h3
        refine ⟨rfl, _, ?_, by simp only [VR]; try rfl⟩
        simp only [execOp, r1, r2, eqGuard, binOp, Op.shift, if_neg hn]; rfl
    · cases h3
theorem cO_ok {G : Gh} {ts : Tmps} {a : Act} (h : VRs G ts a.tmps.toList) {x : Option Operand} {k : Option AX} (hk : cO x = some k) :
    (x = none ∧ k = none) ∨ ∃ y j, x = some y ∧ k = some j ∧ VR G (j ts) (a.eval y) := by
  cases x with
  | none => simp only [cO, Option.some.injEq] at hk; exact Or.inl ⟨rfl, hk.symm⟩
  | some y =>
    simp only [cO, Option.map_eq_some_iff] at hk
    obtain ⟨j, hj, rfl⟩ := hk
    exact Or.inr ⟨y, j, rfl, rfl, cX_ok hj h⟩
theorem bound_run {v : Value} {k : IntKind} {b : Int} {y : Nat} {code : BoundsCode} {w : World} (hv : v = .int k b) (h : 0 ≤ b ∧ b ≤ (y : Int)) : (Instr.sliceBound v y code).run P w = .ok b.toNat w := by
  subst hv
  simp only [Instr.sliceBound, asIntOf, Sem.run_bind, Sem.run_pure, Result.andThen, if_pos h]
theorem bounds_run {G : Gh} {ts : Tmps} {a : Act} (h : VRs G ts a.tmps.toList) {w : World} {lo hi : Option Operand} {kl kh : Option AX} (hl : cO lo = some kl) (hh : cO hi = some kh)
    {n cap : Nat} (hc : n ≤ cap) {p q : Nat} (hb : bounds n (opt kl ts) (opt kh ts) = some (p, q)) (isS : Bool) :
    (Instr.sliceBounds isS n cap (lo.map a.eval) (hi.map a.eval) none).run P w = .ok (p, q, cap) w ∧ p ≤ q ∧ q ≤ n := by
  unfold bounds at hb
  split at hb
  · cases hb
  · rename_i h0 hq
    split at hb
    · cases hb
    · rename_i l0 hl0
      simp only [Option.some.injEq, Prod.mk.injEq] at hb
      obtain ⟨rfl, rfl⟩ := hb
      have H : h0 ≤ n ∧ ((hi = none ∧ h0 = n) ∨ ∃ y, hi = some y ∧ ∀ code, (Instr.sliceBound (a.eval y) cap code).run P w = .ok h0 w) := by
        rcases cO_ok h hh with ⟨rfl, rfl⟩ | ⟨y, j, rfl, rfl, r⟩
        · simp only [opt, bhi, Option.some.injEq] at hq
          exact ⟨by omega, Or.inl ⟨rfl, hq.symm⟩⟩
        · simp only [opt] at hq
          unfold bhi at hq
          split at hq
          · rename_i e; cases e
          · rename_i k b e
            simp only [Option.some.injEq] at e
            rw [e] at r; simp only [VR] at r
            split at hq
            · rename_i hle
              simp only [Option.some.injEq] at hq
              subst hq
              exact ⟨by omega, Or.inr ⟨y, rfl, fun code => bound_run r ⟨hle.1, by omega⟩⟩⟩
            · cases hq
          · cases hq
      have L : l0 ≤ h0 ∧ ((lo = none ∧ l0 = 0) ∨ ∃ y, lo = some y ∧ ∀ code, (Instr.sliceBound (a.eval y) h0 code).run P w = .ok l0 w) := by
        rcases cO_ok h hl with ⟨rfl, rfl⟩ | ⟨y, j, rfl, rfl, r⟩
        · simp only [opt, blo, Option.some.injEq] at hl0
          exact ⟨by omega, Or.inl ⟨rfl, hl0.symm⟩⟩
        · simp only [opt] at hl0
          unfold blo at hl0
          split at hl0
          · rename_i e; cases e
          · rename_i k b e
            simp only [Option.some.injEq] at e
            rw [e] at r; simp only [VR] at r
            split at hl0
            · rename_i hle
              simp only [Option.some.injEq] at hl0
              subst hl0
              exact ⟨by omega, Or.inr ⟨y, rfl, fun code => bound_run r hle⟩⟩
            · cases hl0
          · cases hl0
      refine ⟨?_, L.1, H.1⟩
      rcases H.2 with ⟨rfl, rfl⟩ | ⟨y, rfl, hy⟩ <;> rcases L.2 with ⟨rfl, rfl⟩ | ⟨z, rfl, hz⟩ <;>
        simp [Instr.sliceBounds, *]
theorem ok_cutstr {x : Operand} {lo hi : Option Operand} {kx : AX} {kl kh : Option AX} (hx : cX x = some kx) (hl : cO lo = some kl) (hh : cO hi = some kh) (hs : P.underlying t2 = some .string) :
    OpOk P ⟨d, .slice t2 x lo hi none, t, pos, af, g⟩ (oCutstr kx kl kh) :=
  OpOk.pure fun call B w0 G h w a ts v h' h1 h2 h3 => by
    have r1 := cX_ok hx h1
    simp only [oCutstr] at h3
    split at h3
    · rename_i s e1
      rw [e1] at r1
      simp only [VR] at r1
      split at h3
      · rename_i b hb
        obtain ⟨p, q⟩ := b
        simp only [Option.some.injEq, Prod.mk.injEq] at h3
        obtain ⟨rfl, rfl⟩ := h3
        obtain ⟨h4, _, _⟩ := bounds_run (P := P) (w := w) h1 hl hh (Nat.le_refl _) hb false
        refine ⟨rfl, .string (s.extract p q), ?_, by simp [VR]⟩
        simp only [execOp, r1, Instr.sliceAt, Instr.slice, Sem.run_bind, run_und hs, Result.andThen, h4, Option.map_none, Option.isSome_none, Bool.false_eq_true, if_false]
        rfl
      · cases h3
    · cases h3
theorem ok_lenS {x : Operand} {kx : AX} {u : TypeId} (hx : cX x = some kx) (hu : P.underlying u = some .string) : OpOk P ⟨d, .call { callee := .builtin .len, args := #[x], argTypes := #[u] }, t, pos, af, g⟩ (oLenS kx) :=
  OpOk.pure fun call B w0 G h w a ts v h' h1 h2 h3 => by
    have r1 := cX_ok hx h1
    simp only [oLenS] at h3
    split at h3
    · rename_i s e
      simp only [Option.some.injEq, Prod.mk.injEq] at h3
      obtain ⟨rfl, rfl⟩ := h3
      rw [e] at r1; simp only [VR] at r1
      refine ⟨rfl, .int .i64 s.size, ?_, by simp [VR]⟩
      simp [execOp, resolve, r1, invoke, builtin, Builtin.len_, run_und hu, goInt]
    · cases h3
theorem ok_lenR {x : Operand} {kx : AX} {u e0 : TypeId} (hx : cX x = some kx) (hu : P.underlying u = some (.slice e0)) : OpOk P ⟨d, .call { callee := .builtin .len, args := #[x], argTypes := #[u] }, t, pos, af, g⟩ (oLenR kx) :=
  OpOk.pure fun call B w0 G h w a ts v h' h1 h2 h3 => by
    have r1 := cX_ok hx h1
    simp only [oLenR] at h3
    split at h3
    · rename_i e
      simp only [Option.some.injEq, Prod.mk.injEq] at h3
      obtain ⟨rfl, rfl⟩ := h3
      rw [e] at r1; simp only [VR] at r1
      refine ⟨rfl, .int .i64 0, ?_, by simp [VR]⟩
      simp [execOp, resolve, r1, invoke, builtin, Builtin.len_, run_und hu, goInt]
    · rename_i c n s e
      simp only [Option.some.injEq, Prod.mk.injEq] at h3
      obtain ⟨rfl, rfl⟩ := h3
      rw [e] at r1
      obtain ⟨ad, cap, hv⟩ := VR_row_len r1
      refine ⟨rfl, .int .i64 n, ?_, by simp [VR]⟩
      simp [execOp, resolve, hv, invoke, builtin, Builtin.len_, run_und hu, goInt]
    · cases h3
theorem ok_lenM {x : Operand} {kx : AX} {u k0 e0 : TypeId} (hx : cX x = some kx) (hu : P.underlying u = some (.map k0 e0)) : OpOk P ⟨d, .call { callee := .builtin .len, args := #[x], argTypes := #[u] }, t, pos, af, g⟩ (oLenM kx) :=
  OpOk.pure fun call B w0 G h w a ts v h' h1 h2 h3 => by
    have r1 := cX_ok hx h1
    simp only [oLenM] at h3
    split at h3
    · rename_i e
      simp only [Option.some.injEq, Prod.mk.injEq] at h3
      obtain ⟨rfl, rfl⟩ := h3
      rw [e] at r1; simp only [VR] at r1
      refine ⟨rfl, .int .i64 0, ?_, by simp [VR]⟩
      simp [execOp, resolve, r1, invoke, builtin, Builtin.len_, run_und hu, goInt]
    · rename_i i e
      split at h3
      · rename_i es cl hg
        simp only [Option.some.injEq, Prod.mk.injEq] at h3
        obtain ⟨rfl, rfl⟩ := h3
        rw [e] at r1; simp only [VR] at r1
        obtain ⟨b, hb, hv⟩ := r1
        obtain ⟨b2, hb2, l, hw, k1, k2, k3⟩ := h2.blk i _ hg
        have : b2 = b := Option.some.inj (hb2.symm.trans hb)
        subst this
        have hl : l.length = es.length := by have := congrArg List.length k3; simpa using this.symm
        refine ⟨rfl, .int .i64 es.length, ?_, by simp [VR]⟩
        simp [execOp, resolve, hv, invoke, builtin, Builtin.len_, run_und hu, goInt, getObj, Sem.run, hw, hl]
      · cases h3
    · cases h3
theorem ok_faddr {x : Operand} {kx : AX} (hx : cX x = some kx) {fs : Array Field} {i : Nat} {f : Field} (hu : P.underlying t2 = some (.struct fs)) (hf : fs[i]? = some f) {n : Nat} (hz : sizeT P f.type = some n) (hn : n ≠ 0) :
    OpOk P ⟨d, .fieldAddr t2 x i, t, pos, af, g⟩ (oFaddr f.offset kx) :=
  OpOk.pure fun call B w0 G h w a ts v h' h1 h2 h3 => by
    have r1 := cX_ok hx h1
    have add : ∀ (b o : Nat), (⟨b, o, none⟩ : Addr).add f.offset = ⟨b, o + f.offset, none⟩ := by
      intro b o; unfold Addr.add; split
      · rename_i e; rw [e]; rfl
      · rfl
    have run : ∀ (b o : Nat), (execOp (fun _ => Value.pointer (some ⟨b, o, none⟩)) ⟨d, .fieldAddr t2 x i, t, pos, af, g⟩).run P w = .ok (.value (.pointer (some ⟨b, o + f.offset, none⟩))) w := by
      intro b o
      simp [execOp, Instr.fieldAt, run_und hu, hf, Instr.sureAddr, fieldPlace, run_size hz, hn, add]
    simp only [oFaddr] at h3
    split at h3
    · rename_i j o e
      simp only [Option.some.injEq, Prod.mk.injEq] at h3
      obtain ⟨rfl, rfl⟩ := h3
      rw [e] at r1; simp only [VR] at r1
      obtain ⟨b, hb, hv⟩ := r1
      refine ⟨rfl, _, ?_, by simp only [VR]; exact ⟨b, hb, rfl⟩⟩
      have := run b o
      simpa only [execOp, hv] using this
    · rename_i cs o s e
      simp only [Option.some.injEq, Prod.mk.injEq] at h3
      obtain ⟨rfl, rfl⟩ := h3
      rw [e] at r1; simp only [VR] at r1
      obtain ⟨r, p, q1, q3, q4, q5, q6, hv⟩ := r1
      refine ⟨rfl, .pointer (some ⟨r.b, p - r.base + (o + f.offset), none⟩), ?_, by simp only [VR]; exact ⟨r, p, q1, q3, q4, q5, q6, rfl⟩⟩
      have := run r.b (p - r.base + o)
      rw [Nat.add_assoc] at this
      simpa only [execOp, hv] using this
    · cases h3
end
end Go.Proofs.Ytadohhhjpbhhoaa.EvA
