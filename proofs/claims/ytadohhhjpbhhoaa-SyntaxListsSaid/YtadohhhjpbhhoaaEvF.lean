/- An evaluator of the program's code over abstract values and an abstract heap: the other operations that touch no heap. -/
import Derived.Test.YtadohhhjpbhhoaaEvE
namespace Go.Proofs.Ytadohhhjpbhhoaa.EvA
open Go.RowKit
set_option linter.unusedVariables false
set_option linter.unusedSimpArgs false
section
variable {P : Program} {d : Option Tmp} {t t2 t3 : TypeId} {pos : String} {af : Array Edge} {g : Option (Nat × Bool)}
theorem ok_arith {op : BinOp} {x y : Operand} {kx ky : AX} (hx : cX x = some kx) (hy : cX y = some ky) : OpOk P ⟨d, .binOp op t2 x y t3, t, pos, af, g⟩ (oArith op kx ky) :=
  OpOk.pure fun call B w0 G h w a ts v h' h1 h2 h3 => by
    have r1 := cX_ok hx h1
    have r2 := cX_ok hy h1
    simp only [oArith] at h3
    split at h3
    · rename_i u hu
      simp only [Option.some.injEq, Prod.mk.injEq] at h3
      obtain ⟨rfl, rfl⟩ := h3
      refine ⟨rfl, ?_⟩
      unfold aarith at hu
      split at hu
      · rename_i k m j n e1 e2
        rw [e1] at r1; rw [e2] at r2
        simp only [VR] at r1 r2
        split at hu
        · rename_i hkj
          subst hkj
          cases op <;> simp only [Option.some.injEq, reduceCtorEq] at hu <;> (try (split at hu <;> simp only [Option.some.injEq, reduceCtorEq] at hu)) <;> subst hu <;>
            (refine ⟨_, by (simp only [execOp, r1, r2, eqGuard, binOp, Op.intArith, Op.intDiv, Op.intBits, Op.intCmp, ne_eq, not_true_eq_false, if_false, if_true, Bool.not_false, *] <;> rfl), by simp only [VR]; try rfl⟩)
        · cases hu
      · rename_i m n e1 e2
        rw [e1] at r1; rw [e2] at r2
        simp only [VR] at r1 r2
        have hmax : IntKind.i64.max = 9223372036854775807 := rfl
        cases op <;> simp only [Option.some.injEq, reduceCtorEq] at hu
        case add =>
          split at hu
          · rename_i hle
            simp only [Option.some.injEq] at hu; subst hu
            refine ⟨.string (m ++ n), ?_, by simp only [VR]⟩
            have hn : ¬ (((m.size + n.size : Nat) : Int) > IntKind.i64.max) := by rw [hmax]; omega
            simp only [execOp, r1, r2, eqGuard, binOp, Op.stringOp, Bool.not_false, if_true, if_neg hn]; rfl
          · cases hu
        all_goals
          subst hu
          refine ⟨_, by (simp only [execOp, r1, r2, eqGuard, binOp, Op.stringOp, Bool.not_false, if_true] <;> rfl), by simp only [VR]; try rfl⟩
      · cases hu
    · cases h3
theorem ok_neg {x : Operand} {k : AX} (hk : cX x = some k) : OpOk P ⟨d, .unOp .neg t2 x, t, pos, af, g⟩ (oNeg k) :=
  OpOk.pure fun call B w0 G h w a ts v h' h1 h2 h3 => by
    have r1 := cX_ok hk h1
    simp only [oNeg] at h3
    split at h3
    · rename_i j n hb
      simp only [Option.some.injEq, Prod.mk.injEq] at h3
      obtain ⟨rfl, rfl⟩ := h3
      rw [hb] at r1
      simp only [VR] at r1
      refine ⟨rfl, .int j (j.wrap (0 - n)), ?_, by simp [VR]⟩
      simp only [execOp, r1]; rfl
    · cases h3
theorem ok_conv {x : Operand} {k : AX} (hk : cX x = some k) {ks kd : IntKind} (hs : P.underlying t2 = some (.int ks)) (hd : P.underlying t3 = some (.int kd)) : OpOk P ⟨d, .convert t2 t3 x, t, pos, af, g⟩ (oConv kd k) :=
  OpOk.pure fun call B w0 G h w a ts v h' h1 h2 h3 => by
    have r1 := cX_ok hk h1
    simp only [oConv] at h3
    split at h3
    · rename_i j n hb
      simp only [Option.some.injEq, Prod.mk.injEq] at h3
      obtain ⟨rfl, rfl⟩ := h3
      rw [hb] at r1
      simp only [VR] at r1
      refine ⟨rfl, .int kd (kd.wrap n), ?_, by simp [VR]⟩
      simp only [execOp, r1]
      simp [convert, underlying, program, bind, Sem.bind, pure, Sem.run, hs, hd, Conv.intToInt]
    · cases h3
theorem ok_fn {f : FuncId} {cs : Array Operand} {k : List AX} (hk : cXs cs.toList = some k) : OpOk P ⟨d, .makeFunc (.func f) #[] cs, t, pos, af, g⟩ (oFn f k) :=
  OpOk.pure fun call B w0 G h w a ts v h' h1 h2 h3 => by
    have r1 := cXs_ok h1 hk
    simp only [oFn, Option.some.injEq, Prod.mk.injEq] at h3
    obtain ⟨rfl, rfl⟩ := h3
    refine ⟨rfl, .func (.func f) #[] ⟨cs.toList.map a.eval⟩, ?_, ?_⟩
    · have e : Array.map a.eval cs = ⟨cs.toList.map a.eval⟩ := by apply Array.ext'; simp
      have e0 : Array.map a.eval #[] = (#[] : Array Value) := by apply Array.ext'; simp
      simp only [execOp, Instr.makeFunc, e, e0]; rfl
    · simp only [VR]; exact ⟨_, rfl, r1⟩
theorem ok_mfn {f : FuncId} {cs : Array Operand} {k : List AX} (hk : cXs cs.toList = some k) : OpOk P ⟨d, .makeFunc (.func f) cs #[], t, pos, af, g⟩ (oMfn f k) :=
  OpOk.pure fun call B w0 G h w a ts v h' h1 h2 h3 => by
    have r1 := cXs_ok h1 hk
    simp only [oMfn, Option.some.injEq, Prod.mk.injEq] at h3
    obtain ⟨rfl, rfl⟩ := h3
    refine ⟨rfl, .func (.func f) ⟨cs.toList.map a.eval⟩ #[], ?_, ?_⟩
    · have e : Array.map a.eval cs = ⟨cs.toList.map a.eval⟩ := by apply Array.ext'; simp
      have e0 : Array.map a.eval #[] = (#[] : Array Value) := by apply Array.ext'; simp
      simp only [execOp, Instr.makeFunc, e, e0]; rfl
    · simp only [VR]; exact ⟨_, rfl, r1⟩
theorem ok_min {x y : Operand} {kx ky : AX} (hx : cX x = some kx) (hy : cX y = some ky) {ats : Array TypeId} : OpOk P ⟨d, .call { callee := .builtin .min, args := #[x, y], argTypes := ats }, t, pos, af, g⟩ (oMin kx ky) :=
  OpOk.pure fun call B w0 G h w a ts v h' h1 h2 h3 => by
    have r1 := cX_ok hx h1
    have r2 := cX_ok hy h1
    simp only [oMin] at h3
    split at h3
    · rename_i k m j n e1 e2
      rw [e1] at r1; rw [e2] at r2
      simp only [VR] at r1 r2
      simp only [Option.some.injEq, Prod.mk.injEq] at h3
      obtain ⟨rfl, rfl⟩ := h3
      refine ⟨rfl, .int k (if n < m then n else m), ?_, by simp [VR]⟩
      simp [execOp, resolve, r1, r2, invoke, builtin, Builtin.min_, Builtin.min2]
    · cases h3
theorem ok_max {x y : Operand} {kx ky : AX} (hx : cX x = some kx) (hy : cX y = some ky) {ats : Array TypeId} : OpOk P ⟨d, .call { callee := .builtin .max, args := #[x, y], argTypes := ats }, t, pos, af, g⟩ (oMax kx ky) :=
  OpOk.pure fun call B w0 G h w a ts v h' h1 h2 h3 => by
    have r1 := cX_ok hx h1
    have r2 := cX_ok hy h1
    simp only [oMax] at h3
    split at h3
    · rename_i k m j n e1 e2
      rw [e1] at r1; rw [e2] at r2
      simp only [VR] at r1 r2
      simp only [Option.some.injEq, Prod.mk.injEq] at h3
      obtain ⟨rfl, rfl⟩ := h3
      refine ⟨rfl, .int k (if n > m then n else m), ?_, by simp [VR]⟩
      simp [execOp, resolve, r1, r2, invoke, builtin, Builtin.max_, Builtin.max2]
    · cases h3
theorem ok_nil {x : Operand} {k : AX} (hk : cX x = some k) : OpOk P ⟨d, .nilCheck x, t, pos, af, g⟩ (oNil k) :=
  OpOk.pure fun call B w0 G h w a ts v h' h1 h2 h3 => by
    have r1 := cX_ok hk h1
    simp only [oNil] at h3
    split at h3
    · rename_i i o hb
      simp only [Option.some.injEq, Prod.mk.injEq] at h3
      obtain ⟨rfl, rfl⟩ := h3
      rw [hb] at r1
      have r2 := r1
      simp only [VR] at r1
      obtain ⟨b, hp, e⟩ := r1
      refine ⟨rfl, a.eval x, ?_, r2⟩
      simp only [execOp, e]; rfl
    · rename_i c o s hb
      simp only [Option.some.injEq, Prod.mk.injEq] at h3
      obtain ⟨rfl, rfl⟩ := h3
      rw [hb] at r1
      have r2 := r1
      simp only [VR] at r1
      obtain ⟨r, _, _, _, _, _, _, e⟩ := r1
      refine ⟨rfl, a.eval x, ?_, r2⟩
      simp only [execOp, e]; rfl
    · rename_i f c hb
      simp only [Option.some.injEq, Prod.mk.injEq] at h3
      obtain ⟨rfl, rfl⟩ := h3
      rw [hb] at r1
      have r2 := r1
      simp only [VR] at r1
      obtain ⟨l, e, _⟩ := r1
      refine ⟨rfl, a.eval x, ?_, r2⟩
      simp only [execOp, e]; rfl
    · rename_i f c hb
      simp only [Option.some.injEq, Prod.mk.injEq] at h3
      obtain ⟨rfl, rfl⟩ := h3
      rw [hb] at r1
      have r2 := r1
      simp only [VR] at r1
      obtain ⟨l, e, _⟩ := r1
      refine ⟨rfl, a.eval x, ?_, r2⟩
      simp only [execOp, e]; rfl
    · cases h3
theorem ok_extract {x : Operand} {k : AX} (hk : cX x = some k) {n : Nat} : OpOk P ⟨d, .extract x n, t, pos, af, g⟩ (oExtract k n) :=
  OpOk.pure fun call B w0 G h w a ts v h' h1 h2 h3 => by
    have r1 := cX_ok hk h1
    simp only [oExtract] at h3
    split at h3
    · rename_i vs hb
      split at h3
      · rename_i u hu
        simp only [Option.some.injEq, Prod.mk.injEq] at h3
        obtain ⟨rfl, rfl⟩ := h3
        rw [hb] at r1
        simp only [VR] at r1
        obtain ⟨l, e, r1⟩ := r1
        obtain ⟨q, hq, hr⟩ := VRs_get r1 hu
        refine ⟨rfl, q, ?_, hr⟩
        simp [execOp, e, Instr.extract, hq, bind, Sem.bind, pure, Sem.run]
      · cases h3
    · cases h3
theorem ok_idx {x i : Operand} {kx ki : AX} (hx : cX x = some kx) (hi : cX i = some ki) (hs : P.underlying t2 = some .string) : OpOk P ⟨d, .index t2 x i, t, pos, af, g⟩ (oIdx kx ki) :=
  OpOk.pure fun call B w0 G h w a ts v h' h1 h2 h3 => by
    have r1 := cX_ok hx h1
    have r2 := cX_ok hi h1
    simp only [oIdx] at h3
    split at h3
    · rename_i s k n e1 e2
      rw [e1] at r1; rw [e2] at r2
      simp only [VR] at r1 r2
      split at h3
      · rename_i h0
        split at h3
        · rename_i b hb
          simp only [Option.some.injEq, Prod.mk.injEq] at h3
          obtain ⟨rfl, rfl⟩ := h3
          refine ⟨rfl, .int .u8 b.toNat, ?_, by simp [VR]⟩
          have hb2 : s[n.toNat]? = some b := by
            rw [Array.getElem?_toList] at hb
            obtain ⟨hlt, he⟩ := Array.getElem?_eq_some_iff.1 hb
            have : n.toNat < s.size := hlt
            rw [getElem?_pos s n.toNat this]
            exact congrArg some he
          simp [execOp, r1, r2, Instr.index, asIntOf, underlying, program, bind, Sem.bind, pure, Sem.run, hs, h0, hb2]
        · cases h3
      · cases h3
    · cases h3
end
end Go.Proofs.Ytadohhhjpbhhoaa.EvA
