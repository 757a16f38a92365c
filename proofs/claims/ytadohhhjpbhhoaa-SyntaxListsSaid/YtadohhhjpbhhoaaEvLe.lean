/- Walks: what was shown of a function on a heap of its own is told at once wherever it is called. -/
import Derived.Test.YtadohhhjpbhhoaaEvLd
namespace Go.Proofs.Ytadohhhjpbhhoaa.EvA
open Go.RowKit
set_option linter.unusedVariables false
/-- What is told of a function at once was shown on a heap of its own. -/
def Shows (S : Sum) (F : FuncId → Option AF) (f : FuncId) (s : List AV → AH → Option (AV × AH)) : Prop :=
  ∀ args h v h', s args h = some (v, h') → ∃ H H' ps ks a0 u, Lifts h H H' h' ps ks args a0 u v ∧ ∃ n, aeval S F n f a0 H = some (u, H')
def sumOne (f : FuncId) (s : List AV → AH → Option (AV × AH)) : Sum := fun g => match Nat.beq g f with
  | true => some s
  | false => none
theorem sumOne_ok {P : Program} {S : Sum} {F : FuncId → Option AF} {f : FuncId} {s : List AV → AH → Option (AV × AH)} (hS : ∀ B w0, SumOk P B w0 S) (hF : ∀ f fn, F f = some fn → cF P f = some fn) (h : Shows S F f s) (B : Nat → Prop) (w0 : World) : SumOk P B w0 (sumOne f s) := by
  intro g s' hs args hp v hp' hv G w vals h1 h2
  unfold sumOne at hs
  split at hs
  · rename_i hb
    have hgf : g = f := Nat.eq_of_beq_eq_true hb
    subst hgf
    simp only [Option.some.injEq] at hs; subst hs
    obtain ⟨H, H', ps, ks, a0, u, hL, n, hn⟩ := h args hp v hp' hv
    refine (eval_ok hS hF n (Bs G w ps) w g a0 H u H' hn (G0 G hp ps) w vals (Wks_ok (K := K0 hp ps) h2 K0_ok hL.args _ h1) (WR0 h2 hL.inj hL.own hL.get)).mono fun x w' hR => ?_
    obtain ⟨G1, g1, g2, g3⟩ := hR
    exact lift0 hL h2 g1 g3 g2
  · cases hs
/-! Heaps of one's own: blocks by their numbers. -/
def ownH : List ABlk → Nat → Tr ABlk → AH
  | [], n, t => ⟨n, t, 0, .leaf, 1, .leaf, []⟩
  | b :: r, n, t => ownH r (n + 1) (t.set (n + 1) n b)
end Go.Proofs.Ytadohhhjpbhhoaa.EvA
