/- An evaluator of the program's code over abstract values and an abstract heap: where a call begins. -/
import Derived.Test.YtadohhhjpbhhoaaEvX
namespace Go.Proofs.Ytadohhhjpbhhoaa.EvA
open Go.RowKit
set_option linter.unusedVariables false
def noG : Gh := ⟨fun _ => none, fun _ => none, fun _ => 0, fun _ _ => False, fun _ _ => False⟩
/-- What lies in a world ahead of a call. -/
def inG (F : Nat → RP → Prop) : Gh := ⟨fun _ => none, fun _ => none, fun _ => 0, F, F⟩
def Lies (W : World) (r : RP) : Prop := r.b < W.heap.size ∧ r.base ≤ r.org ∧ ∃ c e f, W.heap[r.b]? = some (.cells c e f) ∧ c.size = r.n ∧ ∀ j v, r.vs[j]? = some v → c[r.org - r.base + j]? = some v
def h0 : AH := ⟨0, .leaf, 0, .leaf, 1, .leaf, []⟩
theorem WR_in (W : World) {F : Nat → RP → Prop} (hF : ∀ l r, F l r → Lies W r) : WR (· < W.heap.size) W (inG F) h0 W where
  below := Bel.refl _ W
  base := fun k hk => hk
  phi := fun i b h => by cases h
  inj := fun i j b h => by cases h
  blk := fun i x h => by cases h
  rp := fun i r h => by cases h
  row := fun i r h => by cases h
  own := fun i r h => by cases h
  chain := fun i r h => by cases h
  same := fun i j r s h => by cases h
  sorted := fun f => List.Pairwise.nil
  org := fun i r h => by cases h
  nz := fun i r h => by cases h
  fn := by decide
  fz := fun l r hr => by
    obtain ⟨h1, h2, h3⟩ := hF l r hr
    exact ⟨h1, fun j h => (by cases h), fun i q h => (by cases h), h2, h3⟩
  fo := fun l r h => Or.inl h
theorem WR_start (W : World) : WR (· < W.heap.size) W noG h0 W := WR_in W (F := fun _ _ => False) fun l r h => h.elim
def noS : FuncId → Option (List AV → AH → Option (AV × AH)) := fun _ => none
theorem noS_ok {P : Program} {B : Nat → Prop} {w0 : World} : SumOk P B w0 noS := fun f s h => by cases h
/-- A call of a function with a body. -/
theorem calls_of {P : Program} {f : FuncId} {fn : Func} (hf : P.funcs[f]? = some fn) (hb : fn.body.isNone = false) (hn : (fn.name == "runtime.NumGoroutine") = false) {vals : Array Value} {w : World} {R : Value → World → Prop} (h : CallRes P f vals w R) :
    Calls P f vals w (fun e w' => match e with | .returned u => R u w' | _ => False) := by
  rcases h with ⟨u, w', h1, _⟩ | ⟨_, h2⟩
  · have hn' : ¬ fn.name = "runtime.NumGoroutine" := by simpa using hn
    obtain ⟨c, hc⟩ : ∃ c, fn.body = some c := by cases h : fn.body with | none => rw [h] at hb; cases hb | some c => exact ⟨c, rfl⟩
    have : (callFunc f vals).run P w = .ok (.enter f vals) w := by simp [callFunc, hf, hn', hc]
    rw [this] at h1
    simp at h1
  · exact h2
/-- A law that answers true. -/
theorem law_in {P : Program} {S : FuncId → Option (List AV → AH → Option (AV × AH))} {F : FuncId → Option AF} {f : FuncId} {fn : Func} (W : World) (hS : ∀ B w0, SumOk P B w0 S) (hF : ∀ f fn, F f = some fn → cF P f = some fn)
    (hf : P.funcs[f]? = some fn) (hb : fn.body.isNone = false) (hn : (fn.name == "runtime.NumGoroutine") = false) {args : List AV} {vals : List Value} {L : Nat → RP → Prop} (hL : ∀ l r, L l r → Lies W r) (hv : VRs (inG L) args vals) (he : ∃ n, (aeval S F n f args h0).map (·.1) = some (.bool true)) :
    Calls P f ⟨vals⟩ W (fun e W' => e = .returned (.bool true) ∧ Below W.heap.size W W') := by
  obtain ⟨n, he⟩ := he
  obtain ⟨⟨v, h'⟩, e1, e2⟩ := Option.map_eq_some_iff.1 he
  simp only at e2; subst e2
  refine (calls_of hf hb hn (eval_ok hS hF n (· < W.heap.size) W f args h0 _ h' e1 (inG L) W vals hv (WR_in W hL))).mono fun e W' hR => ?_
  cases e with
  | returned u =>
    obtain ⟨G', _, g2, g3⟩ := hR
    simp only [VR] at g2; subst g2
    exact ⟨rfl, g3.below.below⟩
  | panicked c => exact hR.elim
  | outgrown => exact hR.elim
/-- .. of arguments that are no rows. -/
theorem law_true {P : Program} {S : FuncId → Option (List AV → AH → Option (AV × AH))} {F : FuncId → Option AF} {f : FuncId} {fn : Func} (W : World) (hS : ∀ B w0, SumOk P B w0 S) (hF : ∀ f fn, F f = some fn → cF P f = some fn)
    (hf : P.funcs[f]? = some fn) (hb : fn.body.isNone = false) (hn : (fn.name == "runtime.NumGoroutine") = false) {args : List AV} {vals : List Value} (hv : VRs noG args vals) (he : ∃ n, (aeval S F n f args h0).map (·.1) = some (.bool true)) :
    Calls P f ⟨vals⟩ W (fun e W' => e = .returned (.bool true) ∧ Below W.heap.size W W') := law_in W hS hF hf hb hn (L := fun _ _ => False) (fun l r h => h.elim) hv he
end Go.Proofs.Ytadohhhjpbhhoaa.EvA
