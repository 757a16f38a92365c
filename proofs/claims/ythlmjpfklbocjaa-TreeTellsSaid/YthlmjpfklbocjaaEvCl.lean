/- A map's copy: told at once. -/
import Derived.Test.YthlmjpfklbocjaaEvSo
namespace Go.Proofs.Ythlmjpfklbocjaa.EvA
open Go.RowKit
set_option linter.unusedVariables false
/-- What the library's contract says of 'maps.Clone'. -/
structure Clones (P : Program) (f : FuncId) : Prop where
  some : ∀ (b : Nat) (es : Array MapEntry) (clock : Nat) (w : World), w.heap[b]? = some (.map es clock) → Calls P f #[.map (some b)] w fun e w' => e = .returned (.map (some w.heap.size)) ∧ w' = w.alloc (.map es clock)
  none : ∀ w : World, Calls P f #[.map none] w fun e w' => e = .returned (.map none) ∧ w' = w
def cloneS : List AV → AH → Option (AV × AH) := fun args h => match args with
  | [.nilmap] => some (.nilmap, h)
  | [.map i] => match h.get i with
    | some (.map es c) => some (.map h.next, h.new (.map es c))
    | _ => none
  | _ => none
theorem clone_ok {P : Program} {f : FuncId} (hC : Clones P f) (he : ∀ vals w, (callFunc f vals).run P w = .ok (.enter f vals) w) (B : Nat → Prop) (w0 : World) : SumOk P B w0 (sumAt f cloneS) := by
  intro g s hs args h v h' hv G w vals h1 h2
  unfold sumAt at hs
  split at hs
  case h_2 => cases hs
  rename_i hgf
  have hgf : g = f := Nat.eq_of_beq_eq_true hgf
  subst hgf
  simp only [Option.some.injEq] at hs; subst hs
  unfold cloneS at hv
  split at hv
  · simp only [Option.some.injEq, Prod.mk.injEq] at hv
    obtain ⟨rfl, rfl⟩ := hv
    simp only [VRs, VR] at h1
    obtain ⟨_, _, rfl, rfl, rfl⟩ := h1
    refine Or.inr ⟨he _ _, (hC.none w).mono ?_⟩
    rintro _ w' ⟨rfl, rfl⟩
    exact ⟨G, Gle.refl G, by simp only [VR], h2⟩
  · rename_i i
    split at hv
    case h_2 => cases hv
    rename_i es c hi
    simp only [Option.some.injEq, Prod.mk.injEq] at hv
    obtain ⟨rfl, rfl⟩ := hv
    simp only [VRs, VR] at h1
    obtain ⟨_, _, rfl, ⟨b, hb, rfl⟩, rfl⟩ := h1
    obtain ⟨b', hb', hB⟩ := h2.blk i _ hi
    obtain rfl : b = b' := Option.some.inj (hb.symm.trans hb')
    obtain ⟨l, hw, q1, q2, q3⟩ := hB
    refine Or.inr ⟨he _ _, (hC.some b _ c w hw).mono ?_⟩
    rintro _ w' ⟨rfl, rfl⟩
    have hg := bind_le h2 w.heap.size
    refine ⟨G.bind h.next w.heap.size, hg, ?_, WR_new h2 ⟨l, heap_new, VRs_mono hg _ _ q1, VRs_mono hg _ _ q2, q3⟩⟩
    simp only [VR]; exact ⟨_, by simp [Gh.bind], rfl⟩
  · cases hv
end Go.Proofs.Ythlmjpfklbocjaa.EvA
