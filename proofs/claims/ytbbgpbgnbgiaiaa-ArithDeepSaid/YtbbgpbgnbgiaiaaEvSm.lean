/- An evaluator of the program's code over abstract values and an abstract heap: what is told of closed calls; a call's first steps. -/
import Derived.Test.YtbbgpbgnbgiaiaaEvEn
import Derived.Test.YtbbgpbgnbgiaiaaEvQt
namespace Go.Proofs.Ytbbgpbgnbgiaiaa.EvA
open Go.RowKit
set_option linter.unusedVariables false
/-- Later worlds of which nothing that is known is turned. -/
theorem WR.later {B : Nat} {w0 w w' : World} {G : Gh} {h : AH} (hW : WR B w0 G h w) (hb : Below w.heap.size w w') : WR B w0 G h w' := by
  have hB : B ≤ w.heap.size := Nat.le_trans hW.base hW.below.size
  refine ⟨hW.below.trans (hb.mono hB), hW.base, ?_, hW.inj, ?_, ?_, ?_, ?_, hW.chain, hW.same, hW.sorted, hW.org⟩
  · intro i b h1
    obtain ⟨q1, q2, q3⟩ := hW.phi i b h1
    exact ⟨q1, Nat.lt_of_lt_of_le q2 hb.size, q3⟩
  · intro i x hx
    obtain ⟨b, h1, h2⟩ := hW.blk i x hx
    exact ⟨b, h1, BR_mono (Gle.refl G) (hb.block b (hW.phi i b h1).2.1) h2⟩
  · intro i r hr
    obtain ⟨h1, h2, h3, h4⟩ := hW.rp i r hr
    exact ⟨h1, Nat.lt_of_lt_of_le h2 hb.size, h3, h4⟩
  · intro i r hr hl
    obtain ⟨c, e, f, h1, h2, h3⟩ := hW.row i r hr hl
    exact ⟨c, e, f, (hb.block _ (hW.rp i r hr).2.1).trans h1, h2, h3⟩
  · intro i r hr hf
    obtain ⟨h1, c, e, h2, h3⟩ := hW.own i r hr hf
    exact ⟨h1, c, e, (hb.block _ (hW.rp i r hr).2.1).trans h2, h3⟩
/-- One function without arguments answers true: told at once. -/
def sumTrue (k : FuncId) : FuncId → Option (List AV → AH → Option (AV × AH)) := fun f => match Nat.beq f k with
  | true => some (fun a h => match a with | [] => some (.bool true, h) | _ => none)
  | false => none
theorem CallRes.mono {P : Program} {f : FuncId} {vals : Array Value} {w : World} {R R' : Value → World → Prop} (h : CallRes P f vals w R) (hr : ∀ u w', R u w' → R' u w') : CallRes P f vals w R' := by
  rcases h with ⟨u, w', h1, h2⟩ | ⟨h1, h2⟩
  · exact Or.inl ⟨u, w', h1, hr u w' h2⟩
  · refine Or.inr ⟨h1, h2.mono fun e w' he => ?_⟩
    cases e with
    | returned u => exact hr u w' he
    | panicked c => exact he.elim
    | outgrown => exact he.elim
theorem sumTrue_ok {P : Program} {F : FuncId → Option AF} (hF : ∀ f fn, F f = some fn → cF P f = some fn) {k : FuncId} {n : Nat} (he : (aeval noS F n k [] h0).map (·.1) = some (.bool true)) (B : Nat) (w0 : World) : SumOk P B w0 (sumTrue k) := by
  intro f s hs args h v h' hv G w vals h1 h2
  unfold sumTrue at hs
  split at hs
  · rename_i hb
    have hfk : f = k := Nat.eq_of_beq_eq_true hb
    subst hfk
    simp only [Option.some.injEq] at hs; subst hs
    cases args with
    | cons a r => cases hv
    | nil =>
      simp only [Option.some.injEq, Prod.mk.injEq] at hv
      obtain ⟨rfl, rfl⟩ := hv
      simp only [VRs] at h1; subst h1
      obtain ⟨⟨v0, h'⟩, e1, e2⟩ := Option.map_eq_some_iff.1 he
      simp only at e2; subst e2
      refine (eval_ok (B := w.heap.size) (w0 := w) noS_ok hF n f [] h0 _ h' e1 noG w [] (by simp [VRs]) (WR_start w)).mono fun u w' hR => ?_
      obtain ⟨G', _, g2, g3⟩ := hR
      simp only [VR] at g2; subst g2
      exact ⟨G, Gle.refl G, by simp [VR], h2.later g3.below⟩
  · cases hs
/-- Where a call ends. -/
noncomputable def finF (res : FV) (x : Option (AO × EV × AH)) : Option (AV × AH) := Option.rec (motive := fun _ => Option (AV × AH)) none
  (fun p => AO.rec (motive := fun _ => Option (AV × AH)) (Option.rec (motive := fun _ => Option (AV × AH)) none (fun v => some (v, p.2.2)) (res p.2.1 p.2.2)) (fun _ => none) (Option.rec (motive := fun _ => Option (AV × AH)) none (fun v => some (v, p.2.2)) (res p.2.1 p.2.2)) p.1) x
theorem aevalF_succ {G : FuncId → Option (List AV → AH → Option (AV × AH))} {FT : FuncId → Option FF} {f : FuncId} {ff : FF} {args : List AV} {e : EV} (hG : G f = none) (hF : FT f = some ff) (hi : initE args ff.ntmps = some e) (m : Nat) (h : AH) :
    aevalF G FT (m + 1) f args h = finF ff.results (ff.body (aevalF G FT m) m e h) := by
  have e0 : aevalF G FT (m + 1) f args h = (Option.rec (motive := fun _ => Option (AV × AH))
      (Option.rec (motive := fun _ => Option (AV × AH)) none (fun fn => Option.rec (motive := fun _ => Option (AV × AH)) none (fun e => finF fn.results (fn.body (aevalF G FT m) m e h)) (initE args fn.ntmps)) (FT f)) (fun s => s args h) (G f) : Option (AV × AH)) := rfl
  rw [e0, hG, hF]
  show (Option.rec (motive := fun _ => Option (AV × AH)) none (fun e => finF ff.results (ff.body (aevalF G FT m) m e h)) (initE args ff.ntmps) : Option (AV × AH)) = _
  rw [hi]
theorem fSeq_reg {r : FR} {b : FC} {c : Fn} {n : Nat} {e e' : EV} {h h' : AH} (hr : r c e h = some (e', h')) : fSeq (fReg r) b c n e h = b c n e' h' := by
  unfold fSeq fReg; rw [hr]
end Go.Proofs.Ytbbgpbgnbgiaiaa.EvA
