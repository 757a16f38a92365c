/- An evaluator of the program's code over abstract values and an abstract heap: stores. -/
import Derived.Test.YtadohhhjpbhhoaaEvJ
namespace Go.Proofs.Ytadohhhjpbhhoaa.EvA
open Go.RowKit
set_option linter.unusedVariables false
set_option linter.unusedSimpArgs false
theorem get_put {h : AH} {x : ABlk} {i j : Nat} : (h.put i x).get j = if j = i then some x else h.get j := by
  unfold AH.put AH.get
  by_cases hi : j = i
  · subst hi; rw [if_pos rfl]; exact Tr.get_set_same _ _ _ _ (by omega)
  · rw [if_neg hi]; exact Tr.get_set_ne _ _ _ _ _ hi
/-- One block is another one from now on. -/
theorem WR_put {B : Nat → Prop} {w0 w w' : World} {G : Gh} {h : AH} (hW : WR B w0 G h w) {i b : Nat} (hb : G.phi i = some b) {x : ABlk} (hx : BR G w' b x)
    (hos : w'.os = w.os) (htape : w'.tape = w.tape) (hout : w'.output = w.output) (hsize : w'.heap.size = w.heap.size) (hother : ∀ k, k ≠ b → w'.heap[k]? = w.heap[k]?) :
    WR B w0 G (h.put i x) w' := by
  have hB := (hW.phi i b hb).2.2
  have hbel : Bel B w w' := ⟨hos, htape, hout, by omega, fun k hk => hother k (fun e => hB (e ▸ hk))⟩
  refine ⟨hW.below.trans hbel, hW.base, ?_, hW.inj, ?_, ?_, ?_, ?_, hW.chain, hW.same, hW.sorted, hW.org, hW.nz, hW.fn, ?_, hW.fo⟩
  · intro j c hc
    obtain ⟨h1, h2, h3⟩ := hW.phi j c hc
    exact ⟨h1, by omega, h3⟩
  · intro j y hy
    rw [get_put] at hy
    split at hy
    · rename_i e
      simp only [Option.some.injEq] at hy
      subst hy; subst e
      exact ⟨b, hb, hx⟩
    · rename_i hji
      obtain ⟨c, hc, hr⟩ := hW.blk j y hy
      have hcb : c ≠ b := fun e => hji (hW.inj j i b (by rw [← e]; exact hc) hb)
      exact ⟨c, hc, BR_mono (Gle.refl G) (hother c hcb) hr⟩
  · intro j r hr
    obtain ⟨h1, h2, h3, h4⟩ := hW.rp j r hr
    exact ⟨h1, by omega, h3, h4⟩
  · intro j r hr hl
    obtain ⟨c, e, f, h1, h2, h3⟩ := hW.row j r hr hl
    have hrb : r.b ≠ b := fun e => (hW.rp j r hr).2.2.2 i (by rw [e]; exact hb)
    exact ⟨c, e, f, (hother _ hrb).trans h1, h2, h3⟩
  · intro j r hr hf
    obtain ⟨h1, c, e, h2, h3⟩ := hW.own j r hr hf
    have hrb : r.b ≠ b := fun e => (hW.rp j r hr).2.2.2 i (by rw [e]; exact hb)
    exact ⟨h1, c, e, (hother _ hrb).trans h2, h3⟩
  · intro l r hr
    obtain ⟨f1, f2, f3, f4, c, e, f, f5, f6, f7⟩ := hW.fz l r hr
    exact ⟨by omega, f2, f3, f4, c, e, f, (hother _ (fun e => f2 i (by rw [e]; exact hb))).trans f5, f6, f7⟩
theorem one_of {G : Gh} {v : AV} {u : Value} (h : VR G v u) (hs : scalar v = true) : u.oneCell' = true := by
  cases v with
  | row cs len s => obtain ⟨_, _, rfl⟩ := VR_row_len h; rfl
  | _ =>
    simp only [scalar, Bool.false_eq_true] at hs <;> simp only [VR] at h <;>
    first
      | (subst h; rfl)
      | (obtain ⟨_, _, rfl⟩ := h; rfl)
      | (obtain ⟨_, rfl, _⟩ := h; rfl)
      | (obtain ⟨_, _, _, _, _, _, _, rfl⟩ := h; rfl)
theorem ones_of {G : Gh} : ∀ {a : List AV} {l : List Value}, VRs G a l → a.all scalar = true → ∀ v ∈ l, v.oneCell' = true
  | [], l, h, _ => by simp only [VRs] at h; subst h; simp
  | a :: r, l, h, hs => by
    simp only [VRs] at h; obtain ⟨u, m, rfl, h2, h3⟩ := h
    simp only [List.all_cons, Bool.and_eq_true] at hs
    intro v hv
    rcases List.mem_cons.mp hv with e | e
    · rw [e]; exact one_of h2 hs.1
    · exact ones_of h3 hs.2 v e
section
variable {P : Program} {d : Option Tmp} {t t2 t3 : TypeId} {pos : String} {af : Array Edge} {g : Option (Nat × Bool)}
theorem ok_store {x y : Operand} {kx ky : AX} (hx : cX x = some kx) (hy : cX y = some ky) {n : Nat} (hn : sizeT P t2 = some n) : OpOk P ⟨d, .store t2 x y, t, pos, af, g⟩ (oStore n kx ky) := by
  intro call B w0 G h w a ts v h' h1 h2 h3
  have r1 := cX_ok hx h1
  have r2 := cells_ok (cX_ok hy h1)
  simp only [oStore] at h3
  split at h3
  · rename_i i off e
    split at h3
    · rename_i cs hg
      split at h3
      · rename_i hc
        simp only [Option.some.injEq, Prod.mk.injEq] at h3
        obtain ⟨rfl, rfl⟩ := h3
        rw [e] at r1; simp only [VR] at r1
        obtain ⟨b, hb, hv⟩ := r1
        obtain ⟨b2, hb2, l, el, hw, hr⟩ := h2.blk i _ hg
        have : b2 = b := Option.some.inj (hb2.symm.trans hb)
        subst this
        have hl := VRs_length hr
        have hl2 := VRs_length r2
        have hst := run_storeCells_at (P := P) b2 off el (a.eval y).cells.toList 0 ⟨l⟩ w hw (by simp; simp at hl2; omega) (ones_of r2 hc.2.2)
        have hsz : (a.eval y).cells.size = n := by rw [← hc.1]; simpa using hl2
        simp only [Nat.add_zero] at hst
        have hvl : (a.eval y).cells.toList.length = n := by rw [hl2]; exact hc.1
        refine ⟨undef, w.setRow b2 (l.take off ++ (a.eval y).cells.toList ++ l.drop (off + (a.eval y).cells.toList.length)).toArray, G, Or.inr ⟨?_, rfl⟩, VR_undef G, Gle.refl G,
          WR_put h2 hb ⟨_, el, setRow_heap w b2 ⟨l⟩ _ el (0, 0) hw, ?_⟩ rfl rfl rfl (setRow_size w b2 _) (fun k hk => setRow_other w b2 k _ hk)⟩
        · simp only [execOp, Instr.storeAt, Instr.sureAddr, hv, storeVar, Sem.run_bind, Sem.run_pure, Result.andThen, run_size hn, hsz, ne_eq, not_true_eq_false, if_false, hst]
        · rw [hvl]
          exact VRs_app (VRs_app (VRs_take off hr) r2) (VRs_drop (off + n) hr)
      · cases h3
    · cases h3
  · cases h3
end
end Go.Proofs.Ytadohhhjpbhhoaa.EvA
