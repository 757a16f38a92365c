/- An evaluator of the program's code over abstract values and an abstract heap: parts, loads, places in rows. -/
import Derived.Test.YtadohhhjpbhhoaaEvH
import Derived.Laws.Cells
import Derived.Laws.CopyRow
namespace Go.Proofs.Ytadohhhjpbhhoaa.EvA
open Go.RowKit
set_option linter.unusedVariables false
set_option linter.unusedSimpArgs false
section
variable {P : Program} {d : Option Tmp} {t t2 t3 : TypeId} {pos : String} {af : Array Edge} {g : Option (Nat × Bool)}
/-- What is said of a type by 'aggT'. -/
theorem aggT_none {u : TypeId} (h : aggT P u = some none) (w : World) : (isAgg u).run P w = .ok false w := by
  unfold aggT at h
  split at h
  · cases hs : sizeT P u <;> rw [hs] at h <;> simp at h
  · cases hs : sizeT P u <;> rw [hs] at h <;> simp at h
  · rename_i e hns hna hu
    simp only [isAgg, Sem.run_bind, run_und hu, Result.andThen]
    cases e <;> first | rfl | (exact absurd rfl (hns _)) | (exact absurd rfl (hna _ _))
  · cases h
theorem aggT_some {u : TypeId} {n : Nat} (h : aggT P u = some (some n)) (w : World) : (isAgg u).run P w = .ok true w ∧ (sizeOf u).run P w = .ok n w := by
  unfold aggT at h
  split at h
  · rename_i fs hu
    have hs : sizeT P u = some n := by simpa using h
    exact ⟨by simp only [isAgg, Sem.run_bind, run_und hu, Result.andThen]; rfl, run_size hs w⟩
  · rename_i k e hu
    have hs : sizeT P u = some n := by simpa using h
    exact ⟨by simp only [isAgg, Sem.run_bind, run_und hu, Result.andThen]; rfl, run_size hs w⟩
  · cases h
  · cases h
theorem part_run {u : TypeId} {q : Option Nat} (hq : aggT P u = some q) {G : Gh} {cs : List AV} {l : List Value} (hr : VRs G cs l) {off : Nat} {v : AV} (hp : apart cs off q = some v) (w : World) :
    ∃ x, (part u ⟨l⟩ off).run P w = .ok x w ∧ VR G v x := by
  cases q with
  | none =>
    simp only [apart] at hp
    obtain ⟨x, hx, hv⟩ := VRs_get hr hp
    refine ⟨x, ?_, hv⟩
    simp [part, aggT_none hq, hx]
  | some n =>
    simp only [apart] at hp
    split at hp
    · rename_i hle
      simp only [Option.some.injEq] at hp
      subst hp
      obtain ⟨h1, h2⟩ := aggT_some hq w
      refine ⟨.agg ⟨(l.drop off).take n⟩, ?_, ?_⟩
      · simp only [part, Sem.run_bind, h1, Result.andThen, if_true, h2]
        have : (⟨l⟩ : Array Value).extract off (off + n) = ⟨(l.drop off).take n⟩ := by
          apply Array.ext'; simp [List.extract_eq_take_drop]
        simp [this]
      · simp only [VR]; exact ⟨_, rfl, VRs_take n (VRs_drop off hr)⟩
    · cases hp
theorem ok_field {x : Operand} {kx : AX} (hx : cX x = some kx) {fs : Array Field} {i : Nat} {f : Field} (hu : P.underlying t2 = some (.struct fs)) (hf : fs[i]? = some f) {q : Option Nat} (hq : aggT P f.type = some q) :
    OpOk P ⟨d, .field t2 x i, t, pos, af, g⟩ (oField f.offset q kx) :=
  OpOk.pure fun call B w0 G h w a ts v h' h1 h2 h3 => by
    have r1 := cX_ok hx h1
    simp only [oField] at h3
    split at h3
    · rename_i cs e
      split at h3
      · rename_i u hu2
        simp only [Option.some.injEq, Prod.mk.injEq] at h3
        obtain ⟨rfl, rfl⟩ := h3
        rw [e] at r1; simp only [VR] at r1
        obtain ⟨l, hv, hr⟩ := r1
        obtain ⟨y, hy, hR⟩ := part_run hq hr hu2 w
        refine ⟨rfl, y, ?_, hR⟩
        simp [execOp, Instr.field, run_und hu, hf, hv, asAgg, hy]
      · cases h3
    · cases h3
/-- Cells of a block, read. -/
theorem load_run {u : TypeId} {q : Option Nat} (hq : aggT P u = some q) {G : Gh} {cs : List AV} {l : List Value} (hr : VRs G cs l) {off : Nat} {v : AV} (hp : apart cs off q = some v) {w : World} {b o : Nat}
    (hc : ∀ j x, l[j]? = some x → w.cell? ⟨b, o + j, none⟩ = some x) : ∃ x, (loadVar u ⟨b, o + off, none⟩).run P w = .ok x w ∧ VR G v x := by
  have add : ∀ j, (⟨b, o + off, none⟩ : Addr).add j = ⟨b, o + off + j, none⟩ := by
    intro j; unfold Addr.add; split
    · rename_i e; rw [e]; rfl
    · rfl
  cases q with
  | none =>
    simp only [apart] at hp
    obtain ⟨x, hx, hv⟩ := VRs_get hr hp
    refine ⟨x, ?_, hv⟩
    simp [loadVar, aggT_none hq, hc off x hx]
  | some n =>
    simp only [apart] at hp
    split at hp
    · rename_i hle
      simp only [Option.some.injEq] at hp
      subst hp
      obtain ⟨h1, h2⟩ := aggT_some hq w
      have hl := VRs_length hr
      refine ⟨.agg ⟨(l.drop off).take n⟩, ?_, ?_⟩
      · have h3 := run_loadCells_list (P := P) (w := w) ⟨b, o + off, none⟩ ((l.drop off).take n) (by
          intro j x hx
          rw [add]
          rw [List.getElem?_take] at hx
          split at hx
          · rw [List.getElem?_drop] at hx
            rw [Nat.add_assoc]; exact hc _ _ hx
          · cases hx)
        have hlen : ((l.drop off).take n).length = n := by simp; omega
        rw [hlen] at h3
        simp only [loadVar, Sem.run_bind, h1, Result.andThen, if_true, h2, h3]
        rfl
      · simp only [VR]; exact ⟨_, rfl, VRs_take n (VRs_drop off hr)⟩
    · cases hp
theorem cell_of {w : World} {b : Nat} {c : Array Value} {e : TypeId} {f : Nat × Nat} (h : w.heap[b]? = some (.cells c e f)) (o : Nat) : w.cell? ⟨b, o, none⟩ = c[o]? := by
  simp [World.cell?, h]
theorem ok_load {x : Operand} {kx : AX} (hx : cX x = some kx) {q : Option Nat} (hq : aggT P t2 = some q) : OpOk P ⟨d, .load t2 x, t, pos, af, g⟩ (oLoad q kx) :=
  OpOk.pure fun call B w0 G h w a ts v h' h1 h2 h3 => by
    have r1 := cX_ok hx h1
    simp only [oLoad] at h3
    split at h3
    · rename_i i off e
      split at h3
      · rename_i cs hg
        split at h3
        · rename_i u hu
          simp only [Option.some.injEq, Prod.mk.injEq] at h3
          obtain ⟨rfl, rfl⟩ := h3
          rw [e] at r1; simp only [VR] at r1
          obtain ⟨b, hb, hv⟩ := r1
          obtain ⟨b2, hb2, l, el, hw, hr⟩ := h2.blk i _ hg
          have : b2 = b := Option.some.inj (hb2.symm.trans hb)
          subst this
          obtain ⟨y, hy, hR⟩ := load_run (o := 0) hq hr hu (w := w) (b := b2) (by intro j x hx; rw [cell_of hw, Nat.zero_add]; simpa using hx)
          refine ⟨rfl, y, ?_, hR⟩
          rw [Nat.zero_add] at hy
          simp [execOp, hv, Instr.loadAt, Instr.sureAddr, hy]
        · cases h3
      · cases h3
    · rename_i cs off s e
      split at h3
      · rename_i hok
        split at h3
        · rename_i u hu
          simp only [Option.some.injEq, Prod.mk.injEq] at h3
          obtain ⟨rfl, rfl⟩ := h3
          rw [e] at r1; simp only [VR] at r1
          obtain ⟨r, p, q1, q3, q4, q5, q6, hv⟩ := r1
          obtain ⟨_, _, c, el, f, hw, hn, hcell⟩ := h2.cells q1 hok
          obtain ⟨y, hy, hR⟩ := load_run (o := p - r.base) hq q6 hu (w := w) (b := r.b) (by
            intro j x hx
            rw [cell_of hw]
            rw [List.getElem?_take] at hx
            split at hx
            · rw [List.getElem?_drop] at hx
              have := hcell _ _ hx
              rw [show p - r.base + j = r.org - r.base + (p - r.org + j) by omega]; exact this
            · cases hx)
          refine ⟨rfl, y, ?_, hR⟩
          simp [execOp, hv, Instr.loadAt, Instr.sureAddr, hy]
        · cases h3
      · cases h3
    · cases h3
end
end Go.Proofs.Ytadohhhjpbhhoaa.EvA
