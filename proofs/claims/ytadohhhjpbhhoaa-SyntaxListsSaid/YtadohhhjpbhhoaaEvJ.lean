/- An evaluator of the program's code over abstract values and an abstract heap: new blocks. -/
import Derived.Test.YtadohhhjpbhhoaaEvI
namespace Go.Proofs.Ytadohhhjpbhhoaa.EvA
open Go.RowKit
set_option linter.unusedVariables false
set_option linter.unusedSimpArgs false
theorem BR_mono {G G' : Gh} (g : Gle G G') {w w' : World} {b : Nat} (hb : w'.heap[b]? = w.heap[b]?) {x : ABlk} (h : BR G w b x) : BR G' w' b x := by
  cases x with
  | cells cs => obtain ⟨l, e, h1, h2⟩ := h; exact ⟨l, e, hb.trans h1, VRs_mono g _ _ h2⟩
  | map es c => obtain ⟨l, h1, h2, h3, h4⟩ := h; exact ⟨l, hb.trans h1, VRs_mono g _ _ h2, VRs_mono g _ _ h3, h4⟩
/-- One more block stands for one more. -/
def Gh.bind (G : Gh) (i b : Nat) : Gh := { G with phi := fun j => if j = i then some b else G.phi j }
theorem bind_le {B : Nat → Prop} {w0 w : World} {G : Gh} {h : AH} (hW : WR B w0 G h w) (b : Nat) : Gle G (G.bind h.next b) :=
  ⟨fun i c hc => by have := (hW.phi i c hc).1; simp only [Gh.bind]; rw [if_neg (by omega)]; exact hc, fun _ _ hr => hr, fun _ _ _ => rfl, fun _ _ h => h, rfl⟩
theorem get_new {h : AH} {x : ABlk} {i : Nat} : (h.new x).get i = if i = h.next then some x else h.get i := by
  unfold AH.new AH.get
  by_cases hi : i = h.next
  · subst hi; rw [if_pos rfl]; exact Tr.get_set_same _ _ _ _ (by omega)
  · rw [if_neg hi]; exact Tr.get_set_ne _ _ _ _ _ hi
theorem heap_alloc {w : World} {o : Obj} {b : Nat} (hb : b < w.heap.size) : (w.alloc o).heap[b]? = w.heap[b]? := by
  show (w.heap.push o)[b]? = _
  rw [Array.getElem?_push_lt hb, Array.getElem?_eq_getElem hb]
theorem heap_new {w : World} {o : Obj} : (w.alloc o).heap[w.heap.size]? = some o := by
  show (w.heap.push o)[w.heap.size]? = some o
  simp
theorem WR_new {B : Nat → Prop} {w0 w : World} {G : Gh} {h : AH} (hW : WR B w0 G h w) {x : ABlk} {o : Obj} (hx : BR (G.bind h.next w.heap.size) (w.alloc o) w.heap.size x) :
    WR B w0 (G.bind h.next w.heap.size) (h.new x) (w.alloc o) := by
  have g := bind_le hW w.heap.size
  have hsz : (w.alloc o).heap.size = w.heap.size + 1 := by
    show (w.heap.push o).size = _
    simp
  have hB := hW.fresh
  refine ⟨hW.below.alloc hW.lt o, hW.base, ?_, ?_, ?_, ?_, ?_, ?_, ?_, ?_, hW.sorted, hW.org, hW.nz, hW.fn, ?_, hW.fo⟩
  · intro i b hb
    simp only [Gh.bind] at hb
    split at hb
    · rename_i e
      simp only [Option.some.injEq] at hb
      subst hb
      exact ⟨by rw [e]; show h.next < h.next + 1; omega, by omega, hB⟩
    · obtain ⟨h1, h2, h3⟩ := hW.phi i b hb
      exact ⟨by show i < h.next + 1; omega, by omega, h3⟩
  · intro i j b hi hj
    simp only [Gh.bind] at hi hj
    split at hi <;> split at hj
    · omega
    · simp only [Option.some.injEq] at hi
      have := (hW.phi j b hj).2.1; omega
    · simp only [Option.some.injEq] at hj
      have := (hW.phi i b hi).2.1; omega
    · exact hW.inj i j b hi hj
  · intro i y hy
    rw [get_new] at hy
    split at hy
    · rename_i e
      simp only [Option.some.injEq] at hy
      subst hy
      exact ⟨w.heap.size, by simp [Gh.bind, e], hx⟩
    · obtain ⟨b, hb, hr⟩ := hW.blk i y hy
      exact ⟨b, g.phi i b hb, BR_mono g (heap_alloc (hW.phi i b hb).2.1) hr⟩
  · intro i r hr
    obtain ⟨h1, h2, h3, h4⟩ := hW.rp i r hr
    refine ⟨h1, by omega, h3, fun j hj => ?_⟩
    simp only [Gh.bind] at hj
    split at hj
    · simp only [Option.some.injEq] at hj; omega
    · exact h4 j hj
  · intro i r hr hl
    obtain ⟨c, e, f, h1, h2, h3⟩ := hW.row i r hr hl
    exact ⟨c, e, f, (heap_alloc (hW.rp i r hr).2.1).trans h1, h2, h3⟩
  · intro i r hr hf
    obtain ⟨h1, c, e, h2, h3⟩ := hW.own i r hr hf
    exact ⟨h1, c, e, (heap_alloc (hW.rp i r hr).2.1).trans h2, h3⟩
  · exact hW.chain
  · exact hW.same
  · intro l r hr
    obtain ⟨f1, f2, f3, f4, c, e, f, f5, f6, f7⟩ := hW.fz l r hr
    refine ⟨by omega, fun j hj => ?_, f3, f4, c, e, f, (heap_alloc f1).trans f5, f6, f7⟩
    simp only [Gh.bind] at hj
    split at hj
    · simp only [Option.some.injEq] at hj; omega
    · exact f2 j hj
theorem cells_ok {G : Gh} {v : AV} {u : Value} (h : VR G v u) : VRs G v.cells u.cells.toList := by
  have one : ∀ {v : AV} {u : Value}, VR G v u → VRs G [v] [u] := fun h => by simp only [VRs]; exact ⟨_, _, rfl, h, rfl⟩
  cases v with
  | agg cs => simp only [VR] at h; obtain ⟨l, rfl, hr⟩ := h; exact hr
  | row cs len s =>
    have k := one h
    obtain ⟨_, _, rfl⟩ := VR_row_len h
    exact k
  | _ =>
    have k := one h
    simp only [AV.cells]
    have : u.cells.toList = [u] := by
      simp only [VR] at h
      first
        | (subst h; rfl)
        | (obtain ⟨_, _, rfl⟩ := h; rfl)
        | (obtain ⟨_, rfl, _⟩ := h; rfl)
        | (obtain ⟨_, _, _, _, _, _, _, rfl⟩ := h; rfl)
    rw [this]; exact k
section
variable {P : Program} {d : Option Tmp} {t t2 t3 : TypeId} {pos : String} {af : Array Edge} {g : Option (Nat × Bool)}
theorem ok_box {x : Operand} {kx : AX} (hx : cX x = some kx) {n : Nat} : OpOk P ⟨d, .box t2 x, t, pos, af, g⟩ (oBox n kx) := by
  intro call B w0 G h w a ts v h' h1 h2 h3
  have r1 := cX_ok hx h1
  simp only [oBox] at h3
  split at h3
  · simp only [Option.some.injEq, Prod.mk.injEq] at h3
    obtain ⟨rfl, rfl⟩ := h3
    refine ⟨.pointer (some ⟨w.heap.size, 0, none⟩), w.alloc (.cells (a.eval x).cells t2), G.bind h.next w.heap.size, Or.inl ?_, ?_, bind_le h2 _, ?_⟩
    · simp [execOp, Instr.box, newVar, newRow, newObj, Sem.run]
    · simp only [VR]; exact ⟨_, by simp [Gh.bind], rfl⟩
    · exact WR_new h2 ⟨(a.eval x).cells.toList, t2, heap_new, VRs_mono (bind_le h2 _) _ _ (cells_ok r1)⟩
  · cases h3
theorem ok_alloc {n : Nat} {z : AV} (hz : zeroT P t2 = some z) : OpOk P ⟨d, .alloc t2, t, pos, af, g⟩ (oBox n (xC z)) := by
  intro call B w0 G h w a ts v h' h1 h2 h3
  unfold zeroT at hz
  obtain ⟨zv, h4, h5⟩ := Option.bind_eq_some_iff.1 hz
  obtain ⟨ti, h6, h7⟩ := Option.bind_eq_some_iff.1 h4
  have r1 := VR_const G _ zv z h5
  simp only [oBox] at h3
  split at h3
  · simp only [Option.some.injEq, Prod.mk.injEq] at h3
    obtain ⟨rfl, rfl⟩ := h3
    refine ⟨.pointer (some ⟨w.heap.size, 0, none⟩), w.alloc (.cells zv.cells t2), G.bind h.next w.heap.size, Or.inl ?_, ?_, bind_le h2 _, ?_⟩
    · have hzr : (zeroValue t2).run P w = .ok zv w := by
        simp [zeroValue, typeInfo, program, bind, Sem.bind, pure, Sem.run, h6, h7]
      simp [execOp, Instr.alloc, hzr, newVar, newRow, newObj, Sem.run]
    · simp only [VR]; exact ⟨_, by simp [Gh.bind], rfl⟩
    · exact WR_new h2 ⟨zv.cells.toList, t2, heap_new, VRs_mono (bind_le h2 _) _ _ (cells_ok r1)⟩
  · cases h3
theorem ok_map : OpOk P ⟨d, .makeMap t2 none, t, pos, af, g⟩ oMap := by
  intro call B w0 G h w a ts v h' h1 h2 h3
  simp only [oMap, Option.some.injEq, Prod.mk.injEq] at h3
  obtain ⟨rfl, rfl⟩ := h3
  refine ⟨.map (some w.heap.size), w.alloc (.map #[] 0), G.bind h.next w.heap.size, Or.inl ?_, ?_, bind_le h2 _, ?_⟩
  · simp [execOp, Instr.makeMap, newObj, Sem.run]
  · simp only [VR]; exact ⟨_, by simp [Gh.bind], rfl⟩
  · exact WR_new h2 ⟨[], heap_new, by simp [VRs], by simp [VRs], rfl⟩
end
end Go.Proofs.Ytadohhhjpbhhoaa.EvA
