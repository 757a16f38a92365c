/- An evaluator of the program's code over abstract values and an abstract heap: two stores that may change places; what may be done at any time. -/
import Derived.Test.YtadohhhjpbhhoaaEvZ
namespace Go.Proofs.Ytadohhhjpbhhoaa.EvA
open Go.RowKit
set_option linter.unusedVariables false
set_option linter.unusedSimpArgs false
variable {D : List Deferred}
theorem setRow_comm (w : World) {b g : Nat} (hne : b ≠ g) (x y : Array Value) : (w.setRow b x).setRow g y = (w.setRow g y).setRow b x := by
  unfold World.setRow
  congr 1
  apply Array.ext_getElem?
  intro k
  simp only [Array.getElem?_modify]
  by_cases h1 : g = k <;> by_cases h2 : b = k
  · omega
  · simp [h1, h2]
  · simp [h1, h2]
  · simp [h1, h2]
section
variable {P : Program} {d : Option Tmp} {t t2 t3 : TypeId} {pos : String} {af : Array Edge} {g : Option (Nat × Bool)}
/-- A store, as the model does it. -/
theorem store_run {n : Nat} (hn : sizeT P t2 = some n) {x y : Operand} {a : Act} {b off : Nat} (hv : a.eval x = .pointer (some ⟨b, off, none⟩)) {w : World} {l : Array Value} {el : TypeId} (hw : w.heap[b]? = some (.cells l el (0, 0))) (hsz : (a.eval y).cells.size = n)
    (hfit : off + n ≤ l.size) (h1 : ∀ u ∈ (a.eval y).cells.toList, u.oneCell' = true) :
    (execOp a.eval ⟨d, .store t2 x y, t, pos, af, g⟩).run P w = .ok .skip (w.setRow b (l.toList.take off ++ (a.eval y).cells.toList ++ l.toList.drop (off + n)).toArray) := by
  have hst := run_storeCells_at (P := P) b off el (a.eval y).cells.toList 0 l w hw (by simp [hsz]; omega) h1
  simp only [Nat.add_zero] at hst
  have hvl : (a.eval y).cells.toList.length = n := by simpa using hsz
  rw [hvl] at hst
  simp only [execOp, Instr.storeAt, Instr.sureAddr, hv, storeVar, Sem.run_bind, Sem.run_pure, Result.andThen, run_size hn, hsz, ne_eq, not_true_eq_false, if_false, hst]
/-- The store elsewhere: at any world whose block is the same. -/
theorem store_any {x y : Operand} {kx ky : AX} (hx : cX x = some kx) (hy : cX y = some ky) {n : Nat} (hn : sizeT P t2 = some n) {B : Nat → Prop} {w0 w : World} {G : Gh} {h h' : AH} {a : Act} {ts : Tmps} {call : Fn} {v : AV} (h1 : VRs G ts a.tmps.toList) (h2 : WR B w0 G h w) (h3 : oStore n kx ky call ts h = some (v, h')) :
    ∃ b Y i, G.phi i = some b ∧ (∀ w' : World, w'.heap[b]? = w.heap[b]? → (execOp a.eval ⟨d, .store t2 x y, t, pos, af, g⟩).run P w' = .ok .skip (w'.setRow b Y)) ∧ WR B w0 G h' (w.setRow b Y) := by
  have r1 := cX_ok hx h1
  have r2 := cells_ok (cX_ok hy h1)
  simp only [oStore] at h3
  split at h3
  · rename_i i off e
    split at h3
    · rename_i cs hg
      split at h3
      · rename_i hc
        simp only [Option.some.injEq, Prod.mk.injEq] at h3
        obtain ⟨rfl, rfl⟩ := h3
        rw [e] at r1; simp only [VR] at r1
        obtain ⟨b, hb, hv⟩ := r1
        obtain ⟨b2, hb2, l, el, hw, hr⟩ := h2.blk i _ hg
        have : b2 = b := Option.some.inj (hb2.symm.trans hb)
        subst this
        have hl := VRs_length hr
        have hl2 := VRs_length r2
        have hsz : (a.eval y).cells.size = n := by rw [← hc.1]; simpa using hl2
        have hvl : (a.eval y).cells.toList.length = n := by rw [hl2]; exact hc.1
        refine ⟨b2, (l.take off ++ (a.eval y).cells.toList ++ l.drop (off + n)).toArray, i, hb, fun w' hw' => ?_, ?_⟩
        · exact store_run hn hv (l := ⟨l⟩) (hw'.trans hw) hsz (by simp; omega) (ones_of r2 hc.2.2)
        · exact WR_put h2 hb ⟨_, el, setRow_heap w b2 ⟨l⟩ _ el (0, 0) hw, VRs_app (VRs_app (VRs_take off hr) r2) (VRs_drop (off + n) hr)⟩ rfl rfl rfl (setRow_size w b2 _) (fun k hk => setRow_other w b2 k _ hk)
      · cases h3
    · cases h3
  · cases h3
theorem VRs_swap {G G' : Gh} (g : Gle G G') {i p n z : Nat} {s' : Src} {cs' : List AV} (hs : ∀ cs len s u, s.id = i → s.pos = p → cs.length = n → s.size = z → s.fam ≠ 0 → VR G (.row cs len s) u → VR G' (.row cs' len s') u) : ∀ {ts : List AV} {l : List Value}, VRs G ts l → VRs G' (ts.map (swapV i p n z s' cs')) l
  | [], l, h => by simp only [VRs] at h; subst h; simp [VRs]
  | a :: r, l, h => by
    simp only [VRs] at h
    obtain ⟨v, m, rfl, h1, h2⟩ := h
    simp only [List.map_cons, VRs]
    refine ⟨v, m, rfl, ?_, VRs_swap g hs h2⟩
    cases a with
    | row cs len s =>
      simp only [swapV]
      split
      · rename_i hc; exact hs cs len s v hc.1 hc.2.1 hc.2.2.1 hc.2.2.2.1 hc.2.2.2.2 h1
      · exact VR_mono g _ _ h1
    | _ => exact VR_mono g _ _ h1
/-- A store into an element of a row. -/
theorem elem_any2 {x y : Operand} {kx ky : AX} (hx : cX x = some kx) (hy : cX y = some ky) {n : Nat} (hn : sizeT P t2 = some n) {B : Nat → Prop} {w0 w : World} {G : Gh} {h h' : AH} {a : Act} {ts ts' : Tmps} (h1 : VRs G ts a.tmps.toList) (h2 : WR B w0 G h w) (h3 : oElem n kx ky ts h = some (ts', h')) :
    ∃ b X G', (∀ j, G.phi j ≠ some b) ∧ G'.phi = G.phi ∧ Gle G G' ∧ (∀ w' : World, w'.heap[b]? = w.heap[b]? → (execOp a.eval ⟨d, .store t2 x y, t, pos, af, g⟩).run P w' = .ok .skip (w'.setRow b X)) ∧ VRs G' ts' a.tmps.toList ∧ WR B w0 G' h' (w.setRow b X) ∧ (∀ cs off s, kx ts = .eptr cs off s → h'.get = h.get ∧ ∀ l lw, VRs G l lw → VRs G' (l.map (swapV s.id s.pos cs.length s.size { s with id := h.rnext } (cs.take off ++ (ky ts).cells ++ cs.drop (off + n)))) lw) := by
  have r1 := cX_ok hx h1
  have r2 := cells_ok (cX_ok hy h1)
  simp only [oElem] at h3
  split at h3
  · rename_i cs off s e
    split at h3
    · rename_i hc
      obtain ⟨c1, c2, c0, c3, c4, c5⟩ := hc
      simp only [Option.some.injEq, Prod.mk.injEq] at h3
      obtain ⟨rfl, rfl⟩ := h3
      rw [e] at r1; simp only [VR] at r1
      obtain ⟨R, o0, ⟨g1, _⟩ | ⟨_, q2, q1, rfl⟩, q3, q4, q5, q6, hv⟩ := r1
      · exact absurd g1 c1
      have hf0 : G.fam s.id ≠ 0 := by rw [← q2]; exact c1
      have hlive : h.live.get s.id = some true := by
        simp only [AH.ok, Bool.or_eq_true, beq_iff_eq] at c2
        rcases c2 with h0 | h0
        · exact absurd h0 c1
        · cases hh : h.live.get s.id with
          | none => rw [hh] at h0; simp at h0
          | some y => rw [hh] at h0; simp at h0; rw [h0]
      obtain ⟨hBR, c, el, hw, hcn⟩ := h2.own _ _ q1 hf0
      obtain ⟨c', el', f', hw', hn', hcell⟩ := h2.row _ _ q1 (Or.inr hlive)
      rw [hw] at hw'
      simp only [Option.some.injEq, Obj.cells.injEq] at hw'
      obtain ⟨rfl, rfl, rfl⟩ := hw'
      have hFl := (h2.rp _ _ q1).2.2.1
      have hphi := (h2.rp _ _ q1).2.2.2
      have hl2 := VRs_length r2
      have hsz : (a.eval y).cells.size = n := by rw [← c3]; simpa using hl2
      have hvl : (a.eval y).cells.toList.length = n := by simpa using hsz
      have hbase := Nat.le_trans q3 q4
      -- the cells that are known reach into the block
      have hwin := VRs_length q6
      have hfit : s.pos - R.base + cs.length ≤ c.size := by
        have hlast : R.vs.length - 1 < R.vs.length := by omega
        have := (Array.getElem?_eq_some_iff.1 (hcell _ _ (List.getElem?_eq_getElem hlast))).1
        omega
      let cs' := cs.take off ++ (ky ts).cells ++ cs.drop (off + n)
      let win := (R.vs.drop (s.pos - R.org)).take cs.length
      let vs' : List Value := win.take off ++ (a.eval y).cells.toList ++ win.drop (off + n)
      have hvs' : vs'.length = cs.length := by simp only [vs', win, List.length_append, List.length_take, List.length_drop, hvl]; simp at hwin; omega
      have hcs' : cs'.length = cs.length := by simp only [cs', List.length_append, List.length_take, List.length_drop, c3]; omega
      let o := s.pos - R.base + off
      let X := (c.toList.take o ++ (a.eval y).cells.toList ++ c.toList.drop (o + n)).toArray
      have hX : X.size = c.size := by simp only [X, o, List.size_toArray, List.length_append, List.length_take, List.length_drop, Array.length_toList, hvl]; omega
      have htl : (c.toList.take o).length = o := by simp only [o, List.length_take, Array.length_toList]; omega
      have hXlt : ∀ k, k < o → X[k]? = c[k]? := by
        intro k hk
        simp only [X, List.getElem?_toArray]
        rw [List.append_assoc, List.getElem?_append_left (by rw [htl]; exact hk), List.getElem?_take, if_pos hk, Array.getElem?_toList]
      have hwc : ∀ j v, win[j]? = some v → c[s.pos - R.base + j]? = some v := by
        intro j v hj
        have hjl : j < cs.length := by rw [← hwin]; exact (List.getElem?_eq_some_iff.1 hj).1
        simp only [win] at hj
        rw [List.getElem?_take, if_pos hjl, List.getElem?_drop] at hj
        have := hcell _ _ hj
        rw [show s.pos - R.base + j = R.org - R.base + (s.pos - R.org + j) by omega]; exact this
      have hXv : ∀ j v, vs'[j]? = some v → X[s.pos - R.base + j]? = some v := by
        intro j v hj
        have hjl : j < cs.length := by rw [← hvs']; exact (List.getElem?_eq_some_iff.1 hj).1
        have hwt : (win.take off).length = off := by rw [List.length_take, hwin]; omega
        simp only [vs'] at hj
        by_cases hj1 : j < off
        · rw [List.append_assoc, List.getElem?_append_left (by rw [hwt]; exact hj1), List.getElem?_take, if_pos hj1] at hj
          rw [hXlt _ (by simp only [o]; omega)]
          exact hwc j v hj
        · by_cases hj2 : j < off + n
          · rw [List.append_assoc, List.getElem?_append_right (by rw [hwt]; omega), hwt, List.getElem?_append_left (by rw [hvl]; omega)] at hj
            simp only [X, List.getElem?_toArray]
            rw [List.append_assoc, List.getElem?_append_right (by rw [htl]; simp only [o]; omega), htl, List.getElem?_append_left (by rw [hvl]; simp only [o]; omega)]
            rw [show s.pos - R.base + j - o = j - off by simp only [o]; omega]; exact hj
          · rw [List.getElem?_append_right (by rw [List.length_append, hwt, hvl]; omega), List.length_append, hwt, hvl, List.getElem?_drop] at hj
            rw [show off + n + (j - (off + n)) = j by omega] at hj
            simp only [X, List.getElem?_toArray]
            rw [List.getElem?_append_right (by rw [List.length_append, htl, hvl]; simp only [o]; omega), List.length_append, htl, hvl, List.getElem?_drop, Array.getElem?_toList]
            rw [show o + n + (s.pos - R.base + j - (o + n)) = s.pos - R.base + j by simp only [o]; omega]
            exact hwc j v hj
      have hg := bindRow_le (f := G.fam s.id) (r := ⟨R.b, R.base, s.pos, vs', R.n⟩) (rp_fresh h2)
      have hW := WR_grow (s := s) (F := G.fam s.id) (e := s.pos + off) (n := cs.length - off) (R := ⟨R.b, R.base, s.pos, vs', R.n⟩) h2 q2 hf0 hFl (w' := w.setRow R.b X)
        ⟨rfl, rfl, rfl, by rw [setRow_size]; exact Nat.le_refl _, fun k hk => setRow_other w R.b k _ (fun e => hBR (e ▸ hk))⟩
        (setRow_heap w R.b c _ el (0, 0) hw) (by rw [hX, hcn]) hXv (by simp only [hvs']; omega) hBR hphi (fun k _ hk => setRow_other w R.b k _ hk) hbase (fun l' r' hr' => (h2.fz l' r' hr').2.2.1 s.id R q1) (by
          intro j q hq hqb
          obtain ⟨k1, k2⟩ := h2.same _ _ _ _ q1 hq hqb.symm hf0
          obtain ⟨_, c2', e2, hw2, hn2⟩ := h2.own _ _ hq (by rw [← k1]; exact hf0)
          have hqb' : q.b = R.b := hqb
          have hw2' := hw2
          rw [hqb', hw] at hw2'
          simp only [Option.some.injEq, Obj.cells.injEq] at hw2'
          obtain ⟨rfl, rfl, _⟩ := hw2'
          refine ⟨k1.symm, k2.symm, by rw [← hn2, hcn], c, el, (0, 0), hw2, fun k hk => hXlt k ?_⟩
          rw [← k2] at hk
          simp only [o]; omega)
      have hsw : ∀ l lw, VRs G l lw → VRs (G.bindRow h.rnext (G.fam s.id) ⟨R.b, R.base, s.pos, vs', R.n⟩) (l.map (swapV s.id s.pos cs.length s.size { s with id := h.rnext } cs')) lw := by
        intro l0 lw0 hl0
        refine VRs_swap hg ?_ hl0
        intro cs0 len0 s0 u e1 e2 e3 e4 e5 hu
        simp only [VR] at hu ⊢
        obtain ⟨p2, p3, ⟨g1, _⟩ | ⟨R0, o0, ad, cap, ⟨g1, _⟩ | ⟨_, p1, p4, rfl⟩, p5, p6, p7, p8, p9, p10, p11⟩⟩ := hu
        · exact absurd g1 e5
        · exact absurd g1 e5
        rw [e1] at p4
        obtain rfl := Option.some.inj (q1.symm.trans p4)
        refine ⟨?_, ?_, Or.inr ⟨⟨R.b, R.base, s.pos, vs', R.n⟩, s.pos, ad, cap, Or.inr ⟨c1, by rw [fam_new]; exact q2, by simp [Gh.bindRow], rfl⟩, p5, hbase, Nat.le_refl _, ?_, p9, ?_, ?_⟩⟩
        · show cs'.length = len0 * s.size
          rw [hcs', ← e3, p2, e4]
        · show 0 < s.size
          rw [← e4]; exact p3
        · simp only [Nat.sub_self, Nat.zero_add]; show cs'.length ≤ vs'.length; rw [hcs', hvs']; exact Nat.le_refl _
        · simp only [Nat.sub_self, List.drop_zero]
          show VRs _ cs' (vs'.take cs'.length)
          rw [hcs', ← hvs', List.take_length]
          exact VRs_mono hg _ _ (VRs_app (VRs_app (VRs_take off q6) r2) (VRs_drop (off + n) q6))
        · rcases p11 with h0 | h0
          · exact Or.inl h0
          · have h1 := h0.2.resolve_left e5
            have h2 := h0.1
            rw [e2] at h1 h2; rw [e4] at h1; exact Or.inr ⟨h2, Or.inr h1⟩
      refine ⟨R.b, X, G.bindRow h.rnext (G.fam s.id) ⟨R.b, R.base, s.pos, vs', R.n⟩, hphi, rfl, hg, fun w' hw'' => ?_, hsw _ _ h1, hW, fun cs1 off1 s1 e1 => ?_⟩
      · exact store_run hn (off := o) (by rw [hv]) (l := c) (hw''.trans hw) hsz (by simp only [o]; omega) (ones_of r2 c5)
      · rw [e] at e1; cases e1
        exact ⟨rfl, hsw⟩
    · cases h3
  · cases h3
theorem elem_any {x y : Operand} {kx ky : AX} (hx : cX x = some kx) (hy : cX y = some ky) {n : Nat} (hn : sizeT P t2 = some n) {B : Nat → Prop} {w0 w : World} {G : Gh} {h h' : AH} {a : Act} {ts ts' : Tmps} (h1 : VRs G ts a.tmps.toList) (h2 : WR B w0 G h w) (h3 : oElem n kx ky ts h = some (ts', h')) :
    ∃ b X G', (∀ j, G.phi j ≠ some b) ∧ G'.phi = G.phi ∧ Gle G G' ∧ (∀ w' : World, w'.heap[b]? = w.heap[b]? → (execOp a.eval ⟨d, .store t2 x y, t, pos, af, g⟩).run P w' = .ok .skip (w'.setRow b X)) ∧ VRs G' ts' a.tmps.toList ∧ WR B w0 G' h' (w.setRow b X) := by
  obtain ⟨b, X, G', q1, q2, q3, q4, q5, q6, _⟩ := elem_any2 (d := d) (t := t) (pos := pos) (af := af) (g := g) hx hy hn h1 h2 h3
  exact ⟨b, X, G', q1, q2, q3, q4, q5, q6⟩
/-- .. of a row that a cell holds. -/
theorem elem_anyP {x y : Operand} {kx ky : AX} {kp : Option AX} (hx : cX x = some kx) (hy : cX y = some ky) {n : Nat} (hn : sizeT P t2 = some n) {B : Nat → Prop} {w0 w : World} {G : Gh} {h h' : AH} {a : Act} {ts ts' : Tmps} (h1 : VRs G ts a.tmps.toList) (h2 : WR B w0 G h w) (h3 : oElemP n kx ky kp ts h = some (ts', h')) :
    ∃ b X G', (∀ j, G.phi j ≠ some b) ∧ G'.phi = G.phi ∧ Gle G G' ∧ (∀ w' : World, w'.heap[b]? = w.heap[b]? → (execOp a.eval ⟨d, .store t2 x y, t, pos, af, g⟩).run P w' = .ok .skip (w'.setRow b X)) ∧ VRs G' ts' a.tmps.toList ∧ WR B w0 G' h' (w.setRow b X) := by
  unfold oElemP at h3
  split at h3
  · cases h3
  · rename_i t1 g1 e1
    obtain ⟨b, X, G', q1, q2, q3, q4, q5, q6, q7⟩ := elem_any2 (d := d) (t := t) (pos := pos) (af := af) (g := g) hx hy hn h1 h2 e1
    split at h3
    · simp only [Option.some.injEq, Prod.mk.injEq] at h3
      obtain ⟨rfl, rfl⟩ := h3
      exact ⟨b, X, G', q1, q2, q3, q4, q5, q6⟩
    · split at h3
      · rename_i cs off s i o ek ea
        split at h3
        · rename_i l hg
          simp only [Option.some.injEq, Prod.mk.injEq] at h3
          obtain ⟨rfl, rfl⟩ := h3
          obtain ⟨_, hs⟩ := q7 cs off s ek
          obtain ⟨b2, hb2, l2, el, hw, hr⟩ := h2.blk i _ hg
          have hne : b2 ≠ b := fun e => q1 i (e ▸ hb2)
          refine ⟨b, X, G', q1, q2, q3, q4, q5, WR_put q6 (by rw [q2]; exact hb2) ⟨l2, el, (setRow_other w b b2 _ hne).trans hw, hs _ _ hr⟩ rfl rfl rfl rfl (fun k hk => rfl)⟩
        · simp only [Option.some.injEq, Prod.mk.injEq] at h3
          obtain ⟨rfl, rfl⟩ := h3
          exact ⟨b, X, G', q1, q2, q3, q4, q5, q6⟩
      · simp only [Option.some.injEq, Prod.mk.injEq] at h3
        obtain ⟨rfl, rfl⟩ := h3
        exact ⟨b, X, G', q1, q2, q3, q4, q5, q6⟩
end
end Go.Proofs.Ytadohhhjpbhhoaa.EvA
