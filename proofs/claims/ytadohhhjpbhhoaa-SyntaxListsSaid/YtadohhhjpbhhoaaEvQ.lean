/- An evaluator of the program's code over abstract values and an abstract heap: append. -/
import Derived.Test.YtadohhhjpbhhoaaEvP
import Derived.Deep.AppendSrc
namespace Go.Proofs.Ytadohhhjpbhhoaa.EvA
open Go.RowKit
set_option linter.unusedVariables false
set_option linter.unusedSimpArgs false
theorem WR.drew {B : Nat → Prop} {w0 w : World} {G : Gh} {h : AH} (hW : WR B w0 G h w) : WR B w0 G h w.drew :=
  ⟨hW.below.drew, hW.base, hW.phi, hW.inj, fun i x hx => by obtain ⟨b, hb, hr⟩ := hW.blk i x hx; exact ⟨b, hb, BR_mono (Gle.refl G) rfl hr⟩, hW.rp, hW.row, hW.own, hW.chain, hW.same, hW.sorted, hW.org, hW.nz, hW.fn, hW.fz, hW.fo⟩
/-- A row's cells, as the model reads them. -/
theorem src_of {P : Program} {B : Nat → Prop} {w0 w : World} {G : Gh} {h : AH} (hW : WR B w0 G h w) {xv : AV} {u : Value} (hx : VR G xv u) {size n : Nat} {cs : List AV} (hr : rowOf h size xv = some (cs, n)) {tx e' : TypeId} (hk : P.underlying tx = some (.slice e')) (hsc : cs.all scalar = true) :
    ∃ news, _root_.Go.Src P size tx u n news w ∧ VRs G cs news := by
  unfold rowOf at hr
  split at hr
  · simp only [Option.some.injEq, Prod.mk.injEq] at hr
    obtain ⟨rfl, rfl⟩ := hr
    simp only [VR] at hx; subst hx
    exact ⟨[], _root_.Go.Src.ofNil w hk 0, by simp [VRs]⟩
  · rename_i cs' n' r
    split at hr
    · rename_i hc
      simp only [Option.some.injEq, Prod.mk.injEq] at hr
      obtain ⟨rfl, rfl⟩ := hr
      simp only [VR] at hx
      obtain ⟨q2, q3, ⟨g1, g2, a0, cap0, g3, _⟩ | ⟨R, o, ad, cap, q4, q5, q6, q7, q8, q9, q10, q11⟩⟩ := hx
      · subst g2; subst g3
        have h0 : cs' = [] := List.eq_nil_of_length_eq_zero (by rw [q2, Nat.zero_mul])
        subst h0
        cases a0 with
        | none => exact ⟨[], _root_.Go.Src.ofNil w hk _, by simp [VRs]⟩
        | some a0 => exact ⟨[], _root_.Go.Src.ofSlice w hk a0 _ cap0 [] (by simp) (by simp) (by simp), by simp [VRs]⟩
      subst q5
      have hl := VRs_length q10
      refine ⟨_, _root_.Go.Src.ofSlice w hk ad _ cap ((R.vs.drop (o - R.org)).take cs'.length) (by rw [hl, q2, hc.2]) ?_ (ones_of q10 hsc), q10⟩
      intro j v hv
      have hj : j < cs'.length := by rw [← hl]; exact (List.getElem?_eq_some_iff.1 hv).1
      have hjj := hj
      have hcap : ad = ⟨R.b, o - R.base, none⟩ := by
        rcases q11 with h0 | h0
        · subst h0
          have : n' = 0 := by omega
          subst this; simp at q2; rw [q2] at hj; simp at hj
        · exact h0.1
      subst hcap
      obtain ⟨_, _, c, el, f, hw, hn, hcell⟩ := hW.cells q4 hc.1
      rw [add_at, cell_of hw]
      rw [List.getElem?_take, if_pos hjj, List.getElem?_drop] at hv
      have := hcell _ _ hv
      rw [show o - R.base + j = R.org - R.base + (o - R.org + j) by omega]; exact this
    · cases hr
  · cases hr
section
variable {P : Program} {d : Option Tmp} {t t2 t3 : TypeId} {pos : String} {af : Array Edge} {g : Option (Nat × Bool)}
theorem run_app {u1 u2 : TypeId} {s x : Operand} {a : Act} {w w' : World} {v : Value} (hr : (Builtin.append_ #[u1, u2] t #[a.eval s, a.eval x]).run P w = .ok v w') :
    (execOp a.eval ⟨d, .call { callee := .builtin .append, args := #[s, x], argTypes := #[u1, u2] }, t, pos, af, g⟩).run P w = .ok (.value v) w' := by
  simp only [execOp, resolve, invoke, builtin, Sem.run_bind, Sem.run_pure, Result.andThen, List.map_toArray, List.map_cons, List.map_nil, hr]
theorem ok_append {s x : Operand} {ks kx : AX} (hs : cX s = some ks) (hx : cX x = some kx) {u1 u2 e e' : TypeId} (hu : P.underlying u1 = some (.slice e)) (hk : P.underlying u2 = some (.slice e')) {i : TypeInfo} (hi : P.info? e = some i) {z : AV} (hz : zeroT P e = some z)
    (hzl : z.cells.length = i.size) (hsz : 0 < i.size) : OpOk P ⟨d, .call { callee := .builtin .append, args := #[s, x], argTypes := #[u1, u2] }, t, pos, af, g⟩ (oAppend i.size i.bytes ks kx) := by
  intro call B w0 G h w a ts v h' h1 h2 h3
  have r1 := cX_ok hs h1
  have r2 := cX_ok hx h1
  obtain ⟨zv, hz4, hz5⟩ := Option.bind_eq_some_iff.1 hz
  obtain ⟨i', hi', hzv⟩ := Option.bind_eq_some_iff.1 hz4
  obtain rfl := Option.some.inj (hi.symm.trans hi')
  have hzc : zv.cells.size = i.size := by
    have := VRs_length (cells_ok (VR_const G _ zv z hz5))
    rw [← hzl, ← this]; simp
  have hB := h2.fresh
  simp only [oAppend] at h3
  split at h3
  · cases h3
  · rename_i cs n hro
    split at h3
    · cases h3
    · rename_i hsc
      obtain ⟨news, hS, hN⟩ := src_of (P := P) h2 r2 hro hk hsc
      have hnl := hS.newsLen
      have hNl := VRs_length hN
      split at h3
      · rename_i es
        rw [es] at r1; simp only [VR] at r1
        split at h3
        · rename_i hn0
          simp only [Option.some.injEq, Prod.mk.injEq] at h3
          obtain ⟨rfl, rfl⟩ := h3
          subst hn0
          refine ⟨.slice none 0 0, w, G, Or.inl (run_app ?_), by simp [VR], Gle.refl G, h2⟩
          rw [r1]
          simp [Builtin.append_, run_underlying hu, run_underlying hk, sizeOf, typeInfo, hi, hS.len, hS.cells]
        · rename_i hn0
          split at h3
          · rename_i hb
            simp only [Option.some.injEq, Prod.mk.injEq] at h3
            obtain ⟨rfl, rfl⟩ := h3
            have hr := run_append_grow_src (P := P) w u1 u2 t e i zv hu hi hzv none 0 0 [] (run_firstCells_none _ _ _ _ _) (a.eval x) n news hS (by omega) (by omega) (growslice_fits (by omega) (by rw [Nat.zero_add]; omega))
            simp only [Nat.zero_add, List.nil_append] at hr
            have hW := WR_newRow (vs := news) (c := news.toArray ++ Builtin.zeroCells zv.cells (grownCap w n 0 e - n)) (e := e) (n := n * i.size) (size := i.size) h2.drew (by
              intro j v hv
              have hj := (List.getElem?_eq_some_iff.1 hv).1
              rw [Array.getElem?_append_left (by simpa using hj)]
              simpa using hv) hnl
            have hg := bindRow_le (f := h.fnext) (r := ⟨w.heap.size, 0, 0, news, (news.toArray ++ Builtin.zeroCells zv.cells (grownCap w n 0 e - n)).size⟩) (rp_fresh h2)
            have hge := grownCap_ge w n 0 e
            refine ⟨_, _, _, Or.inl (run_app (by rw [r1]; exact hr)), ?_, hg, hW⟩
            simp only [VR, AH.newRow]
            refine ⟨by rw [← hNl, hnl], hsz, Or.inr ⟨⟨w.heap.size, 0, 0, news, (news.toArray ++ Builtin.zeroCells zv.cells (grownCap w n 0 e - n)).size⟩, 0, ⟨w.heap.size, 0, none⟩, grownCap w n 0 e, Or.inr ⟨h2.fn, by rw [fam_new], by simp [Gh.bindRow], rfl⟩, rfl, Nat.le_refl _, Nat.le_refl _, ?_, hge, ?_, Or.inr ⟨rfl, Or.inr ?_⟩⟩⟩
            · show 0 - 0 + cs.length ≤ news.length
              rw [hNl]; omega
            · show VRs _ cs ((news.drop (0 - 0)).take cs.length)
              rw [Nat.sub_zero, List.drop_zero, ← hNl, List.take_length]
              exact VRs_mono hg _ _ hN
            · show 0 - 0 + grownCap w n 0 e * i.size ≤ (news.toArray ++ Builtin.zeroCells zv.cells (grownCap w n 0 e - n)).size
              rw [Array.size_append, size_zeroCells, hzc, List.size_toArray, hnl, ← Nat.add_mul]
              exact Nat.le_of_eq (by rw [show 0 - 0 = 0 from rfl, Nat.zero_add]; congr 1; omega)
          · cases h3
      · rename_i ds len r es
        rw [es] at r1
        split at h3
        · cases h3
        · rename_i hno
          have hfam : r.fam ≠ 0 := fun e => hno (Or.inl e)
          have hrs : r.size = i.size := Decidable.byContradiction fun e => hno (Or.inr (Or.inl e))
          have hok : h.ok r = true := by cases hh : h.ok r with
            | true => rfl
            | false => exact absurd (Or.inr (Or.inr hh)) hno
          have r1' := r1
          simp only [VR] at r1
          obtain ⟨q2, q3, ⟨g1, _⟩ | ⟨R, o, ad, cap, ⟨g1, _⟩ | ⟨_, q1, q4, rfl⟩, q5, q6, q7, q8, q9, q10, q11⟩⟩ := r1
          · exact absurd g1 hfam
          · exact absurd g1 hfam
          have hf0 : G.fam r.id ≠ 0 := by rw [← q1]; exact hfam
          have hlive : h.live.get r.id = some true := by
            simp only [AH.ok, Bool.or_eq_true, beq_iff_eq] at hok
            rcases hok with h0 | h0
            · exact absurd h0 hfam
            · cases hh : h.live.get r.id with
              | none => rw [hh] at h0; simp at h0
              | some y => rw [hh] at h0; simp at h0; rw [h0]
          have hdl := VRs_length q10
          split at h3
          · rename_i hn0
            simp only [Option.some.injEq, Prod.mk.injEq] at h3
            obtain ⟨rfl, rfl⟩ := h3
            subst hn0
            have hnil : news = [] := List.eq_nil_of_length_eq_zero (by simpa using hnl)
            refine ⟨a.eval s, w, G, Or.inl (run_app ?_), by rw [q5]; rw [q5] at r1'; exact r1', Gle.refl G, h2⟩
            rw [q5]
            have hc := hS.cells
            rw [hnil] at hc
            simp [Builtin.append_, run_underlying hu, run_underlying hk, sizeOf, typeInfo, hi, hS.len, hc, q9, storeCells]
          · rename_i hn0
            split at h3
            · rename_i hb
              simp only [Option.some.injEq, Prod.mk.injEq] at h3
              obtain ⟨rfl, rfl⟩ := h3
              obtain ⟨hBR, c, el, hw, hcn⟩ := h2.own _ _ q4 hf0
              obtain ⟨c', el', f', hw', hn', hcell⟩ := h2.row _ _ q4 (Or.inr hlive)
              rw [hw] at hw'
              simp only [Option.some.injEq, Obj.cells.injEq] at hw'
              obtain ⟨rfl, rfl, rfl⟩ := hw'
              have hFl := (h2.rp _ _ q4).2.2.1
              have hphi := (h2.rp _ _ q4).2.2.2
              have hRb := (h2.rp _ _ q4).2.1
              have hlen : (ds ++ cs).length = (len + n) * i.size := by rw [List.length_append, q2, hrs, ← hNl, hnl, ← Nat.add_mul]
              have hdlen : ((R.vs.drop (r.pos - R.org)).take ds.length).length = len * i.size := by rw [hdl, q2, hrs]
              have hnp : 0 < n := by omega
              by_cases hroom : len + n ≤ cap
              · have hcap : ad = ⟨R.b, r.pos - R.base, none⟩ ∧ r.pos - R.base + cap * r.size ≤ R.n := by
                  rcases q11 with h0 | h0
                  · omega
                  · exact ⟨h0.1, h0.2.resolve_left hfam⟩
                obtain ⟨rfl, hfit⟩ := hcap
                have hmul : (len + n) * i.size ≤ cap * i.size := Nat.mul_le_mul_right _ hroom
                rw [hrs] at hfit
                rw [Nat.add_mul] at hmul
                have hst := run_storeCells_at (P := P) R.b (r.pos - R.base + len * i.size) el news 0 c w hw (by rw [hnl, hcn]; omega) hS.one
                simp only [Nat.add_zero] at hst
                have hrun : (Builtin.append_ #[u1, u2] t #[a.eval s, a.eval x]).run P w = .ok (.slice (some ⟨R.b, r.pos - R.base, none⟩) (len + n) cap) (w.setRow R.b (c.toList.take (r.pos - R.base + len * i.size) ++ news ++ c.toList.drop (r.pos - R.base + len * i.size + news.length)).toArray) := by
                  rw [q5]
                  simp [Builtin.append_, run_underlying hu, run_underlying hk, sizeOf, typeInfo, hi, hS.len, hroom, hS.cells, Addr.add_lit, hst]
                have hg := bindRow_le (f := G.fam r.id) (r := ⟨R.b, R.base, r.pos, (R.vs.drop (r.pos - R.org)).take ds.length ++ news, R.n⟩) (rp_fresh h2)
                have hbase := Nat.le_trans q6 q7
                have htl : (c.toList.take (r.pos - R.base + len * i.size)).length = r.pos - R.base + len * i.size := by rw [List.length_take, Array.length_toList, hcn]; omega
                have hW := WR_grow (s := r) (F := G.fam r.id) (e := r.pos + len * i.size) (n := n * i.size) (R := ⟨R.b, R.base, r.pos, (R.vs.drop (r.pos - R.org)).take ds.length ++ news, R.n⟩) h2 q1 hf0 hFl
                  (w' := w.setRow R.b (c.toList.take (r.pos - R.base + len * i.size) ++ news ++ c.toList.drop (r.pos - R.base + len * i.size + news.length)).toArray)
                  ⟨rfl, rfl, rfl, by rw [setRow_size]; exact Nat.le_refl _, fun k hk => setRow_other w R.b k _ (fun e => hBR (e ▸ hk))⟩
                  (setRow_heap w R.b c _ el (0, 0) hw) (by
                    simp only [List.size_toArray, List.length_append, List.length_drop, htl, Array.length_toList, hcn, hnl]; omega) (by
                    intro j v hv
                    have hjl := (List.getElem?_eq_some_iff.1 hv).1
                    simp only [List.getElem?_toArray]
                    simp only at hv ⊢
                    by_cases hj : j < len * i.size
                    · rw [List.getElem?_append_left (by rw [hdlen]; exact hj)] at hv
                      have hjj : j < ds.length := by rw [q2, hrs]; exact hj
                      rw [List.append_assoc, List.getElem?_append_left (by rw [htl]; omega), List.getElem?_take, if_pos (by omega)]
                      rw [List.getElem?_take, if_pos hjj, List.getElem?_drop] at hv
                      have := hcell _ _ hv
                      rw [Array.getElem?_toList, show r.pos - R.base + j = R.org - R.base + (r.pos - R.org + j) by omega]; exact this
                    · rw [List.getElem?_append_right (by rw [hdlen]; omega), hdlen] at hv
                      rw [List.append_assoc, List.getElem?_append_right (by rw [htl]; omega), htl, List.getElem?_append_left (by have := (List.getElem?_eq_some_iff.1 hv).1; omega)]
                      rw [show r.pos - R.base + j - (r.pos - R.base + len * i.size) = j - len * i.size by omega]; exact hv)
                  (by simp only [List.length_append, hdlen, hnl]; omega) hBR hphi (fun k _ hk => setRow_other w R.b k _ hk) hbase (fun l' r' hr' => (h2.fz l' r' hr').2.2.1 r.id R q4) (by
                    intro j q hq hqb
                    obtain ⟨k1, k2⟩ := h2.same _ _ _ _ q4 hq hqb.symm hf0
                    obtain ⟨_, c2, e2, hw2, hn2⟩ := h2.own _ _ hq (by rw [← k1]; exact hf0)
                    have hqb' : q.b = R.b := hqb
                    have hw2' := hw2
                    rw [hqb', hw] at hw2'
                    simp only [Option.some.injEq, Obj.cells.injEq] at hw2'
                    obtain ⟨rfl, rfl, _⟩ := hw2'
                    refine ⟨k1.symm, k2.symm, by rw [← hn2, hcn], c, el, (0, 0), hw2, fun k hk => ?_⟩
                    rw [← k2] at hk
                    simp only [List.getElem?_toArray]
                    rw [List.append_assoc, List.getElem?_append_left (by rw [htl]; omega), List.getElem?_take, if_pos (by omega), Array.getElem?_toList])
                refine ⟨_, _, _, Or.inl (run_app hrun), ?_, hg, hW⟩
                simp only [VR, AH.grow]
                refine ⟨by rw [hlen, hrs], by rw [hrs]; exact hsz, Or.inr ⟨⟨R.b, R.base, r.pos, (R.vs.drop (r.pos - R.org)).take ds.length ++ news, R.n⟩, r.pos, ⟨R.b, r.pos - R.base, none⟩, cap, Or.inr ⟨hfam, by rw [fam_new]; exact q1, by simp [Gh.bindRow], rfl⟩, rfl, hbase, Nat.le_refl _, ?_, hroom, ?_, Or.inr ⟨rfl, Or.inr ?_⟩⟩⟩
                · simp only [Nat.sub_self, Nat.zero_add, hlen, List.length_append, hdlen, hnl, Nat.add_mul]; omega
                · show VRs _ (ds ++ cs) ((((R.vs.drop (r.pos - R.org)).take ds.length ++ news).drop (r.pos - r.pos)).take (ds ++ cs).length)
                  rw [Nat.sub_self, List.drop_zero, List.take_of_length_le (l := (R.vs.drop (r.pos - R.org)).take ds.length ++ news) (i := (ds ++ cs).length) (by rw [hlen, List.length_append, hdlen, hnl, Nat.add_mul]; omega)]
                  exact VRs_mono hg _ _ (VRs_app q10 hN)
                · rw [hrs]; exact hfit
              · have hrow : rowOf h i.size (.row ds len r) = some (ds, len) := by simp only [rowOf]; rw [if_pos ⟨hok, hrs⟩]
                have holds : (Builtin.firstCells i.size len (.slice (some ad) len cap)).run P w.drew = .ok ((R.vs.drop (r.pos - R.org)).take ds.length).toArray w.drew := by
                  refine run_firstCells_some (P := P) w.drew i.size len ad len cap _ hdlen ?_
                  intro j v hv
                  have hj : j < ds.length := by rw [← hdl]; exact (List.getElem?_eq_some_iff.1 hv).1
                  have hjj := hj
                  have hcap : ad = ⟨R.b, r.pos - R.base, none⟩ := by
                    rcases q11 with h0 | h0
                    · subst h0
                      have : len = 0 := by omega
                      subst this; simp at q2; rw [q2] at hj; simp at hj
                    · exact h0.1
                  subst hcap
                  rw [add_at, cell_of (w := w.drew) hw]
                  rw [List.getElem?_take, if_pos hjj, List.getElem?_drop] at hv
                  have := hcell _ _ hv
                  rw [show r.pos - R.base + j = R.org - R.base + (r.pos - R.org + j) by omega]; exact this
                have hr := run_append_grow_src (P := P) w u1 u2 t e i zv hu hi hzv (some ad) len cap _ holds (a.eval x) n news hS (by omega) (by omega) (growslice_fits (by omega) (by omega))
                have hge := grownCap_ge w (len + n) cap e
                let c2 : Array Value := ((R.vs.drop (r.pos - R.org)).take ds.length ++ news).toArray ++ Builtin.zeroCells zv.cells (grownCap w (len + n) cap e - (len + n))
                have hc2 : c2.size = grownCap w (len + n) cap e * i.size := by
                  simp only [c2, Array.size_append, size_zeroCells, hzc, List.size_toArray, List.length_append, hdlen, hnl, ← Nat.add_mul]
                  congr 1; omega
                have hg := bindRow_le (f := G.fam r.id) (r := ⟨w.heap.size, r.pos, r.pos, (R.vs.drop (r.pos - R.org)).take ds.length ++ news, c2.size⟩) (rp_fresh h2)
                have hW := WR_grow (s := r) (F := G.fam r.id) (e := r.pos + len * i.size) (n := n * i.size) (R := ⟨w.heap.size, r.pos, r.pos, (R.vs.drop (r.pos - R.org)).take ds.length ++ news, c2.size⟩) h2 q1 hf0 hFl
                  (w' := w.drew.alloc (.cells c2 e)) (c := c2) (el := e)
                  ((Bel.refl B w).drew.alloc h2.lt _)
                  (heap_new (w := w.drew)) rfl (by
                    intro j v hv
                    have hj := (List.getElem?_eq_some_iff.1 hv).1
                    simp only [Nat.sub_self, Nat.zero_add, c2]
                    simp only at hj hv
                    rw [Array.getElem?_append_left (by simpa using hj), List.getElem?_toArray]
                    exact hv)
                  (by simp only [List.length_append, hdlen, hnl]; omega) hB (fun j hj => by have := (h2.phi j _ hj).2.1; exact absurd this (Nat.lt_irrefl _)) (fun k hk _ => heap_alloc (w := w.drew) hk) (Nat.le_refl _) (fun l' r' hr' e0 => by have := (h2.fz l' r' hr').1; simp only at e0; omega) (by
                    intro j q hq hqb
                    have := (h2.rp j q hq).2.1
                    simp only at hqb; omega)
                refine ⟨_, _, _, Or.inl (run_app (by rw [q5]; exact hr)), ?_, hg, hW⟩
                simp only [VR, AH.grow]
                refine ⟨by rw [hlen, hrs], by rw [hrs]; exact hsz, Or.inr ⟨⟨w.heap.size, r.pos, r.pos, (R.vs.drop (r.pos - R.org)).take ds.length ++ news, c2.size⟩, r.pos, ⟨w.heap.size, 0, none⟩, grownCap w (len + n) cap e, Or.inr ⟨hfam, by rw [fam_new]; exact q1, by simp [Gh.bindRow], rfl⟩, rfl, Nat.le_refl _, Nat.le_refl _, ?_, hge, ?_, Or.inr ⟨by simp, Or.inr ?_⟩⟩⟩
                · simp only [Nat.sub_self, Nat.zero_add, hlen, List.length_append, hdlen, hnl, Nat.add_mul]; omega
                · show VRs _ (ds ++ cs) ((((R.vs.drop (r.pos - R.org)).take ds.length ++ news).drop (r.pos - r.pos)).take (ds ++ cs).length)
                  rw [Nat.sub_self, List.drop_zero, List.take_of_length_le (l := (R.vs.drop (r.pos - R.org)).take ds.length ++ news) (i := (ds ++ cs).length) (by rw [hlen, List.length_append, hdlen, hnl, Nat.add_mul]; omega)]
                  exact VRs_mono hg _ _ (VRs_app q10 hN)
                · simp only [Nat.sub_self, Nat.zero_add, hc2, hrs]; exact Nat.le_refl _
            · cases h3
      · cases h3
end
end Go.Proofs.Ytadohhhjpbhhoaa.EvA
