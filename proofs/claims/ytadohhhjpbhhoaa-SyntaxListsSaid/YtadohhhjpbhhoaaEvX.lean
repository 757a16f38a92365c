/- An evaluator of the program's code over abstract values and an abstract heap: code, functions, and what it says of a call. -/
import Derived.Test.YtadohhhjpbhhoaaEvIc
import Derived.Test.YtadohhhjpbhhoaaEvIz
import Derived.Defers
import Derived.Laws.MakeOwn
import Derived.Laws.BytesString
namespace Go.Proofs.Ytadohhhjpbhhoaa.EvA
open Go.RowKit
set_option linter.unusedVariables false
set_option linter.unusedSimpArgs false
/-! Regions with a listed order that make rows, write into their elements, and turn bytes into a text. -/
section
variable {P : Program} {d : Option Tmp} {t t2 t3 : TypeId} {pos : String} {af : Array Edge} {g : Option (Nat × Bool)}
theorem ok_make {e : TypeId} (hu : P.underlying t2 = some (.slice e)) {i : TypeInfo} (hi : P.info? e = some i) {z : AV} (hz : zeroT P e = some z) (hzl : z.cells.length = i.size) (hsp : 0 < i.size)
    {x y : Operand} {kx ky : AX} (hx : cX x = some kx) (hy : cX y = some ky) : OpOk P ⟨d, .makeSlice t2 x y, t, pos, af, g⟩ (oMake i.size i.bytes z.cells kx ky) := by
  intro call B w0 G h w a ts v h' h1 h2 h3
  have r1 := cX_ok hx h1
  have r2 := cX_ok hy h1
  unfold zeroT at hz
  obtain ⟨zv, h4, h5⟩ := Option.bind_eq_some_iff.1 hz
  obtain ⟨it, h6, h7⟩ := Option.bind_eq_some_iff.1 h4
  obtain rfl := Option.some.inj (hi.symm.trans h6)
  have hzc := cells_ok (VR_const G _ zv z h5)
  have hzs : zv.cells.size = i.size := by have := VRs_length hzc; rw [← hzl, ← this]; simp
  simp only [oMake] at h3
  split at h3
  · rename_i k1 n k2 m e1 e2
    split at h3
    · rename_i hc
      obtain ⟨c1, rfl, c2, c3⟩ := hc
      simp only [Option.some.injEq, Prod.mk.injEq] at h3
      obtain ⟨rfl, rfl⟩ := h3
      rw [e1] at r1; rw [e2] at r2
      simp only [VR] at r1 r2
      have hrun := run_make (P := P) w t2 e i zv hu hi h7 k1 k2 n n c1 (Int.le_refl _) c2 (by omega)
      have hrep : VRs G (List.replicate n.toNat z.cells).flatten (madeCells zv.cells (n.toNat * i.size)).toList := by
        have e1 : (madeCells zv.cells (n.toNat * i.size)).toList = (List.replicate n.toNat zv.cells.toList).flatten := by
          rw [← range_flat zv.cells.toList n.toNat]
          simp only [madeCells, Array.toList_map, Array.toList_range, Array.length_toList, hzs]
          apply List.map_congr_left
          intro k _
          rw [List.getElem!_eq_getElem?_getD, Array.getElem?_toList, Array.getElem!_eq_getD, Array.getD_eq_getD_getElem?]
        rw [e1]
        exact VRs_rep hzc n.toNat
      have hrl : (madeCells zv.cells (n.toNat * i.size)).size = n.toNat * i.size := size_madeCells _ _
      have hlen := VRs_length hrep
      simp only [Array.length_toList, hrl] at hlen
      generalize madeCells zv.cells (n.toNat * i.size) = r at hrun hrep hrl
      generalize (List.replicate n.toNat z.cells).flatten = cs at hrep hlen ⊢
      have hg := bindRow_le (f := h.fnext) (r := ⟨w.heap.size, 0, 0, r.toList, r.size⟩) (rp_fresh h2)
      have hW := WR_newRow (vs := r.toList) (c := r) (e := e) (n := n.toNat * i.size) (size := i.size) h2 (by intro j v hv; simpa using hv) (by simpa using hrl)
      refine ⟨_, _, _, Or.inl (by simp only [execOp, r1, r2, Sem.run_bind, hrun, Result.andThen]; rfl), ?_, hg, hW⟩
      simp only [VR, AH.newRow]
      refine ⟨hlen.symm, hsp, Or.inr ⟨⟨w.heap.size, 0, 0, r.toList, r.size⟩, 0, ⟨w.heap.size, 0, none⟩, n.toNat, Or.inr ⟨h2.fn, by rw [fam_new], by simp [Gh.bindRow], rfl⟩, rfl, Nat.le_refl _, Nat.le_refl _, ?_, Nat.le_refl _, ?_, Or.inr ⟨rfl, Or.inr ?_⟩⟩⟩
      · show 0 - 0 + cs.length ≤ r.toList.length
        simp only [Array.length_toList, hrl, hlen]; omega
      · show VRs _ cs ((r.toList.drop (0 - 0)).take cs.length)
        rw [Nat.sub_zero, List.drop_zero, List.take_of_length_le (by simp only [Array.length_toList, hrl, hlen]; omega)]
        exact VRs_mono hg _ _ hrep
      · show 0 - 0 + n.toNat * i.size ≤ r.size
        rw [hrl]; omega
    · cases h3
  · cases h3
/-- Bytes, put together. -/
theorem push_all : ∀ (l : List UInt8) (s : ByteArray), l.foldl (fun r b => r.push b) s = ⟨(s.data.toList ++ l).toArray⟩
  | [], s => by simp
  | b :: l, s => by
    rw [List.foldl_cons, push_all l]
    simp [ByteArray.push]
theorem bytes_of {G : Gh} : ∀ {cs : List AV} {l : List UInt8} {vs : List Value}, cs.mapM byteU = some l → VRs G cs vs → ∃ ns : List Int, vs = ns.map (Value.int .u8) ∧ ns.map (fun n => UInt8.ofNat n.toNat) = l
  | [], l, vs, h, hv => by
    simp at h; subst h
    simp only [VRs] at hv; subst hv
    exact ⟨[], rfl, rfl⟩
  | c :: cs, l, vs, h, hv => by
    simp only [List.mapM_cons, Option.bind_eq_bind, Option.bind_eq_some_iff, Option.pure_def, Option.some.injEq] at h
    obtain ⟨b, hb, m, hm, rfl⟩ := h
    simp only [VRs] at hv
    obtain ⟨v, r, rfl, q1, q2⟩ := hv
    obtain ⟨ns, rfl, e2⟩ := bytes_of hm q2
    unfold byteU at hb
    split at hb
    · rename_i n
      simp only [Option.some.injEq] at hb; subst hb
      simp only [VR] at q1; subst q1
      exact ⟨n :: ns, rfl, by simp [e2]⟩
    · cases hb
theorem ok_text {x : Operand} {kx : AX} (hx : cX x = some kx) {e : TypeId} (hs : P.underlying t2 = some (.slice e)) (he : P.underlying e = some (.int .u8)) (hd : P.underlying t3 = some .string) : OpOk P ⟨d, .convert t2 t3 x, t, pos, af, g⟩ (oText kx) :=
  OpOk.pure fun call B w0 G h w a ts v h' h1 h2 h3 => by
    have r1 := cX_ok hx h1
    simp only [oText] at h3
    split at h3
    · rename_i cs n s e1
      split at h3
      · rename_i hc
        split at h3
        · rename_i l hl
          simp only [Option.some.injEq, Prod.mk.injEq] at h3
          obtain ⟨rfl, rfl⟩ := h3
          refine ⟨rfl, .string ⟨l.toArray⟩, ?_, by simp [VR]⟩
          rw [e1] at r1
          simp only [VR] at r1
          obtain ⟨q2, q3, ⟨g1, g2, a0, cap0, g3, _⟩ | ⟨R, o, ad, cap, q4, q5, q6, q7, q8, q9, q10, q11⟩⟩ := r1
          · subst g2
            have h0 : cs = [] := List.eq_nil_of_length_eq_zero (by rw [q2, Nat.zero_mul])
            subst h0
            simp at hl; subst hl
            simp only [execOp, g3, Sem.run_bind]
            rw [run_convert_bytes_string w t2 t3 e a0 0 cap0 hs he hd]
            cases a0 with
            | none => simp [Conv.bytesToString, Sem.run_pure, Result.andThen]; rfl
            | some a0 => rw [run_bytesToString w a0 0 cap0 [] (by simp [loadCells, loadCellsFrom, Sem.run_pure])]; rfl
          · obtain ⟨ns, e2, e3⟩ := bytes_of hl q10
            have hll := VRs_length q10
            have hlen : ns.length = n := by
              have := congrArg List.length e2
              simp only [List.length_map] at this
              rw [← this, hll, q2, hc.2.1, Nat.mul_one]
            have hrun := run_loadCells_list (P := P) (w := w) ad (ns.map (Value.int .u8)) (by
              rw [← e2]
              intro j v hv
              have hj : j < cs.length := by rw [← hll]; exact (List.getElem?_eq_some_iff.1 hv).1
              have hjj := hj
              have hcap : ad = ⟨R.b, o - R.base, none⟩ := by
                rcases q11 with h0 | h0
                · subst h0
                  have : n = 0 := by omega
                  subst this; simp at q2; rw [q2] at hj; simp at hj
                · exact h0.1
              subst hcap
              obtain ⟨_, _, c, el, f, hw, hn, hcell⟩ := h2.cells q4 hc.1
              rw [add_at, cell_of hw]
              rw [List.getElem?_take, if_pos hjj, List.getElem?_drop] at hv
              have := hcell _ _ hv
              rw [show o - R.base + j = R.org - R.base + (o - R.org + j) by omega]; exact this)
            simp only [List.length_map, hlen] at hrun
            simp only [execOp, q5, Sem.run_bind]
            rw [run_convert_bytes_string w t2 t3 e (some ad) n cap hs he hd, run_bytesToString w ad n cap ns hrun]
            rw [← e3]
            have : ns.foldl (fun r n => r.push (UInt8.ofNat n.toNat)) ByteArray.empty = (ns.map fun n => UInt8.ofNat n.toNat).foldl (fun r b => r.push b) ByteArray.empty := by rw [List.foldl_map]
            rw [this, push_all]
            rfl
        · cases h3
      · cases h3
    · cases h3
end
section
variable {D : List Deferred}
theorem cOpX_ok {P : Program} {d : Option Tmp} {t : TypeId} {pos : String} {af : Array Edge} {g : Option (Nat × Bool)} {op : Op} {k : KO} (hk : cOpX P op = some k) : OpSnd P ⟨d, op, t, pos, af, g⟩ k := by
  unfold cOpX at hk
  split at hk
  · split at hk
    · rename_i h1 h2 h3
      split at hk
      · rename_i h4 h5
        split at hk
        · rename_i hc
          simp only [Option.some.injEq] at hk; subst hk
          exact (ok_make h1 h4 h5 hc.1 hc.2 h2 h3).snd
        · cases hk
      · cases hk
    · cases hk
  · split at hk
    · rename_i h1 h2
      split at hk
      · rename_i h3
        obtain ⟨a, h4, rfl⟩ := Option.map_eq_some_iff.1 hk
        exact (ok_text h4 h1 h3 h2).snd
      · cases hk
    · exact cOp_ok hk
  · exact cOp_ok hk
noncomputable def kOf (ops : Array Oper) (o : Oper) (a : KO) : Option KS := match o.guard with
  | none => match o.dst with
    | some d => some (sDo d a)
    | none => some (sDo0 a)
  | some (j, want) => match (ops[j]?).bind (·.dst), o.dst with
    | some t, some d => some (sIf t want d a)
    | _, _ => none
theorem kof_ok {P : Program} {ops : Array Oper} {o : Oper} {k : KO} (hop0 : OpSnd P o k) {st : Fn → Tmps → AH → Option (Tmps × AH)} (hs : kOf ops o k = some st) {call : Fn} {B : Nat → Prop} {w0 w : World} (hc : CallOk P B w0 call) {G : Gh} {h h' : AH} {a : Act} {ts ts' : Tmps}
    (h1 : VRs G ts a.tmps.toList) (h2 : WR B w0 G h w) (hd : a.defers = D) (h3 : st call ts h = some (ts', h')) {K : Act → World → Prop} {Q : Exit → Act → World → Prop} (hK : ∀ a' w', Sim D B w0 G ts' h' a' w' → K a' w') :
    if Region.wanted o (yielded ops a.tmps) then o.wp P a w K Q ∨ (o.asks P a w ∧ LetsOut Q) else K (a.put o.dst undef) w := by
  obtain ⟨dst, op, type, pos, after, guard⟩ := o
  unfold kOf at hs
  simp only at hs
  have hop := hop0
  have putD : ∀ (d : Option Tmp) (u : Value), (a.put d u).defers = D := by intro d u; cases d <;> exact hd
  split at hs
  · rw [if_pos (by rfl)]
    left
    split at hs
    · rename_i d
      simp only [Option.some.injEq] at hs; subst hs
      simp only [sDo, kDo] at h3
      split at h3
      · cases h3
      · rename_i v h'' hv
        simp only [kEnd, Option.some.injEq, Prod.mk.injEq] at h3
        obtain ⟨rfl, rfl⟩ := h3
        exact hop call B w0 hc G h w a ts v _ h1 h2 hv K Q fun u w' G' g1 g2 g3 => hK _ _ ⟨G', g1, VRs_upd (VRs_mono g1 _ _ h1) g2 d, g3, putD _ _⟩
    · simp only [Option.some.injEq] at hs; subst hs
      simp only [sDo0, kDo0] at h3
      split at h3
      · cases h3
      · rename_i v h'' hv
        simp only [kEnd, Option.some.injEq, Prod.mk.injEq] at h3
        obtain ⟨rfl, rfl⟩ := h3
        exact hop call B w0 hc G h w a ts v _ h1 h2 hv K Q fun u w' G' g1 g2 g3 => hK _ _ ⟨G', g1, VRs_mono g1 _ _ h1, g3, putD _ _⟩
  · rename_i j want
    split at hs
    · rename_i t d h4
      simp only [Option.some.injEq] at hs; subst hs
      have hy : yielded ops a.tmps j = match a.tmps[t]? with | some (.bool b) => some b | _ => none := by
        unfold yielded; rw [h4]; rfl
      have hv := VR_getD h1 t
      have skip : ∀ u, u = (.tup [] : AV) → Sim D B w0 G (upd ts u d) h (a.put (some d) undef) w := by
        rintro u rfl; exact ⟨G, Gle.refl G, VRs_upd h1 (VR_undef G) d, h2, putD _ _⟩
      simp only [sIf, kIf] at h3
      split at h3
      · rename_i b hb
        rw [hb] at hv; simp only [VR] at hv
        have hget : a.tmps[t]? = some (.bool b) := by
          rw [Array.getD_eq_getD_getElem?] at hv
          cases hh : a.tmps[t]? with
          | none => rw [hh] at hv; simp [undef] at hv
          | some y => rw [hh] at hv; simp at hv; rw [hv]
        rw [hget] at hy
        simp only [Region.wanted, hy]
        split at h3
        · rename_i hbw
          have hbw' : b = want := by simpa using hbw
          rw [if_pos (by simp [hbw'])]
          left
          split at h3
          · cases h3
          · rename_i v h'' hv2
            simp only [kEnd, Option.some.injEq, Prod.mk.injEq] at h3
            obtain ⟨rfl, rfl⟩ := h3
            exact hop call B w0 hc G h w a ts v _ h1 h2 hv2 K Q fun u w' G' g1 g2 g3 => hK _ _ ⟨G', g1, VRs_upd (VRs_mono g1 _ _ h1) g2 d, g3, putD _ _⟩
        · rename_i hbw
          have hbw' : ¬ b = want := by simpa using hbw
          rw [if_neg (by simpa using hbw')]
          simp only [kEnd, Option.some.injEq, Prod.mk.injEq] at h3
          obtain ⟨rfl, rfl⟩ := h3
          exact hK _ _ (skip _ rfl)
      · rename_i hnb
        simp only [kEnd, Option.some.injEq, Prod.mk.injEq] at h3
        obtain ⟨rfl, rfl⟩ := h3
        have hget : ∀ b, a.tmps[t]? ≠ some (.bool b) := by
          intro b hb
          have e : a.tmps.getD t undef = .bool b := by rw [Array.getD_eq_getD_getElem?, hb]; rfl
          rw [e] at hv
          generalize hn : nth ts t = x at hv hnb
          cases x <;> simp only [VR] at hv <;> first | (cases hv; done) | skip
          all_goals first
            | (obtain ⟨_, _, hv⟩ := hv; cases hv; done)
            | (obtain ⟨_, hv, _⟩ := hv; cases hv; done)
            | (obtain ⟨_, _, _, _, _, _, _, hv⟩ := hv; cases hv; done)
            | (rcases hv with ⟨_, _, ⟨_, _, _, _, hv, _⟩ | ⟨_, _, _, _, _, hv, _⟩⟩ <;> cases hv; done)
            | (exact absurd rfl (hnb _))
        have hy' : yielded ops a.tmps j = none := by
          rw [hy]
          split
          · rename_i b hb; exact absurd hb (hget b)
          · rfl
        simp only [Region.wanted, hy']
        rw [if_neg (by simp)]
        exact hK _ _ (skip _ rfl)
    · cases hs
/-- Cells of a row written, in place. -/
theorem elem_core {G : Gh} {B : Nat → Prop} {w0 w : World} {h : AH} {cs zs ts : List AV} {vals l : List Value} {s : Src} {off n : Nat} {R : RP} (h1 : VRs G ts l) (h2 : WR B w0 G h w) (r2 : VRs G zs vals) (c1 : s.fam ≠ 0) (c2 : h.ok s = true) (c0 : 0 < n) (c3 : zs.length = n) (c4 : off + n ≤ cs.length)
    (q2 : s.fam = G.fam s.id) (q1 : G.rp s.id = some R) (q3 : R.base ≤ R.org) (q4 : R.org ≤ s.pos) (q5 : s.pos - R.org + cs.length ≤ R.vs.length) (q6 : VRs G cs ((R.vs.drop (s.pos - R.org)).take cs.length)) :
    ∃ c el G', w.heap[R.b]? = some (.cells c el (0, 0)) ∧ s.pos - R.base + off + n ≤ c.size ∧ Gle G G' ∧ VRs G' (ts.map (swapV s.id s.pos cs.length s.size { s with id := h.rnext } (cs.take off ++ zs ++ cs.drop (off + n)))) l ∧
      WR B w0 G' (h.grow s (s.pos + off) (cs.length - off)).2 (w.setRow R.b (c.toList.take (s.pos - R.base + off) ++ vals ++ c.toList.drop (s.pos - R.base + off + n)).toArray) := by
  have hf0 : G.fam s.id ≠ 0 := by rw [← q2]; exact c1
  have hlive : h.live.get s.id = some true := by
    simp only [AH.ok, Bool.or_eq_true, beq_iff_eq] at c2
    rcases c2 with h0 | h0
    · exact absurd h0 c1
    · cases hh : h.live.get s.id with
      | none => rw [hh] at h0; simp at h0
      | some y => rw [hh] at h0; simp at h0; rw [h0]
  obtain ⟨hBR, c, el, hw, hcn⟩ := h2.own _ _ q1 hf0
  obtain ⟨c', el', f', hw', hn', hcell⟩ := h2.row _ _ q1 (Or.inr hlive)
  rw [hw] at hw'
  simp only [Option.some.injEq, Obj.cells.injEq] at hw'
  obtain ⟨rfl, rfl, rfl⟩ := hw'
  have hFl := (h2.rp _ _ q1).2.2.1
  have hphi := (h2.rp _ _ q1).2.2.2
  have hl2 := VRs_length r2
  have hvl : vals.length = n := by rw [hl2]; exact c3
  have hbase := Nat.le_trans q3 q4
  -- the cells that are known reach into the block
  have hwin := VRs_length q6
  have hfit : s.pos - R.base + cs.length ≤ c.size := by
    have hlast : R.vs.length - 1 < R.vs.length := by omega
    have := (Array.getElem?_eq_some_iff.1 (hcell _ _ (List.getElem?_eq_getElem hlast))).1
    omega
  let cs' := cs.take off ++ zs ++ cs.drop (off + n)
  let win := (R.vs.drop (s.pos - R.org)).take cs.length
  let vs' : List Value := win.take off ++ vals ++ win.drop (off + n)
  have hvs' : vs'.length = cs.length := by simp only [vs', win, List.length_append, List.length_take, List.length_drop, hvl]; simp at hwin; omega
  have hcs' : cs'.length = cs.length := by simp only [cs', List.length_append, List.length_take, List.length_drop, c3]; omega
  let o := s.pos - R.base + off
  let X := (c.toList.take o ++ vals ++ c.toList.drop (o + n)).toArray
  have hX : X.size = c.size := by simp only [X, o, List.size_toArray, List.length_append, List.length_take, List.length_drop, Array.length_toList, hvl]; omega
  have htl : (c.toList.take o).length = o := by simp only [o, List.length_take, Array.length_toList]; omega
  have hXlt : ∀ k, k < o → X[k]? = c[k]? := by
    intro k hk
    simp only [X, List.getElem?_toArray]
    rw [List.append_assoc, List.getElem?_append_left (by rw [htl]; exact hk), List.getElem?_take, if_pos hk, Array.getElem?_toList]
  have hwc : ∀ j v, win[j]? = some v → c[s.pos - R.base + j]? = some v := by
    intro j v hj
    have hjl : j < cs.length := by rw [← hwin]; exact (List.getElem?_eq_some_iff.1 hj).1
    simp only [win] at hj
    rw [List.getElem?_take, if_pos hjl, List.getElem?_drop] at hj
    have := hcell _ _ hj
    rw [show s.pos - R.base + j = R.org - R.base + (s.pos - R.org + j) by omega]; exact this
  have hXv : ∀ j v, vs'[j]? = some v → X[s.pos - R.base + j]? = some v := by
    intro j v hj
    have hjl : j < cs.length := by rw [← hvs']; exact (List.getElem?_eq_some_iff.1 hj).1
    have hwt : (win.take off).length = off := by rw [List.length_take, hwin]; omega
    simp only [vs'] at hj
    by_cases hj1 : j < off
    · rw [List.append_assoc, List.getElem?_append_left (by rw [hwt]; exact hj1), List.getElem?_take, if_pos hj1] at hj
      rw [hXlt _ (by simp only [o]; omega)]
      exact hwc j v hj
    · by_cases hj2 : j < off + n
      · rw [List.append_assoc, List.getElem?_append_right (by rw [hwt]; omega), hwt, List.getElem?_append_left (by rw [hvl]; omega)] at hj
        simp only [X, List.getElem?_toArray]
        rw [List.append_assoc, List.getElem?_append_right (by rw [htl]; simp only [o]; omega), htl, List.getElem?_append_left (by rw [hvl]; simp only [o]; omega)]
        rw [show s.pos - R.base + j - o = j - off by simp only [o]; omega]; exact hj
      · rw [List.getElem?_append_right (by rw [List.length_append, hwt, hvl]; omega), List.length_append, hwt, hvl, List.getElem?_drop] at hj
        rw [show off + n + (j - (off + n)) = j by omega] at hj
        simp only [X, List.getElem?_toArray]
        rw [List.getElem?_append_right (by rw [List.length_append, htl, hvl]; simp only [o]; omega), List.length_append, htl, hvl, List.getElem?_drop, Array.getElem?_toList]
        rw [show o + n + (s.pos - R.base + j - (o + n)) = s.pos - R.base + j by simp only [o]; omega]
        exact hwc j v hj
  have hg := bindRow_le (f := G.fam s.id) (r := ⟨R.b, R.base, s.pos, vs', R.n⟩) (rp_fresh h2)
  have hW := WR_grow (s := s) (F := G.fam s.id) (e := s.pos + off) (n := cs.length - off) (R := ⟨R.b, R.base, s.pos, vs', R.n⟩) h2 q2 hf0 hFl (w' := w.setRow R.b X)
    ⟨rfl, rfl, rfl, by rw [setRow_size]; exact Nat.le_refl _, fun k hk => setRow_other w R.b k _ (fun e => hBR (e ▸ hk))⟩
    (setRow_heap w R.b c _ el (0, 0) hw) (by rw [hX, hcn]) hXv (by simp only [hvs']; omega) hBR hphi (fun k _ hk => setRow_other w R.b k _ hk) hbase (fun l' r' hr' => (h2.fz l' r' hr').2.2.1 s.id R q1) (by
      intro j q hq hqb
      obtain ⟨k1, k2⟩ := h2.same _ _ _ _ q1 hq hqb.symm hf0
      obtain ⟨_, c2', e2, hw2, hn2⟩ := h2.own _ _ hq (by rw [← k1]; exact hf0)
      have hqb' : q.b = R.b := hqb
      have hw2' := hw2
      rw [hqb', hw] at hw2'
      simp only [Option.some.injEq, Obj.cells.injEq] at hw2'
      obtain ⟨rfl, rfl, _⟩ := hw2'
      refine ⟨k1.symm, k2.symm, by rw [← hn2, hcn], c, el, (0, 0), hw2, fun k hk => hXlt k ?_⟩
      rw [← k2] at hk
      simp only [o]; omega)
  refine ⟨c, el, G.bindRow h.rnext (G.fam s.id) ⟨R.b, R.base, s.pos, vs', R.n⟩, hw, by simp only [o] at *; omega, hg, VRs_swap hg ?_ h1, hW⟩
  intro cs0 len0 s0 u e1 e2 e3 e4 e5 hu
  simp only [VR] at hu ⊢
  obtain ⟨p2, p3, ⟨g1, _⟩ | ⟨R0, o0, ad, cap, ⟨g1, _⟩ | ⟨_, p1, p4, rfl⟩, p5, p6, p7, p8, p9, p10, p11⟩⟩ := hu
  · exact absurd g1 e5
  · exact absurd g1 e5
  rw [e1] at p4
  obtain rfl := Option.some.inj (q1.symm.trans p4)
  refine ⟨?_, ?_, Or.inr ⟨⟨R.b, R.base, s.pos, vs', R.n⟩, s.pos, ad, cap, Or.inr ⟨c1, by rw [fam_new]; exact q2, by simp [Gh.bindRow], rfl⟩, p5, hbase, Nat.le_refl _, ?_, p9, ?_, ?_⟩⟩
  · show cs'.length = len0 * s.size
    rw [hcs', ← e3, p2, e4]
  · show 0 < s.size
    rw [← e4]; exact p3
  · simp only [Nat.sub_self, Nat.zero_add]; show cs'.length ≤ vs'.length; rw [hcs', hvs']; exact Nat.le_refl _
  · simp only [Nat.sub_self, List.drop_zero]
    show VRs _ cs' (vs'.take cs'.length)
    rw [hcs', ← hvs', List.take_length]
    exact VRs_mono hg _ _ (VRs_app (VRs_app (VRs_take off q6) r2) (VRs_drop (off + n) q6))
  · rcases p11 with h0 | h0
    · exact Or.inl h0
    · have h1 := h0.2.resolve_left e5
      have h2 := h0.1
      rw [e2] at h1 h2; rw [e4] at h1; exact Or.inr ⟨h2, Or.inr h1⟩
theorem VRs_repl {G : Gh} {a : AV} {v : Value} (h : VR G a v) : ∀ n, VRs G (List.replicate n a) (List.replicate n v)
  | 0 => by simp [VRs]
  | n + 1 => by simp only [List.replicate_succ, VRs]; exact ⟨_, _, rfl, h, VRs_repl h n⟩
theorem zero_str {P : Program} {e : TypeId} {z : ByteArray} (hz : zeroT P e = some (.str z)) (w : World) : (zeroValue e).run P w = .ok (.string z) w := by
  obtain ⟨zv, h1, h2⟩ := zero_run hz w ⟨fun _ => none, fun _ => none, fun _ => 0, fun _ _ => False, fun _ _ => False⟩
  simp only [VR] at h2
  rw [h1, h2]
/-- A row's rest cleared. -/
theorem clr_any {P : Program} {t : TypeId} {pos : String} {af : Array Edge} {g : Option (Nat × Bool)} {t2 e : TypeId} (hu : P.underlying t2 = some (.slice e)) {z : ByteArray} (hz : zeroT P e = some (.str z)) {dp dt : Tmp} {lo : Operand} {kl : AX} {B : Nat → Prop} {w0 w : World} {G : Gh} {h h' : AH} {a : Act} {ts ts' : Tmps} (h1 : VRs G ts a.tmps.toList) (h2 : WR B w0 G h w) (h3 : oClr z (xT dp) (xT dt) kl ts h = some (ts', h')) :
    ∃ w' G', Gle G G' ∧ (execOp a.eval ⟨none, .call { callee := .builtin .clear, args := #[.tmp dt], argTypes := #[t2] }, t, pos, af, g⟩).run P w = .ok (.value (.tuple #[])) w' ∧ VRs G' ts' a.tmps.toList ∧ WR B w0 G' h' w' := by
  have rp := cX_ok (x := .tmp dp) (k := xT dp) rfl h1
  have rt := cX_ok (x := .tmp dt) (k := xT dt) rfl h1
  unfold oClr at h3
  split at h3
  · rename_i cs n s cs2 n2 s2 kk k e1 e2 e3
    split at h3
    · rename_i hc
      obtain ⟨d1, d2, d3, d4, d5, d6, d7, d8, d9⟩ := hc
      rw [e1] at rp
      rw [e2] at rt
      have key : oElem cs2.length (fun _ => .eptr cs k.toNat s) (fun _ => .agg (List.replicate cs2.length (.str z))) ts h = if s.fam ≠ 0 ∧ h.ok s = true ∧ 0 < cs2.length ∧ (List.replicate cs2.length (AV.str z)).length = cs2.length ∧ k.toNat + cs2.length ≤ cs.length ∧ (List.replicate cs2.length (AV.str z)).all scalar = true then
        some (ts.map (swapV s.id s.pos cs.length s.size { s with id := h.rnext } (cs.take k.toNat ++ List.replicate cs2.length (AV.str z) ++ cs.drop (k.toNat + cs2.length))), (h.grow s (s.pos + k.toNat) (cs.length - k.toNat)).2) else none := rfl
      rw [key] at h3
      by_cases hc2 : s.fam ≠ 0 ∧ h.ok s = true ∧ 0 < cs2.length ∧ (List.replicate cs2.length (AV.str z)).length = cs2.length ∧ k.toNat + cs2.length ≤ cs.length ∧ (List.replicate cs2.length (AV.str z)).all scalar = true
      · rw [if_pos hc2] at h3
        obtain ⟨c1, c2, c0, c3, c4, c5⟩ := hc2
        simp only [Option.some.injEq, Prod.mk.injEq] at h3
        obtain ⟨rfl, rfl⟩ := h3
        simp only [VR] at rp rt
        obtain ⟨_, _, ⟨g1, _⟩ | ⟨R, p, ad, cap, ⟨g1, _⟩ | ⟨_, q2, q1, rfl⟩, e5, q3, q4, q5, q7, q6, q8⟩⟩ := rp
        · exact absurd g1 c1
        · exact absurd g1 c1
        obtain ⟨_, _, ⟨g1, _⟩ | ⟨R2, p2, ad2, cap2, ⟨g1, _⟩ | ⟨_, t2', t1, rfl⟩, f5, _, _, _, f7, _, f8⟩⟩ := rt
        · rw [d2] at g1; exact absurd g1 c1
        · rw [d2] at g1; exact absurd g1 c1
        rw [d1, q1] at t1
        obtain rfl := Option.some.inj t1
        have hz2 : List.length cs2 = n2 := d8.symm
        obtain ⟨c, el, G', k1, k2, k3, k4, k5⟩ := elem_core (zs := List.replicate cs2.length (.str z)) (vals := List.replicate cs2.length (.string z)) h1 h2 (VRs_repl (by simp only [VR]) _) c1 c2 c0 c3 c4 q2 q1 q3 q4 q5 q6
        have hcap : cap2 ≠ 0 := by omega
        obtain ⟨f9, _⟩ := f8.resolve_left hcap
        have hst := run_storeCells_at (P := P) R.b (s.pos - R.base + k.toNat) el (List.replicate cs2.length (.string z)) 0 c w k1 (by simp; omega) (by
          intro u hu
          rw [List.eq_of_mem_replicate hu]; rfl)
        simp only [Nat.add_zero, List.length_replicate] at hst
        have hzv : ∀ w, (zeroValue e).run P w = .ok (.string z) w := zero_str hz
        have hzc : (Builtin.zeroCells (Value.string z).cells cs2.length).toList = List.replicate cs2.length (.string z) := by
          show (Builtin.zeroCells #[Value.string z] cs2.length).toList = _
          simp [Builtin.zeroCells]
          apply List.ext_getElem
          · simp
          · intro i h1 h2
            simp [Nat.mod_one]
        refine ⟨_, G', k3, ?_, k4, k5⟩
        have ev : a.eval (.tmp dt) = .slice (some ⟨R.b, s.pos - R.base + k.toNat, none⟩) cs2.length cap2 := by
          rw [f5, f9, d8, d3, show s.pos + k.toNat - R.base = s.pos - R.base + k.toNat by omega]
        obtain ⟨m, hm⟩ : ∃ m, cs2.length = m + 1 := ⟨cs2.length - 1, by omega⟩
        rw [hm] at ev hzc hst ⊢
        simp [execOp, resolve, ev, invoke, builtin, Builtin.clear_, run_und hu, hzv, hzc, hst]
      · rw [if_neg hc2] at h3; cases h3
    · cases h3
  · cases h3
theorem clrT_is {P : Program} {ops : Array Oper} {o : Oper} {p t : Nat} {k : AX} {z : ByteArray} (h : clrT P ops o = some (p, t, k, z)) : ∃ ty e lo ty2 pos af, o = ⟨none, .call { callee := .builtin .clear, args := #[.tmp t], argTypes := #[ty] }, ty2, pos, af, none⟩ ∧ P.underlying ty = some (.slice e) ∧ zeroT P e = some (.str z) ∧ cX lo = some k := by
  obtain ⟨dst, op, type, pos, after, guard⟩ := o
  unfold clrT at h
  simp only at h
  split at h
  · rename_i c
    split at h
    · rename_i t' ty hcal hargs htys
      split at h
      · rename_i e p' lo hu hcut
        split at h
        · rename_i z' k' hz hk
          simp only [Option.some.injEq, Prod.mk.injEq] at h
          obtain ⟨rfl, rfl, rfl, rfl⟩ := h
          obtain ⟨callee, args, argTypes⟩ := c
          simp only at hcal hargs htys
          subst hcal
          obtain rfl : args = #[.tmp t'] := Array.ext' hargs
          obtain rfl : argTypes = #[ty] := Array.ext' htys
          exact ⟨ty, e, lo, type, pos, after, rfl, hu, hz, hk⟩
        · cases h
      · cases h
    · cases h
  · cases h
noncomputable def runX (P : Program) (ops : Array Oper) (call : Fn) : List Oper → Tmps → AH → Option (Tmps × AH)
  | [], ts, h => some (ts, h)
  | o :: r, ts, h => match elemT P ops o with
    | some (s, a, x, kp) => (oElemP s a x kp ts h).bind fun y => runX P ops call r y.1 y.2
    | none => match clrT P ops o with
     | some (p, t, k, z) => (oClr z (xT p) (xT t) k ts h).bind fun y => runX P ops call r y.1 y.2
     | none => match (cOpX P o.op).bind (kOf ops o) with
      | none => none
      | some st => (st call ts h).bind fun y => runX P ops call r y.1 y.2
theorem cRX_run {P : Program} {ops : Array Oper} : ∀ {l : List Oper} {k : KR}, cRX P ops l = some k → ∀ (call : Fn) (ts : Tmps) (h : AH), k call ts h = runX P ops call l ts h
  | [], k, hk, call, ts, h => by simp only [cRX, Option.some.injEq] at hk; subst hk; rfl
  | o :: r, k, hk, call, ts, h => by
    simp only [cRX] at hk
    split at hk
    · cases hk
    · rename_i rest h2
      have ih := cRX_run h2 call
      split at hk
      · rename_i s a x kp h1
        simp only [Option.some.injEq] at hk; subst hk
        simp only [runX, h1, kEl]
        cases oElemP s a x kp ts h with
        | none => rfl
        | some y => exact ih _ _
      · rename_i h1
        split at hk
        · rename_i p t kk z h0
          simp only [Option.some.injEq] at hk; subst hk
          simp only [runX, h1, h0, kClr]
          cases oClr z (xT p) (xT t) kk ts h with
          | none => rfl
          | some y => exact ih _ _
        · rename_i h0
          split at hk
          · cases hk
          · rename_i a h3
            simp only [runX, h1, h0, h3, Option.bind_some, kOf]
            split at hk
            · rename_i hg
              split at hk
              · rename_i d hd
                simp only [Option.some.injEq] at hk; subst hk
                simp only [hg, hd, sDo]
                rw [kDo_end]; congr 1; funext x; exact ih _ _
              · rename_i hd
                simp only [Option.some.injEq] at hk; subst hk
                simp only [hg, hd, sDo0]
                rw [kDo0_end]; congr 1; funext x; exact ih _ _
            · rename_i j want hg
              split at hk
              · rename_i t d h3 h4
                simp only [Option.some.injEq] at hk; subst hk
                simp only [hg, h3, h4, sIf]
                rw [kIf_end]; congr 1; funext x; exact ih _ _
              · cases hk
theorem elemT_is {P : Program} {ops : Array Oper} {o : Oper} {s : Nat} {a x : AX} {kp : Option AX} (h : elemT P ops o = some (s, a, x, kp)) : ∃ t p y pos ty af, o = ⟨none, .store t p y, ty, pos, af, none⟩ ∧ sizeT P t = some s ∧ cX p = some a ∧ cX y = some x := by
  obtain ⟨dst, op, type, pos, after, guard⟩ := o
  unfold elemT at h
  simp only at h
  split at h
  · rename_i t d y
    split at h
    · split at h
      · rename_i h1 h2
        simp only [Option.some.injEq, Prod.mk.injEq] at h
        obtain ⟨rfl, rfl, rfl, rfl⟩ := h
        exact ⟨t, .tmp d, y, pos, type, after, rfl, h1, rfl, h2⟩
      · cases h
    · cases h
  · cases h
theorem runX_ok {P : Program} {ops : Array Oper} {call : Fn} {B : Nat → Prop} {w0 : World} (hc : CallOk P B w0 call) {Q : Exit → Act → World → Prop} (rest : List Nat) : ∀ (l : List Nat) (G : Gh) (h h' : AH) (w : World) (a : Act) (ts ts' : Tmps),
    VRs G ts a.tmps.toList → WR B w0 G h w → a.defers = D → (∀ i ∈ l, i < ops.size) → runX P ops call (l.map fun i => ops.getD i default) ts h = some (ts', h') → (∀ a' w', Sim D B w0 G ts' h' a' w' → wpOps P ops Q rest a' w') → wpOps P ops Q (l ++ rest) a w
  | [], G, h, h', w, a, ts, ts', h1, h2, hd, hl, h3, hQ => by
    simp only [List.map_nil, runX, Option.some.injEq, Prod.mk.injEq] at h3
    obtain ⟨rfl, rfl⟩ := h3
    exact hQ a w ⟨G, Gle.refl G, h1, h2, hd⟩
  | i :: l, G, h, h', w, a, ts, ts', h1, h2, hd, hl, h3, hQ => by
    have hi := hl i (List.mem_cons_self ..)
    have ho : ops[i]? = some (ops.getD i default) := by simp [hi]
    simp only [List.map_cons, runX] at h3
    simp only [List.cons_append, wpOps, ho]
    split at h3
    · rename_i s ax kx kp hs
      obtain ⟨⟨ts1, hh1⟩, h4, h5⟩ := Option.bind_eq_some_iff.1 h3
      obtain ⟨t, p, y, pos, ty, af, ho2, k1, k2, k3⟩ := elemT_is hs
      rw [ho2]
      obtain ⟨b, X, G', q1, q2, q3, q4, q5, q6⟩ := elem_anyP (d := none) (t := ty) (pos := pos) (af := af) (g := none) k2 k3 k1 h1 h2 h4
      rw [if_pos (by rfl)]
      left
      unfold Oper.wp
      rw [q4 w rfl]
      exact runX_ok hc rest l G' hh1 h' _ _ ts1 ts' q5 q6 hd (fun j hj => hl j (List.mem_cons_of_mem _ hj)) h5 fun a2 w2 s => hQ a2 w2 (s.le q3)
    · split at h3
      · rename_i p t kk z hs
        obtain ⟨⟨ts1, hh1⟩, h4, h5⟩ := Option.bind_eq_some_iff.1 h3
        obtain ⟨ty, e, lo, ty2, pos, af, ho2, k1, k2, k3⟩ := clrT_is hs
        rw [ho2]
        obtain ⟨w1, G', q3, q4, q5, q6⟩ := clr_any (t := ty2) (pos := pos) (af := af) (g := none) (lo := lo) k1 k2 h1 h2 h4
        rw [if_pos (by rfl)]
        left
        unfold Oper.wp
        rw [q4]
        exact runX_ok hc rest l G' hh1 h' _ _ ts1 ts' q5 q6 hd (fun j hj => hl j (List.mem_cons_of_mem _ hj)) h5 fun a2 w2 s => hQ a2 w2 (s.le q3)
      · split at h3
        · cases h3
        · rename_i st hs
          obtain ⟨k, hk, hs⟩ := Option.bind_eq_some_iff.1 hs
          obtain ⟨⟨ts1, hh1⟩, h4, h5⟩ := Option.bind_eq_some_iff.1 h3
          exact kof_ok (cOpX_ok hk) hs hc h1 h2 hd h4 fun a' w' ⟨G', g1, g2, g3, g4⟩ => runX_ok hc rest l G' hh1 h' w' a' ts1 ts' g2 g3 g4 (fun j hj => hl j (List.mem_cons_of_mem _ hj)) h5 fun a2 w2 s => hQ a2 w2 (s.le g1)
theorem regX_ok {P : Program} {ops : Array Oper} {k : KR} (hk : cRX P ops ops.toList = some k) {call : Fn} {B : Nat → Prop} {w0 w : World} (hc : CallOk P B w0 call) {Q : Exit → Act → World → Prop} {G : Gh} {h h' : AH} {a : Act} {ts ts' : Tmps} {id : Nat}
    (h1 : VRs G ts a.tmps.toList) (h2 : WR B w0 G h w) (hd : a.defers = D) (h3 : k call ts h = some (ts', h')) (hQ : ∀ a' w', Sim D B w0 G ts' h' a' w' → Q .normal a' w') : (Code.region id ops false).wp P Q a w := by
  rw [cRX_run hk] at h3
  have := runX_ok (Q := Q) hc [] (List.range ops.size) G h h' w a ts ts' h1 h2 hd (fun i hi => by simpa using hi) (by rw [list_range]; exact h3) (fun a' w' s => hQ a' w' s)
  rw [List.append_nil] at this
  exact wp_region this
theorem cRE_run {P : Program} {ops : Array Oper} {fin : KR} : ∀ {l : List Oper} {k : KR}, cRE P ops fin l = some k → ∀ (call : Fn) (ts : Tmps) (h : AH), k call ts h = (runS P ops call l ts h).bind fun x => fin call x.1 x.2
  | [], k, hk, call, ts, h => by simp only [cRE, Option.some.injEq] at hk; subst hk; rfl
  | o :: r, k, hk, call, ts, h => by
    simp only [cRE] at hk
    split at hk
    · rename_i a rest h1 h2
      have ih := cRE_run h2 call
      simp only [runS, kStep, cOpZ, h1, sDo, sDo0, sIf]
      split at hk
      · rename_i hg
        split at hk
        · rename_i d hd
          simp only [Option.some.injEq] at hk; subst hk
          simp only [hg, hd]
          rw [kDo_end, Option.bind_assoc]; congr 1; funext x; exact ih _ _
        · rename_i hd
          simp only [Option.some.injEq] at hk; subst hk
          simp only [hg, hd]
          rw [kDo0_end, Option.bind_assoc]; congr 1; funext x; exact ih _ _
      · rename_i j want hg
        split at hk
        · rename_i t d h3 h4
          simp only [Option.some.injEq] at hk; subst hk
          simp only [hg, h3, h4]
          rw [kIf_end, Option.bind_assoc]; congr 1; funext x; exact ih _ _
        · cases hk
    · cases hk
theorem anyE_ok {P : Program} {ops : Array Oper} {call : Fn} {B : Nat → Prop} {w0 : World} (hc : CallOk P B w0 call) (hfree : freeT ops ops.size = true) {L : Nat} (hL : L + 1 = ops.size) (hlast : ∀ i, i < L → predT ops 12 i L = true) {sz : Nat} {ka kx : AX} {kp : Option AX} (he : elemT P ops (ops.getD L default) = some (sz, ka, kx, kp)) {Q : Exit → Act → World → Prop} :
    ∀ (rem : List Nat) (fuel : Nat), rem.length = fuel → ∀ (listed : Array Bool) (G : Gh) (h hm h' : AH) (w : World) (a : Act) (ts tm ts' : Tmps),
    VRs G ts a.tmps.toList → WR B w0 G h w → a.defers = D → rem.Pairwise (· < ·) → listed.size = ops.size → (∀ i, i ∈ rem ↔ i < L ∧ listed.getD i false = false) → listed.getD L false = false → Closed ops listed →
    runS P ops call (rem.map fun i => ops.getD i default) ts h = some (tm, hm) → oElemP sz ka kx kp tm hm = some (ts', h') → (∀ a' w', Sim D B w0 G ts' h' a' w' → Q .normal a' w') → wpAny P .any ops Q (fuel + 1) listed a w := by
  intro rem fuel
  have hLl : L < ops.size := by omega
  induction fuel generalizing rem with
  | zero =>
    intro hlen listed G h hm h' w a ts tm ts' h1 h2 hd hp hsz hrem hLn hcl h3 h3' hQ
    have hnil : rem = [] := List.eq_nil_of_length_eq_zero hlen
    subst hnil
    simp only [List.map_nil, runS, Option.some.injEq, Prod.mk.injEq] at h3
    obtain ⟨rfl, rfl⟩ := h3
    have hall : ∀ i, i < L → listed.getD i false = true := by
      intro i hi
      cases hli : listed.getD i false with
      | true => rfl
      | false => exact absurd ((hrem i).2 ⟨hi, hli⟩) (by simp)
    have ho : ops[L]? = some (ops.getD L default) := by simp [hLl]
    have hback := (freeT_spec hfree L hLl).2
    have hin : L ∈ Region.ready .any ops listed := by
      rw [mem_ready]
      refine ⟨by simp [hsz, hLl] at hLn ⊢; exact hLn, _, ho, fun e he hb => ?_⟩
      simp only [backT, ho, List.all_eq_true, Bool.or_eq_true, Bool.not_eq_true', decide_eq_true_eq] at hback
      exact hall _ ((hback e (by simpa using he)).resolve_left (by simp [hb]))
    constructor
    · intro hr; rw [hr] at hin; cases hin
    · intro j hj
      obtain ⟨hl, o, hoj, _⟩ := mem_ready.1 hj
      have hlt : j < ops.size := (Array.getElem?_eq_some_iff.1 hoj).1
      have hjL : j = L := by
        by_cases hjl : j < L
        · have := hall j hjl
          simp [hsz, hlt] at hl this
          rw [this] at hl; cases hl
        · omega
      subst hjL
      obtain ⟨t, p, y, pos, ty, af, ho2, k1, k2, k3⟩ := elemT_is he
      obtain ⟨b, X, G', q1, q2, q3, q4, q5, q6⟩ := elem_anyP (d := none) (t := ty) (pos := pos) (af := af) (g := none) k2 k3 k1 h1 h2 h3'
      unfold wpOp
      simp only [ho, ho2]
      rw [if_pos (by rfl)]
      left
      unfold Oper.wp
      rw [q4 w rfl]
      refine ⟨?_, hQ _ _ ⟨G', q3, q5, q6, hd⟩⟩
      cases hr : Region.ready .any ops (listed.setIfInBounds j true) with
      | nil => rfl
      | cons x xs =>
        exfalso
        have hx : x ∈ Region.ready .any ops (listed.setIfInBounds j true) := by rw [hr]; exact List.mem_cons_self ..
        obtain ⟨hl2, o2, ho3, _⟩ := mem_ready.1 hx
        have hlt2 : x < ops.size := (Array.getElem?_eq_some_iff.1 ho3).1
        have h5 : (listed.setIfInBounds j true).getD x false = true := by
          rw [set_get (by rw [hsz]; exact hlt)]
          split
          · rfl
          · exact hall x (by omega)
        simp [hsz, hlt2] at hl2 h5
        rw [h5] at hl2; cases hl2
  | succ fuel ih =>
    intro hlen listed G h hm h' w a ts tm ts' h1 h2 hd hp hsz hrem hLn hcl h3 h3' hQ
    constructor
    · intro hr
      exfalso
      cases rem with
      | nil => cases hlen
      | cons i0 rest =>
        obtain ⟨hlt0, hun⟩ := (hrem i0).1 (List.mem_cons_self ..)
        have hlt : i0 < ops.size := by omega
        have hback := (freeT_spec hfree i0 hlt).2
        have ho : ops[i0]? = some ops[i0] := by simp [hlt]
        have hin : i0 ∈ Region.ready .any ops listed := by
          rw [mem_ready]
          refine ⟨by simp [hsz, hlt] at hun ⊢; exact hun, ops[i0], ho, fun e he hb => ?_⟩
          simp only [backT, ho, List.all_eq_true, Bool.or_eq_true, Bool.not_eq_true', decide_eq_true_eq] at hback
          have hlt2 : e.on < i0 := (hback e (by simpa using he)).resolve_left (by simp [hb])
          cases hle : listed.getD e.on false with
          | true => rfl
          | false =>
            have hm := (hrem e.on).2 ⟨by omega, hle⟩
            rcases List.mem_cons.1 hm with h0 | h0
            · omega
            · have := (List.pairwise_cons.1 hp).1 _ h0; omega
        rw [hr] at hin; cases hin
    · intro j hj
      obtain ⟨hl, o, ho, hall⟩ := mem_ready.1 hj
      have hlt : j < ops.size := (Array.getElem?_eq_some_iff.1 ho).1
      have hun : listed.getD j false = false := by simp [hsz, hlt] at hl ⊢; exact hl
      have hjL : j < L := by
        by_cases hjl : j < L
        · exact hjl
        · exfalso
          obtain rfl : j = L := by omega
          cases rem with
          | nil => cases hlen
          | cons i0 rest =>
            obtain ⟨hlt0, hun0⟩ := (hrem i0).1 (List.mem_cons_self ..)
            have := predT_spec hcl 12 i0 j o (hlast i0 hlt0) ho hall
            rw [hun0] at this; cases this
      have hjm : j ∈ rem := (hrem j).2 ⟨hjL, hun⟩
      obtain ⟨pre, post, rfl⟩ := List.append_of_mem hjm
      have hoj : ops.getD j default = o := by
        have := ho
        simp [hlt] at this
        simp [hlt, this]
      have hpw := List.pairwise_append.1 hp
      have hpre : ∀ i ∈ pre, i < j := fun i hi => hpw.2.2 i hi j (List.mem_cons_self ..)
      have hcomm : ∀ x ∈ pre.map (fun i => ops.getD i default), commT ops x o = true := by
        intro x hx
        obtain ⟨i, hi, rfl⟩ := List.mem_map.1 hx
        have hij := hpre i hi
        rcases pairsT_spec (freeT_spec hfree j hlt).1 i hij with h0 | h0
        · rw [hoj] at h0; exact h0
        · have hli := predT_spec hcl 12 i j o h0 ho hall
          have := ((hrem i).1 (List.mem_append_left _ hi)).2
          rw [hli] at this; cases this
      rw [List.map_append, List.map_cons, hoj] at h3
      have h4 := bubble _ ts h (tm, hm) hcomm h3
      obtain ⟨st, z, k1, k2, k3⟩ := runS_cons h4
      have hstep := step_ok (Q := Q) k1 hc h1 h2 hd (ts' := z.1) (h' := z.2) k2 (K := wpAny P .any ops Q (fuel + 1) (listed.setIfInBounds j true)) (by
        rintro a' w' ⟨G', g1, g2, g3, g4⟩
        have hjs : j < listed.size := by rw [hsz]; exact hlt
        refine ih (pre ++ post) (by simp at hlen ⊢; omega) _ G' z.2 hm h' w' a' z.1 tm ts' g2 g3 g4 ?_ (by simpa using hsz) ?_ ?_ ?_ (by rw [List.map_append]; exact k3) h3' (fun a2 w2 s => hQ a2 w2 (s.le g1))
        · refine List.pairwise_append.2 ⟨hpw.1, (List.pairwise_cons.1 hpw.2.1).2, fun x hx y hy => hpw.2.2 x hx y (List.mem_cons_of_mem _ hy)⟩
        · intro i
          rw [set_get hjs]
          by_cases hij : i = j
          · subst hij
            rw [if_pos rfl]
            constructor
            · intro hm
              rcases List.mem_append.1 hm with h0 | h0
              · have := hpre i h0; omega
              · have := (List.pairwise_cons.1 hpw.2.1).1 i h0; omega
            · rintro ⟨_, h0⟩; cases h0
          · rw [if_neg hij, ← hrem i]
            simp only [List.mem_append, List.mem_cons, hij, false_or]
        · rw [set_get hjs, if_neg (by omega)]; exact hLn
        · intro i oi hoi hli e he hb
          rw [set_get hjs] at hli ⊢
          split
          · rfl
          · by_cases hij : i = j
            · subst hij
              have : oi = o := Option.some.inj (hoi.symm.trans ho)
              subst this
              exact hall e he hb
            · rw [if_neg hij] at hli
              exact hcl i oi hoi hli e he hb)
      unfold wpOp
      simp only [ho]
      exact hstep
theorem regE_ok {P : Program} {ops : Array Oper} {k : KR} (hk : cEz P ops = some k) (hT : drawT P ops true = true) {call : Fn} {B : Nat → Prop} {w0 w : World} (hc : CallOk P B w0 call) {Q : Exit → Act → World → Prop} {G : Gh} {h h' : AH} {a : Act} {ts ts' : Tmps} {id : Nat}
    (h1 : VRs G ts a.tmps.toList) (h2 : WR B w0 G h w) (hd : a.defers = D) (h3 : k call ts h = some (ts', h')) (hQ : ∀ a' w', Sim D B w0 G ts' h' a' w' → Q .normal a' w') : (Code.region id ops true).wp P Q a w := by
  simp only [drawT, Bool.not_true, Bool.false_or, Bool.and_eq_true] at hT
  unfold cEz at hk
  split at hk
  · rename_i o r hrev
    split at hk
    · rename_i s ax x kp he hla
      rw [cRE_run hk] at h3
      obtain ⟨⟨tm, hm⟩, h4, h5⟩ := Option.bind_eq_some_iff.1 h3
      simp only [kEl] at h5
      split at h5
      · cases h5
      · rename_i t5 h6 h7
        simp only [kEnd, Option.some.injEq, Prod.mk.injEq] at h5
        obtain ⟨rfl, rfl⟩ := h5
        have hl : ops.toList = r.reverse ++ [o] := by
          have := congrArg List.reverse hrev
          simpa using this
        have hsz : r.length + 1 = ops.size := by
          have := congrArg List.length hl
          simp at this; omega
        have hgL : ops.getD r.length default = o := by
          have h0 : ops.getD r.length default = ops.toList.getD r.length default := by simp [List.getD_eq_getElem?_getD]
          rw [h0, hl, List.getD_eq_getElem?_getD]
          simp
        have hmap : (List.range r.length).map (fun i => ops.getD i default) = r.reverse := by
          have h0 := list_range (ops := ops)
          rw [← hsz, List.range_succ, List.map_append, hl] at h0
          exact (List.append_inj_left' h0 rfl)
        refine wp_region_any hT.1 ?_
        rw [← hsz]
        refine anyE_ok hc hT.2 hsz ?_ (by rw [hgL]; exact he) (List.range r.length) r.length (by simp) _ G h hm _ _ a ts tm _ h1 h2.drew hd List.pairwise_lt_range (by simp [hsz]) ?_ ?_ ?_ (by rw [hmap]; exact h4) h7 hQ
        · intro i hi
          simp only [lastT, List.all_eq_true, List.mem_range] at hla
          rw [show ops.size - 1 = r.length by omega] at hla
          exact hla i hi
        · intro i
          simp only [List.mem_range]
          constructor
          · intro hi; exact ⟨hi, by simp [show i < r.length + 1 by omega]⟩
          · intro hi; exact hi.1
        · simp
        · intro j o ho hl
          have hlt : j < ops.size := (Array.getElem?_eq_some_iff.1 ho).1
          simp [show j < r.length + 1 by omega] at hl
    · cases hk
  · cases hk
end
theorem regD_ok {P : Program} {ops : Array Oper} {draw : Bool} {k : KC} (hk : cRegD P ops draw = some k) {call : Fn} {n : Nat} {B : Nat → Prop} {w0 w : World} (hc : CallOk P B w0 call) {G : Gh} {h : AH} {a : Act} {ts : Tmps} {r : AO × Tmps × AH} {id : Nat}
    (h1 : VRs G ts a.tmps.toList) (h2 : WR B w0 G h w) (hd : DR G h.defs a.defers) (h3 : k call n ts h = some r) : (Code.region id ops draw).wp P (EndsIn B w0 G r) a w := by
  unfold cRegD at hk
  split at hk
  · rename_i o rv hrev
    split at hk
    · rename_i c hop hg hdst
      split at hk
      · rename_i x hcal
        split at hk
        · rename_i kr f as q1 q2 q3
          simp only [Option.some.injEq] at hk; subst hk
          have hl : ops.toList = rv.reverse ++ [o] := by
            have := congrArg List.reverse hrev
            simpa using this
          have hsz : ops.size = rv.length + 1 := by
            have := congrArg List.length hl
            simpa using this
          have hget : ∀ i, i < rv.length → ops.getD i default = (rv.reverse).getD i default := by
            intro i hi
            have h0 : ops.getD i default = ops.toList.getD i default := by simp [List.getD_eq_getElem?_getD]
            rw [h0, hl, List.getD_eq_getElem?_getD, List.getD_eq_getElem?_getD, List.getElem?_append_left (by simpa using hi)]
          have hlast : ops[rv.length]? = some o := by
            have h0 : ops[rv.length]? = ops.toList[rv.length]? := by simp
            rw [h0, hl, List.getElem?_append_right (by simp)]
            simp
          have hpre : (List.range rv.length).map (fun i => ops.getD i default) = rv.reverse := by
            apply List.ext_getElem?
            intro i
            rw [List.getElem?_map]
            by_cases hi : i < rv.length
            · rw [List.getElem?_range hi]
              simp only [Option.map_some]
              rw [hget i hi, List.getD_eq_getElem?_getD, List.getElem?_eq_getElem (by simpa using hi)]; rfl
            · rw [List.getElem?_eq_none (by simpa using hi), List.getElem?_eq_none (by simpa using hi)]; rfl
          have hr : List.range ops.size = List.range rv.length ++ [rv.length] := by rw [hsz, List.range_succ]
          refine wp_region ?_
          rw [hr]
          simp only [kRegD] at h3
          split at h3
          · cases h3
          · rename_i ts' h' he
            rw [cR_run q1] at he
            refine runS_ok hc [rv.length] (List.range rv.length) G h h' w a ts ts' h1 h2 rfl (fun i hi => by have := List.mem_range.1 hi; omega) (by rw [hpre]; exact he) ?_
            rintro a' w' ⟨G', g1, g2, g3, g4⟩
            simp only [wpOps, hlast]
            rw [if_pos (by unfold Region.wanted; rw [hg])]
            left
            have rf := cX_ok q2 g2
            have ras := cXs_ok g2 q3
            obtain ⟨od, oop, oty, opos, oaf, og⟩ := o
            simp only at hop hg hdst
            subst hop; subst hg; subst hdst
            obtain ⟨callee, ⟨args⟩, ats⟩ := c
            simp only at hcal; subst hcal
            have fin : ∀ (g : FuncId) (fst cap : Array Value) (avs : List AV), a'.eval x = .func (.func g) fst cap → VRs G' avs ((fst ++ (⟨args⟩ : Array Operand).map a'.eval).toList ++ cap.toList) → r = (.normal, ts', { h' with defs := (g, avs) :: h.defs }) →
                Oper.wp P ⟨none, .defer { callee := .value x, args := ⟨args⟩, argTypes := ats }, oty, opos, oaf, none⟩ a' w' (fun a w => EndsIn B w0 G r .normal a w) (EndsIn B w0 G r) := by
              intro g fst cap avs hv hav hr
              unfold Oper.wp
              have hrun : (execOp a'.eval ⟨none, .defer { callee := .value x, args := ⟨args⟩, argTypes := ats }, oty, opos, oaf, none⟩).run P w' = .ok (.defer { target := .fn (.func g) cap, args := fst ++ (⟨args⟩ : Array Operand).map a'.eval }) w' := by
                simp [execOp, resolve, hv, Deferred.ofValue]
              rw [hrun]
              subst hr
              refine ⟨⟨G', g1, g2, g3.defs _, ?_⟩, rfl⟩
              show DR G' ((g, avs) :: h.defs) (_ :: a'.defers)
              exact ⟨cap, _, a'.defers, rfl, hav, by rw [g4]; exact hd.mono g1⟩
            split at h3
            · rename_i g cs e
              simp only [Option.some.injEq] at h3
              rw [e] at rf; simp only [VR] at rf
              obtain ⟨l, hv, hl2⟩ := rf
              refine fin g #[] ⟨l⟩ _ hv ?_ h3.symm
              simpa using VRs_app ras hl2
            · rename_i g cs e
              simp only [Option.some.injEq] at h3
              rw [e] at rf; simp only [VR] at rf
              obtain ⟨l, hv, hl2⟩ := rf
              refine fin g ⟨l⟩ #[] _ hv ?_ h3.symm
              simpa using VRs_app hl2 ras
            · cases h3
        · cases hk
      · cases hk
    · cases hk
  · cases hk
theorem code_ok {P : Program} {B : Nat → Prop} {w0 : World} {call : Fn} (hcA : ∀ B w0, CallOk P B w0 call) (n : Nat) : ∀ (c : Code) (k : KC), cC P c = some k → ∀ (G : Gh) (h : AH) (w : World) (a : Act) (ts : Tmps) (r : AO × Tmps × AH),
    VRs G ts a.tmps.toList → WR B w0 G h w → DR G h.defs a.defers → k call n ts h = some r → c.wp P (EndsIn B w0 G r) a w := by
  intro c
  have hc := hcA B w0
  induction c with
  | skip =>
    intro k hk G h w a ts r h1 h2 hd h3
    simp only [cC, Option.some.injEq] at hk; subst hk
    simp only [kSkip, Option.some.injEq] at h3; subst h3
    exact wp_skip ⟨⟨G, Gle.refl G, h1, h2, hd⟩, rfl⟩
  | region id ops draw =>
    intro k hk G h w a ts r h1 h2 hd h3
    simp only [cC] at hk
    split at hk
    · rename_i q hq
      simp only [Option.some.injEq] at hk; subst hk
      simp only [kReg] at h3
      split at h3
      · cases h3
      · rename_i ts' h' he
        simp only [Option.some.injEq] at h3; subst h3
        have fin : ∀ a' w', Sim a.defers B w0 G ts' h' a' w' → EndsIn B w0 G (.normal, ts', h'.keep h) .normal a' w' := by
          rintro a' w' ⟨G', g1, g2, g3, g4⟩
          exact ⟨⟨G', g1, g2, g3.defs _, by rw [g4]; exact hd.mono g1⟩, rfl⟩
        unfold cReg at hq
        split at hq
        · rename_i hT
          split at hq
          · cases draw with
            | false => exact regX_ok hq hc h1 h2 rfl he fin
            | true =>
              simp only at hq
              split at hq
              · rename_i k hk
                simp only [Option.some.injEq] at hq; subst hq
                exact regE_ok hk hT hc h1 h2 rfl he fin
              · rw [cR_run hq] at he
                exact region_ok hT hc h1 h2 rfl he fin
          · rw [cR_run hq] at he
            exact region_ok hT hc h1 h2 rfl he fin
        · rename_i hT
          have hdr : draw = true := by
            cases draw with
            | true => rfl
            | false => simp [drawT] at hT
          subst hdr
          split at hq
          · rename_i k hk
            simp only [Option.some.injEq] at hq; subst hq
            exact float_ok hk hc h1 h2 rfl he fin
          · simp only at hq
            split at hq
            · rename_i k hk
              simp only [Option.some.injEq] at hq; subst hq
              exact ip_ok hk hc h1 h2 rfl he (fun c a w hq => by cases hq.2) fin
            · split at hq
              · rename_i k hk
                simp only [Option.some.injEq] at hq; subst hq
                exact float_ok hk hc h1 h2 rfl he fin
              · exact floatL_ok hq hcA h1 h2 rfl he fin
    · split at hk
      · rename_i q hq
        simp only [Option.some.injEq] at hk; subst hk
        exact regD_ok hq hc h1 h2 hd h3
      · simp only [Option.some.injEq] at hk; subst hk
        cases h3
  | seq x y ihx ihy =>
    intro k hk G h w a ts r h1 h2 hd h3
    simp only [cC] at hk
    split at hk
    · rename_i kx ky hx hy
      simp only [Option.some.injEq] at hk; subst hk
      simp only [kSeq] at h3
      split at h3
      · rename_i ts1 hh1 he
        refine wp_seq (wp_mono (ihx kx hx G h w a ts _ h1 h2 hd he) ?_)
        rintro e a1 w1 ⟨⟨G', g1, g2, g3, g4⟩, hE⟩
        simp only at hE; subst hE
        exact wp_mono (ihy ky hy G' hh1 w1 a1 ts1 r g2 g3 g4 h3) fun e a w s => s.le g1
      · rename_i hne
        refine wp_seq (wp_mono (ihx kx hx G h w a ts r h1 h2 hd h3) ?_)
        obtain ⟨o, ts', h'⟩ := r
        rintro e a1 w1 ⟨s, hE⟩
        cases o with
        | normal => exact absurd h3 (hne _ _)
        | exit id => simp only at hE; subst hE; exact ⟨s, rfl⟩
        | ret => simp only at hE; subst hE; exact ⟨s, rfl⟩
    · cases hk
  | cond c x y ihx ihy =>
    intro k hk G h w a ts r h1 h2 hd h3
    simp only [cC] at hk
    split at hk
    · rename_i kc kx ky hkc hx hy
      simp only [Option.some.injEq] at hk; subst hk
      have rc := cX_ok hkc h1
      simp only [kCond] at h3
      split at h3
      · rename_i t ht
        rw [ht] at rc; simp only [VR] at rc
        cases t with
        | true => exact wp_cond_true rc (ihx kx hx G h w a ts r h1 h2 hd h3)
        | false => exact wp_cond_false rc (ihy ky hy G h w a ts r h1 h2 hd h3)
      · cases h3
    · cases hk
  | block id x ih =>
    intro k hk G h w a ts r h1 h2 hd h3
    simp only [cC] at hk
    obtain ⟨kx, hx, rfl⟩ := Option.map_eq_some_iff.1 hk
    simp only [kBlock] at h3
    split at h3
    · rename_i i ts1 hh1 he
      refine wp_block (wp_mono (ih kx hx G h w a ts _ h1 h2 hd he) ?_)
      rintro e a1 w1 ⟨s, hE⟩
      simp only at hE; subst hE
      simp only [Exit.inBlock]
      split at h3
      · rename_i hb
        have : i = id := Nat.eq_of_beq_eq_true hb
        rw [if_pos this]
        simp only [Option.some.injEq] at h3; subst h3
        exact ⟨s, rfl⟩
      · rename_i hb
        have : i ≠ id := fun e => by subst e; rw [Nat.beq_refl] at hb; cases hb
        rw [if_neg this]
        simp only [Option.some.injEq] at h3; subst h3
        exact ⟨s, rfl⟩
    · rename_i hne
      refine wp_block (wp_mono (ih kx hx G h w a ts r h1 h2 hd h3) ?_)
      obtain ⟨o, ts', h'⟩ := r
      rintro e a1 w1 ⟨s, hE⟩
      cases o with
      | normal => simp only at hE; subst hE; exact ⟨s, rfl⟩
      | exit i => exact absurd h3 (hne _ _ _)
      | ret => simp only at hE; subst hE; exact ⟨s, rfl⟩
  | loop x ih =>
    intro k hk G h w a ts r h1 h2 hd h3
    simp only [cC] at hk
    obtain ⟨kx, hx, rfl⟩ := Option.map_eq_some_iff.1 hk
    simp only [kLoop] at h3
    have key : ∀ (m : Nat) (G : Gh) (h : AH) (w : World) (a : Act) (ts : Tmps), VRs G ts a.tmps.toList → WR B w0 G h w → DR G h.defs a.defers → aloop (kx call n) m ts h = some r → LoopWp P x (EndsIn B w0 G r) a w := by
      intro m
      induction m with
      | zero => intro G h w a ts _ _ _ h3; cases h3
      | succ m ihm =>
        intro G h w a ts h1 h2 hd h3
        have e : aloop (kx call n) (m + 1) ts h = match kx call n ts h with
          | some (.normal, ts, h) => aloop (kx call n) m ts h
          | r => r := rfl
        rw [e] at h3
        split at h3
        · rename_i ts1 hh1 he
          refine LoopWp.round (wp_mono (ih kx hx G h w a ts _ h1 h2 hd he) ?_)
          rintro e a1 w1 ⟨⟨G', g1, g2, g3, g4⟩, hE⟩
          simp only at hE; subst hE
          intro b k cs
          obtain ⟨e2, a2, w2, q, ar⟩ := ihm G' hh1 w1 a1 ts1 g2 g3 g4 h3 b k cs
          exact ⟨e2, a2, w2, q.le g1, ar⟩
        · rename_i hne
          refine LoopWp.round (wp_mono (ih kx hx G h w a ts r h1 h2 hd h3) ?_)
          obtain ⟨o, ts', h'⟩ := r
          rintro e a1 w1 ⟨s, hE⟩
          cases o with
          | normal => exact absurd h3 (hne _ _)
          | exit id => simp only at hE; subst hE; exact ⟨s, rfl⟩
          | ret => simp only at hE; subst hE; exact ⟨s, rfl⟩
    exact (key n G h w a ts h1 h2 hd h3).loop
  | exit id =>
    intro k hk G h w a ts r h1 h2 hd h3
    simp only [cC, Option.some.injEq] at hk; subst hk
    simp only [kExit, Option.some.injEq] at h3; subst h3
    exact wp_exit ⟨⟨G, Gle.refl G, h1, h2, hd⟩, rfl⟩
  | ret =>
    intro k hk G h w a ts r h1 h2 hd h3
    simp only [cC, Option.some.injEq] at hk; subst hk
    simp only [kRet, Option.some.injEq] at h3; subst h3
    exact wp_ret ⟨⟨G, Gle.refl G, h1, h2, hd⟩, rfl⟩
  | _ => intro k hk G h w a ts r h1 h2 hd h3; simp only [cC, Option.some.injEq] at hk; subst hk; cases h3
/-- A function's result, as the model reads it. -/
def res1 (tmps : Array Value) : ResultVar → Sem Value
  | .tmp t => pure (tmps.getD t undef)
  | .cell a t => do loadVar t (← asAddr (tmps.getD a undef))
theorem res1_ok {P : Program} {B : Nat → Prop} {w0 w : World} {G : Gh} {h : AH} (hW : WR B w0 G h w) {ts : Tmps} {tmps : Array Value} (h1 : VRs G ts tmps.toList) {x : ResultVar} {r : Tmps → AH → Option AV} (hr : cV P x = some r) {v : AV} (hv : r ts h = some v) :
    ∃ u, (res1 tmps x).run P w = .ok u w ∧ VR G v u := by
  cases x with
  | tmp t =>
    simp only [cV, Option.some.injEq] at hr; subst hr
    simp only [rTmp, Option.some.injEq] at hv; subst hv
    exact ⟨_, rfl, VR_getD h1 t⟩
  | cell c t =>
    simp only [cV] at hr
    obtain ⟨q, hq, rfl⟩ := Option.map_eq_some_iff.1 hr
    simp only [rCell] at hv
    have rc := VR_getD h1 c
    split at hv
    · rename_i i off e
      rw [e] at rc; simp only [VR] at rc
      obtain ⟨b, hb, hav⟩ := rc
      split at hv
      · rename_i cs hg
        obtain ⟨b2, hb2, l, el, hw, hrr⟩ := hW.blk i _ hg
        have : b2 = b := Option.some.inj (hb2.symm.trans hb)
        subst this
        obtain ⟨y, hy, hR⟩ := load_run (P := P) (o := 0) hq hrr hv (w := w) (b := b2) (by intro j x hx; rw [cell_of hw, Nat.zero_add]; simpa using hx)
        rw [Nat.zero_add] at hy
        refine ⟨y, ?_, hR⟩
        simp only [res1, hav, asAddr, pure_bind, hy]
      · cases hv
    · cases hv
theorem resL_ok {P : Program} {B : Nat → Prop} {w0 w : World} {G : Gh} {h : AH} (hW : WR B w0 G h w) {ts : Tmps} {tmps : Array Value} (h1 : VRs G ts tmps.toList) : ∀ {l : List ResultVar} {rs : List (Tmps → AH → Option AV)}, l.mapM (cV P) = some rs → ∀ {vs : List AV}, rs.mapM (fun r => r ts h) = some vs →
    ∃ us, (l.mapM (res1 tmps)).run P w = .ok us w ∧ VRs G vs us
  | [], rs, hr, vs, hv => by simp at hr; subst hr; simp at hv; subst hv; exact ⟨[], rfl, by simp [VRs]⟩
  | x :: l, rs, hr, vs, hv => by
    simp only [List.mapM_cons, Option.bind_eq_bind, Option.bind_eq_some_iff, Option.pure_def, Option.some.injEq] at hr
    obtain ⟨r, hr1, rest, hr2, rfl⟩ := hr
    simp only [List.mapM_cons, Option.bind_eq_bind, Option.bind_eq_some_iff, Option.pure_def, Option.some.injEq] at hv
    obtain ⟨v, hv1, vs', hv2, rfl⟩ := hv
    obtain ⟨u, hu, hR⟩ := res1_ok hW h1 hr1 hv1
    obtain ⟨us, hus, hRs⟩ := resL_ok hW h1 hr2 hv2
    refine ⟨u :: us, ?_, by simp only [VRs]; exact ⟨u, us, rfl, hR, hRs⟩⟩
    simp only [List.mapM_cons, Sem.run_bind, hu, Result.andThen, hus]
    rfl
theorem mapM_length {α β : Type} {f : α → Option β} : ∀ {l : List α} {r : List β}, l.mapM f = some r → r.length = l.length
  | [], r, h => by simp at h; subst h; rfl
  | x :: l, r, h => by
    simp only [List.mapM_cons, Option.bind_eq_bind, Option.bind_eq_some_iff, Option.pure_def, Option.some.injEq] at h
    obtain ⟨y, _, m, hm, rfl⟩ := h
    simp [mapM_length hm]
theorem results_ok {P : Program} {B : Nat → Prop} {w0 w : World} {G : Gh} {h : AH} (hW : WR B w0 G h w) {ts : Tmps} {tmps : Array Value} (h1 : VRs G ts tmps.toList) {fn : Func} {r : Tmps → AH → Option AV} (hr : cVs P fn.results.toList = some r) {v : AV} (hv : r ts h = some v) :
    ∃ u, (results fn tmps).run P w = .ok u w ∧ VR G v u := by
  have hrun : (results fn tmps).run P w = ((fn.results.toList.mapM (res1 tmps)).run P w).andThen fun us w => .ok (if h : us.toArray.size = 1 then us.toArray[0] else .tuple us.toArray) w := by
    have hmm : ∀ (f : ResultVar → Sem Value), (∀ x, f x = res1 tmps x) → ∀ l : List ResultVar, List.mapM f l = List.mapM (res1 tmps) l := fun f hf l => by rw [funext hf]
    unfold results
    simp only [Array.mapM_eq_mapM_toList, Sem.run_bind]
    rw [hmm _ (by intro x; cases x <;> rfl)]
    rw [map_eq_pure_bind]
    simp only [Sem.run_bind]
    cases (fn.results.toList.mapM (res1 tmps)).run P w with
    | ok us w' => rfl
    | halt x w' => rfl
  rw [hrun]
  unfold cVs at hr
  split at hr
  · rename_i hm
    simp only [Option.some.injEq] at hr; subst hr
    simp only [rNone, Option.some.injEq] at hv; subst hv
    obtain ⟨us, hus, hRs⟩ := resL_ok hW h1 hm (vs := []) rfl
    simp only [VRs] at hRs; subst hRs
    exact ⟨.tuple #[], by rw [hus]; rfl, by simp only [VR]; exact ⟨[], rfl, by simp [VRs]⟩⟩
  · rename_i r' hm
    simp only [Option.some.injEq] at hr; subst hr
    obtain ⟨us, hus, hRs⟩ := resL_ok hW h1 hm (vs := [v]) (by simp [hv])
    simp only [VRs] at hRs
    obtain ⟨u, m, rfl, hR, rfl⟩ := hRs
    exact ⟨u, by rw [hus]; rfl, hR⟩
  · rename_i l hne0 hne1 hm
    simp only [Option.some.injEq] at hr; subst hr
    simp only [rTup] at hv
    split at hv
    · rename_i vs hvs
      simp only [Option.some.injEq] at hv; subst hv
      obtain ⟨us, hus, hRs⟩ := resL_ok hW h1 hm hvs
      refine ⟨.tuple us.toArray, ?_, by simp only [VR]; exact ⟨us, rfl, hRs⟩⟩
      rw [hus]
      have hlen : us.length = l.length := by
        rw [VRs_length hRs]
        exact mapM_length hvs
      have h1' : ¬ us.toArray.size = 1 := by
        intro e
        have : l.length = 1 := by rw [← hlen]; simpa using e
        match l, this with
        | [x], _ => exact hne1 x rfl
      simp only [Result.andThen, dif_neg h1']
    · cases hv
  · cases hr
/-- What is owed by what is told of a function at once. -/
def SumOk (P : Program) (B : Nat → Prop) (w0 : World) (S : FuncId → Option (List AV → AH → Option (AV × AH))) : Prop :=
  ∀ (f : FuncId) (s : List AV → AH → Option (AV × AH)), S f = some s → ∀ (args : List AV) (h : AH) (v : AV) (h' : AH), s args h = some (v, h') → ∀ (G : Gh) (w : World) (vals : List Value), VRs G args vals → WR B w0 G h w →
    CallRes P f ⟨vals⟩ w fun u w' => ∃ G', Gle G G' ∧ VR G' v u ∧ WR B w0 G' h' w'
theorem VRs_undef (G : Gh) : ∀ n, VRs G (List.replicate n (.tup [])) (List.replicate n undef)
  | 0 => by simp [VRs]
  | n + 1 => by simp only [List.replicate_succ, VRs]; exact ⟨_, _, rfl, VR_undef G, VRs_undef G n⟩
/-- What is deferred is done. -/
theorem leaves_ok {P : Program} {B : Nat → Prop} {w0 : World} {S : FuncId → Option (List AV → AH → Option (AV × AH))} {F : FuncId → Option AF} (hF : ∀ f fn, F f = some fn → cF P f = some fn) {ih : Fn} (hc : ∀ B w0, CallOk P B w0 ih) {n : Nat} {fn : Func} {tmps : Array Value} {R : Ending → World → Prop} :
    ∀ (dfs : List (FuncId × List AV)) (ds : List Deferred) (G : Gh) (h h2 : AH) (w : World), DR G dfs ds → WR B w0 G h w → runD (dcall S F ih n) dfs h = some h2 → (∀ G' w', Gle G G' → WR B w0 G' h2 w' → ∃ v, (results fn tmps).run P w' = .ok v w' ∧ R (.returned v) w') → Leaves P fn tmps R ds .returning w
  | [], ds, G, h, h2, w, hD, hW, hr, hR => by
    have : ds = [] := hD
    subst this
    simp only [runD, Option.some.injEq] at hr; subst hr
    exact hR G w (Gle.refl G) hW
  | (f, as) :: r, ds, G, h, h2, w, hD, hW, hr, hR => by
    obtain ⟨cap, dargs, m, rfl, hv, hm⟩ := hD
    simp only [runD] at hr
    split at hr
    · rename_i v h' hcall
      unfold dcall at hcall
      split at hcall
      · cases hcall
      · split at hcall
        · cases hcall
        · rename_i fn2 hfn2
          have hcf := hF f fn2 hfn2
          unfold cF at hcf
          split at hcf
          · cases hcf
          · rename_i f0 hf0
            split at hcf
            · cases hcf
            · rename_i hname
              split at hcf
              · rename_i b rr hb hrr
                simp only [Option.some.injEq] at hcf; subst hcf
                obtain ⟨c, hcb, hcc⟩ := Option.bind_eq_some_iff.1 hb
                have hn : ¬ f0.name = "runtime.NumGoroutine" := by simpa using hname
                have hi : (invoke (.fn (.func f) cap) dargs).run P w = .ok (.enter f (dargs ++ cap)) w := by simp [invoke, callFunc, hf0, hn, hcb]
                refine leaves_cons (by simp) hi ?_
                have hT : VRs G (as ++ List.replicate (f0.ntmps - as.length) (.tup [])) ((dargs ++ cap) ++ Array.replicate (f0.ntmps - (dargs ++ cap).size) undef).toList := by
                  have hl : (dargs ++ cap).size = as.length := by have := VRs_length hv; simpa using this
                  rw [hl]
                  simp only [Array.toList_append, Array.toList_replicate]
                  exact VRs_app hv (VRs_undef G _)
                have done : ∀ {o ts hh}, b ih n (as ++ List.replicate (f0.ntmps - as.length) (.tup [])) h.bare = some (o, ts, hh) → (o = .normal ∨ o = .ret) → (match hh.defs with | [] => (match rr ts hh with | some v => some (v, hh) | none => none) | _ => none) = some (v, h') →
                    CallsD P f (dargs ++ cap) .returning w fun
                      | .returned _, u', w' => Leaves P fn tmps R m (settle u') w'
                      | .panicked chain, u', w' => Leaves P fn tmps R m (raised u' chain) w'
                      | .outgrown, _, w' => R .outgrown w' := by
                  intro o ts hh hbody ho hres
                  have hbW : WR B w0 G h.bare w := hW.defs []
                  split at hres
                  · rename_i hdn
                    split at hres
                    · rename_i v' hv'
                      simp only [Option.some.injEq, Prod.mk.injEq] at hres
                      obtain ⟨rfl, rfl⟩ := hres
                      refine CallsD.mono (callsD_of_wp (R := fun e w' => ∃ u, e = .returned u ∧ ∃ G', Gle G G' ∧ WR B w0 G' hh w') hf0 hcb ?_) ?_
                      · refine wp_mono (code_ok hc n c b hcc G h.bare w ⟨_, []⟩ _ _ hT hbW rfl hbody) ?_
                        rintro e a w' ⟨⟨G', g1, g2, g3, g4⟩, hE⟩
                        simp only at g4 hE
                        rw [hdn] at g4
                        obtain ⟨u, hu, _⟩ := results_ok g3 g2 hrr hv'
                        rcases ho with rfl | rfl <;> simp only at hE <;> subst hE <;> exact ⟨g4, u, hu, u, rfl, G', g1, g3⟩
                      · rintro e u' w' ⟨rfl, u, rfl, G', g1, g3⟩
                        exact leaves_ok hF hc r m G' hh h2 w' (hm.mono g1) g3 hr fun G2 w2 k1 k2 => hR G2 w2 (g1.trans k1) k2
                    · cases hres
                  · cases hres
                split at hcall
                · rename_i ts hh he; exact done he (Or.inl rfl) hcall
                · rename_i ts hh he; exact done he (Or.inr rfl) hcall
                · cases hcall
              · cases hcf
    · cases hr
/-- The evaluator's word on a call holds of the model's run. -/
theorem eval_ok {P : Program} {S : FuncId → Option (List AV → AH → Option (AV × AH))} {F : FuncId → Option AF} (hS : ∀ B w0, SumOk P B w0 S) (hF : ∀ f fn, F f = some fn → cF P f = some fn) : ∀ n, ∀ (B : Nat → Prop) (w0 : World), CallOk P B w0 (aeval S F n)
  | 0, B, w0 => fun f args h v h' e => by cases e
  | n + 1, B, w0 => by
    intro f args h v h' e G w vals h1 h2
    have e0 : aeval S F (n + 1) f args h = match S f with
      | some s => s args h
      | none => match F f with
        | none => none
        | some fn => match fn.body (aeval S F n) n (args ++ List.replicate (fn.ntmps - args.length) (.tup [])) h.bare with
          | some (.normal, ts, h) | some (.ret, ts, h) => (match runD (dcall S F (aeval S F n) n) h.defs h with
            | some h => (match fn.results ts h with | some v => some (v, h) | none => none)
            | none => none)
          | _ => none := rfl
    rw [e0] at e
    split at e
    · rename_i s hs
      exact hS B w0 f s hs args h v h' e G w vals h1 h2
    · split at e
      · cases e
      · rename_i fn hfn
        have hc := hF f fn hfn
        unfold cF at hc
        split at hc
        · cases hc
        · rename_i f0 hf0
          split at hc
          · cases hc
          · rename_i hname
            split at hc
            · rename_i b r hb hr
              simp only [Option.some.injEq] at hc; subst hc
              obtain ⟨c, hcb, hcc⟩ := Option.bind_eq_some_iff.1 hb
              right
              constructor
              · have hn : ¬ f0.name = "runtime.NumGoroutine" := by simpa using hname
                simp [callFunc, hf0, hn, hcb]
              · refine calls_of_wp_defers hf0 hcb ?_
                have hT : VRs G (args ++ List.replicate (f0.ntmps - args.length) (.tup [])) ((⟨vals⟩ : Array Value) ++ Array.replicate (f0.ntmps - (⟨vals⟩ : Array Value).size) undef).toList := by
                  simp only [Array.toList_append, Array.toList_replicate]
                  have hl : (⟨vals⟩ : Array Value).size = args.length := by simpa using VRs_length h1
                  rw [hl]
                  exact VRs_app h1 (VRs_undef G _)
                have hbW : WR B w0 G h.bare w := h2.defs []
                have fin : ∀ {o ts hh}, b (aeval S F n) n (args ++ List.replicate (f0.ntmps - args.length) (.tup [])) h.bare = some (o, ts, hh) → (o = .normal ∨ o = .ret) → (match runD (dcall S F (aeval S F n) n) hh.defs hh with | some h => (match r ts h with | some v => some (v, h) | none => none) | none => none) = some (v, h') →
                    c.wp P (bodyPostD P f0 fun e w' => match e with | .returned u => ∃ G', Gle G G' ∧ VR G' v u ∧ WR B w0 G' h' w' | _ => False) { tmps := (⟨vals⟩ : Array Value) ++ Array.replicate (f0.ntmps - (⟨vals⟩ : Array Value).size) undef, defers := [] } w := by
                  intro o ts hh hbody ho hres
                  refine wp_mono (code_ok (eval_ok hS hF n) n c b hcc G h.bare w ⟨_, []⟩ _ _ hT hbW rfl hbody) ?_
                  rintro e a w' ⟨⟨G', g1, g2, g3, g4⟩, hE⟩
                  simp only at g4 hE
                  have key : Leaves P f0 a.tmps (fun e w' => match e with | .returned u => ∃ G', Gle G G' ∧ VR G' v u ∧ WR B w0 G' h' w' | _ => False) a.defers .returning w' := by
                    split at hres
                    · rename_i h3 hrd
                      split at hres
                      · rename_i v' hv'
                        simp only [Option.some.injEq, Prod.mk.injEq] at hres
                        obtain ⟨rfl, rfl⟩ := hres
                        refine leaves_ok hF (eval_ok hS hF n) hh.defs a.defers G' hh h3 w' g4 g3 hrd fun G2 w2 k1 k2 => ?_
                        obtain ⟨u, hu, hR⟩ := results_ok k2 (VRs_mono k1 _ _ g2) hr hv'
                        exact ⟨u, hu, G2, g1.trans k1, hR, k2⟩
                      · cases hres
                    · cases hres
                  rcases ho with rfl | rfl <;> simp only at hE <;> subst hE <;> exact key
                split at e
                · rename_i ts hh he; exact fin he (Or.inl rfl) e
                · rename_i ts hh he; exact fin he (Or.inr rfl) e
                · cases e
            · cases hc
end Go.Proofs.Ytadohhhjpbhhoaa.EvA
