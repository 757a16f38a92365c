/- An evaluator of the program's code over abstract values and an abstract heap: composite values. -/
import Derived.Test.YtadohhhjpbhhoaaEvQ
import Derived.Great.BuildSlice
namespace Go.Proofs.Ytadohhhjpbhhoaa.EvA
open Go.RowKit
set_option linter.unusedVariables false
set_option linter.unusedSimpArgs false
theorem fill_set (off : Nat) (v : Value) (cells : Array Value) (h : off + v.cells.size ≤ cells.size) :
    (v.cells.zipIdx.foldl (fun cs (x : Value × Nat) => cs.setIfInBounds (off + x.2) x.1) cells).toList = cells.toList.take off ++ v.cells.toList ++ cells.toList.drop (off + v.cells.size) := by
  obtain ⟨h1, h2⟩ := Go.Great.foldl_set off v.cells.toList 0 cells
  rw [← Array.foldl_toList, Array.toList_zipIdx]
  apply List.ext_getElem?
  intro k
  rw [Array.getElem?_toList, h2 k]
  simp only [Nat.add_zero, Array.length_toList]
  have htl : (cells.toList.take off).length = off := by rw [List.length_take, Array.length_toList]; omega
  by_cases hk : off ≤ k ∧ k < off + v.cells.size ∧ k < cells.size
  · rw [if_pos hk, List.append_assoc, List.getElem?_append_right (by omega), htl, List.getElem?_append_left (by simp; omega)]
  · rw [if_neg hk]
    by_cases hlt : k < off
    · rw [List.append_assoc, List.getElem?_append_left (by omega), List.getElem?_take, if_pos hlt, Array.getElem?_toList]
    · rw [List.getElem?_append_right (by simp only [List.length_append, htl, Array.length_toList]; omega)]
      simp only [List.length_append, htl, Array.length_toList, List.getElem?_drop]
      rw [show off + v.cells.size + (k - (off + v.cells.size)) = k by omega, Array.getElem?_toList]
def PlOk (place : Nat → Option (Nat × Nat)) : List (Nat × Operand) → List (Nat × Nat × AX) → Prop
  | [], [] => True
  | (i, x) :: r, (off, size, k) :: s => place i = some (off, size) ∧ cX x = some k ∧ PlOk place r s
  | _, _ => False
theorem partsP_ok {places : List (Nat × Nat)} : ∀ {ps : List (Nat × Operand)} {qs : List (Nat × Nat × AX)}, partsP places ps = some qs → PlOk (places.toArray[·]?) ps qs
  | [], qs, h => by simp only [partsP, Option.some.injEq] at h; subst h; trivial
  | (i, x) :: r, qs, h => by
    simp only [partsP] at h
    split at h
    · rename_i p a l h1 h2 h3
      simp only [Option.some.injEq] at h; subst h
      exact ⟨by simpa using h1, h2, partsP_ok h3⟩
    · cases h
theorem partsA_ok {size : Nat} : ∀ {ps : List (Nat × Operand)} {qs : List (Nat × Nat × AX)}, partsA size ps = some qs → PlOk (fun i => some (i * size, size)) ps qs
  | [], qs, h => by simp only [partsA, Option.some.injEq] at h; subst h; trivial
  | (i, x) :: r, qs, h => by
    simp only [partsA] at h
    split at h
    · rename_i a l h2 h3
      simp only [Option.some.injEq] at h; subst h
      exact ⟨rfl, h2, partsA_ok h3⟩
    · cases h
theorem fill_ok {G : Gh} {place : Nat → Option (Nat × Nat)} {a : Act} {ts : Tmps} (h : VRs G ts a.tmps.toList) : ∀ {ps : List (Nat × Operand)} {qs : List (Nat × Nat × AX)}, PlOk place ps qs → ∀ {cells cs : List AV} {arr : Array Value}, VRs G cells arr.toList →
    afill cells (partsOf qs ts) = some cs → ∃ r, Instr.fill place arr (ps.map fun p => (p.1, a.eval p.2)) = some r ∧ VRs G cs r.toList
  | [], [], _, cells, cs, arr, hr, hf => by simp only [partsOf, List.map_nil, afill, Option.some.injEq] at hf; subst hf; exact ⟨arr, rfl, hr⟩
  | (i, x) :: r, (off, size, k) :: s, ⟨h1, h2, h3⟩, cells, cs, arr, hr, hf => by
    simp only [partsOf, List.map_cons, afill] at hf
    split at hf
    · rename_i hc
      have hv := cells_ok (cX_ok h2 h)
      have hl := VRs_length hv
      have hcl := VRs_length hr
      simp only [Array.length_toList] at hl hcl
      have hs : (a.eval x).cells.size = size := by rw [hl]; exact hc.1
      have hset := fill_set off (a.eval x) arr (by rw [hs, hcl]; exact hc.2)
      obtain ⟨q, hq, hR⟩ := fill_ok h h3 (arr := (a.eval x).cells.zipIdx.foldl (fun cs (x : Value × Nat) => cs.setIfInBounds (off + x.2) x.1) arr) (by
        rw [hset, hs]
        exact VRs_app (VRs_app (VRs_take off hr) hv) (VRs_drop (off + size) hr)) hf
      refine ⟨q, ?_, hR⟩
      simp only [List.map_cons, Instr.fill, h1]
      rw [if_neg (by simp [hs, hcl]; exact hc.2)]
      exact hq
    · cases hf
  | [], _ :: _, h0, _, _, _, _, _ => h0.elim
  | _ :: _, [], h0, _, _, _, _, _ => h0.elim
theorem range_flat (l : List Value) : ∀ (n : Nat), (List.range (n * l.length)).map (fun i => l[i % l.length]!) = (List.replicate n l).flatten
  | 0 => by simp
  | n + 1 => by
    rw [List.replicate_succ, List.flatten_cons, ← range_flat l n, Nat.succ_mul, Nat.add_comm, List.range_add, List.map_append, List.map_map]
    congr 1
    · apply List.ext_getElem?
      intro k
      rw [List.getElem?_map]
      by_cases hk : k < l.length
      · rw [List.getElem?_range hk]
        simp only [Option.map_some, Nat.mod_eq_of_lt hk]
        rw [List.getElem!_eq_getElem?_getD, List.getElem?_eq_getElem hk]; rfl
      · rw [List.getElem?_eq_none (by simpa using hk), List.getElem?_eq_none (by omega)]; rfl
    · apply List.map_congr_left
      intro k _
      simp only [Function.comp, Nat.add_mod_left]
theorem VRs_rep {G : Gh} {a : List AV} {l : List Value} (h : VRs G a l) : ∀ n, VRs G (replicateCells n a) (List.replicate n l).flatten
  | 0 => by simp [replicateCells, VRs]
  | n + 1 => by
    have := VRs_rep h n
    simp only [replicateCells, List.replicate_succ, List.flatten_cons] at this ⊢
    exact VRs_app h this
section
variable {P : Program} {d : Option Tmp} {t t2 t3 : TypeId} {pos : String} {af : Array Edge} {g : Option (Nat × Bool)}
theorem parts_list (a : Act) (parts : Array (Nat × Operand)) : (parts.map fun (i, x) => (i, a.eval x)).toList = parts.toList.map fun p => (p.1, a.eval p.2) := by
  simp
theorem ok_build {z : AV} (hz : zeroT P t2 = some z) {parts : Array (Nat × Operand)} {qs : List (Nat × Nat × AX)}
    (hp : (∃ fs pl, P.underlying t2 = some (.struct fs) ∧ placesT P fs.toList = some pl ∧ partsP pl parts.toList = some qs) ∨ (∃ n e s, P.underlying t2 = some (.array n e) ∧ sizeT P e = some s ∧ partsA s parts.toList = some qs)) :
    OpOk P ⟨d, .build t2 parts, t, pos, af, g⟩ (oBuild z.cells qs) :=
  OpOk.pure fun call B w0 G h w a ts v h' h1 h2 h3 => by
    unfold zeroT at hz
    obtain ⟨zv, h4, h5⟩ := Option.bind_eq_some_iff.1 hz
    obtain ⟨it, h6, h7⟩ := Option.bind_eq_some_iff.1 h4
    have hzc := cells_ok (VR_const G _ zv z h5)
    simp only [oBuild] at h3
    split at h3
    · rename_i cs hf
      simp only [Option.some.injEq, Prod.mk.injEq] at h3
      obtain ⟨rfl, rfl⟩ := h3
      have key : ∃ r, P.built t2 (parts.map fun (i, x) => (i, a.eval x)).toList = some r ∧ VRs G cs r.toList := by
        rw [parts_list]
        rcases hp with ⟨fs, pl, hu, hpl, hps⟩ | ⟨n, e, s, hu, hs, hps⟩
        · obtain ⟨r, hr, hR⟩ := fill_ok h1 (partsP_ok hps) hzc hf
          refine ⟨r, ?_, hR⟩
          unfold placesT at hpl
          simp only [Program.built, h6, hu, h7, hpl]
          exact hr
        · obtain ⟨r, hr, hR⟩ := fill_ok h1 (partsA_ok hps) hzc hf
          refine ⟨r, ?_, hR⟩
          unfold sizeT at hs
          obtain ⟨ie, hie, rfl⟩ := Option.map_eq_some_iff.1 hs
          simp only [Program.built, h6, hu, h7, hie]
          exact hr
      obtain ⟨r, hr, hR⟩ := key
      refine ⟨rfl, .agg r, ?_, by simp only [VR]; exact ⟨r.toList, rfl, hR⟩⟩
      simp only [execOp, Sem.run_bind, run_build w t2 _ r hr, Result.andThen]; rfl
    · cases h3
theorem ok_mkrow {e : TypeId} (hu : P.underlying t2 = some (.slice e)) {s : Nat} (hs : sizeT P e = some s) {z : AV} (hz : zeroT P e = some z) {len : Nat} {parts : Array (Nat × Operand)} {qs : List (Nat × Nat × AX)} (hp : partsA s parts.toList = some qs)
    (hzl : z.cells.length = s) (hsp : 0 < s) (hsm : len * s ≤ 2 ^ 24) : OpOk P ⟨d, .buildSlice t2 len parts, t, pos, af, g⟩ (oRow len s (replicateCells len z.cells) qs) := by
  intro call B w0 G h w a ts v h' h1 h2 h3
  unfold zeroT at hz
  obtain ⟨zv, h4, h5⟩ := Option.bind_eq_some_iff.1 hz
  obtain ⟨it, h6, h7⟩ := Option.bind_eq_some_iff.1 h4
  unfold sizeT at hs
  obtain ⟨ie, hie, rfl⟩ := Option.map_eq_some_iff.1 hs
  obtain rfl := Option.some.inj (hie.symm.trans h6)
  have hzc := cells_ok (VR_const G _ zv z h5)
  have hzs : zv.cells.size = ie.size := by have := VRs_length hzc; rw [← hzl, ← this]; simp
  simp only [oRow] at h3
  split at h3
  · rename_i cs hf
    split at h3
    · rename_i hlen
      simp only [Option.some.injEq, Prod.mk.injEq] at h3
      obtain ⟨rfl, rfl⟩ := h3
      have hrep : VRs G (replicateCells len z.cells) (((Array.range (len * ie.size)).map (zv.cells[· % zv.cells.size]!)).toList) := by
        have e1 : ((Array.range (len * ie.size)).map (zv.cells[· % zv.cells.size]!)).toList = (List.replicate len zv.cells.toList).flatten := by
          rw [← range_flat zv.cells.toList len]
          simp only [Array.toList_map, Array.toList_range, Array.length_toList, hzs]
          apply List.map_congr_left
          intro k _
          rw [List.getElem!_eq_getElem?_getD, Array.getElem?_toList, Array.getElem!_eq_getD, Array.getD_eq_getD_getElem?]
        rw [e1]
        exact VRs_rep hzc len
      obtain ⟨r, hr, hR⟩ := fill_ok h1 (partsA_ok hp) hrep hf
      have hrl : r.size = len * ie.size := by have := VRs_length hR; rw [← hlen, ← this]; simp
      have hrun : (Instr.buildSlice t2 len (parts.map fun (i, x) => (i, a.eval x))).run P w = .ok (.slice (some ⟨w.heap.size, 0, none⟩) len len) (w.alloc (.cells r e)) := by
        by_cases h0 : len * ie.size = 0
        · have hl0 : len = 0 := by
            rcases Nat.mul_eq_zero.1 h0 with h0 | h0
            · exact h0
            · omega
          subst hl0
          rw [← parts_list] at hr
          have e0 : ∀ f : Nat → Value, Array.map f (Array.range 0) = #[] := fun f => by apply Array.ext'; simp
          have hr' := hr
          rw [Nat.zero_mul, e0] at hr'
          simp at hr'
          simp [Instr.buildSlice, run_underlying hu, sizeOf, typeInfo, zeroValue, hie, h7, hr', newRow, e0]
        · exact run_buildSlice w t2 e len _ r ie zv hu hie h7 (by omega) h0 (by rw [parts_list]; exact hr)
      have hg := bindRow_le (f := h.fnext) (r := ⟨w.heap.size, 0, 0, r.toList, r.size⟩) (rp_fresh h2)
      have hW := WR_newRow (vs := r.toList) (c := r) (e := e) (n := len * ie.size) (size := ie.size) h2 (by intro j v hv; simpa using hv) (by simpa using hrl)
      refine ⟨_, _, _, Or.inl (by simp only [execOp, Sem.run_bind, hrun, Result.andThen]; rfl), ?_, hg, hW⟩
      simp only [VR, AH.newRow]
      refine ⟨hlen, hsp, Or.inr ⟨⟨w.heap.size, 0, 0, r.toList, r.size⟩, 0, ⟨w.heap.size, 0, none⟩, len, Or.inr ⟨h2.fn, by rw [fam_new], by simp [Gh.bindRow], rfl⟩, rfl, Nat.le_refl _, Nat.le_refl _, ?_, Nat.le_refl _, ?_, Or.inr ⟨rfl, Or.inr ?_⟩⟩⟩
      · show 0 - 0 + cs.length ≤ r.toList.length
        simp only [Array.length_toList, hrl, hlen]; omega
      · show VRs _ cs ((r.toList.drop (0 - 0)).take cs.length)
        rw [Nat.sub_zero, List.drop_zero, List.take_of_length_le (by simp only [Array.length_toList, hrl, hlen]; omega)]
        exact VRs_mono hg _ _ hR
      · show 0 - 0 + len * ie.size ≤ r.size
        rw [hrl]; omega
    · cases h3
  · cases h3
theorem ok_mkrowZ {e : TypeId} (hu : P.underlying t2 = some (.slice e)) {s : Nat} (hs : sizeT P e = some s) {z : AV} (hz : zeroT P e = some z) {len : Nat} {parts : Array (Nat × Operand)} {qs : List (Nat × Nat × AX)} (hp : partsA s parts.toList = some qs)
    (hzl : z.cells.length = s) (hsp : 0 < s) (hsm : len * s ≤ 2 ^ 24) : OpOk P ⟨d, .buildSlice t2 len parts, t, pos, af, g⟩ (oRowZ len s (replicateCells len z.cells) qs) := by
  intro call B w0 G h w a ts v h' h1 h2 h3
  unfold zeroT at hz
  obtain ⟨zv, h4, h5⟩ := Option.bind_eq_some_iff.1 hz
  obtain ⟨it, h6, h7⟩ := Option.bind_eq_some_iff.1 h4
  unfold sizeT at hs
  obtain ⟨ie, hie, rfl⟩ := Option.map_eq_some_iff.1 hs
  obtain rfl := Option.some.inj (hie.symm.trans h6)
  have hzc := cells_ok (VR_const G _ zv z h5)
  have hzs : zv.cells.size = ie.size := by have := VRs_length hzc; rw [← hzl, ← this]; simp
  simp only [oRowZ] at h3
  split at h3
  · rename_i cs hf
    split at h3
    · rename_i hlen
      simp only [Option.some.injEq, Prod.mk.injEq] at h3
      obtain ⟨rfl, rfl⟩ := h3
      have hrep : VRs G (replicateCells len z.cells) (((Array.range (len * ie.size)).map (zv.cells[· % zv.cells.size]!)).toList) := by
        have e1 : ((Array.range (len * ie.size)).map (zv.cells[· % zv.cells.size]!)).toList = (List.replicate len zv.cells.toList).flatten := by
          rw [← range_flat zv.cells.toList len]
          simp only [Array.toList_map, Array.toList_range, Array.length_toList, hzs]
          apply List.map_congr_left
          intro k _
          rw [List.getElem!_eq_getElem?_getD, Array.getElem?_toList, Array.getElem!_eq_getD, Array.getD_eq_getD_getElem?]
        rw [e1]
        exact VRs_rep hzc len
      obtain ⟨r, hr, hR⟩ := fill_ok h1 (partsA_ok hp) hrep hf
      have hrl : r.size = len * ie.size := by have := VRs_length hR; rw [← hlen, ← this]; simp
      have hrun : (Instr.buildSlice t2 len (parts.map fun (i, x) => (i, a.eval x))).run P w = .ok (.slice (some ⟨w.heap.size, 0, none⟩) len len) (w.alloc (.cells r e)) := by
        by_cases h0 : len * ie.size = 0
        · have hl0 : len = 0 := by
            rcases Nat.mul_eq_zero.1 h0 with h0 | h0
            · exact h0
            · omega
          subst hl0
          rw [← parts_list] at hr
          have e0 : ∀ f : Nat → Value, Array.map f (Array.range 0) = #[] := fun f => by apply Array.ext'; simp
          have hr' := hr
          rw [Nat.zero_mul, e0] at hr'
          simp at hr'
          simp [Instr.buildSlice, run_underlying hu, sizeOf, typeInfo, zeroValue, hie, h7, hr', newRow, e0]
        · exact run_buildSlice w t2 e len _ r ie zv hu hie h7 (by omega) h0 (by rw [parts_list]; exact hr)
      have hbl : Bel (· < w.heap.size) w (w.alloc (.cells r e)) := ⟨rfl, rfl, rfl, by simp, fun k hk => Below.heap_alloc _ _ _ hk⟩
      have hg := Gle.more G ⟨w.heap.size, 0, 0, r.toList, r.size⟩
      have hW := (h2.later hbl).more (r := ⟨w.heap.size, 0, 0, r.toList, r.size⟩) (by simp) (fun q hq => Nat.lt_irrefl _ (h2.phi q _ hq).2.1) (fun q x hx hb2 => by
        have h3 := (h2.rp q x hx).2.1
        rw [hb2] at h3
        exact Nat.lt_irrefl _ h3) (Nat.le_refl _) ⟨r, e, (0, 0), by show (w.heap.push _)[w.heap.size]? = _; simp, rfl, fun j v hv => by simpa using hv⟩ h2.below.size
      refine ⟨_, _, _, Or.inl (by simp only [execOp, Sem.run_bind, hrun, Result.andThen]; rfl), ?_, hg, hW⟩
      simp only [VR]
      refine ⟨hlen, hsp, Or.inr ⟨⟨w.heap.size, 0, 0, r.toList, r.size⟩, 0, ⟨w.heap.size, 0, none⟩, len, Or.inl ⟨rfl, Or.inr ⟨rfl, rfl⟩⟩, rfl, Nat.le_refl _, Nat.le_refl _, ?_, Nat.le_refl _, ?_, Or.inr ⟨rfl, Or.inl trivial⟩⟩⟩
      · show 0 - 0 + cs.length ≤ r.toList.length
        simp only [Array.length_toList, hrl, hlen]; omega
      · show VRs _ cs ((r.toList.drop (0 - 0)).take cs.length)
        rw [Nat.sub_zero, List.drop_zero, List.take_of_length_le (by simp only [Array.length_toList, hrl, hlen]; omega)]
        exact VRs_mono hg _ _ hR
    · cases h3
  · cases h3
theorem ok_insert {m k v0 : Operand} {km kk kv : AX} (hm : cX m = some km) (hk : cX k = some kk) (hv : cX v0 = some kv) {kt e : TypeId} (hu : P.underlying t2 = some (.map kt e)) {q : Nat} (hq : keyT P kt = some q) :
    OpOk P ⟨d, .insert t2 m k v0, t, pos, af, g⟩ (oSet q km kk kv) := by
  intro call B w0 G h w a ts v h' h1 h2 h3
  exact ok_set (d := d) (t := t) (pos := pos) (af := af) (g := g) hm hk hv hu hq call B w0 G h w a ts v h' h1 h2 h3
end
end Go.Proofs.Ytadohhhjpbhhoaa.EvA
