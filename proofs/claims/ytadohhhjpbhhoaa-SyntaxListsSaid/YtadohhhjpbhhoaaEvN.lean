/- An evaluator of the program's code over abstract values and an abstract heap: maps' changes. -/
import Derived.Test.YtadohhhjpbhhoaaEvM
namespace Go.Proofs.Ytadohhhjpbhhoaa.EvA
open Go.RowKit
set_option linter.unusedVariables false
set_option linter.unusedSimpArgs false
section
variable {P : Program} {d : Option Tmp} {t t2 t3 : TypeId} {pos : String} {af : Array Edge} {g : Option (Nat × Bool)}
/-- Where a key is found, and what a change there makes of the entries. -/
theorem find_at {u : TypeId} {q : Nat} (hq : keyT P u = some q) {e : TypeDesc} (he : P.underlying u = some e) {G : Gh} {x : AV} {p : Value} (hp : VR G x p) :
    ∀ (es : List (AV × AV × Nat)) (l : List MapEntry) (i : Nat) (v : AV), VRs G (es.map (·.1)) (l.map (·.key)) → VRs G (es.map (·.2.1)) (l.map (·.val)) → es.map (·.2.2) = l.map (·.born) → findA q x es = some (some v) →
      ∃ (es1 es2 : List (AV × AV × Nat)) (a : AV) (n : Nat) (l1 l2 : List MapEntry) (m : MapEntry), es = es1 ++ (a, v, n) :: es2 ∧ l = l1 ++ m :: l2 ∧ es1.length = l1.length ∧ scalarEq q x a = some true ∧ VR G a m.key ∧ m.born = n ∧
        VRs G (es1.map (·.1)) (l1.map (·.key)) ∧ VRs G (es1.map (·.2.1)) (l1.map (·.val)) ∧ es1.map (·.2.2) = l1.map (·.born) ∧ VRs G (es2.map (·.1)) (l2.map (·.key)) ∧ VRs G (es2.map (·.2.1)) (l2.map (·.val)) ∧ es2.map (·.2.2) = l2.map (·.born) ∧
        Instr.findNow e p l i = some (some (i + l1.length, m.val)) ∧ (∀ nv, setA q x nv es = es1 ++ (x, nv, n) :: es2) ∧ delA q x es = es1 ++ es2
  | [], l, i, v, h1, h2, h3, h => by simp [findA] at h
  | (a, v0, n) :: es, [], i, v, h1, h2, h3, h => by simp [VRs] at h1
  | (a, v0, n) :: es, m :: l, i, v, h1, h2, h3, h => by
    simp only [List.map_cons, VRs] at h1 h2
    obtain ⟨_, _, e1, k1, k2⟩ := h1
    obtain ⟨rfl, rfl⟩ := List.cons.inj e1
    obtain ⟨_, _, e2, k3, k4⟩ := h2
    obtain ⟨rfl, rfl⟩ := List.cons.inj e2
    simp only [List.map_cons, List.cons.injEq] at h3
    simp only [findA] at h
    split at h
    · rename_i hs
      simp only [Option.some.injEq] at h; subst h
      refine ⟨[], es, a, n, [], l, m, rfl, rfl, rfl, hs, k1, h3.1.symm, by simp [VRs], by simp [VRs], rfl, k2, k4, h3.2, ?_, ?_, ?_⟩
      · simp only [Instr.findNow, sameNow_of hq he hp k1 hs]; rfl
      · intro nv; simp only [setA, hs, if_true]; rfl
      · simp only [delA, hs, if_true]; rfl
    · rename_i hs
      obtain ⟨es1, es2, a', n', l1, l2, m', q1, q2, q3, q4, q5, q6, q7, q8, q9, q10, q11, q12, q13, q14, q15⟩ := find_at hq he hp es l (i + 1) v k2 k4 h3.2 h
      refine ⟨(a, v0, n) :: es1, es2, a', n', m :: l1, l2, m', by rw [q1]; rfl, by rw [q2]; rfl, by simp [q3], q4, q5, q6, ?_, ?_, ?_, q10, q11, q12, ?_, ?_, ?_⟩
      · simp only [List.map_cons, VRs]; exact ⟨_, _, rfl, k1, q7⟩
      · simp only [List.map_cons, VRs]; exact ⟨_, _, rfl, k3, q8⟩
      · simp only [List.map_cons, q9, h3.1]
      · simp only [Instr.findNow, sameNow_of hq he hp k1 hs]
        rw [q13]; congr 3; simp; omega
      · intro nv; simp only [setA, hs, q14 nv]; rfl
      · simp only [delA, hs, q15]; rfl
    · cases h
theorem sameBits_of {q : Nat} (hq2 : q ≤ 2) {G : Gh} {x y : AV} {p r : Value} (hp : VR G x p) (hr : VR G y r) (h : scalarEq q x y = some true) (n : Nat) : Instr.sameBits n r p = true := by
  unfold scalarEq at h
  split at h
  all_goals (first | (cases h; done) | skip)
  all_goals (split at h)
  all_goals (first | (cases h; done) | skip)
  all_goals (rename_i hc; first | (exfalso; omega) | skip)
  all_goals (simp only [VR] at hp hr; subst hp; subst hr; simp only [Option.some.injEq] at h)
  · have := beq_iff_eq.mp h; subst this; cases n <;> simp [Instr.sameBits]
  · obtain ⟨_, rfl⟩ := hc
    have := beq_iff_eq.mp h; subst this; cases n <;> simp [Instr.sameBits]
  · cases n <;> simp [Instr.sameBits, bytes_beq] <;> (have := beq_iff_eq.mp h; rw [this])
theorem keyT_le {u : TypeId} {q : Nat} (hq : keyT P u = some q) : q ≤ 2 := by
  rcases keyT_is hq with ⟨rfl, _⟩ | ⟨rfl, _⟩ | ⟨rfl, _⟩ <;> omega
theorem modify_at (l1 l2 : List MapEntry) (m : MapEntry) (f : MapEntry → MapEntry) : (⟨l1 ++ m :: l2⟩ : Array MapEntry).modify l1.length f = ⟨l1 ++ f m :: l2⟩ := by
  apply Array.ext'
  rw [Array.toList_modify]
  induction l1 with
  | nil => rfl
  | cons a l1 ih => simp only [List.cons_append, List.length_cons, List.modify_succ_cons, ih]
theorem setObj_run {w : World} {b : Nat} {o : Obj} {l : Array MapEntry} {c : Nat} (hw : w.heap[b]? = some (.map l c)) : (setObj b o).run P w = .ok () { w with heap := w.heap.setIfInBounds b o } := by
  simp [setObj, Sem.run, hw]
theorem WR_obj {B : Nat → Prop} {w0 w : World} {G : Gh} {h : AH} (hW : WR B w0 G h w) {i b : Nat} (hb : G.phi i = some b) {x : ABlk} {o : Obj} (hx : ∀ w' : World, w'.heap[b]? = some o → BR G w' b x) :
    WR B w0 G (h.put i x) { w with heap := w.heap.setIfInBounds b o } := by
  have hlt := (hW.phi i b hb).2.1
  refine WR_put hW hb (hx _ ?_) rfl rfl rfl ?_ ?_
  · show (w.heap.setIfInBounds b o)[b]? = some o
    simp [hlt]
  · show (w.heap.setIfInBounds b o).size = _
    simp
  · intro k hk
    show (w.heap.setIfInBounds b o)[k]? = _
    rw [Array.getElem?_setIfInBounds_ne (Ne.symm hk)]
theorem ok_set {m k v0 : Operand} {km kk kv : AX} (hm : cX m = some km) (hk : cX k = some kk) (hv : cX v0 = some kv) {kt e : TypeId} (hu : P.underlying t2 = some (.map kt e)) {q : Nat} (hq : keyT P kt = some q) :
    OpOk P ⟨d, .mapUpdate t2 m k v0, t, pos, af, g⟩ (oSet q km kk kv) := by
  intro call B w0 G h w a ts v h' h1 h2 h3
  have r1 := cX_ok hm h1
  have r2 := cX_ok hk h1
  have r3 := cX_ok hv h1
  obtain ⟨kd, hkd⟩ := keyT_und hq
  simp only [oSet] at h3
  split at h3
  · cases h3
  · split at h3
    · rename_i i ei
      split at h3
      · rename_i es clock hg
        rw [ei] at r1; simp only [VR] at r1
        obtain ⟨b, hb, hmv⟩ := r1
        obtain ⟨b2, hb2, l, hw, k1, k2, k3⟩ := h2.blk i _ hg
        have : b2 = b := Option.some.inj (hb2.symm.trans hb)
        subst this
        have hgo : (getObj b2).run P w = .ok (.map ⟨l⟩ clock) w := by simp [getObj, Sem.run, hw]
        split at h3
        · cases h3
        · rename_i old hf
          simp only [Option.some.injEq, Prod.mk.injEq] at h3
          obtain ⟨rfl, rfl⟩ := h3
          obtain ⟨es1, es2, a', n', l1, l2, m', q1, q2, q3, q4, q5, q6, q7, q8, q9, q10, q11, q12, q13, q14, q15⟩ := find_at hq hkd r2 es l 0 old k1 k2 k3 hf
          have hF := findKey_run (P := P) hkd q13 w
          rw [Nat.zero_add] at hF
          have hget : (⟨l⟩ : Array MapEntry)[l1.length]? = some m' := by rw [q2]; simp
          have hsb := sameBits_of (keyT_le hq) r2 q5 q4 10000
          have hst : (Instr.keyThatStays ((((⟨l⟩ : Array MapEntry)[l1.length]?).map (·.key)).getD (a.eval k)) (a.eval k)).run P w = .ok (a.eval k) w := by
            rw [hget]; simp [Instr.keyThatStays, hsb]
          have hmod : (⟨l⟩ : Array MapEntry).modify l1.length (fun e => { e with key := a.eval k, val := a.eval v0 }) = ⟨l1 ++ { m' with key := a.eval k, val := a.eval v0 } :: l2⟩ := by
            rw [q2]; exact modify_at l1 l2 m' _
          refine ⟨undef, { w with heap := w.heap.setIfInBounds b2 (.map ⟨l1 ++ { m' with key := a.eval k, val := a.eval v0 } :: l2⟩ clock) }, G, Or.inr ⟨?_, rfl⟩, VR_undef G, Gle.refl G, WR_obj h2 hb fun w' hw' => ?_⟩
          · have := setObj_run (P := P) (w := w) (o := .map ⟨l1 ++ { m' with key := a.eval k, val := a.eval v0 } :: l2⟩ clock) hw
            simp only [execOp, hmv, Instr.mapUpdate, Sem.run_bind, run_und hu, Result.andThen, hgo, checkKey_run hq, hF, hst, hmod, this]
            rfl
          · rw [q14]
            refine ⟨_, hw', ?_, ?_, ?_⟩
            · simp only [List.map_append, List.map_cons]
              exact VRs_app q7 (by simp only [VRs]; exact ⟨_, _, rfl, r2, q10⟩)
            · simp only [List.map_append, List.map_cons]
              exact VRs_app q8 (by simp only [VRs]; exact ⟨_, _, rfl, r3, q11⟩)
            · simp only [List.map_append, List.map_cons, q9, q12, q6]
        · rename_i hf
          simp only [Option.some.injEq, Prod.mk.injEq] at h3
          obtain ⟨rfl, rfl⟩ := h3
          have hN : Instr.findNow kd (a.eval k) l 0 = some none := by
            rcases findNow_of hq hkd r2 es l 0 none k1 k2 hf with ⟨_, h0⟩ | ⟨_, _, _, h0, _⟩
            · exact h0
            · cases h0
          have hF := findKey_run (P := P) hkd hN w
          refine ⟨undef, { w with heap := w.heap.setIfInBounds b2 (.map ⟨l ++ [{ key := a.eval k, val := a.eval v0, born := clock }]⟩ (clock + 1)) }, G, Or.inr ⟨?_, rfl⟩, VR_undef G, Gle.refl G, WR_obj h2 hb fun w' hw' => ?_⟩
          · have := setObj_run (P := P) (w := w) (o := .map ⟨l ++ [{ key := a.eval k, val := a.eval v0, born := clock }]⟩ (clock + 1)) hw
            have hp : (⟨l⟩ : Array MapEntry).push { key := a.eval k, val := a.eval v0, born := clock } = ⟨l ++ [{ key := a.eval k, val := a.eval v0, born := clock }]⟩ := by apply Array.ext'; simp
            simp only [execOp, hmv, Instr.mapUpdate, Sem.run_bind, run_und hu, Result.andThen, hgo, checkKey_run hq, hF, hp, this]
            rfl
          · refine ⟨_, hw', ?_, ?_, ?_⟩
            · simp only [List.map_append, List.map_cons, List.map_nil]
              exact VRs_app k1 (by simp only [VRs]; exact ⟨_, _, rfl, r2, rfl⟩)
            · simp only [List.map_append, List.map_cons, List.map_nil]
              exact VRs_app k2 (by simp only [VRs]; exact ⟨_, _, rfl, r3, rfl⟩)
            · simp only [List.map_append, List.map_cons, List.map_nil, k3]
      · cases h3
    · cases h3
theorem delA_none {q : Nat} {x : AV} : ∀ {es : List (AV × AV × Nat)}, findA q x es = some none → delA q x es = es
  | [], _ => rfl
  | (a, v, n) :: es, h => by
    simp only [findA] at h
    split at h
    · cases h
    · rename_i hs; simp only [delA, hs, delA_none h]; rfl
    · cases h
theorem erase_at (l1 l2 : List MapEntry) (m : MapEntry) : (⟨l1 ++ m :: l2⟩ : Array MapEntry).eraseIdxIfInBounds l1.length = ⟨l1 ++ l2⟩ := by
  apply Array.ext'
  rw [Array.toList_eraseIdxIfInBounds]
  induction l1 with
  | nil => rfl
  | cons a l1 ih => simp only [List.cons_append, List.length_cons, List.eraseIdx_cons_succ, ih]
theorem ok_delete {m k : Operand} {km kk : AX} (hm : cX m = some km) (hk : cX k = some kk) {u kt e : TypeId} (hu : P.underlying u = some (.map kt e)) {q : Nat} (hq : keyT P kt = some q) {ts : Array TypeId} (hts : ts[0]? = some u) :
    OpOk P ⟨d, .call { callee := .builtin .delete, args := #[m, k], argTypes := ts }, t, pos, af, g⟩ (oDelete q km kk) := by
  intro call B w0 G h w a tm v h' h1 h2 h3
  have r1 := cX_ok hm h1
  have r2 := cX_ok hk h1
  obtain ⟨kd, hkd⟩ := keyT_und hq
  simp only [oDelete] at h3
  split at h3
  · cases h3
  · split at h3
    · rename_i ei
      simp only [Option.some.injEq, Prod.mk.injEq] at h3
      obtain ⟨rfl, rfl⟩ := h3
      rw [ei] at r1; simp only [VR] at r1
      refine ⟨undef, w, G, Or.inl ?_, VR_undef G, Gle.refl G, h2⟩
      simp [execOp, resolve, r1, invoke, builtin, Builtin.delete_, hts, run_und hu, checkKey_run hq]; rfl
    · rename_i i ei
      split at h3
      · rename_i es clock hg
        rw [ei] at r1; simp only [VR] at r1
        obtain ⟨b, hb, hmv⟩ := r1
        obtain ⟨b2, hb2, l, hw, k1, k2, k3⟩ := h2.blk i _ hg
        have : b2 = b := Option.some.inj (hb2.symm.trans hb)
        subst this
        have hgo : (getObj b2).run P w = .ok (.map ⟨l⟩ clock) w := by simp [getObj, Sem.run, hw]
        split at h3
        · cases h3
        · rename_i r hf
          simp only [Option.some.injEq, Prod.mk.injEq] at h3
          obtain ⟨rfl, rfl⟩ := h3
          cases r with
          | some old =>
            obtain ⟨es1, es2, a', n', l1, l2, m', q1, q2, q3, q4, q5, q6, q7, q8, q9, q10, q11, q12, q13, q14, q15⟩ := find_at hq hkd r2 es l 0 old k1 k2 k3 hf
            have hF := findKey_run (P := P) hkd q13 w
            rw [Nat.zero_add] at hF
            have her : l.eraseIdx l1.length = l1 ++ l2 := by
              have := erase_at l1 l2 m'
              rw [← q2] at this
              have h2 := congrArg Array.toList this
              simpa using h2
            have hso := setObj_run (P := P) (w := w) (o := .map (l1 ++ l2).toArray clock) hw
            refine ⟨undef, { w with heap := w.heap.setIfInBounds b2 (.map ⟨l1 ++ l2⟩ clock) }, G, Or.inl ?_, VR_undef G, Gle.refl G, WR_obj h2 hb fun w' hw' => ?_⟩
            · simp [execOp, resolve, hmv, invoke, builtin, Builtin.delete_, hts, run_und hu, hgo, checkKey_run hq, hF, her, hso]; rfl
            · rw [q15]
              refine ⟨_, hw', ?_, ?_, ?_⟩
              · simp only [List.map_append]; exact VRs_app q7 q10
              · simp only [List.map_append]; exact VRs_app q8 q11
              · simp only [List.map_append, q9, q12]
          | none =>
            have hN : Instr.findNow kd (a.eval k) l 0 = some none := by
              rcases findNow_of hq hkd r2 es l 0 none k1 k2 hf with ⟨_, h0⟩ | ⟨_, _, _, h0, _⟩
              · exact h0
              · cases h0
            have hF := findKey_run (P := P) hkd hN w
            have hso := setObj_run (P := P) (w := w) (o := .map ⟨l⟩ clock) hw
            refine ⟨undef, { w with heap := w.heap.setIfInBounds b2 (.map ⟨l⟩ clock) }, G, Or.inl ?_, VR_undef G, Gle.refl G, WR_obj h2 hb fun w' hw' => ?_⟩
            · simp [execOp, resolve, hmv, invoke, builtin, Builtin.delete_, hts, run_und hu, hgo, checkKey_run hq, hF, hso]; rfl
            · rw [delA_none hf]
              exact ⟨_, hw', k1, k2, k3⟩
      · cases h3
    · cases h3
end
end Go.Proofs.Ytadohhhjpbhhoaa.EvA
