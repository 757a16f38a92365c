/- An evaluator of the program's code over abstract values and an abstract heap: maps. -/
import Derived.Test.YtadohhhjpbhhoaaEvK
namespace Go.Proofs.Ytadohhhjpbhhoaa.EvA
open Go.RowKit
set_option linter.unusedVariables false
set_option linter.unusedSimpArgs false
section
variable {P : Program} {d : Option Tmp} {t t2 t3 : TypeId} {pos : String} {af : Array Edge} {g : Option (Nat × Bool)}
theorem keyT_is {u : TypeId} {q : Nat} (h : keyT P u = some q) : (q = 0 ∧ P.underlying u = some .bool) ∨ (q = 1 ∧ ∃ k, P.underlying u = some (.int k)) ∨ (q = 2 ∧ P.underlying u = some .string) := by
  unfold keyT at h
  split at h
  · rename_i hu; simp at h; subst h; exact Or.inl ⟨rfl, hu⟩
  · rename_i k hu; simp at h; subst h; exact Or.inr (Or.inl ⟨rfl, k, hu⟩)
  · rename_i hu; simp at h; subst h; exact Or.inr (Or.inr ⟨rfl, hu⟩)
  · cases h
theorem bytes_beq (a b : ByteArray) : (a == b) = (a.toList == b.toList) := by
  rw [ByteArray.toList_eq, ByteArray.toList_eq]
  obtain ⟨⟨x⟩⟩ := a
  obtain ⟨⟨y⟩⟩ := b
  show ((⟨x⟩ : Array UInt8) == ⟨y⟩) = (x == y)
  simp
/-- Two keys are told apart at once. -/
theorem sameNow_of {u : TypeId} {q : Nat} (hq : keyT P u = some q) {e : TypeDesc} (he : P.underlying u = some e) {G : Gh} {x y : AV} {p r : Value} (hp : VR G x p) (hr : VR G y r) {b : Bool} (h : scalarEq q x y = some b) :
    Instr.sameNow e p r = some b := by
  rcases keyT_is hq with ⟨rfl, hu⟩ | ⟨rfl, k, hu⟩ | ⟨rfl, hu⟩ <;> obtain rfl := Option.some.inj (he.symm.trans hu)
  all_goals
    unfold scalarEq at h
    split at h
    all_goals (first | (cases h; done) | skip)
    all_goals (split at h)
    all_goals (first | (cases h; done) | skip)
    all_goals (rename_i hc; first | (exact absurd hc (by decide)) | (exact absurd hc.1 (by decide)) | skip)
    all_goals (simp only [VR] at hp hr; subst hp; subst hr; simp only [Option.some.injEq] at h; subst h)
  · rfl
  · obtain ⟨_, rfl⟩ := hc
    simp [Instr.sameNow]
  · simp [Instr.sameNow, bytes_beq]
theorem findNow_of {u : TypeId} {q : Nat} (hq : keyT P u = some q) {e : TypeDesc} (he : P.underlying u = some e) {G : Gh} {x : AV} {p : Value} (hp : VR G x p) :
    ∀ (es : List (AV × AV × Nat)) (l : List MapEntry) (i : Nat) (r : Option AV), VRs G (es.map (·.1)) (l.map (·.key)) → VRs G (es.map (·.2.1)) (l.map (·.val)) → findA q x es = some r →
      (r = none ∧ Instr.findNow e p l i = some none) ∨ ∃ v u2 j, r = some v ∧ Instr.findNow e p l i = some (some (i + j, u2)) ∧ VR G v u2 ∧ (es[j]?).map (·.2.1) = some v ∧ (l[j]?).map (·.val) = some u2
  | [], l, i, r, h1, h2, h => by
    simp only [findA, Option.some.injEq] at h; subst h
    simp only [List.map_nil, VRs, List.map_eq_nil_iff] at h1; subst h1
    exact Or.inl ⟨rfl, rfl⟩
  | (a, v, n) :: es, [], i, r, h1, h2, h => by simp [VRs] at h1
  | (a, v, n) :: es, m :: l, i, r, h1, h2, h => by
    simp only [List.map_cons, VRs] at h1 h2
    obtain ⟨_, _, e1, k1, k2⟩ := h1
    obtain ⟨rfl, rfl⟩ := List.cons.inj e1
    obtain ⟨_, _, e2, k3, k4⟩ := h2
    obtain ⟨rfl, rfl⟩ := List.cons.inj e2
    simp only [findA] at h
    split at h
    · rename_i hs
      simp only [Option.some.injEq] at h; subst h
      refine Or.inr ⟨v, m.val, 0, rfl, ?_, k3, rfl, rfl⟩
      simp only [Instr.findNow, sameNow_of hq he hp k1 hs]; rfl
    · rename_i hs
      rcases findNow_of hq he hp es l (i + 1) r k2 k4 h with ⟨rfl, hf⟩ | ⟨w, u2, j, rfl, hf, hv, hj, hj2⟩
      · exact Or.inl ⟨rfl, by simp only [Instr.findNow, sameNow_of hq he hp k1 hs]; exact hf⟩
      · refine Or.inr ⟨w, u2, j + 1, rfl, ?_, hv, by simpa using hj, by simpa using hj2⟩
        simp only [Instr.findNow, sameNow_of hq he hp k1 hs]
        rw [hf]; congr 3; omega
    · cases h
theorem checkKey_run {u : TypeId} {q : Nat} (hq : keyT P u = some q) (b : Bool) (n : Nat) (v : Value) (w : World) : (Instr.checkKey b (n + 1) u v).run P w = .ok () w := by
  rcases keyT_is hq with ⟨rfl, hu⟩ | ⟨rfl, k, hu⟩ | ⟨rfl, hu⟩ <;> simp only [Instr.checkKey, Sem.run_bind, run_und hu, Result.andThen] <;> rfl
theorem findKey_run {u : TypeId} {e : TypeDesc} (he : P.underlying u = some e) {p : Value} {l : List MapEntry} {r : Option (Nat × Value)} (h : Instr.findNow e p l 0 = some r) (w : World) : (Instr.findKey u p l).run P w = .ok r w := by
  simp only [Instr.findKey, Sem.run_bind, run_und he, Result.andThen, h]; rfl
theorem keyT_und {u : TypeId} {q : Nat} (hq : keyT P u = some q) : ∃ e, P.underlying u = some e := by
  rcases keyT_is hq with ⟨rfl, hu⟩ | ⟨rfl, k, hu⟩ | ⟨rfl, hu⟩ <;> exact ⟨_, hu⟩
theorem zero_run {u : TypeId} {z : AV} (hz : zeroT P u = some z) (w : World) (G : Gh) : ∃ zv, (zeroValue u).run P w = .ok zv w ∧ VR G z zv := by
  unfold zeroT at hz
  obtain ⟨zv, h4, h5⟩ := Option.bind_eq_some_iff.1 hz
  obtain ⟨ti, h6, h7⟩ := Option.bind_eq_some_iff.1 h4
  exact ⟨zv, by simp [zeroValue, typeInfo, program, bind, Sem.bind, pure, Sem.run, h6, h7], VR_const G _ zv z h5⟩
/-- A map's entries, as the model reads them. -/
theorem entries_run {B : Nat → Prop} {w0 w : World} {G : Gh} {h : AH} (hW : WR B w0 G h w) {m : AV} {u : Value} (hm : VR G m u) {es : List (AV × AV × Nat)} (he : entries h m = some es) :
    ∃ l : List MapEntry, VRs G (es.map (·.1)) (l.map (·.key)) ∧ VRs G (es.map (·.2.1)) (l.map (·.val)) ∧ ((u = .map none ∧ l = []) ∨ ∃ b c, u = .map (some b) ∧ (getObj b).run P w = .ok (.map ⟨l⟩ c) w) := by
  unfold entries at he
  split at he
  · simp only [Option.some.injEq] at he; subst he
    simp only [VR] at hm
    exact ⟨[], by simp [VRs], by simp [VRs], Or.inl ⟨hm, rfl⟩⟩
  · rename_i i
    split at he
    · rename_i es' c hg
      simp only [Option.some.injEq] at he; subst he
      simp only [VR] at hm
      obtain ⟨b, hb, hv⟩ := hm
      obtain ⟨b2, hb2, l, hw, k1, k2, k3⟩ := hW.blk i _ hg
      have : b2 = b := Option.some.inj (hb2.symm.trans hb)
      subst this
      exact ⟨l, k1, k2, Or.inr ⟨b2, c, hv, by simp [getObj, Sem.run, hw]⟩⟩
    · cases he
  · cases he
theorem ok_lookup {m k : Operand} {km kk : AX} (hm : cX m = some km) (hk : cX k = some kk) {kt e : TypeId} (hu : P.underlying t2 = some (.map kt e)) {q : Nat} (hq : keyT P kt = some q) {z : AV} (hz : zeroT P e = some z) {ok : Bool} :
    OpOk P ⟨d, .lookup t2 m k ok, t, pos, af, g⟩ (oLookup q z ok km kk) :=
  OpOk.pure fun call B w0 G h w a ts v h' h1 h2 h3 => by
    have r1 := cX_ok hm h1
    have r2 := cX_ok hk h1
    simp only [oLookup] at h3
    split at h3
    · cases h3
    · split at h3
      · cases h3
      · rename_i es hes
        split at h3
        · cases h3
        · rename_i r hr
          simp only [Option.some.injEq, Prod.mk.injEq] at h3
          obtain ⟨rfl, rfl⟩ := h3
          obtain ⟨l, k1, k2, hl⟩ := entries_run (P := P) h2 r1 hes
          obtain ⟨kd, hkd⟩ := keyT_und hq
          obtain ⟨zv, hzr, hzv⟩ := zero_run hz w G
          have fin : ∃ uv : Value, VR G (r.getD z) uv ∧ (Instr.lookup t2 (a.eval m) (a.eval k) ok).run P w = .ok (if ok then .tuple #[uv, .bool r.isSome] else uv) w := by
            rcases findNow_of hq hkd r2 es l 0 r k1 k2 hr with ⟨rfl, hf⟩ | ⟨x, u2, j, rfl, hf, hv, _, _⟩
            · refine ⟨zv, hzv, ?_⟩
              have hF := findKey_run (P := P) hkd hf w
              rcases hl with ⟨hv, rfl⟩ | ⟨b, c, hv, hg⟩
              · simp [Instr.lookup, run_und hu, hv, checkKey_run hq, hF, hzr]
              · simp [Instr.lookup, run_und hu, hv, hg, checkKey_run hq, hF, hzr]
            · refine ⟨u2, hv, ?_⟩
              have hF := findKey_run (P := P) hkd hf w
              rcases hl with ⟨hv, rfl⟩ | ⟨b, c, hv, hg⟩
              · simp [Instr.findNow] at hf
              · simp [Instr.lookup, run_und hu, hv, hg, checkKey_run hq, hF]
          obtain ⟨uv, huv, hrun⟩ := fin
          refine ⟨rfl, _, by simp only [execOp, Sem.run_bind, hrun, Result.andThen]; rfl, ?_⟩
          cases ok
          · exact huv
          · simp only [if_true, VR]; exact ⟨[uv, .bool r.isSome], rfl, by simp only [VRs]; exact ⟨_, _, rfl, huv, _, _, rfl, by simp [VR], rfl⟩⟩
end
end Go.Proofs.Ytadohhhjpbhhoaa.EvA
