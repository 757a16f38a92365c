/- An evaluator of the program's code over abstract values and an abstract heap: regions in the order in which they are listed, code, functions. -/
import Derived.Test.YtadohhhjpbhhoaaEvS
namespace Go.Proofs.Ytadohhhjpbhhoaa.EvA
open Go.RowKit
set_option linter.unusedVariables false
set_option linter.unusedSimpArgs false
variable {D : List Deferred}
theorem VRs_upd {G : Gh} {ts : Tmps} {a : Act} {v : AV} {u : Value} (h : VRs G ts a.tmps.toList) (hv : VR G v u) (d : Nat) : VRs G (upd ts v d) ((a.put (some d) u).tmps.toList) := by
  rw [upd_set]
  have : (a.put (some d) u).tmps.toList = a.tmps.toList.set d u := by simp [Act.put]
  rw [this]
  exact VRs_set d h hv
/-- What is known of a world while a call runs. -/
def Sim (D : List Deferred) (B : Nat → Prop) (w0 : World) (G : Gh) (ts : Tmps) (h : AH) (a : Act) (w : World) : Prop := ∃ G', Gle G G' ∧ VRs G' ts a.tmps.toList ∧ WR B w0 G' h w ∧ a.defers = D
theorem Sim.le {B : Nat → Prop} {w0 : World} {G G1 : Gh} {ts : Tmps} {h : AH} {a : Act} {w : World} (g : Gle G G1) (s : Sim D B w0 G1 ts h a w) : Sim D B w0 G ts h a w := by
  obtain ⟨G', h1, h2⟩ := s
  exact ⟨G', g.trans h1, h2⟩
theorem kDo_end (d : Nat) (o : KO) (rest : KR) (call : Fn) (ts : Tmps) (h : AH) : kDo d o rest call ts h = (kDo d o kEnd call ts h).bind fun x => rest call x.1 x.2 := by
  unfold kDo; cases o call ts h with
  | none => rfl
  | some x => rfl
theorem kDo0_end (o : KO) (rest : KR) (call : Fn) (ts : Tmps) (h : AH) : kDo0 o rest call ts h = (kDo0 o kEnd call ts h).bind fun x => rest call x.1 x.2 := by
  unfold kDo0; cases o call ts h with
  | none => rfl
  | some x => rfl
theorem kIf_end (t : Nat) (want : Bool) (d : Nat) (o : KO) (rest : KR) (call : Fn) (ts : Tmps) (h : AH) : kIf t want d o rest call ts h = (kIf t want d o kEnd call ts h).bind fun x => rest call x.1 x.2 := by
  unfold kIf
  split
  · split
    · cases o call ts h with
      | none => rfl
      | some x => rfl
    · rfl
  · rfl
/-- A region's steps one behind the other. -/
noncomputable def runS (P : Program) (ops : Array Oper) (call : Fn) : List Oper → Tmps → AH → Option (Tmps × AH)
  | [], ts, h => some (ts, h)
  | o :: r, ts, h => match kStep false P ops o with
    | none => none
    | some st => (st call ts h).bind fun x => runS P ops call r x.1 x.2
theorem cR_run {P : Program} {ops : Array Oper} : ∀ {l : List Oper} {k : KR}, cR P ops l = some k → ∀ (call : Fn) (ts : Tmps) (h : AH), k call ts h = runS P ops call l ts h
  | [], k, hk, call, ts, h => by simp only [cR, Option.some.injEq] at hk; subst hk; rfl
  | o :: r, k, hk, call, ts, h => by
    simp only [cR] at hk
    split at hk
    · rename_i a rest h1 h2
      have ih := cR_run h2 call
      simp only [runS, kStep, cOpZ, h1, sDo, sDo0, sIf]
      split at hk
      · rename_i hg
        split at hk
        · rename_i d hd
          simp only [Option.some.injEq] at hk; subst hk
          simp only [hg, hd]
          rw [kDo_end]; congr 1; funext x; exact ih _ _
        · rename_i hd
          simp only [Option.some.injEq] at hk; subst hk
          simp only [hg, hd]
          rw [kDo0_end]; congr 1; funext x; exact ih _ _
      · rename_i j want hg
        split at hk
        · rename_i t d h3 h4
          simp only [Option.some.injEq] at hk; subst hk
          simp only [hg, h3, h4]
          rw [kIf_end]; congr 1; funext x; exact ih _ _
        · cases hk
    · cases hk
/-- One step does what its model does. -/
theorem step_ok {z : Bool} {P : Program} {ops : Array Oper} {o : Oper} {st : Fn → Tmps → AH → Option (Tmps × AH)} (hs : kStep z P ops o = some st) {call : Fn} {B : Nat → Prop} {w0 w : World} (hc : CallOk P B w0 call) {G : Gh} {h h' : AH} {a : Act} {ts ts' : Tmps}
    (h1 : VRs G ts a.tmps.toList) (h2 : WR B w0 G h w) (hd : a.defers = D) (h3 : st call ts h = some (ts', h')) {K : Act → World → Prop} {Q : Exit → Act → World → Prop} (hK : ∀ a' w', Sim D B w0 G ts' h' a' w' → K a' w') :
    if Region.wanted o (yielded ops a.tmps) then o.wp P a w K Q ∨ (o.asks P a w ∧ LetsOut Q) else K (a.put o.dst undef) w := by
  obtain ⟨dst, op, type, pos, after, guard⟩ := o
  unfold kStep at hs
  simp only at hs
  split at hs
  · cases hs
  · rename_i k hk
    have hop := cOpZ_ok (d := dst) (t := type) (pos := pos) (af := after) (g := guard) hk
    have putD : ∀ (d : Option Tmp) (u : Value), (a.put d u).defers = D := by intro d u; cases d <;> exact hd
    split at hs
    · rw [if_pos (by rfl)]
      left
      split at hs
      · rename_i d
        simp only [Option.some.injEq] at hs; subst hs
        simp only [sDo, kDo] at h3
        split at h3
        · cases h3
        · rename_i v h'' hv
          simp only [kEnd, Option.some.injEq, Prod.mk.injEq] at h3
          obtain ⟨rfl, rfl⟩ := h3
          exact hop call B w0 hc G h w a ts v _ h1 h2 hv K Q fun u w' G' g1 g2 g3 => hK _ _ ⟨G', g1, VRs_upd (VRs_mono g1 _ _ h1) g2 d, g3, putD _ _⟩
      · simp only [Option.some.injEq] at hs; subst hs
        simp only [sDo0, kDo0] at h3
        split at h3
        · cases h3
        · rename_i v h'' hv
          simp only [kEnd, Option.some.injEq, Prod.mk.injEq] at h3
          obtain ⟨rfl, rfl⟩ := h3
          exact hop call B w0 hc G h w a ts v _ h1 h2 hv K Q fun u w' G' g1 g2 g3 => hK _ _ ⟨G', g1, VRs_mono g1 _ _ h1, g3, putD _ _⟩
    · rename_i j want
      split at hs
      · rename_i t d h4
        simp only [Option.some.injEq] at hs; subst hs
        have hy : yielded ops a.tmps j = match a.tmps[t]? with | some (.bool b) => some b | _ => none := by
          unfold yielded; rw [h4]; rfl
        have hv := VR_getD h1 t
        have skip : ∀ u, u = (.tup [] : AV) → Sim D B w0 G (upd ts u d) h (a.put (some d) undef) w := by
          rintro u rfl; exact ⟨G, Gle.refl G, VRs_upd h1 (VR_undef G) d, h2, putD _ _⟩
        simp only [sIf, kIf] at h3
        split at h3
        · rename_i b hb
          rw [hb] at hv; simp only [VR] at hv
          have hget : a.tmps[t]? = some (.bool b) := by
            rw [Array.getD_eq_getD_getElem?] at hv
            cases hh : a.tmps[t]? with
            | none => rw [hh] at hv; simp [undef] at hv
            | some y => rw [hh] at hv; simp at hv; rw [hv]
          rw [hget] at hy
          simp only [Region.wanted, hy]
          split at h3
          · rename_i hbw
            have hbw' : b = want := by simpa using hbw
            rw [if_pos (by simp [hbw'])]
            left
            split at h3
            · cases h3
            · rename_i v h'' hv2
              simp only [kEnd, Option.some.injEq, Prod.mk.injEq] at h3
              obtain ⟨rfl, rfl⟩ := h3
              exact hop call B w0 hc G h w a ts v _ h1 h2 hv2 K Q fun u w' G' g1 g2 g3 => hK _ _ ⟨G', g1, VRs_upd (VRs_mono g1 _ _ h1) g2 d, g3, putD _ _⟩
          · rename_i hbw
            have hbw' : ¬ b = want := by simpa using hbw
            rw [if_neg (by simpa using hbw')]
            simp only [kEnd, Option.some.injEq, Prod.mk.injEq] at h3
            obtain ⟨rfl, rfl⟩ := h3
            exact hK _ _ (skip _ rfl)
        · rename_i hnb
          simp only [kEnd, Option.some.injEq, Prod.mk.injEq] at h3
          obtain ⟨rfl, rfl⟩ := h3
          have hget : ∀ b, a.tmps[t]? ≠ some (.bool b) := by
            intro b hb
            have e : a.tmps.getD t undef = .bool b := by rw [Array.getD_eq_getD_getElem?, hb]; rfl
            rw [e] at hv
            generalize hn : nth ts t = x at hv hnb
            cases x <;> simp only [VR] at hv <;> first | (cases hv; done) | skip
            all_goals first
              | (obtain ⟨_, _, hv⟩ := hv; cases hv; done)
              | (obtain ⟨_, hv, _⟩ := hv; cases hv; done)
              | (obtain ⟨_, _, _, _, _, _, _, hv⟩ := hv; cases hv; done)
              | (rcases hv with ⟨_, _, ⟨_, _, _, _, hv, _⟩ | ⟨_, _, _, _, _, hv, _⟩⟩ <;> cases hv; done)
              | (exact absurd rfl (hnb _))
          have hy' : yielded ops a.tmps j = none := by
            rw [hy]
            split
            · rename_i b hb; exact absurd hb (hget b)
            · rfl
          simp only [Region.wanted, hy']
          rw [if_neg (by simp)]
          exact hK _ _ (skip _ rfl)
      · cases hs
theorem runS_ok {P : Program} {ops : Array Oper} {call : Fn} {B : Nat → Prop} {w0 : World} (hc : CallOk P B w0 call) {Q : Exit → Act → World → Prop} (rest : List Nat) : ∀ (l : List Nat) (G : Gh) (h h' : AH) (w : World) (a : Act) (ts ts' : Tmps),
    VRs G ts a.tmps.toList → WR B w0 G h w → a.defers = D → (∀ i ∈ l, i < ops.size) → runS P ops call (l.map fun i => ops.getD i default) ts h = some (ts', h') → (∀ a' w', Sim D B w0 G ts' h' a' w' → wpOps P ops Q rest a' w') → wpOps P ops Q (l ++ rest) a w
  | [], G, h, h', w, a, ts, ts', h1, h2, hd, hl, h3, hQ => by
    simp only [List.map_nil, runS, Option.some.injEq, Prod.mk.injEq] at h3
    obtain ⟨rfl, rfl⟩ := h3
    exact hQ a w ⟨G, Gle.refl G, h1, h2, hd⟩
  | i :: l, G, h, h', w, a, ts, ts', h1, h2, hd, hl, h3, hQ => by
    have hi := hl i (List.mem_cons_self ..)
    have ho : ops[i]? = some (ops.getD i default) := by simp [hi]
    simp only [List.map_cons, runS] at h3
    split at h3
    · cases h3
    · rename_i st hs
      obtain ⟨⟨ts1, hh1⟩, h4, h5⟩ := Option.bind_eq_some_iff.1 h3
      simp only [List.cons_append, wpOps, ho]
      exact step_ok hs hc h1 h2 hd h4 fun a' w' ⟨G', g1, g2, g3, g4⟩ => runS_ok hc rest l G' hh1 h' w' a' ts1 ts' g2 g3 g4 (fun j hj => hl j (List.mem_cons_of_mem _ hj)) h5 fun a2 w2 s => hQ a2 w2 (s.le g1)
theorem list_range {ops : Array Oper} : (List.range ops.size).map (fun i => ops.getD i default) = ops.toList := by
  apply List.ext_getElem?
  intro k
  rw [List.getElem?_map]
  by_cases hk : k < ops.size
  · rw [List.getElem?_range hk]; simp [hk]
  · rw [List.getElem?_eq_none (by simpa using hk), List.getElem?_eq_none (by simpa using hk)]; rfl
/-- What is known of a world while a call runs, with what is deferred. -/
def SimD (B : Nat → Prop) (w0 : World) (G : Gh) (ts : Tmps) (h : AH) (a : Act) (w : World) : Prop := ∃ G', Gle G G' ∧ VRs G' ts a.tmps.toList ∧ WR B w0 G' h w ∧ DR G' h.defs a.defers
theorem SimD.le {B : Nat → Prop} {w0 : World} {G G1 : Gh} {ts : Tmps} {h : AH} {a : Act} {w : World} (g : Gle G G1) (s : SimD B w0 G1 ts h a w) : SimD B w0 G ts h a w := by
  obtain ⟨G', h1, h2⟩ := s
  exact ⟨G', g.trans h1, h2⟩
/-- Where code goes: by its end. -/
def EndsIn (B : Nat → Prop) (w0 : World) (G : Gh) (r : AO × Tmps × AH) : Exit → Act → World → Prop := fun e a w =>
  SimD B w0 G r.2.1 r.2.2 a w ∧ match r.1 with | .normal => e = .normal | .exit id => e = .exit id | .ret => e = .ret
theorem EndsIn.le {B : Nat → Prop} {w0 : World} {G G1 : Gh} {r : AO × Tmps × AH} (g : Gle G G1) {e : Exit} {a : Act} {w : World} (s : EndsIn B w0 G1 r e a w) : EndsIn B w0 G r e a w := ⟨s.1.le g, s.2⟩
/-- A loop, from within. -/
def LoopWp (P : Program) (c : Code) (Q : Exit → Act → World → Prop) (a : Act) (w : World) : Prop :=
  ∀ (b : Frame) (k : List Item) (cs : List Frame), ∃ e a' w', Q e a' w' ∧ Arrives P (lone (b.at a (.code c :: .inLoop c :: k)) cs w) b k cs e a' w'
theorem LoopWp.loop {P : Program} {c : Code} {Q : Exit → Act → World → Prop} {a : Act} {w : World} (h : LoopWp P c Q a w) : (Code.loop c).wp P Q a w := fun b k cs =>
  let ⟨e, a', w', q, r⟩ := h b k cs; ⟨e, a', w', q, .of_steps (.one step_loop) r⟩
theorem LoopWp.round {P : Program} {c : Code} {Q : Exit → Act → World → Prop} {a : Act} {w : World} (h : c.wp P (Exit.then (fun a w => LoopWp P c Q a w) Q) a w) : LoopWp P c Q a w := by
  intro b k cs
  obtain ⟨e, a₁, w₁, hq, harr⟩ := h b (.inLoop c :: k) cs
  cases e with
  | normal =>
    obtain ⟨e₂, a₂, w₂, hq₂, harr₂⟩ := hq b k cs
    exact ⟨e₂, a₂, w₂, hq₂, .of_steps (Steps.trans harr (.one step_inLoop)) harr₂⟩
  | exit id => exact ⟨_, a₁, w₁, hq, .pass (x := .inLoop c) rfl (fun _ _ => .inl (by simp)) harr⟩
  | goto l => exact ⟨_, a₁, w₁, hq, .pass (x := .inLoop c) rfl (fun _ _ => .inl (by simp)) harr⟩
  | ret => exact ⟨_, a₁, w₁, hq, .pass (x := .inLoop c) rfl (fun _ _ => .inl (by simp)) harr⟩
  | panic ch => exact ⟨_, a₁, w₁, hq, .pass (x := .inLoop c) rfl (fun _ _ => .inl (by simp)) harr⟩
  | outgrown => exact ⟨_, a₁, w₁, hq, .pass (x := .inLoop c) rfl (fun _ _ => .inl (by simp)) harr⟩
end Go.Proofs.Ytadohhhjpbhhoaa.EvA
