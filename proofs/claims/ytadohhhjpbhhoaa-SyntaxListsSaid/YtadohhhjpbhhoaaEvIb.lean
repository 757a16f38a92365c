/- An evaluator of the program's code over abstract values and an abstract heap: regions that end in two stores that may change places. -/
import Derived.Test.YtadohhhjpbhhoaaEvIa
namespace Go.Proofs.Ytadohhhjpbhhoaa.EvA
open Go.RowKit
set_option linter.unusedVariables false
set_option linter.unusedSimpArgs false
variable {D : List Deferred}
/-- What may be done at any time gives the same at every world. -/
theorem late_ok {P : Program} {d : Option Tmp} {t : TypeId} {pos : String} {af : Array Edge} {g : Option (Nat × Bool)} {op : Op} {k : KO} (hk : cOp P op = some k) (hl : late op = true) {G : Gh} {a : Act} {ts : Tmps} (h1 : VRs G ts a.tmps.toList) {call : Fn} {h h' : AH} {v : AV} (h3 : k call ts h = some (v, h')) :
    ∃ u, (∀ w, (execOp a.eval ⟨d, op, t, pos, af, g⟩).run P w = .ok (.value u) w) ∧ VR G v u := by
  unfold cOp at hk
  split at hk
  all_goals (try (simp only [late] at hl; done))
  all_goals (try (cases hl; done))
  case h_1 =>
    obtain ⟨q, hq, rfl⟩ := Option.map_eq_some_iff.1 hk
    simp only [oMove, Option.some.injEq, Prod.mk.injEq] at h3
    obtain ⟨rfl, rfl⟩ := h3
    exact ⟨_, fun w => rfl, cX_ok hq h1⟩
  case h_2 =>
    obtain ⟨q, hq, rfl⟩ := Option.map_eq_some_iff.1 hk
    simp only [oMove, Option.some.injEq, Prod.mk.injEq] at h3
    obtain ⟨rfl, rfl⟩ := h3
    exact ⟨_, fun w => rfl, cX_ok hq h1⟩
  case h_6 =>
    rename_i t2 parts
    have key : ∀ {z : AV} (hz : zeroT P t2 = some z) {qs : List (Nat × Nat × AX)}
        (hp : (∃ fs pl, P.underlying t2 = some (.struct fs) ∧ placesT P fs.toList = some pl ∧ partsP pl parts.toList = some qs) ∨ (∃ n e s, P.underlying t2 = some (.array n e) ∧ sizeT P e = some s ∧ partsA s parts.toList = some qs)),
        oBuild z.cells qs call ts h = some (v, h') → ∃ u, (∀ w, (execOp a.eval ⟨d, .build t2 parts, t, pos, af, g⟩).run P w = .ok (.value u) w) ∧ VR G v u := by
      intro z hz qs hp h3
      unfold zeroT at hz
      obtain ⟨zv, h4, h5⟩ := Option.bind_eq_some_iff.1 hz
      obtain ⟨it, h6, h7⟩ := Option.bind_eq_some_iff.1 h4
      have hzc := cells_ok (VR_const G _ zv z h5)
      simp only [oBuild] at h3
      split at h3
      · rename_i cs hf
        simp only [Option.some.injEq, Prod.mk.injEq] at h3
        obtain ⟨rfl, rfl⟩ := h3
        have key : ∃ r, P.built t2 (parts.map fun (i, x) => (i, a.eval x)).toList = some r ∧ VRs G cs r.toList := by
          rw [parts_list]
          rcases hp with ⟨fs, pl, hu, hpl, hps⟩ | ⟨n, e, s, hu, hs, hps⟩
          · obtain ⟨r, hr, hR⟩ := fill_ok h1 (partsP_ok hps) hzc hf
            refine ⟨r, ?_, hR⟩
            unfold placesT at hpl
            simp only [Program.built, h6, hu, h7, hpl]
            exact hr
          · obtain ⟨r, hr, hR⟩ := fill_ok h1 (partsA_ok hps) hzc hf
            refine ⟨r, ?_, hR⟩
            unfold sizeT at hs
            obtain ⟨ie, hie, rfl⟩ := Option.map_eq_some_iff.1 hs
            simp only [Program.built, h6, hu, h7, hie]
            exact hr
        obtain ⟨r, hr, hR⟩ := key
        refine ⟨.agg r, fun w => ?_, by simp only [VR]; exact ⟨r.toList, rfl, hR⟩⟩
        simp only [execOp, Sem.run_bind, run_build w t2 _ r hr, Result.andThen]; rfl
      · cases h3
    split at hk
    · rename_i hu hz
      split at hk
      · rename_i pl hpl
        obtain ⟨q, hq, rfl⟩ := Option.map_eq_some_iff.1 hk
        exact key hz (Or.inl ⟨_, _, hu, hpl, hq⟩) h3
      · cases hk
    · rename_i hu hz
      split at hk
      · rename_i s hs
        obtain ⟨q, hq, rfl⟩ := Option.map_eq_some_iff.1 hk
        exact key hz (Or.inr ⟨_, _, _, hu, hs, hq⟩) h3
      · cases hk
    · cases hk
  case h_10 =>
    obtain ⟨q, hq, rfl⟩ := Option.map_eq_some_iff.1 hk
    have r1 := cX_ok hq h1
    simp only [oNil] at h3
    split at h3
    · rename_i i o hb
      simp only [Option.some.injEq, Prod.mk.injEq] at h3
      obtain ⟨rfl, rfl⟩ := h3
      rw [hb] at r1
      have r2 := r1
      simp only [VR] at r1
      obtain ⟨b, hp, e⟩ := r1
      refine ⟨_, fun w => ?_, r2⟩
      simp only [execOp, e]; rfl
    · rename_i c o s hb
      simp only [Option.some.injEq, Prod.mk.injEq] at h3
      obtain ⟨rfl, rfl⟩ := h3
      rw [hb] at r1
      have r2 := r1
      simp only [VR] at r1
      obtain ⟨r, _, _, _, _, _, _, e⟩ := r1
      refine ⟨_, fun w => ?_, r2⟩
      simp only [execOp, e]; rfl
    · rename_i f c hb
      simp only [Option.some.injEq, Prod.mk.injEq] at h3
      obtain ⟨rfl, rfl⟩ := h3
      rw [hb] at r1
      have r2 := r1
      simp only [VR] at r1
      obtain ⟨l, e, _⟩ := r1
      refine ⟨_, fun w => ?_, r2⟩
      simp only [execOp, e]; rfl
    · rename_i f c hb
      simp only [Option.some.injEq, Prod.mk.injEq] at h3
      obtain ⟨rfl, rfl⟩ := h3
      rw [hb] at r1
      have r2 := r1
      simp only [VR] at r1
      obtain ⟨l, e, _⟩ := r1
      refine ⟨_, fun w => ?_, r2⟩
      simp only [execOp, e]; rfl
    · cases h3
  case h_11 =>
    rename_i op2 t2 x y t3
    split at hk
    · rename_i kx ky hx hy
      split at hk
      · simp [late] at hl
      · simp [late] at hl
      · simp [late] at hl
      · simp [late] at hl
      · simp only [Option.some.injEq] at hk; subst hk
        have r1 := cX_ok hx h1
        have r2 := cX_ok hy h1
        simp only [oArith] at h3
        split at h3
        · rename_i u hu
          simp only [Option.some.injEq, Prod.mk.injEq] at h3
          obtain ⟨rfl, rfl⟩ := h3
          unfold aarith at hu
          split at hu
          · rename_i k m j n e1 e2
            rw [e1] at r1; rw [e2] at r2
            simp only [VR] at r1 r2
            split at hu
            · rename_i hkj
              subst hkj
              cases op2 <;> simp only [Option.some.injEq, reduceCtorEq] at hu <;> (try (split at hu <;> simp only [Option.some.injEq, reduceCtorEq] at hu)) <;> subst hu <;>
                (refine ⟨_, fun w => by (simp only [execOp, r1, r2, eqGuard, binOp, Op.intArith, Op.intDiv, Op.intBits, Op.intCmp, ne_eq, not_true_eq_false, if_false, if_true, Bool.not_false, *] <;> rfl), by simp only [VR]; try rfl⟩)
            · cases hu
          · rename_i m n e1 e2
            rw [e1] at r1; rw [e2] at r2
            simp only [VR] at r1 r2
            have hmax : IntKind.i64.max = 9223372036854775807 := rfl
            cases op2 <;> simp only [Option.some.injEq, reduceCtorEq] at hu
            case add =>
              split at hu
              · rename_i hle
                simp only [Option.some.injEq] at hu; subst hu
                refine ⟨.string (m ++ n), fun w => ?_, by simp only [VR]⟩
                have hn : ¬ (((m.size + n.size : Nat) : Int) > IntKind.i64.max) := by rw [hmax]; omega
                simp only [execOp, r1, r2, eqGuard, binOp, Op.stringOp, Bool.not_false, if_true, if_neg hn]; rfl
              · cases hu
            all_goals (subst hu; refine ⟨_, fun w => by (simp only [execOp, r1, r2, eqGuard, binOp, Op.stringOp, Bool.not_false, if_true] <;> rfl), by simp only [VR]; try rfl⟩)
          · cases hu
        · cases h3
    · cases hk
  case h_16 =>
    rename_i t2 x i
    split at hk
    · rename_i fs q hu hq
      split at hk
      · rename_i f hf
        split at hk
        · cases hk
        · rename_i hn
          split at hk
          · rename_i n hn0
            simp only [Option.some.injEq] at hk; subst hk
            have hn1 : n ≠ 0 := fun e => hn (by rw [hn0, e])
            have r1 := cX_ok hq h1
            have add : ∀ (b o : Nat), (⟨b, o, none⟩ : Addr).add f.offset = ⟨b, o + f.offset, none⟩ := by
              intro b o; unfold Addr.add; split
              · rename_i e; rw [e]; rfl
              · rfl
            have run : ∀ (b o : Nat) (w : World), (execOp (fun _ => Value.pointer (some ⟨b, o, none⟩)) ⟨d, .fieldAddr t2 x i, t, pos, af, g⟩).run P w = .ok (.value (.pointer (some ⟨b, o + f.offset, none⟩))) w := by
              intro b o w
              simp [execOp, Instr.fieldAt, run_und hu, hf, Instr.sureAddr, fieldPlace, run_size hn0, hn1, add]
            simp only [oFaddr] at h3
            split at h3
            · rename_i j o e
              simp only [Option.some.injEq, Prod.mk.injEq] at h3
              obtain ⟨rfl, rfl⟩ := h3
              rw [e] at r1; simp only [VR] at r1
              obtain ⟨b, hb, hv⟩ := r1
              refine ⟨_, fun w => ?_, by simp only [VR]; exact ⟨b, hb, rfl⟩⟩
              have := run b o w
              simpa only [execOp, hv] using this
            · rename_i cs o s e
              simp only [Option.some.injEq, Prod.mk.injEq] at h3
              obtain ⟨rfl, rfl⟩ := h3
              rw [e] at r1; simp only [VR] at r1
              obtain ⟨r, p, q1, q3, q4, q5, q6, hv⟩ := r1
              refine ⟨.pointer (some ⟨r.b, p - r.base + (o + f.offset), none⟩), fun w => ?_, by simp only [VR]; exact ⟨r, p, q1, q3, q4, q5, q6, rfl⟩⟩
              have := run r.b (p - r.base + o) w
              rw [Nat.add_assoc] at this
              simpa only [execOp, hv] using this
            · cases h3
          · cases hk
      · cases hk
    · cases hk
  case h_18 =>
    rename_i t2 x i
    split at hk
    · rename_i kx ki hx hi
      have r1 := cX_ok hx h1
      have r2 := cX_ok hi h1
      exact iaddrK_late hk r1 r2 h3
    · cases hk
  all_goals (cases hk)
theorem ipT_spec {ops : Array Oper} {ix iy : Nat} : ∀ {n : Nat}, ipT ops ix iy n = true → ∀ j, j < n → ipOne ops ix iy j = true ∧ (j = ix ∨ j = iy ∨ ipPairs ops ix iy j j = true) ∧ backT ops j = true
  | 0, _, j, hj => by omega
  | n + 1, h, j, hj => by
    simp only [ipT, Bool.and_eq_true, Bool.or_eq_true] at h
    rcases Nat.lt_succ_iff_lt_or_eq.1 hj with h1 | rfl
    · exact ipT_spec h.2 j h1
    · refine ⟨h.1.1.1, ?_, h.1.2⟩
      rcases h.1.1.2 with (q | q) | q
      · exact Or.inl (Nat.eq_of_beq_eq_true q)
      · exact Or.inr (Or.inl (Nat.eq_of_beq_eq_true q))
      · exact Or.inr (Or.inr q)
theorem ipPairs_spec {ops : Array Oper} {ix iy j : Nat} : ∀ {n : Nat}, ipPairs ops ix iy j n = true → ∀ i, i < n → i ≠ ix → i ≠ iy → commT ops (ops.getD i default) (ops.getD j default) = true ∨ predT ops 12 i j = true
  | 0, _, i, hi, _, _ => by omega
  | n + 1, h, i, hi, n1, n2 => by
    simp only [ipPairs, Bool.and_eq_true, Bool.or_eq_true] at h
    rcases Nat.lt_succ_iff_lt_or_eq.1 hi with h1 | rfl
    · exact ipPairs_spec h.2 i h1 n1 n2
    · rcases h.1 with ((q | q) | q) | q
      · exact absurd (Nat.eq_of_beq_eq_true q) n1
      · exact absurd (Nat.eq_of_beq_eq_true q) n2
      · exact Or.inl q
      · exact Or.inr q
/-- The two stores: in both orders the same world. -/
def Pair (D : List Deferred) (P : Program) (ox oy : Oper) (B : Nat → Prop) (w0 : World) (G : Gh) (ts' : Tmps) (h' : AH) (a : Act) (w : World) : Prop :=
  ∃ w1 w1' w2, (execOp a.eval ox).run P w = .ok .skip w1 ∧ (execOp a.eval oy).run P w1 = .ok .skip w2 ∧ (execOp a.eval oy).run P w = .ok .skip w1' ∧ (execOp a.eval ox).run P w1' = .ok .skip w2 ∧ Sim D B w0 G ts' h' a w2
theorem one_store {P : Program} {ops : Array Oper} {o : Oper} {i : Nat} (ho : ops[i]? = some o) (hs : isStore o = true) {a : Act} {w w1 : World} (hr : (execOp a.eval o).run P w = .ok .skip w1) {K : Act → World → Prop} {Q : Exit → Act → World → Prop} (hK : K a w1) : wpOp P ops Q i K a w := by
  simp only [isStore, Bool.and_eq_true, Option.isNone_iff_eq_none] at hs
  unfold wpOp
  simp only [ho]
  have hw : Region.wanted o (yielded ops a.tmps) = true := by unfold Region.wanted; rw [hs.2]
  rw [if_pos hw]
  left
  unfold Oper.wp
  rw [hr]
  show K (a.put o.dst undef) w1
  rw [hs.1.2]; exact hK
theorem ready_nil {ops : Array Oper} {listed : Array Bool} (hsz : listed.size = ops.size) (hall : ∀ i, i < ops.size → listed.getD i false = true) : Region.ready .any ops listed = [] := by
  cases hrd : Region.ready .any ops listed with
  | nil => rfl
  | cons x xs =>
    have hx : x ∈ Region.ready .any ops listed := by rw [hrd]; exact List.mem_cons_self ..
    obtain ⟨hl, o, ho, _⟩ := mem_ready.1 hx
    have hlt : x < ops.size := (Array.getElem?_eq_some_iff.1 ho).1
    have := hall x hlt
    simp [hsz, hlt] at hl this
    rw [hl] at this; cases this
theorem ready_of {ops : Array Oper} {listed : Array Bool} (hsz : listed.size = ops.size) {i : Nat} (hi : i < ops.size) (hun : listed.getD i false = false) (hb : backT ops i = true) (hpre : ∀ j, j < i → (∀ o, ops[i]? = some o → (∃ e ∈ o.after, Region.binds .any e = true ∧ e.on = j) → listed.getD j false = true)) : i ∈ Region.ready .any ops listed := by
  have ho : ops[i]? = some ops[i] := by simp [hi]
  rw [mem_ready]
  refine ⟨by simp [hsz, hi] at hun ⊢; exact hun, ops[i], ho, fun e he hbd => ?_⟩
  simp only [backT, ho, List.all_eq_true, Bool.or_eq_true, Bool.not_eq_true', decide_eq_true_eq] at hb
  have hlt2 : e.on < i := (hb e (by simpa using he)).resolve_left (by simp [hbd])
  exact hpre e.on hlt2 ops[i] ho ⟨e, he, hbd, rfl⟩
/-- All but the two stores is done. -/
theorem ip_end {P : Program} {ops : Array Oper} {ix iy : Nat} (hxy : ix < iy) (hy : iy < ops.size) (hT : ipT ops ix iy ops.size = true) (hsx : isStore (ops.getD ix default) = true) (hsy : isStore (ops.getD iy default) = true) {B : Nat → Prop} {w0 w : World} {G : Gh} {ts' : Tmps} {h' : AH} {a : Act} {Q : Exit → Act → World → Prop} {listed : Array Bool}
    (hsz : listed.size = ops.size) (hlx : listed.getD ix false = false) (hly : listed.getD iy false = false) (hrest : ∀ i, i < ops.size → i ≠ ix → i ≠ iy → listed.getD i false = true) (hp : Pair D P (ops.getD ix default) (ops.getD iy default) B w0 G ts' h' a w) (hQ : ∀ a' w', Sim D B w0 G ts' h' a' w' → Q .normal a' w') :
    wpAny P .any ops Q 2 listed a w := by
  obtain ⟨w1, w1', w2, r1, r2, r3, r4, hS⟩ := hp
  have hix : ix < ops.size := by omega
  have hox : ops[ix]? = some (ops.getD ix default) := by simp [hix]
  have hoy : ops[iy]? = some (ops.getD iy default) := by simp [hy]
  have hxs : ix < listed.size := by rw [hsz]; exact hix
  have hys : iy < listed.size := by rw [hsz]; exact hy
  have fin : ∀ {l2 : Array Bool}, l2.size = ops.size → (∀ i, i < ops.size → l2.getD i false = true) → wpAny P .any ops Q 0 l2 a w2 := fun h1 h2 => ⟨ready_nil h1 h2, hQ a w2 hS⟩
  have last : ∀ {i k : Nat} {wa : World}, i < ops.size → k < ops.size → i ≠ k → isStore (ops.getD k default) = true → (execOp a.eval (ops.getD k default)).run P wa = .ok .skip w2 → listed.getD k false = false → (∀ m, m < ops.size → m ≠ i → m ≠ k → listed.getD m false = true) → wpAny P .any ops Q 1 (listed.setIfInBounds i true) a wa := by
    intro i k wa hi hk hne hsk hrk hlk hr
    have his : i < listed.size := by rw [hsz]; exact hi
    have hks : k < (listed.setIfInBounds i true).size := by simp [hsz, hk]
    have hok : ops[k]? = some (ops.getD k default) := by simp [hk]
    have hsz2 : (listed.setIfInBounds i true).size = ops.size := by simpa using hsz
    have hget : ∀ m, m < ops.size → m ≠ k → (listed.setIfInBounds i true).getD m false = true := by
      intro m hm hmk
      rw [set_get his]
      by_cases e : m = i
      · rw [if_pos e]
      · rw [if_neg e]; exact hr m hm e hmk
    have hkin : k ∈ Region.ready .any ops (listed.setIfInBounds i true) := by
      refine ready_of hsz2 hk (by rw [set_get his, if_neg (Ne.symm hne)]; exact hlk) (ipT_spec hT k hk).2.2 fun j hj o ho _ => ?_
      exact hget j (by omega) (by omega)
    constructor
    · intro h0; rw [h0] at hkin; cases hkin
    · intro j hj
      obtain ⟨hl, o, ho, _⟩ := mem_ready.1 hj
      have hjlt : j < ops.size := (Array.getElem?_eq_some_iff.1 ho).1
      have hjk : j = k := by
        refine Decidable.byContradiction fun e => ?_
        have := hget j hjlt e
        simp [hsz2, hjlt] at hl this
        rw [hl] at this; cases this
      subst hjk
      refine one_store hok hsk hrk (fin (by simpa using hsz2) fun m hm => ?_)
      rw [set_get hks]
      by_cases e : m = j
      · rw [if_pos e]
      · rw [if_neg e]; exact hget m hm e
  constructor
  · intro h0
    have : ix ∈ Region.ready .any ops listed := ready_of hsz hix hlx (ipT_spec hT ix hix).2.2 fun j hj o ho _ => hrest j (by omega) (by omega) (by omega)
    rw [h0] at this; cases this
  · intro j hj
    obtain ⟨hl, o, ho, _⟩ := mem_ready.1 hj
    have hjlt : j < ops.size := (Array.getElem?_eq_some_iff.1 ho).1
    have hjxy : j = ix ∨ j = iy := by
      refine Decidable.byContradiction fun e => ?_
      have h1 : j ≠ ix := fun q => e (Or.inl q)
      have h2 : j ≠ iy := fun q => e (Or.inr q)
      have := hrest j hjlt h1 h2
      simp [hsz, hjlt] at hl this
      rw [hl] at this; cases this
    rcases hjxy with rfl | rfl
    · exact one_store hox hsx r1 (last hix hy (by omega) hsy r2 hly fun m hm h1 h2 => hrest m hm h1 h2)
    · exact one_store hoy hsy r3 (last hy hix (by omega) hsx r4 hlx fun m hm h1 h2 => hrest m hm h2 h1)
end Go.Proofs.Ytadohhhjpbhhoaa.EvA
