/- An evaluator of the program's code over abstract values and an abstract heap: regions that end in two stores that may change places, in any order. -/
import Derived.Test.YtadohhhjpbhhoaaEvIb
namespace Go.Proofs.Ytadohhhjpbhhoaa.EvA
open Go.RowKit
set_option linter.unusedVariables false
set_option linter.unusedSimpArgs false
variable {D : List Deferred}
theorem late_cls {op : Op} (h : late op = true) : cls op = 0 := by cases op <;> first | rfl | (cases h; done)
theorem ipOne_spec {ops : Array Oper} {ix iy j : Nat} (h : ipOne ops ix iy j = true) (n1 : j ≠ ix) (n2 : j ≠ iy) :
    ((predT ops 12 j ix = true ∧ predT ops 12 j iy = true) ∨ (late (ops.getD j default).op = true ∧ (ops.getD j default).guard = none ∧ (∃ d, (ops.getD j default).dst = some d) ∧
      ∀ k, k < ops.size → k = j ∨ predT ops 12 k j = true ∨ (∃ e ∈ (ops.getD k default).after, Region.binds .any e = true ∧ e.on = j) ∨ (ops.getD j default).apart ops (ops.getD k default) = true)) ∧
    ∀ e ∈ (ops.getD j default).after, Region.binds .any e = true → e.on ≠ ix ∧ e.on ≠ iy := by
  simp only [ipOne, Bool.or_eq_true, Bool.and_eq_true, List.all_eq_true, Option.isNone_iff_eq_none, Option.isSome_iff_exists, List.mem_range, List.any_eq_true, beq_iff_eq, Bool.not_eq_true'] at h
  rcases h with (h | h) | ⟨h1, h2⟩
  · exact absurd (Nat.eq_of_beq_eq_true h) n1
  · exact absurd (Nat.eq_of_beq_eq_true h) n2
  · refine ⟨?_, fun e he hb => ?_⟩
    · rcases h1 with h1 | ⟨⟨⟨q1, q2⟩, q3⟩, q4⟩
      · exact Or.inl h1
      · refine Or.inr ⟨q1, q2, q3, fun k hk => ?_⟩
        rcases q4 k hk with ((q | q) | ⟨e, he, hb, ho⟩) | q
        · exact Or.inl (Nat.eq_of_beq_eq_true q)
        · exact Or.inr (Or.inl q)
        · exact Or.inr (Or.inr (Or.inl ⟨e, by simpa using he, hb, ho⟩))
        · exact Or.inr (Or.inr (Or.inr q))
    · rcases h2 e (by simpa using he) with q | ⟨q1, q2⟩
      · rw [hb] at q; cases q
      · exact ⟨by simpa using q1, by simpa using q2⟩
theorem ip_any {P : Program} {ops : Array Oper} {ix iy : Nat} (hxy : ix < iy) (hy : iy < ops.size) (hT : ipT ops ix iy ops.size = true) (hns : Region.noSelect ops = true) (hsx : isStore (ops.getD ix default) = true) (hsy : isStore (ops.getD iy default) = true)
    {B : Nat → Prop} {w0 : World} {call : Fn} (hc : CallOk P B w0 call) {ts' tsP : Tmps} {h' hP : AH} {Q : Exit → Act → World → Prop} (hQp : ∀ c a w, ¬ Q (.panic c) a w) : ∀ (n : Nat) (R : List Nat), R.length = n → ∀ (listed : Array Bool) (G : Gh) (h : AH) (w : World) (a : Act) (ts : Tmps),
    VRs G ts a.tmps.toList → WR B w0 G h w → a.defers = D → R.Pairwise (· < ·) → listed.size = ops.size → (∀ i, i ∈ R ↔ i < ops.size ∧ i ≠ ix ∧ i ≠ iy ∧ listed.getD i false = false) → listed.getD ix false = false → listed.getD iy false = false → Closed ops listed →
    runS P ops call (R.map fun i => ops.getD i default) ts h = some (tsP, hP) → (∀ G' a' w', VRs G' tsP a'.tmps.toList → WR B w0 G' hP w' → a'.defers = D → Pair D P (ops.getD ix default) (ops.getD iy default) B w0 G' ts' h' a' w') →
    (∀ a' w', Sim D B w0 G ts' h' a' w' → Q .normal a' w') → wpAny P .any ops Q (n + 2) listed a w := by
  intro n
  induction n with
  | zero =>
    intro R hlen listed G h w a ts h1 h2 hd hp hsz hrem hlx hly hcl h3 hpair hQ
    have hnil : R = [] := List.eq_nil_of_length_eq_zero hlen
    subst hnil
    simp only [List.map_nil, runS, Option.some.injEq, Prod.mk.injEq] at h3
    obtain ⟨rfl, rfl⟩ := h3
    refine ip_end hxy hy hT hsx hsy hsz hlx hly (fun i hi n1 n2 => ?_) (hpair G a w h1 h2 hd) hQ
    cases hl : listed.getD i false with
    | true => rfl
    | false => have := (hrem i).2 ⟨hi, n1, n2, hl⟩
               cases this
  | succ n ih =>
    intro R hlen listed G h w a ts h1 h2 hd hp hsz hrem hlx hly hcl h3 hpair hQ
    cases R with
    | nil => cases hlen
    | cons i0 R =>
      obtain ⟨hi0, n1, n2, hun0⟩ := (hrem i0).1 (List.mem_cons_self ..)
      have ho0 : ops[i0]? = some (ops.getD i0 default) := by simp [hi0]
      have hin0 : i0 ∈ Region.ready .any ops listed := by
        refine ready_of hsz hi0 hun0 (ipT_spec hT i0 hi0).2.2 fun j hj o ho ⟨e, he, hb, hon⟩ => ?_
        have hoe : o = ops.getD i0 default := Option.some.inj (ho.symm.trans ho0)
        subst hoe
        obtain ⟨e1, e2⟩ := (ipOne_spec (ipT_spec hT i0 hi0).1 n1 n2).2 e he hb
        cases hle : listed.getD j false with
        | true => rfl
        | false =>
          have hm := (hrem j).2 ⟨by omega, by rw [← hon]; exact e1, by rw [← hon]; exact e2, hle⟩
          rcases List.mem_cons.1 hm with q | q
          · omega
          · have := (List.pairwise_cons.1 hp).1 _ q; omega
      by_cases hb : ∃ j, j ∈ i0 :: R ∧ predT ops 12 j ix = true ∧ predT ops 12 j iy = true
      · -- neither store is ready
        obtain ⟨jb, hjb, hbx, hby⟩ := hb
        have hjbun := ((hrem jb).1 hjb).2.2.2
        have nx : ∀ k, predT ops 12 jb k = true → k ∉ Region.ready .any ops listed := by
          intro k hpk hk
          obtain ⟨_, o, ho, hall⟩ := mem_ready.1 hk
          have := predT_spec hcl 12 jb k o hpk ho hall
          rw [hjbun] at this; cases this
        constructor
        · intro h0; rw [h0] at hin0; cases hin0
        · intro j hj
          obtain ⟨hl, o, ho, hall⟩ := mem_ready.1 hj
          have hlt : j < ops.size := (Array.getElem?_eq_some_iff.1 ho).1
          have hun : listed.getD j false = false := by simp [hsz, hlt] at hl ⊢; exact hl
          have m1 : j ≠ ix := fun e => nx ix hbx (e ▸ hj)
          have m2 : j ≠ iy := fun e => nx iy hby (e ▸ hj)
          have hjm : j ∈ i0 :: R := (hrem j).2 ⟨hlt, m1, m2, hun⟩
          obtain ⟨pre, post, hR⟩ := List.append_of_mem hjm
          have hoj : ops.getD j default = o := by
            have := ho
            simp [hlt] at this
            simp [hlt, this]
          rw [hR] at hp h3 hlen hrem
          have hpw := List.pairwise_append.1 hp
          have hcomm : ∀ x ∈ pre.map (fun i => ops.getD i default), commT ops x o = true := by
            intro x hx
            obtain ⟨i, hi, rfl⟩ := List.mem_map.1 hx
            have hij : i < j := hpw.2.2 i hi j (List.mem_cons_self ..)
            have him := (hrem i).1 (List.mem_append_left _ hi)
            have hpp := (ipT_spec hT j hlt).2.1
            rcases hpp with q | q | q
            · exact absurd q m1
            · exact absurd q m2
            · rcases ipPairs_spec q i hij him.2.1 him.2.2.1 with h0 | h0
              · rw [hoj] at h0; exact h0
              · have hli := predT_spec hcl 12 i j o h0 ho hall
                rw [him.2.2.2] at hli; cases hli
          rw [List.map_append, List.map_cons, hoj] at h3
          have h4 := bubble _ ts h (tsP, hP) hcomm h3
          obtain ⟨st, z, k1, k2, k3⟩ := runS_cons h4
          have hjs : j < listed.size := by rw [hsz]; exact hlt
          have hstep := step_ok (Q := Q) k1 hc h1 h2 hd (ts' := z.1) (h' := z.2) k2 (K := wpAny P .any ops Q (n + 2) (listed.setIfInBounds j true)) (by
            rintro a' w' ⟨G', g1, g2, g3, g4⟩
            refine ih (pre ++ post) (by simp at hlen ⊢; omega) _ G' z.2 w' a' z.1 g2 g3 g4 ?_ (by simpa using hsz) ?_ (by rw [set_get hjs, if_neg (Ne.symm m1)]; exact hlx) (by rw [set_get hjs, if_neg (Ne.symm m2)]; exact hly) ?_ (by rw [List.map_append]; exact k3) hpair (fun a2 w2 s => hQ a2 w2 (s.le g1))
            · exact List.pairwise_append.2 ⟨hpw.1, (List.pairwise_cons.1 hpw.2.1).2, fun x hx y hy => hpw.2.2 x hx y (List.mem_cons_of_mem _ hy)⟩
            · intro i
              rw [set_get hjs]
              by_cases hij : i = j
              · subst hij
                rw [if_pos rfl]
                constructor
                · intro hm
                  rcases List.mem_append.1 hm with h0 | h0
                  · have := hpw.2.2 i h0 i (List.mem_cons_self ..); omega
                  · have := (List.pairwise_cons.1 hpw.2.1).1 i h0; omega
                · rintro ⟨_, _, _, h0⟩; cases h0
              · rw [if_neg hij, ← hrem i]
                simp only [List.mem_append, List.mem_cons, hij, false_or]
            · intro i oi hoi hli e he hbd
              rw [set_get hjs] at hli ⊢
              split
              · rfl
              · by_cases hij : i = j
                · subst hij
                  have : oi = o := Option.some.inj (hoi.symm.trans ho)
                  subst this
                  exact hall e he hbd
                · rw [if_neg hij] at hli
                  exact hcl i oi hoi hli e he hbd)
          unfold wpOp
          simp only [ho]
          exact hstep
      · -- the first that is left may be done at any time
        rcases (ipOne_spec (ipT_spec hT i0 hi0).1 n1 n2).1 with q | ⟨hl1, hl2, ⟨d, hl3⟩, hl4⟩
        · exact absurd ⟨i0, List.mem_cons_self .., q⟩ hb
        · obtain ⟨st, z, k1, k2, k3⟩ := runS_cons h3
          obtain ⟨_, _, ho00, hall0⟩ := mem_ready.1 hin0
          have k1' := k1
          unfold kStep at k1'
          split at k1'
          · cases k1'
          · rename_i k hk
            rw [hl2] at k1'
            dsimp only at k1'
            rw [hl3] at k1'
            dsimp only at k1'
            simp only [Option.some.injEq] at k1'; subst k1'
            simp only [sDo, kDo] at k2
            split at k2
            · cases k2
            · rename_i v hh hv
              simp only [kEnd, Option.some.injEq] at k2; subst k2
              have hhe : hh = h := (cls_sil hk (late_cls hl1)).rds call ts h v hh hv
              subst hhe
              obtain ⟨u, hu1, hu2⟩ := late_ok (d := (ops.getD i0 default).dst) (t := (ops.getD i0 default).type) (pos := (ops.getD i0 default).pos) (af := (ops.getD i0 default).after) (g := (ops.getD i0 default).guard) hk hl1 h1 hv
              have hi0s : i0 < listed.size := by rw [hsz]; exact hi0
              have hyl : Yields P ops (ops.getD i0 default) u a := by
                left
                refine ⟨by unfold Region.wanted; rw [hl2], fun w => ?_⟩
                exact hu1 w
              refine wpAny_first (v := u) ho0 (Region.noSelect_spec hns) (fun c a w hq => absurd hq (hQp c _ w)) (n + 2) listed a w ?_ hin0 hyl ?_
              · intro j oj hj hne hunj hno
                have hjlt : j < ops.size := (Array.getElem?_eq_some_iff.1 hj).1
                have hoje : ops.getD j default = oj := by
                  have := hj
                  simp [hjlt] at this
                  simp [hjlt, this]
                rcases hl4 j hjlt with q | q | ⟨e, he, hbd, hon⟩ | q
                · exact absurd q hne
                · have := predT_spec hcl 12 j i0 _ q ho00 hall0
                  simp [hsz, hjlt] at hunj this
                  rw [hunj] at this; cases this
                · rw [hoje] at he; exact absurd hon (hno e he hbd)
                · rw [hoje] at q; exact q
              · rw [hl3]
                have hpw := List.pairwise_cons.1 hp
                refine ih R (by simpa using hlen) _ G hh w (a.put (some d) u) (upd ts v d) (VRs_upd h1 hu2 d) h2 hd hpw.2 (by simpa using hsz) ?_ (by rw [set_get hi0s, if_neg (Ne.symm n1)]; exact hlx) (by rw [set_get hi0s, if_neg (Ne.symm n2)]; exact hly) ?_ k3 hpair hQ
                · intro i
                  rw [set_get hi0s]
                  by_cases hij : i = i0
                  · subst hij
                    rw [if_pos rfl]
                    constructor
                    · intro hm; have := hpw.1 i hm; omega
                    · rintro ⟨_, _, _, h0⟩; cases h0
                  · rw [if_neg hij, ← hrem i]
                    simp only [List.mem_cons, hij, false_or]
                · intro i oi hoi hli e he hbd
                  rw [set_get hi0s] at hli ⊢
                  split
                  · rfl
                  · by_cases hij : i = i0
                    · subst hij
                      have : oi = ops.getD i default := Option.some.inj (hoi.symm.trans ho0)
                      subst this
                      obtain ⟨_, o1, ho1, hall1⟩ := mem_ready.1 hin0
                      have : o1 = ops.getD i default := Option.some.inj (ho1.symm.trans ho0)
                      subst this
                      exact hall1 e he hbd
                    · rw [if_neg hij] at hli
                      exact hcl i oi hoi hli e he hbd
theorem runHs_runS {P : Program} {ops : Array Oper} {call : Fn} : ∀ {l : List Nat} {sts : List KS}, (l.mapM fun j => kStep false P ops (ops.getD j default)) = some sts → ∀ {ts ts1 : Tmps} {h h1 : AH} {hs : List AH}, runHs call sts ts h = some (ts1, hs) → hs[sts.length]? = some h1 → runS P ops call (l.map fun i => ops.getD i default) ts h = some (ts1, h1)
  | [], sts, hm, ts, ts1, h, h1, hs, e1, e2 => by
    simp at hm; subst hm
    simp only [runHs, Option.some.injEq, Prod.mk.injEq] at e1
    obtain ⟨rfl, rfl⟩ := e1
    simp at e2; subst e2; rfl
  | i :: l, sts, hm, ts, ts1, h, h1, hs, e1, e2 => by
    simp only [List.mapM_cons, Option.bind_eq_bind, Option.bind_eq_some_iff, Option.pure_def, Option.some.injEq] at hm
    obtain ⟨st, hst, rest, hrest, rfl⟩ := hm
    simp only [runHs] at e1
    split at e1
    · cases e1
    · rename_i t2 h2 q1
      split at e1
      · cases e1
      · rename_i t3 hs3 q2
        simp only [Option.some.injEq, Prod.mk.injEq] at e1
        obtain ⟨rfl, rfl⟩ := e1
        simp only [List.map_cons]
        exact runS_of hst q1 (runHs_runS hrest q2 (by simpa using e2))
theorem beq_dec' (m n : Nat) : Nat.beq m n = decide (m = n) := by
  by_cases h : m = n
  · subst h; simp [Nat.beq_refl]
  · have : Nat.beq m n = false := by
      cases e : Nat.beq m n with
      | false => rfl
      | true => exact absurd (Nat.eq_of_beq_eq_true e) h
    rw [this]; simp [h]
theorem filter_one {i : Nat} : ∀ {n : Nat}, i < n → ((List.range n).filter fun j => !(Nat.beq j i)).length + 1 = n
  | 0, h => by omega
  | n + 1, h => by
    rw [List.range_succ, List.filter_append, List.length_append]
    by_cases e : i = n
    · subst e
      have h1 : (List.range i).filter (fun j => !(Nat.beq j i)) = List.range i := by
        rw [List.filter_eq_self]
        intro j hj
        have := List.mem_range.1 hj
        rw [beq_dec']; simp; omega
      rw [h1]; simp [Nat.beq_refl]
    · have := filter_one (i := i) (n := n) (by omega)
      have h2 : Nat.beq n i = false := by rw [beq_dec']; simp; omega
      simp [h2]; omega
theorem filter_two {ix iy n : Nat} (hx : ix < n) (hy : iy < n) (hne : ix ≠ iy) : ((List.range n).filter fun j => !(Nat.beq j ix || Nat.beq j iy)).length + 2 = n := by
  have h1 : ((List.range n).filter fun j => !(Nat.beq j ix || Nat.beq j iy)) = ((List.range n).filter fun j => !(Nat.beq j ix)).filter fun j => !(Nat.beq j iy) := by
    rw [List.filter_filter]
    congr 1; funext j; cases Nat.beq j ix <;> cases Nat.beq j iy <;> rfl
  have h2 := filter_one hx
  have h3 : (((List.range n).filter fun j => !(Nat.beq j ix)).filter fun j => !(Nat.beq j iy)).length + 1 = ((List.range n).filter fun j => !(Nat.beq j ix)).length := by
    have hnd : ((List.range n).filter fun j => !(Nat.beq j ix)).Nodup := (List.nodup_range).filter _
    have hm : iy ∈ ((List.range n).filter fun j => !(Nat.beq j ix)) := by
      refine List.mem_filter.2 ⟨List.mem_range.2 hy, ?_⟩
      rw [beq_dec']; simp; omega
    generalize ((List.range n).filter fun j => !(Nat.beq j ix)) = l at hnd hm
    induction l with
    | nil => cases hm
    | cons a l ih =>
      by_cases e : a = iy
      · subst e
        have hna := (List.nodup_cons.1 hnd).1
        have h4 : l.filter (fun j => !(Nat.beq j a)) = l := by
          rw [List.filter_eq_self]
          intro j hj
          have : j ≠ a := fun q => hna (q ▸ hj)
          rw [beq_dec']; simpa using this
        simp [Nat.beq_refl, h4]
      · have hm' : iy ∈ l := by
          rcases List.mem_cons.1 hm with q | q
          · exact absurd q.symm e
          · exact q
        have := ih (List.nodup_cons.1 hnd).2 hm'
        have h5 : Nat.beq a iy = false := by rw [beq_dec']; simpa using e
        simp [h5]; omega
  rw [h1]; omega
theorem ip_ok {P : Program} {ops : Array Oper} {k : KR} (hk : cIp P ops = some k) {call : Fn} {B : Nat → Prop} {w0 w : World} (hc : CallOk P B w0 call) {Q : Exit → Act → World → Prop} {G : Gh} {h h' : AH} {a : Act} {ts ts' : Tmps} {id : Nat}
    (h1 : VRs G ts a.tmps.toList) (h2 : WR B w0 G h w) (hd : a.defers = D) (h3 : k call ts h = some (ts', h')) (hQp : ∀ c a w, ¬ Q (.panic c) a w) (hQ : ∀ a' w', Sim D B w0 G ts' h' a' w' → Q .normal a' w') : (Code.region id ops true).wp P Q a w := by
  unfold cIp at hk
  split at hk
  · rename_i iy ix rest hst
    have hmem : ∀ j, j ∈ (stores ops).reverse → j < ops.size ∧ isStore (ops.getD j default) = true := by
      intro j hj
      have hj' : j ∈ stores ops := by simpa using hj
      unfold stores at hj'
      obtain ⟨q1, q2⟩ := List.mem_filter.1 hj'
      exact ⟨List.mem_range.1 q1, q2⟩
    obtain ⟨hy, hsy⟩ := hmem iy (by rw [hst]; exact List.mem_cons_self ..)
    obtain ⟨hx, hsx⟩ := hmem ix (by rw [hst]; exact List.mem_cons_of_mem _ (List.mem_cons_self ..))
    have hxy : ix < iy := by
      have hpw : (stores ops).Pairwise (· < ·) := (List.pairwise_lt_range).filter _
      have hrev : (stores ops).reverse.Pairwise (fun x y => y < x) := List.pairwise_reverse.2 hpw
      rw [hst] at hrev
      exact (List.pairwise_cons.1 hrev).1 ix (List.mem_cons_self ..)
    split at hk
    · cases hk
    · rename_i hT
      simp only [Bool.and_eq_true] at hT
      obtain ⟨⟨hT1, hT2⟩, hT3⟩ := hT
      split at hk
      · rename_i tx ax vx ky sts hopx hopy hsts
        split at hk
        · rename_i s ka kv hs hka hkv
          simp only [Option.some.injEq] at hk; subst hk
          simp only [kIp] at h3
          split at h3
          · cases h3
          · rename_i ts1 hs1 e1
            split at h3
            · cases h3
            · rename_i hh1 e2
              split at h3
              · cases h3
              · rename_i ts2 h2' e3
                split at h3
                · cases h3
                · rename_i vy h3' e4
                  simp only [Option.some.injEq, Prod.mk.injEq] at h3
                  obtain ⟨rfl, rfl⟩ := h3
                  have hrun := runHs_runS hsts e1 e2
                  refine wp_region_any hT1 ?_
                  have hlenR : ((List.range ops.size).filter fun j => !(Nat.beq j ix || Nat.beq j iy)).length + 2 = ops.size := filter_two hx hy (by omega)
                  suffices hgo : wpAny P .any ops Q (((List.range ops.size).filter fun j => !(Nat.beq j ix || Nat.beq j iy)).length + 2) (Array.replicate ops.size false) a { w with drawn := w.drawn + 1 } by
                    rw [hlenR] at hgo; exact hgo
                  refine ip_any hxy hy hT3 hT2 hsx hsy hc hQp _ _ rfl _ G h _ a ts h1 h2.drew hd ((List.pairwise_lt_range).filter _) (by simp) ?_ ?_ ?_ ?_ hrun ?_ hQ
                  · intro i
                    simp only [List.mem_filter, List.mem_range, Bool.not_eq_true', Bool.or_eq_false_iff]
                    constructor
                    · rintro ⟨q1, q2, q3⟩
                      refine ⟨q1, fun e => ?_, fun e => ?_, by simp [q1]⟩
                      · subst e; rw [Nat.beq_refl] at q2; cases q2
                      · subst e; rw [Nat.beq_refl] at q3; cases q3
                    · rintro ⟨q1, q2, q3, _⟩
                      exact ⟨q1, by rw [beq_dec']; simpa using q2, by rw [beq_dec']; simpa using q3⟩
                  · simp [hx]
                  · simp [hy]
                  · intro j o ho hl
                    have hlt : j < ops.size := (Array.getElem?_eq_some_iff.1 ho).1
                    simp [hlt] at hl
                  · intro G' a' w' g1 g2 g3
                    generalize hox : ops.getD ix default = ox at hopx hsx
                    generalize hoy : ops.getD iy default = oy at hopy hsy
                    obtain ⟨dx, opx, tyx, px, afx, gx⟩ := ox
                    obtain ⟨dy, opy, tyy, py, afy, gy⟩ := oy
                    simp only at hopx hopy
                    subst hopx
                    obtain ⟨b, X, G1, x1, x2, x3, x4, x5, x6⟩ := elem_any (d := dx) (t := tyx) (pos := px) (af := afx) (g := gx) hka hkv hs g1 g2 e3
                    have hyst : ∃ t2 x2 y2 n2 kx2 ky2, opy = .store t2 x2 y2 ∧ sizeT P t2 = some n2 ∧ cX x2 = some kx2 ∧ cX y2 = some ky2 ∧ ky = oStore n2 kx2 ky2 := by
                      simp only [isStore, Bool.and_eq_true] at hsy
                      have hs1 := hsy.1.1
                      cases opy with
                      | store t2 x2 y2 =>
                        simp only [cOp] at hopy
                        split at hopy
                        · rename_i n2 kx2 ky2 q1 q2 q3
                          simp only [Option.some.injEq] at hopy
                          exact ⟨t2, x2, y2, n2, kx2, ky2, rfl, q1, q2, q3, hopy.symm⟩
                        · cases hopy
                      | _ => simp at hs1
                    obtain ⟨t2, x2', y2', n2, kx2, ky2, rfl, z1, z2, z3, rfl⟩ := hyst
                    obtain ⟨b2, Y, i, y1, y2, y3⟩ := store_any (d := dy) (t := tyy) (pos := py) (af := afy) (g := gy) z2 z3 z1 x5 x6 e4
                    have hne : b ≠ b2 := by
                      intro e
                      rw [x2] at y1
                      exact x1 i (by rw [e]; exact y1)
                    refine ⟨w'.setRow b X, w'.setRow b2 Y, (w'.setRow b X).setRow b2 Y, x4 w' rfl, y2 _ rfl, y2 w' (setRow_other w' b b2 X (Ne.symm hne)).symm, ?_, ⟨G1, x3, x5, y3, g3⟩⟩
                    rw [x4 (w'.setRow b2 Y) (setRow_other w' b2 b Y hne), setRow_comm w' (Ne.symm hne)]
        · cases hk
      · cases hk
  · cases hk
end Go.Proofs.Ytadohhhjpbhhoaa.EvA
