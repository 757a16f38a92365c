/- An evaluator of the program's code over abstract values and an abstract heap: regions whose order is drawn; code. -/
import Derived.Test.YtadohhhjpbhhoaaEvV
namespace Go.Proofs.Ytadohhhjpbhhoaa.EvA
open Go.RowKit
set_option linter.unusedVariables false
set_option linter.unusedSimpArgs false
variable {D : List Deferred} {z : Bool}
noncomputable def putT (ts : Tmps) : Option Nat → AV → Tmps
  | none, _ => ts
  | some d, v => upd ts v d
theorem kStep_val {P : Program} {ops : Array Oper} {o : Oper} {st : Fn → Tmps → AH → Option (Tmps × AH)} (hs : kStep z P ops o = some st) : ∃ kv, kVal z P ops o = some kv ∧ ∀ call ts h, st call ts h = (kv call ts h).map fun x => (putT ts o.dst x.1, x.2) := by
  unfold kStep at hs
  unfold kVal
  split at hs
  · cases hs
  · rename_i a ha
    try rw [ha]
    split at hs
    · rename_i hg
      try rw [hg]
      refine ⟨a, rfl, fun call ts h => ?_⟩
      split at hs
      · rename_i d hd
        simp only [Option.some.injEq] at hs; subst hs
        rw [hd]
        simp only [sDo, kDo, putT]
        cases a call ts h with
        | none => rfl
        | some x => rfl
      · rename_i hd
        simp only [Option.some.injEq] at hs; subst hs
        rw [hd]
        simp only [sDo0, kDo0, putT]
        cases a call ts h with
        | none => rfl
        | some x => rfl
    · rename_i j want hg
      try rw [hg]
      split at hs
      · rename_i t d h4 hd
        simp only [Option.some.injEq] at hs; subst hs
        try simp only [h4, hd]
        refine ⟨_, rfl, fun call ts h => ?_⟩
        simp only [sIf, kIf, gVal, putT]
        cases hn : nth ts t with
        | bool b =>
          dsimp only
          by_cases hb : b = want
          · subst hb
            simp only [BEq.rfl, if_true]
            cases a call ts h with
            | none => rfl
            | some x => rfl
          · have : (b == want) = false := by simpa using hb
            rw [this, if_neg hb]; rfl
        | _ => rfl
      · cases hs
theorem looks_ops {ops : Array Oper} {o : Oper} {d : Nat} (h : d ∉ looks ops o) : d ∉ o.op.operands.toList.filterMap fun | .tmp t => some t | _ => none := fun hm => h (List.mem_append_left _ hm)
theorem kVal_upd {P : Program} {ops : Array Oper} {o : Oper} {kv : KO} (hk : kVal z P ops o = some kv) {d : Nat} (hd : d ∉ looks ops o) (call : Fn) (ts : Tmps) (v : AV) (h : AH) : kv call (upd ts v d) h = kv call ts h := by
  unfold kVal at hk
  split at hk
  · cases hk
  · rename_i a ha
    have ho := cOpZ_alike ha (alike_upd (ts := ts) (v := v) (looks_ops hd)) call h
    split at hk
    · simp only [Option.some.injEq] at hk; subst hk; exact ho
    · rename_i j want hg
      split at hk
      · rename_i t e h4 he
        simp only [Option.some.injEq] at hk; subst hk
        have ht : t ≠ d := by
          rintro rfl
          refine hd (List.mem_append_right _ ?_)
          simp only [hg, h4]; simp
        simp only [gVal, nth_upd_ne ht]
        split
        · rw [ho]
        · rfl
      · cases hk
theorem kVal_put {P : Program} {ops : Array Oper} {o : Oper} {kv : KO} (hk : kVal z P ops o = some kv) {d : Option Nat} (hd : ∀ e, d = some e → e ∉ looks ops o) (call : Fn) (ts : Tmps) (v : AV) (h : AH) : kv call (putT ts d v) h = kv call ts h := by
  cases d with
  | none => rfl
  | some e => exact kVal_upd hk (hd e rfl) call ts v h
theorem kVal_sil {P : Program} {ops : Array Oper} {o : Oper} {kv : KO} (hk : kVal z P ops o = some kv) (hc : clsZ z o.op = 0) : Sil kv := by
  unfold kVal at hk
  split at hk
  · cases hk
  · rename_i a ha
    have hs := clsZ_sil ha hc
    split at hk
    · simp only [Option.some.injEq] at hk; subst hk; exact hs
    · split at hk
      · simp only [Option.some.injEq] at hk; subst hk
        intro c1 c2 ts h1 h2
        dsimp only [gVal]
        split
        · split
          · exact hs c1 c2 ts h1 h2
          · rfl
        · rfl
      · cases hk
theorem kVal_rds {P : Program} {ops : Array Oper} {o : Oper} {kv : KO} (hk : kVal z P ops o = some kv) (hc : clsZ z o.op = 1) : Rds kv ∧ Stays kv := by
  unfold kVal at hk
  split at hk
  · cases hk
  · rename_i a ha
    obtain ⟨hs, ht⟩ := clsZ_rds ha hc
    split at hk
    · simp only [Option.some.injEq] at hk; subst hk; exact ⟨hs, ht⟩
    · split at hk
      · simp only [Option.some.injEq] at hk; subst hk
        constructor
        · intro call ts h v h' e
          dsimp only [gVal] at e
          split at e
          · split at e
            · exact hs call ts h v h' e
            · simp at e; exact e.2.symm
          · simp at e; exact e.2.symm
        · intro call ts h v n s e
          dsimp only [gVal] at e ⊢
          split
          · rename_i hn
            simp only [hn] at e
            split
            · rename_i hb; simp only [hb, if_true] at e; exact ht call ts h v n s e
            · rename_i hb; simp only [hb, if_false] at e; simp at e; rw [e]
          · rename_i hn
            split at e
            · rename_i hn2; exact absurd hn2 (hn _)
            · simp at e; rw [e]
      · cases hk
theorem kVal_row {P : Program} {ops : Array Oper} {o : Oper} {kv : KO} (hk : kVal false P ops o = some kv) (hc : cls o.op = 3) (call : Fn) (ts : Tmps) (h : AH) {v : AV} {h' : AH} (e : kv call ts h = some (v, h')) :
    h' = h ∨ ∃ n s, h' = (h.newRow n s).2 := by
  unfold kVal at hk
  split at hk
  · cases hk
  · rename_i a ha
    obtain ⟨n, s, f, hf⟩ := cls_row ha hc
    have key : ∀ v h', a call ts h = some (v, h') → ∃ n s, h' = (h.newRow n s).2 := by
      intro v h' e
      rw [hf] at e
      obtain ⟨cs, _, h2⟩ := Option.map_eq_some_iff.1 e
      simp only [Prod.mk.injEq] at h2
      exact ⟨_, _, h2.2.symm⟩
    split at hk
    · simp only [Option.some.injEq] at hk; subst hk; exact Or.inr (key _ _ e)
    · split at hk
      · simp only [Option.some.injEq] at hk; subst hk
        dsimp only [gVal] at e
        split at e
        · split at e
          · exact Or.inr (key _ _ e)
          · simp at e; exact Or.inl e.2.symm
        · simp at e; exact Or.inl e.2.symm
      · cases hk
theorem apartT_spec {ops : Array Oper} {x y : Oper} (h : apartT ops x y = true) : (∀ d, x.dst = some d → d ∉ looks ops y) ∧ (∀ d, x.dst = some d → y.dst ≠ some d) ∧ (∀ d, y.dst = some d → d ∉ looks ops x) := by
  refine ⟨fun d hd => ?_, fun d hd => ?_, fun d hd => ?_⟩ <;> simp [apartT, hd] at h
  · exact h.1.1
  · exact h.1.2
  · exact h.2
theorem putT_comm (ts : Tmps) {x y : Option Nat} (v u : AV) (h : ∀ d, x = some d → y ≠ some d) : putT (putT ts x v) y u = putT (putT ts y u) x v := by
  cases x with
  | none => rfl
  | some d => cases y with
    | none => rfl
    | some e => exact upd_comm ts fun he => h d rfl (he ▸ rfl)
/-- Two steps change places. -/
theorem swap {P : Program} {ops : Array Oper} {x y : Oper} (hc : commT ops x y = true) {sx sy : Fn → Tmps → AH → Option (Tmps × AH)} (hx : kStep false P ops x = some sx) (hy : kStep false P ops y = some sy) {call : Fn} {ts : Tmps} {h : AH} {r : Tmps × AH}
    (e : (sx call ts h).bind (fun z => sy call z.1 z.2) = some r) : (sy call ts h).bind (fun z => sx call z.1 z.2) = some r := by
  obtain ⟨kx, kx1, kx2⟩ := kStep_val hx
  obtain ⟨ky, ky1, ky2⟩ := kStep_val hy
  simp only [commT, Bool.and_eq_true, Bool.or_eq_true, beq_iff_eq] at hc
  obtain ⟨hap, hcl⟩ := hc
  obtain ⟨a1, a2, a3⟩ := apartT_spec hap
  simp only [kx2, ky2] at e ⊢
  obtain ⟨z1, e1, e2⟩ := Option.bind_eq_some_iff.1 e
  obtain ⟨⟨v, h1⟩, e3, rfl⟩ := Option.map_eq_some_iff.1 e1
  obtain ⟨⟨u, h2⟩, e4, rfl⟩ := Option.map_eq_some_iff.1 e2
  simp only at e4
  rw [kVal_put ky1 a1] at e4
  have fin : ∀ g, ky call ts h = some (u, g) → kx call ts g = some (v, h2) → ((ky call ts h).map fun x => (putT ts y.dst x.1, x.2)).bind (fun z => (kx call z.1 z.2).map fun w => (putT z.1 x.dst w.1, w.2)) = some (putT (putT ts x.dst v) y.dst u, h2) := by
    intro g f1 f2
    rw [f1]
    simp only [Option.map_some, Option.bind_some]
    rw [kVal_put kx1 a3, f2]
    simp only [Option.map_some]
    rw [putT_comm ts v u a2]
  rcases hcl with (hcl | hcl) | ⟨hcx, hcy⟩
  · have hs := kVal_sil kx1 hcl
    have hh := hs.rds call ts h v h1 e3
    subst hh
    refine fin h2 e4 ?_
    rw [hs call call ts h1 h2, e3]; rfl
  · have hs := kVal_sil ky1 hcl
    have hh := hs.rds call ts h1 u h2 e4
    subst hh
    refine fin h ?_ e3
    rw [hs call call ts h2 h, e4]; rfl
  · obtain ⟨hr, hst⟩ := kVal_rds kx1 hcx
    have hh := hr call ts h v h1 e3
    subst hh
    rcases hcy with hcy | hcy
    · obtain ⟨hr2, _⟩ := kVal_rds ky1 hcy
      have hh := hr2 call ts h1 u h2 e4
      subst hh
      exact fin h2 e4 e3
    · refine fin h2 e4 ?_
      rcases kVal_row ky1 hcy call ts h1 e4 with rfl | ⟨n, s, rfl⟩
      · exact e3
      · exact hst call ts h1 v n s e3
theorem runS_cons {P : Program} {ops : Array Oper} {call : Fn} {o : Oper} {l : List Oper} {ts : Tmps} {h : AH} {r : Tmps × AH} (e : runS P ops call (o :: l) ts h = some r) : ∃ st x, kStep false P ops o = some st ∧ st call ts h = some x ∧ runS P ops call l x.1 x.2 = some r := by
  simp only [runS] at e
  split at e
  · cases e
  · rename_i st hs
    obtain ⟨x, h1, h2⟩ := Option.bind_eq_some_iff.1 e
    exact ⟨st, x, hs, h1, h2⟩
theorem runS_of {P : Program} {ops : Array Oper} {call : Fn} {o : Oper} {l : List Oper} {ts : Tmps} {h : AH} {r x : Tmps × AH} {st : Fn → Tmps → AH → Option (Tmps × AH)} (h1 : kStep false P ops o = some st) (h2 : st call ts h = some x) (h3 : runS P ops call l x.1 x.2 = some r) : runS P ops call (o :: l) ts h = some r := by
  simp only [runS, h1, h2, Option.bind_some, h3]
/-- A step that may change places with all ahead of it goes first. -/
theorem bubble {P : Program} {ops : Array Oper} {call : Fn} {y : Oper} {post : List Oper} : ∀ (pre : List Oper) (ts : Tmps) (h : AH) (r : Tmps × AH), (∀ x ∈ pre, commT ops x y = true) → runS P ops call (pre ++ y :: post) ts h = some r → runS P ops call (y :: (pre ++ post)) ts h = some r
  | [], ts, h, r, _, e => e
  | x :: pre, ts, h, r, hp, e => by
    obtain ⟨sx, z, h1, h2, h3⟩ := runS_cons e
    have ih := bubble pre z.1 z.2 r (fun q hq => hp q (List.mem_cons_of_mem _ hq)) h3
    obtain ⟨sy, z2, h4, h5, h6⟩ := runS_cons ih
    have hsw := swap (hp x (List.mem_cons_self ..)) h1 h4 (call := call) (ts := ts) (h := h) (r := z2) (by rw [h2]; exact h5)
    obtain ⟨z3, h7, h8⟩ := Option.bind_eq_some_iff.1 hsw
    exact runS_of h4 h7 (runS_of h1 h8 h6)
/-- What is listed has all that must stand ahead of it. -/
def Closed (ops : Array Oper) (listed : Array Bool) : Prop := ∀ j o, ops[j]? = some o → listed.getD j false = true → ∀ e ∈ o.after, Region.binds .any e = true → listed.getD e.on false = true
theorem predT_spec {ops : Array Oper} {listed : Array Bool} (hcl : Closed ops listed) : ∀ (k i j : Nat) (o : Oper), predT ops k i j = true → ops[j]? = some o → (∀ e ∈ o.after, Region.binds .any e = true → listed.getD e.on false = true) → listed.getD i false = true
  | 0, i, j, o, h, _, _ => by simp [predT] at h
  | k + 1, i, j, o, h, ho, hall => by
    simp only [predT, ho, Bool.or_eq_true, List.any_eq_true, Bool.and_eq_true, beq_iff_eq] at h
    rcases h with ⟨e, he, hb, rfl⟩ | ⟨e, he, hb, hp⟩
    · exact hall e (by simpa using he) hb
    · have hl := hall e (by simpa using he) hb
      cases hoe : ops[e.on]? with
      | none => cases k with
        | zero => simp [predT] at hp
        | succ k => simp [predT, hoe] at hp
      | some o2 => exact predT_spec hcl k i e.on o2 hp hoe (hcl e.on o2 hoe hl)
theorem pairsT_spec {ops : Array Oper} {j : Nat} : ∀ {n : Nat}, pairsT ops j n = true → ∀ i, i < n → commT ops (ops.getD i default) (ops.getD j default) = true ∨ predT ops 12 i j = true
  | 0, _, i, hi => by omega
  | n + 1, h, i, hi => by
    simp only [pairsT, Bool.and_eq_true, Bool.or_eq_true] at h
    rcases Nat.lt_succ_iff_lt_or_eq.1 hi with h1 | rfl
    · exact pairsT_spec h.2 i h1
    · exact h.1
theorem freeT_spec {ops : Array Oper} : ∀ {n : Nat}, freeT ops n = true → ∀ j, j < n → pairsT ops j j = true ∧ backT ops j = true
  | 0, _, j, hj => by omega
  | n + 1, h, j, hj => by
    simp only [freeT, Bool.and_eq_true] at h
    rcases Nat.lt_succ_iff_lt_or_eq.1 hj with h1 | rfl
    · exact freeT_spec h.2 j h1
    · exact h.1
theorem set_get {l : Array Bool} {i j : Nat} (hi : i < l.size) (d : Bool) : (l.setIfInBounds i true).getD j d = if j = i then true else l.getD j d := by
  by_cases hij : i = j
  · subst hij; simp [hi]
  · rw [getD_set_ne d hij, if_neg (fun e => hij e.symm)]
theorem any_ok {P : Program} {ops : Array Oper} {call : Fn} {B : Nat → Prop} {w0 : World} (hc : CallOk P B w0 call) (hfree : freeT ops ops.size = true) {Q : Exit → Act → World → Prop} : ∀ (rem : List Nat) (fuel : Nat), rem.length = fuel → ∀ (listed : Array Bool) (G : Gh) (h h' : AH) (w : World) (a : Act) (ts ts' : Tmps),
    VRs G ts a.tmps.toList → WR B w0 G h w → a.defers = D → rem.Pairwise (· < ·) → listed.size = ops.size → (∀ i, i ∈ rem ↔ i < ops.size ∧ listed.getD i false = false) → Closed ops listed →
    runS P ops call (rem.map fun i => ops.getD i default) ts h = some (ts', h') → (∀ a' w', Sim D B w0 G ts' h' a' w' → Q .normal a' w') → wpAny P .any ops Q fuel listed a w := by
  intro rem fuel
  induction fuel generalizing rem with
  | zero =>
    intro hlen listed G h h' w a ts ts' h1 h2 hd hp hsz hrem hcl h3 hQ
    have hnil : rem = [] := List.eq_nil_of_length_eq_zero hlen
    subst hnil
    simp only [List.map_nil, runS, Option.some.injEq, Prod.mk.injEq] at h3
    obtain ⟨rfl, rfl⟩ := h3
    refine ⟨?_, hQ a w ⟨G, Gle.refl G, h1, h2, hd⟩⟩
    cases hr : Region.ready .any ops listed with
    | nil => rfl
    | cons x xs =>
      have hx : x ∈ Region.ready .any ops listed := by rw [hr]; exact List.mem_cons_self ..
      obtain ⟨hl, o, ho, _⟩ := mem_ready.1 hx
      have hlt : x < ops.size := (Array.getElem?_eq_some_iff.1 ho).1
      have : x ∈ ([] : List Nat) := (hrem x).2 ⟨hlt, by simp [hsz, hlt] at hl ⊢; exact hl⟩
      cases this
  | succ fuel ih =>
    intro hlen listed G h h' w a ts ts' h1 h2 hd hp hsz hrem hcl h3 hQ
    constructor
    · intro hr
      exfalso
      cases rem with
      | nil => cases hlen
      | cons i0 rest =>
        obtain ⟨hlt, hun⟩ := (hrem i0).1 (List.mem_cons_self ..)
        have hback := (freeT_spec hfree i0 hlt).2
        have ho : ops[i0]? = some ops[i0] := by simp [hlt]
        have hin : i0 ∈ Region.ready .any ops listed := by
          rw [mem_ready]
          refine ⟨by simp [hsz, hlt] at hun ⊢; exact hun, ops[i0], ho, fun e he hb => ?_⟩
          simp only [backT, ho, List.all_eq_true, Bool.or_eq_true, Bool.not_eq_true', decide_eq_true_eq] at hback
          have hlt2 : e.on < i0 := (hback e (by simpa using he)).resolve_left (by simp [hb])
          cases hle : listed.getD e.on false with
          | true => rfl
          | false =>
            have hm := (hrem e.on).2 ⟨by omega, hle⟩
            rcases List.mem_cons.1 hm with h0 | h0
            · omega
            · have := (List.pairwise_cons.1 hp).1 _ h0; omega
        rw [hr] at hin; cases hin
    · intro j hj
      obtain ⟨hl, o, ho, hall⟩ := mem_ready.1 hj
      have hlt : j < ops.size := (Array.getElem?_eq_some_iff.1 ho).1
      have hun : listed.getD j false = false := by simp [hsz, hlt] at hl ⊢; exact hl
      have hjm : j ∈ rem := (hrem j).2 ⟨hlt, hun⟩
      obtain ⟨pre, post, rfl⟩ := List.append_of_mem hjm
      have hoj : ops.getD j default = o := by
        have := ho
        simp [hlt] at this
        simp [hlt, this]
      have hpw := List.pairwise_append.1 hp
      have hpre : ∀ i ∈ pre, i < j := fun i hi => hpw.2.2 i hi j (List.mem_cons_self ..)
      have hcomm : ∀ x ∈ pre.map (fun i => ops.getD i default), commT ops x o = true := by
        intro x hx
        obtain ⟨i, hi, rfl⟩ := List.mem_map.1 hx
        have hij := hpre i hi
        rcases pairsT_spec (freeT_spec hfree j hlt).1 i hij with h0 | h0
        · rw [hoj] at h0; exact h0
        · have hli := predT_spec hcl 12 i j o h0 ho hall
          have := ((hrem i).1 (List.mem_append_left _ hi)).2
          rw [hli] at this; cases this
      rw [List.map_append, List.map_cons, hoj] at h3
      have h4 := bubble _ ts h (ts', h') hcomm h3
      obtain ⟨st, z, k1, k2, k3⟩ := runS_cons h4
      have hstep := step_ok (Q := Q) k1 hc h1 h2 hd (ts' := z.1) (h' := z.2) k2 (K := wpAny P .any ops Q fuel (listed.setIfInBounds j true)) (by
        rintro a' w' ⟨G', g1, g2, g3, g4⟩
        have hjs : j < listed.size := by rw [hsz]; exact hlt
        refine ih (pre ++ post) (by simp at hlen ⊢; omega) _ G' z.2 h' w' a' z.1 ts' g2 g3 g4 ?_ (by simpa using hsz) ?_ ?_ (by rw [List.map_append]; exact k3) (fun a2 w2 s => hQ a2 w2 (s.le g1))
        · refine List.pairwise_append.2 ⟨hpw.1, (List.pairwise_cons.1 hpw.2.1).2, fun x hx y hy => hpw.2.2 x hx y (List.mem_cons_of_mem _ hy)⟩
        · intro i
          rw [set_get hjs]
          by_cases hij : i = j
          · subst hij
            rw [if_pos rfl]
            constructor
            · intro hm
              rcases List.mem_append.1 hm with h0 | h0
              · have := hpre i h0; omega
              · have := (List.pairwise_cons.1 hpw.2.1).1 i h0; omega
            · rintro ⟨_, h0⟩; cases h0
          · rw [if_neg hij, ← hrem i]
            simp only [List.mem_append, List.mem_cons, hij, false_or]
        · intro i oi hoi hli e he hb
          rw [set_get hjs] at hli ⊢
          split
          · rfl
          · by_cases hij : i = j
            · subst hij
              have : oi = o := Option.some.inj (hoi.symm.trans ho)
              subst this
              exact hall e he hb
            · rw [if_neg hij] at hli
              exact hcl i oi hoi hli e he hb)
      unfold wpOp
      simp only [ho]
      exact hstep
theorem region_ok {P : Program} {ops : Array Oper} {draw : Bool} (hT : drawT P ops draw = true) {call : Fn} {B : Nat → Prop} {w0 w : World} (hc : CallOk P B w0 call) {Q : Exit → Act → World → Prop} {G : Gh} {h h' : AH} {a : Act} {ts ts' : Tmps} {id : Nat}
    (h1 : VRs G ts a.tmps.toList) (h2 : WR B w0 G h w) (hd : a.defers = D) (h3 : runS P ops call ops.toList ts h = some (ts', h')) (hQ : ∀ a' w', Sim D B w0 G ts' h' a' w' → Q .normal a' w') : (Code.region id ops draw).wp P Q a w := by
  cases draw with
  | false =>
    have := runS_ok (Q := Q) hc [] (List.range ops.size) G h h' w a ts ts' h1 h2 hd (fun i hi => by simpa using hi) (by rw [list_range]; exact h3) (fun a' w' s => hQ a' w' s)
    rw [List.append_nil] at this
    exact wp_region this
  | true =>
    simp only [drawT, Bool.not_true, Bool.false_or, Bool.and_eq_true] at hT
    refine wp_region_any hT.1 (any_ok hc hT.2 (List.range ops.size) ops.size (by simp) _ G h h' _ a ts ts' h1 h2.drew hd ?_ (by simp) ?_ ?_ (by rw [list_range]; exact h3) hQ)
    · exact List.pairwise_lt_range
    · intro i
      simp only [List.mem_range]
      constructor
      · intro hi; exact ⟨hi, by simp [hi]⟩
      · intro hi; exact hi.1
    · intro j o ho hl
      have hlt : j < ops.size := (Array.getElem?_eq_some_iff.1 ho).1
      simp [hlt] at hl
end Go.Proofs.Ytadohhhjpbhhoaa.EvA
