/- A quick way to reckon with the evaluator: code and functions; what it says the evaluator says. -/
import Derived.Test.YtadohhhjpbhhoaaEvfC
namespace Go.Proofs.Ytadohhhjpbhhoaa.EvA
set_option linter.unusedVariables false
set_option linter.unusedSimpArgs false
noncomputable def fEnd : FR := fun _ e h => some (e, h)
theorem rEnd {n} : RR n kEnd fEnd := fun c1 c2 _ e h e' h' hr => by
  simp only [fEnd, Option.some.injEq, Prod.mk.injEq] at hr
  obtain ⟨rfl, rfl⟩ := hr; rfl
noncomputable def fDo (s : AV → EV → EV) (o : FO) (rest : FR) : FR := fun c e h => Option.rec (motive := fun _ => Option (EV × AH)) none (fun p => rest c (s p.1 e) p.2) (o c e h)
theorem rDo {n d s o f k g} (hs : RS n d s) (ho : RO n o f) (hk : RR n k g) : RR n (kDo d o k) (fDo s f g) := fun c1 c2 hc e h e' h' hr => by
  unfold fDo at hr
  unfold kDo
  cases hp : f c1 e h with
  | none => rw [hp] at hr; cases hr
  | some p =>
    rw [hp] at hr
    rw [ho c1 c2 hc e h p hp]
    have := hk c1 c2 hc (s p.1 e) p.2 e' h' hr
    dsimp only
    rw [← hs]; exact this
noncomputable def fDo0 (o : FO) (rest : FR) : FR := fun c e h => Option.rec (motive := fun _ => Option (EV × AH)) none (fun p => rest c e p.2) (o c e h)
theorem rDo0 {n o f k g} (ho : RO n o f) (hk : RR n k g) : RR n (kDo0 o k) (fDo0 f g) := fun c1 c2 hc e h e' h' hr => by
  unfold fDo0 at hr
  unfold kDo0
  cases hp : f c1 e h with
  | none => rw [hp] at hr; cases hr
  | some p =>
    rw [hp] at hr
    rw [ho c1 c2 hc e h p hp]
    exact hk c1 c2 hc e p.2 e' h' hr
noncomputable def eqB (a b : Bool) : Bool := Bool.rec (Bool.rec true false b) b a
noncomputable def fIf (g : FX) (want : Bool) (s : AV → EV → EV) (o : FO) (rest : FR) : FR := fun c e h => Option.rec (motive := fun _ => Option (EV × AH)) (rest c (s (.tup []) e) h)
  (fun b => Bool.rec (rest c (s (.tup []) e) h) (Option.rec (motive := fun _ => Option (EV × AH)) none (fun p => rest c (s p.1 e) p.2) (o c e h)) (eqB b want)) (asBool (g e))
theorem rIf {n t d want s o f k g q} (ht : RX n (xT t) g) (hs : RS n d s) (ho : RO n o f) (hk : RR n k q) : RR n (kIf t want d o k) (fIf g want s f q) := fun c1 c2 hc e h e' h' hr => by
  unfold fIf at hr
  unfold kIf
  have hg : nth (tk n e) t = g e := ht e
  have skip : ∀ {e' h'}, q c1 (s (.tup []) e) h = some (e', h') → k c2 (upd (tk n e) (.tup []) d) h = some (tk n e', h') := fun hq => by rw [← hs]; exact hk c1 c2 hc _ _ _ _ hq
  rw [hg]
  cases hb : asBool (g e) with
  | none =>
    rw [hb] at hr
    split
    · rename_i b hv; rw [hv] at hb; cases hb
    · exact skip hr
  | some b =>
    rw [hb] at hr
    rw [asBool_is hb]
    have hr1 : (Bool.rec (q c1 (s (.tup []) e) h) (Option.rec (motive := fun _ => Option (EV × AH)) none (fun p => q c1 (s p.1 e) p.2) (f c1 e h)) (eqB b want) : Option (EV × AH)) = some (e', h') := hr
    dsimp only
    have hbw : eqB b want = (b == want) := by cases b <;> cases want <;> rfl
    rw [hbw] at hr1
    cases hw : (b == want) with
    | false => rw [hw] at hr1; exact skip hr1
    | true =>
      rw [hw] at hr1
      have hr2 : (Option.rec (motive := fun _ => Option (EV × AH)) none (fun p => q c1 (s p.1 e) p.2) (f c1 e h) : Option (EV × AH)) = some (e', h') := hr1
      dsimp only
      cases hp : f c1 e h with
      | none => rw [hp] at hr2; cases hr2
      | some p =>
        rw [hp] at hr2
        rw [ho c1 c2 hc e h p hp]
        dsimp only
        rw [← hs]; exact hk c1 c2 hc _ _ _ _ hr2
/-! reads that may stand elsewhere -/
noncomputable def tDo (s : AV → EV → EV) (o : FO) : FR := fun c e h => fDo s o fEnd c e h
theorem qDo {n d s o f} (hs : RS n d s) (ho : RO n o f) : RR n (sDo d o) (tDo s f) := rDo hs ho rEnd
noncomputable def tDo0 (o : FO) : FR := fun c e h => fDo0 o fEnd c e h
theorem qDo0 {n o f} (ho : RO n o f) : RR n (sDo0 o) (tDo0 f) := rDo0 ho rEnd
noncomputable def tIf (g : FX) (want : Bool) (s : AV → EV → EV) (o : FO) : FR := fun c e h => fIf g want s o fEnd c e h
theorem qIf {n t d want s o f g} (ht : RX n (xT t) g) (hs : RS n d s) (ho : RO n o f) : RR n (sIf t want d o) (tIf g want s f) := rIf ht hs ho rEnd
inductive RLs (n : Nat) : List KS → List FR → Prop where
  | nil : RLs n [] []
  | cons {k f l m} (h : RR n k f) (t : RLs n l m) : RLs n (k :: l) (f :: m)
noncomputable def runF (c : Fn) (l : List FR) : EV → AH → Option (EV × List AH) := List.rec (motive := fun _ => EV → AH → Option (EV × List AH)) (fun e h => some (e, [h])) (fun f _ ih e h => Option.rec (motive := fun _ => Option (EV × List AH)) none (fun p => Option.rec (motive := fun _ => Option (EV × List AH)) none (fun q => some (q.1, h :: q.2)) (ih p.1 p.2)) (f c e h)) l
theorem runF_is {n : Nat} {c1 c2 : Fn} (hc : LeF c1 c2) {l : List KS} {m : List FR} (hl : RLs n l m) : ∀ {e h e' hs}, runF c1 m e h = some (e', hs) → runHs c2 l (tk n e) h = some (tk n e', hs) := by
  induction hl with
  | nil => intro e h e' hs hr; have hr : some (e, [h]) = some (e', hs) := hr; simp only [Option.some.injEq, Prod.mk.injEq] at hr; obtain ⟨rfl, rfl⟩ := hr; rfl
  | @cons k f l m h t ih =>
    intro e h0 e' hs hr
    have hr : (Option.rec (motive := fun _ => Option (EV × List AH)) none (fun p => Option.rec (motive := fun _ => Option (EV × List AH)) none (fun q => some (q.1, h0 :: q.2)) (runF c1 m p.1 p.2)) (f c1 e h0) : Option (EV × List AH)) = some (e', hs) := hr
    cases hp : f c1 e h0 with
    | none => rw [hp] at hr; cases hr
    | some p =>
      rw [hp] at hr
      have hr : (Option.rec (motive := fun _ => Option (EV × List AH)) none (fun q => some (q.1, h0 :: q.2)) (runF c1 m p.1 p.2) : Option (EV × List AH)) = some (e', hs) := hr
      cases hq : runF c1 m p.1 p.2 with
      | none => rw [hq] at hr; cases hr
      | some q =>
        rw [hq] at hr
        have hr : some (q.1, h0 :: q.2) = some (e', hs) := hr
        simp only [Option.some.injEq, Prod.mk.injEq] at hr
        obtain ⟨rfl, rfl⟩ := hr
        simp only [runHs, h c1 c2 hc e h0 p.1 p.2 hp, ih hq]
inductive RCk (n : Nat) : List (KO × Nat × List Nat) → List (FO × FX × List Nat) → Prop where
  | nil : RCk n [] []
  | cons {k f d g i l m} (h : RO n k f) (hg : RX n (xT d) g) (t : RCk n l m) : RCk n ((k, d, i) :: l) ((f, g, i) :: m)
noncomputable def spotsF (c : Fn) (e : EV) (hs : List AH) (f : FO) (v : AV) (l : List Nat) : Bool := List.rec (motive := fun _ => Bool) true (fun i _ ih => andB (Option.rec (motive := fun _ => Bool) false (fun h => Option.rec (motive := fun _ => Bool) false (fun p => same p.1 v) (f c e h)) (idxL i hs)) ih) l
noncomputable def chkF (c : Fn) (e : EV) (hs : List AH) (l : List (FO × FX × List Nat)) : Bool := List.rec (motive := fun _ => Bool) true (fun p _ ih => andB (spotsF c e hs p.1 (p.2.1 e) p.2.2) ih) l
theorem spotsF_is {n : Nat} {c1 c2 : Fn} (hc : LeF c1 c2) {e : EV} {hs : List AH} {k : KO} {f : FO} (h : RO n k f) {v : AV} : ∀ {l : List Nat}, spotsF c1 e hs f v l = true → (l.all fun i => match hs[i]? with
    | some h => match k c2 (tk n e) h with
      | some (w, _) => same w v
      | none => false
    | none => false) = true
  | [], _ => rfl
  | i :: l, hr => by
    have hr : andB (Option.rec (motive := fun _ => Bool) false (fun h => Option.rec (motive := fun _ => Bool) false (fun p => same p.1 v) (f c1 e h)) (idxL i hs)) (spotsF c1 e hs f v l) = true := hr
    obtain ⟨h1, h2⟩ := andB_is hr
    rw [List.all_cons, Bool.and_eq_true]
    refine ⟨?_, spotsF_is hc h h2⟩
    rw [idxL_is] at h1
    cases hi : hs[i]? with
    | none => rw [hi] at h1; cases h1
    | some h0 =>
      rw [hi] at h1
      have h1 : (Option.rec (motive := fun _ => Bool) false (fun p => same p.1 v) (f c1 e h0) : Bool) = true := h1
      cases hp : f c1 e h0 with
      | none => rw [hp] at h1; cases h1
      | some p => rw [hp] at h1; dsimp only; rw [h c1 c2 hc e h0 p hp]; exact h1
theorem chkF_is {n : Nat} {c1 c2 : Fn} (hc : LeF c1 c2) {e : EV} {hs : List AH} {l : List (KO × Nat × List Nat)} {m : List (FO × FX × List Nat)} (hl : RCk n l m) : chkF c1 e hs m = true → chk c2 (tk n e) hs l = true := by
  induction hl with
  | nil => intro _; rfl
  | @cons k f d g i l m h hg t ih =>
    intro hr
    have hr : andB (spotsF c1 e hs f (g e) i) (chkF c1 e hs m) = true := hr
    obtain ⟨h1, h2⟩ := andB_is hr
    have h3 : nth (tk n e) d = g e := hg e
    simp only [chk, Bool.and_eq_true, h3]
    exact ⟨spotsF_is hc h h1, ih h2⟩
noncomputable def fFl (k : Nat) (sts : List FR) (cks : List (FO × FX × List Nat)) : FR := fun c e h => Option.rec (motive := fun _ => Option (EV × AH)) none (fun p => Bool.rec none (Option.rec (motive := fun _ => Option (EV × AH)) none (fun h' => some (p.1, h')) (idxL k p.2)) (chkF c p.1 p.2 cks)) (runF c sts e h)
theorem rFl {n k l m a b} (hl : RLs n l m) (hc : RCk n a b) : RR n (kFl k l a) (fFl k m b) := fun c1 c2 hcc e h e' h' hr => by
  unfold fFl at hr
  unfold kFl
  cases hp : runF c1 m e h with
  | none => rw [hp] at hr; cases hr
  | some p =>
    rw [hp] at hr
    have hr : (Bool.rec none (Option.rec (motive := fun _ => Option (EV × AH)) none (fun h' => some (p.1, h')) (idxL k p.2)) (chkF c1 p.1 p.2 b) : Option (EV × AH)) = some (e', h') := hr
    rw [runF_is hcc hl hp]
    dsimp only
    cases hb : chkF c1 p.1 p.2 b with
    | false => rw [hb] at hr; cases hr
    | true =>
      rw [hb] at hr
      have hr : (Option.rec (motive := fun _ => Option (EV × AH)) none (fun h' => some (p.1, h')) (idxL k p.2) : Option (EV × AH)) = some (e', h') := hr
      rw [chkF_is hcc hc hb]
      rw [idxL_is] at hr
      dsimp only
      cases hi : p.2[k]? with
      | none => rw [hi] at hr; cases hr
      | some h0 =>
        rw [hi] at hr
        have hr : some (p.1, h0) = some (e', h') := hr
        simp only [Option.some.injEq, Prod.mk.injEq] at hr
        obtain ⟨rfl, rfl⟩ := hr; rfl
noncomputable def fGv (g : FX) (want : Bool) (o : FO) : FO := fun c e h => Option.rec (motive := fun _ => Option (AV × AH)) (some (.tup [], h)) (fun b => Bool.rec (some (.tup [], h)) (o c e h) (eqB b want)) (asBool (g e))
theorem rGv {n t want o f g} (ht : RX n (xT t) g) (ho : RO n o f) : RO n (gVal t want o) (fGv g want f) := fun c1 c2 hc e h r hr => by
  unfold fGv at hr
  unfold gVal
  have hg : nth (tk n e) t = g e := ht e
  rw [hg]
  cases hb : asBool (g e) with
  | none =>
    rw [hb] at hr
    split
    · rename_i b hv; rw [hv] at hb; cases hb
    · exact hr
  | some b =>
    rw [hb] at hr
    rw [asBool_is hb]
    have hr1 : (Bool.rec (some (.tup [], h)) (f c1 e h) (eqB b want) : Option (AV × AH)) = some r := hr
    have hbw : eqB b want = (b == want) := by cases b <;> cases want <;> rfl
    rw [hbw] at hr1
    dsimp only
    by_cases hw : b = want
    · have : (b == want) = true := by simpa using hw
      rw [this] at hr1
      rw [if_pos hw]; exact ho c1 c2 hc e h r hr1
    · have : (b == want) = false := by simpa using hw
      rw [this] at hr1
      rw [if_neg hw]; exact hr1
/-! code -/
def fBad : FC := fun _ _ _ _ => none
theorem rBad {n} : RC n kBad fBad := fun c1 c2 _ m e h o e' h' hr => by cases hr
noncomputable def fSkip : FC := fun _ _ e h => some (.normal, e, h)
theorem rSkip {n} : RC n kSkip fSkip := fun c1 c2 _ m e h o e' h' hr => by
  simp only [fSkip, Option.some.injEq, Prod.mk.injEq] at hr
  obtain ⟨rfl, rfl, rfl⟩ := hr; rfl
noncomputable def fReg (r : FR) : FC := fun c _ e h => Option.rec (motive := fun _ => Option (AO × EV × AH)) none (fun p => some (.normal, p.1, p.2.keep h)) (r c e h)
theorem rReg {n k f} (hk : RR n k f) : RC n (kReg k) (fReg f) := fun c1 c2 hc m e h o e' h' hr => by
  unfold fReg at hr
  unfold kReg
  cases hp : f c1 e h with
  | none => rw [hp] at hr; cases hr
  | some p =>
    rw [hp] at hr
    have hr : some (AO.normal, p.1, p.2.keep h) = some (o, e', h') := hr
    simp only [Option.some.injEq, Prod.mk.injEq] at hr
    obtain ⟨rfl, rfl, rfl⟩ := hr
    rw [hk c1 c2 hc e h p.1 p.2 hp]
/-- A region that ends in a deferred call. -/
noncomputable def fRegD (r : FR) (x : FX) (l : List FX) : FC := fun c _ e h => Option.rec (motive := fun _ => Option (AO × EV × AH)) none (fun p => Option.rec (motive := fun _ => Option (AO × EV × AH)) (Option.rec (motive := fun _ => Option (AO × EV × AH)) none (fun q => some (.normal, p.1, ⟨p.2.next, p.2.blk, p.2.rnext, p.2.live, p.2.fnext, p.2.chain, (q.1, appL q.2 (valsF l p.1)) :: h.defs⟩)) (asMfn (x p.1)))
  (fun q => some (.normal, p.1, ⟨p.2.next, p.2.blk, p.2.rnext, p.2.live, p.2.fnext, p.2.chain, (q.1, appL (valsF l p.1) q.2) :: h.defs⟩)) (asFn (x p.1))) (r c e h)
theorem rRegD {n k f x g l m} (hk : RR n k f) (hx : RX n x g) (hl : RL n l m) : RC n (kRegD k x l) (fRegD f g m) := fun c1 c2 hc w e h o e' h' hr => by
  unfold fRegD at hr
  unfold kRegD
  cases hp : f c1 e h with
  | none => rw [hp] at hr; cases hr
  | some p =>
    rw [hp] at hr
    rw [hk c1 c2 hc e h p.1 p.2 hp]
    simp only [hx p.1, vals_is hl p.1]
    have hr : (Option.rec (motive := fun _ => Option (AO × EV × AH)) (Option.rec (motive := fun _ => Option (AO × EV × AH)) none (fun q => some (.normal, p.1, ⟨p.2.next, p.2.blk, p.2.rnext, p.2.live, p.2.fnext, p.2.chain, (q.1, appL q.2 (valsF m p.1)) :: h.defs⟩)) (asMfn (g p.1)))
      (fun q => some (.normal, p.1, ⟨p.2.next, p.2.blk, p.2.rnext, p.2.live, p.2.fnext, p.2.chain, (q.1, appL (valsF m p.1) q.2) :: h.defs⟩)) (asFn (g p.1)) : Option (AO × EV × AH)) = some (o, e', h') := hr
    cases hf : asFn (g p.1) with
    | some q =>
      rw [hf] at hr
      have hr : some (AO.normal, p.1, (⟨p.2.next, p.2.blk, p.2.rnext, p.2.live, p.2.fnext, p.2.chain, (q.1, appL (valsF m p.1) q.2) :: h.defs⟩ : AH)) = some (o, e', h') := hr
      simp only [Option.some.injEq, Prod.mk.injEq] at hr
      obtain ⟨rfl, rfl, rfl⟩ := hr
      rw [asFn_is hf, appL_is]
    | none =>
      rw [hf] at hr
      have hr : (Option.rec (motive := fun _ => Option (AO × EV × AH)) none (fun q => some (.normal, p.1, ⟨p.2.next, p.2.blk, p.2.rnext, p.2.live, p.2.fnext, p.2.chain, (q.1, appL q.2 (valsF m p.1)) :: h.defs⟩)) (asMfn (g p.1)) : Option (AO × EV × AH)) = some (o, e', h') := hr
      cases hm : asMfn (g p.1) with
      | none => rw [hm] at hr; cases hr
      | some q =>
        rw [hm] at hr
        have hr : some (AO.normal, p.1, (⟨p.2.next, p.2.blk, p.2.rnext, p.2.live, p.2.fnext, p.2.chain, (q.1, appL q.2 (valsF m p.1)) :: h.defs⟩ : AH)) = some (o, e', h') := hr
        simp only [Option.some.injEq, Prod.mk.injEq] at hr
        obtain ⟨rfl, rfl, rfl⟩ := hr
        rw [asMfn_is hm, appL_is]
noncomputable def fSeq (a b : FC) : FC := fun c n e h => Option.rec (motive := fun _ => Option (AO × EV × AH)) none (fun p => AO.rec (motive := fun _ => Option (AO × EV × AH)) (b c n p.2.1 p.2.2) (fun i => some (.exit i, p.2)) (some (.ret, p.2)) p.1) (a c n e h)
theorem rSeq {n a b f g} (ha : RC n a f) (hb : RC n b g) : RC n (kSeq a b) (fSeq f g) := fun c1 c2 hc m e h o e' h' hr => by
  unfold fSeq at hr
  unfold kSeq
  cases hp : f c1 m e h with
  | none => rw [hp] at hr; cases hr
  | some p =>
    rw [hp] at hr
    obtain ⟨o1, e1, h1⟩ := p
    rw [ha c1 c2 hc m e h o1 e1 h1 hp]
    cases o1 with
    | normal => exact hb c1 c2 hc m e1 h1 o e' h' hr
    | exit i =>
      have hr : some (AO.exit i, e1, h1) = some (o, e', h') := hr
      simp only [Option.some.injEq, Prod.mk.injEq] at hr
      obtain ⟨rfl, rfl, rfl⟩ := hr; rfl
    | ret =>
      have hr : some (AO.ret, e1, h1) = some (o, e', h') := hr
      simp only [Option.some.injEq, Prod.mk.injEq] at hr
      obtain ⟨rfl, rfl, rfl⟩ := hr; rfl
noncomputable def fCond (x : FX) (a b : FC) : FC := fun c n e h => Option.rec (motive := fun _ => Option (AO × EV × AH)) none (fun t => Bool.rec (b c n e h) (a c n e h) t) (asBool (x e))
theorem rCond {n x a b fx f g} (hx : RX n x fx) (ha : RC n a f) (hb : RC n b g) : RC n (kCond x a b) (fCond fx f g) := fun c1 c2 hc m e h o e' h' hr => by
  unfold fCond at hr
  unfold kCond
  rw [hx e]
  cases ht : asBool (fx e) with
  | none => rw [ht] at hr; cases hr
  | some t =>
    rw [ht] at hr; rw [asBool_is ht]
    cases t with
    | true => exact ha c1 c2 hc m e h o e' h' hr
    | false => exact hb c1 c2 hc m e h o e' h' hr
noncomputable def fBlock (id : Nat) (a : FC) : FC := fun c n e h => Option.rec (motive := fun _ => Option (AO × EV × AH)) none (fun p => AO.rec (motive := fun _ => Option (AO × EV × AH)) (some (.normal, p.2)) (fun i => Bool.rec (some (.exit i, p.2)) (some (.normal, p.2)) (Nat.beq i id)) (some (.ret, p.2)) p.1) (a c n e h)
theorem rBlock {n id a f} (ha : RC n a f) : RC n (kBlock id a) (fBlock id f) := fun c1 c2 hc m e h o e' h' hr => by
  unfold fBlock at hr
  unfold kBlock
  cases hp : f c1 m e h with
  | none => rw [hp] at hr; cases hr
  | some p =>
    rw [hp] at hr
    obtain ⟨o1, e1, h1⟩ := p
    rw [ha c1 c2 hc m e h o1 e1 h1 hp]
    cases o1 with
    | normal =>
      have hr : some (AO.normal, e1, h1) = some (o, e', h') := hr
      simp only [Option.some.injEq, Prod.mk.injEq] at hr
      obtain ⟨rfl, rfl, rfl⟩ := hr; rfl
    | exit i =>
      have hr : (Bool.rec (some (.exit i, e1, h1)) (some (.normal, e1, h1)) (Nat.beq i id) : Option (AO × EV × AH)) = some (o, e', h') := hr
      dsimp only
      cases hb : Nat.beq i id with
      | true =>
        rw [hb] at hr
        have hr : some (AO.normal, e1, h1) = some (o, e', h') := hr
        simp only [Option.some.injEq, Prod.mk.injEq] at hr
        obtain ⟨rfl, rfl, rfl⟩ := hr; rfl
      | false =>
        rw [hb] at hr
        have hr : some (AO.exit i, e1, h1) = some (o, e', h') := hr
        simp only [Option.some.injEq, Prod.mk.injEq] at hr
        obtain ⟨rfl, rfl, rfl⟩ := hr; rfl
    | ret =>
      have hr : some (AO.ret, e1, h1) = some (o, e', h') := hr
      simp only [Option.some.injEq, Prod.mk.injEq] at hr
      obtain ⟨rfl, rfl, rfl⟩ := hr; rfl
noncomputable def floop (body : EV → AH → Option (AO × EV × AH)) : Nat → EV → AH → Option (AO × EV × AH) :=
  Nat.rec (motive := fun _ => EV → AH → Option (AO × EV × AH)) (fun _ _ => none) (fun _ ih e h => Option.rec (motive := fun _ => Option (AO × EV × AH)) none (fun p => AO.rec (motive := fun _ => Option (AO × EV × AH)) (ih p.2.1 p.2.2) (fun i => some (.exit i, p.2)) (some (.ret, p.2)) p.1) (body e h))
noncomputable def fLoop (a : FC) : FC := fun c n e h => floop (a c n) n e h
theorem rLoop {n a f} (ha : RC n a f) : RC n (kLoop a) (fLoop f) := fun c1 c2 hc m => by
  have key : ∀ q e h o e' h', floop (f c1 m) q e h = some (o, e', h') → aloop (a c2 m) q (tk n e) h = some (o, tk n e', h') := by
    intro q
    induction q with
    | zero => intro e h o e' h' hr; cases hr
    | succ q ih =>
      intro e h o e' h' hr
      have hr : (Option.rec (motive := fun _ => Option (AO × EV × AH)) none (fun p => AO.rec (motive := fun _ => Option (AO × EV × AH)) (floop (f c1 m) q p.2.1 p.2.2) (fun i => some (.exit i, p.2)) (some (.ret, p.2)) p.1) (f c1 m e h) : Option (AO × EV × AH)) = some (o, e', h') := hr
      have eq0 : aloop (a c2 m) (q + 1) (tk n e) h = match a c2 m (tk n e) h with
        | some (.normal, ts, h) => aloop (a c2 m) q ts h
        | r => r := rfl
      rw [eq0]
      cases hp : f c1 m e h with
      | none => rw [hp] at hr; cases hr
      | some p =>
        rw [hp] at hr
        obtain ⟨o1, e1, h1⟩ := p
        rw [ha c1 c2 hc m e h o1 e1 h1 hp]
        cases o1 with
        | normal => exact ih e1 h1 o e' h' hr
        | exit i =>
          have hr : some (AO.exit i, e1, h1) = some (o, e', h') := hr
          simp only [Option.some.injEq, Prod.mk.injEq] at hr
          obtain ⟨rfl, rfl, rfl⟩ := hr; rfl
        | ret =>
          have hr : some (AO.ret, e1, h1) = some (o, e', h') := hr
          simp only [Option.some.injEq, Prod.mk.injEq] at hr
          obtain ⟨rfl, rfl, rfl⟩ := hr; rfl
  exact fun e h o e' h' hr => key m e h o e' h' hr
noncomputable def fExit (id : Nat) : FC := fun _ _ e h => some (.exit id, e, h)
theorem rExit {n id} : RC n (kExit id) (fExit id) := fun c1 c2 _ m e h o e' h' hr => by
  simp only [fExit, Option.some.injEq, Prod.mk.injEq] at hr
  obtain ⟨rfl, rfl, rfl⟩ := hr; rfl
noncomputable def fRet : FC := fun _ _ e h => some (.ret, e, h)
theorem rRet {n} : RC n kRet fRet := fun c1 c2 _ m e h o e' h' hr => by
  simp only [fRet, Option.some.injEq, Prod.mk.injEq] at hr
  obtain ⟨rfl, rfl, rfl⟩ := hr; rfl
/-! results -/
abbrev FV := EV → AH → Option AV
def RVq (n : Nat) (r : Tmps → AH → Option AV) (f : FV) : Prop := ∀ e h v, f e h = some v → r (tk n e) h = some v
def vNone : FV := fun _ _ => some (.tup [])
theorem rvNone {n} : RVq n rNone vNone := fun e h v hr => hr
def vTmp (g : FX) : FV := fun e _ => some (g e)
theorem rvTmp {n t g} (hg : RX n (xT t) g) : RVq n (rTmp t) (vTmp g) := fun e h v hr => by
  have : nth (tk n e) t = g e := hg e
  simp only [rTmp, this]; exact hr
noncomputable def vCell (g : FX) (q : Option Nat) : FV := fun e h => Option.rec (motive := fun _ => Option AV) none (fun p => Option.rec (motive := fun _ => Option AV) none (fun cs => partR q cs p.2) (cellsOfR (getR h.blk p.1))) (asPtr (g e))
theorem rvCell {n t g q} (hg : RX n (xT t) g) : RVq n (rCell t q) (vCell g q) := fun e h v hr => by
  have h0 : nth (tk n e) t = g e := hg e
  simp only [rCell, h0]
  unfold vCell at hr
  cases hp : asPtr (g e) with
  | none => rw [hp] at hr; cases hr
  | some p =>
    rw [hp] at hr; rw [asPtr_is hp]
    have hr : (Option.rec (motive := fun _ => Option AV) none (fun cs => partR q cs p.2) (cellsOfR (getR h.blk p.1)) : Option AV) = some v := hr
    rw [getR_is] at hr
    show (match h.blk.get p.1 with | some (.cells cs) => apart cs p.2 q | _ => none) = _
    cases hb : h.blk.get p.1 with
    | none => rw [hb] at hr; cases hr
    | some b =>
      rw [hb] at hr
      cases b with
      | map es c => cases hr
      | cells cs =>
        have hr : partR q cs p.2 = some v := hr
        rw [partR_is] at hr; exact hr
inductive RVs' (n : Nat) : List (Tmps → AH → Option AV) → List FV → Prop where
  | nil : RVs' n [] []
  | cons {r f l m} (h : RVq n r f) (t : RVs' n l m) : RVs' n (r :: l) (f :: m)
noncomputable def vList (l : List FV) (e : EV) (h : AH) : Option (List AV) := List.rec (motive := fun _ => Option (List AV)) (some []) (fun f _ ih => Option.rec (motive := fun _ => Option (List AV)) none (fun v => Option.rec (motive := fun _ => Option (List AV)) none (fun r => some (v :: r)) ih) (f e h)) l
noncomputable def vTup (l : List FV) : FV := fun e h => Option.rec (motive := fun _ => Option AV) none (fun vs => some (.tup vs)) (vList l e h)
theorem vList_is {n : Nat} {l : List (Tmps → AH → Option AV)} {m : List FV} (hl : RVs' n l m) (e : EV) (h : AH) : ∀ {vs}, vList m e h = some vs → l.mapM (fun r => r (tk n e) h) = some vs := by
  induction hl with
  | nil => intro vs hr; have hr : some [] = some vs := hr; simp only [Option.some.injEq] at hr; subst hr; rfl
  | @cons r f l m h0 t ih =>
    intro vs hr
    have hr : (Option.rec (motive := fun _ => Option (List AV)) none (fun v => Option.rec (motive := fun _ => Option (List AV)) none (fun r => some (v :: r)) (vList m e h)) (f e h) : Option (List AV)) = some vs := hr
    cases hv : f e h with
    | none => rw [hv] at hr; cases hr
    | some v =>
      rw [hv] at hr
      have hr : (Option.rec (motive := fun _ => Option (List AV)) none (fun r => some (v :: r)) (vList m e h) : Option (List AV)) = some vs := hr
      cases hq : vList m e h with
      | none => rw [hq] at hr; cases hr
      | some q =>
        rw [hq] at hr
        have hr : some (v :: q) = some vs := hr
        simp only [Option.some.injEq] at hr; subst hr
        simp only [List.mapM_cons, h0 e h v hv, ih hq]; rfl
theorem rvTup {n l m} (hl : RVs' n l m) : RVq n (rTup l) (vTup m) := fun e h v hr => by
  unfold vTup at hr
  cases hq : vList m e h with
  | none => rw [hq] at hr; cases hr
  | some vs => rw [hq] at hr; simp only [rTup, vList_is hl e h hq]; exact hr
/-! functions -/
structure FF where
  ntmps : Nat
  body : FC
  results : FV
structure RF (a : AF) (f : FF) : Prop where
  n : f.ntmps = a.ntmps
  le : Nat.ble a.ntmps 256 = true
  body : RC a.ntmps a.body f.body
  results : RVq a.ntmps a.results f.results
noncomputable def setters : List (AV → EV → EV) := [s0, s1, s2, s3, s4, s5, s6, s7, s8, s9, s10, s11, s12, s13, s14, s15]
inductive SetOk : Nat → List (AV → EV → EV) → Prop where
  | nil {i} : SetOk i []
  | cons {i s S} (h : ∀ v e, toL8 (s v e) = upd (toL8 e) v i) (hi : i < 256) (t : SetOk (i + 1) S) : SetOk i (s :: S)
theorem setters_ok : SetOk 0 setters :=
  .cons s0_is (by decide) (.cons s1_is (by decide) (.cons s2_is (by decide) (.cons s3_is (by decide) (.cons s4_is (by decide) (.cons s5_is (by decide) (.cons s6_is (by decide) (.cons s7_is (by decide)
  (.cons s8_is (by decide) (.cons s9_is (by decide) (.cons s10_is (by decide) (.cons s11_is (by decide) (.cons s12_is (by decide) (.cons s13_is (by decide) (.cons s14_is (by decide) (.cons s15_is (by decide) .nil)))))))))))))))
noncomputable def init (args : List AV) : List (AV → EV → EV) → EV → Option EV := List.rec (motive := fun _ => List (AV → EV → EV) → EV → Option EV) (fun _ e => some e) (fun a _ ih S e => List.rec (motive := fun _ => Option EV) none (fun s S' _ => ih S' (s a e)) S) args
theorem upd_rep (pre : List AV) (a : AV) (m : Nat) : upd (pre ++ List.replicate (m + 1) (.tup [])) a pre.length = (pre ++ [a]) ++ List.replicate m (.tup []) := by
  rw [upd_set, List.replicate_succ, List.set_append_right _ _ (Nat.le_refl _), Nat.sub_self, List.set_cons_zero, List.append_assoc]; rfl
theorem init_is : ∀ (args : List AV) (S : List (AV → EV → EV)) (i : Nat) (e e' : EV) (pre : List AV), SetOk i S → pre.length = i → i ≤ 256 → toL8 e = pre ++ List.replicate (256 - i) (.tup []) → init args S e = some e' → (pre ++ args).length ≤ 256 ∧ toL8 e' = (pre ++ args) ++ List.replicate (256 - (pre ++ args).length) (.tup [])
  | [], S, i, e, e', pre, hS, hi, hle, he, hr => by
    have hr : some e = some e' := hr
    simp only [Option.some.injEq] at hr; subst hr
    rw [List.append_nil, hi]; exact ⟨hle, he⟩
  | a :: args, S, i, e, e', pre, hS, hi, hle, he, hr => by
    cases hS with
    | nil => cases hr
    | @cons _ s S' h hlt t =>
      have hr : init args S' (s a e) = some e' := hr
      have h1 : toL8 (s a e) = (pre ++ [a]) ++ List.replicate (256 - (i + 1)) (.tup []) := by
        rw [h, he, show 256 - i = (256 - (i + 1)) + 1 by omega, ← hi, upd_rep]
      have := init_is args S' (i + 1) (s a e) e' (pre ++ [a]) t (by simp [hi]) (by omega) h1 hr
      simpa using this
set_option maxRecDepth 20000 in
theorem bl8_is : toL8 bl8 = List.replicate 256 (.tup []) := rfl
noncomputable def initE (args : List AV) (nt : Nat) : Option EV := Bool.rec none (init args setters bl8) (Nat.ble (lenL args) nt)
theorem initE_is {args : List AV} {nt : Nat} (hn : nt ≤ 256) {e : EV} (h : initE args nt = some e) : tk nt e = args ++ List.replicate (nt - args.length) (.tup []) := by
  unfold initE at h
  cases hb : Nat.ble (lenL args) nt with
  | false => rw [hb] at h; cases h
  | true =>
    rw [hb] at h
    have h : init args setters bl8 = some e := h
    have hle := Nat.le_of_ble_eq_true hb
    rw [lenL_is] at hle
    obtain ⟨h1, h2⟩ := init_is args setters 0 bl8 e [] setters_ok rfl (by omega) (by rw [bl8_is]; rfl) h
    rw [List.nil_append] at h1 h2
    unfold tk
    rw [h2, List.take_append, List.take_of_length_le hle, List.take_replicate]
    congr 2; omega
/-- Where a call ends: its results, behind its deferred calls. -/
noncomputable def runDF (D : Fn) (l : List (FuncId × List AV)) : AH → Option AH := List.rec (motive := fun _ => AH → Option AH) (fun h => some h) (fun d _ ih h => Option.rec (motive := fun _ => Option AH) none (fun p => ih p.2) (D d.1 d.2 h)) l
noncomputable def endF (D : Fn) (res : FV) (x : Option (AO × EV × AH)) : Option (AV × AH) := Option.rec (motive := fun _ => Option (AV × AH)) none
  (fun p => AO.rec (motive := fun _ => Option (AV × AH)) (Option.rec (motive := fun _ => Option (AV × AH)) none (fun h => Option.rec (motive := fun _ => Option (AV × AH)) none (fun v => some (v, h)) (res p.2.1 h)) (runDF D p.2.2.defs p.2.2)) (fun _ => none)
    (Option.rec (motive := fun _ => Option (AV × AH)) none (fun h => Option.rec (motive := fun _ => Option (AV × AH)) none (fun v => some (v, h)) (res p.2.1 h)) (runDF D p.2.2.defs p.2.2)) p.1) x
noncomputable def noD : Fn := fun _ _ _ => none
noncomputable def dcallF (G : FuncId → Option (List AV → AH → Option (AV × AH))) (F : FuncId → Option FF) (ih : Fn) (n : Nat) : Fn := fun f args h => Option.rec (motive := fun _ => Option (AV × AH))
  (Option.rec (motive := fun _ => Option (AV × AH)) none (fun fn => Option.rec (motive := fun _ => Option (AV × AH)) none (fun e => endF noD fn.results (fn.body ih n e h.bare)) (initE args fn.ntmps)) (F f)) (fun _ => none) (G f)
noncomputable def aevalF (G : FuncId → Option (List AV → AH → Option (AV × AH))) (F : FuncId → Option FF) : Nat → Fn :=
  Nat.rec (motive := fun _ => Fn) (fun _ _ _ => none) (fun n ih f args h => Option.rec (motive := fun _ => Option (AV × AH))
    (Option.rec (motive := fun _ => Option (AV × AH)) none (fun fn => Option.rec (motive := fun _ => Option (AV × AH)) none (fun e => endF (dcallF G F ih n) fn.results (fn.body ih n e h.bare)) (initE args fn.ntmps)) (F f)) (fun s => s args h) (G f))
theorem runDF_is {c1 c2 : Fn} (hc : LeF c1 c2) : ∀ {l : List (FuncId × List AV)} {h h' : AH}, runDF c1 l h = some h' → runD c2 l h = some h'
  | [], h, h', hr => hr
  | (f, a) :: r, h, h', hr => by
    have hr : (Option.rec (motive := fun _ => Option AH) none (fun p => runDF c1 r p.2) (c1 f a h) : Option AH) = some h' := hr
    cases hp : c1 f a h with
    | none => rw [hp] at hr; cases hr
    | some p =>
      rw [hp] at hr
      simp only [runD, hc f a h p hp]
      exact runDF_is hc hr
theorem endF_is {D1 D2 : Fn} (hD : LeF D1 D2) {n : Nat} {res : FV} {kr : Tmps → AH → Option AV} (hV : RVq n kr res) {o : AO} {e : EV} {h : AH} {r : AV × AH} (hr : endF D1 res (some (o, e, h)) = some r) :
    (∀ i, o ≠ .exit i) ∧ (match runD D2 h.defs h with
      | some h => (match kr (tk n e) h with | some v => some (v, h) | none => none)
      | none => none) = some r := by
  have key : (Option.rec (motive := fun _ => Option (AV × AH)) none (fun h => Option.rec (motive := fun _ => Option (AV × AH)) none (fun v => some (v, h)) (res e h)) (runDF D1 h.defs h) : Option (AV × AH)) = some r → (match runD D2 h.defs h with
      | some h => (match kr (tk n e) h with | some v => some (v, h) | none => none)
      | none => none) = some r := by
    intro hr
    cases hd : runDF D1 h.defs h with
    | none => rw [hd] at hr; cases hr
    | some h2 =>
      rw [hd] at hr
      rw [runDF_is hD hd]
      have hr : (Option.rec (motive := fun _ => Option (AV × AH)) none (fun v => some (v, h2)) (res e h2) : Option (AV × AH)) = some r := hr
      dsimp only
      cases hv : res e h2 with
      | none => rw [hv] at hr; cases hr
      | some v => rw [hv] at hr; rw [hV e h2 v hv]; exact hr
  cases o with
  | normal => exact ⟨fun i h => (by cases h), key hr⟩
  | ret => exact ⟨fun i h => (by cases h), key hr⟩
  | exit i => cases hr
theorem endF_none {D : Fn} {res : FV} {r} : endF D res none = some r → False := fun h => by cases h
theorem noD_le (c : Fn) : LeF noD c := fun f a h r hr => by cases hr
theorem dcallF_is {G : FuncId → Option (List AV → AH → Option (AV × AH))} {FT : FuncId → Option FF} {F : FuncId → Option AF} (hT : ∀ f ff, FT f = some ff → ∃ af, F f = some af ∧ RF af ff) {c1 c2 : Fn} (hc : LeF c1 c2) (n : Nat) : LeF (dcallF G FT c1 n) (dcall G F c2 n) := fun f args h r hr => by
  have hr : (Option.rec (motive := fun _ => Option (AV × AH))
    (Option.rec (motive := fun _ => Option (AV × AH)) none (fun fn => Option.rec (motive := fun _ => Option (AV × AH)) none (fun e => endF noD fn.results (fn.body c1 n e h.bare)) (initE args fn.ntmps)) (FT f)) (fun _ => none) (G f) : Option (AV × AH)) = some r := hr
  unfold dcall
  cases hG : G f with
  | some s => rw [hG] at hr; cases hr
  | none =>
    rw [hG] at hr
    dsimp only at hr ⊢
    cases hF : FT f with
    | none => rw [hF] at hr; cases hr
    | some ff =>
      rw [hF] at hr
      dsimp only at hr
      obtain ⟨af, haf, hRF⟩ := hT f ff hF
      rw [haf]
      dsimp only
      cases hi : initE args ff.ntmps with
      | none => rw [hi] at hr; cases hr
      | some e =>
        rw [hi] at hr
        dsimp only at hr
        rw [hRF.n] at hi
        have hle := Nat.le_of_ble_eq_true hRF.le
        rw [← initE_is hle hi]
        cases hp : ff.body c1 n e h.bare with
        | none => rw [hp] at hr; cases hr
        | some p =>
          rw [hp] at hr
          obtain ⟨o, e', h'⟩ := p
          rw [hRF.body _ _ hc n e h.bare o e' h' hp]
          obtain ⟨q1, q2⟩ := endF_is (D2 := noD) (noD_le _) hRF.results hr
          have q3 : (match h'.defs with | [] => (match af.results (tk af.ntmps e') h' with | some v => some (v, h') | none => none) | _ => none) = some r := by
            cases hd : h'.defs with
            | nil => rw [hd] at q2; exact q2
            | cons d l => rw [hd] at q2; cases q2
          cases o with
          | normal => exact q3
          | ret => exact q3
          | exit i => exact absurd rfl (q1 i)
/-- What is reckoned the quick way the evaluator says. -/
theorem aevalF_is {G : FuncId → Option (List AV → AH → Option (AV × AH))} {FT : FuncId → Option FF} {F : FuncId → Option AF} (hT : ∀ f ff, FT f = some ff → ∃ af, F f = some af ∧ RF af ff) : ∀ n, LeF (aevalF G FT n) (aeval G F n)
  | 0 => fun f a h r hr => by cases hr
  | n + 1 => fun f args h r hr => by
    have hr : (Option.rec (motive := fun _ => Option (AV × AH))
      (Option.rec (motive := fun _ => Option (AV × AH)) none (fun fn => Option.rec (motive := fun _ => Option (AV × AH)) none (fun e => endF (dcallF G FT (aevalF G FT n) n) fn.results (fn.body (aevalF G FT n) n e h.bare)) (initE args fn.ntmps)) (FT f)) (fun s => s args h) (G f) : Option (AV × AH)) = some r := hr
    have e0 : aeval G F (n + 1) f args h = match G f with
      | some s => s args h
      | none => match F f with
        | none => none
        | some fn => match fn.body (aeval G F n) n (args ++ List.replicate (fn.ntmps - args.length) (.tup [])) h.bare with
          | some (.normal, ts, h) | some (.ret, ts, h) => (match runD (dcall G F (aeval G F n) n) h.defs h with
            | some h => (match fn.results ts h with | some v => some (v, h) | none => none)
            | none => none)
          | _ => none := rfl
    rw [e0]
    cases hG : G f with
    | some s => rw [hG] at hr; exact hr
    | none =>
      rw [hG] at hr
      dsimp only at hr ⊢
      cases hF : FT f with
      | none => rw [hF] at hr; cases hr
      | some ff =>
        rw [hF] at hr
        dsimp only at hr
        obtain ⟨af, haf, hRF⟩ := hT f ff hF
        rw [haf]
        dsimp only
        cases hi : initE args ff.ntmps with
        | none => rw [hi] at hr; cases hr
        | some e =>
          rw [hi] at hr
          dsimp only at hr
          rw [hRF.n] at hi
          have hle := Nat.le_of_ble_eq_true hRF.le
          rw [← initE_is hle hi]
          cases hp : ff.body (aevalF G FT n) n e h.bare with
          | none => rw [hp] at hr; cases hr
          | some p =>
            rw [hp] at hr
            obtain ⟨o, e', h'⟩ := p
            rw [hRF.body _ _ (aevalF_is hT n) n e h.bare o e' h' hp]
            obtain ⟨q1, q2⟩ := endF_is (dcallF_is hT (aevalF_is hT n) n) hRF.results hr
            cases o with
            | normal => exact q2
            | ret => exact q2
            | exit i => exact absurd rfl (q1 i)
end Go.Proofs.Ytadohhhjpbhhoaa.EvA
