/- A quick way to reckon with the evaluator: operations and code over the tree of temporaries; each says what the evaluator says. -/
import Derived.Test.YtadohhhjpbhhoaaEvfB
import Derived.Test.YtadohhhjpbhhoaaEvE
namespace Go.Proofs.Ytadohhhjpbhhoaa.EvA
set_option linter.unusedVariables false
set_option linter.unusedSimpArgs false
abbrev EV := E8
abbrev FX := EV → AV
abbrev FO := Fn → EV → AH → Option (AV × AH)
abbrev FR := Fn → EV → AH → Option (EV × AH)
abbrev FC := Fn → Nat → EV → AH → Option (AO × EV × AH)
noncomputable def tk (n : Nat) (e : EV) : List AV := (toL8 e).take n
def RX (n : Nat) (x : AX) (f : FX) : Prop := ∀ e, x (tk n e) = f e
def LeF (c1 c2 : Fn) : Prop := ∀ f a h r, c1 f a h = some r → c2 f a h = some r
def RO (n : Nat) (o : KO) (f : FO) : Prop := ∀ c1 c2, LeF c1 c2 → ∀ e h r, f c1 e h = some r → o c2 (tk n e) h = some r
def RR (n : Nat) (k : KR) (f : FR) : Prop := ∀ c1 c2, LeF c1 c2 → ∀ e h e' h', f c1 e h = some (e', h') → k c2 (tk n e) h = some (tk n e', h')
def RC (n : Nat) (k : KC) (f : FC) : Prop := ∀ c1 c2, LeF c1 c2 → ∀ m e h o e' h', f c1 m e h = some (o, e', h') → k c2 m (tk n e) h = some (o, tk n e', h')
def RS (n d : Nat) (s : AV → EV → EV) : Prop := ∀ v e, tk n (s v e) = upd (tk n e) v d
theorem rT {n t : Nat} {g : FX} (hg : ∀ e, g e = nth (toL8 e) t) (h : Nat.blt t n = true) : RX n (xT t) g := fun e => by
  have ht : t < n := Nat.le_of_ble_eq_true h
  show nth ((toL8 e).take n) t = g e
  rw [hg, nth_getD, nth_getD, List.getD_eq_getElem?_getD, List.getD_eq_getElem?_getD, List.getElem?_take, if_pos ht]
def fC (v : AV) : FX := fun _ => v
theorem rC {n : Nat} {v : AV} : RX n (xC v) (fC v) := fun _ => rfl
def fF (f : FuncId) : FX := fun _ => .fn f []
theorem rF {n : Nat} {f : FuncId} : RX n (xF f) (fF f) := fun _ => rfl
theorem rS {n d : Nat} {s : AV → EV → EV} (hs : ∀ v e, toL8 (s v e) = upd (toL8 e) v d) : RS n d s := fun v e => by
  show (toL8 (s v e)).take n = upd ((toL8 e).take n) v d
  rw [hs, upd_set, upd_set, List.take_set]
/-! lists of operands -/
noncomputable def valsF (l : List FX) (e : EV) : List AV := List.rec (motive := fun _ => List AV) [] (fun f _ ih => f e :: ih) l
inductive RL (n : Nat) : List AX → List FX → Prop where
  | nil : RL n [] []
  | cons {x f l m} (h : RX n x f) (t : RL n l m) : RL n (x :: l) (f :: m)
theorem vals_is {n : Nat} {l : List AX} {m : List FX} (h : RL n l m) (e : EV) : vals l (tk n e) = valsF m e := by
  induction h with
  | nil => rfl
  | cons h t ih => show _ :: vals _ _ = _ :: valsF _ _; rw [h e, ih]
inductive RP' (n : Nat) : List (Nat × Nat × AX) → List (Nat × Nat × FX) → Prop where
  | nil : RP' n [] []
  | cons {a b x f l m} (h : RX n x f) (t : RP' n l m) : RP' n ((a, b, x) :: l) ((a, b, f) :: m)
noncomputable def andB (a b : Bool) : Bool := Bool.rec false b a
theorem andB_is {a b : Bool} (h : andB a b = true) : a = true ∧ b = true := by cases a <;> cases b <;> first | (cases h; done) | exact ⟨rfl, rfl⟩
noncomputable def afillR (e : EV) (l : List (Nat × Nat × FX)) : List AV → Option (List AV) := List.rec (motive := fun _ => List AV → Option (List AV)) (fun cells => some cells) (fun p _ ih cells => Bool.rec none (ih (appL (takeL p.1 cells) (appL (cellsR (p.2.2 e)) (dropL (Nat.add p.1 p.2.1) cells)))) (andB (Nat.beq (lenL (cellsR (p.2.2 e))) p.2.1) (Nat.ble (Nat.add p.1 p.2.1) (lenL cells)))) l
theorem afill_is {n : Nat} {l : List (Nat × Nat × AX)} {m : List (Nat × Nat × FX)} (h : RP' n l m) (e : EV) : ∀ {cells cs : List AV}, afillR e m cells = some cs → afill cells (partsOf l (tk n e)) = some cs := by
  induction h with
  | nil => intro cells cs hf; exact hf
  | @cons a b x f l m hx t ih =>
    intro cells cs hf
    have hf' : (Bool.rec none (afillR e m (appL (takeL a cells) (appL (cellsR (f e)) (dropL (Nat.add a b) cells)))) (andB (Nat.beq (lenL (cellsR (f e))) b) (Nat.ble (Nat.add a b) (lenL cells))) : Option (List AV)) = some cs := hf
    cases hb : andB (Nat.beq (lenL (cellsR (f e))) b) (Nat.ble (Nat.add a b) (lenL cells)) with
    | false => rw [hb] at hf'; cases hf'
    | true =>
      rw [hb] at hf'
      have hf2 : afillR e m (appL (takeL a cells) (appL (cellsR (f e)) (dropL (Nat.add a b) cells))) = some cs := hf'
      obtain ⟨h1, h2⟩ := andB_is hb
      have h1 := Nat.eq_of_beq_eq_true h1
      have h2 := Nat.le_of_ble_eq_true h2
      rw [lenL_is, cellsR_is] at h1
      rw [lenL_is] at h2
      rw [appL_is, appL_is, takeL_is, dropL_is, cellsR_is] at hf2
      simp only [partsOf, List.map_cons, afill, hx e]
      rw [if_pos ⟨h1, h2⟩, List.append_assoc]
      exact ih hf2
/-! operations -/
def c0 : Fn := fun _ _ _ => none
noncomputable def fMove (x : FX) : FO := fun _ e h => some (x e, h)
theorem rMove {n x f} (hx : RX n x f) : RO n (oMove x) (fMove f) := fun c1 c2 hc e h r hr => by
  simp only [oMove, hx e]; exact hr
noncomputable def fPick (c a b : FX) : FO := fun _ e h => Option.rec (motive := fun _ => Option (AV × AH)) none (fun t => some (Bool.rec (b e) (a e) t, h)) (asBool (c e))
theorem rPick {n c a b fc fa fb} (hc : RX n c fc) (ha : RX n a fa) (hb : RX n b fb) : RO n (oPick c a b) (fPick fc fa fb) := fun c1 c2 _ e h r hr => by
  simp only [oPick, hc e, ha e, hb e]
  unfold fPick at hr
  cases ht : asBool (fc e) with
  | none => rw [ht] at hr; cases hr
  | some t => rw [ht] at hr; rw [asBool_is ht]; rw [← hr]; cases t <;> rfl
noncomputable def fBox (size : Nat) (x : FX) : FO := fun _ e h => Bool.rec none (some (.ptr h.next 0, newR h (.cells (cellsR (x e))))) (Nat.beq (lenL (cellsR (x e))) size)
theorem rBox {n s x f} (hx : RX n x f) : RO n (oBox s x) (fBox s f) := fun c1 c2 _ e h r hr => by
  unfold fBox at hr
  cases hb : Nat.beq (lenL (cellsR (f e))) s with
  | false => rw [hb] at hr; cases hr
  | true =>
    rw [hb] at hr
    have hr2 : some (AV.ptr h.next 0, newR h (.cells (cellsR (f e)))) = some r := hr
    have h1 := Nat.eq_of_beq_eq_true hb
    rw [lenL_is, cellsR_is] at h1
    simp only [oBox, hx e]
    rw [if_pos h1, ← hr2, newR_is, cellsR_is]
noncomputable def fBuild (zero : List AV) (parts : List (Nat × Nat × FX)) : FO := fun _ e h => Option.rec (motive := fun _ => Option (AV × AH)) none (fun cs => some (.agg cs, h)) (afillR e parts zero)
theorem rBuild {n z l m} (hp : RP' n l m) : RO n (oBuild z l) (fBuild z m) := fun c1 c2 _ e h r hr => by
  unfold fBuild at hr
  cases hf : afillR e m z with
  | none => rw [hf] at hr; cases hr
  | some cs => rw [hf] at hr; simp only [oBuild, afill_is hp e hf]; exact hr
noncomputable def fRow (len size : Nat) (zero : List AV) (parts : List (Nat × Nat × FX)) : FO := fun _ e h => Option.rec (motive := fun _ => Option (AV × AH)) none (fun cs => Bool.rec none (some (.row cs len (h.newRow (Nat.mul len size) size).1, (h.newRow (Nat.mul len size) size).2)) (Nat.beq (lenL cs) (Nat.mul len size))) (afillR e parts zero)
theorem rRow {n len size z l m} (hp : RP' n l m) : RO n (oRow len size z l) (fRow len size z m) := fun c1 c2 _ e h r hr => by
  unfold fRow at hr
  cases hf : afillR e m z with
  | none => rw [hf] at hr; cases hr
  | some cs =>
    rw [hf] at hr
    have hr2 : (Bool.rec none (some (.row cs len (h.newRow (Nat.mul len size) size).1, (h.newRow (Nat.mul len size) size).2)) (Nat.beq (lenL cs) (Nat.mul len size)) : Option (AV × AH)) = some r := hr
    cases hb : Nat.beq (lenL cs) (Nat.mul len size) with
    | false => rw [hb] at hr2; cases hr2
    | true =>
      rw [hb] at hr2
      have h1 := Nat.eq_of_beq_eq_true hb
      rw [lenL_is] at h1
      have h1' : cs.length = len * size := h1
      simp only [oRow, afill_is hp e hf]
      rw [if_pos h1']; exact hr2
noncomputable def fRowZ (len size : Nat) (zero : List AV) (parts : List (Nat × Nat × FX)) : FO := fun _ e h => Option.rec (motive := fun _ => Option (AV × AH)) none (fun cs => Bool.rec none (some (.row cs len ⟨0, 0, 0, size⟩, h)) (Nat.beq (lenL cs) (Nat.mul len size))) (afillR e parts zero)
theorem rRowZ {n len size z l m} (hp : RP' n l m) : RO n (oRowZ len size z l) (fRowZ len size z m) := fun c1 c2 _ e h r hr => by
  unfold fRowZ at hr
  cases hf : afillR e m z with
  | none => rw [hf] at hr; cases hr
  | some cs =>
    rw [hf] at hr
    have hr2 : (Bool.rec none (some (.row cs len ⟨0, 0, 0, size⟩, h)) (Nat.beq (lenL cs) (Nat.mul len size)) : Option (AV × AH)) = some r := hr
    cases hb : Nat.beq (lenL cs) (Nat.mul len size) with
    | false => rw [hb] at hr2; cases hr2
    | true =>
      rw [hb] at hr2
      have h1 := Nat.eq_of_beq_eq_true hb
      rw [lenL_is] at h1
      have h1' : cs.length = len * size := h1
      simp only [oRowZ, afill_is hp e hf]
      rw [if_pos h1']; exact hr2
noncomputable def partR (q : Option Nat) : List AV → Nat → Option AV := Option.rec (motive := fun _ => List AV → Nat → Option AV) (fun c o => idxL o c) (fun n c o => Bool.rec none (some (.agg (takeL n (dropL o c)))) (Nat.ble (Nat.add o n) (lenL c))) q
theorem partR_is (q : Option Nat) (c : List AV) (o : Nat) : partR q c o = apart c o q := by
  cases q with
  | none => exact idxL_is o c
  | some n =>
    show (Bool.rec none (some (.agg (takeL n (dropL o c)))) (Nat.ble (Nat.add o n) (lenL c)) : Option AV) = if o + n ≤ c.length then _ else _
    rw [ble_dec, lenL_is, takeL_is, dropL_is]
    by_cases hh : o + n ≤ c.length
    · have h2 : Nat.add o n ≤ c.length := hh
      rw [if_pos hh, decide_eq_true h2]
    · have h2 : ¬ Nat.add o n ≤ c.length := hh
      rw [if_neg hh, decide_eq_false h2]
noncomputable def fLoad (q : Option Nat) (a : FX) : FO := fun _ e h => Option.rec (motive := fun _ => Option (AV × AH))
  (Option.rec (motive := fun _ => Option (AV × AH)) none (fun p => Bool.rec none (Option.rec (motive := fun _ => Option (AV × AH)) none (fun v => some (v, h)) (partR q p.1 p.2.1)) (okR h p.2.2)) (asEptr (a e)))
  (fun p => Option.rec (motive := fun _ => Option (AV × AH)) none (fun cs => Option.rec (motive := fun _ => Option (AV × AH)) none (fun v => some (v, h)) (partR q cs p.2)) (cellsOfR (getR h.blk p.1))) (asPtr (a e))
theorem rLoad {n q a f} (ha : RX n a f) : RO n (oLoad q a) (fLoad q f) := fun c1 c2 _ e h r hr => by
  unfold fLoad at hr
  simp only [oLoad, ha e]
  cases hp : asPtr (f e) with
  | some p =>
    rw [hp] at hr
    rw [asPtr_is hp]
    have hr2 : (Option.rec (motive := fun _ => Option (AV × AH)) none (fun cs => Option.rec (motive := fun _ => Option (AV × AH)) none (fun v => some (v, h)) (partR q cs p.2)) (cellsOfR (getR h.blk p.1)) : Option (AV × AH)) = some r := hr
    rw [getR_is] at hr2
    show (match h.get p.1 with | some (.cells cs) => _ | _ => _) = _
    show (match h.blk.get p.1 with | some (.cells cs) => (match apart cs p.2 q with | some v => some (v, h) | none => none) | _ => none) = _
    cases hg : h.blk.get p.1 with
    | none => rw [hg] at hr2; cases hr2
    | some b =>
      rw [hg] at hr2
      cases b with
      | map es c => cases hr2
      | cells cs =>
        have hr3 : (Option.rec (motive := fun _ => Option (AV × AH)) none (fun v => some (v, h)) (partR q cs p.2) : Option (AV × AH)) = some r := hr2
        rw [partR_is] at hr3
        dsimp only
        cases hv : apart cs p.2 q with
        | none => rw [hv] at hr3; cases hr3
        | some v => rw [hv] at hr3; exact hr3
  | none =>
    rw [hp] at hr
    have hr1 : (Option.rec (motive := fun _ => Option (AV × AH)) none (fun p => Bool.rec none (Option.rec (motive := fun _ => Option (AV × AH)) none (fun v => some (v, h)) (partR q p.1 p.2.1)) (okR h p.2.2)) (asEptr (f e)) : Option (AV × AH)) = some r := hr
    cases hq : asEptr (f e) with
    | none => rw [hq] at hr1; cases hr1
    | some p =>
      rw [hq] at hr1
      rw [asEptr_is hq]
      have hr2 : (Bool.rec none (Option.rec (motive := fun _ => Option (AV × AH)) none (fun v => some (v, h)) (partR q p.1 p.2.1)) (okR h p.2.2) : Option (AV × AH)) = some r := hr1
      rw [okR_is] at hr2
      dsimp only
      cases hk : h.ok p.2.2 with
      | false => rw [hk] at hr2; cases hr2
      | true =>
        rw [hk] at hr2
        have hr3 : (Option.rec (motive := fun _ => Option (AV × AH)) none (fun v => some (v, h)) (partR q p.1 p.2.1) : Option (AV × AH)) = some r := hr2
        rw [partR_is] at hr3
        dsimp only
        cases hv : apart p.1 p.2.1 q with
        | none => rw [hv] at hr3; cases hr3
        | some v => rw [hv] at hr3; exact hr3
noncomputable def fStore (size : Nat) (a x : FX) : FO := fun _ e h => Option.rec (motive := fun _ => Option (AV × AH)) none (fun p => Option.rec (motive := fun _ => Option (AV × AH)) none
  (fun cs => Bool.rec none (some (.tup [], putR h p.1 (.cells (appL (takeL p.2 cs) (appL (cellsR (x e)) (dropL (Nat.add p.2 size) cs))))))
    (andB (Nat.beq (lenL (cellsR (x e))) size) (andB (Nat.ble (Nat.add p.2 size) (lenL cs)) (allL (cellsR (x e)))))) (cellsOfR (getR h.blk p.1))) (asPtr (a e))
theorem rStore {n s a x f g} (ha : RX n a f) (hx : RX n x g) : RO n (oStore s a x) (fStore s f g) := fun c1 c2 _ e h r hr => by
  unfold fStore at hr
  simp only [oStore, ha e, hx e]
  cases hp : asPtr (f e) with
  | none => rw [hp] at hr; cases hr
  | some p =>
    rw [hp] at hr
    rw [asPtr_is hp]
    show (match h.blk.get p.1 with | some (.cells cs) => _ | _ => _) = _
    cases hg : h.blk.get p.1 with
    | none =>
      have hr2 : (Option.rec (motive := fun _ => Option (AV × AH)) none _ (cellsOfR (getR h.blk p.1)) : Option (AV × AH)) = some r := hr
      rw [getR_is, hg] at hr2; cases hr2
    | some b =>
      have hr2 : (Option.rec (motive := fun _ => Option (AV × AH)) none (fun cs => Bool.rec none (some (.tup [], putR h p.1 (.cells (appL (takeL p.2 cs) (appL (cellsR (g e)) (dropL (Nat.add p.2 s) cs))))))
        (andB (Nat.beq (lenL (cellsR (g e))) s) (andB (Nat.ble (Nat.add p.2 s) (lenL cs)) (allL (cellsR (g e)))))) (cellsOfR (getR h.blk p.1)) : Option (AV × AH)) = some r := hr
      rw [getR_is, hg] at hr2
      cases b with
      | map es c => cases hr2
      | cells cs =>
        have hr3 : (Bool.rec none (some (.tup [], putR h p.1 (.cells (appL (takeL p.2 cs) (appL (cellsR (g e)) (dropL (Nat.add p.2 s) cs))))))
          (andB (Nat.beq (lenL (cellsR (g e))) s) (andB (Nat.ble (Nat.add p.2 s) (lenL cs)) (allL (cellsR (g e))))) : Option (AV × AH)) = some r := hr2
        cases hb : andB (Nat.beq (lenL (cellsR (g e))) s) (andB (Nat.ble (Nat.add p.2 s) (lenL cs)) (allL (cellsR (g e)))) with
        | false => rw [hb] at hr3; cases hr3
        | true =>
          rw [hb] at hr3
          have hr4 : some (AV.tup [], putR h p.1 (.cells (appL (takeL p.2 cs) (appL (cellsR (g e)) (dropL (Nat.add p.2 s) cs))))) = some r := hr3
          obtain ⟨q1, q2⟩ := andB_is hb
          obtain ⟨q2, q3⟩ := andB_is q2
          have q1 := Nat.eq_of_beq_eq_true q1
          have q2 := Nat.le_of_ble_eq_true q2
          rw [lenL_is, cellsR_is] at q1
          rw [lenL_is] at q2
          rw [allL_is, cellsR_is] at q3
          dsimp only
          rw [if_pos ⟨q1, q2, q3⟩, ← hr4, putR_is, appL_is, appL_is, takeL_is, dropL_is, cellsR_is, List.append_assoc]
          rfl
noncomputable def fNil (x : FX) : FO := fun _ e h => Bool.rec none (some (x e, h)) (addrLike (x e))
theorem rNil {n x f} (hx : RX n x f) : RO n (oNil x) (fNil f) := fun c1 c2 _ e h r hr => by
  unfold fNil at hr
  simp only [oNil, hx e]
  cases hb : addrLike (f e) with
  | false => rw [hb] at hr; cases hr
  | true =>
    rw [hb] at hr
    rcases addrLike_is hb with ⟨i, o, hv⟩ | ⟨c, o, s, hv⟩ | ⟨g, l, hv⟩ | ⟨g, l, hv⟩ <;> rw [hv] at hr ⊢ <;> exact hr
noncomputable def fArith (op : BinOp) (i : IntKind → Int → Int → AV) (x y : FX) : FO := fun _ e h => Option.rec (motive := fun _ => Option (AV × AH)) (oArith op (xC (x e)) (xC (y e)) c0 [] h)
  (fun p => Option.rec (motive := fun _ => Option (AV × AH)) none (fun q => Bool.rec none (some (i p.1 p.2 q.2, h)) (Nat.beq (kIdx p.1) (kIdx q.1))) (asInt (y e))) (asInt (x e))
theorem rArith {n op i x y f g} (hi : ∀ k a b, aarith op (.int k a) (.int k b) = some (i k a b)) (hx : RX n x f) (hy : RX n y g) : RO n (oArith op x y) (fArith op i f g) := fun c1 c2 _ e h r hr => by
  unfold fArith at hr
  cases hp : asInt (f e) with
  | none => rw [hp] at hr; simp only [oArith, hx e, hy e]; exact hr
  | some p =>
    rw [hp] at hr
    have hr2 : (Option.rec (motive := fun _ => Option (AV × AH)) none (fun q => Bool.rec none (some (i p.1 p.2 q.2, h)) (Nat.beq (kIdx p.1) (kIdx q.1))) (asInt (g e)) : Option (AV × AH)) = some r := hr
    cases hq : asInt (g e) with
    | none => rw [hq] at hr2; cases hr2
    | some q =>
      rw [hq] at hr2
      have hr3 : (Bool.rec none (some (i p.1 p.2 q.2, h)) (Nat.beq (kIdx p.1) (kIdx q.1)) : Option (AV × AH)) = some r := hr2
      cases hb : Nat.beq (kIdx p.1) (kIdx q.1) with
      | false => rw [hb] at hr3; cases hr3
      | true =>
        rw [hb] at hr3
        have hk := kIdx_inj hb
        simp only [oArith, hx e, hy e, asInt_is hp, asInt_is hq, ← hk, hi]
        exact hr3
noncomputable def iAdd (k : IntKind) (a b : Int) : AV := .int k (wrapF k (Int.add a b))
noncomputable def iSub (k : IntKind) (a b : Int) : AV := .int k (wrapF k (Int.sub a b))
noncomputable def iMul (k : IntKind) (a b : Int) : AV := .int k (wrapF k (Int.mul a b))
noncomputable def iLss (k : IntKind) (a b : Int) : AV := .bool (ltI a b)
noncomputable def iLeq (k : IntKind) (a b : Int) : AV := .bool (leI a b)
noncomputable def iGtr (k : IntKind) (a b : Int) : AV := .bool (ltI b a)
noncomputable def iGeq (k : IntKind) (a b : Int) : AV := .bool (leI b a)
theorem iAdd_is (k a b) : aarith .add (.int k a) (.int k b) = some (iAdd k a b) := by simp only [aarith, if_true, iAdd, wrapF_is]; rfl
theorem iSub_is (k a b) : aarith .sub (.int k a) (.int k b) = some (iSub k a b) := by simp only [aarith, if_true, iSub, wrapF_is]; rfl
theorem iMul_is (k a b) : aarith .mul (.int k a) (.int k b) = some (iMul k a b) := by simp only [aarith, if_true, iMul, wrapF_is]; rfl
theorem iLss_is (k a b) : aarith .lss (.int k a) (.int k b) = some (iLss k a b) := by simp only [aarith, if_true, iLss, ltI_is]
theorem iLeq_is (k a b) : aarith .leq (.int k a) (.int k b) = some (iLeq k a b) := by simp only [aarith, if_true, iLeq, leI_is]
theorem iGtr_is (k a b) : aarith .gtr (.int k a) (.int k b) = some (iGtr k a b) := by simp only [aarith, if_true, iGtr, ltI_is]
theorem iGeq_is (k a b) : aarith .geq (.int k a) (.int k b) = some (iGeq k a b) := by simp only [aarith, if_true, iGeq, leI_is]
noncomputable def fArithG (op : BinOp) (x y : FX) : FO := fun _ e h => oArith op (xC (x e)) (xC (y e)) c0 [] h
theorem rArithG {n op x y f g} (hx : RX n x f) (hy : RX n y g) : RO n (oArith op x y) (fArithG op f g) := fun c1 c2 _ e h r hr => by simp only [oArith, hx e, hy e]; exact hr
noncomputable def fShr (x y : FX) : FO := fun _ e h => oShr (xC (x e)) (xC (y e)) c0 [] h
theorem rShr {n x y f g} (hx : RX n x f) (hy : RX n y g) : RO n (oShr x y) (fShr f g) := fun c1 c2 _ e h r hr => by simp only [oShr, hx e, hy e]; exact hr
noncomputable def fShl (x y : FX) : FO := fun _ e h => oShl (xC (x e)) (xC (y e)) c0 [] h
theorem rShl {n x y f g} (hx : RX n x f) (hy : RX n y g) : RO n (oShl x y) (fShl f g) := fun c1 c2 _ e h r hr => by simp only [oShl, hx e, hy e]; exact hr
noncomputable def negB (neg b : Bool) : Bool := Bool.rec b (Bool.rec true false b) neg
theorem negB_is (neg b : Bool) : negB neg b = (match neg with | true => !b | false => b) := by cases neg <;> cases b <;> rfl
noncomputable def fEqI (neg : Bool) (x y : FX) : FO := fun _ e h => Option.rec (motive := fun _ => Option (AV × AH)) none
  (fun p => Option.rec (motive := fun _ => Option (AV × AH)) none (fun q => Bool.rec none (some (.bool (negB neg (eqI p.2 q.2)), h)) (Nat.beq (kIdx p.1) (kIdx q.1))) (asInt (y e))) (asInt (x e))
theorem rEqI {n neg x y f g} (hx : RX n x f) (hy : RX n y g) : RO n (oEq neg 1 x y) (fEqI neg f g) := fun c1 c2 _ e h r hr => by
  unfold fEqI at hr
  cases hp : asInt (f e) with
  | none => rw [hp] at hr; cases hr
  | some p =>
    rw [hp] at hr
    have hr2 : (Option.rec (motive := fun _ => Option (AV × AH)) none (fun q => Bool.rec none (some (.bool (negB neg (eqI p.2 q.2)), h)) (Nat.beq (kIdx p.1) (kIdx q.1))) (asInt (g e)) : Option (AV × AH)) = some r := hr
    cases hq : asInt (g e) with
    | none => rw [hq] at hr2; cases hr2
    | some q =>
      rw [hq] at hr2
      have hr3 : (Bool.rec none (some (.bool (negB neg (eqI p.2 q.2)), h)) (Nat.beq (kIdx p.1) (kIdx q.1)) : Option (AV × AH)) = some r := hr2
      cases hb : Nat.beq (kIdx p.1) (kIdx q.1) with
      | false => rw [hb] at hr3; cases hr3
      | true =>
        rw [hb] at hr3
        have hk := kIdx_inj hb
        simp only [oEq, hx e, hy e, asInt_is hp, asInt_is hq, ← hk, scalarEq]
        have hr4 : some (AV.bool (negB neg (eqI p.2 q.2)), h) = some r := hr3
        rw [← hr4, negB_is, eqI_is]
        first | rfl | (simp; done) | (cases neg <;> simp)
theorem toList_beq (a b : ByteArray) : eqL a.data.toList b.data.toList = (a.toList == b.toList) := by rw [eqL_is, ByteArray.toList_eq, ByteArray.toList_eq]
noncomputable def fEqS' (neg : Bool) (x y : FX) : FO := fun _ e h => Option.rec (motive := fun _ => Option (AV × AH)) none
  (fun p => Option.rec (motive := fun _ => Option (AV × AH)) none (fun q => some (.bool (negB neg (eqL p.data.toList q.data.toList)), h)) (asStr (y e))) (asStr (x e))
theorem rEqS {n neg x y f g} (hx : RX n x f) (hy : RX n y g) : RO n (oEq neg 2 x y) (fEqS' neg f g) := fun c1 c2 _ e h r hr => by
  unfold fEqS' at hr
  cases hp : asStr (f e) with
  | none => rw [hp] at hr; cases hr
  | some p =>
    rw [hp] at hr
    have hr2 : (Option.rec (motive := fun _ => Option (AV × AH)) none (fun q => some (.bool (negB neg (eqL p.data.toList q.data.toList)), h)) (asStr (g e)) : Option (AV × AH)) = some r := hr
    cases hq : asStr (g e) with
    | none => rw [hq] at hr2; cases hr2
    | some q =>
      rw [hq] at hr2
      have hr4 : some (AV.bool (negB neg (eqL p.data.toList q.data.toList)), h) = some r := hr2
      simp only [oEq, hx e, hy e, asStr_is hp, asStr_is hq, scalarEq, if_true]
      rw [← hr4, negB_is, toList_beq]
      first | rfl | (simp; done) | (cases neg <;> simp)
noncomputable def fEqG (neg : Bool) (m : Nat) (x y : FX) : FO := fun _ e h => oEq neg m (xC (x e)) (xC (y e)) c0 [] h
theorem rEqG {n neg m x y f g} (hx : RX n x f) (hy : RX n y g) : RO n (oEq neg m x y) (fEqG neg m f g) := fun c1 c2 _ e h r hr => by simp only [oEq, hx e, hy e]; exact hr
noncomputable def fNot (x : FX) : FO := fun _ e h => Option.rec (motive := fun _ => Option (AV × AH)) none (fun b => some (.bool (Bool.rec true false b), h)) (asBool (x e))
theorem rNot {n x f} (hx : RX n x f) : RO n (oNot x) (fNot f) := fun c1 c2 _ e h r hr => by
  unfold fNot at hr
  simp only [oNot, hx e]
  cases hp : asBool (f e) with
  | none => rw [hp] at hr; cases hr
  | some b => rw [hp] at hr; rw [asBool_is hp, ← hr]; cases b <;> rfl
noncomputable def fNeg (x : FX) : FO := fun _ e h => oNeg (xC (x e)) c0 [] h
theorem rNeg {n x f} (hx : RX n x f) : RO n (oNeg x) (fNeg f) := fun c1 c2 _ e h r hr => by simp only [oNeg, hx e]; exact hr
noncomputable def fConv (k : IntKind) (x : FX) : FO := fun _ e h => Option.rec (motive := fun _ => Option (AV × AH)) none (fun p => some (.int k (wrapF k p.2), h)) (asInt (x e))
theorem rConv {n k x f} (hx : RX n x f) : RO n (oConv k x) (fConv k f) := fun c1 c2 _ e h r hr => by
  unfold fConv at hr
  simp only [oConv, hx e]
  cases hp : asInt (f e) with
  | none => rw [hp] at hr; cases hr
  | some p =>
    rw [hp] at hr
    have hr2 : some (AV.int k (wrapF k p.2), h) = some r := hr
    rw [asInt_is hp, ← hr2, wrapF_is]
noncomputable def fFn (f : FuncId) (l : List FX) : FO := fun _ e h => some (.fn f (valsF l e), h)
theorem rFn {n f l m} (hl : RL n l m) : RO n (oFn f l) (fFn f m) := fun c1 c2 _ e h r hr => by simp only [oFn, vals_is hl e]; exact hr
noncomputable def fMfn (f : FuncId) (l : List FX) : FO := fun _ e h => some (.mfn f (valsF l e), h)
theorem rMfn {n f l m} (hl : RL n l m) : RO n (oMfn f l) (fMfn f m) := fun c1 c2 _ e h r hr => by simp only [oMfn, vals_is hl e]; exact hr
noncomputable def fMin (x y : FX) : FO := fun _ e h => oMin (xC (x e)) (xC (y e)) c0 [] h
theorem rMin {n x y f g} (hx : RX n x f) (hy : RX n y g) : RO n (oMin x y) (fMin f g) := fun c1 c2 _ e h r hr => by simp only [oMin, hx e, hy e]; exact hr
noncomputable def fMax (x y : FX) : FO := fun _ e h => oMax (xC (x e)) (xC (y e)) c0 [] h
theorem rMax {n x y f g} (hx : RX n x f) (hy : RX n y g) : RO n (oMax x y) (fMax f g) := fun c1 c2 _ e h r hr => by simp only [oMax, hx e, hy e]; exact hr
noncomputable def optF (x : Option FX) (e : EV) : Option AV := Option.rec (motive := fun _ => Option AV) none (fun f => some (f e)) x
inductive ROp (n : Nat) : Option AX → Option FX → Prop where
  | none : ROp n none none
  | some {x f} (h : RX n x f) : ROp n (some x) (some f)
theorem opt_is {n : Nat} {x : Option AX} {f : Option FX} (h : ROp n x f) (e : EV) : opt x (tk n e) = optF f e := by
  cases h with
  | none => rfl
  | some h => show some _ = some _; rw [h e]
noncomputable def bhiR (n : Nat) (v : Option AV) : Option Nat := Option.rec (motive := fun _ => Option Nat) (some n) (fun v => Option.rec (motive := fun _ => Option Nat) none (fun p => Bool.rec none (some p.2.toNat) (andB (leI (Int.ofNat 0) p.2) (leI p.2 (Int.ofNat n)))) (asInt v)) v
theorem bhiR_is {n : Nat} {v : Option AV} {q : Nat} (h : bhiR n v = some q) : bhi n v = some q := by
  cases v with
  | none => exact h
  | some v =>
    have h1 : (Option.rec (motive := fun _ => Option Nat) none (fun p => Bool.rec none (some p.2.toNat) (andB (leI (Int.ofNat 0) p.2) (leI p.2 (Int.ofNat n)))) (asInt v) : Option Nat) = some q := h
    cases hp : asInt v with
    | none => rw [hp] at h1; cases h1
    | some p =>
      rw [hp] at h1
      have h2 : (Bool.rec none (some p.2.toNat) (andB (leI (Int.ofNat 0) p.2) (leI p.2 (Int.ofNat n))) : Option Nat) = some q := h1
      cases hb : andB (leI (Int.ofNat 0) p.2) (leI p.2 (Int.ofNat n)) with
      | false => rw [hb] at h2; cases h2
      | true =>
        rw [hb] at h2
        obtain ⟨q1, q2⟩ := andB_is hb
        rw [leI_is, decide_eq_true_iff] at q1 q2
        rw [asInt_is hp]
        simp only [bhi]
        rw [if_pos ⟨q1, q2⟩]; exact h2
noncomputable def bloR (n : Nat) (v : Option AV) : Option Nat := Option.rec (motive := fun _ => Option Nat) (some 0) (fun v => bhiR n (some v)) v
theorem bloR_is {n : Nat} {v : Option AV} {q : Nat} (h : bloR n v = some q) : blo n v = some q := by
  cases v with
  | none => exact h
  | some v =>
    have h1 := bhiR_is (show bhiR n (some v) = some q from h)
    unfold bhi at h1
    unfold blo
    split at h1
    · rename_i e; cases e
    · rename_i k b e
      simp only [Option.some.injEq] at e; subst e
      exact h1
    · cases h1
theorem extract_list (s : ByteArray) (p q : Nat) : s.extract p q = ⟨⟨takeL (Nat.sub q p) (dropL p s.data.toList)⟩⟩ := by
  rw [takeL_is, dropL_is]
  apply ByteArray.ext
  rw [ByteArray.data_extract]
  apply Array.ext'
  rw [Array.toList_extract, List.extract_eq_take_drop]
  rfl
noncomputable def fCutstr (x : FX) (lo hi : Option FX) : FO := fun _ e h => Option.rec (motive := fun _ => Option (AV × AH)) none (fun s => Option.rec (motive := fun _ => Option (AV × AH)) none
  (fun q => Option.rec (motive := fun _ => Option (AV × AH)) none (fun p => some (.str ⟨⟨takeL (Nat.sub q p) (dropL p s.data.toList)⟩⟩, h)) (bloR q (optF lo e))) (bhiR (lenL s.data.toList) (optF hi e))) (asStr (x e))
theorem size_len (s : ByteArray) : s.size = lenL s.data.toList := by rw [lenL_is]; rfl
theorem rCutstr {n x lo hi f fl fh} (hx : RX n x f) (hl : ROp n lo fl) (hh : ROp n hi fh) : RO n (oCutstr x lo hi) (fCutstr f fl fh) := fun c1 c2 _ e h r hr => by
  unfold fCutstr at hr
  simp only [oCutstr, hx e, opt_is hl e, opt_is hh e]
  cases hs : asStr (f e) with
  | none => rw [hs] at hr; cases hr
  | some s =>
    rw [hs] at hr
    have hr1 : (Option.rec (motive := fun _ => Option (AV × AH)) none (fun q => Option.rec (motive := fun _ => Option (AV × AH)) none (fun p => some (.str ⟨⟨takeL (Nat.sub q p) (dropL p s.data.toList)⟩⟩, h)) (bloR q (optF fl e))) (bhiR (lenL s.data.toList) (optF fh e)) : Option (AV × AH)) = some r := hr
    cases hq : bhiR (lenL s.data.toList) (optF fh e) with
    | none => rw [hq] at hr1; cases hr1
    | some q =>
      rw [hq] at hr1
      have hr2 : (Option.rec (motive := fun _ => Option (AV × AH)) none (fun p => some (.str ⟨⟨takeL (Nat.sub q p) (dropL p s.data.toList)⟩⟩, h)) (bloR q (optF fl e)) : Option (AV × AH)) = some r := hr1
      cases hp : bloR q (optF fl e) with
      | none => rw [hp] at hr2; cases hr2
      | some p =>
        rw [hp] at hr2
        have hr3 : some (AV.str ⟨⟨takeL (Nat.sub q p) (dropL p s.data.toList)⟩⟩, h) = some r := hr2
        rw [asStr_is hs]
        have hb : bounds s.size (optF fl e) (optF fh e) = some (p, q) := by
          unfold bounds
          rw [size_len, bhiR_is hq]
          dsimp only
          rw [bloR_is hp]
        dsimp only
        rw [hb]
        dsimp only
        rw [← hr3, extract_list]
noncomputable def fCutrow (size : Nat) (x : FX) (lo hi : Option FX) : FO := fun _ e h => oCutrow size (xC (x e)) (Option.rec (motive := fun _ => Option AX) none (fun f => some (xC (f e))) lo) (Option.rec (motive := fun _ => Option AX) none (fun f => some (xC (f e))) hi) c0 [] h
theorem opt_xC (x : Option FX) (e : EV) : opt (Option.rec (motive := fun _ => Option AX) none (fun f => some (xC (f e))) x) [] = optF x e := by cases x <;> rfl
theorem rCutrow {n s x lo hi f fl fh} (hx : RX n x f) (hl : ROp n lo fl) (hh : ROp n hi fh) : RO n (oCutrow s x lo hi) (fCutrow s f fl fh) := fun c1 c2 _ e h r hr => by
  unfold fCutrow at hr
  simp only [oCutrow, hx e, opt_is hl e, opt_is hh e]
  simp only [oCutrow, opt_xC] at hr
  exact hr
noncomputable def fFaddr (off : Nat) (x : FX) : FO := fun _ e h => Option.rec (motive := fun _ => Option (AV × AH)) (oFaddr off (xC (x e)) c0 [] h) (fun p => some (.ptr p.1 (Nat.add p.2 off), h)) (asPtr (x e))
theorem rFaddr {n o x f} (hx : RX n x f) : RO n (oFaddr o x) (fFaddr o f) := fun c1 c2 _ e h r hr => by
  unfold fFaddr at hr
  cases hp : asPtr (f e) with
  | none => rw [hp] at hr; simp only [oFaddr, hx e]; exact hr
  | some p => rw [hp] at hr; simp only [oFaddr, hx e, asPtr_is hp]; exact hr
noncomputable def fField (off : Nat) (q : Option Nat) (x : FX) : FO := fun _ e h => Option.rec (motive := fun _ => Option (AV × AH)) none (fun cs => Option.rec (motive := fun _ => Option (AV × AH)) none (fun v => some (v, h)) (partR q cs off)) (asAgg (x e))
theorem rField {n o q x f} (hx : RX n x f) : RO n (oField o q x) (fField o q f) := fun c1 c2 _ e h r hr => by
  unfold fField at hr
  simp only [oField, hx e]
  cases hp : asAgg (f e) with
  | none => rw [hp] at hr; cases hr
  | some cs =>
    rw [hp] at hr; rw [asAgg_is hp]
    have hr1 : (Option.rec (motive := fun _ => Option (AV × AH)) none (fun v => some (v, h)) (partR q cs o) : Option (AV × AH)) = some r := hr
    rw [partR_is] at hr1
    dsimp only
    cases hv : apart cs o q with
    | none => rw [hv] at hr1; cases hr1
    | some v => rw [hv] at hr1; exact hr1
noncomputable def fIaddr (size : Nat) (x i : FX) : FO := fun _ e h => Option.rec (motive := fun _ => Option (AV × AH)) none (fun p => Option.rec (motive := fun _ => Option (AV × AH)) none
  (fun q => Bool.rec none (some (.eptr p.1 (Nat.mul q.2.toNat size) p.2.2, h)) (andB (leI (Int.ofNat 0) q.2) (andB (ltI q.2 (Int.ofNat p.2.1)) (Nat.beq p.2.2.size size)))) (asInt (i e))) (asRow (x e))
theorem rIaddr {n s x i f g} (hx : RX n x f) (hi : RX n i g) : RO n (oIaddr s x i) (fIaddr s f g) := fun c1 c2 _ e h r hr => by
  unfold fIaddr at hr
  simp only [oIaddr, hx e, hi e]
  cases hp : asRow (f e) with
  | none => rw [hp] at hr; cases hr
  | some p =>
    rw [hp] at hr
    have hr1 : (Option.rec (motive := fun _ => Option (AV × AH)) none (fun q => Bool.rec none (some (.eptr p.1 (Nat.mul q.2.toNat s) p.2.2, h)) (andB (leI (Int.ofNat 0) q.2) (andB (ltI q.2 (Int.ofNat p.2.1)) (Nat.beq p.2.2.size s)))) (asInt (g e)) : Option (AV × AH)) = some r := hr
    cases hq : asInt (g e) with
    | none => rw [hq] at hr1; cases hr1
    | some q =>
      rw [hq] at hr1
      have hr2 : (Bool.rec none (some (.eptr p.1 (Nat.mul q.2.toNat s) p.2.2, h)) (andB (leI (Int.ofNat 0) q.2) (andB (ltI q.2 (Int.ofNat p.2.1)) (Nat.beq p.2.2.size s))) : Option (AV × AH)) = some r := hr1
      cases hb : andB (leI (Int.ofNat 0) q.2) (andB (ltI q.2 (Int.ofNat p.2.1)) (Nat.beq p.2.2.size s)) with
      | false => rw [hb] at hr2; cases hr2
      | true =>
        rw [hb] at hr2
        obtain ⟨q1, q2⟩ := andB_is hb
        obtain ⟨q2, q3⟩ := andB_is q2
        rw [leI_is, decide_eq_true_iff] at q1
        rw [ltI_is, decide_eq_true_iff] at q2
        rw [asRow_is hp, asInt_is hq]
        dsimp only
        rw [if_pos ⟨q1, q2, Nat.eq_of_beq_eq_true q3⟩]
        exact hr2
noncomputable def fIdx (x i : FX) : FO := fun _ e h => Option.rec (motive := fun _ => Option (AV × AH)) none (fun s => Option.rec (motive := fun _ => Option (AV × AH)) none
  (fun q => Bool.rec none (Option.rec (motive := fun _ => Option (AV × AH)) none (fun b => some (.int .u8 (Int.ofNat b.toNat), h)) (idxL q.2.toNat s.data.toList)) (leI (Int.ofNat 0) q.2)) (asInt (i e))) (asStr (x e))
theorem rIdx {n x i f g} (hx : RX n x f) (hi : RX n i g) : RO n (oIdx x i) (fIdx f g) := fun c1 c2 _ e h r hr => by
  unfold fIdx at hr
  simp only [oIdx, hx e, hi e]
  cases hp : asStr (f e) with
  | none => rw [hp] at hr; cases hr
  | some s =>
    rw [hp] at hr
    have hr1 : (Option.rec (motive := fun _ => Option (AV × AH)) none (fun q => Bool.rec none (Option.rec (motive := fun _ => Option (AV × AH)) none (fun b => some (.int .u8 (Int.ofNat b.toNat), h)) (idxL q.2.toNat s.data.toList)) (leI (Int.ofNat 0) q.2)) (asInt (g e)) : Option (AV × AH)) = some r := hr
    cases hq : asInt (g e) with
    | none => rw [hq] at hr1; cases hr1
    | some q =>
      rw [hq] at hr1
      have hr2 : (Bool.rec none (Option.rec (motive := fun _ => Option (AV × AH)) none (fun b => some (.int .u8 (Int.ofNat b.toNat), h)) (idxL q.2.toNat s.data.toList)) (leI (Int.ofNat 0) q.2) : Option (AV × AH)) = some r := hr1
      cases hb : leI (Int.ofNat 0) q.2 with
      | false => rw [hb] at hr2; cases hr2
      | true =>
        rw [hb] at hr2
        have hr3 : (Option.rec (motive := fun _ => Option (AV × AH)) none (fun b => some (.int .u8 (Int.ofNat b.toNat), h)) (idxL q.2.toNat s.data.toList) : Option (AV × AH)) = some r := hr2
        rw [leI_is, decide_eq_true_iff] at hb
        have hb : (0 : Int) ≤ q.2 := hb
        rw [idxL_is] at hr3
        rw [asStr_is hp, asInt_is hq]
        dsimp only
        rw [if_pos hb]
        cases hv : s.data.toList[q.2.toNat]? with
        | none => rw [hv] at hr3; cases hr3
        | some b => rw [hv] at hr3; exact hr3
noncomputable def fExtract (x : FX) (k : Nat) : FO := fun _ e h => Option.rec (motive := fun _ => Option (AV × AH)) none (fun vs => Option.rec (motive := fun _ => Option (AV × AH)) none (fun v => some (v, h)) (idxL k vs)) (asTup (x e))
theorem rExtract {n k x f} (hx : RX n x f) : RO n (oExtract x k) (fExtract f k) := fun c1 c2 _ e h r hr => by
  unfold fExtract at hr
  simp only [oExtract, hx e]
  cases hp : asTup (f e) with
  | none => rw [hp] at hr; cases hr
  | some vs =>
    rw [hp] at hr; rw [asTup_is hp]
    have hr1 : (Option.rec (motive := fun _ => Option (AV × AH)) none (fun v => some (v, h)) (idxL k vs) : Option (AV × AH)) = some r := hr
    rw [idxL_is] at hr1
    dsimp only
    cases hv : vs[k]? with
    | none => rw [hv] at hr1; cases hr1
    | some v => rw [hv] at hr1; exact hr1
noncomputable def fLenS (x : FX) : FO := fun _ e h => Option.rec (motive := fun _ => Option (AV × AH)) none (fun s => some (.int .i64 (Int.ofNat (lenL s.data.toList)), h)) (asStr (x e))
theorem rLenS {n x f} (hx : RX n x f) : RO n (oLenS x) (fLenS f) := fun c1 c2 _ e h r hr => by
  unfold fLenS at hr
  simp only [oLenS, hx e]
  cases hp : asStr (f e) with
  | none => rw [hp] at hr; cases hr
  | some s =>
    rw [hp] at hr; rw [asStr_is hp]
    have hr1 : some (AV.int .i64 (Int.ofNat (lenL s.data.toList)), h) = some r := hr
    rw [← hr1, ← size_len]; rfl
noncomputable def fLenR (x : FX) : FO := fun _ e h => Option.rec (motive := fun _ => Option (AV × AH)) (Bool.rec none (some (.int .i64 (Int.ofNat 0), h)) (isNilrow (x e))) (fun p => some (.int .i64 (Int.ofNat p.2.1), h)) (asRow (x e))
theorem rLenR {n x f} (hx : RX n x f) : RO n (oLenR x) (fLenR f) := fun c1 c2 _ e h r hr => by
  unfold fLenR at hr
  simp only [oLenR, hx e]
  cases hp : asRow (f e) with
  | some p => rw [hp] at hr; rw [asRow_is hp]; exact hr
  | none =>
    rw [hp] at hr
    have hr1 : (Bool.rec none (some (.int .i64 (Int.ofNat 0), h)) (isNilrow (f e)) : Option (AV × AH)) = some r := hr
    cases hb : isNilrow (f e) with
    | false => rw [hb] at hr1; cases hr1
    | true => rw [hb] at hr1; rw [isNilrow_is hb]; exact hr1
noncomputable def fLenM (x : FX) : FO := fun _ e h => oLenM (xC (x e)) c0 [] h
theorem rLenM {n x f} (hx : RX n x f) : RO n (oLenM x) (fLenM f) := fun c1 c2 _ e h r hr => by simp only [oLenM, hx e]; exact hr
noncomputable def fAppend (s b : Nat) (x y : FX) : FO := fun _ e h => oAppend s b (xC (x e)) (xC (y e)) c0 [] h
theorem rAppend {n s b x y f g} (hx : RX n x f) (hy : RX n y g) : RO n (oAppend s b x y) (fAppend s b f g) := fun c1 c2 _ e h r hr => by simp only [oAppend, hx e, hy e]; exact hr
noncomputable def fCall (f : FuncId) (l : List FX) : FO := fun c e h => c f (valsF l e) h
theorem rCall {n f l m} (hl : RL n l m) : RO n (oCall f l) (fCall f m) := fun c1 c2 hc e h r hr => by simp only [oCall, vals_is hl e]; exact hc _ _ _ _ hr
noncomputable def fCallv (x : FX) (l : List FX) : FO := fun c e h => Option.rec (motive := fun _ => Option (AV × AH)) (Option.rec (motive := fun _ => Option (AV × AH)) none (fun p => c p.1 (appL p.2 (valsF l e)) h) (asMfn (x e))) (fun p => c p.1 (appL (valsF l e) p.2) h) (asFn (x e))
theorem rCallv {n x f l m} (hx : RX n x f) (hl : RL n l m) : RO n (oCallv x l) (fCallv f m) := fun c1 c2 hc e h r hr => by
  unfold fCallv at hr
  simp only [oCallv, hx e, vals_is hl e]
  cases hp : asFn (f e) with
  | none =>
    rw [hp] at hr
    have hr : (Option.rec (motive := fun _ => Option (AV × AH)) none (fun p => c1 p.1 (appL p.2 (valsF m e)) h) (asMfn (f e)) : Option (AV × AH)) = some r := hr
    cases hq : asMfn (f e) with
    | none => rw [hq] at hr; cases hr
    | some p =>
      rw [hq] at hr; rw [asMfn_is hq]
      have hr1 : c1 p.1 (appL p.2 (valsF m e)) h = some r := hr
      rw [appL_is] at hr1
      exact hc _ _ _ _ hr1
  | some p =>
    rw [hp] at hr; rw [asFn_is hp]
    have hr1 : c1 p.1 (appL (valsF m e) p.2) h = some r := hr
    rw [appL_is] at hr1
    exact hc _ _ _ _ hr1
noncomputable def fMap : FO := fun _ e h => oMap c0 [] h
theorem rMap {n} : RO n oMap fMap := fun c1 c2 _ e h r hr => hr
noncomputable def fLookup (q : Nat) (z : AV) (ok : Bool) (m k : FX) : FO := fun _ e h => oLookup q z ok (xC (m e)) (xC (k e)) c0 [] h
theorem rLookup {n q z ok m k f g} (hm : RX n m f) (hk : RX n k g) : RO n (oLookup q z ok m k) (fLookup q z ok f g) := fun c1 c2 _ e h r hr => by simp only [oLookup, hm e, hk e]; exact hr
noncomputable def fSet (q : Nat) (m k v : FX) : FO := fun _ e h => oSet q (xC (m e)) (xC (k e)) (xC (v e)) c0 [] h
theorem rSet {n q m k v f g w} (hm : RX n m f) (hk : RX n k g) (hv : RX n v w) : RO n (oSet q m k v) (fSet q f g w) := fun c1 c2 _ e h r hr => by simp only [oSet, hm e, hk e, hv e]; exact hr
noncomputable def fDelete (q : Nat) (m k : FX) : FO := fun _ e h => oDelete q (xC (m e)) (xC (k e)) c0 [] h
theorem rDelete {n q m k f g} (hm : RX n m f) (hk : RX n k g) : RO n (oDelete q m k) (fDelete q f g) := fun c1 c2 _ e h r hr => by simp only [oDelete, hm e, hk e]; exact hr
end Go.Proofs.Ytadohhhjpbhhoaa.EvA
