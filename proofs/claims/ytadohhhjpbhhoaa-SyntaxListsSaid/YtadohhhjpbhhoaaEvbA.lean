/- Code told once for both forms, the evaluator's and the quick one, with the proof that they say the same. Printed by a program of this work (wip/tools/mkb.py). -/
import Derived.Test.YtadohhhjpbhhoaaEvfE
namespace Go.Proofs.Ytadohhhjpbhhoaa.EvA
set_option linter.unusedVariables false
set_option linter.unusedSimpArgs false
/-! more operations in the quick form -/
noncomputable def fIaddrA (l s : Nat) (x y : FX) : FO := fun _ e h => oIaddrA l s (xC (x e)) (xC (y e)) c0 [] h
theorem rIaddrA {n l s x y f g} (hx : RX n x f) (hy : RX n y g) : RO n (oIaddrA l s x y) (fIaddrA l s f g) := fun c1 c2 _ e h r hr => by simp only [oIaddrA, hx e, hy e]; exact hr
noncomputable def fEqSt (neg : Bool) (l : List (Nat × Nat)) (x y : FX) : FO := fun _ e h => oEqS neg l (xC (x e)) (xC (y e)) c0 [] h
theorem rEqSt {n neg l x y f g} (hx : RX n x f) (hy : RX n y g) : RO n (oEqS neg l x y) (fEqSt neg l f g) := fun c1 c2 _ e h r hr => by simp only [oEqS, hx e, hy e]; exact hr
noncomputable def fMake (s b : Nat) (z : List AV) (x y : FX) : FO := fun _ e h => oMake s b z (xC (x e)) (xC (y e)) c0 [] h
theorem rMake {n s b z x y f g} (hx : RX n x f) (hy : RX n y g) : RO n (oMake s b z x y) (fMake s b z f g) := fun c1 c2 _ e h r hr => by simp only [oMake, hx e, hy e]; exact hr
noncomputable def fText (x : FX) : FO := fun _ e h => oText (xC (x e)) c0 [] h
theorem rText {n x f} (hx : RX n x f) : RO n (oText x) (fText f) := fun c1 c2 _ e h r hr => by simp only [oText, hx e]; exact hr
noncomputable def mapL (g : AV → AV) (l : List AV) : List AV := List.rec (motive := fun _ => List AV) [] (fun a _ ih => g a :: ih) l
theorem mapL_is (g : AV → AV) (l : List AV) : mapL g l = l.map g := by
  induction l with
  | nil => rfl
  | cons a l ih => show g a :: mapL g l = _; rw [ih]; rfl
/-- A store into an element of a row that a cell holds. -/
noncomputable def elemPF (size : Nat) (x v : FX) (p : Option FX) (e : EV) (h : AH) : Option (EV × AH) := Option.rec (motive := fun _ => Option (EV × AH)) none
  (fun q => Option.rec (motive := fun _ => Option (EV × AH)) (some q) (fun g => Option.rec (motive := fun _ => Option (EV × AH)) (some q) (fun ep => Option.rec (motive := fun _ => Option (EV × AH)) (some q)
    (fun pp => Option.rec (motive := fun _ => Option (EV × AH)) (some q) (fun l => some (q.1, putR q.2 pp.1 (.cells (mapL (swapF ep.2.2.id ep.2.2.pos (lenL ep.1) ep.2.2.size ⟨ep.2.2.fam, h.rnext, ep.2.2.pos, ep.2.2.size⟩ (appL (takeL ep.2.1 ep.1) (appL (cellsR (v e)) (dropL (Nat.add ep.2.1 size) ep.1)))) l)))) (cellsOfR (getR h.blk pp.1))) (asPtr (g e))) (asEptr (x e))) p) (elemF size x v e h)
theorem elemPF_is {n size : Nat} {kx kv : AX} {kp : Option AX} {x v : FX} {p : Option FX} (hx : RX n kx x) (hv : RX n kv v) (hp : ROp n kp p) {e e' : EV} {h h' : AH} (hr : elemPF size x v p e h = some (e', h')) : oElemP size kx kv kp (tk n e) h = some (tk n e', h') := by
  unfold elemPF at hr
  unfold oElemP
  cases hq : elemF size x v e h with
  | none => rw [hq] at hr; cases hr
  | some q =>
    rw [hq] at hr
    rw [elemF_is hx hv (e' := q.1) (h' := q.2) hq]
    dsimp only
    have two : some q = some (e', h') → some (tk n q.1, q.2) = some (tk n e', h') := fun h => by
      obtain rfl := Option.some.inj h; rfl
    cases hp with
    | none => exact two hr
    | some hg =>
      rename_i ka g
      dsimp only
      rw [hx e, hg e]
      have hr : (Option.rec (motive := fun _ => Option (EV × AH)) (some q) (fun ep => Option.rec (motive := fun _ => Option (EV × AH)) (some q)
        (fun pp => Option.rec (motive := fun _ => Option (EV × AH)) (some q) (fun l => some (q.1, putR q.2 pp.1 (.cells (mapL (swapF ep.2.2.id ep.2.2.pos (lenL ep.1) ep.2.2.size ⟨ep.2.2.fam, h.rnext, ep.2.2.pos, ep.2.2.size⟩ (appL (takeL ep.2.1 ep.1) (appL (cellsR (v e)) (dropL (Nat.add ep.2.1 size) ep.1)))) l)))) (cellsOfR (getR h.blk pp.1))) (asPtr (g e))) (asEptr (x e)) : Option (EV × AH)) = some (e', h') := hr
      cases hep : asEptr (x e) with
      | none =>
        rw [hep] at hr
        unfold elemF at hq
        rw [hep] at hq; cases hq
      | some ep =>
        rw [hep] at hr
        rw [asEptr_is hep]
        have hr : (Option.rec (motive := fun _ => Option (EV × AH)) (some q)
          (fun pp => Option.rec (motive := fun _ => Option (EV × AH)) (some q) (fun l => some (q.1, putR q.2 pp.1 (.cells (mapL (swapF ep.2.2.id ep.2.2.pos (lenL ep.1) ep.2.2.size ⟨ep.2.2.fam, h.rnext, ep.2.2.pos, ep.2.2.size⟩ (appL (takeL ep.2.1 ep.1) (appL (cellsR (v e)) (dropL (Nat.add ep.2.1 size) ep.1)))) l)))) (cellsOfR (getR h.blk pp.1))) (asPtr (g e)) : Option (EV × AH)) = some (e', h') := hr
        cases hpp : asPtr (g e) with
        | none =>
          rw [hpp] at hr
          have hr := two hr
          cases hge : g e <;> first | exact hr | (rw [hge] at hpp; cases hpp)
        | some pp =>
          rw [hpp] at hr
          rw [asPtr_is hpp]
          have hr : (Option.rec (motive := fun _ => Option (EV × AH)) (some q) (fun l => some (q.1, putR q.2 pp.1 (.cells (mapL (swapF ep.2.2.id ep.2.2.pos (lenL ep.1) ep.2.2.size ⟨ep.2.2.fam, h.rnext, ep.2.2.pos, ep.2.2.size⟩ (appL (takeL ep.2.1 ep.1) (appL (cellsR (v e)) (dropL (Nat.add ep.2.1 size) ep.1)))) l)))) (cellsOfR (getR h.blk pp.1)) : Option (EV × AH)) = some (e', h') := hr
          rw [getR_is] at hr
          show (match h.blk.get pp.1 with | some (.cells l) => _ | _ => _) = _
          cases hb : h.blk.get pp.1 with
          | none => rw [hb] at hr; exact two hr
          | some b =>
            rw [hb] at hr
            cases b with
            | map es c => exact two hr
            | cells l =>
              have hr : some (q.1, putR q.2 pp.1 (.cells (mapL (swapF ep.2.2.id ep.2.2.pos (lenL ep.1) ep.2.2.size ⟨ep.2.2.fam, h.rnext, ep.2.2.pos, ep.2.2.size⟩ (appL (takeL ep.2.1 ep.1) (appL (cellsR (v e)) (dropL (Nat.add ep.2.1 size) ep.1)))) l))) = some (e', h') := hr
              simp only [Option.some.injEq, Prod.mk.injEq] at hr
              obtain ⟨rfl, rfl⟩ := hr
              dsimp only
              congr 2
              rw [putR_is, mapL_is, hv e]
              congr 2
              refine List.map_congr_left fun w _ => ?_
              rw [swapF_is, lenL_is, appL_is, appL_is, takeL_is, dropL_is, cellsR_is, List.append_assoc]
              rfl
noncomputable def fEl (size : Nat) (x v : FX) (p : Option FX) (rest : FR) : FR := fun c e h => Option.rec (motive := fun _ => Option (EV × AH)) none (fun q => rest c q.1 q.2) (elemPF size x v p e h)
theorem rEl {n size kx kv kp x v p k g} (hx : RX n kx x) (hv : RX n kv v) (hp : ROp n kp p) (hk : RR n k g) : RR n (kEl size kx kv kp k) (fEl size x v p g) := fun c1 c2 hc e h e' h' hr => by
  unfold fEl at hr
  unfold kEl
  cases hq : elemPF size x v p e h with
  | none => rw [hq] at hr; cases hr
  | some q =>
    rw [hq] at hr
    rw [elemPF_is hx hv hp (e' := q.1) (h' := q.2) hq]
    exact hk c1 c2 hc _ _ _ _ hr
/-! both at once -/
namespace B
abbrev Ok (m : Nat) (p : Nat → Prop) : Prop := ∀ n, m ≤ n → p n
theorem ok2 {a b n : Nat} (h : Nat.max a b ≤ n) : a ≤ n ∧ b ≤ n := ⟨Nat.le_trans (Nat.le_max_left ..) h, Nat.le_trans (Nat.le_max_right ..) h⟩
structure BT (t : Nat) where
  g : FX
  h : ∀ e, g e = nth (toL8 e) t
theorem BT.r {t : Nat} (b : BT t) : Ok (t + 1) fun n => RX n (xT t) b.g := fun n hn => rT b.h (Nat.ble_eq_true_of_le hn)
structure BS (d : Nat) where
  s : AV → EV → EV
  h : ∀ v e, toL8 (s v e) = upd (toL8 e) v d
theorem BS.r {d : Nat} (b : BS d) {n : Nat} : RS n d b.s := rS b.h
structure BX where
  x : AX
  f : FX
  m : Nat
  r : Ok m fun n => RX n x f
structure BL where
  x : List AX
  f : List FX
  m : Nat
  r : Ok m fun n => RL n x f
structure BP where
  x : List (Nat × Nat × AX)
  f : List (Nat × Nat × FX)
  m : Nat
  r : Ok m fun n => RP' n x f
structure BW where
  x : Option AX
  f : Option FX
  m : Nat
  r : Ok m fun n => ROp n x f
structure BO where
  x : KO
  f : FO
  m : Nat
  r : Ok m fun n => RO n x f
structure BR where
  x : KR
  f : FR
  m : Nat
  r : Ok m fun n => RR n x f
structure BK where
  x : KC
  f : FC
  m : Nat
  r : Ok m fun n => RC n x f
structure BQ where
  x : KS
  f : FR
  m : Nat
  r : Ok m fun n => RR n x f
structure BQs where
  x : List KS
  f : List FR
  m : Nat
  r : Ok m fun n => RLs n x f
structure BCk where
  x : List (KO × Nat × List Nat)
  f : List (FO × FX × List Nat)
  m : Nat
  r : Ok m fun n => RCk n x f
structure BV where
  x : Tmps → AH → Option AV
  f : FV
  m : Nat
  r : Ok m fun n => RVq n x f
structure BVs where
  x : List (Tmps → AH → Option AV)
  f : List FV
  m : Nat
  r : Ok m fun n => RVs' n x f
noncomputable def yu (t : Nat) (u : BT t) : BX := ⟨xT t, u.g, t + 1, u.r⟩
noncomputable def yC (v : AV) : BX := ⟨xC v, fC v, 0, fun n _ => rC⟩
noncomputable def yF (f : FuncId) : BX := ⟨xF f, fF f, 0, fun n _ => rF⟩
noncomputable def bn : BL := ⟨[], [], 0, fun n _ => .nil⟩
noncomputable def bc (a : BX) (l : BL) : BL := ⟨a.x :: l.x, a.f :: l.f, Nat.max a.m l.m, fun n h => .cons (a.r n (ok2 h).1) (l.r n (ok2 h).2)⟩
noncomputable def pn : BP := ⟨[], [], 0, fun n _ => .nil⟩
noncomputable def pc (p q : Nat) (a : BX) (l : BP) : BP := ⟨(p, q, a.x) :: l.x, (p, q, a.f) :: l.f, Nat.max a.m l.m, fun n h => .cons (a.r n (ok2 h).1) (l.r n (ok2 h).2)⟩
noncomputable def wn : BW := ⟨none, none, 0, fun n _ => .none⟩
noncomputable def ws (a : BX) : BW := ⟨some a.x, some a.f, a.m, fun n h => .some (a.r n h)⟩
noncomputable def bMv  (a : BX) : BO := ⟨oMove  a.x, fMove  a.f, a.m, fun n h => rMove (a.r n h)⟩
noncomputable def bPk  (a : BX) (b : BX) (c : BX) : BO := ⟨oPick  a.x b.x c.x, fPick  a.f b.f c.f, (Nat.max a.m (Nat.max b.m c.m)), fun n h => rPick (a.r n (ok2 h).1) (b.r n (ok2 (ok2 h).2).1) (c.r n (ok2 (ok2 h).2).2)⟩
noncomputable def bBx (s : Nat) (a : BX) : BO := ⟨oBox s a.x, fBox s a.f, a.m, fun n h => rBox (a.r n h)⟩
noncomputable def bBu (z : List AV) (a : BP) : BO := ⟨oBuild z a.x, fBuild z a.f, a.m, fun n h => rBuild (a.r n h)⟩
noncomputable def bRw (l : Nat) (s : Nat) (z : List AV) (a : BP) : BO := ⟨oRow l s z a.x, fRow l s z a.f, a.m, fun n h => rRow (a.r n h)⟩
noncomputable def bRz (l : Nat) (s : Nat) (z : List AV) (a : BP) : BO := ⟨oRowZ l s z a.x, fRowZ l s z a.f, a.m, fun n h => rRowZ (a.r n h)⟩
noncomputable def bLd (q : Option Nat) (a : BX) : BO := ⟨oLoad q a.x, fLoad q a.f, a.m, fun n h => rLoad (a.r n h)⟩
noncomputable def bSt (s : Nat) (a : BX) (b : BX) : BO := ⟨oStore s a.x b.x, fStore s a.f b.f, (Nat.max a.m b.m), fun n h => rStore (a.r n (ok2 h).1) (b.r n (ok2 h).2)⟩
noncomputable def bNc  (a : BX) : BO := ⟨oNil  a.x, fNil  a.f, a.m, fun n h => rNil (a.r n h)⟩
noncomputable def bAdd (a b : BX) : BO := ⟨oArith .add a.x b.x, fArith .add iAdd a.f b.f, (Nat.max a.m b.m), fun n h => rArith iAdd_is (a.r n (ok2 h).1) (b.r n (ok2 h).2)⟩
noncomputable def bSub (a b : BX) : BO := ⟨oArith .sub a.x b.x, fArith .sub iSub a.f b.f, (Nat.max a.m b.m), fun n h => rArith iSub_is (a.r n (ok2 h).1) (b.r n (ok2 h).2)⟩
noncomputable def bMul (a b : BX) : BO := ⟨oArith .mul a.x b.x, fArith .mul iMul a.f b.f, (Nat.max a.m b.m), fun n h => rArith iMul_is (a.r n (ok2 h).1) (b.r n (ok2 h).2)⟩
noncomputable def bLss (a b : BX) : BO := ⟨oArith .lss a.x b.x, fArith .lss iLss a.f b.f, (Nat.max a.m b.m), fun n h => rArith iLss_is (a.r n (ok2 h).1) (b.r n (ok2 h).2)⟩
noncomputable def bLeq (a b : BX) : BO := ⟨oArith .leq a.x b.x, fArith .leq iLeq a.f b.f, (Nat.max a.m b.m), fun n h => rArith iLeq_is (a.r n (ok2 h).1) (b.r n (ok2 h).2)⟩
noncomputable def bGtr (a b : BX) : BO := ⟨oArith .gtr a.x b.x, fArith .gtr iGtr a.f b.f, (Nat.max a.m b.m), fun n h => rArith iGtr_is (a.r n (ok2 h).1) (b.r n (ok2 h).2)⟩
noncomputable def bGeq (a b : BX) : BO := ⟨oArith .geq a.x b.x, fArith .geq iGeq a.f b.f, (Nat.max a.m b.m), fun n h => rArith iGeq_is (a.r n (ok2 h).1) (b.r n (ok2 h).2)⟩
noncomputable def bAr (o : BinOp) (a : BX) (b : BX) : BO := ⟨oArith o a.x b.x, fArithG o a.f b.f, (Nat.max a.m b.m), fun n h => rArithG (a.r n (ok2 h).1) (b.r n (ok2 h).2)⟩
noncomputable def bSr  (a : BX) (b : BX) : BO := ⟨oShr  a.x b.x, fShr  a.f b.f, (Nat.max a.m b.m), fun n h => rShr (a.r n (ok2 h).1) (b.r n (ok2 h).2)⟩
noncomputable def bSl  (a : BX) (b : BX) : BO := ⟨oShl  a.x b.x, fShl  a.f b.f, (Nat.max a.m b.m), fun n h => rShl (a.r n (ok2 h).1) (b.r n (ok2 h).2)⟩
noncomputable def bEi (g : Bool) (a b : BX) : BO := ⟨oEq g 1 a.x b.x, fEqI g a.f b.f, (Nat.max a.m b.m), fun n h => rEqI (a.r n (ok2 h).1) (b.r n (ok2 h).2)⟩
noncomputable def bEs (g : Bool) (a b : BX) : BO := ⟨oEq g 2 a.x b.x, fEqS' g a.f b.f, (Nat.max a.m b.m), fun n h => rEqS (a.r n (ok2 h).1) (b.r n (ok2 h).2)⟩
noncomputable def bEg (g : Bool) (k : Nat) (a : BX) (b : BX) : BO := ⟨oEq g k a.x b.x, fEqG g k a.f b.f, (Nat.max a.m b.m), fun n h => rEqG (a.r n (ok2 h).1) (b.r n (ok2 h).2)⟩
noncomputable def bEt (g : Bool) (l : List (Nat × Nat)) (a : BX) (b : BX) : BO := ⟨oEqS g l a.x b.x, fEqSt g l a.f b.f, (Nat.max a.m b.m), fun n h => rEqSt (a.r n (ok2 h).1) (b.r n (ok2 h).2)⟩
noncomputable def bNt  (a : BX) : BO := ⟨oNot  a.x, fNot  a.f, a.m, fun n h => rNot (a.r n h)⟩
noncomputable def bNg  (a : BX) : BO := ⟨oNeg  a.x, fNeg  a.f, a.m, fun n h => rNeg (a.r n h)⟩
noncomputable def bCv (k : IntKind) (a : BX) : BO := ⟨oConv k a.x, fConv k a.f, a.m, fun n h => rConv (a.r n h)⟩
noncomputable def bFn (f : FuncId) (a : BL) : BO := ⟨oFn f a.x, fFn f a.f, a.m, fun n h => rFn (a.r n h)⟩
noncomputable def bMf (f : FuncId) (a : BL) : BO := ⟨oMfn f a.x, fMfn f a.f, a.m, fun n h => rMfn (a.r n h)⟩
noncomputable def bMi  (a : BX) (b : BX) : BO := ⟨oMin  a.x b.x, fMin  a.f b.f, (Nat.max a.m b.m), fun n h => rMin (a.r n (ok2 h).1) (b.r n (ok2 h).2)⟩
noncomputable def bMa  (a : BX) (b : BX) : BO := ⟨oMax  a.x b.x, fMax  a.f b.f, (Nat.max a.m b.m), fun n h => rMax (a.r n (ok2 h).1) (b.r n (ok2 h).2)⟩
noncomputable def bCs  (a : BX) (b : BW) (c : BW) : BO := ⟨oCutstr  a.x b.x c.x, fCutstr  a.f b.f c.f, (Nat.max a.m (Nat.max b.m c.m)), fun n h => rCutstr (a.r n (ok2 h).1) (b.r n (ok2 (ok2 h).2).1) (c.r n (ok2 (ok2 h).2).2)⟩
noncomputable def bCr (s : Nat) (a : BX) (b : BW) (c : BW) : BO := ⟨oCutrow s a.x b.x c.x, fCutrow s a.f b.f c.f, (Nat.max a.m (Nat.max b.m c.m)), fun n h => rCutrow (a.r n (ok2 h).1) (b.r n (ok2 (ok2 h).2).1) (c.r n (ok2 (ok2 h).2).2)⟩
noncomputable def bFa (o : Nat) (a : BX) : BO := ⟨oFaddr o a.x, fFaddr o a.f, a.m, fun n h => rFaddr (a.r n h)⟩
noncomputable def bFi (o : Nat) (q : Option Nat) (a : BX) : BO := ⟨oField o q a.x, fField o q a.f, a.m, fun n h => rField (a.r n h)⟩
noncomputable def bIa (s : Nat) (a : BX) (b : BX) : BO := ⟨oIaddr s a.x b.x, fIaddr s a.f b.f, (Nat.max a.m b.m), fun n h => rIaddr (a.r n (ok2 h).1) (b.r n (ok2 h).2)⟩
noncomputable def bIA (l : Nat) (s : Nat) (a : BX) (b : BX) : BO := ⟨oIaddrA l s a.x b.x, fIaddrA l s a.f b.f, (Nat.max a.m b.m), fun n h => rIaddrA (a.r n (ok2 h).1) (b.r n (ok2 h).2)⟩
noncomputable def bIx  (a : BX) (b : BX) : BO := ⟨oIdx  a.x b.x, fIdx  a.f b.f, (Nat.max a.m b.m), fun n h => rIdx (a.r n (ok2 h).1) (b.r n (ok2 h).2)⟩
noncomputable def bEx (k : Nat) (a : BX) : BO := ⟨oExtract a.x k, fExtract a.f k, a.m, fun n h => rExtract (a.r n h)⟩
noncomputable def bLs  (a : BX) : BO := ⟨oLenS  a.x, fLenS  a.f, a.m, fun n h => rLenS (a.r n h)⟩
noncomputable def bLr  (a : BX) : BO := ⟨oLenR  a.x, fLenR  a.f, a.m, fun n h => rLenR (a.r n h)⟩
noncomputable def bLm  (a : BX) : BO := ⟨oLenM  a.x, fLenM  a.f, a.m, fun n h => rLenM (a.r n h)⟩
noncomputable def bAp (s : Nat) (y : Nat) (a : BX) (b : BX) : BO := ⟨oAppend s y a.x b.x, fAppend s y a.f b.f, (Nat.max a.m b.m), fun n h => rAppend (a.r n (ok2 h).1) (b.r n (ok2 h).2)⟩
noncomputable def bCl (f : FuncId) (a : BL) : BO := ⟨oCall f a.x, fCall f a.f, a.m, fun n h => rCall (a.r n h)⟩
noncomputable def bCw  (a : BX) (b : BL) : BO := ⟨oCallv  a.x b.x, fCallv  a.f b.f, (Nat.max a.m b.m), fun n h => rCallv (a.r n (ok2 h).1) (b.r n (ok2 h).2)⟩
noncomputable def bMm : BO := ⟨oMap, fMap, 0, fun n h => rMap⟩
noncomputable def bLu (q : Nat) (z : AV) (o : Bool) (a : BX) (b : BX) : BO := ⟨oLookup q z o a.x b.x, fLookup q z o a.f b.f, (Nat.max a.m b.m), fun n h => rLookup (a.r n (ok2 h).1) (b.r n (ok2 h).2)⟩
noncomputable def bMs (q : Nat) (a : BX) (b : BX) (c : BX) : BO := ⟨oSet q a.x b.x c.x, fSet q a.f b.f c.f, (Nat.max a.m (Nat.max b.m c.m)), fun n h => rSet (a.r n (ok2 h).1) (b.r n (ok2 (ok2 h).2).1) (c.r n (ok2 (ok2 h).2).2)⟩
noncomputable def bDe (q : Nat) (a : BX) (b : BX) : BO := ⟨oDelete q a.x b.x, fDelete q a.f b.f, (Nat.max a.m b.m), fun n h => rDelete (a.r n (ok2 h).1) (b.r n (ok2 h).2)⟩
noncomputable def bMk (s : Nat) (y : Nat) (z : List AV) (a : BX) (b : BX) : BO := ⟨oMake s y z a.x b.x, fMake s y z a.f b.f, (Nat.max a.m b.m), fun n h => rMake (a.r n (ok2 h).1) (b.r n (ok2 h).2)⟩
noncomputable def bTx  (a : BX) : BO := ⟨oText  a.x, fText  a.f, a.m, fun n h => rText (a.r n h)⟩
noncomputable def rn : BR := ⟨kEnd, fEnd, 0, fun n _ => rEnd⟩
noncomputable def rd (d : Nat) (s : BS d) (a : BO) (r : BR) : BR := ⟨kDo d a.x r.x, fDo s.s a.f r.f, Nat.max a.m r.m, fun n h => rDo s.r (a.r n (ok2 h).1) (r.r n (ok2 h).2)⟩
noncomputable def rz (a : BO) (r : BR) : BR := ⟨kDo0 a.x r.x, fDo0 a.f r.f, Nat.max a.m r.m, fun n h => rDo0 (a.r n (ok2 h).1) (r.r n (ok2 h).2)⟩
noncomputable def ri (t : Nat) (g : BT t) (w : Bool) (d : Nat) (s : BS d) (a : BO) (r : BR) : BR := ⟨kIf t w d a.x r.x, fIf g.g w s.s a.f r.f, Nat.max (t + 1) (Nat.max a.m r.m), fun n h => rIf (g.r n (ok2 h).1) s.r (a.r n (ok2 (ok2 h).2).1) (r.r n (ok2 (ok2 h).2).2)⟩
noncomputable def re (s : Nat) (a v : BX) (p : BW) (r : BR) : BR := ⟨kEl s a.x v.x p.x r.x, fEl s a.f v.f p.f r.f, Nat.max a.m (Nat.max v.m (Nat.max p.m r.m)), fun n h => rEl (a.r n (ok2 h).1) (v.r n (ok2 (ok2 h).2).1) (p.r n (ok2 (ok2 (ok2 h).2).2).1) (r.r n (ok2 (ok2 (ok2 h).2).2).2)⟩
noncomputable def qd (d : Nat) (s : BS d) (a : BO) : BQ := ⟨sDo d a.x, tDo s.s a.f, a.m, fun n h => qDo s.r (a.r n h)⟩
noncomputable def qz (a : BO) : BQ := ⟨sDo0 a.x, tDo0 a.f, a.m, fun n h => qDo0 (a.r n h)⟩
noncomputable def qi (t : Nat) (g : BT t) (w : Bool) (d : Nat) (s : BS d) (a : BO) : BQ := ⟨sIf t w d a.x, tIf g.g w s.s a.f, Nat.max (t + 1) a.m, fun n h => qIf (g.r n (ok2 h).1) s.r (a.r n (ok2 h).2)⟩
noncomputable def ln : BQs := ⟨[], [], 0, fun n _ => .nil⟩
noncomputable def lc (a : BQ) (l : BQs) : BQs := ⟨a.x :: l.x, a.f :: l.f, Nat.max a.m l.m, fun n h => .cons (a.r n (ok2 h).1) (l.r n (ok2 h).2)⟩
noncomputable def gv (t : Nat) (g : BT t) (w : Bool) (a : BO) : BO := ⟨gVal t w a.x, fGv g.g w a.f, Nat.max (t + 1) a.m, fun n h => rGv (g.r n (ok2 h).1) (a.r n (ok2 h).2)⟩
noncomputable def kn : BCk := ⟨[], [], 0, fun n _ => .nil⟩
noncomputable def kc (a : BO) (d : Nat) (g : BT d) (i : List Nat) (l : BCk) : BCk := ⟨(a.x, d, i) :: l.x, (a.f, g.g, i) :: l.f, Nat.max a.m (Nat.max (d + 1) l.m), fun n h => .cons (a.r n (ok2 h).1) (g.r n (ok2 (ok2 h).2).1) (l.r n (ok2 (ok2 h).2).2)⟩
noncomputable def rf (k : Nat) (l : BQs) (c : BCk) : BR := ⟨kFl k l.x c.x, fFl k l.f c.f, Nat.max l.m c.m, fun n h => rFl (l.r n (ok2 h).1) (c.r n (ok2 h).2)⟩
noncomputable def rp (l : BQs) (k : Nat) (hk : l.x.length = k) (s : Nat) (a v : BX) (y : BO) : BR := ⟨kIp l.x s a.x v.x y.x, fIp l.f k s a.f v.f y.f, Nat.max l.m (Nat.max a.m (Nat.max v.m y.m)), fun n h => rIp (l.r n (ok2 h).1) hk (a.r n (ok2 (ok2 h).2).1) (v.r n (ok2 (ok2 (ok2 h).2).2).1) (y.r n (ok2 (ok2 (ok2 h).2).2).2)⟩
noncomputable def cg (r : BR) : BK := ⟨kReg r.x, fReg r.f, r.m, fun n h => rReg (r.r n h)⟩
noncomputable def cd (r : BR) (a : BX) (l : BL) : BK := ⟨kRegD r.x a.x l.x, fRegD r.f a.f l.f, Nat.max r.m (Nat.max a.m l.m), fun n h => rRegD (r.r n (ok2 h).1) (a.r n (ok2 (ok2 h).2).1) (l.r n (ok2 (ok2 h).2).2)⟩
noncomputable def cs (a b : BK) : BK := ⟨kSeq a.x b.x, fSeq a.f b.f, Nat.max a.m b.m, fun n h => rSeq (a.r n (ok2 h).1) (b.r n (ok2 h).2)⟩
noncomputable def ci (c : BX) (a b : BK) : BK := ⟨kCond c.x a.x b.x, fCond c.f a.f b.f, Nat.max c.m (Nat.max a.m b.m), fun n h => rCond (c.r n (ok2 h).1) (a.r n (ok2 (ok2 h).2).1) (b.r n (ok2 (ok2 h).2).2)⟩
noncomputable def cb (i : Nat) (a : BK) : BK := ⟨kBlock i a.x, fBlock i a.f, a.m, fun n h => rBlock (a.r n h)⟩
noncomputable def cl (a : BK) : BK := ⟨kLoop a.x, fLoop a.f, a.m, fun n h => rLoop (a.r n h)⟩
noncomputable def ce (i : Nat) : BK := ⟨kExit i, fExit i, 0, fun n _ => rExit⟩
noncomputable def cr : BK := ⟨kRet, fRet, 0, fun n _ => rRet⟩
noncomputable def ck : BK := ⟨kSkip, fSkip, 0, fun n _ => rSkip⟩
noncomputable def cx : BK := ⟨kBad, fBad, 0, fun n _ => rBad⟩
noncomputable def vn : BV := ⟨rNone, vNone, 0, fun n _ => rvNone⟩
noncomputable def vt (t : Nat) (g : BT t) : BV := ⟨rTmp t, vTmp g.g, t + 1, fun n h => rvTmp (g.r n h)⟩
noncomputable def vc (t : Nat) (g : BT t) (q : Option Nat) : BV := ⟨rCell t q, vCell g.g q, t + 1, fun n h => rvCell (g.r n h)⟩
noncomputable def vsn : BVs := ⟨[], [], 0, fun n _ => .nil⟩
noncomputable def vsc (a : BV) (l : BVs) : BVs := ⟨a.x :: l.x, a.f :: l.f, Nat.max a.m l.m, fun n h => .cons (a.r n (ok2 h).1) (l.r n (ok2 h).2)⟩
noncomputable def vl (l : BVs) : BV := ⟨rTup l.x, vTup l.f, l.m, fun n h => rvTup (l.r n h)⟩
/-- A function, in both forms. -/
structure BF where
  a : AF
  q : FF
  r : RF a q
noncomputable def bf (n : Nat) (k : BK) (v : BV) (h : Nat.ble (Nat.max n (Nat.max k.m v.m)) n && Nat.ble n 256) : BF := ⟨⟨n, k.x, v.x⟩, ⟨n, k.f, v.f⟩, by
  rw [Bool.and_eq_true] at h
  have h1 := Nat.le_of_ble_eq_true h.1
  exact ⟨rfl, h.2, k.r n (ok2 (ok2 h1).2).1, v.r n (ok2 (ok2 h1).2).2⟩⟩
end B
end Go.Proofs.Ytadohhhjpbhhoaa.EvA
