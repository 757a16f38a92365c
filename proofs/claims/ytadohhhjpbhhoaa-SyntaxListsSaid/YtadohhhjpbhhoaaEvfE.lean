/- A quick way to reckon with the evaluator: regions that end in two stores that may change places. -/
import Derived.Test.YtadohhhjpbhhoaaEvfD
namespace Go.Proofs.Ytadohhhjpbhhoaa.EvA
set_option linter.unusedVariables false
set_option linter.unusedSimpArgs false
/-- A function on each of the temporaries. -/
noncomputable def map0 (f : AV → AV) (e : E0) : E0 := f e
noncomputable def map1 (f : AV → AV) (e : E1) : E1 := (map0 f e.1, map0 f e.2)
noncomputable def map2 (f : AV → AV) (e : E2) : E2 := (map1 f e.1, map1 f e.2)
noncomputable def map3 (f : AV → AV) (e : E3) : E3 := (map2 f e.1, map2 f e.2)
noncomputable def map4 (f : AV → AV) (e : E4) : E4 := (map3 f e.1, map3 f e.2)
noncomputable def map5 (f : AV → AV) (e : E5) : E5 := (map4 f e.1, map4 f e.2)
noncomputable def map6 (f : AV → AV) (e : E6) : E6 := (map5 f e.1, map5 f e.2)
noncomputable def map7 (f : AV → AV) (e : E7) : E7 := (map6 f e.1, map6 f e.2)
noncomputable def map8 (f : AV → AV) (e : E8) : E8 := (map7 f e.1, map7 f e.2)
theorem map0_is (f : AV → AV) (e : E0) : toL0 (map0 f e) = (toL0 e).map f := rfl
theorem map1_is (f : AV → AV) (e : E1) : toL1 (map1 f e) = (toL1 e).map f := by unfold toL1 map1; rw [appL_is, appL_is, List.map_append, map0_is, map0_is]
theorem map2_is (f : AV → AV) (e : E2) : toL2 (map2 f e) = (toL2 e).map f := by unfold toL2 map2; rw [appL_is, appL_is, List.map_append, map1_is, map1_is]
theorem map3_is (f : AV → AV) (e : E3) : toL3 (map3 f e) = (toL3 e).map f := by unfold toL3 map3; rw [appL_is, appL_is, List.map_append, map2_is, map2_is]
theorem map4_is (f : AV → AV) (e : E4) : toL4 (map4 f e) = (toL4 e).map f := by unfold toL4 map4; rw [appL_is, appL_is, List.map_append, map3_is, map3_is]
theorem map5_is (f : AV → AV) (e : E5) : toL5 (map5 f e) = (toL5 e).map f := by unfold toL5 map5; rw [appL_is, appL_is, List.map_append, map4_is, map4_is]
theorem map6_is (f : AV → AV) (e : E6) : toL6 (map6 f e) = (toL6 e).map f := by unfold toL6 map6; rw [appL_is, appL_is, List.map_append, map5_is, map5_is]
theorem map7_is (f : AV → AV) (e : E7) : toL7 (map7 f e) = (toL7 e).map f := by unfold toL7 map7; rw [appL_is, appL_is, List.map_append, map6_is, map6_is]
theorem map8_is (f : AV → AV) (e : E8) : toL8 (map8 f e) = (toL8 e).map f := by unfold toL8 map8; rw [appL_is, appL_is, List.map_append, map7_is, map7_is]
noncomputable def swapF (i p n z : Nat) (s' : Src) (cs' : List AV) (v : AV) : AV := Option.rec (motive := fun _ => AV) v (fun q => Bool.rec v (.row cs' q.2.1 s') (andB (Nat.beq q.2.2.id i) (andB (Nat.beq q.2.2.pos p) (andB (Nat.beq (lenL q.1) n) (andB (Nat.beq q.2.2.size z) (Bool.rec true false (Nat.beq q.2.2.fam 0))))))) (asRow v)
theorem swapF_is (i p n z : Nat) (s' : Src) (cs' : List AV) (v : AV) : swapF i p n z s' cs' v = swapV i p n z s' cs' v := by
  cases v with
  | row cs len s =>
    show (Bool.rec (AV.row cs len s) (.row cs' len s') (andB (Nat.beq s.id i) (andB (Nat.beq s.pos p) (andB (Nat.beq (lenL cs) n) (andB (Nat.beq s.size z) (Bool.rec true false (Nat.beq s.fam 0)))))) : AV) = _
    simp only [swapV, lenL_is, beq_dec]
    by_cases h1 : s.id = i <;> by_cases h2 : s.pos = p <;> by_cases h3 : cs.length = n <;> by_cases h4 : s.size = z <;> by_cases h5 : s.fam = 0 <;> simp [h1, h2, h3, h4, h5, andB]
  | _ => rfl
noncomputable def elemF (size : Nat) (x v : FX) (e : EV) (h : AH) : Option (EV × AH) := Option.rec (motive := fun _ => Option (EV × AH)) none
  (fun p => Bool.rec none (some (map8 (swapF p.2.2.id p.2.2.pos (lenL p.1) p.2.2.size ⟨p.2.2.fam, h.rnext, p.2.2.pos, p.2.2.size⟩ (appL (takeL p.2.1 p.1) (appL (cellsR (v e)) (dropL (Nat.add p.2.1 size) p.1)))) e, (h.grow p.2.2 (Nat.add p.2.2.pos p.2.1) (Nat.sub (lenL p.1) p.2.1)).2))
    (andB (Bool.rec true false (Nat.beq p.2.2.fam 0)) (andB (okR h p.2.2) (andB (Nat.ble 1 size) (andB (Nat.beq (lenL (cellsR (v e))) size) (andB (Nat.ble (Nat.add p.2.1 size) (lenL p.1)) (allL (cellsR (v e))))))))) (asEptr (x e))
theorem elemF_is {n size : Nat} {kx kv : AX} {x v : FX} (hx : RX n kx x) (hv : RX n kv v) {e e' : EV} {h h' : AH} (hr : elemF size x v e h = some (e', h')) : oElem size kx kv (tk n e) h = some (tk n e', h') := by
  unfold elemF at hr
  simp only [oElem, hx e, hv e]
  cases hp : asEptr (x e) with
  | none => rw [hp] at hr; cases hr
  | some p =>
    rw [hp] at hr
    rw [asEptr_is hp]
    have hr : (Bool.rec none (some (map8 (swapF p.2.2.id p.2.2.pos (lenL p.1) p.2.2.size ⟨p.2.2.fam, h.rnext, p.2.2.pos, p.2.2.size⟩ (appL (takeL p.2.1 p.1) (appL (cellsR (v e)) (dropL (Nat.add p.2.1 size) p.1)))) e, (h.grow p.2.2 (Nat.add p.2.2.pos p.2.1) (Nat.sub (lenL p.1) p.2.1)).2))
      (andB (Bool.rec true false (Nat.beq p.2.2.fam 0)) (andB (okR h p.2.2) (andB (Nat.ble 1 size) (andB (Nat.beq (lenL (cellsR (v e))) size) (andB (Nat.ble (Nat.add p.2.1 size) (lenL p.1)) (allL (cellsR (v e)))))))) : Option (EV × AH)) = some (e', h') := hr
    cases hb : andB (Bool.rec true false (Nat.beq p.2.2.fam 0)) (andB (okR h p.2.2) (andB (Nat.ble 1 size) (andB (Nat.beq (lenL (cellsR (v e))) size) (andB (Nat.ble (Nat.add p.2.1 size) (lenL p.1)) (allL (cellsR (v e))))))) with
    | false => rw [hb] at hr; cases hr
    | true =>
      rw [hb] at hr
      have hr : some (map8 (swapF p.2.2.id p.2.2.pos (lenL p.1) p.2.2.size ⟨p.2.2.fam, h.rnext, p.2.2.pos, p.2.2.size⟩ (appL (takeL p.2.1 p.1) (appL (cellsR (v e)) (dropL (Nat.add p.2.1 size) p.1)))) e, (h.grow p.2.2 (Nat.add p.2.2.pos p.2.1) (Nat.sub (lenL p.1) p.2.1)).2) = some (e', h') := hr
      obtain ⟨b1, b2⟩ := andB_is hb
      obtain ⟨b2, b3⟩ := andB_is b2
      obtain ⟨b3, b4⟩ := andB_is b3
      obtain ⟨b4, b5⟩ := andB_is b4
      obtain ⟨b5, b6⟩ := andB_is b5
      have c1 : p.2.2.fam ≠ 0 := by
        intro e0
        rw [e0] at b1; cases b1
      rw [okR_is] at b2
      have c3 : 0 < size := Nat.le_of_ble_eq_true b3
      have c4 := Nat.eq_of_beq_eq_true b4
      have c5 := Nat.le_of_ble_eq_true b5
      rw [lenL_is, cellsR_is] at c4
      rw [lenL_is] at c5
      rw [allL_is, cellsR_is] at b6
      simp only [Option.some.injEq, Prod.mk.injEq] at hr
      obtain ⟨rfl, rfl⟩ := hr
      dsimp only
      rw [if_pos ⟨c1, b2, c3, c4, c5, b6⟩]
      congr 2
      · unfold tk
        rw [map8_is, ← List.map_take]
        congr 1
        funext w
        rw [swapF_is, lenL_is, appL_is, appL_is, takeL_is, dropL_is, cellsR_is, List.append_assoc]
        rfl
      · rw [lenL_is]; rfl
noncomputable def fIp (sts : List FR) (k size : Nat) (x v : FX) (y : FO) : FR := fun c e h => Option.rec (motive := fun _ => Option (EV × AH)) none
  (fun p => Option.rec (motive := fun _ => Option (EV × AH)) none (fun h1 => Option.rec (motive := fun _ => Option (EV × AH)) none (fun q => Option.rec (motive := fun _ => Option (EV × AH)) none (fun r => some (q.1, r.2)) (y c q.1 q.2)) (elemF size x v p.1 h1)) (idxL k p.2)) (runF c sts e h)
theorem rIp {n k size : Nat} {l : List KS} {m : List FR} {kx kv : AX} {x v : FX} {ky : KO} {y : FO} (hl : RLs n l m) (hlen : l.length = k) (hx : RX n kx x) (hv : RX n kv v) (hy : RO n ky y) : RR n (kIp l size kx kv ky) (fIp m k size x v y) := fun c1 c2 hc e h e' h' hr => by
  unfold fIp at hr
  unfold kIp
  cases hp : runF c1 m e h with
  | none => rw [hp] at hr; cases hr
  | some p =>
    rw [hp] at hr
    rw [runF_is hc hl hp]
    dsimp only
    have hr : (Option.rec (motive := fun _ => Option (EV × AH)) none (fun h1 => Option.rec (motive := fun _ => Option (EV × AH)) none (fun q => Option.rec (motive := fun _ => Option (EV × AH)) none (fun r => some (q.1, r.2)) (y c1 q.1 q.2)) (elemF size x v p.1 h1)) (idxL k p.2) : Option (EV × AH)) = some (e', h') := hr
    rw [idxL_is] at hr
    rw [hlen]
    cases hi : p.2[k]? with
    | none => rw [hi] at hr; cases hr
    | some h1 =>
      rw [hi] at hr
      have hr : (Option.rec (motive := fun _ => Option (EV × AH)) none (fun q => Option.rec (motive := fun _ => Option (EV × AH)) none (fun r => some (q.1, r.2)) (y c1 q.1 q.2)) (elemF size x v p.1 h1) : Option (EV × AH)) = some (e', h') := hr
      dsimp only
      cases hq : elemF size x v p.1 h1 with
      | none => rw [hq] at hr; cases hr
      | some q =>
        rw [hq] at hr
        rw [elemF_is hx hv (e' := q.1) (h' := q.2) hq]
        have hr : (Option.rec (motive := fun _ => Option (EV × AH)) none (fun r => some (q.1, r.2)) (y c1 q.1 q.2) : Option (EV × AH)) = some (e', h') := hr
        dsimp only
        cases hz : y c1 q.1 q.2 with
        | none => rw [hz] at hr; cases hr
        | some r =>
          rw [hz] at hr
          have hr : some (q.1, r.2) = some (e', h') := hr
          simp only [Option.some.injEq, Prod.mk.injEq] at hr
          obtain ⟨rfl, rfl⟩ := hr
          rw [hy c1 c2 hc q.1 q.2 r hz]
end Go.Proofs.Ytadohhhjpbhhoaa.EvA
