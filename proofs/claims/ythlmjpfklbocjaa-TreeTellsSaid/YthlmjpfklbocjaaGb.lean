/- Walks of patterns: steps, what they take; both matches are one. -/
import Derived.Test.YthlmjpfklbocjaaGa
namespace Go.Proofs.Ythlmjpfklbocjaa.EvA
attribute [local irreducible] oMove oPick oBox oBuild oRow oRowZ oLoad oStore oNil oArith oEq oEqS oShr oShl oNot oNeg oConv oFn oMfn oMin oMax oCutstr oCutrow oFaddr oField oIaddr oIaddrA oIdx oExtract oLenS oLenR oLenM oAppend oCall oCallv oMap oLookup oSet oDelete kDo kDo0 kIf kEl kClr oMake oText kEnd kReg kSeq kCond kBlock kLoop kSkip kExit kRet xT xC xF kFl kIp sDo sDo0 sIf gVal
set_option linter.unusedVariables false
set_option linter.unusedSimpArgs false
set_option maxHeartbeats 4000000
variable {fs fs' : List Fact}
def litIt (c : Nat) : It := ⟨0, c, [], [], false, true⟩
def wildIt (c : Nat) : It := ⟨c, 0, [], [], false, false⟩
def itemAt (t : List UInt8) (L : List Bool) (i c : Nat) : It := if lvB L i = true then (if c = 42 ∨ c = 63 then wildIt c else if c = 91 then (match brk t L i with
    | some e => setIt t L i e
    | none => litIt c) else litIt c) else litIt c
def itemsB (t : List UInt8) (L : List Bool) : Nat → Nat → List It
  | 0, i => []
  | r + 1, i => match t[i]? with
    | some b => itemAt t L i b.toNat :: itemsB t L r (nextB t L i)
    | none => []
theorem RV.fr {size n : Nat} {v : AV} {cs : List AV} (h : RV fs size v cs n) (hf : ∀ y, Has fs y → Has fs' y) : RV fs' size v cs n := by
  cases h with
  | nil => exact .nil
  | row h1 h2 =>
    refine .row ?_ h2
    cases h1 with
    | frz h => exact .frz h
    | own h => exact .own (hf _ h)
theorem RV.of {size n : Nat} {v : AV} {cs : List AV} {fsA b : List Fact} (h : AR size v cs n fsA) : RV (fsA ++ b) size v cs n := by
  cases h with
  | nil => exact .nil
  | own h => exact .row (.own .here) rfl
inductive ItV (fs : List Fact) : List It → List AV → Prop
  | nil : ItV fs [] []
  | snoc {l : List It} {cs : List AV} {x : It} {dv : AV} : ItV fs l cs → RV fs 1 dv (x.dash.map .bool) x.dash.length → ItV fs (l ++ [x]) (cs ++ x.cells dv)
theorem ItV.fr {l : List It} {cs : List AV} (h : ItV fs l cs) (hf : ∀ y, Has fs y → Has fs' y) : ItV fs' l cs := by
  induction h with
  | nil => exact .nil
  | snoc _ h2 ih => exact .snoc ih (h2.fr hf)
theorem cells_len (x : It) (dv : AV) : (x.cells dv).length = 6 := rfl
theorem ItV.len {l : List It} {cs : List AV} (h : ItV fs l cs) : cs.length = l.length * 6 := by
  induction h with
  | nil => rfl
  | snoc _ _ ih => rw [List.length_append, ih, cells_len, List.length_append]; simp only [List.length_cons, List.length_nil]; omega
theorem ItV.get {l : List It} {cs : List AV} (h : ItV fs l cs) {i : Nat} {x : It} (hx : l[i]? = some x) : ∃ dv, (cs.drop (i * 6)).take 6 = x.cells dv ∧ RV fs 1 dv (x.dash.map .bool) x.dash.length := by
  induction h with
  | nil => simp at hx
  | @snoc l cs y dv h1 h2 ih =>
    have hl := h1.len
    by_cases hi : i < l.length
    · rw [List.getElem?_append_left hi] at hx
      obtain ⟨dv, h3, h4⟩ := ih hx
      refine ⟨dv, ?_, h4⟩
      rw [List.drop_append_of_le_length (by omega), List.take_append_of_le_length (by rw [List.length_drop]; omega)]
      exact h3
    · rw [List.getElem?_append_right (by omega)] at hx
      have : i = l.length := by
        have := (List.getElem?_eq_some_iff.1 hx).1
        simp at this; omega
      subst this
      rw [Nat.sub_self] at hx
      simp at hx; subst hx
      refine ⟨dv, ?_, h2⟩
      rw [← hl, List.drop_left]; rfl
theorem perm_mid {a : Fact} {d : List Fact} {R : List Fact} : (d ++ a :: R).Perm (a :: (d ++ R)) := List.perm_middle
theorem nextB_is {t : List UInt8} {L : List Bool} {i : Nat} (h : brk t L i = none) : nextB t L i = i + 1 := by unfold nextB; rw [h]
theorem brk_91 {T : ByteArray} {L : List Bool} {i : Nat} {y : UInt8} (hy : T.data.toList[i]? = some y) (h : ¬ (lvB L i = true ∧ y.toNat = 91)) : brk T.data.toList L i = none := by
  unfold brk
  rw [isB_in hy, if_neg]
  simp only [Bool.and_eq_true, decide_eq_true_eq]; exact h
theorem it_loop {T : ByteArray} {lw : AV} {L : List Bool} {b : Nat} (hT : T.size ≤ 1000000) (hv : RV fs 1 lw (L.map .bool) L.length) {lf : List It} {Q : AO → Env → List Fact → Prop}
    (hQ : ∀ en v cs fo ds, AR 6 v cs lf.length fo → ItV ds lf cs → Sub en [(3, v)] → Q (.exit 0) en (fo ++ (ds ++ .blk b (.cells [.str T, lw]) :: fs))) :
    ∀ (rr i : Nat) (l : List It) (v : AV) (cs : List AV) (fo ds : List Fact), T.size - i ≤ rr → l.length ≤ i → i ≤ T.size → l ++ itemsB T.data.toList L rr i = lf → AR 6 v cs l.length fo → ItV ds l cs →
    WL sW ftab lb36_0 50 [(1, .ptr b 0), (3, v), (4, .int .i64 i)] (fo ++ (ds ++ .blk b (.cells [.str T, lw]) :: fs)) Q := by
  intro rr
  have stop : ∀ (i : Nat) (v : AV) (cs : List AV) (fo ds : List Fact), ¬ i < T.size → AR 6 v cs lf.length fo → ItV ds lf cs → WL sW ftab lb36_0 50 [(1, .ptr b 0), (3, v), (4, .int .i64 i)] (fo ++ (ds ++ .blk b (.cells [.str T, lw]) :: fs)) Q := by
    intro i v cs fo ds hi hA hI
    have hb : Has (fo ++ (ds ++ .blk b (.cells [.str T, lw]) :: fs)) (.blk b (.cells [.str T, lw])) := Has.app (Has.app .here)
    refine l_round ?_
    refine cgo ?_
    refine g_do rfl (o_load (xt rfl) hb rfl ?_)
    refine cgo ?_
    refine g_do rfl (o_lss (xt rfl) (xt rfl) (fun h => by omega) (fun h => ?_))
    refine cgo ?_
    exact hQ _ v cs fo ds hA hI (.cons rfl .nil)
  induction rr with
  | zero =>
    intro i l v cs fo ds hr hl hi hlf hA hI
    rw [itemsB, List.append_nil] at hlf
    subst hlf
    exact stop i v cs fo ds (by omega) hA hI
  | succ rr ih =>
    intro i l v cs fo ds hr hl hi hlf hA hI
    unfold itemsB at hlf
    by_cases hlt : i < T.size
    · obtain ⟨y, hy⟩ := tget hlt
      rw [hy] at hlf
      simp only at hlf
      have hnx := nextB_lt T.data.toList L i
      rw [bsz] at hnx
      have hb : Has (fo ++ (ds ++ .blk b (.cells [.str T, lw]) :: fs)) (.blk b (.cells [.str T, lw])) := Has.app (Has.app .here)
      have hv1 : RV (fo ++ (ds ++ .blk b (.cells [.str T, lw]) :: fs)) 1 lw (L.map .bool) L.length := RV.app (RV.app hv.cons)
      refine l_round ?_
      refine cgo ?_
      refine g_do rfl (o_load (xt rfl) hb rfl ?_)
      refine cgo ?_
      refine g_do rfl (o_lss (xt rfl) (xt rfl) (fun h => ?_) (fun h => by omega))
      refine cgo ?_
      refine w_block ?_
      refine cgo ?_
      refine g_do rfl (o_load (xt rfl) hb rfl ?_)
      refine cgo ?_
      refine g_do rfl (o_idx (b := y) (xt rfl) (xt rfl) (by omega) (by rw [Int.toNat_natCast]; exact hy) ?_)
      refine cgo ?_
      refine g_do rfl (o_box xc rfl fun x6 => ?_)
      refine cgo ?_
      refine g_sub (e' := [(5, .int .u8 y.toNat), (6, .ptr x6 0), (7, .int .i64 1), (1, .ptr b 0), (3, v), (4, .int .i64 i)]) (fs' := .blk x6 (.cells ((litIt y.toNat).cells .nilrow)) :: (fo ++ (ds ++ .blk b (.cells [.str T, lw]) :: fs))) (.cons rfl (.cons rfl (.cons rfl (.cons rfl (.cons rfl (.cons rfl .nil)))))) (fun _ h => h) ?_
      refine g_do rfl (o_load (xt rfl) (.there hb) rfl ?_)
      refine cgo ?_
      refine g_do rfl (o_call (.cons (xt rfl) (.cons (xt rfl) .nil)) (plive_ev (i := i) hv1.cons ?_))
      refine g_end (w_mid (fun e' fs' => ∃ dv d, AR 1 dv ((itemAt T.data.toList L i y.toNat).dash.map .bool) (itemAt T.data.toList L i y.toNat).dash.length d ∧ (d ++ .blk x6 (.cells ((itemAt T.data.toList L i y.toNat).cells dv)) :: (fo ++ (ds ++ .blk b (.cells [.str T, lw]) :: fs))).Sublist fs' ∧ Sub e' [(6, .ptr x6 0), (7, .int .i64 ((nextB T.data.toList L i - i : Nat) : Int)), (1, .ptr b 0), (3, v), (4, .int .i64 i)]) ?_ ?_)
      · cases hlv : lvB L i with
        | false =>
          have hn := brk_91 (L := L) hy (fun h => by rw [hlv] at h; cases h.1)
          have e1 : itemAt T.data.toList L i y.toNat = litIt y.toNat := by unfold itemAt; rw [hlv, if_neg (by simp)]
          have e2 : nextB T.data.toList L i - i = 1 := by rw [nextB_is hn]; omega
          rw [e1, e2]
          refine cgo ?_
          exact ⟨rfl, .nilrow, [], .nil, .refl _, .cons rfl (.cons rfl (.cons rfl (.cons rfl (.cons rfl .nil))))⟩
        | true =>
          have lit : ¬ y.toNat = 42 → ¬ y.toNat = 63 → ¬ y.toNat = 91 → itemAt T.data.toList L i y.toNat = litIt y.toNat ∧ nextB T.data.toList L i - i = 1 := fun h1 h2 h3 => by
            refine ⟨by unfold itemAt; rw [if_pos hlv, if_neg (by omega), if_neg h3], ?_⟩
            rw [nextB_is (brk_91 hy fun h => h3 h.2)]; omega
          have wild : y.toNat = 42 ∨ y.toNat = 63 → itemAt T.data.toList L i y.toNat = wildIt y.toNat ∧ nextB T.data.toList L i - i = 1 := fun h1 => by
            refine ⟨by unfold itemAt; rw [if_pos hlv, if_pos h1], ?_⟩
            rw [nextB_is (brk_91 hy fun h => by omega)]; omega
          refine cgo ?_
          refine w_block ?_
          refine cgo ?_
          refine g_do rfl (o_eqi (xt rfl) xc (fun h42 => ?_) (fun h42 => ?_))
          · obtain ⟨e1, e2⟩ := wild (by omega)
            rw [e1, e2]
            refine cgo ?_
            exact ⟨rfl, .nilrow, [], .nil, .refl _, (.cons rfl (.cons rfl (.cons rfl (.cons rfl (.cons rfl .nil)))))⟩
          · refine cgo ?_
            refine g_do rfl (o_eqi (xt rfl) xc (fun h63 => ?_) (fun h63 => ?_))
            · obtain ⟨e1, e2⟩ := wild (by omega)
              rw [e1, e2]
              refine cgo ?_
              exact ⟨rfl, .nilrow, [], .nil, .refl _, (.cons rfl (.cons rfl (.cons rfl (.cons rfl (.cons rfl .nil)))))⟩
            · refine cgo ?_
              refine g_do rfl (o_eqi (xt rfl) xc (fun h91 => ?_) (fun h91 => ?_))
              · refine cgo ?_
                have hb91 : isB T.data.toList L i 91 = true := by rw [isB_in hy, hlv, Bool.true_and, decide_eq_true (by omega)]
                refine g_do rfl (o_load (xt rfl) (.there hb) rfl ?_)
                refine cgo ?_
                refine g_do rfl (o_call (.cons (xt rfl) (.cons (xt rfl) .nil)) (set_ev (i := i) hT (by omega) hv1.cons hb91 (fun en dv d hbr hD => ?_) (fun hbr => ?_)))
                · have hsp := brk_spec hbr
                  have hfb := fromB_le T.data.toList L i
                  have e1 : itemAt T.data.toList L i y.toNat = setIt T.data.toList L i en := by unfold itemAt; rw [if_pos hlv, if_neg (by omega), if_pos (by omega), hbr]
                  have e2 : nextB T.data.toList L i - i = en + 1 - i := by unfold nextB; rw [hbr]
                  rw [e1, e2]
                  refine cgo ?_
                  refine g_do rfl (o_box xc rfl fun x8 => ?_)
                  have hsc : (AV.agg ((setIt T.data.toList L i en).cells dv)).cells.all EvA.scalar = true := by show (EvA.scalar dv && _) = true; rw [hD.scalar]; rfl
                  refine g_do0 (o_store (xt rfl) (xt rfl) .here ⟨rfl, (Nat.le_of_ble_eq_true rfl)⟩ hsc rfl ?_)
                  refine cgo ?_
                  refine g_do rfl (o_gtr (xt rfl) xc (fun _ => ?_) (fun h => absurd (by omega) h))
                  refine cgo ?_
                  refine g_do0 (o_store (xt rfl) (xt rfl) (.there (Put.app .here)) ⟨rfl, (Nat.le_of_ble_eq_true rfl)⟩ hsc rfl ?_)
                  refine cgo ?_
                  exact ⟨rfl, dv, d, hD, .cons _ (.refl _), (.cons rfl (.cons rfl (.cons rfl (.cons rfl (.cons rfl .nil)))))⟩
                · have e1 : itemAt T.data.toList L i y.toNat = litIt y.toNat := by unfold itemAt; rw [if_pos hlv, if_neg (by omega), if_pos (by omega), hbr]
                  have e2 : nextB T.data.toList L i - i = 1 := by rw [nextB_is hbr]; omega
                  rw [e1, e2]
                  refine cgo ?_
                  refine g_do rfl (o_box xc rfl fun x8 => ?_)
                  refine g_do0 (o_store (xt rfl) (xt rfl) .here ⟨rfl, (Nat.le_of_ble_eq_true rfl)⟩ rfl rfl ?_)
                  refine cgo ?_
                  refine g_do rfl (o_gtr (xt rfl) xc (fun h => absurd h (by omega)) (fun _ => ?_))
                  refine cgo ?_
                  exact ⟨rfl, .nilrow, [], .nil, .cons _ (.refl _), (.cons rfl (.cons rfl (.cons rfl (.cons rfl (.cons rfl .nil)))))⟩
              · obtain ⟨e1, e2⟩ := lit (by omega) (by omega) (by omega)
                rw [e1, e2]
                refine cgo ?_
                exact ⟨rfl, .nilrow, [], .nil, .refl _, (.cons rfl (.cons rfl (.cons rfl (.cons rfl (.cons rfl .nil)))))⟩
      · rintro e' fs' ⟨dv, d, hD, hsub, hS⟩
        refine w_sub hS (fun _ h => h.mono hsub) ?_
        have hx6 : Has (d ++ .blk x6 (.cells ((itemAt T.data.toList L i y.toNat).cells dv)) :: (fo ++ (ds ++ .blk b (.cells [.str T, lw]) :: fs))) (.blk x6 (.cells ((itemAt T.data.toList L i y.toNat).cells dv))) := Has.app .here
        have hsc : ((itemAt T.data.toList L i y.toNat).cells dv).all EvA.scalar = true := by show (EvA.scalar dv && _) = true; rw [hD.scalar]; rfl
        have hlen := hI.len
        refine cgo ?_
        refine g_do rfl (o_load (xt rfl) hx6 rfl ?_)
        refine g_do rfl (o_row (cs := (itemAt T.data.toList L i y.toNat).cells dv) (.cons (xt rfl) .nil) rfl rfl fun f0 id0 => ?_)
        have next : ∀ (en : Env) (v' : AV) (fo' : List Fact), AR 6 v' (cs ++ (itemAt T.data.toList L i y.toNat).cells dv) (l.length + 1) fo' → Sub en [(1, .ptr b 0), (3, v'), (4, .int .i64 (nextB T.data.toList L i : Int))] → WL sW ftab lb36_0 50 en (fo' ++ ((d ++ ds) ++ .blk b (.cells [.str T, lw]) :: fs)) Q := by
          intro en v' fo' hA' hS
          refine l_sub hS (fun _ h => h) (ih (nextB T.data.toList L i) (l ++ [itemAt T.data.toList L i y.toNat]) v' (cs ++ (itemAt T.data.toList L i y.toNat).cells dv) fo' (d ++ ds) (by omega) (by simp; omega) (by omega) (by rw [List.append_assoc]; exact hlf) (by rw [List.length_append]; exact hA') (.snoc (hI.fr fun y h => h.app) ?_))
          exact (RV.of hD)
        have hadd : ((i : Int) + ((nextB T.data.toList L i - i : Nat) : Int)) = (nextB T.data.toList L i : Int) := by omega
        rcases hA.inv with ⟨rfl, rfl, h0, rfl⟩ | ⟨fo1, ido, hne, rfl, rfl⟩
        · refine g_do rfl (o_appn (xt rfl) (.own (xt rfl) .here rfl) hsc (by decide) ⟨by decide, by decide⟩ fun f1 id1 => ?_)
          refine cgo ?_
          refine g_do rfl (o_add (xt rfl) (xt rfl) (by constructor <;> omega) ?_)
          rw [hadd]
          refine cgo ?_
          refine l_sub (e' := [(1, .ptr b 0), (3, .row ((itemAt T.data.toList L i y.toNat).cells dv) 1 ⟨f1, id1, 0, 6⟩), (4, .int .i64 (nextB T.data.toList L i : Int))]) (fs' := [.row f1 id1 (1 * 6)] ++ ((d ++ ds) ++ .blk b (.cells [.str T, lw]) :: fs)) (.cons rfl (.cons rfl (.cons rfl .nil))) (fun _ h => ?_) ?_
          · rw [List.append_assoc d ds]
            exact h.mono (.cons_cons _ (.cons _ ((List.Sublist.refl d).append (.cons _ (.refl _)))))
          · refine next _ _ _ ?_ (.cons rfl (.cons rfl (.cons rfl .nil)))
            rw [h0]
            exact .own (by decide)
        · refine g_do rfl (o_appo (fs' := fun id' => .row f0 id0 (1 * 6) :: (d ++ .blk x6 (.cells ((itemAt T.data.toList L i y.toNat).cells dv)) :: (.row fo1 id' (0 + l.length * 6 + 1 * 6) :: (ds ++ .blk b (.cells [.str T, lw]) :: fs)))) (xt rfl) (.own (xt rfl) .here rfl) hsc (by decide) ⟨by omega, by omega⟩ rfl (fun id' => .there (Put.app (.there .here))) fun id1 => ?_)
          refine cgo ?_
          refine g_do rfl (o_add (xt rfl) (xt rfl) (by constructor <;> omega) ?_)
          rw [hadd]
          refine cgo ?_
          refine l_sub (e' := [(1, .ptr b 0), (3, .row (cs ++ (itemAt T.data.toList L i y.toNat).cells dv) (l.length + 1) ⟨fo1, id1, 0, 6⟩), (4, .int .i64 (nextB T.data.toList L i : Int))]) (fs' := [.row fo1 id1 ((l.length + 1) * 6)] ++ ((d ++ ds) ++ .blk b (.cells [.str T, lw]) :: fs)) (.cons rfl (.cons rfl (.cons rfl .nil))) (fun _ h => ?_) ?_
          · have h1 := h.mono (.cons _ ((List.Sublist.refl d).append (.cons _ (.refl _))))
            rw [List.append_assoc d ds, show (l.length + 1) * 6 = 0 + l.length * 6 + 1 * 6 by omega]
            exact h1.perm perm_mid
          · exact next _ _ _ (.own (by omega)) (.cons rfl (.cons rfl (.cons rfl .nil)))
    · have : T.data.toList[i]? = none := List.getElem?_eq_none (by rw [bsz]; omega)
      rw [this] at hlf
      simp only [List.append_nil] at hlf
      subst hlf
      exact stop i v cs fo ds hlt hA hI
theorem items_ev {T : ByteArray} {lw : AV} {L : List Bool} (hT : T.size ≤ 1000000) (hv : RV fs 1 lw (L.map .bool) L.length) {K : KK}
    (h : ∀ v cs fo ds, AR 6 v cs (itemsB T.data.toList L T.size 0).length fo → ItV ds (itemsB T.data.toList L T.size 0) cs → K v (fo ++ (ds ++ fs))) : Ev sW ftab 36 [.agg [.str T, lw]] fs K := by
  refine ev_fn (nt := 50) (kb := kb36) (kr := kr36) rfl rfl (Nat.le_of_ble_eq_true rfl) ?_
  refine cgo ?_
  refine g_do rfl (o_box (xt rfl) rfl fun b => ?_)
  refine cgo ?_
  refine w_block (w_loop ?_)
  refine l_sub (e' := [(1, .ptr b 0), (3, .nilrow), (4, .int .i64 ((0 : Nat) : Int))]) (.cons rfl (.cons rfl (.cons rfl .nil))) (fun _ h => h) ?_
  refine it_loop (lf := itemsB T.data.toList L T.size 0) hT hv (fun en v cs fo ds hA hI hS => ?_) T.size 0 [] .nilrow [] [] [] (by omega) (by simp) (by omega) rfl .nil .nil
  refine w_sub hS (fun _ h => h) ?_
  refine cgo ?_
  exact ⟨trivial, _, fo ++ (ds ++ fs), .one (.tmp rfl), (List.Sublist.refl fo).append ((List.Sublist.refl ds).append (.cons _ (.refl _))), h v cs fo ds hA hI⟩
def hasI (x : It) (c : Nat) : Bool := amongB x.inn x.dash x.inn.length c x.inn.length 0
def oneI (x : It) (c : Nat) : Bool := if x.kind = 42 ∨ x.kind = 63 then true else if x.kind = 91 then (hasI x c != x.neg) else decide (x.c = c)
structure ItOk (x : It) : Prop where
  short : x.inn.length ≤ 1000000
  dash : x.dash.length = x.inn.length
theorem iget {l : List UInt8} {i : Nat} (h : i < l.length) : ∃ b, (mkT l).data.toList[i]? = some b ∧ l[i]? = some b := ⟨l[i], by simp [mkT, h], List.getElem?_eq_getElem h⟩
theorem has_loop {x : It} {dv : AV} {b c : Nat} (hx : ItOk x) (hd : RV fs 1 dv (x.dash.map .bool) x.dash.length) {res : Bool} {Q : AO → Env → List Fact → Prop}
    (hQ1 : res = true → ∀ en, Sub en [(4, .bool true)] → Q .ret en (.blk b (.cells (x.cells dv)) :: fs)) (hQ2 : res = false → ∀ en, Q (.exit 0) en (.blk b (.cells (x.cells dv)) :: fs)) :
    ∀ (r k : Nat), x.inn.length - k ≤ r → k ≤ 2000000 → amongB x.inn x.dash x.inn.length c r k = res → WL sW ftab lb51_0 58 [(1, .int .u8 c), (2, .ptr b 0), (5, .int .i64 k)] (.blk b (.cells (x.cells dv)) :: fs) Q := by
  intro r
  have hsz := mkT_size x.inn
  have hshort := hx.short
  have stop : ∀ k, ¬ k < x.inn.length → res = false → WL sW ftab lb51_0 58 [(1, .int .u8 c), (2, .ptr b 0), (5, .int .i64 k)] (.blk b (.cells (x.cells dv)) :: fs) Q := by
    intro k hk hr
    refine l_round ?_
    refine cgo ?_
    rw [hsz]
    refine g_do rfl (o_lss (xt rfl) (xt rfl) (fun h => by omega) (fun h => ?_))
    refine cgo ?_
    exact hQ2 hr _
  induction r with
  | zero =>
    intro k hr hk hres
    exact stop k (by omega) (by rw [← hres]; rfl)
  | succ r ih =>
    intro k hr hk hres
    unfold amongB at hres
    by_cases hke : k < x.inn.length
    · rw [if_pos hke] at hres
      obtain ⟨y, hy, hy2⟩ := iget hke
      have next : ∀ (d : Nat) en, 1 ≤ d → d ≤ 3 → amongB x.inn x.dash x.inn.length c r (k + d) = res → Sub en [(1, .int .u8 c), (2, .ptr b 0), (5, .int .i64 ((k + d : Nat) : Int))] → WL sW ftab lb51_0 58 en (.blk b (.cells (x.cells dv)) :: fs) Q := fun d en h1 h3 h2 hS =>
        l_sub hS (fun _ h => h) (ih (k + d) (by omega) (by omega) h2)
      refine l_round ?_
      refine cgo ?_
      rw [hsz]
      refine g_do rfl (o_lss (xt rfl) (xt rfl) (fun h => ?_) (fun h => by omega))
      refine cgo ?_
      refine w_block ?_
      refine cgo ?_
      refine g_do rfl (o_add (xt rfl) xc (by constructor <;> omega) ?_)
      refine cgo ?_
      rw [hsz]
      have two : (eqAt x.inn k c || amongB x.inn x.dash x.inn.length c r (k + 1)) = res → True := fun _ => trivial
      refine g_do rfl (o_lss (xt rfl) (xt rfl) (fun h2 => ?_) (fun h2 => ?_))
      · obtain ⟨z, hz, hz2⟩ := iget (l := x.inn) (i := k + 1) (by omega)
        rw [decide_eq_true (show k + 2 < x.inn.length by omega), Bool.true_and, isB_in hz2] at hres
        refine cgo ?_
        refine g_do rfl (o_add (xt rfl) xc (by constructor <;> omega) ?_)
        refine g_if rfl ?_
        refine g_do rfl (o_idx (b := z) (xt rfl) (xt rfl) (by omega) (by rw [show ((k : Int) + 1).toNat = k + 1 by omega]; exact hz) ?_)
        refine g_if rfl ?_
        refine g_do rfl (o_eqi (xt rfl) xc (fun h3 => ?_) (fun h3 => ?_))
        · rw [decide_eq_true (show z.toNat = 45 by omega), Bool.and_true] at hres
          refine cgo ?_
          refine g_do rfl (o_add (xt rfl) xc (by constructor <;> omega) ?_)
          obtain ⟨sr, rfl, hrd, hz1⟩ := hd.some (by have := hx.dash; omega)
          refine g_if rfl ?_
          refine g_do rfl (o_iaddr (xt rfl) (xt rfl) ⟨by omega, by have := hx.dash; omega⟩ hz1 ?_)
          refine g_if rfl ?_
          refine g_do rfl (o_loadr (v := .bool (lvB x.dash (k + 1))) (xt rfl) hrd.cons (by
            have := lvB_row (L := x.dash) (i := k + 1) (by have := hx.dash; omega)
            rw [show (((k + 1 : Nat) : Int)) = (k : Int) + 1 by omega] at this; exact this) ?_)
          cases hl : lvB x.dash (k + 1) with
          | true =>
            rw [hl, if_pos rfl] at hres
            obtain ⟨w, hw, hw2⟩ := iget (l := x.inn) (i := k + 2) (by omega)
            rw [between, hy2, hw2] at hres
            simp only at hres
            refine cgo ?_
            refine g_do rfl (o_idx (b := y) (xt rfl) (xt rfl) (by omega) (by rw [Int.toNat_natCast]; exact hy) ?_)
            refine cgo ?_
            refine g_do rfl (o_leq (xt rfl) (xt rfl) (fun h4 => ?_) (fun h4 => ?_))
            · refine cgo ?_
              refine g_do rfl (o_add (xt rfl) xc (by constructor <;> omega) ?_)
              refine g_if rfl ?_
              refine g_do rfl (o_idx (b := w) (xt rfl) (xt rfl) (by omega) (by rw [show ((k : Int) + 2).toNat = k + 2 by omega]; exact hw) ?_)
              refine g_if rfl ?_
              refine g_do rfl (o_leq (xt rfl) (xt rfl) (fun h5 => ?_) (fun h5 => ?_))
              · refine cgo ?_
                exact hQ1 (by rw [← hres, decide_eq_true (by omega), decide_eq_true (by omega)]; rfl) _ (.cons rfl .nil)
              · refine cgo ?_
                refine g_do rfl (o_add (xt rfl) xc (by constructor <;> omega) ?_)
                refine cgo ?_
                refine g_do rfl (o_add (xt rfl) xc (by constructor <;> omega) ?_)
                refine cgo ?_
                refine next 3 _ (by omega) (by omega) (by rw [← hres, decide_eq_false (show ¬ c ≤ w.toNat by omega)]; simp) (.cons rfl (.cons rfl (.cons ?_ .nil)))
                rw [show ((k + 3 : Nat) : Int) = (k : Int) + 2 + 1 by omega]; rfl
            · refine cgo ?_
              refine g_do rfl (o_add (xt rfl) xc (by constructor <;> omega) ?_)
              refine cgo ?_
              refine g_do rfl (o_add (xt rfl) xc (by constructor <;> omega) ?_)
              refine cgo ?_
              refine next 3 _ (by omega) (by omega) (by rw [← hres, decide_eq_false (show ¬ y.toNat ≤ c by omega)]; simp) (.cons rfl (.cons rfl (.cons ?_ .nil)))
              rw [show ((k + 3 : Nat) : Int) = (k : Int) + 2 + 1 by omega]; rfl
          | false =>
            rw [hl, if_neg (by simp), eqAt, hy2] at hres
            refine cgo ?_
            refine g_do rfl (o_idx (b := y) (xt rfl) (xt rfl) (by omega) (by rw [Int.toNat_natCast]; exact hy) ?_)
            refine cgo ?_
            refine g_do rfl (o_eqi (xt rfl) (xt rfl) (fun h4 => ?_) (fun h4 => ?_))
            · refine cgo ?_
              exact hQ1 (by rw [← hres, decide_eq_true (by simp; omega)]; rfl) _ (.cons rfl .nil)
            · refine cgo ?_
              refine g_do rfl (o_add (xt rfl) xc (by constructor <;> omega) ?_)
              refine cgo ?_
              exact next 1 _ (by omega) (by omega) (by rw [← hres, decide_eq_false (by simp; omega)]; simp) (.cons rfl (.cons rfl (.cons rfl .nil)))
        · rw [decide_eq_false (show ¬ z.toNat = 45 by omega), Bool.and_false, if_neg (by simp), eqAt, hy2] at hres
          refine cgo ?_
          refine g_do rfl (o_idx (b := y) (xt rfl) (xt rfl) (by omega) (by rw [Int.toNat_natCast]; exact hy) ?_)
          refine cgo ?_
          refine g_do rfl (o_eqi (xt rfl) (xt rfl) (fun h4 => ?_) (fun h4 => ?_))
          · refine cgo ?_
            exact hQ1 (by rw [← hres, decide_eq_true (by simp; omega)]; rfl) _ (.cons rfl .nil)
          · refine cgo ?_
            refine g_do rfl (o_add (xt rfl) xc (by constructor <;> omega) ?_)
            refine cgo ?_
            exact next 1 _ (by omega) (by omega) (by rw [← hres, decide_eq_false (by simp; omega)]; simp) (.cons rfl (.cons rfl (.cons rfl .nil)))
      · rw [decide_eq_false (show ¬ k + 2 < x.inn.length by omega), Bool.false_and, if_neg (by simp), eqAt, hy2] at hres
        refine cgo ?_
        refine g_do rfl (o_idx (b := y) (xt rfl) (xt rfl) (by omega) (by rw [Int.toNat_natCast]; exact hy) ?_)
        refine cgo ?_
        refine g_do rfl (o_eqi (xt rfl) (xt rfl) (fun h4 => ?_) (fun h4 => ?_))
        · refine cgo ?_
          exact hQ1 (by rw [← hres, decide_eq_true (by simp; omega)]; rfl) _ (.cons rfl .nil)
        · refine cgo ?_
          refine g_do rfl (o_add (xt rfl) xc (by constructor <;> omega) ?_)
          refine cgo ?_
          exact next 1 _ (by omega) (by omega) (by rw [← hres, decide_eq_false (by simp; omega)]; simp) (.cons rfl (.cons rfl (.cons rfl .nil)))
    · rw [if_neg hke] at hres
      exact stop k hke hres.symm
theorem has_ev {x : It} {dv : AV} {c : Nat} (hx : ItOk x) (hd : RV fs 1 dv (x.dash.map .bool) x.dash.length) {K : KK} (h : K (.bool (hasI x c)) fs) : Ev sW ftab 51 [.agg (x.cells dv), .int .u8 c] fs K := by
  refine ev_fn (nt := 58) (kb := kb51) (kr := kr51) rfl rfl (Nat.le_of_ble_eq_true rfl) ?_
  refine cgo ?_
  refine g_do rfl (o_box (xt rfl) rfl fun b => ?_)
  refine cgo ?_
  refine w_block (w_loop ?_)
  refine l_sub (e' := [(1, .int .u8 c), (2, .ptr b 0), (5, .int .i64 ((0 : Nat) : Int))]) (fs' := .blk b (.cells (x.cells dv)) :: fs) (.cons rfl (.cons rfl (.cons rfl .nil))) (fun _ h => h) ?_
  refine has_loop (res := hasI x c) hx hd (fun hr en hS => ?_) (fun hr en => ?_) x.inn.length 0 (by omega) (by omega) rfl
  · rw [hr] at h
    exact ⟨trivial, _, fs, .one (.tmp (hS.lk _ _ rfl)), .cons _ (.refl _), h⟩
  · rw [hr] at h
    refine cgo ?_
    exact ⟨trivial, _, fs, .one (.tmp rfl), .cons _ (.refl _), h⟩
theorem one_ev {x : It} {dv : AV} {c : Nat} (hx : ItOk x) (hd : RV fs 1 dv (x.dash.map .bool) x.dash.length) {K : KK} (h : K (.bool (oneI x c)) fs) : Ev sW ftab 44 [.agg (x.cells dv), .int .u8 c] fs K := by
  refine ev_fn (nt := 22) (kb := kb44) (kr := kr44) rfl rfl (Nat.le_of_ble_eq_true rfl) ?_
  unfold oneI at h
  refine cgo ?_
  refine g_do rfl (o_box (xt rfl) rfl fun b => ?_)
  refine cgo ?_
  refine w_block ?_
  refine cgo ?_
  refine g_do rfl (o_eqi (xt rfl) xc (fun h42 => ?_) (fun h42 => ?_))
  · rw [if_pos (by omega)] at h
    refine cgo ?_
    exact ⟨trivial, _, fs, .one (.tmp rfl), .cons _ (.refl _), h⟩
  · refine cgo ?_
    refine g_do rfl (o_eqi (xt rfl) xc (fun h63 => ?_) (fun h63 => ?_))
    · rw [if_pos (by omega)] at h
      refine cgo ?_
      exact ⟨trivial, _, fs, .one (.tmp rfl), .cons _ (.refl _), h⟩
    · rw [if_neg (by omega)] at h
      refine cgo ?_
      refine g_do rfl (o_eqi (xt rfl) xc (fun h91 => ?_) (fun h91 => ?_))
      · rw [if_pos (by omega)] at h
        refine cgo ?_
        refine g_fl ?_
        refine hgo ?_
        refine h_do rfl (o_call (.cons (xt rfl) (.cons (xt rfl) .nil)) (has_ev hx hd.cons ?_))
        refine hgo ?_
        refine h_do rfl (o_nebv (xt rfl) (xt rfl) ?_)
        refine hgo ?_
        refine h_end ?_
        refine ⟨.cons rfl (.cons rfl (o_load (xt rfl) .here rfl rfl) .nil) .nil, _, rfl, ?_⟩
        refine cgo ?_
        exact ⟨trivial, _, fs, .one (.tmp rfl), .cons _ (.refl _), h⟩
      · rw [if_neg (by omega)] at h
        refine cgo ?_
        refine g_do rfl (o_eqd (xt rfl) (xt rfl) ?_)
        refine cgo ?_
        have e1 : decide (((x.c : Nat) : Int) = ((c : Nat) : Int)) = decide (x.c = c) := decide_eq_decide.2 ⟨fun h => by omega, fun h => by omega⟩
        rw [e1]
        exact ⟨trivial, _, fs, .one (.tmp rfl), .cons _ (.refl _), h⟩
def stepI (s : List UInt8) (x : It) (g : Nat → Bool) : Nat → Bool := if x.kind = 42 then orUp g else oneUp (oneI x) s g
def matM (s : List UInt8) : List It → (Nat → Bool) → Nat → Bool
  | [], g => g
  | x :: l, g => matM s l (stepI s x g)
theorem RV.swap {size n p m z i : Nat} {v : AV} {cs : List AV} {s' : Src} {cs' : List AV} (h : RV fs size v cs n) (hf : ∀ f j e, Has fs (.row f j e) → j ≠ i) : swapV i p m z s' cs' v = v := by
  cases h with
  | nil => rfl
  | row h1 h2 =>
    cases h1 with
    | frz h3 => simp only [swapV]; rw [if_neg (fun hh => hh.2.2.2.2 h3)]
    | own h3 => exact swap_ne (hf _ _ _ h3)
abbrev BM (fA idA n x7 : Nat) (xc : List AV) (fs : List Fact) : List Fact := .row fA idA ((n + 1) * 1) :: .blk x7 (.cells xc) :: fs
theorem mm_star {s : ByteArray} {x : It} {dv iv : AV} {ics : List AV} {x7 n j N fA idA fN : Nat} {g : Nat → Bool} (hs : s.size = n) (hn : n ≤ 1000000) (hiv : RV fs 6 iv ics N) (h42 : x.kind = 42) {Q : AO → Env → List Fact → Prop}
    (hQ : ∀ en idN, Sub en [(1, .str s), (8, .row (rowB n (orUp g)) (n + 1) ⟨fN, idN, 0, 1⟩), (17, iv), (18, .int .i64 N), (19, .int .i64 j)] → Q (.exit 2) en (.row fN idN ((n + 1) * 1) :: BM fA idA n x7 (x.cells dv) fs)) :
    ∀ (r k idN : Nat) (nx : Nat → Bool), k + r = n + 1 → (∀ f i e, Has (BM fA idA n x7 (x.cells dv) fs) (.row f i e) → i ≠ idN) → (∀ j, j < k → nx j = orUp g j) →
    WL sW ftab lb35_0 80 [(1, .str s), (7, .ptr x7 0), (8, .row (rowB n nx) (n + 1) ⟨fN, idN, 0, 1⟩), (17, iv), (18, .int .i64 N), (19, .int .i64 j), (27, .row (rowB n g) (n + 1) ⟨fA, idA, 0, 1⟩), (28, .int .i64 ((n + 1 : Nat) : Int)), (29, .int .i64 k)] (.row fN idN ((n + 1) * 1) :: BM fA idA n x7 (x.cells dv) fs) Q
  | 0, k, idN, nx, hk, hfr, hnx => by
    refine l_round ?_
    refine cgo ?_
    refine g_do rfl (o_lss (xt rfl) (xt rfl) (fun h => by omega) (fun h => ?_))
    refine cgo ?_
    rw [rowB_ext (g' := orUp g) (fun j hj => hnx j (by omega))]
    exact hQ _ idN (.cons rfl (.cons rfl (.cons rfl (.cons rfl (.cons rfl .nil)))))
  | r + 1, k, idN, nx, hk, hfr, hnx => by
    have hl := rowB_len n nx
    refine l_round ?_
    refine cgo ?_
    refine g_do rfl (o_lss (xt rfl) (xt rfl) (fun h => ?_) (fun h => by omega))
    refine cgo ?_
    refine w_block ?_
    refine cgo ?_
    refine g_do rfl (o_iaddr (xt rfl) (xt rfl) ⟨by omega, by omega⟩ rfl ?_)
    refine g_do rfl (o_loadr (xt rfl) (.own (.there .here)) (rowB_get g (by omega)) ?_)
    refine cgo ?_
    refine w_block ?_
    refine cgo ?_
    refine g_do rfl (o_eqi (xt rfl) xc (fun _ => ?_) (fun h => absurd (by omega) h))
    have fin : ∀ id' v, orUp g k = v → (∀ f i e, Has (BM fA idA n x7 (x.cells dv) fs) (.row f i e) → i ≠ id') → WL sW ftab lb35_0 80 [(1, .str s), (7, .ptr x7 0), (8, .row (rowB n fun j => if j = k then v else nx j) (n + 1) ⟨fN, id', 0, 1⟩), (17, iv), (18, .int .i64 N), (19, .int .i64 j), (27, .row (rowB n g) (n + 1) ⟨fA, idA, 0, 1⟩), (28, .int .i64 ((n + 1 : Nat) : Int)), (29, .int .i64 ((k + 1 : Nat) : Int))] (.row fN id' ((n + 1) * 1) :: BM fA idA n x7 (x.cells dv) fs) Q := by
      intro id' v hv hfr'
      refine mm_star hs hn hiv h42 hQ r (k + 1) id' _ (by omega) hfr' (fun j hj => ?_)
      by_cases hjk : j = k
      · rw [if_pos hjk, hjk, hv]
      · rw [if_neg hjk]; exact hnx j (by omega)
    have hup : ∀ v, (match k with | 0 => v = g 0 | q + 1 => v = (orUp g q || g (q + 1))) → orUp g k = v := by
      intro v hv
      cases k with
      | zero => exact hv.symm
      | succ q => exact hv.symm
    cases hg : g k with
    | true =>
      refine cgo ?_
      refine g_do rfl (o_iaddr (xt rfl) (xt rfl) ⟨by omega, by omega⟩ rfl ?_)
      rw [show ((k : Nat) : Int).toNat * 1 = k by omega]
      refine g_el2 (k := 8) (m := (n + 1) * 1) (fs' := fun id' => .row fN id' (0 + (rowB n nx).length) :: BM fA idA n x7 (x.cells dv) fs) (xt rfl) (xt rfl) rfl rfl (by decide) (by rw [hl]; omega) rfl (fun _ => .here) fun id' hfresh => ?_
      rw [hl, show 0 + (n + 1) = (n + 1) * 1 by omega]
      show WG sW ftab _ 80 ((8, .row ((rowB n nx).take (k) ++ (AV.bool true).cells ++ (rowB n nx).drop (k + 1)) (n + 1) ⟨fN, id', 0, 1⟩) :: _) _ _
      rw [rowB_set (g' := fun j => if j = k then true else nx j) (by omega) (by simp) (fun j hj hjk => by simp [hjk])]
      refine cgo ?_
      refine g_do rfl (o_add (xt rfl) xc (by constructor <;> omega) ?_)
      refine cgo ?_
      refine l_sub (e' := [(1, .str s), (7, .ptr x7 0), (8, .row (rowB n fun j => if j = k then true else nx j) (n + 1) ⟨fN, id', 0, 1⟩), (17, iv), (18, .int .i64 N), (19, .int .i64 j), (27, .row (rowB n g) (n + 1) ⟨fA, idA, 0, 1⟩), (28, .int .i64 ((n + 1 : Nat) : Int)), (29, .int .i64 ((k + 1 : Nat) : Int))]) (.cons rfl (.cons rfl (.cons rfl (.cons (congrArg some (hiv.swap fun f i e h => hfr f i e (.there (.there h)))) (.cons rfl (.cons rfl (.cons (congrArg some (swap_ne (hfr _ _ _ .here))) (.cons rfl (.cons rfl .nil))))))))) (fun _ h => h) ?_
      exact fin id' true (by cases k with | zero => exact hg | succ q => show (orUp g q || g (q + 1)) = true; rw [hg, Bool.or_true]) (fun f i e h => hfresh f i e (.there h))
    | false =>
      refine cgo ?_
      refine g_do rfl (o_gtr (xt rfl) xc (fun h0 => ?_) (fun h0 => ?_))
      · obtain ⟨q, rfl⟩ : ∃ q, k = q + 1 := ⟨k - 1, by omega⟩
        refine cgo ?_
        refine g_do rfl (o_sub (xt rfl) xc (by constructor <;> omega) ?_)
        rw [show ((q + 1 : Nat) : Int) - 1 = (q : Int) by omega]
        refine g_if rfl ?_
        refine g_do rfl (o_iaddr (xt rfl) (xt rfl) ⟨by omega, by omega⟩ rfl ?_)
        refine g_if rfl ?_
        refine g_do rfl (o_loadr (xt rfl) (.own .here) (rowB_get nx (by omega)) ?_)
        refine cgo ?_
        refine g_do rfl (o_iaddr (xt rfl) (xt rfl) ⟨by omega, by omega⟩ rfl ?_)
        rw [show ((q + 1 : Nat) : Int).toNat * 1 = q + 1 by omega]
        refine g_el2 (k := 8) (m := (n + 1) * 1) (fs' := fun id' => .row fN id' (0 + (rowB n nx).length) :: BM fA idA n x7 (x.cells dv) fs) (xt rfl) (xt rfl) rfl rfl (by decide) (by rw [hl]; omega) rfl (fun _ => .here) fun id' hfresh => ?_
        rw [hl, show 0 + (n + 1) = (n + 1) * 1 by omega]
        show WG sW ftab _ 80 ((8, .row ((rowB n nx).take ((q + 1)) ++ (AV.bool (nx q)).cells ++ (rowB n nx).drop ((q + 1) + 1)) (n + 1) ⟨fN, id', 0, 1⟩) :: _) _ _
        rw [rowB_set (g' := fun j => if j = (q + 1) then (nx q) else nx j) (by omega) (by simp) (fun j hj hjk => by simp [hjk])]
        refine cgo ?_
        refine g_do rfl (o_add (xt rfl) xc (by constructor <;> omega) ?_)
        refine cgo ?_
        refine l_sub (e' := [(1, .str s), (7, .ptr x7 0), (8, .row (rowB n fun j => if j = (q + 1) then (nx q) else nx j) (n + 1) ⟨fN, id', 0, 1⟩), (17, iv), (18, .int .i64 N), (19, .int .i64 j), (27, .row (rowB n g) (n + 1) ⟨fA, idA, 0, 1⟩), (28, .int .i64 ((n + 1 : Nat) : Int)), (29, .int .i64 ((q + 1 + 1 : Nat) : Int))]) (.cons rfl (.cons rfl (.cons rfl (.cons (congrArg some (hiv.swap fun f i e h => hfr f i e (.there (.there h)))) (.cons rfl (.cons rfl (.cons (congrArg some (swap_ne (hfr _ _ _ .here))) (.cons rfl (.cons rfl .nil))))))))) (fun _ h => h) ?_
        exact fin id' (nx q) (by show (orUp g q || g (q + 1)) = nx q; rw [hg, Bool.or_false, hnx q (by omega)]) (fun f i e h => hfresh f i e (.there h))
      · obtain rfl : k = 0 := by omega
        refine cgo ?_
        refine g_do rfl (o_iaddr (xt rfl) (xt rfl) ⟨by omega, by omega⟩ rfl ?_)
        rw [show ((0 : Nat) : Int).toNat * 1 = 0 by omega]
        refine g_el2 (k := 8) (m := (n + 1) * 1) (fs' := fun id' => .row fN id' (0 + (rowB n nx).length) :: BM fA idA n x7 (x.cells dv) fs) (xt rfl) (xt rfl) rfl rfl (by decide) (by rw [hl]; omega) rfl (fun _ => .here) fun id' hfresh => ?_
        rw [hl, show 0 + (n + 1) = (n + 1) * 1 by omega]
        show WG sW ftab _ 80 ((8, .row ((rowB n nx).take (0) ++ (AV.bool false).cells ++ (rowB n nx).drop (0 + 1)) (n + 1) ⟨fN, id', 0, 1⟩) :: _) _ _
        rw [rowB_set (g' := fun j => if j = 0 then false else nx j) (by omega) (by simp) (fun j hj hjk => by simp [hjk])]
        refine cgo ?_
        refine g_do rfl (o_add (xt rfl) xc (by constructor <;> omega) ?_)
        refine cgo ?_
        refine l_sub (e' := [(1, .str s), (7, .ptr x7 0), (8, .row (rowB n fun j => if j = 0 then false else nx j) (n + 1) ⟨fN, id', 0, 1⟩), (17, iv), (18, .int .i64 N), (19, .int .i64 j), (27, .row (rowB n g) (n + 1) ⟨fA, idA, 0, 1⟩), (28, .int .i64 ((n + 1 : Nat) : Int)), (29, .int .i64 ((0 + 1 : Nat) : Int))]) (.cons rfl (.cons rfl (.cons rfl (.cons (congrArg some (hiv.swap fun f i e h => hfr f i e (.there (.there h)))) (.cons rfl (.cons rfl (.cons (congrArg some (swap_ne (hfr _ _ _ .here))) (.cons rfl (.cons rfl .nil))))))))) (fun _ h => h) ?_
        exact fin id' false hg (fun f i e h => hfresh f i e (.there h))
theorem mm_one {s : ByteArray} {x : It} {dv iv : AV} {ics : List AV} {x7 n j N fA idA fN : Nat} {g : Nat → Bool} (hs : s.size = n) (hn : n ≤ 1000000) (hiv : RV fs 6 iv ics N) (hx : ItOk x) (hd : RV fs 1 dv (x.dash.map .bool) x.dash.length) (h42 : ¬ x.kind = 42) {Q : AO → Env → List Fact → Prop}
    (hQ : ∀ en idN, Sub en [(1, .str s), (8, .row (rowB n (oneUp (oneI x) s.data.toList g)) (n + 1) ⟨fN, idN, 0, 1⟩), (17, iv), (18, .int .i64 N), (19, .int .i64 j)] → Q (.exit 2) en (.row fN idN ((n + 1) * 1) :: BM fA idA n x7 (x.cells dv) fs)) :
    ∀ (r k idN : Nat) (nx : Nat → Bool), k + r = n + 1 → (∀ f i e, Has (BM fA idA n x7 (x.cells dv) fs) (.row f i e) → i ≠ idN) → (∀ j, j ≤ k → j ≤ n → nx j = oneUp (oneI x) s.data.toList g j) → (∀ j, k < j → nx j = false) →
    WL sW ftab lb35_0 80 [(1, .str s), (7, .ptr x7 0), (8, .row (rowB n nx) (n + 1) ⟨fN, idN, 0, 1⟩), (17, iv), (18, .int .i64 N), (19, .int .i64 j), (27, .row (rowB n g) (n + 1) ⟨fA, idA, 0, 1⟩), (28, .int .i64 ((n + 1 : Nat) : Int)), (29, .int .i64 k)] (.row fN idN ((n + 1) * 1) :: BM fA idA n x7 (x.cells dv) fs) Q
  | 0, k, idN, nx, hk, hfr, hnx, hnz => by
    refine l_round ?_
    refine cgo ?_
    refine g_do rfl (o_lss (xt rfl) (xt rfl) (fun h => by omega) (fun h => ?_))
    refine cgo ?_
    rw [rowB_ext (g' := oneUp (oneI x) s.data.toList g) (fun j hj => hnx j (by omega) hj)]
    exact hQ _ idN (.cons rfl (.cons rfl (.cons rfl (.cons rfl (.cons rfl .nil)))))
  | r + 1, k, idN, nx, hk, hfr, hnx, hnz => by
    have hl := rowB_len n nx
    refine l_round ?_
    refine cgo ?_
    refine g_do rfl (o_lss (xt rfl) (xt rfl) (fun h => ?_) (fun h => by omega))
    refine cgo ?_
    refine w_block ?_
    refine cgo ?_
    refine g_do rfl (o_iaddr (xt rfl) (xt rfl) ⟨by omega, by omega⟩ rfl ?_)
    refine g_do rfl (o_loadr (xt rfl) (.own (.there .here)) (rowB_get g (by omega)) ?_)
    refine cgo ?_
    refine w_block ?_
    refine cgo ?_
    refine g_do rfl (o_eqi (xt rfl) xc (fun h => absurd (by omega) h42) (fun _ => ?_))
    refine cgo ?_
    cases hg : g k with
    | false =>
      refine cgo ?_
      refine g_do rfl (o_add (xt rfl) xc (by constructor <;> omega) ?_)
      refine cgo ?_
      refine l_sub (e' := [(1, .str s), (7, .ptr x7 0), (8, .row (rowB n nx) (n + 1) ⟨fN, idN, 0, 1⟩), (17, iv), (18, .int .i64 N), (19, .int .i64 j), (27, .row (rowB n g) (n + 1) ⟨fA, idA, 0, 1⟩), (28, .int .i64 ((n + 1 : Nat) : Int)), (29, .int .i64 ((k + 1 : Nat) : Int))]) (.cons rfl (.cons rfl (.cons rfl (.cons rfl (.cons rfl (.cons rfl (.cons rfl (.cons rfl (.cons rfl .nil))))))))) (fun _ h => h) ?_
      refine mm_one hs hn hiv hx hd h42 hQ r (k + 1) idN nx (by omega) hfr (fun j hj hjn => ?_) (fun j hj => hnz j (by omega))
      by_cases hjk : j = k + 1
      · rw [hjk, hnz (k + 1) (by omega)]
        show false = (match s.data.toList[k]? with | some b => g k && oneI x b.toNat | none => false); rw [hg]; cases s.data.toList[k]? <;> rfl
      · exact hnx j (by omega) hjn
    | true =>
      refine cgo ?_
      rw [hs]
      refine g_do rfl (o_lss (xt rfl) (xt rfl) (fun hkn => ?_) (fun hkn => ?_))
      · obtain ⟨y, hy⟩ := tget (T := s) (i := k) (by omega)
        have hup : oneUp (oneI x) s.data.toList g (k + 1) = oneI x y.toNat := by
          show (match s.data.toList[k]? with | some b => g k && oneI x b.toNat | none => false) = _
          rw [hy, hg]; rfl
        refine cgo ?_
        refine g_do rfl (o_idx (b := y) (xt rfl) (xt rfl) (by omega) (by rw [Int.toNat_natCast]; exact hy) ?_)
        refine g_if rfl ?_
        refine g_do rfl (o_call (.cons (xt rfl) (.cons (xt rfl) .nil)) (one_ev hx hd.cons.cons.cons ?_))
        cases ho : oneI x y.toNat with
        | false =>
          refine cgo ?_
          refine g_do rfl (o_add (xt rfl) xc (by constructor <;> omega) ?_)
          refine cgo ?_
          refine l_sub (e' := [(1, .str s), (7, .ptr x7 0), (8, .row (rowB n nx) (n + 1) ⟨fN, idN, 0, 1⟩), (17, iv), (18, .int .i64 N), (19, .int .i64 j), (27, .row (rowB n g) (n + 1) ⟨fA, idA, 0, 1⟩), (28, .int .i64 ((n + 1 : Nat) : Int)), (29, .int .i64 ((k + 1 : Nat) : Int))]) (.cons rfl (.cons rfl (.cons rfl (.cons rfl (.cons rfl (.cons rfl (.cons rfl (.cons rfl (.cons rfl .nil))))))))) (fun _ h => h) ?_
          refine mm_one hs hn hiv hx hd h42 hQ r (k + 1) idN nx (by omega) hfr (fun j hj hjn => ?_) (fun j hj => hnz j (by omega))
          by_cases hjk : j = k + 1
          · rw [hjk, hnz (k + 1) (by omega)]
            rw [hup, ho]
          · exact hnx j (by omega) hjn
        | true =>
          refine cgo ?_
          refine g_do rfl (o_add (xt rfl) xc (by constructor <;> omega) ?_)
          refine cgo ?_
          refine g_do rfl (o_iaddr (xt rfl) (xt rfl) ⟨by omega, by omega⟩ rfl ?_)
          rw [show ((k : Int) + 1).toNat * 1 = k + 1 by omega]
          refine g_el2 (k := 8) (m := (n + 1) * 1) (fs' := fun id' => .row fN id' (0 + (rowB n nx).length) :: BM fA idA n x7 (x.cells dv) fs) (xt rfl) xc rfl rfl (by decide) (by rw [hl]; omega) rfl (fun _ => .here) fun id' hfresh => ?_
          rw [hl, show 0 + (n + 1) = (n + 1) * 1 by omega]
          show WG sW ftab _ 80 ((8, .row ((rowB n nx).take (k + 1) ++ (AV.bool true).cells ++ (rowB n nx).drop (k + 1 + 1)) (n + 1) ⟨fN, id', 0, 1⟩) :: _) _ _
          rw [rowB_set (g' := fun j => if j = k + 1 then true else nx j) (by omega) (by simp) (fun j hj hjk => by simp [hjk])]
          refine cgo ?_
          refine g_do rfl (o_add (xt rfl) xc (by constructor <;> omega) ?_)
          refine cgo ?_
          refine l_sub (e' := [(1, .str s), (7, .ptr x7 0), (8, .row (rowB n fun j => if j = k + 1 then true else nx j) (n + 1) ⟨fN, id', 0, 1⟩), (17, iv), (18, .int .i64 N), (19, .int .i64 j), (27, .row (rowB n g) (n + 1) ⟨fA, idA, 0, 1⟩), (28, .int .i64 ((n + 1 : Nat) : Int)), (29, .int .i64 ((k + 1 : Nat) : Int))]) (.cons rfl (.cons rfl (.cons rfl (.cons (congrArg some (hiv.swap fun f i e h => hfr f i e (.there (.there h)))) (.cons rfl (.cons rfl (.cons (congrArg some (swap_ne (hfr _ _ _ .here))) (.cons rfl (.cons rfl .nil))))))))) (fun _ h => h) ?_
          refine mm_one hs hn hiv hx hd h42 hQ r (k + 1) id' _ (by omega) (fun f i e h => hfresh f i e (.there h)) (fun j hj hjn => ?_) (fun j hj => by rw [if_neg (by omega)]; exact hnz j (by omega))
          by_cases hjk : j = k + 1
          · rw [if_pos hjk, hjk, hup, ho]
          · rw [if_neg hjk]; exact hnx j (by omega) hjn
      · have hkn2 : k = n := by omega
        refine cgo ?_
        refine g_do rfl (o_add (xt rfl) xc (by constructor <;> omega) ?_)
        refine cgo ?_
        refine l_sub (e' := [(1, .str s), (7, .ptr x7 0), (8, .row (rowB n nx) (n + 1) ⟨fN, idN, 0, 1⟩), (17, iv), (18, .int .i64 N), (19, .int .i64 j), (27, .row (rowB n g) (n + 1) ⟨fA, idA, 0, 1⟩), (28, .int .i64 ((n + 1 : Nat) : Int)), (29, .int .i64 ((k + 1 : Nat) : Int))]) (.cons rfl (.cons rfl (.cons rfl (.cons rfl (.cons rfl (.cons rfl (.cons rfl (.cons rfl (.cons rfl .nil))))))))) (fun _ h => h) ?_
        refine mm_one hs hn hiv hx hd h42 hQ r (k + 1) idN nx (by omega) hfr (fun j hj hjn => ?_) (fun j hj => hnz j (by omega))
        by_cases hjk : j = k + 1
        · rw [hjk, hnz (k + 1) (by omega)]
          exfalso; omega
        · exact hnx j (by omega) hjn
theorem mm_out {s : ByteArray} {iv : AV} {ics : List AV} {n : Nat} {l : List It} (hs : s.size = n) (hn : n ≤ 1000000) (hN : l.length ≤ 1000000) (hiv : RV fs 6 iv ics l.length) (hI : ItV fs l ics) (hok : ∀ x ∈ l, ItOk x) {gf : Nat → Bool} {Q : AO → Env → List Fact → Prop}
    (hQ : ∀ en fA idA, Sub en [(1, .str s), (5, .row (rowB n gf) (n + 1) ⟨fA, idA, 0, 1⟩)] → Q (.exit 0) en (.row fA idA ((n + 1) * 1) :: fs)) :
    ∀ (r j fA idA : Nat) (g : Nat → Bool), j + r = l.length → matM s.data.toList (l.drop j) g = gf →
    WL sW ftab lb35_1 80 [(1, .str s), (5, .row (rowB n g) (n + 1) ⟨fA, idA, 0, 1⟩), (17, iv), (18, .int .i64 l.length), (19, .int .i64 j)] (.row fA idA ((n + 1) * 1) :: fs) Q
  | 0, j, fA, idA, g, hj, hg => by
    refine l_round ?_
    refine cgo ?_
    refine g_do rfl (o_lss (xt rfl) (xt rfl) (fun h => by omega) (fun h => ?_))
    refine cgo ?_
    rw [List.drop_of_length_le (by omega)] at hg
    have hg : g = gf := hg
    subst hg
    exact hQ _ fA idA (.cons rfl (.cons rfl .nil))
  | r + 1, j, fA, idA, g, hj, hg => by
    have hlt : j < l.length := by omega
    have hxj : l[j]? = some l[j] := List.getElem?_eq_getElem hlt
    obtain ⟨dv, hcs, hd⟩ := hI.get hxj
    have hx := hok l[j] (List.getElem_mem hlt)
    rw [List.drop_eq_getElem_cons hlt] at hg
    generalize l[j] = x at hcs hd hx hg
    have hsc : (AV.agg (x.cells dv)).cells.all EvA.scalar = true := by show (EvA.scalar dv && _) = true; rw [hd.scalar]; rfl
    obtain ⟨sr, rfl, hrd, hz⟩ := hiv.some (by omega)
    refine l_round ?_
    refine cgo ?_
    refine g_do rfl (o_lss (xt rfl) (xt rfl) (fun h => ?_) (fun h => by omega))
    refine cgo ?_
    refine w_block ?_
    refine cgo ?_
    refine g_do rfl (o_iaddr (xt rfl) (xt rfl) ⟨by omega, by omega⟩ hz ?_)
    refine g_do rfl (o_loadr (v := .agg (x.cells dv)) (xt rfl) hrd.cons (by
      rw [show ((j : Nat) : Int).toNat * 6 = j * 6 by omega]
      have hl := hI.len
      show (if _ then some (AV.agg ((ics.drop (j * 6)).take 6)) else none) = _
      rw [if_pos (by omega), hcs]) ?_)
    refine g_do rfl (o_box xc rfl fun x7 => ?_)
    refine g_do0 (o_store (xt rfl) (xt rfl) .here ⟨rfl, (Nat.le_of_ble_eq_true rfl)⟩ hsc rfl ?_)
    refine cgo ?_
    rw [hs]
    refine g_do rfl (o_add (xt rfl) xc (by constructor <;> omega) ?_)
    refine g_do rfl (o_make2 (n := n + 1) (xt rfl) (xt rfl) (by omega) (by omega) (rowB_new n) fun fN idN hfr => ?_)
    refine cgo ?_
    refine w_mono (Q := fun ao e' fs' => ao = .normal ∧ ∃ idN, fs' = .row fN idN ((n + 1) * 1) :: BM fA idA n x7 (x.cells dv) fs ∧ Sub e' [(1, .str s), (8, .row (rowB n (stepI s.data.toList x g)) (n + 1) ⟨fN, idN, 0, 1⟩), (17, .row ics l.length sr), (18, .int .i64 l.length), (19, .int .i64 j)]) ?_ ?_
    · refine w_block (w_loop ?_)
      refine l_sub (e' := [(1, .str s), (7, .ptr x7 0), (8, .row (rowB n fun _ => false) (n + 1) ⟨fN, idN, 0, 1⟩), (17, .row ics l.length sr), (18, .int .i64 l.length), (19, .int .i64 j), (27, .row (rowB n g) (n + 1) ⟨fA, idA, 0, 1⟩), (28, .int .i64 ((n + 1 : Nat) : Int)), (29, .int .i64 ((0 : Nat) : Int))]) (fs' := .row fN idN ((n + 1) * 1) :: BM fA idA n x7 (x.cells dv) fs) (.cons rfl (.cons rfl (.cons rfl (.cons rfl (.cons rfl (.cons rfl (.cons rfl (.cons rfl (.cons rfl .nil))))))))) (fun _ h => h.perm (.cons _ (.swap ..))) ?_
      have hfr' : ∀ f i e, Has (BM fA idA n x7 (x.cells dv) fs) (.row f i e) → i ≠ idN := fun f i e h => by
        cases h with
        | here => exact hfr _ _ _ (.there .here)
        | there h => cases h with
          | there h => exact hfr _ _ _ (.there (.there h))
      by_cases h42 : x.kind = 42
      · have e1 : stepI s.data.toList x g = orUp g := by unfold stepI; rw [if_pos h42]
        rw [e1]
        exact mm_star hs hn hiv h42 (fun en id hS => ⟨rfl, id, rfl, hS⟩) (n + 1) 0 idN _ (by omega) hfr' (fun j hj => by omega)
      · have e1 : stepI s.data.toList x g = oneUp (oneI x) s.data.toList g := by unfold stepI; rw [if_neg h42]
        rw [e1]
        exact mm_one hs hn hiv hx hd h42 (fun en id hS => ⟨rfl, id, rfl, hS⟩) (n + 1) 0 idN _ (by omega) hfr' (fun j hj _ => by rw [show j = 0 from Nat.le_zero.1 hj]; rfl) (fun j hj => rfl)
    · rintro ao e' fs' ⟨rfl, idN', rfl, hS⟩
      refine w_sub hS (fun _ h => h) ?_
      refine cgo ?_
      refine g_do rfl (o_add (xt rfl) xc (by constructor <;> omega) ?_)
      refine cgo ?_
      refine l_sub (fs' := .row fN idN' ((n + 1) * 1) :: fs) (e' := [(1, .str s), (5, .row (rowB n (stepI s.data.toList x g)) (n + 1) ⟨fN, idN', 0, 1⟩), (17, .row ics l.length sr), (18, .int .i64 l.length), (19, .int .i64 ((j + 1 : Nat) : Int))]) (.cons rfl (.cons rfl (.cons rfl (.cons rfl (.cons rfl .nil))))) (fun _ h => h.mono (.cons_cons _ (.cons _ (.cons _ (.refl _))))) ?_
      exact mm_out hs hn hN hiv hI hok hQ r (j + 1) fN idN' _ (by omega) hg
theorem matched_ev {s : ByteArray} {iv : AV} {ics : List AV} {l : List It} (hn : s.size ≤ 1000000) (hN : l.length ≤ 1000000) (hiv : RV fs 6 iv ics l.length) (hI : ItV fs l ics) (hok : ∀ x ∈ l, ItOk x) {K : KK} (h : K (.bool (matM s.data.toList l (fun j => decide (j = 0)) s.size)) fs) : Ev sW ftab 35 [iv, .str s] fs K := by
  refine ev_fn (nt := 80) (kb := kb35) (kr := kr35) rfl rfl (Nat.le_of_ble_eq_true rfl) ?_
  obtain ⟨n, hs⟩ : ∃ n, s.size = n := ⟨_, rfl⟩
  refine cgo ?_
  rw [hs]
  refine g_do rfl (o_add (xt rfl) xc (by constructor <;> omega) ?_)
  refine g_do rfl (o_make2 (n := n + 1) (xt rfl) (xt rfl) (by omega) (by omega) (rowB_new n) fun fA idA hfr => ?_)
  refine cgo ?_
  refine g_do rfl (o_iaddr (xt rfl) xc ⟨by omega, by omega⟩ rfl ?_)
  have hl := rowB_len n fun _ => false
  refine g_el2 (k := 5) (m := (n + 1) * 1) (fs' := fun id' => .row fA id' (0 + (rowB n fun _ => false).length) :: fs) (xt rfl) xc rfl rfl (by decide) (by rw [hl]; show 0 + 1 ≤ n + 1; omega) rfl (fun _ => .here) fun id' hfresh => ?_
  rw [hl, show 0 + (n + 1) = (n + 1) * 1 by omega]
  show WG sW ftab _ 80 ((5, .row ((rowB n fun _ => false).take 0 ++ (AV.bool true).cells ++ (rowB n fun _ => false).drop (0 + 1)) (n + 1) ⟨fA, id', 0, 1⟩) :: _) _ _
  rw [rowB_set (g' := fun j => decide (j = 0)) (by omega) (by simp) (fun j hj hjk => by simp [hjk])]
  refine g_sub (e' := [(1, .str s), (5, .row (rowB n fun j => decide (j = 0)) (n + 1) ⟨fA, id', 0, 1⟩), (0, iv)]) (.cons rfl (.cons rfl (.cons (congrArg some (hiv.swap hfr)) .nil))) (fun _ h => h) ?_
  refine cgo ?_
  refine g_do rfl (o_len (xt rfl) hiv.cons ?_)
  refine cgo ?_
  refine w_block (w_loop ?_)
  refine l_sub (e' := [(1, .str s), (5, .row (rowB n fun j => decide (j = 0)) (n + 1) ⟨fA, id', 0, 1⟩), (17, iv), (18, .int .i64 l.length), (19, .int .i64 ((0 : Nat) : Int))]) (.cons rfl (.cons rfl (.cons rfl (.cons rfl (.cons rfl .nil))))) (fun _ h => h) ?_
  refine mm_out hs (by omega) hN hiv hI hok (fun e fA idA hS => ?_) l.length 0 fA id' _ (by omega) rfl
  refine w_sub hS (fun _ h => h) ?_
  refine cgo ?_
  rw [hs]
  refine g_do rfl (o_iaddr (xt rfl) (xt rfl) ⟨by omega, by omega⟩ rfl ?_)
  refine g_do rfl (o_loadr (xt rfl) (.own .here) (rowB_get _ (by omega)) ?_)
  refine cgo ?_
  rw [hs] at h
  exact ⟨trivial, _, _, .one (.tmp rfl), .cons _ (.refl _), h⟩
theorem inn_get {t : List UInt8} {f m k : Nat} (h : k < m) : ((t.drop f).take m)[k]? = t[f + k]? := by
  rw [List.getElem?_take, if_pos h, List.getElem?_drop]
theorem dash_get {L : List Bool} {f m k : Nat} (h : k < m) : lvB (dashB L f m) k = lvB L (f + k) := by
  unfold lvB dashB
  rw [List.getElem?_map, List.getElem?_range h]; rfl
theorem among_cut {t : List UInt8} {L : List Bool} {f e c : Nat} (he : f ≤ e) : ∀ (r k : Nat), amongB ((t.drop f).take (e - f)) (dashB L f (e - f)) (e - f) c r k = amongB t L e c r (f + k)
  | 0, k => rfl
  | r + 1, k => by
    unfold amongB
    by_cases hk : k < e - f
    · rw [if_pos hk, if_pos (show f + k < e by omega), among_cut he r (k + 3), among_cut he r (k + 1), ← Nat.add_assoc f k 3, ← Nat.add_assoc f k 1]
      have heq : eqAt ((t.drop f).take (e - f)) k c = eqAt t (f + k) c := by unfold eqAt; rw [inn_get hk]
      by_cases h2 : k + 2 < e - f
      · have hb : between ((t.drop f).take (e - f)) k c = between t (f + k) c := by unfold between; rw [inn_get hk, inn_get h2, ← Nat.add_assoc f k 2]
        have hi : isB ((t.drop f).take (e - f)) (dashB L f (e - f)) (k + 1) 45 = isB t L (f + k + 1) 45 := by unfold isB; rw [inn_get (show k + 1 < e - f by omega), dash_get (show k + 1 < e - f by omega), ← Nat.add_assoc f k 1]
        rw [decide_eq_true h2, decide_eq_true (show f + k + 2 < e by omega), hb, hi, heq]
      · rw [decide_eq_false h2, decide_eq_false (show ¬ f + k + 2 < e by omega), heq]
        simp only [Bool.false_and, Bool.false_eq_true, if_false]
    · rw [if_neg hk, if_neg (show ¬ f + k < e by omega)]
theorem inn_len {t : List UInt8} {f e : Nat} (he : e ≤ t.length) : ((t.drop f).take (e - f)).length = e - f := by rw [List.length_take, List.length_drop]; omega
theorem stepI_lit {s : List UInt8} {c : Nat} {g : Nat → Bool} : stepI s (litIt c) g = oneUp (oneI (litIt c)) s g := by unfold stepI; exact if_neg (by simp [litIt])
theorem stepI_set {t s : List UInt8} {L : List Bool} {i e : Nat} {g : Nat → Bool} : stepI s (setIt t L i e) g = oneUp (oneI (setIt t L i e)) s g := by unfold stepI; exact if_neg (by simp [setIt])
theorem stepI_wild {s : List UInt8} {c : Nat} {g : Nat → Bool} (h : ¬ c = 42) : stepI s (wildIt c) g = oneUp (oneI (wildIt c)) s g := by unfold stepI; exact if_neg h
theorem stepI_star {s : List UInt8} {c : Nat} {g : Nat → Bool} (h : c = 42) : stepI s (wildIt c) g = orUp g := by unfold stepI; exact if_pos h
theorem oneI_lit (c d : Nat) : oneI (litIt c) d = decide (c = d) := by
  unfold oneI
  rw [if_neg (by simp [litIt]), if_neg (by simp [litIt])]
  rfl
theorem oneI_wild {c : Nat} (h : c = 63) (d : Nat) : oneI (wildIt c) d = true := by unfold oneI; exact if_pos (Or.inr h)
theorem oneI_set (t : List UInt8) (L : List Bool) (i e d : Nat) : oneI (setIt t L i e) d = (hasI (setIt t L i e) d != isB t L (i + 1) 33) := by unfold oneI; simp [setIt]
theorem item_step {t : List UInt8} {L : List Bool} {s : List UInt8} {i : Nat} {y : UInt8} (hy : t[i]? = some y) (g : Nat → Bool) : stepI s (itemAt t L i y.toNat) g = stepB t L s i g := by
  have brkN : ¬ (lvB L i = true ∧ y.toNat = 91) → brk t L i = none := fun h => by
    unfold brk
    rw [isB_in hy, if_neg]
    simp only [Bool.and_eq_true, decide_eq_true_eq]; exact h
  have no42 : ¬ (lvB L i = true ∧ y.toNat = 42) → stepB t L s i g = oneUp (takeB t L i) s g := fun h => by
    unfold stepB
    rw [isB_in hy, if_neg]
    simp only [Bool.and_eq_true, decide_eq_true_eq]; exact h
  have litF : itemAt t L i y.toNat = litIt y.toNat → ¬ (lvB L i = true ∧ y.toNat = 42) → brk t L i = none → ¬ (lvB L i = true ∧ y.toNat = 63) → stepI s (itemAt t L i y.toNat) g = stepB t L s i g := fun he h42 hb h63 => by
    rw [he, stepI_lit, no42 h42]
    have : oneI (litIt y.toNat) = takeB t L i := by
      funext c
      unfold takeB eqAt
      rw [isB_in hy, if_neg (by simp only [Bool.and_eq_true, decide_eq_true_eq]; exact h63), hb, hy, oneI_lit]
      exact decide_eq_decide.2 ⟨fun h => congrArg some h, fun h => Option.some.inj h⟩
    rw [this]
  by_cases hl : lvB L i = true
  · by_cases h42 : y.toNat = 42
    · have he : itemAt t L i y.toNat = wildIt y.toNat := by unfold itemAt; rw [if_pos hl, if_pos (Or.inl h42)]
      rw [he, stepI_star h42]
      unfold stepB
      rw [isB_in hy, hl, Bool.true_and, decide_eq_true h42, if_pos rfl]
    · by_cases h63 : y.toNat = 63
      · have he : itemAt t L i y.toNat = wildIt y.toNat := by unfold itemAt; rw [if_pos hl, if_pos (Or.inr h63)]
        rw [he, stepI_wild h42, no42 (fun h => h42 h.2)]
        have e1 : oneI (wildIt y.toNat) = takeB t L i := by
          funext c
          unfold takeB
          rw [isB_in hy, hl, Bool.true_and, decide_eq_true h63, if_pos rfl, oneI_wild h63]
        rw [e1]
      · by_cases h91 : y.toNat = 91
        · cases hb : brk t L i with
          | none => exact litF (by unfold itemAt; rw [if_pos hl, if_neg (by omega), if_pos h91, hb]) (fun h => h42 h.2) hb (fun h => h63 h.2)
          | some e =>
            have hsp := brk_spec hb
            have he : itemAt t L i y.toNat = setIt t L i e := by unfold itemAt; rw [if_pos hl, if_neg (by omega), if_pos h91, hb]
            rw [he, stepI_set, no42 (fun h => h42 h.2)]
            have e1 : oneI (setIt t L i e) = takeB t L i := by
              funext c
              unfold takeB
              rw [isB_in hy, hl, Bool.true_and, decide_eq_false h63, if_neg (by simp), hb, oneI_set]
              have e2 : hasI (setIt t L i e) c = amongB t L e c (e - fromB t L i) (fromB t L i) := by
                show amongB ((t.drop (fromB t L i)).take (e - fromB t L i)) (dashB L (fromB t L i) (e - fromB t L i)) ((t.drop (fromB t L i)).take (e - fromB t L i)).length c ((t.drop (fromB t L i)).take (e - fromB t L i)).length 0 = _
                rw [inn_len (by omega), among_cut (by omega) _ 0, Nat.add_zero]
              rw [e2]
            rw [e1]
        · exact litF (by unfold itemAt; rw [if_pos hl, if_neg (by omega), if_neg h91]) (fun h => h42 h.2) (brkN fun h => h91 h.2) (fun h => h63 h.2)
  · exact litF (by unfold itemAt; rw [if_neg hl]) (fun h => hl h.1) (brkN fun h => hl h.1) (fun h => hl h.1)
theorem items_go {t : List UInt8} {L : List Bool} {s : List UInt8} : ∀ (r i : Nat) (g : Nat → Bool), matM s (itemsB t L r i) g = goB t L s r i g
  | 0, i, g => rfl
  | r + 1, i, g => by
    unfold itemsB goB
    cases hy : t[i]? with
    | none =>
      have : ¬ i < t.length := by have := List.getElem?_eq_none_iff.1 hy; omega
      rw [if_neg this]; rfl
    | some y =>
      have : i < t.length := (List.getElem?_eq_some_iff.1 hy).1
      rw [if_pos this]
      show matM s (itemsB t L r (nextB t L i)) (stepI s (itemAt t L i y.toNat) g) = _
      rw [item_step hy, items_go r]
theorem itemsB_len {t : List UInt8} {L : List Bool} : ∀ (r i : Nat), (itemsB t L r i).length ≤ r
  | 0, i => Nat.le_refl _
  | r + 1, i => by
    unfold itemsB
    split
    · rw [List.length_cons]; have := itemsB_len (t := t) (L := L) r (nextB t L i); omega
    · simp
theorem itemsB_ok {t : List UInt8} {L : List Bool} (ht : t.length ≤ 1000000) : ∀ (r i : Nat), ∀ x ∈ itemsB t L r i, ItOk x
  | 0, i, x, hx => by cases hx
  | r + 1, i, x, hx => by
    unfold itemsB at hx
    split at hx
    · rename_i y hy
      rcases List.mem_cons.1 hx with rfl | hx
      · have lit : ∀ c, ItOk (litIt c) := fun c => ⟨by show 0 ≤ 1000000; omega, rfl⟩
        have wild : ∀ c, ItOk (wildIt c) := fun c => ⟨by show 0 ≤ 1000000; omega, rfl⟩
        unfold itemAt
        split
        · split
          · exact wild _
          · split
            · split
              · rename_i e hb
                have hsp := brk_spec hb
                refine ⟨?_, ?_⟩
                · show ((t.drop (fromB t L i)).take (e - fromB t L i)).length ≤ 1000000
                  rw [inn_len (by omega)]; omega
                · show (dashB L (fromB t L i) (e - fromB t L i)).length = ((t.drop (fromB t L i)).take (e - fromB t L i)).length
                  rw [inn_len (by omega), dashB_len]
              · exact lit _
            · exact lit _
        · exact lit _
      · exact itemsB_ok ht r _ x hx
    · cases hx
theorem Has_left {y : Fact} {b : List Fact} : ∀ {a : List Fact}, Has a y → Has (a ++ b) y
  | _, .here => .here
  | _, .there h => .there (Has_left h)
theorem pmatch_ev {T s : ByteArray} {lw : AV} {L : List Bool} (hT : T.size ≤ 1000000) (hn : s.size ≤ 1000000) (hv : RV fs 1 lw (L.map .bool) L.length) {K : KK} (h : K (.bool (matchB T.data.toList L s.data.toList)) fs) : Ev sW ftab 24 [.agg [.str T, lw], .str s] fs K := by
  refine ev_fn (nt := 9) (kb := kb24) (kr := kr24) rfl rfl (Nat.le_of_ble_eq_true rfl) ?_
  refine cgo ?_
  refine g_do rfl (o_box (xt rfl) rfl fun b => ?_)
  refine cgo ?_
  refine g_do rfl (o_call (.cons (xt rfl) .nil) (items_ev hT hv.cons fun v cs fo ds hA hI => ?_))
  refine cgo ?_
  have hlen := itemsB_len (t := T.data.toList) (L := L) T.size 0
  have hI' : ItV (fo ++ (ds ++ .blk b (.cells [.str T, lw]) :: fs)) (itemsB T.data.toList L T.size 0) cs := hI.fr fun y hy => Has.app (Has_left hy)
  refine g_do rfl (o_call (.cons (xt rfl) (.cons (xt rfl) .nil)) (matched_ev hn (by omega) (RV.of hA) hI' (itemsB_ok (by rw [bsz]; exact hT) _ _) ?_))
  refine cgo ?_
  have e1 : matM s.data.toList (itemsB T.data.toList L T.size 0) (fun j => decide (j = 0)) s.size = matchB T.data.toList L s.data.toList := by
    rw [items_go]; unfold matchB; rw [bsz, bsz]
  rw [e1]
  exact ⟨trivial, _, fs, .one (.tmp rfl), (List.sublist_append_of_sublist_right (List.sublist_append_of_sublist_right (.cons _ (.refl _)))), h⟩
end Go.Proofs.Ythlmjpfklbocjaa.EvA
