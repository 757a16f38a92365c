/- EnvPlays: both environments, and the law. -/
import Derived.Test.YtjpmpnmjglbdiaaQx
import Derived.Test.YtjpmpnmjglbdiaaEvLg
import Derived.KernelRfl
namespace Go.Proofs.Ytjpmpnmjglbdiaa.EvA
attribute [local irreducible] oMove oPick oBox oBuild oRow oRowZ oLoad oStore oNil oArith oEq oEqS oShr oShl oNot oNeg oConv oFn oMfn oMin oMax oCutstr oCutrow oFaddr oField oIaddr oIaddrA oIdx oExtract oLenS oLenR oLenM oAppend oCall oCallv oMap oLookup oSet oDelete kDo kDo0 kIf kEl oMake oText kEnd kReg kSeq kCond kBlock kLoop kSkip kExit kRet xT xC xF kFl kIp sDo sDo0 sIf gVal
set_option linter.unusedVariables false
set_option linter.unusedSimpArgs false
set_option maxHeartbeats 4000000
variable {fs fs' : List Fact}
/-! A name's place. -/
def ltP (k : ByteArray) (p : PV) : Bool := decide (bl p.1 < bl k)
def posD (D : List PV) (k : ByteArray) : Nat := (D.takeWhile (ltP k)).length
theorem posD_le (D : List PV) (k : ByteArray) : posD D k ≤ D.length := (List.takeWhile_sublist _).length_le
theorem pos_stopP {α : Type} {p : α → Bool} : ∀ {L : List α} {n : Nat} {t : α}, (∀ x ∈ L.take n, p x = true) → L[n]? = some t → p t = false → (L.takeWhile p).length = n
  | [], n, t, _, h, _ => by simp at h
  | a :: L, 0, t, _, h, ht => by simp at h; subst h; simp [List.takeWhile_cons, ht]
  | a :: L, n + 1, t, hp, h, ht => by
    rw [List.takeWhile_cons, hp a (by simp)]
    simp only [if_true, List.length_cons]
    rw [pos_stopP (L := L) (n := n) (fun x hx => hp x (by rw [List.take_succ_cons]; exact List.mem_cons_of_mem _ hx)) (by simpa using h) ht]
theorem pos_endP {α : Type} {p : α → Bool} : ∀ {L : List α}, (∀ x ∈ L, p x = true) → (L.takeWhile p).length = L.length
  | [], _ => rfl
  | a :: L, h => by
    rw [List.takeWhile_cons, h a (by simp)]
    simp only [if_true, List.length_cons]
    rw [pos_endP (L := L) fun x hx => h x (List.mem_cons_of_mem _ hx)]
theorem rem_out : ∀ {D : List PV} {n : ByteArray}, (∀ p ∈ D, p.1 ≠ n) → remD D n = D
  | [], n, h => rfl
  | p :: D, n, h => by
    simp only [remD]
    rw [if_neg (h p (List.mem_cons_self ..)), rem_out fun q hq => h q (List.mem_cons_of_mem _ hq)]
theorem find_spec {k v : ByteArray} : ∀ {D : List PV}, UpV D → (getD2 D k = none ∧ (∀ q, D[posD D k]? = some q → q.1 ≠ k) ∧ insD D k v = D.take (posD D k) ++ (k, v) :: D.drop (posD D k) ∧ remD D k = D) ∨ (∃ u, getD2 D k = some u ∧ D[posD D k]? = some (k, u) ∧ insD D k v = D.take (posD D k) ++ (k, v) :: D.drop (posD D k + 1) ∧ remD D k = D.take (posD D k) ++ D.drop (posD D k + 1))
  | [], h => Or.inl ⟨rfl, fun q h => (by simp at h), rfl, rfl⟩
  | q :: D, h => by
    obtain ⟨h1, h2⟩ := List.pairwise_cons.1 h
    by_cases hlt : bl q.1 < bl k
    · have hp : posD (q :: D) k = posD D k + 1 := by
        unfold posD
        rw [List.takeWhile_cons]
        have : ltP k q = true := decide_eq_true hlt
        rw [this]; rfl
      have e1 : getD2 (q :: D) k = getD2 D k := if_neg (bl_ne hlt)
      have e2 : insD (q :: D) k v = q :: insD D k v := if_pos hlt
      have e3 : remD (q :: D) k = q :: remD D k := if_neg (bl_ne hlt)
      rw [hp, e1, e2, e3, List.take_succ_cons, List.drop_succ_cons, List.drop_succ_cons, List.getElem?_cons_succ]
      rcases find_spec (k := k) (v := v) h2 with ⟨g1, g2, g3, g4⟩ | ⟨u, g1, g2, g3, g4⟩
      · exact Or.inl ⟨g1, g2, by rw [g3]; rfl, by rw [g4]⟩
      · exact Or.inr ⟨u, g1, g2, by rw [g3]; rfl, by rw [g4]; rfl⟩
    · have hp : posD (q :: D) k = 0 := by
        unfold posD
        rw [List.takeWhile_cons]
        have : ltP k q = false := decide_eq_false hlt
        rw [this]; rfl
      rw [hp]
      by_cases he : q.1 = k
      · refine Or.inr ⟨q.2, if_pos he, ?_, ?_, if_pos he⟩
        · rw [List.getElem?_cons_zero, ← he]
        · show (if bl q.1 < bl k then q :: insD D k v else if q.1 = k then (k, v) :: D else (k, v) :: q :: D) = _
          rw [if_neg hlt, if_pos he]; rfl
      · have hgt : bl k < bl q.1 := by
          rcases bl_tri q.1 k with h | h | h
          · exact absurd h hlt
          · exact absurd h he
          · exact h
        have hout : ∀ p ∈ D, p.1 ≠ k := fun p hp => (bl_ne (List.lt_trans hgt (h1 p hp))).symm
        refine Or.inl ⟨?_, fun x hx => ?_, ?_, ?_⟩
        · show (if q.1 = k then some q.2 else getD2 D k) = none
          rw [if_neg he]; exact getD2_out hout
        · rw [List.getElem?_cons_zero] at hx
          obtain rfl := Option.some.inj hx
          exact he
        · show (if bl q.1 < bl k then q :: insD D k v else if q.1 = k then (k, v) :: D else (k, v) :: q :: D) = _
          rw [if_neg hlt, if_neg he]; rfl
        · show (if q.1 = k then D else q :: remD D k) = _
          rw [if_neg he, rem_out hout]
theorem cp_len (D : List PV) : (CP D).length = D.length * 2 := by
  induction D with
  | nil => rfl
  | cons p D ih =>
    show (AV.str p.1 :: AV.str p.2 :: CP D).length = _
    rw [List.length_cons, List.length_cons, ih, List.length_cons]; omega
theorem cp_scalar (D : List PV) : (CP D).all scalar = true := by
  induction D with
  | nil => rfl
  | cons p D ih =>
    show (AV.str p.1 :: AV.str p.2 :: CP D).all scalar = true
    simp only [List.all_cons, ih, scalar, Bool.and_self]
theorem cp_app (D E : List PV) : CP (D ++ E) = CP D ++ CP E := by simp [CP, cells2]
theorem cp_take : ∀ (D : List PV) (n : Nat), (CP D).take (n * 2) = CP (D.take n)
  | [], n => by simp [CP, cells2]
  | p :: D, 0 => rfl
  | p :: D, n + 1 => by
    show (AV.str p.1 :: AV.str p.2 :: CP D).take ((n + 1) * 2) = _
    rw [show (n + 1) * 2 = n * 2 + 1 + 1 by omega, List.take_succ_cons, List.take_succ_cons, cp_take D n]; rfl
theorem cp_drop : ∀ (D : List PV) (n : Nat), (CP D).drop (n * 2) = CP (D.drop n)
  | [], n => by simp [CP, cells2]
  | p :: D, 0 => rfl
  | p :: D, n + 1 => by
    show (AV.str p.1 :: AV.str p.2 :: CP D).drop ((n + 1) * 2) = _
    rw [show (n + 1) * 2 = n * 2 + 1 + 1 by omega, List.drop_succ_cons, List.drop_succ_cons, cp_drop D n]; rfl
theorem cp_get {D : List PV} {n : Nat} {p : PV} (h : D[n]? = some p) : (CP D)[n * 2]? = some (.str p.1) ∧ (CP D)[n * 2 + 1]? = some (.str p.2) := cells2_get _ _ D n p h
theorem cp_name {D : List PV} {n : Nat} {p : PV} (h : D[n]? = some p) : apart (CP D) (((n : Nat) : Int).toNat * 2 + 0) none = some (.str p.1) := by
  show (CP D)[((n : Nat) : Int).toNat * 2 + 0]? = _
  rw [Nat.add_zero, Int.toNat_natCast]; exact (cp_get h).1
theorem cp_val {D : List PV} {n : Nat} {p : PV} (h : D[n]? = some p) : apart (CP D) (((n : Nat) : Int).toNat * 2 + 1) none = some (.str p.2) := by
  show (CP D)[((n : Nat) : Int).toNat * 2 + 1]? = _
  rw [Int.toNat_natCast]; exact (cp_get h).2
theorem cp_pair {D : List PV} {n : Nat} {p : PV} (h : D[n]? = some p) : apart (CP D) (((n : Nat) : Int).toNat * 2) (some 2) = some (.agg [.str p.1, .str p.2]) := by
  have hlt := (List.getElem?_eq_some_iff.1 h).1
  show (if ((n : Nat) : Int).toNat * 2 + 2 ≤ (CP D).length then some (AV.agg (((CP D).drop (((n : Nat) : Int).toNat * 2)).take 2)) else none) = _
  rw [Int.toNat_natCast, if_pos (by rw [cp_len]; omega), cp_drop, show (2 : Nat) = 1 * 2 from rfl, cp_take]
  have : (D.drop n).take 1 = [p] := by
    rw [List.drop_eq_getElem_cons hlt]
    obtain ⟨_, rfl⟩ := List.getElem?_eq_some_iff.1 h
    rfl
  rw [this]; rfl
theorem cp_cut {v : AV} {D : List PV} {p q : Nat} (h : RV fs 2 v (CP D) D.length) (hq : p ≤ q ∧ q ≤ D.length) : RV fs 2 (cutV v 2 p q) (CP ((D.drop p).take (q - p))) (q - p) := by
  have := cutV_rv h hq
  rw [cp_drop, cp_take] at this; exact this
/-! The document's environment. -/
def WInv (fs : List Fact) (w : Nat) (D : List PV) (A : List ByteArray) (E F U : Bool) : Prop := ∃ lv av, Has fs (.blk w (.cells [lv, av, .bool E, .bool F, .bool U])) ∧ RV fs 2 lv (CP D) D.length ∧ RV fs 1 av (A.map .str) A.length
theorem WInv.fr {w : Nat} {D : List PV} {A : List ByteArray} {E F U : Bool} {ks : List (Nat × Nat)} (h : WInv fs w D A E F U) (g : Fr ks fs fs') (hk : ∀ x ∈ ks, x.1 = 0 ∧ x.2 ≠ w) : WInv fs' w D A E F U := by
  obtain ⟨lv, av, h1, h2, h3⟩ := h
  exact ⟨lv, av, g _ h1 fun hm => (hk _ hm).2 rfl, h2.fr g fun x hx => (hk x hx).1, h3.fr g fun x hx => (hk x hx).1⟩
theorem drop_headP {α : Type} {l r : List α} {i : Nat} {b : α} (h : l.drop i = b :: r) : l[i]? = some b ∧ l.drop (i + 1) = r ∧ i < l.length := by
  have hb : l[i]? = some b := by
    have := congrArg List.head? h
    rw [List.head?_drop] at this; simpa using this
  refine ⟨hb, ?_, (List.getElem?_eq_some_iff.1 hb).1⟩
  have := congrArg List.tail h
  simpa using this
theorem dfind_loop {w : Nat} {lv av bE bF bU : AV} {D : List PV} {k : ByteArray} (hw : Has fs (.blk w (.cells [lv, av, bE, bF, bU]))) (hl : RV fs 2 lv (CP D) D.length) (hD : D.length ≤ 1000000) {Q : AO → Env → List Fact → Prop} (hq : ∀ e, Sub e [(0, .ptr w 0), (1, .str k), (6, .int .i64 (posD D k : Nat))] → Q (.exit 0) e fs) :
    ∀ (l : List PV) (n : Nat), D.drop n = l → n ≤ D.length → (∀ x ∈ D.take n, ltP k x = true) → WL sW ftab lb36_0 48 [(0, .ptr w 0), (1, .str k), (6, .int .i64 n)] fs Q
  | [], n, hd, hn, hp => by
    have hge : D.length ≤ n := List.drop_eq_nil_iff.1 hd
    have hpos : posD D k = n := by
      unfold posD
      rw [pos_endP fun x hx => hp x (by rw [List.take_of_length_le hge]; exact hx)]; omega
    refine l_round ?_
    refine cgo ?_
    refine g_do rfl (o_load (xt rfl) hw rfl ?_)
    refine g_do rfl (o_len (xt rfl) hl ?_)
    refine g_do rfl (o_lss (xt rfl) (xt rfl) (fun h => by omega) (fun h => ?_))
    refine cgo ?_
    refine hq _ ?_
    rw [hpos]
    exact .cons rfl (.cons rfl (.cons rfl .nil))
  | t :: l, n, hd, hn, hp => by
    obtain ⟨h1, h2, h3⟩ := drop_headP hd
    obtain ⟨sr, rfl, hrd, hz⟩ := hl.some (by omega)
    refine l_round ?_
    refine cgo ?_
    refine g_do rfl (o_load (xt rfl) hw rfl ?_)
    refine g_do rfl (o_len (xt rfl) hl ?_)
    refine g_do rfl (o_lss (xt rfl) (xt rfl) (fun h => ?_) (fun h => by omega))
    refine cgo ?_
    refine g_do rfl (o_load (xt rfl) hw rfl ?_)
    refine cgo ?_
    refine g_do rfl (o_iaddr (xt rfl) (xt rfl) ⟨by omega, by omega⟩ hz ?_)
    refine g_if rfl ?_
    refine g_do rfl (o_faddrz (xt rfl) ?_)
    refine g_if rfl ?_
    refine g_do rfl (o_loadr (xt rfl) hrd (cp_name h1) ?_)
    refine cgo ?_
    refine g_do rfl (o_lst (xt rfl) (xt rfl) ?_)
    have hb2 : decide (t.1.data.toList < k.data.toList) = ltP k t := rfl
    rw [hb2]
    cases hb : ltP k t with
    | true =>
      refine cgo ?_
      refine w_block ?_
      refine cgo ?_
      refine g_do rfl (o_add (xt rfl) xc (by constructor <;> omega) ?_)
      refine cgo ?_
      refine l_sub (e' := [(0, .ptr w 0), (1, .str k), (6, .int .i64 ((n + 1 : Nat) : Int))]) (.cons rfl (.cons rfl (.cons rfl .nil))) (fun _ h => h) ?_
      refine dfind_loop hw hl hD hq l (n + 1) h2 (by omega) fun x hx => ?_
      rw [List.take_add_one, h1] at hx
      rcases List.mem_append.1 hx with hx | hx
      · exact hp x hx
      · obtain rfl : x = t := by simpa using hx
        exact hb
    | false =>
      have hpos : posD D k = n := pos_stopP hp h1 hb
      refine cgo ?_
      refine hq _ ?_
      rw [hpos]
      exact .cons rfl (.cons rfl (.cons rfl .nil))
theorem dfind_ev {w : Nat} {lv av bE bF bU : AV} {D : List PV} {k : ByteArray} {b : Bool} (hw : Has fs (.blk w (.cells [lv, av, bE, bF, bU]))) (hl : RV fs 2 lv (CP D) D.length) (hD : D.length ≤ 1000000) (hU : UpV D) (hb : (getD2 D k).isSome = b) {K : KK} (h : K (.tup [.int .i64 (posD D k : Nat), .bool b]) fs) : Ev sW ftab 36 [.ptr w 0, .str k] fs K := by
  have hple := posD_le D k
  refine ev_fn (nt := 48) (kb := kb36) (kr := kr36) rfl rfl (Nat.le_of_ble_eq_true rfl) ?_
  refine cgo ?_
  refine w_block (w_loop ?_)
  refine l_sub (e' := [(0, .ptr w 0), (1, .str k), (6, .int .i64 ((0 : Nat) : Int))]) (.cons rfl (.cons rfl (.cons rfl .nil))) (fun _ h => h) ?_
  refine dfind_loop hw hl hD (fun e hS => ?_) D 0 rfl (by omega) (by simp)
  refine w_sub hS (fun _ h => h) ?_
  refine cgo ?_
  refine g_do rfl (o_load (xt rfl) hw rfl ?_)
  refine g_do rfl (o_len (xt rfl) hl ?_)
  rcases find_spec (k := k) (v := ⟨#[]⟩) hU with ⟨g1, g2, _, _⟩ | ⟨u, g1, g2, _, _⟩
  · rw [g1] at hb
    subst hb
    refine g_do rfl (o_lss (xt rfl) (xt rfl) (fun h0 => ?_) (fun h0 => ?_))
    · obtain ⟨p, hp⟩ : ∃ p, D[posD D k]? = some p := ⟨_, List.getElem?_eq_getElem (by omega)⟩
      obtain ⟨sr, rfl, hrd, hz⟩ := hl.some (by omega)
      refine cgo ?_
      refine g_do rfl (o_load (xt rfl) hw rfl ?_)
      refine cgo ?_
      refine g_do rfl (o_iaddr (xt rfl) (xt rfl) ⟨by omega, by omega⟩ hz ?_)
      refine g_if rfl ?_
      refine g_do rfl (o_faddrz (xt rfl) ?_)
      refine g_if rfl ?_
      refine g_do rfl (o_loadr (xt rfl) hrd (cp_name hp) ?_)
      refine cgo ?_
      refine g_do rfl (o_eqs (xt rfl) (xt rfl) (fun h9 => absurd h9 (g2 p hp)) (fun _ => ?_))
      refine cgo ?_
      exact ⟨trivial, _, fs, .tup (.cons (.tmp rfl) (.cons (.tmp rfl) .nil)), .refl _, h⟩
    · refine cgo ?_
      exact ⟨trivial, _, fs, .tup (.cons (.tmp rfl) (.cons (.tmp rfl) .nil)), .refl _, h⟩
  · rw [g1] at hb
    subst hb
    have hlt := (List.getElem?_eq_some_iff.1 g2).1
    obtain ⟨sr, rfl, hrd, hz⟩ := hl.some (by omega)
    refine g_do rfl (o_lss (xt rfl) (xt rfl) (fun h0 => ?_) (fun h0 => by omega))
    refine cgo ?_
    refine g_do rfl (o_load (xt rfl) hw rfl ?_)
    refine cgo ?_
    refine g_do rfl (o_iaddr (xt rfl) (xt rfl) ⟨by omega, by omega⟩ hz ?_)
    refine g_if rfl ?_
    refine g_do rfl (o_faddrz (xt rfl) ?_)
    refine g_if rfl ?_
    refine g_do rfl (o_loadr (xt rfl) hrd (cp_name g2) ?_)
    refine cgo ?_
    refine g_do rfl (o_eqs (xt rfl) (xt rfl) (fun _ => ?_) (fun h9 => absurd rfl h9))
    refine cgo ?_
    exact ⟨trivial, _, fs, .tup (.cons (.tmp rfl) (.cons (.tmp rfl) .nil)), .refl _, h⟩
theorem dset_ev {w : Nat} {D : List PV} {A : List ByteArray} {E F U : Bool} {k v : ByteArray} (hW : WInv fs w D A E F U) (hU : UpV D) (hDl : D.length ≤ 100) (hk : k.size ≤ 1000000000) (hv : v.size ≤ 1000000000) {K : KK} (h : ∀ fs', Fr [(0, w)] fs fs' → WInv fs' w (setD D k v) A E F U → K (.int .i64 (setN D k v)) fs') : Ev sW ftab 19 [.ptr w 0, .str k, .str v] fs K := by
  have hW0 := hW
  obtain ⟨lv, av, hw, hl, ha⟩ := hW
  have hple := posD_le D k
  have same : ∀ n : Int, setN D k v = n → setD D k v = D → K (.int .i64 n) fs := fun n h1 h2 => by
    have := h fs .refl (by rw [h2]; exact hW0)
    rw [h1] at this; exact this
  refine ev_fn (nt := 62) (kb := kb19) (kr := kr19) rfl rfl (Nat.le_of_ble_eq_true rfl) ?_
  refine cgo ?_
  refine g_do rfl (o_call (.cons (xt rfl) .nil) (dname_ev hk (fun hn => ?_) (fun hn => ?_)))
  rotate_left
  · refine cgo ?_
    have := set_no (D := D) (v := v) hn
    exact ⟨trivial, _, _, .one (.tmp rfl), .refl _, same 1 this.1 this.2⟩
  refine cgo ?_
  rcases find_spec (k := k) (v := v) hU with ⟨g1, g2, g3, _⟩ | ⟨u, g1, g2, g3, _⟩
  · refine g_do rfl (o_call (.cons (xt rfl) (.cons (xt rfl) .nil)) (dfind_ev (b := false) hw hl (by omega) hU (by rw [g1]; rfl) ?_))
    refine cgo ?_
    refine g_do rfl (o_call (.cons (xt rfl) .nil) (dvalue_ev hv (fun hf => ?_) (fun hf => ?_)))
    rotate_left
    · refine cgo ?_
      have := set_bad (D := D) (v := v) hn fun h => hf h.1
      exact ⟨trivial, _, _, .one (.tmp rfl), .refl _, same 15 this.1 this.2⟩
    refine cgo ?_
    refine g_do rfl (o_load (xt rfl) hw rfl ?_)
    refine g_if rfl ?_
    refine g_do rfl (o_len (xt rfl) hl ?_)
    refine cgo ?_
    refine g_do rfl (o_geq (xt rfl) xc (fun h1 => ?_) (fun h1 => ?_))
    · refine cgo ?_
      have := set_bad (D := D) (v := v) hn fun h => h.2.elim (fun h => h g1) (fun h => by omega)
      exact ⟨trivial, _, _, .one (.tmp rfl), .refl _, same 15 this.1 this.2⟩
    refine cgo ?_
    refine g_do rfl (o_row .nil rfl rfl fun f id => ?_)
    refine cgo ?_
    refine g_do rfl (o_load (xt rfl) (.there hw) rfl ?_)
    refine cgo ?_
    refine g_do rfl (o_cutv (p := 0) (q := posD D k) (xt rfl) hl.cons .none (.some (xt rfl)) (bounds_hi ⟨by omega, by omega⟩) ?_)
    refine g_do rfl (o_appw (fs' := fun id' => .row f id' ((0 + posD D k) * 2) :: fs) (xt rfl) (.ofRV (xt rfl) (cp_cut hl.cons ⟨Nat.zero_le _, hple⟩)) (cp_scalar _) (by rw [cp_len, List.drop_zero, List.length_take]; omega) ⟨by omega, by omega⟩ (fun _ => .here) fun id1 => ?_)
    refine cgo ?_
    refine g_do rfl (o_row (cs := [.str k, .str v]) (.cons (xt rfl) .nil) rfl rfl fun f0 id0 => ?_)
    refine g_do rfl (o_appw (fs' := fun id' => .row f0 id0 (1 * 2) :: .row f id' ((0 + (posD D k - 0) + 1) * 2) :: fs) (xt rfl) (.own (s := ⟨f0, id0, 0, 2⟩) (xt rfl) .here rfl) rfl rfl ⟨by omega, by omega⟩ (fun _ => .there .here) fun id2 => ?_)
    refine cgo ?_
    refine g_do rfl (o_load (xt rfl) (.there (.there hw)) rfl ?_)
    refine cgo ?_
    refine g_do rfl (o_cutv (p := posD D k) (q := D.length) (xt rfl) hl.cons.cons (.some (xt rfl)) .none (bounds_lo ⟨by omega, by omega⟩) ?_)
    refine g_do rfl (o_appw (fs' := fun id' => .row f0 id0 (1 * 2) :: .row f id' ((0 + (posD D k - 0) + 1 + (D.length - (posD D k))) * 2) :: fs) (xt rfl) (.ofRV (xt rfl) (cp_cut hl.cons.cons ⟨by omega, Nat.le_refl _⟩)) (cp_scalar _) (by rw [cp_len, List.length_take, List.length_drop]; omega) ⟨by omega, by omega⟩ (fun _ => .there .here) fun id3 => ?_)
    refine cgo ?_
    have e1 : ([] ++ CP ((D.drop 0).take (posD D k - 0)) ++ [.str k, .str v] ++ CP ((D.drop (posD D k)).take (D.length - (posD D k)))) = CP (insD D k v) := by
      rw [g3, List.drop_zero, Nat.sub_zero, List.take_of_length_le (l := D.drop (posD D k)) (by rw [List.length_drop]; exact Nat.le_refl _), cp_app, List.nil_append, List.append_assoc]; rfl
    have e2 : 0 + (posD D k - 0) + 1 + (D.length - (posD D k)) = (insD D k v).length := by
      rw [g3, List.length_append, List.length_cons, List.length_take, List.length_drop]; omega
    rw [e1, e2]
    obtain ⟨fsP, hP⟩ := hw.put (.blk w (.cells [.row (CP (insD D k v)) (insD D k v).length ⟨f, id3, 0, 2⟩, av, .bool E, .bool F, .bool U]))
    refine g_do0 (o_store (xt rfl) (xt rfl) (.there (.there hP)) ⟨rfl, (Nat.le_of_ble_eq_true rfl)⟩ rfl rfl ?_)
    refine cgo ?_
    have hfr : Fr [(0, w)] fs (.row f0 id0 (1 * 2) :: .row f id3 ((insD D k v).length * 2) :: fsP) := (Fr.put hP).cons.cons
    have hgd := set_good (D := D) (v := v) hn ⟨hf, Or.inr (by omega)⟩
    have hres := h _ hfr ⟨_, av, .there (.there hP.hasNew), by rw [hgd.2]; exact .row (s := ⟨f, id3, 0, 2⟩) (.own (.there .here)) rfl, ha.fr hfr zk⟩
    rw [hgd.1] at hres
    exact ⟨trivial, _, _, .one (.tmp rfl), .refl _, hres⟩
  · have hlt := (List.getElem?_eq_some_iff.1 g2).1
    refine g_do rfl (o_call (.cons (xt rfl) (.cons (xt rfl) .nil)) (dfind_ev (b := true) hw hl (by omega) hU (by rw [g1]; rfl) ?_))
    refine cgo ?_
    refine g_do rfl (o_call (.cons (xt rfl) .nil) (dvalue_ev hv (fun hf => ?_) (fun hf => ?_)))
    rotate_left
    · refine cgo ?_
      have := set_bad (D := D) (v := v) hn fun h => hf h.1
      exact ⟨trivial, _, _, .one (.tmp rfl), .refl _, same 15 this.1 this.2⟩
    refine cgo ?_
    refine g_do rfl (o_row .nil rfl rfl fun f id => ?_)
    refine cgo ?_
    refine g_do rfl (o_load (xt rfl) (.there hw) rfl ?_)
    refine cgo ?_
    refine g_do rfl (o_cutv (p := 0) (q := posD D k) (xt rfl) hl.cons .none (.some (xt rfl)) (bounds_hi ⟨by omega, by omega⟩) ?_)
    refine g_do rfl (o_appw (fs' := fun id' => .row f id' ((0 + posD D k) * 2) :: fs) (xt rfl) (.ofRV (xt rfl) (cp_cut hl.cons ⟨Nat.zero_le _, hple⟩)) (cp_scalar _) (by rw [cp_len, List.drop_zero, List.length_take]; omega) ⟨by omega, by omega⟩ (fun _ => .here) fun id1 => ?_)
    refine cgo ?_
    refine g_do rfl (o_row (cs := [.str k, .str v]) (.cons (xt rfl) .nil) rfl rfl fun f0 id0 => ?_)
    refine g_do rfl (o_appw (fs' := fun id' => .row f0 id0 (1 * 2) :: .row f id' ((0 + (posD D k - 0) + 1) * 2) :: fs) (xt rfl) (.own (s := ⟨f0, id0, 0, 2⟩) (xt rfl) .here rfl) rfl rfl ⟨by omega, by omega⟩ (fun _ => .there .here) fun id2 => ?_)
    refine cgo ?_
    refine g_do rfl (o_add (xt rfl) xc (by constructor <;> omega) ?_)
    refine cgo ?_
    refine g_do rfl (o_load (xt rfl) (.there (.there hw)) rfl ?_)
    refine cgo ?_
    refine g_do rfl (o_cutv (p := posD D k + 1) (q := D.length) (xt rfl) hl.cons.cons (.some (xt rfl)) .none (by have := bounds_lo (n := D.length) (k := .i64) (a := ((posD D k : Nat) : Int) + 1) ⟨by omega, by omega⟩; rw [show (((posD D k : Nat) : Int) + 1).toNat = posD D k + 1 by omega] at this; exact this) ?_)
    refine g_do rfl (o_appw (fs' := fun id' => .row f0 id0 (1 * 2) :: .row f id' ((0 + (posD D k - 0) + 1 + (D.length - (posD D k + 1))) * 2) :: fs) (xt rfl) (.ofRV (xt rfl) (cp_cut hl.cons.cons ⟨by omega, Nat.le_refl _⟩)) (cp_scalar _) (by rw [cp_len, List.length_take, List.length_drop]; omega) ⟨by omega, by omega⟩ (fun _ => .there .here) fun id3 => ?_)
    refine cgo ?_
    have e1 : ([] ++ CP ((D.drop 0).take (posD D k - 0)) ++ [.str k, .str v] ++ CP ((D.drop (posD D k + 1)).take (D.length - (posD D k + 1)))) = CP (insD D k v) := by
      rw [g3, List.drop_zero, Nat.sub_zero, List.take_of_length_le (l := D.drop (posD D k + 1)) (by rw [List.length_drop]; exact Nat.le_refl _), cp_app, List.nil_append, List.append_assoc]; rfl
    have e2 : 0 + (posD D k - 0) + 1 + (D.length - (posD D k + 1)) = (insD D k v).length := by
      rw [g3, List.length_append, List.length_cons, List.length_take, List.length_drop]; omega
    rw [e1, e2]
    obtain ⟨fsP, hP⟩ := hw.put (.blk w (.cells [.row (CP (insD D k v)) (insD D k v).length ⟨f, id3, 0, 2⟩, av, .bool E, .bool F, .bool U]))
    refine g_do0 (o_store (xt rfl) (xt rfl) (.there (.there hP)) ⟨rfl, (Nat.le_of_ble_eq_true rfl)⟩ rfl rfl ?_)
    refine cgo ?_
    have hfr : Fr [(0, w)] fs (.row f0 id0 (1 * 2) :: .row f id3 ((insD D k v).length * 2) :: fsP) := (Fr.put hP).cons.cons
    have hgd := set_good (D := D) (v := v) hn ⟨hf, Or.inl (by rw [g1]; exact fun h => (by cases h))⟩
    have hres := h _ hfr ⟨_, av, .there (.there hP.hasNew), by rw [hgd.2]; exact .row (s := ⟨f, id3, 0, 2⟩) (.own (.there .here)) rfl, ha.fr hfr zk⟩
    rw [hgd.1] at hres
    exact ⟨trivial, _, _, .one (.tmp rfl), .refl _, hres⟩
theorem dunset_ev {w : Nat} {D : List PV} {A : List ByteArray} {E F U : Bool} {k : ByteArray} (hW : WInv fs w D A E F U) (hU : UpV D) (hDl : D.length ≤ 100) (hk : k.size ≤ 1000000000) {K : KK} (h : ∀ fs', Fr [(0, w)] fs fs' → WInv fs' w (remD D k) A E F U → K (.bool (nameB k)) fs') : Ev sW ftab 20 [.ptr w 0, .str k] fs K := by
  have hW0 := hW
  obtain ⟨lv, av, hw, hl, ha⟩ := hW
  have hple := posD_le D k
  refine ev_fn (nt := 35) (kb := kb20) (kr := kr20) rfl rfl (Nat.le_of_ble_eq_true rfl) ?_
  refine cgo ?_
  rcases find_spec (k := k) (v := ⟨#[]⟩) hU with ⟨g1, g2, _, g4⟩ | ⟨u, g1, g2, _, g4⟩
  · refine g_do rfl (o_call (.cons (xt rfl) (.cons (xt rfl) .nil)) (dfind_ev (b := false) hw hl (by omega) hU (by rw [g1]; rfl) ?_))
    refine cgo ?_
    have h := h fs .refl (by rw [g4]; exact hW0)
    refine g_do rfl (o_call (.cons (xt rfl) .nil) (dname_ev hk (fun hn => ?_) (fun hn => ?_)))
    · refine cgo ?_
      rw [nameB_t hn] at h
      exact ⟨trivial, _, _, .one (.tmp rfl), .refl _, h⟩
    · refine cgo ?_
      rw [nameB_f hn] at h
      exact ⟨trivial, _, _, .one (.tmp rfl), .refl _, h⟩
  · have hlt := (List.getElem?_eq_some_iff.1 g2).1
    have b2 : bounds D.length (some (.int .i64 (((posD D k : Nat) : Int) + 1))) none = some (posD D k + 1, D.length) := by
      have := bounds_lo (n := D.length) (k := .i64) (a := ((posD D k : Nat) : Int) + 1) ⟨by omega, by omega⟩
      rw [show (((posD D k : Nat) : Int) + 1).toNat = posD D k + 1 by omega] at this; exact this
    have b1 : bounds D.length none (some (.int .i64 ((posD D k : Nat) : Int))) = some (0, posD D k) := bounds_hi ⟨by omega, by omega⟩
    refine g_do rfl (o_call (.cons (xt rfl) (.cons (xt rfl) .nil)) (dfind_ev (b := true) hw hl (by omega) hU (by rw [g1]; rfl) ?_))
    refine cgo ?_
    refine g_fl ?_
    refine h_do rfl (o_move (xt rfl) ?_)
    refine h_do rfl (o_row .nil rfl rfl fun f id => ?_)
    refine h_do rfl (o_move (xt rfl) ?_)
    refine h_do rfl (o_nil (xt rfl) ?_)
    refine h_do rfl (o_faddr (xt rfl) ?_)
    refine h_do rfl (o_load (xt rfl) (.there hw) rfl ?_)
    refine h_do rfl (o_move (xt rfl) ?_)
    refine h_do rfl (o_cutv (xt rfl) hl.cons .none (.some (xt rfl)) b1 ?_)
    refine h_do rfl (o_appw (fs' := fun id' => .row f id' ((0 + (posD D k - 0)) * 2) :: fs) (xt rfl) (.ofRV (xt rfl) (cp_cut hl.cons ⟨Nat.zero_le _, hple⟩)) (cp_scalar _) (by rw [cp_len, List.drop_zero, List.length_take]; omega) ⟨by omega, by omega⟩ (fun _ => .here) fun id1 => ?_)
    refine h_do rfl (o_move (xt rfl) ?_)
    refine h_do rfl (o_nil (xt rfl) ?_)
    refine h_do rfl (o_faddr (xt rfl) ?_)
    refine h_do rfl (o_load (xt rfl) (.there hw) rfl ?_)
    refine h_do rfl (o_move (xt rfl) ?_)
    refine h_do rfl (o_add (xt rfl) xc (by constructor <;> omega) ?_)
    refine h_do rfl (o_cutv (xt rfl) hl.cons (.some (xt rfl)) .none b2 ?_)
    refine h_do rfl (o_appw (fs' := fun id' => .row f id' ((0 + (posD D k - 0) + (D.length - (posD D k + 1))) * 2) :: fs) (xt rfl) (.ofRV (xt rfl) (cp_cut hl.cons ⟨by omega, Nat.le_refl _⟩)) (cp_scalar _) (by rw [cp_len, List.length_take, List.length_drop]; omega) ⟨by omega, by omega⟩ (fun _ => .here) fun id3 => ?_)
    refine h_do rfl (o_nil (xt rfl) ?_)
    refine h_do rfl (o_faddr (xt rfl) ?_)
    have e1 : ([] ++ CP ((D.drop 0).take (posD D k - 0)) ++ CP ((D.drop (posD D k + 1)).take (D.length - (posD D k + 1)))) = CP (remD D k) := by
      rw [g4, List.drop_zero, Nat.sub_zero, List.take_of_length_le (l := D.drop (posD D k + 1)) (by rw [List.length_drop]; exact Nat.le_refl _), cp_app, List.nil_append]
    have e2 : 0 + (posD D k - 0) + (D.length - (posD D k + 1)) = (remD D k).length := by
      rw [g4, List.length_append, List.length_take, List.length_drop]; omega
    obtain ⟨fsP, hP⟩ := hw.put (.blk w (.cells [.row ([] ++ CP ((D.drop 0).take (posD D k - 0)) ++ CP ((D.drop (posD D k + 1)).take (D.length - (posD D k + 1)))) (0 + (posD D k - 0) + (D.length - (posD D k + 1))) ⟨f, id3, 0, 2⟩, av, .bool E, .bool F, .bool U]))
    refine h_do0 (o_store (xt rfl) (xt rfl) (.there hP) ⟨rfl, (Nat.le_of_ble_eq_true rfl)⟩ rfl rfl ?_)
    refine h_end ?_
    refine ⟨.cons rfl (.cons rfl (o_cutv (xt rfl) hl (.some (xt rfl)) .none b2 rfl) (.cons rfl (o_cutv (xt rfl) hl.cons (.some (xt rfl)) .none b2 rfl) .nil))
      (.cons rfl (.cons rfl (o_load (xt rfl) hw rfl rfl) (.cons rfl (o_load (xt rfl) (.there hw) rfl rfl) .nil))
      (.cons rfl (.cons rfl (o_cutv (xt rfl) hl .none (.some (xt rfl)) b1 rfl) .nil)
      (.cons rfl (.cons rfl (o_load (xt rfl) hw rfl rfl) .nil) .nil))), _, rfl, ?_⟩
    rw [e1, e2] at hP
    rw [e2]
    have hfr : Fr [(0, w)] fs (.row f id3 ((remD D k).length * 2) :: fsP) := (Fr.put hP).cons
    have h := h _ hfr ⟨_, av, .there hP.hasNew, .row (s := ⟨f, id3, 0, 2⟩) (.own .here) rfl, ha.fr hfr zk⟩
    refine cgo ?_
    refine g_do rfl (o_call (.cons (xt rfl) .nil) (dname_ev hk (fun hn => ?_) (fun hn => ?_)))
    · refine cgo ?_
      rw [nameB_t hn] at h
      exact ⟨trivial, _, _, .one (.tmp rfl), .refl _, h⟩
    · refine cgo ?_
      rw [nameB_f hn] at h
      exact ⟨trivial, _, _, .one (.tmp rfl), .refl _, h⟩
theorem dget_ev {w : Nat} {D : List PV} {A : List ByteArray} {E F U : Bool} {k : ByteArray} (hW : WInv fs w D A E F U) (hU : UpV D) (hDl : D.length ≤ 100) (hk : k.size ≤ 1000000000) {K : KK} (h : K (.tup [.str (getR D A k).1, .bool (getR D A k).2]) fs) : Ev sW ftab 24 [.ptr w 0, .str k] fs K := by
  obtain ⟨lv, av, hw, hl, ha⟩ := hW
  have hle := numM_le k
  unfold getR at h
  refine ev_fn (nt := 50) (kb := kb24) (kr := kr24) rfl rfl (Nat.le_of_ble_eq_true rfl) ?_
  refine cgo ?_
  refine g_do rfl (o_call (.cons (xt rfl) .nil) (dnum_ev hk ?_))
  obtain ⟨n, ok, hn⟩ : ∃ n ok, numM k = (n, ok) := ⟨_, _, rfl⟩
  rw [hn] at h hle ⊢
  simp only at hle ⊢
  cases ok with
  | true =>
    unfold getT at h
    simp only at h
    refine cgo ?_
    refine g_do rfl (o_geq (xt rfl) xc (fun h1 => ?_) (fun h1 => ?_))
    · refine cgo ?_
      refine g_do rfl (o_load (xt rfl) hw rfl ?_)
      refine g_if rfl ?_
      refine g_do rfl (o_len (xt rfl) ha ?_)
      refine cgo ?_
      refine g_do rfl (o_leq (xt rfl) (xt rfl) (fun h2 => ?_) (fun h2 => ?_))
      · obtain ⟨sr, rfl, hrd, hz⟩ := ha.some (by omega)
        refine cgo ?_
        refine g_do rfl (o_load (xt rfl) hw rfl ?_)
        refine cgo ?_
        refine g_do rfl (o_sub (xt rfl) xc (by constructor <;> omega) ?_)
        refine g_do rfl (o_iaddr (xt rfl) (xt rfl) ⟨by omega, by omega⟩ hz ?_)
        refine g_do rfl (o_loadr (v := .str (A.getD (n - 1) ⟨#[]⟩)) (xt rfl) hrd (by
          have e1 : (((n : Int) - 1).toNat * 1) = n - 1 := by omega
          have e2 : A[n - 1]? = some (A.getD (n - 1) ⟨#[]⟩) := by
            rw [List.getD_eq_getElem?_getD, List.getElem?_eq_getElem (by omega)]; rfl
          simp only [apart, e1, List.getElem?_map, e2]; rfl) ?_)
        refine cgo ?_
        rw [if_pos (by omega)] at h
        exact ⟨trivial, _, fs, .tup (.cons (.tmp rfl) (.cons (.tmp rfl) .nil)), .refl _, h⟩
      · refine cgo ?_
        rw [if_neg (by omega)] at h
        exact ⟨trivial, _, fs, .tup (.cons (.tmp rfl) (.cons (.tmp rfl) .nil)), .refl _, h⟩
    · refine cgo ?_
      rw [if_neg (by omega)] at h
      exact ⟨trivial, _, fs, .tup (.cons (.tmp rfl) (.cons (.tmp rfl) .nil)), .refl _, h⟩
  | false =>
    simp only at h
    refine cgo ?_
    rcases find_spec (k := k) (v := ⟨#[]⟩) hU with ⟨g1, g2, _, _⟩ | ⟨u, g1, g2, _, _⟩
    · rw [g1] at h
      refine g_do rfl (o_call (.cons (xt rfl) (.cons (xt rfl) .nil)) (dfind_ev (b := false) hw hl (by omega) hU (by rw [g1]; rfl) ?_))
      refine cgo ?_
      exact ⟨trivial, _, fs, .tup (.cons (.tmp rfl) (.cons (.tmp rfl) .nil)), .refl _, h⟩
    · rw [g1] at h
      have hlt := (List.getElem?_eq_some_iff.1 g2).1
      obtain ⟨sr, rfl, hrd, hz⟩ := hl.some (by omega)
      refine g_do rfl (o_call (.cons (xt rfl) (.cons (xt rfl) .nil)) (dfind_ev (b := true) hw hl (by omega) hU (by rw [g1]; rfl) ?_))
      refine cgo ?_
      refine g_do rfl (o_load (xt rfl) hw rfl ?_)
      refine cgo ?_
      refine g_do rfl (o_iaddr (xt rfl) (xt rfl) ⟨by omega, by omega⟩ hz ?_)
      refine g_do rfl (o_faddrz (xt rfl) ?_)
      refine g_do rfl (o_loadr (xt rfl) hrd (cp_val g2) ?_)
      refine cgo ?_
      exact ⟨trivial, _, fs, .tup (.cons (.tmp rfl) (.cons (.tmp rfl) .nil)), .refl _, h⟩
theorem ifs_num : numM ifsT = (0, false) := rfl
theorem difs_ev {w : Nat} {D : List PV} {A : List ByteArray} {E F U : Bool} (hW : WInv fs w D A E F U) (hU : UpV D) (hDl : D.length ≤ 100) {K : KK} (h : K (.str (ifsR D)) fs) : Ev sW ftab 34 [.ptr w 0] fs K := by
  unfold ifsR at h
  refine ev_fn (nt := 12) (kb := kb34) (kr := kr34) rfl rfl (Nat.le_of_ble_eq_true rfl) ?_
  refine cgo ?_
  refine g_do rfl (o_call (.cons (xt rfl) (.cons xc .nil)) (dget_ev (k := ifsT) hW hU hDl (by decide) ?_))
  have hr : getR D A ifsT = ((getD2 D ifsT).getD ⟨#[]⟩, (getD2 D ifsT).isSome) := by unfold getR; rw [ifs_num]
  rw [hr]
  cases hg : getD2 D ifsT with
  | none =>
    rw [hg] at h
    refine cgo ?_
    exact ⟨trivial, _, fs, .one (.tmp rfl), .refl _, h⟩
  | some u =>
    rw [hg] at h
    refine cgo ?_
    exact ⟨trivial, _, fs, .one (.tmp rfl), .refl _, h⟩
section
variable {S : Sum} {F : FuncId → Option AF} {L : Nat} {fs fs' : List Fact} {e : Env}
theorem w_nd {k : KC} {Q : AO → Env → List Fact → Prop} (h : (fs.map Fact.key).Nodup → WC S F k L e fs Q) : WC S F k L e fs Q := fun ts h0 h1 h2 => h h2.nodup ts h0 h1 h2
theorem g_nd {k : KR} {Q : Env → List Fact → Prop} (h : (fs.map Fact.key).Nodup → WG S F k L e fs Q) : WG S F k L e fs Q := fun ts h0 h1 h2 => h h2.nodup ts h0 h1 h2
theorem Ev.nd {f : FuncId} {args : List AV} {K : KK} (h : (fs.map Fact.key).Nodup → Ev S F f args fs K) : Ev S F f args fs K := fun h0 hh => h hh.nodup h0 hh
/-- A new block is no one that there was. -/
theorem nd_new {i j : Nat} {a b : ABlk} (h : ((Fact.blk i a :: fs).map Fact.key).Nodup) (hj : Has fs (.blk j b)) : j ≠ i := by
  rintro rfl
  rw [List.map_cons, List.nodup_cons] at h
  exact h.1 (List.mem_map.2 ⟨_, hj.mem, rfl⟩)
end
open Classical in
noncomputable def clip (s : ByteArray) : ByteArray := if Fits s then s else ⟨#[]⟩
theorem clip_t {s : ByteArray} (h : Fits s) : clip s = s := if_pos h
theorem clip_f {s : ByteArray} (h : ¬ Fits s) : clip s = ⟨#[]⟩ := if_neg h
noncomputable def clipA (T : List ByteArray) : List ByteArray := (T.take 100).map clip
theorem clipA_len (T : List ByteArray) : (clipA T).length = (T.take 100).length := by unfold clipA; rw [List.length_map]
theorem clipA_100 (T : List ByteArray) : (clipA T).length ≤ 100 := by rw [clipA_len, List.length_take]; omega
theorem clipA_next {T : List ByteArray} {i : Nat} {s : ByteArray} (h : (T.take 100)[i]? = some s) : ((clipA T).take (i + 1)).map AV.str = ((clipA T).take i).map AV.str ++ [.str (clip s)] := by
  have : (clipA T)[i]? = some (clip s) := by unfold clipA; rw [List.getElem?_map, h]; rfl
  rw [List.take_add_one, this, List.map_append]; rfl
theorem esa_loop {e : Nat} {mm mf cv : AV} {rest : List Fact} {T : List ByteArray} (hm : scalar mm = true) (hf : scalar mf = true) (hc : RV rest 1 cv ((T.take 100).map .str) (T.take 100).length) {Q : AO → Env → List Fact → Prop}
    (hQ : ∀ v fsA e', AR 1 v ((clipA T).map .str) (clipA T).length fsA → Q (.exit 0) e' (fsA ++ .blk e (.cells [mm, v, mf]) :: rest)) : ∀ (k i : Nat) (v : AV) (fsA : List Fact), i + k = (T.take 100).length → AR 1 v (((clipA T).take i).map .str) i fsA →
    WL sW ftab lb21_0 33 [(0, .ptr e 0), (13, cv), (14, .int .i64 (T.take 100).length), (15, .int .i64 (i : Int))] (fsA ++ .blk e (.cells [mm, v, mf]) :: rest) Q
  | 0, i, v, fsA, hi, hA => by
    refine l_round ?_
    refine cgo ?_
    refine g_do rfl (o_lss (xt rfl) (xt rfl) (fun h => by omega) (fun h => ?_))
    refine cgo ?_
    refine hQ _ _ _ ?_
    have : i = (clipA T).length := by rw [clipA_len]; omega
    subst this
    rw [List.take_length] at hA
    exact hA
  | k + 1, i, v, fsA, hi, hA => by
    have hl : (T.take 100).length ≤ 100 := by rw [List.length_take]; omega
    refine l_round ?_
    refine cgo ?_
    refine g_do rfl (o_lss (xt rfl) (xt rfl) (fun h => ?_) (fun h => by omega))
    refine cgo ?_
    refine w_block ?_
    obtain ⟨s, hs⟩ : ∃ s, (T.take 100)[i]? = some s := ⟨_, List.getElem?_eq_getElem (by omega)⟩
    obtain ⟨sr, rfl, r1, r2⟩ := ((hc.cons (x := .blk e (.cells [mm, v, mf]))).app (a := fsA)).some (by omega)
    refine cgo ?_
    refine g_do rfl (o_iaddr (xt rfl) (xt rfl) ⟨by omega, by omega⟩ r2 ?_)
    refine g_do rfl (o_loadr (v := .str s) (xt rfl) r1 (by
      show ((T.take 100).map AV.str)[(((i : Nat) : Int).toNat * 1)]? = _
      rw [Nat.mul_one, Int.toNat_natCast, List.getElem?_map, hs]; rfl) ?_)
    refine cgo ?_
    have next : ∀ e' v' fsB fs2, Sub e' [(0, .ptr e 0), (13, .row ((T.take 100).map .str) (T.take 100).length sr), (14, .int .i64 (T.take 100).length), (15, .int .i64 (i : Int))] → AR 1 v' (((clipA T).take (i + 1)).map .str) (i + 1) fsB → (∀ h, RH h fs2 → RH h (fsB ++ .blk e (.cells [mm, v', mf]) :: rest)) → WC sW ftab (kReg (kDo 32 (oArith .add (xT 15) (xC (AV.int .i64 1))) (kDo 15 (oMove (xT 32)) kEnd))) 33 e' fs2 fun ao e' fs' => match ao with | .normal => WL sW ftab lb21_0 33 e' fs' Q | o => Q o e' fs' := by
      intro e' v' fsB fs2 hsub hB hR
      refine w_sub hsub hR ?_
      refine w_reg ?_
      refine g_do rfl (o_add (xt rfl) xc (by constructor <;> omega) ?_)
      refine rgo ?_
      refine l_sub (e' := [(0, .ptr e 0), (13, .row ((T.take 100).map .str) (T.take 100).length sr), (14, .int .i64 (T.take 100).length), (15, .int .i64 ((i + 1 : Nat) : Int))]) (.cons rfl (.cons rfl (.cons rfl (.cons rfl .nil)))) (fun _ h => h) ?_
      exact esa_loop hm hf hc hQ k (i + 1) v' fsB (by omega) hB
    · refine g_do rfl (o_call (.cons (xt rfl) .nil) (efits_ev (fun hf => ?_) (fun hf => ?_)))
      · refine cgo ?_
        rcases hA.inv with ⟨rfl, _, rfl, rfl⟩ | ⟨f, id, hn, rfl, rfl⟩
        · refine cgo ?_
          try refine g_do rfl (o_load (v := .nilrow) (xt rfl) .here rfl ?_)
          refine rgo ?_
          refine g_do rfl (o_row (.cons (xt rfl) .nil) rfl rfl fun f0 id0 => ?_)
          refine g_do rfl (o_appn (xt rfl) (.own (xt rfl) .here rfl) rfl (by decide) ⟨by decide, by decide⟩ fun f id => ?_)
          refine rgo ?_
          refine next _ (.row [.str s] 1 ⟨f, id, 0, 1⟩) [.row f id (1 * 1)] _ ?_ ?_ (fun h hH => hH.mono (.cons_cons _ (.cons _ (.refl _))))
          · exact .cons rfl (.cons rfl (.cons rfl (.cons rfl .nil)))
          · rw [clipA_next hs, clip_t hf]; exact .own (by omega)
        · refine cgo ?_
          try refine g_do rfl (o_load (v := .row (((clipA T).take i).map .str) i ⟨f, id, 0, 1⟩) (xt rfl) (.there .here) rfl ?_)
          refine rgo ?_
          refine g_do rfl (o_row (.cons (xt rfl) .nil) rfl rfl fun f0 id0 => ?_)
          refine g_do rfl (o_appo (fs' := fun id' => .row f0 id0 (1 * 1) :: .row f id' (0 + i * 1 + 1 * 1) :: .blk e (.cells [mm, .row (((clipA T).take i).map .str) i ⟨f, id, 0, 1⟩, mf]) :: rest) (xt rfl) (.own (xt rfl) .here rfl) rfl (by decide) ⟨by omega, by omega⟩ rfl (fun id' => .there .here) fun id' => ?_)
          refine rgo ?_
          refine next _ (.row (((clipA T).take (i + 1)).map .str) (i + 1) ⟨f, id', 0, 1⟩) [.row f id' ((i + 1) * 1)] _ ?_ ?_ (fun h hH => ?_)
          · exact .cons rfl (.cons rfl (.cons rfl (.cons rfl .nil)))
          · exact .own (by omega)
          · have := hH.mono (.cons _ (.refl _))
            rw [show 0 + i * 1 + 1 * 1 = (i + 1) * 1 by omega] at this
            rw [clipA_next hs, clip_t hf]
            exact this
      · refine cgo ?_
        rcases hA.inv with ⟨rfl, _, rfl, rfl⟩ | ⟨f, id, hn, rfl, rfl⟩
        · refine cgo ?_
          try refine g_do rfl (o_load (v := .nilrow) (xt rfl) .here rfl ?_)
          refine rgo ?_
          refine g_do rfl (o_row (.cons (xt rfl) .nil) rfl rfl fun f0 id0 => ?_)
          refine g_do rfl (o_appn (xt rfl) (.own (xt rfl) .here rfl) rfl (by decide) ⟨by decide, by decide⟩ fun f id => ?_)
          refine rgo ?_
          refine next _ (.row [.str ⟨#[]⟩] 1 ⟨f, id, 0, 1⟩) [.row f id (1 * 1)] _ ?_ ?_ (fun h hH => hH.mono (.cons_cons _ (.cons _ (.refl _))))
          · exact .cons rfl (.cons rfl (.cons rfl (.cons rfl .nil)))
          · rw [clipA_next hs, clip_f hf]; exact .own (by omega)
        · refine cgo ?_
          try refine g_do rfl (o_load (v := .row (((clipA T).take i).map .str) i ⟨f, id, 0, 1⟩) (xt rfl) (.there .here) rfl ?_)
          refine rgo ?_
          refine g_do rfl (o_row (.cons (xt rfl) .nil) rfl rfl fun f0 id0 => ?_)
          refine g_do rfl (o_appo (fs' := fun id' => .row f0 id0 (1 * 1) :: .row f id' (0 + i * 1 + 1 * 1) :: .blk e (.cells [mm, .row (((clipA T).take i).map .str) i ⟨f, id, 0, 1⟩, mf]) :: rest) (xt rfl) (.own (xt rfl) .here rfl) rfl (by decide) ⟨by omega, by omega⟩ rfl (fun id' => .there .here) fun id' => ?_)
          refine rgo ?_
          refine next _ (.row (((clipA T).take (i + 1)).map .str) (i + 1) ⟨f, id', 0, 1⟩) [.row f id' ((i + 1) * 1)] _ ?_ ?_ (fun h hH => ?_)
          · exact .cons rfl (.cons rfl (.cons rfl (.cons rfl .nil)))
          · exact .own (by omega)
          · have := hH.mono (.cons _ (.refl _))
            rw [show 0 + i * 1 + 1 * 1 = (i + 1) * 1 by omega] at this
            rw [clipA_next hs, clip_f hf]
            exact this
theorem esetargs_ev {e m f : Nat} {D : List PV} {A : List ByteArray} {G : UInt8 → Bool} {av : AV} {T : List ByteArray} (hE : EInv fs e m f D A G) (ha : RV fs 1 av (T.map .str) T.length) {K : KK} (h : ∀ fs', Fr [(0, e)] fs fs' → EInv fs' e m f D (clipA T) G → K (.tup []) fs') : Ev sW ftab 21 [.ptr e 0, av] fs K := by
  obtain ⟨es, c, ks, av0, fl, cf, I, hD, hG⟩ := hE
  obtain ⟨r, hp, hfr⟩ := I.fe.head
  refine Ev.perm hp ?_
  have har := ha.fr hfr zk
  have hI : ∀ (v : AV) (fsA : List Fact), AR 1 v ((clipA T).map .str) (clipA T).length fsA → K (.tup []) (fsA ++ .blk e (.cells [.map m, v, .map f]) :: r) := fun v fsA hA => by
    have g : Fr [(0, e)] fs (fsA ++ .blk e (.cells [.map m, v, .map f]) :: r) := (Fr.cons hfr).app
    refine h _ g ⟨es, c, ks, v, fl, cf, ⟨Has.app .here, g _ I.fm (bk (Ne.symm I.em)), g _ I.ff (bk (Ne.symm I.ef)), I.ok, I.kl, .of hA, fun h0 => ?_, clipA_100 T, I.em, I.ef, I.mf⟩, hD, hG⟩
    rcases hA.inv with ⟨rfl, _, _, rfl⟩ | ⟨f, id, hn, rfl, rfl⟩
    · rfl
    · exact absurd h0 hn
  refine ev_fn (nt := 33) (kb := kb21) (kr := kr21) rfl rfl (Nat.le_of_ble_eq_true rfl) ?_
  refine cgo ?_
  refine g_do0 (o_store (cs' := [.map m, .nilrow, .map f]) (xt rfl) xc .here ⟨rfl, (Nat.le_of_ble_eq_true rfl)⟩ rfl rfl ?_)
  refine cgo ?_
  refine g_do rfl (o_len (xt rfl) har.cons ?_)
  refine g_do rfl (o_min (xt rfl) xc ?_)
  have hmin : (if (100 : Int) < (T.length : Int) then (100 : Int) else (T.length : Int)) = ((T.take 100).length : Int) := by
    rw [List.length_take]; split <;> omega
  rw [hmin]
  have hle : (T.take 100).length ≤ T.length := by rw [List.length_take]; omega
  refine g_do rfl (o_cutv (p := 0) (q := (T.take 100).length) (xt rfl) har.cons .none (.some (xt rfl)) (bounds_hi ⟨by omega, by omega⟩) ?_)
  have hcv := cutV_rv (p := 0) (q := (T.take 100).length) har ⟨by omega, hle⟩
  have e1 : ((T.map AV.str).drop (0 * 1)).take (((T.take 100).length - 0) * 1) = (T.take 100).map .str := by
    rw [Nat.zero_mul, List.drop_zero, Nat.sub_zero, Nat.mul_one, ← List.map_take, List.length_take]
    congr 1
    rw [Nat.min_def]
    split
    · rfl
    · rw [List.take_of_length_le (by omega), List.take_of_length_le (by omega)]
  rw [e1, Nat.sub_zero] at hcv
  refine cgo ?_
  refine g_do rfl (o_len (xt rfl) hcv.cons ?_)
  refine cgo ?_
  refine w_block (w_loop ?_)
  refine l_sub (e' := [(0, .ptr e 0), (13, cutV av 1 0 (T.take 100).length), (14, .int .i64 (T.take 100).length), (15, .int .i64 ((0 : Nat) : Int))]) (.cons rfl (.cons rfl (.cons rfl (.cons rfl .nil)))) (fun _ h => h) ?_
  refine esa_loop (T := T) rfl rfl hcv (fun v fsA e' hA => ?_) (T.take 100).length 0 .nilrow [] (by omega) (by exact .nil)
  exact ⟨trivial, _, _, .one .none, .refl _, hI v fsA hA⟩
theorem dsa_loop {w : Nat} {av : AV} {T : List ByteArray} (ha : RV fs 1 av (T.map .str) T.length) (hT : ∀ s ∈ T, s.size ≤ 1000000000) {Q : AO → Env → List Fact → Prop}
    (hQ : ∀ v fsA e', AR 1 v ((clipA T).map .str) (clipA T).length fsA → Sub e' [(0, .ptr w 0), (4, v)] → Q (.exit 0) e' (fsA ++ fs)) : ∀ (k i : Nat) (v : AV) (fsA : List Fact), i + k = (T.take 100).length → AR 1 v (((clipA T).take i).map .str) i fsA →
    WL sW ftab lb22_0 35 [(0, .ptr w 0), (1, av), (4, v), (5, .int .i64 (i : Int))] (fsA ++ fs) Q
  | 0, i, v, fsA, hi, hA => by
    have hmin : (T.take 100).length = min 100 T.length := List.length_take ..
    have fin : ∀ e', Sub e' [(0, .ptr w 0), (4, v)] → Q (.exit 0) e' (fsA ++ fs) := fun e' hS => hQ _ _ _ (by
      have : i = (clipA T).length := by rw [clipA_len]; omega
      subst this
      rw [List.take_length] at hA
      exact hA) hS
    refine l_round ?_
    refine cgo ?_
    refine g_do rfl (o_len (xt rfl) ha.app ?_)
    refine g_do rfl (o_lss (xt rfl) (xt rfl) (fun h => ?_) (fun h => ?_))
    · refine cgo ?_
      refine g_do rfl (o_lss (xt rfl) xc (fun h => by omega) (fun h => ?_))
      refine cgo ?_
      exact fin _ (.cons rfl (.cons rfl .nil))
    · refine cgo ?_
      exact fin _ (.cons rfl (.cons rfl .nil))
  | k + 1, i, v, fsA, hi, hA => by
    have hmin : (T.take 100).length = min 100 T.length := List.length_take ..
    refine l_round ?_
    refine cgo ?_
    refine g_do rfl (o_len (xt rfl) ha.app ?_)
    refine g_do rfl (o_lss (xt rfl) (xt rfl) (fun h => ?_) (fun h => by omega))
    refine cgo ?_
    refine g_do rfl (o_lss (xt rfl) xc (fun h => ?_) (fun h => by omega))
    refine cgo ?_
    refine w_block ?_
    obtain ⟨s, hs⟩ : ∃ s, (T.take 100)[i]? = some s := ⟨_, List.getElem?_eq_getElem (by omega)⟩
    have hs2 : T[i]? = some s := by rw [List.getElem?_take, if_pos (by omega)] at hs; exact hs
    have hsz := hT s (List.mem_of_getElem? hs2)
    obtain ⟨sr, rfl, r1, r2⟩ := (ha.app (a := fsA)).some (by omega)
    have hel : apart (T.map AV.str) (((i : Nat) : Int).toNat * 1) none = some (.str s) := by
      show (T.map AV.str)[(((i : Nat) : Int).toNat * 1)]? = _
      rw [Nat.mul_one, Int.toNat_natCast, List.getElem?_map, hs2]; rfl
    refine cgo ?_
    refine g_do rfl (o_iaddr (xt rfl) (xt rfl) ⟨by omega, by omega⟩ r2 ?_)
    refine g_do rfl (o_loadr (v := .str s) (xt rfl) r1 hel ?_)
    have next : ∀ e' v' fsB fs2, Sub e' [(0, .ptr w 0), (1, .row (T.map .str) T.length sr), (4, v'), (5, .int .i64 (i : Int))] → AR 1 v' (((clipA T).take (i + 1)).map .str) (i + 1) fsB → (∀ h, RH h fs2 → RH h (fsB ++ fs)) → WC sW ftab (kReg (kDo 14 (oMove (xT 5)) (kDo 15 (oArith .add (xT 14) (xC (AV.int .i64 1))) (kDo 5 (oMove (xT 15)) kEnd)))) 35 e' fs2 fun ao e' fs' => match ao with | .normal => WL sW ftab lb22_0 35 e' fs' Q | o => Q o e' fs' := by
      intro e' v' fsB fs2 hsub hB hR
      refine w_sub hsub hR ?_
      refine w_reg ?_
      refine rgo ?_
      refine g_do rfl (o_add (xt rfl) xc (by constructor <;> omega) ?_)
      refine rgo ?_
      refine l_sub (e' := [(0, .ptr w 0), (1, .row (T.map .str) T.length sr), (4, v'), (5, .int .i64 ((i + 1 : Nat) : Int))]) (.cons rfl (.cons rfl (.cons rfl (.cons rfl .nil)))) (fun _ h => h) ?_
      exact dsa_loop ha hT hQ k (i + 1) v' fsB (by omega) hB
    · refine g_do rfl (o_call (.cons (xt rfl) .nil) (dvalue_ev hsz (fun hf => ?_) (fun hf => ?_)))
      · refine cgo ?_
        refine g_do rfl (o_iaddr (xt rfl) (xt rfl) ⟨by omega, by omega⟩ r2 ?_)
        refine g_do rfl (o_loadr (v := .str s) (xt rfl) r1 hel ?_)
        rcases hA.inv with ⟨rfl, _, rfl, rfl⟩ | ⟨f, id, hn, rfl, rfl⟩
        · refine g_do rfl (o_row (.cons (xt rfl) .nil) rfl rfl fun f0 id0 => ?_)
          refine g_do rfl (o_appn (xt rfl) (.own (xt rfl) .here rfl) rfl (by decide) ⟨by decide, by decide⟩ fun f id => ?_)
          refine rgo ?_
          refine next _ (.row [.str s] 1 ⟨f, id, 0, 1⟩) [.row f id (1 * 1)] _ ?_ ?_ (fun h hH => hH.mono (.cons_cons _ (.cons _ (.refl _))))
          · exact .cons rfl (.cons rfl (.cons rfl (.cons rfl .nil)))
          · rw [clipA_next hs, clip_t hf]; exact .own (by omega)
        · refine g_do rfl (o_row (.cons (xt rfl) .nil) rfl rfl fun f0 id0 => ?_)
          refine g_do rfl (o_appo (fs' := fun id' => .row f0 id0 (1 * 1) :: .row f id' (0 + i * 1 + 1 * 1) :: fs) (xt rfl) (.own (xt rfl) .here rfl) rfl (by decide) ⟨by omega, by omega⟩ rfl (fun id' => .there .here) fun id' => ?_)
          refine rgo ?_
          refine next _ (.row (((clipA T).take (i + 1)).map .str) (i + 1) ⟨f, id', 0, 1⟩) [.row f id' ((i + 1) * 1)] _ ?_ ?_ (fun h hH => ?_)
          · rw [clipA_next hs, clip_t hf]; exact .cons rfl (.cons rfl (.cons rfl (.cons rfl .nil)))
          · exact .own (by omega)
          · have := hH.mono (.cons _ (.refl _))
            rw [show 0 + i * 1 + 1 * 1 = (i + 1) * 1 by omega] at this
            exact this
      · refine cgo ?_
        rcases hA.inv with ⟨rfl, _, rfl, rfl⟩ | ⟨f, id, hn, rfl, rfl⟩
        · refine g_do rfl (o_row (.cons xc .nil) rfl rfl fun f0 id0 => ?_)
          refine g_do rfl (o_appn (xt rfl) (.own (xt rfl) .here rfl) rfl (by decide) ⟨by decide, by decide⟩ fun f id => ?_)
          refine rgo ?_
          refine next _ (.row [.str ⟨#[]⟩] 1 ⟨f, id, 0, 1⟩) [.row f id (1 * 1)] _ ?_ ?_ (fun h hH => hH.mono (.cons_cons _ (.cons _ (.refl _))))
          · exact .cons rfl (.cons rfl (.cons rfl (.cons rfl .nil)))
          · rw [clipA_next hs, clip_f hf]; exact .own (by omega)
        · refine g_do rfl (o_row (.cons xc .nil) rfl rfl fun f0 id0 => ?_)
          refine g_do rfl (o_appo (fs' := fun id' => .row f0 id0 (1 * 1) :: .row f id' (0 + i * 1 + 1 * 1) :: fs) (xt rfl) (.own (xt rfl) .here rfl) rfl (by decide) ⟨by omega, by omega⟩ rfl (fun id' => .there .here) fun id' => ?_)
          refine rgo ?_
          refine next _ (.row (((clipA T).take (i + 1)).map .str) (i + 1) ⟨f, id', 0, 1⟩) [.row f id' ((i + 1) * 1)] _ ?_ ?_ (fun h hH => ?_)
          · rw [clipA_next hs, clip_f hf]; exact .cons rfl (.cons rfl (.cons rfl (.cons rfl .nil)))
          · exact .own (by omega)
          · have := hH.mono (.cons _ (.refl _))
            rw [show 0 + i * 1 + 1 * 1 = (i + 1) * 1 by omega] at this
            exact this
theorem dsetargs_ev {w : Nat} {D : List PV} {A : List ByteArray} {E F U : Bool} {av : AV} {T : List ByteArray} (hW : WInv fs w D A E F U) (ha : RV fs 1 av (T.map .str) T.length) (hT : ∀ s ∈ T, s.size ≤ 1000000000) {K : KK} (h : ∀ fs', Fr [(0, w)] fs fs' → WInv fs' w D (clipA T) E F U → K (.tup []) fs') : Ev sW ftab 22 [.ptr w 0, av] fs K := by
  obtain ⟨lv, av0, hw, hl, ha0⟩ := hW
  refine ev_fn (nt := 35) (kb := kb22) (kr := kr22) rfl rfl (Nat.le_of_ble_eq_true rfl) ?_
  refine cgo ?_
  refine w_block (w_loop ?_)
  refine l_sub (e' := [(0, .ptr w 0), (1, av), (4, .nilrow), (5, .int .i64 ((0 : Nat) : Int))]) (fs' := [] ++ fs) (.cons rfl (.cons rfl (.cons rfl (.cons rfl .nil)))) (fun _ h => h) ?_
  refine dsa_loop ha hT (fun v fsA e' hA hS => ?_) (T.take 100).length 0 .nilrow [] (by omega) (by exact .nil)
  refine w_sub hS (fun _ h => h) ?_
  have hrv : RV (fsA ++ fs) 1 v ((clipA T).map .str) (clipA T).length := .of hA
  obtain ⟨fsP, hP⟩ := (hw.app (a := fsA)).put (.blk w (.cells [lv, v, .bool E, .bool F, .bool U]))
  have hfr : Fr [(0, w)] fs fsP := (Fr.app .refl).trans (Fr.put hP)
  have hfr2 : Fr [(0, w)] (fsA ++ fs) fsP := Fr.put hP
  refine cgo ?_
  refine g_do0 (o_store (xt rfl) (xt rfl) hP ⟨by rcases hA.inv with ⟨rfl, _⟩ | ⟨f, id, _, rfl, _⟩ <;> rfl, (Nat.le_of_ble_eq_true rfl)⟩ (by rcases hA.inv with ⟨rfl, _⟩ | ⟨f, id, _, rfl, _⟩ <;> rfl) (by rcases hA.inv with ⟨rfl, _⟩ | ⟨f, id, _, rfl, _⟩ <;> rfl) ?_)
  refine cgo ?_
  exact ⟨trivial, _, _, .one .none, .refl _, h _ hfr ⟨lv, v, hP.hasNew, hl.fr hfr zk, hrv.fr hfr2 zk⟩⟩
theorem ifs_nm : NameOk ifsT := ⟨73, [70, 83], rfl, Or.inr (Or.inl ⟨by decide, by decide⟩), fun x hx => by
  rcases List.mem_cons.1 hx with rfl | hx
  · exact Or.inl (Or.inr (Or.inl ⟨by decide, by decide⟩))
  · obtain rfl : x = 83 := by simpa using hx
    exact Or.inl (Or.inr (Or.inl ⟨by decide, by decide⟩))⟩
theorem blanks_fit : Fits blanksT := by
  refine ⟨by decide, fun b hb => ?_⟩
  have hb : b ∈ ([32, 9, 10] : List UInt8) := hb
  simp only [List.mem_cons, List.not_mem_nil, or_false] at hb
  rcases hb with rfl | rfl | rfl <;> decide
abbrev D0 : List PV := [(ifsT, blanksT)]
theorem setD_0 : setD [] ifsT blanksT = D0 := (set_good (D := []) ifs_nm ⟨blanks_fit, Or.inr (by decide)⟩).2
theorem ins_len {D : List PV} {k v : ByteArray} (hU : UpV D) : (insD D k v).length ≤ D.length + 1 ∧ (getD2 D k ≠ none → (insD D k v).length = D.length) := by
  have hp := posD_le D k
  rcases find_spec (k := k) (v := v) hU with ⟨g1, g2, g3, _⟩ | ⟨u, g1, g2, g3, _⟩
  · rw [g3, List.length_append, List.length_cons, List.length_take, List.length_drop]
    exact ⟨by omega, fun h => absurd g1 h⟩
  · have := (List.getElem?_eq_some_iff.1 g2).1
    rw [g3, List.length_append, List.length_cons, List.length_take, List.length_drop]
    exact ⟨by omega, fun h => by omega⟩
def DOk (D : List PV) : Prop := UpV D ∧ D.length ≤ 100
theorem DOk.set {D : List PV} (h : DOk D) (k v : ByteArray) : DOk (setD D k v) := by
  by_cases h1 : NameOk k
  · by_cases h2 : SetOk D k v
    · rw [(set_good h1 h2).2]
      refine ⟨ins_up h.1, ?_⟩
      obtain ⟨k1, k2⟩ := ins_len (k := k) (v := v) h.1
      rcases h2.2 with h3 | h3
      · rw [k2 h3]; exact h.2
      · omega
    · rw [(set_bad h1 h2).2]; exact h
  · rw [(set_no h1).2]; exact h
theorem DOk.rem {D : List PV} (h : DOk D) (k : ByteArray) : DOk (remD D k) := ⟨h.1.sublist rem_sub, Nat.le_trans rem_sub.length_le h.2⟩
theorem dok0 : DOk D0 := ⟨List.pairwise_singleton .., by decide⟩
noncomputable def addV (D : List PV) (p : PV) : List PV := if p.1 = ifsT then D else setD D p.1 p.2
theorem DOk.add {D : List PV} (h : DOk D) (p : PV) : DOk (addV D p) := by
  unfold addV
  split
  · exact h
  · exact h.set _ _
noncomputable def newD (V : List PV) : List PV := V.foldl addV D0
theorem dok_fold : ∀ (V D : List PV), DOk D → DOk (V.foldl addV D)
  | [], D, h => h
  | p :: V, D, h => dok_fold V (addV D p) (h.add p)
theorem dok_new (V : List PV) : DOk (newD V) := dok_fold V D0 dok0
/-! The document's environment begun. -/
theorem dnew_loop {w : Nat} {vv av : AV} {V R : List PV} {fs0 : List Fact} (hv : RI 2 vv (CP V) V.length) (hV : V.length ≤ 1000000) (hsz : ∀ p ∈ V, p.1.size ≤ 1000000000 ∧ p.2.size ≤ 1000000000) {Q : AO → Env → List Fact → Prop} (hQ : ∀ fs1 e, Fr [(0, w)] fs0 fs1 → WInv fs1 w R [] false false false → Sub e [(1, av), (5, .ptr w 0)] → Q (.exit 0) e fs1) :
    ∀ (l : List PV) (n : Nat) (D : List PV) (fs1 : List Fact), V.drop n = l → n ≤ V.length → l.foldl addV D = R → DOk D → Fr [(0, w)] fs0 fs1 → WInv fs1 w D [] false false false → WL sW ftab lb17_0 39 [(0, vv), (1, av), (5, .ptr w 0), (6, .int .i64 n)] fs1 Q
  | [], n, D, fs1, hd, hn, hF, hO, hfr, hW => by
    have hge : V.length ≤ n := List.drop_eq_nil_iff.1 hd
    have hF : D = R := hF
    subst hF
    refine l_round ?_
    refine cgo ?_
    refine g_do rfl (o_len (xt rfl) hv.rv ?_)
    refine g_do rfl (o_lss (xt rfl) (xt rfl) (fun h => by omega) (fun h => ?_))
    refine cgo ?_
    exact hQ _ _ hfr hW (.cons rfl (.cons rfl .nil))
  | p :: l, n, D, fs1, hd, hn, hF, hO, hfr, hW => by
    obtain ⟨h1, h2, h3⟩ := drop_headP hd
    have hF : l.foldl addV (addV D p) = R := hF
    have hp := hsz p (List.mem_of_getElem? h1)
    obtain ⟨sr, rfl, hz0, hz⟩ := hv.some (by omega)
    have next : ∀ fs2 e', Fr [(0, w)] fs0 fs2 → WInv fs2 w (addV D p) [] false false false → Sub e' [(0, .row (CP V) V.length sr), (1, av), (5, .ptr w 0), (6, .int .i64 n), (15, .int .i64 n)] → WG sW ftab (kDo 16 (oArith .add (xT 15) (xC (AV.int .i64 1))) (kDo 6 (oMove (xT 16)) kEnd)) 39 e' fs2 fun e' fs' => WL sW ftab lb17_0 39 e' fs' Q := by
      intro fs2 e' g1 g2 hS
      refine g_sub hS (fun _ h => h) ?_
      refine g_do rfl (o_add (xt rfl) xc (by constructor <;> omega) ?_)
      refine rgo ?_
      refine l_sub (e' := [(0, .row (CP V) V.length sr), (1, av), (5, .ptr w 0), (6, .int .i64 ((n + 1 : Nat) : Int))]) (.cons rfl (.cons rfl (.cons rfl (.cons rfl .nil)))) (fun _ h => h) ?_
      exact dnew_loop hv hV hsz hQ l (n + 1) (addV D p) fs2 h2 (by omega) hF (hO.add p) g1 g2
    refine l_round ?_
    refine cgo ?_
    refine g_do rfl (o_lss (xt rfl) (xt rfl) (fun h => ?_) (fun h => by omega))
    refine cgo ?_
    refine w_block ?_
    refine cgo ?_
    refine g_do rfl (o_iaddr (xt rfl) (xt rfl) ⟨by omega, by omega⟩ hz ?_)
    refine g_do rfl (o_faddrz (xt rfl) ?_)
    refine g_do rfl (o_loadr (xt rfl) (.frz hz0) (cp_name h1) ?_)
    refine g_do rfl (o_nes (xt rfl) xc (fun hi => ?_) (fun hi => ?_))
    · refine cgo ?_
      exact next fs1 _ hfr (by unfold addV; rw [if_pos hi]; exact hW) (.cons rfl (.cons rfl (.cons rfl (.cons rfl (.cons rfl .nil)))))
    · refine cgo ?_
      refine g_do rfl (o_iaddr (xt rfl) (xt rfl) ⟨by omega, by omega⟩ hz ?_)
      refine g_do rfl (o_faddrz (xt rfl) ?_)
      refine g_do rfl (o_loadr (xt rfl) (.frz hz0) (cp_name h1) ?_)
      refine cgo ?_
      refine g_do rfl (o_iaddr (xt rfl) (xt rfl) ⟨by omega, by omega⟩ hz ?_)
      refine g_do rfl (o_faddrz (xt rfl) ?_)
      refine g_do rfl (o_loadr (xt rfl) (.frz hz0) (cp_val h1) ?_)
      refine g_do rfl (o_call (.cons (xt rfl) (.cons (xt rfl) (.cons (xt rfl) .nil))) (dset_ev hW hO.1 hO.2 hp.1 hp.2 fun fs2 g1 g2 => ?_))
      refine cgo ?_
      exact next fs2 _ (hfr.trans g1) (by unfold addV; rw [if_neg hi]; exact g2) (.cons rfl (.cons rfl (.cons rfl (.cons rfl (.cons rfl .nil)))))
theorem dnew_ev {vv av : AV} {V : List PV} {T : List ByteArray} (hv : RI 2 vv (CP V) V.length) (hV : V.length ≤ 1000000) (hsz : ∀ p ∈ V, p.1.size ≤ 1000000000 ∧ p.2.size ≤ 1000000000) (ha : RI 1 av (T.map .str) T.length) (hT : ∀ s ∈ T, s.size ≤ 1000000000) {K : KK} (h : ∀ w fs', (∀ i b, Has fs (.blk i b) → i ≠ w) → Fr [(0, w)] fs fs' → WInv fs' w (newD V) (clipA T) false false false → K (.ptr w 0) fs') : Ev sW ftab 17 [vv, av] fs K := by
  refine ev_fn (nt := 39) (kb := kb17) (kr := kr17) rfl rfl (Nat.le_of_ble_eq_true rfl) ?_
  refine w_rs (g_do rfl (o_move xc (g_end ?_)))
  refine w_rs (g_do rfl (o_build .nil rfl ?_))
  refine g_do rfl (o_box (xt rfl) rfl fun w => ?_)
  refine cgo ?_
  refine g_nd fun hnd => ?_
  have hW0 : WInv (.blk w (.cells [.nilrow, .nilrow, .bool false, .bool false, .bool false]) :: fs) w [] [] false false false := ⟨.nilrow, .nilrow, .here, .nil, .nil⟩
  refine g_do rfl (o_call (.cons (xt rfl) (.cons xc (.cons xc .nil))) (dset_ev (k := ifsT) (v := blanksT) hW0 List.Pairwise.nil (by decide) (by decide) (by decide) fun fs1 g1 g2 => ?_))
  rw [setD_0] at g2
  have g0 : Fr [(0, w)] fs fs1 := (Fr.cons .refl).trans g1
  refine cgo ?_
  refine w_block (w_loop ?_)
  refine l_sub (e' := [(0, vv), (1, av), (5, .ptr w 0), (6, .int .i64 ((0 : Nat) : Int))]) (.cons rfl (.cons rfl (.cons rfl (.cons rfl .nil)))) (fun _ h => h) ?_
  refine dnew_loop (R := newD V) hv hV hsz (fun fs2 e hfr hW hS => ?_) V 0 D0 fs1 rfl (by omega) rfl dok0 g0 g2
  refine w_sub hS (fun _ h => h) ?_
  refine cgo ?_
  refine g_do rfl (o_call (.cons (xt rfl) (.cons (xt rfl) .nil)) (dsetargs_ev hW ha.rv hT fun fs3 k1 k2 => ?_))
  refine cgo ?_
  exact ⟨trivial, _, _, .one (.tmp rfl), .refl _, h w fs3 (fun i b hb => nd_new hnd hb) (hfr.trans k1) k2⟩
/-! The environment begun. -/
abbrev G0f : UInt8 → Bool := fun _ => false
theorem add_no {D : List PV} {p : PV} (h : ¬ NameOk p.1) : addV D p = D := by
  unfold addV
  split
  · rfl
  · exact (set_no h).2
theorem add_bad {D : List PV} {p : PV} (h : NameOk p.1) (h2 : ¬ SetOk D p.1 p.2) : addV D p = D := by
  unfold addV
  split
  · rfl
  · exact (set_bad h h2).2
theorem add_good {D : List PV} {p : PV} (h : NameOk p.1) (h1 : p.1 ≠ ifsT) (h2 : SetOk D p.1 p.2) : addV D p = insD D p.1 p.2 := by
  unfold addV
  rw [if_neg h1]; exact (set_good h h2).2
theorem enew_loop {e m f : Nat} {vv av : AV} {V R : List PV} (hv : RI 2 vv (CP V) V.length) (hV : V.length ≤ 1000000) (hsz : ∀ p ∈ V, p.1.size ≤ 1000000000) {Q : AO → Env → List Fact → Prop} (hQ : ∀ fs1 en, EInv fs1 e m f R [] G0f → Sub en [(1, av), (5, .ptr e 0)] → Q (.exit 0) en fs1) :
    ∀ (l : List PV) (n : Nat) (D : List PV) (fs1 : List Fact), V.drop n = l → n ≤ V.length → l.foldl addV D = R → EInv fs1 e m f D [] G0f → WL sW ftab lb9_0 68 [(1, av), (5, .ptr e 0), (15, vv), (16, .int .i64 V.length), (17, .int .i64 n)] fs1 Q
  | [], n, D, fs1, hd, hn, hF, hE => by
    have hge : V.length ≤ n := List.drop_eq_nil_iff.1 hd
    have hF : D = R := hF
    subst hF
    refine l_round ?_
    refine cgo ?_
    refine g_do rfl (o_lss (xt rfl) (xt rfl) (fun h => by omega) (fun h => ?_))
    refine cgo ?_
    exact hQ _ _ hE (.cons rfl (.cons rfl .nil))
  | p :: l, n, D, fs1, hd, hn, hF, hE => by
    obtain ⟨h1, h2, h3⟩ := drop_headP hd
    have hF : l.foldl addV (addV D p) = R := hF
    have hp := hsz p (List.mem_of_getElem? h1)
    obtain ⟨sr, rfl, hz0, hz⟩ := hv.some (by omega)
    have next : ∀ fs2 e', EInv fs2 e m f (addV D p) [] G0f → Sub e' [(1, av), (5, .ptr e 0), (15, .row (CP V) V.length sr), (16, .int .i64 V.length), (17, .int .i64 n)] → WG sW ftab (kDo 63 (oArith .add (xT 17) (xC (AV.int .i64 1))) (kDo 17 (oMove (xT 63)) kEnd)) 68 e' fs2 fun e' fs' => WL sW ftab lb9_0 68 e' fs' Q := by
      intro fs2 e' g2 hS
      refine g_sub hS (fun _ h => h) ?_
      refine g_do rfl (o_add (xt rfl) xc (by constructor <;> omega) ?_)
      refine rgo ?_
      refine l_sub (e' := [(1, av), (5, .ptr e 0), (15, .row (CP V) V.length sr), (16, .int .i64 V.length), (17, .int .i64 ((n + 1 : Nat) : Int))]) (.cons rfl (.cons rfl (.cons rfl (.cons rfl (.cons rfl .nil))))) (fun _ h => h) ?_
      exact enew_loop hv hV hsz hQ l (n + 1) (addV D p) fs2 h2 (by omega) hF g2
    refine l_round ?_
    refine cgo ?_
    refine g_do rfl (o_lss (xt rfl) (xt rfl) (fun h => ?_) (fun h => by omega))
    refine cgo ?_
    refine w_block ?_
    refine w_rs (g_do rfl (o_iaddr (xt rfl) (xt rfl) ⟨by omega, by omega⟩ hz ?_))
    refine g_do rfl (o_loadr (xt rfl) (.frz hz0) (cp_pair h1) ?_)
    refine g_do rfl (o_box xc rfl fun b => ?_)
    refine g_nd fun hnd => ?_
    obtain ⟨es, c, ks, av0, fl, cf, I, hD, hG⟩ := hE
    have hbe : b ≠ e := fun h => nd_new hnd I.fe h.symm
    have hbm : b ≠ m := fun h => nd_new hnd I.fm h.symm
    have hbf : b ≠ f := fun h => nd_new hnd I.ff h.symm
    refine cgo ?_
    have frB : ∀ {fsX : List Fact}, Fr [] fsX (.blk b (.cells [.str p.1, .str p.2]) :: fsX) := Fr.cons .refl
    have hE1 : EInv (.blk b (.cells [.str p.1, .str p.2]) :: fs1) e m f D [] G0f := EInv.fr ⟨es, c, ks, av0, fl, cf, I, hD, hG⟩ frB (fun x hx => by cases hx)
    have he := I.fe
    have hm := I.fm
    have hM := I.ok
    have hlen := keysOf_len hM.ok.keys
    have hDl : D.length = ks.length := by rw [← hD]; exact varsP_len es ks
    have hkD := mem_get hM p.1
    rw [hD] at hkD
    obtain ⟨fsP, hP⟩ := hm.put (.blk m (.map (upE es c p.1 p.2).1 (upE es c p.1 p.2).2))
    have good : NameOk p.1 → p.1 ≠ ifsT → SetOk D p.1 p.2 → EInv (.blk b (.cells [.str p.1, .str p.2]) :: fsP) e m f (addV D p) [] G0f := fun h1 h3 h2 => by
      have hfr : Fr [(0, m)] fs1 fsP := Fr.put hP
      obtain ⟨ks', k1, k2, k3⟩ := hM.up (k := p.1) (v := p.2) hp (by have := I.kl; omega)
      have hkl : ks'.length ≤ 100 := by
        rcases h2.2 with h4 | h4
        · rw [up_len hM k1 (hkD.2 h4)]; exact I.kl
        · omega
      have : EInv fsP e m f (addV D p) [] G0f := ⟨_, _, ks', av0, fl, cf, ⟨hfr _ he (bk I.em), hP.hasNew, hfr _ I.ff (bk (Ne.symm I.mf)), k1, hkl, I.row.fr hfr zk, I.nil, I.few, I.em, I.ef, I.mf⟩, by rw [add_good h1 h3 h2, ← hD]; exact vars_ins hM k1, hG⟩
      exact this.fr frB (fun x hx => by cases hx)
    unfold upE at hP
    refine g_do rfl (o_load (xt rfl) (.there he) rfl ?_)
    refine cgo ?_
    rcases hM.look p.1 with ⟨hk2, u, hu⟩ | ⟨hk2, hu⟩
    · rw [hu] at hP
      refine g_do rfl (o_lookup (xt rfl) (xt rfl) (.there hm) rfl hu ?_)
      refine cgo ?_
      refine g_do rfl (o_call (.cons (xt rfl) .nil) (name_ev hp (fun hn => ?_) (fun hn => ?_)))
      · refine cgo ?_
        refine g_do rfl (o_nes (xt rfl) xc (fun hi => ?_) (fun hi => ?_))
        · refine cgo ?_
          exact next _ _ (by unfold addV; rw [if_pos hi]; exact hE1) (.cons rfl (.cons rfl (.cons rfl (.cons rfl (.cons rfl .nil)))))
        · refine cgo ?_
          refine g_do rfl (o_call (.cons (xt rfl) .nil) (efits_ev (fun hf => ?_) (fun hf => ?_)))
          · refine cgo ?_
            refine g_do rfl (o_load (xt rfl) (.there he) rfl ?_)
            refine cgo ?_
            refine g_do0 (o_set (xt rfl) (xt rfl) (xt rfl) rfl hu (.there hP) ?_)
            refine cgo ?_
            exact next _ _ (good hn hi ⟨hf, Or.inl (hkD.1 hk2)⟩) (.cons rfl (.cons rfl (.cons rfl (.cons rfl (.cons rfl .nil)))))
          · refine cgo ?_
            exact next _ _ (by rw [add_bad hn fun h => hf h.1]; exact hE1) (.cons rfl (.cons rfl (.cons rfl (.cons rfl (.cons rfl .nil)))))
      · refine cgo ?_
        exact next _ _ (by rw [add_no hn]; exact hE1) (.cons rfl (.cons rfl (.cons rfl (.cons rfl (.cons rfl .nil)))))
    · rw [hu] at hP
      refine g_do rfl (o_lookup (xt rfl) (xt rfl) (.there hm) rfl hu ?_)
      refine cgo ?_
      refine g_do rfl (o_call (.cons (xt rfl) .nil) (name_ev hp (fun hn => ?_) (fun hn => ?_)))
      · refine cgo ?_
        refine g_do rfl (o_nes (xt rfl) xc (fun hi => ?_) (fun hi => ?_))
        · refine cgo ?_
          exact next _ _ (by unfold addV; rw [if_pos hi]; exact hE1) (.cons rfl (.cons rfl (.cons rfl (.cons rfl (.cons rfl .nil)))))
        · refine cgo ?_
          refine g_do rfl (o_call (.cons (xt rfl) .nil) (efits_ev (fun hf => ?_) (fun hf => ?_)))
          · refine cgo ?_
            refine g_do rfl (o_load (xt rfl) (.there he) rfl ?_)
            refine g_if rfl ?_
            refine g_do rfl (o_lenm (xt rfl) (.there hm) ?_)
            refine cgo ?_
            refine g_do rfl (o_lss (xt rfl) xc (fun hh => ?_) (fun hh => ?_))
            · refine cgo ?_
              refine g_do rfl (o_load (xt rfl) (.there he) rfl ?_)
              refine cgo ?_
              refine g_do0 (o_setn (xt rfl) (xt rfl) (xt rfl) rfl hu (.there hP) ?_)
              refine cgo ?_
              exact next _ _ (good hn hi ⟨hf, Or.inr (by omega)⟩) (.cons rfl (.cons rfl (.cons rfl (.cons rfl (.cons rfl .nil)))))
            · refine cgo ?_
              exact next _ _ (by rw [add_bad hn fun h => h.2.elim (fun h => hk2 (hkD.2 h)) (fun h => by omega)]; exact hE1) (.cons rfl (.cons rfl (.cons rfl (.cons rfl (.cons rfl .nil)))))
          · refine cgo ?_
            exact next _ _ (by rw [add_bad hn fun h => hf h.1]; exact hE1) (.cons rfl (.cons rfl (.cons rfl (.cons rfl (.cons rfl .nil)))))
      · refine cgo ?_
        exact next _ _ (by rw [add_no hn]; exact hE1) (.cons rfl (.cons rfl (.cons rfl (.cons rfl (.cons rfl .nil)))))
theorem map1 : MapV [(.str ifsT, .str blanksT, 0)] 1 [ifsT] ∧ varsP [(.str ifsT, .str blanksT, 0)] [ifsT] = D0 := by
  have h0 : MapV [] 0 [] := ⟨mapOk_nil, fun x hx => by cases hx⟩
  have h1 : MapV [(.str ifsT, .str blanksT, 0)] 1 [ifsT] := ⟨mapOk_nil.app (s := ifsT) (v := .str blanksT) (by simp) (by decide) (by decide), fun x hx => by
    obtain rfl : x = _ := by simpa using hx
    exact ⟨_, rfl⟩⟩
  refine ⟨h1, ?_⟩
  have h2 := vars_ins (k := ifsT) (v := blanksT) h0 (ks' := [ifsT]) h1
  have h3 : varsP [] [] = [] := List.eq_nil_of_length_eq_zero (varsP_len [] [])
  rw [h3] at h2
  exact h2
theorem enew_ev {vv av : AV} {V : List PV} {T : List ByteArray} (hv : RI 2 vv (CP V) V.length) (hV : V.length ≤ 1000000) (hsz : ∀ p ∈ V, p.1.size ≤ 1000000000) (ha : RI 1 av (T.map .str) T.length) {K : KK} (h : ∀ e m f fs', EInv fs' e m f (newD V) (clipA T) G0f → K (.ptr e 0) fs') : Ev sW ftab 9 [vv, av] fs K := by
  refine ev_fn (nt := 68) (kb := kb9) (kr := kr9) rfl rfl (Nat.le_of_ble_eq_true rfl) ?_
  refine cgo ?_
  refine g_do rfl (o_map fun m => ?_)
  refine g_do0 (o_setn (xt rfl) xc xc rfl rfl .here ?_)
  refine rgo ?_
  refine g_do rfl (o_map fun f => ?_)
  refine g_do rfl (o_build (.cons (xt rfl) (.cons (xt rfl) .nil)) rfl ?_)
  refine g_do rfl (o_box (v := .agg [.map m, .nilrow, .map f]) (xt rfl) rfl fun e => ?_)
  refine g_nd fun hnd => ?_
  have h1 := nd_new hnd .here
  have h2 := nd_new hnd (.there .here)
  have h3 : m ≠ f := by
    rw [List.map_cons, List.nodup_cons] at hnd
    exact nd_new hnd.2 .here
  have hE : EInv (.blk e (.cells [.map m, .nilrow, .map f]) :: .blk f (.map [] 0) :: .blk m (.map [(.str ifsT, .str blanksT, 0)] 1) :: fs) e m f D0 [] G0f :=
    ⟨_, _, [ifsT], .nilrow, [], 0, ⟨.here, .there (.there .here), .there .here, map1.1, by decide, .nil, fun _ => rfl, by decide, h2.symm, h1.symm, h3⟩, map1.2, fun b => rfl⟩
  refine cgo ?_
  refine g_do rfl (o_len (xt rfl) hv.rv ?_)
  refine cgo ?_
  refine w_block (w_loop ?_)
  refine l_sub (e' := [(1, av), (5, .ptr e 0), (15, vv), (16, .int .i64 V.length), (17, .int .i64 ((0 : Nat) : Int))]) (.cons rfl (.cons rfl (.cons rfl (.cons rfl (.cons rfl .nil))))) (fun _ h => h) ?_
  refine enew_loop (R := newD V) hv hV hsz (fun fs1 en hE hS => ?_) V 0 D0 _ rfl (by omega) rfl hE
  refine w_sub hS (fun _ h => h) ?_
  refine cgo ?_
  refine g_do rfl (o_call (.cons (xt rfl) (.cons (xt rfl) .nil)) (esetargs_ev hE ha.rv fun fs2 k1 k2 => ?_))
  refine cgo ?_
  exact ⟨trivial, _, _, .one (.tmp rfl), .refl _, h e m f fs2 k2⟩
/-! Rows of texts, compared. -/
theorem samet_loop {a b : AV} {T : List ByteArray} (ha : RV fs 1 a (T.map .str) T.length) (hb : RV fs 1 b (T.map .str) T.length) (hT : T.length ≤ 1000000) {Q : AO → Env → List Fact → Prop} (hQ : ∀ e, Q (.exit 0) e fs) :
    ∀ (k n : Nat), n + k = T.length → WL sW ftab lb33_0 26 [(0, a), (1, b), (5, .int .i64 n)] fs Q
  | 0, n, hn => by
    refine l_round ?_
    refine cgo ?_
    refine g_do rfl (o_len (xt rfl) ha ?_)
    refine g_do rfl (o_lss (xt rfl) (xt rfl) (fun h => by omega) (fun h => ?_))
    refine cgo ?_
    exact hQ _
  | k + 1, n, hn => by
    have hlt : n < T.length := by omega
    obtain ⟨sa, rfl, ra, za⟩ := ha.some (by omega)
    obtain ⟨sb, rfl, rb, zb⟩ := hb.some (by omega)
    have hx : (T.map AV.str)[((n : Nat) : Int).toNat * 1]? = some (.str T[n]) := by
      rw [show ((n : Nat) : Int).toNat * 1 = n by omega, List.getElem?_map, List.getElem?_eq_getElem hlt]; rfl
    refine l_round ?_
    refine cgo ?_
    refine g_do rfl (o_lss (xt rfl) (xt rfl) (fun h => ?_) (fun h => by omega))
    refine cgo ?_
    refine w_block ?_
    refine cgo ?_
    refine g_do rfl (o_iaddr (xt rfl) (xt rfl) ⟨by omega, by omega⟩ za ?_)
    refine g_do rfl (o_loadr (v := .str T[n]) (xt rfl) ra (by simp only [apart]; rw [hx]) ?_)
    refine cgo ?_
    refine g_do rfl (o_iaddr (xt rfl) (xt rfl) ⟨by omega, by omega⟩ zb ?_)
    refine g_do rfl (o_loadr (v := .str T[n]) (xt rfl) rb (by simp only [apart]; rw [hx]) ?_)
    refine g_do rfl (o_nes (xt rfl) (xt rfl) (fun _ => ?_) (fun h => absurd rfl h))
    refine cgo ?_
    refine g_do rfl (o_add (xt rfl) xc (by constructor <;> omega) ?_)
    refine cgo ?_
    refine l_sub (e' := [(0, .row (T.map .str) T.length sa), (1, .row (T.map .str) T.length sb), (5, .int .i64 ((n + 1 : Nat) : Int))]) (.cons rfl (.cons rfl (.cons rfl .nil))) (fun _ h => h) ?_
    exact samet_loop ha hb hT hQ k (n + 1) (by omega)
theorem samet_ev {a b : AV} {T : List ByteArray} (ha : RV fs 1 a (T.map .str) T.length) (hb : RV fs 1 b (T.map .str) T.length) (hT : T.length ≤ 1000000) {K : KK} (h : K (.bool true) fs) : Ev sW ftab 33 [a, b] fs K := by
  refine ev_fn (nt := 26) (kb := kb33) (kr := kr33) rfl rfl (Nat.le_of_ble_eq_true rfl) ?_
  refine cgo ?_
  refine g_do rfl (o_len (xt rfl) ha ?_)
  refine cgo ?_
  refine g_do rfl (o_len (xt rfl) hb ?_)
  refine g_do rfl (o_nei (xt rfl) (xt rfl) (fun _ => ?_) (fun h => absurd rfl h))
  refine cgo ?_
  refine w_block (w_loop ?_)
  refine l_sub (e' := [(0, a), (1, b), (5, .int .i64 ((0 : Nat) : Int))]) (.cons rfl (.cons rfl (.cons rfl .nil))) (fun _ h => h) ?_
  refine samet_loop ha hb hT (fun e => ?_) T.length 0 (by omega)
  refine cgo ?_
  exact ⟨trivial, _, _, .one (.tmp rfl), .refl _, h⟩
theorem map_scalar2 (T : List ByteArray) : (T.map AV.str).all scalar = true := by
  rw [List.all_eq_true]
  intro x hx
  obtain ⟨s, _, rfl⟩ := List.mem_map.1 hx
  rfl
theorem nok {α : Type} {p : α → Prop} : ∀ x ∈ ([] : List α), p x := fun x hx => by cases hx
theorem eargs_ev {e m f : Nat} {D : List PV} {A : List ByteArray} {G : UInt8 → Bool} (hE : EInv fs e m f D A G) {K : KK} (h : ∀ v' fsB, AR 1 v' (A.map .str) A.length fsB → K v' (fsB ++ fs)) : Ev sW ftab 12 [.ptr e 0] fs K := by
  obtain ⟨es, c, ks, av, fl, cf, I, hD, hG⟩ := hE
  refine ev_fn (nt := 8) (kb := kb12) (kr := kr12) rfl rfl (Nat.le_of_ble_eq_true rfl) ?_
  have he := I.fe
  refine cgo ?_
  refine g_do rfl (o_load (v := av) (xt rfl) he rfl ?_)
  refine g_do rfl (o_call (.cons (xt rfl) .nil) (clone2_ev I.row I.nil (map_scalar2 _) (by have := I.few; omega) fun v' fsB hv' => ?_))
  refine cgo ?_
  exact ⟨trivial, _, _, .one (.tmp rfl), .refl _, h _ _ hv'⟩
theorem same_loop {w : Nat} {lv av out bE bF bU : AV} {D : List PV} (hw : Has fs (.blk w (.cells [lv, av, bE, bF, bU]))) (hl : RV fs 2 lv (CP D) D.length) (ho : RV fs 2 out (CP D) D.length) (hD : D.length ≤ 1000000) {Q : AO → Env → List Fact → Prop} (hQ : ∀ e, Q (.exit 0) e fs) :
    ∀ (k n : Nat), n + k = D.length → WL sW ftab lb18_0 83 [(1, .ptr w 0), (5, out), (6, .int .i64 n)] fs Q
  | 0, n, hn => by
    refine l_round ?_
    refine cgo ?_
    refine g_do rfl (o_len (xt rfl) ho ?_)
    refine g_do rfl (o_lss (xt rfl) (xt rfl) (fun h => by omega) (fun h => ?_))
    refine cgo ?_
    exact hQ _
  | k + 1, n, hn => by
    obtain ⟨p, hp⟩ : ∃ p, D[n]? = some p := ⟨_, List.getElem?_eq_getElem (by omega)⟩
    obtain ⟨s1, rfl, hr1, hz1⟩ := ho.some (by omega)
    obtain ⟨s2, rfl, hr2, hz2⟩ := hl.some (by omega)
    refine l_round ?_
    refine cgo ?_
    refine g_do rfl (o_lss (xt rfl) (xt rfl) (fun h => ?_) (fun h => by omega))
    refine cgo ?_
    refine w_block ?_
    refine cgo ?_
    refine g_do rfl (o_iaddr (xt rfl) (xt rfl) ⟨by omega, by omega⟩ hz1 ?_)
    refine g_do rfl (o_loadr (xt rfl) hr1 (cp_pair hp) ?_)
    refine cgo ?_
    refine g_do rfl (o_load (xt rfl) hw rfl ?_)
    refine cgo ?_
    refine g_do rfl (o_iaddr (xt rfl) (xt rfl) ⟨by omega, by omega⟩ hz2 ?_)
    refine g_do rfl (o_loadr (xt rfl) hr2 (cp_pair hp) ?_)
    refine g_do rfl (o_net (b := true) (xt rfl) (xt rfl) (by simp [cellsEq, scalarEq, AV.cells, toList_inj]) ?_)
    refine cgo ?_
    refine g_do rfl (o_add (xt rfl) xc (by constructor <;> omega) ?_)
    refine cgo ?_
    refine l_sub (e' := [(1, .ptr w 0), (5, .row (CP D) D.length s1), (6, .int .i64 ((n + 1 : Nat) : Int))]) (.cons rfl (.cons rfl (.cons rfl .nil))) (fun _ h => h) ?_
    exact same_loop hw hl ho hD hQ k (n + 1) (by omega)
theorem same_ev {e m f w : Nat} {D : List PV} {A : List ByteArray} {G : UInt8 → Bool} {E F U : Bool} (hE : EInv fs e m f D A G) (hW : WInv fs w D A E F U) (hO : DOk D) (hG : G 101 = E ∧ G 102 = F ∧ G 117 = U ∧ G 120 = false) {K : KK} (h : ∀ fs', Fr [] fs fs' → K (.bool true) fs') : Ev sW ftab 18 [.ptr e 0, .ptr w 0] fs K := by
  obtain ⟨g1, g2, g3, g4⟩ := hG
  have hD2 := hO.2
  have hE0 := hE
  obtain ⟨es, c, ks, av1, fl, cf, I, hD, _⟩ := hE
  have hA1 := I.few
  refine ev_fn (nt := 83) (kb := kb18) (kr := kr18) rfl rfl (Nat.le_of_ble_eq_true rfl) ?_
  refine cgo ?_
  refine g_do rfl (o_call (.cons (xt rfl) .nil) (vars_ev I.fe I.fm I.ok fun out fsA hA => ?_))
  rw [hD] at hA
  clear I hD
  refine cgo ?_
  have ho : RV (fsA ++ fs) 2 out (CP D) D.length := .of hA
  have fr1 : Fr [] fs (fsA ++ fs) := Fr.app .refl
  have hE1 := hE0.fr fr1 nok
  have hW1 := hW.fr fr1 nok
  clear hA
  generalize fsA ++ fs = fs1 at ho fr1 hE1 hW1 ⊢
  have hW1' := hW1
  obtain ⟨lv, av, hw, hl, ha⟩ := hW1
  refine g_fl ?_
  refine hgo ?_
  refine h_do rfl (o_len (xt rfl) ho ?_)
  refine hgo ?_
  refine h_do rfl (o_load (xt rfl) hw rfl ?_)
  refine h_do rfl (o_len (xt rfl) hl ?_)
  refine h_do rfl (o_nei (xt rfl) (xt rfl) (fun _ => ?_) (fun h => absurd rfl h))
  refine hgo ?_
  refine h_do rfl (o_call (.cons (xt rfl) .nil) (eargs_ev hE1 fun v fsB hB => ?_))
  have hv : RV (fsB ++ fs1) 1 v (A.map .str) A.length := .of hB
  have fr2 : Fr [] fs1 (fsB ++ fs1) := Fr.app .refl
  have hE2 := hE1.fr fr2 nok
  have hW2 := hW1'.fr fr2 nok
  have hw2 := fr2 _ hw (by simp)
  have hl2 := hl.fr fr2 nok
  have ha2 := ha.fr fr2 nok
  have ho2 := ho.fr fr2 nok
  have fr3 := fr1.trans fr2
  clear hB
  generalize fsB ++ fs1 = fs2 at hv fr2 hE2 hW2 hw2 hl2 ha2 ho2 fr3 ⊢
  refine hgo ?_
  refine h_do rfl (o_load (xt rfl) hw2 rfl ?_)
  refine h_if rfl ?_
  refine h_do rfl (o_call (.cons (xt rfl) (.cons (xt rfl) .nil)) (samet_ev hv ha2 (by omega) ?_))
  refine hgo ?_
  refine h_do rfl (o_call (.cons (xt rfl) .nil) (eifs_ev hE2 ?_))
  refine hgo ?_
  refine h_do rfl (o_call (.cons (xt rfl) .nil) (difs_ev hW2 hO.1 hO.2 ?_))
  refine h_if rfl ?_
  refine h_do rfl (o_nes (xt rfl) (xt rfl) (fun _ => ?_) (fun h => absurd rfl h))
  refine hgo ?_
  refine h_do rfl (o_call (.cons (xt rfl) (.cons xc .nil)) (eflag_ev (b := 101) hE2 ?_))
  rw [g1]
  refine hgo ?_
  refine h_do rfl (o_load (xt rfl) hw2 rfl ?_)
  refine h_if rfl ?_
  refine h_do rfl (o_neb (xt rfl) (xt rfl) (fun _ => ?_) (fun h => absurd rfl h))
  refine hgo ?_
  refine h_do rfl (o_call (.cons (xt rfl) (.cons xc .nil)) (eflag_ev (b := 102) hE2 ?_))
  rw [g2]
  refine hgo ?_
  refine h_do rfl (o_load (xt rfl) hw2 rfl ?_)
  refine h_if rfl ?_
  refine h_do rfl (o_neb (xt rfl) (xt rfl) (fun _ => ?_) (fun h => absurd rfl h))
  refine hgo ?_
  refine h_do rfl (o_call (.cons (xt rfl) (.cons xc .nil)) (eflag_ev (b := 117) hE2 ?_))
  rw [g3]
  refine hgo ?_
  refine h_do rfl (o_load (xt rfl) hw2 rfl ?_)
  refine h_if rfl ?_
  refine h_do rfl (o_neb (xt rfl) (xt rfl) (fun _ => ?_) (fun h => absurd rfl h))
  refine hgo ?_
  refine h_do rfl (o_call (.cons (xt rfl) (.cons xc .nil)) (eflag_ev (b := 120) hE2 ?_))
  rw [g4]
  refine hgo ?_
  refine h_end ?_
  refine ⟨.cons rfl (.cons rfl (o_gval rfl (o_load (xt rfl) hw2 rfl rfl)) .nil)
    (.cons rfl (.cons rfl (o_gval rfl (o_load (xt rfl) hw2 rfl rfl)) .nil)
    (.cons rfl (.cons rfl (o_gval rfl (o_load (xt rfl) hw2 rfl rfl)) .nil)
    (.cons rfl (.cons rfl (o_gval rfl (o_load (xt rfl) hw rfl rfl)) .nil)
    (.cons rfl (.cons rfl (o_len (xt rfl) hl2 rfl) .nil)
    (.cons rfl (.cons rfl (o_load (xt rfl) hw2 rfl rfl) .nil)
    (.cons rfl (.cons rfl (o_len (xt rfl) ho2 rfl) .nil) .nil)))))), _, rfl, ?_⟩
  refine cgo ?_
  refine w_block (w_loop ?_)
  refine l_sub (e' := [(1, .ptr w 0), (5, out), (6, .int .i64 ((0 : Nat) : Int))]) (.cons rfl (.cons rfl (.cons rfl .nil))) (fun _ h => h) ?_
  refine same_loop hw2 hl2 ho2 (by omega) (fun en => ?_) D.length 0 (by omega)
  refine cgo ?_
  exact ⟨trivial, _, _, .one (.tmp rfl), .refl _, h _ fr3⟩
/-! A copy. -/
theorem clone_ev {S : Sum} {F : FuncId → Option AF} {g : FuncId} {j c : Nat} {es : List (AV × AV × Nat)} (hS : S g = some cloneS) (hj : Has fs (.blk j (.map es c))) {K : KK} (h : ∀ i, K (.map i) (.blk i (.map es c) :: fs)) : Ev S F g [.map j] fs K :=
  ev_sum hS fun h0 h2 => ⟨.map h0.next, h0.new (.map es c), _, h2.new _, h h0.next, by unfold cloneS; simp only [h2.get hj]⟩
theorem ecopy_ev {e m f : Nat} {D : List PV} {A : List ByteArray} {G : UInt8 → Bool} (hE : EInv fs e m f D A G) {K : KK} (h : ∀ e2 m2 f2 fs', (∀ i b, Has fs (.blk i b) → i ≠ e2 ∧ i ≠ m2 ∧ i ≠ f2) → Fr [] fs fs' → EInv fs' e2 m2 f2 D A G → K (.ptr e2 0) fs') : Ev sW ftab 25 [.ptr e 0] fs K := by
  obtain ⟨es, c, ks, av, fl, cf, I, hD, hG⟩ := hE
  have he := I.fe
  have hm := I.fm
  have hf := I.ff
  refine ev_fn (nt := 20) (kb := kb25) (kr := kr25) rfl rfl (Nat.le_of_ble_eq_true rfl) ?_
  refine cgo ?_
  refine g_fl ?_
  refine hgo ?_
  refine h_do rfl (o_load (xt rfl) he rfl ?_)
  refine h_do rfl (o_call (.cons (xt rfl) .nil) (clone_ev rfl hm fun m2 => ?_))
  refine hgo ?_
  refine h_do rfl (o_load (xt rfl) (.there he) rfl ?_)
  refine h_do rfl (o_call (.cons (xt rfl) .nil) (clone2_ev I.row.cons I.nil (map_scalar2 _) (by have := I.few; omega) fun v fsB hB => ?_))
  refine hgo ?_
  refine h_do rfl (o_load (xt rfl) (Has.app (.there he)) rfl ?_)
  refine h_do rfl (o_call (.cons (xt rfl) .nil) (clone_ev rfl (Has.app (.there hf)) fun f2 => ?_))
  refine h_do rfl (o_build (cs := [.map m2, v, .map f2]) (.cons (xt rfl) (.cons (xt rfl) (.cons (xt rfl) .nil))) ?_ ?_)
  · rcases hB.inv with ⟨rfl, _⟩ | ⟨_, _, _, rfl, _⟩ <;> rfl
  refine h_do rfl (o_box (xt rfl) rfl fun e2 => ?_)
  refine hgo ?_
  refine h_end ?_
  refine ⟨.cons rfl (.cons rfl (o_load (xt rfl) he rfl rfl) (.cons rfl (o_load (xt rfl) (.there he) rfl rfl) .nil))
    (.cons rfl (.cons rfl (o_load (xt rfl) he rfl rfl) .nil) .nil), _, rfl, ?_⟩
  refine w_nd fun hnd => ?_
  refine cgo ?_
  have fr0 : Fr [] fs (.blk e2 (.cells [.map m2, v, .map f2]) :: .blk f2 (.map (fl.map encF) cf) :: (fsB ++ .blk m2 (.map es c) :: fs)) := ((Fr.cons Fr.refl).app.cons).cons
  have n1 : ∀ j b, Has (.blk f2 (.map (fl.map encF) cf) :: (fsB ++ .blk m2 (.map es c) :: fs)) (.blk j b) → j ≠ e2 := fun j b hj => nd_new hnd hj
  have hnd2 : ((Fact.blk f2 (.map (fl.map encF) cf) :: (fsB ++ .blk m2 (.map es c) :: fs)).map Fact.key).Nodup := by
    rw [List.map_cons, List.nodup_cons] at hnd; exact hnd.2
  have n2 : ∀ j b, Has (fsB ++ .blk m2 (.map es c) :: fs) (.blk j b) → j ≠ f2 := fun j b hj => nd_new hnd2 hj
  have hnd3 : ((Fact.blk m2 (.map es c) :: fs).map Fact.key).Nodup := by
    rw [List.map_cons, List.nodup_cons, List.map_append, List.nodup_append] at hnd2; exact hnd2.2.2.1
  have n3 : ∀ j b, Has fs (.blk j b) → j ≠ m2 := fun j b hj => nd_new hnd3 hj
  refine ⟨trivial, _, _, .one (.tmp rfl), .refl _, h e2 m2 f2 _ (fun i b hi => ⟨n1 i b (.there (Has.app (.there hi))), n3 i b hi, n2 i b (Has.app (.there hi))⟩) fr0 ?_⟩
  refine ⟨es, c, ks, v, fl, cf, ⟨.here, .there (.there (Has.app .here)), .there .here, I.ok, I.kl, (RV.of hB).cons.cons, fun h0 => ?_, I.few, (n1 m2 _ (.there (Has.app .here))).symm, (n1 f2 _ .here).symm, n2 m2 _ (Has.app .here)⟩, hD, hG⟩
  rcases hB.inv with ⟨rfl, _⟩ | ⟨_, _, h9, _, _⟩
  · rfl
  · exact absurd h0 h9
/-! Few, and short. -/
def ShortV (V : List PV) : Prop := V.length ≤ 130 ∧ ∀ p ∈ V, p.1.size ≤ 60 ∧ p.2.size ≤ 200
def ShortT (T : List ByteArray) : Prop := T.length ≤ 130 ∧ ∀ s ∈ T, s.size ≤ 200
theorem shortv_loop {vv av : AV} {V : List PV} (hv : RI 2 vv (CP V) V.length) (hV : V.length ≤ 1000000) {Q : AO → Env → List Fact → Prop} (h1 : (∀ p ∈ V, p.1.size ≤ 60 ∧ p.2.size ≤ 200) → ∀ e', Sub e' [(1, av)] → Q (.exit 0) e' fs) (h2 : ∀ e', Sub e' [(4, .bool false)] → Q .ret e' fs) :
    ∀ (l : List PV) (i : Nat), V.drop i = l → i ≤ V.length → (∀ p ∈ V.take i, p.1.size ≤ 60 ∧ p.2.size ≤ 200) → WL sW ftab lb7_0 49 [(0, vv), (1, av), (5, .int .i64 (i : Int))] fs Q
  | [], i, hd, hi, hp => by
    have hge : V.length ≤ i := List.drop_eq_nil_iff.1 hd
    refine l_round ?_
    refine cgo ?_
    refine g_do rfl (o_len (xt rfl) hv.rv ?_)
    refine g_do rfl (o_lss (xt rfl) (xt rfl) (fun h => by omega) (fun h => ?_))
    refine cgo ?_
    exact h1 (fun p hx => hp p (by rw [List.take_of_length_le hge]; exact hx)) _ (.cons rfl .nil)
  | q :: l, i, hd, hi, hp => by
    obtain ⟨k1, k2, k3⟩ := drop_headP hd
    obtain ⟨sr, rfl, hz0, hz⟩ := hv.some (by omega)
    refine l_round ?_
    refine cgo ?_
    refine g_do rfl (o_lss (xt rfl) (xt rfl) (fun h => ?_) (fun h => by omega))
    refine cgo ?_
    refine w_block ?_
    refine cgo ?_
    refine g_do rfl (o_iaddr (xt rfl) (xt rfl) ⟨by omega, by omega⟩ hz ?_)
    refine g_do rfl (o_faddrz (xt rfl) ?_)
    refine g_do rfl (o_loadr (xt rfl) (.frz hz0) (cp_name k1) ?_)
    refine cgo ?_
    refine g_do rfl (o_gtr (xt rfl) xc (fun hg => ?_) (fun hg => ?_))
    · refine cgo ?_
      exact h2 _ (.cons rfl .nil)
    refine cgo ?_
    refine g_do rfl (o_iaddr (xt rfl) (xt rfl) ⟨by omega, by omega⟩ hz ?_)
    refine g_if rfl ?_
    refine g_do rfl (o_faddrz (xt rfl) ?_)
    refine g_if rfl ?_
    refine g_do rfl (o_loadr (xt rfl) (.frz hz0) (cp_val k1) ?_)
    refine cgo ?_
    refine g_do rfl (o_gtr (xt rfl) xc (fun hg2 => ?_) (fun hg2 => ?_))
    · refine cgo ?_
      exact h2 _ (.cons rfl .nil)
    refine cgo ?_
    refine g_do rfl (o_add (xt rfl) xc (by constructor <;> omega) ?_)
    refine cgo ?_
    refine l_sub (e' := [(0, .row (CP V) V.length sr), (1, av), (5, .int .i64 ((i + 1 : Nat) : Int))]) (.cons rfl (.cons rfl (.cons rfl .nil))) (fun _ h => h) ?_
    refine shortv_loop hv hV h1 h2 l (i + 1) k2 (by omega) fun x hx => ?_
    rw [List.take_add_one, k1] at hx
    rcases List.mem_append.1 hx with hx | hx
    · exact hp x hx
    · obtain rfl : x = q := by simpa using hx
      exact ⟨by omega, by omega⟩
theorem shortv_ev {vv av : AV} {V : List PV} {T : List ByteArray} (hv : RI 2 vv (CP V) V.length) (ha : RI 1 av (T.map .str) T.length) {K : KK} (h1 : ShortV V → ShortT T → K (.bool true) fs) (h2 : K (.bool false) fs) : Ev sW ftab 7 [vv, av] fs K := by
  refine ev_fn (nt := 49) (kb := kb7) (kr := kr7) rfl rfl (Nat.le_of_ble_eq_true rfl) ?_
  refine cgo ?_
  refine g_do rfl (o_len (xt rfl) hv.rv ?_)
  refine g_do rfl (o_gtr (xt rfl) xc (fun _ => ?_) (fun hg0 => ?_))
  · refine cgo ?_
    exact ⟨trivial, _, _, .one (.tmp rfl), .refl _, h2⟩
  refine cgo ?_
  refine g_do rfl (o_len (xt rfl) ha.rv ?_)
  try refine g_if rfl ?_
  refine g_do rfl (o_gtr (xt rfl) xc (fun hg => ?_) (fun hg => ?_))
  · refine cgo ?_
    exact ⟨trivial, _, _, .one (.tmp rfl), .refl _, h2⟩
  refine cgo ?_
  refine w_block (w_loop ?_)
  refine l_sub (e' := [(0, vv), (1, av), (5, .int .i64 ((0 : Nat) : Int))]) (.cons rfl (.cons rfl (.cons rfl .nil))) (fun _ h => h) ?_
  refine shortv_loop hv (by omega) (fun hp e' hS => ?_) (fun e' hs => ?_) V 0 rfl (by omega) (fun p hp => by simp at hp)
  rotate_left
  · exact ⟨trivial, _, _, .one (.tmp (hs.lk _ _ rfl)), .refl _, h2⟩
  refine w_sub hS (fun _ h => h) ?_
  refine cgo ?_
  refine w_block (w_loop ?_)
  refine l_sub (e' := [(1, av), (6, .int .i64 ((0 : Nat) : Int))]) (.cons rfl (.cons rfl .nil)) (fun _ h => h) ?_
  refine short_loop ha (by omega) (fun hA e' => ?_) (fun e' hs => ?_) T.length 0 (by omega) (fun s hs => by simp at hs)
  · refine w_sub .nil (fun _ h => h) ?_
    refine cgo ?_
    exact ⟨trivial, _, _, .one (.tmp rfl), .refl _, h1 ⟨by omega, hp⟩ ⟨by omega, hA⟩⟩
  · exact ⟨trivial, _, _, .one (.tmp (hs.lk _ _ rfl)), .refl _, h2⟩
structure OpD where
  kind : Int
  nm : ByteArray
  v : ByteArray
  av : AV
  T : List ByteArray
  fl : UInt8
  on : Bool
def opC (o : OpD) : List AV := [.int .i64 o.kind, .str o.nm, .str o.v, o.av, .int .u8 o.fl.toNat, .bool o.on]
theorem flat_get {α : Type} {f : α → List AV} {z : Nat} (hz : ∀ x, (f x).length = z) : ∀ (l : List α) (i : Nat) (x : α), l[i]? = some x → i * z + z ≤ (l.flatMap f).length ∧ ((l.flatMap f).drop (i * z)).take z = f x
  | [], i, x, h => by simp at h
  | y :: l, 0, x, h => by
    simp at h; subst h
    rw [List.flatMap_cons, Nat.zero_mul, List.drop_zero, List.length_append, hz]
    exact ⟨by omega, by rw [← hz y, List.take_left]⟩
  | y :: l, i + 1, x, h => by
    obtain ⟨h1, h2⟩ := flat_get hz l i x (by simpa using h)
    rw [List.flatMap_cons, List.length_append, hz]
    have e : (i + 1) * z = z + i * z := by rw [Nat.add_mul]; omega
    refine ⟨by rw [e]; omega, ?_⟩
    rw [e, ← List.drop_drop]
    have : (f y ++ l.flatMap f).drop z = l.flatMap f := by rw [← hz y, List.drop_left]
    rw [this]; exact h2
theorem op_get {O : List OpD} {i : Nat} {o : OpD} (h : O[i]? = some o) : apart (O.flatMap opC) (((i : Nat) : Int).toNat * 6) (some 6) = some (.agg (opC o)) := by
  obtain ⟨h1, h2⟩ := flat_get (f := opC) (z := 6) (fun _ => rfl) O i o h
  rw [Int.toNat_natCast]
  show (if _ then _ else _) = _
  rw [if_pos h1, h2]
def OpG (o : OpD) : Prop := RI 1 o.av (o.T.map .str) o.T.length
theorem RI.sc {size : Nat} {v : AV} {cs : List AV} {n : Nat} (h : RI size v cs n) : EvA.scalar v = true := by
  cases h <;> rfl
theorem row_sc {v : AV} (h : EvA.scalar v = true) {k : Int} {x y : ByteArray} {n : Int} {o : Bool} : [AV.int .i64 k, .str x, .str y, v, .int .u8 n, .bool o].all scalar = true := by
  show (true && (true && (true && (scalar v && (true && (true && true)))))) = true
  rw [h]; rfl
def GOk (G : UInt8 → Bool) (E F U : Bool) : Prop := G 101 = E ∧ G 102 = F ∧ G 117 = U ∧ G 120 = false
def St (fs : List Fact) (e m f w : Nat) : Prop := ∃ D A G E F U, DOk D ∧ EInv fs e m f D A G ∧ WInv fs w D A E F U ∧ GOk G E F U
theorem esetflag_t {e m f : Nat} {D : List PV} {A : List ByteArray} {G : UInt8 → Bool} {b : UInt8} {on : Bool} (hb : let3B b = true) (hE : EInv fs e m f D A G) {K : KK} (h : ∀ fs', Fr [(0, f)] fs fs' → EInv fs' e m f D A (setG G b on) → K (.bool true) fs') : Ev sW ftab 23 [.ptr e 0, .int .u8 b.toNat, .bool on] fs K :=
  esetflag_ev hE fun fs' k1 k2 => by rw [hb] at k2 ⊢; exact h fs' k1 k2
theorem esetflag_f {e m f : Nat} {D : List PV} {A : List ByteArray} {G : UInt8 → Bool} {b : UInt8} {on : Bool} (hb : let3B b = false) (hE : EInv fs e m f D A G) {K : KK} (h : ∀ fs', Fr [(0, f)] fs fs' → EInv fs' e m f D A G → K (.bool false) fs') : Ev sW ftab 23 [.ptr e 0, .int .u8 b.toNat, .bool on] fs K :=
  esetflag_ev hE fun fs' k1 k2 => by rw [hb] at k2 ⊢; exact h fs' k1 k2
theorem k1of {j a b c : Nat} (h1 : j ≠ a) (h2 : j ≠ b) (h3 : j ≠ c) : ∀ x ∈ [((0 : Nat), j)], x.1 = 0 ∧ x.2 ≠ a ∧ x.2 ≠ b ∧ x.2 ≠ c := fun x hx => by rw [List.mem_singleton.1 hx]; exact ⟨rfl, h1, h2, h3⟩
theorem k1w {j a : Nat} (h1 : j ≠ a) : ∀ x ∈ [((0 : Nat), j)], x.1 = 0 ∧ x.2 ≠ a := fun x hx => by rw [List.mem_singleton.1 hx]; exact ⟨rfl, h1⟩
theorem u8ne {a b : UInt8} (h : a ≠ b) : ¬ ((a.toNat : Int) = (b.toNat : Int)) := fun e => h (UInt8.toNat_inj.1 (Int.ofNat.inj e))
theorem plays_loop {lv : AV} {O : List OpD} (hv : RI 6 lv (O.flatMap opC) O.length) (hO : ∀ o ∈ O, OpG o) {e m f w : Nat} (hne : w ≠ e ∧ w ≠ m ∧ w ≠ f) {Q : AO → Env → List Fact → Prop} (h1 : ∀ fs1 en, St fs1 e m f w → Sub en [(7, .ptr e 0), (8, .ptr w 0)] → Q (.exit 0) en fs1) (h2 : ∀ fs1 en, Sub en [(6, .bool true)] → Q .ret en fs1) :
    ∀ (l : List OpD) (i : Nat) (fs1 : List Fact), O.drop i = l → i ≤ O.length → i ≤ 60 → St fs1 e m f w → WL sW ftab lb6_0 203 [(2, lv), (7, .ptr e 0), (8, .ptr w 0), (9, .int .i64 i)] fs1 Q
  | [], i, fs1, hd, hi, h60, hS => by
    have hge : O.length ≤ i := List.drop_eq_nil_iff.1 hd
    refine l_round ?_
    refine cgo ?_
    refine g_do rfl (o_len (xt rfl) hv.rv ?_)
    refine g_do rfl (o_lss (xt rfl) (xt rfl) (fun h => by omega) (fun h => ?_))
    refine cgo ?_
    exact h1 _ _ hS (.cons rfl (.cons rfl .nil))
  | o :: l, i, fs1, hd, hi, h60, hS => by
    obtain ⟨q1, q2, q3⟩ := drop_headP hd
    obtain ⟨sr, rfl, hz0, hz⟩ := hv.some (by omega)
    have hog := hO o (List.mem_of_getElem? q1)
    have hog2 := op_get q1
    obtain ⟨kind, nm, v, av, T, fl, on⟩ := o
    have hav : RI 1 av (T.map .str) T.length := hog
    refine l_round ?_
    refine cgo ?_
    refine g_do rfl (o_lss (xt rfl) (xt rfl) (fun h => ?_) (fun h => by omega))
    refine cgo ?_
    refine g_do rfl (o_lss (xt rfl) xc (fun h6 => ?_) (fun h6 => ?_))
    rotate_left
    · refine cgo ?_
      exact h1 _ _ hS (.cons rfl (.cons rfl .nil))
    refine cgo ?_
    refine w_block ?_
    refine cgo ?_
    refine g_do rfl (o_iaddr (xt rfl) (xt rfl) ⟨by omega, by omega⟩ hz ?_)
    refine g_do rfl (o_loadr (xt rfl) (.frz hz0) hog2 ?_)
    refine g_do rfl (o_box xc rfl fun b => ?_)
    refine g_do0 (o_store (cs' := [.int .i64 kind, .str nm, .str v, av, .int .u8 fl.toNat, .bool on]) (xt rfl) (xt rfl) .here ⟨rfl, (Nat.le_of_ble_eq_true rfl)⟩ ?_ rfl ?_)
    · show [AV.int .i64 kind, .str nm, .str v, av, .int .u8 fl.toNat, .bool on].all scalar = true
      exact row_sc hav.sc
    refine g_nd fun hnd => ?_
    obtain ⟨D, A, G, E, F, U, hDk, hE, hW, g1, g2, g3, g4⟩ := hS
    have hne' := hne
    have hb := fun j c hj => nd_new hnd (j := j) (b := c) hj
    have hbe : b ≠ e := by obtain ⟨_, _, _, _, _, _, I, _, _⟩ := hE; exact (hb _ _ I.fe).symm
    have hbm : b ≠ m := by obtain ⟨_, _, _, _, _, _, I, _, _⟩ := hE; exact (hb _ _ I.fm).symm
    have hbf : b ≠ f := by obtain ⟨_, _, _, _, _, _, I, _, _⟩ := hE; exact (hb _ _ I.ff).symm
    have hbw : b ≠ w := by obtain ⟨_, _, hw, _, _⟩ := hW; exact (hb _ _ hw).symm
    have hE := hE.fr (fs' := .blk b (.cells [.int .i64 kind, .str nm, .str v, av, .int .u8 fl.toNat, .bool on]) :: fs1) (Fr.cons (ks := []) .refl) nok
    have hW := hW.fr (fs' := .blk b (.cells [.int .i64 kind, .str nm, .str v, av, .int .u8 fl.toNat, .bool on]) :: fs1) (Fr.cons (ks := []) .refl) nok
    refine cgo ?_
    refine g_do rfl (o_gtr (xt rfl) xc (fun hg => ?_) (fun hg => ?_))
    · refine cgo ?_
      exact h2 _ _ (.cons rfl .nil)
    refine cgo ?_
    refine g_do rfl (o_gtr (xt rfl) xc (fun hg2 => ?_) (fun hg2 => ?_))
    · refine cgo ?_
      exact h2 _ _ (.cons rfl .nil)
    refine cgo ?_
    refine g_do rfl (o_call (.cons xc (.cons (xt rfl) .nil)) (short_ev hav (fun hT hTs => ?_) ?_))
    rotate_left
    · refine cgo ?_
      exact h2 _ _ (.cons rfl .nil)
    have hTs2 : ∀ s ∈ T, s.size ≤ 1000000000 := fun s hs => by have := hTs s hs; omega
    refine rgo ?_
    refine w_seq (w_cond (xt rfl) (w_skip ?_))
    refine w_mid (fun e' fs' => St fs' e m f w ∧ Sub e' [(2, .row (O.flatMap opC) O.length sr), (7, .ptr e 0), (8, .ptr w 0), (9, .int .i64 i)]) (w_rs ?_) ?_
    rotate_left
    · rintro e' fs' ⟨⟨D, A, G, E, F, U, hDk, hE, hW, hG⟩, hSub⟩
      refine w_sub hSub (fun _ h => h) ?_
      refine cgo ?_
      refine g_do rfl (o_call (.cons (xt rfl) (.cons (xt rfl) .nil)) (same_ev hE hW hDk hG fun fs3 k => ?_))
      refine cgo ?_
      refine g_do rfl (o_add (xt rfl) xc (by constructor <;> omega) ?_)
      refine cgo ?_
      refine l_sub (e' := [(2, .row (O.flatMap opC) O.length sr), (7, .ptr e 0), (8, .ptr w 0), (9, .int .i64 ((i + 1 : Nat) : Int))]) (.cons rfl (.cons rfl (.cons rfl (.cons rfl .nil)))) (fun _ h => h) ?_
      exact plays_loop hv hO hne' h1 h2 l (i + 1) fs3 q2 (by omega) (by omega) ⟨D, A, G, E, F, U, hDk, hE.fr k nok, hW.fr k nok, hG⟩
    refine rgo ?_
    refine w_block ?_
    refine cgo ?_
    refine g_do rfl (o_eqi (xt rfl) xc (fun hk => ?_) (fun hk => ?_))
    · refine cgo ?_
      refine g_fl ?_
      refine hgo ?_
      refine h_do rfl (o_call (.cons (xt rfl) (.cons (xt rfl) (.cons (xt rfl) .nil))) (eset_ev hE (by omega) fun fs2 k1 k2 => ?_))
      have hb2 := k1 _ (.here) (bk hbm)
      have hW2 := hW.fr k1 (k1w (Ne.symm hne.2.1))
      refine hgo ?_
      refine h_do rfl (o_load (xt rfl) hb2 rfl ?_)
      refine hgo ?_
      refine h_do rfl (o_load (xt rfl) hb2 rfl ?_)
      refine h_do rfl (o_call (.cons (xt rfl) (.cons (xt rfl) (.cons (xt rfl) .nil))) (dset_ev hW2 hDk.1 hDk.2 (by omega) (by omega) fun fs3 k3 k4 => ?_))
      have hE3 := k2.fr k3 (k1of hne.1 hne.2.1 hne.2.2)
      refine h_do rfl (o_nei (xt rfl) (xt rfl) (fun _ => ?_) (fun h => absurd rfl h))
      refine h_end ?_
      refine ⟨.cons rfl (.cons rfl (o_load (xt rfl) .here rfl rfl) .nil) (.cons rfl (.cons rfl (o_load (xt rfl) .here rfl rfl) .nil) .nil), _, rfl, ?_⟩
      refine cgo ?_
      exact ⟨rfl, ⟨_, A, G, E, F, U, hDk.set _ _, hE3, k4, g1, g2, g3, g4⟩, .cons rfl (.cons rfl (.cons rfl (.cons rfl .nil)))⟩
    · refine cgo ?_
      refine g_do rfl (o_eqi (xt rfl) xc (fun hk => ?_) (fun hk => ?_))
      · refine cgo ?_
        refine g_fl ?_
        refine hgo ?_
        refine h_do rfl (o_call (.cons (xt rfl) (.cons (xt rfl) .nil)) (eunset_ev hE (by omega) fun fs2 k1 k2 => ?_))
        have hb2 := k1 _ (.here) (bk hbm)
        have hW2 := hW.fr k1 (k1w (Ne.symm hne.2.1))
        refine hgo ?_
        refine h_do rfl (o_load (xt rfl) hb2 rfl ?_)
        refine h_do rfl (o_call (.cons (xt rfl) (.cons (xt rfl) .nil)) (dunset_ev hW2 hDk.1 hDk.2 (by omega) fun fs3 k3 k4 => ?_))
        have hE3 := k2.fr k3 (k1of hne.1 hne.2.1 hne.2.2)
        refine h_do rfl (o_neb (xt rfl) (xt rfl) (fun _ => ?_) (fun h => absurd rfl h))
        refine h_end ?_
        refine ⟨.cons rfl (.cons rfl (o_load (xt rfl) .here rfl rfl) .nil) .nil, _, rfl, ?_⟩
        refine cgo ?_
        exact ⟨rfl, ⟨_, A, G, E, F, U, hDk.rem _, hE3, k4, g1, g2, g3, g4⟩, .cons rfl (.cons rfl (.cons rfl (.cons rfl .nil)))⟩
      · refine cgo ?_
        refine g_do rfl (o_eqi (xt rfl) xc (fun hk => ?_) (fun hk => ?_))
        · refine cgo ?_
          refine g_do rfl (o_call (.cons (xt rfl) (.cons (xt rfl) .nil)) (esetargs_ev hE hav.rv fun fs2 k1 k2 => ?_))
          have hb2 := k1 _ (.here) (bk hbe)
          have hW2 := hW.fr k1 (k1w (Ne.symm hne.1))
          refine cgo ?_
          refine g_do rfl (o_load (xt rfl) hb2 rfl ?_)
          refine g_do rfl (o_call (.cons (xt rfl) (.cons (xt rfl) .nil)) (dsetargs_ev hW2 hav.rv hTs2 fun fs3 k3 k4 => ?_))
          have hE3 := k2.fr k3 (k1of hne.1 hne.2.1 hne.2.2)
          refine cgo ?_
          exact ⟨rfl, ⟨D, _, G, E, F, U, hDk, hE3, k4, g1, g2, g3, g4⟩, .cons rfl (.cons rfl (.cons rfl (.cons rfl .nil)))⟩
        · refine cgo ?_
          refine g_do rfl (o_eqi (xt rfl) xc (fun hk => ?_) (fun hk => ?_))
          · refine cgo ?_
            refine g_fl ?_
            rcases (show fl = 101 ∨ fl ≠ 101 from Classical.em _) with rfl | m1
            · refine hgo ?_
              refine h_do rfl (o_call (.cons (xt rfl) (.cons (xt rfl) (.cons (xt rfl) .nil))) (esetflag_t (b := 101) (by decide) hE fun fs2 k1 k2 => ?_))
              have hb2 := k1 _ (.here) (bk hbf)
              have hW2 := hW.fr k1 (k1w (Ne.symm hne.2.2))
              refine hgo ?_
              refine h_do rfl (o_load (xt rfl) hb2 rfl ?_)
              refine h_do rfl (o_eqi (xt rfl) xc (fun _ => ?_) (fun h => absurd (by decide) h))
              refine hgo ?_
              refine h_do rfl (o_neb (xt rfl) (xt rfl) (fun _ => ?_) (fun h => absurd rfl h))
              refine hgo ?_
              refine h_end ?_
              refine ⟨.cons rfl (.cons rfl (o_load (xt rfl) .here rfl rfl) .nil) .nil, _, rfl, ?_⟩
              refine cgo ?_
              refine g_do rfl (o_load (xt rfl) hb2 rfl ?_)
              refine cgo ?_
              refine w_block ?_
              refine cgo ?_
              refine g_do rfl (o_eqi (xt rfl) xc (fun _ => ?_) (fun h => absurd (by decide) h))
              refine cgo ?_
              refine g_do rfl (o_load (xt rfl) hb2 rfl ?_)
              refine cgo ?_
              obtain ⟨lw, aw, hw, hl, ha⟩ := hW2
              obtain ⟨fsP, hP⟩ := hw.put (.blk w (.cells [lw, aw, .bool on, .bool F, .bool U]))
              refine g_do0 (o_store (xt rfl) (xt rfl) hP ⟨rfl, (Nat.le_of_ble_eq_true rfl)⟩ rfl rfl ?_)
              refine cgo ?_
              exact ⟨rfl, ⟨D, A, _, _, _, _, hDk, k2.fr (Fr.put hP) (k1of hne.1 hne.2.1 hne.2.2), ⟨lw, aw, hP.hasNew, hl.fr (Fr.put hP) zk, ha.fr (Fr.put hP) zk⟩, ⟨rfl, g2, g3, g4⟩⟩, .cons rfl (.cons rfl (.cons rfl (.cons rfl .nil)))⟩
            rcases (show fl = 102 ∨ fl ≠ 102 from Classical.em _) with rfl | m2
            · refine hgo ?_
              refine h_do rfl (o_call (.cons (xt rfl) (.cons (xt rfl) (.cons (xt rfl) .nil))) (esetflag_t (b := 102) (by decide) hE fun fs2 k1 k2 => ?_))
              have hb2 := k1 _ (.here) (bk hbf)
              have hW2 := hW.fr k1 (k1w (Ne.symm hne.2.2))
              refine hgo ?_
              refine h_do rfl (o_load (xt rfl) hb2 rfl ?_)
              refine h_do rfl (o_eqi (xt rfl) xc (fun h => absurd h (by decide)) (fun _ => ?_))
              refine hgo ?_
              refine h_do rfl (o_load (xt rfl) hb2 rfl ?_)
              refine h_if rfl ?_
              refine h_do rfl (o_eqi (xt rfl) xc (fun _ => ?_) (fun h => absurd (by decide) h))
              refine hgo ?_
              refine h_do rfl (o_neb (xt rfl) (xt rfl) (fun _ => ?_) (fun h => absurd rfl h))
              refine hgo ?_
              refine h_end ?_
              refine ⟨.cons rfl (.cons rfl (o_load (xt rfl) .here rfl rfl) .nil) .nil, _, rfl, ?_⟩
              refine cgo ?_
              refine g_do rfl (o_load (xt rfl) hb2 rfl ?_)
              refine cgo ?_
              refine w_block ?_
              refine cgo ?_
              refine g_do rfl (o_eqi (xt rfl) xc (fun h => absurd h (by decide)) (fun _ => ?_))
              refine cgo ?_
              refine g_do rfl (o_eqi (xt rfl) xc (fun _ => ?_) (fun h => absurd (by decide) h))
              refine cgo ?_
              refine g_do rfl (o_load (xt rfl) hb2 rfl ?_)
              refine cgo ?_
              obtain ⟨lw, aw, hw, hl, ha⟩ := hW2
              obtain ⟨fsP, hP⟩ := hw.put (.blk w (.cells [lw, aw, .bool E, .bool on, .bool U]))
              refine g_do0 (o_store (xt rfl) (xt rfl) hP ⟨rfl, (Nat.le_of_ble_eq_true rfl)⟩ rfl rfl ?_)
              refine cgo ?_
              exact ⟨rfl, ⟨D, A, _, _, _, _, hDk, k2.fr (Fr.put hP) (k1of hne.1 hne.2.1 hne.2.2), ⟨lw, aw, hP.hasNew, hl.fr (Fr.put hP) zk, ha.fr (Fr.put hP) zk⟩, ⟨g1, rfl, g3, g4⟩⟩, .cons rfl (.cons rfl (.cons rfl (.cons rfl .nil)))⟩
            rcases (show fl = 117 ∨ fl ≠ 117 from Classical.em _) with rfl | m3
            · refine hgo ?_
              refine h_do rfl (o_call (.cons (xt rfl) (.cons (xt rfl) (.cons (xt rfl) .nil))) (esetflag_t (b := 117) (by decide) hE fun fs2 k1 k2 => ?_))
              have hb2 := k1 _ (.here) (bk hbf)
              have hW2 := hW.fr k1 (k1w (Ne.symm hne.2.2))
              refine hgo ?_
              refine h_do rfl (o_load (xt rfl) hb2 rfl ?_)
              refine h_do rfl (o_eqi (xt rfl) xc (fun h => absurd h (by decide)) (fun _ => ?_))
              refine hgo ?_
              refine h_do rfl (o_load (xt rfl) hb2 rfl ?_)
              refine h_if rfl ?_
              refine h_do rfl (o_eqi (xt rfl) xc (fun h => absurd h (by decide)) (fun _ => ?_))
              refine hgo ?_
              refine h_do rfl (o_load (xt rfl) hb2 rfl ?_)
              refine h_if rfl ?_
              refine h_do rfl (o_eqi (xt rfl) xc (fun _ => ?_) (fun h => absurd (by decide) h))
              refine hgo ?_
              refine h_do rfl (o_neb (xt rfl) (xt rfl) (fun _ => ?_) (fun h => absurd rfl h))
              refine hgo ?_
              refine h_end ?_
              refine ⟨.cons rfl (.cons rfl (o_load (xt rfl) .here rfl rfl) .nil) .nil, _, rfl, ?_⟩
              refine cgo ?_
              refine g_do rfl (o_load (xt rfl) hb2 rfl ?_)
              refine cgo ?_
              refine w_block ?_
              refine cgo ?_
              refine g_do rfl (o_eqi (xt rfl) xc (fun h => absurd h (by decide)) (fun _ => ?_))
              refine cgo ?_
              refine g_do rfl (o_eqi (xt rfl) xc (fun h => absurd h (by decide)) (fun _ => ?_))
              refine cgo ?_
              refine g_do rfl (o_eqi (xt rfl) xc (fun _ => ?_) (fun h => absurd (by decide) h))
              refine cgo ?_
              refine g_do rfl (o_load (xt rfl) hb2 rfl ?_)
              refine cgo ?_
              obtain ⟨lw, aw, hw, hl, ha⟩ := hW2
              obtain ⟨fsP, hP⟩ := hw.put (.blk w (.cells [lw, aw, .bool E, .bool F, .bool on]))
              refine g_do0 (o_store (xt rfl) (xt rfl) hP ⟨rfl, (Nat.le_of_ble_eq_true rfl)⟩ rfl rfl ?_)
              refine cgo ?_
              exact ⟨rfl, ⟨D, A, _, _, _, _, hDk, k2.fr (Fr.put hP) (k1of hne.1 hne.2.1 hne.2.2), ⟨lw, aw, hP.hasNew, hl.fr (Fr.put hP) zk, ha.fr (Fr.put hP) zk⟩, ⟨g1, g2, rfl, g4⟩⟩, .cons rfl (.cons rfl (.cons rfl (.cons rfl .nil)))⟩
            have hnl : let3B fl = false := by simp [let3B, m1, m2, m3]
            have n1 := u8ne m1
            have n2 := u8ne m2
            have n3 := u8ne m3
            refine hgo ?_
            refine h_do rfl (o_call (.cons (xt rfl) (.cons (xt rfl) (.cons (xt rfl) .nil))) (esetflag_f (b := fl) hnl hE fun fs2 k1 k2 => ?_))
            have hb2 := k1 _ (.here) (bk hbf)
            have hW2 := hW.fr k1 (k1w (Ne.symm hne.2.2))
            refine hgo ?_
            refine h_do rfl (o_load (xt rfl) hb2 rfl ?_)
            refine h_do rfl (o_eqi (xt rfl) xc (fun h => absurd h n1) (fun _ => ?_))
            refine hgo ?_
            refine h_do rfl (o_load (xt rfl) hb2 rfl ?_)
            refine h_if rfl ?_
            refine h_do rfl (o_eqi (xt rfl) xc (fun h => absurd h n2) (fun _ => ?_))
            refine hgo ?_
            refine h_do rfl (o_load (xt rfl) hb2 rfl ?_)
            refine h_if rfl ?_
            refine h_do rfl (o_eqi (xt rfl) xc (fun h => absurd h n3) (fun _ => ?_))
            refine hgo ?_
            refine h_do rfl (o_neb (xt rfl) (xt rfl) (fun _ => ?_) (fun h => absurd rfl h))
            refine hgo ?_
            refine h_end ?_
            refine ⟨.cons rfl (.cons rfl (o_load (xt rfl) .here rfl rfl) .nil) .nil, _, rfl, ?_⟩
            refine cgo ?_
            refine g_do rfl (o_load (xt rfl) hb2 rfl ?_)
            refine cgo ?_
            refine w_block ?_
            refine cgo ?_
            refine g_do rfl (o_eqi (xt rfl) xc (fun h => absurd h n1) (fun _ => ?_))
            refine cgo ?_
            refine g_do rfl (o_eqi (xt rfl) xc (fun h => absurd h n2) (fun _ => ?_))
            refine cgo ?_
            refine g_do rfl (o_eqi (xt rfl) xc (fun h => absurd h n3) (fun _ => ?_))
            refine cgo ?_
            exact ⟨rfl, ⟨D, A, _, _, _, _, hDk, k2, hW2, g1, g2, g3, g4⟩, .cons rfl (.cons rfl (.cons rfl (.cons rfl .nil)))⟩
          · refine cgo ?_
            refine g_do rfl (o_call (.cons (xt rfl) (.cons (xt rfl) .nil)) (eget_ev hE (by omega) ?_))
            refine cgo ?_
            refine g_do rfl (o_call (.cons (xt rfl) (.cons (xt rfl) .nil)) (dget_ev hW hDk.1 hDk.2 (by omega) ?_))
            refine cgo ?_
            refine g_do rfl (o_nes (xt rfl) (xt rfl) (fun _ => ?_) (fun h => absurd rfl h))
            refine cgo ?_
            refine g_do rfl (o_neb (xt rfl) (xt rfl) (fun _ => ?_) (fun h => absurd rfl h))
            refine cgo ?_
            exact ⟨rfl, ⟨D, A, G, E, F, U, hDk, hE, hW, g1, g2, g3, g4⟩, .cons rfl (.cons rfl (.cons rfl (.cons rfl .nil)))⟩
theorem plays_ev {vv av lv : AV} {V : List PV} {T : List ByteArray} {O : List OpD} (hvv : RI 2 vv (CP V) V.length) (hav : RI 1 av (T.map .str) T.length) (hv : RI 6 lv (O.flatMap opC) O.length) (hO : ∀ o ∈ O, OpG o) : Ev sW ftab 6 [vv, av, lv] [] fun v _ => v = .bool true := by
  refine ev_fn (nt := 203) (kb := kb6) (kr := kr6) rfl rfl (Nat.le_of_ble_eq_true rfl) ?_
  refine cgo ?_
  refine g_do rfl (o_call (.cons (xt rfl) (.cons (xt rfl) .nil)) (shortv_ev hvv hav (fun hV hT => ?_) ?_))
  rotate_left
  · refine cgo ?_
    refine g_do rfl (o_call .nil (awake_ev ?_))
    refine cgo ?_
    exact ⟨trivial, _, _, .one (.tmp rfl), .refl _, rfl⟩
  have hT2 : ∀ s ∈ T, s.size ≤ 1000000000 := fun s hs => by have := hT.2 s hs; omega
  have hV1 := hV.1
  refine cgo ?_
  refine g_do rfl (o_call (.cons (xt rfl) (.cons (xt rfl) .nil)) (enew_ev hvv (by omega) (fun p hp => by have := hV.2 p hp; omega) hav fun e m f fs1 hE => ?_))
  refine cgo ?_
  refine g_do rfl (o_call (.cons (xt rfl) (.cons (xt rfl) .nil)) (dnew_ev hvv (by omega) (fun p hp => by have := hV.2 p hp; omega) hav hT2 fun w fs2 hnw hfr hW => ?_))
  have hne : w ≠ e ∧ w ≠ m ∧ w ≠ f := by
    obtain ⟨_, _, _, _, _, _, I, _, _⟩ := hE
    exact ⟨(hnw _ _ I.fe).symm, (hnw _ _ I.fm).symm, (hnw _ _ I.ff).symm⟩
  have hE2 := hE.fr hfr (k1of hne.1 hne.2.1 hne.2.2)
  refine cgo ?_
  refine g_do rfl (o_eq (c := false) (xt rfl) xc rfl ?_)
  refine cgo ?_
  refine g_do rfl (o_call .nil (awake_ev ?_))
  refine cgo ?_
  refine g_do rfl (o_call (.cons (xt rfl) (.cons (xt rfl) .nil)) (same_ev hE2 hW (dok_new V) ⟨rfl, rfl, rfl, rfl⟩ fun fs3 k => ?_))
  refine cgo ?_
  refine w_block (w_loop ?_)
  refine l_sub (e' := [(2, lv), (7, .ptr e 0), (8, .ptr w 0), (9, .int .i64 ((0 : Nat) : Int))]) (.cons rfl (.cons rfl (.cons rfl (.cons rfl .nil)))) (fun _ h => h) ?_
  refine plays_loop hv hO hne (fun fs4 en hS hSub => ?_) (fun fs4 en hSub => ?_) O 0 fs3 rfl (by omega) (by omega) ⟨newD V, clipA T, G0f, false, false, false, dok_new V, hE2.fr k nok, hW.fr k nok, rfl, rfl, rfl, rfl⟩
  rotate_left
  · exact ⟨trivial, _, _, .one (.tmp (hSub.lk _ _ rfl)), .refl _, rfl⟩
  refine w_sub hSub (fun _ h => h) ?_
  obtain ⟨D, A, G, E, F, U, hDk, hE4, hW4, hG⟩ := hS
  refine cgo ?_
  refine g_do rfl (o_call (.cons (xt rfl) .nil) (ecopy_ev hE4 fun e2 m2 f2 fs5 hnw k5 hC => ?_))
  have hE5 := hE4.fr k5 nok
  have hW5 := hW4.fr k5 nok
  have d1 : e2 ≠ e ∧ e2 ≠ m ∧ e2 ≠ f ∧ e2 ≠ w ∧ m2 ≠ e ∧ m2 ≠ m ∧ m2 ≠ f ∧ m2 ≠ w ∧ f2 ≠ e ∧ f2 ≠ m ∧ f2 ≠ f ∧ f2 ≠ w := by
    obtain ⟨_, _, _, _, _, _, I, _, _⟩ := hE4
    obtain ⟨_, _, hw, _, _⟩ := hW4
    have x1 := hnw _ _ I.fe
    have x2 := hnw _ _ I.fm
    have x3 := hnw _ _ I.ff
    have x4 := hnw _ _ hw
    omega
  obtain ⟨a1, a2, a3, a4, b1, b2, b3, b4, c1, c2, c3, c4⟩ := d1
  refine cgo ?_
  refine g_do rfl (o_eq (c := false) (xt rfl) xc rfl ?_)
  refine cgo ?_
  refine g_do rfl (o_call (.cons (xt rfl) (.cons (xt rfl) .nil)) (same_ev hC hW5 hDk hG fun fs6 k6 => ?_))
  have hE6 := hE5.fr k6 nok
  have hW6 := hW5.fr k6 nok
  have hC6 := hC.fr k6 nok
  refine cgo ?_
  refine g_do rfl (o_call (.cons (xt rfl) (.cons xc (.cons xc .nil))) (eset_ev hC6 (by decide) fun fs7 k7 hC7 => ?_))
  have hE7 := hE6.fr k7 (k1of b1 b2 b3)
  have hW7 := hW6.fr k7 (k1w b4)
  refine cgo ?_
  refine g_do rfl (o_row (cs := [⟨#[49]⟩, ⟨#[50]⟩, ⟨#[51]⟩].map .str) (.cons xc (.cons xc (.cons xc .nil))) rfl rfl fun fr idr => ?_)
  have hE8 := hE7.fr (fs' := .row fr idr (3 * 1) :: fs7) (Fr.cons (ks := []) .refl) nok
  have hW8 := hW7.fr (fs' := .row fr idr (3 * 1) :: fs7) (Fr.cons (ks := []) .refl) nok
  have hC8 := hC7.fr (fs' := .row fr idr (3 * 1) :: fs7) (Fr.cons (ks := []) .refl) nok
  refine g_do rfl (o_call (.cons (xt rfl) (.cons (xt rfl) .nil)) (esetargs_ev (T := [⟨#[49]⟩, ⟨#[50]⟩, ⟨#[51]⟩]) hC8 (.row (s := ⟨fr, idr, 0, 1⟩) (.own .here) rfl) fun fs9 k9 hC9 => ?_))
  have hE9 := hE8.fr k9 (k1of a1 a2 a3)
  have hW9 := hW8.fr k9 (k1w a4)
  have hW9' := hW9
  obtain ⟨lw, aw, hw, _, _⟩ := hW9'
  refine cgo ?_
  refine g_do rfl (o_load (xt rfl) hw rfl ?_)
  refine cgo ?_
  refine g_do rfl (o_call (.cons (xt rfl) (.cons xc (.cons (xt rfl) .nil))) (esetflag_t (b := 101) (by decide) hC9 fun fs10 k10 hC10 => ?_))
  have hE10 := hE9.fr k10 (k1of c1 c2 c3)
  have hW10 := hW9.fr k10 (k1w c4)
  refine cgo ?_
  refine g_do rfl (o_call (.cons (xt rfl) (.cons (xt rfl) .nil)) (same_ev hE10 hW10 hDk hG fun fs11 k11 => ?_))
  refine cgo ?_
  exact ⟨trivial, _, _, .one (.tmp rfl), .refl _, rfl⟩
/-! What came in. -/
theorem clI1 : Try.prog.cellsOf 9 = 1 := by kernel_rfl
theorem clI2 : Try.prog.cellsOf 22 = 1 := by kernel_rfl
theorem len1' {u : List AV} {n : Nat} (h : u.length = n) (hn : n = 1) : ∃ x, u = [x] := by
  subst hn
  match u, h with
  | [x], _ => exact ⟨x, rfl⟩
theorem sh_var {d : Nat} (us : List AV) (h : Sh Try.prog (d + 2) 41 us) : ∃ p : PV, us = [.str p.1, .str p.2] ∧ True := by
  obtain ⟨u, r, rfl, h1, h2, u2, r2, rfl, h3, h4, rfl⟩ := sh_struct Try.underlying41 h
  obtain ⟨s, rfl, _⟩ := sh_str Try.underlying9 h2
  obtain ⟨t, rfl, _⟩ := sh_str Try.underlying9 h4
  exact ⟨(s, t), rfl, trivial⟩
theorem sh_op {d : Nat} (us : List AV) (h : Sh Try.prog (d + 3) 51 us) : ∃ o : OpD, us = opC o ∧ OpG o := by
  obtain ⟨u1, r1, rfl, l1, h1, u2, r2, rfl, l2, h2, u3, r3, rfl, l3, h3, u4, r4, rfl, l4, h4, u5, r5, rfl, l5, h5, u6, r6, rfl, l6, h6, rfl⟩ := sh_struct Try.underlying51 h
  obtain ⟨kind, rfl, _⟩ := sh_int Try.underlying3 h1
  obtain ⟨nm, rfl, _⟩ := sh_str Try.underlying9 h2
  obtain ⟨v, rfl, _⟩ := sh_str Try.underlying9 h3
  obtain ⟨av, T, rfl, ha, _, _⟩ := sh_strs Try.underlying22 Try.underlying9 clI1 h4
  obtain ⟨fl, rfl, hf⟩ := sh_int Try.underlying5 h5
  obtain ⟨on, rfl⟩ := sh_bool Try.underlying4 h6
  have hf : 0 ≤ fl ∧ fl ≤ 255 := by
    simp only [Lit.wf, Bool.and_eq_true, decide_eq_true_eq] at hf
    exact hf
  refine ⟨⟨kind, nm, v, av, T, UInt8.ofNat fl.toNat, on⟩, ?_, ha⟩
  have : ((UInt8.ofNat fl.toNat).toNat : Int) = fl := by
    rw [UInt8.toNat_ofNat', Nat.mod_eq_of_lt (by omega)]; omega
  show [AV.int .i64 kind] ++ ([.str nm] ++ ([.str v] ++ ([av] ++ ([.int .u8 fl] ++ ([.bool on] ++ []))))) = [.int .i64 kind, .str nm, .str v, av, .int .u8 ((UInt8.ofNat fl.toNat).toNat : Int), .bool on]
  rw [this]; rfl
theorem opC_sc {o : OpD} (h : OpG o) : (opC o).all scalar = true := by
  have h : RI 1 o.av (o.T.map .str) o.T.length := h
  show [AV.int .i64 o.kind, .str o.nm, .str o.v, o.av, .int .u8 o.fl.toNat, .bool o.on].all scalar = true
  exact row_sc h.sc
theorem flat_sub {α β : Type} (g : α → β) (f : β → List AV) (l : List α) : l.flatMap (fun x => f (g x)) = (l.map g).flatMap f := by
  induction l with
  | nil => rfl
  | cons a l ih => rw [List.flatMap_cons, List.map_cons, List.flatMap_cons, ih]
set_option maxRecDepth 100000 in
theorem EnvPlays_true (a0 a1 a2 : AV) (w0 : Sh Try.prog 9 38 [a0]) (w1 : Sh Try.prog 9 22 [a1]) (w2 : Sh Try.prog 9 46 [a2]) : ∃ n, (aeval sW ftab n 6 [a0, a1, a2] h0).map (·.1) = some (.bool true) := by
  obtain ⟨v0, V, e0, hV, _⟩ := sh_row (z := 2) Try.underlying38 (by kernel_rfl) (f := fun p : PV => [AV.str p.1, .str p.2]) (q := fun _ => True) sh_var (fun x => rfl) w0
  obtain ⟨v1, T, e1, hT, _⟩ := sh_strs (d := 7) Try.underlying22 Try.underlying9 clI1 w1
  obtain ⟨v2, O, e2, hO, _⟩ := sh_row (z := 6) Try.underlying46 (by kernel_rfl) (f := fun o : { o : OpD // OpG o } => opC o.1) (q := fun _ => True) (fun us h => by
    obtain ⟨o, h1, h2⟩ := sh_op us h
    exact ⟨⟨o, h2⟩, h1, trivial⟩) (fun x => opC_sc x.2) w2
  obtain rfl : a0 = v0 := by simpa using e0
  obtain rfl : a1 = v1 := by simpa using e1
  obtain rfl : a2 = v2 := by simpa using e2
  have h2 : RI 6 a2 ((O.map (·.1)).flatMap opC) (O.map (·.1)).length := by
    rw [List.length_map, ← flat_sub]; exact hO
  exact ev_true (plays_ev hV hT h2 fun o ho => by
    obtain ⟨x, _, rfl⟩ := List.mem_map.1 ho
    exact x.2)
end Go.Proofs.Ytjpmpnmjglbdiaa.EvA
