/- TreeGlobs: a pattern tells just those files that it matches, rising. -/
import Derived.Test.YthlmjpfklbocjaaGb
import Derived.Test.YthlmjpfklbocjaaEvLg
namespace Go.Proofs.Ythlmjpfklbocjaa.EvA
attribute [local irreducible] oMove oPick oBox oBuild oRow oRowZ oLoad oStore oNil oArith oEq oEqS oShr oShl oNot oNeg oConv oFn oMfn oMin oMax oCutstr oCutrow oFaddr oField oIaddr oIaddrA oIdx oExtract oLenS oLenR oLenM oAppend oCall oCallv oMap oLookup oSet oDelete kDo kDo0 kIf kEl kClr oMake oText kEnd kReg kSeq kCond kBlock kLoop kSkip kExit kRet xT xC xF kFl kIp sDo sDo0 sIf gVal
set_option linter.unusedVariables false
set_option linter.unusedSimpArgs false
set_option maxHeartbeats 4000000
section
variable {S : Sum} {F : FuncId → Option AF} {fs : List Fact} {e : Env} {L : Nat}
theorem swap_eq {s' s : Src} {cs' cs : List AV} {n : Nat} (h : s.fam ≠ 0) : swapV s.id s.pos cs.length s.size s' cs' (.row cs n s) = .row cs' n s' := by
  simp only [swapV]
  rw [if_pos ⟨trivial, trivial, trivial, trivial, h⟩]
theorem g_clr {z : ByteArray} {p n m n2 k : Nat} {kt kl : AX} {rest : KR} {cs cs2 : List AV} {s s2 : Src} {kk : IntKind} {fs' : Nat → List Fact} {Q : Env → List Fact → Prop} (hr : lk e p = some (.row cs n s)) (ht : XV e kt (.row cs2 n2 s2)) (hk : XV e kl (.int kk (k : Int)))
    (hc : s2.id = s.id ∧ s2.fam = s.fam ∧ s2.pos = s.pos + k ∧ s2.size = 1 ∧ s.size = 1 ∧ cs2.length + k = cs.length ∧ n = cs.length ∧ n2 = cs2.length ∧ k < cs.length)
    (hp : ∀ id, Put fs (.row s.fam s.id m) (.row s.fam id (s.pos + cs.length)) (fs' id))
    (h : ∀ id, (∀ f' i' e', Has fs (.row f' i' e') → i' ≠ id) → WG S F rest L ((p, .row (cs.take k ++ List.replicate (cs.length - k) (.str z)) n { s with id := id }) :: e.map fun q => (q.1, swapV s.id s.pos cs.length s.size { s with id := id } (cs.take k ++ List.replicate (cs.length - k) (.str z)) q.2)) (fs' id) Q) : WG S F (kClr z (xT p) kt kl rest) L e fs Q := by
  intro ts g0 h1 h2
  obtain ⟨c1, c2, c3, c4, c5, c6, c7, c8, c9⟩ := hc
  have hf : s.fam ≠ 0 := (h2.holds _ (hp 0).has.mem).1
  have hok : g0.ok s = true := h2.ok (hp 0).has
  have hcut : cs.take k ++ List.replicate cs2.length (AV.str z) ++ cs.drop (k + cs2.length) = cs.take k ++ List.replicate (cs.length - k) (.str z) := by
    rw [show k + cs2.length = cs.length by omega, List.drop_length, List.append_nil, show cs2.length = cs.length - k by omega]
  have hR : Rp L (ts.map (swapV s.id s.pos cs.length s.size { s with id := g0.rnext } (cs.take k ++ List.replicate (cs.length - k) (.str z)))) ((p, .row (cs.take k ++ List.replicate (cs.length - k) (.str z)) n { s with id := g0.rnext }) :: e.map fun q => (q.1, swapV s.id s.pos cs.length s.size { s with id := g0.rnext } (cs.take k ++ List.replicate (cs.length - k) (.str z)) q.2)) := by
    have key : ∀ j u, lk e j = some u → nth (ts.map (swapV s.id s.pos cs.length s.size { s with id := g0.rnext } (cs.take k ++ List.replicate (cs.length - k) (.str z)))) j = swapV s.id s.pos cs.length s.size { s with id := g0.rnext } (cs.take k ++ List.replicate (cs.length - k) (.str z)) u := by
      intro j u hj
      have := h1.2 j u hj
      rw [nth_getD, List.getD_eq_getElem?_getD] at this ⊢
      rw [List.getElem?_map]
      cases hh : ts[j]? with
      | none => rw [hh] at this; simp only [Option.getD_none] at this; subst this; rfl
      | some y => rw [hh] at this; simp only [Option.getD_some] at this; subst this; rfl
    refine ⟨by rw [List.length_map]; exact h1.1, fun j u hj => ?_⟩
    rw [lk_cons] at hj
    split at hj
    · rename_i e1; subst e1
      obtain rfl := Option.some.inj hj
      rw [key _ _ hr, swap_eq hf]
    · rw [lk_map] at hj
      obtain ⟨u0, hu, rfl⟩ := Option.map_eq_some_iff.1 hj
      exact key _ _ hu
  have hH := h2.regrow (s := s) (e := s.pos + k) (cs.length - k) (m := m) (by rw [show s.pos + k + (cs.length - k) = s.pos + cs.length by omega]; exact hp _)
  obtain ⟨ts', h'', e', fs'', k1, k2, k3, M, k4⟩ := h g0.rnext (fun f' i' e' hh => by have := (h2.holds _ hh.mem).2.2.1; omega) _ _ hR hH
  refine ⟨ts', h'', e', fs'', k1, k2, k3, M, fun n hn => ?_⟩
  have h4 := k4 n hn
  have all : (List.replicate cs2.length (AV.str z)).all scalar = true := by
    rw [List.all_eq_true]
    intro x hx
    rw [List.eq_of_mem_replicate hx]; rfl
  simp only [kClr, oClr, xt hr L ts h1, ht L ts h1, hk L ts h1, Int.toNat_natCast]
  rw [if_pos ⟨c1, c2, c3, c4, c5, c6, c7, c8, c9⟩]
  have key : oElem cs2.length (fun _ => .eptr cs k s) (fun _ => .agg (List.replicate cs2.length (.str z))) ts g0 = if s.fam ≠ 0 ∧ g0.ok s = true ∧ 0 < cs2.length ∧ (List.replicate cs2.length (AV.str z)).length = cs2.length ∧ k + cs2.length ≤ cs.length ∧ (List.replicate cs2.length (AV.str z)).all scalar = true then
    some (ts.map (swapV s.id s.pos cs.length s.size { s with id := g0.rnext } (cs.take k ++ List.replicate cs2.length (AV.str z) ++ cs.drop (k + cs2.length))), (g0.grow s (s.pos + k) (cs.length - k)).2) else none := rfl
  rw [key, if_pos ⟨hf, hok, by omega, List.length_replicate, by omega, all⟩, hcut]
  exact h4
end
variable {fs fs' : List Fact}
def pre1 (t : List UInt8) : Bool := decide ((t[0]?).map (·.toNat) = some 46)
/-- A file that a pattern leaves out. -/
def dropG (t : List UInt8) (L : List Bool) (s : List UInt8) : Bool := (pre1 s && !pre1 t) || !matchB t L s
theorem hasPre_ev {T : ByteArray} {K : KK} (h : K (.bool (pre1 T.data.toList)) fs) : Ev sW ftab 34 [.str T, .str ⟨#[46]⟩] fs K := by
  refine ev_fn (nt := 18) (kb := kb34) (kr := kr34) rfl rfl (Nat.le_of_ble_eq_true rfl) ?_
  refine cgo ?_
  refine g_do rfl (o_geq (xt rfl) (xt rfl) (fun h1 => ?_) (fun h1 => ?_))
  · have h1' : 1 ≤ T.size := by have : ((⟨#[46]⟩ : ByteArray).size : Int) = 1 := rfl; omega
    obtain ⟨y, hy⟩ := tget (T := T) (i := 0) (by omega)
    refine cgo ?_
    refine g_do rfl (o_cuts (p := 0) (q := 1) (xt rfl) .none (.some (xt rfl)) (bounds_hi ⟨by decide, by show (1 : Int) ≤ _; omega⟩) ?_)
    have e1 : T.extract 0 1 = mkT [y] := by
      rw [bytes_cut]
      cases hh : T.data.toList with
      | nil => rw [hh] at hy; cases hy
      | cons a r => rw [hh] at hy; obtain rfl := Option.some.inj hy; rfl
    rw [e1]
    refine cgo ?_
    unfold pre1 at h
    rw [hy] at h
    refine g_do rfl (o_eqs (xt rfl) (xt rfl) (fun h2 => ?_) (fun h2 => ?_))
    · refine cgo ?_
      rw [decide_eq_true (by
        have : y = 46 := by
          have := congrArg (fun s => s.data.toList) h2
          simpa using this
        subst this; rfl)] at h
      exact ⟨trivial, _, fs, .one (.tmp rfl), .refl _, h⟩
    · refine cgo ?_
      rw [decide_eq_false (by
        intro h3
        refine h2 ?_
        have : y = 46 := UInt8.toNat_inj.1 (Option.some.inj h3)
        subst this; rfl)] at h
      exact ⟨trivial, _, fs, .one (.tmp rfl), .refl _, h⟩
  · refine cgo ?_
    have h1' : T.size = 0 := by have : ((⟨#[46]⟩ : ByteArray).size : Int) = 1 := rfl; omega
    have : pre1 T.data.toList = false := by
      unfold pre1
      rw [List.getElem?_eq_none (by rw [bsz]; omega)]; rfl
    rw [this] at h
    exact ⟨trivial, _, fs, .one (.tmp rfl), .refl _, h⟩
theorem gpred_ev {T s : ByteArray} {lw : AV} {L : List Bool} {b : Nat} (hT : T.size ≤ 1000000) (hn : s.size ≤ 1000000) (h0 : 0 < s.size) (hb : Has fs (.blk b (.cells [.str T, lw]))) (hv : RV fs 1 lw (L.map .bool) L.length) {K : KK} (h : K (.bool (dropG T.data.toList L s.data.toList)) fs) : Ev sW ftab 22 [.str s, .ptr b 0] fs K := by
  refine ev_fn (nt := 19) (kb := kb22) (kr := kr22) rfl rfl (Nat.le_of_ble_eq_true rfl) ?_
  obtain ⟨y, hy⟩ := tget (T := s) (i := 0) (by omega)
  have hp : pre1 s.data.toList = decide (y.toNat = 46) := by unfold pre1; rw [hy]; exact decide_eq_decide.2 ⟨fun h => Option.some.inj h, fun h => congrArg some h⟩
  unfold dropG at h
  rw [hp] at h
  refine cgo ?_
  refine g_do rfl (o_idx (b := y) (xt rfl) xc (by omega) hy ?_)
  refine g_do rfl (o_eqi (xt rfl) xc (fun h1 => ?_) (fun h1 => ?_))
  · rw [decide_eq_true (show y.toNat = 46 by omega), Bool.true_and] at h
    refine cgo ?_
    refine g_do rfl (o_load (xt rfl) hb rfl ?_)
    refine g_if rfl ?_
    refine g_do rfl (o_call (.cons (xt rfl) (.cons xc .nil)) (ev_fn (nt := 8) (kb := kb23) (kr := kr23) rfl rfl (Nat.le_of_ble_eq_true rfl) ?_))
    refine cgo ?_
    refine g_do rfl (o_call (.cons (xt rfl) (.cons (xt rfl) .nil)) (hasPre_ev ?_))
    refine cgo ?_
    refine ⟨trivial, _, fs, .one (.tmp rfl), .refl _, ?_⟩
    cases hpt : pre1 T.data.toList with
    | true =>
      rw [hpt] at h
      refine cgo ?_
      refine g_do rfl (o_load (xt rfl) hb rfl ?_)
      refine cgo ?_
      refine g_do rfl (o_call (.cons (xt rfl) (.cons (xt rfl) .nil)) (pmatch_ev hT hn hv ?_))
      refine cgo ?_
      exact ⟨trivial, _, fs, .one (.tmp rfl), .refl _, h⟩
    | false =>
      rw [hpt] at h
      refine cgo ?_
      exact ⟨trivial, _, fs, .one (.tmp rfl), .refl _, h⟩
  · rw [decide_eq_false (show ¬ y.toNat = 46 by omega), Bool.false_and, Bool.false_or] at h
    refine cgo ?_
    refine g_do rfl (o_load (xt rfl) hb rfl ?_)
    refine cgo ?_
    refine g_do rfl (o_call (.cons (xt rfl) (.cons (xt rfl) .nil)) (pmatch_ev hT hn hv ?_))
    refine cgo ?_
    exact ⟨trivial, _, fs, .one (.tmp rfl), .refl _, h⟩
theorem g_own {S : Sum} {F : FuncId → Option AF} {L : Nat} {e : Env} {k : KR} {Q : Env → List Fact → Prop} {f id m : Nat} (hh : Has fs (.row f id m)) (h : f ≠ 0 → WG S F k L e fs Q) : WG S F k L e fs Q := fun ts h0 h1 h2 => h (h2.holds _ hh.mem).1 ts h0 h1 h2
def firstG (p : ByteArray → Bool) : List ByteArray → Nat → Int
  | [], i => -1
  | x :: r, i => if p x = true then (i : Int) else firstG p r (i + 1)
theorem firstG_none {p : ByteArray → Bool} : ∀ {l : List ByteArray} {i : Nat}, firstG p l i = -1 → ∀ x ∈ l, p x = false
  | [], i, h, x, hx => by cases hx
  | y :: r, i, h, x, hx => by
    unfold firstG at h
    split at h
    · omega
    · rename_i hp
      rcases List.mem_cons.1 hx with rfl | hx
      · simpa using hp
      · exact firstG_none h x hx
theorem firstG_some {p : ByteArray → Bool} : ∀ {l : List ByteArray} {i : Nat}, firstG p l i ≠ -1 → ∃ k, firstG p l i = ((i + k : Nat) : Int) ∧ k < l.length ∧ (l.take (k + 1)).filter (fun x => !p x) = l.take k
  | [], i, h => absurd rfl h
  | y :: r, i, h => by
    unfold firstG at h ⊢
    split at h
    · rename_i hp
      rw [if_pos hp]
      exact ⟨0, rfl, by simp, by simp [hp]⟩
    · rename_i hp
      rw [if_neg hp]
      obtain ⟨k, h1, h2, h3⟩ := firstG_some h
      refine ⟨k + 1, by rw [h1]; omega, by simp; omega, ?_⟩
      rw [List.take_succ_cons, List.filter_cons, if_pos (by simpa using hp), h3, List.take_succ_cons]
theorem set_map {l : List ByteArray} {i : Nat} {s : ByteArray} (hi : i < l.length) : (l.map AV.str).take i ++ (AV.str s).cells ++ (l.map AV.str).drop (i + 1) = (l.set i s).map .str := by
  rw [List.set_eq_take_append_cons_drop, if_pos hi, List.map_append, List.map_cons, List.map_take, List.map_drop]
  show _ ++ [_] ++ _ = _
  rw [List.append_assoc]; rfl
section
variable {T : ByteArray} {lw : AV} {L : List Bool} {b : Nat} {B : List Fact}
abbrev dG (T : ByteArray) (L : List Bool) (s : ByteArray) : Bool := dropG T.data.toList L s.data.toList
theorem idxf_loop {v : AV} {N : List ByteArray} (hT : T.size ≤ 1000000) (hN : ∀ s ∈ N, 0 < s.size ∧ s.size ≤ 1000000) (hlen : N.length ≤ 1000000) (hb : Has fs (.blk b (.cells [.str T, lw]))) (hw : RV fs 1 lw (L.map .bool) L.length) (hv : RV fs 1 v (N.map .str) N.length) {o : Int} {Q : AO → Env → List Fact → Prop}
    (hQ1 : ∀ en, o ≠ -1 → Sub en [(4, .int .i64 o)] → Q .ret en fs) (hQ2 : ∀ en, o = -1 → Q (.exit 0) en fs) :
    ∀ (r i : Nat), i + r = N.length → firstG (dG T L) (N.drop i) i = o → WL sW ftab lb33_0 19 [(0, v), (1, .fn 22 [.ptr b 0]), (7, .int .i64 N.length), (8, .int .i64 i)] fs Q
  | 0, i, hi, ho => by
    refine l_round ?_
    refine cgo ?_
    refine g_do rfl (o_lss (xt rfl) (xt rfl) (fun h => by omega) (fun h => ?_))
    refine cgo ?_
    rw [List.drop_of_length_le (by omega)] at ho
    exact hQ2 _ ho.symm
  | r + 1, i, hi, ho => by
    have hlt : i < N.length := by omega
    rw [List.drop_eq_getElem_cons hlt] at ho
    have hmem := hN N[i] (List.getElem_mem hlt)
    obtain ⟨sr, rfl, hrd, hz⟩ := hv.some (by omega)
    have hel : apart (N.map AV.str) (((i : Nat) : Int).toNat * 1) none = some (.str N[i]) := by
      simp only [apart]
      rw [show ((i : Nat) : Int).toNat * 1 = i by omega, List.getElem?_map, List.getElem?_eq_getElem hlt]; rfl
    generalize N[i] = s at ho hmem hel
    unfold firstG at ho
    refine l_round ?_
    refine cgo ?_
    refine g_do rfl (o_lss (xt rfl) (xt rfl) (fun h => ?_) (fun h => by omega))
    refine cgo ?_
    refine w_block ?_
    refine cgo ?_
    refine g_do rfl (o_iaddr (xt rfl) (xt rfl) ⟨by omega, by omega⟩ hz ?_)
    refine g_do rfl (o_loadr (v := .str s) (xt rfl) hrd hel ?_)
    refine g_do rfl (o_callf (xt rfl) (.cons (xt rfl) .nil) (gpred_ev hT hmem.2 hmem.1 hb hw ?_))
    cases hd : dG T L s with
    | true =>
      rw [hd, if_pos rfl] at ho
      have hd' : dropG T.data.toList L s.data.toList = true := hd
      rw [hd']
      refine cgo ?_
      refine hQ1 _ (by omega) ?_
      rw [← ho]; exact .cons rfl .nil
    | false =>
      rw [hd, if_neg (by simp)] at ho
      have hd' : dropG T.data.toList L s.data.toList = false := hd
      rw [hd']
      refine cgo ?_
      refine g_do rfl (o_add (xt rfl) xc (by constructor <;> omega) ?_)
      refine cgo ?_
      refine l_sub (e' := [(0, .row (N.map .str) N.length sr), (1, .fn 22 [.ptr b 0]), (7, .int .i64 N.length), (8, .int .i64 ((i + 1 : Nat) : Int))]) (.cons rfl (.cons rfl (.cons rfl (.cons rfl .nil)))) (fun _ h => h) ?_
      exact idxf_loop hT hN hlen hb hw hv hQ1 hQ2 r (i + 1) (by omega) ho
theorem idxf_ev {v : AV} {N : List ByteArray} (hT : T.size ≤ 1000000) (hN : ∀ s ∈ N, 0 < s.size ∧ s.size ≤ 1000000) (hlen : N.length ≤ 1000000) (hb : Has fs (.blk b (.cells [.str T, lw]))) (hw : RV fs 1 lw (L.map .bool) L.length) (hv : RV fs 1 v (N.map .str) N.length) {K : KK} (h : K (.int .i64 (firstG (dG T L) N 0)) fs) : Ev sW ftab 33 [v, .fn 22 [.ptr b 0]] fs K := by
  refine ev_fn (nt := 19) (kb := kb33) (kr := kr33) rfl rfl (Nat.le_of_ble_eq_true rfl) ?_
  refine cgo ?_
  refine g_do rfl (o_len (xt rfl) hv ?_)
  refine cgo ?_
  refine w_block (w_loop ?_)
  refine l_sub (e' := [(0, v), (1, .fn 22 [.ptr b 0]), (7, .int .i64 N.length), (8, .int .i64 ((0 : Nat) : Int))]) (.cons rfl (.cons rfl (.cons rfl (.cons rfl .nil)))) (fun _ h => h) ?_
  refine idxf_loop (o := firstG (dG T L) N 0) hT hN hlen hb hw hv (fun en ho hS => ?_) (fun en ho => ?_) N.length 0 (by omega) rfl
  · exact ⟨trivial, _, fs, .one (.tmp (hS.lk _ _ rfl)), .refl _, h⟩
  · refine cgo ?_
    rw [ho] at h
    exact ⟨trivial, _, fs, .one (.tmp rfl), .refl _, h⟩
theorem del_loop {N : List ByteArray} {fr : Nat} (hT : T.size ≤ 1000000) (hN : ∀ s ∈ N, 0 < s.size ∧ s.size ≤ 1000000) (hlen : N.length ≤ 1000000) (hb : Has B (.blk b (.cells [.str T, lw]))) (hw : RV B 1 lw (L.map .bool) L.length) {Q : AO → Env → List Fact → Prop}
    (hQ : ∀ (en : Env) (id : Nat) (cur : List ByteArray) (i : Nat), cur.take i = N.filter (fun s => !dG T L s) → cur.length = N.length → i < N.length → Sub en [(0, .row (cur.map .str) N.length ⟨fr, id, 0, 1⟩), (5, .int .i64 ((i : Nat) : Int))] → Q (.exit 0) en (.row fr id (N.length * 1) :: B)) :
    ∀ (r j i id : Nat) (cur : List ByteArray), j + r = N.length → i < j → cur.length = N.length → cur.take i = (N.take j).filter (fun s => !dG T L s) → cur.drop j = N.drop j →
    WL sW ftab lb21_0 42 [(0, .row (cur.map .str) N.length ⟨fr, id, 0, 1⟩), (1, .fn 22 [.ptr b 0]), (5, .int .i64 ((i : Nat) : Int)), (6, .int .i64 ((j : Nat) : Int))] (.row fr id (N.length * 1) :: B) Q
  | 0, j, i, id, cur, hj, hij, hc, ht, hd => by
    refine l_round ?_
    refine cgo ?_
    refine g_do rfl (o_lss (xt rfl) (xt rfl) (fun h => by omega) (fun h => ?_))
    refine cgo ?_
    rw [show N.take j = N from List.take_of_length_le (by omega)] at ht
    exact hQ _ id cur i ht hc (by omega) (.cons rfl (.cons rfl .nil))
  | r + 1, j, i, id, cur, hj, hij, hc, ht, hd => by
    have hlt : j < N.length := by omega
    have hmem := hN N[j] (List.getElem_mem hlt)
    have hcj : cur[j]? = some N[j] := by
      have := congrArg List.head? hd
      rw [List.head?_drop, List.head?_drop, List.getElem?_eq_getElem hlt] at this
      exact this
    have hel : apart (cur.map AV.str) (((j : Nat) : Int).toNat * 1) none = some (.str N[j]) := by
      simp only [apart]
      rw [show ((j : Nat) : Int).toNat * 1 = j by omega, List.getElem?_map, hcj]; rfl
    have htk : N.take (j + 1) = N.take j ++ [N[j]] := by rw [List.take_add_one, List.getElem?_eq_getElem hlt]; rfl
    have hd1 : cur.drop (j + 1) = N.drop (j + 1) := by
      have := congrArg List.tail hd
      rw [List.tail_drop, List.tail_drop] at this; exact this
    generalize N[j] = s at hmem hcj hel htk
    refine l_round ?_
    refine cgo ?_
    refine g_do rfl (o_lss (xt rfl) (xt rfl) (fun h => ?_) (fun h => by omega))
    refine cgo ?_
    refine w_block ?_
    refine cgo ?_
    refine g_do rfl (o_iaddr (xt rfl) (xt rfl) ⟨by omega, by omega⟩ rfl ?_)
    refine g_do rfl (o_loadr (v := .str s) (xt rfl) (.own .here) hel ?_)
    refine cgo ?_
    refine g_do rfl (o_callf (xt rfl) (.cons (xt rfl) .nil) (gpred_ev hT hmem.2 hmem.1 (.there hb) hw.cons ?_))
    cases hds : dropG T.data.toList L s.data.toList with
    | true =>
      have hds' : dG T L s = true := hds
      refine cgo ?_
      refine g_do rfl (o_add (xt rfl) xc (by constructor <;> omega) ?_)
      refine cgo ?_
      refine l_sub (e' := [(0, .row (cur.map .str) N.length ⟨fr, id, 0, 1⟩), (1, .fn 22 [.ptr b 0]), (5, .int .i64 ((i : Nat) : Int)), (6, .int .i64 ((j + 1 : Nat) : Int))]) (.cons rfl (.cons rfl (.cons rfl (.cons rfl .nil)))) (fun _ h => h) ?_
      exact del_loop hT hN hlen hb hw hQ r (j + 1) i id cur (by omega) (by omega) hc (by rw [ht, htk, List.filter_append]; simp [hds']) hd1
    | false =>
      have hds' : dG T L s = false := hds
      refine cgo ?_
      refine g_do rfl (o_iaddr (xt rfl) (xt rfl) ⟨by omega, by omega⟩ rfl ?_)
      rw [show ((i : Nat) : Int).toNat * 1 = i by omega]
      have hl : (cur.map AV.str).length = N.length := by rw [List.length_map, hc]
      refine g_el2 (k := 0) (m := N.length * 1) (fs' := fun id' => .row fr id' (0 + (cur.map AV.str).length) :: B) (xt rfl) (xt rfl) rfl rfl (by decide) (by rw [hl]; omega) rfl (fun _ => .here) fun id' hfresh => ?_
      rw [hl, show 0 + N.length = N.length * 1 by omega]
      show WG sW ftab _ 42 ((0, .row ((cur.map AV.str).take i ++ (AV.str s).cells ++ (cur.map AV.str).drop (i + 1)) N.length ⟨fr, id', 0, 1⟩) :: _) _ _
      rw [set_map (by omega)]
      refine cgo ?_
      refine g_do rfl (o_add (xt rfl) xc (by constructor <;> omega) ?_)
      refine cgo ?_
      refine g_do rfl (o_add (xt rfl) xc (by constructor <;> omega) ?_)
      refine cgo ?_
      refine l_sub (e' := [(0, .row ((cur.set i s).map .str) N.length ⟨fr, id', 0, 1⟩), (1, .fn 22 [.ptr b 0]), (5, .int .i64 ((i + 1 : Nat) : Int)), (6, .int .i64 ((j + 1 : Nat) : Int))]) (.cons rfl (.cons rfl (.cons rfl (.cons rfl .nil)))) (fun _ h => h) ?_
      refine del_loop hT hN hlen hb hw hQ r (j + 1) (i + 1) id' (cur.set i s) (by omega) (by omega) (by rw [List.length_set, hc]) ?_ ?_
      · rw [List.take_add_one, List.getElem?_set_self (by omega), List.take_set_of_le (Nat.le_refl _), ht, htk, List.filter_append]
        simp [hds']
      · rw [List.drop_set_of_lt (by omega)]; exact hd1
/-- What a pattern does not leave out. -/
theorem delf_ev {v : AV} {N : List ByteArray} {d : List Fact} (hT : T.size ≤ 1000000) (hN : ∀ s ∈ N, 0 < s.size ∧ s.size ≤ 1000000) (hlen : N.length ≤ 1000000) (hb : Has B (.blk b (.cells [.str T, lw]))) (hw : RV B 1 lw (L.map .bool) L.length) (hA : AR 1 v (N.map .str) N.length d) {K : KK}
    (h : ∀ v' d', RV (d' ++ B) 1 v' ((N.filter (fun s => !dG T L s)).map .str) (N.filter (fun s => !dG T L s)).length → K v' (d' ++ B)) : Ev sW ftab 21 [v, .fn 22 [.ptr b 0]] (d ++ B) K := by
  refine ev_fn (nt := 42) (kb := kb21) (kr := kr21) rfl rfl (Nat.le_of_ble_eq_true rfl) ?_
  refine cgo ?_
  refine g_do rfl (o_call (.cons (xt rfl) (.cons (xt rfl) .nil)) (idxf_ev hT hN hlen (Has.app hb) (RV.app hw) (RV.of hA) ?_))
  by_cases hf : firstG (dG T L) N 0 = -1
  · rw [hf]
    refine cgo ?_
    refine g_do rfl (o_eqi (xt rfl) xc (fun _ => ?_) (fun h => absurd rfl h))
    refine cgo ?_
    have hall : N.filter (fun s => !dG T L s) = N := List.filter_eq_self.2 fun x hx => by rw [firstG_none hf x hx]; rfl
    rw [hall] at h
    exact ⟨trivial, _, d ++ B, .one (.tmp rfl), .refl _, h v d (RV.of hA)⟩
  · obtain ⟨k, h1, h2, h3⟩ := firstG_some hf
    rw [Nat.zero_add] at h1
    rw [h1]
    rcases hA.inv with ⟨rfl, h4, h5, rfl⟩ | ⟨fr, id, hne, rfl, rfl⟩
    · omega
    refine cgo ?_
    refine g_do rfl (o_eqi (xt rfl) xc (fun h => absurd h (by omega)) (fun _ => ?_))
    refine cgo ?_
    refine g_do rfl (o_add (xt rfl) xc (by constructor <;> omega) ?_)
    refine cgo ?_
    refine w_block (w_loop ?_)
    refine l_sub (e' := [(0, .row (N.map .str) N.length ⟨fr, id, 0, 1⟩), (1, .fn 22 [.ptr b 0]), (5, .int .i64 ((k : Nat) : Int)), (6, .int .i64 ((k + 1 : Nat) : Int))]) (fs' := .row fr id (N.length * 1) :: B) (.cons rfl (.cons rfl (.cons rfl (.cons rfl .nil)))) (fun _ h => h) ?_
    refine del_loop hT hN hlen hb hw (fun en id cur i hti hc hi hS => ?_) (N.length - (k + 1)) (k + 1) k id N (by omega) (by omega) rfl h3.symm rfl
    refine w_sub hS (fun _ h => h) ?_
    refine cgo ?_
    refine g_own .here fun hfr => ?_
    have hl : (cur.map AV.str).length = N.length := by rw [List.length_map, hc]
    refine g_do rfl (o_cutr (xt rfl) (.own .here) rfl (.some (xt rfl)) .none (bounds_lo ⟨by omega, by omega⟩) ?_)
    refine g_clr (p := 36) (n := N.length) (s := ⟨fr, id, 0, 1⟩) (cs := cur.map .str) (k := i) (m := N.length * 1) (fs' := fun id' => .row fr id' (0 + (cur.map AV.str).length) :: B) rfl (xt rfl) (xt rfl) ?_ (fun _ => .here) fun id' hfresh => ?_
    · have ha : ∀ q, Src.adv ⟨fr, id, 0, 1⟩ q = ⟨fr, id, 0 + q, 1⟩ := fun q => by
        cases fr with
        | zero => exact absurd rfl hfr
        | succ f => rfl
      rw [ha]
      refine ⟨rfl, rfl, by show 0 + ((i : Nat) : Int).toNat * 1 = 0 + i; omega, rfl, rfl, ?_, hl.symm, ?_, by omega⟩
      · rw [List.length_take, List.length_drop, hl]; omega
      · rw [List.length_take, List.length_drop, hl]; omega
    have hsw := fun (s' : Src) (cs' : List AV) => swap_eq (s' := s') (cs' := cs') (s := ⟨fr, id, 0, 1⟩) (cs := cur.map AV.str) (n := N.length) hfr
    rw [hl] at hsw
    rw [hl, show 0 + N.length = N.length * 1 by omega]
    refine g_sub (e' := [(0, .row ((cur.map AV.str).take i ++ List.replicate (N.length - i) (.str ⟨#[]⟩)) N.length ⟨fr, id', 0, 1⟩), (5, .int .i64 ((i : Nat) : Int))]) (.cons (congrArg some (hsw _ _)) (.cons rfl .nil)) (fun _ h => h) ?_
    refine cgo ?_
    refine g_do rfl (o_cutr (xt rfl) (.own .here) rfl .none (.some (xt rfl)) (bounds_hi ⟨by omega, by omega⟩) ?_)
    refine cgo ?_
    refine ⟨trivial, _, _, .one (.tmp rfl), .refl _, h _ [.row fr id' (N.length * 1)] ?_⟩
    have e1 : (((cur.map AV.str).take i ++ List.replicate (N.length - i) (AV.str ⟨#[]⟩)).drop (0 * 1)).take ((((i : Nat) : Int).toNat - 0) * 1) = (N.filter (fun s => !dG T L s)).map .str := by
      rw [Nat.zero_mul, List.drop_zero, show (((i : Nat) : Int).toNat - 0) * 1 = i by omega, List.take_append_of_le_length (by rw [List.length_take, hl]; omega), List.take_take, Nat.min_self, ← List.map_take, hti]
    have e2 : ((i : Nat) : Int).toNat - 0 = (N.filter (fun s => !dG T L s)).length := by
      rw [← hti, List.length_take, hc]; omega
    rw [e1, e2]
    have hrd : Rd (.row fr id' (N.length * 1) :: B) ⟨fr, id', 0, 1⟩ := .own .here
    exact .row (hrd.adv _) (by rw [adv_size])
end
/-- No keys: no row. -/
theorem sorted0_ev {S : Sum} {F : FuncId → Option AF} {f K1 : FuncId} {i j c : Nat} {es : List (AV × AV × Nat)} (hS : S f = some (sortO K1)) (hi : Has fs (.blk i (.cells [.map j]))) (hj : Has fs (.blk j (.map es c))) (hk : keysOf es = some []) (hok : mapOkB es c [] = true) {K : KK}
    (h : K .nilrow fs) : Ev S F f [.fn K1 [.ptr i 0]] fs K :=
  ev_sum hS fun h1 h2 => ⟨_, _, _, h2, h, by
    unfold sortO
    simp only [if_true, h2.get hi, h2.get hj, hk]
    rw [if_pos hok]; rfl⟩
/-! Names; those that a pattern tells. -/
def sortB (ks : List ByteArray) : List ByteArray := (sortK ks).map fun l => ⟨l.toArray⟩
theorem sortB_len (ks : List ByteArray) : (sortB ks).length = ks.length := by unfold sortB sortK; rw [List.length_map, List.length_mergeSort, List.length_map]
theorem sortB_mem {ks : List ByteArray} {s : ByteArray} : s ∈ sortB ks ↔ s ∈ ks := by
  unfold sortB sortK
  rw [List.mem_map]
  constructor
  · rintro ⟨l, hl, rfl⟩
    obtain ⟨x, hx, rfl⟩ := List.mem_map.1 ((List.mergeSort_perm _ _).mem_iff.1 hl)
    exact hx
  · intro hs
    exact ⟨s.data.toList, (List.mergeSort_perm _ _).mem_iff.2 (List.mem_map.2 ⟨s, hs, rfl⟩), rfl⟩
theorem names_ev {i j c : Nat} {es : List (AV × AV × Nat)} {ks : List ByteArray} (hi : Has fs (.blk i (.cells [.map j]))) (hj : Has fs (.blk j (.map es c))) (hm : MapF es c ks) {K : KK} (h : ∀ b v d, AR 1 v ((sortB ks).map .str) (sortB ks).length d → K v (d ++ .blk b (.cells [.map j]) :: fs)) : Ev sW ftab 10 [.ptr i 0] fs K := by
  by_cases h0 : ks = []
  · subst h0
    refine ev_fn (nt := 9) (kb := kb10) (kr := kr10) rfl rfl (Nat.le_of_ble_eq_true rfl) ?_
    refine cgo ?_
    refine g_do rfl (o_load (xt rfl) hi rfl ?_)
    refine g_do rfl (o_call (.cons (xt rfl) .nil) (ev_fn (nt := 4) (kb := kb26) (kr := kr26) rfl rfl (Nat.le_of_ble_eq_true rfl) ?_))
    refine w_rs (g_do rfl (o_box (xt rfl) rfl fun b => ?_))
    refine cgo ?_
    refine g_do rfl (o_fn (.cons (xt rfl) .nil) ?_)
    refine cgo ?_
    refine ⟨trivial, _, _, .one (.tmp rfl), .refl _, ?_⟩
    refine g_do rfl (o_call (.cons (xt rfl) .nil) (sorted0_ev rfl .here (.there hj) hm.ok.keys (mapOk_B hm.ok) ?_))
    refine cgo ?_
    exact ⟨trivial, _, _, .one (.tmp rfl), .refl _, h b .nilrow [] (by rw [show sortB [] = [] by simp [sortB, sortK]]; exact .nil)⟩
  · refine tnames_ev hi hj hm h0 fun b f id => ?_
    have h1 := h b (.row ((sortB ks).map .str) (sortB ks).length ⟨f, id, 0, 1⟩) [.row f id ((sortB ks).length * 1)] (.own (by rw [sortB_len]; exact fun h => h0 (List.eq_nil_of_length_eq_zero h)))
    rw [sortB_len] at h1
    have e1 : (sortB ks).map AV.str = (sortK ks).map fun l => .str ⟨l.toArray⟩ := by unfold sortB; rw [List.map_map]; rfl
    rw [e1] at h1
    exact h1
/-- The files that a pattern tells. -/
def toldG (T : ByteArray) (L : List Bool) (ks : List ByteArray) : List ByteArray := (sortB ks).filter fun s => !dG T L s
theorem tglob_ev {T : ByteArray} {lw : AV} {L : List Bool} {i j c : Nat} {es : List (AV × AV × Nat)} {ks : List ByteArray} (hT : T.size ≤ 1000000) (hi : Has fs (.blk i (.cells [.map j]))) (hj : Has fs (.blk j (.map es c))) (hm : MapF es c ks) (hks : ks.length ≤ 1000000) (hok : ∀ s ∈ ks, 0 < s.size ∧ s.size ≤ 1000000) (hw : RV fs 1 lw (L.map .bool) L.length) {K : KK}
    (h : ∀ v d b b2, RV (d ++ (.blk b2 (.cells [.map j]) :: .blk b (.cells [.str T, lw]) :: fs)) 1 v ((toldG T L ks).map .str) (toldG T L ks).length → K v (d ++ (.blk b2 (.cells [.map j]) :: .blk b (.cells [.str T, lw]) :: fs))) : Ev sW ftab 9 [.ptr i 0, .agg [.str T, lw]] fs K := by
  refine ev_fn (nt := 9) (kb := kb9) (kr := kr9) rfl rfl (Nat.le_of_ble_eq_true rfl) ?_
  refine cgo ?_
  refine g_do rfl (o_box (xt rfl) rfl fun b => ?_)
  refine cgo ?_
  refine g_do rfl (o_call (.cons (xt rfl) .nil) (names_ev (.there hi) (.there hj) hm fun b2 v d hA => ?_))
  refine g_do rfl (o_fn (.cons (xt rfl) .nil) ?_)
  refine g_do rfl (o_call (.cons (xt rfl) (.cons (xt rfl) .nil)) (delf_ev (b := b) hT (fun s hs => hok s (sortB_mem.1 hs)) (by rw [sortB_len]; exact hks) (.there .here) hw.cons.cons hA fun v' d' hv => ?_))
  refine cgo ?_
  exact ⟨trivial, _, _, .one (.tmp rfl), .refl _, h v' d' b b2 hv⟩
theorem go_plain {t s : List UInt8} : ∀ (r i : Nat) (g : Nat → Bool) (j : Nat), i + r = t.length → j ≤ s.length → goB t [] s r i g j = (decide (r ≤ j) && (g (j - r) && decide ((s.drop (j - r)).take r = t.drop i)))
  | 0, i, g, j, hi, hj => by
    rw [List.drop_of_length_le (show t.length ≤ i by omega)]
    simp [goB]
  | r + 1, i, g, j, hi, hj => by
    have hlt : i < t.length := by omega
    have hb : ∀ k c, isB t [] k c = false := fun k c => by unfold isB lvB; simp
    have hk : brk t [] i = none := by unfold brk; rw [hb, if_neg (by simp)]
    have hst : stepB t [] s i g = oneUp (eqAt t i) s g := by
      have ht : takeB t [] i = eqAt t i := by
        funext c
        unfold takeB
        rw [hb, if_neg (by simp), hk]
      unfold stepB
      rw [hb, if_neg (by simp), ht]
    unfold goB
    rw [if_pos hlt, nextB_is hk, hst, go_plain r (i + 1) _ j (by omega) hj]
    by_cases h1 : r + 1 ≤ j
    · obtain ⟨p, hp⟩ : ∃ p, j - r = p + 1 := ⟨j - r - 1, by omega⟩
      have hps : p < s.length := by omega
      rw [hp, show j - (r + 1) = p by omega, decide_eq_true (show r ≤ j by omega), decide_eq_true h1, Bool.true_and, Bool.true_and]
      show ((match s[p]? with | some b => g p && eqAt t i b.toNat | none => false) && _) = _
      rw [List.getElem?_eq_getElem hps, List.drop_eq_getElem_cons hps, List.drop_eq_getElem_cons hlt, List.take_succ_cons]
      simp only
      rw [Bool.and_assoc]
      congr 1
      unfold eqAt
      rw [List.getElem?_eq_getElem hlt, ← Bool.decide_and]
      refine decide_eq_decide.2 ⟨fun ⟨h2, h3⟩ => ?_, fun h2 => ?_⟩
      · rw [h3, UInt8.toNat_inj.1 (Option.some.inj h2)]
      · injection h2 with h3 h4
        exact ⟨by rw [h3]; rfl, h4⟩
    · rw [decide_eq_false h1, Bool.false_and]
      by_cases h2 : r ≤ j
      · have : j - r = 0 := by omega
        rw [this]
        simp [oneUp]
      · rw [decide_eq_false h2, Bool.false_and]
theorem match_plain (t s : List UInt8) : matchB t [] s = decide (s = t) := by
  unfold matchB
  rw [go_plain t.length 0 _ s.length (by omega) (Nat.le_refl _), List.drop_zero, ← Bool.decide_and, ← Bool.decide_and]
  refine decide_eq_decide.2 ⟨fun ⟨h1, h2, h3⟩ => ?_, fun h => ?_⟩
  · rw [show s.length - t.length = 0 by omega, List.drop_zero, List.take_of_length_le (by omega)] at h3; exact h3
  · subst h; simp
def lives (n : Nat) : List Bool := List.replicate n true
theorem live_loop {s : ByteArray} {x2 x3 : Nat} (hs : s.size ≤ 1000000) {Q : AO → Env → List Fact → Prop}
    (hQ : ∀ en lw d, AR 1 lw ((lives s.size).map .bool) s.size d → Sub en [(2, .ptr x2 0), (3, .ptr x3 0)] → Q (.exit 0) en (d ++ .blk x3 (.cells [.str s, lw]) :: .blk x2 (.cells [.str ⟨#[]⟩, .nilrow]) :: fs)) :
    ∀ (r i : Nat) (lw : AV) (d : List Fact), i + r = s.size → AR 1 lw ((lives i).map .bool) i d →
    WL sW ftab lb8_0 19 [(0, .str s), (2, .ptr x2 0), (3, .ptr x3 0), (4, .int .i64 i)] (d ++ .blk x3 (.cells [.str s, lw]) :: .blk x2 (.cells [.str ⟨#[]⟩, .nilrow]) :: fs) Q
  | 0, i, lw, d, hi, hA => by
    refine l_round ?_
    refine cgo ?_
    refine g_do rfl (o_lss (xt rfl) (xt rfl) (fun h => by omega) (fun h => ?_))
    refine cgo ?_
    obtain rfl : i = s.size := by omega
    exact hQ _ lw d hA (.cons rfl (.cons rfl .nil))
  | r + 1, i, lw, d, hi, hA => by
    refine l_round ?_
    refine cgo ?_
    refine g_do rfl (o_lss (xt rfl) (xt rfl) (fun h => ?_) (fun h => by omega))
    refine cgo ?_
    refine w_block ?_
    rcases hA.inv with ⟨rfl, _, rfl, rfl⟩ | ⟨f, id, hne, rfl, rfl⟩
    · show WC sW ftab _ 19 _ (.blk x3 (.cells [.str s, .nilrow]) :: .blk x2 (.cells [.str ⟨#[]⟩, .nilrow]) :: fs) _
      refine cgo ?_
      refine g_do rfl (o_row (cs := [.bool true]) (.cons xc .nil) rfl rfl fun f0 id0 => ?_)
      refine g_do rfl (o_appn (xt rfl) (.own (xt rfl) .here rfl) rfl (by decide) ⟨by decide, by decide⟩ fun f1 id1 => ?_)
      refine cgo ?_
      refine g_do rfl (o_add (xt rfl) xc (by constructor <;> omega) ?_)
      refine cgo ?_
      refine l_sub (fs' := [.row f1 id1 (1 * 1)] ++ .blk x3 (.cells [.str s, .row [.bool true] 1 ⟨f1, id1, 0, 1⟩]) :: .blk x2 (.cells [.str ⟨#[]⟩, .nilrow]) :: fs) (e' := [(0, .str s), (2, .ptr x2 0), (3, .ptr x3 0), (4, .int .i64 ((1 : Nat) : Int))]) (.cons rfl (.cons rfl (.cons rfl (.cons rfl .nil)))) (fun _ h => h.mono (.cons_cons _ (.cons _ (.refl _)))) ?_
      exact live_loop hs hQ r 1 _ _ (by omega) (.own (by decide))
    · show WC sW ftab _ 19 _ (.row f id (i * 1) :: .blk x3 (.cells [.str s, .row ((lives i).map .bool) i ⟨f, id, 0, 1⟩]) :: .blk x2 (.cells [.str ⟨#[]⟩, .nilrow]) :: fs) _
      refine cgo ?_
      refine g_do rfl (o_row (cs := [.bool true]) (.cons xc .nil) rfl rfl fun f0 id0 => ?_)
      refine g_do rfl (o_appo (fs' := fun id' => .row f0 id0 (1 * 1) :: .row f id' (0 + i * 1 + 1 * 1) :: .blk x3 (.cells [.str s, .row ((lives i).map .bool) i ⟨f, id, 0, 1⟩]) :: .blk x2 (.cells [.str ⟨#[]⟩, .nilrow]) :: fs) (xt rfl) (.own (xt rfl) .here rfl) rfl (by decide) ⟨by omega, by omega⟩ rfl (fun id' => .there .here) fun id1 => ?_)
      refine cgo ?_
      refine g_do rfl (o_add (xt rfl) xc (by constructor <;> omega) ?_)
      refine cgo ?_
      refine l_sub (fs' := [.row f id1 ((i + 1) * 1)] ++ .blk x3 (.cells [.str s, .row ((lives i).map AV.bool ++ [.bool true]) (i + 1) ⟨f, id1, 0, 1⟩]) :: .blk x2 (.cells [.str ⟨#[]⟩, .nilrow]) :: fs) (e' := [(0, .str s), (2, .ptr x2 0), (3, .ptr x3 0), (4, .int .i64 ((i + 1 : Nat) : Int))]) (.cons rfl (.cons rfl (.cons rfl (.cons rfl .nil)))) (fun _ h => ?_) ?_
      · have h1 := h.mono (.cons _ (.refl _))
        rw [show 0 + i * 1 + 1 * 1 = (i + 1) * 1 by omega] at h1
        exact h1
      refine live_loop hs hQ r (i + 1) _ _ (by omega) ?_
      have := AR.own (size := 1) (cs := (lives (i + 1)).map AV.bool) (n := i + 1) (f := f) (id := id1) (by omega)
      have e1 : (lives (i + 1)).map AV.bool = (lives i).map AV.bool ++ [.bool true] := by unfold lives; rw [List.replicate_succ', List.map_append]; rfl
      rw [e1] at this ⊢
      exact this
theorem live_ev {s : ByteArray} (hs : s.size ≤ 1000000) {K : KK} (h : ∀ lw d, AR 1 lw ((lives s.size).map .bool) s.size d → K (.agg [.str s, lw]) (d ++ fs)) : Ev sW ftab 8 [.str s] fs K := by
  refine ev_fn (nt := 19) (kb := kb8) (kr := kr8) rfl rfl (Nat.le_of_ble_eq_true rfl) ?_
  refine cgo ?_
  refine g_do rfl (o_box xc rfl fun x2 => ?_)
  refine cgo ?_
  refine g_do rfl (o_box xc rfl fun x3 => ?_)
  refine cgo ?_
  refine w_block (w_loop ?_)
  refine l_sub (fs' := [] ++ .blk x3 (.cells [.str s, .nilrow]) :: .blk x2 (.cells [.str ⟨#[]⟩, .nilrow]) :: fs) (e' := [(0, .str s), (2, .ptr x2 0), (3, .ptr x3 0), (4, .int .i64 ((0 : Nat) : Int))]) (.cons rfl (.cons rfl (.cons rfl (.cons rfl .nil)))) (fun _ h => h) ?_
  refine live_loop hs (fun en lw d hA hS => ?_) s.size 0 .nilrow [] (by omega) .nil
  have hx3 : Has (d ++ .blk x3 (.cells [.str s, lw]) :: .blk x2 (.cells [.str ⟨#[]⟩, .nilrow]) :: fs) (.blk x3 (.cells [.str s, lw])) := Has.app .here
  refine w_sub hS (fun _ h => h) ?_
  refine cgo ?_
  refine g_do rfl (o_load (xt rfl) hx3 rfl ?_)
  refine g_do0 (o_store (xt rfl) (xt rfl) (Put.app (.there .here)) ⟨rfl, (Nat.le_of_ble_eq_true rfl)⟩ (by show (EvA.scalar lw && _) = true; rw [hA.scalar]; rfl) rfl ?_)
  refine cgo ?_
  exact ⟨trivial, _, d ++ fs, .one (.cell rfl (Has.app (.there .here)) rfl), (List.Sublist.refl d).append (.cons _ (.cons _ (.refl _))), h lw d hA⟩
theorem o_ges {S : Sum} {F : FuncId → Option AF} {e : Env} {x y : AX} {a b : ByteArray} {K : KK} (hx : XV e x (.str a)) (hy : XV e y (.str b)) (h : K (.bool (!decide (a.data.toList < b.data.toList))) fs) : WO S F (oArith .geq x y) e fs K :=
  o_arith hx hy (by simp only [aarith, bytesLess_eq, ByteArray.toList_eq]) h
theorem sortB_up {ks : List ByteArray} (h : (ks.map fun s => s.data.toList).Nodup) : (sortB ks).Pairwise fun a b => a.data.toList < b.data.toList := by
  have h1 : (sortK ks).Pairwise (· ≤ ·) := by rw [← sortI_eq]; exact sortI_le _
  have h2 : (sortK ks).Nodup := (List.mergeSort_perm _ _).nodup_iff.2 h
  unfold sortB
  rw [List.pairwise_map]
  rw [List.nodup_iff_pairwise_ne] at h2
  refine (h1.and h2).imp fun {a b} hab => ?_
  show a < b
  by_cases hl : a < b
  · exact hl
  · exact absurd (List.le_antisymm hab.1 (List.not_lt.1 hl)) hab.2
theorem up_nodup {l : List ByteArray} (h : l.Pairwise fun a b => a.data.toList < b.data.toList) : l.Nodup := by
  rw [List.nodup_iff_pairwise_ne]
  refine h.imp fun {a b} hab e => ?_
  subst e
  exact List.lt_irrefl _ hab
theorem addK_ok {ks : List ByteArray} {s x : ByteArray} (h : x ∈ addK ks s) : x ∈ ks ∨ okS x = true := by
  unfold addK at h
  split at h
  · rename_i hok
    split at h
    · exact Or.inl h
    · split at h
      · exact Or.inl h
      · rcases List.mem_append.1 h with h | h
        · exact Or.inl h
        · rw [List.mem_singleton.1 h]; exact Or.inr hok
  · exact Or.inl h
theorem foldK_ok : ∀ (T ks : List ByteArray), (∀ x ∈ ks, okS x = true) → ∀ x ∈ T.foldl addK ks, okS x = true
  | [], ks, h, x, hx => h x hx
  | a :: T, ks, h, x, hx => foldK_ok T (addK ks a) (fun y hy => (addK_ok hy).elim (h y) id) x hx
theorem foldK_len : ∀ (T ks : List ByteArray), ks.length ≤ 200 → (T.foldl addK ks).length ≤ 200
  | [], ks, h => h
  | a :: T, ks, h => foldK_len T _ (addK_len h)
theorem okS_size {s : ByteArray} (h : okS s = true) : 0 < s.size ∧ s.size ≤ 1000000 := by
  have := of_decide_eq_true h
  omega
theorem filt_one {α : Type} {l : List α} {p : α → Bool} {a : α} (hn : l.Nodup) (hp : ∀ x, p x = true ↔ x = a) : (a ∈ l → l.filter p = [a]) ∧ (a ∉ l → l.filter p = []) := by
  induction l with
  | nil => exact ⟨fun h => (by cases h), fun _ => rfl⟩
  | cons x r ih =>
    rw [List.nodup_cons] at hn
    obtain ⟨i1, i2⟩ := ih hn.2
    by_cases hx : x = a
    · subst hx
      exact ⟨fun _ => by rw [List.filter_cons, if_pos ((hp x).2 rfl), i2 hn.1], fun h => absurd (List.mem_cons_self ..) h⟩
    · have : ¬ p x = true := fun h => hx ((hp x).1 h)
      rw [List.filter_cons, if_neg this]
      exact ⟨fun h => i1 ((List.mem_cons.1 h).resolve_left (fun e => hx e.symm)), fun h => i2 fun hm => h (List.mem_cons_of_mem _ hm)⟩
theorem plain_told {T : ByteArray} {ks : List ByteArray} (h : (ks.map fun s => s.data.toList).Nodup) : (T ∈ ks → toldG T [] ks = [T]) ∧ (T ∉ ks → toldG T [] ks = []) := by
  have hp : ∀ x : ByteArray, (!dG T [] x) = true ↔ x = T := fun x => by
    unfold dG dropG
    rw [match_plain]
    constructor
    · intro hh
      simp only [Bool.not_or, Bool.and_eq_true, Bool.not_not, decide_eq_true_eq] at hh
      exact ByteArray.ext (Array.ext' hh.2)
    · rintro rfl
      simp
  have h1 := filt_one (up_nodup (sortB_up h)) hp
  exact ⟨fun hm => h1.1 (sortB_mem.2 hm), fun hm => h1.2 fun h => hm (sortB_mem.1 h)⟩
/-- The law's own loop. -/
theorem glob_loop {raw : ByteArray} {lw gv av : AV} {L : List Bool} {N : List ByteArray} {i6 x7 : Nat} (hr : 0 < raw.size ∧ raw.size ≤ 1000000) (hN : ∀ s ∈ N, 0 < s.size ∧ s.size ≤ 1000000) (hlen : N.length ≤ 1000000) (hup : N.Pairwise fun a b => a.data.toList < b.data.toList)
    (hx : Has fs (.blk x7 (.cells [.str raw, lw]))) (hw : RV fs 1 lw (L.map .bool) L.length) (ha : RV fs 1 av (N.map .str) N.length) (hg : RV fs 1 gv ((N.filter fun s => !dG raw L s).map .str) (N.filter fun s => !dG raw L s).length) {Q : AO → Env → List Fact → Prop}
    (hQ : ∀ en, Sub en [(1, .str raw), (6, .ptr i6 0), (8, gv), (10, .int .i64 ((N.filter fun s => !dG raw L s).length : Int))] → Q (.exit 2) en fs) :
    ∀ (r q : Nat), q + r = N.length → WL sW ftab lb3_1 147 [(1, .str raw), (6, .ptr i6 0), (7, .ptr x7 0), (8, gv), (9, av), (10, .int .i64 (((N.take q).filter fun s => !dG raw L s).length : Int)), (11, .int .i64 q)] fs Q
  | 0, q, hq => by
    refine l_round ?_
    refine cgo ?_
    refine g_do rfl (o_len (xt rfl) ha ?_)
    refine g_do rfl (o_lss (xt rfl) (xt rfl) (fun h => by omega) (fun h => ?_))
    refine cgo ?_
    rw [show N.take q = N from List.take_of_length_le (by omega)]
    exact hQ _ (.cons rfl (.cons rfl (.cons rfl (.cons rfl .nil))))
  | r + 1, q, hq => by
    have hlt : q < N.length := by omega
    have hmem := hN N[q] (List.getElem_mem hlt)
    have hel : apart (N.map AV.str) (((q : Nat) : Int).toNat * 1) none = some (.str N[q]) := by
      simp only [apart]
      rw [show ((q : Nat) : Int).toNat * 1 = q by omega, List.getElem?_map, List.getElem?_eq_getElem hlt]; rfl
    have htk : N.take (q + 1) = N.take q ++ [N[q]] := by rw [List.take_add_one, List.getElem?_eq_getElem hlt]; rfl
    have hsplit : N = N.take q ++ N[q] :: N.drop (q + 1) := by rw [← List.drop_eq_getElem_cons hlt, List.take_append_drop]
    have hprev : ∀ p, p + 1 = q → ∃ u, N[p]? = some u ∧ u.data.toList < N[q].data.toList := fun p hp => by
      refine ⟨N[p], List.getElem?_eq_getElem (by omega), ?_⟩
      exact List.pairwise_iff_getElem.1 hup p q (by omega) hlt (by omega)
    generalize N[q] = s at hmem hel htk hsplit hprev
    obtain ⟨y, hy⟩ := tget (T := s) (i := 0) (by omega)
    obtain ⟨z, hz⟩ := tget (T := raw) (i := 0) (by omega)
    have hps : pre1 s.data.toList = decide (y.toNat = 46) := by unfold pre1; rw [hy]; exact decide_eq_decide.2 ⟨fun h => Option.some.inj h, fun h => congrArg some h⟩
    have hpr : pre1 raw.data.toList = decide (z.toNat = 46) := by unfold pre1; rw [hz]; exact decide_eq_decide.2 ⟨fun h => Option.some.inj h, fun h => congrArg some h⟩
    have hdg : dG raw L s = ((decide (y.toNat = 46) && !decide (z.toNat = 46)) || !matchB raw.data.toList L s.data.toList) := by show dropG _ _ _ = _; unfold dropG; rw [hps, hpr]
    obtain ⟨sr, rfl, hrd, hz1⟩ := ha.some (by omega)
    have skip : dG raw L s = true → ∀ en, Sub en [(1, .str raw), (6, .ptr i6 0), (7, .ptr x7 0), (8, gv), (9, .row (N.map .str) N.length sr), (10, .int .i64 (((N.take q).filter fun s => !dG raw L s).length : Int)), (11, .int .i64 ((q + 1 : Nat) : Int))] → WL sW ftab lb3_1 147 en fs Q := fun hd en hS => by
      have e1 : ((N.take (q + 1)).filter fun s => !dG raw L s) = (N.take q).filter fun s => !dG raw L s := by rw [htk, List.filter_append]; simp [hd]
      refine l_sub hS (fun _ h => h) ?_
      rw [← e1]
      exact glob_loop hr hN hlen hup hx hw ha hg hQ r (q + 1) (by omega)
    have keep : dG raw L s = false → ((N.take q).filter fun s => !dG raw L s).length < (N.filter fun s => !dG raw L s).length ∧ ((N.filter fun s => !dG raw L s)).length ≤ N.length ∧ (N.filter fun s => !dG raw L s)[((N.take q).filter fun s => !dG raw L s).length]? = some s ∧
        ∀ en, Sub en [(1, .str raw), (6, .ptr i6 0), (7, .ptr x7 0), (8, gv), (9, .row (N.map .str) N.length sr), (10, .int .i64 (((((N.take q).filter fun s => !dG raw L s).length + 1 : Nat)) : Int)), (11, .int .i64 ((q + 1 : Nat) : Int))] → WL sW ftab lb3_1 147 en fs Q := fun hd => by
      have e1 : (N.filter fun s => !dG raw L s) = ((N.take q).filter fun s => !dG raw L s) ++ s :: ((N.drop (q + 1)).filter fun s => !dG raw L s) := by
        conv => lhs; rw [hsplit]
        rw [List.filter_append, List.filter_cons, if_pos (by rw [hd]; rfl)]
      have e2 : ((N.take (q + 1)).filter fun s => !dG raw L s) = ((N.take q).filter fun s => !dG raw L s) ++ [s] := by rw [htk, List.filter_append]; simp [hd]
      refine ⟨by rw [e1, List.length_append, List.length_cons]; omega, List.length_filter_le .., by rw [e1, List.getElem?_append_right (Nat.le_refl _), Nat.sub_self]; rfl, fun en hS => ?_⟩
      refine l_sub hS (fun _ h => h) ?_
      have := glob_loop hr hN hlen hup hx hw ha hg hQ r (q + 1) (by omega)
      rw [e2, List.length_append] at this
      exact this
    refine l_round ?_
    refine cgo ?_
    refine g_do rfl (o_lss (xt rfl) (xt rfl) (fun h => ?_) (fun h => by omega))
    refine cgo ?_
    refine w_block ?_
    refine cgo ?_
    refine g_do rfl (o_iaddr (xt rfl) (xt rfl) ⟨by omega, by omega⟩ hz1 ?_)
    refine g_do rfl (o_loadr (v := .str s) (xt rfl) hrd hel ?_)
    refine g_mono (Q := fun e' fs' => fs' = fs ∧ Sub e' [(78, .bool false), (1, .str raw), (6, .ptr i6 0), (7, .ptr x7 0), (8, gv), (9, .row (N.map .str) N.length sr), (10, .int .i64 (((N.take q).filter fun s => !dG raw L s).length : Int)), (11, .int .i64 q)]) ?_ ?_
    · refine cgo ?_
      refine g_do rfl (o_eqi (xt rfl) xc (fun h => by omega) (fun _ => ?_))
      refine cgo ?_
      refine g_do rfl (o_gtr (xt rfl) xc (fun h0 => ?_) (fun h0 => ?_))
      · obtain ⟨p, rfl⟩ : ∃ p, q = p + 1 := ⟨q - 1, by omega⟩
        obtain ⟨u, hu, hul⟩ := hprev p rfl
        refine cgo ?_
        refine g_do rfl (o_sub (xt rfl) xc (by constructor <;> omega) ?_)
        rw [show ((p + 1 : Nat) : Int) - 1 = (p : Int) by omega]
        refine g_if rfl ?_
        refine g_do rfl (o_iaddr (xt rfl) (xt rfl) ⟨by omega, by omega⟩ hz1 ?_)
        refine g_if rfl ?_
        refine g_do rfl (o_loadr (v := .str u) (xt rfl) hrd (by
          simp only [apart]
          rw [show ((p : Nat) : Int).toNat * 1 = p by omega, List.getElem?_map, hu]; rfl) ?_)
        refine cgo ?_
        refine g_do rfl (o_iaddr (xt rfl) (xt rfl) ⟨by omega, by omega⟩ hz1 ?_)
        refine g_if rfl ?_
        refine g_do rfl (o_loadr (v := .str s) (xt rfl) hrd hel ?_)
        refine g_if rfl ?_
        refine g_do rfl (o_ges (xt rfl) (xt rfl) ?_)
        rw [decide_eq_true hul]
        refine cgo ?_
        exact ⟨rfl, .cons rfl (.cons rfl (.cons rfl (.cons rfl (.cons rfl (.cons rfl (.cons rfl (.cons rfl .nil)))))))⟩
      · refine cgo ?_
        exact ⟨rfl, .cons rfl (.cons rfl (.cons rfl (.cons rfl (.cons rfl (.cons rfl (.cons rfl (.cons rfl .nil)))))))⟩
    · rintro e' fs' ⟨rfl, hS⟩
      refine w_sub hS (fun _ h => h) ?_
      refine cgo ?_
      refine g_do rfl (o_load (xt rfl) hx rfl ?_)
      refine cgo ?_
      refine g_do rfl (o_iaddr (xt rfl) (xt rfl) ⟨by omega, by omega⟩ hz1 ?_)
      refine g_do rfl (o_loadr (v := .str s) (xt rfl) hrd hel ?_)
      refine g_do rfl (o_call (.cons (xt rfl) (.cons (xt rfl) .nil)) (dmatch_ev hr.2 hmem.2 hw ?_))
      refine g_mono (Q := fun e' fs2 => fs2 = fs' ∧ Sub e' [(97, .bool (!dG raw L s)), (1, .str raw), (6, .ptr i6 0), (7, .ptr x7 0), (8, gv), (9, .row (N.map .str) N.length sr), (10, .int .i64 (((N.take q).filter fun s => !dG raw L s).length : Int)), (11, .int .i64 q)]) ?_ ?_
      · cases hm : matchB raw.data.toList L s.data.toList with
        | false =>
          have e1 : dG raw L s = true := by rw [hdg, hm]; simp
          rw [e1]
          refine cgo ?_
          exact ⟨rfl, (.cons rfl (.cons rfl (.cons rfl (.cons rfl (.cons rfl (.cons rfl (.cons rfl (.cons rfl .nil))))))))⟩
        | true =>
          refine cgo ?_
          refine g_do rfl (o_iaddr (xt rfl) (xt rfl) ⟨by omega, by omega⟩ hz1 ?_)
          refine g_if rfl ?_
          refine g_do rfl (o_loadr (v := .str s) (xt rfl) hrd hel ?_)
          refine g_if rfl ?_
          refine g_do rfl (o_idx (b := y) (xt rfl) xc (by omega) hy ?_)
          refine g_if rfl ?_
          refine g_do rfl (o_nei (xt rfl) xc (fun h46 => ?_) (fun h46 => ?_))
          · refine cgo ?_
            refine g_do rfl (o_idx (b := z) (xt rfl) xc (by omega) hz ?_)
            refine g_if rfl ?_
            refine g_do rfl (o_eqi (xt rfl) xc (fun hz46 => ?_) (fun hz46 => ?_))
            · have e1 : dG raw L s = false := by rw [hdg, hm, decide_eq_true (show z.toNat = 46 by omega)]; simp
              rw [e1]
              refine cgo ?_
              exact ⟨rfl, (.cons rfl (.cons rfl (.cons rfl (.cons rfl (.cons rfl (.cons rfl (.cons rfl (.cons rfl .nil))))))))⟩
            · have e1 : dG raw L s = true := by rw [hdg, hm, decide_eq_true (show y.toNat = 46 by omega), decide_eq_false (show ¬ z.toNat = 46 by omega)]; rfl
              rw [e1]
              refine cgo ?_
              exact ⟨rfl, (.cons rfl (.cons rfl (.cons rfl (.cons rfl (.cons rfl (.cons rfl (.cons rfl (.cons rfl .nil))))))))⟩
          · have e1 : dG raw L s = false := by rw [hdg, hm, decide_eq_false (show ¬ y.toNat = 46 by omega)]; rfl
            rw [e1]
            refine cgo ?_
            exact ⟨rfl, (.cons rfl (.cons rfl (.cons rfl (.cons rfl (.cons rfl (.cons rfl (.cons rfl (.cons rfl .nil))))))))⟩
      · rintro e' fs2 ⟨rfl, hS⟩
        refine w_sub hS (fun _ h => h) ?_
        cases hd : dG raw L s with
        | true =>
          refine cgo ?_
          refine g_do rfl (o_add (xt rfl) xc (by constructor <;> omega) ?_)
          refine cgo ?_
          exact skip hd _ (.cons rfl (.cons rfl (.cons rfl (.cons rfl (.cons rfl (.cons rfl (.cons rfl .nil)))))))
        | false =>
          obtain ⟨hk, hgl, hgk, next⟩ := keep hd
          clear keep skip
          generalize ((N.take q).filter fun s => !dG raw L s).length = k at hk hgk next ⊢
          generalize (N.filter fun s => !dG raw L s) = G at hg hk hgk hgl
          obtain ⟨sg, rfl, hrg, hzg⟩ := hg.some (by omega)
          refine cgo ?_
          refine g_do rfl (o_geq (xt rfl) (xt rfl) (fun h => by omega) (fun _ => ?_))
          refine cgo ?_
          refine g_do rfl (o_iaddr (xt rfl) (xt rfl) ⟨by omega, by omega⟩ hzg ?_)
          refine g_if rfl ?_
          refine g_do rfl (o_loadr (v := .str s) (xt rfl) hrg (by
            simp only [apart]
            rw [show ((k : Nat) : Int).toNat * 1 = k by omega, List.getElem?_map, hgk]; rfl) ?_)
          refine cgo ?_
          refine g_do rfl (o_iaddr (xt rfl) (xt rfl) ⟨by omega, by omega⟩ hz1 ?_)
          refine g_if rfl ?_
          refine g_do rfl (o_loadr (v := .str s) (xt rfl) hrd hel ?_)
          refine g_if rfl ?_
          refine g_do rfl (o_nes (xt rfl) (xt rfl) (fun _ => ?_) (fun h => absurd rfl h))
          refine cgo ?_
          refine g_do rfl (o_add (xt rfl) xc (by constructor <;> omega) ?_)
          refine cgo ?_
          refine g_do rfl (o_add (xt rfl) xc (by constructor <;> omega) ?_)
          refine cgo ?_
          exact next _ (.cons rfl (.cons rfl (.cons rfl (.cons rfl (.cons rfl (.cons rfl (.cons rfl .nil)))))))
theorem chk_loop {nv : AV} {names : List ByteArray} {raw : ByteArray} (hM : RI 1 nv (names.map .str) names.length) (hlen : names.length ≤ 1000000) {Q : AO → Env → List Fact → Prop} (hQ1 : ∀ en, Sub en [(4, .bool true)] → Q .ret en fs) (hQ2 : ∀ en, Sub en [(0, nv), (1, .str raw)] → Q (.exit 0) en fs) :
    ∀ (r i : Nat), i + r = names.length → WL sW ftab lb3_0 147 [(0, nv), (1, .str raw), (5, .int .i64 i)] fs Q
  | 0, i, hi => by
    refine l_round ?_
    refine cgo ?_
    refine g_do rfl (o_len (xt rfl) hM.rv ?_)
    refine g_do rfl (o_lss (xt rfl) (xt rfl) (fun h => by omega) (fun h => ?_))
    refine cgo ?_
    exact hQ2 _ (.cons rfl (.cons rfl .nil))
  | r + 1, i, hi => by
    have hlt : i < names.length := by omega
    have hel : apart (names.map AV.str) (((i : Nat) : Int).toNat * 1) none = some (.str names[i]) := by
      simp only [apart]
      rw [show ((i : Nat) : Int).toNat * 1 = i by omega, List.getElem?_map, List.getElem?_eq_getElem hlt]; rfl
    generalize names[i] = s at hel
    have hv := hM.rv (fs := fs)
    obtain ⟨sr, rfl, hrd, hz⟩ := hv.some (by omega)
    refine l_round ?_
    refine cgo ?_
    refine g_do rfl (o_lss (xt rfl) (xt rfl) (fun h => ?_) (fun h => by omega))
    refine cgo ?_
    refine w_block ?_
    refine cgo ?_
    refine g_do rfl (o_iaddr (xt rfl) (xt rfl) ⟨by omega, by omega⟩ hz ?_)
    refine g_do rfl (o_loadr (v := .str s) (xt rfl) hrd hel ?_)
    refine cgo ?_
    refine g_do rfl (o_gtr (xt rfl) xc (fun h1 => ?_) (fun h1 => ?_))
    · refine cgo ?_
      refine g_do rfl (o_call .nil (awake_ev ?_))
      refine cgo ?_
      exact hQ1 _ (.cons rfl .nil)
    · refine cgo ?_
      refine g_do rfl (o_add (xt rfl) xc (by constructor <;> omega) ?_)
      refine cgo ?_
      refine l_sub (e' := [(0, .row (names.map .str) names.length sr), (1, .str raw), (5, .int .i64 ((i + 1 : Nat) : Int))]) (.cons rfl (.cons rfl (.cons rfl .nil))) (fun _ h => h) ?_
      exact chk_loop hM hlen hQ1 hQ2 r (i + 1) (by omega)
theorem globs_ev {nv : AV} {names : List ByteArray} {raw : ByteArray} (hM : RI 1 nv (names.map .str) names.length) : Ev sW ftab 3 [nv, .str raw] [] fun v _ => v = .bool true := by
  refine ev_fn (nt := 147) (kb := kb3) (kr := kr3) rfl rfl (Nat.le_of_ble_eq_true rfl) ?_
  refine cgo ?_
  refine g_do rfl (o_len (xt rfl) hM.rv ?_)
  refine g_mono (Q := fun e' fs' => fs' = [] ∧ Sub e' [(25, .bool (decide (60 < names.length) || (decide (60 < raw.size) || decide (raw.size = 0)))), (0, nv), (1, .str raw)]) ?_ ?_
  · refine g_do rfl (o_gtr (xt rfl) xc (fun h1 => ?_) (fun h1 => ?_))
    · rw [decide_eq_true (show 60 < names.length by omega), Bool.true_or]
      refine cgo ?_
      exact ⟨rfl, .cons rfl (.cons rfl (.cons rfl .nil))⟩
    · rw [decide_eq_false (show ¬ 60 < names.length by omega), Bool.false_or]
      refine cgo ?_
      refine g_do rfl (o_gtr (xt rfl) xc (fun h2 => ?_) (fun h2 => ?_))
      · rw [decide_eq_true (show 60 < raw.size by omega), Bool.true_or]
        refine cgo ?_
        exact ⟨rfl, .cons rfl (.cons rfl (.cons rfl .nil))⟩
      · rw [decide_eq_false (show ¬ 60 < raw.size by omega), Bool.false_or]
        refine cgo ?_
        refine g_do rfl (o_eqi (xt rfl) xc (fun h3 => ?_) (fun h3 => ?_))
        · rw [decide_eq_true (show raw.size = 0 by omega)]
          refine cgo ?_
          exact ⟨rfl, .cons rfl (.cons rfl (.cons rfl .nil))⟩
        · rw [decide_eq_false (show ¬ raw.size = 0 by omega)]
          refine cgo ?_
          exact ⟨rfl, .cons rfl (.cons rfl (.cons rfl .nil))⟩
  rintro e' fs' ⟨rfl, hS⟩
  refine w_sub hS (fun _ h => h) ?_
  by_cases hg : 60 < names.length ∨ 60 < raw.size ∨ raw.size = 0
  · have hb : (decide (60 < names.length) || (decide (60 < raw.size) || decide (raw.size = 0))) = true := by simpa using hg
    rw [hb]
    refine cgo ?_
    refine g_do rfl (o_call .nil (awake_ev ?_))
    refine cgo ?_
    exact ⟨trivial, _, _, .one (.tmp rfl), .refl _, rfl⟩
  have hb : (decide (60 < names.length) || (decide (60 < raw.size) || decide (raw.size = 0))) = false := by simpa using hg
  rw [hb]
  have hn : names.length ≤ 60 := by omega
  have hr : 0 < raw.size ∧ raw.size ≤ 1000000 := by omega
  clear hg hb
  refine cgo ?_
  refine w_mono (Q := fun ao e' fs' => fs' = [] ∧ ((ao = .ret ∧ Sub e' [(4, .bool true)]) ∨ (ao = .normal ∧ Sub e' [(0, nv), (1, .str raw)]))) ?_ ?_
  · refine w_block (w_loop ?_)
    refine l_sub (e' := [(0, nv), (1, .str raw), (5, .int .i64 ((0 : Nat) : Int))]) (.cons rfl (.cons rfl (.cons rfl .nil))) (fun _ h => h) ?_
    exact chk_loop hM (by omega) (fun en hS => ⟨rfl, Or.inl ⟨rfl, hS⟩⟩) (fun en hS => ⟨rfl, Or.inr ⟨rfl, hS⟩⟩) names.length 0 (by omega)
  rintro ao e' fs' ⟨rfl, ⟨rfl, hS⟩ | ⟨rfl, hS⟩⟩
  · exact ⟨trivial, _, _, .one (.tmp (hS.lk _ _ rfl)), .refl _, rfl⟩
  refine w_sub hS (fun _ h => h) ?_
  refine cgo ?_
  refine g_do rfl (o_call (.cons (xt rfl) .nil) (tnew_ev hM.rv (by omega) fun i j es c hm => ?_))
  have hok : ∀ s ∈ names.foldl addK [], 0 < s.size ∧ s.size ≤ 1000000 := fun s hs => okS_size (foldK_ok names [] (fun x hx => by cases hx) s hs)
  have hks : (names.foldl addK []).length ≤ 200 := foldK_len names [] (by decide)
  generalize names.foldl addK [] = ks at hm hok hks
  have hsl := sortB_len ks
  refine cgo ?_
  refine g_do rfl (o_eq (c := false) (xt rfl) xc rfl ?_)
  refine cgo ?_
  refine g_do rfl (o_call (.cons (xt rfl) .nil) (live_ev hr.2 fun lw d hL => ?_))
  refine cgo ?_
  refine g_do rfl (o_box xc rfl fun x7 => ?_)
  refine g_do0 (o_store (xt rfl) (xt rfl) .here ⟨rfl, (Nat.le_of_ble_eq_true rfl)⟩ (by show (EvA.scalar lw && _) = true; rw [hL.scalar]; rfl) rfl ?_)
  have hw0 : RV (.blk x7 (.cells [.str raw, lw]) :: (d ++ .blk j (.map es c) :: .blk i (.cells [.map j]) :: [])) 1 lw ((lives raw.size).map .bool) (lives raw.size).length := by
    have := (RV.of (b := .blk j (.map es c) :: .blk i (.cells [.map j]) :: []) hL).cons (x := .blk x7 (.cells [.str raw, lw]))
    rw [show (lives raw.size).length = raw.size by simp [lives]]
    exact this
  have hi0 : Has (.blk x7 (.cells [.str raw, lw]) :: (d ++ .blk j (.map es c) :: .blk i (.cells [.map j]) :: [])) (.blk i (.cells [.map j])) := .there (Has.app (.there .here))
  have hj0 : Has (.blk x7 (.cells [.str raw, lw]) :: (d ++ .blk j (.map es c) :: .blk i (.cells [.map j]) :: [])) (.blk j (.map es c)) := .there (Has.app .here)
  refine g_sub (e' := [(7, .ptr x7 0), (6, .ptr i 0), (1, .str raw)]) (fs' := Fact.blk x7 (.cells [.str raw, lw]) :: (d ++ Fact.blk j (.map es c) :: Fact.blk i (.cells [.map j]) :: [])) (.cons rfl (.cons rfl (.cons rfl .nil))) (fun _ h => h) ?_
  have hx0 : Has (.blk x7 (.cells [.str raw, lw]) :: (d ++ .blk j (.map es c) :: .blk i (.cells [.map j]) :: [])) (.blk x7 (.cells [.str raw, lw])) := .here
  generalize (Fact.blk x7 (.cells [.str raw, lw]) :: (d ++ .blk j (.map es c) :: .blk i (.cells [.map j]) :: [])) = F0 at hw0 hi0 hj0 hx0 ⊢
  refine cgo ?_
  refine g_do rfl (o_load (xt rfl) hx0 rfl ?_)
  refine g_do rfl (o_call (.cons (xt rfl) (.cons (xt rfl) .nil)) (tglob_ev hr.2 hi0 hj0 hm (by omega) hok hw0 fun gv d1 b b2 hg => ?_))
  have hi1 : Has (d1 ++ (.blk b2 (.cells [.map j]) :: .blk b (.cells [.str raw, lw]) :: F0)) (.blk i (.cells [.map j])) := Has.app (.there (.there hi0))
  have hj1 : Has (d1 ++ (.blk b2 (.cells [.map j]) :: .blk b (.cells [.str raw, lw]) :: F0)) (.blk j (.map es c)) := Has.app (.there (.there hj0))
  have hx1 : Has (d1 ++ (.blk b2 (.cells [.map j]) :: .blk b (.cells [.str raw, lw]) :: F0)) (.blk x7 (.cells [.str raw, lw])) := Has.app (.there (.there hx0))
  have hw1 : RV (d1 ++ (.blk b2 (.cells [.map j]) :: .blk b (.cells [.str raw, lw]) :: F0)) 1 lw ((lives raw.size).map .bool) (lives raw.size).length := RV.app hw0.cons.cons
  clear hi0 hj0 hx0 hw0 hL
  generalize (d1 ++ (Fact.blk b2 (.cells [.map j]) :: .blk b (.cells [.str raw, lw]) :: F0)) = F1 at hg hi1 hj1 hx1 hw1 ⊢
  refine cgo ?_
  refine g_do rfl (o_call (.cons (xt rfl) .nil) (names_ev hi1 hj1 hm fun b3 av d2 hA => ?_))
  have ha : RV (d2 ++ .blk b3 (.cells [.map j]) :: F1) 1 av ((sortB ks).map .str) (sortB ks).length := RV.of hA
  have hi2 : Has (d2 ++ .blk b3 (.cells [.map j]) :: F1) (.blk i (.cells [.map j])) := Has.app (.there hi1)
  have hj2 : Has (d2 ++ .blk b3 (.cells [.map j]) :: F1) (.blk j (.map es c)) := Has.app (.there hj1)
  have hx2 : Has (d2 ++ .blk b3 (.cells [.map j]) :: F1) (.blk x7 (.cells [.str raw, lw])) := Has.app (.there hx1)
  have hw2 : RV (d2 ++ .blk b3 (.cells [.map j]) :: F1) 1 lw ((lives raw.size).map .bool) (lives raw.size).length := RV.app hw1.cons
  have hg2 : RV (d2 ++ .blk b3 (.cells [.map j]) :: F1) 1 gv ((toldG raw (lives raw.size) ks).map .str) (toldG raw (lives raw.size) ks).length := RV.app hg.cons
  clear hi1 hj1 hx1 hw1 hA hg
  generalize (d2 ++ Fact.blk b3 (.cells [.map j]) :: F1) = F2 at ha hi2 hj2 hx2 hw2 hg2 ⊢
  refine cgo ?_
  have hgl : (toldG raw (lives raw.size) ks).length ≤ 1000000 := by
    have : (toldG raw (lives raw.size) ks).length ≤ (sortB ks).length := List.length_filter_le ..
    omega
  refine w_mono (Q := fun ao e' fs' => ao = .normal ∧ fs' = F2 ∧ Sub e' [(1, .str raw), (6, .ptr i 0), (8, gv), (10, .int .i64 ((toldG raw (lives raw.size) ks).length : Int))]) ?_ ?_
  · refine w_block (w_loop ?_)
    refine l_sub (e' := [(1, .str raw), (6, .ptr i 0), (7, .ptr x7 0), (8, gv), (9, av), (10, .int .i64 ((((sortB ks).take 0).filter fun s => !dG raw (lives raw.size) s).length : Int)), (11, .int .i64 ((0 : Nat) : Int))]) (.cons rfl (.cons rfl (.cons rfl (.cons rfl (.cons rfl (.cons rfl (.cons rfl .nil))))))) (fun _ h => h) ?_
    exact glob_loop hr (fun s hs => hok s (sortB_mem.1 hs)) (by omega) (sortB_up hm.ok.apart) hx2 hw2 ha hg2 (fun en hS => ⟨rfl, rfl, hS⟩) (sortB ks).length 0 (by omega)
  rintro ao e' fs' ⟨rfl, rfl, hS⟩
  refine w_sub hS (fun _ h => h) ?_
  refine cgo ?_
  refine g_do rfl (o_call (.cons (xt rfl) (.cons (xt rfl) .nil)) (tglob_ev (lw := .nilrow) (L := []) hr.2 hi2 hj2 hm (by omega) hok .nil fun pv d3 b4 b5 hp => ?_))
  have hi3 : Has (d3 ++ (.blk b5 (.cells [.map j]) :: .blk b4 (.cells [.str raw, .nilrow]) :: fs')) (.blk i (.cells [.map j])) := Has.app (.there (.there hi2))
  have hj3 : Has (d3 ++ (.blk b5 (.cells [.map j]) :: .blk b4 (.cells [.str raw, .nilrow]) :: fs')) (.blk j (.map es c)) := Has.app (.there (.there hj2))
  have hg3 : RV (d3 ++ (.blk b5 (.cells [.map j]) :: .blk b4 (.cells [.str raw, .nilrow]) :: fs')) 1 gv ((toldG raw (lives raw.size) ks).map .str) (toldG raw (lives raw.size) ks).length := RV.app hg2.cons.cons
  clear hi2 hj2 hx2 hw2 hg2 ha
  generalize (d3 ++ (Fact.blk b5 (.cells [.map j]) :: .blk b4 (.cells [.str raw, .nilrow]) :: fs')) = F3 at hi3 hj3 hg3 hp ⊢
  refine cgo ?_
  refine g_do rfl (o_len (xt rfl) hg3 ?_)
  refine g_do rfl (o_eqi (xt rfl) (xt rfl) (fun _ => ?_) (fun h => absurd rfl h))
  refine cgo ?_
  refine g_do rfl (o_len (xt rfl) hp ?_)
  have hpl := plain_told (T := raw) hm.ok.apart
  by_cases hmem : raw ∈ ks
  · rw [hpl.1 hmem] at hp ⊢
    obtain ⟨sp, rfl, hrp, hzp⟩ := hp.some (by simp)
    refine g_if rfl ?_
    refine g_do rfl (o_eqi (xt rfl) xc (fun _ => ?_) (fun h => absurd rfl h))
    refine cgo ?_
    refine g_do rfl (o_call (.cons (xt rfl) (.cons (xt rfl) .nil)) (thas_ev hi3 hj3 hm ?_))
    rw [memB_t hmem]
    refine cgo ?_
    refine g_do rfl (o_eqb (xt rfl) (xt rfl) (fun _ => ?_) (fun h => absurd rfl h))
    refine cgo ?_
    refine g_do rfl (o_eqi (xt rfl) xc (fun h => absurd h (by simp)) (fun _ => ?_))
    refine cgo ?_
    refine g_do rfl (o_iaddr (xt rfl) xc ⟨by decide, by simp⟩ hzp ?_)
    refine g_if rfl ?_
    refine g_do rfl (o_loadr (v := .str raw) (xt rfl) hrp rfl ?_)
    refine cgo ?_
    refine g_do rfl (o_eqs (xt rfl) (xt rfl) (fun _ => ?_) (fun h => absurd rfl h))
    refine cgo ?_
    refine g_do rfl (o_call .nil (awake_ev ?_))
    refine cgo ?_
    exact ⟨trivial, _, _, .one (.tmp rfl), .refl _, rfl⟩
  · rw [hpl.2 hmem] at hp ⊢
    refine g_if rfl ?_
    refine g_do rfl (o_eqi (xt rfl) xc (fun h => absurd h (by decide)) (fun _ => ?_))
    refine cgo ?_
    refine g_do rfl (o_call (.cons (xt rfl) (.cons (xt rfl) .nil)) (thas_ev hi3 hj3 hm ?_))
    rw [memB_f hmem]
    refine cgo ?_
    refine g_do rfl (o_eqb (xt rfl) (xt rfl) (fun _ => ?_) (fun h => absurd rfl h))
    refine cgo ?_
    refine g_do rfl (o_len (xt rfl) hp ?_)
    refine g_if rfl ?_
    refine g_do rfl (o_eqi (xt rfl) xc (fun _ => ?_) (fun h => absurd rfl h))
    refine cgo ?_
    refine g_do rfl (o_call .nil (awake_ev ?_))
    refine cgo ?_
    exact ⟨trivial, _, _, .one (.tmp rfl), .refl _, rfl⟩
theorem TreeGlobs_true (a0 : AV) (raw : ByteArray) (w0 : Sh Try.prog 9 22 [a0]) (w1 : raw.size ≤ 140737488351232) : ∃ k, (aeval sW ftab k 3 [a0, .str raw] h0).map (·.1) = some (.bool true) := by
  obtain ⟨v, T, e1, ht, _⟩ := sh_strs (d := 7) Try.underlying22 Try.underlying9 (by kernel_rfl) w0
  obtain rfl : a0 = v := by simpa using e1
  exact ev_true (globs_ev ht)
end Go.Proofs.Ythlmjpfklbocjaa.EvA
