/- TreeTells: files are kept, made and found by patterns as the document says; a copy goes its own way. -/
import Derived.Test.YthlmjpfklbocjaaGb
import Derived.Test.YthlmjpfklbocjaaEvLg
import Derived.KernelRfl
namespace Go.Proofs.Ythlmjpfklbocjaa.EvA
attribute [local irreducible] oMove oPick oBox oBuild oRow oRowZ oLoad oStore oNil oArith oEq oEqS oShr oShl oNot oNeg oConv oFn oMfn oMin oMax oCutstr oCutrow oFaddr oField oIaddr oIaddrA oIdx oExtract oLenS oLenR oLenM oAppend oCall oCallv oMap oLookup oSet oDelete kDo kDo0 kIf kEl kClr oMake oText kEnd kReg kSeq kCond kBlock kLoop kSkip kExit kRet xT xC xF kFl kIp sDo sDo0 sIf gVal
set_option linter.unusedVariables false
set_option linter.unusedSimpArgs false
set_option maxHeartbeats 4000000
section
variable {S : Sum} {F : FuncId → Option AF} {fs : List Fact} {e : Env} {L : Nat}
theorem swap_eq {s' s : Src} {cs' cs : List AV} {n : Nat} (h : s.fam ≠ 0) : swapV s.id s.pos cs.length s.size s' cs' (.row cs n s) = .row cs' n s' := by
  simp only [swapV]
  rw [if_pos ⟨trivial, trivial, trivial, trivial, h⟩]
theorem g_clr {z : ByteArray} {p n m n2 k : Nat} {kt kl : AX} {rest : KR} {cs cs2 : List AV} {s s2 : Src} {kk : IntKind} {fs' : Nat → List Fact} {Q : Env → List Fact → Prop} (hr : lk e p = some (.row cs n s)) (ht : XV e kt (.row cs2 n2 s2)) (hk : XV e kl (.int kk (k : Int)))
    (hc : s2.id = s.id ∧ s2.fam = s.fam ∧ s2.pos = s.pos + k ∧ s2.size = 1 ∧ s.size = 1 ∧ cs2.length + k = cs.length ∧ n = cs.length ∧ n2 = cs2.length ∧ k < cs.length)
    (hp : ∀ id, Put fs (.row s.fam s.id m) (.row s.fam id (s.pos + cs.length)) (fs' id))
    (h : ∀ id, (∀ f' i' e', Has fs (.row f' i' e') → i' ≠ id) → WG S F rest L ((p, .row (cs.take k ++ List.replicate (cs.length - k) (.str z)) n { s with id := id }) :: e.map fun q => (q.1, swapV s.id s.pos cs.length s.size { s with id := id } (cs.take k ++ List.replicate (cs.length - k) (.str z)) q.2)) (fs' id) Q) : WG S F (kClr z (xT p) kt kl rest) L e fs Q := by
  intro ts g0 h1 h2
  obtain ⟨c1, c2, c3, c4, c5, c6, c7, c8, c9⟩ := hc
  have hf : s.fam ≠ 0 := (h2.holds _ (hp 0).has.mem).1
  have hok : g0.ok s = true := h2.ok (hp 0).has
  have hcut : cs.take k ++ List.replicate cs2.length (AV.str z) ++ cs.drop (k + cs2.length) = cs.take k ++ List.replicate (cs.length - k) (.str z) := by
    rw [show k + cs2.length = cs.length by omega, List.drop_length, List.append_nil, show cs2.length = cs.length - k by omega]
  have hR : Rp L (ts.map (swapV s.id s.pos cs.length s.size { s with id := g0.rnext } (cs.take k ++ List.replicate (cs.length - k) (.str z)))) ((p, .row (cs.take k ++ List.replicate (cs.length - k) (.str z)) n { s with id := g0.rnext }) :: e.map fun q => (q.1, swapV s.id s.pos cs.length s.size { s with id := g0.rnext } (cs.take k ++ List.replicate (cs.length - k) (.str z)) q.2)) := by
    have key : ∀ j u, lk e j = some u → nth (ts.map (swapV s.id s.pos cs.length s.size { s with id := g0.rnext } (cs.take k ++ List.replicate (cs.length - k) (.str z)))) j = swapV s.id s.pos cs.length s.size { s with id := g0.rnext } (cs.take k ++ List.replicate (cs.length - k) (.str z)) u := by
      intro j u hj
      have := h1.2 j u hj
      rw [nth_getD, List.getD_eq_getElem?_getD] at this ⊢
      rw [List.getElem?_map]
      cases hh : ts[j]? with
      | none => rw [hh] at this; simp only [Option.getD_none] at this; subst this; rfl
      | some y => rw [hh] at this; simp only [Option.getD_some] at this; subst this; rfl
    refine ⟨by rw [List.length_map]; exact h1.1, fun j u hj => ?_⟩
    rw [lk_cons] at hj
    split at hj
    · rename_i e1; subst e1
      obtain rfl := Option.some.inj hj
      rw [key _ _ hr, swap_eq hf]
    · rw [lk_map] at hj
      obtain ⟨u0, hu, rfl⟩ := Option.map_eq_some_iff.1 hj
      exact key _ _ hu
  have hH := h2.regrow (s := s) (e := s.pos + k) (cs.length - k) (m := m) (by rw [show s.pos + k + (cs.length - k) = s.pos + cs.length by omega]; exact hp _)
  obtain ⟨ts', h'', e', fs'', k1, k2, k3, M, k4⟩ := h g0.rnext (fun f' i' e' hh => by have := (h2.holds _ hh.mem).2.2.1; omega) _ _ hR hH
  refine ⟨ts', h'', e', fs'', k1, k2, k3, M, fun n hn => ?_⟩
  have h4 := k4 n hn
  have all : (List.replicate cs2.length (AV.str z)).all scalar = true := by
    rw [List.all_eq_true]
    intro x hx
    rw [List.eq_of_mem_replicate hx]; rfl
  simp only [kClr, oClr, xt hr L ts h1, ht L ts h1, hk L ts h1, Int.toNat_natCast]
  rw [if_pos ⟨c1, c2, c3, c4, c5, c6, c7, c8, c9⟩]
  have key : oElem cs2.length (fun _ => .eptr cs k s) (fun _ => .agg (List.replicate cs2.length (.str z))) ts g0 = if s.fam ≠ 0 ∧ g0.ok s = true ∧ 0 < cs2.length ∧ (List.replicate cs2.length (AV.str z)).length = cs2.length ∧ k + cs2.length ≤ cs.length ∧ (List.replicate cs2.length (AV.str z)).all scalar = true then
    some (ts.map (swapV s.id s.pos cs.length s.size { s with id := g0.rnext } (cs.take k ++ List.replicate cs2.length (AV.str z) ++ cs.drop (k + cs2.length))), (g0.grow s (s.pos + k) (cs.length - k)).2) else none := rfl
  rw [key, if_pos ⟨hf, hok, by omega, List.length_replicate, by omega, all⟩, hcut]
  exact h4
end
variable {fs fs' : List Fact}
def pre1 (t : List UInt8) : Bool := decide ((t[0]?).map (·.toNat) = some 46)
/-- A file that a pattern leaves out. -/
def dropG (t : List UInt8) (L : List Bool) (s : List UInt8) : Bool := (pre1 s && !pre1 t) || !matchB t L s
theorem hasPre_ev {T : ByteArray} {K : KK} (h : K (.bool (pre1 T.data.toList)) fs) : Ev sW ftab 34 [.str T, .str ⟨#[46]⟩] fs K := by
  refine ev_fn (nt := 18) (kb := kb34) (kr := kr34) rfl rfl (Nat.le_of_ble_eq_true rfl) ?_
  refine cgo ?_
  refine g_do rfl (o_geq (xt rfl) (xt rfl) (fun h1 => ?_) (fun h1 => ?_))
  · have h1' : 1 ≤ T.size := by have : ((⟨#[46]⟩ : ByteArray).size : Int) = 1 := rfl; omega
    obtain ⟨y, hy⟩ := tget (T := T) (i := 0) (by omega)
    refine cgo ?_
    refine g_do rfl (o_cuts (p := 0) (q := 1) (xt rfl) .none (.some (xt rfl)) (bounds_hi ⟨by decide, by show (1 : Int) ≤ _; omega⟩) ?_)
    have e1 : T.extract 0 1 = mkT [y] := by
      rw [bytes_cut]
      cases hh : T.data.toList with
      | nil => rw [hh] at hy; cases hy
      | cons a r => rw [hh] at hy; obtain rfl := Option.some.inj hy; rfl
    rw [e1]
    refine cgo ?_
    unfold pre1 at h
    rw [hy] at h
    refine g_do rfl (o_eqs (xt rfl) (xt rfl) (fun h2 => ?_) (fun h2 => ?_))
    · refine cgo ?_
      rw [decide_eq_true (by
        have : y = 46 := by
          have := congrArg (fun s => s.data.toList) h2
          simpa using this
        subst this; rfl)] at h
      exact ⟨trivial, _, fs, .one (.tmp rfl), .refl _, h⟩
    · refine cgo ?_
      rw [decide_eq_false (by
        intro h3
        refine h2 ?_
        have : y = 46 := UInt8.toNat_inj.1 (Option.some.inj h3)
        subst this; rfl)] at h
      exact ⟨trivial, _, fs, .one (.tmp rfl), .refl _, h⟩
  · refine cgo ?_
    have h1' : T.size = 0 := by have : ((⟨#[46]⟩ : ByteArray).size : Int) = 1 := rfl; omega
    have : pre1 T.data.toList = false := by
      unfold pre1
      rw [List.getElem?_eq_none (by rw [bsz]; omega)]; rfl
    rw [this] at h
    exact ⟨trivial, _, fs, .one (.tmp rfl), .refl _, h⟩
theorem gpred_ev {T s : ByteArray} {lw : AV} {L : List Bool} {b : Nat} (hT : T.size ≤ 1000000) (hn : s.size ≤ 1000000) (h0 : 0 < s.size) (hb : Has fs (.blk b (.cells [.str T, lw]))) (hv : RV fs 1 lw (L.map .bool) L.length) {K : KK} (h : K (.bool (dropG T.data.toList L s.data.toList)) fs) : Ev sW ftab 22 [.str s, .ptr b 0] fs K := by
  refine ev_fn (nt := 19) (kb := kb22) (kr := kr22) rfl rfl (Nat.le_of_ble_eq_true rfl) ?_
  obtain ⟨y, hy⟩ := tget (T := s) (i := 0) (by omega)
  have hp : pre1 s.data.toList = decide (y.toNat = 46) := by unfold pre1; rw [hy]; exact decide_eq_decide.2 ⟨fun h => Option.some.inj h, fun h => congrArg some h⟩
  unfold dropG at h
  rw [hp] at h
  refine cgo ?_
  refine g_do rfl (o_idx (b := y) (xt rfl) xc (by omega) hy ?_)
  refine g_do rfl (o_eqi (xt rfl) xc (fun h1 => ?_) (fun h1 => ?_))
  · rw [decide_eq_true (show y.toNat = 46 by omega), Bool.true_and] at h
    refine cgo ?_
    refine g_do rfl (o_load (xt rfl) hb rfl ?_)
    refine g_if rfl ?_
    refine g_do rfl (o_call (.cons (xt rfl) (.cons xc .nil)) (ev_fn (nt := 8) (kb := kb23) (kr := kr23) rfl rfl (Nat.le_of_ble_eq_true rfl) ?_))
    refine cgo ?_
    refine g_do rfl (o_call (.cons (xt rfl) (.cons (xt rfl) .nil)) (hasPre_ev ?_))
    refine cgo ?_
    refine ⟨trivial, _, fs, .one (.tmp rfl), .refl _, ?_⟩
    cases hpt : pre1 T.data.toList with
    | true =>
      rw [hpt] at h
      refine cgo ?_
      refine g_do rfl (o_load (xt rfl) hb rfl ?_)
      refine cgo ?_
      refine g_do rfl (o_call (.cons (xt rfl) (.cons (xt rfl) .nil)) (pmatch_ev hT hn hv ?_))
      refine cgo ?_
      exact ⟨trivial, _, fs, .one (.tmp rfl), .refl _, h⟩
    | false =>
      rw [hpt] at h
      refine cgo ?_
      exact ⟨trivial, _, fs, .one (.tmp rfl), .refl _, h⟩
  · rw [decide_eq_false (show ¬ y.toNat = 46 by omega), Bool.false_and, Bool.false_or] at h
    refine cgo ?_
    refine g_do rfl (o_load (xt rfl) hb rfl ?_)
    refine cgo ?_
    refine g_do rfl (o_call (.cons (xt rfl) (.cons (xt rfl) .nil)) (pmatch_ev hT hn hv ?_))
    refine cgo ?_
    exact ⟨trivial, _, fs, .one (.tmp rfl), .refl _, h⟩
theorem g_own {S : Sum} {F : FuncId → Option AF} {L : Nat} {e : Env} {k : KR} {Q : Env → List Fact → Prop} {f id m : Nat} (hh : Has fs (.row f id m)) (h : f ≠ 0 → WG S F k L e fs Q) : WG S F k L e fs Q := fun ts h0 h1 h2 => h (h2.holds _ hh.mem).1 ts h0 h1 h2
def firstG (p : ByteArray → Bool) : List ByteArray → Nat → Int
  | [], i => -1
  | x :: r, i => if p x = true then (i : Int) else firstG p r (i + 1)
theorem firstG_none {p : ByteArray → Bool} : ∀ {l : List ByteArray} {i : Nat}, firstG p l i = -1 → ∀ x ∈ l, p x = false
  | [], i, h, x, hx => by cases hx
  | y :: r, i, h, x, hx => by
    unfold firstG at h
    split at h
    · omega
    · rename_i hp
      rcases List.mem_cons.1 hx with rfl | hx
      · simpa using hp
      · exact firstG_none h x hx
theorem firstG_some {p : ByteArray → Bool} : ∀ {l : List ByteArray} {i : Nat}, firstG p l i ≠ -1 → ∃ k, firstG p l i = ((i + k : Nat) : Int) ∧ k < l.length ∧ (l.take (k + 1)).filter (fun x => !p x) = l.take k
  | [], i, h => absurd rfl h
  | y :: r, i, h => by
    unfold firstG at h ⊢
    split at h
    · rename_i hp
      rw [if_pos hp]
      exact ⟨0, rfl, by simp, by simp [hp]⟩
    · rename_i hp
      rw [if_neg hp]
      obtain ⟨k, h1, h2, h3⟩ := firstG_some h
      refine ⟨k + 1, by rw [h1]; omega, by simp; omega, ?_⟩
      rw [List.take_succ_cons, List.filter_cons, if_pos (by simpa using hp), h3, List.take_succ_cons]
theorem set_map {l : List ByteArray} {i : Nat} {s : ByteArray} (hi : i < l.length) : (l.map AV.str).take i ++ (AV.str s).cells ++ (l.map AV.str).drop (i + 1) = (l.set i s).map .str := by
  rw [List.set_eq_take_append_cons_drop, if_pos hi, List.map_append, List.map_cons, List.map_take, List.map_drop]
  show _ ++ [_] ++ _ = _
  rw [List.append_assoc]; rfl
section
variable {T : ByteArray} {lw : AV} {L : List Bool} {b : Nat} {B : List Fact}
abbrev dG (T : ByteArray) (L : List Bool) (s : ByteArray) : Bool := dropG T.data.toList L s.data.toList
theorem idxf_loop {v : AV} {N : List ByteArray} (hT : T.size ≤ 1000000) (hN : ∀ s ∈ N, 0 < s.size ∧ s.size ≤ 1000000) (hlen : N.length ≤ 1000000) (hb : Has fs (.blk b (.cells [.str T, lw]))) (hw : RV fs 1 lw (L.map .bool) L.length) (hv : RV fs 1 v (N.map .str) N.length) {o : Int} {Q : AO → Env → List Fact → Prop}
    (hQ1 : ∀ en, o ≠ -1 → Sub en [(4, .int .i64 o)] → Q .ret en fs) (hQ2 : ∀ en, o = -1 → Q (.exit 0) en fs) :
    ∀ (r i : Nat), i + r = N.length → firstG (dG T L) (N.drop i) i = o → WL sW ftab lb33_0 19 [(0, v), (1, .fn 22 [.ptr b 0]), (7, .int .i64 N.length), (8, .int .i64 i)] fs Q
  | 0, i, hi, ho => by
    refine l_round ?_
    refine cgo ?_
    refine g_do rfl (o_lss (xt rfl) (xt rfl) (fun h => by omega) (fun h => ?_))
    refine cgo ?_
    rw [List.drop_of_length_le (by omega)] at ho
    exact hQ2 _ ho.symm
  | r + 1, i, hi, ho => by
    have hlt : i < N.length := by omega
    rw [List.drop_eq_getElem_cons hlt] at ho
    have hmem := hN N[i] (List.getElem_mem hlt)
    obtain ⟨sr, rfl, hrd, hz⟩ := hv.some (by omega)
    have hel : apart (N.map AV.str) (((i : Nat) : Int).toNat * 1) none = some (.str N[i]) := by
      simp only [apart]
      rw [show ((i : Nat) : Int).toNat * 1 = i by omega, List.getElem?_map, List.getElem?_eq_getElem hlt]; rfl
    generalize N[i] = s at ho hmem hel
    unfold firstG at ho
    refine l_round ?_
    refine cgo ?_
    refine g_do rfl (o_lss (xt rfl) (xt rfl) (fun h => ?_) (fun h => by omega))
    refine cgo ?_
    refine w_block ?_
    refine cgo ?_
    refine g_do rfl (o_iaddr (xt rfl) (xt rfl) ⟨by omega, by omega⟩ hz ?_)
    refine g_do rfl (o_loadr (v := .str s) (xt rfl) hrd hel ?_)
    refine g_do rfl (o_callf (xt rfl) (.cons (xt rfl) .nil) (gpred_ev hT hmem.2 hmem.1 hb hw ?_))
    cases hd : dG T L s with
    | true =>
      rw [hd, if_pos rfl] at ho
      have hd' : dropG T.data.toList L s.data.toList = true := hd
      rw [hd']
      refine cgo ?_
      refine hQ1 _ (by omega) ?_
      rw [← ho]; exact .cons rfl .nil
    | false =>
      rw [hd, if_neg (by simp)] at ho
      have hd' : dropG T.data.toList L s.data.toList = false := hd
      rw [hd']
      refine cgo ?_
      refine g_do rfl (o_add (xt rfl) xc (by constructor <;> omega) ?_)
      refine cgo ?_
      refine l_sub (e' := [(0, .row (N.map .str) N.length sr), (1, .fn 22 [.ptr b 0]), (7, .int .i64 N.length), (8, .int .i64 ((i + 1 : Nat) : Int))]) (.cons rfl (.cons rfl (.cons rfl (.cons rfl .nil)))) (fun _ h => h) ?_
      exact idxf_loop hT hN hlen hb hw hv hQ1 hQ2 r (i + 1) (by omega) ho
theorem idxf_ev {v : AV} {N : List ByteArray} (hT : T.size ≤ 1000000) (hN : ∀ s ∈ N, 0 < s.size ∧ s.size ≤ 1000000) (hlen : N.length ≤ 1000000) (hb : Has fs (.blk b (.cells [.str T, lw]))) (hw : RV fs 1 lw (L.map .bool) L.length) (hv : RV fs 1 v (N.map .str) N.length) {K : KK} (h : K (.int .i64 (firstG (dG T L) N 0)) fs) : Ev sW ftab 33 [v, .fn 22 [.ptr b 0]] fs K := by
  refine ev_fn (nt := 19) (kb := kb33) (kr := kr33) rfl rfl (Nat.le_of_ble_eq_true rfl) ?_
  refine cgo ?_
  refine g_do rfl (o_len (xt rfl) hv ?_)
  refine cgo ?_
  refine w_block (w_loop ?_)
  refine l_sub (e' := [(0, v), (1, .fn 22 [.ptr b 0]), (7, .int .i64 N.length), (8, .int .i64 ((0 : Nat) : Int))]) (.cons rfl (.cons rfl (.cons rfl (.cons rfl .nil)))) (fun _ h => h) ?_
  refine idxf_loop (o := firstG (dG T L) N 0) hT hN hlen hb hw hv (fun en ho hS => ?_) (fun en ho => ?_) N.length 0 (by omega) rfl
  · exact ⟨trivial, _, fs, .one (.tmp (hS.lk _ _ rfl)), .refl _, h⟩
  · refine cgo ?_
    rw [ho] at h
    exact ⟨trivial, _, fs, .one (.tmp rfl), .refl _, h⟩
theorem del_loop {N : List ByteArray} {fr : Nat} (hT : T.size ≤ 1000000) (hN : ∀ s ∈ N, 0 < s.size ∧ s.size ≤ 1000000) (hlen : N.length ≤ 1000000) (hb : Has B (.blk b (.cells [.str T, lw]))) (hw : RV B 1 lw (L.map .bool) L.length) {Q : AO → Env → List Fact → Prop}
    (hQ : ∀ (en : Env) (id : Nat) (cur : List ByteArray) (i : Nat), cur.take i = N.filter (fun s => !dG T L s) → cur.length = N.length → i < N.length → Sub en [(0, .row (cur.map .str) N.length ⟨fr, id, 0, 1⟩), (5, .int .i64 ((i : Nat) : Int))] → Q (.exit 0) en (.row fr id (N.length * 1) :: B)) :
    ∀ (r j i id : Nat) (cur : List ByteArray), j + r = N.length → i < j → cur.length = N.length → cur.take i = (N.take j).filter (fun s => !dG T L s) → cur.drop j = N.drop j →
    WL sW ftab lb21_0 42 [(0, .row (cur.map .str) N.length ⟨fr, id, 0, 1⟩), (1, .fn 22 [.ptr b 0]), (5, .int .i64 ((i : Nat) : Int)), (6, .int .i64 ((j : Nat) : Int))] (.row fr id (N.length * 1) :: B) Q
  | 0, j, i, id, cur, hj, hij, hc, ht, hd => by
    refine l_round ?_
    refine cgo ?_
    refine g_do rfl (o_lss (xt rfl) (xt rfl) (fun h => by omega) (fun h => ?_))
    refine cgo ?_
    rw [show N.take j = N from List.take_of_length_le (by omega)] at ht
    exact hQ _ id cur i ht hc (by omega) (.cons rfl (.cons rfl .nil))
  | r + 1, j, i, id, cur, hj, hij, hc, ht, hd => by
    have hlt : j < N.length := by omega
    have hmem := hN N[j] (List.getElem_mem hlt)
    have hcj : cur[j]? = some N[j] := by
      have := congrArg List.head? hd
      rw [List.head?_drop, List.head?_drop, List.getElem?_eq_getElem hlt] at this
      exact this
    have hel : apart (cur.map AV.str) (((j : Nat) : Int).toNat * 1) none = some (.str N[j]) := by
      simp only [apart]
      rw [show ((j : Nat) : Int).toNat * 1 = j by omega, List.getElem?_map, hcj]; rfl
    have htk : N.take (j + 1) = N.take j ++ [N[j]] := by rw [List.take_add_one, List.getElem?_eq_getElem hlt]; rfl
    have hd1 : cur.drop (j + 1) = N.drop (j + 1) := by
      have := congrArg List.tail hd
      rw [List.tail_drop, List.tail_drop] at this; exact this
    generalize N[j] = s at hmem hcj hel htk
    refine l_round ?_
    refine cgo ?_
    refine g_do rfl (o_lss (xt rfl) (xt rfl) (fun h => ?_) (fun h => by omega))
    refine cgo ?_
    refine w_block ?_
    refine cgo ?_
    refine g_do rfl (o_iaddr (xt rfl) (xt rfl) ⟨by omega, by omega⟩ rfl ?_)
    refine g_do rfl (o_loadr (v := .str s) (xt rfl) (.own .here) hel ?_)
    refine cgo ?_
    refine g_do rfl (o_callf (xt rfl) (.cons (xt rfl) .nil) (gpred_ev hT hmem.2 hmem.1 (.there hb) hw.cons ?_))
    cases hds : dropG T.data.toList L s.data.toList with
    | true =>
      have hds' : dG T L s = true := hds
      refine cgo ?_
      refine g_do rfl (o_add (xt rfl) xc (by constructor <;> omega) ?_)
      refine cgo ?_
      refine l_sub (e' := [(0, .row (cur.map .str) N.length ⟨fr, id, 0, 1⟩), (1, .fn 22 [.ptr b 0]), (5, .int .i64 ((i : Nat) : Int)), (6, .int .i64 ((j + 1 : Nat) : Int))]) (.cons rfl (.cons rfl (.cons rfl (.cons rfl .nil)))) (fun _ h => h) ?_
      exact del_loop hT hN hlen hb hw hQ r (j + 1) i id cur (by omega) (by omega) hc (by rw [ht, htk, List.filter_append]; simp [hds']) hd1
    | false =>
      have hds' : dG T L s = false := hds
      refine cgo ?_
      refine g_do rfl (o_iaddr (xt rfl) (xt rfl) ⟨by omega, by omega⟩ rfl ?_)
      rw [show ((i : Nat) : Int).toNat * 1 = i by omega]
      have hl : (cur.map AV.str).length = N.length := by rw [List.length_map, hc]
      refine g_el2 (k := 0) (m := N.length * 1) (fs' := fun id' => .row fr id' (0 + (cur.map AV.str).length) :: B) (xt rfl) (xt rfl) rfl rfl (by decide) (by rw [hl]; omega) rfl (fun _ => .here) fun id' hfresh => ?_
      rw [hl, show 0 + N.length = N.length * 1 by omega]
      show WG sW ftab _ 42 ((0, .row ((cur.map AV.str).take i ++ (AV.str s).cells ++ (cur.map AV.str).drop (i + 1)) N.length ⟨fr, id', 0, 1⟩) :: _) _ _
      rw [set_map (by omega)]
      refine cgo ?_
      refine g_do rfl (o_add (xt rfl) xc (by constructor <;> omega) ?_)
      refine cgo ?_
      refine g_do rfl (o_add (xt rfl) xc (by constructor <;> omega) ?_)
      refine cgo ?_
      refine l_sub (e' := [(0, .row ((cur.set i s).map .str) N.length ⟨fr, id', 0, 1⟩), (1, .fn 22 [.ptr b 0]), (5, .int .i64 ((i + 1 : Nat) : Int)), (6, .int .i64 ((j + 1 : Nat) : Int))]) (.cons rfl (.cons rfl (.cons rfl (.cons rfl .nil)))) (fun _ h => h) ?_
      refine del_loop hT hN hlen hb hw hQ r (j + 1) (i + 1) id' (cur.set i s) (by omega) (by omega) (by rw [List.length_set, hc]) ?_ ?_
      · rw [List.take_add_one, List.getElem?_set_self (by omega), List.take_set_of_le (Nat.le_refl _), ht, htk, List.filter_append]
        simp [hds']
      · rw [List.drop_set_of_lt (by omega)]; exact hd1
/-- What a pattern does not leave out. -/
theorem delf_ev {v : AV} {N : List ByteArray} {d : List Fact} (hT : T.size ≤ 1000000) (hN : ∀ s ∈ N, 0 < s.size ∧ s.size ≤ 1000000) (hlen : N.length ≤ 1000000) (hb : Has B (.blk b (.cells [.str T, lw]))) (hw : RV B 1 lw (L.map .bool) L.length) (hA : AR 1 v (N.map .str) N.length d) {K : KK}
    (h : ∀ v' d', RV (d' ++ B) 1 v' ((N.filter (fun s => !dG T L s)).map .str) (N.filter (fun s => !dG T L s)).length → K v' (d' ++ B)) : Ev sW ftab 21 [v, .fn 22 [.ptr b 0]] (d ++ B) K := by
  refine ev_fn (nt := 42) (kb := kb21) (kr := kr21) rfl rfl (Nat.le_of_ble_eq_true rfl) ?_
  refine cgo ?_
  refine g_do rfl (o_call (.cons (xt rfl) (.cons (xt rfl) .nil)) (idxf_ev hT hN hlen (Has.app hb) (RV.app hw) (RV.of hA) ?_))
  by_cases hf : firstG (dG T L) N 0 = -1
  · rw [hf]
    refine cgo ?_
    refine g_do rfl (o_eqi (xt rfl) xc (fun _ => ?_) (fun h => absurd rfl h))
    refine cgo ?_
    have hall : N.filter (fun s => !dG T L s) = N := List.filter_eq_self.2 fun x hx => by rw [firstG_none hf x hx]; rfl
    rw [hall] at h
    exact ⟨trivial, _, d ++ B, .one (.tmp rfl), .refl _, h v d (RV.of hA)⟩
  · obtain ⟨k, h1, h2, h3⟩ := firstG_some hf
    rw [Nat.zero_add] at h1
    rw [h1]
    rcases hA.inv with ⟨rfl, h4, h5, rfl⟩ | ⟨fr, id, hne, rfl, rfl⟩
    · omega
    refine cgo ?_
    refine g_do rfl (o_eqi (xt rfl) xc (fun h => absurd h (by omega)) (fun _ => ?_))
    refine cgo ?_
    refine g_do rfl (o_add (xt rfl) xc (by constructor <;> omega) ?_)
    refine cgo ?_
    refine w_block (w_loop ?_)
    refine l_sub (e' := [(0, .row (N.map .str) N.length ⟨fr, id, 0, 1⟩), (1, .fn 22 [.ptr b 0]), (5, .int .i64 ((k : Nat) : Int)), (6, .int .i64 ((k + 1 : Nat) : Int))]) (fs' := .row fr id (N.length * 1) :: B) (.cons rfl (.cons rfl (.cons rfl (.cons rfl .nil)))) (fun _ h => h) ?_
    refine del_loop hT hN hlen hb hw (fun en id cur i hti hc hi hS => ?_) (N.length - (k + 1)) (k + 1) k id N (by omega) (by omega) rfl h3.symm rfl
    refine w_sub hS (fun _ h => h) ?_
    refine cgo ?_
    refine g_own .here fun hfr => ?_
    have hl : (cur.map AV.str).length = N.length := by rw [List.length_map, hc]
    refine g_do rfl (o_cutr (xt rfl) (.own .here) rfl (.some (xt rfl)) .none (bounds_lo ⟨by omega, by omega⟩) ?_)
    refine g_clr (p := 36) (n := N.length) (s := ⟨fr, id, 0, 1⟩) (cs := cur.map .str) (k := i) (m := N.length * 1) (fs' := fun id' => .row fr id' (0 + (cur.map AV.str).length) :: B) rfl (xt rfl) (xt rfl) ?_ (fun _ => .here) fun id' hfresh => ?_
    · have ha : ∀ q, Src.adv ⟨fr, id, 0, 1⟩ q = ⟨fr, id, 0 + q, 1⟩ := fun q => by
        cases fr with
        | zero => exact absurd rfl hfr
        | succ f => rfl
      rw [ha]
      refine ⟨rfl, rfl, by show 0 + ((i : Nat) : Int).toNat * 1 = 0 + i; omega, rfl, rfl, ?_, hl.symm, ?_, by omega⟩
      · rw [List.length_take, List.length_drop, hl]; omega
      · rw [List.length_take, List.length_drop, hl]; omega
    have hsw := fun (s' : Src) (cs' : List AV) => swap_eq (s' := s') (cs' := cs') (s := ⟨fr, id, 0, 1⟩) (cs := cur.map AV.str) (n := N.length) hfr
    rw [hl] at hsw
    rw [hl, show 0 + N.length = N.length * 1 by omega]
    refine g_sub (e' := [(0, .row ((cur.map AV.str).take i ++ List.replicate (N.length - i) (.str ⟨#[]⟩)) N.length ⟨fr, id', 0, 1⟩), (5, .int .i64 ((i : Nat) : Int))]) (.cons (congrArg some (hsw _ _)) (.cons rfl .nil)) (fun _ h => h) ?_
    refine cgo ?_
    refine g_do rfl (o_cutr (xt rfl) (.own .here) rfl .none (.some (xt rfl)) (bounds_hi ⟨by omega, by omega⟩) ?_)
    refine cgo ?_
    refine ⟨trivial, _, _, .one (.tmp rfl), .refl _, h _ [.row fr id' (N.length * 1)] ?_⟩
    have e1 : (((cur.map AV.str).take i ++ List.replicate (N.length - i) (AV.str ⟨#[]⟩)).drop (0 * 1)).take ((((i : Nat) : Int).toNat - 0) * 1) = (N.filter (fun s => !dG T L s)).map .str := by
      rw [Nat.zero_mul, List.drop_zero, show (((i : Nat) : Int).toNat - 0) * 1 = i by omega, List.take_append_of_le_length (by rw [List.length_take, hl]; omega), List.take_take, Nat.min_self, ← List.map_take, hti]
    have e2 : ((i : Nat) : Int).toNat - 0 = (N.filter (fun s => !dG T L s)).length := by
      rw [← hti, List.length_take, hc]; omega
    rw [e1, e2]
    have hrd : Rd (.row fr id' (N.length * 1) :: B) ⟨fr, id', 0, 1⟩ := .own .here
    exact .row (hrd.adv _) (by rw [adv_size])
end
/-- No keys: no row. -/
theorem sorted0_ev {S : Sum} {F : FuncId → Option AF} {f K1 : FuncId} {i j c : Nat} {es : List (AV × AV × Nat)} (hS : S f = some (sortO K1)) (hi : Has fs (.blk i (.cells [.map j]))) (hj : Has fs (.blk j (.map es c))) (hk : keysOf es = some []) (hok : mapOkB es c [] = true) {K : KK}
    (h : K .nilrow fs) : Ev S F f [.fn K1 [.ptr i 0]] fs K :=
  ev_sum hS fun h1 h2 => ⟨_, _, _, h2, h, by
    unfold sortO
    simp only [if_true, h2.get hi, h2.get hj, hk]
    rw [if_pos hok]; rfl⟩
/-! Names; those that a pattern tells. -/
def sortB (ks : List ByteArray) : List ByteArray := (sortK ks).map fun l => ⟨l.toArray⟩
theorem sortB_len (ks : List ByteArray) : (sortB ks).length = ks.length := by unfold sortB sortK; rw [List.length_map, List.length_mergeSort, List.length_map]
theorem sortB_mem {ks : List ByteArray} {s : ByteArray} : s ∈ sortB ks ↔ s ∈ ks := by
  unfold sortB sortK
  rw [List.mem_map]
  constructor
  · rintro ⟨l, hl, rfl⟩
    obtain ⟨x, hx, rfl⟩ := List.mem_map.1 ((List.mergeSort_perm _ _).mem_iff.1 hl)
    exact hx
  · intro hs
    exact ⟨s.data.toList, (List.mergeSort_perm _ _).mem_iff.2 (List.mem_map.2 ⟨s, hs, rfl⟩), rfl⟩
theorem names_ev {i j c : Nat} {es : List (AV × AV × Nat)} {ks : List ByteArray} (hi : Has fs (.blk i (.cells [.map j]))) (hj : Has fs (.blk j (.map es c))) (hm : MapF es c ks) {K : KK} (h : ∀ b v d, AR 1 v ((sortB ks).map .str) (sortB ks).length d → K v (d ++ .blk b (.cells [.map j]) :: fs)) : Ev sW ftab 10 [.ptr i 0] fs K := by
  by_cases h0 : ks = []
  · subst h0
    refine ev_fn (nt := 9) (kb := kb10) (kr := kr10) rfl rfl (Nat.le_of_ble_eq_true rfl) ?_
    refine cgo ?_
    refine g_do rfl (o_load (xt rfl) hi rfl ?_)
    refine g_do rfl (o_call (.cons (xt rfl) .nil) (ev_fn (nt := 4) (kb := kb26) (kr := kr26) rfl rfl (Nat.le_of_ble_eq_true rfl) ?_))
    refine w_rs (g_do rfl (o_box (xt rfl) rfl fun b => ?_))
    refine cgo ?_
    refine g_do rfl (o_fn (.cons (xt rfl) .nil) ?_)
    refine cgo ?_
    refine ⟨trivial, _, _, .one (.tmp rfl), .refl _, ?_⟩
    refine g_do rfl (o_call (.cons (xt rfl) .nil) (sorted0_ev rfl .here (.there hj) hm.ok.keys (mapOk_B hm.ok) ?_))
    refine cgo ?_
    exact ⟨trivial, _, _, .one (.tmp rfl), .refl _, h b .nilrow [] (by rw [show sortB [] = [] by simp [sortB, sortK]]; exact .nil)⟩
  · refine tnames_ev hi hj hm h0 fun b f id => ?_
    have h1 := h b (.row ((sortB ks).map .str) (sortB ks).length ⟨f, id, 0, 1⟩) [.row f id ((sortB ks).length * 1)] (.own (by rw [sortB_len]; exact fun h => h0 (List.eq_nil_of_length_eq_zero h)))
    rw [sortB_len] at h1
    have e1 : (sortB ks).map AV.str = (sortK ks).map fun l => .str ⟨l.toArray⟩ := by unfold sortB; rw [List.map_map]; rfl
    rw [e1] at h1
    exact h1
/-- The files that a pattern tells. -/
def toldG (T : ByteArray) (L : List Bool) (ks : List ByteArray) : List ByteArray := (sortB ks).filter fun s => !dG T L s
theorem tglob_ev {T : ByteArray} {lw : AV} {L : List Bool} {i j c : Nat} {es : List (AV × AV × Nat)} {ks : List ByteArray} (hT : T.size ≤ 1000000) (hi : Has fs (.blk i (.cells [.map j]))) (hj : Has fs (.blk j (.map es c))) (hm : MapF es c ks) (hks : ks.length ≤ 1000000) (hok : ∀ s ∈ ks, 0 < s.size ∧ s.size ≤ 1000000) (hw : RV fs 1 lw (L.map .bool) L.length) {K : KK}
    (h : ∀ v d b b2, RV (d ++ (.blk b2 (.cells [.map j]) :: .blk b (.cells [.str T, lw]) :: fs)) 1 v ((toldG T L ks).map .str) (toldG T L ks).length → K v (d ++ (.blk b2 (.cells [.map j]) :: .blk b (.cells [.str T, lw]) :: fs))) : Ev sW ftab 9 [.ptr i 0, .agg [.str T, lw]] fs K := by
  refine ev_fn (nt := 9) (kb := kb9) (kr := kr9) rfl rfl (Nat.le_of_ble_eq_true rfl) ?_
  refine cgo ?_
  refine g_do rfl (o_box (xt rfl) rfl fun b => ?_)
  refine cgo ?_
  refine g_do rfl (o_call (.cons (xt rfl) .nil) (names_ev (.there hi) (.there hj) hm fun b2 v d hA => ?_))
  refine g_do rfl (o_fn (.cons (xt rfl) .nil) ?_)
  refine g_do rfl (o_call (.cons (xt rfl) (.cons (xt rfl) .nil)) (delf_ev (b := b) hT (fun s hs => hok s (sortB_mem.1 hs)) (by rw [sortB_len]; exact hks) (.there .here) hw.cons.cons hA fun v' d' hv => ?_))
  refine cgo ?_
  exact ⟨trivial, _, _, .one (.tmp rfl), .refl _, h v' d' b b2 hv⟩
theorem go_plain {t s : List UInt8} : ∀ (r i : Nat) (g : Nat → Bool) (j : Nat), i + r = t.length → j ≤ s.length → goB t [] s r i g j = (decide (r ≤ j) && (g (j - r) && decide ((s.drop (j - r)).take r = t.drop i)))
  | 0, i, g, j, hi, hj => by
    rw [List.drop_of_length_le (show t.length ≤ i by omega)]
    simp [goB]
  | r + 1, i, g, j, hi, hj => by
    have hlt : i < t.length := by omega
    have hb : ∀ k c, isB t [] k c = false := fun k c => by unfold isB lvB; simp
    have hk : brk t [] i = none := by unfold brk; rw [hb, if_neg (by simp)]
    have hst : stepB t [] s i g = oneUp (eqAt t i) s g := by
      have ht : takeB t [] i = eqAt t i := by
        funext c
        unfold takeB
        rw [hb, if_neg (by simp), hk]
      unfold stepB
      rw [hb, if_neg (by simp), ht]
    unfold goB
    rw [if_pos hlt, nextB_is hk, hst, go_plain r (i + 1) _ j (by omega) hj]
    by_cases h1 : r + 1 ≤ j
    · obtain ⟨p, hp⟩ : ∃ p, j - r = p + 1 := ⟨j - r - 1, by omega⟩
      have hps : p < s.length := by omega
      rw [hp, show j - (r + 1) = p by omega, decide_eq_true (show r ≤ j by omega), decide_eq_true h1, Bool.true_and, Bool.true_and]
      show ((match s[p]? with | some b => g p && eqAt t i b.toNat | none => false) && _) = _
      rw [List.getElem?_eq_getElem hps, List.drop_eq_getElem_cons hps, List.drop_eq_getElem_cons hlt, List.take_succ_cons]
      simp only
      rw [Bool.and_assoc]
      congr 1
      unfold eqAt
      rw [List.getElem?_eq_getElem hlt, ← Bool.decide_and]
      refine decide_eq_decide.2 ⟨fun ⟨h2, h3⟩ => ?_, fun h2 => ?_⟩
      · rw [h3, UInt8.toNat_inj.1 (Option.some.inj h2)]
      · injection h2 with h3 h4
        exact ⟨by rw [h3]; rfl, h4⟩
    · rw [decide_eq_false h1, Bool.false_and]
      by_cases h2 : r ≤ j
      · have : j - r = 0 := by omega
        rw [this]
        simp [oneUp]
      · rw [decide_eq_false h2, Bool.false_and]
theorem match_plain (t s : List UInt8) : matchB t [] s = decide (s = t) := by
  unfold matchB
  rw [go_plain t.length 0 _ s.length (by omega) (Nat.le_refl _), List.drop_zero, ← Bool.decide_and, ← Bool.decide_and]
  refine decide_eq_decide.2 ⟨fun ⟨h1, h2, h3⟩ => ?_, fun h => ?_⟩
  · rw [show s.length - t.length = 0 by omega, List.drop_zero, List.take_of_length_le (by omega)] at h3; exact h3
  · subst h; simp
def lives (n : Nat) : List Bool := List.replicate n true
theorem live_loop {s : ByteArray} {x2 x3 : Nat} (hs : s.size ≤ 1000000) {Q : AO → Env → List Fact → Prop}
    (hQ : ∀ en lw d, AR 1 lw ((lives s.size).map .bool) s.size d → Sub en [(2, .ptr x2 0), (3, .ptr x3 0)] → Q (.exit 0) en (d ++ .blk x3 (.cells [.str s, lw]) :: .blk x2 (.cells [.str ⟨#[]⟩, .nilrow]) :: fs)) :
    ∀ (r i : Nat) (lw : AV) (d : List Fact), i + r = s.size → AR 1 lw ((lives i).map .bool) i d →
    WL sW ftab lb8_0 19 [(0, .str s), (2, .ptr x2 0), (3, .ptr x3 0), (4, .int .i64 i)] (d ++ .blk x3 (.cells [.str s, lw]) :: .blk x2 (.cells [.str ⟨#[]⟩, .nilrow]) :: fs) Q
  | 0, i, lw, d, hi, hA => by
    refine l_round ?_
    refine cgo ?_
    refine g_do rfl (o_lss (xt rfl) (xt rfl) (fun h => by omega) (fun h => ?_))
    refine cgo ?_
    obtain rfl : i = s.size := by omega
    exact hQ _ lw d hA (.cons rfl (.cons rfl .nil))
  | r + 1, i, lw, d, hi, hA => by
    refine l_round ?_
    refine cgo ?_
    refine g_do rfl (o_lss (xt rfl) (xt rfl) (fun h => ?_) (fun h => by omega))
    refine cgo ?_
    refine w_block ?_
    rcases hA.inv with ⟨rfl, _, rfl, rfl⟩ | ⟨f, id, hne, rfl, rfl⟩
    · show WC sW ftab _ 19 _ (.blk x3 (.cells [.str s, .nilrow]) :: .blk x2 (.cells [.str ⟨#[]⟩, .nilrow]) :: fs) _
      refine cgo ?_
      refine g_do rfl (o_row (cs := [.bool true]) (.cons xc .nil) rfl rfl fun f0 id0 => ?_)
      refine g_do rfl (o_appn (xt rfl) (.own (xt rfl) .here rfl) rfl (by decide) ⟨by decide, by decide⟩ fun f1 id1 => ?_)
      refine cgo ?_
      refine g_do rfl (o_add (xt rfl) xc (by constructor <;> omega) ?_)
      refine cgo ?_
      refine l_sub (fs' := [.row f1 id1 (1 * 1)] ++ .blk x3 (.cells [.str s, .row [.bool true] 1 ⟨f1, id1, 0, 1⟩]) :: .blk x2 (.cells [.str ⟨#[]⟩, .nilrow]) :: fs) (e' := [(0, .str s), (2, .ptr x2 0), (3, .ptr x3 0), (4, .int .i64 ((1 : Nat) : Int))]) (.cons rfl (.cons rfl (.cons rfl (.cons rfl .nil)))) (fun _ h => h.mono (.cons_cons _ (.cons _ (.refl _)))) ?_
      exact live_loop hs hQ r 1 _ _ (by omega) (.own (by decide))
    · show WC sW ftab _ 19 _ (.row f id (i * 1) :: .blk x3 (.cells [.str s, .row ((lives i).map .bool) i ⟨f, id, 0, 1⟩]) :: .blk x2 (.cells [.str ⟨#[]⟩, .nilrow]) :: fs) _
      refine cgo ?_
      refine g_do rfl (o_row (cs := [.bool true]) (.cons xc .nil) rfl rfl fun f0 id0 => ?_)
      refine g_do rfl (o_appo (fs' := fun id' => .row f0 id0 (1 * 1) :: .row f id' (0 + i * 1 + 1 * 1) :: .blk x3 (.cells [.str s, .row ((lives i).map .bool) i ⟨f, id, 0, 1⟩]) :: .blk x2 (.cells [.str ⟨#[]⟩, .nilrow]) :: fs) (xt rfl) (.own (xt rfl) .here rfl) rfl (by decide) ⟨by omega, by omega⟩ rfl (fun id' => .there .here) fun id1 => ?_)
      refine cgo ?_
      refine g_do rfl (o_add (xt rfl) xc (by constructor <;> omega) ?_)
      refine cgo ?_
      refine l_sub (fs' := [.row f id1 ((i + 1) * 1)] ++ .blk x3 (.cells [.str s, .row ((lives i).map AV.bool ++ [.bool true]) (i + 1) ⟨f, id1, 0, 1⟩]) :: .blk x2 (.cells [.str ⟨#[]⟩, .nilrow]) :: fs) (e' := [(0, .str s), (2, .ptr x2 0), (3, .ptr x3 0), (4, .int .i64 ((i + 1 : Nat) : Int))]) (.cons rfl (.cons rfl (.cons rfl (.cons rfl .nil)))) (fun _ h => ?_) ?_
      · have h1 := h.mono (.cons _ (.refl _))
        rw [show 0 + i * 1 + 1 * 1 = (i + 1) * 1 by omega] at h1
        exact h1
      refine live_loop hs hQ r (i + 1) _ _ (by omega) ?_
      have := AR.own (size := 1) (cs := (lives (i + 1)).map AV.bool) (n := i + 1) (f := f) (id := id1) (by omega)
      have e1 : (lives (i + 1)).map AV.bool = (lives i).map AV.bool ++ [.bool true] := by unfold lives; rw [List.replicate_succ', List.map_append]; rfl
      rw [e1] at this ⊢
      exact this
theorem live_ev {s : ByteArray} (hs : s.size ≤ 1000000) {K : KK} (h : ∀ lw d, AR 1 lw ((lives s.size).map .bool) s.size d → K (.agg [.str s, lw]) (d ++ fs)) : Ev sW ftab 8 [.str s] fs K := by
  refine ev_fn (nt := 19) (kb := kb8) (kr := kr8) rfl rfl (Nat.le_of_ble_eq_true rfl) ?_
  refine cgo ?_
  refine g_do rfl (o_box xc rfl fun x2 => ?_)
  refine cgo ?_
  refine g_do rfl (o_box xc rfl fun x3 => ?_)
  refine cgo ?_
  refine w_block (w_loop ?_)
  refine l_sub (fs' := [] ++ .blk x3 (.cells [.str s, .nilrow]) :: .blk x2 (.cells [.str ⟨#[]⟩, .nilrow]) :: fs) (e' := [(0, .str s), (2, .ptr x2 0), (3, .ptr x3 0), (4, .int .i64 ((0 : Nat) : Int))]) (.cons rfl (.cons rfl (.cons rfl (.cons rfl .nil)))) (fun _ h => h) ?_
  refine live_loop hs (fun en lw d hA hS => ?_) s.size 0 .nilrow [] (by omega) .nil
  have hx3 : Has (d ++ .blk x3 (.cells [.str s, lw]) :: .blk x2 (.cells [.str ⟨#[]⟩, .nilrow]) :: fs) (.blk x3 (.cells [.str s, lw])) := Has.app .here
  refine w_sub hS (fun _ h => h) ?_
  refine cgo ?_
  refine g_do rfl (o_load (xt rfl) hx3 rfl ?_)
  refine g_do0 (o_store (xt rfl) (xt rfl) (Put.app (.there .here)) ⟨rfl, (Nat.le_of_ble_eq_true rfl)⟩ (by show (EvA.scalar lw && _) = true; rw [hA.scalar]; rfl) rfl ?_)
  refine cgo ?_
  exact ⟨trivial, _, d ++ fs, .one (.cell rfl (Has.app (.there .here)) rfl), (List.Sublist.refl d).append (.cons _ (.cons _ (.refl _))), h lw d hA⟩
theorem o_ges {S : Sum} {F : FuncId → Option AF} {e : Env} {x y : AX} {a b : ByteArray} {K : KK} (hx : XV e x (.str a)) (hy : XV e y (.str b)) (h : K (.bool (!decide (a.data.toList < b.data.toList))) fs) : WO S F (oArith .geq x y) e fs K :=
  o_arith hx hy (by simp only [aarith, bytesLess_eq, ByteArray.toList_eq]) h
theorem sortB_up {ks : List ByteArray} (h : (ks.map fun s => s.data.toList).Nodup) : (sortB ks).Pairwise fun a b => a.data.toList < b.data.toList := by
  have h1 : (sortK ks).Pairwise (· ≤ ·) := by rw [← sortI_eq]; exact sortI_le _
  have h2 : (sortK ks).Nodup := (List.mergeSort_perm _ _).nodup_iff.2 h
  unfold sortB
  rw [List.pairwise_map]
  rw [List.nodup_iff_pairwise_ne] at h2
  refine (h1.and h2).imp fun {a b} hab => ?_
  show a < b
  by_cases hl : a < b
  · exact hl
  · exact absurd (List.le_antisymm hab.1 (List.not_lt.1 hl)) hab.2
theorem up_nodup {l : List ByteArray} (h : l.Pairwise fun a b => a.data.toList < b.data.toList) : l.Nodup := by
  rw [List.nodup_iff_pairwise_ne]
  refine h.imp fun {a b} hab e => ?_
  subst e
  exact List.lt_irrefl _ hab
theorem addK_ok {ks : List ByteArray} {s x : ByteArray} (h : x ∈ addK ks s) : x ∈ ks ∨ okS x = true := by
  unfold addK at h
  split at h
  · rename_i hok
    split at h
    · exact Or.inl h
    · split at h
      · exact Or.inl h
      · rcases List.mem_append.1 h with h | h
        · exact Or.inl h
        · rw [List.mem_singleton.1 h]; exact Or.inr hok
  · exact Or.inl h
theorem foldK_ok : ∀ (T ks : List ByteArray), (∀ x ∈ ks, okS x = true) → ∀ x ∈ T.foldl addK ks, okS x = true
  | [], ks, h, x, hx => h x hx
  | a :: T, ks, h, x, hx => foldK_ok T (addK ks a) (fun y hy => (addK_ok hy).elim (h y) id) x hx
theorem foldK_len : ∀ (T ks : List ByteArray), ks.length ≤ 200 → (T.foldl addK ks).length ≤ 200
  | [], ks, h => h
  | a :: T, ks, h => foldK_len T _ (addK_len h)
theorem okS_size {s : ByteArray} (h : okS s = true) : 0 < s.size ∧ s.size ≤ 1000000 := by
  have := of_decide_eq_true h
  omega
theorem filt_one {α : Type} {l : List α} {p : α → Bool} {a : α} (hn : l.Nodup) (hp : ∀ x, p x = true ↔ x = a) : (a ∈ l → l.filter p = [a]) ∧ (a ∉ l → l.filter p = []) := by
  induction l with
  | nil => exact ⟨fun h => (by cases h), fun _ => rfl⟩
  | cons x r ih =>
    rw [List.nodup_cons] at hn
    obtain ⟨i1, i2⟩ := ih hn.2
    by_cases hx : x = a
    · subst hx
      exact ⟨fun _ => by rw [List.filter_cons, if_pos ((hp x).2 rfl), i2 hn.1], fun h => absurd (List.mem_cons_self ..) h⟩
    · have : ¬ p x = true := fun h => hx ((hp x).1 h)
      rw [List.filter_cons, if_neg this]
      exact ⟨fun h => i1 ((List.mem_cons.1 h).resolve_left (fun e => hx e.symm)), fun h => i2 fun hm => h (List.mem_cons_of_mem _ hm)⟩
theorem plain_told {T : ByteArray} {ks : List ByteArray} (h : (ks.map fun s => s.data.toList).Nodup) : (T ∈ ks → toldG T [] ks = [T]) ∧ (T ∉ ks → toldG T [] ks = []) := by
  have hp : ∀ x : ByteArray, (!dG T [] x) = true ↔ x = T := fun x => by
    unfold dG dropG
    rw [match_plain]
    constructor
    · intro hh
      simp only [Bool.not_or, Bool.and_eq_true, Bool.not_not, decide_eq_true_eq] at hh
      exact ByteArray.ext (Array.ext' hh.2)
    · rintro rfl
      simp
  have h1 := filt_one (up_nodup (sortB_up h)) hp
  exact ⟨fun hm => h1.1 (sortB_mem.2 hm), fun hm => h1.2 fun h => hm (sortB_mem.1 h)⟩
/-- The law's own loop. -/
theorem glob_loop {raw : ByteArray} {lw gv av : AV} {L : List Bool} {N : List ByteArray} {i6 x7 : Nat} (hr : 0 < raw.size ∧ raw.size ≤ 1000000) (hN : ∀ s ∈ N, 0 < s.size ∧ s.size ≤ 1000000) (hlen : N.length ≤ 1000000) (hup : N.Pairwise fun a b => a.data.toList < b.data.toList)
    (hx : Has fs (.blk x7 (.cells [.str raw, lw]))) (hw : RV fs 1 lw (L.map .bool) L.length) (ha : RV fs 1 av (N.map .str) N.length) (hg : RV fs 1 gv ((N.filter fun s => !dG raw L s).map .str) (N.filter fun s => !dG raw L s).length) {Q : AO → Env → List Fact → Prop}
    (hQ : ∀ en, Sub en [(1, .str raw), (6, .ptr i6 0), (8, gv), (10, .int .i64 ((N.filter fun s => !dG raw L s).length : Int))] → Q (.exit 2) en fs) :
    ∀ (r q : Nat), q + r = N.length → WL sW ftab lb3_1 147 [(1, .str raw), (6, .ptr i6 0), (7, .ptr x7 0), (8, gv), (9, av), (10, .int .i64 (((N.take q).filter fun s => !dG raw L s).length : Int)), (11, .int .i64 q)] fs Q
  | 0, q, hq => by
    refine l_round ?_
    refine cgo ?_
    refine g_do rfl (o_len (xt rfl) ha ?_)
    refine g_do rfl (o_lss (xt rfl) (xt rfl) (fun h => by omega) (fun h => ?_))
    refine cgo ?_
    rw [show N.take q = N from List.take_of_length_le (by omega)]
    exact hQ _ (.cons rfl (.cons rfl (.cons rfl (.cons rfl .nil))))
  | r + 1, q, hq => by
    have hlt : q < N.length := by omega
    have hmem := hN N[q] (List.getElem_mem hlt)
    have hel : apart (N.map AV.str) (((q : Nat) : Int).toNat * 1) none = some (.str N[q]) := by
      simp only [apart]
      rw [show ((q : Nat) : Int).toNat * 1 = q by omega, List.getElem?_map, List.getElem?_eq_getElem hlt]; rfl
    have htk : N.take (q + 1) = N.take q ++ [N[q]] := by rw [List.take_add_one, List.getElem?_eq_getElem hlt]; rfl
    have hsplit : N = N.take q ++ N[q] :: N.drop (q + 1) := by rw [← List.drop_eq_getElem_cons hlt, List.take_append_drop]
    have hprev : ∀ p, p + 1 = q → ∃ u, N[p]? = some u ∧ u.data.toList < N[q].data.toList := fun p hp => by
      refine ⟨N[p], List.getElem?_eq_getElem (by omega), ?_⟩
      exact List.pairwise_iff_getElem.1 hup p q (by omega) hlt (by omega)
    generalize N[q] = s at hmem hel htk hsplit hprev
    obtain ⟨y, hy⟩ := tget (T := s) (i := 0) (by omega)
    obtain ⟨z, hz⟩ := tget (T := raw) (i := 0) (by omega)
    have hps : pre1 s.data.toList = decide (y.toNat = 46) := by unfold pre1; rw [hy]; exact decide_eq_decide.2 ⟨fun h => Option.some.inj h, fun h => congrArg some h⟩
    have hpr : pre1 raw.data.toList = decide (z.toNat = 46) := by unfold pre1; rw [hz]; exact decide_eq_decide.2 ⟨fun h => Option.some.inj h, fun h => congrArg some h⟩
    have hdg : dG raw L s = ((decide (y.toNat = 46) && !decide (z.toNat = 46)) || !matchB raw.data.toList L s.data.toList) := by show dropG _ _ _ = _; unfold dropG; rw [hps, hpr]
    obtain ⟨sr, rfl, hrd, hz1⟩ := ha.some (by omega)
    have skip : dG raw L s = true → ∀ en, Sub en [(1, .str raw), (6, .ptr i6 0), (7, .ptr x7 0), (8, gv), (9, .row (N.map .str) N.length sr), (10, .int .i64 (((N.take q).filter fun s => !dG raw L s).length : Int)), (11, .int .i64 ((q + 1 : Nat) : Int))] → WL sW ftab lb3_1 147 en fs Q := fun hd en hS => by
      have e1 : ((N.take (q + 1)).filter fun s => !dG raw L s) = (N.take q).filter fun s => !dG raw L s := by rw [htk, List.filter_append]; simp [hd]
      refine l_sub hS (fun _ h => h) ?_
      rw [← e1]
      exact glob_loop hr hN hlen hup hx hw ha hg hQ r (q + 1) (by omega)
    have keep : dG raw L s = false → ((N.take q).filter fun s => !dG raw L s).length < (N.filter fun s => !dG raw L s).length ∧ ((N.filter fun s => !dG raw L s)).length ≤ N.length ∧ (N.filter fun s => !dG raw L s)[((N.take q).filter fun s => !dG raw L s).length]? = some s ∧
        ∀ en, Sub en [(1, .str raw), (6, .ptr i6 0), (7, .ptr x7 0), (8, gv), (9, .row (N.map .str) N.length sr), (10, .int .i64 (((((N.take q).filter fun s => !dG raw L s).length + 1 : Nat)) : Int)), (11, .int .i64 ((q + 1 : Nat) : Int))] → WL sW ftab lb3_1 147 en fs Q := fun hd => by
      have e1 : (N.filter fun s => !dG raw L s) = ((N.take q).filter fun s => !dG raw L s) ++ s :: ((N.drop (q + 1)).filter fun s => !dG raw L s) := by
        conv => lhs; rw [hsplit]
        rw [List.filter_append, List.filter_cons, if_pos (by rw [hd]; rfl)]
      have e2 : ((N.take (q + 1)).filter fun s => !dG raw L s) = ((N.take q).filter fun s => !dG raw L s) ++ [s] := by rw [htk, List.filter_append]; simp [hd]
      refine ⟨by rw [e1, List.length_append, List.length_cons]; omega, List.length_filter_le .., by rw [e1, List.getElem?_append_right (Nat.le_refl _), Nat.sub_self]; rfl, fun en hS => ?_⟩
      refine l_sub hS (fun _ h => h) ?_
      have := glob_loop hr hN hlen hup hx hw ha hg hQ r (q + 1) (by omega)
      rw [e2, List.length_append] at this
      exact this
    refine l_round ?_
    refine cgo ?_
    refine g_do rfl (o_lss (xt rfl) (xt rfl) (fun h => ?_) (fun h => by omega))
    refine cgo ?_
    refine w_block ?_
    refine cgo ?_
    refine g_do rfl (o_iaddr (xt rfl) (xt rfl) ⟨by omega, by omega⟩ hz1 ?_)
    refine g_do rfl (o_loadr (v := .str s) (xt rfl) hrd hel ?_)
    refine g_mono (Q := fun e' fs' => fs' = fs ∧ Sub e' [(78, .bool false), (1, .str raw), (6, .ptr i6 0), (7, .ptr x7 0), (8, gv), (9, .row (N.map .str) N.length sr), (10, .int .i64 (((N.take q).filter fun s => !dG raw L s).length : Int)), (11, .int .i64 q)]) ?_ ?_
    · refine cgo ?_
      refine g_do rfl (o_eqi (xt rfl) xc (fun h => by omega) (fun _ => ?_))
      refine cgo ?_
      refine g_do rfl (o_gtr (xt rfl) xc (fun h0 => ?_) (fun h0 => ?_))
      · obtain ⟨p, rfl⟩ : ∃ p, q = p + 1 := ⟨q - 1, by omega⟩
        obtain ⟨u, hu, hul⟩ := hprev p rfl
        refine cgo ?_
        refine g_do rfl (o_sub (xt rfl) xc (by constructor <;> omega) ?_)
        rw [show ((p + 1 : Nat) : Int) - 1 = (p : Int) by omega]
        refine g_if rfl ?_
        refine g_do rfl (o_iaddr (xt rfl) (xt rfl) ⟨by omega, by omega⟩ hz1 ?_)
        refine g_if rfl ?_
        refine g_do rfl (o_loadr (v := .str u) (xt rfl) hrd (by
          simp only [apart]
          rw [show ((p : Nat) : Int).toNat * 1 = p by omega, List.getElem?_map, hu]; rfl) ?_)
        refine cgo ?_
        refine g_do rfl (o_iaddr (xt rfl) (xt rfl) ⟨by omega, by omega⟩ hz1 ?_)
        refine g_if rfl ?_
        refine g_do rfl (o_loadr (v := .str s) (xt rfl) hrd hel ?_)
        refine g_if rfl ?_
        refine g_do rfl (o_ges (xt rfl) (xt rfl) ?_)
        rw [decide_eq_true hul]
        refine cgo ?_
        exact ⟨rfl, .cons rfl (.cons rfl (.cons rfl (.cons rfl (.cons rfl (.cons rfl (.cons rfl (.cons rfl .nil)))))))⟩
      · refine cgo ?_
        exact ⟨rfl, .cons rfl (.cons rfl (.cons rfl (.cons rfl (.cons rfl (.cons rfl (.cons rfl (.cons rfl .nil)))))))⟩
    · rintro e' fs' ⟨rfl, hS⟩
      refine w_sub hS (fun _ h => h) ?_
      refine cgo ?_
      refine g_do rfl (o_load (xt rfl) hx rfl ?_)
      refine cgo ?_
      refine g_do rfl (o_iaddr (xt rfl) (xt rfl) ⟨by omega, by omega⟩ hz1 ?_)
      refine g_do rfl (o_loadr (v := .str s) (xt rfl) hrd hel ?_)
      refine g_do rfl (o_call (.cons (xt rfl) (.cons (xt rfl) .nil)) (dmatch_ev hr.2 hmem.2 hw ?_))
      refine g_mono (Q := fun e' fs2 => fs2 = fs' ∧ Sub e' [(97, .bool (!dG raw L s)), (1, .str raw), (6, .ptr i6 0), (7, .ptr x7 0), (8, gv), (9, .row (N.map .str) N.length sr), (10, .int .i64 (((N.take q).filter fun s => !dG raw L s).length : Int)), (11, .int .i64 q)]) ?_ ?_
      · cases hm : matchB raw.data.toList L s.data.toList with
        | false =>
          have e1 : dG raw L s = true := by rw [hdg, hm]; simp
          rw [e1]
          refine cgo ?_
          exact ⟨rfl, (.cons rfl (.cons rfl (.cons rfl (.cons rfl (.cons rfl (.cons rfl (.cons rfl (.cons rfl .nil))))))))⟩
        | true =>
          refine cgo ?_
          refine g_do rfl (o_iaddr (xt rfl) (xt rfl) ⟨by omega, by omega⟩ hz1 ?_)
          refine g_if rfl ?_
          refine g_do rfl (o_loadr (v := .str s) (xt rfl) hrd hel ?_)
          refine g_if rfl ?_
          refine g_do rfl (o_idx (b := y) (xt rfl) xc (by omega) hy ?_)
          refine g_if rfl ?_
          refine g_do rfl (o_nei (xt rfl) xc (fun h46 => ?_) (fun h46 => ?_))
          · refine cgo ?_
            refine g_do rfl (o_idx (b := z) (xt rfl) xc (by omega) hz ?_)
            refine g_if rfl ?_
            refine g_do rfl (o_eqi (xt rfl) xc (fun hz46 => ?_) (fun hz46 => ?_))
            · have e1 : dG raw L s = false := by rw [hdg, hm, decide_eq_true (show z.toNat = 46 by omega)]; simp
              rw [e1]
              refine cgo ?_
              exact ⟨rfl, (.cons rfl (.cons rfl (.cons rfl (.cons rfl (.cons rfl (.cons rfl (.cons rfl (.cons rfl .nil))))))))⟩
            · have e1 : dG raw L s = true := by rw [hdg, hm, decide_eq_true (show y.toNat = 46 by omega), decide_eq_false (show ¬ z.toNat = 46 by omega)]; rfl
              rw [e1]
              refine cgo ?_
              exact ⟨rfl, (.cons rfl (.cons rfl (.cons rfl (.cons rfl (.cons rfl (.cons rfl (.cons rfl (.cons rfl .nil))))))))⟩
          · have e1 : dG raw L s = false := by rw [hdg, hm, decide_eq_false (show ¬ y.toNat = 46 by omega)]; rfl
            rw [e1]
            refine cgo ?_
            exact ⟨rfl, (.cons rfl (.cons rfl (.cons rfl (.cons rfl (.cons rfl (.cons rfl (.cons rfl (.cons rfl .nil))))))))⟩
      · rintro e' fs2 ⟨rfl, hS⟩
        refine w_sub hS (fun _ h => h) ?_
        cases hd : dG raw L s with
        | true =>
          refine cgo ?_
          refine g_do rfl (o_add (xt rfl) xc (by constructor <;> omega) ?_)
          refine cgo ?_
          exact skip hd _ (.cons rfl (.cons rfl (.cons rfl (.cons rfl (.cons rfl (.cons rfl (.cons rfl .nil)))))))
        | false =>
          obtain ⟨hk, hgl, hgk, next⟩ := keep hd
          clear keep skip
          generalize ((N.take q).filter fun s => !dG raw L s).length = k at hk hgk next ⊢
          generalize (N.filter fun s => !dG raw L s) = G at hg hk hgk hgl
          obtain ⟨sg, rfl, hrg, hzg⟩ := hg.some (by omega)
          refine cgo ?_
          refine g_do rfl (o_geq (xt rfl) (xt rfl) (fun h => by omega) (fun _ => ?_))
          refine cgo ?_
          refine g_do rfl (o_iaddr (xt rfl) (xt rfl) ⟨by omega, by omega⟩ hzg ?_)
          refine g_if rfl ?_
          refine g_do rfl (o_loadr (v := .str s) (xt rfl) hrg (by
            simp only [apart]
            rw [show ((k : Nat) : Int).toNat * 1 = k by omega, List.getElem?_map, hgk]; rfl) ?_)
          refine cgo ?_
          refine g_do rfl (o_iaddr (xt rfl) (xt rfl) ⟨by omega, by omega⟩ hz1 ?_)
          refine g_if rfl ?_
          refine g_do rfl (o_loadr (v := .str s) (xt rfl) hrd hel ?_)
          refine g_if rfl ?_
          refine g_do rfl (o_nes (xt rfl) (xt rfl) (fun _ => ?_) (fun h => absurd rfl h))
          refine cgo ?_
          refine g_do rfl (o_add (xt rfl) xc (by constructor <;> omega) ?_)
          refine cgo ?_
          refine g_do rfl (o_add (xt rfl) xc (by constructor <;> omega) ?_)
          refine cgo ?_
          exact next _ (.cons rfl (.cons rfl (.cons rfl (.cons rfl (.cons rfl (.cons rfl (.cons rfl .nil)))))))
theorem chk_loop {nv : AV} {names : List ByteArray} {raw : ByteArray} (hM : RI 1 nv (names.map .str) names.length) (hlen : names.length ≤ 1000000) {Q : AO → Env → List Fact → Prop} (hQ1 : ∀ en, Sub en [(4, .bool true)] → Q .ret en fs) (hQ2 : ∀ en, Sub en [(0, nv), (1, .str raw)] → Q (.exit 0) en fs) :
    ∀ (r i : Nat), i + r = names.length → WL sW ftab lb3_0 147 [(0, nv), (1, .str raw), (5, .int .i64 i)] fs Q
  | 0, i, hi => by
    refine l_round ?_
    refine cgo ?_
    refine g_do rfl (o_len (xt rfl) hM.rv ?_)
    refine g_do rfl (o_lss (xt rfl) (xt rfl) (fun h => by omega) (fun h => ?_))
    refine cgo ?_
    exact hQ2 _ (.cons rfl (.cons rfl .nil))
  | r + 1, i, hi => by
    have hlt : i < names.length := by omega
    have hel : apart (names.map AV.str) (((i : Nat) : Int).toNat * 1) none = some (.str names[i]) := by
      simp only [apart]
      rw [show ((i : Nat) : Int).toNat * 1 = i by omega, List.getElem?_map, List.getElem?_eq_getElem hlt]; rfl
    generalize names[i] = s at hel
    have hv := hM.rv (fs := fs)
    obtain ⟨sr, rfl, hrd, hz⟩ := hv.some (by omega)
    refine l_round ?_
    refine cgo ?_
    refine g_do rfl (o_lss (xt rfl) (xt rfl) (fun h => ?_) (fun h => by omega))
    refine cgo ?_
    refine w_block ?_
    refine cgo ?_
    refine g_do rfl (o_iaddr (xt rfl) (xt rfl) ⟨by omega, by omega⟩ hz ?_)
    refine g_do rfl (o_loadr (v := .str s) (xt rfl) hrd hel ?_)
    refine cgo ?_
    refine g_do rfl (o_gtr (xt rfl) xc (fun h1 => ?_) (fun h1 => ?_))
    · refine cgo ?_
      refine g_do rfl (o_call .nil (awake_ev ?_))
      refine cgo ?_
      exact hQ1 _ (.cons rfl .nil)
    · refine cgo ?_
      refine g_do rfl (o_add (xt rfl) xc (by constructor <;> omega) ?_)
      refine cgo ?_
      refine l_sub (e' := [(0, .row (names.map .str) names.length sr), (1, .str raw), (5, .int .i64 ((i + 1 : Nat) : Int))]) (.cons rfl (.cons rfl (.cons rfl .nil))) (fun _ h => h) ?_
      exact chk_loop hM hlen hQ1 hQ2 r (i + 1) (by omega)
theorem globs_ev {nv : AV} {names : List ByteArray} {raw : ByteArray} (hM : RI 1 nv (names.map .str) names.length) : Ev sW ftab 3 [nv, .str raw] [] fun v _ => v = .bool true := by
  refine ev_fn (nt := 147) (kb := kb3) (kr := kr3) rfl rfl (Nat.le_of_ble_eq_true rfl) ?_
  refine cgo ?_
  refine g_do rfl (o_len (xt rfl) hM.rv ?_)
  refine g_mono (Q := fun e' fs' => fs' = [] ∧ Sub e' [(25, .bool (decide (60 < names.length) || (decide (60 < raw.size) || decide (raw.size = 0)))), (0, nv), (1, .str raw)]) ?_ ?_
  · refine g_do rfl (o_gtr (xt rfl) xc (fun h1 => ?_) (fun h1 => ?_))
    · rw [decide_eq_true (show 60 < names.length by omega), Bool.true_or]
      refine cgo ?_
      exact ⟨rfl, .cons rfl (.cons rfl (.cons rfl .nil))⟩
    · rw [decide_eq_false (show ¬ 60 < names.length by omega), Bool.false_or]
      refine cgo ?_
      refine g_do rfl (o_gtr (xt rfl) xc (fun h2 => ?_) (fun h2 => ?_))
      · rw [decide_eq_true (show 60 < raw.size by omega), Bool.true_or]
        refine cgo ?_
        exact ⟨rfl, .cons rfl (.cons rfl (.cons rfl .nil))⟩
      · rw [decide_eq_false (show ¬ 60 < raw.size by omega), Bool.false_or]
        refine cgo ?_
        refine g_do rfl (o_eqi (xt rfl) xc (fun h3 => ?_) (fun h3 => ?_))
        · rw [decide_eq_true (show raw.size = 0 by omega)]
          refine cgo ?_
          exact ⟨rfl, .cons rfl (.cons rfl (.cons rfl .nil))⟩
        · rw [decide_eq_false (show ¬ raw.size = 0 by omega)]
          refine cgo ?_
          exact ⟨rfl, .cons rfl (.cons rfl (.cons rfl .nil))⟩
  rintro e' fs' ⟨rfl, hS⟩
  refine w_sub hS (fun _ h => h) ?_
  by_cases hg : 60 < names.length ∨ 60 < raw.size ∨ raw.size = 0
  · have hb : (decide (60 < names.length) || (decide (60 < raw.size) || decide (raw.size = 0))) = true := by simpa using hg
    rw [hb]
    refine cgo ?_
    refine g_do rfl (o_call .nil (awake_ev ?_))
    refine cgo ?_
    exact ⟨trivial, _, _, .one (.tmp rfl), .refl _, rfl⟩
  have hb : (decide (60 < names.length) || (decide (60 < raw.size) || decide (raw.size = 0))) = false := by simpa using hg
  rw [hb]
  have hn : names.length ≤ 60 := by omega
  have hr : 0 < raw.size ∧ raw.size ≤ 1000000 := by omega
  clear hg hb
  refine cgo ?_
  refine w_mono (Q := fun ao e' fs' => fs' = [] ∧ ((ao = .ret ∧ Sub e' [(4, .bool true)]) ∨ (ao = .normal ∧ Sub e' [(0, nv), (1, .str raw)]))) ?_ ?_
  · refine w_block (w_loop ?_)
    refine l_sub (e' := [(0, nv), (1, .str raw), (5, .int .i64 ((0 : Nat) : Int))]) (.cons rfl (.cons rfl (.cons rfl .nil))) (fun _ h => h) ?_
    exact chk_loop hM (by omega) (fun en hS => ⟨rfl, Or.inl ⟨rfl, hS⟩⟩) (fun en hS => ⟨rfl, Or.inr ⟨rfl, hS⟩⟩) names.length 0 (by omega)
  rintro ao e' fs' ⟨rfl, ⟨rfl, hS⟩ | ⟨rfl, hS⟩⟩
  · exact ⟨trivial, _, _, .one (.tmp (hS.lk _ _ rfl)), .refl _, rfl⟩
  refine w_sub hS (fun _ h => h) ?_
  refine cgo ?_
  refine g_do rfl (o_call (.cons (xt rfl) .nil) (tnew_ev hM.rv (by omega) fun i j es c hm => ?_))
  have hok : ∀ s ∈ names.foldl addK [], 0 < s.size ∧ s.size ≤ 1000000 := fun s hs => okS_size (foldK_ok names [] (fun x hx => by cases hx) s hs)
  have hks : (names.foldl addK []).length ≤ 200 := foldK_len names [] (by decide)
  generalize names.foldl addK [] = ks at hm hok hks
  have hsl := sortB_len ks
  refine cgo ?_
  refine g_do rfl (o_eq (c := false) (xt rfl) xc rfl ?_)
  refine cgo ?_
  refine g_do rfl (o_call (.cons (xt rfl) .nil) (live_ev hr.2 fun lw d hL => ?_))
  refine cgo ?_
  refine g_do rfl (o_box xc rfl fun x7 => ?_)
  refine g_do0 (o_store (xt rfl) (xt rfl) .here ⟨rfl, (Nat.le_of_ble_eq_true rfl)⟩ (by show (EvA.scalar lw && _) = true; rw [hL.scalar]; rfl) rfl ?_)
  have hw0 : RV (.blk x7 (.cells [.str raw, lw]) :: (d ++ .blk j (.map es c) :: .blk i (.cells [.map j]) :: [])) 1 lw ((lives raw.size).map .bool) (lives raw.size).length := by
    have := (RV.of (b := .blk j (.map es c) :: .blk i (.cells [.map j]) :: []) hL).cons (x := .blk x7 (.cells [.str raw, lw]))
    rw [show (lives raw.size).length = raw.size by simp [lives]]
    exact this
  have hi0 : Has (.blk x7 (.cells [.str raw, lw]) :: (d ++ .blk j (.map es c) :: .blk i (.cells [.map j]) :: [])) (.blk i (.cells [.map j])) := .there (Has.app (.there .here))
  have hj0 : Has (.blk x7 (.cells [.str raw, lw]) :: (d ++ .blk j (.map es c) :: .blk i (.cells [.map j]) :: [])) (.blk j (.map es c)) := .there (Has.app .here)
  refine g_sub (e' := [(7, .ptr x7 0), (6, .ptr i 0), (1, .str raw)]) (fs' := Fact.blk x7 (.cells [.str raw, lw]) :: (d ++ Fact.blk j (.map es c) :: Fact.blk i (.cells [.map j]) :: [])) (.cons rfl (.cons rfl (.cons rfl .nil))) (fun _ h => h) ?_
  have hx0 : Has (.blk x7 (.cells [.str raw, lw]) :: (d ++ .blk j (.map es c) :: .blk i (.cells [.map j]) :: [])) (.blk x7 (.cells [.str raw, lw])) := .here
  generalize (Fact.blk x7 (.cells [.str raw, lw]) :: (d ++ .blk j (.map es c) :: .blk i (.cells [.map j]) :: [])) = F0 at hw0 hi0 hj0 hx0 ⊢
  refine cgo ?_
  refine g_do rfl (o_load (xt rfl) hx0 rfl ?_)
  refine g_do rfl (o_call (.cons (xt rfl) (.cons (xt rfl) .nil)) (tglob_ev hr.2 hi0 hj0 hm (by omega) hok hw0 fun gv d1 b b2 hg => ?_))
  have hi1 : Has (d1 ++ (.blk b2 (.cells [.map j]) :: .blk b (.cells [.str raw, lw]) :: F0)) (.blk i (.cells [.map j])) := Has.app (.there (.there hi0))
  have hj1 : Has (d1 ++ (.blk b2 (.cells [.map j]) :: .blk b (.cells [.str raw, lw]) :: F0)) (.blk j (.map es c)) := Has.app (.there (.there hj0))
  have hx1 : Has (d1 ++ (.blk b2 (.cells [.map j]) :: .blk b (.cells [.str raw, lw]) :: F0)) (.blk x7 (.cells [.str raw, lw])) := Has.app (.there (.there hx0))
  have hw1 : RV (d1 ++ (.blk b2 (.cells [.map j]) :: .blk b (.cells [.str raw, lw]) :: F0)) 1 lw ((lives raw.size).map .bool) (lives raw.size).length := RV.app hw0.cons.cons
  clear hi0 hj0 hx0 hw0 hL
  generalize (d1 ++ (Fact.blk b2 (.cells [.map j]) :: .blk b (.cells [.str raw, lw]) :: F0)) = F1 at hg hi1 hj1 hx1 hw1 ⊢
  refine cgo ?_
  refine g_do rfl (o_call (.cons (xt rfl) .nil) (names_ev hi1 hj1 hm fun b3 av d2 hA => ?_))
  have ha : RV (d2 ++ .blk b3 (.cells [.map j]) :: F1) 1 av ((sortB ks).map .str) (sortB ks).length := RV.of hA
  have hi2 : Has (d2 ++ .blk b3 (.cells [.map j]) :: F1) (.blk i (.cells [.map j])) := Has.app (.there hi1)
  have hj2 : Has (d2 ++ .blk b3 (.cells [.map j]) :: F1) (.blk j (.map es c)) := Has.app (.there hj1)
  have hx2 : Has (d2 ++ .blk b3 (.cells [.map j]) :: F1) (.blk x7 (.cells [.str raw, lw])) := Has.app (.there hx1)
  have hw2 : RV (d2 ++ .blk b3 (.cells [.map j]) :: F1) 1 lw ((lives raw.size).map .bool) (lives raw.size).length := RV.app hw1.cons
  have hg2 : RV (d2 ++ .blk b3 (.cells [.map j]) :: F1) 1 gv ((toldG raw (lives raw.size) ks).map .str) (toldG raw (lives raw.size) ks).length := RV.app hg.cons
  clear hi1 hj1 hx1 hw1 hA hg
  generalize (d2 ++ Fact.blk b3 (.cells [.map j]) :: F1) = F2 at ha hi2 hj2 hx2 hw2 hg2 ⊢
  refine cgo ?_
  have hgl : (toldG raw (lives raw.size) ks).length ≤ 1000000 := by
    have : (toldG raw (lives raw.size) ks).length ≤ (sortB ks).length := List.length_filter_le ..
    omega
  refine w_mono (Q := fun ao e' fs' => ao = .normal ∧ fs' = F2 ∧ Sub e' [(1, .str raw), (6, .ptr i 0), (8, gv), (10, .int .i64 ((toldG raw (lives raw.size) ks).length : Int))]) ?_ ?_
  · refine w_block (w_loop ?_)
    refine l_sub (e' := [(1, .str raw), (6, .ptr i 0), (7, .ptr x7 0), (8, gv), (9, av), (10, .int .i64 ((((sortB ks).take 0).filter fun s => !dG raw (lives raw.size) s).length : Int)), (11, .int .i64 ((0 : Nat) : Int))]) (.cons rfl (.cons rfl (.cons rfl (.cons rfl (.cons rfl (.cons rfl (.cons rfl .nil))))))) (fun _ h => h) ?_
    exact glob_loop hr (fun s hs => hok s (sortB_mem.1 hs)) (by omega) (sortB_up hm.ok.apart) hx2 hw2 ha hg2 (fun en hS => ⟨rfl, rfl, hS⟩) (sortB ks).length 0 (by omega)
  rintro ao e' fs' ⟨rfl, rfl, hS⟩
  refine w_sub hS (fun _ h => h) ?_
  refine cgo ?_
  refine g_do rfl (o_call (.cons (xt rfl) (.cons (xt rfl) .nil)) (tglob_ev (lw := .nilrow) (L := []) hr.2 hi2 hj2 hm (by omega) hok .nil fun pv d3 b4 b5 hp => ?_))
  have hi3 : Has (d3 ++ (.blk b5 (.cells [.map j]) :: .blk b4 (.cells [.str raw, .nilrow]) :: fs')) (.blk i (.cells [.map j])) := Has.app (.there (.there hi2))
  have hj3 : Has (d3 ++ (.blk b5 (.cells [.map j]) :: .blk b4 (.cells [.str raw, .nilrow]) :: fs')) (.blk j (.map es c)) := Has.app (.there (.there hj2))
  have hg3 : RV (d3 ++ (.blk b5 (.cells [.map j]) :: .blk b4 (.cells [.str raw, .nilrow]) :: fs')) 1 gv ((toldG raw (lives raw.size) ks).map .str) (toldG raw (lives raw.size) ks).length := RV.app hg2.cons.cons
  clear hi2 hj2 hx2 hw2 hg2 ha
  generalize (d3 ++ (Fact.blk b5 (.cells [.map j]) :: .blk b4 (.cells [.str raw, .nilrow]) :: fs')) = F3 at hi3 hj3 hg3 hp ⊢
  refine cgo ?_
  refine g_do rfl (o_len (xt rfl) hg3 ?_)
  refine g_do rfl (o_eqi (xt rfl) (xt rfl) (fun _ => ?_) (fun h => absurd rfl h))
  refine cgo ?_
  refine g_do rfl (o_len (xt rfl) hp ?_)
  have hpl := plain_told (T := raw) hm.ok.apart
  by_cases hmem : raw ∈ ks
  · rw [hpl.1 hmem] at hp ⊢
    obtain ⟨sp, rfl, hrp, hzp⟩ := hp.some (by simp)
    refine g_if rfl ?_
    refine g_do rfl (o_eqi (xt rfl) xc (fun _ => ?_) (fun h => absurd rfl h))
    refine cgo ?_
    refine g_do rfl (o_call (.cons (xt rfl) (.cons (xt rfl) .nil)) (thas_ev hi3 hj3 hm ?_))
    rw [memB_t hmem]
    refine cgo ?_
    refine g_do rfl (o_eqb (xt rfl) (xt rfl) (fun _ => ?_) (fun h => absurd rfl h))
    refine cgo ?_
    refine g_do rfl (o_eqi (xt rfl) xc (fun h => absurd h (by simp)) (fun _ => ?_))
    refine cgo ?_
    refine g_do rfl (o_iaddr (xt rfl) xc ⟨by decide, by simp⟩ hzp ?_)
    refine g_if rfl ?_
    refine g_do rfl (o_loadr (v := .str raw) (xt rfl) hrp rfl ?_)
    refine cgo ?_
    refine g_do rfl (o_eqs (xt rfl) (xt rfl) (fun _ => ?_) (fun h => absurd rfl h))
    refine cgo ?_
    refine g_do rfl (o_call .nil (awake_ev ?_))
    refine cgo ?_
    exact ⟨trivial, _, _, .one (.tmp rfl), .refl _, rfl⟩
  · rw [hpl.2 hmem] at hp ⊢
    refine g_if rfl ?_
    refine g_do rfl (o_eqi (xt rfl) xc (fun h => absurd h (by decide)) (fun _ => ?_))
    refine cgo ?_
    refine g_do rfl (o_call (.cons (xt rfl) (.cons (xt rfl) .nil)) (thas_ev hi3 hj3 hm ?_))
    rw [memB_f hmem]
    refine cgo ?_
    refine g_do rfl (o_eqb (xt rfl) (xt rfl) (fun _ => ?_) (fun h => absurd rfl h))
    refine cgo ?_
    refine g_do rfl (o_len (xt rfl) hp ?_)
    refine g_if rfl ?_
    refine g_do rfl (o_eqi (xt rfl) xc (fun _ => ?_) (fun h => absurd rfl h))
    refine cgo ?_
    refine g_do rfl (o_call .nil (awake_ev ?_))
    refine cgo ?_
    exact ⟨trivial, _, _, .one (.tmp rfl), .refl _, rfl⟩
theorem TreeGlobs_true (a0 : AV) (raw : ByteArray) (w0 : Sh Try.prog 9 22 [a0]) (w1 : raw.size ≤ 140737488351232) : ∃ k, (aeval sW ftab k 3 [a0, .str raw] h0).map (·.1) = some (.bool true) := by
  obtain ⟨v, T, e1, ht, _⟩ := sh_strs (d := 7) Try.underlying22 Try.underlying9 (by kernel_rfl) w0
  obtain rfl : a0 = v := by simpa using e1
  exact ev_true (globs_ev ht)
theorem drop_head {α : Type} {l r : List α} {i : Nat} {b : α} (h : l.drop i = b :: r) : l[i]? = some b ∧ l.drop (i + 1) = r ∧ i < l.length := by
  have hb : l[i]? = some b := by
    have := congrArg List.head? h
    rw [List.head?_drop] at this; simpa using this
  refine ⟨hb, ?_, (List.getElem?_eq_some_iff.1 hb).1⟩
  have := congrArg List.tail h
  simpa using this
theorem rhas_loop {s : ByteArray} {c : Nat} (hs : s.size ≤ 1000000) {Q : AO → Env → List Fact → Prop} (hf : (∀ b ∈ s.data.toList, b.toNat ≠ c) → ∀ e, Q (.exit 0) e fs) (ht : (∃ b ∈ s.data.toList, b.toNat = c) → ∀ e, Sub e [(4, .bool true)] → Q .ret e fs) :
    ∀ (l : List UInt8) (i : Nat), s.data.toList.drop i = l → i ≤ s.size → (∀ b ∈ s.data.toList.take i, b.toNat ≠ c) → WL sW ftab lb42_0 17 [(0, .str s), (1, .int .u8 c), (5, .int .i64 i)] fs Q
  | [], i, hl, hi, hp => by
    have hge : s.size ≤ i := by have := List.drop_eq_nil_iff.1 hl; simpa using this
    refine l_round ?_
    refine cgo ?_
    refine g_do rfl (o_lss (xt rfl) (xt rfl) (fun h => by omega) (fun h => ?_))
    refine cgo ?_
    exact hf (fun b hb => hp b (by rw [List.take_of_length_le (by simpa using hge)]; exact hb)) _
  | b :: l, i, hl, hi, hp => by
    obtain ⟨h1, h2, h3⟩ := drop_head hl
    have h3 : i < s.size := by simpa using h3
    refine l_round ?_
    refine cgo ?_
    refine g_do rfl (o_lss (xt rfl) (xt rfl) (fun h => ?_) (fun h => by omega))
    refine cgo ?_
    refine w_block ?_
    refine cgo ?_
    refine g_do rfl (o_idx (xt rfl) (xt rfl) (by omega) h1 ?_)
    refine cgo ?_
    refine g_do rfl (o_eqi (xt rfl) (xt rfl) (fun hb => ?_) (fun hb => ?_))
    · refine cgo ?_
      exact ht ⟨b, List.mem_of_getElem? h1, by omega⟩ _ (.cons rfl .nil)
    · refine cgo ?_
      refine g_do rfl (o_add (xt rfl) xc (by constructor <;> omega) ?_)
      refine cgo ?_
      refine l_sub (e' := [(0, .str s), (1, .int .u8 c), (5, .int .i64 ((i + 1 : Nat) : Int))]) (.cons rfl (.cons rfl (.cons rfl .nil))) (fun _ h => h) ?_
      refine rhas_loop hs hf ht l (i + 1) h2 (by omega) fun x hx => ?_
      rw [List.take_add_one, h1] at hx
      rcases List.mem_append.1 hx with hx | hx
      · exact hp x hx
      · obtain rfl : x = b := by simpa using hx
        omega
theorem rhas_ev {s : ByteArray} {c : Nat} (hs : s.size ≤ 1000000) {K : KK} (h : K (.bool (!decide (∀ b ∈ s.data.toList, b.toNat ≠ c))) fs) : Ev sW ftab 42 [.str s, .int .u8 c] fs K := by
  refine ev_fn (nt := 17) (kb := kb42) (kr := kr42) rfl rfl (Nat.le_of_ble_eq_true rfl) ?_
  refine cgo ?_
  refine w_block (w_loop ?_)
  refine l_sub (e' := [(0, .str s), (1, .int .u8 c), (5, .int .i64 ((0 : Nat) : Int))]) (.cons rfl (.cons rfl (.cons rfl .nil))) (fun _ h => h) ?_
  refine rhas_loop hs (fun hn e => ?_) (fun hy e hS => ?_) s.data.toList 0 rfl (by omega) (by simp)
  · refine cgo ?_
    rw [decide_eq_true hn] at h
    exact ⟨trivial, _, fs, .one (.tmp rfl), .refl _, h⟩
  · obtain ⟨b, h1, h2⟩ := hy
    rw [decide_eq_false (fun hn => hn b h1 h2)] at h
    cases hS with | cons h3 _ => exact ⟨trivial, _, fs, .one (.tmp h3), .refl _, h⟩
theorem fileOk_ev {s : ByteArray} {K : KK} (h : K (.bool (okS s)) fs) : Ev sW ftab 31 [.str s] fs K := by
  have no : ¬ (1 ≤ s.size ∧ s.size ≤ 100 ∧ (∀ b ∈ s.data.toList, b.toNat ≠ 0) ∧ ∀ b ∈ s.data.toList, b.toNat ≠ 47) → K (.bool false) fs := fun hn => by rw [okS, decide_eq_false hn] at h; exact h
  refine ev_fn (nt := 21) (kb := kb31) (kr := kr31) rfl rfl (Nat.le_of_ble_eq_true rfl) ?_
  refine cgo ?_
  refine g_do rfl (o_geq (xt rfl) xc (fun h1 => ?_) (fun h1 => ?_))
  · refine cgo ?_
    refine g_do rfl (o_leq (xt rfl) xc (fun h2 => ?_) (fun h2 => ?_))
    · refine cgo ?_
      refine g_do rfl (o_call (.cons (xt rfl) (.cons xc .nil)) (rhas_ev (c := 0) (by omega) ?_))
      by_cases h3 : ∀ b ∈ s.data.toList, b.toNat ≠ 0
      · rw [decide_eq_true h3]
        refine cgo ?_
        refine g_do rfl (o_call (.cons (xt rfl) (.cons xc .nil)) (rhas_ev (c := 47) (by omega) ?_))
        by_cases h4 : ∀ b ∈ s.data.toList, b.toNat ≠ 47
        · rw [decide_eq_true h4]
          refine cgo ?_
          refine ⟨trivial, _, fs, .one (.tmp rfl), .refl _, ?_⟩
          rw [okS_true (by omega) (by omega) h3 h4] at h; exact h
        · rw [decide_eq_false h4]
          refine cgo ?_
          exact ⟨trivial, _, fs, .one (.tmp rfl), .refl _, no fun hn => h4 hn.2.2.2⟩
      · rw [decide_eq_false h3]
        refine cgo ?_
        exact ⟨trivial, _, fs, .one (.tmp rfl), .refl _, no fun hn => h3 hn.2.2.1⟩
    · refine cgo ?_
      exact ⟨trivial, _, fs, .one (.tmp rfl), .refl _, no fun hn => by omega⟩
  · refine cgo ?_
    exact ⟨trivial, _, fs, .one (.tmp rfl), .refl _, no fun hn => by omega⟩
theorem rHas_loop {i : Nat} {v : AV} {L : List ByteArray} {s : ByteArray} (hi : Has fs (.blk i (.cells [v]))) (hv : RV fs 1 v (L.map .str) L.length) (hL : L.length ≤ 1000000) {Q : AO → Env → List Fact → Prop} (hf : s ∉ L → ∀ e, Q (.exit 0) e fs) (ht : s ∈ L → ∀ e, Sub e [(4, .bool true)] → Q .ret e fs) :
    ∀ (l : List ByteArray) (n : Nat), L.drop n = l → n ≤ L.length → s ∉ L.take n → WL sW ftab lb16_0 24 [(0, .ptr i 0), (1, .str s), (5, .int .i64 n)] fs Q
  | [], n, hl, hn, hp => by
    have hge : L.length ≤ n := List.drop_eq_nil_iff.1 hl
    refine l_round ?_
    refine cgo ?_
    refine g_do rfl (o_load (xt rfl) hi rfl ?_)
    refine g_do rfl (o_len (xt rfl) hv ?_)
    refine g_do rfl (o_lss (xt rfl) (xt rfl) (fun h => by omega) (fun h => ?_))
    refine cgo ?_
    exact hf (by rw [List.take_of_length_le hge] at hp; exact hp) _
  | t :: l, n, hl, hn, hp => by
    obtain ⟨h1, h2, h3⟩ := drop_head hl
    obtain ⟨sr, rfl, hrd, hz⟩ := hv.some (by omega)
    refine l_round ?_
    refine cgo ?_
    refine g_do rfl (o_load (xt rfl) hi rfl ?_)
    refine g_do rfl (o_len (xt rfl) hv ?_)
    refine g_do rfl (o_lss (xt rfl) (xt rfl) (fun h => ?_) (fun h => by omega))
    refine cgo ?_
    refine w_block ?_
    refine cgo ?_
    refine g_do rfl (o_load (xt rfl) hi rfl ?_)
    refine cgo ?_
    refine g_do rfl (o_iaddr (xt rfl) (xt rfl) ⟨by omega, by omega⟩ hz ?_)
    refine g_do rfl (o_loadr (v := .str t) (xt rfl) hrd ?_ ?_)
    · simp only [apart]
      rw [show ((n : Nat) : Int).toNat * 1 = n by omega, List.getElem?_map, h1]; rfl
    refine cgo ?_
    refine g_do rfl (o_eqs (xt rfl) (xt rfl) (fun hb => ?_) (fun hb => ?_))
    · refine cgo ?_
      exact ht (hb ▸ List.mem_of_getElem? h1) _ (.cons rfl .nil)
    · refine cgo ?_
      refine g_do rfl (o_add (xt rfl) xc (by constructor <;> omega) ?_)
      refine cgo ?_
      refine l_sub (e' := [(0, .ptr i 0), (1, .str s), (5, .int .i64 ((n + 1 : Nat) : Int))]) (.cons rfl (.cons rfl (.cons rfl .nil))) (fun _ h => h) ?_
      refine rHas_loop hi hv hL hf ht l (n + 1) h2 (by omega) ?_
      rw [List.take_add_one, h1]
      simp only [Option.toList_some, List.mem_append, List.mem_singleton]
      rintro (h | h)
      · exact hp h
      · exact hb h.symm
theorem rHas_ev {i : Nat} {v : AV} {L : List ByteArray} {s : ByteArray} (hi : Has fs (.blk i (.cells [v]))) (hv : RV fs 1 v (L.map .str) L.length) (hL : L.length ≤ 1000000) {K : KK} (h : K (.bool (memB L s)) fs) : Ev sW ftab 16 [.ptr i 0, .str s] fs K := by
  refine ev_fn (nt := 24) (kb := kb16) (kr := kr16) rfl rfl (Nat.le_of_ble_eq_true rfl) ?_
  refine cgo ?_
  refine w_block (w_loop ?_)
  refine l_sub (e' := [(0, .ptr i 0), (1, .str s), (5, .int .i64 ((0 : Nat) : Int))]) (.cons rfl (.cons rfl (.cons rfl .nil))) (fun _ h => h) ?_
  refine rHas_loop hi hv hL (fun hn e => ?_) (fun hy e hS => ?_) L 0 rfl (by omega) (by simp)
  · refine cgo ?_
    rw [memB_f hn] at h
    exact ⟨trivial, _, fs, .one (.tmp rfl), .refl _, h⟩
  · rw [memB_t hy] at h
    cases hS with | cons h3 _ => exact ⟨trivial, _, fs, .one (.tmp h3), .refl _, h⟩
/-! A name's place. -/
def ltS (a b : ByteArray) : Bool := decide (a.data.toList < b.data.toList)
def posL (L : List ByteArray) (s : ByteArray) : Nat := (L.takeWhile (ltS · s)).length
def insL (L : List ByteArray) (s : ByteArray) : List ByteArray := L.take (posL L s) ++ [s] ++ L.drop (posL L s)
noncomputable def addL (L : List ByteArray) (s : ByteArray) : List ByteArray := if okS s = true then (if memB L s = true then L else if 200 ≤ L.length then L else insL L s) else L
theorem posL_le (L : List ByteArray) (s : ByteArray) : posL L s ≤ L.length := (List.takeWhile_sublist _).length_le
theorem insL_len (L : List ByteArray) (s : ByteArray) : (insL L s).length = L.length + 1 := by
  have := posL_le L s
  simp only [insL, List.length_append, List.length_take, List.length_drop, List.length_singleton]; omega
theorem pos_stop {p : ByteArray → Bool} : ∀ {L : List ByteArray} {n : Nat} {t : ByteArray}, (∀ x ∈ L.take n, p x = true) → L[n]? = some t → p t = false → (L.takeWhile p).length = n
  | [], n, t, _, h, _ => by simp at h
  | a :: L, 0, t, _, h, ht => by simp at h; subst h; simp [List.takeWhile_cons, ht]
  | a :: L, n + 1, t, hp, h, ht => by
    rw [List.takeWhile_cons, hp a (by simp)]
    simp only [if_true, List.length_cons]
    rw [pos_stop (L := L) (n := n) (fun x hx => hp x (by rw [List.take_succ_cons]; exact List.mem_cons_of_mem _ hx)) (by simpa using h) ht]
theorem pos_end {p : ByteArray → Bool} : ∀ {L : List ByteArray}, (∀ x ∈ L, p x = true) → (L.takeWhile p).length = L.length
  | [], _ => rfl
  | a :: L, h => by
    rw [List.takeWhile_cons, h a (by simp)]
    simp only [if_true, List.length_cons]
    rw [pos_end (L := L) fun x hx => h x (List.mem_cons_of_mem _ hx)]
theorem rMake_loop {i : Nat} {v : AV} {L : List ByteArray} {s : ByteArray} (hi : Has fs (.blk i (.cells [v]))) (hv : RV fs 1 v (L.map .str) L.length) (hL : L.length ≤ 1000000) {Q : AO → Env → List Fact → Prop} (hq : ∀ e, Sub e [(0, .ptr i 0), (1, .str s), (5, .int .i64 (posL L s : Nat))] → Q (.exit 0) e fs) :
    ∀ (l : List ByteArray) (n : Nat), L.drop n = l → n ≤ L.length → (∀ x ∈ L.take n, ltS x s = true) → WL sW ftab lb17_0 59 [(0, .ptr i 0), (1, .str s), (5, .int .i64 n)] fs Q
  | [], n, hl, hn, hp => by
    have hge : L.length ≤ n := List.drop_eq_nil_iff.1 hl
    have hpos : posL L s = n := by
      unfold posL
      rw [pos_end fun x hx => hp x (by rw [List.take_of_length_le hge]; exact hx)]; omega
    refine l_round ?_
    refine cgo ?_
    refine g_do rfl (o_load (xt rfl) hi rfl ?_)
    refine g_do rfl (o_len (xt rfl) hv ?_)
    refine g_do rfl (o_lss (xt rfl) (xt rfl) (fun h => by omega) (fun h => ?_))
    refine cgo ?_
    refine hq _ ?_
    rw [hpos]
    exact .cons rfl (.cons rfl (.cons rfl .nil))
  | t :: l, n, hl, hn, hp => by
    obtain ⟨h1, h2, h3⟩ := drop_head hl
    obtain ⟨sr, rfl, hrd, hz⟩ := hv.some (by omega)
    refine l_round ?_
    refine cgo ?_
    refine g_do rfl (o_load (xt rfl) hi rfl ?_)
    refine g_do rfl (o_len (xt rfl) hv ?_)
    refine g_do rfl (o_lss (xt rfl) (xt rfl) (fun h => ?_) (fun h => by omega))
    refine cgo ?_
    refine g_do rfl (o_load (xt rfl) hi rfl ?_)
    refine cgo ?_
    refine g_do rfl (o_iaddr (xt rfl) (xt rfl) ⟨by omega, by omega⟩ hz ?_)
    refine g_if rfl ?_
    refine g_do rfl (o_loadr (v := .str t) (xt rfl) hrd ?_ ?_)
    · simp only [apart]
      rw [show ((n : Nat) : Int).toNat * 1 = n by omega, List.getElem?_map, h1]; rfl
    refine cgo ?_
    refine g_do rfl (o_lst (xt rfl) (xt rfl) ?_)
    cases hb : decide (t.data.toList < s.data.toList) with
    | true =>
      refine cgo ?_
      refine w_block ?_
      refine cgo ?_
      refine g_do rfl (o_add (xt rfl) xc (by constructor <;> omega) ?_)
      refine cgo ?_
      refine l_sub (e' := [(0, .ptr i 0), (1, .str s), (5, .int .i64 ((n + 1 : Nat) : Int))]) (.cons rfl (.cons rfl (.cons rfl .nil))) (fun _ h => h) ?_
      refine rMake_loop hi hv hL hq l (n + 1) h2 (by omega) fun x hx => ?_
      rw [List.take_add_one, h1] at hx
      rcases List.mem_append.1 hx with hx | hx
      · exact hp x hx
      · obtain rfl : x = t := by simpa using hx
        exact hb
    | false =>
      have hpos : posL L s = n := pos_stop hp h1 hb
      refine cgo ?_
      refine hq _ ?_
      rw [hpos]
      exact .cons rfl (.cons rfl (.cons rfl .nil))
theorem map_scalar (L : List ByteArray) : (L.map AV.str).all scalar = true := by
  rw [List.all_eq_true]
  intro x hx
  obtain ⟨y, _, rfl⟩ := List.mem_map.1 hx
  rfl
theorem cut_map (L : List ByteArray) (p q : Nat) : ((L.map AV.str).drop (p * 1)).take ((q - p) * 1) = ((L.drop p).take (q - p)).map AV.str := by
  rw [Nat.mul_one, Nat.mul_one, List.map_take, List.map_drop]
theorem rMake_ev {i : Nat} {v : AV} {L : List ByteArray} {s : ByteArray} (hv : RV fs 1 v (L.map .str) L.length) (hL : L.length ≤ 200) {K : KK}
    (h : ∀ v' fs', Grows fs fs' → RV fs' 1 v' ((addL L s).map .str) (addL L s).length → K (.bool (addB L s)) (.blk i (.cells [v']) :: fs')) : Ev sW ftab 17 [.ptr i 0, .str s] (.blk i (.cells [v]) :: fs) K := by
  refine ev_fn (nt := 59) (kb := kb17) (kr := kr17) rfl rfl (Nat.le_of_ble_eq_true rfl) ?_
  refine cgo ?_
  refine g_do rfl (o_call (.cons (xt rfl) .nil) (fileOk_ev ?_))
  cases hok : okS s with
  | false =>
    refine cgo ?_
    refine ⟨trivial, _, _, .one (.tmp rfl), .refl _, ?_⟩
    have := h v fs (fun _ h => h) (by unfold addL; rw [hok, if_neg (by simp)]; exact hv)
    rw [addB, hok] at this; exact this
  | true =>
    refine cgo ?_
    refine g_do rfl (o_call (.cons (xt rfl) (.cons (xt rfl) .nil)) (rHas_ev .here hv.cons (by omega) ?_))
    by_cases hs : s ∈ L
    · rw [memB_t hs]
      refine cgo ?_
      refine ⟨trivial, _, _, .one (.tmp rfl), .refl _, ?_⟩
      have := h v fs (fun _ h => h) (by unfold addL; rw [if_pos hok, if_pos (memB_t hs)]; exact hv)
      rw [addB, hok, memB_t hs] at this; exact this
    · rw [memB_f hs]
      refine cgo ?_
      refine g_do rfl (o_len (xt rfl) hv.cons ?_)
      refine g_do rfl (o_geq (xt rfl) xc (fun h1 => ?_) (fun h1 => ?_))
      · refine cgo ?_
        refine ⟨trivial, _, _, .one (.tmp rfl), .refl _, ?_⟩
        have := h v fs (fun _ h => h) (by unfold addL; rw [if_pos hok, if_neg (memB_n hs), if_pos (by omega)]; exact hv)
        rw [addB, hok, memB_f hs, decide_eq_false (by omega)] at this; exact this
      · refine cgo ?_
        refine w_block (w_loop ?_)
        refine l_sub (e' := [(0, .ptr i 0), (1, .str s), (5, .int .i64 ((0 : Nat) : Int))]) (.cons rfl (.cons rfl (.cons rfl .nil))) (fun _ h => h) ?_
        refine rMake_loop .here hv.cons (by omega) (fun e hS => ?_) L 0 rfl (by omega) (by simp)
        have hp := posL_le L s
        refine w_sub hS (fun _ h => h) ?_
        have hadd : addL L s = insL L s := by unfold addL; rw [if_pos hok, if_neg (memB_n hs), if_neg (by omega)]
        have hB : addB L s = true := by rw [addB, hok, decide_eq_true (show L.length < 200 by omega)]; simp
        have r1 : ∀ {fs0 : List Fact}, RV fs0 1 v (L.map .str) L.length → RV fs0 1 (cutV v 1 0 (posL L s)) ((L.take (posL L s)).map .str) (posL L s) := fun hv0 => by
          have := cutV_rv hv0 (p := 0) (q := posL L s) ⟨Nat.zero_le _, hp⟩
          rw [cut_map] at this; exact this
        have r2 : ∀ {fs0 : List Fact}, RV fs0 1 v (L.map .str) L.length → RV fs0 1 (cutV v 1 (posL L s) L.length) ((L.drop (posL L s)).map .str) (L.length - posL L s) := fun hv0 => by
          have := cutV_rv hv0 (p := posL L s) (q := L.length) ⟨hp, Nat.le_refl _⟩
          rw [cut_map, List.take_of_length_le (by rw [List.length_drop]; exact Nat.le_refl _)] at this; exact this
        have b1 : bounds L.length none (some (.int .i64 ((posL L s : Nat) : Int))) = some (0, posL L s) := bounds_hi ⟨by omega, by omega⟩
        have b2 : bounds L.length (some (.int .i64 ((posL L s : Nat) : Int))) none = some (posL L s, L.length) := bounds_lo ⟨by omega, by omega⟩
        refine w_rs (g_fl ?_)
        refine h_do rfl (o_move (xt rfl) ?_)
        refine h_do rfl (o_row .nil rfl rfl fun f id => ?_)
        refine h_do rfl (o_move (xt rfl) ?_)
        refine h_do rfl (o_nil (xt rfl) ?_)
        refine h_do rfl (o_faddr (xt rfl) ?_)
        refine h_do rfl (o_load (xt rfl) (.there .here) rfl ?_)
        refine h_do rfl (o_move (xt rfl) ?_)
        refine h_do rfl (o_cutv (xt rfl) hv.cons.cons .none (.some (xt rfl)) b1 ?_)
        refine h_do rfl (o_appw (fs' := fun id' => .row f id' ((0 + posL L s) * 1) :: .blk i (.cells [v]) :: fs) (xt rfl) (.ofRV (xt rfl) (r1 hv.cons.cons)) (map_scalar _) (by simp; omega) ⟨by omega, by omega⟩ (fun _ => .here) fun id1 => ?_)
        refine h_do rfl (o_move (xt rfl) ?_)
        refine h_do rfl (o_rowz (.cons (xt rfl) .nil) rfl rfl ?_)
        refine h_do rfl (o_appw (fs' := fun id' => .row f id' ((0 + posL L s + 1) * 1) :: .blk i (.cells [v]) :: fs) (xt rfl) (.frz (xt rfl) rfl rfl) rfl rfl ⟨by omega, by omega⟩ (fun _ => .here) fun id2 => ?_)
        refine h_do rfl (o_move (xt rfl) ?_)
        refine h_do rfl (o_nil (xt rfl) ?_)
        refine h_do rfl (o_faddr (xt rfl) ?_)
        refine h_do rfl (o_load (xt rfl) (.there .here) rfl ?_)
        refine h_do rfl (o_move (xt rfl) ?_)
        refine h_do rfl (o_cutv (xt rfl) hv.cons.cons (.some (xt rfl)) .none b2 ?_)
        refine h_do rfl (o_appw (fs' := fun id' => .row f id' ((0 + posL L s + 1 + (L.length - posL L s)) * 1) :: .blk i (.cells [v]) :: fs) (xt rfl) (.ofRV (xt rfl) (r2 hv.cons.cons)) (map_scalar _) (by simp) ⟨by omega, by omega⟩ (fun _ => .here) fun id3 => ?_)
        refine h_do rfl (o_nil (xt rfl) ?_)
        refine h_do rfl (o_faddr (xt rfl) ?_)
        refine h_do0 (o_store (xt rfl) (xt rfl) (.there .here) ⟨rfl, (Nat.le_of_ble_eq_true rfl)⟩ rfl rfl ?_)
        refine h_end ?_
        refine ⟨.cons rfl (.cons rfl (o_cutv (xt rfl) hv.cons (.some (xt rfl)) .none b2 rfl) (.cons rfl (o_cutv (xt rfl) hv.cons.cons (.some (xt rfl)) .none b2 rfl) (.cons rfl (o_cutv (xt rfl) hv.cons.cons (.some (xt rfl)) .none b2 rfl) .nil)))
          (.cons rfl (.cons rfl (o_load (xt rfl) .here rfl rfl) (.cons rfl (o_load (xt rfl) (.there .here) rfl rfl) (.cons rfl (o_load (xt rfl) (.there .here) rfl rfl) .nil)))
          (.cons rfl (.cons rfl (o_cutv (xt rfl) hv.cons .none (.some (xt rfl)) b1 rfl) .nil)
          (.cons rfl (.cons rfl (o_load (xt rfl) .here rfl rfl) .nil) .nil))), _, rfl, ?_⟩
        refine w_sub (e' := []) (fs' := .blk i (.cells [.row ([] ++ (L.take (posL L s)).map .str ++ [.str s] ++ (L.drop (posL L s)).map .str) (0 + posL L s + 1 + (L.length - posL L s)) ⟨f, id3, 0, 1⟩]) :: .row f id3 ((0 + posL L s + 1 + (L.length - posL L s)) * 1) :: fs) .nil (fun _ hh => hh.perm (.swap ..)) ?_
        refine cgo ?_
        refine ⟨trivial, _, _, .one (.tmp rfl), .refl _, ?_⟩
        have e1 : ([] ++ (L.take (posL L s)).map .str ++ [.str s] ++ (L.drop (posL L s)).map .str) = (insL L s).map AV.str := by simp [insL]
        have e2 : 0 + posL L s + 1 + (L.length - posL L s) = (insL L s).length := by rw [insL_len]; omega
        have := h _ (.row f id3 ((0 + posL L s + 1 + (L.length - posL L s)) * 1) :: fs) (fun x hx => .there hx) (by rw [hadd]; exact .row (s := ⟨f, id3, 0, 1⟩) (.own .here) rfl)
        rw [hB, e2] at this
        rw [e1, e2]; exact this
theorem addL_len {L : List ByteArray} {s : ByteArray} (h : L.length ≤ 200) : (addL L s).length ≤ 200 := by
  unfold addL
  split
  · split
    · exact h
    · split
      · exact h
      · rw [insL_len]; omega
  · exact h
theorem foldL_len : ∀ (T L : List ByteArray), L.length ≤ 200 → (T.foldl addL L).length ≤ 200
  | [], L, h => h
  | s :: T, L, h => foldL_len T _ (addL_len h)
theorem rnew_loop {iv : AV} {T : List ByteArray} (hv : RV fs 1 iv (T.map .str) T.length) (hT : T.length ≤ 1000000) {i : Nat} {Q : AO → Env → List Fact → Prop}
    (hQ : ∀ e v fs', Grows fs fs' → RV fs' 1 v ((T.foldl addL []).map .str) (T.foldl addL []).length → Sub e [(3, .ptr i 0)] → Q (.exit 0) e (.blk i (.cells [v]) :: fs')) :
    ∀ (k n : Nat) (v : AV) (fs' : List Fact), n + k = T.length → Grows fs fs' → RV fs' 1 v (((T.take n).foldl addL []).map .str) ((T.take n).foldl addL []).length →
    WL sW ftab lb15_0 20 [(0, iv), (3, .ptr i 0), (4, .int .i64 n)] (.blk i (.cells [v]) :: fs') Q
  | 0, n, v, fs', hn, hg, hr => by
    refine l_round ?_
    refine cgo ?_
    refine g_do rfl (o_len (xt rfl) (hv.grows hg).cons ?_)
    refine g_do rfl (o_lss (xt rfl) (xt rfl) (fun h => by omega) (fun h => ?_))
    refine cgo ?_
    rw [List.take_of_length_le (by omega)] at hr
    exact hQ _ v fs' hg hr (.cons rfl .nil)
  | k + 1, n, v, fs', hn, hg, hr => by
    have hlt : n < T.length := by omega
    obtain ⟨sr, rfl, hrd, hz⟩ := (hv.grows hg).some (by omega)
    refine l_round ?_
    refine cgo ?_
    refine g_do rfl (o_lss (xt rfl) (xt rfl) (fun h => ?_) (fun h => by omega))
    refine cgo ?_
    refine w_block ?_
    refine cgo ?_
    refine g_do rfl (o_iaddr (xt rfl) (xt rfl) ⟨by omega, by omega⟩ hz ?_)
    refine g_do rfl (o_loadr (v := .str T[n]) (xt rfl) hrd.cons ?_ ?_)
    · simp only [apart]
      rw [show ((n : Nat) : Int).toNat * 1 = n by omega, List.getElem?_map, List.getElem?_eq_getElem hlt]; rfl
    refine g_do rfl (o_call (.cons (xt rfl) (.cons (xt rfl) .nil)) (rMake_ev hr (foldL_len _ _ (by simp)) fun v2 fs2 g2 hr2 => ?_))
    refine cgo ?_
    refine g_do rfl (o_add (xt rfl) xc (by constructor <;> omega) ?_)
    refine cgo ?_
    refine l_sub (e' := [(0, .row (T.map .str) T.length sr), (3, .ptr i 0), (4, .int .i64 ((n + 1 : Nat) : Int))]) (.cons rfl (.cons rfl (.cons rfl .nil))) (fun _ h => h) ?_
    refine rnew_loop hv hT hQ k (n + 1) v2 fs2 (by omega) (hg.trans g2) ?_
    rw [List.take_add_one, List.getElem?_eq_getElem hlt, Option.toList_some, List.foldl_append]
    exact hr2
theorem rnew_ev {iv : AV} {T : List ByteArray} (hv : RV fs 1 iv (T.map .str) T.length) (hT : T.length ≤ 1000000) {K : KK}
    (h : ∀ i v fs', Grows fs fs' → RV fs' 1 v ((T.foldl addL []).map .str) (T.foldl addL []).length → K (.ptr i 0) (.blk i (.cells [v]) :: fs')) : Ev sW ftab 15 [iv] fs K := by
  refine ev_fn (nt := 20) (kb := kb15) (kr := kr15) rfl rfl (Nat.le_of_ble_eq_true rfl) ?_
  refine cgo ?_
  refine g_do rfl (o_box (xt rfl) rfl fun i => ?_)
  refine cgo ?_
  refine w_block (w_loop ?_)
  refine l_sub (e' := [(0, iv), (3, .ptr i 0), (4, .int .i64 ((0 : Nat) : Int))]) (.cons rfl (.cons rfl (.cons rfl .nil))) (fun _ h => h) ?_
  refine rnew_loop hv hT (fun e v fs' hg hr hS => ?_) T.length 0 _ fs (by omega) (fun _ h => h) .nil
  refine w_sub hS (fun _ h => h) ?_
  refine cgo ?_
  exact ⟨trivial, _, _, .one (.tmp rfl), .refl _, h _ v fs' hg hr⟩
/-! Rows of texts compared. -/
theorem samet_loop {a b : AV} {T : List ByteArray} (ha : RV fs 1 a (T.map .str) T.length) (hb : RV fs 1 b (T.map .str) T.length) (hT : T.length ≤ 1000000) {Q : AO → Env → List Fact → Prop} (hQ : ∀ e, Q (.exit 0) e fs) :
    ∀ (k n : Nat), n + k = T.length → WL sW ftab lb18_0 26 [(0, a), (1, b), (5, .int .i64 n)] fs Q
  | 0, n, hn => by
    refine l_round ?_
    refine cgo ?_
    refine g_do rfl (o_len (xt rfl) ha ?_)
    refine g_do rfl (o_lss (xt rfl) (xt rfl) (fun h => by omega) (fun h => ?_))
    refine cgo ?_
    exact hQ _
  | k + 1, n, hn => by
    have hlt : n < T.length := by omega
    obtain ⟨sa, rfl, ra, za⟩ := ha.some (by omega)
    obtain ⟨sb, rfl, rb, zb⟩ := hb.some (by omega)
    have hx : (T.map AV.str)[((n : Nat) : Int).toNat * 1]? = some (.str T[n]) := by
      rw [show ((n : Nat) : Int).toNat * 1 = n by omega, List.getElem?_map, List.getElem?_eq_getElem hlt]; rfl
    refine l_round ?_
    refine cgo ?_
    refine g_do rfl (o_lss (xt rfl) (xt rfl) (fun h => ?_) (fun h => by omega))
    refine cgo ?_
    refine w_block ?_
    refine cgo ?_
    refine g_do rfl (o_iaddr (xt rfl) (xt rfl) ⟨by omega, by omega⟩ za ?_)
    refine g_do rfl (o_loadr (v := .str T[n]) (xt rfl) ra (by simp only [apart]; rw [hx]) ?_)
    refine cgo ?_
    refine g_do rfl (o_iaddr (xt rfl) (xt rfl) ⟨by omega, by omega⟩ zb ?_)
    refine g_do rfl (o_loadr (v := .str T[n]) (xt rfl) rb (by simp only [apart]; rw [hx]) ?_)
    refine g_do rfl (o_nes (xt rfl) (xt rfl) (fun _ => ?_) (fun h => absurd rfl h))
    refine cgo ?_
    refine g_do rfl (o_add (xt rfl) xc (by constructor <;> omega) ?_)
    refine cgo ?_
    refine l_sub (e' := [(0, .row (T.map .str) T.length sa), (1, .row (T.map .str) T.length sb), (5, .int .i64 ((n + 1 : Nat) : Int))]) (.cons rfl (.cons rfl (.cons rfl .nil))) (fun _ h => h) ?_
    exact samet_loop ha hb hT hQ k (n + 1) (by omega)
theorem samet_ev {a b : AV} {T : List ByteArray} (ha : RV fs 1 a (T.map .str) T.length) (hb : RV fs 1 b (T.map .str) T.length) (hT : T.length ≤ 1000000) {K : KK} (h : K (.bool true) fs) : Ev sW ftab 18 [a, b] fs K := by
  refine ev_fn (nt := 26) (kb := kb18) (kr := kr18) rfl rfl (Nat.le_of_ble_eq_true rfl) ?_
  refine cgo ?_
  refine g_do rfl (o_len (xt rfl) ha ?_)
  refine cgo ?_
  refine g_do rfl (o_len (xt rfl) hb ?_)
  refine g_do rfl (o_nei (xt rfl) (xt rfl) (fun _ => ?_) (fun h => absurd rfl h))
  refine cgo ?_
  refine w_block (w_loop ?_)
  refine l_sub (e' := [(0, a), (1, b), (5, .int .i64 ((0 : Nat) : Int))]) (.cons rfl (.cons rfl (.cons rfl .nil))) (fun _ h => h) ?_
  refine samet_loop ha hb hT (fun e => ?_) T.length 0 (by omega)
  refine cgo ?_
  exact ⟨trivial, _, _, .one (.tmp rfl), .refl _, h⟩
/-! A map's keys, sorted, are the row that was kept sorted. -/
def bl (s : ByteArray) : List UInt8 := s.data.toList
structure SameF (ks L : List ByteArray) : Prop where
  perm : L.Perm ks
  sorted : L.Pairwise fun a b => bl a ≤ bl b
theorem take_app {L A B : List ByteArray} (h : A ++ B = L) : L.take A.length = A ∧ L.drop A.length = B := by
  subst h
  exact ⟨List.take_left, List.drop_left⟩
theorem take_posL (L : List ByteArray) (s : ByteArray) : L.take (posL L s) = L.takeWhile (ltS · s) := (take_app List.takeWhile_append_dropWhile).1
theorem drop_posL (L : List ByteArray) (s : ByteArray) : L.drop (posL L s) = L.dropWhile (ltS · s) := (take_app List.takeWhile_append_dropWhile).2
theorem takeW_all {p : ByteArray → Bool} : ∀ {L : List ByteArray} {x : ByteArray}, x ∈ L.takeWhile p → p x = true
  | a :: L, x, h => by
    rw [List.takeWhile_cons] at h
    split at h
    · rename_i ha
      rcases List.mem_cons.1 h with rfl | h
      · exact ha
      · exact takeW_all h
    · cases h
theorem dropW_all {s : ByteArray} : ∀ {L : List ByteArray} {x : ByteArray}, (L.Pairwise fun a b => bl a ≤ bl b) → x ∈ L.dropWhile (ltS · s) → bl s ≤ bl x
  | a :: L, x, hp, h => by
    rw [List.dropWhile_cons] at h
    rw [List.pairwise_cons] at hp
    split at h
    · exact dropW_all hp.2 h
    · rename_i ha
      have hsa : bl s ≤ bl a := List.not_lt.1 fun hl => ha (decide_eq_true hl)
      rcases List.mem_cons.1 h with rfl | h
      · exact hsa
      · exact List.le_trans hsa (hp.1 x h)
theorem SameF.ins {ks L : List ByteArray} (h : SameF ks L) (s : ByteArray) : SameF (ks ++ [s]) (insL L s) := by
  constructor
  · have h1 : (insL L s).Perm (L ++ [s]) := by
      unfold insL
      have h2 : (L.take (posL L s) ++ [s] ++ L.drop (posL L s)).Perm (L.take (posL L s) ++ (L.drop (posL L s) ++ [s])) := by
        rw [List.append_assoc]
        exact List.Perm.append_left _ (List.perm_append_comm)
      rw [← List.append_assoc, List.take_append_drop] at h2
      exact h2
    exact h1.trans (h.perm.append_right _)
  · unfold insL
    rw [take_posL, drop_posL]
    have hs : ((L.takeWhile (ltS · s)) ++ L.dropWhile (ltS · s)).Pairwise fun a b => bl a ≤ bl b := by rw [List.takeWhile_append_dropWhile]; exact h.sorted
    rw [List.pairwise_append] at hs
    rw [List.append_assoc, List.pairwise_append]
    refine ⟨hs.1, ?_, fun a ha b hb => ?_⟩
    · rw [List.singleton_append, List.pairwise_cons]
      exact ⟨fun b hb => dropW_all h.sorted hb, hs.2.1⟩
    · rcases List.mem_append.1 hb with hb | hb
      · obtain rfl : b = s := by simpa using hb
        exact List.le_of_lt (of_decide_eq_true (takeW_all ha))
      · exact hs.2.2 a ha b hb
theorem memB_perm {ks L : List ByteArray} (h : L.Perm ks) (s : ByteArray) : memB L s = memB ks s := by
  by_cases hs : s ∈ ks
  · rw [memB_t hs, memB_t (h.mem_iff.2 hs)]
  · rw [memB_f hs, memB_f fun h1 => hs (h.mem_iff.1 h1)]
theorem SameF.add {ks L : List ByteArray} (h : SameF ks L) (s : ByteArray) : SameF (addK ks s) (addL L s) := by
  unfold addK addL
  rw [memB_perm h.perm, h.perm.length_eq]
  split
  · split
    · exact h
    · split
      · exact h
      · exact h.ins s
  · exact h
theorem SameF.addB {ks L : List ByteArray} (h : SameF ks L) (s : ByteArray) : EvA.addB L s = EvA.addB ks s := by
  unfold EvA.addB
  rw [memB_perm h.perm, h.perm.length_eq]
theorem SameF.fold : ∀ (T : List ByteArray) {ks L : List ByteArray}, SameF ks L → SameF (T.foldl addK ks) (T.foldl addL L)
  | [], ks, L, h => h
  | s :: T, ks, L, h => SameF.fold T (h.add s)
theorem SameF.nil : SameF [] [] := ⟨.refl _, .nil⟩
theorem SameF.keys {ks L : List ByteArray} (h : SameF ks L) : sortK ks = L.map bl := by
  unfold sortK
  have h1 : (L.map bl).mergeSort (fun x y => decide (x ≤ y)) = L.map bl := List.mergeSort_of_pairwise (by
    rw [List.pairwise_map]
    exact h.sorted.imp fun hab => decide_eq_true hab)
  rw [← h1]
  exact (mergeSort_of_perm (h.perm.map _)).symm
theorem SameF.row {ks L : List ByteArray} (h : SameF ks L) : RV fs 1 (rowK ks) (L.map .str) L.length := by
  cases ks with
  | nil =>
    have : L = [] := List.eq_nil_of_length_eq_zero h.perm.length_eq
    subst this
    exact .nil
  | cons k ks =>
    have h1 : (sortK (k :: ks)).map (fun l => AV.str ⟨l.toArray⟩) = L.map .str := by
      rw [h.keys, List.map_map]
      apply List.map_congr_left
      intro s _
      simp [bl]
    have h2 : L.length = (k :: ks).length := h.perm.length_eq
    show RV fs 1 (.row ((sortK (k :: ks)).map fun l => AV.str ⟨l.toArray⟩) (k :: ks).length ⟨0, 0, 0, 1⟩) _ _
    rw [h1, ← h2]
    exact .row (.frz rfl) rfl
section
variable {S : Sum} {F : FuncId → Option AF} {fs fs' : List Fact} {e : Env} {L : Nat}
theorem w_nd {k : KC} {Q : AO → Env → List Fact → Prop} (h : (fs.map Fact.key).Nodup → WC S F k L e fs Q) : WC S F k L e fs Q := fun ts h0 h1 h2 => h h2.nodup ts h0 h1 h2
theorem g_nd {k : KR} {Q : Env → List Fact → Prop} (h : (fs.map Fact.key).Nodup → WG S F k L e fs Q) : WG S F k L e fs Q := fun ts h0 h1 h2 => h h2.nodup ts h0 h1 h2
theorem Ev.nd {f : FuncId} {args : List AV} {K : KK} (h : (fs.map Fact.key).Nodup → Ev S F f args fs K) : Ev S F f args fs K := fun h0 hh => h hh.nodup h0 hh
theorem nd_new {i j : Nat} {a b : ABlk} (h : ((Fact.blk i a :: fs).map Fact.key).Nodup) (hj : Has fs (.blk j b)) : j ≠ i := by
  rintro rfl
  rw [List.map_cons, List.nodup_cons] at h
  exact h.1 (List.mem_map.2 ⟨_, hj.mem, rfl⟩)
def Fr (ks : List (Nat × Nat)) (fs fs' : List Fact) : Prop := ∀ y, Has fs y → y.key ∉ ks → Has fs' y
theorem Fr.refl {ks : List (Nat × Nat)} : Fr ks fs fs := fun _ h _ => h
theorem Fr.trans {ks : List (Nat × Nat)} {a b c : List Fact} (h : Fr ks a b) (k : Fr ks b c) : Fr ks a c := fun y hy hn => k y (h y hy hn) hn
theorem Fr.more {ks js : List (Nat × Nat)} {a b : List Fact} (h : Fr ks a b) (hs : ∀ x ∈ ks, x ∈ js) : Fr js a b := fun y hy hn => h y hy fun hm => hn (hs _ hm)
theorem Fr.of0 {js : List (Nat × Nat)} {a b : List Fact} (h : Fr [] a b) : Fr js a b := h.more fun x hx => by cases hx
theorem Fr.cons {ks : List (Nat × Nat)} {x : Fact} {a b : List Fact} (h : Fr ks a b) : Fr ks a (x :: b) := fun y hy hn => .there (h y hy hn)
theorem Fr.app {ks : List (Nat × Nat)} {l a b : List Fact} (h : Fr ks a b) : Fr ks a (l ++ b) := fun y hy hn => (h y hy hn).app
theorem RV.fk {ks : List (Nat × Nat)} {size : Nat} {v : AV} {cs : List AV} {n : Nat} (h : RV fs size v cs n) (g : Fr ks fs fs') (hk : ∀ x ∈ ks, x.1 = 0) : RV fs' size v cs n := by
  cases h with
  | nil => exact .nil
  | row h1 h2 => cases h1 with
    | frz h1 => exact .row (.frz h1) h2
    | own h1 => exact .row (.own (g _ h1 fun hm => absurd (hk _ hm) (Nat.one_ne_zero))) h2
theorem Has.head {x : Fact} (h : Has fs x) : ∃ r, fs.Perm (x :: r) ∧ Fr [x.key] fs r := by
  induction h with
  | here => exact ⟨_, .refl _, fun y hy hn => by
      cases hy with
      | here => exact absurd (List.mem_singleton.2 rfl) hn
      | there h => exact h⟩
  | there h ih =>
    rename_i x y r
    obtain ⟨r', hp, hf⟩ := ih
    refine ⟨y :: r', (hp.cons y).trans (.swap ..), fun z hz hn => ?_⟩
    cases hz with
    | here => exact .here
    | there hz => exact .there (hf z hz hn)
theorem bk {i j : Nat} {b : ABlk} (h : i ≠ j) : (Fact.blk i b).key ∉ [(0, j)] := fun hm => h (congrArg Prod.snd (List.mem_singleton.1 hm))
theorem zk {j : Nat} : ∀ x ∈ [((0 : Nat), j)], x.1 = 0 := fun x hx => by rw [List.mem_singleton.1 hx]
theorem z0 : ∀ x ∈ ([] : List (Nat × Nat)), x.1 = 0 := fun x hx => by cases hx
/-- Two blocks of different words are two. -/
theorem nd_key {x y : Fact} (h : (fs.map Fact.key).Nodup) (hx : Has fs x) (hy : Has fs y) (hxy : x ≠ y) : x.key ≠ y.key := by
  induction hx with
  | here =>
    cases hy with
    | here => exact absurd rfl hxy
    | there hy =>
      intro e
      rw [List.map_cons, List.nodup_cons] at h
      exact h.1 (e ▸ List.mem_map.2 ⟨_, hy.mem, rfl⟩)
  | there hx ih =>
    rw [List.map_cons, List.nodup_cons] at h
    cases hy with
    | here => intro e; exact h.1 (e ▸ List.mem_map.2 ⟨_, hx.mem, rfl⟩)
    | there hy => exact ih h.2 hy hxy
theorem nd_ne {i j : Nat} {a b : ABlk} (h : (fs.map Fact.key).Nodup) (hi : Has fs (.blk i a)) (hj : Has fs (.blk j b)) (hab : a ≠ b) : i ≠ j := fun e =>
  nd_key h hi hj (fun e => by cases e; exact hab rfl) (by rw [e]; rfl)
end
theorem clone_ev {S : Sum} {F : FuncId → Option AF} {g : FuncId} {j c : Nat} {es : List (AV × AV × Nat)} (hS : S g = some cloneS) (hj : Has fs (.blk j (.map es c))) {K : KK} (h : ∀ i, K (.map i) (.blk i (.map es c) :: fs)) : Ev S F g [.map j] fs K :=
  ev_sum hS fun h0 h2 => ⟨.map h0.next, h0.new (.map es c), _, h2.new _, h h0.next, by unfold cloneS; simp only [h2.get hj]⟩
/-! Both trees. -/
structure TInv (fs : List Fact) (i j : Nat) (ks : List ByteArray) : Prop where
  ex : ∃ es c, Has fs (.blk j (.map es c)) ∧ MapF es c ks
  hi : Has fs (.blk i (.cells [.map j]))
  ne : i ≠ j
structure DInv (fs : List Fact) (w : Nat) (L : List ByteArray) : Prop where
  ex : ∃ v, Has fs (.blk w (.cells [v])) ∧ RV fs 1 v (L.map .str) L.length
theorem TInv.fr {i j : Nat} {ks : List ByteArray} {js : List (Nat × Nat)} (h : TInv fs i j ks) (g : Fr js fs fs') (h1 : (0, i) ∉ js) (h2 : (0, j) ∉ js) : TInv fs' i j ks := by
  obtain ⟨es, c, hj, hm⟩ := h.ex
  exact ⟨⟨es, c, g _ hj h2, hm⟩, g _ h.hi h1, h.ne⟩
theorem DInv.fr {w : Nat} {L : List ByteArray} {js : List (Nat × Nat)} (h : DInv fs w L) (g : Fr js fs fs') (h1 : (0, w) ∉ js) (hz : ∀ x ∈ js, x.1 = 0) : DInv fs' w L := by
  obtain ⟨v, hw, hv⟩ := h.ex
  exact ⟨v, g _ hw h1, hv.fk g hz⟩
theorem nk {i j : Nat} (h : i ≠ j) : ((0 : Nat), i) ∉ [((0 : Nat), j)] := fun hm => h (congrArg Prod.snd (List.mem_singleton.1 hm))
theorem TMake_ev {i j : Nat} {ks : List ByteArray} {s : ByteArray} (hT : TInv fs i j ks) (hks : ks.length ≤ 200) {K : KK} (h : ∀ fs', Fr [(0, j)] fs fs' → TInv fs' i j (addK ks s) → K (.bool (addB ks s)) fs') : Ev sW ftab 14 [.ptr i 0, .str s] fs K := by
  obtain ⟨es, c, hj, hm⟩ := hT.ex
  obtain ⟨r, hp, hf⟩ := hj.head
  have hi := hf _ hT.hi (nk hT.ne)
  refine Ev.perm hp (tmake_ev hi hm hks fun es' c' hm' => h _ (Fr.cons hf) ⟨⟨es', c', .here, hm'⟩, .there hi, hT.ne⟩)
theorem DMake_ev {w : Nat} {L : List ByteArray} {s : ByteArray} (hD : DInv fs w L) (hL : L.length ≤ 200) {K : KK} (h : ∀ fs', Fr [(0, w)] fs fs' → DInv fs' w (addL L s) → K (.bool (addB L s)) fs') : Ev sW ftab 17 [.ptr w 0, .str s] fs K := by
  obtain ⟨v, hw, hv⟩ := hD.ex
  obtain ⟨r, hp, hf⟩ := hw.head
  refine Ev.perm hp (rMake_ev (hv.fk hf zk) hL fun v' fs2 g hv' => h _ (fun y hy hn => .there (g _ (hf y hy hn))) ⟨v', .here, hv'.cons⟩)
theorem THas_ev {i j : Nat} {ks : List ByteArray} {s : ByteArray} (hT : TInv fs i j ks) {K : KK} (h : K (.bool (memB ks s)) fs) : Ev sW ftab 12 [.ptr i 0, .str s] fs K := by
  obtain ⟨es, c, hj, hm⟩ := hT.ex
  exact thas_ev hT.hi hj hm h
theorem DHas_ev {w : Nat} {L : List ByteArray} {s : ByteArray} (hD : DInv fs w L) (hL : L.length ≤ 200) {K : KK} (h : K (.bool (memB L s)) fs) : Ev sW ftab 16 [.ptr w 0, .str s] fs K := by
  obtain ⟨v, hw, hv⟩ := hD.ex
  exact rHas_ev hw hv (by omega) h
theorem sortB_same {ks L : List ByteArray} (h : SameF ks L) : sortB ks = L := by
  unfold sortB
  rw [h.keys, List.map_map]
  have : ∀ l : List ByteArray, l.map ((fun l => (⟨l.toArray⟩ : ByteArray)) ∘ bl) = l := fun l => by
    induction l with
    | nil => rfl
    | cons a l ih => rw [List.map_cons, ih]; rfl
  exact this L
theorem TNames_ev {i j : Nat} {ks L : List ByteArray} (hT : TInv fs i j ks) (hS : SameF ks L) {K : KK} (h : ∀ v fs', Fr [] fs fs' → RV fs' 1 v (L.map .str) L.length → K v fs') : Ev sW ftab 10 [.ptr i 0] fs K := by
  obtain ⟨es, c, hj, hm⟩ := hT.ex
  refine names_ev hT.hi hj hm fun b v d hA => h v _ (Fr.cons Fr.refl).app ?_
  rw [← sortB_same hS]
  exact RV.of hA
theorem TCopy_ev {i j : Nat} {ks : List ByteArray} (hT : TInv fs i j ks) {K : KK} (h : ∀ i2 j2 fs', Fr [] fs fs' → (∀ n b, Has fs (.blk n b) → n ≠ i2 ∧ n ≠ j2) → TInv fs' i2 j2 ks → K (.ptr i2 0) fs') : Ev sW ftab 19 [.ptr i 0] fs K := by
  obtain ⟨es, c, hj, hm⟩ := hT.ex
  have hi := hT.hi
  refine ev_fn (nt := 10) (kb := kb19) (kr := kr19) rfl rfl (Nat.le_of_ble_eq_true rfl) ?_
  refine cgo ?_
  refine g_do rfl (o_load (xt rfl) hi rfl ?_)
  refine g_do rfl (o_call (.cons (xt rfl) .nil) (clone_ev rfl hj fun j2 => ?_))
  refine g_do rfl (o_build (.cons (xt rfl) .nil) rfl ?_)
  refine g_do rfl (o_box (xt rfl) rfl fun i2 => ?_)
  refine rgo ?_
  refine w_nd fun hnd => ?_
  refine cgo ?_
  have hnd2 : ((Fact.blk j2 (.map es c) :: fs).map Fact.key).Nodup := by
    rw [List.map_cons, List.nodup_cons] at hnd; exact hnd.2
  refine ⟨trivial, _, _, .one (.tmp rfl), .refl _, h i2 j2 _ (Fr.cons (Fr.cons Fr.refl)) (fun n b hb => ⟨nd_new hnd (.there hb), nd_new hnd2 hb⟩) ⟨⟨es, c, .there .here, hm⟩, .here, fun e => nd_new hnd (.here : Has (.blk j2 (.map es c) :: fs) _) e.symm⟩⟩
theorem pre1_at {t : List UInt8} {b : UInt8} (h : t[0]? = some b) : pre1 t = decide (b.toNat = 46) := by unfold pre1; rw [h]; simp
theorem pre1_no {t : List UInt8} (h : t[0]? = none) : pre1 t = false := by unfold pre1; rw [h]; simp
def keptG (T : ByteArray) (L : List Bool) (N : List ByteArray) : List ByteArray := N.filter fun s => !dG T L s
theorem keptG_no {T s : ByteArray} {L : List Bool} {N : List ByteArray} {n : Nat} (hn : N[n]? = some s) (h : dG T L s = true) : keptG T L (N.take (n + 1)) = keptG T L (N.take n) := by
  unfold keptG
  rw [List.take_add_one, hn, Option.toList_some, List.filter_append, List.filter_cons, if_neg (by rw [h]; simp), List.filter_nil, List.append_nil]
theorem keptG_yes {T s : ByteArray} {L : List Bool} {N : List ByteArray} {n : Nat} (hn : N[n]? = some s) (h : dG T L s = false) : keptG T L (N.take (n + 1)) = keptG T L (N.take n) ++ [s] := by
  unfold keptG
  rw [List.take_add_one, hn, Option.toList_some, List.filter_append, List.filter_cons, if_pos (by rw [h]; rfl), List.filter_nil]
theorem dg_loop {T : ByteArray} {lw v : AV} {L : List Bool} {N : List ByteArray} {w x3 : Nat} (hT : T.size ≤ 1000000) (hN : ∀ s ∈ N, 0 < s.size ∧ s.size ≤ 1000000) (hlen : N.length ≤ 1000000) (hw : Has fs (.blk w (.cells [v]))) (hv : RV fs 1 v (N.map .str) N.length) (hlw : RV fs 1 lw (L.map .bool) L.length) {Q : AO → Env → List Fact → Prop}
    (hQ : ∀ en o d, AR 1 o ((keptG T L N).map .str) (keptG T L N).length d → Sub en [(5, o)] → Q (.exit 0) en (d ++ .blk x3 (.cells [.str T, lw]) :: fs)) :
    ∀ (r n : Nat) (o : AV) (d : List Fact), n + r = N.length → AR 1 o ((keptG T L (N.take n)).map .str) (keptG T L (N.take n)).length d →
    WL sW ftab lb20_0 56 [(0, .ptr w 0), (3, .ptr x3 0), (5, o), (6, .int .i64 n)] (d ++ .blk x3 (.cells [.str T, lw]) :: fs) Q
  | 0, n, o, d, hn, hA => by
    have hw1 : Has (d ++ .blk x3 (.cells [.str T, lw]) :: fs) (.blk w (.cells [v])) := Has.app (.there hw)
    have hv1 : RV (d ++ .blk x3 (.cells [.str T, lw]) :: fs) 1 v (N.map .str) N.length := RV.app hv.cons
    refine l_round ?_
    refine cgo ?_
    refine g_do rfl (o_load (xt rfl) hw1 rfl ?_)
    refine g_do rfl (o_len (xt rfl) hv1 ?_)
    refine g_do rfl (o_lss (xt rfl) (xt rfl) (fun h => by omega) (fun h => ?_))
    refine cgo ?_
    rw [List.take_of_length_le (by omega)] at hA
    exact hQ _ o d hA (.cons rfl .nil)
  | r + 1, n, o, d, hn, hA => by
    have hw1 : Has (d ++ .blk x3 (.cells [.str T, lw]) :: fs) (.blk w (.cells [v])) := Has.app (.there hw)
    have hx1 : Has (d ++ .blk x3 (.cells [.str T, lw]) :: fs) (.blk x3 (.cells [.str T, lw])) := Has.app .here
    have hv1 : RV (d ++ .blk x3 (.cells [.str T, lw]) :: fs) 1 v (N.map .str) N.length := RV.app hv.cons
    have hl1 : RV (d ++ .blk x3 (.cells [.str T, lw]) :: fs) 1 lw (L.map .bool) L.length := RV.app hlw.cons
    have hlt : n < N.length := by omega
    have hs : N[n]? = some N[n] := List.getElem?_eq_getElem hlt
    have hsz := hN N[n] (List.getElem_mem hlt)
    generalize N[n] = s at hs hsz
    obtain ⟨sr, rfl, hrd, hz⟩ := hv1.some (by omega)
    have hld : apart (N.map AV.str) (((n : Nat) : Int).toNat * 1) none = some (.str s) := by
      simp only [apart]
      rw [show ((n : Nat) : Int).toNat * 1 = n by omega, List.getElem?_map, hs]; rfl
    have hk : (keptG T L (N.take n)).length ≤ 1000000 := by
      have h1 : (keptG T L (N.take n)).length ≤ (N.take n).length := List.length_filter_le ..
      have h2 : (N.take n).length ≤ n := by rw [List.length_take]; omega
      omega
    have skip : ∀ en, dG T L s = true → Sub en [(0, .ptr w 0), (3, .ptr x3 0), (5, o), (6, .int .i64 ((n + 1 : Nat) : Int))] → WL sW ftab lb20_0 56 en (d ++ .blk x3 (.cells [.str T, lw]) :: fs) Q := fun en hd hS =>
      l_sub hS (fun _ h => h) (dg_loop hT hN hlen hw hv hlw hQ r (n + 1) o d (by omega) (by rw [keptG_no hs hd]; exact hA))
    obtain ⟨b, hb⟩ : ∃ b, s.data.toList[0]? = some b := tget hsz.1
    refine l_round ?_
    refine cgo ?_
    refine g_do rfl (o_load (xt rfl) hw1 rfl ?_)
    refine g_do rfl (o_len (xt rfl) hv1 ?_)
    refine g_do rfl (o_lss (xt rfl) (xt rfl) (fun h => ?_) (fun h => by omega))
    refine cgo ?_
    refine w_block ?_
    refine cgo ?_
    refine g_do rfl (o_load (xt rfl) hw1 rfl ?_)
    refine cgo ?_
    refine g_do rfl (o_iaddr (xt rfl) (xt rfl) ⟨by omega, by omega⟩ hz ?_)
    refine g_do rfl (o_loadr (v := .str s) (xt rfl) hrd hld ?_)
    refine g_do rfl (o_idx (b := b) (xt rfl) xc (by decide) hb ?_)
    have rest : ∀ en, (pre1 s.data.toList && !pre1 T.data.toList) = false → Sub en [(0, .ptr w 0), (3, .ptr x3 0), (5, o), (6, .int .i64 n)] → True := fun _ _ _ => trivial
    refine g_mono (Q := fun e' fs' => fs' = (d ++ .blk x3 (.cells [.str T, lw]) :: fs) ∧ Sub e' [(35, .bool (pre1 s.data.toList && !pre1 T.data.toList)), (0, .ptr w 0), (3, .ptr x3 0), (5, o), (6, .int .i64 n)]) ?_ ?_
    · refine g_do rfl (o_eqi (xt rfl) xc (fun h46 => ?_) (fun h46 => ?_))
      · rw [pre1_at hb, decide_eq_true (by omega), Bool.true_and]
        refine cgo ?_
        refine g_do rfl (o_load (xt rfl) hx1 rfl ?_)
        refine g_if rfl ?_
        refine g_do rfl (o_eqs (xt rfl) xc (fun he => ?_) (fun he => ?_))
        · rw [pre1_no (t := T.data.toList) (by rw [he]; rfl)]
          refine cgo ?_
          exact ⟨rfl, .cons rfl (.cons rfl (.cons rfl (.cons rfl (.cons rfl .nil))))⟩
        · have h0 : 0 < T.size := by
            rcases Nat.eq_zero_or_pos T.size with h0 | h0
            · exact absurd (ByteArray.ext (Array.eq_empty_of_size_eq_zero h0)) he
            · exact h0
          obtain ⟨c, hc⟩ : ∃ c, T.data.toList[0]? = some c := tget h0
          rw [pre1_at hc]
          refine cgo ?_
          refine g_do rfl (o_load (xt rfl) hx1 rfl ?_)
          refine g_if rfl ?_
          refine g_do rfl (o_idx (b := c) (xt rfl) xc (by decide) hc ?_)
          refine cgo ?_
          refine g_do rfl (o_nei (xt rfl) xc (fun hc46 => ?_) (fun hc46 => ?_))
          · rw [decide_eq_true (by omega)]
            refine cgo ?_
            exact ⟨rfl, .cons rfl (.cons rfl (.cons rfl (.cons rfl (.cons rfl .nil))))⟩
          · rw [decide_eq_false (by omega)]
            refine cgo ?_
            exact ⟨rfl, .cons rfl (.cons rfl (.cons rfl (.cons rfl (.cons rfl .nil))))⟩
      · rw [pre1_at hb, decide_eq_false (by omega), Bool.false_and]
        refine cgo ?_
        exact ⟨rfl, .cons rfl (.cons rfl (.cons rfl (.cons rfl (.cons rfl .nil))))⟩
    rintro e' fs2 ⟨rfl, hS⟩
    refine w_sub hS (fun _ h => h) ?_
    cases hpre : (pre1 s.data.toList && !pre1 T.data.toList) with
    | true =>
      refine cgo ?_
      refine g_do rfl (o_add (xt rfl) xc (by constructor <;> omega) ?_)
      refine cgo ?_
      refine skip _ ?_ (.cons rfl (.cons rfl (.cons rfl (.cons rfl .nil))))
      show ((pre1 s.data.toList && !pre1 T.data.toList) || _) = true
      rw [hpre]; rfl
    | false =>
      have hdG : dG T L s = !matchB T.data.toList L s.data.toList := by
        show ((pre1 s.data.toList && !pre1 T.data.toList) || _) = _
        rw [hpre]; rfl
      refine cgo ?_
      refine g_do rfl (o_load (xt rfl) hx1 rfl ?_)
      refine cgo ?_
      refine g_do rfl (o_load (xt rfl) hw1 rfl ?_)
      refine cgo ?_
      refine g_do rfl (o_iaddr (xt rfl) (xt rfl) ⟨by omega, by omega⟩ hz ?_)
      refine g_do rfl (o_loadr (v := .str s) (xt rfl) hrd hld ?_)
      refine g_do rfl (o_call (.cons (xt rfl) (.cons (xt rfl) .nil)) (dmatch_ev hT hsz.2 hl1 ?_))
      cases hmt : matchB T.data.toList L s.data.toList with
      | false =>
        refine cgo ?_
        refine g_do rfl (o_add (xt rfl) xc (by constructor <;> omega) ?_)
        refine cgo ?_
        exact skip _ (by rw [hdG, hmt]; rfl) (.cons rfl (.cons rfl (.cons rfl (.cons rfl .nil))))
      | true =>
        have hd : dG T L s = false := by rw [hdG, hmt]; rfl
        have hky := keptG_yes hs hd
        refine cgo ?_
        refine g_do rfl (o_load (xt rfl) hw1 rfl ?_)
        refine cgo ?_
        refine g_do rfl (o_iaddr (xt rfl) (xt rfl) ⟨by omega, by omega⟩ hz ?_)
        refine g_do rfl (o_loadr (v := .str s) (xt rfl) hrd hld ?_)
        refine g_do rfl (o_row (cs := [.str s]) (.cons (xt rfl) .nil) rfl rfl fun f0 id0 => ?_)
        rcases hA.inv with ⟨rfl, h1, h2, rfl⟩ | ⟨f, id, hne, rfl, rfl⟩
        · have hk0 : keptG T L (N.take n) = [] := List.eq_nil_of_length_eq_zero h2
          refine g_do rfl (o_appn (xt rfl) (.own (xt rfl) .here rfl) rfl (by decide) ⟨by decide, by decide⟩ fun f1 id1 => ?_)
          refine cgo ?_
          refine g_do rfl (o_add (xt rfl) xc (by constructor <;> omega) ?_)
          refine cgo ?_
          refine l_sub (fs' := [.row f1 id1 (1 * 1)] ++ .blk x3 (.cells [.str T, lw]) :: fs) (e' := [(0, .ptr w 0), (3, .ptr x3 0), (5, .row [.str s] 1 ⟨f1, id1, 0, 1⟩), (6, .int .i64 ((n + 1 : Nat) : Int))]) (.cons rfl (.cons rfl (.cons rfl (.cons rfl .nil)))) (fun _ h => h.mono (.cons_cons _ (.cons _ (.refl _)))) ?_
          refine dg_loop hT hN hlen hw hv hlw hQ r (n + 1) _ _ (by omega) ?_
          rw [hky, hk0]
          exact .own (by decide)
        · refine g_do rfl (o_appo (fs' := fun id' => .row f0 id0 (1 * 1) :: .row f id' (0 + (keptG T L (N.take n)).length * 1 + 1 * 1) :: .blk x3 (.cells [.str T, lw]) :: fs) (xt rfl) (.own (xt rfl) .here rfl) rfl (by decide) ⟨by omega, by omega⟩ rfl (fun id' => .there .here) fun id1 => ?_)
          refine cgo ?_
          refine g_do rfl (o_add (xt rfl) xc (by constructor <;> omega) ?_)
          refine cgo ?_
          refine l_sub (fs' := [.row f id1 (((keptG T L (N.take n)).length + 1) * 1)] ++ .blk x3 (.cells [.str T, lw]) :: fs) (e' := [(0, .ptr w 0), (3, .ptr x3 0), (5, .row ((keptG T L (N.take n)).map AV.str ++ [.str s]) ((keptG T L (N.take n)).length + 1) ⟨f, id1, 0, 1⟩), (6, .int .i64 ((n + 1 : Nat) : Int))]) (.cons rfl (.cons rfl (.cons rfl (.cons rfl .nil)))) (fun _ h => ?_) ?_
          · have h1 := h.mono (.cons _ (.refl _))
            rw [show 0 + (keptG T L (N.take n)).length * 1 + 1 * 1 = ((keptG T L (N.take n)).length + 1) * 1 by omega] at h1
            exact h1
          refine dg_loop hT hN hlen hw hv hlw hQ r (n + 1) _ _ (by omega) ?_
          rw [hky, List.map_append, List.length_append]
          exact .own (by simp)
theorem DGlob_ev {T : ByteArray} {lw : AV} {L : List Bool} {N : List ByteArray} {w : Nat} (hT : T.size ≤ 1000000) (hN : ∀ s ∈ N, 0 < s.size ∧ s.size ≤ 1000000) (hlen : N.length ≤ 1000000) (hD : DInv fs w N) (hlw : RV fs 1 lw (L.map .bool) L.length) {K : KK}
    (h : ∀ v fs', Fr [] fs fs' → RV fs' 1 v ((keptG T L N).map .str) (keptG T L N).length → K v fs') : Ev sW ftab 20 [.ptr w 0, .agg [.str T, lw]] fs K := by
  obtain ⟨v, hw, hv⟩ := hD.ex
  refine ev_fn (nt := 56) (kb := kb20) (kr := kr20) rfl rfl (Nat.le_of_ble_eq_true rfl) ?_
  refine cgo ?_
  refine g_do rfl (o_box (xt rfl) rfl fun x3 => ?_)
  refine cgo ?_
  refine w_block (w_loop ?_)
  refine l_sub (fs' := [] ++ .blk x3 (.cells [.str T, lw]) :: fs) (e' := [(0, .ptr w 0), (3, .ptr x3 0), (5, .nilrow), (6, .int .i64 ((0 : Nat) : Int))]) (.cons rfl (.cons rfl (.cons rfl (.cons rfl .nil)))) (fun _ h => h) ?_
  refine dg_loop hT hN hlen hw hv hlw (fun en o d hA hS => ?_) N.length 0 .nilrow [] (by omega) .nil
  refine w_sub hS (fun _ h => h) ?_
  refine cgo ?_
  exact ⟨trivial, _, _, .one (.tmp rfl), .refl _, h o _ (Fr.cons Fr.refl).app (RV.of hA)⟩
theorem TGlob_ev {T : ByteArray} {lw : AV} {L : List Bool} {i j : Nat} {ks N : List ByteArray} (hT : T.size ≤ 1000000) (hI : TInv fs i j ks) (hS : SameF ks N) (hks : ks.length ≤ 200) (hok : ∀ s ∈ ks, 0 < s.size ∧ s.size ≤ 1000000) (hw : RV fs 1 lw (L.map .bool) L.length) {K : KK}
    (h : ∀ v fs', Fr [] fs fs' → RV fs' 1 v ((keptG T L N).map .str) (keptG T L N).length → K v fs') : Ev sW ftab 9 [.ptr i 0, .agg [.str T, lw]] fs K := by
  obtain ⟨es, c, hj, hm⟩ := hI.ex
  refine tglob_ev hT hI.hi hj hm (by omega) hok hw fun v d b b2 hv => h v _ (Fr.cons (Fr.cons Fr.refl)).app ?_
  have e1 : toldG T L ks = keptG T L N := by unfold toldG keptG; rw [sortB_same hS]
  rw [← e1]; exact hv
structure St (fs : List Fact) (i j w x : Nat) (ks L : List ByteArray) (T : ByteArray) (lw : AV) : Prop where
  t : TInv fs i j ks
  d : DInv fs w L
  same : SameF ks L
  few : ks.length ≤ 200
  okk : ∀ s ∈ ks, okS s = true
  p : Has fs (.blk x (.cells [.str T, lw]))
  wi : w ≠ i
  wj : w ≠ j
  xj : x ≠ j
  xw : x ≠ w
theorem St.lfew {i j w x : Nat} {ks L : List ByteArray} {T : ByteArray} {lw : AV} (h : St fs i j w x ks L T lw) : L.length ≤ 200 := by rw [h.same.perm.length_eq]; exact h.few
theorem St.fr {i j w x : Nat} {ks L : List ByteArray} {T : ByteArray} {lw : AV} (h : St fs i j w x ks L T lw) {js : List (Nat × Nat)} (g : Fr js fs fs') (hz : ∀ y ∈ js, y.1 = 0) (h1 : ∀ y ∈ js, y.2 ≠ i ∧ y.2 ≠ j ∧ y.2 ≠ w ∧ y.2 ≠ x) : St fs' i j w x ks L T lw :=
  ⟨h.t.fr g (fun hm => (h1 _ hm).1 rfl) (fun hm => (h1 _ hm).2.1 rfl), h.d.fr g (fun hm => (h1 _ hm).2.2.1 rfl) hz, h.same, h.few, h.okk, g _ h.p (fun hm => (h1 _ hm).2.2.2 rfl), h.wi, h.wj, h.xj, h.xw⟩
theorem St.fr0 {i j w x : Nat} {ks L : List ByteArray} {T : ByteArray} {lw : AV} (h : St fs i j w x ks L T lw) (g : Fr [] fs fs') : St fs' i j w x ks L T lw := h.fr g z0 fun y hy => by cases hy
theorem tchk_loop {nv lv : AV} {names : List ByteArray} {raw : ByteArray} {x : Nat} (hM : RI 1 nv (names.map .str) names.length) (hlen : names.length ≤ 1000000) {Q : AO → Env → List Fact → Prop} (hQ1 : ∀ en, Sub en [(8, .bool true)] → Q .ret en fs) (hQ2 : ∀ en, Sub en [(0, nv), (1, lv), (3, .str raw), (6, .ptr x 0)] → Q (.exit 0) en fs) :
    ∀ (r i : Nat), i + r = names.length → WL sW ftab lb5_0 141 [(0, nv), (1, lv), (3, .str raw), (6, .ptr x 0), (9, .int .i64 i)] fs Q
  | 0, i, hi => by
    refine l_round ?_
    refine cgo ?_
    refine g_do rfl (o_len (xt rfl) hM.rv ?_)
    refine g_do rfl (o_lss (xt rfl) (xt rfl) (fun h => by omega) (fun h => ?_))
    refine cgo ?_
    exact hQ2 _ (.cons rfl (.cons rfl (.cons rfl (.cons rfl .nil))))
  | r + 1, i, hi => by
    have hlt : i < names.length := by omega
    have hel : apart (names.map AV.str) (((i : Nat) : Int).toNat * 1) none = some (.str names[i]) := by
      simp only [apart]
      rw [show ((i : Nat) : Int).toNat * 1 = i by omega, List.getElem?_map, List.getElem?_eq_getElem hlt]; rfl
    generalize names[i] = s at hel
    have hv := hM.rv (fs := fs)
    obtain ⟨sr, rfl, hrd, hz⟩ := hv.some (by omega)
    refine l_round ?_
    refine cgo ?_
    refine g_do rfl (o_lss (xt rfl) (xt rfl) (fun h => ?_) (fun h => by omega))
    refine cgo ?_
    refine w_block ?_
    refine cgo ?_
    refine g_do rfl (o_iaddr (xt rfl) (xt rfl) ⟨by omega, by omega⟩ hz ?_)
    refine g_do rfl (o_loadr (v := .str s) (xt rfl) hrd hel ?_)
    refine cgo ?_
    refine g_do rfl (o_gtr (xt rfl) xc (fun h1 => ?_) (fun h1 => ?_))
    · refine cgo ?_
      refine g_do rfl (o_call .nil (awake_ev ?_))
      refine cgo ?_
      exact hQ1 _ (.cons rfl .nil)
    · refine cgo ?_
      refine g_do rfl (o_add (xt rfl) xc (by constructor <;> omega) ?_)
      refine cgo ?_
      refine l_sub (e' := [(0, .row (names.map .str) names.length sr), (1, lv), (3, .str raw), (6, .ptr x 0), (9, .int .i64 ((i + 1 : Nat) : Int))]) (.cons rfl (.cons rfl (.cons rfl (.cons rfl (.cons rfl .nil))))) (fun _ h => h) ?_
      exact tchk_loop hM hlen hQ1 hQ2 r (i + 1) (by omega)
theorem ll_loop {lv lw : AV} {l : List ByteArray} {raw T : ByteArray} {i j w x : Nat} (hL : RI 1 lv (l.map .str) l.length) (hlen : l.length ≤ 1000000) {Q : AO → Env → List Fact → Prop} (hQ1 : ∀ en fs', Sub en [(8, .bool true)] → Q .ret en fs')
    (hQ2 : ∀ en fs' ks L, St fs' i j w x ks L T lw → Sub en [(3, .str raw), (6, .ptr x 0), (10, .ptr i 0), (11, .ptr w 0)] → Q (.exit 2) en fs') :
    ∀ (r n : Nat) (fs : List Fact) (ks L : List ByteArray), n + r = l.length → St fs i j w x ks L T lw → WL sW ftab lb5_1 141 [(1, lv), (3, .str raw), (6, .ptr x 0), (10, .ptr i 0), (11, .ptr w 0), (12, .int .i64 n)] fs Q
  | 0, n, fs, ks, L, hn, hS => by
    refine l_round ?_
    refine cgo ?_
    refine g_do rfl (o_len (xt rfl) hL.rv ?_)
    refine g_do rfl (o_lss (xt rfl) (xt rfl) (fun h => by omega) (fun h => ?_))
    refine cgo ?_
    exact hQ2 _ _ ks L hS (.cons rfl (.cons rfl (.cons rfl (.cons rfl .nil))))
  | r + 1, n, fs, ks, L, hn, hS => by
    have hlt : n < l.length := by omega
    have hel : apart (l.map AV.str) (((n : Nat) : Int).toNat * 1) none = some (.str l[n]) := by
      simp only [apart]
      rw [show ((n : Nat) : Int).toNat * 1 = n by omega, List.getElem?_map, List.getElem?_eq_getElem hlt]; rfl
    generalize l[n] = s at hel
    rcases hL.inv with ⟨_, _, h0⟩ | ⟨sr, rfl, hfam, hz⟩
    · omega
    refine l_round ?_
    refine cgo ?_
    refine g_do rfl (o_lss (xt rfl) (xt rfl) (fun h => ?_) (fun h => by omega))
    refine cgo ?_
    refine w_block ?_
    refine cgo ?_
    refine g_do rfl (o_iaddr (xt rfl) (xt rfl) ⟨by omega, by omega⟩ hz ?_)
    refine g_do rfl (o_loadr (v := .str s) (xt rfl) (.frz hfam) hel ?_)
    refine cgo ?_
    refine g_do rfl (o_gtr (xt rfl) xc (fun h1 => ?_) (fun h1 => ?_))
    · refine cgo ?_
      refine g_do rfl (o_call .nil (awake_ev ?_))
      refine cgo ?_
      exact hQ1 _ _ (.cons rfl .nil)
    · refine cgo ?_
      refine g_fl ?_
      refine hgo ?_
      refine h_do rfl (o_iaddr (xt rfl) (xt rfl) ⟨by omega, by omega⟩ hz ?_)
      refine h_do rfl (o_loadr (v := .str s) (xt rfl) (.frz hfam) hel ?_)
      refine h_do rfl (o_call (.cons (xt rfl) (.cons (xt rfl) .nil)) (THas_ev hS.t ?_))
      refine hgo ?_
      refine h_do rfl (o_iaddr (xt rfl) (xt rfl) ⟨by omega, by omega⟩ hz ?_)
      refine h_do rfl (o_loadr (v := .str s) (xt rfl) (.frz hfam) hel ?_)
      refine h_do rfl (o_call (.cons (xt rfl) (.cons (xt rfl) .nil)) (DHas_ev hS.d hS.lfew ?_))
      rw [memB_perm hS.same.perm]
      refine h_do rfl (o_nebv (xt rfl) (xt rfl) ?_)
      rw [bne_self_eq_false]
      refine hgo ?_
      refine h_do rfl (o_iaddr (xt rfl) (xt rfl) ⟨by omega, by omega⟩ hz ?_)
      refine h_if rfl (h_do rfl (o_loadr (v := .str s) (xt rfl) (.frz hfam) hel ?_))
      refine h_if rfl (h_do rfl (o_call (.cons (xt rfl) (.cons (xt rfl) .nil)) (TMake_ev hS.t hS.few fun fs1 k1 hT1 => ?_)))
      have hD1 := hS.d.fr k1 (nk hS.wj) zk
      refine hgo ?_
      refine h_do rfl (o_iaddr (xt rfl) (xt rfl) ⟨by omega, by omega⟩ hz ?_)
      refine h_if rfl (h_do rfl (o_loadr (v := .str s) (xt rfl) (.frz hfam) hel ?_))
      refine h_if rfl (h_do rfl (o_call (.cons (xt rfl) (.cons (xt rfl) .nil)) (DMake_ev hD1 hS.lfew fun fs2 k2 hD2 => ?_)))
      rw [hS.same.addB]
      refine h_if rfl (h_do rfl (o_nebv (xt rfl) (xt rfl) ?_))
      rw [bne_self_eq_false]
      have hS2 : St fs2 i j w x (addK ks s) (addL L s) T lw := ⟨hT1.fr k2 (nk (Ne.symm hS.wi)) (nk (Ne.symm hS.wj)), hD2, hS.same.add s, addK_len hS.few, fun u hu => (addK_ok hu).elim (fun h => hS.okk u h) id, k2 _ (k1 _ hS.p (bk hS.xj)) (bk hS.xw), hS.wi, hS.wj, hS.xj, hS.xw⟩
      refine hgo ?_
      refine h_do rfl (o_call (.cons (xt rfl) .nil) (TNames_ev hS2.t hS2.same fun v fs3 k3 hv3 => ?_))
      obtain ⟨lw2, hw2, hl2⟩ := hS2.d.ex
      have hw3 := k3 _ hw2 (by simp)
      refine hgo ?_
      refine h_do rfl (o_load (xt rfl) hw3 rfl ?_)
      have h200 := hS2.lfew
      refine h_if rfl (h_do rfl (o_call (.cons (xt rfl) (.cons (xt rfl) .nil)) (samet_ev hv3 (hl2.fk k3 z0) (by omega) ?_)))
      refine hgo ?_
      refine h_end ?_
      refine ⟨.cons rfl (.cons rfl (o_gval rfl (o_load (xt rfl) hw2 rfl rfl)) .nil) (.cons rfl (.cons rfl (o_gval rfl (o_loadr (xt rfl) (.frz hfam) hel rfl)) .nil) (.cons rfl (.cons rfl (o_loadr (xt rfl) (.frz hfam) hel rfl) .nil) .nil)), _, rfl, ?_⟩
      refine cgo ?_
      refine g_do rfl (o_add (xt rfl) xc (by constructor <;> omega) ?_)
      refine cgo ?_
      refine l_sub (e' := [(1, .row (l.map .str) l.length sr), (3, .str raw), (6, .ptr x 0), (10, .ptr i 0), (11, .ptr w 0), (12, .int .i64 ((n + 1 : Nat) : Int))]) (.cons rfl (.cons rfl (.cons rfl (.cons rfl (.cons rfl (.cons rfl .nil)))))) (fun _ h => h) ?_
      exact ll_loop hL hlen hQ1 hQ2 r (n + 1) fs3 _ _ (by omega) (hS2.fr0 k3)
theorem lvs_len (n : Nat) : (lives n).length = n := by unfold lives; exact List.length_replicate
theorem gl_loop {lw : AV} {raw T : ByteArray} {Lv : List Bool} {i j w x : Nat} {ks L : List ByteArray} (hT : T.size ≤ 1000000) (hr : raw.size ≤ 1000000) (hP : RI 1 lw (Lv.map .bool) Lv.length) {Q : AO → Env → List Fact → Prop}
    (hQ : ∀ en fs', St fs' i j w x ks L T lw → Sub en [(10, .ptr i 0), (11, .ptr w 0)] → Q (.exit 4) en fs') :
    ∀ (r n : Nat) (fs : List Fact), n + r = 2 → St fs i j w x ks L T lw → WL sW ftab lb5_2 141 [(3, .str raw), (6, .ptr x 0), (10, .ptr i 0), (11, .ptr w 0), (14, .int .i64 n)] fs Q
  | 0, n, fs, hn, hS => by
    refine l_round ?_
    refine cgo ?_
    refine g_do rfl (o_lss (xt rfl) xc (fun h => by omega) (fun h => ?_))
    refine cgo ?_
    exact hQ _ _ hS (.cons rfl (.cons rfl .nil))
  | r + 1, n, fs, hn, hS => by
    refine l_round ?_
    refine cgo ?_
    refine g_do rfl (o_lss (xt rfl) xc (fun h => ?_) (fun h => by omega))
    refine cgo ?_
    refine w_block ?_
    refine cgo ?_
    refine g_mono (Q := fun e' fs' => ∃ (x15 : Nat) (Tn : ByteArray) (lwn : AV) (Ln : List Bool), Tn.size ≤ 1000000 ∧ St fs' i j w x ks L T lw ∧ Has fs' (.blk x15 (.cells [.str Tn, lwn])) ∧ RV fs' 1 lwn (Ln.map .bool) Ln.length ∧ Sub e' [(15, .ptr x15 0), (3, .str raw), (6, .ptr x 0), (10, .ptr i 0), (11, .ptr w 0), (14, .int .i64 n)]) ?_ ?_
    · refine g_fl ?_
      refine h_do rfl (o_load (xt rfl) hS.p rfl ?_)
      refine hgo ?_
      refine h_do rfl (o_call (.cons (xt rfl) .nil) (live_ev hr fun lr d hA => ?_))
      have hlr : RV (d ++ fs) 1 lr ((lives raw.size).map .bool) (lives raw.size).length := by rw [lvs_len]; exact RV.of hA
      have hsc : ([AV.str T, lw, .str raw, lr]).all EvA.scalar = true := by
        show (EvA.scalar lw && (true && (EvA.scalar lr && true))) = true
        rw [hA.scalar, (hP.rv (fs := [])).scalar]; rfl
      refine h_do rfl (o_row (cs := [.str T, lw, .str raw, lr]) (.cons (xt rfl) (.cons (xt rfl) .nil)) rfl rfl fun f id => ?_)
      refine hgo ?_
      refine h_do rfl (o_iaddr (xt rfl) (xt rfl) ⟨by omega, by omega⟩ rfl ?_)
      have hS1 : St (d ++ fs) i j w x ks L T lw := hS.fr0 (Fr.app Fr.refl)
      have fin : ∀ (Tn : ByteArray) (lwn : AV) (Ln : List Bool), Tn.size ≤ 1000000 → EvA.scalar lwn = true → RV (d ++ fs) 1 lwn (Ln.map .bool) Ln.length → apart [AV.str T, lw, .str raw, lr] (((n : Nat) : Int).toNat * 2) (some 2) = some (.agg [.str Tn, lwn]) → ∀ x15, St (.blk x15 (.cells [.str Tn, lwn]) :: .row f id (2 * 2) :: (d ++ fs)) i j w x ks L T lw ∧ RV (.blk x15 (.cells [.str Tn, lwn]) :: .row f id (2 * 2) :: (d ++ fs)) 1 lwn (Ln.map .bool) Ln.length := fun Tn lwn Ln _ _ hrv _ x15 => ⟨hS1.fr0 (Fr.cons (Fr.cons Fr.refl)), hrv.cons.cons⟩
      have pick : ∃ (Tn : ByteArray) (lwn : AV) (Ln : List Bool), Tn.size ≤ 1000000 ∧ EvA.scalar lwn = true ∧ RV (d ++ fs) 1 lwn (Ln.map .bool) Ln.length ∧ apart [AV.str T, lw, .str raw, lr] (((n : Nat) : Int).toNat * 2) (some 2) = some (.agg [.str Tn, lwn]) := by
        rcases (show n = 0 ∨ n = 1 by omega) with rfl | rfl
        · exact ⟨T, lw, Lv, hT, (hP.rv (fs := [])).scalar, hP.rv, rfl⟩
        · exact ⟨raw, lr, lives raw.size, hr, hA.scalar, hlr, rfl⟩
      obtain ⟨Tn, lwn, Ln, p1, p2, p3, p4⟩ := pick
      refine h_do rfl (o_loadr (v := .agg [.str Tn, lwn]) (xt rfl) (.own .here) p4 ?_)
      refine h_do rfl (o_box xc rfl fun x15 => ?_)
      refine h_do0 (o_store (xt rfl) (xt rfl) .here ⟨rfl, (Nat.le_of_ble_eq_true rfl)⟩ (by show (EvA.scalar lwn && _) = true; rw [p2]; rfl) rfl ?_)
      refine h_end ?_
      obtain ⟨q1, q2⟩ := fin Tn lwn Ln p1 p2 p3 p4 x15
      refine ⟨.cons rfl (.cons rfl (o_loadr (xt rfl) (.own (.there .here)) p4 rfl) .nil) (.cons rfl (.cons rfl (o_load (xt rfl) hS1.p rfl rfl) (.cons rfl (o_load (xt rfl) (.there (.there hS1.p)) rfl rfl) .nil)) .nil), _, rfl, ?_⟩
      exact ⟨x15, Tn, lwn, Ln, p1, q1, .here, q2, .cons rfl (.cons rfl (.cons rfl (.cons rfl (.cons rfl (.cons rfl .nil)))))⟩
    rintro e' fs1 ⟨x15, Tn, lwn, Ln, p1, q1, q2, q3, hSub⟩
    have hsz : ∀ s ∈ ks, 0 < s.size ∧ s.size ≤ 1000000 := fun s hs => okS_size (q1.okk s hs)
    have hszL : ∀ s ∈ L, 0 < s.size ∧ s.size ≤ 1000000 := fun s hs => hsz s (q1.same.perm.mem_iff.1 hs)
    have h200 := q1.lfew
    refine w_sub hSub (fun _ h => h) ?_
    refine cgo ?_
    refine g_fl ?_
    refine hgo ?_
    refine h_do rfl (o_load (xt rfl) q2 rfl ?_)
    refine h_do rfl (o_call (.cons (xt rfl) (.cons (xt rfl) .nil)) (TGlob_ev p1 q1.t q1.same q1.few hsz q3 fun v1 fs2 k2 hv1 => ?_))
    refine hgo ?_
    refine h_do rfl (o_load (xt rfl) (k2 _ q2 (by simp)) rfl ?_)
    refine h_do rfl (o_call (.cons (xt rfl) (.cons (xt rfl) .nil)) (DGlob_ev p1 hszL (by omega) (q1.fr0 k2).d (q3.fk k2 z0) fun v2 fs3 k3 hv2 => ?_))
    have hkl : (keptG Tn Ln L).length ≤ 1000000 := by
      have : (keptG Tn Ln L).length ≤ L.length := List.length_filter_le ..
      omega
    refine h_do rfl (o_call (.cons (xt rfl) (.cons (xt rfl) .nil)) (samet_ev (hv1.fk k3 z0) hv2 hkl ?_))
    refine hgo ?_
    refine h_end ?_
    refine ⟨.cons rfl (.cons rfl (o_load (xt rfl) q2 rfl rfl) .nil) .nil, _, rfl, ?_⟩
    refine cgo ?_
    refine g_do rfl (o_add (xt rfl) xc (by constructor <;> omega) ?_)
    refine cgo ?_
    refine l_sub (e' := [(3, .str raw), (6, .ptr x 0), (10, .ptr i 0), (11, .ptr w 0), (14, .int .i64 ((n + 1 : Nat) : Int))]) (.cons rfl (.cons rfl (.cons rfl (.cons rfl (.cons rfl .nil))))) (fun _ h => h) ?_
    exact gl_loop hT hr hP hQ r (n + 1) fs3 (by omega) ((q1.fr0 k2).fr0 k3)
theorem fold_same (names : List ByteArray) : SameF (names.foldl addK []) (names.foldl addL []) := SameF.fold names SameF.nil
theorem tells_ev {nv lv lw : AV} {names l : List ByteArray} {T raw : ByteArray} {Lv : List Bool} (hM : RI 1 nv (names.map .str) names.length) (hL : RI 1 lv (l.map .str) l.length) (hP : RI 1 lw (Lv.map .bool) Lv.length) : Ev sW ftab 5 [nv, lv, .agg [.str T, lw], .str raw] [] fun v _ => v = .bool true := by
  refine ev_fn (nt := 141) (kb := kb5) (kr := kr5) rfl rfl (Nat.le_of_ble_eq_true rfl) ?_
  refine cgo ?_
  refine g_do rfl (o_box (xt rfl) rfl fun x => ?_)
  refine cgo ?_
  refine g_do rfl (o_len (xt rfl) hM.rv ?_)
  refine g_mono (Q := fun e' fs' => fs' = [.blk x (.cells [.str T, lw])] ∧ Sub e' [(34, .bool (decide (250 < names.length) || (decide (60 < l.length) || (decide (60 < T.size) || decide (60 < raw.size))))), (0, nv), (1, lv), (3, .str raw), (6, .ptr x 0)]) ?_ ?_
  · refine g_do rfl (o_gtr (xt rfl) xc (fun h1 => ?_) (fun h1 => ?_))
    · rw [decide_eq_true (show 250 < names.length by omega), Bool.true_or]
      refine cgo ?_
      exact ⟨rfl, .cons rfl (.cons rfl (.cons rfl (.cons rfl (.cons rfl .nil))))⟩
    · rw [decide_eq_false (show ¬ 250 < names.length by omega), Bool.false_or]
      refine cgo ?_
      refine g_do rfl (o_len (xt rfl) hL.rv ?_)
      refine g_if rfl ?_
      refine g_do rfl (o_gtr (xt rfl) xc (fun h2 => ?_) (fun h2 => ?_))
      · rw [decide_eq_true (show 60 < l.length by omega), Bool.true_or]
        refine cgo ?_
        exact ⟨rfl, .cons rfl (.cons rfl (.cons rfl (.cons rfl (.cons rfl .nil))))⟩
      · rw [decide_eq_false (show ¬ 60 < l.length by omega), Bool.false_or]
        refine cgo ?_
        refine g_do rfl (o_gtr (xt rfl) xc (fun h3 => ?_) (fun h3 => ?_))
        · rw [decide_eq_true (show 60 < T.size by omega), Bool.true_or]
          refine cgo ?_
          exact ⟨rfl, .cons rfl (.cons rfl (.cons rfl (.cons rfl (.cons rfl .nil))))⟩
        · rw [decide_eq_false (show ¬ 60 < T.size by omega), Bool.false_or]
          refine cgo ?_
          refine g_do rfl (o_gtr (xt rfl) xc (fun h4 => ?_) (fun h4 => ?_))
          · rw [decide_eq_true (show 60 < raw.size by omega)]
            refine cgo ?_
            exact ⟨rfl, .cons rfl (.cons rfl (.cons rfl (.cons rfl (.cons rfl .nil))))⟩
          · rw [decide_eq_false (show ¬ 60 < raw.size by omega)]
            refine cgo ?_
            exact ⟨rfl, .cons rfl (.cons rfl (.cons rfl (.cons rfl (.cons rfl .nil))))⟩
  rintro e' fs' ⟨rfl, hSub⟩
  refine w_sub hSub (fun _ h => h) ?_
  by_cases hg : 250 < names.length ∨ 60 < l.length ∨ 60 < T.size ∨ 60 < raw.size
  · have hb : (decide (250 < names.length) || (decide (60 < l.length) || (decide (60 < T.size) || decide (60 < raw.size)))) = true := by simpa using hg
    rw [hb]
    refine cgo ?_
    refine g_do rfl (o_call .nil (awake_ev ?_))
    refine cgo ?_
    exact ⟨trivial, _, _, .one (.tmp rfl), .refl _, rfl⟩
  have hb : (decide (250 < names.length) || (decide (60 < l.length) || (decide (60 < T.size) || decide (60 < raw.size)))) = false := by
    simp only [Bool.or_eq_false_iff, decide_eq_false_iff_not]; omega
  rw [hb]
  have hn : names.length ≤ 250 ∧ l.length ≤ 60 ∧ T.size ≤ 60 ∧ raw.size ≤ 60 := by omega
  clear hg hb hSub
  obtain ⟨hn1, hn2, hn3, hn4⟩ := hn
  refine cgo ?_
  refine w_mono (Q := fun ao e' fs' => fs' = [.blk x (.cells [.str T, lw])] ∧ ((ao = .ret ∧ Sub e' [(8, .bool true)]) ∨ (ao = .normal ∧ Sub e' [(0, nv), (1, lv), (3, .str raw), (6, .ptr x 0)]))) ?_ ?_
  · refine w_block (w_loop ?_)
    refine l_sub (e' := [(0, nv), (1, lv), (3, .str raw), (6, .ptr x 0), (9, .int .i64 ((0 : Nat) : Int))]) (.cons rfl (.cons rfl (.cons rfl (.cons rfl (.cons rfl .nil))))) (fun _ h => h) ?_
    exact tchk_loop hM (by omega) (fun en hS => ⟨rfl, Or.inl ⟨rfl, hS⟩⟩) (fun en hS => ⟨rfl, Or.inr ⟨rfl, hS⟩⟩) names.length 0 (by omega)
  rintro ao e' fs' ⟨rfl, ⟨rfl, hS⟩ | ⟨rfl, hS⟩⟩
  · exact ⟨trivial, _, _, .one (.tmp (hS.lk _ _ rfl)), .refl _, rfl⟩
  refine w_sub hS (fun _ h => h) ?_
  refine cgo ?_
  refine g_do rfl (o_call (.cons (xt rfl) .nil) (tnew_ev hM.rv (by omega) fun i j es c hm => ?_))
  refine rgo ?_
  refine g_do rfl (o_call (.cons (xt rfl) .nil) (rnew_ev hM.rv (by omega) fun w v fs2 g2 hv2 => ?_))
  have hi2 := g2 _ (.there .here)
  have hj2 := g2 _ .here
  have hx2 := g2 _ (.there (.there .here))
  refine g_nd fun hnd => ?_
  have hS2 : St (.blk w (.cells [v]) :: fs2) i j w x (names.foldl addK []) (names.foldl addL []) T lw :=
    ⟨⟨⟨es, c, .there hj2, hm⟩, .there hi2, nd_ne hnd (.there hi2) (.there hj2) (by simp)⟩, ⟨v, .here, hv2.cons⟩, fold_same names, foldK_len names [] (by decide), fun s hs => foldK_ok names [] (fun x hx => by cases hx) s hs, .there hx2, (nd_new hnd hi2).symm, (nd_new hnd hj2).symm, nd_ne hnd (.there hx2) (.there hj2) (by simp), nd_new hnd hx2⟩
  clear hi2 hj2 hx2 hv2 hm hnd
  generalize names.foldl addK [] = ks at hS2
  generalize names.foldl addL [] = L at hS2
  generalize (Fact.blk w (.cells [v]) :: fs2) = F2 at hS2 ⊢
  refine cgo ?_
  refine g_do rfl (o_eq (c := false) (xt rfl) xc rfl ?_)
  refine cgo ?_
  refine w_mono (Q := fun ao e' fs' => (ao = .ret ∧ Sub e' [(8, .bool true)]) ∨ (ao = .normal ∧ ∃ ks L, St fs' i j w x ks L T lw ∧ Sub e' [(3, .str raw), (6, .ptr x 0), (10, .ptr i 0), (11, .ptr w 0)])) ?_ ?_
  · refine w_block (w_loop ?_)
    refine l_sub (e' := [(1, lv), (3, .str raw), (6, .ptr x 0), (10, .ptr i 0), (11, .ptr w 0), (12, .int .i64 ((0 : Nat) : Int))]) (.cons rfl (.cons rfl (.cons rfl (.cons rfl (.cons rfl (.cons rfl .nil)))))) (fun _ h => h) ?_
    exact ll_loop hL (by omega) (fun en fs' hS => Or.inl ⟨rfl, hS⟩) (fun en fs' ks L hS h => Or.inr ⟨rfl, ks, L, hS, h⟩) l.length 0 F2 ks L (by omega) hS2
  clear hS2
  rintro ao e' F3 (⟨rfl, hS⟩ | ⟨rfl, ks, L, hS3, hSub⟩)
  · exact ⟨trivial, _, _, .one (.tmp (hS.lk _ _ rfl)), .refl _, rfl⟩
  refine w_sub hSub (fun _ h => h) ?_
  refine cgo ?_
  refine g_do rfl (o_call (.cons (xt rfl) .nil) (TCopy_ev hS3.t fun i2 j2 F4 k4 hne hC => ?_))
  have hS4 := hS3.fr0 k4
  have n1 := hne _ _ hS3.t.hi
  obtain ⟨_, _, hj3, _⟩ := hS3.t.ex
  have n2 := hne _ _ hj3
  obtain ⟨_, hw3, _⟩ := hS3.d.ex
  have n3 := hne _ _ hw3
  have n4 := hne _ _ hS3.p
  refine cgo ?_
  refine g_do rfl (o_eq (c := false) (xt rfl) xc rfl ?_)
  refine cgo ?_
  refine g_do rfl (o_call (.cons (xt rfl) (.cons xc .nil)) (TMake_ev hC hS3.few fun F5 k5 _ => ?_))
  have hS5 : St F5 i j w x ks L T lw := hS4.fr k5 zk fun y hy => by
    rw [List.mem_singleton.1 hy]
    exact ⟨n1.2.symm, n2.2.symm, n3.2.symm, n4.2.symm⟩
  refine cgo ?_
  refine w_mono (Q := fun ao e' fs' => ao = .normal ∧ St fs' i j w x ks L T lw ∧ Sub e' [(10, .ptr i 0), (11, .ptr w 0)]) ?_ ?_
  · refine w_block (w_loop ?_)
    refine l_sub (e' := [(3, .str raw), (6, .ptr x 0), (10, .ptr i 0), (11, .ptr w 0), (14, .int .i64 ((0 : Nat) : Int))]) (.cons rfl (.cons rfl (.cons rfl (.cons rfl (.cons rfl .nil))))) (fun _ h => h) ?_
    exact gl_loop (by omega) (by omega) hP (fun en fs' h1 h2 => ⟨rfl, h1, h2⟩) 2 0 F5 (by omega) hS5
  rintro ao e' F6 ⟨rfl, hS6, hSub⟩
  refine w_sub hSub (fun _ h => h) ?_
  refine cgo ?_
  refine g_fl ?_
  refine hgo ?_
  refine h_do rfl (o_call (.cons (xt rfl) .nil) (TNames_ev hS6.t hS6.same fun v1 F7 k7 hv7 => ?_))
  obtain ⟨u, hu, hlu⟩ := hS6.d.ex
  refine hgo ?_
  refine h_do rfl (o_load (xt rfl) (k7 _ hu (by simp)) rfl ?_)
  have h200 := hS6.lfew
  refine h_do rfl (o_call (.cons (xt rfl) (.cons (xt rfl) .nil)) (samet_ev hv7 (hlu.fk k7 z0) (by omega) ?_))
  refine hgo ?_
  refine h_do rfl (o_call .nil (awake_ev ?_))
  refine hgo ?_
  refine h_end ?_
  refine ⟨.cons rfl (.cons rfl (o_load (xt rfl) hu rfl rfl) .nil) .nil, _, rfl, ?_⟩
  refine cgo ?_
  exact ⟨trivial, _, _, .one (.tmp rfl), .refl _, rfl⟩
theorem cl4 : Try.prog.cellsOf 4 = 1 := by kernel_rfl
theorem cl9 : Try.prog.cellsOf 9 = 1 := by kernel_rfl
theorem cl26 : Try.prog.cellsOf 26 = 1 := by kernel_rfl
theorem sh_pat {us : List AV} (h : Sh Try.prog 9 28 us) : ∃ (T : ByteArray) (lw : AV) (Lv : List Bool), us = [.str T, lw] ∧ RI 1 lw (Lv.map .bool) Lv.length := by
  obtain ⟨u1, r1, rfl, l1, h1, u2, r2, rfl, l2, h2, rfl⟩ := sh_struct Try.underlying28 h
  obtain ⟨T, rfl, _⟩ := sh_str Try.underlying9 h1
  obtain ⟨lw, Lv, rfl, hl, _⟩ := sh_row (z := 1) Try.underlying26 cl4 (f := fun b : Bool => [AV.bool b]) (q := fun _ => True) (fun ws h => by obtain ⟨b, rfl⟩ := sh_bool Try.underlying4 h; exact ⟨b, rfl, trivial⟩) (fun x => rfl) h2
  refine ⟨T, lw, Lv, rfl, ?_⟩
  have e1 : ∀ l : List Bool, l.flatMap (fun b : Bool => [AV.bool b]) = l.map .bool := fun l => by
    induction l with
    | nil => rfl
    | cons b r ih => rw [List.flatMap_cons, ih]; rfl
  rw [e1] at hl; exact hl
theorem TreeTells_true (a0 a1 : AV) (us : List AV) (raw : ByteArray) (w0 : Sh Try.prog 9 22 [a0]) (w1 : Sh Try.prog 9 22 [a1]) (w2 : Sh Try.prog 9 28 us) (w3 : raw.size ≤ 140737488351232) : ∃ n, (aeval sW ftab n 5 [a0, a1, .agg us, .str raw] h0).map (·.1) = some (.bool true) := by
  obtain ⟨v, N, e1, hN, _⟩ := sh_strs (d := 7) Try.underlying22 Try.underlying9 cl9 w0
  obtain rfl : a0 = v := by simpa using e1
  obtain ⟨v, l, e2, hl, _⟩ := sh_strs (d := 7) Try.underlying22 Try.underlying9 cl9 w1
  obtain rfl : a1 = v := by simpa using e2
  obtain ⟨T, lw, Lv, rfl, hp⟩ := sh_pat w2
  exact ev_true (tells_ev hN hl hp)
end Go.Proofs.Ythlmjpfklbocjaa.EvA
