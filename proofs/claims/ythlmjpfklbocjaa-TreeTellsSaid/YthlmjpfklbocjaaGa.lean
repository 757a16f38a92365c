/- Walks of patterns: the document's match; a bracket's step. -/
import Derived.Test.YthlmjpfklbocjaaFb
namespace Go.Proofs.Ythlmjpfklbocjaa.EvA
attribute [local irreducible] oMove oPick oBox oBuild oRow oRowZ oLoad oStore oNil oArith oEq oEqS oShr oShl oNot oNeg oConv oFn oMfn oMin oMax oCutstr oCutrow oFaddr oField oIaddr oIaddrA oIdx oExtract oLenS oLenR oLenM oAppend oCall oCallv oMap oLookup oSet oDelete kDo kDo0 kIf kEl kClr oMake oText kEnd kReg kSeq kCond kBlock kLoop kSkip kExit kRet xT xC xF kFl kIp sDo sDo0 sIf gVal
set_option linter.unusedVariables false
set_option linter.unusedSimpArgs false
set_option maxHeartbeats 4000000
variable {fs fs' : List Fact}
/-! Patterns. -/
def lvB (L : List Bool) (i : Nat) : Bool := (L[i]?).getD false
def isB (t : List UInt8) (L : List Bool) (i c : Nat) : Bool := lvB L i && decide ((t[i]?).map (·.toNat) = some c)
theorem lvB_row {L : List Bool} {i : Nat} (h : i < L.length) : apart (L.map AV.bool) (((i : Nat) : Int).toNat * 1) none = some (.bool (lvB L i)) := by
  simp only [apart]
  rw [show ((i : Nat) : Int).toNat * 1 = i by omega, List.getElem?_map, List.getElem?_eq_getElem h]
  simp only [Option.map_some, lvB, List.getElem?_eq_getElem h, Option.getD_some]
theorem lvB_out {L : List Bool} {i : Nat} (h : ¬ i < L.length) : lvB L i = false := by
  unfold lvB; rw [List.getElem?_eq_none (by omega)]; rfl
theorem plive_ev {T : ByteArray} {lw : AV} {L : List Bool} {i : Nat} (hv : RV fs 1 lw (L.map .bool) L.length) {K : KK} (h : K (.bool (lvB L i)) fs) : Ev sW ftab 45 [.agg [.str T, lw], .int .i64 i] fs K := by
  refine ev_fn (nt := 17) (kb := kb45) (kr := kr45) rfl rfl (Nat.le_of_ble_eq_true rfl) ?_
  refine cgo ?_
  refine g_do rfl (o_box (xt rfl) rfl fun b => ?_)
  refine cgo ?_
  refine g_do rfl (o_len (xt rfl) hv.cons ?_)
  refine cgo ?_
  refine g_do rfl (o_lss (xt rfl) (xt rfl) (fun h1 => ?_) (fun h1 => ?_))
  · obtain ⟨sr, rfl, hrd, hz⟩ := hv.some (by omega)
    refine cgo ?_
    refine g_do rfl (o_iaddr (xt rfl) (xt rfl) ⟨by omega, by omega⟩ hz ?_)
    refine g_if rfl ?_
    refine g_do rfl (o_loadr (xt rfl) hrd.cons (lvB_row (by omega)) ?_)
    refine cgo ?_
    exact ⟨trivial, _, _, .one (.tmp rfl), .cons _ (.refl _), h⟩
  · refine cgo ?_
    rw [lvB_out (by omega)] at h
    exact ⟨trivial, _, _, .one (.tmp rfl), .cons _ (.refl _), h⟩
theorem dlive_ev {T : ByteArray} {lw : AV} {L : List Bool} {i : Nat} (hv : RV fs 1 lw (L.map .bool) L.length) {K : KK} (h : K (.bool (lvB L i)) fs) : Ev sW ftab 40 [.agg [.str T, lw], .int .i64 i] fs K := by
  refine ev_fn (nt := 17) (kb := kb40) (kr := kr40) rfl rfl (Nat.le_of_ble_eq_true rfl) ?_
  refine cgo ?_
  refine g_do rfl (o_box (xt rfl) rfl fun b => ?_)
  refine cgo ?_
  refine g_do rfl (o_len (xt rfl) hv.cons ?_)
  refine cgo ?_
  refine g_do rfl (o_lss (xt rfl) (xt rfl) (fun h1 => ?_) (fun h1 => ?_))
  · obtain ⟨sr, rfl, hrd, hz⟩ := hv.some (by omega)
    refine cgo ?_
    refine g_do rfl (o_iaddr (xt rfl) (xt rfl) ⟨by omega, by omega⟩ hz ?_)
    refine g_if rfl ?_
    refine g_do rfl (o_loadr (xt rfl) hrd.cons (lvB_row (by omega)) ?_)
    refine cgo ?_
    exact ⟨trivial, _, _, .one (.tmp rfl), .cons _ (.refl _), h⟩
  · refine cgo ?_
    rw [lvB_out (by omega)] at h
    exact ⟨trivial, _, _, .one (.tmp rfl), .cons _ (.refl _), h⟩
theorem tget {T : ByteArray} {i : Nat} (h : i < T.size) : ∃ b, T.data.toList[i]? = some b := ⟨_, List.getElem?_eq_getElem (by rw [bsz]; exact h)⟩
theorem isB_out {T : ByteArray} {L : List Bool} {i c : Nat} (h : ¬ i < T.size) : isB T.data.toList L i c = false := by
  unfold isB
  rw [List.getElem?_eq_none (by rw [bsz]; omega)]; simp
theorem isB_in {t : List UInt8} {L : List Bool} {i c : Nat} {b : UInt8} (h : t[i]? = some b) : isB t L i c = (lvB L i && decide (b.toNat = c)) := by
  unfold isB; rw [h]; simp
theorem is_ev {T : ByteArray} {lw : AV} {L : List Bool} {i c : Nat} (hv : RV fs 1 lw (L.map .bool) L.length) {K : KK} (h : K (.bool (isB T.data.toList L i c)) fs) : Ev sW ftab 28 [.agg [.str T, lw], .int .i64 i, .int .u8 c] fs K := by
  refine ev_fn (nt := 25) (kb := kb28) (kr := kr28) rfl rfl (Nat.le_of_ble_eq_true rfl) ?_
  refine cgo ?_
  refine g_do rfl (o_box (xt rfl) rfl fun b => ?_)
  refine cgo ?_
  refine g_do rfl (o_lss (xt rfl) (xt rfl) (fun h1 => ?_) (fun h1 => ?_))
  · obtain ⟨x, hx⟩ := tget (T := T) (i := i) (by omega)
    refine cgo ?_
    refine g_do rfl (o_call (.cons (xt rfl) (.cons (xt rfl) .nil)) (dlive_ev hv.cons ?_))
    rw [isB_in hx] at h
    cases hl : lvB L i with
    | false =>
      refine cgo ?_
      rw [hl] at h
      exact ⟨trivial, _, _, .one (.tmp rfl), .cons _ (.refl _), h⟩
    | true =>
      rw [hl, Bool.true_and] at h
      refine cgo ?_
      refine g_do rfl (o_idx (b := x) (xt rfl) (xt rfl) (by omega) (by rw [Int.toNat_natCast]; exact hx) ?_)
      refine cgo ?_
      refine g_do rfl (o_eqi (xt rfl) (xt rfl) (fun h2 => ?_) (fun h2 => ?_))
      · refine cgo ?_
        rw [decide_eq_true (by omega)] at h
        exact ⟨trivial, _, _, .one (.tmp rfl), .cons _ (.refl _), h⟩
      · refine cgo ?_
        rw [decide_eq_false (by omega)] at h
        exact ⟨trivial, _, _, .one (.tmp rfl), .cons _ (.refl _), h⟩
  · refine cgo ?_
    rw [isB_out (by omega)] at h
    exact ⟨trivial, _, _, .one (.tmp rfl), .cons _ (.refl _), h⟩
section
variable {S : Sum} {F : FuncId → Option AF} {fs : List Fact} {e : Env} {L : Nat}
theorem swap_ne {i p n z : Nat} {s' s : Src} {cs' cs : List AV} {len : Nat} (h : s.id ≠ i) : swapV i p n z s' cs' (.row cs len s) = .row cs len s := by
  simp only [swapV]
  rw [if_neg (fun hh => h hh.1)]
theorem o_make2 {size bytes : Nat} {z cs : List AV} {x y : AX} {k1 k2 : IntKind} {n : Nat} {K : KK} (hx : XV e x (.int k1 n)) (hy : XV e y (.int k2 n)) (hb : bytes * n ≤ 281474976710656) (hn : n ≤ 70368744177664) (hc : (List.replicate n z).flatten = cs)
    (h : ∀ f id, (∀ f' i' e', Has fs (.row f' i' e') → i' ≠ id) → K (.row cs n ⟨f, id, 0, size⟩) (.row f id (n * size) :: fs)) : WO S F (oMake size bytes z x y) e fs K := fun L ts h0 h1 h2 =>
  ⟨_, _, _, h2.newRow (n * size) size, h _ _ (fun f' i' e' hh => by have := (h2.holds _ hh.mem).2.2.1; omega), 0, fun m _ => by
    have q1 : (bytes : Int) * (n : Int) ≤ 281474976710656 := by rw [← Int.natCast_mul]; omega
    have q2 : (0 : Int) ≤ (n : Int) := by omega
    have q3 : (n : Int) ≤ 70368744177664 := by omega
    simp only [oMake, hx L ts h1, hy L ts h1]
    rw [if_pos ⟨q2, trivial, q1, q3⟩]
    simp only [Int.toNat_natCast, hc]; rfl⟩
theorem g_el2 {size k n m off : Nat} {kx kv : AX} {rest : KR} {cs : List AV} {s : Src} {v : AV} {fs' : Nat → List Fact} {Q : Env → List Fact → Prop} (hx : XV e kx (.eptr cs off s)) (hv : XV e kv v) (hr : lk e k = some (.row cs n s)) (hl : v.cells.length = size) (h0 : 0 < size) (ho : off + size ≤ cs.length) (hs : v.cells.all scalar = true)
    (hp : ∀ id, Put fs (.row s.fam s.id m) (.row s.fam id (s.pos + cs.length)) (fs' id))
    (h : ∀ id, (∀ f' i' e', Has fs (.row f' i' e') → i' ≠ id) → WG S F rest L ((k, .row (cs.take off ++ v.cells ++ cs.drop (off + size)) n { s with id := id }) :: e.map fun p => (p.1, swapV s.id s.pos cs.length s.size { s with id := id } (cs.take off ++ v.cells ++ cs.drop (off + size)) p.2)) (fs' id) Q) : WG S F (kEl size kx kv rest) L e fs Q := by
  intro ts g0 h1 h2
  have hf : s.fam ≠ 0 := (h2.holds _ (hp 0).has.mem).1
  have hok : g0.ok s = true := h2.ok (hp 0).has
  have hR : Rp L (ts.map (swapV s.id s.pos cs.length s.size { s with id := g0.rnext } (cs.take off ++ v.cells ++ cs.drop (off + size)))) ((k, .row (cs.take off ++ v.cells ++ cs.drop (off + size)) n { s with id := g0.rnext }) :: e.map fun p => (p.1, swapV s.id s.pos cs.length s.size { s with id := g0.rnext } (cs.take off ++ v.cells ++ cs.drop (off + size)) p.2)) := by
    have key : ∀ j u, lk e j = some u → nth (ts.map (swapV s.id s.pos cs.length s.size { s with id := g0.rnext } (cs.take off ++ v.cells ++ cs.drop (off + size)))) j = swapV s.id s.pos cs.length s.size { s with id := g0.rnext } (cs.take off ++ v.cells ++ cs.drop (off + size)) u := by
      intro j u hj
      have := h1.2 j u hj
      rw [nth_getD, List.getD_eq_getElem?_getD] at this ⊢
      rw [List.getElem?_map]
      cases hh : ts[j]? with
      | none => rw [hh] at this; simp only [Option.getD_none] at this; subst this; rfl
      | some y => rw [hh] at this; simp only [Option.getD_some] at this; subst this; rfl
    refine ⟨by rw [List.length_map]; exact h1.1, fun j u hj => ?_⟩
    rw [lk_cons] at hj
    split at hj
    · rename_i e1; subst e1
      obtain rfl := Option.some.inj hj
      rw [key _ _ hr]
      simp only [swapV]
      rw [if_pos ⟨trivial, trivial, trivial, trivial, hf⟩]
    · rw [lk_map] at hj
      obtain ⟨u0, hu, rfl⟩ := Option.map_eq_some_iff.1 hj
      exact key _ _ hu
  have hH := h2.regrow (s := s) (e := s.pos + off) (cs.length - off) (m := m) (by rw [show s.pos + off + (cs.length - off) = s.pos + cs.length by omega]; exact hp _)
  obtain ⟨ts', h'', e', fs'', k1, k2, k3, M, k4⟩ := h g0.rnext (fun f' i' e' hh => by have := (h2.holds _ hh.mem).2.2.1; omega) _ _ hR hH
  refine ⟨ts', h'', e', fs'', k1, k2, k3, M, fun n hn => ?_⟩
  have := k4 n hn
  simp only [kEl, oElem, hx L ts h1, hv L ts h1]
  rw [if_pos ⟨hf, hok, h0, hl, ho, hs⟩]
  exact this
end
/-! Rows of what is reached. -/
def rowB (n : Nat) (g : Nat → Bool) : List AV := (List.range (n + 1)).map fun j => .bool (g j)
theorem rowB_len (n : Nat) (g : Nat → Bool) : (rowB n g).length = n + 1 := by simp [rowB]
theorem rowB_get {n k : Nat} (g : Nat → Bool) (h : k ≤ n) : apart (rowB n g) (((k : Nat) : Int).toNat * 1) none = some (.bool (g k)) := by
  simp only [apart]
  rw [show ((k : Nat) : Int).toNat * 1 = k by omega]
  simp [rowB, show k < n + 1 by omega]
theorem rowB_ext {n : Nat} {g g' : Nat → Bool} (h : ∀ j, j ≤ n → g j = g' j) : rowB n g = rowB n g' := by
  unfold rowB
  refine List.map_congr_left fun j hj => ?_
  rw [h j (by have := List.mem_range.1 hj; omega)]
theorem rowB_set {n k : Nat} {g g' : Nat → Bool} {v : Bool} (hk : k ≤ n) (h1 : g' k = v) (h2 : ∀ j, j ≤ n → j ≠ k → g' j = g j) : (rowB n g).take k ++ (AV.bool v).cells ++ (rowB n g).drop (k + 1) = rowB n g' := by
  have hl := rowB_len n g
  apply List.ext_getElem?
  intro j
  by_cases hj : j < k
  · rw [List.append_assoc, List.getElem?_append_left (by rw [List.length_take]; omega), List.getElem?_take, if_pos hj]
    simp only [rowB, List.getElem?_map, List.getElem?_range (show j < n + 1 by omega), Option.map_some, h2 j (by omega) (by omega)]
  · by_cases hj2 : j = k
    · subst hj2
      rw [List.append_assoc, List.getElem?_append_right (by rw [List.length_take]; omega), List.length_take, show j - min j (rowB n g).length = 0 by omega]
      simp only [rowB, List.getElem?_map, List.getElem?_range (show j < n + 1 by omega), Option.map_some, h1]; rfl
    · rw [List.getElem?_append_right (by rw [List.length_append, List.length_take]; show _ + 1 ≤ j; omega), List.length_append, List.length_take, List.getElem?_drop]
      rw [show k + 1 + (j - (min k (rowB n g).length + (AV.bool v).cells.length)) = j by show k + 1 + (j - (min k (rowB n g).length + 1)) = j; omega]
      by_cases hj3 : j < n + 1
      · simp only [rowB, List.getElem?_map, List.getElem?_range hj3, Option.map_some, h2 j (by omega) hj2]
      · simp only [rowB, List.getElem?_map]
        rw [List.getElem?_eq_none (by simp; omega)]; rfl
theorem rowB_new (n : Nat) : (List.replicate (n + 1) [AV.bool false]).flatten = rowB n fun _ => false := by
  rw [rep_one]
  unfold rowB
  apply List.ext_getElem
  · simp
  · intro i h1 h2; simp
/-! The document's match. -/
def fromB (t : List UInt8) (L : List Bool) (i : Nat) : Nat := if isB t L (i + 1) 33 = true then i + 2 else i + 1
def scanB (t : List UInt8) (L : List Bool) : Nat → Nat → Option Nat
  | 0, k => none
  | r + 1, k => if isB t L k 93 = true then some k else scanB t L r (k + 1)
def brk (t : List UInt8) (L : List Bool) (i : Nat) : Option Nat := if isB t L i 91 = true then scanB t L (t.length - (fromB t L i + 1)) (fromB t L i + 1) else none
def optI : Option Nat → Int
  | some e => e
  | none => -1
theorem scanB_spec {t : List UInt8} {L : List Bool} : ∀ (r k e : Nat), scanB t L r k = some e → k ≤ e ∧ e < k + r
  | 0, k, e, h => by cases h
  | r + 1, k, e, h => by
    unfold scanB at h
    split at h
    · obtain rfl := Option.some.inj h; omega
    · have := scanB_spec r (k + 1) e h; omega
theorem brk_spec {t : List UInt8} {L : List Bool} {i e : Nat} (h : brk t L i = some e) : fromB t L i + 1 ≤ e ∧ e < t.length := by
  unfold brk at h
  split at h
  · have := scanB_spec _ _ _ h; omega
  · cases h
theorem fromB_le (t : List UInt8) (L : List Bool) (i : Nat) : i + 1 ≤ fromB t L i ∧ fromB t L i ≤ i + 2 := by unfold fromB; split <;> omega
theorem br_loop {T : ByteArray} {lw : AV} {L : List Bool} {b : Nat} {o : Option Nat} (hT : T.size ≤ 1000000) (hv : RV fs 1 lw (L.map .bool) L.length) {Q : AO → Env → List Fact → Prop}
    (hQ1 : ∀ e k, o = some k → Sub e [(4, .int .i64 ((k : Nat) : Int))] → Q .ret e (.blk b (.cells [.str T, lw]) :: fs))
    (hQ2 : ∀ e, o = none → Q (.exit 0) e (.blk b (.cells [.str T, lw]) :: fs)) :
    ∀ (r k : Nat), r = T.size - k → k ≤ 2000000 → scanB T.data.toList L r k = o → WL sW ftab lb27_0 30 [(2, .ptr b 0), (5, .int .i64 k)] (.blk b (.cells [.str T, lw]) :: fs) Q
  | 0, k, hr, hk, ho => by
    refine l_round ?_
    refine cgo ?_
    refine g_do rfl (o_lss (xt rfl) (xt rfl) (fun h => by omega) (fun h => ?_))
    refine cgo ?_
    exact hQ2 _ (by rw [← ho]; rfl)
  | r + 1, k, hr, hk, ho => by
    refine l_round ?_
    refine cgo ?_
    refine g_do rfl (o_lss (xt rfl) (xt rfl) (fun h => ?_) (fun h => by omega))
    refine cgo ?_
    refine w_block ?_
    refine cgo ?_
    refine g_do rfl (o_call (.cons (xt rfl) (.cons (xt rfl) (.cons xc .nil))) (is_ev (c := 93) hv.cons ?_))
    unfold scanB at ho
    cases hi : isB T.data.toList L k 93 with
    | true =>
      rw [hi, if_pos rfl] at ho
      refine cgo ?_
      exact hQ1 _ k ho.symm (.cons rfl .nil)
    | false =>
      rw [hi, if_neg (by simp)] at ho
      refine cgo ?_
      refine g_do rfl (o_add (xt rfl) xc (by constructor <;> omega) ?_)
      refine cgo ?_
      refine l_sub (e' := [(2, .ptr b 0), (5, .int .i64 ((k + 1 : Nat) : Int))]) (.cons rfl (.cons rfl .nil)) (fun _ h => h) ?_
      exact br_loop hT hv hQ1 hQ2 r (k + 1) (by omega) (by omega) ho
theorem bracket_ev {T : ByteArray} {lw : AV} {L : List Bool} {i : Nat} (hT : T.size ≤ 1000000) (hi : i ≤ 1000000) (hv : RV fs 1 lw (L.map .bool) L.length) {K : KK} (h : K (.int .i64 (optI (brk T.data.toList L i))) fs) : Ev sW ftab 27 [.agg [.str T, lw], .int .i64 i] fs K := by
  refine ev_fn (nt := 30) (kb := kb27) (kr := kr27) rfl rfl (Nat.le_of_ble_eq_true rfl) ?_
  refine cgo ?_
  refine g_do rfl (o_box (xt rfl) rfl fun b => ?_)
  refine cgo ?_
  refine g_do rfl (o_call (.cons (xt rfl) (.cons (xt rfl) (.cons xc .nil))) (is_ev (c := 91) hv.cons ?_))
  cases h91 : isB T.data.toList L i 91 with
  | false =>
    refine cgo ?_
    have e1 : brk T.data.toList L i = none := by unfold brk; rw [h91, if_neg (by simp)]
    rw [e1] at h
    exact ⟨trivial, _, _, .one (.tmp rfl), .cons _ (.refl _), h⟩
  | true =>
    refine cgo ?_
    refine g_do rfl (o_add (xt rfl) xc (by constructor <;> omega) ?_)
    refine cgo ?_
    refine g_do rfl (o_call (.cons (xt rfl) (.cons (xt rfl) (.cons xc .nil))) (is_ev (i := i + 1) (c := 33) hv.cons ?_))
    have fin : ∀ e, Sub e [(2, .ptr b 0), (5, .int .i64 ((fromB T.data.toList L i + 1 : Nat) : Int))] → WC sW ftab (kBlock 0 (kLoop lb27_0)) 30 e (.blk b (.cells [.str T, lw]) :: fs) fun ao e' fs' => (ao = .ret ∧ ∃ k, brk T.data.toList L i = some k ∧ Sub e' [(4, .int .i64 ((k : Nat) : Int))] ∧ fs' = .blk b (.cells [.str T, lw]) :: fs) ∨ (ao = .normal ∧ brk T.data.toList L i = none ∧ fs' = .blk b (.cells [.str T, lw]) :: fs) := by
      intro e hS
      have hf := fromB_le T.data.toList L i
      refine w_sub hS (fun _ h => h) (w_block (w_loop ?_))
      refine br_loop (o := brk T.data.toList L i) hT hv (fun e k hk hS => Or.inl ⟨rfl, k, hk, hS, rfl⟩) (fun e hn => Or.inr ⟨rfl, hn, rfl⟩) (T.size - (fromB T.data.toList L i + 1)) (fromB T.data.toList L i + 1) rfl (by omega) ?_
      unfold brk; rw [h91, if_pos rfl, bsz]
    cases h33 : isB T.data.toList L (i + 1) 33 with
    | false =>
      have e0 : fromB T.data.toList L i = i + 1 := by unfold fromB; rw [h33, if_neg (by simp)]
      rw [e0] at fin
      refine cgo ?_
      refine g_do rfl (o_add (xt rfl) xc (by constructor <;> omega) ?_)
      refine cgo ?_
      refine w_mono (fin _ (.cons rfl (.cons rfl .nil))) ?_
      rintro ao e' fs' (⟨rfl, k, hk, hS, rfl⟩ | ⟨rfl, hn, rfl⟩)
      · rw [hk] at h
        exact ⟨trivial, _, _, .one (.tmp (hS.lk _ _ rfl)), .cons _ (.refl _), h⟩
      · rw [hn] at h
        refine cgo ?_
        exact ⟨trivial, _, _, .one (.tmp rfl), .cons _ (.refl _), h⟩
    | true =>
      have e0 : fromB T.data.toList L i = i + 2 := by unfold fromB; rw [h33, if_pos rfl]
      rw [e0] at fin
      refine cgo ?_
      refine g_do rfl (o_add (xt rfl) xc (by constructor <;> omega) ?_)
      refine cgo ?_
      refine g_do rfl (o_add (xt rfl) xc (by constructor <;> omega) ?_)
      refine cgo ?_
      refine w_mono (fin _ (.cons rfl (.cons rfl .nil))) ?_
      rintro ao e' fs' (⟨rfl, k, hk, hS, rfl⟩ | ⟨rfl, hn, rfl⟩)
      · rw [hk] at h
        exact ⟨trivial, _, _, .one (.tmp (hS.lk _ _ rfl)), .cons _ (.refl _), h⟩
      · rw [hn] at h
        refine cgo ?_
        exact ⟨trivial, _, _, .one (.tmp rfl), .cons _ (.refl _), h⟩
def between (t : List UInt8) (k c : Nat) : Bool := match t[k]?, t[k + 2]? with
  | some a, some b => decide (a.toNat ≤ c) && decide (c ≤ b.toNat)
  | _, _ => false
def eqAt (t : List UInt8) (k c : Nat) : Bool := decide ((t[k]?).map (·.toNat) = some c)
def amongB (t : List UInt8) (L : List Bool) (e c : Nat) : Nat → Nat → Bool
  | 0, k => false
  | r + 1, k => if k < e then (if (decide (k + 2 < e) && isB t L (k + 1) 45) = true then between t k c || amongB t L e c r (k + 3) else eqAt t k c || amongB t L e c r (k + 1)) else false
theorem am_loop {T : ByteArray} {lw : AV} {L : List Bool} {b e c : Nat} {nt : Bool} (hT : T.size ≤ 1000000) (he : e ≤ T.size) (hv : RV fs 1 lw (L.map .bool) L.length) {res : Bool} {Q : AO → Env → List Fact → Prop}
    (hQ : ∀ en, Sub en [(10, .bool nt), (11, .bool res)] → Q (.exit 0) en (.blk b (.cells [.str T, lw]) :: fs)) :
    ∀ (r k : Nat) (fd : Bool), e - k ≤ r → k ≤ 2000000 → (fd || amongB T.data.toList L e c r k) = res → WL sW ftab lb29_0 67 [(2, .int .i64 e), (3, .int .u8 c), (4, .ptr b 0), (9, .int .i64 k), (10, .bool nt), (11, .bool fd)] (.blk b (.cells [.str T, lw]) :: fs) Q := by
  intro r
  induction r with
  | zero =>
    intro k fd hr hk hres
    refine l_round ?_
    refine cgo ?_
    refine g_do rfl (o_lss (xt rfl) (xt rfl) (fun h => by omega) (fun h => ?_))
    refine cgo ?_
    rw [amongB, Bool.or_false] at hres
    subst hres
    exact hQ _ (.cons rfl (.cons rfl .nil))
  | succ r ih =>
    intro k fd hr hk hres
    unfold amongB at hres
    by_cases hke : k < e
    · rw [if_pos hke] at hres
      obtain ⟨x, hx⟩ := tget (T := T) (i := k) (by omega)
      have next : ∀ (d : Nat) (fd' : Bool) en, 1 ≤ d → d ≤ 3 → (fd' || amongB T.data.toList L e c r (k + d)) = res → Sub en [(2, .int .i64 e), (3, .int .u8 c), (4, .ptr b 0), (9, .int .i64 ((k + d : Nat) : Int)), (10, .bool nt), (11, .bool fd')] → WL sW ftab lb29_0 67 en (.blk b (.cells [.str T, lw]) :: fs) Q := fun d fd' en h1 h3 h2 hS =>
        l_sub hS (fun _ h => h) (ih (k + d) fd' (by omega) (by omega) h2)
      refine l_round ?_
      refine cgo ?_
      refine g_do rfl (o_lss (xt rfl) (xt rfl) (fun h => ?_) (fun h => by omega))
      refine cgo ?_
      refine w_block ?_
      refine cgo ?_
      have plain : (fd || (eqAt T.data.toList k c || amongB T.data.toList L e c r (k + 1))) = res → ∀ en, Sub en [(2, .int .i64 e), (3, .int .u8 c), (4, .ptr b 0), (9, .int .i64 ((k : Nat) : Int)), (10, .bool nt), (11, .bool fd)] → True := fun _ _ _ => trivial
      refine g_do rfl (o_add (xt rfl) xc (by constructor <;> omega) ?_)
      refine cgo ?_
      refine g_do rfl (o_lss (xt rfl) (xt rfl) (fun h2 => ?_) (fun h2 => ?_))
      · refine cgo ?_
        refine g_do rfl (o_add (xt rfl) xc (by constructor <;> omega) ?_)
        refine cgo ?_
        refine g_do rfl (o_call (.cons (xt rfl) (.cons (xt rfl) (.cons xc .nil))) (is_ev (i := k + 1) (c := 45) hv.cons ?_))
        rw [decide_eq_true (show k + 2 < e by omega), Bool.true_and] at hres
        cases h45 : isB T.data.toList L (k + 1) 45 with
        | true =>
          rw [h45, if_pos rfl] at hres
          cases fd with
          | true =>
            refine cgo ?_
            refine g_do rfl (o_add (xt rfl) xc (by constructor <;> omega) ?_)
            refine cgo ?_
            refine next 3 true _ (by omega) (by omega) (by rw [← hres]; rfl) (.cons rfl (.cons rfl (.cons rfl (.cons rfl (.cons rfl (.cons rfl .nil))))))
          | false =>
            obtain ⟨y, hy⟩ := tget (T := T) (i := k + 2) (by omega)
            rw [between, hx, hy] at hres
            simp only at hres
            refine cgo ?_
            refine g_do rfl (o_idx (b := x) (xt rfl) (xt rfl) (by omega) (by rw [Int.toNat_natCast]; exact hx) ?_)
            refine g_if rfl ?_
            refine g_do rfl (o_geq (xt rfl) (xt rfl) (fun h3 => ?_) (fun h3 => ?_))
            · refine cgo ?_
              refine g_do rfl (o_add (xt rfl) xc (by constructor <;> omega) ?_)
              refine g_if rfl ?_
              refine g_do rfl (o_idx (b := y) (xt rfl) (xt rfl) (by omega) (by rw [show ((k : Int) + 2).toNat = k + 2 by omega]; exact hy) ?_)
              refine g_if rfl ?_
              refine g_do rfl (o_leq (xt rfl) (xt rfl) (fun h4 => ?_) (fun h4 => ?_))
              · refine cgo ?_
                refine g_do rfl (o_add (xt rfl) xc (by constructor <;> omega) ?_)
                refine cgo ?_
                refine next 3 true _ (by omega) (by omega) (by rw [← hres, decide_eq_true (by omega), decide_eq_true (by omega)]; rfl) (.cons rfl (.cons rfl (.cons rfl (.cons rfl (.cons rfl (.cons rfl .nil))))))
              · refine cgo ?_
                refine g_do rfl (o_add (xt rfl) xc (by constructor <;> omega) ?_)
                refine cgo ?_
                refine next 3 false _ (by omega) (by omega) (by rw [← hres, decide_eq_false (show ¬ c ≤ y.toNat by omega)]; simp) (.cons rfl (.cons rfl (.cons rfl (.cons rfl (.cons rfl (.cons rfl .nil))))))
            · refine cgo ?_
              refine g_do rfl (o_add (xt rfl) xc (by constructor <;> omega) ?_)
              refine cgo ?_
              refine next 3 false _ (by omega) (by omega) (by rw [← hres, decide_eq_false (show ¬ x.toNat ≤ c by omega)]; simp) (.cons rfl (.cons rfl (.cons rfl (.cons rfl (.cons rfl (.cons rfl .nil))))))
        | false =>
          rw [h45, if_neg (by simp), eqAt, hx] at hres
          cases fd with
          | true =>
            refine cgo ?_
            refine g_do rfl (o_add (xt rfl) xc (by constructor <;> omega) ?_)
            refine cgo ?_
            refine next 1 true _ (by omega) (by omega) (by rw [← hres]; rfl) (.cons rfl (.cons rfl (.cons rfl (.cons rfl (.cons rfl (.cons rfl .nil))))))
          | false =>
            refine cgo ?_
            refine g_do rfl (o_idx (b := x) (xt rfl) (xt rfl) (by omega) (by rw [Int.toNat_natCast]; exact hx) ?_)
            refine g_if rfl ?_
            refine g_do rfl (o_eqi (xt rfl) (xt rfl) (fun h3 => ?_) (fun h3 => ?_))
            · refine cgo ?_
              refine g_do rfl (o_add (xt rfl) xc (by constructor <;> omega) ?_)
              refine cgo ?_
              refine next 1 true _ (by omega) (by omega) (by rw [← hres, decide_eq_true (by simp; omega)]; rfl) (.cons rfl (.cons rfl (.cons rfl (.cons rfl (.cons rfl (.cons rfl .nil))))))
            · refine cgo ?_
              refine g_do rfl (o_add (xt rfl) xc (by constructor <;> omega) ?_)
              refine cgo ?_
              refine next 1 false _ (by omega) (by omega) (by rw [← hres, decide_eq_false (by simp; omega)]; simp) (.cons rfl (.cons rfl (.cons rfl (.cons rfl (.cons rfl (.cons rfl .nil))))))
      · rw [decide_eq_false (show ¬ k + 2 < e by omega), Bool.false_and, if_neg (by simp), eqAt, hx] at hres
        cases fd with
        | true =>
          refine cgo ?_
          refine g_do rfl (o_add (xt rfl) xc (by constructor <;> omega) ?_)
          refine cgo ?_
          refine next 1 true _ (by omega) (by omega) (by rw [← hres]; rfl) (.cons rfl (.cons rfl (.cons rfl (.cons rfl (.cons rfl (.cons rfl .nil))))))
        | false =>
          refine cgo ?_
          refine g_do rfl (o_idx (b := x) (xt rfl) (xt rfl) (by omega) (by rw [Int.toNat_natCast]; exact hx) ?_)
          refine g_if rfl ?_
          refine g_do rfl (o_eqi (xt rfl) (xt rfl) (fun h3 => ?_) (fun h3 => ?_))
          · refine cgo ?_
            refine g_do rfl (o_add (xt rfl) xc (by constructor <;> omega) ?_)
            refine cgo ?_
            refine next 1 true _ (by omega) (by omega) (by rw [← hres, decide_eq_true (by simp; omega)]; rfl) (.cons rfl (.cons rfl (.cons rfl (.cons rfl (.cons rfl (.cons rfl .nil))))))
          · refine cgo ?_
            refine g_do rfl (o_add (xt rfl) xc (by constructor <;> omega) ?_)
            refine cgo ?_
            refine next 1 false _ (by omega) (by omega) (by rw [← hres, decide_eq_false (by simp; omega)]; simp) (.cons rfl (.cons rfl (.cons rfl (.cons rfl (.cons rfl (.cons rfl .nil))))))
    · rw [if_neg hke, Bool.or_false] at hres
      subst hres
      refine l_round ?_
      refine cgo ?_
      refine g_do rfl (o_lss (xt rfl) (xt rfl) (fun h => by omega) (fun h => ?_))
      refine cgo ?_
      exact hQ _ (.cons rfl (.cons rfl .nil))
theorem o_nebv {S : Sum} {F : FuncId → Option AF} {e : Env} {x y : AX} {a b : Bool} {K : KK} (hx : XV e x (.bool a)) (hy : XV e y (.bool b)) (h : K (.bool (a != b)) fs) : WO S F (oEq true 0 x y) e fs K :=
  o_neb hx hy (fun he => by subst he; simpa using h) (fun hne => by
    have : (a != b) = true := by simp [hne]
    rw [this] at h; exact h)
theorem among_ev {T : ByteArray} {lw : AV} {L : List Bool} {i e c : Nat} (hT : T.size ≤ 1000000) (hi : i ≤ 1000000) (he : e ≤ T.size) (hv : RV fs 1 lw (L.map .bool) L.length) {K : KK} (h : K (.bool (amongB T.data.toList L e c (e - fromB T.data.toList L i) (fromB T.data.toList L i) != isB T.data.toList L (i + 1) 33)) fs) : Ev sW ftab 29 [.agg [.str T, lw], .int .i64 i, .int .i64 e, .int .u8 c] fs K := by
  refine ev_fn (nt := 67) (kb := kb29) (kr := kr29) rfl rfl (Nat.le_of_ble_eq_true rfl) ?_
  refine cgo ?_
  refine g_do rfl (o_box (xt rfl) rfl fun b => ?_)
  refine cgo ?_
  refine g_do rfl (o_add (xt rfl) xc (by constructor <;> omega) ?_)
  refine cgo ?_
  refine g_do rfl (o_call (.cons (xt rfl) (.cons (xt rfl) (.cons xc .nil))) (is_ev (i := i + 1) (c := 33) hv.cons ?_))
  have hf := fromB_le T.data.toList L i
  cases h33 : isB T.data.toList L (i + 1) 33 with
  | false =>
    have e0 : fromB T.data.toList L i = i + 1 := by unfold fromB; rw [h33, if_neg (by simp)]
    rw [e0, h33] at h
    refine cgo ?_
    refine w_block (w_loop ?_)
    refine l_sub (e' := [(2, .int .i64 e), (3, .int .u8 c), (4, .ptr b 0), (9, .int .i64 ((i + 1 : Nat) : Int)), (10, .bool false), (11, .bool false)]) (.cons rfl (.cons rfl (.cons rfl (.cons rfl (.cons rfl (.cons rfl .nil)))))) (fun _ h => h) ?_
    refine am_loop hT he hv (fun en hS => ?_) (e - (i + 1)) (i + 1) false (by omega) (by omega) rfl
    refine w_sub hS (fun _ h => h) ?_
    refine cgo ?_
    refine g_do rfl (o_nebv (xt rfl) (xt rfl) ?_)
    refine cgo ?_
    rw [Bool.false_or]
    exact ⟨trivial, _, _, .one (.tmp rfl), .cons _ (.refl _), h⟩
  | true =>
    have e0 : fromB T.data.toList L i = i + 2 := by unfold fromB; rw [h33, if_pos rfl]
    rw [e0, h33] at h
    refine cgo ?_
    refine g_do rfl (o_add (xt rfl) xc (by constructor <;> omega) ?_)
    refine cgo ?_
    refine w_block (w_loop ?_)
    refine l_sub (e' := [(2, .int .i64 e), (3, .int .u8 c), (4, .ptr b 0), (9, .int .i64 ((i + 2 : Nat) : Int)), (10, .bool true), (11, .bool false)]) (.cons rfl (.cons rfl (.cons rfl (.cons rfl (.cons rfl (.cons rfl .nil)))))) (fun _ h => h) ?_
    refine am_loop hT he hv (fun en hS => ?_) (e - (i + 2)) (i + 2) false (by omega) (by omega) rfl
    refine w_sub hS (fun _ h => h) ?_
    refine cgo ?_
    refine g_do rfl (o_nebv (xt rfl) (xt rfl) ?_)
    refine cgo ?_
    rw [Bool.false_or]
    exact ⟨trivial, _, _, .one (.tmp rfl), .cons _ (.refl _), h⟩
def takeB (t : List UInt8) (L : List Bool) (i c : Nat) : Bool := if isB t L i 63 = true then true else match brk t L i with
  | some e => amongB t L e c (e - fromB t L i) (fromB t L i) != isB t L (i + 1) 33
  | none => eqAt t i c
def orUp (g : Nat → Bool) : Nat → Bool
  | 0 => g 0
  | j + 1 => orUp g j || g (j + 1)
def anyB (g : Nat → Bool) : Nat → Bool
  | 0 => false
  | j + 1 => orUp g j
theorem anyB_up (g : Nat → Bool) : ∀ k, (anyB g k || g k) = orUp g k
  | 0 => by simp [anyB, orUp]
  | k + 1 => rfl
def oneUp (f : Nat → Bool) (s : List UInt8) (g : Nat → Bool) : Nat → Bool
  | 0 => false
  | j + 1 => match s[j]? with
    | some b => g j && f b.toNat
    | none => false
def stepB (t : List UInt8) (L : List Bool) (s : List UInt8) (i : Nat) (g : Nat → Bool) : Nat → Bool := if isB t L i 42 = true then orUp g else oneUp (takeB t L i) s g
def nextB (t : List UInt8) (L : List Bool) (i : Nat) : Nat := match brk t L i with
  | some e => e + 1
  | none => i + 1
def goB (t : List UInt8) (L : List Bool) (s : List UInt8) : Nat → Nat → (Nat → Bool) → Nat → Bool
  | 0, i, g => g
  | r + 1, i, g => if i < t.length then goB t L s r (nextB t L i) (stepB t L s i g) else g
def matchB (t : List UInt8) (L : List Bool) (s : List UInt8) : Bool := goB t L s t.length 0 (fun j => decide (j = 0)) s.length
theorem nextB_lt (t : List UInt8) (L : List Bool) (i : Nat) : i + 1 ≤ nextB t L i ∧ (i < t.length → nextB t L i ≤ t.length) := by
  unfold nextB
  have hf := fromB_le t L i
  split
  · rename_i e he
    have := brk_spec he
    omega
  · omega
abbrev FM (fN idN fA idA n b : Nat) (T : ByteArray) (lw : AV) (fs : List Fact) : List Fact := .row fN idN ((n + 1) * 1) :: .row fA idA ((n + 1) * 1) :: .blk b (.cells [.str T, lw]) :: fs
theorem dm_star {T s : ByteArray} {lw : AV} {L : List Bool} {i b n fA idA fN : Nat} {g : Nat → Bool} {br : AV} (hT : T.size ≤ 1000000) (hs : s.size = n) (hn : n ≤ 1000000) (hv : RV fs 1 lw (L.map .bool) L.length) (hst : isB T.data.toList L i 42 = true) {Q : AO → Env → List Fact → Prop}
    (hQ : ∀ e idN, idA ≠ idN → Sub e [(1, .str s), (2, .ptr b 0), (6, .int .i64 i), (7, .row (rowB n (orUp g)) (n + 1) ⟨fN, idN, 0, 1⟩), (8, br)] → Q (.exit 2) e (FM fN idN fA idA n b T lw fs)) (hbr : ∀ {i p n z : Nat} {s' : Src} {cs' : List AV}, some (swapV i p n z s' cs' br) = some br) :
    ∀ (r k idN : Nat) (nx : Nat → Bool), k + r = n + 1 → idA ≠ idN → (∀ j, j < k → nx j = orUp g j) →
    WL sW ftab lb11_0 106 [(1, .str s), (2, .ptr b 0), (5, .row (rowB n g) (n + 1) ⟨fA, idA, 0, 1⟩), (6, .int .i64 i), (7, .row (rowB n nx) (n + 1) ⟨fN, idN, 0, 1⟩), (8, br), (9, .bool (anyB g k)), (10, .int .i64 k)] (FM fN idN fA idA n b T lw fs) Q
  | 0, k, idN, nx, hk, hne, hnx => by
    refine l_round ?_
    refine cgo ?_
    refine g_do rfl (o_leq (xt rfl) (xt rfl) (fun h => by omega) (fun h => ?_))
    refine cgo ?_
    rw [rowB_ext (g' := orUp g) (fun j hj => hnx j (by omega))]
    exact hQ _ idN hne (.cons rfl (.cons rfl (.cons rfl (.cons rfl (.cons rfl .nil)))))
  | r + 1, k, idN, nx, hk, hne, hnx => by
    refine l_round ?_
    refine cgo ?_
    refine g_do rfl (o_leq (xt rfl) (xt rfl) (fun h => ?_) (fun h => by omega))
    refine rgo ?_
    refine w_seq (w_cond (xt rfl) (w_skip ?_))
    refine w_seq (w_block (w_mid (fun e' fs' => fs' = FM fN idN fA idA n b T lw fs ∧ Sub e' [(1, .str s), (2, .ptr b 0), (5, .row (rowB n g) (n + 1) ⟨fA, idA, 0, 1⟩), (6, .int .i64 i), (7, .row (rowB n nx) (n + 1) ⟨fN, idN, 0, 1⟩), (8, br), (9, .bool (orUp g k)), (10, .int .i64 k)]) ?_ ?_))
    · have hup := anyB_up g k
      cases hany : anyB g k with
      | true =>
        rw [hany, Bool.true_or] at hup
        refine cgo ?_
        rw [← hup]
        exact ⟨rfl, rfl, .cons rfl (.cons rfl (.cons rfl (.cons rfl (.cons rfl (.cons rfl (.cons rfl (.cons rfl .nil)))))))⟩
      | false =>
        rw [hany, Bool.false_or] at hup
        refine cgo ?_
        refine g_do rfl (o_iaddr (xt rfl) (xt rfl) ⟨by omega, by omega⟩ rfl ?_)
        refine g_if rfl ?_
        refine g_do rfl (o_loadr (xt rfl) (.own (.there .here)) (rowB_get g (by omega)) ?_)
        refine cgo ?_
        rw [← hup]
        exact ⟨rfl, rfl, .cons rfl (.cons rfl (.cons rfl (.cons rfl (.cons rfl (.cons rfl (.cons rfl (.cons rfl .nil)))))))⟩
    · rintro e' fs' ⟨rfl, hS⟩
      refine w_sub hS (fun _ h => h) (w_block ?_)
      refine cgo ?_
      refine g_do rfl (o_call (.cons (xt rfl) (.cons (xt rfl) (.cons xc .nil))) (is_ev (i := i) (c := 42) hv.cons.cons.cons ?_))
      rw [hst]
      refine cgo ?_
      refine g_do rfl (o_iaddr (xt rfl) (xt rfl) ⟨by omega, by omega⟩ rfl ?_)
      rw [show ((k : Nat) : Int).toNat * 1 = k by omega]
      have hl := rowB_len n nx
      refine g_el2 (k := 7) (m := (n + 1) * 1) (fs' := fun id' => .row fN id' (0 + (rowB n nx).length) :: .row fA idA ((n + 1) * 1) :: .blk b (.cells [.str T, lw]) :: fs) (xt rfl) (xt rfl) rfl rfl (by decide) (by rw [hl]; omega) rfl (fun _ => .here) fun id' hfresh => ?_
      have hne2 : idA ≠ id' := hfresh _ _ _ (.there .here)
      rw [hl, show 0 + (n + 1) = (n + 1) * 1 by omega]
      show WG sW ftab _ 106 ((7, .row ((rowB n nx).take k ++ (AV.bool (orUp g k)).cells ++ (rowB n nx).drop (k + 1)) (n + 1) ⟨fN, id', 0, 1⟩) :: _) _ _
      rw [rowB_set (g' := fun j => if j = k then orUp g k else nx j) (by omega) (by simp) (fun j hj hjk => by simp [hjk])]
      refine cgo ?_
      refine g_do rfl (o_add (xt rfl) xc (by constructor <;> omega) ?_)
      refine cgo ?_
      refine l_sub (e' := [(1, .str s), (2, .ptr b 0), (5, .row (rowB n g) (n + 1) ⟨fA, idA, 0, 1⟩), (6, .int .i64 i), (7, .row (rowB n fun j => if j = k then orUp g k else nx j) (n + 1) ⟨fN, id', 0, 1⟩), (8, br), (9, .bool (anyB g (k + 1))), (10, .int .i64 ((k + 1 : Nat) : Int))]) (.cons rfl (.cons rfl (.cons (congrArg some (swap_ne hne)) (.cons rfl (.cons rfl (.cons hbr (.cons rfl (.cons rfl .nil)))))))) (fun _ h => h) ?_
      refine dm_star hT hs hn hv hst hQ hbr r (k + 1) id' _ (by omega) hne2 (fun j hj => ?_)
      by_cases hjk : j = k
      · rw [if_pos hjk, hjk]
      · rw [if_neg hjk]; exact hnx j (by omega)
theorem o_eqd {S : Sum} {F : FuncId → Option AF} {e : Env} {x y : AX} {k : IntKind} {a b : Int} {K : KK} (hx : XV e x (.int k a)) (hy : XV e y (.int k b)) (h : K (.bool (decide (a = b))) fs) : WO S F (oEq false 1 x y) e fs K :=
  o_eqi hx hy (fun hh => by rw [decide_eq_true hh] at h; exact h) (fun hh => by rw [decide_eq_false hh] at h; exact h)
theorem dm_one {T s : ByteArray} {lw : AV} {L : List Bool} {i b n fA idA fN : Nat} {g : Nat → Bool} (hT : T.size ≤ 1000000) (hi : i < T.size) (hs : s.size = n) (hn : n ≤ 1000000) (hv : RV fs 1 lw (L.map .bool) L.length) (hst : isB T.data.toList L i 42 = false) {Q : AO → Env → List Fact → Prop}
    (hQ : ∀ e idN, idA ≠ idN → Sub e [(1, .str s), (2, .ptr b 0), (6, .int .i64 i), (7, .row (rowB n (oneUp (takeB T.data.toList L i) s.data.toList g)) (n + 1) ⟨fN, idN, 0, 1⟩), (8, .int .i64 (optI (brk T.data.toList L i)))] → Q (.exit 2) e (FM fN idN fA idA n b T lw fs)) :
    ∀ (r k idN : Nat) (nx : Nat → Bool), k + r = n + 1 → idA ≠ idN → (∀ j, j ≤ k → j ≤ n → nx j = oneUp (takeB T.data.toList L i) s.data.toList g j) → (∀ j, k < j → nx j = false) →
    WL sW ftab lb11_0 106 [(1, .str s), (2, .ptr b 0), (5, .row (rowB n g) (n + 1) ⟨fA, idA, 0, 1⟩), (6, .int .i64 i), (7, .row (rowB n nx) (n + 1) ⟨fN, idN, 0, 1⟩), (8, .int .i64 (optI (brk T.data.toList L i))), (9, .bool (anyB g k)), (10, .int .i64 k)] (FM fN idN fA idA n b T lw fs) Q
  | 0, k, idN, nx, hk, hne, hnx, hnz => by
    refine l_round ?_
    refine cgo ?_
    refine g_do rfl (o_leq (xt rfl) (xt rfl) (fun h => by omega) (fun h => ?_))
    refine cgo ?_
    rw [rowB_ext (g' := oneUp (takeB T.data.toList L i) s.data.toList g) (fun j hj => hnx j (by omega) hj)]
    exact hQ _ idN hne (.cons rfl (.cons rfl (.cons rfl (.cons rfl (.cons rfl .nil)))))
  | r + 1, k, idN, nx, hk, hne, hnx, hnz => by
    refine l_round ?_
    refine cgo ?_
    refine g_do rfl (o_leq (xt rfl) (xt rfl) (fun h => ?_) (fun h => by omega))
    refine rgo ?_
    refine w_seq (w_cond (xt rfl) (w_skip ?_))
    refine w_seq (w_block (w_mid (fun e' fs' => fs' = FM fN idN fA idA n b T lw fs ∧ Sub e' [(1, .str s), (2, .ptr b 0), (5, .row (rowB n g) (n + 1) ⟨fA, idA, 0, 1⟩), (6, .int .i64 i), (7, .row (rowB n nx) (n + 1) ⟨fN, idN, 0, 1⟩), (8, .int .i64 (optI (brk T.data.toList L i))), (9, .bool (orUp g k)), (10, .int .i64 k)]) ?_ ?_))
    · have hup := anyB_up g k
      cases hany : anyB g k with
      | true =>
        rw [hany, Bool.true_or] at hup
        refine cgo ?_
        rw [← hup]
        exact ⟨rfl, rfl, .cons rfl (.cons rfl (.cons rfl (.cons rfl (.cons rfl (.cons rfl (.cons rfl (.cons rfl .nil)))))))⟩
      | false =>
        rw [hany, Bool.false_or] at hup
        refine cgo ?_
        refine g_do rfl (o_iaddr (xt rfl) (xt rfl) ⟨by omega, by omega⟩ rfl ?_)
        refine g_if rfl ?_
        refine g_do rfl (o_loadr (xt rfl) (.own (.there .here)) (rowB_get g (by omega)) ?_)
        refine cgo ?_
        rw [← hup]
        exact ⟨rfl, rfl, .cons rfl (.cons rfl (.cons rfl (.cons rfl (.cons rfl (.cons rfl (.cons rfl (.cons rfl .nil)))))))⟩
    · rintro e' fs' ⟨rfl, hS⟩
      refine w_sub hS (fun _ h => h) (w_block ?_)
      have hl := rowB_len n nx
      refine cgo ?_
      refine g_do rfl (o_call (.cons (xt rfl) (.cons (xt rfl) (.cons xc .nil))) (is_ev (i := i) (c := 42) hv.cons.cons.cons ?_))
      rw [hst]
      refine cgo ?_
      rw [hs]
      refine g_do rfl (o_eqi (xt rfl) (xt rfl) (fun h1 => ?_) (fun h1 => ?_))
      · have hkn : k = n := by omega
        refine cgo ?_
        refine g_do rfl (o_add (xt rfl) xc (by constructor <;> omega) ?_)
        refine cgo ?_
        refine l_sub (e' := [(1, .str s), (2, .ptr b 0), (5, .row (rowB n g) (n + 1) ⟨fA, idA, 0, 1⟩), (6, .int .i64 i), (7, .row (rowB n nx) (n + 1) ⟨fN, idN, 0, 1⟩), (8, .int .i64 (optI (brk T.data.toList L i))), (9, .bool (anyB g (k + 1))), (10, .int .i64 ((k + 1 : Nat) : Int))]) (.cons rfl (.cons rfl (.cons rfl (.cons rfl (.cons rfl (.cons rfl (.cons rfl (.cons rfl .nil)))))))) (fun _ h => h) ?_
        refine dm_one hT hi hs hn hv hst hQ r (k + 1) idN nx (by omega) hne (fun j hj hjn => ?_) (fun j hj => hnz j (by omega))
        by_cases hjk : j = k + 1
        · rw [hjk, hnz (k + 1) (by omega)]
          exfalso; omega
        · exact hnx j (by omega) (by assumption)
      · have hkn : k < n := by omega
        obtain ⟨x, hx⟩ := tget (T := s) (i := k) (by omega)
        have hup0 : oneUp (takeB T.data.toList L i) s.data.toList g (k + 1) = (g k && takeB T.data.toList L i x.toNat) := by
          show (match s.data.toList[k]? with | some b => g k && takeB T.data.toList L i b.toNat | none => false) = _
          rw [hx]
        refine cgo ?_
        refine g_do rfl (o_iaddr (xt rfl) (xt rfl) ⟨by omega, by omega⟩ rfl ?_)
        refine g_if rfl ?_
        refine g_do rfl (o_loadr (xt rfl) (.own (.there .here)) (rowB_get g (by omega)) ?_)
        cases hg : g k with
        | false =>
          refine cgo ?_
          refine g_do rfl (o_add (xt rfl) xc (by constructor <;> omega) ?_)
          refine cgo ?_
          refine l_sub (e' := [(1, .str s), (2, .ptr b 0), (5, .row (rowB n g) (n + 1) ⟨fA, idA, 0, 1⟩), (6, .int .i64 i), (7, .row (rowB n nx) (n + 1) ⟨fN, idN, 0, 1⟩), (8, .int .i64 (optI (brk T.data.toList L i))), (9, .bool (anyB g (k + 1))), (10, .int .i64 ((k + 1 : Nat) : Int))]) (.cons rfl (.cons rfl (.cons rfl (.cons rfl (.cons rfl (.cons rfl (.cons rfl (.cons rfl .nil)))))))) (fun _ h => h) ?_
          refine dm_one hT hi hs hn hv hst hQ r (k + 1) idN nx (by omega) hne (fun j hj hjn => ?_) (fun j hj => hnz j (by omega))
          by_cases hjk : j = k + 1
          · rw [hjk, hnz (k + 1) (by omega)]
            rw [hup0, hg, Bool.false_and]
          · exact hnx j (by omega) (by assumption)
        | true =>
          have hup1 : ∀ v, takeB T.data.toList L i x.toNat = v → oneUp (takeB T.data.toList L i) s.data.toList g (k + 1) = v := fun v h => by rw [hup0, hg, Bool.true_and, h]
          refine cgo ?_
          refine g_do rfl (o_call (.cons (xt rfl) (.cons (xt rfl) (.cons xc .nil))) (is_ev (i := i) (c := 63) hv.cons.cons.cons ?_))
          cases h63 : isB T.data.toList L i 63 with
          | true =>
            refine cgo ?_
            refine g_do rfl (o_add (xt rfl) xc (by constructor <;> omega) ?_)
            refine g_do rfl (o_iaddr (xt rfl) (xt rfl) ⟨by omega, by omega⟩ rfl ?_)
            rw [show ((k : Int) + 1).toNat * 1 = k + 1 by omega]
            refine g_el2 (k := 7) (m := (n + 1) * 1) (fs' := fun id' => .row fN id' (0 + (rowB n nx).length) :: .row fA idA ((n + 1) * 1) :: .blk b (.cells [.str T, lw]) :: fs) (xt rfl) xc rfl rfl (by decide) (by rw [hl]; omega) rfl (fun _ => .here) fun id' hfresh => ?_
            have hne2 : idA ≠ id' := hfresh _ _ _ (.there .here)
            rw [hl, show 0 + (n + 1) = (n + 1) * 1 by omega]
            show WG sW ftab _ 106 ((7, .row ((rowB n nx).take (k + 1) ++ (AV.bool true).cells ++ (rowB n nx).drop (k + 1 + 1)) (n + 1) ⟨fN, id', 0, 1⟩) :: _) _ _
            rw [rowB_set (g' := fun j => if j = k + 1 then true else nx j) (by omega) (by simp) (fun j hj hjk => by simp [hjk])]
            refine cgo ?_
            refine g_do rfl (o_add (xt rfl) xc (by constructor <;> omega) ?_)
            refine cgo ?_
            refine l_sub (e' := [(1, .str s), (2, .ptr b 0), (5, .row (rowB n g) (n + 1) ⟨fA, idA, 0, 1⟩), (6, .int .i64 i), (7, .row (rowB n fun j => if j = k + 1 then true else nx j) (n + 1) ⟨fN, id', 0, 1⟩), (8, .int .i64 (optI (brk T.data.toList L i))), (9, .bool (anyB g (k + 1))), (10, .int .i64 ((k + 1 : Nat) : Int))]) (.cons rfl (.cons rfl (.cons (congrArg some (swap_ne hne)) (.cons rfl (.cons rfl (.cons rfl (.cons rfl (.cons rfl .nil)))))))) (fun _ h => h) ?_
            refine dm_one hT hi hs hn hv hst hQ r (k + 1) id' _ (by omega) hne2 (fun j hj hjn => ?_) (fun j hj => by rw [if_neg (by omega)]; exact hnz j (by omega))
            by_cases hjk : j = k + 1
            · rw [if_pos hjk, hjk, hup1 true (by unfold takeB; rw [h63, if_pos rfl])]
            · rw [if_neg hjk]; exact hnx j (by omega) (by assumption)
          | false =>
            cases hb : brk T.data.toList L i with
            | some en =>
              have hsp := brk_spec hb
              rw [bsz] at hsp
              refine cgo ?_
              refine g_do rfl (o_geq (xt rfl) xc (fun _ => ?_) (fun h => absurd (by show (0 : Int) ≤ ((en : Nat) : Int); omega) h))
              refine cgo ?_
              refine g_do rfl (o_add (xt rfl) xc (by constructor <;> omega) ?_)
              refine cgo ?_
              refine g_do rfl (o_idx (b := x) (xt rfl) (xt rfl) (by omega) (by rw [Int.toNat_natCast]; exact hx) ?_)
              refine g_do rfl (o_call (.cons (xt rfl) (.cons (xt rfl) (.cons (xt rfl) (.cons (xt rfl) .nil)))) (among_ev (i := i) (e := en) (c := x.toNat) hT (by omega) (by omega) hv.cons.cons.cons ?_))
              refine g_do rfl (o_iaddr (xt rfl) (xt rfl) ⟨by omega, by omega⟩ rfl ?_)
              rw [show ((k : Int) + 1).toNat * 1 = k + 1 by omega]
              refine g_el2 (k := 7) (m := (n + 1) * 1) (fs' := fun id' => .row fN id' (0 + (rowB n nx).length) :: .row fA idA ((n + 1) * 1) :: .blk b (.cells [.str T, lw]) :: fs) (xt rfl) (xt rfl) rfl rfl (by decide) (by rw [hl]; omega) rfl (fun _ => .here) fun id' hfresh => ?_
              have hne2 : idA ≠ id' := hfresh _ _ _ (.there .here)
              rw [hl, show 0 + (n + 1) = (n + 1) * 1 by omega]
              show WG sW ftab _ 106 ((7, .row ((rowB n nx).take (k + 1) ++ (AV.bool (amongB T.data.toList L en x.toNat (en - fromB T.data.toList L i) (fromB T.data.toList L i) != isB T.data.toList L (i + 1) 33)).cells ++ (rowB n nx).drop (k + 1 + 1)) (n + 1) ⟨fN, id', 0, 1⟩) :: _) _ _
              rw [rowB_set (g' := fun j => if j = k + 1 then (amongB T.data.toList L en x.toNat (en - fromB T.data.toList L i) (fromB T.data.toList L i) != isB T.data.toList L (i + 1) 33) else nx j) (by omega) (by simp) (fun j hj hjk => by simp [hjk])]
              refine cgo ?_
              refine g_do rfl (o_add (xt rfl) xc (by constructor <;> omega) ?_)
              refine cgo ?_
              refine l_sub (e' := [(1, .str s), (2, .ptr b 0), (5, .row (rowB n g) (n + 1) ⟨fA, idA, 0, 1⟩), (6, .int .i64 i), (7, .row (rowB n fun j => if j = k + 1 then (amongB T.data.toList L en x.toNat (en - fromB T.data.toList L i) (fromB T.data.toList L i) != isB T.data.toList L (i + 1) 33) else nx j) (n + 1) ⟨fN, id', 0, 1⟩), (8, .int .i64 (optI (brk T.data.toList L i))), (9, .bool (anyB g (k + 1))), (10, .int .i64 ((k + 1 : Nat) : Int))]) (.cons rfl (.cons rfl (.cons (congrArg some (swap_ne hne)) (.cons rfl (.cons rfl (.cons (by rw [hb]; rfl) (.cons rfl (.cons rfl .nil)))))))) (fun _ h => h) ?_
              refine dm_one hT hi hs hn hv hst hQ r (k + 1) id' _ (by omega) hne2 (fun j hj hjn => ?_) (fun j hj => by rw [if_neg (by omega)]; exact hnz j (by omega))
              by_cases hjk : j = k + 1
              · rw [if_pos hjk, hjk, hup1 (amongB T.data.toList L en x.toNat (en - fromB T.data.toList L i) (fromB T.data.toList L i) != isB T.data.toList L (i + 1) 33) (by unfold takeB; rw [h63, if_neg (by simp), hb])]
              · rw [if_neg hjk]; exact hnx j (by omega) (by assumption)
            | none =>
              obtain ⟨y, hy⟩ := tget (T := T) (i := i) hi
              refine cgo ?_
              refine g_do rfl (o_geq (xt rfl) xc (fun h => absurd h (by show ¬ (0 : Int) ≤ -1; omega)) (fun _ => ?_))
              refine cgo ?_
              refine g_do rfl (o_add (xt rfl) xc (by constructor <;> omega) ?_)
              refine cgo ?_
              refine g_do rfl (o_idx (b := x) (xt rfl) (xt rfl) (by omega) (by rw [Int.toNat_natCast]; exact hx) ?_)
              refine cgo ?_
              refine g_do rfl (o_idx (b := y) (xt rfl) (xt rfl) (by omega) (by rw [Int.toNat_natCast]; exact hy) ?_)
              refine g_do rfl (o_eqd (xt rfl) (xt rfl) ?_)
              refine g_do rfl (o_iaddr (xt rfl) (xt rfl) ⟨by omega, by omega⟩ rfl ?_)
              rw [show ((k : Int) + 1).toNat * 1 = k + 1 by omega]
              refine g_el2 (k := 7) (m := (n + 1) * 1) (fs' := fun id' => .row fN id' (0 + (rowB n nx).length) :: .row fA idA ((n + 1) * 1) :: .blk b (.cells [.str T, lw]) :: fs) (xt rfl) (xt rfl) rfl rfl (by decide) (by rw [hl]; omega) rfl (fun _ => .here) fun id' hfresh => ?_
              have hne2 : idA ≠ id' := hfresh _ _ _ (.there .here)
              rw [hl, show 0 + (n + 1) = (n + 1) * 1 by omega]
              show WG sW ftab _ 106 ((7, .row ((rowB n nx).take (k + 1) ++ (AV.bool (decide ((x.toNat : Int) = (y.toNat : Int)))).cells ++ (rowB n nx).drop (k + 1 + 1)) (n + 1) ⟨fN, id', 0, 1⟩) :: _) _ _
              rw [rowB_set (g' := fun j => if j = k + 1 then (decide ((x.toNat : Int) = (y.toNat : Int))) else nx j) (by omega) (by simp) (fun j hj hjk => by simp [hjk])]
              refine cgo ?_
              refine g_do rfl (o_add (xt rfl) xc (by constructor <;> omega) ?_)
              refine cgo ?_
              refine l_sub (e' := [(1, .str s), (2, .ptr b 0), (5, .row (rowB n g) (n + 1) ⟨fA, idA, 0, 1⟩), (6, .int .i64 i), (7, .row (rowB n fun j => if j = k + 1 then (decide ((x.toNat : Int) = (y.toNat : Int))) else nx j) (n + 1) ⟨fN, id', 0, 1⟩), (8, .int .i64 (optI (brk T.data.toList L i))), (9, .bool (anyB g (k + 1))), (10, .int .i64 ((k + 1 : Nat) : Int))]) (.cons rfl (.cons rfl (.cons (congrArg some (swap_ne hne)) (.cons rfl (.cons rfl (.cons (by rw [hb]; rfl) (.cons rfl (.cons rfl .nil)))))))) (fun _ h => h) ?_
              refine dm_one hT hi hs hn hv hst hQ r (k + 1) id' _ (by omega) hne2 (fun j hj hjn => ?_) (fun j hj => by rw [if_neg (by omega)]; exact hnz j (by omega))
              by_cases hjk : j = k + 1
              · rw [if_pos hjk, hjk, hup1 (decide ((x.toNat : Int) = (y.toNat : Int))) (by unfold takeB eqAt; rw [h63, if_neg (by simp), hb, hy]; simp only [Option.map_some, Option.some.injEq]; exact decide_eq_decide.2 ⟨fun h => by omega, fun h => by omega⟩)]
              · rw [if_neg hjk]; exact hnx j (by omega) (by assumption)
theorem stepB_t {t : List UInt8} {L : List Bool} {s : List UInt8} {i : Nat} {g : Nat → Bool} (h : isB t L i 42 = true) : stepB t L s i g = orUp g := by unfold stepB; rw [if_pos h]
theorem stepB_f {t : List UInt8} {L : List Bool} {s : List UInt8} {i : Nat} {g : Nat → Bool} (h : isB t L i 42 = false) : stepB t L s i g = oneUp (takeB t L i) s g := by unfold stepB; rw [if_neg (by rw [h]; simp)]
theorem nextB_max {t : List UInt8} {L : List Bool} {i : Nat} : (if optI (brk t L i) > (i : Int) then optI (brk t L i) else (i : Int)) + 1 = (nextB t L i : Int) := by
  unfold nextB
  have hf := fromB_le t L i
  cases h : brk t L i with
  | none => show (if (-1 : Int) > (i : Int) then (-1 : Int) else (i : Int)) + 1 = ((i + 1 : Nat) : Int); rw [if_neg (by omega)]; omega
  | some e =>
    have := brk_spec h
    show (if ((e : Nat) : Int) > (i : Int) then ((e : Nat) : Int) else (i : Int)) + 1 = ((e + 1 : Nat) : Int)
    rw [if_pos (by omega)]; omega
theorem dm_out {T s : ByteArray} {lw : AV} {L : List Bool} {b n : Nat} (hT : T.size ≤ 1000000) (hs : s.size = n) (hn : n ≤ 1000000) (hv : RV fs 1 lw (L.map .bool) L.length) {gf : Nat → Bool} {Q : AO → Env → List Fact → Prop}
    (hQ : ∀ e fA idA, Sub e [(1, .str s), (5, .row (rowB n gf) (n + 1) ⟨fA, idA, 0, 1⟩)] → Q (.exit 0) e (.row fA idA ((n + 1) * 1) :: .blk b (.cells [.str T, lw]) :: fs)) :
    ∀ (r i fA idA : Nat) (g : Nat → Bool), T.size ≤ i + r → i ≤ T.size → goB T.data.toList L s.data.toList r i g = gf →
    WL sW ftab lb11_1 106 [(1, .str s), (2, .ptr b 0), (5, .row (rowB n g) (n + 1) ⟨fA, idA, 0, 1⟩), (6, .int .i64 i)] (.row fA idA ((n + 1) * 1) :: .blk b (.cells [.str T, lw]) :: fs) Q := by
  intro r
  have stop : ∀ i fA idA g, ¬ i < T.size → g = gf → WL sW ftab lb11_1 106 [(1, .str s), (2, .ptr b 0), (5, .row (rowB n g) (n + 1) ⟨fA, idA, 0, 1⟩), (6, .int .i64 i)] (.row fA idA ((n + 1) * 1) :: .blk b (.cells [.str T, lw]) :: fs) Q := by
    intro i fA idA g hi hg
    subst hg
    refine l_round ?_
    refine cgo ?_
    refine g_do rfl (o_lss (xt rfl) (xt rfl) (fun h => by omega) (fun h => ?_))
    refine cgo ?_
    exact hQ _ fA idA (.cons rfl (.cons rfl .nil))
  induction r with
  | zero =>
    intro i fA idA g hr hi hg
    exact stop i fA idA g (by omega) hg
  | succ r ih =>
    intro i fA idA g hr hi hg
    unfold goB at hg
    rw [bsz] at hg
    by_cases hlt : i < T.size
    · rw [if_pos hlt] at hg
      have hnx := nextB_lt T.data.toList L i
      rw [bsz] at hnx
      refine l_round ?_
      refine cgo ?_
      refine g_do rfl (o_lss (xt rfl) (xt rfl) (fun h => ?_) (fun h => by omega))
      refine cgo ?_
      refine w_block ?_
      refine cgo ?_
      rw [hs]
      refine g_do rfl (o_add (xt rfl) xc (by constructor <;> omega) ?_)
      refine g_do rfl (o_make2 (n := n + 1) (xt rfl) (xt rfl) (by omega) (by omega) (rowB_new n) fun fN idN hfr => ?_)
      have hne : idA ≠ idN := hfr _ _ _ .here
      refine cgo ?_
      refine g_do rfl (o_call (.cons (xt rfl) (.cons (xt rfl) .nil)) (bracket_ev (i := i) hT (by omega) hv.cons.cons.cons ?_))
      refine cgo ?_
      refine w_mono (Q := fun ao e' fs' => ao = .normal ∧ ∃ idN, fs' = FM fN idN fA idA n b T lw fs ∧ Sub e' [(1, .str s), (2, .ptr b 0), (6, .int .i64 i), (7, .row (rowB n (stepB T.data.toList L s.data.toList i g)) (n + 1) ⟨fN, idN, 0, 1⟩), (8, .int .i64 (optI (brk T.data.toList L i)))]) ?_ ?_
      · refine w_block (w_loop ?_)
        refine l_sub (fs' := FM fN idN fA idA n b T lw fs) (e' := [(1, .str s), (2, .ptr b 0), (5, .row (rowB n g) (n + 1) ⟨fA, idA, 0, 1⟩), (6, .int .i64 i), (7, .row (rowB n fun _ => false) (n + 1) ⟨fN, idN, 0, 1⟩), (8, .int .i64 (optI (brk T.data.toList L i))), (9, .bool (anyB g 0)), (10, .int .i64 ((0 : Nat) : Int))]) (.cons rfl (.cons rfl (.cons rfl (.cons rfl (.cons rfl (.cons rfl (.cons rfl (.cons rfl .nil)))))))) (fun _ h => h) ?_
        cases h42 : isB T.data.toList L i 42 with
        | true =>
          rw [stepB_t h42]
          exact dm_star hT hs hn hv h42 (fun e id hne' hS => ⟨rfl, id, rfl, hS⟩) rfl (n + 1) 0 idN _ (by omega) hne (fun j hj => by omega)
        | false =>
          rw [stepB_f h42]
          exact dm_one hT hlt hs hn hv h42 (fun e id hne' hS => ⟨rfl, id, rfl, hS⟩) (n + 1) 0 idN _ (by omega) hne (fun j hj _ => by rw [show j = 0 from Nat.le_zero.1 hj]; rfl) (fun j hj => rfl)
      · rintro ao e' fs' ⟨rfl, idN', rfl, hS⟩
        refine w_sub hS (fun _ h => h) ?_
        refine cgo ?_
        refine g_do rfl (o_max (xt rfl) (xt rfl) ?_)
        refine g_do rfl (o_add (xt rfl) xc (by rw [nextB_max]; constructor <;> omega) ?_)
        rw [nextB_max]
        refine cgo ?_
        refine l_sub (fs' := .row fN idN' ((n + 1) * 1) :: .blk b (.cells [.str T, lw]) :: fs) (e' := [(1, .str s), (2, .ptr b 0), (5, .row (rowB n (stepB T.data.toList L s.data.toList i g)) (n + 1) ⟨fN, idN', 0, 1⟩), (6, .int .i64 (nextB T.data.toList L i : Int))]) (.cons rfl (.cons rfl (.cons rfl (.cons rfl .nil)))) (fun _ h => h.mono (.cons_cons _ (.cons _ (.refl _)))) ?_
        exact ih _ fN idN' _ (by omega) (by omega) hg
    · rw [if_neg hlt] at hg
      exact stop i fA idA g hlt hg
theorem dmatch_ev {T s : ByteArray} {lw : AV} {L : List Bool} (hT : T.size ≤ 1000000) (hn : s.size ≤ 1000000) (hv : RV fs 1 lw (L.map .bool) L.length) {K : KK} (h : K (.bool (matchB T.data.toList L s.data.toList)) fs) : Ev sW ftab 11 [.agg [.str T, lw], .str s] fs K := by
  refine ev_fn (nt := 106) (kb := kb11) (kr := kr11) rfl rfl (Nat.le_of_ble_eq_true rfl) ?_
  obtain ⟨n, hs⟩ : ∃ n, s.size = n := ⟨_, rfl⟩
  refine cgo ?_
  refine g_do rfl (o_box (xt rfl) rfl fun b => ?_)
  refine cgo ?_
  rw [hs]
  refine g_do rfl (o_add (xt rfl) xc (by constructor <;> omega) ?_)
  refine g_do rfl (o_make2 (n := n + 1) (xt rfl) (xt rfl) (by omega) (by omega) (rowB_new n) fun fA idA hfr => ?_)
  refine cgo ?_
  refine g_do rfl (o_iaddr (xt rfl) xc ⟨by omega, by omega⟩ rfl ?_)
  have hl := rowB_len n fun _ => false
  refine g_el2 (k := 5) (m := (n + 1) * 1) (fs' := fun id' => .row fA id' (0 + (rowB n fun _ => false).length) :: .blk b (.cells [.str T, lw]) :: fs) (xt rfl) xc rfl rfl (by decide) (by rw [hl]; show 0 + 1 ≤ n + 1; omega) rfl (fun _ => .here) fun id' hfresh => ?_
  rw [hl, show 0 + (n + 1) = (n + 1) * 1 by omega]
  show WG sW ftab _ 106 ((5, .row ((rowB n fun _ => false).take 0 ++ (AV.bool true).cells ++ (rowB n fun _ => false).drop (0 + 1)) (n + 1) ⟨fA, id', 0, 1⟩) :: _) _ _
  rw [rowB_set (g' := fun j => decide (j = 0)) (by omega) (by simp) (fun j hj hjk => by simp [hjk])]
  refine cgo ?_
  refine w_block (w_loop ?_)
  refine l_sub (e' := [(1, .str s), (2, .ptr b 0), (5, .row (rowB n fun j => decide (j = 0)) (n + 1) ⟨fA, id', 0, 1⟩), (6, .int .i64 ((0 : Nat) : Int))]) (.cons rfl (.cons rfl (.cons rfl (.cons rfl .nil)))) (fun _ h => h) ?_
  refine dm_out hT hs (by omega) hv (fun e fA idA hS => ?_) T.size 0 fA id' _ (by omega) (by omega) rfl
  refine w_sub hS (fun _ h => h) ?_
  refine cgo ?_
  rw [hs]
  refine g_do rfl (o_iaddr (xt rfl) (xt rfl) ⟨by omega, by omega⟩ rfl ?_)
  refine g_do rfl (o_loadr (xt rfl) (.own .here) (rowB_get _ (by omega)) ?_)
  refine cgo ?_
  have e1 : matchB T.data.toList L s.data.toList = goB T.data.toList L s.data.toList T.size 0 (fun j => decide (j = 0)) n := by unfold matchB; rw [bsz, bsz, hs]
  rw [e1] at h
  exact ⟨trivial, _, _, .one (.tmp rfl), .cons _ (.cons _ (.refl _)), h⟩
structure It where
  kind : Nat
  c : Nat
  inn : List UInt8
  dash : List Bool
  neg : Bool
  lit : Bool
def It.cells (x : It) (dv : AV) : List AV := [.int .u8 x.kind, .int .u8 x.c, .str (mkT x.inn), dv, .bool x.neg, .bool x.lit]
def dashB (L : List Bool) (f m : Nat) : List Bool := (List.range m).map fun q => lvB L (f + q)
theorem dashB_up (L : List Bool) (f m : Nat) : dashB L f (m + 1) = dashB L f m ++ [lvB L (f + m)] := by simp [dashB, List.range_succ]
theorem dashB_len (L : List Bool) (f m : Nat) : (dashB L f m).length = m := by simp [dashB]
def setIt (t : List UInt8) (L : List Bool) (i e : Nat) : It := ⟨91, 0, (t.drop (fromB t L i)).take (e - fromB t L i), dashB L (fromB t L i) (e - fromB t L i), isB t L (i + 1) 33, false⟩
abbrev zero6 : List AV := [.int .u8 0, .int .u8 0, .str ⟨#[]⟩, .nilrow, .bool false, .bool false]
abbrev FX (x r b : Nat) (xc : List AV) (T : ByteArray) (lw : AV) (fs : List Fact) : List Fact := .blk x (.cells xc) :: .blk r (.cells zero6) :: .blk b (.cells [.str T, lw]) :: fs
theorem Has.app {y : Fact} : ∀ {a : List Fact}, Has fs y → Has (a ++ fs) y
  | [], h => h
  | _ :: a, h => .there (Has.app (a := a) h)
theorem RV.app {size n : Nat} {v : AV} {cs : List AV} (h : RV fs size v cs n) : ∀ {a : List Fact}, RV (a ++ fs) size v cs n
  | [] => h
  | _ :: a => (RV.app h (a := a)).cons
theorem ds_loop {T : ByteArray} {lw : AV} {L : List Bool} {f e x r b at_ : Nat} {inn : ByteArray} {ng : Bool} (he : e ≤ 1000000) (hv : RV fs 1 lw (L.map .bool) L.length) {Q : AO → Env → List Fact → Prop}
    (hQ : ∀ en dv d, AR 1 dv ((dashB L f (e - f)).map .bool) (e - f) d → Sub en [(1, .int .i64 at_), (4, .ptr r 0), (6, .int .i64 e), (7, .ptr x 0)] → Q (.exit 2) en (d ++ FX x r b [.int .u8 91, .int .u8 0, .str inn, dv, .bool ng, .bool false] T lw fs)) :
    ∀ (rem m : Nat) (dv : AV) (d : List Fact), f + m + rem = e → AR 1 dv ((dashB L f m).map .bool) m d →
    WL sW ftab lb46_0 82 [(1, .int .i64 at_), (2, .ptr b 0), (4, .ptr r 0), (6, .int .i64 e), (7, .ptr x 0), (9, .int .i64 ((f + m : Nat) : Int))] (d ++ FX x r b [.int .u8 91, .int .u8 0, .str inn, dv, .bool ng, .bool false] T lw fs) Q
  | 0, m, dv, d, hm, hA => by
    refine l_round ?_
    refine cgo ?_
    refine g_do rfl (o_lss (xt rfl) (xt rfl) (fun h => by omega) (fun h => ?_))
    refine cgo ?_
    obtain rfl : m = e - f := by omega
    exact hQ _ dv d hA (.cons rfl (.cons rfl (.cons rfl (.cons rfl .nil))))
  | rem + 1, m, dv, d, hm, hA => by
    refine l_round ?_
    refine cgo ?_
    refine g_do rfl (o_lss (xt rfl) (xt rfl) (fun h => ?_) (fun h => by omega))
    refine cgo ?_
    refine w_block ?_
    refine cgo ?_
    rcases hA.inv with ⟨rfl, _, rfl, rfl⟩ | ⟨fd, id, hne, rfl, rfl⟩
    · show WG sW ftab _ 82 _ (FX x r b [.int .u8 91, .int .u8 0, .str inn, .nilrow, .bool ng, .bool false] T lw fs) _
      refine g_fl ?_
      refine hgo ?_
      refine h_do rfl (o_call (.cons (xt rfl) (.cons (xt rfl) .nil)) (plive_ev (i := f + 0) hv.cons.cons.cons ?_))
      refine h_do rfl (o_row (cs := [.bool (lvB L (f + 0))]) (.cons (xt rfl) .nil) rfl rfl fun f0 id0 => ?_)
      refine h_do rfl (o_appn (xt rfl) (.own (xt rfl) .here rfl) rfl (by decide) ⟨by decide, by decide⟩ fun f1 id1 => ?_)
      refine hgo ?_
      refine h_do0 (o_store (xt rfl) (xt rfl) (.there (.there .here)) ⟨rfl, (Nat.le_of_ble_eq_true rfl)⟩ rfl rfl ?_)
      refine h_end ?_
      refine ⟨.cons rfl (.cons rfl (o_load (xt rfl) .here rfl rfl) (.cons rfl (o_load (xt rfl) (.there .here) rfl rfl) .nil)) .nil, _, rfl, ?_⟩
      refine cgo ?_
      refine g_do rfl (o_add (xt rfl) xc (by constructor <;> omega) ?_)
      refine cgo ?_
      refine l_sub (fs' := [.row f1 id1 (1 * 1)] ++ FX x r b [.int .u8 91, .int .u8 0, .str inn, .row [.bool (lvB L (f + 0))] 1 ⟨f1, id1, 0, 1⟩, .bool ng, .bool false] T lw fs) (e' := [(1, .int .i64 at_), (2, .ptr b 0), (4, .ptr r 0), (6, .int .i64 e), (7, .ptr x 0), (9, .int .i64 ((f + 1 : Nat) : Int))]) (.cons rfl (.cons rfl (.cons rfl (.cons rfl (.cons rfl (.cons rfl .nil)))))) (fun _ h => h.mono (.cons_cons _ (.cons _ (.refl _)))) ?_
      exact ds_loop he hv hQ rem 1 _ _ (by omega) (by
        have := AR.own (size := 1) (cs := [.bool (lvB L (f + 0))]) (n := 1) (f := f1) (id := id1) (by decide)
        exact this)
    · show WG sW ftab _ 82 _ (.row fd id (m * 1) :: FX x r b [.int .u8 91, .int .u8 0, .str inn, .row ((dashB L f m).map .bool) m ⟨fd, id, 0, 1⟩, .bool ng, .bool false] T lw fs) _
      refine g_fl ?_
      refine hgo ?_
      refine h_do rfl (o_call (.cons (xt rfl) (.cons (xt rfl) .nil)) (plive_ev (i := f + m) hv.cons.cons.cons.cons ?_))
      refine h_do rfl (o_row (cs := [.bool (lvB L (f + m))]) (.cons (xt rfl) .nil) rfl rfl fun f0 id0 => ?_)
      refine h_do rfl (o_appo (fs' := fun id' => .row f0 id0 (1 * 1) :: .row fd id' (0 + m * 1 + 1 * 1) :: FX x r b [.int .u8 91, .int .u8 0, .str inn, .row ((dashB L f m).map .bool) m ⟨fd, id, 0, 1⟩, .bool ng, .bool false] T lw fs) (xt rfl) (.own (xt rfl) .here rfl) rfl (by decide) ⟨by omega, by omega⟩ rfl (fun id' => .there .here) fun id1 => ?_)
      refine hgo ?_
      refine h_do0 (o_store (xt rfl) (xt rfl) (.there (.there .here)) ⟨rfl, (Nat.le_of_ble_eq_true rfl)⟩ rfl rfl ?_)
      refine h_end ?_
      refine ⟨.cons rfl (.cons rfl (o_load (xt rfl) (.there .here) rfl rfl) (.cons rfl (o_load (xt rfl) (.there (.there .here)) rfl rfl) .nil)) .nil, _, rfl, ?_⟩
      refine cgo ?_
      refine g_do rfl (o_add (xt rfl) xc (by constructor <;> omega) ?_)
      refine cgo ?_
      refine l_sub (fs' := [.row fd id1 ((m + 1) * 1)] ++ FX x r b [.int .u8 91, .int .u8 0, .str inn, .row ((dashB L f m).map AV.bool ++ [.bool (lvB L (f + m))]) (m + 1) ⟨fd, id1, 0, 1⟩, .bool ng, .bool false] T lw fs) (e' := [(1, .int .i64 at_), (2, .ptr b 0), (4, .ptr r 0), (6, .int .i64 e), (7, .ptr x 0), (9, .int .i64 ((f + (m + 1) : Nat) : Int))]) (.cons rfl (.cons rfl (.cons rfl (.cons rfl (.cons rfl (.cons ?_ .nil)))))) (fun _ h => ?_) ?_
      · rw [show ((f + (m + 1) : Nat) : Int) = ((f + m : Nat) : Int) + 1 by omega]; rfl
      · have h1 := h.mono (.cons _ (.refl _))
        rw [show 0 + m * 1 + 1 * 1 = (m + 1) * 1 by omega] at h1
        exact h1
      exact ds_loop he hv hQ rem (m + 1) _ _ (by omega) (by
        have := AR.own (size := 1) (cs := (dashB L f (m + 1)).map AV.bool) (n := m + 1) (f := fd) (id := id1) (by omega)
        rw [dashB_up, List.map_append] at this ⊢
        exact this)
theorem g_mono {S : Sum} {F : FuncId → Option AF} {r : KR} {n : Nat} {e : Env} {Q Q' : Env → List Fact → Prop} (h : WG S F r n e fs Q) (hq : ∀ e fs, Q e fs → Q' e fs) : WG S F r n e fs Q' := fun ts h0 h1 h2 => by
  obtain ⟨ts', h', e', fs', k1, k2, k3, N, k4⟩ := h ts h0 h1 h2
  exact ⟨ts', h', e', fs', k1, k2, hq _ _ k3, N, k4⟩
theorem AR.scalar {v : AV} {cs : List AV} {n size : Nat} {fs : List Fact} (h : AR size v cs n fs) : EvA.scalar v = true := by
  cases h with
  | nil => rfl
  | own h => rfl
abbrev xc0 (ng : Bool) : List AV := [.int .u8 91, .int .u8 0, .str ⟨#[]⟩, .nilrow, .bool ng, .bool false]
theorem bytes_cut (T : ByteArray) (p q : Nat) : T.extract p q = mkT ((T.data.toList.drop p).take (q - p)) := by
  apply ByteArray.ext
  apply Array.ext'
  simp [mkT, ByteArray.data_extract, List.extract_eq_take_drop]
theorem Put.app {y z : Fact} (h : Put fs y z fs') : ∀ {a : List Fact}, Put (a ++ fs) y z (a ++ fs')
  | [] => h
  | _ :: a => .there (Put.app h (a := a))
theorem st_loop {T : ByteArray} {lw : AV} {L : List Bool} {f x r b i : Nat} {ng : Bool} {o : Option Nat} (hT : T.size ≤ 1000000) (hi : i ≤ f) (hf : f ≤ 1000002) (hv : RV fs 1 lw (L.map .bool) L.length) {Q : AO → Env → List Fact → Prop}
    (hQ1 : ∀ en e dv d, o = some e → AR 1 dv ((dashB L f (e - f)).map .bool) (e - f) d → Sub en [(4, .ptr r 0), (5, .int .i64 ((e + 1 - i : Nat) : Int))] → Q .ret en (d ++ .blk x (.cells [.int .u8 91, .int .u8 0, .str (mkT ((T.data.toList.drop f).take (e - f))), dv, .bool ng, .bool false]) :: .blk r (.cells [.int .u8 91, .int .u8 0, .str (mkT ((T.data.toList.drop f).take (e - f))), dv, .bool ng, .bool false]) :: .blk b (.cells [.str T, lw]) :: fs))
    (hQ2 : ∀ en, o = none → Sub en [(4, .ptr r 0)] → Q (.exit 0) en (FX x r b (xc0 ng) T lw fs)) :
    ∀ (rr k : Nat), rr = T.size - k → f < k → k ≤ 2000000 → scanB T.data.toList L rr k = o → WL sW ftab lb46_1 82 [(1, .int .i64 i), (2, .ptr b 0), (4, .ptr r 0), (6, .int .i64 k), (7, .ptr x 0), (8, .int .i64 f)] (FX x r b (xc0 ng) T lw fs) Q
  | 0, k, hr, hfk, hk, ho => by
    refine l_round ?_
    refine cgo ?_
    refine g_do rfl (o_lss (xt rfl) (xt rfl) (fun h => by omega) (fun h => ?_))
    refine cgo ?_
    exact hQ2 _ (by rw [← ho]; rfl) (.cons rfl .nil)
  | rr + 1, k, hr, hfk, hk, ho => by
    obtain ⟨y, hy⟩ := tget (T := T) (i := k) (by omega)
    unfold scanB at ho
    rw [isB_in hy] at ho
    have next : (lvB L k && decide (y.toNat = 93)) = false → ∀ en, Sub en [(1, .int .i64 i), (2, .ptr b 0), (4, .ptr r 0), (6, .int .i64 ((k + 1 : Nat) : Int)), (7, .ptr x 0), (8, .int .i64 f)] → WL sW ftab lb46_1 82 en (FX x r b (xc0 ng) T lw fs) Q := by
      intro h1 en hS
      rw [h1, if_neg (by simp)] at ho
      exact l_sub hS (fun _ h => h) (st_loop hT hi hf hv hQ1 hQ2 rr (k + 1) (by omega) (by omega) (by omega) ho)
    refine l_round ?_
    refine cgo ?_
    refine g_do rfl (o_lss (xt rfl) (xt rfl) (fun h => ?_) (fun h => by omega))
    refine cgo ?_
    refine w_block ?_
    refine cgo ?_
    refine g_do rfl (o_gtr (xt rfl) (xt rfl) (fun _ => ?_) (fun h => by omega))
    refine cgo ?_
    refine g_do rfl (o_idx (b := y) (xt rfl) (xt rfl) (by omega) (by rw [Int.toNat_natCast]; exact hy) ?_)
    refine g_if rfl ?_
    refine g_do rfl (o_eqi (xt rfl) xc (fun h1 => ?_) (fun h1 => ?_))
    · refine cgo ?_
      refine g_do rfl (o_call (.cons (xt rfl) (.cons (xt rfl) .nil)) (plive_ev (i := k) hv.cons.cons.cons ?_))
      cases hl : lvB L k with
      | false =>
        refine cgo ?_
        refine g_do rfl (o_add (xt rfl) xc (by constructor <;> omega) ?_)
        refine cgo ?_
        exact next (by rw [hl]; rfl) _ (.cons rfl (.cons rfl (.cons rfl (.cons rfl (.cons rfl (.cons rfl .nil))))))
      | true =>
        rw [hl, Bool.true_and, decide_eq_true (by omega), if_pos rfl] at ho
        refine cgo ?_
        refine g_do rfl (o_cutlh (xt rfl) (xt rfl) (xt rfl) ⟨by omega, by omega, by omega⟩ ?_)
        rw [show (f : Int).toNat = f by omega, show (k : Int).toNat = k by omega, bytes_cut]
        refine cgo ?_
        refine w_block (w_loop ?_)
        refine l_sub (fs' := [] ++ FX x r b [.int .u8 91, .int .u8 0, .str (mkT ((T.data.toList.drop f).take (k - f))), .nilrow, .bool ng, .bool false] T lw fs) (e' := [(1, .int .i64 i), (2, .ptr b 0), (4, .ptr r 0), (6, .int .i64 k), (7, .ptr x 0), (9, .int .i64 ((f + 0 : Nat) : Int))]) (.cons rfl (.cons rfl (.cons rfl (.cons rfl (.cons rfl (.cons rfl .nil)))))) (fun _ h => h) ?_
        refine ds_loop (by omega) hv (fun en dv d hA hS => ?_) (k - f) 0 .nilrow [] (by omega) .nil
        have hx : Has (d ++ FX x r b [.int .u8 91, .int .u8 0, .str (mkT ((T.data.toList.drop f).take (k - f))), dv, .bool ng, .bool false] T lw fs) (.blk x (.cells [.int .u8 91, .int .u8 0, .str (mkT ((T.data.toList.drop f).take (k - f))), dv, .bool ng, .bool false])) := Has.app .here
        refine w_sub hS (fun _ h => h) ?_
        refine cgo ?_
        refine g_do rfl (o_load (xt rfl) hx rfl ?_)
        refine cgo ?_
        refine g_do rfl (o_add (xt rfl) xc (by constructor <;> omega) ?_)
        refine cgo ?_
        refine g_do rfl (o_sub (xt rfl) (xt rfl) (by constructor <;> omega) ?_)
        refine g_do0 (o_store (xt rfl) (xt rfl) (Put.app (.there .here)) ⟨rfl, (Nat.le_of_ble_eq_true rfl)⟩ (by show (EvA.scalar dv && _) = true; rw [hA.scalar]; rfl) rfl ?_)
        refine cgo ?_
        refine hQ1 _ k dv d ho.symm hA (.cons rfl (.cons ?_ .nil))
        rw [show ((k + 1 - i : Nat) : Int) = (k : Int) + 1 - i by omega]; rfl
    · refine cgo ?_
      refine g_do rfl (o_add (xt rfl) xc (by constructor <;> omega) ?_)
      refine cgo ?_
      exact next (by rw [decide_eq_false (by omega), Bool.and_false]) _ (.cons rfl (.cons rfl (.cons rfl (.cons rfl (.cons rfl (.cons rfl .nil))))))
theorem fromB_is {t : List UInt8} {L : List Bool} {i : Nat} {b : Bool} (h : isB t L (i + 1) 33 = b) : fromB t L i = if b = true then i + 2 else i + 1 := by unfold fromB; rw [h]
/-- A bracket's step, if it is one (it begins with a live opening one). -/
theorem set_ev {T : ByteArray} {lw : AV} {L : List Bool} {i : Nat} (hT : T.size ≤ 1000000) (hi : i ≤ 1000000) (hv : RV fs 1 lw (L.map .bool) L.length) (h91 : isB T.data.toList L i 91 = true) {K : KK}
    (h1 : ∀ e dv d, brk T.data.toList L i = some e → AR 1 dv ((setIt T.data.toList L i e).dash.map .bool) (setIt T.data.toList L i e).dash.length d → K (.tup [.agg ((setIt T.data.toList L i e).cells dv), .int .i64 ((e + 1 - i : Nat) : Int)]) (d ++ fs))
    (h2 : brk T.data.toList L i = none → K (.tup [.agg zero6, .int .i64 0]) fs) : Ev sW ftab 46 [.agg [.str T, lw], .int .i64 i] fs K := by
  refine ev_fn (nt := 82) (kb := kb46) (kr := kr46) rfl rfl (Nat.le_of_ble_eq_true rfl) ?_
  refine cgo ?_
  refine g_do rfl (o_box (xt rfl) rfl fun b => ?_)
  refine cgo ?_
  refine g_do rfl (o_box xc rfl fun r => ?_)
  refine cgo ?_
  refine g_do rfl (o_add (xt rfl) xc (by constructor <;> omega) ?_)
  refine cgo ?_
  refine g_do rfl (o_box xc rfl fun x => ?_)
  refine cgo ?_
  refine g_mono (Q := fun e' fs' => fs' = FX x r b (xc0 false) T lw fs ∧ Sub e' [(29, .bool (isB T.data.toList L (i + 1) 33)), (1, .int .i64 i), (2, .ptr b 0), (4, .ptr r 0), (6, .int .i64 ((i + 1 : Nat) : Int)), (7, .ptr x 0)]) ?_ ?_
  · refine g_do rfl (o_lss (xt rfl) (xt rfl) (fun h3 => ?_) (fun h3 => ?_))
    · obtain ⟨y, hy⟩ := tget (T := T) (i := i + 1) (by omega)
      rw [isB_in hy]
      refine cgo ?_
      refine g_do rfl (o_idx (b := y) (xt rfl) (xt rfl) (by omega) (by rw [show ((i : Int) + 1).toNat = i + 1 by omega]; exact hy) ?_)
      refine g_if rfl ?_
      refine g_do rfl (o_eqi (xt rfl) xc (fun h4 => ?_) (fun h4 => ?_))
      · refine cgo ?_
        refine g_do rfl (o_call (.cons (xt rfl) (.cons (xt rfl) .nil)) (plive_ev (i := i + 1) hv.cons.cons.cons ?_))
        rw [decide_eq_true (by omega), Bool.and_true]
        refine cgo ?_
        exact ⟨rfl, .cons rfl (.cons rfl (.cons rfl (.cons rfl (.cons rfl (.cons rfl .nil)))))⟩
      · rw [decide_eq_false (by omega), Bool.and_false]
        refine cgo ?_
        exact ⟨rfl, .cons rfl (.cons rfl (.cons rfl (.cons rfl (.cons rfl (.cons rfl .nil)))))⟩
    · rw [isB_out (by omega)]
      refine cgo ?_
      exact ⟨rfl, .cons rfl (.cons rfl (.cons rfl (.cons rfl (.cons rfl (.cons rfl .nil)))))⟩
  rintro e' fs' ⟨rfl, hS⟩
  have hf := fromB_le T.data.toList L i
  have fin : ∀ ng en, isB T.data.toList L (i + 1) 33 = ng → Sub en [(1, .int .i64 i), (2, .ptr b 0), (4, .ptr r 0), (6, .int .i64 (fromB T.data.toList L i : Int)), (7, .ptr x 0), (8, .int .i64 (fromB T.data.toList L i : Int))] → WC sW ftab (kBlock 0 (kLoop lb46_1)) 82 en (FX x r b (xc0 ng) T lw fs) fun ao e' fs' =>
      (ao = .ret ∧ ∃ e dv d, brk T.data.toList L i = some e ∧ AR 1 dv ((setIt T.data.toList L i e).dash.map .bool) (setIt T.data.toList L i e).dash.length d ∧ Sub e' [(4, .ptr r 0), (5, .int .i64 ((e + 1 - i : Nat) : Int))] ∧ fs' = d ++ .blk x (.cells ((setIt T.data.toList L i e).cells dv)) :: .blk r (.cells ((setIt T.data.toList L i e).cells dv)) :: .blk b (.cells [.str T, lw]) :: fs)
      ∨ (ao = .normal ∧ brk T.data.toList L i = none ∧ Sub e' [(4, .ptr r 0)] ∧ fs' = FX x r b (xc0 ng) T lw fs) := by
    intro ng en hng hS
    refine w_sub hS (fun _ h => h) (w_block (w_loop ?_))
    have hbr : brk T.data.toList L i = scanB T.data.toList L (T.size - (fromB T.data.toList L i + 1)) (fromB T.data.toList L i + 1) := by unfold brk; rw [if_pos h91, bsz]
    subst hng
    refine l_round ?_
    refine cgo ?_
    refine g_do rfl (o_lss (xt rfl) (xt rfl) (fun h => ?_) (fun h => ?_))
    · refine cgo ?_
      refine w_block ?_
      refine cgo ?_
      refine g_do rfl (o_gtr (xt rfl) (xt rfl) (fun h => by omega) (fun _ => ?_))
      refine cgo ?_
      refine g_do rfl (o_add (xt rfl) xc (by constructor <;> omega) ?_)
      refine cgo ?_
      refine l_sub (e' := [(1, .int .i64 i), (2, .ptr b 0), (4, .ptr r 0), (6, .int .i64 ((fromB T.data.toList L i + 1 : Nat) : Int)), (7, .ptr x 0), (8, .int .i64 (fromB T.data.toList L i : Int))]) (.cons rfl (.cons rfl (.cons rfl (.cons rfl (.cons rfl (.cons rfl .nil)))))) (fun _ h => h) ?_
      refine st_loop (o := brk T.data.toList L i) hT (by omega) (by omega) hv (fun en e dv d he hA hS => Or.inl ⟨rfl, e, dv, d, he, ?_, hS, rfl⟩) (fun en hn hS => Or.inr ⟨rfl, hn, hS, rfl⟩) _ _ rfl (by omega) (by omega) hbr.symm
      show AR 1 dv ((dashB L (fromB T.data.toList L i) (e - fromB T.data.toList L i)).map .bool) (dashB L (fromB T.data.toList L i) (e - fromB T.data.toList L i)).length d
      rw [dashB_len]; exact hA
    · refine cgo ?_
      exact Or.inr ⟨rfl, by rw [hbr, show T.size - (fromB T.data.toList L i + 1) = 0 by omega]; rfl, .cons rfl .nil, rfl⟩
  refine w_sub hS (fun _ h => h) ?_
  have fin2 : ∀ (o : AO) (e' : Env) (fs' : List Fact) (ng : Bool),
      ((o = .ret ∧ ∃ e dv d, brk T.data.toList L i = some e ∧ AR 1 dv ((setIt T.data.toList L i e).dash.map .bool) (setIt T.data.toList L i e).dash.length d ∧ Sub e' [(4, .ptr r 0), (5, .int .i64 ((e + 1 - i : Nat) : Int))] ∧ fs' = d ++ .blk x (.cells ((setIt T.data.toList L i e).cells dv)) :: .blk r (.cells ((setIt T.data.toList L i e).cells dv)) :: .blk b (.cells [.str T, lw]) :: fs)) →
      ∃ v fs2, XRt e' fs' kr46 v ∧ fs2.Sublist fs' ∧ K v fs2 := by
    rintro o e' fs' ng ⟨rfl, e, dv, d, he, hA, hS, rfl⟩
    refine ⟨_, d ++ fs, .tup (.cons (.cell (hS.lk _ _ rfl) (Has.app (.there .here)) rfl) (.cons (.tmp (hS.lk _ _ rfl)) .nil)), (List.Sublist.refl d).append (.cons _ (.cons _ (.cons _ (.refl _)))), h1 e dv d he hA⟩
  cases h33 : isB T.data.toList L (i + 1) 33 with
  | false =>
    have e0 : fromB T.data.toList L i = i + 1 := by unfold fromB; rw [h33, if_neg (by simp)]
    rw [e0] at fin
    refine cgo ?_
    refine w_mono (fin _ _ h33 (.cons rfl (.cons rfl (.cons rfl (.cons rfl (.cons rfl (.cons rfl .nil))))))) ?_
    rintro ao e' fs' (hret | ⟨rfl, hn, hS, rfl⟩)
    · have := fin2 _ _ _ false hret
      rw [hret.1]
      exact ⟨trivial, this⟩
    · refine w_sub hS (fun _ h => h) ?_
      refine cgo ?_
      exact ⟨trivial, _, fs, .tup (.cons (.cell rfl (.there .here) rfl) (.cons (.tmp rfl) .nil)), .cons _ (.cons _ (.cons _ (.refl _))), h2 hn⟩
  | true =>
    have e0 : fromB T.data.toList L i = i + 2 := by unfold fromB; rw [h33, if_pos rfl]
    rw [e0] at fin
    refine cgo ?_
    refine g_do0 (o_store (xt rfl) xc .here ⟨rfl, (Nat.le_of_ble_eq_true rfl)⟩ rfl rfl ?_)
    refine cgo ?_
    refine g_do rfl (o_add (xt rfl) xc (by constructor <;> omega) ?_)
    refine cgo ?_
    refine w_mono (fin true _ h33 (.cons rfl (.cons rfl (.cons rfl (.cons ?_ (.cons rfl (.cons ?_ .nil))))))) ?_
    · rw [show ((i + 2 : Nat) : Int) = ((i + 1 : Nat) : Int) + 1 by omega]; rfl
    · rw [show ((i + 2 : Nat) : Int) = ((i + 1 : Nat) : Int) + 1 by omega]; rfl
    rintro ao e' fs' (hret | ⟨rfl, hn, hS, rfl⟩)
    · have := fin2 _ _ _ true hret
      rw [hret.1]
      exact ⟨trivial, this⟩
    · refine w_sub hS (fun _ h => h) ?_
      refine cgo ?_
      exact ⟨trivial, _, fs, .tup (.cons (.cell rfl (.there .here) rfl) (.cons (.tmp rfl) .nil)), .cons _ (.cons _ (.cons _ (.refl _))), h2 hn⟩
end Go.Proofs.Ythlmjpfklbocjaa.EvA
