/- SyntaxLists: a row of commands with signs between is read so that pipelines bind more than and-or, these more than lists; for any row of numbers. -/
import Derived.Test.YtadohhhjpbhhoaaLx
import Derived.Test.YtadohhhjpbhhoaaEvLg
import Derived.Test.YtadohhhjpbhhoaaEvBits
namespace Go.Proofs.Ytadohhhjpbhhoaa.EvA
attribute [local irreducible] oMove oPick oBox oBuild oRow oRowZ oLoad oStore oNil oArith oEq oEqS oShr oShl oNot oNeg oConv oFn oMfn oMin oMax oCutstr oCutrow oFaddr oField oIaddr oIaddrA oIdx oExtract oLenS oLenR oLenM oAppend oCall oCallv oMap oLookup oSet oDelete kDo kDo0 kIf kEl kClr oMake oText kEnd kReg kSeq kCond kBlock kLoop kSkip kExit kRet xT xC xF kFl kIp sDo sDo0 sIf gVal
set_option linter.unusedVariables false
set_option linter.unusedSimpArgs false
set_option maxHeartbeats 4000000
variable {fs fs' : List Fact}
theorem mk_app (a b : List UInt8) : mkT a ++ mkT b = mkT (a ++ b) := by
  apply ByteArray.ext
  simp [mkT]
def sgn (k : Nat) : List UInt8 := 32 :: (bl (opK k) ++ [32])
theorem tl_snoc (k : Nat) : ∀ ks : List Nat, tl (ks ++ [k]) = tl ks ++ sgn k ++ [120]
  | [] => by simp [tl, sgn]
  | c :: ks => by
    show 32 :: (bl (opK c) ++ 32 :: 120 :: tl (ks ++ [k])) = _
    rw [tl_snoc k ks]
    simp [tl]
theorem tl_len : ∀ ks : List Nat, (tl ks).length ≤ 5 * ks.length
  | [] => Nat.le_refl _
  | c :: ks => by
    have h := opK_pos c
    rw [sz_bl] at h
    have := tl_len ks
    simp only [tl, List.length_cons, List.length_append]
    omega
theorem n_snoc0 : ∀ ks : List Nat, nS (ks ++ [0]) = nS ks + 1 ∧ nO (ks ++ [0]) = nO ks ∧ nP (ks ++ [0]) = nP ks
  | [] => ⟨rfl, rfl, rfl⟩
  | c :: ks => by
    have ih := n_snoc0 ks
    match c with
    | 0 => exact ⟨congrArg (· + 1) ih.1, ih.2.1, ih.2.2⟩
    | 1 => exact ⟨ih.1, congrArg (· + 1) ih.2.1, ih.2.2⟩
    | 2 => exact ⟨ih.1, congrArg (· + 1) ih.2.1, ih.2.2⟩
    | n + 3 => exact ⟨ih.1, ih.2.1, congrArg (· + 1) ih.2.2⟩
theorem n_snoc3 : ∀ ks : List Nat, nS (ks ++ [3]) = nS ks ∧ nO (ks ++ [3]) = nO ks ∧ nP (ks ++ [3]) = nP ks + 1
  | [] => ⟨rfl, rfl, rfl⟩
  | c :: ks => by
    have ih := n_snoc3 ks
    match c with
    | 0 => exact ⟨congrArg (· + 1) ih.1, ih.2.1, ih.2.2⟩
    | 1 => exact ⟨ih.1, congrArg (· + 1) ih.2.1, ih.2.2⟩
    | 2 => exact ⟨ih.1, congrArg (· + 1) ih.2.1, ih.2.2⟩
    | n + 3 => exact ⟨ih.1, ih.2.1, congrArg (· + 1) ih.2.2⟩
theorem n_snoc12 {k : Nat} (hk : k = 1 ∨ k = 2) : ∀ ks : List Nat, nS (ks ++ [k]) = nS ks ∧ nO (ks ++ [k]) = nO ks + 1 ∧ nP (ks ++ [k]) = nP ks
  | [] => by rcases hk with rfl | rfl <;> exact ⟨rfl, rfl, rfl⟩
  | c :: ks => by
    have ih := n_snoc12 hk ks
    match c with
    | 0 => exact ⟨congrArg (· + 1) ih.1, ih.2.1, ih.2.2⟩
    | 1 => exact ⟨ih.1, congrArg (· + 1) ih.2.1, ih.2.2⟩
    | 2 => exact ⟨ih.1, congrArg (· + 1) ih.2.1, ih.2.2⟩
    | n + 3 => exact ⟨ih.1, ih.2.1, congrArg (· + 1) ih.2.2⟩
theorem n_le : ∀ ks : List Nat, nS ks ≤ ks.length ∧ nO ks ≤ ks.length ∧ nP ks ≤ ks.length
  | [] => ⟨Nat.le_refl _, Nat.le_refl _, Nat.le_refl _⟩
  | c :: ks => by
    have ih := n_le ks
    have : (c :: ks).length = ks.length + 1 := rfl
    match c with
    | 0 => exact ⟨by show nS ks + 1 ≤ _; omega, by show nO ks ≤ _; omega, by show nP ks ≤ _; omega⟩
    | 1 => exact ⟨by show nS ks ≤ _; omega, by show nO ks + 1 ≤ _; omega, by show nP ks ≤ _; omega⟩
    | 2 => exact ⟨by show nS ks ≤ _; omega, by show nO ks + 1 ≤ _; omega, by show nP ks ≤ _; omega⟩
    | n + 3 => exact ⟨by show nS ks ≤ _; omega, by show nO ks ≤ _; omega, by show nP ks + 1 ≤ _; omega⟩
abbrev textL (ks : List Nat) : ByteArray := mkT (120 :: tl ks)
/-- The text is made. -/
theorem make_loop {v : AV} {M : List Int} (hm : RI 1 v (M.map (.int .i64 ·)) M.length) (hM : M.length ≤ maxLen) {Q : AO → Env → List Fact → Prop}
    (hQ : ∀ e ks, ks.length ≤ 15 → Sub e [(2, .bool false), (3, .str (textL ks)), (4, .int .i64 ((nS ks + 1 : Nat) : Int)), (5, .int .i64 (nP ks : Int)), (6, .int .i64 (nO ks : Int))] → Q (.exit 0) e fs) :
    ∀ (r : Nat) (ks : List Nat), ks.length + r = 15 → ks.length ≤ M.length → WL sW ftab lb5_0 143 [(0, v), (2, .bool false), (3, .str (textL ks)), (4, .int .i64 ((nS ks + 1 : Nat) : Int)), (5, .int .i64 (nP ks : Int)), (6, .int .i64 (nO ks : Int)), (7, .int .i64 (ks.length : Int))] fs Q := by
  intro r
  induction r with
  | zero =>
    intro ks hr hle
    refine l_round ?_
    refine cgo ?_
    refine g_do rfl (o_len (xt rfl) hm.rv ?_)
    refine g_do rfl (o_lss (xt rfl) (xt rfl) (fun _ => ?_) (fun _ => ?_))
    · refine cgo ?_
      refine g_do rfl (o_lss (xt rfl) xc (fun h9 => by omega) (fun _ => ?_))
      refine cgo ?_
      exact hQ _ ks (by omega) (.cons rfl (.cons rfl (.cons rfl (.cons rfl (.cons rfl .nil)))))
    · refine cgo ?_
      exact hQ _ ks (by omega) (.cons rfl (.cons rfl (.cons rfl (.cons rfl (.cons rfl .nil)))))
  | succ r ih =>
    intro ks hr hle
    have hn := n_le ks
    refine l_round ?_
    refine cgo ?_
    refine g_do rfl (o_len (xt rfl) hm.rv ?_)
    refine g_do rfl (o_lss (xt rfl) (xt rfl) (fun hlt => ?_) (fun _ => ?_))
    · obtain ⟨sr, rfl, hfam, hz⟩ := hm.some (by omega)
      have hlt2 : ks.length < M.length := by omega
      have hg : M[ks.length]? = some (M[ks.length]) := List.getElem?_eq_getElem hlt2
      refine cgo ?_
      refine g_do rfl (o_lss (xt rfl) xc (fun _ => ?_) (fun h9 => by omega))
      refine cgo ?_
      refine w_block ?_
      refine cgo ?_
      refine g_do rfl (o_iaddr (xt rfl) (xt rfl) ⟨by omega, by omega⟩ hz ?_)
      refine g_do rfl (o_loadr (v := .int .i64 M[ks.length]) (xt rfl) (.frz hfam) ?_ ?_)
      · simp only [apart]
        rw [show ((ks.length : Nat) : Int).toNat * 1 = ks.length by omega, List.getElem?_map, hg]; rfl
      generalize M[ks.length] = z
      refine g_do rfl (o_arith (v := .int .i64 (Go.bits .and .i64 z 3)) (xt rfl) xc rfl ?_)
      obtain ⟨k, hk, hk4⟩ : ∃ k : Nat, Go.bits .and .i64 z 3 = (k : Int) ∧ k < 4 := by
        rw [Bits.bits_and3]
        exact ⟨(z % 4).toNat, by omega, by omega⟩
      rw [hk]
      refine cgo ?_
      refine g_do rfl (o_row (cs := [.str (mkT (sgn 0)), .str (mkT (sgn 1)), .str (mkT (sgn 2)), .str (mkT (sgn 3))]) (.cons xc (.cons xc (.cons xc (.cons xc .nil)))) rfl rfl fun f id => ?_)
      refine cgo ?_
      refine g_do rfl (o_iaddr (xt rfl) (xt rfl) ⟨by omega, by omega⟩ rfl ?_)
      refine g_do rfl (o_loadr (v := .str (mkT (sgn k))) (xt rfl) (.own .here) ?_ ?_)
      · rw [show ((k : Nat) : Int).toNat * 1 = k by omega]
        match k, hk4 with
        | 0, _ => rfl
        | 1, _ => rfl
        | 2, _ => rfl
        | 3, _ => rfl
      have hl1 := tl_len ks
      have hl2 : (sgn k).length ≤ 4 := by
        have := opK_pos k
        rw [sz_bl] at this
        simp only [sgn, List.length_cons, List.length_append, List.length_nil]; omega
      refine g_do rfl (o_cat (xt rfl) (xt rfl) (by rw [mkT_size, mkT_size, List.length_cons]; omega) ?_)
      rw [mk_app]
      refine g_do rfl (o_cat (xt rfl) xc (by rw [mkT_size, List.length_append, List.length_cons]; show _ + 1 ≤ _; omega) ?_)
      rw [show (⟨#[120]⟩ : ByteArray) = mkT [120] from rfl, mk_app, show (120 :: tl ks ++ sgn k) ++ [120] = 120 :: tl (ks ++ [k]) by rw [tl_snoc]; rfl]
      refine cgo ?_
      have hlen : (ks ++ [k]).length = ks.length + 1 := by simp
      have ih2 := ih (ks ++ [k]) (by omega) (by omega)
      rw [hlen] at ih2
      refine w_block ?_
      refine cgo ?_
      refine g_do rfl (o_eqi (xt rfl) xc (fun h0 => ?_) (fun h0 => ?_))
      · obtain rfl : k = 0 := by omega
        obtain ⟨e1, e2, e3⟩ := n_snoc0 ks
        rw [e1, e2, e3] at ih2
        refine cgo ?_
        refine g_do rfl (o_add (xt rfl) xc (by constructor <;> omega) ?_)
        refine cgo ?_
        refine g_do rfl (o_add (xt rfl) xc (by constructor <;> omega) ?_)
        refine cgo ?_
        exact l_sub (.cons rfl (.cons rfl (.cons rfl (.cons rfl (.cons rfl (.cons rfl (.cons rfl .nil))))))) (fun _ hh => hh.mono (.cons _ (.refl _))) ih2
      · refine cgo ?_
        refine g_do rfl (o_eqi (xt rfl) xc (fun h3 => ?_) (fun h3 => ?_))
        · obtain rfl : k = 3 := by omega
          obtain ⟨e1, e2, e3⟩ := n_snoc3 ks
          rw [e1, e2, e3] at ih2
          refine cgo ?_
          refine g_do rfl (o_add (xt rfl) xc (by constructor <;> omega) ?_)
          refine cgo ?_
          refine g_do rfl (o_add (xt rfl) xc (by constructor <;> omega) ?_)
          refine cgo ?_
          exact l_sub (.cons rfl (.cons rfl (.cons rfl (.cons rfl (.cons rfl (.cons rfl (.cons rfl .nil))))))) (fun _ hh => hh.mono (.cons _ (.refl _))) ih2
        · obtain ⟨e1, e2, e3⟩ := n_snoc12 (k := k) (by omega) ks
          rw [e1, e2, e3] at ih2
          refine cgo ?_
          refine g_do rfl (o_add (xt rfl) xc (by constructor <;> omega) ?_)
          refine cgo ?_
          refine g_do rfl (o_add (xt rfl) xc (by constructor <;> omega) ?_)
          refine cgo ?_
          exact l_sub (.cons rfl (.cons rfl (.cons rfl (.cons rfl (.cons rfl (.cons rfl (.cons rfl .nil))))))) (fun _ hh => hh.mono (.cons _ (.refl _))) ih2
    · refine cgo ?_
      exact hQ _ ks (by omega) (.cons rfl (.cons rfl (.cons rfl (.cons rfl (.cons rfl .nil)))))
theorem Has.ofMem {x : Fact} : ∀ {fs : List Fact}, x ∈ fs → Has fs x
  | y :: fs, h => by
    rcases List.mem_cons.1 h with rfl | h
    · exact .here
    · exact .there (Has.ofMem h)
abbrev eL (n q0 o0 : Int) (x9 x15 : Nat) (p o i : Int) : Env := [(2, .bool false), (4, .int .i64 n), (5, .int .i64 q0), (6, .int .i64 o0), (9, .ptr x9 0), (12, .int .i64 p), (13, .int .i64 o), (14, .int .i64 i), (15, .ptr x15 0)]
theorem chain_loop {n q0 o0 i : Int} {x9 x15 : Nat} {Q : AO → Env → List Fact → Prop} {R : List Fact} {v : List AV} {oo qq : Nat} (hc : Chain R v oo qq) :
    ∀ (p o : Nat), p + qq ≤ 1000 → o + oo ≤ 1000 → (∀ y ∈ R, Has fs y) → (∀ e v' p' q', PipeV v' q' → p' + q' = p + qq → Sub e (eL n q0 o0 x9 x15 (p' : Int) ((o + oo : Nat) : Int) i) → Q (.exit 5) e (.blk x15 (.cells v') :: fs)) →
    WL sW ftab lb5_1 143 (eL n q0 o0 x9 x15 p o i) (.blk x15 (.cells v) :: fs) Q := by
  induction hc with
  | base hv =>
    intro p o hp ho hR hQ
    obtain ⟨kw, aw, ww, sw, rfl, hww, hsw, hkw⟩ := id hv
    have hk : kw = 1 ∨ kw = 2 := by
      rcases hkw with h | h
      · exact Or.inl h.1
      · exact Or.inr h.1
    refine l_round ?_
    refine cgg ?_
    refine g_do rfl (o_eqi (xt rfl) xc (fun h9 => by omega) (fun _ => ?_))
    refine cgg ?_
    refine g_do rfl (o_eqi (xt rfl) xc (fun h9 => by omega) (fun _ => ?_))
    refine cgg ?_
    exact hQ _ _ p _ hv rfl (.cons rfl (.cons rfl (.cons rfl (.cons rfl (.cons rfl (.cons rfl (.cons rfl (.cons rfl (.cons rfl .nil)))))))))
  | @node R v w oo qq q' f id kk a hc hw hk34 ih =>
    intro p o hp ho hR hQ
    obtain ⟨kv, av, wv, sv, rfl, hwv, hsv⟩ := hc.form
    have hw' := hw
    obtain ⟨kw, aw, ww, sw, rfl, hww, hsw, hkw⟩ := hw'
    have hrow : Has fs (.row f id (2 * 10)) := hR _ (List.mem_cons_self ..)
    have hk : kw = 1 ∨ kw = 2 := by
      rcases hkw with h | h
      · exact Or.inl h.1
      · exact Or.inr h.1
    have fin : ∀ (p' : Nat) (e : Env), p' = p + q' → Sub e (eL n q0 o0 x9 x15 (p' : Int) ((o + 1 : Nat) : Int) i) → WL sW ftab lb5_1 143 e (.blk x15 (.cells (cmdA kv av wv sv)) :: fs) Q := fun p' e hp' hS => by
      subst hp'
      refine l_sub hS (fun _ h => h) (ih (p + q') (o + 1) (by omega) (by omega) (fun y hy => hR y (List.mem_cons_of_mem _ hy)) fun e v' p2 q2 h1 h2 h3 => ?_)
      rw [show o + 1 + oo = o + (oo + 1) by omega] at h3
      exact hQ e v' p2 q2 h1 (by omega) h3
    rcases hk34 with rfl | rfl
    all_goals
      refine l_round ?_
      refine cgg ?_
      refine w_block ?_
      refine cgg ?_
      refine g_do rfl (o_iaddr (xt rfl) xc ⟨by decide, by decide⟩ rfl ?_)
      refine g_if rfl (g_do rfl (o_faddrz (xt rfl) ?_))
      refine g_if rfl (g_do rfl (o_loadr (v := .int .i64 kw) (xt rfl) (.own (.there hrow)) rfl ?_))
      refine g_if rfl (g_do rfl (o_eqi (xt rfl) xc (fun h9 => by omega) (fun _ => ?_)))
      refine cgg ?_
      refine g_do rfl (o_iaddr (xt rfl) xc ⟨by decide, by decide⟩ rfl ?_)
      refine g_if rfl (g_do rfl (o_faddrz (xt rfl) ?_))
      refine g_if rfl (g_do rfl (o_loadr (v := .int .i64 kw) (xt rfl) (.own (.there hrow)) rfl ?_))
      refine g_if rfl (g_do rfl (o_eqi (xt rfl) xc (fun h9 => by omega) (fun _ => ?_)))
      refine cgg ?_
      refine g_do rfl (o_iaddr (xt rfl) xc ⟨by decide, by decide⟩ rfl ?_)
      refine g_do rfl (o_faddrz (xt rfl) ?_)
      refine g_do rfl (o_loadr (v := .int .i64 kw) (xt rfl) (.own (.there hrow)) rfl ?_)
      refine g_do rfl (o_eqi (xt rfl) xc (fun h9 => ?_) (fun h9 => ?_))
      · subst h9
        obtain ⟨cs, sr, rfl⟩ : ∃ cs sr, sw = .row cs (q' + 1) sr := by
          rcases hkw with h | h
          · exact absurd h.1 (by decide)
          · exact h.2
        refine cgg ?_
        refine g_do rfl (o_iaddr (xt rfl) xc ⟨by decide, by decide⟩ rfl ?_)
        refine g_do rfl (o_faddrz (xt rfl) ?_)
        refine g_do rfl (o_loadr (v := .row cs (q' + 1) sr) (xt rfl) (.own (.there hrow)) rfl ?_)
        refine cgg ?_
        refine g_do rfl (o_add (xt rfl) (xt rfl) (by constructor <;> omega) ?_)
        refine g_do rfl (o_sub (xt rfl) xc (by constructor <;> omega) ?_)
        rw [show ((p : Int) + ((q' + 1 : Nat) : Int) - 1) = ((p + q' : Nat) : Int) by omega]
        refine cgg ?_
        refine g_do rfl (o_add (xt rfl) xc (by constructor <;> omega) ?_)
        refine cgg ?_
        refine g_do rfl (o_iaddr (xt rfl) xc ⟨by decide, by decide⟩ rfl ?_)
        refine g_do rfl (o_loadr (v := .agg (cmdA kv av wv sv)) (xt rfl) (.own (.there hrow)) rfl ?_)
        refine g_do0 (o_store (cs' := cmdA kv av wv sv) (xt rfl) (xt rfl) .here ⟨rfl, (Nat.le_of_ble_eq_true rfl)⟩ (cmd_scalar hwv hsv) rfl ?_)
        refine cgg ?_
        exact fin _ _ rfl (.cons rfl (.cons rfl (.cons rfl (.cons rfl (.cons rfl (.cons rfl (.cons rfl (.cons rfl (.cons rfl .nil)))))))))
      · have hq : q' = 0 := by
          rcases hkw with h | h
          · exact h.2
          · exact absurd h.1 h9
        refine cgg ?_
        refine g_do rfl (o_add (xt rfl) xc (by constructor <;> omega) ?_)
        refine cgg ?_
        refine g_do rfl (o_iaddr (xt rfl) xc ⟨by decide, by decide⟩ rfl ?_)
        refine g_do rfl (o_loadr (v := .agg (cmdA kv av wv sv)) (xt rfl) (.own (.there hrow)) rfl ?_)
        refine g_do0 (o_store (cs' := cmdA kv av wv sv) (xt rfl) (xt rfl) .here ⟨rfl, (Nat.le_of_ble_eq_true rfl)⟩ (cmd_scalar hwv hsv) rfl ?_)
        refine cgg ?_
        exact fin p _ (by omega) (.cons rfl (.cons rfl (.cons rfl (.cons rfl (.cons rfl (.cons rfl (.cons rfl (.cons rfl (.cons rfl .nil)))))))))
theorem flat_drop : ∀ (L : List (List AV × Nat × Nat)) (i : Nat) (x : List AV × Nat × Nat), (∀ y ∈ L, y.1.length = 10) → L[i]? = some x → ∃ r, (L.flatMap (·.1)).drop (i * 10) = x.1 ++ r
  | [], i, x, h, hx => by simp at hx
  | y :: L, 0, x, h, hx => by
    have : y = x := by simpa using hx
    subst this
    exact ⟨L.flatMap (·.1), by simp⟩
  | y :: L, i + 1, x, h, hx => by
    obtain ⟨r, hr⟩ := flat_drop L i x (fun z hz => h z (List.mem_cons_of_mem _ hz)) (by simpa using hx)
    refine ⟨r, ?_⟩
    rw [List.flatMap_cons, show (i + 1) * 10 = 10 + i * 10 by omega, ← List.drop_drop, List.drop_left' (h y (List.mem_cons_self ..))]
    exact hr
theorem flat_apart {L : List (List AV × Nat × Nat)} {i : Nat} {x : List AV × Nat × Nat} (h : ∀ y ∈ L, y.1.length = 10) (hx : L[i]? = some x) : apart (L.flatMap (·.1)) (i * 10) (some 10) = some (.agg x.1) := by
  obtain ⟨r, hr⟩ := flat_drop L i x h hx
  have h1 : x.1.length = 10 := h x (List.mem_of_getElem? hx)
  have h2 := congrArg List.length hr
  rw [List.length_drop, List.length_append, h1] at h2
  simp only [apart]
  rw [if_pos (by omega), hr, List.take_left' h1]
theorem walk_loop {q0 o0 a : Int} {x9 f id q oo : Nat} {L : List (List AV × Nat × Nat)} {R : List Fact} {Q : AO → Env → List Fact → Prop} (h9 : Has fs (.blk x9 (.cells (cmdA 5 a .nilrow (.row (L.flatMap (·.1)) L.length ⟨f, id, 0, 10⟩))))) (hrow : Has fs (.row f id (L.length * 10))) (hR : ∀ y ∈ R, Has fs y) (hL : ∀ x ∈ L, ∃ R', Chain R' x.1 x.2.1 x.2.2 ∧ ∀ y ∈ R', y ∈ R) (hlen : L.length ≤ 1000) (hq : q ≤ 1000) (ho : oo ≤ 1000)
    (hQ : ∀ e, Sub e [(2, .bool false), (5, .int .i64 q0), (6, .int .i64 o0), (12, .int .i64 (q : Int)), (13, .int .i64 (oo : Int))] → Q (.exit 3) e fs) :
    ∀ (l : List (List AV × Nat × Nat)) (i p o : Nat), L.drop i = l → i ≤ L.length → p + (l.map (·.2.2)).sum = q → o + (l.map (·.2.1)).sum = oo →
    WL sW ftab lb5_2 143 [(2, .bool false), (4, .int .i64 (L.length : Int)), (5, .int .i64 q0), (6, .int .i64 o0), (9, .ptr x9 0), (12, .int .i64 (p : Int)), (13, .int .i64 (o : Int)), (14, .int .i64 (i : Int))] fs Q := by
  have h10 : ∀ y ∈ L, y.1.length = 10 := fun y hy => by
    obtain ⟨R', hc, _⟩ := hL y hy
    obtain ⟨_, _, _, _, h, _⟩ := hc.form
    rw [h]; rfl
  intro l
  induction l with
  | nil =>
    intro i p o hd hi hp1 ho1
    have hge : L.length ≤ i := List.drop_eq_nil_iff.1 hd
    have hp2 : p = q := by simpa using hp1
    have ho2 : o = oo := by simpa using ho1
    subst hp2
    subst ho2
    refine l_round ?_
    refine cgo ?_
    refine g_do rfl (o_lss (xt rfl) (xt rfl) (fun h => by omega) (fun h => ?_))
    refine cgo ?_
    exact hQ _ (.cons rfl (.cons rfl (.cons rfl (.cons rfl (.cons rfl .nil)))))
  | cons x l ih =>
    intro i p o hd hi hp1 ho1
    have h1 : L[i]? = some x := by
      have := congrArg List.head? hd
      rw [List.head?_drop] at this; simpa using this
    have h2 : L.drop (i + 1) = l := by
      have := congrArg List.tail hd
      simpa using this
    have h3 : i < L.length := (List.getElem?_eq_some_iff.1 h1).1
    rw [List.map_cons, List.sum_cons] at hp1 ho1
    obtain ⟨R', hc, hR'⟩ := hL x (List.mem_of_getElem? h1)
    obtain ⟨v, xo, xq⟩ := x
    obtain ⟨kk, b, ws, ss, hv, hw, hs⟩ := hc.form
    simp only at hv hp1 ho1 hc
    subst hv
    refine l_round ?_
    refine cgo ?_
    refine g_do rfl (o_lss (xt rfl) (xt rfl) (fun _ => ?_) (fun h => by omega))
    refine cgo ?_
    refine w_block ?_
    refine cgo ?_
    refine g_do rfl (o_load (xt rfl) h9 rfl ?_)
    refine cgo ?_
    refine g_do rfl (o_iaddr (xt rfl) (xt rfl) ⟨by omega, by omega⟩ rfl ?_)
    refine g_do rfl (o_loadr (v := .agg (cmdA kk b ws ss)) (xt rfl) (.own hrow) ?_ ?_)
    · rw [Int.toNat_natCast]
      exact flat_apart (x := (cmdA kk b ws ss, xo, xq)) h10 h1
    refine g_do rfl (o_box xc rfl fun x15 => ?_)
    refine g_do0 (o_store (cs' := cmdA kk b ws ss) (xt rfl) (xt rfl) .here ⟨rfl, (Nat.le_of_ble_eq_true rfl)⟩ (cmd_scalar hw hs) rfl ?_)
    refine cgo ?_
    refine w_block (w_loop ?_)
    refine l_sub (e' := eL (L.length : Int) q0 o0 x9 x15 p o i) (.cons rfl (.cons rfl (.cons rfl (.cons rfl (.cons rfl (.cons rfl (.cons rfl (.cons rfl (.cons rfl .nil))))))))) (fun _ h => h) ?_
    refine chain_loop hc p o (by omega) (by omega) (fun y hy => hR y (hR' y hy)) fun e v' p' q' hv' hpq hS => ?_
    refine w_sub hS (fun _ h => h) ?_
    obtain ⟨kw, aw, ww, sw, rfl, hww, hsw, hkw⟩ := hv'
    have fin : ∀ (e : Env), Sub e [(2, .bool false), (4, .int .i64 (L.length : Int)), (5, .int .i64 q0), (6, .int .i64 o0), (9, .ptr x9 0), (12, .int .i64 ((p' + q' : Nat) : Int)), (13, .int .i64 ((o + xo : Nat) : Int)), (14, .int .i64 ((i + 1 : Nat) : Int))] → WL sW ftab lb5_2 143 e (.blk x15 (.cells (cmdA kw aw ww sw)) :: fs) Q := fun e hS =>
      l_sub hS (fun _ hh => hh.mono (.cons _ (.refl _))) (ih (i + 1) (p' + q') (o + xo) h2 (by omega) (by omega) (by omega))
    refine cgg ?_
    refine g_do rfl (o_eqi (xt rfl) xc (fun hk => ?_) (fun hk => ?_))
    · subst hk
      obtain ⟨cs, sr, rfl⟩ : ∃ cs sr, sw = .row cs (q' + 1) sr := by
        rcases hkw with h | h
        · exact absurd h.1 (by decide)
        · exact h.2
      refine cgg ?_
      refine g_do rfl (o_add (xt rfl) (xt rfl) (by constructor <;> omega) ?_)
      refine g_do rfl (o_sub (xt rfl) xc (by constructor <;> omega) ?_)
      rw [show ((p' : Int) + ((q' + 1 : Nat) : Int) - 1) = ((p' + q' : Nat) : Int) by omega]
      refine cgg ?_
      refine g_do rfl (o_add (xt rfl) xc (by constructor <;> omega) ?_)
      refine cgg ?_
      exact fin _ (.cons rfl (.cons rfl (.cons rfl (.cons rfl (.cons rfl (.cons rfl (.cons rfl (.cons rfl .nil))))))))
    · have hq0 : q' = 0 := by
        rcases hkw with h | h
        · exact h.2
        · exact absurd h.1 hk
      subst hq0
      refine cgg ?_
      refine g_do rfl (o_add (xt rfl) xc (by constructor <;> omega) ?_)
      refine cgg ?_
      exact fin _ (.cons rfl (.cons rfl (.cons rfl (.cons rfl (.cons rfl (.cons rfl (.cons rfl (.cons rfl .nil))))))))
theorem lists_ev {v : AV} {M : List Int} (hm : RI 1 v (M.map (.int .i64 ·)) M.length) (hM : M.length ≤ maxLen) : Ev sW ftab 5 [v] [] fun r _ => r = .bool true := by
  refine ev_fn (nt := 143) (kb := kb5) (kr := kr5) rfl rfl (Nat.le_of_ble_eq_true rfl) ?_
  refine cgo ?_
  refine w_block (w_loop ?_)
  refine l_sub (e' := [(0, v), (2, .bool false), (3, .str (textL [])), (4, .int .i64 ((nS [] + 1 : Nat) : Int)), (5, .int .i64 (nP [] : Int)), (6, .int .i64 (nO [] : Int)), (7, .int .i64 (([] : List Nat).length : Int))]) (.cons rfl (.cons rfl (.cons rfl (.cons rfl (.cons rfl (.cons rfl (.cons rfl .nil))))))) (fun _ h => h) ?_
  refine make_loop hm hM (fun e ks hks hS => ?_) 15 [] rfl (by simp)
  refine w_sub hS (fun _ h => h) ?_
  have hl := tl_len ks
  have hsz : (textL ks).size = 1 + (tl ks).length := by rw [mkT_size, List.length_cons]; omega
  have hat : Plc (textL ks) 0 (120 :: tl ks) := ⟨mk_list _, by omega, by omega⟩
  have hn := n_le ks
  refine cgo ?_
  refine g_do rfl (o_call (.cons (xt rfl) .nil) (parse_l hat (by omega) (by omega) fun R u n o q hsc he => ?_))
  obtain ⟨R', cs, f, id, a, rfl, rfl, L, rfl, hL1, hL2, hL3, hL4⟩ := hsc
  have e1 : nS ks = n := he.s
  have e2 : nO ks = o := he.o
  have e3 : nP ks = q := he.p
  rw [List.append_nil]
  refine cgo ?_
  refine g_do rfl (o_box xc rfl fun x9 => ?_)
  refine cgo ?_
  refine cgg ?_
  refine g_do rfl (o_nei (xt rfl) (xt rfl) (fun _ => ?_) (fun h9 => by omega))
  refine cgg ?_
  refine w_block (w_loop ?_)
  rw [e1, hL1]
  refine l_sub (e' := [(2, .bool false), (4, .int .i64 (L.length : Int)), (5, .int .i64 (nP ks : Int)), (6, .int .i64 (nO ks : Int)), (9, .ptr x9 0), (12, .int .i64 ((0 : Nat) : Int)), (13, .int .i64 ((0 : Nat) : Int)), (14, .int .i64 ((0 : Nat) : Int))]) (.cons rfl (.cons rfl (.cons rfl (.cons rfl (.cons rfl (.cons rfl (.cons rfl (.cons rfl .nil)))))))) (fun _ h => h) ?_
  refine walk_loop (f := f) (id := id) (R := R') (L := L) (q := q) (oo := o) (a := a) .here (.there .here) (fun y hy => .there (.there (Has.ofMem hy))) hL4 (by omega) (by omega) (by omega) (fun e hS => ?_) L 0 0 0 rfl (by omega) (by omega) (by omega)
  refine w_sub hS (fun _ h => h) ?_
  refine cgo ?_
  refine g_do rfl (o_eqi (xt rfl) (xt rfl) (fun _ => ?_) (fun h9 => by omega))
  refine cgo ?_
  refine g_do rfl (o_eqi (xt rfl) (xt rfl) (fun _ => ?_) (fun h9 => by omega))
  refine cgo ?_
  refine g_do rfl (o_call .nil (awake_ev ?_))
  refine cgo ?_
  exact ⟨trivial, _, _, .one (.tmp rfl), .refl _, rfl⟩
set_option maxRecDepth 100000 in
theorem SyntaxLists_true (a0 : AV) (w0 : Sh Try.prog 9 23 [a0]) : ∃ k, (aeval sW ftab k 5 [a0] h0).map (·.1) = some (.bool true) := by
  obtain ⟨v, M, e1, hm, hN, hw⟩ := sh_ints (d := 7) Try.underlying23 Try.underlying3 (by kernel_rfl) w0
  obtain rfl : a0 = v := by simpa using e1
  exact ev_true (lists_ev hm hN)
end Go.Proofs.Ytadohhhjpbhhoaa.EvA
