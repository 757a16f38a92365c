/- SyntaxLong: a script of as many bytes as the bound says is read; one of more is not. -/
import Derived.Test.YtadohhhjpbhhoaaSx
import Derived.Test.YtadohhhjpbhhoaaEvLg
import Derived.Test.YtadohhhjpbhhoaaEvBits
namespace Go.Proofs.Ytadohhhjpbhhoaa.EvA
attribute [local irreducible] oMove oPick oBox oBuild oRow oRowZ oLoad oStore oNil oArith oEq oEqS oShr oShl oNot oNeg oConv oFn oMfn oMin oMax oCutstr oCutrow oFaddr oField oIaddr oIaddrA oIdx oExtract oLenS oLenR oLenM oAppend oCall oCallv oMap oLookup oSet oDelete kDo kDo0 kIf kEl kClr oMake oText kEnd kReg kSeq kCond kBlock kLoop kSkip kExit kRet xT xC xF kFl kIp sDo sDo0 sIf gVal
set_option linter.unusedVariables false
set_option linter.unusedSimpArgs false
set_option maxHeartbeats 4000000
variable {fs fs' : List Fact}
abbrev pC (i : Nat) : List AV := [.int .i64 1, .int .i64 0, .bool false, .str (xs i), .str ⟨#[]⟩, .int .i64 0, .bool false, .nilrow, .nilrow]
abbrev pR (i f id : Nat) : AV := .row (pC i) 1 ⟨f, id, 0, 9⟩
theorem lit1 {r : Nat} {fs' : Nat → Nat → List Fact} (hp : ∀ f id, Put fs (.blk r (.cells (rB .nilrow))) (.blk r (.cells (rB (pR 1 f id)))) (fs' f id)) {K : KK} (h : ∀ f id, K (.tup []) (.row f id (1 * 9) :: fs' f id)) : Ev sW ftab 56 [.ptr r 0, .str (xs 1), .bool false, .int .i64 0] fs K := by
  refine ev_fn (nt := 91) (kb := kb56) (kr := kr56) rfl rfl (Nat.le_of_ble_eq_true rfl) ?_
  refine cgo ?_
  refine g_do rfl (o_load (xt rfl) (hp 0 0).has rfl ?_)
  refine cgg ?_
  refine g_ip rfl ?_
  refine hgo ?_
  refine h_do rfl (o_load (xt rfl) (hp 0 0).has rfl ?_)
  refine hgo ?_
  refine h_do rfl (o_build (.cons xc (.cons (xt rfl) (.cons (xt rfl) (.cons (xt rfl) .nil)))) rfl ?_)
  refine hgo ?_
  refine h_do rfl (o_row (cs := [.int .i64 0, .int .i64 0, .bool false, .str ⟨#[]⟩, .str ⟨#[]⟩, .int .i64 0, .bool false, .nilrow, .nilrow]) (.cons xc .nil) rfl rfl fun f0 id0 => ?_)
  refine h_do rfl (o_appn (xt rfl) (.own (xt rfl) .here rfl) rfl (by decide) ⟨by decide, by decide⟩ fun f id => ?_)
  refine h_do rfl (o_iaddr (xt rfl) (xt rfl) ⟨by decide, by decide⟩ rfl ?_)
  refine hgo ?_
  refine h_end ?_
  refine ⟨_, rfl, i_el (k := 51) (m := 1 * 9) (fs1 := fun id' => .row f id' (0 + 9) :: .row f0 id0 (1 * 9) :: fs) (xt rfl) (xt rfl) rfl rfl (by decide) (by decide) rfl (fun _ => .here) fun id' _ => ?_⟩
  refine o_store (xt rfl) (xt rfl) (.there (.there (hp f id'))) ⟨rfl, (Nat.le_of_ble_eq_true rfl)⟩ rfl rfl ?_
  refine cgo ?_
  exact ⟨trivial, _, .row f id' (1 * 9) :: fs' f id', .one .none, .cons_cons _ (.cons _ (.refl _)), h f id'⟩
theorem lit2 {r f id i : Nat} {v : Int} {fs1 fs' : Nat → List Fact} (h1 : 1 ≤ i) (hi : i ≤ 20000) (hp : ∀ id', Put fs (.row f id (1 * 9)) (.row f id' (1 * 9)) (fs1 id')) (hb : Has fs (.blk r (.cells (rB (pR i f id))))) (hq : ∀ id', Put (fs1 id') (.blk r (.cells (rB (pR i f id)))) (.blk r (.cells (rB (pR (i + 1) f id')))) (fs' id')) {K : KK} (h : ∀ id', K (.tup []) (fs' id')) : Ev sW ftab 56 [.ptr r 0, .str (xs 1), .bool false, .int .i64 v] fs K := by
  have hrow := (hp 0).has
  have hsz := xs_size i
  refine ev_fn (nt := 91) (kb := kb56) (kr := kr56) rfl rfl (Nat.le_of_ble_eq_true rfl) ?_
  refine cgo ?_
  refine g_do rfl (o_load (xt rfl) hb rfl ?_)
  refine cgg ?_
  refine g_do rfl (o_load (xt rfl) hb rfl ?_)
  refine cgo ?_
  refine g_do rfl (o_sub (xt rfl) xc (by constructor <;> decide) ?_)
  refine g_if rfl ?_
  refine g_do rfl (o_iaddr (xt rfl) (xt rfl) ⟨by decide, by decide⟩ rfl ?_)
  refine g_if rfl (g_do rfl (o_faddrz (xt rfl) ?_))
  refine cgo ?_
  refine g_do rfl (o_loadr (v := .int .i64 1) (xt rfl) (.own hrow) rfl ?_)
  refine cgg ?_
  refine g_do rfl (o_load (xt rfl) hb rfl ?_)
  refine cgo ?_
  refine g_do rfl (o_sub (xt rfl) xc (by constructor <;> decide) ?_)
  refine g_if rfl ?_
  refine g_do rfl (o_iaddr (xt rfl) (xt rfl) ⟨by decide, by decide⟩ rfl ?_)
  refine g_if rfl (g_do rfl (o_faddrz (xt rfl) ?_))
  refine cgo ?_
  refine g_do rfl (o_loadr (v := .bool false) (xt rfl) (.own hrow) rfl ?_)
  refine cgo ?_
  refine g_do rfl (o_nebv (xt rfl) (xt rfl) ?_)
  rw [bne_self_eq_false]
  refine cgo ?_
  refine g_do rfl (o_load (xt rfl) hb rfl ?_)
  refine cgo ?_
  refine g_do rfl (o_sub (xt rfl) xc (by constructor <;> decide) ?_)
  refine g_do rfl (o_iaddr (xt rfl) (xt rfl) ⟨by decide, by decide⟩ rfl ?_)
  refine g_do rfl (o_faddrz (xt rfl) ?_)
  refine cgo ?_
  refine g_do rfl (o_loadr (v := .str (xs i)) (xt rfl) (.own hrow) rfl ?_)
  refine g_do rfl (o_eqs (xt rfl) xc (fun he => ?_) (fun _ => ?_))
  · have := congrArg ByteArray.size he
    rw [xs_size] at this
    have h2 : (⟨#[]⟩ : ByteArray).size = 0 := rfl
    omega
  refine cgo ?_
  refine g_do rfl (o_load (xt rfl) hb rfl ?_)
  refine cgo ?_
  refine g_do rfl (o_sub (xt rfl) xc (by constructor <;> decide) ?_)
  refine g_do rfl (o_iaddr (xt rfl) (xt rfl) ⟨by decide, by decide⟩ rfl ?_)
  refine g_do rfl (o_faddrz (xt rfl) ?_)
  refine cgo ?_
  refine g_do rfl (o_loadr (v := .str (xs i)) (xt rfl) (.own hrow) rfl ?_)
  refine cgo ?_
  refine g_do rfl (o_cat (xt rfl) (xt rfl) (by rw [xs_size, xs_size]; omega) ?_)
  rw [xs_app]
  refine g_do rfl (o_iaddr (xt rfl) (xt rfl) ⟨by decide, by decide⟩ rfl ?_)
  refine g_do rfl (o_faddrz (xt rfl) ?_)
  refine cgo ?_
  refine g_own hrow fun hf => ?_
  refine g_elh (m := 1 * 9) (s := ⟨f, id, 0, 9⟩) (cs := pC i) (off := 3) (fs1 := fs1) (fs' := fs') (xt rfl) (xt rfl) (xt rfl) hb rfl (by decide) (by show 4 ≤ 9; decide) rfl hp (fun id' => ?_) fun id' _ => ?_
  · have hm : (rB (pR i f id)).map (swapV id 0 (pC i).length 9 ⟨f, id', 0, 9⟩ ((pC i).take 3 ++ (AV.str (xs (i + 1))).cells ++ (pC i).drop (3 + 1))) = rB (pR (i + 1) f id') := by
      show swapV id 0 (pC i).length 9 _ _ (.row (pC i) 1 ⟨f, id, 0, 9⟩) :: _ = _
      rw [swap_eq (s := ⟨f, id, 0, 9⟩) hf]; rfl
    show Put (fs1 id') _ (.blk r (.cells ((rB (pR i f id)).map (swapV id 0 (pC i).length 9 ⟨f, id', 0, 9⟩ ((pC i).take 3 ++ (AV.str (xs (i + 1))).cells ++ (pC i).drop (3 + 1)))))) _
    rw [hm]; exact hq id'
  refine cgo ?_
  exact ⟨trivial, _, fs' id', .one .none, .refl _, h id'⟩
theorem plain_x {n p r i : Nat} {dp : Int} {tok l : AV} {st : Bool} (hi : i < n) (hn : n ≤ 20000) (hp : Has fs (.blk p (.cells (pB n i dp tok st)))) (hr : Has fs (.blk r (.cells (rB l)))) {K : KK}
    (h : Ev sW ftab 56 [.ptr r 0, .str (xs 1), .bool false, .int .i64 (i : Int)] fs fun _ fs2 => ∃ fs3, Put fs2 (.blk p (.cells (pB n i dp tok st))) (.blk p (.cells (pB n ((i + 1 : Nat) : Int) dp tok st))) fs3 ∧ K (.tup []) fs3) : Ev sW ftab 40 [.ptr p 0, .ptr r 0] fs K := by
  have hsz := xs_size n
  have cut : (xs n).extract ((i : Nat) : Int).toNat ((i : Int) + 1).toNat = xs 1 := by
    rw [show ((i : Int) + 1).toNat = i + 1 by omega, Int.toNat_natCast, xs_cut (by omega)]; congr 1; omega
  refine ev_fn (nt := 37) (kb := kb40) (kr := kr40) rfl rfl (Nat.le_of_ble_eq_true rfl) ?_
  refine cgo ?_
  refine g_fl ?_
  refine hgo ?_
  refine h_do rfl (o_load (xt rfl) hp rfl ?_)
  refine hgo ?_
  refine h_do rfl (o_load (xt rfl) hp rfl ?_)
  refine hgo ?_
  refine h_do rfl (o_load (xt rfl) hp rfl ?_)
  refine h_do rfl (o_add (xt rfl) xc (by constructor <;> omega) ?_)
  refine h_do rfl (o_cutlh (xt rfl) (xt rfl) (xt rfl) ⟨by omega, by omega, by rw [hsz]; omega⟩ ?_)
  rw [cut]
  refine hgo ?_
  refine h_do rfl (o_load (xt rfl) hr rfl ?_)
  refine hgo ?_
  refine h_do rfl (o_load (xt rfl) hp rfl ?_)
  refine h_do rfl (o_call (.cons (xt rfl) (.cons (xt rfl) .nil)) (from_x hr ?_))
  refine h_do rfl (o_call (.cons (xt rfl) (.cons (xt rfl) (.cons (xt rfl) (.cons (xt rfl) .nil)))) (ev_mono h fun u fs2 hu => ?_))
  obtain ⟨fs3, hP, hK⟩ := hu
  refine h_end ?_
  refine ⟨.cons rfl (.cons rfl (o_load (xt rfl) hr rfl rfl) .nil) (.cons rfl (.cons rfl (o_cutlh (xt rfl) (xt rfl) (xt rfl) ⟨by omega, by omega, by rw [hsz]; omega⟩ (by rw [cut])) .nil) (.cons rfl (.cons rfl (o_load (xt rfl) hp rfl rfl) .nil) (.cons rfl (.cons rfl (o_load (xt rfl) hp rfl rfl) .nil) (.cons rfl (.cons rfl (o_load (xt rfl) hp rfl rfl) .nil) .nil)))), _, rfl, ?_⟩
  refine cgo ?_
  refine g_do rfl (o_load (xt rfl) hP.has rfl ?_)
  refine g_do rfl (o_add (xt rfl) xc (by constructor <;> omega) ?_)
  refine cgo ?_
  refine g_do0 (o_store (xt rfl) (xt rfl) hP ⟨rfl, (Nat.le_of_ble_eq_true rfl)⟩ rfl rfl ?_)
  refine cgo ?_
  exact ⟨trivial, _, fs3, .one .none, .refl _, hK⟩
/-- A round: one byte more. -/
theorem parts_round {n p r i : Nat} {dp : Int} {tok l : AV} {st : Bool} {Q : AO → Env → List Fact → Prop} (hi : i < n) (hn : n ≤ 20000) (hp : Has fs (.blk p (.cells (pB n i dp tok st)))) (hr : Has fs (.blk r (.cells (rB l))))
    (h : Ev sW ftab 56 [.ptr r 0, .str (xs 1), .bool false, .int .i64 (i : Int)] fs fun _ fs2 => ∃ fs3, Put fs2 (.blk p (.cells (pB n i dp tok st))) (.blk p (.cells (pB n ((i + 1 : Nat) : Int) dp tok st))) fs3 ∧ ∀ e, Sub e [(0, .ptr p 0), (1, .ptr r 0)] → WL sW ftab lb31_0 66 e fs3 Q) :
    WL sW ftab lb31_0 66 [(0, .ptr p 0), (1, .ptr r 0)] fs Q := by
  refine l_round ?_
  refine cgo ?_
  refine g_do rfl (o_call (.cons (xt rfl) (.cons (xt rfl) .nil)) (more_x hi hp hr ?_))
  refine cgo ?_
  refine w_block ?_
  refine cgo ?_
  refine g_do rfl (o_mfn (.cons (xt rfl) .nil) ?_)
  refine cgo ?_
  refine g_do rfl (o_load (xt rfl) hp rfl ?_)
  refine cgo ?_
  refine g_do rfl (o_load (xt rfl) hp rfl ?_)
  refine g_do rfl (o_idx (b := 120) (xt rfl) (xt rfl) (by omega) (by rw [Int.toNat_natCast]; exact xs_get hi) ?_)
  refine cgo ?_
  refine w_block ?_
  refine cgg ?_
  refine g_do rfl (o_callm (xt rfl) (.cons (xt rfl) .nil) (plain_x hi hn hp hr (ev_mono h fun u fs2 hu => ?_)))
  obtain ⟨fs3, h1, h2⟩ := hu
  refine ⟨fs3, h1, ?_⟩
  refine cgo ?_
  exact h2 _ (.cons rfl (.cons rfl .nil))
theorem parts_loop {n p r f : Nat} {dp : Int} {tok : AV} {st : Bool} {Q : AO → Env → List Fact → Prop} (hn : n ≤ 20000) (hQ : ∀ e id, Q (.exit 0) e (.row f id (1 * 9) :: .blk r (.cells (rB (pR n f id))) :: .blk p (.cells (pB n n dp tok st)) :: fs)) :
    ∀ (k i id : Nat), i + k = n → 1 ≤ i → WL sW ftab lb31_0 66 [(0, .ptr p 0), (1, .ptr r 0)] (.row f id (1 * 9) :: .blk r (.cells (rB (pR i f id))) :: .blk p (.cells (pB n i dp tok st)) :: fs) Q
  | 0, i, id, hi, h1 => by
    obtain rfl : i = n := by omega
    refine l_round ?_
    refine cgo ?_
    refine g_do rfl (o_call (.cons (xt rfl) (.cons (xt rfl) .nil)) (more_n (c := []) (.there (.there .here)) ?_))
    refine cgo ?_
    exact hQ _ id
  | k + 1, i, id, hi, h1 => by
    refine parts_round (i := i) (by omega) hn (.there (.there .here)) (.there .here) (lit2 (f := f) (id := id) (fs1 := fun id' => .row f id' (1 * 9) :: .blk r (.cells (rB (pR i f id))) :: .blk p (.cells (pB n i dp tok st)) :: fs) (fs' := fun id' => .row f id' (1 * 9) :: .blk r (.cells (rB (pR (i + 1) f id'))) :: .blk p (.cells (pB n i dp tok st)) :: fs) h1 (by omega) (fun _ => .here) (.there .here) (fun _ => .there .here) fun id' => ?_)
    refine ⟨_, .there (.there .here), fun e hS => l_sub hS (fun _ h => h) (parts_loop hn hQ k (i + 1) id' (by omega) (by omega))⟩
theorem parts_x {n p r : Nat} {dp : Int} {tok : AV} {st : Bool} (h0 : 0 < n) (hn : n ≤ 20000) {K : KK} (h : ∀ f id, K (.tup []) (.row f id (1 * 9) :: .blk r (.cells (rB (pR n f id))) :: .blk p (.cells (pB n n dp tok st)) :: fs)) : Ev sW ftab 31 [.ptr p 0, .ptr r 0] (.blk r (.cells (rB .nilrow)) :: .blk p (.cells (pB n 0 dp tok st)) :: fs) K := by
  refine ev_fn (nt := 66) (kb := kb31) (kr := kr31) rfl rfl (Nat.le_of_ble_eq_true rfl) ?_
  refine w_block (w_loop ?_)
  refine l_sub (e' := [(0, .ptr p 0), (1, .ptr r 0)]) (.cons rfl (.cons rfl .nil)) (fun _ h => h) ?_
  refine parts_round (i := 0) h0 hn (.there .here) .here (lit1 (fs' := fun f id => .blk r (.cells (rB (pR 1 f id))) :: .blk p (.cells (pB n 0 dp tok st)) :: fs) (fun _ _ => .here) fun f id => ?_)
  refine ⟨_, .there (.there .here), fun e hS => l_sub hS (fun _ h => h) (parts_loop hn (fun e id => ?_) (n - 1) 1 id (by omega) (by omega))⟩
  exact ⟨trivial, _, _, .one .none, .refl _, h f id⟩
theorem word_x {n p : Nat} {dp : Int} {tok : AV} {st : Bool} (h0 : 0 < n) (hn : n ≤ 20000) {K : KK} (h : ∀ f id, K (.agg [.int .i64 0, pR n f id]) (.row f id (1 * 9) :: .blk p (.cells (pB n n dp tok st)) :: fs)) : Ev sW ftab 18 [.ptr p 0] (.blk p (.cells (pB n 0 dp tok st)) :: fs) K := by
  refine ev_fn (nt := 37) (kb := kb18) (kr := kr18) rfl rfl (Nat.le_of_ble_eq_true rfl) ?_
  refine cgo ?_
  refine g_do rfl (o_box xc rfl fun x2 => ?_)
  refine cgo ?_
  refine g_do rfl (o_box xc rfl fun x3 => ?_)
  refine cgo ?_
  refine g_do rfl (o_call (.cons (xt rfl) (.cons (xt rfl) .nil)) (byteat_x h0 ?_))
  refine cgg ?_
  refine g_do rfl (o_box (xt rfl) rfl fun r => ?_)
  refine cgo ?_
  refine g_sub (e' := [(28, .ptr p 0), (29, .ptr r 0), (0, .ptr p 0), (2, .ptr x2 0), (3, .ptr x3 0), (4, .ptr r 0)]) (fs' := .blk r (.cells (rB .nilrow)) :: .blk p (.cells (pB n 0 dp tok st)) :: .blk x3 (.cells [.int .i64 0, .nilrow]) :: .blk x2 (.cells [.int .i64 0, .nilrow]) :: fs) (.cons rfl (.cons rfl (.cons rfl (.cons rfl (.cons rfl (.cons rfl .nil)))))) (fun _ hh => ?_) ?_
  · exact hh.perm (((List.perm_append_comm (l₁ := [_, _]) (l₂ := [_])).append_right fs).cons _)
  refine cgo ?_
  refine g_do rfl (o_call (.cons (xt rfl) (.cons (xt rfl) .nil)) (parts_x h0 hn fun f id => ?_))
  refine cgo ?_
  exact ⟨trivial, _, .row f id (1 * 9) :: .blk p (.cells (pB n n dp tok st)) :: fs, .one (.cell rfl (.there (.there (.there (.there .here)))) rfl), .cons_cons _ (.cons _ (.cons_cons _ (.cons _ (.cons _ (.refl _))))), h f id⟩
theorem next_x {n p k : Nat} {dp : Int} {st : Bool} (h0 : 0 < n) (hn : n ≤ 20000) (hk : Has fs (.blk k (.cells (tW n)))) {K : KK} (h : ∀ f id, K (.agg [.int .i64 0, pR n f id]) (.row f id (1 * 9) :: .blk p (.cells (pB n n dp .nilptr false)) :: fs)) : Ev sW ftab 95 [.ptr p 0] (.blk p (.cells (pB n 0 dp (.ptr k 0) st)) :: fs) K := by
  refine ev_fn (nt := 13) (kb := kb95) (kr := kr95) rfl rfl (Nat.le_of_ble_eq_true rfl) ?_
  refine cgo ?_
  refine g_do rfl (o_box xc rfl fun x2 => ?_)
  refine cgo ?_
  refine g_do rfl (o_call (.cons (xt rfl) .nil) (peekT (.there .here) (.there (.there hk)) rfl ?_))
  refine cgo ?_
  refine g_do0 (o_store (xt rfl) xc (.there .here) ⟨rfl, (Nat.le_of_ble_eq_true rfl)⟩ rfl rfl ?_)
  refine cgo ?_
  refine g_do0 (o_store (xt rfl) xc (.there .here) ⟨rfl, (Nat.le_of_ble_eq_true rfl)⟩ rfl rfl ?_)
  refine cgo ?_
  refine g_do rfl (o_call (.cons (xt rfl) .nil) (Ev.perm (.swap ..) (word_x h0 hn fun f id => ?_)))
  refine cgo ?_
  exact ⟨trivial, _, .row f id (1 * 9) :: .blk p (.cells (pB n n dp .nilptr false)) :: fs, .one (.cell rfl (.there (.there .here)) rfl), .cons_cons _ (.cons_cons _ (.cons _ (.refl _))), h f id⟩
theorem letter_x {K : KK} (h : K (.bool true) fs) : Ev sW ftab 74 [.int .u8 120] fs K := by
  refine ev_fn (nt := 21) (kb := kb74) (kr := kr74) rfl rfl (Nat.le_of_ble_eq_true rfl) ?_
  refine cgg ?_
  exact ⟨trivial, _, fs, .one (.tmp rfl), .refl _, h⟩
theorem namelen_loop {n : Nat} (hn : n ≤ 20000) {Q : AO → Env → List Fact → Prop} (hQ : ∀ e, Sub e [(5, .int .i64 (n : Int))] → Q (.exit 0) e fs) : ∀ (r i : Nat), i + r = n → WL sW ftab lb62_0 46 [(0, .str (xs n)), (1, .int .i64 0), (5, .int .i64 (i : Int))] fs Q
  | 0, i, hi => by
    have hsz := xs_size n
    obtain rfl : i = n := by omega
    refine l_round ?_
    refine cgo ?_
    refine g_do rfl (o_add (xt rfl) (xt rfl) (by constructor <;> omega) ?_)
    rw [Int.zero_add]
    refine cgo ?_
    refine g_do rfl (o_lss (xt rfl) (xt rfl) (fun h => by omega) (fun h => ?_))
    refine cgo ?_
    exact hQ _ (.cons rfl .nil)
  | r + 1, i, hi => by
    have hsz := xs_size n
    refine l_round ?_
    refine cgo ?_
    refine g_do rfl (o_add (xt rfl) (xt rfl) (by constructor <;> omega) ?_)
    rw [Int.zero_add]
    refine cgo ?_
    refine g_do rfl (o_lss (xt rfl) (xt rfl) (fun h => ?_) (fun h => by omega))
    refine cgo ?_
    refine g_do rfl (o_add (xt rfl) (xt rfl) (by constructor <;> omega) ?_)
    rw [Int.zero_add]
    refine g_if rfl ?_
    refine g_do rfl (o_idx (b := 120) (xt rfl) (xt rfl) (by omega) (by rw [Int.toNat_natCast]; exact xs_get (by omega)) ?_)
    refine g_if rfl ?_
    refine g_do rfl (o_call (.cons (xt rfl) .nil) (letter_x ?_))
    refine cgo ?_
    refine w_block ?_
    refine cgo ?_
    refine g_do rfl (o_add (xt rfl) xc (by constructor <;> omega) ?_)
    refine cgo ?_
    refine l_sub (e' := [(0, .str (xs n)), (1, .int .i64 0), (5, .int .i64 ((i + 1 : Nat) : Int))]) (.cons rfl (.cons rfl (.cons rfl .nil))) (fun _ h => h) ?_
    exact namelen_loop hn hQ r (i + 1) (by omega)
theorem namelen_x {n : Nat} (h0 : 0 < n) (hn : n ≤ 20000) {K : KK} (h : K (.int .i64 (n : Int)) fs) : Ev sW ftab 62 [.str (xs n), .int .i64 0] fs K := by
  have hsz := xs_size n
  refine ev_fn (nt := 46) (kb := kb62) (kr := kr62) rfl rfl (Nat.le_of_ble_eq_true rfl) ?_
  refine cgg ?_
  refine g_do rfl (o_geq (xt rfl) (xt rfl) (fun h9 => by omega) (fun _ => ?_))
  refine cgo ?_
  refine g_do rfl (o_idx (b := 120) (xt rfl) (xt rfl) (by decide) (xs_get h0) ?_)
  refine g_if rfl ?_
  refine g_do rfl (o_call (.cons (xt rfl) .nil) (letter_x ?_))
  refine cgo ?_
  refine w_block (w_loop ?_)
  refine l_sub (e' := [(0, .str (xs n)), (1, .int .i64 0), (5, .int .i64 ((1 : Nat) : Int))]) (.cons rfl (.cons rfl (.cons rfl .nil))) (fun _ h => h) ?_
  refine namelen_loop hn (fun e hS => ?_) (n - 1) 1 (by omega)
  refine w_sub hS (fun _ h => h) ?_
  refine cgo ?_
  exact ⟨trivial, _, fs, .one (.tmp rfl), .refl _, h⟩
theorem assign_x {n f id : Nat} (h0 : 0 < n) (hn : n ≤ 20000) (hrow : Has fs (.row f id (1 * 9))) {K : KK} (h : K (.tup [.agg [.int .i64 0, .str ⟨#[]⟩, .nilrow], .bool false]) fs) : Ev sW ftab 96 [.agg [.int .i64 0, pR n f id]] fs K := by
  have hsz := xs_size n
  refine ev_fn (nt := 75) (kb := kb96) (kr := kr96) rfl rfl (Nat.le_of_ble_eq_true rfl) ?_
  refine cgo ?_
  refine g_do rfl (o_box (xt rfl) rfl fun x1 => ?_)
  refine g_do rfl (o_box xc rfl fun x2 => ?_)
  refine cgg ?_
  refine g_do rfl (o_iaddr (xt rfl) xc ⟨by decide, by decide⟩ rfl ?_)
  refine g_if rfl (g_do rfl (o_faddrz (xt rfl) ?_))
  refine g_if rfl (g_do rfl (o_loadr (v := .int .i64 1) (xt rfl) (.own (.there (.there hrow))) rfl ?_))
  refine cgg ?_
  refine g_do rfl (o_iaddr (xt rfl) xc ⟨by decide, by decide⟩ rfl ?_)
  refine g_if rfl (g_do rfl (o_faddrz (xt rfl) ?_))
  refine g_if rfl (g_do rfl (o_loadr (v := .bool false) (xt rfl) (.own (.there (.there hrow))) rfl ?_))
  refine cgo ?_
  refine g_do rfl (o_iaddr (xt rfl) xc ⟨by decide, by decide⟩ rfl ?_)
  refine g_do rfl (o_loadr (v := .agg (pC n)) (xt rfl) (.own (.there (.there hrow))) rfl ?_)
  refine g_do rfl (o_box xc rfl fun x4 => ?_)
  refine cgo ?_
  refine g_do rfl (o_call (.cons (xt rfl) (.cons xc .nil)) (namelen_x h0 hn ?_))
  refine cgo ?_
  refine g_do rfl (o_eqi (xt rfl) xc (fun h9 => by omega) (fun _ => ?_))
  refine cgo ?_
  refine g_do rfl (o_cutl (xt rfl) (xt rfl) ⟨by omega, by omega⟩ ?_)
  rw [Int.toNat_natCast, hsz, xs_cut (by omega), Nat.sub_self]
  refine g_if rfl ?_
  refine g_do rfl (o_call (.cons (xt rfl) (.cons xc .nil)) (hp_x (k := 0) (b := 61) rfl (by decide) ?_))
  refine cgo ?_
  exact ⟨trivial, _, fs, .tup (.cons (.cell rfl (.there .here) rfl) (.cons (.tmp rfl) .nil)), .cons _ (.cons _ (.cons _ (.refl _))), h⟩
theorem plain97_x {n f id : Nat} (hrow : Has fs (.row f id (1 * 9))) {K : KK} (h : K (.tup [.str (xs n), .bool true]) fs) : Ev sW ftab 97 [.agg [.int .i64 0, pR n f id]] fs K := by
  refine ev_fn (nt := 28) (kb := kb97) (kr := kr97) rfl rfl (Nat.le_of_ble_eq_true rfl) ?_
  refine cgo ?_
  refine g_do rfl (o_box (xt rfl) rfl fun x1 => ?_)
  refine cgg ?_
  refine g_do rfl (o_iaddr (xt rfl) xc ⟨by decide, by decide⟩ rfl ?_)
  refine g_if rfl (g_do rfl (o_faddrz (xt rfl) ?_))
  refine g_if rfl (g_do rfl (o_loadr (v := .int .i64 1) (xt rfl) (.own (.there hrow)) rfl ?_))
  refine cgg ?_
  refine g_do rfl (o_iaddr (xt rfl) xc ⟨by decide, by decide⟩ rfl ?_)
  refine g_if rfl (g_do rfl (o_faddrz (xt rfl) ?_))
  refine g_if rfl (g_do rfl (o_loadr (v := .bool false) (xt rfl) (.own (.there hrow)) rfl ?_))
  refine cgo ?_
  refine g_do rfl (o_iaddr (xt rfl) xc ⟨by decide, by decide⟩ rfl ?_)
  refine g_do rfl (o_faddrz (xt rfl) ?_)
  refine g_do rfl (o_loadr (v := .str (xs n)) (xt rfl) (.own (.there hrow)) rfl ?_)
  refine cgo ?_
  exact ⟨trivial, _, fs, .tup (.cons (.tmp rfl) (.cons (.tmp rfl) .nil)), .cons _ (.refl _), h⟩
theorem name98_x {n : Nat} (h0 : 0 < n) (hn : n ≤ 20000) {K : KK} (h : K (.bool true) fs) : Ev sW ftab 98 [.str (xs n)] fs K := by
  have hsz := xs_size n
  refine ev_fn (nt := 12) (kb := kb98) (kr := kr98) rfl rfl (Nat.le_of_ble_eq_true rfl) ?_
  refine cgo ?_
  refine g_do rfl (o_nes (xt rfl) xc (fun he => ?_) (fun _ => ?_))
  · have := congrArg ByteArray.size he
    rw [xs_size] at this
    have h2 : (⟨#[]⟩ : ByteArray).size = 0 := rfl
    omega
  refine cgo ?_
  refine g_do rfl (o_call (.cons (xt rfl) (.cons xc .nil)) (namelen_x h0 hn ?_))
  refine cgo ?_
  refine g_do rfl (o_eqi (xt rfl) (xt rfl) (fun _ => ?_) (fun h9 => absurd (by omega) h9))
  refine cgo ?_
  exact ⟨trivial, _, fs, .one (.tmp rfl), .refl _, h⟩
abbrev cmd (k : Int) (ws ss : AV) : List AV := [.int .i64 k, .int .i64 0, .bool false, .bool false, .str ⟨#[]⟩, ws, .nilrow, .nilrow, ss, .nilrow]
theorem simple_x {n p k : Nat} {st : Bool} (h0 : 6 ≤ n) (hn : n ≤ 20000) (hk : Has fs (.blk k (.cells (tW n)))) {K : KK} (h : ∀ k2 cs s, K (.agg (cmd 1 (.row cs 1 s) .nilrow)) (.blk k2 (.cells (tE n)) :: .blk p (.cells (pB n n 1 (.ptr k2 0) false)) :: fs)) : Ev sW ftab 88 [.ptr p 0, .agg (tW n)] (.blk p (.cells (pB n 0 1 (.ptr k 0) st)) :: fs) K := by
  have hsz := xs_size n
  refine ev_fn (nt := 113) (kb := kb88) (kr := kr88) rfl rfl (Nat.le_of_ble_eq_true rfl) ?_
  refine cgo ?_
  refine g_do rfl (o_box (xt rfl) rfl fun x3 => ?_)
  refine g_do rfl (o_box xc rfl fun x4 => ?_)
  refine cgo ?_
  refine g_do rfl (o_build (.cons xc (.cons (xt rfl) .nil)) rfl ?_)
  refine g_do rfl (o_box xc rfl fun x5 => ?_)
  refine cgo ?_
  refine w_block (w_loop (l_round ?_))
  refine cgg ?_
  refine w_block ?_
  refine cgo ?_
  refine g_do rfl (o_call (.cons (xt rfl) .nil) (peekT (.there (.there (.there .here))) (.there (.there (.there (.there hk)))) rfl ?_))
  refine g_do rfl (o_box xc rfl fun x6 => ?_)
  refine cgg ?_
  refine w_block ?_
  refine cgg ?_
  refine g_sub (e' := [(43, .ptr p 0), (0, .ptr p 0), (4, .ptr x4 0), (5, .ptr x5 0), (6, .ptr x6 0)]) (fs' := .blk p (.cells (pB n 0 1 (.ptr k 0) st)) :: .blk x6 (.cells (tW n)) :: .blk x5 (.cells (cmd 1 .nilrow .nilrow)) :: .blk x4 (.cells (cmd 0 .nilrow .nilrow)) :: .blk x3 (.cells (tW n)) :: fs) (.cons rfl (.cons rfl (.cons rfl (.cons rfl (.cons rfl .nil))))) (fun _ hh => hh.perm (List.perm_middle (l₁ := [_, _, _, _]))) ?_
  refine g_do rfl (o_call (.cons (xt rfl) .nil) (next_x (by omega) hn (.there (.there (.there (.there hk)))) fun f id => ?_))
  refine g_do rfl (o_box xc rfl fun x7 => ?_)
  refine cgo ?_
  refine g_do rfl (o_call (.cons (xt rfl) .nil) (assign_x (by omega) hn (.there .here) ?_))
  refine cgo ?_
  refine g_do rfl (o_box xc rfl fun x8 => ?_)
  refine cgo ?_
  refine g_do rfl (o_row (cs := [.int .i64 0, pR n f id]) (.cons (xt rfl) .nil) rfl rfl fun f1 id1 => ?_)
  refine g_do rfl (o_appn (xt rfl) (.own (xt rfl) .here rfl) rfl (by decide) ⟨by decide, by decide⟩ fun f2 id2 => ?_)
  refine cgo ?_
  refine g_do0 (o_store (xt rfl) (xt rfl) (.there (.there (.there (.there (.there (.there (.there .here))))))) ⟨rfl, (Nat.le_of_ble_eq_true rfl)⟩ rfl rfl ?_)
  refine g_end ?_
  refine w_sub (e' := [(0, .ptr p 0), (4, .ptr x4 0), (5, .ptr x5 0), (6, .ptr x6 0), (7, .ptr x7 0), (9, .bool false)]) (fs' := .blk p (.cells (pB n n 1 .nilptr false)) :: .blk x7 (.cells [.int .i64 0, pR n f id]) :: .row f id (1 * 9) :: .blk x5 (.cells (cmd 1 (.row [.int .i64 0, pR n f id] 1 ⟨f2, id2, 0, 2⟩) .nilrow)) :: .blk x4 (.cells (cmd 0 .nilrow .nilrow)) :: fs) (.cons rfl (.cons rfl (.cons rfl (.cons rfl (.cons rfl (.cons rfl .nil)))))) (fun _ hh => (hh.mono (.cons _ (.cons _ (.cons _ (.cons_cons _ (.cons_cons _ (.cons_cons _ (.cons _ (.cons_cons _ (.cons_cons _ (.cons _ (.refl _)))))))))))).perm (List.perm_middle (l₁ := [_, _]))) ?_
  refine cgg ?_
  refine g_do rfl (o_call (.cons (xt rfl) .nil) (plain97_x (.there (.there .here)) ?_))
  refine cgo ?_
  refine g_do rfl (o_call (.cons (xt rfl) .nil) (name98_x (by omega) hn ?_))
  refine cgo ?_
  refine g_do rfl (o_call (.cons (xt rfl) .nil) (lexres_x h0 ?_))
  refine cgo ?_
  refine g_do rfl (o_call (.cons (xt rfl) (.cons xc .nil)) (opn hn (fun _ => .here) fun k2 => ?_))
  refine cgo ?_
  refine l_round ?_
  refine cgg ?_
  refine w_block ?_
  refine cgo ?_
  refine g_do rfl (o_call (.cons (xt rfl) .nil) (peekT (.there .here) .here rfl ?_))
  refine g_do rfl (o_box xc rfl fun x9 => ?_)
  refine cgg ?_
  refine w_block ?_
  refine cgg ?_
  exact ⟨trivial, _, .blk k2 (.cells (tE n)) :: .blk p (.cells (pB n n 1 (.ptr k2 0) false)) :: fs, .one (.cell rfl (.there (.there (.there (.there (.there (.there .here)))))) rfl), .cons _ (.cons_cons _ (.cons_cons _ (.cons _ (.cons _ (.cons _ (.cons _ (.refl _))))))), h k2 _ _⟩
theorem one_x {n p k : Nat} {st : Bool} (h0 : 6 ≤ n) (hn : n ≤ 20000) (hk : Has fs (.blk k (.cells (tW n)))) {K : KK} (h : ∀ k2 cs s, K (.agg (cmd 1 (.row cs 1 s) .nilrow)) (.blk k2 (.cells (tE n)) :: .blk p (.cells (pB n n 0 (.ptr k2 0) false)) :: fs)) : Ev sW ftab 77 [.ptr p 0] (.blk p (.cells (pB n 0 0 (.ptr k 0) st)) :: fs) K := by
  refine ev_fnd (nt := 51) (kb := kb77) (kr := kr77) rfl rfl (Nat.le_of_ble_eq_true rfl) ?_
  repeat (first | refine d_rs ?_ | refine d_assoc ?_)
  refine g_do rfl (o_box (xt rfl) rfl fun b1 => ?_)
  refine g_do rfl (o_box xc rfl fun b2 => ?_)
  refine rgo ?_
  repeat (first | refine d_rs ?_ | refine d_assoc ?_)
  refine rgo ?_
  refine g_do rfl (o_call (.cons (xt rfl) .nil) (peekT (.there (.there .here)) (.there (.there (.there hk))) rfl ?_))
  refine g_do rfl (o_box xc rfl fun b3 => ?_)
  refine rgo ?_
  repeat (first | refine d_rs ?_ | refine d_assoc ?_)
  refine rgo ?_
  refine g_do rfl (o_call (.cons (xt rfl) .nil) (reserved_x h0 ?_))
  refine rgo ?_
  repeat (first | refine d_rs ?_ | refine d_assoc ?_)
  refine cgg ?_
  refine g_do rfl (o_call (.cons (xt rfl) .nil) (begins_x h0 ?_))
  refine cgg ?_
  repeat (first | refine d_rs ?_ | refine d_assoc ?_)
  refine d_seq (w_cond (xt rfl) (w_skip ⟨rfl, ?_⟩))
  repeat (first | refine d_rs ?_ | refine d_assoc ?_)
  refine rgo ?_
  refine g_do rfl (o_call (.cons (xt rfl) (.cons (xt rfl) .nil)) (enter_x (.there (.there (.there .here))) ?_))
  refine rgo ?_
  repeat (first | refine d_rs ?_ | refine d_assoc ?_)
  refine d_seq (w_cond (xt rfl) (w_skip ⟨rfl, ?_⟩))
  repeat (first | refine d_rs ?_ | refine d_assoc ?_)
  refine d_def (g := 86) (cs := [.ptr b1 0]) (vs := []) ?_
  refine g_do rfl (o_fn (.cons (xt rfl) .nil) ?_)
  refine g_end ⟨xt rfl, .nil, ?_⟩
  refine cgg ?_
  refine g_do rfl (o_call (.cons (xt rfl) (.cons (xt rfl) .nil)) (Ev.perm (List.perm_middle (l₁ := [_, _, _])) (simple_x h0 hn (.there (.there (.there hk))) fun k2 cs s => ?_)))
  refine cgo ?_
  refine ⟨trivial, 8, kb86, kr86, rfl, rfl, (Nat.le_of_ble_eq_true rfl), ?_⟩
  refine cgo ?_
  refine g_do rfl (o_sub (xt rfl) xc (by constructor <;> decide) ?_)
  refine cgo ?_
  exact ⟨trivial, ⟨_, .one .none⟩, _, .blk k2 (.cells (tE n)) :: .blk p (.cells (pB n n 0 (.ptr k2 0) false)) :: fs, .one (.cell rfl (.there (.there (.there .here))) rfl), .cons_cons _ (.cons_cons _ (.cons _ (.cons _ (.cons _ (.refl _))))), h k2 cs s⟩
theorem pipe_x {n p k : Nat} {st : Bool} (h0 : 6 ≤ n) (hn : n ≤ 20000) (hk : Has fs (.blk k (.cells (tW n)))) {K : KK} (h : ∀ k2 cs s, K (.agg (cmd 1 (.row cs 1 s) .nilrow)) (.blk k2 (.cells (tE n)) :: .blk p (.cells (pB n n 0 (.ptr k2 0) false)) :: fs)) : Ev sW ftab 66 [.ptr p 0] (.blk p (.cells (pB n 0 0 (.ptr k 0) st)) :: fs) K := by
  refine ev_fn (nt := 59) (kb := kb66) (kr := kr66) rfl rfl (Nat.le_of_ble_eq_true rfl) ?_
  refine cgo ?_
  refine g_do rfl (o_box xc rfl fun x2 => ?_)
  refine cgo ?_
  refine g_do rfl (o_call (.cons (xt rfl) .nil) (peekT (.there .here) (.there (.there hk)) rfl ?_))
  refine g_do rfl (o_box xc rfl fun x3 => ?_)
  refine cgo ?_
  refine g_do rfl (o_build (.cons xc (.cons (xt rfl) .nil)) rfl ?_)
  refine g_do rfl (o_box xc rfl fun x4 => ?_)
  refine cgg ?_
  refine g_do rfl (o_call (.cons (xt rfl) .nil) (reserved_x h0 ?_))
  refine cgg ?_
  refine w_block (w_loop (l_round ?_))
  refine w_block ?_
  refine w_rs (g_fl ?_)
  refine hgo ?_
  refine h_do rfl (o_call (.cons (xt rfl) .nil) (Ev.perm (List.perm_middle (l₁ := [_, _, _])) (one_x h0 hn (.there (.there (.there hk))) fun k2 cs s => ?_)))
  refine h_do rfl (o_row (cs := cmd 1 (.row cs 1 s) .nilrow) (.cons (xt rfl) .nil) rfl rfl fun f1 id1 => ?_)
  refine h_do rfl (o_appn (xt rfl) (.own (xt rfl) .here rfl) rfl (by decide) ⟨by decide, by decide⟩ fun f2 id2 => ?_)
  refine hgo ?_
  refine h_do0 (o_store (xt rfl) (xt rfl) (.there (.there (.there (.there .here)))) ⟨rfl, (Nat.le_of_ble_eq_true rfl)⟩ rfl rfl ?_)
  refine h_end ?_
  refine ⟨.cons rfl (.cons rfl (o_load (xt rfl) (.there (.there .here)) rfl rfl) (.cons rfl (o_load (xt rfl) (.there (.there (.there .here))) rfl rfl) .nil)) .nil, _, rfl, ?_⟩
  refine cgg ?_
  refine g_do rfl (o_call (.cons (xt rfl) (.cons xc .nil)) (opE (.there (.there (.there .here))) (.there (.there .here)) ?_))
  refine cgg ?_
  refine g_do rfl (o_iaddr (xt rfl) xc ⟨by decide, by decide⟩ rfl ?_)
  refine g_do rfl (o_loadr (v := .agg (cmd 1 (.row cs 1 s) .nilrow)) (xt rfl) (.own .here) rfl ?_)
  refine g_do0 (o_store (xt rfl) (xt rfl) (.there (.there (.there (.there (.there (.there .here)))))) ⟨rfl, (Nat.le_of_ble_eq_true rfl)⟩ rfl rfl ?_)
  refine cgo ?_
  exact ⟨trivial, _, .blk k2 (.cells (tE n)) :: .blk p (.cells (pB n n 0 (.ptr k2 0) false)) :: fs, .one (.cell rfl (.there (.there (.there (.there (.there (.there .here)))))) rfl), .cons _ (.cons _ (.cons_cons _ (.cons_cons _ (.cons _ (.cons _ (.cons _ (.refl _))))))), h k2 cs s⟩
theorem andor_x {n p k : Nat} {st : Bool} (h0 : 6 ≤ n) (hn : n ≤ 20000) (hk : Has fs (.blk k (.cells (tW n)))) {K : KK} (h : ∀ k2 cs s, K (.agg (cmd 1 (.row cs 1 s) .nilrow)) (.blk k2 (.cells (tE n)) :: .blk p (.cells (pB n n 0 (.ptr k2 0) false)) :: fs)) : Ev sW ftab 48 [.ptr p 0] (.blk p (.cells (pB n 0 0 (.ptr k 0) st)) :: fs) K := by
  refine ev_fn (nt := 30) (kb := kb48) (kr := kr48) rfl rfl (Nat.le_of_ble_eq_true rfl) ?_
  refine cgo ?_
  refine g_do rfl (o_box xc rfl fun x2 => ?_)
  refine cgo ?_
  refine g_do rfl (o_call (.cons (xt rfl) .nil) (Ev.perm (.swap ..) (pipe_x h0 hn (.there hk) fun k2 cs s => ?_)))
  refine g_do rfl (o_box xc rfl fun x3 => ?_)
  refine cgo ?_
  refine w_block (w_loop (l_round ?_))
  refine cgg ?_
  refine w_block ?_
  refine cgo ?_
  refine w_block ?_
  refine cgo ?_
  refine g_do rfl (o_call (.cons (xt rfl) (.cons xc .nil)) (opE (.there (.there .here)) (.there .here) ?_))
  refine cgo ?_
  refine g_do rfl (o_call (.cons (xt rfl) (.cons xc .nil)) (opE (.there (.there .here)) (.there .here) ?_))
  refine cgo ?_
  exact ⟨trivial, _, .blk k2 (.cells (tE n)) :: .blk p (.cells (pB n n 0 (.ptr k2 0) false)) :: fs, .one (.cell rfl (.there (.there (.there .here))) rfl), .cons _ (.cons_cons _ (.cons_cons _ (.cons _ (.refl _)))), h k2 cs s⟩
theorem list_x {n p k : Nat} {st : Bool} (h0 : 6 ≤ n) (hn : n ≤ 20000) (hk : Has fs (.blk k (.cells (tW n)))) {K : KK} (h : ∀ k2 cs s, K (.agg (cmd 5 .nilrow (.row cs 1 s))) (.blk k2 (.cells (tE n)) :: .blk p (.cells (pB n n 0 (.ptr k2 0) false)) :: fs)) : Ev sW ftab 35 [.ptr p 0] (.blk p (.cells (pB n 0 0 (.ptr k 0) st)) :: fs) K := by
  refine ev_fn (nt := 54) (kb := kb35) (kr := kr35) rfl rfl (Nat.le_of_ble_eq_true rfl) ?_
  refine cgo ?_
  refine g_do rfl (o_box xc rfl fun x2 => ?_)
  refine cgo ?_
  refine g_do rfl (o_call (.cons (xt rfl) .nil) (startW (.there .here) (.there (.there hk)) ?_))
  refine cgo ?_
  refine g_do rfl (o_call (.cons (xt rfl) .nil) (peekT (.there .here) (.there (.there hk)) rfl ?_))
  refine cgo ?_
  refine g_do rfl (o_build (.cons xc (.cons (xt rfl) .nil)) rfl ?_)
  refine g_do rfl (o_box xc rfl fun x3 => ?_)
  refine cgo ?_
  refine w_block (w_loop (l_round ?_))
  refine w_block ?_
  refine w_rs (g_fl ?_)
  refine hgo ?_
  refine h_do rfl (o_call (.cons (xt rfl) .nil) (Ev.perm (List.perm_middle (l₁ := [_, _])) (andor_x h0 hn (.there (.there hk)) fun k2 cs s => ?_)))
  refine h_do rfl (o_row (cs := cmd 1 (.row cs 1 s) .nilrow) (.cons (xt rfl) .nil) rfl rfl fun f1 id1 => ?_)
  refine h_do rfl (o_appn (xt rfl) (.own (xt rfl) .here rfl) rfl (by decide) ⟨by decide, by decide⟩ fun f2 id2 => ?_)
  refine hgo ?_
  refine h_do0 (o_store (xt rfl) (xt rfl) (.there (.there (.there (.there .here)))) ⟨rfl, (Nat.le_of_ble_eq_true rfl)⟩ rfl rfl ?_)
  refine h_end ?_
  refine ⟨.cons rfl (.cons rfl (o_load (xt rfl) (.there (.there .here)) rfl rfl) (.cons rfl (o_load (xt rfl) (.there (.there (.there .here))) rfl rfl) .nil)) .nil, _, rfl, ?_⟩
  refine cgg ?_
  refine g_do rfl (o_call (.cons (xt rfl) (.cons xc .nil)) (opE (.there (.there (.there .here))) (.there (.there .here)) ?_))
  refine cgg ?_
  refine g_do rfl (o_call (.cons (xt rfl) .nil) (peekT (.there (.there (.there .here))) (.there (.there .here)) rfl ?_))
  refine cgg ?_
  exact ⟨trivial, _, .blk k2 (.cells (tE n)) :: .blk p (.cells (pB n n 0 (.ptr k2 0) false)) :: fs, .one (.cell rfl (.there (.there (.there (.there (.there .here))))) rfl), .cons _ (.cons _ (.cons_cons _ (.cons_cons _ (.cons _ (.cons _ (.refl _)))))), h k2 _ _⟩
theorem some_x {n p : Nat} {st : Bool} (h0 : 6 ≤ n) (hn : n ≤ 20000) {K : KK} (h : ∀ k2 cs s, K (.agg (cmd 5 .nilrow (.row cs 1 s))) (.blk k2 (.cells (tE n)) :: .blk p (.cells (pB n n 0 (.ptr k2 0) false)) :: fs)) : Ev sW ftab 20 [.ptr p 0] (.blk p (.cells (pB n 0 0 .nilptr st)) :: fs) K := by
  refine ev_fn (nt := 18) (kb := kb20) (kr := kr20) rfl rfl (Nat.le_of_ble_eq_true rfl) ?_
  refine cgo ?_
  refine g_do rfl (o_box xc rfl fun x2 => ?_)
  refine cgo ?_
  refine g_do rfl (o_call (.cons (xt rfl) .nil) (start0 (by omega) hn (.there .here) (fun _ => .there .here) fun k => ?_))
  refine cgg ?_
  refine g_do rfl (o_call (.cons (xt rfl) .nil) (peekT (.there (.there .here)) .here rfl ?_))
  refine cgg ?_
  refine g_do rfl (o_call (.cons (xt rfl) .nil) (begins_x h0 ?_))
  refine cgg ?_
  refine g_do rfl (o_call (.cons (xt rfl) .nil) (Ev.perm (List.perm_middle (l₁ := [_, _])) (list_x h0 hn .here fun k2 cs s => ?_)))
  refine cgo ?_
  exact ⟨trivial, _, .blk k2 (.cells (tE n)) :: .blk p (.cells (pB n n 0 (.ptr k2 0) false)) :: fs, .one (.cell rfl (.there (.there (.there .here))) rfl), .cons_cons _ (.cons_cons _ (.cons _ (.cons _ (.refl _)))), h k2 cs s⟩
theorem idx0_x : ∀ (n i : Nat), idxOf 0 (List.replicate n (120 : UInt8)) i = -1
  | 0, i => rfl
  | n + 1, i => by rw [List.replicate_succ, idxOf_cons, if_neg (by decide)]; exact idx0_x n (i + 1)
theorem parse_x {n : Nat} (h0 : 6 ≤ n) (hn : n ≤ 20000) {K : KK} (h : ∀ cs s, K (.tup [.agg (cmd 5 .nilrow (.row cs 1 s)), .int .i64 0, .int .i64 0]) fs) : Ev sW ftab 13 [.str (xs n)] fs K := by
  have hsz := xs_size n
  refine ev_fn (nt := 54) (kb := kb13) (kr := kr13) rfl rfl (Nat.le_of_ble_eq_true rfl) ?_
  refine cgo ?_
  refine g_do rfl (o_box xc rfl fun x2 => ?_)
  refine cgo ?_
  refine g_do rfl (o_call (.cons (xt rfl) (.cons xc .nil)) (ix3_ev (b := 0) (by decide) ?_))
  rw [show idxOf 0 (xs n).data.toList 0 = -1 from idx0_x n 0]
  refine cgg ?_
  refine g_do rfl (o_gtr (xt rfl) xc (fun h9 => by omega) (fun _ => ?_))
  refine cgo ?_
  refine g_do rfl (o_box (xt rfl) rfl fun p => ?_)
  refine cgo ?_
  refine g_do rfl (o_call (.cons (xt rfl) .nil) (some_x h0 hn fun k2 cs s => ?_))
  refine g_do rfl (o_box xc rfl fun x7 => ?_)
  refine cgo ?_
  refine g_do rfl (o_call (.cons (xt rfl) .nil) (peekT (.there (.there .here)) (.there .here) rfl ?_))
  refine g_do rfl (o_box xc rfl fun x8 => ?_)
  refine cgg ?_
  exact ⟨trivial, _, fs, .tup (.cons (.cell rfl (.there (.there (.there (.there .here)))) rfl) (.cons (.tmp rfl) (.cons (.tmp rfl) .nil))), .cons _ (.cons _ (.cons _ (.cons _ (.cons _ (.refl _))))), h _ _⟩
theorem parse_long {n : Nat} (hn : 20000 < n) {K : KK} (h : K (.tup [.agg (cmd 0 .nilrow .nilrow), .int .i64 20000, .int .i64 3]) fs) : Ev sW ftab 13 [.str (xs n)] fs K := by
  have hsz := xs_size n
  refine ev_fn (nt := 54) (kb := kb13) (kr := kr13) rfl rfl (Nat.le_of_ble_eq_true rfl) ?_
  refine cgo ?_
  refine g_do rfl (o_box xc rfl fun x2 => ?_)
  refine cgo ?_
  refine g_do rfl (o_call (.cons (xt rfl) (.cons xc .nil)) (ix3_ev (b := 0) (by decide) ?_))
  rw [show idxOf 0 (xs n).data.toList 0 = -1 from idx0_x n 0]
  refine cgg ?_
  refine g_do rfl (o_gtr (xt rfl) xc (fun _ => ?_) (fun h9 => by omega))
  refine cgo ?_
  exact ⟨trivial, _, fs, .tup (.cons (.cell rfl .here rfl) (.cons (.tmp rfl) (.cons (.tmp rfl) .nil))), .cons _ (.refl _), h⟩
/-! The bytes. -/
def fillC (N i : Nat) : List AV := List.replicate i (.int .u8 120) ++ List.replicate (N - i) (.int .u8 0)
theorem fillC_len {N i : Nat} (h : i ≤ N) : (fillC N i).length = N := by simp [fillC]; omega
theorem fillC_up {N i : Nat} (h : i < N) : (fillC N i).take i ++ (AV.int .u8 120).cells ++ (fillC N i).drop (i + 1) = fillC N (i + 1) := by
  unfold fillC
  rw [List.take_left' (by simp), ← List.drop_drop, List.drop_left' (by simp), List.drop_replicate, List.replicate_succ', show N - i - 1 = N - (i + 1) by omega]
  rfl
theorem bytes_x : ∀ n : Nat, (List.replicate n (AV.int .u8 120)).mapM byteU = some (List.replicate n (120 : UInt8))
  | 0 => rfl
  | n + 1 => by
    rw [List.replicate_succ, List.mapM_cons, bytes_x n]; rfl
theorem fill_loop {N f : Nat} (hN : N ≤ 100000) {Q : AO → Env → List Fact → Prop} (hQ : ∀ e id, Sub e [(0, .int .i64 (N : Int)), (2, .bool false), (3, .row (fillC N N) N ⟨f, id, 0, 1⟩)] → Q (.exit 0) e (.row f id (N * 1) :: fs)) : ∀ (r i id : Nat), i + r = N →
    WL sW ftab lb10_0 56 [(0, .int .i64 (N : Int)), (2, .bool false), (3, .row (fillC N i) N ⟨f, id, 0, 1⟩), (14, .int .i64 (N : Int)), (15, .int .i64 (i : Int))] (.row f id (N * 1) :: fs) Q
  | 0, i, id, hi => by
    obtain rfl : i = N := by omega
    refine l_round ?_
    refine cgo ?_
    refine g_do rfl (o_lss (xt rfl) (xt rfl) (fun h => by omega) (fun h => ?_))
    refine cgo ?_
    exact hQ _ id (.cons rfl (.cons rfl (.cons rfl .nil)))
  | r + 1, i, id, hi => by
    have hlen := fillC_len (N := N) (i := i) (by omega)
    refine l_round ?_
    refine cgo ?_
    refine g_do rfl (o_lss (xt rfl) (xt rfl) (fun h => ?_) (fun h => by omega))
    refine cgo ?_
    refine w_block ?_
    refine cgo ?_
    refine g_do rfl (o_iaddr (xt rfl) (xt rfl) ⟨by omega, by omega⟩ rfl ?_)
    rw [show (((i : Nat) : Int).toNat * 1) = i by omega]
    refine g_el (k := 3) (m := N * 1) (fs' := fun id' => .row f id' (0 + (fillC N i).length) :: fs) (xt rfl) xc rfl rfl (by decide) (by rw [hlen]; omega) rfl (fun _ => .here) fun id' => ?_
    rw [hlen, show 0 + N = N * 1 by omega]
    show WG sW ftab _ 56 ((3, .row ((fillC N i).take i ++ (AV.int .u8 120).cells ++ (fillC N i).drop (i + 1)) N ⟨f, id', 0, 1⟩) :: _) _ _
    rw [fillC_up (by omega)]
    refine cgo ?_
    refine g_do rfl (o_add (xt rfl) xc (by constructor <;> omega) ?_)
    refine cgo ?_
    refine l_sub (e' := [(0, .int .i64 (N : Int)), (2, .bool false), (3, .row (fillC N (i + 1)) N ⟨f, id', 0, 1⟩), (14, .int .i64 (N : Int)), (15, .int .i64 ((i + 1 : Nat) : Int))]) (.cons rfl (.cons rfl (.cons rfl (.cons rfl (.cons rfl .nil))))) (fun _ h => h) ?_
    exact fill_loop hN hQ r (i + 1) id' (by omega)
theorem long_ev (m : Int) : Ev sW ftab 10 [.int .i64 m] [] fun v _ => v = .bool true := by
  obtain ⟨N, hN, hN0, hN2⟩ : ∃ N : Nat, Go.bits .and .i64 m 7 + 19996 = (N : Int) ∧ 19996 ≤ N ∧ N ≤ 20003 := by
    rw [Bits.bits_and7]
    exact ⟨(m % 8 + 19996).toNat, by omega, by omega, by omega⟩
  refine ev_fn (nt := 56) (kb := kb10) (kr := kr10) rfl rfl (Nat.le_of_ble_eq_true rfl) ?_
  refine cgo ?_
  refine g_do rfl (o_arith (v := .int .i64 (Go.bits .and .i64 m 7)) (xt rfl) xc rfl ?_)
  refine g_do rfl (o_add (xt rfl) xc (by constructor <;> omega) ?_)
  rw [hN]
  refine cgo ?_
  refine g_do rfl (o_make (xt rfl) (xt rfl) (by omega) (by omega) (rep_one _ _) fun f id => ?_)
  refine cgo ?_
  refine w_block (w_loop ?_)
  refine l_sub (e' := [(0, .int .i64 (N : Int)), (2, .bool false), (3, .row (fillC N 0) N ⟨f, id, 0, 1⟩), (14, .int .i64 (N : Int)), (15, .int .i64 ((0 : Nat) : Int))]) (.cons rfl (.cons rfl (.cons (by show some _ = some _; simp [fillC]) (.cons rfl (.cons rfl .nil))))) (fun _ h => h) ?_
  refine fill_loop (by omega) (fun e id hS => ?_) N 0 id (by omega)
  refine w_sub hS (fun _ h => h) ?_
  have hfull : fillC N N = List.replicate N (.int .u8 120) := by simp [fillC]
  refine cgo ?_
  refine g_do rfl (o_text (l := List.replicate N 120) (xt rfl) .here rfl (by rw [hfull, List.length_replicate]) (by rw [hfull]; exact bytes_x N) ?_)
  by_cases hb : 20000 < N
  · refine g_do rfl (o_call (.cons (xt rfl) .nil) (parse_long (n := N) hb ?_))
    refine cgo ?_
    refine g_do rfl (o_box xc rfl fun x5 => ?_)
    refine cgo ?_
    refine g_do rfl (o_gtr (xt rfl) xc (fun _ => ?_) (fun h9 => by omega))
    refine cgg ?_
    refine g_do rfl (o_call .nil (awake_ev ?_))
    refine cgo ?_
    exact ⟨trivial, _, _, .one (.tmp rfl), .refl _, rfl⟩
  · refine g_do rfl (o_call (.cons (xt rfl) .nil) (parse_x (n := N) (by omega) (by omega) fun cs s => ?_))
    refine cgo ?_
    refine g_do rfl (o_box xc rfl fun x5 => ?_)
    refine cgo ?_
    refine g_do rfl (o_gtr (xt rfl) xc (fun h9 => by omega) (fun _ => ?_))
    refine cgg ?_
    refine g_do rfl (o_call .nil (awake_ev ?_))
    refine cgo ?_
    exact ⟨trivial, _, _, .one (.tmp rfl), .refl _, rfl⟩
theorem SyntaxLong_true (n : Int) (w : (Lit.int .i64 n).wf = true) : ∃ m, (aeval sW ftab m 10 [.int .i64 n] h0).map (·.1) = some (.bool true) := ev_true (long_ev n)
end Go.Proofs.Ytadohhhjpbhhoaa.EvA
