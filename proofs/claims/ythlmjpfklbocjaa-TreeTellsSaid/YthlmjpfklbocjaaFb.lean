/- TreeFull: as many files may be as the bound says; names are of as many bytes, and have neither a byte 0 nor a slash. -/
import Derived.Test.YthlmjpfklbocjaaFa
import Derived.Test.YthlmjpfklbocjaaEvSp
import Derived.Test.YthlmjpfklbocjaaEvBits
namespace Go.Proofs.Ythlmjpfklbocjaa.EvA
attribute [local irreducible] oMove oPick oBox oBuild oRow oRowZ oLoad oStore oNil oArith oEq oEqS oShr oShl oNot oNeg oConv oFn oMfn oMin oMax oCutstr oCutrow oFaddr oField oIaddr oIaddrA oIdx oExtract oLenS oLenR oLenM oAppend oCall oCallv oMap oLookup oSet oDelete kDo kDo0 kIf kEl kClr oMake oText kEnd kReg kSeq kCond kBlock kLoop kSkip kExit kRet xT xC xF kFl kIp sDo sDo0 sIf gVal
set_option linter.unusedVariables false
set_option linter.unusedSimpArgs false
set_option maxHeartbeats 4000000
variable {fs fs' : List Fact}
/-! Names. -/
theorem digit_nat {d : Nat} (h : d < 10) : (UInt8.ofNat (48 + d)).toNat = 48 + d := by
  rw [UInt8.toNat_ofNat']
  omega
theorem digs_dig : ∀ (m : Nat), ∀ x ∈ digs m, 48 ≤ x.toNat ∧ x.toNat ≤ 57 := by
  intro m
  induction m using Nat.strongRecOn with
  | _ m ih =>
    intro x hx
    by_cases h : 9 < m
    · rw [digs_big h] at hx
      rcases List.mem_append.1 hx with hx | hx
      · exact ih (m / 10) (by omega) x hx
      · rw [List.mem_singleton.1 hx, digit_nat (by omega)]; omega
    · rw [digs_small h] at hx
      rw [List.mem_singleton.1 hx, digit_nat (by omega)]; omega
theorem digs_len : ∀ (m : Nat), (digs m).length ≤ m + 1 := by
  intro m
  induction m using Nat.strongRecOn with
  | _ m ih =>
    by_cases h : 9 < m
    · have := ih (m / 10) (by omega)
      rw [digs_big h, List.length_append]
      simp only [List.length_cons, List.length_nil]; omega
    · rw [digs_small h]; simp
def dval (l : List UInt8) : Nat := l.foldl (fun a b => a * 10 + (b.toNat - 48)) 0
theorem dval_digs : ∀ (m : Nat), dval (digs m) = m := by
  intro m
  induction m using Nat.strongRecOn with
  | _ m ih =>
    by_cases h : 9 < m
    · rw [digs_big h]
      have := ih (m / 10) (by omega)
      unfold dval at this ⊢
      rw [List.foldl_append, this, List.foldl_cons, List.foldl_nil, digit_nat (by omega)]
      omega
    · rw [digs_small h]
      unfold dval
      rw [List.foldl_cons, List.foldl_nil, digit_nat (by omega)]
      omega
theorem bsz (s : ByteArray) : s.data.toList.length = s.size := by simp
abbrev fN (d : Nat) : ByteArray := ⟨#[102]⟩ ++ mkT (digs d)
theorem fN_bytes (d : Nat) : (fN d).data.toList = 102 :: digs d := by
  show ((⟨#[102]⟩ : ByteArray) ++ mkT (digs d)).data.toList = _
  have : (⟨#[102]⟩ : ByteArray) = mkT [102] := rfl
  rw [this, mkT_app]; rfl
theorem fN_inj {a b : Nat} (h : fN a = fN b) : a = b := by
  have h1 := congrArg (fun s => s.data.toList) h
  simp only [fN_bytes] at h1
  injection h1 with _ h1
  rw [← dval_digs a, h1, dval_digs]
theorem digs_shorts : ∀ (k m : Nat), m < 10 ^ (k + 1) → (digs m).length ≤ k + 1
  | 0, m, h => by rw [digs_small (by omega)]; simp
  | k + 1, m, h => by
    by_cases h1 : 9 < m
    · have := digs_shorts k (m / 10) (by rw [Nat.pow_succ] at h; omega)
      rw [digs_big h1, List.length_append]
      simp only [List.length_cons, List.length_nil]; omega
    · rw [digs_small h1]; simp
theorem fN_size {d : Nat} (h : d < 1000) : 1 ≤ (fN d).size ∧ (fN d).size ≤ 4 := by
  rw [← bsz, fN_bytes, List.length_cons]
  have := digs_shorts 2 d (by omega)
  omega
theorem fN_ok {d : Nat} (h : d < 1000) : okS (fN d) = true := by
  have hs := fN_size h
  refine okS_true hs.1 (by omega) (fun b hb => ?_) (fun b hb => ?_)
  · rw [fN_bytes] at hb
    rcases List.mem_cons.1 hb with rfl | hb
    · decide
    · have := digs_dig d b hb; omega
  · rw [fN_bytes] at hb
    rcases List.mem_cons.1 hb with rfl | hb
    · decide
    · have := digs_dig d b hb; omega
def files (n : Nat) : List ByteArray := (List.range n).map fN
theorem files_len (n : Nat) : (files n).length = n := by simp [files]
theorem files_up (n : Nat) : files (n + 1) = files n ++ [fN n] := by simp [files, List.range_succ]
theorem files_out {n d : Nat} (h : n ≤ d) : fN d ∉ files n := by
  intro hm
  obtain ⟨k, hk, hk2⟩ := List.mem_map.1 hm
  have := fN_inj hk2
  have := List.mem_range.1 hk
  omega
theorem files_in {n d : Nat} (h : d < n) : fN d ∈ files n := List.mem_map.2 ⟨d, List.mem_range.2 h, rfl⟩
theorem files_fold : ∀ n, n < 1000 → (files n).foldl addK [] = files (min n 200)
  | 0, _ => by simp [files]
  | n + 1, h => by
    rw [files_up, List.foldl_append, files_fold n (by omega), List.foldl_cons, List.foldl_nil]
    unfold addK
    rw [if_pos (fN_ok (by omega)), if_neg (memB_n (files_out (by omega))), files_len]
    by_cases h2 : 200 ≤ min n 200
    · rw [if_pos h2, show min (n + 1) 200 = min n 200 by omega]
    · rw [if_neg h2, show min (n + 1) 200 = n + 1 by omega, show min n 200 = n by omega, files_up]
theorem f0_is : fN 0 = ⟨#[102, 48]⟩ := by unfold fN; rw [digs_small (by omega)]; rfl
abbrev moreF : ByteArray := ⟨#[109, 111, 114, 101]⟩
theorem more_notin (n : Nat) : moreF ∉ files n := by
  intro hm
  obtain ⟨k, hk, hk2⟩ := List.mem_map.1 hm
  have h1 := congrArg (fun s => s.data.toList) hk2
  simp only [fN_bytes] at h1
  injection h1 with h1 _
  revert h1; decide
theorem mapOk_B {es : List (AV × AV × Nat)} {c : Nat} {ks : List ByteArray} (h : MapOk es c ks) : mapOkB es c ks = true := by
  simp only [mapOkB, Bool.and_eq_true, decide_eq_true_eq, List.all_eq_true]
  exact ⟨⟨⟨⟨h.few, fun s hs => h.short s hs⟩, fun x hx => h.born x hx⟩, h.once⟩, h.apart⟩
theorem tnames_ev {i j c : Nat} {es : List (AV × AV × Nat)} {ks : List ByteArray} (hi : Has fs (.blk i (.cells [.map j]))) (hj : Has fs (.blk j (.map es c))) (hm : MapF es c ks) (h0 : ks ≠ []) {K : KK} (h : ∀ b f id, K (.row ((sortK ks).map fun l => .str ⟨l.toArray⟩) ks.length ⟨f, id, 0, 1⟩) (.row f id (ks.length * 1) :: .blk b (.cells [.map j]) :: fs)) : Ev sW ftab 10 [.ptr i 0] fs K := by
  refine ev_fn (nt := 9) (kb := kb10) (kr := kr10) rfl rfl (Nat.le_of_ble_eq_true rfl) ?_
  refine cgo ?_
  refine g_do rfl (o_load (xt rfl) hi rfl ?_)
  refine g_do rfl (o_call (.cons (xt rfl) .nil) (ev_fn (nt := 4) (kb := kb26) (kr := kr26) rfl rfl (Nat.le_of_ble_eq_true rfl) ?_))
  refine w_rs (g_do rfl (o_box (xt rfl) rfl fun b => ?_))
  refine cgo ?_
  refine g_do rfl (o_fn (.cons (xt rfl) .nil) ?_)
  refine cgo ?_
  refine ⟨trivial, _, _, .one (.tmp rfl), .refl _, ?_⟩
  refine g_do rfl (o_call (.cons (xt rfl) .nil) (sortedO_ev rfl .here (.there hj) hm.ok.keys (mapOk_B hm.ok) h0 fun f id => ?_))
  refine cgo ?_
  exact ⟨trivial, _, _, .one (.tmp rfl), .refl _, h b f id⟩
theorem made_loop {n long : Int} {N : Nat} (hN : Go.bits .and .i64 n 7 + 198 = (N : Int)) (hN2 : N ≤ 205) {Q : AO → Env → List Fact → Prop} (hQ : ∀ e v fb, AR 1 v ((files N).map .str) N fb → Sub e [(0, .int .i64 n), (1, .int .i64 long), (5, v)] → Q (.exit 0) e fb) :
    ∀ (k i : Nat) (v : AV) (fb : List Fact), i + k = N → AR 1 v ((files i).map .str) i fb →
    WL sW ftab lb4_0 87 [(0, .int .i64 n), (1, .int .i64 long), (5, v), (6, .int .i64 i)] fb Q
  | 0, i, v, fb, hi, hM => by
    refine l_round ?_
    refine cgo ?_
    refine g_do rfl (o_arith (xt rfl) xc rfl ?_)
    refine g_do rfl (o_add xc (xt rfl) (by constructor <;> omega) ?_)
    rw [show (198 : Int) + Go.bits .and .i64 n 7 = (N : Int) by omega]
    refine g_do rfl (o_lss (xt rfl) (xt rfl) (fun h => by omega) (fun h => ?_))
    refine cgo ?_
    obtain rfl : i = N := by omega
    exact hQ _ v fb hM (.cons rfl (.cons rfl (.cons rfl .nil)))
  | k + 1, i, v, fb, hi, hM => by
    have hdl : digitsL (i : Int) = digs i := by unfold digitsL; rw [if_neg (by omega)]; simp
    have cat : (1 : Nat) + (mkT (digs i)).size ≤ 9223372036854775807 := by
      have := digs_len i
      rw [mkT_size]; omega
    refine l_round ?_
    refine cgo ?_
    refine g_do rfl (o_arith (xt rfl) xc rfl ?_)
    refine g_do rfl (o_add xc (xt rfl) (by constructor <;> omega) ?_)
    rw [show (198 : Int) + Go.bits .and .i64 n 7 = (N : Int) by omega]
    refine g_do rfl (o_lss (xt rfl) (xt rfl) (fun h => ?_) (fun h => by omega))
    refine cgo ?_
    refine w_block ?_
    refine cgo ?_
    refine g_do rfl (o_call (.cons (xt rfl) .nil) (digits_ev rfl (by omega) ?_))
    rw [hdl]
    refine g_do rfl (o_cat xc (xt rfl) cat ?_)
    show WG sW ftab _ 87 ((21, .str (fN i)) :: _) _ _
    refine g_do rfl (o_row (cs := [.str (fN i)]) (.cons (xt rfl) .nil) rfl rfl fun f0 id0 => ?_)
    rcases hM.inv with ⟨rfl, h1, rfl, rfl⟩ | ⟨f, id, hne, rfl, rfl⟩
    · refine g_do rfl (o_appn (xt rfl) (.own (xt rfl) .here rfl) rfl (by decide) ⟨by decide, by decide⟩ fun f id => ?_)
      refine cgo ?_
      refine g_do rfl (o_add (xt rfl) xc (by constructor <;> omega) ?_)
      refine cgo ?_
      refine l_sub (e' := [(0, .int .i64 n), (1, .int .i64 long), (5, .row [.str (fN 0)] 1 ⟨f, id, 0, 1⟩), (6, .int .i64 ((1 : Nat) : Int))]) (fs' := [.row f id (1 * 1)]) (.cons rfl (.cons rfl (.cons rfl (.cons rfl .nil)))) (fun _ hh => hh.mono (.cons_cons _ (List.nil_sublist _))) ?_
      exact made_loop hN hN2 hQ k 1 _ _ (by omega) (by
        have := AR.own (size := 1) (cs := [.str (fN 0)]) (n := 1) (f := f) (id := id) (by decide)
        exact this)
    · refine g_do rfl (o_appo (fs' := fun id' => [.row f0 id0 (1 * 1), .row f id' (0 + i * 1 + 1 * 1)]) (xt rfl) (.own (xt rfl) .here rfl) rfl (by decide) ⟨by omega, by omega⟩ rfl (fun id' => .there .here) fun id' => ?_)
      refine cgo ?_
      refine g_do rfl (o_add (xt rfl) xc (by constructor <;> omega) ?_)
      refine cgo ?_
      refine l_sub (e' := [(0, .int .i64 n), (1, .int .i64 long), (5, .row ((files (i + 1)).map .str) (i + 1) ⟨f, id', 0, 1⟩), (6, .int .i64 ((i + 1 : Nat) : Int))]) (fs' := [.row f id' ((i + 1) * 1)]) (.cons rfl (.cons rfl (.cons ?_ (.cons rfl .nil)))) (fun _ hh => ?_) ?_
      · rw [files_up, List.map_append]; rfl
      · have h1 := hh.mono (.cons _ (.refl _))
        rw [show 0 + i * 1 + 1 * 1 = (i + 1) * 1 by omega] at h1
        exact h1
      exact made_loop hN hN2 hQ k (i + 1) _ _ (by omega) (.own (by omega))
abbrev xs (k : Nat) : List UInt8 := List.replicate k 120
theorem xs_loop {n long : Int} {M : Nat} (hM : Go.bits .and .i64 long 127 = (M : Int)) (hM2 : M ≤ 127) {i0 : Nat} {Q : AO → Env → List Fact → Prop} (hQ : ∀ e, Sub e [(0, .int .i64 n), (7, .ptr i0 0), (8, .str (mkT (xs M)))] → Q (.exit 2) e fs) :
    ∀ (k i : Nat), i + k = M → WL sW ftab lb4_1 87 [(0, .int .i64 n), (1, .int .i64 long), (7, .ptr i0 0), (8, .str (mkT (xs i))), (9, .int .i64 i)] fs Q
  | 0, i, hi => by
    refine l_round ?_
    refine cgo ?_
    refine g_do rfl (o_arith (xt rfl) xc rfl ?_)
    rw [hM]
    refine g_do rfl (o_lss (xt rfl) (xt rfl) (fun h => by omega) (fun h => ?_))
    refine cgo ?_
    obtain rfl : i = M := by omega
    exact hQ _ (.cons rfl (.cons rfl (.cons rfl .nil)))
  | k + 1, i, hi => by
    refine l_round ?_
    refine cgo ?_
    refine g_do rfl (o_arith (xt rfl) xc rfl ?_)
    rw [hM]
    refine g_do rfl (o_lss (xt rfl) (xt rfl) (fun h => ?_) (fun h => by omega))
    refine cgo ?_
    refine w_block ?_
    refine cgo ?_
    refine g_do rfl (o_cat (xt rfl) xc (by
      show (mkT (xs i)).size + 1 ≤ _
      rw [mkT_size]; simp only [xs, List.length_replicate]; omega) ?_)
    have e1 : mkT (xs i) ++ (⟨#[120]⟩ : ByteArray) = mkT (xs (i + 1)) := by
      have : (⟨#[120]⟩ : ByteArray) = mkT [120] := rfl
      rw [this, mkT_app]; simp [xs, List.replicate_succ']
    rw [e1]
    refine cgo ?_
    refine g_do rfl (o_add (xt rfl) xc (by constructor <;> omega) ?_)
    refine cgo ?_
    refine l_sub (e' := [(0, .int .i64 n), (1, .int .i64 long), (7, .ptr i0 0), (8, .str (mkT (xs (i + 1)))), (9, .int .i64 ((i + 1 : Nat) : Int))]) (.cons rfl (.cons rfl (.cons rfl (.cons rfl (.cons rfl .nil))))) (fun _ h => h) ?_
    exact xs_loop hM hM2 hQ k (i + 1) (by omega)
theorem bits127 (n : Int) : Go.bits .and .i64 n 127 = n % 128 := Bits.bits_mask64 n 7 (by omega)
theorem xs_ok {M : Nat} (hM : M ≤ 127) : okS (mkT (xs M)) = (decide (1 ≤ M) && decide (M ≤ 100)) := by
  have hsz : (mkT (xs M)).size = M := by rw [mkT_size]; simp [xs]
  by_cases h1 : 1 ≤ M ∧ M ≤ 100
  · rw [decide_eq_true h1.1, decide_eq_true h1.2]
    refine okS_true (by omega) (by omega) (fun b hb => ?_) (fun b hb => ?_) <;>
    · rw [List.eq_of_mem_replicate (show b ∈ List.replicate M 120 from hb)]; decide
  · have : okS (mkT (xs M)) = false := decide_eq_false (fun h => h1 ⟨by rw [← hsz]; exact h.1, by rw [← hsz]; exact h.2.1⟩)
    rw [this]
    by_cases h2 : 1 ≤ M
    · rw [decide_eq_false (show ¬ M ≤ 100 by omega), Bool.and_false]
    · rw [decide_eq_false h2, Bool.false_and]
theorem addB_new {ks : List ByteArray} {s : ByteArray} (h1 : s ∉ ks) : addB ks s = (okS s && decide (ks.length < 200)) := by unfold addB; rw [memB_f h1, Bool.false_or]
theorem addB_bad {ks : List ByteArray} {s : ByteArray} (h1 : okS s = false) : addB ks s = false := by unfold addB; rw [h1, Bool.false_and]
theorem addK_bad {ks : List ByteArray} {s : ByteArray} (h1 : okS s = false) : addK ks s = ks := by unfold addK; rw [h1, if_neg (by simp)]
theorem Ev.perm {S : Sum} {F : FuncId → Option AF} {f : FuncId} {args : List AV} {K : KK} (hp : fs.Perm fs') (h : Ev S F f args fs' K) : Ev S F f args fs K := fun h0 hh => h h0 (hh.perm hp)
theorem f0_in {m : Nat} (h : 0 < m) : fN 0 ∈ addK (files m) moreF := by
  unfold addK
  split
  · split
    · exact files_in h
    · split
      · exact files_in h
      · exact List.mem_append_left _ (files_in h)
  · exact files_in h
theorem full_ev (n long : Int) : Ev sW ftab 4 [.int .i64 n, .int .i64 long] [] fun v _ => v = .bool true := by
  refine ev_fn (nt := 87) (kb := kb4) (kr := kr4) rfl rfl (Nat.le_of_ble_eq_true rfl) ?_
  obtain ⟨N, hN, hN0, hN2⟩ : ∃ N : Nat, Go.bits .and .i64 n 7 + 198 = (N : Int) ∧ 198 ≤ N ∧ N ≤ 205 := by
    rw [Bits.bits_and7]
    exact ⟨(n % 8 + 198).toNat, by omega, by omega, by omega⟩
  obtain ⟨M, hM, hM2⟩ : ∃ M : Nat, Go.bits .and .i64 long 127 = (M : Int) ∧ M ≤ 127 := by
    rw [bits127]
    exact ⟨(long % 128).toNat, by omega, by omega⟩
  refine cgo ?_
  refine w_block (w_loop ?_)
  refine l_sub (e' := [(0, .int .i64 n), (1, .int .i64 long), (5, .nilrow), (6, .int .i64 ((0 : Nat) : Int))]) (.cons rfl (.cons rfl (.cons rfl (.cons rfl .nil)))) (fun _ h => h) ?_
  refine made_loop hN hN2 (fun e v fb hA hS => ?_) N 0 .nilrow [] (by omega) .nil
  refine w_sub hS (fun _ h => h) ?_
  have hv : RV fb 1 v ((files N).map .str) (files N).length := by
    rw [files_len]
    rcases hA.inv with ⟨rfl, h1, h2, rfl⟩ | ⟨f, id, hne, rfl, rfl⟩
    · omega
    · exact .row (.own .here) rfl
  refine cgo ?_
  refine g_do rfl (o_call (.cons (xt rfl) .nil) (tnew_ev hv (by rw [files_len]; omega) fun i j es c hm => ?_))
  rw [files_fold N (by omega)] at hm
  have hlen : (files (min N 200)).length = min N 200 := files_len _
  refine cgo ?_
  refine g_do rfl (o_eq (c := false) (xt rfl) xc rfl ?_)
  refine cgo ?_
  refine g_do rfl (o_call (.cons (xt rfl) .nil) (tnames_ev (.there .here) .here hm (by
    intro h0
    rw [h0] at hlen
    simp only [List.length_nil] at hlen
    omega) fun b f id => ?_))
  rw [hlen]
  refine g_if rfl ?_
  refine g_do rfl (o_lenr (xt rfl) ?_)
  refine cgo ?_
  refine g_do rfl (o_arith (xt rfl) xc rfl ?_)
  refine g_if rfl ?_
  refine g_do rfl (o_add xc (xt rfl) (by constructor <;> omega) ?_)
  rw [show (198 : Int) + Go.bits .and .i64 n 7 = (N : Int) by omega]
  refine g_if rfl ?_
  refine g_do rfl (o_min (xt rfl) xc ?_)
  refine g_if rfl ?_
  refine g_do rfl (o_nei (xt rfl) (xt rfl) (fun _ => ?_) (fun h => absurd (by split <;> omega) h))
  refine cgo ?_
  refine w_block (w_loop ?_)
  refine l_sub (e' := [(0, .int .i64 n), (1, .int .i64 long), (7, .ptr i 0), (8, .str (mkT (xs 0))), (9, .int .i64 ((0 : Nat) : Int))]) (.cons rfl (.cons rfl (.cons rfl (.cons rfl (.cons rfl .nil))))) (fun _ h => h) ?_
  refine xs_loop hM hM2 (fun e2 hS2 => ?_) M 0 (by omega)
  refine w_sub hS2 (fun _ h => h) ?_
  refine cgo ?_
  refine g_do rfl (o_call (.cons xc .nil) (tnew_ev (T := []) .nil (by simp) fun i2 j2 es2 c2 hm2 => ?_))
  refine cgo ?_
  refine g_do rfl (o_eq (c := false) (xt rfl) xc rfl ?_)
  refine cgo ?_
  have hB1 : addB (files (min N 200)) moreF = decide ((N : Int) < 200) := by
    rw [addB_new (more_notin _), hlen, show okS moreF = true from by decide, Bool.true_and]
    exact decide_eq_decide.2 ⟨fun h => by omega, fun h => by omega⟩
  refine g_do rfl (o_call (.cons (xt rfl) (.cons xc .nil)) (Ev.perm (List.perm_middle (l₁ := [_, _, _, _])) (tmake_ev (.there (.there (.there (.there .here)))) hm (by omega) fun es3 c3 hm3 => ?_)))
  rw [hB1]
  refine cgo ?_
  refine g_do rfl (o_arith (xt rfl) xc rfl ?_)
  refine g_do rfl (o_add xc (xt rfl) (by constructor <;> omega) ?_)
  rw [show (198 : Int) + Go.bits .and .i64 n 7 = (N : Int) by omega]
  refine g_do rfl (o_arith (v := .bool (decide ((N : Int) < 200))) (xt rfl) xc rfl ?_)
  refine g_do rfl (o_eqb (xt rfl) (xt rfl) (fun _ => ?_) (fun h => absurd rfl h))
  refine cgo ?_
  have hB2 : addB (addK (files (min N 200)) moreF) ⟨#[102, 48]⟩ = true := by
    rw [← f0_is]
    unfold addB
    rw [fN_ok (by omega), memB_t (f0_in (by omega))]; rfl
  refine g_do rfl (o_call (.cons (xt rfl) (.cons xc .nil)) (tmake_ev (.there (.there (.there (.there .here)))) hm3 (addK_len (by omega)) fun es4 c4 hm4 => ?_))
  rw [hB2]
  refine cgo ?_
  have hB3 : addB [] (mkT (xs M)) = (decide (1 ≤ M) && decide (M ≤ 100)) := by
    rw [addB_new (by simp), xs_ok hM2]; simp
  refine g_do rfl (o_call (.cons (xt rfl) (.cons (xt rfl) .nil)) (Ev.perm (.swap ..) (tmake_ev (.there .here) hm2 (by simp) fun es5 c5 hm5 => ?_)))
  rw [show ([] : List ByteArray).foldl addK [] = [] from rfl, hB3]
  have hl5 : (addK [] (mkT (xs M))).length ≤ 200 := addK_len (by simp)
  have hsz : (mkT (xs M)).size = M := by rw [mkT_size]; simp [xs]
  refine cgo ?_
  rw [hsz]
  refine g_do rfl (o_geq (xt rfl) xc (fun h1 => ?_) (fun h1 => ?_))
  · refine cgo ?_
    rw [hsz]
    refine g_do rfl (o_leq (xt rfl) xc (fun h2 => ?_) (fun h2 => ?_))
    · rw [decide_eq_true (show 1 ≤ M by omega), decide_eq_true (show M ≤ 100 by omega)]
      refine cgo ?_
      refine g_do rfl (o_eqb (xt rfl) (xt rfl) (fun _ => ?_) (fun h => absurd rfl h))
      refine cgo ?_
      refine g_do rfl (o_call (.cons (xt rfl) (.cons xc .nil)) (tmake_ev (.there .here) hm5 hl5 fun es6 c6 hm6 => ?_))
      rw [addB_bad (s := ⟨#[97, 47, 98]⟩) (by decide)]
      rw [addK_bad (s := ⟨#[97, 47, 98]⟩) (by decide)] at hm6
      refine cgo ?_
      refine g_do rfl (o_call (.cons (xt rfl) (.cons xc .nil)) (tmake_ev (.there .here) hm6 hl5 fun es7 c7 hm7 => ?_))
      rw [addB_bad (s := ⟨#[97, 0]⟩) (by decide)]
      refine cgo ?_
      refine g_do rfl (o_call .nil (awake_ev ?_))
      refine cgo ?_
      exact ⟨trivial, _, _, .one (.tmp rfl), List.Sublist.refl _, rfl⟩
    · rw [decide_eq_false (show ¬ M ≤ 100 by omega), Bool.and_false]
      refine cgo ?_
      refine g_do rfl (o_eqb (xt rfl) (xt rfl) (fun _ => ?_) (fun h => absurd rfl h))
      refine cgo ?_
      refine g_do rfl (o_call (.cons (xt rfl) (.cons xc .nil)) (tmake_ev (.there .here) hm5 hl5 fun es6 c6 hm6 => ?_))
      rw [addB_bad (s := ⟨#[97, 47, 98]⟩) (by decide)]
      rw [addK_bad (s := ⟨#[97, 47, 98]⟩) (by decide)] at hm6
      refine cgo ?_
      refine g_do rfl (o_call (.cons (xt rfl) (.cons xc .nil)) (tmake_ev (.there .here) hm6 hl5 fun es7 c7 hm7 => ?_))
      rw [addB_bad (s := ⟨#[97, 0]⟩) (by decide)]
      refine cgo ?_
      refine g_do rfl (o_call .nil (awake_ev ?_))
      refine cgo ?_
      exact ⟨trivial, _, _, .one (.tmp rfl), List.Sublist.refl _, rfl⟩
  · rw [decide_eq_false (show ¬ 1 ≤ M by omega), Bool.false_and]
    refine cgo ?_
    refine g_do rfl (o_eqb (xt rfl) (xt rfl) (fun _ => ?_) (fun h => absurd rfl h))
    refine cgo ?_
    refine g_do rfl (o_call (.cons (xt rfl) (.cons xc .nil)) (tmake_ev (.there .here) hm5 hl5 fun es6 c6 hm6 => ?_))
    rw [addB_bad (s := ⟨#[97, 47, 98]⟩) (by decide)]
    rw [addK_bad (s := ⟨#[97, 47, 98]⟩) (by decide)] at hm6
    refine cgo ?_
    refine g_do rfl (o_call (.cons (xt rfl) (.cons xc .nil)) (tmake_ev (.there .here) hm6 hl5 fun es7 c7 hm7 => ?_))
    rw [addB_bad (s := ⟨#[97, 0]⟩) (by decide)]
    refine cgo ?_
    refine g_do rfl (o_call .nil (awake_ev ?_))
    refine cgo ?_
    exact ⟨trivial, _, _, .one (.tmp rfl), List.Sublist.refl _, rfl⟩
theorem TreeFull_true (a b : Int) (w0 : (Lit.int .i64 a).wf = true) (w1 : (Lit.int .i64 b).wf = true) : ∃ n, (aeval sW ftab n 4 [.int .i64 a, .int .i64 b] h0).map (·.1) = some (.bool true) := ev_true (full_ev a b)
end Go.Proofs.Ythlmjpfklbocjaa.EvA
