/- Walks of layer 12: a byte's place; rows that grow; files' names; numbers told. -/
import Derived.Test.YthlmjpfklbocjaaEvLh
import Derived.Test.YthlmjpfklbocjaaEvTb
import Derived.Test.YthlmjpfklbocjaaEvSk
import Derived.Test.YthlmjpfklbocjaaEvCk
import Derived.Test.YthlmjpfklbocjaaEvSw
import Derived.Sort.Walk0
import Derived.KernelRfl
namespace Go.Proofs.Ythlmjpfklbocjaa.EvA
attribute [local irreducible] oMove oPick oBox oBuild oRow oRowZ oLoad oStore oNil oArith oEq oEqS oShr oShl oNot oNeg oConv oFn oMfn oMin oMax oCutstr oCutrow oFaddr oField oIaddr oIaddrA oIdx oExtract oLenS oLenR oLenM oAppend oCall oCallv oMap oLookup oSet oDelete kDo kDo0 kIf kEl kClr oMake oText kEnd kReg kSeq kCond kBlock kLoop kSkip kExit kRet xT xC xF kFl kIp sDo sDo0 sIf gVal
set_option linter.unusedVariables false
set_option linter.unusedSimpArgs false
set_option maxHeartbeats 4000000
variable {fs fs' : List Fact} {S : Sum} {F : FuncId → Option AF} {e : Env}
noncomputable abbrev sIx : Sum := sumIdx 63
theorem sIx_ok (B : Nat → Prop) (w0 : World) : SumOk Try.prog B w0 sIx := sumIdx_ok Try.func63 (by kernel_rfl) (by kernel_rfl) (by kernel_rfl) (by kernel_rfl) B w0
noncomputable abbrev sIs : Sum := sumOr sIx (sumOr (sumAt 25 (sortO 39)) (sumAt 32 cloneS))
theorem sIs_ok (B : Nat → Prop) (w0 : World) : SumOk Try.prog B w0 sIs := sumOr_ok (sIx_ok B w0) (sumOr_ok (so0_ok B w0) (ck0_ok B w0))
theorem awake0 : (aeval sIs ftab 60 6 [] h0).map (·.1) = some (.bool true) := by kernel_rfl
noncomputable abbrev sW : Sum := sumOr (sumTrue 6) sIs
theorem sW_ok (B : Nat → Prop) (w0 : World) : SumOk Try.prog B w0 sW := sumOr_ok (sumTrue_ok sIs_ok ftab_ok awake0 B w0) (sIs_ok B w0)
theorem awake_ev {K : KK} (h : K (.bool true) fs) : Ev sW ftab 6 [] fs K := ev_sum (s := fun a h => match a with | [] => some (.bool true, h) | _ => none) rfl fun h0 h2 => ⟨_, h0, fs, h2, h, rfl⟩
theorem ix_ev {s : ByteArray} {b : Nat} (hb : b ≤ 255) {K : KK} (h : K (.int .i64 (idxOf b s.data.toList 0)) fs) : Ev sW ftab 63 [.str s, .int .u8 (b : Int)] fs K :=
  ev_sum (s := idxS) rfl fun h0 h2 => ⟨_, h0, fs, h2, h, by
    show (match Nat.ble b 255 with | true => _ | false => _) = _
    rw [Nat.ble_eq_true_of_le hb]⟩
theorem ix2_ev {s : ByteArray} {b : Nat} (hb : b ≤ 255) {K : KK} (h : K (.int .i64 (idxOf b s.data.toList 0)) fs) : Ev sW ftab 50 [.str s, .int .u8 (b : Int)] fs K := by
  refine ev_fn (nt := 8) (kb := kb50) (kr := kr50) rfl rfl (Nat.le_of_ble_eq_true rfl) ?_
  refine cgo ?_
  refine g_do rfl (o_call (.cons (xt rfl) (.cons (xt rfl) .nil)) (ix_ev hb ?_))
  refine cgo ?_
  exact ⟨trivial, _, fs, .one (.tmp rfl), .refl _, h⟩
theorem ix3_ev {s : ByteArray} {b : Nat} (hb : b ≤ 255) {K : KK} (h : K (.int .i64 (idxOf b s.data.toList 0)) fs) : Ev sW ftab 41 [.str s, .int .u8 (b : Int)] fs K := by
  refine ev_fn (nt := 8) (kb := kb41) (kr := kr41) rfl rfl (Nat.le_of_ble_eq_true rfl) ?_
  refine cgo ?_
  refine g_do rfl (o_call (.cons (xt rfl) (.cons (xt rfl) .nil)) (ix2_ev hb ?_))
  refine cgo ?_
  exact ⟨trivial, _, fs, .one (.tmp rfl), .refl _, h⟩
/-- A byte's place, or -1. -/
theorem idxOf_spec (c : Nat) : ∀ (l : List UInt8) (i : Nat), (idxOf c l i = -1 ∧ ∀ b ∈ l, b.toNat ≠ c) ∨ ∃ k : Nat, idxOf c l i = ((i + k : Nat) : Int) ∧ k < l.length ∧ (∀ b ∈ l.take k, b.toNat ≠ c) ∧ ∃ b, l[k]? = some b ∧ b.toNat = c
  | [], i => Or.inl ⟨rfl, fun b h => by cases h⟩
  | b :: l, i => by
    rw [idxOf_cons]
    by_cases hb : b.toNat = c
    · rw [if_pos hb]; exact Or.inr ⟨0, rfl, by simp, by simp, b, rfl, hb⟩
    · rw [if_neg hb]
      rcases idxOf_spec c l (i + 1) with ⟨h1, h2⟩ | ⟨k, h1, h2, h3, h4⟩
      · refine Or.inl ⟨h1, fun x hx => ?_⟩
        rcases List.mem_cons.1 hx with rfl | hx
        · exact hb
        · exact h2 x hx
      · refine Or.inr ⟨k + 1, by rw [h1]; congr 1; omega, by simp; omega, fun x hx => ?_, by simpa using h4⟩
        rw [List.take_succ_cons] at hx
        rcases List.mem_cons.1 hx with rfl | hx
        · exact hb
        · exact h3 x hx
theorem RI.inv {v : AV} {cs : List AV} {n size : Nat} (h : RI size v cs n) : (v = .nilrow ∧ cs = [] ∧ n = 0) ∨ ∃ s, v = .row cs n s ∧ s.fam = 0 ∧ s.size = size := by
  cases h with
  | nil => exact Or.inl ⟨rfl, rfl, rfl⟩
  | row h1 h2 _ _ _ => exact Or.inr ⟨_, rfl, h1, h2⟩
theorem AR.inv {v : AV} {cs : List AV} {n size : Nat} {fs : List Fact} (h : AR size v cs n fs) : (v = .nilrow ∧ cs = [] ∧ n = 0 ∧ fs = []) ∨ ∃ f id, n ≠ 0 ∧ v = .row cs n ⟨f, id, 0, size⟩ ∧ fs = [.row f id (n * size)] := by
  cases h with
  | nil => exact Or.inl ⟨rfl, rfl, rfl, rfl⟩
  | own h => exact Or.inr ⟨_, _, h, rfl, rfl⟩
theorem Put.same {x y : Fact} (h : Put fs x y fs') (hxy : x = y) : fs' = fs := by
  induction h with
  | here => rw [hxy]
  | there _ ih => rw [ih hxy]
theorem XR.ofRV {x : AX} {v : AV} {cs : List AV} {n size : Nat} (hx : XV e x v) (h : RV fs size v cs n) : XR e fs x size cs n := by
  cases h with
  | nil => exact .nil hx
  | row h1 h2 => exact .ofRd hx h1 h2
/-- A row of one's own grows by another row. -/
theorem o_appw {size bytes : Nat} {a x : AX} {ds cs : List AV} {len n f id : Nat} {fs' : Nat → List Fact} {K : KK} (ha : XV e a (.row ds len ⟨f, id, 0, size⟩)) (hx : XR e fs x size cs n) (hs : cs.all scalar = true) (hl : cs.length = n * size) (hb : (len + n) * bytes ≤ 70368744177664 ∧ len + n ≤ 70368744177664)
    (hp : ∀ id', Put fs (.row f id (len * size)) (.row f id' ((len + n) * size)) (fs' id')) (h : ∀ id', K (.row (ds ++ cs) (len + n) ⟨f, id', 0, size⟩) (fs' id')) : WO S F (oAppend size bytes a x) e fs K := by
  by_cases h0 : n = 0
  · subst h0
    have hc : cs = [] := List.eq_nil_of_length_eq_zero (by omega)
    subst hc
    refine o_appo0 ha hx hs rfl (hp id).has ?_
    have h1 := h id
    rw [Put.same (hp id) (by rw [Nat.add_zero]), List.append_nil, Nat.add_zero] at h1
    exact h1
  · refine o_appo (m := len * size) (fs' := fs') ha hx hs h0 hb rfl (fun id' => ?_) h
    have : 0 + len * size + n * size = (len + n) * size := by rw [Nat.zero_add, Nat.add_mul]
    show Put fs _ (.row f id' (0 + len * size + n * size)) _
    rw [this]; exact hp id'
/-- A row's part. -/
def cutV (v : AV) (size p q : Nat) : AV := match v with
  | .row cs _ s => .row ((cs.drop (p * size)).take ((q - p) * size)) (q - p) (s.adv (p * size))
  | _ => .nilrow
theorem cutV_rv {v : AV} {cs : List AV} {n size p q : Nat} (h : RV fs size v cs n) (hq : p ≤ q ∧ q ≤ n) : RV fs size (cutV v size p q) ((cs.drop (p * size)).take ((q - p) * size)) (q - p) := by
  cases h with
  | nil =>
    have : q = 0 := by omega
    subst this
    simp only [Nat.zero_sub, cutV, List.drop_nil, List.take_nil]; exact .nil
  | row h1 h2 => exact .row (h1.adv _) (by rw [adv_size]; exact h2)
theorem o_cutv {size : Nat} {x : AX} {lo hi : Option AX} {v : AV} {cs : List AV} {n p q : Nat} {a b : Option AV} {K : KK} (hx : XV e x v) (hv : RV fs size v cs n) (hl : XO e lo a) (hh : XO e hi b) (hb : bounds n a b = some (p, q)) (h : K (cutV v size p q) fs) : WO S F (oCutrow size x lo hi) e fs K := by
  cases hv with
  | nil => exact o_cutn hx hl hh hb h
  | row h1 h2 => exact o_cutr hx h1 h2 hl hh hb h
theorem o_lst {x y : AX} {a b : ByteArray} {K : KK} (hx : XV e x (.str a)) (hy : XV e y (.str b)) (h : K (.bool (decide (a.data.toList < b.data.toList))) fs) : WO S F (oArith .lss x y) e fs K :=
  o_arith hx hy (by simp only [aarith, bytesLess_eq, ByteArray.toList_eq]) h
theorem o_gtrs {x y : AX} {a b : Nat} {K : KK} (hx : XV e x (.int .i64 a)) (hy : XV e y (.int .i64 b)) (h : K (.bool (decide (b < a))) fs) : WO S F (oArith .gtr x y) e fs K :=
  o_gtr hx hy (fun h1 => by rw [decide_eq_true (by omega)] at h; exact h) (fun h1 => by rw [decide_eq_false (by omega)] at h; exact h)
open Classical in
noncomputable def memB (l : List ByteArray) (s : ByteArray) : Bool := decide (s ∈ l)
theorem memB_t {l : List ByteArray} {s : ByteArray} (h : s ∈ l) : memB l s = true := by unfold memB; simp [h]
theorem memB_f {l : List ByteArray} {s : ByteArray} (h : s ∉ l) : memB l s = false := by unfold memB; simp [h]
theorem memB_n {l : List ByteArray} {s : ByteArray} (h : s ∉ l) : ¬ memB l s = true := by rw [memB_f h]; simp
/-! Which texts may be files' names. -/
def okS (s : ByteArray) : Bool := decide (1 ≤ s.size ∧ s.size ≤ 100 ∧ (∀ b ∈ s.data.toList, b.toNat ≠ 0) ∧ ∀ b ∈ s.data.toList, b.toNat ≠ 47)
theorem okS_true {s : ByteArray} (h1 : 1 ≤ s.size) (h2 : s.size ≤ 100) (h3 : ∀ b ∈ s.data.toList, b.toNat ≠ 0) (h4 : ∀ b ∈ s.data.toList, b.toNat ≠ 47) : okS s = true := decide_eq_true ⟨h1, h2, h3, h4⟩
theorem idx_neg {c : Nat} {l : List UInt8} (h : idxOf c l 0 < 0) : ∀ b ∈ l, b.toNat ≠ c := by
  rcases idxOf_spec c l 0 with ⟨_, h2⟩ | ⟨k, h1, _⟩
  · exact h2
  · omega
theorem idx_pos {c : Nat} {l : List UInt8} (h : ¬ idxOf c l 0 < 0) : ¬ ∀ b ∈ l, b.toNat ≠ c := by
  rcases idxOf_spec c l 0 with ⟨h1, _⟩ | ⟨k, h1, h2, h3, b, h4, h5⟩
  · omega
  · exact fun h => h b (List.mem_of_getElem? h4) h5
theorem ok_ev {s : ByteArray} {K : KK} (h : K (.bool (okS s)) fs) : Ev sW ftab 30 [.str s] fs K := by
  have no : ¬ (1 ≤ s.size ∧ s.size ≤ 100 ∧ (∀ b ∈ s.data.toList, b.toNat ≠ 0) ∧ ∀ b ∈ s.data.toList, b.toNat ≠ 47) → K (.bool false) fs := fun hn => by rw [okS, decide_eq_false hn] at h; exact h
  refine ev_fn (nt := 21) (kb := kb30) (kr := kr30) rfl rfl (Nat.le_of_ble_eq_true rfl) ?_
  refine cgo ?_
  refine g_do rfl (o_geq (xt rfl) xc (fun h1 => ?_) (fun h1 => ?_))
  · refine cgo ?_
    refine g_do rfl (o_leq (xt rfl) xc (fun h2 => ?_) (fun h2 => ?_))
    · refine cgo ?_
      refine g_do rfl (o_call (.cons (xt rfl) (.cons xc .nil)) (ix3_ev (by decide) ?_))
      refine cgo ?_
      refine g_do rfl (o_lss (xt rfl) xc (fun h3 => ?_) (fun h3 => ?_))
      · refine cgo ?_
        refine g_do rfl (o_call (.cons (xt rfl) (.cons xc .nil)) (ix3_ev (by decide) ?_))
        refine cgo ?_
        refine g_do rfl (o_lss (xt rfl) xc (fun h4 => ?_) (fun h4 => ?_))
        · refine cgo ?_
          refine ⟨trivial, _, fs, .one (.tmp rfl), .refl _, ?_⟩
          rw [okS_true (by omega) (by omega) (idx_neg h3) (idx_neg h4)] at h; exact h
        · refine cgo ?_
          exact ⟨trivial, _, fs, .one (.tmp rfl), .refl _, no fun hn => idx_pos h4 hn.2.2.2⟩
      · refine cgo ?_
        exact ⟨trivial, _, fs, .one (.tmp rfl), .refl _, no fun hn => idx_pos h3 hn.2.2.1⟩
    · refine cgo ?_
      exact ⟨trivial, _, fs, .one (.tmp rfl), .refl _, no fun hn => by omega⟩
  · refine cgo ?_
    exact ⟨trivial, _, fs, .one (.tmp rfl), .refl _, no fun hn => by omega⟩
/-! Files by a map. -/
/-- A map of files: keys, each a 1. -/
structure MapF (es : List (AV × AV × Nat)) (c : Nat) (ks : List ByteArray) : Prop where
  ok : MapOk es c ks
  one : ∀ x ∈ es, x.2.1 = .int .i64 1
theorem thas_ev {i j c : Nat} {es : List (AV × AV × Nat)} {ks : List ByteArray} {s : ByteArray} (hi : Has fs (.blk i (.cells [.map j]))) (hj : Has fs (.blk j (.map es c))) (hm : MapF es c ks) {K : KK} (h : K (.bool (memB ks s)) fs) : Ev sW ftab 12 [.ptr i 0, .str s] fs K := by
  refine ev_fn (nt := 12) (kb := kb12) (kr := kr12) rfl rfl (Nat.le_of_ble_eq_true rfl) ?_
  refine cgo ?_
  refine g_do rfl (o_load (xt rfl) hi rfl ?_)
  refine cgo ?_
  by_cases hs : s ∈ ks
  · obtain ⟨v, h1, h2⟩ := find_in hm.ok.keys hs
    obtain ⟨x, hx, rfl⟩ := List.mem_map.1 h2
    rw [hm.one x hx] at h1
    refine g_do rfl (o_lookup (xt rfl) (xt rfl) hj rfl h1 ?_)
    refine g_do rfl (o_gtr (xt rfl) xc (fun _ => ?_) (fun h => absurd (by decide) h))
    refine cgo ?_
    rw [memB_t hs] at h
    exact ⟨trivial, _, fs, .one (.tmp rfl), .refl _, h⟩
  · refine g_do rfl (o_lookup (xt rfl) (xt rfl) hj rfl (find_out hm.ok.keys hs) ?_)
    refine g_do rfl (o_gtr (xt rfl) xc (fun h => absurd h (by decide)) (fun _ => ?_))
    refine cgo ?_
    rw [memB_f hs] at h
    exact ⟨trivial, _, fs, .one (.tmp rfl), .refl _, h⟩
/-- A name more. -/
noncomputable def addK (ks : List ByteArray) (s : ByteArray) : List ByteArray := if okS s = true then (if memB ks s = true then ks else if 200 ≤ ks.length then ks else ks ++ [s]) else ks
noncomputable def addB (ks : List ByteArray) (s : ByteArray) : Bool := okS s && (memB ks s || decide (ks.length < 200))
theorem keysOf_len : ∀ {es : List (AV × AV × Nat)} {ks : List ByteArray}, keysOf es = some ks → es.length = ks.length
  | [], ks, h => by simp only [keysOf, Option.some.injEq] at h; subst h; rfl
  | x :: r, ks, h => by
    obtain ⟨t, u, n, ks', rfl, hk, rfl⟩ := keysOf_cons h
    simp only [List.length_cons, keysOf_len hk]
theorem setA_one {s : ByteArray} : ∀ {es : List (AV × AV × Nat)}, (∀ x ∈ es, x.2.1 = .int .i64 1) → ∀ x ∈ setA 2 (.str s) (.int .i64 1) es, x.2.1 = .int .i64 1
  | [], h, x, hx => by cases hx
  | y :: r, h, x, hx => by
    unfold setA at hx
    split at hx
    · rcases List.mem_cons.1 hx with rfl | hx
      · rfl
      · exact h x (List.mem_cons_of_mem _ hx)
    · rcases List.mem_cons.1 hx with rfl | hx
      · exact h _ (List.mem_cons_self ..)
      · exact setA_one (fun z hz => h z (List.mem_cons_of_mem _ hz)) x hx
theorem MapF.set {es : List (AV × AV × Nat)} {c : Nat} {ks : List ByteArray} (h : MapF es c ks) {s : ByteArray} : MapF (setA 2 (.str s) (.int .i64 1) es) c ks := ⟨h.ok.set, setA_one h.one⟩
theorem MapF.app {es : List (AV × AV × Nat)} {c : Nat} {ks : List ByteArray} (h : MapF es c ks) {s : ByteArray} (hn : s ∉ ks) (hs : s.size ≤ 1000000000) (hf : ks.length < 1000000) : MapF (es ++ [(.str s, .int .i64 1, c)]) (c + 1) (ks ++ [s]) :=
  ⟨h.ok.app hn hs hf, fun x hx => by
    rcases List.mem_append.1 hx with hx | hx
    · exact h.one x hx
    · obtain rfl : x = _ := by simpa using hx
      rfl⟩
theorem tmake_ev {i j c : Nat} {es : List (AV × AV × Nat)} {ks : List ByteArray} {s : ByteArray} (hi : Has fs (.blk i (.cells [.map j]))) (hm : MapF es c ks) (hks : ks.length ≤ 200) {K : KK}
    (h : ∀ es' c', MapF es' c' (addK ks s) → K (.bool (addB ks s)) (.blk j (.map es' c') :: fs)) : Ev sW ftab 14 [.ptr i 0, .str s] (.blk j (.map es c) :: fs) K := by
  refine ev_fn (nt := 27) (kb := kb14) (kr := kr14) rfl rfl (Nat.le_of_ble_eq_true rfl) ?_
  refine cgo ?_
  refine g_do rfl (o_call (.cons (xt rfl) .nil) (ok_ev ?_))
  cases hok : okS s with
  | false =>
    refine cgo ?_
    refine ⟨trivial, _, _, .one (.tmp rfl), .refl _, ?_⟩
    have := h es c (by unfold addK; rw [hok, if_neg (by simp)]; exact hm)
    rw [addB, hok] at this; exact this
  | true =>
    have hlen := keysOf_len hm.ok.keys
    have hsz : s.size ≤ 100 := (of_decide_eq_true hok).2.1
    refine cgo ?_
    refine g_do rfl (o_call (.cons (xt rfl) (.cons (xt rfl) .nil)) (thas_ev (.there hi) .here hm ?_))
    by_cases hs : s ∈ ks
    · rw [memB_t hs]
      refine cgo ?_
      refine g_do rfl (o_load (xt rfl) (.there hi) rfl ?_)
      refine cgo ?_
      obtain ⟨v, h1, h2⟩ := find_in hm.ok.keys hs
      refine g_do0 (o_set (xt rfl) (xt rfl) xc rfl h1 .here ?_)
      refine cgo ?_
      refine ⟨trivial, _, _, .one (.tmp rfl), .refl _, ?_⟩
      have := h (setA 2 (.str s) (.int .i64 1) es) c (by unfold addK; rw [if_pos hok, if_pos (memB_t hs)]; exact hm.set)
      rw [addB, hok, memB_t hs] at this; exact this
    · rw [memB_f hs]
      refine cgo ?_
      refine g_do rfl (o_load (xt rfl) (.there hi) rfl ?_)
      refine g_if rfl ?_
      refine g_do rfl (o_lenm (xt rfl) .here ?_)
      refine cgo ?_
      refine g_do rfl (o_geq (xt rfl) xc (fun h1 => ?_) (fun h1 => ?_))
      · refine cgo ?_
        refine ⟨trivial, _, _, .one (.tmp rfl), .refl _, ?_⟩
        have := h es c (by unfold addK; rw [if_pos hok, if_neg (memB_n hs), if_pos (by omega)]; exact hm)
        rw [addB, hok, memB_f hs, decide_eq_false (by omega)] at this; exact this
      · refine cgo ?_
        refine g_do rfl (o_load (xt rfl) (.there hi) rfl ?_)
        refine cgo ?_
        refine g_do0 (o_setn (xt rfl) (xt rfl) xc rfl (find_out hm.ok.keys hs) .here ?_)
        refine cgo ?_
        refine ⟨trivial, _, _, .one (.tmp rfl), .refl _, ?_⟩
        have := h _ _ (by unfold addK; rw [if_pos hok, if_neg (memB_n hs), if_neg (by omega)]; exact hm.app hs (by omega) (by omega))
        rw [addB, hok, memB_f hs, decide_eq_true (by omega)] at this; exact this
theorem addK_len {ks : List ByteArray} {s : ByteArray} (h : ks.length ≤ 200) : (addK ks s).length ≤ 200 := by
  unfold addK
  split
  · split
    · exact h
    · split
      · exact h
      · simp; omega
  · exact h
/-- A world's files: a map. -/
theorem tnew_loop {iv : AV} {T : List ByteArray} (hv : RV fs 1 iv (T.map .str) T.length) (hT : T.length ≤ 1000000) {i j : Nat} {Q : AO → Env → List Fact → Prop}
    (hQ : ∀ e es c, MapF es c (T.foldl addK []) → Sub e [(3, .ptr i 0)] → Q (.exit 0) e (.blk j (.map es c) :: .blk i (.cells [.map j]) :: fs)) :
    ∀ (k n : Nat) (es : List (AV × AV × Nat)) (c : Nat), n + k = T.length → MapF es c ((T.take n).foldl addK []) →
    WL sW ftab lb7_0 20 [(3, .ptr i 0), (9, iv), (10, .int .i64 T.length), (11, .int .i64 n)] (.blk j (.map es c) :: .blk i (.cells [.map j]) :: fs) Q
  | 0, n, es, c, hn, hm => by
    refine l_round ?_
    refine cgo ?_
    refine g_do rfl (o_lss (xt rfl) (xt rfl) (fun h => by omega) (fun h => ?_))
    refine cgo ?_
    rw [List.take_of_length_le (by omega)] at hm
    exact hQ _ es c hm (.cons rfl .nil)
  | k + 1, n, es, c, hn, hm => by
    have hlt : n < T.length := by omega
    obtain ⟨sr, rfl, hrd, hz⟩ := hv.some (by omega)
    refine l_round ?_
    refine cgo ?_
    refine g_do rfl (o_lss (xt rfl) (xt rfl) (fun h => ?_) (fun h => by omega))
    refine cgo ?_
    refine w_block ?_
    refine cgo ?_
    refine g_do rfl (o_iaddr (xt rfl) (xt rfl) ⟨by omega, by omega⟩ hz ?_)
    refine g_do rfl (o_loadr (v := .str T[n]) (xt rfl) hrd.cons.cons ?_ ?_)
    · simp only [apart]
      rw [show ((n : Nat) : Int).toNat * 1 = n by omega, List.getElem?_map, List.getElem?_eq_getElem hlt]; rfl
    refine cgo ?_
    refine g_do rfl (o_call (.cons (xt rfl) (.cons (xt rfl) .nil)) (tmake_ev .here hm ?_ fun es' c' hm' => ?_))
    · have : ∀ (l ks : List ByteArray), ks.length ≤ 200 → (l.foldl addK ks).length ≤ 200 := by
        intro l
        induction l with
        | nil => exact fun ks h => h
        | cons a l ih => exact fun ks h => ih _ (addK_len h)
      exact this _ _ (by decide)
    refine cgo ?_
    refine g_do rfl (o_add (xt rfl) xc (by constructor <;> omega) ?_)
    refine cgo ?_
    refine l_sub (e' := [(3, .ptr i 0), (9, .row (T.map .str) T.length sr), (10, .int .i64 T.length), (11, .int .i64 ((n + 1 : Nat) : Int))]) (.cons rfl (.cons rfl (.cons rfl (.cons rfl .nil)))) (fun _ h => h) ?_
    refine tnew_loop hv hT hQ k (n + 1) es' c' (by omega) ?_
    rw [List.take_add_one, List.getElem?_eq_getElem hlt, Option.toList_some, List.foldl_append]
    exact hm'
theorem tnew_ev {iv : AV} {T : List ByteArray} (hv : RV fs 1 iv (T.map .str) T.length) (hT : T.length ≤ 1000000) {K : KK}
    (h : ∀ i j es c, MapF es c (T.foldl addK []) → K (.ptr i 0) (.blk j (.map es c) :: .blk i (.cells [.map j]) :: fs)) : Ev sW ftab 7 [iv] fs K := by
  refine ev_fn (nt := 20) (kb := kb7) (kr := kr7) rfl rfl (Nat.le_of_ble_eq_true rfl) ?_
  refine cgo ?_
  refine g_do rfl (o_map fun j => ?_)
  refine g_do rfl (o_build (.cons (xt rfl) .nil) rfl ?_)
  refine g_do rfl (o_box (xt rfl) rfl fun i => ?_)
  refine cgo ?_
  refine g_do rfl (o_len (xt rfl) hv.cons.cons ?_)
  refine cgo ?_
  refine w_block (w_loop ?_)
  refine l_sub (fs' := .blk j (.map [] 0) :: .blk i (.cells [.map j]) :: fs) (e' := [(3, .ptr i 0), (9, iv), (10, .int .i64 T.length), (11, .int .i64 ((0 : Nat) : Int))]) (.cons rfl (.cons rfl (.cons rfl (.cons rfl .nil)))) (fun _ h => h.perm (.swap ..)) ?_
  refine tnew_loop hv hT (fun e es c hm hS => ?_) T.length 0 [] 0 (by omega) ⟨mapOk_nil, fun x hx => by cases hx⟩
  refine w_sub hS (fun _ h => h) ?_
  refine cgo ?_
  exact ⟨trivial, _, _, .one (.tmp rfl), .refl _, h i j es c hm⟩
/-! Numbers told. -/
abbrev mkT (l : List UInt8) : ByteArray := ⟨l.toArray⟩
theorem mkT_size (l : List UInt8) : (mkT l).size = l.length := by simp [ByteArray.size]
theorem mkT_app (a b : List UInt8) : mkT a ++ mkT b = mkT (a ++ b) := ByteArray.ext (by simp [mkT])
/-! What is told. -/
def digs (m : Nat) : List UInt8 := if h : 9 < m then digs (m / 10) ++ [UInt8.ofNat (48 + m % 10)] else [UInt8.ofNat (48 + m)]
termination_by m
decreasing_by omega
def digitsL (n : Int) : List UInt8 := if n < 0 then 45 :: digs n.natAbs else digs n.natAbs
theorem dig_cut : ∀ {d : Nat}, d < 10 → (⟨#[48, 49, 50, 51, 52, 53, 54, 55, 56, 57]⟩ : ByteArray).extract d (d + 1) = mkT [UInt8.ofNat (48 + d)] := by
  intro d hd
  match d, hd with
  | 0, _ => rfl
  | 1, _ => rfl
  | 2, _ => rfl
  | 3, _ => rfl
  | 4, _ => rfl
  | 5, _ => rfl
  | 6, _ => rfl
  | 7, _ => rfl
  | 8, _ => rfl
  | 9, _ => rfl
theorem wrap_u64 {n : Nat} (h : n < 18446744073709551616) : IntKind.wrap .u64 (n : Int) = n := by
  show (n : Int) % 18446744073709551616 = n
  omega
theorem digs_big {m : Nat} (h : 9 < m) : digs m = digs (m / 10) ++ [UInt8.ofNat (48 + m % 10)] := by rw [digs, dif_pos h]
theorem digs_small {m : Nat} (h : ¬ 9 < m) : digs m = [UInt8.ofNat (48 + m)] := by rw [digs, dif_neg h]
theorem dig_loop {n : Int} {full : List UInt8} {Q : AO → Env → List Fact → Prop} (hQ : ∀ (m : Nat) (acc : List UInt8), m ≤ 9 → digs m ++ acc = full → acc.length + m ≤ 4611686018427387904 → ∀ e, Sub e [(0, .int .i64 n), (3, .int .u64 (m : Int)), (4, .str (mkT acc))] → Q (.exit 0) e fs) : ∀ (m : Nat), ∀ (acc : List UInt8), acc.length + m ≤ 4611686018427387904 → digs m ++ acc = full →
    WL S ftab lb13_0 35 [(0, .int .i64 n), (3, .int .u64 (m : Int)), (4, .str (mkT acc))] fs Q := by
  intro m
  induction m using Nat.strongRecOn with
  | _ m ih =>
    intro acc hb hf
    refine l_round ?_
    refine cgo ?_
    refine g_do rfl (o_gtr (xt rfl) xc (fun h => ?_) (fun h => ?_))
    · refine cgo ?_
      refine w_block ?_
      refine cgo ?_
      refine g_do rfl (o_arith (v := .int .u64 ((m % 10 : Nat) : Int)) (xt rfl) xc (by
        show (if (10 : Int) = 0 then none else some (AV.int .u64 (Int.tmod m 10))) = _
        rw [if_neg (by decide), Int.tmod_eq_emod_of_nonneg (by omega), show (m : Int) % 10 = ((m % 10 : Nat) : Int) by omega]) ?_)
      refine cgo ?_
      refine g_do rfl (o_arith (v := .int .u64 ((m % 10 + 1 : Nat) : Int)) (xt rfl) xc (by
        show some (AV.int .u64 (IntKind.wrap .u64 (((m % 10 : Nat) : Int) + 1))) = _
        rw [show (((m % 10 : Nat) : Int) + 1) = ((m % 10 + 1 : Nat) : Int) by omega, wrap_u64 (by omega)]) ?_)
      refine g_do rfl (o_cutlh xc (xt rfl) (xt rfl) ⟨by omega, by omega, ?_⟩ ?_)
      · show ((m % 10 + 1 : Nat) : Int) ≤ ((10 : Nat) : Int)
        omega
      rw [Int.toNat_natCast, Int.toNat_natCast, dig_cut (by omega)]
      refine rgo ?_
      refine g_do rfl (o_cat (xt rfl) (xt rfl) (by rw [mkT_size, mkT_size]; simp; omega) ?_)
      rw [mkT_app]
      refine cgo ?_
      refine g_do rfl (o_arith (v := .int .u64 ((m / 10 : Nat) : Int)) (xt rfl) xc (by
        show (if (10 : Int) = 0 then none else some (AV.int .u64 (IntKind.wrap .u64 (Int.tdiv m 10)))) = _
        rw [if_neg (by decide), Int.tdiv_eq_ediv_of_nonneg (by omega), show (m : Int) / 10 = ((m / 10 : Nat) : Int) by omega, wrap_u64 (by omega)]) ?_)
      refine cgo ?_
      refine l_sub (e' := [(0, .int .i64 n), (3, .int .u64 ((m / 10 : Nat) : Int)), (4, .str (mkT ([UInt8.ofNat (48 + m % 10)] ++ acc)))]) (.cons rfl (.cons rfl (.cons rfl .nil))) (fun _ h => h) ?_
      exact ih (m / 10) (by omega) _ (by simp; omega) (by rw [← List.append_assoc, ← digs_big (by omega)]; exact hf)
    · refine cgo ?_
      exact hQ m acc (by omega) hf hb _ (.cons rfl (.cons rfl (.cons rfl .nil)))
theorem wrap_u64n {n : Int} (h : n < 0) (h2 : -4611686018427387904 ≤ n) : IntKind.wrap .u64 n = n + 18446744073709551616 := by
  show n % 18446744073709551616 = _
  omega
theorem digits_ev (hS : S 13 = none) {n : Int} (hn : n.natAbs ≤ 4611686018427387904) {K : KK} (h : K (.str (mkT (digitsL n))) fs) : Ev S ftab 13 [.int .i64 n] fs K := by
  refine ev_fn (nt := 35) (kb := kb13) (kr := kr13) rfl hS (Nat.le_of_ble_eq_true rfl) ?_
  refine cgo ?_
  refine g_do rfl (o_conv (xt rfl) ?_)
  refine cgo ?_
  have go : ∀ e, Sub e [(0, .int .i64 n), (3, .int .u64 (n.natAbs : Int)), (4, .str (mkT []))] → WC S ftab (kBlock 0 (kLoop lb13_0)) 35 e fs fun ao e' fs' => ao = .normal ∧ fs' = fs ∧ ∃ (m : Nat) (acc : List UInt8), m ≤ 9 ∧ digs m ++ acc = digs n.natAbs ∧ acc.length + m ≤ 4611686018427387904 ∧ Sub e' [(0, .int .i64 n), (3, .int .u64 (m : Int)), (4, .str (mkT acc))] := by
    intro e he
    refine w_sub he (fun _ h => h) ?_
    refine w_block (w_loop ?_)
    refine dig_loop (full := digs n.natAbs) (fun m acc h1 h2 h3 e he => ?_) n.natAbs [] (by simpa using hn) (by simp)
    exact ⟨rfl, rfl, m, acc, h1, h2, h3, he⟩
  refine g_do rfl (o_lss (xt rfl) xc (fun h1 => ?_) (fun h1 => ?_))
  · refine cgo ?_
    refine g_do rfl (o_neg (xt rfl) ?_)
    rw [wrap_u64n h1 (by omega), show (0 : Int) - (n + 18446744073709551616) = -(n + 18446744073709551616) by omega, show IntKind.wrap .u64 (-(n + 18446744073709551616)) = (n.natAbs : Int) by show (-(n + 18446744073709551616)) % 18446744073709551616 = _; omega]
    refine cgo ?_
    refine w_mono (go _ ?_) ?_
    · exact .cons rfl (.cons rfl (.cons rfl .nil))
    rintro o e' _ ⟨rfl, rfl, m, acc, h2, h3, h4, he⟩
    refine w_sub he (fun _ h => h) ?_
    refine cgo ?_
    refine g_do rfl (o_arith (v := .int .u64 ((m + 1 : Nat) : Int)) (xt rfl) xc (by
      show some (AV.int .u64 (IntKind.wrap .u64 ((m : Int) + 1))) = _
      rw [show ((m : Int) + 1) = ((m + 1 : Nat) : Int) by omega, wrap_u64 (by omega)]) ?_)
    refine g_do rfl (o_cutlh xc (xt rfl) (xt rfl) ⟨by omega, by omega, ?_⟩ ?_)
    · show ((m + 1 : Nat) : Int) ≤ ((10 : Nat) : Int)
      omega
    rw [Int.toNat_natCast, Int.toNat_natCast, dig_cut (by omega)]
    refine rgo ?_
    refine g_do rfl (o_cat (xt rfl) (xt rfl) (by rw [mkT_size, mkT_size]; simp; omega) ?_)
    rw [mkT_app, ← digs_small (by omega), h3]
    refine cgo ?_
    refine g_do rfl (o_lss (xt rfl) xc (fun _ => ?_) (fun h => absurd h1 h))
    refine cgo ?_
    have hl : acc.length + 1 = (digs n.natAbs).length := by rw [← h3, digs_small (by omega)]; simp [Nat.add_comm]
    have hz := mkT_size (digs n.natAbs)
    refine g_do rfl (o_cat xc (xt rfl) (by show 1 + (mkT (digs n.natAbs)).size ≤ 9223372036854775807; omega) ?_)
    refine cgo ?_
    refine ⟨trivial, _, _, .one (.tmp rfl), .refl _, ?_⟩
    have : (⟨#[45]⟩ : ByteArray) ++ mkT (digs n.natAbs) = mkT (digitsL n) := by
      unfold digitsL; rw [if_pos h1]; exact mkT_app [45] _
    rw [this]; exact h
  · refine cgo ?_
    rw [show IntKind.wrap .u64 n = (n.natAbs : Int) by rw [show n = (n.natAbs : Int) by omega, wrap_u64 (by omega)]; rfl]
    refine w_mono (go _ ?_) ?_
    · exact .cons rfl (.cons rfl (.cons rfl .nil))
    rintro o e' _ ⟨rfl, rfl, m, acc, h2, h3, h4, he⟩
    refine w_sub he (fun _ h => h) ?_
    refine cgo ?_
    refine g_do rfl (o_arith (v := .int .u64 ((m + 1 : Nat) : Int)) (xt rfl) xc (by
      show some (AV.int .u64 (IntKind.wrap .u64 ((m : Int) + 1))) = _
      rw [show ((m : Int) + 1) = ((m + 1 : Nat) : Int) by omega, wrap_u64 (by omega)]) ?_)
    refine g_do rfl (o_cutlh xc (xt rfl) (xt rfl) ⟨by omega, by omega, ?_⟩ ?_)
    · show ((m + 1 : Nat) : Int) ≤ ((10 : Nat) : Int)
      omega
    rw [Int.toNat_natCast, Int.toNat_natCast, dig_cut (by omega)]
    refine rgo ?_
    refine g_do rfl (o_cat (xt rfl) (xt rfl) (by rw [mkT_size, mkT_size]; simp; omega) ?_)
    rw [mkT_app, ← digs_small (by omega), h3]
    refine cgo ?_
    refine g_do rfl (o_lss (xt rfl) xc (fun h => absurd h h1) (fun _ => ?_))
    refine cgo ?_
    refine ⟨trivial, _, _, .one (.tmp rfl), .refl _, ?_⟩
    have : digitsL n = digs n.natAbs := by unfold digitsL; rw [if_neg h1]
    rw [this] at h; exact h
end Go.Proofs.Ythlmjpfklbocjaa.EvA
