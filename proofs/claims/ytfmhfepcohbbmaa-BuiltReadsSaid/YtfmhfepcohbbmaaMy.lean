/- BuiltReads. -/
import Derived.Test.YtfmhfepcohbbmaaMx
import Derived.Test.YtfmhfepcohbbmaaEvBits
import Derived.Test.YtfmhfepcohbbmaaEvLg
import Derived.KernelRfl
namespace Go.Proofs.Ytfmhfepcohbbmaa.EvA
attribute [local irreducible] oMove oPick oBox oBuild oRow oRowZ oLoad oStore oNil oArith oEq oEqS oShr oShl oNot oNeg oConv oFn oMfn oMin oMax oCutstr oCutrow oFaddr oField oIaddr oIaddrA oIdx oExtract oLenS oLenR oLenM oAppend oCall oCallv oMap oLookup oSet oDelete kDo kDo0 kIf kEl oMake oText kEnd kReg kSeq kCond kBlock kLoop kSkip kExit kRet xT xC xF kFl kIp sDo sDo0 sIf gVal
set_option linter.unusedVariables false
set_option linter.unusedSimpArgs false
set_option maxHeartbeats 4000000
variable {fs fs' : List Fact}
theorem drop_headP {α : Type} {l r : List α} {i : Nat} {b : α} (h : l.drop i = b :: r) : l[i]? = some b ∧ l.drop (i + 1) = r ∧ i < l.length := by
  have hb : l[i]? = some b := by
    have := congrArg List.head? h
    rw [List.head?_drop] at this; simpa using this
  refine ⟨hb, ?_, (List.getElem?_eq_some_iff.1 hb).1⟩
  have := congrArg List.tail h
  simpa using this
theorem mk_list (l : List UInt8) : (mkT l).data.toList = l := by simp [mkT]
theorem mk_self (s : ByteArray) : mkT s.data.toList = s := by
  apply ByteArray.ext; apply Array.ext'; exact mk_list _
def isBl (b : UInt8) : Bool := decide (b = 32 ∨ b = 9 ∨ b = 10)
theorem in_ev {b : UInt8} {K : KK} (h : K (.bool (isBl b)) fs) : Ev sW ftab 77 [.str blanksT, .int .u8 b.toNat] fs K := by
  refine ev_fn (nt := 9) (kb := kb77) (kr := kr77) rfl rfl (Nat.le_of_ble_eq_true rfl) ?_
  refine cgo ?_
  refine g_do rfl (o_call (.cons (xt rfl) (.cons (xt rfl) .nil)) (ix3_ev (b := b.toNat) (by have := b.toNat_lt; omega) ?_))
  by_cases hb : b = 32 ∨ b = 9 ∨ b = 10
  · have h1 : isBl b = true := decide_eq_true hb
    rw [h1] at h
    have h2 : 0 ≤ idxOf b.toNat [32, 9, 10] 0 := by rcases hb with rfl | rfl | rfl <;> decide
    refine g_do rfl (o_geq (xt rfl) xc (fun _ => ?_) (fun h9 => absurd h2 h9))
    refine cgo ?_
    exact ⟨trivial, _, fs, .one (.tmp rfl), .refl _, h⟩
  · have h1 : isBl b = false := decide_eq_false hb
    rw [h1] at h
    have h2 : idxOf b.toNat [32, 9, 10] 0 = -1 := by
      rcases idxOf_spec b.toNat [32, 9, 10] 0 with ⟨h1, _⟩ | ⟨k, _, h2, _, x, h4, h5⟩
      · exact h1
      · have := List.mem_of_getElem? h4
        have hx : x = b := UInt8.toNat_inj.1 h5
        subst hx
        simp only [List.mem_cons, List.not_mem_nil, or_false] at this
        exact absurd this hb
    refine g_do rfl (o_geq (xt rfl) xc (fun h9 => absurd (show 0 ≤ idxOf b.toNat [32, 9, 10] 0 from h9) (by rw [h2]; decide)) (fun _ => ?_))
    refine cgo ?_
    exact ⟨trivial, _, fs, .one (.tmp rfl), .refl _, h⟩
def frN (s : List UInt8) (i : Nat) : Nat := i + ((s.drop i).takeWhile isBl).length
def noBl (b : UInt8) : Bool := !isBl b
def toN (s : List UInt8) (i : Nat) : Nat := frN s i + ((s.drop (frN s i)).takeWhile noBl).length
theorem frN_le (s : List UInt8) {i : Nat} (h : i ≤ s.length) : frN s i ≤ s.length := by
  have := (List.takeWhile_sublist (l := s.drop i) isBl).length_le
  rw [List.length_drop] at this
  unfold frN; omega
theorem toN_le (s : List UInt8) {i : Nat} (h : i ≤ s.length) : toN s i ≤ s.length := by
  have h1 := frN_le s h
  have := (List.takeWhile_sublist (l := s.drop (frN s i)) noBl).length_le
  rw [List.length_drop] at this
  unfold toN; omega
theorem nx_loop1 {s : ByteArray} (hs : s.size ≤ 1000000) {Q : AO → Env → List Fact → Prop} : ∀ (l : List UInt8) (i : Nat), s.data.toList.drop i = l → i ≤ s.size → (∀ e, Sub e [(0, .str s), (1, .str blanksT), (2, .int .i64 ((i + (l.takeWhile isBl).length : Nat) : Int))] → Q (.exit 0) e fs) →
    WL sW ftab lb68_0 42 [(0, .str s), (1, .str blanksT), (2, .int .i64 (i : Int))] fs Q
  | [], i, hl, hi, hQ => by
    have hge : s.size ≤ i := by have := List.drop_eq_nil_iff.1 hl; simpa using this
    refine l_round ?_
    refine cgo ?_
    refine g_do rfl (o_lss (xt rfl) (xt rfl) (fun h => by omega) (fun h => ?_))
    refine cgo ?_
    exact hQ _ (.cons rfl (.cons rfl (.cons rfl .nil)))
  | b :: l, i, hl, hi, hQ => by
    obtain ⟨h1, h2, h3⟩ := drop_headP hl
    have h3 : i < s.size := by simpa using h3
    refine l_round ?_
    refine cgo ?_
    refine g_do rfl (o_lss (xt rfl) (xt rfl) (fun h => ?_) (fun h => by omega))
    refine cgo ?_
    refine g_do rfl (o_idx (b := b) (xt rfl) (xt rfl) (by omega) (by rw [Int.toNat_natCast]; exact h1) ?_)
    refine g_if rfl ?_
    refine g_do rfl (o_call (.cons (xt rfl) (.cons (xt rfl) .nil)) (in_ev ?_))
    cases hb : isBl b with
    | true =>
      refine cgo ?_
      refine w_block ?_
      refine cgo ?_
      refine g_do rfl (o_add (xt rfl) xc (by constructor <;> omega) ?_)
      refine cgo ?_
      refine l_sub (e' := [(0, .str s), (1, .str blanksT), (2, .int .i64 ((i + 1 : Nat) : Int))]) (.cons rfl (.cons rfl (.cons rfl .nil))) (fun _ h => h) ?_
      refine nx_loop1 hs l (i + 1) h2 (by omega) fun e hS => hQ e ?_
      rw [List.takeWhile_cons, hb, if_pos rfl, List.length_cons, show i + ((l.takeWhile isBl).length + 1) = i + 1 + (l.takeWhile isBl).length by omega]
      exact hS
    | false =>
      refine cgo ?_
      refine hQ _ ?_
      rw [List.takeWhile_cons, hb, if_neg (by simp)]
      exact .cons rfl (.cons rfl (.cons rfl .nil))
theorem nx_loop2 {s : ByteArray} {a : Nat} (hs : s.size ≤ 1000000) {Q : AO → Env → List Fact → Prop} : ∀ (l : List UInt8) (i : Nat), s.data.toList.drop i = l → i ≤ s.size → (∀ e, Sub e [(2, .int .i64 (a : Int)), (7, .int .i64 ((i + (l.takeWhile noBl).length : Nat) : Int))] → Q (.exit 2) e fs) →
    WL sW ftab lb68_1 42 [(0, .str s), (1, .str blanksT), (2, .int .i64 (a : Int)), (7, .int .i64 (i : Int))] fs Q
  | [], i, hl, hi, hQ => by
    have hge : s.size ≤ i := by have := List.drop_eq_nil_iff.1 hl; simpa using this
    refine l_round ?_
    refine cgo ?_
    refine g_do rfl (o_lss (xt rfl) (xt rfl) (fun h => by omega) (fun h => ?_))
    refine cgo ?_
    exact hQ _ (.cons rfl (.cons rfl .nil))
  | b :: l, i, hl, hi, hQ => by
    obtain ⟨h1, h2, h3⟩ := drop_headP hl
    have h3 : i < s.size := by simpa using h3
    refine l_round ?_
    refine cgo ?_
    refine g_do rfl (o_lss (xt rfl) (xt rfl) (fun h => ?_) (fun h => by omega))
    refine cgo ?_
    refine g_do rfl (o_idx (b := b) (xt rfl) (xt rfl) (by omega) (by rw [Int.toNat_natCast]; exact h1) ?_)
    refine g_if rfl ?_
    refine g_do rfl (o_call (.cons (xt rfl) (.cons (xt rfl) .nil)) (in_ev ?_))
    cases hb : isBl b with
    | false =>
      have hn : noBl b = true := by unfold noBl; rw [hb]; rfl
      refine cgo ?_
      refine w_block ?_
      refine cgo ?_
      refine g_do rfl (o_add (xt rfl) xc (by constructor <;> omega) ?_)
      refine cgo ?_
      refine l_sub (e' := [(0, .str s), (1, .str blanksT), (2, .int .i64 (a : Int)), (7, .int .i64 ((i + 1 : Nat) : Int))]) (.cons rfl (.cons rfl (.cons rfl (.cons rfl .nil)))) (fun _ h => h) ?_
      refine nx_loop2 hs l (i + 1) h2 (by omega) fun e hS => hQ e ?_
      rw [List.takeWhile_cons, hn, if_pos rfl, List.length_cons, show i + ((l.takeWhile noBl).length + 1) = i + 1 + (l.takeWhile noBl).length by omega]
      exact hS
    | true =>
      have hn : noBl b = false := by unfold noBl; rw [hb]; rfl
      refine cgo ?_
      refine hQ _ ?_
      rw [List.takeWhile_cons, hn, if_neg (by simp)]
      exact .cons rfl (.cons rfl .nil)
theorem next_ev {s : ByteArray} {i : Nat} (hs : s.size ≤ 1000000) (hi : i ≤ s.size) {K : KK} (h : K (.tup [.int .i64 (frN s.data.toList i : Nat), .int .i64 (toN s.data.toList i : Nat), .bool (decide (frN s.data.toList i < toN s.data.toList i))]) fs) : Ev sW ftab 68 [.str s, .str blanksT, .int .i64 (i : Int)] fs K := by
  have hsz : s.data.toList.length = s.size := by simp
  have h1 := frN_le s.data.toList (i := i) (by omega)
  have h2 := toN_le s.data.toList (i := i) (by omega)
  refine ev_fn (nt := 42) (kb := kb68) (kr := kr68) rfl rfl (Nat.le_of_ble_eq_true rfl) ?_
  refine cgo ?_
  refine w_block (w_loop ?_)
  refine l_sub (e' := [(0, .str s), (1, .str blanksT), (2, .int .i64 (i : Int))]) (.cons rfl (.cons rfl (.cons rfl .nil))) (fun _ h => h) ?_
  refine nx_loop1 hs _ i rfl hi fun e hS => ?_
  have hS : Sub e [(0, .str s), (1, .str blanksT), (2, .int .i64 (frN s.data.toList i : Nat))] := hS
  refine w_sub hS (fun _ h => h) ?_
  refine cgo ?_
  refine w_block (w_loop ?_)
  refine l_sub (e' := [(0, .str s), (1, .str blanksT), (2, .int .i64 (frN s.data.toList i : Nat)), (7, .int .i64 (frN s.data.toList i : Nat))]) (.cons rfl (.cons rfl (.cons rfl (.cons rfl .nil)))) (fun _ h => h) ?_
  refine nx_loop2 hs _ (frN s.data.toList i) rfl (by omega) fun e hS => ?_
  have hS : Sub e [(2, .int .i64 (frN s.data.toList i : Nat)), (7, .int .i64 (toN s.data.toList i : Nat))] := hS
  refine w_sub hS (fun _ h => h) ?_
  refine cgo ?_
  refine g_do rfl (o_gtr (xt rfl) (xt rfl) (fun h9 => ?_) (fun h9 => ?_))
  · refine cgo ?_
    rw [decide_eq_true (by omega)] at h
    exact ⟨trivial, _, fs, .tup (.cons (.tmp rfl) (.cons (.tmp rfl) (.cons (.tmp rfl) .nil))), .refl _, h⟩
  · refine cgo ?_
    rw [decide_eq_false (by omega)] at h
    exact ⟨trivial, _, fs, .tup (.cons (.tmp rfl) (.cons (.tmp rfl) (.cons (.tmp rfl) .nil))), .refl _, h⟩
/-! Trimmed. -/
def trimL (l : List UInt8) : List UInt8 := ((l.dropWhile isBl).reverse.dropWhile isBl).reverse
theorem cut_one (a : UInt8) (l : List UInt8) : (mkT (a :: l)).extract (1 : Int).toNat (mkT (a :: l)).size = mkT l := by
  apply ByteArray.ext
  apply Array.ext'
  rw [ByteArray.data_extract, Array.toList_extract, List.extract, mkT_size]
  show ((a :: l).drop 1).take (l.length + 1 - 1) = l
  rw [Nat.add_sub_cancel, List.drop_succ_cons, List.drop_zero, List.take_length]
theorem cut_mk (l : List UInt8) (a b : Nat) : (mkT l).extract a b = mkT ((l.drop a).take (b - a)) := by
  apply ByteArray.ext
  apply Array.ext'
  rw [ByteArray.data_extract, Array.toList_extract, List.extract]
theorem mkT_ne (b : UInt8) (l : List UInt8) : ¬ mkT (b :: l) = ⟨#[]⟩ := fun h => by
  have := congrArg ByteArray.size h
  rw [mkT_size] at this
  cases this
theorem tr_loop1 {Q : AO → Env → List Fact → Prop} : ∀ (l : List UInt8), l.length ≤ 1000000 → (∀ e, Sub e [(0, .str (mkT (l.dropWhile isBl))), (1, .str blanksT)] → Q (.exit 0) e fs) → WL sW ftab lb69_0 32 [(0, .str (mkT l)), (1, .str blanksT)] fs Q
  | [], hl, hQ => by
    refine l_round ?_
    refine cgo ?_
    refine g_do rfl (o_nes (xt rfl) xc (fun _ => ?_) (fun h => absurd rfl h))
    refine cgo ?_
    exact hQ _ (.cons rfl (.cons rfl .nil))
  | b :: l, hl, hQ => by
    have hl' : l.length ≤ 1000000 := by rw [List.length_cons] at hl; omega
    refine l_round ?_
    refine cgo ?_
    refine g_do rfl (o_nes (xt rfl) xc (fun h => absurd h (mkT_ne b l)) (fun _ => ?_))
    refine cgo ?_
    refine g_do rfl (o_idx (b := b) (xt rfl) xc (by decide) (by rw [mk_list]; rfl) ?_)
    refine g_if rfl ?_
    refine g_do rfl (o_call (.cons (xt rfl) (.cons (xt rfl) .nil)) (in_ev ?_))
    cases hb : isBl b with
    | true =>
      refine cgo ?_
      refine w_block ?_
      refine cgo ?_
      refine g_do rfl (o_cutl (xt rfl) xc ⟨by decide, by rw [mkT_size, List.length_cons]; omega⟩ ?_)
      rw [cut_one]
      refine cgo ?_
      refine l_sub (e' := [(0, .str (mkT l)), (1, .str blanksT)]) (.cons rfl (.cons rfl .nil)) (fun _ h => h) ?_
      refine tr_loop1 l hl' fun e hS => hQ e ?_
      rw [List.dropWhile_cons, hb, if_pos rfl]; exact hS
    | false =>
      refine cgo ?_
      refine hQ _ ?_
      rw [List.dropWhile_cons, hb, if_neg (by simp)]
      exact .cons rfl (.cons rfl .nil)
theorem tr_loop2 {Q : AO → Env → List Fact → Prop} : ∀ (l : List UInt8), l.length ≤ 1000000 → (∀ e, Sub e [(0, .str (mkT (l.dropWhile isBl).reverse))] → Q (.exit 2) e fs) → WL sW ftab lb69_1 32 [(0, .str (mkT l.reverse)), (1, .str blanksT)] fs Q
  | [], hl, hQ => by
    refine l_round ?_
    refine cgo ?_
    refine g_do rfl (o_nes (xt rfl) xc (fun _ => ?_) (fun h => absurd rfl h))
    refine cgo ?_
    exact hQ _ (.cons rfl .nil)
  | b :: l, hl, hQ => by
    have hl' : l.length ≤ 1000000 := by rw [List.length_cons] at hl; omega
    have hsz : (mkT (b :: l).reverse).size = l.length + 1 := by rw [mkT_size]; simp
    have hlast : ((b :: l).reverse)[l.length]? = some b := by
      rw [List.reverse_cons, List.getElem?_append_right (by simp)]; simp
    refine l_round ?_
    refine cgo ?_
    refine g_do rfl (o_nes (xt rfl) xc (fun h => ?_) (fun _ => ?_))
    · have := congrArg ByteArray.size h
      rw [hsz] at this
      cases this
    refine cgo ?_
    refine g_do rfl (o_sub (xt rfl) xc (by rw [hsz]; constructor <;> omega) ?_)
    refine g_if rfl ?_
    refine g_do rfl (o_idx (b := b) (xt rfl) (xt rfl) (by rw [hsz]; omega) (by rw [mk_list, hsz, show (((l.length + 1 : Nat) : Int) - 1).toNat = l.length by omega]; exact hlast) ?_)
    refine g_if rfl ?_
    refine g_do rfl (o_call (.cons (xt rfl) (.cons (xt rfl) .nil)) (in_ev ?_))
    cases hb : isBl b with
    | true =>
      refine cgo ?_
      refine w_block ?_
      refine cgo ?_
      refine g_do rfl (o_sub (xt rfl) xc (by rw [hsz]; constructor <;> omega) ?_)
      refine g_do rfl (o_cuth (xt rfl) (xt rfl) ⟨by rw [hsz]; omega, by rw [hsz]; omega⟩ ?_)
      rw [hsz, show (((l.length + 1 : Nat) : Int) - 1).toNat = l.length by omega, cut_mk, List.drop_zero, Nat.sub_zero]
      have e1 : (b :: l).reverse.take l.length = l.reverse := by
        rw [List.reverse_cons, List.take_left' (by simp)]
      rw [e1]
      refine cgo ?_
      refine l_sub (e' := [(0, .str (mkT l.reverse)), (1, .str blanksT)]) (.cons rfl (.cons rfl .nil)) (fun _ h => h) ?_
      refine tr_loop2 l hl' fun e hS => hQ e ?_
      rw [List.dropWhile_cons, hb, if_pos rfl]; exact hS
    | false =>
      refine cgo ?_
      refine hQ _ ?_
      rw [List.dropWhile_cons, hb, if_neg (by simp)]
      exact .cons rfl .nil
theorem trim_ev {l : List UInt8} (hl : l.length ≤ 1000000) {K : KK} (h : K (.str (mkT (trimL l))) fs) : Ev sW ftab 69 [.str (mkT l), .str blanksT] fs K := by
  refine ev_fn (nt := 32) (kb := kb69) (kr := kr69) rfl rfl (Nat.le_of_ble_eq_true rfl) ?_
  refine cgo ?_
  refine w_block (w_loop ?_)
  refine l_sub (e' := [(0, .str (mkT l)), (1, .str blanksT)]) (.cons rfl (.cons rfl .nil)) (fun _ h => h) ?_
  refine tr_loop1 l hl fun e hS => ?_
  refine w_sub hS (fun _ h => h) ?_
  refine cgo ?_
  refine w_block (w_loop ?_)
  have hle := (List.dropWhile_sublist (l := l) isBl).length_le
  refine l_sub (e' := [(0, .str (mkT (l.dropWhile isBl).reverse.reverse)), (1, .str blanksT)]) (by rw [List.reverse_reverse]; exact .cons rfl (.cons rfl .nil)) (fun _ h => h) ?_
  refine tr_loop2 _ (by rw [List.length_reverse]; omega) fun e hS => ?_
  refine w_sub hS (fun _ h => h) ?_
  refine cgo ?_
  exact ⟨trivial, _, fs, .one (.tmp rfl), .refl _, h⟩
/-! What so many variables are. -/
def wordsR : Nat → List UInt8 → List (List UInt8)
  | 0, r => [trimL r]
  | k + 1, r => if (r.dropWhile isBl).takeWhile noBl = [] then List.replicate (k + 2) [] else (r.dropWhile isBl).takeWhile noBl :: wordsR k ((r.dropWhile isBl).dropWhile noBl)
theorem drop_tw {p : UInt8 → Bool} : ∀ (l : List UInt8), l.drop (l.takeWhile p).length = l.dropWhile p
  | [] => rfl
  | a :: l => by
    rw [List.takeWhile_cons, List.dropWhile_cons]
    cases p a with
    | true => simp only [if_true, List.length_cons, List.drop_succ_cons]; exact drop_tw l
    | false => rfl
theorem take_tw {p : UInt8 → Bool} : ∀ (l : List UInt8), l.take (l.takeWhile p).length = l.takeWhile p
  | [] => rfl
  | a :: l => by
    rw [List.takeWhile_cons]
    cases p a with
    | true => simp only [if_true, List.length_cons, List.take_succ_cons]; rw [take_tw l]
    | false => rfl
abbrev rowW (L : List (List UInt8)) (n f id : Nat) : AV := .row (L.map fun l => .str (mkT l)) n ⟨f, id, 0, 1⟩
theorem ws_loop {s : List UInt8} (hs : s.length ≤ 100000) {n : Nat} (hn : n ≤ 100) {RES : List (List UInt8)} {Q : AO → Env → List Fact → Prop} {f : Nat}
    (hE : ∀ id i done e, i ≤ s.length → done.length + 1 = n → done ++ [trimL (s.drop i)] = RES → Sub e [(0, .str (mkT s)), (1, .str blanksT), (2, .int .i64 (n : Int)), (7, rowW (done ++ [[]]) n f id), (8, .int .i64 (i : Int))] → Q (.exit 0) e (.row f id (n * 1) :: fs))
    (hR : ∀ id e, Sub e [(6, rowW RES n f id)] → Q .ret e (.row f id (n * 1) :: fs)) : ∀ (k i : Nat) (done : List (List UInt8)) (id : Nat), done.length + k + 1 = n → i ≤ s.length → done ++ wordsR k (s.drop i) = RES →
    WL sW ftab lb49_0 53 [(0, .str (mkT s)), (1, .str blanksT), (2, .int .i64 (n : Int)), (7, rowW (done ++ List.replicate (k + 1) []) n f id), (8, .int .i64 (i : Int)), (19, .int .i64 ((n : Int) - 1)), (20, .int .i64 (done.length : Int))] (.row f id (n * 1) :: fs) Q
  | 0, i, done, id, hk, hi, hres => by
    refine l_round ?_
    refine cgo ?_
    refine g_do rfl (o_lss (xt rfl) (xt rfl) (fun h => by omega) (fun h => ?_))
    refine cgo ?_
    exact hE id i done _ hi (by omega) hres (.cons rfl (.cons rfl (.cons rfl (.cons rfl (.cons rfl .nil)))))
  | k + 1, i, done, id, hk, hi, hres => by
    have hsz : (mkT s).size = s.length := mkT_size s
    have e1 : s.drop (frN s i) = (s.drop i).dropWhile isBl := by unfold frN; rw [← List.drop_drop, drop_tw]
    have e2 : s.drop (toN s i) = ((s.drop i).dropWhile isBl).dropWhile noBl := by unfold toN; rw [← List.drop_drop, drop_tw, e1]
    have e3 : (s.drop (frN s i)).take (toN s i - frN s i) = ((s.drop i).dropWhile isBl).takeWhile noBl := by
      unfold toN
      rw [Nat.add_sub_cancel_left, take_tw, e1]
    have l1 := frN_le s hi
    have l2 := toN_le s hi
    have l3 : frN s i ≤ toN s i := by unfold toN; omega
    have hlen : (List.map (fun l => AV.str (mkT l)) (done ++ List.replicate (k + 2) [])).length = n := by simp; omega
    refine l_round ?_
    refine cgo ?_
    refine g_do rfl (o_lss (xt rfl) (xt rfl) (fun h => ?_) (fun h => by omega))
    refine cgo ?_
    refine w_block ?_
    refine cgo ?_
    refine g_do rfl (o_call (.cons (xt rfl) (.cons (xt rfl) (.cons (xt rfl) .nil))) (next_ev (i := i) (by omega) (by omega) ?_))
    rw [mk_list]
    by_cases hw : ((s.drop i).dropWhile isBl).takeWhile noBl = []
    · have hz : ¬ frN s i < toN s i := by unfold toN; rw [e1, hw]; simp
      rw [decide_eq_false hz]
      refine cgo ?_
      have hr : done ++ List.replicate (k + 2) [] = RES := by rw [← hres]; unfold wordsR; rw [if_pos hw]
      rw [← hr] at hR
      exact hR id _ (.cons rfl .nil)
    · have hz : frN s i < toN s i := by
        have : 0 < (((s.drop i).dropWhile isBl).takeWhile noBl).length := List.length_pos_iff.2 hw
        unfold toN; rw [e1]; omega
      rw [decide_eq_true hz]
      refine cgo ?_
      refine g_do rfl (o_cutlh (xt rfl) (xt rfl) (xt rfl) ⟨by omega, by omega, by rw [hsz]; omega⟩ ?_)
      rw [Int.toNat_natCast, Int.toNat_natCast, cut_mk, e3]
      refine g_do rfl (o_iaddr (xt rfl) (xt rfl) ⟨by omega, by omega⟩ rfl ?_)
      rw [show (((done.length : Nat) : Int).toNat * 1) = done.length by omega]
      refine g_el (k := 7) (m := n * 1) (fs' := fun id' => .row f id' (0 + (List.map (fun l => AV.str (mkT l)) (done ++ List.replicate (k + 2) [])).length) :: fs) (xt rfl) (xt rfl) rfl rfl (by decide) (by rw [hlen]; omega) rfl (fun _ => .here) fun id' => ?_
      rw [hlen, show 0 + n = n * 1 by omega]
      have hu : (List.map (fun l => AV.str (mkT l)) (done ++ List.replicate (k + 2) [])).take done.length ++ [AV.str (mkT (((s.drop i).dropWhile isBl).takeWhile noBl))] ++ (List.map (fun l => AV.str (mkT l)) (done ++ List.replicate (k + 2) [])).drop (done.length + 1) = List.map (fun l => AV.str (mkT l)) ((done ++ [((s.drop i).dropWhile isBl).takeWhile noBl]) ++ List.replicate (k + 1) []) := by
        rw [List.map_append, List.take_left' (by simp), ← List.drop_drop, List.drop_left' (by simp), List.replicate_succ, List.map_cons, List.drop_succ_cons, List.drop_zero, List.map_append, List.map_append]
        rfl
      show WG sW ftab _ 53 ((7, .row ((List.map (fun l => AV.str (mkT l)) (done ++ List.replicate (k + 2) [])).take done.length ++ [AV.str (mkT (((s.drop i).dropWhile isBl).takeWhile noBl))] ++ (List.map (fun l => AV.str (mkT l)) (done ++ List.replicate (k + 2) [])).drop (done.length + 1)) n ⟨f, id', 0, 1⟩) :: _) _ _
      rw [hu]
      refine cgo ?_
      refine g_do rfl (o_add (xt rfl) xc (by constructor <;> omega) ?_)
      refine cgo ?_
      have hl1 : ((done ++ [((s.drop i).dropWhile isBl).takeWhile noBl]).length : Int) = (done.length : Int) + 1 := by simp
      refine l_sub (e' := [(0, .str (mkT s)), (1, .str blanksT), (2, .int .i64 (n : Int)), (7, rowW ((done ++ [((s.drop i).dropWhile isBl).takeWhile noBl]) ++ List.replicate (k + 1) []) n f id'), (8, .int .i64 ((toN s i : Nat) : Int)), (19, .int .i64 ((n : Int) - 1)), (20, .int .i64 ((done ++ [((s.drop i).dropWhile isBl).takeWhile noBl]).length : Int))]) (by rw [hl1]; exact .cons rfl (.cons rfl (.cons rfl (.cons rfl (.cons rfl (.cons rfl (.cons rfl .nil))))))) (fun _ h => h) ?_
      refine ws_loop hs hn hE hR k (toN s i) _ id' (by simp; omega) l2 ?_
      have e4 : wordsR (k + 1) (s.drop i) = ((s.drop i).dropWhile isBl).takeWhile noBl :: wordsR k (((s.drop i).dropWhile isBl).dropWhile noBl) := by
        conv => lhs; unfold wordsR
        rw [if_neg hw]
      rw [← hres, e2, e4, List.append_assoc]; rfl
theorem words_ev {s : List UInt8} (hs : s.length ≤ 100000) {n : Nat} (h1 : 1 ≤ n) (hn : n ≤ 100) {K : KK} (h : ∀ f id, K (rowW (wordsR (n - 1) s) n f id) (.row f id (n * 1) :: fs)) : Ev sW ftab 49 [.str (mkT s), .str blanksT, .int .i64 (n : Int)] fs K := by
  have hsz : (mkT s).size = s.length := mkT_size s
  obtain ⟨k, rfl⟩ : ∃ k, n = k + 1 := ⟨n - 1, by omega⟩
  refine ev_fn (nt := 53) (kb := kb49) (kr := kr49) rfl rfl (Nat.le_of_ble_eq_true rfl) ?_
  refine cgo ?_
  refine g_do rfl (o_max (xt rfl) xc ?_)
  rw [if_neg (by omega)]
  refine g_do rfl (o_min (xt rfl) xc ?_)
  rw [if_neg (by omega)]
  refine cgo ?_
  refine g_do rfl (o_make (xt rfl) (xt rfl) (by omega) (by omega) (rep_one _ _) fun f id => ?_)
  refine cgo ?_
  refine g_do rfl (o_sub (xt rfl) xc (by constructor <;> omega) ?_)
  refine cgo ?_
  refine w_block (w_loop ?_)
  have hrow : (rowW ([] ++ List.replicate (k + 1) []) (k + 1) f id) = .row (List.replicate (k + 1) (AV.str ⟨#[]⟩)) (k + 1) ⟨f, id, 0, 1⟩ := by
    show AV.row ((List.replicate (k + 1) []).map fun l => AV.str (mkT l)) _ _ = _
    rw [List.map_replicate]
  refine l_sub (e' := [(0, .str (mkT s)), (1, .str blanksT), (2, .int .i64 ((k + 1 : Nat) : Int)), (7, rowW ([] ++ List.replicate (k + 1) []) (k + 1) f id), (8, .int .i64 ((0 : Nat) : Int)), (19, .int .i64 (((k + 1 : Nat) : Int) - 1)), (20, .int .i64 (([] : List (List UInt8)).length : Int))]) (by rw [hrow]; exact .cons rfl (.cons rfl (.cons rfl (.cons rfl (.cons rfl (.cons rfl (.cons rfl .nil))))))) (fun _ h => h) ?_
  refine ws_loop (RES := wordsR k s) hs (by omega) (fun id i done e hi hd hr hS => ?_) (fun id e hS => ?_) k 0 [] id (by simp) (by omega) rfl
  · refine w_sub hS (fun _ h => h) ?_
    refine cgo ?_
    refine g_do rfl (o_sub (xt rfl) xc (by constructor <;> omega) ?_)
    refine cgo ?_
    refine g_do rfl (o_cutl (xt rfl) (xt rfl) ⟨by omega, by rw [hsz]; omega⟩ ?_)
    rw [Int.toNat_natCast, cut_mk, hsz, List.take_of_length_le (by rw [List.length_drop]; exact Nat.le_refl _)]
    refine cgo ?_
    refine g_do rfl (o_call (.cons (xt rfl) (.cons (xt rfl) .nil)) (trim_ev (by rw [List.length_drop]; omega) ?_))
    refine g_do rfl (o_iaddr (xt rfl) (xt rfl) ⟨by omega, by omega⟩ rfl ?_)
    rw [show ((((k + 1 : Nat) : Int) - 1).toNat * 1) = done.length by omega]
    have hlen : (List.map (fun l => AV.str (mkT l)) (done ++ [[]])).length = k + 1 := by simp; omega
    refine g_el (k := 7) (m := (k + 1) * 1) (fs' := fun id' => .row f id' (0 + (List.map (fun l => AV.str (mkT l)) (done ++ [[]])).length) :: fs) (xt rfl) (xt rfl) rfl rfl (by decide) (by rw [hlen]; omega) rfl (fun _ => .here) fun id' => ?_
    rw [hlen, show 0 + (k + 1) = (k + 1) * 1 by omega]
    have hu : (List.map (fun l => AV.str (mkT l)) (done ++ [[]])).take done.length ++ [AV.str (mkT (trimL (s.drop i)))] ++ (List.map (fun l => AV.str (mkT l)) (done ++ [[]])).drop (done.length + 1) = List.map (fun l => AV.str (mkT l)) (wordsR k s) := by
      rw [← hr, List.map_append, List.take_left' (by simp), ← List.drop_drop, List.drop_left' (by simp), List.map_append]
      simp
    show WG sW ftab _ 53 ((7, .row ((List.map (fun l => AV.str (mkT l)) (done ++ [[]])).take done.length ++ [AV.str (mkT (trimL (s.drop i)))] ++ (List.map (fun l => AV.str (mkT l)) (done ++ [[]])).drop (done.length + 1)) (k + 1) ⟨f, id', 0, 1⟩) :: _) _ _
    rw [hu]
    refine cgo ?_
    exact ⟨trivial, _, _, .one (.tmp rfl), .refl _, h f id'⟩
  · exact ⟨trivial, _, _, .one (.tmp (hS.lk _ _ rfl)), .refl _, h f id⟩
section
variable {S : Sum} {F : FuncId → Option AF} {L : Nat} {fs fs' : List Fact} {e : Env}
theorem w_nd {k : KC} {Q : AO → Env → List Fact → Prop} (h : (fs.map Fact.key).Nodup → WC S F k L e fs Q) : WC S F k L e fs Q := fun ts h0 h1 h2 => h h2.nodup ts h0 h1 h2
theorem g_nd {k : KR} {Q : Env → List Fact → Prop} (h : (fs.map Fact.key).Nodup → WG S F k L e fs Q) : WG S F k L e fs Q := fun ts h0 h1 h2 => h h2.nodup ts h0 h1 h2
theorem nd_new {i j : Nat} {a b : ABlk} (h : ((Fact.blk i a :: fs).map Fact.key).Nodup) (hj : Has fs (.blk j b)) : j ≠ i := by
  rintro rfl
  rw [List.map_cons, List.nodup_cons] at h
  exact h.1 (List.mem_map.2 ⟨_, hj.mem, rfl⟩)
end
theorem nd_key {i : Nat} {a : ABlk} {y : Fact} (h : ((Fact.blk i a :: fs).map Fact.key).Nodup) (hy : Has fs y) : y.key ≠ (0, i) := by
  intro e
  rw [List.map_cons, List.nodup_cons] at h
  exact h.1 (List.mem_map.2 ⟨_, hy.mem, e⟩)
theorem k1w {j a : Nat} (h1 : j ≠ a) : ∀ x ∈ [((0 : Nat), j)], x.1 = 0 ∧ x.2 ≠ a := fun x hx => by rw [List.mem_singleton.1 hx]; exact ⟨rfl, h1⟩
theorem nok {α : Type} {p : α → Prop} : ∀ x ∈ ([] : List α), p x := fun x hx => by cases hx
theorem k1of {j a b c : Nat} (h1 : j ≠ a) (h2 : j ≠ b) (h3 : j ≠ c) : ∀ x ∈ [((0 : Nat), j)], x.1 = 0 ∧ x.2 ≠ a ∧ x.2 ≠ b ∧ x.2 ≠ c := fun x hx => by rw [List.mem_singleton.1 hx]; exact ⟨rfl, h1, h2, h3⟩
theorem map_scalar2 (T : List ByteArray) : (T.map AV.str).all scalar = true := by
  rw [List.all_eq_true]
  intro x hx
  obtain ⟨s, _, rfl⟩ := List.mem_map.1 hx
  rfl
/-! A line. -/
theorem idx_app {c : Nat} {x : UInt8} (hx : x.toNat = c) : ∀ (a b : List UInt8) (i : Nat), (∀ y ∈ a, y.toNat ≠ c) → idxOf c (a ++ x :: b) i = ((i + a.length : Nat) : Int)
  | [], b, i, h => by
    show idxOf c (x :: b) i = _
    rw [idxOf_cons, if_pos hx]; rfl
  | y :: a, b, i, h => by
    show idxOf c (y :: (a ++ x :: b)) i = _
    rw [idxOf_cons, if_neg (h y (List.mem_cons_self ..)), idx_app hx a b (i + 1) fun z hz => h z (List.mem_cons_of_mem _ hz), List.length_cons]
    congr 1; omega
abbrev zlT : ByteArray := ⟨#[0, 10]⟩
theorem cut_ev {p more : List UInt8} (h0 : ∀ b ∈ p ++ 10 :: more, b.toNat ≠ 0) (h10 : ∀ b ∈ p, b.toNat ≠ 10) (hp : p.length ≤ 1000) (hm : more.length ≤ 1000) {K : KK} (h : K (.str (mkT p)) fs) : Ev sW ftab 67 [.str (mkT (p ++ 10 :: more)), .str zlT] fs K := by
  have hsz : (mkT (p ++ 10 :: more)).size = p.length + 1 + more.length := by rw [mkT_size, List.length_append, List.length_cons]; omega
  refine ev_fn (nt := 28) (kb := kb67) (kr := kr67) rfl rfl (Nat.le_of_ble_eq_true rfl) ?_
  refine cgo ?_
  refine w_block (w_loop (l_round ?_))
  refine cgo ?_
  refine g_do rfl (o_lss (xt rfl) (xt rfl) (fun _ => ?_) (fun h => absurd (by decide) h))
  refine cgo ?_
  refine w_block ?_
  refine cgo ?_
  refine g_do rfl (o_idx (b := 0) (xt rfl) (xt rfl) (by decide) rfl ?_)
  refine g_do rfl (o_call (.cons (xt rfl) (.cons (xt rfl) .nil)) (ix3_ev (b := (0 : UInt8).toNat) (by decide) ?_))
  rw [mk_list, show idxOf (0 : UInt8).toNat (p ++ 10 :: more) 0 = -1 by
    rcases idxOf_spec 0 (p ++ 10 :: more) 0 with ⟨h1, _⟩ | ⟨k, _, _, _, b, h2, h3⟩
    · exact h1
    · exact absurd h3 (h0 b (List.mem_of_getElem? h2))]
  refine cgo ?_
  refine g_do rfl (o_geq (xt rfl) xc (fun h => absurd h (by decide)) (fun _ => ?_))
  refine cgo ?_
  refine g_do rfl (o_add (xt rfl) xc (by constructor <;> decide) ?_)
  refine cgo ?_
  refine l_sub (e' := [(0, .str (mkT (p ++ 10 :: more))), (1, .str zlT), (8, .int .i64 2), (9, .int .i64 1)]) (.cons rfl (.cons rfl (.cons rfl (.cons rfl .nil)))) (fun _ h => h) ?_
  refine l_round ?_
  refine cgo ?_
  refine g_do rfl (o_lss (xt rfl) (xt rfl) (fun _ => ?_) (fun h => absurd (by decide) h))
  refine cgo ?_
  refine w_block ?_
  refine cgo ?_
  refine g_do rfl (o_idx (b := 10) (xt rfl) (xt rfl) (by decide) rfl ?_)
  refine g_do rfl (o_call (.cons (xt rfl) (.cons (xt rfl) .nil)) (ix3_ev (b := (10 : UInt8).toNat) (by decide) ?_))
  rw [mk_list, idx_app (x := 10) rfl p more 0 h10, Nat.zero_add]
  refine cgo ?_
  refine g_do rfl (o_geq (xt rfl) xc (fun _ => ?_) (fun h => absurd (by omega) h))
  refine cgo ?_
  refine g_do rfl (o_cuth (xt rfl) (xt rfl) ⟨by omega, by rw [hsz]; omega⟩ ?_)
  rw [Int.toNat_natCast, cut_mk, List.drop_zero, Nat.sub_zero, List.take_left' rfl]
  refine cgo ?_
  refine g_do rfl (o_add (xt rfl) xc (by constructor <;> decide) ?_)
  refine cgo ?_
  refine l_sub (e' := [(0, .str (mkT p)), (1, .str zlT), (8, .int .i64 2), (9, .int .i64 2)]) (.cons rfl (.cons rfl (.cons rfl (.cons rfl .nil)))) (fun _ h => h) ?_
  refine l_round ?_
  refine cgo ?_
  refine g_do rfl (o_lss (xt rfl) (xt rfl) (fun h => absurd h (by decide)) (fun _ => ?_))
  refine cgo ?_
  refine g_do rfl (o_min (xt rfl) xc ?_)
  rw [mkT_size, if_neg (by omega)]
  refine g_do rfl (o_cuth (xt rfl) (xt rfl) ⟨by omega, by rw [mkT_size]; omega⟩ ?_)
  rw [Int.toNat_natCast, cut_mk, List.drop_zero, Nat.sub_zero, List.take_length]
  refine cgo ?_
  exact ⟨trivial, _, _, .one (.tmp rfl), .refl _, h⟩
/-- A world with nothing left to be read. -/
def WEmp (fs : List Fact) (w : Nat) : Prop := ∃ tv ov rv fu, Has fs (.blk w (.cells [tv, ov, rv, fu])) ∧ RV fs 1 rv [] 0
theorem WEmp.fr {w : Nat} {ks : List (Nat × Nat)} (h : WEmp fs w) (g : Fr ks fs fs') (hk : ∀ x ∈ ks, x.1 = 0 ∧ x.2 ≠ w) : WEmp fs' w := by
  obtain ⟨tv, ov, rv, fu, h1, h2⟩ := h
  exact ⟨tv, ov, rv, fu, g _ h1 fun hm => (hk _ hm).2 rfl, h2.fr g fun x hx => (hk x hx).1⟩
def WOne (fs : List Fact) (w : Nat) (s : ByteArray) : Prop := ∃ tv ov rv fu, Has fs (.blk w (.cells [tv, ov, rv, fu])) ∧ RV fs 1 rv [.str s] 1
theorem WOne.fr {w : Nat} {s : ByteArray} {ks : List (Nat × Nat)} (h : WOne fs w s) (g : Fr ks fs fs') (hk : ∀ x ∈ ks, x.1 = 0 ∧ x.2 ≠ w) : WOne fs' w s := by
  obtain ⟨tv, ov, rv, fu, h1, h2⟩ := h
  exact ⟨tv, ov, rv, fu, g _ h1 fun hm => (hk _ hm).2 rfl, h2.fr g fun x hx => (hk x hx).1⟩
theorem rd0_ev {w : Nat} (hW : WEmp fs w) {K : KK} (h : K (.tup [.str (mkT []), .bool false]) fs) : Ev sW ftab 48 [.ptr w 0] fs K := by
  obtain ⟨tv, ov, rv, fu, hw, hr⟩ := hW
  refine ev_fn (nt := 27) (kb := kb48) (kr := kr48) rfl rfl (Nat.le_of_ble_eq_true rfl) ?_
  refine cgo ?_
  refine g_do rfl (o_load (xt rfl) hw rfl ?_)
  refine g_do rfl (o_len (xt rfl) hr ?_)
  refine g_do rfl (o_eqi (xt rfl) xc (fun _ => ?_) (fun h => absurd rfl h))
  refine cgo ?_
  exact ⟨trivial, _, _, .tup (.cons (.tmp rfl) (.cons (.tmp rfl) .nil)), .refl _, h⟩
theorem rd1_ev {w : Nat} {p more : List UInt8} (hW : WOne fs w (mkT (p ++ 10 :: more))) (h0 : ∀ b ∈ p ++ 10 :: more, b.toNat ≠ 0) (h10 : ∀ b ∈ p, b.toNat ≠ 10) (hp : p.length ≤ 1000) (hm : more.length ≤ 1000) {K : KK} (h : ∀ fs', Fr [(0, w)] fs fs' → WEmp fs' w → K (.tup [.str (mkT p), .bool true]) fs') : Ev sW ftab 48 [.ptr w 0] fs K := by
  obtain ⟨tv, ov, rv, fu, hw, hr⟩ := hW
  obtain ⟨sr, rfl, hrd, hz⟩ := hr.some (by decide)
  refine ev_fn (nt := 27) (kb := kb48) (kr := kr48) rfl rfl (Nat.le_of_ble_eq_true rfl) ?_
  refine cgo ?_
  refine g_do rfl (o_load (xt rfl) hw rfl ?_)
  refine cgo ?_
  refine g_do rfl (o_eqi (xt rfl) xc (fun h => absurd h (by decide)) (fun _ => ?_))
  refine cgo ?_
  refine g_do rfl (o_load (xt rfl) hw rfl ?_)
  refine g_do rfl (o_iaddr (xt rfl) xc ⟨by decide, by decide⟩ hz ?_)
  refine g_do rfl (o_loadr (v := .str (mkT (p ++ 10 :: more))) (xt rfl) hrd rfl ?_)
  refine cgo ?_
  refine g_do rfl (o_load (xt rfl) hw rfl ?_)
  refine g_do rfl (o_cutv (p := 1) (q := 1) (xt rfl) hr (.some xc) .none (bounds_lo ⟨by decide, by decide⟩) ?_)
  have hcv : RV fs 1 (cutV (.row [.str (mkT (p ++ 10 :: more))] 1 sr) 1 1 1) [] 0 := cutV_rv (p := 1) (q := 1) hr ⟨by decide, by decide⟩
  refine cgo ?_
  obtain ⟨fsP, hP⟩ := hw.put (.blk w (.cells [tv, ov, cutV (.row [.str (mkT (p ++ 10 :: more))] 1 sr) 1 1 1, fu]))
  refine g_do0 (o_store (xt rfl) (xt rfl) hP ⟨rfl, (Nat.le_of_ble_eq_true rfl)⟩ rfl rfl ?_)
  refine cgo ?_
  refine g_do rfl (o_call (.cons (xt rfl) (.cons xc .nil)) (cut_ev h0 h10 hp hm ?_))
  refine cgo ?_
  exact ⟨trivial, _, _, .tup (.cons (.tmp rfl) (.cons (.tmp rfl) .nil)), .refl _, h _ (Fr.put hP) ⟨_, _, _, _, hP.hasNew, hcv.fr (Fr.put hP) zk⟩⟩
/-! Names. -/
theorem fn_ev {s : ByteArray} (hs : s.size ≤ 1000000000) (hn : NameOk s) {K : KK} (h : K (.bool false) fs) : Ev sW ftab 47 [.str s] fs K := by
  refine ev_fn (nt := 6) (kb := kb47) (kr := kr47) rfl rfl (Nat.le_of_ble_eq_true rfl) ?_
  refine cgo ?_
  refine g_do rfl (o_call (.cons (xt rfl) .nil) (name_ev hs (fun _ => ?_) (fun h9 => absurd hn h9)))
  refine cgo ?_
  exact ⟨trivial, _, _, .one (.tmp rfl), .refl _, h⟩
def NamesOk (T : List ByteArray) : Prop := ∀ t ∈ T, NameOk t ∧ t.size ≤ 1000
theorem ixf_loop {v : AV} {T : List ByteArray} (hv : RV fs 1 v (T.map .str) T.length) (hT : T.length ≤ 1000) (hN : NamesOk T) {Q : AO → Env → List Fact → Prop} (hQ : ∀ e, Q (.exit 0) e fs) : ∀ (k i : Nat), i + k = T.length →
    WL sW ftab lb66_0 19 [(0, v), (1, .fn 47 []), (7, .int .i64 T.length), (8, .int .i64 (i : Int))] fs Q
  | 0, i, hi => by
    refine l_round ?_
    refine cgo ?_
    refine g_do rfl (o_lss (xt rfl) (xt rfl) (fun h => by omega) (fun h => ?_))
    refine cgo ?_
    exact hQ _
  | k + 1, i, hi => by
    have hlt : i < T.length := by omega
    have hn := hN T[i] (List.getElem_mem hlt)
    obtain ⟨sr, rfl, hrd, hz⟩ := hv.some (by omega)
    refine l_round ?_
    refine cgo ?_
    refine g_do rfl (o_lss (xt rfl) (xt rfl) (fun h => ?_) (fun h => by omega))
    refine cgo ?_
    refine w_block ?_
    refine cgo ?_
    refine g_do rfl (o_iaddr (xt rfl) (xt rfl) ⟨by omega, by omega⟩ hz ?_)
    refine g_do rfl (o_loadr (v := .str T[i]) (xt rfl) hrd (by
      show (T.map AV.str)[(((i : Nat) : Int).toNat * 1)]? = _
      rw [Nat.mul_one, Int.toNat_natCast, List.getElem?_map, List.getElem?_eq_getElem hlt]; rfl) ?_)
    refine g_do rfl (o_callf (cs := []) (xt rfl) (.cons (xt rfl) .nil) (fn_ev (by have := hn.2; omega) hn.1 ?_))
    refine cgo ?_
    refine g_do rfl (o_add (xt rfl) xc (by constructor <;> omega) ?_)
    refine cgo ?_
    refine l_sub (e' := [(0, .row (T.map .str) T.length sr), (1, .fn 47 []), (7, .int .i64 T.length), (8, .int .i64 ((i + 1 : Nat) : Int))]) (.cons rfl (.cons rfl (.cons rfl (.cons rfl .nil)))) (fun _ h => h) ?_
    exact ixf_loop hv hT hN hQ k (i + 1) (by omega)
theorem cfn_ev {v : AV} {T : List ByteArray} (hv : RV fs 1 v (T.map .str) T.length) (hT : T.length ≤ 1000) (hN : NamesOk T) {K : KK} (h : K (.bool false) fs) : Ev sW ftab 46 [v, .fn 47 []] fs K := by
  refine ev_fn (nt := 9) (kb := kb46) (kr := kr46) rfl rfl (Nat.le_of_ble_eq_true rfl) ?_
  refine cgo ?_
  refine g_do rfl (o_call (.cons (xt rfl) (.cons (xt rfl) .nil)) (ev_fn (nt := 19) (kb := kb66) (kr := kr66) rfl rfl (Nat.le_of_ble_eq_true rfl) ?_))
  refine cgo ?_
  refine g_do rfl (o_len (xt rfl) hv ?_)
  refine cgo ?_
  refine w_block (w_loop ?_)
  refine l_sub (e' := [(0, v), (1, .fn 47 []), (7, .int .i64 T.length), (8, .int .i64 ((0 : Nat) : Int))]) (.cons rfl (.cons rfl (.cons rfl (.cons rfl .nil)))) (fun _ h => h) ?_
  refine ixf_loop hv hT hN (fun e => ?_) T.length 0 (by omega)
  refine cgo ?_
  refine ⟨trivial, _, _, .one (.tmp rfl), .refl _, ?_⟩
  refine g_do rfl (o_geq (xt rfl) xc (fun h9 => absurd h9 (by decide)) (fun _ => ?_))
  refine cgo ?_
  exact ⟨trivial, _, _, .one (.tmp rfl), .refl _, h⟩
/-! What is read, in variables. -/
theorem wordsR_len : ∀ (k : Nat) (r : List UInt8), (wordsR k r).length = k + 1
  | 0, r => rfl
  | k + 1, r => by
    unfold wordsR
    split
    · simp
    · rw [List.length_cons, wordsR_len k]
noncomputable def setsD : List ByteArray → List (List UInt8) → List PV → List PV
  | t :: T, v :: V, D => setsD T V (setD D t (mkT v))
  | _, _, D => D
theorem setD_len {D : List PV} {k v : ByteArray} (hU : UpV D) : UpV (setD D k v) ∧ (setD D k v).length ≤ D.length + 1 := by
  have hins : ∀ (D : List PV), (insD D k v).length ≤ D.length + 1 := by
    intro D
    induction D with
    | nil => exact Nat.le_refl _
    | cons p D ih =>
      simp only [insD]
      split
      · rw [List.length_cons, List.length_cons]; omega
      · split
        · rw [List.length_cons, List.length_cons]; omega
        · rw [List.length_cons, List.length_cons]; omega
  by_cases h1 : NameOk k
  · by_cases h2 : SetOk D k v
    · rw [(set_good h1 h2).2]; exact ⟨ins_up hU, hins D⟩
    · rw [(set_bad h1 h2).2]; exact ⟨hU, by omega⟩
  · rw [(set_no h1).2]; exact ⟨hU, by omega⟩
theorem read_loop {e m f n : Nat} {A : List ByteArray} {G : UInt8 → Bool} {nv wv : AV} {T : List ByteArray} {V : List (List UInt8)} {fs0 : List Fact} {R : List PV} (hv : RV fs0 1 nv (T.map .str) T.length) (hw : RV fs0 1 wv (V.map fun l => .str (mkT l)) V.length) (hl : V.length = T.length) (hT : T.length ≤ 50) (hN : NamesOk T) (hF : ∀ v ∈ V, Fits (mkT v)) {Q : AO → Env → List Fact → Prop} {b6 b9 : Nat}
    (hQ : ∀ fs1 en, Fr [(0, m)] fs0 fs1 → EInv fs1 e m f R A G → Sub en [(6, .ptr b6 0), (9, .ptr b9 0)] → Q (.exit 0) en fs1) : ∀ (k i : Nat) (D : List PV) (fs1 : List Fact), i + k = T.length → Fr [(0, m)] fs0 fs1 → EInv fs1 e m f D A G → UpV D → D.length ≤ 10 + i → setsD (T.drop i) (V.drop i) D = R →
    WL sW ftab lb26_0 63 [(0, .ptr e 0), (6, .ptr b6 0), (9, .ptr b9 0), (10, wv), (38, nv), (39, .int .i64 T.length), (40, .int .i64 (i : Int))] fs1 Q
  | 0, i, D, fs1, hi, hfr, hE, hU, hD, hR => by
    refine l_round ?_
    refine cgo ?_
    refine g_do rfl (o_lss (xt rfl) (xt rfl) (fun h => by omega) (fun h => ?_))
    refine cgo ?_
    rw [List.drop_of_length_le (by omega)] at hR
    have hR : D = R := by rw [← hR]; rfl
    subst hR
    exact hQ _ _ hfr hE (.cons rfl (.cons rfl .nil))
  | k + 1, i, D, fs1, hi, hfr, hE, hU, hD, hR => by
    have hlt : i < T.length := by omega
    have hltV : i < V.length := by omega
    have hn := hN T[i] (List.getElem_mem hlt)
    have hf := hF V[i] (List.getElem_mem hltV)
    obtain ⟨sr, rfl, hrd, hz⟩ := hv.some (by omega)
    obtain ⟨sw, rfl, hrw, hzw⟩ := hw.some (by omega)
    have hv1 := hv.fr hfr zk
    have hw1 := hw.fr hfr zk
    obtain ⟨_, e1, hrd1, _⟩ := hv1.some (by omega)
    cases e1
    obtain ⟨_, e2, hrw1, _⟩ := hw1.some (by omega)
    cases e2
    have hgood := set_good (D := D) (v := mkT V[i]) hn.1 ⟨hf, Or.inr (by omega)⟩
    rw [List.drop_eq_getElem_cons hlt, List.drop_eq_getElem_cons hltV] at hR
    have hR : setsD (T.drop (i + 1)) (V.drop (i + 1)) (setD D T[i] (mkT V[i])) = R := hR
    refine l_round ?_
    refine cgo ?_
    refine g_do rfl (o_lss (xt rfl) (xt rfl) (fun h => ?_) (fun h => by omega))
    refine cgo ?_
    refine w_block ?_
    refine cgo ?_
    refine g_do rfl (o_iaddr (xt rfl) (xt rfl) ⟨by omega, by omega⟩ hz ?_)
    refine g_do rfl (o_loadr (v := .str T[i]) (xt rfl) hrd1 (by
      show (T.map AV.str)[(((i : Nat) : Int).toNat * 1)]? = _
      rw [Nat.mul_one, Int.toNat_natCast, List.getElem?_map, List.getElem?_eq_getElem hlt]; rfl) ?_)
    refine cgo ?_
    refine g_do rfl (o_lss (xt rfl) (xt rfl) (fun h => ?_) (fun h => by omega))
    refine cgo ?_
    refine g_do rfl (o_iaddr (xt rfl) (xt rfl) ⟨by omega, by omega⟩ hzw ?_)
    refine g_do rfl (o_loadr (v := .str (mkT V[i])) (xt rfl) hrw1 (by
      show (V.map fun l => AV.str (mkT l))[(((i : Nat) : Int).toNat * 1)]? = _
      rw [Nat.mul_one, Int.toNat_natCast, List.getElem?_map, List.getElem?_eq_getElem hltV]; rfl) ?_)
    refine cgo ?_
    refine g_do rfl (o_call (.cons (xt rfl) (.cons (xt rfl) (.cons (xt rfl) .nil))) (eset_ev hE (by have := hn.2; omega) fun fs2 k1 k2 => ?_))
    rw [hgood.1]
    refine cgo ?_
    refine g_do rfl (o_nei (xt rfl) xc (fun _ => ?_) (fun h => absurd rfl h))
    refine cgo ?_
    refine g_do rfl (o_add (xt rfl) xc (by constructor <;> omega) ?_)
    refine cgo ?_
    refine l_sub (e' := [(0, .ptr e 0), (6, .ptr b6 0), (9, .ptr b9 0), (10, .row (V.map fun l => .str (mkT l)) V.length sw), (38, .row (T.map .str) T.length sr), (39, .int .i64 T.length), (40, .int .i64 ((i + 1 : Nat) : Int))]) (.cons rfl (.cons rfl (.cons rfl (.cons rfl (.cons rfl (.cons rfl (.cons rfl .nil))))))) (fun _ h => h) ?_
    obtain ⟨u1, u2⟩ := setD_len (k := T[i]) (v := mkT V[i]) hU
    exact read_loop (n := n) hv hw hl hT hN hF hQ k (i + 1) _ fs2 (by omega) (hfr.trans k1) k2 u1 (by omega) hR
theorem read_ev {e m f w : Nat} {D : List PV} {A : List ByteArray} {G : UInt8 → Bool} {nv : AV} {T : List ByteArray} {l : List UInt8} {ok : Bool} (hE : EInv fs e m f D A G) (hne : w ≠ e ∧ w ≠ m ∧ w ≠ f) (hU : UpV D) (hD : D.length ≤ 10) (hifs : ifsR D = blanksT)
    (hwx : ∃ c, Has fs (.blk w c)) (hRead : ∀ fs0, Fr [] fs fs0 → ∀ K : KK, (∀ fs1, Fr [(0, w)] fs0 fs1 → WEmp fs1 w → K (.tup [.str (mkT l), .bool ok]) fs1) → Ev sW ftab 48 [.ptr w 0] fs0 K)
    (hv : RV fs 1 nv (T.map .str) T.length) (h1 : 1 ≤ T.length) (hT : T.length ≤ 50) (hN : NamesOk T) (hl : l.length ≤ 100000) (hF : ∀ v ∈ wordsR (T.length - 1) l, Fits (mkT v)) {K : KK}
    (h : ∀ fs', Fr [(0, w), (0, m)] fs fs' → WEmp fs' w → EInv fs' e m f (setsD T (wordsR (T.length - 1) l) D) A G → K (.agg [.int .i64 (if ok then 0 else 1), .str ⟨#[]⟩, .int .i64 0, .int .i64 0, .int .i64 0]) fs') : Ev sW ftab 26 [.ptr e 0, .ptr w 0, nv] fs K := by
  refine ev_fn (nt := 63) (kb := kb26) (kr := kr26) rfl rfl (Nat.le_of_ble_eq_true rfl) ?_
  refine cgo ?_
  refine g_do rfl (o_box xc rfl fun b6 => ?_)
  refine g_nd fun hnd6 => ?_
  have fr1 : Fr [] fs (.blk b6 (.cells [.int .i64 0, .str ⟨#[]⟩, .int .i64 0, .int .i64 0, .int .i64 0]) :: fs) := Fr.cons .refl
  have hb6 : Has (.blk b6 (.cells [.int .i64 0, .str ⟨#[]⟩, .int .i64 0, .int .i64 0, .int .i64 0]) :: fs) (.blk b6 (.cells [.int .i64 0, .str ⟨#[]⟩, .int .i64 0, .int .i64 0, .int .i64 0])) := .here
  obtain ⟨n6e, n6, n6f⟩ : b6 ≠ e ∧ b6 ≠ m ∧ b6 ≠ f := by obtain ⟨_, _, _, _, _, _, I, _, _⟩ := hE; exact ⟨(nd_new hnd6 I.fe).symm, (nd_new hnd6 I.fm).symm, (nd_new hnd6 I.ff).symm⟩
  have n6w : b6 ≠ w := by obtain ⟨c, hc⟩ := hwx; exact (nd_new hnd6 hc).symm
  have hE1 := hE.fr fr1 nok
  refine cgo ?_
  refine g_do rfl (o_len (xt rfl) (hv.fr fr1 nok) ?_)
  refine g_do rfl (o_eqi (xt rfl) xc (fun h9 => by omega) (fun _ => ?_))
  refine cgo ?_
  refine g_do rfl (o_call (.cons (xt rfl) (.cons xf .nil)) (cfn_ev (hv.fr fr1 nok) (by omega) hN ?_))
  refine cgo ?_
  refine g_do rfl (o_call (.cons (xt rfl) .nil) (hRead _ fr1 _ fun fs1 k1 hw1 => ?_))
  have hb1 := k1 _ hb6 (bk n6w)
  have hE2 := hE1.fr k1 (k1of hne.1 hne.2.1 hne.2.2)
  have hv1 := (hv.fr fr1 nok).fr k1 zk
  refine cgo ?_
  refine g_do rfl (o_box xc rfl fun b9 => ?_)
  refine g_nd fun hnd9 => ?_
  have n96 : b9 ≠ b6 := (nd_new hnd9 hb1).symm
  have n9m : b9 ≠ m := by obtain ⟨_, _, _, _, _, _, I, _, _⟩ := hE2; exact (nd_new hnd9 I.fm).symm
  refine rgo ?_
  refine w_mid (fun e' fs' => fs' = (.blk b9 (.cells [.int .i64 (if ok then 0 else 1), .str ⟨#[]⟩, .int .i64 0, .int .i64 0, .int .i64 0]) :: fs1) ∧ Sub e' [(0, .ptr e 0), (2, nv), (6, .ptr b6 0), (7, .str (mkT l)), (9, .ptr b9 0)]) (w_rs ?_) ?_
  · cases ok with
    | true =>
      refine cgo ?_
      exact ⟨rfl, rfl, .cons rfl (.cons rfl (.cons rfl (.cons rfl (.cons rfl .nil))))⟩
    | false =>
      refine cgo ?_
      refine g_do0 (o_store (cs' := [.int .i64 1, .str ⟨#[]⟩, .int .i64 0, .int .i64 0, .int .i64 0]) (xt rfl) xc .here ⟨rfl, (Nat.le_of_ble_eq_true rfl)⟩ rfl rfl ?_)
      refine cgo ?_
      exact ⟨rfl, rfl, .cons rfl (.cons rfl (.cons rfl (.cons rfl (.cons rfl .nil))))⟩
  rintro en _ ⟨rfl, hS⟩
  refine w_sub hS (fun _ h => h) ?_
  have fr2 : Fr [] fs1 (.blk b9 (.cells [.int .i64 (if ok then 0 else 1), .str ⟨#[]⟩, .int .i64 0, .int .i64 0, .int .i64 0]) :: fs1) := Fr.cons .refl
  have hb9 : Has (.blk b9 (.cells [.int .i64 (if ok then 0 else 1), .str ⟨#[]⟩, .int .i64 0, .int .i64 0, .int .i64 0]) :: fs1) (.blk b9 (.cells [.int .i64 (if ok then 0 else 1), .str ⟨#[]⟩, .int .i64 0, .int .i64 0, .int .i64 0])) := .here
  have hE3 := hE2.fr fr2 nok
  have hv3 := hv1.fr fr2 nok
  have hw3 := hw1.fr fr2 nok
  have hb3 := fr2 _ hb1 (by simp)
  generalize (Fact.blk b9 (.cells [.int .i64 (if ok then 0 else 1), .str ⟨#[]⟩, .int .i64 0, .int .i64 0, .int .i64 0]) :: fs1) = fs3 at fr2 hb9 hE3 hv3 hw3 hb3 ⊢
  refine cgo ?_
  refine g_do rfl (o_call (.cons (xt rfl) .nil) (eifs_ev hE3 ?_))
  rw [hifs]
  refine cgo ?_
  refine g_do rfl (o_len (xt rfl) hv3 ?_)
  refine g_do rfl (o_call (.cons (xt rfl) (.cons (xt rfl) (.cons (xt rfl) .nil))) (words_ev hl h1 (by omega) fun f0 id0 => ?_))
  have hVl : (wordsR (T.length - 1) l).length = T.length := by rw [wordsR_len]; omega
  have fr4 : Fr [] fs3 (.row f0 id0 (T.length * 1) :: fs3) := Fr.cons .refl
  have hE4 := hE3.fr fr4 nok
  have hv4 := hv3.fr fr4 nok
  have hw4 := hw3.fr fr4 nok
  have hb4 := fr4 _ hb3 (by simp)
  have hb94 := fr4 _ hb9 (by simp)
  have hrw : RV (.row f0 id0 (T.length * 1) :: fs3) 1 (rowW (wordsR (T.length - 1) l) T.length f0 id0) ((wordsR (T.length - 1) l).map fun l => .str (mkT l)) (wordsR (T.length - 1) l).length := by
    rw [hVl]; exact .row (s := ⟨f0, id0, 0, 1⟩) (.own .here) rfl
  generalize rowW (wordsR (T.length - 1) l) T.length f0 id0 = wv at hrw ⊢
  have fr14 : Fr [(0, w)] fs (.row f0 id0 (T.length * 1) :: fs3) := ((fr1.more nok).trans k1).trans ((fr2.trans fr4).more nok)
  generalize (Fact.row f0 id0 (T.length * 1) :: fs3) = fs4 at fr4 hE4 hv4 hw4 hb4 hb94 hrw fr14 ⊢
  refine cgo ?_
  refine g_do rfl (o_len (xt rfl) hv4 ?_)
  refine cgo ?_
  refine w_block (w_loop ?_)
  refine l_sub (e' := [(0, .ptr e 0), (6, .ptr b6 0), (9, .ptr b9 0), (10, wv), (38, nv), (39, .int .i64 T.length), (40, .int .i64 ((0 : Nat) : Int))]) (.cons rfl (.cons rfl (.cons rfl (.cons rfl (.cons rfl (.cons rfl (.cons rfl .nil))))))) (fun _ h => h) ?_
  refine read_loop (n := 0) (R := setsD T (wordsR (T.length - 1) l) D) hv4 hrw hVl hT hN hF (fun fs5 en k5 hE5 hS => ?_) T.length 0 D fs4 (by omega) .refl hE4 hU (by omega) rfl
  refine w_sub hS (fun _ h => h) ?_
  have hb65 := k5 _ hb4 (bk n6)
  have hb95 := k5 _ hb94 (bk n9m)
  have hw5 := hw4.fr k5 (k1w (Ne.symm hne.2.1))
  refine cgo ?_
  refine g_do rfl (o_load (xt rfl) hb95 rfl ?_)
  obtain ⟨fsP, hP⟩ := hb65.put (.blk b6 (.cells [.int .i64 (if ok then 0 else 1), .str ⟨#[]⟩, .int .i64 0, .int .i64 0, .int .i64 0]))
  refine g_do0 (o_store (xt rfl) (xt rfl) hP ⟨rfl, (Nat.le_of_ble_eq_true rfl)⟩ rfl rfl ?_)
  refine cgo ?_
  refine ⟨trivial, _, _, .one (.cell rfl hP.hasNew rfl), .refl _, h fsP (fun y hy hn => ?_) (hw5.fr (Fr.put hP) (k1w n6w)) (hE5.fr (Fr.put hP) (k1of n6e n6 n6f))⟩
  have q1 : y.key ≠ (0, w) := fun e => hn (by simp [e])
  have q2 : y.key ≠ (0, m) := fun e => hn (by simp [e])
  have q3 := nd_key hnd6 hy
  refine Fr.put hP y (k5 y (fr14 y hy (by simpa using q1)) (by simpa using q2)) (fun hm => q3 (List.mem_singleton.1 hm))
/-! Lines. -/
def sepL : List (List UInt8) → List UInt8
  | [] => []
  | _ :: _ => [32, 32]
def lineL : List (List UInt8) → List UInt8
  | [] => []
  | w :: W => w ++ (sepL W ++ lineL W)
def WOk (W : List (List UInt8)) : Prop := ∀ w ∈ W, w ≠ [] ∧ (∀ b ∈ w, 32 < b.toNat) ∧ w.length ≤ 20
theorem nb {b : UInt8} (h : 32 < b.toNat) : isBl b = false := decide_eq_false (by
  rintro (rfl | rfl | rfl)
  · exact absurd h (by decide)
  · exact absurd h (by decide)
  · exact absurd h (by decide))
theorem line_snoc : ∀ (W : List (List UInt8)) (s : List UInt8), lineL (W ++ [s]) = (if W = [] then s else lineL W ++ ([32, 32] ++ s))
  | [], s => by simp [lineL, sepL]
  | w :: W, s => by
    show w ++ (sepL (W ++ [s]) ++ lineL (W ++ [s])) = _
    rw [if_neg (show ¬ (w :: W) = [] by simp), line_snoc W s]
    cases W with
    | nil => simp [lineL, sepL]
    | cons w2 W => simp [lineL, sepL]
theorem line_len : ∀ {W : List (List UInt8)}, WOk W → (lineL W).length ≤ 22 * W.length
  | [], h => Nat.le_refl _
  | w :: W, h => by
    have ih := line_len (W := W) fun x hx => h x (List.mem_cons_of_mem _ hx)
    have hw := (h w (List.mem_cons_self ..)).2.2
    have hs : (sepL W).length ≤ 2 := by cases W <;> simp [sepL]
    show (w ++ (sepL W ++ lineL W)).length ≤ _
    rw [List.length_append, List.length_append, List.length_cons]; omega
theorem line_byte : ∀ {W : List (List UInt8)}, WOk W → ∀ b ∈ lineL W, b.toNat = 32 ∨ 32 < b.toNat
  | [], h, b, hb => by cases hb
  | w :: W, h, b, hb => by
    rcases List.mem_append.1 hb with hb | hb
    · exact Or.inr ((h w (List.mem_cons_self ..)).2.1 b hb)
    · rcases List.mem_append.1 hb with hb | hb
      · cases W with
        | nil => cases hb
        | cons w2 W => simp [sepL] at hb; subst hb; exact Or.inl rfl
      · exact line_byte (fun x hx => h x (List.mem_cons_of_mem _ hx)) b hb
theorem line_head {w : List UInt8} {W : List (List UInt8)} (h : WOk (w :: W)) : ∃ b t, lineL (w :: W) = b :: t ∧ isBl b = false := by
  obtain ⟨h1, h2, _⟩ := h w (List.mem_cons_self ..)
  cases w with
  | nil => exact absurd rfl h1
  | cons b w => exact ⟨b, _, rfl, nb (h2 b (List.mem_cons_self ..))⟩
theorem line_last : ∀ {W : List (List UInt8)} {w : List UInt8}, WOk (w :: W) → ∃ l b, lineL (w :: W) = l ++ [b] ∧ isBl b = false
  | [], w, h => by
    obtain ⟨h1, h2, _⟩ := h w (List.mem_cons_self ..)
    refine ⟨w.dropLast, w.getLast h1, ?_, nb (h2 _ (List.getLast_mem h1))⟩
    show w ++ ([] ++ []) = _
    rw [List.append_nil, List.append_nil]; exact (List.dropLast_concat_getLast h1).symm
  | w2 :: W, w, h => by
    obtain ⟨l, b, h1, h2⟩ := line_last (W := W) (w := w2) fun x hx => h x (List.mem_cons_of_mem _ hx)
    refine ⟨w ++ (sepL (w2 :: W) ++ l), b, ?_, h2⟩
    show w ++ (sepL (w2 :: W) ++ lineL (w2 :: W)) = _
    rw [h1, List.append_assoc, List.append_assoc]
theorem dw_all {p : UInt8 → Bool} : ∀ {a b : List UInt8}, (∀ x ∈ a, p x = true) → (a ++ b).dropWhile p = b.dropWhile p
  | [], b, h => rfl
  | x :: a, b, h => by
    show (x :: (a ++ b)).dropWhile p = _
    rw [List.dropWhile_cons, h x (List.mem_cons_self ..), if_pos rfl]
    exact dw_all fun y hy => h y (List.mem_cons_of_mem _ hy)
theorem tw_all {p : UInt8 → Bool} {x : UInt8} (hx : p x = false) : ∀ {a b : List UInt8}, (∀ y ∈ a, p y = true) → (a ++ x :: b).takeWhile p = a ∧ (a ++ x :: b).dropWhile p = x :: b
  | [], b, h => by
    show (x :: b).takeWhile p = [] ∧ (x :: b).dropWhile p = x :: b
    rw [List.takeWhile_cons, List.dropWhile_cons, hx]; exact ⟨rfl, rfl⟩
  | y :: a, b, h => by
    obtain ⟨h1, h2⟩ := tw_all hx (a := a) (b := b) fun z hz => h z (List.mem_cons_of_mem _ hz)
    show (y :: (a ++ x :: b)).takeWhile p = _ ∧ (y :: (a ++ x :: b)).dropWhile p = _
    rw [List.takeWhile_cons, List.dropWhile_cons, h y (List.mem_cons_self ..), if_pos rfl, if_pos rfl, h1, h2]; exact ⟨rfl, rfl⟩
theorem dw_stop {p : UInt8 → Bool} {x : UInt8} {b : List UInt8} (hx : p x = false) : (x :: b).dropWhile p = x :: b := by
  rw [List.dropWhile_cons, hx]; rfl
theorem trim_line {W : List (List UInt8)} {sp : List UInt8} (h : WOk W) (hs : ∀ b ∈ sp, isBl b = true) : trimL (sp ++ (lineL W ++ [32])) = lineL W := by
  unfold trimL
  rw [dw_all hs]
  cases W with
  | nil => rfl
  | cons w W =>
    obtain ⟨b, t, h1, h2⟩ := line_head h
    obtain ⟨l, c, h3, h4⟩ := line_last h
    rw [show lineL (w :: W) ++ [32] = b :: (t ++ [32]) by rw [h1]; rfl, dw_stop h2, show b :: (t ++ [32]) = lineL (w :: W) ++ [32] by rw [h1]; rfl, h3]
    rw [List.reverse_append, List.reverse_append]
    show (List.dropWhile isBl (32 :: (c :: l.reverse))).reverse = _
    rw [List.dropWhile_cons, show isBl 32 = true from rfl, if_pos rfl, dw_stop h4, List.reverse_cons, List.reverse_reverse]
def expL : Nat → List (List UInt8) → List (List UInt8)
  | 0, W => [lineL W]
  | k + 1, [] => List.replicate (k + 2) []
  | k + 1, w :: W => w :: expL k W
theorem exp_nil : ∀ k, expL k [] = List.replicate (k + 1) []
  | 0 => rfl
  | k + 1 => rfl
theorem words_line : ∀ (k : Nat) {W : List (List UInt8)} {sp : List UInt8}, WOk W → (∀ b ∈ sp, isBl b = true) → wordsR k (sp ++ (lineL W ++ [32])) = expL k W
  | 0, W, sp, h, hs => by
    show [trimL _] = [lineL W]
    rw [trim_line h hs]
  | k + 1, [], sp, h, hs => by
    have e1 : (sp ++ (lineL [] ++ [32])).dropWhile isBl = [] := by rw [dw_all hs]; rfl
    show wordsR (k + 1) _ = List.replicate (k + 2) []
    unfold wordsR
    rw [e1]; exact if_pos rfl
  | k + 1, w :: W, sp, h, hs => by
    obtain ⟨b, t, h1, h2⟩ := line_head h
    obtain ⟨g1, g2, g3⟩ := h w (List.mem_cons_self ..)
    have hW : WOk W := fun x hx => h x (List.mem_cons_of_mem _ hx)
    have e1 : (sp ++ (lineL (w :: W) ++ [32])).dropWhile isBl = w ++ (sepL W ++ (lineL W ++ [32])) := by
      rw [dw_all hs, show lineL (w :: W) ++ [32] = b :: (t ++ [32]) by rw [h1]; rfl, dw_stop h2, show b :: (t ++ [32]) = lineL (w :: W) ++ [32] by rw [h1]; rfl]
      show (w ++ (sepL W ++ lineL W)) ++ [32] = _
      rw [List.append_assoc, List.append_assoc]
    obtain ⟨x, r, hx, hxb⟩ : ∃ x r, sepL W ++ (lineL W ++ [32]) = x :: r ∧ isBl x = true := by
      cases W with
      | nil => exact ⟨32, [], rfl, rfl⟩
      | cons w2 W => exact ⟨32, _, rfl, rfl⟩
    have hnw : ∀ y ∈ w, noBl y = true := fun y hy => by unfold noBl; rw [nb (g2 y hy)]; rfl
    obtain ⟨t1, t2⟩ := tw_all (p := noBl) (x := x) (by unfold noBl; rw [hxb]; rfl) (a := w) (b := r) hnw
    show wordsR (k + 1) _ = w :: expL k W
    unfold wordsR
    rw [e1, hx, t1, t2, if_neg g1, ← hx]
    congr 1
    refine words_line k hW fun y hy => ?_
    cases W with
    | nil => cases hy
    | cons w2 W => simp [sepL] at hy; subst hy; rfl
theorem exp_ok : ∀ (k : Nat) {W : List (List UInt8)}, WOk W → W.length ≤ 8 → ∀ v ∈ expL k W, Fits (mkT v)
  | 0, W, h, hl, v, hv => by
    obtain rfl : v = lineL W := by simpa [expL] using hv
    have h1 := line_len h
    refine ⟨by rw [mkT_size]; omega, fun b hb => ?_⟩
    rw [mk_list] at hb
    rcases line_byte h b hb with h | h <;> omega
  | k + 1, [], h, hl, v, hv => by
    obtain rfl : v = [] := List.eq_of_mem_replicate hv
    exact ⟨by decide, fun b hb => by cases hb⟩
  | k + 1, w :: W, h, hl, v, hv => by
    rcases List.mem_cons.1 hv with rfl | hv
    · obtain ⟨_, g2, g3⟩ := h v (List.mem_cons_self ..)
      refine ⟨by rw [mkT_size]; omega, fun b hb => ?_⟩
      rw [mk_list] at hb
      have := g2 b hb; omega
    · exact exp_ok k (fun x hx => h x (List.mem_cons_of_mem _ hx)) (by simp at hl; omega) v hv
/-! Variables that were set. -/
theorem setD_out {D : List PV} {k v n : ByteArray} (h : n ≠ k) : getD2 (setD D k v) n = getD2 D n := by
  by_cases h1 : NameOk k
  · by_cases h2 : SetOk D k v
    · rw [(set_good h1 h2).2, ins_get, if_neg h]
    · rw [(set_bad h1 h2).2]
  · rw [(set_no h1).2]
theorem setD_in {D : List PV} {k v : ByteArray} (h1 : NameOk k) (h2 : Fits v) (h3 : D.length < 100) : getD2 (setD D k v) k = some v := by
  rw [(set_good h1 ⟨h2, Or.inr h3⟩).2, ins_get, if_pos rfl]
theorem sets_out {n : ByteArray} : ∀ {T : List ByteArray} {V : List (List UInt8)} {D : List PV}, n ∉ T → getD2 (setsD T V D) n = getD2 D n
  | [], V, D, h => by cases V <;> rfl
  | t :: T, [], D, h => rfl
  | t :: T, v :: V, D, h => by
    show getD2 (setsD T V (setD D t (mkT v))) n = _
    rw [sets_out fun hm => h (List.mem_cons_of_mem _ hm), setD_out fun e => h (by rw [e]; exact List.mem_cons_self ..)]
theorem sets_len : ∀ {T : List ByteArray} {V : List (List UInt8)} {D : List PV}, UpV D → UpV (setsD T V D) ∧ (setsD T V D).length ≤ D.length + T.length
  | [], V, D, h => by cases V <;> exact ⟨h, Nat.le_refl _⟩
  | t :: T, [], D, h => ⟨h, Nat.le_add_right _ _⟩
  | t :: T, v :: V, D, h => by
    obtain ⟨h1, h2⟩ := setD_len (k := t) (v := mkT v) h
    obtain ⟨h3, h4⟩ := sets_len (T := T) (V := V) h1
    refine ⟨h3, ?_⟩
    show (setsD T V (setD D t (mkT v))).length ≤ _
    rw [List.length_cons]; omega
theorem sets_get : ∀ {T : List ByteArray} {V : List (List UInt8)} {D : List PV} {j : Nat} {t : ByteArray} {v : List UInt8}, UpV D → D.length + T.length ≤ 100 → T.Nodup → NamesOk T → (∀ v ∈ V, Fits (mkT v)) → T[j]? = some t → V[j]? = some v → getD2 (setsD T V D) t = some (mkT v)
  | [], V, D, j, t, v, hU, hl, hn, hN, hF, hj, hv => by simp at hj
  | t0 :: T, [], D, j, t, v, hU, hl, hn, hN, hF, hj, hv => by simp at hv
  | t0 :: T, v0 :: V, D, 0, t, v, hU, hl, hn, hN, hF, hj, hv => by
    simp at hj hv; subst hj; subst hv
    show getD2 (setsD T V (setD D t0 (mkT v0))) t0 = _
    rw [sets_out (List.nodup_cons.1 hn).1]
    exact setD_in (hN t0 (List.mem_cons_self ..)).1 (hF v0 (List.mem_cons_self ..)) (by rw [List.length_cons] at hl; omega)
  | t0 :: T, v0 :: V, D, j + 1, t, v, hU, hl, hn, hN, hF, hj, hv => by
    obtain ⟨h1, h2⟩ := setD_len (k := t0) (v := mkT v0) hU
    exact sets_get (D := setD D t0 (mkT v0)) h1 (by rw [List.length_cons] at hl; omega) (List.nodup_cons.1 hn).2 (fun x hx => hN x (List.mem_cons_of_mem _ hx)) (fun x hx => hF x (List.mem_cons_of_mem _ hx)) (by simpa using hj) (by simpa using hv)
/-! A builtin run. -/
abbrev readT : ByteArray := ⟨#[114, 101, 97, 100]⟩
theorem run_ev {e m f w : Nat} {D : List PV} {A : List ByteArray} {G : UInt8 → Bool} {nv : AV} {st : Int} {T : List ByteArray} {l : List UInt8} {ok : Bool} (hE : EInv fs e m f D A G) (hne : w ≠ e ∧ w ≠ m ∧ w ≠ f) (hU : UpV D) (hD : D.length ≤ 10) (hifs : ifsR D = blanksT)
    (hwx : ∃ c, Has fs (.blk w c)) (hRead : ∀ fs0, Fr [] fs fs0 → ∀ K : KK, (∀ fs1, Fr [(0, w)] fs0 fs1 → WEmp fs1 w → K (.tup [.str (mkT l), .bool ok]) fs1) → Ev sW ftab 48 [.ptr w 0] fs0 K)
    (hv : RV fs 1 nv ((readT :: T).map .str) (T.length + 1)) (h1 : 1 ≤ T.length) (hT : T.length ≤ 50) (hN : NamesOk T) (hl : l.length ≤ 100000) (hF : ∀ v ∈ wordsR (T.length - 1) l, Fits (mkT v)) {K : KK}
    (h : ∀ fs', Fr [(0, w), (0, m)] fs fs' → WEmp fs' w → EInv fs' e m f (setsD T (wordsR (T.length - 1) l) D) A G → K (.agg [.int .i64 (if ok then 0 else 1), .str ⟨#[]⟩, .int .i64 0, .int .i64 0, .int .i64 0]) fs') : Ev sW ftab 10 [.ptr e 0, .ptr w 0, nv, .int .i64 st] fs K := by
  refine ev_fn (nt := 80) (kb := kb10) (kr := kr10) rfl rfl (Nat.le_of_ble_eq_true rfl) ?_
  refine cgo ?_
  refine g_do rfl (o_box xc rfl fun b8 => ?_)
  refine g_nd fun hnd8 => ?_
  obtain ⟨n8e, n8m, n8f⟩ : b8 ≠ e ∧ b8 ≠ m ∧ b8 ≠ f := by obtain ⟨_, _, _, _, _, _, I, _, _⟩ := hE; exact ⟨(nd_new hnd8 I.fe).symm, (nd_new hnd8 I.fm).symm, (nd_new hnd8 I.ff).symm⟩
  have n8w : b8 ≠ w := by obtain ⟨c, hc⟩ := hwx; exact (nd_new hnd8 hc).symm
  have fr1 : Fr [] fs (.blk b8 (.cells [.int .i64 0, .str ⟨#[]⟩, .int .i64 0, .int .i64 0, .int .i64 0]) :: fs) := Fr.cons .refl
  have hb8 : Has (.blk b8 (.cells [.int .i64 0, .str ⟨#[]⟩, .int .i64 0, .int .i64 0, .int .i64 0]) :: fs) (.blk b8 (.cells [.int .i64 0, .str ⟨#[]⟩, .int .i64 0, .int .i64 0, .int .i64 0])) := .here
  have hE1 := hE.fr fr1 nok
  have hv1 := hv.fr fr1 nok
  obtain ⟨c, hc⟩ := hwx
  have hc1 := fr1 _ hc (by simp)
  obtain ⟨sr, rfl, hrd, hz⟩ := hv1.some (by omega)
  refine cgo ?_
  refine g_do rfl (o_eqi (xt rfl) xc (fun h9 => by omega) (fun _ => ?_))
  refine cgo ?_
  refine g_do rfl (o_iaddr (xt rfl) xc ⟨by decide, by omega⟩ hz ?_)
  refine g_if rfl ?_
  refine g_do rfl (o_loadr (v := .str readT) (xt rfl) hrd rfl ?_)
  refine g_if rfl ?_
  refine g_do rfl (o_call (.cons (xt rfl) .nil) (is_ev (by simp [isL]) ?_))
  refine cgo ?_
  refine g_do rfl (o_cutv (p := 1) (q := T.length + 1) (xt rfl) hv1 (.some xc) .none (bounds_lo ⟨by decide, by omega⟩) ?_)
  have hcv : RV (.blk b8 (.cells [.int .i64 0, .str ⟨#[]⟩, .int .i64 0, .int .i64 0, .int .i64 0]) :: fs) 1 (cutV (.row ((readT :: T).map .str) (T.length + 1) sr) 1 1 (T.length + 1)) (T.map .str) T.length := by
    have := cutV_rv (p := 1) (q := T.length + 1) hv1 ⟨by omega, by omega⟩
    rw [Nat.add_sub_cancel, Nat.mul_one, Nat.mul_one, List.map_cons, List.drop_succ_cons, List.drop_zero, List.take_of_length_le (by simp)] at this
    exact this
  generalize cutV (.row ((readT :: T).map .str) (T.length + 1) sr) 1 1 (T.length + 1) = cv at hcv ⊢
  refine cgo ?_
  refine g_do rfl (o_iaddr (xt rfl) xc ⟨by decide, by omega⟩ hz ?_)
  refine g_do rfl (o_loadr (v := .str readT) (xt rfl) hrd rfl ?_)
  refine cgo ?_
  refine w_block ?_
  refine cgo ?_
  refine g_do rfl (o_eqs (xt rfl) xc (fun h => absurd h (by decide)) (fun _ => ?_))
  refine cgo ?_
  refine g_do rfl (o_eqs (xt rfl) xc (fun h => absurd h (by decide)) (fun _ => ?_))
  refine cgo ?_
  refine g_do rfl (o_eqs (xt rfl) xc (fun h => absurd h (by decide)) (fun _ => ?_))
  refine cgo ?_
  refine g_do rfl (o_eqs (xt rfl) xc (fun h => absurd h (by decide)) (fun _ => ?_))
  refine cgo ?_
  refine g_do rfl (o_eqs (xt rfl) xc (fun _ => ?_) (fun h => absurd rfl h))
  refine cgo ?_
  refine g_do rfl (o_call (.cons (xt rfl) (.cons (xt rfl) (.cons (xt rfl) .nil))) (read_ev hE1 hne hU hD hifs ⟨_, hc1⟩ (fun fs0 k K hK => hRead fs0 (fr1.trans k) K hK) hcv h1 hT hN hl hF fun fs2 k2 hw2 hE2 => ?_))
  have hb2 := k2 _ hb8 (by
    intro hm
    simp only [List.mem_cons, List.not_mem_nil, or_false] at hm
    rcases hm with hm | hm
    · exact n8w (congrArg Prod.snd hm)
    · exact n8m (congrArg Prod.snd hm))
  obtain ⟨fsP, hP⟩ := hb2.put (.blk b8 (.cells [.int .i64 (if ok then 0 else 1), .str ⟨#[]⟩, .int .i64 0, .int .i64 0, .int .i64 0]))
  refine g_do0 (o_store (xt rfl) (xt rfl) hP ⟨rfl, (Nat.le_of_ble_eq_true rfl)⟩ rfl rfl ?_)
  refine cgo ?_
  refine ⟨trivial, _, _, .one (.cell rfl hP.hasNew rfl), .refl _, h fsP (fun y hy hn => ?_) (hw2.fr (Fr.put hP) (k1w n8w)) (hE2.fr (Fr.put hP) (k1of n8e n8m n8f))⟩
  have q3 := nd_key hnd8 hy
  exact Fr.put hP y (k2 y (fr1 y hy (by simp)) hn) (fun hm => q3 (List.mem_singleton.1 hm))
/-! What is begun. -/
theorem cloneO0_ev {K : KK} (h : K .nilrow fs) : Ev sW ftab 20 [.nilrow] fs K := by
  refine ev_fn (nt := 8) (kb := kb20) (kr := kr20) rfl rfl (Nat.le_of_ble_eq_true rfl) ?_
  refine cgo ?_
  refine g_do rfl (o_eq (c := true) (xt rfl) xc rfl ?_)
  refine cgo ?_
  exact ⟨trivial, _, fs, .one (.tmp rfl), .refl _, h⟩
theorem cloneR0_ev {K : KK} (h : K .nilrow fs) : Ev sW ftab 21 [.nilrow] fs K := by
  refine ev_fn (nt := 8) (kb := kb21) (kr := kr21) rfl rfl (Nat.le_of_ble_eq_true rfl) ?_
  refine cgo ?_
  refine g_do rfl (o_eq (c := true) (xt rfl) xc rfl ?_)
  refine cgo ?_
  exact ⟨trivial, _, fs, .one (.tmp rfl), .refl _, h⟩
theorem tnew0_ev {K : KK} (h : ∀ i j, K (.ptr i 0) (.blk i (.cells [.map j]) :: .blk j (.map [] 0) :: fs)) : Ev sW ftab 19 [.nilrow] fs K := by
  refine ev_fn (nt := 20) (kb := kb19) (kr := kr19) rfl rfl (Nat.le_of_ble_eq_true rfl) ?_
  refine cgo ?_
  refine g_do rfl (o_map fun j => ?_)
  refine g_do rfl (o_build (.cons (xt rfl) .nil) rfl ?_)
  refine g_do rfl (o_box (xt rfl) rfl fun i => ?_)
  refine cgo ?_
  refine w_block (w_loop (l_round ?_))
  refine cgo ?_
  refine g_do rfl (o_lss (xt rfl) (xt rfl) (fun h1 => by omega) (fun h1 => ?_))
  refine cgo ?_
  exact ⟨trivial, _, _, .one (.tmp rfl), .refl _, h i j⟩
theorem ifs_nm : NameOk ifsT := ⟨73, [70, 83], rfl, Or.inr (Or.inl ⟨by decide, by decide⟩), fun x hx => by
  rcases List.mem_cons.1 hx with rfl | hx
  · exact Or.inl (Or.inr (Or.inl ⟨by decide, by decide⟩))
  · obtain rfl : x = 83 := by simpa using hx
    exact Or.inl (Or.inr (Or.inl ⟨by decide, by decide⟩))⟩
theorem blanks_fit : Fits blanksT := by
  refine ⟨by decide, fun b hb => ?_⟩
  have hb : b ∈ ([32, 9, 10] : List UInt8) := hb
  simp only [List.mem_cons, List.not_mem_nil, or_false] at hb
  rcases hb with rfl | rfl | rfl <;> decide
abbrev D0 : List PV := [(ifsT, blanksT)]
theorem map1 : MapV [(.str ifsT, .str blanksT, 0)] 1 [ifsT] ∧ varsP [(.str ifsT, .str blanksT, 0)] [ifsT] = [(ifsT, blanksT)] := by
  have h0 : MapV [] 0 [] := ⟨mapOk_nil, fun x hx => by cases hx⟩
  have h1 : MapV [(.str ifsT, .str blanksT, 0)] 1 [ifsT] := ⟨mapOk_nil.app (s := ifsT) (v := .str blanksT) (by simp) (by decide) (by decide), fun x hx => by
    obtain rfl : x = _ := by simpa using hx
    exact ⟨_, rfl⟩⟩
  refine ⟨h1, ?_⟩
  have h2 := vars_ins (k := ifsT) (v := blanksT) h0 (ks' := [ifsT]) h1
  have h3 : varsP [] [] = [] := List.eq_nil_of_length_eq_zero (varsP_len [] [])
  rw [h3] at h2
  exact h2
theorem wnew1_ev {rr : AV} {s : ByteArray} (hr : RV fs 1 rr [.str s] 1) {K : KK} (h : ∀ w fs', (∀ i b, Has fs (.blk i b) → i ≠ w) → Fr [] fs fs' → WOne fs' w s → K (.ptr w 0) fs') : Ev sW ftab 8 [.agg [.nilrow, .nilrow, .nilrow, .nilrow, rr, .int .i64 0]] fs K := by
  refine ev_fn (nt := 18) (kb := kb8) (kr := kr8) rfl rfl (Nat.le_of_ble_eq_true rfl) ?_
  refine w_rs (g_do rfl (o_box (v := .agg [.nilrow, .nilrow, .nilrow, .nilrow, rr, .int .i64 0]) (xt rfl) rfl fun ib => ?_))
  refine cgo ?_
  refine g_fl ?_
  refine h_do rfl (o_faddr (xt rfl) ?_)
  refine h_do rfl (o_load (xt rfl) .here rfl ?_)
  refine h_do rfl (o_call (.cons (xt rfl) .nil) (tnew0_ev fun it im => ?_))
  refine h_do rfl (o_faddr (xt rfl) ?_)
  refine h_do rfl (o_load (xt rfl) (.there (.there .here)) rfl ?_)
  refine h_do rfl (o_call (.cons (xt rfl) .nil) (cloneO0_ev ?_))
  refine h_do rfl (o_faddr (xt rfl) ?_)
  refine h_do rfl (o_load (xt rfl) (.there (.there .here)) rfl ?_)
  refine h_do rfl (o_call (.cons (xt rfl) .nil) (clone2_ev hr.cons.cons.cons (fun h => by cases h) rfl (by decide) fun v fsB hB => ?_))
  rcases hB.inv with ⟨_, _, h9, _⟩ | ⟨fr, idr, _, rfl, rfl⟩
  · cases h9
  refine h_do rfl (o_faddr (xt rfl) ?_)
  refine h_do rfl (o_load (xt rfl) (.there (.there (.there .here))) rfl ?_)
  refine h_do rfl (o_max (xt rfl) xc ?_)
  refine h_do rfl (o_min (xt rfl) xc ?_)
  refine h_do rfl (o_build (.cons (xt rfl) (.cons (xt rfl) (.cons (xt rfl) (.cons (xt rfl) .nil)))) rfl ?_)
  refine h_do rfl (o_box (xt rfl) rfl fun iw => ?_)
  refine h_do rfl (o_move (xt rfl) ?_)
  refine h_end ?_
  refine ⟨.cons rfl (.cons rfl (o_load (xt rfl) .here rfl rfl) (.cons rfl (o_load (xt rfl) (.there (.there .here)) rfl rfl) (.cons rfl (o_load (xt rfl) (.there (.there .here)) rfl rfl) .nil))) (.cons rfl (.cons rfl (o_load (xt rfl) .here rfl rfl) (.cons rfl (o_load (xt rfl) (.there (.there .here)) rfl rfl) .nil)) (.cons rfl (.cons rfl (o_load (xt rfl) .here rfl rfl) .nil) .nil)), _, rfl, ?_⟩
  refine w_nd fun hnd => ?_
  refine cgo ?_
  exact ⟨trivial, _, _, .one (.tmp rfl), .refl _, h iw _ (fun i b hb => nd_new hnd (.there (.there (.there (.there hb))))) (((((Fr.refl).cons).cons).cons).cons.cons) ⟨_, _, _, _, .here, .row (s := ⟨fr, idr, 0, 1⟩) (.own (.there .here)) rfl⟩⟩
def big (b : UInt8) : Bool := decide (32 < b.toNat)
theorem text1 (b : UInt8) : [AV.int .u8 b.toNat].mapM byteU = some [b] := by
  show (do let x ← some (UInt8.ofNat ((b.toNat : Int)).toNat); let y ← some []; pure (x :: y)) = some [b]
  rw [Int.toNat_natCast, UInt8.ofNat_toNat]; rfl
theorem filt_next {s : List UInt8} {q : Nat} {b : UInt8} (h : s[q]? = some b) : (s.take (q + 1)).filter big = (s.take q).filter big ++ (if big b then [b] else []) := by
  rw [List.take_add_one, h, List.filter_append]
  congr 1
  show List.filter big [b] = _
  rw [List.filter_cons]; cases big b <;> rfl
theorem rd_in {wv : AV} {T : List ByteArray} {i k : Nat} {n : Int} {line s : ByteArray} (hv : RI 1 wv (T.map .str) T.length) (hs : T[i]? = some s) {Q : AO → Env → List Fact → Prop}
    (hQ : ∀ w e, (∀ b ∈ w, 32 < b.toNat) → w.length ≤ 20 → Sub e [(0, wv), (1, .int .i64 n), (5, .str line), (6, .int .i64 (k : Int)), (7, .int .i64 (i : Int)), (8, .str (mkT w))] → Q (.exit 2) e fs) : ∀ (k' q : Nat), q + k' = min 20 s.size →
    WL sW ftab lb5_0 189 [(0, wv), (1, .int .i64 n), (5, .str line), (6, .int .i64 (k : Int)), (7, .int .i64 (i : Int)), (8, .str (mkT ((s.data.toList.take q).filter big))), (9, .int .i64 (q : Int))] fs Q
  | 0, q, hq => by
    have hlt : i < T.length := (List.getElem?_eq_some_iff.1 hs).1
    obtain ⟨sr, rfl, hz0, hz⟩ := hv.some (by omega)
    have hel : apart (T.map AV.str) (((i : Nat) : Int).toNat * 1) none = some (.str s) := by
      show (T.map AV.str)[(((i : Nat) : Int).toNat * 1)]? = _
      rw [Nat.mul_one, Int.toNat_natCast, List.getElem?_map, hs]; rfl
    have fin : ∀ e, Sub e [(0, .row (T.map .str) T.length sr), (1, .int .i64 n), (5, .str line), (6, .int .i64 (k : Int)), (7, .int .i64 (i : Int)), (8, .str (mkT ((s.data.toList.take q).filter big)))] → Q (.exit 2) e fs := fun e hS => hQ ((s.data.toList.take q).filter big) e (fun b hb => of_decide_eq_true (List.mem_filter.1 hb).2) (by
      have h1 := (List.filter_sublist (l := s.data.toList.take q) (p := big)).length_le
      rw [List.length_take] at h1; omega) hS
    refine l_round ?_
    refine cgo ?_
    refine g_do rfl (o_iaddr (xt rfl) (xt rfl) ⟨by omega, by omega⟩ hz ?_)
    refine g_do rfl (o_loadr (v := .str s) (xt rfl) (.frz hz0) hel ?_)
    refine cgo ?_
    refine g_do rfl (o_lss (xt rfl) (xt rfl) (fun h => ?_) (fun h => ?_))
    · refine cgo ?_
      refine g_do rfl (o_lss (xt rfl) xc (fun h => by omega) (fun h => ?_))
      refine cgo ?_
      exact fin _ (.cons rfl (.cons rfl (.cons rfl (.cons rfl (.cons rfl (.cons rfl .nil))))))
    · refine cgo ?_
      exact fin _ (.cons rfl (.cons rfl (.cons rfl (.cons rfl (.cons rfl (.cons rfl .nil))))))
  | k' + 1, q, hq => by
    have hlt : i < T.length := (List.getElem?_eq_some_iff.1 hs).1
    obtain ⟨sr, rfl, hz0, hz⟩ := hv.some (by omega)
    have hel : apart (T.map AV.str) (((i : Nat) : Int).toNat * 1) none = some (.str s) := by
      show (T.map AV.str)[(((i : Nat) : Int).toNat * 1)]? = _
      rw [Nat.mul_one, Int.toNat_natCast, List.getElem?_map, hs]; rfl
    obtain ⟨b, hb⟩ : ∃ b, s.data.toList[q]? = some b := ⟨_, List.getElem?_eq_getElem (by simp; omega)⟩
    have hnext := filt_next hb
    have hacc := (List.filter_sublist (l := s.data.toList.take q) (p := big)).length_le
    rw [List.length_take] at hacc
    refine l_round ?_
    refine cgo ?_
    refine g_do rfl (o_iaddr (xt rfl) (xt rfl) ⟨by omega, by omega⟩ hz ?_)
    refine g_do rfl (o_loadr (v := .str s) (xt rfl) (.frz hz0) hel ?_)
    refine cgo ?_
    refine g_do rfl (o_lss (xt rfl) (xt rfl) (fun h => ?_) (fun h => by omega))
    refine cgo ?_
    refine g_do rfl (o_lss (xt rfl) xc (fun h => ?_) (fun h => by omega))
    refine cgo ?_
    refine w_block ?_
    refine cgo ?_
    refine g_do rfl (o_iaddr (xt rfl) (xt rfl) ⟨by omega, by omega⟩ hz ?_)
    refine g_do rfl (o_loadr (v := .str s) (xt rfl) (.frz hz0) hel ?_)
    refine cgo ?_
    refine g_do rfl (o_idx (b := b) (xt rfl) (xt rfl) (by omega) (by rw [Int.toNat_natCast]; exact hb) ?_)
    refine cgo ?_
    refine g_do rfl (o_gtr (xt rfl) xc (fun hg => ?_) (fun hg => ?_))
    · have hbig : big b = true := decide_eq_true (by omega)
      rw [hbig, if_pos rfl] at hnext
      refine cgo ?_
      refine g_do rfl (o_row (cs := [.int .u8 b.toNat]) (.cons (xt rfl) .nil) rfl rfl fun f0 id0 => ?_)
      refine g_do rfl (o_text (xt rfl) .here rfl rfl (text1 b) ?_)
      refine g_do rfl (o_cat (xt rfl) (xt rfl) (by
        show (mkT ((s.data.toList.take q).filter big)).size + (mkT [b]).size ≤ _
        rw [mkT_size, mkT_size, List.length_singleton]; omega) ?_)
      rw [show mkT ((s.data.toList.take q).filter big) ++ (⟨[b].toArray⟩ : ByteArray) = mkT ((s.data.toList.take (q + 1)).filter big) by rw [hnext]; exact mkT_app _ _]
      refine cgo ?_
      refine g_do rfl (o_add (xt rfl) xc (by constructor <;> omega) ?_)
      refine cgo ?_
      refine l_sub (e' := [(0, .row (T.map .str) T.length sr), (1, .int .i64 n), (5, .str line), (6, .int .i64 (k : Int)), (7, .int .i64 (i : Int)), (8, .str (mkT ((s.data.toList.take (q + 1)).filter big))), (9, .int .i64 ((q + 1 : Nat) : Int))]) (.cons rfl (.cons rfl (.cons rfl (.cons rfl (.cons rfl (.cons rfl (.cons rfl .nil))))))) (fun _ hh => hh.mono (.cons _ (.refl _))) ?_
      exact rd_in hv hs hQ k' (q + 1) (by omega)
    · have hbig : big b = false := decide_eq_false (by omega)
      rw [hbig, if_neg (by simp), List.append_nil] at hnext
      refine cgo ?_
      refine g_do rfl (o_add (xt rfl) xc (by constructor <;> omega) ?_)
      refine cgo ?_
      refine l_sub (e' := [(0, .row (T.map .str) T.length sr), (1, .int .i64 n), (5, .str line), (6, .int .i64 (k : Int)), (7, .int .i64 (i : Int)), (8, .str (mkT ((s.data.toList.take (q + 1)).filter big))), (9, .int .i64 ((q + 1 : Nat) : Int))]) (by rw [hnext]; exact .cons rfl (.cons rfl (.cons rfl (.cons rfl (.cons rfl (.cons rfl (.cons rfl .nil))))))) (fun _ h => h) ?_
      exact rd_in hv hs hQ k' (q + 1) (by omega)
theorem rd_out {wv : AV} {T : List ByteArray} {n : Int} (hv : RI 1 wv (T.map .str) T.length) {Q : AO → Env → List Fact → Prop}
    (h1 : ∀ W e, WOk W → W.length ≤ 8 → Sub e [(1, .int .i64 n), (5, .str (mkT (lineL W))), (6, .int .i64 (W.length : Int))] → Q (.exit 0) e fs) (h2 : ∀ e, Sub e [(4, .bool true)] → Q .ret e fs) : ∀ (k' : Nat) (W : List (List UInt8)), W.length + k' = min 8 T.length → WOk W →
    WL sW ftab lb5_1 189 [(0, wv), (1, .int .i64 n), (5, .str (mkT (lineL W))), (6, .int .i64 (W.length : Int)), (7, .int .i64 (W.length : Int))] fs Q
  | 0, W, hk, hW => by
    refine l_round ?_
    refine cgo ?_
    refine g_do rfl (o_len (xt rfl) hv.rv ?_)
    refine g_do rfl (o_lss (xt rfl) (xt rfl) (fun h => ?_) (fun h => ?_))
    · refine cgo ?_
      refine g_do rfl (o_lss (xt rfl) xc (fun h => by omega) (fun h => ?_))
      refine cgo ?_
      exact h1 W _ hW (by omega) (.cons rfl (.cons rfl (.cons rfl .nil)))
    · refine cgo ?_
      exact h1 W _ hW (by omega) (.cons rfl (.cons rfl (.cons rfl .nil)))
  | k' + 1, W, hk, hW => by
    obtain ⟨s, hs⟩ : ∃ s, T[W.length]? = some s := ⟨_, List.getElem?_eq_getElem (by omega)⟩
    have hll := line_len hW
    refine l_round ?_
    refine cgo ?_
    refine g_do rfl (o_len (xt rfl) hv.rv ?_)
    refine g_do rfl (o_lss (xt rfl) (xt rfl) (fun h => ?_) (fun h => by omega))
    refine cgo ?_
    refine g_do rfl (o_lss (xt rfl) xc (fun h => ?_) (fun h => by omega))
    refine cgo ?_
    refine w_block ?_
    refine cgo ?_
    refine w_block (w_loop ?_)
    refine l_sub (e' := [(0, wv), (1, .int .i64 n), (5, .str (mkT (lineL W))), (6, .int .i64 (W.length : Int)), (7, .int .i64 (W.length : Int)), (8, .str (mkT ((s.data.toList.take 0).filter big))), (9, .int .i64 ((0 : Nat) : Int))]) (.cons rfl (.cons rfl (.cons rfl (.cons rfl (.cons rfl (.cons rfl (.cons rfl .nil))))))) (fun _ h => h) ?_
    refine rd_in hv hs (fun w e g1 g2 hS => ?_) (min 20 s.size) 0 (by omega)
    refine w_sub hS (fun _ h => h) ?_
    refine cgo ?_
    by_cases hw : w = []
    · subst hw
      refine g_do rfl (o_eqs (xt rfl) xc (fun _ => ?_) (fun h => absurd rfl h))
      refine cgo ?_
      refine g_do rfl (o_call .nil (awake_ev ?_))
      refine cgo ?_
      exact h2 _ (.cons rfl .nil)
    have hne : ¬ mkT w = ⟨#[]⟩ := by
      cases w with
      | nil => exact absurd rfl hw
      | cons b w => exact mkT_ne b w
    have hW2 : WOk (W ++ [w]) := fun x hx => by
      rcases List.mem_append.1 hx with hx | hx
      · exact hW x hx
      · rw [List.mem_singleton.1 hx]; exact ⟨hw, g1, g2⟩
    have hl2 : ((W ++ [w]).length : Int) = (W.length : Int) + 1 := by simp
    have hsn := line_snoc W w
    refine g_do rfl (o_eqs (xt rfl) xc (fun h => absurd h hne) (fun _ => ?_))
    refine cgo ?_
    refine g_do rfl (o_gtr (xt rfl) xc (fun hg => ?_) (fun hg => ?_))
    · rw [if_neg (by rintro rfl; simp at hg)] at hsn
      refine cgo ?_
      refine g_do rfl (o_cat (xt rfl) xc (by rw [mkT_size]; show (lineL W).length + 2 ≤ _; omega) ?_)
      rw [show mkT (lineL W) ++ (⟨#[32, 32]⟩ : ByteArray) = mkT (lineL W ++ [32, 32]) from mkT_app _ [32, 32]]
      refine cgo ?_
      refine g_do rfl (o_cat (xt rfl) (xt rfl) (by rw [mkT_size, mkT_size, List.length_append]; show (lineL W).length + 2 + w.length ≤ _; omega) ?_)
      rw [mkT_app, List.append_assoc, ← hsn]
      refine cgo ?_
      refine g_do rfl (o_add (xt rfl) xc (by constructor <;> omega) ?_)
      refine cgo ?_
      refine g_do rfl (o_add (xt rfl) xc (by constructor <;> omega) ?_)
      refine cgo ?_
      refine l_sub (e' := [(0, wv), (1, .int .i64 n), (5, .str (mkT (lineL (W ++ [w])))), (6, .int .i64 ((W ++ [w]).length : Int)), (7, .int .i64 ((W ++ [w]).length : Int))]) (by rw [hl2]; exact .cons rfl (.cons rfl (.cons rfl (.cons rfl (.cons rfl .nil))))) (fun _ h => h) ?_
      exact rd_out hv h1 h2 k' (W ++ [w]) (by simp; omega) hW2
    · have hW0 : W = [] := List.eq_nil_of_length_eq_zero (by omega)
      rw [if_pos hW0] at hsn
      have hlw : mkT (lineL W) ++ mkT w = mkT (lineL (W ++ [w])) := by rw [hsn, hW0, mkT_app]; rfl
      refine cgo ?_
      refine g_do rfl (o_cat (xt rfl) (xt rfl) (by rw [mkT_size, mkT_size]; omega) ?_)
      rw [hlw]
      refine cgo ?_
      refine g_do rfl (o_add (xt rfl) xc (by constructor <;> omega) ?_)
      refine cgo ?_
      refine g_do rfl (o_add (xt rfl) xc (by constructor <;> omega) ?_)
      refine cgo ?_
      refine l_sub (e' := [(0, wv), (1, .int .i64 n), (5, .str (mkT (lineL (W ++ [w])))), (6, .int .i64 ((W ++ [w]).length : Int)), (7, .int .i64 ((W ++ [w]).length : Int))]) (by rw [hl2]; exact .cons rfl (.cons rfl (.cons rfl (.cons rfl (.cons rfl .nil))))) (fun _ h => h) ?_
      exact rd_out hv h1 h2 k' (W ++ [w]) (by simp; omega) hW2
/-! What is wanted. -/
def ne32 (b : UInt8) : Bool := decide (b ≠ 32)
def eq32 (b : UInt8) : Bool := decide (b = 32)
theorem eq32_i {b : UInt8} : ((b.toNat : Int) = 32) ↔ b = 32 := ⟨fun h => UInt8.toNat_inj.1 (by show b.toNat = 32; omega), fun h => by rw [h]; rfl⟩
abbrev EE (N K e w b i : Nat) (L : List UInt8) (nv : AV) : Env := [(1, .int .i64 (N : Int)), (5, .str (mkT L)), (6, .int .i64 (K : Int)), (11, nv), (12, .ptr e 0), (13, .ptr w 0), (14, .ptr b 0), (16, .int .i64 (i : Int))]
theorem wt_loop {N K e w b i : Nat} {L : List UInt8} {nv : AV} (hL : L.length ≤ 1000) {Q : AO → Env → List Fact → Prop} : ∀ (l : List UInt8) (at' : Nat) (acc : List UInt8), L.drop at' = l → at' ≤ L.length → acc.length + l.length ≤ 10000 →
    (∀ en, Sub en ((15, .int .i64 ((at' + (l.takeWhile ne32).length : Nat) : Int)) :: (17, .str (mkT (acc ++ l.takeWhile ne32))) :: EE N K e w b i L nv) → Q (.exit 6) en fs) →
    WL sW ftab lb5_2 189 ((15, .int .i64 (at' : Int)) :: (17, .str (mkT acc)) :: EE N K e w b i L nv) fs Q
  | [], at', acc, hl, hi, ha, hQ => by
    have hge : L.length ≤ at' := List.drop_eq_nil_iff.1 hl
    have hsz := mkT_size L
    refine l_round ?_
    refine cgo ?_
    refine g_do rfl (o_lss (xt rfl) (xt rfl) (fun h => by omega) (fun h => ?_))
    refine cgo ?_
    refine hQ _ ?_
    show Sub _ ((15, .int .i64 (at' : Int)) :: (17, .str (mkT (acc ++ []))) :: EE N K e w b i L nv)
    rw [List.append_nil]
    exact .cons rfl (.cons rfl (.cons rfl (.cons rfl (.cons rfl (.cons rfl (.cons rfl (.cons rfl (.cons rfl (.cons rfl .nil)))))))))
  | c :: l, at', acc, hl, hi, ha, hQ => by
    obtain ⟨h1, h2, h3⟩ := drop_headP hl
    have hsz := mkT_size L
    refine l_round ?_
    refine cgo ?_
    refine g_do rfl (o_lss (xt rfl) (xt rfl) (fun h => ?_) (fun h => by omega))
    refine cgo ?_
    refine g_do rfl (o_idx (b := c) (xt rfl) (xt rfl) (by omega) (by rw [Int.toNat_natCast, mk_list]; exact h1) ?_)
    refine g_if rfl ?_
    refine g_do rfl (o_nei (xt rfl) xc (fun hc => ?_) (fun hc => ?_))
    · have hn : ne32 c = false := decide_eq_false (by rw [eq32_i.1 hc]; simp)
      refine cgo ?_
      refine hQ _ ?_
      rw [List.takeWhile_cons, hn, if_neg (by simp), List.append_nil]
      exact .cons rfl (.cons rfl (.cons rfl (.cons rfl (.cons rfl (.cons rfl (.cons rfl (.cons rfl (.cons rfl (.cons rfl .nil)))))))))
    · have hn : ne32 c = true := decide_eq_true fun h => hc (eq32_i.2 h)
      refine cgo ?_
      refine w_block ?_
      refine cgo ?_
      refine g_do rfl (o_add (xt rfl) xc (by constructor <;> omega) ?_)
      refine g_do rfl (o_cutlh (xt rfl) (xt rfl) (xt rfl) ⟨by omega, by omega, by omega⟩ ?_)
      rw [Int.toNat_natCast, show ((at' : Int) + 1).toNat = at' + 1 by omega, cut_mk, Nat.add_sub_cancel_left, hl]
      refine g_do rfl (o_cat (xt rfl) (xt rfl) (by rw [mkT_size, mkT_size]; rw [List.length_cons] at ha; show acc.length + 1 ≤ _; omega) ?_)
      rw [show mkT acc ++ mkT ((c :: l).take 1) = mkT (acc ++ [c]) from mkT_app _ _]
      refine cgo ?_
      refine g_do rfl (o_add (xt rfl) xc (by constructor <;> omega) ?_)
      refine cgo ?_
      refine l_sub (e' := (15, .int .i64 ((at' + 1 : Nat) : Int)) :: (17, .str (mkT (acc ++ [c]))) :: EE N K e w b i L nv) (.cons rfl (.cons rfl (.cons rfl (.cons rfl (.cons rfl (.cons rfl (.cons rfl (.cons rfl (.cons rfl (.cons rfl .nil)))))))))) (fun _ h => h) ?_
      refine wt_loop hL l (at' + 1) (acc ++ [c]) h2 (by omega) (by rw [List.length_append, List.length_singleton]; rw [List.length_cons] at ha; omega) fun en hS => hQ en ?_
      rw [List.takeWhile_cons, hn, if_pos rfl, List.length_cons, show at' + ((l.takeWhile ne32).length + 1) = at' + 1 + (l.takeWhile ne32).length by omega, show acc ++ c :: l.takeWhile ne32 = acc ++ [c] ++ l.takeWhile ne32 by simp]
      exact hS
theorem sk_loop {N K e w b i : Nat} {L : List UInt8} {nv x : AV} (hL : L.length ≤ 1000) {Q : AO → Env → List Fact → Prop} : ∀ (l : List UInt8) (at' : Nat), L.drop at' = l → at' ≤ L.length →
    (∀ en, Sub en ((15, .int .i64 ((at' + (l.takeWhile eq32).length : Nat) : Int)) :: (17, x) :: EE N K e w b i L nv) → Q (.exit 8) en fs) →
    WL sW ftab lb5_3 189 ((15, .int .i64 (at' : Int)) :: (17, x) :: EE N K e w b i L nv) fs Q
  | [], at', hl, hi, hQ => by
    have hge : L.length ≤ at' := List.drop_eq_nil_iff.1 hl
    have hsz := mkT_size L
    refine l_round ?_
    refine cgo ?_
    refine g_do rfl (o_lss (xt rfl) (xt rfl) (fun h => by omega) (fun h => ?_))
    refine cgo ?_
    exact hQ _ (.cons rfl (.cons rfl (.cons rfl (.cons rfl (.cons rfl (.cons rfl (.cons rfl (.cons rfl (.cons rfl (.cons rfl .nil))))))))))
  | c :: l, at', hl, hi, hQ => by
    obtain ⟨h1, h2, h3⟩ := drop_headP hl
    have hsz := mkT_size L
    refine l_round ?_
    refine cgo ?_
    refine g_do rfl (o_lss (xt rfl) (xt rfl) (fun h => ?_) (fun h => by omega))
    refine cgo ?_
    refine g_do rfl (o_idx (b := c) (xt rfl) (xt rfl) (by omega) (by rw [Int.toNat_natCast, mk_list]; exact h1) ?_)
    refine g_if rfl ?_
    refine g_do rfl (o_eqi (xt rfl) xc (fun hc => ?_) (fun hc => ?_))
    · have hn : eq32 c = true := decide_eq_true (eq32_i.1 hc)
      refine cgo ?_
      refine w_block ?_
      refine cgo ?_
      refine g_do rfl (o_add (xt rfl) xc (by constructor <;> omega) ?_)
      refine cgo ?_
      refine l_sub (e' := (15, .int .i64 ((at' + 1 : Nat) : Int)) :: (17, x) :: EE N K e w b i L nv) (.cons rfl (.cons rfl (.cons rfl (.cons rfl (.cons rfl (.cons rfl (.cons rfl (.cons rfl (.cons rfl (.cons rfl .nil)))))))))) (fun _ h => h) ?_
      refine sk_loop hL l (at' + 1) h2 (by omega) fun en hS => hQ en ?_
      rw [List.takeWhile_cons, hn, if_pos rfl, List.length_cons, show at' + ((l.takeWhile eq32).length + 1) = at' + 1 + (l.takeWhile eq32).length by omega]
      exact hS
    · have hn : eq32 c = false := decide_eq_false fun h => hc (eq32_i.2 h)
      refine cgo ?_
      refine hQ _ ?_
      rw [List.takeWhile_cons, hn, if_neg (by simp)]
      exact .cons rfl (.cons rfl (.cons rfl (.cons rfl (.cons rfl (.cons rfl (.cons rfl (.cons rfl (.cons rfl (.cons rfl .nil)))))))))
theorem tw_end {p : UInt8 → Bool} : ∀ {a : List UInt8}, (∀ y ∈ a, p y = true) → a.takeWhile p = a ∧ a.dropWhile p = []
  | [], h => ⟨rfl, rfl⟩
  | y :: a, h => by
    obtain ⟨h1, h2⟩ := tw_end (a := a) fun z hz => h z (List.mem_cons_of_mem _ hz)
    rw [List.takeWhile_cons, List.dropWhile_cons, h y (List.mem_cons_self ..), if_pos rfl, if_pos rfl, h1, h2]; exact ⟨rfl, rfl⟩
theorem line_cut {w : List UInt8} {W : List (List UInt8)} (h : WOk (w :: W)) : (lineL (w :: W)).takeWhile ne32 = w ∧ (lineL (w :: W)).dropWhile ne32 = sepL W ++ lineL W ∧ (sepL W ++ lineL W).dropWhile eq32 = lineL W := by
  obtain ⟨g1, g2, g3⟩ := h w (List.mem_cons_self ..)
  have hn : ∀ y ∈ w, ne32 y = true := fun y hy => decide_eq_true fun e => by
    have := g2 y hy
    rw [e] at this; exact absurd this (by decide)
  cases W with
  | nil =>
    obtain ⟨h1, h2⟩ := tw_end hn
    show (w ++ ([] ++ [])).takeWhile ne32 = w ∧ (w ++ ([] ++ [])).dropWhile ne32 = [] ++ [] ∧ _
    rw [List.append_nil, List.append_nil]
    exact ⟨h1, h2, rfl⟩
  | cons w2 W =>
    obtain ⟨h1, h2⟩ := tw_all (p := ne32) (x := 32) rfl (a := w) (b := 32 :: lineL (w2 :: W)) hn
    refine ⟨h1, h2, ?_⟩
    obtain ⟨b, t, h3, h4⟩ := line_head (w := w2) (W := W) fun x hx => h x (List.mem_cons_of_mem _ hx)
    rw [h3]
    have hb : eq32 b = false := decide_eq_false fun e => by rw [e] at h4; exact absurd h4 (by decide)
    show ([32, 32] ++ b :: t).dropWhile eq32 = _
    rw [dw_all (by intro x hx; simp at hx; subst hx; rfl), dw_stop hb]
abbrev NM : List ByteArray := [⟨#[97]⟩, ⟨#[98]⟩, ⟨#[99]⟩, ⟨#[100]⟩, ⟨#[101]⟩, ⟨#[102]⟩]
theorem nm_let {t : ByteArray} (h : t ∈ NM) : ∃ b : UInt8, t = ⟨#[b]⟩ ∧ 97 ≤ b.toNat ∧ b.toNat ≤ 102 := by
  simp only [List.mem_cons, List.not_mem_nil, or_false] at h
  rcases h with rfl | rfl | rfl | rfl | rfl | rfl <;> exact ⟨_, rfl, by decide, by decide⟩
theorem nm_ok {t : ByteArray} (h : t ∈ NM) : NameOk t ∧ t.size ≤ 1000 := by
  obtain ⟨b, rfl, h1, h2⟩ := nm_let h
  refine ⟨⟨b, [], rfl, Or.inl ⟨h1, by omega⟩, fun x hx => by cases hx⟩, ?_⟩
  show 1 ≤ 1000
  decide
theorem nm_num {t : ByteArray} (h : t ∈ NM) : (numM t).2 = false := by
  simp only [List.mem_cons, List.not_mem_nil, or_false] at h
  rcases h with rfl | rfl | rfl | rfl | rfl | rfl <;> rfl
theorem nm_ifs : ifsT ∉ NM := fun h => by
  obtain ⟨b, h1, _⟩ := nm_let h
  exact absurd (show (3 : Nat) = 1 from congrArg ByteArray.size h1) (by decide)
theorem nm_nodup : NM.Nodup := by decide
theorem getR_nm {D : List PV} {A : List ByteArray} {t v : ByteArray} (h : t ∈ NM) (hg : getD2 D t = some v) : getR D A t = (v, true) := by
  have := nm_num h
  unfold getR
  obtain ⟨n, b, hn⟩ : ∃ n b, numM t = (n, b) := ⟨_, _, rfl⟩
  rw [hn] at this ⊢
  simp only at this
  subst this
  show ((getD2 D t).getD ⟨#[]⟩, (getD2 D t).isSome) = _
  rw [hg]; rfl
theorem want_loop {N K e w m f b : Nat} {L : List UInt8} {nv : AV} {D : List PV} {A : List ByteArray} {G : UInt8 → Bool} {V : List (List UInt8)} (hL : L.length ≤ 1000) (hN : N ≤ 6) (hK : K ≤ 8) (hE : EInv fs e m f D A G) (hnv : RV fs 1 nv ((readT :: NM.take N).map .str) (N + 1)) (hget : ∀ (j : Nat) t v, NM[j]? = some t → j < N → V[j]? = some v → getR D A t = (mkT v, true)) {Q : AO → Env → List Fact → Prop}
    (hQ : ∀ en, Sub en [(1, .int .i64 (N : Int)), (11, nv), (12, .ptr e 0), (13, .ptr w 0), (14, .ptr b 0)] → Q (.exit 4) en fs) : ∀ (k' j at' : Nat) (Wr : List (List UInt8)), j + 1 + k' = N → WOk Wr → Wr.length = K - j → at' ≤ L.length → L.drop at' = lineL Wr → V.drop j = expL k' Wr →
    WL sW ftab lb5_4 189 ((15, .int .i64 (at' : Int)) :: EE N K e w b (j + 1) L nv) fs Q := by
  have hsz := mkT_size L
  obtain ⟨sr, rfl, hrd, hz⟩ := hnv.some (by omega)
  have hel : ∀ (j : Nat) t, NM[j]? = some t → j < N → apart ((readT :: NM.take N).map AV.str) ((((j + 1 : Nat) : Int)).toNat * 1) none = some (.str t) := fun j t h1 h2 => by
    show ((readT :: NM.take N).map AV.str)[((((j + 1 : Nat) : Int)).toNat * 1)]? = _
    rw [Nat.mul_one, Int.toNat_natCast, List.map_cons, List.getElem?_cons_succ, List.getElem?_map, List.getElem?_take, if_pos h2, h1]; rfl
  intro k'
  induction k' with
  | zero =>
    intro j at' Wr hj hW hl hat hdr hV
    obtain ⟨t, ht⟩ : ∃ t, NM[j]? = some t := ⟨_, List.getElem?_eq_getElem (by show j < 6; omega)⟩
    have htm := List.mem_of_getElem? ht
    have hVj : V[j]? = some (lineL Wr) := by
      have := congrArg List.head? hV
      rw [List.head?_drop] at this; exact this
    have hg := hget j t _ ht (by omega) hVj
    refine l_round ?_
    refine cgo ?_
    refine g_do rfl (o_leq (xt rfl) (xt rfl) (fun _ => ?_) (fun h => by omega))
    refine cgo ?_
    refine w_block ?_
    refine cgo ?_
    refine g_do rfl (o_lss (xt rfl) (xt rfl) (fun h => by omega) (fun _ => ?_))
    refine cgo ?_
    refine g_do rfl (o_eqi (xt rfl) (xt rfl) (fun _ => ?_) (fun h => by omega))
    refine cgo ?_
    refine g_do rfl (o_cutl (xt rfl) (xt rfl) ⟨by omega, by omega⟩ ?_)
    rw [Int.toNat_natCast, cut_mk, hsz, List.take_of_length_le (by rw [List.length_drop]; exact Nat.le_refl _), hdr]
    refine cgo ?_
    refine g_do rfl (o_iaddr (xt rfl) (xt rfl) ⟨by omega, by omega⟩ hz ?_)
    refine g_do rfl (o_loadr (v := .str t) (xt rfl) hrd (hel j t ht (by omega)) ?_)
    refine g_do rfl (o_call (.cons (xt rfl) (.cons (xt rfl) .nil)) (eget_ev hE (by have := (nm_ok htm).2; omega) ?_))
    rw [hg]
    refine cgo ?_
    refine g_do rfl (o_nes (xt rfl) (xt rfl) (fun _ => ?_) (fun h => absurd rfl h))
    refine cgo ?_
    refine g_do rfl (o_add (xt rfl) xc (by constructor <;> omega) ?_)
    refine cgo ?_
    refine l_sub (e' := [(1, .int .i64 (N : Int)), (11, .row ((readT :: NM.take N).map .str) (N + 1) sr), (12, .ptr e 0), (13, .ptr w 0), (14, .ptr b 0), (16, .int .i64 ((j + 1 + 1 : Nat) : Int))]) (.cons rfl (.cons rfl (.cons rfl (.cons rfl (.cons rfl (.cons rfl .nil)))))) (fun _ h => h) ?_
    refine l_round ?_
    refine cgo ?_
    refine g_do rfl (o_leq (xt rfl) (xt rfl) (fun h => by omega) (fun _ => ?_))
    refine cgo ?_
    exact hQ _ (.cons rfl (.cons rfl (.cons rfl (.cons rfl (.cons rfl .nil)))))
  | succ k' ih =>
    intro j at' Wr hj hW hl hat hdr hV
    obtain ⟨t, ht⟩ : ∃ t, NM[j]? = some t := ⟨_, List.getElem?_eq_getElem (by show j < 6; omega)⟩
    have htm := List.mem_of_getElem? ht
    cases Wr with
    | nil =>
      have hVj : V[j]? = some [] := by
        have := congrArg List.head? hV
        rw [List.head?_drop] at this; exact this
      have hV2 : V.drop (j + 1) = expL k' [] := by
        have := congrArg List.tail hV
        rw [List.tail_drop] at this
        exact this.trans (by show List.replicate (k' + 1) [] = _; exact (exp_nil k').symm)
      have hg := hget j t _ ht (by omega) hVj
      have hK0 : K ≤ j := by have : (0 : Nat) = K - j := hl; omega
      refine l_round ?_
      refine cgo ?_
      refine g_do rfl (o_leq (xt rfl) (xt rfl) (fun _ => ?_) (fun h => by omega))
      refine cgo ?_
      refine w_block ?_
      refine cgo ?_
      refine g_do rfl (o_lss (xt rfl) (xt rfl) (fun _ => ?_) (fun h => by omega))
      refine cgo ?_
      refine g_do rfl (o_leq (xt rfl) (xt rfl) (fun h => by omega) (fun _ => ?_))
      refine cgo ?_
      refine g_do rfl (o_eqi (xt rfl) (xt rfl) (fun h => by omega) (fun _ => ?_))
      refine cgo ?_
      refine g_do rfl (o_iaddr (xt rfl) (xt rfl) ⟨by omega, by omega⟩ hz ?_)
      refine g_do rfl (o_loadr (v := .str t) (xt rfl) hrd (hel j t ht (by omega)) ?_)
      refine g_do rfl (o_call (.cons (xt rfl) (.cons (xt rfl) .nil)) (eget_ev hE (by have := (nm_ok htm).2; omega) ?_))
      rw [hg]
      refine cgo ?_
      refine g_do rfl (o_nes (xt rfl) (xt rfl) (fun _ => ?_) (fun h => absurd rfl h))
      refine cgo ?_
      refine g_do rfl (o_add (xt rfl) xc (by constructor <;> omega) ?_)
      refine cgo ?_
      refine l_sub (e' := (15, .int .i64 ((at' : Nat) : Int)) :: EE N K e w b (j + 1 + 1) L (.row ((readT :: NM.take N).map .str) (N + 1) sr)) (.cons rfl (.cons rfl (.cons rfl (.cons rfl (.cons rfl (.cons rfl (.cons rfl (.cons rfl (.cons rfl .nil))))))))) (fun _ h => h) ?_
      exact ih (j + 1) (at') [] (by omega) hW (by show 0 = _; omega) hat hdr hV2
    | cons u W' =>
      have hl : W'.length + 1 = K - j := hl
      have hVj : V[j]? = some u := by
        have := congrArg List.head? hV
        rw [List.head?_drop] at this; exact this
      have hV2 : V.drop (j + 1) = expL k' W' := by
        have := congrArg List.tail hV
        rw [List.tail_drop] at this
        exact this
      have hg := hget j t _ ht (by omega) hVj
      obtain ⟨c1, c2, c3⟩ := line_cut hW
      have hu20 := (hW u (List.mem_cons_self ..)).2.2
      have hlu : (lineL (u :: W')).length = L.length - at' := by rw [← hdr, List.length_drop]
      have d1 : L.drop (at' + u.length) = sepL W' ++ lineL W' := by
        rw [← List.drop_drop, hdr, ← c2]
        have := drop_tw (p := ne32) (lineL (u :: W'))
        rw [c1] at this; exact this
      have hat1 : at' + u.length ≤ L.length := by
        have : u.length ≤ (lineL (u :: W')).length := by show u.length ≤ (u ++ (sepL W' ++ lineL W')).length; rw [List.length_append]; omega
        omega
      have d2 : L.drop (at' + u.length + ((sepL W' ++ lineL W').takeWhile eq32).length) = lineL W' := by
        rw [← List.drop_drop, d1]
        exact (drop_tw (p := eq32) (sepL W' ++ lineL W')).trans c3
      have hat2 : at' + u.length + ((sepL W' ++ lineL W').takeWhile eq32).length ≤ L.length := by
        have := (List.takeWhile_sublist (l := sepL W' ++ lineL W') eq32).length_le
        rw [← d1, List.length_drop] at this
        rw [d1] at this
        omega
      refine l_round ?_
      refine cgo ?_
      refine g_do rfl (o_leq (xt rfl) (xt rfl) (fun _ => ?_) (fun h => by omega))
      refine cgo ?_
      refine w_block ?_
      refine cgo ?_
      refine g_do rfl (o_lss (xt rfl) (xt rfl) (fun _ => ?_) (fun h => by omega))
      refine cgo ?_
      refine g_do rfl (o_leq (xt rfl) (xt rfl) (fun _ => ?_) (fun h => by omega))
      refine cgo ?_
      refine w_block (w_loop ?_)
      refine l_sub (e' := (15, .int .i64 (at' : Int)) :: (17, .str (mkT [])) :: EE N K e w b (j + 1) L (.row ((readT :: NM.take N).map .str) (N + 1) sr)) (.cons rfl (.cons rfl (.cons rfl (.cons rfl (.cons rfl (.cons rfl (.cons rfl (.cons rfl (.cons rfl (.cons rfl .nil)))))))))) (fun _ h => h) ?_
      refine wt_loop hL _ at' [] hdr hat (by rw [hlu]; show 0 + _ ≤ _; omega) fun en hS => ?_
      rw [c1, List.nil_append] at hS
      refine w_sub hS (fun _ h => h) ?_
      refine cgo ?_
      refine w_block (w_loop ?_)
      refine l_sub (e' := (15, .int .i64 ((at' + u.length : Nat) : Int)) :: (17, .str (mkT u)) :: EE N K e w b (j + 1) L (.row ((readT :: NM.take N).map .str) (N + 1) sr)) (.cons rfl (.cons rfl (.cons rfl (.cons rfl (.cons rfl (.cons rfl (.cons rfl (.cons rfl (.cons rfl (.cons rfl .nil)))))))))) (fun _ h => h) ?_
      refine sk_loop hL _ (at' + u.length) d1 hat1 fun en hS => ?_
      refine w_sub hS (fun _ h => h) ?_
      refine cgo ?_
      refine g_do rfl (o_eqi (xt rfl) (xt rfl) (fun h => by omega) (fun _ => ?_))
      refine cgo ?_
      refine g_do rfl (o_iaddr (xt rfl) (xt rfl) ⟨by omega, by omega⟩ hz ?_)
      refine g_do rfl (o_loadr (v := .str t) (xt rfl) hrd (hel j t ht (by omega)) ?_)
      refine g_do rfl (o_call (.cons (xt rfl) (.cons (xt rfl) .nil)) (eget_ev hE (by have := (nm_ok htm).2; omega) ?_))
      rw [hg]
      refine cgo ?_
      refine g_do rfl (o_nes (xt rfl) (xt rfl) (fun _ => ?_) (fun h => absurd rfl h))
      refine cgo ?_
      refine g_do rfl (o_add (xt rfl) xc (by constructor <;> omega) ?_)
      refine cgo ?_
      refine l_sub (e' := (15, .int .i64 ((at' + u.length + ((sepL W' ++ lineL W').takeWhile eq32).length : Nat) : Int)) :: EE N K e w b (j + 1 + 1) L (.row ((readT :: NM.take N).map .str) (N + 1) sr)) (.cons rfl (.cons rfl (.cons rfl (.cons rfl (.cons rfl (.cons rfl (.cons rfl (.cons rfl (.cons rfl .nil))))))))) (fun _ h => h) ?_
      exact ih (j + 1) (at' + u.length + ((sepL W' ++ lineL W').takeWhile eq32).length) W' (by omega) (fun x hx => hW x (List.mem_cons_of_mem _ hx)) (by omega) hat2 d2 hV2
theorem rem6 (k : Nat) : aarith .rem (.int .i64 (k : Int)) (.int .i64 6) = some (.int .i64 ((k % 6 : Nat) : Int)) := by
  have e : ((k : Int).tmod 6) = ((k % 6 : Nat) : Int) := rfl
  simp only [aarith, if_true]
  rw [if_neg (by decide), e]
theorem wordsR_nil : ∀ k, wordsR k [] = List.replicate (k + 1) []
  | 0 => rfl
  | k + 1 => by unfold wordsR; exact if_pos rfl
theorem reads_ev {wv : AV} {T : List ByteArray} {n : Int} (hv : RI 1 wv (T.map .str) T.length) : Ev sW ftab 5 [wv, .int .i64 n] [] fun v _ => v = .bool true := by
  refine ev_fn (nt := 189) (kb := kb5) (kr := kr5) rfl rfl (Nat.le_of_ble_eq_true rfl) ?_
  refine cgo ?_
  refine w_block (w_loop ?_)
  refine l_sub (e' := [(0, wv), (1, .int .i64 n), (5, .str (mkT (lineL []))), (6, .int .i64 (([] : List (List UInt8)).length : Int)), (7, .int .i64 (([] : List (List UInt8)).length : Int))]) (.cons rfl (.cons rfl (.cons rfl (.cons rfl (.cons rfl .nil))))) (fun _ h => h) ?_
  refine rd_out hv (fun W en hW hWl hS => ?_) (fun en hS => ?_) (min 8 T.length) [] (by simp) (fun x hx => by cases hx)
  rotate_left
  · exact ⟨trivial, _, _, .one (.tmp (hS.lk _ _ rfl)), .refl _, rfl⟩
  refine w_sub hS (fun _ h => h) ?_
  clear hS
  have hll := line_len hW
  refine cgo ?_
  refine g_do rfl (o_arith (v := .int .i64 (n % 256)) (xt rfl) xc (by
    show some (AV.int .i64 (Go.bits .and .i64 n 255)) = _
    rw [Bits.bits_and255]) ?_)
  obtain ⟨k0, hk0⟩ : ∃ k : Nat, n % 256 = k := ⟨(n % 256).toNat, by omega⟩
  rw [hk0]
  refine g_do rfl (o_arith (xt rfl) xc (rem6 k0) ?_)
  refine g_do rfl (o_add (xt rfl) xc (by constructor <;> omega) ?_)
  obtain ⟨N, hN, hN1, hN6⟩ : ∃ N : Nat, ((k0 % 6 : Nat) : Int) + 1 = N ∧ 1 ≤ N ∧ N ≤ 6 := ⟨k0 % 6 + 1, by omega, by omega, by omega⟩
  rw [hN]
  refine cgo ?_
  refine g_do rfl (o_row (cs := (readT :: NM).map .str) (.cons xc (.cons xc (.cons xc (.cons xc (.cons xc (.cons xc (.cons xc .nil))))))) rfl rfl fun f7 id7 => ?_)
  refine cgo ?_
  refine g_do rfl (o_add (xt rfl) xc (by constructor <;> omega) ?_)
  have hr7 : RV [.row f7 id7 (7 * 1)] 1 (.row ((readT :: NM).map .str) 7 ⟨f7, id7, 0, 1⟩) ((readT :: NM).map .str) 7 := .row (s := ⟨f7, id7, 0, 1⟩) (.own .here) rfl
  refine g_do rfl (o_cutv (p := 0) (q := N + 1) (xt rfl) hr7 .none (.some (xt rfl)) (by
    have := bounds_hi (n := 7) (k := .i64) (b := (N : Int) + 1) ⟨by omega, by omega⟩
    rw [show ((N : Int) + 1).toNat = N + 1 by omega] at this; exact this) ?_)
  have hnv : RV [.row f7 id7 (7 * 1)] 1 (cutV (.row ((readT :: NM).map .str) 7 ⟨f7, id7, 0, 1⟩) 1 0 (N + 1)) ((readT :: NM.take N).map .str) (N + 1) := by
    have := cutV_rv (p := 0) (q := N + 1) hr7 ⟨by omega, by omega⟩
    have e1 : (((readT :: NM).map AV.str).drop (0 * 1)).take ((N + 1 - 0) * 1) = (readT :: NM.take N).map .str := by
      rw [Nat.zero_mul, List.drop_zero, Nat.sub_zero, Nat.mul_one, ← List.map_take, List.take_succ_cons]
    rw [e1, Nat.sub_zero] at this
    exact this
  generalize cutV (.row ((readT :: NM).map .str) 7 ⟨f7, id7, 0, 1⟩) 1 0 (N + 1) = nv at hnv ⊢
  refine cgo ?_
  refine g_do rfl (o_call (.cons xc (.cons xc .nil)) (new0_ev fun e m f => ?_))
  refine g_nd fun hnd => ?_
  have d1 := nd_new hnd .here
  have d2 := nd_new hnd (.there .here)
  have d3 : m ≠ f := by
    rw [List.map_cons, List.nodup_cons] at hnd
    exact nd_new hnd.2 .here
  have hE : EInv (.blk e (.cells [.map m, .nilrow, .map f]) :: .blk f (.map [] 0) :: .blk m (.map [(.str ifsT, .str blanksT, 0)] 1) :: [.row f7 id7 (7 * 1)]) e m f [(ifsT, blanksT)] [] (fun _ => false) :=
    ⟨_, _, [ifsT], .nilrow, [], 0, ⟨.here, .there (.there .here), .there .here, map1.1, by decide, .nil, fun _ => rfl, by decide, d2.symm, d1.symm, d3⟩, map1.2, fun b => rfl⟩
  have hnv1 : RV (.blk e (.cells [.map m, .nilrow, .map f]) :: .blk f (.map [] 0) :: .blk m (.map [(.str ifsT, .str blanksT, 0)] 1) :: [.row f7 id7 (7 * 1)]) 1 nv ((readT :: NM.take N).map .str) (N + 1) := hnv.cons.cons.cons
  clear hnd d1 d2 d3 hnv hr7
  generalize (Fact.blk e (.cells [.map m, .nilrow, .map f]) :: .blk f (.map [] 0) :: .blk m (.map [(.str ifsT, .str blanksT, 0)] 1) :: [.row f7 id7 (7 * 1)]) = fs1 at hE hnv1 ⊢
  refine cgo ?_
  refine g_do rfl (o_cat xc (xt rfl) (by have := mkT_size (lineL W); show 1 + (mkT (lineL W)).size ≤ _; omega) ?_)
  rw [show (⟨#[32]⟩ : ByteArray) ++ mkT (lineL W) = mkT (32 :: lineL W) from mkT_app [32] _]
  refine g_do rfl (o_cat (xt rfl) xc (by have := mkT_size (32 :: lineL W); rw [List.length_cons] at this; show (mkT (32 :: lineL W)).size + 6 ≤ _; omega) ?_)
  have hline : mkT (32 :: lineL W) ++ (⟨#[32, 10, 109, 111, 114, 101]⟩ : ByteArray) = mkT (([32] ++ (lineL W ++ [32])) ++ 10 :: [109, 111, 114, 101]) := by
    have : mkT (32 :: lineL W) ++ (⟨#[32, 10, 109, 111, 114, 101]⟩ : ByteArray) = mkT ((32 :: lineL W) ++ [32, 10, 109, 111, 114, 101]) := mkT_app _ _
    rw [this]; simp
  rw [hline]
  have hpl : ([32] ++ (lineL W ++ [32])).length ≤ 200 := by
    rw [List.length_append, List.length_append]; show 1 + (_ + 1) ≤ _; omega
  have hpb : ∀ b ∈ [32] ++ (lineL W ++ [32]), b.toNat = 32 ∨ 32 < b.toNat := fun b hb => by
    rcases List.mem_append.1 hb with hb | hb
    · rw [List.mem_singleton.1 hb]; exact Or.inl rfl
    · rcases List.mem_append.1 hb with hb | hb
      · exact line_byte hW b hb
      · rw [List.mem_singleton.1 hb]; exact Or.inl rfl
  have hwl : ∀ k, wordsR k ([32] ++ (lineL W ++ [32])) = expL k W := fun k => words_line k hW (fun b hb => by rw [List.mem_singleton.1 hb]; rfl)
  generalize [32] ++ (lineL W ++ [32]) = p at hpl hpb hwl ⊢
  refine g_do rfl (o_row (cs := [.str (mkT (p ++ 10 :: [109, 111, 114, 101]))]) (.cons (xt rfl) .nil) rfl rfl fun f8 id8 => ?_)
  have frr : Fr [] fs1 (.row f8 id8 (1 * 1) :: fs1) := Fr.cons .refl
  refine cgo ?_
  refine g_do rfl (o_call (.cons (xt rfl) .nil) (wnew1_ev (.row (s := ⟨f8, id8, 0, 1⟩) (.own .here) rfl) fun w fs2 hnw hfr hW1 => ?_))
  have hE2 := (hE.fr frr nok).fr hfr nok
  have hnv2 := (hnv1.fr frr nok).fr hfr nok
  have hne : w ≠ e ∧ w ≠ m ∧ w ≠ f := by
    obtain ⟨_, _, _, _, _, _, I, _, _⟩ := hE
    exact ⟨(hnw _ _ (.there I.fe)).symm, (hnw _ _ (.there I.fm)).symm, (hnw _ _ (.there I.ff)).symm⟩
  clear hE hnv1 hnw hfr frr
  refine cgo ?_
  refine g_do rfl (o_eq (c := false) (xt rfl) xc rfl ?_)
  refine cgo ?_
  refine g_do rfl (o_eq (c := false) (xt rfl) xc rfl ?_)
  refine cgo ?_
  have hNM : ∀ t ∈ NM.take N, t ∈ NM := fun t ht => List.mem_of_mem_take ht
  have hlen : (NM.take N).length = N := by rw [List.length_take]; show min N 6 = N; omega
  have hNok : NamesOk (NM.take N) := fun t ht => nm_ok (hNM t ht)
  have hnod : (NM.take N).Nodup := nm_nodup.sublist (List.take_sublist _ _)
  have hnv3 : RV fs2 1 nv ((readT :: NM.take N).map .str) ((NM.take N).length + 1) := by rw [hlen]; exact hnv2
  have hF : ∀ v ∈ wordsR ((NM.take N).length - 1) p, Fits (mkT v) := by rw [hwl]; exact exp_ok _ hW hWl
  have hup0 : UpV [(ifsT, blanksT)] := List.pairwise_singleton ..
  have hW1' := hW1
  obtain ⟨_, _, _, _, hwx, _⟩ := hW1'
  refine g_do rfl (o_call (.cons (xt rfl) (.cons (xt rfl) (.cons (xt rfl) (.cons xc .nil)))) (run_ev (ok := true) (l := p) hE2 hne hup0 (by decide) rfl ⟨_, hwx⟩
    (fun fs0 k K hK => rd1_ev (hW1.fr k nok) (fun b hb => by
      rcases List.mem_append.1 hb with hb | hb
      · rcases hpb b hb with h | h <;> omega
      · simp only [List.mem_cons, List.not_mem_nil, or_false] at hb
        rcases hb with rfl | rfl | rfl | rfl | rfl <;> decide) (fun b hb => by rcases hpb b hb with h | h <;> omega) (by omega) (by decide) hK)
    hnv3 (by omega) (by omega) hNok (by omega) hF fun fs3 k3 hW3 hE3 => ?_))
  have hfx : ∀ x ∈ [((0 : Nat), w), (0, m)], x.1 = 0 := fun x hx => by
    simp only [List.mem_cons, List.not_mem_nil, or_false] at hx
    rcases hx with rfl | rfl <;> rfl
  have hnv4 := hnv2.fr k3 hfx
  refine g_do rfl (o_box xc rfl fun b14 => ?_)
  refine g_nd fun hnd => ?_
  have n14w : b14 ≠ w := by obtain ⟨_, _, _, _, hh, _⟩ := hW3; exact (nd_new hnd hh).symm
  have n14m : b14 ≠ m := by obtain ⟨_, _, _, _, _, _, I, _, _⟩ := hE3; exact (nd_new hnd I.fm).symm
  refine g_do0 (o_store (cs' := [.int .i64 (if true = true then 0 else 1), .str ⟨#[]⟩, .int .i64 0, .int .i64 0, .int .i64 0]) (xt rfl) (xt rfl) .here ⟨rfl, (Nat.le_of_ble_eq_true rfl)⟩ rfl rfl ?_)
  refine cgo ?_
  have fr4 : Fr [] fs3 (.blk b14 (.cells [.int .i64 (if true = true then 0 else 1), .str ⟨#[]⟩, .int .i64 0, .int .i64 0, .int .i64 0]) :: fs3) := Fr.cons .refl
  have hb14 : Has (.blk b14 (.cells [.int .i64 (if true = true then 0 else 1), .str ⟨#[]⟩, .int .i64 0, .int .i64 0, .int .i64 0]) :: fs3) (.blk b14 (.cells [.int .i64 (if true = true then 0 else 1), .str ⟨#[]⟩, .int .i64 0, .int .i64 0, .int .i64 0])) := .here
  have hE4 := hE3.fr fr4 nok
  have hW4 := hW3.fr fr4 nok
  have hnv5 := hnv4.fr fr4 nok
  generalize (Fact.blk b14 (.cells [.int .i64 (if true = true then 0 else 1), .str ⟨#[]⟩, .int .i64 0, .int .i64 0, .int .i64 0]) :: fs3) = fs4 at fr4 hb14 hE4 hW4 hnv5 ⊢
  rw [hwl] at hE4
  obtain ⟨u1, u2⟩ := sets_len (T := NM.take N) (V := expL ((NM.take N).length - 1) W) hup0
  have hget : ∀ (j : Nat) t v, NM[j]? = some t → j < N → (expL ((NM.take N).length - 1) W)[j]? = some v → getR (setsD (NM.take N) (expL ((NM.take N).length - 1) W) [(ifsT, blanksT)]) [] t = (mkT v, true) := fun j t v h1 h2 h3 =>
    getR_nm (List.mem_of_getElem? h1) (sets_get hup0 (by rw [hlen]; show 1 + N ≤ 100; omega) hnod hNok (exp_ok _ hW hWl) (by rw [List.getElem?_take, if_pos h2]; exact h1) h3)
  have hifs : ifsR (setsD (NM.take N) (expL ((NM.take N).length - 1) W) [(ifsT, blanksT)]) = blanksT := by
    unfold ifsR
    rw [sets_out fun h => nm_ifs (hNM _ h)]; rfl
  have u2 : (setsD (NM.take N) (expL ((NM.take N).length - 1) W) [(ifsT, blanksT)]).length ≤ 10 := by
    have : (setsD (NM.take N) (expL ((NM.take N).length - 1) W) [(ifsT, blanksT)]).length ≤ 1 + (NM.take N).length := u2
    omega
  generalize hV : expL ((NM.take N).length - 1) W = V at hE4 u1 u2 hget hifs
  generalize setsD (NM.take N) V [(ifsT, blanksT)] = D1 at hE4 u1 u2 hget hifs
  refine w_block (w_loop ?_)
  refine l_sub (e' := (15, .int .i64 ((0 : Nat) : Int)) :: EE N W.length e w b14 (0 + 1) (lineL W) nv) (.cons rfl (.cons rfl (.cons rfl (.cons rfl (.cons rfl (.cons rfl (.cons rfl (.cons rfl (.cons rfl .nil))))))))) (fun _ h => h) ?_
  refine want_loop (V := V) (by omega) hN6 hWl hE4 hnv5 hget (fun en hS => ?_) (N - 1) 0 0 W (by omega) hW rfl (by omega) rfl (by rw [List.drop_zero, ← hV, hlen])
  refine w_sub hS (fun _ h => h) ?_
  clear hS
  refine cgo ?_
  have hnv6 : RV fs4 1 nv ((readT :: NM.take N).map .str) ((NM.take N).length + 1) := by rw [hlen]; exact hnv5
  have hW4' := hW4
  obtain ⟨_, _, _, _, hwx4, _⟩ := hW4'
  refine g_do rfl (o_call (.cons (xt rfl) (.cons (xt rfl) (.cons (xt rfl) (.cons xc .nil)))) (run_ev (ok := false) (l := []) hE4 hne u1 u2 hifs ⟨_, hwx4⟩
    (fun fs0 k K hK => rd0_ev (hW4.fr k nok) (hK fs0 .refl (hW4.fr k nok)))
    hnv6 (by omega) (by omega) hNok (by decide) (fun v hv => by
      rw [wordsR_nil] at hv
      obtain rfl : v = [] := List.eq_of_mem_replicate hv
      exact ⟨by decide, fun b hb => by cases hb⟩) fun fs5 k5 hW5 hE5 => ?_))
  have hb5 := k5 _ hb14 (by
    intro hm
    simp only [List.mem_cons, List.not_mem_nil, or_false] at hm
    rcases hm with hm | hm
    · exact n14w (congrArg Prod.snd hm)
    · exact n14m (congrArg Prod.snd hm))
  refine g_do rfl (o_box xc rfl fun b20 => ?_)
  refine g_do0 (o_store (cs' := [.int .i64 (if false = true then 0 else 1), .str ⟨#[]⟩, .int .i64 0, .int .i64 0, .int .i64 0]) (xt rfl) (xt rfl) .here ⟨rfl, (Nat.le_of_ble_eq_true rfl)⟩ rfl rfl ?_)
  refine cgo ?_
  have hE6 := hE5.fr (fs' := .blk b20 (.cells [.int .i64 (if false = true then 0 else 1), .str ⟨#[]⟩, .int .i64 0, .int .i64 0, .int .i64 0]) :: fs5) (Fr.cons (ks := []) .refl) nok
  have hga : getR (setsD (NM.take N) (wordsR ((NM.take N).length - 1) []) D1) [] ⟨#[97]⟩ = (mkT [], true) := by
    refine getR_nm (.head _) (sets_get (j := 0) (v := []) u1 (by omega) hnod hNok (fun v hv => ?_) ?_ ?_)
    · rw [wordsR_nil] at hv
      obtain rfl : v = [] := List.eq_of_mem_replicate hv
      exact ⟨by decide, fun b hb => by cases hb⟩
    · rw [List.getElem?_take, if_pos (by omega)]; rfl
    · rw [wordsR_nil]; rfl
  refine g_do rfl (o_call (.cons (xt rfl) (.cons xc .nil)) (eget_ev (k := ⟨#[97]⟩) hE6 (by decide) ?_))
  rw [hga]
  refine cgo ?_
  refine g_do rfl (o_load (xt rfl) (.there hb5) rfl ?_)
  refine cgo ?_
  refine g_do rfl (o_eqt (b := true) (xt rfl) (xt rfl) (by simp [cellsEq, scalarEq, AV.cells, toList_inj]) ?_)
  refine cgo ?_
  refine g_do rfl (o_eqt (b := true) (xt rfl) (xt rfl) (by simp [cellsEq, scalarEq, AV.cells, toList_inj]) ?_)
  refine cgo ?_
  refine g_do rfl (o_eqs (xt rfl) xc (fun _ => ?_) (fun h => absurd rfl h))
  refine cgo ?_
  refine g_do rfl (o_call .nil (awake_ev ?_))
  refine cgo ?_
  exact ⟨trivial, _, _, .one (.tmp rfl), .refl _, rfl⟩
set_option maxRecDepth 100000 in
theorem BuiltReads_true (a0 : AV) (n : Int) (w0 : Sh Try.prog 9 27 [a0]) (w1 : (Lit.int .i64 n).wf = true) : ∃ k, (aeval sW ftab k 5 [a0, .int .i64 n] h0).map (·.1) = some (.bool true) := by
  obtain ⟨v, T, e1, ht, _⟩ := sh_strs (d := 7) Try.underlying27 Try.underlying9 (by kernel_rfl) w0
  obtain rfl : a0 = v := by simpa using e1
  exact ev_true (reads_ev ht)
end Go.Proofs.Ytfmhfepcohbbmaa.EvA
