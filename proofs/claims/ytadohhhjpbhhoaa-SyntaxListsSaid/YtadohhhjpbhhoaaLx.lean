/- SyntaxLists: the parser over a row of commands of one byte with signs between. -/
import Derived.Test.YtadohhhjpbhhoaaSx
namespace Go.Proofs.Ytadohhhjpbhhoaa.EvA
attribute [local irreducible] oMove oPick oBox oBuild oRow oRowZ oLoad oStore oNil oArith oEq oEqS oShr oShl oNot oNeg oConv oFn oMfn oMin oMax oCutstr oCutrow oFaddr oField oIaddr oIaddrA oIdx oExtract oLenS oLenR oLenM oAppend oCall oCallv oMap oLookup oSet oDelete kDo kDo0 kIf kEl kClr oMake oText kEnd kReg kSeq kCond kBlock kLoop kSkip kExit kRet xT xC xF kFl kIp sDo sDo0 sIf gVal
set_option linter.unusedVariables false
set_option linter.unusedSimpArgs false
set_option maxHeartbeats 4000000
variable {fs fs' : List Fact}
/-! A text from a place on. -/
abbrev bl (s : ByteArray) : List UInt8 := s.data.toList
theorem mk_list (l : List UInt8) : bl (mkT l) = l := by simp [mkT, bl]
theorem mk_self (s : ByteArray) : mkT (bl s) = s := by
  apply ByteArray.ext; apply Array.ext'; exact mk_list _
theorem sz_bl (s : ByteArray) : s.size = (bl s).length := by show s.data.size = s.data.toList.length; rw [Array.length_toList]
structure Plc (s : ByteArray) (i : Nat) (r : List UInt8) : Prop where
  eq : (bl s).drop i = r
  le : i ≤ s.size
  few : s.size ≤ 1000000
theorem Plc.size {s : ByteArray} {i : Nat} {r : List UInt8} (h : Plc s i r) : s.size = i + r.length := by
  have h1 := congrArg List.length h.eq
  rw [List.length_drop, ← sz_bl] at h1
  have := h.le; omega
theorem Plc.get {s : ByteArray} {i : Nat} {b : UInt8} {r : List UInt8} (h : Plc s i (b :: r)) : s.data.toList[i]? = some b := by
  have := congrArg List.head? h.eq
  rw [List.head?_drop] at this; exact this
theorem Plc.next {s : ByteArray} {i : Nat} {b : UInt8} {r : List UInt8} (h : Plc s i (b :: r)) : Plc s (i + 1) r := by
  have hs := h.size
  refine ⟨?_, by simp at hs; omega, h.few⟩
  have := congrArg List.tail h.eq
  simpa using this
theorem Plc.skip {s : ByteArray} {i : Nat} {l r : List UInt8} (h : Plc s i (l ++ r)) : Plc s (i + l.length) r := by
  induction l generalizing i with
  | nil => simpa using h
  | cons b l ih =>
    have := ih (i := i + 1) h.next
    rw [List.length_cons, show i + (l.length + 1) = i + 1 + l.length by omega]; exact this
theorem Plc.rest {s : ByteArray} {i : Nat} {r : List UInt8} (h : Plc s i r) : s.extract i s.size = mkT r := by
  have h1 := cut_mk (bl s) i s.size
  rw [mk_self] at h1
  rw [h1, h.eq, List.take_of_length_le (by have := h.size; omega)]
theorem Plc.cut {s : ByteArray} {i k : Nat} {r : List UInt8} (h : Plc s i r) : s.extract i (i + k) = mkT (r.take k) := by
  have h1 := cut_mk (bl s) i (i + k)
  rw [mk_self] at h1
  rw [h1, h.eq, show i + k - i = k by omega]
/-! Beginnings. -/
def preB (p r : List UInt8) : Bool := decide (r.take p.length = p)
theorem hp_ev {r : List UInt8} {p : ByteArray} {K : KK} (h : K (.bool (preB (bl p) r)) fs) : Ev sW ftab 58 [.str (mkT r), .str p] fs K := by
  refine ev_fn (nt := 8) (kb := kb58) (kr := kr58) rfl rfl (Nat.le_of_ble_eq_true rfl) ?_
  refine cgo ?_
  refine g_do rfl (o_call (.cons (xt rfl) (.cons (xt rfl) .nil)) (ev_fn (nt := 18) (kb := kb69) (kr := kr69) rfl rfl (Nat.le_of_ble_eq_true rfl) ?_))
  refine cgo ?_
  have hz := mkT_size r
  have hp := sz_bl p
  refine g_do rfl (o_geq (xt rfl) (xt rfl) (fun h1 => ?_) (fun h1 => ?_))
  · refine cgo ?_
    refine g_do rfl (o_cuth (xt rfl) (xt rfl) ⟨by omega, by omega⟩ ?_)
    rw [Int.toNat_natCast, cut_mk, List.drop_zero, Nat.sub_zero, hp]
    refine rgo ?_
    refine g_do rfl (o_eqs (xt rfl) (xt rfl) (fun he => ?_) (fun he => ?_))
    · have hb : preB (bl p) r = true := decide_eq_true (by have h3 := congrArg bl he; rw [mk_list] at h3; exact h3)
      rw [hb] at h
      refine cgo ?_
      refine ⟨trivial, _, fs, .one (.tmp rfl), .refl _, ?_⟩
      refine cgo ?_
      exact ⟨trivial, _, fs, .one (.tmp rfl), .refl _, h⟩
    · have hb : preB (bl p) r = false := decide_eq_false (fun e => he (by rw [e, mk_self]))
      rw [hb] at h
      refine cgo ?_
      refine ⟨trivial, _, fs, .one (.tmp rfl), .refl _, ?_⟩
      refine cgo ?_
      exact ⟨trivial, _, fs, .one (.tmp rfl), .refl _, h⟩
  · have hb : preB (bl p) r = false := decide_eq_false (fun e => by
      have := congrArg List.length e
      rw [List.length_take] at this; omega)
    rw [hb] at h
    refine cgo ?_
    refine ⟨trivial, _, fs, .one (.tmp rfl), .refl _, ?_⟩
    refine cgo ?_
    exact ⟨trivial, _, fs, .one (.tmp rfl), .refl _, h⟩
/-- Operators. -/
def opF (r : List UInt8) : Option ByteArray := opsL.find? fun o => preB (bl o) r
theorem opg_loop {s : ByteArray} {i f id : Nat} {r : List UInt8} (hat : Plc s i r) {Q : AO → Env → List Fact → Prop} (hQ : opF r = none → ∀ e, Q (.exit 0) e (.row f id (17 * 1) :: fs)) (hR : ∀ o, opF r = some o → ∀ e, Sub e [(4, .str o), (5, .bool true)] → Q .ret e (.row f id (17 * 1) :: fs)) : ∀ (k j : Nat), j + k = 17 → (opsL.take j).find? (fun o => preB (bl o) r) = none →
    WL sW ftab lb51_0 29 [(0, .str s), (1, .int .i64 (i : Int)), (16, .row (opsL.map .str) 17 ⟨f, id, 0, 1⟩), (17, .int .i64 ((17 : Nat) : Int)), (18, .int .i64 (j : Int))] (.row f id (17 * 1) :: fs) Q
  | 0, j, hj, hf => by
    refine l_round ?_
    refine cgo ?_
    refine g_do rfl (o_lss (xt rfl) (xt rfl) (fun h => by omega) (fun h => ?_))
    refine cgo ?_
    refine hQ ?_ _
    rw [List.take_of_length_le (by show 17 ≤ j; omega)] at hf
    exact hf
  | k + 1, j, hj, hf => by
    have hlt : j < opsL.length := by show j < 17; omega
    obtain ⟨p, h1⟩ : ∃ p, opsL[j]? = some p := ⟨_, List.getElem?_eq_getElem hlt⟩
    refine l_round ?_
    refine cgo ?_
    refine g_do rfl (o_lss (xt rfl) (xt rfl) (fun h => ?_) (fun h => by omega))
    refine cgo ?_
    refine w_block ?_
    refine cgo ?_
    refine g_do rfl (o_iaddr (xt rfl) (xt rfl) ⟨by omega, by omega⟩ rfl ?_)
    refine g_do rfl (o_loadr (v := .str p) (xt rfl) (.own .here) ?_ ?_)
    · simp only [apart]
      rw [show ((j : Nat) : Int).toNat * 1 = j by omega, List.getElem?_map, h1]; rfl
    refine cgo ?_
    refine g_do rfl (o_cutl (xt rfl) (xt rfl) ⟨by omega, by have := hat.le; omega⟩ ?_)
    rw [Int.toNat_natCast, hat.rest]
    refine rgo ?_
    refine g_do rfl (o_call (.cons (xt rfl) (.cons (xt rfl) .nil)) (hp_ev ?_))
    cases hb : preB (bl p) r with
    | true =>
      refine cgo ?_
      refine hR p ?_ _ (.cons rfl (.cons rfl .nil))
      have e1 : opsL = opsL.take j ++ p :: opsL.drop (j + 1) := by
        have e2 : opsL.drop j = p :: opsL.drop (j + 1) := by
          rw [List.drop_eq_getElem_cons hlt]
          have := (List.getElem?_eq_getElem hlt).symm.trans h1
          rw [Option.some.inj this]
        rw [← e2, List.take_append_drop]
      unfold opF
      rw [e1, List.find?_append, hf, List.find?_cons, hb]; rfl
    | false =>
      refine cgo ?_
      refine g_do rfl (o_add (xt rfl) xc (by constructor <;> omega) ?_)
      refine cgo ?_
      refine l_sub (e' := [(0, .str s), (1, .int .i64 (i : Int)), (16, .row (opsL.map .str) 17 ⟨f, id, 0, 1⟩), (17, .int .i64 ((17 : Nat) : Int)), (18, .int .i64 ((j + 1 : Nat) : Int))]) (.cons rfl (.cons rfl (.cons rfl (.cons rfl (.cons rfl .nil))))) (fun _ h => h) ?_
      refine opg_loop hat hQ hR k (j + 1) (by omega) ?_
      rw [List.take_add_one, h1, Option.toList_some, List.find?_append, hf, List.find?_cons, hb]; rfl
def opV (r : List UInt8) : AV := match opF r with
  | some o => .tup [.str o, .bool true]
  | none => .tup [.str ⟨#[]⟩, .bool false]
theorem opg_ev {s : ByteArray} {i : Nat} {b : UInt8} {r : List UInt8} (hat : Plc s i (b :: r)) {K : KK} (h : K (opV (b :: r)) fs) : Ev sW ftab 51 [.str s, .int .i64 (i : Int)] fs K := by
  have hsz := hat.size
  refine ev_fn (nt := 29) (kb := kb51) (kr := kr51) rfl rfl (Nat.le_of_ble_eq_true rfl) ?_
  refine cgo ?_
  refine g_do rfl (o_lss (xt rfl) xc (fun h9 => by omega) (fun _ => ?_))
  refine cgo ?_
  refine g_do rfl (o_geq (xt rfl) (xt rfl) (fun h9 => by simp at hsz; omega) (fun _ => ?_))
  refine cgo ?_
  refine g_do rfl (o_call .nil (ops_ev fun f id => ?_))
  refine cgo ?_
  refine w_block (w_loop ?_)
  refine l_sub (e' := [(0, .str s), (1, .int .i64 (i : Int)), (16, .row (opsL.map .str) 17 ⟨f, id, 0, 1⟩), (17, .int .i64 ((17 : Nat) : Int)), (18, .int .i64 ((0 : Nat) : Int))]) (.cons rfl (.cons rfl (.cons rfl (.cons rfl (.cons rfl .nil))))) (fun _ h => h) ?_
  refine opg_loop hat (fun hn e => ?_) (fun o ho e hS => ?_) 17 0 rfl rfl
  · have : opV (b :: r) = .tup [.str ⟨#[]⟩, .bool false] := by unfold opV; rw [hn]
    rw [this] at h
    refine cgo ?_
    exact ⟨trivial, _, fs, .tup (.cons (.tmp rfl) (.cons (.tmp rfl) .nil)), .cons _ (.refl _), h⟩
  · have : opV (b :: r) = .tup [.str o, .bool true] := by unfold opV; rw [ho]
    rw [this] at h
    cases hS with | cons h3 h4 => cases h4 with | cons h4 _ =>
    exact ⟨trivial, _, fs, .tup (.cons (.tmp h3) (.cons (.tmp h4) .nil)), .cons _ (.refl _), h⟩
def SkipTo (s : ByteArray) (i j : Nat) : Prop := ∀ {fs : List Fact} {K : KK}, K (.int .i64 (j : Int)) fs → Ev sW ftab 49 [.str s, .int .i64 (i : Int)] fs K
theorem skip_stop {s : ByteArray} {j : Nat} {c : UInt8} {r : List UInt8} (hat : Plc s j (c :: r)) (hc : c ≠ 32 ∧ c ≠ 9 ∧ c ≠ 92 ∧ c ≠ 35) {Q : AO → Env → List Fact → Prop} (hQ : ∀ e, Sub e [(4, .int .i64 (j : Int))] → Q .ret e fs) : WL sW ftab lb49_0 53 [(0, .str s), (1, .int .i64 (j : Int))] fs Q := by
  have hsz := hat.size
  have hfew := hat.few
  have ne : ∀ {a : UInt8}, c ≠ a → ¬ ((c.toNat : Int) = (a.toNat : Int)) := fun h e => h (UInt8.toNat_inj.1 (Int.ofNat.inj e))
  have hp : preB (bl ⟨#[92, 10]⟩) (c :: r) = false := decide_eq_false (fun e => hc.2.2.1 (by
    have h2 := congrArg List.head? e
    exact Option.some.inj ((by simpa using h2 : some c = (bl ⟨#[92, 10]⟩).head?).trans rfl)))
  refine l_round ?_
  refine cgo ?_
  refine g_do rfl (o_lss (xt rfl) (xt rfl) (fun _ => ?_) (fun h9 => by simp at hsz; omega))
  refine cgo ?_
  refine w_block ?_
  refine cgo ?_
  refine w_block ?_
  refine cgo ?_
  refine g_do rfl (o_idx (b := c) (xt rfl) (xt rfl) (by omega) (by rw [Int.toNat_natCast]; exact hat.get) ?_)
  refine g_do rfl (o_eqi (xt rfl) xc (fun h9 => absurd h9 (ne (a := 32) hc.1)) (fun _ => ?_))
  refine cgo ?_
  refine g_do rfl (o_idx (b := c) (xt rfl) (xt rfl) (by omega) (by rw [Int.toNat_natCast]; exact hat.get) ?_)
  refine g_if rfl ?_
  refine g_do rfl (o_eqi (xt rfl) xc (fun h9 => absurd h9 (ne (a := 9) hc.2.1)) (fun _ => ?_))
  refine cgo ?_
  refine g_do rfl (o_cutl (xt rfl) (xt rfl) ⟨by omega, by omega⟩ ?_)
  rw [Int.toNat_natCast, hat.rest]
  refine g_do rfl (o_call (.cons (xt rfl) (.cons xc .nil)) (hp_ev ?_))
  rw [hp]
  refine cgo ?_
  refine g_do rfl (o_idx (b := c) (xt rfl) (xt rfl) (by omega) (by rw [Int.toNat_natCast]; exact hat.get) ?_)
  refine g_do rfl (o_eqi (xt rfl) xc (fun h9 => absurd h9 (ne (a := 35) hc.2.2.2)) (fun _ => ?_))
  refine cgo ?_
  exact hQ _ (.cons rfl .nil)
theorem skip_here {s : ByteArray} {j : Nat} {c : UInt8} {r : List UInt8} (hat : Plc s j (c :: r)) (hc : c ≠ 32 ∧ c ≠ 9 ∧ c ≠ 92 ∧ c ≠ 35) : SkipTo s j j := fun {fs K} h => by
  have hsz := hat.size
  refine ev_fn (nt := 53) (kb := kb49) (kr := kr49) rfl rfl (Nat.le_of_ble_eq_true rfl) ?_
  refine cgo ?_
  refine g_do rfl (o_max (xt rfl) xc ?_)
  refine rgo ?_
  refine g_do rfl (o_min (xt rfl) (xt rfl) ?_)
  rw [if_neg (show ¬ (0 : Int) > (j : Int) by omega), if_neg (show ¬ ((s.size : Nat) : Int) < (j : Int) by omega)]
  refine cgo ?_
  refine w_block (w_loop ?_)
  refine l_sub (e' := [(0, .str s), (1, .int .i64 (j : Int))]) (.cons rfl (.cons rfl .nil)) (fun _ h => h) ?_
  refine skip_stop hat hc fun e hS => ?_
  cases hS with | cons h3 _ => exact ⟨trivial, _, fs, .one (.tmp h3), .refl _, h⟩
theorem skip_one {s : ByteArray} {j : Nat} {c : UInt8} {r : List UInt8} (hat : Plc s j (32 :: c :: r)) (hc : c ≠ 32 ∧ c ≠ 9 ∧ c ≠ 92 ∧ c ≠ 35) : SkipTo s j (j + 1) := fun {fs K} h => by
  have hsz := hat.size
  refine ev_fn (nt := 53) (kb := kb49) (kr := kr49) rfl rfl (Nat.le_of_ble_eq_true rfl) ?_
  refine cgo ?_
  refine g_do rfl (o_max (xt rfl) xc ?_)
  refine rgo ?_
  refine g_do rfl (o_min (xt rfl) (xt rfl) ?_)
  rw [if_neg (show ¬ (0 : Int) > (j : Int) by omega), if_neg (show ¬ ((s.size : Nat) : Int) < (j : Int) by omega)]
  refine cgo ?_
  refine w_block (w_loop (l_round ?_))
  refine cgo ?_
  refine g_do rfl (o_lss (xt rfl) (xt rfl) (fun _ => ?_) (fun h9 => by simp at hsz; omega))
  refine cgo ?_
  refine w_block ?_
  refine cgo ?_
  refine w_block ?_
  refine cgo ?_
  refine g_do rfl (o_idx (b := 32) (xt rfl) (xt rfl) (by omega) (by rw [Int.toNat_natCast]; exact hat.get) ?_)
  refine cgg ?_
  refine g_do rfl (o_add (xt rfl) xc (by have := hat.few; simp at hsz; constructor <;> omega) ?_)
  refine cgo ?_
  refine l_sub (e' := [(0, .str s), (1, .int .i64 ((j + 1 : Nat) : Int))]) (.cons rfl (.cons rfl .nil)) (fun _ h => h) ?_
  refine skip_stop hat.next hc fun e hS => ?_
  cases hS with | cons h3 _ => exact ⟨trivial, _, fs, .one (.tmp h3), .refl _, h⟩
theorem skip_end {s : ByteArray} {j : Nat} (hat : Plc s j []) : SkipTo s j j := fun {fs K} h => by
  have hsz := hat.size
  refine ev_fn (nt := 53) (kb := kb49) (kr := kr49) rfl rfl (Nat.le_of_ble_eq_true rfl) ?_
  refine cgo ?_
  refine g_do rfl (o_max (xt rfl) xc ?_)
  refine rgo ?_
  refine g_do rfl (o_min (xt rfl) (xt rfl) ?_)
  rw [if_neg (show ¬ (0 : Int) > (j : Int) by omega), if_neg (show ¬ ((s.size : Nat) : Int) < (j : Int) by omega)]
  refine cgo ?_
  refine w_block (w_loop (l_round ?_))
  refine cgo ?_
  refine g_do rfl (o_lss (xt rfl) (xt rfl) (fun h9 => by simp at hsz; omega) (fun _ => ?_))
  refine cgo ?_
  exact ⟨trivial, _, fs, .one (.tmp rfl), .refl _, h⟩
theorem digits_g {s : ByteArray} {j : Nat} {c : UInt8} {r : List UInt8} (hat : Plc s j (c :: r)) (hc : c.toNat < 48 ∨ 57 < c.toNat) {K : KK} (h : K (.int .i64 0) fs) : Ev sW ftab 50 [.str s, .int .i64 (j : Int)] fs K := by
  have hsz := hat.size
  have hfew := hat.few
  refine ev_fn (nt := 31) (kb := kb50) (kr := kr50) rfl rfl (Nat.le_of_ble_eq_true rfl) ?_
  refine cgo ?_
  refine w_block (w_loop (l_round ?_))
  refine cgo ?_
  refine g_do rfl (o_add (xt rfl) (xt rfl) (by constructor <;> omega) ?_)
  rw [Int.add_zero]
  refine cgo ?_
  refine g_do rfl (o_lss (xt rfl) (xt rfl) (fun _ => ?_) (fun h9 => by simp at hsz; omega))
  refine cgo ?_
  refine g_do rfl (o_add (xt rfl) (xt rfl) (by constructor <;> omega) ?_)
  rw [Int.add_zero]
  refine g_if rfl ?_
  refine g_do rfl (o_idx (b := c) (xt rfl) (xt rfl) (by omega) (by rw [Int.toNat_natCast]; exact hat.get) ?_)
  refine g_if rfl ?_
  refine g_do rfl (o_geq (xt rfl) xc (fun h1 => ?_) (fun h1 => ?_))
  · refine cgo ?_
    refine g_do rfl (o_add (xt rfl) (xt rfl) (by constructor <;> omega) ?_)
    rw [Int.add_zero]
    refine g_if rfl ?_
    refine g_do rfl (o_idx (b := c) (xt rfl) (xt rfl) (by omega) (by rw [Int.toNat_natCast]; exact hat.get) ?_)
    refine g_if rfl ?_
    refine g_do rfl (o_leq (xt rfl) xc (fun h2 => by omega) (fun h2 => ?_))
    refine cgo ?_
    exact ⟨trivial, _, fs, .one (.tmp rfl), .refl _, h⟩
  · refine cgo ?_
    exact ⟨trivial, _, fs, .one (.tmp rfl), .refl _, h⟩
/-! A reader of a text. -/
abbrev qB (s : ByteArray) (at_ dp : Int) (tok : AV) (st : Bool) : List AV := [.str s, .int .i64 at_, .int .i64 dp, tok, .int .i64 0, .int .i64 0, .bool st]
abbrev uW (j : Nat) : List AV := [.int .i64 2, .int .i64 (j : Int), .int .i64 0, .str ⟨#[]⟩, .int .i64 0, .int .i64 0, .str (mkT [120])]
abbrev uO (j : Nat) (o : ByteArray) : List AV := [.int .i64 1, .int .i64 (j : Int), .int .i64 ((j + o.size : Nat) : Int), .str o, .int .i64 0, .int .i64 0, .str ⟨#[]⟩]
abbrev uE (j : Nat) : List AV := [.int .i64 0, .int .i64 (j : Int), .int .i64 (j : Int), .str ⟨#[]⟩, .int .i64 0, .int .i64 0, .str ⟨#[]⟩]
theorem op_none (t : List UInt8) : opV (120 :: t) = .tup [.str ⟨#[]⟩, .bool false] := by
  have : opF (120 :: t) = none := by
    unfold opF
    rw [List.find?_eq_none]
    intro o ho
    obtain ⟨i, hi, rfl⟩ := List.mem_iff_getElem.1 ho
    obtain ⟨p, b, h1, h2, h3⟩ := ops_first i hi
    have := (List.getElem?_eq_getElem hi).symm.trans h1
    rw [Option.some.inj this]
    simp only [preB, decide_eq_true_eq]
    intro e
    have h4 : (bl p)[0]? = some 120 := by
      rw [← e]
      cases hb : bl p with
      | nil => rw [show p.data.toList = bl p from rfl, hb] at h2; cases h2
      | cons a l => simp
    rw [show p.data.toList = bl p from rfl, h4] at h2
    exact h3 (Option.some.inj h2).symm
  unfold opV; rw [this]
theorem ends_b {K : KK} (h : K (.bool true) fs) : Ev sW ftab 53 [.int .u8 32] fs K := by
  refine ev_fn (nt := 6) (kb := kb53) (kr := kr53) rfl rfl (Nat.le_of_ble_eq_true rfl) ?_
  refine cgo ?_
  refine g_do rfl (o_call (.cons xc (.cons (xt rfl) .nil)) (ix3_ev (b := 32) (by decide) ?_))
  refine g_do rfl (o_geq (xt rfl) xc (fun _ => ?_) (fun h => absurd (by decide) h))
  refine cgo ?_
  exact ⟨trivial, _, fs, .one (.tmp rfl), .refl _, h⟩
theorem rdW {s : ByteArray} {p i j : Nat} {dp : Int} {tok : AV} {st : Bool} {t : List UInt8} (hsk : SkipTo s i j) (hat : Plc s j (120 :: t)) (ht : t = [] ∨ ∃ t', t = 32 :: t') (hp : Put fs (.blk p (.cells (qB s i dp tok st))) (.blk p (.cells (qB s j dp tok st))) fs') {K : KK} (h : K (.agg (uW j)) fs') : Ev sW ftab 36 [.ptr p 0] fs K := by
  have hsz := hat.size
  have hfew := hat.few
  simp only [List.length_cons] at hsz
  refine ev_fn (nt := 107) (kb := kb36) (kr := kr36) rfl rfl (Nat.le_of_ble_eq_true rfl) ?_
  refine cgo ?_
  refine g_do rfl (o_box xc rfl fun x2 => ?_)
  refine cgo ?_
  refine g_do rfl (o_load (xt rfl) (.there hp.has) rfl ?_)
  refine cgo ?_
  refine g_do rfl (o_load (xt rfl) (.there hp.has) rfl ?_)
  refine g_do rfl (o_call (.cons (xt rfl) (.cons (xt rfl) .nil)) (hsk ?_))
  refine cgo ?_
  refine g_do0 (o_store (xt rfl) (xt rfl) (.there hp) ⟨rfl, (Nat.le_of_ble_eq_true rfl)⟩ rfl rfl ?_)
  refine cgo ?_
  refine g_do rfl (o_load (xt rfl) (.there hp.new) rfl ?_)
  refine cgo ?_
  refine g_do rfl (o_load (xt rfl) (.there hp.new) rfl ?_)
  refine cgg ?_
  refine g_do rfl (o_load (xt rfl) (.there hp.new) rfl ?_)
  refine cgo ?_
  refine g_do rfl (o_geq (xt rfl) (xt rfl) (fun h9 => by omega) (fun _ => ?_))
  refine cgo ?_
  refine g_do rfl (o_load (xt rfl) (.there hp.new) rfl ?_)
  refine cgo ?_
  refine g_do rfl (o_call (.cons (xt rfl) (.cons (xt rfl) .nil)) (digits_g hat (Or.inr (by decide)) ?_))
  refine cgo ?_
  refine g_do rfl (o_load (xt rfl) (.there hp.new) rfl ?_)
  refine cgo ?_
  refine g_do rfl (o_add (xt rfl) (xt rfl) (by constructor <;> omega) ?_)
  rw [Int.add_zero]
  refine g_do rfl (o_call (.cons (xt rfl) (.cons (xt rfl) .nil)) (opg_ev hat ?_))
  rw [op_none]
  refine cgo ?_
  refine w_block (w_loop (l_round ?_))
  refine cgo ?_
  refine g_do rfl (o_load (xt rfl) (.there hp.new) rfl ?_)
  refine cgo ?_
  refine g_do rfl (o_lss (xt rfl) (xt rfl) (fun _ => ?_) (fun h9 => by omega))
  refine cgo ?_
  refine g_do rfl (o_load (xt rfl) (.there hp.new) rfl ?_)
  refine cgo ?_
  refine g_do rfl (o_idx (b := 120) (xt rfl) (xt rfl) (by omega) (by rw [Int.toNat_natCast]; exact hat.get) ?_)
  refine g_if rfl ?_
  refine g_do rfl (o_call (.cons (xt rfl) .nil) (ends_x ?_))
  refine cgo ?_
  refine w_block ?_
  refine cgo ?_
  refine g_do rfl (o_add (xt rfl) xc (by constructor <;> omega) ?_)
  refine cgo ?_
  have fin : WL sW ftab lb36_0 107 [(0, .ptr p 0), (2, .ptr x2 0), (3, .int .i64 (j : Int)), (7, .int .i64 ((j + 1 : Nat) : Int))] (.blk x2 (.cells [.int .i64 0, .int .i64 0, .int .i64 0, .str ⟨#[]⟩, .int .i64 0, .int .i64 0, .str ⟨#[]⟩]) :: fs') fun ao e f2 => ao = .exit 0 ∧ f2 = .blk x2 (.cells [.int .i64 0, .int .i64 0, .int .i64 0, .str ⟨#[]⟩, .int .i64 0, .int .i64 0, .str ⟨#[]⟩]) :: fs' ∧ Sub e [(0, .ptr p 0), (2, .ptr x2 0), (3, .int .i64 (j : Int)), (7, .int .i64 ((j + 1 : Nat) : Int))] := by
    refine l_round ?_
    refine cgo ?_
    refine g_do rfl (o_load (xt rfl) (.there hp.new) rfl ?_)
    refine cgo ?_
    rcases ht with rfl | ⟨t', rfl⟩
    · refine g_do rfl (o_lss (xt rfl) (xt rfl) (fun h9 => by simp at hsz; omega) (fun _ => ?_))
      refine cgo ?_
      exact ⟨rfl, rfl, .cons rfl (.cons rfl (.cons rfl (.cons rfl .nil)))⟩
    · refine g_do rfl (o_lss (xt rfl) (xt rfl) (fun _ => ?_) (fun h9 => by simp at hsz; omega))
      refine cgo ?_
      refine g_do rfl (o_load (xt rfl) (.there hp.new) rfl ?_)
      refine cgo ?_
      refine g_do rfl (o_idx (b := 32) (xt rfl) (xt rfl) (by omega) (by rw [Int.toNat_natCast]; exact hat.next.get) ?_)
      refine g_if rfl ?_
      refine g_do rfl (o_call (.cons (xt rfl) .nil) (ends_b ?_))
      refine cgo ?_
      exact ⟨rfl, rfl, .cons rfl (.cons rfl (.cons rfl (.cons rfl .nil)))⟩
  refine l_sub (e' := [(0, .ptr p 0), (2, .ptr x2 0), (3, .int .i64 (j : Int)), (7, .int .i64 ((j + 1 : Nat) : Int))]) (fs' := .blk x2 (.cells [.int .i64 0, .int .i64 0, .int .i64 0, .str ⟨#[]⟩, .int .i64 0, .int .i64 0, .str ⟨#[]⟩]) :: fs') (.cons rfl (.cons rfl (.cons rfl (.cons rfl .nil)))) (fun _ h => h) ?_
  refine l_mono fin ?_
  rintro ao e f2 ⟨rfl, rfl, hS⟩
  refine w_sub hS (fun _ h => h) ?_
  refine cgo ?_
  refine g_do rfl (o_load (xt rfl) (.there hp.new) rfl ?_)
  refine cgo ?_
  refine g_do rfl (o_cutlh (xt rfl) (xt rfl) (xt rfl) ⟨by omega, by omega, by omega⟩ ?_)
  rw [Int.toNat_natCast, Int.toNat_natCast, hat.cut]
  refine cgo ?_
  refine g_do rfl (o_build (.cons xc (.cons (xt rfl) (.cons (xt rfl) .nil))) rfl ?_)
  refine cgo ?_
  exact ⟨trivial, _, fs', .one (.cell rfl .here rfl), .cons _ (.refl _), h⟩
theorem rdE {s : ByteArray} {p i : Nat} {dp : Int} {tok : AV} {st : Bool} (hat : Plc s i []) (hp : Has fs (.blk p (.cells (qB s i dp tok st)))) {K : KK} (h : K (.agg (uE i)) fs) : Ev sW ftab 36 [.ptr p 0] fs K := by
  have hsz := hat.size
  simp only [List.length_nil] at hsz
  refine ev_fn (nt := 107) (kb := kb36) (kr := kr36) rfl rfl (Nat.le_of_ble_eq_true rfl) ?_
  refine cgo ?_
  refine g_do rfl (o_box xc rfl fun x2 => ?_)
  refine cgo ?_
  refine g_do rfl (o_load (xt rfl) (.there hp) rfl ?_)
  refine cgo ?_
  refine g_do rfl (o_load (xt rfl) (.there hp) rfl ?_)
  refine g_do rfl (o_call (.cons (xt rfl) (.cons (xt rfl) .nil)) (skip_end hat ?_))
  refine cgo ?_
  refine g_do0 (o_store (xt rfl) (xt rfl) (.there hp.same) ⟨rfl, (Nat.le_of_ble_eq_true rfl)⟩ rfl rfl ?_)
  refine cgo ?_
  refine g_do rfl (o_load (xt rfl) (.there hp) rfl ?_)
  refine cgo ?_
  refine g_do rfl (o_load (xt rfl) (.there hp) rfl ?_)
  refine cgg ?_
  refine g_do rfl (o_load (xt rfl) (.there hp) rfl ?_)
  refine cgo ?_
  refine g_do rfl (o_geq (xt rfl) (xt rfl) (fun _ => ?_) (fun h9 => by omega))
  refine cgo ?_
  refine g_do rfl (o_build (.cons xc (.cons (xt rfl) (.cons (xt rfl) .nil))) rfl ?_)
  refine cgo ?_
  exact ⟨trivial, _, fs, .one (.cell rfl .here rfl), .cons _ (.refl _), h⟩
def opK (k : Nat) : ByteArray := match k with
  | 0 => ⟨#[59]⟩
  | 1 => ⟨#[38, 38]⟩
  | 2 => ⟨#[124, 124]⟩
  | _ => ⟨#[124]⟩
theorem opK_is (k : Nat) : opK k = ⟨#[59]⟩ ∨ opK k = ⟨#[38, 38]⟩ ∨ opK k = ⟨#[124, 124]⟩ ∨ opK k = ⟨#[124]⟩ := by
  match k with
  | 0 => exact Or.inl rfl
  | 1 => exact Or.inr (Or.inl rfl)
  | 2 => exact Or.inr (Or.inr (Or.inl rfl))
  | n + 3 => exact Or.inr (Or.inr (Or.inr rfl))
theorem operator_x {s o : ByteArray} {p j : Nat} {a dp : Int} {tok : AV} (ho : o = ⟨#[59]⟩ ∨ o = ⟨#[38, 38]⟩ ∨ o = ⟨#[124, 124]⟩ ∨ o = ⟨#[124]⟩) (hj : j ≤ 1000000) (hp : Has fs (.blk p (.cells (qB s a dp tok false)))) {K : KK} (h : K (.agg (uO j o)) fs) : Ev sW ftab 52 [.ptr p 0, .str o, .int .i64 (j : Int), .int .i64 0] fs K := by
  have ne : o ≠ ⟨#[60, 60]⟩ ∧ o ≠ ⟨#[38]⟩ ∧ o ≠ ⟨#[60, 38]⟩ ∧ o ≠ ⟨#[62, 38]⟩ ∧ o ≠ ⟨#[60, 62]⟩ ∧ o ≠ ⟨#[62, 124]⟩ ∧ o ≠ ⟨#[60]⟩ ∧ o ≠ ⟨#[62]⟩ ∧ o ≠ ⟨#[62, 62]⟩ := by
    rcases ho with rfl | rfl | rfl | rfl <;> decide
  obtain ⟨n1, n2, n3, n4, n5, n6, n7, n8, n9⟩ := ne
  have hz : o.size ≤ 2 := by rcases ho with rfl | rfl | rfl | rfl <;> decide
  refine ev_fn (nt := 114) (kb := kb52) (kr := kr52) rfl rfl (Nat.le_of_ble_eq_true rfl) ?_
  refine cgo ?_
  refine g_do rfl (o_box xc rfl fun x8 => ?_)
  refine cgo ?_
  refine g_do rfl (o_add (xt rfl) (xt rfl) (by constructor <;> omega) ?_)
  rw [Int.add_zero]
  refine cgo ?_
  refine g_do rfl (o_add (xt rfl) (xt rfl) (by constructor <;> omega) ?_)
  rw [show ((j : Int) + (o.size : Int)) = ((j + o.size : Nat) : Int) by omega]
  refine cgo ?_
  refine g_do rfl (o_build (.cons xc (.cons (xt rfl) (.cons (xt rfl) (.cons (xt rfl) .nil)))) rfl ?_)
  refine g_do rfl (o_box xc rfl fun x9 => ?_)
  refine cgo ?_
  refine g_do rfl (o_load (xt rfl) (.there (.there hp)) rfl ?_)
  refine cgo ?_
  refine w_block ?_
  refine cgo ?_
  refine g_do rfl (o_eqs (xt rfl) xc (fun h9 => absurd h9 n1) (fun _ => ?_))
  refine cgo ?_
  refine g_do rfl (o_eqs (xt rfl) xc (fun h9 => absurd h9 n2) (fun _ => ?_))
  refine cgo ?_
  refine g_do rfl (o_eqs (xt rfl) xc (fun h9 => absurd h9 n3) (fun _ => ?_))
  refine cgo ?_
  refine g_do rfl (o_eqs (xt rfl) xc (fun h9 => absurd h9 n4) (fun _ => ?_))
  refine cgo ?_
  refine g_do rfl (o_eqs (xt rfl) xc (fun h9 => absurd h9 n5) (fun _ => ?_))
  refine cgo ?_
  refine g_do rfl (o_eqs (xt rfl) xc (fun h9 => absurd h9 n6) (fun _ => ?_))
  refine cgo ?_
  refine g_do rfl (o_eqs (xt rfl) xc (fun h9 => absurd h9 n7) (fun _ => ?_))
  refine cgo ?_
  refine g_do rfl (o_eqs (xt rfl) xc (fun h9 => absurd h9 n8) (fun _ => ?_))
  refine cgo ?_
  refine g_do rfl (o_eqs (xt rfl) xc (fun h9 => absurd h9 n9) (fun _ => ?_))
  refine cgg ?_
  exact ⟨trivial, _, fs, .one (.cell rfl (.there .here) rfl), .cons _ (.cons _ (.refl _)), h⟩
theorem op_some (k : Nat) (t : List UInt8) : opV (bl (opK k) ++ 32 :: t) = .tup [.str (opK k), .bool true] := by
  match k with
  | 0 => rfl
  | 1 => rfl
  | 2 => rfl
  | n + 3 => rfl
theorem rdO {s : ByteArray} {p i j k : Nat} {dp : Int} {tok : AV} {t : List UInt8} (hsk : SkipTo s i j) (hat : Plc s j (bl (opK k) ++ 32 :: t)) (hp : Put fs (.blk p (.cells (qB s i dp tok false))) (.blk p (.cells (qB s j dp tok false))) fs') {K : KK} (h : K (.agg (uO j (opK k))) fs') : Ev sW ftab 36 [.ptr p 0] fs K := by
  have hsz := hat.size
  have hfew := hat.few
  simp only [List.length_append, List.length_cons] at hsz
  obtain ⟨b, r, hbr, hd⟩ : ∃ b r, bl (opK k) ++ 32 :: t = b :: r ∧ (b.toNat < 48 ∨ 57 < b.toNat) := by
    rcases opK_is k with h1 | h1 | h1 | h1 <;> rw [h1] <;> exact ⟨_, _, rfl, by decide⟩
  have h60 : ∀ b, (opK k).data.toList[0]? = some b → b ≠ 60 ∧ b ≠ 62 := by
    rcases opK_is k with h1 | h1 | h1 | h1 <;> rw [h1] <;> intro b hb <;> obtain rfl := Option.some.inj hb <;> decide
  refine ev_fn (nt := 107) (kb := kb36) (kr := kr36) rfl rfl (Nat.le_of_ble_eq_true rfl) ?_
  refine cgo ?_
  refine g_do rfl (o_box xc rfl fun x2 => ?_)
  refine cgo ?_
  refine g_do rfl (o_load (xt rfl) (.there hp.has) rfl ?_)
  refine cgo ?_
  refine g_do rfl (o_load (xt rfl) (.there hp.has) rfl ?_)
  refine g_do rfl (o_call (.cons (xt rfl) (.cons (xt rfl) .nil)) (hsk ?_))
  refine cgo ?_
  refine g_do0 (o_store (xt rfl) (xt rfl) (.there hp) ⟨rfl, (Nat.le_of_ble_eq_true rfl)⟩ rfl rfl ?_)
  refine cgo ?_
  refine g_do rfl (o_load (xt rfl) (.there hp.new) rfl ?_)
  refine cgo ?_
  refine g_do rfl (o_load (xt rfl) (.there hp.new) rfl ?_)
  refine cgg ?_
  refine g_do rfl (o_load (xt rfl) (.there hp.new) rfl ?_)
  refine cgo ?_
  refine g_do rfl (o_geq (xt rfl) (xt rfl) (fun h9 => by omega) (fun _ => ?_))
  refine cgo ?_
  refine g_do rfl (o_load (xt rfl) (.there hp.new) rfl ?_)
  refine cgo ?_
  refine g_do rfl (o_call (.cons (xt rfl) (.cons (xt rfl) .nil)) (digits_g (hbr ▸ hat) hd ?_))
  refine cgo ?_
  refine g_do rfl (o_load (xt rfl) (.there hp.new) rfl ?_)
  refine cgo ?_
  refine g_do rfl (o_add (xt rfl) (xt rfl) (by constructor <;> omega) ?_)
  rw [Int.add_zero]
  refine g_do rfl (o_call (.cons (xt rfl) (.cons (xt rfl) .nil)) (opg_ev (hbr ▸ hat) ?_))
  rw [← hbr, op_some]
  refine cgg ?_
  refine g_do rfl (o_call (.cons (xt rfl) (.cons (xt rfl) (.cons (xt rfl) (.cons (xt rfl) .nil)))) (operator_x (opK_is k) (by omega) (.there hp.new) ?_))
  refine cgo ?_
  exact ⟨trivial, _, fs', .one (.cell rfl .here rfl), .cons _ (.refl _), h⟩
theorem Put.eq {x : Fact} (h : Put fs x x fs') : fs = fs' := by
  generalize hy : x = y at h
  rw [← hy] at h
  have : ∀ {a b : Fact} {f g : List Fact}, Put f a b g → a = b → f = g := by
    intro a b f g h
    induction h with
    | here => intro e; rw [e]
    | there _ ih => intro e; rw [ih e]
  exact this h rfl
abbrev tkn (kd a b : Int) (o r : ByteArray) : List AV := [.int .i64 kd, .int .i64 a, .int .i64 b, .str o, .int .i64 0, .int .i64 0, .str r]
def Reads (s : ByteArray) (i j : Nat) (st : Bool) (T : List AV) : Prop := ∀ {fs fs' : List Fact} {p : Nat} {dp : Int} {tok : AV} {K : KK}, Put fs (.blk p (.cells (qB s i dp tok st))) (.blk p (.cells (qB s j dp tok st))) fs' → K (.agg T) fs' → Ev sW ftab 36 [.ptr p 0] fs K
theorem reads_w {s : ByteArray} {i j : Nat} {st : Bool} {t : List UInt8} (hsk : SkipTo s i j) (hat : Plc s j (120 :: t)) (ht : t = [] ∨ ∃ t', t = 32 :: t') : Reads s i j st (uW j) := fun hp h => rdW hsk hat ht hp h
theorem reads_o {s : ByteArray} {i j k : Nat} {t : List UInt8} (hsk : SkipTo s i j) (hat : Plc s j (bl (opK k) ++ 32 :: t)) : Reads s i j false (uO j (opK k)) := fun hp h => rdO hsk hat hp h
theorem reads_e {s : ByteArray} {i : Nat} {st : Bool} (hat : Plc s i []) : Reads s i i st (uE i) := fun hp h => by
  have e := hp.eq
  subst e
  exact rdE hat hp.has h
theorem peekL {s o r : ByteArray} {p k : Nat} {a dp kd b c : Int} {st : Bool} (hp : Has fs (.blk p (.cells (qB s a dp (.ptr k 0) st)))) (hk : Has fs (.blk k (.cells (tkn kd b c o r)))) {K : KK} (h : K (.agg (tkn kd b c o r)) fs) : Ev sW ftab 21 [.ptr p 0] fs K := by
  refine ev_fn (nt := 20) (kb := kb21) (kr := kr21) rfl rfl (Nat.le_of_ble_eq_true rfl) ?_
  refine cgo ?_
  refine g_do rfl (o_box xc rfl fun x2 => ?_)
  refine cgo ?_
  refine g_do rfl (o_load (xt rfl) (.there hp) rfl ?_)
  refine cgg ?_
  refine g_do rfl (o_load (xt rfl) (.there hp) rfl ?_)
  refine cgo ?_
  refine g_do rfl (o_load (xt rfl) (.there hk) rfl ?_)
  refine g_do0 (o_store (xt rfl) (xt rfl) .here ⟨rfl, (Nat.le_of_ble_eq_true rfl)⟩ rfl rfl ?_)
  refine cgo ?_
  exact ⟨trivial, _, fs, .one (.cell rfl .here rfl), .cons _ (.refl _), h⟩
theorem peekR {s o r : ByteArray} {p i j : Nat} {dp kd b c : Int} {st : Bool} (hR : Reads s i j st (tkn kd b c o r)) {K : KK} (h : ∀ k, K (.agg (tkn kd b c o r)) (.blk k (.cells (tkn kd b c o r)) :: .blk p (.cells (qB s j dp (.ptr k 0) st)) :: fs)) : Ev sW ftab 21 [.ptr p 0] (.blk p (.cells (qB s i dp .nilptr st)) :: fs) K := by
  refine ev_fn (nt := 20) (kb := kb21) (kr := kr21) rfl rfl (Nat.le_of_ble_eq_true rfl) ?_
  refine cgo ?_
  refine g_do rfl (o_box xc rfl fun x2 => ?_)
  refine cgo ?_
  refine cgg ?_
  refine g_do rfl (o_call (.cons (xt rfl) .nil) (hR (.there .here) ?_))
  refine g_do rfl (o_box xc rfl fun k => ?_)
  refine cgo ?_
  refine cgo ?_
  exact ⟨trivial, _, .blk k (.cells (tkn kd b c o r)) :: .blk p (.cells (qB s j dp (.ptr k 0) st)) :: fs, .one (.cell rfl (.there .here) rfl), .cons_cons _ (.cons _ (.refl _)), h k⟩
/-! An operator stands next, or none. -/
theorem opNo {s o r z : ByteArray} {p k : Nat} {a dp kd b c : Int} {st : Bool} (hn : kd ≠ 1 ∨ o ≠ z) (hp : Has fs (.blk p (.cells (qB s a dp (.ptr k 0) st)))) (hk : Has fs (.blk k (.cells (tkn kd b c o r)))) {K : KK} (h : K (.bool false) fs) : Ev sW ftab 46 [.ptr p 0, .str z] fs K := by
  refine ev_fn (nt := 26) (kb := kb46) (kr := kr46) rfl rfl (Nat.le_of_ble_eq_true rfl) ?_
  refine cgo ?_
  refine g_do rfl (o_call (.cons (xt rfl) .nil) (peekL hp hk ?_))
  refine g_do rfl (o_box xc rfl fun x5 => ?_)
  refine cgo ?_
  refine g_do rfl (o_load (xt rfl) (.there hp) rfl ?_)
  refine cgg ?_
  refine g_do rfl (o_nei (xt rfl) xc (fun h1 => ?_) (fun _ => ?_))
  · refine cgg ?_
    refine g_do rfl (o_nes (xt rfl) (xt rfl) (fun h2 => ?_) (fun _ => ?_))
    · exact (hn.elim (fun h3 => h3 h1) (fun h3 => h3 h2)).elim
    refine cgg ?_
    exact ⟨trivial, _, fs, .one (.tmp rfl), .cons _ (.refl _), h⟩
  · refine cgg ?_
    exact ⟨trivial, _, fs, .one (.tmp rfl), .cons _ (.refl _), h⟩
theorem opNoR {s o r z : ByteArray} {p i j : Nat} {dp kd b c : Int} {st : Bool} (hn : kd ≠ 1 ∨ o ≠ z) (hR : Reads s i j st (tkn kd b c o r)) {K : KK} (h : ∀ k, K (.bool false) (.blk k (.cells (tkn kd b c o r)) :: .blk p (.cells (qB s j dp (.ptr k 0) st)) :: fs)) : Ev sW ftab 46 [.ptr p 0, .str z] (.blk p (.cells (qB s i dp .nilptr st)) :: fs) K := by
  refine ev_fn (nt := 26) (kb := kb46) (kr := kr46) rfl rfl (Nat.le_of_ble_eq_true rfl) ?_
  refine cgo ?_
  refine g_do rfl (o_call (.cons (xt rfl) .nil) (peekR hR fun k => ?_))
  refine g_do rfl (o_box xc rfl fun x5 => ?_)
  refine cgg ?_
  refine g_do rfl (o_nei (xt rfl) xc (fun h1 => ?_) (fun _ => ?_))
  · refine cgg ?_
    refine g_do rfl (o_nes (xt rfl) (xt rfl) (fun h2 => ?_) (fun _ => ?_))
    · exact (hn.elim (fun h3 => h3 h1) (fun h3 => h3 h2)).elim
    refine cgg ?_
    exact ⟨trivial, _, _, .one (.tmp rfl), .cons _ (.refl _), h k⟩
  · refine cgg ?_
    exact ⟨trivial, _, _, .one (.tmp rfl), .cons _ (.refl _), h k⟩
theorem takeO {s o r : ByteArray} {p k : Nat} {a dp b c : Int} {st : Bool} {K : KK} (hk : Has fs (.blk k (.cells (tkn 1 b c o r)))) (h : K (.agg (tkn 1 b c o r)) (.blk p (.cells (qB s c dp .nilptr false)) :: fs)) : Ev sW ftab 64 [.ptr p 0] (.blk p (.cells (qB s a dp (.ptr k 0) st)) :: fs) K := by
  refine ev_fn (nt := 30) (kb := kb64) (kr := kr64) rfl rfl (Nat.le_of_ble_eq_true rfl) ?_
  refine cgo ?_
  refine g_do rfl (o_box xc rfl fun x2 => ?_)
  refine cgo ?_
  refine g_do rfl (o_call (.cons (xt rfl) .nil) (peekL (.there .here) (.there (.there hk)) ?_))
  refine g_do rfl (o_box xc rfl fun x3 => ?_)
  refine cgo ?_
  refine cgg ?_
  refine g_do0 (o_store (xt rfl) xc (.there (.there .here)) ⟨rfl, (Nat.le_of_ble_eq_true rfl)⟩ rfl rfl ?_)
  refine cgg ?_
  refine g_do0 (o_store (xt rfl) xc (.there (.there .here)) ⟨rfl, (Nat.le_of_ble_eq_true rfl)⟩ rfl rfl ?_)
  refine cgg ?_
  exact ⟨trivial, _, _, .one (.cell rfl (.there .here) rfl), .cons _ (.cons _ (.refl _)), h⟩
theorem opYes {s o r : ByteArray} {p k : Nat} {a dp b c : Int} {st : Bool} {K : KK} (hk : Has fs (.blk k (.cells (tkn 1 b c o r)))) (h : K (.bool true) (.blk p (.cells (qB s c dp .nilptr false)) :: fs)) : Ev sW ftab 46 [.ptr p 0, .str o] (.blk p (.cells (qB s a dp (.ptr k 0) st)) :: fs) K := by
  refine ev_fn (nt := 26) (kb := kb46) (kr := kr46) rfl rfl (Nat.le_of_ble_eq_true rfl) ?_
  refine cgo ?_
  refine g_do rfl (o_call (.cons (xt rfl) .nil) (peekL .here (.there hk) ?_))
  refine g_do rfl (o_box xc rfl fun x5 => ?_)
  refine cgg ?_
  refine g_do rfl (o_nes (xt rfl) (xt rfl) (fun _ => ?_) (fun h2 => absurd rfl h2))
  refine cgg ?_
  refine g_do rfl (o_call (.cons (xt rfl) .nil) (Ev.perm (.swap ..) (takeO (.there hk) ?_)))
  refine cgo ?_
  exact ⟨trivial, _, .blk p (.cells (qB s c dp .nilptr false)) :: fs, .one (.tmp rfl), .cons_cons _ (.cons _ (.refl _)), h⟩
/-! Line feeds ahead of a command. -/
theorem startR {s o r : ByteArray} {p i j : Nat} {dp kd b c : Int} {st : Bool} (hn : kd ≠ 1 ∨ o ≠ ⟨#[10]⟩) (hR : Reads s i j true (tkn kd b c o r)) {K : KK} (h : ∀ k, K (.tup []) (.blk k (.cells (tkn kd b c o r)) :: .blk p (.cells (qB s j dp (.ptr k 0) true)) :: fs)) : Ev sW ftab 33 [.ptr p 0] (.blk p (.cells (qB s i dp .nilptr st)) :: fs) K := by
  refine ev_fn (nt := 10) (kb := kb33) (kr := kr33) rfl rfl (Nat.le_of_ble_eq_true rfl) ?_
  refine cgo ?_
  refine g_do0 (o_store (xt rfl) xc .here ⟨rfl, (Nat.le_of_ble_eq_true rfl)⟩ rfl rfl ?_)
  refine cgo ?_
  refine w_block (w_loop (l_round ?_))
  refine cgo ?_
  refine g_do rfl (o_call (.cons (xt rfl) (.cons xc .nil)) (opNoR hn hR fun k => ?_))
  refine cgo ?_
  exact ⟨trivial, _, _, .one .none, .refl _, h k⟩
theorem startL {s o r : ByteArray} {p k : Nat} {a dp kd b c : Int} {st : Bool} (hn : kd ≠ 1 ∨ o ≠ ⟨#[10]⟩) (hk : Has fs (.blk k (.cells (tkn kd b c o r)))) {K : KK} (h : K (.tup []) (.blk p (.cells (qB s a dp (.ptr k 0) true)) :: fs)) : Ev sW ftab 33 [.ptr p 0] (.blk p (.cells (qB s a dp (.ptr k 0) st)) :: fs) K := by
  refine ev_fn (nt := 10) (kb := kb33) (kr := kr33) rfl rfl (Nat.le_of_ble_eq_true rfl) ?_
  refine cgo ?_
  refine g_do0 (o_store (xt rfl) xc .here ⟨rfl, (Nat.le_of_ble_eq_true rfl)⟩ rfl rfl ?_)
  refine cgo ?_
  refine w_block (w_loop (l_round ?_))
  refine cgo ?_
  refine g_do rfl (o_call (.cons (xt rfl) (.cons xc .nil)) (opNo hn .here (.there hk) ?_))
  refine cgo ?_
  exact ⟨trivial, _, _, .one .none, .refl _, h⟩
abbrev x1 : ByteArray := mkT [120]
abbrev lC (i : Nat) : List AV := [.int .i64 1, .int .i64 (i : Int), .bool false, .str x1, .str ⟨#[]⟩, .int .i64 0, .bool false, .nilrow, .nilrow]
abbrev lR (i f id : Nat) : AV := .row (lC i) 1 ⟨f, id, 0, 9⟩
theorem enter_l {s : ByteArray} {p : Nat} {a : Int} {tok : AV} {st : Bool} {v : Int} (hp : Put fs (.blk p (.cells (qB s a 0 tok st))) (.blk p (.cells (qB s a 1 tok st))) fs') {K : KK} (h : K (.bool true) fs') : Ev sW ftab 71 [.ptr p 0, .int .i64 v] fs K := by
  refine ev_fn (nt := 25) (kb := kb71) (kr := kr71) rfl rfl (Nat.le_of_ble_eq_true rfl) ?_
  refine cgo ?_
  refine g_do rfl (o_load (xt rfl) hp.has rfl ?_)
  refine cgg ?_
  refine g_do rfl (o_load (xt rfl) hp.has rfl ?_)
  refine g_do rfl (o_add (xt rfl) xc (by constructor <;> decide) ?_)
  rw [show (0 : Int) + 1 = 1 from rfl]
  refine cgo ?_
  refine g_do0 (o_store (xt rfl) (xt rfl) hp ⟨rfl, (Nat.le_of_ble_eq_true rfl)⟩ rfl rfl ?_)
  refine cgo ?_
  refine g_do rfl (o_load (xt rfl) hp.new rfl ?_)
  refine cgg ?_
  exact ⟨trivial, _, fs', .one (.tmp rfl), .refl _, h⟩
theorem byteat_l {s : ByteArray} {j : Nat} {b : UInt8} {t : List UInt8} (hat : Plc s j (b :: t)) {K : KK} (h : K (.int .u8 b.toNat) fs) : Ev sW ftab 29 [.str s, .int .i64 (j : Int)] fs K := by
  have hsz := hat.size
  refine ev_fn (nt := 12) (kb := kb29) (kr := kr29) rfl rfl (Nat.le_of_ble_eq_true rfl) ?_
  refine cgo ?_
  refine g_do rfl (o_geq (xt rfl) (xt rfl) (fun h9 => by simp at hsz; omega) (fun _ => ?_))
  refine cgo ?_
  refine g_do rfl (o_idx (b := b) (xt rfl) (xt rfl) (by omega) (by rw [Int.toNat_natCast]; exact hat.get) ?_)
  refine cgo ?_
  exact ⟨trivial, _, fs, .one (.tmp rfl), .refl _, h⟩
theorem more_l {s : ByteArray} {p r i : Nat} {dp : Int} {tok l : AV} {st : Bool} {t : List UInt8} (hat : Plc s i (120 :: t)) (hp : Has fs (.blk p (.cells (qB s i dp tok st)))) (hr : Has fs (.blk r (.cells (rB l)))) {K : KK} (h : K (.bool true) fs) : Ev sW ftab 39 [.ptr p 0, .ptr r 0] fs K := by
  have hsz := hat.size
  refine ev_fn (nt := 49) (kb := kb39) (kr := kr39) rfl rfl (Nat.le_of_ble_eq_true rfl) ?_
  refine cgo ?_
  refine g_do rfl (o_load (xt rfl) hp rfl ?_)
  refine cgg ?_
  refine g_do rfl (o_load (xt rfl) hp rfl ?_)
  refine cgo ?_
  refine g_do rfl (o_load (xt rfl) hp rfl ?_)
  refine cgo ?_
  refine g_do rfl (o_geq (xt rfl) (xt rfl) (fun h9 => by simp at hsz; omega) (fun _ => ?_))
  refine cgo ?_
  refine g_do rfl (o_load (xt rfl) hp rfl ?_)
  refine cgo ?_
  refine g_do rfl (o_load (xt rfl) hp rfl ?_)
  refine g_do rfl (o_idx (b := 120) (xt rfl) (xt rfl) (by omega) (by rw [Int.toNat_natCast]; exact hat.get) ?_)
  refine cgo ?_
  refine w_block ?_
  refine cgo ?_
  refine g_do rfl (o_load (xt rfl) hr rfl ?_)
  refine cgo ?_
  refine g_do rfl (o_load (xt rfl) hr rfl ?_)
  refine cgo ?_
  refine g_do rfl (o_call (.cons (xt rfl) .nil) (ends_x ?_))
  refine cgo ?_
  exact ⟨trivial, _, fs, .one (.tmp rfl), .refl _, h⟩
theorem more_e {s : ByteArray} {p r i : Nat} {dp : Int} {tok l : AV} {st : Bool} {t : List UInt8} (hat : Plc s i t) (ht : t = [] ∨ ∃ t', t = 32 :: t') (hp : Has fs (.blk p (.cells (qB s i dp tok st)))) (hr : Has fs (.blk r (.cells (rB l)))) {K : KK} (h : K (.bool false) fs) : Ev sW ftab 39 [.ptr p 0, .ptr r 0] fs K := by
  have hsz := hat.size
  refine ev_fn (nt := 49) (kb := kb39) (kr := kr39) rfl rfl (Nat.le_of_ble_eq_true rfl) ?_
  refine cgo ?_
  refine g_do rfl (o_load (xt rfl) hp rfl ?_)
  refine cgg ?_
  refine g_do rfl (o_load (xt rfl) hp rfl ?_)
  refine cgo ?_
  refine g_do rfl (o_load (xt rfl) hp rfl ?_)
  refine cgo ?_
  rcases ht with rfl | ⟨t', rfl⟩
  · refine g_do rfl (o_geq (xt rfl) (xt rfl) (fun _ => ?_) (fun h9 => by simp at hsz; omega))
    refine cgo ?_
    exact ⟨trivial, _, fs, .one (.tmp rfl), .refl _, h⟩
  refine g_do rfl (o_geq (xt rfl) (xt rfl) (fun h9 => by simp at hsz; omega) (fun _ => ?_))
  refine cgo ?_
  refine g_do rfl (o_load (xt rfl) hp rfl ?_)
  refine cgo ?_
  refine g_do rfl (o_load (xt rfl) hp rfl ?_)
  refine g_do rfl (o_idx (b := 32) (xt rfl) (xt rfl) (by omega) (by rw [Int.toNat_natCast]; exact hat.get) ?_)
  refine cgo ?_
  refine w_block ?_
  refine cgo ?_
  refine g_do rfl (o_load (xt rfl) hr rfl ?_)
  refine cgo ?_
  refine g_do rfl (o_load (xt rfl) hr rfl ?_)
  refine cgo ?_
  refine g_do rfl (o_call (.cons (xt rfl) .nil) (ends_b ?_))
  refine cgo ?_
  exact ⟨trivial, _, fs, .one (.tmp rfl), .refl _, h⟩
theorem lit_l {r i : Nat} {fs' : Nat → Nat → List Fact} (hp : ∀ f id, Put fs (.blk r (.cells (rB .nilrow))) (.blk r (.cells (rB (lR i f id)))) (fs' f id)) {K : KK} (h : ∀ f id, K (.tup []) (.row f id (1 * 9) :: fs' f id)) : Ev sW ftab 56 [.ptr r 0, .str x1, .bool false, .int .i64 (i : Int)] fs K := by
  refine ev_fn (nt := 91) (kb := kb56) (kr := kr56) rfl rfl (Nat.le_of_ble_eq_true rfl) ?_
  refine cgo ?_
  refine g_do rfl (o_load (xt rfl) (hp 0 0).has rfl ?_)
  refine cgg ?_
  refine g_ip rfl ?_
  refine hgo ?_
  refine h_do rfl (o_load (xt rfl) (hp 0 0).has rfl ?_)
  refine hgo ?_
  refine h_do rfl (o_build (.cons xc (.cons (xt rfl) (.cons (xt rfl) (.cons (xt rfl) .nil)))) rfl ?_)
  refine hgo ?_
  refine h_do rfl (o_row (cs := [.int .i64 0, .int .i64 0, .bool false, .str ⟨#[]⟩, .str ⟨#[]⟩, .int .i64 0, .bool false, .nilrow, .nilrow]) (.cons xc .nil) rfl rfl fun f0 id0 => ?_)
  refine h_do rfl (o_appn (xt rfl) (.own (xt rfl) .here rfl) rfl (by decide) ⟨by decide, by decide⟩ fun f id => ?_)
  refine h_do rfl (o_iaddr (xt rfl) (xt rfl) ⟨by decide, by decide⟩ rfl ?_)
  refine hgo ?_
  refine h_end ?_
  refine ⟨_, rfl, i_el (k := 51) (m := 1 * 9) (fs1 := fun id' => .row f id' (0 + 9) :: .row f0 id0 (1 * 9) :: fs) (xt rfl) (xt rfl) rfl rfl (by decide) (by decide) rfl (fun _ => .here) fun id' _ => ?_⟩
  refine o_store (xt rfl) (xt rfl) (.there (.there (hp f id'))) ⟨rfl, (Nat.le_of_ble_eq_true rfl)⟩ rfl rfl ?_
  refine cgo ?_
  exact ⟨trivial, _, .row f id' (1 * 9) :: fs' f id', .one .none, .cons_cons _ (.cons _ (.refl _)), h f id'⟩
theorem plain_l {s : ByteArray} {p r i : Nat} {dp : Int} {tok : AV} {st : Bool} {t : List UInt8} (hat : Plc s i (120 :: t)) {K : KK} (h : ∀ f id, K (.tup []) (.row f id (1 * 9) :: .blk r (.cells (rB (lR i f id))) :: .blk p (.cells (qB s ((i + 1 : Nat) : Int) dp tok st)) :: fs)) : Ev sW ftab 40 [.ptr p 0, .ptr r 0] (.blk r (.cells (rB .nilrow)) :: .blk p (.cells (qB s i dp tok st)) :: fs) K := by
  have hsz := hat.size
  have hfew := hat.few
  simp only [List.length_cons] at hsz
  have cut : s.extract ((i : Nat) : Int).toNat ((i : Int) + 1).toNat = x1 := by
    rw [show ((i : Int) + 1).toNat = i + 1 by omega, Int.toNat_natCast, hat.cut]; rfl
  refine ev_fn (nt := 37) (kb := kb40) (kr := kr40) rfl rfl (Nat.le_of_ble_eq_true rfl) ?_
  refine cgo ?_
  refine g_fl ?_
  refine hgo ?_
  refine h_do rfl (o_add (xt rfl) xc (by constructor <;> omega) ?_)
  refine h_do rfl (o_cutlh (xt rfl) (xt rfl) (xt rfl) ⟨by omega, by omega, by omega⟩ ?_)
  rw [cut]
  refine hgo ?_
  refine h_do rfl (o_call (.cons (xt rfl) (.cons (xt rfl) .nil)) (from_x .here ?_))
  refine h_do rfl (o_call (.cons (xt rfl) (.cons (xt rfl) (.cons (xt rfl) (.cons (xt rfl) .nil)))) (lit_l (fs' := fun f id => .blk r (.cells (rB (lR i f id))) :: .blk p (.cells (qB s i dp tok st)) :: fs) (fun _ _ => .here) fun f id => ?_))
  refine h_end ?_
  refine ⟨.cons rfl (.cons rfl (o_load (xt rfl) .here rfl rfl) .nil) (.cons rfl (.cons rfl (o_cutlh (xt rfl) (xt rfl) (xt rfl) ⟨by omega, by omega, by omega⟩ (by rw [cut])) .nil) (.cons rfl (.cons rfl (o_load (xt rfl) (.there .here) rfl rfl) .nil) (.cons rfl (.cons rfl (o_load (xt rfl) (.there .here) rfl rfl) .nil) (.cons rfl (.cons rfl (o_load (xt rfl) (.there .here) rfl rfl) .nil) .nil)))), _, rfl, ?_⟩
  refine cgo ?_
  refine g_do rfl (o_add (xt rfl) xc (by constructor <;> omega) ?_)
  refine cgo ?_
  exact ⟨trivial, _, _, .one .none, .refl _, h f id⟩
theorem word_l {s : ByteArray} {p i : Nat} {dp : Int} {tok : AV} {st : Bool} {t : List UInt8} (hat : Plc s i (120 :: t)) (ht : t = [] ∨ ∃ t', t = 32 :: t') {K : KK} (h : ∀ f id, K (.agg [.int .i64 (i : Int), lR i f id]) (.row f id (1 * 9) :: .blk p (.cells (qB s ((i + 1 : Nat) : Int) dp tok st)) :: fs)) : Ev sW ftab 18 [.ptr p 0] (.blk p (.cells (qB s i dp tok st)) :: fs) K := by
  refine ev_fn (nt := 37) (kb := kb18) (kr := kr18) rfl rfl (Nat.le_of_ble_eq_true rfl) ?_
  refine cgo ?_
  refine g_do rfl (o_box xc rfl fun x2 => ?_)
  refine cgo ?_
  refine g_do rfl (o_box xc rfl fun x3 => ?_)
  refine cgo ?_
  refine g_do rfl (o_call (.cons (xt rfl) (.cons (xt rfl) .nil)) (byteat_l hat ?_))
  refine cgg ?_
  refine g_do rfl (o_box (xt rfl) rfl fun r => ?_)
  refine cgo ?_
  refine g_sub (e' := [(28, .ptr p 0), (29, .ptr r 0), (0, .ptr p 0), (2, .ptr x2 0), (3, .ptr x3 0), (4, .ptr r 0)]) (fs' := .blk r (.cells (rB .nilrow)) :: .blk p (.cells (qB s i dp tok st)) :: .blk x3 (.cells [.int .i64 (i : Int), .nilrow]) :: .blk x2 (.cells [.int .i64 0, .nilrow]) :: fs) (.cons rfl (.cons rfl (.cons rfl (.cons rfl (.cons rfl (.cons rfl .nil)))))) (fun _ hh => ?_) ?_
  · exact hh.perm (((List.perm_append_comm (l₁ := [_, _]) (l₂ := [_])).append_right fs).cons _)
  refine cgo ?_
  refine g_do rfl (o_call (.cons (xt rfl) (.cons (xt rfl) .nil)) (ev_fn (nt := 66) (kb := kb31) (kr := kr31) rfl rfl (Nat.le_of_ble_eq_true rfl) ?_))
  refine w_block (w_loop (l_round ?_))
  refine cgo ?_
  refine g_do rfl (o_call (.cons (xt rfl) (.cons (xt rfl) .nil)) (more_l hat (.there .here) .here ?_))
  refine cgo ?_
  refine w_block ?_
  refine cgo ?_
  refine g_do rfl (o_mfn (.cons (xt rfl) .nil) ?_)
  refine cgo ?_
  refine g_do rfl (o_idx (b := 120) (xt rfl) (xt rfl) (by omega) (by rw [Int.toNat_natCast]; exact hat.get) ?_)
  refine cgo ?_
  refine w_block ?_
  refine cgg ?_
  refine g_do rfl (o_callm (xt rfl) (.cons (xt rfl) .nil) (plain_l hat fun f id => ?_))
  refine cgo ?_
  refine l_round ?_
  refine cgo ?_
  refine g_do rfl (o_call (.cons (xt rfl) (.cons (xt rfl) .nil)) (more_e hat.next ht (.there (.there .here)) (.there .here) ?_))
  refine cgo ?_
  refine ⟨trivial, _, _, .one .none, .refl _, ?_⟩
  refine cgo ?_
  exact ⟨trivial, _, .row f id (1 * 9) :: .blk p (.cells (qB s ((i + 1 : Nat) : Int) dp tok st)) :: fs, .one (.cell rfl (.there (.there (.there (.there .here)))) rfl), .cons_cons _ (.cons _ (.cons_cons _ (.cons _ (.cons _ (.refl _))))), h f id⟩
theorem next_l {s : ByteArray} {p j k : Nat} {dp : Int} {st : Bool} {t : List UInt8} (hat : Plc s j (120 :: t)) (ht : t = [] ∨ ∃ t', t = 32 :: t') (hk : Has fs (.blk k (.cells (uW j)))) {K : KK} (h : ∀ f id, K (.agg [.int .i64 (j : Int), lR j f id]) (.row f id (1 * 9) :: .blk p (.cells (qB s ((j + 1 : Nat) : Int) dp .nilptr false)) :: fs)) : Ev sW ftab 95 [.ptr p 0] (.blk p (.cells (qB s j dp (.ptr k 0) st)) :: fs) K := by
  refine ev_fn (nt := 13) (kb := kb95) (kr := kr95) rfl rfl (Nat.le_of_ble_eq_true rfl) ?_
  refine cgo ?_
  refine g_do rfl (o_box xc rfl fun x2 => ?_)
  refine cgo ?_
  refine g_do rfl (o_call (.cons (xt rfl) .nil) (peekL (.there .here) (.there (.there hk)) ?_))
  refine cgo ?_
  refine g_do0 (o_store (xt rfl) xc (.there .here) ⟨rfl, (Nat.le_of_ble_eq_true rfl)⟩ rfl rfl ?_)
  refine cgo ?_
  refine g_do0 (o_store (xt rfl) xc (.there .here) ⟨rfl, (Nat.le_of_ble_eq_true rfl)⟩ rfl rfl ?_)
  refine cgo ?_
  refine g_do rfl (o_call (.cons (xt rfl) .nil) (Ev.perm (.swap ..) (word_l hat ht fun f id => ?_)))
  refine cgo ?_
  exact ⟨trivial, _, .row f id (1 * 9) :: .blk p (.cells (qB s ((j + 1 : Nat) : Int) dp .nilptr false)) :: fs, .one (.cell rfl (.there (.there .here)) rfl), .cons_cons _ (.cons_cons _ (.cons _ (.refl _))), h f id⟩
/-! What a word is. -/
theorem letter_l {K : KK} (h : K (.bool true) fs) : Ev sW ftab 74 [.int .u8 120] fs K := by
  refine ev_fn (nt := 21) (kb := kb74) (kr := kr74) rfl rfl (Nat.le_of_ble_eq_true rfl) ?_
  refine cgg ?_
  exact ⟨trivial, _, fs, .one (.tmp rfl), .refl _, h⟩
theorem namelen_l {K : KK} (h : K (.int .i64 1) fs) : Ev sW ftab 62 [.str x1, .int .i64 0] fs K := by
  have hsz : x1.size = 1 := rfl
  refine ev_fn (nt := 46) (kb := kb62) (kr := kr62) rfl rfl (Nat.le_of_ble_eq_true rfl) ?_
  refine cgg ?_
  refine g_do rfl (o_geq (xt rfl) (xt rfl) (fun h9 => by omega) (fun _ => ?_))
  refine cgo ?_
  refine g_do rfl (o_idx (b := 120) (xt rfl) (xt rfl) (by decide) rfl ?_)
  refine g_if rfl ?_
  refine g_do rfl (o_call (.cons (xt rfl) .nil) (letter_l ?_))
  refine cgo ?_
  refine w_block (w_loop (l_round ?_))
  refine cgo ?_
  refine g_do rfl (o_add (xt rfl) (xt rfl) (by constructor <;> decide) ?_)
  rw [show (0 : Int) + 1 = 1 from rfl]
  refine cgo ?_
  refine g_do rfl (o_lss (xt rfl) (xt rfl) (fun h9 => by omega) (fun _ => ?_))
  refine cgo ?_
  exact ⟨trivial, _, fs, .one (.tmp rfl), .refl _, h⟩
theorem res_x : ∀ s ∈ resL, s ≠ ⟨#[120]⟩ := by decide
theorem lexres_l {K : KK} (h : K (.bool false) fs) : Ev sW ftab 65 [.str x1] fs K := by
  refine ev_fn (nt := 6) (kb := kb65) (kr := kr65) rfl rfl (Nat.le_of_ble_eq_true rfl) ?_
  refine cgo ?_
  refine g_do rfl (o_row (cs := resL.map .str) (.cons xc (.cons xc (.cons xc (.cons xc (.cons xc (.cons xc (.cons xc (.cons xc (.cons xc (.cons xc (.cons xc (.cons xc (.cons xc (.cons xc (.cons xc (.cons xc .nil)))))))))))))))) rfl rfl fun f id => ?_)
  refine cgo ?_
  refine g_do rfl (o_call (.cons (xt rfl) (.cons (xt rfl) .nil)) (contains_ev (T := resL) (.row (s := ⟨f, id, 0, 1⟩) (.own .here) rfl) (by decide) (fun hm => absurd rfl (res_x _ hm)) (fun _ => ?_)))
  refine cgo ?_
  exact ⟨trivial, _, fs, .one (.tmp rfl), .cons _ (.refl _), h⟩
theorem reserved_l {j : Nat} {K : KK} (h : K (.str ⟨#[]⟩) fs) : Ev sW ftab 47 [.agg (uW j)] fs K := by
  refine ev_fn (nt := 14) (kb := kb47) (kr := kr47) rfl rfl (Nat.le_of_ble_eq_true rfl) ?_
  refine cgo ?_
  refine g_do rfl (o_box (xt rfl) rfl fun x1 => ?_)
  refine cgg ?_
  refine g_do rfl (o_call (.cons (xt rfl) .nil) (lexres_l ?_))
  refine cgg ?_
  exact ⟨trivial, _, fs, .one (.tmp rfl), .cons _ (.refl _), h⟩
theorem begins_l {j : Nat} {K : KK} (h : K (.bool true) fs) : Ev sW ftab 34 [.agg (uW j)] fs K := by
  refine ev_fn (nt := 25) (kb := kb34) (kr := kr34) rfl rfl (Nat.le_of_ble_eq_true rfl) ?_
  refine cgo ?_
  refine g_do rfl (o_box (xt rfl) rfl fun x1 => ?_)
  refine cgo ?_
  refine w_block ?_
  refine cgg ?_
  refine g_do rfl (o_call (.cons (xt rfl) .nil) (reserved_l ?_))
  refine cgo ?_
  refine w_block ?_
  refine cgg ?_
  exact ⟨trivial, _, fs, .one (.tmp rfl), .cons _ (.refl _), h⟩
theorem begins_e {kd a b : Int} {o : ByteArray} (hk : kd = 0 ∨ kd = 1 ∧ o ≠ ⟨#[40]⟩) {K : KK} (h : K (.bool false) fs) : Ev sW ftab 34 [.agg (tkn kd a b o ⟨#[]⟩)] fs K := by
  refine ev_fn (nt := 25) (kb := kb34) (kr := kr34) rfl rfl (Nat.le_of_ble_eq_true rfl) ?_
  refine cgo ?_
  refine g_do rfl (o_box (xt rfl) rfl fun x1 => ?_)
  refine cgo ?_
  refine w_block ?_
  rcases hk with rfl | ⟨rfl, ho⟩
  · refine cgg ?_
    exact ⟨trivial, _, fs, .one (.tmp rfl), .cons _ (.refl _), h⟩
  · refine cgg ?_
    refine g_do rfl (o_eqs (xt rfl) xc (fun h9 => absurd h9 ho) (fun _ => ?_))
    refine cgo ?_
    exact ⟨trivial, _, fs, .one (.tmp rfl), .cons _ (.refl _), h⟩
theorem assign_l {j f id : Nat} (hrow : Has fs (.row f id (1 * 9))) {K : KK} (h : K (.tup [.agg [.int .i64 0, .str ⟨#[]⟩, .nilrow], .bool false]) fs) : Ev sW ftab 96 [.agg [.int .i64 (j : Int), lR j f id]] fs K := by
  have hsz : x1.size = 1 := rfl
  refine ev_fn (nt := 75) (kb := kb96) (kr := kr96) rfl rfl (Nat.le_of_ble_eq_true rfl) ?_
  refine cgo ?_
  refine g_do rfl (o_box (xt rfl) rfl fun x1 => ?_)
  refine g_do rfl (o_box xc rfl fun x2 => ?_)
  refine cgg ?_
  refine g_do rfl (o_iaddr (xt rfl) xc ⟨by decide, by decide⟩ rfl ?_)
  refine g_if rfl (g_do rfl (o_faddrz (xt rfl) ?_))
  refine g_if rfl (g_do rfl (o_loadr (v := .int .i64 1) (xt rfl) (.own (.there (.there hrow))) rfl ?_))
  refine cgg ?_
  refine g_do rfl (o_iaddr (xt rfl) xc ⟨by decide, by decide⟩ rfl ?_)
  refine g_if rfl (g_do rfl (o_faddrz (xt rfl) ?_))
  refine g_if rfl (g_do rfl (o_loadr (v := .bool false) (xt rfl) (.own (.there (.there hrow))) rfl ?_))
  refine cgo ?_
  refine g_do rfl (o_iaddr (xt rfl) xc ⟨by decide, by decide⟩ rfl ?_)
  refine g_do rfl (o_loadr (v := .agg (lC j)) (xt rfl) (.own (.there (.there hrow))) rfl ?_)
  refine g_do rfl (o_box xc rfl fun x4 => ?_)
  refine cgo ?_
  refine g_do rfl (o_call (.cons (xt rfl) (.cons xc .nil)) (namelen_l ?_))
  refine cgg ?_
  refine g_do rfl (o_cutl (xt rfl) (xt rfl) ⟨by decide, by decide⟩ ?_)
  refine g_if rfl ?_
  refine g_do rfl (o_call (.cons (xt rfl) (.cons xc .nil)) (hp_x (k := 0) (b := 61) rfl (by decide) ?_))
  refine cgo ?_
  exact ⟨trivial, _, fs, .tup (.cons (.cell rfl (.there .here) rfl) (.cons (.tmp rfl) .nil)), .cons _ (.cons _ (.cons _ (.refl _))), h⟩
theorem plain97_l {j f id : Nat} (hrow : Has fs (.row f id (1 * 9))) {K : KK} (h : K (.tup [.str x1, .bool true]) fs) : Ev sW ftab 97 [.agg [.int .i64 (j : Int), lR j f id]] fs K := by
  refine ev_fn (nt := 28) (kb := kb97) (kr := kr97) rfl rfl (Nat.le_of_ble_eq_true rfl) ?_
  refine cgo ?_
  refine g_do rfl (o_box (xt rfl) rfl fun x1 => ?_)
  refine cgg ?_
  refine g_do rfl (o_iaddr (xt rfl) xc ⟨by decide, by decide⟩ rfl ?_)
  refine g_if rfl (g_do rfl (o_faddrz (xt rfl) ?_))
  refine g_if rfl (g_do rfl (o_loadr (v := .int .i64 1) (xt rfl) (.own (.there hrow)) rfl ?_))
  refine cgg ?_
  refine g_do rfl (o_iaddr (xt rfl) xc ⟨by decide, by decide⟩ rfl ?_)
  refine g_if rfl (g_do rfl (o_faddrz (xt rfl) ?_))
  refine g_if rfl (g_do rfl (o_loadr (v := .bool false) (xt rfl) (.own (.there hrow)) rfl ?_))
  refine cgo ?_
  refine g_do rfl (o_iaddr (xt rfl) xc ⟨by decide, by decide⟩ rfl ?_)
  refine g_do rfl (o_faddrz (xt rfl) ?_)
  refine g_do rfl (o_loadr (v := .str (mkT [120])) (xt rfl) (.own (.there hrow)) rfl ?_)
  refine cgo ?_
  exact ⟨trivial, _, fs, .tup (.cons (.tmp rfl) (.cons (.tmp rfl) .nil)), .cons _ (.refl _), h⟩
theorem name98_l {K : KK} (h : K (.bool true) fs) : Ev sW ftab 98 [.str x1] fs K := by
  refine ev_fn (nt := 12) (kb := kb98) (kr := kr98) rfl rfl (Nat.le_of_ble_eq_true rfl) ?_
  refine cgg ?_
  refine g_do rfl (o_call (.cons (xt rfl) (.cons xc .nil)) (namelen_l ?_))
  refine cgo ?_
  refine g_do rfl (o_eqi (xt rfl) (xt rfl) (fun _ => ?_) (fun h9 => absurd rfl h9))
  refine cgo ?_
  exact ⟨trivial, _, fs, .one (.tmp rfl), .refl _, h⟩
def tl : List Nat → List UInt8
  | [] => []
  | k :: ks => 32 :: (bl (opK k) ++ 32 :: 120 :: tl ks)
theorem tl_ends (ks : List Nat) : tl ks = [] ∨ ∃ t', tl ks = 32 :: t' := by
  cases ks with
  | nil => exact Or.inl rfl
  | cons k ks => exact Or.inr ⟨_, rfl⟩
def kN : List Nat → Int
  | [] => 0
  | _ :: _ => 1
def oN : List Nat → ByteArray
  | [] => ⟨#[]⟩
  | k :: _ => opK k
def aN (j : Nat) : List Nat → Nat
  | [] => j + 1
  | _ :: _ => j + 2
abbrev bN (j : Nat) (ks : List Nat) : Nat := aN j ks + (oN ks).size
abbrev tN (j : Nat) (ks : List Nat) : List AV := tkn (kN ks) (aN j ks : Int) (bN j ks : Int) (oN ks) ⟨#[]⟩
theorem kN_is (ks : List Nat) : kN ks = 0 ∨ kN ks = 1 := by
  cases ks with
  | nil => exact Or.inl rfl
  | cons k ks => exact Or.inr rfl
theorem opK_pos (k : Nat) : 1 ≤ (opK k).size ∧ (opK k).size ≤ 2 := by
  rcases opK_is k with h | h | h | h <;> rw [h] <;> decide
theorem opK_head (k : Nat) : ∃ c r, bl (opK k) = c :: r ∧ c ≠ 32 ∧ c ≠ 9 ∧ c ≠ 92 ∧ c ≠ 35 := by
  rcases opK_is k with h | h | h | h <;> rw [h] <;> exact ⟨_, _, rfl, by decide⟩
theorem opN_ne (ks : List Nat) (o : ByteArray) (h1 : ⟨#[59]⟩ ≠ o) (h2 : ⟨#[38, 38]⟩ ≠ o) (h3 : ⟨#[124, 124]⟩ ≠ o) (h4 : ⟨#[124]⟩ ≠ o) : kN ks ≠ 1 ∨ oN ks ≠ o := by
  cases ks with
  | nil => exact Or.inl (by decide)
  | cons k ks =>
    right
    show opK k ≠ o
    rcases opK_is k with h | h | h | h <;> rw [h] <;> assumption
theorem reads_n {s : ByteArray} {j : Nat} {ks : List Nat} (hat : Plc s j (120 :: tl ks)) : Reads s (j + 1) (aN j ks) false (tN j ks) := by
  cases ks with
  | nil => exact reads_e (i := j + 1) hat.next
  | cons k ks =>
    obtain ⟨c, r, h1, h2⟩ := opK_head k
    have h3 : Plc s (j + 1) (32 :: (bl (opK k) ++ 32 :: 120 :: tl ks)) := hat.next
    have h4 := h3
    rw [h1] at h4
    have h5 : SkipTo s (j + 1) (j + 2) := skip_one (j := j + 1) h4 h2
    have h6 : Reads s (j + 1) (j + 2) false (uO (j + 2) (opK k)) := reads_o h5 h3.next
    exact @h6
/-- The next command's place. -/
theorem nextw {s : ByteArray} {j k : Nat} {ks : List Nat} (hat : Plc s j (120 :: tl (k :: ks))) : Plc s (bN j (k :: ks) + 1) (120 :: tl ks) ∧ Reads s (bN j (k :: ks)) (bN j (k :: ks) + 1) true (uW (bN j (k :: ks) + 1)) := by
  have h3 : Plc s (j + 2) (bl (opK k) ++ 32 :: 120 :: tl ks) := hat.next.next
  have h4 := h3.skip
  rw [← sz_bl] at h4
  have h5 : Plc s (bN j (k :: ks) + 1) (120 :: tl ks) := h4.next
  exact ⟨h5, reads_w (skip_one h4 (by decide)) h5 (tl_ends ks)⟩
abbrev cmdA (k a : Int) (ws ss : AV) : List AV := [.int .i64 k, .int .i64 a, .bool false, .bool false, .str ⟨#[]⟩, ws, .nilrow, .nilrow, ss, .nilrow]
theorem simple_l {s : ByteArray} {p j k : Nat} {st : Bool} {ks : List Nat} (hat : Plc s j (120 :: tl ks)) (hk : Has fs (.blk k (.cells (uW j)))) {K : KK} (h : ∀ k2 cs s', K (.agg (cmdA 1 j (.row cs 1 s') .nilrow)) (.blk k2 (.cells (tN j ks)) :: .blk p (.cells (qB s (aN j ks) 1 (.ptr k2 0) false)) :: fs)) : Ev sW ftab 88 [.ptr p 0, .agg (uW j)] (.blk p (.cells (qB s j 1 (.ptr k 0) st)) :: fs) K := by
  have h01 := kN_is ks
  refine ev_fn (nt := 113) (kb := kb88) (kr := kr88) rfl rfl (Nat.le_of_ble_eq_true rfl) ?_
  refine cgo ?_
  refine g_do rfl (o_box (xt rfl) rfl fun x3 => ?_)
  refine g_do rfl (o_box xc rfl fun x4 => ?_)
  refine cgo ?_
  refine g_do rfl (o_build (.cons xc (.cons (xt rfl) .nil)) rfl ?_)
  refine g_do rfl (o_box xc rfl fun x5 => ?_)
  refine cgo ?_
  refine w_block (w_loop (l_round ?_))
  refine cgg ?_
  refine w_block ?_
  refine cgo ?_
  refine g_do rfl (o_call (.cons (xt rfl) .nil) (peekL (.there (.there (.there .here))) (.there (.there (.there (.there hk)))) ?_))
  refine g_do rfl (o_box xc rfl fun x6 => ?_)
  refine cgg ?_
  refine w_block ?_
  refine cgg ?_
  refine g_sub (e' := [(43, .ptr p 0), (0, .ptr p 0), (4, .ptr x4 0), (5, .ptr x5 0), (6, .ptr x6 0)]) (fs' := .blk p (.cells (qB s j 1 (.ptr k 0) st)) :: .blk x6 (.cells (uW j)) :: .blk x5 (.cells (cmdA 1 j .nilrow .nilrow)) :: .blk x4 (.cells (cmdA 0 0 .nilrow .nilrow)) :: .blk x3 (.cells (uW j)) :: fs) (.cons rfl (.cons rfl (.cons rfl (.cons rfl (.cons rfl .nil))))) (fun _ hh => hh.perm (List.perm_middle (l₁ := [_, _, _, _]))) ?_
  refine g_do rfl (o_call (.cons (xt rfl) .nil) (next_l hat (tl_ends ks) (.there (.there (.there (.there hk)))) fun f id => ?_))
  refine g_do rfl (o_box xc rfl fun x7 => ?_)
  refine cgo ?_
  refine g_do rfl (o_call (.cons (xt rfl) .nil) (assign_l (.there .here) ?_))
  refine cgo ?_
  refine g_do rfl (o_box xc rfl fun x8 => ?_)
  refine cgo ?_
  refine g_do rfl (o_row (cs := [.int .i64 (j : Int), lR j f id]) (.cons (xt rfl) .nil) rfl rfl fun f1 id1 => ?_)
  refine g_do rfl (o_appn (xt rfl) (.own (xt rfl) .here rfl) rfl (by decide) ⟨by decide, by decide⟩ fun f2 id2 => ?_)
  refine cgo ?_
  refine g_do0 (o_store (xt rfl) (xt rfl) (.there (.there (.there (.there (.there (.there (.there .here))))))) ⟨rfl, (Nat.le_of_ble_eq_true rfl)⟩ rfl rfl ?_)
  refine g_end ?_
  refine w_sub (e' := [(0, .ptr p 0), (4, .ptr x4 0), (5, .ptr x5 0), (6, .ptr x6 0), (7, .ptr x7 0), (9, .bool false)]) (fs' := .blk p (.cells (qB s ((j + 1 : Nat) : Int) 1 .nilptr false)) :: .blk x7 (.cells [.int .i64 (j : Int), lR j f id]) :: .row f id (1 * 9) :: .blk x5 (.cells (cmdA 1 j (.row [.int .i64 (j : Int), lR j f id] 1 ⟨f2, id2, 0, 2⟩) .nilrow)) :: .blk x4 (.cells (cmdA 0 0 .nilrow .nilrow)) :: fs) (.cons rfl (.cons rfl (.cons rfl (.cons rfl (.cons rfl (.cons rfl .nil)))))) (fun _ hh => (hh.mono (.cons _ (.cons _ (.cons _ (.cons_cons _ (.cons_cons _ (.cons_cons _ (.cons _ (.cons_cons _ (.cons_cons _ (.cons _ (.refl _)))))))))))).perm (List.perm_middle (l₁ := [_, _]))) ?_
  refine cgg ?_
  refine g_do rfl (o_call (.cons (xt rfl) .nil) (plain97_l (.there (.there .here)) ?_))
  refine cgo ?_
  refine g_do rfl (o_call (.cons (xt rfl) .nil) (name98_l ?_))
  refine cgo ?_
  refine g_do rfl (o_call (.cons (xt rfl) .nil) (lexres_l ?_))
  refine cgo ?_
  refine g_do rfl (o_call (.cons (xt rfl) (.cons xc .nil)) (opNoR (opN_ne ks ⟨#[40]⟩ (by decide) (by decide) (by decide) (by decide)) (reads_n hat) fun k2 => ?_))
  refine cgo ?_
  refine l_round ?_
  refine cgg ?_
  refine w_block ?_
  refine cgo ?_
  refine g_do rfl (o_call (.cons (xt rfl) .nil) (peekL (.there .here) .here ?_))
  refine g_do rfl (o_box xc rfl fun x9 => ?_)
  refine cgg ?_
  refine w_block ?_
  refine cgg ?_
  refine g_do rfl (o_eqi (xt rfl) xc (fun h9 => by omega) (fun _ => ?_))
  refine cgo ?_
  refine g_do rfl (o_eqi (xt rfl) xc (fun h9 => by omega) (fun _ => ?_))
  refine cgg ?_
  exact ⟨trivial, _, .blk k2 (.cells (tN j ks)) :: .blk p (.cells (qB s (aN j ks) 1 (.ptr k2 0) false)) :: fs, .one (.cell rfl (.there (.there (.there (.there (.there (.there .here)))))) rfl), .cons _ (.cons_cons _ (.cons_cons _ (.cons _ (.cons _ (.cons _ (.cons _ (.refl _))))))), h k2 _ _⟩
theorem one_l {s : ByteArray} {p j k : Nat} {st : Bool} {ks : List Nat} (hat : Plc s j (120 :: tl ks)) (hk : Has fs (.blk k (.cells (uW j)))) {K : KK} (h : ∀ k2 cs s', K (.agg (cmdA 1 j (.row cs 1 s') .nilrow)) (.blk k2 (.cells (tN j ks)) :: .blk p (.cells (qB s (aN j ks) 0 (.ptr k2 0) false)) :: fs)) : Ev sW ftab 77 [.ptr p 0] (.blk p (.cells (qB s j 0 (.ptr k 0) st)) :: fs) K := by
  refine ev_fnd (nt := 51) (kb := kb77) (kr := kr77) rfl rfl (Nat.le_of_ble_eq_true rfl) ?_
  repeat (first | refine d_rs ?_ | refine d_assoc ?_)
  refine g_do rfl (o_box (xt rfl) rfl fun b1 => ?_)
  refine g_do rfl (o_box xc rfl fun b2 => ?_)
  refine rgo ?_
  repeat (first | refine d_rs ?_ | refine d_assoc ?_)
  refine rgo ?_
  refine g_do rfl (o_call (.cons (xt rfl) .nil) (peekL (.there (.there .here)) (.there (.there (.there hk))) ?_))
  refine g_do rfl (o_box xc rfl fun b3 => ?_)
  refine rgo ?_
  repeat (first | refine d_rs ?_ | refine d_assoc ?_)
  refine rgo ?_
  refine g_do rfl (o_call (.cons (xt rfl) .nil) (reserved_l ?_))
  refine rgo ?_
  repeat (first | refine d_rs ?_ | refine d_assoc ?_)
  refine cgg ?_
  refine g_do rfl (o_call (.cons (xt rfl) .nil) (begins_l ?_))
  refine cgg ?_
  repeat (first | refine d_rs ?_ | refine d_assoc ?_)
  refine d_seq (w_cond (xt rfl) (w_skip ⟨rfl, ?_⟩))
  repeat (first | refine d_rs ?_ | refine d_assoc ?_)
  refine rgo ?_
  refine g_do rfl (o_call (.cons (xt rfl) (.cons (xt rfl) .nil)) (enter_l (.there (.there (.there .here))) ?_))
  refine rgo ?_
  repeat (first | refine d_rs ?_ | refine d_assoc ?_)
  refine d_seq (w_cond (xt rfl) (w_skip ⟨rfl, ?_⟩))
  repeat (first | refine d_rs ?_ | refine d_assoc ?_)
  refine d_def (g := 86) (cs := [.ptr b1 0]) (vs := []) ?_
  refine g_do rfl (o_fn (.cons (xt rfl) .nil) ?_)
  refine g_end ⟨xt rfl, .nil, ?_⟩
  refine cgg ?_
  refine g_do rfl (o_call (.cons (xt rfl) (.cons (xt rfl) .nil)) (Ev.perm (List.perm_middle (l₁ := [_, _, _])) (simple_l hat (.there (.there (.there hk))) fun k2 cs s' => ?_)))
  refine cgo ?_
  refine ⟨trivial, 8, kb86, kr86, rfl, rfl, (Nat.le_of_ble_eq_true rfl), ?_⟩
  refine cgo ?_
  refine g_do rfl (o_sub (xt rfl) xc (by constructor <;> decide) ?_)
  refine cgo ?_
  exact ⟨trivial, ⟨_, .one .none⟩, _, .blk k2 (.cells (tN j ks)) :: .blk p (.cells (qB s (aN j ks) 0 (.ptr k2 0) false)) :: fs, .one (.cell rfl (.there (.there (.there .here))) rfl), .cons_cons _ (.cons_cons _ (.cons _ (.cons _ (.cons _ (.refl _))))), h k2 cs s'⟩
theorem wo_weak {S : Sum} {F : FuncId → Option AF} {o : KO} {e : Env} {K K' : KK} (h : WO S F o e fs K') (hq : ∀ v f, K' v f → ∃ g, (∀ h, RH h f → RH h g) ∧ K v g) : WO S F o e fs K := fun L ts h0 h1 h2 => by
  obtain ⟨v, h', fs', r1, r2, r3⟩ := h L ts h0 h1 h2
  obtain ⟨g, q1, q2⟩ := hq _ _ r2
  exact ⟨v, h', g, q1 _ r1, q2, r3⟩
theorem ev_weak {S : Sum} {F : FuncId → Option AF} {f : FuncId} {a : List AV} {K K' : KK} (h : Ev S F f a fs K') (hq : ∀ v f, K' v f → ∃ g, (∀ h, RH h f → RH h g) ∧ K v g) : Ev S F f a fs K := fun h0 h2 => by
  obtain ⟨v, h', fs', r1, r2, r3⟩ := h h0 h2
  obtain ⟨g, q1, q2⟩ := hq _ _ r2
  exact ⟨v, h', g, q1 _ r1, q2, r3⟩
theorem put_app {hd fs0 : List Fact} {x y : Fact} : Put (hd ++ x :: fs0) x y (hd ++ y :: fs0) := by
  induction hd with
  | nil => exact .here
  | cons z hd ih => exact .there ih
theorem Has.app {F G : List Fact} {x : Fact} (h : Has G x) : Has (F ++ G) x := by
  induction F with
  | nil => exact h
  | cons z F ih => exact .there ih
/-- A row that grows, or none yet. -/
inductive Rw (size : Nat) : AV → List AV → Nat → List Fact → Prop
  | nil : Rw size .nilrow [] 0 []
  | own {cs : List AV} {n f id : Nat} : 0 < n → Rw size (.row cs n ⟨f, id, 0, size⟩) cs n [.row f id (n * size)]
theorem Rw.scalar {size n : Nat} {v : AV} {ds : List AV} {F : List Fact} (h : Rw size v ds n F) : EvA.scalar v = true := by cases h <;> rfl
theorem o_apx {S : Sum} {Fn : FuncId → Option AF} {size bytes : Nat} {e : Env} {a x : AX} {v : AV} {ds cs : List AV} {len n : Nat} {F hd fs0 : List Fact} {K : KK} (hv : Rw size v ds len F) (ha : XV e a v) (hx : XR e (hd ++ (F ++ fs0)) x size cs n) (hs : cs.all scalar = true) (hn : n ≠ 0) (hb : (len + n) * bytes ≤ 70368744177664 ∧ len + n ≤ 70368744177664) (h : ∀ f id, K (.row (ds ++ cs) (len + n) ⟨f, id, 0, size⟩) (hd ++ (.row f id ((len + n) * size) :: fs0))) : WO S Fn (oAppend size bytes a x) e (hd ++ (F ++ fs0)) K := by
  cases hv with
  | nil =>
    rw [Nat.zero_add] at hb
    refine wo_weak (o_appn (K := fun v f => ∃ f0 id, v = .row cs n ⟨f0, id, 0, size⟩ ∧ f = .row f0 id (n * size) :: (hd ++ ([] ++ fs0))) ha hx hs hn hb fun f id => ⟨f, id, rfl, rfl⟩) ?_
    rintro v f ⟨f0, id, rfl, rfl⟩
    have := h f0 id
    rw [Nat.zero_add] at this
    exact ⟨_, fun _ hh => hh.perm List.perm_middle.symm, this⟩
  | @own _ _ f id _ =>
    refine o_appo (r := ⟨f, id, 0, size⟩) (m := len * size) (fs' := fun id' => hd ++ .row f id' (0 + len * size + n * size) :: fs0) ha hx hs hn hb rfl (fun id' => put_app) fun id' => ?_
    have := h f id'
    rw [show 0 + len * size + n * size = (len + n) * size by rw [Nat.add_mul]; omega]
    exact this
/-! Counting. -/
def nS : List Nat → Nat
  | [] => 0
  | 0 :: ks => nS ks + 1
  | _ :: ks => nS ks
def nO : List Nat → Nat
  | [] => 0
  | 1 :: ks => nO ks + 1
  | 2 :: ks => nO ks + 1
  | _ :: ks => nO ks
def nP : List Nat → Nat
  | [] => 0
  | 0 :: ks => nP ks
  | 1 :: ks => nP ks
  | 2 :: ks => nP ks
  | _ :: ks => nP ks + 1
structure Eat (ks ks2 : List Nat) (n o q : Nat) : Prop where
  s : nS ks = n + nS ks2
  o : nO ks = o + nO ks2
  p : nP ks = q + nP ks2
  len : ks2.length ≤ ks.length
theorem Eat.refl (ks : List Nat) : Eat ks ks 0 0 0 := ⟨by omega, by omega, by omega, Nat.le_refl _⟩
theorem Eat.trans {a b c : List Nat} {n o q n' o' q' : Nat} (h : Eat a b n o q) (h' : Eat b c n' o' q') : Eat a c (n + n') (o + o') (q + q') :=
  ⟨by rw [h.s, h'.s]; omega, by rw [h.o, h'.o]; omega, by rw [h.p, h'.p]; omega, Nat.le_trans h'.len h.len⟩
theorem Eat.three (k : Nat) (ks : List Nat) : Eat ((k + 3) :: ks) ks 0 0 1 := ⟨by show nS ks = _; omega, by show nO ks = _; omega, by show nP ks + 1 = _; omega, by simp⟩
theorem Eat.one (ks : List Nat) : Eat (1 :: ks) ks 0 1 0 := ⟨by show nS ks = _; omega, by show nO ks + 1 = _; omega, by show nP ks = _; omega, by simp⟩
theorem Eat.two (ks : List Nat) : Eat (2 :: ks) ks 0 1 0 := ⟨by show nS ks = _; omega, by show nO ks + 1 = _; omega, by show nP ks = _; omega, by simp⟩
theorem Eat.zero (ks : List Nat) : Eat (0 :: ks) ks 1 0 0 := ⟨by show nS ks + 1 = _; omega, by show nO ks = _; omega, by show nP ks = _; omega, by simp⟩
def NoP (ks : List Nat) : Prop := ∀ n l, ks ≠ (n + 3) :: l
theorem noP_or (ks : List Nat) : (NoP ks ∧ (kN ks ≠ 1 ∨ oN ks ≠ ⟨#[124]⟩)) ∨ ∃ n l, ks = (n + 3) :: l := by
  match ks with
  | [] => exact Or.inl ⟨(fun n l h => by cases h), Or.inl (by decide)⟩
  | 0 :: l => exact Or.inl ⟨(fun n l h => by injection h with h1; omega), Or.inr (by show (⟨#[59]⟩ : ByteArray) ≠ _; decide)⟩
  | 1 :: l => exact Or.inl ⟨(fun n l h => by injection h with h1; omega), Or.inr (by show (⟨#[38, 38]⟩ : ByteArray) ≠ _; decide)⟩
  | 2 :: l => exact Or.inl ⟨(fun n l h => by injection h with h1; omega), Or.inr (by show (⟨#[124, 124]⟩ : ByteArray) ≠ _; decide)⟩
  | (n + 3) :: l => exact Or.inr ⟨n, l, rfl⟩
/-! A pipeline. -/
def PipeV (v : List AV) (q : Nat) : Prop := ∃ kk a ws ss, v = cmdA kk a ws ss ∧ scalar ws = true ∧ scalar ss = true ∧ ((kk = 1 ∧ q = 0) ∨ (kk = 2 ∧ ∃ cs sr, ss = .row cs (q + 1) sr))
theorem pipe_loop {s : ByteArray} {p x2 x4 : Nat} {a : Int} {KS : List Nat} {Q : AO → Env → List Fact → Prop}
    (hQ : ∀ e ks2 j2 k2 cs n f id, Plc s j2 (120 :: tl ks2) → NoP ks2 → Eat KS ks2 0 0 n → (n = 0 → ∃ b ws, scalar ws = true ∧ cs = cmdA 1 b ws .nilrow) → Sub e [(0, .ptr p 0), (2, .ptr x2 0), (4, .ptr x4 0)] → Q (.exit 0) e (.blk k2 (.cells (tN j2 ks2)) :: .blk p (.cells (qB s (aN j2 ks2) 0 (.ptr k2 0) false)) :: .blk x4 (.cells (cmdA 2 a .nilrow (.row cs (n + 1) ⟨f, id, 0, 10⟩))) :: .blk x2 (.cells (cmdA 0 0 .nilrow .nilrow)) :: .row f id ((n + 1) * 10) :: fs)) :
    ∀ (N : Nat) (ks : List Nat) (j k m : Nat) (st : Bool) (sv : AV) (ds : List AV) (F G : List Fact), ks.length < N → m + ks.length ≤ 1000 → Eat KS ks 0 0 m → Rw 10 sv ds m F → Plc s j (120 :: tl ks) → Has G (.blk k (.cells (uW j))) → fs.Sublist G →
    WL sW ftab lb66_0 59 [(0, .ptr p 0), (2, .ptr x2 0), (4, .ptr x4 0)] (.blk p (.cells (qB s j 0 (.ptr k 0) st)) :: .blk x4 (.cells (cmdA 2 a .nilrow sv)) :: .blk x2 (.cells (cmdA 0 0 .nilrow .nilrow)) :: (F ++ G)) Q
  | 0, ks, j, k, m, st, sv, ds, F, G, hN, hm, he, hv, hat, hk, hG => absurd hN (Nat.not_lt_zero _)
  | N + 1, ks, j, k, m, st, sv, ds, F, G, hN, hm, he, hv, hat, hk, hG => by
    refine l_round ?_
    refine w_block ?_
    refine w_rs (g_fl ?_)
    refine hgo ?_
    refine h_do rfl (o_call (.cons (xt rfl) .nil) (one_l hat (.there (.there hk.app)) fun k2 cs s' => ?_))
    refine h_do rfl (o_row (cs := cmdA 1 j (.row cs 1 s') .nilrow) (.cons (xt rfl) .nil) rfl rfl fun f1 id1 => ?_)
    refine h_do rfl (o_apx (hd := [_, _, _, _, _]) hv (xt rfl) (.own (xt rfl) .here rfl) rfl (by decide) ⟨by omega, by omega⟩ fun f2 id2 => ?_)
    simp only [List.cons_append, List.nil_append]
    refine hgo ?_
    refine h_do0 (o_store (xt rfl) (xt rfl) (.there (.there (.there .here))) ⟨rfl, (Nat.le_of_ble_eq_true rfl)⟩ rfl rfl ?_)
    refine h_end ?_
    refine ⟨.cons rfl (.cons rfl (o_load (xt rfl) (.there (.there .here)) rfl rfl) (.cons rfl (o_load (xt rfl) (.there (.there (.there .here))) rfl rfl) .nil)) .nil, _, rfl, ?_⟩
    refine w_sub (e' := [(0, .ptr p 0), (2, .ptr x2 0), (4, .ptr x4 0)]) (fs' := .blk k2 (.cells (tN j ks)) :: .blk p (.cells (qB s (aN j ks) 0 (.ptr k2 0) false)) :: .blk x4 (.cells (cmdA 2 a .nilrow (.row (ds ++ cmdA 1 j (.row cs 1 s') .nilrow) (m + 1) ⟨f2, id2, 0, 10⟩))) :: .blk x2 (.cells (cmdA 0 0 .nilrow .nilrow)) :: .row f2 id2 ((m + 1) * 10) :: fs) (.cons rfl (.cons rfl (.cons rfl .nil))) (fun _ hh => hh.mono (.cons _ (.cons_cons _ (.cons_cons _ (.cons_cons _ (.cons_cons _ (.cons_cons _ hG))))))) ?_
    refine cgg ?_
    rcases noP_or ks with ⟨h1, h2⟩ | ⟨n, l, rfl⟩
    · refine g_do rfl (o_call (.cons (xt rfl) (.cons xc .nil)) (opNo h2 (.there .here) .here ?_))
      refine cgg ?_
      refine hQ _ ks j k2 _ m f2 id2 hat h1 he (fun h0 => ?_) (.cons rfl (.cons rfl (.cons rfl .nil)))
      subst h0
      cases hv with
      | nil => exact ⟨j, _, rfl, rfl⟩
      | own h0 => exact absurd h0 (Nat.lt_irrefl _)
    · refine g_do rfl (o_call (.cons (xt rfl) (.cons xc .nil)) (Ev.perm (.swap ..) (opYes .here ?_)))
      refine cgg ?_
      refine g_do rfl (o_call (.cons (xt rfl) .nil) (startR (Or.inl (by decide)) (nextw hat).2 fun k3 => ?_))
      refine cgo ?_
      refine l_sub (e' := [(0, .ptr p 0), (2, .ptr x2 0), (4, .ptr x4 0)]) (fs' := .blk p (.cells (qB s (bN j ((n + 3) :: l) + 1 : Nat) 0 (.ptr k3 0) true)) :: .blk x4 (.cells (cmdA 2 a .nilrow (.row (ds ++ cmdA 1 j (.row cs 1 s') .nilrow) (m + 1) ⟨f2, id2, 0, 10⟩))) :: .blk x2 (.cells (cmdA 0 0 .nilrow .nilrow)) :: ([.row f2 id2 ((m + 1) * 10)] ++ (.blk k3 (.cells (uW (bN j ((n + 3) :: l) + 1))) :: fs))) (.cons rfl (.cons rfl (.cons rfl .nil))) (fun _ hh => (hh.mono (.cons_cons _ (.cons_cons _ (.cons _ (.refl _))))).perm (List.perm_middle (l₁ := [_, _, _, _])).symm) ?_
      simp only [List.length_cons] at hN hm
      exact pipe_loop hQ N l _ k3 (m + 1) true _ _ _ _ (by omega) (by omega) (he.trans (Eat.three n l)) (.own (by omega)) (nextw hat).1 .here (.cons _ (.refl _))
theorem cmd_scalar {k a : Int} {ws ss : AV} (hw : scalar ws = true) (hs : scalar ss = true) : (cmdA k a ws ss).all scalar = true := by
  unfold cmdA
  simp only [List.all_cons, List.all_nil, hw, hs]
  rfl
theorem pipe_l {s : ByteArray} {p j k : Nat} {st : Bool} {ks : List Nat} (hat : Plc s j (120 :: tl ks)) (hk : Has fs (.blk k (.cells (uW j)))) (hlen : ks.length ≤ 900) {K : KK} (h : ∀ k2 j2 ks2 v q, PipeV v q → Plc s j2 (120 :: tl ks2) → NoP ks2 → Eat ks ks2 0 0 q → K (.agg v) (.blk k2 (.cells (tN j2 ks2)) :: .blk p (.cells (qB s (aN j2 ks2) 0 (.ptr k2 0) false)) :: fs)) : Ev sW ftab 66 [.ptr p 0] (.blk p (.cells (qB s j 0 (.ptr k 0) st)) :: fs) K := by
  refine ev_fn (nt := 59) (kb := kb66) (kr := kr66) rfl rfl (Nat.le_of_ble_eq_true rfl) ?_
  refine cgo ?_
  refine g_do rfl (o_box xc rfl fun x2 => ?_)
  refine cgo ?_
  refine g_do rfl (o_call (.cons (xt rfl) .nil) (peekL (.there .here) (.there (.there hk)) ?_))
  refine g_do rfl (o_box xc rfl fun x3 => ?_)
  refine cgo ?_
  refine g_do rfl (o_build (.cons xc (.cons (xt rfl) .nil)) rfl ?_)
  refine g_do rfl (o_box xc rfl fun x4 => ?_)
  refine cgg ?_
  refine g_do rfl (o_call (.cons (xt rfl) .nil) (reserved_l ?_))
  refine cgg ?_
  refine w_block (w_loop ?_)
  refine l_sub (e' := [(0, .ptr p 0), (2, .ptr x2 0), (4, .ptr x4 0)]) (fs' := .blk p (.cells (qB s j 0 (.ptr k 0) st)) :: .blk x4 (.cells (cmdA 2 j .nilrow .nilrow)) :: .blk x2 (.cells (cmdA 0 0 .nilrow .nilrow)) :: ([] ++ fs)) (.cons rfl (.cons rfl (.cons rfl .nil))) (fun h0 hh => ?_) ?_
  · have hh2 : RH h0 (.blk x4 (.cells (cmdA 2 j .nilrow .nilrow)) :: .blk x2 (.cells (cmdA 0 0 .nilrow .nilrow)) :: .blk p (.cells (qB s j 0 (.ptr k 0) st)) :: fs) := hh.mono (.cons_cons _ (.cons _ (.refl _)))
    exact hh2.perm (List.perm_middle (l₁ := [_, _]))
  refine pipe_loop (fs := fs) (KS := ks) (fun e ks2 j2 k2 cs n f id h1 h2 h3 h4 hS => ?_) (ks.length + 1) ks j k 0 st .nilrow [] [] fs (by omega) (by omega) (Eat.refl _) .nil hat hk (.refl _)
  refine w_sub hS (fun _ h => h) ?_
  refine cgg ?_
  refine g_do rfl (o_eqi (xt rfl) xc (fun hn => ?_) (fun hn => ?_))
  · obtain rfl : n = 0 := by omega
    obtain ⟨b, ws, hw, rfl⟩ := h4 rfl
    refine cgg ?_
    refine g_do rfl (o_iaddr (xt rfl) xc ⟨by decide, by decide⟩ rfl ?_)
    refine g_do rfl (o_loadr (v := .agg (cmdA 1 b ws .nilrow)) (xt rfl) (.own (.there (.there (.there (.there .here))))) rfl ?_)
    refine g_do0 (o_store (cs' := cmdA 1 b ws .nilrow) (xt rfl) (xt rfl) (.there (.there (.there .here))) ⟨rfl, (Nat.le_of_ble_eq_true rfl)⟩ ?_ rfl ?_)
    · exact cmd_scalar hw rfl
    refine cgo ?_
    exact ⟨trivial, _, .blk k2 (.cells (tN j2 ks2)) :: .blk p (.cells (qB s (aN j2 ks2) 0 (.ptr k2 0) false)) :: fs, .one (.cell rfl (.there (.there (.there .here))) rfl), .cons_cons _ (.cons_cons _ (.cons _ (.cons _ (.cons _ (.refl _))))), h k2 j2 ks2 _ 0 ⟨1, b, ws, _, rfl, hw, rfl, Or.inl ⟨rfl, rfl⟩⟩ h1 h2 h3⟩
  · refine cgg ?_
    exact ⟨trivial, _, .blk k2 (.cells (tN j2 ks2)) :: .blk p (.cells (qB s (aN j2 ks2) 0 (.ptr k2 0) false)) :: fs, .one (.cell rfl (.there (.there (.there .here))) rfl), .cons_cons _ (.cons_cons _ (.cons _ (.cons _ (.cons _ (.refl _))))), h k2 j2 ks2 _ n ⟨2, j, _, _, rfl, rfl, rfl, Or.inr ⟨rfl, _, _, rfl⟩⟩ h1 h2 h3⟩
/-- And-or, from the left. -/
inductive Chain : List Fact → List AV → Nat → Nat → Prop
  | base {v : List AV} {q : Nat} : PipeV v q → Chain [] v 0 q
  | node {R : List Fact} {v w : List AV} {o q q' f id : Nat} {kk a : Int} : Chain R v o q → PipeV w q' → (kk = 3 ∨ kk = 4) → Chain (.row f id (2 * 10) :: R) (cmdA kk a .nilrow (.row (v ++ w) 2 ⟨f, id, 0, 10⟩)) (o + 1) (q + q')
theorem Chain.form {R : List Fact} {v : List AV} {o q : Nat} (h : Chain R v o q) : ∃ kk a ws ss, v = cmdA kk a ws ss ∧ scalar ws = true ∧ scalar ss = true := by
  cases h with
  | base h =>
    obtain ⟨kk, a, ws, ss, h1, h2, h3, _⟩ := h
    exact ⟨kk, a, ws, ss, h1, h2, h3⟩
  | node _ _ _ => exact ⟨_, _, _, _, rfl, rfl, rfl⟩
def NoA (ks : List Nat) : Prop := ks = [] ∨ ∃ l, ks = 0 :: l
theorem andor_loop {s : ByteArray} {p x2 x3 : Nat} {KS : List Nat} {Q : AO → Env → List Fact → Prop}
    (hQ : ∀ e k2 j2 ks2 R v o q, Chain R v o q → Plc s j2 (120 :: tl ks2) → NoA ks2 → Eat KS ks2 0 o q → Sub e [(2, .ptr x2 0)] → Q .ret e (.blk k2 (.cells (tN j2 ks2)) :: .blk p (.cells (qB s (aN j2 ks2) 0 (.ptr k2 0) false)) :: .blk x3 (.cells v) :: .blk x2 (.cells v) :: (R ++ fs))) :
    ∀ (N : Nat) (ks : List Nat) (j k : Nat) (R : List Fact) (v : List AV) (o q : Nat), ks.length < N → ks.length ≤ 900 → Chain R v o q → Plc s j (120 :: tl ks) → Eat KS ks 0 o q → NoP ks →
    WL sW ftab lb48_0 30 [(0, .ptr p 0), (2, .ptr x2 0), (3, .ptr x3 0)] (.blk k (.cells (tN j ks)) :: .blk p (.cells (qB s (aN j ks) 0 (.ptr k 0) false)) :: .blk x3 (.cells v) :: .blk x2 (.cells (cmdA 0 0 .nilrow .nilrow)) :: (R ++ fs)) Q
  | 0, ks, j, k, R, v, o, q, hN, hl, hc, hat, he, hp => absurd hN (Nat.not_lt_zero _)
  | N + 1, ks, j, k, R, v, o, q, hN, hl, hc, hat, he, hp => by
    obtain ⟨kk, a, ws, ss, rfl, hw, hs⟩ := hc.form
    have hall : (cmdA kk a ws ss).all scalar = true := cmd_scalar hw hs
    refine l_round ?_
    refine cgg ?_
    refine w_block ?_
    by_cases hA : NoA ks
    · have n1 : kN ks ≠ 1 ∨ oN ks ≠ ⟨#[38, 38]⟩ := by
        rcases hA with rfl | ⟨l, rfl⟩
        · exact Or.inl (by decide)
        · exact Or.inr (by show (⟨#[59]⟩ : ByteArray) ≠ _; decide)
      have n2 : kN ks ≠ 1 ∨ oN ks ≠ ⟨#[124, 124]⟩ := by
        rcases hA with rfl | ⟨l, rfl⟩
        · exact Or.inl (by decide)
        · exact Or.inr (by show (⟨#[59]⟩ : ByteArray) ≠ _; decide)
      refine cgo ?_
      refine w_block ?_
      refine cgo ?_
      refine g_do rfl (o_call (.cons (xt rfl) (.cons xc .nil)) (opNo n1 (.there .here) .here ?_))
      refine cgo ?_
      refine g_do rfl (o_call (.cons (xt rfl) (.cons xc .nil)) (opNo n2 (.there .here) .here ?_))
      refine cgo ?_
      refine g_do0 (o_store (cs' := cmdA kk a ws ss) (xt rfl) (xt rfl) (.there (.there (.there .here))) ⟨rfl, (Nat.le_of_ble_eq_true rfl)⟩ hall rfl ?_)
      refine cgo ?_
      exact hQ _ k j ks R _ o q hc hat hA he (.cons rfl .nil)
    obtain ⟨k0, l, rfl, hk0⟩ : ∃ k0 l, ks = k0 :: l ∧ (k0 = 1 ∨ k0 = 2) := by
      match ks, hA, hp with
      | [], hA, _ => exact absurd (Or.inl rfl) hA
      | 0 :: l, hA, _ => exact absurd (Or.inr ⟨l, rfl⟩) hA
      | 1 :: l, _, _ => exact ⟨1, l, rfl, Or.inl rfl⟩
      | 2 :: l, _, _ => exact ⟨2, l, rfl, Or.inr rfl⟩
      | (n + 3) :: l, _, hp => exact absurd rfl (hp n l)
    have he1 : Eat (k0 :: l) l 0 1 0 := by
      rcases hk0 with rfl | rfl
      · exact Eat.one l
      · exact Eat.two l
    refine cgo ?_
    refine w_mono (Q := fun ao e f => ao = .normal ∧ ∃ c : Int, (c = 3 ∨ c = 4) ∧ Sub e [(0, .ptr p 0), (2, .ptr x2 0), (3, .ptr x3 0), (4, .int .i64 c)] ∧ f = .blk p (.cells (qB s (bN j (k0 :: l) : Nat) 0 .nilptr false)) :: .blk k (.cells (tN j (k0 :: l))) :: .blk x3 (.cells (cmdA kk a ws ss)) :: .blk x2 (.cells (cmdA 0 0 .nilrow .nilrow)) :: (R ++ fs)) ?_ ?_
    · refine w_block ?_
      refine cgo ?_
      rcases hk0 with rfl | rfl
      · refine g_do rfl (o_call (.cons (xt rfl) (.cons xc .nil)) (Ev.perm (.swap ..) (opYes .here ?_)))
        refine cgo ?_
        exact ⟨rfl, 3, Or.inl rfl, .cons rfl (.cons rfl (.cons rfl (.cons rfl .nil))), rfl⟩
      · refine g_do rfl (o_call (.cons (xt rfl) (.cons xc .nil)) (opNo (Or.inr (by show (⟨#[124, 124]⟩ : ByteArray) ≠ _; decide)) (.there .here) .here ?_))
        refine cgo ?_
        refine g_do rfl (o_call (.cons (xt rfl) (.cons xc .nil)) (Ev.perm (.swap ..) (opYes .here ?_)))
        refine cgo ?_
        exact ⟨rfl, 4, Or.inr rfl, .cons rfl (.cons rfl (.cons rfl (.cons rfl .nil))), rfl⟩
    rintro ao e f ⟨rfl, c, hc4, hS, rfl⟩
    refine w_sub hS (fun _ h => h) ?_
    refine cgo ?_
    refine g_do rfl (o_call (.cons (xt rfl) .nil) (startR (Or.inl (by decide)) (nextw hat).2 fun k3 => ?_))
    refine cgo ?_
    refine g_fl ?_
    refine hgo ?_
    refine h_do rfl (o_call (.cons (xt rfl) .nil) (Ev.perm (.swap ..) (pipe_l (nextw hat).1 .here (by simp at hl; omega) fun k4 j2 ks2 w q' hw' hat2 hp2 he2 => ?_)))
    obtain ⟨kw, aw, ww, sw, rfl, hww, hsw, hkw⟩ := hw'
    refine h_do rfl (o_row (cs := cmdA kk a ws ss ++ cmdA kw aw ww sw) (.cons (xt rfl) (.cons (xt rfl) .nil)) rfl rfl fun f id => ?_)
    refine h_do rfl (o_build (.cons (xt rfl) (.cons (xt rfl) (.cons (xt rfl) .nil))) rfl ?_)
    refine h_do0 (o_store (cs' := cmdA c a .nilrow (.row (cmdA kk a ws ss ++ cmdA kw aw ww sw) 2 ⟨f, id, 0, 10⟩)) (xt rfl) (xt rfl) (.there (.there (.there (.there (.there .here))))) ⟨rfl, (Nat.le_of_ble_eq_true rfl)⟩ rfl rfl ?_)
    refine h_end ?_
    refine ⟨.cons rfl (.cons rfl (o_load (xt rfl) (.there (.there (.there (.there .here)))) rfl rfl) .nil) (.cons rfl (.cons rfl (o_load (xt rfl) (.there (.there (.there (.there .here)))) rfl rfl) (.cons rfl (o_load (xt rfl) (.there (.there (.there (.there (.there .here))))) rfl rfl) .nil)) .nil), _, rfl, ?_⟩
    refine cgo ?_
    refine l_sub (e' := [(0, .ptr p 0), (2, .ptr x2 0), (3, .ptr x3 0)]) (fs' := .blk k4 (.cells (tN j2 ks2)) :: .blk p (.cells (qB s (aN j2 ks2) 0 (.ptr k4 0) false)) :: .blk x3 (.cells (cmdA c a .nilrow (.row (cmdA kk a ws ss ++ cmdA kw aw ww sw) 2 ⟨f, id, 0, 10⟩))) :: .blk x2 (.cells (cmdA 0 0 .nilrow .nilrow)) :: ((.row f id (2 * 10) :: R) ++ fs)) (.cons rfl (.cons rfl (.cons rfl .nil))) (fun _ hh => (hh.mono (.cons_cons _ (.cons_cons _ (.cons_cons _ (.cons _ (.cons _ (.refl _))))))).perm (List.perm_middle (l₁ := [_, _, _, _])).symm) ?_
    have hl2 := he2.len
    simp only [List.length_cons] at hN hl
    have he3 := (he.trans he1).trans he2
    rw [Nat.add_zero] at he3
    exact andor_loop hQ N ks2 j2 k4 _ _ (o + 1) (q + q') (by omega) (by omega) (.node hc ⟨kw, aw, ww, sw, rfl, hww, hsw, hkw⟩ hc4) hat2 (by simpa using he3) hp2
theorem andor_l {s : ByteArray} {p j k : Nat} {st : Bool} {ks : List Nat} {A T : List Fact} (hat : Plc s j (120 :: tl ks)) (hk : Has (A ++ T) (.blk k (.cells (uW j)))) (hlen : ks.length ≤ 900) {K : KK} (h : ∀ k2 j2 ks2 R v o q, Chain R v o q → Plc s j2 (120 :: tl ks2) → NoA ks2 → Eat ks ks2 0 o q → K (.agg v) (.blk k2 (.cells (tN j2 ks2)) :: .blk p (.cells (qB s (aN j2 ks2) 0 (.ptr k2 0) false)) :: (A ++ (R ++ T)))) : Ev sW ftab 48 [.ptr p 0] (.blk p (.cells (qB s j 0 (.ptr k 0) st)) :: (A ++ T)) K := by
  refine ev_weak (K' := fun v f => ∃ k2 j2 ks2 R x o q, v = .agg x ∧ f = .blk k2 (.cells (tN j2 ks2)) :: .blk p (.cells (qB s (aN j2 ks2) 0 (.ptr k2 0) false)) :: (R ++ (A ++ T)) ∧ Chain R x o q ∧ Plc s j2 (120 :: tl ks2) ∧ NoA ks2 ∧ Eat ks ks2 0 o q) ?_ ?_
  · refine ev_fn (nt := 30) (kb := kb48) (kr := kr48) rfl rfl (Nat.le_of_ble_eq_true rfl) ?_
    refine cgo ?_
    refine g_do rfl (o_box xc rfl fun x2 => ?_)
    refine cgo ?_
    refine g_do rfl (o_call (.cons (xt rfl) .nil) (Ev.perm (.swap ..) (pipe_l hat (.there hk) hlen fun k2 j2 ks2 v q hv hat2 hp2 he2 => ?_)))
    obtain ⟨kw, aw, ww, sw, rfl, hww, hsw, hkw⟩ := hv
    have hall : (cmdA kw aw ww sw).all scalar = true := cmd_scalar hww hsw
    refine g_do rfl (o_box xc rfl fun x3 => ?_)
    refine g_do0 (o_store (cs' := cmdA kw aw ww sw) (xt rfl) (xt rfl) .here ⟨rfl, (Nat.le_of_ble_eq_true rfl)⟩ hall rfl ?_)
    refine cgo ?_
    refine w_block (w_loop ?_)
    refine l_sub (e' := [(0, .ptr p 0), (2, .ptr x2 0), (3, .ptr x3 0)]) (fs' := .blk k2 (.cells (tN j2 ks2)) :: .blk p (.cells (qB s (aN j2 ks2) 0 (.ptr k2 0) false)) :: .blk x3 (.cells (cmdA kw aw ww sw)) :: .blk x2 (.cells (cmdA 0 0 .nilrow .nilrow)) :: ([] ++ (A ++ T))) (.cons rfl (.cons rfl (.cons rfl .nil))) (fun _ hh => hh.perm (List.perm_middle (l₁ := [_, _])).symm) ?_
    have hl2 := he2.len
    refine andor_loop (fs := A ++ T) (KS := ks) (fun e k3 j3 ks3 R v o q' h1 h2 h3 h4 hS => ?_) (ks2.length + 1) ks2 j2 k2 [] _ 0 q (by omega) (by omega) (.base ⟨kw, aw, ww, sw, rfl, hww, hsw, hkw⟩) hat2 he2 hp2
    obtain ⟨kk, a, ws, ss, rfl, hw, hs⟩ := h1.form
    cases hS with | cons h5 _ =>
    exact ⟨trivial, _, .blk k3 (.cells (tN j3 ks3)) :: .blk p (.cells (qB s (aN j3 ks3) 0 (.ptr k3 0) false)) :: (R ++ (A ++ T)), .one (.cell h5 (.there (.there (.there .here))) rfl), .cons_cons _ (.cons_cons _ (.cons _ (.cons _ (.refl _)))), k3, j3, ks3, R, _, o, q', rfl, rfl, h1, h2, h3, h4⟩
  · rintro v f ⟨k2, j2, ks2, R, x, o, q, rfl, rfl, h1, h2, h3, h4⟩
    exact ⟨_, fun _ hh => hh.perm (((List.perm_append_comm_assoc R A T).cons _).cons _), h k2 j2 ks2 R x o q h1 h2 h3 h4⟩
def Items (R : List Fact) (ds : List AV) (n o q : Nat) : Prop := ∃ L : List (List AV × Nat × Nat), ds = L.flatMap (·.1) ∧ n = L.length ∧ o = (L.map (·.2.1)).sum ∧ q = (L.map (·.2.2)).sum ∧ ∀ x ∈ L, ∃ R', Chain R' x.1 x.2.1 x.2.2 ∧ ∀ y ∈ R', y ∈ R
theorem Items.nil : Items [] [] 0 0 0 := ⟨[], rfl, rfl, rfl, rfl, fun x h => by cases h⟩
theorem Items.snoc {R R' : List Fact} {ds v : List AV} {n o q o' q' : Nat} (h : Items R ds n o q) (h' : Chain R' v o' q') : Items (R' ++ R) (ds ++ v) (n + 1) (o + o') (q + q') := by
  obtain ⟨L, h1, h2, h3, h4, h5⟩ := h
  refine ⟨L ++ [(v, o', q')], ?_, ?_, ?_, ?_, fun x hx => ?_⟩
  · rw [List.flatMap_append, h1]; simp
  · rw [List.length_append, h2]; rfl
  · rw [List.map_append, List.sum_append, h3]; simp
  · rw [List.map_append, List.sum_append, h4]; simp
  · rcases List.mem_append.1 hx with hx | hx
    · obtain ⟨R2, g1, g2⟩ := h5 x hx
      exact ⟨R2, g1, fun y hy => List.mem_append.2 (Or.inr (g2 y hy))⟩
    · rw [List.mem_singleton.1 hx]
      exact ⟨R', h', fun y hy => List.mem_append.2 (Or.inl hy)⟩
def Script (R : List Fact) (v : List AV) (n o q : Nat) : Prop := ∃ R' cs f id a, R = .row f id (n * 10) :: R' ∧ v = cmdA 5 a .nilrow (.row cs n ⟨f, id, 0, 10⟩) ∧ Items R' cs n o q
theorem list_loop {s : ByteArray} {p x2 x3 : Nat} {a : Int} {KS : List Nat} {Q : AO → Env → List Fact → Prop}
    (hQ : ∀ e k2 j2 R cs n o q f id, Items R cs (n + 1) o q → Eat KS [] n o q → Sub e [(2, .ptr x2 0)] → Q .ret e (.blk k2 (.cells (tN j2 [])) :: .blk p (.cells (qB s (aN j2 []) 0 (.ptr k2 0) false)) :: .blk x3 (.cells (cmdA 5 a .nilrow (.row cs (n + 1) ⟨f, id, 0, 10⟩))) :: .blk x2 (.cells (cmdA 5 a .nilrow (.row cs (n + 1) ⟨f, id, 0, 10⟩))) :: .row f id ((n + 1) * 10) :: (R ++ fs))) :
    ∀ (N : Nat) (ks : List Nat) (j k n o q : Nat) (st : Bool) (sv : AV) (ds : List AV) (F R G : List Fact), ks.length < N → n + ks.length ≤ 900 → Eat KS ks n o q → Rw 10 sv ds n F → Items R ds n o q → Plc s j (120 :: tl ks) → Has G (.blk k (.cells (uW j))) → fs.Sublist G →
    WL sW ftab lb35_0 54 [(0, .ptr p 0), (2, .ptr x2 0), (3, .ptr x3 0)] (.blk p (.cells (qB s j 0 (.ptr k 0) st)) :: .blk x3 (.cells (cmdA 5 a .nilrow sv)) :: .blk x2 (.cells (cmdA 0 0 .nilrow .nilrow)) :: (F ++ (R ++ G))) Q
  | 0, ks, j, k, n, o, q, st, sv, ds, F, R, G, hN, hm, he, hv, hi, hat, hk, hG => absurd hN (Nat.not_lt_zero _)
  | N + 1, ks, j, k, n, o, q, st, sv, ds, F, R, G, hN, hm, he, hv, hi, hat, hk, hG => by
    refine l_round ?_
    refine w_block ?_
    refine w_rs (g_fl ?_)
    refine hgo ?_
    refine h_do rfl (o_call (.cons (xt rfl) .nil) (andor_l (A := .blk x3 (.cells (cmdA 5 a .nilrow sv)) :: .blk x2 (.cells (cmdA 0 0 .nilrow .nilrow)) :: F) (T := R ++ G) hat (.there (.there (Has.app (Has.app hk)))) (by omega) fun k2 j2 ks2 R' v o' q' hc hat2 hA he2 => ?_))
    simp only [List.cons_append]
    obtain ⟨kk, b, ws, ss, rfl, hw, hs⟩ := hc.form
    refine h_do rfl (o_row (cs := cmdA kk b ws ss) (.cons (xt rfl) .nil) rfl rfl fun f1 id1 => ?_)
    refine h_do rfl (o_apx (hd := [_, _, _, _, _]) hv (xt rfl) (.own (xt rfl) .here rfl) (cmd_scalar hw hs) (by decide) ⟨by omega, by omega⟩ fun f id => ?_)
    simp only [List.cons_append, List.nil_append]
    refine hgo ?_
    refine h_do0 (o_store (xt rfl) (xt rfl) (.there (.there (.there .here))) ⟨rfl, (Nat.le_of_ble_eq_true rfl)⟩ rfl rfl ?_)
    refine h_end ?_
    refine ⟨.cons rfl (.cons rfl (o_load (xt rfl) (.there (.there .here)) rfl rfl) (.cons rfl (o_load (xt rfl) (.there (.there (.there .here))) rfl rfl) .nil)) .nil, _, rfl, ?_⟩
    refine w_sub (e' := [(0, .ptr p 0), (2, .ptr x2 0), (3, .ptr x3 0)]) (fs' := .blk k2 (.cells (tN j2 ks2)) :: .blk p (.cells (qB s (aN j2 ks2) 0 (.ptr k2 0) false)) :: .blk x3 (.cells (cmdA 5 a .nilrow (.row (ds ++ cmdA kk b ws ss) (n + 1) ⟨f, id, 0, 10⟩))) :: .blk x2 (.cells (cmdA 0 0 .nilrow .nilrow)) :: .row f id ((n + 1) * 10) :: ((R' ++ R) ++ fs)) (.cons rfl (.cons rfl (.cons rfl .nil))) (fun _ hh => by rw [List.append_assoc]; exact hh.mono (.cons _ (.cons_cons _ (.cons_cons _ (.cons_cons _ (.cons_cons _ (.cons_cons _ ((hG.append_left R).append_left R'))))))))  ?_
    have hi2 := hi.snoc hc
    have he3 := he.trans he2
    rw [Nat.add_zero] at he3
    refine cgg ?_
    rcases hA with rfl | ⟨l, rfl⟩
    · refine g_do rfl (o_call (.cons (xt rfl) (.cons xc .nil)) (opNo (Or.inl (by decide)) (.there .here) .here ?_))
      refine cgg ?_
      refine g_do rfl (o_call (.cons (xt rfl) .nil) (peekL (.there .here) .here ?_))
      refine cgg ?_
      exact hQ _ k2 j2 _ _ n _ _ f id hi2 he3 (.cons rfl .nil)
    · refine g_do rfl (o_call (.cons (xt rfl) (.cons xc .nil)) (Ev.perm (.swap ..) (opYes .here ?_)))
      refine cgg ?_
      refine g_do rfl (o_call (.cons (xt rfl) .nil) (startR (Or.inl (by decide)) (nextw hat2).2 fun k3 => ?_))
      refine cgg ?_
      refine g_do rfl (o_call (.cons (xt rfl) .nil) (peekL (.there .here) .here ?_))
      refine cgg ?_
      refine g_do rfl (o_call (.cons (xt rfl) .nil) (begins_l ?_))
      refine cgg ?_
      refine l_sub (e' := [(0, .ptr p 0), (2, .ptr x2 0), (3, .ptr x3 0)]) (fs' := .blk p (.cells (qB s (bN j2 (0 :: l) + 1 : Nat) 0 (.ptr k3 0) true)) :: .blk x3 (.cells (cmdA 5 a .nilrow (.row (ds ++ cmdA kk b ws ss) (n + 1) ⟨f, id, 0, 10⟩))) :: .blk x2 (.cells (cmdA 0 0 .nilrow .nilrow)) :: ([.row f id ((n + 1) * 10)] ++ ((R' ++ R) ++ (.blk k3 (.cells (uW (bN j2 (0 :: l) + 1))) :: fs)))) (.cons rfl (.cons rfl (.cons rfl .nil))) (fun _ hh => (hh.mono (.cons_cons _ (.cons_cons _ (.cons _ (.refl _))))).perm (List.perm_middle (l₁ := _ :: _ :: _ :: _ :: (R' ++ R))).symm) ?_
      have hl2 := he2.len
      simp only [List.length_cons] at hl2
      exact list_loop hQ N l _ k3 (n + 1) (o + o') (q + q') true _ _ _ _ _ (by omega) (by omega) (he3.trans (Eat.zero l)) (.own (by omega)) hi2 (nextw hat2).1 .here (.cons _ (.refl _))
theorem list_l {s : ByteArray} {p j k : Nat} {st : Bool} {ks : List Nat} {A T : List Fact} (hat : Plc s j (120 :: tl ks)) (hk : Has (A ++ T) (.blk k (.cells (uW j)))) (hlen : ks.length ≤ 900) {K : KK} (h : ∀ k2 j2 R v n o q, Script R v (n + 1) o q → Eat ks [] n o q → K (.agg v) (.blk k2 (.cells (tN j2 [])) :: .blk p (.cells (qB s (aN j2 []) 0 (.ptr k2 0) false)) :: (A ++ (R ++ T)))) : Ev sW ftab 35 [.ptr p 0] (.blk p (.cells (qB s j 0 (.ptr k 0) st)) :: (A ++ T)) K := by
  refine ev_weak (K' := fun v f => ∃ k2 j2 R x n o q, v = .agg x ∧ f = .blk k2 (.cells (tN j2 [])) :: .blk p (.cells (qB s (aN j2 []) 0 (.ptr k2 0) false)) :: (R ++ (A ++ T)) ∧ Script R x (n + 1) o q ∧ Eat ks [] n o q) ?_ ?_
  · refine ev_fn (nt := 54) (kb := kb35) (kr := kr35) rfl rfl (Nat.le_of_ble_eq_true rfl) ?_
    refine cgo ?_
    refine g_do rfl (o_box xc rfl fun x2 => ?_)
    refine cgo ?_
    refine g_do rfl (o_call (.cons (xt rfl) .nil) (Ev.perm (.swap ..) (startL (Or.inl (by decide)) (.there hk) ?_)))
    refine cgo ?_
    refine g_do rfl (o_call (.cons (xt rfl) .nil) (peekL .here (.there (.there hk)) ?_))
    refine cgo ?_
    refine g_do rfl (o_build (.cons xc (.cons (xt rfl) .nil)) rfl ?_)
    refine g_do rfl (o_box xc rfl fun x3 => ?_)
    refine cgo ?_
    refine w_block (w_loop ?_)
    refine l_sub (e' := [(0, .ptr p 0), (2, .ptr x2 0), (3, .ptr x3 0)]) (fs' := .blk p (.cells (qB s j 0 (.ptr k 0) true)) :: .blk x3 (.cells (cmdA 5 j .nilrow .nilrow)) :: .blk x2 (.cells (cmdA 0 0 .nilrow .nilrow)) :: ([] ++ ([] ++ (A ++ T)))) (.cons rfl (.cons rfl (.cons rfl .nil))) (fun h0 hh => ?_) ?_
    · have hh2 : RH h0 (.blk x3 (.cells (cmdA 5 j .nilrow .nilrow)) :: .blk p (.cells (qB s j 0 (.ptr k 0) true)) :: .blk x2 (.cells (cmdA 0 0 .nilrow .nilrow)) :: (A ++ T)) := hh
      exact hh2.perm (.swap ..)
    refine list_loop (fs := A ++ T) (KS := ks) (fun e k3 j3 R cs n o q f id h1 h2 hS => ?_) (ks.length + 1) ks j k 0 0 0 true .nilrow [] [] [] _ (by omega) (by omega) (Eat.refl _) .nil Items.nil hat hk (.refl _)
    cases hS with | cons h5 _ =>
    exact ⟨trivial, _, .blk k3 (.cells (tN j3 [])) :: .blk p (.cells (qB s (aN j3 []) 0 (.ptr k3 0) false)) :: ((.row f id ((n + 1) * 10) :: R) ++ (A ++ T)), .one (.cell h5 (.there (.there (.there .here))) rfl), .cons_cons _ (.cons_cons _ (.cons _ (.cons _ (.refl _)))), k3, j3, _, _, n, o, q, rfl, rfl, ⟨R, cs, f, id, j, rfl, rfl, h1⟩, h2⟩
  · rintro v f ⟨k2, j2, R, x, n, o, q, rfl, rfl, h1, h2⟩
    exact ⟨_, fun _ hh => hh.perm (((List.perm_append_comm_assoc R A T).cons _).cons _), h k2 j2 R x n o q h1 h2⟩
theorem some_l {s : ByteArray} {p : Nat} {ks : List Nat} {A T : List Fact} (hat : Plc s 0 (120 :: tl ks)) (hlen : ks.length ≤ 900) {K : KK} (h : ∀ k2 j2 R v n o q, Script R v (n + 1) o q → Eat ks [] n o q → K (.agg v) (.blk k2 (.cells (tN j2 [])) :: .blk p (.cells (qB s (aN j2 []) 0 (.ptr k2 0) false)) :: (A ++ (R ++ T)))) : Ev sW ftab 20 [.ptr p 0] (.blk p (.cells (qB s (0 : Nat) 0 .nilptr false)) :: (A ++ T)) K := by
  refine ev_fn (nt := 18) (kb := kb20) (kr := kr20) rfl rfl (Nat.le_of_ble_eq_true rfl) ?_
  refine cgo ?_
  refine g_do rfl (o_box xc rfl fun x2 => ?_)
  refine cgo ?_
  refine g_do rfl (o_call (.cons (xt rfl) .nil) (Ev.perm (.swap ..) (startR (Or.inl (by decide)) (reads_w (skip_here hat (by decide)) hat (tl_ends ks)) fun k => ?_)))
  refine cgg ?_
  refine g_do rfl (o_call (.cons (xt rfl) .nil) (peekL (.there .here) .here ?_))
  refine cgg ?_
  refine g_do rfl (o_call (.cons (xt rfl) .nil) (begins_l ?_))
  refine cgg ?_
  refine g_do rfl (o_call (.cons (xt rfl) .nil) (Ev.perm (.swap ..) (list_l (A := _ :: _ :: A) (T := T) hat .here hlen fun k2 j2 R v n o q hsc he => ?_)))
  obtain ⟨R', cs, f, id, a, hR, rfl, hi⟩ := hsc
  simp only [List.cons_append]
  refine cgo ?_
  exact ⟨trivial, _, .blk k2 (.cells (tN j2 [])) :: .blk p (.cells (qB s (aN j2 []) 0 (.ptr k2 0) false)) :: (A ++ (R ++ T)), .one (.cell rfl (.there (.there (.there .here))) rfl), .cons_cons _ (.cons_cons _ (.cons _ (.cons _ (.refl _)))), h k2 j2 R _ n o q ⟨R', cs, f, id, a, hR, rfl, hi⟩ he⟩
theorem idx0_tl : ∀ (ks : List Nat) (i : Nat), idxOf 0 (tl ks) i = -1
  | [], i => rfl
  | k :: ks, i => by
    have ih := idx0_tl ks
    match k with
    | 0 => show idxOf 0 (32 :: 59 :: 32 :: 120 :: tl ks) i = -1; rw [idxOf_cons, if_neg (by decide), idxOf_cons, if_neg (by decide), idxOf_cons, if_neg (by decide), idxOf_cons, if_neg (by decide)]; exact ih _
    | 1 => show idxOf 0 (32 :: 38 :: 38 :: 32 :: 120 :: tl ks) i = -1; rw [idxOf_cons, if_neg (by decide), idxOf_cons, if_neg (by decide), idxOf_cons, if_neg (by decide), idxOf_cons, if_neg (by decide), idxOf_cons, if_neg (by decide)]; exact ih _
    | 2 => show idxOf 0 (32 :: 124 :: 124 :: 32 :: 120 :: tl ks) i = -1; rw [idxOf_cons, if_neg (by decide), idxOf_cons, if_neg (by decide), idxOf_cons, if_neg (by decide), idxOf_cons, if_neg (by decide), idxOf_cons, if_neg (by decide)]; exact ih _
    | n + 3 => show idxOf 0 (32 :: 124 :: 32 :: 120 :: tl ks) i = -1; rw [idxOf_cons, if_neg (by decide), idxOf_cons, if_neg (by decide), idxOf_cons, if_neg (by decide), idxOf_cons, if_neg (by decide)]; exact ih _
theorem parse_l {s : ByteArray} {ks : List Nat} (hat : Plc s 0 (120 :: tl ks)) (hlen : ks.length ≤ 900) (hs : s.size ≤ 20000) {K : KK} (h : ∀ R v n o q, Script R v (n + 1) o q → Eat ks [] n o q → K (.tup [.agg v, .int .i64 0, .int .i64 0]) (R ++ fs)) : Ev sW ftab 13 [.str s] fs K := by
  have hl : s.data.toList = 120 :: tl ks := hat.eq
  refine ev_fn (nt := 54) (kb := kb13) (kr := kr13) rfl rfl (Nat.le_of_ble_eq_true rfl) ?_
  refine cgo ?_
  refine g_do rfl (o_box xc rfl fun x2 => ?_)
  refine cgo ?_
  refine g_do rfl (o_call (.cons (xt rfl) (.cons xc .nil)) (ix3_ev (b := 0) (by decide) ?_))
  rw [hl, idxOf_cons, if_neg (by decide), idx0_tl]
  refine cgg ?_
  refine g_do rfl (o_gtr (xt rfl) xc (fun h9 => by omega) (fun _ => ?_))
  refine cgo ?_
  refine g_do rfl (o_box (xt rfl) rfl fun p => ?_)
  refine cgo ?_
  refine g_do rfl (o_call (.cons (xt rfl) .nil) (some_l (A := [_]) (T := fs) hat hlen fun k2 j2 R v n o q hsc he => ?_))
  obtain ⟨R', cs, f, id, a, hR, rfl, hi⟩ := hsc
  simp only [List.cons_append, List.nil_append]
  refine g_do rfl (o_box xc rfl fun x7 => ?_)
  refine cgo ?_
  refine g_do rfl (o_call (.cons (xt rfl) .nil) (peekL (.there (.there .here)) (.there .here) ?_))
  refine g_do rfl (o_box xc rfl fun x8 => ?_)
  refine cgg ?_
  exact ⟨trivial, _, R ++ fs, .tup (.cons (.cell rfl (.there (.there (.there (.there .here)))) rfl) (.cons (.tmp rfl) (.cons (.tmp rfl) .nil))), .cons _ (.cons _ (.cons _ (.cons _ (.cons _ (.refl _))))), h R _ n o q ⟨R', cs, f, id, a, hR, rfl, hi⟩ he⟩
end Go.Proofs.Ytadohhhjpbhhoaa.EvA
