/- Walks of layer 16: bytes, numbers, rows, args. -/
import Derived.Test.YtfmhfepcohbbmaaEvLh
import Derived.Test.YtfmhfepcohbbmaaEvTb
import Derived.Test.YtfmhfepcohbbmaaEvSk
import Derived.Test.YtfmhfepcohbbmaaEvSw
import Derived.Test.YtfmhfepcohbbmaaEvJk
import Derived.KernelRfl
namespace Go.Proofs.Ytfmhfepcohbbmaa.EvA
attribute [local irreducible] oMove oPick oBox oBuild oRow oRowZ oLoad oStore oNil oArith oEq oEqS oShr oShl oNot oNeg oConv oFn oMfn oMin oMax oCutstr oCutrow oFaddr oField oIaddr oIaddrA oIdx oExtract oLenS oLenR oLenM oAppend oCall oCallv oMap oLookup oSet oDelete kDo kDo0 kIf kEl oMake oText kEnd kReg kSeq kCond kBlock kLoop kSkip kExit kRet xT xC xF kFl kIp sDo sDo0 sIf gVal
set_option linter.unusedVariables false
variable {fs : List Fact}
noncomputable abbrev sIx : Sum := sumIdx 74
theorem sIx_ok (B : Nat → Prop) (w0 : World) : SumOk Try.prog B w0 sIx := sumIdx_ok Try.func74 (by kernel_rfl) (by kernel_rfl) (by kernel_rfl) (by kernel_rfl) B w0
abbrev sJ : Sum := sumAt 23 joinS
noncomputable abbrev sA : Sum := sumOr sJ sIx
theorem sA_ok (B : Nat → Prop) (w0 : World) : SumOk Try.prog B w0 sA := sumOr_ok (jk_ok B w0) (sIx_ok B w0)
theorem awake0 : (aeval sA ftab 60 11 [] h0).map (·.1) = some (.bool true) := by kernel_rfl
noncomputable abbrev sW : Sum := sumOr (sumTrue 11) (sumOr sA (sumAt 34 (sortS 58)))
theorem sW_ok (B : Nat → Prop) (w0 : World) : SumOk Try.prog B w0 sW := sumOr_ok (sumTrue_ok sA_ok ftab_ok awake0 B w0) (sumOr_ok (sA_ok B w0) (sk0_ok B w0))
theorem awake_ev {K : KK} (h : K (.bool true) fs) : Ev sW ftab 11 [] fs K := ev_sum (s := fun a h => match a with | [] => some (.bool true, h) | _ => none) rfl fun h0 h2 => ⟨_, h0, fs, h2, h, rfl⟩
theorem ix_ev {s : ByteArray} {b : Nat} (hb : b ≤ 255) {K : KK} (h : K (.int .i64 (idxOf b s.data.toList 0)) fs) : Ev sW ftab 74 [.str s, .int .u8 (b : Int)] fs K :=
  ev_sum (s := idxS) rfl fun h0 h2 => ⟨_, h0, fs, h2, h, by
    show (match Nat.ble b 255 with | true => _ | false => _) = _
    rw [Nat.ble_eq_true_of_le hb]⟩
theorem ix2_ev {s : ByteArray} {b : Nat} (hb : b ≤ 255) {K : KK} (h : K (.int .i64 (idxOf b s.data.toList 0)) fs) : Ev sW ftab 60 [.str s, .int .u8 (b : Int)] fs K := by
  refine ev_fn (nt := 8) (kb := kb60) (kr := kr60) rfl rfl (Nat.le_of_ble_eq_true rfl) ?_
  refine cgo ?_
  refine g_do rfl (o_call (.cons (xt rfl) (.cons (xt rfl) .nil)) (ix_ev hb ?_))
  refine cgo ?_
  exact ⟨trivial, _, fs, .one (.tmp rfl), .refl _, h⟩
theorem ix3_ev {s : ByteArray} {b : Nat} (hb : b ≤ 255) {K : KK} (h : K (.int .i64 (idxOf b s.data.toList 0)) fs) : Ev sW ftab 37 [.str s, .int .u8 (b : Int)] fs K := by
  refine ev_fn (nt := 8) (kb := kb37) (kr := kr37) rfl rfl (Nat.le_of_ble_eq_true rfl) ?_
  refine cgo ?_
  refine g_do rfl (o_call (.cons (xt rfl) (.cons (xt rfl) .nil)) (ix2_ev hb ?_))
  refine cgo ?_
  exact ⟨trivial, _, fs, .one (.tmp rfl), .refl _, h⟩
/-- A byte's place, or -1. -/
theorem idxOf_spec (c : Nat) : ∀ (l : List UInt8) (i : Nat), (idxOf c l i = -1 ∧ ∀ b ∈ l, b.toNat ≠ c) ∨ ∃ k : Nat, idxOf c l i = ((i + k : Nat) : Int) ∧ k < l.length ∧ (∀ b ∈ l.take k, b.toNat ≠ c) ∧ ∃ b, l[k]? = some b ∧ b.toNat = c
  | [], i => Or.inl ⟨rfl, fun b h => by cases h⟩
  | b :: l, i => by
    rw [idxOf_cons]
    by_cases hb : b.toNat = c
    · rw [if_pos hb]; exact Or.inr ⟨0, rfl, by simp, by simp, b, rfl, hb⟩
    · rw [if_neg hb]
      rcases idxOf_spec c l (i + 1) with ⟨h1, h2⟩ | ⟨k, h1, h2, h3, h4⟩
      · refine Or.inl ⟨h1, fun x hx => ?_⟩
        rcases List.mem_cons.1 hx with rfl | hx
        · exact hb
        · exact h2 x hx
      · refine Or.inr ⟨k + 1, by rw [h1]; congr 1; omega, by simp; omega, fun x hx => ?_, by simpa using h4⟩
        rw [List.take_succ_cons] at hx
        rcases List.mem_cons.1 hx with rfl | hx
        · exact hb
        · exact h3 x hx
theorem idx_none {s : ByteArray} (h : ∀ b ∈ s.data.toList, b.toNat ≠ 0) : idxOf 0 s.data.toList 0 = -1 := by
  rcases idxOf_spec 0 s.data.toList 0 with ⟨h1, _⟩ | ⟨k, _, _, _, b, h2, h3⟩
  · exact h1
  · exact absurd h3 (h b (List.mem_of_getElem? h2))
theorem fits_ev {s : ByteArray} (hs : s.size ≤ 4096) (h0 : ∀ b ∈ s.data.toList, b.toNat ≠ 0) {K : KK} (h : K (.bool true) fs) : Ev sW ftab 17 [.str s] fs K := by
  refine ev_fn (nt := 11) (kb := kb17) (kr := kr17) rfl rfl (Nat.le_of_ble_eq_true rfl) ?_
  refine cgo ?_
  refine g_do rfl (o_leq (xt rfl) xc (fun _ => ?_) (fun h => by omega))
  refine rgo ?_
  try refine g_if rfl ?_
  refine g_do rfl (o_call (.cons (xt rfl) (.cons xc .nil)) (ix3_ev (b := 0) (by decide) ?_))
  rw [idx_none h0]
  refine rgo ?_
  try refine g_if rfl ?_
  refine g_do rfl (o_lss (xt rfl) xc (fun _ => ?_) (fun h => absurd (by decide) h))
  refine cgo ?_
  exact ⟨trivial, _, fs, .one (.tmp rfl), .refl _, h⟩
variable {fs fs' : List Fact} {S : Sum}
/-! What is read. -/
def numL : List UInt8 → Nat → Option Nat
  | [], a => some a
  | b :: l, a => if b.toNat < 48 ∨ 57 < b.toNat ∨ 461168601842738790 < a then none else if 4611686018427387904 < a * 10 + (b.toNat - 48) then none else numL l (a * 10 + (b.toNat - 48))
def numM (s : ByteArray) : Nat × Bool := if s.size = 0 then (0, false) else match numL s.data.toList 0 with
  | some n => (n, true)
  | none => (0, false)
theorem digit_ev (hS : S 55 = none) {b : UInt8} {K : KK} (h : K (.bool (decide (48 ≤ b.toNat ∧ b.toNat ≤ 57))) fs) : Ev S ftab 55 [.int .u8 b.toNat] fs K := by
  refine ev_fn (nt := 9) (kb := kb55) (kr := kr55) rfl hS (Nat.le_of_ble_eq_true rfl) ?_
  refine cgo ?_
  refine g_do rfl (o_geq (xt rfl) xc (fun h1 => ?_) (fun h1 => ?_))
  · refine rgo ?_
    try refine g_if rfl ?_
    refine g_do rfl (o_leq (xt rfl) xc (fun h2 => ?_) (fun h2 => ?_))
    · refine cgo ?_
      exact ⟨trivial, _, fs, .one (.tmp rfl), .refl _, by rw [decide_eq_true (by omega)] at h; exact h⟩
    · refine cgo ?_
      exact ⟨trivial, _, fs, .one (.tmp rfl), .refl _, by rw [decide_eq_false (by omega)] at h; exact h⟩
  · refine cgo ?_
    exact ⟨trivial, _, fs, .one (.tmp rfl), .refl _, by rw [decide_eq_false (by omega)] at h; exact h⟩
theorem wrap_u8 {n : Nat} (h : n < 256) : IntKind.wrap .u8 (n : Int) = n := by
  show (n : Int) % 256 = n
  omega
theorem num_loop (hS : S 55 = none) {s : ByteArray} (hs : s.size ≤ 1000000000) {Q : AO → Env → List Fact → Prop} : ∀ (l : List UInt8) (i a : Nat), s.data.toList.drop i = l → i ≤ s.size → a ≤ 4611686018427387904 → (∀ n, numL l a = some n → ∀ e, Sub e [(0, .str s), (4, .int .i64 n)] → Q (.exit 0) e fs) → (numL l a = none → ∀ e, Sub e [(2, .int .i64 0), (3, .bool false)] → Q .ret e fs) →
    WL S ftab lb33_0 34 [(0, .str s), (4, .int .i64 (a : Int)), (9, .int .i64 s.size), (10, .int .i64 i)] fs Q
  | [], i, a, hl, hi, ha, h1, h2 => by
    refine l_round ?_
    refine cgo ?_
    have hge : s.size ≤ i := by have := List.drop_eq_nil_iff.1 hl; simpa using this
    refine g_do rfl (o_lss (xt rfl) (xt rfl) (fun h => by omega) (fun h => ?_))
    refine cgo ?_
    exact h1 a rfl _ (.cons rfl (.cons rfl .nil))
  | b :: l, i, a, hl, hi, ha, h1, h2 => by
    refine l_round ?_
    refine cgo ?_
    have hlt : i < s.size := by
      have : ¬ s.data.toList.length ≤ i := fun h => by rw [List.drop_eq_nil_of_le h] at hl; cases hl
      simpa using this
    have hb : s.data.toList[i]? = some b := by
      have := congrArg List.head? hl
      rw [List.head?_drop] at this; simpa using this
    have hd : s.data.toList.drop (i + 1) = l := by
      have := congrArg List.tail hl
      simpa using this
    have hlt8 := b.toNat_lt
    refine g_do rfl (o_lss (xt rfl) (xt rfl) (fun h => ?_) (fun h => by omega))
    refine cgo ?_
    refine w_block ?_
    refine cgo ?_
    refine g_do rfl (o_idx (xt rfl) (xt rfl) (by omega) (b := b) (by rw [Int.toNat_natCast]; exact hb) ?_)
    refine g_do rfl (o_call (.cons (xt rfl) .nil) (digit_ev hS ?_))
    have bad : (b.toNat < 48 ∨ 57 < b.toNat ∨ 461168601842738790 < a) → numL (b :: l) a = none := fun hh => by simp only [numL]; rw [if_pos hh]
    by_cases hdg : 48 ≤ b.toNat ∧ b.toNat ≤ 57
    · rw [decide_eq_true hdg]
      refine g_do rfl (o_not (xt rfl) ?_)
      refine g_do rfl (o_move (xt rfl) ?_)
      refine g_if rfl ?_
      refine g_do rfl (o_move (xt rfl) ?_)
      refine g_if rfl ?_
      refine g_do rfl (o_gtr (xt rfl) xc (fun hg => ?_) (fun hg => ?_))
      · refine cgo ?_
        exact h2 (bad (by omega)) _ (.cons rfl (.cons rfl .nil))
      · refine cgo ?_
        have ok1 : ¬ (b.toNat < 48 ∨ 57 < b.toNat ∨ 461168601842738790 < a) := by omega
        refine g_do rfl (o_mul (xt rfl) xc (by constructor <;> omega) ?_)
        refine rgo ?_
        refine g_do rfl (o_idx (xt rfl) (xt rfl) (by omega) (b := b) (by rw [Int.toNat_natCast]; exact hb) ?_)
        refine g_do rfl (o_arith (v := .int .u8 ((b.toNat - 48 : Nat) : Int)) (xt rfl) xc (by
          show some (AV.int .u8 (IntKind.wrap .u8 ((b.toNat : Int) - 48))) = _
          rw [show (b.toNat : Int) - 48 = ((b.toNat - 48 : Nat) : Int) by omega, wrap_u8 (by omega)]) ?_)
        refine g_do rfl (o_conv (xt rfl) ?_)
        rw [wrap_in (by constructor <;> omega)]
        refine g_do rfl (o_add (xt rfl) (xt rfl) (by constructor <;> omega) ?_)
        rw [show (a : Int) * 10 + ((b.toNat - 48 : Nat) : Int) = ((a * 10 + (b.toNat - 48) : Nat) : Int) by omega]
        refine cgo ?_
        refine g_do rfl (o_gtr (xt rfl) xc (fun hg => ?_) (fun hg2 => ?_))
        · refine cgo ?_
          exact h2 (by simp only [numL]; rw [if_neg ok1, if_pos (by omega)]) _ (.cons rfl (.cons rfl .nil))
        · refine cgo ?_
          refine g_do rfl (o_add (xt rfl) xc (by constructor <;> omega) ?_)
          refine cgo ?_
          have e1 : numL (b :: l) a = numL l (a * 10 + (b.toNat - 48)) := by simp only [numL]; rw [if_neg ok1, if_neg (by omega)]
          refine l_sub (e' := [(0, .str s), (4, .int .i64 ((a * 10 + (b.toNat - 48) : Nat) : Int)), (9, .int .i64 s.size), (10, .int .i64 ((i + 1 : Nat) : Int))]) (.cons rfl (.cons rfl (.cons rfl (.cons rfl .nil)))) (fun _ h => h) ?_
          rw [e1] at h1 h2
          exact num_loop hS hs l (i + 1) _ hd (by omega) (by omega) h1 h2
    · rw [decide_eq_false hdg]
      refine cgo ?_
      exact h2 (bad (by omega)) _ (.cons rfl (.cons rfl .nil))
theorem number_ev (hS : S 55 = none) (hS2 : S 33 = none) {s : ByteArray} (hs : s.size ≤ 1000000000) {K : KK} (h : K (.tup [.int .i64 ((numM s).1 : Int), .bool (numM s).2]) fs) : Ev S ftab 33 [.str s] fs K := by
  refine ev_fn (nt := 34) (kb := kb33) (kr := kr33) rfl hS2 (Nat.le_of_ble_eq_true rfl) ?_
  refine cgo ?_
  refine g_do rfl (o_eqs (xt rfl) xc (fun h1 => ?_) (fun h1 => ?_))
  · subst h1
    refine cgo ?_
    exact ⟨trivial, _, fs, .tup (.cons (.tmp rfl) (.cons (.tmp rfl) .nil)), .refl _, h⟩
  · have h0 : s.size ≠ 0 := fun h0 => h1 (ByteArray.ext (Array.eq_empty_of_size_eq_zero h0))
    refine cgo ?_
    refine w_block (w_loop ?_)
    refine l_sub (e' := [(0, .str s), (4, .int .i64 ((0 : Nat) : Int)), (9, .int .i64 s.size), (10, .int .i64 ((0 : Nat) : Int))]) (.cons rfl (.cons rfl (.cons rfl (.cons rfl .nil)))) (fun _ h => h) ?_
    refine num_loop hS hs s.data.toList 0 0 rfl (by omega) (by omega) (fun n hn e he => ?_) (fun hn e he => ?_)
    · refine w_sub he (fun _ h => h) ?_
      refine cgo ?_
      refine ⟨trivial, _, fs, .tup (.cons (.tmp rfl) (.cons (.tmp rfl) .nil)), .refl _, ?_⟩
      simp only [numM, hn] at h
      rw [if_neg h0] at h; exact h
    · refine ⟨trivial, _, fs, .tup (.cons (.tmp (he.lk _ _ rfl)) (.cons (.tmp (he.lk _ _ rfl)) .nil)), .refl _, ?_⟩
      simp only [numM, hn] at h
      rw [if_neg h0] at h; exact h
variable {fs fs' : List Fact} {S : Sum}
abbrev mkT (l : List UInt8) : ByteArray := ⟨l.toArray⟩
theorem mkT_size (l : List UInt8) : (mkT l).size = l.length := by simp [ByteArray.size]
theorem mkT_app (a b : List UInt8) : mkT a ++ mkT b = mkT (a ++ b) := ByteArray.ext (by simp [mkT])
/-! What is told. -/
def digs (m : Nat) : List UInt8 := if h : 9 < m then digs (m / 10) ++ [UInt8.ofNat (48 + m % 10)] else [UInt8.ofNat (48 + m)]
termination_by m
decreasing_by omega
def digitsL (n : Int) : List UInt8 := if n < 0 then 45 :: digs n.natAbs else digs n.natAbs
theorem dig_cut : ∀ {d : Nat}, d < 10 → (⟨#[48, 49, 50, 51, 52, 53, 54, 55, 56, 57]⟩ : ByteArray).extract d (d + 1) = mkT [UInt8.ofNat (48 + d)] := by
  intro d hd
  match d, hd with
  | 0, _ => rfl
  | 1, _ => rfl
  | 2, _ => rfl
  | 3, _ => rfl
  | 4, _ => rfl
  | 5, _ => rfl
  | 6, _ => rfl
  | 7, _ => rfl
  | 8, _ => rfl
  | 9, _ => rfl
theorem wrap_u64 {n : Nat} (h : n < 18446744073709551616) : IntKind.wrap .u64 (n : Int) = n := by
  show (n : Int) % 18446744073709551616 = n
  omega
theorem digs_big {m : Nat} (h : 9 < m) : digs m = digs (m / 10) ++ [UInt8.ofNat (48 + m % 10)] := by rw [digs, dif_pos h]
theorem digs_small {m : Nat} (h : ¬ 9 < m) : digs m = [UInt8.ofNat (48 + m)] := by rw [digs, dif_neg h]
theorem dig_loop {n : Int} {full : List UInt8} {Q : AO → Env → List Fact → Prop} (hQ : ∀ (m : Nat) (acc : List UInt8), m ≤ 9 → digs m ++ acc = full → acc.length + m ≤ 4611686018427387904 → ∀ e, Sub e [(0, .int .i64 n), (3, .int .u64 (m : Int)), (4, .str (mkT acc))] → Q (.exit 0) e fs) : ∀ (m : Nat), ∀ (acc : List UInt8), acc.length + m ≤ 4611686018427387904 → digs m ++ acc = full →
    WL S ftab lb9_0 35 [(0, .int .i64 n), (3, .int .u64 (m : Int)), (4, .str (mkT acc))] fs Q := by
  intro m
  induction m using Nat.strongRecOn with
  | _ m ih =>
    intro acc hb hf
    refine l_round ?_
    refine cgo ?_
    refine g_do rfl (o_gtr (xt rfl) xc (fun h => ?_) (fun h => ?_))
    · refine cgo ?_
      refine w_block ?_
      refine cgo ?_
      refine g_do rfl (o_arith (v := .int .u64 ((m % 10 : Nat) : Int)) (xt rfl) xc (by
        show (if (10 : Int) = 0 then none else some (AV.int .u64 (Int.tmod m 10))) = _
        rw [if_neg (by decide), Int.tmod_eq_emod_of_nonneg (by omega), show (m : Int) % 10 = ((m % 10 : Nat) : Int) by omega]) ?_)
      refine cgo ?_
      refine g_do rfl (o_arith (v := .int .u64 ((m % 10 + 1 : Nat) : Int)) (xt rfl) xc (by
        show some (AV.int .u64 (IntKind.wrap .u64 (((m % 10 : Nat) : Int) + 1))) = _
        rw [show (((m % 10 : Nat) : Int) + 1) = ((m % 10 + 1 : Nat) : Int) by omega, wrap_u64 (by omega)]) ?_)
      refine g_do rfl (o_cutlh xc (xt rfl) (xt rfl) ⟨by omega, by omega, ?_⟩ ?_)
      · show ((m % 10 + 1 : Nat) : Int) ≤ ((10 : Nat) : Int)
        omega
      rw [Int.toNat_natCast, Int.toNat_natCast, dig_cut (by omega)]
      refine rgo ?_
      refine g_do rfl (o_cat (xt rfl) (xt rfl) (by rw [mkT_size, mkT_size]; simp; omega) ?_)
      rw [mkT_app]
      refine cgo ?_
      refine g_do rfl (o_arith (v := .int .u64 ((m / 10 : Nat) : Int)) (xt rfl) xc (by
        show (if (10 : Int) = 0 then none else some (AV.int .u64 (IntKind.wrap .u64 (Int.tdiv m 10)))) = _
        rw [if_neg (by decide), Int.tdiv_eq_ediv_of_nonneg (by omega), show (m : Int) / 10 = ((m / 10 : Nat) : Int) by omega, wrap_u64 (by omega)]) ?_)
      refine cgo ?_
      refine l_sub (e' := [(0, .int .i64 n), (3, .int .u64 ((m / 10 : Nat) : Int)), (4, .str (mkT ([UInt8.ofNat (48 + m % 10)] ++ acc)))]) (.cons rfl (.cons rfl (.cons rfl .nil))) (fun _ h => h) ?_
      exact ih (m / 10) (by omega) _ (by simp; omega) (by rw [← List.append_assoc, ← digs_big (by omega)]; exact hf)
    · refine cgo ?_
      exact hQ m acc (by omega) hf hb _ (.cons rfl (.cons rfl (.cons rfl .nil)))
theorem wrap_u64n {n : Int} (h : n < 0) (h2 : -4611686018427387904 ≤ n) : IntKind.wrap .u64 n = n + 18446744073709551616 := by
  show n % 18446744073709551616 = _
  omega
theorem digits_ev (hS : S 9 = none) {n : Int} (hn : n.natAbs ≤ 4611686018427387904) {K : KK} (h : K (.str (mkT (digitsL n))) fs) : Ev S ftab 9 [.int .i64 n] fs K := by
  refine ev_fn (nt := 35) (kb := kb9) (kr := kr9) rfl hS (Nat.le_of_ble_eq_true rfl) ?_
  refine cgo ?_
  refine g_do rfl (o_conv (xt rfl) ?_)
  refine cgo ?_
  have go : ∀ e, Sub e [(0, .int .i64 n), (3, .int .u64 (n.natAbs : Int)), (4, .str (mkT []))] → WC S ftab (kBlock 0 (kLoop lb9_0)) 35 e fs fun ao e' fs' => ao = .normal ∧ fs' = fs ∧ ∃ (m : Nat) (acc : List UInt8), m ≤ 9 ∧ digs m ++ acc = digs n.natAbs ∧ acc.length + m ≤ 4611686018427387904 ∧ Sub e' [(0, .int .i64 n), (3, .int .u64 (m : Int)), (4, .str (mkT acc))] := by
    intro e he
    refine w_sub he (fun _ h => h) ?_
    refine w_block (w_loop ?_)
    refine dig_loop (full := digs n.natAbs) (fun m acc h1 h2 h3 e he => ?_) n.natAbs [] (by simpa using hn) (by simp)
    exact ⟨rfl, rfl, m, acc, h1, h2, h3, he⟩
  refine g_do rfl (o_lss (xt rfl) xc (fun h1 => ?_) (fun h1 => ?_))
  · refine cgo ?_
    refine g_do rfl (o_neg (xt rfl) ?_)
    rw [wrap_u64n h1 (by omega), show (0 : Int) - (n + 18446744073709551616) = -(n + 18446744073709551616) by omega, show IntKind.wrap .u64 (-(n + 18446744073709551616)) = (n.natAbs : Int) by show (-(n + 18446744073709551616)) % 18446744073709551616 = _; omega]
    refine cgo ?_
    refine w_mono (go _ ?_) ?_
    · exact .cons rfl (.cons rfl (.cons rfl .nil))
    rintro o e' _ ⟨rfl, rfl, m, acc, h2, h3, h4, he⟩
    refine w_sub he (fun _ h => h) ?_
    refine cgo ?_
    refine g_do rfl (o_arith (v := .int .u64 ((m + 1 : Nat) : Int)) (xt rfl) xc (by
      show some (AV.int .u64 (IntKind.wrap .u64 ((m : Int) + 1))) = _
      rw [show ((m : Int) + 1) = ((m + 1 : Nat) : Int) by omega, wrap_u64 (by omega)]) ?_)
    refine g_do rfl (o_cutlh xc (xt rfl) (xt rfl) ⟨by omega, by omega, ?_⟩ ?_)
    · show ((m + 1 : Nat) : Int) ≤ ((10 : Nat) : Int)
      omega
    rw [Int.toNat_natCast, Int.toNat_natCast, dig_cut (by omega)]
    refine rgo ?_
    refine g_do rfl (o_cat (xt rfl) (xt rfl) (by rw [mkT_size, mkT_size]; simp; omega) ?_)
    rw [mkT_app, ← digs_small (by omega), h3]
    refine cgo ?_
    refine g_do rfl (o_lss (xt rfl) xc (fun _ => ?_) (fun h => absurd h1 h))
    refine cgo ?_
    have hl : acc.length + 1 = (digs n.natAbs).length := by rw [← h3, digs_small (by omega)]; simp [Nat.add_comm]
    have hz := mkT_size (digs n.natAbs)
    refine g_do rfl (o_cat xc (xt rfl) (by show 1 + (mkT (digs n.natAbs)).size ≤ 9223372036854775807; omega) ?_)
    refine cgo ?_
    refine ⟨trivial, _, _, .one (.tmp rfl), .refl _, ?_⟩
    have : (⟨#[45]⟩ : ByteArray) ++ mkT (digs n.natAbs) = mkT (digitsL n) := by
      unfold digitsL; rw [if_pos h1]; exact mkT_app [45] _
    rw [this]; exact h
  · refine cgo ?_
    rw [show IntKind.wrap .u64 n = (n.natAbs : Int) by rw [show n = (n.natAbs : Int) by omega, wrap_u64 (by omega)]; rfl]
    refine w_mono (go _ ?_) ?_
    · exact .cons rfl (.cons rfl (.cons rfl .nil))
    rintro o e' _ ⟨rfl, rfl, m, acc, h2, h3, h4, he⟩
    refine w_sub he (fun _ h => h) ?_
    refine cgo ?_
    refine g_do rfl (o_arith (v := .int .u64 ((m + 1 : Nat) : Int)) (xt rfl) xc (by
      show some (AV.int .u64 (IntKind.wrap .u64 ((m : Int) + 1))) = _
      rw [show ((m : Int) + 1) = ((m + 1 : Nat) : Int) by omega, wrap_u64 (by omega)]) ?_)
    refine g_do rfl (o_cutlh xc (xt rfl) (xt rfl) ⟨by omega, by omega, ?_⟩ ?_)
    · show ((m + 1 : Nat) : Int) ≤ ((10 : Nat) : Int)
      omega
    rw [Int.toNat_natCast, Int.toNat_natCast, dig_cut (by omega)]
    refine rgo ?_
    refine g_do rfl (o_cat (xt rfl) (xt rfl) (by rw [mkT_size, mkT_size]; simp; omega) ?_)
    rw [mkT_app, ← digs_small (by omega), h3]
    refine cgo ?_
    refine g_do rfl (o_lss (xt rfl) xc (fun h => absurd h h1) (fun _ => ?_))
    refine cgo ?_
    refine ⟨trivial, _, _, .one (.tmp rfl), .refl _, ?_⟩
    have : digitsL n = digs n.natAbs := by unfold digitsL; rw [if_neg h1]
    rw [this] at h; exact h
/-! There and back. -/
theorem numL_app : ∀ (l : List UInt8) (a : Nat) (r : List UInt8), numL (l ++ r) a = (numL l a).bind fun n => numL r n
  | [], a, r => rfl
  | b :: l, a, r => by
    simp only [List.cons_append, numL]
    split
    · rfl
    · split
      · rfl
      · exact numL_app l _ r
theorem digit_nat {d : Nat} (h : d < 10) : (UInt8.ofNat (48 + d)).toNat = 48 + d := by
  rw [UInt8.toNat_ofNat']
  omega
theorem numL_digs : ∀ (m : Nat), m ≤ 4611686018427387904 → numL (digs m) 0 = some m := by
  intro m
  induction m using Nat.strongRecOn with
  | _ m ih =>
    intro hm
    by_cases h : 9 < m
    · rw [digs_big h, numL_app, ih (m / 10) (by omega) (by omega)]
      show numL [_] (m / 10) = _
      simp only [numL]
      rw [digit_nat (by omega), if_neg (by omega), if_neg (by omega)]
      congr 1; omega
    · rw [digs_small h]
      simp only [numL]
      rw [digit_nat (by omega), if_neg (by omega), if_neg (by omega)]
      congr 1; omega
theorem digs_head : ∀ (m : Nat), ∃ d r, digs m = UInt8.ofNat (48 + d) :: r ∧ d < 10 := by
  intro m
  induction m using Nat.strongRecOn with
  | _ m ih =>
    by_cases h : 9 < m
    · obtain ⟨d, r, h1, h2⟩ := ih (m / 10) (by omega)
      rw [digs_big h, h1]
      exact ⟨d, _, rfl, h2⟩
    · rw [digs_small h]
      exact ⟨m, [], rfl, by omega⟩
theorem numM_digs {m : Nat} (hm : m ≤ 4611686018427387904) : numM (mkT (digs m)) = (m, true) := by
  obtain ⟨d, r, h1, _⟩ := digs_head m
  have h0 : ¬ (mkT (digs m)).size = 0 := by rw [mkT_size, h1]; simp
  unfold numM
  rw [if_neg h0]
  show (match numL (digs m) 0 with | some n => (n, true) | none => (0, false)) = _
  rw [numL_digs m hm]
theorem digs_len : ∀ (m : Nat), (digs m).length ≤ m + 1 := by
  intro m
  induction m using Nat.strongRecOn with
  | _ m ih =>
    by_cases h : 9 < m
    · have := ih (m / 10) (by omega)
      rw [digs_big h, List.length_append]
      simp only [List.length_cons, List.length_nil]; omega
    · rw [digs_small h]; simp
theorem digs_short : ∀ (k m : Nat), m < 10 ^ (k + 1) → (digs m).length ≤ k + 1
  | 0, m, h => by rw [digs_small (by omega)]; simp
  | k + 1, m, h => by
    by_cases h1 : 9 < m
    · have := digs_short k (m / 10) (by rw [Nat.pow_succ] at h; omega)
      rw [digs_big h1, List.length_append]
      simp only [List.length_cons, List.length_nil]; omega
    · rw [digs_small h1]; simp
theorem digits_short {n : Int} (hn : n.natAbs ≤ 4611686018427387904) : (mkT (digitsL n)).size ≤ 1000000000 := by
  have := digs_short 19 n.natAbs (by omega)
  rw [mkT_size]
  unfold digitsL
  split
  · rw [List.length_cons]; omega
  · omega
theorem RV.ext {v : AV} {cs : List AV} {n size : Nat} (h : RV [] size v cs n) (fs : List Fact) : RV fs size v cs n := by
  cases h with
  | nil => exact .nil
  | row h1 h2 => cases h1 with
    | frz h1 => exact .row (.frz h1) h2
    | own h1 => cases h1
theorem RI.inv {v : AV} {cs : List AV} {n size : Nat} (h : RI size v cs n) : (v = .nilrow ∧ cs = [] ∧ n = 0) ∨ ∃ s, v = .row cs n s ∧ s.fam = 0 ∧ s.size = size := by
  cases h with
  | nil => exact Or.inl ⟨rfl, rfl, rfl⟩
  | row h1 h2 _ _ _ => exact Or.inr ⟨_, rfl, h1, h2⟩
theorem AR.inv {v : AV} {cs : List AV} {n size : Nat} {fs : List Fact} (h : AR size v cs n fs) : (v = .nilrow ∧ cs = [] ∧ n = 0 ∧ fs = []) ∨ ∃ f id, n ≠ 0 ∧ v = .row cs n ⟨f, id, 0, size⟩ ∧ fs = [.row f id (n * size)] := by
  cases h with
  | nil => exact Or.inl ⟨rfl, rfl, rfl, rfl⟩
  | own h => exact Or.inr ⟨_, _, h, rfl, rfl⟩
/-- A text that may be a value. -/
def Fits (s : ByteArray) : Prop := s.size ≤ 4096 ∧ ∀ b ∈ s.data.toList, b.toNat ≠ 0
theorem sa_loop {e : Nat} {mm mf cv : AV} {rest : List Fact} {T : List ByteArray} (hm : scalar mm = true) (hf : scalar mf = true) (hc : RV [] 1 cv (T.map .str) T.length) (hT : ∀ s ∈ T, Fits s) (hl : T.length ≤ 1000) {Q : AO → Env → List Fact → Prop}
    (hQ : ∀ v fsA e', AR 1 v (T.map .str) T.length fsA → Q (.exit 0) e' (fsA ++ .blk e (.cells [mm, v, mf]) :: rest)) : ∀ (k i : Nat) (v : AV) (fsA : List Fact), i + k = T.length → AR 1 v ((T.take i).map .str) i fsA →
    WL sW ftab lb18_0 33 [(0, .ptr e 0), (13, cv), (14, .int .i64 T.length), (15, .int .i64 (i : Int))] (fsA ++ .blk e (.cells [mm, v, mf]) :: rest) Q
  | 0, i, v, fsA, hi, hA => by
    refine l_round ?_
    refine cgo ?_
    refine g_do rfl (o_lss (xt rfl) (xt rfl) (fun h => by omega) (fun h => ?_))
    refine cgo ?_
    refine hQ _ _ _ ?_
    have : i = T.length := by omega
    subst this
    rw [List.take_length] at hA
    exact hA
  | k + 1, i, v, fsA, hi, hA => by
    refine l_round ?_
    refine cgo ?_
    refine g_do rfl (o_lss (xt rfl) (xt rfl) (fun h => ?_) (fun h => by omega))
    refine cgo ?_
    refine w_block ?_
    obtain ⟨s, hs⟩ : ∃ s, T[i]? = some s := ⟨_, List.getElem?_eq_getElem (by omega)⟩
    have hfit := hT s (List.mem_of_getElem? hs)
    have htake : (T.take (i + 1)).map AV.str = (T.take i).map AV.str ++ [.str s] := by
      rw [List.take_add_one, hs, List.map_append]; rfl
    obtain ⟨sr, rfl, r1, r2⟩ := (hc.ext (fsA ++ .blk e (.cells [mm, v, mf]) :: rest)).some (by omega)
    refine cgo ?_
    refine g_do rfl (o_iaddr (xt rfl) (xt rfl) ⟨by omega, by omega⟩ r2 ?_)
    refine g_do rfl (o_loadr (v := .str s) (xt rfl) r1 (by
      simp only [apart, Nat.mul_one, Int.toNat_natCast, List.getElem?_map, hs]; rfl) ?_)
    refine cgo ?_
    refine g_do rfl (o_call (.cons (xt rfl) .nil) (fits_ev hfit.1 hfit.2 ?_))
    refine cgo ?_
    have next : ∀ e' v' fsB fs2, Sub e' [(0, .ptr e 0), (13, .row (T.map .str) T.length sr), (14, .int .i64 T.length), (15, .int .i64 (i : Int))] → AR 1 v' ((T.take (i + 1)).map .str) (i + 1) fsB → (∀ h, RH h fs2 → RH h (fsB ++ .blk e (.cells [mm, v', mf]) :: rest)) → WC sW ftab (kReg (kDo 32 (oArith .add (xT 15) (xC (AV.int .i64 1))) (kDo 15 (oMove (xT 32)) kEnd))) 33 e' fs2 fun ao e' fs' => match ao with | .normal => WL sW ftab lb18_0 33 e' fs' Q | o => Q o e' fs' := by
      intro e' v' fsB fs2 hsub hB hR
      refine w_sub hsub hR ?_
      refine w_reg ?_
      refine g_do rfl (o_add (xt rfl) xc (by constructor <;> omega) ?_)
      refine rgo ?_
      refine l_sub (e' := [(0, .ptr e 0), (13, .row (T.map .str) T.length sr), (14, .int .i64 T.length), (15, .int .i64 ((i + 1 : Nat) : Int))]) (.cons rfl (.cons rfl (.cons rfl (.cons rfl .nil)))) (fun _ h => h) ?_
      exact sa_loop hm hf hc hT hl hQ k (i + 1) v' fsB (by omega) hB
    rcases hA.inv with ⟨rfl, _, rfl, rfl⟩ | ⟨f, id, hn, rfl, rfl⟩
    ·
      refine cgo ?_
      try refine g_do rfl (o_load (v := .nilrow) (xt rfl) .here rfl ?_)
      refine rgo ?_
      refine g_do rfl (o_row (.cons (xt rfl) .nil) rfl rfl fun f0 id0 => ?_)
      refine g_do rfl (o_appn (xt rfl) (.own (xt rfl) .here rfl) rfl (by decide) ⟨by decide, by decide⟩ fun f id => ?_)
      refine rgo ?_
      refine next _ (.row [.str s] 1 ⟨f, id, 0, 1⟩) [.row f id (1 * 1)] _ ?_ ?_ (fun h hH => hH.mono (.cons_cons _ (.cons _ (.refl _))))
      · exact .cons rfl (.cons rfl (.cons rfl (.cons rfl .nil)))
      · rw [htake]; exact .own (by omega)
    ·
      refine cgo ?_
      try refine g_do rfl (o_load (v := .row ((T.take i).map .str) i ⟨f, id, 0, 1⟩) (xt rfl) (.there .here) rfl ?_)
      refine rgo ?_
      refine g_do rfl (o_row (.cons (xt rfl) .nil) rfl rfl fun f0 id0 => ?_)
      refine g_do rfl (o_appo (fs' := fun id' => .row f0 id0 (1 * 1) :: .row f id' (0 + i * 1 + 1 * 1) :: .blk e (.cells [mm, .row ((T.take i).map .str) i ⟨f, id, 0, 1⟩, mf]) :: rest) (xt rfl) (.own (xt rfl) .here rfl) rfl (by decide) ⟨by omega, by omega⟩ rfl (fun id' => .there .here) fun id' => ?_)
      refine rgo ?_
      refine next _ (.row ((T.take (i + 1)).map .str) (i + 1) ⟨f, id', 0, 1⟩) [.row f id' ((i + 1) * 1)] _ ?_ ?_ (fun h hH => ?_)
      · exact .cons rfl (.cons rfl (.cons rfl (.cons rfl .nil)))
      · exact .own (by omega)
      · have := hH.mono (.cons _ (.refl _))
        rw [show 0 + i * 1 + 1 * 1 = (i + 1) * 1 by omega] at this
        rw [htake]
        exact this
theorem setargs_ev {e : Nat} {mm mf av x : AV} {rest : List Fact} {T : List ByteArray} (hm : scalar mm = true) (hf : scalar mf = true) (ha : RI 1 av (T.map .str) T.length) (hT : ∀ s ∈ T, Fits s) {K : KK} (h : ∀ v fsA, AR 1 v ((T.take 100).map .str) (T.take 100).length fsA → K (.tup []) (fsA ++ .blk e (.cells [mm, v, mf]) :: rest)) : Ev sW ftab 18 [.ptr e 0, av] (.blk e (.cells [mm, x, mf]) :: rest) K := by
  refine ev_fn (nt := 33) (kb := kb18) (kr := kr18) rfl rfl (Nat.le_of_ble_eq_true rfl) ?_
  refine cgo ?_
  refine g_do0 (o_store (cs' := [mm, .nilrow, mf]) (xt rfl) xc .here ⟨rfl, (Nat.le_of_ble_eq_true rfl)⟩ rfl rfl ?_)
  refine cgo ?_
  refine g_do rfl (o_len (xt rfl) ha.rv ?_)
  refine g_do rfl (o_min (xt rfl) xc ?_)
  have hmin : (if (100 : Int) < (T.length : Int) then (100 : Int) else (T.length : Int)) = ((T.take 100).length : Int) := by
    rw [List.length_take]; split <;> omega
  rw [hmin]
  have fin : ∀ cv e', RV [] 1 cv ((T.take 100).map .str) (T.take 100).length → Sub e' [(0, .ptr e 0), (13, cv), (14, .int .i64 (T.take 100).length), (15, .int .i64 ((0 : Nat) : Int))] → WC sW ftab (kBlock 0 (kLoop lb18_0)) 33 e' (.blk e (.cells [mm, .nilrow, mf]) :: rest) fun ao e fs' => (match ao with | .exit _ => False | _ => True) ∧ ∃ v fs2, XRt e fs' kr18 v ∧ fs2.Sublist fs' ∧ K v fs2 := by
    intro cv e' hc hsub
    refine w_sub hsub (fun _ h => h) ?_
    refine w_block (w_loop ?_)
    refine sa_loop (T := T.take 100) hm hf hc (fun s hs => hT s (List.mem_of_mem_take hs)) (by rw [List.length_take]; omega) (fun v fsA e' hA => ?_) (T.take 100).length 0 .nilrow [] (by omega) (by exact .nil)
    exact ⟨trivial, _, _, .one .none, .refl _, h v fsA hA⟩
  have hle : (T.take 100).length ≤ T.length := by rw [List.length_take]; omega
  rcases ha.inv with ⟨rfl, hcs, hn⟩ | ⟨s, rfl, s1, s2⟩
  · have h0 : (T.take 100).length = 0 := by omega
    refine g_do rfl (o_cutn (p := (0, 0)) (xt rfl) .none (.some (xt rfl)) (by rw [h0]; rfl) ?_)
    refine cgo ?_
    have h1 : T.take 100 = [] := List.eq_nil_of_length_eq_zero h0
    refine fin .nilrow _ (by rw [h1]; exact .nil) ?_
    rw [h0]
    exact .cons rfl (.cons rfl (.cons rfl (.cons rfl .nil)))
  ·
    refine g_do rfl (o_cutz (xt rfl) s1 s2 .none (.some (xt rfl)) (bounds_hi ⟨by omega, by omega⟩) ?_)
    have e1 : ((T.map AV.str).drop (0 * 1)).take ((((T.take 100).length : Int).toNat - 0) * 1) = (T.take 100).map .str := by
      rw [Int.toNat_natCast, Nat.zero_mul, List.drop_zero, Nat.sub_zero, Nat.mul_one, List.length_take, ← List.map_take]
      congr 1
      rw [Nat.min_def]
      split
      · rfl
      · rw [List.take_of_length_le (by omega), List.take_of_length_le (by omega)]
    rw [e1, Int.toNat_natCast, Nat.sub_zero]
    refine cgo ?_
    refine fin _ _ (.row (.frz s1) s2) ?_
    exact .cons rfl (.cons rfl (.cons rfl (.cons rfl .nil)))
theorem new_ev {av : AV} {T : List ByteArray} (ha : RI 1 av (T.map .str) T.length) (hT : ∀ s ∈ T, Fits s) {K : KK} (h : ∀ e m f v fsA rest, AR 1 v ((T.take 100).map .str) (T.take 100).length fsA → K (.ptr e 0) (fsA ++ .blk e (.cells [.map m, v, .map f]) :: rest)) : Ev sW ftab 7 [.nilrow, av] fs K := by
  refine ev_fn (nt := 68) (kb := kb7) (kr := kr7) rfl rfl (Nat.le_of_ble_eq_true rfl) ?_
  refine cgo ?_
  refine g_do rfl (o_map fun m => ?_)
  refine g_do0 (o_setn (xt rfl) xc xc rfl rfl .here ?_)
  refine rgo ?_
  refine g_do rfl (o_map fun f => ?_)
  refine g_do rfl (o_build (.cons (xt rfl) (.cons (xt rfl) .nil)) rfl ?_)
  refine g_do rfl (o_box (v := .agg [.map m, .nilrow, .map f]) (xt rfl) rfl fun e => ?_)
  refine cgo ?_
  refine w_block (w_loop (l_round ?_))
  refine cgo ?_
  refine g_do rfl (o_lss (xt rfl) (xt rfl) (fun h1 => by omega) (fun h1 => ?_))
  refine cgo ?_
  refine g_do rfl (o_call (.cons (xt rfl) (.cons (xt rfl) .nil)) (setargs_ev rfl rfl ha hT fun v fsA hA => ?_))
  refine cgo ?_
  exact ⟨trivial, _, _, .one (.tmp rfl), .refl _, h e m f v fsA _ hA⟩
def getT (T : List ByteArray) (n : Nat) : ByteArray × Bool := if 1 ≤ n ∧ n ≤ T.length then (T.getD (n - 1) ⟨#[]⟩, true) else (⟨#[]⟩, false)
theorem get_ev {e n : Nat} {mm mf v : AV} {T : List ByteArray} {nm : ByteArray} (hn : numM nm = (n, true)) (hs : nm.size ≤ 1000000000) (he : Has fs (.blk e (.cells [mm, v, mf]))) (hv : RV fs 1 v (T.map .str) T.length) (hb : n ≤ 1000000) {K : KK} (h : K (.tup [.str (getT T n).1, .bool (getT T n).2]) fs) : Ev sW ftab 14 [.ptr e 0, .str nm] fs K := by
  refine ev_fn (nt := 46) (kb := kb14) (kr := kr14) rfl rfl (Nat.le_of_ble_eq_true rfl) ?_
  unfold getT at h
  have hx : apart [mm, v, mf] 1 none = some v := rfl
  refine cgo ?_
  refine g_do rfl (o_call (.cons (xt rfl) .nil) (number_ev rfl rfl hs ?_))
  rw [hn]
  refine cgo ?_
  refine g_do rfl (o_lss (xt rfl) xc (fun h1 => ?_) (fun h1 => ?_))
  · refine cgo ?_
    rw [if_neg (by omega)] at h
    exact ⟨trivial, _, fs, .tup (.cons (.tmp rfl) (.cons (.tmp rfl) .nil)), .refl _, h⟩
  refine rgo ?_
  try refine g_if rfl ?_
  refine g_do rfl (o_load (v := v) (xt rfl) he hx ?_)
  try refine g_if rfl ?_
  refine g_do rfl (o_len (xt rfl) hv ?_)
  try refine g_if rfl ?_
  refine g_do rfl (o_gtr (xt rfl) (xt rfl) (fun h2 => ?_) (fun h2 => ?_))
  · refine cgo ?_
    rw [if_neg (by omega)] at h
    exact ⟨trivial, _, fs, .tup (.cons (.tmp rfl) (.cons (.tmp rfl) .nil)), .refl _, h⟩
  · refine cgo ?_
    refine g_do rfl (o_load (v := v) (xt rfl) he hx ?_)
    obtain ⟨sr, rfl, r1, r2⟩ := hv.some (by omega)
    refine g_do rfl (o_move (xt rfl) ?_)
    refine g_do rfl (o_sub (xt rfl) xc (by constructor <;> omega) ?_)
    refine g_do rfl (o_iaddr (xt rfl) (xt rfl) ⟨by omega, by omega⟩ r2 ?_)
    refine g_do rfl (o_loadr (v := .str (T.getD (n - 1) ⟨#[]⟩)) (xt rfl) r1 (by
      have e1 : (((n : Int) - 1).toNat * 1) = n - 1 := by omega
      have e2 : T[n - 1]? = some (T.getD (n - 1) ⟨#[]⟩) := by
        rw [List.getD_eq_getElem?_getD, List.getElem?_eq_getElem (by omega)]; rfl
      simp only [apart, e1, List.getElem?_map, e2]; rfl) ?_)
    refine cgo ?_
    rw [if_pos (by omega)] at h
    exact ⟨trivial, _, fs, .tup (.cons (.tmp rfl) (.cons (.tmp rfl) .nil)), .refl _, h⟩
/-- A row's copy is as long. -/
theorem clone1_ev {v : AV} {cs : List AV} {n : Nat} (hv : RV fs 1 v cs n) (h0 : n = 0 → v = .nilrow) (hs : cs.all scalar = true) (hn : n ≤ 1000000) {K : KK} (h : ∀ v' fs', RV fs' 1 v' cs n → K v' fs') : Ev sW ftab 21 [v] fs K := by
  refine ev_fn (nt := 8) (kb := kb21) (kr := kr21) rfl rfl (Nat.le_of_ble_eq_true rfl) ?_
  cases hv with
  | nil =>
    refine cgo ?_
    refine g_do rfl (o_eq (c := true) (xt rfl) xc rfl ?_)
    refine cgo ?_
    exact ⟨trivial, _, fs, .one (.tmp rfl), .refl _, h _ _ .nil⟩
  | row h1 h2 =>
    rename_i s
    have hn0 : n ≠ 0 := fun e => by cases h0 e
    refine cgo ?_
    refine g_do rfl (o_eq (c := false) (xt rfl) xc (by simp only [scalarEq]; rw [if_pos ⟨trivial, fun h => hn0 h.2.1⟩]) ?_)
    refine cgo ?_
    refine g_do rfl (o_row .nil rfl rfl fun f id => ?_)
    refine cgo ?_
    refine g_do rfl (o_appo (fs' := fun id' => .row f id' (0 + 0 * 1 + n * 1) :: fs) (xt rfl) (XR.ofRd (xt rfl) h1.cons h2) hs hn0 ⟨by omega, by omega⟩ rfl (fun _ => .here) fun id' => ?_)
    refine cgo ?_
    refine ⟨trivial, _, _, .one (.tmp rfl), .refl _, ?_⟩
    show K (.row ([] ++ cs) (0 + n) ⟨f, id', 0, 1⟩) _
    rw [List.nil_append, Nat.zero_add n]
    exact h _ _ (.row (.own .here) rfl)
theorem args_ev {e : Nat} {mm mf v : AV} {cs : List AV} {n : Nat} (he : Has fs (.blk e (.cells [mm, v, mf]))) (hv : RV fs 1 v cs n) (h0 : n = 0 → v = .nilrow) (hs : cs.all scalar = true) (hn : n ≤ 1000000) {K : KK} (h : ∀ v' fs', RV fs' 1 v' cs n → K v' fs') : Ev sW ftab 12 [.ptr e 0] fs K := by
  refine ev_fn (nt := 8) (kb := kb12) (kr := kr12) rfl rfl (Nat.le_of_ble_eq_true rfl) ?_
  refine cgo ?_
  refine g_do rfl (o_load (v := v) (xt rfl) he rfl ?_)
  refine g_do rfl (o_call (.cons (xt rfl) .nil) (clone1_ev hv h0 hs hn fun v' fs' hv' => ?_))
  refine cgo ?_
  exact ⟨trivial, _, _, .one (.tmp rfl), .refl _, h _ _ hv'⟩
/-! Are args short? -/
end Go.Proofs.Ytfmhfepcohbbmaa.EvA
