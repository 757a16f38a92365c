/- Walks of layer 10: bytes, tokens, a command's beginning. -/
import Derived.Test.YtadohhhjpbhhoaaEvLh
import Derived.Test.YtadohhhjpbhhoaaEvIx
import Derived.Test.YtadohhhjpbhhoaaEvTb
import Derived.Sort.Walk0
import Derived.KernelRfl
namespace Go.Proofs.Ytadohhhjpbhhoaa.EvA
attribute [local irreducible] oMove oPick oBox oBuild oRow oRowZ oLoad oStore oNil oArith oEq oEqS oShr oShl oNot oNeg oConv oFn oMfn oMin oMax oCutstr oCutrow oFaddr oField oIaddr oIaddrA oIdx oExtract oLenS oLenR oLenM oAppend oCall oCallv oMap oLookup oSet oDelete kDo kDo0 kIf kEl kClr oMake oText kEnd kReg kSeq kCond kBlock kLoop kSkip kExit kRet xT xC xF kFl kIp sDo sDo0 sIf gVal
set_option linter.unusedVariables false
set_option linter.unusedSimpArgs false
set_option maxHeartbeats 4000000
variable {fs fs' : List Fact}
theorem quick_true {S : Sum} {n : Nat} {f : FuncId} {a : List AV} {h : AH} {v : AV} (e : (aevalF S qtab n f a h).map (·.1) = some v) : (aeval S ftab n f a h).map (·.1) = some v := by
  obtain ⟨x, h1, h2⟩ := Option.map_eq_some_iff.1 e
  rw [aevalF_is qtab_ok n f a h x h1]; simpa using h2
noncomputable abbrev sIx : Sum := sumIdx 45
theorem sIx_ok (B : Nat → Prop) (w0 : World) : SumOk Try.prog B w0 sIx := sumIdx_ok Try.func45 (by kernel_rfl) (by kernel_rfl) (by kernel_rfl) (by kernel_rfl) B w0
theorem awakeQ : (aevalF sIx qtab 200 12 [] h0).map (·.1) = some (.bool true) := by kernel_rfl
noncomputable abbrev sW : Sum := sumOr (sumTrue 12) sIx
theorem sW_ok (B : Nat → Prop) (w0 : World) : SumOk Try.prog B w0 sW := sumOr_ok (sumTrue_ok sIx_ok ftab_ok (quick_true awakeQ) B w0) (sIx_ok B w0)
theorem awake_ev {K : KK} (h : K (.bool true) fs) : Ev sW ftab 12 [] fs K := ev_sum (s := fun a h => match a with | [] => some (.bool true, h) | _ => none) rfl fun h0 h2 => ⟨_, h0, fs, h2, h, rfl⟩
theorem ix_ev {s : ByteArray} {b : Nat} (hb : b ≤ 255) {K : KK} (h : K (.int .i64 (idxOf b s.data.toList 0)) fs) : Ev sW ftab 45 [.str s, .int .u8 (b : Int)] fs K :=
  ev_sum (s := idxS) rfl fun h0 h2 => ⟨_, h0, fs, h2, h, by
    show (match Nat.ble b 255 with | true => _ | false => _) = _
    rw [Nat.ble_eq_true_of_le hb]⟩
theorem ix2_ev {s : ByteArray} {b : Nat} (hb : b ≤ 255) {K : KK} (h : K (.int .i64 (idxOf b s.data.toList 0)) fs) : Ev sW ftab 32 [.str s, .int .u8 (b : Int)] fs K := by
  refine ev_fn (nt := 8) (kb := kb32) (kr := kr32) rfl rfl (Nat.le_of_ble_eq_true rfl) ?_
  refine cgo ?_
  refine g_do rfl (o_call (.cons (xt rfl) (.cons (xt rfl) .nil)) (ix_ev hb ?_))
  refine cgo ?_
  exact ⟨trivial, _, fs, .one (.tmp rfl), .refl _, h⟩
theorem ix3_ev {s : ByteArray} {b : Nat} (hb : b ≤ 255) {K : KK} (h : K (.int .i64 (idxOf b s.data.toList 0)) fs) : Ev sW ftab 19 [.str s, .int .u8 (b : Int)] fs K := by
  refine ev_fn (nt := 8) (kb := kb19) (kr := kr19) rfl rfl (Nat.le_of_ble_eq_true rfl) ?_
  refine cgo ?_
  refine g_do rfl (o_call (.cons (xt rfl) (.cons (xt rfl) .nil)) (ix2_ev hb ?_))
  refine cgo ?_
  exact ⟨trivial, _, fs, .one (.tmp rfl), .refl _, h⟩
theorem o_ne1 {S : Sum} {F : FuncId → Option AF} {e : Env} {m : Nat} {x y : AX} {a b : AV} {K : KK} (hx : XV e x a) (hy : XV e y b) (hc : scalarEq m a b = some true) (h : K (.bool false) fs) : WO S F (oEq true m x y) e fs K := o_ne hx hy hc h
theorem o_ne0 {S : Sum} {F : FuncId → Option AF} {e : Env} {m : Nat} {x y : AX} {a b : AV} {K : KK} (hx : XV e x a) (hy : XV e y b) (hc : scalarEq m a b = some false) (h : K (.bool true) fs) : WO S F (oEq true m x y) e fs K := o_ne hx hy hc h
/-- All that goes by itself, and what can be reckoned out. -/
theorem cgg {P R : Prop} (k : R) (h : R → P := by intro k; (repeat (first | (refine g_do rfl ?_; first | refine o_move (xt rfl) ?_ | refine o_move xc ?_ | refine o_move xf ?_ | refine o_faddr (xt rfl) ?_ | refine o_nil (xt rfl) ?_ | refine o_load (xt rfl) (by repeat (first | exact .here | refine .there ?_)) rfl ?_ | refine o_lens (xt rfl) ?_ | refine o_lenr (xt rfl) ?_ | refine o_lenn (xt rfl) ?_ | refine o_pick (b := true) (xt rfl) xc ?_ | refine o_pick (b := true) (xt rfl) (xt rfl) ?_ | refine o_pick (b := false) (xt rfl) xc ?_ | refine o_pick (b := false) (xt rfl) (xt rfl) ?_ | refine o_not (xt rfl) ?_ | refine o_extract (xt rfl) rfl ?_ | refine o_field (xt rfl) rfl ?_ | refine o_build .nil rfl ?_ | refine o_build (.cons xc .nil) rfl ?_ | refine o_build (.cons (xt rfl) .nil) rfl ?_ | refine o_build (.cons (xt rfl) (.cons (xt rfl) .nil)) rfl ?_ | refine o_build (.cons (xt rfl) (.cons (xt rfl) (.cons (xt rfl) .nil))) rfl ?_ | refine o_build (.cons (xt rfl) (.cons xc .nil)) rfl ?_) | refine g_if rfl ?_ | refine g_skip rfl rfl rfl ?_ | refine g_skipn rfl rfl ?_ | refine g_end ?_ | (refine g_do0 ?_; refine o_store (xt rfl) (xt rfl) (by first | exact .here | exact .there .here | exact .there (.there .here) | exact .there (.there (.there .here)) | exact .there (.there (.there (.there .here))) | exact .there (.there (.there (.there (.there .here)))) | exact .there (.there (.there (.there (.there (.there .here)))))) ⟨rfl, (Nat.le_of_ble_eq_true rfl)⟩ rfl rfl ?_) | refine w_rs ?_ | refine w_assoc ?_ | refine w_reg ?_ | refine w_cond (xt rfl) ?_ | refine w_skip ?_ | refine w_seq ?_ | refine w_ret ?_ | refine w_exit ?_ | (refine g_do rfl (o_eq (c := true) (xt rfl) xc rfl ?_)) | (refine g_do rfl (o_eq (c := false) (xt rfl) xc rfl ?_)) | (refine g_do rfl (o_eqs (xt rfl) xc (fun h => absurd h (by decide)) (fun _ => ?_))) | (refine g_do rfl (o_eqs (xt rfl) xc (fun _ => ?_) (fun h => absurd rfl h))) | (refine g_do rfl (o_nes (xt rfl) xc (fun h => absurd h (by decide)) (fun _ => ?_))) | (refine g_do rfl (o_nes (xt rfl) xc (fun _ => ?_) (fun h => absurd rfl h))) | (refine g_do rfl (o_ne1 (xt rfl) xc rfl ?_)) | (refine g_do rfl (o_ne0 (xt rfl) xc rfl ?_)) | (refine g_do rfl (o_arith (v := .bool true) (xt rfl) xc rfl ?_)) | (refine g_do rfl (o_arith (v := .bool false) (xt rfl) xc rfl ?_)))); exact k) : P := h k
abbrev mkT (l : List UInt8) : ByteArray := ⟨l.toArray⟩
theorem mkT_size (l : List UInt8) : (mkT l).size = l.length := by simp [ByteArray.size]
theorem cut_mk (l : List UInt8) (a b : Nat) : (mkT l).extract a b = mkT ((l.drop a).take (b - a)) := by
  apply ByteArray.ext
  rw [ByteArray.data_extract]
  apply Array.ext'
  simp [mkT, List.extract_eq_take_drop]
/-- That many times an x. -/
abbrev xs (n : Nat) : ByteArray := mkT (List.replicate n 120)
theorem xs_size (n : Nat) : (xs n).size = n := by rw [mkT_size, List.length_replicate]
theorem xs_get {n i : Nat} (h : i < n) : (xs n).data.toList[i]? = some 120 := by
  show (List.replicate n (120 : UInt8)).toArray.toList[i]? = _
  rw [List.getElem?_replicate, if_pos h]
theorem xs_cut {n a b : Nat} (h : b ≤ n) : (xs n).extract a b = xs (b - a) := by
  rw [cut_mk, List.drop_replicate, List.take_replicate]
  congr 2
  omega
theorem xs_app (a b : Nat) : xs a ++ xs b = xs (a + b) := by
  apply ByteArray.ext
  show _ = (List.replicate (a + b) (120 : UInt8)).toArray
  rw [← List.replicate_append_replicate]
  simp [mkT]
theorem Ev.perm {S : Sum} {F : FuncId → Option AF} {f : FuncId} {args : List AV} {K : KK} (hp : fs.Perm fs') (h : Ev S F f args fs' K) : Ev S F f args fs K := fun h0 hh => h h0 (hh.perm hp)
theorem Has.same {x : Fact} (h : Has fs x) : Put fs x x fs := by
  induction h with
  | here => exact .here
  | there _ ih => exact .there ih
theorem Put.new {x y : Fact} (h : Put fs x y fs') : Has fs' y := by
  induction h with
  | here => exact .here
  | there _ ih => exact .there ih
theorem g_own {S : Sum} {F : FuncId → Option AF} {L : Nat} {e : Env} {k : KR} {Q : Env → List Fact → Prop} {f id m : Nat} (hh : Has fs (.row f id m)) (h : f ≠ 0 → WG S F k L e fs Q) : WG S F k L e fs Q := fun ts h0 h1 h2 => h (h2.holds _ hh.mem).1 ts h0 h1 h2
theorem swap_eq {s' s : Src} {cs' cs : List AV} {n : Nat} (h : s.fam ≠ 0) : swapV s.id s.pos cs.length s.size s' cs' (.row cs n s) = .row cs' n s' := by
  simp only [swapV]
  rw [if_pos ⟨trivial, trivial, trivial, trivial, h⟩]
theorem o_nebv {S : Sum} {F : FuncId → Option AF} {e : Env} {x y : AX} {a b : Bool} {K : KK} (hx : XV e x (.bool a)) (hy : XV e y (.bool b)) (h : K (.bool (a != b)) fs) : WO S F (oEq true 0 x y) e fs K :=
  o_neb hx hy (fun he => by subst he; simpa using h) (fun hne => by
    have : (a != b) = true := by simp [hne]
    rw [this] at h; exact h)
theorem ends_x {K : KK} (h : K (.bool false) fs) : Ev sW ftab 53 [.int .u8 120] fs K := by
  refine ev_fn (nt := 6) (kb := kb53) (kr := kr53) rfl rfl (Nat.le_of_ble_eq_true rfl) ?_
  refine cgo ?_
  refine g_do rfl (o_call (.cons xc (.cons (xt rfl) .nil)) (ix3_ev (b := 120) (by decide) ?_))
  refine g_do rfl (o_geq (xt rfl) xc (fun h => absurd h (by decide)) (fun _ => ?_))
  refine cgo ?_
  exact ⟨trivial, _, fs, .one (.tmp rfl), .refl _, h⟩
theorem hp_x {k : Nat} {p : ByteArray} {b : UInt8} (hb : p.data.toList[0]? = some b) (hn : b ≠ 120) {K : KK} (h : K (.bool false) fs) : Ev sW ftab 58 [.str (xs k), .str p] fs K := by
  refine ev_fn (nt := 8) (kb := kb58) (kr := kr58) rfl rfl (Nat.le_of_ble_eq_true rfl) ?_
  refine cgo ?_
  refine g_do rfl (o_call (.cons (xt rfl) (.cons (xt rfl) .nil)) (ev_fn (nt := 18) (kb := kb69) (kr := kr69) rfl rfl (Nat.le_of_ble_eq_true rfl) ?_))
  refine cgo ?_
  refine g_do rfl (o_geq (xt rfl) (xt rfl) (fun h1 => ?_) (fun h1 => ?_))
  · rw [xs_size] at h1
    refine cgo ?_
    refine g_do rfl (o_cuth (xt rfl) (xt rfl) ⟨by omega, by rw [xs_size]; omega⟩ ?_)
    rw [Int.toNat_natCast, xs_cut (by omega)]
    refine rgo ?_
    refine g_do rfl (o_eqs (xt rfl) (xt rfl) (fun he => ?_) (fun _ => ?_))
    · exfalso
      rw [← he] at hb
      have h0 : 0 < p.size := by
        rcases Nat.eq_zero_or_pos p.size with h0 | h0
        · rw [show p.size - 0 = 0 by omega] at hb; cases hb
        · exact h0
      rw [xs_get (by omega)] at hb
      exact hn (Option.some.inj hb).symm
    refine cgo ?_
    refine ⟨trivial, _, fs, .one (.tmp rfl), .refl _, ?_⟩
    refine cgo ?_
    exact ⟨trivial, _, fs, .one (.tmp rfl), .refl _, h⟩
  · refine cgo ?_
    refine ⟨trivial, _, fs, .one (.tmp rfl), .refl _, ?_⟩
    refine cgo ?_
    exact ⟨trivial, _, fs, .one (.tmp rfl), .refl _, h⟩
theorem skip_x {n : Nat} (h0 : 0 < n) (hn : n ≤ 20000) {K : KK} (h : K (.int .i64 0) fs) : Ev sW ftab 49 [.str (xs n), .int .i64 0] fs K := by
  have hsz := xs_size n
  refine ev_fn (nt := 53) (kb := kb49) (kr := kr49) rfl rfl (Nat.le_of_ble_eq_true rfl) ?_
  refine cgo ?_
  refine g_do rfl (o_max (xt rfl) xc ?_)
  refine rgo ?_
  refine g_do rfl (o_min (xt rfl) (xt rfl) ?_)
  rw [if_neg (show ¬ (0 : Int) > 0 by omega), if_neg (show ¬ (((xs n).size : Nat) : Int) < 0 by omega)]
  refine cgo ?_
  refine w_block (w_loop (l_round ?_))
  refine cgo ?_
  refine g_do rfl (o_lss (xt rfl) (xt rfl) (fun _ => ?_) (fun h9 => by omega))
  refine cgo ?_
  refine w_block ?_
  refine cgo ?_
  refine w_block ?_
  refine cgo ?_
  refine g_do rfl (o_idx (b := 120) (xt rfl) (xt rfl) (by decide) (xs_get h0) ?_)
  refine cgg ?_
  refine g_do rfl (o_idx (b := 120) (xt rfl) (xt rfl) (by decide) (xs_get h0) ?_)
  refine cgg ?_
  refine g_do rfl (o_cutl (xt rfl) (xt rfl) ⟨by decide, by show ((0 : Nat) : Int) ≤ _; omega⟩ ?_)
  rw [show (0 : Int).toNat = 0 from rfl, hsz, xs_cut (by omega)]
  refine g_do rfl (o_call (.cons (xt rfl) (.cons xc .nil)) (hp_x (b := 92) rfl (by decide) ?_))
  refine cgg ?_
  refine g_do rfl (o_idx (b := 120) (xt rfl) (xt rfl) (by decide) (xs_get h0) ?_)
  refine cgg ?_
  exact ⟨trivial, _, fs, .one (.tmp rfl), .refl _, h⟩
theorem skip_e {n : Nat} (hn : n ≤ 20000) {K : KK} (h : K (.int .i64 (n : Int)) fs) : Ev sW ftab 49 [.str (xs n), .int .i64 (n : Int)] fs K := by
  have hsz := xs_size n
  refine ev_fn (nt := 53) (kb := kb49) (kr := kr49) rfl rfl (Nat.le_of_ble_eq_true rfl) ?_
  refine cgo ?_
  refine g_do rfl (o_max (xt rfl) xc ?_)
  refine rgo ?_
  refine g_do rfl (o_min (xt rfl) (xt rfl) ?_)
  rw [if_neg (show ¬ (0 : Int) > (n : Int) by omega), if_neg (show ¬ (((xs n).size : Nat) : Int) < (n : Int) by omega)]
  refine cgo ?_
  refine w_block (w_loop (l_round ?_))
  refine cgo ?_
  refine g_do rfl (o_lss (xt rfl) (xt rfl) (fun h9 => by omega) (fun _ => ?_))
  refine cgo ?_
  exact ⟨trivial, _, fs, .one (.tmp rfl), .refl _, h⟩
theorem digits_x {n : Nat} (h0 : 0 < n) (hn : n ≤ 20000) {K : KK} (h : K (.int .i64 0) fs) : Ev sW ftab 50 [.str (xs n), .int .i64 0] fs K := by
  have hsz := xs_size n
  refine ev_fn (nt := 31) (kb := kb50) (kr := kr50) rfl rfl (Nat.le_of_ble_eq_true rfl) ?_
  refine cgo ?_
  refine w_block (w_loop (l_round ?_))
  refine cgo ?_
  refine g_do rfl (o_add (xt rfl) (xt rfl) (by constructor <;> decide) ?_)
  rw [show (0 : Int) + 0 = 0 from rfl]
  refine cgo ?_
  refine g_do rfl (o_lss (xt rfl) (xt rfl) (fun _ => ?_) (fun h9 => by omega))
  refine cgo ?_
  refine g_do rfl (o_add (xt rfl) (xt rfl) (by constructor <;> decide) ?_)
  rw [show (0 : Int) + 0 = 0 from rfl]
  refine g_if rfl ?_
  refine g_do rfl (o_idx (b := 120) (xt rfl) (xt rfl) (by decide) (xs_get h0) ?_)
  refine cgg ?_
  refine g_do rfl (o_add (xt rfl) (xt rfl) (by constructor <;> decide) ?_)
  rw [show (0 : Int) + 0 = 0 from rfl]
  refine g_if rfl ?_
  refine g_do rfl (o_idx (b := 120) (xt rfl) (xt rfl) (by decide) (xs_get h0) ?_)
  refine cgg ?_
  exact ⟨trivial, _, fs, .one (.tmp rfl), .refl _, h⟩
def opsL : List ByteArray := [⟨#[59, 59]⟩, ⟨#[38, 38]⟩, ⟨#[124, 124]⟩, ⟨#[62, 62]⟩, ⟨#[60, 60]⟩, ⟨#[60, 38]⟩, ⟨#[62, 38]⟩, ⟨#[60, 62]⟩, ⟨#[62, 124]⟩, ⟨#[59]⟩, ⟨#[124]⟩, ⟨#[38]⟩, ⟨#[40]⟩, ⟨#[41]⟩, ⟨#[60]⟩, ⟨#[62]⟩, ⟨#[10]⟩]
theorem ops_ev {K : KK} (h : ∀ f id, K (.row (opsL.map .str) 17 ⟨f, id, 0, 1⟩) (.row f id (17 * 1) :: fs)) : Ev sW ftab 67 [] fs K := by
  refine ev_fn (nt := 2) (kb := kb67) (kr := kr67) rfl rfl (Nat.le_of_ble_eq_true rfl) ?_
  refine cgo ?_
  refine g_do rfl (o_row (cs := opsL.map .str) (.cons xc (.cons xc (.cons xc (.cons xc (.cons xc (.cons xc (.cons xc (.cons xc (.cons xc (.cons xc (.cons xc (.cons xc (.cons xc (.cons xc (.cons xc (.cons xc (.cons xc .nil))))))))))))))))) rfl rfl fun f id => ?_)
  refine cgo ?_
  exact ⟨trivial, _, _, .one (.tmp rfl), .refl _, h f id⟩
theorem ops_first : ∀ i, i < 17 → ∃ (p : ByteArray) (b : UInt8), opsL[i]? = some p ∧ p.data.toList[0]? = some b ∧ b ≠ 120 := by
  intro i hi
  match i, hi with
  | 0, _ => exact ⟨_, _, rfl, rfl, by decide⟩
  | 1, _ => exact ⟨_, _, rfl, rfl, by decide⟩
  | 2, _ => exact ⟨_, _, rfl, rfl, by decide⟩
  | 3, _ => exact ⟨_, _, rfl, rfl, by decide⟩
  | 4, _ => exact ⟨_, _, rfl, rfl, by decide⟩
  | 5, _ => exact ⟨_, _, rfl, rfl, by decide⟩
  | 6, _ => exact ⟨_, _, rfl, rfl, by decide⟩
  | 7, _ => exact ⟨_, _, rfl, rfl, by decide⟩
  | 8, _ => exact ⟨_, _, rfl, rfl, by decide⟩
  | 9, _ => exact ⟨_, _, rfl, rfl, by decide⟩
  | 10, _ => exact ⟨_, _, rfl, rfl, by decide⟩
  | 11, _ => exact ⟨_, _, rfl, rfl, by decide⟩
  | 12, _ => exact ⟨_, _, rfl, rfl, by decide⟩
  | 13, _ => exact ⟨_, _, rfl, rfl, by decide⟩
  | 14, _ => exact ⟨_, _, rfl, rfl, by decide⟩
  | 15, _ => exact ⟨_, _, rfl, rfl, by decide⟩
  | 16, _ => exact ⟨_, _, rfl, rfl, by decide⟩
  | n + 17, h => exact absurd h (by omega)
theorem op_loop {n f id : Nat} (h0 : 0 < n) (hn : n ≤ 20000) {Q : AO → Env → List Fact → Prop} (hQ : ∀ e, Q (.exit 0) e (.row f id (17 * 1) :: fs)) : ∀ (r i : Nat), i + r = 17 →
    WL sW ftab lb51_0 29 [(0, .str (xs n)), (1, .int .i64 0), (16, .row (opsL.map .str) 17 ⟨f, id, 0, 1⟩), (17, .int .i64 ((17 : Nat) : Int)), (18, .int .i64 (i : Int))] (.row f id (17 * 1) :: fs) Q
  | 0, i, hi => by
    refine l_round ?_
    refine cgo ?_
    refine g_do rfl (o_lss (xt rfl) (xt rfl) (fun h => by omega) (fun h => ?_))
    refine cgo ?_
    exact hQ _
  | r + 1, i, hi => by
    obtain ⟨p, b, h1, h2, h3⟩ := ops_first i (by omega)
    have hsz := xs_size n
    refine l_round ?_
    refine cgo ?_
    refine g_do rfl (o_lss (xt rfl) (xt rfl) (fun h => ?_) (fun h => by omega))
    refine cgo ?_
    refine w_block ?_
    refine cgo ?_
    refine g_do rfl (o_iaddr (xt rfl) (xt rfl) ⟨by omega, by omega⟩ rfl ?_)
    refine g_do rfl (o_loadr (v := .str p) (xt rfl) (.own .here) ?_ ?_)
    · simp only [apart]
      rw [show ((i : Nat) : Int).toNat * 1 = i by omega, List.getElem?_map, h1]; rfl
    refine cgo ?_
    refine g_do rfl (o_cutl (xt rfl) (xt rfl) ⟨by decide, by show ((0 : Nat) : Int) ≤ _; omega⟩ ?_)
    rw [show (0 : Int).toNat = 0 from rfl, hsz, xs_cut (by omega)]
    refine rgo ?_
    refine g_do rfl (o_call (.cons (xt rfl) (.cons (xt rfl) .nil)) (hp_x h2 h3 ?_))
    refine cgo ?_
    refine g_do rfl (o_add (xt rfl) xc (by constructor <;> omega) ?_)
    refine cgo ?_
    refine l_sub (e' := [(0, .str (xs n)), (1, .int .i64 0), (16, .row (opsL.map .str) 17 ⟨f, id, 0, 1⟩), (17, .int .i64 ((17 : Nat) : Int)), (18, .int .i64 ((i + 1 : Nat) : Int))]) (.cons rfl (.cons rfl (.cons rfl (.cons rfl (.cons rfl .nil))))) (fun _ h => h) ?_
    exact op_loop h0 hn hQ r (i + 1) (by omega)
theorem op_x {n : Nat} (h0 : 0 < n) (hn : n ≤ 20000) {K : KK} (h : K (.tup [.str ⟨#[]⟩, .bool false]) fs) : Ev sW ftab 51 [.str (xs n), .int .i64 0] fs K := by
  have hsz := xs_size n
  refine ev_fn (nt := 29) (kb := kb51) (kr := kr51) rfl rfl (Nat.le_of_ble_eq_true rfl) ?_
  refine cgg ?_
  refine g_do rfl (o_geq (xt rfl) (xt rfl) (fun h9 => by omega) (fun _ => ?_))
  refine cgo ?_
  refine g_do rfl (o_call .nil (ops_ev fun f id => ?_))
  refine cgo ?_
  refine w_block (w_loop ?_)
  refine l_sub (e' := [(0, .str (xs n)), (1, .int .i64 0), (16, .row (opsL.map .str) 17 ⟨f, id, 0, 1⟩), (17, .int .i64 ((17 : Nat) : Int)), (18, .int .i64 ((0 : Nat) : Int))]) (.cons rfl (.cons rfl (.cons rfl (.cons rfl (.cons rfl .nil))))) (fun _ h => h) ?_
  refine op_loop h0 hn (fun e => ?_) 17 0 rfl
  refine cgo ?_
  exact ⟨trivial, _, fs, .tup (.cons (.tmp rfl) (.cons (.tmp rfl) .nil)), .cons _ (.refl _), h⟩
/-! A reader; its tokens. -/
abbrev pB (n : Nat) (at_ dp : Int) (tok : AV) (st : Bool) : List AV := [.str (xs n), .int .i64 at_, .int .i64 dp, tok, .int .i64 0, .int .i64 0, .bool st]
abbrev tW (n : Nat) : List AV := [.int .i64 2, .int .i64 0, .int .i64 0, .str ⟨#[]⟩, .int .i64 0, .int .i64 0, .str (xs n)]
abbrev tE (n : Nat) : List AV := [.int .i64 0, .int .i64 (n : Int), .int .i64 (n : Int), .str ⟨#[]⟩, .int .i64 0, .int .i64 0, .str ⟨#[]⟩]
theorem read_loop {n p : Nat} {a dp : Int} {tok : AV} {st : Bool} (hn : n ≤ 20000) (hp : Has fs (.blk p (.cells (pB n a dp tok st)))) {x : AV} {Q : AO → Env → List Fact → Prop} (hQ : ∀ e, Sub e [(0, .ptr p 0), (2, x), (3, .int .i64 0), (7, .int .i64 (n : Int))] → Q (.exit 0) e fs) : ∀ (r i : Nat), i + r = n →
    WL sW ftab lb36_0 107 [(0, .ptr p 0), (2, x), (3, .int .i64 0), (7, .int .i64 (i : Int))] fs Q
  | 0, i, hi => by
    have hsz := xs_size n
    refine l_round ?_
    refine cgo ?_
    refine g_do rfl (o_load (xt rfl) hp rfl ?_)
    refine cgo ?_
    refine g_do rfl (o_lss (xt rfl) (xt rfl) (fun h => by omega) (fun h => ?_))
    refine cgo ?_
    obtain rfl : i = n := by omega
    exact hQ _ (.cons rfl (.cons rfl (.cons rfl (.cons rfl .nil))))
  | r + 1, i, hi => by
    have hsz := xs_size n
    refine l_round ?_
    refine cgo ?_
    refine g_do rfl (o_load (xt rfl) hp rfl ?_)
    refine cgo ?_
    refine g_do rfl (o_lss (xt rfl) (xt rfl) (fun h => ?_) (fun h => by omega))
    refine cgo ?_
    refine g_do rfl (o_load (xt rfl) hp rfl ?_)
    refine cgo ?_
    refine g_do rfl (o_idx (b := 120) (xt rfl) (xt rfl) (by omega) (by rw [Int.toNat_natCast]; exact xs_get (by omega)) ?_)
    refine g_if rfl ?_
    refine g_do rfl (o_call (.cons (xt rfl) .nil) (ends_x ?_))
    refine cgo ?_
    refine w_block ?_
    refine cgo ?_
    refine g_do rfl (o_add (xt rfl) xc (by constructor <;> omega) ?_)
    refine cgo ?_
    refine l_sub (e' := [(0, .ptr p 0), (2, x), (3, .int .i64 0), (7, .int .i64 ((i + 1 : Nat) : Int))]) (.cons rfl (.cons rfl (.cons rfl (.cons rfl .nil)))) (fun _ h => h) ?_
    exact read_loop hn hp hQ r (i + 1) (by omega)
theorem read0 {n p : Nat} {dp : Int} {tok : AV} {st : Bool} (h0 : 0 < n) (hn : n ≤ 20000) (hp : Has fs (.blk p (.cells (pB n 0 dp tok st)))) {K : KK} (h : K (.agg (tW n)) fs) : Ev sW ftab 36 [.ptr p 0] fs K := by
  have hsz := xs_size n
  refine ev_fn (nt := 107) (kb := kb36) (kr := kr36) rfl rfl (Nat.le_of_ble_eq_true rfl) ?_
  refine cgo ?_
  refine g_do rfl (o_box xc rfl fun x2 => ?_)
  refine cgo ?_
  refine g_do rfl (o_load (xt rfl) (.there hp) rfl ?_)
  refine cgo ?_
  refine g_do rfl (o_load (xt rfl) (.there hp) rfl ?_)
  refine g_do rfl (o_call (.cons (xt rfl) (.cons (xt rfl) .nil)) (skip_x h0 hn ?_))
  refine cgo ?_
  refine g_do0 (o_store (xt rfl) (xt rfl) (.there hp.same) ⟨rfl, (Nat.le_of_ble_eq_true rfl)⟩ rfl rfl ?_)
  refine cgo ?_
  refine g_do rfl (o_load (xt rfl) (.there hp) rfl ?_)
  refine cgo ?_
  refine g_do rfl (o_load (xt rfl) (.there hp) rfl ?_)
  refine cgg ?_
  refine g_do rfl (o_load (xt rfl) (.there hp) rfl ?_)
  refine cgo ?_
  refine g_do rfl (o_geq (xt rfl) (xt rfl) (fun h9 => by omega) (fun _ => ?_))
  refine cgo ?_
  refine g_do rfl (o_load (xt rfl) (.there hp) rfl ?_)
  refine cgo ?_
  refine g_do rfl (o_call (.cons (xt rfl) (.cons (xt rfl) .nil)) (digits_x h0 hn ?_))
  refine cgo ?_
  refine g_do rfl (o_load (xt rfl) (.there hp) rfl ?_)
  refine cgo ?_
  refine g_do rfl (o_add (xt rfl) (xt rfl) (by constructor <;> decide) ?_)
  rw [show (0 : Int) + 0 = 0 from rfl]
  refine g_do rfl (o_call (.cons (xt rfl) (.cons (xt rfl) .nil)) (op_x h0 hn ?_))
  refine cgo ?_
  refine w_block (w_loop ?_)
  refine l_sub (e' := [(0, .ptr p 0), (2, .ptr x2 0), (3, .int .i64 0), (7, .int .i64 ((0 : Nat) : Int))]) (fs' := .blk x2 (.cells [.int .i64 0, .int .i64 0, .int .i64 0, .str ⟨#[]⟩, .int .i64 0, .int .i64 0, .str ⟨#[]⟩]) :: fs) (.cons rfl (.cons rfl (.cons rfl (.cons rfl .nil)))) (fun _ h => h) ?_
  refine read_loop hn (.there hp) (fun e hS => ?_) n 0 (by omega)
  refine w_sub hS (fun _ h => h) ?_
  refine cgo ?_
  refine g_do rfl (o_load (xt rfl) (.there hp) rfl ?_)
  refine cgo ?_
  refine g_do rfl (o_cutlh (xt rfl) (xt rfl) (xt rfl) ⟨by omega, by omega, by rw [hsz]; omega⟩ ?_)
  rw [show (0 : Int).toNat = 0 from rfl, Int.toNat_natCast, xs_cut (by omega), Nat.sub_zero]
  refine cgo ?_
  refine g_do rfl (o_build (.cons xc (.cons (xt rfl) (.cons (xt rfl) .nil))) rfl ?_)
  refine cgo ?_
  exact ⟨trivial, _, fs, .one (.cell rfl .here rfl), .cons _ (.refl _), h⟩
theorem readn {n p : Nat} {dp : Int} {tok : AV} {st : Bool} (hn : n ≤ 20000) (hp : Has fs (.blk p (.cells (pB n n dp tok st)))) {K : KK} (h : K (.agg (tE n)) fs) : Ev sW ftab 36 [.ptr p 0] fs K := by
  have hsz := xs_size n
  refine ev_fn (nt := 107) (kb := kb36) (kr := kr36) rfl rfl (Nat.le_of_ble_eq_true rfl) ?_
  refine cgo ?_
  refine g_do rfl (o_box xc rfl fun x2 => ?_)
  refine cgo ?_
  refine g_do rfl (o_load (xt rfl) (.there hp) rfl ?_)
  refine cgo ?_
  refine g_do rfl (o_load (xt rfl) (.there hp) rfl ?_)
  refine g_do rfl (o_call (.cons (xt rfl) (.cons (xt rfl) .nil)) (skip_e hn ?_))
  refine cgo ?_
  refine g_do0 (o_store (xt rfl) (xt rfl) (.there hp.same) ⟨rfl, (Nat.le_of_ble_eq_true rfl)⟩ rfl rfl ?_)
  refine cgo ?_
  refine g_do rfl (o_load (xt rfl) (.there hp) rfl ?_)
  refine cgo ?_
  refine g_do rfl (o_load (xt rfl) (.there hp) rfl ?_)
  refine cgg ?_
  refine g_do rfl (o_load (xt rfl) (.there hp) rfl ?_)
  refine cgo ?_
  refine g_do rfl (o_geq (xt rfl) (xt rfl) (fun _ => ?_) (fun h9 => by omega))
  refine cgo ?_
  refine g_do rfl (o_build (.cons xc (.cons (xt rfl) (.cons (xt rfl) .nil))) rfl ?_)
  refine cgo ?_
  exact ⟨trivial, _, fs, .one (.cell rfl .here rfl), .cons _ (.refl _), h⟩
/-! A token that was read stays. -/
theorem peekT {n p k : Nat} {a dp : Int} {st : Bool} {t1 t2 t3 t4 t5 t6 t7 : AV} (hp : Has fs (.blk p (.cells (pB n a dp (.ptr k 0) st)))) (hk : Has fs (.blk k (.cells [t1, t2, t3, t4, t5, t6, t7]))) (hs : [t1, t2, t3, t4, t5, t6, t7].all scalar = true) {K : KK} (h : K (.agg [t1, t2, t3, t4, t5, t6, t7]) fs) : Ev sW ftab 21 [.ptr p 0] fs K := by
  refine ev_fn (nt := 20) (kb := kb21) (kr := kr21) rfl rfl (Nat.le_of_ble_eq_true rfl) ?_
  refine cgo ?_
  refine g_do rfl (o_box xc rfl fun x2 => ?_)
  refine cgo ?_
  refine g_do rfl (o_load (xt rfl) (.there hp) rfl ?_)
  refine cgg ?_
  refine g_do rfl (o_load (xt rfl) (.there hp) rfl ?_)
  refine cgo ?_
  refine g_do rfl (o_load (xt rfl) (.there hk) rfl ?_)
  refine g_do0 (o_store (xt rfl) (xt rfl) .here ⟨rfl, (Nat.le_of_ble_eq_true rfl)⟩ hs rfl ?_)
  refine cgo ?_
  exact ⟨trivial, _, fs, .one (.cell rfl .here rfl), .cons _ (.refl _), h⟩
theorem peek0 {n p : Nat} {dp : Int} {st : Bool} {fs' : Nat → List Fact} (h0 : 0 < n) (hn : n ≤ 20000) (hp : ∀ k, Put fs (.blk p (.cells (pB n 0 dp .nilptr st))) (.blk p (.cells (pB n 0 dp (.ptr k 0) st))) (fs' k)) {K : KK} (h : ∀ k, K (.agg (tW n)) (.blk k (.cells (tW n)) :: fs' k)) : Ev sW ftab 21 [.ptr p 0] fs K := by
  refine ev_fn (nt := 20) (kb := kb21) (kr := kr21) rfl rfl (Nat.le_of_ble_eq_true rfl) ?_
  refine cgo ?_
  refine g_do rfl (o_box xc rfl fun x2 => ?_)
  refine cgo ?_
  refine g_do rfl (o_load (xt rfl) (.there (hp 0).has) rfl ?_)
  refine cgg ?_
  refine g_do rfl (o_call (.cons (xt rfl) .nil) (read0 h0 hn (.there (hp 0).has) ?_))
  refine g_do rfl (o_box xc rfl fun k => ?_)
  refine cgo ?_
  refine g_do0 (o_store (xt rfl) (xt rfl) (.there (.there (hp k))) ⟨rfl, (Nat.le_of_ble_eq_true rfl)⟩ rfl rfl ?_)
  refine cgo ?_
  refine g_do rfl (o_load (xt rfl) (.there (.there (hp k).new)) rfl ?_)
  refine cgo ?_
  exact ⟨trivial, _, .blk k (.cells (tW n)) :: fs' k, .one (.cell rfl (.there .here) rfl), .cons_cons _ (.cons _ (.refl _)), h k⟩
theorem peekn {n p : Nat} {dp : Int} {st : Bool} {fs' : Nat → List Fact} (hn : n ≤ 20000) (hp : ∀ k, Put fs (.blk p (.cells (pB n n dp .nilptr st))) (.blk p (.cells (pB n n dp (.ptr k 0) st))) (fs' k)) {K : KK} (h : ∀ k, K (.agg (tE n)) (.blk k (.cells (tE n)) :: fs' k)) : Ev sW ftab 21 [.ptr p 0] fs K := by
  refine ev_fn (nt := 20) (kb := kb21) (kr := kr21) rfl rfl (Nat.le_of_ble_eq_true rfl) ?_
  refine cgo ?_
  refine g_do rfl (o_box xc rfl fun x2 => ?_)
  refine cgo ?_
  refine g_do rfl (o_load (xt rfl) (.there (hp 0).has) rfl ?_)
  refine cgg ?_
  refine g_do rfl (o_call (.cons (xt rfl) .nil) (readn hn (.there (hp 0).has) ?_))
  refine g_do rfl (o_box xc rfl fun k => ?_)
  refine cgo ?_
  refine g_do0 (o_store (xt rfl) (xt rfl) (.there (.there (hp k))) ⟨rfl, (Nat.le_of_ble_eq_true rfl)⟩ rfl rfl ?_)
  refine cgo ?_
  refine g_do rfl (o_load (xt rfl) (.there (.there (hp k).new)) rfl ?_)
  refine cgo ?_
  exact ⟨trivial, _, .blk k (.cells (tE n)) :: fs' k, .one (.cell rfl (.there .here) rfl), .cons_cons _ (.cons _ (.refl _)), h k⟩
/-! No operator stands next. -/
theorem opW {n p k : Nat} {a dp : Int} {st : Bool} {s : ByteArray} (hp : Has fs (.blk p (.cells (pB n a dp (.ptr k 0) st)))) (hk : Has fs (.blk k (.cells (tW n)))) {K : KK} (h : K (.bool false) fs) : Ev sW ftab 46 [.ptr p 0, .str s] fs K := by
  refine ev_fn (nt := 26) (kb := kb46) (kr := kr46) rfl rfl (Nat.le_of_ble_eq_true rfl) ?_
  refine cgo ?_
  refine g_do rfl (o_call (.cons (xt rfl) .nil) (peekT hp hk rfl ?_))
  refine g_do rfl (o_box xc rfl fun x5 => ?_)
  refine cgo ?_
  refine g_do rfl (o_load (xt rfl) (.there hp) rfl ?_)
  refine cgg ?_
  exact ⟨trivial, _, fs, .one (.tmp rfl), .cons _ (.refl _), h⟩
theorem opE {n p k : Nat} {a dp : Int} {st : Bool} {s : ByteArray} (hp : Has fs (.blk p (.cells (pB n a dp (.ptr k 0) st)))) (hk : Has fs (.blk k (.cells (tE n)))) {K : KK} (h : K (.bool false) fs) : Ev sW ftab 46 [.ptr p 0, .str s] fs K := by
  refine ev_fn (nt := 26) (kb := kb46) (kr := kr46) rfl rfl (Nat.le_of_ble_eq_true rfl) ?_
  refine cgo ?_
  refine g_do rfl (o_call (.cons (xt rfl) .nil) (peekT hp hk rfl ?_))
  refine g_do rfl (o_box xc rfl fun x5 => ?_)
  refine cgo ?_
  refine g_do rfl (o_load (xt rfl) (.there hp) rfl ?_)
  refine cgg ?_
  exact ⟨trivial, _, fs, .one (.tmp rfl), .cons _ (.refl _), h⟩
theorem op0 {n p : Nat} {dp : Int} {st : Bool} {s : ByteArray} {fs' : Nat → List Fact} (h0 : 0 < n) (hn : n ≤ 20000) (hp : ∀ k, Put fs (.blk p (.cells (pB n 0 dp .nilptr st))) (.blk p (.cells (pB n 0 dp (.ptr k 0) st))) (fs' k)) {K : KK} (h : ∀ k, K (.bool false) (.blk k (.cells (tW n)) :: fs' k)) : Ev sW ftab 46 [.ptr p 0, .str s] fs K := by
  refine ev_fn (nt := 26) (kb := kb46) (kr := kr46) rfl rfl (Nat.le_of_ble_eq_true rfl) ?_
  refine cgo ?_
  refine g_do rfl (o_call (.cons (xt rfl) .nil) (peek0 h0 hn hp fun k => ?_))
  refine g_do rfl (o_box xc rfl fun x5 => ?_)
  refine cgo ?_
  refine g_do rfl (o_load (xt rfl) (.there (.there (hp k).new)) rfl ?_)
  refine cgg ?_
  exact ⟨trivial, _, _, .one (.tmp rfl), .cons _ (.refl _), h k⟩
theorem opn {n p : Nat} {dp : Int} {st : Bool} {s : ByteArray} {fs' : Nat → List Fact} (hn : n ≤ 20000) (hp : ∀ k, Put fs (.blk p (.cells (pB n n dp .nilptr st))) (.blk p (.cells (pB n n dp (.ptr k 0) st))) (fs' k)) {K : KK} (h : ∀ k, K (.bool false) (.blk k (.cells (tE n)) :: fs' k)) : Ev sW ftab 46 [.ptr p 0, .str s] fs K := by
  refine ev_fn (nt := 26) (kb := kb46) (kr := kr46) rfl rfl (Nat.le_of_ble_eq_true rfl) ?_
  refine cgo ?_
  refine g_do rfl (o_call (.cons (xt rfl) .nil) (peekn hn hp fun k => ?_))
  refine g_do rfl (o_box xc rfl fun x5 => ?_)
  refine cgo ?_
  refine g_do rfl (o_load (xt rfl) (.there (.there (hp k).new)) rfl ?_)
  refine cgg ?_
  exact ⟨trivial, _, _, .one (.tmp rfl), .cons _ (.refl _), h k⟩
theorem start0 {n p : Nat} {dp : Int} {st : Bool} {fs1 : List Fact} {fs' : Nat → List Fact} (h0 : 0 < n) (hn : n ≤ 20000) (hp : Put fs (.blk p (.cells (pB n 0 dp .nilptr st))) (.blk p (.cells (pB n 0 dp .nilptr true))) fs1) (hq : ∀ k, Put fs1 (.blk p (.cells (pB n 0 dp .nilptr true))) (.blk p (.cells (pB n 0 dp (.ptr k 0) true))) (fs' k)) {K : KK} (h : ∀ k, K (.tup []) (.blk k (.cells (tW n)) :: fs' k)) : Ev sW ftab 33 [.ptr p 0] fs K := by
  refine ev_fn (nt := 10) (kb := kb33) (kr := kr33) rfl rfl (Nat.le_of_ble_eq_true rfl) ?_
  refine cgo ?_
  refine g_do0 (o_store (xt rfl) xc hp ⟨rfl, (Nat.le_of_ble_eq_true rfl)⟩ rfl rfl ?_)
  refine cgo ?_
  refine w_block (w_loop (l_round ?_))
  refine cgo ?_
  refine g_do rfl (o_call (.cons (xt rfl) (.cons xc .nil)) (op0 h0 hn hq fun k => ?_))
  refine cgo ?_
  exact ⟨trivial, _, _, .one .none, .refl _, h k⟩
theorem startW {n p k : Nat} {a dp : Int} {st : Bool} (hp : Put fs (.blk p (.cells (pB n a dp (.ptr k 0) st))) (.blk p (.cells (pB n a dp (.ptr k 0) true))) fs') (hk : Has fs' (.blk k (.cells (tW n)))) {K : KK} (h : K (.tup []) fs') : Ev sW ftab 33 [.ptr p 0] fs K := by
  refine ev_fn (nt := 10) (kb := kb33) (kr := kr33) rfl rfl (Nat.le_of_ble_eq_true rfl) ?_
  refine cgo ?_
  refine g_do0 (o_store (xt rfl) xc hp ⟨rfl, (Nat.le_of_ble_eq_true rfl)⟩ rfl rfl ?_)
  refine cgo ?_
  refine w_block (w_loop (l_round ?_))
  refine cgo ?_
  refine g_do rfl (o_call (.cons (xt rfl) (.cons xc .nil)) (opW hp.new hk ?_))
  refine cgo ?_
  exact ⟨trivial, _, _, .one .none, .refl _, h⟩
theorem index_loop {v : AV} {T : List ByteArray} {s : ByteArray} (hv : RV fs 1 v (T.map .str) T.length) (hT : T.length ≤ 1000000) {Q : AO → Env → List Fact → Prop} (hf : s ∉ T → ∀ e, Q (.exit 0) e fs) (ht : ∀ i : Nat, s ∈ T → ∀ e, Sub e [(4, .int .i64 i)] → Q .ret e fs) :
    ∀ (l : List ByteArray) (n : Nat), T.drop n = l → n ≤ T.length → s ∉ T.take n → WL sW ftab lb85_0 19 [(0, v), (1, .str s), (7, .int .i64 T.length), (8, .int .i64 n)] fs Q
  | [], n, hl, hn, hp => by
    have hge : T.length ≤ n := List.drop_eq_nil_iff.1 hl
    refine l_round ?_
    refine cgo ?_
    refine g_do rfl (o_lss (xt rfl) (xt rfl) (fun h => by omega) (fun h => ?_))
    refine cgo ?_
    exact hf (by rw [List.take_of_length_le hge] at hp; exact hp) _
  | t :: l, n, hl, hn, hp => by
    have h1 : T[n]? = some t := by
      have := congrArg List.head? hl
      rw [List.head?_drop] at this; simpa using this
    have h2 : T.drop (n + 1) = l := by
      have := congrArg List.tail hl
      simpa using this
    have h3 : n < T.length := (List.getElem?_eq_some_iff.1 h1).1
    obtain ⟨sr, rfl, hrd, hz⟩ := hv.some (by omega)
    refine l_round ?_
    refine cgo ?_
    refine g_do rfl (o_lss (xt rfl) (xt rfl) (fun h => ?_) (fun h => by omega))
    refine cgo ?_
    refine w_block ?_
    refine cgo ?_
    refine g_do rfl (o_iaddr (xt rfl) (xt rfl) ⟨by omega, by omega⟩ hz ?_)
    refine g_do rfl (o_loadr (v := .str t) (xt rfl) hrd ?_ ?_)
    · simp only [apart]
      rw [show ((n : Nat) : Int).toNat * 1 = n by omega, List.getElem?_map, h1]; rfl
    refine g_do rfl (o_eqs (xt rfl) (xt rfl) (fun hb => ?_) (fun hb => ?_))
    · refine cgo ?_
      exact ht n (hb ▸ List.mem_of_getElem? h1) _ (.cons rfl .nil)
    · refine cgo ?_
      refine g_do rfl (o_add (xt rfl) xc (by constructor <;> omega) ?_)
      refine cgo ?_
      refine l_sub (e' := [(0, .row (T.map .str) T.length sr), (1, .str s), (7, .int .i64 T.length), (8, .int .i64 ((n + 1 : Nat) : Int))]) (.cons rfl (.cons rfl (.cons rfl (.cons rfl .nil)))) (fun _ h => h) ?_
      refine index_loop hv hT hf ht l (n + 1) h2 (by omega) ?_
      rw [List.take_add_one, h1]
      simp only [Option.toList_some, List.mem_append, List.mem_singleton]
      rintro (h | h)
      · exact hp h
      · exact hb h
theorem contains_ev {v : AV} {T : List ByteArray} {s : ByteArray} (hv : RV fs 1 v (T.map .str) T.length) (hT : T.length ≤ 1000000) {K : KK} (ht : s ∈ T → K (.bool true) fs) (hf : s ∉ T → K (.bool false) fs) : Ev sW ftab 76 [v, .str s] fs K := by
  refine ev_fn (nt := 9) (kb := kb76) (kr := kr76) rfl rfl (Nat.le_of_ble_eq_true rfl) ?_
  refine cgo ?_
  refine g_do rfl (o_call (.cons (xt rfl) (.cons (xt rfl) .nil)) (ev_fn (nt := 19) (kb := kb85) (kr := kr85) rfl rfl (Nat.le_of_ble_eq_true rfl) ?_))
  refine cgo ?_
  refine g_do rfl (o_len (xt rfl) hv ?_)
  refine cgo ?_
  refine w_block (w_loop ?_)
  refine l_sub (e' := [(0, v), (1, .str s), (7, .int .i64 T.length), (8, .int .i64 ((0 : Nat) : Int))]) (.cons rfl (.cons rfl (.cons rfl (.cons rfl .nil)))) (fun _ h => h) ?_
  refine index_loop hv hT (fun hn e => ?_) (fun i hy e hS => ?_) T 0 rfl (by omega) (by simp)
  · refine cgo ?_
    refine ⟨trivial, _, _, .one (.tmp rfl), .refl _, ?_⟩
    refine g_do rfl (o_geq (xt rfl) xc (fun h => absurd h (by decide)) (fun _ => ?_))
    refine cgo ?_
    exact ⟨trivial, _, _, .one (.tmp rfl), .refl _, hf hn⟩
  · cases hS with | cons h3 _ =>
    refine ⟨trivial, _, _, .one (.tmp h3), .refl _, ?_⟩
    refine g_do rfl (o_geq (xt rfl) xc (fun _ => ?_) (fun h => absurd (by omega) h))
    refine cgo ?_
    exact ⟨trivial, _, _, .one (.tmp rfl), .refl _, ht hy⟩
def resL : List ByteArray := [⟨#[105, 102]⟩, ⟨#[116, 104, 101, 110]⟩, ⟨#[101, 108, 115, 101]⟩, ⟨#[101, 108, 105, 102]⟩, ⟨#[102, 105]⟩, ⟨#[119, 104, 105, 108, 101]⟩, ⟨#[117, 110, 116, 105, 108]⟩, ⟨#[100, 111]⟩, ⟨#[100, 111, 110, 101]⟩, ⟨#[102, 111, 114]⟩, ⟨#[99, 97, 115, 101]⟩, ⟨#[101, 115, 97, 99]⟩, ⟨#[105, 110]⟩, ⟨#[123]⟩, ⟨#[125]⟩, ⟨#[33]⟩]
theorem res_small : ∀ s ∈ resL, s.size ≤ 5 := by decide
theorem lexres_x {n : Nat} (h6 : 6 ≤ n) {K : KK} (h : K (.bool false) fs) : Ev sW ftab 65 [.str (xs n)] fs K := by
  have hn : xs n ∉ resL := fun hm => by
    have := res_small _ hm
    rw [xs_size] at this; omega
  refine ev_fn (nt := 6) (kb := kb65) (kr := kr65) rfl rfl (Nat.le_of_ble_eq_true rfl) ?_
  refine cgo ?_
  refine g_do rfl (o_row (cs := resL.map .str) (.cons xc (.cons xc (.cons xc (.cons xc (.cons xc (.cons xc (.cons xc (.cons xc (.cons xc (.cons xc (.cons xc (.cons xc (.cons xc (.cons xc (.cons xc (.cons xc .nil)))))))))))))))) rfl rfl fun f id => ?_)
  refine cgo ?_
  refine g_do rfl (o_call (.cons (xt rfl) (.cons (xt rfl) .nil)) (contains_ev (T := resL) (.row (s := ⟨f, id, 0, 1⟩) (.own .here) rfl) (by decide) (fun hm => absurd hm hn) (fun _ => ?_)))
  refine cgo ?_
  exact ⟨trivial, _, fs, .one (.tmp rfl), .cons _ (.refl _), h⟩
theorem reserved_x {n : Nat} (h6 : 6 ≤ n) {K : KK} (h : K (.str ⟨#[]⟩) fs) : Ev sW ftab 47 [.agg (tW n)] fs K := by
  refine ev_fn (nt := 14) (kb := kb47) (kr := kr47) rfl rfl (Nat.le_of_ble_eq_true rfl) ?_
  refine cgo ?_
  refine g_do rfl (o_box (xt rfl) rfl fun x1 => ?_)
  refine cgg ?_
  refine g_do rfl (o_call (.cons (xt rfl) .nil) (lexres_x h6 ?_))
  refine cgg ?_
  exact ⟨trivial, _, fs, .one (.tmp rfl), .cons _ (.refl _), h⟩
theorem begins_x {n : Nat} (h6 : 6 ≤ n) {K : KK} (h : K (.bool true) fs) : Ev sW ftab 34 [.agg (tW n)] fs K := by
  refine ev_fn (nt := 25) (kb := kb34) (kr := kr34) rfl rfl (Nat.le_of_ble_eq_true rfl) ?_
  refine cgo ?_
  refine g_do rfl (o_box (xt rfl) rfl fun x1 => ?_)
  refine cgo ?_
  refine w_block ?_
  refine cgg ?_
  refine g_do rfl (o_call (.cons (xt rfl) .nil) (reserved_x h6 ?_))
  refine cgo ?_
  refine w_block ?_
  refine cgg ?_
  exact ⟨trivial, _, fs, .one (.tmp rfl), .cons _ (.refl _), h⟩
theorem enter_x {n p : Nat} {a : Int} {tok : AV} {st : Bool} {v : Int} (hp : Put fs (.blk p (.cells (pB n a 0 tok st))) (.blk p (.cells (pB n a 1 tok st))) fs') {K : KK} (h : K (.bool true) fs') : Ev sW ftab 71 [.ptr p 0, .int .i64 v] fs K := by
  refine ev_fn (nt := 25) (kb := kb71) (kr := kr71) rfl rfl (Nat.le_of_ble_eq_true rfl) ?_
  refine cgo ?_
  refine g_do rfl (o_load (xt rfl) hp.has rfl ?_)
  refine cgg ?_
  refine g_do rfl (o_load (xt rfl) hp.has rfl ?_)
  refine g_do rfl (o_add (xt rfl) xc (by constructor <;> decide) ?_)
  rw [show (0 : Int) + 1 = 1 from rfl]
  refine cgo ?_
  refine g_do0 (o_store (xt rfl) (xt rfl) hp ⟨rfl, (Nat.le_of_ble_eq_true rfl)⟩ rfl rfl ?_)
  refine cgo ?_
  refine g_do rfl (o_load (xt rfl) hp.new rfl ?_)
  refine cgg ?_
  exact ⟨trivial, _, fs', .one (.tmp rfl), .refl _, h⟩
theorem byteat_x {n : Nat} (h0 : 0 < n) {K : KK} (h : K (.int .u8 120) fs) : Ev sW ftab 29 [.str (xs n), .int .i64 0] fs K := by
  have hsz := xs_size n
  refine ev_fn (nt := 12) (kb := kb29) (kr := kr29) rfl rfl (Nat.le_of_ble_eq_true rfl) ?_
  refine cgo ?_
  refine g_do rfl (o_geq (xt rfl) (xt rfl) (fun h9 => by omega) (fun _ => ?_))
  refine cgo ?_
  refine g_do rfl (o_idx (b := 120) (xt rfl) (xt rfl) (by decide) (xs_get h0) ?_)
  refine cgo ?_
  exact ⟨trivial, _, fs, .one (.tmp rfl), .refl _, h⟩
/-! A row of parts. -/
abbrev rB (l : AV) : List AV := [l, .bool false, .int .i64 (-1), .bool false]
theorem more_x {n p r i : Nat} {dp : Int} {tok l : AV} {st : Bool} (hi : i < n) (hp : Has fs (.blk p (.cells (pB n i dp tok st)))) (hr : Has fs (.blk r (.cells (rB l)))) {K : KK} (h : K (.bool true) fs) : Ev sW ftab 39 [.ptr p 0, .ptr r 0] fs K := by
  have hsz := xs_size n
  refine ev_fn (nt := 49) (kb := kb39) (kr := kr39) rfl rfl (Nat.le_of_ble_eq_true rfl) ?_
  refine cgo ?_
  refine g_do rfl (o_load (xt rfl) hp rfl ?_)
  refine cgg ?_
  refine g_do rfl (o_load (xt rfl) hp rfl ?_)
  refine cgo ?_
  refine g_do rfl (o_load (xt rfl) hp rfl ?_)
  refine cgo ?_
  refine g_do rfl (o_geq (xt rfl) (xt rfl) (fun h9 => by omega) (fun _ => ?_))
  refine cgo ?_
  refine g_do rfl (o_load (xt rfl) hp rfl ?_)
  refine cgo ?_
  refine g_do rfl (o_load (xt rfl) hp rfl ?_)
  refine g_do rfl (o_idx (b := 120) (xt rfl) (xt rfl) (by omega) (by rw [Int.toNat_natCast]; exact xs_get hi) ?_)
  refine cgo ?_
  refine w_block ?_
  refine cgo ?_
  refine g_do rfl (o_load (xt rfl) hr rfl ?_)
  refine cgo ?_
  refine g_do rfl (o_load (xt rfl) hr rfl ?_)
  refine cgo ?_
  refine g_do rfl (o_call (.cons (xt rfl) .nil) (ends_x ?_))
  refine cgo ?_
  exact ⟨trivial, _, fs, .one (.tmp rfl), .refl _, h⟩
theorem more_n {n p r : Nat} {dp : Int} {tok : AV} {st : Bool} {c : List AV} (hp : Has fs (.blk p (.cells (pB n n dp tok st)))) {K : KK} (h : K (.bool false) fs) : Ev sW ftab 39 [.ptr p 0, .ptr r 0] fs K := by
  have hsz := xs_size n
  refine ev_fn (nt := 49) (kb := kb39) (kr := kr39) rfl rfl (Nat.le_of_ble_eq_true rfl) ?_
  refine cgo ?_
  refine g_do rfl (o_load (xt rfl) hp rfl ?_)
  refine cgg ?_
  refine g_do rfl (o_load (xt rfl) hp rfl ?_)
  refine cgo ?_
  refine g_do rfl (o_load (xt rfl) hp rfl ?_)
  refine cgo ?_
  refine g_do rfl (o_geq (xt rfl) (xt rfl) (fun _ => ?_) (fun h9 => by omega))
  refine cgo ?_
  exact ⟨trivial, _, fs, .one (.tmp rfl), .refl _, h⟩
theorem from_x {r : Nat} {l : AV} {v : Int} (hr : Has fs (.blk r (.cells (rB l)))) {K : KK} (h : K (.int .i64 v) fs) : Ev sW ftab 57 [.ptr r 0, .int .i64 v] fs K := by
  refine ev_fn (nt := 18) (kb := kb57) (kr := kr57) rfl rfl (Nat.le_of_ble_eq_true rfl) ?_
  refine cgo ?_
  refine g_do rfl (o_load (xt rfl) hr rfl ?_)
  refine cgg ?_
  refine g_do0 (o_store (xt rfl) xc hr.same ⟨rfl, (Nat.le_of_ble_eq_true rfl)⟩ rfl rfl ?_)
  refine cgo ?_
  exact ⟨trivial, _, fs, .one (.tmp rfl), .refl _, h⟩
end Go.Proofs.Ytadohhhjpbhhoaa.EvA
