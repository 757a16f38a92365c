/- Walks: a rule for each operation and each piece of code. -/
import Derived.Test.YtadohhhjpbhhoaaEvLc
namespace Go.Proofs.Ytadohhhjpbhhoaa.EvA
open Go.RowKit
set_option linter.unusedVariables false
variable {S : Sum} {F : FuncId → Option AF} {L : Nat} {e : Env} {fs fs' : List Fact}
abbrev KK := AV → List Fact → Prop
def WO (S : Sum) (F : FuncId → Option AF) (o : KO) (e : Env) (fs : List Fact) (K : KK) : Prop := ∀ L ts h, Rp L ts e → RH h fs → ∃ v h' fs', RH h' fs' ∧ K v fs' ∧ ∃ N, ∀ n, N ≤ n → o (aeval S F n) ts h = some (v, h')
def WG (S : Sum) (F : FuncId → Option AF) (r : KR) (L : Nat) (e : Env) (fs : List Fact) (Q : Env → List Fact → Prop) : Prop := ∀ ts h, Rp L ts e → RH h fs → ∃ ts' h' e' fs', Rp L ts' e' ∧ RH h' fs' ∧ Q e' fs' ∧ ∃ N, ∀ n, N ≤ n → r (aeval S F n) ts h = some (ts', h')
/-- .. and what is deferred is as it was. -/
structure RK (g h : AH) (fs : List Fact) : Prop where
  rh : RH h fs
  same : h.defs = g.defs
theorem RH.keep {h : AH} {fs : List Fact} (hH : RH h fs) (g : AH) : RH (h.keep g) fs := ⟨hH.holds, hH.nodup, hH.fn, hH.cid, hH.srt⟩
theorem RH.bare {h : AH} {fs : List Fact} (hH : RH h fs) : RH h.bare fs := ⟨hH.holds, hH.nodup, hH.fn, hH.cid, hH.srt⟩
def WC (S : Sum) (F : FuncId → Option AF) (k : KC) (L : Nat) (e : Env) (fs : List Fact) (Q : AO → Env → List Fact → Prop) : Prop := ∀ ts h, Rp L ts e → RH h fs → ∃ ao ts' h' e' fs', Rp L ts' e' ∧ RK h h' fs' ∧ Q ao e' fs' ∧ ∃ N, ∀ n, N ≤ n → k (aeval S F n) n ts h = some (ao, ts', h')
def WL (S : Sum) (F : FuncId → Option AF) (k : KC) (L : Nat) (e : Env) (fs : List Fact) (Q : AO → Env → List Fact → Prop) : Prop := ∀ ts h, Rp L ts e → RH h fs → ∃ ao ts' h' e' fs', Rp L ts' e' ∧ RK h h' fs' ∧ Q ao e' fs' ∧ ∃ N, ∀ n j, N ≤ n → N ≤ j → aloop (k (aeval S F n) n) j ts h = some (ao, ts', h')
def Ev (S : Sum) (F : FuncId → Option AF) (f : FuncId) (args : List AV) (fs : List Fact) (K : KK) : Prop := ∀ h, RH h fs → ∃ v h' fs', RH h' fs' ∧ K v fs' ∧ ∃ N, ∀ n, N ≤ n → aeval S F n f args h = some (v, h')
def SC (s : List AV → AH → Option (AV × AH)) (args : List AV) (fs : List Fact) (K : KK) : Prop := ∀ h, RH h fs → ∃ v h' fs', RH h' fs' ∧ K v fs' ∧ s args h = some (v, h')
/-! Regions -/
theorem g_end {Q : Env → List Fact → Prop} (h : Q e fs) : WG S F kEnd L e fs Q := fun ts h' h1 h2 => ⟨ts, h', e, fs, h1, h2, h, 0, fun n _ => rfl⟩
theorem g_do {d : Nat} {o : KO} {rest : KR} {Q : Env → List Fact → Prop} (hd : Nat.blt d L = true) (h : WO S F o e fs fun v fs' => WG S F rest L ((d, v) :: e) fs' Q) : WG S F (kDo d o rest) L e fs Q := by
  intro ts h0 h1 h2
  obtain ⟨v, h', fs', h3, h4, N, h5⟩ := h L ts h0 h1 h2
  obtain ⟨ts', h'', e', fs'', k1, k2, k3, M, k4⟩ := h4 _ h' (h1.upd hd v) h3
  refine ⟨ts', h'', e', fs'', k1, k2, k3, max N M, fun n hn => ?_⟩
  simp only [kDo, h5 n (by omega)]
  exact k4 n (by omega)
theorem g_do0 {o : KO} {rest : KR} {Q : Env → List Fact → Prop} (h : WO S F o e fs fun v fs' => WG S F rest L e fs' Q) : WG S F (kDo0 o rest) L e fs Q := by
  intro ts h0 h1 h2
  obtain ⟨v, h', fs', h3, h4, N, h5⟩ := h L ts h0 h1 h2
  obtain ⟨ts', h'', e', fs'', k1, k2, k3, M, k4⟩ := h4 _ h' h1 h3
  refine ⟨ts', h'', e', fs'', k1, k2, k3, max N M, fun n hn => ?_⟩
  simp only [kDo0, h5 n (by omega)]
  exact k4 n (by omega)
theorem g_if {t : Nat} {w : Bool} {d : Nat} {o : KO} {rest : KR} {Q : Env → List Fact → Prop} (ht : lk e t = some (.bool w)) (h : WG S F (kDo d o rest) L e fs Q) : WG S F (kIf t w d o rest) L e fs Q := by
  intro ts h0 h1 h2
  obtain ⟨ts', h'', e', fs'', k1, k2, k3, M, k4⟩ := h ts h0 h1 h2
  refine ⟨ts', h'', e', fs'', k1, k2, k3, M, fun n hn => ?_⟩
  have := k4 n hn
  simp only [kIf, h1.2 t _ ht, beq_self_eq_true]
  exact this
theorem g_skip {t : Nat} {w b : Bool} {d : Nat} {o : KO} {rest : KR} {Q : Env → List Fact → Prop} (ht : lk e t = some (.bool b)) (hb : (b == w) = false) (hd : Nat.blt d L = true) (h : WG S F rest L ((d, .tup []) :: e) fs Q) : WG S F (kIf t w d o rest) L e fs Q := by
  intro ts h0 h1 h2
  obtain ⟨ts', h'', e', fs'', k1, k2, k3, M, k4⟩ := h _ h0 (h1.upd hd _) h2
  refine ⟨ts', h'', e', fs'', k1, k2, k3, M, fun n hn => ?_⟩
  simp only [kIf, h1.2 t _ ht, hb]
  exact k4 n hn
theorem g_skipn {t : Nat} {w : Bool} {d : Nat} {o : KO} {rest : KR} {Q : Env → List Fact → Prop} (ht : lk e t = some (.tup [])) (hd : Nat.blt d L = true) (h : WG S F rest L ((d, .tup []) :: e) fs Q) : WG S F (kIf t w d o rest) L e fs Q := by
  intro ts h0 h1 h2
  obtain ⟨ts', h'', e', fs'', k1, k2, k3, M, k4⟩ := h _ h0 (h1.upd hd _) h2
  refine ⟨ts', h'', e', fs'', k1, k2, k3, M, fun n hn => ?_⟩
  simp only [kIf, h1.2 t _ ht]
  exact k4 n hn
/-! Operations -/
theorem o_val {o : KO} {K : KK} {v : AV} (ho : ∀ c L ts h, Rp L ts e → RH h fs → o c ts h = some (v, h)) (h : K v fs) : WO S F o e fs K := fun L ts h0 h1 h2 => ⟨v, h0, fs, h2, h, 0, fun n _ => ho _ L ts h0 h1 h2⟩
theorem o_move {x : AX} {v : AV} {K : KK} (hx : XV e x v) (h : K v fs) : WO S F (oMove x) e fs K := o_val (fun c L ts h0 h1 _ => by simp only [oMove, hx L ts h1]) h
theorem o_pick {c x y : AX} {b : Bool} {v : AV} {K : KK} (hc : XV e c (.bool b)) (hx : XV e (match b with | true => x | false => y) v) (h : K v fs) : WO S F (oPick c x y) e fs K := o_val (fun c L ts h0 h1 _ => by
  have := hx L ts h1
  simp only [oPick, hc L ts h1]
  cases b <;> simp only [this]) h
theorem o_box {n : Nat} {x : AX} {v : AV} {K : KK} (hx : XV e x v) (hl : v.cells.length = n) (h : ∀ i, K (.ptr i 0) (.blk i (.cells v.cells) :: fs)) : WO S F (oBox n x) e fs K := fun L ts h0 h1 h2 =>
  ⟨.ptr h0.next 0, h0.new (.cells v.cells), _, h2.new _, h h0.next, 0, fun n _ => by simp only [oBox, hx L ts h1, hl, if_true]⟩
theorem o_build {z : List AV} {ps : List (Nat × Nat × AX)} {qs : List (Nat × Nat × AV)} {cs : List AV} {K : KK} (hp : XPs e ps qs) (ha : afill z qs = some cs) (h : K (.agg cs) fs) : WO S F (oBuild z ps) e fs K := o_val (fun c L ts h0 h1 _ => by simp only [oBuild, hp.vals h1, ha]) h
theorem o_row {len size : Nat} {z : List AV} {ps : List (Nat × Nat × AX)} {qs : List (Nat × Nat × AV)} {cs : List AV} {K : KK} (hp : XPs e ps qs) (ha : afill z qs = some cs) (hl : cs.length = len * size) (h : ∀ f id, K (.row cs len ⟨f, id, 0, size⟩) (.row f id (len * size) :: fs)) : WO S F (oRow len size z ps) e fs K := fun L ts h0 h1 h2 =>
  ⟨_, _, _, h2.newRow (len * size) size, h _ _, 0, fun n _ => by simp only [oRow, hp.vals h1, ha, hl, if_true]; rfl⟩
theorem o_rowz {len size : Nat} {z : List AV} {ps : List (Nat × Nat × AX)} {qs : List (Nat × Nat × AV)} {cs : List AV} {K : KK} (hp : XPs e ps qs) (ha : afill z qs = some cs) (hl : cs.length = len * size) (h : K (.row cs len ⟨0, 0, 0, size⟩) fs) : WO S F (oRowZ len size z ps) e fs K := fun L ts h0 h1 h2 =>
  ⟨_, _, _, h2, h, 0, fun n _ => by simp only [oRowZ, hp.vals h1, ha, hl, if_true]⟩
theorem o_load {g : Option Nat} {x : AX} {i off : Nat} {cs : List AV} {v : AV} {K : KK} (hx : XV e x (.ptr i off)) (hf : Has fs (.blk i (.cells cs))) (hp : apart cs off g = some v) (h : K v fs) : WO S F (oLoad g x) e fs K := o_val (fun c L ts h0 h1 h2 => by simp only [oLoad, hx L ts h1, h2.get hf, hp]) h
theorem o_loadz {g : Option Nat} {x : AX} {off : Nat} {cs : List AV} {s : Src} {v : AV} {K : KK} (hx : XV e x (.eptr cs off s)) (hs : s.fam = 0) (hp : apart cs off g = some v) (h : K v fs) : WO S F (oLoad g x) e fs K := o_val (fun c L ts h0 h1 h2 => by
  have : h0.ok s = true := by simp only [AH.ok, hs]; rfl
  simp only [oLoad, hx L ts h1, this, hp]) h
theorem o_loado {g : Option Nat} {x : AX} {off m : Nat} {cs : List AV} {s : Src} {v : AV} {K : KK} (hx : XV e x (.eptr cs off s)) (hs : Has fs (.row s.fam s.id m)) (hp : apart cs off g = some v) (h : K v fs) : WO S F (oLoad g x) e fs K := o_val (fun c L ts h0 h1 h2 => by simp only [oLoad, hx L ts h1, h2.ok hs, hp]) h
theorem o_store {n : Nat} {a x : AX} {i off : Nat} {cs cs' : List AV} {v : AV} {K : KK} (ha : XV e a (.ptr i off)) (hx : XV e x v) (hp : Put fs (.blk i (.cells cs)) (.blk i (.cells cs')) fs') (hl : v.cells.length = n ∧ off + n ≤ cs.length) (hs : v.cells.all scalar = true) (hc : cs.take off ++ v.cells ++ cs.drop (off + n) = cs') (h : K (.tup []) fs') : WO S F (oStore n a x) e fs K := fun L ts h0 h1 h2 =>
  ⟨.tup [], h0.put i (.cells cs'), fs', h2.put hp, h, 0, fun m _ => by simp only [oStore, ha L ts h1, hx L ts h1, h2.get hp.has]; rw [if_pos ⟨hl.1, hl.2, hs⟩, hc]⟩
theorem o_nil {x : AX} {i o : Nat} {K : KK} (hx : XV e x (.ptr i o)) (h : K (.ptr i o) fs) : WO S F (oNil x) e fs K := o_val (fun c L ts h0 h1 _ => by simp only [oNil, hx L ts h1]) h
theorem o_nilz {x : AX} {cs : List AV} {o : Nat} {s : Src} {K : KK} (hx : XV e x (.eptr cs o s)) (h : K (.eptr cs o s) fs) : WO S F (oNil x) e fs K := o_val (fun c L ts h0 h1 _ => by simp only [oNil, hx L ts h1]) h
theorem o_nilf {x : AX} {f : FuncId} {cs : List AV} {K : KK} (hx : XV e x (.fn f cs)) (h : K (.fn f cs) fs) : WO S F (oNil x) e fs K := o_val (fun c L ts h0 h1 _ => by simp only [oNil, hx L ts h1]) h
theorem o_nilm {x : AX} {f : FuncId} {cs : List AV} {K : KK} (hx : XV e x (.mfn f cs)) (h : K (.mfn f cs) fs) : WO S F (oNil x) e fs K := o_val (fun c L ts h0 h1 _ => by simp only [oNil, hx L ts h1]) h
theorem o_arith {op : BinOp} {x y : AX} {a b v : AV} {K : KK} (hx : XV e x a) (hy : XV e y b) (ha : aarith op a b = some v) (h : K v fs) : WO S F (oArith op x y) e fs K := o_val (fun c L ts h0 h1 _ => by simp only [oArith, hx L ts h1, hy L ts h1, ha]) h
def In64 (n : Int) : Prop := -9223372036854775808 ≤ n ∧ n ≤ 9223372036854775807
theorem wrap_in {n : Int} (h : In64 n) : IntKind.wrap .i64 n = n := by
  obtain ⟨h1, h2⟩ := h
  rw [IntKind.wrap_i64]; omega
theorem o_add {x y : AX} {a b : Int} {K : KK} (hx : XV e x (.int .i64 a)) (hy : XV e y (.int .i64 b)) (hi : In64 (a + b)) (h : K (.int .i64 (a + b)) fs) : WO S F (oArith .add x y) e fs K := o_arith hx hy (by show some (AV.int .i64 (IntKind.wrap .i64 (a + b))) = _; rw [wrap_in hi]) h
theorem o_sub {x y : AX} {a b : Int} {K : KK} (hx : XV e x (.int .i64 a)) (hy : XV e y (.int .i64 b)) (hi : In64 (a - b)) (h : K (.int .i64 (a - b)) fs) : WO S F (oArith .sub x y) e fs K := o_arith hx hy (by show some (AV.int .i64 (IntKind.wrap .i64 (a - b))) = _; rw [wrap_in hi]) h
theorem o_mul {x y : AX} {a b : Int} {K : KK} (hx : XV e x (.int .i64 a)) (hy : XV e y (.int .i64 b)) (hi : In64 (a * b)) (h : K (.int .i64 (a * b)) fs) : WO S F (oArith .mul x y) e fs K := o_arith hx hy (by show some (AV.int .i64 (IntKind.wrap .i64 (a * b))) = _; rw [wrap_in hi]) h
theorem o_cat {x y : AX} {a b : ByteArray} {K : KK} (hx : XV e x (.str a)) (hy : XV e y (.str b)) (hi : a.size + b.size ≤ 9223372036854775807) (h : K (.str (a ++ b)) fs) : WO S F (oArith .add x y) e fs K := o_arith hx hy (by simp only [aarith]; rw [if_pos hi]) h
theorem o_lss {k : IntKind} {x y : AX} {a b : Int} {K : KK} (hx : XV e x (.int k a)) (hy : XV e y (.int k b)) (ht : a < b → K (.bool true) fs) (hf : ¬ a < b → K (.bool false) fs) : WO S F (oArith .lss x y) e fs K := by
  by_cases h : a < b
  · exact o_arith hx hy (by simp only [aarith, if_true, h, decide_true]) (ht h)
  · exact o_arith hx hy (by simp only [aarith, if_true, h, decide_false]) (hf h)
theorem o_leq {k : IntKind} {x y : AX} {a b : Int} {K : KK} (hx : XV e x (.int k a)) (hy : XV e y (.int k b)) (ht : a ≤ b → K (.bool true) fs) (hf : ¬ a ≤ b → K (.bool false) fs) : WO S F (oArith .leq x y) e fs K := by
  by_cases h : a ≤ b
  · exact o_arith hx hy (by simp only [aarith, if_true, h, decide_true]) (ht h)
  · exact o_arith hx hy (by simp only [aarith, if_true, h, decide_false]) (hf h)
theorem o_gtr {k : IntKind} {x y : AX} {a b : Int} {K : KK} (hx : XV e x (.int k a)) (hy : XV e y (.int k b)) (ht : a > b → K (.bool true) fs) (hf : ¬ a > b → K (.bool false) fs) : WO S F (oArith .gtr x y) e fs K := by
  by_cases h : a > b
  · exact o_arith hx hy (by simp only [aarith, if_true, h, decide_true]) (ht h)
  · exact o_arith hx hy (by simp only [aarith, if_true, h, decide_false]) (hf h)
theorem o_geq {k : IntKind} {x y : AX} {a b : Int} {K : KK} (hx : XV e x (.int k a)) (hy : XV e y (.int k b)) (ht : a ≥ b → K (.bool true) fs) (hf : ¬ a ≥ b → K (.bool false) fs) : WO S F (oArith .geq x y) e fs K := by
  by_cases h : a ≥ b
  · exact o_arith hx hy (by simp only [aarith, if_true, h, decide_true]) (ht h)
  · exact o_arith hx hy (by simp only [aarith, if_true, h, decide_false]) (hf h)
theorem o_eq {m : Nat} {x y : AX} {a b : AV} {c : Bool} {K : KK} (hx : XV e x a) (hy : XV e y b) (hc : scalarEq m a b = some c) (h : K (.bool c) fs) : WO S F (oEq false m x y) e fs K := o_val (fun _ L ts h0 h1 _ => by simp only [oEq, hx L ts h1, hy L ts h1, hc]) h
theorem o_ne {m : Nat} {x y : AX} {a b : AV} {c : Bool} {K : KK} (hx : XV e x a) (hy : XV e y b) (hc : scalarEq m a b = some c) (h : K (.bool !c) fs) : WO S F (oEq true m x y) e fs K := o_val (fun _ L ts h0 h1 _ => by simp only [oEq, hx L ts h1, hy L ts h1, hc]) h
theorem eq_int {k : IntKind} {a b : Int} : scalarEq 1 (.int k a) (.int k b) = some (decide (a = b)) := by
  simp only [scalarEq, and_self, if_true]; congr 1
theorem toList_inj {a b : ByteArray} : (a.toList == b.toList) = decide (a = b) := by
  have h : a.toList = b.toList ↔ a = b := by
    rw [ByteArray.toList_eq, ByteArray.toList_eq]
    constructor
    · intro h; exact ByteArray.ext (Array.toList_inj.1 h)
    · rintro rfl; rfl
  by_cases e : a = b
  · subst e; simp
  · have : ¬ a.toList = b.toList := fun k => e (h.1 k)
    simp [e, this]
theorem eq_str {a b : ByteArray} : scalarEq 2 (.str a) (.str b) = some (decide (a = b)) := by
  simp only [scalarEq, if_true, toList_inj]
theorem eq_bool {a b : Bool} : scalarEq 0 (.bool a) (.bool b) = some (decide (a = b)) := by
  simp only [scalarEq, if_true]; cases a <;> cases b <;> rfl
theorem o_eqi {k : IntKind} {x y : AX} {a b : Int} {K : KK} (hx : XV e x (.int k a)) (hy : XV e y (.int k b)) (ht : a = b → K (.bool true) fs) (hf : ¬ a = b → K (.bool false) fs) : WO S F (oEq false 1 x y) e fs K := by
  by_cases h : a = b
  · exact o_eq hx hy (by rw [eq_int, decide_eq_true h]) (ht h)
  · exact o_eq hx hy (by rw [eq_int, decide_eq_false h]) (hf h)
theorem o_nei {k : IntKind} {x y : AX} {a b : Int} {K : KK} (hx : XV e x (.int k a)) (hy : XV e y (.int k b)) (ht : a = b → K (.bool false) fs) (hf : ¬ a = b → K (.bool true) fs) : WO S F (oEq true 1 x y) e fs K := by
  by_cases h : a = b
  · exact o_ne (c := true) hx hy (by rw [eq_int, decide_eq_true h]) (ht h)
  · exact o_ne (c := false) hx hy (by rw [eq_int, decide_eq_false h]) (hf h)
theorem o_eqs {x y : AX} {a b : ByteArray} {K : KK} (hx : XV e x (.str a)) (hy : XV e y (.str b)) (ht : a = b → K (.bool true) fs) (hf : ¬ a = b → K (.bool false) fs) : WO S F (oEq false 2 x y) e fs K := by
  by_cases h : a = b
  · exact o_eq hx hy (by rw [eq_str, decide_eq_true h]) (ht h)
  · exact o_eq hx hy (by rw [eq_str, decide_eq_false h]) (hf h)
theorem o_nes {x y : AX} {a b : ByteArray} {K : KK} (hx : XV e x (.str a)) (hy : XV e y (.str b)) (ht : a = b → K (.bool false) fs) (hf : ¬ a = b → K (.bool true) fs) : WO S F (oEq true 2 x y) e fs K := by
  by_cases h : a = b
  · exact o_ne (c := true) hx hy (by rw [eq_str, decide_eq_true h]) (ht h)
  · exact o_ne (c := false) hx hy (by rw [eq_str, decide_eq_false h]) (hf h)
theorem o_eqb {x y : AX} {a b : Bool} {K : KK} (hx : XV e x (.bool a)) (hy : XV e y (.bool b)) (ht : a = b → K (.bool true) fs) (hf : ¬ a = b → K (.bool false) fs) : WO S F (oEq false 0 x y) e fs K := by
  by_cases h : a = b
  · exact o_eq hx hy (by rw [eq_bool, decide_eq_true h]) (ht h)
  · exact o_eq hx hy (by rw [eq_bool, decide_eq_false h]) (hf h)
theorem o_neb {x y : AX} {a b : Bool} {K : KK} (hx : XV e x (.bool a)) (hy : XV e y (.bool b)) (ht : a = b → K (.bool false) fs) (hf : ¬ a = b → K (.bool true) fs) : WO S F (oEq true 0 x y) e fs K := by
  by_cases h : a = b
  · exact o_ne (c := true) hx hy (by rw [eq_bool, decide_eq_true h]) (ht h)
  · exact o_ne (c := false) hx hy (by rw [eq_bool, decide_eq_false h]) (hf h)
theorem o_eqt {l : List (Nat × Nat)} {x y : AX} {c d : List AV} {b : Bool} {K : KK} (hx : XV e x (.agg c)) (hy : XV e y (.agg d)) (hc : cellsEq c d l = some b) (h : K (.bool b) fs) : WO S F (oEqS false l x y) e fs K := o_val (fun _ L ts h0 h1 _ => by simp only [oEqS, hx L ts h1, hy L ts h1, hc]) h
theorem o_net {l : List (Nat × Nat)} {x y : AX} {c d : List AV} {b : Bool} {K : KK} (hx : XV e x (.agg c)) (hy : XV e y (.agg d)) (hc : cellsEq c d l = some b) (h : K (.bool !b) fs) : WO S F (oEqS true l x y) e fs K := o_val (fun _ L ts h0 h1 _ => by simp only [oEqS, hx L ts h1, hy L ts h1, hc]) h
theorem o_iaddra {n m : Nat} {x y : AX} {i o : Nat} {k : IntKind} {j : Int} {K : KK} (hx : XV e x (.ptr i o)) (hy : XV e y (.int k j)) (hj : 0 ≤ j ∧ j < (n : Int)) (h : K (.ptr i (o + j.toNat * m)) fs) : WO S F (oIaddrA n m x y) e fs K := o_val (fun _ L ts h0 h1 _ => by simp only [oIaddrA, hx L ts h1, hy L ts h1]; rw [if_pos hj]) h
theorem o_shr {k j : IntKind} {x y : AX} {a b : Int} {K : KK} (hx : XV e x (.int k a)) (hy : XV e y (.int j b)) (hb : 0 ≤ b) (h : K (.int k (a.fdiv (2 ^ min b.toNat k.bits))) fs) : WO S F (oShr x y) e fs K := o_val (fun c L ts h0 h1 _ => by simp only [oShr, hx L ts h1, hy L ts h1]; rw [if_neg (by omega)]) h
theorem o_shl {k j : IntKind} {x y : AX} {a b : Int} {K : KK} (hx : XV e x (.int k a)) (hy : XV e y (.int j b)) (hb : 0 ≤ b) (h : K (.int k (k.wrap (a * 2 ^ min b.toNat k.bits))) fs) : WO S F (oShl x y) e fs K := o_val (fun c L ts h0 h1 _ => by simp only [oShl, hx L ts h1, hy L ts h1]; rw [if_neg (by omega)]) h
theorem o_not {x : AX} {b : Bool} {K : KK} (hx : XV e x (.bool b)) (h : K (.bool !b) fs) : WO S F (oNot x) e fs K := o_val (fun c L ts h0 h1 _ => by simp only [oNot, hx L ts h1]) h
theorem o_neg {x : AX} {k : IntKind} {n : Int} {K : KK} (hx : XV e x (.int k n)) (h : K (.int k (k.wrap (0 - n))) fs) : WO S F (oNeg x) e fs K := o_val (fun c L ts h0 h1 _ => by simp only [oNeg, hx L ts h1]) h
theorem o_conv {x : AX} {k j : IntKind} {n : Int} {K : KK} (hx : XV e x (.int j n)) (h : K (.int k (k.wrap n)) fs) : WO S F (oConv k x) e fs K := o_val (fun c L ts h0 h1 _ => by simp only [oConv, hx L ts h1]) h
theorem o_fn {f : FuncId} {l : List AX} {vs : List AV} {K : KK} (hl : XVs e l vs) (h : K (.fn f vs) fs) : WO S F (oFn f l) e fs K := o_val (fun c L ts h0 h1 _ => by simp only [oFn, hl.vals h1]) h
theorem o_mfn {f : FuncId} {l : List AX} {vs : List AV} {K : KK} (hl : XVs e l vs) (h : K (.mfn f vs) fs) : WO S F (oMfn f l) e fs K := o_val (fun c L ts h0 h1 _ => by simp only [oMfn, hl.vals h1]) h
theorem o_min {x y : AX} {k j : IntKind} {a b : Int} {K : KK} (hx : XV e x (.int k a)) (hy : XV e y (.int j b)) (h : K (.int k (if b < a then b else a)) fs) : WO S F (oMin x y) e fs K := o_val (fun c L ts h0 h1 _ => by simp only [oMin, hx L ts h1, hy L ts h1]) h
theorem o_max {x y : AX} {k j : IntKind} {a b : Int} {K : KK} (hx : XV e x (.int k a)) (hy : XV e y (.int j b)) (h : K (.int k (if b > a then b else a)) fs) : WO S F (oMax x y) e fs K := o_val (fun c L ts h0 h1 _ => by simp only [oMax, hx L ts h1, hy L ts h1]) h
theorem o_cuts {x : AX} {lo hi : Option AX} {s : ByteArray} {a b : Option AV} {p q : Nat} {K : KK} (hx : XV e x (.str s)) (hl : XO e lo a) (hh : XO e hi b) (hb : bounds s.size a b = some (p, q)) (h : K (.str (s.extract p q)) fs) : WO S F (oCutstr x lo hi) e fs K := o_val (fun c L ts h0 h1 _ => by simp only [oCutstr, hx L ts h1, hl.opt h1, hh.opt h1, hb]) h
theorem bounds_hi {n : Nat} {k : IntKind} {b : Int} (h : 0 ≤ b ∧ b ≤ (n : Int)) : bounds n none (some (.int k b)) = some (0, b.toNat) := by simp only [bounds, bhi, if_pos h, blo]
theorem bounds_lo {n : Nat} {k : IntKind} {a : Int} (h : 0 ≤ a ∧ a ≤ (n : Int)) : bounds n (some (.int k a)) none = some (a.toNat, n) := by simp only [bounds, bhi, blo, if_pos h]
theorem bounds_lh {n : Nat} {k j : IntKind} {a b : Int} (h : 0 ≤ a ∧ a ≤ b ∧ b ≤ (n : Int)) : bounds n (some (.int k a)) (some (.int j b)) = some (a.toNat, b.toNat) := by
  have h1 : 0 ≤ b ∧ b ≤ (n : Int) := ⟨by omega, h.2.2⟩
  have h2 : 0 ≤ a ∧ a ≤ ((b.toNat : Nat) : Int) := ⟨h.1, by omega⟩
  simp only [bounds, bhi, if_pos h1, blo, if_pos h2]
theorem o_cuth {x y : AX} {s : ByteArray} {k : IntKind} {b : Int} {K : KK} (hx : XV e x (.str s)) (hy : XV e y (.int k b)) (hb : 0 ≤ b ∧ b ≤ (s.size : Int)) (h : K (.str (s.extract 0 b.toNat)) fs) : WO S F (oCutstr x none (some y)) e fs K := o_cuts hx .none (.some hy) (bounds_hi hb) h
theorem o_cutl {x y : AX} {s : ByteArray} {k : IntKind} {a : Int} {K : KK} (hx : XV e x (.str s)) (hy : XV e y (.int k a)) (hb : 0 ≤ a ∧ a ≤ (s.size : Int)) (h : K (.str (s.extract a.toNat s.size)) fs) : WO S F (oCutstr x (some y) none) e fs K := o_cuts hx (.some hy) .none (bounds_lo hb) h
theorem o_cutlh {x y z : AX} {s : ByteArray} {k j : IntKind} {a b : Int} {K : KK} (hx : XV e x (.str s)) (hy : XV e y (.int k a)) (hz : XV e z (.int j b)) (hb : 0 ≤ a ∧ a ≤ b ∧ b ≤ (s.size : Int)) (h : K (.str (s.extract a.toNat b.toNat)) fs) : WO S F (oCutstr x (some y) (some z)) e fs K := o_cuts hx (.some hy) (.some hz) (bounds_lh hb) h
theorem o_cutn {n : Nat} {x : AX} {lo hi : Option AX} {a b : Option AV} {p : Nat × Nat} {K : KK} (hx : XV e x .nilrow) (hl : XO e lo a) (hh : XO e hi b) (hb : bounds 0 a b = some p) (h : K .nilrow fs) : WO S F (oCutrow n x lo hi) e fs K := o_val (fun c L ts h0 h1 _ => by simp only [oCutrow, hx L ts h1, hl.opt h1, hh.opt h1, hb]) h
theorem o_cutz {n : Nat} {x : AX} {lo hi : Option AX} {cs : List AV} {len : Nat} {s : Src} {a b : Option AV} {p q : Nat} {K : KK} (hx : XV e x (.row cs len s)) (hs : s.fam = 0) (hn : s.size = n) (hl : XO e lo a) (hh : XO e hi b) (hb : bounds len a b = some (p, q)) (h : K (.row ((cs.drop (p * n)).take ((q - p) * n)) (q - p) s) fs) : WO S F (oCutrow n x lo hi) e fs K := o_val (fun c L ts h0 h1 _ => by
  have : h0.ok s = true := by simp only [AH.ok, hs]; rfl
  simp only [oCutrow, hx L ts h1, hl.opt h1, hh.opt h1, hb]; rw [if_pos ⟨this, hn⟩, adv_id hs]) h
theorem o_cuto {n m : Nat} {x : AX} {lo hi : Option AX} {cs : List AV} {len : Nat} {s : Src} {a b : Option AV} {p q : Nat} {K : KK} (hx : XV e x (.row cs len s)) (hs : Has fs (.row s.fam s.id m)) (hn : s.size = n) (hl : XO e lo a) (hh : XO e hi b) (hb : bounds len a b = some (p, q)) (h : K (.row ((cs.drop (p * n)).take ((q - p) * n)) (q - p) (s.adv (p * n))) fs) : WO S F (oCutrow n x lo hi) e fs K := o_val (fun c L ts h0 h1 h2 => by
  simp only [oCutrow, hx L ts h1, hl.opt h1, hh.opt h1, hb]; rw [if_pos ⟨h2.ok hs, hn⟩]) h
theorem o_faddr {off : Nat} {x : AX} {i o : Nat} {K : KK} (hx : XV e x (.ptr i o)) (h : K (.ptr i (o + off)) fs) : WO S F (oFaddr off x) e fs K := o_val (fun c L ts h0 h1 _ => by simp only [oFaddr, hx L ts h1]) h
theorem o_faddrz {off : Nat} {x : AX} {cs : List AV} {o : Nat} {s : Src} {K : KK} (hx : XV e x (.eptr cs o s)) (h : K (.eptr cs (o + off) s) fs) : WO S F (oFaddr off x) e fs K := o_val (fun c L ts h0 h1 _ => by simp only [oFaddr, hx L ts h1]) h
theorem o_field {off : Nat} {g : Option Nat} {x : AX} {cs : List AV} {v : AV} {K : KK} (hx : XV e x (.agg cs)) (hp : apart cs off g = some v) (h : K v fs) : WO S F (oField off g x) e fs K := o_val (fun c L ts h0 h1 _ => by simp only [oField, hx L ts h1, hp]) h
theorem o_iaddr {n : Nat} {x y : AX} {cs : List AV} {len : Nat} {s : Src} {k : IntKind} {m : Int} {K : KK} (hx : XV e x (.row cs len s)) (hy : XV e y (.int k m)) (hm : 0 ≤ m ∧ m < (len : Int)) (hn : s.size = n) (h : K (.eptr cs (m.toNat * n) s) fs) : WO S F (oIaddr n x y) e fs K := o_val (fun c L ts h0 h1 _ => by simp only [oIaddr, hx L ts h1, hy L ts h1]; rw [if_pos ⟨hm.1, hm.2, hn⟩]) h
theorem o_idx {x y : AX} {s : ByteArray} {k : IntKind} {m : Int} {b : UInt8} {K : KK} (hx : XV e x (.str s)) (hy : XV e y (.int k m)) (hm : 0 ≤ m) (hb : s.data.toList[m.toNat]? = some b) (h : K (.int .u8 b.toNat) fs) : WO S F (oIdx x y) e fs K := o_val (fun c L ts h0 h1 _ => by simp only [oIdx, hx L ts h1, hy L ts h1]; rw [if_pos hm, hb]) h
theorem o_extract {n : Nat} {x : AX} {vs : List AV} {v : AV} {K : KK} (hx : XV e x (.tup vs)) (hv : vs[n]? = some v) (h : K v fs) : WO S F (oExtract x n) e fs K := o_val (fun c L ts h0 h1 _ => by simp only [oExtract, hx L ts h1, hv]) h
theorem o_lens {x : AX} {s : ByteArray} {K : KK} (hx : XV e x (.str s)) (h : K (.int .i64 s.size) fs) : WO S F (oLenS x) e fs K := o_val (fun c L ts h0 h1 _ => by simp only [oLenS, hx L ts h1]) h
theorem o_lenr {x : AX} {cs : List AV} {len : Nat} {s : Src} {K : KK} (hx : XV e x (.row cs len s)) (h : K (.int .i64 len) fs) : WO S F (oLenR x) e fs K := o_val (fun c L ts h0 h1 _ => by simp only [oLenR, hx L ts h1]) h
theorem o_lenn {x : AX} {K : KK} (hx : XV e x .nilrow) (h : K (.int .i64 0) fs) : WO S F (oLenR x) e fs K := o_val (fun c L ts h0 h1 _ => by simp only [oLenR, hx L ts h1]) h
theorem o_lenm {x : AX} {i : Nat} {es : List (AV × AV × Nat)} {c : Nat} {K : KK} (hx : XV e x (.map i)) (hf : Has fs (.blk i (.map es c))) (h : K (.int .i64 es.length) fs) : WO S F (oLenM x) e fs K := o_val (fun c L ts h0 h1 h2 => by simp only [oLenM, hx L ts h1, h2.get hf]) h
/-- A row's place may be read. -/
inductive Rd (fs : List Fact) (s : Src) : Prop
  | frz : s.fam = 0 → Rd fs s
  | own {m : Nat} : Has fs (.row s.fam s.id m) → Rd fs s
theorem Rd.ok {s : Src} (h : Rd fs s) {h0 : AH} (hH : RH h0 fs) : h0.ok s = true := by
  cases h with
  | frz h1 => simp only [AH.ok, h1]; rfl
  | own h1 => exact hH.ok h1
theorem Rd.cons {s : Src} {x : Fact} (h : Rd fs s) : Rd (x :: fs) s := by
  cases h with
  | frz h1 => exact .frz h1
  | own h1 => exact .own (.there h1)
theorem Rd.adv {s : Src} (h : Rd fs s) (n : Nat) : Rd fs (s.adv n) := by
  cases h with
  | frz h1 => exact .frz (by rw [adv_fam]; exact h1)
  | own h1 =>
    obtain ⟨f, i, p, z⟩ := s
    cases f with
    | zero => exact .frz rfl
    | succ f => exact .own h1
theorem Put.keep {fs fs' : List Fact} {x y z : Fact} (hp : Put fs x y fs') (h : Has fs z) (hz : z ≠ x) : Has fs' z := by
  induction hp with
  | here =>
    cases h with
    | here => exact absurd rfl hz
    | there h => exact .there h
  | there _ ih =>
    cases h with
    | here => exact .here
    | there h => exact .there (ih h hz)
theorem Rd.put {s : Src} {i : Nat} {a b : ABlk} (h : Rd fs s) (hp : Put fs (.blk i a) (.blk i b) fs') : Rd fs' s := by
  cases h with
  | frz h1 => exact .frz h1
  | own h1 => exact .own (hp.keep h1 (by intro e; cases e))
theorem o_loadr {g : Option Nat} {x : AX} {off : Nat} {cs : List AV} {s : Src} {v : AV} {K : KK} (hx : XV e x (.eptr cs off s)) (hs : Rd fs s) (hp : apart cs off g = some v) (h : K v fs) : WO S F (oLoad g x) e fs K := o_val (fun c L ts h0 h1 h2 => by simp only [oLoad, hx L ts h1, hs.ok h2, hp]) h
theorem o_cutr {n : Nat} {x : AX} {lo hi : Option AX} {cs : List AV} {len : Nat} {s : Src} {a b : Option AV} {p q : Nat} {K : KK} (hx : XV e x (.row cs len s)) (hs : Rd fs s) (hn : s.size = n) (hl : XO e lo a) (hh : XO e hi b) (hb : bounds len a b = some (p, q)) (h : K (.row ((cs.drop (p * n)).take ((q - p) * n)) (q - p) (s.adv (p * n))) fs) : WO S F (oCutrow n x lo hi) e fs K := o_val (fun c L ts h0 h1 h2 => by
  simp only [oCutrow, hx L ts h1, hl.opt h1, hh.opt h1, hb]; rw [if_pos ⟨hs.ok h2, hn⟩]) h
/-- A row, or none. -/
inductive RV (fs : List Fact) (size : Nat) : AV → List AV → Nat → Prop
  | nil : RV fs size .nilrow [] 0
  | row {cs : List AV} {n : Nat} {s : Src} : Rd fs s → s.size = size → RV fs size (.row cs n s) cs n
theorem o_len {x : AX} {v : AV} {cs : List AV} {n size : Nat} {K : KK} (hx : XV e x v) (hv : RV fs size v cs n) (h : K (.int .i64 n) fs) : WO S F (oLenR x) e fs K := by
  cases hv with
  | nil => exact o_lenn hx h
  | row _ _ => exact o_lenr hx h
theorem RV.cons {size : Nat} {v : AV} {cs : List AV} {n : Nat} {x : Fact} (h : RV fs size v cs n) : RV (x :: fs) size v cs n := by
  cases h with
  | nil => exact .nil
  | row h1 h2 => exact .row h1.cons h2
theorem RV.put {size : Nat} {v : AV} {cs : List AV} {n i : Nat} {a b : ABlk} (h : RV fs size v cs n) (hp : Put fs (.blk i a) (.blk i b) fs') : RV fs' size v cs n := by
  cases h with
  | nil => exact .nil
  | row h1 h2 => exact .row (h1.put hp) h2
/-- A row that may be read. -/
inductive XR (e : Env) (fs : List Fact) (x : AX) (size : Nat) : List AV → Nat → Prop
  | nil : XV e x .nilrow → XR e fs x size [] 0
  | frz {cs : List AV} {n : Nat} {s : Src} : XV e x (.row cs n s) → s.fam = 0 → s.size = size → XR e fs x size cs n
  | own {cs : List AV} {n m : Nat} {s : Src} : XV e x (.row cs n s) → Has fs (.row s.fam s.id m) → s.size = size → XR e fs x size cs n
theorem XR.row {x : AX} {size : Nat} {cs : List AV} {n : Nat} (hx : XR e fs x size cs n) {L : Nat} {ts : Tmps} {h : AH} (h1 : Rp L ts e) (h2 : RH h fs) : rowOf h size (x ts) = some (cs, n) := by
  cases hx with
  | nil hx => rw [hx L ts h1]; rfl
  | frz hx h3 h4 =>
    rw [hx L ts h1]
    have : ∀ s : Src, s.fam = 0 → h.ok s = true := fun s hs => by simp only [AH.ok, hs]; rfl
    simp only [rowOf]; rw [if_pos ⟨this _ h3, h4⟩]
  | own hx h3 h4 => rw [hx L ts h1]; simp only [rowOf]; rw [if_pos ⟨h2.ok h3, h4⟩]
theorem o_appn {size bytes : Nat} {a x : AX} {cs : List AV} {n : Nat} {K : KK} (ha : XV e a .nilrow) (hx : XR e fs x size cs n) (hs : cs.all scalar = true) (hn : n ≠ 0) (hb : n * bytes ≤ 70368744177664 ∧ n ≤ 70368744177664) (h : ∀ f id, K (.row cs n ⟨f, id, 0, size⟩) (.row f id (n * size) :: fs)) : WO S F (oAppend size bytes a x) e fs K := fun L ts h0 h1 h2 =>
  ⟨_, _, _, h2.newRow (n * size) size, h _ _, 0, fun m _ => by simp only [oAppend, hx.row h1 h2, hs, ha L ts h1]; rw [if_neg hn, if_pos hb]; rfl⟩
theorem o_appn0 {size bytes : Nat} {a x : AX} {cs : List AV} {K : KK} (ha : XV e a .nilrow) (hx : XR e fs x size cs 0) (hs : cs.all scalar = true) (h : K .nilrow fs) : WO S F (oAppend size bytes a x) e fs K := fun L ts h0 h1 h2 =>
  ⟨_, _, _, h2, h, 0, fun m _ => by simp only [oAppend, hx.row h1 h2, hs, ha L ts h1]; rw [if_pos trivial]⟩
theorem o_appo {size bytes : Nat} {a x : AX} {ds cs : List AV} {len n m : Nat} {r : Src} {fs' : Nat → List Fact} {K : KK} (ha : XV e a (.row ds len r)) (hx : XR e fs x size cs n) (hs : cs.all scalar = true) (hn : n ≠ 0) (hb : (len + n) * bytes ≤ 70368744177664 ∧ len + n ≤ 70368744177664) (hz : r.size = size)
    (hp : ∀ id, Put fs (.row r.fam r.id m) (.row r.fam id (r.pos + len * size + n * size)) (fs' id)) (h : ∀ id, K (.row (ds ++ cs) (len + n) ⟨r.fam, id, r.pos, r.size⟩) (fs' id)) : WO S F (oAppend size bytes a x) e fs K := fun L ts h0 h1 h2 => by
  have hf : r.fam ≠ 0 := (h2.holds _ (hp 0).has.mem).1
  have hok : h0.ok r = true := h2.ok (hp 0).has
  refine ⟨_, _, _, h2.regrow (s := r) (n * size) (hp _), h _, 0, fun m' _ => ?_⟩
  simp only [oAppend, hx.row h1 h2, hs, ha L ts h1]
  rw [if_neg (by rintro (h3 | h3 | h3); exact hf h3; exact h3 hz; rw [hok] at h3; cases h3), if_neg hn, if_pos hb]
  rfl
theorem o_appo0 {size bytes : Nat} {a x : AX} {ds cs : List AV} {len m : Nat} {r : Src} {K : KK} (ha : XV e a (.row ds len r)) (hx : XR e fs x size cs 0) (hs : cs.all scalar = true) (hz : r.size = size) (hp : Has fs (.row r.fam r.id m)) (h : K (.row ds len r) fs) : WO S F (oAppend size bytes a x) e fs K := fun L ts h0 h1 h2 => by
  have hf : r.fam ≠ 0 := (h2.holds _ hp.mem).1
  have hok : h0.ok r = true := h2.ok hp
  refine ⟨_, _, _, h2, h, 0, fun m' _ => ?_⟩
  simp only [oAppend, hx.row h1 h2, hs, ha L ts h1]
  rw [if_neg (by rintro (h3 | h3 | h3); exact hf h3; exact h3 hz; rw [hok] at h3; cases h3), if_pos trivial]
theorem aeval_sum {g : FuncId} {s : List AV → AH → Option (AV × AH)} (hS : S g = some s) (n : Nat) (args : List AV) (h : AH) : aeval S F (n + 1) g args h = s args h := by
  have e0 : aeval S F (n + 1) g args h = match S g with
    | some s => s args h
    | none => match F g with
      | none => none
      | some fn => match fn.body (aeval S F n) n (args ++ List.replicate (fn.ntmps - args.length) (.tup [])) h.bare with
        | some (.normal, ts, h) | some (.ret, ts, h) => (match runD (dcall S F (aeval S F n) n) h.defs h with
          | some h => (match fn.results ts h with | some v => some (v, h) | none => none)
          | none => none)
        | _ => none := rfl
  rw [e0, hS]
theorem ev_sum {g : FuncId} {s : List AV → AH → Option (AV × AH)} {vs : List AV} {K : KK} (hS : S g = some s) (h : SC s vs fs K) : Ev S F g vs fs K := fun h0 h2 => by
  obtain ⟨v, h', fs', h3, h4, h5⟩ := h h0 h2
  refine ⟨v, h', fs', h3, h4, 1, fun n hn => ?_⟩
  obtain ⟨m, rfl⟩ : ∃ m, n = m + 1 := ⟨n - 1, by omega⟩
  rw [aeval_sum hS, h5]
theorem o_call {g : FuncId} {l : List AX} {vs : List AV} {K : KK} (hl : XVs e l vs) (h : Ev S F g vs fs K) : WO S F (oCall g l) e fs K := fun L ts h0 h1 h2 => by
  obtain ⟨v, h', fs', h3, h4, N, h5⟩ := h h0 h2
  exact ⟨v, h', fs', h3, h4, N, fun n hn => by simp only [oCall, hl.vals h1]; exact h5 n hn⟩
theorem o_callf {f : AX} {g : FuncId} {cs : List AV} {l : List AX} {vs : List AV} {K : KK} (hf : XV e f (.fn g cs)) (hl : XVs e l vs) (h : Ev S F g (vs ++ cs) fs K) : WO S F (oCallv f l) e fs K := fun L ts h0 h1 h2 => by
  obtain ⟨v, h', fs', h3, h4, N, h5⟩ := h h0 h2
  exact ⟨v, h', fs', h3, h4, N, fun n hn => by simp only [oCallv, hf L ts h1, hl.vals h1]; exact h5 n hn⟩
theorem o_callm {f : AX} {g : FuncId} {cs : List AV} {l : List AX} {vs : List AV} {K : KK} (hf : XV e f (.mfn g cs)) (hl : XVs e l vs) (h : Ev S F g (cs ++ vs) fs K) : WO S F (oCallv f l) e fs K := fun L ts h0 h1 h2 => by
  obtain ⟨v, h', fs', h3, h4, N, h5⟩ := h h0 h2
  exact ⟨v, h', fs', h3, h4, N, fun n hn => by simp only [oCallv, hf L ts h1, hl.vals h1]; exact h5 n hn⟩
theorem o_map {K : KK} (h : ∀ i, K (.map i) (.blk i (.map [] 0) :: fs)) : WO S F oMap e fs K := fun L ts h0 h1 h2 => ⟨.map h0.next, h0.new (.map [] 0), _, h2.new _, h h0.next, 0, fun n _ => rfl⟩
theorem o_lookup {q : Nat} {z : AV} {ok : Bool} {m k : AX} {i : Nat} {es : List (AV × AV × Nat)} {c : Nat} {kv : AV} {r : Option AV} {K : KK} (hm : XV e m (.map i)) (hk : XV e k kv) (hf : Has fs (.blk i (.map es c))) (hi : isKey kv = true) (hr : findA q kv es = some r) (h : K (match ok with | true => .tup [r.getD z, .bool r.isSome] | false => r.getD z) fs) : WO S F (oLookup q z ok m k) e fs K := o_val (fun _ L ts h0 h1 h2 => by simp only [oLookup, hk L ts h1, hi, hm L ts h1, entries, h2.get hf, hr]; cases ok <;> rfl) h
theorem o_set {q : Nat} {m k v : AX} {i : Nat} {es : List (AV × AV × Nat)} {c : Nat} {kv vv : AV} {r : AV} {K : KK} (hm : XV e m (.map i)) (hk : XV e k kv) (hv : XV e v vv) (hi : isKey kv = true) (hr : findA q kv es = some (some r)) (hp : Put fs (.blk i (.map es c)) (.blk i (.map (setA q kv vv es) c)) fs') (h : K (.tup []) fs') : WO S F (oSet q m k v) e fs K := fun L ts h0 h1 h2 =>
  ⟨.tup [], _, fs', h2.put hp, h, 0, fun n _ => by simp only [oSet, hk L ts h1, hi, hm L ts h1, hv L ts h1, h2.get hp.has, hr]⟩
theorem o_setn {q : Nat} {m k v : AX} {i : Nat} {es : List (AV × AV × Nat)} {c : Nat} {kv vv : AV} {K : KK} (hm : XV e m (.map i)) (hk : XV e k kv) (hv : XV e v vv) (hi : isKey kv = true) (hr : findA q kv es = some none) (hp : Put fs (.blk i (.map es c)) (.blk i (.map (es ++ [(kv, vv, c)]) (c + 1))) fs') (h : K (.tup []) fs') : WO S F (oSet q m k v) e fs K := fun L ts h0 h1 h2 =>
  ⟨.tup [], _, fs', h2.put hp, h, 0, fun n _ => by simp only [oSet, hk L ts h1, hi, hm L ts h1, hv L ts h1, h2.get hp.has, hr]⟩
theorem o_del {q : Nat} {m k : AX} {i : Nat} {es : List (AV × AV × Nat)} {c : Nat} {kv : AV} {r : Option AV} {K : KK} (hm : XV e m (.map i)) (hk : XV e k kv) (hi : isKey kv = true) (hr : findA q kv es = some r) (hp : Put fs (.blk i (.map es c)) (.blk i (.map (delA q kv es) c)) fs') (h : K (.tup []) fs') : WO S F (oDelete q m k) e fs K := fun L ts h0 h1 h2 =>
  ⟨.tup [], _, fs', h2.put hp, h, 0, fun n _ => by simp only [oDelete, hk L ts h1, hi, hm L ts h1, h2.get hp.has, hr]⟩
/-! Code -/
theorem w_skip {Q : AO → Env → List Fact → Prop} (h : Q .normal e fs) : WC S F kSkip L e fs Q := fun ts h' h1 h2 => ⟨_, ts, h', e, fs, h1, ⟨h2, rfl⟩, h, 0, fun n _ => rfl⟩
theorem w_ret {Q : AO → Env → List Fact → Prop} (h : Q .ret e fs) : WC S F kRet L e fs Q := fun ts h' h1 h2 => ⟨_, ts, h', e, fs, h1, ⟨h2, rfl⟩, h, 0, fun n _ => rfl⟩
theorem w_exit {id : Nat} {Q : AO → Env → List Fact → Prop} (h : Q (.exit id) e fs) : WC S F (kExit id) L e fs Q := fun ts h' h1 h2 => ⟨_, ts, h', e, fs, h1, ⟨h2, rfl⟩, h, 0, fun n _ => rfl⟩
theorem w_reg {r : KR} {Q : AO → Env → List Fact → Prop} (h : WG S F r L e fs fun e' fs' => Q .normal e' fs') : WC S F (kReg r) L e fs Q := fun ts h0 h1 h2 => by
  obtain ⟨ts', h', e', fs', k1, k2, k3, N, k4⟩ := h ts h0 h1 h2
  refine ⟨.normal, ts', h'.keep h0, e', fs', k1, ⟨k2.keep h0, rfl⟩, k3, N, fun n hn => ?_⟩
  simp only [kReg, k4 n hn]
theorem w_seq {a b : KC} {Q : AO → Env → List Fact → Prop} (h : WC S F a L e fs fun ao e' fs' => match ao with | .normal => WC S F b L e' fs' Q | o => Q o e' fs') : WC S F (kSeq a b) L e fs Q := fun ts h0 h1 h2 => by
  obtain ⟨ao, ts', h', e', fs', k1, k2, k3, N, k4⟩ := h ts h0 h1 h2
  cases ao with
  | normal =>
    obtain ⟨ao2, ts2, h2', e2, fs2, g1, g2, g3, M, g4⟩ := k3 ts' h' k1 k2.rh
    refine ⟨ao2, ts2, h2', e2, fs2, g1, ⟨g2.rh, g2.same.trans k2.same⟩, g3, max N M, fun n hn => ?_⟩
    simp only [kSeq, k4 n (by omega)]
    exact g4 n (by omega)
  | exit i => exact ⟨.exit i, ts', h', e', fs', k1, k2, k3, N, fun n hn => by simp only [kSeq, k4 n hn]⟩
  | ret => exact ⟨.ret, ts', h', e', fs', k1, k2, k3, N, fun n hn => by simp only [kSeq, k4 n hn]⟩
/-- A region and what is behind it. -/
theorem w_rs {r : KR} {b : KC} {Q : AO → Env → List Fact → Prop} (h : WG S F r L e fs fun e' fs' => WC S F b L e' fs' Q) : WC S F (kSeq (kReg r) b) L e fs Q := w_seq (w_reg h)
theorem w_assoc {a b c : KC} {Q : AO → Env → List Fact → Prop} (h : WC S F (kSeq a (kSeq b c)) L e fs Q) : WC S F (kSeq (kSeq a b) c) L e fs Q := fun ts h0 h1 h2 => by
  obtain ⟨ao, ts', h', e', fs', k1, k2, k3, N, k4⟩ := h ts h0 h1 h2
  refine ⟨ao, ts', h', e', fs', k1, k2, k3, N, fun n hn => ?_⟩
  have := k4 n hn
  simp only [kSeq] at this ⊢
  cases ha : a (aeval S F n) n ts h0 with
  | none => rw [ha] at this; cases this
  | some x =>
    obtain ⟨o, t, g⟩ := x
    rw [ha] at this
    cases o with
    | normal =>
      simp only at this ⊢
      cases hb : b (aeval S F n) n t g with
      | none => rw [hb] at this; cases this
      | some x =>
        obtain ⟨o, t', g'⟩ := x
        rw [hb] at this
        cases o <;> simpa using this
    | exit i => simpa using this
    | ret => simpa using this
theorem w_cond {c : AX} {b : Bool} {x y : KC} {Q : AO → Env → List Fact → Prop} (hc : XV e c (.bool b)) (h : WC S F (match b with | true => x | false => y) L e fs Q) : WC S F (kCond c x y) L e fs Q := fun ts h0 h1 h2 => by
  obtain ⟨ao, ts', h', e', fs', k1, k2, k3, N, k4⟩ := h ts h0 h1 h2
  refine ⟨ao, ts', h', e', fs', k1, k2, k3, N, fun n hn => ?_⟩
  have := k4 n hn
  simp only [kCond, hc L ts h1]
  cases b <;> exact this
theorem w_block {id : Nat} {a : KC} {Q : AO → Env → List Fact → Prop} (h : WC S F a L e fs fun ao e' fs' => match ao with | .exit i => (match Nat.beq i id with | true => Q .normal e' fs' | false => Q (.exit i) e' fs') | o => Q o e' fs') : WC S F (kBlock id a) L e fs Q := fun ts h0 h1 h2 => by
  obtain ⟨ao, ts', h', e', fs', k1, k2, k3, N, k4⟩ := h ts h0 h1 h2
  cases ao with
  | normal => exact ⟨.normal, ts', h', e', fs', k1, k2, k3, N, fun n hn => by simp only [kBlock, k4 n hn]⟩
  | ret => exact ⟨.ret, ts', h', e', fs', k1, k2, k3, N, fun n hn => by simp only [kBlock, k4 n hn]⟩
  | exit i =>
    simp only at k3
    cases hb : Nat.beq i id with
    | true => rw [hb] at k3; exact ⟨.normal, ts', h', e', fs', k1, k2, k3, N, fun n hn => by simp only [kBlock, k4 n hn, hb]⟩
    | false => rw [hb] at k3; exact ⟨.exit i, ts', h', e', fs', k1, k2, k3, N, fun n hn => by simp only [kBlock, k4 n hn, hb]⟩
theorem w_loop {a : KC} {Q : AO → Env → List Fact → Prop} (h : WL S F a L e fs Q) : WC S F (kLoop a) L e fs Q := fun ts h0 h1 h2 => by
  obtain ⟨ao, ts', h', e', fs', k1, k2, k3, N, k4⟩ := h ts h0 h1 h2
  exact ⟨ao, ts', h', e', fs', k1, k2, k3, N, fun n hn => k4 n n hn hn⟩
/-- A loop's round, and the rounds behind it. -/
theorem l_round {a : KC} {Q : AO → Env → List Fact → Prop} (h : WC S F a L e fs fun ao e' fs' => match ao with | .normal => WL S F a L e' fs' Q | o => Q o e' fs') : WL S F a L e fs Q := fun ts h0 h1 h2 => by
  obtain ⟨ao, ts', h', e', fs', k1, k2, k3, N, k4⟩ := h ts h0 h1 h2
  have st : ∀ n j, aloop (a (aeval S F n) n) (j + 1) ts h0 = match a (aeval S F n) n ts h0 with
    | some (.normal, ts, h) => aloop (a (aeval S F n) n) j ts h
    | r => r := fun n j => rfl
  have sj : ∀ j : Nat, N + 1 ≤ j → ∃ m, j = m + 1 ∧ N ≤ m := fun j hj => ⟨j - 1, by omega, by omega⟩
  cases ao with
  | normal =>
    obtain ⟨ao2, ts2, h2', e2, fs2, g1, g2, g3, M, g4⟩ := k3 ts' h' k1 k2.rh
    refine ⟨ao2, ts2, h2', e2, fs2, g1, ⟨g2.rh, g2.same.trans k2.same⟩, g3, N + M + 1, fun n j hn hj => ?_⟩
    obtain ⟨m, rfl, hm⟩ := sj j (by omega)
    rw [st, k4 n (by omega)]
    exact g4 n m (by omega) (by omega)
  | exit i =>
    refine ⟨.exit i, ts', h', e', fs', k1, k2, k3, N + 1, fun n j hn hj => ?_⟩
    obtain ⟨m, rfl, hm⟩ := sj j hj
    rw [st, k4 n (by omega)]
  | ret =>
    refine ⟨.ret, ts', h', e', fs', k1, k2, k3, N + 1, fun n j hn hj => ?_⟩
    obtain ⟨m, rfl, hm⟩ := sj j hj
    rw [st, k4 n (by omega)]
/-- Other words for what is known. -/
theorem Rp.sub {L : Nat} {ts : Tmps} {e e' : Env} (h : Rp L ts e) (hs : ∀ k v, lk e' k = some v → lk e k = some v) : Rp L ts e' := ⟨h.1, fun k v hk => h.2 k v (hs k v hk)⟩
inductive Sub (e : Env) : Env → Prop
  | nil : Sub e []
  | cons {k : Nat} {v : AV} {r : Env} : lk e k = some v → Sub e r → Sub e ((k, v) :: r)
theorem Sub.lk {e r : Env} (h : Sub e r) : ∀ k v, EvA.lk r k = some v → EvA.lk e k = some v := by
  induction h with
  | nil => intro k v hk; cases hk
  | cons h1 _ ih =>
    intro k v hk
    rw [lk_cons] at hk
    split at hk
    · rename_i hke; subst hke; obtain rfl := Option.some.inj hk; exact h1
    · exact ih k v hk
theorem l_sub {a : KC} {e' : Env} {Q : AO → Env → List Fact → Prop} (hs : Sub e e') (hf : ∀ h, RH h fs → RH h fs') (h : WL S F a L e' fs' Q) : WL S F a L e fs Q := fun ts h0 h1 h2 => h ts h0 (h1.sub hs.lk) (hf h0 h2)
theorem w_sub {k : KC} {e' : Env} {Q : AO → Env → List Fact → Prop} (hs : Sub e e') (hf : ∀ h, RH h fs → RH h fs') (h : WC S F k L e' fs' Q) : WC S F k L e fs Q := fun ts h0 h1 h2 => h ts h0 (h1.sub hs.lk) (hf h0 h2)
theorem g_sub {r : KR} {e' : Env} {Q : Env → List Fact → Prop} (hs : Sub e e') (hf : ∀ h, RH h fs → RH h fs') (h : WG S F r L e' fs' Q) : WG S F r L e fs Q := fun ts h0 h1 h2 => h ts h0 (h1.sub hs.lk) (hf h0 h2)
theorem w_mono {k : KC} {Q Q' : AO → Env → List Fact → Prop} (h : WC S F k L e fs Q) (hq : ∀ o e fs, Q o e fs → Q' o e fs) : WC S F k L e fs Q' := fun ts h0 h1 h2 => by
  obtain ⟨ao, ts', h', e', fs', k1, k2, k3, N, k4⟩ := h ts h0 h1 h2
  exact ⟨ao, ts', h', e', fs', k1, k2, hq _ _ _ k3, N, k4⟩
theorem l_mono {k : KC} {Q Q' : AO → Env → List Fact → Prop} (h : WL S F k L e fs Q) (hq : ∀ o e fs, Q o e fs → Q' o e fs) : WL S F k L e fs Q' := fun ts h0 h1 h2 => by
  obtain ⟨ao, ts', h', e', fs', k1, k2, k3, N, k4⟩ := h ts h0 h1 h2
  exact ⟨ao, ts', h', e', fs', k1, k2, hq _ _ _ k3, N, k4⟩
theorem ev_mono {f : FuncId} {args : List AV} {K K' : KK} (h : Ev S F f args fs K) (hq : ∀ v fs, K v fs → K' v fs) : Ev S F f args fs K' := fun h0 h2 => by
  obtain ⟨v, h', fs', k2, k3, N, k4⟩ := h h0 h2
  exact ⟨v, h', fs', k2, hq _ _ k3, N, k4⟩
/-- A place at which less is said. -/
theorem w_mid {a b : KC} {Q : AO → Env → List Fact → Prop} (M : Env → List Fact → Prop) (ha : WC S F a L e fs fun ao e' fs' => ao = .normal ∧ M e' fs') (hb : ∀ e' fs', M e' fs' → WC S F b L e' fs' Q) : WC S F (kSeq a b) L e fs Q :=
  w_seq (w_mono ha fun o e' fs' ⟨h1, h2⟩ => by subst h1; exact hb e' fs' h2)
theorem XR.ofRd {x : AX} {cs : List AV} {n : Nat} {s : Src} {size : Nat} (hx : XV e x (.row cs n s)) (h : Rd fs s) (hz : s.size = size) : XR e fs x size cs n := by
  cases h with
  | frz h1 => exact .frz hx h1 hz
  | own h1 => exact .own hx h1 hz
/-- What is known stays known. -/
def Grows (fs fs' : List Fact) : Prop := ∀ x, Has fs x → Has fs' x
theorem Grows.trans {a b c : List Fact} (h : Grows a b) (k : Grows b c) : Grows a c := fun x hx => k x (h x hx)
theorem Rd.grows {s : Src} (h : Rd fs s) (g : Grows fs fs') : Rd fs' s := by
  cases h with
  | frz h1 => exact .frz h1
  | own h1 => exact .own (g _ h1)
theorem RV.grows {size : Nat} {v : AV} {cs : List AV} {n : Nat} (h : RV fs size v cs n) (g : Grows fs fs') : RV fs' size v cs n := by
  cases h with
  | nil => exact .nil
  | row h1 h2 => exact .row (h1.grows g) h2
theorem RV.some {size : Nat} {v : AV} {cs : List AV} {n : Nat} (h : RV fs size v cs n) (hn : 0 < n) : ∃ s, v = .row cs n s ∧ Rd fs s ∧ s.size = size := by
  cases h with
  | nil => omega
  | row h1 h2 => exact ⟨_, rfl, h1, h2⟩
theorem RV.scalar {size : Nat} {v : AV} {cs : List AV} {n : Nat} (h : RV fs size v cs n) : EvA.scalar v = true := by
  cases h <;> rfl
/-- A row that came in. -/
inductive RI (size : Nat) : AV → List AV → Nat → Prop
  | nil : RI size .nilrow [] 0
  | row {cs : List AV} {n : Nat} {s : Src} : s.fam = 0 → s.size = size → (n = 0 → s.id = 2) → cs.length = n * size → cs.all EvA.scalar = true → RI size (.row cs n s) cs n
theorem RI.rv {size : Nat} {v : AV} {cs : List AV} {n : Nat} (h : RI size v cs n) : RV fs size v cs n := by
  cases h with
  | nil => exact .nil
  | row h1 h2 _ _ _ => exact .row (.frz h1) h2
theorem RI.some {size : Nat} {v : AV} {cs : List AV} {n : Nat} (h : RI size v cs n) (hn : 0 < n) : ∃ s, v = .row cs n s ∧ s.fam = 0 ∧ s.size = size := by
  cases h with
  | nil => omega
  | row h1 h2 _ _ _ => exact ⟨_, rfl, h1, h2⟩
theorem RI.cells {size : Nat} {v : AV} {cs : List AV} {n : Nat} (h : RI size v cs n) : v.cells = [v] := by
  cases h <;> rfl
/-- A row that is made by appending. -/
inductive AR (size : Nat) : AV → List AV → Nat → List Fact → Prop
  | nil : AR size .nilrow [] 0 []
  | own {cs : List AV} {n f id : Nat} : n ≠ 0 → AR size (.row cs n ⟨f, id, 0, size⟩) cs n [.row f id (n * size)]
/-! Functions -/
inductive XRes (e : Env) (fs : List Fact) : (Tmps → AH → Option AV) → AV → Prop
  | none : XRes e fs rNone (.tup [])
  | tmp {t : Nat} {v : AV} : lk e t = some v → XRes e fs (rTmp t) v
  | cell {t i off : Nat} {g : Option Nat} {cs : List AV} {v : AV} : lk e t = some (.ptr i off) → Has fs (.blk i (.cells cs)) → apart cs off g = some v → XRes e fs (rCell t g) v
theorem XRes.run {r : Tmps → AH → Option AV} {v : AV} (h : XRes e fs r v) {ts : Tmps} {h0 : AH} (h1 : Rp L ts e) (h2 : RH h0 fs) : r ts h0 = some v := by
  cases h with
  | none => rfl
  | tmp h3 => simp only [rTmp, h1.2 _ _ h3]
  | cell h3 h4 h5 => simp only [rCell, h1.2 _ _ h3, h2.get h4, h5]
inductive XRess (e : Env) (fs : List Fact) : List (Tmps → AH → Option AV) → List AV → Prop
  | nil : XRess e fs [] []
  | cons {r : Tmps → AH → Option AV} {v : AV} {l : List (Tmps → AH → Option AV)} {m : List AV} : XRes e fs r v → XRess e fs l m → XRess e fs (r :: l) (v :: m)
inductive XRt (e : Env) (fs : List Fact) : (Tmps → AH → Option AV) → AV → Prop
  | one {r : Tmps → AH → Option AV} {v : AV} : XRes e fs r v → XRt e fs r v
  | tup {l : List (Tmps → AH → Option AV)} {m : List AV} : XRess e fs l m → XRt e fs (rTup l) (.tup m)
theorem XRt.run {r : Tmps → AH → Option AV} {v : AV} (h : XRt e fs r v) {ts : Tmps} {h0 : AH} (h1 : Rp L ts e) (h2 : RH h0 fs) : r ts h0 = some v := by
  cases h with
  | one h => exact h.run h1 h2
  | tup h =>
    rename_i l m
    have : l.mapM (fun r => r ts h0) = some m := by
      induction h with
      | nil => rfl
      | cons h3 _ ih => simp only [List.mapM_cons, h3.run h1 h2, ih]; rfl
    simp only [rTup, this]
def argE : List AV → Nat → Env
  | [], _ => []
  | a :: l, n => (n, a) :: argE l (n + 1)
theorem argE_lk : ∀ (l : List AV) (n k : Nat) (v : AV), lk (argE l n) k = some v → n ≤ k ∧ l[k - n]? = some v
  | [], n, k, v, h => by cases h
  | a :: l, n, k, v, h => by
    simp only [argE] at h
    rw [lk_cons] at h
    split at h
    · rename_i e; subst e; obtain rfl := Option.some.inj h; exact ⟨Nat.le_refl _, by simp⟩
    · obtain ⟨h1, h2⟩ := argE_lk l (n + 1) k v h
      refine ⟨by omega, ?_⟩
      rw [show k - n = (k - (n + 1)) + 1 by omega, List.getElem?_cons_succ]; exact h2
theorem Rp_args {n : Nat} {args : List AV} (h : args.length ≤ n) : Rp n (args ++ List.replicate (n - args.length) (.tup [])) (argE args 0) := by
  refine ⟨by simp; omega, fun k v hk => ?_⟩
  obtain ⟨_, h2⟩ := argE_lk _ _ _ _ hk
  rw [Nat.sub_zero] at h2
  have hl := (List.getElem?_eq_some_iff.1 h2).1
  rw [nth_getD, List.getD_eq_getElem?_getD, List.getElem?_append_left hl, h2]; rfl
theorem ev_fn {f : FuncId} {nt : Nat} {kb : KC} {kr : Tmps → AH → Option AV} {args : List AV} {K : KK} (hF : F f = some ⟨nt, kb, kr⟩) (hS : S f = none) (ha : args.length ≤ nt)
    (h : WC S F kb nt (argE args 0) fs fun ao e fs' => (match ao with | .exit _ => False | _ => True) ∧ ∃ v fs2, XRt e fs' kr v ∧ fs2.Sublist fs' ∧ K v fs2) : Ev S F f args fs K := fun h0 h2 => by
  obtain ⟨ao, ts', h', e', fs', k1, k2, ⟨k3, v, fs2, k5, k7, k6⟩, N, k4⟩ := h _ h0.bare (Rp_args ha) h2.bare
  refine ⟨v, h', fs2, k2.rh.mono k7, k6, N + 1, fun n hn => ?_⟩
  obtain ⟨m, rfl⟩ : ∃ m, n = m + 1 := ⟨n - 1, by omega⟩
  have e0 : aeval S F (m + 1) f args h0 = match S f with
    | some s => s args h0
    | none => match F f with
      | none => none
      | some fn => match fn.body (aeval S F m) m (args ++ List.replicate (fn.ntmps - args.length) (.tup [])) h0.bare with
        | some (.normal, ts, h) | some (.ret, ts, h) => (match runD (dcall S F (aeval S F m) m) h.defs h with
          | some h => (match fn.results ts h with | some v => some (v, h) | none => none)
          | none => none)
        | _ => none := rfl
  have hd : h'.defs = [] := k2.same
  rw [e0, hS, hF]
  simp only
  rw [k4 m (by omega)]
  cases ao with
  | exit i => exact k3.elim
  | normal => simp only [hd, runD, k5.run k1 k2.rh]
  | ret => simp only [hd, runD, k5.run k1 k2.rh]
/-! A call that is deferred. -/
/-- Code behind which one call more is deferred. -/
def WD (S : Sum) (F : FuncId → Option AF) (k : KC) (L : Nat) (e : Env) (fs : List Fact) (Q : FuncId × List AV → AO → Env → List Fact → Prop) : Prop := ∀ ts h, Rp L ts e → RH h fs → ∃ d ao ts' h' e' fs', Rp L ts' e' ∧ RH h' fs' ∧ h'.defs = d :: h.defs ∧ Q d ao e' fs' ∧ ∃ N, ∀ n, N ≤ n → k (aeval S F n) n ts h = some (ao, ts', h')
theorem d_seq {a b : KC} {Q : FuncId × List AV → AO → Env → List Fact → Prop} (h : WC S F a L e fs fun ao e' fs' => ao = .normal ∧ WD S F b L e' fs' Q) : WD S F (kSeq a b) L e fs Q := fun ts h0 h1 h2 => by
  obtain ⟨ao, ts', h', e', fs', k1, k2, ⟨rfl, k3⟩, N, k4⟩ := h ts h0 h1 h2
  obtain ⟨d, ao2, ts2, h2', e2, fs2, g1, g2, g3, g5, M, g4⟩ := k3 ts' h' k1 k2.rh
  refine ⟨d, ao2, ts2, h2', e2, fs2, g1, g2, by rw [g3, k2.same], g5, max N M, fun n hn => ?_⟩
  simp only [kSeq, k4 n (by omega)]
  exact g4 n (by omega)
theorem d_rs {r : KR} {b : KC} {Q : FuncId × List AV → AO → Env → List Fact → Prop} (h : WG S F r L e fs fun e' fs' => WD S F b L e' fs' Q) : WD S F (kSeq (kReg r) b) L e fs Q := d_seq (w_reg (fun ts h0 h1 h2 => by
  obtain ⟨ts', h', e', fs', k1, k2, k3, k4⟩ := h ts h0 h1 h2
  exact ⟨ts', h', e', fs', k1, k2, ⟨rfl, k3⟩, k4⟩))
theorem d_assoc {a b c : KC} {Q : FuncId × List AV → AO → Env → List Fact → Prop} (h : WD S F (kSeq a (kSeq b c)) L e fs Q) : WD S F (kSeq (kSeq a b) c) L e fs Q := fun ts h0 h1 h2 => by
  obtain ⟨d, ao, ts', h', e', fs', k1, k2, k3, k5, N, k4⟩ := h ts h0 h1 h2
  refine ⟨d, ao, ts', h', e', fs', k1, k2, k3, k5, N, fun n hn => ?_⟩
  have := k4 n hn
  simp only [kSeq] at this ⊢
  cases ha : a (aeval S F n) n ts h0 with
  | none => rw [ha] at this; cases this
  | some x =>
    obtain ⟨o, t, g⟩ := x
    rw [ha] at this
    cases o with
    | normal =>
      simp only at this ⊢
      cases hb : b (aeval S F n) n t g with
      | none => rw [hb] at this; cases this
      | some x =>
        obtain ⟨o, t', g'⟩ := x
        rw [hb] at this
        cases o <;> simpa using this
    | exit i => simpa using this
    | ret => simpa using this
/-- The deferral itself, and what is behind it. -/
theorem d_def {r : KR} {x : AX} {args : List AX} {g : FuncId} {cs vs : List AV} {b : KC} {Q : FuncId × List AV → AO → Env → List Fact → Prop} (h : WG S F r L e fs fun e' fs' => XV e' x (.fn g cs) ∧ XVs e' args vs ∧ WC S F b L e' fs' (Q (g, vs ++ cs))) : WD S F (kSeq (kRegD r x args) b) L e fs Q := fun ts h0 h1 h2 => by
  obtain ⟨ts', h', e', fs', k1, k2, ⟨k3, k5, k6⟩, N, k4⟩ := h ts h0 h1 h2
  have hr : RH { h' with defs := (g, vs ++ cs) :: h0.defs } fs' := ⟨k2.holds, k2.nodup, k2.fn, k2.cid, k2.srt⟩
  obtain ⟨ao2, ts2, h2', e2, fs2, g1, g2, g3, M, g4⟩ := k6 ts' _ k1 hr
  refine ⟨_, ao2, ts2, h2', e2, fs2, g1, g2.rh, g2.same, g3, max N M, fun n hn => ?_⟩
  simp only [kSeq, kRegD, k4 n (by omega), k3 L ts' k1, k5.vals k1]
  exact g4 n (by omega)
/-- A function that defers a call. -/
theorem ev_fnd {f : FuncId} {nt : Nat} {kb : KC} {kr : Tmps → AH → Option AV} {args : List AV} {K : KK} (hF : F f = some ⟨nt, kb, kr⟩) (hS : S f = none) (ha : args.length ≤ nt)
    (h : WD S F kb nt (argE args 0) fs fun d ao e' fs' => (match ao with | .exit _ => False | _ => True) ∧ ∃ nt2 kb2 kr2, S d.1 = none ∧ F d.1 = some ⟨nt2, kb2, kr2⟩ ∧ d.2.length ≤ nt2 ∧ WC S F kb2 nt2 (argE d.2 0) fs' fun ao2 e2 fs2 => (match ao2 with | .exit _ => False | _ => True) ∧ (∃ u, XRt e2 fs2 kr2 u) ∧ ∃ v fs3, XRt e' fs2 kr v ∧ fs3.Sublist fs2 ∧ K v fs3) : Ev S F f args fs K := fun h0 h2 => by
  obtain ⟨d, ao, ts', h', e', fs', k1, k2, kd, ⟨k3, nt2, kb2, kr2, s1, s2, s3, k5⟩, N, k4⟩ := h _ h0.bare (Rp_args ha) h2.bare
  obtain ⟨ao2, ts2, h2', e2, fs2, g1, g2, ⟨g3, ⟨u, gu⟩, v, fs3, gv, gs, gK⟩, M, g4⟩ := k5 _ h'.bare (Rp_args s3) k2.bare
  have kd : h'.defs = [d] := kd
  have hd2 : h2'.defs = [] := g2.same
  refine ⟨v, h2', fs3, g2.rh.mono gs, gK, max N M + 1, fun n hn => ?_⟩
  obtain ⟨m, rfl⟩ : ∃ m, n = m + 1 := ⟨n - 1, by omega⟩
  have e0 : aeval S F (m + 1) f args h0 = match S f with
    | some s => s args h0
    | none => match F f with
      | none => none
      | some fn => match fn.body (aeval S F m) m (args ++ List.replicate (fn.ntmps - args.length) (.tup [])) h0.bare with
        | some (.normal, ts, h) | some (.ret, ts, h) => (match runD (dcall S F (aeval S F m) m) h.defs h with
          | some h => (match fn.results ts h with | some v => some (v, h) | none => none)
          | none => none)
        | _ => none := rfl
  have e1 : dcall S F (aeval S F m) m d.1 d.2 h' = some (u, h2') := by
    have e2' : dcall S F (aeval S F m) m d.1 d.2 h' = match S d.1 with
      | some _ => none
      | none => match F d.1 with
        | none => none
        | some fn => match fn.body (aeval S F m) m (d.2 ++ List.replicate (fn.ntmps - d.2.length) (.tup [])) h'.bare with
          | some (.normal, ts, h) | some (.ret, ts, h) => (match h.defs with
            | [] => (match fn.results ts h with | some v => some (v, h) | none => none)
            | _ => none)
          | _ => none := rfl
    rw [e2', s1, s2]
    simp only
    rw [g4 m (by omega)]
    cases ao2 with
    | exit i => exact g3.elim
    | normal => simp only [hd2, gu.run g1 g2.rh]
    | ret => simp only [hd2, gu.run g1 g2.rh]
  have e3 : runD (dcall S F (aeval S F m) m) h'.defs h' = some h2' := by rw [kd]; obtain ⟨d1, d2⟩ := d; simp only [runD, e1]
  rw [e0, hS, hF]
  simp only
  rw [k4 m (by omega)]
  cases ao with
  | exit i => exact k3.elim
  | normal => simp only [e3, gv.run k1 g2.rh]
  | ret => simp only [e3, gv.run k1 g2.rh]
/-! Regions whose reads may stand elsewhere. -/
mutual
theorem same_refl : ∀ v : AV, same v v = true
  | .bool b => by simp [same]
  | .int k n => by simp [same]
  | .str s => by simp [same]
  | .nilptr => rfl
  | .ptr i o => by simp only [same, Nat.beq_refl, Bool.and_self]
  | .eptr c o s => by simp only [same, sames_refl c, Nat.beq_refl, sameSrc, Bool.and_self]
  | .nilrow => rfl
  | .row c n s => by simp only [same, sames_refl c, Nat.beq_refl, sameSrc, Bool.and_self]
  | .nilmap => rfl
  | .map i => by simp only [same, Nat.beq_refl]
  | .nilfn => rfl
  | .fn f c => by simp only [same, sames_refl c, Nat.beq_refl, Bool.and_self]
  | .mfn f c => by simp only [same, sames_refl c, Nat.beq_refl, Bool.and_self]
  | .niliface => rfl
  | .iface t x => by simp only [same, same_refl x, Nat.beq_refl, Bool.and_self]
  | .agg c => by simp only [same, sames_refl c]
  | .tup c => by simp only [same, sames_refl c]
theorem sames_refl : ∀ l : List AV, sames l l = true
  | [] => rfl
  | a :: r => by simp only [sames, same_refl a, sames_refl r, Bool.and_self]
end
inductive RHs : List AH → List (List Fact) → Prop
  | nil : RHs [] []
  | cons {h : AH} {fs : List Fact} {l : List AH} {m : List (List Fact)} : RH h fs → RHs l m → RHs (h :: l) (fs :: m)
theorem RHs.get : ∀ {l : List AH} {m : List (List Fact)}, RHs l m → ∀ {i : Nat} {fs : List Fact}, m[i]? = some fs → ∃ h, l[i]? = some h ∧ RH h fs
  | _, _, .nil, i, fs, h => by simp at h
  | _, _, .cons h1 h2, 0, fs, h => by simp at h; subst h; exact ⟨_, rfl, h1⟩
  | _, _, .cons h1 h2, i + 1, fs, h => by
    obtain ⟨x, k1, k2⟩ := h2.get (i := i) (by simpa using h)
    exact ⟨x, by simpa using k1, k2⟩
def WH (S : Sum) (F : FuncId → Option AF) (sts : List KS) (L : Nat) (e : Env) (fs : List Fact) (Q : Env → List (List Fact) → Prop) : Prop := ∀ ts h, Rp L ts e → RH h fs → ∃ ts' hs e' fss, Rp L ts' e' ∧ RHs hs fss ∧ Q e' fss ∧ ∃ N, ∀ n, N ≤ n → runHs (aeval S F n) sts ts h = some (ts', hs)
theorem h_end {Q : Env → List (List Fact) → Prop} (h : Q e [fs]) : WH S F [] L e fs Q := fun ts h0 h1 h2 => ⟨ts, [h0], e, [fs], h1, .cons h2 .nil, h, 0, fun n _ => rfl⟩
theorem h_do {d : Nat} {o : KO} {r : List KS} {Q : Env → List (List Fact) → Prop} (hd : Nat.blt d L = true) (h : WO S F o e fs fun v fs' => WH S F r L ((d, v) :: e) fs' fun e' fss => Q e' (fs :: fss)) : WH S F (sDo d o :: r) L e fs Q := fun ts h0 h1 h2 => by
  obtain ⟨v, h', fs', h3, h4, N, h5⟩ := h L ts h0 h1 h2
  obtain ⟨ts', hs, e', fss, k1, k2, k3, M, k4⟩ := h4 _ h' (h1.upd hd v) h3
  refine ⟨ts', h0 :: hs, e', fs :: fss, k1, .cons h2 k2, k3, max N M, fun n hn => ?_⟩
  simp only [runHs, sDo, kDo, kEnd, h5 n (by omega), k4 n (by omega)]
theorem h_do0 {o : KO} {r : List KS} {Q : Env → List (List Fact) → Prop} (h : WO S F o e fs fun v fs' => WH S F r L e fs' fun e' fss => Q e' (fs :: fss)) : WH S F (sDo0 o :: r) L e fs Q := fun ts h0 h1 h2 => by
  obtain ⟨v, h', fs', h3, h4, N, h5⟩ := h L ts h0 h1 h2
  obtain ⟨ts', hs, e', fss, k1, k2, k3, M, k4⟩ := h4 _ h' h1 h3
  refine ⟨ts', h0 :: hs, e', fs :: fss, k1, .cons h2 k2, k3, max N M, fun n hn => ?_⟩
  simp only [runHs, sDo0, kDo0, kEnd, h5 n (by omega), k4 n (by omega)]
theorem h_if {t : Nat} {w : Bool} {d : Nat} {o : KO} {r : List KS} {Q : Env → List (List Fact) → Prop} (ht : lk e t = some (.bool w)) (h : WH S F (sDo d o :: r) L e fs Q) : WH S F (sIf t w d o :: r) L e fs Q := fun ts h0 h1 h2 => by
  obtain ⟨ts', hs, e', fss, k1, k2, k3, M, k4⟩ := h ts h0 h1 h2
  refine ⟨ts', hs, e', fss, k1, k2, k3, M, fun n hn => ?_⟩
  have := k4 n hn
  simp only [runHs, sIf, kIf, h1.2 t _ ht, beq_self_eq_true] at this ⊢
  exact this
theorem h_skip {t : Nat} {w b : Bool} {d : Nat} {o : KO} {r : List KS} {Q : Env → List (List Fact) → Prop} (ht : lk e t = some (.bool b)) (hb : (b == w) = false) (hd : Nat.blt d L = true) (h : WH S F r L ((d, .tup []) :: e) fs fun e' fss => Q e' (fs :: fss)) : WH S F (sIf t w d o :: r) L e fs Q := fun ts h0 h1 h2 => by
  obtain ⟨ts', hs, e', fss, k1, k2, k3, M, k4⟩ := h _ h0 (h1.upd hd _) h2
  refine ⟨ts', h0 :: hs, e', fs :: fss, k1, .cons h2 k2, k3, M, fun n hn => ?_⟩
  simp only [runHs, sIf, kIf, kEnd, h1.2 t _ ht, hb, k4 n hn]
/-- A read gives the same at each of some heaps. -/
inductive CI (S : Sum) (F : FuncId → Option AF) (e : Env) (fss : List (List Fact)) (k : KO) (v : AV) : List Nat → Prop
  | nil : CI S F e fss k v []
  | cons {i : Nat} {fs : List Fact} {l : List Nat} : fss[i]? = some fs → WO S F k e fs (fun u _ => u = v) → CI S F e fss k v l → CI S F e fss k v (i :: l)
inductive CK (S : Sum) (F : FuncId → Option AF) (e : Env) (fss : List (List Fact)) : List (KO × Nat × List Nat) → Prop
  | nil : CK S F e fss []
  | cons {k : KO} {d : Nat} {is : List Nat} {v : AV} {r : List (KO × Nat × List Nat)} : lk e d = some v → CI S F e fss k v is → CK S F e fss r → CK S F e fss ((k, d, is) :: r)
theorem CI.run {fss : List (List Fact)} {k : KO} {v : AV} {is : List Nat} (h : CI S F e fss k v is) {ts : Tmps} (h1 : Rp L ts e) {hs : List AH} (h2 : RHs hs fss) : ∃ N, ∀ n, N ≤ n → (is.all fun i => match hs[i]? with
    | some h => match k (aeval S F n) ts h with
      | some (u, _) => same u v
      | none => false
    | none => false) = true := by
  induction h with
  | nil => exact ⟨0, fun n _ => rfl⟩
  | cons hf hw _ ih =>
    obtain ⟨N, ih⟩ := ih
    obtain ⟨x, g1, g2⟩ := h2.get hf
    obtain ⟨u, h', fs', g3, rfl, M, g5⟩ := hw L ts x h1 g2
    refine ⟨max N M, fun n hn => ?_⟩
    simp only [List.all_cons, g1, g5 n (by omega), same_refl, Bool.true_and]
    exact ih n (by omega)
theorem CK.run {fss : List (List Fact)} {cks : List (KO × Nat × List Nat)} (h : CK S F e fss cks) {ts : Tmps} (h1 : Rp L ts e) {hs : List AH} (h2 : RHs hs fss) : ∃ N, ∀ n, N ≤ n → chk (aeval S F n) ts hs cks = true := by
  induction h with
  | nil => exact ⟨0, fun n _ => rfl⟩
  | cons hv hc _ ih =>
    obtain ⟨N, ih⟩ := ih
    obtain ⟨M, hm⟩ := hc.run h1 h2
    refine ⟨max N M, fun n hn => ?_⟩
    simp only [chk, h1.2 _ _ hv, Bool.and_eq_true]
    exact ⟨hm n (by omega), ih n (by omega)⟩
theorem g_fl {m : Nat} {sts : List KS} {cks : List (KO × Nat × List Nat)} {Q : Env → List Fact → Prop} (h : WH S F sts L e fs fun e' fss => CK S F e' fss cks ∧ ∃ fs', fss[m]? = some fs' ∧ Q e' fs') : WG S F (kFl m sts cks) L e fs Q := fun ts h0 h1 h2 => by
  obtain ⟨ts', hs, e', fss, k1, k2, ⟨k3, fs', k5, k6⟩, N, k4⟩ := h ts h0 h1 h2
  obtain ⟨M, hm⟩ := k3.run k1 k2
  obtain ⟨x, g1, g2⟩ := k2.get k5
  refine ⟨ts', x, e', fs', k1, g2, k6, max N M, fun n hn => ?_⟩
  simp only [kFl, k4 n (by omega), hm n (by omega), g1]
theorem o_gval {t : Nat} {w : Bool} {o : KO} {K : KK} (ht : lk e t = some (.bool w)) (h : WO S F o e fs K) : WO S F (gVal t w o) e fs K := fun L ts h0 h1 h2 => by
  obtain ⟨v, h', fs', h3, h4, N, h5⟩ := h L ts h0 h1 h2
  refine ⟨v, h', fs', h3, h4, N, fun n hn => ?_⟩
  simp only [gVal, h1.2 t _ ht, if_true]; exact h5 n hn
theorem o_gvals {t : Nat} {w b : Bool} {o : KO} {K : KK} (ht : lk e t = some (.bool b)) (hb : (b == w) = false) (h : K (.tup []) fs) : WO S F (gVal t w o) e fs K := o_val (fun c L ts h0 h1 h2 => by
  have : ¬ b = w := by simpa using hb
  simp only [gVal, h1.2 t _ ht]; rw [if_neg this]) h
/-! Rows made, elements written, bytes as a text. -/
theorem o_make {size bytes : Nat} {z cs : List AV} {x y : AX} {k1 k2 : IntKind} {n : Nat} {K : KK} (hx : XV e x (.int k1 n)) (hy : XV e y (.int k2 n)) (hb : bytes * n ≤ 281474976710656) (hn : n ≤ 70368744177664) (hc : (List.replicate n z).flatten = cs)
    (h : ∀ f id, K (.row cs n ⟨f, id, 0, size⟩) (.row f id (n * size) :: fs)) : WO S F (oMake size bytes z x y) e fs K := fun L ts h0 h1 h2 =>
  ⟨_, _, _, h2.newRow (n * size) size, h _ _, 0, fun m _ => by
    have q1 : (bytes : Int) * (n : Int) ≤ 281474976710656 := by rw [← Int.natCast_mul]; omega
    have q2 : (0 : Int) ≤ (n : Int) := by omega
    have q3 : (n : Int) ≤ 70368744177664 := by omega
    simp only [oMake, hx L ts h1, hy L ts h1]
    rw [if_pos ⟨q2, trivial, q1, q3⟩]
    simp only [Int.toNat_natCast, hc]; rfl⟩
theorem rep_one (n : Nat) (z : AV) : (List.replicate n [z]).flatten = List.replicate n z := by
  induction n with
  | zero => rfl
  | succ n ih => rw [List.replicate_succ, List.flatten_cons, ih]; rfl
theorem o_text {x : AX} {cs : List AV} {n m : Nat} {s : Src} {l : List UInt8} {K : KK} (hx : XV e x (.row cs n s)) (ho : Has fs (.row s.fam s.id m)) (hs : s.size = 1) (hn : cs.length = n) (hl : cs.mapM byteU = some l) (h : K (.str ⟨l.toArray⟩) fs) : WO S F (oText x) e fs K :=
  o_val (fun c L ts h0 h1 h2 => by simp only [oText, hx L ts h1]; rw [if_pos ⟨h2.ok ho, hs, hn⟩, hl]) h
theorem o_textz {x : AX} {cs : List AV} {n : Nat} {s : Src} {l : List UInt8} {K : KK} (hx : XV e x (.row cs n s)) (ho : s.fam = 0) (hs : s.size = 1) (hn : cs.length = n) (hl : cs.mapM byteU = some l) (h : K (.str ⟨l.toArray⟩) fs) : WO S F (oText x) e fs K :=
  o_val (fun c L ts h0 h1 h2 => by simp only [oText, hx L ts h1]; rw [if_pos ⟨by simp [AH.ok, ho], hs, hn⟩, hl]) h
theorem lk_map {g : AV → AV} : ∀ (e : Env) (k : Nat), lk (e.map fun p => (p.1, g p.2)) k = (lk e k).map g
  | [], k => rfl
  | (j, v) :: e, k => by
    have ih := lk_map (g := g) e k
    simp only [List.map_cons, lk]
    cases Nat.beq j k with
    | true => rfl
    | false => exact ih
theorem g_el {size k n m off : Nat} {kx kv : AX} {rest : KR} {cs : List AV} {s : Src} {v : AV} {fs' : Nat → List Fact} {Q : Env → List Fact → Prop} (hx : XV e kx (.eptr cs off s)) (hv : XV e kv v) (hr : lk e k = some (.row cs n s)) (hl : v.cells.length = size) (h0 : 0 < size) (ho : off + size ≤ cs.length) (hs : v.cells.all scalar = true)
    (hp : ∀ id, Put fs (.row s.fam s.id m) (.row s.fam id (s.pos + cs.length)) (fs' id))
    (h : ∀ id, WG S F rest L ((k, .row (cs.take off ++ v.cells ++ cs.drop (off + size)) n { s with id := id }) :: e.map fun p => (p.1, swapV s.id s.pos cs.length s.size { s with id := id } (cs.take off ++ v.cells ++ cs.drop (off + size)) p.2)) (fs' id) Q) : WG S F (kEl size kx kv none rest) L e fs Q := by
  intro ts g0 h1 h2
  have hf : s.fam ≠ 0 := (h2.holds _ (hp 0).has.mem).1
  have hok : g0.ok s = true := h2.ok (hp 0).has
  have hR : Rp L (ts.map (swapV s.id s.pos cs.length s.size { s with id := g0.rnext } (cs.take off ++ v.cells ++ cs.drop (off + size)))) ((k, .row (cs.take off ++ v.cells ++ cs.drop (off + size)) n { s with id := g0.rnext }) :: e.map fun p => (p.1, swapV s.id s.pos cs.length s.size { s with id := g0.rnext } (cs.take off ++ v.cells ++ cs.drop (off + size)) p.2)) := by
    have key : ∀ j u, lk e j = some u → nth (ts.map (swapV s.id s.pos cs.length s.size { s with id := g0.rnext } (cs.take off ++ v.cells ++ cs.drop (off + size)))) j = swapV s.id s.pos cs.length s.size { s with id := g0.rnext } (cs.take off ++ v.cells ++ cs.drop (off + size)) u := by
      intro j u hj
      have := h1.2 j u hj
      rw [nth_getD, List.getD_eq_getElem?_getD] at this ⊢
      rw [List.getElem?_map]
      cases hh : ts[j]? with
      | none => rw [hh] at this; simp only [Option.getD_none] at this; subst this; rfl
      | some y => rw [hh] at this; simp only [Option.getD_some] at this; subst this; rfl
    refine ⟨by rw [List.length_map]; exact h1.1, fun j u hj => ?_⟩
    rw [lk_cons] at hj
    split at hj
    · rename_i e1; subst e1
      obtain rfl := Option.some.inj hj
      rw [key _ _ hr]
      simp only [swapV]
      rw [if_pos ⟨trivial, trivial, trivial, trivial, hf⟩]
    · rw [lk_map] at hj
      obtain ⟨u0, hu, rfl⟩ := Option.map_eq_some_iff.1 hj
      exact key _ _ hu
  have hH := h2.regrow (s := s) (e := s.pos + off) (cs.length - off) (m := m) (by rw [show s.pos + off + (cs.length - off) = s.pos + cs.length by omega]; exact hp _)
  obtain ⟨ts', h'', e', fs'', k1, k2, k3, M, k4⟩ := h g0.rnext _ _ hR hH
  refine ⟨ts', h'', e', fs'', k1, k2, k3, M, fun n hn => ?_⟩
  have := k4 n hn
  simp only [kEl, oElemP, oElem, hx L ts h1, hv L ts h1]
  rw [if_pos ⟨hf, hok, h0, hl, ho, hs⟩]
  exact this
/-- .. into an element of a row that a cell holds. -/
theorem g_elh {size m off i o : Nat} {kx kv ka : AX} {rest : KR} {cs l : List AV} {s : Src} {v : AV} {fs1 fs' : Nat → List Fact} {Q : Env → List Fact → Prop} (hx : XV e kx (.eptr cs off s)) (hv : XV e kv v) (ha : XV e ka (.ptr i o)) (hi : Has fs (.blk i (.cells l))) (hl : v.cells.length = size) (h0 : 0 < size) (ho : off + size ≤ cs.length) (hs : v.cells.all scalar = true)
    (hp : ∀ id, Put fs (.row s.fam s.id m) (.row s.fam id (s.pos + cs.length)) (fs1 id))
    (hq : ∀ id, Put (fs1 id) (.blk i (.cells l)) (.blk i (.cells (l.map (swapV s.id s.pos cs.length s.size { s with id := id } (cs.take off ++ v.cells ++ cs.drop (off + size)))))) (fs' id))
    (h : ∀ id, (∀ f' i' e', Has fs (.row f' i' e') → i' ≠ id) → WG S F rest L (e.map fun p => (p.1, swapV s.id s.pos cs.length s.size { s with id := id } (cs.take off ++ v.cells ++ cs.drop (off + size)) p.2)) (fs' id) Q) : WG S F (kEl size kx kv (some ka) rest) L e fs Q := by
  intro ts g0 h1 h2
  have hf : s.fam ≠ 0 := (h2.holds _ (hp 0).has.mem).1
  have hok : g0.ok s = true := h2.ok (hp 0).has
  have hR : Rp L (ts.map (swapV s.id s.pos cs.length s.size { s with id := g0.rnext } (cs.take off ++ v.cells ++ cs.drop (off + size)))) (e.map fun p => (p.1, swapV s.id s.pos cs.length s.size { s with id := g0.rnext } (cs.take off ++ v.cells ++ cs.drop (off + size)) p.2)) := by
    have key : ∀ j u, lk e j = some u → nth (ts.map (swapV s.id s.pos cs.length s.size { s with id := g0.rnext } (cs.take off ++ v.cells ++ cs.drop (off + size)))) j = swapV s.id s.pos cs.length s.size { s with id := g0.rnext } (cs.take off ++ v.cells ++ cs.drop (off + size)) u := by
      intro j u hj
      have := h1.2 j u hj
      rw [nth_getD, List.getD_eq_getElem?_getD] at this ⊢
      rw [List.getElem?_map]
      cases hh : ts[j]? with
      | none => rw [hh] at this; simp only [Option.getD_none] at this; subst this; rfl
      | some y => rw [hh] at this; simp only [Option.getD_some] at this; subst this; rfl
    refine ⟨by rw [List.length_map]; exact h1.1, fun j u hj => ?_⟩
    rw [lk_map] at hj
    obtain ⟨u0, hu, rfl⟩ := Option.map_eq_some_iff.1 hj
    exact key _ _ hu
  have hH := h2.regrow (s := s) (e := s.pos + off) (cs.length - off) (m := m) (by rw [show s.pos + off + (cs.length - off) = s.pos + cs.length by omega]; exact hp _)
  obtain ⟨ts', h'', e', fs'', k1, k2, k3, M, k4⟩ := h g0.rnext (fun f' i' e' hh => by have := (h2.holds _ hh.mem).2.2.1; omega) _ _ hR (hH.put (hq _))
  refine ⟨ts', h'', e', fs'', k1, k2, k3, M, fun n hn => ?_⟩
  have := k4 n hn
  simp only [kEl, oElemP, oElem, hx L ts h1, hv L ts h1, ha L ts h1, h2.get hi]
  rw [if_pos ⟨hf, hok, h0, hl, ho, hs⟩]
  exact this
/-! Steps, then a store into an element of a row of one's own, and a store elsewhere. -/
def WI (S : Sum) (F : FuncId → Option AF) (size : Nat) (kx kv : AX) (y : KO) (L : Nat) (e : Env) (fs : List Fact) (Q : Env → List Fact → Prop) : Prop := ∀ ts h, Rp L ts e → RH h fs → ∃ ts' h' e' fs', Rp L ts' e' ∧ RH h' fs' ∧ Q e' fs' ∧ ∃ N, ∀ n, N ≤ n → (match oElem size kx kv ts h with
  | none => none
  | some (ts2, h2) => match y (aeval S F n) ts2 h2 with
    | none => none
    | some (_, h3) => some (ts2, h3)) = some (ts', h')
theorem g_ip {sts : List KS} {m size : Nat} {kx kv : AX} {y : KO} {Q : Env → List Fact → Prop} (hm : sts.length = m) (h : WH S F sts L e fs fun e' fss => ∃ fs', fss[m]? = some fs' ∧ WI S F size kx kv y L e' fs' Q) : WG S F (kIp sts size kx kv y) L e fs Q := fun ts h0 h1 h2 => by
  obtain ⟨ts', hs, e', fss, k1, k2, ⟨fs', k3, k5⟩, N, k4⟩ := h ts h0 h1 h2
  obtain ⟨x, g1, g2⟩ := k2.get k3
  obtain ⟨ts2, h3, e2, fs2, q1, q2, q3, M, q4⟩ := k5 ts' x k1 g2
  refine ⟨ts2, h3, e2, fs2, q1, q2, q3, max N M, fun n hn => ?_⟩
  have := q4 n (by omega)
  simp only [kIp, k4 n (by omega), hm, g1]
  cases ho : oElem size kx kv ts' x with
  | none => rw [ho] at this; cases this
  | some p => rw [ho] at this; exact this
theorem i_el {size m off k len : Nat} {kx kv : AX} {y : KO} {cs : List AV} {s : Src} {v : AV} {fs1 : Nat → List Fact} {Q : Env → List Fact → Prop} (hx : XV e kx (.eptr cs off s)) (hv : XV e kv v) (hk : lk e k = some (.row cs len s)) (hl : v.cells.length = size) (h0 : 0 < size) (ho : off + size ≤ cs.length) (hs : v.cells.all scalar = true)
    (hp : ∀ id, Put fs (.row s.fam s.id m) (.row s.fam id (s.pos + cs.length)) (fs1 id))
    (h : ∀ id, (∀ f' i' e', Has fs (.row f' i' e') → i' ≠ id) → WO S F y ((k, .row (cs.take off ++ v.cells ++ cs.drop (off + size)) len { s with id := id }) :: e.map fun p => (p.1, swapV s.id s.pos cs.length s.size { s with id := id } (cs.take off ++ v.cells ++ cs.drop (off + size)) p.2)) (fs1 id) fun _ fs' => Q ((k, .row (cs.take off ++ v.cells ++ cs.drop (off + size)) len { s with id := id }) :: e.map fun p => (p.1, swapV s.id s.pos cs.length s.size { s with id := id } (cs.take off ++ v.cells ++ cs.drop (off + size)) p.2)) fs') : WI S F size kx kv y L e fs Q := by
  intro ts g0 h1 h2
  have hf : s.fam ≠ 0 := (h2.holds _ (hp 0).has.mem).1
  have hok : g0.ok s = true := h2.ok (hp 0).has
  have hR : Rp L (ts.map (swapV s.id s.pos cs.length s.size { s with id := g0.rnext } (cs.take off ++ v.cells ++ cs.drop (off + size)))) ((k, .row (cs.take off ++ v.cells ++ cs.drop (off + size)) len { s with id := g0.rnext }) :: e.map fun p => (p.1, swapV s.id s.pos cs.length s.size { s with id := g0.rnext } (cs.take off ++ v.cells ++ cs.drop (off + size)) p.2)) := by
    have key : ∀ j u, lk e j = some u → nth (ts.map (swapV s.id s.pos cs.length s.size { s with id := g0.rnext } (cs.take off ++ v.cells ++ cs.drop (off + size)))) j = swapV s.id s.pos cs.length s.size { s with id := g0.rnext } (cs.take off ++ v.cells ++ cs.drop (off + size)) u := by
      intro j u hj
      have := h1.2 j u hj
      rw [nth_getD, List.getD_eq_getElem?_getD] at this ⊢
      rw [List.getElem?_map]
      cases hh : ts[j]? with
      | none => rw [hh] at this; simp only [Option.getD_none] at this; subst this; rfl
      | some y => rw [hh] at this; simp only [Option.getD_some] at this; subst this; rfl
    refine ⟨by rw [List.length_map]; exact h1.1, fun j u hj => ?_⟩
    rw [lk_cons] at hj
    split at hj
    · rename_i e1; subst e1
      obtain rfl := Option.some.inj hj
      rw [key _ _ hk]
      simp only [swapV]
      rw [if_pos ⟨trivial, trivial, trivial, trivial, hf⟩]
    · rw [lk_map] at hj
      obtain ⟨u0, hu, rfl⟩ := Option.map_eq_some_iff.1 hj
      exact key _ _ hu
  have hH := h2.regrow (s := s) (e := s.pos + off) (cs.length - off) (m := m) (by rw [show s.pos + off + (cs.length - off) = s.pos + cs.length by omega]; exact hp _)
  obtain ⟨u, h'', fs'', k2, k3, M, k4⟩ := h g0.rnext (fun f' i' e' hh => by have := (h2.holds _ hh.mem).2.2.1; omega) L _ _ hR hH
  refine ⟨_, h'', _, fs'', hR, k2, k3, M, fun n hn => ?_⟩
  have := k4 n hn
  simp only [oElem, hx L ts h1, hv L ts h1]
  rw [if_pos ⟨hf, hok, h0, hl, ho, hs⟩]
  simp only [this]
end Go.Proofs.Ytadohhhjpbhhoaa.EvA
