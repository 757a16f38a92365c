/- A quick way to reckon with the evaluator: values told apart, temporaries in a tree of pairs. Printed in part by a program of this work. -/
import Derived.Test.YtadohhhjpbhhoaaEvB
namespace Go.Proofs.Ytadohhhjpbhhoaa.EvA
set_option linter.unusedVariables false
noncomputable def asBool : AV → Option Bool := fun v => AV.rec (motive_1 := fun _ => Option Bool) (motive_2 := fun _ => Unit) (fun x0 => some x0) (fun _ _ => none) (fun _ => none) none (fun _ _ => none) (fun _ _ _ _ => none) none (fun _ _ _ _ => none) none (fun _ => none) none (fun _ _ _ => none) none (fun _ _ _ => none) (fun _ _ => none) (fun _ _ => none) (fun _ _ _ => none) () (fun _ _ _ _ => ()) v
noncomputable def asInt : AV → Option (IntKind × Int) := fun v => AV.rec (motive_1 := fun _ => Option (IntKind × Int)) (motive_2 := fun _ => Unit) (fun _ => none) (fun x0 x1 => some (x0, x1)) (fun _ => none) none (fun _ _ => none) (fun _ _ _ _ => none) none (fun _ _ _ _ => none) none (fun _ => none) none (fun _ _ _ => none) none (fun _ _ _ => none) (fun _ _ => none) (fun _ _ => none) (fun _ _ _ => none) () (fun _ _ _ _ => ()) v
noncomputable def asStr : AV → Option ByteArray := fun v => AV.rec (motive_1 := fun _ => Option ByteArray) (motive_2 := fun _ => Unit) (fun _ => none) (fun _ _ => none) (fun x0 => some x0) none (fun _ _ => none) (fun _ _ _ _ => none) none (fun _ _ _ _ => none) none (fun _ => none) none (fun _ _ _ => none) none (fun _ _ _ => none) (fun _ _ => none) (fun _ _ => none) (fun _ _ _ => none) () (fun _ _ _ _ => ()) v
noncomputable def asPtr : AV → Option (Nat × Nat) := fun v => AV.rec (motive_1 := fun _ => Option (Nat × Nat)) (motive_2 := fun _ => Unit) (fun _ => none) (fun _ _ => none) (fun _ => none) none (fun x0 x1 => some (x0, x1)) (fun _ _ _ _ => none) none (fun _ _ _ _ => none) none (fun _ => none) none (fun _ _ _ => none) none (fun _ _ _ => none) (fun _ _ => none) (fun _ _ => none) (fun _ _ _ => none) () (fun _ _ _ _ => ()) v
noncomputable def asEptr : AV → Option (List AV × Nat × Src) := fun v => AV.rec (motive_1 := fun _ => Option (List AV × Nat × Src)) (motive_2 := fun _ => Unit) (fun _ => none) (fun _ _ => none) (fun _ => none) none (fun _ _ => none) (fun x0 x1 x2 _ => some (x0, x1, x2)) none (fun _ _ _ _ => none) none (fun _ => none) none (fun _ _ _ => none) none (fun _ _ _ => none) (fun _ _ => none) (fun _ _ => none) (fun _ _ _ => none) () (fun _ _ _ _ => ()) v
noncomputable def asRow : AV → Option (List AV × Nat × Src) := fun v => AV.rec (motive_1 := fun _ => Option (List AV × Nat × Src)) (motive_2 := fun _ => Unit) (fun _ => none) (fun _ _ => none) (fun _ => none) none (fun _ _ => none) (fun _ _ _ _ => none) none (fun x0 x1 x2 _ => some (x0, x1, x2)) none (fun _ => none) none (fun _ _ _ => none) none (fun _ _ _ => none) (fun _ _ => none) (fun _ _ => none) (fun _ _ _ => none) () (fun _ _ _ _ => ()) v
noncomputable def asAgg : AV → Option (List AV) := fun v => AV.rec (motive_1 := fun _ => Option (List AV)) (motive_2 := fun _ => Unit) (fun _ => none) (fun _ _ => none) (fun _ => none) none (fun _ _ => none) (fun _ _ _ _ => none) none (fun _ _ _ _ => none) none (fun _ => none) none (fun _ _ _ => none) none (fun _ _ _ => none) (fun x0 _ => some x0) (fun _ _ => none) (fun _ _ _ => none) () (fun _ _ _ _ => ()) v
noncomputable def asTup : AV → Option (List AV) := fun v => AV.rec (motive_1 := fun _ => Option (List AV)) (motive_2 := fun _ => Unit) (fun _ => none) (fun _ _ => none) (fun _ => none) none (fun _ _ => none) (fun _ _ _ _ => none) none (fun _ _ _ _ => none) none (fun _ => none) none (fun _ _ _ => none) none (fun _ _ _ => none) (fun _ _ => none) (fun x0 _ => some x0) (fun _ _ _ => none) () (fun _ _ _ _ => ()) v
noncomputable def asFn : AV → Option (FuncId × List AV) := fun v => AV.rec (motive_1 := fun _ => Option (FuncId × List AV)) (motive_2 := fun _ => Unit) (fun _ => none) (fun _ _ => none) (fun _ => none) none (fun _ _ => none) (fun _ _ _ _ => none) none (fun _ _ _ _ => none) none (fun _ => none) none (fun x0 x1 _ => some (x0, x1)) none (fun _ _ _ => none) (fun _ _ => none) (fun _ _ => none) (fun _ _ _ => none) () (fun _ _ _ _ => ()) v
noncomputable def asMfn : AV → Option (FuncId × List AV) := fun v => AV.rec (motive_1 := fun _ => Option (FuncId × List AV)) (motive_2 := fun _ => Unit) (fun _ => none) (fun _ _ => none) (fun _ => none) none (fun _ _ => none) (fun _ _ _ _ => none) none (fun _ _ _ _ => none) none (fun _ => none) none (fun _ _ _ => none) none (fun _ _ _ => none) (fun _ _ => none) (fun _ _ => none) (fun x0 x1 _ => some (x0, x1)) () (fun _ _ _ _ => ()) v
noncomputable def addrLike : AV → Bool := fun v => AV.rec (motive_1 := fun _ => Bool) (motive_2 := fun _ => Unit) (fun _ => false) (fun _ _ => false) (fun _ => false) false (fun _ _ => true) (fun _ _ _ _ => true) false (fun _ _ _ _ => false) false (fun _ => false) false (fun _ _ _ => true) false (fun _ _ _ => false) (fun _ _ => false) (fun _ _ => false) (fun _ _ _ => true) () (fun _ _ _ _ => ()) v
noncomputable def isNilrow : AV → Bool := fun v => AV.rec (motive_1 := fun _ => Bool) (motive_2 := fun _ => Unit) (fun _ => false) (fun _ _ => false) (fun _ => false) false (fun _ _ => false) (fun _ _ _ _ => false) true (fun _ _ _ _ => false) false (fun _ => false) false (fun _ _ _ => false) false (fun _ _ _ => false) (fun _ _ => false) (fun _ _ => false) (fun _ _ _ => false) () (fun _ _ _ _ => ()) v
noncomputable def scalarR : AV → Bool := fun v => AV.rec (motive_1 := fun _ => Bool) (motive_2 := fun _ => Unit) (fun _ => true) (fun _ _ => true) (fun _ => true) true (fun _ _ => true) (fun _ _ _ _ => true) true (fun _ _ _ _ => true) true (fun _ => true) true (fun _ _ _ => true) true (fun _ _ _ => true) (fun _ _ => false) (fun _ _ => false) (fun _ _ _ => true) () (fun _ _ _ _ => ()) v
theorem asBool_is {v : AV} {b} (h : asBool v = some b) : v = .bool b := by cases v <;> first | (cases h; done) | (obtain rfl := Option.some.inj h; rfl)
theorem asInt_is {v : AV} {p} (h : asInt v = some p) : v = .int p.1 p.2 := by cases v <;> first | (cases h; done) | (obtain rfl := Option.some.inj h; rfl)
theorem asStr_is {v : AV} {s} (h : asStr v = some s) : v = .str s := by cases v <;> first | (cases h; done) | (obtain rfl := Option.some.inj h; rfl)
theorem asPtr_is {v : AV} {p} (h : asPtr v = some p) : v = .ptr p.1 p.2 := by cases v <;> first | (cases h; done) | (obtain rfl := Option.some.inj h; rfl)
theorem asEptr_is {v : AV} {p} (h : asEptr v = some p) : v = .eptr p.1 p.2.1 p.2.2 := by cases v <;> first | (cases h; done) | (obtain rfl := Option.some.inj h; rfl)
theorem asRow_is {v : AV} {p} (h : asRow v = some p) : v = .row p.1 p.2.1 p.2.2 := by cases v <;> first | (cases h; done) | (obtain rfl := Option.some.inj h; rfl)
theorem asAgg_is {v : AV} {l} (h : asAgg v = some l) : v = .agg l := by cases v <;> first | (cases h; done) | (obtain rfl := Option.some.inj h; rfl)
theorem asTup_is {v : AV} {l} (h : asTup v = some l) : v = .tup l := by cases v <;> first | (cases h; done) | (obtain rfl := Option.some.inj h; rfl)
theorem asFn_is {v : AV} {p} (h : asFn v = some p) : v = .fn p.1 p.2 := by cases v <;> first | (cases h; done) | (obtain rfl := Option.some.inj h; rfl)
theorem asMfn_is {v : AV} {p} (h : asMfn v = some p) : v = .mfn p.1 p.2 := by cases v <;> first | (cases h; done) | (obtain rfl := Option.some.inj h; rfl)
theorem addrLike_is {v : AV} (h : addrLike v = true) : (∃ i o, v = .ptr i o) ∨ (∃ c o s, v = .eptr c o s) ∨ (∃ f l, v = .fn f l) ∨ ∃ f l, v = .mfn f l := by
  cases v <;> first | (cases h; done) | exact Or.inl ⟨_, _, rfl⟩ | exact Or.inr (Or.inl ⟨_, _, _, rfl⟩) | exact Or.inr (Or.inr (Or.inl ⟨_, _, rfl⟩)) | exact Or.inr (Or.inr (Or.inr ⟨_, _, rfl⟩))
theorem isNilrow_is {v : AV} (h : isNilrow v = true) : v = .nilrow := by cases v <;> first | (cases h; done) | rfl
theorem scalarR_is (v : AV) : scalarR v = scalar v := by cases v <;> rfl
noncomputable def cellsR (v : AV) : List AV := Option.rec (motive := fun _ => List AV) [v] (fun c => c) (asAgg v)
theorem cellsR_is (v : AV) : cellsR v = v.cells := by cases v <;> rfl
/-! Lists, by their recursors. -/
noncomputable def lenL {α : Type} (l : List α) : Nat := List.rec (motive := fun _ => Nat) 0 (fun _ _ ih => Nat.add ih 1) l
theorem lenL_is {α : Type} (l : List α) : lenL l = l.length := by
  induction l with
  | nil => rfl
  | cons a l ih => show Nat.add (lenL l) 1 = _; rw [ih]; rfl
noncomputable def dropL {α : Type} (n : Nat) : List α → List α := Nat.rec (motive := fun _ => List α → List α) (fun l => l) (fun _ ih l => List.rec (motive := fun _ => List α) [] (fun _ t _ => ih t) l) n
theorem dropL_is {α : Type} : ∀ (n : Nat) (l : List α), dropL n l = l.drop n
  | 0, l => rfl
  | n + 1, [] => rfl
  | n + 1, a :: l => by show dropL n l = _; rw [dropL_is n l]; rfl
noncomputable def takeL {α : Type} (n : Nat) : List α → List α := Nat.rec (motive := fun _ => List α → List α) (fun _ => []) (fun _ ih l => List.rec (motive := fun _ => List α) [] (fun a t _ => a :: ih t) l) n
theorem takeL_is {α : Type} : ∀ (n : Nat) (l : List α), takeL n l = l.take n
  | 0, l => rfl
  | n + 1, [] => rfl
  | n + 1, a :: l => by show a :: takeL n l = _; rw [takeL_is n l]; rfl
noncomputable def appL {α : Type} (a b : List α) : List α := List.rec (motive := fun _ => List α) b (fun x _ ih => x :: ih) a
theorem appL_is {α : Type} (a b : List α) : appL a b = a ++ b := by
  induction a with
  | nil => rfl
  | cons x l ih => show x :: appL l b = _; rw [ih]; rfl
noncomputable def idxL {α : Type} (n : Nat) : List α → Option α := Nat.rec (motive := fun _ => List α → Option α) (fun l => List.rec (motive := fun _ => Option α) none (fun a _ _ => some a) l) (fun _ ih l => List.rec (motive := fun _ => Option α) none (fun _ t _ => ih t) l) n
theorem idxL_is {α : Type} : ∀ (n : Nat) (l : List α), idxL n l = l[n]?
  | 0, [] => rfl
  | 0, a :: l => rfl
  | n + 1, [] => rfl
  | n + 1, a :: l => by show idxL n l = _; rw [idxL_is n l]; simp
noncomputable def allL (l : List AV) : Bool := List.rec (motive := fun _ => Bool) true (fun a _ ih => Bool.rec false ih (scalarR a)) l
theorem allL_is (l : List AV) : allL l = l.all scalar := by
  induction l with
  | nil => rfl
  | cons a l ih =>
    show (Bool.rec false (allL l) (scalarR a) : Bool) = _
    rw [ih, scalarR_is, List.all_cons]; cases scalar a <;> rfl
noncomputable def eqL (a : List UInt8) : List UInt8 → Bool := List.rec (motive := fun _ => List UInt8 → Bool) (fun y => List.rec (motive := fun _ => Bool) true (fun _ _ _ => false) y) (fun a _ ih y => List.rec (motive := fun _ => Bool) false (fun b t _ => Bool.rec false (ih t) (Nat.beq a.toNat b.toNat)) y) a
theorem eqL_is : ∀ (a b : List UInt8), eqL a b = (a == b)
  | [], [] => rfl
  | [], b :: l => rfl
  | a :: l, [] => rfl
  | a :: l, b :: m => by
    show (Bool.rec false (eqL l m) (Nat.beq a.toNat b.toNat) : Bool) = _
    rw [eqL_is l m, List.cons_beq_cons]
    have : Nat.beq a.toNat b.toNat = (a == b) := by
      by_cases h : a = b
      · subst h; simp [Nat.beq_refl]
      · have h2 : a.toNat ≠ b.toNat := fun e => h (UInt8.toNat_inj.1 e)
        have h3 : Nat.beq a.toNat b.toNat = false := by
          cases e : Nat.beq a.toNat b.toNat with
          | false => rfl
          | true => exact absurd (Nat.eq_of_beq_eq_true e) h2
        rw [h3]; simp [h]
    rw [this]; cases (a == b) <;> rfl
/-! Numbers. -/
noncomputable def kIdx (k : IntKind) : Nat := IntKind.rec (motive := fun _ => Nat) 0 1 2 3 4 5 6 7 k
theorem kIdx_inj {k j : IntKind} (h : Nat.beq (kIdx k) (kIdx j) = true) : k = j := by cases k <;> cases j <;> first | rfl | (exact absurd h (by decide))
noncomputable def wrapF (k : IntKind) (n : Int) : Int := Int.rec (motive := fun _ => Int) (fun m => Bool.rec (k.wrap (Int.ofNat m)) (Int.ofNat m) (Nat.ble m 127)) (fun m => k.wrap (Int.negSucc m)) n
theorem wrapF_is (k : IntKind) (n : Int) : wrapF k n = k.wrap n := by
  cases n with
  | negSucc m => rfl
  | ofNat m =>
    show (Bool.rec (k.wrap (Int.ofNat m)) (Int.ofNat m) (Nat.ble m 127) : Int) = _
    cases h : Nat.ble m 127 with
    | false => rfl
    | true =>
      have hm : m ≤ 127 := Nat.le_of_ble_eq_true h
      show (Int.ofNat m : Int) = k.wrap (Int.ofNat m)
      cases k <;> simp only [IntKind.wrap, IntKind.bits, IntKind.signed] <;> simp <;> omega
noncomputable def eqI (a b : Int) : Bool := Int.rec (motive := fun _ => Bool) (fun m => Int.rec (motive := fun _ => Bool) (fun n => Nat.beq m n) (fun _ => false) b) (fun m => Int.rec (motive := fun _ => Bool) (fun _ => false) (fun n => Nat.beq m n) b) a
theorem beq_dec (m n : Nat) : Nat.beq m n = decide (m = n) := by
  by_cases h : m = n
  · subst h; simp [Nat.beq_refl]
  · have : Nat.beq m n = false := by
      cases e : Nat.beq m n with
      | false => rfl
      | true => exact absurd (Nat.eq_of_beq_eq_true e) h
    rw [this]; simp [h]
theorem eqI_is (a b : Int) : eqI a b = (a == b) := by
  cases a with
  | ofNat m => cases b with
    | ofNat n =>
      show Nat.beq m n = _
      rw [beq_dec]
      by_cases h : m = n
      · subst h; simp
      · have : ¬ (Int.ofNat m = Int.ofNat n) := fun e => h (Int.ofNat.inj e)
        have h2 : (Int.ofNat m == Int.ofNat n) = false := by simpa using this
        rw [h2]; simp [h]
    | negSucc n => rfl
  | negSucc m => cases b with
    | ofNat n => rfl
    | negSucc n =>
      show Nat.beq m n = _
      rw [beq_dec]
      by_cases h : m = n
      · subst h; simp
      · simp [h]
noncomputable def leI (a b : Int) : Bool := Int.rec (motive := fun _ => Bool) (fun m => Int.rec (motive := fun _ => Bool) (fun n => Nat.ble m n) (fun _ => false) b) (fun m => Int.rec (motive := fun _ => Bool) (fun _ => true) (fun n => Nat.ble n m) b) a
theorem ble_dec (m n : Nat) : Nat.ble m n = decide (m ≤ n) := by
  by_cases h : m ≤ n
  · rw [Nat.ble_eq_true_of_le h]; simp [h]
  · have : Nat.ble m n = false := by
      cases e : Nat.ble m n with
      | false => rfl
      | true => exact absurd (Nat.le_of_ble_eq_true e) h
    rw [this]; simp [h]
theorem leI_is (a b : Int) : leI a b = decide (a ≤ b) := by
  cases a with
  | ofNat m => cases b with
    | ofNat n =>
      show Nat.ble m n = _
      rw [ble_dec]; congr 1; simp
    | negSucc n =>
      show false = _
      symm; rw [decide_eq_false_iff_not]; simp only [Int.ofNat_eq_natCast]; omega
  | negSucc m => cases b with
    | ofNat n =>
      show true = _
      symm; rw [decide_eq_true_iff]; simp only [Int.ofNat_eq_natCast]; omega
    | negSucc n =>
      show Nat.ble n m = _
      rw [ble_dec]; congr 1; apply propext; omega
noncomputable def ltI (a b : Int) : Bool := Bool.rec true false (leI b a)
theorem ltI_is (a b : Int) : ltI a b = decide (a < b) := by
  unfold ltI; rw [leI_is]
  by_cases h : b ≤ a
  · have : ¬ a < b := by omega
    simp [h, this]
  · have : a < b := by omega
    simp [h, this]
/-! The tree of blocks. -/
noncomputable def getR {α : Type} (t : Tr α) : Nat → Option α := Tr.rec (motive := fun _ => Nat → Option α) (fun _ => none) (fun _ v _ ihl ihr n => Bool.rec (Bool.rec (ihr (Nat.sub (Nat.div n 2) 1)) (ihl (Nat.div n 2)) (Nat.beq (Nat.mod n 2) 1)) v (Nat.beq n 0)) t
theorem getR_is {α : Type} (t : Tr α) : ∀ n, getR t n = t.get n := by
  induction t with
  | leaf => intro n; rfl
  | node l v r ihl ihr =>
    intro n
    show (Bool.rec (Bool.rec (getR r (Nat.sub (Nat.div n 2) 1)) (getR l (Nat.div n 2)) (Nat.beq (Nat.mod n 2) 1)) v (Nat.beq n 0) : Option α) = _
    rw [Tr.get_node, beq_dec, beq_dec, ihl, ihr]
    by_cases h0 : n = 0
    · simp [h0]
    · by_cases h1 : n % 2 = 1
      · have h1' : Nat.mod n 2 = 1 := h1
        simp [h0, h1, h1']; rfl
      · have h1' : ¬ Nat.mod n 2 = 1 := h1
        simp [h0, h1, h1']; rfl
noncomputable def setR {α : Type} (x : α) (f : Nat) : Tr α → Nat → Tr α := Nat.rec (motive := fun _ => Tr α → Nat → Tr α) (fun t _ => t) (fun _ ih t n => Tr.rec (motive := fun _ => Tr α) (Bool.rec (Bool.rec (.node .leaf none (ih .leaf (Nat.sub (Nat.div n 2) 1))) (.node (ih .leaf (Nat.div n 2)) none .leaf) (Nat.beq (Nat.mod n 2) 1)) (.node .leaf (some x) .leaf) (Nat.beq n 0))
  (fun l v r _ _ => Bool.rec (Bool.rec (.node l v (ih r (Nat.sub (Nat.div n 2) 1))) (.node (ih l (Nat.div n 2)) v r) (Nat.beq (Nat.mod n 2) 1)) (.node l (some x) r) (Nat.beq n 0)) t) f
theorem setR_is {α : Type} (x : α) : ∀ (f : Nat) (t : Tr α) (n : Nat), setR x f t n = Tr.set f t n x
  | 0, t, n => rfl
  | f + 1, t, n => by
    have ih := setR_is x f
    have e1 : Nat.mod n 2 = n % 2 := rfl
    have e2 : Nat.div n 2 = n / 2 := rfl
    have e3 : Nat.sub (n / 2) 1 = n / 2 - 1 := rfl
    cases t with
    | leaf =>
      show (Bool.rec (Bool.rec (.node .leaf none (setR x f .leaf (Nat.sub (Nat.div n 2) 1))) (.node (setR x f .leaf (Nat.div n 2)) none .leaf) (Nat.beq (Nat.mod n 2) 1)) (.node .leaf (some x) .leaf) (Nat.beq n 0) : Tr α) = _
      rw [beq_dec, beq_dec, ih, ih, e1, e2, e3]
      by_cases h0 : n = 0 <;> by_cases h1 : n % 2 = 1 <;> simp [Tr.set, h0, h1]
    | node l v r =>
      show (Bool.rec (Bool.rec (.node l v (setR x f r (Nat.sub (Nat.div n 2) 1))) (.node (setR x f l (Nat.div n 2)) v r) (Nat.beq (Nat.mod n 2) 1)) (.node l (some x) r) (Nat.beq n 0) : Tr α) = _
      rw [beq_dec, beq_dec, ih, ih, e1, e2, e3]
      by_cases h0 : n = 0 <;> by_cases h1 : n % 2 = 1 <;> simp [Tr.set, h0, h1]
noncomputable def putR (h : AH) (i : Nat) (b : ABlk) : AH := ⟨h.next, setR b (Nat.add i 1) h.blk i, h.rnext, h.live, h.fnext, h.chain, h.defs⟩
theorem putR_is (h : AH) (i : Nat) (b : ABlk) : putR h i b = h.put i b := by unfold putR AH.put; rw [setR_is]
noncomputable def newR (h : AH) (b : ABlk) : AH := ⟨Nat.add h.next 1, setR b (Nat.add h.next 1) h.blk h.next, h.rnext, h.live, h.fnext, h.chain, h.defs⟩
theorem newR_is (h : AH) (b : ABlk) : newR h b = h.new b := by unfold newR AH.new; rw [setR_is]
noncomputable def cellsOfR (b : Option ABlk) : Option (List AV) := Option.rec (motive := fun _ => Option (List AV)) none (fun b => ABlk.rec (motive := fun _ => Option (List AV)) (fun c => some c) (fun _ _ => none) b) b
noncomputable def okR (h : AH) (s : Src) : Bool := Bool.rec (Option.rec (motive := fun _ => Bool) false (fun b => b) (getR h.live s.id)) true (Nat.beq s.fam 0)
theorem okR_is (h : AH) (s : Src) : okR h s = h.ok s := by
  unfold okR AH.ok
  rw [getR_is, beq_dec]
  by_cases e : s.fam = 0
  · simp [e]
  · have : (s.fam == 0) = false := by simpa using e
    rw [this]
    simp only [e, decide_false, Bool.false_or]
    cases h.live.get s.id <;> rfl
/-! Temporaries: a tree of pairs. -/
abbrev E0 := AV
abbrev E1 := E0 × E0
abbrev E2 := E1 × E1
abbrev E3 := E2 × E2
abbrev E4 := E3 × E3
abbrev E5 := E4 × E4
abbrev E6 := E5 × E5
abbrev E7 := E6 × E6
abbrev E8 := E7 × E7
noncomputable def toL0 (e : E0) : List AV := [e]
noncomputable def toL1 (e : E1) : List AV := appL (toL0 e.1) (toL0 e.2)
noncomputable def toL2 (e : E2) : List AV := appL (toL1 e.1) (toL1 e.2)
noncomputable def toL3 (e : E3) : List AV := appL (toL2 e.1) (toL2 e.2)
noncomputable def toL4 (e : E4) : List AV := appL (toL3 e.1) (toL3 e.2)
noncomputable def toL5 (e : E5) : List AV := appL (toL4 e.1) (toL4 e.2)
noncomputable def toL6 (e : E6) : List AV := appL (toL5 e.1) (toL5 e.2)
noncomputable def toL7 (e : E7) : List AV := appL (toL6 e.1) (toL6 e.2)
noncomputable def toL8 (e : E8) : List AV := appL (toL7 e.1) (toL7 e.2)
def bl0 : E0 := .tup []
def bl1 : E1 := (bl0, bl0)
def bl2 : E2 := (bl1, bl1)
def bl3 : E3 := (bl2, bl2)
def bl4 : E4 := (bl3, bl3)
def bl5 : E5 := (bl4, bl4)
def bl6 : E6 := (bl5, bl5)
def bl7 : E7 := (bl6, bl6)
def bl8 : E8 := (bl7, bl7)
def g0 : E8 → AV := fun e => e.1.1.1.1.1.1.1.1
def g1 : E8 → AV := fun e => e.1.1.1.1.1.1.1.2
def g2 : E8 → AV := fun e => e.1.1.1.1.1.1.2.1
def g3 : E8 → AV := fun e => e.1.1.1.1.1.1.2.2
def g4 : E8 → AV := fun e => e.1.1.1.1.1.2.1.1
def g5 : E8 → AV := fun e => e.1.1.1.1.1.2.1.2
def g6 : E8 → AV := fun e => e.1.1.1.1.1.2.2.1
def g7 : E8 → AV := fun e => e.1.1.1.1.1.2.2.2
def g8 : E8 → AV := fun e => e.1.1.1.1.2.1.1.1
def g9 : E8 → AV := fun e => e.1.1.1.1.2.1.1.2
def g10 : E8 → AV := fun e => e.1.1.1.1.2.1.2.1
def g11 : E8 → AV := fun e => e.1.1.1.1.2.1.2.2
def g12 : E8 → AV := fun e => e.1.1.1.1.2.2.1.1
def g13 : E8 → AV := fun e => e.1.1.1.1.2.2.1.2
def g14 : E8 → AV := fun e => e.1.1.1.1.2.2.2.1
def g15 : E8 → AV := fun e => e.1.1.1.1.2.2.2.2
def g16 : E8 → AV := fun e => e.1.1.1.2.1.1.1.1
def g17 : E8 → AV := fun e => e.1.1.1.2.1.1.1.2
def g18 : E8 → AV := fun e => e.1.1.1.2.1.1.2.1
def g19 : E8 → AV := fun e => e.1.1.1.2.1.1.2.2
def g20 : E8 → AV := fun e => e.1.1.1.2.1.2.1.1
def g21 : E8 → AV := fun e => e.1.1.1.2.1.2.1.2
def g22 : E8 → AV := fun e => e.1.1.1.2.1.2.2.1
def g23 : E8 → AV := fun e => e.1.1.1.2.1.2.2.2
def g24 : E8 → AV := fun e => e.1.1.1.2.2.1.1.1
def g25 : E8 → AV := fun e => e.1.1.1.2.2.1.1.2
def g26 : E8 → AV := fun e => e.1.1.1.2.2.1.2.1
def g27 : E8 → AV := fun e => e.1.1.1.2.2.1.2.2
def g28 : E8 → AV := fun e => e.1.1.1.2.2.2.1.1
def g29 : E8 → AV := fun e => e.1.1.1.2.2.2.1.2
def g30 : E8 → AV := fun e => e.1.1.1.2.2.2.2.1
def g31 : E8 → AV := fun e => e.1.1.1.2.2.2.2.2
def g32 : E8 → AV := fun e => e.1.1.2.1.1.1.1.1
def g33 : E8 → AV := fun e => e.1.1.2.1.1.1.1.2
def g34 : E8 → AV := fun e => e.1.1.2.1.1.1.2.1
def g35 : E8 → AV := fun e => e.1.1.2.1.1.1.2.2
def g36 : E8 → AV := fun e => e.1.1.2.1.1.2.1.1
def g37 : E8 → AV := fun e => e.1.1.2.1.1.2.1.2
def g38 : E8 → AV := fun e => e.1.1.2.1.1.2.2.1
def g39 : E8 → AV := fun e => e.1.1.2.1.1.2.2.2
def g40 : E8 → AV := fun e => e.1.1.2.1.2.1.1.1
def g41 : E8 → AV := fun e => e.1.1.2.1.2.1.1.2
def g42 : E8 → AV := fun e => e.1.1.2.1.2.1.2.1
def g43 : E8 → AV := fun e => e.1.1.2.1.2.1.2.2
def g44 : E8 → AV := fun e => e.1.1.2.1.2.2.1.1
def g45 : E8 → AV := fun e => e.1.1.2.1.2.2.1.2
def g46 : E8 → AV := fun e => e.1.1.2.1.2.2.2.1
def g47 : E8 → AV := fun e => e.1.1.2.1.2.2.2.2
def g48 : E8 → AV := fun e => e.1.1.2.2.1.1.1.1
def g49 : E8 → AV := fun e => e.1.1.2.2.1.1.1.2
def g50 : E8 → AV := fun e => e.1.1.2.2.1.1.2.1
def g51 : E8 → AV := fun e => e.1.1.2.2.1.1.2.2
def g52 : E8 → AV := fun e => e.1.1.2.2.1.2.1.1
def g53 : E8 → AV := fun e => e.1.1.2.2.1.2.1.2
def g54 : E8 → AV := fun e => e.1.1.2.2.1.2.2.1
def g55 : E8 → AV := fun e => e.1.1.2.2.1.2.2.2
def g56 : E8 → AV := fun e => e.1.1.2.2.2.1.1.1
def g57 : E8 → AV := fun e => e.1.1.2.2.2.1.1.2
def g58 : E8 → AV := fun e => e.1.1.2.2.2.1.2.1
def g59 : E8 → AV := fun e => e.1.1.2.2.2.1.2.2
def g60 : E8 → AV := fun e => e.1.1.2.2.2.2.1.1
def g61 : E8 → AV := fun e => e.1.1.2.2.2.2.1.2
def g62 : E8 → AV := fun e => e.1.1.2.2.2.2.2.1
def g63 : E8 → AV := fun e => e.1.1.2.2.2.2.2.2
def g64 : E8 → AV := fun e => e.1.2.1.1.1.1.1.1
def g65 : E8 → AV := fun e => e.1.2.1.1.1.1.1.2
def g66 : E8 → AV := fun e => e.1.2.1.1.1.1.2.1
def g67 : E8 → AV := fun e => e.1.2.1.1.1.1.2.2
def g68 : E8 → AV := fun e => e.1.2.1.1.1.2.1.1
def g69 : E8 → AV := fun e => e.1.2.1.1.1.2.1.2
def g70 : E8 → AV := fun e => e.1.2.1.1.1.2.2.1
def g71 : E8 → AV := fun e => e.1.2.1.1.1.2.2.2
def g72 : E8 → AV := fun e => e.1.2.1.1.2.1.1.1
def g73 : E8 → AV := fun e => e.1.2.1.1.2.1.1.2
def g74 : E8 → AV := fun e => e.1.2.1.1.2.1.2.1
def g75 : E8 → AV := fun e => e.1.2.1.1.2.1.2.2
def g76 : E8 → AV := fun e => e.1.2.1.1.2.2.1.1
def g77 : E8 → AV := fun e => e.1.2.1.1.2.2.1.2
def g78 : E8 → AV := fun e => e.1.2.1.1.2.2.2.1
def g79 : E8 → AV := fun e => e.1.2.1.1.2.2.2.2
def g80 : E8 → AV := fun e => e.1.2.1.2.1.1.1.1
def g81 : E8 → AV := fun e => e.1.2.1.2.1.1.1.2
def g82 : E8 → AV := fun e => e.1.2.1.2.1.1.2.1
def g83 : E8 → AV := fun e => e.1.2.1.2.1.1.2.2
def g84 : E8 → AV := fun e => e.1.2.1.2.1.2.1.1
def g85 : E8 → AV := fun e => e.1.2.1.2.1.2.1.2
def g86 : E8 → AV := fun e => e.1.2.1.2.1.2.2.1
def g87 : E8 → AV := fun e => e.1.2.1.2.1.2.2.2
def g88 : E8 → AV := fun e => e.1.2.1.2.2.1.1.1
def g89 : E8 → AV := fun e => e.1.2.1.2.2.1.1.2
def g90 : E8 → AV := fun e => e.1.2.1.2.2.1.2.1
def g91 : E8 → AV := fun e => e.1.2.1.2.2.1.2.2
def g92 : E8 → AV := fun e => e.1.2.1.2.2.2.1.1
def g93 : E8 → AV := fun e => e.1.2.1.2.2.2.1.2
def g94 : E8 → AV := fun e => e.1.2.1.2.2.2.2.1
def g95 : E8 → AV := fun e => e.1.2.1.2.2.2.2.2
def g96 : E8 → AV := fun e => e.1.2.2.1.1.1.1.1
def g97 : E8 → AV := fun e => e.1.2.2.1.1.1.1.2
def g98 : E8 → AV := fun e => e.1.2.2.1.1.1.2.1
def g99 : E8 → AV := fun e => e.1.2.2.1.1.1.2.2
def g100 : E8 → AV := fun e => e.1.2.2.1.1.2.1.1
def g101 : E8 → AV := fun e => e.1.2.2.1.1.2.1.2
def g102 : E8 → AV := fun e => e.1.2.2.1.1.2.2.1
def g103 : E8 → AV := fun e => e.1.2.2.1.1.2.2.2
def g104 : E8 → AV := fun e => e.1.2.2.1.2.1.1.1
def g105 : E8 → AV := fun e => e.1.2.2.1.2.1.1.2
def g106 : E8 → AV := fun e => e.1.2.2.1.2.1.2.1
def g107 : E8 → AV := fun e => e.1.2.2.1.2.1.2.2
def g108 : E8 → AV := fun e => e.1.2.2.1.2.2.1.1
def g109 : E8 → AV := fun e => e.1.2.2.1.2.2.1.2
def g110 : E8 → AV := fun e => e.1.2.2.1.2.2.2.1
def g111 : E8 → AV := fun e => e.1.2.2.1.2.2.2.2
def g112 : E8 → AV := fun e => e.1.2.2.2.1.1.1.1
def g113 : E8 → AV := fun e => e.1.2.2.2.1.1.1.2
def g114 : E8 → AV := fun e => e.1.2.2.2.1.1.2.1
def g115 : E8 → AV := fun e => e.1.2.2.2.1.1.2.2
def g116 : E8 → AV := fun e => e.1.2.2.2.1.2.1.1
def g117 : E8 → AV := fun e => e.1.2.2.2.1.2.1.2
def g118 : E8 → AV := fun e => e.1.2.2.2.1.2.2.1
def g119 : E8 → AV := fun e => e.1.2.2.2.1.2.2.2
def g120 : E8 → AV := fun e => e.1.2.2.2.2.1.1.1
def g121 : E8 → AV := fun e => e.1.2.2.2.2.1.1.2
def g122 : E8 → AV := fun e => e.1.2.2.2.2.1.2.1
def g123 : E8 → AV := fun e => e.1.2.2.2.2.1.2.2
def g124 : E8 → AV := fun e => e.1.2.2.2.2.2.1.1
def g125 : E8 → AV := fun e => e.1.2.2.2.2.2.1.2
def g126 : E8 → AV := fun e => e.1.2.2.2.2.2.2.1
def g127 : E8 → AV := fun e => e.1.2.2.2.2.2.2.2
def g128 : E8 → AV := fun e => e.2.1.1.1.1.1.1.1
def g129 : E8 → AV := fun e => e.2.1.1.1.1.1.1.2
def g130 : E8 → AV := fun e => e.2.1.1.1.1.1.2.1
def g131 : E8 → AV := fun e => e.2.1.1.1.1.1.2.2
def g132 : E8 → AV := fun e => e.2.1.1.1.1.2.1.1
def g133 : E8 → AV := fun e => e.2.1.1.1.1.2.1.2
def g134 : E8 → AV := fun e => e.2.1.1.1.1.2.2.1
def g135 : E8 → AV := fun e => e.2.1.1.1.1.2.2.2
def g136 : E8 → AV := fun e => e.2.1.1.1.2.1.1.1
def g137 : E8 → AV := fun e => e.2.1.1.1.2.1.1.2
def g138 : E8 → AV := fun e => e.2.1.1.1.2.1.2.1
def g139 : E8 → AV := fun e => e.2.1.1.1.2.1.2.2
def g140 : E8 → AV := fun e => e.2.1.1.1.2.2.1.1
def g141 : E8 → AV := fun e => e.2.1.1.1.2.2.1.2
def g142 : E8 → AV := fun e => e.2.1.1.1.2.2.2.1
def g143 : E8 → AV := fun e => e.2.1.1.1.2.2.2.2
def g144 : E8 → AV := fun e => e.2.1.1.2.1.1.1.1
def g145 : E8 → AV := fun e => e.2.1.1.2.1.1.1.2
def g146 : E8 → AV := fun e => e.2.1.1.2.1.1.2.1
def g147 : E8 → AV := fun e => e.2.1.1.2.1.1.2.2
def g148 : E8 → AV := fun e => e.2.1.1.2.1.2.1.1
def g149 : E8 → AV := fun e => e.2.1.1.2.1.2.1.2
def g150 : E8 → AV := fun e => e.2.1.1.2.1.2.2.1
def g151 : E8 → AV := fun e => e.2.1.1.2.1.2.2.2
def g152 : E8 → AV := fun e => e.2.1.1.2.2.1.1.1
def g153 : E8 → AV := fun e => e.2.1.1.2.2.1.1.2
def g154 : E8 → AV := fun e => e.2.1.1.2.2.1.2.1
def g155 : E8 → AV := fun e => e.2.1.1.2.2.1.2.2
def g156 : E8 → AV := fun e => e.2.1.1.2.2.2.1.1
def g157 : E8 → AV := fun e => e.2.1.1.2.2.2.1.2
def g158 : E8 → AV := fun e => e.2.1.1.2.2.2.2.1
def g159 : E8 → AV := fun e => e.2.1.1.2.2.2.2.2
def g160 : E8 → AV := fun e => e.2.1.2.1.1.1.1.1
def g161 : E8 → AV := fun e => e.2.1.2.1.1.1.1.2
def g162 : E8 → AV := fun e => e.2.1.2.1.1.1.2.1
def g163 : E8 → AV := fun e => e.2.1.2.1.1.1.2.2
def g164 : E8 → AV := fun e => e.2.1.2.1.1.2.1.1
def g165 : E8 → AV := fun e => e.2.1.2.1.1.2.1.2
def g166 : E8 → AV := fun e => e.2.1.2.1.1.2.2.1
def g167 : E8 → AV := fun e => e.2.1.2.1.1.2.2.2
def g168 : E8 → AV := fun e => e.2.1.2.1.2.1.1.1
def g169 : E8 → AV := fun e => e.2.1.2.1.2.1.1.2
def g170 : E8 → AV := fun e => e.2.1.2.1.2.1.2.1
def g171 : E8 → AV := fun e => e.2.1.2.1.2.1.2.2
def g172 : E8 → AV := fun e => e.2.1.2.1.2.2.1.1
def g173 : E8 → AV := fun e => e.2.1.2.1.2.2.1.2
def g174 : E8 → AV := fun e => e.2.1.2.1.2.2.2.1
def g175 : E8 → AV := fun e => e.2.1.2.1.2.2.2.2
def g176 : E8 → AV := fun e => e.2.1.2.2.1.1.1.1
def g177 : E8 → AV := fun e => e.2.1.2.2.1.1.1.2
def g178 : E8 → AV := fun e => e.2.1.2.2.1.1.2.1
def g179 : E8 → AV := fun e => e.2.1.2.2.1.1.2.2
def g180 : E8 → AV := fun e => e.2.1.2.2.1.2.1.1
def g181 : E8 → AV := fun e => e.2.1.2.2.1.2.1.2
def g182 : E8 → AV := fun e => e.2.1.2.2.1.2.2.1
def g183 : E8 → AV := fun e => e.2.1.2.2.1.2.2.2
def g184 : E8 → AV := fun e => e.2.1.2.2.2.1.1.1
def g185 : E8 → AV := fun e => e.2.1.2.2.2.1.1.2
def g186 : E8 → AV := fun e => e.2.1.2.2.2.1.2.1
def g187 : E8 → AV := fun e => e.2.1.2.2.2.1.2.2
def g188 : E8 → AV := fun e => e.2.1.2.2.2.2.1.1
def g189 : E8 → AV := fun e => e.2.1.2.2.2.2.1.2
def g190 : E8 → AV := fun e => e.2.1.2.2.2.2.2.1
def g191 : E8 → AV := fun e => e.2.1.2.2.2.2.2.2
def g192 : E8 → AV := fun e => e.2.2.1.1.1.1.1.1
def g193 : E8 → AV := fun e => e.2.2.1.1.1.1.1.2
def g194 : E8 → AV := fun e => e.2.2.1.1.1.1.2.1
def g195 : E8 → AV := fun e => e.2.2.1.1.1.1.2.2
def g196 : E8 → AV := fun e => e.2.2.1.1.1.2.1.1
def g197 : E8 → AV := fun e => e.2.2.1.1.1.2.1.2
def g198 : E8 → AV := fun e => e.2.2.1.1.1.2.2.1
def g199 : E8 → AV := fun e => e.2.2.1.1.1.2.2.2
def g200 : E8 → AV := fun e => e.2.2.1.1.2.1.1.1
def g201 : E8 → AV := fun e => e.2.2.1.1.2.1.1.2
def g202 : E8 → AV := fun e => e.2.2.1.1.2.1.2.1
def g203 : E8 → AV := fun e => e.2.2.1.1.2.1.2.2
def g204 : E8 → AV := fun e => e.2.2.1.1.2.2.1.1
def g205 : E8 → AV := fun e => e.2.2.1.1.2.2.1.2
def g206 : E8 → AV := fun e => e.2.2.1.1.2.2.2.1
def g207 : E8 → AV := fun e => e.2.2.1.1.2.2.2.2
def g208 : E8 → AV := fun e => e.2.2.1.2.1.1.1.1
def g209 : E8 → AV := fun e => e.2.2.1.2.1.1.1.2
def g210 : E8 → AV := fun e => e.2.2.1.2.1.1.2.1
def g211 : E8 → AV := fun e => e.2.2.1.2.1.1.2.2
def g212 : E8 → AV := fun e => e.2.2.1.2.1.2.1.1
def g213 : E8 → AV := fun e => e.2.2.1.2.1.2.1.2
def g214 : E8 → AV := fun e => e.2.2.1.2.1.2.2.1
def g215 : E8 → AV := fun e => e.2.2.1.2.1.2.2.2
def g216 : E8 → AV := fun e => e.2.2.1.2.2.1.1.1
def g217 : E8 → AV := fun e => e.2.2.1.2.2.1.1.2
def g218 : E8 → AV := fun e => e.2.2.1.2.2.1.2.1
def g219 : E8 → AV := fun e => e.2.2.1.2.2.1.2.2
def g220 : E8 → AV := fun e => e.2.2.1.2.2.2.1.1
def g221 : E8 → AV := fun e => e.2.2.1.2.2.2.1.2
def g222 : E8 → AV := fun e => e.2.2.1.2.2.2.2.1
def g223 : E8 → AV := fun e => e.2.2.1.2.2.2.2.2
def g224 : E8 → AV := fun e => e.2.2.2.1.1.1.1.1
def g225 : E8 → AV := fun e => e.2.2.2.1.1.1.1.2
def g226 : E8 → AV := fun e => e.2.2.2.1.1.1.2.1
def g227 : E8 → AV := fun e => e.2.2.2.1.1.1.2.2
def g228 : E8 → AV := fun e => e.2.2.2.1.1.2.1.1
def g229 : E8 → AV := fun e => e.2.2.2.1.1.2.1.2
def g230 : E8 → AV := fun e => e.2.2.2.1.1.2.2.1
def g231 : E8 → AV := fun e => e.2.2.2.1.1.2.2.2
def g232 : E8 → AV := fun e => e.2.2.2.1.2.1.1.1
def g233 : E8 → AV := fun e => e.2.2.2.1.2.1.1.2
def g234 : E8 → AV := fun e => e.2.2.2.1.2.1.2.1
def g235 : E8 → AV := fun e => e.2.2.2.1.2.1.2.2
def g236 : E8 → AV := fun e => e.2.2.2.1.2.2.1.1
def g237 : E8 → AV := fun e => e.2.2.2.1.2.2.1.2
def g238 : E8 → AV := fun e => e.2.2.2.1.2.2.2.1
def g239 : E8 → AV := fun e => e.2.2.2.1.2.2.2.2
def g240 : E8 → AV := fun e => e.2.2.2.2.1.1.1.1
def g241 : E8 → AV := fun e => e.2.2.2.2.1.1.1.2
def g242 : E8 → AV := fun e => e.2.2.2.2.1.1.2.1
def g243 : E8 → AV := fun e => e.2.2.2.2.1.1.2.2
def g244 : E8 → AV := fun e => e.2.2.2.2.1.2.1.1
def g245 : E8 → AV := fun e => e.2.2.2.2.1.2.1.2
def g246 : E8 → AV := fun e => e.2.2.2.2.1.2.2.1
def g247 : E8 → AV := fun e => e.2.2.2.2.1.2.2.2
def g248 : E8 → AV := fun e => e.2.2.2.2.2.1.1.1
def g249 : E8 → AV := fun e => e.2.2.2.2.2.1.1.2
def g250 : E8 → AV := fun e => e.2.2.2.2.2.1.2.1
def g251 : E8 → AV := fun e => e.2.2.2.2.2.1.2.2
def g252 : E8 → AV := fun e => e.2.2.2.2.2.2.1.1
def g253 : E8 → AV := fun e => e.2.2.2.2.2.2.1.2
def g254 : E8 → AV := fun e => e.2.2.2.2.2.2.2.1
def g255 : E8 → AV := fun e => e.2.2.2.2.2.2.2.2
def s0 : AV → E8 → E8 := fun v e => ((((((((v, e.1.1.1.1.1.1.1.2), e.1.1.1.1.1.1.2), e.1.1.1.1.1.2), e.1.1.1.1.2), e.1.1.1.2), e.1.1.2), e.1.2), e.2)
def s1 : AV → E8 → E8 := fun v e => ((((((((e.1.1.1.1.1.1.1.1, v), e.1.1.1.1.1.1.2), e.1.1.1.1.1.2), e.1.1.1.1.2), e.1.1.1.2), e.1.1.2), e.1.2), e.2)
def s2 : AV → E8 → E8 := fun v e => (((((((e.1.1.1.1.1.1.1, (v, e.1.1.1.1.1.1.2.2)), e.1.1.1.1.1.2), e.1.1.1.1.2), e.1.1.1.2), e.1.1.2), e.1.2), e.2)
def s3 : AV → E8 → E8 := fun v e => (((((((e.1.1.1.1.1.1.1, (e.1.1.1.1.1.1.2.1, v)), e.1.1.1.1.1.2), e.1.1.1.1.2), e.1.1.1.2), e.1.1.2), e.1.2), e.2)
def s4 : AV → E8 → E8 := fun v e => ((((((e.1.1.1.1.1.1, ((v, e.1.1.1.1.1.2.1.2), e.1.1.1.1.1.2.2)), e.1.1.1.1.2), e.1.1.1.2), e.1.1.2), e.1.2), e.2)
def s5 : AV → E8 → E8 := fun v e => ((((((e.1.1.1.1.1.1, ((e.1.1.1.1.1.2.1.1, v), e.1.1.1.1.1.2.2)), e.1.1.1.1.2), e.1.1.1.2), e.1.1.2), e.1.2), e.2)
def s6 : AV → E8 → E8 := fun v e => ((((((e.1.1.1.1.1.1, (e.1.1.1.1.1.2.1, (v, e.1.1.1.1.1.2.2.2))), e.1.1.1.1.2), e.1.1.1.2), e.1.1.2), e.1.2), e.2)
def s7 : AV → E8 → E8 := fun v e => ((((((e.1.1.1.1.1.1, (e.1.1.1.1.1.2.1, (e.1.1.1.1.1.2.2.1, v))), e.1.1.1.1.2), e.1.1.1.2), e.1.1.2), e.1.2), e.2)
def s8 : AV → E8 → E8 := fun v e => (((((e.1.1.1.1.1, (((v, e.1.1.1.1.2.1.1.2), e.1.1.1.1.2.1.2), e.1.1.1.1.2.2)), e.1.1.1.2), e.1.1.2), e.1.2), e.2)
def s9 : AV → E8 → E8 := fun v e => (((((e.1.1.1.1.1, (((e.1.1.1.1.2.1.1.1, v), e.1.1.1.1.2.1.2), e.1.1.1.1.2.2)), e.1.1.1.2), e.1.1.2), e.1.2), e.2)
def s10 : AV → E8 → E8 := fun v e => (((((e.1.1.1.1.1, ((e.1.1.1.1.2.1.1, (v, e.1.1.1.1.2.1.2.2)), e.1.1.1.1.2.2)), e.1.1.1.2), e.1.1.2), e.1.2), e.2)
def s11 : AV → E8 → E8 := fun v e => (((((e.1.1.1.1.1, ((e.1.1.1.1.2.1.1, (e.1.1.1.1.2.1.2.1, v)), e.1.1.1.1.2.2)), e.1.1.1.2), e.1.1.2), e.1.2), e.2)
def s12 : AV → E8 → E8 := fun v e => (((((e.1.1.1.1.1, (e.1.1.1.1.2.1, ((v, e.1.1.1.1.2.2.1.2), e.1.1.1.1.2.2.2))), e.1.1.1.2), e.1.1.2), e.1.2), e.2)
def s13 : AV → E8 → E8 := fun v e => (((((e.1.1.1.1.1, (e.1.1.1.1.2.1, ((e.1.1.1.1.2.2.1.1, v), e.1.1.1.1.2.2.2))), e.1.1.1.2), e.1.1.2), e.1.2), e.2)
def s14 : AV → E8 → E8 := fun v e => (((((e.1.1.1.1.1, (e.1.1.1.1.2.1, (e.1.1.1.1.2.2.1, (v, e.1.1.1.1.2.2.2.2)))), e.1.1.1.2), e.1.1.2), e.1.2), e.2)
def s15 : AV → E8 → E8 := fun v e => (((((e.1.1.1.1.1, (e.1.1.1.1.2.1, (e.1.1.1.1.2.2.1, (e.1.1.1.1.2.2.2.1, v)))), e.1.1.1.2), e.1.1.2), e.1.2), e.2)
def s16 : AV → E8 → E8 := fun v e => ((((e.1.1.1.1, ((((v, e.1.1.1.2.1.1.1.2), e.1.1.1.2.1.1.2), e.1.1.1.2.1.2), e.1.1.1.2.2)), e.1.1.2), e.1.2), e.2)
def s17 : AV → E8 → E8 := fun v e => ((((e.1.1.1.1, ((((e.1.1.1.2.1.1.1.1, v), e.1.1.1.2.1.1.2), e.1.1.1.2.1.2), e.1.1.1.2.2)), e.1.1.2), e.1.2), e.2)
def s18 : AV → E8 → E8 := fun v e => ((((e.1.1.1.1, (((e.1.1.1.2.1.1.1, (v, e.1.1.1.2.1.1.2.2)), e.1.1.1.2.1.2), e.1.1.1.2.2)), e.1.1.2), e.1.2), e.2)
def s19 : AV → E8 → E8 := fun v e => ((((e.1.1.1.1, (((e.1.1.1.2.1.1.1, (e.1.1.1.2.1.1.2.1, v)), e.1.1.1.2.1.2), e.1.1.1.2.2)), e.1.1.2), e.1.2), e.2)
def s20 : AV → E8 → E8 := fun v e => ((((e.1.1.1.1, ((e.1.1.1.2.1.1, ((v, e.1.1.1.2.1.2.1.2), e.1.1.1.2.1.2.2)), e.1.1.1.2.2)), e.1.1.2), e.1.2), e.2)
def s21 : AV → E8 → E8 := fun v e => ((((e.1.1.1.1, ((e.1.1.1.2.1.1, ((e.1.1.1.2.1.2.1.1, v), e.1.1.1.2.1.2.2)), e.1.1.1.2.2)), e.1.1.2), e.1.2), e.2)
def s22 : AV → E8 → E8 := fun v e => ((((e.1.1.1.1, ((e.1.1.1.2.1.1, (e.1.1.1.2.1.2.1, (v, e.1.1.1.2.1.2.2.2))), e.1.1.1.2.2)), e.1.1.2), e.1.2), e.2)
def s23 : AV → E8 → E8 := fun v e => ((((e.1.1.1.1, ((e.1.1.1.2.1.1, (e.1.1.1.2.1.2.1, (e.1.1.1.2.1.2.2.1, v))), e.1.1.1.2.2)), e.1.1.2), e.1.2), e.2)
def s24 : AV → E8 → E8 := fun v e => ((((e.1.1.1.1, (e.1.1.1.2.1, (((v, e.1.1.1.2.2.1.1.2), e.1.1.1.2.2.1.2), e.1.1.1.2.2.2))), e.1.1.2), e.1.2), e.2)
def s25 : AV → E8 → E8 := fun v e => ((((e.1.1.1.1, (e.1.1.1.2.1, (((e.1.1.1.2.2.1.1.1, v), e.1.1.1.2.2.1.2), e.1.1.1.2.2.2))), e.1.1.2), e.1.2), e.2)
def s26 : AV → E8 → E8 := fun v e => ((((e.1.1.1.1, (e.1.1.1.2.1, ((e.1.1.1.2.2.1.1, (v, e.1.1.1.2.2.1.2.2)), e.1.1.1.2.2.2))), e.1.1.2), e.1.2), e.2)
def s27 : AV → E8 → E8 := fun v e => ((((e.1.1.1.1, (e.1.1.1.2.1, ((e.1.1.1.2.2.1.1, (e.1.1.1.2.2.1.2.1, v)), e.1.1.1.2.2.2))), e.1.1.2), e.1.2), e.2)
def s28 : AV → E8 → E8 := fun v e => ((((e.1.1.1.1, (e.1.1.1.2.1, (e.1.1.1.2.2.1, ((v, e.1.1.1.2.2.2.1.2), e.1.1.1.2.2.2.2)))), e.1.1.2), e.1.2), e.2)
def s29 : AV → E8 → E8 := fun v e => ((((e.1.1.1.1, (e.1.1.1.2.1, (e.1.1.1.2.2.1, ((e.1.1.1.2.2.2.1.1, v), e.1.1.1.2.2.2.2)))), e.1.1.2), e.1.2), e.2)
def s30 : AV → E8 → E8 := fun v e => ((((e.1.1.1.1, (e.1.1.1.2.1, (e.1.1.1.2.2.1, (e.1.1.1.2.2.2.1, (v, e.1.1.1.2.2.2.2.2))))), e.1.1.2), e.1.2), e.2)
def s31 : AV → E8 → E8 := fun v e => ((((e.1.1.1.1, (e.1.1.1.2.1, (e.1.1.1.2.2.1, (e.1.1.1.2.2.2.1, (e.1.1.1.2.2.2.2.1, v))))), e.1.1.2), e.1.2), e.2)
def s32 : AV → E8 → E8 := fun v e => (((e.1.1.1, (((((v, e.1.1.2.1.1.1.1.2), e.1.1.2.1.1.1.2), e.1.1.2.1.1.2), e.1.1.2.1.2), e.1.1.2.2)), e.1.2), e.2)
def s33 : AV → E8 → E8 := fun v e => (((e.1.1.1, (((((e.1.1.2.1.1.1.1.1, v), e.1.1.2.1.1.1.2), e.1.1.2.1.1.2), e.1.1.2.1.2), e.1.1.2.2)), e.1.2), e.2)
def s34 : AV → E8 → E8 := fun v e => (((e.1.1.1, ((((e.1.1.2.1.1.1.1, (v, e.1.1.2.1.1.1.2.2)), e.1.1.2.1.1.2), e.1.1.2.1.2), e.1.1.2.2)), e.1.2), e.2)
def s35 : AV → E8 → E8 := fun v e => (((e.1.1.1, ((((e.1.1.2.1.1.1.1, (e.1.1.2.1.1.1.2.1, v)), e.1.1.2.1.1.2), e.1.1.2.1.2), e.1.1.2.2)), e.1.2), e.2)
def s36 : AV → E8 → E8 := fun v e => (((e.1.1.1, (((e.1.1.2.1.1.1, ((v, e.1.1.2.1.1.2.1.2), e.1.1.2.1.1.2.2)), e.1.1.2.1.2), e.1.1.2.2)), e.1.2), e.2)
def s37 : AV → E8 → E8 := fun v e => (((e.1.1.1, (((e.1.1.2.1.1.1, ((e.1.1.2.1.1.2.1.1, v), e.1.1.2.1.1.2.2)), e.1.1.2.1.2), e.1.1.2.2)), e.1.2), e.2)
def s38 : AV → E8 → E8 := fun v e => (((e.1.1.1, (((e.1.1.2.1.1.1, (e.1.1.2.1.1.2.1, (v, e.1.1.2.1.1.2.2.2))), e.1.1.2.1.2), e.1.1.2.2)), e.1.2), e.2)
def s39 : AV → E8 → E8 := fun v e => (((e.1.1.1, (((e.1.1.2.1.1.1, (e.1.1.2.1.1.2.1, (e.1.1.2.1.1.2.2.1, v))), e.1.1.2.1.2), e.1.1.2.2)), e.1.2), e.2)
def s40 : AV → E8 → E8 := fun v e => (((e.1.1.1, ((e.1.1.2.1.1, (((v, e.1.1.2.1.2.1.1.2), e.1.1.2.1.2.1.2), e.1.1.2.1.2.2)), e.1.1.2.2)), e.1.2), e.2)
def s41 : AV → E8 → E8 := fun v e => (((e.1.1.1, ((e.1.1.2.1.1, (((e.1.1.2.1.2.1.1.1, v), e.1.1.2.1.2.1.2), e.1.1.2.1.2.2)), e.1.1.2.2)), e.1.2), e.2)
def s42 : AV → E8 → E8 := fun v e => (((e.1.1.1, ((e.1.1.2.1.1, ((e.1.1.2.1.2.1.1, (v, e.1.1.2.1.2.1.2.2)), e.1.1.2.1.2.2)), e.1.1.2.2)), e.1.2), e.2)
def s43 : AV → E8 → E8 := fun v e => (((e.1.1.1, ((e.1.1.2.1.1, ((e.1.1.2.1.2.1.1, (e.1.1.2.1.2.1.2.1, v)), e.1.1.2.1.2.2)), e.1.1.2.2)), e.1.2), e.2)
def s44 : AV → E8 → E8 := fun v e => (((e.1.1.1, ((e.1.1.2.1.1, (e.1.1.2.1.2.1, ((v, e.1.1.2.1.2.2.1.2), e.1.1.2.1.2.2.2))), e.1.1.2.2)), e.1.2), e.2)
def s45 : AV → E8 → E8 := fun v e => (((e.1.1.1, ((e.1.1.2.1.1, (e.1.1.2.1.2.1, ((e.1.1.2.1.2.2.1.1, v), e.1.1.2.1.2.2.2))), e.1.1.2.2)), e.1.2), e.2)
def s46 : AV → E8 → E8 := fun v e => (((e.1.1.1, ((e.1.1.2.1.1, (e.1.1.2.1.2.1, (e.1.1.2.1.2.2.1, (v, e.1.1.2.1.2.2.2.2)))), e.1.1.2.2)), e.1.2), e.2)
def s47 : AV → E8 → E8 := fun v e => (((e.1.1.1, ((e.1.1.2.1.1, (e.1.1.2.1.2.1, (e.1.1.2.1.2.2.1, (e.1.1.2.1.2.2.2.1, v)))), e.1.1.2.2)), e.1.2), e.2)
def s48 : AV → E8 → E8 := fun v e => (((e.1.1.1, (e.1.1.2.1, ((((v, e.1.1.2.2.1.1.1.2), e.1.1.2.2.1.1.2), e.1.1.2.2.1.2), e.1.1.2.2.2))), e.1.2), e.2)
def s49 : AV → E8 → E8 := fun v e => (((e.1.1.1, (e.1.1.2.1, ((((e.1.1.2.2.1.1.1.1, v), e.1.1.2.2.1.1.2), e.1.1.2.2.1.2), e.1.1.2.2.2))), e.1.2), e.2)
def s50 : AV → E8 → E8 := fun v e => (((e.1.1.1, (e.1.1.2.1, (((e.1.1.2.2.1.1.1, (v, e.1.1.2.2.1.1.2.2)), e.1.1.2.2.1.2), e.1.1.2.2.2))), e.1.2), e.2)
def s51 : AV → E8 → E8 := fun v e => (((e.1.1.1, (e.1.1.2.1, (((e.1.1.2.2.1.1.1, (e.1.1.2.2.1.1.2.1, v)), e.1.1.2.2.1.2), e.1.1.2.2.2))), e.1.2), e.2)
def s52 : AV → E8 → E8 := fun v e => (((e.1.1.1, (e.1.1.2.1, ((e.1.1.2.2.1.1, ((v, e.1.1.2.2.1.2.1.2), e.1.1.2.2.1.2.2)), e.1.1.2.2.2))), e.1.2), e.2)
def s53 : AV → E8 → E8 := fun v e => (((e.1.1.1, (e.1.1.2.1, ((e.1.1.2.2.1.1, ((e.1.1.2.2.1.2.1.1, v), e.1.1.2.2.1.2.2)), e.1.1.2.2.2))), e.1.2), e.2)
def s54 : AV → E8 → E8 := fun v e => (((e.1.1.1, (e.1.1.2.1, ((e.1.1.2.2.1.1, (e.1.1.2.2.1.2.1, (v, e.1.1.2.2.1.2.2.2))), e.1.1.2.2.2))), e.1.2), e.2)
def s55 : AV → E8 → E8 := fun v e => (((e.1.1.1, (e.1.1.2.1, ((e.1.1.2.2.1.1, (e.1.1.2.2.1.2.1, (e.1.1.2.2.1.2.2.1, v))), e.1.1.2.2.2))), e.1.2), e.2)
def s56 : AV → E8 → E8 := fun v e => (((e.1.1.1, (e.1.1.2.1, (e.1.1.2.2.1, (((v, e.1.1.2.2.2.1.1.2), e.1.1.2.2.2.1.2), e.1.1.2.2.2.2)))), e.1.2), e.2)
def s57 : AV → E8 → E8 := fun v e => (((e.1.1.1, (e.1.1.2.1, (e.1.1.2.2.1, (((e.1.1.2.2.2.1.1.1, v), e.1.1.2.2.2.1.2), e.1.1.2.2.2.2)))), e.1.2), e.2)
def s58 : AV → E8 → E8 := fun v e => (((e.1.1.1, (e.1.1.2.1, (e.1.1.2.2.1, ((e.1.1.2.2.2.1.1, (v, e.1.1.2.2.2.1.2.2)), e.1.1.2.2.2.2)))), e.1.2), e.2)
def s59 : AV → E8 → E8 := fun v e => (((e.1.1.1, (e.1.1.2.1, (e.1.1.2.2.1, ((e.1.1.2.2.2.1.1, (e.1.1.2.2.2.1.2.1, v)), e.1.1.2.2.2.2)))), e.1.2), e.2)
def s60 : AV → E8 → E8 := fun v e => (((e.1.1.1, (e.1.1.2.1, (e.1.1.2.2.1, (e.1.1.2.2.2.1, ((v, e.1.1.2.2.2.2.1.2), e.1.1.2.2.2.2.2))))), e.1.2), e.2)
def s61 : AV → E8 → E8 := fun v e => (((e.1.1.1, (e.1.1.2.1, (e.1.1.2.2.1, (e.1.1.2.2.2.1, ((e.1.1.2.2.2.2.1.1, v), e.1.1.2.2.2.2.2))))), e.1.2), e.2)
def s62 : AV → E8 → E8 := fun v e => (((e.1.1.1, (e.1.1.2.1, (e.1.1.2.2.1, (e.1.1.2.2.2.1, (e.1.1.2.2.2.2.1, (v, e.1.1.2.2.2.2.2.2)))))), e.1.2), e.2)
def s63 : AV → E8 → E8 := fun v e => (((e.1.1.1, (e.1.1.2.1, (e.1.1.2.2.1, (e.1.1.2.2.2.1, (e.1.1.2.2.2.2.1, (e.1.1.2.2.2.2.2.1, v)))))), e.1.2), e.2)
def s64 : AV → E8 → E8 := fun v e => ((e.1.1, ((((((v, e.1.2.1.1.1.1.1.2), e.1.2.1.1.1.1.2), e.1.2.1.1.1.2), e.1.2.1.1.2), e.1.2.1.2), e.1.2.2)), e.2)
def s65 : AV → E8 → E8 := fun v e => ((e.1.1, ((((((e.1.2.1.1.1.1.1.1, v), e.1.2.1.1.1.1.2), e.1.2.1.1.1.2), e.1.2.1.1.2), e.1.2.1.2), e.1.2.2)), e.2)
def s66 : AV → E8 → E8 := fun v e => ((e.1.1, (((((e.1.2.1.1.1.1.1, (v, e.1.2.1.1.1.1.2.2)), e.1.2.1.1.1.2), e.1.2.1.1.2), e.1.2.1.2), e.1.2.2)), e.2)
def s67 : AV → E8 → E8 := fun v e => ((e.1.1, (((((e.1.2.1.1.1.1.1, (e.1.2.1.1.1.1.2.1, v)), e.1.2.1.1.1.2), e.1.2.1.1.2), e.1.2.1.2), e.1.2.2)), e.2)
def s68 : AV → E8 → E8 := fun v e => ((e.1.1, ((((e.1.2.1.1.1.1, ((v, e.1.2.1.1.1.2.1.2), e.1.2.1.1.1.2.2)), e.1.2.1.1.2), e.1.2.1.2), e.1.2.2)), e.2)
def s69 : AV → E8 → E8 := fun v e => ((e.1.1, ((((e.1.2.1.1.1.1, ((e.1.2.1.1.1.2.1.1, v), e.1.2.1.1.1.2.2)), e.1.2.1.1.2), e.1.2.1.2), e.1.2.2)), e.2)
def s70 : AV → E8 → E8 := fun v e => ((e.1.1, ((((e.1.2.1.1.1.1, (e.1.2.1.1.1.2.1, (v, e.1.2.1.1.1.2.2.2))), e.1.2.1.1.2), e.1.2.1.2), e.1.2.2)), e.2)
def s71 : AV → E8 → E8 := fun v e => ((e.1.1, ((((e.1.2.1.1.1.1, (e.1.2.1.1.1.2.1, (e.1.2.1.1.1.2.2.1, v))), e.1.2.1.1.2), e.1.2.1.2), e.1.2.2)), e.2)
def s72 : AV → E8 → E8 := fun v e => ((e.1.1, (((e.1.2.1.1.1, (((v, e.1.2.1.1.2.1.1.2), e.1.2.1.1.2.1.2), e.1.2.1.1.2.2)), e.1.2.1.2), e.1.2.2)), e.2)
def s73 : AV → E8 → E8 := fun v e => ((e.1.1, (((e.1.2.1.1.1, (((e.1.2.1.1.2.1.1.1, v), e.1.2.1.1.2.1.2), e.1.2.1.1.2.2)), e.1.2.1.2), e.1.2.2)), e.2)
def s74 : AV → E8 → E8 := fun v e => ((e.1.1, (((e.1.2.1.1.1, ((e.1.2.1.1.2.1.1, (v, e.1.2.1.1.2.1.2.2)), e.1.2.1.1.2.2)), e.1.2.1.2), e.1.2.2)), e.2)
def s75 : AV → E8 → E8 := fun v e => ((e.1.1, (((e.1.2.1.1.1, ((e.1.2.1.1.2.1.1, (e.1.2.1.1.2.1.2.1, v)), e.1.2.1.1.2.2)), e.1.2.1.2), e.1.2.2)), e.2)
def s76 : AV → E8 → E8 := fun v e => ((e.1.1, (((e.1.2.1.1.1, (e.1.2.1.1.2.1, ((v, e.1.2.1.1.2.2.1.2), e.1.2.1.1.2.2.2))), e.1.2.1.2), e.1.2.2)), e.2)
def s77 : AV → E8 → E8 := fun v e => ((e.1.1, (((e.1.2.1.1.1, (e.1.2.1.1.2.1, ((e.1.2.1.1.2.2.1.1, v), e.1.2.1.1.2.2.2))), e.1.2.1.2), e.1.2.2)), e.2)
def s78 : AV → E8 → E8 := fun v e => ((e.1.1, (((e.1.2.1.1.1, (e.1.2.1.1.2.1, (e.1.2.1.1.2.2.1, (v, e.1.2.1.1.2.2.2.2)))), e.1.2.1.2), e.1.2.2)), e.2)
def s79 : AV → E8 → E8 := fun v e => ((e.1.1, (((e.1.2.1.1.1, (e.1.2.1.1.2.1, (e.1.2.1.1.2.2.1, (e.1.2.1.1.2.2.2.1, v)))), e.1.2.1.2), e.1.2.2)), e.2)
def s80 : AV → E8 → E8 := fun v e => ((e.1.1, ((e.1.2.1.1, ((((v, e.1.2.1.2.1.1.1.2), e.1.2.1.2.1.1.2), e.1.2.1.2.1.2), e.1.2.1.2.2)), e.1.2.2)), e.2)
def s81 : AV → E8 → E8 := fun v e => ((e.1.1, ((e.1.2.1.1, ((((e.1.2.1.2.1.1.1.1, v), e.1.2.1.2.1.1.2), e.1.2.1.2.1.2), e.1.2.1.2.2)), e.1.2.2)), e.2)
def s82 : AV → E8 → E8 := fun v e => ((e.1.1, ((e.1.2.1.1, (((e.1.2.1.2.1.1.1, (v, e.1.2.1.2.1.1.2.2)), e.1.2.1.2.1.2), e.1.2.1.2.2)), e.1.2.2)), e.2)
def s83 : AV → E8 → E8 := fun v e => ((e.1.1, ((e.1.2.1.1, (((e.1.2.1.2.1.1.1, (e.1.2.1.2.1.1.2.1, v)), e.1.2.1.2.1.2), e.1.2.1.2.2)), e.1.2.2)), e.2)
def s84 : AV → E8 → E8 := fun v e => ((e.1.1, ((e.1.2.1.1, ((e.1.2.1.2.1.1, ((v, e.1.2.1.2.1.2.1.2), e.1.2.1.2.1.2.2)), e.1.2.1.2.2)), e.1.2.2)), e.2)
def s85 : AV → E8 → E8 := fun v e => ((e.1.1, ((e.1.2.1.1, ((e.1.2.1.2.1.1, ((e.1.2.1.2.1.2.1.1, v), e.1.2.1.2.1.2.2)), e.1.2.1.2.2)), e.1.2.2)), e.2)
def s86 : AV → E8 → E8 := fun v e => ((e.1.1, ((e.1.2.1.1, ((e.1.2.1.2.1.1, (e.1.2.1.2.1.2.1, (v, e.1.2.1.2.1.2.2.2))), e.1.2.1.2.2)), e.1.2.2)), e.2)
def s87 : AV → E8 → E8 := fun v e => ((e.1.1, ((e.1.2.1.1, ((e.1.2.1.2.1.1, (e.1.2.1.2.1.2.1, (e.1.2.1.2.1.2.2.1, v))), e.1.2.1.2.2)), e.1.2.2)), e.2)
def s88 : AV → E8 → E8 := fun v e => ((e.1.1, ((e.1.2.1.1, (e.1.2.1.2.1, (((v, e.1.2.1.2.2.1.1.2), e.1.2.1.2.2.1.2), e.1.2.1.2.2.2))), e.1.2.2)), e.2)
def s89 : AV → E8 → E8 := fun v e => ((e.1.1, ((e.1.2.1.1, (e.1.2.1.2.1, (((e.1.2.1.2.2.1.1.1, v), e.1.2.1.2.2.1.2), e.1.2.1.2.2.2))), e.1.2.2)), e.2)
def s90 : AV → E8 → E8 := fun v e => ((e.1.1, ((e.1.2.1.1, (e.1.2.1.2.1, ((e.1.2.1.2.2.1.1, (v, e.1.2.1.2.2.1.2.2)), e.1.2.1.2.2.2))), e.1.2.2)), e.2)
def s91 : AV → E8 → E8 := fun v e => ((e.1.1, ((e.1.2.1.1, (e.1.2.1.2.1, ((e.1.2.1.2.2.1.1, (e.1.2.1.2.2.1.2.1, v)), e.1.2.1.2.2.2))), e.1.2.2)), e.2)
def s92 : AV → E8 → E8 := fun v e => ((e.1.1, ((e.1.2.1.1, (e.1.2.1.2.1, (e.1.2.1.2.2.1, ((v, e.1.2.1.2.2.2.1.2), e.1.2.1.2.2.2.2)))), e.1.2.2)), e.2)
def s93 : AV → E8 → E8 := fun v e => ((e.1.1, ((e.1.2.1.1, (e.1.2.1.2.1, (e.1.2.1.2.2.1, ((e.1.2.1.2.2.2.1.1, v), e.1.2.1.2.2.2.2)))), e.1.2.2)), e.2)
def s94 : AV → E8 → E8 := fun v e => ((e.1.1, ((e.1.2.1.1, (e.1.2.1.2.1, (e.1.2.1.2.2.1, (e.1.2.1.2.2.2.1, (v, e.1.2.1.2.2.2.2.2))))), e.1.2.2)), e.2)
def s95 : AV → E8 → E8 := fun v e => ((e.1.1, ((e.1.2.1.1, (e.1.2.1.2.1, (e.1.2.1.2.2.1, (e.1.2.1.2.2.2.1, (e.1.2.1.2.2.2.2.1, v))))), e.1.2.2)), e.2)
def s96 : AV → E8 → E8 := fun v e => ((e.1.1, (e.1.2.1, (((((v, e.1.2.2.1.1.1.1.2), e.1.2.2.1.1.1.2), e.1.2.2.1.1.2), e.1.2.2.1.2), e.1.2.2.2))), e.2)
def s97 : AV → E8 → E8 := fun v e => ((e.1.1, (e.1.2.1, (((((e.1.2.2.1.1.1.1.1, v), e.1.2.2.1.1.1.2), e.1.2.2.1.1.2), e.1.2.2.1.2), e.1.2.2.2))), e.2)
def s98 : AV → E8 → E8 := fun v e => ((e.1.1, (e.1.2.1, ((((e.1.2.2.1.1.1.1, (v, e.1.2.2.1.1.1.2.2)), e.1.2.2.1.1.2), e.1.2.2.1.2), e.1.2.2.2))), e.2)
def s99 : AV → E8 → E8 := fun v e => ((e.1.1, (e.1.2.1, ((((e.1.2.2.1.1.1.1, (e.1.2.2.1.1.1.2.1, v)), e.1.2.2.1.1.2), e.1.2.2.1.2), e.1.2.2.2))), e.2)
def s100 : AV → E8 → E8 := fun v e => ((e.1.1, (e.1.2.1, (((e.1.2.2.1.1.1, ((v, e.1.2.2.1.1.2.1.2), e.1.2.2.1.1.2.2)), e.1.2.2.1.2), e.1.2.2.2))), e.2)
def s101 : AV → E8 → E8 := fun v e => ((e.1.1, (e.1.2.1, (((e.1.2.2.1.1.1, ((e.1.2.2.1.1.2.1.1, v), e.1.2.2.1.1.2.2)), e.1.2.2.1.2), e.1.2.2.2))), e.2)
def s102 : AV → E8 → E8 := fun v e => ((e.1.1, (e.1.2.1, (((e.1.2.2.1.1.1, (e.1.2.2.1.1.2.1, (v, e.1.2.2.1.1.2.2.2))), e.1.2.2.1.2), e.1.2.2.2))), e.2)
def s103 : AV → E8 → E8 := fun v e => ((e.1.1, (e.1.2.1, (((e.1.2.2.1.1.1, (e.1.2.2.1.1.2.1, (e.1.2.2.1.1.2.2.1, v))), e.1.2.2.1.2), e.1.2.2.2))), e.2)
def s104 : AV → E8 → E8 := fun v e => ((e.1.1, (e.1.2.1, ((e.1.2.2.1.1, (((v, e.1.2.2.1.2.1.1.2), e.1.2.2.1.2.1.2), e.1.2.2.1.2.2)), e.1.2.2.2))), e.2)
def s105 : AV → E8 → E8 := fun v e => ((e.1.1, (e.1.2.1, ((e.1.2.2.1.1, (((e.1.2.2.1.2.1.1.1, v), e.1.2.2.1.2.1.2), e.1.2.2.1.2.2)), e.1.2.2.2))), e.2)
def s106 : AV → E8 → E8 := fun v e => ((e.1.1, (e.1.2.1, ((e.1.2.2.1.1, ((e.1.2.2.1.2.1.1, (v, e.1.2.2.1.2.1.2.2)), e.1.2.2.1.2.2)), e.1.2.2.2))), e.2)
def s107 : AV → E8 → E8 := fun v e => ((e.1.1, (e.1.2.1, ((e.1.2.2.1.1, ((e.1.2.2.1.2.1.1, (e.1.2.2.1.2.1.2.1, v)), e.1.2.2.1.2.2)), e.1.2.2.2))), e.2)
def s108 : AV → E8 → E8 := fun v e => ((e.1.1, (e.1.2.1, ((e.1.2.2.1.1, (e.1.2.2.1.2.1, ((v, e.1.2.2.1.2.2.1.2), e.1.2.2.1.2.2.2))), e.1.2.2.2))), e.2)
def s109 : AV → E8 → E8 := fun v e => ((e.1.1, (e.1.2.1, ((e.1.2.2.1.1, (e.1.2.2.1.2.1, ((e.1.2.2.1.2.2.1.1, v), e.1.2.2.1.2.2.2))), e.1.2.2.2))), e.2)
def s110 : AV → E8 → E8 := fun v e => ((e.1.1, (e.1.2.1, ((e.1.2.2.1.1, (e.1.2.2.1.2.1, (e.1.2.2.1.2.2.1, (v, e.1.2.2.1.2.2.2.2)))), e.1.2.2.2))), e.2)
def s111 : AV → E8 → E8 := fun v e => ((e.1.1, (e.1.2.1, ((e.1.2.2.1.1, (e.1.2.2.1.2.1, (e.1.2.2.1.2.2.1, (e.1.2.2.1.2.2.2.1, v)))), e.1.2.2.2))), e.2)
def s112 : AV → E8 → E8 := fun v e => ((e.1.1, (e.1.2.1, (e.1.2.2.1, ((((v, e.1.2.2.2.1.1.1.2), e.1.2.2.2.1.1.2), e.1.2.2.2.1.2), e.1.2.2.2.2)))), e.2)
def s113 : AV → E8 → E8 := fun v e => ((e.1.1, (e.1.2.1, (e.1.2.2.1, ((((e.1.2.2.2.1.1.1.1, v), e.1.2.2.2.1.1.2), e.1.2.2.2.1.2), e.1.2.2.2.2)))), e.2)
def s114 : AV → E8 → E8 := fun v e => ((e.1.1, (e.1.2.1, (e.1.2.2.1, (((e.1.2.2.2.1.1.1, (v, e.1.2.2.2.1.1.2.2)), e.1.2.2.2.1.2), e.1.2.2.2.2)))), e.2)
def s115 : AV → E8 → E8 := fun v e => ((e.1.1, (e.1.2.1, (e.1.2.2.1, (((e.1.2.2.2.1.1.1, (e.1.2.2.2.1.1.2.1, v)), e.1.2.2.2.1.2), e.1.2.2.2.2)))), e.2)
def s116 : AV → E8 → E8 := fun v e => ((e.1.1, (e.1.2.1, (e.1.2.2.1, ((e.1.2.2.2.1.1, ((v, e.1.2.2.2.1.2.1.2), e.1.2.2.2.1.2.2)), e.1.2.2.2.2)))), e.2)
def s117 : AV → E8 → E8 := fun v e => ((e.1.1, (e.1.2.1, (e.1.2.2.1, ((e.1.2.2.2.1.1, ((e.1.2.2.2.1.2.1.1, v), e.1.2.2.2.1.2.2)), e.1.2.2.2.2)))), e.2)
def s118 : AV → E8 → E8 := fun v e => ((e.1.1, (e.1.2.1, (e.1.2.2.1, ((e.1.2.2.2.1.1, (e.1.2.2.2.1.2.1, (v, e.1.2.2.2.1.2.2.2))), e.1.2.2.2.2)))), e.2)
def s119 : AV → E8 → E8 := fun v e => ((e.1.1, (e.1.2.1, (e.1.2.2.1, ((e.1.2.2.2.1.1, (e.1.2.2.2.1.2.1, (e.1.2.2.2.1.2.2.1, v))), e.1.2.2.2.2)))), e.2)
def s120 : AV → E8 → E8 := fun v e => ((e.1.1, (e.1.2.1, (e.1.2.2.1, (e.1.2.2.2.1, (((v, e.1.2.2.2.2.1.1.2), e.1.2.2.2.2.1.2), e.1.2.2.2.2.2))))), e.2)
def s121 : AV → E8 → E8 := fun v e => ((e.1.1, (e.1.2.1, (e.1.2.2.1, (e.1.2.2.2.1, (((e.1.2.2.2.2.1.1.1, v), e.1.2.2.2.2.1.2), e.1.2.2.2.2.2))))), e.2)
def s122 : AV → E8 → E8 := fun v e => ((e.1.1, (e.1.2.1, (e.1.2.2.1, (e.1.2.2.2.1, ((e.1.2.2.2.2.1.1, (v, e.1.2.2.2.2.1.2.2)), e.1.2.2.2.2.2))))), e.2)
def s123 : AV → E8 → E8 := fun v e => ((e.1.1, (e.1.2.1, (e.1.2.2.1, (e.1.2.2.2.1, ((e.1.2.2.2.2.1.1, (e.1.2.2.2.2.1.2.1, v)), e.1.2.2.2.2.2))))), e.2)
def s124 : AV → E8 → E8 := fun v e => ((e.1.1, (e.1.2.1, (e.1.2.2.1, (e.1.2.2.2.1, (e.1.2.2.2.2.1, ((v, e.1.2.2.2.2.2.1.2), e.1.2.2.2.2.2.2)))))), e.2)
def s125 : AV → E8 → E8 := fun v e => ((e.1.1, (e.1.2.1, (e.1.2.2.1, (e.1.2.2.2.1, (e.1.2.2.2.2.1, ((e.1.2.2.2.2.2.1.1, v), e.1.2.2.2.2.2.2)))))), e.2)
def s126 : AV → E8 → E8 := fun v e => ((e.1.1, (e.1.2.1, (e.1.2.2.1, (e.1.2.2.2.1, (e.1.2.2.2.2.1, (e.1.2.2.2.2.2.1, (v, e.1.2.2.2.2.2.2.2))))))), e.2)
def s127 : AV → E8 → E8 := fun v e => ((e.1.1, (e.1.2.1, (e.1.2.2.1, (e.1.2.2.2.1, (e.1.2.2.2.2.1, (e.1.2.2.2.2.2.1, (e.1.2.2.2.2.2.2.1, v))))))), e.2)
def s128 : AV → E8 → E8 := fun v e => (e.1, (((((((v, e.2.1.1.1.1.1.1.2), e.2.1.1.1.1.1.2), e.2.1.1.1.1.2), e.2.1.1.1.2), e.2.1.1.2), e.2.1.2), e.2.2))
def s129 : AV → E8 → E8 := fun v e => (e.1, (((((((e.2.1.1.1.1.1.1.1, v), e.2.1.1.1.1.1.2), e.2.1.1.1.1.2), e.2.1.1.1.2), e.2.1.1.2), e.2.1.2), e.2.2))
def s130 : AV → E8 → E8 := fun v e => (e.1, ((((((e.2.1.1.1.1.1.1, (v, e.2.1.1.1.1.1.2.2)), e.2.1.1.1.1.2), e.2.1.1.1.2), e.2.1.1.2), e.2.1.2), e.2.2))
def s131 : AV → E8 → E8 := fun v e => (e.1, ((((((e.2.1.1.1.1.1.1, (e.2.1.1.1.1.1.2.1, v)), e.2.1.1.1.1.2), e.2.1.1.1.2), e.2.1.1.2), e.2.1.2), e.2.2))
def s132 : AV → E8 → E8 := fun v e => (e.1, (((((e.2.1.1.1.1.1, ((v, e.2.1.1.1.1.2.1.2), e.2.1.1.1.1.2.2)), e.2.1.1.1.2), e.2.1.1.2), e.2.1.2), e.2.2))
def s133 : AV → E8 → E8 := fun v e => (e.1, (((((e.2.1.1.1.1.1, ((e.2.1.1.1.1.2.1.1, v), e.2.1.1.1.1.2.2)), e.2.1.1.1.2), e.2.1.1.2), e.2.1.2), e.2.2))
def s134 : AV → E8 → E8 := fun v e => (e.1, (((((e.2.1.1.1.1.1, (e.2.1.1.1.1.2.1, (v, e.2.1.1.1.1.2.2.2))), e.2.1.1.1.2), e.2.1.1.2), e.2.1.2), e.2.2))
def s135 : AV → E8 → E8 := fun v e => (e.1, (((((e.2.1.1.1.1.1, (e.2.1.1.1.1.2.1, (e.2.1.1.1.1.2.2.1, v))), e.2.1.1.1.2), e.2.1.1.2), e.2.1.2), e.2.2))
def s136 : AV → E8 → E8 := fun v e => (e.1, ((((e.2.1.1.1.1, (((v, e.2.1.1.1.2.1.1.2), e.2.1.1.1.2.1.2), e.2.1.1.1.2.2)), e.2.1.1.2), e.2.1.2), e.2.2))
def s137 : AV → E8 → E8 := fun v e => (e.1, ((((e.2.1.1.1.1, (((e.2.1.1.1.2.1.1.1, v), e.2.1.1.1.2.1.2), e.2.1.1.1.2.2)), e.2.1.1.2), e.2.1.2), e.2.2))
def s138 : AV → E8 → E8 := fun v e => (e.1, ((((e.2.1.1.1.1, ((e.2.1.1.1.2.1.1, (v, e.2.1.1.1.2.1.2.2)), e.2.1.1.1.2.2)), e.2.1.1.2), e.2.1.2), e.2.2))
def s139 : AV → E8 → E8 := fun v e => (e.1, ((((e.2.1.1.1.1, ((e.2.1.1.1.2.1.1, (e.2.1.1.1.2.1.2.1, v)), e.2.1.1.1.2.2)), e.2.1.1.2), e.2.1.2), e.2.2))
def s140 : AV → E8 → E8 := fun v e => (e.1, ((((e.2.1.1.1.1, (e.2.1.1.1.2.1, ((v, e.2.1.1.1.2.2.1.2), e.2.1.1.1.2.2.2))), e.2.1.1.2), e.2.1.2), e.2.2))
def s141 : AV → E8 → E8 := fun v e => (e.1, ((((e.2.1.1.1.1, (e.2.1.1.1.2.1, ((e.2.1.1.1.2.2.1.1, v), e.2.1.1.1.2.2.2))), e.2.1.1.2), e.2.1.2), e.2.2))
def s142 : AV → E8 → E8 := fun v e => (e.1, ((((e.2.1.1.1.1, (e.2.1.1.1.2.1, (e.2.1.1.1.2.2.1, (v, e.2.1.1.1.2.2.2.2)))), e.2.1.1.2), e.2.1.2), e.2.2))
def s143 : AV → E8 → E8 := fun v e => (e.1, ((((e.2.1.1.1.1, (e.2.1.1.1.2.1, (e.2.1.1.1.2.2.1, (e.2.1.1.1.2.2.2.1, v)))), e.2.1.1.2), e.2.1.2), e.2.2))
def s144 : AV → E8 → E8 := fun v e => (e.1, (((e.2.1.1.1, ((((v, e.2.1.1.2.1.1.1.2), e.2.1.1.2.1.1.2), e.2.1.1.2.1.2), e.2.1.1.2.2)), e.2.1.2), e.2.2))
def s145 : AV → E8 → E8 := fun v e => (e.1, (((e.2.1.1.1, ((((e.2.1.1.2.1.1.1.1, v), e.2.1.1.2.1.1.2), e.2.1.1.2.1.2), e.2.1.1.2.2)), e.2.1.2), e.2.2))
def s146 : AV → E8 → E8 := fun v e => (e.1, (((e.2.1.1.1, (((e.2.1.1.2.1.1.1, (v, e.2.1.1.2.1.1.2.2)), e.2.1.1.2.1.2), e.2.1.1.2.2)), e.2.1.2), e.2.2))
def s147 : AV → E8 → E8 := fun v e => (e.1, (((e.2.1.1.1, (((e.2.1.1.2.1.1.1, (e.2.1.1.2.1.1.2.1, v)), e.2.1.1.2.1.2), e.2.1.1.2.2)), e.2.1.2), e.2.2))
def s148 : AV → E8 → E8 := fun v e => (e.1, (((e.2.1.1.1, ((e.2.1.1.2.1.1, ((v, e.2.1.1.2.1.2.1.2), e.2.1.1.2.1.2.2)), e.2.1.1.2.2)), e.2.1.2), e.2.2))
def s149 : AV → E8 → E8 := fun v e => (e.1, (((e.2.1.1.1, ((e.2.1.1.2.1.1, ((e.2.1.1.2.1.2.1.1, v), e.2.1.1.2.1.2.2)), e.2.1.1.2.2)), e.2.1.2), e.2.2))
def s150 : AV → E8 → E8 := fun v e => (e.1, (((e.2.1.1.1, ((e.2.1.1.2.1.1, (e.2.1.1.2.1.2.1, (v, e.2.1.1.2.1.2.2.2))), e.2.1.1.2.2)), e.2.1.2), e.2.2))
def s151 : AV → E8 → E8 := fun v e => (e.1, (((e.2.1.1.1, ((e.2.1.1.2.1.1, (e.2.1.1.2.1.2.1, (e.2.1.1.2.1.2.2.1, v))), e.2.1.1.2.2)), e.2.1.2), e.2.2))
def s152 : AV → E8 → E8 := fun v e => (e.1, (((e.2.1.1.1, (e.2.1.1.2.1, (((v, e.2.1.1.2.2.1.1.2), e.2.1.1.2.2.1.2), e.2.1.1.2.2.2))), e.2.1.2), e.2.2))
def s153 : AV → E8 → E8 := fun v e => (e.1, (((e.2.1.1.1, (e.2.1.1.2.1, (((e.2.1.1.2.2.1.1.1, v), e.2.1.1.2.2.1.2), e.2.1.1.2.2.2))), e.2.1.2), e.2.2))
def s154 : AV → E8 → E8 := fun v e => (e.1, (((e.2.1.1.1, (e.2.1.1.2.1, ((e.2.1.1.2.2.1.1, (v, e.2.1.1.2.2.1.2.2)), e.2.1.1.2.2.2))), e.2.1.2), e.2.2))
def s155 : AV → E8 → E8 := fun v e => (e.1, (((e.2.1.1.1, (e.2.1.1.2.1, ((e.2.1.1.2.2.1.1, (e.2.1.1.2.2.1.2.1, v)), e.2.1.1.2.2.2))), e.2.1.2), e.2.2))
def s156 : AV → E8 → E8 := fun v e => (e.1, (((e.2.1.1.1, (e.2.1.1.2.1, (e.2.1.1.2.2.1, ((v, e.2.1.1.2.2.2.1.2), e.2.1.1.2.2.2.2)))), e.2.1.2), e.2.2))
def s157 : AV → E8 → E8 := fun v e => (e.1, (((e.2.1.1.1, (e.2.1.1.2.1, (e.2.1.1.2.2.1, ((e.2.1.1.2.2.2.1.1, v), e.2.1.1.2.2.2.2)))), e.2.1.2), e.2.2))
def s158 : AV → E8 → E8 := fun v e => (e.1, (((e.2.1.1.1, (e.2.1.1.2.1, (e.2.1.1.2.2.1, (e.2.1.1.2.2.2.1, (v, e.2.1.1.2.2.2.2.2))))), e.2.1.2), e.2.2))
def s159 : AV → E8 → E8 := fun v e => (e.1, (((e.2.1.1.1, (e.2.1.1.2.1, (e.2.1.1.2.2.1, (e.2.1.1.2.2.2.1, (e.2.1.1.2.2.2.2.1, v))))), e.2.1.2), e.2.2))
def s160 : AV → E8 → E8 := fun v e => (e.1, ((e.2.1.1, (((((v, e.2.1.2.1.1.1.1.2), e.2.1.2.1.1.1.2), e.2.1.2.1.1.2), e.2.1.2.1.2), e.2.1.2.2)), e.2.2))
def s161 : AV → E8 → E8 := fun v e => (e.1, ((e.2.1.1, (((((e.2.1.2.1.1.1.1.1, v), e.2.1.2.1.1.1.2), e.2.1.2.1.1.2), e.2.1.2.1.2), e.2.1.2.2)), e.2.2))
def s162 : AV → E8 → E8 := fun v e => (e.1, ((e.2.1.1, ((((e.2.1.2.1.1.1.1, (v, e.2.1.2.1.1.1.2.2)), e.2.1.2.1.1.2), e.2.1.2.1.2), e.2.1.2.2)), e.2.2))
def s163 : AV → E8 → E8 := fun v e => (e.1, ((e.2.1.1, ((((e.2.1.2.1.1.1.1, (e.2.1.2.1.1.1.2.1, v)), e.2.1.2.1.1.2), e.2.1.2.1.2), e.2.1.2.2)), e.2.2))
def s164 : AV → E8 → E8 := fun v e => (e.1, ((e.2.1.1, (((e.2.1.2.1.1.1, ((v, e.2.1.2.1.1.2.1.2), e.2.1.2.1.1.2.2)), e.2.1.2.1.2), e.2.1.2.2)), e.2.2))
def s165 : AV → E8 → E8 := fun v e => (e.1, ((e.2.1.1, (((e.2.1.2.1.1.1, ((e.2.1.2.1.1.2.1.1, v), e.2.1.2.1.1.2.2)), e.2.1.2.1.2), e.2.1.2.2)), e.2.2))
def s166 : AV → E8 → E8 := fun v e => (e.1, ((e.2.1.1, (((e.2.1.2.1.1.1, (e.2.1.2.1.1.2.1, (v, e.2.1.2.1.1.2.2.2))), e.2.1.2.1.2), e.2.1.2.2)), e.2.2))
def s167 : AV → E8 → E8 := fun v e => (e.1, ((e.2.1.1, (((e.2.1.2.1.1.1, (e.2.1.2.1.1.2.1, (e.2.1.2.1.1.2.2.1, v))), e.2.1.2.1.2), e.2.1.2.2)), e.2.2))
def s168 : AV → E8 → E8 := fun v e => (e.1, ((e.2.1.1, ((e.2.1.2.1.1, (((v, e.2.1.2.1.2.1.1.2), e.2.1.2.1.2.1.2), e.2.1.2.1.2.2)), e.2.1.2.2)), e.2.2))
def s169 : AV → E8 → E8 := fun v e => (e.1, ((e.2.1.1, ((e.2.1.2.1.1, (((e.2.1.2.1.2.1.1.1, v), e.2.1.2.1.2.1.2), e.2.1.2.1.2.2)), e.2.1.2.2)), e.2.2))
def s170 : AV → E8 → E8 := fun v e => (e.1, ((e.2.1.1, ((e.2.1.2.1.1, ((e.2.1.2.1.2.1.1, (v, e.2.1.2.1.2.1.2.2)), e.2.1.2.1.2.2)), e.2.1.2.2)), e.2.2))
def s171 : AV → E8 → E8 := fun v e => (e.1, ((e.2.1.1, ((e.2.1.2.1.1, ((e.2.1.2.1.2.1.1, (e.2.1.2.1.2.1.2.1, v)), e.2.1.2.1.2.2)), e.2.1.2.2)), e.2.2))
def s172 : AV → E8 → E8 := fun v e => (e.1, ((e.2.1.1, ((e.2.1.2.1.1, (e.2.1.2.1.2.1, ((v, e.2.1.2.1.2.2.1.2), e.2.1.2.1.2.2.2))), e.2.1.2.2)), e.2.2))
def s173 : AV → E8 → E8 := fun v e => (e.1, ((e.2.1.1, ((e.2.1.2.1.1, (e.2.1.2.1.2.1, ((e.2.1.2.1.2.2.1.1, v), e.2.1.2.1.2.2.2))), e.2.1.2.2)), e.2.2))
def s174 : AV → E8 → E8 := fun v e => (e.1, ((e.2.1.1, ((e.2.1.2.1.1, (e.2.1.2.1.2.1, (e.2.1.2.1.2.2.1, (v, e.2.1.2.1.2.2.2.2)))), e.2.1.2.2)), e.2.2))
def s175 : AV → E8 → E8 := fun v e => (e.1, ((e.2.1.1, ((e.2.1.2.1.1, (e.2.1.2.1.2.1, (e.2.1.2.1.2.2.1, (e.2.1.2.1.2.2.2.1, v)))), e.2.1.2.2)), e.2.2))
def s176 : AV → E8 → E8 := fun v e => (e.1, ((e.2.1.1, (e.2.1.2.1, ((((v, e.2.1.2.2.1.1.1.2), e.2.1.2.2.1.1.2), e.2.1.2.2.1.2), e.2.1.2.2.2))), e.2.2))
def s177 : AV → E8 → E8 := fun v e => (e.1, ((e.2.1.1, (e.2.1.2.1, ((((e.2.1.2.2.1.1.1.1, v), e.2.1.2.2.1.1.2), e.2.1.2.2.1.2), e.2.1.2.2.2))), e.2.2))
def s178 : AV → E8 → E8 := fun v e => (e.1, ((e.2.1.1, (e.2.1.2.1, (((e.2.1.2.2.1.1.1, (v, e.2.1.2.2.1.1.2.2)), e.2.1.2.2.1.2), e.2.1.2.2.2))), e.2.2))
def s179 : AV → E8 → E8 := fun v e => (e.1, ((e.2.1.1, (e.2.1.2.1, (((e.2.1.2.2.1.1.1, (e.2.1.2.2.1.1.2.1, v)), e.2.1.2.2.1.2), e.2.1.2.2.2))), e.2.2))
def s180 : AV → E8 → E8 := fun v e => (e.1, ((e.2.1.1, (e.2.1.2.1, ((e.2.1.2.2.1.1, ((v, e.2.1.2.2.1.2.1.2), e.2.1.2.2.1.2.2)), e.2.1.2.2.2))), e.2.2))
def s181 : AV → E8 → E8 := fun v e => (e.1, ((e.2.1.1, (e.2.1.2.1, ((e.2.1.2.2.1.1, ((e.2.1.2.2.1.2.1.1, v), e.2.1.2.2.1.2.2)), e.2.1.2.2.2))), e.2.2))
def s182 : AV → E8 → E8 := fun v e => (e.1, ((e.2.1.1, (e.2.1.2.1, ((e.2.1.2.2.1.1, (e.2.1.2.2.1.2.1, (v, e.2.1.2.2.1.2.2.2))), e.2.1.2.2.2))), e.2.2))
def s183 : AV → E8 → E8 := fun v e => (e.1, ((e.2.1.1, (e.2.1.2.1, ((e.2.1.2.2.1.1, (e.2.1.2.2.1.2.1, (e.2.1.2.2.1.2.2.1, v))), e.2.1.2.2.2))), e.2.2))
def s184 : AV → E8 → E8 := fun v e => (e.1, ((e.2.1.1, (e.2.1.2.1, (e.2.1.2.2.1, (((v, e.2.1.2.2.2.1.1.2), e.2.1.2.2.2.1.2), e.2.1.2.2.2.2)))), e.2.2))
def s185 : AV → E8 → E8 := fun v e => (e.1, ((e.2.1.1, (e.2.1.2.1, (e.2.1.2.2.1, (((e.2.1.2.2.2.1.1.1, v), e.2.1.2.2.2.1.2), e.2.1.2.2.2.2)))), e.2.2))
def s186 : AV → E8 → E8 := fun v e => (e.1, ((e.2.1.1, (e.2.1.2.1, (e.2.1.2.2.1, ((e.2.1.2.2.2.1.1, (v, e.2.1.2.2.2.1.2.2)), e.2.1.2.2.2.2)))), e.2.2))
def s187 : AV → E8 → E8 := fun v e => (e.1, ((e.2.1.1, (e.2.1.2.1, (e.2.1.2.2.1, ((e.2.1.2.2.2.1.1, (e.2.1.2.2.2.1.2.1, v)), e.2.1.2.2.2.2)))), e.2.2))
def s188 : AV → E8 → E8 := fun v e => (e.1, ((e.2.1.1, (e.2.1.2.1, (e.2.1.2.2.1, (e.2.1.2.2.2.1, ((v, e.2.1.2.2.2.2.1.2), e.2.1.2.2.2.2.2))))), e.2.2))
def s189 : AV → E8 → E8 := fun v e => (e.1, ((e.2.1.1, (e.2.1.2.1, (e.2.1.2.2.1, (e.2.1.2.2.2.1, ((e.2.1.2.2.2.2.1.1, v), e.2.1.2.2.2.2.2))))), e.2.2))
def s190 : AV → E8 → E8 := fun v e => (e.1, ((e.2.1.1, (e.2.1.2.1, (e.2.1.2.2.1, (e.2.1.2.2.2.1, (e.2.1.2.2.2.2.1, (v, e.2.1.2.2.2.2.2.2)))))), e.2.2))
def s191 : AV → E8 → E8 := fun v e => (e.1, ((e.2.1.1, (e.2.1.2.1, (e.2.1.2.2.1, (e.2.1.2.2.2.1, (e.2.1.2.2.2.2.1, (e.2.1.2.2.2.2.2.1, v)))))), e.2.2))
def s192 : AV → E8 → E8 := fun v e => (e.1, (e.2.1, ((((((v, e.2.2.1.1.1.1.1.2), e.2.2.1.1.1.1.2), e.2.2.1.1.1.2), e.2.2.1.1.2), e.2.2.1.2), e.2.2.2)))
def s193 : AV → E8 → E8 := fun v e => (e.1, (e.2.1, ((((((e.2.2.1.1.1.1.1.1, v), e.2.2.1.1.1.1.2), e.2.2.1.1.1.2), e.2.2.1.1.2), e.2.2.1.2), e.2.2.2)))
def s194 : AV → E8 → E8 := fun v e => (e.1, (e.2.1, (((((e.2.2.1.1.1.1.1, (v, e.2.2.1.1.1.1.2.2)), e.2.2.1.1.1.2), e.2.2.1.1.2), e.2.2.1.2), e.2.2.2)))
def s195 : AV → E8 → E8 := fun v e => (e.1, (e.2.1, (((((e.2.2.1.1.1.1.1, (e.2.2.1.1.1.1.2.1, v)), e.2.2.1.1.1.2), e.2.2.1.1.2), e.2.2.1.2), e.2.2.2)))
def s196 : AV → E8 → E8 := fun v e => (e.1, (e.2.1, ((((e.2.2.1.1.1.1, ((v, e.2.2.1.1.1.2.1.2), e.2.2.1.1.1.2.2)), e.2.2.1.1.2), e.2.2.1.2), e.2.2.2)))
def s197 : AV → E8 → E8 := fun v e => (e.1, (e.2.1, ((((e.2.2.1.1.1.1, ((e.2.2.1.1.1.2.1.1, v), e.2.2.1.1.1.2.2)), e.2.2.1.1.2), e.2.2.1.2), e.2.2.2)))
def s198 : AV → E8 → E8 := fun v e => (e.1, (e.2.1, ((((e.2.2.1.1.1.1, (e.2.2.1.1.1.2.1, (v, e.2.2.1.1.1.2.2.2))), e.2.2.1.1.2), e.2.2.1.2), e.2.2.2)))
def s199 : AV → E8 → E8 := fun v e => (e.1, (e.2.1, ((((e.2.2.1.1.1.1, (e.2.2.1.1.1.2.1, (e.2.2.1.1.1.2.2.1, v))), e.2.2.1.1.2), e.2.2.1.2), e.2.2.2)))
def s200 : AV → E8 → E8 := fun v e => (e.1, (e.2.1, (((e.2.2.1.1.1, (((v, e.2.2.1.1.2.1.1.2), e.2.2.1.1.2.1.2), e.2.2.1.1.2.2)), e.2.2.1.2), e.2.2.2)))
def s201 : AV → E8 → E8 := fun v e => (e.1, (e.2.1, (((e.2.2.1.1.1, (((e.2.2.1.1.2.1.1.1, v), e.2.2.1.1.2.1.2), e.2.2.1.1.2.2)), e.2.2.1.2), e.2.2.2)))
def s202 : AV → E8 → E8 := fun v e => (e.1, (e.2.1, (((e.2.2.1.1.1, ((e.2.2.1.1.2.1.1, (v, e.2.2.1.1.2.1.2.2)), e.2.2.1.1.2.2)), e.2.2.1.2), e.2.2.2)))
def s203 : AV → E8 → E8 := fun v e => (e.1, (e.2.1, (((e.2.2.1.1.1, ((e.2.2.1.1.2.1.1, (e.2.2.1.1.2.1.2.1, v)), e.2.2.1.1.2.2)), e.2.2.1.2), e.2.2.2)))
def s204 : AV → E8 → E8 := fun v e => (e.1, (e.2.1, (((e.2.2.1.1.1, (e.2.2.1.1.2.1, ((v, e.2.2.1.1.2.2.1.2), e.2.2.1.1.2.2.2))), e.2.2.1.2), e.2.2.2)))
def s205 : AV → E8 → E8 := fun v e => (e.1, (e.2.1, (((e.2.2.1.1.1, (e.2.2.1.1.2.1, ((e.2.2.1.1.2.2.1.1, v), e.2.2.1.1.2.2.2))), e.2.2.1.2), e.2.2.2)))
def s206 : AV → E8 → E8 := fun v e => (e.1, (e.2.1, (((e.2.2.1.1.1, (e.2.2.1.1.2.1, (e.2.2.1.1.2.2.1, (v, e.2.2.1.1.2.2.2.2)))), e.2.2.1.2), e.2.2.2)))
def s207 : AV → E8 → E8 := fun v e => (e.1, (e.2.1, (((e.2.2.1.1.1, (e.2.2.1.1.2.1, (e.2.2.1.1.2.2.1, (e.2.2.1.1.2.2.2.1, v)))), e.2.2.1.2), e.2.2.2)))
def s208 : AV → E8 → E8 := fun v e => (e.1, (e.2.1, ((e.2.2.1.1, ((((v, e.2.2.1.2.1.1.1.2), e.2.2.1.2.1.1.2), e.2.2.1.2.1.2), e.2.2.1.2.2)), e.2.2.2)))
def s209 : AV → E8 → E8 := fun v e => (e.1, (e.2.1, ((e.2.2.1.1, ((((e.2.2.1.2.1.1.1.1, v), e.2.2.1.2.1.1.2), e.2.2.1.2.1.2), e.2.2.1.2.2)), e.2.2.2)))
def s210 : AV → E8 → E8 := fun v e => (e.1, (e.2.1, ((e.2.2.1.1, (((e.2.2.1.2.1.1.1, (v, e.2.2.1.2.1.1.2.2)), e.2.2.1.2.1.2), e.2.2.1.2.2)), e.2.2.2)))
def s211 : AV → E8 → E8 := fun v e => (e.1, (e.2.1, ((e.2.2.1.1, (((e.2.2.1.2.1.1.1, (e.2.2.1.2.1.1.2.1, v)), e.2.2.1.2.1.2), e.2.2.1.2.2)), e.2.2.2)))
def s212 : AV → E8 → E8 := fun v e => (e.1, (e.2.1, ((e.2.2.1.1, ((e.2.2.1.2.1.1, ((v, e.2.2.1.2.1.2.1.2), e.2.2.1.2.1.2.2)), e.2.2.1.2.2)), e.2.2.2)))
def s213 : AV → E8 → E8 := fun v e => (e.1, (e.2.1, ((e.2.2.1.1, ((e.2.2.1.2.1.1, ((e.2.2.1.2.1.2.1.1, v), e.2.2.1.2.1.2.2)), e.2.2.1.2.2)), e.2.2.2)))
def s214 : AV → E8 → E8 := fun v e => (e.1, (e.2.1, ((e.2.2.1.1, ((e.2.2.1.2.1.1, (e.2.2.1.2.1.2.1, (v, e.2.2.1.2.1.2.2.2))), e.2.2.1.2.2)), e.2.2.2)))
def s215 : AV → E8 → E8 := fun v e => (e.1, (e.2.1, ((e.2.2.1.1, ((e.2.2.1.2.1.1, (e.2.2.1.2.1.2.1, (e.2.2.1.2.1.2.2.1, v))), e.2.2.1.2.2)), e.2.2.2)))
def s216 : AV → E8 → E8 := fun v e => (e.1, (e.2.1, ((e.2.2.1.1, (e.2.2.1.2.1, (((v, e.2.2.1.2.2.1.1.2), e.2.2.1.2.2.1.2), e.2.2.1.2.2.2))), e.2.2.2)))
def s217 : AV → E8 → E8 := fun v e => (e.1, (e.2.1, ((e.2.2.1.1, (e.2.2.1.2.1, (((e.2.2.1.2.2.1.1.1, v), e.2.2.1.2.2.1.2), e.2.2.1.2.2.2))), e.2.2.2)))
def s218 : AV → E8 → E8 := fun v e => (e.1, (e.2.1, ((e.2.2.1.1, (e.2.2.1.2.1, ((e.2.2.1.2.2.1.1, (v, e.2.2.1.2.2.1.2.2)), e.2.2.1.2.2.2))), e.2.2.2)))
def s219 : AV → E8 → E8 := fun v e => (e.1, (e.2.1, ((e.2.2.1.1, (e.2.2.1.2.1, ((e.2.2.1.2.2.1.1, (e.2.2.1.2.2.1.2.1, v)), e.2.2.1.2.2.2))), e.2.2.2)))
def s220 : AV → E8 → E8 := fun v e => (e.1, (e.2.1, ((e.2.2.1.1, (e.2.2.1.2.1, (e.2.2.1.2.2.1, ((v, e.2.2.1.2.2.2.1.2), e.2.2.1.2.2.2.2)))), e.2.2.2)))
def s221 : AV → E8 → E8 := fun v e => (e.1, (e.2.1, ((e.2.2.1.1, (e.2.2.1.2.1, (e.2.2.1.2.2.1, ((e.2.2.1.2.2.2.1.1, v), e.2.2.1.2.2.2.2)))), e.2.2.2)))
def s222 : AV → E8 → E8 := fun v e => (e.1, (e.2.1, ((e.2.2.1.1, (e.2.2.1.2.1, (e.2.2.1.2.2.1, (e.2.2.1.2.2.2.1, (v, e.2.2.1.2.2.2.2.2))))), e.2.2.2)))
def s223 : AV → E8 → E8 := fun v e => (e.1, (e.2.1, ((e.2.2.1.1, (e.2.2.1.2.1, (e.2.2.1.2.2.1, (e.2.2.1.2.2.2.1, (e.2.2.1.2.2.2.2.1, v))))), e.2.2.2)))
def s224 : AV → E8 → E8 := fun v e => (e.1, (e.2.1, (e.2.2.1, (((((v, e.2.2.2.1.1.1.1.2), e.2.2.2.1.1.1.2), e.2.2.2.1.1.2), e.2.2.2.1.2), e.2.2.2.2))))
def s225 : AV → E8 → E8 := fun v e => (e.1, (e.2.1, (e.2.2.1, (((((e.2.2.2.1.1.1.1.1, v), e.2.2.2.1.1.1.2), e.2.2.2.1.1.2), e.2.2.2.1.2), e.2.2.2.2))))
def s226 : AV → E8 → E8 := fun v e => (e.1, (e.2.1, (e.2.2.1, ((((e.2.2.2.1.1.1.1, (v, e.2.2.2.1.1.1.2.2)), e.2.2.2.1.1.2), e.2.2.2.1.2), e.2.2.2.2))))
def s227 : AV → E8 → E8 := fun v e => (e.1, (e.2.1, (e.2.2.1, ((((e.2.2.2.1.1.1.1, (e.2.2.2.1.1.1.2.1, v)), e.2.2.2.1.1.2), e.2.2.2.1.2), e.2.2.2.2))))
def s228 : AV → E8 → E8 := fun v e => (e.1, (e.2.1, (e.2.2.1, (((e.2.2.2.1.1.1, ((v, e.2.2.2.1.1.2.1.2), e.2.2.2.1.1.2.2)), e.2.2.2.1.2), e.2.2.2.2))))
def s229 : AV → E8 → E8 := fun v e => (e.1, (e.2.1, (e.2.2.1, (((e.2.2.2.1.1.1, ((e.2.2.2.1.1.2.1.1, v), e.2.2.2.1.1.2.2)), e.2.2.2.1.2), e.2.2.2.2))))
def s230 : AV → E8 → E8 := fun v e => (e.1, (e.2.1, (e.2.2.1, (((e.2.2.2.1.1.1, (e.2.2.2.1.1.2.1, (v, e.2.2.2.1.1.2.2.2))), e.2.2.2.1.2), e.2.2.2.2))))
def s231 : AV → E8 → E8 := fun v e => (e.1, (e.2.1, (e.2.2.1, (((e.2.2.2.1.1.1, (e.2.2.2.1.1.2.1, (e.2.2.2.1.1.2.2.1, v))), e.2.2.2.1.2), e.2.2.2.2))))
def s232 : AV → E8 → E8 := fun v e => (e.1, (e.2.1, (e.2.2.1, ((e.2.2.2.1.1, (((v, e.2.2.2.1.2.1.1.2), e.2.2.2.1.2.1.2), e.2.2.2.1.2.2)), e.2.2.2.2))))
def s233 : AV → E8 → E8 := fun v e => (e.1, (e.2.1, (e.2.2.1, ((e.2.2.2.1.1, (((e.2.2.2.1.2.1.1.1, v), e.2.2.2.1.2.1.2), e.2.2.2.1.2.2)), e.2.2.2.2))))
def s234 : AV → E8 → E8 := fun v e => (e.1, (e.2.1, (e.2.2.1, ((e.2.2.2.1.1, ((e.2.2.2.1.2.1.1, (v, e.2.2.2.1.2.1.2.2)), e.2.2.2.1.2.2)), e.2.2.2.2))))
def s235 : AV → E8 → E8 := fun v e => (e.1, (e.2.1, (e.2.2.1, ((e.2.2.2.1.1, ((e.2.2.2.1.2.1.1, (e.2.2.2.1.2.1.2.1, v)), e.2.2.2.1.2.2)), e.2.2.2.2))))
def s236 : AV → E8 → E8 := fun v e => (e.1, (e.2.1, (e.2.2.1, ((e.2.2.2.1.1, (e.2.2.2.1.2.1, ((v, e.2.2.2.1.2.2.1.2), e.2.2.2.1.2.2.2))), e.2.2.2.2))))
def s237 : AV → E8 → E8 := fun v e => (e.1, (e.2.1, (e.2.2.1, ((e.2.2.2.1.1, (e.2.2.2.1.2.1, ((e.2.2.2.1.2.2.1.1, v), e.2.2.2.1.2.2.2))), e.2.2.2.2))))
def s238 : AV → E8 → E8 := fun v e => (e.1, (e.2.1, (e.2.2.1, ((e.2.2.2.1.1, (e.2.2.2.1.2.1, (e.2.2.2.1.2.2.1, (v, e.2.2.2.1.2.2.2.2)))), e.2.2.2.2))))
def s239 : AV → E8 → E8 := fun v e => (e.1, (e.2.1, (e.2.2.1, ((e.2.2.2.1.1, (e.2.2.2.1.2.1, (e.2.2.2.1.2.2.1, (e.2.2.2.1.2.2.2.1, v)))), e.2.2.2.2))))
def s240 : AV → E8 → E8 := fun v e => (e.1, (e.2.1, (e.2.2.1, (e.2.2.2.1, ((((v, e.2.2.2.2.1.1.1.2), e.2.2.2.2.1.1.2), e.2.2.2.2.1.2), e.2.2.2.2.2)))))
def s241 : AV → E8 → E8 := fun v e => (e.1, (e.2.1, (e.2.2.1, (e.2.2.2.1, ((((e.2.2.2.2.1.1.1.1, v), e.2.2.2.2.1.1.2), e.2.2.2.2.1.2), e.2.2.2.2.2)))))
def s242 : AV → E8 → E8 := fun v e => (e.1, (e.2.1, (e.2.2.1, (e.2.2.2.1, (((e.2.2.2.2.1.1.1, (v, e.2.2.2.2.1.1.2.2)), e.2.2.2.2.1.2), e.2.2.2.2.2)))))
def s243 : AV → E8 → E8 := fun v e => (e.1, (e.2.1, (e.2.2.1, (e.2.2.2.1, (((e.2.2.2.2.1.1.1, (e.2.2.2.2.1.1.2.1, v)), e.2.2.2.2.1.2), e.2.2.2.2.2)))))
def s244 : AV → E8 → E8 := fun v e => (e.1, (e.2.1, (e.2.2.1, (e.2.2.2.1, ((e.2.2.2.2.1.1, ((v, e.2.2.2.2.1.2.1.2), e.2.2.2.2.1.2.2)), e.2.2.2.2.2)))))
def s245 : AV → E8 → E8 := fun v e => (e.1, (e.2.1, (e.2.2.1, (e.2.2.2.1, ((e.2.2.2.2.1.1, ((e.2.2.2.2.1.2.1.1, v), e.2.2.2.2.1.2.2)), e.2.2.2.2.2)))))
def s246 : AV → E8 → E8 := fun v e => (e.1, (e.2.1, (e.2.2.1, (e.2.2.2.1, ((e.2.2.2.2.1.1, (e.2.2.2.2.1.2.1, (v, e.2.2.2.2.1.2.2.2))), e.2.2.2.2.2)))))
def s247 : AV → E8 → E8 := fun v e => (e.1, (e.2.1, (e.2.2.1, (e.2.2.2.1, ((e.2.2.2.2.1.1, (e.2.2.2.2.1.2.1, (e.2.2.2.2.1.2.2.1, v))), e.2.2.2.2.2)))))
def s248 : AV → E8 → E8 := fun v e => (e.1, (e.2.1, (e.2.2.1, (e.2.2.2.1, (e.2.2.2.2.1, (((v, e.2.2.2.2.2.1.1.2), e.2.2.2.2.2.1.2), e.2.2.2.2.2.2))))))
def s249 : AV → E8 → E8 := fun v e => (e.1, (e.2.1, (e.2.2.1, (e.2.2.2.1, (e.2.2.2.2.1, (((e.2.2.2.2.2.1.1.1, v), e.2.2.2.2.2.1.2), e.2.2.2.2.2.2))))))
def s250 : AV → E8 → E8 := fun v e => (e.1, (e.2.1, (e.2.2.1, (e.2.2.2.1, (e.2.2.2.2.1, ((e.2.2.2.2.2.1.1, (v, e.2.2.2.2.2.1.2.2)), e.2.2.2.2.2.2))))))
def s251 : AV → E8 → E8 := fun v e => (e.1, (e.2.1, (e.2.2.1, (e.2.2.2.1, (e.2.2.2.2.1, ((e.2.2.2.2.2.1.1, (e.2.2.2.2.2.1.2.1, v)), e.2.2.2.2.2.2))))))
def s252 : AV → E8 → E8 := fun v e => (e.1, (e.2.1, (e.2.2.1, (e.2.2.2.1, (e.2.2.2.2.1, (e.2.2.2.2.2.1, ((v, e.2.2.2.2.2.2.1.2), e.2.2.2.2.2.2.2)))))))
def s253 : AV → E8 → E8 := fun v e => (e.1, (e.2.1, (e.2.2.1, (e.2.2.2.1, (e.2.2.2.2.1, (e.2.2.2.2.2.1, ((e.2.2.2.2.2.2.1.1, v), e.2.2.2.2.2.2.2)))))))
def s254 : AV → E8 → E8 := fun v e => (e.1, (e.2.1, (e.2.2.1, (e.2.2.2.1, (e.2.2.2.2.1, (e.2.2.2.2.2.1, (e.2.2.2.2.2.2.1, (v, e.2.2.2.2.2.2.2.2))))))))
def s255 : AV → E8 → E8 := fun v e => (e.1, (e.2.1, (e.2.2.1, (e.2.2.2.1, (e.2.2.2.2.1, (e.2.2.2.2.2.1, (e.2.2.2.2.2.2.1, (e.2.2.2.2.2.2.2.1, v))))))))
end Go.Proofs.Ytadohhhjpbhhoaa.EvA
