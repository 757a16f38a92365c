/- An evaluator of the program's code over abstract values and an abstract heap: its words. -/
import Derived.ProofKit
import Derived.WalkKit
namespace Go.Proofs.Ytadohhhjpbhhoaa.EvA
set_option linter.unusedVariables false

/-- Where a row lies: its family (0: what came in; nothing is appended to it), its own number, the place of its first cell in the family's count; an element's cells. -/
structure Src where
  fam : Nat
  id : Nat
  pos : Nat
  size : Nat
/-- Further on in a row; of a row that nobody writes to any more the place is not told. -/
def Src.adv (s : Src) (n : Nat) : Src := match s.fam with
  | 0 => s
  | f + 1 => ⟨f + 1, s.id, s.pos + n, s.size⟩
/-- Abstract values. A row (a slice that is not nil) holds its cells itself. -/
inductive AV where
  | bool (b : Bool)
  | int (k : IntKind) (n : Int)
  | str (s : ByteArray)
  | nilptr
  | ptr (i off : Nat)
  | eptr (cells : List AV) (off : Nat) (src : Src)
  | nilrow
  | row (cells : List AV) (len : Nat) (src : Src)
  | nilmap
  | map (i : Nat)
  | nilfn
  | fn (f : FuncId) (captured : List AV)
  | niliface
  | iface (t : TypeId) (v : AV)
  | agg (cells : List AV)
  | tup (vs : List AV)
  | mfn (f : FuncId) (first : List AV)
  deriving Inhabited
abbrev AV.undef : AV := .tup []
def AV.cells : AV → List AV
  | .agg cs => cs
  | v => [v]

/-- A tree by the bits of a number. -/
inductive Tr (α : Type) where
  | leaf
  | node (l : Tr α) (v : Option α) (r : Tr α)
def Tr.get {α : Type} : Tr α → Nat → Option α
  | .leaf, _ => none
  | .node l v r, n => if n = 0 then v else if n % 2 = 1 then l.get (n / 2) else r.get (n / 2 - 1)
def Tr.set {α : Type} : Nat → Tr α → Nat → α → Tr α
  | 0, t, _, _ => t
  | f + 1, .leaf, n, x => if n = 0 then .node .leaf (some x) .leaf else if n % 2 = 1 then .node (Tr.set f .leaf (n / 2) x) none .leaf else .node .leaf none (Tr.set f .leaf (n / 2 - 1) x)
  | f + 1, .node l v r, n, x => if n = 0 then .node l (some x) r else if n % 2 = 1 then .node (Tr.set f l (n / 2) x) v r else .node l v (Tr.set f r (n / 2 - 1) x)

theorem Tr.get_node {α : Type} (l r : Tr α) (v : Option α) (n : Nat) : (Tr.node l v r).get n = if n = 0 then v else if n % 2 = 1 then l.get (n / 2) else r.get (n / 2 - 1) := rfl
theorem Tr.get_leaf {α : Type} (n : Nat) : (Tr.leaf : Tr α).get n = none := rfl
theorem Tr.get_set_same {α : Type} : ∀ (f : Nat) (t : Tr α) (n : Nat) (x : α), n < f → (Tr.set f t n x).get n = some x
  | 0, t, n, x, h => by omega
  | f + 1, t, n, x, h => by
    have ih := fun t m hm => Tr.get_set_same f t m x hm
    cases t <;> simp only [Tr.set] <;> (by_cases h0 : n = 0 <;> by_cases h1 : n % 2 = 1 <;> simp only [h0, h1, if_true, if_false, Tr.get_node] <;>
      first | omega | rfl | exact ih _ _ (by omega))
theorem Tr.get_set_ne {α : Type} : ∀ (f : Nat) (t : Tr α) (n m : Nat) (x : α), m ≠ n → (Tr.set f t n x).get m = t.get m
  | 0, t, n, m, x, h => rfl
  | f + 1, t, n, m, x, h => by
    have ih := fun t a b hm => Tr.get_set_ne f t a b x hm
    have leaf : ∀ a, (Tr.leaf : Tr α).get a = none := fun _ => rfl
    cases t <;> simp only [Tr.set, leaf] <;> (by_cases h0 : n = 0 <;> by_cases h1 : n % 2 = 1 <;> by_cases m0 : m = 0 <;> by_cases m1 : m % 2 = 1 <;> simp only [h0, h1, if_true, if_false, Tr.get_node, m0, m1, leaf] <;>
      first | omega | rfl | (rw [ih _ _ _ (by omega)]; done) | (rw [ih _ _ _ (by omega)]; rfl))

/-- An abstract block: cells, or a map's entries (key, value, born) and its clock. -/
inductive ABlk where
  | cells (c : List AV)
  | map (es : List (AV × AV × Nat)) (clock : Nat)
/-- An abstract heap: the blocks made; which rows are live; of each family its live rows with their ends, the longest first. -/
structure AH where
  next : Nat
  blk : Tr ABlk
  rnext : Nat
  live : Tr Bool
  fnext : Nat
  chain : Tr (List (Nat × Nat))
  defs : List (FuncId × List AV)
/-- Another's deferred calls. -/
def AH.keep (h g : AH) : AH := { h with defs := g.defs }
def AH.bare (h : AH) : AH := { h with defs := [] }
def AH.get (h : AH) (i : Nat) : Option ABlk := h.blk.get i
def AH.put (h : AH) (i : Nat) (b : ABlk) : AH := { h with blk := h.blk.set (i + 1) i b }
def AH.new (h : AH) (b : ABlk) : AH := { h with next := h.next + 1, blk := h.blk.set (h.next + 1) h.next b }
/-- May a row be read? -/
def AH.ok (h : AH) (s : Src) : Bool := s.fam == 0 || (h.live.get s.id).getD false
/-- A new row of n cells, in a family of its own. -/
def AH.newRow (h : AH) (n size : Nat) : Src × AH :=
  (⟨h.fnext, h.rnext, 0, size⟩, { h with rnext := h.rnext + 1, live := h.live.set (h.rnext + 1) h.rnext true, fnext := h.fnext + 1, chain := h.chain.set (h.fnext + 1) h.fnext [(h.rnext, n)] })
def killAll (live : Tr Bool) : List (Nat × Nat) → Tr Bool
  | [] => live
  | (i, _) :: r => killAll (live.set (i + 1) i false) r
/-- n cells behind a row that ends at e: what reaches beyond e is dead. -/
def AH.grow (h : AH) (s : Src) (e n : Nat) : Src × AH :=
  let ch := (h.chain.get s.fam).getD []
  let dead := ch.takeWhile fun x => decide (e < x.2)
  let keep := ch.dropWhile fun x => decide (e < x.2)
  ({ s with id := h.rnext }, { h with rnext := h.rnext + 1, live := (killAll h.live dead).set (h.rnext + 1) h.rnext true, chain := h.chain.set (s.fam + 1) s.fam ((h.rnext, e + n) :: keep) })

/-! Temporaries: a row of values, read and written by number. -/
abbrev Tmps := List AV
noncomputable def nth (l : Tmps) : Nat → AV := List.rec (motive := fun _ => Nat → AV) (fun _ => AV.tup []) (fun a _ ih n => Nat.rec (motive := fun _ => AV) a (fun m _ => ih m) n) l
noncomputable def upd (l : Tmps) (v : AV) : Nat → Tmps := List.rec (motive := fun _ => Nat → Tmps) (fun _ => []) (fun a l ih n => Nat.rec (motive := fun _ => Tmps) (v :: l) (fun m _ => a :: ih m) n) l
theorem nth_nil (n : Nat) : nth [] n = .tup [] := rfl
theorem nth_zero (a : AV) (l : Tmps) : nth (a :: l) 0 = a := rfl
theorem nth_succ (a : AV) (l : Tmps) (n : Nat) : nth (a :: l) (n + 1) = nth l n := rfl
theorem upd_nil (v : AV) (n : Nat) : upd [] v n = [] := rfl
theorem upd_zero (a v : AV) (l : Tmps) : upd (a :: l) v 0 = v :: l := rfl
theorem upd_succ (a v : AV) (l : Tmps) (n : Nat) : upd (a :: l) v (n + 1) = a :: upd l v n := rfl
theorem nth_getD : ∀ (l : Tmps) (n : Nat), nth l n = l.getD n .undef
  | [], n => by rw [nth_nil]; simp
  | a :: l, 0 => by rw [nth_zero]; simp
  | a :: l, n + 1 => by rw [nth_succ, nth_getD l n]; simp
theorem upd_set : ∀ (l : Tmps) (v : AV) (n : Nat), upd l v n = l.set n v
  | [], v, n => by rw [upd_nil]; rfl
  | a :: l, v, 0 => rfl
  | a :: l, v, n + 1 => by rw [upd_succ, upd_set l v n]; rfl

/-- An operand. -/
abbrev AX := Tmps → AV
noncomputable def xT (t : Nat) : AX := fun ts => nth ts t
def xC (v : AV) : AX := fun _ => v
def xF (f : FuncId) : AX := fun _ => .fn f []
noncomputable def vals (l : List AX) (ts : Tmps) : List AV := List.rec (motive := fun _ => List AV) [] (fun x _ ih => x ts :: ih) l
abbrev Fn := FuncId → List AV → AH → Option (AV × AH)
/-- An operation; a region; a piece of code. -/
abbrev KO := Fn → Tmps → AH → Option (AV × AH)
abbrev KR := Fn → Tmps → AH → Option (Tmps × AH)
inductive AO where
  | normal
  | exit (id : Nat)
  | ret
abbrev KC := Fn → Nat → Tmps → AH → Option (AO × Tmps × AH)
end Go.Proofs.Ytadohhhjpbhhoaa.EvA
