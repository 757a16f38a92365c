/- An evaluator of the program's code over abstract values and an abstract heap: what each operation does. -/
import Derived.Test.YtadohhhjpbhhoaaEvA
namespace Go.Proofs.Ytadohhhjpbhhoaa.EvA
set_option linter.unusedVariables false

def afill (cells : List AV) : List (Nat × Nat × AV) → Option (List AV)
  | [] => some cells
  | (off, size, v) :: r => if v.cells.length = size ∧ off + size ≤ cells.length then afill (cells.take off ++ v.cells ++ cells.drop (off + size)) r else none
/-- A part of some cells: one cell, or an aggregate of n. -/
def apart (cells : List AV) (off : Nat) : Option Nat → Option AV
  | none => cells[off]?
  | some n => if off + n ≤ cells.length then some (.agg ((cells.drop off).take n)) else none
def scalar : AV → Bool
  | .agg _ | .tup _ => false
  | _ => true
/-- Are two values the same? By the mode of their type (0: bool, 1: integer, 2: text, 3: pointer, 4: slice, 5: map, 6: function). -/
def scalarEq (m : Nat) (x y : AV) : Option Bool := match x, y with
  | .bool a, .bool b => if m = 0 then some (a == b) else none
  | .int j a, .int k b => if m = 1 ∧ j = k then some (a == b) else none
  | .str a, .str b => if m = 2 then some (a.toList == b.toList) else none
  | .nilptr, .nilptr => if m = 3 then some true else none
  | .nilptr, .ptr _ _ | .ptr _ _, .nilptr | .nilptr, .eptr _ _ _ | .eptr _ _ _, .nilptr => if m = 3 then some false else none
  | .nilrow, .nilrow => if m = 4 then some true else none
  | .nilrow, .row _ n s | .row _ n s, .nilrow => if m = 4 ∧ ¬ (s.fam = 0 ∧ n = 0 ∧ s.id ≠ 2) then some false else none
  | .nilmap, .nilmap => if m = 5 then some true else none
  | .nilmap, .map _ | .map _, .nilmap => if m = 5 then some false else none
  | .nilfn, .nilfn => if m = 6 then some true else none
  | .nilfn, .fn _ _ | .fn _ _, .nilfn => if m = 6 then some false else none
  | _, _ => none
/-- Structs: field by field (place, mode). -/
def cellsEq (x y : List AV) : List (Nat × Nat) → Option Bool
  | [] => some true
  | (off, m) :: r => match x[off]?, y[off]? with
    | some a, some b => if m ≤ 2 then (match scalarEq m a b with
      | some true => cellsEq x y r
      | some false => some false
      | none => none) else none
    | _, _ => none
def aarith (op : BinOp) : AV → AV → Option AV
  | .int k a, .int j b => if k = j then
      match op with
      | .add => some (.int k (k.wrap (a + b)))
      | .sub => some (.int k (k.wrap (a - b)))
      | .mul => some (.int k (k.wrap (a * b)))
      | .quo => if b = 0 then none else some (.int k (k.wrap (a.tdiv b)))
      | .rem => if b = 0 then none else some (.int k (a.tmod b))
      | .and | .or | .xor | .andNot => some (.int k (Go.bits op k a b))
      | .lss => some (.bool (decide (a < b)))
      | .leq => some (.bool (decide (a ≤ b)))
      | .gtr => some (.bool (decide (a > b)))
      | .geq => some (.bool (decide (a ≥ b)))
      | _ => none
    else none
  | .str a, .str b =>
    let eq := a.toList == b.toList
    let lt := Op.bytesLess a.toList b.toList
    match op with
    | .add => if a.size + b.size ≤ 9223372036854775807 then some (.str (a ++ b)) else none
    | .lss => some (.bool lt)
    | .leq => some (.bool (lt || eq))
    | .gtr => some (.bool !(lt || eq))
    | .geq => some (.bool !lt)
    | _ => none
  | _, _ => none
/-- Bounds of a cut: from, to. -/
def bhi (n : Nat) : Option AV → Option Nat
  | none => some n
  | some (.int _ b) => if 0 ≤ b ∧ b ≤ (n : Int) then some b.toNat else none
  | some _ => none
def blo (h : Nat) : Option AV → Option Nat
  | none => some 0
  | some (.int _ a) => if 0 ≤ a ∧ a ≤ (h : Int) then some a.toNat else none
  | some _ => none
def bounds (n : Nat) (lo hi : Option AV) : Option (Nat × Nat) := match bhi n hi with
  | none => none
  | some h => match blo h lo with
    | none => none
    | some l => some (l, h)
/-- A key's place among a map's entries. -/
def findA (m : Nat) (k : AV) : List (AV × AV × Nat) → Option (Option AV)
  | [] => some none
  | (a, v, _) :: r => match scalarEq m k a with
    | some true => some (some v)
    | some false => findA m k r
    | none => none
def setA (m : Nat) (k v : AV) : List (AV × AV × Nat) → List (AV × AV × Nat)
  | [] => []
  | (a, u, n) :: r => if scalarEq m k a = some true then (k, v, n) :: r else (a, u, n) :: setA m k v r
def delA (m : Nat) (k : AV) : List (AV × AV × Nat) → List (AV × AV × Nat)
  | [] => []
  | (a, u, n) :: r => if scalarEq m k a = some true then r else (a, u, n) :: delA m k r
def isKey : AV → Bool
  | .str _ | .int _ _ | .bool _ => true
  | _ => false

/-! Operations -/
def oMove (x : AX) : KO := fun _ ts h => some (x ts, h)
def oPick (c a b : AX) : KO := fun _ ts h => match c ts with
  | .bool t => some (match t with | true => a ts | false => b ts, h)
  | _ => none
def oBox (size : Nat) (x : AX) : KO := fun _ ts h => if (x ts).cells.length = size then some (.ptr h.next 0, h.new (.cells (x ts).cells)) else none
def partsOf (parts : List (Nat × Nat × AX)) (ts : Tmps) : List (Nat × Nat × AV) := parts.map fun p => (p.1, p.2.1, p.2.2 ts)
def oBuild (zero : List AV) (parts : List (Nat × Nat × AX)) : KO := fun _ ts h => match afill zero (partsOf parts ts) with
  | some cs => some (.agg cs, h)
  | none => none
def oRow (len size : Nat) (zero : List AV) (parts : List (Nat × Nat × AX)) : KO := fun _ ts h => match afill zero (partsOf parts ts) with
  | some cs => if cs.length = len * size then some (.row cs len (h.newRow (len * size) size).1, (h.newRow (len * size) size).2) else none
  | none => none
/-- A new row that nobody writes to. -/
def oRowZ (len size : Nat) (zero : List AV) (parts : List (Nat × Nat × AX)) : KO := fun _ ts h => match afill zero (partsOf parts ts) with
  | some cs => if cs.length = len * size then some (.row cs len ⟨0, 0, 0, size⟩, h) else none
  | none => none
def oLoad (agg : Option Nat) (a : AX) : KO := fun _ ts h => match a ts with
  | .ptr i off => match h.get i with
    | some (.cells cs) => match apart cs off agg with
      | some v => some (v, h)
      | none => none
    | _ => none
  | .eptr cs off s => match h.ok s with
    | true => match apart cs off agg with
      | some v => some (v, h)
      | none => none
    | false => none
  | _ => none
def oStore (size : Nat) (a x : AX) : KO := fun _ ts h => match a ts with
  | .ptr i off => match h.get i with
    | some (.cells cs) => if (x ts).cells.length = size ∧ off + size ≤ cs.length ∧ (x ts).cells.all scalar = true then some (.tup [], h.put i (.cells (cs.take off ++ (x ts).cells ++ cs.drop (off + size)))) else none
    | _ => none
  | _ => none
def oNil (x : AX) : KO := fun _ ts h => match x ts with
  | .ptr i o => some (.ptr i o, h)
  | .eptr c o s => some (.eptr c o s, h)
  | .fn f c => some (.fn f c, h)
  | .mfn f c => some (.mfn f c, h)
  | _ => none
def oArith (op : BinOp) (x y : AX) : KO := fun _ ts h => match aarith op (x ts) (y ts) with
  | some v => some (v, h)
  | none => none
def oShr (x y : AX) : KO := fun _ ts h => match x ts, y ts with
  | .int k a, .int _ b => if b < 0 then none else some (.int k (a.fdiv (2 ^ min b.toNat k.bits)), h)
  | _, _ => none
def oShl (x y : AX) : KO := fun _ ts h => match x ts, y ts with
  | .int k a, .int _ b => if b < 0 then none else some (.int k (k.wrap (a * 2 ^ min b.toNat k.bits)), h)
  | _, _ => none
def oEq (neg : Bool) (m : Nat) (x y : AX) : KO := fun _ ts h => match scalarEq m (x ts) (y ts) with
  | some b => some (.bool (match neg with | true => !b | false => b), h)
  | none => none
def oEqS (neg : Bool) (fs : List (Nat × Nat)) (x y : AX) : KO := fun _ ts h => match x ts, y ts with
  | .agg c, .agg d => match cellsEq c d fs with
    | some b => some (.bool (match neg with | true => !b | false => b), h)
    | none => none
  | _, _ => none
def oNot (x : AX) : KO := fun _ ts h => match x ts with
  | .bool b => some (.bool !b, h)
  | _ => none
def oNeg (x : AX) : KO := fun _ ts h => match x ts with
  | .int k n => some (.int k (k.wrap (0 - n)), h)
  | _ => none
def oConv (k : IntKind) (x : AX) : KO := fun _ ts h => match x ts with
  | .int _ n => some (.int k (k.wrap n), h)
  | _ => none
noncomputable def oMfn (f : FuncId) (cs : List AX) : KO := fun _ ts h => some (.mfn f (vals cs ts), h)
def oMin (x y : AX) : KO := fun _ ts h => match x ts, y ts with
  | .int k a, .int _ b => some (.int k (if b < a then b else a), h)
  | _, _ => none
def oMax (x y : AX) : KO := fun _ ts h => match x ts, y ts with
  | .int k a, .int _ b => some (.int k (if b > a then b else a), h)
  | _, _ => none
noncomputable def oFn (f : FuncId) (cs : List AX) : KO := fun _ ts h => some (.fn f (vals cs ts), h)
def opt (x : Option AX) (ts : Tmps) : Option AV := match x with | some x => some (x ts) | none => none
def oCutstr (x : AX) (lo hi : Option AX) : KO := fun _ ts h => match x ts with
  | .str s => match bounds s.size (opt lo ts) (opt hi ts) with
    | some b => some (.str (s.extract b.1 b.2), h)
    | none => none
  | _ => none
def oCutrow (size : Nat) (x : AX) (lo hi : Option AX) : KO := fun _ ts h => match x ts with
  | .nilrow => match bounds 0 (opt lo ts) (opt hi ts) with
    | some _ => some (.nilrow, h)
    | none => none
  | .row cs len s => if h.ok s = true ∧ s.size = size then
      match bounds len (opt lo ts) (opt hi ts) with
      | some (a, b) => some (.row ((cs.drop (a * size)).take ((b - a) * size)) (b - a) (s.adv (a * size)), h)
      | none => none
    else none
  | _ => none
def oFaddr (off : Nat) (x : AX) : KO := fun _ ts h => match x ts with
  | .ptr i o => some (.ptr i (o + off), h)
  | .eptr cs o s => some (.eptr cs (o + off) s, h)
  | _ => none
def oField (off : Nat) (agg : Option Nat) (x : AX) : KO := fun _ ts h => match x ts with
  | .agg cs => match apart cs off agg with
    | some v => some (v, h)
    | none => none
  | _ => none
def oIaddr (size : Nat) (x i : AX) : KO := fun _ ts h => match x ts, i ts with
  | .row cs len s, .int _ n => if 0 ≤ n ∧ n < (len : Int) ∧ s.size = size then some (.eptr cs (n.toNat * size) s, h) else none
  | _, _ => none
/-- An element's address in an array. -/
def oIaddrA (len size : Nat) (x i : AX) : KO := fun _ ts h => match x ts, i ts with
  | .ptr j o, .int _ n => if 0 ≤ n ∧ n < (len : Int) then some (.ptr j (o + n.toNat * size), h) else none
  | .eptr cs o s, .int _ n => if 0 ≤ n ∧ n < (len : Int) then some (.eptr cs (o + n.toNat * size) s, h) else none
  | _, _ => none
def oIdx (x i : AX) : KO := fun _ ts h => match x ts, i ts with
  | .str s, .int _ n => if 0 ≤ n then (match s.data.toList[n.toNat]? with | some b => some (.int .u8 b.toNat, h) | none => none) else none
  | _, _ => none
noncomputable def oExtract (x : AX) (n : Nat) : KO := fun _ ts h => match x ts with
  | .tup vs => match vs[n]? with
    | some v => some (v, h)
    | none => none
  | _ => none
def oLenS (x : AX) : KO := fun _ ts h => match x ts with
  | .str s => some (.int .i64 s.size, h)
  | _ => none
def oLenR (x : AX) : KO := fun _ ts h => match x ts with
  | .nilrow => some (.int .i64 0, h)
  | .row _ len _ => some (.int .i64 len, h)
  | _ => none
def oLenM (x : AX) : KO := fun _ ts h => match x ts with
  | .nilmap => some (.int .i64 0, h)
  | .map i => match h.get i with
    | some (.map es _) => some (.int .i64 es.length, h)
    | _ => none
  | _ => none
def rowOf (h : AH) (size : Nat) : AV → Option (List AV × Nat)
  | .nilrow => some ([], 0)
  | .row cs n r => if h.ok r = true ∧ r.size = size then some (cs, n) else none
  | _ => none
def oAppend (size bytes : Nat) (s x : AX) : KO := fun _ ts h => match rowOf h size (x ts) with
  | none => none
  | some (cs, n) => match cs.all scalar with
    | false => none
    | true => match s ts with
      | .nilrow => if n = 0 then some (.nilrow, h) else if n * bytes ≤ 70368744177664 ∧ n ≤ 70368744177664 then some (.row cs n (h.newRow (n * size) size).1, (h.newRow (n * size) size).2) else none
      | .row ds len r => if r.fam = 0 ∨ r.size ≠ size ∨ h.ok r = false then none else
          if n = 0 then some (.row ds len r, h) else if (len + n) * bytes ≤ 70368744177664 ∧ len + n ≤ 70368744177664 then
            some (.row (ds ++ cs) (len + n) (h.grow r (r.pos + len * size) (n * size)).1, (h.grow r (r.pos + len * size) (n * size)).2) else none
      | _ => none
noncomputable def oCall (f : FuncId) (args : List AX) : KO := fun call ts h => call f (vals args ts) h
noncomputable def oCallv (f : AX) (args : List AX) : KO := fun call ts h => match f ts with
  | .fn g cs => call g (vals args ts ++ cs) h
  | .mfn g cs => call g (cs ++ vals args ts) h
  | _ => none
/-! In regions with a listed order: a row made with as many zeros, a row's bytes as a text. -/
def oMake (size bytes : Nat) (z : List AV) (x y : AX) : KO := fun _ ts h => match x ts, y ts with
  | .int _ n, .int _ m => if 0 ≤ n ∧ n = m ∧ (bytes : Int) * n ≤ 281474976710656 ∧ n ≤ 70368744177664 then some (.row (List.replicate n.toNat z).flatten n.toNat (h.newRow (n.toNat * size) size).1, (h.newRow (n.toNat * size) size).2) else none
  | _, _ => none
def byteU : AV → Option UInt8
  | .int .u8 n => some (UInt8.ofNat n.toNat)
  | _ => none
def oText (x : AX) : KO := fun _ ts h => match x ts with
  | .row cs n s => if h.ok s = true ∧ s.size = 1 ∧ cs.length = n then match cs.mapM byteU with
      | some l => some (.str ⟨l.toArray⟩, h)
      | none => none
    else none
  | _ => none
def oMap : KO := fun _ _ h => some (.map h.next, h.new (.map [] 0))
def entries (h : AH) : AV → Option (List (AV × AV × Nat))
  | .nilmap => some []
  | .map i => match h.get i with
    | some (.map es _) => some es
    | _ => none
  | _ => none
def oLookup (q : Nat) (zero : AV) (ok : Bool) (m k : AX) : KO := fun _ ts h => match isKey (k ts) with
  | false => none
  | true => match entries h (m ts) with
    | none => none
    | some es => match findA q (k ts) es with
      | none => none
      | some r => some (match ok with | true => .tup [r.getD zero, .bool r.isSome] | false => r.getD zero, h)
def oSet (q : Nat) (m k v : AX) : KO := fun _ ts h => match isKey (k ts) with
  | false => none
  | true => match m ts with
    | .map i => match h.get i with
      | some (.map es clock) => match findA q (k ts) es with
        | none => none
        | some (some _) => some (.tup [], h.put i (.map (setA q (k ts) (v ts) es) clock))
        | some none => some (.tup [], h.put i (.map (es ++ [(k ts, v ts, clock)]) (clock + 1)))
      | _ => none
    | _ => none
def oDelete (q : Nat) (m k : AX) : KO := fun _ ts h => match isKey (k ts) with
  | false => none
  | true => match m ts with
    | .nilmap => some (.tup [], h)
    | .map i => match h.get i with
      | some (.map es clock) => match findA q (k ts) es with
        | none => none
        | some _ => some (.tup [], h.put i (.map (delA q (k ts) es) clock))
      | _ => none
    | _ => none

/-! Regions -/
def kEnd : KR := fun _ ts h => some (ts, h)
noncomputable def kDo (d : Nat) (o : KO) (rest : KR) : KR := fun call ts h => match o call ts h with
  | none => none
  | some (v, h) => rest call (upd ts v d) h
def kDo0 (o : KO) (rest : KR) : KR := fun call ts h => match o call ts h with
  | none => none
  | some (_, h) => rest call ts h
/-- An operation under a guard. -/
noncomputable def kIf (t : Nat) (want : Bool) (d : Nat) (o : KO) (rest : KR) : KR := fun call ts h => match nth ts t with
  | .bool b => match b == want with
    | true => match o call ts h with
      | none => none
      | some (v, h) => rest call (upd ts v d) h
    | false => rest call (upd ts (.tup []) d) h
  | _ => rest call (upd ts (.tup []) d) h
/-! Regions whose reads may stand elsewhere: all heaps are kept, and what is read at each of some of them must be the same. -/
mutual
def same : AV → AV → Bool
  | .bool a, .bool b => a == b
  | .int k n, .int j m => decide (k = j) && decide (n = m)
  | .str a, .str b => decide (a.data.toList = b.data.toList)
  | .nilptr, .nilptr => true
  | .ptr i o, .ptr j q => Nat.beq i j && Nat.beq o q
  | .eptr c o s, .eptr d q r => sames c d && Nat.beq o q && sameSrc s r
  | .nilrow, .nilrow => true
  | .row c n s, .row d m r => sameSrc s r && Nat.beq n m && sames c d
  | .nilmap, .nilmap => true
  | .map i, .map j => Nat.beq i j
  | .nilfn, .nilfn => true
  | .fn f c, .fn g d => Nat.beq f g && sames c d
  | .mfn f c, .mfn g d => Nat.beq f g && sames c d
  | .niliface, .niliface => true
  | .iface t x, .iface u y => Nat.beq t u && same x y
  | .agg c, .agg d => sames c d
  | .tup c, .tup d => sames c d
  | _, _ => false
def sames : List AV → List AV → Bool
  | [], [] => true
  | a :: r, b :: s => same a b && sames r s
  | _, _ => false
def sameSrc (s r : Src) : Bool := Nat.beq s.fam r.fam && Nat.beq s.id r.id && Nat.beq s.pos r.pos && Nat.beq s.size r.size
end
abbrev KS := Fn → Tmps → AH → Option (Tmps × AH)
noncomputable def sDo (d : Nat) (o : KO) : KS := fun call ts h => kDo d o kEnd call ts h
def sDo0 (o : KO) : KS := fun call ts h => kDo0 o kEnd call ts h
noncomputable def sIf (t : Nat) (want : Bool) (d : Nat) (o : KO) : KS := fun call ts h => kIf t want d o kEnd call ts h
noncomputable def gVal (t : Nat) (want : Bool) (o : KO) : KO := fun call ts h => match nth ts t with
  | .bool b => if b = want then o call ts h else some (.tup [], h)
  | _ => some (.tup [], h)
/-- Steps one behind the other; the heap ahead of each, and the last. -/
def runHs (call : Fn) : List KS → Tmps → AH → Option (Tmps × List AH)
  | [], ts, h => some (ts, [h])
  | s :: r, ts, h => match s call ts h with
    | none => none
    | some (ts', h') => match runHs call r ts' h' with
      | none => none
      | some (ts2, hs) => some (ts2, h :: hs)
noncomputable def chk (call : Fn) (ts : Tmps) (hs : List AH) : List (KO × Nat × List Nat) → Bool
  | [] => true
  | (k, d, is) :: r => (is.all fun i => match hs[i]? with
    | some h => match k call ts h with
      | some (v, _) => same v (nth ts d)
      | none => false
    | none => false) && chk call ts hs r
noncomputable def kFl (n : Nat) (sts : List KS) (cks : List (KO × Nat × List Nat)) : KR := fun call ts h => match runHs call sts ts h with
  | none => none
  | some (ts', hs) => match chk call ts' hs cks with
    | true => match hs[n]? with
      | some h' => some (ts', h')
      | none => none
    | false => none
/-! Code -/
/-- What is not taken. -/
def kBad : KC := fun _ _ _ _ => none
def kSkip : KC := fun _ _ ts h => some (.normal, ts, h)
def kReg (r : KR) : KC := fun call _ ts h => match r call ts h with
  | none => none
  | some (ts, h') => some (.normal, ts, h'.keep h)
/-- A region that ends in a deferred call. -/
noncomputable def kRegD (r : KR) (f : AX) (args : List AX) : KC := fun call _ ts h => match r call ts h with
  | none => none
  | some (ts, h') => match f ts with
    | .fn g cs => some (.normal, ts, { h' with defs := (g, vals args ts ++ cs) :: h.defs })
    | .mfn g cs => some (.normal, ts, { h' with defs := (g, cs ++ vals args ts) :: h.defs })
    | _ => none
def kSeq (a b : KC) : KC := fun call n ts h => match a call n ts h with
  | some (.normal, ts, h) => b call n ts h
  | r => r
def kCond (c : AX) (a b : KC) : KC := fun call n ts h => match c ts with
  | .bool t => match t with
    | true => a call n ts h
    | false => b call n ts h
  | _ => none
def kBlock (id : Nat) (a : KC) : KC := fun call n ts h => match a call n ts h with
  | some (.exit i, ts, h) => match Nat.beq i id with
    | true => some (.normal, ts, h)
    | false => some (.exit i, ts, h)
  | r => r
noncomputable def aloop (body : Tmps → AH → Option (AO × Tmps × AH)) : Nat → Tmps → AH → Option (AO × Tmps × AH) :=
  Nat.rec (motive := fun _ => Tmps → AH → Option (AO × Tmps × AH)) (fun _ _ => none) (fun _ ih ts h => match body ts h with
    | some (.normal, ts, h) => ih ts h
    | r => r)
noncomputable def kLoop (a : KC) : KC := fun call n ts h => aloop (a call n) n ts h
def kExit (id : Nat) : KC := fun _ _ ts h => some (.exit id, ts, h)
def kRet : KC := fun _ _ ts h => some (.ret, ts, h)
/-- A function: how many temporaries, its code, its results. -/
structure AF where
  ntmps : Nat
  body : KC
  results : Tmps → AH → Option AV
def rNone : Tmps → AH → Option AV := fun _ _ => some (.tup [])
def rOne (r : Tmps → AH → Option AV) : Tmps → AH → Option AV := r
noncomputable def rTmp (t : Nat) : Tmps → AH → Option AV := fun ts _ => some (nth ts t)
noncomputable def rCell (t : Nat) (agg : Option Nat) : Tmps → AH → Option AV := fun ts h => match nth ts t with
  | .ptr i off => match h.get i with
    | some (.cells cs) => apart cs off agg
    | _ => none
  | _ => none
def rTup (l : List (Tmps → AH → Option AV)) : Tmps → AH → Option AV := fun ts h => match l.mapM (fun r => r ts h) with
  | some vs => some (.tup vs)
  | none => none
/-- A deferred call: of a body that defers nothing itself. -/
def dcall (G : FuncId → Option (List AV → AH → Option (AV × AH))) (F : FuncId → Option AF) (ih : Fn) (n : Nat) : Fn := fun f args h => match G f with
  | some _ => none
  | none => match F f with
    | none => none
    | some fn => match fn.body ih n (args ++ List.replicate (fn.ntmps - args.length) (.tup [])) h.bare with
      | some (.normal, ts, h) | some (.ret, ts, h) => (match h.defs with
        | [] => (match fn.results ts h with | some v => some (v, h) | none => none)
        | _ => none)
      | _ => none
def runD (call : Fn) : List (FuncId × List AV) → AH → Option AH
  | [], h => some h
  | (f, args) :: r, h => match call f args h with
    | some (_, h') => runD call r h'
    | none => none
noncomputable def aeval (G : FuncId → Option (List AV → AH → Option (AV × AH))) (F : FuncId → Option AF) : Nat → Fn :=
  Nat.rec (motive := fun _ => Fn) (fun _ _ _ => none) (fun n ih f args h => match G f with
    | some s => s args h
    | none => match F f with
      | none => none
      | some fn => match fn.body ih n (args ++ List.replicate (fn.ntmps - args.length) (.tup [])) h.bare with
        | some (.normal, ts, h) | some (.ret, ts, h) => (match runD (dcall G F ih n) h.defs h with
          | some h => (match fn.results ts h with | some v => some (v, h) | none => none)
          | none => none)
        | _ => none)
end Go.Proofs.Ytadohhhjpbhhoaa.EvA
