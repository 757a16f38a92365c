/- An evaluator of the program's code over abstract values and an abstract heap: the program's own code, its types looked up ahead. -/
import Derived.Test.YtadohhhjpbhhoaaEvB
namespace Go.Proofs.Ytadohhhjpbhhoaa.EvA
set_option linter.unusedVariables false

mutual
def toAV : Nat → Value → Option AV
  | 0, _ => none
  | n + 1, v => match v with
    | .bool b => some (.bool b)
    | .int k i => some (.int k i)
    | .string s => some (.str s)
    | .pointer none => some .nilptr
    | .slice none l c => if l = 0 ∧ c = 0 then some .nilrow else none
    | .map none => some .nilmap
    | .nilFunc => some .nilfn
    | .nilIface => some .niliface
    | .agg cs => (toAVs n cs.toList).map .agg
    | .tuple cs => if cs.size = 0 then some .undef else none
    | _ => none
def toAVs : Nat → List Value → Option (List AV)
  | 0, _ => none
  | _ + 1, [] => some []
  | n + 1, v :: r => match toAV n v, toAVs n r with
    | some a, some l => some (a :: l)
    | _, _ => none
end
noncomputable def cX : Operand → Option AX
  | .tmp t => some (xT t)
  | .const v => (toAV 300 v).map xC
  | .func f => some (xF f)
  | .global _ => none
noncomputable def cXs (l : List Operand) : Option (List AX) := l.mapM cX
noncomputable def cO : Option Operand → Option (Option AX)
  | none => some none
  | some x => (cX x).map some
def sizeT (P : Program) (t : TypeId) : Option Nat := (P.info? t).map (·.size)
def zeroT (P : Program) (t : TypeId) : Option AV := ((P.info? t).bind (·.zero)).bind (toAV 300)
def aggT (P : Program) (t : TypeId) : Option (Option Nat) :=
  match P.underlying t with
  | some (.struct _) | some (.array _ _) => (sizeT P t).map some
  | some _ => some none
  | none => none
noncomputable def partsP (places : List (Nat × Nat)) : List (Nat × Operand) → Option (List (Nat × Nat × AX))
  | [] => some []
  | (i, x) :: r => match places[i]?, cX x, partsP places r with
    | some p, some a, some l => some ((p.1, p.2, a) :: l)
    | _, _, _ => none
def placesT (P : Program) (fs : List Field) : Option (List (Nat × Nat)) := fs.mapM (fun f => (P.info? f.type).map fun i => (f.offset, i.size))
noncomputable def partsA (size : Nat) : List (Nat × Operand) → Option (List (Nat × Nat × AX))
  | [] => some []
  | (i, x) :: r => match cX x, partsA size r with
    | some a, some l => some ((i * size, size, a) :: l)
    | _, _ => none
/-- How a type's values are compared. -/
def eqT (P : Program) (t : TypeId) : Option Nat := match P.underlying t with
  | some .bool => some 0
  | some (.int _) => some 1
  | some .string => some 2
  | some (.pointer _) => some 3
  | some (.slice _) => some 4
  | some (.map _ _) => some 5
  | some (.func _ _ _) => some 6
  | _ => none
def keyT (P : Program) (t : TypeId) : Option Nat := match P.underlying t with
  | some .bool => some 0
  | some (.int _) => some 1
  | some .string => some 2
  | _ => none
/-- The cells by which two structs, or arrays, are compared. -/
def planFs (P : Program) (pt : TypeId → Nat → Option (List (Nat × Nat))) (n off : Nat) : List Field → Option (List (Nat × Nat))
  | [] => some []
  | f :: r => if f.name = "_" ∨ n < f.offset + P.cellsOf f.type then none else match pt f.type (off + f.offset), planFs P pt n off r with
    | some a, some b => some (a ++ b)
    | _, _ => none
def planIs (pt : Nat → Option (List (Nat × Nat))) (c n off : Nat) : List Nat → Option (List (Nat × Nat))
  | [] => some []
  | i :: r => if n < i * c + c then none else match pt (off + i * c), planIs pt c n off r with
    | some a, some b => some (a ++ b)
    | _, _ => none
def planT (P : Program) : Nat → TypeId → Nat → Option (List (Nat × Nat))
  | 0, _, _ => none
  | d + 1, t, off => match P.underlying t with
    | some .bool => if P.cellsOf t = 1 then some [(off, 0)] else none
    | some (.int _) => if P.cellsOf t = 1 then some [(off, 1)] else none
    | some .string => if P.cellsOf t = 1 then some [(off, 2)] else none
    | some (.struct fs) => if P.stoodInHeld t = true ∨ (P.info? t).isNone = true then none else planFs P (planT P d) (P.cellsOf t) off fs.toList
    | some (.array n e) => if (P.info? t).isNone = true ∨ (P.info? e).isNone = true then none else planIs (planT P d e) (P.cellsOf e) (P.cellsOf t) off (List.range n)
    | _ => none
noncomputable def eqK (P : Program) (t : TypeId) (neg : Bool) (a b : AX) : Option KO := match eqT P t with
  | some m => some (oEq neg m a b)
  | none => match P.underlying t with
    | some (.struct _) => if P.eqGuardType P.depth t then none else (planT P 9 t 0).map fun l => oEqS neg l a b
    | _ => none
noncomputable def iaddrK (P : Program) (t : TypeId) (x i : AX) : Option KO := match P.underlying t with
  | some (.slice e) => (sizeT P e).map fun s => oIaddr s x i
  | some (.array n e) => (sizeT P e).map fun s => oIaddrA n s x i
  | _ => none
def replicateCells (n : Nat) (z : List AV) : List AV := (List.replicate n z).flatten
noncomputable def cOp (P : Program) : Op → Option KO
  | .move x | .assign x => (cX x).map oMove
  | .pick c a b => match cX c, cX a, cX b with | some c, some a, some b => some (oPick c a b) | _, _, _ => none
  | .alloc t => match sizeT P t, zeroT P t with | some s, some z => some (oBox s (xC z)) | _, _ => none
  | .box t x => match sizeT P t, cX x with | some s, some a => some (oBox s a) | _, _ => none
  | .build t parts => match P.underlying t, zeroT P t with
    | some (.struct fs), some z => match placesT P fs.toList with | some pl => (partsP pl parts.toList).map (oBuild z.cells) | none => none
    | some (.array _ e), some z => match sizeT P e with | some s => (partsA s parts.toList).map (oBuild z.cells) | none => none
    | _, _ => none
  | .buildSlice t len parts => match P.underlying t with
    | some (.slice e) => match sizeT P e, zeroT P e with
      | some s, some z => if z.cells.length = s ∧ 0 < s ∧ len * s ≤ 2 ^ 24 then (partsA s parts.toList).map (oRow len s (replicateCells len z.cells)) else none
      | _, _ => none
    | _ => none
  | .load t a => match aggT P t, cX a with | some g, some a => some (oLoad g a) | _, _ => none
  | .store t a x => match sizeT P t, cX a, cX x with | some s, some a, some x => some (oStore s a x) | _, _, _ => none
  | .nilCheck x => (cX x).map oNil
  | .binOp op t x y _ => match cX x, cX y with
    | some a, some b => match op with
      | .eql => eqK P t false a b
      | .neq => eqK P t true a b
      | .shl => some (oShl a b)
      | .shr => some (oShr a b)
      | _ => some (oArith op a b)
    | _, _ => none
  | .unOp op _ x => match op with | .not => (cX x).map oNot | .neg => (cX x).map oNeg | _ => none
  | .convert src dst x => match P.underlying src, P.underlying dst with
    | some (.int _), some (.int k) => (cX x).map (oConv k)
    | _, _ => none
  | .makeFunc (.func f) first captured => if first.size = 0 then (cXs captured.toList).map (oFn f) else if captured.size = 0 then (cXs first.toList).map (oMfn f) else none
  | .slice t x lo hi mx => if mx.isSome then none else match P.underlying t, cX x, cO lo, cO hi with
    | some .string, some x, some lo, some hi => some (oCutstr x lo hi)
    | some (.slice e), some x, some lo, some hi => (sizeT P e).map fun s => oCutrow s x lo hi
    | _, _, _, _ => none
  | .fieldAddr t x f => match P.underlying t, cX x with
    | some (.struct fs), some x => match fs[f]? with
      | some f => if sizeT P f.type = some 0 then none else match sizeT P f.type with | some _ => some (oFaddr f.offset x) | none => none
      | none => none
    | _, _ => none
  | .field t x f => match P.underlying t, cX x with
    | some (.struct fs), some x => match fs[f]? with
      | some f => (aggT P f.type).map fun g => oField f.offset g x
      | none => none
    | _, _ => none
  | .indexAddr t x i => match cX x, cX i with
    | some x, some i => iaddrK P t x i
    | _, _ => none
  | .index t x i => match P.underlying t, cX x, cX i with
    | some .string, some x, some i => some (oIdx x i)
    | _, _, _ => none
  | .extract x n => (cX x).map fun a => oExtract a n
  | .lookup t m k ok => match P.underlying t, cX m, cX k with
    | some (.map kt e), some m, some k => match keyT P kt, zeroT P e with | some q, some z => some (oLookup q z ok m k) | _, _ => none
    | _, _, _ => none
  | .mapUpdate t m k v => match P.underlying t, cX m, cX k, cX v with
    | some (.map kt _), some m, some k, some v => (keyT P kt).map fun q => oSet q m k v
    | _, _, _, _ => none
  | .insert t m k v => match P.underlying t, cX m, cX k, cX v with
    | some (.map kt _), some m, some k, some v => (keyT P kt).map fun q => oSet q m k v
    | _, _, _, _ => none
  | .makeMap _ none => some oMap
  | .call c => match c.callee with
    | .value (.func f) => (cXs c.args.toList).map (oCall f)
    | .value x => match cX x, cXs c.args.toList with | some x, some l => some (oCallv x l) | _, _ => none
    | .builtin .len => match c.args.toList, c.argTypes.toList with
      | [x], [t] => match P.underlying t, cX x with
        | some .string, some x => some (oLenS x)
        | some (.slice _), some x => some (oLenR x)
        | some (.map _ _), some x => some (oLenM x)
        | _, _ => none
      | _, _ => none
    | .builtin .min => match c.args.toList with
      | [x, y] => match cX x, cX y with | some x, some y => some (oMin x y) | _, _ => none
      | _ => none
    | .builtin .max => match c.args.toList with
      | [x, y] => match cX x, cX y with | some x, some y => some (oMax x y) | _, _ => none
      | _ => none
    | .builtin .append => match c.args.toList, c.argTypes.toList with
      | [s, x], [t, u] => match P.underlying t, P.underlying u, cX s, cX x with
        | some (.slice e), some (.slice _), some s, some x => match P.info? e, zeroT P e with | some i, some z => if z.cells.length = i.size ∧ 0 < i.size then some (oAppend i.size i.bytes s x) else none | _, _ => none
        | _, _, _, _ => none
      | _, _ => none
    | .builtin .delete => match c.args.toList, c.argTypes.toList with
      | [m, k], t :: _ => match P.underlying t, cX m, cX k with
        | some (.map kt _), some m, some k => (keyT P kt).map fun q => oDelete q m k
        | _, _, _ => none
      | _, _ => none
    | _ => none
  | _ => none
noncomputable def cR (P : Program) (ops : Array Oper) : List Oper → Option KR
  | [] => some kEnd
  | o :: r => match cOp P o.op, cR P ops r with
    | some a, some rest => match o.guard with
      | none => match o.dst with
        | some d => some (kDo d a rest)
        | none => some (kDo0 a rest)
      | some (j, want) => match (ops[j]?).bind (·.dst), o.dst with
        | some t, some d => some (kIf t want d a rest)
        | _, _ => none
    | _, _ => none
/-! Regions whose order is drawn: which operations may change places. 0: touches no heap; 1: reads; 3: a new row; 2: all else. -/
def cls : Op → Nat
  | .move _ | .assign _ | .pick .. | .build .. | .nilCheck _ | .binOp .. | .unOp .. | .convert .. | .makeFunc .. | .fieldAddr .. | .field .. | .indexAddr .. | .index .. | .extract .. => 0
  | .load .. | .lookup .. | .slice .. => 1
  | .buildSlice .. => 3
  | .call c => match c.callee with
    | .builtin .len => 1
    | .builtin .min | .builtin .max => 0
    | _ => 2
  | _ => 2
def looks (ops : Array Oper) (o : Oper) : List Nat :=
  (o.op.operands.toList.filterMap fun | .tmp t => some t | _ => none) ++
  (match o.guard with
   | some (g, _) => ((ops[g]?).bind (·.dst)).toList
   | none => [])
def apartT (ops : Array Oper) (x y : Oper) : Bool :=
  (match x.dst with
   | some d => !(looks ops y).contains d && !(y.dst == some d)
   | none => true) &&
  (match y.dst with
   | some d => !(looks ops x).contains d
   | none => true)
def commT (ops : Array Oper) (x y : Oper) : Bool := apartT ops x y && (cls x.op == 0 || cls y.op == 0 || (cls x.op == 1 && (cls y.op == 1 || cls y.op == 3)))
def predT (ops : Array Oper) : Nat → Nat → Nat → Bool
  | 0, _, _ => false
  | k + 1, i, j => match ops[j]? with
    | none => false
    | some o => o.after.toList.any (fun e => Region.binds .any e && e.on == i) || o.after.toList.any (fun e => Region.binds .any e && predT ops k i e.on)
def pairsT (ops : Array Oper) (j : Nat) : Nat → Bool
  | 0 => true
  | i + 1 => (commT ops (ops.getD i default) (ops.getD j default) || predT ops 12 i j) && pairsT ops j i
def backT (ops : Array Oper) (j : Nat) : Bool := match ops[j]? with
  | none => true
  | some o => o.after.toList.all fun e => !Region.binds .any e || decide (e.on < j)
def freeT (ops : Array Oper) : Nat → Bool
  | 0 => true
  | j + 1 => pairsT ops j j && backT ops j && freeT ops j
def drawT (P : Program) (ops : Array Oper) (draw : Bool) : Bool := !draw || (P.follows .mixedOrders && freeT ops ops.size)
/-! In some regions rows that are told in full are taken as rows that nobody writes to. -/
def clsZ (z : Bool) (op : Op) : Nat := match z with
  | false => cls op
  | true => match op with
    | .buildSlice _ (_ + 1) _ => 0
    | op => cls op
noncomputable def rowZ (P : Program) (t : TypeId) (len : Nat) (parts : Array (Nat × Operand)) : Option KO := match P.underlying t with
  | some (.slice e) => match sizeT P e, zeroT P e with
    | some s, some z => if z.cells.length = s ∧ 0 < s ∧ len * s ≤ 2 ^ 24 then (partsA s parts.toList).map (oRowZ len s (replicateCells len z.cells)) else none
    | _, _ => none
  | _ => none
noncomputable def cOpZ (z : Bool) (P : Program) (op : Op) : Option KO := match z with
  | false => cOp P op
  | true => match op with
    | .buildSlice t (n + 1) parts => rowZ P t (n + 1) parts
    | op => cOp P op
noncomputable def kStep (z : Bool) (P : Program) (ops : Array Oper) (o : Oper) : Option KS :=
  match cOpZ z P o.op with
  | none => none
  | some a => match o.guard with
    | none => match o.dst with
      | some d => some (sDo d a)
      | none => some (sDo0 a)
    | some (j, want) => match (ops[j]?).bind (·.dst), o.dst with
      | some t, some d => some (sIf t want d a)
      | _, _ => none
noncomputable def kVal (z : Bool) (P : Program) (ops : Array Oper) (o : Oper) : Option KO :=
  match cOpZ z P o.op with
  | none => none
  | some a => match o.guard with
    | none => some a
    | some (j, want) => match (ops[j]?).bind (·.dst), o.dst with
      | some t, some d => some (gVal t want a)
      | _, _ => none
/-! One place is written once, and by nobody behind one that looks at it; who looks at it stands behind; what turns the heap stands in a row. -/
def dstIn (l : List Nat) : Option Nat → Bool
  | none => false
  | some d => l.contains d
def flPair (z : Bool) (m q : Nat) (ops : Array Oper) (x y : Oper) (i j : Nat) : Bool :=
  !dstIn (looks ops x) y.dst && (match x.dst with | some d => !(y.dst == some d) | none => true) &&
  (predT ops 12 i j || (!dstIn (looks ops y) x.dst && (!(decide (2 ≤ clsZ z x.op) && decide (2 ≤ clsZ z y.op)) || (Nat.ble m j && Nat.ble (j + 1) (m + q)))))
def flPairs (z : Bool) (m q : Nat) (ops : Array Oper) (j : Nat) : Nat → Bool
  | 0 => true
  | i + 1 => flPair z m q ops (ops.getD i default) (ops.getD j default) i j && flPairs z m q ops j i
/-- New boxes at the places from m on, q of them, may stand ahead of what is listed ahead of them. -/
def flT (z : Bool) (m q : Nat) (ops : Array Oper) : Nat → Bool
  | 0 => true
  | j + 1 => flPairs z m q ops j j && !dstIn (looks ops (ops.getD j default)) (ops.getD j default).dst && backT ops j && flT z m q ops j
/-- At which heaps what is read must be the same. -/
def spots (z : Bool) (ops : Array Oper) (j : Nat) : List Nat :=
  (List.range ops.size).filterMap fun x => if decide (2 ≤ clsZ z (ops.getD x default).op) then (if x < j then (if predT ops 12 x j then none else some x) else if predT ops 12 j x then none else some (x + 1)) else none
noncomputable def cks (z : Bool) (P : Program) (ops : Array Oper) : Nat → Option (List (KO × Nat × List Nat))
  | 0 => some []
  | j + 1 => match cks z P ops j with
    | none => none
    | some r => if clsZ z (ops.getD j default).op = 1 then match spots z ops j with
        | [] => some r
        | x :: l => match kVal z P ops (ops.getD j default), (ops.getD j default).dst with
          | some k, some d => some ((k, d, x :: l) :: r)
          | _, _ => none
      else some r
noncomputable def cFl (z : Bool) (P : Program) (ops : Array Oper) : Option KR :=
  match P.follows .mixedOrders && flT z 0 0 ops ops.size with
  | false => none
  | true => match ops.toList.mapM (kStep z P ops), cks z P ops ops.size with
    | some sts, some c => some (kFl ops.size sts c)
    | _, _ => none
/-! Regions with new boxes that may be laid earlier than they are listed. -/
def isLate (o : Oper) : Bool := match o.op, o.dst, o.guard with
  | .alloc _, some _, none => true
  | _, _, _ => false
def lateM (ops : Array Oper) : Nat := (ops.toList.takeWhile fun o => !isLate o).length
def lateQ (ops : Array Oper) : Nat := ((ops.toList.drop (lateM ops)).takeWhile isLate).length
def lateT (z : Bool) (m q : Nat) (ops : Array Oper) : Bool :=
  (List.range q).all (fun k => isLate (ops.getD (m + k) default)) && Nat.ble (m + q) ops.size &&
  (List.range (ops.size - (m + q))).all fun j => (List.range (m + q)).all fun i => !decide (2 ≤ clsZ z (ops.getD i default).op) || predT ops 12 i (m + q + j)
noncomputable def cFlL (z : Bool) (P : Program) (ops : Array Oper) : Option KR :=
  match P.follows .mixedOrders && Region.noSelect ops && flT z (lateM ops) (lateQ ops) ops ops.size && lateT z (lateM ops) (lateQ ops) ops with
  | false => none
  | true => match ops.toList.mapM (kStep z P ops), cks z P ops ops.size with
    | some sts, some c => some (kFl ops.size sts c)
    | _, _ => none
/-! A region that ends in two stores that may change places: into an element of a row, and elsewhere. -/
def late : Op → Bool
  | .move _ | .assign _ | .nilCheck _ | .fieldAddr .. | .build .. | .indexAddr .. => true
  | .binOp op .. => match op with | .eql | .neq | .shl | .shr => false | _ => true
  | _ => false
def isStore (o : Oper) : Bool := (match o.op with | .store .. => true | _ => false) && o.dst.isNone && o.guard.isNone
def ipOne (ops : Array Oper) (ix iy j : Nat) : Bool :=
  Nat.beq j ix || Nat.beq j iy ||
  ((((predT ops 12 j ix && predT ops 12 j iy) || (late (ops.getD j default).op && (ops.getD j default).guard.isNone && (ops.getD j default).dst.isSome &&
      (List.range ops.size).all fun k => Nat.beq k j || predT ops 12 k j || (ops.getD k default).after.toList.any (fun e => Region.binds .any e && e.on == j) || (ops.getD j default).apart ops (ops.getD k default))) &&
    (ops.getD j default).after.toList.all fun e => !Region.binds .any e || (!(e.on == ix) && !(e.on == iy))))
def ipPairs (ops : Array Oper) (ix iy j : Nat) : Nat → Bool
  | 0 => true
  | i + 1 => (Nat.beq i ix || Nat.beq i iy || commT ops (ops.getD i default) (ops.getD j default) || predT ops 12 i j) && ipPairs ops ix iy j i
def ipT (ops : Array Oper) (ix iy : Nat) : Nat → Bool
  | 0 => true
  | j + 1 => ipOne ops ix iy j && (Nat.beq j ix || Nat.beq j iy || ipPairs ops ix iy j j) && backT ops j && ipT ops ix iy j
def swapV (i p n z : Nat) (s' : Src) (cs' : List AV) : AV → AV
  | .row cs len s => if s.id = i ∧ s.pos = p ∧ cs.length = n ∧ s.size = z ∧ s.fam ≠ 0 then .row cs' len s' else .row cs len s
  | v => v
def oElem (size : Nat) (kx kv : AX) : Tmps → AH → Option (Tmps × AH) := fun ts h => match kx ts with
  | .eptr cs off s => if s.fam ≠ 0 ∧ h.ok s = true ∧ 0 < size ∧ (kv ts).cells.length = size ∧ off + size ≤ cs.length ∧ (kv ts).cells.all scalar = true then
      some (ts.map (swapV s.id s.pos cs.length s.size { s with id := h.rnext } (cs.take off ++ (kv ts).cells ++ cs.drop (off + size))), (h.grow s (s.pos + off) (cs.length - off)).2)
    else none
  | _ => none
/-- Steps, then the two stores. -/
noncomputable def kIp (sts : List KS) (sx : Nat) (kx kv : AX) (y : KO) : KR := fun call ts h => match runHs call sts ts h with
  | none => none
  | some (ts1, hs) => match hs[sts.length]? with
    | none => none
    | some h1 => match oElem sx kx kv ts1 h1 with
      | none => none
      | some (ts2, h2) => match y call ts2 h2 with
        | none => none
        | some (_, h3) => some (ts2, h3)
def stores (ops : Array Oper) : List Nat := (List.range ops.size).filter fun j => isStore (ops.getD j default)
noncomputable def cIp (P : Program) (ops : Array Oper) : Option KR :=
  match (stores ops).reverse with
  | iy :: ix :: _ => match P.follows .mixedOrders && Region.noSelect ops && ipT ops ix iy ops.size with
    | false => none
    | true => match (ops.getD ix default).op, cOp P (ops.getD iy default).op, ((List.range ops.size).filter fun j => !(Nat.beq j ix || Nat.beq j iy)).mapM fun j => kStep false P ops (ops.getD j default) with
      | .store t a x, some ky, some sts => match sizeT P t, cX a, cX x with
        | some s, some ka, some kv => some (kIp sts s ka kv ky)
        | _, _, _ => none
      | _, _, _ => none
  | _ => none
/-! Regions with a listed order that make rows, write into their elements, or turn bytes into a text. -/
noncomputable def cOpX (P : Program) : Op → Option KO
  | .makeSlice t l c => match P.underlying t, cX l, cX c with
    | some (.slice e), some a, some b => match P.info? e, zeroT P e with
      | some i, some z => if z.cells.length = i.size ∧ 0 < i.size then some (oMake i.size i.bytes z.cells a b) else none
      | _, _ => none
    | _, _, _ => none
  | .convert src dst x => match P.underlying src, P.underlying dst with
    | some (.slice e), some .string => match P.underlying e with
      | some (.int .u8) => (cX x).map oText
      | _ => none
    | _, _ => cOp P (.convert src dst x)
  | op => cOp P op
def isX (P : Program) : Op → Bool
  | .makeSlice .. => true
  | .convert src _ _ => match P.underlying src with | some (.slice _) => true | _ => false
  | _ => false
/-- Is it an element's place in a row, or a place within it? Which row. -/
def elRow (P : Program) (ops : Array Oper) : Nat → Nat → Option Operand
  | 0, _ => none
  | n + 1, d => ops.toList.findSome? fun o => match o.dst, o.op with
    | some k, .indexAddr t x _ => match Nat.beq k d, P.underlying t with
      | true, some (.slice _) => some x
      | _, _ => none
    | some k, .fieldAddr _ (.tmp q) _ => match Nat.beq k d with
      | true => elRow P ops n q
      | false => none
    | _, _ => none
/-- Where a row was loaded from. -/
def rowAt (ops : Array Oper) : Nat → Nat → Option Operand
  | 0, _ => none
  | n + 1, r => ops.toList.findSome? fun o => match o.dst, o.op with
    | some k, .load _ a => match Nat.beq k r with
      | true => some a
      | false => none
    | some k, .move (.tmp q) => match Nat.beq k r with
      | true => rowAt ops n q
      | false => none
    | _, _ => none
noncomputable def elemP (P : Program) (ops : Array Oper) (d : Nat) : Option AX := match elRow P ops 3 d with
  | some (.tmp r) => match rowAt ops 3 r with
    | some a => cX a
    | none => none
  | _ => none
def isEl (P : Program) (ops : Array Oper) (d : Nat) : Bool := (elRow P ops 3 d).isSome
noncomputable def elemT (P : Program) (ops : Array Oper) (o : Oper) : Option (Nat × AX × AX × Option AX) := match o.op, o.dst, o.guard with
  | .store t (.tmp d) x, none, none => match isEl P ops d with
    | true => match sizeT P t, cX x with | some s, some k => some (s, xT d, k, elemP P ops d) | _, _ => none
    | false => none
  | _, _, _ => none
def isElem (P : Program) (ops : Array Oper) (o : Oper) : Bool := match o.op, o.dst, o.guard with
  | .store _ (.tmp d) _, none, none => isEl P ops d
  | _, _, _ => false
/-- A store into an element; the cell from which the row was loaded is told of it. -/
def oElemP (size : Nat) (kx kv : AX) (kp : Option AX) : Tmps → AH → Option (Tmps × AH) := fun ts h => match oElem size kx kv ts h with
  | none => none
  | some (ts', h') => match kp with
    | none => some (ts', h')
    | some ka => match kx ts, ka ts with
      | .eptr cs off s, .ptr i _ => match h.get i with
        | some (.cells l) => some (ts', h'.put i (.cells (l.map (swapV s.id s.pos cs.length s.size { s with id := h.rnext } (cs.take off ++ (kv ts).cells ++ cs.drop (off + size))))))
        | _ => some (ts', h')
      | _, _ => some (ts', h')
noncomputable def kEl (size : Nat) (kx kv : AX) (kp : Option AX) (rest : KR) : KR := fun call ts h => match oElemP size kx kv kp ts h with
  | none => none
  | some (ts', h') => rest call ts' h'
/-- A row's rest cleared: where it was cut from, and from which place on. -/
def cutOf (ops : Array Oper) (t : Nat) : Option (Nat × Operand) := ops.toList.findSome? fun o => match o.dst, o.op with
  | some k, .slice _ (.tmp p) (some lo) none none => match Nat.beq k t with
    | true => some (p, lo)
    | false => none
  | _, _ => none
noncomputable def clrT (P : Program) (ops : Array Oper) (o : Oper) : Option (Nat × Nat × AX × ByteArray) := match o.op, o.dst, o.guard with
  | .call c, none, none => match c.callee, c.args.toList, c.argTypes.toList with
    | .builtin .clear, [.tmp t], [ty] => match P.underlying ty, cutOf ops t with
      | some (.slice e), some (p, lo) => match zeroT P e, cX lo with
        | some (.str z), some k => some (p, t, k, z)
        | _, _ => none
      | _, _ => none
    | _, _, _ => none
  | _, _, _ => none
def isClr (o : Oper) : Bool := match o.op with
  | .call c => match c.callee with
    | .builtin .clear => true
    | _ => false
  | _ => false
def oClr (z : ByteArray) (kp kt kl : AX) : Tmps → AH → Option (Tmps × AH) := fun ts h => match kp ts, kt ts, kl ts with
  | .row cs n s, .row cs2 n2 s2, .int _ k => if s2.id = s.id ∧ s2.fam = s.fam ∧ s2.pos = s.pos + k.toNat ∧ s2.size = 1 ∧ s.size = 1 ∧ cs2.length + k.toNat = cs.length ∧ n = cs.length ∧ n2 = cs2.length ∧ k.toNat < cs.length then oElem cs2.length (fun _ => .eptr cs k.toNat s) (fun _ => .agg (List.replicate cs2.length (.str z))) ts h else none
  | _, _, _ => none
noncomputable def kClr (z : ByteArray) (kp kt kl : AX) (rest : KR) : KR := fun call ts h => match oClr z kp kt kl ts h with
  | none => none
  | some (ts', h') => rest call ts' h'
noncomputable def cRX (P : Program) (ops : Array Oper) : List Oper → Option KR
  | [] => some kEnd
  | o :: r => match cRX P ops r with
    | none => none
    | some rest => match elemT P ops o with
      | some (s, a, x, kp) => some (kEl s a x kp rest)
      | none => match clrT P ops o with
        | some (p, t, k, z) => some (kClr z (xT p) (xT t) k rest)
        | none => match cOpX P o.op with
          | none => none
          | some a => match o.guard with
            | none => match o.dst with
              | some d => some (kDo d a rest)
              | none => some (kDo0 a rest)
            | some (j, want) => match (ops[j]?).bind (·.dst), o.dst with
              | some t, some d => some (kIf t want d a rest)
              | _, _ => none
def special (P : Program) (ops : Array Oper) : Bool := ops.toList.any fun o => isX P o.op || isElem P ops o || isClr o
/-- A region whose order is drawn, at its end a store into an element of a row of one's own: all else stands ahead of it. -/
noncomputable def cRE (P : Program) (ops : Array Oper) (fin : KR) : List Oper → Option KR
  | [] => some fin
  | o :: r => match cOp P o.op, cRE P ops fin r with
    | some a, some rest => match o.guard with
      | none => match o.dst with
        | some d => some (kDo d a rest)
        | none => some (kDo0 a rest)
      | some (j, want) => match (ops[j]?).bind (·.dst), o.dst with
        | some t, some d => some (kIf t want d a rest)
        | _, _ => none
    | _, _ => none
def lastT (ops : Array Oper) : Bool := (List.range (ops.size - 1)).all fun i => predT ops 12 i (ops.size - 1)
noncomputable def cEz (P : Program) (ops : Array Oper) : Option KR := match ops.toList.reverse with
  | o :: r => match elemT P ops o, lastT ops with
    | some (s, a, x, kp), true => cRE P ops (kEl s a x kp kEnd) r.reverse
    | _, _ => none
  | [] => none
noncomputable def cReg (P : Program) (ops : Array Oper) (draw : Bool) : Option KR := match drawT P ops draw with
  | true => match special P ops with
    | true => match draw with
      | false => cRX P ops ops.toList
      | true => match cEz P ops with
        | some k => some k
        | none => cR P ops ops.toList
    | false => cR P ops ops.toList
  | false => match cFl false P ops with
    | some k => some k
    | none => match draw with
      | true => match cIp P ops with
        | some k => some k
        | none => match cFl true P ops with
          | some k => some k
          | none => cFlL false P ops
      | false => none
noncomputable def cRegD (P : Program) (ops : Array Oper) (draw : Bool) : Option KC := match draw, ops.toList.reverse with
  | false, o :: r => match o.op, o.guard, o.dst with
    | .defer c, none, none => match c.callee with
      | .value x => match cR P ops r.reverse, cX x, cXs c.args.toList with
        | some k, some f, some as => some (kRegD k f as)
        | _, _, _ => none
      | _ => none
    | _, _, _ => none
  | _, _ => none
noncomputable def cC (P : Program) : Code → Option KC
  | .skip => some kSkip
  | .region _ ops draw => match cReg P ops draw with
    | some k => some (kReg k)
    | none => match cRegD P ops draw with
      | some k => some k
      | none => some kBad
  | .seq a b => match cC P a, cC P b with | some a, some b => some (kSeq a b) | _, _ => none
  | .cond c a b => match cX c, cC P a, cC P b with | some c, some a, some b => some (kCond c a b) | _, _, _ => none
  | .block id a => (cC P a).map (kBlock id)
  | .loop a => (cC P a).map kLoop
  | .exit id => some (kExit id)
  | .ret => some kRet
  | _ => some kBad
noncomputable def cV (P : Program) : ResultVar → Option (Tmps → AH → Option AV)
  | .tmp t => some (rTmp t)
  | .cell a t => (aggT P t).map fun g => rCell a g
noncomputable def cVs (P : Program) (l : List ResultVar) : Option (Tmps → AH → Option AV) :=
  match l.mapM (cV P) with
  | some [] => some rNone
  | some [r] => some r
  | some l => some (rTup l)
  | none => none
noncomputable def cF (P : Program) (f : FuncId) : Option AF :=
  match P.funcs[f]? with
  | none => none
  | some fn => if fn.name == "runtime.NumGoroutine" then none else match fn.body.bind (cC P), cVs P fn.results.toList with
    | some b, some r => some ⟨fn.ntmps, b, r⟩
    | _, _ => none
end Go.Proofs.Ytadohhhjpbhhoaa.EvA
