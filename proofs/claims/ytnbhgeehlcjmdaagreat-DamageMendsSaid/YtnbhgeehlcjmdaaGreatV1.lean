/- Proved here: nothing: a reckoner over an abstract heap, in which a closed call of the program is run by the kernel. -/
import GoSem.Dispatch
import GoSem.Machine.Return
namespace Go.Ev
open Go

inductive AV
  | dead
  | bool (b : Bool)
  | int (k : IntKind) (n : Int)
  | str (l : List UInt8)
  | pnil
  | ptr (b off : Nat)
  | snil
  | sl (b off len cap opn : Nat)
  | mnil
  | mp (b : Nat)
  | fnil
  | fn (f : Nat) (first caps : List AV)
  | yld (l : Nat)
  | agg (l : List AV)
  | tup (l : List AV)

inductive Fr
  | nil
  | cons (t : Nat) (v : AV) (r : Fr)

def Fr.get : Fr → Nat → Option AV
  | .nil, _ => none
  | .cons t v r, k => if t = k then some v else r.get k

structure LoopO where
  state : LoopState
  pending : Option Code
  fr : Fr
  params : Array Tmp
  assign : Code
  body : Code
  mask : Nat

inductive Obj
  | cells (vs : List AV)
  | map (es : List (AV × AV × Nat)) (clock : Nat)
  | loop (r : LoopO)

inductive HT
  | e
  | n (l : HT) (v : Option Obj) (r : HT)

/-- odd and even numbers part at each level; 0 is the root -/
def HT.get : Nat → HT → Nat → Option Obj
  | 0, _, _ => none
  | _ + 1, .e, _ => none
  | _ + 1, .n _ v _, 0 => v
  | f + 1, .n l _ r, k + 1 => if k % 2 = 0 then l.get f (k / 2) else r.get f (k / 2)

def HT.set (o : Option Obj) : Nat → HT → Nat → HT
  | 0, t, _ => t
  | _ + 1, .e, 0 => .n .e o .e
  | f + 1, .e, k + 1 => if k % 2 = 0 then .n (HT.set o f .e (k / 2)) none .e else .n .e none (HT.set o f .e (k / 2))
  | _ + 1, .n l _ r, 0 => .n l o r
  | f + 1, .n l v r, k + 1 => if k % 2 = 0 then .n (HT.set o f l (k / 2)) v r else .n l v (HT.set o f r (k / 2))

def depth : Nat := 24
def hget (h : HT) (k : Nat) : Option Obj := h.get depth k
def hset (h : HT) (k : Nat) (o : Option Obj) : HT := h.set o depth k

def cellsOf (h : HT) (b : Nat) : Option (List AV) :=
  match hget h b with
  | some (.cells vs) => some vs
  | _ => none

/-- what a cell of memory may hold, when it is stored -/
def cellOK : AV → Bool
  | .dead | .agg _ | .tup _ => false
  | _ => true

def ofCell : Value → Option AV
  | .bool b => some (.bool b)
  | .int k n => some (.int k n)
  | .string s => some (.str s.data.toList)
  | .pointer none => some .pnil
  | .slice none 0 0 => some .snil
  | .map none => some .mnil
  | .nilFunc => some .fnil
  | _ => none
def ofCells : List Value → Option (List AV)
  | [] => some []
  | v :: r => match ofCell v with
    | none => none
    | some a => match ofCells r with
      | none => none
      | some l => some (a :: l)
/-- a constant of the program -/
def ofValue : Value → Option AV
  | .agg cs => (match ofCells cs.toList with
    | some l => some (.agg l)
    | none => none)
  | v => ofCell v

def AV.cells : AV → List AV
  | .agg l => l
  | v => [v]

def wrapF (k : IntKind) (n : Int) : Int := k.wrap n

def bitsA (op : BinOp) (k : IntKind) (x y : Int) : Option Int :=
  match op with
  | .and => some (k.wrap (BitVec.ofInt k.bits x &&& BitVec.ofInt k.bits y).toNat)
  | .or => some (k.wrap (BitVec.ofInt k.bits x ||| BitVec.ofInt k.bits y).toNat)
  | .xor => some (k.wrap (BitVec.ofInt k.bits x ^^^ BitVec.ofInt k.bits y).toNat)
  | .andNot => some (k.wrap (BitVec.ofInt k.bits x &&& ~~~(BitVec.ofInt k.bits y)).toNat)
  | _ => none

/-- rows of integers: are they the same? -/
def eqInts : List AV → List AV → Option Bool
  | [], [] => some true
  | .int k a :: r, .int k' b :: s => if k = k' then (if a = b then eqInts r s else some false) else none
  | _, _ => none

def sizeT (P : Program) (t : TypeId) : Option Nat := match P.info? t with
  | some i => some i.size
  | none => none
def isInt (P : Program) (t : TypeId) : Bool := match P.underlying t, sizeT P t with
  | some (.int _), some 1 => true
  | _, _ => false
/-- of how many integers is a type made: an array, or a struct? -/
def flatArr (P : Program) (t : TypeId) : Option Nat := match P.underlying t with
  | some (.array n e) => if isInt P e then some n else none
  | _ => none
def flatFields (P : Program) : Nat → List Field → Bool
  | _, [] => true
  | i, f :: r => isInt P f.type && f.offset == i && f.name != "_" && flatFields P (i + 1) r
def flatT (P : Program) (t : TypeId) : Option Nat := match P.underlying t with
  | some (.struct fs) => if flatFields P 0 fs.toList && !P.stoodInHeld t then some fs.size else none
  | _ => flatArr P t

/-- == at a type, of values that aren't integers or strings both -/
def eqA (P : Program) (t : TypeId) (x y : AV) : Option Bool :=
  match P.underlying t, x, y with
  | some .bool, .bool a, .bool b => some (a == b)
  | some (.slice _), .snil, .snil => some true
  | some (.slice _), .snil, .sl .. => some false
  | some (.slice _), .sl .., .snil => some false
  | some (.pointer _), .pnil, .pnil => some true
  | some (.pointer _), .pnil, .ptr .. => some false
  | some (.pointer _), .ptr .., .pnil => some false
  | some (.map _ _), .mnil, .mnil => some true
  | some (.map _ _), .mnil, .mp _ => some false
  | some (.map _ _), .mp _, .mnil => some false
  | some (.func _ _ _), .fnil, .fnil => some true
  | some (.func _ _ _), .fnil, .fn .. => some false
  | some (.func _ _ _), .fn .., .fnil => some false
  | some _, .agg a, .agg b => if flatT P t = some a.length ∧ b.length = a.length then eqInts a b else none
  | _, _, _ => none

def binInt (op : BinOp) (k : IntKind) (a b : Int) : Option AV :=
  match op with
  | .add => some (.int k (k.wrap (a + b)))
  | .sub => some (.int k (k.wrap (a - b)))
  | .mul => some (.int k (k.wrap (a * b)))
  | .quo => if b = 0 then none else some (.int k (k.wrap (a.tdiv b)))
  | .rem => if b = 0 then none else some (.int k (a.tmod b))
  | .eql => some (.bool (a == b))
  | .neq => some (.bool (a != b))
  | .lss => some (.bool (a < b))
  | .leq => some (.bool (a ≤ b))
  | .gtr => some (.bool (a > b))
  | .geq => some (.bool (a ≥ b))
  | op => match bitsA op k a b with
    | some n => some (.int k n)
    | none => none

def shiftA (op : BinOp) (k : IntKind) (a b : Int) : Option AV :=
  if b < 0 then none else
  match op with
  | .shl => some (.int k (k.wrap (a * 2 ^ (min b.toNat k.bits))))
  | .shr => some (.int k (a.fdiv (2 ^ (min b.toNat k.bits))))
  | _ => none
def isShift : BinOp → Bool
  | .shl | .shr => true
  | _ => false

def binA (P : Program) (op : BinOp) (t : TypeId) (x y : AV) : Option AV :=
  match x, y with
  | .int k a, .int k' b => if isShift op then shiftA op k a b else if k = k' then binInt op k a b else none
  | .str a, .str b => (match op with
    | .eql => some (.bool (a == b))
    | .neq => some (.bool !(a == b))
    | _ => none)
  | x, y => match eqA P t x y with
    | none => none
    | some b => match op with
      | .eql => some (.bool b)
      | .neq => some (.bool !b)
      | _ => none

def unA (op : UnOp) (x : AV) : Option AV :=
  match op, x with
  | .neg, .int k n => some (.int k (k.wrap (0 - n)))
  | .xor, .int k n => (match bitsA .xor k (if k.signed then -1 else k.max) n with
    | some n => some (.int k n)
    | none => none)
  | .not, .bool b => some (.bool !b)
  | _, _ => none

def isAggT (P : Program) (t : TypeId) : Option Bool :=
  match P.underlying t with
  | some (.struct _) | some (.array _ _) => some true
  | some _ => some false
  | none => none
def bytesT (P : Program) (t : TypeId) : Option Nat := match P.info? t with
  | some i => some i.bytes
  | none => none
def zeroT (P : Program) (t : TypeId) : Option AV := match P.info? t with
  | some i => (match i.zero with
    | some v => ofValue v
    | none => none)
  | none => none
def elemT (P : Program) (t : TypeId) : Option TypeId := match P.underlying t with
  | some (.slice e) => some e
  | _ => none

/-- n of a list, from i on -/
def cut (l : List AV) (i n : Nat) : Option (List AV) := if i + n ≤ l.length then some ((l.drop i).take n) else none

/-- a part of a struct or an array -/
def partA (P : Program) (t : TypeId) (cs : List AV) (off : Nat) : Option AV :=
  match isAggT P t with
  | some true => (match sizeT P t with
    | some n => (match cut cs off n with
      | some l => some (.agg l)
      | none => none)
    | none => none)
  | some false => cs[off]?
  | none => none

def loadA (P : Program) (h : HT) (t : TypeId) (b off : Nat) : Option AV :=
  match cellsOf h b with
  | some cs => partA P t cs off
  | none => none

/-- a byte -/
def u8V : AV → Bool
  | .int .u8 _ => true
  | _ => false
/-- a row written over another one, from a place on; there must be room; bytes stay bytes -/
def over : List AV → List AV → Option (List AV)
  | cs, [] => some cs
  | c :: cs, v :: vs => if cellOK v && (!u8V c || u8V v) then (match over cs vs with | some l => some (v :: l) | none => none) else none
  | [], _ :: _ => none
def overAt : List AV → Nat → List AV → Option (List AV)
  | cs, 0, vs => over cs vs
  | c :: cs, o + 1, vs => (match overAt cs o vs with | some l => some (c :: l) | none => none)
  | [], _ + 1, _ => none

/-- a value, what becomes of the heap, the next number -/
abbrev Ups := List (Nat × Option Obj)
abbrev R3 := Option (AV × Ups × Nat)
def storeA (P : Program) (h : HT) (t : TypeId) (b off : Nat) (v : AV) : Option Ups :=
  match cellsOf h b, sizeT P t with
  | some cs, some n => if v.cells.length = n then (match overAt cs off v.cells with
      | some cs => some [(b, some (.cells cs))]
      | none => none) else none
  | _, _ => none

def natOf : AV → Option Nat
  | .int _ (.ofNat n) => some n
  | _ => none
def minA (m : Int) : List AV → Option Int
  | [] => some m
  | .int _ n :: r => minA (if n < m then n else m) r
  | _ => none
def maxA (m : Int) : List AV → Option Int
  | [] => some m
  | .int _ n :: r => maxA (if n > m then n else m) r
  | _ => none

/-- is a value fit to be a key of a type? -/
def keyOK (P : Program) (t : TypeId) : AV → Bool
  | .int _ _ => isInt P t
  | .agg l => flatArr P t == some l.length && l.all (fun v => match v with | .int _ _ => true | _ => false)
  | _ => false
def eqKey : AV → AV → Option Bool
  | .int k a, .int k' b => if k = k' then some (a == b) else none
  | .agg a, .agg b => eqInts a b
  | _, _ => none
def mapFind (k : AV) : List (AV × AV × Nat) → Option (Option (AV × Nat))
  | [] => some none
  | (k', v, b) :: r => match eqKey k k' with
    | some true => some (some (v, b))
    | some false => mapFind k r
    | none => none
/-- the entry's value, behind which it stands -/
def mapPut (k v : AV) : List (AV × AV × Nat) → Option (List (AV × AV × Nat))
  | [] => none
  | (k', v', b) :: r => match eqKey k k' with
    | some true => some ((k', v, b) :: r)
    | some false => (match mapPut k v r with | some l => some ((k', v', b) :: l) | none => none)
    | none => none
def mapStamp (born : Nat) (v : AV) : List (AV × AV × Nat) → Option (List (AV × AV × Nat))
  | [] => none
  | (k', v', b) :: r => if b = born then some ((k', v, b) :: r) else (match mapStamp born v r with | some l => some ((k', v', b) :: l) | none => none)

/-- the first cells of a slice, or a string's bytes -/
def byteOf (c : UInt8) : AV := .int .u8 c.toNat
def srcA (h : HT) (size n : Nat) : AV → Option (List AV)
  | .snil => if n = 0 then some [] else none
  | .sl b off _ _ _ => if n * size = 0 then some [] else (match cellsOf h b with
    | some cs => cut cs off (n * size)
    | none => none)
  | .str s => if size = 1 ∧ n ≤ s.length then some ((s.take n).map byteOf) else none
  | _ => none
def lenA : AV → Option Nat
  | .snil => some 0
  | .sl _ _ n _ _ => some n
  | .str s => some s.length
  | _ => none
def isZeros (P : Program) (argTypes : Array TypeId) : Option Bool := match argTypes[1]? with
  | some t => (match P.underlying t with
    | some (.int _) => some true
    | some _ => some false
    | none => none)
  | none => none
def most : Nat := 1048576
def repl : Nat → List AV → List AV
  | 0, _ => []
  | n + 1, z => z ++ repl n z

/-- how many are appended, and their cells -/
def newA (P : Program) (h : HT) (argTypes : Array TypeId) (elem : TypeId) (size : Nat) (x : AV) : Option (Nat × List AV) :=
  match isZeros P argTypes with
  | some true => (match natOf x, zeroT P elem with
    | some n, some z => if n ≤ most ∧ z.cells.length = size then some (n, repl n z.cells) else none
    | _, _ => none)
  | some false => (match lenA x with
    | some n => (match srcA h size n x with | some l => some (n, l) | none => none)
    | none => none)
  | none => none

/-- append, behind what was found out: the element's size, how many, their cells -/
def appendB (h : HT) (nx : Nat) (size n : Nat) (new : List AV) : AV → R3
  | .snil => if n = 0 then some (.snil, [], nx)
    else some (.sl nx 0 n n (size + 1), [(nx, some (.cells new))], nx + 1)
  | .sl b off len cap opn =>
    if len + n ≤ cap then
      (match cellsOf h b with
      | some cs => (match overAt cs (off + len * size) new with
        | some cs => some (.sl b off (len + n) cap opn, [(b, some (.cells cs))], nx)
        | none => none)
      | none => none)
    else if len > most then none
    else if opn = 0 then (match srcA h size len (.sl b off len cap opn) with
      | some old => some (.sl nx 0 (len + n) (len + n) (size + 1), [(nx, some (.cells (old ++ new)))], nx + 1)
      | none => none)
    else if opn = size + 1 ∧ new.all cellOK = true then (match cellsOf h b with
      | some cs => if cs.all u8V && !new.all u8V then none else (match cut cs off (len * size) with
        | some old => some (.sl nx 0 (len + n) (len + n) (size + 1), [(b, none), (nx, some (.cells (old ++ new)))], nx + 1)
        | none => none)
      | none => none)
    else none
  | _ => none
def appendA (P : Program) (h : HT) (nx : Nat) (argTypes : Array TypeId) (s x : AV) : R3 :=
  match argTypes[0]? with
  | some sT => (match elemT P sT with
    | some elem => (match sizeT P elem, bytesT P elem, zeroT P elem with
      | some size, some bytes, some z => if size = 0 ∨ bytes = 0 ∨ bytes > 4096 ∨ z.cells.length ≠ size then none else (match newA P h argTypes elem size x with
        | some (n, new) => if n ≤ most then appendB h nx size n new s else none
        | none => none)
      | _, _, _ => none)
    | none => none)
  | none => none

/-- an operand that may be missing -/
def optA (ρ : Operand → Option AV) : Option Operand → Option (Option Nat)
  | none => some none
  | some x => match ρ x with
    | some v => (match natOf v with | some n => some (some n) | none => none)
    | none => none

def sliceA (P : Program) (t : TypeId) (x : AV) (low high mx : Option Nat) : Option AV :=
  match P.underlying t, x with
  | some (.array n elem), .ptr b off => (match sizeT P elem with
    | some size =>
      if low.getD 0 ≤ high.getD n ∧ high.getD n ≤ mx.getD n ∧ mx.getD n ≤ n ∧ (mx.isSome → high.isSome) then
        some (.sl b (if mx.getD n = low.getD 0 then off else off + low.getD 0 * size) (high.getD n - low.getD 0) (mx.getD n - low.getD 0) 0)
      else none
    | none => none)
  | some .string, .str s =>
    if mx = none ∧ low.getD 0 ≤ high.getD s.length ∧ high.getD s.length ≤ s.length then some (.str ((s.drop (low.getD 0)).take (high.getD s.length - low.getD 0))) else none
  | some (.slice elem), .snil => if low.getD 0 = 0 ∧ high.getD 0 = 0 ∧ mx.getD 0 = 0 ∧ (mx.isSome → high.isSome) ∧ (sizeT P elem).isSome = true then some .snil else none
  | some (.slice elem), .sl b off len cap opn => (match sizeT P elem with
    | some size =>
      if low.getD 0 ≤ high.getD len ∧ high.getD len ≤ mx.getD cap ∧ mx.getD cap ≤ cap ∧ (mx.isSome → high.isSome) then
        if opn = 0 ∨ (mx.isSome = true ∧ 0 < cap) then some (.sl b (if mx.getD cap = low.getD 0 then off else off + low.getD 0 * size) (high.getD len - low.getD 0) (mx.getD cap - low.getD 0) 0)
        else if mx.isSome = true ∨ opn ≠ size + 1 then none
        else some (.sl b (off + low.getD 0 * size) (high.getD len - low.getD 0) (cap - low.getD 0) opn)
      else none
    | none => none)
  | _, _ => none

def bytesA : List AV → Option (List UInt8)
  | [] => some []
  | .int .u8 n :: r => (match bytesA r with | some l => some (UInt8.ofNat n.toNat :: l) | none => none)
  | _ => none

/-- is a row one of bytes alone? -/
def allU8 (h : HT) (b : Nat) : Bool := match cellsOf h b with
  | some cs => cs.all u8V
  | none => false
def isU8 (P : Program) (t : TypeId) : Bool := match P.underlying t with
  | some (.int .u8) => true
  | _ => false
def convA (P : Program) (h : HT) (nx : Nat) (src dst : TypeId) (x : AV) : R3 :=
  match P.underlying src, P.underlying dst, x with
  | some _, some (.int k), .int _ n => some (.int k (k.wrap n), [], nx)
  | some _, some (.slice e), .str s => if isU8 P e = true ∧ s.length ≤ most then some (.sl nx 0 s.length s.length 2, [(nx, some (.cells (s.map byteOf)))], nx + 1) else none
  | some (.slice _), some (.slice e), .sl b off len cap opn => if src = dst ∧ isU8 P e = true ∧ allU8 h b = true then some (.sl b off len cap opn, [], nx) else none
  | some (.slice _), some .string, .str _ => none
  | some (.slice e), some .string, x => if isU8 P e = true then (match lenA x with
      | some n => (match srcA h 1 n x with
        | some cs => (match bytesA cs with | some l => some (.str l, [], nx) | none => none)
        | none => none)
      | none => none) else none
  | _, _, _ => none

/-- parts laid over a zero value's cells -/
def fillA (place : Nat → Option (Nat × Nat)) (cells : List AV) : List (Nat × AV) → Option (List AV)
  | [] => some cells
  | (i, v) :: rest => match place i with
    | none => none
    | some (off, size) => if v.cells.length = size then (match overAt cells off v.cells with
        | some cs => fillA place cs rest
        | none => none) else none
def placeF (P : Program) (fields : List Field) (i : Nat) : Option (Nat × Nat) := match fields[i]? with
  | some f => (match sizeT P f.type with | some n => some (f.offset, n) | none => none)
  | none => none
def sizesOK (P : Program) (fields : List Field) : Bool := fields.all fun f => (sizeT P f.type).isSome
def buildA (P : Program) (t : TypeId) (parts : List (Nat × AV)) : Option AV :=
  match zeroT P t, P.underlying t with
  | some z, some (.struct fields) => if sizesOK P fields.toList then (match fillA (placeF P fields.toList) z.cells parts with | some l => some (.agg l) | none => none) else none
  | some z, some (.array _ elem) => (match sizeT P elem with
    | some size => (match fillA (fun i => some (i * size, size)) z.cells parts with | some l => some (.agg l) | none => none)
    | none => none)
  | _, _ => none
def rowA (P : Program) (t : TypeId) (len : Nat) (parts : List (Nat × AV)) : Option (List AV) :=
  match elemT P t with
  | some elem => (match sizeT P elem, zeroT P elem with
    | some size, some z => if len * size ≤ most ∧ z.cells.length = size then fillA (fun i => some (i * size, size)) (repl len z.cells) parts else none
    | _, _ => none)
  | none => none

def fieldOff (P : Program) (s : TypeId) (i : Nat) : Option Nat := match P.underlying s with
  | some (.struct fields) => (match fields.toList[i]? with
    | some f => (match sizeT P f.type with
      | some 0 => none
      | some _ => some f.offset
      | none => none)
    | none => none)
  | _ => none
/-- an element's size; an array's length -/
def elemInfo (P : Program) (t : TypeId) : Option (Option Nat × Nat) := match P.underlying t with
  | some (.slice e) => (match sizeT P e with | some n => some (none, n) | none => none)
  | some (.array len e) => (match sizeT P e with | some n => some (some len, n) | none => none)
  | _ => none

def argsA (ρ : Operand → Option AV) : List Operand → Option (List AV)
  | [] => some []
  | x :: r => match ρ x with
    | some v => (match argsA ρ r with | some l => some (v :: l) | none => none)
    | none => none
def partsA (ρ : Operand → Option AV) : List (Nat × Operand) → Option (List (Nat × AV))
  | [] => some []
  | (i, x) :: r => match ρ x with
    | some v => (match partsA ρ r with | some l => some ((i, v) :: l) | none => none)
    | none => none

def lookupA (P : Program) (h : HT) (t : TypeId) (x k : AV) (ok : Bool) : Option AV :=
  match P.underlying t with
  | some (.map key elem) => if keyOK P key k then
      (match zeroT P elem with
      | some z => (match (match x with
          | .mnil => some (some none)
          | .mp b => (match hget h b with | some (.map es _) => some (mapFind k es) | _ => none)
          | _ => none : Option (Option (Option (AV × Nat)))) with
        | some (some (some (v, _))) => some (if ok then .tup [v, .bool true] else v)
        | some (some none) => some (if ok then .tup [z, .bool false] else z)
        | _ => none)
      | none => none) else none
  | _ => none
def updateA (P : Program) (h : HT) (t : TypeId) (m k v : AV) : Option Ups :=
  match P.underlying t, m with
  | some (.map key _), .mp b => if keyOK P key k then (match hget h b with
      | some (.map es cl) => (match mapFind k es with
        | some (some _) => (match mapPut k v es with | some es => some [(b, some (.map es cl))] | none => none)
        | some none => some [(b, some (.map (es ++ [(k, v, cl)]) (cl + 1)))]
        | none => none)
      | _ => none) else none
  | _, _ => none
def entryA (P : Program) (h : HT) (t : TypeId) (m k : AV) : Option (AV × Ups) :=
  match P.underlying t, m with
  | some (.map key elem), .mp b => if keyOK P key k then (match hget h b, zeroT P elem with
      | some (.map es cl), some z => (match mapFind k es with
        | some (some (v, born)) => some (.tup [v, .int .i64 born], [])
        | some none => some (.tup [z, .int .i64 cl], [(b, some (.map (es ++ [(k, z, cl)]) (cl + 1)))])
        | none => none)
      | _, _ => none) else none
  | _, _ => none
def stampA (h : HT) (m st v : AV) : Option Ups :=
  match m, natOf st with
  | .mp b, some born => (match hget h b with
    | some (.map es cl) => (match mapStamp born v es with | some es => some [(b, some (.map es cl))] | none => none)
    | _ => none)
  | _, _ => none

def lenOp (P : Program) (h : HT) (argTypes : Array TypeId) (x : AV) : Option AV :=
  match argTypes[0]? with
  | none => none
  | some t => match P.underlying t, x with
    | some .string, .str s => some (.int .i64 s.length)
    | some (.array n _), _ => some (.int .i64 n)
    | some (.pointer a), _ => (match P.underlying a with | some (.array n _) => some (.int .i64 n) | _ => none)
    | some (.slice _), .snil => some (.int .i64 0)
    | some (.slice _), .sl _ _ n _ _ => some (.int .i64 n)
    | some (.map _ _), .mnil => some (.int .i64 0)
    | some (.map _ _), .mp b => (match hget h b with | some (.map es _) => some (.int .i64 es.length) | _ => none)
    | _, _ => none
def isSlT (P : Program) (argTypes : Array TypeId) : Bool := match argTypes[0]? with
  | some t => (elemT P t).isSome
  | none => false
def copyA (P : Program) (h : HT) (argTypes : Array TypeId) (d s : AV) : Option (AV × Ups) :=
  match argTypes[0]? with
  | some t => (match elemT P t with
    | some elem => (match sizeT P elem, lenA s, d with
      | some size, some n, .sl b off m _ _ => (match srcA h size (Nat.min n m) s, cellsOf h b with
        | some new, some cs => (match overAt cs off new with
          | some cs => some (.int .i64 (Nat.min n m), [(b, some (.cells cs))])
          | none => none)
        | _, _ => none)
      | _, _, _ => none)
    | none => none)
  | none => none
def clearA (P : Program) (h : HT) (argTypes : Array TypeId) (d : AV) : Option Ups :=
  match argTypes[0]? with
  | some t => (match elemT P t with
    | some elem => (match zeroT P elem, sizeT P elem, d with
      | some z, some size, .sl b off n _ _ => if z.cells.length = size then
          (if n = 0 then some [] else (match cellsOf h b with
          | some cs => (match overAt cs off (repl n z.cells) with
            | some cs => some [(b, some (.cells cs))]
            | none => none)
          | none => none)) else none
      | _, _, .snil => some []
      | _, _, _ => none)
    | none => none)
  | none => none

/-! what each operation does that calls no function -/
abbrev Env := Operand → Option AV
def oMove (ρ : Env) (x : Operand) (nx : Nat) : R3 := match ρ x with
  | some v => some (v, [], nx)
  | none => none
def oPick (ρ : Env) (c a b : Operand) (nx : Nat) : R3 := match ρ c with
  | some (.bool true) => oMove ρ a nx
  | some (.bool false) => oMove ρ b nx
  | _ => none
def oAlloc (P : Program) (t : TypeId) (nx : Nat) : R3 := match zeroT P t with
  | some z => some (.ptr nx 0, [(nx, some (.cells z.cells))], nx + 1)
  | none => none
def oBox (ρ : Env) (x : Operand) (nx : Nat) : R3 := match ρ x with
  | some v => some (.ptr nx 0, [(nx, some (.cells v.cells))], nx + 1)
  | none => none
def oBuild (P : Program) (ρ : Env) (t : TypeId) (ps : Array (Nat × Operand)) (nx : Nat) : R3 := match partsA ρ ps.toList with
  | some l => (match buildA P t l with | some v => some (v, [], nx) | none => none)
  | none => none
def oBuildSlice (P : Program) (ρ : Env) (t : TypeId) (len : Nat) (ps : Array (Nat × Operand)) (nx : Nat) : R3 := match partsA ρ ps.toList with
  | some l => (match rowA P t len l with
    | some cs => some (.sl nx 0 len len 0, [(nx, some (.cells cs))], nx + 1)
    | none => none)
  | none => none
def oLoad (P : Program) (ρ : Env) (t : TypeId) (a : Operand) (h : HT) (nx : Nat) : R3 := match ρ a with
  | some (.ptr b off) => (match loadA P h t b off with | some v => some (v, [], nx) | none => none)
  | _ => none
def oStore (P : Program) (ρ : Env) (t : TypeId) (a x : Operand) (h : HT) (nx : Nat) : R3 := match ρ a, ρ x with
  | some (.ptr b off), some v => (match storeA P h t b off v with | some u => some (.dead, u, nx) | none => none)
  | _, _ => none
def oNil (ρ : Env) (x : Operand) (nx : Nat) : R3 := match ρ x with
  | some (.ptr b off) => some (.ptr b off, [], nx)
  | some (.fn f a b) => some (.fn f a b, [], nx)
  | some (.yld l) => some (.yld l, [], nx)
  | some (.mp b) => some (.mp b, [], nx)
  | _ => none
def oBin (P : Program) (ρ : Env) (op : BinOp) (t : TypeId) (x y : Operand) (nx : Nat) : R3 := match ρ x, ρ y with
  | some x, some y => (match binA P op t x y with | some v => some (v, [], nx) | none => none)
  | _, _ => none
def oUn (ρ : Env) (op : UnOp) (x : Operand) (nx : Nat) : R3 := match ρ x with
  | some x => (match unA op x with | some v => some (v, [], nx) | none => none)
  | none => none
def oConv (P : Program) (ρ : Env) (src dst : TypeId) (x : Operand) (h : HT) (nx : Nat) : R3 := match ρ x with
  | some x => convA P h nx src dst x
  | none => none
def oFunc (ρ : Env) (fn : Fn) (first caps : Array Operand) (nx : Nat) : R3 := match fn, argsA ρ first.toList, argsA ρ caps.toList with
  | .func g, some a, some b => some (.fn g a b, [], nx)
  | _, _, _ => none
def oMakeMap (P : Program) (ρ : Env) (t : TypeId) (r : Option Operand) (nx : Nat) : R3 := match r with
  | none => some (.mp nx, [(nx, some (.map [] 0))], nx + 1)
  | some x => (match ρ x, P.underlying t with
    | some (.int _ _), some (.map _ _) => some (.mp nx, [(nx, some (.map [] 0))], nx + 1)
    | _, _ => none)
def oMakeSlice (P : Program) (ρ : Env) (t : TypeId) (l c : Operand) (nx : Nat) : R3 := match ρ l, ρ c, elemT P t with
  | some l, some c, some elem => (match natOf l, natOf c, zeroT P elem, sizeT P elem, bytesT P elem with
    | some l, some c, some z, some size, some bytes => if l ≤ c ∧ c ≤ most ∧ bytes ≤ 4096 ∧ z.cells.length = size then some (.sl nx 0 l c 0, [(nx, some (.cells (repl c z.cells)))], nx + 1) else none
    | _, _, _, _, _ => none)
  | _, _, _ => none
def oSlice (P : Program) (ρ : Env) (t : TypeId) (x : Operand) (lo hi mx : Option Operand) (nx : Nat) : R3 := match ρ x, optA ρ lo, optA ρ hi, optA ρ mx with
  | some x, some lo, some hi, some mx => (match sliceA P t x lo hi mx with | some v => some (v, [], nx) | none => none)
  | _, _, _, _ => none
def oFieldAddr (P : Program) (ρ : Env) (s : TypeId) (x : Operand) (i : Nat) (nx : Nat) : R3 := match ρ x, fieldOff P s i with
  | some (.ptr b off), some o => some (.ptr b (off + o), [], nx)
  | _, _ => none
def oField (P : Program) (ρ : Env) (t : TypeId) (x : Operand) (i : Nat) (nx : Nat) : R3 := match ρ x, P.underlying t with
  | some (.agg cs), some (.struct fields) => (match fields.toList[i]? with
    | some f => (match partA P f.type cs f.offset with | some v => some (v, [], nx) | none => none)
    | none => none)
  | _, _ => none
def oIndexAddr (P : Program) (ρ : Env) (t : TypeId) (x ix : Operand) (nx : Nat) : R3 := match ρ x, ρ ix with
  | some x, some ix => (match natOf ix, elemInfo P t, x with
    | some i, some (none, n), .sl b off len _ _ => if i < len then some (.ptr b (off + i * n), [], nx) else none
    | some i, some (some len, n), .ptr b off => if i < len then some (.ptr b (off + i * n), [], nx) else none
    | _, _, _ => none)
  | _, _ => none
def oIndex (P : Program) (ρ : Env) (t : TypeId) (x ix : Operand) (nx : Nat) : R3 := match ρ x, ρ ix with
  | some x, some ix => (match natOf ix, P.underlying t, x with
    | some i, some (.array len elem), .agg cs => (match sizeT P elem with
      | some n => if i < len then (match partA P elem cs (i * n) with | some v => some (v, [], nx) | none => none) else none
      | none => none)
    | some i, some .string, .str s => (match s[i]? with | some c => some (byteOf c, [], nx) | none => none)
    | _, _, _ => none)
  | _, _ => none
def oLookup (P : Program) (ρ : Env) (t : TypeId) (x ix : Operand) (ok : Bool) (h : HT) (nx : Nat) : R3 := match ρ x, ρ ix with
  | some x, some ix => (match lookupA P h t x ix ok with | some v => some (v, [], nx) | none => none)
  | _, _ => none
def oUpdate (P : Program) (ρ : Env) (t : TypeId) (m k x : Operand) (h : HT) (nx : Nat) : R3 := match ρ m, ρ k, ρ x with
  | some m, some k, some x => (match updateA P h t m k x with | some u => some (.dead, u, nx) | none => none)
  | _, _, _ => none
def oEntry (P : Program) (ρ : Env) (t : TypeId) (m k : Operand) (h : HT) (nx : Nat) : R3 := match ρ m, ρ k with
  | some m, some k => (match entryA P h t m k with | some (v, u) => some (v, u, nx) | none => none)
  | _, _ => none
def oStamp (ρ : Env) (m st x : Operand) (h : HT) (nx : Nat) : R3 := match ρ m, ρ st, ρ x with
  | some m, some st, some x => (match stampA h m st x with | some u => some (.dead, u, nx) | none => none)
  | _, _, _ => none
def oExtract (ρ : Env) (t : Operand) (i : Nat) (nx : Nat) : R3 := match ρ t with
  | some (.tup l) => (match l[i]? with | some v => some (v, [], nx) | none => none)
  | _ => none
def bLen (P : Program) (argTypes : Array TypeId) (h : HT) (nx : Nat) : List AV → R3
  | [x] => (match lenOp P h argTypes x with | some v => some (v, [], nx) | none => none)
  | _ => none
def bCap (P : Program) (argTypes : Array TypeId) (nx : Nat) (l : List AV) : R3 := match argTypes[0]? with
  | some t => (match elemT P t with
    | some _ => (match l with
      | [.snil] => some (.int .i64 0, [], nx)
      | [.sl _ _ _ c 0] => some (.int .i64 c, [], nx)
      | _ => none)
    | none => none)
  | none => none
def bAppend (P : Program) (argTypes : Array TypeId) (h : HT) (nx : Nat) : List AV → R3
  | [s, x] => appendA P h nx argTypes s x
  | _ => none
def bMin (nx : Nat) : List AV → R3
  | .int k m :: r => (match minA m r with | some n => some (.int k n, [], nx) | none => none)
  | _ => none
def bMax (nx : Nat) : List AV → R3
  | .int k m :: r => (match maxA m r with | some n => some (.int k n, [], nx) | none => none)
  | _ => none
def bCopy (P : Program) (argTypes : Array TypeId) (h : HT) (nx : Nat) : List AV → R3
  | [d, s] => (match copyA P h argTypes d s with | some (v, u) => some (v, u, nx) | none => none)
  | _ => none
def bClear (P : Program) (argTypes : Array TypeId) (h : HT) (nx : Nat) : List AV → R3
  | [d] => (match clearA P h argTypes d with | some u => some (.tup [], u, nx) | none => none)
  | _ => none
def oBuiltin (P : Program) (ρ : Env) (b : Builtin) (args : Array Operand) (argTypes : Array TypeId) (h : HT) (nx : Nat) : R3 := match argsA ρ args.toList with
  | some l => (match b with
    | .len => bLen P argTypes h nx l
    | .cap => bCap P argTypes nx l
    | .append => bAppend P argTypes h nx l
    | .min => bMin nx l
    | .max => bMax nx l
    | .copy => bCopy P argTypes h nx l
    | .clear => bClear P argTypes h nx l
    | _ => none)
  | none => none
/-- what an operation does that calls no function: its value, what becomes of the heap, the next number -/
def opS (P : Program) (ρ : Env) (op : Op) (h : HT) (nx : Nat) : R3 :=
  match op with
  | .move x => oMove ρ x nx
  | .assign x => oMove ρ x nx
  | .pick c a b => oPick ρ c a b nx
  | .alloc t => oAlloc P t nx
  | .box _ x => oBox ρ x nx
  | .build t ps => oBuild P ρ t ps nx
  | .buildSlice t len ps => oBuildSlice P ρ t len ps nx
  | .load t a => oLoad P ρ t a h nx
  | .store t a x => oStore P ρ t a x h nx
  | .nilCheck x => oNil ρ x nx
  | .binOp op t x y _ => oBin P ρ op t x y nx
  | .unOp op _ x => oUn ρ op x nx
  | .convert src dst x => oConv P ρ src dst x h nx
  | .makeFunc fn first caps => oFunc ρ fn first caps nx
  | .makeMap t r => oMakeMap P ρ t r nx
  | .makeSlice t l c => oMakeSlice P ρ t l c nx
  | .slice t x lo hi mx => oSlice P ρ t x lo hi mx nx
  | .fieldAddr s x i => oFieldAddr P ρ s x i nx
  | .field t x i => oField P ρ t x i nx
  | .indexAddr t x ix => oIndexAddr P ρ t x ix nx
  | .index t x ix => oIndex P ρ t x ix nx
  | .lookup t x ix ok => oLookup P ρ t x ix ok h nx
  | .mapUpdate t m k x => oUpdate P ρ t m k x h nx
  | .insert t m k x => oUpdate P ρ t m k x h nx
  | .mapEntry t m k => oEntry P ρ t m k h nx
  | .entryStore _ m st x => oStamp ρ m st x h nx
  | .extract t i => oExtract ρ t i nx
  | .call c => (match c.callee with
    | .builtin b => oBuiltin P ρ b c.args c.argTypes h nx
    | _ => none)
  | _ => none
def upsH (h : HT) : Ups → HT
  | [] => h
  | (b, o) :: r => upsH (hset h b o) r
end Go.Ev
