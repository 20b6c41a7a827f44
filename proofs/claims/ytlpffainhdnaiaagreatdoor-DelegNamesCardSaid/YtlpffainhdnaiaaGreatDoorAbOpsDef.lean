import Derived.Test.YtlpffainhdnaiaaGreatDoorAbSet
/- The operations of our own machine: what each gives, as a function of abstract values. -/
namespace Go.Ab
open Go

/-- A constant's cell. -/
def av1 : Value → AV
  | .bool b => .bool b
  | .int k n => .int k n
  | .string s => .str s.data.toList
  | .pointer none => .np
  | .slice none 0 0 => .sl [] .full
  | .map none => .nmap
  | .nilFunc => .nfn
  | .nilIface => .nif
  | .func fn ⟨[]⟩ ⟨[]⟩ => .fn fn [] []
  | _ => .any

def av0 : Value → AV
  | .agg cs => if cs.toList.all Value.oneCell' then .agg (cs.toList.map av1) else .any
  | v => av1 v

structure Lay where
  size : Nat
  bytes : Nat
  agg : Bool
  zero : List AV

def aggD : TypeDesc → Bool
  | .struct _ | .array _ _ => true
  | _ => false

/-- How a variable of a type lies in memory. -/
def layOf (P : Program) (t : TypeId) : Option Lay :=
  match P.underlying t, P.info? t with
  | some d, some i =>
    match i.zero with
    | some z => if z.cells.toList.all Value.oneCell' && z.cells.size == i.size && (aggD d || i.size == 1) then some ⟨i.size, i.bytes, aggD d, z.cells.toList.map av1⟩ else none
    | none => none
  | _, _ => none

/-- A struct's field: offset, size, is it an aggregate? -/
def fldOf (P : Program) (t : TypeId) (f : Nat) : Option (Nat × Nat × Bool) :=
  match P.underlying t with
  | some (.struct fs) =>
    match fs[f]? with
    | some fd => match layOf P fd.type with
      | some L => some (fd.offset, L.size, L.agg)
      | none => none
    | none => none
  | _ => none

/-- The elements of a slice's type (none), of an array's (its length). -/
def eltOf (P : Program) (t : TypeId) : Option (Option Nat × Lay) :=
  match P.underlying t with
  | some (.slice e) => (layOf P e).map fun L => (none, L)
  | some (.array n e) => (layOf P e).map fun L => (some n, L)
  | _ => none

/-- What a value is once it lies in immutable memory: no claim on its capacity. -/
def AV.setl : AV → AV
  | .sl es .full => .sl es .frs
  | v => v

/-- Every element has so many cells. -/
def lenOk (n : Nat) (es : List (List AV)) : Bool := es.all fun e => e.length == n

def mkVal (agg : Bool) (cs : List AV) : Option AV := if agg then some (.agg cs) else cs[0]?

def aField (fo : Option (Nat × Nat × Bool)) (x : AV) : Option AV :=
  match fo, x with
  | some (off, sz, ag), .agg cs => if off + sz ≤ cs.length then mkVal ag ((cs.drop off).take sz) else none
  | _, _ => none

def aFieldAddr (fo : Option (Nat × Nat × Bool)) (x : AV) : Option AV :=
  match fo, x with
  | some (off, sz, _), .mp d i o => if sz = 0 then none else some (.mp d i (o + off))
  | some (off, sz, _), .ip cs l => if sz = 0 then none else some (.ip (cs.drop off) l)
  | _, _ => none

def aIndexAddr (el : Option (Option Nat × Lay)) (x ix : AV) : Option AV :=
  match el, x, ix with
  | some (none, L), .sl es o, .int _ n => if 0 ≤ n then (es[n.toNat]?).bind fun e => if e.length = L.size then some (.ip e o) else none else none
  | some (none, L), .ms d i off len _, .int _ n => if 0 ≤ n ∧ n < len then some (.mp d i (off + n.toNat * L.size)) else none
  | some (some N, L), .mp d i off, .int _ n => if 0 ≤ n ∧ n < N then some (.mp d i (off + n.toNat * L.size)) else none
  | some (some N, L), .ip cs l, .int _ n => if 0 ≤ n ∧ n < N then some (.ip (cs.drop (n.toNat * L.size)) l) else none
  | _, _, _ => none

def aIndex (P : Program) (t : TypeId) (x ix : AV) : Option AV :=
  match x, ix with
  | .str s, .int _ n => match P.underlying t with
    | some .string => if 0 ≤ n then (s[n.toNat]?).map fun b => .int .u8 b.toNat else none
    | _ => none
  | .agg cs, .int _ n => match eltOf P t with
    | some (some N, L) => if 0 ≤ n ∧ n < N ∧ n.toNat * L.size + L.size ≤ cs.length then mkVal L.agg ((cs.drop (n.toNat * L.size)).take L.size) else none
    | _ => none
  | _, _ => none

def aBits (op : BinOp) (k : IntKind) (x y : Int) : Int :=
  let a := BitVec.ofInt k.bits x
  let b := BitVec.ofInt k.bits y
  k.wrap (match op with
    | .and => (a &&& b).toNat
    | .or => (a ||| b).toNat
    | .xor => (a ^^^ b).toNat
    | _ => (a &&& ~~~b).toNat : Nat)

def aInt (op : BinOp) (k : IntKind) (a b : Int) : Option AV :=
  match op with
  | .add => some (.int k (k.wrap (a + b)))
  | .sub => some (.int k (k.wrap (a - b)))
  | .mul => some (.int k (k.wrap (a * b)))
  | .quo => if b = 0 then none else some (.int k (k.wrap (a.tdiv b)))
  | .rem => if b = 0 then none else some (.int k (a.tmod b))
  | .and => some (.int k (aBits .and k a b))
  | .or => some (.int k (aBits .or k a b))
  | .xor => some (.int k (aBits .xor k a b))
  | .andNot => some (.int k (aBits .andNot k a b))
  | .eql => some (.bool (a == b))
  | .neq => some (.bool (a != b))
  | .lss => some (.bool (decide (a < b)))
  | .leq => some (.bool (decide (a ≤ b)))
  | .gtr => some (.bool (decide (a > b)))
  | .geq => some (.bool (decide (a ≥ b)))
  | _ => none

def aStr (op : BinOp) (a b : List UInt8) : Option AV :=
  match op with
  | .add => if a.length + b.length ≤ 4611686018427387904 then some (.str (a ++ b)) else none
  | .eql => some (.bool (a == b))
  | .neq => some (.bool (!(a == b)))
  | .lss => some (.bool (Op.bytesLess a b))
  | .leq => some (.bool (Op.bytesLess a b || a == b))
  | .gtr => some (.bool (!(Op.bytesLess a b || a == b)))
  | .geq => some (.bool (!(Op.bytesLess a b)))
  | _ => none

def isNilAV : AV → Option Bool
  | .np => some true
  | .mp _ _ _ => some false
  | .ip _ _ => some false
  | _ => none

/-- A struct all of whose fields are strings: how many. -/
def strStruct (P : Program) (t : TypeId) : Option Nat :=
  match P.underlying t with
  | some (.struct fs) =>
    if (fs.toList.zipIdx.all fun x => x.1.name != "_" && x.1.offset == x.2 && (match layOf P x.1.type, P.underlying x.1.type with | some L, some .string => !L.agg && L.size == 1 | _, _ => false)) && !P.stoodInHeld t && !P.eqGuardType P.depth t then some fs.size else none
  | _ => none

def eqStrs : List AV → List AV → Option Bool
  | [], [] => some true
  | .str a :: xs, .str b :: ys => if a = b then eqStrs xs ys else if (eqStrs xs ys).isSome then some false else none
  | _, _ => none

mutual
/-- Surely not the same memory: what is read differs. -/
def AV.dif : AV → AV → Bool
  | .bool a, .bool b => a != b
  | .int _ a, .int _ b => a != b
  | .str a, .str b => a != b
  | .sl es _, .sl fs _ => es.length != fs.length || (es.map List.length == fs.map List.length && difLL es fs)
  | _, _ => false
def difL : List AV → List AV → Bool
  | a :: l, b :: k => AV.dif a b || difL l k
  | _, _ => false
def difLL : List (List AV) → List (List AV) → Bool
  | a :: l, b :: k => difL a b || difLL l k
  | _, _ => false
end

/-- '==' of the kinds that are no numbers and no strings. -/
def aEq (P : Program) (t : TypeId) (x y : AV) : Option Bool :=
  match P.underlying t with
  | some .bool => match x, y with
    | .bool a, .bool b => some (a == b)
    | _, _ => none
  | some (.pointer e) => match x, y with
    | .np, y => isNilAV y
    | x, .np => isNilAV x
    | .ip cs l, .ip ds k => match layOf P e with | some L => if l ≠ .unk ∧ k ≠ .unk ∧ L.size ≠ 0 ∧ difL cs ds = true then some false else none | none => none
    | _, _ => none
  | some (.struct _) => match strStruct P t, x, y with
    | some n, .agg xs, .agg ys => if xs.length = n ∧ ys.length = n then eqStrs xs ys else none
    | _, _, _ => none
  | _ => none

def aBin (P : Program) (op : BinOp) (t : TypeId) (x y : AV) : Option AV :=
  match x, y with
  | .int k a, .int k' b =>
    match op with
    | .shl => if 0 ≤ b then some (.int k (k.wrap (a * 2 ^ min b.toNat k.bits))) else none
    | .shr => if 0 ≤ b then some (.int k (a.fdiv (2 ^ min b.toNat k.bits))) else none
    | _ => if k = k' then aInt op k a b else none
  | .str a, .str b => aStr op a b
  | x, y =>
    match op with
    | .eql => (aEq P t x y).map .bool
    | .neq => (aEq P t x y).map fun b => .bool (!b)
    | _ => none

def aUn (op : UnOp) (x : AV) : Option AV :=
  match op, x with
  | .neg, .int k n => some (.int k (k.wrap (0 - n)))
  | .xor, .int k n => some (.int k (aBits .xor k (if k.signed then -1 else k.max) n))
  | .not, .bool b => some (.bool (!b))
  | _, _ => none

/-- The bytes of a row of byte cells. -/
def bytesOf : List (List AV) → Option (List UInt8)
  | [] => some []
  | [.int .u8 n] :: r => (bytesOf r).map (UInt8.ofNat n.toNat :: ·)
  | _ => none

def aConv (P : Program) (src dst : TypeId) (x : AV) : Option AV :=
  match P.underlying src, P.underlying dst, x with
  | some _, some (.int k), .int _ n => some (.int k (k.wrap n))
  | some _, some .string, .str s => some (.str s)
  | some (.slice e), some .string, .sl es _ =>
    match P.underlying e with
    | some (.int .u8) => (bytesOf es).map .str
    | _ => none
  | _, _, _ => none

def bnd (n y : Int) : Bool := decide (0 ≤ n) && decide (n ≤ y)

/-- What the bounds of a slice read as. -/
def loOf : Option AV → Option Int
  | none => some 0
  | some (.int _ n) => some n
  | _ => none
def hiOf (len : Int) : Option AV → Option Int
  | none => some len
  | some (.int _ n) => some n
  | _ => none

/-- The bounds, if they fit. -/
def bnds (len : Nat) (lo hi : Option AV) : Option (Nat × Nat) :=
  match loOf lo, hiOf len hi with
  | some l, some h => if bnd h len && bnd l h then some (l.toNat, h.toNat) else none
  | _, _ => none

def aSlice (P : Program) (t : TypeId) (x : AV) (lo hi mx : Option AV) : Option AV :=
  match P.underlying t, x with
  | some .string, .str s => match mx with
    | none => (bnds s.length lo hi).map fun x => .str ((s.drop x.1).take (x.2 - x.1))
    | some _ => none
  | some (.slice e), .sl es o =>
    match layOf P e with
    | some L =>
      if lenOk L.size es then
        match mx with
        | none => (bnds es.length lo hi).map fun x => .sl ((es.drop x.1).take (x.2 - x.1)) (if o = .unk then .unk else .frs)
        | some (.int _ m) => match lo, hi with
          | none, some (.int _ h) => if m = 0 ∧ h = 0 then some (.sl [] .full) else none
          | _, _ => none
        | _ => none
      else none
    | none => none
  | _, _ => none

def aLen (P : Program) (t : TypeId) (x : AV) : Option AV :=
  match P.underlying t, x with
  | some .string, .str s => some (.int .i64 s.length)
  | some (.slice _), .sl es _ => some (.int .i64 es.length)
  | some (.slice _), .ms _ _ _ n _ => some (.int .i64 n)
  | some (.array n _), _ => some (.int .i64 n)
  | _, _ => none

def aMin : List AV → Option AV
  | [.int k a, .int k' b] => if k = k' then some (.int k (if b < a then b else a)) else none
  | _ => none
def aMax : List AV → Option AV
  | [.int k a, .int k' b] => if k = k' then some (.int k (if b > a then b else a)) else none
  | _ => none

/-- Values of one cell (when they are read as what they are). -/
def AV.okCell : AV → Bool
  | .any | .agg _ | .tup _ => false
  | _ => true

def AV.okVal : AV → Bool
  | .agg _ => true
  | a => a.okCell

/-- Fill parts into zero cells. -/
def aFill (place : Nat → Option (Nat × Nat)) (cells : List AV) : List (Nat × AV) → Option (List AV)
  | [] => some cells
  | (i, v) :: rest =>
    match place i with
    | none => none
    | some (off, size) => if v.okVal && v.cells.length == size && decide (off + v.cells.length ≤ cells.length) then aFill place (splice cells off v.cells) rest else none

inductive Plc where
  | fields (l : List (Nat × Nat))
  | elems (n : Nat)

def Plc.at : Plc → Nat → Option (Nat × Nat)
  | .fields l, i => l[i]?
  | .elems n, i => some (i * n, n)

/-- A struct's or an array's zero cells, and where its parts lie. -/
def bldOf (P : Program) (t : TypeId) : Option (List AV × Plc) :=
  match P.info? t, P.underlying t with
  | some it, some (.array _ e) =>
    match it.zero, P.info? e with
    | some z, some ie => if z.cells.toList.all Value.oneCell' then some (z.cells.toList.map av1, .elems ie.size) else none
    | _, _ => none
  | some it, some (.struct fields) =>
    match it.zero, fields.toList.mapM (fun f => (P.info? f.type).map fun i => (f.offset, i.size)) with
    | some z, some places => if z.cells.toList.all Value.oneCell' then some (z.cells.toList.map av1, .fields places) else none
    | _, _ => none
  | _, _ => none

def aBuild (P : Program) (t : TypeId) (parts : List (Nat × AV)) : Option AV :=
  match bldOf P t with
  | some (z, p) => (aFill p.at z parts).map .agg
  | none => none

def chunks (s : Nat) : Nat → List AV → List (List AV)
  | 0, _ => []
  | n + 1, l => l.take s :: chunks s n (l.drop s)

def reps (n : Nat) (l : List AV) : List AV := (List.replicate n l).flatten

/-- A literal's slice: what it holds must be without references. -/
def aBuildSlice (P : Program) (t : TypeId) (len : Nat) (parts : List (Nat × AV)) : Option AV :=
  match eltOf P t with
  | some (none, L) =>
    if len * L.size > 65536 then none else
    match aFill (fun i => some (i * L.size, L.size)) (reps len L.zero) parts with
    | some cells => if AV.rinL (fun _ _ => false) cells then some (.sl (chunks L.size len (cells.map AV.setl)) .full) else none
    | none => none
  | _ => none

/-- Is a slice that has something nil? -/
def aNil (P : Program) (op : BinOp) (t : TypeId) (x : AV) (y : Operand) : Option AV :=
  match y with
  | .const (.slice none _ _) => match P.underlying t, x with
    | some (.slice _), .sl (_ :: _) _ => match op with
      | .eql => some (.bool false)
      | .neq => some (.bool true)
      | _ => none
    | _, _ => none
  | _ => none

/-- The operations that ask nothing of the state. -/
def aPure (P : Program) (o : Oper) (ev : Operand → AV) : Option AV :=
  match o.op with
  | .move x | .assign x => some (ev x)
  | .pick c a b => match ev c with | .bool t => some (if t then ev a else ev b) | _ => none
  | .build t parts => aBuild P t (parts.toList.map fun p => (p.1, ev p.2))
  | .nilCheck x => match ev x with
    | .mp d i o => some (.mp d i o)
    | .ip cs l => some (.ip cs l)
    | .fn (.func f) a b => some (.fn (.func f) a b)
    | _ => none
  | .binOp op t x y _ => match aNil P op t (ev x) y with | some v => some v | none => aBin P op t (ev x) (ev y)
  | .unOp op _ x => aUn op (ev x)
  | .convert s d x => aConv P s d (ev x)
  | .makeInterface t x => match P.underlying t with
    | some (.interface _) => none
    | some _ => some (.ifc t (ev x))
    | none => none
  | .makeFunc fn a b => some (.fn fn (a.toList.map ev) (b.toList.map ev))
  | .fieldAddr s x f => aFieldAddr (fldOf P s f) (ev x)
  | .field t x f => aField (fldOf P t f) (ev x)
  | .indexAddr t x i => aIndexAddr (eltOf P t) (ev x) (ev i)
  | .index t x i => aIndex P t (ev x) (ev i)
  | .slice t x lo hi mx => aSlice P t (ev x) (lo.map ev) (hi.map ev) (mx.map ev)
  | .extract x i => match ev x with | .tup vs => vs[i]? | _ => none
  | .call { callee := .builtin .len, args, argTypes } => match args.toList, argTypes.toList with
    | [x], [t] => aLen P t (ev x)
    | _, _ => none
  | .call { callee := .builtin .min, args, .. } => aMin (args.toList.map ev)
  | .call { callee := .builtin .max, args, .. } => aMax (args.toList.map ev)
  | _ => none

end Go.Ab
