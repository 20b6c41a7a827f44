import Derived.Test.YtlpffainhdnaiaaGreatDoorAbVec
import Derived.Test.YtlpffainhdnaiaaGreatDoorAbBeq
import Derived.LoopN
import Derived.Orders
/- Calls, regions, code: our own machine runs whole functions. -/
namespace Go.Ab
open Go
noncomputable section

/-- What the machine is told: the program, the globals' readings, functions that are proved by hand, functions that run in their caller's frame. -/
structure Cfg where
  P : Program
  G : Nat → AV
  sp : FuncId → List AV → St → Option (Option (AV × St))
  inl : Oper → FuncId → Bool
  vec : Oper → Bool
  imm : Oper → Bool
  wri : Oper → Bool
  live : Nat → Nat → String → Option (List Nat)
  all : Nat → Nat → String → Bool

/-- A function's body, from a base and a frame. -/
abbrev Body := FuncId → List AV → St → List Blk → Option (AV × St × List Blk)

def splitLast : St → Option (St × List Blk)
  | [] => none
  | [x] => some ([], x)
  | x :: y :: l => (splitLast (y :: l)).map fun r => (x :: r.1, r.2)

def Cfg.run (c : Cfg) (body : Body) (g : FuncId) (as : List AV) (S : St) : Option (AV × St) :=
  match c.sp g as S with
  | some x => x
  | none => (body g as S []).bind fun r => if AV.rin (fun d _ => decide (d < S.length)) r.1 then some (r.1, r.2.1) else none

def Cfg.iso (c : Cfg) (body : Body) (m : Mc) (g : FuncId) (as : List AV) : Option (AV × Dr × Mc) :=
  (c.run body g as []).bind fun r => if r.2.isEmpty && r.1.nref then some (r.1, .keep, m) else none

def Cfg.call (c : Cfg) (body : Body) (il : Bool) (m : Mc) (g : FuncId) (as : List AV) : Option (AV × Dr × Mc) :=
  if il then
    match c.sp g as m.norm.st with
    | some x => x.bind fun r => (splitLast r.2).map fun s => (r.1, .calm, ⟨s.1, s.2⟩)
    | none => (body g as m.base m.fr).map fun r => (r.1, .bare, ⟨r.2.1, r.2.2⟩)
  else if AV.rinL (fun _ _ => false) as then c.iso body m g as
  else (c.run body g as m.norm.st).bind fun r => (splitLast r.2).map fun s => (r.1, .calm, ⟨s.1, s.2⟩)

/-- The function behind a method of a value that is no pointer (no promotion). -/
def methodOf (P : Program) (t : TypeId) (name : String) : Option FuncId :=
  match P.info? t, P.underlying t with
  | some i, some d =>
    match i.methods.find? (·.name == name) with
    | some { path := ⟨[]⟩, func := some (f, false), .. } => match d with | .pointer _ => none | _ => some f
    | _ => none
  | _, _ => none

/-- One operation. -/
def Cfg.op (c : Cfg) (body : Body) (ev : Operand → AV) (et : Operand → Tag) (m : Mc) (o : Oper) : Option ((Tag × AV) × Dr × Mc) :=
  match o.op with
  | .call { callee := .value f, args, .. } => (aCallee ev f args.toList).bind fun ga => (c.call body (c.inl o ga.1) m ga.1 ga.2).map fun r => ((.no, r.1), r.2.1, r.2.2)
  | .call { callee := .invoke r name, args, .. } => match ev r with
    | .ifc t a => (methodOf c.P t name).bind fun g => (c.call body (c.inl o g) m g (a :: args.toList.map ev)).map fun r => ((.no, r.1), r.2.1, r.2.2)
    | _ => none
  | .call { callee := .builtin .append, args, argTypes } => match args.toList, argTypes.toList with
    | [x, y], [T, U] => if c.vec o then (aAppendV c.P m T U (ev x) (ev y)).map fun r => ((.no, r.1), .keep, r.2) else aOp c.P ev et m o
    | _, _ => none
  | .makeSlice t l k => match (if c.imm o then aMakeImm c.P t (ev l) (ev k) else none) with | some v => some ((.no, v), .keep, m) | none => aOp c.P ev et m o
  | .buildSlice t len parts => if c.wri o then (aBuildMut c.P m t len (parts.toList.map fun p => (p.1, ev p.2))).map fun r => ((.no, r.1), .keep, r.2) else aOp c.P ev et m o
  | _ => aOp c.P ev et m o

def wantedA (ops : Array Oper) (e : Env) (o : Oper) : Option Bool :=
  match o.guard with
  | none => some true
  | some (j, want) => match (ops[j]?).bind (·.dst) with
    | some r => match (e.get r).2 with | .bool b => some (b == want) | _ => none
    | none => none

def dstOk (N : Nat) (o : Oper) : Bool := match o.dst with | none => true | some r => decide (r < N)

/-- One operation with its guard and its register, done by f. -/
def stepBy (f : (Operand → AV) → (Operand → Tag) → Mc → Oper → Option ((Tag × AV) × Dr × Mc)) (G : Nat → AV) (N : Nat) (ops : Array Oper) (o : Oper) (e : Env) (m : Mc) : Option (Env × Mc) :=
  if dstOk N o then
    match wantedA ops e o with
    | some g => if g then (f (opv G e) (opt e) m o).map fun r => ((e.dr r.2.1).set o.dst r.1, r.2.2) else some (e.set o.dst (.no, .any), m)
    | none => none
  else none

def Cfg.ops (c : Cfg) (body : Body) (N : Nat) (ops : Array Oper) : List Oper → Env → Mc → Option (Env × Mc)
  | [], e, m => some (e, m)
  | o :: os, e, m => (stepBy (c.op body) c.G N ops o e m).bind fun r => c.ops body N ops os r.1 r.2

/-- Regions whose order is open. -/
def isAlloc : Oper → Bool
  | { op := .alloc _, .. } => true
  | _ => false

/-- Which earlier operations must have been done. -/
def opKind (o : Oper) : Nat :=
  match o.op with
  | .load .. => 1
  | .call { callee := .builtin .append, .. } => 2
  | .call { callee := .value _, .. } => 3
  | .store .. | .mapUpdate .. | .next .. | .range .. | .lookup .. | .makeMap .. | .makeSlice .. | .box .. => 4
  | .call { callee := .builtin .copy, .. } => 4
  | _ => 0

def namesOf (ops : Array Oper) (o : Oper) : List Tmp :=
  o.op.operands.toList.filterMap (fun | .tmp t => some t | _ => none) ++ (match o.guard with | some (j, _) => ((ops[j]?).bind (·.dst)).toList | none => [])

/-- A store into a variable that the region itself makes. -/
def isOwnStore (ops : Array Oper) (o : Oper) : Bool :=
  match o.op with
  | .store _ (.tmp t) _ => ops.any fun q => isAlloc q && q.dst == some t
  | _ => false

/-- Two operations of which neither waits for the other may be done in either order. -/
def pairOk (ops : Array Oper) (a b : Oper) : Bool :=
  (a.dst.toList.all fun t => !(namesOf ops b).contains t && !(b.dst.toList.contains t)) && (b.dst.toList.all fun t => !(namesOf ops a).contains t) &&
  (opKind a == 0 || opKind b == 0 || (opKind a == 1 && opKind b ≤ 3) || (opKind b == 1 && opKind a ≤ 3) || (opKind a == 1 && isOwnStore ops b) || (opKind b == 1 && isOwnStore ops a))

def okDraw (ops : Array Oper) : Bool :=
  let b := Region.before ops
  (ops.toList.zipIdx.all fun (o, i) => (o.after.toList.all fun e => !Region.binds .any e || decide (e.on < i)) && (!isAlloc o || o.guard.isNone) && (match o.op with | .select .. => false | _ => true)) &&
  ops.toList.zipIdx.all fun (p, j) => ops.toList.zipIdx.all fun (q, i) => !(decide (i < j)) || (b.getD j 0).testBit i || pairOk ops q p

/-- May this call hand references on? Then all that looks at the state must be ordered with it. -/
def refOk (ops : Array Oper) (p : Nat) : Bool :=
  let b := Region.before ops
  ops.toList.zipIdx.all fun (q, i) => !isAlloc q && (i == p || opKind q == 0 || (b.getD (max i p) 0).testBit (min i p))

/-- What an operation of an open region is told: the place of the region's first new variable, its own, may it hand references on, must it store into a new variable, must it read elsewhere. -/
structure DQ where
  n : Nat
  i : Nat
  ref : Bool
  own : Bool
  far : Bool
  peek : Bool

def nearPtr (D n : Nat) : AV → Bool
  | .mp d j _ => d == D && decide (n ≤ j)
  | _ => false

def ownOk (ops : Array Oper) (p : Nat) : Bool := match ops[p]? with | some o => isOwnStore ops o | none => false

def farOk (ops : Array Oper) (p : Nat) : Bool :=
  let b := Region.before ops
  ops.toList.zipIdx.any fun (q, i) => isOwnStore ops q && !(b.getD (max i p) 0).testBit (min i p)

def isAggLoad (P : Program) (o : Oper) : Bool :=
  match o.op with
  | .load T _ => (match layOf P T with | some L => L.agg | none => false)
  | _ => false

/-- May this call look at memory? Then what is loaded beside it bears no tags. -/
def peekOk (P : Program) (ops : Array Oper) (p : Nat) : Bool :=
  let b := Region.before ops
  ops.toList.zipIdx.all fun (o, i) => i == p || opKind o == 0 || isAggLoad P o || (b.getD (max i p) 0).testBit (min i p)

def dq (P : Program) (ops : Array Oper) (n i p : Nat) : DQ := ⟨n, i, refOk ops p, ownOk ops p, farOk ops p, peekOk P ops p⟩

/-- A call that looks at the state, and leaves it. -/
def Cfg.peek (c : Cfg) (body : Body) (m : Mc) (g : FuncId) (as : List AV) : Option (AV × Dr × Mc) :=
  (c.run body g as m.st).bind fun r => if sameS r.2 m.st then some (r.1, .calm, m) else none

def Cfg.opD (c : Cfg) (body : Body) (D : Nat) (q : DQ) (ev : Operand → AV) (et : Operand → Tag) (m : Mc) (o : Oper) : Option ((Tag × AV) × Dr × Mc) :=
  match o.op with
  | .alloc T => match layOf c.P T with | some _ => some ((.no, .mp D q.i 0), .keep, m) | none => none
  | .load T x => if q.far && nearPtr D q.n (ev x) then none else (aLoad c.P m T (ev x)).map fun r => (r, .keep, m)
  | .store _ x _ => if q.own && !nearPtr D q.n (ev x) then none else aEff c.P ev et m o
  | .makeSlice _ _ _ => if c.imm o then none else aEff c.P ev et m o
  | .buildSlice t len parts => if c.wri o then none else (aBuildSlice c.P t len (parts.toList.map fun p => (p.1, ev p.2))).map fun v => ((.no, v), .keep, m)
  | .call { callee := .builtin .append, argTypes, .. } => match argTypes.toList with
    | [_, _] => if c.vec o then none else aEff c.P ev et m o
    | _ => none
  | .call { callee := .value f, args, .. } => (aCallee ev f args.toList).bind fun ga =>
    if q.ref then (c.call body (c.inl o ga.1) m ga.1 ga.2).map fun r => ((.no, r.1), r.2.1, r.2.2)
    else if c.inl o ga.1 then none
    else if AV.rinL (fun _ _ => false) ga.2 then (c.iso body m ga.1 ga.2).map fun r => ((.no, r.1), r.2.1, r.2.2)
    else if q.peek then (c.peek body m ga.1 ga.2).map fun r => ((.no, r.1), r.2.1, r.2.2) else none
  | _ => if opKind o == 0 then (aPure c.P o ev).map fun v => ((tagOf ev et o, v), .keep, m) else aEff c.P ev et m o

/-- The new variables of an open region: pushed at its start. -/
def zerosOf (P : Program) : List Oper → Option (List Blk)
  | [] => some []
  | o :: os => match o.op with
    | .alloc T => match layOf P T with | some L => (zerosOf P os).map (.cells L.zero [] :: ·) | none => none
    | _ => zerosOf P os

def Cfg.draws (c : Cfg) (body : Body) (D n N : Nat) (ops : Array Oper) : List Oper → Nat → Nat → Env → Mc → Option (Env × Mc)
  | [], _, _, e, m => some (e, m)
  | o :: os, p, i, e, m => (stepBy (c.opD body D (dq c.P ops n i p)) c.G N ops o e m).bind fun r => c.draws body D n N ops os (p + 1) (if isAlloc o then i + 1 else i) r.1 r.2

/-- An open region without new variables. -/
def simpleDraw (ops : Array Oper) : Bool := okDraw ops && ops.toList.all fun o => !isAlloc o && !isOwnStore ops o

def q0 : DQ := ⟨0, 0, false, false, false, false⟩

/-- Such a region, row by row: calls of functions in isolation alone. -/
def Cfg.opsI (c : Cfg) (body : Body) (N : Nat) (ops : Array Oper) : List Oper → Env → Mc → Option (Env × Mc)
  | [], e, m => some (e, m)
  | o :: os, e, m => (stepBy (c.opD body 0 q0) c.G N ops o e m).bind fun r => c.opsI body N ops os r.1 r.2

inductive Oc where
  | next
  | exit (id : Nat)
  | goto (l : Nat)
  | ret

abbrev Res := Oc × Env × Mc

/-- At a loop's head again: what was made in the round is dropped. -/
def truncOk (D n : Nat) (e : Env) (fr : List Blk) : Bool :=
  (e.all fun x => AV.rin (fun d i => !(d == D && decide (n ≤ i))) x.2.2) && ((fr.take n).all fun b => match b with | .cells cs _ => AV.rinL (fun d i => !(d == D && decide (n ≤ i))) cs | _ => true)

def trunc (n : Nat) (e : Env) (m : Mc) : Option Mc :=
  if m.fr.length ≤ n then some m
  else if truncOk m.D n e m.fr then some { m with fr := m.fr.take n } else some m

/-- Where a piece of code begins. -/
def headKey : Code → Nat × String
  | .region id ops _ => (id, match ops[0]? with | some o => o.pos | none => "")
  | .seq a _ => headKey a
  | .block _ b => headKey b
  | _ => (0, "")

/-- The registers that a loop needs. -/
def Env.only (e : Env) : Option (List Nat) → Env
  | none => e
  | some ks => ks.map fun r => (r, e.get r)

def Cfg.hd (c : Cfg) (N : Nat) (b : Code) : Option (List Nat) :=
  match c.live N (headKey b).1 (headKey b).2 with
  | some ks => if ks.all fun r => decide (r < N) then some ks else none
  | none => none

/-- Rounds of a loop, at most k. -/
def loopN (ks : Option (List Nat)) (f : Env → Mc → Option Res) : Nat → Env → Mc → Option Res
  | 0, _, _ => none
  | k + 1, e, m => (f ((e.only ks).norm m.D) m.norm).bind fun r =>
    match r.1 with
    | .next => (trunc m.fr.length (r.2.1.only ks) r.2.2).bind fun m' => loopN ks f k (r.2.1.only ks) m'
    | _ => some r

/-- A scope: what it runs, and again from a label, at most k times. -/
def scopeN (f : Code → Env → Mc → Option Res) (body : Code) : Nat → Code → Env → Mc → Option Res
  | 0, _, _, _ => none
  | k + 1, b, e, m => (f b e m).bind fun r =>
    match r.1 with
    | .goto l => (findLabel body l).bind fun rest => scopeN f body k rest (r.2.1.norm r.2.2.D) r.2.2.norm
    | _ => some r

/-- The end of a block. -/
def exitR (id : Nat) (r : Res) : Res :=
  match r.1 with
  | .exit id' => if id' = id then (.next, r.2) else r
  | _ => r

def resultsA (P : Program) (e : Env) (m : Mc) : List ResultVar → Option (List AV)
  | [] => some []
  | .tmp t :: l => (resultsA P e m l).map ((e.get t).2 :: ·)
  | .cell a T :: l => (aLoad P m T (e.get a).2).bind fun x => (resultsA P e m l).map (x.2 :: ·)

def packR : List AV → AV
  | [v] => v
  | l => .tup l

def initEnv : Nat → List AV → Env
  | _, [] => []
  | i, a :: as => (i, .no, a) :: initEnv (i + 1) as

/-- A piece of code (fuel for the nesting, the rounds and the calls). -/
def Cfg.ev (c : Cfg) : Nat → Nat → Code → Env → Mc → Option Res
  | 0, _, _, _, _ => none
  | n + 1, N, code, e, m =>
    let body : Body := fun g as base fr =>
      (c.P.funcs[g]?).bind fun fn => fn.body.bind fun b => (c.ev n fn.ntmps b (initEnv 0 as) ⟨base, fr⟩).bind fun r =>
        match r.1 with
        | .exit _ | .goto _ => none
        | _ => (resultsA c.P r.2.1 r.2.2 fn.results.toList).map fun l => (packR l, r.2.2.base, r.2.2.fr)
    match code with
    | .skip | .label _ => some (.next, e, m)
    | .region _ ops false => (c.ops body N ops ops.toList e m).map fun r => (.next, r.1, r.2)
    | .region id ops true => if c.all N id (headKey (.region id ops true)).2 = false then (if simpleDraw ops then (c.opsI body N ops ops.toList e m).map fun r => (.next, r.1, r.2) else none) else if okDraw ops then (zerosOf c.P ops.toList).bind fun zs => (c.draws body m.D m.fr.length N ops ops.toList 0 m.fr.length e { m with fr := m.fr ++ zs }).map fun r => (.next, r.1, r.2) else none
    | .seq a b => (c.ev n N a e m).bind fun r => match r.1 with | .next => c.ev n N b r.2.1 r.2.2 | _ => some r
    | .cond x a b => match opv c.G e x with | .bool t => c.ev n N (if t then a else b) e m | _ => none
    | .block id b => (c.ev n N b e m).map (exitR id)
    | .loop b => loopN (c.hd N b) (c.ev n N b) n e m
    | .exit id => some (.exit id, e, m)
    | .goto l => some (.goto l, e, m)
    | .scope b => scopeN (fun b e m => c.ev n N b e m) b n b e m
    | .ret => some (.ret, e, m)
    | _ => none

def Cfg.body (c : Cfg) (n : Nat) : Body := fun g as base fr =>
  (c.P.funcs[g]?).bind fun fn => fn.body.bind fun b => (c.ev n fn.ntmps b (initEnv 0 as) ⟨base, fr⟩).bind fun r =>
    match r.1 with
    | .exit _ | .goto _ => none
    | _ => (resultsA c.P r.2.1 r.2.2 fn.results.toList).map fun l => (packR l, r.2.2.base, r.2.2.fr)

end
end Go.Ab
