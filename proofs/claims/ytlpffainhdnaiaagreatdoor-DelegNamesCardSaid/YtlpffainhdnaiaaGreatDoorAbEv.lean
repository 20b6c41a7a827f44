import Derived.Test.YtlpffainhdnaiaaGreatDoorAbSound4
/- Our own machine: what each operation and each piece of code does to an environment and a state. -/
namespace Go.Ab
open Go
noncomputable section

/-- The state of a running function: the frames below, its own frame. -/
structure Mc where
  base : St
  fr : List Blk

theorem modify_last {α : Type} (l : List α) (x : α) (f : α → α) : (l ++ [x]).modify l.length f = l ++ [f x] := by
  apply List.ext_getElem?
  intro j
  rw [List.getElem?_modify]
  rcases Nat.lt_trichotomy j l.length with hl | hl | hl
  · rw [List.getElem?_append_left hl, List.getElem?_append_left hl]
    simp [show l.length ≠ j from by omega]
  · subst hl
    simp
  · rw [List.getElem?_eq_none (by simp; omega), List.getElem?_eq_none (by simp; omega)]
    simp

namespace Mc
def st (m : Mc) : St := m.base ++ [m.fr]
def D (m : Mc) : Nat := m.base.length
def blk (m : Mc) (d i : Nat) : Option Blk := if d = m.base.length then m.fr[i]? else m.base.blk d i
def upd (m : Mc) (d i : Nat) (k : Blk) : Mc := if d = m.base.length then { m with fr := m.fr.set i k } else { m with base := m.base.upd d i k }
def push (m : Mc) (k : Blk) : Mc := { m with fr := m.fr ++ [k] }

theorem st_blk (m : Mc) (d i : Nat) : m.st.blk d i = m.blk d i := by
  unfold St.blk st blk
  by_cases h : d = m.base.length
  · subst h; simp
  · rw [if_neg h]
    rcases Nat.lt_or_ge d m.base.length with hl | hl
    · rw [List.getElem?_append_left hl]; rfl
    · have h1 : (m.base ++ [m.fr])[d]? = none := List.getElem?_eq_none (by simp; omega)
      have h2 : m.base[d]? = none := List.getElem?_eq_none hl
      simp [St.blk, h1, h2]

theorem st_upd (m : Mc) (d i : Nat) (k : Blk) : (m.upd d i k).st = m.st.upd d i k := by
  unfold upd st St.upd
  by_cases h : d = m.base.length
  · subst h; simp [modify_last]
  · rw [if_neg h]
    simp only
    apply List.ext_getElem?
    intro j
    rw [List.getElem?_modify]
    rcases Nat.lt_trichotomy j m.base.length with hl | hl | hl
    · rw [List.getElem?_append_left (by rw [List.length_modify]; exact hl), List.getElem?_append_left hl]
      simp [List.getElem?_modify]
    · subst hl
      rw [List.getElem?_append_right (by rw [List.length_modify]; exact Nat.le_refl _), List.getElem?_append_right (Nat.le_refl _), List.length_modify]
      simp [h]
    · rw [List.getElem?_eq_none (by simp; omega), List.getElem?_eq_none (l := m.base ++ [m.fr]) (by simp; omega)]
      simp

theorem st_push (m : Mc) (k : Blk) : (m.push k).st = m.st.push m.D k := by
  unfold push st St.push D
  simp [modify_last]

theorem st_len (m : Mc) : m.st.len m.D = m.fr.length := by simp [St.len, st, D]
theorem st_length (m : Mc) : m.st.length = m.base.length + 1 := by simp [st]
end Mc

abbrev Env := List (Nat × Tag × AV)

namespace Env
noncomputable def get (e : Env) (r : Nat) : Tag × AV := List.rec (.no, .any) (fun x _ ih => Bool.rec ih x.2 (Nat.beq x.1 r)) e
noncomputable def put (e : Env) (r : Nat) (x : Tag × AV) : Env := List.rec [(r, x)] (fun y t ih => Bool.rec (y :: ih) ((y.1, x) :: t) (Nat.beq y.1 r)) e
theorem get_def (e : Env) (r : Nat) : e.get r = (e.lookup r).getD (.no, .any) := by
  induction e with
  | nil => rfl
  | cons x e ih =>
    show (Bool.rec (Env.get e r) x.2 (Nat.beq x.1 r) : Tag × AV) = _
    obtain ⟨q, y⟩ := x
    simp only [List.lookup_cons]
    by_cases h : q = r
    · subst h; simp [Nat.beq_refl]
    · have h1 : Nat.beq q r = false := by cases hb : Nat.beq q r with | true => exact absurd (Nat.eq_of_beq_eq_true hb) h | false => rfl
      have h2 : (r == q) = false := by simp; exact fun h' => h h'.symm
      rw [h1, h2]
      exact ih
theorem put_nil (r : Nat) (x : Tag × AV) : Env.put [] r x = [(r, x)] := rfl
theorem put_cons (r' : Nat) (y : Tag × AV) (e : Env) (r : Nat) (x : Tag × AV) : Env.put ((r', y) :: e) r x = if r = r' then (r', x) :: e else (r', y) :: put e r x := by
  show (Bool.rec ((r', y) :: put e r x) ((r', x) :: e) (Nat.beq r' r) : Env) = _
  by_cases h : r = r'
  · subst h; simp [Nat.beq_refl]
  · have h1 : Nat.beq r' r = false := by cases hb : Nat.beq r' r with | true => exact absurd (Nat.eq_of_beq_eq_true hb).symm h | false => rfl
    rw [h1, if_neg h]
def set (e : Env) (o : Option Nat) (x : Tag × AV) : Env := match o with | none => e | some r => e.put r x
end Env

/-- What becomes of the tags of the other registers. -/
inductive Dr where
  | keep
  | one (k : Cls)
  | two (k k' : Cls)
  | calm
  | bare

def Dr.tag : Dr → Tag → Tag
  | .keep, t => t
  | .one k, t => t.drop k
  | .two k k', t => (t.drop k).drop k'
  | .calm, t => match t.of with | some (.cel _ _ _) => .no | _ => t
  | .bare, _ => .no

def Env.dr (e : Env) : Dr → Env
  | .keep => e
  | .one k => e.map fun x => (x.1, x.2.1.drop k, x.2.2)
  | .two k k' => e.map fun x => (x.1, (x.2.1.drop k).drop k', x.2.2)
  | .calm => e.map fun x => (x.1, Dr.calm.tag x.2.1, x.2.2)
  | .bare => e.map fun x => (x.1, .no, x.2.2)

def opv (G : Nat → AV) (e : Env) : Operand → AV
  | .tmp t => (e.get t).2
  | .const v => av0 v
  | .global g => G g
  | .func f => .fn (.func f) [] []

def opt (e : Env) : Operand → Tag
  | .tmp t => (e.get t).1
  | _ => .no

/-- The tag that an operation's value has. -/
def tagOf (ev : Operand → AV) (et : Operand → Tag) (o : Oper) : Tag :=
  match o.op with
  | .move x | .assign x => et x
  | .pick c a b => match ev c with | .bool t => if t then et a else et b | _ => .no
  | _ => .no

/-- The tag that a cell's content has: the cell's own class alone. -/
def Tag.here (d i off : Nat) (t : Tag) : Tag := if t.of = some (.cel d i off) then t else .no

def aLoad (P : Program) (m : Mc) (T : TypeId) (x : AV) : Option (Tag × AV) :=
  match layOf P T, x with
  | some L, .mp d i off =>
    match m.blk d i with
    | some (.cells cs ts) => if off + L.size ≤ cs.length then (if L.agg then some (.no, .agg ((cs.drop off).take L.size)) else (cs[off]?).map fun c => (Tag.here d i off (tagAt ts off), c)) else none
    | _ => none
  | some L, .ip cs _ => if L.size ≤ cs.length then (mkVal L.agg (cs.take L.size)).map fun c => (.no, c) else none
  | _, _ => none

/-- A tag with another class. -/
def Tag.re (k : Cls) : Tag → Tag
  | .no => .no
  | .cls _ => .cls k
  | .cap _ s => .cap k s

def AV.isAgg : AV → Bool
  | .agg _ => true
  | _ => false

def aStore (P : Program) (m : Mc) (T : TypeId) (x v : AV) (vt : Tag) : Option (Dr × Mc) :=
  match layOf P T, x with
  | some L, .mp d i off =>
    match m.blk d i with
    | some (.cells cs ts) =>
      if v.okVal && v.cells.length == L.size && decide (off + L.size ≤ cs.length) && (d == m.base.length || AV.rin (hyg d) v) then
        let cs' := splice cs off v.cells
        if L.agg || v.isAgg then some (.keep, m.upd d i (.cells cs' (tsDel ts fun j => decide (off ≤ j) && decide (j < off + L.size)))) else
        match vt.of with
        | some (.reg r q) => some (.two (.reg r q) (.cel d i off), m.upd d i (.cells cs' (tsSet ts off (vt.re (.cel d i off)))))
        | some (.cel d' i' off') => if d' = d ∧ i' = i ∧ off' = off then some (.keep, m.upd d i (.cells cs' (tsSet ts off vt))) else some (.keep, m.upd d i (.cells cs' (tsSet ts off .no)))
        | none => some (.keep, m.upd d i (.cells cs' (tsSet ts off .no)))
      else none
    | _ => none
  | _, _ => none

def aBox (m : Mc) (v : AV) : Option (AV × Mc) := if v.okVal then some (.mp m.D m.fr.length 0, m.push (.cells v.cells [])) else none

def aAlloc (P : Program) (m : Mc) (T : TypeId) : Option (AV × Mc) :=
  match layOf P T with
  | some L => some (.mp m.D m.fr.length 0, m.push (.cells L.zero []))
  | none => none

/-- The elements that append adds. -/
def newOf (n : Nat) : AV → Option (List (List AV))
  | .sl es _ => if lenOk n es then some es else none
  | .str s => if n = 1 then some (s.map fun b => [.int .u8 b.toNat]) else none
  | _ => none

def dropCell (m : Mc) : Cls → Option Mc
  | .reg _ _ => some m
  | .cel d i j => match m.blk d i with
    | some (.cells cs ts) => some (m.upd d i (.cells cs (tsDel ts (· == j))))
    | _ => none

/-- The tag that append's slice has. -/
def tagApp (D n : Nat) (dst : Option Nat) (o : Own) : Tag → Option Tag
  | .no => if o = .full then dst.map fun r => .cls (.reg D r) else none
  | .cls k => some (.cls k)
  | .cap k s => if s = n then some (.cap k s) else none

/-- Does the second argument fit its type? -/
def appTy (y : AV) (ud : TypeDesc) : Bool :=
  match y, ud with
  | .sl _ _, .slice _ => true
  | .str _, .string => true
  | _, _ => false

def aAppend (P : Program) (m : Mc) (dst : Option Nat) (T U : TypeId) (x y : AV) (xt : Tag) : Option ((Tag × AV) × Dr × Mc) :=
  match eltOf P T, x, P.underlying U with
  | some (none, L), .sl es o, some ud =>
    match newOf L.size y, tagApp m.D L.size dst o xt with
    | some new, some t =>
      if lenOk L.size es && decide ((es.length + new.length) * L.bytes ≤ 70368744177664) && decide (0 < L.size) && decide (0 < L.bytes) && appTy y ud && decide (o ≠ .unk) then
        match t.of with
        | some k => (dropCell m k).map fun m' => ((t, .sl (es ++ new) .frs), .one k, m')
        | none => none
      else none
    | _, _ => none
  | _, _, _ => none

def bytesCells (s : List UInt8) : List AV := s.map fun b => .int .u8 b.toNat

/-- 'copy' of a string into bytes. -/
def aCopy (P : Program) (m : Mc) (T : TypeId) (x y : AV) : Option (AV × Mc) :=
  match eltOf P T, x, y with
  | some (none, L), .ms d i off len _, .str s =>
    match m.blk d i with
    | some (.cells cs []) => if L.size = 1 ∧ off + len ≤ cs.length then some (.int .i64 ((min s.length len : Nat) : Int), m.upd d i (.cells (splice cs off ((bytesCells s).take len)) [])) else none
    | _ => none
  | _, _, _ => none

def aMakeSlice (P : Program) (m : Mc) (T : TypeId) (dst : Option Nat) (l c : AV) : Option ((Tag × AV) × Mc) :=
  match eltOf P T, l, c with
  | some (none, L), .int _ l, .int _ c =>
    if 0 ≤ l ∧ l ≤ c ∧ c * L.bytes ≤ 70368744177664 ∧ c ≤ 4611686018427387904 ∧ L.zero.length = L.size then
      if l = 0 then dst.map fun r => ((.cap (.reg m.D r) L.size, .sl [] .frs), m)
      else some ((.no, .ms m.D m.fr.length 0 l.toNat L.size), m.push (.cells (reps c.toNat L.zero) []))
    else none
  | _, _, _ => none

def mapTy (P : Program) (t : TypeId) : Bool :=
  match P.underlying t with
  | some (.map k e) => (match P.underlying k with | some .string => true | _ => false) && (match (P.info? e).bind (·.zero) with | some (.int .i64 n) => n == 0 | _ => false)
  | _ => false

def mapOf (m : Mc) : AV → Option (List (List UInt8 × Int))
  | .nmap => some []
  | .map d i => match m.blk d i with | some (.map l) => some l | _ => none
  | _ => none

def aLookup (P : Program) (m : Mc) (t : TypeId) (x k : AV) (ok : Bool) : Option AV :=
  if !mapTy P t then none else
  match mapOf m x, k with
  | some l, .str s => some (if ok then .tup [.int .i64 ((l.lookup s).getD 0), .bool (l.lookup s).isSome] else .int .i64 ((l.lookup s).getD 0))
  | _, _ => none

def mapPut : List (List UInt8 × Int) → List UInt8 → Int → List (List UInt8 × Int)
  | [], k, v => [(k, v)]
  | (k', v') :: l, k, v => if k = k' then (k, v) :: l else (k', v') :: mapPut l k v

def aMapUpdate (P : Program) (m : Mc) (t : TypeId) (x k v : AV) : Option Mc :=
  if !mapTy P t then none else
  match x, k, v with
  | .map d i, .str s, .int .i64 n => match m.blk d i with | some (.map l) => some (m.upd d i (.map (mapPut l s n))) | _ => none
  | _, _, _ => none

def aRange (P : Program) (m : Mc) (t : TypeId) (x : AV) : Option (AV × Mc) :=
  match P.underlying t, x with
  | some .string, .str s => some (.itr m.D m.fr.length, m.push (.iter s 0))
  | _, _ => none

def aNext (m : Mc) (x : AV) : Option (AV × Mc) :=
  match x with
  | .itr d i => match m.blk d i with
    | some (.iter s p) =>
      if p < s.length then
        let r := Utf8.decode ⟨s.toArray⟩ p
        some (.tup [.bool true, .int .i64 p, .int .i32 r.1], m.upd d i (.iter s (p + r.2)))
      else some (.tup [.bool false], m)
    | _ => none
  | _ => none

/-- The bytes of made slices: 'string(b)'. -/
def aConvMs (P : Program) (m : Mc) (s d : TypeId) (x : AV) : Option AV :=
  match P.underlying s, P.underlying d, x with
  | some (.slice e), some .string, .ms dd i off len _ =>
    match P.underlying e, m.blk dd i with
    | some (.int .u8), some (.cells cs _) => if off + len ≤ cs.length then (bytesOf (((cs.drop off).take len).map fun c => [c])).map .str else none
    | _, _ => none
  | _, _, _ => none

/-- The code points of a string, a cell each. -/
def runesAV (s : List UInt8) : List (List AV) := (Conv.runesFrom ⟨s.toArray⟩ s.length 0 #[]).toList.map fun v => [av1 v]

/-- '[]rune(s)'. -/
def aConvNew (P : Program) (s d : TypeId) (x : AV) : Option AV :=
  match P.underlying s, P.underlying d, x with
  | some .string, some (.slice e), .str b =>
    match P.underlying e with
    | some (.int .i32) => if (runesAV b).length ≤ 70368744177664 then some (.sl (runesAV b) .frs) else none
    | _ => none
  | _, _, _ => none

/-- What a call's arguments are: the function, and what it gets. -/
def aCallee (ev : Operand → AV) (f : Operand) (args : List Operand) : Option (FuncId × List AV) :=
  match ev f with
  | .fn (.func g) a b => some (g, a ++ args.map ev ++ b)
  | _ => none

/-- What is full bears the holder's class (at a loop's head). -/
def normTA (k : Cls) (x : Tag × AV) : Tag × AV :=
  match x with
  | (.no, .sl es .full) => (.cls k, .sl es .frs)
  | x => x
def Env.norm (D : Nat) (e : Env) : Env := e.map fun x => (x.1, normTA (.reg D x.1) x.2)

def normCells (d i : Nat) : Nat → List AV → List (Nat × Tag) → List AV × List (Nat × Tag)
  | _, [], ts => ([], ts)
  | j, c :: cs, ts =>
    let r := normCells d i (j + 1) cs ts
    match c, tagAt ts j with
    | .sl es .full, .no => (.sl es .frs :: r.1, tsSet r.2 j (.cls (.cel d i j)))
    | c, _ => (c :: r.1, r.2)
def normBlk (d i : Nat) : Blk → Blk
  | .cells cs ts => let r := normCells d i 0 cs ts; .cells r.1 r.2
  | b => b
def normFr (d : Nat) : Nat → List Blk → List Blk
  | _, [] => []
  | i, b :: l => normBlk d i b :: normFr d (i + 1) l
def Mc.norm (m : Mc) : Mc := { m with fr := normFr m.D 0 m.fr }

/-- A piece of an array in memory. -/
def aSliceArr (P : Program) (m : Mc) (t : TypeId) (x : AV) (lo hi : Option AV) : Option AV :=
  match P.underlying t, x with
  | some (.array n _), .mp d i off =>
    match eltOf P t, m.blk d i with
    | some (some _, L), some (.cells cs _) => if off + n * L.size ≤ cs.length then (bnds n lo hi).bind fun x => if x.1 < n then some (.ms d i (off + x.1 * L.size) (x.2 - x.1) L.size) else none else none
    | _, _ => none
  | _, _ => none

/-- An operation that asks something of the state. -/
def aEff (P : Program) (ev : Operand → AV) (et : Operand → Tag) (m : Mc) (o : Oper) : Option ((Tag × AV) × Dr × Mc) :=
  match o.op with
  | .buildSlice t len parts => (aBuildSlice P t len (parts.toList.map fun p => (p.1, ev p.2))).map fun v => ((.no, v), .keep, m)
  | .alloc T => (aAlloc P m T).map fun r => ((.no, r.1), .keep, r.2)
  | .box _ x => (aBox m (ev x)).map fun r => ((.no, r.1), .keep, r.2)
  | .load T x => (aLoad P m T (ev x)).map fun r => (r, .keep, m)
  | .store T x v => (aStore P m T (ev x) (ev v) (et v)).map fun r => ((.no, .any), r.1, r.2)
  | .makeMap t none => match P.underlying t with | some _ => some ((.no, .map m.D m.fr.length), .keep, m.push (.map [])) | none => none
  | .makeSlice t l c => (aMakeSlice P m t o.dst (ev l) (ev c)).map fun r => (r.1, (match r.1.1.of with | some k => .one k | none => .keep), r.2)
  | .lookup t x k ok => (aLookup P m t (ev x) (ev k) ok).map fun v => ((.no, v), .keep, m)
  | .mapUpdate t x k v => (aMapUpdate P m t (ev x) (ev k) (ev v)).map fun m' => ((.no, .any), .keep, m')
  | .range t x => (aRange P m t (ev x)).map fun r => ((.no, r.1), .keep, r.2)
  | .next x true => (aNext m (ev x)).map fun r => ((.no, r.1), .keep, r.2)
  | .slice t x lo hi none => (aSliceArr P m t (ev x) (lo.map ev) (hi.map ev)).map fun v => ((.no, v), .keep, m)
  | .convert s d x => (match aConvNew P s d (ev x) with | some v => some v | none => aConvMs P m s d (ev x)).map fun v => ((.no, v), .keep, m)
  | .call { callee := .builtin .append, args, argTypes } => match args.toList, argTypes.toList with
    | [x, y], [T, U] => aAppend P m o.dst T U (ev x) (ev y) (et x)
    | _, _ => none
  | .call { callee := .builtin .copy, args, argTypes } => match args.toList, argTypes.toList with
    | [x, y], [T, _] => (aCopy P m T (ev x) (ev y)).map fun r => ((.no, r.1), .keep, r.2)
    | _, _ => none
  | _ => none

/-- An operation that is no call of a function: value, what becomes of the other registers' tags, state. -/
def aOp (P : Program) (ev : Operand → AV) (et : Operand → Tag) (m : Mc) (o : Oper) : Option ((Tag × AV) × Dr × Mc) :=
  match aPure P o ev with
  | some v => some ((tagOf ev et o, v), .keep, m)
  | none => aEff P ev et m o

end
end Go.Ab
