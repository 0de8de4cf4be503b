/- A part of the proof that an evaluator of the machine's code is sound (EvDef). No conditions. -/
import Derived.Calls
import Derived.LoopN
import Derived.Orders
namespace Go.Ev

inductive Trie (α : Type) where
  | nil
  | node (v : Option α) (l r : Trie α)

def Trie.get {α : Type} : Trie α → Nat → Option α
  | .nil, _ => none
  | .node v l r, k =>
    match k with
    | 0 => v
    | j + 1 => bif Nat.beq (j % 2) 0 then l.get (j / 2) else r.get (j / 2)

def Trie.setF {α : Type} (v : Option α) : Nat → Nat → Trie α → Trie α
  | 0, _, t => t
  | f + 1, k, t =>
    match k with
    | 0 => match t with
      | .nil => .node v .nil .nil
      | .node _ l r => .node v l r
    | j + 1 => match t with
      | .nil => bif Nat.beq (j % 2) 0 then .node none (setF v f (j / 2) .nil) .nil else .node none .nil (setF v f (j / 2) .nil)
      | .node w l r => bif Nat.beq (j % 2) 0 then .node w (setF v f (j / 2) l) r else .node w l (setF v f (j / 2) r)

def Trie.set {α : Type} (t : Trie α) (k : Nat) (v : Option α) : Trie α := setF v (k + 1) k t

/-- The values of the abstract memory. -/
inductive AVal where
  | bool (b : Bool)
  | int (k : IntKind) (n : Int)
  | float (k : FloatKind) (bits : Nat)
  | str (s : List Nat)
  | ptr (a : Option (Nat × Nat))
  | slice (a : Option (Nat × Nat)) (len cap : Nat) (opn : Bool)
  | map (r : Option Nat)
  | func (fn : Fn) (first captured : List AVal)
  | nilFunc
  | iface (t : TypeId) (v : AVal)
  | nilIface
  | agg (cs : List AVal)
  | tuple (vs : List AVal)
  /-- a value of one cell that is not looked at: the slot that holds it -/
  | opq (i : Nat)
  /-- a number of which bounds are known: the slot that holds it -/
  | rng (k : IntKind) (lo hi : Int) (i : Nat)
  /-- a slice of no elements, of which no more is known -/
  | emp
  deriving Inhabited

def AVal.undef : AVal := .tuple []

def AVal.cells : AVal → List AVal
  | .agg cs => cs
  | v => [v]

def AVal.isCell : AVal → Bool
  | .agg _ | .tuple _ => false
  | _ => true

structure Entry where
  key : AVal
  val : AVal
  born : Nat

inductive AObj where
  | cells (c : List AVal) (elem : TypeId) (opn : Option Nat) (ro : Bool)
  | map (es : List Entry) (clock : Nat)
  | strIter (s : List Nat) (pos : Nat)

structure Mem where
  heap : Trie AObj
  next : Nat

def Mem.get (M : Mem) (b : Nat) : Option AObj := M.heap.get b
def Mem.put (M : Mem) (b : Nat) (o : AObj) : Mem := ⟨M.heap.set b (some o), M.next⟩
def Mem.kill (M : Mem) (b : Nat) : Mem := ⟨M.heap.set b none, M.next⟩
def Mem.add (M : Mem) (o : AObj) : Mem := ⟨M.heap.set M.next (some o), M.next + 1⟩

structure Fr where
  t : Trie AVal
  n : Nat

def Fr.get (F : Fr) (i : Nat) : AVal := match F.t.get i with
  | some v => v
  | none => .undef

def Fr.put (F : Fr) (dst : Option Nat) (v : AVal) : Fr :=
  match dst with
  | none => F
  | some d => bif Nat.blt d F.n then ⟨F.t.set d (some v), F.n⟩ else F

def Fr.ofArgs : List AVal → Nat → Fr → Fr
  | [], _, F => F
  | v :: vs, i, F => ofArgs vs (i + 1) ⟨F.t.set i (some v), F.n⟩

inductive Ext where
  | indexByte
  | count
  | f64bits | f64from | f32bits | f32from
  | add64

inductive RefOp where
  | valueOf | vType | isNil | vElem | vSet | typeOf | kind | rElem | implements | assignable

/-- the types' handles lie in block 'g'; 'rt' is reflectlite.rtype -/
structure RefT where
  g : Nat
  rt : Nat
  kinds : List (Nat × Nat)
  elems : List (Nat × Nat)
  impls : List (Nat × Nat)

def lookN : List (Nat × Nat) → Nat → Option Nat
  | [], _ => none
  | p :: l, k => bif Nat.beq p.1 k then some p.2 else lookN l k

def hasN : List (Nat × Nat) → Nat → Nat → Bool
  | [], _, _ => false
  | p :: l, a, b => (Nat.beq p.1 a && Nat.beq p.2 b) || hasN l a b

structure Env where
  ng : Nat
  info : Nat → Option TypeInfo
  fn : Nat → Option Func
  ext : Nat → Option Ext
  eqOK : Nat → Bool
  /-- functions that do nothing where they are deferred and nothing panics -/
  quiet : Nat → Bool
  /-- functions of reflectlite -/
  ref : Nat → Option RefOp
  rft : RefT

def Env.under (E : Env) (t : Nat) : Option TypeDesc :=
  match E.info t with
  | some i => match i.desc with
    | .named _ u => (E.info u).map (·.desc)
    | d => some d
  | none => none

def optMap {α β : Type} (f : α → Option β) : List α → Option (List β)
  | [] => some []
  | x :: xs => match f x with
    | none => none
    | some y => match optMap f xs with
      | none => none
      | some ys => some (y :: ys)

def ofVal : Nat → Value → Option AVal
  | 0, _ => none
  | n + 1, v =>
    match v with
    | .bool b => some (.bool b)
    | .int k i => some (.int k i)
    | .float k b => some (.float k b)
    | .string s => some (.str (s.data.toList.map UInt8.toNat))
    | .pointer none => some (.ptr none)
    | .slice none l c => some (.slice none l c false)
    | .map none => some (.map none)
    | .nilFunc => some .nilFunc
    | .nilIface => some .nilIface
    | .iface t x => (ofVal n x).map (AVal.iface t)
    | .agg cs => (optMap (ofVal n) cs.toList).map AVal.agg
    | .tuple cs => (optMap (ofVal n) cs.toList).map AVal.tuple
    | .func fn f c => match optMap (ofVal n) f.toList, optMap (ofVal n) c.toList with
      | some f', some c' => some (.func fn f' c')
      | _, _ => none
    | _ => none

def ev (E : Env) (F : Fr) : Operand → Option AVal
  | .tmp t => some (F.get t)
  | .const v => ofVal 4 v
  | .global g => bif Nat.blt g E.ng then some (.ptr (some (g, 0))) else none
  | .func f => some (.func (.func f) [] [])

def evs (E : Env) (F : Fr) (l : List Operand) : Option (List AVal) := optMap (ev E F) l

def Env.zero (E : Env) (t : Nat) : Option AVal :=
  match E.info t with
  | some i => match i.zero with
    | some v => ofVal 3 v
    | none => none
  | none => none

def Env.size (E : Env) (t : Nat) : Option Nat := (E.info t).map (·.size)
def Env.bytes (E : Env) (t : Nat) : Option Nat := (E.info t).map (·.bytes)

def isAggD : TypeDesc → Bool
  | .struct _ | .array _ _ => true
  | _ => false

def Env.fields (E : Env) (t : Nat) : Option (List Field) :=
  match E.under t with
  | some (.struct fs) => some fs.toList
  | _ => none

/-- 'part' of the model -/
def part (E : Env) (t : Nat) (cs : List AVal) (off : Nat) : Option AVal :=
  match E.under t, E.size t with
  | some d, some n =>
    bif isAggD d then (bif Nat.ble (off + n) cs.length then some (.agg ((cs.drop off).take n)) else none) else cs[off]?
  | _, _ => none

def bytesLess : List Nat → List Nat → Bool
  | _, [] => false
  | [], _ :: _ => true
  | a :: x, b :: y => Nat.blt a b || (Nat.beq a b && bytesLess x y)

def listEq : List Nat → List Nat → Bool
  | [], [] => true
  | a :: x, b :: y => Nat.beq a b && listEq x y
  | _, _ => false

def eqNil (a : Option (Nat × Nat)) : Bool := match a with | none => true | some _ => false

def eqv (E : Env) : Nat → Nat → AVal → AVal → Option Bool
  | 0, _, _, _ => none
  | d + 1, t, x, y =>
    match E.under t, x, y with
    | some .bool, .bool a, .bool b => some (a == b)
    | some (.int _), .int k a, .int k' b => if k = k' then some (a == b) else none
    | some .string, .str a, .str b => some (listEq a b)
    | some (.pointer _), .ptr none, .ptr b => some (eqNil b)
    | some (.pointer _), .ptr (some _), .ptr none => some false
    | some (.interface _), .nilIface, .nilIface => some true
    | some (.interface _), .nilIface, .iface _ _ => some false
    | some (.interface _), .iface _ _, .nilIface => some false
    | some (.slice _), .slice none _ _ _, .slice b _ _ _ => some (eqNil b)
    | some (.slice _), .slice (some _) _ _ _, .slice none _ _ _ => some false
    | some (.slice _), .emp, .slice none _ _ _ => some false
    | some (.slice _), .slice none _ _ _, .emp => some false
    | some (.map _ _), .map none, .map b => some b.isNone
    | some (.map _ _), .map (some _), .map none => some false
    | some (.func _ _ _), .nilFunc, .nilFunc => some true
    | some (.func _ _ _), .nilFunc, .func _ _ _ => some false
    | some (.func _ _ _), .func _ _ _, .nilFunc => some false
    | some (.struct fs), .agg xs, .agg ys =>
      bif E.eqOK t then eqFields (fun t a b => eqv E d t a b) fs.toList xs ys else none
    | some (.array n e), .agg xs, .agg ys => match E.size e with
      | some s => eqItems (fun a b => eqv E d e a b) e s xs ys (List.range n)
      | none => none
    | _, _, _ => none
  where
  eqItems (eq : AVal → AVal → Option Bool) (e s : Nat) (xs ys : List AVal) : List Nat → Option Bool
    | [] => some true
    | i :: is =>
      match part E e xs (i * s), part E e ys (i * s) with
      | some a, some b => match eq a b with
        | some true => eqItems eq e s xs ys is
        | r => r
      | _, _ => none
  eqFields (eq : Nat → AVal → AVal → Option Bool) : List Field → List AVal → List AVal → Option Bool
    | [], _, _ => some true
    | f :: fs, xs, ys =>
      if f.name = "_" then eqFields eq fs xs ys else
      match part E f.type xs f.offset, part E f.type ys f.offset with
      | some a, some b => match eq f.type a b with
        | some true => eqFields eq fs xs ys
        | r => r
      | _, _ => none

def intBin (op : BinOp) (k : IntKind) (a b : Int) : Option AVal :=
  match op with
  | .add => some (.int k (k.wrap (a + b)))
  | .sub => some (.int k (k.wrap (a - b)))
  | .mul => some (.int k (k.wrap (a * b)))
  | .quo => if b = 0 then none else some (.int k (k.wrap (a.tdiv b)))
  | .rem => if b = 0 then none else some (.int k (a.tmod b))
  | .and => some (.int k (k.wrap (BitVec.ofInt k.bits a &&& BitVec.ofInt k.bits b).toNat))
  | .or => some (.int k (k.wrap (BitVec.ofInt k.bits a ||| BitVec.ofInt k.bits b).toNat))
  | .xor => some (.int k (k.wrap (BitVec.ofInt k.bits a ^^^ BitVec.ofInt k.bits b).toNat))
  | .andNot => some (.int k (k.wrap (BitVec.ofInt k.bits a &&& ~~~ BitVec.ofInt k.bits b).toNat))
  | .eql => some (.bool (a == b))
  | .neq => some (.bool (a != b))
  | .lss => some (.bool (a < b))
  | .leq => some (.bool (a ≤ b))
  | .gtr => some (.bool (a > b))
  | .geq => some (.bool (a ≥ b))
  | _ => none

def shiftBin (op : BinOp) (k : IntKind) (a b : Int) : Option AVal :=
  if b < 0 then none else
  let n := min b.toNat k.bits
  match op with
  | .shl => some (.int k (k.wrap (a * 2 ^ n)))
  | .shr => some (.int k (a.fdiv (2 ^ n)))
  | _ => none

def floatBin (op : BinOp) (k : FloatKind) (x y : Nat) : Option AVal :=
  let c := k.format.order x y
  match op with
  | .add => (k.format.add x y).map (AVal.float k)
  | .sub => (k.format.sub x y).map (AVal.float k)
  | .mul => (k.format.mul x y).map (AVal.float k)
  | .quo => (k.format.div x y).map (AVal.float k)
  | .eql => some (.bool (c == some .eq))
  | .neq => some (.bool (c != some .eq))
  | .lss => some (.bool (c == some .lt))
  | .leq => some (.bool (c == some .lt || c == some .eq))
  | .gtr => some (.bool (c == some .gt))
  | .geq => some (.bool (c == some .gt || c == some .eq))
  | _ => none

def strBin (op : BinOp) (a b : List Nat) : Option AVal :=
  match op with
  | .add => bif Nat.ble (a.length + b.length) 1000000000 then some (.str (a ++ b)) else none
  | .eql => some (.bool (listEq a b))
  | .neq => some (.bool (!listEq a b))
  | .lss => some (.bool (bytesLess a b))
  | .leq => some (.bool (bytesLess a b || listEq a b))
  | .gtr => some (.bool (!(bytesLess a b || listEq a b)))
  | .geq => some (.bool (!bytesLess a b))
  | _ => none

def isConst : Operand → Bool
  | .const _ => true
  | _ => false

/-- may the model's guard on '==' be passed? -/
def guardOK (E : Env) (t : Nat) (cx cy : Bool) (x y : AVal) : Bool :=
  match x, y with
  | .nilIface, .nilIface => cx || cy
  | .agg _, .agg _ => E.eqOK t
  | _, _ => true

/-- a number between lo and hi, held against b -/
def rngCmp (op : BinOp) (lo hi b : Int) : Option Bool :=
  match op with
  | .lss => if hi < b then some true else if b ≤ lo then some false else none
  | .leq => if hi ≤ b then some true else if b < lo then some false else none
  | .gtr => if b < lo then some true else if hi ≤ b then some false else none
  | .geq => if b ≤ lo then some true else if hi < b then some false else none
  | _ => none

def flipOp (op : BinOp) : BinOp :=
  match op with
  | .lss => .gtr
  | .leq => .geq
  | .gtr => .lss
  | .geq => .leq
  | _ => .add

def bin (E : Env) (op : BinOp) (t : Nat) (cx cy : Bool) (x y : AVal) : Option AVal :=
  match x, y with
  | .int k a, .int k' b =>
    match op with
    | .shl | .shr => shiftBin op k a b
    | _ => if k = k' then intBin op k a b else none
  | .float k a, .float k' b => if k = k' then floatBin op k a b else none
  | .str a, .str b => strBin op a b
  | .rng k lo hi _, .int k' b => if k = k' then (rngCmp op lo hi b).map AVal.bool else none
  | .int k a, .rng k' lo hi _ => if k = k' then (rngCmp (flipOp op) lo hi a).map AVal.bool else none
  | x, y =>
    match op with
    | .eql => bif guardOK E t cx cy x y then (eqv E 20 t x y).map AVal.bool else none
    | .neq => bif guardOK E t cx cy x y then (eqv E 20 t x y).map (fun b => AVal.bool (!b)) else none
    | _ => none

def un (op : UnOp) (x : AVal) : Option AVal :=
  match op, x with
  | .neg, .int k n => some (.int k (k.wrap (0 - n)))
  | .xor, .int k n => some (.int k (k.wrap (BitVec.ofInt k.bits (if k.signed then -1 else k.max) ^^^ BitVec.ofInt k.bits n).toNat))
  | .not, .bool b => some (.bool !b)
  | _, _ => none

def getCells (g : Nat → Option AObj) (b off n : Nat) : Option (List AVal) :=
  match g b with
  | some (.cells c _ _ _) => bif Nat.ble (off + n) c.length then some ((c.drop off).take n) else none
  | _ => none

def byteOf : AVal → Option Nat
  | .int .u8 n => if 0 ≤ n ∧ n < 256 then some n.toNat else none
  | _ => none

def conv (E : Env) (g : Nat → Option AObj) (src dst : Nat) (x : AVal) : Option AVal :=
  match E.under src, E.under dst with
  | some s, some d =>
    match d, x with
    | .int k, .int _ n => some (.int k (k.wrap n))
    | .float k, .int _ n => some (.float k (k.nearest n))
    | .int k, .float s b => match (s.decode b).toInt .zero with
      | some n => if k.min ≤ n ∧ n ≤ k.max then some (.int k n) else none
      | none => none
    | .string, .str a => some (.str a)
    | .string, .slice none _ _ _ => match s with
      | .slice e => match E.under e with
        | some (.int .u8) => some (.str [])
        | _ => none
      | _ => none
    | .string, .slice (some (b, off)) len _ _ => match s with
      | .slice e => match E.under e with
        | some (.int .u8) => match getCells g b off len with
          | some cs => (optMap byteOf cs).map AVal.str
          | none => none
        | _ => none
      | _ => none
    | _, _ => none
  | _, _ => none

def asIx : AVal → Option Int
  | .int _ n => some n
  | _ => none

def bound (x : AVal) (y : Nat) : Option Nat :=
  match x with
  | .int _ i => if 0 ≤ i ∧ i ≤ y then some i.toNat else none
  | _ => none

def obound (x : Option AVal) (y dflt : Nat) : Option Nat :=
  match x with
  | some v => bound v y
  | none => some dflt

/-- slicing: of a thing of length len and capacity cap: (low, high, max) -/
def bounds (len cap : Nat) (lo hi mx : Option AVal) : Option (Nat × Nat × Nat) :=
  match obound mx cap cap with
  | none => none
  | some m => match hi, mx with
    | none, some _ => none
    | _, _ => match obound hi m len with
      | none => none
      | some h => match obound lo h 0 with
        | none => none
        | some l => some (l, h, m)

def evo (E : Env) (F : Fr) : Option Operand → Option (Option AVal)
  | none => some none
  | some x => (ev E F x).map some

def sliceV (E : Env) (t : Nat) (x : AVal) (lo hi mx : Option AVal) : Option AVal :=
  match E.under t, x with
  | some (.array n e), .ptr (some (b, off)) =>
    match bounds n n lo hi mx, E.size e with
    | some (l, h, m), some s => some (.slice (some (b, bif Nat.beq m l then off else off + l * s)) (h - l) (m - l) false)
    | _, _ => none
  | some .string, .str s =>
    match mx with
    | some _ => none
    | none => match bounds s.length s.length lo hi none with
      | some (l, h, _) => some (.str ((s.drop l).take (h - l)))
      | none => none
  | some (.slice e), .slice none len cap _ =>
    match bounds len cap lo hi mx, E.size e with
    | some (l, h, m), some _ => some (.slice none (h - l) (m - l) false)
    | _, _ => none
  | some (.slice e), .slice (some (b, off)) len cap opn =>
    match bounds len cap lo hi mx, E.size e with
    | some (l, h, m), some s =>
      let o := opn && mx.isNone
      bif (o && Nat.beq m l && !Nat.beq (l * s) 0) || !Nat.ble l m then (bif Nat.ble l m && Nat.beq h l then some .emp else none) else
      some (.slice (some (b, bif Nat.beq m l then off else off + l * s)) (h - l) (m - l) o)
    | _, _ => none
  | some (.slice e), .emp =>
    match bounds 0 0 lo hi mx, E.size e with
    | some (l, h, _), some _ => bif Nat.beq h l then some .emp else none
    | _, _ => none
  | _, _ => none

def setSeg : List AVal → Nat → List AVal → List AVal
  | cs, _, [] => cs
  | cs, off, v :: vs => setSeg (cs.set off v) (off + 1) vs

def fillF (place : Nat → Option (Nat × Nat)) : List AVal → List (Nat × AVal) → Option (List AVal)
  | cs, [] => some cs
  | cs, (i, v) :: rest =>
    match place i with
    | none => none
    | some (off, size) =>
      bif Nat.beq v.cells.length size && Nat.ble (off + v.cells.length) cs.length then fillF place (setSeg cs off v.cells) rest else none

def evParts (E : Env) (F : Fr) (ps : List (Nat × Operand)) : Option (List (Nat × AVal)) :=
  optMap (fun p => (ev E F p.2).map fun v => (p.1, v)) ps

def buildV (E : Env) (t : Nat) (parts : List (Nat × AVal)) : Option AVal :=
  match E.zero t, E.under t with
  | some z, some (.struct fs) =>
    match optMap (fun f : Field => (E.size f.type).map fun s => (f.offset, s)) fs.toList with
    | some places => (fillF (places[·]?) z.cells parts).map AVal.agg
    | none => none
  | some z, some (.array _ e) =>
    match E.size e with
    | some s => (fillF (fun i => some (i * s, s)) z.cells parts).map AVal.agg
    | none => none
  | _, _ => none

def sameKey (kind : TypeDesc) (a b : AVal) : Option Bool :=
  match kind, a, b with
  | .int _, .int k a, .int k' b => if k = k' then some (a == b) else none
  | .string, .str a, .str b => some (listEq a b)
  | .bool, .bool a, .bool b => some (a == b)
  | _, _, _ => none

def findE (kind : TypeDesc) (k : AVal) : List Entry → Nat → Option (Option (Nat × AVal))
  | [], _ => some none
  | e :: es, i =>
    match sameKey kind k e.key with
    | some true => some (some (i, e.val))
    | some false => findE kind k es (i + 1)
    | none => none

def plainKey : TypeDesc → Bool
  | .int _ | .string | .bool => true
  | _ => false

def entriesOf (g : Nat → Option AObj) (x : AVal) : Option (List Entry) :=
  match x with
  | .map none => some []
  | .map (some r) => match g r with
    | some (.map es _) => some es
    | _ => none
  | _ => none

def lookupV (E : Env) (g : Nat → Option AObj) (t : Nat) (x k : AVal) (ok : Bool) : Option AVal :=
  match E.under t with
  | some (.map kt et) =>
    match E.under kt with
    | some kd =>
      bif plainKey kd then
        match entriesOf g x with
        | some es => match findE kd k es 0 with
          | some (some (_, v)) => some (bif ok then .tuple [v, .bool true] else v)
          | some none => match E.zero et with
            | some z => some (bif ok then .tuple [z, .bool false] else z)
            | none => none
          | none => none
        | none => none
      else none
    | none => none
  | _ => none

def minmax (mx : Bool) : AVal → List AVal → Option AVal
  | .int k x, [] => some (.int k x)
  | .int k x, .int k' y :: rest =>
    if k = k' then minmax mx (.int k (bif mx then (if y > x then y else x) else (if y < x then y else x))) rest else none
  | _, _ => none

def lenV (E : Env) (g : Nat → Option AObj) (t : Nat) (x : AVal) : Option AVal :=
  match E.under t, x with
  | some .string, .str s => some (.int .i64 s.length)
  | some (.array n _), _ => some (.int .i64 n)
  | some (.slice _), .slice _ n _ _ => some (.int .i64 n)
  | some (.slice _), .emp => some (.int .i64 0)
  | some (.map _ _), .map none => some (.int .i64 0)
  | some (.map _ _), .map (some r) => match g r with
    | some (.map es _) => some (.int .i64 es.length)
    | _ => none
  | _, _ => none

def capV (E : Env) (t : Nat) (x : AVal) : Option AVal :=
  match E.under t, x with
  | some (.slice _), .slice _ _ n false => some (.int .i64 n)
  | some (.array n _), _ => some (.int .i64 n)
  | _, _ => none

def isIfaceD : TypeDesc → Bool
  | .interface _ => true
  | _ => false

def loadV (E : Env) (g : Nat → Option AObj) (t : Nat) (x : AVal) : Option AVal :=
  match x with
  | .ptr (some (b, off)) =>
    match E.under t, E.size t with
    | some d, some n =>
      bif isAggD d then (getCells g b off n).map AVal.agg
      else match g b with
        | some (.cells c _ _ _) => c[off]?
        | _ => none
    | _, _ => none
  | _ => none

def pickV (E : Env) (F : Fr) (c a b : Operand) : Option AVal :=
  match ev E F c with
  | some (.bool t) => bif t then ev E F a else ev E F b
  | _ => none

def nilV (E : Env) (F : Fr) (x : Operand) : Option AVal :=
  match ev E F x with
  | some (.ptr (some a)) => some (.ptr (some a))
  | some (.func (.func f) a b) => some (.func (.func f) a b)
  | _ => none

def binV (E : Env) (F : Fr) (op : BinOp) (t : Nat) (x y : Operand) : Option AVal :=
  match ev E F x, ev E F y with
  | some a, some b => bin E op t (isConst x) (isConst y) a b
  | _, _ => none

def unV (E : Env) (F : Fr) (op : UnOp) (x : Operand) : Option AVal :=
  match ev E F x with
  | some a => un op a
  | none => none

def convV (E : Env) (g : Nat → Option AObj) (F : Fr) (s d : Nat) (x : Operand) : Option AVal :=
  match ev E F x with
  | some a => conv E g s d a
  | none => none

def ifaceV (E : Env) (F : Fr) (t : Nat) (x : Operand) : Option AVal :=
  match ev E F x, E.under t with
  | some a, some d => bif isIfaceD d then none else some (.iface t a)
  | _, _ => none

def funcV (E : Env) (F : Fr) (fn : Fn) (first cap : Array Operand) : Option AVal :=
  match evs E F first.toList, evs E F cap.toList with
  | some a, some b => some (.func fn a b)
  | _, _ => none

def extractV (E : Env) (F : Fr) (x : Operand) (i : Nat) : Option AVal :=
  match ev E F x with
  | some (.tuple vs) => vs[i]?
  | _ => none

def fieldV (E : Env) (F : Fr) (t : Nat) (x : Operand) (i : Nat) : Option AVal :=
  match E.fields t, ev E F x with
  | some fs, some (.agg cs) => match fs[i]? with
    | some f => part E f.type cs f.offset
    | none => none
  | _, _ => none

def indexV (E : Env) (F : Fr) (t : Nat) (x ix : Operand) : Option AVal :=
  match E.under t, ev E F x, ev E F ix with
  | some (.array n e), some (.agg cs), some (.int _ i) =>
    if 0 ≤ i ∧ i < n then (match E.size e with
      | some s => part E e cs (i.toNat * s)
      | none => none) else none
  | some .string, some (.str s), some (.int _ i) => if 0 ≤ i then (s[i.toNat]?).map fun b => .int .u8 (b : Nat) else none
  | _, _, _ => none

def fieldAddrV (E : Env) (F : Fr) (t : Nat) (x : Operand) (i : Nat) : Option AVal :=
  match E.fields t, ev E F x with
  | some fs, some (.ptr (some (b, off))) => match fs[i]? with
    | some f => match E.size f.type with
      | some s => bif Nat.beq s 0 then none else some (.ptr (some (b, off + f.offset)))
      | none => none
    | none => none
  | _, _ => none

def indexAddrV (E : Env) (F : Fr) (t : Nat) (x ix : Operand) : Option AVal :=
  match E.under t, ev E F x, ev E F ix with
  | some (.array n e), some (.ptr (some (b, off))), some (.int _ i) =>
    if 0 ≤ i ∧ i < n then (match E.size e with
      | some s => some (.ptr (some (b, off + i.toNat * s)))
      | none => none) else none
  | some (.slice e), some (.slice (some (b, off)) n _ _), some (.int _ i) =>
    if 0 ≤ i ∧ i < n then (match E.size e with
      | some s => some (.ptr (some (b, off + i.toNat * s)))
      | none => none) else none
  | _, _, _ => none

def sliceOpV (E : Env) (F : Fr) (t : Nat) (x : Operand) (lo hi mx : Option Operand) : Option AVal :=
  match ev E F x, evo E F lo, evo E F hi, evo E F mx with
  | some a, some l, some h, some m => sliceV E t a l h m
  | _, _, _, _ => none

def buildOpV (E : Env) (F : Fr) (t : Nat) (ps : Array (Nat × Operand)) : Option AVal :=
  match evParts E F ps.toList with
  | some l => buildV E t l
  | none => none

def loadOpV (E : Env) (g : Nat → Option AObj) (F : Fr) (t : Nat) (a : Operand) : Option AVal :=
  match ev E F a with
  | some x => loadV E g t x
  | none => none

def lookupOpV (E : Env) (g : Nat → Option AObj) (F : Fr) (t : Nat) (x k : Operand) (ok : Bool) : Option AVal :=
  match ev E F x, ev E F k with
  | some a, some b => lookupV E g t a b ok
  | _, _ => none

def lenOpV (E : Env) (g : Nat → Option AObj) (F : Fr) (args : Array Operand) (ts : Array Nat) : Option AVal :=
  match args.toList, ts.toList with
  | x :: _, t :: _ => match ev E F x with
    | some a => lenV E g t a
    | none => none
  | _, _ => none

def capOpV (E : Env) (F : Fr) (args : Array Operand) (ts : Array Nat) : Option AVal :=
  match args.toList, ts.toList with
  | x :: _, t :: _ => match ev E F x with
    | some a => capV E t a
    | none => none
  | _, _ => none

def minmaxOpV (E : Env) (F : Fr) (mx : Bool) (args : Array Operand) : Option AVal :=
  match evs E F args.toList with
  | some (x :: xs) => minmax mx x xs
  | _ => none

/-- an assertion to a type that is no interface -/
def assertE (E : Env) (t : Nat) (ok : Bool) (x : AVal) : Option AVal :=
  match E.under t, x with
  | some d, .iface t' v =>
    bif isIfaceD d then none else
    bif Nat.beq t' t then some (bif ok then .tuple [v, .bool true] else v) else
    bif ok then (match E.zero t with
      | some z => some (.tuple [z, .bool false])
      | none => none) else none
  | some d, .nilIface =>
    bif isIfaceD d then none else
    bif ok then (match E.zero t with
      | some z => some (.tuple [z, .bool false])
      | none => none) else none
  | _, _ => none

def assertV (E : Env) (F : Fr) (x : Operand) (t : Nat) (ok : Bool) : Option AVal :=
  match ev E F x with
  | some a => assertE E t ok a
  | none => none

/-- What only looks: values, and memory that is read. -/
def rd (E : Env) (g : Nat → Option AObj) (F : Fr) (o : Op) : Option AVal :=
  match o with
  | .move x => ev E F x
  | .assign x => ev E F x
  | .pick c a b => pickV E F c a b
  | .nilCheck x => nilV E F x
  | .binOp op t x y _ => binV E F op t x y
  | .unOp op _ x => unV E F op x
  | .convert s d x => convV E g F s d x
  | .makeInterface t x => ifaceV E F t x
  | .makeFunc fn first cap => funcV E F fn first cap
  | .extract x i => extractV E F x i
  | .typeAssert x _ t ok => assertV E F x t ok
  | .field t x i => fieldV E F t x i
  | .index t x ix => indexV E F t x ix
  | .fieldAddr t x i => fieldAddrV E F t x i
  | .indexAddr t x ix => indexAddrV E F t x ix
  | .slice t x lo hi mx => sliceOpV E F t x lo hi mx
  | .build t ps => buildOpV E F t ps
  | .load t a => loadOpV E g F t a
  | .lookup t x k ok => lookupOpV E g F t x k ok
  | .call c => match c.callee with
    | .builtin b => match b with
      | .len => lenOpV E g F c.args c.argTypes
      | .cap => capOpV E F c.args c.argTypes
      | .min => minmaxOpV E F false c.args
      | .max => minmaxOpV E F true c.args
      | _ => none
    | _ => none
  | _ => none

def replF (n : Nat) (zs : List AVal) : List AVal := (List.replicate n zs).flatten

def allocF (E : Env) (t : Nat) : Option (AObj × (Nat → AVal)) :=
  match E.zero t with
  | some z => some (.cells z.cells t none false, fun b => .ptr (some (b, 0)))
  | none => none

def boxF (E : Env) (F : Fr) (t : Nat) (x : Operand) : Option (AObj × (Nat → AVal)) :=
  match ev E F x with
  | some v => some (.cells v.cells t none false, fun b => .ptr (some (b, 0)))
  | none => none

def buildSliceF (E : Env) (F : Fr) (t len : Nat) (ps : Array (Nat × Operand)) : Option (AObj × (Nat → AVal)) :=
  match evParts E F ps.toList, E.under t with
  | some parts, some (.slice e) => match E.size e, E.zero e with
    | some s, some z =>
      bif Nat.ble (len * s) 65536 && Nat.beq z.cells.length s then
        match fillF (fun i => some (i * s, s)) (replF len z.cells) parts with
        | some cs => some (.cells cs e none false, fun b => .slice (some (b, 0)) len len false)
        | none => none
      else none
    | _, _ => none
  | _, _ => none

def makeSliceF (E : Env) (F : Fr) (t : Nat) (l c : Operand) : Option (AObj × (Nat → AVal)) :=
  match E.under t, ev E F l, ev E F c with
  | some (.slice e), some (.int .i64 len), some (.int .i64 cap) => match E.info e, E.zero e with
    | some i, some z =>
      if 0 ≤ len ∧ len ≤ cap ∧ cap ≤ 1000000 ∧ i.bytes ≤ 100000 ∧ z.cells.length = i.size then
        some (.cells (replF cap.toNat z.cells) e none false, fun b => .slice (some (b, 0)) len.toNat cap.toNat false)
      else none
    | _, _ => none
  | _, _, _ => none

def makeMapF (r : Option Operand) : Option (AObj × (Nat → AVal)) :=
  match r with
  | none => some (.map [] 0, fun b => .map (some b))
  | some _ => none

def rangeF (E : Env) (F : Fr) (t : Nat) (x : Operand) : Option (AObj × (Nat → AVal)) :=
  match E.under t, ev E F x with
  | some .string, some (.str s) => some (.strIter s 0, fun b => .ptr (some (b, 0)))
  | _, _ => none

def bytesF (E : Env) (F : Fr) (s d : Nat) (x : Operand) : Option (AObj × (Nat → AVal)) :=
  match E.under s, E.under d, ev E F x with
  | some .string, some (.slice e), some (.str l) => match E.under e with
    | some (.int .u8) => some (.cells (l.map fun c => .int .u8 (c : Nat)) e (some 1) false, fun b => .slice (some (b, 0)) l.length l.length true)
    | _ => none
  | _, _, _ => none

/-- What lays one new block. -/
def fresh (E : Env) (F : Fr) (o : Op) : Option (AObj × (Nat → AVal)) :=
  match o with
  | .alloc t => allocF E t
  | .box t x => boxF E F t x
  | .buildSlice t len ps => buildSliceF E F t len ps
  | .makeSlice t l c => makeSliceF E F t l c
  | .makeMap _ r => makeMapF r
  | .range t x => rangeF E F t x
  | .convert s d x => bytesF E F s d x
  | _ => none

def putCells (M : Mem) (b off : Nat) (vs : List AVal) : Option Mem :=
  match M.get b with
  | some (.cells c e opn false) =>
    bif Nat.ble (off + vs.length) c.length && vs.all AVal.isCell then some (M.put b (.cells (setSeg c off vs) e opn false)) else none
  | _ => none

def lenOf : AVal → Option Nat
  | .slice _ n _ _ => some n
  | .str s => some s.length
  | .emp => some 0
  | _ => none

def firstCells (M : Mem) (s n : Nat) : AVal → Option (List AVal)
  | .slice (some (b, off)) _ _ _ => getCells M.get b off (n * s)
  | .slice none _ _ _ => some []
  | .str l => some ((l.take n).map fun c => .int .u8 (c : Nat))
  | .emp => bif Nat.beq n 0 then some [] else none
  | _ => none

def zeroFits (i : TypeInfo) : Bool := match i.zero with
  | some z => Nat.beq z.cells.size i.size
  | none => false

def isIntD : TypeDesc → Bool
  | .int _ => true
  | _ => false

def growW (M : Mem) (e s need : Nat) (base : Option (Nat × Nat)) (len cap : Nat) (opn : Bool) (new : List AVal) : Option (AVal × Mem) :=
  match base with
  | none => some (.slice (some (M.next, 0)) need need true, M.add (.cells new e (some s) false))
  | some (b, off) =>
    match getCells M.get b off (len * s) with
    | none => none
    | some old =>
      bif opn then
        match M.get b with
        | some (.cells c eb (some s') false) =>
          bif Nat.beq s' s && Nat.beq eb e && Nat.beq c.length (off + cap * s) then
            some (.slice (some (M.next, 0)) need need true, (M.kill b).add (.cells (old ++ new) e (some s) false))
          else none
        | _ => none
      else some (.slice (some (M.next, 0)) need need true, M.add (.cells (old ++ new) e (some s) false))

def inplaceW (M : Mem) (s need n : Nat) (base : Option (Nat × Nat)) (len cap : Nat) (opn : Bool) (new : List AVal) : Option (AVal × Mem) :=
  match base with
  | none => bif Nat.beq n 0 then some (.slice none need cap opn, M) else none
  | some (b, off) => (putCells M b (off + len * s) new).map fun M' => (.slice (some (b, off)) need cap opn, M')

def appendW (M : Mem) (e : Nat) (i : TypeInfo) (base : Option (Nat × Nat)) (len cap : Nat) (opn : Bool) (n : Nat) (x : AVal) : Option (AVal × Mem) :=
  match firstCells M i.size n x with
  | none => none
  | some new =>
    bif Nat.beq new.length (n * i.size) && !Nat.beq i.size 0 then
      bif Nat.ble (len + n) cap then inplaceW M i.size (len + n) n base len cap opn new
      else bif Nat.ble (len + n) 1000000 && Nat.ble i.bytes 100000 && new.all AVal.isCell && zeroFits i then growW M e i.size (len + n) base len cap opn new
      else none
    else none

def appendV (E : Env) (M : Mem) (ts : List Nat) (args : List AVal) : Option (AVal × Mem) :=
  match ts, args with
  | t :: tx :: _, [.slice base len cap opn, x] =>
    match E.under t, E.under tx with
    | some (.slice e), some dx =>
      bif isIntD dx then none else
      match E.info e, lenOf x with
      | some i, some n => appendW M e i base len cap opn n x
      | _, _ => none
    | _, _ => none
  | t :: tx :: _, [.emp, x] =>
    match E.under t, E.under tx with
    | some (.slice e), some dx =>
      bif isIntD dx then none else
      match E.info e, lenOf x with
      | some i, some n => match firstCells M i.size n x with
        | some [] => bif Nat.beq n 0 then some (.emp, M) else none
        | _ => none
      | _, _ => none
    | _, _ => none
  | _, _ => none

def copyV (E : Env) (M : Mem) (ts : List Nat) (args : List AVal) : Option (AVal × Mem) :=
  match ts, args with
  | t :: _, [.slice base dlen _ _, x] =>
    match E.under t, lenOf x with
    | some (.slice e), some m => match E.size e with
      | some s =>
        let n := Nat.min m dlen
        match firstCells M s n x with
        | some cs => match base with
          | none => some (.int .i64 n, M)
          | some (b, off) => (putCells M b off cs).map fun M' => (.int .i64 n, M')
        | none => none
      | none => none
    | _, _ => none
  | _, _ => none

def setVal : List Entry → Nat → AVal → AVal → List Entry
  | [], _, _, _ => []
  | e :: es, 0, k, v => { e with key := k, val := v } :: es
  | e :: es, i + 1, k, v => e :: setVal es i k v

def mapPut (E : Env) (M : Mem) (t : Nat) (m k v : AVal) : Option Mem :=
  match E.under t, m with
  | some (.map kt _), .map (some r) =>
    match E.under kt, M.get r with
    | some kd, some (.map es clock) =>
      bif plainKey kd then
        match findE kd k es 0 with
        | some (some (i, _)) => some (M.put r (.map (setVal es i k v) clock))
        | some none => some (M.put r (.map (es ++ [⟨k, v, clock⟩]) (clock + 1)))
        | none => none
      else none
    | _, _ => none
  | _, _ => none

def mapEntryV (E : Env) (M : Mem) (t : Nat) (m k : AVal) : Option (AVal × Mem) :=
  match E.under t, m with
  | some (.map kt et), .map (some r) =>
    match E.under kt, M.get r, E.zero et with
    | some kd, some (.map es clock), some z =>
      bif plainKey kd then
        match findE kd k es 0 with
        | some (some (i, v)) => match es[i]? with
          | some e => some (.tuple [v, .int .i64 e.born], M.put r (.map (setVal es i k e.val) clock))
          | none => none
        | some none => some (.tuple [z, .int .i64 clock], M.put r (.map (es ++ [⟨k, z, clock⟩]) (clock + 1)))
        | none => none
      else none
    | _, _, _ => none
  | _, _ => none

def setBorn : List Entry → Nat → AVal → Option (List Entry)
  | [], _, _ => none
  | e :: es, b, v => bif Nat.beq e.born b then some ({ e with val := v } :: es) else (setBorn es b v).map (e :: ·)

def entryStoreV (M : Mem) (m s v : AVal) : Option Mem :=
  match m, s with
  | .map (some r), .int _ b => match M.get r with
    | some (.map es clock) => if 0 ≤ b then (setBorn es b.toNat v).map fun es' => M.put r (.map es' clock) else none
    | _ => none
  | _, _ => none

def storeV (E : Env) (M : Mem) (t : Nat) (a v : AVal) : Option Mem :=
  match a, E.size t with
  | .ptr (some (b, off)), some n => bif Nat.beq v.cells.length n then putCells M b off v.cells else none
  | _, _ => none

def storeOp (E : Env) (F : Fr) (M : Mem) (t : Nat) (a x : Operand) : Option (AVal × Mem) :=
  match ev E F a, ev E F x with
  | some p, some v => match storeV E M t p v with
    | some M' => some (.undef, M')
    | none => none
  | _, _ => none

def mapPutOp (E : Env) (F : Fr) (M : Mem) (t : Nat) (m k x : Operand) : Option (AVal × Mem) :=
  match ev E F m, ev E F k, ev E F x with
  | some a, some b, some c => (mapPut E M t a b c).map fun M' => (.undef, M')
  | _, _, _ => none

def mapEntryOp (E : Env) (F : Fr) (M : Mem) (t : Nat) (m k : Operand) : Option (AVal × Mem) :=
  match ev E F m, ev E F k with
  | some a, some b => mapEntryV E M t a b
  | _, _ => none

def entryStoreOp (E : Env) (F : Fr) (M : Mem) (m s x : Operand) : Option (AVal × Mem) :=
  match ev E F m, ev E F s, ev E F x with
  | some a, some b, some c => (entryStoreV M a b c).map fun M' => (.undef, M')
  | _, _, _ => none

def nextOp (E : Env) (F : Fr) (M : Mem) (x : Operand) (isString : Bool) : Option (AVal × Mem) :=
  bif isString then
    match ev E F x with
    | some (.ptr (some (b, 0))) => match M.get b with
      | some (.strIter s pos) => match s[pos]? with
        | none => some (.tuple [.bool false], M)
        | some c => bif Nat.blt c 128 then some (.tuple [.bool true, .int .i64 pos, .int .i32 c], M.put b (.strIter s (pos + 1))) else none
      | _ => none
    | _ => none
  else none

def appendOp (E : Env) (F : Fr) (M : Mem) (args : Array Operand) (ts : Array Nat) : Option (AVal × Mem) :=
  match evs E F args.toList with
  | some l => appendV E M ts.toList l
  | none => none

def copyOp (E : Env) (F : Fr) (M : Mem) (args : Array Operand) (ts : Array Nat) : Option (AVal × Mem) :=
  match evs E F args.toList with
  | some l => copyV E M ts.toList l
  | none => none

/-- What writes. -/
def sliceConv (E : Env) (s d : Nat) : Bool :=
  match E.under s, E.under d with
  | some (.slice _), some (.slice e) => Nat.beq s d && (match E.under e with
    | some (.int .u8) => true
    | _ => false)
  | _, _ => false

/-- a slice of bytes as what it is: its block is marked -/
def convSliceOp (E : Env) (F : Fr) (M : Mem) (x : Operand) : Option (AVal × Mem) :=
  match ev E F x with
  | some (.slice (some (b, off)) n k o) => match M.get b with
    | some (.cells c e opn false) => some (.slice (some (b, off)) n k o, M.put b (.cells c e opn false))
    | _ => none
  | _ => none

def eff (E : Env) (F : Fr) (M : Mem) (o : Op) : Option (AVal × Mem) :=
  match o with
  | .store t a x => storeOp E F M t a x
  | .mapUpdate t m k x => mapPutOp E F M t m k x
  | .insert t m k x => mapPutOp E F M t m k x
  | .mapEntry t m k => mapEntryOp E F M t m k
  | .entryStore _ m s x => entryStoreOp E F M m s x
  | .next x b => nextOp E F M x b
  | .convert s d x => bif sliceConv E s d then convSliceOp E F M x else none
  | .call c => match c.callee with
    | .builtin b => match b with
      | .append => appendOp E F M c.args c.argTypes
      | .copy => copyOp E F M c.args c.argTypes
      | _ => none
    | _ => none
  | _ => none

def methodOf (E : Env) (g : Nat → Option AObj) (t : Nat) (v : AVal) (name : String) : Option (Nat × AVal) :=
  match E.info t with
  | some i => match i.methods.toList.find? (·.name == name) with
    | some m => match m.path.toList, m.func, E.under t with
      | [], some (f, ptr), some d => match d, ptr with
        | .pointer _, true => some (f, v)
        | .pointer e, false => match loadV E g e v with
          | some u => some (f, u)
          | none => none
        | _, false => some (f, v)
        | _, true => none
      | [s], some (f, ptr), _ => bif s.deref then none else
        match E.fields s.struct, v with
        | some fs, .agg cs => match fs[s.index]? with
          | some fd => match part E fd.type cs fd.offset, E.under fd.type with
            | some u, some (.pointer _) => bif ptr then some (f, u) else none
            | _, _ => none
          | none => none
        | _, _ => none
      | _, _, _ => none
    | none => none
  | none => none

def target (E : Env) (g : Nat → Option AObj) (F : Fr) (c : Call) : Option (Nat × List AVal) :=
  match evs E F c.args.toList with
  | some args => match c.callee with
    | .value x => match ev E F x with
      | some (.func (.func f) first cap) => some (f, first ++ args ++ cap)
      | _ => none
    | .invoke r m => match ev E F r with
      | some (.iface t v) => match methodOf E g t v m with
        | some (f, recv) => some (f, recv :: args)
        | none => none
      | _ => none
    | .builtin _ => none
  | none => none

def findIx (c : Nat) : List Nat → Nat → Option Nat
  | [], _ => none
  | b :: bs, i => bif Nat.beq b c then some i else findIx c bs (i + 1)

def countIn (c : Nat) : List Nat → Nat → Nat
  | [], n => n
  | b :: bs, n => countIn c bs (bif Nat.beq b c then n + 1 else n)

def extRun : Ext → List AVal → Option AVal
  | .indexByte, [.str s, .int .u8 c] => bif Nat.blt c.toNat 256 then
      (match findIx c.toNat s 0 with
      | some i => some (.int .i64 i)
      | none => some (.int .i64 (-1))) else none
  | .count, [.str s, .int .u8 c] => bif Nat.blt c.toNat 256 then some (.int .i64 (countIn c.toNat s 0)) else none
  | .f64bits, [.float .f64 b] => some (.int .u64 b)
  | .f64from, [.int .u64 n] => some (.float .f64 n.toNat)
  | .f32bits, [.float .f32 b] => some (.int .u32 b)
  | .f32from, [.int .u32 n] => some (.float .f32 n.toNat)
  | _, _ => none

def wantedE (ops : List Oper) (F : Fr) (o : Oper) : Bool :=
  match o.guard with
  | none => true
  | some (j, want) => match ops[j]? with
    | some oj => match oj.dst with
      | some t => match F.get t with
        | .bool b => b == want
        | _ => false
      | none => false
    | none => false

inductive Cls where
  | none | look | fresh | eff
  | call (c : Call)

def strToBytes (E : Env) (s d : Nat) : Bool :=
  match E.under s, E.under d with
  | some .string, some (.slice _) => true
  | _, _ => false

def cls (E : Env) (o : Op) : Cls :=
  match o with
  | .load .. => .look
  | .lookup .. => .look
  | .alloc _ => .fresh
  | .box .. => .fresh
  | .buildSlice .. => .fresh
  | .makeSlice .. => .fresh
  | .makeMap .. => .fresh
  | .range .. => .fresh
  | .convert s d _ => bif strToBytes E s d then .fresh else bif sliceConv E s d then .eff else .look
  | .store .. => .eff
  | .mapUpdate .. => .eff
  | .insert .. => .eff
  | .mapEntry .. => .eff
  | .entryStore .. => .eff
  | .next .. => .eff
  | .call c => match c.callee with
    | .builtin b => match b with
      | .len => .look
      | .cap => .none
      | .min => .none
      | .max => .none
      | _ => .eff
    | _ => .call c
  | _ => .none

def noLook : Nat → Option AObj := fun _ => none

def retV (M : Mem) (r : Option AVal) : Option (AVal × Mem) :=
  match r with
  | some v => some (v, M)
  | none => none

def retF (M : Mem) (r : Option (AObj × (Nat → AVal))) : Option (AVal × Mem) :=
  match r with
  | some (ob, mk) => some (mk M.next, M.add ob)
  | none => none

def handleE (R : RefT) (x : AVal) : Option Nat :=
  match x with
  | .ptr (some (b, t)) => bif Nat.beq b R.g && (lookN R.kinds t).isSome then some t else none
  | _ => none

def flagsE (f : Int) : Option Nat := match f with
  | .ofNat 0 => none
  | .ofNat n => some n
  | .negSucc _ => none

def refRun (E : Env) (R : RefT) (r : RefOp) (M : Mem) (args : List AVal) : Option (AVal × Mem) :=
  match r, args with
  | .valueOf, [.iface t v] => match lookN R.kinds t with
    | some k => some (.agg [.ptr (some (R.g, t)), .ptr (some (M.next, 0)), .int .u64 (Int.ofNat (k + 128 + 0))], M.add (.cells v.cells t none false))
    | none => none
  | .vType, [.agg [h, .ptr (some _), .int .u64 f]] => match handleE R h, flagsE f with
    | some t, some _ => some (.iface R.rt (.agg [.ptr (some (R.g, t))]), M)
    | _, _ => none
  | .isNil, [.agg [h, .ptr (some p), .int .u64 f]] => match handleE R h, flagsE f with
    | some t, some n => bif Nat.beq (n % 32) 22 then
        match loadV E M.get t (.ptr (some p)) with
        | some (.ptr none) => some (.bool true, M)
        | some (.ptr (some _)) => some (.bool false, M)
        | _ => none
      else none
    | _, _ => none
  | .vElem, [.agg [h, .ptr (some p), .int .u64 f]] => match handleE R h, flagsE f with
    | some t, some n => bif Nat.beq (n % 32) 22 then
        match loadV E M.get t (.ptr (some p)), lookN R.elems t with
        | some (.ptr (some q)), some e => match lookN R.kinds e with
          | some k => some (.agg [.ptr (some (R.g, e)), .ptr (some q), .int .u64 (Int.ofNat (k + 128 + 256))], M)
          | none => none
        | _, _ => none
      else none
    | _, _ => none
  | .vSet, [.agg [h, .ptr (some p), .int .u64 f], .agg [h', .ptr (some q), .int .u64 f']] => match handleE R h, flagsE f, handleE R h', flagsE f' with
    | some t, some n, some t', some _ => bif Nat.beq t t' && Nat.beq ((n / 256) % 2) 1 then
        match loadV E M.get t (.ptr (some q)) with
        | some v => match storeV E M t (.ptr (some p)) v with
          | some M' => some (.tuple [], M')
          | none => none
        | none => none
      else none
    | _, _, _, _ => none
  | .typeOf, [.iface t _] => match lookN R.kinds t with
    | some _ => some (.iface R.rt (.agg [.ptr (some (R.g, t))]), M)
    | none => none
  | .kind, [h] => match handleE R h with
    | some t => match lookN R.kinds t with
      | some k => some (.int .u8 (Int.ofNat k), M)
      | none => none
    | none => none
  | .rElem, [.agg [h]] => match handleE R h with
    | some t => match lookN R.elems t with
      | some e => some (.iface R.rt (.agg [.ptr (some (R.g, e))]), M)
      | none => none
    | none => none
  | .implements, [.agg [h], .iface _ (.agg [h'])] => match handleE R h, handleE R h' with
    | some t, some u => bif hasN R.impls u t then some (.bool true, M) else none
    | _, _ => none
  | .assignable, [.agg [h], .iface _ (.agg [h'])] => match handleE R h, handleE R h' with
    | some t, some u => bif Nat.beq t u && (lookN R.elems t).isSome then some (.bool true, M) else none
    | _, _ => none
  | _, _ => none

def callOp (E : Env) (call : Nat → List AVal → Mem → Option (AVal × Mem)) (F : Fr) (M : Mem) (c : Call) : Option (AVal × Mem) :=
  match target E M.get F c with
  | some (f, args) => match E.fn f with
    | some _ => call f args M
    | none => match E.ext f with
      | some x => retV M (extRun x args)
      | none => match E.ref f with
        | some r => refRun E E.rft r M args
        | none => none
  | none => none

/-- One operation. -/
def doOp (E : Env) (call : Nat → List AVal → Mem → Option (AVal × Mem)) (F : Fr) (M : Mem) (o : Op) : Option (AVal × Mem) :=
  match cls E o with
  | .none => retV M (rd E noLook F o)
  | .look => retV M (rd E M.get F o)
  | .fresh => retF M (fresh E F o)
  | .eff => eff E F M o
  | .call c => callOp E call F M c

def stepOp (E : Env) (call : Nat → List AVal → Mem → Option (AVal × Mem)) (ops : List Oper) (o : Oper) (F : Fr) (M : Mem) : Option (AVal × Mem) :=
  bif wantedE ops F o then doOp E call F M o.op else some (.undef, M)

def runOps (E : Env) (call : Nat → List AVal → Mem → Option (AVal × Mem)) (ops : List Oper) : List Oper → Fr → Mem → Option (Fr × Mem)
  | [], F, M => some (F, M)
  | o :: rest, F, M => match stepOp E call ops o F M with
    | some (v, M') => runOps E call ops rest (F.put o.dst v) M'
    | none => none

/-- a deferred call of a function that does nothing where nothing panics -/
def quietOp (E : Env) (F : Fr) (c : Call) : Bool :=
  match c.callee with
  | .value x => match ev E F x with
    | some (.func (.func g) _ _) => (E.fn g).isSome && E.quiet g
    | _ => false
  | _ => false

def stepOpD (E : Env) (call : Nat → List AVal → Mem → Option (AVal × Mem)) (ops : List Oper) (o : Oper) (F : Fr) (M : Mem) : Option (AVal × Mem) :=
  match o.op with
  | .defer c => bif wantedE ops F o then (bif quietOp E F c then some (.undef, M) else none) else some (.undef, M)
  | _ => stepOp E call ops o F M

def runOpsD (E : Env) (call : Nat → List AVal → Mem → Option (AVal × Mem)) (ops : List Oper) : List Oper → Fr → Mem → Option (Fr × Mem)
  | [], F, M => some (F, M)
  | o :: rest, F, M => match stepOpD E call ops o F M with
    | some (v, M') => runOpsD E call ops rest (F.put o.dst v) M'
    | none => none

def isDefer (o : Op) : Bool := match o with
  | .defer _ => true
  | _ => false
def hasDefer (ops : List Oper) : Bool := ops.any fun o => isDefer o.op

structure Rec where
  on : Bool
  o : Oper
  F : Fr
  M : Mem
  v : AVal
  M' : Mem

def runRecs (E : Env) (call : Nat → List AVal → Mem → Option (AVal × Mem)) (ops : List Oper) : List Oper → Fr → Mem → Option (List Rec × Fr × Mem)
  | [], F, M => some ([], F, M)
  | o :: rest, F, M => match stepOp E call ops o F M with
    | some (v, M') => match runRecs E call ops rest (F.put o.dst v) M' with
      | some (rs, F', M'') => some (⟨wantedE ops F o, o, F, M, v, M'⟩ :: rs, F', M'')
      | none => none
    | none => none

mutual
def AVal.eqb : AVal → AVal → Bool
  | .bool a, .bool b => a == b
  | .int k a, .int k' b => k == k' && a == b
  | .float k a, .float k' b => k == k' && a == b
  | .str a, .str b => listEq a b
  | .ptr none, .ptr none => true
  | .ptr (some (a, b)), .ptr (some (c, d)) => Nat.beq a c && Nat.beq b d
  | .slice none l c o, .slice none l' c' o' => Nat.beq l l' && Nat.beq c c' && o == o'
  | .slice (some (a, b)) l c o, .slice (some (a', b')) l' c' o' => Nat.beq a a' && Nat.beq b b' && Nat.beq l l' && Nat.beq c c' && o == o'
  | .map none, .map none => true
  | .map (some a), .map (some b) => Nat.beq a b
  | .nilFunc, .nilFunc => true
  | .nilIface, .nilIface => true
  | .iface t v, .iface u w => Nat.beq t u && AVal.eqb v w
  | .agg a, .agg b => AVal.eqbs a b
  | .tuple a, .tuple b => AVal.eqbs a b
  | .func f a b, .func g c d => decide (f = g) && AVal.eqbs a c && AVal.eqbs b d
  | .opq i, .opq j => Nat.beq i j
  | .rng k lo hi i, .rng k' lo' hi' j => k == k' && lo == lo' && hi == hi' && Nat.beq i j
  | _, _ => false
def AVal.eqbs : List AVal → List AVal → Bool
  | [], [] => true
  | a :: as, b :: bs => AVal.eqb a b && AVal.eqbs as bs
  | _, _ => false
end

def edgesOf (o : Oper) : List Nat := o.after.toList.filterMap fun e => bif Region.binds .any e then some e.on else none

def maskOf (acc : Trie Nat) : List Nat → Nat → Nat
  | [], m => m
  | e :: es, m => maskOf acc es (m ||| (1 <<< e) ||| (match acc.get e with | some x => x | none => 0))

def edgesDown (i : Nat) : List Nat → Bool
  | [] => true
  | e :: es => Nat.blt e i && edgesDown i es

/-- to each operation what it waits for, by bits -/
def masks : List Oper → Nat → Trie Nat → Option (List Nat)
  | [], _, _ => some []
  | o :: os, i, acc =>
    let es := edgesOf o
    bif edgesDown i es then
      let m := maskOf acc es 0
      match masks os (i + 1) (acc.set i (some m)) with
      | some l => some (m :: l)
      | none => none
    else none

def same (x : Option AVal) (v : AVal) : Bool := match x with
  | some y => AVal.eqb y v
  | none => false

/-- must the pair be looked at when it has run? -/
def risky : Cls → Cls → Bool
  | .eff, .eff => true
  | .eff, .call _ => true
  | .call _, .eff => true
  | .call _, .call _ => true
  | .fresh, .eff => true
  | .fresh, .call _ => true
  | .look, .eff => true
  | .look, .call _ => true
  | .eff, .look => true
  | .call _, .look => true
  | _, _ => false

def planRow (E : Env) (ops : Array Oper) (i : Nat) (o : Oper) : List Oper → List Nat → Nat → Option (List (Nat × Nat)) → Option (List (Nat × Nat))
  | [], _, _, r => r
  | _ :: _, [], _, _ => none
  | s :: os, m :: ms, j, r =>
    bif Nat.testBit m i then planRow E ops i o os ms (j + 1) r
    else bif Oper.apart ops o s then
      match planRow E ops i o os ms (j + 1) r with
      | some l => some (bif risky (cls E o.op) (cls E s.op) then (i, j) :: l else l)
      | none => none
    else none

def planAll (E : Env) (ops : Array Oper) : List Oper → List Nat → Nat → Option (List (Nat × Nat))
  | [], _, _ => some []
  | _ :: _, [], _ => none
  | o :: os, _ :: ms, i => planRow E ops i o os ms (i + 1) (planAll E ops os ms (i + 1))

def noSel (ops : List Oper) : Bool := ops.all fun o => match o.op with | .select .. => false | _ => true

/-- Which pairs of a region are not ordered and must be looked at when it has run (none: it is not taken). -/
def plan (E : Env) (ops : Array Oper) : Option (List (Nat × Nat)) :=
  bif noSel ops.toList then
    match masks ops.toList 0 .nil with
    | some ms => planAll E ops ops.toList ms 0
    | none => none
  else none

def still (E : Env) (r s : Rec) : Bool := same (rd E s.M.get r.F r.o.op) r.v && same (rd E s.M'.get r.F r.o.op) r.v

def pairOK (E : Env) (ri rj : Rec) : Bool :=
  bif ri.on && rj.on then
    match cls E ri.o.op, cls E rj.o.op with
    | .look, _ => still E ri rj
    | _, .look => still E rj ri
    | _, _ => false
  else true

def pairsOK (E : Env) (rs : List Rec) : List (Nat × Nat) → Bool
  | [] => true
  | (i, j) :: l => match rs[i]?, rs[j]? with
    | some ri, some rj => pairOK E ri rj && pairsOK E rs l
    | _, _ => false

def region (E : Env) (call : Nat → List AVal → Mem → Option (AVal × Mem)) (ops : Array Oper) (draw : Bool) (F : Fr) (M : Mem) : Option (Fr × Mem) :=
  bif draw then
    match plan E ops with
    | some [] => runOps E call ops.toList ops.toList F M
    | some ps => match runRecs E call ops.toList ops.toList F M with
      | some (rs, F', M') => bif pairsOK E rs ps then some (F', M') else none
      | none => none
    | none => none
  else bif hasDefer ops.toList then runOpsD E call ops.toList ops.toList F M else runOps E call ops.toList ops.toList F M

inductive Ex where
  | normal
  | exit (id : Nat)
  | goto (l : Nat)
  | ret

def iter (body : Fr → Mem → Option (Ex × Fr × Mem)) : Nat → Fr → Mem → Option (Ex × Fr × Mem)
  | 0, _, _ => none
  | n + 1, F, M => match body F M with
    | some (.normal, F', M') => iter body n F' M'
    | r => r

def code (E : Env) (n : Nat) (call : Nat → List AVal → Mem → Option (AVal × Mem)) : Code → Fr → Mem → Option (Ex × Fr × Mem)
  | .skip, F, M => some (.normal, F, M)
  | .region _ ops d, F, M => match region E call ops d F M with
    | some (F', M') => some (.normal, F', M')
    | none => none
  | .seq a b, F, M => match code E n call a F M with
    | some (.normal, F', M') => code E n call b F' M'
    | r => r
  | .cond c a b, F, M => match ev E F c with
    | some (.bool t) => bif t then code E n call a F M else code E n call b F M
    | _ => none
  | .block id b, F, M => match code E n call b F M with
    | some (.exit i, F', M') => bif Nat.beq i id then some (.normal, F', M') else some (.exit i, F', M')
    | r => r
  | .loop b, F, M => iter (code E n call b) n F M
  | .exit id, F, M => some (.exit id, F, M)
  | .ret, F, M => some (.ret, F, M)
  | .label _, F, M => some (.normal, F, M)
  | .goto l, F, M => some (.goto l, F, M)
  | _, _, _ => none

def results1 (E : Env) (F : Fr) (M : Mem) : ResultVar → Option AVal
  | .tmp t => some (F.get t)
  | .cell a t => loadV E M.get t (F.get a)

def results (E : Env) (F : Fr) (M : Mem) (l : List ResultVar) : Option AVal :=
  match optMap (results1 E F M) l with
  | some [v] => some v
  | some vs => some (.tuple vs)
  | none => none

def enter (fn : Func) (args : List AVal) : Fr := Fr.ofArgs args 0 ⟨.nil, args.length + (fn.ntmps - args.length)⟩

def callE (E : Env) (N : Nat) : Nat → Nat → List AVal → Mem → Option (AVal × Mem)
  | 0, _, _, _ => none
  | n + 1, f, args, M => match E.fn f with
    | some fn => match fn.body with
      | some c => match code E N (callE E N n) c (enter fn args) M with
        | some (.normal, F, M') | some (.ret, F, M') => match results E F M' fn.results.toList with
          | some v => some (v, M')
          | none => none
        | _ => none
      | none => none
    | none => none

end Go.Ev
