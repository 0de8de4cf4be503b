/- A part of the proof that an evaluator of the machine's code is sound (EvK). No conditions. -/
import Derived.Test.YtnklododmdplmaaGreatDoorEvCode
namespace Go.Ev

/-! a fast twin of the evaluator: closures, continuations, trees with eight branches -/

structure N8 (α : Type) where
  a0 : α
  a1 : α
  a2 : α
  a3 : α
  a4 : α
  a5 : α
  a6 : α
  a7 : α

structure Lens (α : Type) where
  g : N8 α → α
  u : (α → α) → N8 α → N8 α

noncomputable def lens (α : Type) (d : Nat) : Lens α :=
  @Nat.casesOn (fun _ => Lens α) d ⟨fun n => n.a0, fun f n => ⟨f n.a0, n.a1, n.a2, n.a3, n.a4, n.a5, n.a6, n.a7⟩⟩ fun d =>
  @Nat.casesOn (fun _ => Lens α) d ⟨fun n => n.a1, fun f n => ⟨n.a0, f n.a1, n.a2, n.a3, n.a4, n.a5, n.a6, n.a7⟩⟩ fun d =>
  @Nat.casesOn (fun _ => Lens α) d ⟨fun n => n.a2, fun f n => ⟨n.a0, n.a1, f n.a2, n.a3, n.a4, n.a5, n.a6, n.a7⟩⟩ fun d =>
  @Nat.casesOn (fun _ => Lens α) d ⟨fun n => n.a3, fun f n => ⟨n.a0, n.a1, n.a2, f n.a3, n.a4, n.a5, n.a6, n.a7⟩⟩ fun d =>
  @Nat.casesOn (fun _ => Lens α) d ⟨fun n => n.a4, fun f n => ⟨n.a0, n.a1, n.a2, n.a3, f n.a4, n.a5, n.a6, n.a7⟩⟩ fun d =>
  @Nat.casesOn (fun _ => Lens α) d ⟨fun n => n.a5, fun f n => ⟨n.a0, n.a1, n.a2, n.a3, n.a4, f n.a5, n.a6, n.a7⟩⟩ fun d =>
  @Nat.casesOn (fun _ => Lens α) d ⟨fun n => n.a6, fun f n => ⟨n.a0, n.a1, n.a2, n.a3, n.a4, n.a5, f n.a6, n.a7⟩⟩ fun _ =>
   ⟨fun n => n.a7, fun f n => ⟨n.a0, n.a1, n.a2, n.a3, n.a4, n.a5, n.a6, f n.a7⟩⟩

abbrev T8 := N8 (N8 (N8 AVal))
abbrev H8 := N8 (N8 (N8 (N8 (Option AObj))))

structure GetK where
  get : T8 → AVal
structure SetK where
  set : AVal → T8 → T8
structure GetsK where
  get : T8 → List AVal
structure GetPK where
  get : T8 → List (Nat × AVal)
structure GetOK where
  get : T8 → Option AVal

noncomputable def mkGet (i : Nat) : GetK := ⟨fun t => (lens AVal (Nat.mod i 8)).g ((lens (N8 AVal) (Nat.mod (Nat.div i 8) 8)).g ((lens (N8 (N8 AVal)) (Nat.div i 64)).g t))⟩
noncomputable def mkSet (i : Nat) : SetK := ⟨fun v t => (lens (N8 (N8 AVal)) (Nat.div i 64)).u ((lens (N8 AVal) (Nat.mod (Nat.div i 8) 8)).u ((lens AVal (Nat.mod i 8)).u (fun _ => v))) t⟩
def fill8 {α : Type} (x : α) : N8 α := ⟨x, x, x, x, x, x, x, x⟩
def t0 : T8 := fill8 (fill8 (fill8 .undef))
def h0 : H8 := fill8 (fill8 (fill8 (fill8 none)))

noncomputable def bsel {α : Type} (b : Bool) (y n : α) : α := @Bool.rec (fun _ => α) n y b

noncomputable def hget (h : H8) (b : Nat) : Option AObj :=
  bsel (Nat.ble b 4095)
    ((lens (Option AObj) (Nat.mod b 8)).g ((lens (N8 (Option AObj)) (Nat.mod (Nat.div b 8) 8)).g ((lens (N8 (N8 (Option AObj))) (Nat.mod (Nat.div b 64) 8)).g ((lens (N8 (N8 (N8 (Option AObj)))) (Nat.div b 512)).g h))))
    none
noncomputable def hput (h : H8) (b : Nat) (o : Option AObj) : H8 :=
  (lens (N8 (N8 (N8 (Option AObj)))) (Nat.div b 512)).u ((lens (N8 (N8 (Option AObj))) (Nat.mod (Nat.div b 64) 8)).u ((lens (N8 (Option AObj)) (Nat.mod (Nat.div b 8) 8)).u ((lens (Option AObj) (Nat.mod b 8)).u (fun _ => o)))) h

structure MK where
  heap : H8
  next : Nat

/-! continuations -/

noncomputable def onO {α : Type} (x : Option α) (f : α → Bool) : Bool := @Option.rec α (fun _ => Bool) false f x
noncomputable def andK (a b : Bool) : Bool := @Bool.rec (fun _ => Bool) false b a

def onBool (x : AVal) (f : Bool → Bool) : Bool := @AVal.casesOn (fun _ => Bool) x f (fun _ _ => false) (fun _ _ => false) (fun _ => false) (fun _ => false) (fun _ _ _ _ => false) (fun _ => false) (fun _ _ _ => false) false (fun _ _ => false) false (fun _ => false) (fun _ => false) (fun _ => false) (fun _ _ _ _ => false) false
def onInt (x : AVal) (f : IntKind → Int → Bool) : Bool := @AVal.casesOn (fun _ => Bool) x (fun _ => false) f (fun _ _ => false) (fun _ => false) (fun _ => false) (fun _ _ _ _ => false) (fun _ => false) (fun _ _ _ => false) false (fun _ _ => false) false (fun _ => false) (fun _ => false) (fun _ => false) (fun _ _ _ _ => false) false
def onStr (x : AVal) (f : List Nat → Bool) : Bool := @AVal.casesOn (fun _ => Bool) x (fun _ => false) (fun _ _ => false) (fun _ _ => false) f (fun _ => false) (fun _ _ _ _ => false) (fun _ => false) (fun _ _ _ => false) false (fun _ _ => false) false (fun _ => false) (fun _ => false) (fun _ => false) (fun _ _ _ _ => false) false
def onIntR (x : AVal) (f : IntKind → Int → Bool) (alt : Bool) : Bool := @AVal.casesOn (fun _ => Bool) x (fun _ => false) f (fun _ _ => false) (fun _ => false) (fun _ => false) (fun _ _ _ _ => false) (fun _ => false) (fun _ _ _ => false) false (fun _ _ => false) false (fun _ => false) (fun _ => false) (fun _ => false) (fun _ _ _ _ => alt) false
noncomputable def onPtr (x : AVal) (f : Nat → Nat → Bool) : Bool := @AVal.casesOn (fun _ => Bool) x (fun _ => false) (fun _ _ => false) (fun _ _ => false) (fun _ => false) (fun p => onO p fun q => @Prod.rec Nat Nat (fun _ => Bool) f q) (fun _ _ _ _ => false) (fun _ => false) (fun _ _ _ => false) false (fun _ _ => false) false (fun _ => false) (fun _ => false) (fun _ => false) (fun _ _ _ _ => false) false
def onSlice (x : AVal) (f : Option (Nat × Nat) → Nat → Bool) : Bool := @AVal.casesOn (fun _ => Bool) x (fun _ => false) (fun _ _ => false) (fun _ _ => false) (fun _ => false) (fun _ => false) (fun p n _ _ => f p n) (fun _ => false) (fun _ _ _ => false) false (fun _ _ => false) false (fun _ => false) (fun _ => false) (fun _ => false) (fun _ _ _ _ => false) false
def onSliceR (x : AVal) (f : Option (Nat × Nat) → Nat → Bool) (alt : Bool) : Bool := @AVal.casesOn (fun _ => Bool) x (fun _ => false) (fun _ _ => false) (fun _ _ => false) (fun _ => false) (fun _ => false) (fun p n _ _ => f p n) (fun _ => false) (fun _ _ _ => false) false (fun _ _ => false) false (fun _ => false) (fun _ => false) (fun _ => false) (fun _ _ _ _ => false) alt
def onAgg (x : AVal) (f : List AVal → Bool) : Bool := @AVal.casesOn (fun _ => Bool) x (fun _ => false) (fun _ _ => false) (fun _ _ => false) (fun _ => false) (fun _ => false) (fun _ _ _ _ => false) (fun _ => false) (fun _ _ _ => false) false (fun _ _ => false) false f (fun _ => false) (fun _ => false) (fun _ _ _ _ => false) false
def onTuple (x : AVal) (f : List AVal → Bool) : Bool := @AVal.casesOn (fun _ => Bool) x (fun _ => false) (fun _ _ => false) (fun _ _ => false) (fun _ => false) (fun _ => false) (fun _ _ _ _ => false) (fun _ => false) (fun _ _ _ => false) false (fun _ _ => false) false (fun _ => false) f (fun _ => false) (fun _ _ _ _ => false) false
noncomputable def onNil (x : AVal) (f : Bool) : Bool := @AVal.casesOn (fun _ => Bool) x (fun _ => false) (fun _ _ => false) (fun _ _ => false) (fun _ => false) (fun p => onO p fun _ => f) (fun _ _ _ _ => false) (fun _ => false) (fun fn _ _ => match fn with | .func _ => f | _ => false) false (fun _ _ => false) false (fun _ => false) (fun _ => false) (fun _ => false) (fun _ _ _ _ => false) false
noncomputable def forceN (n : Nat) (k : Nat → Bool) : Bool := @Nat.rec (fun _ => Bool) (k 0) (fun m _ => k (Nat.succ m)) n
noncomputable def forceI (i : Int) (k : Int → Bool) : Bool := @Int.rec (fun _ => Bool) (fun m => forceN m fun m => k (Int.ofNat m)) (fun m => forceN m fun m => k (Int.negSucc m)) i
noncomputable def onNat (i : Int) (k : Nat → Bool) : Bool := @Int.rec (fun _ => Bool) k (fun _ => false) i

noncomputable def nthK {α : Type} (l : List α) : Nat → (α → Bool) → Bool := @List.rec α (fun _ => Nat → (α → Bool) → Bool) (fun _ _ => false) (fun x _ ih i κ => @Nat.rec (fun _ => Bool) (κ x) (fun j _ => ih j κ) i) l
noncomputable def dropK {α : Type} (i : Nat) : List α → List α := @Nat.rec (fun _ => List α → List α) (fun l => l) (fun _ ih l => @List.rec α (fun _ => List α) [] (fun _ xs _ => ih xs) l) i
noncomputable def takeK {α : Type} (n : Nat) : List α → (List α → Bool) → Bool :=
  @Nat.rec (fun _ => List α → (List α → Bool) → Bool) (fun _ κ => κ []) (fun _ ih l κ => @List.rec α (fun _ => Bool) false (fun x xs _ => ih xs fun r => κ (x :: r)) l) n
noncomputable def setNthK {α : Type} (v : α) (l : List α) : Nat → (List α → Bool) → Bool :=
  @List.rec α (fun _ => Nat → (List α → Bool) → Bool) (fun _ _ => false) (fun x xs ih i κ => @Nat.rec (fun _ => Bool) (κ (v :: xs)) (fun j _ => ih j fun r => κ (x :: r)) i) l
noncomputable def onCells (o : Option AObj) (f : List AVal → TypeId → Option Nat → Bool → Bool) : Bool :=
  onO o fun o => @AObj.casesOn (fun _ => Bool) o f (fun _ _ => false) (fun _ _ => false)

/-! operands -/

noncomputable def evK (E : Env) (x : Operand) : Option GetK :=
  match x with
  | .tmp t => bsel (Nat.blt t 512) (some (mkGet t)) none
  | .const v => match ofVal 4 v with
    | some a => some ⟨fun _ => a⟩
    | none => none
  | .global g => bsel (Nat.blt g E.ng) (some ⟨fun _ => .ptr (some (g, 0))⟩) none
  | .func f => some ⟨fun _ => .func (.func f) [] []⟩

noncomputable def evsK (E : Env) : List Operand → Option GetsK
  | [] => some ⟨fun _ => []⟩
  | x :: l => match evK E x, evsK E l with
    | some a, some b => some ⟨fun t => a.get t :: b.get t⟩
    | _, _ => none

noncomputable def evPartsK (E : Env) : List (Nat × Operand) → Option GetPK
  | [] => some ⟨fun _ => []⟩
  | (i, x) :: l => match evK E x, evPartsK E l with
    | some a, some b => some ⟨fun t => (i, a.get t) :: b.get t⟩
    | _, _ => none

noncomputable def evoK (E : Env) : Option Operand → Option GetOK
  | none => some ⟨fun _ => none⟩
  | some x => match evK E x with
    | some a => some ⟨fun t => some (a.get t)⟩
    | none => none

/-! what looks -/

structure RdK where
  f : (Nat → Option AObj) → T8 → (AVal → Bool) → Bool

noncomputable def kEq (a b : IntKind) : Bool := decide (a = b)

/-- the largest number of a kind that is not wrapped, if it is one of the common ones -/
def topOf : IntKind → Nat
  | .i64 => 9223372036854775807
  | .i32 => 2147483647
  | .i16 => 32767
  | .i8 => 127
  | .u64 => 18446744073709551615
  | .u32 => 4294967295
  | .u16 => 65535
  | .u8 => 255

structure WrapK where
  w : Int → (Int → Bool) → Bool

noncomputable def mkWrap (k : IntKind) : WrapK :=
  let top := topOf k
  ⟨fun i κ => @Int.rec (fun _ => Bool) (fun m => forceN m fun m => bsel (Nat.ble m top) (κ (Int.ofNat m)) (forceI (k.wrap (Int.ofNat m)) κ)) (fun m => forceI (k.wrap (Int.negSucc m)) κ) i⟩

noncomputable def addI (a b : Int) : Int := @Int.rec (fun _ => Int) (fun m => @Int.rec (fun _ => Int) (fun n => Int.ofNat (Nat.add m n)) (fun n => Int.add (Int.ofNat m) (Int.negSucc n)) b) (fun m => Int.add (Int.negSucc m) b) a
noncomputable def subI (a b : Int) : Int := @Int.rec (fun _ => Int) (fun m => @Int.rec (fun _ => Int) (fun n => bsel (Nat.ble n m) (Int.ofNat (Nat.sub m n)) (Int.sub (Int.ofNat m) (Int.ofNat n))) (fun n => Int.sub (Int.ofNat m) (Int.negSucc n)) b) (fun m => Int.sub (Int.negSucc m) b) a
noncomputable def ltI (a b : Int) : Bool := @Int.rec (fun _ => Bool) (fun m => @Int.rec (fun _ => Bool) (fun n => Nat.ble (Nat.succ m) n) (fun _ => false) b) (fun m => @Int.rec (fun _ => Bool) (fun _ => true) (fun n => Nat.ble (Nat.succ n) m) b) a
noncomputable def eqI (a b : Int) : Bool := @Int.rec (fun _ => Bool) (fun m => @Int.rec (fun _ => Bool) (fun n => Nat.beq m n) (fun _ => false) b) (fun m => @Int.rec (fun _ => Bool) (fun _ => false) (fun n => Nat.beq m n) b) a
noncomputable def notK (a : Bool) : Bool := @Bool.rec (fun _ => Bool) true false a

structure IntF where
  f : Int → Int → (AVal → Bool) → Bool

noncomputable def intF (op : BinOp) (k : IntKind) : IntF :=
  match op with
  | .add => ⟨fun a b κ => (mkWrap k).w (addI a b) fun n => κ (.int k n)⟩
  | .sub => ⟨fun a b κ => (mkWrap k).w (subI a b) fun n => κ (.int k n)⟩
  | .eql => ⟨fun a b κ => κ (.bool (eqI a b))⟩
  | .neq => ⟨fun a b κ => κ (.bool (notK (eqI a b)))⟩
  | .lss => ⟨fun a b κ => κ (.bool (ltI a b))⟩
  | .leq => ⟨fun a b κ => κ (.bool (notK (ltI b a)))⟩
  | .gtr => ⟨fun a b κ => κ (.bool (ltI b a))⟩
  | .geq => ⟨fun a b κ => κ (.bool (notK (ltI a b)))⟩
  | op => ⟨fun a b κ => onO (intBin op k a b) κ⟩

def isShift : BinOp → Bool
  | .shl | .shr => true
  | _ => false

noncomputable def binK (E : Env) (op : BinOp) (t : Nat) (x y : Operand) : Option RdK :=
  match evK E x, evK E y with
  | some a, some b =>
    let cx := isConst x
    let cy := isConst y
    match isShift op, E.under t with
    | false, some (.int k) =>
      let F := intF op k
      some ⟨fun _ s κ => onIntR (a.get s) (fun k1 m => onIntR (b.get s) (fun k2 n => bsel (kEq k1 k) (bsel (kEq k2 k) (F.f m n κ) false) false) (onO (bin E op t cx cy (a.get s) (b.get s)) κ)) (onO (bin E op t cx cy (a.get s) (b.get s)) κ)⟩
    | _, _ => some ⟨fun _ s κ => onO (bin E op t cx cy (a.get s) (b.get s)) κ⟩
  | _, _ => none

noncomputable def fieldAddrK (E : Env) (t : Nat) (x : Operand) (i : Nat) : Option RdK :=
  match evK E x, E.fields t with
  | some a, some fs => match fs[i]? with
    | some f =>
      match E.size f.type with
      | some s =>
        let o := f.offset
        bsel (Nat.beq s 0) none (some ⟨fun _ t κ => onPtr (a.get t) fun b off => forceN (Nat.add off o) fun off => κ (.ptr (some (b, off)))⟩)
      | none => none
    | none => none
  | _, _ => none

noncomputable def indexAddrK (E : Env) (t : Nat) (x ix : Operand) : Option RdK :=
  match evK E x, evK E ix, E.under t with
  | some a, some i, some (.slice e) => match E.size e with
    | some s => some ⟨fun _ t κ => onSlice (a.get t) fun p n => onO p fun q => @Prod.rec Nat Nat (fun _ => Bool) (fun b off => onInt (i.get t) fun _ j => onNat j fun j => bsel (Nat.ble (Nat.succ j) n) (forceN (Nat.add off (Nat.mul j s)) fun off => κ (.ptr (some (b, off)))) false) q⟩
    | none => none
  | some a, some i, some (.array n e) => match E.size e with
    | some s => some ⟨fun _ t κ => onPtr (a.get t) fun b off => onInt (i.get t) fun _ j => onNat j fun j => bsel (Nat.ble (Nat.succ j) n) (forceN (Nat.add off (Nat.mul j s)) fun off => κ (.ptr (some (b, off)))) false⟩
    | none => none
  | _, _, _ => none

noncomputable def loadK (E : Env) (t : Nat) (a : GetK) : Option RdK :=
  match E.under t, E.size t with
  | some d, some n =>
    match isAggD d with
    | true => bsel (Nat.beq n 0) none (some ⟨fun g s κ => onPtr (a.get s) fun b off => onCells (g b) fun c _ _ _ => takeK n (dropK off c) fun cs => κ (.agg cs)⟩)
    | false => some ⟨fun g s κ => onPtr (a.get s) fun b off => onCells (g b) fun c _ _ _ => nthK c off κ⟩
  | _, _ => none

noncomputable def fieldK (E : Env) (t : Nat) (x : Operand) (i : Nat) : Option RdK :=
  match evK E x, E.fields t with
  | some a, some fs => match fs[i]? with
    | some f => some ⟨fun _ s κ => onAgg (a.get s) fun cs => onO (part E f.type cs f.offset) κ⟩
    | none => none
  | _, _ => none

noncomputable def indexK (E : Env) (t : Nat) (x ix : Operand) : Option RdK :=
  match evK E x, evK E ix, E.under t with
  | some a, some i, some .string => some ⟨fun _ s κ => onStr (a.get s) fun l => onInt (i.get s) fun _ j => onNat j fun j => nthK l j fun c => κ (.int .u8 (Int.ofNat c))⟩
  | some a, some i, some (.array n e) => match E.size e with
    | some z => some ⟨fun _ s κ => onAgg (a.get s) fun cs => onInt (i.get s) fun _ j => onNat j fun j => bsel (Nat.ble (Nat.succ j) n) (onO (part E e cs (Nat.mul j z)) κ) false⟩
    | none => none
  | _, _, _ => none

noncomputable def lenK (E : Env) (t : Nat) (a : GetK) : RdK :=
  match E.under t with
  | some .string => ⟨fun _ s κ => onStr (a.get s) fun l => forceN l.length fun n => κ (.int .i64 (Int.ofNat n))⟩
  | some (.slice _) => ⟨fun _ s κ => onSliceR (a.get s) (fun _ n => κ (.int .i64 (Int.ofNat n))) (κ (.int .i64 (Int.ofNat 0)))⟩
  | _ => ⟨fun g s κ => onO (lenV E g t (a.get s)) κ⟩

noncomputable def rdK (E : Env) (o : Op) : Option RdK :=
  match o with
  | .move x => (evK E x).map fun a => ⟨fun _ s κ => κ (a.get s)⟩
  | .assign x => (evK E x).map fun a => ⟨fun _ s κ => κ (a.get s)⟩
  | .pick c x y => match evK E c, evK E x, evK E y with
    | some c, some a, some b => some ⟨fun _ s κ => onBool (c.get s) fun q => bsel q (κ (a.get s)) (κ (b.get s))⟩
    | _, _, _ => none
  | .nilCheck x => (evK E x).map fun a => ⟨fun _ s κ => onNil (a.get s) (κ (a.get s))⟩
  | .binOp op t x y _ => binK E op t x y
  | .unOp op _ x => (evK E x).map fun a => ⟨fun _ s κ => onO (un op (a.get s)) κ⟩
  | .convert src dst x => (evK E x).map fun a => ⟨fun g s κ => onO (conv E g src dst (a.get s)) κ⟩
  | .makeInterface t x => match evK E x, E.under t with
    | some a, some d => match isIfaceD d with
      | true => none
      | false => some ⟨fun _ s κ => κ (.iface t (a.get s))⟩
    | _, _ => none
  | .makeFunc fn first cap => match evsK E first.toList, evsK E cap.toList with
    | some a, some b => some ⟨fun _ s κ => κ (.func fn (a.get s) (b.get s))⟩
    | _, _ => none
  | .extract x i => (evK E x).map fun a => ⟨fun _ s κ => onTuple (a.get s) fun vs => nthK vs i κ⟩
  | .typeAssert x _ t ok => (evK E x).map fun a => ⟨fun _ s κ => onO (assertE E t ok (a.get s)) κ⟩
  | .field t x i => fieldK E t x i
  | .index t x ix => indexK E t x ix
  | .fieldAddr t x i => fieldAddrK E t x i
  | .indexAddr t x ix => indexAddrK E t x ix
  | .slice t x lo hi mx => match evK E x, evoK E lo, evoK E hi, evoK E mx with
    | some a, some l, some h, some m => some ⟨fun _ s κ => onO (sliceV E t (a.get s) (l.get s) (h.get s) (m.get s)) κ⟩
    | _, _, _, _ => none
  | .build t ps => (evPartsK E ps.toList).map fun p => ⟨fun _ s κ => onO (buildV E t (p.get s)) κ⟩
  | .load t x => match evK E x with
    | some a => loadK E t a
    | none => none
  | .lookup t x k ok => match evK E x, evK E k with
    | some a, some b => some ⟨fun g s κ => onO (lookupV E g t (a.get s) (b.get s) ok) κ⟩
    | _, _ => none
  | .call c => match c.callee with
    | .builtin b => match b with
      | .len => match c.args.toList, c.argTypes.toList with
        | x :: _, t :: _ => (evK E x).map fun a => lenK E t a
        | _, _ => none
      | .cap => match c.args.toList, c.argTypes.toList with
        | x :: _, t :: _ => (evK E x).map fun a => ⟨fun _ s κ => onO (capV E t (a.get s)) κ⟩
        | _, _ => none
      | .min => match c.args.toList with
        | x :: xs => match evK E x, evsK E xs with
          | some a, some l => some ⟨fun _ s κ => onO (minmax false (a.get s) (l.get s)) κ⟩
          | _, _ => none
        | [] => none
      | .max => match c.args.toList with
        | x :: xs => match evK E x, evsK E xs with
          | some a, some l => some ⟨fun _ s κ => onO (minmax true (a.get s) (l.get s)) κ⟩
          | _, _ => none
        | [] => none
      | _ => none
    | _ => none
  | _ => none

/-! what lays a block -/

structure FreshK where
  f : T8 → (AObj → (Nat → AVal) → Bool) → Bool

noncomputable def onF (r : Option (AObj × (Nat → AVal))) (κ : AObj → (Nat → AVal) → Bool) : Bool := onO r fun p => κ p.1 p.2

def buildSliceW (E : Env) (t len : Nat) (parts : List (Nat × AVal)) : Option (AObj × (Nat → AVal)) :=
  match E.under t with
  | some (.slice e) => match E.size e, E.zero e with
    | some s, some z =>
      bif Nat.ble (len * s) 65536 && Nat.beq z.cells.length s then
        match fillF (fun i => some (i * s, s)) (replF len z.cells) parts with
        | some cs => some (.cells cs e none false, fun b => .slice (some (b, 0)) len len false)
        | none => none
      else none
    | _, _ => none
  | _ => none

def makeSliceW (E : Env) (t : Nat) (l c : AVal) : Option (AObj × (Nat → AVal)) :=
  match E.under t, l, c with
  | some (.slice e), .int .i64 len, .int .i64 cap => match E.info e, E.zero e with
    | some i, some z =>
      if 0 ≤ len ∧ len ≤ cap ∧ cap ≤ 1000000 ∧ i.bytes ≤ 100000 ∧ z.cells.length = i.size then
        some (.cells (replF cap.toNat z.cells) e none false, fun b => .slice (some (b, 0)) len.toNat cap.toNat false)
      else none
    | _, _ => none
  | _, _, _ => none

def rangeW (E : Env) (t : Nat) (x : AVal) : Option (AObj × (Nat → AVal)) :=
  match E.under t, x with
  | some .string, .str s => some (.strIter s 0, fun b => .ptr (some (b, 0)))
  | _, _ => none

def bytesW (E : Env) (s d : Nat) (x : AVal) : Option (AObj × (Nat → AVal)) :=
  match E.under s, E.under d, x with
  | some .string, some (.slice e), .str l => match E.under e with
    | some (.int .u8) => some (.cells (l.map fun c => .int .u8 (c : Nat)) e (some 1) false, fun b => .slice (some (b, 0)) l.length l.length true)
    | _ => none
  | _, _, _ => none

def isSeq : List (Nat × Operand) → Nat → Nat → Bool
  | [], k, n => Nat.beq k n
  | p :: l, k, n => Nat.beq p.1 k && isSeq l (k + 1) n

noncomputable def flatK (z : Nat) (l : List (Nat × AVal)) : (List AVal → Bool) → Bool :=
  @List.rec (Nat × AVal) (fun _ => (List AVal → Bool) → Bool) (fun κ => κ []) (fun p _ ih κ => bsel (Nat.beq p.2.cells.length z) (ih fun r => κ (p.2.cells ++ r)) false) l

noncomputable def buildSliceK (E : Env) (t len : Nat) (ps : List (Nat × Operand)) (p : GetPK) : FreshK :=
  match isSeq ps 0 len, E.under t with
  | true, some (.slice e) => match E.size e, E.zero e with
    | some z, some zv => bsel (Nat.ble (len * z) 65536 && Nat.beq zv.cells.length z) ⟨fun s κ => flatK z (p.get s) fun cs => κ (.cells cs e none false) fun b => .slice (some (b, 0)) len len false⟩ ⟨fun s κ => onF (buildSliceW E t len (p.get s)) κ⟩
    | _, _ => ⟨fun s κ => onF (buildSliceW E t len (p.get s)) κ⟩
  | _, _ => ⟨fun s κ => onF (buildSliceW E t len (p.get s)) κ⟩

noncomputable def freshK (E : Env) (o : Op) : Option FreshK :=
  match o with
  | .alloc t => match allocF E t with
    | some (ob, mk) => some ⟨fun _ κ => κ ob mk⟩
    | none => none
  | .box t x => (evK E x).map fun a => ⟨fun s κ => κ (.cells (a.get s).cells t none false) fun b => .ptr (some (b, 0))⟩
  | .buildSlice t len ps => (evPartsK E ps.toList).map fun p => buildSliceK E t len ps.toList p
  | .makeSlice t l c => match evK E l, evK E c with
    | some a, some b => some ⟨fun s κ => onF (makeSliceW E t (a.get s) (b.get s)) κ⟩
    | _, _ => none
  | .makeMap _ r => match r with
    | none => some ⟨fun _ κ => κ (.map [] 0) fun b => .map (some b)⟩
    | some _ => none
  | .range t x => (evK E x).map fun a => ⟨fun s κ => onF (rangeW E t (a.get s)) κ⟩
  | .convert src dst x => (evK E x).map fun a => ⟨fun s κ => onF (bytesW E src dst (a.get s)) κ⟩
  | _ => none

/-! what writes -/

inductive MOp where
  | put (b : Nat) (o : AObj)
  | kill (b : Nat)
  | add (o : AObj)

def MOp.app (M : Mem) : MOp → Mem
  | .put b o => M.put b o
  | .kill b => M.kill b
  | .add o => M.add o

def appAll : List MOp → Mem → Mem
  | [], M => M
  | o :: l, M => appAll l (o.app M)

noncomputable def appK (l : List MOp) : MK → (MK → Bool) → Bool :=
  @List.rec MOp (fun _ => MK → (MK → Bool) → Bool) (fun m κ => κ m) (fun o _ ih m κ => @MOp.rec (fun _ => Bool)
    (fun b o => forceN b fun b => bsel (Nat.ble b 4095) (ih ⟨hput m.heap b (some o), m.next⟩ κ) false)
    (fun b => forceN b fun b => bsel (Nat.ble b 4095) (ih ⟨hput m.heap b none, m.next⟩ κ) false)
    (fun o => forceN m.next fun n => bsel (Nat.ble n 4095) (ih ⟨hput m.heap n (some o), Nat.succ n⟩ κ) false) o) l

def putCellsO (g : Nat → Option AObj) (b off : Nat) (vs : List AVal) : Option (List MOp) :=
  match g b with
  | some (.cells c e opn false) =>
    bif Nat.ble (off + vs.length) c.length && vs.all AVal.isCell then some [.put b (.cells (setSeg c off vs) e opn false)] else none
  | _ => none

def storeO (E : Env) (g : Nat → Option AObj) (t : Nat) (a v : AVal) : Option (List MOp) :=
  match a, E.size t with
  | .ptr (some (b, off)), some n => bif Nat.beq v.cells.length n then putCellsO g b off v.cells else none
  | _, _ => none

def mapPutO (E : Env) (g : Nat → Option AObj) (t : Nat) (m k v : AVal) : Option (List MOp) :=
  match E.under t, m with
  | some (.map kt _), .map (some r) =>
    match E.under kt, g r with
    | some kd, some (.map es clock) =>
      bif plainKey kd then
        match findE kd k es 0 with
        | some (some (i, _)) => some [.put r (.map (setVal es i k v) clock)]
        | some none => some [.put r (.map (es ++ [⟨k, v, clock⟩]) (clock + 1))]
        | none => none
      else none
    | _, _ => none
  | _, _ => none

def mapEntryO (E : Env) (g : Nat → Option AObj) (t : Nat) (m k : AVal) : Option (AVal × List MOp) :=
  match E.under t, m with
  | some (.map kt et), .map (some r) =>
    match E.under kt, g r, E.zero et with
    | some kd, some (.map es clock), some z =>
      bif plainKey kd then
        match findE kd k es 0 with
        | some (some (i, v)) => match es[i]? with
          | some e => some (.tuple [v, .int .i64 e.born], [.put r (.map (setVal es i k e.val) clock)])
          | none => none
        | some none => some (.tuple [z, .int .i64 clock], [.put r (.map (es ++ [⟨k, z, clock⟩]) (clock + 1))])
        | none => none
      else none
    | _, _, _ => none
  | _, _ => none

def entryStoreO (g : Nat → Option AObj) (m s v : AVal) : Option (List MOp) :=
  match m, s with
  | .map (some r), .int _ b => match g r with
    | some (.map es clock) => if 0 ≤ b then (setBorn es b.toNat v).map fun es' => [.put r (.map es' clock)] else none
    | _ => none
  | _, _ => none

def nextO (g : Nat → Option AObj) (x : AVal) : Option (AVal × List MOp) :=
  match x with
  | .ptr (some (b, 0)) => match g b with
    | some (.strIter s pos) => match s[pos]? with
      | none => some (.tuple [.bool false], [])
      | some c => bif Nat.blt c 128 then some (.tuple [.bool true, .int .i64 pos, .int .i32 c], [.put b (.strIter s (pos + 1))]) else none
    | _ => none
  | _ => none

def firstCellsO (g : Nat → Option AObj) (s n : Nat) : AVal → Option (List AVal)
  | .slice (some (b, off)) _ _ _ => getCells g b off (n * s)
  | .slice none _ _ _ => some []
  | .str l => some ((l.take n).map fun c => .int .u8 (c : Nat))
  | .emp => bif Nat.beq n 0 then some [] else none
  | _ => none

def growO (g : Nat → Option AObj) (nx e s need : Nat) (base : Option (Nat × Nat)) (len cap : Nat) (opn : Bool) (new : List AVal) : Option (AVal × List MOp) :=
  match base with
  | none => some (.slice (some (nx, 0)) need need true, [.add (.cells new e (some s) false)])
  | some (b, off) =>
    match getCells g b off (len * s) with
    | none => none
    | some old =>
      bif opn then
        match g b with
        | some (.cells c eb (some s') false) =>
          bif Nat.beq s' s && Nat.beq eb e && Nat.beq c.length (off + cap * s) then
            some (.slice (some (nx, 0)) need need true, [.kill b, .add (.cells (old ++ new) e (some s) false)])
          else none
        | _ => none
      else some (.slice (some (nx, 0)) need need true, [.add (.cells (old ++ new) e (some s) false)])

def inplaceO (g : Nat → Option AObj) (s need n : Nat) (base : Option (Nat × Nat)) (len cap : Nat) (opn : Bool) (new : List AVal) : Option (AVal × List MOp) :=
  match base with
  | none => bif Nat.beq n 0 then some (.slice none need cap opn, []) else none
  | some (b, off) => (putCellsO g b (off + len * s) new).map fun l => (.slice (some (b, off)) need cap opn, l)

def appendO (E : Env) (g : Nat → Option AObj) (nx : Nat) (ts : List Nat) (args : List AVal) : Option (AVal × List MOp) :=
  match ts, args with
  | t :: tx :: _, [.slice base len cap opn, x] =>
    match E.under t, E.under tx with
    | some (.slice e), some dx =>
      bif isIntD dx then none else
      match E.info e, lenOf x with
      | some i, some n =>
        match firstCellsO g i.size n x with
        | none => none
        | some new =>
          bif Nat.beq new.length (n * i.size) && !Nat.beq i.size 0 then
            bif Nat.ble (len + n) cap then inplaceO g i.size (len + n) n base len cap opn new
            else bif Nat.ble (len + n) 1000000 && Nat.ble i.bytes 100000 && new.all AVal.isCell && zeroFits i then growO g nx e i.size (len + n) base len cap opn new
            else none
          else none
      | _, _ => none
    | _, _ => none
  | t :: tx :: _, [.emp, x] =>
    match E.under t, E.under tx with
    | some (.slice e), some dx =>
      bif isIntD dx then none else
      match E.info e, lenOf x with
      | some i, some n => match firstCellsO g i.size n x with
        | some [] => bif Nat.beq n 0 then some (.emp, []) else none
        | _ => none
      | _, _ => none
    | _, _ => none
  | _, _ => none

def copyO (E : Env) (g : Nat → Option AObj) (ts : List Nat) (args : List AVal) : Option (AVal × List MOp) :=
  match ts, args with
  | t :: _, [.slice base dlen _ _, x] =>
    match E.under t, lenOf x with
    | some (.slice e), some m => match E.size e with
      | some s =>
        match firstCellsO g s (Nat.min m dlen) x with
        | some cs => match base with
          | none => some (.int .i64 (Nat.min m dlen), [])
          | some (b, off) => (putCellsO g b off cs).map fun l => (.int .i64 (Nat.min m dlen), l)
        | none => none
      | none => none
    | _, _ => none
  | _, _ => none

def convSliceO (g : Nat → Option AObj) (x : AVal) : Option (AVal × List MOp) :=
  match x with
  | .slice (some (b, off)) n k o => match g b with
    | some (.cells c e opn false) => some (.slice (some (b, off)) n k o, [.put b (.cells c e opn false)])
    | _ => none
  | _ => none

structure EffK where
  f : T8 → MK → (AVal → MK → Bool) → Bool

noncomputable def onW (r : Option (List MOp)) (m : MK) (κ : AVal → MK → Bool) : Bool := onO r fun l => appK l m (κ .undef)
noncomputable def onVW (r : Option (AVal × List MOp)) (m : MK) (κ : AVal → MK → Bool) : Bool := onO r fun p => appK p.2 m (κ p.1)

noncomputable def storeK (E : Env) (t : Nat) (a x : GetK) : EffK :=
  match E.size t with
  | some 1 => ⟨fun s m κ => onPtr (a.get s) fun b off => onCells (hget m.heap b) fun c e opn ro => bsel ro false
      (@AVal.casesOn (fun _ => Bool → Bool) (x.get s) (fun _ f => f) (fun _ _ f => f) (fun _ _ f => f) (fun _ f => f) (fun _ f => f) (fun _ _ _ _ f => f) (fun _ f => f) (fun _ _ _ f => f) (fun f => f) (fun _ _ f => f) (fun f => f)
        (fun _ _ => onW (storeO E (hget m.heap) t (a.get s) (x.get s)) m κ) (fun _ _ => false) (fun _ f => f) (fun _ _ _ _ f => f) (fun f => f)
        (forceN b fun b => setNthK (x.get s) c off fun c => κ .undef ⟨hput m.heap b (some (.cells c e opn false)), m.next⟩))⟩
  | _ => ⟨fun s m κ => onW (storeO E (hget m.heap) t (a.get s) (x.get s)) m κ⟩

noncomputable def effK (E : Env) (o : Op) : Option EffK :=
  match o with
  | .store t a x => match evK E a, evK E x with
    | some a, some x => some (storeK E t a x)
    | _, _ => none
  | .mapUpdate t m k x => match evK E m, evK E k, evK E x with
    | some a, some b, some c => some ⟨fun s m κ => onW (mapPutO E (hget m.heap) t (a.get s) (b.get s) (c.get s)) m κ⟩
    | _, _, _ => none
  | .insert t m k x => match evK E m, evK E k, evK E x with
    | some a, some b, some c => some ⟨fun s m κ => onW (mapPutO E (hget m.heap) t (a.get s) (b.get s) (c.get s)) m κ⟩
    | _, _, _ => none
  | .mapEntry t m k => match evK E m, evK E k with
    | some a, some b => some ⟨fun s m κ => onVW (mapEntryO E (hget m.heap) t (a.get s) (b.get s)) m κ⟩
    | _, _ => none
  | .entryStore _ m z x => match evK E m, evK E z, evK E x with
    | some a, some b, some c => some ⟨fun s m κ => onW (entryStoreO (hget m.heap) (a.get s) (b.get s) (c.get s)) m κ⟩
    | _, _, _ => none
  | .next x b => match b, evK E x with
    | true, some a => some ⟨fun s m κ => onVW (nextO (hget m.heap) (a.get s)) m κ⟩
    | _, _ => none
  | .convert s d x => match sliceConv E s d, evK E x with
    | true, some a => some ⟨fun s m κ => onVW (convSliceO (hget m.heap) (a.get s)) m κ⟩
    | _, _ => none
  | .call c => match c.callee with
    | .builtin b => match b with
      | .append => (evsK E c.args.toList).map fun a => ⟨fun s m κ => forceN m.next fun nx => onVW (appendO E (hget m.heap) nx c.argTypes.toList (a.get s)) m κ⟩
      | .copy => (evsK E c.args.toList).map fun a => ⟨fun s m κ => onVW (copyO E (hget m.heap) c.argTypes.toList (a.get s)) m κ⟩
      | _ => none
    | _ => none
  | _ => none

/-! calls, regions, code -/

abbrev CallKT := Nat → List AVal → MK → (AVal → MK → Bool) → Bool

structure OpK where
  run : CallKT → T8 → MK → (AVal → MK → Bool) → Bool

def refO (E : Env) (R : RefT) (r : RefOp) (g : Nat → Option AObj) (nx : Nat) (args : List AVal) : Option (AVal × List MOp) :=
  match r, args with
  | .valueOf, [.iface t v] => match lookN R.kinds t with
    | some k => some (.agg [.ptr (some (R.g, t)), .ptr (some (nx, 0)), .int .u64 (Int.ofNat (k + 128 + 0))], [.add (.cells v.cells t none false)])
    | none => none
  | .vType, [.agg [h, .ptr (some _), .int .u64 f]] => match handleE R h, flagsE f with
    | some t, some _ => some (.iface R.rt (.agg [.ptr (some (R.g, t))]), [])
    | _, _ => none
  | .isNil, [.agg [h, .ptr (some p), .int .u64 f]] => match handleE R h, flagsE f with
    | some t, some n => bif Nat.beq (n % 32) 22 then
        match loadV E g t (.ptr (some p)) with
        | some (.ptr none) => some (.bool true, [])
        | some (.ptr (some _)) => some (.bool false, [])
        | _ => none
      else none
    | _, _ => none
  | .vElem, [.agg [h, .ptr (some p), .int .u64 f]] => match handleE R h, flagsE f with
    | some t, some n => bif Nat.beq (n % 32) 22 then
        match loadV E g t (.ptr (some p)), lookN R.elems t with
        | some (.ptr (some q)), some e => match lookN R.kinds e with
          | some k => some (.agg [.ptr (some (R.g, e)), .ptr (some q), .int .u64 (Int.ofNat (k + 128 + 256))], [])
          | none => none
        | _, _ => none
      else none
    | _, _ => none
  | .vSet, [.agg [h, .ptr (some p), .int .u64 f], .agg [h', .ptr (some q), .int .u64 f']] => match handleE R h, flagsE f, handleE R h', flagsE f' with
    | some t, some n, some t', some _ => bif Nat.beq t t' && Nat.beq ((n / 256) % 2) 1 then
        match loadV E g t (.ptr (some q)) with
        | some v => match storeO E g t (.ptr (some p)) v with
          | some l => some (.tuple [], l)
          | none => none
        | none => none
      else none
    | _, _, _, _ => none
  | .typeOf, [.iface t _] => match lookN R.kinds t with
    | some _ => some (.iface R.rt (.agg [.ptr (some (R.g, t))]), [])
    | none => none
  | .kind, [h] => match handleE R h with
    | some t => match lookN R.kinds t with
      | some k => some (.int .u8 (Int.ofNat k), [])
      | none => none
    | none => none
  | .rElem, [.agg [h]] => match handleE R h with
    | some t => match lookN R.elems t with
      | some e => some (.iface R.rt (.agg [.ptr (some (R.g, e))]), [])
      | none => none
    | none => none
  | .implements, [.agg [h], .iface _ (.agg [h'])] => match handleE R h, handleE R h' with
    | some t, some u => bif hasN R.impls u t then some (.bool true, []) else none
    | _, _ => none
  | .assignable, [.agg [h], .iface _ (.agg [h'])] => match handleE R h, handleE R h' with
    | some t, some u => bif Nat.beq t u && (lookN R.elems t).isSome then some (.bool true, []) else none
    | _, _ => none
  | _, _ => none

noncomputable def goK (E : Env) (call : CallKT) (f : Nat) (args : List AVal) (m : MK) (κ : AVal → MK → Bool) : Bool :=
  @Option.rec Func (fun _ => Bool) (@Option.rec Ext (fun _ => Bool) (onO (E.ref f) fun r => forceN m.next fun nx => onVW (refO E E.rft r (hget m.heap) nx args) m κ) (fun x => onO (extRun x args) fun v => κ v m) (E.ext f)) (fun _ => call f args m κ) (E.fn f)

noncomputable def callOpK (E : Env) (c : Call) : Option OpK :=
  match evsK E c.args.toList with
  | some as => match c.callee with
    | .value x => match x with
      | .func f => some ⟨fun call s m κ => goK E call f (as.get s) m κ⟩
      | x => match evK E x with
        | some a => some ⟨fun call s m κ => @AVal.casesOn (fun _ => Bool) (a.get s) (fun _ => false) (fun _ _ => false) (fun _ _ => false) (fun _ => false) (fun _ => false) (fun _ _ _ _ => false) (fun _ => false)
            (fun fn first cap => match fn with
              | .func f => goK E call f (first ++ as.get s ++ cap) m κ
              | _ => false) false (fun _ _ => false) false (fun _ => false) (fun _ => false) (fun _ => false) (fun _ _ _ _ => false) false⟩
        | none => none
    | .invoke r name => match evK E r with
      | some a => some ⟨fun call s m κ => @AVal.casesOn (fun _ => Bool) (a.get s) (fun _ => false) (fun _ _ => false) (fun _ _ => false) (fun _ => false) (fun _ => false) (fun _ _ _ _ => false) (fun _ => false) (fun _ _ _ => false) false
          (fun t v => onO (methodOf E (hget m.heap) t v name) fun p => goK E call p.1 (p.2 :: as.get s) m κ) false (fun _ => false) (fun _ => false) (fun _ => false) (fun _ _ _ _ => false) false⟩
      | none => none
    | .builtin _ => none
  | none => none

noncomputable def opK (E : Env) (o : Op) : Option OpK :=
  match cls E o with
  | .none => (rdK E o).map fun r => ⟨fun _ s m κ => r.f noLook s fun v => κ v m⟩
  | .look => (rdK E o).map fun r => ⟨fun _ s m κ => r.f (hget m.heap) s fun v => κ v m⟩
  | .fresh => (freshK E o).map fun r => ⟨fun _ s m κ => r.f s fun ob mk => forceN m.next fun n => bsel (Nat.ble n 4095) (κ (mk n) ⟨hput m.heap n (some ob), Nat.succ n⟩) false⟩
  | .eff => (effK E o).map fun r => ⟨fun _ s m κ => r.f s m κ⟩
  | .call c => callOpK E c

noncomputable def opT (E : Env) (o : Op) : OpK := match opK E o with
  | some a => a
  | none => ⟨fun _ _ _ _ => false⟩

noncomputable def dstK (n : Nat) : Option Nat → SetK
  | none => ⟨fun _ t => t⟩
  | some d => bsel (Nat.blt d n) (mkSet d) ⟨fun _ t => t⟩

structure GuardK where
  f : T8 → Bool → Bool → Bool

noncomputable def guardK (ops : List Oper) (o : Oper) : Option GuardK :=
  match o.guard with
  | none => some ⟨fun _ y _ => y⟩
  | some (j, want) => match ops[j]? with
    | some oj => match oj.dst with
      | some t => bsel (Nat.blt t 512) (some ⟨fun s y n => @AVal.casesOn (fun _ => Bool) ((mkGet t).get s) (fun b => bsel (b == want) y n) (fun _ _ => n) (fun _ _ => n) (fun _ => n) (fun _ => n) (fun _ _ _ _ => n) (fun _ => n) (fun _ _ _ => n) n (fun _ _ => n) n (fun _ => n) (fun _ => n) (fun _ => n) (fun _ _ _ _ => n) n⟩) none
      | none => some ⟨fun _ _ n => n⟩
    | none => some ⟨fun _ _ n => n⟩

structure SeqK where
  run : CallKT → T8 → MK → (T8 → MK → Bool) → Bool

noncomputable def opsK (E : Env) (n : Nat) (ops : List Oper) : List Oper → Option SeqK
  | [] => some ⟨fun _ s m κ => κ s m⟩
  | o :: l => match guardK ops o, opsK E n ops l with
    | some g, some r =>
      let a := opT E o.op
      let d := dstK n o.dst
      match o.guard with
      | none => some ⟨fun call s m κ => a.run call s m fun v m => r.run call (d.set v s) m κ⟩
      | some _ => some ⟨fun call s m κ => g.f s (a.run call s m fun v m => r.run call (d.set v s) m κ) (r.run call (d.set .undef s) m κ)⟩
    | _, _ => none

structure QuietK where
  f : T8 → Bool

noncomputable def quietK (E : Env) (c : Call) : Option QuietK :=
  match c.callee with
  | .value x => (evK E x).map fun a => ⟨fun s => match a.get s with
    | .func (.func g) _ _ => (E.fn g).isSome && E.quiet g
    | _ => false⟩
  | _ => none

noncomputable def opDT (E : Env) (o : Op) : OpK := match o with
  | .defer c => (match quietK E c with
    | some q => ⟨fun _ s m κ => bsel (q.f s) (κ .undef m) false⟩
    | none => ⟨fun _ _ _ _ => false⟩)
  | o => opT E o

noncomputable def opsDK (E : Env) (n : Nat) (ops : List Oper) : List Oper → Option SeqK
  | [] => some ⟨fun _ s m κ => κ s m⟩
  | o :: l => match guardK ops o, opsDK E n ops l with
    | some g, some r =>
      let a := opDT E o.op
      let d := dstK n o.dst
      match o.guard with
      | none => some ⟨fun call s m κ => a.run call s m fun v m => r.run call (d.set v s) m κ⟩
      | some _ => some ⟨fun call s m κ => g.f s (a.run call s m fun v m => r.run call (d.set v s) m κ) (r.run call (d.set .undef s) m κ)⟩
    | _, _ => none

structure RecK where
  on : Bool
  o : Oper
  s : T8
  m : MK
  v : AVal
  m' : MK

structure SeqRK where
  run : CallKT → T8 → MK → (T8 → MK → List RecK → Bool) → Bool

noncomputable def recsK (E : Env) (n : Nat) (ops : List Oper) : List Oper → Option SeqRK
  | [] => some ⟨fun _ s m κ => κ s m []⟩
  | o :: l => match guardK ops o, recsK E n ops l with
    | some g, some r =>
      let a := opT E o.op
      let d := dstK n o.dst
      some ⟨fun call s m κ => g.f s (a.run call s m fun v m' => r.run call (d.set v s) m' fun s2 m2 rs => κ s2 m2 (⟨true, o, s, m, v, m'⟩ :: rs)) (r.run call (d.set .undef s) m fun s2 m2 rs => κ s2 m2 (⟨false, o, s, m, .undef, m⟩ :: rs))⟩
    | _, _ => none

noncomputable def stillK (E : Env) (r s : RecK) : Bool :=
  onO (rdK E r.o.op) fun f => andK (f.f (hget s.m.heap) r.s fun v => AVal.eqb v r.v) (f.f (hget s.m'.heap) r.s fun v => AVal.eqb v r.v)

noncomputable def pairK (E : Env) (ri rj : RecK) : Bool :=
  match ri.on && rj.on with
  | true => match cls E ri.o.op, cls E rj.o.op with
    | .look, _ => stillK E ri rj
    | _, .look => stillK E rj ri
    | _, _ => false
  | false => true

noncomputable def pairsK (E : Env) (rs : List RecK) : List (Nat × Nat) → Bool
  | [] => true
  | (i, j) :: l => match rs[i]?, rs[j]? with
    | some ri, some rj => pairK E ri rj && pairsK E rs l
    | _, _ => false

noncomputable def regionK (E : Env) (n : Nat) (ops : Array Oper) (draw : Bool) : Option SeqK :=
  match draw with
  | false => bsel (hasDefer ops.toList) (opsDK E n ops.toList ops.toList) (opsK E n ops.toList ops.toList)
  | true => match plan E ops with
    | some [] => opsK E n ops.toList ops.toList
    | some ps => match recsK E n ops.toList ops.toList with
      | some r => some ⟨fun call s m κ => r.run call s m fun s m rs => andK (pairsK E rs ps) (κ s m)⟩
      | none => none
    | none => none

structure CK where
  run : CallKT → T8 → MK → (Ex → T8 → MK → Bool) → Bool

noncomputable def onNormal (e : Ex) (s : T8) (m : MK) (k : T8 → MK → Bool) (κ : Ex → T8 → MK → Bool) : Bool :=
  @Ex.rec (fun _ => Bool) (k s m) (fun i => κ (.exit i) s m) (fun l => κ (.goto l) s m) (κ .ret s m) e

noncomputable def codeK (E : Env) (n fuel : Nat) (c : Code) : Option CK :=
  @Code.rec (fun _ => Option CK)
    (some ⟨fun _ s m κ => κ .normal s m⟩)
    (fun _ ops d => match regionK E n ops d with
      | some r => some ⟨fun call s m κ => r.run call s m (κ .normal)⟩
      | none => some ⟨fun _ _ _ _ => false⟩)
    (fun _ _ ia ib => match ia, ib with
      | some a, some b => some ⟨fun call s m κ => a.run call s m fun e s m => onNormal e s m (fun s m => b.run call s m κ) κ⟩
      | _, _ => none)
    (fun x _ _ ia ib => match evK E x, ia, ib with
      | some x, some a, some b => some ⟨fun call s m κ => onBool (x.get s) fun q => bsel q (a.run call s m κ) (b.run call s m κ)⟩
      | _, _, _ => none)
    (fun id _ ib => match ib with
      | some b => some ⟨fun call s m κ => b.run call s m fun e s m => @Ex.rec (fun _ => Bool) (κ .normal s m) (fun i => bsel (Nat.beq i id) (κ .normal s m) (κ (.exit i) s m)) (fun l => κ (.goto l) s m) (κ .ret s m) e⟩
      | none => none)
    (fun _ ib => match ib with
      | some b => some ⟨fun call s m κ => @Nat.rec (fun _ => T8 → MK → Bool) (fun _ _ => false) (fun _ ih s m => b.run call s m fun e s m => onNormal e s m ih κ) fuel s m⟩
      | none => none)
    (fun _ _ _ _ _ _ => some ⟨fun _ _ _ _ => false⟩)
    (fun id => some ⟨fun _ s m κ => κ (.exit id) s m⟩)
    (fun _ _ => some ⟨fun _ _ _ _ => false⟩)
    (fun _ => some ⟨fun _ s m κ => κ .normal s m⟩)
    (fun l => some ⟨fun _ s m κ => κ (.goto l) s m⟩)
    (some ⟨fun _ s m κ => κ .ret s m⟩)
    (fun _ => some ⟨fun _ _ _ _ => false⟩) c

noncomputable def res1K (E : Env) : ResultVar → Option RdK
  | .tmp t => bsel (Nat.blt t 512) (some ⟨fun _ s κ => κ ((mkGet t).get s)⟩) none
  | .cell a t => bsel (Nat.blt a 512) (loadK E t (mkGet a)) none

structure ResK where
  f : (Nat → Option AObj) → T8 → (List AVal → Bool) → Bool

noncomputable def ressK (E : Env) : List ResultVar → Option ResK
  | [] => some ⟨fun _ _ κ => κ []⟩
  | x :: l => match res1K E x, ressK E l with
    | some a, some b => some ⟨fun g s κ => a.f g s fun v => b.f g s fun vs => κ (v :: vs)⟩
    | _, _ => none

noncomputable def resK (E : Env) (l : List ResultVar) : Option RdK :=
  match l with
  | [x] => res1K E x
  | l => match ressK E l with
    | some r => some ⟨fun g s κ => r.f g s fun vs => κ (.tuple vs)⟩
    | none => none

structure FnK where
  run : CallKT → List AVal → MK → (AVal → MK → Bool) → Bool

noncomputable def argsK (l : List AVal) : Nat → T8 → T8 := @List.rec AVal (fun _ => Nat → T8 → T8) (fun _ s => s) (fun v _ ih i s => ih (Nat.succ i) ((mkSet i).set v s)) l

noncomputable def fnK (E : Env) (fuel : Nat) (fn : Func) : Option FnK :=
  let n := fn.ntmps
  match Nat.ble n 512, fn.body with
  | true, some c => match codeK E n fuel c, resK E fn.results.toList with
    | some k, some r => some ⟨fun call args m κ => bsel (Nat.ble args.length n) (k.run call (argsK args 0 t0) m fun e s m => @Ex.rec (fun _ => Bool) (r.f (hget m.heap) s fun v => κ v m) (fun _ => false) (fun _ => false) (r.f (hget m.heap) s fun v => κ v m) e) false⟩
    | _, _ => none
  | _, _ => none

noncomputable def lookK (E : Env) (fuel f : Nat) : Option FnK :=
  match E.fn f with
  | some fn => fnK E fuel fn
  | none => none

noncomputable def callK (E : Env) (fuel d : Nat) : CallKT := @Nat.rec (fun _ => CallKT) (fun _ _ _ _ => false) (fun _ ih f args m κ => onO (lookK E fuel f) fun k => k.run ih args m κ) d

end Go.Ev
