/- The reading of a function's code as a condition on memory: what each operation, region and statement asks and leaves. Definitions alone. -/
import Derived.Test.YtledmkhbaacdnaaFwA
import Derived.Sort.QuietThIn
namespace Go.Fw
open Go

inductive Leaf where
  | I (k : IntKind) | B | S | P | L | M | V

abbrev Leaf.D : Leaf → Type
  | .I _ => Int | .B => Bool | .S => ByteArray | .P => Option Addr | .L => Sl | .M => Option Nat | .V => Value

def Leaf.mk : (l : Leaf) → l.D → Value
  | .I k, n => .int k n | .B, b => .bool b | .S, s => .string s | .P, p => .pointer p | .L, s => .slice s.ptr s.len s.cap | .M, m => .map m | .V, v => v

def Leaf.un : (l : Leaf) → Value → Option l.D
  | .I k, .int k' n => if k' = k then some n else none
  | .B, .bool b => some b
  | .S, .string s => some s
  | .P, .pointer p => some p
  | .L, .slice p l c => some ⟨p, l, c⟩
  | .M, .map m => some m
  | .V, v => some v
  | _, _ => none

abbrev Tup : List Leaf → Type
  | [] => Unit
  | l :: ls => l.D × Tup ls

def Tup.vals : (ls : List Leaf) → Tup ls → List Value
  | [], _ => []
  | l :: ls, t => l.mk t.1 :: Tup.vals ls t.2

def Tup.un : (ls : List Leaf) → List Value → Option (Tup ls)
  | [], [] => some ()
  | l :: ls, v :: vs => match l.un v, Tup.un ls vs with
    | some x, some t => some (x, t)
    | _, _ => none
  | _, _ => none

inductive VT where
  | one (l : Leaf) | agg (ls : List Leaf) | fn (f : FuncId) | clo (f : FuncId) (ls : List Leaf) | yl

abbrev VT.D : VT → Type
  | .one l => l.D
  | .agg ls => Tup ls
  | .fn _ => Unit
  | .clo _ ls => Tup ls
  | .yl => Nat

abbrev TupV : List VT → Type
  | [] => Unit
  | v :: vs => v.D × TupV vs

inductive EV where
  | val (v : Value) | lit (b : Bool) | adr (b o : Nat) | itr (t : TypeId) (b : Nat) | more (k v : Value) | over

def EV.v : EV → Value
  | .val v => v
  | .lit b => .bool b
  | .adr b o => .pointer (some ⟨b, o, none⟩)
  | .itr _ b => .pointer (some ⟨b, 0, none⟩)
  | .more k v => .tuple #[.bool true, k, v]
  | .over => .tuple #[.bool false]

def VT.ev : (v : VT) → v.D → EV
  | .one l, x => .val (l.mk x)
  | .agg ls, x => .val (.agg (Tup.vals ls x).toArray)
  | .fn f, _ => .val (.func (.func f) ⟨[]⟩ ⟨[]⟩)
  | .clo f ls, x => .val (.func (.func f) ⟨[]⟩ ⟨Tup.vals ls x⟩)
  | .yl, l => .val (.func (.yield l) ⟨[]⟩ ⟨[]⟩)

def fnU (f : FuncId) : EV → Option Unit
  | .val (.func (.func g) ⟨[]⟩ ⟨[]⟩) => bif Nat.beq f g then some () else none
  | _ => none

def cloU (f : FuncId) (ls : List Leaf) : EV → Option (Tup ls)
  | .val (.func (.func g) ⟨[]⟩ ⟨cs⟩) => bif Nat.beq f g then Tup.un ls cs else none
  | _ => none

def ylU : EV → Option Nat
  | .val (.func (.yield l) ⟨[]⟩ ⟨[]⟩) => some l
  | _ => none

def VT.un : (v : VT) → EV → Option v.D
  | .one l, e => l.un e.v
  | .agg ls, .val (.agg cs) => Tup.un ls cs.toList
  | .agg _, _ => none
  | .fn f, e => fnU f e
  | .clo f ls, e => cloU f ls e
  | .yl, e => ylU e

def TupV.evs : (vs : List VT) → TupV vs → List EV
  | [], _ => []
  | v :: vs, t => v.ev t.1 :: TupV.evs vs t.2

def TupV.un : (vs : List VT) → List EV → Option (TupV vs)
  | [], [] => some ()
  | v :: vs, e :: es => match v.un e, TupV.un vs es with
    | some x, some t => some (x, t)
    | _, _ => none
  | _, _ => none

def tupleOf : List EV → EV
  | [e] => e
  | es => .val (.tuple (es.map EV.v).toArray)

structure CallSpec where
  args : List VT
  res : List VT
  sem : TupV args → (TupV res → Heap → Prop) → (Value → Heap → Prop) → Heap → Prop

/-- a function that is ranged over: behind its yield it is handed what it has captured -/
structure IterSpec where
  caps : List VT
  sem : Yld → Nat → TupV caps → (Heap → Prop) → Heap → Prop

/-- what is known of the temporaries, and of the block for the rounds' deferred calls -/
structure Env where
  f : Nat → Option EV
  mD : Option Nat
instance : CoeFun Env (fun _ => Nat → Option EV) := ⟨Env.f⟩

def Env.set (e : Env) (d : Nat) (v : EV) : Env := ⟨fun j => bif Nat.beq j d then some v else e.f j, e.mD⟩

def Env.ev (e : Env) : Operand → Option EV
  | .tmp t => e.f t
  | .const (.bool b) => some (.lit b)
  | .const v => some (.val v)
  | .global g => some (.adr g 0)
  | .func f => some (.val (.func (.func f) #[] #[]))

structure Cfg where
  P : Program
  calls : List (FuncId × CallSpec)
  n : Nat
  ext : List FuncId
  dyn : List (String × TypeId × FuncId)
  iters : List (FuncId × IterSpec)
  rnd : Option Nat
  pan : Value → Heap → Prop
  yld : Yld

def mkCfg (P : Program) (calls : List (FuncId × CallSpec)) (n : Nat) (ext : List FuncId) (dyn : List (String × TypeId × FuncId)) (iters : List (FuncId × IterSpec)) (yld : Yld) : Cfg :=
  ⟨P, calls, n, ext, dyn, iters, none, fun _ _ => False, yld⟩
def noYld : Yld := fun _ _ _ _ => False

structure Picked where
  s : CallSpec
  t : TupV s.args

/-- the first contract of a function that fits the arguments -/
def pickL (f : FuncId) (es : List EV) : List (FuncId × CallSpec) → Option Picked
  | [] => none
  | (g, s) :: r => bif Nat.beq f g then (match TupV.un s.args es with
    | some t => some ⟨s, t⟩
    | none => pickL f es r) else pickL f es r

structure PickedI where
  s : IterSpec
  t : TupV s.caps

def pickI (f : FuncId) (es : List EV) : List (FuncId × IterSpec) → Option PickedI
  | [] => none
  | (g, s) :: r => bif Nat.beq f g then (match TupV.un s.caps es with
    | some t => some ⟨s, t⟩
    | none => pickI f es r) else pickI f es r

structure PickedM where
  a0 : VT
  rest : List VT
  res : List VT
  sem : TupV (a0 :: rest) → (TupV res → Heap → Prop) → (Value → Heap → Prop) → Heap → Prop
  t : TupV rest
/-- the first contract of a function that fits the arguments behind the receiver -/
def pickM (f : FuncId) (es : List EV) : List (FuncId × CallSpec) → Option PickedM
  | [] => none
  | (g, ⟨a0 :: rest, res, sem⟩) :: r => bif Nat.beq f g then (match TupV.un rest es with
    | some t => some ⟨a0, rest, res, sem, t⟩
    | none => pickM f es r) else pickM f es r
  | (_, ⟨[], _, _⟩) :: r => pickM f es r
/-- a method of the value that an interface holds, whichever of the listed types it is -/
def dynP (calls : List (FuncId × CallSpec)) (Kp : Value → Heap → Prop) (name : String) (v : Value) (es : List EV) (h : Heap) (K : EV → Heap → Prop) : List (String × TypeId × FuncId) → Prop
  | [] => False
  | (n, t, f) :: r => bif n == name then (match pickM f es calls with
    | some p => exG v (fun x : p.a0.D => .iface t (p.a0.ev x).v) (fun x => p.sem (x, p.t) (fun rr h' => K (tupleOf (TupV.evs p.res rr)) h') Kp h) ∨ dynP calls Kp name v es h K r
    | none => dynP calls Kp name v es h K r) else dynP calls Kp name v es h K r

def hasN (f : FuncId) : List FuncId → Bool
  | [] => false
  | g :: r => bif Nat.beq f g then true else hasN f r

def evs (e : Env) : List Operand → Option (List EV)
  | [] => some []
  | x :: xs => match e.ev x, evs e xs with
    | some v, some vs => some (v :: vs)
    | _, _ => none

def eqI (x y : Int) : Bool := x == y
def neI (x y : Int) : Bool := x != y

/-- Go's arithmetic and comparisons on two values. -/
def binP (op : BinOp) (x y : EV) (K : EV → Prop) : Prop :=
  match x, y with
  | .val (.int k a), .val (.int k' b) =>
    match op with
    | .shl => need (0 ≤ b) (K (.val (.int k (shlV k a b))))
    | .shr => need (0 ≤ b) (K (.val (.int k (shrV k a b))))
    | _ => if k = k' then
        match op with
        | .add => K (.val (.int k (k.wrap (a + b))))
        | .sub => K (.val (.int k (k.wrap (a - b))))
        | .mul => K (.val (.int k (k.wrap (a * b))))
        | .quo => need (b ≠ 0) (K (.val (.int k (k.wrap (a.tdiv b)))))
        | .rem => need (b ≠ 0) (K (.val (.int k (a.tmod b))))
        | .and => K (.val (.int k (andV k a b)))
        | .or => K (.val (.int k (orV k a b)))
        | .xor => K (.val (.int k (xorV k a b)))
        | .andNot => K (.val (.int k (andnV k a b)))
        | .eql => K (.val (.bool (a == b)))
        | .neq => K (.val (.bool (a != b)))
        | .lss => K (.val (.bool (decide (a < b))))
        | .leq => K (.val (.bool (decide (a ≤ b))))
        | .gtr => K (.val (.bool (decide (a > b))))
        | .geq => K (.val (.bool (decide (a ≥ b))))
        | _ => False
      else False
  | .val (.string a), .val (.string b) =>
    match op with
    | .add => catS a b fun s => K (.val (.string s))
    | .eql => K (.val (.bool (strEq a b)))
    | .neq => K (.val (.bool (!strEq a b)))
    | .lss => K (.val (.bool (Op.bytesLess a.toList b.toList)))
    | .leq => K (.val (.bool (Op.bytesLess a.toList b.toList || strEq a b)))
    | .gtr => K (.val (.bool (!(Op.bytesLess a.toList b.toList || strEq a b))))
    | .geq => K (.val (.bool (!Op.bytesLess a.toList b.toList)))
    | _ => False
  | _, _ => False

/-- == and != where the operands' type is a pointer's, a slice's, a map's, a function's or bool, and one is nil or both are bool. -/
def eqP (t : Option TypeDesc) (neg : Bool) (x y : EV) (K : EV → Prop) : Prop :=
  match t, x, y with
  | some (.pointer _), .adr _ _, .val (.pointer none) => K (.lit neg)
  | some (.pointer _), .val (.pointer p), .val (.pointer none) => K (.val (.bool (bif neg then p.isSome else p.isNone)))
  | some (.slice _), .val (.slice p _ _), .val (.slice none _ _) => K (.val (.bool (bif neg then p.isSome else p.isNone)))
  | some (.map _ _), .val (.map p), .val (.map none) => K (.val (.bool (bif neg then p.isSome else p.isNone)))
  | some .bool, x, y =>
    match x.v, y.v with
    | .bool a, .bool b => K (.val (.bool (bif neg then a != b else a == b)))
    | _, _ => False
  | _, _, _ => False

def ldLeaf (d : Option TypeDesc) (h : Heap) (b o : Nat) (K : EV → Prop) : Prop :=
  match d with
  | some (.int k) => ldI h b o k fun x => K (.val (.int k x))
  | some .bool => ldB h b o fun x => K (.val (.bool x))
  | some .string => ldS h b o fun x => K (.val (.string x))
  | some (.pointer _) => ldP h b o fun x => K (.val (.pointer x))
  | some (.slice _) => ldL h b o fun x => K (.val (.slice x.ptr x.len x.cap))
  | some (.map _ _) => ldM h b o fun x => K (.val (.map x))
  | some (.struct _) | some (.array _ _) | none => False
  | some _ => ldV h b o fun x => K (.val x)

/-- what the cells of a type hold, one behind the other -/
def leavesOf (P : Program) : Nat → TypeId → List (Option TypeDesc)
  | 0, _ => [none]
  | d + 1, t => match P.underlying t with
    | some (.struct fs) => fs.toList.flatMap fun f => leavesOf P d f.type
    | some (.array n e) => (List.replicate n (leavesOf P d e)).flatten
    | x => [x]

def addO (o i : Nat) : Nat := bif Nat.beq i 0 then o else o + i

def ldAll (h : Heap) (b o : Nat) : Nat → List (Option TypeDesc) → (List Value → Prop) → Prop
  | _, [], K => K []
  | i, d :: ds, K => ldLeaf d h b (addO o i) fun v => ldAll h b o (i + 1) ds fun vs => K (v.v :: vs)

def isAggD : Option TypeDesc → Bool
  | some (.struct _) | some (.array _ _) => true
  | _ => false

def ldT (P : Program) (t : TypeId) (h : Heap) (b o : Nat) (K : EV → Prop) : Prop :=
  bif isAggD (P.underlying t) then
    (bif Nat.beq (leavesOf P 8 t).length (P.cellsOf t) then ldAll h b o 0 (leavesOf P 8 t) fun vs => K (.val (.agg vs.toArray)) else False)
  else ldLeaf (P.underlying t) h b o K

/-- an address: one that is known, or a pointer's that is not nil -/
def atP (x : EV) (K : Nat → Nat → Prop) : Prop :=
  match x with
  | .adr b o => K b o
  | .val (.pointer p) => derefP p K
  | _ => False

def stT (P : Program) (t : TypeId) (h : Heap) (b o : Nat) (v : EV) (K : Heap → Prop) : Prop :=
  match v with
  | .val (.agg cs) => bif isAggD (P.underlying t) then (bif Nat.beq cs.toList.length (P.cellsOf t) then sts h b o cs.toList K else False) else False
  | v => bif isAggD (P.underlying t) then False else (bif Nat.beq (P.cellsOf t) 1 then st h b o v.v K else False)

def cellsV : EV → List Value
  | .val (.agg cs) => cs.toList
  | v => [v.v]

/-- a type whose values are one cell, of no form that is known -/
def isVD : Option TypeDesc → Bool
  | some (.int _) | some .bool | some .string | some (.pointer _) | some (.slice _) | some (.map _ _) | some (.struct _) | some (.array _ _) | none => false
  | some _ => true
def cellsF (d : Option TypeDesc) (v : EV) : List Value := bif isVD d then [v.v] else cellsV v
def vOnes (P : Program) (fs : List Field) (e : Env) : List (Nat × Operand) → List Value
  | [] => []
  | (i, x) :: r => match fs[i]?, e.ev x with
    | some f, some v => bif isVD (P.underlying f.type) then v.v :: vOnes P fs e r else vOnes P fs e r
    | _, _ => vOnes P fs e r
def needL : List Value → Prop → Prop
  | [], K => K
  | v :: vs, K => need (oneCell v = true) (needL vs K)

/-- cells with parts laid over them -/
def overlay : List Value → List (Nat × List Value) → List Value
  | cs, [] => cs
  | cs, (o, vs) :: r => overlay (cs.take o ++ vs ++ cs.drop (o + vs.length)) r

def placesS (P : Program) (fs : List Field) (e : Env) (n : Nat) : List (Nat × Operand) → Option (List (Nat × List Value))
  | [] => some []
  | (i, x) :: r => match fs[i]?, e.ev x, placesS P fs e n r with
    | some f, some v, some l => bif Nat.beq (cellsF (P.underlying f.type) v).length (P.cellsOf f.type) then (bif Nat.ble (f.offset + (cellsF (P.underlying f.type) v).length) n then some ((f.offset, cellsF (P.underlying f.type) v) :: l) else none) else none
    | _, _, _ => none

def placesA (size : Nat) (e : Env) (n : Nat) : List (Nat × Operand) → Option (List (Nat × List Value))
  | [] => some []
  | (i, x) :: r => match e.ev x, placesA size e n r with
    | some v, some l => bif Nat.beq (cellsV v).length size then (bif Nat.ble (i * size + (cellsV v).length) n then some ((i * size, cellsV v) :: l) else none) else none
    | _, _ => none

def zeroL (P : Program) (t : TypeId) : Option (List Value) := match P.info? t with
  | some i => match i.zero with
    | some v => some v.cells.toList
    | none => none
  | none => none

def sizeL (P : Program) (t : TypeId) : Option (Nat × Nat) := match P.info? t with
  | some i => some (i.size, i.bytes)
  | none => none

/-- the three bounds of a slice expression, as values or as what stands for them -/
def optB (d : Int) : Option (Option EV) → Option Int
  | none => some d
  | some (some (.val (.int _ n))) => some n
  | _ => none

def cellsMost : Nat := 16777216

/-- a plain key of its type -/
def keyB : TypeDesc → Value → Bool
  | .int k, .int k' _ => if k = k' then true else false
  | .string, .string _ => true
  | .bool, .bool _ => true
  | _, _ => false

/-- a struct of plain fields, one cell each -/
def flatD : Option TypeDesc → Bool
  | some (.int _) | some .string | some .bool => true
  | _ => false
def flatFs (P : Program) : List Field → Nat → Bool
  | [], _ => true
  | f :: fs, i => bif f.name == "_" then false else bif Nat.beq f.offset i && flatD (P.underlying f.type) then flatFs P fs (i + 1) else false
def flatDs (P : Program) (fs : List Field) : List TypeDesc := fs.map fun f => (P.underlying f.type).getD .bool
def keysB : List TypeDesc → List Value → Bool
  | [], [] => true
  | d :: ds, v :: vs => bif keyB d v then keysB ds vs else false
  | _, _ => false
def flatK (P : Program) (kt : TypeId) (fs : Array Field) (cs : List Value) : Bool :=
  bif P.stoodInHeld kt then false else bif flatFs P fs.toList 0 then keysB (flatDs P fs.toList) cs else false
def mapGetX (P : Program) (kt : TypeId) (d : TypeDesc) (h : Heap) (m : Option Nat) (k : Value) (K : Option Value → Prop) : Prop :=
  match d, k with
  | .struct fs, .agg cs => bif flatK P kt fs cs.toList then mapGetA (flatDs P fs.toList) h m cs.toList K else False
  | d, k => bif keyB d k then mapGet d h m k K else False
def mapPutX (P : Program) (kt : TypeId) (d : TypeDesc) (h : Heap) (m : Option Nat) (k v : Value) (K : Heap → Prop) : Prop :=
  match d, k with
  | .struct fs, .agg cs => bif flatK P kt fs cs.toList then mapPutA (flatDs P fs.toList) h m cs.toList v K else False
  | d, k => bif keyB d k then mapPut d h m k v K else False

def asLeaf (d : Option TypeDesc) (v : Value) (K : EV → Prop) : Prop :=
  match d with
  | some (.int k) => asI v k fun x => K (.val (.int k x))
  | some .bool => asB v fun x => K (.val (.bool x))
  | some .string => asS v fun x => K (.val (.string x))
  | some (.pointer _) => asP v fun x => K (.val (.pointer x))
  | some (.slice _) => asL v fun x => K (.val (.slice x.ptr x.len x.cap))
  | some (.map _ _) => asM v fun x => K (.val (.map x))
  | _ => False

def leafOf : Option TypeDesc → Leaf
  | some (.int k) => .I k | some .bool => .B | some .string => .S | some (.pointer _) => .P | some (.slice _) => .L | some (.map _ _) => .M | _ => .V
/-- a value of a type: a leaf, or a struct of leaves -/
def asTy (P : Program) (t : TypeId) (v : Value) (K : EV → Prop) : Prop :=
  bif isAggD (P.underlying t) then exG v (fun r : Tup ((leavesOf P 8 t).map leafOf) => .agg (Tup.vals _ r).toArray) (fun r => K (.val (.agg (Tup.vals _ r).toArray)))
  else asLeaf (P.underlying t) v K

def zero1 (P : Program) (t : TypeId) : Option Value := match P.info? t with
  | some i => i.zero
  | none => none

def isIfaceD : Option TypeDesc → Bool
  | some (.interface _) => true
  | none => true
  | _ => false

def capE (es : List EV) (cs : List Value) : List EV := es ++ cs.map EV.val

def isMapT (P : Program) (ts : Array TypeId) : Bool := match ts[0]? with
  | some t => match P.underlying t with
    | some (.map _ _) => true
    | _ => false
  | none => false

def callP (c : Cfg) (o : Op) (ρ : Env) (h : Heap) (K : EV → Heap → Prop) : Prop :=
  match o with
  | .call ⟨.builtin .len, args, ts⟩ =>
    match ts[0]?, evs ρ args.toList with
    | some t, some [v] => match c.P.underlying t, v with
      | some .string, .val (.string s) => K (.val (.int .i64 s.size)) h
      | some (.slice _), .val (.slice _ n _) => K (.val (.int .i64 n)) h
      | some (.array n _), _ => K (.val (.int .i64 n)) h
      | some (.map _ _), .val (.map m) => lenM h m fun n => K (.val (.int .i64 n)) h
      | _, _ => False
    | _, _ => False
  | .call ⟨.builtin .cap, args, ts⟩ =>
    match ts[0]?, evs ρ args.toList with
    | some t, some [v] => match c.P.underlying t, v with
      | some (.slice _), .val (.slice _ _ n) => K (.val (.int .i64 n)) h
      | _, _ => False
    | _, _ => False
  | .call ⟨.builtin .min, args, _⟩ =>
    match evs ρ args.toList with
    | some [.val (.int k x), .val (.int _ y)] => K (.val (.int k (minV x y))) h
    | _ => False
  | .call ⟨.builtin .max, args, _⟩ =>
    match evs ρ args.toList with
    | some [.val (.int k x), .val (.int _ y)] => K (.val (.int k (maxV x y))) h
    | _ => False
  | .call ⟨.builtin .append, args, ts⟩ =>
    match ts[0]?, (match ts[1]? with | none => false | some t => match c.P.underlying t with | some (.int _) => true | some _ => false | none => true) with
    | some t, false => match c.P.underlying t with
      | some (.slice e) => match sizeL c.P e, zeroL c.P e, evs ρ args.toList with
        | some (size, bytes), some zs, some [.val (.slice p n m), .val (.slice p' n' m')] =>
          rdS ⟨p', n', m'⟩ size h fun new => app e size bytes zs ⟨p, n, m⟩ n' new h fun s h' => K (.val (.slice s.ptr s.len s.cap)) h'
        | some (size, bytes), some zs, some [.val (.slice p n m), .val (.string s)] =>
          app e size bytes zs ⟨p, n, m⟩ s.size (byteVals s) h fun s h' => K (.val (.slice s.ptr s.len s.cap)) h'
        | _, _, _ => False
      | _ => False
    | _, _ => False
  | .call ⟨.value x, args, _⟩ =>
    match ρ.ev x with
    | some (.val (.func (.func f) ⟨[]⟩ ⟨cs⟩)) =>
      match evs ρ args.toList with
      | some es => match pickL f (capE es cs) c.calls with
        | some ⟨s, t⟩ => s.sem t (fun r h' => K (tupleOf (TupV.evs s.res r)) h') c.pan h
        | none => bif hasN f c.ext then (match capE es cs with
          | [x] => cloneM x.v h fun v h' => K (.val v) h'
          | _ => False) else False
      | none => False
    | some (.val (.func (.yield l) ⟨[]⟩ ⟨[]⟩)) =>
      match evs ρ args.toList with
      | some es => c.yld l (es.map EV.v) (fun b h' => K (.val (.bool b)) h') h
      | none => False
    | _ => False
  | .call ⟨.builtin .delete, args, ts⟩ =>
    match ts[0]?, evs ρ args.toList with
    | some t, some [.val (.map m), k] => match c.P.underlying t with
      | some (.map kt _) => match c.P.underlying kt with
        | some d => bif keyB d k.v then mapDel d h m k.v fun h' => K (.val (.tuple #[])) h' else False
        | none => False
      | _ => False
    | _, _ => False
  | .call ⟨.invoke x name, args, _⟩ =>
    match ρ.ev x, evs ρ args.toList with
    | some v, some es => dynP c.calls c.pan name v.v es h K c.dyn
    | _, _ => False
  | .call ⟨.builtin .clear, args, ts⟩ =>
    match ts[0]?, evs ρ args.toList with
    | some t, some [.val (.map m)] => match c.P.underlying t with
      | some (.map _ _) => clrM h m fun h' => K (.val (.tuple #[])) h'
      | _ => False
    | some t, some [.val (.slice p l m)] => match c.P.underlying t with
      | some (.slice e) => match zeroL c.P e with
        | some zs => clrS ⟨p, l, m⟩ zs h fun h' => K (.val (.tuple #[])) h'
        | none => False
      | _ => False
    | _, _ => False
  | _ => False

/-- == of two values of a struct's fields that are numbers, texts or truths -/
def eqLeafV (d : Option TypeDesc) (x y : Value) : Option Bool :=
  match d, x, y with
  | some (.int _), .int k a, .int k' b => if k = k' then some (a == b) else none
  | some .string, .string a, .string b => some (strEq a b)
  | some .bool, .bool a, .bool b => some (a == b)
  | _, _, _ => none
def eqFieldsV (P : Program) : List Field → List Value → List Value → Option Bool
  | [], _, _ => some true
  | f :: fs, xs, ys =>
    bif f.name == "_" then none else
    match xs[f.offset]?, ys[f.offset]? with
    | some x, some y => match eqLeafV (P.underlying f.type) x y, eqFieldsV P fs xs ys with
      | some a, some r => some (bif a then r else false)
      | _, _ => none
    | _, _ => none
/-- the same where fields may be structs of such fields -/
def eqFieldsV1 (P : Program) : List Field → List Value → List Value → Option Bool
  | [], _, _ => some true
  | f :: fs, xs, ys =>
    bif f.name == "_" then none else
    match P.underlying f.type with
    | some (.struct gs) =>
      bif P.stoodInHeld f.type then none else
      bif Nat.ble (f.offset + P.cellsOf f.type) xs.length && Nat.ble (f.offset + P.cellsOf f.type) ys.length then
        match eqFieldsV P gs.toList ((xs.drop f.offset).take (P.cellsOf f.type)) ((ys.drop f.offset).take (P.cellsOf f.type)), eqFieldsV1 P fs xs ys with
        | some a, some r => some (bif a then r else false)
        | _, _ => none
      else none
    | u => match xs[f.offset]?, ys[f.offset]? with
      | some x, some y => match eqLeafV u x y, eqFieldsV1 P fs xs ys with
        | some a, some r => some (bif a then r else false)
        | _, _ => none
      | _, _ => none
def eqS (P : Program) (t : TypeId) (fs : Array Field) (x y : EV) (K : Bool → Prop) : Prop :=
  match x, y with
  | .val (.agg xs), .val (.agg ys) => bif P.stoodInHeld t || P.eqGuardType P.depth t then False else
    match eqFieldsV1 P fs.toList xs.toList ys.toList with
    | some b => K b
    | none => False
  | _, _ => False

def opP (c : Cfg) (o : Op) (ρ : Env) (h : Heap) (K : EV → Heap → Prop) : Prop :=
  match o with
  | .move x => match ρ.ev x with
    | some v => K v h
    | none => False
  | .assign x => match ρ.ev x with
    | some (.val (.int k n)) => bindI n fun n => K (.val (.int k n)) h
    | some (.val (.bool b)) => bindB b fun b => K (.val (.bool b)) h
    | some v => K v h
    | none => False
  | .pick x a b => match ρ.ev x, ρ.ev a, ρ.ev b with
    | some (.lit true), some a, _ => K a h
    | some (.lit false), _, some b => K b h
    | some (.val (.bool x)), some a, some b => match a.v, b.v with
      | .bool a, .bool b => K (.val (.bool (bif x then a else b))) h
      | _, _ => False
    | _, _, _ => False
  | .alloc e => match zeroL c.P e with
    | some zs => newC h zs e fun b h' => K (.adr b 0) h'
    | none => False
  | .box e x => match ρ.ev x with
    | some v => newC h (cellsV v) e fun b h' => K (.adr b 0) h'
    | none => False
  | .build t parts => match c.P.underlying t, zeroL c.P t with
    | some (.struct fs), some zs => match placesS c.P fs.toList ρ zs.length parts.toList with
      | some l => bif fs.toList.all fun f => (c.P.info? f.type).isSome then needL (vOnes c.P fs.toList ρ parts.toList) (K (.val (.agg (overlay zs l).toArray)) h) else False
      | none => False
    | some (.array _ e), some zs => match placesA (c.P.cellsOf e) ρ zs.length parts.toList with
      | some l => bif (c.P.info? e).isSome then K (.val (.agg (overlay zs l).toArray)) h else False
      | none => False
    | _, _ => False
  | .buildSlice t n parts => match c.P.underlying t with
    | some (.slice e) => match zeroL c.P e, placesA (c.P.cellsOf e) ρ (n * c.P.cellsOf e) parts.toList with
      | some zs, some l => bif Nat.ble (n * c.P.cellsOf e) cellsMost then
          (bif Nat.beq zs.length (c.P.cellsOf e) then
            newC h (overlay (zerosL zs n) l) e fun b h' => K (.val (.slice (some ⟨b, 0, none⟩) n n)) h' else False) else False
      | _, _ => False
    | _ => False
  | .load t a => match ρ.ev a with
    | some x => atP x fun b o => ldT c.P t h b o fun v => K v h
    | none => False
  | .store t a x => match ρ.ev a, ρ.ev x with
    | some a, some x => atP a fun b o => stT c.P t h b o x fun h' => K (.val undef) h'
    | _, _ => False
  | .nilCheck x => match ρ.ev x with
    | some x => atP x fun b o => K (.adr b o) h
    | none => False
  | .binOp op t x y _ => match ρ.ev x, ρ.ev y with
    | some x, some y => match op, c.P.underlying t with
      | .eql, some (.int _) | .eql, some .string => binP op x y fun v => K v h
      | .neq, some (.int _) | .neq, some .string => binP op x y fun v => K v h
      | .eql, some (.struct fs) => eqS c.P t fs x y fun b => K (.val (.bool b)) h
      | .neq, some (.struct fs) => eqS c.P t fs x y fun b => K (.val (.bool (!b))) h
      | .eql, d => eqP d false x y fun v => K v h
      | .neq, d => eqP d true x y fun v => K v h
      | _, _ => binP op x y fun v => K v h
    | _, _ => False
  | .unOp op _ x => match op, ρ.ev x with
    | .not, some (.lit b) => K (.lit (!b)) h
    | .not, some (.val (.bool b)) => K (.val (.bool (!b))) h
    | .neg, some (.val (.int k n)) => K (.val (.int k (k.wrap (0 - n)))) h
    | _, _ => False
  | .convert s d x => match c.P.underlying s, c.P.underlying d, ρ.ev x with
    | some (.int _), some (.int k), some (.val (.int _ n)) => K (.val (.int k (k.wrap n))) h
    | some .string, some .string, some (.val (.string s)) => K (.val (.string s)) h
    | some .string, some (.slice e), some (.val (.string s)) => match c.P.underlying e with
      | some (.int .u8) => s2b e s h fun x h' => K (.val (.slice x.ptr x.len x.cap)) h'
      | _ => False
    | some (.slice e), some .string, some (.val (.slice p l m)) => match c.P.underlying e with
      | some (.int .u8) => b2s ⟨p, l, m⟩ h fun s => K (.val (.string s)) h
      | _ => False
    | some (.slice _), some (.slice e), some (.val (.slice p l m)) => match c.P.underlying e with
      | some (.int .u8) => bif Nat.beq s d then mark8 p h fun h' => K (.val (.slice p l m)) h' else False
      | _ => False
    | _, _, _ => False
  | .makeSlice t l m => match c.P.underlying t, ρ.ev l, ρ.ev m with
    | some (.slice e), some (.val (.int _ l)), some (.val (.int _ m)) => match sizeL c.P e, zeroL c.P e with
      | some (size, bytes), some zs => bif Nat.beq zs.length size then mkS e bytes zs l m h fun s h' => K (.val (.slice s.ptr s.len s.cap)) h' else False
      | _, _ => False
    | _, _, _ => False
  | .slice t x lo hi mx => match c.P.underlying t, ρ.ev x with
    | some .string, some (.val (.string s)) => match mx, optB 0 (lo.map ρ.ev), optB s.size (hi.map ρ.ev) with
      | none, some lo, some hi => slcS s lo hi fun s => K (.val (.string s)) h
      | _, _, _ => False
    | some (.slice e), some (.val (.slice p l m)) => match optB 0 (lo.map ρ.ev), optB l (hi.map ρ.ev), optB m (mx.map ρ.ev), sizeL c.P e with
      | some lo, some up, some most, some (size, _) => bif hi.isNone && mx.isSome then False else slc p m size lo up most fun s => K (.val (.slice s.ptr s.len s.cap)) h
      | _, _, _, _ => False
    | _, _ => False
  | .fieldAddr s x f => match c.P.underlying s, ρ.ev x with
    | some (.struct fs), some x => match fs.toList[f]? with
      | some fd => bif Nat.beq (c.P.cellsOf fd.type) 0 then False else atP x fun b o => K (.adr b (addO o fd.offset)) h
      | none => False
    | _, _ => False
  | .field s x f => match c.P.underlying s, ρ.ev x with
    | some (.struct fs), some (.val (.agg cs)) => match fs.toList[f]? with
      | some fd => bif (c.P.underlying fd.type).isNone then False else bif isAggD (c.P.underlying fd.type) then K (.val (.agg ((cs.toList.drop fd.offset).take (c.P.cellsOf fd.type)).toArray)) h
        else match cs.toList[fd.offset]? with
          | some v => K (.val v) h
          | none => False
      | none => False
    | _, _ => False
  | .indexAddr t x i => match c.P.underlying t, ρ.ev x, ρ.ev i with
    | some (.slice e), some (.val (.slice p l _)), some (.val (.int _ i)) => match sizeL c.P e with
      | some (size, _) => idxA p l i size fun b o => K (.adr b o) h
      | none => False
    | some (.array n e), some x, some (.val (.int _ i)) => match sizeL c.P e with
      | some (size, _) => atP x fun b o => idxN n i fun j => K (.adr b (o + j * size)) h
      | none => False
    | _, _, _ => False
  | .index t x i => match c.P.underlying t, ρ.ev x, ρ.ev i with
    | some .string, some (.val (.string s)), some (.val (.int _ i)) => idxS s i fun n => K (.val (.int .u8 n)) h
    | _, _, _ => False
  | .extract x i => match ρ.ev x with
    | some (.more _ _) => bif Nat.beq i 0 then K (.lit true) h else False
    | some .over => bif Nat.beq i 0 then K (.lit false) h else False
    | some (.val (.tuple vs)) => match vs.toList[i]? with
      | some v => K (.val v) h
      | none => False
    | _ => False
  | .call _ => callP c o ρ h K
  | .panic x => match ρ.ev x with
    | some (.val (.iface t v)) => c.pan (.iface t v) h
    | _ => False
  | .makeFunc (.func f) first caps => match first.toList, evs ρ caps.toList with
    | [], some es => K (.val (.func (.func f) ⟨[]⟩ ⟨es.map EV.v⟩)) h
    | _, _ => False
  | .makeMap _ none => newMap h fun b h' => K (.val (.map (some b))) h'
  | .lookup t x i ok => match c.P.underlying t, ρ.ev x, ρ.ev i with
    | some (.map kt et), some (.val (.map m)), some k => match c.P.underlying kt, zero1 c.P et with
      | some d, some z => mapGetX c.P kt d h m k.v fun r => asTy c.P et (r.getD z) fun v => K (bif ok then .val (.tuple #[v.v, .bool r.isSome]) else v) h
      | _, _ => False
    | _, _, _ => False
  | .mapUpdate t m k x => match c.P.underlying t, ρ.ev m, ρ.ev k, ρ.ev x with
    | some (.map kt _), some (.val (.map m)), some k, some x => match c.P.underlying kt with
      | some d => mapPutX c.P kt d h m k.v x.v fun h' => K (.val undef) h'
      | none => False
    | _, _, _, _ => False
  | .range t x => match c.P.underlying t, ρ.ev x with
    | some (.map _ _), some (.val (.map m)) => rgM h m fun b h' => K (.itr t b) h'
    | _, _ => False
  | .next x false => match ρ.ev x with
    | some (.itr _ b) => nextM h b (fun k v h' => K (.more k v) h') (K .over h)
    | _ => False
  | .entry x => match ρ.ev x with
    | some (.itr t b) => match c.P.underlying t with
      | some (.map kt et) => entM h b fun k v => asTy c.P kt k fun k' => asTy c.P et v fun v' => K (.val (.tuple #[k'.v, v'.v])) h
      | _ => False
    | _ => False
  | .makeInterface t x => match ρ.ev x with
    | some v => bif isIfaceD (c.P.underlying t) then False else K (.val (.iface t v.v)) h
    | none => False
  | .typeAssert x _ t ok => match ρ.ev x with
    | some v => bif ok || isIfaceD (c.P.underlying t) then False else asT v.v t fun y => asLeaf (c.P.underlying t) y fun u => K u h
    | none => False
  | _ => False

end Go.Fw
