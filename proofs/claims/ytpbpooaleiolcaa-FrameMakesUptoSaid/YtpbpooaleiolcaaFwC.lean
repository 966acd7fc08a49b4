/- The reading of a function's code, continued: regions, statements, loops; and when a reading is right. -/
import Derived.Test.YtpbpooaleiolcaaFwB
namespace Go.Fw
open Go

def setD (n : Nat) (e : Env) (d : Option Tmp) (v : EV) (K : Env → Prop) : Prop :=
  match d with
  | none => K e
  | some d => bif Nat.blt d n then K (e.set d v) else False

def oneOp (c : Cfg) (o : Oper) (e : Env) (h : Heap) (K : Env → Heap → Prop) : Prop :=
  opP c o.op e h fun v h' => setD c.n e o.dst v fun e' => K e' h'

def skipOp (c : Cfg) (o : Oper) (e : Env) (h : Heap) (K : Env → Heap → Prop) : Prop :=
  setD c.n e o.dst (.val undef) fun e' => K e' h

def guardSlot (ops : List Oper) (j : Nat) : Option Tmp := (ops[j]?).bind (·.dst)

def runOps (c : Cfg) (one : Oper → Env → Heap → (Env → Heap → Prop) → Prop) (all : List Oper) : List Oper → Env → Heap → (Env → Heap → Prop) → Prop
  | [], e, h, K => K e h
  | o :: os, e, h, K =>
    match o.guard with
    | none => one o e h fun e' h' => runOps c one all os e' h' K
    | some (j, want) =>
      match guardSlot all j with
      | none => skipOp c o e h fun e' h' => runOps c one all os e' h' K
      | some t =>
        match e t with
        | some (.lit b) =>
          match b, want with
          | true, true | false, false => one o e h fun e' h' => runOps c one all os e' h' K
          | true, false | false, true => skipOp c o e h fun e' h' => runOps c one all os e' h' K
        | some (.val (.bool b)) =>
          match want with
          | true => iteP b (one o (e.set t (.lit true)) h fun e' h' => runOps c one all os e' h' K) (skipOp c o (e.set t (.lit false)) h fun e' h' => runOps c one all os e' h' K)
          | false => iteP b (skipOp c o (e.set t (.lit true)) h fun e' h' => runOps c one all os e' h' K) (one o (e.set t (.lit false)) h fun e' h' => runOps c one all os e' h' K)
        | some _ => skipOp c o e h fun e' h' => runOps c one all os e' h' K
        | none => False

/-- an operation in a region that draws its order: it leaves memory as it is -/
def quietP (c : Cfg) (o : Op) (ρ : Env) (h : Heap) (K : EV → Heap → Prop) : Prop :=
  match o with
  | .move _ | .assign _ | .pick _ _ _ | .load _ _ | .nilCheck _ | .binOp _ _ _ _ _ | .unOp _ _ _ | .slice _ _ _ _ _ | .fieldAddr _ _ _ | .field _ _ _ | .indexAddr _ _ _ | .index _ _ _ | .extract _ _ | .build _ _ => opP c o ρ h K
  | .convert s d _ => match c.P.underlying s, c.P.underlying d with
    | some (.int _), some (.int _) => opP c o ρ h K
    | _, _ => False
  | .call ⟨.builtin .len, _, _⟩ | .call ⟨.builtin .cap, _, _⟩ | .call ⟨.builtin .min, _, _⟩ | .call ⟨.builtin .max, _, _⟩ => opP c o ρ h K
  | .call ⟨.value (.func f), args, _⟩ =>
    match c.call f, evs ρ args.toList with
    | some s, some es => match TupV.un s.args es with
      | some t => qcall (s.sem t) h fun r => K (tupleOf (TupV.evs s.res r)) h
      | none => False
    | _, _ => False
  | _ => False

def quietOp (c : Cfg) (o : Oper) (e : Env) (h : Heap) (K : Env → Heap → Prop) : Prop :=
  quietP c o.op e h fun v h' => setD c.n e o.dst v fun e' => K e' h'

inductive Ann where
  | leaf
  | seq (a b : Ann)
  | cut (slots : List Nat) (tys : List VT) (kill : List (Nat × Nat)) (a b : Ann)
  | cond (a b : Ann)
  | block (a : Ann)
  | loop (slots : List Nat) (tys : List VT) (kill : List (Nat × Nat)) (a : Ann)

inductive Ex where
  | normal | exit (id : Nat) | ret

def lookE : List Nat → List EV → Nat → Option EV
  | s :: ss, v :: vs, j => bif Nat.beq j s then some v else lookE ss vs j
  | _, _, _ => none

def killed : List (Nat × Nat) → Nat → Bool
  | [], _ => false
  | (lo, hi) :: r, j => bif Nat.ble lo j && Nat.ble j hi then true else killed r j

def memN : List Nat → Nat → Bool
  | [], _ => false
  | s :: ss, j => bif Nat.beq j s then true else memN ss j

def fillE (slots : List Nat) (vs : List EV) (kill : List (Nat × Nat)) (e : Env) : Env := fun j =>
  match lookE slots vs j with
  | some v => some v
  | none => bif killed kill j then none else e j

def readE (e : Env) : List Nat → Option (List EV)
  | [] => some []
  | s :: ss => match e s, readE e ss with
    | some v, some vs => some (v :: vs)
    | _, _ => none

def readT (slots : List Nat) (tys : List VT) (e : Env) : Option (TupV tys) :=
  match readE e slots with
  | some es => TupV.un tys es
  | none => none

def leafP (slots : List Nat) (tys : List VT) (e : Env) (J : TupV tys → Heap → Prop) (h : Heap) : Prop :=
  match readT slots tys e with
  | some t => J t h
  | none => False

def dstsOf : Code → List Nat
  | .region _ ops _ => ops.toList.filterMap (·.dst)
  | .seq a b => dstsOf a ++ dstsOf b
  | .cond _ a b => dstsOf a ++ dstsOf b
  | .block _ a => dstsOf a
  | .loop a => dstsOf a
  | _ => []

def dstsIn (slots : List Nat) (kill : List (Nat × Nat)) (a : Code) : Bool := (dstsOf a).all fun j => memN slots j || killed kill j

def contP (K : Env → Heap → Prop) (Q : Ex → Env → Heap → Prop) : Ex → Env → Heap → Prop
  | .normal, e, h => K e h
  | .exit id, e, h => Q (.exit id) e h
  | .ret, e, h => Q .ret e h

def blockP (id : Nat) (Q : Ex → Env → Heap → Prop) : Ex → Env → Heap → Prop
  | .normal, e, h => Q .normal e h
  | .exit id', e, h => bif Nat.beq id' id then Q .normal e h else Q (.exit id') e h
  | .ret, e, h => Q .ret e h

def Ann.fst : Ann → Ann
  | .seq a _ | .cut _ _ _ a _ | .cond a _ | .block a | .loop _ _ _ a => a
  | .leaf => .leaf
def Ann.snd : Ann → Ann
  | .seq _ b | .cut _ _ _ _ b | .cond _ b => b
  | _ => .leaf

def wpC (c : Cfg) : Code → Ann → Env → Heap → (Ex → Env → Heap → Prop) → Prop
  | .skip, _, e, h, Q => Q .normal e h
  | .region _ ops draw, _, e, h, Q =>
    match draw with
    | true => bif Region.lexB .any ops then runOps c (quietOp c) ops.toList ops.toList e h fun e' h' => Q .normal e' h' else False
    | false => runOps c (oneOp c) ops.toList ops.toList e h fun e' h' => Q .normal e' h'
  | .seq a b, ann, e, h, Q =>
    match ann with
    | .cut slots tys kill x y =>
      bif dstsIn slots kill a then
        cutP (fun t h' => wpC c b y (fillE slots (TupV.evs tys t) kill e) h' Q) (fun J => wpC c a x e h (contP (fun e' h' => leafP slots tys e' J h') Q))
      else False
    | ann => wpC c a ann.fst e h (contP (fun e' h' => wpC c b ann.snd e' h' Q) Q)
  | .cond x a b, ann, e, h, Q =>
    match e.ev x with
    | some (.lit true) => wpC c a ann.fst e h Q
    | some (.lit false) => wpC c b ann.snd e h Q
    | some (.val (.bool v)) => iteP v (wpC c a ann.fst e h Q) (wpC c b ann.snd e h Q)
    | _ => False
  | .block id a, ann, e, h, Q => wpC c a ann.fst e h (blockP id Q)
  | .loop a, ann, e, h, Q =>
    match ann with
    | .loop slots tys kill x =>
      bif dstsIn slots kill a then
        match readT slots tys e with
        | some t0 => loopM (fun J t h' => wpC c a x (fillE slots (TupV.evs tys t) kill e) h' (contP (fun e' h'' => leafP slots tys e' J h'') Q)) t0 h
        | none => False
      else False
    | _ => False
  | .exit id, _, e, h, Q => Q (.exit id) e h
  | .ret, _, e, h, Q => Q .ret e h
  | _, _, _, _, _ => False

/-- what a function hands back -/
def resP (c : Cfg) (e : Env) (h : Heap) : List ResultVar → (List EV → Prop) → Prop
  | [], K => K []
  | .tmp t :: r, K => match e t with
    | some v => resP c e h r fun vs => K (v :: vs)
    | none => False
  | .cell a t :: r, K => match e a with
    | some (.adr b o) => ldT c.P t h b o fun v => resP c e h r fun vs => K (v :: vs)
    | _ => False

def argEnv' (l : List EV) : Env := fun j => go l 0 j
where go : List EV → Nat → Nat → Option EV
  | [], _, _ => none
  | v :: vs, i, j => bif Nat.beq j i then some v else go vs (i + 1) j

/-- the reading of a whole function -/
def funP (c : Cfg) (fn : Func) (ann : Ann) (args : List EV) (res : List VT) (K : TupV res → Heap → Prop) (h : Heap) : Prop :=
  match fn.body with
  | some code => wpC c code ann (argEnv' args) h fun ex e h' =>
    match ex with
    | .exit _ => False
    | _ => resP c e h' fn.results.toList fun vs => match TupV.un res vs with
      | some r => K r h'
      | none => False
  | none => False

end Go.Fw
