/- The reading of a function's code, continued: regions, statements, loops; and when a reading is right. -/
import Derived.Test.YtledmkhbaacdnaaFwB
import Derived.OrdersHeld
namespace Go.Fw
open Go

def setD (n : Nat) (e : Env) (d : Option Tmp) (v : EV) (K : Env → Prop) : Prop :=
  match d with
  | none => K e
  | some d => bif Nat.blt d n then K (e.set d v) else False

def oneOp (c : Cfg) (o : Oper) (e : Env) (h : Heap) (K : Env → Heap → Prop) : Prop :=
  opP c o.op e h fun v h' => setD c.n e o.dst v fun e' => K e' h'

def skipOp (c : Cfg) (o : Oper) (e : Env) (h : Heap) (K : Env → Heap → Prop) : Prop :=
  setD c.n e o.dst (.val undef) fun e' => K e' h

def guardSlot (ops : List Oper) (j : Nat) : Option Tmp := (ops[j]?).bind (·.dst)

def runOps (c : Cfg) (one : Oper → Env → Heap → (Env → Heap → Prop) → Prop) (all : List Oper) : List Oper → Env → Heap → (Env → Heap → Prop) → Prop
  | [], e, h, K => K e h
  | o :: os, e, h, K =>
    match o.guard with
    | none => one o e h fun e' h' => runOps c one all os e' h' K
    | some (j, want) =>
      match guardSlot all j with
      | none => skipOp c o e h fun e' h' => runOps c one all os e' h' K
      | some t =>
        match e t with
        | some (.lit b) =>
          match b, want with
          | true, true | false, false => one o e h fun e' h' => runOps c one all os e' h' K
          | true, false | false, true => skipOp c o e h fun e' h' => runOps c one all os e' h' K
        | some (.val (.bool b)) =>
          match want with
          | true => iteP b (one o (e.set t (.lit true)) h fun e' h' => runOps c one all os e' h' K) (skipOp c o (e.set t (.lit false)) h fun e' h' => runOps c one all os e' h' K)
          | false => iteP b (skipOp c o (e.set t (.lit true)) h fun e' h' => runOps c one all os e' h' K) (one o (e.set t (.lit false)) h fun e' h' => runOps c one all os e' h' K)
        | some _ => skipOp c o e h fun e' h' => runOps c one all os e' h' K
        | none => False

/-- an operation in a region that draws its order: it leaves memory as it is -/
def quietP (c : Cfg) (o : Op) (ρ : Env) (h : Heap) (K : EV → Heap → Prop) : Prop :=
  match o with
  | .move _ | .assign _ | .pick _ _ _ | .load _ _ | .nilCheck _ | .binOp _ _ _ _ _ | .unOp _ _ _ | .slice _ _ _ _ _ | .fieldAddr _ _ _ | .field _ _ _ | .indexAddr _ _ _ | .index _ _ _ | .extract _ _ | .build _ _ | .makeFunc _ _ _ => opP c o ρ h K
  | .convert s d _ => match c.P.underlying s, c.P.underlying d with
    | some (.int _), some (.int _) => opP c o ρ h K
    | _, _ => False
  | .call ⟨.builtin .len, _, _⟩ | .call ⟨.builtin .cap, _, _⟩ | .call ⟨.builtin .min, _, _⟩ | .call ⟨.builtin .max, _, _⟩ => opP c o ρ h K
  | .call ⟨.value (.func f), args, _⟩ =>
    match evs ρ args.toList with
    | some es => match pickL f es c.calls with
      | some ⟨s, t⟩ => qcall (fun K' h' => s.sem t K' (fun _ _ => False) h') h fun r => K (tupleOf (TupV.evs s.res r)) h
      | none => False
    | none => False
  | _ => False

def quietOp (c : Cfg) (o : Oper) (e : Env) (h : Heap) (K : Env → Heap → Prop) : Prop :=
  quietP c o.op e h fun v h' => setD c.n e o.dst v fun e' => K e' h'

/-! ### a drawn region with effects: an order in which each operation may be taken first, or is the only one that may come up -/
def bitN (m i : Nat) : Bool := Nat.beq (Nat.land (Nat.shiftRight m i) 1) 1
def setN (m i : Nat) : Nat := Nat.lor m (Nat.shiftLeft 1 i)
def depsOK (m : Nat) : List Edge → Bool
  | [] => true
  | e :: es => bif Region.binds .any e then (bif bitN m e.on then depsOK m es else false) else depsOK m es
def readyB (m i : Nat) (o : Oper) : Bool := bif bitN m i then false else depsOK m o.after.toList
def onlyB (m i : Nat) : Nat → List Oper → Bool
  | _, [] => true
  | k, o :: os => bif Nat.beq k i then onlyB m i (k + 1) os else bif readyB m k o then false else onlyB m i (k + 1) os
def waitsB (i : Nat) : List Edge → Bool
  | [] => false
  | e :: es => bif Nat.beq e.on i then (bif Region.binds .any e then true else waitsB i es) else waitsB i es
def freeB (ops : Array Oper) (oi : Oper) (m i : Nat) : Nat → List Oper → Bool
  | _, [] => true
  | k, o :: os => bif (bif Nat.beq k i then true else bif bitN m k then true else bif waitsB i o.after.toList then true else oi.apart ops o) then freeB ops oi m i (k + 1) os else false
def noneB (m : Nat) : Nat → List Oper → Bool
  | _, [] => true
  | k, o :: os => bif readyB m k o then false else noneB m (k + 1) os

abbrev HeldL := List (Nat × (Heap → Prop))
def dropH (o : Oper) : HeldL → HeldL
  | [] => []
  | x :: r => bif waitsB x.1 o.after.toList then dropH o r else x :: dropH o r
def heldP (h : Heap) : HeldL → Prop → Prop
  | [], K => K
  | x :: r, K => x.2 h ∧ heldP h r K
def only2B (m i j : Nat) : Nat → List Oper → Bool
  | _, [] => true
  | k, o :: os => bif Nat.beq k i || Nat.beq k j then only2B m i j (k + 1) os else bif readyB m k o then false else only2B m i j (k + 1) os

def cellsL (b o : Nat) : Nat → List Value → List (Nat × Nat × Value)
  | _, [] => []
  | i, v :: vs => (b, addO o i, v) :: cellsL b o (i + 1) vs
def ldH (P : Program) (t : TypeId) (h : Heap) (b o : Nat) (K : EV → List (Nat × Nat × Value) → Prop) : Prop :=
  bif isAggD (P.underlying t) then
    (bif Nat.beq (leavesOf P 8 t).length (P.cellsOf t) then ldAll h b o 0 (leavesOf P 8 t) fun vs => K (.val (.agg vs.toArray)) (cellsL b o 0 vs) else False)
  else ldLeaf (P.underlying t) h b o fun v => K v [(b, o, v.v)]

inductive OpK where
  | pure | load (t : TypeId) (x : Operand) | text (x : Operand) | other

def kindOf (c : Cfg) : Op → OpK
  | .move _ | .assign _ | .pick _ _ _ | .nilCheck _ | .binOp _ _ _ _ _ | .unOp _ _ _ | .slice _ _ _ _ _ | .fieldAddr _ _ _ | .field _ _ _ | .indexAddr _ _ _ | .index _ _ _ | .extract _ _ | .build _ _ | .makeFunc _ _ _ => .pure
  | .convert s d x => match c.P.underlying s, c.P.underlying d with
    | some (.int _), some (.int _) => .pure
    | some (.slice e), some .string => match c.P.underlying e with
      | some (.int .u8) => .text x
      | _ => .other
    | _, _ => .other
  | .call ⟨.builtin .len, _, ts⟩ => bif isMapT c.P ts then .other else .pure
  | .call ⟨.builtin .cap, _, _⟩ | .call ⟨.builtin .min, _, _⟩ | .call ⟨.builtin .max, _, _⟩ => .pure
  | .load t x => .load t x
  | _ => .other

def guardP (all : List Oper) (o : Oper) (e : Env) (A B : Env → Prop) : Prop :=
  match o.guard with
  | none => A e
  | some (j, want) =>
    match guardSlot all j with
    | none => B e
    | some t =>
      match e t with
      | some (.lit b) =>
        match b, want with
        | true, true | false, false => A e
        | true, false | false, true => B e
      | some (.val (.bool b)) =>
        match want with
        | true => iteP b (A (e.set t (.lit true))) (B (e.set t (.lit false)))
        | false => iteP b (B (e.set t (.lit true))) (A (e.set t (.lit false)))
      | some _ => B e
      | none => False

inductive OrdT where
  | done | take (i : Nat) (r : OrdT) | fork (i : Nat) (r : OrdT) (j : Nat) (s : OrdT)

def OrdT.depth : OrdT → Nat
  | .done => 0
  | .take _ r => r.depth + 1
  | .fork _ r _ s => Nat.max r.depth s.depth + 1

/-- an operation that may write -/
def effP (c : Cfg) (ops : Array Oper) (o : Oper) (hd : HeldL) (e : Env) (h : Heap) (rest : HeldL → Env → Heap → Prop) : Prop :=
  guardP ops.toList o e (fun e => opP c o.op e h fun v h' => setD c.n e o.dst v fun e' => heldP h' (dropH o hd) (rest (dropH o hd) e' h'))
    (fun e => setD c.n e o.dst (.val undef) fun e' => rest hd e' h)
/-- an operation that only reads -/
def getP (c : Cfg) (ops : Array Oper) (o : Oper) (hd : HeldL) (e : Env) (h : Heap) (rest : HeldL → Env → Heap → Prop) : Prop :=
  guardP ops.toList o e (fun e => opP c o.op e h fun v _ => setD c.n e o.dst v fun e' => rest hd e' h)
    (fun e => setD c.n e o.dst (.val undef) fun e' => rest hd e' h)

def ordP (c : Cfg) (ops : Array Oper) (K : Env → Heap → Prop) : OrdT → Nat → HeldL → Env → Heap → Prop
  | .done, m, _, e, h => bif noneB m 0 ops.toList then K e h else False
  | .fork i r j s, m, hd, e, h =>
    match ops[i]?, ops[j]? with
    | some o, some p => bif readyB m i o && (readyB m j p && only2B m i j 0 ops.toList) then
        bothP (effP c ops o hd e h (ordP c ops K r (setN m i))) (effP c ops p hd e h (ordP c ops K s (setN m j)))
      else False
    | _, _ => False
  | .take i r, m, hd, e, h =>
    match ops[i]? with
    | none => False
    | some o =>
      match kindOf c o.op with
      | .pure => bif readyB m i o && (freeB ops o m i 0 ops.toList || onlyB m i 0 ops.toList) then getP c ops o hd e h (ordP c ops K r (setN m i)) else False
      | .load t x => bif readyB m i o && freeB ops o m i 0 ops.toList then
          guardP ops.toList o e (fun e => match e.ev x with
              | some y => atP y fun b p => ldH c.P t h b p fun v cells => setD c.n e o.dst v fun e' => ordP c ops K r (setN m i) ((i, fun h' => heldL h' cells) :: hd) e' h
              | none => False)
            (fun e => setD c.n e o.dst (.val undef) fun e' => ordP c ops K r (setN m i) hd e' h)
        else bif readyB m i o && onlyB m i 0 ops.toList then getP c ops o hd e h (ordP c ops K r (setN m i)) else False
      | .text x => bif readyB m i o && freeB ops o m i 0 ops.toList then
          guardP ops.toList o e (fun e => match e.ev x with
              | some (.val (.slice p l n)) => b2s ⟨p, l, n⟩ h fun s => setD c.n e o.dst (.val (.string s)) fun e' => ordP c ops K r (setN m i) ((i, fun h' => b2s ⟨p, l, n⟩ h' fun s' => s' = s) :: hd) e' h
              | _ => False)
            (fun e => setD c.n e o.dst (.val undef) fun e' => ordP c ops K r (setN m i) hd e' h)
        else bif readyB m i o && onlyB m i 0 ops.toList then effP c ops o hd e h (ordP c ops K r (setN m i)) else False
      | .other => bif readyB m i o && onlyB m i 0 ops.toList then effP c ops o hd e h (ordP c ops K r (setN m i)) else False

inductive Ann where
  | leaf
  | seq (a b : Ann)
  | cut (slots : List Nat) (tys : List VT) (kill : List (Nat × Nat)) (a b : Ann)
  | cond (a b : Ann)
  | block (a : Ann)
  | loop (slots : List Nat) (tys : List VT) (kill : List (Nat × Nat)) (a : Ann)
  | order (l : OrdT)
  | range (tys : List VT) (a b : Ann)

inductive Ex where
  | normal | exit (id : Nat) | ret

def lookE : List Nat → List EV → Nat → Option EV
  | s :: ss, v :: vs, j => bif Nat.beq j s then some v else lookE ss vs j
  | _, _, _ => none

def killed : List (Nat × Nat) → Nat → Bool
  | [], _ => false
  | (lo, hi) :: r, j => bif Nat.ble lo j && Nat.ble j hi then true else killed r j

def memN : List Nat → Nat → Bool
  | [], _ => false
  | s :: ss, j => bif Nat.beq j s then true else memN ss j

def fillE (slots : List Nat) (vs : List EV) (kill : List (Nat × Nat)) (e : Env) : Env := ⟨fun j =>
  match lookE slots vs j with
  | some v => some v
  | none => bif killed kill j then none else e.f j, e.mD⟩

def readE (e : Env) : List Nat → Option (List EV)
  | [] => some []
  | s :: ss => match e s, readE e ss with
    | some v, some vs => some (v :: vs)
    | _, _ => none

def readT (slots : List Nat) (tys : List VT) (e : Env) : Option (TupV tys) :=
  match readE e slots with
  | some es => TupV.un tys es
  | none => none

def leafP (slots : List Nat) (tys : List VT) (e : Env) (J : TupV tys → Heap → Prop) (h : Heap) : Prop :=
  match readT slots tys e with
  | some t => J t h
  | none => False

/-- the number that stands for the block for deferred calls among the slots that a code turns -/
def mkN : Nat := 4294967291

def dstsOf : Code → List Nat
  | .region _ ops _ => ops.toList.filterMap (·.dst)
  | .seq a b => dstsOf a ++ dstsOf b
  | .cond _ a b => dstsOf a ++ dstsOf b
  | .block _ a => dstsOf a
  | .loop a => dstsOf a
  | .rangeFunc _ _ _ _ => [mkN]
  | _ => []

def dstsIn (slots : List Nat) (kill : List (Nat × Nat)) (a : Code) : Bool := (dstsOf a).all fun j => bif Nat.beq j mkN then false else memN slots j || killed kill j

def contP (K : Env → Heap → Prop) (Q : Ex → Env → Heap → Prop) : Ex → Env → Heap → Prop
  | .normal, e, h => K e h
  | .exit id, e, h => Q (.exit id) e h
  | .ret, e, h => Q .ret e h

def blockP (id : Nat) (Q : Ex → Env → Heap → Prop) : Ex → Env → Heap → Prop
  | .normal, e, h => Q .normal e h
  | .exit id', e, h => bif Nat.beq id' id then Q .normal e h else Q (.exit id') e h
  | .ret, e, h => Q .ret e h

/-- the environment of a round: yield's arguments in the loop's slots -/
def setAll (n : Nat) (e : Env) : List Tmp → List EV → Option Env
  | [], [] => some e
  | p :: ps, v :: vs => bif Nat.blt p n then setAll n (e.set p v) ps vs else none
  | _, _ => none
def hasRF (a : Code) : Bool := memN (dstsOf a) mkN
def isDefer : Op → Bool
  | .defer _ => true
  | _ => false
def noDeferB : List Oper → Bool
  | [] => true
  | o :: os => bif isDefer o.op then false else noDeferB os

def Ann.fst : Ann → Ann
  | .seq a _ | .cut _ _ _ a _ | .cond a _ | .block a | .loop _ _ _ a | .range _ a _ => a
  | .leaf | .order _ => .leaf
def Ann.snd : Ann → Ann
  | .seq _ b | .cut _ _ _ _ b | .cond _ b | .range _ _ b => b
  | _ => .leaf

def roundX (K : Env → Heap → Prop) : Ex → Env → Heap → Prop
  | .normal, e, h => K e h
  | _, _, _ => False
def roundY (k : Option Code → Heap → Prop) : Ex → Env → Heap → Prop
  | .normal, _, h => k none h
  | .exit id, _, h => k (some (.exit id)) h
  | .ret, _, h => k (some .ret) h

def wpC (c : Cfg) : Code → Ann → Env → Heap → (Ex → Env → Heap → Prop) → Prop
  | .skip, _, e, h, Q => Q .normal e h
  | .region _ ops draw, ann, e, h, Q =>
    match draw with
    | true => match ann with
      | .order l => bif Region.noSelect ops && (Nat.ble l.depth ops.size && noDeferB ops.toList) then ordP c ops (fun e' h' => Q .normal e' h') l 0 [] e h else False
      | _ => bif c.rnd.isNone && Region.lexB .any ops then runOps c (quietOp c) ops.toList ops.toList e h fun e' h' => Q .normal e' h' else False
    | false => runOps c (oneOp c) ops.toList ops.toList e h fun e' h' => Q .normal e' h'
  | .seq a b, ann, e, h, Q =>
    match ann with
    | .cut slots tys kill x y =>
      bif dstsIn slots kill a then
        cutP (fun t h' => wpC c b y (fillE slots (TupV.evs tys t) kill e) h' Q) (fun J => wpC c a x e h (contP (fun e' h' => leafP slots tys e' J h') Q))
      else False
    | ann => wpC c a ann.fst e h (contP (fun e' h' => wpC c b ann.snd e' h' Q) Q)
  | .cond x a b, ann, e, h, Q =>
    match e.ev x with
    | some (.lit true) => wpC c a ann.fst e h Q
    | some (.lit false) => wpC c b ann.snd e h Q
    | some (.val (.bool v)) => iteP v (wpC c a ann.fst e h Q) (wpC c b ann.snd e h Q)
    | _ => False
  | .block id a, ann, e, h, Q => wpC c a ann.fst e h (blockP id Q)
  | .loop a, ann, e, h, Q =>
    match ann with
    | .loop slots tys kill x =>
      bif dstsIn slots kill a then
        match readT slots tys e with
        | some t0 => loopM (fun J t h' => wpC c a x (fillE slots (TupV.evs tys t) kill e) h' (contP (fun e' h'' => leafP slots tys e' J h'') Q)) t0 h
        | none => False
      else False
    | _ => False
  | .exit id, _, e, h, Q => Q (.exit id) e h
  | .ret, _, e, h, Q => Q .ret e h
  | .rangeFunc g ps assign body, ann, e, h, Q =>
    match ann with
    | .range tys x y => bif c.rnd.isNone && e.mD.isNone then
      (match e.ev g with
      | some (.val (.func (.func f) ⟨[]⟩ ⟨cs⟩)) => match pickI f (cs.map EV.val) c.iters with
        | some ⟨s, t⟩ =>
          rangeM ps.size (fun Y l K h' => s.sem Y l t K h')
            (fun l r vs h' k => argsV (fun a : TupV tys => (TupV.evs tys a).map EV.v) vs fun a => match setAll c.n ⟨e.f, none⟩ ps.toList (TupV.evs tys a) with
              | some e1 => wpC { c with rnd := some l, pan := fun _ _ => False } assign x e1 h' (roundX fun e2 h2 =>
                  busyM r l h2 fun h3 => wpC { c with rnd := some l, pan := fun _ _ => False } body y e2 h3 (roundY k))
              | none => False)
            h fun p D h' => jumpP p (Q .normal ⟨e.f, some D⟩ h') (fun id => Q (.exit id) ⟨e.f, some D⟩ h') (Q .ret ⟨e.f, some D⟩ h')
        | none => False
      | _ => False)
      else False
    | _ => False
  | _, _, _, _, _ => False

/-- what a function hands back -/
def resP (c : Cfg) (e : Env) (h : Heap) : List ResultVar → (List EV → Prop) → Prop
  | [], K => K []
  | .tmp t :: r, K => match e.f t with
    | some v => resP c e h r fun vs => K (v :: vs)
    | none => False
  | .cell a t :: r, K => match e.f a with
    | some (.adr b o) => ldT c.P t h b o fun v => resP c e h r fun vs => K (v :: vs)
    | _ => False

def argEnv' (l : List EV) : Env := ⟨fun j => go l 0 j, none⟩
where go : List EV → Nat → Nat → Option EV
  | [], _, _ => none
  | v :: vs, i, j => bif Nat.beq j i then some v else go vs (i + 1) j

/-- the reading of a whole function -/
def funP (c : Cfg) (fn : Func) (ann : Ann) (args : List EV) (res : List VT) (K : TupV res → Heap → Prop) (Kp : Value → Heap → Prop) (h : Heap) : Prop :=
  match fn.body with
  | some code => wpC { c with rnd := none, pan := bif hasRF code then fun _ _ => False else Kp } code ann (argEnv' args) h fun ex e h' =>
    match ex with
    | .exit _ => False
    | _ => match e.mD with
      | none => resP c e h' fn.results.toList fun vs => match TupV.un res vs with
        | some r => K r h'
        | none => False
      | some D => shutM D h' fun h' => resP c e h' fn.results.toList fun vs => match TupV.un res vs with
        | some r => K r h'
        | none => False
  | none => False

end Go.Fw
