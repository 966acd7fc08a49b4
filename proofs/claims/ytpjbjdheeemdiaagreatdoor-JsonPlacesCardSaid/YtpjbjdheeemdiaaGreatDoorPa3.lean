/- The reading of a function's code, continued: regions, statements, loops; and when a reading is right. -/
import Derived.OrdersHeld
import Derived.Laws.Sem
import Derived.Laws.World
import Derived.RangeFuncLeaves
import Derived.RangeFuncRecord
import Derived.Test.YtpjbjdheeemdiaaGreatDoorPa2
set_option linter.unusedVariables false
set_option linter.unusedSimpArgs false
namespace Go.Fw
open Go
def ZiL (n:Nat) (e:Env) (d:Option Tmp) (v:EV) (K:Env→Prop):Prop :=
  match d with
  | none=>K e
  | some d=>bif Nat.blt d n then K (e.set d v) else False
def opQ (c:Cfg) (o:Oper) (e:Env) (h:Zc) (K:EV→Zc→Prop):Prop :=
  match o.op with
  | .assign x=>bif Zms (c.P.underlying o.type) then (match e.ev x with
    | some v=>K v h
    | none=>False) else opP c (.assign x) e h K
  | op=>opP c op e h K
def ZqF (c:Cfg) (o:Oper) (e:Env) (h:Zc) (K:Env→Zc→Prop):Prop :=
  opQ c o e h fun v h'=>ZiL c.n e o.dst v fun e'=>K e' h'
def Zgq (c:Cfg) (o:Oper) (e:Env) (h:Zc) (K:Env→Zc→Prop):Prop :=
  ZiL c.n e o.dst (.val undef) fun e'=>K e' h
def ZbD (ops:List Oper) (j:Nat):Option Tmp:=(ops[j]?).bind (·.dst)
def ZaH (c:Cfg) (one:Oper→Env→Zc→(Env→Zc→Prop)→Prop) (all:List Oper):List Oper→Env→Zc→(Env→Zc→Prop)→Prop
  | [],e,h,K=>K e h
  | o::os,e,h,K =>
    match o.guard with
    | none=>one o e h fun e' h'=>ZaH c one all os e' h' K
    | some (j,want) =>
      match ZbD all j with
      | none=>Zgq c o e h fun e' h'=>ZaH c one all os e' h' K
      | some t =>
        match e t with
        | some (.lit b) =>
          match b,want with
          | true,true | false,false=>one o e h fun e' h'=>ZaH c one all os e' h' K
          | true,false | false,true=>Zgq c o e h fun e' h'=>ZaH c one all os e' h' K
        | some (.val (.bool b)) =>
          match want with
          | true=>ZD b (one o (e.set t (.lit true)) h fun e' h'=>ZaH c one all os e' h' K) (Zgq c o (e.set t (.lit false)) h fun e' h'=>ZaH c one all os e' h' K)
          | false=>ZD b (Zgq c o (e.set t (.lit true)) h fun e' h'=>ZaH c one all os e' h' K) (one o (e.set t (.lit false)) h fun e' h'=>ZaH c one all os e' h' K)
        | some _=>Zgq c o e h fun e' h'=>ZaH c one all os e' h' K
        | none=>False
def ZjN (c:Cfg) (o:Op) (ρ:Env) (h:Zc) (K:EV→Zc→Prop):Prop :=
  match o with
  | .move _ | .assign _ | .pick _ _ _ | .load _ _ | .nilCheck _ | .binOp _ _ _ _ _ | .unOp _ _ _ | .slice _ _ _ _ _ | .fieldAddr _ _ _ | .field _ _ _ | .indexAddr _ _ _ | .index _ _ _ | .extract _ _ | .build _ _ | .makeFunc _ _ _=>opP c o ρ h K
  | .convert s d _=>match c.P.underlying s,c.P.underlying d with
    | some (.int _),some (.int _)=>opP c o ρ h K
    | _,_=>False
  | .call ⟨.builtin .len,_,_⟩ | .call ⟨.builtin .cap,_,_⟩ | .call ⟨.builtin .min,_,_⟩ | .call ⟨.builtin .max,_,_⟩=>opP c o ρ h K
  | .call ⟨.value (.func f),args,_⟩ =>
    match evs ρ args.toList with
    | some es=>match Zf8 f es c.calls with
      | some ⟨s,t⟩=>ZkM (fun K' h'=>s.sem t K' (fun _ _=>False) h') h fun r=>K (ZaX (Ym.evs s.res r)) h
      | none=>False
    | none=>False
  | _=>False
def ZlY (c:Cfg) (o:Oper) (e:Env) (h:Zc) (K:Env→Zc→Prop):Prop :=
  ZjN c o.op e h fun v h'=>ZiL c.n e o.dst v fun e'=>K e' h'
def Zkm (m i:Nat):Bool:=Nat.beq (Nat.land (Nat.shiftRight m i) 1) 1
def Zf0 (m i:Nat):Nat:=Nat.lor m (Nat.shiftLeft 1 i)
def ZgU (m:Nat):List Edge→Bool
  | []=>true
  | e::es=>bif Region.binds .any e then (bif Zkm m e.on then ZgU m es else false) else ZgU m es
def YS (m i:Nat) (o:Oper):Bool:=bif Zkm m i then false else ZgU m o.after.toList
def Zec (m i:Nat):Nat→List Oper→Bool
  | _,[]=>true
  | k,o::os=>bif Nat.beq k i then Zec m i (k+1) os else bif YS m k o then false else Zec m i (k+1) os
def Zb9 (i:Nat):List Edge→Bool
  | []=>false
  | e::es=>bif Nat.beq e.on i then (bif Region.binds .any e then true else Zb9 i es) else Zb9 i es
def ZeB (ops:Array Oper) (oi:Oper) (m i:Nat):Nat→List Oper→Bool
  | _,[]=>true
  | k,o::os=>bif (bif Nat.beq k i then true else bif Zkm m k then true else bif Zb9 i o.after.toList then true else oi.apart ops o) then ZeB ops oi m i (k+1) os else false
def Zmf (m:Nat):Nat→List Oper→Bool
  | _,[]=>true
  | k,o::os=>bif YS m k o then false else Zmf m (k+1) os
abbrev Zb8:=List (Nat × (Zc→Prop))
def Zlc (o:Oper):Zb8→Zb8
  | []=>[]
  | x::r=>bif Zb9 x.1 o.after.toList then Zlc o r else x::Zlc o r
def Zpo (h:Zc):Zb8→Prop→Prop
  | [],K=>K
  | x::r,K=>x.2 h∧Zpo h r K
def ZgC (m i j:Nat):Nat→List Oper→Bool
  | _,[]=>true
  | k,o::os=>bif Nat.beq k i||Nat.beq k j then ZgC m i j (k+1) os else bif YS m k o then false else ZgC m i j (k+1) os
def ZiJ (b o:Nat):Nat→List Value→List (Nat × Nat × Value)
  | _,[]=>[]
  | i,v::vs=>(b,Zq8 o i,v)::ZiJ b o (i+1) vs
def ldH (P:Program) (t:TypeId) (h:Zc) (b o:Nat) (K:EV→List (Nat × Nat × Value)→Prop):Prop :=
  bif Xd (P.underlying t) then
    (bif Nat.beq (ZaN P 8 t).length (P.cellsOf t) then ZnW h b o 0 (ZaN P 8 t) fun vs=>K (.val (.agg vs.toArray)) (ZiJ b o 0 vs) else False)
  else Zfs (P.underlying t) h b o fun v=>K v [(b,o,v.v)]
inductive OpK where
  | pure | load (t:TypeId) (x:Operand) | text (x:Operand) | other
def Zcf (c:Cfg):Op→OpK
  | .move _ | .assign _ | .pick _ _ _ | .nilCheck _ | .binOp _ _ _ _ _ | .unOp _ _ _ | .slice _ _ _ _ _ | .fieldAddr _ _ _ | .field _ _ _ | .indexAddr _ _ _ | .index _ _ _ | .extract _ _ | .build _ _ | .makeFunc _ _ _=> .pure
  | .convert s d x=>match c.P.underlying s,c.P.underlying d with
    | some (.int _),some (.int _)=> .pure
    | some (.slice e),some .string=>match c.P.underlying e with
      | some (.int .u8)=> .text x
      | _=> .other
    | _,_=> .other
  | .call ⟨.builtin .len,_,ts⟩=>bif Zdd c.P ts then .other else .pure
  | .call ⟨.builtin .cap,_,_⟩ | .call ⟨.builtin .min,_,_⟩ | .call ⟨.builtin .max,_,_⟩=> .pure
  | .load t x=> .load t x
  | _=> .other
def Zfy (all:List Oper) (o:Oper) (e:Env) (A B:Env→Prop):Prop :=
  match o.guard with
  | none=>A e
  | some (j,want) =>
    match ZbD all j with
    | none=>B e
    | some t =>
      match e t with
      | some (.lit b) =>
        match b,want with
        | true,true | false,false=>A e
        | true,false | false,true=>B e
      | some (.val (.bool b)) =>
        match want with
        | true=>ZD b (A (e.set t (.lit true))) (B (e.set t (.lit false)))
        | false=>ZD b (B (e.set t (.lit true))) (A (e.set t (.lit false)))
      | some _=>B e
      | none=>False
inductive OrdT where
  | done | take (i:Nat) (r:OrdT) | fork (i:Nat) (r:OrdT) (j:Nat) (s:OrdT)
def OrdT.depth:OrdT→Nat
  | .done=>0
  | .take _ r=>r.depth+1
  | .fork _ r _ s=>Nat.max r.depth s.depth+1
def ZpB (c:Cfg) (ops:Array Oper) (o:Oper) (hd:Zb8) (e:Env) (h:Zc) (rest:Zb8→Env→Zc→Prop):Prop :=
  Zfy ops.toList o e (fun e=>opP c o.op e h fun v h'=>ZiL c.n e o.dst v fun e'=>Zpo h' (Zlc o hd) (rest (Zlc o hd) e' h'))
   (fun e=>ZiL c.n e o.dst (.val undef) fun e'=>rest hd e' h)
def Zq0 (c:Cfg) (ops:Array Oper) (o:Oper) (hd:Zb8) (e:Env) (h:Zc) (rest:Zb8→Env→Zc→Prop):Prop :=
  Zfy ops.toList o e (fun e=>opP c o.op e h fun v _=>ZiL c.n e o.dst v fun e'=>rest hd e' h)
   (fun e=>ZiL c.n e o.dst (.val undef) fun e'=>rest hd e' h)
def Zig (c:Cfg) (ops:Array Oper) (K:Env→Zc→Prop):OrdT→Nat→Zb8→Env→Zc→Prop
  | .done,m,_,e,h=>bif Zmf m 0 ops.toList then K e h else False
  | .fork i r j s,m,hd,e,h =>
    match ops[i]?,ops[j]? with
    | some o,some p=>bif YS m i o&&(YS m j p&&ZgC m i j 0 ops.toList) then
        Zlg (ZpB c ops o hd e h (Zig c ops K r (Zf0 m i))) (ZpB c ops p hd e h (Zig c ops K s (Zf0 m j)))
      else False
    | _,_=>False
  | .take i r,m,hd,e,h =>
    match ops[i]? with
    | none=>False
    | some o =>
      match Zcf c o.op with
      | .pure=>bif YS m i o&&(ZeB ops o m i 0 ops.toList||Zec m i 0 ops.toList) then Zq0 c ops o hd e h (Zig c ops K r (Zf0 m i)) else False
      | .load t x=>bif YS m i o&&ZeB ops o m i 0 ops.toList then
          Zfy ops.toList o e (fun e=>match e.ev x with
           | some y=>atP y fun b p=>ldH c.P t h b p fun v cells=>ZiL c.n e o.dst v fun e'=>Zig c ops K r (Zf0 m i) ((i,fun h'=>Zdr h' cells)::hd) e' h
           | none=>False)
           (fun e=>ZiL c.n e o.dst (.val undef) fun e'=>Zig c ops K r (Zf0 m i) hd e' h)
        else bif YS m i o&&Zec m i 0 ops.toList then Zq0 c ops o hd e h (Zig c ops K r (Zf0 m i)) else False
      | .text x=>bif YS m i o&&ZeB ops o m i 0 ops.toList then
          Zfy ops.toList o e (fun e=>match e.ev x with
           | some (.val (.slice p l n))=>b2s ⟨p,l,n⟩ h fun s=>ZiL c.n e o.dst (.val (.string s)) fun e'=>Zig c ops K r (Zf0 m i) ((i,fun h'=>b2s ⟨p,l,n⟩ h' fun s'=>s'=s)::hd) e' h
           | _=>False)
           (fun e=>ZiL c.n e o.dst (.val undef) fun e'=>Zig c ops K r (Zf0 m i) hd e' h)
        else bif YS m i o&&Zec m i 0 ops.toList then ZpB c ops o hd e h (Zig c ops K r (Zf0 m i)) else False
      | .other=>bif YS m i o&&Zec m i 0 ops.toList then ZpB c ops o hd e h (Zig c ops K r (Zf0 m i)) else False
inductive Ann where
  | leaf
  | seq (a b:Ann)
  | cut (slots:List Nat) (tys:List VT) (kill:List (Nat × Nat)) (a b:Ann)
  | cond (a b:Ann)
  | block (a:Ann)
  | loop (slots:List Nat) (tys:List VT) (kill:List (Nat × Nat)) (a:Ann)
  | order (l:OrdT)
  | range (tys:List VT) (a b:Ann)
inductive Ex where
  | normal | exit (id:Nat) | ret
def ZcA:List Nat→List EV→Nat→Option EV
  | s::ss,v::vs,j=>bif Nat.beq j s then some v else ZcA ss vs j
  | _,_,_=>none
def Zis:List (Nat × Nat)→Nat→Bool
  | [],_=>false
  | (lo,hi)::r,j=>bif Nat.ble lo j&&Nat.ble j hi then true else Zis r j
def ZfU:List Nat→Nat→Bool
  | [],_=>false
  | s::ss,j=>bif Nat.beq j s then true else ZfU ss j
def ZmG (slots:List Nat) (vs:List EV) (kill:List (Nat × Nat)) (e:Env):Env:=⟨fun j =>
  match ZcA slots vs j with
  | some v=>some v
  | none=>bif Zis kill j then none else e.f j,e.mD⟩
def ZkI (e:Env):List Nat→Option (List EV)
  | []=>some []
  | s::ss=>match e s,ZkI e ss with
    | some v,some vs=>some (v::vs)
    | _,_=>none
def Zi2 (slots:List Nat) (tys:List VT) (e:Env):Option (Ym tys) :=
  match ZkI e slots with
  | some es=>Ym.un tys es
  | none=>none
def Zmm (slots:List Nat) (tys:List VT) (e:Env) (J:Ym tys→Zc→Prop) (h:Zc):Prop :=
  match Zi2 slots tys e with
  | some t=>J t h
  | none=>False
def mkN:Nat:=4294967291
def dstsOf:Code→List Nat
  | .region _ ops _=>ops.toList.filterMap (·.dst)
  | .seq a b=>dstsOf a++dstsOf b
  | .cond _ a b=>dstsOf a++dstsOf b
  | .block _ a=>dstsOf a
  | .loop a=>dstsOf a
  | .rangeFunc _ _ _ _=>[mkN]
  | _=>[]
def Zke (slots:List Nat) (kill:List (Nat × Nat)) (a:Code):Bool:=(dstsOf a).all fun j=>bif Nat.beq j mkN then false else ZfU slots j||Zis kill j
def ZaG (K:Env→Zc→Prop) (Q:Ex→Env→Zc→Prop):Ex→Env→Zc→Prop
  | .normal,e,h=>K e h
  | .exit id,e,h=>Q (.exit id) e h
  | .ret,e,h=>Q .ret e h
def ZoR (id:Nat) (Q:Ex→Env→Zc→Prop):Ex→Env→Zc→Prop
  | .normal,e,h=>Q .normal e h
  | .exit id',e,h=>bif Nat.beq id' id then Q .normal e h else Q (.exit id') e h
  | .ret,e,h=>Q .ret e h
def Zgt (n:Nat) (e:Env):List Tmp→List EV→Option Env
  | [],[]=>some e
  | p::ps,v::vs=>bif Nat.blt p n then Zgt n (e.set p v) ps vs else none
  | _,_=>none
def Zpq (a:Code):Bool:=ZfU (dstsOf a) mkN
def Zmu:Op→Bool
  | .defer _=>true
  | _=>false
def ZdM:List Oper→Bool
  | []=>true
  | o::os=>bif Zmu o.op then false else ZdM os
def Ann.fst:Ann→Ann
  | .seq a _ | .cut _ _ _ a _ | .cond a _ | .block a | .loop _ _ _ a | .range _ a _=>a
  | .leaf | .order _=> .leaf
def Ann.snd:Ann→Ann
  | .seq _ b | .cut _ _ _ _ b | .cond _ b | .range _ _ b=>b
  | _=> .leaf
def Zoz (K:Env→Zc→Prop):Ex→Env→Zc→Prop
  | .normal,e,h=>K e h
  | _,_,_=>False
def Zoy (k:Option Code→Zc→Prop):Ex→Env→Zc→Prop
  | .normal,_,h=>k none h
  | .exit id,_,h=>k (some (.exit id)) h
  | .ret,_,h=>k (some .ret) h
def wpC (c:Cfg):Code→Ann→Env→Zc→(Ex→Env→Zc→Prop)→Prop
  | .skip,_,e,h,Q=>Q .normal e h
  | .region _ ops draw,ann,e,h,Q =>
    match draw with
    | true=>match ann with
      | .order l=>bif Region.noSelect ops&&(Nat.ble l.depth ops.size&&ZdM ops.toList) then Zig c ops (fun e' h'=>Q .normal e' h') l 0 [] e h else False
      | _=>bif c.rnd.isNone&&Region.lexB .any ops then ZaH c (ZlY c) ops.toList ops.toList e h fun e' h'=>Q .normal e' h' else False
    | false=>ZaH c (ZqF c) ops.toList ops.toList e h fun e' h'=>Q .normal e' h'
  | .seq a b,ann,e,h,Q =>
    match ann with
    | .cut slots tys kill x y =>
      bif Zke slots kill a then
        Zb4 (fun t h'=>wpC c b y (ZmG slots (Ym.evs tys t) kill e) h' Q) (fun J=>wpC c a x e h (ZaG (fun e' h'=>Zmm slots tys e' J h') Q))
      else False
    | ann=>wpC c a ann.fst e h (ZaG (fun e' h'=>wpC c b ann.snd e' h' Q) Q)
  | .cond x a b,ann,e,h,Q =>
    match e.ev x with
    | some (.lit true)=>wpC c a ann.fst e h Q
    | some (.lit false)=>wpC c b ann.snd e h Q
    | some (.val (.bool v))=>ZD v (wpC c a ann.fst e h Q) (wpC c b ann.snd e h Q)
    | _=>False
  | .block id a,ann,e,h,Q=>wpC c a ann.fst e h (ZoR id Q)
  | .loop a,ann,e,h,Q =>
    match ann with
    | .loop slots tys kill x =>
      bif Zke slots kill a then
        match Zi2 slots tys e with
        | some t0=>Zc6 (fun J t h'=>wpC c a x (ZmG slots (Ym.evs tys t) kill e) h' (ZaG (fun e' h''=>Zmm slots tys e' J h'') Q)) t0 h
        | none=>False
      else False
    | _=>False
  | .exit id,_,e,h,Q=>Q (.exit id) e h
  | .ret,_,e,h,Q=>Q .ret e h
  | .rangeFunc g ps assign body,ann,e,h,Q =>
    match ann with
    | .range tys x y=>bif c.rnd.isNone&&e.mD.isNo then
      (match e.ev g with
      | some (.val (.func (.func f) ⟨[]⟩ ⟨cs⟩))=>match ZkP f (cs.map EV.val) c.iters with
        | some ⟨s,t⟩ =>
          ZqC ps.size (fun Y l K h'=>s.sem Y l t K h')
           (fun l r vs h' k=>Zq6 (fun a:Ym tys=>(Ym.evs tys a).map EV.v) vs fun a=>match Zgt c.n ⟨e.f,.no⟩ ps.toList (Ym.evs tys a) with
             | some e1=>wpC { c with rnd:=some l,pan:=fun _ _=>False } assign x e1 h' (Zoz fun e2 h2 =>
                 Zq5 r l h2 fun h3=>wpC { c with rnd:=some l,pan:=fun _ _=>False } body y e2 h3 (Zoy k))
             | none=>False)
           h fun p D h'=>ZqV p (Q .normal ⟨e.f,.at_ D⟩ h') (fun id=>Q (.exit id) ⟨e.f,.at_ D⟩ h') (Q .ret ⟨e.f,.at_ D⟩ h')
        | none=>False
      | _=>False)
      else False
    | _=>False
  | _,_,_,_,_=>False
def Zlk (c:Cfg) (e:Env) (h:Zc):List ResultVar→(List EV→Prop)→Prop
  | [],K=>K []
  | .tmp t::r,K=>match e.f t with
    | some v=>Zlk c e h r fun vs=>K (v::vs)
    | none=>False
  | .cell a t::r,K=>match e.f a with
    | some (.adr b o)=>ldT c.P t h b o fun v=>Zlk c e h r fun vs=>K (v::vs)
    | _=>False
def Zdx (l:List EV):Env:=⟨fun j=>go l 0 j,.no⟩
where go:List EV→Nat→Nat→Option EV
  | [],_,_=>none
  | v::vs,i,j=>bif Nat.beq j i then some v else go vs (i+1) j
def Zrg (c:Cfg) (fn:Func) (ann:Ann) (args:List EV) (res:List VT) (K:Ym res→Zc→Prop) (Kp:Value→Zc→Prop) (h:Zc):Prop :=
  match fn.body with
  | some code=>wpC { c with rnd:=none,pan:=bif Zpq code then fun _ _=>False else Kp } code ann (Zdx args) h fun ex e h' =>
    match ex with
    | .exit _=>False
    | _=>match e.mD with
      | .no=>Zlk c e h' fn.results.toList fun vs=>match Ym.un res vs with
        | some r=>K r h'
        | none=>False
      | .at_ D=>Zqy D h' fun h'=>Zlk c e h' fn.results.toList fun vs=>match Ym.un res vs with
        | some r=>K r h'
        | none=>False
      | .raw _=>False
  | none=>False
theorem Zdw (w:World) (b o:Nat):w.cell? ⟨b,o,none⟩=Zc.cell w.heap b o:=by
  unfold World.cell? Zc.cell
  simp only [Option.isSome_none,Bool.false_eq_true,if_false]
  cases w.heap[b]? with
  | none=>rfl
  | some x=>cases x<;>rfl
theorem Zpu (w:World) (b o:Nat):w.frozen? ⟨b,o,none⟩=Zc.froz w.heap b o:=by
  unfold World.frozen? Zc.froz
  rfl
theorem Zgr (w:World) (b o:Nat) (v:Value):w.setCell ⟨b,o,none⟩ v={ w with heap:=Zc.put w.heap b o v }:=by
  unfold World.setCell Zc.put
  simp only [Option.isSome_none,Bool.false_eq_true,if_false]
  refine congrArg (fun f=>({ w with heap:=w.heap.modify b f }:World)) ?_
  funext x
  cases x<;>rfl
theorem ZfR (b o n:Nat):(⟨b,o,none⟩:Addr).add n=⟨b,o+n,none⟩:=by
  unfold Addr.add
  split
  ·rename_i h;subst h;rfl
  ·rfl
theorem Zjt (o i:Nat):Zq8 o i=o+i:=by
  unfold Zq8
  cases h:Nat.beq i 0 with
  | false=>rfl
  | true=>have:=Nat.eq_of_beq_eq_true h;subst this;rfl
def Same (w w':World):Prop:=w'.tape=w.tape∧w'.os=w.os∧w'.output=w.output
theorem Same.refl (w:World):Same w w:=⟨rfl,rfl,rfl⟩
theorem Same.trans {a b c:World} (h:Same a b) (h':Same b c):Same a c:=⟨h'.1.trans h.1,h'.2.1.trans h.2.1,h'.2.2.trans h.2.2⟩
def Zpj:Mark→List Deferred
  | .no=>[]
  | .at_ D=>[{ target:= .collected D,args:= #[]}]
  | .raw ds=>ds
structure Agr (n:Nat) (e:Env) (a:Act):Prop where
  size:a.tmps.size=n
  defers:a.defers=Zpj e.mD
  val:∀ j v,e j=some v→a.tmps[j]?=some v.v
theorem Agr.ev {n:Nat} {e:Env} {a:Act} (h:Agr n e a) {x:Operand} {v:EV} (hx:e.ev x=some v):a.eval x=v.v:=by
  cases x with
  | tmp t=>have:=h.val t v hx;simp [Act.eval,this]
  | const c =>
    cases c<;>simp only [Env.ev,Option.some.injEq] at hx<;>subst hx<;>rfl
  | global g=>simp only [Env.ev,Option.some.injEq] at hx;subst hx;rfl
  | func f=>simp only [Env.ev,Option.some.injEq] at hx;subst hx;rfl
theorem Agr.evs {n:Nat} {e:Env} {a:Act} (h:Agr n e a):∀ {xs:List Operand} {vs:List EV},evs e xs=some vs→xs.map a.eval=vs.map EV.v
  | [],vs,hx=>by simp only [Fw.evs,Option.some.injEq] at hx;subst hx;rfl
  | x::xs,vs,hx=>by
    simp only [Fw.evs] at hx
    split at hx
    ·rename_i v vs' h1 h2
     simp only [Option.some.injEq] at hx;subst hx
     simp [h.ev h1,h.evs h2]
    ·cases hx
theorem Agr.set {n:Nat} {e:Env} {a:Act} (h:Agr n e a) {d:Nat} (hd:Nat.blt d n=true) (v:EV):Agr n (e.set d v) (a.put (some d) v.v):=by
  have hlt:d<n:=by rw [Nat.blt_eq] at hd;exact hd
  refine ⟨by simp [Act.put,h.size],by simp [Act.put,h.defers,Env.set],fun j u hj=>?_⟩
  unfold Env.set at hj
  dsimp only at hj
  cases hb:Nat.beq j d with
  | true =>
    have:=Nat.eq_of_beq_eq_true hb;subst this
    rw [hb] at hj
    simp only [cond_true,Option.some.injEq] at hj
    subst hj
    simp [Act.put,h.size,hlt]
  | false =>
    have hne:j≠d:=Nat.ne_of_beq_eq_false hb
    rw [hb] at hj
    simp only [cond_false] at hj
    have:=h.val j u hj
    simp [Act.put,Array.getElem?_setIfInBounds_ne (Ne.symm hne),this]
theorem Agr.tell {n:Nat} {e:Env} {a:Act} (h:Agr n e a) {t:Nat} {b:Bool} (ht:e t=some (.val (.bool b))):Agr n (e.set t (.lit b)) a:=by
  refine ⟨h.size,h.defers,fun j u hj=>?_⟩
  unfold Env.set at hj
  dsimp only at hj
  cases hb:Nat.beq j t with
  | true =>
    have:=Nat.eq_of_beq_eq_true hb;subst this
    rw [hb] at hj
    simp only [cond_true,Option.some.injEq] at hj
    subst hj
    have:=h.val j _ ht
    exact this
  | false =>
    rw [hb] at hj
    exact h.val j u hj
theorem XJ {n:Nat} {e:Env} {a:Act} (h:Agr n e a) {d:Option Tmp} {v:EV} {K:Env→Prop} (hk:ZiL n e d v K) :
    ∃ e',Agr n e' (a.put d v.v)∧K e':=by
  unfold ZiL at hk
  cases d with
  | none=>exact ⟨e,h,hk⟩
  | some d =>
    simp only at hk
    cases hb:Nat.blt d n with
    | false=>rw [hb] at hk;exact hk.elim
    | true=>rw [hb] at hk;exact ⟨_,h.set hb v,hk⟩
section
variable (P:Program) (w:World)
theorem ZbN {b o:Nat} {v:Value} (h:Zc.cell w.heap b o=some v) (m:Mode):(load ⟨b,o,none⟩ m).run P w = .ok v w:=by
  rw [run_load,Zdw,h]
theorem Zf4 {b o:Nat} {u v:Value} (h:Zc.cell w.heap b o=some u) (hf:Zc.froz w.heap b o=false) (hv:ZV v=true) (m:Mode) :
    (store ⟨b,o,none⟩ v m).run P w = .ok () { w with heap:=Zc.put w.heap b o v }:=by
  have hv':v.oneCell'=true:=by cases v<;>first | rfl | (simp [ZV] at hv)
  rw [run_store P w _ v m hv',Zdw,h,Zpu,hf]
  simp only [Bool.false_eq_true,if_false,Zgr]
theorem Zb (t:TypeId) {d:TypeDesc} (h:P.underlying t=some d):(underlying t).run P w = .ok d w:=by
  unfold underlying
  simp [h]
theorem Y0 (t:TypeId) {i:TypeInfo} (h:P.info? t=some i):(typeInfo t).run P w = .ok i w:=by
  unfold typeInfo
  simp [h]
theorem Ye (t:TypeId) {i:TypeInfo} (h:P.info? t=some i):(sizeOf t).run P w = .ok i.size w:=by
  unfold sizeOf
  simp [Y0 P w t h]
theorem Yw (t:TypeId) {i:TypeInfo} {v:Value} (h:P.info? t=some i) (hv:i.zero=some v):(zeroValue t).run P w = .ok v w:=by
  unfold zeroValue
  simp [Y0 P w t h,hv]
theorem YN {t:TypeId} {d:TypeDesc} (h:P.underlying t=some d):∃ i,P.info? t=some i:=by
  unfold Program.underlying at h
  cases hi:P.info? t with
  | none=>simp [hi] at h
  | some i=>exact ⟨i,rfl⟩
theorem Xe {t:TypeId} {i:TypeInfo} (h:P.info? t=some i):P.cellsOf t=i.size:=by
  unfold Program.cellsOf
  simp [h]
theorem Zax (t:TypeId) {d:TypeDesc} (h:P.underlying t=some d):(isAgg t).run P w = .ok (Xd (some d)) w:=by
  unfold isAgg
  simp only [Sem.run_bind,Zb P w t h,Result.andThen_ok]
  cases d<;>rfl
theorem Zby (b o:Nat):∀ (vs:List Value) (i:Nat) (acc:Array Value),Zc.has w.heap b (o+i) vs →
    (loadCellsFrom ⟨b,o,none⟩ i vs.length acc).run P w = .ok (acc++vs.toArray) w
  | [],i,acc,_=>by simp [loadCellsFrom]
  | v::vs,i,acc,h=>by
    have h1:Zc.cell w.heap b (o+i)=some v:=h.1
    have h2:Zc.has w.heap b (o+i+1) vs:=h.2
    simp only [List.length_cons,loadCellsFrom,Sem.run_bind,ZfR,ZbN P w h1,Result.andThen_ok]
    rw [Zby b o vs (i+1) _ (by rw [← Nat.add_assoc];exact h2)]
    simp
theorem X0 (b o:Nat) (vs:List Value) (h:Zc.has w.heap b o vs):(loadCells ⟨b,o,none⟩ vs.length).run P w = .ok vs.toArray w:=by
  unfold loadCells
  rw [Zby P w b o vs 0 #[] (by simpa using h)]
  simp
end
theorem Zjo {h:Zc} {b o b' o':Nat} {v:Value} (hne:b≠b'∨o≠o'):(h.put b o v).cell b' o'=h.cell b' o':=by
  unfold Zc.put Zc.cell
  simp only [Array.getElem?_modify]
  by_cases hb:b=b'
  ·subst hb
   have ho:o≠o':=hne.resolve_left (fun h=>h rfl)
   simp only [if_true]
   cases hh:h[b]? with
   | none=>rfl
   | some x=>cases x<;>simp [Array.getElem?_setIfInBounds_ne ho]
  ·simp [hb]
theorem Zn1 {h:Zc} {b o b' o':Nat} {v:Value}:(h.put b o v).froz b' o'=h.froz b' o':=by
  unfold Zc.put Zc.froz
  simp only [Array.getElem?_modify]
  by_cases hb:b=b'
  ·subst hb
   simp only [if_true]
   cases hh:h[b]? with
   | none=>rfl
   | some x=>cases x<;>rfl
  ·simp [hb]
theorem Zj6 {h:Zc} {b o:Nat} {v:Value}:∀ {n o':Nat},o<o'→h.free b o' n→(h.put b o v).free b o' n
  | 0,_,_,_=>trivial
  | n+1,o',hlt,hf=>by
    obtain ⟨⟨⟨u,hu⟩,hz⟩,hr⟩:=hf
    exact ⟨⟨⟨u,by rw [Zjo (.inr (by omega))];exact hu⟩,by rw [Zn1];exact hz⟩,Zj6 (by omega) hr⟩
theorem Zaq (P:Program) (b o:Nat):∀ (vs:List Value) (i:Nat) (w:World),Zc.free w.heap b (o+i) vs.length→vs.all ZV=true →
    (storeCells ⟨b,o,none⟩ vs i).run P w = .ok () { w with heap:=Zc.puts w.heap b (o+i) vs }
  | [],i,w,_,_=>rfl
  | v::vs,i,w,hf,ha=>by
    obtain ⟨⟨⟨u,hu⟩,hz⟩,hr⟩:=hf
    simp only [List.all_cons,Bool.and_eq_true] at ha
    simp only [storeCells,Sem.run_bind,ZfR,Zf4 P w hu hz ha.1,Result.andThen_ok]
    rw [Zaq P b o vs (i+1) _ (by rw [← Nat.add_assoc];exact Zj6 (by omega) hr) ha.2]
    simp [Zc.puts,Nat.add_assoc]
theorem Zdp {d:Option TypeDesc} {h:Zc} {b o:Nat} {K:EV→Prop} (hk:Zfs d h b o K) :
    ∃ v,h.cell b o=some v.v∧K v∧Xd d=false∧d.isSome=true:=by
  unfold Zfs at hk
  cases d with
  | none=>exact hk.elim
  | some d =>
    cases d<;>simp only at hk<;>first
      | exact hk.elim
      | (obtain ⟨x,hx,hK⟩:=hk;refine ⟨_,?_,hK,rfl,rfl⟩;exact hx)
theorem Zef {h:Zc} {b o:Nat}:∀ {ds:List (Option TypeDesc)} {i:Nat} {K:List Value→Prop},ZnW h b o i ds K →
    ∃ vs,vs.length=ds.length∧h.has b (o+i) vs∧K vs
  | [],i,K,hk=>⟨[],rfl,trivial,hk⟩
  | d::ds,i,K,hk=>by
    obtain ⟨v,hc,hk,_⟩:=Zdp hk
    obtain ⟨vs,hl,hh,hk⟩:=Zef hk
    rw [Zjt] at hc
    exact ⟨v.v::vs,by simp [hl],⟨hc,by rw [Nat.add_assoc];exact hh⟩,hk⟩
theorem Zj0 {P:Program} {t:TypeId} {b o:Nat} {K:EV→Prop} {h:Zc} (hk:ldT P t h b o K) :
    ∃ v,(∀ w:World,w.heap=h→(loadVar t ⟨b,o,none⟩).run P w = .ok v.v w)∧K v:=by
  unfold ldT at hk
  cases hu:P.underlying t with
  | none=>rw [hu] at hk;simp [Xd,Zfs] at hk
  | some d =>
    obtain ⟨i,hi⟩:=YN P hu
    rw [hu] at hk
    unfold loadVar
    cases ha:Xd (some d) with
    | true =>
      rw [ha] at hk
      simp only [cond_true] at hk
      cases hl:Nat.beq (ZaN P 8 t).length (P.cellsOf t) with
      | false=>rw [hl] at hk;exact hk.elim
      | true =>
        rw [hl] at hk
        obtain ⟨vs,hlen,hh,hk⟩:=Zef hk
        have hs:i.size=vs.length:=by rw [hlen,Nat.eq_of_beq_eq_true hl,Xe P hi]
        refine ⟨.val (.agg vs.toArray),fun w hw=>?_,hk⟩
        subst hw
        simp only [Sem.run_bind,Zax P w t hu,ha,Result.andThen_ok,if_true,Ye P w t hi,hs]
        rw [X0 P w b o vs (by simpa using hh)]
        rfl
    | false =>
      rw [ha] at hk
      obtain ⟨v,hc,hk,_⟩:=Zdp hk
      refine ⟨v,fun w hw=>?_,hk⟩
      subst hw
      simp only [Sem.run_bind,Zax P w t hu,ha,Result.andThen_ok,Bool.false_eq_true,if_false]
      exact ZbN P w hc _
def ZoA (vs:List VT) (t:Ym vs):Value:=(ZaX (Ym.evs vs t)).v
def fen (r:Option Nat):Fence:={ fn:=fun _=>True,depth:=none,alive:=false,round:=r }
theorem Zb6 {r:Option Nat} {n:Nat} {P:Program} {f:FuncId} {args:Array Value} {w:World} {R:Ending→World→Prop}:CallsIn (fen r) n P f args w R↔Calls P f args w R :=
  callsIn_wide (n:=n)
def Zaw (res:List VT) (w:World) (K:Ym res→Zc→Prop) (Kp:Value→Zc→Prop):Ending→World→Prop:=fun e w' =>
  (∃ r,e = .returned (ZoA res r)∧Same w w'∧K r w'.heap)∨(∃ v,e = .panicked [{ v,recovered:=false }]∧Same w w'∧Kp v w'.heap)
def Zon (P:Program) (l:Nat) (vs:List Value) (w:World) (k:Bool→Zc→Prop):Prop :=
  ∃ fn tmps assign body,(Instr.yield l vs.toArray).run P w = .ok (.round l fn tmps assign body) w ∧
    RoundIn (fen none) 0 P l fn tmps assign body w fun e w'=>∃ b,e = .returned (.bool b)∧Same w w'∧k b w'.heap
def YOK (P:Program) (Y:Yld):Prop:=∀ l vs k w,Y l vs k w.heap→Zon P l vs w k
structure Zu (P:Program) (f:FuncId) (s:Zh):Prop where
  named:∃ fn,P.funcs[f]?=some fn∧(fn.name == "runtime.NumGoroutine")=false∧fn.body.isNone=false
  calls:∀ (t:Ym s.args) (K:Ym s.res→Zc→Prop) (Kp:Value→Zc→Prop) (w:World),s.sem t K Kp w.heap →
    Calls P f ((Ym.evs s.args t).map EV.v).toArray w (Zaw s.res w K Kp)
def XM.spec (s:XM) (Y:Yld):Zh:=⟨.yl::s.caps,[],fun t K _ h=>s.sem Y t.1 t.2 (fun h'=>K () h') h⟩
def Znc (P:Program) (f:FuncId) (s:XM):Prop:=∀ Y,YOK P Y→Zu P f (s.spec Y)
def ZpL (P:Program) (f:FuncId):Prop:=∀ (t b:Nat) (es:Array MapEntry) (c:Nat) (w:World),w.heap[b]?=some (.map es c) →
  ∃ w',(callFunc f #[.iface t (.map (some b))]).run P w = .ok (.value (.iface t (.map (some w.heap.size)))) w'∧Same w w'∧w'.heap=w.heap.push (.map es c)
def Zkq (P:Program) (name:String) (t:TypeId) (f:FuncId):Prop:=∀ (v:Value) (w:World),(method (P.types.size+Made.depth) t v name).run P w = .ok (f,v) w
structure Cfg.OK (c:Cfg):Prop where
  calls:∀ x,x∈c.calls→Zu c.P x.1 x.2
  ext:∀ f,f∈c.ext→ZpL c.P f
  dyn:∀ x,x∈c.dyn→Zkq c.P x.1 x.2.1 x.2.2
  iters:∀ x,x∈c.iters→Znc c.P x.1 x.2
  yld:YOK c.P c.yld
theorem Cfg.OK.at {c:Cfg} (h:c.OK) (r:Option Nat) (p:Value→Zc→Prop):Cfg.OK { c with rnd:=r,pan:=p }:=⟨h.calls,h.ext,h.dyn,h.iters,h.yld⟩
theorem ZM (P:Program):YOK P Yp:=fun _ _ _ _ h=>h.elim
theorem Zfi {f:FuncId} {es:List EV}:∀ {l:List (FuncId × XM)} {p:Zna},ZkP f es l=some p→(f,p.s)∈l∧Ym.un p.s.caps es=some p.t
  | [],p,h=>by simp [ZkP] at h
  | (g,s)::r,p,h=>by
    simp only [ZkP] at h
    cases hb:Nat.beq f g with
    | false =>
      rw [hb] at h
      have:=Zfi (l:=r) h
      exact ⟨.tail _ this.1,this.2⟩
    | true =>
      rw [hb] at h
      have he:=Nat.eq_of_beq_eq_true hb
      subst he
      simp only [cond_true] at h
      split at h
      ·rename_i t ht
       simp only [Option.some.injEq] at h
       subst h
       exact ⟨.head _,ht⟩
      ·have:=Zfi (l:=r) h
       exact ⟨.tail _ this.1,this.2⟩
theorem Zcu {f:FuncId} {es:List EV}:∀ {l:List (FuncId × Zh)} {p:ZoU},Zf8 f es l=some p→(f,p.s)∈l∧Ym.un p.s.args es=some p.t
  | [],p,h=>by simp [Zf8] at h
  | (g,s)::r,p,h=>by
    simp only [Zf8] at h
    cases hb:Nat.beq f g with
    | false =>
      rw [hb] at h
      have:=Zcu (l:=r) h
      exact ⟨.tail _ this.1,this.2⟩
    | true =>
      rw [hb] at h
      have he:=Nat.eq_of_beq_eq_true hb
      subst he
      simp only [cond_true] at h
      split at h
      ·rename_i t ht
       simp only [Option.some.injEq] at h
       subst h
       exact ⟨.head _,ht⟩
      ·have:=Zcu (l:=r) h
       exact ⟨.tail _ this.1,this.2⟩
theorem ZdK {f:FuncId} {es:List EV}:∀ {l:List (FuncId × Zh)} {p:ZhT},Zf7 f es l=some p→(f,(⟨p.a0::p.rest,p.res,p.sem⟩:Zh))∈l∧Ym.un p.rest es=some p.t
  | [],p,h=>by simp [Zf7] at h
  | (g,⟨a0::rest,res,sem⟩)::r,p,h=>by
    simp only [Zf7] at h
    cases hb:Nat.beq f g with
    | false =>
      rw [hb] at h
      have:=ZdK (l:=r) h
      exact ⟨.tail _ this.1,this.2⟩
    | true =>
      rw [hb] at h
      have he:=Nat.eq_of_beq_eq_true hb
      subst he
      simp only [cond_true] at h
      split at h
      ·rename_i t ht
       simp only [Option.some.injEq] at h
       subst h
       exact ⟨.head _,ht⟩
      ·have:=ZdK (l:=r) h
       exact ⟨.tail _ this.1,this.2⟩
  | (g,⟨[],res,sem⟩)::r,p,h=>by
    simp only [Zf7] at h
    have:=ZdK (l:=r) h
    exact ⟨.tail _ this.1,this.2⟩
theorem ZiA {calls:List (FuncId × Zh)} {Kp:Value→Zc→Prop} {name:String} {v:Value} {es:List EV} {h:Zc} {K:EV→Zc→Prop}:∀ {l:List (String × TypeId × FuncId)},ZpC calls Kp name v es h K l →
    ∃ (t:TypeId) (f:FuncId) (p:ZhT) (x:p.a0.D),(name,t,f)∈l∧v = .iface t (p.a0.ev x).v∧Zf7 f es calls=some p∧p.sem (x,p.t) (fun rr h'=>K (ZaX (Ym.evs p.res rr)) h') Kp h
  | [],hk=>hk.elim
  | (n,t,f)::r,hk=>by
    have tail:ZpC calls Kp name v es h K r→∃ (t':TypeId) (f':FuncId) (p:ZhT) (x:p.a0.D),(name,t',f')∈(n,t,f)::r∧v = .iface t' (p.a0.ev x).v∧Zf7 f' es calls=some p∧p.sem (x,p.t) (fun rr h'=>K (ZaX (Ym.evs p.res rr)) h') Kp h:=fun h9=>by
      obtain ⟨t',f',p,x,h1,h2,h3,h4⟩:=ZiA h9
      exact ⟨t',f',p,x,.tail _ h1,h2,h3,h4⟩
    simp only [ZpC] at hk
    cases hb:n ==name with
    | false=>rw [hb] at hk;exact tail hk
    | true =>
      rw [hb] at hk
      have he:n=name:=by simpa using hb
      subst he
      simp only [cond_true] at hk
      split at hk
      ·rename_i p hp
       rcases hk with ⟨x,hx,hk⟩ | hk
       ·exact ⟨t,f,p,x,.head _,hx,hp,hk⟩
       ·exact tail hk
      ·exact tail hk
theorem ZeL {calls:List (FuncId × Zh)} {Kp:Value→Zc→Prop} {v:Value} {es:List EV} {h:Zc} {K:EV→Zc→Prop}:∀ {l:List (FuncId × List Leaf)},fnP calls Kp v es h K l →
    ∃ (f:FuncId) (cs:List Value) (s:Zh) (t:Ym s.args),v = .func (.func f) #[] ⟨cs⟩∧Zf8 f (Zoi es cs) calls=some ⟨s,t⟩∧s.sem t (fun rr h'=>K (ZaX (Ym.evs s.res rr)) h') Kp h
  | [],hk=>hk.elim
  | (f,[])::r,hk=>by
    simp only [fnP] at hk
    split at hk
    ·rename_i s t hp
     rcases hk with ⟨hv,hk⟩ | hk
     ·exact ⟨f,[],s,t,hv,by simpa [Zoi] using hp,hk⟩
     ·exact ZeL hk
    ·exact ZeL hk
  | (f,l::ls)::r,hk=>by
    simp only [fnP] at hk
    rcases hk with ⟨c,hv,hk⟩ | hk
    ·split at hk
     ·rename_i s t hp
      exact ⟨f,_,s,t,hv,hp,hk⟩
     ·exact hk.elim
    ·exact ZeL hk
theorem Zj5 {f:FuncId}:∀ {l:List FuncId},ZpO f l=true→f∈l
  | [],h=>by simp [ZpO] at h
  | g::r,h=>by
    simp only [ZpO] at h
    cases hb:Nat.beq f g with
    | true=>rw [Nat.eq_of_beq_eq_true hb];exact .head _
    | false=>rw [hb] at h;exact .tail _ (Zj5 h)
theorem Zqt {l:Leaf} {v:Value} {x:l.D} (h:l.un v=some x):l.mk x=v:=by
  cases l<;>cases v<;>simp only [Leaf.un] at h<;>first
    | (split at h
       ·simp only [Option.some.injEq] at h;subst h;rename_i hk;subst hk;rfl
       ·cases h)
    | (simp only [Option.some.injEq] at h;subst h;rfl)
    | cases h
theorem ZlF:∀ {ls:List Leaf} {vs:List Value} {t:Tup ls},Tup.un ls vs=some t→Tup.vals ls t=vs
  | [],[],t,_=>rfl
  | [],_::_,t,h=>by simp [Tup.un] at h
  | _::_,[],t,h=>by simp [Tup.un] at h
  | l::ls,v::vs,t,h=>by
    simp only [Tup.un] at h
    split at h
    ·rename_i x t' h1 h2
     simp only [Option.some.injEq] at h
     subst h
     simp only [Tup.vals,Zqt h1,ZlF h2]
    ·cases h
theorem Zn3 {f:FuncId} {e:EV} {x:Unit} (h:fnU f e=some x):(EV.val (.func (.func f) #[] #[])).v=e.v:=by
  unfold fnU at h
  split at h
  ·rename_i g
   cases hb:Nat.beq f g with
   | false=>rw [hb] at h;cases h
   | true=>rw [Nat.eq_of_beq_eq_true hb]
  ·cases h
theorem ZmS {f:FuncId} {ls:List Leaf} {e:EV} {x:Tup ls} (h:Zsk f ls e=some x):(EV.val (.func (.func f) #[] ⟨Tup.vals ls x⟩)).v=e.v:=by
  unfold Zsk at h
  split at h
  ·rename_i g cs
   cases hb:Nat.beq f g with
   | false=>rw [hb] at h;cases h
   | true =>
     rw [hb] at h
     rw [Nat.eq_of_beq_eq_true hb,ZlF (ls:=ls) (vs:=cs) h]
  ·cases h
theorem Znj {e:EV} {l:Nat} (h:ylU e=some l):(EV.val (.func (.yield l) #[] #[])).v=e.v:=by
  unfold ylU at h
  split at h
  ·simp only [Option.some.injEq] at h;subst h;rfl
  ·cases h
theorem Zr1 {v:VT} {e:EV} {x:v.D} (h:v.un e=some x):(v.ev x).v=e.v:=by
  cases v with
  | one l=>exact Zqt (v:=e.v) h
  | agg ls =>
    cases e with
    | val u =>
      cases u with
      | agg cs =>
        have:=ZlF (ls:=ls) (vs:=cs.toList) h
        show Value.agg (Tup.vals ls x).toArray = .agg cs
        rw [this]
      | _=>simp [VT.un] at h
    | lit b=>simp [VT.un] at h
    | adr b o=>simp [VT.un] at h
    | itr t b=>simp [VT.un] at h
    | more k v=>simp [VT.un] at h
    | over=>simp [VT.un] at h
  | fn f=>exact Zn3 h
  | clo f ls=>exact ZmS h
  | yl=>exact Znj h
theorem ZbL:∀ {vs:List VT} {es:List EV} {t:Ym vs},Ym.un vs es=some t→(Ym.evs vs t).map EV.v=es.map EV.v
  | [],[],t,_=>rfl
  | [],_::_,t,h=>by simp [Ym.un] at h
  | _::_,[],t,h=>by simp [Ym.un] at h
  | v::vs,e::es,t,h=>by
    simp only [Ym.un] at h
    split at h
    ·rename_i x t' h1 h2
     simp only [Option.some.injEq] at h
     subst h
     simp only [Ym.evs,List.map_cons,Zr1 h1,ZbL h2]
    ·cases h
theorem Zme {P:Program} {ρ:Operand→Value} {o:Oper} {w w':World} {n:Next} (hr:(execOp ρ o).run P w = .ok n w') (hn:∀ d,n≠ .defer d):∀ c,o.op≠ .defer c:=by
  intro c hc
  unfold execOp at hr
  rw [hc] at hr
  simp only [Sem.run_bind] at hr
  cases h:(resolve ρ c o.type).run P w with
  | ok d w1 =>
    rw [h] at hr
    simp only [Result.andThen_ok,Sem.run_pure] at hr
    cases hr
    exact hn _ rfl
  | halt x w1 =>
    rw [h] at hr
    cases hr
theorem ZdD {P:Program} {r:Option Nat} {ρ:Operand→Value} {o:Oper} {w w':World} {n:Next} (hr:(execOp ρ o).run P w = .ok n w') (hn:∀ d,n≠ .defer d):(o.semAt r ρ).run P w = .ok n w':=by
  rw [Oper.semAt_eq _ _ _ (Zme hr hn)]
  exact hr
theorem Zot {P:Program} {r:Option Nat} {o:Oper} {a:Act} {w w':World} {v:Value} {next:Act→World→Prop} {Q:Exit→Act→World→Prop}
    (hr:(execOp a.eval o).run P w = .ok (.value v) w') (hn:next (a.put o.dst v) w'):o.wpIn (fen r) 0 P a w next Q:=by
  refine ⟨fun _ _=>trivial,?_⟩
  rw [show (fen r).round=r from rfl,ZdD hr (fun _ h=>by cases h)]
  exact hn
theorem ZjA {P:Program} {r:Option Nat} {o:Oper} {a:Act} {w w':World} {next:Act→World→Prop} {Q:Exit→Act→World→Prop}
    (hr:(execOp a.eval o).run P w = .ok .skip w') (hn:next (a.put o.dst undef) w'):o.wpIn (fen r) 0 P a w next Q:=by
  refine ⟨fun _ _=>trivial,?_⟩
  rw [show (fen r).round=r from rfl,ZdD hr (fun _ h=>by cases h)]
  exact hn
theorem Zg3 {P:Program} {r:Option Nat} {o:Oper} {a:Act} {w:World} {f:FuncId} {args:Array Value} {next:Act→World→Prop} {Q:Exit→Act→World→Prop}
    (hr:(execOp a.eval o).run P w = .ok (.enter f args) w) (hc:Calls P f args w fun
      | .returned v,w''=>next (a.put o.dst v) w''
      | .panicked chain,w''=>Q (.panic chain) a w''
      | .outgrown,_=>LetsOut Q):o.wpIn (fen r) 0 P a w next Q:=by
  refine ⟨fun _ _=>trivial,?_⟩
  rw [show (fen r).round=r from rfl,ZdD hr (fun _ h=>by cases h)]
  exact ⟨fun h=>(by cases h),Zb6.2 hc⟩
theorem Znk {P:Program} {r:Option Nat} {o:Oper} {a:Act} {w:World} {l:Nat} {f:FuncId} {tmps:Array Value} {assign body:Code} {next:Act→World→Prop} {Q:Exit→Act→World→Prop}
    (hr:(execOp a.eval o).run P w = .ok (.round l f tmps assign body) w) {k:Bool→World→Prop} (hc:RoundIn (fen none) 0 P l f tmps assign body w fun e w'=>∃ b,e = .returned (.bool b)∧k b w')
    (hn:∀ b w',k b w'→next (a.put o.dst (.bool b)) w'):o.wpIn (fen r) 0 P a w next Q:=by
  refine ⟨fun _ _=>trivial,?_⟩
  rw [show (fen r).round=r from rfl,ZdD hr (fun _ h=>by cases h)]
  refine ⟨fun h=>(by cases h),?_⟩
  have hc':RoundIn (fen r) (0 - 1) P l f tmps assign body w fun e w'=>∃ b,e = .returned (.bool b)∧k b w':=hc
  refine hc'.mono ?_
  rintro e w' ⟨b,rfl,hb⟩
  exact hn _ _ hb
theorem Znl {P:Program} {r:Option Nat} {o:Oper} {a:Act} {w:World} {v:Value} {next:Act→World→Prop} {Q:Exit→Act→World→Prop}
    (hd:∀ c,o.op≠ .defer c) (hr:(execOp a.eval o).run P w = .halt (.panic v) w) (hq:Q (.panic [{ v,recovered:=false }]) a w):o.wpIn (fen r) 0 P a w next Q:=by
  refine ⟨fun _ _=>trivial,?_⟩
  rw [show (fen r).round=r from rfl,Oper.semAt_eq _ _ _ hd,hr]
  exact hq
theorem ZlT {P:Program} {w w':World} {s:Sem Value} {v:Value} (h:s.run P w = .ok v w') :
    (do pure (.value (← s)):Sem Next).run P w = .ok (.value v) w':=by
  simp [h]
theorem ZqB {P:Program} {w w':World} {s:Sem Unit} (h:s.run P w = .ok () w') :
    (do s;pure .skip:Sem Next).run P w = .ok .skip w':=by
  simp [h]
theorem Zok {P:Program} {op:BinOp} {t:TypeId} {x y:EV} {K:EV→Prop} (hk:ZoS op x y K):∃ v,(∀ w,(binOp op t x.v y.v).run P w = .ok v.v w)∧K v:=by
  unfold ZoS at hk
  split at hk
  ·rename_i k a k' b
   cases op<;>simp only at hk
   case shl =>
     obtain ⟨h0,hk⟩:=hk
     refine ⟨_,fun w=>?_,hk⟩
     simp only [EV.v,binOp,Op.shift,if_neg (Int.not_lt.2 h0)]
     rfl
   case shr =>
     obtain ⟨h0,hk⟩:=hk
     refine ⟨_,fun w=>?_,hk⟩
     simp only [EV.v,binOp,Op.shift,if_neg (Int.not_lt.2 h0)]
     rfl
   all_goals
     rcases Decidable.em (k=k') with he | he
     case inr=>rw [if_neg he] at hk;exact hk.elim
     subst he
     rw [if_pos rfl] at hk
     first
     | exact hk.elim
     | (obtain ⟨h0,hk⟩:=(show ZbA _ _ from hk)
        refine ⟨_,fun w=>?_,hk⟩
        simp only [EV.v,binOp,ne_eq,not_true,if_false,Op.intDiv,if_neg h0]
        rfl)
     | (refine ⟨_,fun w=>?_,hk⟩;simp only [EV.v,binOp,ne_eq,not_true,if_false];rfl)
  ·rename_i a b
   cases op<;>simp only at hk
   case add =>
     obtain ⟨h0,hk⟩:=hk
     refine ⟨_,fun w=>?_,hk⟩
     have:¬ (((a.size+b.size:Nat):Int)>IntKind.i64.max):=by
       have:IntKind.i64.max=9223372036854775807:=by decide
       rw [this];omega
     simp only [EV.v,binOp,Op.stringOp,if_neg this]
     rfl
   all_goals first
     | exact hk.elim
     | (refine ⟨_,fun w=>?_,hk⟩;rfl)
  ·exact hk.elim
section
variable {P:Program} {t:TypeId} (w:World)
theorem ZdQ {e:TypeId} (hu:P.underlying t=some (.pointer e)) (p:Option Addr):(Op.equal t (.pointer p) (.pointer none)).run P w = .ok p.isNone w:=by
  unfold Op.equal Op.maxDepth
  rw [show (10000:Nat)=9999+1 from rfl]
  unfold Op.equalIn
  simp only [Sem.run_bind,Zb P w t hu,Result.andThen_ok]
  cases p<;>rfl
theorem ZfD {e:TypeId} (hu:P.underlying t=some (.slice e)) (p:Option Addr) (n m n' m':Nat):(Op.equal t (.slice p n m) (.slice none n' m')).run P w = .ok p.isNone w:=by
  unfold Op.equal Op.maxDepth
  rw [show (10000:Nat)=9999+1 from rfl]
  unfold Op.equalIn
  simp only [Sem.run_bind,Zb P w t hu,Result.andThen_ok]
  cases p<;>rfl
theorem ZhM {k e:TypeId} (hu:P.underlying t=some (.map k e)) (p:Option Nat):(Op.equal t (.map p) (.map none)).run P w = .ok p.isNone w:=by
  unfold Op.equal Op.maxDepth
  rw [show (10000:Nat)=9999+1 from rfl]
  unfold Op.equalIn
  simp only [Sem.run_bind,Zb P w t hu,Result.andThen_ok]
  cases p<;>rfl
theorem ZhL {ms:Array (String × TypeId)} (hu:P.underlying t=some (.interface ms)):(Op.equal t .nilIface .nilIface).run P w = .ok true w:=by
  unfold Op.equal Op.maxDepth
  rw [show (10000:Nat)=9999+1 from rfl]
  unfold Op.equalIn
  simp only [Sem.run_bind,Zb P w t hu,Result.andThen_ok]
  rfl
theorem ZfE {ms:Array (String × TypeId)} (hu:P.underlying t=some (.interface ms)) (t2:TypeId) (u:Value):(Op.equal t (.iface t2 u) .nilIface).run P w = .ok false w:=by
  unfold Op.equal Op.maxDepth
  rw [show (10000:Nat)=9999+1 from rfl]
  unfold Op.equalIn
  simp only [Sem.run_bind,Zb P w t hu,Result.andThen_ok]
  rfl
theorem Zgb {ps rs:Array TypeId} {vr:Bool} (hu:P.underlying t=some (.func ps rs vr)):(Op.equal t .nilFunc .nilFunc).run P w = .ok true w:=by
  unfold Op.equal Op.maxDepth
  rw [show (10000:Nat)=9999+1 from rfl]
  unfold Op.equalIn
  simp only [Sem.run_bind,Zb P w t hu,Result.andThen_ok]
  rfl
theorem Zgc {ps rs:Array TypeId} {vr:Bool} (hu:P.underlying t=some (.func ps rs vr)) (f:Fn) (a b:Array Value):(Op.equal t (.func f a b) .nilFunc).run P w = .ok false w:=by
  unfold Op.equal Op.maxDepth
  rw [show (10000:Nat)=9999+1 from rfl]
  unfold Op.equalIn
  simp only [Sem.run_bind,Zb P w t hu,Result.andThen_ok]
  rfl
theorem Zla (hu:P.underlying t=some .bool) (a b:Bool):(Op.equal t (.bool a) (.bool b)).run P w = .ok (a ==b) w:=by
  unfold Op.equal Op.maxDepth
  rw [show (10000:Nat)=9999+1 from rfl]
  unfold Op.equalIn
  simp only [Sem.run_bind,Zb P w t hu,Result.andThen_ok]
  rfl
end
theorem ZpA {P:Program} {t:TypeId} {neg:Bool} {x y:EV} {K:EV→Prop} (hk:eqP (P.underlying t) neg x y K) :
    ∃ v,(∀ w,(binOp (bif neg then .neq else .eql) t x.v y.v).run P w = .ok v.v w)∧K v:=by
  unfold eqP at hk
  split at hk
  ·rename_i e b o hu
   refine ⟨_,fun w=>?_,hk⟩
   have:=ZdQ w hu (some ⟨b,o,none⟩)
   cases neg<;>simp only [cond_true,cond_false,EV.v,binOp,Sem.run_bind,this,Result.andThen_ok]<;>rfl
  ·rename_i e p hu
   refine ⟨_,fun w=>?_,hk⟩
   have:=ZdQ w hu p
   cases neg<;>simp only [cond_true,cond_false,EV.v,binOp,Sem.run_bind,this,Result.andThen_ok]<;>cases p<;>rfl
  ·rename_i e p n m n' m' hu
   refine ⟨_,fun w=>?_,hk⟩
   have:=ZfD w hu p n m n' m'
   cases neg<;>simp only [cond_true,cond_false,EV.v,binOp,Sem.run_bind,this,Result.andThen_ok]<;>cases p<;>rfl
  ·rename_i k e p hu
   refine ⟨_,fun w=>?_,hk⟩
   have:=ZhM w hu p
   cases neg<;>simp only [cond_true,cond_false,EV.v,binOp,Sem.run_bind,this,Result.andThen_ok]<;>cases p<;>rfl
  ·rename_i hu
   split at hk
   ·rename_i a b hx hy
    refine ⟨_,fun w=>?_,hk⟩
    have:=Zla w hu a b
    rw [hx,hy]
    cases neg<;>simp only [cond_true,cond_false,EV.v,binOp,Sem.run_bind,this,Result.andThen_ok]<;>rfl
   ·exact hk.elim
  ·exact hk.elim
theorem Ziy (off:Nat):∀ (l:List Value) (k:Nat) (cs:Array Value),off+k+l.length≤cs.size →
    ((l.zipIdx k).foldl (fun cs x=>cs.setIfInBounds (off+x.2) x.1) cs).toList=cs.toList.take (off+k)++l++cs.toList.drop (off+k+l.length)
  | [],k,cs,h=>by simp
  | v::l,k,cs,h=>by
    simp only [List.zipIdx_cons,List.foldl_cons,List.length_cons] at h ⊢
    rw [Ziy off l (k+1) _ (by simp;omega)]
    have hlt:off+k<cs.toList.length:=by simp;omega
    simp only [Array.toList_setIfInBounds]
    rw [show off+(k+1)=off+k+1 from by omega,List.take_succ_eq_append_getElem (by simp;omega),List.take_set_of_le (by omega),List.drop_set_of_lt (by omega)]
    simp
    omega
def ZpK (place:Nat→Option (Nat × Nat)) (n:Nat):List (Nat × Value)→List (Nat × List Value)→Prop
  | [],[]=>True
  | p::ps,q::l=>place p.1=some (q.1,q.2.length)∧p.2.cells.toList=q.2∧q.1+q.2.length≤n∧ZpK place n ps l
  | _,_=>False
theorem Zbl (place:Nat→Option (Nat × Nat)) (n:Nat):∀ (ps:List (Nat × Value)) (l:List (Nat × List Value)) (cs:Array Value),
    cs.size=n→ZpK place n ps l→Instr.fill place cs ps=some (Za2 cs.toList l).toArray
  | [],[],cs,_,_=>by simp [Instr.fill,Za2]
  | [],_::_,cs,_,h=>h.elim
  | _::_,[],cs,_,h=>h.elim
  | (i,v)::ps,(o,vs)::l,cs,hn,h=>by
    obtain ⟨hp,hv,hle,h2⟩:=h
    simp only at hp hv hle
    have hlen:v.cells.size=vs.length:=by rw [← hv];simp
    have hfold:(v.cells.zipIdx.foldl (fun cs x=>match x with | (c,j)=>cs.setIfInBounds (o+j) c) cs).toList=cs.toList.take o++vs++cs.toList.drop (o+vs.length):=by
      rw [← Array.foldl_toList,Array.toList_zipIdx,hv]
      have:=Ziy o vs 0 cs (by omega)
      simpa using this
    have hsz:(v.cells.zipIdx.foldl (fun cs x=>match x with | (c,j)=>cs.setIfInBounds (o+j) c) cs).size=n:=by
      rw [← Array.length_toList,hfold]
      simp
      omega
    have ih:=Zbl place n ps l _ hsz h2
    rw [hfold] at ih
    have hno:¬ (o+vs.length>cs.size):=by omega
    simp only [Instr.fill,hp,hlen,ne_eq,not_true,decide_false,Bool.false_or,hno,Za2]
    exact ih
theorem ZfL (v:EV):v.v.cells.toList=ZdT v:=by
  cases v with
  | val v=>cases v<;>rfl
  | lit b=>rfl
  | adr b o=>rfl
  | itr t b=>rfl
  | more k v=>rfl
  | over=>rfl
theorem ZhQ (v:EV):v.v.cells=(ZdT v).toArray:=by
  rw [← ZfL]
section
variable {c:Cfg} {e:Env} {a:Act} {n:Nat}
theorem Zl8 {u:Value} (h:ZV u=true):u.cells.toList=[u]:=by
  cases u<;>first | rfl | cases h
theorem ZmT {d:Option TypeDesc} {v:EV} (h:Zms d=true→ZV v.v=true):v.v.cells.toList=ZfM d v:=by
  unfold ZfM
  cases hb:Zms d with
  | true=>exact Zl8 (h hb)
  | false=>exact ZfL v
theorem ZgF:∀ {l:List Value} {K:Prop},Zpf l K→(∀ u,u∈l→ZV u=true)∧K
  | [],_,h=>⟨fun _ h9=>(by cases h9),h⟩
  | v::vs,K,h=>by
    obtain ⟨h1,h2⟩:=ZgF h.2
    refine ⟨fun u hu=>?_,h2⟩
    rcases List.mem_cons.1 hu with rfl | hu
    ·exact h.1
    ·exact h1 u hu
theorem Zeo (P:Program) (fs:List Field) (hag:Agr n e a) (k:Nat):∀ {ps:List (Nat × Operand)} {l:List (Nat × List Value)},Zfh P fs e k ps=some l→(∀ u,u∈ZhZ P fs e ps→ZV u=true) →
    ZpK (fun i=>(fs[i]?).map fun f=>(f.offset,P.cellsOf f.type)) k (ps.map fun x=>(x.1,a.eval x.2)) l
  | [],l,h,_=>by simp only [Zfh,Option.some.injEq] at h;subst h;exact trivial
  | (i,x)::r,l,h,hone=>by
    simp only [Zfh] at h
    split at h
    ·rename_i f v l' hf hv hl
     have hone1:Zms (P.underlying f.type)=true→ZV v.v=true:=fun hb=>hone _ (by unfold ZhZ;rw [hf,hv];simp [hb])
     have hone2:∀ u,u∈ZhZ P fs e r→ZV u=true:=fun u hu=>hone u (by
       unfold ZhZ
       rw [hf,hv]
       dsimp only
       cases Zms (P.underlying f.type) with
       | true=>exact List.mem_cons_of_mem _ hu
       | false=>exact hu)
     cases h1:Nat.beq (ZfM (P.underlying f.type) v).length (P.cellsOf f.type) with
     | false=>rw [h1] at h;cases h
     | true =>
       rw [h1] at h
       simp only [cond_true] at h
       cases h2:Nat.ble (f.offset+(ZfM (P.underlying f.type) v).length) k with
       | false=>rw [h2] at h;cases h
       | true =>
         rw [h2] at h
         simp only [cond_true,Option.some.injEq] at h
         subst h
         refine ⟨?_,?_,Nat.le_of_ble_eq_true h2,Zeo P fs hag k hl hone2⟩
         ·simp [hf,Nat.eq_of_beq_eq_true h1]
         ·simp only [hag.ev hv,ZmT hone1]
    ·cases h
theorem Zct (size:Nat) (hag:Agr n e a) (k:Nat):∀ {ps:List (Nat × Operand)} {l:List (Nat × List Value)},Zea size e k ps=some l →
    ZpK (fun i=>some (i*size,size)) k (ps.map fun x=>(x.1,a.eval x.2)) l
  | [],l,h=>by simp only [Zea,Option.some.injEq] at h;subst h;exact trivial
  | (i,x)::r,l,h=>by
    simp only [Zea] at h
    split at h
    ·rename_i v l' hv hl
     cases h1:Nat.beq (ZdT v).length size with
     | false=>rw [h1] at h;cases h
     | true =>
       rw [h1] at h
       simp only [cond_true] at h
       cases h2:Nat.ble (i*size+(ZdT v).length) k with
       | false=>rw [h2] at h;cases h
       | true =>
         rw [h2] at h
         simp only [cond_true,Option.some.injEq] at h
         subst h
         refine ⟨?_,?_,Nat.le_of_ble_eq_true h2,Zct size hag k hl⟩
         ·simp [Nat.eq_of_beq_eq_true h1]
         ·simp only [hag.ev hv,ZfL]
    ·cases h
theorem Zc3 {x:EV} {K:Nat→Nat→Prop} (h:atP x K):∃ b o,x.v = .pointer (some ⟨b,o,none⟩)∧K b o:=by
  unfold atP at h
  split at h
  ·exact ⟨_,_,rfl,h⟩
  ·obtain ⟨b,o,rfl,h⟩:=h;exact ⟨b,o,rfl,h⟩
  ·exact h.elim
theorem XV {P:Program} {t:TypeId} {zs:List Value} (h:Zes P t=some zs):∃ i v,P.info? t=some i∧i.zero=some v∧v.cells.toList=zs:=by
  unfold Zes at h
  split at h
  ·rename_i i hi
   split at h
   ·rename_i v hv
    simp only [Option.some.injEq] at h
    exact ⟨i,v,hi,hv,h⟩
   ·cases h
  ·cases h
theorem ZaS {P:Program} {t:TypeId} {s b:Nat} (h:ZiU P t=some (s,b)):∃ i,P.info? t=some i∧i.size=s∧i.bytes=b:=by
  unfold ZiU at h
  split at h
  ·rename_i i hi
   simp only [Option.some.injEq,Prod.mk.injEq] at h
   exact ⟨i,hi,h.1,h.2⟩
  ·cases h
theorem Znw {P:Program} {t:TypeId} {b o:Nat} {v:EV} {K:Zc→Prop} {w:World} (h:stT P t w.heap b o v K) :
    ∃ h',(storeVar t ⟨b,o,none⟩ v.v).run P w = .ok () { w with heap:=h' }∧K h':=by
  have key:∀ (i:TypeInfo) (vs:List Value),P.info? t=some i→i.size=vs.length→v.v.cells=vs.toArray→Zc.free w.heap b o vs.length→vs.all ZV=true →
      (storeVar t ⟨b,o,none⟩ v.v).run P w = .ok () { w with heap:=Zc.puts w.heap b o vs }:=by
    intro i vs hi hs hc hf ha
    unfold storeVar
    simp only [Sem.run_bind,Ye P w t hi,Result.andThen_ok,hc,hs,List.size_toArray,ne_eq,not_true,if_false]
    have:=Zaq P b o vs 0 w (by simpa using hf) ha
    simpa using this
  have one:Xd (P.underlying t)=false→Nat.beq (P.cellsOf t) 1=true→(∀ cs,v.v≠ .agg cs)→st w.heap b o v.v K →
      ∃ h',(storeVar t ⟨b,o,none⟩ v.v).run P w = .ok () { w with heap:=h' }∧K h':=by
    intro hA h1 hne hst
    obtain ⟨⟨u,hu⟩,hf,hone,hk⟩:=hst
    have hsz:=Nat.eq_of_beq_eq_true h1
    cases hi:P.info? t with
    | none=>unfold Program.cellsOf at hsz;simp [hi] at hsz
    | some i =>
      rw [Xe P hi] at hsz
      refine ⟨_,key i [v.v] hi (by simp [hsz]) ?_ ⟨⟨⟨u,hu⟩,hf⟩,trivial⟩ (by simp [hone]),hk⟩
      cases hv:v.v<;>first | rfl | exact absurd hv (hne _)
  unfold stT at h
  split at h
  ·rename_i cs
   cases hA:Xd (P.underlying t) with
   | false=>rw [hA] at h;exact h.elim
   | true =>
     rw [hA] at h
     simp only [cond_true] at h
     cases h1:Nat.beq cs.toList.length (P.cellsOf t) with
     | false=>rw [h1] at h;exact h.elim
     | true =>
       rw [h1] at h
       obtain ⟨hf,ha,hk⟩:=h
       have hsz:=Nat.eq_of_beq_eq_true h1
       cases hi:P.info? t with
       | none =>
         unfold Program.underlying at hA
         simp [hi,Xd] at hA
       | some i =>
         rw [Xe P hi] at hsz
         exact ⟨_,key i cs.toList hi hsz.symm rfl hf ha,hk⟩
  ·rename_i v' hne
   cases hA:Xd (P.underlying t) with
   | true=>rw [hA] at h;exact h.elim
   | false =>
     rw [hA] at h
     simp only [cond_false] at h
     cases h1:Nat.beq (P.cellsOf t) 1 with
     | false=>rw [h1] at h;exact h.elim
     | true =>
       rw [h1] at h
       refine one hA h1 (fun cs hcs=>?_) h
       cases v with
       | val u=>simp only [EV.v] at hcs;subst hcs;exact hne cs rfl
       | lit b=>cases hcs
       | adr b o=>cases hcs
       | itr t b=>cases hcs
       | more k v=>cases hcs
       | over=>cases hcs
theorem ZbH (zs:List Value) (n:Nat):(YW zs n).length=n*zs.length:=by
  simp [YW]
theorem ZfB (zs:List Value):∀ (n i:Nat),i<n*zs.length→(YW zs n)[i]?=zs[i % zs.length]?
  | 0,i,h=>by omega
  | n+1,i,h=>by
    unfold YW
    rw [List.replicate_succ,List.flatten_cons]
    rcases Nat.lt_or_ge i zs.length with hi | hi
    ·rw [List.getElem?_append_left hi,Nat.mod_eq_of_lt hi]
    ·rw [List.getElem?_append_right hi]
     have:=ZfB zs n (i - zs.length) (by rw [Nat.succ_mul] at h;omega)
     unfold YW at this
     rw [this,Nat.mod_eq_sub_mod hi]
theorem Zde (zs:Array Value) (n m:Nat) (h:m=n*zs.size):((Array.range m).map (zs[· % zs.size]!)).toList=YW zs.toList n:=by
  subst h
  apply List.ext_getElem?
  intro i
  simp only [Array.toList_map,Array.toList_range,List.getElem?_map]
  rcases Nat.lt_or_ge i (n*zs.size) with hi | hi
  ·rw [ZfB _ _ _ (by simpa using hi)]
   have hpos:0<zs.size:=by rcases Nat.eq_zero_or_pos zs.size with h0 | h0;· rw [h0] at hi;omega
                           ·exact h0
   have hm:i % zs.size<zs.size:=Nat.mod_lt _ hpos
   simp [hi,hm]
  ·rw [List.getElem?_eq_none (by simpa using hi)]
   rw [List.getElem?_eq_none (by rw [ZbH];simpa using hi)]
   rfl
end
theorem XW (P:Program) (w:World) (t:TypeId) (cs:Array Value):(newRow t cs).run P w = .ok ⟨w.heap.size,0,none⟩ { w with heap:=w.heap.push (.cells cs t)}:=by
  unfold newRow
  simp
theorem ZlU (P:Program) (w:World) (t:TypeId) (v:Value) {i:TypeInfo} (hi:P.info? t=some i) (hv:i.zero=some v) :
    (Instr.alloc t true (.tuple #[])).run P w = .ok (.pointer (some ⟨w.heap.size,0,none⟩)) { w with heap:=w.heap.push (.cells v.cells t)}:=by
  unfold Instr.alloc newVar
  simp [Yw P w t hi hv,XW]
theorem Zpa (P:Program) (w:World) (t:TypeId) (v:Value) :
    (Instr.box t v).run P w = .ok (.pointer (some ⟨w.heap.size,0,none⟩)) { w with heap:=w.heap.push (.cells v.cells t)}:=by
  unfold Instr.box newVar
  simp [XW]
theorem Zfp (P:Program) (w:World):∀ (l:List Field),(∀ f∈l,∃ i,P.info? f.type=some i) →
    (l.mapM fun f=>(do pure (f.offset,← sizeOf f.type):Sem (Nat × Nat))).run P w = .ok (l.map fun f=>(f.offset,P.cellsOf f.type)) w
  | [],_=>by simp
  | f::l,h=>by
    obtain ⟨i,hi⟩:=h f (by simp)
    have ih:=Zfp P w l (fun g hg=>h g (by simp [hg]))
    rw [List.mapM_cons]
    simp only [Sem.run_bind,Ye P w f.type hi,Result.andThen_ok,Sem.run_pure,ih,List.map_cons,Xe P hi]
theorem Zew (P:Program) (w:World) (t:TypeId) {fs:Array Field} {zs:List Value} {ps:List (Nat × Value)} {l:List (Nat × List Value)}
    (hu:P.underlying t=some (.struct fs)) (hz:Zes P t=some zs) (hall:(fs.toList.all fun f=>(P.info? f.type).isSome)=true)
    (hf:ZpK (fun i=>(fs.toList[i]?).map fun f=>(f.offset,P.cellsOf f.type)) zs.length ps l) :
    (Instr.build t ps.toArray).run P w = .ok (.agg (Za2 zs l).toArray) w:=by
  obtain ⟨i,v,hi,hv,rfl⟩:=XV hz
  unfold Instr.build
  simp only [Sem.run_bind,Yw P w t hi hv,Result.andThen_ok,Zb P w t hu]
  rw [Array.mapM_eq_mapM_toList]
  simp only [Sem.run_map,Zfp P w fs.toList (fun f hf=>by
    have:=List.all_eq_true.1 hall f hf
    exact Option.isSome_iff_exists.1 this),Result.andThen_ok]
  have:=Zbl (fun (x:Nat)=>((fs.toList.map fun (f:Field)=>(f.offset,P.cellsOf f.type)).toArray)[x]?) v.cells.toList.length ps l v.cells (by simp) (by
    have e:(fun (x:Nat)=>((fs.toList.map fun (f:Field)=>(f.offset,P.cellsOf f.type)).toArray)[x]?)=(fun (i:Nat)=>(fs.toList[i]?).map fun (f:Field)=>(f.offset,P.cellsOf f.type)):=by
      funext x
      simp
    rw [e];exact hf)
  simp only [this]
  rfl
theorem Zfd (P:Program) (w:World) (t:TypeId) {n:Nat} {el:TypeId} {zs:List Value} {ps:List (Nat × Value)} {l:List (Nat × List Value)} {j:TypeInfo}
    (hu:P.underlying t=some (.array n el)) (hz:Zes P t=some zs) (hj:P.info? el=some j)
    (hf:ZpK (fun i=>some (i*P.cellsOf el,P.cellsOf el)) zs.length ps l) :
    (Instr.build t ps.toArray).run P w = .ok (.agg (Za2 zs l).toArray) w:=by
  obtain ⟨i,v,hi,hv,rfl⟩:=XV hz
  unfold Instr.build
  simp only [Sem.run_bind,Yw P w t hi hv,Result.andThen_ok,Zb P w t hu,Ye P w el hj]
  have:=Zbl (fun i=>some (i*j.size,j.size)) v.cells.toList.length ps l v.cells (by simp) (by rw [Xe P hj] at hf;exact hf)
  simp only [this]
  rfl
theorem Zf5 (P:Program) (w:World) (t:TypeId) {n:Nat} {el:TypeId} {zs:List Value} {ps:List (Nat × Value)} {l:List (Nat × List Value)}
    (hu:P.underlying t=some (.slice el)) (hz:Zes P el=some zs) (hs:zs.length=P.cellsOf el) (hle:n*P.cellsOf el≤ZdU)
    (hf:ZpK (fun i=>some (i*P.cellsOf el,P.cellsOf el)) (n*P.cellsOf el) ps l) :
    (Instr.buildSlice t n ps.toArray).run P w = .ok (.slice (some ⟨w.heap.size,0,none⟩) n n) { w with heap:=w.heap.push (.cells (Za2 (YW zs n) l).toArray el)}:=by
  obtain ⟨i,v,hi,hv,rfl⟩:=XV hz
  have hsz:=Xe P hi
  unfold Instr.buildSlice
  simp only [Sem.run_bind,Zb P w t hu,Result.andThen_ok,Ye P w el hi]
  rw [hsz] at hs hle hf
  have h24:¬ (n*i.size>2 ^ 24):=by
    have:(2:Nat) ^ 24=ZdU:=by unfold ZdU;decide
    omega
  have hlen:v.cells.size=i.size:=by simpa using hs
  have fin:∀ z:Array Value,((Array.range (n*i.size)).map (fun x=>z[x % z.size]!)).toList=YW v.cells.toList n →
      Instr.fill (fun j=>some (j*i.size,i.size)) ((Array.range (n*i.size)).map (fun x=>z[x % z.size]!)) ps=some (Za2 (YW v.cells.toList n) l).toArray:=by
    intro z hz'
    have:=Zbl (fun j=>some (j*i.size,i.size)) (n*i.size) ps l ((Array.range (n*i.size)).map (fun x=>z[x % z.size]!)) (by simp) hf
    rw [hz'] at this
    exact this
  simp only [if_neg h24]
  by_cases h:n*i.size=0
  ·rw [if_pos h]
   have hz0:YW v.cells.toList n=[]:=List.eq_nil_of_length_eq_zero (by rw [ZbH];simpa [hlen] using h)
   simp only [Sem.run_bind,Sem.run_pure,Result.andThen_ok]
   rw [fin #[] (by rw [hz0];simp [h])]
   simp only [Sem.run_bind,XW,Result.andThen_ok,Sem.run_pure]
  ·rw [if_neg h]
   simp only [Sem.run_bind,Yw P w el hi hv,Sem.run_pure,Result.andThen_ok]
   rw [fin v.cells (Zde v.cells n _ (by rw [hlen]))]
   simp only [Sem.run_bind,XW,Result.andThen_ok,Sem.run_pure]
theorem Zgu {P:Program} {w:World} {t:TypeId} {b o:Nat} {v:Value} (h:(loadVar t ⟨b,o,none⟩).run P w = .ok v w) :
    (Instr.loadAt t (.pointer (some ⟨b,o,none⟩))).run P w = .ok v w:=by
  unfold Instr.loadAt Instr.sureAddr
  simp [h]
theorem ZiW {P:Program} {w w':World} {t:TypeId} {b o:Nat} {v:Value} (h:(storeVar t ⟨b,o,none⟩ v).run P w = .ok () w') :
    (Instr.storeAt t (.pointer (some ⟨b,o,none⟩)) v).run P w = .ok () w':=by
  unfold Instr.storeAt Instr.sureAddr
  simp [h]
theorem ZiZ {P:Program} {w:World} {s:TypeId} {b o f:Nat} {fs:Array Field} {fd:Field} (hu:P.underlying s=some (.struct fs)) (hf:fs.toList[f]?=some fd)
    (hn:P.cellsOf fd.type≠0):(Instr.fieldAt s (.pointer (some ⟨b,o,none⟩)) f).run P w = .ok (.pointer (some ⟨b,o+fd.offset,none⟩)) w:=by
  unfold Instr.fieldAt Instr.sureAddr fieldPlace
  cases hi:P.info? fd.type with
  | none=>unfold Program.cellsOf at hn;simp [hi] at hn
  | some i =>
    have hf':fs[f]?=some fd:=by simpa using hf
    have h0:i.size≠0:=by rw [← Xe P hi];exact hn
    simp only [Sem.run_bind,Zb P w s hu,Result.andThen_ok,hf',Sem.run_pure,Ye P w _ hi,if_neg h0,ZfR]
theorem Zd6 {P:Program} {w:World} {t el:TypeId} {b o l m size:Nat} {k:IntKind} {i:Int} {inf:TypeInfo} (hu:P.underlying t=some (.slice el)) (hi:P.info? el=some inf) (hs:inf.size=size)
    (h0:0≤i) (h1:i<l):(Instr.indexAt t (.slice (some ⟨b,o,none⟩) l m) (.int k i)).run P w = .ok (.pointer (some ⟨b,o+i.toNat*size,none⟩)) w:=by
  unfold Instr.indexAt asIntOf
  simp only [Sem.run_bind,Sem.run_pure,Result.andThen_ok,Zb P w t hu]
  simp [h0,h1,Ye P w el hi,hs,ZfR]
theorem Zd7 {P:Program} {w:World} {t el:TypeId} {b o n size:Nat} {k:IntKind} {i:Int} {inf:TypeInfo} (hu:P.underlying t=some (.array n el)) (hi:P.info? el=some inf) (hs:inf.size=size)
    (h0:0≤i) (h1:i<n):(Instr.indexAt t (.pointer (some ⟨b,o,none⟩)) (.int k i)).run P w = .ok (.pointer (some ⟨b,o+i.toNat*size,none⟩)) w:=by
  unfold Instr.indexAt asIntOf Instr.sureAddr
  simp only [Sem.run_bind,Sem.run_pure,Result.andThen_ok,Zb P w t hu]
  simp [h0,h1,Ye P w el hi,hs,ZfR]
theorem Zeu {P:Program} {w:World} {t:TypeId} {s:ByteArray} {k:IntKind} {i:Int} {x:UInt8} (hu:P.underlying t=some .string) (h0:0≤i) (hx:s[i.toNat]?=some x) :
    (Instr.index t (.string s) (.int k i)).run P w = .ok (.int .u8 x.toNat) w:=by
  unfold Instr.index asIntOf
  simp only [Sem.run_bind,Sem.run_pure,Result.andThen_ok,Zb P w t hu,if_pos h0,hx]
theorem Zhk {P:Program} {w:World} {s:TypeId} {cs:Array Value} {f:Nat} {fs:Array Field} {fd:Field} {v:Value} {d:TypeDesc} (hu:P.underlying s=some (.struct fs)) (hf:fs.toList[f]?=some fd)
    (hd:P.underlying fd.type=some d) (ha:Xd (some d)=false) (hv:cs.toList[fd.offset]?=some v):(Instr.field s (.agg cs) f).run P w = .ok v w:=by
  unfold Instr.field part asAgg
  have hf':fs[f]?=some fd:=by simpa using hf
  have hv':cs[fd.offset]?=some v:=by simpa using hv
  simp [Zb P w s hu,hf',Zax P w _ hd,ha,hv']
theorem Zhl {P:Program} {w:World} {s:TypeId} {cs:Array Value} {f:Nat} {fs:Array Field} {fd:Field} {d:TypeDesc} {inf:TypeInfo} (hu:P.underlying s=some (.struct fs)) (hf:fs.toList[f]?=some fd)
    (hd:P.underlying fd.type=some d) (ha:Xd (some d)=true) (hi:P.info? fd.type=some inf) :
    (Instr.field s (.agg cs) f).run P w = .ok (.agg ((cs.toList.drop fd.offset).take inf.size).toArray) w:=by
  unfold Instr.field part asAgg
  have hf':fs[f]?=some fd:=by simpa using hf
  simp only [Sem.run_bind,Zb P w s hu,Result.andThen_ok,hf',Sem.run_pure,Zax P w _ hd,ha,if_true,Ye P w _ hi]
  congr 2
  apply Array.ext'
  simp [List.extract_eq_take_drop]
theorem Zb7 {P:Program} {w:World} {k:IntKind} {i:Int} {y:Nat} {code:BoundsCode} (h0:0≤i) (h1:i≤y):(Instr.sliceBound (.int k i) y code).run P w = .ok i.toNat w:=by
  unfold Instr.sliceBound asIntOf
  simp [h0,h1]
theorem Zl4 {d n:Int} {x:Option (Option EV)} (h:ZoB d x=some n):(x=none∧n=d)∨∃ k,x=some (some (.val (.int k n))):=by
  unfold ZoB at h
  split at h
  ·simp only [Option.some.injEq] at h;exact .inl ⟨rfl,h.symm⟩
  ·simp only [Option.some.injEq] at h;subst h;exact .inr ⟨_,rfl⟩
  ·cases h
theorem ZgW {P:Program} {w:World} {isSlice:Bool} {len cap:Nat} {lo hi mx:Option Value} {l h m:Int}
    (hlo:(lo=none∧l=0)∨∃ k,lo=some (.int k l)) (hhi:(hi=none∧h=len)∨∃ k,hi=some (.int k h)) (hmx:(mx=none∧m=cap)∨∃ k,mx=some (.int k m))
    (hno:hi=none→mx=none) (h0:0≤l) (h1:l≤h) (h2:h≤m) (h3:m≤cap) :
    (Instr.sliceBounds isSlice len cap lo hi mx).run P w = .ok (l.toNat,h.toNat,m.toNat) w:=by
  unfold Instr.sliceBounds
  have e1:(m.toNat:Int)=m:=Int.toNat_of_nonneg (by omega)
  have e2:(h.toNat:Int)=h:=Int.toNat_of_nonneg (by omega)
  rcases hmx with ⟨rfl,rfl⟩ | ⟨km,rfl⟩
  ·rcases hhi with ⟨rfl,rfl⟩ | ⟨kh,rfl⟩
   ·rcases hlo with ⟨rfl,rfl⟩ | ⟨kl,rfl⟩
    ·simp
    ·simp [Zb7 h0 h1]
   ·rcases hlo with ⟨rfl,rfl⟩ | ⟨kl,rfl⟩
    ·simp only [Sem.run_bind,Sem.run_pure,Result.andThen_ok,Zb7 (k:=kh) (y:=cap) (by omega:0≤h) (by omega)]
     simp
    ·simp only [Sem.run_bind,Sem.run_pure,Result.andThen_ok,Zb7 (k:=kh) (y:=cap) (by omega:0≤h) (by omega),Zb7 (k:=kl) (y:=h.toNat) h0 (by omega)]
     simp
  ·rcases hhi with ⟨rfl,rfl⟩ | ⟨kh,rfl⟩
   ·cases hno rfl
   ·simp only [Sem.run_bind,Zb7 (k:=km) (y:=cap) (by omega:0≤m) h3,Result.andThen_ok,Zb7 (k:=kh) (y:=m.toNat) (by omega:0≤h) (by omega)]
    rcases hlo with ⟨rfl,rfl⟩ | ⟨kl,rfl⟩
    ·simp
    ·simp only [Sem.run_bind,Zb7 (k:=kl) (y:=h.toNat) h0 (by omega),Result.andThen_ok,Sem.run_pure]
theorem Zd4 {P:Program} {w:World} {t el:TypeId} {p:Option Addr} {len cap size:Nat} {lo hi mx:Option Value} {l h m:Int} {inf:TypeInfo}
    (hu:P.underlying t=some (.slice el)) (hinf:P.info? el=some inf) (hs:inf.size=size)
    (hb:(Instr.sliceBounds true len cap lo hi mx).run P w = .ok (l.toNat,h.toNat,m.toNat) w) :
    (Instr.sliceAt t (.slice p len cap) lo hi mx).run P w = .ok (.slice (Zo4 p l.toNat m.toNat size) (h.toNat - l.toNat) (m.toNat - l.toNat)) w:=by
  unfold Instr.sliceAt Instr.slice Zo4
  simp only [Sem.run_bind,Zb P w t hu,Result.andThen_ok,hb,Ye P w el hinf,hs,Sem.run_pure]
theorem ZdF {P:Program} {w:World} {t:TypeId} {s:ByteArray} {lo hi:Option Value} {l h:Int} {m:Nat}
    (hu:P.underlying t=some .string) (hb:(Instr.sliceBounds false s.size s.size lo hi none).run P w = .ok (l.toNat,h.toNat,m) w) :
    (Instr.sliceAt t (.string s) lo hi none).run P w = .ok (.string (s.extract l.toNat h.toNat)) w:=by
  unfold Instr.sliceAt Instr.slice
  simp only [Sem.run_bind,Zb P w t hu,Result.andThen_ok,Option.isSome_none,Bool.false_eq_true,if_false,hb,Sem.run_pure]
theorem Zlp {n:Int} (h0:0≤n) (h1:n≤9223372036854775807):IntKind.i64.wrap n=n:=by
  unfold IntKind.wrap
  have hb:(2:Int) ^ IntKind.i64.bits=18446744073709551616:=by decide
  have hb':(2:Int) ^ (IntKind.i64.bits - 1)=9223372036854775808:=by decide
  simp only [hb,hb']
  have:n % 18446744073709551616=n:=Int.emod_eq_of_lt h0 (by omega)
  rw [this]
  have:¬ (n≥9223372036854775808):=by omega
  simp [this]
theorem Zhj {P:Program} {w:World} {t el:TypeId} {k k':IntKind} {l c:Int} {inf:TypeInfo} {z:Value}
    (hu:P.underlying t=some (.slice el)) (hinf:P.info? el=some inf) (hz:inf.zero=some z) (hlen:z.cells.size=inf.size)
    (h0:0≤l) (h1:l≤c) (h2:c*inf.bytes≤281474976710656) (h3:c≤281474976710656) :
    (Instr.makeSlice t (.int k l) (.int k' c)).run P w = .ok (.slice (some ⟨w.heap.size,0,none⟩) l.toNat c.toNat) { w with heap:=w.heap.push (.cells (YW z.cells.toList c.toNat).toArray el)}:=by
  unfold Instr.makeSlice asInt asIntOf
  have wl:IntKind.i64.wrap l=l:=Zlp h0 (by omega)
  have wc:IntKind.i64.wrap c=c:=Zlp (by omega) (by omega)
  have hbig:(2:Int) ^ 48=281474976710656:=by decide
  simp only [Sem.run_bind,Zb P w t hu,Result.andThen_ok,Sem.run_pure,Y0 P w el hinf,wl,wc]
  have hc:¬ ((decide (c<0)||decide ((inf.bytes:Int)*c>2 ^ 48)||decide (l<0)||decide (l>c))=true):=by
    have e1:¬ c<0:=by omega
    have e2:(inf.bytes:Int)*c≤281474976710656:=by rw [Int.mul_comm];exact h2
    have e3:¬ l<0:=by omega
    have e4:¬ l>c:=by omega
    simp [e1,e2,e3,e4]
  rw [if_neg hc]
  simp only [Sem.run_bind,run_askRoom,Result.andThen_ok,Ye P w el hinf]
  by_cases hn:c.toNat*inf.size=0
  ·rw [if_pos hn]
   have hz0:YW z.cells.toList c.toNat=[]:=List.eq_nil_of_length_eq_zero (by rw [ZbH];simpa [hlen] using hn)
   simp only [Sem.run_bind,Sem.run_pure,Result.andThen_ok,XW]
   have hr:Array.range 0 = #[]:=Array.eq_empty_of_size_eq_zero (by simp)
   rw [hz0]
   simp [hn,hr]
  ·rw [if_neg hn]
   simp only [Sem.run_bind,Yw P w el hinf hz,Sem.run_pure,Result.andThen_ok,XW]
   have:=Zde z.cells c.toNat (c.toNat*inf.size) (by rw [hlen])
   congr 3
   rw [← this]
theorem ZgE {ZbA cap bytes:Nat} (h:cap<ZbA) (hb:ZbA*bytes≤140737488355328):Builtin.nextslicecap ZbA cap*bytes≤281474976710656:=by
  unfold Builtin.nextslicecap
  split
  ·omega
  ·split
   ·have:2*cap*bytes≤2*(ZbA*bytes):=by rw [Nat.mul_assoc];exact Nat.mul_le_mul_left 2 (Nat.mul_le_mul_right _ (by omega))
    omega
   ·have key:∀ (r c:Nat),c≤2*ZbA→256≤c→Builtin.growBy ZbA r c≤2*ZbA:=by
      intro r
      induction r with
      | zero=>intro c hc _;unfold Builtin.growBy;omega
      | succ r ih =>
        intro c hc h256
        unfold Builtin.growBy
        split
        ·omega
        ·exact ih _ (by omega) (by omega)
    have:=key 4 cap (by omega) (by omega)
    have:Builtin.growBy ZbA 4 cap*bytes≤2*(ZbA*bytes):=by
      rw [← Nat.mul_assoc];exact Nat.mul_le_mul_right _ this
    omega
theorem ZnA {P:Program} {w:World} {x:Sl} {size:Nat} {K:List Value→Prop} (h:rdS x size w.heap K) :
    ∃ l,(Builtin.firstCells size x.len (.slice x.ptr x.len x.cap)).run P w = .ok l.toArray w∧K l:=by
  rcases h with ⟨hp,hk⟩ | ⟨b,o,l,hp,hl,hh,hk⟩
  ·refine ⟨[],?_,hk⟩
   rw [hp]
   cases x.ptr<;>simp [Builtin.firstCells,loadCells,loadCellsFrom]
  ·refine ⟨l,?_,hk⟩
   rw [hp]
   simp only [Builtin.firstCells]
   rw [← hl]
   exact X0 P w b o l hh
theorem Zem (z:Array Value) (n:Nat):(Builtin.zeroCells z n).toList=YW z.toList n:=by
  unfold Builtin.zeroCells
  exact Zde z n _ rfl
theorem Zgv {P:Program} {w:World} {t el:TypeId} {ts:Array TypeId} {rt:TypeId} {s:Sl} {x:Value} {n:Nat} {new:List Value} {inf:TypeInfo} {z:Value} {K:Sl→Zc→Prop}
    (ht:ts[0]?=some t) (ht1:∀ u,ts[1]?=some u→∃ d,P.underlying u=some d∧∀ k,d≠ .int k)
    (hu:P.underlying t=some (.slice el)) (hinf:P.info? el=some inf) (hz:inf.zero=some z)
    (hlen:(Builtin.lenOf x).run P w = .ok n w) (hnew:∀ w':World,w'.heap=w.heap→(Builtin.firstCells inf.size n x).run P w' = .ok new.toArray w')
    (hk:app el inf.size inf.bytes z.cells.toList s n new w.heap K) :
    ∃ s' w',(Builtin.append_ ts rt #[.slice s.ptr s.len s.cap,x]).run P w = .ok (.slice s'.ptr s'.len s'.cap) w'∧Same w w'∧K s' w'.heap:=by
  obtain ⟨hroom,hgrow⟩:=hk
  have h63:IntKind.i64.max=9223372036854775807:=by decide
  have h48:(2:Nat) ^ 48=281474976710656:=by decide
  have grows:∀ (hgt:s.cap<s.len+n) (W:World),W=w→∃ s' w',
      (do let newCap ← choose (Question.appendCap (s.len+n) s.cap el)
          let __do_lift ← typeInfo el
          askRoom (newCap*__do_lift.bytes)
          let old ← Builtin.firstCells inf.size s.len (Value.slice s.ptr s.len s.cap)
          let new ← Builtin.firstCells inf.size n x
          let __do_lift ← zeroValue el
          let __do_lift ← newRow el (old++new++Builtin.zeroCells __do_lift.cells (newCap - (s.len+n)))
          pure (Value.slice (some __do_lift) (s.len+n) newCap):Sem Value).run P W = .ok (.slice s'.ptr s'.len s'.cap) w'∧Same w w'∧K s' w'.heap:=by
    rintro hgt W rfl
    obtain ⟨hb,hle,hrd⟩:=hgrow hgt
    have hq:(Question.appendCap (s.len+n) s.cap el).forced=false:=rfl
    simp only [Sem.run_bind,run_choose,hq,Bool.false_eq_true,if_false,Result.andThen_ok]
    generalize hcap:(Question.appendCap (s.len+n) s.cap el).cut (W.tape W.drawn (Question.appendCap (s.len+n) s.cap el))=newCap
    have hc1:s.len+n≤newCap∧newCap<9223372036854775808:=by
      subst hcap
      simp only [Question.cut]
      have:(2:Nat) ^ 63=9223372036854775808:=by decide
      rw [this]
      have:=Nat.mod_lt (W.tape W.drawn (Question.appendCap (s.len+n) s.cap el)) (show 9223372036854775808 - (s.len+n)>0 by omega)
      omega
    obtain ⟨old,hold,hk⟩:=ZnA (P:=P) (w:={ W with drawn:=W.drawn+1 }) hrd
    simp only [Y0 P _ el hinf,Result.andThen_ok,run_askRoom,hold,hnew { W with drawn:=W.drawn+1 } rfl,Yw P _ el hinf hz,XW,Sem.run_pure]
    refine ⟨⟨some ⟨W.heap.size,0,none⟩,s.len+n,newCap⟩,_,rfl,⟨rfl,rfl,rfl⟩,?_⟩
    have:=hk newCap hc1.1 hc1.2
    rw [← Zem] at this
    have e:(old++new++(Builtin.zeroCells z.cells (newCap - (s.len+n))).toList).toArray=old.toArray++new.toArray++Builtin.zeroCells z.cells (newCap - (s.len+n)):=by
      apply Array.ext'
      simp
    rw [e] at this
    exact this
  unfold Builtin.append_
  simp only [ht,List.getElem?_toArray,List.getElem?_cons_zero,List.getElem?_cons_succ,Sem.run_bind,Zb P w t hu,Result.andThen_ok,Ye P w el hinf]
  have rest:∀ (q:Prop),¬ q→∃ s' w',(if s.len+n≤s.cap then (do
          let new ← Builtin.firstCells inf.size n x
          match s.ptr with
            | some a=>do
              storeCells (a.add (s.len*inf.size)) new.toList
              pure (Value.slice s.ptr (s.len+n) s.cap)
            | _=>pure (Value.slice s.ptr (s.len+n) s.cap):Sem Value) else stuck "").run P w = .ok (.slice s'.ptr s'.len s'.cap) w'∧Same w w'∧K s' w'.heap∨s.cap<s.len+n:=by
    intro _ _
    rcases Nat.lt_or_ge s.cap (s.len+n) with hgt | hle
    ·exact ⟨⟨none,0,0⟩,w,.inr hgt⟩
    ·rw [if_pos hle]
     simp only [Sem.run_bind,hnew w rfl,Result.andThen_ok]
     rcases hroom hle with ⟨hp,hk⟩ | ⟨b,o,hp,hf,ha,hk⟩
     ·refine ⟨⟨s.ptr,s.len+n,s.cap⟩,w,.inl ⟨?_,Same.refl w,hk⟩⟩
      rw [hp]
      cases s.ptr<;>simp [storeCells]
     ·rw [hp]
      refine ⟨⟨some ⟨b,o,none⟩,s.len+n,s.cap⟩,{ w with heap:=Zc.puts w.heap b (o+s.len*inf.size) new },.inl ⟨?_,⟨rfl,rfl,rfl⟩,by rw [hp] at hk;exact hk⟩⟩
      simp only [ZfR,Sem.run_bind]
      have:=Zaq P b (o+s.len*inf.size) new 0 w (by simpa using hf) ha
      simp only [Nat.add_zero] at this
      rw [this]
      rfl
  obtain ⟨s₁,w₁,hrest⟩:=rest False id
  cases h1:ts[1]? with
  | none =>
    simp only [Sem.run_bind,Sem.run_pure,Result.andThen_ok,Bool.false_eq_true,if_false,hlen,Bool.not_false,if_true,false_or]
    rcases Nat.lt_or_ge s.cap (s.len+n) with hgt | hle
    ·rw [if_neg (by omega)]
     obtain ⟨hb,hle,_⟩:=hgrow hgt
     simp only [Sem.run_bind,Y0 P w el hinf,Result.andThen_ok]
     rw [if_neg (by rw [h63];omega)]
     simp only [Sem.run_bind,Y0 P w el hinf,Result.andThen_ok]
     rw [if_neg (by rw [h48];have:=ZgE hgt hb;omega)]
     exact grows hgt w rfl
    ·rw [if_pos hle] at hrest ⊢
     exact ⟨s₁,w₁,hrest.resolve_right (by omega)⟩
  | some u =>
    obtain ⟨d,hd,hne⟩:=ht1 u h1
    simp only [Sem.run_bind,Sem.run_pure,Zb P w u hd,Result.andThen_ok,Bool.false_eq_true,if_false,hlen,Bool.not_false,if_true,false_or]
    rcases Nat.lt_or_ge s.cap (s.len+n) with hgt | hle
    ·rw [if_neg (by omega)]
     obtain ⟨hb,hle,_⟩:=hgrow hgt
     simp only [Sem.run_bind,Y0 P w el hinf,Result.andThen_ok]
     rw [if_neg (by rw [h63];omega)]
     simp only [Sem.run_bind,Y0 P w el hinf,Result.andThen_ok]
     rw [if_neg (by rw [h48];have:=ZgE hgt hb;omega)]
     exact grows hgt w rfl
    ·rw [if_pos hle] at hrest ⊢
     exact ⟨s₁,w₁,hrest.resolve_right (by omega)⟩
theorem Zfz (P:Program) (f:Value→ByteArray→Sem (ForInStep ByteArray)) (hf:∀ n s,f (.int .u8 n) s=pure (ForInStep.yield (s.push (UInt8.ofNat n.toNat)))) :
    ∀ (l:List UInt8) (acc:ByteArray) (w:World),(forIn (l.map fun b=>Value.int .u8 b.toNat) acc f).run P w = .ok (l.foldl ByteArray.push acc) w
  | [],acc,w=>by simp
  | x::l,acc,w=>by
    simp only [List.map_cons,List.forIn_cons,hf,Sem.run_bind,Sem.run_pure,Result.andThen_ok,List.foldl_cons]
    have:=Zfz P f hf l (acc.push x) w
    simpa using this
theorem Zk6 (l:List UInt8):∀ acc:ByteArray,l.foldl ByteArray.push acc=⟨acc.data++l.toArray⟩:=by
  induction l with
  | nil=>intro acc;simp
  | cons x l ih =>
    intro acc
    rw [List.foldl_cons,ih]
    simp [ByteArray.push]
theorem Zi0 {P:Program} {w:World} {x:Sl} {K:ByteArray→Prop} (h:b2s x w.heap K) :
    ∃ s,(Conv.bytesToString (.slice x.ptr x.len x.cap)).run P w = .ok (.string s) w∧K s:=by
  rcases h with ⟨hp,hk⟩ | ⟨b,o,s,hp,hl,hh,hk⟩
  ·refine ⟨_,?_,hk⟩
   rw [hp]
   cases x.ptr<;>rfl
  ·refine ⟨s,?_,hk⟩
   rw [hp]
   unfold Conv.bytesToString
   have hlen:(YV s).length=x.len:=by rw [← hl];unfold YV;simp
   simp only [Sem.run_bind,← hlen,X0 P w b o _ hh,Result.andThen_ok]
   simp only [List.forIn_toArray]
   unfold YV
   rw [Zfz P _ (fun _ _=>rfl)]
   simp only [Result.andThen_ok,Zk6]
   simp
theorem Zo9 {P:Program} {w:World} {el:TypeId} {s:ByteArray} {K:Sl→Zc→Prop} (h:s2b el s w.heap K) :
    ∃ x w',(Conv.stringToBytes el s).run P w = .ok (.slice x.ptr x.len x.cap) w'∧Same w w'∧K x w'.heap:=by
  obtain ⟨hs,h⟩:=h
  unfold Conv.stringToBytes
  have hq:(Question.appendCap s.size 0 el).forced=false:=rfl
  simp only [Sem.run_bind,run_choose,hq,Bool.false_eq_true,if_false,Result.andThen_ok]
  generalize hcap:(Question.appendCap s.size 0 el).cut (w.tape w.drawn (Question.appendCap s.size 0 el))=cap
  have hc1:s.size≤cap∧cap<9223372036854775808:=by
    subst hcap
    simp only [Question.cut]
    have:(2:Nat) ^ 63=9223372036854775808:=by decide
    rw [this]
    have:=Nat.mod_lt (w.tape w.drawn (Question.appendCap s.size 0 el)) (show 9223372036854775808 - s.size>0 by omega)
    omega
  simp only [XW,Result.andThen_ok]
  have hsz:((s.data.map fun b=>Value.int .u8 b.toNat)++Array.replicate (cap - s.size) (Value.int .u8 0)).size=cap:=by
    simp
    have:s.data.size=s.size:=rfl
    omega
  unfold markStringish
  simp only [Sem.run_bind,run_shape,Result.andThen_ok,World.shape?,Array.getElem?_push_size,hsz,run_freeze,Sem.run_pure]
  refine ⟨⟨some ⟨w.heap.size,0,none⟩,s.size,cap⟩,_,rfl,?_,?_⟩
  ·unfold World.freeze
   simp only [Nat.one_ne_zero,if_false]
   exact ⟨rfl,rfl,rfl⟩
  ·have:=h cap hc1.1 hc1.2
   unfold World.freeze
   simp only [Nat.one_ne_zero,if_false]
   have e:(w.heap.push (Obj.cells ((s.data.map fun b=>Value.int .u8 b.toNat)++Array.replicate (cap - s.size) (Value.int .u8 0)) el)).modify w.heap.size
       (fun x=>match x with
         | .cells c elem (lo,hi)=> .cells c elem (if (lo ==hi)=true then (cap,cap+1) else (min lo cap,max hi (cap+1)))
         | o=>o)=w.heap.push (.cells (YV s++List.replicate (cap - s.size) (Value.int .u8 0)).toArray el (cap,cap+1)):=by
     have ea:((s.data.map fun b=>Value.int .u8 b.toNat)++Array.replicate (cap - s.size) (Value.int .u8 0))=(YV s++List.replicate (cap - s.size) (Value.int .u8 0)).toArray:=by
       apply Array.ext'
       simp [YV]
     rw [ea]
     apply Array.ext_getElem?
     intro i
     rw [Array.getElem?_modify]
     by_cases hi:w.heap.size=i
     ·subst hi
      simp
     ·rw [if_neg hi]
      simp [Array.getElem?_push,Ne.symm hi]
   exact e▸this
end Go.Fw
