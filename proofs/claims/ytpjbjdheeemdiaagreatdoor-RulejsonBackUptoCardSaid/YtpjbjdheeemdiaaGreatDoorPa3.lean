/- The reading of a function's code as a condition on memory: what each operation, region and statement asks and leaves. Definitions alone. -/
import Derived.Sort.QuietThIn
import Derived.OrdersHeld
import Derived.Laws.Sem
import Derived.Laws.World
import Derived.RangeFuncLeaves
import Derived.RangeFuncRecord
import Derived.Test.YtpjbjdheeemdiaaGreatDoorPa2
set_option linter.unusedVariables false
set_option linter.unusedSimpArgs false
namespace Go.Fw
open Go
inductive Leaf where
  | I (k:IntKind) | B | S | P | L | M | V
abbrev Leaf.D:Leaf->Type
  | .I _=>Int | .B=>Bool | .S=>ByteArray | .P=>Option Addr | .L=>Sl | .M=>Option Nat | .V=>Value
def Leaf.mk:(l:Leaf)->l.D->Value
  | .I k,n=> .int k n | .B,b=> .bool b | .S,s=> .string s | .P,p=> .pointer p | .L,s=> .slice s.ptr s.len s.cap | .M,m=> .map m | .V,v=>v
def Leaf.un:(l:Leaf)->Value->Option l.D
  | .I k,.int a n=>if a=k then some n else none
  | .B,.bool b=>some b
  | .S,.string s=>some s
  | .P,.pointer p=>some p
  | .L,.slice p l c=>some ⟨p,l,c⟩
  | .M,.map m=>some m
  | .V,v=>some v
  | _,_=>none
abbrev Tup:List Leaf->Type
  | []=>Unit
  | l::ls=>l.D × Tup ls
def Tup.vals:(ls:List Leaf)->Tup ls->List Value
  | [],_=>[]
  | l::ls,t=>l.mk t.1::Tup.vals ls t.2
def Tup.un:(ls:List Leaf)->List Value->Option (Tup ls)
  | [],[]=>some ()
  | l::ls,v::vs=>match l.un v,Tup.un ls vs with
    | some x,some t=>some (x,t)
    | _,_=>none
  | _,_=>none
inductive VT where
  | one (l:Leaf) | agg (ls:List Leaf) | fn (f:FuncId) | clo (f:FuncId) (ls:List Leaf) | yl
abbrev VT.D:VT->Type
  | .one l=>l.D
  | .agg ls=>Tup ls
  | .fn _=>Unit
  | .clo _ ls=>Tup ls
  | .yl=>Nat
abbrev XB:List VT->Type
  | []=>Unit
  | v::vs=>v.D × XB vs
inductive EV where
  | val (v:Value) | lit (b:Bool) | adr (b o:Nat) | itr (t:TypeId) (b:Nat) | more (k v:Value) | over
def EV.v:EV->Value
  | .val v=>v
  | .lit b=> .bool b
  | .adr b o=> .pointer (some ⟨b,o,none⟩)
  | .itr _ b=> .pointer (some ⟨b,0,none⟩)
  | .more k v=> .tuple #[.bool true,k,v]
  | .over=> .tuple #[.bool false]
def VT.ev:(v:VT)->v.D->EV
  | .one l,x=> .val (l.mk x)
  | .agg ls,x=> .val (.agg (Tup.vals ls x).toArray)
  | .fn f,_=> .val (.func (.func f) ⟨[]⟩ ⟨[]⟩)
  | .clo f ls,x=> .val (.func (.func f) ⟨[]⟩ ⟨Tup.vals ls x⟩)
  | .yl,l=> .val (.func (.yield l) ⟨[]⟩ ⟨[]⟩)
def fnU (f:FuncId):EV->Option Unit
  | .val (.func (.func g) ⟨[]⟩ ⟨[]⟩)=>bif Nat.beq f g then some () else none
  | _=>none
def ZNN (f:FuncId) (ls:List Leaf):EV->Option (Tup ls)
  | .val (.func (.func g) ⟨[]⟩ ⟨cs⟩)=>bif Nat.beq f g then Tup.un ls cs else none
  | _=>none
def ylU:EV->Option Nat
  | .val (.func (.yield l) ⟨[]⟩ ⟨[]⟩)=>some l
  | _=>none
def VT.un:(v:VT)->EV->Option v.D
  | .one l,e=>l.un e.v
  | .agg ls,.val (.agg cs)=>Tup.un ls cs.toList
  | .agg _,_=>none
  | .fn f,e=>fnU f e
  | .clo f ls,e=>ZNN f ls e
  | .yl,e=>ylU e
def XB.evs:(vs:List VT)->XB vs->List EV
  | [],_=>[]
  | v::vs,t=>v.ev t.1::XB.evs vs t.2
def XB.un:(vs:List VT)->List EV->Option (XB vs)
  | [],[]=>some ()
  | v::vs,e::es=>match v.un e,XB.un vs es with
    | some x,some t=>some (x,t)
    | _,_=>none
  | _,_=>none
def ZfU:List EV->EV
  | [e]=>e
  | es=> .val (.tuple (es.map EV.v).toArray)
structure Zd where
  args:List VT
  res:List VT
  sem:XB args->(XB res->Zc->Prop)->(Value->Zc->Prop)->Zc->Prop
structure ZdH where
  caps:List VT
  sem:Yld->Nat->XB caps->(Zc->Prop)->Zc->Prop
inductive Mark where
  | no | at_ (D:Nat) | raw (ds:List Deferred)
def Mark.isNo:Mark->Bool
  | .no=>true
  | _=>false
structure Env where
  f:Nat->Option EV
  mD:Mark
instance:CoeFun Env (fun _=>Nat->Option EV):=⟨Env.f⟩
def Env.set (e:Env) (d:Nat) (v:EV):Env:=⟨fun j=>bif Nat.beq j d then some v else e.f j,e.mD⟩
def Env.ev (e:Env):Operand->Option EV
  | .tmp t=>e.f t
  | .const (.bool b)=>some (.lit b)
  | .const v=>some (.val v)
  | .global g=>some (.adr g 0)
  | .func f=>some (.val (.func (.func f) #[] #[]))
structure Cfg where
  P:Program
  calls:List (FuncId × Zd)
  n:Nat
  ext:List FuncId
  dyn:List (String × TypeId × FuncId)
  iters:List (FuncId × ZdH)
  rnd:Option Nat
  pan:Value->Zc->Prop
  yld:Yld
  fns:List (FuncId × List Leaf)
def ZD (P:Program) (calls:List (FuncId × Zd)) (n:Nat) (ext:List FuncId) (dyn:List (String × TypeId × FuncId)) (iters:List (FuncId × ZdH)) (yld:Yld) (fns:List (FuncId × List Leaf):=[]):Cfg :=
  ⟨P,calls,n,ext,dyn,iters,none,fun _ _=>False,yld,fns⟩
def ZE:Yld:=fun _ _ _ _=>False
structure ZCD where
  s:Zd
  t:XB s.args
def Zn0 (f:FuncId) (es:List EV):List (FuncId × Zd)->Option ZCD
  | []=>none
  | (g,s)::r=>bif Nat.beq f g then (match XB.un s.args es with
    | some t=>some ⟨s,t⟩
    | none=>Zn0 f es r) else Zn0 f es r
structure ZzW where
  s:ZdH
  t:XB s.caps
def Zv1 (f:FuncId) (es:List EV):List (FuncId × ZdH)->Option ZzW
  | []=>none
  | (g,s)::r=>bif Nat.beq f g then (match XB.un s.caps es with
    | some t=>some ⟨s,t⟩
    | none=>Zv1 f es r) else Zv1 f es r
structure ZqV where
  a0:VT
  rest:List VT
  res:List VT
  sem:XB (a0::rest)->(XB res->Zc->Prop)->(Value->Zc->Prop)->Zc->Prop
  t:XB rest
def ZnZ (f:FuncId) (es:List EV):List (FuncId × Zd)->Option ZqV
  | []=>none
  | (g,⟨a0::rest,res,sem⟩)::r=>bif Nat.beq f g then (match XB.un rest es with
    | some t=>some ⟨a0,rest,res,sem,t⟩
    | none=>ZnZ f es r) else ZnZ f es r
  | (_,⟨[],_,_⟩)::r=>ZnZ f es r
def ZFm (calls:List (FuncId × Zd)) (a:Value->Zc->Prop) (name:String) (v:Value) (es:List EV) (h:Zc) (K:EV->Zc->Prop):List (String × TypeId × FuncId)->Prop
  | []=>False
  | (n,t,f)::r=>bif n ==name then (match ZnZ f es calls with
    | some p=>exG v (fun x:p.a0.D=> .iface t (p.a0.ev x).v) (fun x=>p.sem (x,p.t) (fun b h'=>K (ZfU (XB.evs p.res b)) h') a h)\/ZFm calls a name v es h K r
    | none=>ZFm calls a name v es h K r) else ZFm calls a name v es h K r
def ZBJ (es:List EV) (cs:List Value):List EV:=es++cs.map EV.val
def fnP (calls:List (FuncId × Zd)) (a:Value->Zc->Prop) (v:Value) (es:List EV) (h:Zc) (K:EV->Zc->Prop):List (FuncId × List Leaf)->Prop
  | []=>False
  | (f,[])::r=>match Zn0 f es calls with
    | some ⟨s,t⟩=>ZND v f (s.sem t (fun b h'=>K (ZfU (XB.evs s.res b)) h') a h)\/fnP calls a v es h K r
    | none=>fnP calls a v es h K r
  | (f,l::ls)::r=>exG v (fun c:Tup (l::ls)=> .func (.func f) ⟨[]⟩ ⟨Tup.vals (l::ls) c⟩) (fun c=>match Zn0 f (ZBJ es (Tup.vals (l::ls) c)) calls with
    | some ⟨s,t⟩=>s.sem t (fun b h'=>K (ZfU (XB.evs s.res b)) h') a h
    | none=>False)\/fnP calls a v es h K r
def ZGs (t:Nat):List (FuncId × List Leaf)->Bool
  | []=>false
  | (f,_)::r=>bif Nat.beq f (1000000+t) then true else ZGs t r
def ZNE (l:List (FuncId × List Leaf)):Operand->List (FuncId × List Leaf)
  | .tmp t=>bif ZGs t l then [] else l
  | _=>[]
def ZFD (f:FuncId):List FuncId->Bool
  | []=>false
  | g::r=>bif Nat.beq f g then true else ZFD f r
def evs (e:Env):List Operand->Option (List EV)
  | []=>some []
  | x::xs=>match e.ev x,evs e xs with
    | some v,some vs=>some (v::vs)
    | _,_=>none
def ZCA (op:BinOp) (x y:EV) (K:EV->Prop):Prop :=
  match x,y with
  | .val (.int k a),.val (.int c b) =>
    match op with
    | .shl=>Y9 (0<=b) (K (.val (.int k (Zz5 k a b))))
    | .shr=>Y9 (0<=b) (K (.val (.int k (ZvH k a b))))
    | _=>if k=c then
       match op with
       | .add=>K (.val (.int k (k.wrap (a+b))))
       | .sub=>K (.val (.int k (k.wrap (a - b))))
       | .mul=>K (.val (.int k (k.wrap (a*b))))
       | .quo=>Y9 (b≠0) (K (.val (.int k (k.wrap (a.tdiv b)))))
       | .rem=>Y9 (b≠0) (K (.val (.int k (a.tmod b))))
       | .and=>K (.val (.int k (Zvm k a b)))
       | .or=>K (.val (.int k (orV k a b)))
       | .xor=>K (.val (.int k (ZPD k a b)))
       | .andNot=>K (.val (.int k (ZNS k a b)))
       | .eql=>K (.val (.bool (a ==b)))
       | .neq=>K (.val (.bool (a !=b)))
       | .lss=>K (.val (.bool (decide (a<b))))
       | .leq=>K (.val (.bool (decide (a<=b))))
       | .gtr=>K (.val (.bool (decide (a>b))))
       | .geq=>K (.val (.bool (decide (a>=b))))
       | _=>False
      else False
  | .val (.string a),.val (.string b) =>
    match op with
    | .add=>ZHe a b fun s=>K (.val (.string s))
    | .eql=>K (.val (.bool (ZcC a b)))
    | .neq=>K (.val (.bool (!ZcC a b)))
    | .lss=>K (.val (.bool (Op.bytesLess a.toList b.toList)))
    | .leq=>K (.val (.bool (Op.bytesLess a.toList b.toList||ZcC a b)))
    | .gtr=>K (.val (.bool (!(Op.bytesLess a.toList b.toList||ZcC a b))))
    | .geq=>K (.val (.bool (!Op.bytesLess a.toList b.toList)))
    | _=>False
  | _,_=>False
def eqP (t:Option TypeDesc) (neg:Bool) (x y:EV) (K:EV->Prop):Prop :=
  match t,x,y with
  | some (.pointer _),.adr _ _,.val (.pointer none)=>K (.lit neg)
  | some (.pointer _),.val (.pointer p),.val (.pointer none)=>K (.val (.bool (bif neg then p.isSome else p.isNone)))
  | some (.slice _),.val (.slice p _ _),.val (.slice none _ _)=>K (.val (.bool (bif neg then p.isSome else p.isNone)))
  | some (.map _ _),.val (.map p),.val (.map none)=>K (.val (.bool (bif neg then p.isSome else p.isNone)))
  | some .bool,x,y =>
    match x.v,y.v with
    | .bool a,.bool b=>K (.val (.bool (bif neg then a !=b else a ==b)))
    | _,_=>False
  | _,_,_=>False
def ZmZ (d:Option TypeDesc) (h:Zc) (b o:Nat) (K:EV->Prop):Prop :=
  match d with
  | some (.int k)=>ldI h b o k fun x=>K (.val (.int k x))
  | some .bool=>ldB h b o fun x=>K (.val (.bool x))
  | some .string=>ldS h b o fun x=>K (.val (.string x))
  | some (.pointer _)=>ldP h b o fun x=>K (.val (.pointer x))
  | some (.slice _)=>ldL h b o fun x=>K (.val (.slice x.ptr x.len x.cap))
  | some (.map _ _)=>ldM h b o fun x=>K (.val (.map x))
  | some (.struct _) | some (.array _ _) | none=>False
  | some _=>ldV h b o fun x=>K (.val x)
def ZfE (P:Program):Nat->TypeId->List (Option TypeDesc)
  | 0,_=>[none]
  | d+1,t=>match P.underlying t with
    | some (.struct fs)=>fs.toList.flatMap fun f=>ZfE P d f.type
    | some (.array n e)=>(List.replicate n (ZfE P d e)).flatten
    | x=>[x]
def ZHo (o i:Nat):Nat:=bif Nat.beq i 0 then o else o+i
def ZBd (h:Zc) (b o:Nat):Nat->List (Option TypeDesc)->(List Value->Prop)->Prop
  | _,[],K=>K []
  | i,d::a,K=>ZmZ d h b (ZHo o i) fun v=>ZBd h b o (i+1) a fun vs=>K (v.v::vs)
def Zca:Option TypeDesc->Bool
  | some (.struct _) | some (.array _ _)=>true
  | _=>false
def ldT (P:Program) (t:TypeId) (h:Zc) (b o:Nat) (K:EV->Prop):Prop :=
  bif Zca (P.underlying t) then
    (bif Nat.beq (ZfE P 8 t).length (P.cellsOf t) then ZBd h b o 0 (ZfE P 8 t) fun vs=>K (.val (.agg vs.toArray)) else False)
  else ZmZ (P.underlying t) h b o K
def atP (x:EV) (K:Nat->Nat->Prop):Prop :=
  match x with
  | .adr b o=>K b o
  | .val (.pointer p)=>Ze p K
  | _=>False
def stT (P:Program) (t:TypeId) (h:Zc) (b o:Nat) (v:EV) (K:Zc->Prop):Prop :=
  match v with
  | .val (.agg cs)=>bif Zca (P.underlying t) then (bif Nat.beq cs.toList.length (P.cellsOf t) then sts h b o cs.toList K else False) else False
  | v=>bif Zca (P.underlying t) then False else (bif Nat.beq (P.cellsOf t) 1 then st h b o v.v K else False)
def ZkB:EV->List Value
  | .val (.agg cs)=>cs.toList
  | v=>[v.v]
def Zy0:Option TypeDesc->Bool
  | some (.int _) | some .bool | some .string | some (.pointer _) | some (.slice _) | some (.map _ _) | some (.struct _) | some (.array _ _) | none=>false
  | some _=>true
def ZnC (d:Option TypeDesc) (v:EV):List Value:=bif Zy0 d then [v.v] else ZkB v
def Zre (P:Program) (fs:List Field) (e:Env):List (Nat × Operand)->List Value
  | []=>[]
  | (i,x)::r=>match fs[i]?,e.ev x with
    | some f,some v=>bif Zy0 (P.underlying f.type) then v.v::Zre P fs e r else Zre P fs e r
    | _,_=>Zre P fs e r
def ZEF:List Value->Prop->Prop
  | [],K=>K
  | v::vs,K=>Y9 (Ye v=true) (ZEF vs K)
def Zf1:List Value->List (Nat × List Value)->List Value
  | cs,[]=>cs
  | cs,(o,vs)::r=>Zf1 (cs.take o++vs++cs.drop (o+vs.length)) r
def ZmJ (P:Program) (fs:List Field) (e:Env) (n:Nat):List (Nat × Operand)->Option (List (Nat × List Value))
  | []=>some []
  | (i,x)::r=>match fs[i]?,e.ev x,ZmJ P fs e n r with
    | some f,some v,some l=>bif Nat.beq (ZnC (P.underlying f.type) v).length (P.cellsOf f.type) then (bif Nat.ble (f.offset+(ZnC (P.underlying f.type) v).length) n then some ((f.offset,ZnC (P.underlying f.type) v)::l) else none) else none
    | _,_,_=>none
def Zk4 (size:Nat) (e:Env) (n:Nat):List (Nat × Operand)->Option (List (Nat × List Value))
  | []=>some []
  | (i,x)::r=>match e.ev x,Zk4 size e n r with
    | some v,some l=>bif Nat.beq (ZkB v).length size then (bif Nat.ble (i*size+(ZkB v).length) n then some ((i*size,ZkB v)::l) else none) else none
    | _,_=>none
def Zlz (P:Program) (t:TypeId):Option (List Value):=match P.info? t with
  | some i=>match i.zero with
    | some v=>some v.cells.toList
    | none=>none
  | none=>none
def ZsZ (P:Program) (t:TypeId):Option (Nat × Nat):=match P.info? t with
  | some i=>some (i.size,i.bytes)
  | none=>none
def ZCe (d:Int):Option (Option EV)->Option Int
  | none=>some d
  | some (some (.val (.int _ n)))=>some n
  | _=>none
def ZkC:Nat:=16777216
def ZyX:TypeDesc->Value->Bool
  | .int k,.int a _=>if k=a then true else false
  | .string,.string _=>true
  | .bool,.bool _=>true
  | _,_=>false
def Zn7:Option TypeDesc->Bool
  | some (.int _) | some .string | some .bool=>true
  | _=>false
def ZiM (P:Program):List Field->Nat->Bool
  | [],_=>true
  | f::fs,i=>bif f.name == "_" then false else bif Nat.beq f.offset i&&Zn7 (P.underlying f.type) then ZiM P fs (i+1) else false
def ZiN (P:Program) (fs:List Field):List TypeDesc:=fs.map fun f=>(P.underlying f.type).getD .bool
def ZyW:List TypeDesc->List Value->Bool
  | [],[]=>true
  | d::a,v::vs=>bif ZyX d v then ZyW a vs else false
  | _,_=>false
def ZBu (P:Program) (a:TypeId) (fs:Array Field) (cs:List Value):Bool :=
  bif P.stoodInHeld a then false else bif ZiM P fs.toList 0 then ZyW (ZiN P fs.toList) cs else false
def ZBv (P:Program) (n:Nat) (e:TypeId) (cs:List Value):Bool :=
  bif Nat.beq n 2 then (bif Zn7 (P.underlying e) then (match P.info? e with
    | some i=>bif Nat.beq i.size 1 then ZyW [(P.underlying e).getD .bool,(P.underlying e).getD .bool] cs else false
    | none=>false) else false) else false
def Ztl (P:Program) (a:TypeId) (d:TypeDesc) (h:Zc) (m:Option Nat) (k:Value) (K:Option Value->Prop):Prop :=
  match d,k with
  | .struct fs,.agg cs=>bif ZBu P a fs cs.toList then Ztm (ZiN P fs.toList) h m cs.toList K else False
  | .array n e,.agg cs=>bif ZBv P n e cs.toList then Ztm [(P.underlying e).getD .bool,(P.underlying e).getD .bool] h m cs.toList K else False
  | d,k=>bif ZyX d k then ZuD d h m k K else False
def Zqp (P:Program) (a:TypeId) (d:TypeDesc) (h:Zc) (m:Option Nat) (k v:Value) (K:Zc->Prop):Prop :=
  match d,k with
  | .struct fs,.agg cs=>bif ZBu P a fs cs.toList then Ztk (ZiN P fs.toList) h m cs.toList v K else False
  | .array n e,.agg cs=>bif ZBv P n e cs.toList then Ztk [(P.underlying e).getD .bool,(P.underlying e).getD .bool] h m cs.toList v K else False
  | d,k=>bif ZyX d k then Xu d h m k v K else False
def Zvk (d:Option TypeDesc) (v:Value) (K:EV->Prop):Prop :=
  match d with
  | some (.int k)=>asI v k fun x=>K (.val (.int k x))
  | some .bool=>asB v fun x=>K (.val (.bool x))
  | some .string=>asS v fun x=>K (.val (.string x))
  | some (.pointer _)=>asP v fun x=>K (.val (.pointer x))
  | some (.slice _)=>asL v fun x=>K (.val (.slice x.ptr x.len x.cap))
  | some (.map _ _)=>asM v fun x=>K (.val (.map x))
  | some (.struct _) | some (.array _ _) | none=>False
  | some _=>K (.val v)
def ZGS:Option TypeDesc->Leaf
  | some (.int k)=> .I k | some .bool=> .B | some .string=> .S | some (.pointer _)=> .P | some (.slice _)=> .L | some (.map _ _)=> .M | _=> .V
def ZFI (P:Program) (t:TypeId) (v:Value) (K:EV->Prop):Prop :=
  bif Zca (P.underlying t) then exG v (fun r:Tup ((ZfE P 8 t).map ZGS)=> .agg (Tup.vals _ r).toArray) (fun r=>K (.val (.agg (Tup.vals _ r).toArray)))
  else Zvk (P.underlying t) v K
def ZD8 (P:Program) (t:TypeId):Option Value:=match P.info? t with
  | some i=>i.zero
  | none=>none
def ZhO:Option TypeDesc->Bool
  | some (.interface _)=>true
  | none=>true
  | _=>false
def Zjp (P:Program) (ts:Array TypeId):Bool:=match ts[0]? with
  | some t=>match P.underlying t with
    | some (.map _ _)=>true
    | _=>false
  | none=>false
def Zob (c:Cfg) (o:Op) (ρ:Env) (h:Zc) (K:EV->Zc->Prop):Prop :=
  match o with
  | .call ⟨.builtin .len,args,ts⟩ =>
    match ts[0]?,evs ρ args.toList with
    | some t,some [v]=>match c.P.underlying t,v with
      | some .string,.val (.string s)=>K (.val (.int .i64 s.size)) h
      | some (.slice _),.val (.slice _ n _)=>K (.val (.int .i64 n)) h
      | some (.array n _),_=>K (.val (.int .i64 n)) h
      | some (.map _ _),.val (.map m)=>ZPG h m fun n=>K (.val (.int .i64 n)) h
      | _,_=>False
    | _,_=>False
  | .call ⟨.builtin .cap,args,ts⟩ =>
    match ts[0]?,evs ρ args.toList with
    | some t,some [v]=>match c.P.underlying t,v with
      | some (.slice _),.val (.slice _ _ n)=>K (.val (.int .i64 n)) h
      | _,_=>False
    | _,_=>False
  | .call ⟨.builtin .min,args,_⟩ =>
    match evs ρ args.toList with
    | some [.val (.int k x),.val (.int _ y)]=>K (.val (.int k (ZNA x y))) h
    | _=>False
  | .call ⟨.builtin .max,args,_⟩ =>
    match evs ρ args.toList with
    | some [.val (.int k x),.val (.int _ y)]=>K (.val (.int k (ZCm x y))) h
    | _=>False
  | .call ⟨.builtin .append,args,ts⟩ =>
    match ts[0]?,(match ts[1]? with | none=>false | some t=>match c.P.underlying t with | some (.int _)=>true | some _=>false | none=>true) with
    | some t,false=>match c.P.underlying t with
      | some (.slice e)=>match ZsZ c.P e,Zlz c.P e,evs ρ args.toList with
        | some (size,bytes),some zs,some [.val (.slice p n m),.val (.slice g a i)] =>
          rdS ⟨g,a,i⟩ size h fun new=>app e size bytes zs ⟨p,n,m⟩ a new h fun s h'=>K (.val (.slice s.ptr s.len s.cap)) h'
        | some (size,bytes),some zs,some [.val (.slice p n m),.val (.string s)] =>
          app e size bytes zs ⟨p,n,m⟩ s.size (Zbk s) h fun s h'=>K (.val (.slice s.ptr s.len s.cap)) h'
        | _,_,_=>False
      | _=>False
    | _,_=>False
  | .call ⟨.value x,args,_⟩ =>
    match ZNE c.fns x with
    | f::r=>(match ρ.ev x,evs ρ args.toList with
      | some v,some es=>fnP c.calls c.pan v.v es h K (f::r)
      | _,_=>False)
    | [] =>
    match ρ.ev x with
    | some (.val (.func (.func f) ⟨[]⟩ ⟨cs⟩)) =>
      match evs ρ args.toList with
      | some es=>match Zn0 f (ZBJ es cs) c.calls with
        | some ⟨s,t⟩=>s.sem t (fun r h'=>K (ZfU (XB.evs s.res r)) h') c.pan h
        | none=>bif ZFD f c.ext then (match ZBJ es cs with
          | [x]=>ZHc x.v h fun v h'=>K (.val v) h'
          | _=>False) else False
      | none=>False
    | some (.val (.func (.yield l) ⟨[]⟩ ⟨[]⟩)) =>
      match evs ρ args.toList with
      | some es=>c.yld l (es.map EV.v) (fun b h'=>K (.val (.bool b)) h') h
      | none=>False
    | _=>False
  | .call ⟨.builtin .delete,args,ts⟩ =>
    match ts[0]?,evs ρ args.toList with
    | some t,some [.val (.map m),k]=>match c.P.underlying t with
      | some (.map j _)=>match c.P.underlying j with
        | some d=>bif ZyX d k.v then ZCn d h m k.v fun h'=>K (.val (.tuple #[])) h' else False
        | none=>False
      | _=>False
    | _,_=>False
  | .call ⟨.invoke x name,args,_⟩ =>
    match ρ.ev x,evs ρ args.toList with
    | some v,some es=>ZFm c.calls c.pan name v.v es h K c.dyn
    | _,_=>False
  | .call ⟨.builtin .clear,args,ts⟩ =>
    match ts[0]?,evs ρ args.toList with
    | some t,some [.val (.map m)]=>match c.P.underlying t with
      | some (.map _ _)=>ZN6 h m fun h'=>K (.val (.tuple #[])) h'
      | _=>False
    | some t,some [.val (.slice p l m)]=>match c.P.underlying t with
      | some (.slice e)=>match Zlz c.P e with
        | some zs=>ZN5 ⟨p,l,m⟩ zs h fun h'=>K (.val (.tuple #[])) h'
        | none=>False
      | _=>False
    | _,_=>False
  | _=>False
def Zh1 (d:Option TypeDesc) (x y:Value):Option Bool :=
  match d,x,y with
  | some (.int _),.int k a,.int c b=>if k=c then some (a ==b) else none
  | some .string,.string a,.string b=>some (ZcC a b)
  | some .bool,.bool a,.bool b=>some (a ==b)
  | _,_,_=>none
def Zgk (P:Program):List Field->List Value->List Value->Option Bool
  | [],_,_=>some true
  | f::fs,xs,ys =>
    bif f.name == "_" then none else
    match xs[f.offset]?,ys[f.offset]? with
    | some x,some y=>match Zh1 (P.underlying f.type) x y,Zgk P fs xs ys with
      | some a,some r=>some (bif a then r else false)
      | _,_=>none
    | _,_=>none
def ZfN (P:Program):List Field->List Value->List Value->Option Bool
  | [],_,_=>some true
  | f::fs,xs,ys =>
    bif f.name == "_" then none else
    match P.underlying f.type with
    | some (.struct gs) =>
      bif P.stoodInHeld f.type then none else
      bif Nat.ble (f.offset+P.cellsOf f.type) xs.length&&Nat.ble (f.offset+P.cellsOf f.type) ys.length then
        match Zgk P gs.toList ((xs.drop f.offset).take (P.cellsOf f.type)) ((ys.drop f.offset).take (P.cellsOf f.type)),ZfN P fs xs ys with
        | some a,some r=>some (bif a then r else false)
        | _,_=>none
      else none
    | u=>match xs[f.offset]?,ys[f.offset]? with
      | some x,some y=>match Zh1 u x y,ZfN P fs xs ys with
        | some a,some r=>some (bif a then r else false)
        | _,_=>none
      | _,_=>none
def eqS (P:Program) (t:TypeId) (fs:Array Field) (x y:EV) (K:Bool->Prop):Prop :=
  match x,y with
  | .val (.agg xs),.val (.agg ys)=>bif P.stoodInHeld t||P.eqGuardType P.depth t then False else
    match ZfN P fs.toList xs.toList ys.toList with
    | some b=>K b
    | none=>False
  | _,_=>False
def opP (c:Cfg) (o:Op) (ρ:Env) (h:Zc) (K:EV->Zc->Prop):Prop :=
  match o with
  | .move x=>match ρ.ev x with
    | some v=>K v h
    | none=>False
  | .assign x=>match ρ.ev x with
    | some (.val (.int k n))=>Zi n fun n=>K (.val (.int k n)) h
    | some (.val (.bool b))=>Yq b fun b=>K (.val (.bool b)) h
    | some v=>K v h
    | none=>False
  | .pick x a b=>match ρ.ev x,ρ.ev a,ρ.ev b with
    | some (.lit true),some a,_=>K a h
    | some (.lit false),_,some b=>K b h
    | some (.val (.bool x)),some a,some b=>match a.v,b.v with
      | .bool a,.bool b=>K (.val (.bool (bif x then a else b))) h
      | _,_=>False
    | _,_,_=>False
  | .alloc e=>match Zlz c.P e with
    | some zs=>newC h zs e fun b h'=>K (.adr b 0) h'
    | none=>False
  | .box e x=>match ρ.ev x with
    | some v=>bif Zy0 (c.P.underlying e) then Y9 (Ye v.v=true) (newC h [v.v] e fun b h'=>K (.adr b 0) h') else newC h (ZkB v) e fun b h'=>K (.adr b 0) h'
    | none=>False
  | .build t parts=>match c.P.underlying t,Zlz c.P t with
    | some (.struct fs),some zs=>match ZmJ c.P fs.toList ρ zs.length parts.toList with
      | some l=>bif fs.toList.all fun f=>(c.P.info? f.type).isSome then ZEF (Zre c.P fs.toList ρ parts.toList) (K (.val (.agg (Zf1 zs l).toArray)) h) else False
      | none=>False
    | some (.array _ e),some zs=>match Zk4 (c.P.cellsOf e) ρ zs.length parts.toList with
      | some l=>bif (c.P.info? e).isSome then K (.val (.agg (Zf1 zs l).toArray)) h else False
      | none=>False
    | _,_=>False
  | .buildSlice t n parts=>match c.P.underlying t with
    | some (.slice e)=>match Zlz c.P e,Zk4 (c.P.cellsOf e) ρ (n*c.P.cellsOf e) parts.toList with
      | some zs,some l=>bif Nat.ble (n*c.P.cellsOf e) ZkC then
          (bif Nat.beq zs.length (c.P.cellsOf e) then
            newC h (Zf1 (Zbl zs n) l) e fun b h'=>K (.val (.slice (some ⟨b,0,none⟩) n n)) h' else False) else False
      | _,_=>False
    | _=>False
  | .load t a=>match ρ.ev a with
    | some x=>atP x fun b o=>ldT c.P t h b o fun v=>K v h
    | none=>False
  | .store t a x=>match ρ.ev a,ρ.ev x with
    | some a,some x=>atP a fun b o=>stT c.P t h b o x fun h'=>K (.val undef) h'
    | _,_=>False
  | .nilCheck x=>match ρ.ev x with
    | some x=>atP x fun b o=>K (.adr b o) h
    | none=>False
  | .binOp op t x w _=>match ρ.ev x,ρ.ev w with
    | some x,some y=>match op,c.P.underlying t with
      | .eql,some (.int _) | .eql,some .string=>ZCA op x y fun v=>K v h
      | .neq,some (.int _) | .neq,some .string=>ZCA op x y fun v=>K v h
      | .eql,some (.struct fs)=>eqS c.P t fs x y fun b=>K (.val (.bool b)) h
      | .neq,some (.struct fs)=>eqS c.P t fs x y fun b=>K (.val (.bool (!b))) h
      | .eql,some (.interface _)=>match w with
        | .const .nilIface=>Zo2 x.v fun b=>K (.val (.bool b)) h
        | _=>False
      | .neq,some (.interface _)=>match w with
        | .const .nilIface=>Zo2 x.v fun b=>K (.val (.bool (!b))) h
        | _=>False
      | .eql,some (.func _ _ _)=>match w with
        | .const .nilFunc=>ZuI x.v fun b=>K (.val (.bool b)) h
        | _=>False
      | .neq,some (.func _ _ _)=>match w with
        | .const .nilFunc=>ZuI x.v fun b=>K (.val (.bool (!b))) h
        | _=>False
      | .eql,d=>eqP d false x y fun v=>K v h
      | .neq,d=>eqP d true x y fun v=>K v h
      | _,_=>ZCA op x y fun v=>K v h
    | _,_=>False
  | .unOp op _ x=>match op,ρ.ev x with
    | .not,some (.lit b)=>K (.lit (!b)) h
    | .not,some (.val (.bool b))=>K (.val (.bool (!b))) h
    | .neg,some (.val (.int k n))=>K (.val (.int k (k.wrap (0 - n)))) h
    | _,_=>False
  | .convert s d x=>match c.P.underlying s,c.P.underlying d,ρ.ev x with
    | some (.int _),some (.int k),some (.val (.int _ n))=>K (.val (.int k (k.wrap n))) h
    | some .string,some .string,some (.val (.string s))=>K (.val (.string s)) h
    | some .string,some (.slice e),some (.val (.string s))=>match c.P.underlying e with
      | some (.int .u8)=>s2b e s h fun x h'=>K (.val (.slice x.ptr x.len x.cap)) h'
      | _=>False
    | some (.slice e),some .string,some (.val (.slice p l m))=>match c.P.underlying e with
      | some (.int .u8)=>b2s ⟨p,l,m⟩ h fun s=>K (.val (.string s)) h
      | _=>False
    | some (.slice _),some (.slice e),some (.val (.slice p l m))=>match c.P.underlying e with
      | some (.int .u8)=>bif Nat.beq s d then ZNB p h fun h'=>K (.val (.slice p l m)) h' else False
      | _=>False
    | _,_,_=>False
  | .makeSlice t l m=>match c.P.underlying t,ρ.ev l,ρ.ev m with
    | some (.slice e),some (.val (.int _ l)),some (.val (.int _ m))=>match ZsZ c.P e,Zlz c.P e with
      | some (size,bytes),some zs=>bif Nat.beq zs.length size then mkS e bytes zs l m h fun s h'=>K (.val (.slice s.ptr s.len s.cap)) h' else False
      | _,_=>False
    | _,_,_=>False
  | .slice t x q A B=>match c.P.underlying t,ρ.ev x with
    | some .string,some (.val (.string s))=>match B,ZCe 0 (q.map ρ.ev),ZCe s.size (A.map ρ.ev) with
      | none,some q,some A=>ZAM s q A fun s=>K (.val (.string s)) h
      | _,_,_=>False
    | some (.slice e),some (.val (.slice p l m))=>match ZCe 0 (q.map ρ.ev),ZCe l (A.map ρ.ev),ZCe m (B.map ρ.ev),ZsZ c.P e with
      | some q,some up,some most,some (size,_)=>bif A.isNone&&B.isSome then False else slc p m size q up most fun s=>K (.val (.slice s.ptr s.len s.cap)) h
      | _,_,_,_=>False
    | _,_=>False
  | .fieldAddr s x f=>match c.P.underlying s,ρ.ev x with
    | some (.struct fs),some x=>match fs.toList[f]? with
      | some fd=>bif Nat.beq (c.P.cellsOf fd.type) 0 then False else atP x fun b o=>K (.adr b (ZHo o fd.offset)) h
      | none=>False
    | _,_=>False
  | .field s x f=>match c.P.underlying s,ρ.ev x with
    | some (.struct fs),some (.val (.agg cs))=>match fs.toList[f]? with
      | some fd=>bif (c.P.underlying fd.type).isNone then False else bif Zca (c.P.underlying fd.type) then K (.val (.agg ((cs.toList.drop fd.offset).take (c.P.cellsOf fd.type)).toArray)) h
        else match cs.toList[fd.offset]? with
          | some v=>K (.val v) h
          | none=>False
      | none=>False
    | _,_=>False
  | .indexAddr t x i=>match c.P.underlying t,ρ.ev x,ρ.ev i with
    | some (.slice e),some (.val (.slice p l _)),some (.val (.int _ i))=>match ZsZ c.P e with
      | some (size,_)=>Zdb p l i size fun b o=>K (.adr b o) h
      | none=>False
    | some (.array n e),some x,some (.val (.int _ i))=>match ZsZ c.P e with
      | some (size,_)=>atP x fun b o=>ZCs n i fun j=>K (.adr b (o+j*size)) h
      | none=>False
    | _,_,_=>False
  | .index t x i=>match c.P.underlying t,ρ.ev x,ρ.ev i with
    | some .string,some (.val (.string s)),some (.val (.int _ i))=>ZwE s i fun n=>K (.val (.int .u8 n)) h
    | some (.array n e),some (.val (.agg cs)),some (.val (.int _ i))=>match c.P.underlying e with
      | some (.struct _)=>bif Nat.beq cs.toList.length (n*c.P.cellsOf e) then ZCs n i fun j=>ZFI c.P e (.agg ⟨(cs.toList.drop (j*c.P.cellsOf e)).take (c.P.cellsOf e)⟩) fun v=>K v h else False
      | _=>False
    | _,_,_=>False
  | .extract x i=>match ρ.ev x with
    | some (.more _ _)=>bif Nat.beq i 0 then K (.lit true) h else False
    | some .over=>bif Nat.beq i 0 then K (.lit false) h else False
    | some (.val (.tuple vs))=>match vs.toList[i]? with
      | some v=>K (.val v) h
      | none=>False
    | _=>False
  | .call _=>Zob c o ρ h K
  | .panic x=>match ρ.ev x with
    | some (.val (.iface t v))=>c.pan (.iface t v) h
    | _=>False
  | .makeFunc (.func f) first caps=>match first.toList,evs ρ caps.toList with
    | [],some es=>K (.val (.func (.func f) ⟨[]⟩ ⟨es.map EV.v⟩)) h
    | _,_=>False
  | .makeMap _ none=>Zjn h fun b h'=>K (.val (.map (some b))) h'
  | .lookup t x i ok=>match c.P.underlying t,ρ.ev x,ρ.ev i with
    | some (.map g et),some (.val (.map m)),some k=>match c.P.underlying g,ZD8 c.P et with
      | some d,some z=>Ztl c.P g d h m k.v fun r=>ZFI c.P et (r.getD z) fun v=>K (bif ok then .val (.tuple #[v.v,.bool r.isSome]) else v) h
      | _,_=>False
    | _,_,_=>False
  | .mapUpdate t m k x=>match c.P.underlying t,ρ.ev m,ρ.ev k,ρ.ev x with
    | some (.map g _),some (.val (.map m)),some k,some x=>match c.P.underlying g with
      | some d=>Zqp c.P g d h m k.v x.v fun h'=>K (.val undef) h'
      | none=>False
    | _,_,_,_=>False
  | .insert t m k x=>match c.P.underlying t,ρ.ev m,ρ.ev k,ρ.ev x with
    | some (.map g _),some (.val (.map m)),some k,some x=>match c.P.underlying g with
      | some d=>Zqp c.P g d h m k.v x.v fun h'=>K (.val undef) h'
      | none=>False
    | _,_,_,_=>False
  | .range t x=>match c.P.underlying t,ρ.ev x with
    | some (.map _ _),some (.val (.map m))=>rgM h m fun b h'=>K (.itr t b) h'
    | _,_=>False
  | .next x false=>match ρ.ev x with
    | some (.itr _ b)=>ZNx h b (fun k v h'=>K (.more k v) h') (K .over h)
    | _=>False
  | .entry x=>match ρ.ev x with
    | some (.itr t b)=>match c.P.underlying t with
      | some (.map g et)=>ZPM h b fun k v=>ZFI c.P g k fun C=>ZFI c.P et v fun v'=>K (.val (.tuple #[C.v,v'.v])) h
      | _=>False
    | _=>False
  | .makeInterface t x=>match ρ.ev x with
    | some v=>bif ZhO (c.P.underlying t) then False else K (.val (.iface t v.v)) h
    | none=>False
  | .typeAssert x _ t ok=>match ρ.ev x with
    | some v=>bif ZhO (c.P.underlying t) then False else bif ok then (match v with
      | .val (.iface D u)=>bif Nat.beq D t then K (.val (.tuple #[u,.bool true])) h else False
      | _=>False) else asT v.v t fun y=>Zvk (c.P.underlying t) y fun u=>K u h
    | none=>False
  | _=>False
def Zsy (n:Nat) (e:Env) (d:Option Tmp) (v:EV) (K:Env->Prop):Prop :=
  match d with
  | none=>K e
  | some d=>bif Nat.blt d n then K (e.set d v) else False
def opQ (c:Cfg) (o:Oper) (e:Env) (h:Zc) (K:EV->Zc->Prop):Prop :=
  match o.op with
  | .assign x=>bif Zy0 (c.P.underlying o.type) then (match e.ev x with
    | some v=>K v h
    | none=>False) else opP c (.assign x) e h K
  | op=>opP c op e h K
def ZGH (c:Cfg) (o:Oper) (e:Env) (h:Zc) (K:Env->Zc->Prop):Prop :=
  opQ c o e h fun v h'=>Zsy c.n e o.dst v fun a=>K a h'
def Zoz (c:Cfg) (o:Oper) (e:Env) (h:Zc) (K:Env->Zc->Prop):Prop :=
  Zsy c.n e o.dst (.val undef) fun a=>K a h
def XM (ops:List Oper) (j:Nat):Option Tmp:=(ops[j]?).bind (·.dst)
def Zfw (c:Cfg) (one:Oper->Env->Zc->(Env->Zc->Prop)->Prop) (all:List Oper):List Oper->Env->Zc->(Env->Zc->Prop)->Prop
  | [],e,h,K=>K e h
  | o::os,e,h,K =>
    match o.guard with
    | none=>one o e h fun a h'=>Zfw c one all os a h' K
    | some (j,want) =>
      match XM all j with
      | none=>Zoz c o e h fun a h'=>Zfw c one all os a h' K
      | some t =>
        match e t with
        | some (.lit b) =>
          match b,want with
          | true,true | false,false=>one o e h fun a h'=>Zfw c one all os a h' K
          | true,false | false,true=>Zoz c o e h fun a h'=>Zfw c one all os a h' K
        | some (.val (.bool b)) =>
          match want with
          | true=>Zy b (one o (e.set t (.lit true)) h fun a h'=>Zfw c one all os a h' K) (Zoz c o (e.set t (.lit false)) h fun a h'=>Zfw c one all os a h' K)
          | false=>Zy b (Zoz c o (e.set t (.lit true)) h fun a h'=>Zfw c one all os a h' K) (one o (e.set t (.lit false)) h fun a h'=>Zfw c one all os a h' K)
        | some _=>Zoz c o e h fun a h'=>Zfw c one all os a h' K
        | none=>False
def Zuq (c:Cfg) (o:Op) (ρ:Env) (h:Zc) (K:EV->Zc->Prop):Prop :=
  match o with
  | .move _ | .assign _ | .pick _ _ _ | .load _ _ | .nilCheck _ | .binOp _ _ _ _ _ | .unOp _ _ _ | .slice _ _ _ _ _ | .fieldAddr _ _ _ | .field _ _ _ | .indexAddr _ _ _ | .index _ _ _ | .extract _ _ | .build _ _ | .makeFunc _ _ _=>opP c o ρ h K
  | .convert s d _=>match c.P.underlying s,c.P.underlying d with
    | some (.int _),some (.int _)=>opP c o ρ h K
    | _,_=>False
  | .call ⟨.builtin .len,_,_⟩ | .call ⟨.builtin .cap,_,_⟩ | .call ⟨.builtin .min,_,_⟩ | .call ⟨.builtin .max,_,_⟩=>opP c o ρ h K
  | .call ⟨.value (.func f),args,_⟩ =>
    match evs ρ args.toList with
    | some es=>match Zn0 f es c.calls with
      | some ⟨s,t⟩=>ZvX (fun a h'=>s.sem t a (fun _ _=>False) h') h fun r=>K (ZfU (XB.evs s.res r)) h
      | none=>False
    | none=>False
  | _=>False
def Zye (c:Cfg) (o:Oper) (e:Env) (h:Zc) (K:Env->Zc->Prop):Prop :=
  Zuq c o.op e h fun v h'=>Zsy c.n e o.dst v fun a=>K a h'
def Zg9 (m i:Nat):Bool:=Nat.beq (Nat.land (Nat.shiftRight m i) 1) 1
def Zp0 (m i:Nat):Nat:=Nat.lor m (Nat.shiftLeft 1 i)
def Zpg (m:Nat):List Edge->Bool
  | []=>true
  | e::es=>bif Region.binds .any e then (bif Zg9 m e.on then Zpg m es else false) else Zpg m es
def Zcq (m i:Nat) (o:Oper):Bool:=bif Zg9 m i then false else Zpg m o.after.toList
def Zks (m i:Nat):Nat->List Oper->Bool
  | _,[]=>true
  | k,o::os=>bif Nat.beq k i then Zks m i (k+1) os else bif Zcq m k o then false else Zks m i (k+1) os
def ZfT (i:Nat):List Edge->Bool
  | []=>false
  | e::es=>bif Nat.beq e.on i then (bif Region.binds .any e then true else ZfT i es) else ZfT i es
def Zn5 (ops:Array Oper) (a:Oper) (m i:Nat):Nat->List Oper->Bool
  | _,[]=>true
  | k,o::os=>bif (bif Nat.beq k i then true else bif Zg9 m k then true else bif ZfT i o.after.toList then true else a.apart ops o) then Zn5 ops a m i (k+1) os else false
def ZyE (m:Nat):Nat->List Oper->Bool
  | _,[]=>true
  | k,o::os=>bif Zcq m k o then false else ZyE m (k+1) os
abbrev Zgp:=List (Nat × (Zc->Prop))
def Zsi (o:Oper):Zgp->Zgp
  | []=>[]
  | x::r=>bif ZfT x.1 o.after.toList then Zsi o r else x::Zsi o r
def Zr3 (h:Zc):Zgp->Prop->Prop
  | [],K=>K
  | x::r,K=>x.2 h/\Zr3 h r K
def ZoQ (m i j:Nat):Nat->List Oper->Bool
  | _,[]=>true
  | k,o::os=>bif Nat.beq k i||Nat.beq k j then ZoQ m i j (k+1) os else bif Zcq m k o then false else ZoQ m i j (k+1) os
def Zsv (b o:Nat):Nat->List Value->List (Nat × Nat × Value)
  | _,[]=>[]
  | i,v::vs=>(b,ZHo o i,v)::Zsv b o (i+1) vs
def ldH (P:Program) (t:TypeId) (h:Zc) (b o:Nat) (K:EV->List (Nat × Nat × Value)->Prop):Prop :=
  bif Zca (P.underlying t) then
    (bif Nat.beq (ZfE P 8 t).length (P.cellsOf t) then ZBd h b o 0 (ZfE P 8 t) fun vs=>K (.val (.agg vs.toArray)) (Zsv b o 0 vs) else False)
  else ZmZ (P.underlying t) h b o fun v=>K v [(b,o,v.v)]
inductive OpK where
  | pure | load (t:TypeId) (x:Operand) | text (x:Operand) | other
def Zfx (c:Cfg):Op->OpK
  | .move _ | .assign _ | .pick _ _ _ | .nilCheck _ | .binOp _ _ _ _ _ | .unOp _ _ _ | .slice _ _ _ _ _ | .fieldAddr _ _ _ | .field _ _ _ | .indexAddr _ _ _ | .index _ _ _ | .extract _ _ | .build _ _ | .makeFunc _ _ _=> .pure
  | .convert s d x=>match c.P.underlying s,c.P.underlying d with
    | some (.int _),some (.int _)=> .pure
    | some (.slice e),some .string=>match c.P.underlying e with
      | some (.int .u8)=> .text x
      | _=> .other
    | _,_=> .other
  | .call ⟨.builtin .len,_,ts⟩=>bif Zjp c.P ts then .other else .pure
  | .call ⟨.builtin .cap,_,_⟩ | .call ⟨.builtin .min,_,_⟩ | .call ⟨.builtin .max,_,_⟩=> .pure
  | .load t x=> .load t x
  | _=> .other
def Znb (all:List Oper) (o:Oper) (e:Env) (A B:Env->Prop):Prop :=
  match o.guard with
  | none=>A e
  | some (j,want) =>
    match XM all j with
    | none=>B e
    | some t =>
      match e t with
      | some (.lit b) =>
        match b,want with
        | true,true | false,false=>A e
        | true,false | false,true=>B e
      | some (.val (.bool b)) =>
        match want with
        | true=>Zy b (A (e.set t (.lit true))) (B (e.set t (.lit false)))
        | false=>Zy b (B (e.set t (.lit true))) (A (e.set t (.lit false)))
      | some _=>B e
      | none=>False
def Zcy:List Nat->List EV->Nat->Option EV
  | s::a,v::vs,j=>bif Nat.beq j s then some v else Zcy a vs j
  | _,_,_=>none
def ZrV:List (Nat × Nat)->Nat->Bool
  | [],_=>false
  | (a,b)::r,j=>bif Nat.ble a j&&Nat.ble j b then true else ZrV r j
def ZbY:List Nat->Nat->Bool
  | [],_=>false
  | s::a,j=>bif Nat.beq j s then true else ZbY a j
def Zn8 (a:List Nat) (vs:List EV) (kill:List (Nat × Nat)) (e:Env):Env:=⟨fun j =>
  match Zcy a vs j with
  | some v=>some v
  | none=>bif ZrV kill j then none else e.f j,e.mD⟩
def Zsk (L:List Nat):List Edge->List Nat
  | []=>[]
  | e::es=>bif Region.binds .any e then (bif ZbY L e.on then e.on::Zsk L es else Zsk L es) else Zsk L es
def ZmS (d:Nat->Bool):List Nat->Prop->Prop
  | [],K=>K
  | i::is,K=>d i=true->ZmS d is K
def ZHv (ops:Array Oper) (L:List Nat) (d:Nat->Bool) (f:Nat->Oper->Prop):List Nat->Prop
  | []=>True
  | k::a=>(match ops[k]? with
    | some o=>d k=false->ZmS d (Zsk L o.after.toList) (f k o)
    | none=>False)/\ZHv ops L d f a
def ZiP (m:Nat) (E:List Nat):List Edge->Bool
  | []=>true
  | e::es=>bif Region.binds .any e then (bif Zg9 m e.on then ZiP m E es else bif ZbY E e.on then ZiP m E es else false) else ZiP m E es
def Zrj (ops:Array Oper) (m:Nat):List Nat->List Nat->Bool
  | _,[]=>true
  | E,k::a=>match ops[k]? with
    | some o=>bif Zg9 m k then false else bif ZbY E k then false else bif o.guard.isNone then (bif ZiP m E o.after.toList then Zrj ops m (k::E) a else false) else false
    | none=>false
def ZeS (m:Nat) (L:List Nat):List Edge->Bool
  | []=>false
  | e::es=>bif Region.binds .any e then (bif Zg9 m e.on then ZeS m L es else bif ZbY L e.on then ZeS m L es else true) else ZeS m L es
def ZiV (es:List Edge):List Nat->Bool
  | []=>true
  | k::a=>bif ZfT k es then ZiV es a else false
def ZGF (m:Nat) (L:List Nat):Nat->List Oper->Bool
  | _,[]=>true
  | k,o::os=>bif (bif Zg9 m k then true else bif ZbY L k then true else bif ZeS m L o.after.toList then true else ZiV o.after.toList L) then ZGF m L (k+1) os else false
def Zqj (j k:Nat):Nat->List Oper->Bool
  | _,[]=>true
  | i,o::os=>bif Nat.beq i k then Zqj j k (i+1) os else match o.dst with
    | some x=>bif Nat.beq x j then false else Zqj j k (i+1) os
    | none=>Zqj j k (i+1) os
def ZsT (ops:List Oper) (a:List Nat):List Nat->Bool
  | []=>true
  | k::b=>match XM ops k with
    | some j=>bif ZbY a j then (bif Zqj j k 0 ops then ZsT ops a b else false) else false
    | none=>ZsT ops a b
def Ztx (ops:List Oper) (j:Nat):List Nat->Bool
  | []=>false
  | k::a=>match XM ops k with
    | some x=>bif Nat.beq x j then true else Ztx ops j a
    | none=>Ztx ops j a
def Zoy (ops:List Oper) (L:List Nat):List Nat->Bool
  | []=>true
  | j::a=>bif Ztx ops j L then Zoy ops L a else false
def ZET (ops:Array Oper) (m:Nat) (L:List Nat) (a:List Nat):Bool :=
  bif Zrj ops m [] L then (bif ZGF m L 0 ops.toList then (bif ZsT ops.toList a L then Zoy ops.toList L a else false) else false) else false
def Zlx (ops:List Oper) (j:Nat):List Edge->Bool
  | []=>false
  | e::es=>bif Region.binds .any e then (match XM ops e.on with
    | some x=>bif Nat.beq x j then true else Zlx ops j es
    | none=>Zlx ops j es) else Zlx ops j es
def eAt (ops:List Oper) (after:List Edge) (a:List Nat) (vs:List EV) (e:Env):Env:=⟨fun j=>match Zcy a vs j with
  | some v=>bif Zlx ops j after then some v else none
  | none=>bif ZbY a j then none else e.f j,e.mD⟩
def ZB9:List Nat->Nat->EV->List EV->List EV
  | s::a,j,v,x::xs=>bif Nat.beq j s then v::xs else x::ZB9 a j v xs
  | _,_,_,xs=>xs
inductive OrdT where
  | done | take (i:Nat) (fr:Bool) (r:OrdT) | fork (i:Nat) (r:OrdT) (j:Nat) (s:OrdT) | inv (L slots:List Nat) (tys:List VT) (r:OrdT)
def OrdT.depth:OrdT->Nat
  | .done=>0
  | .take _ _ r=>r.depth+1
  | .fork _ r _ s=>Nat.max r.depth s.depth+1
  | .inv L _ _ r=>r.depth+L.length
def ZFl (c:Cfg) (ops:Array Oper) (o:Oper) (hd:Zgp) (e:Env) (h:Zc) (rest:Zgp->Env->Zc->Prop):Prop :=
  Znb ops.toList o e (fun e=>opP c o.op e h fun v h'=>Zsy c.n e o.dst v fun a=>Zr3 h' (Zsi o hd) (rest (Zsi o hd) a h'))
   (fun e=>Zsy c.n e o.dst (.val undef) fun a=>rest hd a h)
def ZG7 (c:Cfg) (ops:Array Oper) (o:Oper) (hd:Zgp) (e:Env) (h:Zc) (rest:Zgp->Env->Zc->Prop):Prop :=
  Znb ops.toList o e (fun e=>opP c o.op e h fun v _=>Zsy c.n e o.dst v fun a=>rest hd a h)
   (fun e=>Zsy c.n e o.dst (.val undef) fun a=>rest hd a h)
def ZEl (c:Cfg) (ops:Array Oper) (o:Oper) (m i:Nat) (fr:Bool):Bool :=
  bif Zcq m i o then (match Zfx c o.op with
    | .other=>Zks m i 0 ops.toList
    | _=>bif fr then Zn5 ops o m i 0 ops.toList else Zks m i 0 ops.toList) else false
def Zqg (c:Cfg) (ops:Array Oper):OrdT->Nat->Bool
  | .done,m=>ZyE m 0 ops.toList
  | .fork i r j s,m =>
    match ops[i]?,ops[j]? with
    | some o,some p=>bif Zcq m i o&&(Zcq m j p&&ZoQ m i j 0 ops.toList) then (bif Zqg c ops r (Zp0 m i) then Zqg c ops s (Zp0 m j) else false) else false
    | _,_=>false
  | .take i fr r,m =>
    match ops[i]? with
    | none=>false
    | some o=>bif ZEl c ops o m i fr then Zqg c ops r (Zp0 m i) else false
  | .inv L a tys r,m=>bif ZET ops m L a&&Nat.beq a.length tys.length then Zqg c ops r (L.foldl Zp0 m) else false
def Zqf (c:Cfg) (ops:Array Oper) (K:Env->Zc->Prop):OrdT->Zgp->Env->Zc->Prop
  | .done,_,e,h=>K e h
  | .fork i r j s,hd,e,h =>
    match ops[i]?,ops[j]? with
    | some o,some p=>Zsx (ZFl c ops o hd e h (Zqf c ops K r)) (ZFl c ops p hd e h (Zqf c ops K s))
    | _,_=>False
  | .inv L a tys r,hd,e,h =>
    Zz6 (fun I d t h'=>ZHv ops L d (fun k o=>opP c o.op (eAt ops.toList o.after.toList a (XB.evs tys t) e) h' fun v f=>Zr3 f (Zsi o hd) (match o.dst with
     | none=>I (XU d k) t f
     | some j=>bif Nat.blt j c.n then (match XB.un tys (ZB9 a j v (XB.evs tys t)) with
       | some m=>I (XU d k) m f
       | none=>False) else False)) L)
     (fun d t h'=>ZmS d L (Zr3 h' hd (Zqf c ops K r hd (Zn8 a (XB.evs tys t) [] e) h'))) h
  | .take i fr r,hd,e,h =>
    match ops[i]? with
    | none=>False
    | some o =>
      match Zfx c o.op with
      | .pure=>ZG7 c ops o hd e h (Zqf c ops K r)
      | .load t x=>bif fr then
          Znb ops.toList o e (fun e=>match e.ev x with
           | some y=>atP y fun b p=>ldH c.P t h b p fun v cells=>Zsy c.n e o.dst v fun g=>Zqf c ops K r ((i,fun h'=>Yb h' cells)::hd) g h
           | none=>False)
           (fun e=>Zsy c.n e o.dst (.val undef) fun g=>Zqf c ops K r hd g h)
        else ZG7 c ops o hd e h (Zqf c ops K r)
      | .text x=>bif fr then
          Znb ops.toList o e (fun e=>match e.ev x with
           | some (.val (.slice p l n))=>b2s ⟨p,l,n⟩ h fun s=>Zsy c.n e o.dst (.val (.string s)) fun g=>Zqf c ops K r ((i,fun h'=>b2s ⟨p,l,n⟩ h' fun s'=>s'=s)::hd) g h
           | _=>False)
           (fun e=>Zsy c.n e o.dst (.val undef) fun g=>Zqf c ops K r hd g h)
        else ZFl c ops o hd e h (Zqf c ops K r)
      | .other=>ZFl c ops o hd e h (Zqf c ops K r)
inductive Ann where
  | leaf
  | seq (a b:Ann)
  | cut (slots:List Nat) (tys:List VT) (kill:List (Nat × Nat)) (a b:Ann)
  | cond (a b:Ann)
  | block (a:Ann)
  | loop (slots:List Nat) (tys:List VT) (kill:List (Nat × Nat)) (a:Ann)
  | order (l:OrdT)
  | range (tys:List VT) (a b:Ann)
inductive Ex where
  | normal | exit (id:Nat) | ret
def ZvS (e:Env):List Nat->Option (List EV)
  | []=>some []
  | s::a=>match e s,ZvS e a with
    | some v,some vs=>some (v::vs)
    | _,_=>none
def Zs6 (a:List Nat) (tys:List VT) (e:Env):Option (XB tys) :=
  match ZvS e a with
  | some es=>XB.un tys es
  | none=>none
def ZyT (a:List Nat) (tys:List VT) (e:Env) (J:XB tys->Zc->Prop) (h:Zc):Prop :=
  match Zs6 a tys e with
  | some t=>J t h
  | none=>False
def mkN:Nat:=4294967291
def dstsOf:Code->List Nat
  | .region _ ops _=>ops.toList.filterMap (·.dst)
  | .seq a b=>dstsOf a++dstsOf b
  | .cond _ a b=>dstsOf a++dstsOf b
  | .block _ a=>dstsOf a
  | .loop a=>dstsOf a
  | .rangeFunc _ _ _ _=>[mkN]
  | _=>[]
def Zu4 (b:List Nat) (kill:List (Nat × Nat)) (a:Code):Bool:=(dstsOf a).all fun j=>bif Nat.beq j mkN then false else ZbY b j||ZrV kill j
def Zft (K:Env->Zc->Prop) (Q:Ex->Env->Zc->Prop):Ex->Env->Zc->Prop
  | .normal,e,h=>K e h
  | .exit id,e,h=>Q (.exit id) e h
  | .ret,e,h=>Q .ret e h
def ZCz (id:Nat) (Q:Ex->Env->Zc->Prop):Ex->Env->Zc->Prop
  | .normal,e,h=>Q .normal e h
  | .exit a,e,h=>bif Nat.beq a id then Q .normal e h else Q (.exit a) e h
  | .ret,e,h=>Q .ret e h
def ZoC (n:Nat) (e:Env):List Tmp->List EV->Option Env
  | [],[]=>some e
  | p::a,v::vs=>bif Nat.blt p n then ZoC n (e.set p v) a vs else none
  | _,_=>none
def ZEY (a:Code):Bool:=ZbY (dstsOf a) mkN
def Zy1:Op->Bool
  | .defer _=>true
  | _=>false
def Zku:List Oper->Bool
  | []=>true
  | o::os=>bif Zy1 o.op then false else Zku os
def Ann.fst:Ann->Ann
  | .seq a _ | .cut _ _ _ a _ | .cond a _ | .block a | .loop _ _ _ a | .range _ a _=>a
  | .leaf | .order _=> .leaf
def Ann.snd:Ann->Ann
  | .seq _ b | .cut _ _ _ _ b | .cond _ b | .range _ _ b=>b
  | _=> .leaf
def ZCc (K:Env->Zc->Prop):Ex->Env->Zc->Prop
  | .normal,e,h=>K e h
  | _,_,_=>False
def ZCb (k:Option Code->Zc->Prop):Ex->Env->Zc->Prop
  | .normal,_,h=>k none h
  | .exit id,_,h=>k (some (.exit id)) h
  | .ret,_,h=>k (some .ret) h
def wpC (c:Cfg):Code->Ann->Env->Zc->(Ex->Env->Zc->Prop)->Prop
  | .skip,_,e,h,Q=>Q .normal e h
  | .region _ ops draw,d,e,h,Q =>
    match draw with
    | true=>match d with
      | .order l=>bif Region.noSelect ops&&(Nat.ble l.depth ops.size&&(Zku ops.toList&&Zqg c ops l 0)) then Zqf c ops (fun j h'=>Q .normal j h') l [] e h else False
      | _=>bif c.rnd.isNone&&Region.lexB .any ops then Zfw c (Zye c) ops.toList ops.toList e h fun j h'=>Q .normal j h' else False
    | false=>Zfw c (ZGH c) ops.toList ops.toList e h fun j h'=>Q .normal j h'
  | .seq a b,d,e,h,Q =>
    match d with
    | .cut i tys kill x y =>
      bif Zu4 i kill a then
        Zgq (fun t h'=>wpC c b y (Zn8 i (XB.evs tys t) kill e) h' Q) (fun J=>wpC c a x e h (Zft (fun j h'=>ZyT i tys j J h') Q))
      else False
    | d=>wpC c a d.fst e h (Zft (fun j h'=>wpC c b d.snd j h' Q) Q)
  | .cond x a b,d,e,h,Q =>
    match e.ev x with
    | some (.lit true)=>wpC c a d.fst e h Q
    | some (.lit false)=>wpC c b d.snd e h Q
    | some (.val (.bool v))=>Zy v (wpC c a d.fst e h Q) (wpC c b d.snd e h Q)
    | _=>False
  | .block id a,d,e,h,Q=>wpC c a d.fst e h (ZCz id Q)
  | .loop a,d,e,h,Q =>
    match d with
    | .loop i tys kill x =>
      bif Zu4 i kill a then
        match Zs6 i tys e with
        | some t0=>Zau (fun J t h'=>wpC c a x (Zn8 i (XB.evs tys t) kill e) h' (Zft (fun j m=>ZyT i tys j J m) Q)) t0 h
        | none=>False
      else False
    | _=>False
  | .exit id,_,e,h,Q=>Q (.exit id) e h
  | .ret,_,e,h,Q=>Q .ret e h
  | .rangeFunc g o assign body,d,e,h,Q =>
    match d with
    | .range tys x y=>bif c.rnd.isNone&&e.mD.isNo then
      (match e.ev g with
      | some (.val (.func (.func f) ⟨[]⟩ ⟨cs⟩))=>match Zv1 f (cs.map EV.val) c.iters with
        | some ⟨s,t⟩ =>
          ZGB o.size (fun Y l K h'=>s.sem Y l t K h')
           (fun l r vs h' k=>ZHm (fun a:XB tys=>(XB.evs tys a).map EV.v) vs fun a=>match ZoC c.n ⟨e.f,.no⟩ o.toList (XB.evs tys a) with
             | some q=>wpC { c with rnd:=some l,pan:=fun _ _=>False } assign x q h' (ZCc fun u w =>
                 ZHg r l w fun z=>wpC { c with rnd:=some l,pan:=fun _ _=>False } body y u z (ZCb k))
             | none=>False)
           h fun p D h'=>ZGY p (Q .normal ⟨e.f,.at_ D⟩ h') (fun id=>Q (.exit id) ⟨e.f,.at_ D⟩ h') (Q .ret ⟨e.f,.at_ D⟩ h')
        | none=>False
      | _=>False)
      else False
    | _=>False
  | _,_,_,_,_=>False
def ZwD (c:Cfg) (e:Env) (h:Zc):List ResultVar->(List EV->Prop)->Prop
  | [],K=>K []
  | .tmp t::r,K=>match e.f t with
    | some v=>ZwD c e h r fun vs=>K (v::vs)
    | none=>False
  | .cell a t::r,K=>match e.f a with
    | some (.adr b o)=>ldT c.P t h b o fun v=>ZwD c e h r fun vs=>K (v::vs)
    | _=>False
def Zj5 (l:List EV):Env:=⟨fun j=>go l 0 j,.no⟩
where go:List EV->Nat->Nat->Option EV
  | [],_,_=>none
  | v::vs,i,j=>bif Nat.beq j i then some v else go vs (i+1) j
def ZHw (c:Cfg) (fn:Func) (a:Ann) (args:List EV) (res:List VT) (K:XB res->Zc->Prop) (b:Value->Zc->Prop) (h:Zc):Prop :=
  match fn.body with
  | some code=>wpC { c with rnd:=none,pan:=bif ZEY code then fun _ _=>False else b } code a (Zj5 args) h fun ex e h' =>
    match ex with
    | .exit _=>False
    | _=>match e.mD with
      | .no=>ZwD c e h' fn.results.toList fun vs=>match XB.un res vs with
        | some r=>K r h'
        | none=>False
      | .at_ D=>ZGx D h' fun h'=>ZwD c e h' fn.results.toList fun vs=>match XB.un res vs with
        | some r=>K r h'
        | none=>False
      | .raw _=>False
  | none=>False
theorem Zj3 (w:World) (b o:Nat):w.cell? ⟨b,o,none⟩=Zc.cell w.heap b o:=by
  unfold World.cell? Zc.cell
  simp only [Awf,Aqc,if_false]
  cases w.heap[b]? with
  | none=>rfl
  | some x=>cases x<;>rfl
theorem ZE9 (w:World) (b o:Nat):w.frozen? ⟨b,o,none⟩=Zc.froz w.heap b o:=by
  unfold World.frozen? Zc.froz
  rfl
theorem ZoA (w:World) (b o:Nat) (v:Value):w.setCell ⟨b,o,none⟩ v={ w with heap:=Zc.put w.heap b o v }:=by
  unfold World.setCell Zc.put
  simp only [Awf,Aqc,if_false]
  refine congrArg (fun f=>({ w with heap:=w.heap.modify b f }:World)) ?_
  funext x
  cases x<;>rfl
theorem Zly (b o n:Nat):(⟨b,o,none⟩:Addr).add n=⟨b,o+n,none⟩:=by
  unfold Addr.add
  split
  ·rename_i h;subst h;rfl
  ·rfl
theorem ZtP (o i:Nat):ZHo o i=o+i:=by
  unfold ZHo
  cases h:Nat.beq i 0 with
  | false=>rfl
  | true=>have:=Awg h;subst this;rfl
def Same (w w':World):Prop:=w'.tape=w.tape/\w'.os=w.os/\w'.output=w.output
theorem Same.refl (w:World):Same w w:=⟨rfl,rfl,rfl⟩
theorem Same.trans {a b c:World} (h:Same a b) (h':Same b c):Same a c:=⟨h'.1.trans h.1,h'.2.1.trans h.2.1,h'.2.2.trans h.2.2⟩
def ZEJ:Mark->List Deferred
  | .no=>[]
  | .at_ D=>[{ target:= .collected D,args:= #[]}]
  | .raw a=>a
structure Agr (n:Nat) (e:Env) (a:Act):Prop where
  size:a.tmps.size=n
  defers:a.defers=ZEJ e.mD
  val:∀ j v,e j=some v->a.tmps[j]?=some v.v
theorem Agr.ev {n:Nat} {e:Env} {a:Act} (h:Agr n e a) {x:Operand} {v:EV} (b:e.ev x=some v):a.eval x=v.v:=by
  cases x with
  | tmp t=>have:=h.val t v b;simp [Act.eval,this]
  | const c =>
    cases c<;>simp only [Env.ev,Awh] at b<;>subst b<;>rfl
  | global g=>simp only [Env.ev,Awh] at b;subst b;rfl
  | func f=>simp only [Env.ev,Awh] at b;subst b;rfl
theorem Agr.evs {n:Nat} {e:Env} {a:Act} (h:Agr n e a):∀ {xs:List Operand} {vs:List EV},evs e xs=some vs->xs.map a.eval=vs.map EV.v
  | [],vs,b=>by simp only [Fw.evs,Awh] at b;subst b;rfl
  | x::xs,vs,b=>by
    simp only [Fw.evs] at b
    split at b
    ·rename_i v c d f
     simp only [Awh] at b;subst b
     simp [h.ev d,h.evs f]
    ·cases b
theorem Agr.set {n:Nat} {e:Env} {a:Act} (h:Agr n e a) {d:Nat} (hd:Nat.blt d n=true) (v:EV):Agr n (e.set d v) (a.put (some d) v.v):=by
  have f:d<n:=by rw [Nat.blt_eq] at hd;exact hd
  refine ⟨by simp [Act.put,h.size],by simp [Act.put,h.defers,Env.set],fun j u b=>?_⟩
  unfold Env.set at b
  dsimp only at b
  cases c:Nat.beq j d with
  | true =>
    have:=Awg c;subst this
    rw [c] at b
    simp only [cond_true,Awh] at b
    subst b
    simp [Act.put,h.size,f]
  | false =>
    have g:j≠d:=Awi c
    rw [c] at b
    simp only [cond_false] at b
    have:=h.val j u b
    simp [Act.put,Awj (Ne.symm g),this]
theorem Agr.tell {n:Nat} {e:Env} {a:Act} (h:Agr n e a) {t:Nat} {b:Bool} (ht:e t=some (.val (.bool b))):Agr n (e.set t (.lit b)) a:=by
  refine ⟨h.size,h.defers,fun j u c=>?_⟩
  unfold Env.set at c
  dsimp only at c
  cases d:Nat.beq j t with
  | true =>
    have:=Awg d;subst this
    rw [d] at c
    simp only [cond_true,Awh] at c
    subst c
    have:=h.val j _ ht
    exact this
  | false =>
    rw [d] at c
    exact h.val j u c
theorem ZdF {n:Nat} {e:Env} {a:Act} (h:Agr n e a) {d:Option Tmp} {v:EV} {K:Env->Prop} (b:Zsy n e d v K) :
    ∃ f,Agr n f (a.put d v.v)/\K f:=by
  unfold Zsy at b
  cases d with
  | none=>exact ⟨e,h,b⟩
  | some d =>
    simp only at b
    cases c:Nat.blt d n with
    | false=>rw [c] at b;exact b.elim
    | true=>rw [c] at b;exact ⟨_,h.set c v,b⟩
section
variable (P:Program) (w:World)
theorem ZhG {b o:Nat} {v:Value} (h:Zc.cell w.heap b o=some v) (m:Mode):(load ⟨b,o,none⟩ m).run P w = .ok v w:=by
  rw [run_load,Zj3,h]
theorem ZnV {b o:Nat} {u v:Value} (h:Zc.cell w.heap b o=some u) (c:Zc.froz w.heap b o=false) (d:Ye v=true) (m:Mode) :
    (store ⟨b,o,none⟩ v m).run P w = .ok () { w with heap:=Zc.put w.heap b o v }:=by
  have a:v.oneCell'=true:=by cases v<;>first | rfl | (simp [Ye] at d)
  rw [run_store P w _ v m a,Zj3,h,ZE9,c]
  simp only [Aqc,if_false,ZoA]
theorem Zg (t:TypeId) {d:TypeDesc} (h:P.underlying t=some d):(underlying t).run P w = .ok d w:=by
  unfold underlying
  simp [h]
theorem ZbD (t:TypeId) {i:TypeInfo} (h:P.info? t=some i):(typeInfo t).run P w = .ok i w:=by
  unfold typeInfo
  simp [h]
theorem XV (t:TypeId) {i:TypeInfo} (h:P.info? t=some i):(sizeOf t).run P w = .ok i.size w:=by
  unfold sizeOf
  simp [ZbD P w t h]
theorem ZaC (t:TypeId) {i:TypeInfo} {v:Value} (h:P.info? t=some i) (a:i.zero=some v):(zeroValue t).run P w = .ok v w:=by
  unfold zeroValue
  simp [ZbD P w t h,a]
theorem Zba {t:TypeId} {d:TypeDesc} (h:P.underlying t=some d):∃ i,P.info? t=some i:=by
  unfold Program.underlying at h
  cases a:P.info? t with
  | none=>simp [a] at h
  | some i=>exact ⟨i,rfl⟩
theorem Zcb {t:TypeId} {i:TypeInfo} (h:P.info? t=some i):P.cellsOf t=i.size:=by
  unfold Program.cellsOf
  simp [h]
theorem Ze2 (t:TypeId) {d:TypeDesc} (h:P.underlying t=some d):(isAgg t).run P w = .ok (Zca (some d)) w:=by
  unfold isAgg
  simp only [Awk,Zg P w t h,Awl]
  cases d<;>rfl
theorem Zhg (b o:Nat):∀ (vs:List Value) (i:Nat) (acc:Array Value),Zc.has w.heap b (o+i) vs ->
    (loadCellsFrom ⟨b,o,none⟩ i vs.length acc).run P w = .ok (acc++vs.toArray) w
  | [],i,acc,_=>by simp [loadCellsFrom]
  | v::vs,i,acc,h=>by
    have a:Zc.cell w.heap b (o+i)=some v:=h.1
    have c:Zc.has w.heap b (o+i+1) vs:=h.2
    simp only [Aqj,loadCellsFrom,Awk,Zly,ZhG P w a,Awl]
    rw [Zhg b o vs (i+1) _ (by rw [<- Aqh];exact c)]
    simp
theorem Zd8 (b o:Nat) (vs:List Value) (h:Zc.has w.heap b o vs):(loadCells ⟨b,o,none⟩ vs.length).run P w = .ok vs.toArray w:=by
  unfold loadCells
  rw [Zhg P w b o vs 0 #[] (by simpa using h)]
  simp
end
theorem ZtK {h:Zc} {b o a c:Nat} {v:Value} (d:b≠a\/o≠c):(h.put b o v).cell a c=h.cell a c:=by
  unfold Zc.put Zc.cell
  simp only [Aqi]
  by_cases e:b=a
  ·subst e
   have ho:o≠c:=d.resolve_left (fun h=>h rfl)
   simp only [if_true]
   cases f:h[b]? with
   | none=>rfl
   | some x=>cases x<;>simp [Awj ho]
  ·simp [e]
theorem ZBo {h:Zc} {b o a c:Nat} {v:Value}:(h.put b o v).froz a c=h.froz a c:=by
  unfold Zc.put Zc.froz
  simp only [Aqi]
  by_cases d:b=a
  ·subst d
   simp only [if_true]
   cases e:h[b]? with
   | none=>rfl
   | some x=>cases x<;>rfl
  ·simp [d]
theorem ZuU {h:Zc} {b o:Nat} {v:Value}:∀ {n a:Nat},o<a->h.free b a n->(h.put b o v).free b a n
  | 0,_,_,_=>trivial
  | n+1,a,c,d=>by
    obtain ⟨⟨⟨u,hu⟩,e⟩,f⟩:=d
    exact ⟨⟨⟨u,by rw [ZtK (.inr (by omega))];exact hu⟩,by rw [ZBo];exact e⟩,ZuU (by omega) f⟩
theorem ZeU (P:Program) (b o:Nat):∀ (vs:List Value) (i:Nat) (w:World),Zc.free w.heap b (o+i) vs.length->vs.all Ye=true ->
    (storeCells ⟨b,o,none⟩ vs i).run P w = .ok () { w with heap:=Zc.puts w.heap b (o+i) vs }
  | [],i,w,_,_=>rfl
  | v::vs,i,w,c,a=>by
    obtain ⟨⟨⟨u,hu⟩,d⟩,e⟩:=c
    simp only [Awm,Awn] at a
    simp only [storeCells,Awk,Zly,ZnV P w hu d a.1,Awl]
    rw [ZeU P b o vs (i+1) _ (by rw [<- Aqh];exact ZuU (by omega) e) a.2]
    simp [Zc.puts,Aqh]
theorem ZjP {d:Option TypeDesc} {h:Zc} {b o:Nat} {K:EV->Prop} (a:ZmZ d h b o K) :
    ∃ v,h.cell b o=some v.v/\K v/\Zca d=false/\d.isSome=true:=by
  unfold ZmZ at a
  cases d with
  | none=>exact a.elim
  | some d =>
    cases d<;>simp only at a<;>first
      | exact a.elim
      | (obtain ⟨x,c,e⟩:=a;refine ⟨_,?_,e,rfl,rfl⟩;exact c)
theorem Zlb {h:Zc} {b o:Nat}:∀ {c:List (Option TypeDesc)} {i:Nat} {K:List Value->Prop},ZBd h b o i c K ->
    ∃ vs,vs.length=c.length/\h.has b (o+i) vs/\K vs
  | [],i,K,a=>⟨[],rfl,trivial,a⟩
  | d::c,i,K,a=>by
    obtain ⟨v,e,a,_⟩:=ZjP a
    obtain ⟨vs,f,g,a⟩:=Zlb a
    rw [ZtP] at e
    exact ⟨v.v::vs,by simp [f],⟨e,by rw [Aqh];exact g⟩,a⟩
theorem ZuG {P:Program} {t:TypeId} {b o:Nat} {K:EV->Prop} {h:Zc} (a:ldT P t h b o K) :
    ∃ v,(∀ w:World,w.heap=h->(loadVar t ⟨b,o,none⟩).run P w = .ok v.v w)/\K v:=by
  unfold ldT at a
  cases hu:P.underlying t with
  | none=>rw [hu] at a;simp [Zca,ZmZ] at a
  | some d =>
    obtain ⟨i,f⟩:=Zba P hu
    rw [hu] at a
    unfold loadVar
    cases c:Zca (some d) with
    | true =>
      rw [c] at a
      simp only [cond_true] at a
      cases e:Nat.beq (ZfE P 8 t).length (P.cellsOf t) with
      | false=>rw [e] at a;exact a.elim
      | true =>
        rw [e] at a
        obtain ⟨vs,hlen,g,a⟩:=Zlb a
        have j:i.size=vs.length:=by rw [hlen,Awg e,Zcb P f]
        refine ⟨.val (.agg vs.toArray),fun w hw=>?_,a⟩
        subst hw
        simp only [Awk,Ze2 P w t hu,c,Awl,if_true,XV P w t f,j]
        rw [Zd8 P w b o vs (by simpa using g)]
        rfl
    | false =>
      rw [c] at a
      obtain ⟨v,k,a,_⟩:=ZjP a
      refine ⟨v,fun w hw=>?_,a⟩
      subst hw
      simp only [Awk,Ze2 P w t hu,c,Awl,Aqc,if_false]
      exact ZhG P w k _
def ZCd (vs:List VT) (t:XB vs):Value:=(ZfU (XB.evs vs t)).v
def fen (r:Option Nat):Fence:={ fn:=fun _=>True,depth:=none,alive:=false,round:=r }
theorem Zh6 {r:Option Nat} {n:Nat} {P:Program} {f:FuncId} {args:Array Value} {w:World} {R:Ending->World->Prop}:CallsIn (fen r) n P f args w R↔Calls P f args w R :=
  callsIn_wide (n:=n)
def Ze0 (res:List VT) (w:World) (K:XB res->Zc->Prop) (a:Value->Zc->Prop):Ending->World->Prop:=fun e w' =>
  (∃ r,e = .returned (ZCd res r)/\Same w w'/\K r w'.heap)\/(∃ v,e = .panicked [{ v,recovered:=false }]/\Same w w'/\a v w'.heap)
def ZBS (P:Program) (l:Nat) (vs:List Value) (w:World) (k:Bool->Zc->Prop):Prop :=
  ∃ fn tmps assign body,(Instr.yield l vs.toArray).run P w = .ok (.round l fn tmps assign body) w /\
    RoundIn (fen none) 0 P l fn tmps assign body w fun e w'=>∃ b,e = .returned (.bool b)/\Same w w'/\k b w'.heap
def YOK (P:Program) (Y:Yld):Prop:=∀ l vs k w,Y l vs k w.heap->ZBS P l vs w k
structure Zk (P:Program) (f:FuncId) (s:Zd):Prop where
  named:∃ fn,P.funcs[f]?=some fn/\(fn.name == "runtime.NumGoroutine")=false/\fn.body.isNone=false
  calls:∀ (t:XB s.args) (K:XB s.res->Zc->Prop) (Kp:Value->Zc->Prop) (w:World),s.sem t K Kp w.heap ->
    Calls P f ((XB.evs s.args t).map EV.v).toArray w (Ze0 s.res w K Kp)
def ZdH.spec (s:ZdH) (Y:Yld):Zd:=⟨.yl::s.caps,[],fun t K _ h=>s.sem Y t.1 t.2 (fun h'=>K () h') h⟩
def ZzY (P:Program) (f:FuncId) (s:ZdH):Prop:=∀ Y,YOK P Y->Zk P f (s.spec Y)
def ZFy (P:Program) (f:FuncId):Prop:=∀ (t b:Nat) (es:Array MapEntry) (c:Nat) (w:World),w.heap[b]?=some (.map es c) ->
  ∃ w',(callFunc f #[.iface t (.map (some b))]).run P w = .ok (.value (.iface t (.map (some w.heap.size)))) w'/\Same w w'/\w'.heap=w.heap.push (.map es c)
def Zvo (P:Program) (name:String) (t:TypeId) (f:FuncId):Prop:=∀ (v:Value) (w:World),(method (P.types.size+Made.depth) t v name).run P w = .ok (f,v) w
structure Cfg.OK (c:Cfg):Prop where
  calls:∀ x,x∈c.calls->Zk c.P x.1 x.2
  ext:∀ f,f∈c.ext->ZFy c.P f
  dyn:∀ x,x∈c.dyn->Zvo c.P x.1 x.2.1 x.2.2
  iters:∀ x,x∈c.iters->ZzY c.P x.1 x.2
  yld:YOK c.P c.yld
theorem Cfg.OK.at {c:Cfg} (h:c.OK) (r:Option Nat) (p:Value->Zc->Prop):Cfg.OK { c with rnd:=r,pan:=p }:=⟨h.calls,h.ext,h.dyn,h.iters,h.yld⟩
theorem Zr (P:Program):YOK P ZE:=fun _ _ _ _ h=>h.elim
theorem ZmK {f:FuncId} {es:List EV}:∀ {l:List (FuncId × ZdH)} {p:ZzW},Zv1 f es l=some p->(f,p.s)∈l/\XB.un p.s.caps es=some p.t
  | [],p,h=>by simp [Zv1] at h
  | (g,s)::r,p,h=>by
    simp only [Zv1] at h
    cases a:Nat.beq f g with
    | false =>
      rw [a] at h
      have:=ZmK (l:=r) h
      exact ⟨.tail _ this.1,this.2⟩
    | true =>
      rw [a] at h
      have he:=Awg a
      subst he
      simp only [cond_true] at h
      split at h
      ·rename_i t ht
       simp only [Awh] at h
       subst h
       exact ⟨.head _,ht⟩
      ·have:=ZmK (l:=r) h
       exact ⟨.tail _ this.1,this.2⟩
theorem Ziw {f:FuncId} {es:List EV}:∀ {l:List (FuncId × Zd)} {p:ZCD},Zn0 f es l=some p->(f,p.s)∈l/\XB.un p.s.args es=some p.t
  | [],p,h=>by simp [Zn0] at h
  | (g,s)::r,p,h=>by
    simp only [Zn0] at h
    cases a:Nat.beq f g with
    | false =>
      rw [a] at h
      have:=Ziw (l:=r) h
      exact ⟨.tail _ this.1,this.2⟩
    | true =>
      rw [a] at h
      have he:=Awg a
      subst he
      simp only [cond_true] at h
      split at h
      ·rename_i t ht
       simp only [Awh] at h
       subst h
       exact ⟨.head _,ht⟩
      ·have:=Ziw (l:=r) h
       exact ⟨.tail _ this.1,this.2⟩
theorem Zkq {f:FuncId} {es:List EV}:∀ {l:List (FuncId × Zd)} {p:ZqV},ZnZ f es l=some p->(f,(⟨p.a0::p.rest,p.res,p.sem⟩:Zd))∈l/\XB.un p.rest es=some p.t
  | [],p,h=>by simp [ZnZ] at h
  | (g,⟨a0::rest,res,sem⟩)::r,p,h=>by
    simp only [ZnZ] at h
    cases a:Nat.beq f g with
    | false =>
      rw [a] at h
      have:=Zkq (l:=r) h
      exact ⟨.tail _ this.1,this.2⟩
    | true =>
      rw [a] at h
      have he:=Awg a
      subst he
      simp only [cond_true] at h
      split at h
      ·rename_i t ht
       simp only [Awh] at h
       subst h
       exact ⟨.head _,ht⟩
      ·have:=Zkq (l:=r) h
       exact ⟨.tail _ this.1,this.2⟩
  | (g,⟨[],res,sem⟩)::r,p,h=>by
    simp only [ZnZ] at h
    have:=Zkq (l:=r) h
    exact ⟨.tail _ this.1,this.2⟩
theorem Zsg {calls:List (FuncId × Zd)} {b:Value->Zc->Prop} {name:String} {v:Value} {es:List EV} {h:Zc} {K:EV->Zc->Prop}:∀ {l:List (String × TypeId × FuncId)},ZFm calls b name v es h K l ->
    ∃ (t:TypeId) (f:FuncId) (p:ZqV) (x:p.a0.D),(name,t,f)∈l/\v = .iface t (p.a0.ev x).v/\ZnZ f es calls=some p/\p.sem (x,p.t) (fun e h'=>K (ZfU (XB.evs p.res e)) h') b h
  | [],a=>a.elim
  | (n,t,f)::r,a=>by
    have tail:ZFm calls b name v es h K r->∃ (c:TypeId) (d:FuncId) (p:ZqV) (x:p.a0.D),(name,c,d)∈(n,t,f)::r/\v = .iface c (p.a0.ev x).v/\ZnZ d es calls=some p/\p.sem (x,p.t) (fun e h'=>K (ZfU (XB.evs p.res e)) h') b h:=fun i=>by
      obtain ⟨c,d,p,x,j,k,m,o⟩:=Zsg i
      exact ⟨c,d,p,x,.tail _ j,k,m,o⟩
    simp only [ZFm] at a
    cases g:n ==name with
    | false=>rw [g] at a;exact tail a
    | true =>
      rw [g] at a
      have he:n=name:=by simpa using g
      subst he
      simp only [cond_true] at a
      split at a
      ·rename_i p hp
       rcases a with ⟨x,q,a⟩ | a
       ·exact ⟨t,f,p,x,.head _,q,hp,a⟩
       ·exact tail a
      ·exact tail a
theorem ZlX {calls:List (FuncId × Zd)} {d:Value->Zc->Prop} {v:Value} {es:List EV} {h:Zc} {K:EV->Zc->Prop}:∀ {l:List (FuncId × List Leaf)},fnP calls d v es h K l ->
    ∃ (f:FuncId) (cs:List Value) (s:Zd) (t:XB s.args),v = .func (.func f) #[] ⟨cs⟩/\Zn0 f (ZBJ es cs) calls=some ⟨s,t⟩/\s.sem t (fun e h'=>K (ZfU (XB.evs s.res e)) h') d h
  | [],a=>a.elim
  | (f,[])::r,a=>by
    simp only [fnP] at a
    split at a
    ·rename_i s t hp
     rcases a with ⟨b,a⟩ | a
     ·exact ⟨f,[],s,t,b,by simpa [ZBJ] using hp,a⟩
     ·exact ZlX a
    ·exact ZlX a
  | (f,l::ls)::r,a=>by
    simp only [fnP] at a
    rcases a with ⟨c,b,a⟩ | a
    ·split at a
     ·rename_i s t hp
      exact ⟨f,_,s,t,b,hp,a⟩
     ·exact a.elim
    ·exact ZlX a
theorem ZuS {f:FuncId}:∀ {l:List FuncId},ZFD f l=true->f∈l
  | [],h=>by simp [ZFD] at h
  | g::r,h=>by
    simp only [ZFD] at h
    cases a:Nat.beq f g with
    | true=>rw [Awg a];exact .head _
    | false=>rw [a] at h;exact .tail _ (ZuS h)
theorem ZGo {l:Leaf} {v:Value} {x:l.D} (h:l.un v=some x):l.mk x=v:=by
  cases l<;>cases v<;>simp only [Leaf.un] at h<;>first
    | (split at h
       ·simp only [Awh] at h;subst h;rename_i a;subst a;rfl
       ·cases h)
    | (simp only [Awh] at h;subst h;rfl)
    | cases h
theorem ZxH:∀ {ls:List Leaf} {vs:List Value} {t:Tup ls},Tup.un ls vs=some t->Tup.vals ls t=vs
  | [],[],t,_=>rfl
  | [],_::_,t,h=>by simp [Tup.un] at h
  | _::_,[],t,h=>by simp [Tup.un] at h
  | l::ls,v::vs,t,h=>by
    simp only [Tup.un] at h
    split at h
    ·rename_i x c a b
     simp only [Awh] at h
     subst h
     simp only [Tup.vals,ZGo a,ZxH b]
    ·cases h
theorem ZBq {f:FuncId} {e:EV} {x:Unit} (h:fnU f e=some x):(EV.val (.func (.func f) #[] #[])).v=e.v:=by
  unfold fnU at h
  split at h
  ·rename_i g
   cases a:Nat.beq f g with
   | false=>rw [a] at h;cases h
   | true=>rw [Awg a]
  ·cases h
theorem ZzA {f:FuncId} {ls:List Leaf} {e:EV} {x:Tup ls} (h:ZNN f ls e=some x):(EV.val (.func (.func f) #[] ⟨Tup.vals ls x⟩)).v=e.v:=by
  unfold ZNN at h
  split at h
  ·rename_i g cs
   cases a:Nat.beq f g with
   | false=>rw [a] at h;cases h
   | true =>
     rw [a] at h
     rw [Awg a,ZxH (ls:=ls) (vs:=cs) h]
  ·cases h
theorem ZAo {e:EV} {l:Nat} (h:ylU e=some l):(EV.val (.func (.yield l) #[] #[])).v=e.v:=by
  unfold ylU at h
  split at h
  ·simp only [Awh] at h;subst h;rfl
  ·cases h
theorem ZNm {v:VT} {e:EV} {x:v.D} (h:v.un e=some x):(v.ev x).v=e.v:=by
  cases v with
  | one l=>exact ZGo (v:=e.v) h
  | agg ls =>
    cases e with
    | val u =>
      cases u with
      | agg cs =>
        have:=ZxH (ls:=ls) (vs:=cs.toList) h
        show Value.agg (Tup.vals ls x).toArray = .agg cs
        rw [this]
      | _=>simp [VT.un] at h
    | lit b=>simp [VT.un] at h
    | adr b o=>simp [VT.un] at h
    | itr t b=>simp [VT.un] at h
    | more k v=>simp [VT.un] at h
    | over=>simp [VT.un] at h
  | fn f=>exact ZBq h
  | clo f ls=>exact ZzA h
  | yl=>exact ZAo h
theorem ZgM:∀ {vs:List VT} {es:List EV} {t:XB vs},XB.un vs es=some t->(XB.evs vs t).map EV.v=es.map EV.v
  | [],[],t,_=>rfl
  | [],_::_,t,h=>by simp [XB.un] at h
  | _::_,[],t,h=>by simp [XB.un] at h
  | v::vs,e::es,t,h=>by
    simp only [XB.un] at h
    split at h
    ·rename_i x c a b
     simp only [Awh] at h
     subst h
     simp only [XB.evs,Awo,ZNm a,ZgM b]
    ·cases h
theorem ZyD {P:Program} {ρ:Operand->Value} {o:Oper} {w w':World} {n:Next} (a:(execOp ρ o).run P w = .ok n w') (b:∀ d,n≠ .defer d):∀ c,o.op≠ .defer c:=by
  intro c e
  unfold execOp at a
  rw [e] at a
  simp only [Awk] at a
  cases h:(resolve ρ c o.type).run P w with
  | ok d f =>
    rw [h] at a
    simp only [Awl,Awp] at a
    cases a
    exact b _ rfl
  | halt x f =>
    rw [h] at a
    cases a
theorem Zki {P:Program} {r:Option Nat} {ρ:Operand->Value} {o:Oper} {w w':World} {n:Next} (a:(execOp ρ o).run P w = .ok n w') (b:∀ d,n≠ .defer d):(o.semAt r ρ).run P w = .ok n w':=by
  rw [Oper.semAt_eq _ _ _ (ZyD a b)]
  exact a
theorem ZBY {P:Program} {r:Option Nat} {o:Oper} {a:Act} {w w':World} {v:Value} {next:Act->World->Prop} {Q:Exit->Act->World->Prop}
    (b:(execOp a.eval o).run P w = .ok (.value v) w') (c:next (a.put o.dst v) w'):o.wpIn (fen r) 0 P a w next Q:=by
  refine ⟨fun _ _=>trivial,?_⟩
  rw [show (fen r).round=r from rfl,Zki b (fun _ h=>by cases h)]
  exact c
theorem Zpw {P:Program} {r:Option Nat} {o:Oper} {a:Act} {w w':World} {next:Act->World->Prop} {Q:Exit->Act->World->Prop}
    (b:(execOp a.eval o).run P w = .ok .skip w') (c:next (a.put o.dst undef) w'):o.wpIn (fen r) 0 P a w next Q:=by
  refine ⟨fun _ _=>trivial,?_⟩
  rw [show (fen r).round=r from rfl,Zki b (fun _ h=>by cases h)]
  exact c
theorem Zpx {P:Program} {r:Option Nat} {o:Oper} {a:Act} {w:World} {f:FuncId} {args:Array Value} {next:Act->World->Prop} {Q:Exit->Act->World->Prop}
    (c:(execOp a.eval o).run P w = .ok (.enter f args) w) (d:Calls P f args w fun
      | .returned v,b=>next (a.put o.dst v) b
      | .panicked chain,b=>Q (.panic chain) a b
      | .outgrown,_=>LetsOut Q):o.wpIn (fen r) 0 P a w next Q:=by
  refine ⟨fun _ _=>trivial,?_⟩
  rw [show (fen r).round=r from rfl,Zki c (fun _ h=>by cases h)]
  exact ⟨fun h=>(by cases h),Zh6.2 d⟩
theorem ZAp {P:Program} {r:Option Nat} {o:Oper} {a:Act} {w:World} {l:Nat} {f:FuncId} {tmps:Array Value} {assign body:Code} {next:Act->World->Prop} {Q:Exit->Act->World->Prop}
    (d:(execOp a.eval o).run P w = .ok (.round l f tmps assign body) w) {k:Bool->World->Prop} (g:RoundIn (fen none) 0 P l f tmps assign body w fun e w'=>∃ b,e = .returned (.bool b)/\k b w')
    (i:∀ b w',k b w'->next (a.put o.dst (.bool b)) w'):o.wpIn (fen r) 0 P a w next Q:=by
  refine ⟨fun _ _=>trivial,?_⟩
  rw [show (fen r).round=r from rfl,Zki d (fun _ h=>by cases h)]
  refine ⟨fun h=>(by cases h),?_⟩
  have c:RoundIn (fen r) (0 - 1) P l f tmps assign body w fun e w'=>∃ b,e = .returned (.bool b)/\k b w':=g
  refine c.mono ?_
  rintro e w' ⟨b,rfl,j⟩
  exact i _ _ j
theorem ZAq {P:Program} {r:Option Nat} {o:Oper} {a:Act} {w:World} {v:Value} {next:Act->World->Prop} {Q:Exit->Act->World->Prop}
    (hd:∀ c,o.op≠ .defer c) (b:(execOp a.eval o).run P w = .halt (.panic v) w) (d:Q (.panic [{ v,recovered:=false }]) a w):o.wpIn (fen r) 0 P a w next Q:=by
  refine ⟨fun _ _=>trivial,?_⟩
  rw [show (fen r).round=r from rfl,Oper.semAt_eq _ _ _ hd,b]
  exact d
theorem Zx6 {P:Program} {w w':World} {s:Sem Value} {v:Value} (h:s.run P w = .ok v w') :
    (do pure (.value (<- s)):Sem Next).run P w = .ok (.value v) w':=by
  simp [h]
theorem ZEu {P:Program} {w w':World} {s:Sem Unit} (h:s.run P w = .ok () w') :
    (do s;pure .skip:Sem Next).run P w = .ok .skip w':=by
  simp [h]
theorem ZBM {P:Program} {op:BinOp} {t:TypeId} {x y:EV} {K:EV->Prop} (c:ZCA op x y K):∃ v,(∀ w,(binOp op t x.v y.v).run P w = .ok v.v w)/\K v:=by
  unfold ZCA at c
  split at c
  ·rename_i k a e b
   cases op<;>simp only at c
   case shl =>
     obtain ⟨d,c⟩:=c
     refine ⟨_,fun w=>?_,c⟩
     simp only [EV.v,binOp,Op.shift,if_neg (Int.not_lt.2 d)]
     rfl
   case shr =>
     obtain ⟨d,c⟩:=c
     refine ⟨_,fun w=>?_,c⟩
     simp only [EV.v,binOp,Op.shift,if_neg (Int.not_lt.2 d)]
     rfl
   all_goals
     rcases Decidable.em (k=e) with he | he
     case inr=>rw [if_neg he] at c;exact c.elim
     subst he
     rw [if_pos rfl] at c
     first
     | exact c.elim
     | (obtain ⟨d,c⟩:=(show Y9 _ _ from c)
        refine ⟨_,fun w=>?_,c⟩
        simp only [EV.v,binOp,ne_eq,not_true,if_false,Op.intDiv,if_neg d]
        rfl)
     | (refine ⟨_,fun w=>?_,c⟩;simp only [EV.v,binOp,ne_eq,not_true,if_false];rfl)
  ·rename_i a b
   cases op<;>simp only at c
   case add =>
     obtain ⟨d,c⟩:=c
     refine ⟨_,fun w=>?_,c⟩
     have:¬ (((a.size+b.size:Nat):Int)>IntKind.i64.max):=by
       have:IntKind.i64.max=9223372036854775807:=by decide
       rw [this];omega
     simp only [EV.v,binOp,Op.stringOp,if_neg this]
     rfl
   all_goals first
     | exact c.elim
     | (refine ⟨_,fun w=>?_,c⟩;rfl)
  ·exact c.elim
section
variable {P:Program} {t:TypeId} (w:World)
theorem Zky {e:TypeId} (hu:P.underlying t=some (.pointer e)) (p:Option Addr):(Op.equal t (.pointer p) (.pointer none)).run P w = .ok p.isNone w:=by
  unfold Op.equal Op.maxDepth
  rw [show (10000:Nat)=9999+1 from rfl]
  unfold Op.equalIn
  simp only [Awk,Zg P w t hu,Awl]
  cases p<;>rfl
theorem Znm {e:TypeId} (hu:P.underlying t=some (.slice e)) (p:Option Addr) (n m a b:Nat):(Op.equal t (.slice p n m) (.slice none a b)).run P w = .ok p.isNone w:=by
  unfold Op.equal Op.maxDepth
  rw [show (10000:Nat)=9999+1 from rfl]
  unfold Op.equalIn
  simp only [Awk,Zg P w t hu,Awl]
  cases p<;>rfl
theorem ZqI {k e:TypeId} (hu:P.underlying t=some (.map k e)) (p:Option Nat):(Op.equal t (.map p) (.map none)).run P w = .ok p.isNone w:=by
  unfold Op.equal Op.maxDepth
  rw [show (10000:Nat)=9999+1 from rfl]
  unfold Op.equalIn
  simp only [Awk,Zg P w t hu,Awl]
  cases p<;>rfl
theorem ZqH {ms:Array (String × TypeId)} (hu:P.underlying t=some (.interface ms)):(Op.equal t .nilIface .nilIface).run P w = .ok true w:=by
  unfold Op.equal Op.maxDepth
  rw [show (10000:Nat)=9999+1 from rfl]
  unfold Op.equalIn
  simp only [Awk,Zg P w t hu,Awl]
  rfl
theorem Znn {ms:Array (String × TypeId)} (hu:P.underlying t=some (.interface ms)) (t2:TypeId) (u:Value):(Op.equal t (.iface t2 u) .nilIface).run P w = .ok false w:=by
  unfold Op.equal Op.maxDepth
  rw [show (10000:Nat)=9999+1 from rfl]
  unfold Op.equalIn
  simp only [Awk,Zg P w t hu,Awl]
  rfl
theorem Zn9 {a rs:Array TypeId} {b:Bool} (hu:P.underlying t=some (.func a rs b)):(Op.equal t .nilFunc .nilFunc).run P w = .ok true w:=by
  unfold Op.equal Op.maxDepth
  rw [show (10000:Nat)=9999+1 from rfl]
  unfold Op.equalIn
  simp only [Awk,Zg P w t hu,Awl]
  rfl
theorem Zoa {c rs:Array TypeId} {d:Bool} (hu:P.underlying t=some (.func c rs d)) (f:Fn) (a b:Array Value):(Op.equal t (.func f a b) .nilFunc).run P w = .ok false w:=by
  unfold Op.equal Op.maxDepth
  rw [show (10000:Nat)=9999+1 from rfl]
  unfold Op.equalIn
  simp only [Awk,Zg P w t hu,Awl]
  rfl
theorem Zwu (hu:P.underlying t=some .bool) (a b:Bool):(Op.equal t (.bool a) (.bool b)).run P w = .ok (a ==b) w:=by
  unfold Op.equal Op.maxDepth
  rw [show (10000:Nat)=9999+1 from rfl]
  unfold Op.equalIn
  simp only [Awk,Zg P w t hu,Awl]
  rfl
end
theorem ZFk {P:Program} {t:TypeId} {neg:Bool} {x y:EV} {K:EV->Prop} (c:eqP (P.underlying t) neg x y K) :
    ∃ v,(∀ w,(binOp (bif neg then .neq else .eql) t x.v y.v).run P w = .ok v.v w)/\K v:=by
  unfold eqP at c
  split at c
  ·rename_i e b o hu
   refine ⟨_,fun w=>?_,c⟩
   have:=Zky w hu (some ⟨b,o,none⟩)
   cases neg<;>simp only [cond_true,cond_false,EV.v,binOp,Awk,this,Awl]<;>rfl
  ·rename_i e p hu
   refine ⟨_,fun w=>?_,c⟩
   have:=Zky w hu p
   cases neg<;>simp only [cond_true,cond_false,EV.v,binOp,Awk,this,Awl]<;>cases p<;>rfl
  ·rename_i e p n m d f hu
   refine ⟨_,fun w=>?_,c⟩
   have:=Znm w hu p n m d f
   cases neg<;>simp only [cond_true,cond_false,EV.v,binOp,Awk,this,Awl]<;>cases p<;>rfl
  ·rename_i k e p hu
   refine ⟨_,fun w=>?_,c⟩
   have:=ZqI w hu p
   cases neg<;>simp only [cond_true,cond_false,EV.v,binOp,Awk,this,Awl]<;>cases p<;>rfl
  ·rename_i hu
   split at c
   ·rename_i a b g h
    refine ⟨_,fun w=>?_,c⟩
    have:=Zwu w hu a b
    rw [g,h]
    cases neg<;>simp only [cond_true,cond_false,EV.v,binOp,Awk,this,Awl]<;>rfl
   ·exact c.elim
  ·exact c.elim
theorem Zr8 (off:Nat):∀ (l:List Value) (k:Nat) (cs:Array Value),off+k+l.length<=cs.size ->
    ((l.zipIdx k).foldl (fun cs x=>cs.setIfInBounds (off+x.2) x.1) cs).toList=cs.toList.take (off+k)++l++cs.toList.drop (off+k+l.length)
  | [],k,cs,h=>by simp
  | v::l,k,cs,h=>by
    simp only [List.zipIdx_cons,Awq,Aqj] at h ⊢
    rw [Zr8 off l (k+1) _ (by simp;omega)]
    have a:off+k<cs.toList.length:=by simp;omega
    simp only [Aqk]
    rw [show off+(k+1)=off+k+1 from by omega,Aql (by simp;omega),Aqm (by omega),Aqn (by omega)]
    simp
    omega
def ZFx (place:Nat->Option (Nat × Nat)) (n:Nat):List (Nat × Value)->List (Nat × List Value)->Prop
  | [],[]=>True
  | p::a,q::l=>place p.1=some (q.1,q.2.length)/\p.2.cells.toList=q.2/\q.1+q.2.length<=n/\ZFx place n a l
  | _,_=>False
theorem ZgI (place:Nat->Option (Nat × Nat)) (n:Nat):∀ (b:List (Nat × Value)) (l:List (Nat × List Value)) (cs:Array Value),
    cs.size=n->ZFx place n b l->Instr.fill place cs b=some (Zf1 cs.toList l).toArray
  | [],[],cs,_,_=>by simp [Instr.fill,Zf1]
  | [],_::_,cs,_,h=>h.elim
  | _::_,[],cs,_,h=>h.elim
  | (i,v)::b,(o,vs)::l,cs,m,h=>by
    obtain ⟨hp,d,hle,k⟩:=h
    simp only at hp d hle
    have hlen:v.cells.size=vs.length:=by rw [<- d];simp
    have a:(v.cells.zipIdx.foldl (fun cs x=>match x with | (c,j)=>cs.setIfInBounds (o+j) c) cs).toList=cs.toList.take o++vs++cs.toList.drop (o+vs.length):=by
      rw [<- Array.foldl_toList,Array.toList_zipIdx,d]
      have:=Zr8 o vs 0 cs (by omega)
      simpa using this
    have e:(v.cells.zipIdx.foldl (fun cs x=>match x with | (c,j)=>cs.setIfInBounds (o+j) c) cs).size=n:=by
      rw [<- Awa,a]
      simp
      omega
    have g:=ZgI place n b l _ e k
    rw [a] at g
    have f:¬ (o+vs.length>cs.size):=by omega
    simp only [Instr.fill,hp,hlen,ne_eq,not_true,decide_false,Bool.false_or,f,Zf1]
    exact g
theorem ZnB (v:EV):v.v.cells.toList=ZkB v:=by
  cases v with
  | val v=>cases v<;>rfl
  | lit b=>rfl
  | adr b o=>rfl
  | itr t b=>rfl
  | more k v=>rfl
  | over=>rfl
theorem ZqN (v:EV):v.v.cells=(ZkB v).toArray:=by
  rw [<- ZnB]
section
variable {c:Cfg} {e:Env} {a:Act} {n:Nat}
theorem Zyq {u:Value} (h:Ye u=true):u.cells.toList=[u]:=by
  cases u<;>first | rfl | cases h
theorem ZzB {d:Option TypeDesc} {v:EV} (h:Zy0 d=true->Ye v.v=true):v.v.cells.toList=ZnC d v:=by
  unfold ZnC
  cases a:Zy0 d with
  | true=>exact Zyq (h a)
  | false=>exact ZnB v
theorem ZoU:∀ {l:List Value} {K:Prop},ZEF l K->(∀ u,u∈l->Ye u=true)/\K
  | [],_,h=>⟨fun _ a=>(by cases a),h⟩
  | v::vs,K,h=>by
    obtain ⟨b,c⟩:=ZoU h.2
    refine ⟨fun u hu=>?_,c⟩
    rcases Awr.1 hu with rfl | hu
    ·exact h.1
    ·exact b u hu
theorem Zls (P:Program) (fs:List Field) (g:Agr n e a) (k:Nat):∀ {j:List (Nat × Operand)} {l:List (Nat × List Value)},ZmJ P fs e k j=some l->(∀ u,u∈Zre P fs e j->Ye u=true) ->
    ZFx (fun i=>(fs[i]?).map fun f=>(f.offset,P.cellsOf f.type)) k (j.map fun x=>(x.1,a.eval x.2)) l
  | [],l,h,_=>by simp only [ZmJ,Awh] at h;subst h;exact trivial
  | (i,x)::r,l,h,b=>by
    simp only [ZmJ] at h
    split at h
    ·rename_i f v w m o s
     have c:Zy0 (P.underlying f.type)=true->Ye v.v=true:=fun t=>b _ (by unfold Zre;rw [m,o];simp [t])
     have d:∀ u,u∈Zre P fs e r->Ye u=true:=fun u hu=>b u (by
       unfold Zre
       rw [m,o]
       dsimp only
       cases Zy0 (P.underlying f.type) with
       | true=>exact Aws _ hu
       | false=>exact hu)
     cases p:Nat.beq (ZnC (P.underlying f.type) v).length (P.cellsOf f.type) with
     | false=>rw [p] at h;cases h
     | true =>
       rw [p] at h
       simp only [cond_true] at h
       cases q:Nat.ble (f.offset+(ZnC (P.underlying f.type) v).length) k with
       | false=>rw [q] at h;cases h
       | true =>
         rw [q] at h
         simp only [cond_true,Awh] at h
         subst h
         refine ⟨?_,?_,Awt q,Zls P fs g k s d⟩
         ·simp [m,Awg p]
         ·simp only [g.ev o,ZzB c]
    ·cases h
theorem Ziv (size:Nat) (b:Agr n e a) (k:Nat):∀ {f:List (Nat × Operand)} {l:List (Nat × List Value)},Zk4 size e k f=some l ->
    ZFx (fun i=>some (i*size,size)) k (f.map fun x=>(x.1,a.eval x.2)) l
  | [],l,h=>by simp only [Zk4,Awh] at h;subst h;exact trivial
  | (i,x)::r,l,h=>by
    simp only [Zk4] at h
    split at h
    ·rename_i v m g j
     cases c:Nat.beq (ZkB v).length size with
     | false=>rw [c] at h;cases h
     | true =>
       rw [c] at h
       simp only [cond_true] at h
       cases d:Nat.ble (i*size+(ZkB v).length) k with
       | false=>rw [d] at h;cases h
       | true =>
         rw [d] at h
         simp only [cond_true,Awh] at h
         subst h
         refine ⟨?_,?_,Awt d,Ziv size b k j⟩
         ·simp [Awg c]
         ·simp only [b.ev g,ZnB]
    ·cases h
theorem Zjf {x:EV} {K:Nat->Nat->Prop} (h:atP x K):∃ b o,x.v = .pointer (some ⟨b,o,none⟩)/\K b o:=by
  unfold atP at h
  split at h
  ·exact ⟨_,_,rfl,h⟩
  ·obtain ⟨b,o,rfl,h⟩:=h;exact ⟨b,o,rfl,h⟩
  ·exact h.elim
theorem ZdU {P:Program} {t:TypeId} {zs:List Value} (h:Zlz P t=some zs):∃ i v,P.info? t=some i/\i.zero=some v/\v.cells.toList=zs:=by
  unfold Zlz at h
  split at h
  ·rename_i i a
   split at h
   ·rename_i v b
    simp only [Awh] at h
    exact ⟨i,v,a,b,h⟩
   ·cases h
  ·cases h
theorem ZfL {P:Program} {t:TypeId} {s b:Nat} (h:ZsZ P t=some (s,b)):∃ i,P.info? t=some i/\i.size=s/\i.bytes=b:=by
  unfold ZsZ at h
  split at h
  ·rename_i i a
   simp only [Awh,Prod.mk.injEq] at h
   exact ⟨i,a,h.1,h.2⟩
  ·cases h
theorem ZAL {P:Program} {t:TypeId} {b o:Nat} {v:EV} {K:Zc->Prop} {w:World} (h:stT P t w.heap b o v K) :
    ∃ h',(storeVar t ⟨b,o,none⟩ v.v).run P w = .ok () { w with heap:=h' }/\K h':=by
  have key:∀ (i:TypeInfo) (vs:List Value),P.info? t=some i->i.size=vs.length->v.v.cells=vs.toArray->Zc.free w.heap b o vs.length->vs.all Ye=true ->
      (storeVar t ⟨b,o,none⟩ v.v).run P w = .ok () { w with heap:=Zc.puts w.heap b o vs }:=by
    intro i vs d q r j m
    unfold storeVar
    simp only [Awk,XV P w t d,Awl,r,q,List.size_toArray,ne_eq,not_true,if_false]
    have:=ZeU P b o vs 0 w (by simpa using j) m
    simpa using this
  have one:Zca (P.underlying t)=false->Nat.beq (P.cellsOf t) 1=true->(∀ cs,v.v≠ .agg cs)->st w.heap b o v.v K ->
      ∃ h',(storeVar t ⟨b,o,none⟩ v.v).run P w = .ok () { w with heap:=h' }/\K h':=by
    intro e f g n
    obtain ⟨⟨u,hu⟩,j,l,p⟩:=n
    have a:=Awg f
    cases d:P.info? t with
    | none=>unfold Program.cellsOf at a;simp [d] at a
    | some i =>
      rw [Zcb P d] at a
      refine ⟨_,key i [v.v] d (by simp [a]) ?_ ⟨⟨⟨u,hu⟩,j⟩,trivial⟩ (by simp [l]),p⟩
      cases s:v.v<;>first | rfl | exact absurd s (g _)
  unfold stT at h
  split at h
  ·rename_i cs
   cases e:Zca (P.underlying t) with
   | false=>rw [e] at h;exact h.elim
   | true =>
     rw [e] at h
     simp only [cond_true] at h
     cases f:Nat.beq cs.toList.length (P.cellsOf t) with
     | false=>rw [f] at h;exact h.elim
     | true =>
       rw [f] at h
       obtain ⟨j,m,p⟩:=h
       have a:=Awg f
       cases d:P.info? t with
       | none =>
         unfold Program.underlying at e
         simp [d,Zca] at e
       | some i =>
         rw [Zcb P d] at a
         exact ⟨_,key i cs.toList d a.symm rfl j m,p⟩
  ·rename_i v' g
   cases e:Zca (P.underlying t) with
   | true=>rw [e] at h;exact h.elim
   | false =>
     rw [e] at h
     simp only [cond_false] at h
     cases f:Nat.beq (P.cellsOf t) 1 with
     | false=>rw [f] at h;exact h.elim
     | true =>
       rw [f] at h
       refine one e f (fun cs c=>?_) h
       cases v with
       | val u=>simp only [EV.v] at c;subst c;exact g cs rfl
       | lit b=>cases c
       | adr b o=>cases c
       | itr t b=>cases c
       | more k v=>cases c
       | over=>cases c
theorem Zhw (zs:List Value) (n:Nat):(Zbl zs n).length=n*zs.length:=by
  simp [Zbl]
theorem Zng (zs:List Value):∀ (n i:Nat),i<n*zs.length->(Zbl zs n)[i]?=zs[i % zs.length]?
  | 0,i,h=>by omega
  | n+1,i,h=>by
    unfold Zbl
    rw [List.replicate_succ,List.flatten_cons]
    rcases Aqd i zs.length with a | a
    ·rw [Awu a,Awv a]
    ·rw [Aww a]
     have:=Zng zs n (i - zs.length) (by rw [Awx] at h;omega)
     unfold Zbl at this
     rw [this,Nat.mod_eq_sub_mod a]
theorem Zjs (zs:Array Value) (n m:Nat) (h:m=n*zs.size):((Array.range m).map (zs[· % zs.size]!)).toList=Zbl zs.toList n:=by
  subst h
  apply Awy
  intro i
  simp only [Array.toList_map,Array.toList_range,Awz]
  rcases Aqd i (n*zs.size) with a | a
  ·rw [Zng _ _ _ (by simpa using a)]
   have b:0<zs.size:=by rcases Aqw zs.size with c | c;· rw [c] at a;omega
                        ·exact c
   have hm:i % zs.size<zs.size:=Nat.mod_lt _ b
   simp [a,hm]
  ·rw [Aqt (by simpa using a)]
   rw [Aqt (by rw [Zhw];simpa using a)]
   rfl
end
end Go.Fw
