/- The reading of a function's code as a condition on memory: what each operation, region and statement asks and leaves. Definitions alone. -/
import Derived.Sort.QuietThIn
import Derived.OrdersHeld
import Derived.Laws.Sem
import Derived.Laws.World
import Derived.RangeFuncLeaves
import Derived.RangeFuncRecord
import Derived.Test.YtpjbjdheeemdiaaGreatDoorPa2
set_option linter.unusedVariables false
set_option linter.unusedSimpArgs false
namespace Go.Fw
open Go
inductive Leaf where
  | I (k:IntKind) | B | S | P | L | M | V
abbrev Leaf.D:Leaf→Type
  | .I _=>Int | .B=>Bool | .S=>ByteArray | .P=>Option Addr | .L=>Sl | .M=>Option Nat | .V=>Value
def Leaf.mk:(l:Leaf)→l.D→Value
  | .I k,n=> .int k n | .B,b=> .bool b | .S,s=> .string s | .P,p=> .pointer p | .L,s=> .slice s.ptr s.len s.cap | .M,m=> .map m | .V,v=>v
def Leaf.un:(l:Leaf)→Value→Option l.D
  | .I k,.int k' n=>if k'=k then some n else none
  | .B,.bool b=>some b
  | .S,.string s=>some s
  | .P,.pointer p=>some p
  | .L,.slice p l c=>some ⟨p,l,c⟩
  | .M,.map m=>some m
  | .V,v=>some v
  | _,_=>none
abbrev Tup:List Leaf→Type
  | []=>Unit
  | l::ls=>l.D × Tup ls
def Tup.vals:(ls:List Leaf)→Tup ls→List Value
  | [],_=>[]
  | l::ls,t=>l.mk t.1::Tup.vals ls t.2
def Tup.un:(ls:List Leaf)→List Value→Option (Tup ls)
  | [],[]=>some ()
  | l::ls,v::vs=>match l.un v,Tup.un ls vs with
    | some x,some t=>some (x,t)
    | _,_=>none
  | _,_=>none
inductive VT where
  | one (l:Leaf) | agg (ls:List Leaf) | fn (f:FuncId) | clo (f:FuncId) (ls:List Leaf) | yl
abbrev VT.D:VT→Type
  | .one l=>l.D
  | .agg ls=>Tup ls
  | .fn _=>Unit
  | .clo _ ls=>Tup ls
  | .yl=>Nat
abbrev Xg:List VT→Type
  | []=>Unit
  | v::vs=>v.D × Xg vs
inductive EV where
  | val (v:Value) | lit (b:Bool) | adr (b o:Nat) | itr (t:TypeId) (b:Nat) | more (k v:Value) | over
def EV.v:EV→Value
  | .val v=>v
  | .lit b=> .bool b
  | .adr b o=> .pointer (some ⟨b,o,none⟩)
  | .itr _ b=> .pointer (some ⟨b,0,none⟩)
  | .more k v=> .tuple #[.bool true,k,v]
  | .over=> .tuple #[.bool false]
def VT.ev:(v:VT)→v.D→EV
  | .one l,x=> .val (l.mk x)
  | .agg ls,x=> .val (.agg (Tup.vals ls x).toArray)
  | .fn f,_=> .val (.func (.func f) ⟨[]⟩ ⟨[]⟩)
  | .clo f ls,x=> .val (.func (.func f) ⟨[]⟩ ⟨Tup.vals ls x⟩)
  | .yl,l=> .val (.func (.yield l) ⟨[]⟩ ⟨[]⟩)
def fnU (f:FuncId):EV→Option Unit
  | .val (.func (.func g) ⟨[]⟩ ⟨[]⟩)=>bif Nat.beq f g then some () else none
  | _=>none
def Zyz (f:FuncId) (ls:List Leaf):EV→Option (Tup ls)
  | .val (.func (.func g) ⟨[]⟩ ⟨cs⟩)=>bif Nat.beq f g then Tup.un ls cs else none
  | _=>none
def ylU:EV→Option Nat
  | .val (.func (.yield l) ⟨[]⟩ ⟨[]⟩)=>some l
  | _=>none
def VT.un:(v:VT)→EV→Option v.D
  | .one l,e=>l.un e.v
  | .agg ls,.val (.agg cs)=>Tup.un ls cs.toList
  | .agg _,_=>none
  | .fn f,e=>fnU f e
  | .clo f ls,e=>Zyz f ls e
  | .yl,e=>ylU e
def Xg.evs:(vs:List VT)→Xg vs→List EV
  | [],_=>[]
  | v::vs,t=>v.ev t.1::Xg.evs vs t.2
def Xg.un:(vs:List VT)→List EV→Option (Xg vs)
  | [],[]=>some ()
  | v::vs,e::es=>match v.un e,Xg.un vs es with
    | some x,some t=>some (x,t)
    | _,_=>none
  | _,_=>none
def Zdf:List EV→EV
  | [e]=>e
  | es=> .val (.tuple (es.map EV.v).toArray)
structure Zh where
  args:List VT
  res:List VT
  sem:Xg args→(Xg res→Zc→Prop)→(Value→Zc→Prop)→Zc→Prop
structure ZbP where
  caps:List VT
  sem:Yld→Nat→Xg caps→(Zc→Prop)→Zc→Prop
inductive Mark where
  | no | at_ (D:Nat) | raw (ds:List Deferred)
def Mark.isNo:Mark→Bool
  | .no=>true
  | _=>false
structure Env where
  f:Nat→Option EV
  mD:Mark
instance:CoeFun Env (fun _=>Nat→Option EV):=⟨Env.f⟩
def Env.set (e:Env) (d:Nat) (v:EV):Env:=⟨fun j=>bif Nat.beq j d then some v else e.f j,e.mD⟩
def Env.ev (e:Env):Operand→Option EV
  | .tmp t=>e.f t
  | .const (.bool b)=>some (.lit b)
  | .const v=>some (.val v)
  | .global g=>some (.adr g 0)
  | .func f=>some (.val (.func (.func f) #[] #[]))
structure Cfg where
  P:Program
  calls:List (FuncId × Zh)
  n:Nat
  ext:List FuncId
  dyn:List (String × TypeId × FuncId)
  iters:List (FuncId × ZbP)
  rnd:Option Nat
  pan:Value→Zc→Prop
  yld:Yld
  fns:List (FuncId × List Leaf)
def ZW (P:Program) (calls:List (FuncId × Zh)) (n:Nat) (ext:List FuncId) (dyn:List (String × TypeId × FuncId)) (iters:List (FuncId × ZbP)) (yld:Yld) (fns:List (FuncId × List Leaf):=[]):Cfg :=
  ⟨P,calls,n,ext,dyn,iters,none,fun _ _=>False,yld,fns⟩
def ZY:Yld:=fun _ _ _ _=>False
structure Ztk where
  s:Zh
  t:Xg s.args
def Zi3 (f:FuncId) (es:List EV):List (FuncId × Zh)→Option Ztk
  | []=>none
  | (g,s)::r=>bif Nat.beq f g then (match Xg.un s.args es with
    | some t=>some ⟨s,t⟩
    | none=>Zi3 f es r) else Zi3 f es r
structure Zri where
  s:ZbP
  t:Xg s.caps
def Zou (f:FuncId) (es:List EV):List (FuncId × ZbP)→Option Zri
  | []=>none
  | (g,s)::r=>bif Nat.beq f g then (match Xg.un s.caps es with
    | some t=>some ⟨s,t⟩
    | none=>Zou f es r) else Zou f es r
structure Zk0 where
  a0:VT
  rest:List VT
  res:List VT
  sem:Xg (a0::rest)→(Xg res→Zc→Prop)→(Value→Zc→Prop)→Zc→Prop
  t:Xg rest
def Zi2 (f:FuncId) (es:List EV):List (FuncId × Zh)→Option Zk0
  | []=>none
  | (g,⟨a0::rest,res,sem⟩)::r=>bif Nat.beq f g then (match Xg.un rest es with
    | some t=>some ⟨a0,rest,res,sem,t⟩
    | none=>Zi2 f es r) else Zi2 f es r
  | (_,⟨[],_,_⟩)::r=>Zi2 f es r
def Zuj (calls:List (FuncId × Zh)) (Kp:Value→Zc→Prop) (name:String) (v:Value) (es:List EV) (h:Zc) (K:EV→Zc→Prop):List (String × TypeId × FuncId)→Prop
  | []=>False
  | (n,t,f)::r=>bif n ==name then (match Zi2 f es calls with
    | some p=>exG v (fun x:p.a0.D=> .iface t (p.a0.ev x).v) (fun x=>p.sem (x,p.t) (fun rr h'=>K (Zdf (Xg.evs p.res rr)) h') Kp h)∨Zuj calls Kp name v es h K r
    | none=>Zuj calls Kp name v es h K r) else Zuj calls Kp name v es h K r
def Zsx (es:List EV) (cs:List Value):List EV:=es++cs.map EV.val
def fnP (calls:List (FuncId × Zh)) (Kp:Value→Zc→Prop) (v:Value) (es:List EV) (h:Zc) (K:EV→Zc→Prop):List (FuncId × List Leaf)→Prop
  | []=>False
  | (f,[])::r=>match Zi3 f es calls with
    | some ⟨s,t⟩=>Zyv v f (s.sem t (fun rr h'=>K (Zdf (Xg.evs s.res rr)) h') Kp h)∨fnP calls Kp v es h K r
    | none=>fnP calls Kp v es h K r
  | (f,l::ls)::r=>exG v (fun c:Tup (l::ls)=> .func (.func f) ⟨[]⟩ ⟨Tup.vals (l::ls) c⟩) (fun c=>match Zi3 f (Zsx es (Tup.vals (l::ls) c)) calls with
    | some ⟨s,t⟩=>s.sem t (fun rr h'=>K (Zdf (Xg.evs s.res rr)) h') Kp h
    | none=>False)∨fnP calls Kp v es h K r
def Zyx (l:List (FuncId × List Leaf)):Operand→List (FuncId × List Leaf)
  | .tmp _=>l
  | _=>[]
def Zuz (f:FuncId):List FuncId→Bool
  | []=>false
  | g::r=>bif Nat.beq f g then true else Zuz f r
def evs (e:Env):List Operand→Option (List EV)
  | []=>some []
  | x::xs=>match e.ev x,evs e xs with
    | some v,some vs=>some (v::vs)
    | _,_=>none
def Zti (op:BinOp) (x y:EV) (K:EV→Prop):Prop :=
  match x,y with
  | .val (.int k a),.val (.int k' b) =>
    match op with
    | .shl=>ZaY (0≤b) (K (.val (.int k (Znl k a b))))
    | .shr=>ZaY (0≤b) (K (.val (.int k (ZhO k a b))))
    | _=>if k=k' then
       match op with
       | .add=>K (.val (.int k (k.wrap (a+b))))
       | .sub=>K (.val (.int k (k.wrap (a - b))))
       | .mul=>K (.val (.int k (k.wrap (a*b))))
       | .quo=>ZaY (b≠0) (K (.val (.int k (k.wrap (a.tdiv b)))))
       | .rem=>ZaY (b≠0) (K (.val (.int k (a.tmod b))))
       | .and=>K (.val (.int k (Zht k a b)))
       | .or=>K (.val (.int k (orV k a b)))
       | .xor=>K (.val (.int k (ZCA k a b)))
       | .andNot=>K (.val (.int k (ZyE k a b)))
       | .eql=>K (.val (.bool (a ==b)))
       | .neq=>K (.val (.bool (a !=b)))
       | .lss=>K (.val (.bool (decide (a<b))))
       | .leq=>K (.val (.bool (decide (a≤b))))
       | .gtr=>K (.val (.bool (decide (a>b))))
       | .geq=>K (.val (.bool (decide (a≥b))))
       | _=>False
      else False
  | .val (.string a),.val (.string b) =>
    match op with
    | .add=>Zi9 a b fun s=>K (.val (.string s))
    | .eql=>K (.val (.bool (Za0 a b)))
    | .neq=>K (.val (.bool (!Za0 a b)))
    | .lss=>K (.val (.bool (Op.bytesLess a.toList b.toList)))
    | .leq=>K (.val (.bool (Op.bytesLess a.toList b.toList||Za0 a b)))
    | .gtr=>K (.val (.bool (!(Op.bytesLess a.toList b.toList||Za0 a b))))
    | .geq=>K (.val (.bool (!Op.bytesLess a.toList b.toList)))
    | _=>False
  | _,_=>False
def eqP (t:Option TypeDesc) (neg:Bool) (x y:EV) (K:EV→Prop):Prop :=
  match t,x,y with
  | some (.pointer _),.adr _ _,.val (.pointer none)=>K (.lit neg)
  | some (.pointer _),.val (.pointer p),.val (.pointer none)=>K (.val (.bool (bif neg then p.isSome else p.isNone)))
  | some (.slice _),.val (.slice p _ _),.val (.slice none _ _)=>K (.val (.bool (bif neg then p.isSome else p.isNone)))
  | some (.map _ _),.val (.map p),.val (.map none)=>K (.val (.bool (bif neg then p.isSome else p.isNone)))
  | some .bool,x,y =>
    match x.v,y.v with
    | .bool a,.bool b=>K (.val (.bool (bif neg then a !=b else a ==b)))
    | _,_=>False
  | _,_,_=>False
def Zif (d:Option TypeDesc) (h:Zc) (b o:Nat) (K:EV→Prop):Prop :=
  match d with
  | some (.int k)=>ldI h b o k fun x=>K (.val (.int k x))
  | some .bool=>ldB h b o fun x=>K (.val (.bool x))
  | some .string=>ldS h b o fun x=>K (.val (.string x))
  | some (.pointer _)=>ldP h b o fun x=>K (.val (.pointer x))
  | some (.slice _)=>ldL h b o fun x=>K (.val (.slice x.ptr x.len x.cap))
  | some (.map _ _)=>ldM h b o fun x=>K (.val (.map x))
  | some (.struct _) | some (.array _ _) | none=>False
  | some _=>ldV h b o fun x=>K (.val x)
def Zc4 (P:Program):Nat→TypeId→List (Option TypeDesc)
  | 0,_=>[none]
  | d+1,t=>match P.underlying t with
    | some (.struct fs)=>fs.toList.flatMap fun f=>Zc4 P d f.type
    | some (.array n e)=>(List.replicate n (Zc4 P d e)).flatten
    | x=>[x]
def Zwk (o i:Nat):Nat:=bif Nat.beq i 0 then o else o+i
def Zsa (h:Zc) (b o:Nat):Nat→List (Option TypeDesc)→(List Value→Prop)→Prop
  | _,[],K=>K []
  | i,d::ds,K=>Zif d h b (Zwk o i) fun v=>Zsa h b o (i+1) ds fun vs=>K (v.v::vs)
def ZaO:Option TypeDesc→Bool
  | some (.struct _) | some (.array _ _)=>true
  | _=>false
def ldT (P:Program) (t:TypeId) (h:Zc) (b o:Nat) (K:EV→Prop):Prop :=
  bif ZaO (P.underlying t) then
    (bif Nat.beq (Zc4 P 8 t).length (P.cellsOf t) then Zsa h b o 0 (Zc4 P 8 t) fun vs=>K (.val (.agg vs.toArray)) else False)
  else Zif (P.underlying t) h b o K
def atP (x:EV) (K:Nat→Nat→Prop):Prop :=
  match x with
  | .adr b o=>K b o
  | .val (.pointer p)=>Zb p K
  | _=>False
def stT (P:Program) (t:TypeId) (h:Zc) (b o:Nat) (v:EV) (K:Zc→Prop):Prop :=
  match v with
  | .val (.agg cs)=>bif ZaO (P.underlying t) then (bif Nat.beq cs.toList.length (P.cellsOf t) then sts h b o cs.toList K else False) else False
  | v=>bif ZaO (P.underlying t) then False else (bif Nat.beq (P.cellsOf t) 1 then st h b o v.v K else False)
def Zge:EV→List Value
  | .val (.agg cs)=>cs.toList
  | v=>[v.v]
def ZqC:Option TypeDesc→Bool
  | some (.int _) | some .bool | some .string | some (.pointer _) | some (.slice _) | some (.map _ _) | some (.struct _) | some (.array _ _) | none=>false
  | some _=>true
def ZiF (d:Option TypeDesc) (v:EV):List Value:=bif ZqC d then [v.v] else Zge v
def Zk9 (P:Program) (fs:List Field) (e:Env):List (Nat × Operand)→List Value
  | []=>[]
  | (i,x)::r=>match fs[i]?,e.ev x with
    | some f,some v=>bif ZqC (P.underlying f.type) then v.v::Zk9 P fs e r else Zk9 P fs e r
    | _,_=>Zk9 P fs e r
def ZtT:List Value→Prop→Prop
  | [],K=>K
  | v::vs,K=>ZaY (Yd v=true) (ZtT vs K)
def Zdi:List Value→List (Nat × List Value)→List Value
  | cs,[]=>cs
  | cs,(o,vs)::r=>Zdi (cs.take o++vs++cs.drop (o+vs.length)) r
def Zh1 (P:Program) (fs:List Field) (e:Env) (n:Nat):List (Nat × Operand)→Option (List (Nat × List Value))
  | []=>some []
  | (i,x)::r=>match fs[i]?,e.ev x,Zh1 P fs e n r with
    | some f,some v,some l=>bif Nat.beq (ZiF (P.underlying f.type) v).length (P.cellsOf f.type) then (bif Nat.ble (f.offset+(ZiF (P.underlying f.type) v).length) n then some ((f.offset,ZiF (P.underlying f.type) v)::l) else none) else none
    | _,_,_=>none
def ZgE (size:Nat) (e:Env) (n:Nat):List (Nat × Operand)→Option (List (Nat × List Value))
  | []=>some []
  | (i,x)::r=>match e.ev x,ZgE size e n r with
    | some v,some l=>bif Nat.beq (Zge v).length size then (bif Nat.ble (i*size+(Zge v).length) n then some ((i*size,Zge v)::l) else none) else none
    | _,_=>none
def Zg5 (P:Program) (t:TypeId):Option (List Value):=match P.info? t with
  | some i=>match i.zero with
    | some v=>some v.cells.toList
    | none=>none
  | none=>none
def Zmi (P:Program) (t:TypeId):Option (Nat × Nat):=match P.info? t with
  | some i=>some (i.size,i.bytes)
  | none=>none
def Zs2 (d:Int):Option (Option EV)→Option Int
  | none=>some d
  | some (some (.val (.int _ n)))=>some n
  | _=>none
def Zgf:Nat:=16777216
def Zqy:TypeDesc→Value→Bool
  | .int k,.int k' _=>if k=k' then true else false
  | .string,.string _=>true
  | .bool,.bool _=>true
  | _,_=>false
def Zi6:Option TypeDesc→Bool
  | some (.int _) | some .string | some .bool=>true
  | _=>false
def ZeZ (P:Program):List Field→Nat→Bool
  | [],_=>true
  | f::fs,i=>bif f.name == "_" then false else bif Nat.beq f.offset i&&Zi6 (P.underlying f.type) then ZeZ P fs (i+1) else false
def Ze0 (P:Program) (fs:List Field):List TypeDesc:=fs.map fun f=>(P.underlying f.type).getD .bool
def Zqx:List TypeDesc→List Value→Bool
  | [],[]=>true
  | d::ds,v::vs=>bif Zqy d v then Zqx ds vs else false
  | _,_=>false
def Zsi (P:Program) (kt:TypeId) (fs:Array Field) (cs:List Value):Bool :=
  bif P.stoodInHeld kt then false else bif ZeZ P fs.toList 0 then Zqx (Ze0 P fs.toList) cs else false
def Zsj (P:Program) (n:Nat) (e:TypeId) (cs:List Value):Bool :=
  bif Nat.beq n 2 then (bif Zi6 (P.underlying e) then (match P.info? e with
    | some i=>bif Nat.beq i.size 1 then Zqx [(P.underlying e).getD .bool,(P.underlying e).getD .bool] cs else false
    | none=>false) else false) else false
def ZmF (P:Program) (kt:TypeId) (d:TypeDesc) (h:Zc) (m:Option Nat) (k:Value) (K:Option Value→Prop):Prop :=
  match d,k with
  | .struct fs,.agg cs=>bif Zsi P kt fs cs.toList then ZmG (Ze0 P fs.toList) h m cs.toList K else False
  | .array n e,.agg cs=>bif Zsj P n e cs.toList then ZmG [(P.underlying e).getD .bool,(P.underlying e).getD .bool] h m cs.toList K else False
  | d,k=>bif Zqy d k then Zs9 d h m k K else False
def ZmD (P:Program) (kt:TypeId) (d:TypeDesc) (h:Zc) (m:Option Nat) (k v:Value) (K:Zc→Prop):Prop :=
  match d,k with
  | .struct fs,.agg cs=>bif Zsi P kt fs cs.toList then ZmE (Ze0 P fs.toList) h m cs.toList v K else False
  | .array n e,.agg cs=>bif Zsj P n e cs.toList then ZmE [(P.underlying e).getD .bool,(P.underlying e).getD .bool] h m cs.toList v K else False
  | d,k=>bif Zqy d k then Zs8 d h m k v K else False
def Zn1 (d:Option TypeDesc) (v:Value) (K:EV→Prop):Prop :=
  match d with
  | some (.int k)=>asI v k fun x=>K (.val (.int k x))
  | some .bool=>asB v fun x=>K (.val (.bool x))
  | some .string=>asS v fun x=>K (.val (.string x))
  | some (.pointer _)=>asP v fun x=>K (.val (.pointer x))
  | some (.slice _)=>asL v fun x=>K (.val (.slice x.ptr x.len x.cap))
  | some (.map _ _)=>asM v fun x=>K (.val (.map x))
  | _=>False
def Zv0:Option TypeDesc→Leaf
  | some (.int k)=> .I k | some .bool=> .B | some .string=> .S | some (.pointer _)=> .P | some (.slice _)=> .L | some (.map _ _)=> .M | _=> .V
def ZuD (P:Program) (t:TypeId) (v:Value) (K:EV→Prop):Prop :=
  bif ZaO (P.underlying t) then exG v (fun r:Tup ((Zc4 P 8 t).map Zv0)=> .agg (Tup.vals _ r).toArray) (fun r=>K (.val (.agg (Tup.vals _ r).toArray)))
  else Zn1 (P.underlying t) v K
def Ztw (P:Program) (t:TypeId):Option Value:=match P.info? t with
  | some i=>i.zero
  | none=>none
def Zd5:Option TypeDesc→Bool
  | some (.interface _)=>true
  | none=>true
  | _=>false
def Zfw (P:Program) (ts:Array TypeId):Bool:=match ts[0]? with
  | some t=>match P.underlying t with
    | some (.map _ _)=>true
    | _=>false
  | none=>false
def Zja (c:Cfg) (o:Op) (ρ:Env) (h:Zc) (K:EV→Zc→Prop):Prop :=
  match o with
  | .call ⟨.builtin .len,args,ts⟩ =>
    match ts[0]?,evs ρ args.toList with
    | some t,some [v]=>match c.P.underlying t,v with
      | some .string,.val (.string s)=>K (.val (.int .i64 s.size)) h
      | some (.slice _),.val (.slice _ n _)=>K (.val (.int .i64 n)) h
      | some (.array n _),_=>K (.val (.int .i64 n)) h
      | some (.map _ _),.val (.map m)=>ZCD h m fun n=>K (.val (.int .i64 n)) h
      | _,_=>False
    | _,_=>False
  | .call ⟨.builtin .cap,args,ts⟩ =>
    match ts[0]?,evs ρ args.toList with
    | some t,some [v]=>match c.P.underlying t,v with
      | some (.slice _),.val (.slice _ _ n)=>K (.val (.int .i64 n)) h
      | _,_=>False
    | _,_=>False
  | .call ⟨.builtin .min,args,_⟩ =>
    match evs ρ args.toList with
    | some [.val (.int k x),.val (.int _ y)]=>K (.val (.int k (Zys x y))) h
    | _=>False
  | .call ⟨.builtin .max,args,_⟩ =>
    match evs ρ args.toList with
    | some [.val (.int k x),.val (.int _ y)]=>K (.val (.int k (Zs7 x y))) h
    | _=>False
  | .call ⟨.builtin .append,args,ts⟩ =>
    match ts[0]?,(match ts[1]? with | none=>false | some t=>match c.P.underlying t with | some (.int _)=>true | some _=>false | none=>true) with
    | some t,false=>match c.P.underlying t with
      | some (.slice e)=>match Zmi c.P e,Zg5 c.P e,evs ρ args.toList with
        | some (size,bytes),some zs,some [.val (.slice p n m),.val (.slice p' n' m')] =>
          rdS ⟨p',n',m'⟩ size h fun new=>app e size bytes zs ⟨p,n,m⟩ n' new h fun s h'=>K (.val (.slice s.ptr s.len s.cap)) h'
        | some (size,bytes),some zs,some [.val (.slice p n m),.val (.string s)] =>
          app e size bytes zs ⟨p,n,m⟩ s.size (YU s) h fun s h'=>K (.val (.slice s.ptr s.len s.cap)) h'
        | _,_,_=>False
      | _=>False
    | _,_=>False
  | .call ⟨.value x,args,_⟩ =>
    match Zyx c.fns x with
    | f::r=>(match ρ.ev x,evs ρ args.toList with
      | some v,some es=>fnP c.calls c.pan v.v es h K (f::r)
      | _,_=>False)
    | [] =>
    match ρ.ev x with
    | some (.val (.func (.func f) ⟨[]⟩ ⟨cs⟩)) =>
      match evs ρ args.toList with
      | some es=>match Zi3 f (Zsx es cs) c.calls with
        | some ⟨s,t⟩=>s.sem t (fun r h'=>K (Zdf (Xg.evs s.res r)) h') c.pan h
        | none=>bif Zuz f c.ext then (match Zsx es cs with
          | [x]=>Zwe x.v h fun v h'=>K (.val v) h'
          | _=>False) else False
      | none=>False
    | some (.val (.func (.yield l) ⟨[]⟩ ⟨[]⟩)) =>
      match evs ρ args.toList with
      | some es=>c.yld l (es.map EV.v) (fun b h'=>K (.val (.bool b)) h') h
      | none=>False
    | _=>False
  | .call ⟨.builtin .delete,args,ts⟩ =>
    match ts[0]?,evs ρ args.toList with
    | some t,some [.val (.map m),k]=>match c.P.underlying t with
      | some (.map kt _)=>match c.P.underlying kt with
        | some d=>bif Zqy d k.v then Zta d h m k.v fun h'=>K (.val (.tuple #[])) h' else False
        | none=>False
      | _=>False
    | _,_=>False
  | .call ⟨.invoke x name,args,_⟩ =>
    match ρ.ev x,evs ρ args.toList with
    | some v,some es=>Zuj c.calls c.pan name v.v es h K c.dyn
    | _,_=>False
  | .call ⟨.builtin .clear,args,ts⟩ =>
    match ts[0]?,evs ρ args.toList with
    | some t,some [.val (.map m)]=>match c.P.underlying t with
      | some (.map _ _)=>Zzb h m fun h'=>K (.val (.tuple #[])) h'
      | _=>False
    | some t,some [.val (.slice p l m)]=>match c.P.underlying t with
      | some (.slice e)=>match Zg5 c.P e with
        | some zs=>Zza ⟨p,l,m⟩ zs h fun h'=>K (.val (.tuple #[])) h'
        | none=>False
      | _=>False
    | _,_=>False
  | _=>False
def Zec (d:Option TypeDesc) (x y:Value):Option Bool :=
  match d,x,y with
  | some (.int _),.int k a,.int k' b=>if k=k' then some (a ==b) else none
  | some .string,.string a,.string b=>some (Za0 a b)
  | some .bool,.bool a,.bool b=>some (a ==b)
  | _,_,_=>none
def Zdq (P:Program):List Field→List Value→List Value→Option Bool
  | [],_,_=>some true
  | f::fs,xs,ys =>
    bif f.name == "_" then none else
    match xs[f.offset]?,ys[f.offset]? with
    | some x,some y=>match Zec (P.underlying f.type) x y,Zdq P fs xs ys with
      | some a,some r=>some (bif a then r else false)
      | _,_=>none
    | _,_=>none
def Zdb (P:Program):List Field→List Value→List Value→Option Bool
  | [],_,_=>some true
  | f::fs,xs,ys =>
    bif f.name == "_" then none else
    match P.underlying f.type with
    | some (.struct gs) =>
      bif P.stoodInHeld f.type then none else
      bif Nat.ble (f.offset+P.cellsOf f.type) xs.length&&Nat.ble (f.offset+P.cellsOf f.type) ys.length then
        match Zdq P gs.toList ((xs.drop f.offset).take (P.cellsOf f.type)) ((ys.drop f.offset).take (P.cellsOf f.type)),Zdb P fs xs ys with
        | some a,some r=>some (bif a then r else false)
        | _,_=>none
      else none
    | u=>match xs[f.offset]?,ys[f.offset]? with
      | some x,some y=>match Zec u x y,Zdb P fs xs ys with
        | some a,some r=>some (bif a then r else false)
        | _,_=>none
      | _,_=>none
def eqS (P:Program) (t:TypeId) (fs:Array Field) (x y:EV) (K:Bool→Prop):Prop :=
  match x,y with
  | .val (.agg xs),.val (.agg ys)=>bif P.stoodInHeld t||P.eqGuardType P.depth t then False else
    match Zdb P fs.toList xs.toList ys.toList with
    | some b=>K b
    | none=>False
  | _,_=>False
def opP (c:Cfg) (o:Op) (ρ:Env) (h:Zc) (K:EV→Zc→Prop):Prop :=
  match o with
  | .move x=>match ρ.ev x with
    | some v=>K v h
    | none=>False
  | .assign x=>match ρ.ev x with
    | some (.val (.int k n))=>Zl n fun n=>K (.val (.int k n)) h
    | some (.val (.bool b))=>ZD b fun b=>K (.val (.bool b)) h
    | some v=>K v h
    | none=>False
  | .pick x a b=>match ρ.ev x,ρ.ev a,ρ.ev b with
    | some (.lit true),some a,_=>K a h
    | some (.lit false),_,some b=>K b h
    | some (.val (.bool x)),some a,some b=>match a.v,b.v with
      | .bool a,.bool b=>K (.val (.bool (bif x then a else b))) h
      | _,_=>False
    | _,_,_=>False
  | .alloc e=>match Zg5 c.P e with
    | some zs=>newC h zs e fun b h'=>K (.adr b 0) h'
    | none=>False
  | .box e x=>match ρ.ev x with
    | some v=>bif ZqC (c.P.underlying e) then ZaY (Yd v.v=true) (newC h [v.v] e fun b h'=>K (.adr b 0) h') else newC h (Zge v) e fun b h'=>K (.adr b 0) h'
    | none=>False
  | .build t parts=>match c.P.underlying t,Zg5 c.P t with
    | some (.struct fs),some zs=>match Zh1 c.P fs.toList ρ zs.length parts.toList with
      | some l=>bif fs.toList.all fun f=>(c.P.info? f.type).isSome then ZtT (Zk9 c.P fs.toList ρ parts.toList) (K (.val (.agg (Zdi zs l).toArray)) h) else False
      | none=>False
    | some (.array _ e),some zs=>match ZgE (c.P.cellsOf e) ρ zs.length parts.toList with
      | some l=>bif (c.P.info? e).isSome then K (.val (.agg (Zdi zs l).toArray)) h else False
      | none=>False
    | _,_=>False
  | .buildSlice t n parts=>match c.P.underlying t with
    | some (.slice e)=>match Zg5 c.P e,ZgE (c.P.cellsOf e) ρ (n*c.P.cellsOf e) parts.toList with
      | some zs,some l=>bif Nat.ble (n*c.P.cellsOf e) Zgf then
          (bif Nat.beq zs.length (c.P.cellsOf e) then
            newC h (Zdi (X4 zs n) l) e fun b h'=>K (.val (.slice (some ⟨b,0,none⟩) n n)) h' else False) else False
      | _,_=>False
    | _=>False
  | .load t a=>match ρ.ev a with
    | some x=>atP x fun b o=>ldT c.P t h b o fun v=>K v h
    | none=>False
  | .store t a x=>match ρ.ev a,ρ.ev x with
    | some a,some x=>atP a fun b o=>stT c.P t h b o x fun h'=>K (.val undef) h'
    | _,_=>False
  | .nilCheck x=>match ρ.ev x with
    | some x=>atP x fun b o=>K (.adr b o) h
    | none=>False
  | .binOp op t x yo _=>match ρ.ev x,ρ.ev yo with
    | some x,some y=>match op,c.P.underlying t with
      | .eql,some (.int _) | .eql,some .string=>Zti op x y fun v=>K v h
      | .neq,some (.int _) | .neq,some .string=>Zti op x y fun v=>K v h
      | .eql,some (.struct fs)=>eqS c.P t fs x y fun b=>K (.val (.bool b)) h
      | .neq,some (.struct fs)=>eqS c.P t fs x y fun b=>K (.val (.bool (!b))) h
      | .eql,some (.interface _)=>match yo with
        | .const .nilIface=>Zg0 x.v fun b=>K (.val (.bool b)) h
        | _=>False
      | .neq,some (.interface _)=>match yo with
        | .const .nilIface=>Zg0 x.v fun b=>K (.val (.bool (!b))) h
        | _=>False
      | .eql,some (.func _ _ _)=>match yo with
        | .const .nilFunc=>ZqD x.v fun b=>K (.val (.bool b)) h
        | _=>False
      | .neq,some (.func _ _ _)=>match yo with
        | .const .nilFunc=>ZqD x.v fun b=>K (.val (.bool (!b))) h
        | _=>False
      | .eql,d=>eqP d false x y fun v=>K v h
      | .neq,d=>eqP d true x y fun v=>K v h
      | _,_=>Zti op x y fun v=>K v h
    | _,_=>False
  | .unOp op _ x=>match op,ρ.ev x with
    | .not,some (.lit b)=>K (.lit (!b)) h
    | .not,some (.val (.bool b))=>K (.val (.bool (!b))) h
    | .neg,some (.val (.int k n))=>K (.val (.int k (k.wrap (0 - n)))) h
    | _,_=>False
  | .convert s d x=>match c.P.underlying s,c.P.underlying d,ρ.ev x with
    | some (.int _),some (.int k),some (.val (.int _ n))=>K (.val (.int k (k.wrap n))) h
    | some .string,some .string,some (.val (.string s))=>K (.val (.string s)) h
    | some .string,some (.slice e),some (.val (.string s))=>match c.P.underlying e with
      | some (.int .u8)=>s2b e s h fun x h'=>K (.val (.slice x.ptr x.len x.cap)) h'
      | _=>False
    | some (.slice e),some .string,some (.val (.slice p l m))=>match c.P.underlying e with
      | some (.int .u8)=>b2s ⟨p,l,m⟩ h fun s=>K (.val (.string s)) h
      | _=>False
    | some (.slice _),some (.slice e),some (.val (.slice p l m))=>match c.P.underlying e with
      | some (.int .u8)=>bif Nat.beq s d then Zyt p h fun h'=>K (.val (.slice p l m)) h' else False
      | _=>False
    | _,_,_=>False
  | .makeSlice t l m=>match c.P.underlying t,ρ.ev l,ρ.ev m with
    | some (.slice e),some (.val (.int _ l)),some (.val (.int _ m))=>match Zmi c.P e,Zg5 c.P e with
      | some (size,bytes),some zs=>bif Nat.beq zs.length size then mkS e bytes zs l m h fun s h'=>K (.val (.slice s.ptr s.len s.cap)) h' else False
      | _,_=>False
    | _,_,_=>False
  | .slice t x lo hi mx=>match c.P.underlying t,ρ.ev x with
    | some .string,some (.val (.string s))=>match mx,Zs2 0 (lo.map ρ.ev),Zs2 s.size (hi.map ρ.ev) with
      | none,some lo,some hi=>Zlg s lo hi fun s=>K (.val (.string s)) h
      | _,_,_=>False
    | some (.slice e),some (.val (.slice p l m))=>match Zs2 0 (lo.map ρ.ev),Zs2 l (hi.map ρ.ev),Zs2 m (mx.map ρ.ev),Zmi c.P e with
      | some lo,some up,some most,some (size,_)=>bif hi.isNone&&mx.isSome then False else slc p m size lo up most fun s=>K (.val (.slice s.ptr s.len s.cap)) h
      | _,_,_,_=>False
    | _,_=>False
  | .fieldAddr s x f=>match c.P.underlying s,ρ.ev x with
    | some (.struct fs),some x=>match fs.toList[f]? with
      | some fd=>bif Nat.beq (c.P.cellsOf fd.type) 0 then False else atP x fun b o=>K (.adr b (Zwk o fd.offset)) h
      | none=>False
    | _,_=>False
  | .field s x f=>match c.P.underlying s,ρ.ev x with
    | some (.struct fs),some (.val (.agg cs))=>match fs.toList[f]? with
      | some fd=>bif (c.P.underlying fd.type).isNone then False else bif ZaO (c.P.underlying fd.type) then K (.val (.agg ((cs.toList.drop fd.offset).take (c.P.cellsOf fd.type)).toArray)) h
        else match cs.toList[fd.offset]? with
          | some v=>K (.val v) h
          | none=>False
      | none=>False
    | _,_=>False
  | .indexAddr t x i=>match c.P.underlying t,ρ.ev x,ρ.ev i with
    | some (.slice e),some (.val (.slice p l _)),some (.val (.int _ i))=>match Zmi c.P e with
      | some (size,_)=>Zd6 p l i size fun b o=>K (.adr b o) h
      | none=>False
    | some (.array n e),some x,some (.val (.int _ i))=>match Zmi c.P e with
      | some (size,_)=>atP x fun b o=>Zy7 n i fun j=>K (.adr b (o+j*size)) h
      | none=>False
    | _,_,_=>False
  | .index t x i=>match c.P.underlying t,ρ.ev x,ρ.ev i with
    | some .string,some (.val (.string s)),some (.val (.int _ i))=>ZiO s i fun n=>K (.val (.int .u8 n)) h
    | some (.array n e),some (.val (.agg cs)),some (.val (.int _ i))=>match c.P.underlying e with
      | some (.struct _)=>bif Nat.beq cs.toList.length (n*c.P.cellsOf e) then Zy7 n i fun j=>ZuD c.P e (.agg ⟨(cs.toList.drop (j*c.P.cellsOf e)).take (c.P.cellsOf e)⟩) fun v=>K v h else False
      | _=>False
    | _,_,_=>False
  | .extract x i=>match ρ.ev x with
    | some (.more _ _)=>bif Nat.beq i 0 then K (.lit true) h else False
    | some .over=>bif Nat.beq i 0 then K (.lit false) h else False
    | some (.val (.tuple vs))=>match vs.toList[i]? with
      | some v=>K (.val v) h
      | none=>False
    | _=>False
  | .call _=>Zja c o ρ h K
  | .panic x=>match ρ.ev x with
    | some (.val (.iface t v))=>c.pan (.iface t v) h
    | _=>False
  | .makeFunc (.func f) first caps=>match first.toList,evs ρ caps.toList with
    | [],some es=>K (.val (.func (.func f) ⟨[]⟩ ⟨es.map EV.v⟩)) h
    | _,_=>False
  | .makeMap _ none=>ZvS h fun b h'=>K (.val (.map (some b))) h'
  | .lookup t x i ok=>match c.P.underlying t,ρ.ev x,ρ.ev i with
    | some (.map kt et),some (.val (.map m)),some k=>match c.P.underlying kt,Ztw c.P et with
      | some d,some z=>ZmF c.P kt d h m k.v fun r=>ZuD c.P et (r.getD z) fun v=>K (bif ok then .val (.tuple #[v.v,.bool r.isSome]) else v) h
      | _,_=>False
    | _,_,_=>False
  | .mapUpdate t m k x=>match c.P.underlying t,ρ.ev m,ρ.ev k,ρ.ev x with
    | some (.map kt _),some (.val (.map m)),some k,some x=>match c.P.underlying kt with
      | some d=>ZmD c.P kt d h m k.v x.v fun h'=>K (.val undef) h'
      | none=>False
    | _,_,_,_=>False
  | .range t x=>match c.P.underlying t,ρ.ev x with
    | some (.map _ _),some (.val (.map m))=>rgM h m fun b h'=>K (.itr t b) h'
    | _,_=>False
  | .next x false=>match ρ.ev x with
    | some (.itr _ b)=>Zyp h b (fun k v h'=>K (.more k v) h') (K .over h)
    | _=>False
  | .entry x=>match ρ.ev x with
    | some (.itr t b)=>match c.P.underlying t with
      | some (.map kt et)=>ZCG h b fun k v=>ZuD c.P kt k fun k'=>ZuD c.P et v fun v'=>K (.val (.tuple #[k'.v,v'.v])) h
      | _=>False
    | _=>False
  | .makeInterface t x=>match ρ.ev x with
    | some v=>bif Zd5 (c.P.underlying t) then False else K (.val (.iface t v.v)) h
    | none=>False
  | .typeAssert x _ t ok=>match ρ.ev x with
    | some v=>bif Zd5 (c.P.underlying t) then False else bif ok then (match v with
      | .val (.iface t' u)=>bif Nat.beq t' t then K (.val (.tuple #[u,.bool true])) h else False
      | _=>False) else asT v.v t fun y=>Zn1 (c.P.underlying t) y fun u=>K u h
    | none=>False
  | _=>False
def Zl5 (n:Nat) (e:Env) (d:Option Tmp) (v:EV) (K:Env→Prop):Prop :=
  match d with
  | none=>K e
  | some d=>bif Nat.blt d n then K (e.set d v) else False
def opQ (c:Cfg) (o:Oper) (e:Env) (h:Zc) (K:EV→Zc→Prop):Prop :=
  match o.op with
  | .assign x=>bif ZqC (c.P.underlying o.type) then (match e.ev x with
    | some v=>K v h
    | none=>False) else opP c (.assign x) e h K
  | op=>opP c op e h K
def ZvP (c:Cfg) (o:Oper) (e:Env) (h:Zc) (K:Env→Zc→Prop):Prop :=
  opQ c o e h fun v h'=>Zl5 c.n e o.dst v fun e'=>K e' h'
def Zjq (c:Cfg) (o:Oper) (e:Env) (h:Zc) (K:Env→Zc→Prop):Prop :=
  Zl5 c.n e o.dst (.val undef) fun e'=>K e' h
def ZdR (ops:List Oper) (j:Nat):Option Tmp:=(ops[j]?).bind (·.dst)
def Zc0 (c:Cfg) (one:Oper→Env→Zc→(Env→Zc→Prop)→Prop) (all:List Oper):List Oper→Env→Zc→(Env→Zc→Prop)→Prop
  | [],e,h,K=>K e h
  | o::os,e,h,K =>
    match o.guard with
    | none=>one o e h fun e' h'=>Zc0 c one all os e' h' K
    | some (j,want) =>
      match ZdR all j with
      | none=>Zjq c o e h fun e' h'=>Zc0 c one all os e' h' K
      | some t =>
        match e t with
        | some (.lit b) =>
          match b,want with
          | true,true | false,false=>one o e h fun e' h'=>Zc0 c one all os e' h' K
          | true,false | false,true=>Zjq c o e h fun e' h'=>Zc0 c one all os e' h' K
        | some (.val (.bool b)) =>
          match want with
          | true=>Zs b (one o (e.set t (.lit true)) h fun e' h'=>Zc0 c one all os e' h' K) (Zjq c o (e.set t (.lit false)) h fun e' h'=>Zc0 c one all os e' h' K)
          | false=>Zs b (Zjq c o (e.set t (.lit true)) h fun e' h'=>Zc0 c one all os e' h' K) (one o (e.set t (.lit false)) h fun e' h'=>Zc0 c one all os e' h' K)
        | some _=>Zjq c o e h fun e' h'=>Zc0 c one all os e' h' K
        | none=>False
def Znq (c:Cfg) (o:Op) (ρ:Env) (h:Zc) (K:EV→Zc→Prop):Prop :=
  match o with
  | .move _ | .assign _ | .pick _ _ _ | .load _ _ | .nilCheck _ | .binOp _ _ _ _ _ | .unOp _ _ _ | .slice _ _ _ _ _ | .fieldAddr _ _ _ | .field _ _ _ | .indexAddr _ _ _ | .index _ _ _ | .extract _ _ | .build _ _ | .makeFunc _ _ _=>opP c o ρ h K
  | .convert s d _=>match c.P.underlying s,c.P.underlying d with
    | some (.int _),some (.int _)=>opP c o ρ h K
    | _,_=>False
  | .call ⟨.builtin .len,_,_⟩ | .call ⟨.builtin .cap,_,_⟩ | .call ⟨.builtin .min,_,_⟩ | .call ⟨.builtin .max,_,_⟩=>opP c o ρ h K
  | .call ⟨.value (.func f),args,_⟩ =>
    match evs ρ args.toList with
    | some es=>match Zi3 f es c.calls with
      | some ⟨s,t⟩=>ZbR (fun K' h'=>s.sem t K' (fun _ _=>False) h') h fun r=>K (Zdf (Xg.evs s.res r)) h
      | none=>False
    | none=>False
  | _=>False
def ZpZ (c:Cfg) (o:Oper) (e:Env) (h:Zc) (K:Env→Zc→Prop):Prop :=
  Znq c o.op e h fun v h'=>Zl5 c.n e o.dst v fun e'=>K e' h'
def Zn0 (m i:Nat):Bool:=Nat.beq (Nat.land (Nat.shiftRight m i) 1) 1
def ZiS (m i:Nat):Nat:=Nat.lor m (Nat.shiftLeft 1 i)
def ZjV (m:Nat):List Edge→Bool
  | []=>true
  | e::es=>bif Region.binds .any e then (bif Zn0 m e.on then ZjV m es else false) else ZjV m es
def Zak (m i:Nat) (o:Oper):Bool:=bif Zn0 m i then false else ZjV m o.after.toList
def ZgG (m i:Nat):Nat→List Oper→Bool
  | _,[]=>true
  | k,o::os=>bif Nat.beq k i then ZgG m i (k+1) os else bif Zak m k o then false else ZgG m i (k+1) os
def Zek (i:Nat):List Edge→Bool
  | []=>false
  | e::es=>bif Nat.beq e.on i then (bif Region.binds .any e then true else Zek i es) else Zek i es
def Zhe (ops:Array Oper) (oi:Oper) (m i:Nat):Nat→List Oper→Bool
  | _,[]=>true
  | k,o::os=>bif (bif Nat.beq k i then true else bif Zn0 m k then true else bif Zek i o.after.toList then true else oi.apart ops o) then Zhe ops oi m i (k+1) os else false
def Zqi (m:Nat):Nat→List Oper→Bool
  | _,[]=>true
  | k,o::os=>bif Zak m k o then false else Zqi m (k+1) os
abbrev Zei:=List (Nat × (Zc→Prop))
def ZoS (o:Oper):Zei→Zei
  | []=>[]
  | x::r=>bif Zek x.1 o.after.toList then ZoS o r else x::ZoS o r
def Zt1 (h:Zc):Zei→Prop→Prop
  | [],K=>K
  | x::r,K=>x.2 h∧Zt1 h r K
def ZjB (m i j:Nat):Nat→List Oper→Bool
  | _,[]=>true
  | k,o::os=>bif Nat.beq k i||Nat.beq k j then ZjB m i j (k+1) os else bif Zak m k o then false else ZjB m i j (k+1) os
def Zl0 (b o:Nat):Nat→List Value→List (Nat × Nat × Value)
  | _,[]=>[]
  | i,v::vs=>(b,Zwk o i,v)::Zl0 b o (i+1) vs
def ldH (P:Program) (t:TypeId) (h:Zc) (b o:Nat) (K:EV→List (Nat × Nat × Value)→Prop):Prop :=
  bif ZaO (P.underlying t) then
    (bif Nat.beq (Zc4 P 8 t).length (P.cellsOf t) then Zsa h b o 0 (Zc4 P 8 t) fun vs=>K (.val (.agg vs.toArray)) (Zl0 b o 0 vs) else False)
  else Zif (P.underlying t) h b o fun v=>K v [(b,o,v.v)]
inductive OpK where
  | pure | load (t:TypeId) (x:Operand) | text (x:Operand) | other
def Zeo (c:Cfg):Op→OpK
  | .move _ | .assign _ | .pick _ _ _ | .nilCheck _ | .binOp _ _ _ _ _ | .unOp _ _ _ | .slice _ _ _ _ _ | .fieldAddr _ _ _ | .field _ _ _ | .indexAddr _ _ _ | .index _ _ _ | .extract _ _ | .build _ _ | .makeFunc _ _ _=> .pure
  | .convert s d x=>match c.P.underlying s,c.P.underlying d with
    | some (.int _),some (.int _)=> .pure
    | some (.slice e),some .string=>match c.P.underlying e with
      | some (.int .u8)=> .text x
      | _=> .other
    | _,_=> .other
  | .call ⟨.builtin .len,_,ts⟩=>bif Zfw c.P ts then .other else .pure
  | .call ⟨.builtin .cap,_,_⟩ | .call ⟨.builtin .min,_,_⟩ | .call ⟨.builtin .max,_,_⟩=> .pure
  | .load t x=> .load t x
  | _=> .other
def Zio (all:List Oper) (o:Oper) (e:Env) (A B:Env→Prop):Prop :=
  match o.guard with
  | none=>A e
  | some (j,want) =>
    match ZdR all j with
    | none=>B e
    | some t =>
      match e t with
      | some (.lit b) =>
        match b,want with
        | true,true | false,false=>A e
        | true,false | false,true=>B e
      | some (.val (.bool b)) =>
        match want with
        | true=>Zs b (A (e.set t (.lit true))) (B (e.set t (.lit false)))
        | false=>Zs b (B (e.set t (.lit true))) (A (e.set t (.lit false)))
      | some _=>B e
      | none=>False
inductive OrdT where
  | done | take (i:Nat) (r:OrdT) | fork (i:Nat) (r:OrdT) (j:Nat) (s:OrdT)
def OrdT.depth:OrdT→Nat
  | .done=>0
  | .take _ r=>r.depth+1
  | .fork _ r _ s=>Nat.max r.depth s.depth+1
def Zui (c:Cfg) (ops:Array Oper) (o:Oper) (hd:Zei) (e:Env) (h:Zc) (rest:Zei→Env→Zc→Prop):Prop :=
  Zio ops.toList o e (fun e=>opP c o.op e h fun v h'=>Zl5 c.n e o.dst v fun e'=>Zt1 h' (ZoS o hd) (rest (ZoS o hd) e' h'))
   (fun e=>Zl5 c.n e o.dst (.val undef) fun e'=>rest hd e' h)
def Zwc (c:Cfg) (ops:Array Oper) (o:Oper) (hd:Zei) (e:Env) (h:Zc) (rest:Zei→Env→Zc→Prop):Prop :=
  Zio ops.toList o e (fun e=>opP c o.op e h fun v _=>Zl5 c.n e o.dst v fun e'=>rest hd e' h)
   (fun e=>Zl5 c.n e o.dst (.val undef) fun e'=>rest hd e' h)
def Zlu (c:Cfg) (ops:Array Oper) (K:Env→Zc→Prop):OrdT→Nat→Zei→Env→Zc→Prop
  | .done,m,_,e,h=>bif Zqi m 0 ops.toList then K e h else False
  | .fork i r j s,m,hd,e,h =>
    match ops[i]?,ops[j]? with
    | some o,some p=>bif Zak m i o&&(Zak m j p&&ZjB m i j 0 ops.toList) then
        ZoW (Zui c ops o hd e h (Zlu c ops K r (ZiS m i))) (Zui c ops p hd e h (Zlu c ops K s (ZiS m j)))
      else False
    | _,_=>False
  | .take i r,m,hd,e,h =>
    match ops[i]? with
    | none=>False
    | some o =>
      match Zeo c o.op with
      | .pure=>bif Zak m i o&&(Zhe ops o m i 0 ops.toList||ZgG m i 0 ops.toList) then Zwc c ops o hd e h (Zlu c ops K r (ZiS m i)) else False
      | .load t x=>bif Zak m i o&&Zhe ops o m i 0 ops.toList then
          Zio ops.toList o e (fun e=>match e.ev x with
           | some y=>atP y fun b p=>ldH c.P t h b p fun v cells=>Zl5 c.n e o.dst v fun e'=>Zlu c ops K r (ZiS m i) ((i,fun h'=>Za1 h' cells)::hd) e' h
           | none=>False)
           (fun e=>Zl5 c.n e o.dst (.val undef) fun e'=>Zlu c ops K r (ZiS m i) hd e' h)
        else bif Zak m i o&&ZgG m i 0 ops.toList then Zwc c ops o hd e h (Zlu c ops K r (ZiS m i)) else False
      | .text x=>bif Zak m i o&&Zhe ops o m i 0 ops.toList then
          Zio ops.toList o e (fun e=>match e.ev x with
           | some (.val (.slice p l n))=>b2s ⟨p,l,n⟩ h fun s=>Zl5 c.n e o.dst (.val (.string s)) fun e'=>Zlu c ops K r (ZiS m i) ((i,fun h'=>b2s ⟨p,l,n⟩ h' fun s'=>s'=s)::hd) e' h
           | _=>False)
           (fun e=>Zl5 c.n e o.dst (.val undef) fun e'=>Zlu c ops K r (ZiS m i) hd e' h)
        else bif Zak m i o&&ZgG m i 0 ops.toList then Zui c ops o hd e h (Zlu c ops K r (ZiS m i)) else False
      | .other=>bif Zak m i o&&ZgG m i 0 ops.toList then Zui c ops o hd e h (Zlu c ops K r (ZiS m i)) else False
inductive Ann where
  | leaf
  | seq (a b:Ann)
  | cut (slots:List Nat) (tys:List VT) (kill:List (Nat × Nat)) (a b:Ann)
  | cond (a b:Ann)
  | block (a:Ann)
  | loop (slots:List Nat) (tys:List VT) (kill:List (Nat × Nat)) (a:Ann)
  | order (l:OrdT)
  | range (tys:List VT) (a b:Ann)
inductive Ex where
  | normal | exit (id:Nat) | ret
def ZeN:List Nat→List EV→Nat→Option EV
  | s::ss,v::vs,j=>bif Nat.beq j s then some v else ZeN ss vs j
  | _,_,_=>none
def ZlF:List (Nat × Nat)→Nat→Bool
  | [],_=>false
  | (lo,hi)::r,j=>bif Nat.ble lo j&&Nat.ble j hi then true else ZlF r j
def ZiN:List Nat→Nat→Bool
  | [],_=>false
  | s::ss,j=>bif Nat.beq j s then true else ZiN ss j
def ZqR (slots:List Nat) (vs:List EV) (kill:List (Nat × Nat)) (e:Env):Env:=⟨fun j =>
  match ZeN slots vs j with
  | some v=>some v
  | none=>bif ZlF kill j then none else e.f j,e.mD⟩
def Zop (e:Env):List Nat→Option (List EV)
  | []=>some []
  | s::ss=>match e s,Zop e ss with
    | some v,some vs=>some (v::vs)
    | _,_=>none
def Zms (slots:List Nat) (tys:List VT) (e:Env):Option (Xg tys) :=
  match Zop e slots with
  | some es=>Xg.un tys es
  | none=>none
def Zqu (slots:List Nat) (tys:List VT) (e:Env) (J:Xg tys→Zc→Prop) (h:Zc):Prop :=
  match Zms slots tys e with
  | some t=>J t h
  | none=>False
def mkN:Nat:=4294967291
def dstsOf:Code→List Nat
  | .region _ ops _=>ops.toList.filterMap (·.dst)
  | .seq a b=>dstsOf a++dstsOf b
  | .cond _ a b=>dstsOf a++dstsOf b
  | .block _ a=>dstsOf a
  | .loop a=>dstsOf a
  | .rangeFunc _ _ _ _=>[mkN]
  | _=>[]
def ZnO (slots:List Nat) (kill:List (Nat × Nat)) (a:Code):Bool:=(dstsOf a).all fun j=>bif Nat.beq j mkN then false else ZiN slots j||ZlF kill j
def Zcw (K:Env→Zc→Prop) (Q:Ex→Env→Zc→Prop):Ex→Env→Zc→Prop
  | .normal,e,h=>K e h
  | .exit id,e,h=>Q (.exit id) e h
  | .ret,e,h=>Q .ret e h
def Zth (id:Nat) (Q:Ex→Env→Zc→Prop):Ex→Env→Zc→Prop
  | .normal,e,h=>Q .normal e h
  | .exit id',e,h=>bif Nat.beq id' id then Q .normal e h else Q (.exit id') e h
  | .ret,e,h=>Q .ret e h
def Zjt (n:Nat) (e:Env):List Tmp→List EV→Option Env
  | [],[]=>some e
  | p::ps,v::vs=>bif Nat.blt p n then Zjt n (e.set p v) ps vs else none
  | _,_=>none
def Zt3 (a:Code):Bool:=ZiN (dstsOf a) mkN
def ZqE:Op→Bool
  | .defer _=>true
  | _=>false
def Zf5:List Oper→Bool
  | []=>true
  | o::os=>bif ZqE o.op then false else Zf5 os
def Ann.fst:Ann→Ann
  | .seq a _ | .cut _ _ _ a _ | .cond a _ | .block a | .loop _ _ _ a | .range _ a _=>a
  | .leaf | .order _=> .leaf
def Ann.snd:Ann→Ann
  | .seq _ b | .cut _ _ _ _ b | .cond _ b | .range _ _ b=>b
  | _=> .leaf
def Zs0 (K:Env→Zc→Prop):Ex→Env→Zc→Prop
  | .normal,e,h=>K e h
  | _,_,_=>False
def ZsZ (k:Option Code→Zc→Prop):Ex→Env→Zc→Prop
  | .normal,_,h=>k none h
  | .exit id,_,h=>k (some (.exit id)) h
  | .ret,_,h=>k (some .ret) h
def wpC (c:Cfg):Code→Ann→Env→Zc→(Ex→Env→Zc→Prop)→Prop
  | .skip,_,e,h,Q=>Q .normal e h
  | .region _ ops draw,ann,e,h,Q =>
    match draw with
    | true=>match ann with
      | .order l=>bif Region.noSelect ops&&(Nat.ble l.depth ops.size&&Zf5 ops.toList) then Zlu c ops (fun e' h'=>Q .normal e' h') l 0 [] e h else False
      | _=>bif c.rnd.isNone&&Region.lexB .any ops then Zc0 c (ZpZ c) ops.toList ops.toList e h fun e' h'=>Q .normal e' h' else False
    | false=>Zc0 c (ZvP c) ops.toList ops.toList e h fun e' h'=>Q .normal e' h'
  | .seq a b,ann,e,h,Q =>
    match ann with
    | .cut slots tys kill x y =>
      bif ZnO slots kill a then
        ZbG (fun t h'=>wpC c b y (ZqR slots (Xg.evs tys t) kill e) h' Q) (fun J=>wpC c a x e h (Zcw (fun e' h'=>Zqu slots tys e' J h') Q))
      else False
    | ann=>wpC c a ann.fst e h (Zcw (fun e' h'=>wpC c b ann.snd e' h' Q) Q)
  | .cond x a b,ann,e,h,Q =>
    match e.ev x with
    | some (.lit true)=>wpC c a ann.fst e h Q
    | some (.lit false)=>wpC c b ann.snd e h Q
    | some (.val (.bool v))=>Zs v (wpC c a ann.fst e h Q) (wpC c b ann.snd e h Q)
    | _=>False
  | .block id a,ann,e,h,Q=>wpC c a ann.fst e h (Zth id Q)
  | .loop a,ann,e,h,Q =>
    match ann with
    | .loop slots tys kill x =>
      bif ZnO slots kill a then
        match Zms slots tys e with
        | some t0=>Zau (fun J t h'=>wpC c a x (ZqR slots (Xg.evs tys t) kill e) h' (Zcw (fun e' h''=>Zqu slots tys e' J h'') Q)) t0 h
        | none=>False
      else False
    | _=>False
  | .exit id,_,e,h,Q=>Q (.exit id) e h
  | .ret,_,e,h,Q=>Q .ret e h
  | .rangeFunc g ps assign body,ann,e,h,Q =>
    match ann with
    | .range tys x y=>bif c.rnd.isNone&&e.mD.isNo then
      (match e.ev g with
      | some (.val (.func (.func f) ⟨[]⟩ ⟨cs⟩))=>match Zou f (cs.map EV.val) c.iters with
        | some ⟨s,t⟩ =>
          ZvJ ps.size (fun Y l K h'=>s.sem Y l t K h')
           (fun l r vs h' k=>Zwi (fun a:Xg tys=>(Xg.evs tys a).map EV.v) vs fun a=>match Zjt c.n ⟨e.f,.no⟩ ps.toList (Xg.evs tys a) with
             | some e1=>wpC { c with rnd:=some l,pan:=fun _ _=>False } assign x e1 h' (Zs0 fun e2 h2 =>
                 Zwh r l h2 fun h3=>wpC { c with rnd:=some l,pan:=fun _ _=>False } body y e2 h3 (ZsZ k))
             | none=>False)
           h fun p D h'=>Zv7 p (Q .normal ⟨e.f,.at_ D⟩ h') (fun id=>Q (.exit id) ⟨e.f,.at_ D⟩ h') (Q .ret ⟨e.f,.at_ D⟩ h')
        | none=>False
      | _=>False)
      else False
    | _=>False
  | _,_,_,_,_=>False
def Zo5 (c:Cfg) (e:Env) (h:Zc):List ResultVar→(List EV→Prop)→Prop
  | [],K=>K []
  | .tmp t::r,K=>match e.f t with
    | some v=>Zo5 c e h r fun vs=>K (v::vs)
    | none=>False
  | .cell a t::r,K=>match e.f a with
    | some (.adr b o)=>ldT c.P t h b o fun v=>Zo5 c e h r fun vs=>K (v::vs)
    | _=>False
def ZfP (l:List EV):Env:=⟨fun j=>go l 0 j,.no⟩
where go:List EV→Nat→Nat→Option EV
  | [],_,_=>none
  | v::vs,i,j=>bif Nat.beq j i then some v else go vs (i+1) j
def ZwF (c:Cfg) (fn:Func) (ann:Ann) (args:List EV) (res:List VT) (K:Xg res→Zc→Prop) (Kp:Value→Zc→Prop) (h:Zc):Prop :=
  match fn.body with
  | some code=>wpC { c with rnd:=none,pan:=bif Zt3 code then fun _ _=>False else Kp } code ann (ZfP args) h fun ex e h' =>
    match ex with
    | .exit _=>False
    | _=>match e.mD with
      | .no=>Zo5 c e h' fn.results.toList fun vs=>match Xg.un res vs with
        | some r=>K r h'
        | none=>False
      | .at_ D=>ZvF D h' fun h'=>Zo5 c e h' fn.results.toList fun vs=>match Xg.un res vs with
        | some r=>K r h'
        | none=>False
      | .raw _=>False
  | none=>False
theorem Ze3 (w:World) (b o:Nat):w.cell? ⟨b,o,none⟩=Zc.cell w.heap b o:=by
  unfold World.cell? Zc.cell
  simp only [Option.isSome_none,Bool.false_eq_true,if_false]
  cases w.heap[b]? with
  | none=>rfl
  | some x=>cases x<;>rfl
theorem Zt7 (w:World) (b o:Nat):w.frozen? ⟨b,o,none⟩=Zc.froz w.heap b o:=by
  unfold World.frozen? Zc.froz
  rfl
theorem Zjr (w:World) (b o:Nat) (v:Value):w.setCell ⟨b,o,none⟩ v={ w with heap:=Zc.put w.heap b o v }:=by
  unfold World.setCell Zc.put
  simp only [Option.isSome_none,Bool.false_eq_true,if_false]
  refine congrArg (fun f=>({ w with heap:=w.heap.modify b f }:World)) ?_
  funext x
  cases x<;>rfl
theorem Zg3 (b o n:Nat):(⟨b,o,none⟩:Addr).add n=⟨b,o+n,none⟩:=by
  unfold Addr.add
  split
  ·rename_i h;subst h;rfl
  ·rfl
theorem ZmX (o i:Nat):Zwk o i=o+i:=by
  unfold Zwk
  cases h:Nat.beq i 0 with
  | false=>rfl
  | true=>have:=Nat.eq_of_beq_eq_true h;subst this;rfl
def Same (w w':World):Prop:=w'.tape=w.tape∧w'.os=w.os∧w'.output=w.output
theorem Same.refl (w:World):Same w w:=⟨rfl,rfl,rfl⟩
theorem Same.trans {a b c:World} (h:Same a b) (h':Same b c):Same a c:=⟨h'.1.trans h.1,h'.2.1.trans h.2.1,h'.2.2.trans h.2.2⟩
def ZtW:Mark→List Deferred
  | .no=>[]
  | .at_ D=>[{ target:= .collected D,args:= #[]}]
  | .raw ds=>ds
structure Agr (n:Nat) (e:Env) (a:Act):Prop where
  size:a.tmps.size=n
  defers:a.defers=ZtW e.mD
  val:∀ j v,e j=some v→a.tmps[j]?=some v.v
theorem Agr.ev {n:Nat} {e:Env} {a:Act} (h:Agr n e a) {x:Operand} {v:EV} (hx:e.ev x=some v):a.eval x=v.v:=by
  cases x with
  | tmp t=>have:=h.val t v hx;simp [Act.eval,this]
  | const c =>
    cases c<;>simp only [Env.ev,Option.some.injEq] at hx<;>subst hx<;>rfl
  | global g=>simp only [Env.ev,Option.some.injEq] at hx;subst hx;rfl
  | func f=>simp only [Env.ev,Option.some.injEq] at hx;subst hx;rfl
theorem Agr.evs {n:Nat} {e:Env} {a:Act} (h:Agr n e a):∀ {xs:List Operand} {vs:List EV},evs e xs=some vs→xs.map a.eval=vs.map EV.v
  | [],vs,hx=>by simp only [Fw.evs,Option.some.injEq] at hx;subst hx;rfl
  | x::xs,vs,hx=>by
    simp only [Fw.evs] at hx
    split at hx
    ·rename_i v vs' h1 h2
     simp only [Option.some.injEq] at hx;subst hx
     simp [h.ev h1,h.evs h2]
    ·cases hx
theorem Agr.set {n:Nat} {e:Env} {a:Act} (h:Agr n e a) {d:Nat} (hd:Nat.blt d n=true) (v:EV):Agr n (e.set d v) (a.put (some d) v.v):=by
  have hlt:d<n:=by rw [Nat.blt_eq] at hd;exact hd
  refine ⟨by simp [Act.put,h.size],by simp [Act.put,h.defers,Env.set],fun j u hj=>?_⟩
  unfold Env.set at hj
  dsimp only at hj
  cases hb:Nat.beq j d with
  | true =>
    have:=Nat.eq_of_beq_eq_true hb;subst this
    rw [hb] at hj
    simp only [cond_true,Option.some.injEq] at hj
    subst hj
    simp [Act.put,h.size,hlt]
  | false =>
    have hne:j≠d:=Nat.ne_of_beq_eq_false hb
    rw [hb] at hj
    simp only [cond_false] at hj
    have:=h.val j u hj
    simp [Act.put,Array.getElem?_setIfInBounds_ne (Ne.symm hne),this]
theorem Agr.tell {n:Nat} {e:Env} {a:Act} (h:Agr n e a) {t:Nat} {b:Bool} (ht:e t=some (.val (.bool b))):Agr n (e.set t (.lit b)) a:=by
  refine ⟨h.size,h.defers,fun j u hj=>?_⟩
  unfold Env.set at hj
  dsimp only at hj
  cases hb:Nat.beq j t with
  | true =>
    have:=Nat.eq_of_beq_eq_true hb;subst this
    rw [hb] at hj
    simp only [cond_true,Option.some.injEq] at hj
    subst hj
    have:=h.val j _ ht
    exact this
  | false =>
    rw [hb] at hj
    exact h.val j u hj
theorem ZbN {n:Nat} {e:Env} {a:Act} (h:Agr n e a) {d:Option Tmp} {v:EV} {K:Env→Prop} (hk:Zl5 n e d v K) :
    ∃ e',Agr n e' (a.put d v.v)∧K e':=by
  unfold Zl5 at hk
  cases d with
  | none=>exact ⟨e,h,hk⟩
  | some d =>
    simp only at hk
    cases hb:Nat.blt d n with
    | false=>rw [hb] at hk;exact hk.elim
    | true=>rw [hb] at hk;exact ⟨_,h.set hb v,hk⟩
section
variable (P:Program) (w:World)
theorem Zd0 {b o:Nat} {v:Value} (h:Zc.cell w.heap b o=some v) (m:Mode):(load ⟨b,o,none⟩ m).run P w = .ok v w:=by
  rw [run_load,Ze3,h]
theorem ZiX {b o:Nat} {u v:Value} (h:Zc.cell w.heap b o=some u) (hf:Zc.froz w.heap b o=false) (hv:Yd v=true) (m:Mode) :
    (store ⟨b,o,none⟩ v m).run P w = .ok () { w with heap:=Zc.put w.heap b o v }:=by
  have hv':v.oneCell'=true:=by cases v<;>first | rfl | (simp [Yd] at hv)
  rw [run_store P w _ v m hv',Ze3,h,Zt7,hf]
  simp only [Bool.false_eq_true,if_false,Zjr]
theorem Zf (t:TypeId) {d:TypeDesc} (h:P.underlying t=some d):(underlying t).run P w = .ok d w:=by
  unfold underlying
  simp [h]
theorem Zav (t:TypeId) {i:TypeInfo} (h:P.info? t=some i):(typeInfo t).run P w = .ok i w:=by
  unfold typeInfo
  simp [h]
theorem Y5 (t:TypeId) {i:TypeInfo} (h:P.info? t=some i):(sizeOf t).run P w = .ok i.size w:=by
  unfold sizeOf
  simp [Zav P w t h]
theorem XC (t:TypeId) {i:TypeInfo} {v:Value} (h:P.info? t=some i) (hv:i.zero=some v):(zeroValue t).run P w = .ok v w:=by
  unfold zeroValue
  simp [Zav P w t h,hv]
theorem Zad {t:TypeId} {d:TypeDesc} (h:P.underlying t=some d):∃ i,P.info? t=some i:=by
  unfold Program.underlying at h
  cases hi:P.info? t with
  | none=>simp [hi] at h
  | some i=>exact ⟨i,rfl⟩
theorem ZaR {t:TypeId} {i:TypeInfo} (h:P.info? t=some i):P.cellsOf t=i.size:=by
  unfold Program.cellsOf
  simp [h]
theorem ZcR (t:TypeId) {d:TypeDesc} (h:P.underlying t=some d):(isAgg t).run P w = .ok (ZaO (some d)) w:=by
  unfold isAgg
  simp only [Sem.run_bind,Zf P w t h,Result.andThen_ok]
  cases d<;>rfl
theorem ZdL (b o:Nat):∀ (vs:List Value) (i:Nat) (acc:Array Value),Zc.has w.heap b (o+i) vs →
    (loadCellsFrom ⟨b,o,none⟩ i vs.length acc).run P w = .ok (acc++vs.toArray) w
  | [],i,acc,_=>by simp [loadCellsFrom]
  | v::vs,i,acc,h=>by
    have h1:Zc.cell w.heap b (o+i)=some v:=h.1
    have h2:Zc.has w.heap b (o+i+1) vs:=h.2
    simp only [List.length_cons,loadCellsFrom,Sem.run_bind,Zg3,Zd0 P w h1,Result.andThen_ok]
    rw [ZdL b o vs (i+1) _ (by rw [← Nat.add_assoc];exact h2)]
    simp
theorem Zce (b o:Nat) (vs:List Value) (h:Zc.has w.heap b o vs):(loadCells ⟨b,o,none⟩ vs.length).run P w = .ok vs.toArray w:=by
  unfold loadCells
  rw [ZdL P w b o vs 0 #[] (by simpa using h)]
  simp
end
theorem ZmS {h:Zc} {b o b' o':Nat} {v:Value} (hne:b≠b'∨o≠o'):(h.put b o v).cell b' o'=h.cell b' o':=by
  unfold Zc.put Zc.cell
  simp only [Array.getElem?_modify]
  by_cases hb:b=b'
  ·subst hb
   have ho:o≠o':=hne.resolve_left (fun h=>h rfl)
   simp only [if_true]
   cases hh:h[b]? with
   | none=>rfl
   | some x=>cases x<;>simp [Array.getElem?_setIfInBounds_ne ho]
  ·simp [hb]
theorem Zsf {h:Zc} {b o b' o':Nat} {v:Value}:(h.put b o v).froz b' o'=h.froz b' o':=by
  unfold Zc.put Zc.froz
  simp only [Array.getElem?_modify]
  by_cases hb:b=b'
  ·subst hb
   simp only [if_true]
   cases hh:h[b]? with
   | none=>rfl
   | some x=>cases x<;>rfl
  ·simp [hb]
theorem ZnG {h:Zc} {b o:Nat} {v:Value}:∀ {n o':Nat},o<o'→h.free b o' n→(h.put b o v).free b o' n
  | 0,_,_,_=>trivial
  | n+1,o',hlt,hf=>by
    obtain ⟨⟨⟨u,hu⟩,hz⟩,hr⟩:=hf
    exact ⟨⟨⟨u,by rw [ZmS (.inr (by omega))];exact hu⟩,by rw [Zsf];exact hz⟩,ZnG (by omega) hr⟩
theorem ZcM (P:Program) (b o:Nat):∀ (vs:List Value) (i:Nat) (w:World),Zc.free w.heap b (o+i) vs.length→vs.all Yd=true →
    (storeCells ⟨b,o,none⟩ vs i).run P w = .ok () { w with heap:=Zc.puts w.heap b (o+i) vs }
  | [],i,w,_,_=>rfl
  | v::vs,i,w,hf,ha=>by
    obtain ⟨⟨⟨u,hu⟩,hz⟩,hr⟩:=hf
    simp only [List.all_cons,Bool.and_eq_true] at ha
    simp only [storeCells,Sem.run_bind,Zg3,ZiX P w hu hz ha.1,Result.andThen_ok]
    rw [ZcM P b o vs (i+1) _ (by rw [← Nat.add_assoc];exact ZnG (by omega) hr) ha.2]
    simp [Zc.puts,Nat.add_assoc]
theorem ZfH {d:Option TypeDesc} {h:Zc} {b o:Nat} {K:EV→Prop} (hk:Zif d h b o K) :
    ∃ v,h.cell b o=some v.v∧K v∧ZaO d=false∧d.isSome=true:=by
  unfold Zif at hk
  cases d with
  | none=>exact hk.elim
  | some d =>
    cases d<;>simp only at hk<;>first
      | exact hk.elim
      | (obtain ⟨x,hx,hK⟩:=hk;refine ⟨_,?_,hK,rfl,rfl⟩;exact hx)
theorem ZgL {h:Zc} {b o:Nat}:∀ {ds:List (Option TypeDesc)} {i:Nat} {K:List Value→Prop},Zsa h b o i ds K →
    ∃ vs,vs.length=ds.length∧h.has b (o+i) vs∧K vs
  | [],i,K,hk=>⟨[],rfl,trivial,hk⟩
  | d::ds,i,K,hk=>by
    obtain ⟨v,hc,hk,_⟩:=ZfH hk
    obtain ⟨vs,hl,hh,hk⟩:=ZgL hk
    rw [ZmX] at hc
    exact ⟨v.v::vs,by simp [hl],⟨hc,by rw [Nat.add_assoc];exact hh⟩,hk⟩
theorem ZnB {P:Program} {t:TypeId} {b o:Nat} {K:EV→Prop} {h:Zc} (hk:ldT P t h b o K) :
    ∃ v,(∀ w:World,w.heap=h→(loadVar t ⟨b,o,none⟩).run P w = .ok v.v w)∧K v:=by
  unfold ldT at hk
  cases hu:P.underlying t with
  | none=>rw [hu] at hk;simp [ZaO,Zif] at hk
  | some d =>
    obtain ⟨i,hi⟩:=Zad P hu
    rw [hu] at hk
    unfold loadVar
    cases ha:ZaO (some d) with
    | true =>
      rw [ha] at hk
      simp only [cond_true] at hk
      cases hl:Nat.beq (Zc4 P 8 t).length (P.cellsOf t) with
      | false=>rw [hl] at hk;exact hk.elim
      | true =>
        rw [hl] at hk
        obtain ⟨vs,hlen,hh,hk⟩:=ZgL hk
        have hs:i.size=vs.length:=by rw [hlen,Nat.eq_of_beq_eq_true hl,ZaR P hi]
        refine ⟨.val (.agg vs.toArray),fun w hw=>?_,hk⟩
        subst hw
        simp only [Sem.run_bind,ZcR P w t hu,ha,Result.andThen_ok,if_true,Y5 P w t hi,hs]
        rw [Zce P w b o vs (by simpa using hh)]
        rfl
    | false =>
      rw [ha] at hk
      obtain ⟨v,hc,hk,_⟩:=ZfH hk
      refine ⟨v,fun w hw=>?_,hk⟩
      subst hw
      simp only [Sem.run_bind,ZcR P w t hu,ha,Result.andThen_ok,Bool.false_eq_true,if_false]
      exact Zd0 P w hc _
def Zs1 (vs:List VT) (t:Xg vs):Value:=(Zdf (Xg.evs vs t)).v
def fen (r:Option Nat):Fence:={ fn:=fun _=>True,depth:=none,alive:=false,round:=r }
theorem Zeg {r:Option Nat} {n:Nat} {P:Program} {f:FuncId} {args:Array Value} {w:World} {R:Ending→World→Prop}:CallsIn (fen r) n P f args w R↔Calls P f args w R :=
  callsIn_wide (n:=n)
def ZcQ (res:List VT) (w:World) (K:Xg res→Zc→Prop) (Kp:Value→Zc→Prop):Ending→World→Prop:=fun e w' =>
  (∃ r,e = .returned (Zs1 res r)∧Same w w'∧K r w'.heap)∨(∃ v,e = .panicked [{ v,recovered:=false }]∧Same w w'∧Kp v w'.heap)
def ZsC (P:Program) (l:Nat) (vs:List Value) (w:World) (k:Bool→Zc→Prop):Prop :=
  ∃ fn tmps assign body,(Instr.yield l vs.toArray).run P w = .ok (.round l fn tmps assign body) w ∧
    RoundIn (fen none) 0 P l fn tmps assign body w fun e w'=>∃ b,e = .returned (.bool b)∧Same w w'∧k b w'.heap
def YOK (P:Program) (Y:Yld):Prop:=∀ l vs k w,Y l vs k w.heap→ZsC P l vs w k
structure Zo (P:Program) (f:FuncId) (s:Zh):Prop where
  named:∃ fn,P.funcs[f]?=some fn∧(fn.name == "runtime.NumGoroutine")=false∧fn.body.isNone=false
  calls:∀ (t:Xg s.args) (K:Xg s.res→Zc→Prop) (Kp:Value→Zc→Prop) (w:World),s.sem t K Kp w.heap →
    Calls P f ((Xg.evs s.args t).map EV.v).toArray w (ZcQ s.res w K Kp)
def ZbP.spec (s:ZbP) (Y:Yld):Zh:=⟨.yl::s.caps,[],fun t K _ h=>s.sem Y t.1 t.2 (fun h'=>K () h') h⟩
def Zrm (P:Program) (f:FuncId) (s:ZbP):Prop:=∀ Y,YOK P Y→Zo P f (s.spec Y)
def Zuu (P:Program) (f:FuncId):Prop:=∀ (t b:Nat) (es:Array MapEntry) (c:Nat) (w:World),w.heap[b]?=some (.map es c) →
  ∃ w',(callFunc f #[.iface t (.map (some b))]).run P w = .ok (.value (.iface t (.map (some w.heap.size)))) w'∧Same w w'∧w'.heap=w.heap.push (.map es c)
def Zn5 (P:Program) (name:String) (t:TypeId) (f:FuncId):Prop:=∀ (v:Value) (w:World),(method (P.types.size+Made.depth) t v name).run P w = .ok (f,v) w
structure Cfg.OK (c:Cfg):Prop where
  calls:∀ x,x∈c.calls→Zo c.P x.1 x.2
  ext:∀ f,f∈c.ext→Zuu c.P f
  dyn:∀ x,x∈c.dyn→Zn5 c.P x.1 x.2.1 x.2.2
  iters:∀ x,x∈c.iters→Zrm c.P x.1 x.2
  yld:YOK c.P c.yld
theorem Cfg.OK.at {c:Cfg} (h:c.OK) (r:Option Nat) (p:Value→Zc→Prop):Cfg.OK { c with rnd:=r,pan:=p }:=⟨h.calls,h.ext,h.dyn,h.iters,h.yld⟩
theorem ZF (P:Program):YOK P ZY:=fun _ _ _ _ h=>h.elim
theorem Zh2 {f:FuncId} {es:List EV}:∀ {l:List (FuncId × ZbP)} {p:Zri},Zou f es l=some p→(f,p.s)∈l∧Xg.un p.s.caps es=some p.t
  | [],p,h=>by simp [Zou] at h
  | (g,s)::r,p,h=>by
    simp only [Zou] at h
    cases hb:Nat.beq f g with
    | false =>
      rw [hb] at h
      have:=Zh2 (l:=r) h
      exact ⟨.tail _ this.1,this.2⟩
    | true =>
      rw [hb] at h
      have he:=Nat.eq_of_beq_eq_true hb
      subst he
      simp only [cond_true] at h
      split at h
      ·rename_i t ht
       simp only [Option.some.injEq] at h
       subst h
       exact ⟨.head _,ht⟩
      ·have:=Zh2 (l:=r) h
       exact ⟨.tail _ this.1,this.2⟩
theorem ZeH {f:FuncId} {es:List EV}:∀ {l:List (FuncId × Zh)} {p:Ztk},Zi3 f es l=some p→(f,p.s)∈l∧Xg.un p.s.args es=some p.t
  | [],p,h=>by simp [Zi3] at h
  | (g,s)::r,p,h=>by
    simp only [Zi3] at h
    cases hb:Nat.beq f g with
    | false =>
      rw [hb] at h
      have:=ZeH (l:=r) h
      exact ⟨.tail _ this.1,this.2⟩
    | true =>
      rw [hb] at h
      have he:=Nat.eq_of_beq_eq_true hb
      subst he
      simp only [cond_true] at h
      split at h
      ·rename_i t ht
       simp only [Option.some.injEq] at h
       subst h
       exact ⟨.head _,ht⟩
      ·have:=ZeH (l:=r) h
       exact ⟨.tail _ this.1,this.2⟩
theorem Zf1 {f:FuncId} {es:List EV}:∀ {l:List (FuncId × Zh)} {p:Zk0},Zi2 f es l=some p→(f,(⟨p.a0::p.rest,p.res,p.sem⟩:Zh))∈l∧Xg.un p.rest es=some p.t
  | [],p,h=>by simp [Zi2] at h
  | (g,⟨a0::rest,res,sem⟩)::r,p,h=>by
    simp only [Zi2] at h
    cases hb:Nat.beq f g with
    | false =>
      rw [hb] at h
      have:=Zf1 (l:=r) h
      exact ⟨.tail _ this.1,this.2⟩
    | true =>
      rw [hb] at h
      have he:=Nat.eq_of_beq_eq_true hb
      subst he
      simp only [cond_true] at h
      split at h
      ·rename_i t ht
       simp only [Option.some.injEq] at h
       subst h
       exact ⟨.head _,ht⟩
      ·have:=Zf1 (l:=r) h
       exact ⟨.tail _ this.1,this.2⟩
  | (g,⟨[],res,sem⟩)::r,p,h=>by
    simp only [Zi2] at h
    have:=Zf1 (l:=r) h
    exact ⟨.tail _ this.1,this.2⟩
theorem ZlP {calls:List (FuncId × Zh)} {Kp:Value→Zc→Prop} {name:String} {v:Value} {es:List EV} {h:Zc} {K:EV→Zc→Prop}:∀ {l:List (String × TypeId × FuncId)},Zuj calls Kp name v es h K l →
    ∃ (t:TypeId) (f:FuncId) (p:Zk0) (x:p.a0.D),(name,t,f)∈l∧v = .iface t (p.a0.ev x).v∧Zi2 f es calls=some p∧p.sem (x,p.t) (fun rr h'=>K (Zdf (Xg.evs p.res rr)) h') Kp h
  | [],hk=>hk.elim
  | (n,t,f)::r,hk=>by
    have tail:Zuj calls Kp name v es h K r→∃ (t':TypeId) (f':FuncId) (p:Zk0) (x:p.a0.D),(name,t',f')∈(n,t,f)::r∧v = .iface t' (p.a0.ev x).v∧Zi2 f' es calls=some p∧p.sem (x,p.t) (fun rr h'=>K (Zdf (Xg.evs p.res rr)) h') Kp h:=fun h9=>by
      obtain ⟨t',f',p,x,h1,h2,h3,h4⟩:=ZlP h9
      exact ⟨t',f',p,x,.tail _ h1,h2,h3,h4⟩
    simp only [Zuj] at hk
    cases hb:n ==name with
    | false=>rw [hb] at hk;exact tail hk
    | true =>
      rw [hb] at hk
      have he:n=name:=by simpa using hb
      subst he
      simp only [cond_true] at hk
      split at hk
      ·rename_i p hp
       rcases hk with ⟨x,hx,hk⟩ | hk
       ·exact ⟨t,f,p,x,.head _,hx,hp,hk⟩
       ·exact tail hk
      ·exact tail hk
theorem Zhq {calls:List (FuncId × Zh)} {Kp:Value→Zc→Prop} {v:Value} {es:List EV} {h:Zc} {K:EV→Zc→Prop}:∀ {l:List (FuncId × List Leaf)},fnP calls Kp v es h K l →
    ∃ (f:FuncId) (cs:List Value) (s:Zh) (t:Xg s.args),v = .func (.func f) #[] ⟨cs⟩∧Zi3 f (Zsx es cs) calls=some ⟨s,t⟩∧s.sem t (fun rr h'=>K (Zdf (Xg.evs s.res rr)) h') Kp h
  | [],hk=>hk.elim
  | (f,[])::r,hk=>by
    simp only [fnP] at hk
    split at hk
    ·rename_i s t hp
     rcases hk with ⟨hv,hk⟩ | hk
     ·exact ⟨f,[],s,t,hv,by simpa [Zsx] using hp,hk⟩
     ·exact Zhq hk
    ·exact Zhq hk
  | (f,l::ls)::r,hk=>by
    simp only [fnP] at hk
    rcases hk with ⟨c,hv,hk⟩ | hk
    ·split at hk
     ·rename_i s t hp
      exact ⟨f,_,s,t,hv,hp,hk⟩
     ·exact hk.elim
    ·exact Zhq hk
theorem ZnF {f:FuncId}:∀ {l:List FuncId},Zuz f l=true→f∈l
  | [],h=>by simp [Zuz] at h
  | g::r,h=>by
    simp only [Zuz] at h
    cases hb:Nat.beq f g with
    | true=>rw [Nat.eq_of_beq_eq_true hb];exact .head _
    | false=>rw [hb] at h;exact .tail _ (ZnF h)
theorem ZvA {l:Leaf} {v:Value} {x:l.D} (h:l.un v=some x):l.mk x=v:=by
  cases l<;>cases v<;>simp only [Leaf.un] at h<;>first
    | (split at h
       ·simp only [Option.some.injEq] at h;subst h;rename_i hk;subst hk;rfl
       ·cases h)
    | (simp only [Option.some.injEq] at h;subst h;rfl)
    | cases h
theorem Zpy:∀ {ls:List Leaf} {vs:List Value} {t:Tup ls},Tup.un ls vs=some t→Tup.vals ls t=vs
  | [],[],t,_=>rfl
  | [],_::_,t,h=>by simp [Tup.un] at h
  | _::_,[],t,h=>by simp [Tup.un] at h
  | l::ls,v::vs,t,h=>by
    simp only [Tup.un] at h
    split at h
    ·rename_i x t' h1 h2
     simp only [Option.some.injEq] at h
     subst h
     simp only [Tup.vals,ZvA h1,Zpy h2]
    ·cases h
theorem Zsh {f:FuncId} {e:EV} {x:Unit} (h:fnU f e=some x):(EV.val (.func (.func f) #[] #[])).v=e.v:=by
  unfold fnU at h
  split at h
  ·rename_i g
   cases hb:Nat.beq f g with
   | false=>rw [hb] at h;cases h
   | true=>rw [Nat.eq_of_beq_eq_true hb]
  ·cases h
theorem Zq3 {f:FuncId} {ls:List Leaf} {e:EV} {x:Tup ls} (h:Zyz f ls e=some x):(EV.val (.func (.func f) #[] ⟨Tup.vals ls x⟩)).v=e.v:=by
  unfold Zyz at h
  split at h
  ·rename_i g cs
   cases hb:Nat.beq f g with
   | false=>rw [hb] at h;cases h
   | true =>
     rw [hb] at h
     rw [Nat.eq_of_beq_eq_true hb,Zpy (ls:=ls) (vs:=cs) h]
  ·cases h
theorem Zrt {e:EV} {l:Nat} (h:ylU e=some l):(EV.val (.func (.yield l) #[] #[])).v=e.v:=by
  unfold ylU at h
  split at h
  ·simp only [Option.some.injEq] at h;subst h;rfl
  ·cases h
theorem Zyd {v:VT} {e:EV} {x:v.D} (h:v.un e=some x):(v.ev x).v=e.v:=by
  cases v with
  | one l=>exact ZvA (v:=e.v) h
  | agg ls =>
    cases e with
    | val u =>
      cases u with
      | agg cs =>
        have:=Zpy (ls:=ls) (vs:=cs.toList) h
        show Value.agg (Tup.vals ls x).toArray = .agg cs
        rw [this]
      | _=>simp [VT.un] at h
    | lit b=>simp [VT.un] at h
    | adr b o=>simp [VT.un] at h
    | itr t b=>simp [VT.un] at h
    | more k v=>simp [VT.un] at h
    | over=>simp [VT.un] at h
  | fn f=>exact Zsh h
  | clo f ls=>exact Zq3 h
  | yl=>exact Zrt h
theorem ZdZ:∀ {vs:List VT} {es:List EV} {t:Xg vs},Xg.un vs es=some t→(Xg.evs vs t).map EV.v=es.map EV.v
  | [],[],t,_=>rfl
  | [],_::_,t,h=>by simp [Xg.un] at h
  | _::_,[],t,h=>by simp [Xg.un] at h
  | v::vs,e::es,t,h=>by
    simp only [Xg.un] at h
    split at h
    ·rename_i x t' h1 h2
     simp only [Option.some.injEq] at h
     subst h
     simp only [Xg.evs,List.map_cons,Zyd h1,ZdZ h2]
    ·cases h
theorem Zqh {P:Program} {ρ:Operand→Value} {o:Oper} {w w':World} {n:Next} (hr:(execOp ρ o).run P w = .ok n w') (hn:∀ d,n≠ .defer d):∀ c,o.op≠ .defer c:=by
  intro c hc
  unfold execOp at hr
  rw [hc] at hr
  simp only [Sem.run_bind] at hr
  cases h:(resolve ρ c o.type).run P w with
  | ok d w1 =>
    rw [h] at hr
    simp only [Result.andThen_ok,Sem.run_pure] at hr
    cases hr
    exact hn _ rfl
  | halt x w1 =>
    rw [h] at hr
    cases hr
theorem ZfU {P:Program} {r:Option Nat} {ρ:Operand→Value} {o:Oper} {w w':World} {n:Next} (hr:(execOp ρ o).run P w = .ok n w') (hn:∀ d,n≠ .defer d):(o.semAt r ρ).run P w = .ok n w':=by
  rw [Oper.semAt_eq _ _ _ (Zqh hr hn)]
  exact hr
theorem ZsS {P:Program} {r:Option Nat} {o:Oper} {a:Act} {w w':World} {v:Value} {next:Act→World→Prop} {Q:Exit→Act→World→Prop}
    (hr:(execOp a.eval o).run P w = .ok (.value v) w') (hn:next (a.put o.dst v) w'):o.wpIn (fen r) 0 P a w next Q:=by
  refine ⟨fun _ _=>trivial,?_⟩
  rw [show (fen r).round=r from rfl,ZfU hr (fun _ h=>by cases h)]
  exact hn
theorem Zna {P:Program} {r:Option Nat} {o:Oper} {a:Act} {w w':World} {next:Act→World→Prop} {Q:Exit→Act→World→Prop}
    (hr:(execOp a.eval o).run P w = .ok .skip w') (hn:next (a.put o.dst undef) w'):o.wpIn (fen r) 0 P a w next Q:=by
  refine ⟨fun _ _=>trivial,?_⟩
  rw [show (fen r).round=r from rfl,ZfU hr (fun _ h=>by cases h)]
  exact hn
theorem Zj5 {P:Program} {r:Option Nat} {o:Oper} {a:Act} {w:World} {f:FuncId} {args:Array Value} {next:Act→World→Prop} {Q:Exit→Act→World→Prop}
    (hr:(execOp a.eval o).run P w = .ok (.enter f args) w) (hc:Calls P f args w fun
      | .returned v,w''=>next (a.put o.dst v) w''
      | .panicked chain,w''=>Q (.panic chain) a w''
      | .outgrown,_=>LetsOut Q):o.wpIn (fen r) 0 P a w next Q:=by
  refine ⟨fun _ _=>trivial,?_⟩
  rw [show (fen r).round=r from rfl,ZfU hr (fun _ h=>by cases h)]
  exact ⟨fun h=>(by cases h),Zeg.2 hc⟩
theorem Zru {P:Program} {r:Option Nat} {o:Oper} {a:Act} {w:World} {l:Nat} {f:FuncId} {tmps:Array Value} {assign body:Code} {next:Act→World→Prop} {Q:Exit→Act→World→Prop}
    (hr:(execOp a.eval o).run P w = .ok (.round l f tmps assign body) w) {k:Bool→World→Prop} (hc:RoundIn (fen none) 0 P l f tmps assign body w fun e w'=>∃ b,e = .returned (.bool b)∧k b w')
    (hn:∀ b w',k b w'→next (a.put o.dst (.bool b)) w'):o.wpIn (fen r) 0 P a w next Q:=by
  refine ⟨fun _ _=>trivial,?_⟩
  rw [show (fen r).round=r from rfl,ZfU hr (fun _ h=>by cases h)]
  refine ⟨fun h=>(by cases h),?_⟩
  have hc':RoundIn (fen r) (0 - 1) P l f tmps assign body w fun e w'=>∃ b,e = .returned (.bool b)∧k b w':=hc
  refine hc'.mono ?_
  rintro e w' ⟨b,rfl,hb⟩
  exact hn _ _ hb
theorem Zrv {P:Program} {r:Option Nat} {o:Oper} {a:Act} {w:World} {v:Value} {next:Act→World→Prop} {Q:Exit→Act→World→Prop}
    (hd:∀ c,o.op≠ .defer c) (hr:(execOp a.eval o).run P w = .halt (.panic v) w) (hq:Q (.panic [{ v,recovered:=false }]) a w):o.wpIn (fen r) 0 P a w next Q:=by
  refine ⟨fun _ _=>trivial,?_⟩
  rw [show (fen r).round=r from rfl,Oper.semAt_eq _ _ _ hd,hr]
  exact hq
theorem ZpR {P:Program} {w w':World} {s:Sem Value} {v:Value} (h:s.run P w = .ok v w') :
    (do pure (.value (← s)):Sem Next).run P w = .ok (.value v) w':=by
  simp [h]
theorem ZvI {P:Program} {w w':World} {s:Sem Unit} (h:s.run P w = .ok () w') :
    (do s;pure .skip:Sem Next).run P w = .ok .skip w':=by
  simp [h]
theorem Zsz {P:Program} {op:BinOp} {t:TypeId} {x y:EV} {K:EV→Prop} (hk:Zti op x y K):∃ v,(∀ w,(binOp op t x.v y.v).run P w = .ok v.v w)∧K v:=by
  unfold Zti at hk
  split at hk
  ·rename_i k a k' b
   cases op<;>simp only at hk
   case shl =>
     obtain ⟨h0,hk⟩:=hk
     refine ⟨_,fun w=>?_,hk⟩
     simp only [EV.v,binOp,Op.shift,if_neg (Int.not_lt.2 h0)]
     rfl
   case shr =>
     obtain ⟨h0,hk⟩:=hk
     refine ⟨_,fun w=>?_,hk⟩
     simp only [EV.v,binOp,Op.shift,if_neg (Int.not_lt.2 h0)]
     rfl
   all_goals
     rcases Decidable.em (k=k') with he | he
     case inr=>rw [if_neg he] at hk;exact hk.elim
     subst he
     rw [if_pos rfl] at hk
     first
     | exact hk.elim
     | (obtain ⟨h0,hk⟩:=(show ZaY _ _ from hk)
        refine ⟨_,fun w=>?_,hk⟩
        simp only [EV.v,binOp,ne_eq,not_true,if_false,Op.intDiv,if_neg h0]
        rfl)
     | (refine ⟨_,fun w=>?_,hk⟩;simp only [EV.v,binOp,ne_eq,not_true,if_false];rfl)
  ·rename_i a b
   cases op<;>simp only at hk
   case add =>
     obtain ⟨h0,hk⟩:=hk
     refine ⟨_,fun w=>?_,hk⟩
     have:¬ (((a.size+b.size:Nat):Int)>IntKind.i64.max):=by
       have:IntKind.i64.max=9223372036854775807:=by decide
       rw [this];omega
     simp only [EV.v,binOp,Op.stringOp,if_neg this]
     rfl
   all_goals first
     | exact hk.elim
     | (refine ⟨_,fun w=>?_,hk⟩;rfl)
  ·exact hk.elim
section
variable {P:Program} {t:TypeId} (w:World)
theorem Zga {e:TypeId} (hu:P.underlying t=some (.pointer e)) (p:Option Addr):(Op.equal t (.pointer p) (.pointer none)).run P w = .ok p.isNone w:=by
  unfold Op.equal Op.maxDepth
  rw [show (10000:Nat)=9999+1 from rfl]
  unfold Op.equalIn
  simp only [Sem.run_bind,Zf P w t hu,Result.andThen_ok]
  cases p<;>rfl
theorem Ziu {e:TypeId} (hu:P.underlying t=some (.slice e)) (p:Option Addr) (n m n' m':Nat):(Op.equal t (.slice p n m) (.slice none n' m')).run P w = .ok p.isNone w:=by
  unfold Op.equal Op.maxDepth
  rw [show (10000:Nat)=9999+1 from rfl]
  unfold Op.equalIn
  simp only [Sem.run_bind,Zf P w t hu,Result.andThen_ok]
  cases p<;>rfl
theorem ZkS {k e:TypeId} (hu:P.underlying t=some (.map k e)) (p:Option Nat):(Op.equal t (.map p) (.map none)).run P w = .ok p.isNone w:=by
  unfold Op.equal Op.maxDepth
  rw [show (10000:Nat)=9999+1 from rfl]
  unfold Op.equalIn
  simp only [Sem.run_bind,Zf P w t hu,Result.andThen_ok]
  cases p<;>rfl
theorem ZkR {ms:Array (String × TypeId)} (hu:P.underlying t=some (.interface ms)):(Op.equal t .nilIface .nilIface).run P w = .ok true w:=by
  unfold Op.equal Op.maxDepth
  rw [show (10000:Nat)=9999+1 from rfl]
  unfold Op.equalIn
  simp only [Sem.run_bind,Zf P w t hu,Result.andThen_ok]
  rfl
theorem Ziv {ms:Array (String × TypeId)} (hu:P.underlying t=some (.interface ms)) (t2:TypeId) (u:Value):(Op.equal t (.iface t2 u) .nilIface).run P w = .ok false w:=by
  unfold Op.equal Op.maxDepth
  rw [show (10000:Nat)=9999+1 from rfl]
  unfold Op.equalIn
  simp only [Sem.run_bind,Zf P w t hu,Result.andThen_ok]
  rfl
theorem Zi7 {ps rs:Array TypeId} {vr:Bool} (hu:P.underlying t=some (.func ps rs vr)):(Op.equal t .nilFunc .nilFunc).run P w = .ok true w:=by
  unfold Op.equal Op.maxDepth
  rw [show (10000:Nat)=9999+1 from rfl]
  unfold Op.equalIn
  simp only [Sem.run_bind,Zf P w t hu,Result.andThen_ok]
  rfl
theorem Zi8 {ps rs:Array TypeId} {vr:Bool} (hu:P.underlying t=some (.func ps rs vr)) (f:Fn) (a b:Array Value):(Op.equal t (.func f a b) .nilFunc).run P w = .ok false w:=by
  unfold Op.equal Op.maxDepth
  rw [show (10000:Nat)=9999+1 from rfl]
  unfold Op.equalIn
  simp only [Sem.run_bind,Zf P w t hu,Result.andThen_ok]
  rfl
theorem ZoQ (hu:P.underlying t=some .bool) (a b:Bool):(Op.equal t (.bool a) (.bool b)).run P w = .ok (a ==b) w:=by
  unfold Op.equal Op.maxDepth
  rw [show (10000:Nat)=9999+1 from rfl]
  unfold Op.equalIn
  simp only [Sem.run_bind,Zf P w t hu,Result.andThen_ok]
  rfl
end
theorem Zuh {P:Program} {t:TypeId} {neg:Bool} {x y:EV} {K:EV→Prop} (hk:eqP (P.underlying t) neg x y K) :
    ∃ v,(∀ w,(binOp (bif neg then .neq else .eql) t x.v y.v).run P w = .ok v.v w)∧K v:=by
  unfold eqP at hk
  split at hk
  ·rename_i e b o hu
   refine ⟨_,fun w=>?_,hk⟩
   have:=Zga w hu (some ⟨b,o,none⟩)
   cases neg<;>simp only [cond_true,cond_false,EV.v,binOp,Sem.run_bind,this,Result.andThen_ok]<;>rfl
  ·rename_i e p hu
   refine ⟨_,fun w=>?_,hk⟩
   have:=Zga w hu p
   cases neg<;>simp only [cond_true,cond_false,EV.v,binOp,Sem.run_bind,this,Result.andThen_ok]<;>cases p<;>rfl
  ·rename_i e p n m n' m' hu
   refine ⟨_,fun w=>?_,hk⟩
   have:=Ziu w hu p n m n' m'
   cases neg<;>simp only [cond_true,cond_false,EV.v,binOp,Sem.run_bind,this,Result.andThen_ok]<;>cases p<;>rfl
  ·rename_i k e p hu
   refine ⟨_,fun w=>?_,hk⟩
   have:=ZkS w hu p
   cases neg<;>simp only [cond_true,cond_false,EV.v,binOp,Sem.run_bind,this,Result.andThen_ok]<;>cases p<;>rfl
  ·rename_i hu
   split at hk
   ·rename_i a b hx hy
    refine ⟨_,fun w=>?_,hk⟩
    have:=ZoQ w hu a b
    rw [hx,hy]
    cases neg<;>simp only [cond_true,cond_false,EV.v,binOp,Sem.run_bind,this,Result.andThen_ok]<;>rfl
   ·exact hk.elim
  ·exact hk.elim
theorem ZlM (off:Nat):∀ (l:List Value) (k:Nat) (cs:Array Value),off+k+l.length≤cs.size →
    ((l.zipIdx k).foldl (fun cs x=>cs.setIfInBounds (off+x.2) x.1) cs).toList=cs.toList.take (off+k)++l++cs.toList.drop (off+k+l.length)
  | [],k,cs,h=>by simp
  | v::l,k,cs,h=>by
    simp only [List.zipIdx_cons,List.foldl_cons,List.length_cons] at h ⊢
    rw [ZlM off l (k+1) _ (by simp;omega)]
    have hlt:off+k<cs.toList.length:=by simp;omega
    simp only [Array.toList_setIfInBounds]
    rw [show off+(k+1)=off+k+1 from by omega,List.take_succ_eq_append_getElem (by simp;omega),List.take_set_of_le (by omega),List.drop_set_of_lt (by omega)]
    simp
    omega
def Zut (place:Nat→Option (Nat × Nat)) (n:Nat):List (Nat × Value)→List (Nat × List Value)→Prop
  | [],[]=>True
  | p::ps,q::l=>place p.1=some (q.1,q.2.length)∧p.2.cells.toList=q.2∧q.1+q.2.length≤n∧Zut place n ps l
  | _,_=>False
theorem ZdA (place:Nat→Option (Nat × Nat)) (n:Nat):∀ (ps:List (Nat × Value)) (l:List (Nat × List Value)) (cs:Array Value),
    cs.size=n→Zut place n ps l→Instr.fill place cs ps=some (Zdi cs.toList l).toArray
  | [],[],cs,_,_=>by simp [Instr.fill,Zdi]
  | [],_::_,cs,_,h=>h.elim
  | _::_,[],cs,_,h=>h.elim
  | (i,v)::ps,(o,vs)::l,cs,hn,h=>by
    obtain ⟨hp,hv,hle,h2⟩:=h
    simp only at hp hv hle
    have hlen:v.cells.size=vs.length:=by rw [← hv];simp
    have hfold:(v.cells.zipIdx.foldl (fun cs x=>match x with | (c,j)=>cs.setIfInBounds (o+j) c) cs).toList=cs.toList.take o++vs++cs.toList.drop (o+vs.length):=by
      rw [← Array.foldl_toList,Array.toList_zipIdx,hv]
      have:=ZlM o vs 0 cs (by omega)
      simpa using this
    have hsz:(v.cells.zipIdx.foldl (fun cs x=>match x with | (c,j)=>cs.setIfInBounds (o+j) c) cs).size=n:=by
      rw [← Array.length_toList,hfold]
      simp
      omega
    have ih:=ZdA place n ps l _ hsz h2
    rw [hfold] at ih
    have hno:¬ (o+vs.length>cs.size):=by omega
    simp only [Instr.fill,hp,hlen,ne_eq,not_true,decide_false,Bool.false_or,hno,Zdi]
    exact ih
theorem ZiE (v:EV):v.v.cells.toList=Zge v:=by
  cases v with
  | val v=>cases v<;>rfl
  | lit b=>rfl
  | adr b o=>rfl
  | itr t b=>rfl
  | more k v=>rfl
  | over=>rfl
theorem ZkW (v:EV):v.v.cells=(Zge v).toArray:=by
  rw [← ZiE]
section
variable {c:Cfg} {e:Env} {a:Act} {n:Nat}
theorem Zqa {u:Value} (h:Yd u=true):u.cells.toList=[u]:=by
  cases u<;>first | rfl | cases h
theorem Zq4 {d:Option TypeDesc} {v:EV} (h:ZqC d=true→Yd v.v=true):v.v.cells.toList=ZiF d v:=by
  unfold ZiF
  cases hb:ZqC d with
  | true=>exact Zqa (h hb)
  | false=>exact ZiE v
theorem ZjF:∀ {l:List Value} {K:Prop},ZtT l K→(∀ u,u∈l→Yd u=true)∧K
  | [],_,h=>⟨fun _ h9=>(by cases h9),h⟩
  | v::vs,K,h=>by
    obtain ⟨h1,h2⟩:=ZjF h.2
    refine ⟨fun u hu=>?_,h2⟩
    rcases List.mem_cons.1 hu with rfl | hu
    ·exact h.1
    ·exact h1 u hu
theorem ZgZ (P:Program) (fs:List Field) (hag:Agr n e a) (k:Nat):∀ {ps:List (Nat × Operand)} {l:List (Nat × List Value)},Zh1 P fs e k ps=some l→(∀ u,u∈Zk9 P fs e ps→Yd u=true) →
    Zut (fun i=>(fs[i]?).map fun f=>(f.offset,P.cellsOf f.type)) k (ps.map fun x=>(x.1,a.eval x.2)) l
  | [],l,h,_=>by simp only [Zh1,Option.some.injEq] at h;subst h;exact trivial
  | (i,x)::r,l,h,hone=>by
    simp only [Zh1] at h
    split at h
    ·rename_i f v l' hf hv hl
     have hone1:ZqC (P.underlying f.type)=true→Yd v.v=true:=fun hb=>hone _ (by unfold Zk9;rw [hf,hv];simp [hb])
     have hone2:∀ u,u∈Zk9 P fs e r→Yd u=true:=fun u hu=>hone u (by
       unfold Zk9
       rw [hf,hv]
       dsimp only
       cases ZqC (P.underlying f.type) with
       | true=>exact List.mem_cons_of_mem _ hu
       | false=>exact hu)
     cases h1:Nat.beq (ZiF (P.underlying f.type) v).length (P.cellsOf f.type) with
     | false=>rw [h1] at h;cases h
     | true =>
       rw [h1] at h
       simp only [cond_true] at h
       cases h2:Nat.ble (f.offset+(ZiF (P.underlying f.type) v).length) k with
       | false=>rw [h2] at h;cases h
       | true =>
         rw [h2] at h
         simp only [cond_true,Option.some.injEq] at h
         subst h
         refine ⟨?_,?_,Nat.le_of_ble_eq_true h2,ZgZ P fs hag k hl hone2⟩
         ·simp [hf,Nat.eq_of_beq_eq_true h1]
         ·simp only [hag.ev hv,Zq4 hone1]
    ·cases h
theorem ZeG (size:Nat) (hag:Agr n e a) (k:Nat):∀ {ps:List (Nat × Operand)} {l:List (Nat × List Value)},ZgE size e k ps=some l →
    Zut (fun i=>some (i*size,size)) k (ps.map fun x=>(x.1,a.eval x.2)) l
  | [],l,h=>by simp only [ZgE,Option.some.injEq] at h;subst h;exact trivial
  | (i,x)::r,l,h=>by
    simp only [ZgE] at h
    split at h
    ·rename_i v l' hv hl
     cases h1:Nat.beq (Zge v).length size with
     | false=>rw [h1] at h;cases h
     | true =>
       rw [h1] at h
       simp only [cond_true] at h
       cases h2:Nat.ble (i*size+(Zge v).length) k with
       | false=>rw [h2] at h;cases h
       | true =>
         rw [h2] at h
         simp only [cond_true,Option.some.injEq] at h
         subst h
         refine ⟨?_,?_,Nat.le_of_ble_eq_true h2,ZeG size hag k hl⟩
         ·simp [Nat.eq_of_beq_eq_true h1]
         ·simp only [hag.ev hv,ZiE]
    ·cases h
theorem Zfl {x:EV} {K:Nat→Nat→Prop} (h:atP x K):∃ b o,x.v = .pointer (some ⟨b,o,none⟩)∧K b o:=by
  unfold atP at h
  split at h
  ·exact ⟨_,_,rfl,h⟩
  ·obtain ⟨b,o,rfl,h⟩:=h;exact ⟨b,o,rfl,h⟩
  ·exact h.elim
theorem Zb1 {P:Program} {t:TypeId} {zs:List Value} (h:Zg5 P t=some zs):∃ i v,P.info? t=some i∧i.zero=some v∧v.cells.toList=zs:=by
  unfold Zg5 at h
  split at h
  ·rename_i i hi
   split at h
   ·rename_i v hv
    simp only [Option.some.injEq] at h
    exact ⟨i,v,hi,hv,h⟩
   ·cases h
  ·cases h
theorem Zc9 {P:Program} {t:TypeId} {s b:Nat} (h:Zmi P t=some (s,b)):∃ i,P.info? t=some i∧i.size=s∧i.bytes=b:=by
  unfold Zmi at h
  split at h
  ·rename_i i hi
   simp only [Option.some.injEq,Prod.mk.injEq] at h
   exact ⟨i,hi,h.1,h.2⟩
  ·cases h
theorem ZrG {P:Program} {t:TypeId} {b o:Nat} {v:EV} {K:Zc→Prop} {w:World} (h:stT P t w.heap b o v K) :
    ∃ h',(storeVar t ⟨b,o,none⟩ v.v).run P w = .ok () { w with heap:=h' }∧K h':=by
  have key:∀ (i:TypeInfo) (vs:List Value),P.info? t=some i→i.size=vs.length→v.v.cells=vs.toArray→Zc.free w.heap b o vs.length→vs.all Yd=true →
      (storeVar t ⟨b,o,none⟩ v.v).run P w = .ok () { w with heap:=Zc.puts w.heap b o vs }:=by
    intro i vs hi hs hc hf ha
    unfold storeVar
    simp only [Sem.run_bind,Y5 P w t hi,Result.andThen_ok,hc,hs,List.size_toArray,ne_eq,not_true,if_false]
    have:=ZcM P b o vs 0 w (by simpa using hf) ha
    simpa using this
  have one:ZaO (P.underlying t)=false→Nat.beq (P.cellsOf t) 1=true→(∀ cs,v.v≠ .agg cs)→st w.heap b o v.v K →
      ∃ h',(storeVar t ⟨b,o,none⟩ v.v).run P w = .ok () { w with heap:=h' }∧K h':=by
    intro hA h1 hne hst
    obtain ⟨⟨u,hu⟩,hf,hone,hk⟩:=hst
    have hsz:=Nat.eq_of_beq_eq_true h1
    cases hi:P.info? t with
    | none=>unfold Program.cellsOf at hsz;simp [hi] at hsz
    | some i =>
      rw [ZaR P hi] at hsz
      refine ⟨_,key i [v.v] hi (by simp [hsz]) ?_ ⟨⟨⟨u,hu⟩,hf⟩,trivial⟩ (by simp [hone]),hk⟩
      cases hv:v.v<;>first | rfl | exact absurd hv (hne _)
  unfold stT at h
  split at h
  ·rename_i cs
   cases hA:ZaO (P.underlying t) with
   | false=>rw [hA] at h;exact h.elim
   | true =>
     rw [hA] at h
     simp only [cond_true] at h
     cases h1:Nat.beq cs.toList.length (P.cellsOf t) with
     | false=>rw [h1] at h;exact h.elim
     | true =>
       rw [h1] at h
       obtain ⟨hf,ha,hk⟩:=h
       have hsz:=Nat.eq_of_beq_eq_true h1
       cases hi:P.info? t with
       | none =>
         unfold Program.underlying at hA
         simp [hi,ZaO] at hA
       | some i =>
         rw [ZaR P hi] at hsz
         exact ⟨_,key i cs.toList hi hsz.symm rfl hf ha,hk⟩
  ·rename_i v' hne
   cases hA:ZaO (P.underlying t) with
   | true=>rw [hA] at h;exact h.elim
   | false =>
     rw [hA] at h
     simp only [cond_false] at h
     cases h1:Nat.beq (P.cellsOf t) 1 with
     | false=>rw [h1] at h;exact h.elim
     | true =>
       rw [h1] at h
       refine one hA h1 (fun cs hcs=>?_) h
       cases v with
       | val u=>simp only [EV.v] at hcs;subst hcs;exact hne cs rfl
       | lit b=>cases hcs
       | adr b o=>cases hcs
       | itr t b=>cases hcs
       | more k v=>cases hcs
       | over=>cases hcs
theorem ZdV (zs:List Value) (n:Nat):(X4 zs n).length=n*zs.length:=by
  simp [X4]
theorem Zir (zs:List Value):∀ (n i:Nat),i<n*zs.length→(X4 zs n)[i]?=zs[i % zs.length]?
  | 0,i,h=>by omega
  | n+1,i,h=>by
    unfold X4
    rw [List.replicate_succ,List.flatten_cons]
    rcases Nat.lt_or_ge i zs.length with hi | hi
    ·rw [List.getElem?_append_left hi,Nat.mod_eq_of_lt hi]
    ·rw [List.getElem?_append_right hi]
     have:=Zir zs n (i - zs.length) (by rw [Nat.succ_mul] at h;omega)
     unfold X4 at this
     rw [this,Nat.mod_eq_sub_mod hi]
theorem Zfx (zs:Array Value) (n m:Nat) (h:m=n*zs.size):((Array.range m).map (zs[· % zs.size]!)).toList=X4 zs.toList n:=by
  subst h
  apply List.ext_getElem?
  intro i
  simp only [Array.toList_map,Array.toList_range,List.getElem?_map]
  rcases Nat.lt_or_ge i (n*zs.size) with hi | hi
  ·rw [Zir _ _ _ (by simpa using hi)]
   have hpos:0<zs.size:=by rcases Nat.eq_zero_or_pos zs.size with h0 | h0;· rw [h0] at hi;omega
                           ·exact h0
   have hm:i % zs.size<zs.size:=Nat.mod_lt _ hpos
   simp [hi,hm]
  ·rw [List.getElem?_eq_none (by simpa using hi)]
   rw [List.getElem?_eq_none (by rw [ZdV];simpa using hi)]
   rfl
end
end Go.Fw
