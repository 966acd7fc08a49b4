/- The reading of a function's code as a condition on memory: what each operation, region and statement asks and leaves. Definitions alone. -/
import Derived.Sort.QuietThIn
import Derived.OrdersHeld
import Derived.Laws.Sem
import Derived.Laws.World
import Derived.RangeFuncLeaves
import Derived.RangeFuncRecord
import Derived.Test.YthbfgkphlmlihaaGreatPa2
set_option linter.unusedVariables false
set_option linter.unusedSimpArgs false
namespace Go.Fw
open Go
inductive Leaf where
  | I (k:IntKind) | B | S | P | L | M | V
abbrev Leaf.D:Leaf→Type
  | .I _=>Int | .B=>Bool | .S=>ByteArray | .P=>Option Addr | .L=>Sl | .M=>Option Nat | .V=>Value
def Leaf.mk:(l:Leaf)→l.D→Value
  | .I k,n=> .int k n | .B,b=> .bool b | .S,s=> .string s | .P,p=> .pointer p | .L,s=> .slice s.ptr s.len s.cap | .M,m=> .map m | .V,v=>v
def Leaf.un:(l:Leaf)→Value→Option l.D
  | .I k,.int k' n=>if k'=k then some n else none
  | .B,.bool b=>some b
  | .S,.string s=>some s
  | .P,.pointer p=>some p
  | .L,.slice p l c=>some ⟨p,l,c⟩
  | .M,.map m=>some m
  | .V,v=>some v
  | _,_=>none
abbrev Tup:List Leaf→Type
  | []=>Unit
  | l::ls=>l.D × Tup ls
def Tup.vals:(ls:List Leaf)→Tup ls→List Value
  | [],_=>[]
  | l::ls,t=>l.mk t.1::Tup.vals ls t.2
def Tup.un:(ls:List Leaf)→List Value→Option (Tup ls)
  | [],[]=>some ()
  | l::ls,v::vs=>match l.un v,Tup.un ls vs with
    | some x,some t=>some (x,t)
    | _,_=>none
  | _,_=>none
inductive VT where
  | one (l:Leaf) | agg (ls:List Leaf) | fn (f:FuncId) | clo (f:FuncId) (ls:List Leaf) | yl
abbrev VT.D:VT→Type
  | .one l=>l.D
  | .agg ls=>Tup ls
  | .fn _=>Unit
  | .clo _ ls=>Tup ls
  | .yl=>Nat
abbrev Xa:List VT→Type
  | []=>Unit
  | v::vs=>v.D × Xa vs
inductive EV where
  | val (v:Value) | lit (b:Bool) | adr (b o:Nat) | itr (t:TypeId) (b:Nat) | more (k v:Value) | over
def EV.v:EV→Value
  | .val v=>v
  | .lit b=> .bool b
  | .adr b o=> .pointer (some ⟨b,o,none⟩)
  | .itr _ b=> .pointer (some ⟨b,0,none⟩)
  | .more k v=> .tuple #[.bool true,k,v]
  | .over=> .tuple #[.bool false]
def VT.ev:(v:VT)→v.D→EV
  | .one l,x=> .val (l.mk x)
  | .agg ls,x=> .val (.agg (Tup.vals ls x).toArray)
  | .fn f,_=> .val (.func (.func f) ⟨[]⟩ ⟨[]⟩)
  | .clo f ls,x=> .val (.func (.func f) ⟨[]⟩ ⟨Tup.vals ls x⟩)
  | .yl,l=> .val (.func (.yield l) ⟨[]⟩ ⟨[]⟩)
def fnU (f:FuncId):EV→Option Unit
  | .val (.func (.func g) ⟨[]⟩ ⟨[]⟩)=>bif Nat.beq f g then some () else none
  | _=>none
def ZAz (f:FuncId) (ls:List Leaf):EV→Option (Tup ls)
  | .val (.func (.func g) ⟨[]⟩ ⟨cs⟩)=>bif Nat.beq f g then Tup.un ls cs else none
  | _=>none
def ylU:EV→Option Nat
  | .val (.func (.yield l) ⟨[]⟩ ⟨[]⟩)=>some l
  | _=>none
def VT.un:(v:VT)→EV→Option v.D
  | .one l,e=>l.un e.v
  | .agg ls,.val (.agg cs)=>Tup.un ls cs.toList
  | .agg _,_=>none
  | .fn f,e=>fnU f e
  | .clo f ls,e=>ZAz f ls e
  | .yl,e=>ylU e
def Xa.evs:(vs:List VT)→Xa vs→List EV
  | [],_=>[]
  | v::vs,t=>v.ev t.1::Xa.evs vs t.2
def Xa.un:(vs:List VT)→List EV→Option (Xa vs)
  | [],[]=>some ()
  | v::vs,e::es=>match v.un e,Xa.un vs es with
    | some x,some t=>some (x,t)
    | _,_=>none
  | _,_=>none
def ZdB:List EV→EV
  | [e]=>e
  | es=> .val (.tuple (es.map EV.v).toArray)
structure Ze where
  args:List VT
  res:List VT
  sem:Xa args→(Xa res→Zd→Prop)→(Value→Zd→Prop)→Zd→Prop
structure Zbj where
  caps:List VT
  sem:Yld→Nat→Xa caps→(Zd→Prop)→Zd→Prop
inductive Mark where
  | no | at_ (D:Nat) | raw (ds:List Deferred)
def Mark.isNo:Mark→Bool
  | .no=>true
  | _=>false
structure Env where
  f:Nat→Option EV
  mD:Mark
instance:CoeFun Env (fun _=>Nat→Option EV):=⟨Env.f⟩
def Env.set (e:Env) (d:Nat) (v:EV):Env:=⟨fun j=>bif Nat.beq j d then some v else e.f j,e.mD⟩
def Env.ev (e:Env):Operand→Option EV
  | .tmp t=>e.f t
  | .const (.bool b)=>some (.lit b)
  | .const v=>some (.val v)
  | .global g=>some (.adr g 0)
  | .func f=>some (.val (.func (.func f) #[] #[]))
structure Cfg where
  P:Program
  calls:List (FuncId × Ze)
  n:Nat
  ext:List FuncId
  dyn:List (String × TypeId × FuncId)
  iters:List (FuncId × Zbj)
  rnd:Option Nat
  pan:Value→Zd→Prop
  yld:Yld
  fns:List (FuncId × List Leaf)
def ZA (P:Program) (calls:List (FuncId × Ze)) (n:Nat) (ext:List FuncId) (dyn:List (String × TypeId × FuncId)) (iters:List (FuncId × Zbj)) (yld:Yld) (fns:List (FuncId × List Leaf):=[]):Cfg :=
  ⟨P,calls,n,ext,dyn,iters,none,fun _ _=>False,yld,fns⟩
def ZC:Yld:=fun _ _ _ _=>False
structure ZrV where
  s:Ze
  t:Xa s.args
def ZiT (f:FuncId) (es:List EV):List (FuncId × Ze)→Option ZrV
  | []=>none
  | (g,s)::r=>bif Nat.beq f g then (match Xa.un s.args es with
    | some t=>some ⟨s,t⟩
    | none=>ZiT f es r) else ZiT f es r
structure Zqq where
  s:Zbj
  t:Xa s.caps
def Znj (f:FuncId) (es:List EV):List (FuncId × Zbj)→Option Zqq
  | []=>none
  | (g,s)::r=>bif Nat.beq f g then (match Xa.un s.caps es with
    | some t=>some ⟨s,t⟩
    | none=>Znj f es r) else Znj f es r
structure ZkJ where
  a0:VT
  rest:List VT
  res:List VT
  sem:Xa (a0::rest)→(Xa res→Zd→Prop)→(Value→Zd→Prop)→Zd→Prop
  t:Xa rest
def ZiS (f:FuncId) (es:List EV):List (FuncId × Ze)→Option ZkJ
  | []=>none
  | (g,⟨a0::rest,res,sem⟩)::r=>bif Nat.beq f g then (match Xa.un rest es with
    | some t=>some ⟨a0,rest,res,sem,t⟩
    | none=>ZiS f es r) else ZiS f es r
  | (_,⟨[],_,_⟩)::r=>ZiS f es r
def Ztx (calls:List (FuncId × Ze)) (Kp:Value→Zd→Prop) (name:String) (v:Value) (es:List EV) (h:Zd) (K:EV→Zd→Prop):List (String × TypeId × FuncId)→Prop
  | []=>False
  | (n,t,f)::r=>bif n ==name then (match ZiS f es calls with
    | some p=>exG v (fun x:p.a0.D=> .iface t (p.a0.ev x).v) (fun x=>p.sem (x,p.t) (fun rr h'=>K (ZdB (Xa.evs p.res rr)) h') Kp h)∨Ztx calls Kp name v es h K r
    | none=>Ztx calls Kp name v es h K r) else Ztx calls Kp name v es h K r
def Zrg (es:List EV) (cs:List Value):List EV:=es++cs.map EV.val
def fnP (calls:List (FuncId × Ze)) (Kp:Value→Zd→Prop) (v:Value) (es:List EV) (h:Zd) (K:EV→Zd→Prop):List (FuncId × List Leaf)→Prop
  | []=>False
  | (f,[])::r=>match ZiT f es calls with
    | some ⟨s,t⟩=>ZtI v f (s.sem t (fun rr h'=>K (ZdB (Xa.evs s.res rr)) h') Kp h)∨fnP calls Kp v es h K r
    | none=>fnP calls Kp v es h K r
  | (f,l::ls)::r=>exG v (fun c:Tup (l::ls)=> .func (.func f) ⟨[]⟩ ⟨Tup.vals (l::ls) c⟩) (fun c=>match ZiT f (Zrg es (Tup.vals (l::ls) c)) calls with
    | some ⟨s,t⟩=>s.sem t (fun rr h'=>K (ZdB (Xa.evs s.res rr)) h') Kp h
    | none=>False)∨fnP calls Kp v es h K r
def Zvl (t:Nat):List (FuncId × List Leaf)→Bool
  | []=>false
  | (f,_)::r=>bif Nat.beq f (1000000+t) then true else Zvl t r
def ZAv (l:List (FuncId × List Leaf)):Operand→List (FuncId × List Leaf)
  | .tmp t=>bif Zvl t l then [] else l
  | _=>[]
def ZtJ (f:FuncId):List FuncId→Bool
  | []=>false
  | g::r=>bif Nat.beq f g then true else ZtJ f r
def evs (e:Env):List Operand→Option (List EV)
  | []=>some []
  | x::xs=>match e.ev x,evs e xs with
    | some v,some vs=>some (v::vs)
    | _,_=>none
def ZrT (op:BinOp) (x y:EV) (K:EV→Prop):Prop :=
  match x,y with
  | .val (.int k a),.val (.int k' b) =>
    match op with
    | .shl=>ZR (0≤b) (K (.val (.int k (ZES k a b))))
    | .shr=>ZR (0≤b) (K (.val (.int k (ZtG k a b))))
    | _=>if k=k' then
       match op with
       | .add=>K (.val (.int k (k.wrap (a+b))))
       | .sub=>K (.val (.int k (k.wrap (a - b))))
       | .mul=>K (.val (.int k (k.wrap (a*b))))
       | .quo=>ZR (b≠0) (K (.val (.int k (k.wrap (a.tdiv b)))))
       | .rem=>ZR (b≠0) (K (.val (.int k (a.tmod b))))
       | .and=>K (.val (.int k (Zwf k a b)))
       | .or=>K (.val (.int k (orV k a b)))
       | .xor=>K (.val (.int k (ZEP k a b)))
       | .andNot=>K (.val (.int k (ZAB k a b)))
       | .eql=>K (.val (.bool (a ==b)))
       | .neq=>K (.val (.bool (a !=b)))
       | .lss=>K (.val (.bool (decide (a<b))))
       | .leq=>K (.val (.bool (decide (a≤b))))
       | .gtr=>K (.val (.bool (decide (a>b))))
       | .geq=>K (.val (.bool (decide (a≥b))))
       | _=>False
      else False
  | .val (.string a),.val (.string b) =>
    match op with
    | .add=>ZEW a b fun s=>K (.val (.string s))
    | .eql=>K (.val (.bool (XN a b)))
    | .neq=>K (.val (.bool (!XN a b)))
    | .lss=>K (.val (.bool (Op.bytesLess a.toList b.toList)))
    | .leq=>K (.val (.bool (Op.bytesLess a.toList b.toList||XN a b)))
    | .gtr=>K (.val (.bool (!(Op.bytesLess a.toList b.toList||XN a b))))
    | .geq=>K (.val (.bool (!Op.bytesLess a.toList b.toList)))
    | _=>False
  | _,_=>False
def eqP (t:Option TypeDesc) (neg:Bool) (x y:EV) (K:EV→Prop):Prop :=
  match t,x,y with
  | some (.pointer _),.adr _ _,.val (.pointer none)=>K (.lit neg)
  | some (.pointer _),.val (.pointer p),.val (.pointer none)=>K (.val (.bool (bif neg then p.isSome else p.isNone)))
  | some (.slice _),.val (.slice p _ _),.val (.slice none _ _)=>K (.val (.bool (bif neg then p.isSome else p.isNone)))
  | some (.map _ _),.val (.map p),.val (.map none)=>K (.val (.bool (bif neg then p.isSome else p.isNone)))
  | some .bool,x,y =>
    match x.v,y.v with
    | .bool a,.bool b=>K (.val (.bool (bif neg then a !=b else a ==b)))
    | _,_=>False
  | _,_,_=>False
def Zij (d:Option TypeDesc) (h:Zd) (b o:Nat) (K:EV→Prop):Prop :=
  match d with
  | some (.int k)=>ldI h b o k fun x=>K (.val (.int k x))
  | some .bool=>ldB h b o fun x=>K (.val (.bool x))
  | some .string=>ldS h b o fun x=>K (.val (.string x))
  | some (.pointer _)=>ldP h b o fun x=>K (.val (.pointer x))
  | some (.slice _)=>ldL h b o fun x=>K (.val (.slice x.ptr x.len x.cap))
  | some (.map _ _)=>ldM h b o fun x=>K (.val (.map x))
  | some (.struct _) | some (.array _ _) | none=>False
  | some _=>ldV h b o fun x=>K (.val x)
def Zds (P:Program):Nat→TypeId→List (Option TypeDesc)
  | 0,_=>[none]
  | d+1,t=>match P.underlying t with
    | some (.struct fs)=>fs.toList.flatMap fun f=>Zds P d f.type
    | some (.array n e)=>(List.replicate n (Zds P d e)).flatten
    | x=>[x]
def ZvV (o i:Nat):Nat:=bif Nat.beq i 0 then o else o+i
def Zq4 (h:Zd) (b o:Nat):Nat→List (Option TypeDesc)→(List Value→Prop)→Prop
  | _,[],K=>K []
  | i,d::ds,K=>Zij d h b (ZvV o i) fun v=>Zq4 h b o (i+1) ds fun vs=>K (v.v::vs)
def Za0:Option TypeDesc→Bool
  | some (.struct _) | some (.array _ _)=>true
  | _=>false
def ldT (P:Program) (t:TypeId) (h:Zd) (b o:Nat) (K:EV→Prop):Prop :=
  bif Za0 (P.underlying t) then
    (bif Nat.beq (Zds P 8 t).length (P.cellsOf t) then Zq4 h b o 0 (Zds P 8 t) fun vs=>K (.val (.agg vs.toArray)) else False)
  else Zij (P.underlying t) h b o K
def atP (x:EV) (K:Nat→Nat→Prop):Prop :=
  match x with
  | .adr b o=>K b o
  | .val (.pointer p)=>Zg p K
  | _=>False
def stT (P:Program) (t:TypeId) (h:Zd) (b o:Nat) (v:EV) (K:Zd→Prop):Prop :=
  match v with
  | .val (.agg cs)=>bif Za0 (P.underlying t) then (bif Nat.beq cs.toList.length (P.cellsOf t) then sts h b o cs.toList K else False) else False
  | v=>bif Za0 (P.underlying t) then False else (bif Nat.beq (P.cellsOf t) 1 then st h b o v.v K else False)
def Zgy:EV→List Value
  | .val (.agg cs)=>cs.toList
  | v=>[v.v]
def ZpX:Option TypeDesc→Bool
  | some (.int _) | some .bool | some .string | some (.pointer _) | some (.slice _) | some (.map _ _) | some (.struct _) | some (.array _ _) | none=>false
  | some _=>true
def Zix (d:Option TypeDesc) (v:EV):List Value:=bif ZpX d then [v.v] else Zgy v
def Zk0 (P:Program) (fs:List Field) (e:Env):List (Nat × Operand)→List Value
  | []=>[]
  | (i,x)::r=>match fs[i]?,e.ev x with
    | some f,some v=>bif ZpX (P.underlying f.type) then v.v::Zk0 P fs e r else Zk0 P fs e r
    | _,_=>Zk0 P fs e r
def Ztf:List Value→Prop→Prop
  | [],K=>K
  | v::vs,K=>ZR (ZH v=true) (Ztf vs K)
def ZdE:List Value→List (Nat × List Value)→List Value
  | cs,[]=>cs
  | cs,(o,vs)::r=>ZdE (cs.take o++vs++cs.drop (o+vs.length)) r
def Zh0 (P:Program) (fs:List Field) (e:Env) (n:Nat):List (Nat × Operand)→Option (List (Nat × List Value))
  | []=>some []
  | (i,x)::r=>match fs[i]?,e.ev x,Zh0 P fs e n r with
    | some f,some v,some l=>bif Nat.beq (Zix (P.underlying f.type) v).length (P.cellsOf f.type) then (bif Nat.ble (f.offset+(Zix (P.underlying f.type) v).length) n then some ((f.offset,Zix (P.underlying f.type) v)::l) else none) else none
    | _,_,_=>none
def ZgQ (size:Nat) (e:Env) (n:Nat):List (Nat × Operand)→Option (List (Nat × List Value))
  | []=>some []
  | (i,x)::r=>match e.ev x,ZgQ size e n r with
    | some v,some l=>bif Nat.beq (Zgy v).length size then (bif Nat.ble (i*size+(Zgy v).length) n then some ((i*size,Zgy v)::l) else none) else none
    | _,_=>none
def Zho (P:Program) (t:TypeId):Option (List Value):=match P.info? t with
  | some i=>match i.zero with
    | some v=>some v.cells.toList
    | none=>none
  | none=>none
def ZlT (P:Program) (t:TypeId):Option (Nat × Nat):=match P.info? t with
  | some i=>some (i.size,i.bytes)
  | none=>none
def ZrK (d:Int):Option (Option EV)→Option Int
  | none=>some d
  | some (some (.val (.int _ n)))=>some n
  | _=>none
def Zgz:Nat:=16777216
def ZpV:TypeDesc→Value→Bool
  | .int k,.int k' _=>if k=k' then true else false
  | .string,.string _=>true
  | .bool,.bool _=>true
  | _,_=>false
def ZiW:Option TypeDesc→Bool
  | some (.int _) | some .string | some .bool=>true
  | _=>false
def Zft (P:Program):List Field→Nat→Bool
  | [],_=>true
  | f::fs,i=>bif f.name == "_" then false else bif Nat.beq f.offset i&&ZiW (P.underlying f.type) then Zft P fs (i+1) else false
def Zfu (P:Program) (fs:List Field):List TypeDesc:=fs.map fun f=>(P.underlying f.type).getD .bool
def ZpU:List TypeDesc→List Value→Bool
  | [],[]=>true
  | d::ds,v::vs=>bif ZpV d v then ZpU ds vs else false
  | _,_=>false
def Zq9 (P:Program) (kt:TypeId) (fs:Array Field) (cs:List Value):Bool :=
  bif P.stoodInHeld kt then false else bif Zft P fs.toList 0 then ZpU (Zfu P fs.toList) cs else false
def Zra (P:Program) (n:Nat) (e:TypeId) (cs:List Value):Bool :=
  bif Nat.beq n 2 then (bif ZiW (P.underlying e) then (match P.info? e with
    | some i=>bif Nat.beq i.size 1 then ZpU [(P.underlying e).getD .bool,(P.underlying e).getD .bool] cs else false
    | none=>false) else false) else false
def Zl7 (P:Program) (kt:TypeId) (d:TypeDesc) (h:Zd) (m:Option Nat) (k:Value) (K:Option Value→Prop):Prop :=
  match d,k with
  | .struct fs,.agg cs=>bif Zq9 P kt fs cs.toList then ZbZ (Zfu P fs.toList) h m cs.toList K else False
  | .array n e,.agg cs=>bif Zra P n e cs.toList then ZbZ [(P.underlying e).getD .bool,(P.underlying e).getD .bool] h m cs.toList K else False
  | d,k=>bif ZpV d k then Zid d h m k K else False
def Zkq (P:Program) (kt:TypeId) (d:TypeDesc) (h:Zd) (m:Option Nat) (k v:Value) (K:Zd→Prop):Prop :=
  match d,k with
  | .struct fs,.agg cs=>bif Zq9 P kt fs cs.toList then ZgY (Zfu P fs.toList) h m cs.toList v K else False
  | .array n e,.agg cs=>bif Zra P n e cs.toList then ZgY [(P.underlying e).getD .bool,(P.underlying e).getD .bool] h m cs.toList v K else False
  | d,k=>bif ZpV d k then Zib d h m k v K else False
def Zm0 (d:Option TypeDesc) (v:Value) (K:EV→Prop):Prop :=
  match d with
  | some (.int k)=>asI v k fun x=>K (.val (.int k x))
  | some .bool=>asB v fun x=>K (.val (.bool x))
  | some .string=>asS v fun x=>K (.val (.string x))
  | some (.pointer _)=>asP v fun x=>K (.val (.pointer x))
  | some (.slice _)=>asL v fun x=>K (.val (.slice x.ptr x.len x.cap))
  | some (.map _ _)=>asM v fun x=>K (.val (.map x))
  | some (.struct _) | some (.array _ _) | none=>False
  | some _=>K (.val v)
def ZvB:Option TypeDesc→Leaf
  | some (.int k)=> .I k | some .bool=> .B | some .string=> .S | some (.pointer _)=> .P | some (.slice _)=> .L | some (.map _ _)=> .M | _=> .V
def ZtL (P:Program) (t:TypeId) (v:Value) (K:EV→Prop):Prop :=
  bif Za0 (P.underlying t) then exG v (fun r:Tup ((Zds P 8 t).map ZvB)=> .agg (Tup.vals _ r).toArray) (fun r=>K (.val (.agg (Tup.vals _ r).toArray)))
  else Zm0 (P.underlying t) v K
def ZsS (P:Program) (t:TypeId):Option Value:=match P.info? t with
  | some i=>i.zero
  | none=>none
def ZeF:Option TypeDesc→Bool
  | some (.interface _)=>true
  | none=>true
  | _=>false
def ZfQ (P:Program) (ts:Array TypeId):Bool:=match ts[0]? with
  | some t=>match P.underlying t with
    | some (.map _ _)=>true
    | _=>false
  | none=>false
def Zi1 (c:Cfg) (o:Op) (ρ:Env) (h:Zd) (K:EV→Zd→Prop):Prop :=
  match o with
  | .call ⟨.builtin .len,args,ts⟩ =>
    match ts[0]?,evs ρ args.toList with
    | some t,some [v]=>match c.P.underlying t,v with
      | some .string,.val (.string s)=>K (.val (.int .i64 s.size)) h
      | some (.slice _),.val (.slice _ n _)=>K (.val (.int .i64 n)) h
      | some (.array n _),_=>K (.val (.int .i64 n)) h
      | some (.map _ _),.val (.map m)=>Zwc h m fun n=>K (.val (.int .i64 n)) h
      | _,_=>False
    | _,_=>False
  | .call ⟨.builtin .cap,args,ts⟩ =>
    match ts[0]?,evs ρ args.toList with
    | some t,some [v]=>match c.P.underlying t,v with
      | some (.slice _),.val (.slice _ _ n)=>K (.val (.int .i64 n)) h
      | _,_=>False
    | _,_=>False
  | .call ⟨.builtin .min,args,_⟩ =>
    match evs ρ args.toList with
    | some [.val (.int k x),.val (.int _ y)]=>K (.val (.int k (Zn1 x y))) h
    | _=>False
  | .call ⟨.builtin .max,args,_⟩ =>
    match evs ρ args.toList with
    | some [.val (.int k x),.val (.int _ y)]=>K (.val (.int k (Zl6 x y))) h
    | _=>False
  | .call ⟨.builtin .append,args,ts⟩ =>
    match ts[0]?,(match ts[1]? with | none=>false | some t=>match c.P.underlying t with | some (.int _)=>true | some _=>false | none=>true) with
    | some t,false=>match c.P.underlying t with
      | some (.slice e)=>match ZlT c.P e,Zho c.P e,evs ρ args.toList with
        | some (size,bytes),some zs,some [.val (.slice p n m),.val (.slice p' n' m')] =>
          rdS ⟨p',n',m'⟩ size h fun new=>app e size bytes zs ⟨p,n,m⟩ n' new h fun s h'=>K (.val (.slice s.ptr s.len s.cap)) h'
        | some (size,bytes),some zs,some [.val (.slice p n m),.val (.string s)] =>
          app e size bytes zs ⟨p,n,m⟩ s.size (Zcq s) h fun s h'=>K (.val (.slice s.ptr s.len s.cap)) h'
        | _,_,_=>False
      | _=>False
    | _,_=>False
  | .call ⟨.value x,args,_⟩ =>
    match ZAv c.fns x with
    | f::r=>(match ρ.ev x,evs ρ args.toList with
      | some v,some es=>fnP c.calls c.pan v.v es h K (f::r)
      | _,_=>False)
    | [] =>
    match ρ.ev x with
    | some (.val (.func (.func f) ⟨[]⟩ ⟨cs⟩)) =>
      match evs ρ args.toList with
      | some es=>match ZiT f (Zrg es cs) c.calls with
        | some ⟨s,t⟩=>s.sem t (fun r h'=>K (ZdB (Xa.evs s.res r)) h') c.pan h
        | none=>bif ZtJ f c.ext then (match Zrg es cs with
          | [x]=>ZrQ x.v h fun v h'=>K (.val v) h'
          | _=>False) else False
      | none=>False
    | some (.val (.func (.yield l) ⟨[]⟩ ⟨[]⟩)) =>
      match evs ρ args.toList with
      | some es=>c.yld l (es.map EV.v) (fun b h'=>K (.val (.bool b)) h') h
      | none=>False
    | _=>False
  | .call ⟨.builtin .delete,args,ts⟩ =>
    match ts[0]?,evs ρ args.toList with
    | some t,some [.val (.map m),k]=>match c.P.underlying t with
      | some (.map kt _)=>match c.P.underlying kt with
        | some d=>bif ZpV d k.v then Zle d h m k.v fun h'=>K (.val (.tuple #[])) h' else False
        | none=>False
      | _=>False
    | _,_=>False
  | .call ⟨.invoke x name,args,_⟩ =>
    match ρ.ev x,evs ρ args.toList with
    | some v,some es=>Ztx c.calls c.pan name v.v es h K c.dyn
    | _,_=>False
  | .call ⟨.builtin .clear,args,ts⟩ =>
    match ts[0]?,evs ρ args.toList with
    | some t,some [.val (.map m)]=>match c.P.underlying t with
      | some (.map _ _)=>ZAy h m fun h'=>K (.val (.tuple #[])) h'
      | _=>False
    | some t,some [.val (.slice p l m)]=>match c.P.underlying t with
      | some (.slice e)=>match Zho c.P e with
        | some zs=>ZAx ⟨p,l,m⟩ zs h fun h'=>K (.val (.tuple #[])) h'
        | none=>False
      | _=>False
    | _,_=>False
  | _=>False
def ZeP (d:Option TypeDesc) (x y:Value):Option Bool :=
  match d,x,y with
  | some (.int _),.int k a,.int k' b=>if k=k' then some (a ==b) else none
  | some .string,.string a,.string b=>some (XN a b)
  | some .bool,.bool a,.bool b=>some (a ==b)
  | _,_,_=>none
def ZdP (P:Program):List Field→List Value→List Value→Option Bool
  | [],_,_=>some true
  | f::fs,xs,ys =>
    bif f.name == "_" then none else
    match xs[f.offset]?,ys[f.offset]? with
    | some x,some y=>match ZeP (P.underlying f.type) x y,ZdP P fs xs ys with
      | some a,some r=>some (bif a then r else false)
      | _,_=>none
    | _,_=>none
def Zdy (P:Program):List Field→List Value→List Value→Option Bool
  | [],_,_=>some true
  | f::fs,xs,ys =>
    bif f.name == "_" then none else
    match P.underlying f.type with
    | some (.struct gs) =>
      bif P.stoodInHeld f.type then none else
      bif Nat.ble (f.offset+P.cellsOf f.type) xs.length&&Nat.ble (f.offset+P.cellsOf f.type) ys.length then
        match ZdP P gs.toList ((xs.drop f.offset).take (P.cellsOf f.type)) ((ys.drop f.offset).take (P.cellsOf f.type)),Zdy P fs xs ys with
        | some a,some r=>some (bif a then r else false)
        | _,_=>none
      else none
    | u=>match xs[f.offset]?,ys[f.offset]? with
      | some x,some y=>match ZeP u x y,Zdy P fs xs ys with
        | some a,some r=>some (bif a then r else false)
        | _,_=>none
      | _,_=>none
def eqS (P:Program) (t:TypeId) (fs:Array Field) (x y:EV) (K:Bool→Prop):Prop :=
  match x,y with
  | .val (.agg xs),.val (.agg ys)=>bif P.stoodInHeld t||P.eqGuardType P.depth t then False else
    match Zdy P fs.toList xs.toList ys.toList with
    | some b=>K b
    | none=>False
  | _,_=>False
def opP (c:Cfg) (o:Op) (ρ:Env) (h:Zd) (K:EV→Zd→Prop):Prop :=
  match o with
  | .move x=>match ρ.ev x with
    | some v=>K v h
    | none=>False
  | .assign x=>match ρ.ev x with
    | some (.val (.int k n))=>Zf n fun n=>K (.val (.int k n)) h
    | some (.val (.bool b))=>ZE b fun b=>K (.val (.bool b)) h
    | some v=>K v h
    | none=>False
  | .pick x a b=>match ρ.ev x,ρ.ev a,ρ.ev b with
    | some (.lit true),some a,_=>K a h
    | some (.lit false),_,some b=>K b h
    | some (.val (.bool x)),some a,some b=>match a.v,b.v with
      | .bool a,.bool b=>K (.val (.bool (bif x then a else b))) h
      | _,_=>False
    | _,_,_=>False
  | .alloc e=>match Zho c.P e with
    | some zs=>newC h zs e fun b h'=>K (.adr b 0) h'
    | none=>False
  | .box e x=>match ρ.ev x with
    | some v=>bif ZpX (c.P.underlying e) then ZR (ZH v.v=true) (newC h [v.v] e fun b h'=>K (.adr b 0) h') else newC h (Zgy v) e fun b h'=>K (.adr b 0) h'
    | none=>False
  | .build t parts=>match c.P.underlying t,Zho c.P t with
    | some (.struct fs),some zs=>match Zh0 c.P fs.toList ρ zs.length parts.toList with
      | some l=>bif fs.toList.all fun f=>(c.P.info? f.type).isSome then Ztf (Zk0 c.P fs.toList ρ parts.toList) (K (.val (.agg (ZdE zs l).toArray)) h) else False
      | none=>False
    | some (.array _ e),some zs=>match ZgQ (c.P.cellsOf e) ρ zs.length parts.toList with
      | some l=>bif (c.P.info? e).isSome then K (.val (.agg (ZdE zs l).toArray)) h else False
      | none=>False
    | _,_=>False
  | .buildSlice t n parts=>match c.P.underlying t with
    | some (.slice e)=>match Zho c.P e,ZgQ (c.P.cellsOf e) ρ (n*c.P.cellsOf e) parts.toList with
      | some zs,some l=>bif Nat.ble (n*c.P.cellsOf e) Zgz then
          (bif Nat.beq zs.length (c.P.cellsOf e) then
            newC h (ZdE (X6 zs n) l) e fun b h'=>K (.val (.slice (some ⟨b,0,none⟩) n n)) h' else False) else False
      | _,_=>False
    | _=>False
  | .load t a=>match ρ.ev a with
    | some x=>atP x fun b o=>ldT c.P t h b o fun v=>K v h
    | none=>False
  | .store t a x=>match ρ.ev a,ρ.ev x with
    | some a,some x=>atP a fun b o=>stT c.P t h b o x fun h'=>K (.val undef) h'
    | _,_=>False
  | .nilCheck x=>match ρ.ev x with
    | some x=>atP x fun b o=>K (.adr b o) h
    | none=>False
  | .binOp op t x yo _=>match ρ.ev x,ρ.ev yo with
    | some x,some y=>match op,c.P.underlying t with
      | .eql,some (.int _) | .eql,some .string=>ZrT op x y fun v=>K v h
      | .neq,some (.int _) | .neq,some .string=>ZrT op x y fun v=>K v h
      | .eql,some (.struct fs)=>eqS c.P t fs x y fun b=>K (.val (.bool b)) h
      | .neq,some (.struct fs)=>eqS c.P t fs x y fun b=>K (.val (.bool (!b))) h
      | .eql,some (.interface _)=>match yo with
        | .const .nilIface=>ZpY x.v fun b=>K (.val (.bool b)) h
        | _=>False
      | .neq,some (.interface _)=>match yo with
        | .const .nilIface=>ZpY x.v fun b=>K (.val (.bool (!b))) h
        | _=>False
      | .eql,some (.func _ _ _)=>match yo with
        | .const .nilFunc=>ZpZ x.v fun b=>K (.val (.bool b)) h
        | _=>False
      | .neq,some (.func _ _ _)=>match yo with
        | .const .nilFunc=>ZpZ x.v fun b=>K (.val (.bool (!b))) h
        | _=>False
      | .eql,d=>eqP d false x y fun v=>K v h
      | .neq,d=>eqP d true x y fun v=>K v h
      | _,_=>ZrT op x y fun v=>K v h
    | _,_=>False
  | .unOp op _ x=>match op,ρ.ev x with
    | .not,some (.lit b)=>K (.lit (!b)) h
    | .not,some (.val (.bool b))=>K (.val (.bool (!b))) h
    | .neg,some (.val (.int k n))=>K (.val (.int k (k.wrap (0 - n)))) h
    | _,_=>False
  | .convert s d x=>match c.P.underlying s,c.P.underlying d,ρ.ev x with
    | some (.int _),some (.int k),some (.val (.int _ n))=>K (.val (.int k (k.wrap n))) h
    | some .string,some .string,some (.val (.string s))=>K (.val (.string s)) h
    | some .string,some (.slice e),some (.val (.string s))=>match c.P.underlying e with
      | some (.int .u8)=>s2b e s h fun x h'=>K (.val (.slice x.ptr x.len x.cap)) h'
      | _=>False
    | some (.slice e),some .string,some (.val (.slice p l m))=>match c.P.underlying e with
      | some (.int .u8)=>b2s ⟨p,l,m⟩ h fun s=>K (.val (.string s)) h
      | _=>False
    | some (.slice _),some (.slice e),some (.val (.slice p l m))=>match c.P.underlying e with
      | some (.int .u8)=>bif Nat.beq s d then ZAt p h fun h'=>K (.val (.slice p l m)) h' else False
      | _=>False
    | _,_,_=>False
  | .makeSlice t l m=>match c.P.underlying t,ρ.ev l,ρ.ev m with
    | some (.slice e),some (.val (.int _ l)),some (.val (.int _ m))=>match ZlT c.P e,Zho c.P e with
      | some (size,bytes),some zs=>bif Nat.beq zs.length size then mkS e bytes zs l m h fun s h'=>K (.val (.slice s.ptr s.len s.cap)) h' else False
      | _,_=>False
    | _,_,_=>False
  | .slice t x lo hi mx=>match c.P.underlying t,ρ.ev x with
    | some .string,some (.val (.string s))=>match mx,ZrK 0 (lo.map ρ.ev),ZrK s.size (hi.map ρ.ev) with
      | none,some lo,some hi=>ZER s lo hi fun s=>K (.val (.string s)) h
      | _,_,_=>False
    | some (.slice e),some (.val (.slice p l m))=>match ZrK 0 (lo.map ρ.ev),ZrK l (hi.map ρ.ev),ZrK m (mx.map ρ.ev),ZlT c.P e with
      | some lo,some up,some most,some (size,_)=>bif hi.isNone&&mx.isSome then False else slc p m size lo up most fun s=>K (.val (.slice s.ptr s.len s.cap)) h
      | _,_,_,_=>False
    | _,_=>False
  | .fieldAddr s x f=>match c.P.underlying s,ρ.ev x with
    | some (.struct fs),some x=>match fs.toList[f]? with
      | some fd=>bif Nat.beq (c.P.cellsOf fd.type) 0 then False else atP x fun b o=>K (.adr b (ZvV o fd.offset)) h
      | none=>False
    | _,_=>False
  | .field s x f=>match c.P.underlying s,ρ.ev x with
    | some (.struct fs),some (.val (.agg cs))=>match fs.toList[f]? with
      | some fd=>bif (c.P.underlying fd.type).isNone then False else bif Za0 (c.P.underlying fd.type) then K (.val (.agg ((cs.toList.drop fd.offset).take (c.P.cellsOf fd.type)).toArray)) h
        else match cs.toList[fd.offset]? with
          | some v=>K (.val v) h
          | none=>False
      | none=>False
    | _,_=>False
  | .indexAddr t x i=>match c.P.underlying t,ρ.ev x,ρ.ev i with
    | some (.slice e),some (.val (.slice p l _)),some (.val (.int _ i))=>match ZlT c.P e with
      | some (size,_)=>Xy p l i size fun b o=>K (.adr b o) h
      | none=>False
    | some (.array n e),some x,some (.val (.int _ i))=>match ZlT c.P e with
      | some (size,_)=>atP x fun b o=>ZAu n i fun j=>K (.adr b (o+j*size)) h
      | none=>False
    | _,_,_=>False
  | .index t x i=>match c.P.underlying t,ρ.ev x,ρ.ev i with
    | some .string,some (.val (.string s)),some (.val (.int _ i))=>ZAY s i fun n=>K (.val (.int .u8 n)) h
    | some (.array n e),some (.val (.agg cs)),some (.val (.int _ i))=>match c.P.underlying e with
      | some (.struct _)=>bif Nat.beq cs.toList.length (n*c.P.cellsOf e) then ZAu n i fun j=>ZtL c.P e (.agg ⟨(cs.toList.drop (j*c.P.cellsOf e)).take (c.P.cellsOf e)⟩) fun v=>K v h else False
      | _=>False
    | _,_,_=>False
  | .extract x i=>match ρ.ev x with
    | some (.more _ _)=>bif Nat.beq i 0 then K (.lit true) h else False
    | some .over=>bif Nat.beq i 0 then K (.lit false) h else False
    | some (.val (.tuple vs))=>match vs.toList[i]? with
      | some v=>K (.val v) h
      | none=>False
    | _=>False
  | .call _=>Zi1 c o ρ h K
  | .panic x=>match ρ.ev x with
    | some (.val (.iface t v))=>c.pan (.iface t v) h
    | _=>False
  | .makeFunc (.func f) first caps=>match first.toList,evs ρ caps.toList with
    | [],some es=>K (.val (.func (.func f) ⟨[]⟩ ⟨es.map EV.v⟩)) h
    | _,_=>False
  | .makeMap _ none=>ZfP h fun b h'=>K (.val (.map (some b))) h'
  | .lookup t x i ok=>match c.P.underlying t,ρ.ev x,ρ.ev i with
    | some (.map kt et),some (.val (.map m)),some k=>match c.P.underlying kt,ZsS c.P et with
      | some d,some z=>Zl7 c.P kt d h m k.v fun r=>ZtL c.P et (r.getD z) fun v=>K (bif ok then .val (.tuple #[v.v,.bool r.isSome]) else v) h
      | _,_=>False
    | _,_,_=>False
  | .mapUpdate t m k x=>match c.P.underlying t,ρ.ev m,ρ.ev k,ρ.ev x with
    | some (.map kt _),some (.val (.map m)),some k,some x=>match c.P.underlying kt with
      | some d=>Zkq c.P kt d h m k.v x.v fun h'=>K (.val undef) h'
      | none=>False
    | _,_,_,_=>False
  | .insert t m k x=>match c.P.underlying t,ρ.ev m,ρ.ev k,ρ.ev x with
    | some (.map kt _),some (.val (.map m)),some k,some x=>match c.P.underlying kt with
      | some d=>Zkq c.P kt d h m k.v x.v fun h'=>K (.val undef) h'
      | none=>False
    | _,_,_,_=>False
  | .range t x=>match c.P.underlying t,ρ.ev x with
    | some (.map _ _),some (.val (.map m))=>rgM h m fun b h'=>K (.itr t b) h'
    | _,_=>False
  | .next x false=>match ρ.ev x with
    | some (.itr _ b)=>Ztd h b (fun k v h'=>K (.more k v) h') (K .over h)
    | _=>False
  | .entry x=>match ρ.ev x with
    | some (.itr t b)=>match c.P.underlying t with
      | some (.map kt et)=>ZAw h b fun k v=>ZtL c.P kt k fun k'=>ZtL c.P et v fun v'=>K (.val (.tuple #[k'.v,v'.v])) h
      | _=>False
    | _=>False
  | .makeInterface t x=>match ρ.ev x with
    | some v=>bif ZeF (c.P.underlying t) then False else K (.val (.iface t v.v)) h
    | none=>False
  | .typeAssert x _ t ok=>match ρ.ev x with
    | some v=>bif ZeF (c.P.underlying t) then False else bif ok then (match v with
      | .val (.iface t' u)=>bif Nat.beq t' t then K (.val (.tuple #[u,.bool true])) h else False
      | _=>False) else asT v.v t fun y=>Zm0 (c.P.underlying t) y fun u=>K u h
    | none=>False
  | _=>False
def ZlL (n:Nat) (e:Env) (d:Option Tmp) (v:EV) (K:Env→Prop):Prop :=
  match d with
  | none=>K e
  | some d=>bif Nat.blt d n then K (e.set d v) else False
def opQ (c:Cfg) (o:Oper) (e:Env) (h:Zd) (K:EV→Zd→Prop):Prop :=
  match o.op with
  | .assign x=>bif ZpX (c.P.underlying o.type) then (match e.ev x with
    | some v=>K v h
    | none=>False) else opP c (.assign x) e h K
  | op=>opP c op e h K
def Zvx (c:Cfg) (o:Oper) (e:Env) (h:Zd) (K:Env→Zd→Prop):Prop :=
  opQ c o e h fun v h'=>ZlL c.n e o.dst v fun e'=>K e' h'
def Zi8 (c:Cfg) (o:Oper) (e:Env) (h:Zd) (K:Env→Zd→Prop):Prop :=
  ZlL c.n e o.dst (.val undef) fun e'=>K e' h
def Y8 (ops:List Oper) (j:Nat):Option Tmp:=(ops[j]?).bind (·.dst)
def Zdk (c:Cfg) (one:Oper→Env→Zd→(Env→Zd→Prop)→Prop) (all:List Oper):List Oper→Env→Zd→(Env→Zd→Prop)→Prop
  | [],e,h,K=>K e h
  | o::os,e,h,K =>
    match o.guard with
    | none=>one o e h fun e' h'=>Zdk c one all os e' h' K
    | some (j,want) =>
      match Y8 all j with
      | none=>Zi8 c o e h fun e' h'=>Zdk c one all os e' h' K
      | some t =>
        match e t with
        | some (.lit b) =>
          match b,want with
          | true,true | false,false=>one o e h fun e' h'=>Zdk c one all os e' h' K
          | true,false | false,true=>Zi8 c o e h fun e' h'=>Zdk c one all os e' h' K
        | some (.val (.bool b)) =>
          match want with
          | true=>Zs b (one o (e.set t (.lit true)) h fun e' h'=>Zdk c one all os e' h' K) (Zi8 c o (e.set t (.lit false)) h fun e' h'=>Zdk c one all os e' h' K)
          | false=>Zs b (Zi8 c o (e.set t (.lit true)) h fun e' h'=>Zdk c one all os e' h' K) (one o (e.set t (.lit false)) h fun e' h'=>Zdk c one all os e' h' K)
        | some _=>Zi8 c o e h fun e' h'=>Zdk c one all os e' h' K
        | none=>False
def ZmH (c:Cfg) (o:Op) (ρ:Env) (h:Zd) (K:EV→Zd→Prop):Prop :=
  match o with
  | .move _ | .assign _ | .pick _ _ _ | .load _ _ | .nilCheck _ | .binOp _ _ _ _ _ | .unOp _ _ _ | .slice _ _ _ _ _ | .fieldAddr _ _ _ | .field _ _ _ | .indexAddr _ _ _ | .index _ _ _ | .extract _ _ | .build _ _ | .makeFunc _ _ _=>opP c o ρ h K
  | .convert s d _=>match c.P.underlying s,c.P.underlying d with
    | some (.int _),some (.int _)=>opP c o ρ h K
    | _,_=>False
  | .call ⟨.builtin .len,_,_⟩ | .call ⟨.builtin .cap,_,_⟩ | .call ⟨.builtin .min,_,_⟩ | .call ⟨.builtin .max,_,_⟩=>opP c o ρ h K
  | .call ⟨.value (.func f),args,_⟩ =>
    match evs ρ args.toList with
    | some es=>match ZiT f es c.calls with
      | some ⟨s,t⟩=>Zs4 (fun K' h'=>s.sem t K' (fun _ _=>False) h') h fun r=>K (ZdB (Xa.evs s.res r)) h
      | none=>False
    | none=>False
  | _=>False
def Zpw (c:Cfg) (o:Oper) (e:Env) (h:Zd) (K:Env→Zd→Prop):Prop :=
  ZmH c o.op e h fun v h'=>ZlL c.n e o.dst v fun e'=>K e' h'
def Zef (m i:Nat):Bool:=Nat.beq (Nat.land (Nat.shiftRight m i) 1) 1
def Zke (m i:Nat):Nat:=Nat.lor m (Nat.shiftLeft 1 i)
def ZjJ (m:Nat):List Edge→Bool
  | []=>true
  | e::es=>bif Region.binds .any e then (bif Zef m e.on then ZjJ m es else false) else ZjJ m es
def Zbe (m i:Nat) (o:Oper):Bool:=bif Zef m i then false else ZjJ m o.after.toList
def Zgn (m i:Nat):Nat→List Oper→Bool
  | _,[]=>true
  | k,o::os=>bif Nat.beq k i then Zgn m i (k+1) os else bif Zbe m k o then false else Zgn m i (k+1) os
def ZdA (i:Nat):List Edge→Bool
  | []=>false
  | e::es=>bif Nat.beq e.on i then (bif Region.binds .any e then true else ZdA i es) else ZdA i es
def ZiV (ops:Array Oper) (oi:Oper) (m i:Nat):Nat→List Oper→Bool
  | _,[]=>true
  | k,o::os=>bif (bif Nat.beq k i then true else bif Zef m k then true else bif ZdA i o.after.toList then true else oi.apart ops o) then ZiV ops oi m i (k+1) os else false
def ZpH (m:Nat):Nat→List Oper→Bool
  | _,[]=>true
  | k,o::os=>bif Zbe m k o then false else ZpH m (k+1) os
abbrev ZdR:=List (Nat × (Zd→Prop))
def Zlu (o:Oper):ZdR→ZdR
  | []=>[]
  | x::r=>bif ZdA x.1 o.after.toList then Zlu o r else x::Zlu o r
def Zlj (h:Zd):ZdR→Prop→Prop
  | [],K=>K
  | x::r,K=>x.2 h∧Zlj h r K
def Zjh (m i j:Nat):Nat→List Oper→Bool
  | _,[]=>true
  | k,o::os=>bif Nat.beq k i||Nat.beq k j then Zjh m i j (k+1) os else bif Zbe m k o then false else Zjh m i j (k+1) os
def ZlA (b o:Nat):Nat→List Value→List (Nat × Nat × Value)
  | _,[]=>[]
  | i,v::vs=>(b,ZvV o i,v)::ZlA b o (i+1) vs
def ldH (P:Program) (t:TypeId) (h:Zd) (b o:Nat) (K:EV→List (Nat × Nat × Value)→Prop):Prop :=
  bif Za0 (P.underlying t) then
    (bif Nat.beq (Zds P 8 t).length (P.cellsOf t) then Zq4 h b o 0 (Zds P 8 t) fun vs=>K (.val (.agg vs.toArray)) (ZlA b o 0 vs) else False)
  else Zij (P.underlying t) h b o fun v=>K v [(b,o,v.v)]
inductive OpK where
  | pure | load (t:TypeId) (x:Operand) | text (x:Operand) | other
def Zdn (c:Cfg):Op→OpK
  | .move _ | .assign _ | .pick _ _ _ | .nilCheck _ | .binOp _ _ _ _ _ | .unOp _ _ _ | .slice _ _ _ _ _ | .fieldAddr _ _ _ | .field _ _ _ | .indexAddr _ _ _ | .index _ _ _ | .extract _ _ | .build _ _ | .makeFunc _ _ _=> .pure
  | .convert s d x=>match c.P.underlying s,c.P.underlying d with
    | some (.int _),some (.int _)=> .pure
    | some (.slice e),some .string=>match c.P.underlying e with
      | some (.int .u8)=> .text x
      | _=> .other
    | _,_=> .other
  | .call ⟨.builtin .len,_,ts⟩=>bif ZfQ c.P ts then .other else .pure
  | .call ⟨.builtin .cap,_,_⟩ | .call ⟨.builtin .min,_,_⟩ | .call ⟨.builtin .max,_,_⟩=> .pure
  | .load t x=> .load t x
  | _=> .other
def Zim (all:List Oper) (o:Oper) (e:Env) (A B:Env→Prop):Prop :=
  match o.guard with
  | none=>A e
  | some (j,want) =>
    match Y8 all j with
    | none=>B e
    | some t =>
      match e t with
      | some (.lit b) =>
        match b,want with
        | true,true | false,false=>A e
        | true,false | false,true=>B e
      | some (.val (.bool b)) =>
        match want with
        | true=>Zs b (A (e.set t (.lit true))) (B (e.set t (.lit false)))
        | false=>Zs b (B (e.set t (.lit true))) (A (e.set t (.lit false)))
      | some _=>B e
      | none=>False
def Xx:List Nat→List EV→Nat→Option EV
  | s::ss,v::vs,j=>bif Nat.beq j s then some v else Xx ss vs j
  | _,_,_=>none
def Zlh:List (Nat × Nat)→Nat→Bool
  | [],_=>false
  | (lo,hi)::r,j=>bif Nat.ble lo j&&Nat.ble j hi then true else Zlh r j
def Zby:List Nat→Nat→Bool
  | [],_=>false
  | s::ss,j=>bif Nat.beq j s then true else Zby ss j
def ZiY (slots:List Nat) (vs:List EV) (kill:List (Nat × Nat)) (e:Env):Env:=⟨fun j =>
  match Xx slots vs j with
  | some v=>some v
  | none=>bif Zlh kill j then none else e.f j,e.mD⟩
def Zlw (L:List Nat):List Edge→List Nat
  | []=>[]
  | e::es=>bif Region.binds .any e then (bif Zby L e.on then e.on::Zlw L es else Zlw L es) else Zlw L es
def Zh8 (d:Nat→Bool):List Nat→Prop→Prop
  | [],K=>K
  | i::is,K=>d i=true→Zh8 d is K
def Zwb (ops:Array Oper) (L:List Nat) (d:Nat→Bool) (f:Nat→Oper→Prop):List Nat→Prop
  | []=>True
  | k::ks=>(match ops[k]? with
    | some o=>d k=false→Zh8 d (Zlw L o.after.toList) (f k o)
    | none=>False)∧Zwb ops L d f ks
def Zfv (m:Nat) (E:List Nat):List Edge→Bool
  | []=>true
  | e::es=>bif Region.binds .any e then (bif Zef m e.on then Zfv m E es else bif Zby E e.on then Zfv m E es else false) else Zfv m E es
def Zk1 (ops:Array Oper) (m:Nat):List Nat→List Nat→Bool
  | _,[]=>true
  | E,k::ks=>match ops[k]? with
    | some o=>bif Zef m k then false else bif Zby E k then false else bif o.guard.isNone then (bif Zfv m E o.after.toList then Zk1 ops m (k::E) ks else false) else false
    | none=>false
def ZcK (m:Nat) (L:List Nat):List Edge→Bool
  | []=>false
  | e::es=>bif Region.binds .any e then (bif Zef m e.on then ZcK m L es else bif Zby L e.on then ZcK m L es else true) else ZcK m L es
def ZfD (es:List Edge):List Nat→Bool
  | []=>true
  | k::ks=>bif ZdA k es then ZfD es ks else false
def Zvt (m:Nat) (L:List Nat):Nat→List Oper→Bool
  | _,[]=>true
  | k,o::os=>bif (bif Zef m k then true else bif Zby L k then true else bif ZcK m L o.after.toList then true else ZfD o.after.toList L) then Zvt m L (k+1) os else false
def Zkn (j k:Nat):Nat→List Oper→Bool
  | _,[]=>true
  | i,o::os=>bif Nat.beq i k then Zkn j k (i+1) os else match o.dst with
    | some x=>bif Nat.beq x j then false else Zkn j k (i+1) os
    | none=>Zkn j k (i+1) os
def ZlR (ops:List Oper) (slots:List Nat):List Nat→Bool
  | []=>true
  | k::ks=>match Y8 ops k with
    | some j=>bif Zby slots j then (bif Zkn j k 0 ops then ZlR ops slots ks else false) else false
    | none=>ZlR ops slots ks
def Zmc (ops:List Oper) (j:Nat):List Nat→Bool
  | []=>false
  | k::ks=>match Y8 ops k with
    | some x=>bif Nat.beq x j then true else Zmc ops j ks
    | none=>Zmc ops j ks
def Zi7 (ops:List Oper) (L:List Nat):List Nat→Bool
  | []=>true
  | j::js=>bif Zmc ops j L then Zi7 ops L js else false
def Zto (ops:Array Oper) (m:Nat) (L:List Nat) (slots:List Nat):Bool :=
  bif Zk1 ops m [] L then (bif Zvt m L 0 ops.toList then (bif ZlR ops.toList slots L then Zi7 ops.toList L slots else false) else false) else false
def Zhm (ops:List Oper) (j:Nat):List Edge→Bool
  | []=>false
  | e::es=>bif Region.binds .any e then (match Y8 ops e.on with
    | some x=>bif Nat.beq x j then true else Zhm ops j es
    | none=>Zhm ops j es) else Zhm ops j es
def eAt (ops:List Oper) (after:List Edge) (slots:List Nat) (vs:List EV) (e:Env):Env:=⟨fun j=>match Xx slots vs j with
  | some v=>bif Zhm ops j after then some v else none
  | none=>bif Zby slots j then none else e.f j,e.mD⟩
def ZrH:List Nat→Nat→EV→List EV→List EV
  | s::ss,j,v,x::xs=>bif Nat.beq j s then v::xs else x::ZrH ss j v xs
  | _,_,_,xs=>xs
inductive OrdT where
  | done | take (i:Nat) (fr:Bool) (r:OrdT) | fork (i:Nat) (r:OrdT) (j:Nat) (s:OrdT) | inv (L slots:List Nat) (tys:List VT) (r:OrdT)
def OrdT.depth:OrdT→Nat
  | .done=>0
  | .take _ _ r=>r.depth+1
  | .fork _ r _ s=>Nat.max r.depth s.depth+1
  | .inv L _ _ r=>r.depth+L.length
def Ztw (c:Cfg) (ops:Array Oper) (o:Oper) (hd:ZdR) (e:Env) (h:Zd) (rest:ZdR→Env→Zd→Prop):Prop :=
  Zim ops.toList o e (fun e=>opP c o.op e h fun v h'=>ZlL c.n e o.dst v fun e'=>Zlj h' (Zlu o hd) (rest (Zlu o hd) e' h'))
   (fun e=>ZlL c.n e o.dst (.val undef) fun e'=>rest hd e' h)
def ZvR (c:Cfg) (ops:Array Oper) (o:Oper) (hd:ZdR) (e:Env) (h:Zd) (rest:ZdR→Env→Zd→Prop):Prop :=
  Zim ops.toList o e (fun e=>opP c o.op e h fun v _=>ZlL c.n e o.dst v fun e'=>rest hd e' h)
   (fun e=>ZlL c.n e o.dst (.val undef) fun e'=>rest hd e' h)
def ZsY (c:Cfg) (ops:Array Oper) (o:Oper) (m i:Nat) (fr:Bool):Bool :=
  bif Zbe m i o then (match Zdn c o.op with
    | .other=>Zgn m i 0 ops.toList
    | _=>bif fr then ZiV ops o m i 0 ops.toList else Zgn m i 0 ops.toList) else false
def Zkm (c:Cfg) (ops:Array Oper):OrdT→Nat→Bool
  | .done,m=>ZpH m 0 ops.toList
  | .fork i r j s,m =>
    match ops[i]?,ops[j]? with
    | some o,some p=>bif Zbe m i o&&(Zbe m j p&&Zjh m i j 0 ops.toList) then (bif Zkm c ops r (Zke m i) then Zkm c ops s (Zke m j) else false) else false
    | _,_=>false
  | .take i fr r,m =>
    match ops[i]? with
    | none=>false
    | some o=>bif ZsY c ops o m i fr then Zkm c ops r (Zke m i) else false
  | .inv L slots tys r,m=>bif Zto ops m L slots&&Nat.beq slots.length tys.length then Zkm c ops r (L.foldl Zke m) else false
def Zkl (c:Cfg) (ops:Array Oper) (K:Env→Zd→Prop):OrdT→ZdR→Env→Zd→Prop
  | .done,_,e,h=>K e h
  | .fork i r j s,hd,e,h =>
    match ops[i]?,ops[j]? with
    | some o,some p=>Ziz (Ztw c ops o hd e h (Zkl c ops K r)) (Ztw c ops p hd e h (Zkl c ops K s))
    | _,_=>False
  | .inv L slots tys r,hd,e,h =>
    ZEV (fun I d t h'=>Zwb ops L d (fun k o=>opP c o.op (eAt ops.toList o.after.toList slots (Xa.evs tys t) e) h' fun v h''=>Zlj h'' (Zlu o hd) (match o.dst with
     | none=>I (ZkN d k) t h''
     | some j=>bif Nat.blt j c.n then (match Xa.un tys (ZrH slots j v (Xa.evs tys t)) with
       | some t'=>I (ZkN d k) t' h''
       | none=>False) else False)) L)
     (fun d t h'=>Zh8 d L (Zlj h' hd (Zkl c ops K r hd (ZiY slots (Xa.evs tys t) [] e) h'))) h
  | .take i fr r,hd,e,h =>
    match ops[i]? with
    | none=>False
    | some o =>
      match Zdn c o.op with
      | .pure=>ZvR c ops o hd e h (Zkl c ops K r)
      | .load t x=>bif fr then
          Zim ops.toList o e (fun e=>match e.ev x with
           | some y=>atP y fun b p=>ldH c.P t h b p fun v cells=>ZlL c.n e o.dst v fun e'=>Zkl c ops K r ((i,fun h'=>Zo h' cells)::hd) e' h
           | none=>False)
           (fun e=>ZlL c.n e o.dst (.val undef) fun e'=>Zkl c ops K r hd e' h)
        else ZvR c ops o hd e h (Zkl c ops K r)
      | .text x=>bif fr then
          Zim ops.toList o e (fun e=>match e.ev x with
           | some (.val (.slice p l n))=>b2s ⟨p,l,n⟩ h fun s=>ZlL c.n e o.dst (.val (.string s)) fun e'=>Zkl c ops K r ((i,fun h'=>b2s ⟨p,l,n⟩ h' fun s'=>s'=s)::hd) e' h
           | _=>False)
           (fun e=>ZlL c.n e o.dst (.val undef) fun e'=>Zkl c ops K r hd e' h)
        else Ztw c ops o hd e h (Zkl c ops K r)
      | .other=>Ztw c ops o hd e h (Zkl c ops K r)
inductive Ann where
  | leaf
  | seq (a b:Ann)
  | cut (slots:List Nat) (tys:List VT) (kill:List (Nat × Nat)) (a b:Ann)
  | cond (a b:Ann)
  | block (a:Ann)
  | loop (slots:List Nat) (tys:List VT) (kill:List (Nat × Nat)) (a:Ann)
  | order (l:OrdT)
  | range (tys:List VT) (a b:Ann)
inductive Ex where
  | normal | exit (id:Nat) | ret
def Znh (e:Env):List Nat→Option (List EV)
  | []=>some []
  | s::ss=>match e s,Znh e ss with
    | some v,some vs=>some (v::vs)
    | _,_=>none
def ZlY (slots:List Nat) (tys:List VT) (e:Env):Option (Xa tys) :=
  match Znh e slots with
  | some es=>Xa.un tys es
  | none=>none
def ZpR (slots:List Nat) (tys:List VT) (e:Env) (J:Xa tys→Zd→Prop) (h:Zd):Prop :=
  match ZlY slots tys e with
  | some t=>J t h
  | none=>False
def mkN:Nat:=4294967291
def ZcZ:Code→List Nat
  | .region _ ops _=>ops.toList.filterMap (·.dst)
  | .seq a b=>ZcZ a++ZcZ b
  | .cond _ a b=>ZcZ a++ZcZ b
  | .block _ a=>ZcZ a
  | .loop a=>ZcZ a
  | .rangeFunc _ _ _ _=>[mkN]
  | _=>[]
def ZmT (slots:List Nat) (kill:List (Nat × Nat)) (a:Code):Bool:=(ZcZ a).all fun j=>bif Nat.beq j mkN then false else Zby slots j||Zlh kill j
def Zrf (K:Env→Zd→Prop) (Q:Ex→Env→Zd→Prop):Ex→Env→Zd→Prop
  | .normal,e,h=>K e h
  | .exit id,e,h=>Q (.exit id) e h
  | .ret,e,h=>Q .ret e h
def ZrS (id:Nat) (Q:Ex→Env→Zd→Prop):Ex→Env→Zd→Prop
  | .normal,e,h=>Q .normal e h
  | .exit id',e,h=>bif Nat.beq id' id then Q .normal e h else Q (.exit id') e h
  | .ret,e,h=>Q .ret e h
def Zjb (n:Nat) (e:Env):List Tmp→List EV→Option Env
  | [],[]=>some e
  | p::ps,v::vs=>bif Nat.blt p n then Zjb n (e.set p v) ps vs else none
  | _,_=>none
def Ztp (a:Code):Bool:=Zby (ZcZ a) mkN
def Zp0:Op→Bool
  | .defer _=>true
  | _=>false
def Zgp:List Oper→Bool
  | []=>true
  | o::os=>bif Zp0 o.op then false else Zgp os
def Ann.fst:Ann→Ann
  | .seq a _ | .cut _ _ _ a _ | .cond a _ | .block a | .loop _ _ _ a | .range _ a _=>a
  | .leaf | .order _=> .leaf
def Ann.snd:Ann→Ann
  | .seq _ b | .cut _ _ _ _ b | .cond _ b | .range _ _ b=>b
  | _=> .leaf
def ZrJ (K:Env→Zd→Prop):Ex→Env→Zd→Prop
  | .normal,e,h=>K e h
  | _,_,_=>False
def ZrI (k:Option Code→Zd→Prop):Ex→Env→Zd→Prop
  | .normal,_,h=>k none h
  | .exit id,_,h=>k (some (.exit id)) h
  | .ret,_,h=>k (some .ret) h
def wpC (c:Cfg):Code→Ann→Env→Zd→(Ex→Env→Zd→Prop)→Prop
  | .skip,_,e,h,Q=>Q .normal e h
  | .region _ ops draw,ann,e,h,Q =>
    match draw with
    | true=>match ann with
      | .order l=>bif Region.noSelect ops&&(Nat.ble l.depth ops.size&&(Zgp ops.toList&&Zkm c ops l 0)) then Zkl c ops (fun e' h'=>Q .normal e' h') l [] e h else False
      | _=>bif c.rnd.isNone&&Region.lexB .any ops then Zdk c (Zpw c) ops.toList ops.toList e h fun e' h'=>Q .normal e' h' else False
    | false=>Zdk c (Zvx c) ops.toList ops.toList e h fun e' h'=>Q .normal e' h'
  | .seq a b,ann,e,h,Q =>
    match ann with
    | .cut slots tys kill x y =>
      bif ZmT slots kill a then
        Zg7 (fun t h'=>wpC c b y (ZiY slots (Xa.evs tys t) kill e) h' Q) (fun J=>wpC c a x e h (Zrf (fun e' h'=>ZpR slots tys e' J h') Q))
      else False
    | ann=>wpC c a ann.fst e h (Zrf (fun e' h'=>wpC c b ann.snd e' h' Q) Q)
  | .cond x a b,ann,e,h,Q =>
    match e.ev x with
    | some (.lit true)=>wpC c a ann.fst e h Q
    | some (.lit false)=>wpC c b ann.snd e h Q
    | some (.val (.bool v))=>Zs v (wpC c a ann.fst e h Q) (wpC c b ann.snd e h Q)
    | _=>False
  | .block id a,ann,e,h,Q=>wpC c a ann.fst e h (ZrS id Q)
  | .loop a,ann,e,h,Q =>
    match ann with
    | .loop slots tys kill x =>
      bif ZmT slots kill a then
        match ZlY slots tys e with
        | some t0=>YY (fun J t h'=>wpC c a x (ZiY slots (Xa.evs tys t) kill e) h' (Zrf (fun e' h''=>ZpR slots tys e' J h'') Q)) t0 h
        | none=>False
      else False
    | _=>False
  | .exit id,_,e,h,Q=>Q (.exit id) e h
  | .ret,_,e,h,Q=>Q .ret e h
  | .rangeFunc g ps assign body,ann,e,h,Q =>
    match ann with
    | .range tys x y=>bif c.rnd.isNone&&e.mD.isNo then
      (match e.ev g with
      | some (.val (.func (.func f) ⟨[]⟩ ⟨cs⟩))=>match Znj f (cs.map EV.val) c.iters with
        | some ⟨s,t⟩ =>
          Zjf ps.size (fun Y l K h'=>s.sem Y l t K h')
           (fun l r vs h' k=>Zqk (fun a:Xa tys=>(Xa.evs tys a).map EV.v) vs fun a=>match Zjb c.n ⟨e.f,.no⟩ ps.toList (Xa.evs tys a) with
             | some e1=>wpC { c with rnd:=some l,pan:=fun _ _=>False } assign x e1 h' (ZrJ fun e2 h2 =>
                 Zmk r l h2 fun h3=>wpC { c with rnd:=some l,pan:=fun _ _=>False } body y e2 h3 (ZrI k))
             | none=>False)
           h fun p D h'=>Zma p (Q .normal ⟨e.f,.at_ D⟩ h') (fun id=>Q (.exit id) ⟨e.f,.at_ D⟩ h') (Q .ret ⟨e.f,.at_ D⟩ h')
        | none=>False
      | _=>False)
      else False
    | _=>False
  | _,_,_,_,_=>False
def ZqA (c:Cfg) (e:Env) (h:Zd):List ResultVar→(List EV→Prop)→Prop
  | [],K=>K []
  | .tmp t::r,K=>match e.f t with
    | some v=>ZqA c e h r fun vs=>K (v::vs)
    | none=>False
  | .cell a t::r,K=>match e.f a with
    | some (.adr b o)=>ldT c.P t h b o fun v=>ZqA c e h r fun vs=>K (v::vs)
    | _=>False
def ZiC (l:List EV):Env:=⟨fun j=>go l 0 j,.no⟩
where go:List EV→Nat→Nat→Option EV
  | [],_,_=>none
  | v::vs,i,j=>bif Nat.beq j i then some v else go vs (i+1) j
def ZtK (c:Cfg) (fn:Func) (ann:Ann) (args:List EV) (res:List VT) (K:Xa res→Zd→Prop) (Kp:Value→Zd→Prop) (h:Zd):Prop :=
  match fn.body with
  | some code=>wpC { c with rnd:=none,pan:=bif Ztp code then fun _ _=>False else Kp } code ann (ZiC args) h fun ex e h' =>
    match ex with
    | .exit _=>False
    | _=>match e.mD with
      | .no=>ZqA c e h' fn.results.toList fun vs=>match Xa.un res vs with
        | some r=>K r h'
        | none=>False
      | .at_ D=>ZeY D h' fun h'=>ZqA c e h' fn.results.toList fun vs=>match Xa.un res vs with
        | some r=>K r h'
        | none=>False
      | .raw _=>False
  | none=>False
theorem ZkD (w:World) (b o:Nat):w.cell? ⟨b,o,none⟩=Zd.cell w.heap b o:=by
  unfold World.cell? Zd.cell
  simp only [Option.isSome_none,Bool.false_eq_true,if_false]
  cases w.heap[b]? with
  | none=>rfl
  | some x=>cases x<;>rfl
theorem Ztr (w:World) (b o:Nat):w.frozen? ⟨b,o,none⟩=Zd.froz w.heap b o:=by
  unfold World.frozen? Zd.froz
  rfl
theorem Znb (w:World) (b o:Nat) (v:Value):w.setCell ⟨b,o,none⟩ v={ w with heap:=Zd.put w.heap b o v }:=by
  unfold World.setCell Zd.put
  simp only [Option.isSome_none,Bool.false_eq_true,if_false]
  refine congrArg (fun f=>({ w with heap:=w.heap.modify b f }:World)) ?_
  funext x
  cases x<;>rfl
theorem ZiG (b o n:Nat):(⟨b,o,none⟩:Addr).add n=⟨b,o+n,none⟩:=by
  unfold Addr.add
  split
  ·rename_i h;subst h;rfl
  ·rfl
theorem Zmq (o i:Nat):ZvV o i=o+i:=by
  unfold ZvV
  cases h:Nat.beq i 0 with
  | false=>rfl
  | true=>have:=Nat.eq_of_beq_eq_true h;subst this;rfl
def Same (w w':World):Prop:=w'.tape=w.tape∧w'.os=w.os∧w'.output=w.output
theorem Same.refl (w:World):Same w w:=⟨rfl,rfl,rfl⟩
theorem Same.trans {a b c:World} (h:Same a b) (h':Same b c):Same a c:=⟨h'.1.trans h.1,h'.2.1.trans h.2.1,h'.2.2.trans h.2.2⟩
def Ztg:Mark→List Deferred
  | .no=>[]
  | .at_ D=>[{ target:= .collected D,args:= #[]}]
  | .raw ds=>ds
structure Agr (n:Nat) (e:Env) (a:Act):Prop where
  size:a.tmps.size=n
  defers:a.defers=Ztg e.mD
  val:∀ j v,e j=some v→a.tmps[j]?=some v.v
theorem Agr.ev {n:Nat} {e:Env} {a:Act} (h:Agr n e a) {x:Operand} {v:EV} (hx:e.ev x=some v):a.eval x=v.v:=by
  cases x with
  | tmp t=>have:=h.val t v hx;simp [Act.eval,this]
  | const c =>
    cases c<;>simp only [Env.ev,Option.some.injEq] at hx<;>subst hx<;>rfl
  | global g=>simp only [Env.ev,Option.some.injEq] at hx;subst hx;rfl
  | func f=>simp only [Env.ev,Option.some.injEq] at hx;subst hx;rfl
theorem Agr.evs {n:Nat} {e:Env} {a:Act} (h:Agr n e a):∀ {xs:List Operand} {vs:List EV},evs e xs=some vs→xs.map a.eval=vs.map EV.v
  | [],vs,hx=>by simp only [Fw.evs,Option.some.injEq] at hx;subst hx;rfl
  | x::xs,vs,hx=>by
    simp only [Fw.evs] at hx
    split at hx
    ·rename_i v vs' h1 h2
     simp only [Option.some.injEq] at hx;subst hx
     simp [h.ev h1,h.evs h2]
    ·cases hx
theorem Agr.set {n:Nat} {e:Env} {a:Act} (h:Agr n e a) {d:Nat} (hd:Nat.blt d n=true) (v:EV):Agr n (e.set d v) (a.put (some d) v.v):=by
  have hlt:d<n:=by rw [Nat.blt_eq] at hd;exact hd
  refine ⟨by simp [Act.put,h.size],by simp [Act.put,h.defers,Env.set],fun j u hj=>?_⟩
  unfold Env.set at hj
  dsimp only at hj
  cases hb:Nat.beq j d with
  | true =>
    have:=Nat.eq_of_beq_eq_true hb;subst this
    rw [hb] at hj
    simp only [cond_true,Option.some.injEq] at hj
    subst hj
    simp [Act.put,h.size,hlt]
  | false =>
    have hne:j≠d:=Nat.ne_of_beq_eq_false hb
    rw [hb] at hj
    simp only [cond_false] at hj
    have:=h.val j u hj
    simp [Act.put,Array.getElem?_setIfInBounds_ne (Ne.symm hne),this]
theorem Agr.tell {n:Nat} {e:Env} {a:Act} (h:Agr n e a) {t:Nat} {b:Bool} (ht:e t=some (.val (.bool b))):Agr n (e.set t (.lit b)) a:=by
  refine ⟨h.size,h.defers,fun j u hj=>?_⟩
  unfold Env.set at hj
  dsimp only at hj
  cases hb:Nat.beq j t with
  | true =>
    have:=Nat.eq_of_beq_eq_true hb;subst this
    rw [hb] at hj
    simp only [cond_true,Option.some.injEq] at hj
    subst hj
    have:=h.val j _ ht
    exact this
  | false =>
    rw [hb] at hj
    exact h.val j u hj
theorem ZbH {n:Nat} {e:Env} {a:Act} (h:Agr n e a) {d:Option Tmp} {v:EV} {K:Env→Prop} (hk:ZlL n e d v K) :
    ∃ e',Agr n e' (a.put d v.v)∧K e':=by
  unfold ZlL at hk
  cases d with
  | none=>exact ⟨e,h,hk⟩
  | some d =>
    simp only at hk
    cases hb:Nat.blt d n with
    | false=>rw [hb] at hk;exact hk.elim
    | true=>rw [hb] at hk;exact ⟨_,h.set hb v,hk⟩
section
variable (P:Program) (w:World)
theorem ZeC {b o:Nat} {v:Value} (h:Zd.cell w.heap b o=some v) (m:Mode):(load ⟨b,o,none⟩ m).run P w = .ok v w:=by
  rw [run_load,ZkD,h]
theorem ZiP {b o:Nat} {u v:Value} (h:Zd.cell w.heap b o=some u) (hf:Zd.froz w.heap b o=false) (hv:ZH v=true) (m:Mode) :
    (store ⟨b,o,none⟩ v m).run P w = .ok () { w with heap:=Zd.put w.heap b o v }:=by
  have hv':v.oneCell'=true:=by cases v<;>first | rfl | (simp [ZH] at hv)
  rw [run_store P w _ v m hv',ZkD,h,Ztr,hf]
  simp only [Bool.false_eq_true,if_false,Znb]
theorem Zk (t:TypeId) {d:TypeDesc} (h:P.underlying t=some d):(underlying t).run P w = .ok d w:=by
  unfold underlying
  simp [h]
theorem ZaF (t:TypeId) {i:TypeInfo} (h:P.info? t=some i):(typeInfo t).run P w = .ok i w:=by
  unfold typeInfo
  simp [h]
theorem Xm (t:TypeId) {i:TypeInfo} (h:P.info? t=some i):(sizeOf t).run P w = .ok i.size w:=by
  unfold sizeOf
  simp [ZaF P w t h]
theorem XO (t:TypeId) {i:TypeInfo} {v:Value} (h:P.info? t=some i) (hv:i.zero=some v):(zeroValue t).run P w = .ok v w:=by
  unfold zeroValue
  simp [ZaF P w t h,hv]
theorem Zad {t:TypeId} {d:TypeDesc} (h:P.underlying t=some d):∃ i,P.info? t=some i:=by
  unfold Program.underlying at h
  cases hi:P.info? t with
  | none=>simp [hi] at h
  | some i=>exact ⟨i,rfl⟩
theorem Za3 {t:TypeId} {i:TypeInfo} (h:P.info? t=some i):P.cellsOf t=i.size:=by
  unfold Program.cellsOf
  simp [h]
theorem ZcX (t:TypeId) {d:TypeDesc} (h:P.underlying t=some d):(isAgg t).run P w = .ok (Za0 (some d)) w:=by
  unfold isAgg
  simp only [Sem.run_bind,Zk P w t h,Result.andThen_ok]
  cases d<;>rfl
theorem Zei (b o:Nat):∀ (vs:List Value) (i:Nat) (acc:Array Value),Zd.has w.heap b (o+i) vs →
    (loadCellsFrom ⟨b,o,none⟩ i vs.length acc).run P w = .ok (acc++vs.toArray) w
  | [],i,acc,_=>by simp [loadCellsFrom]
  | v::vs,i,acc,h=>by
    have h1:Zd.cell w.heap b (o+i)=some v:=h.1
    have h2:Zd.has w.heap b (o+i+1) vs:=h.2
    simp only [List.length_cons,loadCellsFrom,Sem.run_bind,ZiG,ZeC P w h1,Result.andThen_ok]
    rw [Zei b o vs (i+1) _ (by rw [← Nat.add_assoc];exact h2)]
    simp
theorem ZbX (b o:Nat) (vs:List Value) (h:Zd.has w.heap b o vs):(loadCells ⟨b,o,none⟩ vs.length).run P w = .ok vs.toArray w:=by
  unfold loadCells
  rw [Zei P w b o vs 0 #[] (by simpa using h)]
  simp
end
theorem Zmj {h:Zd} {b o b' o':Nat} {v:Value} (hne:b≠b'∨o≠o'):(h.put b o v).cell b' o'=h.cell b' o':=by
  unfold Zd.put Zd.cell
  simp only [Array.getElem?_modify]
  by_cases hb:b=b'
  ·subst hb
   have ho:o≠o':=hne.resolve_left (fun h=>h rfl)
   simp only [if_true]
   cases hh:h[b]? with
   | none=>rfl
   | some x=>cases x<;>simp [Array.getElem?_setIfInBounds_ne ho]
  ·simp [hb]
theorem Zq6 {h:Zd} {b o b' o':Nat} {v:Value}:(h.put b o v).froz b' o'=h.froz b' o':=by
  unfold Zd.put Zd.froz
  simp only [Array.getElem?_modify]
  by_cases hb:b=b'
  ·subst hb
   simp only [if_true]
   cases hh:h[b]? with
   | none=>rfl
   | some x=>cases x<;>rfl
  ·simp [hb]
theorem ZmP {h:Zd} {b o:Nat} {v:Value}:∀ {n o':Nat},o<o'→h.free b o' n→(h.put b o v).free b o' n
  | 0,_,_,_=>trivial
  | n+1,o',hlt,hf=>by
    obtain ⟨⟨⟨u,hu⟩,hz⟩,hr⟩:=hf
    exact ⟨⟨⟨u,by rw [Zmj (.inr (by omega))];exact hu⟩,by rw [Zq6];exact hz⟩,ZmP (by omega) hr⟩
theorem ZcM (P:Program) (b o:Nat):∀ (vs:List Value) (i:Nat) (w:World),Zd.free w.heap b (o+i) vs.length→vs.all ZH=true →
    (storeCells ⟨b,o,none⟩ vs i).run P w = .ok () { w with heap:=Zd.puts w.heap b (o+i) vs }
  | [],i,w,_,_=>rfl
  | v::vs,i,w,hf,ha=>by
    obtain ⟨⟨⟨u,hu⟩,hz⟩,hr⟩:=hf
    simp only [List.all_cons,Bool.and_eq_true] at ha
    simp only [storeCells,Sem.run_bind,ZiG,ZiP P w hu hz ha.1,Result.andThen_ok]
    rw [ZcM P b o vs (i+1) _ (by rw [← Nat.add_assoc];exact ZmP (by omega) hr) ha.2]
    simp [Zd.puts,Nat.add_assoc]
theorem Zf4 {d:Option TypeDesc} {h:Zd} {b o:Nat} {K:EV→Prop} (hk:Zij d h b o K) :
    ∃ v,h.cell b o=some v.v∧K v∧Za0 d=false∧d.isSome=true:=by
  unfold Zij at hk
  cases d with
  | none=>exact hk.elim
  | some d =>
    cases d<;>simp only at hk<;>first
      | exact hk.elim
      | (obtain ⟨x,hx,hK⟩:=hk;refine ⟨_,?_,hK,rfl,rfl⟩;exact hx)
theorem Zg2 {h:Zd} {b o:Nat}:∀ {ds:List (Option TypeDesc)} {i:Nat} {K:List Value→Prop},Zq4 h b o i ds K →
    ∃ vs,vs.length=ds.length∧h.has b (o+i) vs∧K vs
  | [],i,K,hk=>⟨[],rfl,trivial,hk⟩
  | d::ds,i,K,hk=>by
    obtain ⟨v,hc,hk,_⟩:=Zf4 hk
    obtain ⟨vs,hl,hh,hk⟩:=Zg2 hk
    rw [Zmq] at hc
    exact ⟨v.v::vs,by simp [hl],⟨hc,by rw [Nat.add_assoc];exact hh⟩,hk⟩
theorem ZmM {P:Program} {t:TypeId} {b o:Nat} {K:EV→Prop} {h:Zd} (hk:ldT P t h b o K) :
    ∃ v,(∀ w:World,w.heap=h→(loadVar t ⟨b,o,none⟩).run P w = .ok v.v w)∧K v:=by
  unfold ldT at hk
  cases hu:P.underlying t with
  | none=>rw [hu] at hk;simp [Za0,Zij] at hk
  | some d =>
    obtain ⟨i,hi⟩:=Zad P hu
    rw [hu] at hk
    unfold loadVar
    cases ha:Za0 (some d) with
    | true =>
      rw [ha] at hk
      simp only [cond_true] at hk
      cases hl:Nat.beq (Zds P 8 t).length (P.cellsOf t) with
      | false=>rw [hl] at hk;exact hk.elim
      | true =>
        rw [hl] at hk
        obtain ⟨vs,hlen,hh,hk⟩:=Zg2 hk
        have hs:i.size=vs.length:=by rw [hlen,Nat.eq_of_beq_eq_true hl,Za3 P hi]
        refine ⟨.val (.agg vs.toArray),fun w hw=>?_,hk⟩
        subst hw
        simp only [Sem.run_bind,ZcX P w t hu,ha,Result.andThen_ok,if_true,Xm P w t hi,hs]
        rw [ZbX P w b o vs (by simpa using hh)]
        rfl
    | false =>
      rw [ha] at hk
      obtain ⟨v,hc,hk,_⟩:=Zf4 hk
      refine ⟨v,fun w hw=>?_,hk⟩
      subst hw
      simp only [Sem.run_bind,ZcX P w t hu,ha,Result.andThen_ok,Bool.false_eq_true,if_false]
      exact ZeC P w hc _
def Zvr (vs:List VT) (t:Xa vs):Value:=(ZdB (Xa.evs vs t)).v
def fen (r:Option Nat):Fence:={ fn:=fun _=>True,depth:=none,alive:=false,round:=r }
theorem ZeS {r:Option Nat} {n:Nat} {P:Program} {f:FuncId} {args:Array Value} {w:World} {R:Ending→World→Prop}:CallsIn (fen r) n P f args w R↔Calls P f args w R :=
  callsIn_wide (n:=n)
def ZfK (res:List VT) (w:World) (K:Xa res→Zd→Prop) (Kp:Value→Zd→Prop):Ending→World→Prop:=fun e w' =>
  (∃ r,e = .returned (Zvr res r)∧Same w w'∧K r w'.heap)∨(∃ v,e = .panicked [{ v,recovered:=false }]∧Same w w'∧Kp v w'.heap)
def Zrn (P:Program) (l:Nat) (vs:List Value) (w:World) (k:Bool→Zd→Prop):Prop :=
  ∃ fn tmps assign body,(Instr.yield l vs.toArray).run P w = .ok (.round l fn tmps assign body) w ∧
    RoundIn (fen none) 0 P l fn tmps assign body w fun e w'=>∃ b,e = .returned (.bool b)∧Same w w'∧k b w'.heap
def YOK (P:Program) (Y:Yld):Prop:=∀ l vs k w,Y l vs k w.heap→Zrn P l vs w k
structure Zm (P:Program) (f:FuncId) (s:Ze):Prop where
  named:∃ fn,P.funcs[f]?=some fn∧(fn.name == "runtime.NumGoroutine")=false∧fn.body.isNone=false
  calls:∀ (t:Xa s.args) (K:Xa s.res→Zd→Prop) (Kp:Value→Zd→Prop) (w:World),s.sem t K Kp w.heap →
    Calls P f ((Xa.evs s.args t).map EV.v).toArray w (ZfK s.res w K Kp)
def Zbj.spec (s:Zbj) (Y:Yld):Ze:=⟨.yl::s.caps,[],fun t K _ h=>s.sem Y t.1 t.2 (fun h'=>K () h') h⟩
def ZlG (P:Program) (f:FuncId) (s:Zbj):Prop:=∀ Y,YOK P Y→Zm P f (s.spec Y)
def Zqw (P:Program) (f:FuncId):Prop:=∀ (t b:Nat) (es:Array MapEntry) (c:Nat) (w:World),w.heap[b]?=some (.map es c) →
  ∃ w',(callFunc f #[.iface t (.map (some b))]).run P w = .ok (.value (.iface t (.map (some w.heap.size)))) w'∧Same w w'∧w'.heap=w.heap.push (.map es c)
def Zm6 (P:Program) (name:String) (t:TypeId) (f:FuncId):Prop:=∀ (v:Value) (w:World),(method (P.types.size+Made.depth) t v name).run P w = .ok (f,v) w
structure Cfg.OK (c:Cfg):Prop where
  calls:∀ x,x∈c.calls→Zm c.P x.1 x.2
  ext:∀ f,f∈c.ext→Zqw c.P f
  dyn:∀ x,x∈c.dyn→Zm6 c.P x.1 x.2.1 x.2.2
  iters:∀ x,x∈c.iters→ZlG c.P x.1 x.2
  yld:YOK c.P c.yld
theorem Cfg.OK.at {c:Cfg} (h:c.OK) (r:Option Nat) (p:Value→Zd→Prop):Cfg.OK { c with rnd:=r,pan:=p }:=⟨h.calls,h.ext,h.dyn,h.iters,h.yld⟩
theorem Zq (P:Program):YOK P ZC:=fun _ _ _ _ h=>h.elim
theorem Zh1 {f:FuncId} {es:List EV}:∀ {l:List (FuncId × Zbj)} {p:Zqq},Znj f es l=some p→(f,p.s)∈l∧Xa.un p.s.caps es=some p.t
  | [],p,h=>by simp [Znj] at h
  | (g,s)::r,p,h=>by
    simp only [Znj] at h
    cases hb:Nat.beq f g with
    | false =>
      rw [hb] at h
      have:=Zh1 (l:=r) h
      exact ⟨.tail _ this.1,this.2⟩
    | true =>
      rw [hb] at h
      have he:=Nat.eq_of_beq_eq_true hb
      subst he
      simp only [cond_true] at h
      split at h
      ·rename_i t ht
       simp only [Option.some.injEq] at h
       subst h
       exact ⟨.head _,ht⟩
      ·have:=Zh1 (l:=r) h
       exact ⟨.tail _ this.1,this.2⟩
theorem Zfd {f:FuncId} {es:List EV}:∀ {l:List (FuncId × Ze)} {p:ZrV},ZiT f es l=some p→(f,p.s)∈l∧Xa.un p.s.args es=some p.t
  | [],p,h=>by simp [ZiT] at h
  | (g,s)::r,p,h=>by
    simp only [ZiT] at h
    cases hb:Nat.beq f g with
    | false =>
      rw [hb] at h
      have:=Zfd (l:=r) h
      exact ⟨.tail _ this.1,this.2⟩
    | true =>
      rw [hb] at h
      have he:=Nat.eq_of_beq_eq_true hb
      subst he
      simp only [cond_true] at h
      split at h
      ·rename_i t ht
       simp only [Option.some.injEq] at h
       subst h
       exact ⟨.head _,ht⟩
      ·have:=Zfd (l:=r) h
       exact ⟨.tail _ this.1,this.2⟩
theorem Zgm {f:FuncId} {es:List EV}:∀ {l:List (FuncId × Ze)} {p:ZkJ},ZiS f es l=some p→(f,(⟨p.a0::p.rest,p.res,p.sem⟩:Ze))∈l∧Xa.un p.rest es=some p.t
  | [],p,h=>by simp [ZiS] at h
  | (g,⟨a0::rest,res,sem⟩)::r,p,h=>by
    simp only [ZiS] at h
    cases hb:Nat.beq f g with
    | false =>
      rw [hb] at h
      have:=Zgm (l:=r) h
      exact ⟨.tail _ this.1,this.2⟩
    | true =>
      rw [hb] at h
      have he:=Nat.eq_of_beq_eq_true hb
      subst he
      simp only [cond_true] at h
      split at h
      ·rename_i t ht
       simp only [Option.some.injEq] at h
       subst h
       exact ⟨.head _,ht⟩
      ·have:=Zgm (l:=r) h
       exact ⟨.tail _ this.1,this.2⟩
  | (g,⟨[],res,sem⟩)::r,p,h=>by
    simp only [ZiS] at h
    have:=Zgm (l:=r) h
    exact ⟨.tail _ this.1,this.2⟩
theorem Zlt {calls:List (FuncId × Ze)} {Kp:Value→Zd→Prop} {name:String} {v:Value} {es:List EV} {h:Zd} {K:EV→Zd→Prop}:∀ {l:List (String × TypeId × FuncId)},Ztx calls Kp name v es h K l →
    ∃ (t:TypeId) (f:FuncId) (p:ZkJ) (x:p.a0.D),(name,t,f)∈l∧v = .iface t (p.a0.ev x).v∧ZiS f es calls=some p∧p.sem (x,p.t) (fun rr h'=>K (ZdB (Xa.evs p.res rr)) h') Kp h
  | [],hk=>hk.elim
  | (n,t,f)::r,hk=>by
    have tail:Ztx calls Kp name v es h K r→∃ (t':TypeId) (f':FuncId) (p:ZkJ) (x:p.a0.D),(name,t',f')∈(n,t,f)::r∧v = .iface t' (p.a0.ev x).v∧ZiS f' es calls=some p∧p.sem (x,p.t) (fun rr h'=>K (ZdB (Xa.evs p.res rr)) h') Kp h:=fun h9=>by
      obtain ⟨t',f',p,x,h1,h2,h3,h4⟩:=Zlt h9
      exact ⟨t',f',p,x,.tail _ h1,h2,h3,h4⟩
    simp only [Ztx] at hk
    cases hb:n ==name with
    | false=>rw [hb] at hk;exact tail hk
    | true =>
      rw [hb] at hk
      have he:n=name:=by simpa using hb
      subst he
      simp only [cond_true] at hk
      split at hk
      ·rename_i p hp
       rcases hk with ⟨x,hx,hk⟩ | hk
       ·exact ⟨t,f,p,x,.head _,hx,hp,hk⟩
       ·exact tail hk
      ·exact tail hk
theorem Zhz {calls:List (FuncId × Ze)} {Kp:Value→Zd→Prop} {v:Value} {es:List EV} {h:Zd} {K:EV→Zd→Prop}:∀ {l:List (FuncId × List Leaf)},fnP calls Kp v es h K l →
    ∃ (f:FuncId) (cs:List Value) (s:Ze) (t:Xa s.args),v = .func (.func f) #[] ⟨cs⟩∧ZiT f (Zrg es cs) calls=some ⟨s,t⟩∧s.sem t (fun rr h'=>K (ZdB (Xa.evs s.res rr)) h') Kp h
  | [],hk=>hk.elim
  | (f,[])::r,hk=>by
    simp only [fnP] at hk
    split at hk
    ·rename_i s t hp
     rcases hk with ⟨hv,hk⟩ | hk
     ·exact ⟨f,[],s,t,hv,by simpa [Zrg] using hp,hk⟩
     ·exact Zhz hk
    ·exact Zhz hk
  | (f,l::ls)::r,hk=>by
    simp only [fnP] at hk
    rcases hk with ⟨c,hv,hk⟩ | hk
    ·split at hk
     ·rename_i s t hp
      exact ⟨f,_,s,t,hv,hp,hk⟩
     ·exact hk.elim
    ·exact Zhz hk
theorem ZmO {f:FuncId}:∀ {l:List FuncId},ZtJ f l=true→f∈l
  | [],h=>by simp [ZtJ] at h
  | g::r,h=>by
    simp only [ZtJ] at h
    cases hb:Nat.beq f g with
    | true=>rw [Nat.eq_of_beq_eq_true hb];exact .head _
    | false=>rw [hb] at h;exact .tail _ (ZmO h)
theorem Zvj {l:Leaf} {v:Value} {x:l.D} (h:l.un v=some x):l.mk x=v:=by
  cases l<;>cases v<;>simp only [Leaf.un] at h<;>first
    | (split at h
       ·simp only [Option.some.injEq] at h;subst h;rename_i hk;subst hk;rfl
       ·cases h)
    | (simp only [Option.some.injEq] at h;subst h;rfl)
    | cases h
theorem Zph:∀ {ls:List Leaf} {vs:List Value} {t:Tup ls},Tup.un ls vs=some t→Tup.vals ls t=vs
  | [],[],t,_=>rfl
  | [],_::_,t,h=>by simp [Tup.un] at h
  | _::_,[],t,h=>by simp [Tup.un] at h
  | l::ls,v::vs,t,h=>by
    simp only [Tup.un] at h
    split at h
    ·rename_i x t' h1 h2
     simp only [Option.some.injEq] at h
     subst h
     simp only [Tup.vals,Zvj h1,Zph h2]
    ·cases h
theorem Zq8 {f:FuncId} {e:EV} {x:Unit} (h:fnU f e=some x):(EV.val (.func (.func f) #[] #[])).v=e.v:=by
  unfold fnU at h
  split at h
  ·rename_i g
   cases hb:Nat.beq f g with
   | false=>rw [hb] at h;cases h
   | true=>rw [Nat.eq_of_beq_eq_true hb]
  ·cases h
theorem Zqe {f:FuncId} {ls:List Leaf} {e:EV} {x:Tup ls} (h:ZAz f ls e=some x):(EV.val (.func (.func f) #[] ⟨Tup.vals ls x⟩)).v=e.v:=by
  unfold ZAz at h
  split at h
  ·rename_i g cs
   cases hb:Nat.beq f g with
   | false=>rw [hb] at h;cases h
   | true =>
     rw [hb] at h
     rw [Nat.eq_of_beq_eq_true hb,Zph (ls:=ls) (vs:=cs) h]
  ·cases h
theorem ZqL {e:EV} {l:Nat} (h:ylU e=some l):(EV.val (.func (.yield l) #[] #[])).v=e.v:=by
  unfold ylU at h
  split at h
  ·simp only [Option.some.injEq] at h;subst h;rfl
  ·cases h
theorem ZAp {v:VT} {e:EV} {x:v.D} (h:v.un e=some x):(v.ev x).v=e.v:=by
  cases v with
  | one l=>exact Zvj (v:=e.v) h
  | agg ls =>
    cases e with
    | val u =>
      cases u with
      | agg cs =>
        have:=Zph (ls:=ls) (vs:=cs.toList) h
        show Value.agg (Tup.vals ls x).toArray = .agg cs
        rw [this]
      | _=>simp [VT.un] at h
    | lit b=>simp [VT.un] at h
    | adr b o=>simp [VT.un] at h
    | itr t b=>simp [VT.un] at h
    | more k v=>simp [VT.un] at h
    | over=>simp [VT.un] at h
  | fn f=>exact Zq8 h
  | clo f ls=>exact Zqe h
  | yl=>exact ZqL h
theorem Zd1:∀ {vs:List VT} {es:List EV} {t:Xa vs},Xa.un vs es=some t→(Xa.evs vs t).map EV.v=es.map EV.v
  | [],[],t,_=>rfl
  | [],_::_,t,h=>by simp [Xa.un] at h
  | _::_,[],t,h=>by simp [Xa.un] at h
  | v::vs,e::es,t,h=>by
    simp only [Xa.un] at h
    split at h
    ·rename_i x t' h1 h2
     simp only [Option.some.injEq] at h
     subst h
     simp only [Xa.evs,List.map_cons,ZAp h1,Zd1 h2]
    ·cases h
theorem ZpG {P:Program} {ρ:Operand→Value} {o:Oper} {w w':World} {n:Next} (hr:(execOp ρ o).run P w = .ok n w') (hn:∀ d,n≠ .defer d):∀ c,o.op≠ .defer c:=by
  intro c hc
  unfold execOp at hr
  rw [hc] at hr
  simp only [Sem.run_bind] at hr
  cases h:(resolve ρ c o.type).run P w with
  | ok d w1 =>
    rw [h] at hr
    simp only [Result.andThen_ok,Sem.run_pure] at hr
    cases hr
    exact hn _ rfl
  | halt x w1 =>
    rw [h] at hr
    cases hr
theorem Zgf {P:Program} {r:Option Nat} {ρ:Operand→Value} {o:Oper} {w w':World} {n:Next} (hr:(execOp ρ o).run P w = .ok n w') (hn:∀ d,n≠ .defer d):(o.semAt r ρ).run P w = .ok n w':=by
  rw [Oper.semAt_eq _ _ _ (ZpG hr hn)]
  exact hr
theorem ZrC {P:Program} {r:Option Nat} {o:Oper} {a:Act} {w w':World} {v:Value} {next:Act→World→Prop} {Q:Exit→Act→World→Prop}
    (hr:(execOp a.eval o).run P w = .ok (.value v) w') (hn:next (a.put o.dst v) w'):o.wpIn (fen r) 0 P a w next Q:=by
  refine ⟨fun _ _=>trivial,?_⟩
  rw [show (fen r).round=r from rfl,Zgf hr (fun _ h=>by cases h)]
  exact hn
theorem Zj2 {P:Program} {r:Option Nat} {o:Oper} {a:Act} {w w':World} {next:Act→World→Prop} {Q:Exit→Act→World→Prop}
    (hr:(execOp a.eval o).run P w = .ok .skip w') (hn:next (a.put o.dst undef) w'):o.wpIn (fen r) 0 P a w next Q:=by
  refine ⟨fun _ _=>trivial,?_⟩
  rw [show (fen r).round=r from rfl,Zgf hr (fun _ h=>by cases h)]
  exact hn
theorem Zj3 {P:Program} {r:Option Nat} {o:Oper} {a:Act} {w:World} {f:FuncId} {args:Array Value} {next:Act→World→Prop} {Q:Exit→Act→World→Prop}
    (hr:(execOp a.eval o).run P w = .ok (.enter f args) w) (hc:Calls P f args w fun
      | .returned v,w''=>next (a.put o.dst v) w''
      | .panicked chain,w''=>Q (.panic chain) a w''
      | .outgrown,_=>LetsOut Q):o.wpIn (fen r) 0 P a w next Q:=by
  refine ⟨fun _ _=>trivial,?_⟩
  rw [show (fen r).round=r from rfl,Zgf hr (fun _ h=>by cases h)]
  exact ⟨fun h=>(by cases h),ZeS.2 hc⟩
theorem ZqM {P:Program} {r:Option Nat} {o:Oper} {a:Act} {w:World} {l:Nat} {f:FuncId} {tmps:Array Value} {assign body:Code} {next:Act→World→Prop} {Q:Exit→Act→World→Prop}
    (hr:(execOp a.eval o).run P w = .ok (.round l f tmps assign body) w) {k:Bool→World→Prop} (hc:RoundIn (fen none) 0 P l f tmps assign body w fun e w'=>∃ b,e = .returned (.bool b)∧k b w')
    (hn:∀ b w',k b w'→next (a.put o.dst (.bool b)) w'):o.wpIn (fen r) 0 P a w next Q:=by
  refine ⟨fun _ _=>trivial,?_⟩
  rw [show (fen r).round=r from rfl,Zgf hr (fun _ h=>by cases h)]
  refine ⟨fun h=>(by cases h),?_⟩
  have hc':RoundIn (fen r) (0 - 1) P l f tmps assign body w fun e w'=>∃ b,e = .returned (.bool b)∧k b w':=hc
  refine hc'.mono ?_
  rintro e w' ⟨b,rfl,hb⟩
  exact hn _ _ hb
theorem ZqN {P:Program} {r:Option Nat} {o:Oper} {a:Act} {w:World} {v:Value} {next:Act→World→Prop} {Q:Exit→Act→World→Prop}
    (hd:∀ c,o.op≠ .defer c) (hr:(execOp a.eval o).run P w = .halt (.panic v) w) (hq:Q (.panic [{ v,recovered:=false }]) a w):o.wpIn (fen r) 0 P a w next Q:=by
  refine ⟨fun _ _=>trivial,?_⟩
  rw [show (fen r).round=r from rfl,Oper.semAt_eq _ _ _ hd,hr]
  exact hq
theorem Zpt {P:Program} {w w':World} {s:Sem Value} {v:Value} (h:s.run P w = .ok v w') :
    (do pure (.value (← s)):Sem Next).run P w = .ok (.value v) w':=by
  simp [h]
theorem Zs0 {P:Program} {w w':World} {s:Sem Unit} (h:s.run P w = .ok () w') :
    (do s;pure .skip:Sem Next).run P w = .ok .skip w':=by
  simp [h]
theorem Zrk {P:Program} {op:BinOp} {t:TypeId} {x y:EV} {K:EV→Prop} (hk:ZrT op x y K):∃ v,(∀ w,(binOp op t x.v y.v).run P w = .ok v.v w)∧K v:=by
  unfold ZrT at hk
  split at hk
  ·rename_i k a k' b
   cases op<;>simp only at hk
   case shl =>
     obtain ⟨h0,hk⟩:=hk
     refine ⟨_,fun w=>?_,hk⟩
     simp only [EV.v,binOp,Op.shift,if_neg (Int.not_lt.2 h0)]
     rfl
   case shr =>
     obtain ⟨h0,hk⟩:=hk
     refine ⟨_,fun w=>?_,hk⟩
     simp only [EV.v,binOp,Op.shift,if_neg (Int.not_lt.2 h0)]
     rfl
   all_goals
     rcases Decidable.em (k=k') with he | he
     case inr=>rw [if_neg he] at hk;exact hk.elim
     subst he
     rw [if_pos rfl] at hk
     first
     | exact hk.elim
     | (obtain ⟨h0,hk⟩:=(show ZR _ _ from hk)
        refine ⟨_,fun w=>?_,hk⟩
        simp only [EV.v,binOp,ne_eq,not_true,if_false,Op.intDiv,if_neg h0]
        rfl)
     | (refine ⟨_,fun w=>?_,hk⟩;simp only [EV.v,binOp,ne_eq,not_true,if_false];rfl)
  ·rename_i a b
   cases op<;>simp only at hk
   case add =>
     obtain ⟨h0,hk⟩:=hk
     refine ⟨_,fun w=>?_,hk⟩
     have:¬ (((a.size+b.size:Nat):Int)>IntKind.i64.max):=by
       have:IntKind.i64.max=9223372036854775807:=by decide
       rw [this];omega
     simp only [EV.v,binOp,Op.stringOp,if_neg this]
     rfl
   all_goals first
     | exact hk.elim
     | (refine ⟨_,fun w=>?_,hk⟩;rfl)
  ·exact hk.elim
section
variable {P:Program} {t:TypeId} (w:World)
theorem Zgw {e:TypeId} (hu:P.underlying t=some (.pointer e)) (p:Option Addr):(Op.equal t (.pointer p) (.pointer none)).run P w = .ok p.isNone w:=by
  unfold Op.equal Op.maxDepth
  rw [show (10000:Nat)=9999+1 from rfl]
  unfold Op.equalIn
  simp only [Sem.run_bind,Zk P w t hu,Result.andThen_ok]
  cases p<;>rfl
theorem Zir {e:TypeId} (hu:P.underlying t=some (.slice e)) (p:Option Addr) (n m n' m':Nat):(Op.equal t (.slice p n m) (.slice none n' m')).run P w = .ok p.isNone w:=by
  unfold Op.equal Op.maxDepth
  rw [show (10000:Nat)=9999+1 from rfl]
  unfold Op.equalIn
  simp only [Sem.run_bind,Zk P w t hu,Result.andThen_ok]
  cases p<;>rfl
theorem ZkA {k e:TypeId} (hu:P.underlying t=some (.map k e)) (p:Option Nat):(Op.equal t (.map p) (.map none)).run P w = .ok p.isNone w:=by
  unfold Op.equal Op.maxDepth
  rw [show (10000:Nat)=9999+1 from rfl]
  unfold Op.equalIn
  simp only [Sem.run_bind,Zk P w t hu,Result.andThen_ok]
  cases p<;>rfl
theorem Zkz {ms:Array (String × TypeId)} (hu:P.underlying t=some (.interface ms)):(Op.equal t .nilIface .nilIface).run P w = .ok true w:=by
  unfold Op.equal Op.maxDepth
  rw [show (10000:Nat)=9999+1 from rfl]
  unfold Op.equalIn
  simp only [Sem.run_bind,Zk P w t hu,Result.andThen_ok]
  rfl
theorem Zis {ms:Array (String × TypeId)} (hu:P.underlying t=some (.interface ms)) (t2:TypeId) (u:Value):(Op.equal t (.iface t2 u) .nilIface).run P w = .ok false w:=by
  unfold Op.equal Op.maxDepth
  rw [show (10000:Nat)=9999+1 from rfl]
  unfold Op.equalIn
  simp only [Sem.run_bind,Zk P w t hu,Result.andThen_ok]
  rfl
theorem ZiZ {ps rs:Array TypeId} {vr:Bool} (hu:P.underlying t=some (.func ps rs vr)):(Op.equal t .nilFunc .nilFunc).run P w = .ok true w:=by
  unfold Op.equal Op.maxDepth
  rw [show (10000:Nat)=9999+1 from rfl]
  unfold Op.equalIn
  simp only [Sem.run_bind,Zk P w t hu,Result.andThen_ok]
  rfl
theorem Zi0 {ps rs:Array TypeId} {vr:Bool} (hu:P.underlying t=some (.func ps rs vr)) (f:Fn) (a b:Array Value):(Op.equal t (.func f a b) .nilFunc).run P w = .ok false w:=by
  unfold Op.equal Op.maxDepth
  rw [show (10000:Nat)=9999+1 from rfl]
  unfold Op.equalIn
  simp only [Sem.run_bind,Zk P w t hu,Result.andThen_ok]
  rfl
theorem ZnF (hu:P.underlying t=some .bool) (a b:Bool):(Op.equal t (.bool a) (.bool b)).run P w = .ok (a ==b) w:=by
  unfold Op.equal Op.maxDepth
  rw [show (10000:Nat)=9999+1 from rfl]
  unfold Op.equalIn
  simp only [Sem.run_bind,Zk P w t hu,Result.andThen_ok]
  rfl
end
theorem Ztu {P:Program} {t:TypeId} {neg:Bool} {x y:EV} {K:EV→Prop} (hk:eqP (P.underlying t) neg x y K) :
    ∃ v,(∀ w,(binOp (bif neg then .neq else .eql) t x.v y.v).run P w = .ok v.v w)∧K v:=by
  unfold eqP at hk
  split at hk
  ·rename_i e b o hu
   refine ⟨_,fun w=>?_,hk⟩
   have:=Zgw w hu (some ⟨b,o,none⟩)
   cases neg<;>simp only [cond_true,cond_false,EV.v,binOp,Sem.run_bind,this,Result.andThen_ok]<;>rfl
  ·rename_i e p hu
   refine ⟨_,fun w=>?_,hk⟩
   have:=Zgw w hu p
   cases neg<;>simp only [cond_true,cond_false,EV.v,binOp,Sem.run_bind,this,Result.andThen_ok]<;>cases p<;>rfl
  ·rename_i e p n m n' m' hu
   refine ⟨_,fun w=>?_,hk⟩
   have:=Zir w hu p n m n' m'
   cases neg<;>simp only [cond_true,cond_false,EV.v,binOp,Sem.run_bind,this,Result.andThen_ok]<;>cases p<;>rfl
  ·rename_i k e p hu
   refine ⟨_,fun w=>?_,hk⟩
   have:=ZkA w hu p
   cases neg<;>simp only [cond_true,cond_false,EV.v,binOp,Sem.run_bind,this,Result.andThen_ok]<;>cases p<;>rfl
  ·rename_i hu
   split at hk
   ·rename_i a b hx hy
    refine ⟨_,fun w=>?_,hk⟩
    have:=ZnF w hu a b
    rw [hx,hy]
    cases neg<;>simp only [cond_true,cond_false,EV.v,binOp,Sem.run_bind,this,Result.andThen_ok]<;>rfl
   ·exact hk.elim
  ·exact hk.elim
theorem Zlp (off:Nat):∀ (l:List Value) (k:Nat) (cs:Array Value),off+k+l.length≤cs.size →
    ((l.zipIdx k).foldl (fun cs x=>cs.setIfInBounds (off+x.2) x.1) cs).toList=cs.toList.take (off+k)++l++cs.toList.drop (off+k+l.length)
  | [],k,cs,h=>by simp
  | v::l,k,cs,h=>by
    simp only [List.zipIdx_cons,List.foldl_cons,List.length_cons] at h ⊢
    rw [Zlp off l (k+1) _ (by simp;omega)]
    have hlt:off+k<cs.toList.length:=by simp;omega
    simp only [Array.toList_setIfInBounds]
    rw [show off+(k+1)=off+k+1 from by omega,List.take_succ_eq_append_getElem (by simp;omega),List.take_set_of_le (by omega),List.drop_set_of_lt (by omega)]
    simp
    omega
def ZtC (place:Nat→Option (Nat × Nat)) (n:Nat):List (Nat × Value)→List (Nat × List Value)→Prop
  | [],[]=>True
  | p::ps,q::l=>place p.1=some (q.1,q.2.length)∧p.2.cells.toList=q.2∧q.1+q.2.length≤n∧ZtC place n ps l
  | _,_=>False
theorem Zd0 (place:Nat→Option (Nat × Nat)) (n:Nat):∀ (ps:List (Nat × Value)) (l:List (Nat × List Value)) (cs:Array Value),
    cs.size=n→ZtC place n ps l→Instr.fill place cs ps=some (ZdE cs.toList l).toArray
  | [],[],cs,_,_=>by simp [Instr.fill,ZdE]
  | [],_::_,cs,_,h=>h.elim
  | _::_,[],cs,_,h=>h.elim
  | (i,v)::ps,(o,vs)::l,cs,hn,h=>by
    obtain ⟨hp,hv,hle,h2⟩:=h
    simp only at hp hv hle
    have hlen:v.cells.size=vs.length:=by rw [← hv];simp
    have hfold:(v.cells.zipIdx.foldl (fun cs x=>match x with | (c,j)=>cs.setIfInBounds (o+j) c) cs).toList=cs.toList.take o++vs++cs.toList.drop (o+vs.length):=by
      rw [← Array.foldl_toList,Array.toList_zipIdx,hv]
      have:=Zlp o vs 0 cs (by omega)
      simpa using this
    have hsz:(v.cells.zipIdx.foldl (fun cs x=>match x with | (c,j)=>cs.setIfInBounds (o+j) c) cs).size=n:=by
      rw [← Array.length_toList,hfold]
      simp
      omega
    have ih:=Zd0 place n ps l _ hsz h2
    rw [hfold] at ih
    have hno:¬ (o+vs.length>cs.size):=by omega
    simp only [Instr.fill,hp,hlen,ne_eq,not_true,decide_false,Bool.false_or,hno,ZdE]
    exact ih
theorem Ziw (v:EV):v.v.cells.toList=Zgy v:=by
  cases v with
  | val v=>cases v<;>rfl
  | lit b=>rfl
  | adr b o=>rfl
  | itr t b=>rfl
  | more k v=>rfl
  | over=>rfl
theorem ZkC (v:EV):v.v.cells=(Zgy v).toArray:=by
  rw [← Ziw]
section
variable {c:Cfg} {e:Env} {a:Act} {n:Nat}
theorem ZpE {u:Value} (h:ZH u=true):u.cells.toList=[u]:=by
  cases u<;>first | rfl | cases h
theorem Zqf {d:Option TypeDesc} {v:EV} (h:ZpX d=true→ZH v.v=true):v.v.cells.toList=Zix d v:=by
  unfold Zix
  cases hb:ZpX d with
  | true=>exact ZpE (h hb)
  | false=>exact Ziw v
theorem Zjm:∀ {l:List Value} {K:Prop},Ztf l K→(∀ u,u∈l→ZH u=true)∧K
  | [],_,h=>⟨fun _ h9=>(by cases h9),h⟩
  | v::vs,K,h=>by
    obtain ⟨h1,h2⟩:=Zjm h.2
    refine ⟨fun u hu=>?_,h2⟩
    rcases List.mem_cons.1 hu with rfl | hu
    ·exact h.1
    ·exact h1 u hu
theorem Zhg (P:Program) (fs:List Field) (hag:Agr n e a) (k:Nat):∀ {ps:List (Nat × Operand)} {l:List (Nat × List Value)},Zh0 P fs e k ps=some l→(∀ u,u∈Zk0 P fs e ps→ZH u=true) →
    ZtC (fun i=>(fs[i]?).map fun f=>(f.offset,P.cellsOf f.type)) k (ps.map fun x=>(x.1,a.eval x.2)) l
  | [],l,h,_=>by simp only [Zh0,Option.some.injEq] at h;subst h;exact trivial
  | (i,x)::r,l,h,hone=>by
    simp only [Zh0] at h
    split at h
    ·rename_i f v l' hf hv hl
     have hone1:ZpX (P.underlying f.type)=true→ZH v.v=true:=fun hb=>hone _ (by unfold Zk0;rw [hf,hv];simp [hb])
     have hone2:∀ u,u∈Zk0 P fs e r→ZH u=true:=fun u hu=>hone u (by
       unfold Zk0
       rw [hf,hv]
       dsimp only
       cases ZpX (P.underlying f.type) with
       | true=>exact List.mem_cons_of_mem _ hu
       | false=>exact hu)
     cases h1:Nat.beq (Zix (P.underlying f.type) v).length (P.cellsOf f.type) with
     | false=>rw [h1] at h;cases h
     | true =>
       rw [h1] at h
       simp only [cond_true] at h
       cases h2:Nat.ble (f.offset+(Zix (P.underlying f.type) v).length) k with
       | false=>rw [h2] at h;cases h
       | true =>
         rw [h2] at h
         simp only [cond_true,Option.some.injEq] at h
         subst h
         refine ⟨?_,?_,Nat.le_of_ble_eq_true h2,Zhg P fs hag k hl hone2⟩
         ·simp [hf,Nat.eq_of_beq_eq_true h1]
         ·simp only [hag.ev hv,Zqf hone1]
    ·cases h
theorem Zfc (size:Nat) (hag:Agr n e a) (k:Nat):∀ {ps:List (Nat × Operand)} {l:List (Nat × List Value)},ZgQ size e k ps=some l →
    ZtC (fun i=>some (i*size,size)) k (ps.map fun x=>(x.1,a.eval x.2)) l
  | [],l,h=>by simp only [ZgQ,Option.some.injEq] at h;subst h;exact trivial
  | (i,x)::r,l,h=>by
    simp only [ZgQ] at h
    split at h
    ·rename_i v l' hv hl
     cases h1:Nat.beq (Zgy v).length size with
     | false=>rw [h1] at h;cases h
     | true =>
       rw [h1] at h
       simp only [cond_true] at h
       cases h2:Nat.ble (i*size+(Zgy v).length) k with
       | false=>rw [h2] at h;cases h
       | true =>
         rw [h2] at h
         simp only [cond_true,Option.some.injEq] at h
         subst h
         refine ⟨?_,?_,Nat.le_of_ble_eq_true h2,Zfc size hag k hl⟩
         ·simp [Nat.eq_of_beq_eq_true h1]
         ·simp only [hag.ev hv,Ziw]
    ·cases h
theorem ZfJ {x:EV} {K:Nat→Nat→Prop} (h:atP x K):∃ b o,x.v = .pointer (some ⟨b,o,none⟩)∧K b o:=by
  unfold atP at h
  split at h
  ·exact ⟨_,_,rfl,h⟩
  ·obtain ⟨b,o,rfl,h⟩:=h;exact ⟨b,o,rfl,h⟩
  ·exact h.elim
theorem ZbT {P:Program} {t:TypeId} {zs:List Value} (h:Zho P t=some zs):∃ i v,P.info? t=some i∧i.zero=some v∧v.cells.toList=zs:=by
  unfold Zho at h
  split at h
  ·rename_i i hi
   split at h
   ·rename_i v hv
    simp only [Option.some.injEq] at h
    exact ⟨i,v,hi,hv,h⟩
   ·cases h
  ·cases h
theorem Zdw {P:Program} {t:TypeId} {s b:Nat} (h:ZlT P t=some (s,b)):∃ i,P.info? t=some i∧i.size=s∧i.bytes=b:=by
  unfold ZlT at h
  split at h
  ·rename_i i hi
   simp only [Option.some.injEq,Prod.mk.injEq] at h
   exact ⟨i,hi,h.1,h.2⟩
  ·cases h
theorem ZqR {P:Program} {t:TypeId} {b o:Nat} {v:EV} {K:Zd→Prop} {w:World} (h:stT P t w.heap b o v K) :
    ∃ h',(storeVar t ⟨b,o,none⟩ v.v).run P w = .ok () { w with heap:=h' }∧K h':=by
  have key:∀ (i:TypeInfo) (vs:List Value),P.info? t=some i→i.size=vs.length→v.v.cells=vs.toArray→Zd.free w.heap b o vs.length→vs.all ZH=true →
      (storeVar t ⟨b,o,none⟩ v.v).run P w = .ok () { w with heap:=Zd.puts w.heap b o vs }:=by
    intro i vs hi hs hc hf ha
    unfold storeVar
    simp only [Sem.run_bind,Xm P w t hi,Result.andThen_ok,hc,hs,List.size_toArray,ne_eq,not_true,if_false]
    have:=ZcM P b o vs 0 w (by simpa using hf) ha
    simpa using this
  have one:Za0 (P.underlying t)=false→Nat.beq (P.cellsOf t) 1=true→(∀ cs,v.v≠ .agg cs)→st w.heap b o v.v K →
      ∃ h',(storeVar t ⟨b,o,none⟩ v.v).run P w = .ok () { w with heap:=h' }∧K h':=by
    intro hA h1 hne hst
    obtain ⟨⟨u,hu⟩,hf,hone,hk⟩:=hst
    have hsz:=Nat.eq_of_beq_eq_true h1
    cases hi:P.info? t with
    | none=>unfold Program.cellsOf at hsz;simp [hi] at hsz
    | some i =>
      rw [Za3 P hi] at hsz
      refine ⟨_,key i [v.v] hi (by simp [hsz]) ?_ ⟨⟨⟨u,hu⟩,hf⟩,trivial⟩ (by simp [hone]),hk⟩
      cases hv:v.v<;>first | rfl | exact absurd hv (hne _)
  unfold stT at h
  split at h
  ·rename_i cs
   cases hA:Za0 (P.underlying t) with
   | false=>rw [hA] at h;exact h.elim
   | true =>
     rw [hA] at h
     simp only [cond_true] at h
     cases h1:Nat.beq cs.toList.length (P.cellsOf t) with
     | false=>rw [h1] at h;exact h.elim
     | true =>
       rw [h1] at h
       obtain ⟨hf,ha,hk⟩:=h
       have hsz:=Nat.eq_of_beq_eq_true h1
       cases hi:P.info? t with
       | none =>
         unfold Program.underlying at hA
         simp [hi,Za0] at hA
       | some i =>
         rw [Za3 P hi] at hsz
         exact ⟨_,key i cs.toList hi hsz.symm rfl hf ha,hk⟩
  ·rename_i v' hne
   cases hA:Za0 (P.underlying t) with
   | true=>rw [hA] at h;exact h.elim
   | false =>
     rw [hA] at h
     simp only [cond_false] at h
     cases h1:Nat.beq (P.cellsOf t) 1 with
     | false=>rw [h1] at h;exact h.elim
     | true =>
       rw [h1] at h
       refine one hA h1 (fun cs hcs=>?_) h
       cases v with
       | val u=>simp only [EV.v] at hcs;subst hcs;exact hne cs rfl
       | lit b=>cases hcs
       | adr b o=>cases hcs
       | itr t b=>cases hcs
       | more k v=>cases hcs
       | over=>cases hcs
theorem Zeu (zs:List Value) (n:Nat):(X6 zs n).length=n*zs.length:=by
  simp [X6]
theorem Ziq (zs:List Value):∀ (n i:Nat),i<n*zs.length→(X6 zs n)[i]?=zs[i % zs.length]?
  | 0,i,h=>by omega
  | n+1,i,h=>by
    unfold X6
    rw [List.replicate_succ,List.flatten_cons]
    rcases Nat.lt_or_ge i zs.length with hi | hi
    ·rw [List.getElem?_append_left hi,Nat.mod_eq_of_lt hi]
    ·rw [List.getElem?_append_right hi]
     have:=Ziq zs n (i - zs.length) (by rw [Nat.succ_mul] at h;omega)
     unfold X6 at this
     rw [this,Nat.mod_eq_sub_mod hi]
theorem ZfU (zs:Array Value) (n m:Nat) (h:m=n*zs.size):((Array.range m).map (zs[· % zs.size]!)).toList=X6 zs.toList n:=by
  subst h
  apply List.ext_getElem?
  intro i
  simp only [Array.toList_map,Array.toList_range,List.getElem?_map]
  rcases Nat.lt_or_ge i (n*zs.size) with hi | hi
  ·rw [Ziq _ _ _ (by simpa using hi)]
   have hpos:0<zs.size:=by rcases Nat.eq_zero_or_pos zs.size with h0 | h0;· rw [h0] at hi;omega
                           ·exact h0
   have hm:i % zs.size<zs.size:=Nat.mod_lt _ hpos
   simp [hi,hm]
  ·rw [List.getElem?_eq_none (by simpa using hi)]
   rw [List.getElem?_eq_none (by rw [Zeu];simpa using hi)]
   rfl
end
end Go.Fw
