/- The reading of a function's code as a condition on memory: what each operation, region and statement asks and leaves. Definitions alone. -/
import Derived.Sort.QuietThIn
import Derived.OrdersHeld
import Derived.Laws.Sem
import Derived.Laws.World
import Derived.RangeFuncLeaves
import Derived.RangeFuncRecord
import Derived.Test.YthbfgkphlmlihaaGreatPa2
set_option linter.unusedVariables false
set_option linter.unusedSimpArgs false
namespace Go.Fw
open Go
inductive Leaf where
  | I (k:IntKind) | B | S | P | L | M | V
abbrev Leaf.D:Leaf→Type
  | .I _=>Int | .B=>Bool | .S=>ByteArray | .P=>Option Addr | .L=>Sl | .M=>Option Nat | .V=>Value
def Leaf.mk:(l:Leaf)→l.D→Value
  | .I k,n=> .int k n | .B,b=> .bool b | .S,s=> .string s | .P,p=> .pointer p | .L,s=> .slice s.ptr s.len s.cap | .M,m=> .map m | .V,v=>v
def Leaf.un:(l:Leaf)→Value→Option l.D
  | .I k,.int k' n=>if k'=k then some n else none
  | .B,.bool b=>some b
  | .S,.string s=>some s
  | .P,.pointer p=>some p
  | .L,.slice p l c=>some ⟨p,l,c⟩
  | .M,.map m=>some m
  | .V,v=>some v
  | _,_=>none
abbrev Tup:List Leaf→Type
  | []=>Unit
  | l::ls=>l.D × Tup ls
def Tup.vals:(ls:List Leaf)→Tup ls→List Value
  | [],_=>[]
  | l::ls,t=>l.mk t.1::Tup.vals ls t.2
def Tup.un:(ls:List Leaf)→List Value→Option (Tup ls)
  | [],[]=>some ()
  | l::ls,v::vs=>match l.un v,Tup.un ls vs with
    | some x,some t=>some (x,t)
    | _,_=>none
  | _,_=>none
inductive VT where
  | one (l:Leaf) | agg (ls:List Leaf) | fn (f:FuncId) | clo (f:FuncId) (ls:List Leaf) | yl
abbrev VT.D:VT→Type
  | .one l=>l.D
  | .agg ls=>Tup ls
  | .fn _=>Unit
  | .clo _ ls=>Tup ls
  | .yl=>Nat
abbrev Xi:List VT→Type
  | []=>Unit
  | v::vs=>v.D × Xi vs
inductive EV where
  | val (v:Value) | lit (b:Bool) | adr (b o:Nat) | itr (t:TypeId) (b:Nat) | more (k v:Value) | over
def EV.v:EV→Value
  | .val v=>v
  | .lit b=> .bool b
  | .adr b o=> .pointer (some ⟨b,o,none⟩)
  | .itr _ b=> .pointer (some ⟨b,0,none⟩)
  | .more k v=> .tuple #[.bool true,k,v]
  | .over=> .tuple #[.bool false]
def VT.ev:(v:VT)→v.D→EV
  | .one l,x=> .val (l.mk x)
  | .agg ls,x=> .val (.agg (Tup.vals ls x).toArray)
  | .fn f,_=> .val (.func (.func f) ⟨[]⟩ ⟨[]⟩)
  | .clo f ls,x=> .val (.func (.func f) ⟨[]⟩ ⟨Tup.vals ls x⟩)
  | .yl,l=> .val (.func (.yield l) ⟨[]⟩ ⟨[]⟩)
def fnU (f:FuncId):EV→Option Unit
  | .val (.func (.func g) ⟨[]⟩ ⟨[]⟩)=>bif Nat.beq f g then some () else none
  | _=>none
def Zzp (f:FuncId) (ls:List Leaf):EV→Option (Tup ls)
  | .val (.func (.func g) ⟨[]⟩ ⟨cs⟩)=>bif Nat.beq f g then Tup.un ls cs else none
  | _=>none
def ylU:EV→Option Nat
  | .val (.func (.yield l) ⟨[]⟩ ⟨[]⟩)=>some l
  | _=>none
def VT.un:(v:VT)→EV→Option v.D
  | .one l,e=>l.un e.v
  | .agg ls,.val (.agg cs)=>Tup.un ls cs.toList
  | .agg _,_=>none
  | .fn f,e=>fnU f e
  | .clo f ls,e=>Zzp f ls e
  | .yl,e=>ylU e
def Xi.evs:(vs:List VT)→Xi vs→List EV
  | [],_=>[]
  | v::vs,t=>v.ev t.1::Xi.evs vs t.2
def Xi.un:(vs:List VT)→List EV→Option (Xi vs)
  | [],[]=>some ()
  | v::vs,e::es=>match v.un e,Xi.un vs es with
    | some x,some t=>some (x,t)
    | _,_=>none
  | _,_=>none
def Zde:List EV→EV
  | [e]=>e
  | es=> .val (.tuple (es.map EV.v).toArray)
structure Zd where
  args:List VT
  res:List VT
  sem:Xi args→(Xi res→Zc→Prop)→(Value→Zc→Prop)→Zc→Prop
structure ZaR where
  caps:List VT
  sem:Yld→Nat→Xi caps→(Zc→Prop)→Zc→Prop
structure Env where
  f:Nat→Option EV
  mD:Option Nat
instance:CoeFun Env (fun _=>Nat→Option EV):=⟨Env.f⟩
def Env.set (e:Env) (d:Nat) (v:EV):Env:=⟨fun j=>bif Nat.beq j d then some v else e.f j,e.mD⟩
def Env.ev (e:Env):Operand→Option EV
  | .tmp t=>e.f t
  | .const (.bool b)=>some (.lit b)
  | .const v=>some (.val v)
  | .global g=>some (.adr g 0)
  | .func f=>some (.val (.func (.func f) #[] #[]))
structure Cfg where
  P:Program
  calls:List (FuncId × Zd)
  n:Nat
  ext:List FuncId
  dyn:List (String × TypeId × FuncId)
  iters:List (FuncId × ZaR)
  rnd:Option Nat
  pan:Value→Zc→Prop
  yld:Yld
  fns:List (FuncId × List Leaf)
def Zv (P:Program) (calls:List (FuncId × Zd)) (n:Nat) (ext:List FuncId) (dyn:List (String × TypeId × FuncId)) (iters:List (FuncId × ZaR)) (yld:Yld) (fns:List (FuncId × List Leaf):=[]):Cfg :=
  ⟨P,calls,n,ext,dyn,iters,none,fun _ _=>False,yld,fns⟩
def Zw:Yld:=fun _ _ _ _=>False
structure ZqK where
  s:Zd
  t:Xi s.args
def Ziq (f:FuncId) (es:List EV):List (FuncId × Zd)→Option ZqK
  | []=>none
  | (g,s)::r=>bif Nat.beq f g then (match Xi.un s.args es with
    | some t=>some ⟨s,t⟩
    | none=>Ziq f es r) else Ziq f es r
structure Zpd where
  s:ZaR
  t:Xi s.caps
def Zl9 (f:FuncId) (es:List EV):List (FuncId × ZaR)→Option Zpd
  | []=>none
  | (g,s)::r=>bif Nat.beq f g then (match Xi.un s.caps es with
    | some t=>some ⟨s,t⟩
    | none=>Zl9 f es r) else Zl9 f es r
structure ZjQ where
  a0:VT
  rest:List VT
  res:List VT
  sem:Xi (a0::rest)→(Xi res→Zc→Prop)→(Value→Zc→Prop)→Zc→Prop
  t:Xi rest
def Zip (f:FuncId) (es:List EV):List (FuncId × Zd)→Option ZjQ
  | []=>none
  | (g,⟨a0::rest,res,sem⟩)::r=>bif Nat.beq f g then (match Xi.un rest es with
    | some t=>some ⟨a0,rest,res,sem,t⟩
    | none=>Zip f es r) else Zip f es r
  | (_,⟨[],_,_⟩)::r=>Zip f es r
def Zsi (calls:List (FuncId × Zd)) (Kp:Value→Zc→Prop) (name:String) (v:Value) (es:List EV) (h:Zc) (K:EV→Zc→Prop):List (String × TypeId × FuncId)→Prop
  | []=>False
  | (n,t,f)::r=>bif n ==name then (match Zip f es calls with
    | some p=>exG v (fun x:p.a0.D=> .iface t (p.a0.ev x).v) (fun x=>p.sem (x,p.t) (fun rr h'=>K (Zde (Xi.evs p.res rr)) h') Kp h)∨Zsi calls Kp name v es h K r
    | none=>Zsi calls Kp name v es h K r) else Zsi calls Kp name v es h K r
def Zp8 (es:List EV) (cs:List Value):List EV:=es++cs.map EV.val
def fnP (calls:List (FuncId × Zd)) (Kp:Value→Zc→Prop) (v:Value) (es:List EV) (h:Zc) (K:EV→Zc→Prop):List (FuncId × List Leaf)→Prop
  | []=>False
  | (f,[])::r=>match Ziq f es calls with
    | some ⟨s,t⟩=>Zsu v f (s.sem t (fun rr h'=>K (Zde (Xi.evs s.res rr)) h') Kp h)∨fnP calls Kp v es h K r
    | none=>fnP calls Kp v es h K r
  | (f,l::ls)::r=>exG v (fun c:Tup (l::ls)=> .func (.func f) ⟨[]⟩ ⟨Tup.vals (l::ls) c⟩) (fun c=>match Ziq f (Zp8 es (Tup.vals (l::ls) c)) calls with
    | some ⟨s,t⟩=>s.sem t (fun rr h'=>K (Zde (Xi.evs s.res rr)) h') Kp h
    | none=>False)∨fnP calls Kp v es h K r
def Zzk (l:List (FuncId × List Leaf)):Operand→List (FuncId × List Leaf)
  | .tmp _=>l
  | _=>[]
def Zsv (f:FuncId):List FuncId→Bool
  | []=>false
  | g::r=>bif Nat.beq f g then true else Zsv f r
def evs (e:Env):List Operand→Option (List EV)
  | []=>some []
  | x::xs=>match e.ev x,evs e xs with
    | some v,some vs=>some (v::vs)
    | _,_=>none
def ZqJ (op:BinOp) (x y:EV) (K:EV→Prop):Prop :=
  match x,y with
  | .val (.int k a),.val (.int k' b) =>
    match op with
    | .shl=>ZP (0≤b) (K (.val (.int k (ZDH k a b))))
    | .shr=>ZP (0≤b) (K (.val (.int k (Zss k a b))))
    | _=>if k=k' then
       match op with
       | .add=>K (.val (.int k (k.wrap (a+b))))
       | .sub=>K (.val (.int k (k.wrap (a - b))))
       | .mul=>K (.val (.int k (k.wrap (a*b))))
       | .quo=>ZP (b≠0) (K (.val (.int k (k.wrap (a.tdiv b)))))
       | .rem=>ZP (b≠0) (K (.val (.int k (a.tmod b))))
       | .and=>K (.val (.int k (ZuX k a b)))
       | .or=>K (.val (.int k (orV k a b)))
       | .xor=>K (.val (.int k (ZDE k a b)))
       | .andNot=>K (.val (.int k (Zzr k a b)))
       | .eql=>K (.val (.bool (a ==b)))
       | .neq=>K (.val (.bool (a !=b)))
       | .lss=>K (.val (.bool (decide (a<b))))
       | .leq=>K (.val (.bool (decide (a≤b))))
       | .gtr=>K (.val (.bool (decide (a>b))))
       | .geq=>K (.val (.bool (decide (a≥b))))
       | _=>False
      else False
  | .val (.string a),.val (.string b) =>
    match op with
    | .add=>ZDK a b fun s=>K (.val (.string s))
    | .eql=>K (.val (.bool (Xu a b)))
    | .neq=>K (.val (.bool (!Xu a b)))
    | .lss=>K (.val (.bool (Op.bytesLess a.toList b.toList)))
    | .leq=>K (.val (.bool (Op.bytesLess a.toList b.toList||Xu a b)))
    | .gtr=>K (.val (.bool (!(Op.bytesLess a.toList b.toList||Xu a b))))
    | .geq=>K (.val (.bool (!Op.bytesLess a.toList b.toList)))
    | _=>False
  | _,_=>False
def eqP (t:Option TypeDesc) (neg:Bool) (x y:EV) (K:EV→Prop):Prop :=
  match t,x,y with
  | some (.pointer _),.adr _ _,.val (.pointer none)=>K (.lit neg)
  | some (.pointer _),.val (.pointer p),.val (.pointer none)=>K (.val (.bool (bif neg then p.isSome else p.isNone)))
  | some (.slice _),.val (.slice p _ _),.val (.slice none _ _)=>K (.val (.bool (bif neg then p.isSome else p.isNone)))
  | some (.map _ _),.val (.map p),.val (.map none)=>K (.val (.bool (bif neg then p.isSome else p.isNone)))
  | some .bool,x,y =>
    match x.v,y.v with
    | .bool a,.bool b=>K (.val (.bool (bif neg then a !=b else a ==b)))
    | _,_=>False
  | _,_,_=>False
def ZhT (d:Option TypeDesc) (h:Zc) (b o:Nat) (K:EV→Prop):Prop :=
  match d with
  | some (.int k)=>ldI h b o k fun x=>K (.val (.int k x))
  | some .bool=>ldB h b o fun x=>K (.val (.bool x))
  | some .string=>ldS h b o fun x=>K (.val (.string x))
  | some (.pointer _)=>ldP h b o fun x=>K (.val (.pointer x))
  | some (.slice _)=>ldL h b o fun x=>K (.val (.slice x.ptr x.len x.cap))
  | some (.map _ _)=>ldM h b o fun x=>K (.val (.map x))
  | some (.struct _) | some (.array _ _) | none=>False
  | some _=>ldV h b o fun x=>K (.val x)
def Zda (P:Program):Nat→TypeId→List (Option TypeDesc)
  | 0,_=>[none]
  | d+1,t=>match P.underlying t with
    | some (.struct fs)=>fs.toList.flatMap fun f=>Zda P d f.type
    | some (.array n e)=>(List.replicate n (Zda P d e)).flatten
    | x=>[x]
def ZuF (o i:Nat):Nat:=bif Nat.beq i 0 then o else o+i
def ZpV (h:Zc) (b o:Nat):Nat→List (Option TypeDesc)→(List Value→Prop)→Prop
  | _,[],K=>K []
  | i,d::ds,K=>ZhT d h b (ZuF o i) fun v=>ZpV h b o (i+1) ds fun vs=>K (v.v::vs)
def ZaC:Option TypeDesc→Bool
  | some (.struct _) | some (.array _ _)=>true
  | _=>false
def ldT (P:Program) (t:TypeId) (h:Zc) (b o:Nat) (K:EV→Prop):Prop :=
  bif ZaC (P.underlying t) then
    (bif Nat.beq (Zda P 8 t).length (P.cellsOf t) then ZpV h b o 0 (Zda P 8 t) fun vs=>K (.val (.agg vs.toArray)) else False)
  else ZhT (P.underlying t) h b o K
def atP (x:EV) (K:Nat→Nat→Prop):Prop :=
  match x with
  | .adr b o=>K b o
  | .val (.pointer p)=>Zf p K
  | _=>False
def stT (P:Program) (t:TypeId) (h:Zc) (b o:Nat) (v:EV) (K:Zc→Prop):Prop :=
  match v with
  | .val (.agg cs)=>bif ZaC (P.underlying t) then (bif Nat.beq cs.toList.length (P.cellsOf t) then sts h b o cs.toList K else False) else False
  | v=>bif ZaC (P.underlying t) then False else (bif Nat.beq (P.cellsOf t) 1 then st h b o v.v K else False)
def Zge:EV→List Value
  | .val (.agg cs)=>cs.toList
  | v=>[v.v]
def ZpX:Option TypeDesc→Bool
  | some (.int _) | some .bool | some .string | some (.pointer _) | some (.slice _) | some (.map _ _) | some (.struct _) | some (.array _ _) | none=>false
  | some _=>true
def Zh7 (d:Option TypeDesc) (v:EV):List Value:=bif ZpX d then [v.v] else Zge v
def Zj6 (P:Program) (fs:List Field) (e:Env):List (Nat × Operand)→List Value
  | []=>[]
  | (i,x)::r=>match fs[i]?,e.ev x with
    | some f,some v=>bif ZpX (P.underlying f.type) then v.v::Zj6 P fs e r else Zj6 P fs e r
    | _,_=>Zj6 P fs e r
def Zr0:List Value→Prop→Prop
  | [],K=>K
  | v::vs,K=>ZP (ZA v=true) (Zr0 vs K)
def Zdf:List Value→List (Nat × List Value)→List Value
  | cs,[]=>cs
  | cs,(o,vs)::r=>Zdf (cs.take o++vs++cs.drop (o+vs.length)) r
def ZhH (P:Program) (fs:List Field) (e:Env) (n:Nat):List (Nat × Operand)→Option (List (Nat × List Value))
  | []=>some []
  | (i,x)::r=>match fs[i]?,e.ev x,ZhH P fs e n r with
    | some f,some v,some l=>bif Nat.beq (Zh7 (P.underlying f.type) v).length (P.cellsOf f.type) then (bif Nat.ble (f.offset+(Zh7 (P.underlying f.type) v).length) n then some ((f.offset,Zh7 (P.underlying f.type) v)::l) else none) else none
    | _,_,_=>none
def ZgA (size:Nat) (e:Env) (n:Nat):List (Nat × Operand)→Option (List (Nat × List Value))
  | []=>some []
  | (i,x)::r=>match e.ev x,ZgA size e n r with
    | some v,some l=>bif Nat.beq (Zge v).length size then (bif Nat.ble (i*size+(Zge v).length) n then some ((i*size,Zge v)::l) else none) else none
    | _,_=>none
def Zg9 (P:Program) (t:TypeId):Option (List Value):=match P.info? t with
  | some i=>match i.zero with
    | some v=>some v.cells.toList
    | none=>none
  | none=>none
def ZkR (P:Program) (t:TypeId):Option (Nat × Nat):=match P.info? t with
  | some i=>some (i.size,i.bytes)
  | none=>none
def ZqA (d:Int):Option (Option EV)→Option Int
  | none=>some d
  | some (some (.val (.int _ n)))=>some n
  | _=>none
def Zgf:Nat:=16777216
def ZoK:TypeDesc→Value→Bool
  | .int k,.int k' _=>if k=k' then true else false
  | .string,.string _=>true
  | .bool,.bool _=>true
  | _,_=>false
def Zis:Option TypeDesc→Bool
  | some (.int _) | some .string | some .bool=>true
  | _=>false
def Zfd (P:Program):List Field→Nat→Bool
  | [],_=>true
  | f::fs,i=>bif f.name == "_" then false else bif Nat.beq f.offset i&&Zis (P.underlying f.type) then Zfd P fs (i+1) else false
def Zfe (P:Program) (fs:List Field):List TypeDesc:=fs.map fun f=>(P.underlying f.type).getD .bool
def ZoJ:List TypeDesc→List Value→Bool
  | [],[]=>true
  | d::ds,v::vs=>bif ZoK d v then ZoJ ds vs else false
  | _,_=>false
def Zp2 (P:Program) (kt:TypeId) (fs:Array Field) (cs:List Value):Bool :=
  bif P.stoodInHeld kt then false else bif Zfd P fs.toList 0 then ZoJ (Zfe P fs.toList) cs else false
def Zp3 (P:Program) (n:Nat) (e:TypeId) (cs:List Value):Bool :=
  bif Nat.beq n 2 then (bif Zis (P.underlying e) then (match P.info? e with
    | some i=>bif Nat.beq i.size 1 then ZoJ [(P.underlying e).getD .bool,(P.underlying e).getD .bool] cs else false
    | none=>false) else false) else false
def Zk5 (P:Program) (kt:TypeId) (d:TypeDesc) (h:Zc) (m:Option Nat) (k:Value) (K:Option Value→Prop):Prop :=
  match d,k with
  | .struct fs,.agg cs=>bif Zp2 P kt fs cs.toList then ZbD (Zfe P fs.toList) h m cs.toList K else False
  | .array n e,.agg cs=>bif Zp3 P n e cs.toList then ZbD [(P.underlying e).getD .bool,(P.underlying e).getD .bool] h m cs.toList K else False
  | d,k=>bif ZoK d k then Zg3 d h m k K else False
def Zk4 (P:Program) (kt:TypeId) (d:TypeDesc) (h:Zc) (m:Option Nat) (k v:Value) (K:Zc→Prop):Prop :=
  match d,k with
  | .struct fs,.agg cs=>bif Zp2 P kt fs cs.toList then ZgI (Zfe P fs.toList) h m cs.toList v K else False
  | .array n e,.agg cs=>bif Zp3 P n e cs.toList then ZgI [(P.underlying e).getD .bool,(P.underlying e).getD .bool] h m cs.toList v K else False
  | d,k=>bif ZoK d k then Zg2 d h m k v K else False
def ZlQ (d:Option TypeDesc) (v:Value) (K:EV→Prop):Prop :=
  match d with
  | some (.int k)=>asI v k fun x=>K (.val (.int k x))
  | some .bool=>asB v fun x=>K (.val (.bool x))
  | some .string=>asS v fun x=>K (.val (.string x))
  | some (.pointer _)=>asP v fun x=>K (.val (.pointer x))
  | some (.slice _)=>asL v fun x=>K (.val (.slice x.ptr x.len x.cap))
  | some (.map _ _)=>asM v fun x=>K (.val (.map x))
  | _=>False
def Zun:Option TypeDesc→Leaf
  | some (.int k)=> .I k | some .bool=> .B | some .string=> .S | some (.pointer _)=> .P | some (.slice _)=> .L | some (.map _ _)=> .M | _=> .V
def Zsx (P:Program) (t:TypeId) (v:Value) (K:EV→Prop):Prop :=
  bif ZaC (P.underlying t) then exG v (fun r:Tup ((Zda P 8 t).map Zun)=> .agg (Tup.vals _ r).toArray) (fun r=>K (.val (.agg (Tup.vals _ r).toArray)))
  else ZlQ (P.underlying t) v K
def ZrH (P:Program) (t:TypeId):Option Value:=match P.info? t with
  | some i=>i.zero
  | none=>none
def Zfq:Option TypeDesc→Bool
  | some (.interface _)=>true
  | none=>true
  | _=>false
def Zfx (P:Program) (ts:Array TypeId):Bool:=match ts[0]? with
  | some t=>match P.underlying t with
    | some (.map _ _)=>true
    | _=>false
  | none=>false
def Zit (c:Cfg) (o:Op) (ρ:Env) (h:Zc) (K:EV→Zc→Prop):Prop :=
  match o with
  | .call ⟨.builtin .len,args,ts⟩ =>
    match ts[0]?,evs ρ args.toList with
    | some t,some [v]=>match c.P.underlying t,v with
      | some .string,.val (.string s)=>K (.val (.int .i64 s.size)) h
      | some (.slice _),.val (.slice _ n _)=>K (.val (.int .i64 n)) h
      | some (.array n _),_=>K (.val (.int .i64 n)) h
      | some (.map _ _),.val (.map m)=>ZuT h m fun n=>K (.val (.int .i64 n)) h
      | _,_=>False
    | _,_=>False
  | .call ⟨.builtin .cap,args,ts⟩ =>
    match ts[0]?,evs ρ args.toList with
    | some t,some [v]=>match c.P.underlying t,v with
      | some (.slice _),.val (.slice _ _ n)=>K (.val (.int .i64 n)) h
      | _,_=>False
    | _,_=>False
  | .call ⟨.builtin .min,args,_⟩ =>
    match evs ρ args.toList with
    | some [.val (.int k x),.val (.int _ y)]=>K (.val (.int k (Zpp x y))) h
    | _=>False
  | .call ⟨.builtin .max,args,_⟩ =>
    match evs ρ args.toList with
    | some [.val (.int k x),.val (.int _ y)]=>K (.val (.int k (Zk3 x y))) h
    | _=>False
  | .call ⟨.builtin .append,args,ts⟩ =>
    match ts[0]?,(match ts[1]? with | none=>false | some t=>match c.P.underlying t with | some (.int _)=>true | some _=>false | none=>true) with
    | some t,false=>match c.P.underlying t with
      | some (.slice e)=>match ZkR c.P e,Zg9 c.P e,evs ρ args.toList with
        | some (size,bytes),some zs,some [.val (.slice p n m),.val (.slice p' n' m')] =>
          rdS ⟨p',n',m'⟩ size h fun new=>app e size bytes zs ⟨p,n,m⟩ n' new h fun s h'=>K (.val (.slice s.ptr s.len s.cap)) h'
        | some (size,bytes),some zs,some [.val (.slice p n m),.val (.string s)] =>
          app e size bytes zs ⟨p,n,m⟩ s.size (Zb6 s) h fun s h'=>K (.val (.slice s.ptr s.len s.cap)) h'
        | _,_,_=>False
      | _=>False
    | _,_=>False
  | .call ⟨.value x,args,_⟩ =>
    match Zzk c.fns x with
    | f::r=>(match ρ.ev x,evs ρ args.toList with
      | some v,some es=>fnP c.calls c.pan v.v es h K (f::r)
      | _,_=>False)
    | [] =>
    match ρ.ev x with
    | some (.val (.func (.func f) ⟨[]⟩ ⟨cs⟩)) =>
      match evs ρ args.toList with
      | some es=>match Ziq f (Zp8 es cs) c.calls with
        | some ⟨s,t⟩=>s.sem t (fun r h'=>K (Zde (Xi.evs s.res r)) h') c.pan h
        | none=>bif Zsv f c.ext then (match Zp8 es cs with
          | [x]=>ZqH x.v h fun v h'=>K (.val v) h'
          | _=>False) else False
      | none=>False
    | some (.val (.func (.yield l) ⟨[]⟩ ⟨[]⟩)) =>
      match evs ρ args.toList with
      | some es=>c.yld l (es.map EV.v) (fun b h'=>K (.val (.bool b)) h') h
      | none=>False
    | _=>False
  | .call ⟨.builtin .delete,args,ts⟩ =>
    match ts[0]?,evs ρ args.toList with
    | some t,some [.val (.map m),k]=>match c.P.underlying t with
      | some (.map kt _)=>match c.P.underlying kt with
        | some d=>bif ZoK d k.v then Zki d h m k.v fun h'=>K (.val (.tuple #[])) h' else False
        | none=>False
      | _=>False
    | _,_=>False
  | .call ⟨.invoke x name,args,_⟩ =>
    match ρ.ev x,evs ρ args.toList with
    | some v,some es=>Zsi c.calls c.pan name v.v es h K c.dyn
    | _,_=>False
  | .call ⟨.builtin .clear,args,ts⟩ =>
    match ts[0]?,evs ρ args.toList with
    | some t,some [.val (.map m)]=>match c.P.underlying t with
      | some (.map _ _)=>Zzo h m fun h'=>K (.val (.tuple #[])) h'
      | _=>False
    | some t,some [.val (.slice p l m)]=>match c.P.underlying t with
      | some (.slice e)=>match Zg9 c.P e with
        | some zs=>Zzn ⟨p,l,m⟩ zs h fun h'=>K (.val (.tuple #[])) h'
        | none=>False
      | _=>False
    | _,_=>False
  | _=>False
def Zes (d:Option TypeDesc) (x y:Value):Option Bool :=
  match d,x,y with
  | some (.int _),.int k a,.int k' b=>if k=k' then some (a ==b) else none
  | some .string,.string a,.string b=>some (Xu a b)
  | some .bool,.bool a,.bool b=>some (a ==b)
  | _,_,_=>none
def Zdr (P:Program):List Field→List Value→List Value→Option Bool
  | [],_,_=>some true
  | f::fs,xs,ys =>
    bif f.name == "_" then none else
    match xs[f.offset]?,ys[f.offset]? with
    | some x,some y=>match Zes (P.underlying f.type) x y,Zdr P fs xs ys with
      | some a,some r=>some (bif a then r else false)
      | _,_=>none
    | _,_=>none
def Zdd (P:Program):List Field→List Value→List Value→Option Bool
  | [],_,_=>some true
  | f::fs,xs,ys =>
    bif f.name == "_" then none else
    match P.underlying f.type with
    | some (.struct gs) =>
      bif P.stoodInHeld f.type then none else
      bif Nat.ble (f.offset+P.cellsOf f.type) xs.length&&Nat.ble (f.offset+P.cellsOf f.type) ys.length then
        match Zdr P gs.toList ((xs.drop f.offset).take (P.cellsOf f.type)) ((ys.drop f.offset).take (P.cellsOf f.type)),Zdd P fs xs ys with
        | some a,some r=>some (bif a then r else false)
        | _,_=>none
      else none
    | u=>match xs[f.offset]?,ys[f.offset]? with
      | some x,some y=>match Zes u x y,Zdd P fs xs ys with
        | some a,some r=>some (bif a then r else false)
        | _,_=>none
      | _,_=>none
def eqS (P:Program) (t:TypeId) (fs:Array Field) (x y:EV) (K:Bool→Prop):Prop :=
  match x,y with
  | .val (.agg xs),.val (.agg ys)=>bif P.stoodInHeld t||P.eqGuardType P.depth t then False else
    match Zdd P fs.toList xs.toList ys.toList with
    | some b=>K b
    | none=>False
  | _,_=>False
def opP (c:Cfg) (o:Op) (ρ:Env) (h:Zc) (K:EV→Zc→Prop):Prop :=
  match o with
  | .move x=>match ρ.ev x with
    | some v=>K v h
    | none=>False
  | .assign x=>match ρ.ev x with
    | some (.val (.int k n))=>Ze n fun n=>K (.val (.int k n)) h
    | some (.val (.bool b))=>Zy b fun b=>K (.val (.bool b)) h
    | some v=>K v h
    | none=>False
  | .pick x a b=>match ρ.ev x,ρ.ev a,ρ.ev b with
    | some (.lit true),some a,_=>K a h
    | some (.lit false),_,some b=>K b h
    | some (.val (.bool x)),some a,some b=>match a.v,b.v with
      | .bool a,.bool b=>K (.val (.bool (bif x then a else b))) h
      | _,_=>False
    | _,_,_=>False
  | .alloc e=>match Zg9 c.P e with
    | some zs=>newC h zs e fun b h'=>K (.adr b 0) h'
    | none=>False
  | .box e x=>match ρ.ev x with
    | some v=>newC h (Zge v) e fun b h'=>K (.adr b 0) h'
    | none=>False
  | .build t parts=>match c.P.underlying t,Zg9 c.P t with
    | some (.struct fs),some zs=>match ZhH c.P fs.toList ρ zs.length parts.toList with
      | some l=>bif fs.toList.all fun f=>(c.P.info? f.type).isSome then Zr0 (Zj6 c.P fs.toList ρ parts.toList) (K (.val (.agg (Zdf zs l).toArray)) h) else False
      | none=>False
    | some (.array _ e),some zs=>match ZgA (c.P.cellsOf e) ρ zs.length parts.toList with
      | some l=>bif (c.P.info? e).isSome then K (.val (.agg (Zdf zs l).toArray)) h else False
      | none=>False
    | _,_=>False
  | .buildSlice t n parts=>match c.P.underlying t with
    | some (.slice e)=>match Zg9 c.P e,ZgA (c.P.cellsOf e) ρ (n*c.P.cellsOf e) parts.toList with
      | some zs,some l=>bif Nat.ble (n*c.P.cellsOf e) Zgf then
          (bif Nat.beq zs.length (c.P.cellsOf e) then
            newC h (Zdf (X6 zs n) l) e fun b h'=>K (.val (.slice (some ⟨b,0,none⟩) n n)) h' else False) else False
      | _,_=>False
    | _=>False
  | .load t a=>match ρ.ev a with
    | some x=>atP x fun b o=>ldT c.P t h b o fun v=>K v h
    | none=>False
  | .store t a x=>match ρ.ev a,ρ.ev x with
    | some a,some x=>atP a fun b o=>stT c.P t h b o x fun h'=>K (.val undef) h'
    | _,_=>False
  | .nilCheck x=>match ρ.ev x with
    | some x=>atP x fun b o=>K (.adr b o) h
    | none=>False
  | .binOp op t x y _=>match ρ.ev x,ρ.ev y with
    | some x,some y=>match op,c.P.underlying t with
      | .eql,some (.int _) | .eql,some .string=>ZqJ op x y fun v=>K v h
      | .neq,some (.int _) | .neq,some .string=>ZqJ op x y fun v=>K v h
      | .eql,some (.struct fs)=>eqS c.P t fs x y fun b=>K (.val (.bool b)) h
      | .neq,some (.struct fs)=>eqS c.P t fs x y fun b=>K (.val (.bool (!b))) h
      | .eql,d=>eqP d false x y fun v=>K v h
      | .neq,d=>eqP d true x y fun v=>K v h
      | _,_=>ZqJ op x y fun v=>K v h
    | _,_=>False
  | .unOp op _ x=>match op,ρ.ev x with
    | .not,some (.lit b)=>K (.lit (!b)) h
    | .not,some (.val (.bool b))=>K (.val (.bool (!b))) h
    | .neg,some (.val (.int k n))=>K (.val (.int k (k.wrap (0 - n)))) h
    | _,_=>False
  | .convert s d x=>match c.P.underlying s,c.P.underlying d,ρ.ev x with
    | some (.int _),some (.int k),some (.val (.int _ n))=>K (.val (.int k (k.wrap n))) h
    | some .string,some .string,some (.val (.string s))=>K (.val (.string s)) h
    | some .string,some (.slice e),some (.val (.string s))=>match c.P.underlying e with
      | some (.int .u8)=>s2b e s h fun x h'=>K (.val (.slice x.ptr x.len x.cap)) h'
      | _=>False
    | some (.slice e),some .string,some (.val (.slice p l m))=>match c.P.underlying e with
      | some (.int .u8)=>b2s ⟨p,l,m⟩ h fun s=>K (.val (.string s)) h
      | _=>False
    | some (.slice _),some (.slice e),some (.val (.slice p l m))=>match c.P.underlying e with
      | some (.int .u8)=>bif Nat.beq s d then Zzi p h fun h'=>K (.val (.slice p l m)) h' else False
      | _=>False
    | _,_,_=>False
  | .makeSlice t l m=>match c.P.underlying t,ρ.ev l,ρ.ev m with
    | some (.slice e),some (.val (.int _ l)),some (.val (.int _ m))=>match ZkR c.P e,Zg9 c.P e with
      | some (size,bytes),some zs=>bif Nat.beq zs.length size then mkS e bytes zs l m h fun s h'=>K (.val (.slice s.ptr s.len s.cap)) h' else False
      | _,_=>False
    | _,_,_=>False
  | .slice t x lo hi mx=>match c.P.underlying t,ρ.ev x with
    | some .string,some (.val (.string s))=>match mx,ZqA 0 (lo.map ρ.ev),ZqA s.size (hi.map ρ.ev) with
      | none,some lo,some hi=>ZDG s lo hi fun s=>K (.val (.string s)) h
      | _,_,_=>False
    | some (.slice e),some (.val (.slice p l m))=>match ZqA 0 (lo.map ρ.ev),ZqA l (hi.map ρ.ev),ZqA m (mx.map ρ.ev),ZkR c.P e with
      | some lo,some up,some most,some (size,_)=>bif hi.isNone&&mx.isSome then False else slc p m size lo up most fun s=>K (.val (.slice s.ptr s.len s.cap)) h
      | _,_,_,_=>False
    | _,_=>False
  | .fieldAddr s x f=>match c.P.underlying s,ρ.ev x with
    | some (.struct fs),some x=>match fs.toList[f]? with
      | some fd=>bif Nat.beq (c.P.cellsOf fd.type) 0 then False else atP x fun b o=>K (.adr b (ZuF o fd.offset)) h
      | none=>False
    | _,_=>False
  | .field s x f=>match c.P.underlying s,ρ.ev x with
    | some (.struct fs),some (.val (.agg cs))=>match fs.toList[f]? with
      | some fd=>bif (c.P.underlying fd.type).isNone then False else bif ZaC (c.P.underlying fd.type) then K (.val (.agg ((cs.toList.drop fd.offset).take (c.P.cellsOf fd.type)).toArray)) h
        else match cs.toList[fd.offset]? with
          | some v=>K (.val v) h
          | none=>False
      | none=>False
    | _,_=>False
  | .indexAddr t x i=>match c.P.underlying t,ρ.ev x,ρ.ev i with
    | some (.slice e),some (.val (.slice p l _)),some (.val (.int _ i))=>match ZkR c.P e with
      | some (size,_)=>Xh p l i size fun b o=>K (.adr b o) h
      | none=>False
    | some (.array n e),some x,some (.val (.int _ i))=>match ZkR c.P e with
      | some (size,_)=>atP x fun b o=>Zzj n i fun j=>K (.adr b (o+j*size)) h
      | none=>False
    | _,_,_=>False
  | .index t x i=>match c.P.underlying t,ρ.ev x,ρ.ev i with
    | some .string,some (.val (.string s)),some (.val (.int _ i))=>ZzN s i fun n=>K (.val (.int .u8 n)) h
    | some (.array n e),some (.val (.agg cs)),some (.val (.int _ i))=>match c.P.underlying e with
      | some (.struct _)=>bif Nat.beq cs.toList.length (n*c.P.cellsOf e) then Zzj n i fun j=>Zsx c.P e (.agg ⟨(cs.toList.drop (j*c.P.cellsOf e)).take (c.P.cellsOf e)⟩) fun v=>K v h else False
      | _=>False
    | _,_,_=>False
  | .extract x i=>match ρ.ev x with
    | some (.more _ _)=>bif Nat.beq i 0 then K (.lit true) h else False
    | some .over=>bif Nat.beq i 0 then K (.lit false) h else False
    | some (.val (.tuple vs))=>match vs.toList[i]? with
      | some v=>K (.val v) h
      | none=>False
    | _=>False
  | .call _=>Zit c o ρ h K
  | .panic x=>match ρ.ev x with
    | some (.val (.iface t v))=>c.pan (.iface t v) h
    | _=>False
  | .makeFunc (.func f) first caps=>match first.toList,evs ρ caps.toList with
    | [],some es=>K (.val (.func (.func f) ⟨[]⟩ ⟨es.map EV.v⟩)) h
    | _,_=>False
  | .makeMap _ none=>ZeV h fun b h'=>K (.val (.map (some b))) h'
  | .lookup t x i ok=>match c.P.underlying t,ρ.ev x,ρ.ev i with
    | some (.map kt et),some (.val (.map m)),some k=>match c.P.underlying kt,ZrH c.P et with
      | some d,some z=>Zk5 c.P kt d h m k.v fun r=>Zsx c.P et (r.getD z) fun v=>K (bif ok then .val (.tuple #[v.v,.bool r.isSome]) else v) h
      | _,_=>False
    | _,_,_=>False
  | .mapUpdate t m k x=>match c.P.underlying t,ρ.ev m,ρ.ev k,ρ.ev x with
    | some (.map kt _),some (.val (.map m)),some k,some x=>match c.P.underlying kt with
      | some d=>Zk4 c.P kt d h m k.v x.v fun h'=>K (.val undef) h'
      | none=>False
    | _,_,_,_=>False
  | .range t x=>match c.P.underlying t,ρ.ev x with
    | some (.map _ _),some (.val (.map m))=>rgM h m fun b h'=>K (.itr t b) h'
    | _,_=>False
  | .next x false=>match ρ.ev x with
    | some (.itr _ b)=>ZrY h b (fun k v h'=>K (.more k v) h') (K .over h)
    | _=>False
  | .entry x=>match ρ.ev x with
    | some (.itr t b)=>match c.P.underlying t with
      | some (.map kt et)=>Zzl h b fun k v=>Zsx c.P kt k fun k'=>Zsx c.P et v fun v'=>K (.val (.tuple #[k'.v,v'.v])) h
      | _=>False
    | _=>False
  | .makeInterface t x=>match ρ.ev x with
    | some v=>bif Zfq (c.P.underlying t) then False else K (.val (.iface t v.v)) h
    | none=>False
  | .typeAssert x _ t ok=>match ρ.ev x with
    | some v=>bif ok||Zfq (c.P.underlying t) then False else asT v.v t fun y=>ZlQ (c.P.underlying t) y fun u=>K u h
    | none=>False
  | _=>False
def ZkI (n:Nat) (e:Env) (d:Option Tmp) (v:EV) (K:Env→Prop):Prop :=
  match d with
  | none=>K e
  | some d=>bif Nat.blt d n then K (e.set d v) else False
def opQ (c:Cfg) (o:Oper) (e:Env) (h:Zc) (K:EV→Zc→Prop):Prop :=
  match o.op with
  | .assign x=>bif ZpX (c.P.underlying o.type) then (match e.ev x with
    | some v=>K v h
    | none=>False) else opP c (.assign x) e h K
  | op=>opP c op e h K
def Zul (c:Cfg) (o:Oper) (e:Env) (h:Zc) (K:Env→Zc→Prop):Prop :=
  opQ c o e h fun v h'=>ZkI c.n e o.dst v fun e'=>K e' h'
def Zix (c:Cfg) (o:Oper) (e:Env) (h:Zc) (K:Env→Zc→Prop):Prop :=
  ZkI c.n e o.dst (.val undef) fun e'=>K e' h
def Zd5 (ops:List Oper) (j:Nat):Option Tmp:=(ops[j]?).bind (·.dst)
def Zc3 (c:Cfg) (one:Oper→Env→Zc→(Env→Zc→Prop)→Prop) (all:List Oper):List Oper→Env→Zc→(Env→Zc→Prop)→Prop
  | [],e,h,K=>K e h
  | o::os,e,h,K =>
    match o.guard with
    | none=>one o e h fun e' h'=>Zc3 c one all os e' h' K
    | some (j,want) =>
      match Zd5 all j with
      | none=>Zix c o e h fun e' h'=>Zc3 c one all os e' h' K
      | some t =>
        match e t with
        | some (.lit b) =>
          match b,want with
          | true,true | false,false=>one o e h fun e' h'=>Zc3 c one all os e' h' K
          | true,false | false,true=>Zix c o e h fun e' h'=>Zc3 c one all os e' h' K
        | some (.val (.bool b)) =>
          match want with
          | true=>Zr b (one o (e.set t (.lit true)) h fun e' h'=>Zc3 c one all os e' h' K) (Zix c o (e.set t (.lit false)) h fun e' h'=>Zc3 c one all os e' h' K)
          | false=>Zr b (Zix c o (e.set t (.lit true)) h fun e' h'=>Zc3 c one all os e' h' K) (one o (e.set t (.lit false)) h fun e' h'=>Zc3 c one all os e' h' K)
        | some _=>Zix c o e h fun e' h'=>Zc3 c one all os e' h' K
        | none=>False
def ZlA (c:Cfg) (o:Op) (ρ:Env) (h:Zc) (K:EV→Zc→Prop):Prop :=
  match o with
  | .move _ | .assign _ | .pick _ _ _ | .load _ _ | .nilCheck _ | .binOp _ _ _ _ _ | .unOp _ _ _ | .slice _ _ _ _ _ | .fieldAddr _ _ _ | .field _ _ _ | .indexAddr _ _ _ | .index _ _ _ | .extract _ _ | .build _ _ | .makeFunc _ _ _=>opP c o ρ h K
  | .convert s d _=>match c.P.underlying s,c.P.underlying d with
    | some (.int _),some (.int _)=>opP c o ρ h K
    | _,_=>False
  | .call ⟨.builtin .len,_,_⟩ | .call ⟨.builtin .cap,_,_⟩ | .call ⟨.builtin .min,_,_⟩ | .call ⟨.builtin .max,_,_⟩=>opP c o ρ h K
  | .call ⟨.value (.func f),args,_⟩ =>
    match evs ρ args.toList with
    | some es=>match Ziq f es c.calls with
      | some ⟨s,t⟩=>ZrQ (fun K' h'=>s.sem t K' (fun _ _=>False) h') h fun r=>K (Zde (Xi.evs s.res r)) h
      | none=>False
    | none=>False
  | _=>False
def Zoi (c:Cfg) (o:Oper) (e:Env) (h:Zc) (K:Env→Zc→Prop):Prop :=
  ZlA c o.op e h fun v h'=>ZkI c.n e o.dst v fun e'=>K e' h'
def ZlM (m i:Nat):Bool:=Nat.beq (Nat.land (Nat.shiftRight m i) 1) 1
def Zil (m i:Nat):Nat:=Nat.lor m (Nat.shiftLeft 1 i)
def Zi6 (m:Nat):List Edge→Bool
  | []=>true
  | e::es=>bif Region.binds .any e then (bif ZlM m e.on then Zi6 m es else false) else Zi6 m es
def X7 (m i:Nat) (o:Oper):Bool:=bif ZlM m i then false else Zi6 m o.after.toList
def ZgD (m i:Nat):Nat→List Oper→Bool
  | _,[]=>true
  | k,o::os=>bif Nat.beq k i then ZgD m i (k+1) os else bif X7 m k o then false else ZgD m i (k+1) os
def ZeA (i:Nat):List Edge→Bool
  | []=>false
  | e::es=>bif Nat.beq e.on i then (bif Region.binds .any e then true else ZeA i es) else ZeA i es
def Zhe (ops:Array Oper) (oi:Oper) (m i:Nat):Nat→List Oper→Bool
  | _,[]=>true
  | k,o::os=>bif (bif Nat.beq k i then true else bif ZlM m k then true else bif ZeA i o.after.toList then true else oi.apart ops o) then Zhe ops oi m i (k+1) os else false
def Zou (m:Nat):Nat→List Oper→Bool
  | _,[]=>true
  | k,o::os=>bif X7 m k o then false else Zou m (k+1) os
abbrev Zex:=List (Nat × (Zc→Prop))
def Zmu (o:Oper):Zex→Zex
  | []=>[]
  | x::r=>bif ZeA x.1 o.after.toList then Zmu o r else x::Zmu o r
def Zsa (h:Zc):Zex→Prop→Prop
  | [],K=>K
  | x::r,K=>x.2 h∧Zsa h r K
def ZiF (m i j:Nat):Nat→List Oper→Bool
  | _,[]=>true
  | k,o::os=>bif Nat.beq k i||Nat.beq k j then ZiF m i j (k+1) os else bif X7 m k o then false else ZiF m i j (k+1) os
def Zky (b o:Nat):Nat→List Value→List (Nat × Nat × Value)
  | _,[]=>[]
  | i,v::vs=>(b,ZuF o i,v)::Zky b o (i+1) vs
def ldH (P:Program) (t:TypeId) (h:Zc) (b o:Nat) (K:EV→List (Nat × Nat × Value)→Prop):Prop :=
  bif ZaC (P.underlying t) then
    (bif Nat.beq (Zda P 8 t).length (P.cellsOf t) then ZpV h b o 0 (Zda P 8 t) fun vs=>K (.val (.agg vs.toArray)) (Zky b o 0 vs) else False)
  else ZhT (P.underlying t) h b o fun v=>K v [(b,o,v.v)]
inductive OpK where
  | pure | load (t:TypeId) (x:Operand) | text (x:Operand) | other
def ZeC (c:Cfg):Op→OpK
  | .move _ | .assign _ | .pick _ _ _ | .nilCheck _ | .binOp _ _ _ _ _ | .unOp _ _ _ | .slice _ _ _ _ _ | .fieldAddr _ _ _ | .field _ _ _ | .indexAddr _ _ _ | .index _ _ _ | .extract _ _ | .build _ _ | .makeFunc _ _ _=> .pure
  | .convert s d x=>match c.P.underlying s,c.P.underlying d with
    | some (.int _),some (.int _)=> .pure
    | some (.slice e),some .string=>match c.P.underlying e with
      | some (.int .u8)=> .text x
      | _=> .other
    | _,_=> .other
  | .call ⟨.builtin .len,_,ts⟩=>bif Zfx c.P ts then .other else .pure
  | .call ⟨.builtin .cap,_,_⟩ | .call ⟨.builtin .min,_,_⟩ | .call ⟨.builtin .max,_,_⟩=> .pure
  | .load t x=> .load t x
  | _=> .other
def ZhX (all:List Oper) (o:Oper) (e:Env) (A B:Env→Prop):Prop :=
  match o.guard with
  | none=>A e
  | some (j,want) =>
    match Zd5 all j with
    | none=>B e
    | some t =>
      match e t with
      | some (.lit b) =>
        match b,want with
        | true,true | false,false=>A e
        | true,false | false,true=>B e
      | some (.val (.bool b)) =>
        match want with
        | true=>Zr b (A (e.set t (.lit true))) (B (e.set t (.lit false)))
        | false=>Zr b (B (e.set t (.lit true))) (A (e.set t (.lit false)))
      | some _=>B e
      | none=>False
inductive OrdT where
  | done | take (i:Nat) (r:OrdT) | fork (i:Nat) (r:OrdT) (j:Nat) (s:OrdT)
def OrdT.depth:OrdT→Nat
  | .done=>0
  | .take _ r=>r.depth+1
  | .fork _ r _ s=>Nat.max r.depth s.depth+1
def Zsh (c:Cfg) (ops:Array Oper) (o:Oper) (hd:Zex) (e:Env) (h:Zc) (rest:Zex→Env→Zc→Prop):Prop :=
  ZhX ops.toList o e (fun e=>opP c o.op e h fun v h'=>ZkI c.n e o.dst v fun e'=>Zsa h' (Zmu o hd) (rest (Zmu o hd) e' h'))
   (fun e=>ZkI c.n e o.dst (.val undef) fun e'=>rest hd e' h)
def ZuC (c:Cfg) (ops:Array Oper) (o:Oper) (hd:Zex) (e:Env) (h:Zc) (rest:Zex→Env→Zc→Prop):Prop :=
  ZhX ops.toList o e (fun e=>opP c o.op e h fun v _=>ZkI c.n e o.dst v fun e'=>rest hd e' h)
   (fun e=>ZkI c.n e o.dst (.val undef) fun e'=>rest hd e' h)
def Zkf (c:Cfg) (ops:Array Oper) (K:Env→Zc→Prop):OrdT→Nat→Zex→Env→Zc→Prop
  | .done,m,_,e,h=>bif Zou m 0 ops.toList then K e h else False
  | .fork i r j s,m,hd,e,h =>
    match ops[i]?,ops[j]? with
    | some o,some p=>bif X7 m i o&&(X7 m j p&&ZiF m i j 0 ops.toList) then
        Zh8 (Zsh c ops o hd e h (Zkf c ops K r (Zil m i))) (Zsh c ops p hd e h (Zkf c ops K s (Zil m j)))
      else False
    | _,_=>False
  | .take i r,m,hd,e,h =>
    match ops[i]? with
    | none=>False
    | some o =>
      match ZeC c o.op with
      | .pure=>bif X7 m i o&&(Zhe ops o m i 0 ops.toList||ZgD m i 0 ops.toList) then ZuC c ops o hd e h (Zkf c ops K r (Zil m i)) else False
      | .load t x=>bif X7 m i o&&Zhe ops o m i 0 ops.toList then
          ZhX ops.toList o e (fun e=>match e.ev x with
           | some y=>atP y fun b p=>ldH c.P t h b p fun v cells=>ZkI c.n e o.dst v fun e'=>Zkf c ops K r (Zil m i) ((i,fun h'=>Zo h' cells)::hd) e' h
           | none=>False)
           (fun e=>ZkI c.n e o.dst (.val undef) fun e'=>Zkf c ops K r (Zil m i) hd e' h)
        else bif X7 m i o&&ZgD m i 0 ops.toList then ZuC c ops o hd e h (Zkf c ops K r (Zil m i)) else False
      | .text x=>bif X7 m i o&&Zhe ops o m i 0 ops.toList then
          ZhX ops.toList o e (fun e=>match e.ev x with
           | some (.val (.slice p l n))=>b2s ⟨p,l,n⟩ h fun s=>ZkI c.n e o.dst (.val (.string s)) fun e'=>Zkf c ops K r (Zil m i) ((i,fun h'=>b2s ⟨p,l,n⟩ h' fun s'=>s'=s)::hd) e' h
           | _=>False)
           (fun e=>ZkI c.n e o.dst (.val undef) fun e'=>Zkf c ops K r (Zil m i) hd e' h)
        else bif X7 m i o&&ZgD m i 0 ops.toList then Zsh c ops o hd e h (Zkf c ops K r (Zil m i)) else False
      | .other=>bif X7 m i o&&ZgD m i 0 ops.toList then Zsh c ops o hd e h (Zkf c ops K r (Zil m i)) else False
inductive Ann where
  | leaf
  | seq (a b:Ann)
  | cut (slots:List Nat) (tys:List VT) (kill:List (Nat × Nat)) (a b:Ann)
  | cond (a b:Ann)
  | block (a:Ann)
  | loop (slots:List Nat) (tys:List VT) (kill:List (Nat × Nat)) (a:Ann)
  | order (l:OrdT)
  | range (tys:List VT) (a b:Ann)
inductive Ex where
  | normal | exit (id:Nat) | ret
def Za7:List Nat→List EV→Nat→Option EV
  | s::ss,v::vs,j=>bif Nat.beq j s then some v else Za7 ss vs j
  | _,_,_=>none
def Zkl:List (Nat × Nat)→Nat→Bool
  | [],_=>false
  | (lo,hi)::r,j=>bif Nat.ble lo j&&Nat.ble j hi then true else Zkl r j
def ZmR:List Nat→Nat→Bool
  | [],_=>false
  | s::ss,j=>bif Nat.beq j s then true else ZmR ss j
def ZoT (slots:List Nat) (vs:List EV) (kill:List (Nat × Nat)) (e:Env):Env:=⟨fun j =>
  match Za7 slots vs j with
  | some v=>some v
  | none=>bif Zkl kill j then none else e.f j,e.mD⟩
def Zl7 (e:Env):List Nat→Option (List EV)
  | []=>some []
  | s::ss=>match e s,Zl7 e ss with
    | some v,some vs=>some (v::vs)
    | _,_=>none
def ZkX (slots:List Nat) (tys:List VT) (e:Env):Option (Xi tys) :=
  match Zl7 e slots with
  | some es=>Xi.un tys es
  | none=>none
def ZoG (slots:List Nat) (tys:List VT) (e:Env) (J:Xi tys→Zc→Prop) (h:Zc):Prop :=
  match ZkX slots tys e with
  | some t=>J t h
  | none=>False
def mkN:Nat:=4294967291
def ZcK:Code→List Nat
  | .region _ ops _=>ops.toList.filterMap (·.dst)
  | .seq a b=>ZcK a++ZcK b
  | .cond _ a b=>ZcK a++ZcK b
  | .block _ a=>ZcK a
  | .loop a=>ZcK a
  | .rangeFunc _ _ _ _=>[mkN]
  | _=>[]
def ZlK (slots:List Nat) (kill:List (Nat × Nat)) (a:Code):Bool:=(ZcK a).all fun j=>bif Nat.beq j mkN then false else ZmR slots j||Zkl kill j
def Zp6 (K:Env→Zc→Prop) (Q:Ex→Env→Zc→Prop):Ex→Env→Zc→Prop
  | .normal,e,h=>K e h
  | .exit id,e,h=>Q (.exit id) e h
  | .ret,e,h=>Q .ret e h
def ZqI (id:Nat) (Q:Ex→Env→Zc→Prop):Ex→Env→Zc→Prop
  | .normal,e,h=>Q .normal e h
  | .exit id',e,h=>bif Nat.beq id' id then Q .normal e h else Q (.exit id') e h
  | .ret,e,h=>Q .ret e h
def Ziz (n:Nat) (e:Env):List Tmp→List EV→Option Env
  | [],[]=>some e
  | p::ps,v::vs=>bif Nat.blt p n then Ziz n (e.set p v) ps vs else none
  | _,_=>none
def Zsb (a:Code):Bool:=ZmR (ZcK a) mkN
def ZoN:Op→Bool
  | .defer _=>true
  | _=>false
def Zf4:List Oper→Bool
  | []=>true
  | o::os=>bif ZoN o.op then false else Zf4 os
def Ann.fst:Ann→Ann
  | .seq a _ | .cut _ _ _ a _ | .cond a _ | .block a | .loop _ _ _ a | .range _ a _=>a
  | .leaf | .order _=> .leaf
def Ann.snd:Ann→Ann
  | .seq _ b | .cut _ _ _ _ b | .cond _ b | .range _ _ b=>b
  | _=> .leaf
def Zqz (K:Env→Zc→Prop):Ex→Env→Zc→Prop
  | .normal,e,h=>K e h
  | _,_,_=>False
def Zqy (k:Option Code→Zc→Prop):Ex→Env→Zc→Prop
  | .normal,_,h=>k none h
  | .exit id,_,h=>k (some (.exit id)) h
  | .ret,_,h=>k (some .ret) h
def wpC (c:Cfg):Code→Ann→Env→Zc→(Ex→Env→Zc→Prop)→Prop
  | .skip,_,e,h,Q=>Q .normal e h
  | .region _ ops draw,ann,e,h,Q =>
    match draw with
    | true=>match ann with
      | .order l=>bif Region.noSelect ops&&(Nat.ble l.depth ops.size&&Zf4 ops.toList) then Zkf c ops (fun e' h'=>Q .normal e' h') l 0 [] e h else False
      | _=>bif c.rnd.isNone&&Region.lexB .any ops then Zc3 c (Zoi c) ops.toList ops.toList e h fun e' h'=>Q .normal e' h' else False
    | false=>Zc3 c (Zul c) ops.toList ops.toList e h fun e' h'=>Q .normal e' h'
  | .seq a b,ann,e,h,Q =>
    match ann with
    | .cut slots tys kill x y =>
      bif ZlK slots kill a then
        ZgR (fun t h'=>wpC c b y (ZoT slots (Xi.evs tys t) kill e) h' Q) (fun J=>wpC c a x e h (Zp6 (fun e' h'=>ZoG slots tys e' J h') Q))
      else False
    | ann=>wpC c a ann.fst e h (Zp6 (fun e' h'=>wpC c b ann.snd e' h' Q) Q)
  | .cond x a b,ann,e,h,Q =>
    match e.ev x with
    | some (.lit true)=>wpC c a ann.fst e h Q
    | some (.lit false)=>wpC c b ann.snd e h Q
    | some (.val (.bool v))=>Zr v (wpC c a ann.fst e h Q) (wpC c b ann.snd e h Q)
    | _=>False
  | .block id a,ann,e,h,Q=>wpC c a ann.fst e h (ZqI id Q)
  | .loop a,ann,e,h,Q =>
    match ann with
    | .loop slots tys kill x =>
      bif ZlK slots kill a then
        match ZkX slots tys e with
        | some t0=>YL (fun J t h'=>wpC c a x (ZoT slots (Xi.evs tys t) kill e) h' (Zp6 (fun e' h''=>ZoG slots tys e' J h'') Q)) t0 h
        | none=>False
      else False
    | _=>False
  | .exit id,_,e,h,Q=>Q (.exit id) e h
  | .ret,_,e,h,Q=>Q .ret e h
  | .rangeFunc g ps assign body,ann,e,h,Q =>
    match ann with
    | .range tys x y=>bif c.rnd.isNone&&e.mD.isNone then
      (match e.ev g with
      | some (.val (.func (.func f) ⟨[]⟩ ⟨cs⟩))=>match Zl9 f (cs.map EV.val) c.iters with
        | some ⟨s,t⟩ =>
          ZiD ps.size (fun Y l K h'=>s.sem Y l t K h')
           (fun l r vs h' k=>Zo7 (fun a:Xi tys=>(Xi.evs tys a).map EV.v) vs fun a=>match Ziz c.n ⟨e.f,none⟩ ps.toList (Xi.evs tys a) with
             | some e1=>wpC { c with rnd:=some l,pan:=fun _ _=>False } assign x e1 h' (Zqz fun e2 h2 =>
                 Zlf r l h2 fun h3=>wpC { c with rnd:=some l,pan:=fun _ _=>False } body y e2 h3 (Zqy k))
             | none=>False)
           h fun p D h'=>Zk8 p (Q .normal ⟨e.f,some D⟩ h') (fun id=>Q (.exit id) ⟨e.f,some D⟩ h') (Q .ret ⟨e.f,some D⟩ h')
        | none=>False
      | _=>False)
      else False
    | _=>False
  | _,_,_,_,_=>False
def Zpo (c:Cfg) (e:Env) (h:Zc):List ResultVar→(List EV→Prop)→Prop
  | [],K=>K []
  | .tmp t::r,K=>match e.f t with
    | some v=>Zpo c e h r fun vs=>K (v::vs)
    | none=>False
  | .cell a t::r,K=>match e.f a with
    | some (.adr b o)=>ldT c.P t h b o fun v=>Zpo c e h r fun vs=>K (v::vs)
    | _=>False
def Zib (l:List EV):Env:=⟨fun j=>go l 0 j,none⟩
where go:List EV→Nat→Nat→Option EV
  | [],_,_=>none
  | v::vs,i,j=>bif Nat.beq j i then some v else go vs (i+1) j
def Zsw (c:Cfg) (fn:Func) (ann:Ann) (args:List EV) (res:List VT) (K:Xi res→Zc→Prop) (Kp:Value→Zc→Prop) (h:Zc):Prop :=
  match fn.body with
  | some code=>wpC { c with rnd:=none,pan:=bif Zsb code then fun _ _=>False else Kp } code ann (Zib args) h fun ex e h' =>
    match ex with
    | .exit _=>False
    | _=>match e.mD with
      | none=>Zpo c e h' fn.results.toList fun vs=>match Xi.un res vs with
        | some r=>K r h'
        | none=>False
      | some D=>ZeL D h' fun h'=>Zpo c e h' fn.results.toList fun vs=>match Xi.un res vs with
        | some r=>K r h'
        | none=>False
  | none=>False
theorem ZjN (w:World) (b o:Nat):w.cell? ⟨b,o,none⟩=Zc.cell w.heap b o:=by
  unfold World.cell? Zc.cell
  simp only [Option.isSome_none,Bool.false_eq_true,if_false]
  cases w.heap[b]? with
  | none=>rfl
  | some x=>cases x<;>rfl
theorem Zsd (w:World) (b o:Nat):w.frozen? ⟨b,o,none⟩=Zc.froz w.heap b o:=by
  unfold World.frozen? Zc.froz
  rfl
theorem Zl1 (w:World) (b o:Nat) (v:Value):w.setCell ⟨b,o,none⟩ v={ w with heap:=Zc.put w.heap b o v }:=by
  unfold World.setCell Zc.put
  simp only [Option.isSome_none,Bool.false_eq_true,if_false]
  refine congrArg (fun f=>({ w with heap:=w.heap.modify b f }:World)) ?_
  funext x
  cases x<;>rfl
theorem Zif (b o n:Nat):(⟨b,o,none⟩:Addr).add n=⟨b,o+n,none⟩:=by
  unfold Addr.add
  split
  ·rename_i h;subst h;rfl
  ·rfl
theorem Zlj (o i:Nat):ZuF o i=o+i:=by
  unfold ZuF
  cases h:Nat.beq i 0 with
  | false=>rfl
  | true=>have:=Nat.eq_of_beq_eq_true h;subst this;rfl
def Same (w w':World):Prop:=w'.tape=w.tape∧w'.os=w.os∧w'.output=w.output
theorem Same.refl (w:World):Same w w:=⟨rfl,rfl,rfl⟩
theorem Same.trans {a b c:World} (h:Same a b) (h':Same b c):Same a c:=⟨h'.1.trans h.1,h'.2.1.trans h.2.1,h'.2.2.trans h.2.2⟩
def Zr1:Option Nat→List Deferred
  | none=>[]
  | some D=>[{ target:= .collected D,args:= #[]}]
structure Agr (n:Nat) (e:Env) (a:Act):Prop where
  size:a.tmps.size=n
  defers:a.defers=Zr1 e.mD
  val:∀ j v,e j=some v→a.tmps[j]?=some v.v
theorem Agr.ev {n:Nat} {e:Env} {a:Act} (h:Agr n e a) {x:Operand} {v:EV} (hx:e.ev x=some v):a.eval x=v.v:=by
  cases x with
  | tmp t=>have:=h.val t v hx;simp [Act.eval,this]
  | const c =>
    cases c<;>simp only [Env.ev,Option.some.injEq] at hx<;>subst hx<;>rfl
  | global g=>simp only [Env.ev,Option.some.injEq] at hx;subst hx;rfl
  | func f=>simp only [Env.ev,Option.some.injEq] at hx;subst hx;rfl
theorem Agr.evs {n:Nat} {e:Env} {a:Act} (h:Agr n e a):∀ {xs:List Operand} {vs:List EV},evs e xs=some vs→xs.map a.eval=vs.map EV.v
  | [],vs,hx=>by simp only [Fw.evs,Option.some.injEq] at hx;subst hx;rfl
  | x::xs,vs,hx=>by
    simp only [Fw.evs] at hx
    split at hx
    ·rename_i v vs' h1 h2
     simp only [Option.some.injEq] at hx;subst hx
     simp [h.ev h1,h.evs h2]
    ·cases hx
theorem Agr.set {n:Nat} {e:Env} {a:Act} (h:Agr n e a) {d:Nat} (hd:Nat.blt d n=true) (v:EV):Agr n (e.set d v) (a.put (some d) v.v):=by
  have hlt:d<n:=by rw [Nat.blt_eq] at hd;exact hd
  refine ⟨by simp [Act.put,h.size],by simp [Act.put,h.defers,Env.set],fun j u hj=>?_⟩
  unfold Env.set at hj
  dsimp only at hj
  cases hb:Nat.beq j d with
  | true =>
    have:=Nat.eq_of_beq_eq_true hb;subst this
    rw [hb] at hj
    simp only [cond_true,Option.some.injEq] at hj
    subst hj
    simp [Act.put,h.size,hlt]
  | false =>
    have hne:j≠d:=Nat.ne_of_beq_eq_false hb
    rw [hb] at hj
    simp only [cond_false] at hj
    have:=h.val j u hj
    simp [Act.put,Array.getElem?_setIfInBounds_ne (Ne.symm hne),this]
theorem Agr.tell {n:Nat} {e:Env} {a:Act} (h:Agr n e a) {t:Nat} {b:Bool} (ht:e t=some (.val (.bool b))):Agr n (e.set t (.lit b)) a:=by
  refine ⟨h.size,h.defers,fun j u hj=>?_⟩
  unfold Env.set at hj
  dsimp only at hj
  cases hb:Nat.beq j t with
  | true =>
    have:=Nat.eq_of_beq_eq_true hb;subst this
    rw [hb] at hj
    simp only [cond_true,Option.some.injEq] at hj
    subst hj
    have:=h.val j _ ht
    exact this
  | false =>
    rw [hb] at hj
    exact h.val j u hj
theorem Zbj {n:Nat} {e:Env} {a:Act} (h:Agr n e a) {d:Option Tmp} {v:EV} {K:Env→Prop} (hk:ZkI n e d v K) :
    ∃ e',Agr n e' (a.put d v.v)∧K e':=by
  unfold ZkI at hk
  cases d with
  | none=>exact ⟨e,h,hk⟩
  | some d =>
    simp only at hk
    cases hb:Nat.blt d n with
    | false=>rw [hb] at hk;exact hk.elim
    | true=>rw [hb] at hk;exact ⟨_,h.set hb v,hk⟩
section
variable (P:Program) (w:World)
theorem Zeg {b o:Nat} {v:Value} (h:Zc.cell w.heap b o=some v) (m:Mode):(load ⟨b,o,none⟩ m).run P w = .ok v w:=by
  rw [run_load,ZjN,h]
theorem Zin {b o:Nat} {u v:Value} (h:Zc.cell w.heap b o=some u) (hf:Zc.froz w.heap b o=false) (hv:ZA v=true) (m:Mode) :
    (store ⟨b,o,none⟩ v m).run P w = .ok () { w with heap:=Zc.put w.heap b o v }:=by
  have hv':v.oneCell'=true:=by cases v<;>first | rfl | (simp [ZA] at hv)
  rw [run_store P w _ v m hv',ZjN,h,Zsd,hf]
  simp only [Bool.false_eq_true,if_false,Zl1]
theorem Zi (t:TypeId) {d:TypeDesc} (h:P.underlying t=some d):(underlying t).run P w = .ok d w:=by
  unfold underlying
  simp [h]
theorem Zam (t:TypeId) {i:TypeInfo} (h:P.info? t=some i):(typeInfo t).run P w = .ok i w:=by
  unfold typeInfo
  simp [h]
theorem Y4 (t:TypeId) {i:TypeInfo} (h:P.info? t=some i):(sizeOf t).run P w = .ok i.size w:=by
  unfold sizeOf
  simp [Zam P w t h]
theorem Xr (t:TypeId) {i:TypeInfo} {v:Value} (h:P.info? t=some i) (hv:i.zero=some v):(zeroValue t).run P w = .ok v w:=by
  unfold zeroValue
  simp [Zam P w t h,hv]
theorem XX {t:TypeId} {d:TypeDesc} (h:P.underlying t=some d):∃ i,P.info? t=some i:=by
  unfold Program.underlying at h
  cases hi:P.info? t with
  | none=>simp [hi] at h
  | some i=>exact ⟨i,rfl⟩
theorem ZaF {t:TypeId} {i:TypeInfo} (h:P.info? t=some i):P.cellsOf t=i.size:=by
  unfold Program.cellsOf
  simp [h]
theorem ZcH (t:TypeId) {d:TypeDesc} (h:P.underlying t=some d):(isAgg t).run P w = .ok (ZaC (some d)) w:=by
  unfold isAgg
  simp only [Sem.run_bind,Zi P w t h,Result.andThen_ok]
  cases d<;>rfl
theorem Zd0 (b o:Nat):∀ (vs:List Value) (i:Nat) (acc:Array Value),Zc.has w.heap b (o+i) vs →
    (loadCellsFrom ⟨b,o,none⟩ i vs.length acc).run P w = .ok (acc++vs.toArray) w
  | [],i,acc,_=>by simp [loadCellsFrom]
  | v::vs,i,acc,h=>by
    have h1:Zc.cell w.heap b (o+i)=some v:=h.1
    have h2:Zc.has w.heap b (o+i+1) vs:=h.2
    simp only [List.length_cons,loadCellsFrom,Sem.run_bind,Zif,Zeg P w h1,Result.andThen_ok]
    rw [Zd0 b o vs (i+1) _ (by rw [← Nat.add_assoc];exact h2)]
    simp
theorem ZbC (b o:Nat) (vs:List Value) (h:Zc.has w.heap b o vs):(loadCells ⟨b,o,none⟩ vs.length).run P w = .ok vs.toArray w:=by
  unfold loadCells
  rw [Zd0 P w b o vs 0 #[] (by simpa using h)]
  simp
end
theorem Zle {h:Zc} {b o b' o':Nat} {v:Value} (hne:b≠b'∨o≠o'):(h.put b o v).cell b' o'=h.cell b' o':=by
  unfold Zc.put Zc.cell
  simp only [Array.getElem?_modify]
  by_cases hb:b=b'
  ·subst hb
   have ho:o≠o':=hne.resolve_left (fun h=>h rfl)
   simp only [if_true]
   cases hh:h[b]? with
   | none=>rfl
   | some x=>cases x<;>simp [Array.getElem?_setIfInBounds_ne ho]
  ·simp [hb]
theorem ZpZ {h:Zc} {b o b' o':Nat} {v:Value}:(h.put b o v).froz b' o'=h.froz b' o':=by
  unfold Zc.put Zc.froz
  simp only [Array.getElem?_modify]
  by_cases hb:b=b'
  ·subst hb
   simp only [if_true]
   cases hh:h[b]? with
   | none=>rfl
   | some x=>cases x<;>rfl
  ·simp [hb]
theorem ZlG {h:Zc} {b o:Nat} {v:Value}:∀ {n o':Nat},o<o'→h.free b o' n→(h.put b o v).free b o' n
  | 0,_,_,_=>trivial
  | n+1,o',hlt,hf=>by
    obtain ⟨⟨⟨u,hu⟩,hz⟩,hr⟩:=hf
    exact ⟨⟨⟨u,by rw [Zle (.inr (by omega))];exact hu⟩,by rw [ZpZ];exact hz⟩,ZlG (by omega) hr⟩
theorem Zcx (P:Program) (b o:Nat):∀ (vs:List Value) (i:Nat) (w:World),Zc.free w.heap b (o+i) vs.length→vs.all ZA=true →
    (storeCells ⟨b,o,none⟩ vs i).run P w = .ok () { w with heap:=Zc.puts w.heap b (o+i) vs }
  | [],i,w,_,_=>rfl
  | v::vs,i,w,hf,ha=>by
    obtain ⟨⟨⟨u,hu⟩,hz⟩,hr⟩:=hf
    simp only [List.all_cons,Bool.and_eq_true] at ha
    simp only [storeCells,Sem.run_bind,Zif,Zin P w hu hz ha.1,Result.andThen_ok]
    rw [Zcx P b o vs (i+1) _ (by rw [← Nat.add_assoc];exact ZlG (by omega) hr) ha.2]
    simp [Zc.puts,Nat.add_assoc]
theorem ZfJ {d:Option TypeDesc} {h:Zc} {b o:Nat} {K:EV→Prop} (hk:ZhT d h b o K) :
    ∃ v,h.cell b o=some v.v∧K v∧ZaC d=false∧d.isSome=true:=by
  unfold ZhT at hk
  cases d with
  | none=>exact hk.elim
  | some d =>
    cases d<;>simp only at hk<;>first
      | exact hk.elim
      | (obtain ⟨x,hx,hK⟩:=hk;refine ⟨_,?_,hK,rfl,rfl⟩;exact hx)
theorem ZgL {h:Zc} {b o:Nat}:∀ {ds:List (Option TypeDesc)} {i:Nat} {K:List Value→Prop},ZpV h b o i ds K →
    ∃ vs,vs.length=ds.length∧h.has b (o+i) vs∧K vs
  | [],i,K,hk=>⟨[],rfl,trivial,hk⟩
  | d::ds,i,K,hk=>by
    obtain ⟨v,hc,hk,_⟩:=ZfJ hk
    obtain ⟨vs,hl,hh,hk⟩:=ZgL hk
    rw [Zlj] at hc
    exact ⟨v.v::vs,by simp [hl],⟨hc,by rw [Nat.add_assoc];exact hh⟩,hk⟩
theorem ZlD {P:Program} {t:TypeId} {b o:Nat} {K:EV→Prop} {h:Zc} (hk:ldT P t h b o K) :
    ∃ v,(∀ w:World,w.heap=h→(loadVar t ⟨b,o,none⟩).run P w = .ok v.v w)∧K v:=by
  unfold ldT at hk
  cases hu:P.underlying t with
  | none=>rw [hu] at hk;simp [ZaC,ZhT] at hk
  | some d =>
    obtain ⟨i,hi⟩:=XX P hu
    rw [hu] at hk
    unfold loadVar
    cases ha:ZaC (some d) with
    | true =>
      rw [ha] at hk
      simp only [cond_true] at hk
      cases hl:Nat.beq (Zda P 8 t).length (P.cellsOf t) with
      | false=>rw [hl] at hk;exact hk.elim
      | true =>
        rw [hl] at hk
        obtain ⟨vs,hlen,hh,hk⟩:=ZgL hk
        have hs:i.size=vs.length:=by rw [hlen,Nat.eq_of_beq_eq_true hl,ZaF P hi]
        refine ⟨.val (.agg vs.toArray),fun w hw=>?_,hk⟩
        subst hw
        simp only [Sem.run_bind,ZcH P w t hu,ha,Result.andThen_ok,if_true,Y4 P w t hi,hs]
        rw [ZbC P w b o vs (by simpa using hh)]
        rfl
    | false =>
      rw [ha] at hk
      obtain ⟨v,hc,hk,_⟩:=ZfJ hk
      refine ⟨v,fun w hw=>?_,hk⟩
      subst hw
      simp only [Sem.run_bind,ZcH P w t hu,ha,Result.andThen_ok,Bool.false_eq_true,if_false]
      exact Zeg P w hc _
def Zug (vs:List VT) (t:Xi vs):Value:=(Zde (Xi.evs vs t)).v
def fen (r:Option Nat):Fence:={ fn:=fun _=>True,depth:=none,alive:=false,round:=r }
theorem Zev {r:Option Nat} {n:Nat} {P:Program} {f:FuncId} {args:Array Value} {w:World} {R:Ending→World→Prop}:CallsIn (fen r) n P f args w R↔Calls P f args w R :=
  callsIn_wide (n:=n)
def Zft (res:List VT) (w:World) (K:Xi res→Zc→Prop) (Kp:Value→Zc→Prop):Ending→World→Prop:=fun e w' =>
  (∃ r,e = .returned (Zug res r)∧Same w w'∧K r w'.heap)∨(∃ v,e = .panicked [{ v,recovered:=false }]∧Same w w'∧Kp v w'.heap)
def Zqg (P:Program) (l:Nat) (vs:List Value) (w:World) (k:Bool→Zc→Prop):Prop :=
  ∃ fn tmps assign body,(Instr.yield l vs.toArray).run P w = .ok (.round l fn tmps assign body) w ∧
    RoundIn (fen none) 0 P l fn tmps assign body w fun e w'=>∃ b,e = .returned (.bool b)∧Same w w'∧k b w'.heap
def YOK (P:Program) (Y:Yld):Prop:=∀ l vs k w,Y l vs k w.heap→Zqg P l vs w k
structure Zj (P:Program) (f:FuncId) (s:Zd):Prop where
  named:∃ fn,P.funcs[f]?=some fn∧(fn.name == "runtime.NumGoroutine")=false∧fn.body.isNone=false
  calls:∀ (t:Xi s.args) (K:Xi s.res→Zc→Prop) (Kp:Value→Zc→Prop) (w:World),s.sem t K Kp w.heap →
    Calls P f ((Xi.evs s.args t).map EV.v).toArray w (Zft s.res w K Kp)
def ZaR.spec (s:ZaR) (Y:Yld):Zd:=⟨.yl::s.caps,[],fun t K _ h=>s.sem Y t.1 t.2 (fun h'=>K () h') h⟩
def ZkE (P:Program) (f:FuncId) (s:ZaR):Prop:=∀ Y,YOK P Y→Zj P f (s.spec Y)
def Zpk (P:Program) (f:FuncId):Prop:=∀ (t b:Nat) (es:Array MapEntry) (c:Nat) (w:World),w.heap[b]?=some (.map es c) →
  ∃ w',(callFunc f #[.iface t (.map (some b))]).run P w = .ok (.value (.iface t (.map (some w.heap.size)))) w'∧Same w w'∧w'.heap=w.heap.push (.map es c)
def ZlU (P:Program) (name:String) (t:TypeId) (f:FuncId):Prop:=∀ (v:Value) (w:World),(method (P.types.size+Made.depth) t v name).run P w = .ok (f,v) w
structure Cfg.OK (c:Cfg):Prop where
  calls:∀ x,x∈c.calls→Zj c.P x.1 x.2
  ext:∀ f,f∈c.ext→Zpk c.P f
  dyn:∀ x,x∈c.dyn→ZlU c.P x.1 x.2.1 x.2.2
  iters:∀ x,x∈c.iters→ZkE c.P x.1 x.2
  yld:YOK c.P c.yld
theorem Cfg.OK.at {c:Cfg} (h:c.OK) (r:Option Nat) (p:Value→Zc→Prop):Cfg.OK { c with rnd:=r,pan:=p }:=⟨h.calls,h.ext,h.dyn,h.iters,h.yld⟩
theorem Zn (P:Program):YOK P Zw:=fun _ _ _ _ h=>h.elim
theorem ZhI {f:FuncId} {es:List EV}:∀ {l:List (FuncId × ZaR)} {p:Zpd},Zl9 f es l=some p→(f,p.s)∈l∧Xi.un p.s.caps es=some p.t
  | [],p,h=>by simp [Zl9] at h
  | (g,s)::r,p,h=>by
    simp only [Zl9] at h
    cases hb:Nat.beq f g with
    | false =>
      rw [hb] at h
      have:=ZhI (l:=r) h
      exact ⟨.tail _ this.1,this.2⟩
    | true =>
      rw [hb] at h
      have he:=Nat.eq_of_beq_eq_true hb
      subst he
      simp only [cond_true] at h
      split at h
      ·rename_i t ht
       simp only [Option.some.injEq] at h
       subst h
       exact ⟨.head _,ht⟩
      ·have:=ZhI (l:=r) h
       exact ⟨.tail _ this.1,this.2⟩
theorem ZeS {f:FuncId} {es:List EV}:∀ {l:List (FuncId × Zd)} {p:ZqK},Ziq f es l=some p→(f,p.s)∈l∧Xi.un p.s.args es=some p.t
  | [],p,h=>by simp [Ziq] at h
  | (g,s)::r,p,h=>by
    simp only [Ziq] at h
    cases hb:Nat.beq f g with
    | false =>
      rw [hb] at h
      have:=ZeS (l:=r) h
      exact ⟨.tail _ this.1,this.2⟩
    | true =>
      rw [hb] at h
      have he:=Nat.eq_of_beq_eq_true hb
      subst he
      simp only [cond_true] at h
      split at h
      ·rename_i t ht
       simp only [Option.some.injEq] at h
       subst h
       exact ⟨.head _,ht⟩
      ·have:=ZeS (l:=r) h
       exact ⟨.tail _ this.1,this.2⟩
theorem Zf2 {f:FuncId} {es:List EV}:∀ {l:List (FuncId × Zd)} {p:ZjQ},Zip f es l=some p→(f,(⟨p.a0::p.rest,p.res,p.sem⟩:Zd))∈l∧Xi.un p.rest es=some p.t
  | [],p,h=>by simp [Zip] at h
  | (g,⟨a0::rest,res,sem⟩)::r,p,h=>by
    simp only [Zip] at h
    cases hb:Nat.beq f g with
    | false =>
      rw [hb] at h
      have:=Zf2 (l:=r) h
      exact ⟨.tail _ this.1,this.2⟩
    | true =>
      rw [hb] at h
      have he:=Nat.eq_of_beq_eq_true hb
      subst he
      simp only [cond_true] at h
      split at h
      ·rename_i t ht
       simp only [Option.some.injEq] at h
       subst h
       exact ⟨.head _,ht⟩
      ·have:=Zf2 (l:=r) h
       exact ⟨.tail _ this.1,this.2⟩
  | (g,⟨[],res,sem⟩)::r,p,h=>by
    simp only [Zip] at h
    have:=Zf2 (l:=r) h
    exact ⟨.tail _ this.1,this.2⟩
theorem Zkw {calls:List (FuncId × Zd)} {Kp:Value→Zc→Prop} {name:String} {v:Value} {es:List EV} {h:Zc} {K:EV→Zc→Prop}:∀ {l:List (String × TypeId × FuncId)},Zsi calls Kp name v es h K l →
    ∃ (t:TypeId) (f:FuncId) (p:ZjQ) (x:p.a0.D),(name,t,f)∈l∧v = .iface t (p.a0.ev x).v∧Zip f es calls=some p∧p.sem (x,p.t) (fun rr h'=>K (Zde (Xi.evs p.res rr)) h') Kp h
  | [],hk=>hk.elim
  | (n,t,f)::r,hk=>by
    have tail:Zsi calls Kp name v es h K r→∃ (t':TypeId) (f':FuncId) (p:ZjQ) (x:p.a0.D),(name,t',f')∈(n,t,f)::r∧v = .iface t' (p.a0.ev x).v∧Zip f' es calls=some p∧p.sem (x,p.t) (fun rr h'=>K (Zde (Xi.evs p.res rr)) h') Kp h:=fun h9=>by
      obtain ⟨t',f',p,x,h1,h2,h3,h4⟩:=Zkw h9
      exact ⟨t',f',p,x,.tail _ h1,h2,h3,h4⟩
    simp only [Zsi] at hk
    cases hb:n ==name with
    | false=>rw [hb] at hk;exact tail hk
    | true =>
      rw [hb] at hk
      have he:n=name:=by simpa using hb
      subst he
      simp only [cond_true] at hk
      split at hk
      ·rename_i p hp
       rcases hk with ⟨x,hx,hk⟩ | hk
       ·exact ⟨t,f,p,x,.head _,hx,hp,hk⟩
       ·exact tail hk
      ·exact tail hk
theorem Zhj {calls:List (FuncId × Zd)} {Kp:Value→Zc→Prop} {v:Value} {es:List EV} {h:Zc} {K:EV→Zc→Prop}:∀ {l:List (FuncId × List Leaf)},fnP calls Kp v es h K l →
    ∃ (f:FuncId) (cs:List Value) (s:Zd) (t:Xi s.args),v = .func (.func f) #[] ⟨cs⟩∧Ziq f (Zp8 es cs) calls=some ⟨s,t⟩∧s.sem t (fun rr h'=>K (Zde (Xi.evs s.res rr)) h') Kp h
  | [],hk=>hk.elim
  | (f,[])::r,hk=>by
    simp only [fnP] at hk
    split at hk
    ·rename_i s t hp
     rcases hk with ⟨hv,hk⟩ | hk
     ·exact ⟨f,[],s,t,hv,by simpa [Zp8] using hp,hk⟩
     ·exact Zhj hk
    ·exact Zhj hk
  | (f,l::ls)::r,hk=>by
    simp only [fnP] at hk
    rcases hk with ⟨c,hv,hk⟩ | hk
    ·split at hk
     ·rename_i s t hp
      exact ⟨f,_,s,t,hv,hp,hk⟩
     ·exact hk.elim
    ·exact Zhj hk
theorem ZlF {f:FuncId}:∀ {l:List FuncId},Zsv f l=true→f∈l
  | [],h=>by simp [Zsv] at h
  | g::r,h=>by
    simp only [Zsv] at h
    cases hb:Nat.beq f g with
    | true=>rw [Nat.eq_of_beq_eq_true hb];exact .head _
    | false=>rw [hb] at h;exact .tail _ (ZlF h)
theorem Zt7 {l:Leaf} {v:Value} {x:l.D} (h:l.un v=some x):l.mk x=v:=by
  cases l<;>cases v<;>simp only [Leaf.un] at h<;>first
    | (split at h
       ·simp only [Option.some.injEq] at h;subst h;rename_i hk;subst hk;rfl
       ·cases h)
    | (simp only [Option.some.injEq] at h;subst h;rfl)
    | cases h
theorem Zn5:∀ {ls:List Leaf} {vs:List Value} {t:Tup ls},Tup.un ls vs=some t→Tup.vals ls t=vs
  | [],[],t,_=>rfl
  | [],_::_,t,h=>by simp [Tup.un] at h
  | _::_,[],t,h=>by simp [Tup.un] at h
  | l::ls,v::vs,t,h=>by
    simp only [Tup.un] at h
    split at h
    ·rename_i x t' h1 h2
     simp only [Option.some.injEq] at h
     subst h
     simp only [Tup.vals,Zt7 h1,Zn5 h2]
    ·cases h
theorem Zp1 {f:FuncId} {e:EV} {x:Unit} (h:fnU f e=some x):(EV.val (.func (.func f) #[] #[])).v=e.v:=by
  unfold fnU at h
  split at h
  ·rename_i g
   cases hb:Nat.beq f g with
   | false=>rw [hb] at h;cases h
   | true=>rw [Nat.eq_of_beq_eq_true hb]
  ·cases h
theorem Zo0 {f:FuncId} {ls:List Leaf} {e:EV} {x:Tup ls} (h:Zzp f ls e=some x):(EV.val (.func (.func f) #[] ⟨Tup.vals ls x⟩)).v=e.v:=by
  unfold Zzp at h
  split at h
  ·rename_i g cs
   cases hb:Nat.beq f g with
   | false=>rw [hb] at h;cases h
   | true =>
     rw [hb] at h
     rw [Nat.eq_of_beq_eq_true hb,Zn5 (ls:=ls) (vs:=cs) h]
  ·cases h
theorem ZpB {e:EV} {l:Nat} (h:ylU e=some l):(EV.val (.func (.yield l) #[] #[])).v=e.v:=by
  unfold ylU at h
  split at h
  ·simp only [Option.some.injEq] at h;subst h;rfl
  ·cases h
theorem Zzc {v:VT} {e:EV} {x:v.D} (h:v.un e=some x):(v.ev x).v=e.v:=by
  cases v with
  | one l=>exact Zt7 (v:=e.v) h
  | agg ls =>
    cases e with
    | val u =>
      cases u with
      | agg cs =>
        have:=Zn5 (ls:=ls) (vs:=cs.toList) h
        show Value.agg (Tup.vals ls x).toArray = .agg cs
        rw [this]
      | _=>simp [VT.un] at h
    | lit b=>simp [VT.un] at h
    | adr b o=>simp [VT.un] at h
    | itr t b=>simp [VT.un] at h
    | more k v=>simp [VT.un] at h
    | over=>simp [VT.un] at h
  | fn f=>exact Zp1 h
  | clo f ls=>exact Zo0 h
  | yl=>exact ZpB h
theorem Zee:∀ {vs:List VT} {es:List EV} {t:Xi vs},Xi.un vs es=some t→(Xi.evs vs t).map EV.v=es.map EV.v
  | [],[],t,_=>rfl
  | [],_::_,t,h=>by simp [Xi.un] at h
  | _::_,[],t,h=>by simp [Xi.un] at h
  | v::vs,e::es,t,h=>by
    simp only [Xi.un] at h
    split at h
    ·rename_i x t' h1 h2
     simp only [Option.some.injEq] at h
     subst h
     simp only [Xi.evs,List.map_cons,Zzc h1,Zee h2]
    ·cases h
theorem Zot {P:Program} {ρ:Operand→Value} {o:Oper} {w w':World} {n:Next} (hr:(execOp ρ o).run P w = .ok n w') (hn:∀ d,n≠ .defer d):∀ c,o.op≠ .defer c:=by
  intro c hc
  unfold execOp at hr
  rw [hc] at hr
  simp only [Sem.run_bind] at hr
  cases h:(resolve ρ c o.type).run P w with
  | ok d w1 =>
    rw [h] at hr
    simp only [Result.andThen_ok,Sem.run_pure] at hr
    cases hr
    exact hn _ rfl
  | halt x w1 =>
    rw [h] at hr
    cases hr
theorem ZfV {P:Program} {r:Option Nat} {ρ:Operand→Value} {o:Oper} {w w':World} {n:Next} (hr:(execOp ρ o).run P w = .ok n w') (hn:∀ d,n≠ .defer d):(o.semAt r ρ).run P w = .ok n w':=by
  rw [Oper.semAt_eq _ _ _ (Zot hr hn)]
  exact hr
theorem Zqt {P:Program} {r:Option Nat} {o:Oper} {a:Act} {w w':World} {v:Value} {next:Act→World→Prop} {Q:Exit→Act→World→Prop}
    (hr:(execOp a.eval o).run P w = .ok (.value v) w') (hn:next (a.put o.dst v) w'):o.wpIn (fen r) 0 P a w next Q:=by
  refine ⟨fun _ _=>trivial,?_⟩
  rw [show (fen r).round=r from rfl,ZfV hr (fun _ h=>by cases h)]
  exact hn
theorem Zls {P:Program} {r:Option Nat} {o:Oper} {a:Act} {w w':World} {next:Act→World→Prop} {Q:Exit→Act→World→Prop}
    (hr:(execOp a.eval o).run P w = .ok .skip w') (hn:next (a.put o.dst undef) w'):o.wpIn (fen r) 0 P a w next Q:=by
  refine ⟨fun _ _=>trivial,?_⟩
  rw [show (fen r).round=r from rfl,ZfV hr (fun _ h=>by cases h)]
  exact hn
theorem Zjg {P:Program} {r:Option Nat} {o:Oper} {a:Act} {w:World} {f:FuncId} {args:Array Value} {next:Act→World→Prop} {Q:Exit→Act→World→Prop}
    (hr:(execOp a.eval o).run P w = .ok (.enter f args) w) (hc:Calls P f args w fun
      | .returned v,w''=>next (a.put o.dst v) w''
      | .panicked chain,w''=>Q (.panic chain) a w''
      | .outgrown,_=>LetsOut Q):o.wpIn (fen r) 0 P a w next Q:=by
  refine ⟨fun _ _=>trivial,?_⟩
  rw [show (fen r).round=r from rfl,ZfV hr (fun _ h=>by cases h)]
  exact ⟨fun h=>(by cases h),Zev.2 hc⟩
theorem ZpC {P:Program} {r:Option Nat} {o:Oper} {a:Act} {w:World} {l:Nat} {f:FuncId} {tmps:Array Value} {assign body:Code} {next:Act→World→Prop} {Q:Exit→Act→World→Prop}
    (hr:(execOp a.eval o).run P w = .ok (.round l f tmps assign body) w) {k:Bool→World→Prop} (hc:RoundIn (fen none) 0 P l f tmps assign body w fun e w'=>∃ b,e = .returned (.bool b)∧k b w')
    (hn:∀ b w',k b w'→next (a.put o.dst (.bool b)) w'):o.wpIn (fen r) 0 P a w next Q:=by
  refine ⟨fun _ _=>trivial,?_⟩
  rw [show (fen r).round=r from rfl,ZfV hr (fun _ h=>by cases h)]
  refine ⟨fun h=>(by cases h),?_⟩
  have hc':RoundIn (fen r) (0 - 1) P l f tmps assign body w fun e w'=>∃ b,e = .returned (.bool b)∧k b w':=hc
  refine hc'.mono ?_
  rintro e w' ⟨b,rfl,hb⟩
  exact hn _ _ hb
theorem ZpD {P:Program} {r:Option Nat} {o:Oper} {a:Act} {w:World} {v:Value} {next:Act→World→Prop} {Q:Exit→Act→World→Prop}
    (hd:∀ c,o.op≠ .defer c) (hr:(execOp a.eval o).run P w = .halt (.panic v) w) (hq:Q (.panic [{ v,recovered:=false }]) a w):o.wpIn (fen r) 0 P a w next Q:=by
  refine ⟨fun _ _=>trivial,?_⟩
  rw [show (fen r).round=r from rfl,Oper.semAt_eq _ _ _ hd,hr]
  exact hq
theorem Zof {P:Program} {w w':World} {s:Sem Value} {v:Value} (h:s.run P w = .ok v w') :
    (do pure (.value (← s)):Sem Next).run P w = .ok (.value v) w':=by
  simp [h]
theorem Zuf {P:Program} {w w':World} {s:Sem Unit} (h:s.run P w = .ok () w') :
    (do s;pure .skip:Sem Next).run P w = .ok .skip w':=by
  simp [h]
theorem Zqd {P:Program} {op:BinOp} {t:TypeId} {x y:EV} {K:EV→Prop} (hk:ZqJ op x y K):∃ v,(∀ w,(binOp op t x.v y.v).run P w = .ok v.v w)∧K v:=by
  unfold ZqJ at hk
  split at hk
  ·rename_i k a k' b
   cases op<;>simp only at hk
   case shl =>
     obtain ⟨h0,hk⟩:=hk
     refine ⟨_,fun w=>?_,hk⟩
     simp only [EV.v,binOp,Op.shift,if_neg (Int.not_lt.2 h0)]
     rfl
   case shr =>
     obtain ⟨h0,hk⟩:=hk
     refine ⟨_,fun w=>?_,hk⟩
     simp only [EV.v,binOp,Op.shift,if_neg (Int.not_lt.2 h0)]
     rfl
   all_goals
     rcases Decidable.em (k=k') with he | he
     case inr=>rw [if_neg he] at hk;exact hk.elim
     subst he
     rw [if_pos rfl] at hk
     first
     | exact hk.elim
     | (obtain ⟨h0,hk⟩:=(show ZP _ _ from hk)
        refine ⟨_,fun w=>?_,hk⟩
        simp only [EV.v,binOp,ne_eq,not_true,if_false,Op.intDiv,if_neg h0]
        rfl)
     | (refine ⟨_,fun w=>?_,hk⟩;simp only [EV.v,binOp,ne_eq,not_true,if_false];rfl)
  ·rename_i a b
   cases op<;>simp only at hk
   case add =>
     obtain ⟨h0,hk⟩:=hk
     refine ⟨_,fun w=>?_,hk⟩
     have:¬ (((a.size+b.size:Nat):Int)>IntKind.i64.max):=by
       have:IntKind.i64.max=9223372036854775807:=by decide
       rw [this];omega
     simp only [EV.v,binOp,Op.stringOp,if_neg this]
     rfl
   all_goals first
     | exact hk.elim
     | (refine ⟨_,fun w=>?_,hk⟩;rfl)
  ·exact hk.elim
section
variable {P:Program} {t:TypeId} (w:World)
theorem Zgc {e:TypeId} (hu:P.underlying t=some (.pointer e)) (p:Option Addr):(Op.equal t (.pointer p) (.pointer none)).run P w = .ok p.isNone w:=by
  unfold Op.equal Op.maxDepth
  rw [show (10000:Nat)=9999+1 from rfl]
  unfold Op.equalIn
  simp only [Sem.run_bind,Zi P w t hu,Result.andThen_ok]
  cases p<;>rfl
theorem Zh2 {e:TypeId} (hu:P.underlying t=some (.slice e)) (p:Option Addr) (n m n' m':Nat):(Op.equal t (.slice p n m) (.slice none n' m')).run P w = .ok p.isNone w:=by
  unfold Op.equal Op.maxDepth
  rw [show (10000:Nat)=9999+1 from rfl]
  unfold Op.equalIn
  simp only [Sem.run_bind,Zi P w t hu,Result.andThen_ok]
  cases p<;>rfl
theorem ZjI {k e:TypeId} (hu:P.underlying t=some (.map k e)) (p:Option Nat):(Op.equal t (.map p) (.map none)).run P w = .ok p.isNone w:=by
  unfold Op.equal Op.maxDepth
  rw [show (10000:Nat)=9999+1 from rfl]
  unfold Op.equalIn
  simp only [Sem.run_bind,Zi P w t hu,Result.andThen_ok]
  cases p<;>rfl
theorem Zms (hu:P.underlying t=some .bool) (a b:Bool):(Op.equal t (.bool a) (.bool b)).run P w = .ok (a ==b) w:=by
  unfold Op.equal Op.maxDepth
  rw [show (10000:Nat)=9999+1 from rfl]
  unfold Op.equalIn
  simp only [Sem.run_bind,Zi P w t hu,Result.andThen_ok]
  rfl
end
theorem Zsg {P:Program} {t:TypeId} {neg:Bool} {x y:EV} {K:EV→Prop} (hk:eqP (P.underlying t) neg x y K) :
    ∃ v,(∀ w,(binOp (bif neg then .neq else .eql) t x.v y.v).run P w = .ok v.v w)∧K v:=by
  unfold eqP at hk
  split at hk
  ·rename_i e b o hu
   refine ⟨_,fun w=>?_,hk⟩
   have:=Zgc w hu (some ⟨b,o,none⟩)
   cases neg<;>simp only [cond_true,cond_false,EV.v,binOp,Sem.run_bind,this,Result.andThen_ok]<;>rfl
  ·rename_i e p hu
   refine ⟨_,fun w=>?_,hk⟩
   have:=Zgc w hu p
   cases neg<;>simp only [cond_true,cond_false,EV.v,binOp,Sem.run_bind,this,Result.andThen_ok]<;>cases p<;>rfl
  ·rename_i e p n m n' m' hu
   refine ⟨_,fun w=>?_,hk⟩
   have:=Zh2 w hu p n m n' m'
   cases neg<;>simp only [cond_true,cond_false,EV.v,binOp,Sem.run_bind,this,Result.andThen_ok]<;>cases p<;>rfl
  ·rename_i k e p hu
   refine ⟨_,fun w=>?_,hk⟩
   have:=ZjI w hu p
   cases neg<;>simp only [cond_true,cond_false,EV.v,binOp,Sem.run_bind,this,Result.andThen_ok]<;>cases p<;>rfl
  ·rename_i hu
   split at hk
   ·rename_i a b hx hy
    refine ⟨_,fun w=>?_,hk⟩
    have:=Zms w hu a b
    rw [hx,hy]
    cases neg<;>simp only [cond_true,cond_false,EV.v,binOp,Sem.run_bind,this,Result.andThen_ok]<;>rfl
   ·exact hk.elim
  ·exact hk.elim
theorem Zks (off:Nat):∀ (l:List Value) (k:Nat) (cs:Array Value),off+k+l.length≤cs.size →
    ((l.zipIdx k).foldl (fun cs x=>cs.setIfInBounds (off+x.2) x.1) cs).toList=cs.toList.take (off+k)++l++cs.toList.drop (off+k+l.length)
  | [],k,cs,h=>by simp
  | v::l,k,cs,h=>by
    simp only [List.zipIdx_cons,List.foldl_cons,List.length_cons] at h ⊢
    rw [Zks off l (k+1) _ (by simp;omega)]
    have hlt:off+k<cs.toList.length:=by simp;omega
    simp only [Array.toList_setIfInBounds]
    rw [show off+(k+1)=off+k+1 from by omega,List.take_succ_eq_append_getElem (by simp;omega),List.take_set_of_le (by omega),List.drop_set_of_lt (by omega)]
    simp
    omega
def Zsp (place:Nat→Option (Nat × Nat)) (n:Nat):List (Nat × Value)→List (Nat × List Value)→Prop
  | [],[]=>True
  | p::ps,q::l=>place p.1=some (q.1,q.2.length)∧p.2.cells.toList=q.2∧q.1+q.2.length≤n∧Zsp place n ps l
  | _,_=>False
theorem ZdE (place:Nat→Option (Nat × Nat)) (n:Nat):∀ (ps:List (Nat × Value)) (l:List (Nat × List Value)) (cs:Array Value),
    cs.size=n→Zsp place n ps l→Instr.fill place cs ps=some (Zdf cs.toList l).toArray
  | [],[],cs,_,_=>by simp [Instr.fill,Zdf]
  | [],_::_,cs,_,h=>h.elim
  | _::_,[],cs,_,h=>h.elim
  | (i,v)::ps,(o,vs)::l,cs,hn,h=>by
    obtain ⟨hp,hv,hle,h2⟩:=h
    simp only at hp hv hle
    have hlen:v.cells.size=vs.length:=by rw [← hv];simp
    have hfold:(v.cells.zipIdx.foldl (fun cs x=>match x with | (c,j)=>cs.setIfInBounds (o+j) c) cs).toList=cs.toList.take o++vs++cs.toList.drop (o+vs.length):=by
      rw [← Array.foldl_toList,Array.toList_zipIdx,hv]
      have:=Zks o vs 0 cs (by omega)
      simpa using this
    have hsz:(v.cells.zipIdx.foldl (fun cs x=>match x with | (c,j)=>cs.setIfInBounds (o+j) c) cs).size=n:=by
      rw [← Array.length_toList,hfold]
      simp
      omega
    have ih:=ZdE place n ps l _ hsz h2
    rw [hfold] at ih
    have hno:¬ (o+vs.length>cs.size):=by omega
    simp only [Instr.fill,hp,hlen,ne_eq,not_true,decide_false,Bool.false_or,hno,Zdf]
    exact ih
theorem Zh6 (v:EV):v.v.cells.toList=Zge v:=by
  cases v with
  | val v=>cases v<;>rfl
  | lit b=>rfl
  | adr b o=>rfl
  | itr t b=>rfl
  | more k v=>rfl
  | over=>rfl
theorem ZjM (v:EV):v.v.cells=(Zge v).toArray:=by
  rw [← Zh6]
section
variable {c:Cfg} {e:Env} {a:Act} {n:Nat}
theorem Zoq {u:Value} (h:ZA u=true):u.cells.toList=[u]:=by
  cases u<;>first | rfl | cases h
theorem Zo1 {d:Option TypeDesc} {v:EV} (h:ZpX d=true→ZA v.v=true):v.v.cells.toList=Zh7 d v:=by
  unfold Zh7
  cases hb:ZpX d with
  | true=>exact Zoq (h hb)
  | false=>exact Zh6 v
theorem ZiK:∀ {l:List Value} {K:Prop},Zr0 l K→(∀ u,u∈l→ZA u=true)∧K
  | [],_,h=>⟨fun _ h9=>(by cases h9),h⟩
  | v::vs,K,h=>by
    obtain ⟨h1,h2⟩:=ZiK h.2
    refine ⟨fun u hu=>?_,h2⟩
    rcases List.mem_cons.1 hu with rfl | hu
    ·exact h.1
    ·exact h1 u hu
theorem ZgZ (P:Program) (fs:List Field) (hag:Agr n e a) (k:Nat):∀ {ps:List (Nat × Operand)} {l:List (Nat × List Value)},ZhH P fs e k ps=some l→(∀ u,u∈Zj6 P fs e ps→ZA u=true) →
    Zsp (fun i=>(fs[i]?).map fun f=>(f.offset,P.cellsOf f.type)) k (ps.map fun x=>(x.1,a.eval x.2)) l
  | [],l,h,_=>by simp only [ZhH,Option.some.injEq] at h;subst h;exact trivial
  | (i,x)::r,l,h,hone=>by
    simp only [ZhH] at h
    split at h
    ·rename_i f v l' hf hv hl
     have hone1:ZpX (P.underlying f.type)=true→ZA v.v=true:=fun hb=>hone _ (by unfold Zj6;rw [hf,hv];simp [hb])
     have hone2:∀ u,u∈Zj6 P fs e r→ZA u=true:=fun u hu=>hone u (by
       unfold Zj6
       rw [hf,hv]
       dsimp only
       cases ZpX (P.underlying f.type) with
       | true=>exact List.mem_cons_of_mem _ hu
       | false=>exact hu)
     cases h1:Nat.beq (Zh7 (P.underlying f.type) v).length (P.cellsOf f.type) with
     | false=>rw [h1] at h;cases h
     | true =>
       rw [h1] at h
       simp only [cond_true] at h
       cases h2:Nat.ble (f.offset+(Zh7 (P.underlying f.type) v).length) k with
       | false=>rw [h2] at h;cases h
       | true =>
         rw [h2] at h
         simp only [cond_true,Option.some.injEq] at h
         subst h
         refine ⟨?_,?_,Nat.le_of_ble_eq_true h2,ZgZ P fs hag k hl hone2⟩
         ·simp [hf,Nat.eq_of_beq_eq_true h1]
         ·simp only [hag.ev hv,Zo1 hone1]
    ·cases h
theorem ZeR (size:Nat) (hag:Agr n e a) (k:Nat):∀ {ps:List (Nat × Operand)} {l:List (Nat × List Value)},ZgA size e k ps=some l →
    Zsp (fun i=>some (i*size,size)) k (ps.map fun x=>(x.1,a.eval x.2)) l
  | [],l,h=>by simp only [ZgA,Option.some.injEq] at h;subst h;exact trivial
  | (i,x)::r,l,h=>by
    simp only [ZgA] at h
    split at h
    ·rename_i v l' hv hl
     cases h1:Nat.beq (Zge v).length size with
     | false=>rw [h1] at h;cases h
     | true =>
       rw [h1] at h
       simp only [cond_true] at h
       cases h2:Nat.ble (i*size+(Zge v).length) k with
       | false=>rw [h2] at h;cases h
       | true =>
         rw [h2] at h
         simp only [cond_true,Option.some.injEq] at h
         subst h
         refine ⟨?_,?_,Nat.le_of_ble_eq_true h2,ZeR size hag k hl⟩
         ·simp [Nat.eq_of_beq_eq_true h1]
         ·simp only [hag.ev hv,Zh6]
    ·cases h
theorem Zfs {x:EV} {K:Nat→Nat→Prop} (h:atP x K):∃ b o,x.v = .pointer (some ⟨b,o,none⟩)∧K b o:=by
  unfold atP at h
  split at h
  ·exact ⟨_,_,rfl,h⟩
  ·obtain ⟨b,o,rfl,h⟩:=h;exact ⟨b,o,rfl,h⟩
  ·exact h.elim
theorem Zby {P:Program} {t:TypeId} {zs:List Value} (h:Zg9 P t=some zs):∃ i v,P.info? t=some i∧i.zero=some v∧v.cells.toList=zs:=by
  unfold Zg9 at h
  split at h
  ·rename_i i hi
   split at h
   ·rename_i v hv
    simp only [Option.some.injEq] at h
    exact ⟨i,v,hi,hv,h⟩
   ·cases h
  ·cases h
theorem Zdc {P:Program} {t:TypeId} {s b:Nat} (h:ZkR P t=some (s,b)):∃ i,P.info? t=some i∧i.size=s∧i.bytes=b:=by
  unfold ZkR at h
  split at h
  ·rename_i i hi
   simp only [Option.some.injEq,Prod.mk.injEq] at h
   exact ⟨i,hi,h.1,h.2⟩
  ·cases h
theorem ZpH {P:Program} {t:TypeId} {b o:Nat} {v:EV} {K:Zc→Prop} {w:World} (h:stT P t w.heap b o v K) :
    ∃ h',(storeVar t ⟨b,o,none⟩ v.v).run P w = .ok () { w with heap:=h' }∧K h':=by
  have key:∀ (i:TypeInfo) (vs:List Value),P.info? t=some i→i.size=vs.length→v.v.cells=vs.toArray→Zc.free w.heap b o vs.length→vs.all ZA=true →
      (storeVar t ⟨b,o,none⟩ v.v).run P w = .ok () { w with heap:=Zc.puts w.heap b o vs }:=by
    intro i vs hi hs hc hf ha
    unfold storeVar
    simp only [Sem.run_bind,Y4 P w t hi,Result.andThen_ok,hc,hs,List.size_toArray,ne_eq,not_true,if_false]
    have:=Zcx P b o vs 0 w (by simpa using hf) ha
    simpa using this
  have one:ZaC (P.underlying t)=false→Nat.beq (P.cellsOf t) 1=true→(∀ cs,v.v≠ .agg cs)→st w.heap b o v.v K →
      ∃ h',(storeVar t ⟨b,o,none⟩ v.v).run P w = .ok () { w with heap:=h' }∧K h':=by
    intro hA h1 hne hst
    obtain ⟨⟨u,hu⟩,hf,hone,hk⟩:=hst
    have hsz:=Nat.eq_of_beq_eq_true h1
    cases hi:P.info? t with
    | none=>unfold Program.cellsOf at hsz;simp [hi] at hsz
    | some i =>
      rw [ZaF P hi] at hsz
      refine ⟨_,key i [v.v] hi (by simp [hsz]) ?_ ⟨⟨⟨u,hu⟩,hf⟩,trivial⟩ (by simp [hone]),hk⟩
      cases hv:v.v<;>first | rfl | exact absurd hv (hne _)
  unfold stT at h
  split at h
  ·rename_i cs
   cases hA:ZaC (P.underlying t) with
   | false=>rw [hA] at h;exact h.elim
   | true =>
     rw [hA] at h
     simp only [cond_true] at h
     cases h1:Nat.beq cs.toList.length (P.cellsOf t) with
     | false=>rw [h1] at h;exact h.elim
     | true =>
       rw [h1] at h
       obtain ⟨hf,ha,hk⟩:=h
       have hsz:=Nat.eq_of_beq_eq_true h1
       cases hi:P.info? t with
       | none =>
         unfold Program.underlying at hA
         simp [hi,ZaC] at hA
       | some i =>
         rw [ZaF P hi] at hsz
         exact ⟨_,key i cs.toList hi hsz.symm rfl hf ha,hk⟩
  ·rename_i v' hne
   cases hA:ZaC (P.underlying t) with
   | true=>rw [hA] at h;exact h.elim
   | false =>
     rw [hA] at h
     simp only [cond_false] at h
     cases h1:Nat.beq (P.cellsOf t) 1 with
     | false=>rw [h1] at h;exact h.elim
     | true =>
       rw [h1] at h
       refine one hA h1 (fun cs hcs=>?_) h
       cases v with
       | val u=>simp only [EV.v] at hcs;subst hcs;exact hne cs rfl
       | lit b=>cases hcs
       | adr b o=>cases hcs
       | itr t b=>cases hcs
       | more k v=>cases hcs
       | over=>cases hcs
theorem Zea (zs:List Value) (n:Nat):(X6 zs n).length=n*zs.length:=by
  simp [X6]
theorem Zh1 (zs:List Value):∀ (n i:Nat),i<n*zs.length→(X6 zs n)[i]?=zs[i % zs.length]?
  | 0,i,h=>by omega
  | n+1,i,h=>by
    unfold X6
    rw [List.replicate_succ,List.flatten_cons]
    rcases Nat.lt_or_ge i zs.length with hi | hi
    ·rw [List.getElem?_append_left hi,Nat.mod_eq_of_lt hi]
    ·rw [List.getElem?_append_right hi]
     have:=Zh1 zs n (i - zs.length) (by rw [Nat.succ_mul] at h;omega)
     unfold X6 at this
     rw [this,Nat.mod_eq_sub_mod hi]
theorem Zfz (zs:Array Value) (n m:Nat) (h:m=n*zs.size):((Array.range m).map (zs[· % zs.size]!)).toList=X6 zs.toList n:=by
  subst h
  apply List.ext_getElem?
  intro i
  simp only [Array.toList_map,Array.toList_range,List.getElem?_map]
  rcases Nat.lt_or_ge i (n*zs.size) with hi | hi
  ·rw [Zh1 _ _ _ (by simpa using hi)]
   have hpos:0<zs.size:=by rcases Nat.eq_zero_or_pos zs.size with h0 | h0;· rw [h0] at hi;omega
                           ·exact h0
   have hm:i % zs.size<zs.size:=Nat.mod_lt _ hpos
   simp [hi,hm]
  ·rw [List.getElem?_eq_none (by simpa using hi)]
   rw [List.getElem?_eq_none (by rw [Zea];simpa using hi)]
   rfl
end
theorem Zbz (P:Program) (w:World) (t:TypeId) (cs:Array Value):(newRow t cs).run P w = .ok ⟨w.heap.size,0,none⟩ { w with heap:=w.heap.push (.cells cs t)}:=by
  unfold newRow
  simp
theorem Zog (P:Program) (w:World) (t:TypeId) (v:Value) {i:TypeInfo} (hi:P.info? t=some i) (hv:i.zero=some v) :
    (Instr.alloc t true (.tuple #[])).run P w = .ok (.pointer (some ⟨w.heap.size,0,none⟩)) { w with heap:=w.heap.push (.cells v.cells t)}:=by
  unfold Instr.alloc newVar
  simp [Xr P w t hi hv,Zbz]
theorem ZrO (P:Program) (w:World) (t:TypeId) (v:Value) :
    (Instr.box t v).run P w = .ok (.pointer (some ⟨w.heap.size,0,none⟩)) { w with heap:=w.heap.push (.cells v.cells t)}:=by
  unfold Instr.box newVar
  simp [Zbz]
theorem ZhP (P:Program) (w:World):∀ (l:List Field),(∀ f∈l,∃ i,P.info? f.type=some i) →
    (l.mapM fun f=>(do pure (f.offset,← sizeOf f.type):Sem (Nat × Nat))).run P w = .ok (l.map fun f=>(f.offset,P.cellsOf f.type)) w
  | [],_=>by simp
  | f::l,h=>by
    obtain ⟨i,hi⟩:=h f (by simp)
    have ih:=ZhP P w l (fun g hg=>h g (by simp [hg]))
    rw [List.mapM_cons]
    simp only [Sem.run_bind,Y4 P w f.type hi,Result.andThen_ok,Sem.run_pure,ih,List.map_cons,ZaF P hi]
theorem Zhc (P:Program) (w:World) (t:TypeId) {fs:Array Field} {zs:List Value} {ps:List (Nat × Value)} {l:List (Nat × List Value)}
    (hu:P.underlying t=some (.struct fs)) (hz:Zg9 P t=some zs) (hall:(fs.toList.all fun f=>(P.info? f.type).isSome)=true)
    (hf:Zsp (fun i=>(fs.toList[i]?).map fun f=>(f.offset,P.cellsOf f.type)) zs.length ps l) :
    (Instr.build t ps.toArray).run P w = .ok (.agg (Zdf zs l).toArray) w:=by
  obtain ⟨i,v,hi,hv,rfl⟩:=Zby hz
  unfold Instr.build
  simp only [Sem.run_bind,Xr P w t hi hv,Result.andThen_ok,Zi P w t hu]
  rw [Array.mapM_eq_mapM_toList]
  simp only [Sem.run_map,ZhP P w fs.toList (fun f hf=>by
    have:=List.all_eq_true.1 hall f hf
    exact Option.isSome_iff_exists.1 this),Result.andThen_ok]
  have:=ZdE (fun (x:Nat)=>((fs.toList.map fun (f:Field)=>(f.offset,P.cellsOf f.type)).toArray)[x]?) v.cells.toList.length ps l v.cells (by simp) (by
    have e:(fun (x:Nat)=>((fs.toList.map fun (f:Field)=>(f.offset,P.cellsOf f.type)).toArray)[x]?)=(fun (i:Nat)=>(fs.toList[i]?).map fun (f:Field)=>(f.offset,P.cellsOf f.type)):=by
      funext x
      simp
    rw [e];exact hf)
  simp only [this]
  rfl
theorem ZhA (P:Program) (w:World) (t:TypeId) {n:Nat} {el:TypeId} {zs:List Value} {ps:List (Nat × Value)} {l:List (Nat × List Value)} {j:TypeInfo}
    (hu:P.underlying t=some (.array n el)) (hz:Zg9 P t=some zs) (hj:P.info? el=some j)
    (hf:Zsp (fun i=>some (i*P.cellsOf el,P.cellsOf el)) zs.length ps l) :
    (Instr.build t ps.toArray).run P w = .ok (.agg (Zdf zs l).toArray) w:=by
  obtain ⟨i,v,hi,hv,rfl⟩:=Zby hz
  unfold Instr.build
  simp only [Sem.run_bind,Xr P w t hi hv,Result.andThen_ok,Zi P w t hu,Y4 P w el hj]
  have:=ZdE (fun i=>some (i*j.size,j.size)) v.cells.toList.length ps l v.cells (by simp) (by rw [ZaF P hj] at hf;exact hf)
  simp only [this]
  rfl
theorem Zio (P:Program) (w:World) (t:TypeId) {n:Nat} {el:TypeId} {zs:List Value} {ps:List (Nat × Value)} {l:List (Nat × List Value)}
    (hu:P.underlying t=some (.slice el)) (hz:Zg9 P el=some zs) (hs:zs.length=P.cellsOf el) (hle:n*P.cellsOf el≤Zgf)
    (hf:Zsp (fun i=>some (i*P.cellsOf el,P.cellsOf el)) (n*P.cellsOf el) ps l) :
    (Instr.buildSlice t n ps.toArray).run P w = .ok (.slice (some ⟨w.heap.size,0,none⟩) n n) { w with heap:=w.heap.push (.cells (Zdf (X6 zs n) l).toArray el)}:=by
  obtain ⟨i,v,hi,hv,rfl⟩:=Zby hz
  have hsz:=ZaF P hi
  unfold Instr.buildSlice
  simp only [Sem.run_bind,Zi P w t hu,Result.andThen_ok,Y4 P w el hi]
  rw [hsz] at hs hle hf
  have h24:¬ (n*i.size>2 ^ 24):=by
    have:(2:Nat) ^ 24=Zgf:=by unfold Zgf;decide
    omega
  have hlen:v.cells.size=i.size:=by simpa using hs
  have fin:∀ z:Array Value,((Array.range (n*i.size)).map (fun x=>z[x % z.size]!)).toList=X6 v.cells.toList n →
      Instr.fill (fun j=>some (j*i.size,i.size)) ((Array.range (n*i.size)).map (fun x=>z[x % z.size]!)) ps=some (Zdf (X6 v.cells.toList n) l).toArray:=by
    intro z hz'
    have:=ZdE (fun j=>some (j*i.size,i.size)) (n*i.size) ps l ((Array.range (n*i.size)).map (fun x=>z[x % z.size]!)) (by simp) hf
    rw [hz'] at this
    exact this
  simp only [if_neg h24]
  by_cases h:n*i.size=0
  ·rw [if_pos h]
   have hz0:X6 v.cells.toList n=[]:=List.eq_nil_of_length_eq_zero (by rw [Zea];simpa [hlen] using h)
   simp only [Sem.run_bind,Sem.run_pure,Result.andThen_ok]
   rw [fin #[] (by rw [hz0];simp [h])]
   simp only [Sem.run_bind,Zbz,Result.andThen_ok,Sem.run_pure]
  ·rw [if_neg h]
   simp only [Sem.run_bind,Xr P w el hi hv,Sem.run_pure,Result.andThen_ok]
   rw [fin v.cells (Zfz v.cells n _ (by rw [hlen]))]
   simp only [Sem.run_bind,Zbz,Result.andThen_ok,Sem.run_pure]
theorem ZiA {P:Program} {w:World} {t:TypeId} {b o:Nat} {v:Value} (h:(loadVar t ⟨b,o,none⟩).run P w = .ok v w) :
    (Instr.loadAt t (.pointer (some ⟨b,o,none⟩))).run P w = .ok v w:=by
  unfold Instr.loadAt Instr.sureAddr
  simp [h]
theorem ZkS {P:Program} {w w':World} {t:TypeId} {b o:Nat} {v:Value} (h:(storeVar t ⟨b,o,none⟩ v).run P w = .ok () w') :
    (Instr.storeAt t (.pointer (some ⟨b,o,none⟩)) v).run P w = .ok () w':=by
  unfold Instr.storeAt Instr.sureAddr
  simp [h]
theorem ZkV {P:Program} {w:World} {s:TypeId} {b o f:Nat} {fs:Array Field} {fd:Field} (hu:P.underlying s=some (.struct fs)) (hf:fs.toList[f]?=some fd)
    (hn:P.cellsOf fd.type≠0):(Instr.fieldAt s (.pointer (some ⟨b,o,none⟩)) f).run P w = .ok (.pointer (some ⟨b,o+fd.offset,none⟩)) w:=by
  unfold Instr.fieldAt Instr.sureAddr fieldPlace
  cases hi:P.info? fd.type with
  | none=>unfold Program.cellsOf at hn;simp [hi] at hn
  | some i =>
    have hf':fs[f]?=some fd:=by simpa using hf
    have h0:i.size≠0:=by rw [← ZaF P hi];exact hn
    simp only [Sem.run_bind,Zi P w s hu,Result.andThen_ok,hf',Sem.run_pure,Y4 P w _ hi,if_neg h0,Zif]
theorem Zgy {P:Program} {w:World} {t el:TypeId} {b o l m size:Nat} {k:IntKind} {i:Int} {inf:TypeInfo} (hu:P.underlying t=some (.slice el)) (hi:P.info? el=some inf) (hs:inf.size=size)
    (h0:0≤i) (h1:i<l):(Instr.indexAt t (.slice (some ⟨b,o,none⟩) l m) (.int k i)).run P w = .ok (.pointer (some ⟨b,o+i.toNat*size,none⟩)) w:=by
  unfold Instr.indexAt asIntOf
  simp only [Sem.run_bind,Sem.run_pure,Result.andThen_ok,Zi P w t hu]
  simp [h0,h1,Y4 P w el hi,hs,Zif]
theorem Zgz {P:Program} {w:World} {t el:TypeId} {b o n size:Nat} {k:IntKind} {i:Int} {inf:TypeInfo} (hu:P.underlying t=some (.array n el)) (hi:P.info? el=some inf) (hs:inf.size=size)
    (h0:0≤i) (h1:i<n):(Instr.indexAt t (.pointer (some ⟨b,o,none⟩)) (.int k i)).run P w = .ok (.pointer (some ⟨b,o+i.toNat*size,none⟩)) w:=by
  unfold Instr.indexAt asIntOf Instr.sureAddr
  simp only [Sem.run_bind,Sem.run_pure,Result.andThen_ok,Zi P w t hu]
  simp [h0,h1,Y4 P w el hi,hs,Zif]
theorem Zha {P:Program} {w:World} {t:TypeId} {s:ByteArray} {k:IntKind} {i:Int} {x:UInt8} (hu:P.underlying t=some .string) (h0:0≤i) (hx:s[i.toNat]?=some x) :
    (Instr.index t (.string s) (.int k i)).run P w = .ok (.int .u8 x.toNat) w:=by
  unfold Instr.index asIntOf
  simp only [Sem.run_bind,Sem.run_pure,Result.andThen_ok,Zi P w t hu,if_pos h0,hx]
theorem Zjt {P:Program} {w:World} {s:TypeId} {cs:Array Value} {f:Nat} {fs:Array Field} {fd:Field} {v:Value} {d:TypeDesc} (hu:P.underlying s=some (.struct fs)) (hf:fs.toList[f]?=some fd)
    (hd:P.underlying fd.type=some d) (ha:ZaC (some d)=false) (hv:cs.toList[fd.offset]?=some v):(Instr.field s (.agg cs) f).run P w = .ok v w:=by
  unfold Instr.field part asAgg
  have hf':fs[f]?=some fd:=by simpa using hf
  have hv':cs[fd.offset]?=some v:=by simpa using hv
  simp [Zi P w s hu,hf',ZcH P w _ hd,ha,hv']
theorem Zju {P:Program} {w:World} {s:TypeId} {cs:Array Value} {f:Nat} {fs:Array Field} {fd:Field} {d:TypeDesc} {inf:TypeInfo} (hu:P.underlying s=some (.struct fs)) (hf:fs.toList[f]?=some fd)
    (hd:P.underlying fd.type=some d) (ha:ZaC (some d)=true) (hi:P.info? fd.type=some inf) :
    (Instr.field s (.agg cs) f).run P w = .ok (.agg ((cs.toList.drop fd.offset).take inf.size).toArray) w:=by
  unfold Instr.field part asAgg
  have hf':fs[f]?=some fd:=by simpa using hf
  simp only [Sem.run_bind,Zi P w s hu,Result.andThen_ok,hf',Sem.run_pure,ZcH P w _ hd,ha,if_true,Y4 P w _ hi]
  congr 2
  apply Array.ext'
  simp [List.extract_eq_take_drop]
end Go.Fw
