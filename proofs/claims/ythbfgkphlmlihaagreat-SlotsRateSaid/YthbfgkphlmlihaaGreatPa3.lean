/- The reading of a function's code as a condition on memory: what each operation, region and statement asks and leaves. Definitions alone. -/
import Derived.Sort.QuietThIn
import Derived.OrdersHeld
import Derived.Laws.Sem
import Derived.Laws.World
import Derived.RangeFuncLeaves
import Derived.RangeFuncRecord
import Derived.Test.YthbfgkphlmlihaaGreatPa2
set_option linter.unusedVariables false
set_option linter.unusedSimpArgs false
namespace Go.Fw
open Go
inductive Leaf where
  | I (k:IntKind) | B | S | P | L | M | V
abbrev Leaf.D:Leaf→Type
  | .I _=>Int | .B=>Bool | .S=>ByteArray | .P=>Option Addr | .L=>Sl | .M=>Option Nat | .V=>Value
def Leaf.mk:(l:Leaf)→l.D→Value
  | .I k,n=> .int k n | .B,b=> .bool b | .S,s=> .string s | .P,p=> .pointer p | .L,s=> .slice s.ptr s.len s.cap | .M,m=> .map m | .V,v=>v
def Leaf.un:(l:Leaf)→Value→Option l.D
  | .I k,.int k' n=>if k'=k then some n else none
  | .B,.bool b=>some b
  | .S,.string s=>some s
  | .P,.pointer p=>some p
  | .L,.slice p l c=>some ⟨p,l,c⟩
  | .M,.map m=>some m
  | .V,v=>some v
  | _,_=>none
abbrev Tup:List Leaf→Type
  | []=>Unit
  | l::ls=>l.D × Tup ls
def Tup.vals:(ls:List Leaf)→Tup ls→List Value
  | [],_=>[]
  | l::ls,t=>l.mk t.1::Tup.vals ls t.2
def Tup.un:(ls:List Leaf)→List Value→Option (Tup ls)
  | [],[]=>some ()
  | l::ls,v::vs=>match l.un v,Tup.un ls vs with
    | some x,some t=>some (x,t)
    | _,_=>none
  | _,_=>none
inductive VT where
  | one (l:Leaf) | agg (ls:List Leaf) | fn (f:FuncId) | clo (f:FuncId) (ls:List Leaf) | yl
abbrev VT.D:VT→Type
  | .one l=>l.D
  | .agg ls=>Tup ls
  | .fn _=>Unit
  | .clo _ ls=>Tup ls
  | .yl=>Nat
abbrev Y4:List VT→Type
  | []=>Unit
  | v::vs=>v.D × Y4 vs
inductive EV where
  | val (v:Value) | lit (b:Bool) | adr (b o:Nat) | itr (t:TypeId) (b:Nat) | more (k v:Value) | over
def EV.v:EV→Value
  | .val v=>v
  | .lit b=> .bool b
  | .adr b o=> .pointer (some ⟨b,o,none⟩)
  | .itr _ b=> .pointer (some ⟨b,0,none⟩)
  | .more k v=> .tuple #[.bool true,k,v]
  | .over=> .tuple #[.bool false]
def VT.ev:(v:VT)→v.D→EV
  | .one l,x=> .val (l.mk x)
  | .agg ls,x=> .val (.agg (Tup.vals ls x).toArray)
  | .fn f,_=> .val (.func (.func f) ⟨[]⟩ ⟨[]⟩)
  | .clo f ls,x=> .val (.func (.func f) ⟨[]⟩ ⟨Tup.vals ls x⟩)
  | .yl,l=> .val (.func (.yield l) ⟨[]⟩ ⟨[]⟩)
def fnU (f:FuncId):EV→Option Unit
  | .val (.func (.func g) ⟨[]⟩ ⟨[]⟩)=>bif Nat.beq f g then some () else none
  | _=>none
def ZwM (f:FuncId) (ls:List Leaf):EV→Option (Tup ls)
  | .val (.func (.func g) ⟨[]⟩ ⟨cs⟩)=>bif Nat.beq f g then Tup.un ls cs else none
  | _=>none
def ylU:EV→Option Nat
  | .val (.func (.yield l) ⟨[]⟩ ⟨[]⟩)=>some l
  | _=>none
def VT.un:(v:VT)→EV→Option v.D
  | .one l,e=>l.un e.v
  | .agg ls,.val (.agg cs)=>Tup.un ls cs.toList
  | .agg _,_=>none
  | .fn f,e=>fnU f e
  | .clo f ls,e=>ZwM f ls e
  | .yl,e=>ylU e
def Y4.evs:(vs:List VT)→Y4 vs→List EV
  | [],_=>[]
  | v::vs,t=>v.ev t.1::Y4.evs vs t.2
def Y4.un:(vs:List VT)→List EV→Option (Y4 vs)
  | [],[]=>some ()
  | v::vs,e::es=>match v.un e,Y4.un vs es with
    | some x,some t=>some (x,t)
    | _,_=>none
  | _,_=>none
def ZcI:List EV→EV
  | [e]=>e
  | es=> .val (.tuple (es.map EV.v).toArray)
structure Zd where
  args:List VT
  res:List VT
  sem:Y4 args→(Y4 res→Zc→Prop)→(Value→Zc→Prop)→Zc→Prop
structure Zay where
  caps:List VT
  sem:Yld→Nat→Y4 caps→(Zc→Prop)→Zc→Prop
structure Env where
  f:Nat→Option EV
  mD:Option Nat
instance:CoeFun Env (fun _=>Nat→Option EV):=⟨Env.f⟩
def Env.set (e:Env) (d:Nat) (v:EV):Env:=⟨fun j=>bif Nat.beq j d then some v else e.f j,e.mD⟩
def Env.ev (e:Env):Operand→Option EV
  | .tmp t=>e.f t
  | .const (.bool b)=>some (.lit b)
  | .const v=>some (.val v)
  | .global g=>some (.adr g 0)
  | .func f=>some (.val (.func (.func f) #[] #[]))
structure Cfg where
  P:Program
  calls:List (FuncId × Zd)
  n:Nat
  ext:List FuncId
  dyn:List (String × TypeId × FuncId)
  iters:List (FuncId × Zay)
  rnd:Option Nat
  pan:Value→Zc→Prop
  yld:Yld
  fns:List (FuncId × List Leaf)
def Zu (P:Program) (calls:List (FuncId × Zd)) (n:Nat) (ext:List FuncId) (dyn:List (String × TypeId × FuncId)) (iters:List (FuncId × Zay)) (yld:Yld) (fns:List (FuncId × List Leaf):=[]):Cfg :=
  ⟨P,calls,n,ext,dyn,iters,none,fun _ _=>False,yld,fns⟩
def Zv:Yld:=fun _ _ _ _=>False
structure Zpf where
  s:Zd
  t:Y4 s.args
def Zhv (f:FuncId) (es:List EV):List (FuncId × Zd)→Option Zpf
  | []=>none
  | (g,s)::r=>bif Nat.beq f g then (match Y4.un s.args es with
    | some t=>some ⟨s,t⟩
    | none=>Zhv f es r) else Zhv f es r
structure ZnL where
  s:Zay
  t:Y4 s.caps
def Zlg (f:FuncId) (es:List EV):List (FuncId × Zay)→Option ZnL
  | []=>none
  | (g,s)::r=>bif Nat.beq f g then (match Y4.un s.caps es with
    | some t=>some ⟨s,t⟩
    | none=>Zlg f es r) else Zlg f es r
structure ZiW where
  a0:VT
  rest:List VT
  res:List VT
  sem:Y4 (a0::rest)→(Y4 res→Zc→Prop)→(Value→Zc→Prop)→Zc→Prop
  t:Y4 rest
def Zhu (f:FuncId) (es:List EV):List (FuncId × Zd)→Option ZiW
  | []=>none
  | (g,⟨a0::rest,res,sem⟩)::r=>bif Nat.beq f g then (match Y4.un rest es with
    | some t=>some ⟨a0,rest,res,sem,t⟩
    | none=>Zhu f es r) else Zhu f es r
  | (_,⟨[],_,_⟩)::r=>Zhu f es r
def Zqr (calls:List (FuncId × Zd)) (Kp:Value→Zc→Prop) (name:String) (v:Value) (es:List EV) (h:Zc) (K:EV→Zc→Prop):List (String × TypeId × FuncId)→Prop
  | []=>False
  | (n,t,f)::r=>bif n ==name then (match Zhu f es calls with
    | some p=>exG v (fun x:p.a0.D=> .iface t (p.a0.ev x).v) (fun x=>p.sem (x,p.t) (fun rr h'=>K (ZcI (Y4.evs p.res rr)) h') Kp h)∨Zqr calls Kp name v es h K r
    | none=>Zqr calls Kp name v es h K r) else Zqr calls Kp name v es h K r
def ZoE (es:List EV) (cs:List Value):List EV:=es++cs.map EV.val
def fnP (calls:List (FuncId × Zd)) (Kp:Value→Zc→Prop) (v:Value) (es:List EV) (h:Zc) (K:EV→Zc→Prop):List (FuncId × List Leaf)→Prop
  | []=>False
  | (f,[])::r=>match Zhv f es calls with
    | some ⟨s,t⟩=>ZqE v f (s.sem t (fun rr h'=>K (ZcI (Y4.evs s.res rr)) h') Kp h)∨fnP calls Kp v es h K r
    | none=>fnP calls Kp v es h K r
  | (f,l::ls)::r=>exG v (fun c:Tup (l::ls)=> .func (.func f) ⟨[]⟩ ⟨Tup.vals (l::ls) c⟩) (fun c=>match Zhv f (ZoE es (Tup.vals (l::ls) c)) calls with
    | some ⟨s,t⟩=>s.sem t (fun rr h'=>K (ZcI (Y4.evs s.res rr)) h') Kp h
    | none=>False)∨fnP calls Kp v es h K r
def ZwG (l:List (FuncId × List Leaf)):Operand→List (FuncId × List Leaf)
  | .tmp _=>l
  | _=>[]
def ZqF (f:FuncId):List FuncId→Bool
  | []=>false
  | g::r=>bif Nat.beq f g then true else ZqF f r
def evs (e:Env):List Operand→Option (List EV)
  | []=>some []
  | x::xs=>match e.ev x,evs e xs with
    | some v,some vs=>some (v::vs)
    | _,_=>none
def Zpd (op:BinOp) (x y:EV) (K:EV→Prop):Prop :=
  match x,y with
  | .val (.int k a),.val (.int k' b) =>
    match op with
    | .shl=>ZM (0≤b) (K (.val (.int k (ZA6 k a b))))
    | .shr=>ZM (0≤b) (K (.val (.int k (ZA5 k a b))))
    | _=>if k=k' then
       match op with
       | .add=>K (.val (.int k (k.wrap (a+b))))
       | .sub=>K (.val (.int k (k.wrap (a - b))))
       | .mul=>K (.val (.int k (k.wrap (a*b))))
       | .quo=>ZM (b≠0) (K (.val (.int k (k.wrap (a.tdiv b)))))
       | .rem=>ZM (b≠0) (K (.val (.int k (a.tmod b))))
       | .and=>K (.val (.int k (ZBa k a b)))
       | .or=>K (.val (.int k (orV k a b)))
       | .xor=>K (.val (.int k (ZA2 k a b)))
       | .andNot=>K (.val (.int k (ZwO k a b)))
       | .eql=>K (.val (.bool (a ==b)))
       | .neq=>K (.val (.bool (a !=b)))
       | .lss=>K (.val (.bool (decide (a<b))))
       | .leq=>K (.val (.bool (decide (a≤b))))
       | .gtr=>K (.val (.bool (decide (a>b))))
       | .geq=>K (.val (.bool (decide (a≥b))))
       | _=>False
      else False
  | .val (.string a),.val (.string b) =>
    match op with
    | .add=>ZA9 a b fun s=>K (.val (.string s))
    | .eql=>K (.val (.bool (Xg a b)))
    | .neq=>K (.val (.bool (!Xg a b)))
    | .lss=>K (.val (.bool (Op.bytesLess a.toList b.toList)))
    | .leq=>K (.val (.bool (Op.bytesLess a.toList b.toList||Xg a b)))
    | .gtr=>K (.val (.bool (!(Op.bytesLess a.toList b.toList||Xg a b))))
    | .geq=>K (.val (.bool (!Op.bytesLess a.toList b.toList)))
    | _=>False
  | _,_=>False
def eqP (t:Option TypeDesc) (neg:Bool) (x y:EV) (K:EV→Prop):Prop :=
  match t,x,y with
  | some (.pointer _),.adr _ _,.val (.pointer none)=>K (.lit neg)
  | some (.pointer _),.val (.pointer p),.val (.pointer none)=>K (.val (.bool (bif neg then p.isSome else p.isNone)))
  | some (.slice _),.val (.slice p _ _),.val (.slice none _ _)=>K (.val (.bool (bif neg then p.isSome else p.isNone)))
  | some (.map _ _),.val (.map p),.val (.map none)=>K (.val (.bool (bif neg then p.isSome else p.isNone)))
  | some .bool,x,y =>
    match x.v,y.v with
    | .bool a,.bool b=>K (.val (.bool (bif neg then a !=b else a ==b)))
    | _,_=>False
  | _,_,_=>False
def ZgY (d:Option TypeDesc) (h:Zc) (b o:Nat) (K:EV→Prop):Prop :=
  match d with
  | some (.int k)=>ldI h b o k fun x=>K (.val (.int k x))
  | some .bool=>ldB h b o fun x=>K (.val (.bool x))
  | some .string=>ldS h b o fun x=>K (.val (.string x))
  | some (.pointer _)=>ldP h b o fun x=>K (.val (.pointer x))
  | some (.slice _)=>ldL h b o fun x=>K (.val (.slice x.ptr x.len x.cap))
  | some (.map _ _)=>ldM h b o fun x=>K (.val (.map x))
  | some (.struct _) | some (.array _ _) | none=>False
  | some _=>ldV h b o fun x=>K (.val x)
def ZcB (P:Program):Nat→TypeId→List (Option TypeDesc)
  | 0,_=>[none]
  | d+1,t=>match P.underlying t with
    | some (.struct fs)=>fs.toList.flatMap fun f=>ZcB P d f.type
    | some (.array n e)=>(List.replicate n (ZcB P d e)).flatten
    | x=>[x]
def ZsP (o i:Nat):Nat:=bif Nat.beq i 0 then o else o+i
def Zos (h:Zc) (b o:Nat):Nat→List (Option TypeDesc)→(List Value→Prop)→Prop
  | _,[],K=>K []
  | i,d::ds,K=>ZgY d h b (ZsP o i) fun v=>Zos h b o (i+1) ds fun vs=>K (v.v::vs)
def Zam:Option TypeDesc→Bool
  | some (.struct _) | some (.array _ _)=>true
  | _=>false
def ldT (P:Program) (t:TypeId) (h:Zc) (b o:Nat) (K:EV→Prop):Prop :=
  bif Zam (P.underlying t) then
    (bif Nat.beq (ZcB P 8 t).length (P.cellsOf t) then Zos h b o 0 (ZcB P 8 t) fun vs=>K (.val (.agg vs.toArray)) else False)
  else ZgY (P.underlying t) h b o K
def atP (x:EV) (K:Nat→Nat→Prop):Prop :=
  match x with
  | .adr b o=>K b o
  | .val (.pointer p)=>Zf p K
  | _=>False
def stT (P:Program) (t:TypeId) (h:Zc) (b o:Nat) (v:EV) (K:Zc→Prop):Prop :=
  match v with
  | .val (.agg cs)=>bif Zam (P.underlying t) then (bif Nat.beq cs.toList.length (P.cellsOf t) then sts h b o cs.toList K else False) else False
  | v=>bif Zam (P.underlying t) then False else (bif Nat.beq (P.cellsOf t) 1 then st h b o v.v K else False)
def Zfv:EV→List Value
  | .val (.agg cs)=>cs.toList
  | v=>[v.v]
def Zot:Option TypeDesc→Bool
  | some (.int _) | some .bool | some .string | some (.pointer _) | some (.slice _) | some (.map _ _) | some (.struct _) | some (.array _ _) | none=>false
  | some _=>true
def Zhb (d:Option TypeDesc) (v:EV):List Value:=bif Zot d then [v.v] else Zfv v
def Zja (P:Program) (fs:List Field) (e:Env):List (Nat × Operand)→List Value
  | []=>[]
  | (i,x)::r=>match fs[i]?,e.ev x with
    | some f,some v=>bif Zot (P.underlying f.type) then v.v::Zja P fs e r else Zja P fs e r
    | _,_=>Zja P fs e r
def Zp9:List Value→Prop→Prop
  | [],K=>K
  | v::vs,K=>ZM (Zx v=true) (Zp9 vs K)
def ZcJ:List Value→List (Nat × List Value)→List Value
  | cs,[]=>cs
  | cs,(o,vs)::r=>ZcJ (cs.take o++vs++cs.drop (o+vs.length)) r
def ZgM (P:Program) (fs:List Field) (e:Env) (n:Nat):List (Nat × Operand)→Option (List (Nat × List Value))
  | []=>some []
  | (i,x)::r=>match fs[i]?,e.ev x,ZgM P fs e n r with
    | some f,some v,some l=>bif Nat.beq (Zhb (P.underlying f.type) v).length (P.cellsOf f.type) then (bif Nat.ble (f.offset+(Zhb (P.underlying f.type) v).length) n then some ((f.offset,Zhb (P.underlying f.type) v)::l) else none) else none
    | _,_,_=>none
def ZfO (size:Nat) (e:Env) (n:Nat):List (Nat × Operand)→Option (List (Nat × List Value))
  | []=>some []
  | (i,x)::r=>match e.ev x,ZfO size e n r with
    | some v,some l=>bif Nat.beq (Zfv v).length size then (bif Nat.ble (i*size+(Zfv v).length) n then some ((i*size,Zfv v)::l) else none) else none
    | _,_=>none
def Zgi (P:Program) (t:TypeId):Option (List Value):=match P.info? t with
  | some i=>match i.zero with
    | some v=>some v.cells.toList
    | none=>none
  | none=>none
def ZjT (P:Program) (t:TypeId):Option (Nat × Nat):=match P.info? t with
  | some i=>some (i.size,i.bytes)
  | none=>none
def Zo6 (d:Int):Option (Option EV)→Option Int
  | none=>some d
  | some (some (.val (.int _ n)))=>some n
  | _=>none
def Zfw:Nat:=16777216
def Znm:TypeDesc→Value→Bool
  | .int k,.int k' _=>if k=k' then true else false
  | .string,.string _=>true
  | .bool,.bool _=>true
  | _,_=>false
def Zhx:Option TypeDesc→Bool
  | some (.int _) | some .string | some .bool=>true
  | _=>false
def Zev (P:Program):List Field→Nat→Bool
  | [],_=>true
  | f::fs,i=>bif f.name == "_" then false else bif Nat.beq f.offset i&&Zhx (P.underlying f.type) then Zev P fs (i+1) else false
def Zew (P:Program) (fs:List Field):List TypeDesc:=fs.map fun f=>(P.underlying f.type).getD .bool
def Znl:List TypeDesc→List Value→Bool
  | [],[]=>true
  | d::ds,v::vs=>bif Znm d v then Znl ds vs else false
  | _,_=>false
def Zoy (P:Program) (kt:TypeId) (fs:Array Field) (cs:List Value):Bool :=
  bif P.stoodInHeld kt then false else bif Zev P fs.toList 0 then Znl (Zew P fs.toList) cs else false
def Zoz (P:Program) (n:Nat) (e:TypeId) (cs:List Value):Bool :=
  bif Nat.beq n 2 then (bif Zhx (P.underlying e) then (match P.info? e with
    | some i=>bif Nat.beq i.size 1 then Znl [(P.underlying e).getD .bool,(P.underlying e).getD .bool] cs else false
    | none=>false) else false) else false
def Zj7 (P:Program) (kt:TypeId) (d:TypeDesc) (h:Zc) (m:Option Nat) (k:Value) (K:Option Value→Prop):Prop :=
  match d,k with
  | .struct fs,.agg cs=>bif Zoy P kt fs cs.toList then Zcf (Zew P fs.toList) h m cs.toList K else False
  | .array n e,.agg cs=>bif Zoz P n e cs.toList then Zcf [(P.underlying e).getD .bool,(P.underlying e).getD .bool] h m cs.toList K else False
  | d,k=>bif Znm d k then ZhW d h m k K else False
def Zj6 (P:Program) (kt:TypeId) (d:TypeDesc) (h:Zc) (m:Option Nat) (k v:Value) (K:Zc→Prop):Prop :=
  match d,k with
  | .struct fs,.agg cs=>bif Zoy P kt fs cs.toList then ZfV (Zew P fs.toList) h m cs.toList v K else False
  | .array n e,.agg cs=>bif Zoz P n e cs.toList then ZfV [(P.underlying e).getD .bool,(P.underlying e).getD .bool] h m cs.toList v K else False
  | d,k=>bif Znm d k then ZhV d h m k v K else False
def ZkT (d:Option TypeDesc) (v:Value) (K:EV→Prop):Prop :=
  match d with
  | some (.int k)=>asI v k fun x=>K (.val (.int k x))
  | some .bool=>asB v fun x=>K (.val (.bool x))
  | some .string=>asS v fun x=>K (.val (.string x))
  | some (.pointer _)=>asP v fun x=>K (.val (.pointer x))
  | some (.slice _)=>asL v fun x=>K (.val (.slice x.ptr x.len x.cap))
  | some (.map _ _)=>asM v fun x=>K (.val (.map x))
  | _=>False
def Zsx:Option TypeDesc→Leaf
  | some (.int k)=> .I k | some .bool=> .B | some .string=> .S | some (.pointer _)=> .P | some (.slice _)=> .L | some (.map _ _)=> .M | _=> .V
def ZqH (P:Program) (t:TypeId) (v:Value) (K:EV→Prop):Prop :=
  bif Zam (P.underlying t) then exG v (fun r:Tup ((ZcB P 8 t).map Zsx)=> .agg (Tup.vals _ r).toArray) (fun r=>K (.val (.agg (Tup.vals _ r).toArray)))
  else ZkT (P.underlying t) v K
def ZpQ (P:Program) (t:TypeId):Option Value:=match P.info? t with
  | some i=>i.zero
  | none=>none
def ZeJ:Option TypeDesc→Bool
  | some (.interface _)=>true
  | none=>true
  | _=>false
def ZeR (P:Program) (ts:Array TypeId):Bool:=match ts[0]? with
  | some t=>match P.underlying t with
    | some (.map _ _)=>true
    | _=>false
  | none=>false
def Zhz (c:Cfg) (o:Op) (ρ:Env) (h:Zc) (K:EV→Zc→Prop):Prop :=
  match o with
  | .call ⟨.builtin .len,args,ts⟩ =>
    match ts[0]?,evs ρ args.toList with
    | some t,some [v]=>match c.P.underlying t,v with
      | some .string,.val (.string s)=>K (.val (.int .i64 s.size)) h
      | some (.slice _),.val (.slice _ n _)=>K (.val (.int .i64 n)) h
      | some (.array n _),_=>K (.val (.int .i64 n)) h
      | some (.map _ _),.val (.map m)=>Zs4 h m fun n=>K (.val (.int .i64 n)) h
      | _,_=>False
    | _,_=>False
  | .call ⟨.builtin .cap,args,ts⟩ =>
    match ts[0]?,evs ρ args.toList with
    | some t,some [v]=>match c.P.underlying t,v with
      | some (.slice _),.val (.slice _ _ n)=>K (.val (.int .i64 n)) h
      | _,_=>False
    | _,_=>False
  | .call ⟨.builtin .min,args,_⟩ =>
    match evs ρ args.toList with
    | some [.val (.int k x),.val (.int _ y)]=>K (.val (.int k (Zon x y))) h
    | _=>False
  | .call ⟨.builtin .max,args,_⟩ =>
    match evs ρ args.toList with
    | some [.val (.int k x),.val (.int _ y)]=>K (.val (.int k (Zj5 x y))) h
    | _=>False
  | .call ⟨.builtin .append,args,ts⟩ =>
    match ts[0]?,(match ts[1]? with | none=>false | some t=>match c.P.underlying t with | some (.int _)=>true | some _=>false | none=>true) with
    | some t,false=>match c.P.underlying t with
      | some (.slice e)=>match ZjT c.P e,Zgi c.P e,evs ρ args.toList with
        | some (size,bytes),some zs,some [.val (.slice p n m),.val (.slice p' n' m')] =>
          rdS ⟨p',n',m'⟩ size h fun new=>app e size bytes zs ⟨p,n,m⟩ n' new h fun s h'=>K (.val (.slice s.ptr s.len s.cap)) h'
        | some (size,bytes),some zs,some [.val (.slice p n m),.val (.string s)] =>
          app e size bytes zs ⟨p,n,m⟩ s.size (ZbG s) h fun s h'=>K (.val (.slice s.ptr s.len s.cap)) h'
        | _,_,_=>False
      | _=>False
    | _,_=>False
  | .call ⟨.value x,args,_⟩ =>
    match ZwG c.fns x with
    | f::r=>(match ρ.ev x,evs ρ args.toList with
      | some v,some es=>fnP c.calls c.pan v.v es h K (f::r)
      | _,_=>False)
    | [] =>
    match ρ.ev x with
    | some (.val (.func (.func f) ⟨[]⟩ ⟨cs⟩)) =>
      match evs ρ args.toList with
      | some es=>match Zhv f (ZoE es cs) c.calls with
        | some ⟨s,t⟩=>s.sem t (fun r h'=>K (ZcI (Y4.evs s.res r)) h') c.pan h
        | none=>bif ZqF f c.ext then (match ZoE es cs with
          | [x]=>Zpb x.v h fun v h'=>K (.val v) h'
          | _=>False) else False
      | none=>False
    | some (.val (.func (.yield l) ⟨[]⟩ ⟨[]⟩)) =>
      match evs ρ args.toList with
      | some es=>c.yld l (es.map EV.v) (fun b h'=>K (.val (.bool b)) h') h
      | none=>False
    | _=>False
  | .call ⟨.builtin .delete,args,ts⟩ =>
    match ts[0]?,evs ρ args.toList with
    | some t,some [.val (.map m),k]=>match c.P.underlying t with
      | some (.map kt _)=>match c.P.underlying kt with
        | some d=>bif Znm d k.v then Zjo d h m k.v fun h'=>K (.val (.tuple #[])) h' else False
        | none=>False
      | _=>False
    | _,_=>False
  | .call ⟨.invoke x name,args,_⟩ =>
    match ρ.ev x,evs ρ args.toList with
    | some v,some es=>Zqr c.calls c.pan name v.v es h K c.dyn
    | _,_=>False
  | .call ⟨.builtin .clear,args,ts⟩ =>
    match ts[0]?,evs ρ args.toList with
    | some t,some [.val (.map m)]=>match c.P.underlying t with
      | some (.map _ _)=>ZwL h m fun h'=>K (.val (.tuple #[])) h'
      | _=>False
    | some t,some [.val (.slice p l m)]=>match c.P.underlying t with
      | some (.slice e)=>match Zgi c.P e with
        | some zs=>ZwK ⟨p,l,m⟩ zs h fun h'=>K (.val (.tuple #[])) h'
        | none=>False
      | _=>False
    | _,_=>False
  | _=>False
def ZdM (d:Option TypeDesc) (x y:Value):Option Bool :=
  match d,x,y with
  | some (.int _),.int k a,.int k' b=>if k=k' then some (a ==b) else none
  | some .string,.string a,.string b=>some (Xg a b)
  | some .bool,.bool a,.bool b=>some (a ==b)
  | _,_,_=>none
def ZcV (P:Program):List Field→List Value→List Value→Option Bool
  | [],_,_=>some true
  | f::fs,xs,ys =>
    bif f.name == "_" then none else
    match xs[f.offset]?,ys[f.offset]? with
    | some x,some y=>match ZdM (P.underlying f.type) x y,ZcV P fs xs ys with
      | some a,some r=>some (bif a then r else false)
      | _,_=>none
    | _,_=>none
def ZcG (P:Program):List Field→List Value→List Value→Option Bool
  | [],_,_=>some true
  | f::fs,xs,ys =>
    bif f.name == "_" then none else
    match P.underlying f.type with
    | some (.struct gs) =>
      bif P.stoodInHeld f.type then none else
      bif Nat.ble (f.offset+P.cellsOf f.type) xs.length&&Nat.ble (f.offset+P.cellsOf f.type) ys.length then
        match ZcV P gs.toList ((xs.drop f.offset).take (P.cellsOf f.type)) ((ys.drop f.offset).take (P.cellsOf f.type)),ZcG P fs xs ys with
        | some a,some r=>some (bif a then r else false)
        | _,_=>none
      else none
    | u=>match xs[f.offset]?,ys[f.offset]? with
      | some x,some y=>match ZdM u x y,ZcG P fs xs ys with
        | some a,some r=>some (bif a then r else false)
        | _,_=>none
      | _,_=>none
def eqS (P:Program) (t:TypeId) (fs:Array Field) (x y:EV) (K:Bool→Prop):Prop :=
  match x,y with
  | .val (.agg xs),.val (.agg ys)=>bif P.stoodInHeld t||P.eqGuardType P.depth t then False else
    match ZcG P fs.toList xs.toList ys.toList with
    | some b=>K b
    | none=>False
  | _,_=>False
def opP (c:Cfg) (o:Op) (ρ:Env) (h:Zc) (K:EV→Zc→Prop):Prop :=
  match o with
  | .move x=>match ρ.ev x with
    | some v=>K v h
    | none=>False
  | .assign x=>match ρ.ev x with
    | some (.val (.int k n))=>Ze n fun n=>K (.val (.int k n)) h
    | some (.val (.bool b))=>ZN b fun b=>K (.val (.bool b)) h
    | some v=>K v h
    | none=>False
  | .pick x a b=>match ρ.ev x,ρ.ev a,ρ.ev b with
    | some (.lit true),some a,_=>K a h
    | some (.lit false),_,some b=>K b h
    | some (.val (.bool x)),some a,some b=>match a.v,b.v with
      | .bool a,.bool b=>K (.val (.bool (bif x then a else b))) h
      | _,_=>False
    | _,_,_=>False
  | .alloc e=>match Zgi c.P e with
    | some zs=>newC h zs e fun b h'=>K (.adr b 0) h'
    | none=>False
  | .box e x=>match ρ.ev x with
    | some v=>newC h (Zfv v) e fun b h'=>K (.adr b 0) h'
    | none=>False
  | .build t parts=>match c.P.underlying t,Zgi c.P t with
    | some (.struct fs),some zs=>match ZgM c.P fs.toList ρ zs.length parts.toList with
      | some l=>bif fs.toList.all fun f=>(c.P.info? f.type).isSome then Zp9 (Zja c.P fs.toList ρ parts.toList) (K (.val (.agg (ZcJ zs l).toArray)) h) else False
      | none=>False
    | some (.array _ e),some zs=>match ZfO (c.P.cellsOf e) ρ zs.length parts.toList with
      | some l=>bif (c.P.info? e).isSome then K (.val (.agg (ZcJ zs l).toArray)) h else False
      | none=>False
    | _,_=>False
  | .buildSlice t n parts=>match c.P.underlying t with
    | some (.slice e)=>match Zgi c.P e,ZfO (c.P.cellsOf e) ρ (n*c.P.cellsOf e) parts.toList with
      | some zs,some l=>bif Nat.ble (n*c.P.cellsOf e) Zfw then
          (bif Nat.beq zs.length (c.P.cellsOf e) then
            newC h (ZcJ (XS zs n) l) e fun b h'=>K (.val (.slice (some ⟨b,0,none⟩) n n)) h' else False) else False
      | _,_=>False
    | _=>False
  | .load t a=>match ρ.ev a with
    | some x=>atP x fun b o=>ldT c.P t h b o fun v=>K v h
    | none=>False
  | .store t a x=>match ρ.ev a,ρ.ev x with
    | some a,some x=>atP a fun b o=>stT c.P t h b o x fun h'=>K (.val undef) h'
    | _,_=>False
  | .nilCheck x=>match ρ.ev x with
    | some x=>atP x fun b o=>K (.adr b o) h
    | none=>False
  | .binOp op t x y _=>match ρ.ev x,ρ.ev y with
    | some x,some y=>match op,c.P.underlying t with
      | .eql,some (.int _) | .eql,some .string=>Zpd op x y fun v=>K v h
      | .neq,some (.int _) | .neq,some .string=>Zpd op x y fun v=>K v h
      | .eql,some (.struct fs)=>eqS c.P t fs x y fun b=>K (.val (.bool b)) h
      | .neq,some (.struct fs)=>eqS c.P t fs x y fun b=>K (.val (.bool (!b))) h
      | .eql,d=>eqP d false x y fun v=>K v h
      | .neq,d=>eqP d true x y fun v=>K v h
      | _,_=>Zpd op x y fun v=>K v h
    | _,_=>False
  | .unOp op _ x=>match op,ρ.ev x with
    | .not,some (.lit b)=>K (.lit (!b)) h
    | .not,some (.val (.bool b))=>K (.val (.bool (!b))) h
    | .neg,some (.val (.int k n))=>K (.val (.int k (k.wrap (0 - n)))) h
    | _,_=>False
  | .convert s d x=>match c.P.underlying s,c.P.underlying d,ρ.ev x with
    | some (.int _),some (.int k),some (.val (.int _ n))=>K (.val (.int k (k.wrap n))) h
    | some .string,some .string,some (.val (.string s))=>K (.val (.string s)) h
    | some .string,some (.slice e),some (.val (.string s))=>match c.P.underlying e with
      | some (.int .u8)=>s2b e s h fun x h'=>K (.val (.slice x.ptr x.len x.cap)) h'
      | _=>False
    | some (.slice e),some .string,some (.val (.slice p l m))=>match c.P.underlying e with
      | some (.int .u8)=>b2s ⟨p,l,m⟩ h fun s=>K (.val (.string s)) h
      | _=>False
    | some (.slice _),some (.slice e),some (.val (.slice p l m))=>match c.P.underlying e with
      | some (.int .u8)=>bif Nat.beq s d then ZwE p h fun h'=>K (.val (.slice p l m)) h' else False
      | _=>False
    | _,_,_=>False
  | .makeSlice t l m=>match c.P.underlying t,ρ.ev l,ρ.ev m with
    | some (.slice e),some (.val (.int _ l)),some (.val (.int _ m))=>match ZjT c.P e,Zgi c.P e with
      | some (size,bytes),some zs=>bif Nat.beq zs.length size then mkS e bytes zs l m h fun s h'=>K (.val (.slice s.ptr s.len s.cap)) h' else False
      | _,_=>False
    | _,_,_=>False
  | .slice t x lo hi mx=>match c.P.underlying t,ρ.ev x with
    | some .string,some (.val (.string s))=>match mx,Zo6 0 (lo.map ρ.ev),Zo6 s.size (hi.map ρ.ev) with
      | none,some lo,some hi=>ZA4 s lo hi fun s=>K (.val (.string s)) h
      | _,_,_=>False
    | some (.slice e),some (.val (.slice p l m))=>match Zo6 0 (lo.map ρ.ev),Zo6 l (hi.map ρ.ev),Zo6 m (mx.map ρ.ev),ZjT c.P e with
      | some lo,some up,some most,some (size,_)=>bif hi.isNone&&mx.isSome then False else slc p m size lo up most fun s=>K (.val (.slice s.ptr s.len s.cap)) h
      | _,_,_,_=>False
    | _,_=>False
  | .fieldAddr s x f=>match c.P.underlying s,ρ.ev x with
    | some (.struct fs),some x=>match fs.toList[f]? with
      | some fd=>bif Nat.beq (c.P.cellsOf fd.type) 0 then False else atP x fun b o=>K (.adr b (ZsP o fd.offset)) h
      | none=>False
    | _,_=>False
  | .field s x f=>match c.P.underlying s,ρ.ev x with
    | some (.struct fs),some (.val (.agg cs))=>match fs.toList[f]? with
      | some fd=>bif (c.P.underlying fd.type).isNone then False else bif Zam (c.P.underlying fd.type) then K (.val (.agg ((cs.toList.drop fd.offset).take (c.P.cellsOf fd.type)).toArray)) h
        else match cs.toList[fd.offset]? with
          | some v=>K (.val v) h
          | none=>False
      | none=>False
    | _,_=>False
  | .indexAddr t x i=>match c.P.underlying t,ρ.ev x,ρ.ev i with
    | some (.slice e),some (.val (.slice p l _)),some (.val (.int _ i))=>match ZjT c.P e with
      | some (size,_)=>Xd p l i size fun b o=>K (.adr b o) h
      | none=>False
    | some (.array n e),some x,some (.val (.int _ i))=>match ZjT c.P e with
      | some (size,_)=>atP x fun b o=>ZwF n i fun j=>K (.adr b (o+j*size)) h
      | none=>False
    | _,_,_=>False
  | .index t x i=>match c.P.underlying t,ρ.ev x,ρ.ev i with
    | some .string,some (.val (.string s)),some (.val (.int _ i))=>Zw9 s i fun n=>K (.val (.int .u8 n)) h
    | some (.array n e),some (.val (.agg cs)),some (.val (.int _ i))=>match c.P.underlying e with
      | some (.struct _)=>bif Nat.beq cs.toList.length (n*c.P.cellsOf e) then ZwF n i fun j=>ZqH c.P e (.agg ⟨(cs.toList.drop (j*c.P.cellsOf e)).take (c.P.cellsOf e)⟩) fun v=>K v h else False
      | _=>False
    | _,_,_=>False
  | .extract x i=>match ρ.ev x with
    | some (.more _ _)=>bif Nat.beq i 0 then K (.lit true) h else False
    | some .over=>bif Nat.beq i 0 then K (.lit false) h else False
    | some (.val (.tuple vs))=>match vs.toList[i]? with
      | some v=>K (.val v) h
      | none=>False
    | _=>False
  | .call _=>Zhz c o ρ h K
  | .panic x=>match ρ.ev x with
    | some (.val (.iface t v))=>c.pan (.iface t v) h
    | _=>False
  | .makeFunc (.func f) first caps=>match first.toList,evs ρ caps.toList with
    | [],some es=>K (.val (.func (.func f) ⟨[]⟩ ⟨es.map EV.v⟩)) h
    | _,_=>False
  | .makeMap _ none=>ZeQ h fun b h'=>K (.val (.map (some b))) h'
  | .lookup t x i ok=>match c.P.underlying t,ρ.ev x,ρ.ev i with
    | some (.map kt et),some (.val (.map m)),some k=>match c.P.underlying kt,ZpQ c.P et with
      | some d,some z=>Zj7 c.P kt d h m k.v fun r=>ZqH c.P et (r.getD z) fun v=>K (bif ok then .val (.tuple #[v.v,.bool r.isSome]) else v) h
      | _,_=>False
    | _,_,_=>False
  | .mapUpdate t m k x=>match c.P.underlying t,ρ.ev m,ρ.ev k,ρ.ev x with
    | some (.map kt _),some (.val (.map m)),some k,some x=>match c.P.underlying kt with
      | some d=>Zj6 c.P kt d h m k.v x.v fun h'=>K (.val undef) h'
      | none=>False
    | _,_,_,_=>False
  | .range t x=>match c.P.underlying t,ρ.ev x with
    | some (.map _ _),some (.val (.map m))=>rgM h m fun b h'=>K (.itr t b) h'
    | _,_=>False
  | .next x false=>match ρ.ev x with
    | some (.itr _ b)=>Zp7 h b (fun k v h'=>K (.more k v) h') (K .over h)
    | _=>False
  | .entry x=>match ρ.ev x with
    | some (.itr t b)=>match c.P.underlying t with
      | some (.map kt et)=>ZwH h b fun k v=>ZqH c.P kt k fun k'=>ZqH c.P et v fun v'=>K (.val (.tuple #[k'.v,v'.v])) h
      | _=>False
    | _=>False
  | .makeInterface t x=>match ρ.ev x with
    | some v=>bif ZeJ (c.P.underlying t) then False else K (.val (.iface t v.v)) h
    | none=>False
  | .typeAssert x _ t ok=>match ρ.ev x with
    | some v=>bif ok||ZeJ (c.P.underlying t) then False else asT v.v t fun y=>ZkT (c.P.underlying t) y fun u=>K u h
    | none=>False
  | _=>False
def ZjM (n:Nat) (e:Env) (d:Option Tmp) (v:EV) (K:Env→Prop):Prop :=
  match d with
  | none=>K e
  | some d=>bif Nat.blt d n then K (e.set d v) else False
def opQ (c:Cfg) (o:Oper) (e:Env) (h:Zc) (K:EV→Zc→Prop):Prop :=
  match o.op with
  | .assign x=>bif Zot (c.P.underlying o.type) then (match e.ev x with
    | some v=>K v h
    | none=>False) else opP c (.assign x) e h K
  | op=>opP c op e h K
def Zst (c:Cfg) (o:Oper) (e:Env) (h:Zc) (K:Env→Zc→Prop):Prop :=
  opQ c o e h fun v h'=>ZjM c.n e o.dst v fun e'=>K e' h'
def ZhE (c:Cfg) (o:Oper) (e:Env) (h:Zc) (K:Env→Zc→Prop):Prop :=
  ZjM c.n e o.dst (.val undef) fun e'=>K e' h
def Zdr (ops:List Oper) (j:Nat):Option Tmp:=(ops[j]?).bind (·.dst)
def Zct (c:Cfg) (one:Oper→Env→Zc→(Env→Zc→Prop)→Prop) (all:List Oper):List Oper→Env→Zc→(Env→Zc→Prop)→Prop
  | [],e,h,K=>K e h
  | o::os,e,h,K =>
    match o.guard with
    | none=>one o e h fun e' h'=>Zct c one all os e' h' K
    | some (j,want) =>
      match Zdr all j with
      | none=>ZhE c o e h fun e' h'=>Zct c one all os e' h' K
      | some t =>
        match e t with
        | some (.lit b) =>
          match b,want with
          | true,true | false,false=>one o e h fun e' h'=>Zct c one all os e' h' K
          | true,false | false,true=>ZhE c o e h fun e' h'=>Zct c one all os e' h' K
        | some (.val (.bool b)) =>
          match want with
          | true=>Zs b (one o (e.set t (.lit true)) h fun e' h'=>Zct c one all os e' h' K) (ZhE c o (e.set t (.lit false)) h fun e' h'=>Zct c one all os e' h' K)
          | false=>Zs b (ZhE c o (e.set t (.lit true)) h fun e' h'=>Zct c one all os e' h' K) (one o (e.set t (.lit false)) h fun e' h'=>Zct c one all os e' h' K)
        | some _=>ZhE c o e h fun e' h'=>Zct c one all os e' h' K
        | none=>False
def ZkD (c:Cfg) (o:Op) (ρ:Env) (h:Zc) (K:EV→Zc→Prop):Prop :=
  match o with
  | .move _ | .assign _ | .pick _ _ _ | .load _ _ | .nilCheck _ | .binOp _ _ _ _ _ | .unOp _ _ _ | .slice _ _ _ _ _ | .fieldAddr _ _ _ | .field _ _ _ | .indexAddr _ _ _ | .index _ _ _ | .extract _ _ | .build _ _ | .makeFunc _ _ _=>opP c o ρ h K
  | .convert s d _=>match c.P.underlying s,c.P.underlying d with
    | some (.int _),some (.int _)=>opP c o ρ h K
    | _,_=>False
  | .call ⟨.builtin .len,_,_⟩ | .call ⟨.builtin .cap,_,_⟩ | .call ⟨.builtin .min,_,_⟩ | .call ⟨.builtin .max,_,_⟩=>opP c o ρ h K
  | .call ⟨.value (.func f),args,_⟩ =>
    match evs ρ args.toList with
    | some es=>match Zhv f es c.calls with
      | some ⟨s,t⟩=>ZwC (fun K' h'=>s.sem t K' (fun _ _=>False) h') h fun r=>K (ZcI (Y4.evs s.res r)) h
      | none=>False
    | none=>False
  | _=>False
def ZmX (c:Cfg) (o:Oper) (e:Env) (h:Zc) (K:Env→Zc→Prop):Prop :=
  ZkD c o.op e h fun v h'=>ZjM c.n e o.dst v fun e'=>K e' h'
def ZkP (m i:Nat):Bool:=Nat.beq (Nat.land (Nat.shiftRight m i) 1) 1
def Zhq (m i:Nat):Nat:=Nat.lor m (Nat.shiftLeft 1 i)
def Zif (m:Nat):List Edge→Bool
  | []=>true
  | e::es=>bif Region.binds .any e then (bif ZkP m e.on then Zif m es else false) else Zif m es
def XT (m i:Nat) (o:Oper):Bool:=bif ZkP m i then false else Zif m o.after.toList
def ZfQ (m i:Nat):Nat→List Oper→Bool
  | _,[]=>true
  | k,o::os=>bif Nat.beq k i then ZfQ m i (k+1) os else bif XT m k o then false else ZfQ m i (k+1) os
def ZdR (i:Nat):List Edge→Bool
  | []=>false
  | e::es=>bif Nat.beq e.on i then (bif Region.binds .any e then true else ZdR i es) else ZdR i es
def Zgm (ops:Array Oper) (oi:Oper) (m i:Nat):Nat→List Oper→Bool
  | _,[]=>true
  | k,o::os=>bif (bif Nat.beq k i then true else bif ZkP m k then true else bif ZdR i o.after.toList then true else oi.apart ops o) then Zgm ops oi m i (k+1) os else false
def Zm8 (m:Nat):Nat→List Oper→Bool
  | _,[]=>true
  | k,o::os=>bif XT m k o then false else Zm8 m (k+1) os
abbrev ZdQ:=List (Nat × (Zc→Prop))
def Zly (o:Oper):ZdQ→ZdQ
  | []=>[]
  | x::r=>bif ZdR x.1 o.after.toList then Zly o r else x::Zly o r
def Zqj (h:Zc):ZdQ→Prop→Prop
  | [],K=>K
  | x::r,K=>x.2 h∧Zqj h r K
def ZhN (m i j:Nat):Nat→List Oper→Bool
  | _,[]=>true
  | k,o::os=>bif Nat.beq k i||Nat.beq k j then ZhN m i j (k+1) os else bif XT m k o then false else ZhN m i j (k+1) os
def ZjF (b o:Nat):Nat→List Value→List (Nat × Nat × Value)
  | _,[]=>[]
  | i,v::vs=>(b,ZsP o i,v)::ZjF b o (i+1) vs
def ldH (P:Program) (t:TypeId) (h:Zc) (b o:Nat) (K:EV→List (Nat × Nat × Value)→Prop):Prop :=
  bif Zam (P.underlying t) then
    (bif Nat.beq (ZcB P 8 t).length (P.cellsOf t) then Zos h b o 0 (ZcB P 8 t) fun vs=>K (.val (.agg vs.toArray)) (ZjF b o 0 vs) else False)
  else ZgY (P.underlying t) h b o fun v=>K v [(b,o,v.v)]
inductive OpK where
  | pure | load (t:TypeId) (x:Operand) | text (x:Operand) | other
def ZdT (c:Cfg):Op→OpK
  | .move _ | .assign _ | .pick _ _ _ | .nilCheck _ | .binOp _ _ _ _ _ | .unOp _ _ _ | .slice _ _ _ _ _ | .fieldAddr _ _ _ | .field _ _ _ | .indexAddr _ _ _ | .index _ _ _ | .extract _ _ | .build _ _ | .makeFunc _ _ _=> .pure
  | .convert s d x=>match c.P.underlying s,c.P.underlying d with
    | some (.int _),some (.int _)=> .pure
    | some (.slice e),some .string=>match c.P.underlying e with
      | some (.int .u8)=> .text x
      | _=> .other
    | _,_=> .other
  | .call ⟨.builtin .len,_,ts⟩=>bif ZeR c.P ts then .other else .pure
  | .call ⟨.builtin .cap,_,_⟩ | .call ⟨.builtin .min,_,_⟩ | .call ⟨.builtin .max,_,_⟩=> .pure
  | .load t x=> .load t x
  | _=> .other
def Zg3 (all:List Oper) (o:Oper) (e:Env) (A B:Env→Prop):Prop :=
  match o.guard with
  | none=>A e
  | some (j,want) =>
    match Zdr all j with
    | none=>B e
    | some t =>
      match e t with
      | some (.lit b) =>
        match b,want with
        | true,true | false,false=>A e
        | true,false | false,true=>B e
      | some (.val (.bool b)) =>
        match want with
        | true=>Zs b (A (e.set t (.lit true))) (B (e.set t (.lit false)))
        | false=>Zs b (B (e.set t (.lit true))) (A (e.set t (.lit false)))
      | some _=>B e
      | none=>False
inductive OrdT where
  | done | take (i:Nat) (r:OrdT) | fork (i:Nat) (r:OrdT) (j:Nat) (s:OrdT)
def OrdT.depth:OrdT→Nat
  | .done=>0
  | .take _ r=>r.depth+1
  | .fork _ r _ s=>Nat.max r.depth s.depth+1
def Zqq (c:Cfg) (ops:Array Oper) (o:Oper) (hd:ZdQ) (e:Env) (h:Zc) (rest:ZdQ→Env→Zc→Prop):Prop :=
  Zg3 ops.toList o e (fun e=>opP c o.op e h fun v h'=>ZjM c.n e o.dst v fun e'=>Zqj h' (Zly o hd) (rest (Zly o hd) e' h'))
   (fun e=>ZjM c.n e o.dst (.val undef) fun e'=>rest hd e' h)
def ZsM (c:Cfg) (ops:Array Oper) (o:Oper) (hd:ZdQ) (e:Env) (h:Zc) (rest:ZdQ→Env→Zc→Prop):Prop :=
  Zg3 ops.toList o e (fun e=>opP c o.op e h fun v _=>ZjM c.n e o.dst v fun e'=>rest hd e' h)
   (fun e=>ZjM c.n e o.dst (.val undef) fun e'=>rest hd e' h)
def Zjk (c:Cfg) (ops:Array Oper) (K:Env→Zc→Prop):OrdT→Nat→ZdQ→Env→Zc→Prop
  | .done,m,_,e,h=>bif Zm8 m 0 ops.toList then K e h else False
  | .fork i r j s,m,hd,e,h =>
    match ops[i]?,ops[j]? with
    | some o,some p=>bif XT m i o&&(XT m j p&&ZhN m i j 0 ops.toList) then
        Zhc (Zqq c ops o hd e h (Zjk c ops K r (Zhq m i))) (Zqq c ops p hd e h (Zjk c ops K s (Zhq m j)))
      else False
    | _,_=>False
  | .take i r,m,hd,e,h =>
    match ops[i]? with
    | none=>False
    | some o =>
      match ZdT c o.op with
      | .pure=>bif XT m i o&&(Zgm ops o m i 0 ops.toList||ZfQ m i 0 ops.toList) then ZsM c ops o hd e h (Zjk c ops K r (Zhq m i)) else False
      | .load t x=>bif XT m i o&&Zgm ops o m i 0 ops.toList then
          Zg3 ops.toList o e (fun e=>match e.ev x with
           | some y=>atP y fun b p=>ldH c.P t h b p fun v cells=>ZjM c.n e o.dst v fun e'=>Zjk c ops K r (Zhq m i) ((i,fun h'=>Zm h' cells)::hd) e' h
           | none=>False)
           (fun e=>ZjM c.n e o.dst (.val undef) fun e'=>Zjk c ops K r (Zhq m i) hd e' h)
        else bif XT m i o&&ZfQ m i 0 ops.toList then ZsM c ops o hd e h (Zjk c ops K r (Zhq m i)) else False
      | .text x=>bif XT m i o&&Zgm ops o m i 0 ops.toList then
          Zg3 ops.toList o e (fun e=>match e.ev x with
           | some (.val (.slice p l n))=>b2s ⟨p,l,n⟩ h fun s=>ZjM c.n e o.dst (.val (.string s)) fun e'=>Zjk c ops K r (Zhq m i) ((i,fun h'=>b2s ⟨p,l,n⟩ h' fun s'=>s'=s)::hd) e' h
           | _=>False)
           (fun e=>ZjM c.n e o.dst (.val undef) fun e'=>Zjk c ops K r (Zhq m i) hd e' h)
        else bif XT m i o&&ZfQ m i 0 ops.toList then Zqq c ops o hd e h (Zjk c ops K r (Zhq m i)) else False
      | .other=>bif XT m i o&&ZfQ m i 0 ops.toList then Zqq c ops o hd e h (Zjk c ops K r (Zhq m i)) else False
inductive Ann where
  | leaf
  | seq (a b:Ann)
  | cut (slots:List Nat) (tys:List VT) (kill:List (Nat × Nat)) (a b:Ann)
  | cond (a b:Ann)
  | block (a:Ann)
  | loop (slots:List Nat) (tys:List VT) (kill:List (Nat × Nat)) (a:Ann)
  | order (l:OrdT)
  | range (tys:List VT) (a b:Ann)
inductive Ex where
  | normal | exit (id:Nat) | ret
def ZaN:List Nat→List EV→Nat→Option EV
  | s::ss,v::vs,j=>bif Nat.beq j s then some v else ZaN ss vs j
  | _,_,_=>none
def Zjr:List (Nat × Nat)→Nat→Bool
  | [],_=>false
  | (lo,hi)::r,j=>bif Nat.ble lo j&&Nat.ble j hi then true else Zjr r j
def ZlR:List Nat→Nat→Bool
  | [],_=>false
  | s::ss,j=>bif Nat.beq j s then true else ZlR ss j
def Znu (slots:List Nat) (vs:List EV) (kill:List (Nat × Nat)) (e:Env):Env:=⟨fun j =>
  match ZaN slots vs j with
  | some v=>some v
  | none=>bif Zjr kill j then none else e.f j,e.mD⟩
def Zle (e:Env):List Nat→Option (List EV)
  | []=>some []
  | s::ss=>match e s,Zle e ss with
    | some v,some vs=>some (v::vs)
    | _,_=>none
def ZjZ (slots:List Nat) (tys:List VT) (e:Env):Option (Y4 tys) :=
  match Zle e slots with
  | some es=>Y4.un tys es
  | none=>none
def Zni (slots:List Nat) (tys:List VT) (e:Env) (J:Y4 tys→Zc→Prop) (h:Zc):Prop :=
  match ZjZ slots tys e with
  | some t=>J t h
  | none=>False
def mkN:Nat:=4294967291
def Zcd:Code→List Nat
  | .region _ ops _=>ops.toList.filterMap (·.dst)
  | .seq a b=>Zcd a++Zcd b
  | .cond _ a b=>Zcd a++Zcd b
  | .block _ a=>Zcd a
  | .loop a=>Zcd a
  | .rangeFunc _ _ _ _=>[mkN]
  | _=>[]
def ZkN (slots:List Nat) (kill:List (Nat × Nat)) (a:Code):Bool:=(Zcd a).all fun j=>bif Nat.beq j mkN then false else ZlR slots j||Zjr kill j
def ZoD (K:Env→Zc→Prop) (Q:Ex→Env→Zc→Prop):Ex→Env→Zc→Prop
  | .normal,e,h=>K e h
  | .exit id,e,h=>Q (.exit id) e h
  | .ret,e,h=>Q .ret e h
def Zpc (id:Nat) (Q:Ex→Env→Zc→Prop):Ex→Env→Zc→Prop
  | .normal,e,h=>Q .normal e h
  | .exit id',e,h=>bif Nat.beq id' id then Q .normal e h else Q (.exit id') e h
  | .ret,e,h=>Q .ret e h
def ZhG (n:Nat) (e:Env):List Tmp→List EV→Option Env
  | [],[]=>some e
  | p::ps,v::vs=>bif Nat.blt p n then ZhG n (e.set p v) ps vs else none
  | _,_=>none
def Zqk (a:Code):Bool:=ZlR (Zcd a) mkN
def Znp:Op→Bool
  | .defer _=>true
  | _=>false
def Zfm:List Oper→Bool
  | []=>true
  | o::os=>bif Znp o.op then false else Zfm os
def Ann.fst:Ann→Ann
  | .seq a _ | .cut _ _ _ a _ | .cond a _ | .block a | .loop _ _ _ a | .range _ a _=>a
  | .leaf | .order _=> .leaf
def Ann.snd:Ann→Ann
  | .seq _ b | .cut _ _ _ _ b | .cond _ b | .range _ _ b=>b
  | _=> .leaf
def Zo5 (K:Env→Zc→Prop):Ex→Env→Zc→Prop
  | .normal,e,h=>K e h
  | _,_,_=>False
def Zo4 (k:Option Code→Zc→Prop):Ex→Env→Zc→Prop
  | .normal,_,h=>k none h
  | .exit id,_,h=>k (some (.exit id)) h
  | .ret,_,h=>k (some .ret) h
def wpC (c:Cfg):Code→Ann→Env→Zc→(Ex→Env→Zc→Prop)→Prop
  | .skip,_,e,h,Q=>Q .normal e h
  | .region _ ops draw,ann,e,h,Q =>
    match draw with
    | true=>match ann with
      | .order l=>bif Region.noSelect ops&&(Nat.ble l.depth ops.size&&Zfm ops.toList) then Zjk c ops (fun e' h'=>Q .normal e' h') l 0 [] e h else False
      | _=>bif c.rnd.isNone&&Region.lexB .any ops then Zct c (ZmX c) ops.toList ops.toList e h fun e' h'=>Q .normal e' h' else False
    | false=>Zct c (Zst c) ops.toList ops.toList e h fun e' h'=>Q .normal e' h'
  | .seq a b,ann,e,h,Q =>
    match ann with
    | .cut slots tys kill x y =>
      bif ZkN slots kill a then
        Zg9 (fun t h'=>wpC c b y (Znu slots (Y4.evs tys t) kill e) h' Q) (fun J=>wpC c a x e h (ZoD (fun e' h'=>Zni slots tys e' J h') Q))
      else False
    | ann=>wpC c a ann.fst e h (ZoD (fun e' h'=>wpC c b ann.snd e' h' Q) Q)
  | .cond x a b,ann,e,h,Q =>
    match e.ev x with
    | some (.lit true)=>wpC c a ann.fst e h Q
    | some (.lit false)=>wpC c b ann.snd e h Q
    | some (.val (.bool v))=>Zs v (wpC c a ann.fst e h Q) (wpC c b ann.snd e h Q)
    | _=>False
  | .block id a,ann,e,h,Q=>wpC c a ann.fst e h (Zpc id Q)
  | .loop a,ann,e,h,Q =>
    match ann with
    | .loop slots tys kill x =>
      bif ZkN slots kill a then
        match ZjZ slots tys e with
        | some t0=>YK (fun J t h'=>wpC c a x (Znu slots (Y4.evs tys t) kill e) h' (ZoD (fun e' h''=>Zni slots tys e' J h'') Q)) t0 h
        | none=>False
      else False
    | _=>False
  | .exit id,_,e,h,Q=>Q (.exit id) e h
  | .ret,_,e,h,Q=>Q .ret e h
  | .rangeFunc g ps assign body,ann,e,h,Q =>
    match ann with
    | .range tys x y=>bif c.rnd.isNone&&e.mD.isNone then
      (match e.ev g with
      | some (.val (.func (.func f) ⟨[]⟩ ⟨cs⟩))=>match Zlg f (cs.map EV.val) c.iters with
        | some ⟨s,t⟩ =>
          ZhK ps.size (fun Y l K h'=>s.sem Y l t K h')
           (fun l r vs h' k=>ZnF (fun a:Y4 tys=>(Y4.evs tys a).map EV.v) vs fun a=>match ZhG c.n ⟨e.f,none⟩ ps.toList (Y4.evs tys a) with
             | some e1=>wpC { c with rnd:=some l,pan:=fun _ _=>False } assign x e1 h' (Zo5 fun e2 h2 =>
                 Zkh r l h2 fun h3=>wpC { c with rnd:=some l,pan:=fun _ _=>False } body y e2 h3 (Zo4 k))
             | none=>False)
           h fun p D h'=>Zka p (Q .normal ⟨e.f,some D⟩ h') (fun id=>Q (.exit id) ⟨e.f,some D⟩ h') (Q .ret ⟨e.f,some D⟩ h')
        | none=>False
      | _=>False)
      else False
    | _=>False
  | _,_,_,_,_=>False
def ZnU (c:Cfg) (e:Env) (h:Zc):List ResultVar→(List EV→Prop)→Prop
  | [],K=>K []
  | .tmp t::r,K=>match e.f t with
    | some v=>ZnU c e h r fun vs=>K (v::vs)
    | none=>False
  | .cell a t::r,K=>match e.f a with
    | some (.adr b o)=>ldT c.P t h b o fun v=>ZnU c e h r fun vs=>K (v::vs)
    | _=>False
def Zhf (l:List EV):Env:=⟨fun j=>go l 0 j,none⟩
where go:List EV→Nat→Nat→Option EV
  | [],_,_=>none
  | v::vs,i,j=>bif Nat.beq j i then some v else go vs (i+1) j
def ZqG (c:Cfg) (fn:Func) (ann:Ann) (args:List EV) (res:List VT) (K:Y4 res→Zc→Prop) (Kp:Value→Zc→Prop) (h:Zc):Prop :=
  match fn.body with
  | some code=>wpC { c with rnd:=none,pan:=bif Zqk code then fun _ _=>False else Kp } code ann (Zhf args) h fun ex e h' =>
    match ex with
    | .exit _=>False
    | _=>match e.mD with
      | none=>ZnU c e h' fn.results.toList fun vs=>match Y4.un res vs with
        | some r=>K r h'
        | none=>False
      | some D=>Zd4 D h' fun h'=>ZnU c e h' fn.results.toList fun vs=>match Y4.un res vs with
        | some r=>K r h'
        | none=>False
  | none=>False
theorem ZiT (w:World) (b o:Nat):w.cell? ⟨b,o,none⟩=Zc.cell w.heap b o:=by
  unfold World.cell? Zc.cell
  simp only [Option.isSome_none,Bool.false_eq_true,if_false]
  cases w.heap[b]? with
  | none=>rfl
  | some x=>cases x<;>rfl
theorem Zqm (w:World) (b o:Nat):w.frozen? ⟨b,o,none⟩=Zc.froz w.heap b o:=by
  unfold World.frozen? Zc.froz
  rfl
theorem Zk7 (w:World) (b o:Nat) (v:Value):w.setCell ⟨b,o,none⟩ v={ w with heap:=Zc.put w.heap b o v }:=by
  unfold World.setCell Zc.put
  simp only [Option.isSome_none,Bool.false_eq_true,if_false]
  refine congrArg (fun f=>({ w with heap:=w.heap.modify b f }:World)) ?_
  funext x
  cases x<;>rfl
theorem Zhj (b o n:Nat):(⟨b,o,none⟩:Addr).add n=⟨b,o+n,none⟩:=by
  unfold Addr.add
  split
  ·rename_i h;subst h;rfl
  ·rfl
theorem Zkk (o i:Nat):ZsP o i=o+i:=by
  unfold ZsP
  cases h:Nat.beq i 0 with
  | false=>rfl
  | true=>have:=Nat.eq_of_beq_eq_true h;subst this;rfl
def Same (w w':World):Prop:=w'.tape=w.tape∧w'.os=w.os∧w'.output=w.output
theorem Same.refl (w:World):Same w w:=⟨rfl,rfl,rfl⟩
theorem Same.trans {a b c:World} (h:Same a b) (h':Same b c):Same a c:=⟨h'.1.trans h.1,h'.2.1.trans h.2.1,h'.2.2.trans h.2.2⟩
def Zqa:Option Nat→List Deferred
  | none=>[]
  | some D=>[{ target:= .collected D,args:= #[]}]
structure Agr (n:Nat) (e:Env) (a:Act):Prop where
  size:a.tmps.size=n
  defers:a.defers=Zqa e.mD
  val:∀ j v,e j=some v→a.tmps[j]?=some v.v
theorem Agr.ev {n:Nat} {e:Env} {a:Act} (h:Agr n e a) {x:Operand} {v:EV} (hx:e.ev x=some v):a.eval x=v.v:=by
  cases x with
  | tmp t=>have:=h.val t v hx;simp [Act.eval,this]
  | const c =>
    cases c<;>simp only [Env.ev,Option.some.injEq] at hx<;>subst hx<;>rfl
  | global g=>simp only [Env.ev,Option.some.injEq] at hx;subst hx;rfl
  | func f=>simp only [Env.ev,Option.some.injEq] at hx;subst hx;rfl
theorem Agr.evs {n:Nat} {e:Env} {a:Act} (h:Agr n e a):∀ {xs:List Operand} {vs:List EV},evs e xs=some vs→xs.map a.eval=vs.map EV.v
  | [],vs,hx=>by simp only [Fw.evs,Option.some.injEq] at hx;subst hx;rfl
  | x::xs,vs,hx=>by
    simp only [Fw.evs] at hx
    split at hx
    ·rename_i v vs' h1 h2
     simp only [Option.some.injEq] at hx;subst hx
     simp [h.ev h1,h.evs h2]
    ·cases hx
theorem Agr.set {n:Nat} {e:Env} {a:Act} (h:Agr n e a) {d:Nat} (hd:Nat.blt d n=true) (v:EV):Agr n (e.set d v) (a.put (some d) v.v):=by
  have hlt:d<n:=by rw [Nat.blt_eq] at hd;exact hd
  refine ⟨by simp [Act.put,h.size],by simp [Act.put,h.defers,Env.set],fun j u hj=>?_⟩
  unfold Env.set at hj
  dsimp only at hj
  cases hb:Nat.beq j d with
  | true =>
    have:=Nat.eq_of_beq_eq_true hb;subst this
    rw [hb] at hj
    simp only [cond_true,Option.some.injEq] at hj
    subst hj
    simp [Act.put,h.size,hlt]
  | false =>
    have hne:j≠d:=Nat.ne_of_beq_eq_false hb
    rw [hb] at hj
    simp only [cond_false] at hj
    have:=h.val j u hj
    simp [Act.put,Array.getElem?_setIfInBounds_ne (Ne.symm hne),this]
theorem Agr.tell {n:Nat} {e:Env} {a:Act} (h:Agr n e a) {t:Nat} {b:Bool} (ht:e t=some (.val (.bool b))):Agr n (e.set t (.lit b)) a:=by
  refine ⟨h.size,h.defers,fun j u hj=>?_⟩
  unfold Env.set at hj
  dsimp only at hj
  cases hb:Nat.beq j t with
  | true =>
    have:=Nat.eq_of_beq_eq_true hb;subst this
    rw [hb] at hj
    simp only [cond_true,Option.some.injEq] at hj
    subst hj
    have:=h.val j _ ht
    exact this
  | false =>
    rw [hb] at hj
    exact h.val j u hj
theorem Za0 {n:Nat} {e:Env} {a:Act} (h:Agr n e a) {d:Option Tmp} {v:EV} {K:Env→Prop} (hk:ZjM n e d v K) :
    ∃ e',Agr n e' (a.put d v.v)∧K e':=by
  unfold ZjM at hk
  cases d with
  | none=>exact ⟨e,h,hk⟩
  | some d =>
    simp only at hk
    cases hb:Nat.blt d n with
    | false=>rw [hb] at hk;exact hk.elim
    | true=>rw [hb] at hk;exact ⟨_,h.set hb v,hk⟩
section
variable (P:Program) (w:World)
theorem ZdB {b o:Nat} {v:Value} (h:Zc.cell w.heap b o=some v) (m:Mode):(load ⟨b,o,none⟩ m).run P w = .ok v w:=by
  rw [run_load,ZiT,h]
theorem Zhs {b o:Nat} {u v:Value} (h:Zc.cell w.heap b o=some u) (hf:Zc.froz w.heap b o=false) (hv:Zx v=true) (m:Mode) :
    (store ⟨b,o,none⟩ v m).run P w = .ok () { w with heap:=Zc.put w.heap b o v }:=by
  have hv':v.oneCell'=true:=by cases v<;>first | rfl | (simp [Zx] at hv)
  rw [run_store P w _ v m hv',ZiT,h,Zqm,hf]
  simp only [Bool.false_eq_true,if_false,Zk7]
theorem Zh (t:TypeId) {d:TypeDesc} (h:P.underlying t=some d):(underlying t).run P w = .ok d w:=by
  unfold underlying
  simp [h]
theorem X9 (t:TypeId) {i:TypeInfo} (h:P.info? t=some i):(typeInfo t).run P w = .ok i w:=by
  unfold typeInfo
  simp [h]
theorem YP (t:TypeId) {i:TypeInfo} (h:P.info? t=some i):(sizeOf t).run P w = .ok i.size w:=by
  unfold sizeOf
  simp [X9 P w t h]
theorem Xe (t:TypeId) {i:TypeInfo} {v:Value} (h:P.info? t=some i) (hv:i.zero=some v):(zeroValue t).run P w = .ok v w:=by
  unfold zeroValue
  simp [X9 P w t h,hv]
theorem XJ {t:TypeId} {d:TypeDesc} (h:P.underlying t=some d):∃ i,P.info? t=some i:=by
  unfold Program.underlying at h
  cases hi:P.info? t with
  | none=>simp [hi] at h
  | some i=>exact ⟨i,rfl⟩
theorem Zap {t:TypeId} {i:TypeInfo} (h:P.info? t=some i):P.cellsOf t=i.size:=by
  unfold Program.cellsOf
  simp [h]
theorem Zca (t:TypeId) {d:TypeDesc} (h:P.underlying t=some d):(isAgg t).run P w = .ok (Zam (some d)) w:=by
  unfold isAgg
  simp only [Sem.run_bind,Zh P w t h,Result.andThen_ok]
  cases d<;>rfl
theorem Zdn (b o:Nat):∀ (vs:List Value) (i:Nat) (acc:Array Value),Zc.has w.heap b (o+i) vs →
    (loadCellsFrom ⟨b,o,none⟩ i vs.length acc).run P w = .ok (acc++vs.toArray) w
  | [],i,acc,_=>by simp [loadCellsFrom]
  | v::vs,i,acc,h=>by
    have h1:Zc.cell w.heap b (o+i)=some v:=h.1
    have h2:Zc.has w.heap b (o+i+1) vs:=h.2
    simp only [List.length_cons,loadCellsFrom,Sem.run_bind,Zhj,ZdB P w h1,Result.andThen_ok]
    rw [Zdn b o vs (i+1) _ (by rw [← Nat.add_assoc];exact h2)]
    simp
theorem Zbg (b o:Nat) (vs:List Value) (h:Zc.has w.heap b o vs):(loadCells ⟨b,o,none⟩ vs.length).run P w = .ok vs.toArray w:=by
  unfold loadCells
  rw [Zdn P w b o vs 0 #[] (by simpa using h)]
  simp
end
theorem Zkg {h:Zc} {b o b' o':Nat} {v:Value} (hne:b≠b'∨o≠o'):(h.put b o v).cell b' o'=h.cell b' o':=by
  unfold Zc.put Zc.cell
  simp only [Array.getElem?_modify]
  by_cases hb:b=b'
  ·subst hb
   have ho:o≠o':=hne.resolve_left (fun h=>h rfl)
   simp only [if_true]
   cases hh:h[b]? with
   | none=>rfl
   | some x=>cases x<;>simp [Array.getElem?_setIfInBounds_ne ho]
  ·simp [hb]
theorem Zov {h:Zc} {b o b' o':Nat} {v:Value}:(h.put b o v).froz b' o'=h.froz b' o':=by
  unfold Zc.put Zc.froz
  simp only [Array.getElem?_modify]
  by_cases hb:b=b'
  ·subst hb
   simp only [if_true]
   cases hh:h[b]? with
   | none=>rfl
   | some x=>cases x<;>rfl
  ·simp [hb]
theorem ZkJ {h:Zc} {b o:Nat} {v:Value}:∀ {n o':Nat},o<o'→h.free b o' n→(h.put b o v).free b o' n
  | 0,_,_,_=>trivial
  | n+1,o',hlt,hf=>by
    obtain ⟨⟨⟨u,hu⟩,hz⟩,hr⟩:=hf
    exact ⟨⟨⟨u,by rw [Zkg (.inr (by omega))];exact hu⟩,by rw [Zov];exact hz⟩,ZkJ (by omega) hr⟩
theorem Zb0 (P:Program) (b o:Nat):∀ (vs:List Value) (i:Nat) (w:World),Zc.free w.heap b (o+i) vs.length→vs.all Zx=true →
    (storeCells ⟨b,o,none⟩ vs i).run P w = .ok () { w with heap:=Zc.puts w.heap b (o+i) vs }
  | [],i,w,_,_=>rfl
  | v::vs,i,w,hf,ha=>by
    obtain ⟨⟨⟨u,hu⟩,hz⟩,hr⟩:=hf
    simp only [List.all_cons,Bool.and_eq_true] at ha
    simp only [storeCells,Sem.run_bind,Zhj,Zhs P w hu hz ha.1,Result.andThen_ok]
    rw [Zb0 P b o vs (i+1) _ (by rw [← Nat.add_assoc];exact ZkJ (by omega) hr) ha.2]
    simp [Zc.puts,Nat.add_assoc]
theorem Ze0 {d:Option TypeDesc} {h:Zc} {b o:Nat} {K:EV→Prop} (hk:ZgY d h b o K) :
    ∃ v,h.cell b o=some v.v∧K v∧Zam d=false∧d.isSome=true:=by
  unfold ZgY at hk
  cases d with
  | none=>exact hk.elim
  | some d =>
    cases d<;>simp only at hk<;>first
      | exact hk.elim
      | (obtain ⟨x,hx,hK⟩:=hk;refine ⟨_,?_,hK,rfl,rfl⟩;exact hx)
theorem ZfX {h:Zc} {b o:Nat}:∀ {ds:List (Option TypeDesc)} {i:Nat} {K:List Value→Prop},Zos h b o i ds K →
    ∃ vs,vs.length=ds.length∧h.has b (o+i) vs∧K vs
  | [],i,K,hk=>⟨[],rfl,trivial,hk⟩
  | d::ds,i,K,hk=>by
    obtain ⟨v,hc,hk,_⟩:=Ze0 hk
    obtain ⟨vs,hl,hh,hk⟩:=ZfX hk
    rw [Zkk] at hc
    exact ⟨v.v::vs,by simp [hl],⟨hc,by rw [Nat.add_assoc];exact hh⟩,hk⟩
theorem ZkG {P:Program} {t:TypeId} {b o:Nat} {K:EV→Prop} {h:Zc} (hk:ldT P t h b o K) :
    ∃ v,(∀ w:World,w.heap=h→(loadVar t ⟨b,o,none⟩).run P w = .ok v.v w)∧K v:=by
  unfold ldT at hk
  cases hu:P.underlying t with
  | none=>rw [hu] at hk;simp [Zam,ZgY] at hk
  | some d =>
    obtain ⟨i,hi⟩:=XJ P hu
    rw [hu] at hk
    unfold loadVar
    cases ha:Zam (some d) with
    | true =>
      rw [ha] at hk
      simp only [cond_true] at hk
      cases hl:Nat.beq (ZcB P 8 t).length (P.cellsOf t) with
      | false=>rw [hl] at hk;exact hk.elim
      | true =>
        rw [hl] at hk
        obtain ⟨vs,hlen,hh,hk⟩:=ZfX hk
        have hs:i.size=vs.length:=by rw [hlen,Nat.eq_of_beq_eq_true hl,Zap P hi]
        refine ⟨.val (.agg vs.toArray),fun w hw=>?_,hk⟩
        subst hw
        simp only [Sem.run_bind,Zca P w t hu,ha,Result.andThen_ok,if_true,YP P w t hi,hs]
        rw [Zbg P w b o vs (by simpa using hh)]
        rfl
    | false =>
      rw [ha] at hk
      obtain ⟨v,hc,hk,_⟩:=Ze0 hk
      refine ⟨v,fun w hw=>?_,hk⟩
      subst hw
      simp only [Sem.run_bind,Zca P w t hu,ha,Result.andThen_ok,Bool.false_eq_true,if_false]
      exact ZdB P w hc _
def Zsp (vs:List VT) (t:Y4 vs):Value:=(ZcI (Y4.evs vs t)).v
def fen (r:Option Nat):Fence:={ fn:=fun _=>True,depth:=none,alive:=false,round:=r }
theorem ZdO {r:Option Nat} {n:Nat} {P:Program} {f:FuncId} {args:Array Value} {w:World} {R:Ending→World→Prop}:CallsIn (fen r) n P f args w R↔Calls P f args w R :=
  callsIn_wide (n:=n)
def ZeM (res:List VT) (w:World) (K:Y4 res→Zc→Prop) (Kp:Value→Zc→Prop):Ending→World→Prop:=fun e w' =>
  (∃ r,e = .returned (Zsp res r)∧Same w w'∧K r w'.heap)∨(∃ v,e = .panicked [{ v,recovered:=false }]∧Same w w'∧Kp v w'.heap)
def ZoM (P:Program) (l:Nat) (vs:List Value) (w:World) (k:Bool→Zc→Prop):Prop :=
  ∃ fn tmps assign body,(Instr.yield l vs.toArray).run P w = .ok (.round l fn tmps assign body) w ∧
    RoundIn (fen none) 0 P l fn tmps assign body w fun e w'=>∃ b,e = .returned (.bool b)∧Same w w'∧k b w'.heap
def YOK (P:Program) (Y:Yld):Prop:=∀ l vs k w,Y l vs k w.heap→ZoM P l vs w k
structure Zk (P:Program) (f:FuncId) (s:Zd):Prop where
  named:∃ fn,P.funcs[f]?=some fn∧(fn.name == "runtime.NumGoroutine")=false∧fn.body.isNone=false
  calls:∀ (t:Y4 s.args) (K:Y4 s.res→Zc→Prop) (Kp:Value→Zc→Prop) (w:World),s.sem t K Kp w.heap →
    Calls P f ((Y4.evs s.args t).map EV.v).toArray w (ZeM s.res w K Kp)
def Zay.spec (s:Zay) (Y:Yld):Zd:=⟨.yl::s.caps,[],fun t K _ h=>s.sem Y t.1 t.2 (fun h'=>K () h') h⟩
def ZjJ (P:Program) (f:FuncId) (s:Zay):Prop:=∀ Y,YOK P Y→Zk P f (s.spec Y)
def ZnR (P:Program) (f:FuncId):Prop:=∀ (t b:Nat) (es:Array MapEntry) (c:Nat) (w:World),w.heap[b]?=some (.map es c) →
  ∃ w',(callFunc f #[.iface t (.map (some b))]).run P w = .ok (.value (.iface t (.map (some w.heap.size)))) w'∧Same w w'∧w'.heap=w.heap.push (.map es c)
def ZkY (P:Program) (name:String) (t:TypeId) (f:FuncId):Prop:=∀ (v:Value) (w:World),(method (P.types.size+Made.depth) t v name).run P w = .ok (f,v) w
structure Cfg.OK (c:Cfg):Prop where
  calls:∀ x,x∈c.calls→Zk c.P x.1 x.2
  ext:∀ f,f∈c.ext→ZnR c.P f
  dyn:∀ x,x∈c.dyn→ZkY c.P x.1 x.2.1 x.2.2
  iters:∀ x,x∈c.iters→ZjJ c.P x.1 x.2
  yld:YOK c.P c.yld
theorem Cfg.OK.at {c:Cfg} (h:c.OK) (r:Option Nat) (p:Value→Zc→Prop):Cfg.OK { c with rnd:=r,pan:=p }:=⟨h.calls,h.ext,h.dyn,h.iters,h.yld⟩
theorem Zo (P:Program):YOK P Zv:=fun _ _ _ _ h=>h.elim
theorem ZgN {f:FuncId} {es:List EV}:∀ {l:List (FuncId × Zay)} {p:ZnL},Zlg f es l=some p→(f,p.s)∈l∧Y4.un p.s.caps es=some p.t
  | [],p,h=>by simp [Zlg] at h
  | (g,s)::r,p,h=>by
    simp only [Zlg] at h
    cases hb:Nat.beq f g with
    | false =>
      rw [hb] at h
      have:=ZgN (l:=r) h
      exact ⟨.tail _ this.1,this.2⟩
    | true =>
      rw [hb] at h
      have he:=Nat.eq_of_beq_eq_true hb
      subst he
      simp only [cond_true] at h
      split at h
      ·rename_i t ht
       simp only [Option.some.injEq] at h
       subst h
       exact ⟨.head _,ht⟩
      ·have:=ZgN (l:=r) h
       exact ⟨.tail _ this.1,this.2⟩
theorem Zeb {f:FuncId} {es:List EV}:∀ {l:List (FuncId × Zd)} {p:Zpf},Zhv f es l=some p→(f,p.s)∈l∧Y4.un p.s.args es=some p.t
  | [],p,h=>by simp [Zhv] at h
  | (g,s)::r,p,h=>by
    simp only [Zhv] at h
    cases hb:Nat.beq f g with
    | false =>
      rw [hb] at h
      have:=Zeb (l:=r) h
      exact ⟨.tail _ this.1,this.2⟩
    | true =>
      rw [hb] at h
      have he:=Nat.eq_of_beq_eq_true hb
      subst he
      simp only [cond_true] at h
      split at h
      ·rename_i t ht
       simp only [Option.some.injEq] at h
       subst h
       exact ⟨.head _,ht⟩
      ·have:=Zeb (l:=r) h
       exact ⟨.tail _ this.1,this.2⟩
theorem Zfk {f:FuncId} {es:List EV}:∀ {l:List (FuncId × Zd)} {p:ZiW},Zhu f es l=some p→(f,(⟨p.a0::p.rest,p.res,p.sem⟩:Zd))∈l∧Y4.un p.rest es=some p.t
  | [],p,h=>by simp [Zhu] at h
  | (g,⟨a0::rest,res,sem⟩)::r,p,h=>by
    simp only [Zhu] at h
    cases hb:Nat.beq f g with
    | false =>
      rw [hb] at h
      have:=Zfk (l:=r) h
      exact ⟨.tail _ this.1,this.2⟩
    | true =>
      rw [hb] at h
      have he:=Nat.eq_of_beq_eq_true hb
      subst he
      simp only [cond_true] at h
      split at h
      ·rename_i t ht
       simp only [Option.some.injEq] at h
       subst h
       exact ⟨.head _,ht⟩
      ·have:=Zfk (l:=r) h
       exact ⟨.tail _ this.1,this.2⟩
  | (g,⟨[],res,sem⟩)::r,p,h=>by
    simp only [Zhu] at h
    have:=Zfk (l:=r) h
    exact ⟨.tail _ this.1,this.2⟩
theorem ZjC {calls:List (FuncId × Zd)} {Kp:Value→Zc→Prop} {name:String} {v:Value} {es:List EV} {h:Zc} {K:EV→Zc→Prop}:∀ {l:List (String × TypeId × FuncId)},Zqr calls Kp name v es h K l →
    ∃ (t:TypeId) (f:FuncId) (p:ZiW) (x:p.a0.D),(name,t,f)∈l∧v = .iface t (p.a0.ev x).v∧Zhu f es calls=some p∧p.sem (x,p.t) (fun rr h'=>K (ZcI (Y4.evs p.res rr)) h') Kp h
  | [],hk=>hk.elim
  | (n,t,f)::r,hk=>by
    have tail:Zqr calls Kp name v es h K r→∃ (t':TypeId) (f':FuncId) (p:ZiW) (x:p.a0.D),(name,t',f')∈(n,t,f)::r∧v = .iface t' (p.a0.ev x).v∧Zhu f' es calls=some p∧p.sem (x,p.t) (fun rr h'=>K (ZcI (Y4.evs p.res rr)) h') Kp h:=fun h9=>by
      obtain ⟨t',f',p,x,h1,h2,h3,h4⟩:=ZjC h9
      exact ⟨t',f',p,x,.tail _ h1,h2,h3,h4⟩
    simp only [Zqr] at hk
    cases hb:n ==name with
    | false=>rw [hb] at hk;exact tail hk
    | true =>
      rw [hb] at hk
      have he:n=name:=by simpa using hb
      subst he
      simp only [cond_true] at hk
      split at hk
      ·rename_i p hp
       rcases hk with ⟨x,hx,hk⟩ | hk
       ·exact ⟨t,f,p,x,.head _,hx,hp,hk⟩
       ·exact tail hk
      ·exact tail hk
theorem Zgs {calls:List (FuncId × Zd)} {Kp:Value→Zc→Prop} {v:Value} {es:List EV} {h:Zc} {K:EV→Zc→Prop}:∀ {l:List (FuncId × List Leaf)},fnP calls Kp v es h K l →
    ∃ (f:FuncId) (cs:List Value) (s:Zd) (t:Y4 s.args),v = .func (.func f) #[] ⟨cs⟩∧Zhv f (ZoE es cs) calls=some ⟨s,t⟩∧s.sem t (fun rr h'=>K (ZcI (Y4.evs s.res rr)) h') Kp h
  | [],hk=>hk.elim
  | (f,[])::r,hk=>by
    simp only [fnP] at hk
    split at hk
    ·rename_i s t hp
     rcases hk with ⟨hv,hk⟩ | hk
     ·exact ⟨f,[],s,t,hv,by simpa [ZoE] using hp,hk⟩
     ·exact Zgs hk
    ·exact Zgs hk
  | (f,l::ls)::r,hk=>by
    simp only [fnP] at hk
    rcases hk with ⟨c,hv,hk⟩ | hk
    ·split at hk
     ·rename_i s t hp
      exact ⟨f,_,s,t,hv,hp,hk⟩
     ·exact hk.elim
    ·exact Zgs hk
theorem ZkI {f:FuncId}:∀ {l:List FuncId},ZqF f l=true→f∈l
  | [],h=>by simp [ZqF] at h
  | g::r,h=>by
    simp only [ZqF] at h
    cases hb:Nat.beq f g with
    | true=>rw [Nat.eq_of_beq_eq_true hb];exact .head _
    | false=>rw [hb] at h;exact .tail _ (ZkI h)
theorem Zsg {l:Leaf} {v:Value} {x:l.D} (h:l.un v=some x):l.mk x=v:=by
  cases l<;>cases v<;>simp only [Leaf.un] at h<;>first
    | (split at h
       ·simp only [Option.some.injEq] at h;subst h;rename_i hk;subst hk;rfl
       ·cases h)
    | (simp only [Option.some.injEq] at h;subst h;rfl)
    | cases h
theorem ZmL:∀ {ls:List Leaf} {vs:List Value} {t:Tup ls},Tup.un ls vs=some t→Tup.vals ls t=vs
  | [],[],t,_=>rfl
  | [],_::_,t,h=>by simp [Tup.un] at h
  | _::_,[],t,h=>by simp [Tup.un] at h
  | l::ls,v::vs,t,h=>by
    simp only [Tup.un] at h
    split at h
    ·rename_i x t' h1 h2
     simp only [Option.some.injEq] at h
     subst h
     simp only [Tup.vals,Zsg h1,ZmL h2]
    ·cases h
theorem Zox {f:FuncId} {e:EV} {x:Unit} (h:fnU f e=some x):(EV.val (.func (.func f) #[] #[])).v=e.v:=by
  unfold fnU at h
  split at h
  ·rename_i g
   cases hb:Nat.beq f g with
   | false=>rw [hb] at h;cases h
   | true=>rw [Nat.eq_of_beq_eq_true hb]
  ·cases h
theorem Zny {f:FuncId} {ls:List Leaf} {e:EV} {x:Tup ls} (h:ZwM f ls e=some x):(EV.val (.func (.func f) #[] ⟨Tup.vals ls x⟩)).v=e.v:=by
  unfold ZwM at h
  split at h
  ·rename_i g cs
   cases hb:Nat.beq f g with
   | false=>rw [hb] at h;cases h
   | true =>
     rw [hb] at h
     rw [Nat.eq_of_beq_eq_true hb,ZmL (ls:=ls) (vs:=cs) h]
  ·cases h
theorem Zn7 {e:EV} {l:Nat} (h:ylU e=some l):(EV.val (.func (.yield l) #[] #[])).v=e.v:=by
  unfold ylU at h
  split at h
  ·simp only [Option.some.injEq] at h;subst h;rfl
  ·cases h
theorem Zwx {v:VT} {e:EV} {x:v.D} (h:v.un e=some x):(v.ev x).v=e.v:=by
  cases v with
  | one l=>exact Zsg (v:=e.v) h
  | agg ls =>
    cases e with
    | val u =>
      cases u with
      | agg cs =>
        have:=ZmL (ls:=ls) (vs:=cs.toList) h
        show Value.agg (Tup.vals ls x).toArray = .agg cs
        rw [this]
      | _=>simp [VT.un] at h
    | lit b=>simp [VT.un] at h
    | adr b o=>simp [VT.un] at h
    | itr t b=>simp [VT.un] at h
    | more k v=>simp [VT.un] at h
    | over=>simp [VT.un] at h
  | fn f=>exact Zox h
  | clo f ls=>exact Zny h
  | yl=>exact Zn7 h
theorem Zdz:∀ {vs:List VT} {es:List EV} {t:Y4 vs},Y4.un vs es=some t→(Y4.evs vs t).map EV.v=es.map EV.v
  | [],[],t,_=>rfl
  | [],_::_,t,h=>by simp [Y4.un] at h
  | _::_,[],t,h=>by simp [Y4.un] at h
  | v::vs,e::es,t,h=>by
    simp only [Y4.un] at h
    split at h
    ·rename_i x t' h1 h2
     simp only [Option.some.injEq] at h
     subst h
     simp only [Y4.evs,List.map_cons,Zwx h1,Zdz h2]
    ·cases h
theorem Zm7 {P:Program} {ρ:Operand→Value} {o:Oper} {w w':World} {n:Next} (hr:(execOp ρ o).run P w = .ok n w') (hn:∀ d,n≠ .defer d):∀ c,o.op≠ .defer c:=by
  intro c hc
  unfold execOp at hr
  rw [hc] at hr
  simp only [Sem.run_bind] at hr
  cases h:(resolve ρ c o.type).run P w with
  | ok d w1 =>
    rw [h] at hr
    simp only [Result.andThen_ok,Sem.run_pure] at hr
    cases hr
    exact hn _ rfl
  | halt x w1 =>
    rw [h] at hr
    cases hr
theorem Zfd {P:Program} {r:Option Nat} {ρ:Operand→Value} {o:Oper} {w w':World} {n:Next} (hr:(execOp ρ o).run P w = .ok n w') (hn:∀ d,n≠ .defer d):(o.semAt r ρ).run P w = .ok n w':=by
  rw [Oper.semAt_eq _ _ _ (Zm7 hr hn)]
  exact hr
theorem ZoZ {P:Program} {r:Option Nat} {o:Oper} {a:Act} {w w':World} {v:Value} {next:Act→World→Prop} {Q:Exit→Act→World→Prop}
    (hr:(execOp a.eval o).run P w = .ok (.value v) w') (hn:next (a.put o.dst v) w'):o.wpIn (fen r) 0 P a w next Q:=by
  refine ⟨fun _ _=>trivial,?_⟩
  rw [show (fen r).round=r from rfl,Zfd hr (fun _ h=>by cases h)]
  exact hn
theorem Zkv {P:Program} {r:Option Nat} {o:Oper} {a:Act} {w w':World} {next:Act→World→Prop} {Q:Exit→Act→World→Prop}
    (hr:(execOp a.eval o).run P w = .ok .skip w') (hn:next (a.put o.dst undef) w'):o.wpIn (fen r) 0 P a w next Q:=by
  refine ⟨fun _ _=>trivial,?_⟩
  rw [show (fen r).round=r from rfl,Zfd hr (fun _ h=>by cases h)]
  exact hn
theorem Ziq {P:Program} {r:Option Nat} {o:Oper} {a:Act} {w:World} {f:FuncId} {args:Array Value} {next:Act→World→Prop} {Q:Exit→Act→World→Prop}
    (hr:(execOp a.eval o).run P w = .ok (.enter f args) w) (hc:Calls P f args w fun
      | .returned v,w''=>next (a.put o.dst v) w''
      | .panicked chain,w''=>Q (.panic chain) a w''
      | .outgrown,_=>LetsOut Q):o.wpIn (fen r) 0 P a w next Q:=by
  refine ⟨fun _ _=>trivial,?_⟩
  rw [show (fen r).round=r from rfl,Zfd hr (fun _ h=>by cases h)]
  exact ⟨fun h=>(by cases h),ZdO.2 hc⟩
theorem Zn8 {P:Program} {r:Option Nat} {o:Oper} {a:Act} {w:World} {l:Nat} {f:FuncId} {tmps:Array Value} {assign body:Code} {next:Act→World→Prop} {Q:Exit→Act→World→Prop}
    (hr:(execOp a.eval o).run P w = .ok (.round l f tmps assign body) w) {k:Bool→World→Prop} (hc:RoundIn (fen none) 0 P l f tmps assign body w fun e w'=>∃ b,e = .returned (.bool b)∧k b w')
    (hn:∀ b w',k b w'→next (a.put o.dst (.bool b)) w'):o.wpIn (fen r) 0 P a w next Q:=by
  refine ⟨fun _ _=>trivial,?_⟩
  rw [show (fen r).round=r from rfl,Zfd hr (fun _ h=>by cases h)]
  refine ⟨fun h=>(by cases h),?_⟩
  have hc':RoundIn (fen r) (0 - 1) P l f tmps assign body w fun e w'=>∃ b,e = .returned (.bool b)∧k b w':=hc
  refine hc'.mono ?_
  rintro e w' ⟨b,rfl,hb⟩
  exact hn _ _ hb
theorem Zn9 {P:Program} {r:Option Nat} {o:Oper} {a:Act} {w:World} {v:Value} {next:Act→World→Prop} {Q:Exit→Act→World→Prop}
    (hd:∀ c,o.op≠ .defer c) (hr:(execOp a.eval o).run P w = .halt (.panic v) w) (hq:Q (.panic [{ v,recovered:=false }]) a w):o.wpIn (fen r) 0 P a w next Q:=by
  refine ⟨fun _ _=>trivial,?_⟩
  rw [show (fen r).round=r from rfl,Oper.semAt_eq _ _ _ hd,hr]
  exact hq
theorem ZmU {P:Program} {w w':World} {s:Sem Value} {v:Value} (h:s.run P w = .ok v w') :
    (do pure (.value (← s)):Sem Next).run P w = .ok (.value v) w':=by
  simp [h]
theorem Zso {P:Program} {w w':World} {s:Sem Unit} (h:s.run P w = .ok () w') :
    (do s;pure .skip:Sem Next).run P w = .ok .skip w':=by
  simp [h]
theorem ZoJ {P:Program} {op:BinOp} {t:TypeId} {x y:EV} {K:EV→Prop} (hk:Zpd op x y K):∃ v,(∀ w,(binOp op t x.v y.v).run P w = .ok v.v w)∧K v:=by
  unfold Zpd at hk
  split at hk
  ·rename_i k a k' b
   cases op<;>simp only at hk
   case shl =>
     obtain ⟨h0,hk⟩:=hk
     refine ⟨_,fun w=>?_,hk⟩
     simp only [EV.v,binOp,Op.shift,if_neg (Int.not_lt.2 h0)]
     rfl
   case shr =>
     obtain ⟨h0,hk⟩:=hk
     refine ⟨_,fun w=>?_,hk⟩
     simp only [EV.v,binOp,Op.shift,if_neg (Int.not_lt.2 h0)]
     rfl
   all_goals
     rcases Decidable.em (k=k') with he | he
     case inr=>rw [if_neg he] at hk;exact hk.elim
     subst he
     rw [if_pos rfl] at hk
     first
     | exact hk.elim
     | (obtain ⟨h0,hk⟩:=(show ZM _ _ from hk)
        refine ⟨_,fun w=>?_,hk⟩
        simp only [EV.v,binOp,ne_eq,not_true,if_false,Op.intDiv,if_neg h0]
        rfl)
     | (refine ⟨_,fun w=>?_,hk⟩;simp only [EV.v,binOp,ne_eq,not_true,if_false];rfl)
  ·rename_i a b
   cases op<;>simp only at hk
   case add =>
     obtain ⟨h0,hk⟩:=hk
     refine ⟨_,fun w=>?_,hk⟩
     have:¬ (((a.size+b.size:Nat):Int)>IntKind.i64.max):=by
       have:IntKind.i64.max=9223372036854775807:=by decide
       rw [this];omega
     simp only [EV.v,binOp,Op.stringOp,if_neg this]
     rfl
   all_goals first
     | exact hk.elim
     | (refine ⟨_,fun w=>?_,hk⟩;rfl)
  ·exact hk.elim
section
variable {P:Program} {t:TypeId} (w:World)
theorem Zft {e:TypeId} (hu:P.underlying t=some (.pointer e)) (p:Option Addr):(Op.equal t (.pointer p) (.pointer none)).run P w = .ok p.isNone w:=by
  unfold Op.equal Op.maxDepth
  rw [show (10000:Nat)=9999+1 from rfl]
  unfold Op.equalIn
  simp only [Sem.run_bind,Zh P w t hu,Result.andThen_ok]
  cases p<;>rfl
theorem Zg7 {e:TypeId} (hu:P.underlying t=some (.slice e)) (p:Option Addr) (n m n' m':Nat):(Op.equal t (.slice p n m) (.slice none n' m')).run P w = .ok p.isNone w:=by
  unfold Op.equal Op.maxDepth
  rw [show (10000:Nat)=9999+1 from rfl]
  unfold Op.equalIn
  simp only [Sem.run_bind,Zh P w t hu,Result.andThen_ok]
  cases p<;>rfl
theorem ZiQ {k e:TypeId} (hu:P.underlying t=some (.map k e)) (p:Option Nat):(Op.equal t (.map p) (.map none)).run P w = .ok p.isNone w:=by
  unfold Op.equal Op.maxDepth
  rw [show (10000:Nat)=9999+1 from rfl]
  unfold Op.equalIn
  simp only [Sem.run_bind,Zh P w t hu,Result.andThen_ok]
  cases p<;>rfl
theorem Zlx (hu:P.underlying t=some .bool) (a b:Bool):(Op.equal t (.bool a) (.bool b)).run P w = .ok (a ==b) w:=by
  unfold Op.equal Op.maxDepth
  rw [show (10000:Nat)=9999+1 from rfl]
  unfold Op.equalIn
  simp only [Sem.run_bind,Zh P w t hu,Result.andThen_ok]
  rfl
end
theorem Zqp {P:Program} {t:TypeId} {neg:Bool} {x y:EV} {K:EV→Prop} (hk:eqP (P.underlying t) neg x y K) :
    ∃ v,(∀ w,(binOp (bif neg then .neq else .eql) t x.v y.v).run P w = .ok v.v w)∧K v:=by
  unfold eqP at hk
  split at hk
  ·rename_i e b o hu
   refine ⟨_,fun w=>?_,hk⟩
   have:=Zft w hu (some ⟨b,o,none⟩)
   cases neg<;>simp only [cond_true,cond_false,EV.v,binOp,Sem.run_bind,this,Result.andThen_ok]<;>rfl
  ·rename_i e p hu
   refine ⟨_,fun w=>?_,hk⟩
   have:=Zft w hu p
   cases neg<;>simp only [cond_true,cond_false,EV.v,binOp,Sem.run_bind,this,Result.andThen_ok]<;>cases p<;>rfl
  ·rename_i e p n m n' m' hu
   refine ⟨_,fun w=>?_,hk⟩
   have:=Zg7 w hu p n m n' m'
   cases neg<;>simp only [cond_true,cond_false,EV.v,binOp,Sem.run_bind,this,Result.andThen_ok]<;>cases p<;>rfl
  ·rename_i k e p hu
   refine ⟨_,fun w=>?_,hk⟩
   have:=ZiQ w hu p
   cases neg<;>simp only [cond_true,cond_false,EV.v,binOp,Sem.run_bind,this,Result.andThen_ok]<;>cases p<;>rfl
  ·rename_i hu
   split at hk
   ·rename_i a b hx hy
    refine ⟨_,fun w=>?_,hk⟩
    have:=Zlx w hu a b
    rw [hx,hy]
    cases neg<;>simp only [cond_true,cond_false,EV.v,binOp,Sem.run_bind,this,Result.andThen_ok]<;>rfl
   ·exact hk.elim
  ·exact hk.elim
theorem Zjy (off:Nat):∀ (l:List Value) (k:Nat) (cs:Array Value),off+k+l.length≤cs.size →
    ((l.zipIdx k).foldl (fun cs x=>cs.setIfInBounds (off+x.2) x.1) cs).toList=cs.toList.take (off+k)++l++cs.toList.drop (off+k+l.length)
  | [],k,cs,h=>by simp
  | v::l,k,cs,h=>by
    simp only [List.zipIdx_cons,List.foldl_cons,List.length_cons] at h ⊢
    rw [Zjy off l (k+1) _ (by simp;omega)]
    have hlt:off+k<cs.toList.length:=by simp;omega
    simp only [Array.toList_setIfInBounds]
    rw [show off+(k+1)=off+k+1 from by omega,List.take_succ_eq_append_getElem (by simp;omega),List.take_set_of_le (by omega),List.drop_set_of_lt (by omega)]
    simp
    omega
def Zqy (place:Nat→Option (Nat × Nat)) (n:Nat):List (Nat × Value)→List (Nat × List Value)→Prop
  | [],[]=>True
  | p::ps,q::l=>place p.1=some (q.1,q.2.length)∧p.2.cells.toList=q.2∧q.1+q.2.length≤n∧Zqy place n ps l
  | _,_=>False
theorem Zc8 (place:Nat→Option (Nat × Nat)) (n:Nat):∀ (ps:List (Nat × Value)) (l:List (Nat × List Value)) (cs:Array Value),
    cs.size=n→Zqy place n ps l→Instr.fill place cs ps=some (ZcJ cs.toList l).toArray
  | [],[],cs,_,_=>by simp [Instr.fill,ZcJ]
  | [],_::_,cs,_,h=>h.elim
  | _::_,[],cs,_,h=>h.elim
  | (i,v)::ps,(o,vs)::l,cs,hn,h=>by
    obtain ⟨hp,hv,hle,h2⟩:=h
    simp only at hp hv hle
    have hlen:v.cells.size=vs.length:=by rw [← hv];simp
    have hfold:(v.cells.zipIdx.foldl (fun cs x=>match x with | (c,j)=>cs.setIfInBounds (o+j) c) cs).toList=cs.toList.take o++vs++cs.toList.drop (o+vs.length):=by
      rw [← Array.foldl_toList,Array.toList_zipIdx,hv]
      have:=Zjy o vs 0 cs (by omega)
      simpa using this
    have hsz:(v.cells.zipIdx.foldl (fun cs x=>match x with | (c,j)=>cs.setIfInBounds (o+j) c) cs).size=n:=by
      rw [← Array.length_toList,hfold]
      simp
      omega
    have ih:=Zc8 place n ps l _ hsz h2
    rw [hfold] at ih
    have hno:¬ (o+vs.length>cs.size):=by omega
    simp only [Instr.fill,hp,hlen,ne_eq,not_true,decide_false,Bool.false_or,hno,ZcJ]
    exact ih
theorem Zha (v:EV):v.v.cells.toList=Zfv v:=by
  cases v with
  | val v=>cases v<;>rfl
  | lit b=>rfl
  | adr b o=>rfl
  | itr t b=>rfl
  | more k v=>rfl
  | over=>rfl
theorem ZiS (v:EV):v.v.cells=(Zfv v).toArray:=by
  rw [← Zha]
section
variable {c:Cfg} {e:Env} {a:Act} {n:Nat}
theorem Zm5 {u:Value} (h:Zx u=true):u.cells.toList=[u]:=by
  cases u<;>first | rfl | cases h
theorem Znz {d:Option TypeDesc} {v:EV} (h:Zot d=true→Zx v.v=true):v.v.cells.toList=Zhb d v:=by
  unfold Zhb
  cases hb:Zot d with
  | true=>exact Zm5 (h hb)
  | false=>exact Zha v
theorem ZhS:∀ {l:List Value} {K:Prop},Zp9 l K→(∀ u,u∈l→Zx u=true)∧K
  | [],_,h=>⟨fun _ h9=>(by cases h9),h⟩
  | v::vs,K,h=>by
    obtain ⟨h1,h2⟩:=ZhS h.2
    refine ⟨fun u hu=>?_,h2⟩
    rcases List.mem_cons.1 hu with rfl | hu
    ·exact h.1
    ·exact h1 u hu
theorem Zgb (P:Program) (fs:List Field) (hag:Agr n e a) (k:Nat):∀ {ps:List (Nat × Operand)} {l:List (Nat × List Value)},ZgM P fs e k ps=some l→(∀ u,u∈Zja P fs e ps→Zx u=true) →
    Zqy (fun i=>(fs[i]?).map fun f=>(f.offset,P.cellsOf f.type)) k (ps.map fun x=>(x.1,a.eval x.2)) l
  | [],l,h,_=>by simp only [ZgM,Option.some.injEq] at h;subst h;exact trivial
  | (i,x)::r,l,h,hone=>by
    simp only [ZgM] at h
    split at h
    ·rename_i f v l' hf hv hl
     have hone1:Zot (P.underlying f.type)=true→Zx v.v=true:=fun hb=>hone _ (by unfold Zja;rw [hf,hv];simp [hb])
     have hone2:∀ u,u∈Zja P fs e r→Zx u=true:=fun u hu=>hone u (by
       unfold Zja
       rw [hf,hv]
       dsimp only
       cases Zot (P.underlying f.type) with
       | true=>exact List.mem_cons_of_mem _ hu
       | false=>exact hu)
     cases h1:Nat.beq (Zhb (P.underlying f.type) v).length (P.cellsOf f.type) with
     | false=>rw [h1] at h;cases h
     | true =>
       rw [h1] at h
       simp only [cond_true] at h
       cases h2:Nat.ble (f.offset+(Zhb (P.underlying f.type) v).length) k with
       | false=>rw [h2] at h;cases h
       | true =>
         rw [h2] at h
         simp only [cond_true,Option.some.injEq] at h
         subst h
         refine ⟨?_,?_,Nat.le_of_ble_eq_true h2,Zgb P fs hag k hl hone2⟩
         ·simp [hf,Nat.eq_of_beq_eq_true h1]
         ·simp only [hag.ev hv,Znz hone1]
    ·cases h
theorem Zea (size:Nat) (hag:Agr n e a) (k:Nat):∀ {ps:List (Nat × Operand)} {l:List (Nat × List Value)},ZfO size e k ps=some l →
    Zqy (fun i=>some (i*size,size)) k (ps.map fun x=>(x.1,a.eval x.2)) l
  | [],l,h=>by simp only [ZfO,Option.some.injEq] at h;subst h;exact trivial
  | (i,x)::r,l,h=>by
    simp only [ZfO] at h
    split at h
    ·rename_i v l' hv hl
     cases h1:Nat.beq (Zfv v).length size with
     | false=>rw [h1] at h;cases h
     | true =>
       rw [h1] at h
       simp only [cond_true] at h
       cases h2:Nat.ble (i*size+(Zfv v).length) k with
       | false=>rw [h2] at h;cases h
       | true =>
         rw [h2] at h
         simp only [cond_true,Option.some.injEq] at h
         subst h
         refine ⟨?_,?_,Nat.le_of_ble_eq_true h2,Zea size hag k hl⟩
         ·simp [Nat.eq_of_beq_eq_true h1]
         ·simp only [hag.ev hv,Zha]
    ·cases h
theorem ZeL {x:EV} {K:Nat→Nat→Prop} (h:atP x K):∃ b o,x.v = .pointer (some ⟨b,o,none⟩)∧K b o:=by
  unfold atP at h
  split at h
  ·exact ⟨_,_,rfl,h⟩
  ·obtain ⟨b,o,rfl,h⟩:=h;exact ⟨b,o,rfl,h⟩
  ·exact h.elim
theorem Zbd {P:Program} {t:TypeId} {zs:List Value} (h:Zgi P t=some zs):∃ i v,P.info? t=some i∧i.zero=some v∧v.cells.toList=zs:=by
  unfold Zgi at h
  split at h
  ·rename_i i hi
   split at h
   ·rename_i v hv
    simp only [Option.some.injEq] at h
    exact ⟨i,v,hi,hv,h⟩
   ·cases h
  ·cases h
theorem ZcE {P:Program} {t:TypeId} {s b:Nat} (h:ZjT P t=some (s,b)):∃ i,P.info? t=some i∧i.size=s∧i.bytes=b:=by
  unfold ZjT at h
  split at h
  ·rename_i i hi
   simp only [Option.some.injEq,Prod.mk.injEq] at h
   exact ⟨i,hi,h.1,h.2⟩
  ·cases h
theorem Zod {P:Program} {t:TypeId} {b o:Nat} {v:EV} {K:Zc→Prop} {w:World} (h:stT P t w.heap b o v K) :
    ∃ h',(storeVar t ⟨b,o,none⟩ v.v).run P w = .ok () { w with heap:=h' }∧K h':=by
  have key:∀ (i:TypeInfo) (vs:List Value),P.info? t=some i→i.size=vs.length→v.v.cells=vs.toArray→Zc.free w.heap b o vs.length→vs.all Zx=true →
      (storeVar t ⟨b,o,none⟩ v.v).run P w = .ok () { w with heap:=Zc.puts w.heap b o vs }:=by
    intro i vs hi hs hc hf ha
    unfold storeVar
    simp only [Sem.run_bind,YP P w t hi,Result.andThen_ok,hc,hs,List.size_toArray,ne_eq,not_true,if_false]
    have:=Zb0 P b o vs 0 w (by simpa using hf) ha
    simpa using this
  have one:Zam (P.underlying t)=false→Nat.beq (P.cellsOf t) 1=true→(∀ cs,v.v≠ .agg cs)→st w.heap b o v.v K →
      ∃ h',(storeVar t ⟨b,o,none⟩ v.v).run P w = .ok () { w with heap:=h' }∧K h':=by
    intro hA h1 hne hst
    obtain ⟨⟨u,hu⟩,hf,hone,hk⟩:=hst
    have hsz:=Nat.eq_of_beq_eq_true h1
    cases hi:P.info? t with
    | none=>unfold Program.cellsOf at hsz;simp [hi] at hsz
    | some i =>
      rw [Zap P hi] at hsz
      refine ⟨_,key i [v.v] hi (by simp [hsz]) ?_ ⟨⟨⟨u,hu⟩,hf⟩,trivial⟩ (by simp [hone]),hk⟩
      cases hv:v.v<;>first | rfl | exact absurd hv (hne _)
  unfold stT at h
  split at h
  ·rename_i cs
   cases hA:Zam (P.underlying t) with
   | false=>rw [hA] at h;exact h.elim
   | true =>
     rw [hA] at h
     simp only [cond_true] at h
     cases h1:Nat.beq cs.toList.length (P.cellsOf t) with
     | false=>rw [h1] at h;exact h.elim
     | true =>
       rw [h1] at h
       obtain ⟨hf,ha,hk⟩:=h
       have hsz:=Nat.eq_of_beq_eq_true h1
       cases hi:P.info? t with
       | none =>
         unfold Program.underlying at hA
         simp [hi,Zam] at hA
       | some i =>
         rw [Zap P hi] at hsz
         exact ⟨_,key i cs.toList hi hsz.symm rfl hf ha,hk⟩
  ·rename_i v' hne
   cases hA:Zam (P.underlying t) with
   | true=>rw [hA] at h;exact h.elim
   | false =>
     rw [hA] at h
     simp only [cond_false] at h
     cases h1:Nat.beq (P.cellsOf t) 1 with
     | false=>rw [h1] at h;exact h.elim
     | true =>
       rw [h1] at h
       refine one hA h1 (fun cs hcs=>?_) h
       cases v with
       | val u=>simp only [EV.v] at hcs;subst hcs;exact hne cs rfl
       | lit b=>cases hcs
       | adr b o=>cases hcs
       | itr t b=>cases hcs
       | more k v=>cases hcs
       | over=>cases hcs
theorem Zdv (zs:List Value) (n:Nat):(XS zs n).length=n*zs.length:=by
  simp [XS]
theorem Zg6 (zs:List Value):∀ (n i:Nat),i<n*zs.length→(XS zs n)[i]?=zs[i % zs.length]?
  | 0,i,h=>by omega
  | n+1,i,h=>by
    unfold XS
    rw [List.replicate_succ,List.flatten_cons]
    rcases Nat.lt_or_ge i zs.length with hi | hi
    ·rw [List.getElem?_append_left hi,Nat.mod_eq_of_lt hi]
    ·rw [List.getElem?_append_right hi]
     have:=Zg6 zs n (i - zs.length) (by rw [Nat.succ_mul] at h;omega)
     unfold XS at this
     rw [this,Nat.mod_eq_sub_mod hi]
theorem ZeT (zs:Array Value) (n m:Nat) (h:m=n*zs.size):((Array.range m).map (zs[· % zs.size]!)).toList=XS zs.toList n:=by
  subst h
  apply List.ext_getElem?
  intro i
  simp only [Array.toList_map,Array.toList_range,List.getElem?_map]
  rcases Nat.lt_or_ge i (n*zs.size) with hi | hi
  ·rw [Zg6 _ _ _ (by simpa using hi)]
   have hpos:0<zs.size:=by rcases Nat.eq_zero_or_pos zs.size with h0 | h0;· rw [h0] at hi;omega
                           ·exact h0
   have hm:i % zs.size<zs.size:=Nat.mod_lt _ hpos
   simp [hi,hm]
  ·rw [List.getElem?_eq_none (by simpa using hi)]
   rw [List.getElem?_eq_none (by rw [Zdv];simpa using hi)]
   rfl
end
theorem Zbe (P:Program) (w:World) (t:TypeId) (cs:Array Value):(newRow t cs).run P w = .ok ⟨w.heap.size,0,none⟩ { w with heap:=w.heap.push (.cells cs t)}:=by
  unfold newRow
  simp
theorem ZmV (P:Program) (w:World) (t:TypeId) (v:Value) {i:TypeInfo} (hi:P.info? t=some i) (hv:i.zero=some v) :
    (Instr.alloc t true (.tuple #[])).run P w = .ok (.pointer (some ⟨w.heap.size,0,none⟩)) { w with heap:=w.heap.push (.cells v.cells t)}:=by
  unfold Instr.alloc newVar
  simp [Xe P w t hi hv,Zbe]
theorem ZpX (P:Program) (w:World) (t:TypeId) (v:Value) :
    (Instr.box t v).run P w = .ok (.pointer (some ⟨w.heap.size,0,none⟩)) { w with heap:=w.heap.push (.cells v.cells t)}:=by
  unfold Instr.box newVar
  simp [Zbe]
theorem ZgU (P:Program) (w:World):∀ (l:List Field),(∀ f∈l,∃ i,P.info? f.type=some i) →
    (l.mapM fun f=>(do pure (f.offset,← sizeOf f.type):Sem (Nat × Nat))).run P w = .ok (l.map fun f=>(f.offset,P.cellsOf f.type)) w
  | [],_=>by simp
  | f::l,h=>by
    obtain ⟨i,hi⟩:=h f (by simp)
    have ih:=ZgU P w l (fun g hg=>h g (by simp [hg]))
    rw [List.mapM_cons]
    simp only [Sem.run_bind,YP P w f.type hi,Result.andThen_ok,Sem.run_pure,ih,List.map_cons,Zap P hi]
theorem Zgl (P:Program) (w:World) (t:TypeId) {fs:Array Field} {zs:List Value} {ps:List (Nat × Value)} {l:List (Nat × List Value)}
    (hu:P.underlying t=some (.struct fs)) (hz:Zgi P t=some zs) (hall:(fs.toList.all fun f=>(P.info? f.type).isSome)=true)
    (hf:Zqy (fun i=>(fs.toList[i]?).map fun f=>(f.offset,P.cellsOf f.type)) zs.length ps l) :
    (Instr.build t ps.toArray).run P w = .ok (.agg (ZcJ zs l).toArray) w:=by
  obtain ⟨i,v,hi,hv,rfl⟩:=Zbd hz
  unfold Instr.build
  simp only [Sem.run_bind,Xe P w t hi hv,Result.andThen_ok,Zh P w t hu]
  rw [Array.mapM_eq_mapM_toList]
  simp only [Sem.run_map,ZgU P w fs.toList (fun f hf=>by
    have:=List.all_eq_true.1 hall f hf
    exact Option.isSome_iff_exists.1 this),Result.andThen_ok]
  have:=Zc8 (fun (x:Nat)=>((fs.toList.map fun (f:Field)=>(f.offset,P.cellsOf f.type)).toArray)[x]?) v.cells.toList.length ps l v.cells (by simp) (by
    have e:(fun (x:Nat)=>((fs.toList.map fun (f:Field)=>(f.offset,P.cellsOf f.type)).toArray)[x]?)=(fun (i:Nat)=>(fs.toList[i]?).map fun (f:Field)=>(f.offset,P.cellsOf f.type)):=by
      funext x
      simp
    rw [e];exact hf)
  simp only [this]
  rfl
theorem ZgE (P:Program) (w:World) (t:TypeId) {n:Nat} {el:TypeId} {zs:List Value} {ps:List (Nat × Value)} {l:List (Nat × List Value)} {j:TypeInfo}
    (hu:P.underlying t=some (.array n el)) (hz:Zgi P t=some zs) (hj:P.info? el=some j)
    (hf:Zqy (fun i=>some (i*P.cellsOf el,P.cellsOf el)) zs.length ps l) :
    (Instr.build t ps.toArray).run P w = .ok (.agg (ZcJ zs l).toArray) w:=by
  obtain ⟨i,v,hi,hv,rfl⟩:=Zbd hz
  unfold Instr.build
  simp only [Sem.run_bind,Xe P w t hi hv,Result.andThen_ok,Zh P w t hu,YP P w el hj]
  have:=Zc8 (fun i=>some (i*j.size,j.size)) v.cells.toList.length ps l v.cells (by simp) (by rw [Zap P hj] at hf;exact hf)
  simp only [this]
  rfl
theorem Zht (P:Program) (w:World) (t:TypeId) {n:Nat} {el:TypeId} {zs:List Value} {ps:List (Nat × Value)} {l:List (Nat × List Value)}
    (hu:P.underlying t=some (.slice el)) (hz:Zgi P el=some zs) (hs:zs.length=P.cellsOf el) (hle:n*P.cellsOf el≤Zfw)
    (hf:Zqy (fun i=>some (i*P.cellsOf el,P.cellsOf el)) (n*P.cellsOf el) ps l) :
    (Instr.buildSlice t n ps.toArray).run P w = .ok (.slice (some ⟨w.heap.size,0,none⟩) n n) { w with heap:=w.heap.push (.cells (ZcJ (XS zs n) l).toArray el)}:=by
  obtain ⟨i,v,hi,hv,rfl⟩:=Zbd hz
  have hsz:=Zap P hi
  unfold Instr.buildSlice
  simp only [Sem.run_bind,Zh P w t hu,Result.andThen_ok,YP P w el hi]
  rw [hsz] at hs hle hf
  have h24:¬ (n*i.size>2 ^ 24):=by
    have:(2:Nat) ^ 24=Zfw:=by unfold Zfw;decide
    omega
  have hlen:v.cells.size=i.size:=by simpa using hs
  have fin:∀ z:Array Value,((Array.range (n*i.size)).map (fun x=>z[x % z.size]!)).toList=XS v.cells.toList n →
      Instr.fill (fun j=>some (j*i.size,i.size)) ((Array.range (n*i.size)).map (fun x=>z[x % z.size]!)) ps=some (ZcJ (XS v.cells.toList n) l).toArray:=by
    intro z hz'
    have:=Zc8 (fun j=>some (j*i.size,i.size)) (n*i.size) ps l ((Array.range (n*i.size)).map (fun x=>z[x % z.size]!)) (by simp) hf
    rw [hz'] at this
    exact this
  simp only [if_neg h24]
  by_cases h:n*i.size=0
  ·rw [if_pos h]
   have hz0:XS v.cells.toList n=[]:=List.eq_nil_of_length_eq_zero (by rw [Zdv];simpa [hlen] using h)
   simp only [Sem.run_bind,Sem.run_pure,Result.andThen_ok]
   rw [fin #[] (by rw [hz0];simp [h])]
   simp only [Sem.run_bind,Zbe,Result.andThen_ok,Sem.run_pure]
  ·rw [if_neg h]
   simp only [Sem.run_bind,Xe P w el hi hv,Sem.run_pure,Result.andThen_ok]
   rw [fin v.cells (ZeT v.cells n _ (by rw [hlen]))]
   simp only [Sem.run_bind,Zbe,Result.andThen_ok,Sem.run_pure]
theorem ZhH {P:Program} {w:World} {t:TypeId} {b o:Nat} {v:Value} (h:(loadVar t ⟨b,o,none⟩).run P w = .ok v w) :
    (Instr.loadAt t (.pointer (some ⟨b,o,none⟩))).run P w = .ok v w:=by
  unfold Instr.loadAt Instr.sureAddr
  simp [h]
theorem ZjU {P:Program} {w w':World} {t:TypeId} {b o:Nat} {v:Value} (h:(storeVar t ⟨b,o,none⟩ v).run P w = .ok () w') :
    (Instr.storeAt t (.pointer (some ⟨b,o,none⟩)) v).run P w = .ok () w':=by
  unfold Instr.storeAt Instr.sureAddr
  simp [h]
theorem ZjX {P:Program} {w:World} {s:TypeId} {b o f:Nat} {fs:Array Field} {fd:Field} (hu:P.underlying s=some (.struct fs)) (hf:fs.toList[f]?=some fd)
    (hn:P.cellsOf fd.type≠0):(Instr.fieldAt s (.pointer (some ⟨b,o,none⟩)) f).run P w = .ok (.pointer (some ⟨b,o+fd.offset,none⟩)) w:=by
  unfold Instr.fieldAt Instr.sureAddr fieldPlace
  cases hi:P.info? fd.type with
  | none=>unfold Program.cellsOf at hn;simp [hi] at hn
  | some i =>
    have hf':fs[f]?=some fd:=by simpa using hf
    have h0:i.size≠0:=by rw [← Zap P hi];exact hn
    simp only [Sem.run_bind,Zh P w s hu,Result.andThen_ok,hf',Sem.run_pure,YP P w _ hi,if_neg h0,Zhj]
theorem ZfM {P:Program} {w:World} {t el:TypeId} {b o l m size:Nat} {k:IntKind} {i:Int} {inf:TypeInfo} (hu:P.underlying t=some (.slice el)) (hi:P.info? el=some inf) (hs:inf.size=size)
    (h0:0≤i) (h1:i<l):(Instr.indexAt t (.slice (some ⟨b,o,none⟩) l m) (.int k i)).run P w = .ok (.pointer (some ⟨b,o+i.toNat*size,none⟩)) w:=by
  unfold Instr.indexAt asIntOf
  simp only [Sem.run_bind,Sem.run_pure,Result.andThen_ok,Zh P w t hu]
  simp [h0,h1,YP P w el hi,hs,Zhj]
theorem ZfN {P:Program} {w:World} {t el:TypeId} {b o n size:Nat} {k:IntKind} {i:Int} {inf:TypeInfo} (hu:P.underlying t=some (.array n el)) (hi:P.info? el=some inf) (hs:inf.size=size)
    (h0:0≤i) (h1:i<n):(Instr.indexAt t (.pointer (some ⟨b,o,none⟩)) (.int k i)).run P w = .ok (.pointer (some ⟨b,o+i.toNat*size,none⟩)) w:=by
  unfold Instr.indexAt asIntOf Instr.sureAddr
  simp only [Sem.run_bind,Sem.run_pure,Result.andThen_ok,Zh P w t hu]
  simp [h0,h1,YP P w el hi,hs,Zhj]
theorem Zgj {P:Program} {w:World} {t:TypeId} {s:ByteArray} {k:IntKind} {i:Int} {x:UInt8} (hu:P.underlying t=some .string) (h0:0≤i) (hx:s[i.toNat]?=some x) :
    (Instr.index t (.string s) (.int k i)).run P w = .ok (.int .u8 x.toNat) w:=by
  unfold Instr.index asIntOf
  simp only [Sem.run_bind,Sem.run_pure,Result.andThen_ok,Zh P w t hu,if_pos h0,hx]
theorem ZiC {P:Program} {w:World} {s:TypeId} {cs:Array Value} {f:Nat} {fs:Array Field} {fd:Field} {v:Value} {d:TypeDesc} (hu:P.underlying s=some (.struct fs)) (hf:fs.toList[f]?=some fd)
    (hd:P.underlying fd.type=some d) (ha:Zam (some d)=false) (hv:cs.toList[fd.offset]?=some v):(Instr.field s (.agg cs) f).run P w = .ok v w:=by
  unfold Instr.field part asAgg
  have hf':fs[f]?=some fd:=by simpa using hf
  have hv':cs[fd.offset]?=some v:=by simpa using hv
  simp [Zh P w s hu,hf',Zca P w _ hd,ha,hv']
theorem ZiD {P:Program} {w:World} {s:TypeId} {cs:Array Value} {f:Nat} {fs:Array Field} {fd:Field} {d:TypeDesc} {inf:TypeInfo} (hu:P.underlying s=some (.struct fs)) (hf:fs.toList[f]?=some fd)
    (hd:P.underlying fd.type=some d) (ha:Zam (some d)=true) (hi:P.info? fd.type=some inf) :
    (Instr.field s (.agg cs) f).run P w = .ok (.agg ((cs.toList.drop fd.offset).take inf.size).toArray) w:=by
  unfold Instr.field part asAgg
  have hf':fs[f]?=some fd:=by simpa using hf
  simp only [Sem.run_bind,Zh P w s hu,Result.andThen_ok,hf',Sem.run_pure,Zca P w _ hd,ha,if_true,YP P w _ hi]
  congr 2
  apply Array.ext'
  simp [List.extract_eq_take_drop]
end Go.Fw
