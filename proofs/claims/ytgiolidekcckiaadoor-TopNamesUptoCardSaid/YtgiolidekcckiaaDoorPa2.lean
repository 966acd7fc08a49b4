/- The reading of a function's code as a condition on memory: what each operation, region and statement asks and leaves. Definitions alone. -/
import Derived.Sort.QuietThIn
import Derived.OrdersHeld
import Derived.Laws.Sem
import Derived.Laws.World
import Derived.RangeFuncLeaves
import Derived.RangeFuncRecord
import Derived.Test.YtgiolidekcckiaaDoorPa1
set_option linter.unusedVariables false
set_option linter.unusedSimpArgs false
namespace Go.Fw
open Go
inductive Leaf where
  | I (k:IntKind) | B | S | P | L | M | V
abbrev Leaf.D:Leaf→Type
  | .I _=>Int | .B=>Bool | .S=>ByteArray | .P=>Option Addr | .L=>Sl | .M=>Option Nat | .V=>Value
def Leaf.mk:(l:Leaf)→l.D→Value
  | .I k,n=> .int k n | .B,b=> .bool b | .S,s=> .string s | .P,p=> .pointer p | .L,s=> .slice s.ptr s.len s.cap | .M,m=> .map m | .V,v=>v
def Leaf.un:(l:Leaf)→Value→Option l.D
  | .I k,.int k' n=>if k'=k then some n else none
  | .B,.bool b=>some b
  | .S,.string s=>some s
  | .P,.pointer p=>some p
  | .L,.slice p l c=>some ⟨p,l,c⟩
  | .M,.map m=>some m
  | .V,v=>some v
  | _,_=>none
abbrev Tup:List Leaf→Type
  | []=>Unit
  | l::ls=>l.D × Tup ls
def Tup.vals:(ls:List Leaf)→Tup ls→List Value
  | [],_=>[]
  | l::ls,t=>l.mk t.1::Tup.vals ls t.2
def Tup.un:(ls:List Leaf)→List Value→Option (Tup ls)
  | [],[]=>some ()
  | l::ls,v::vs=>match l.un v,Tup.un ls vs with
    | some x,some t=>some (x,t)
    | _,_=>none
  | _,_=>none
inductive VT where
  | one (l:Leaf) | agg (ls:List Leaf) | fn (f:FuncId) | clo (f:FuncId) (ls:List Leaf) | yl
abbrev VT.D:VT→Type
  | .one l=>l.D
  | .agg ls=>Tup ls
  | .fn _=>Unit
  | .clo _ ls=>Tup ls
  | .yl=>Nat
abbrev Yp:List VT→Type
  | []=>Unit
  | v::vs=>v.D × Yp vs
inductive EV where
  | val (v:Value) | lit (b:Bool) | adr (b o:Nat) | itr (t:TypeId) (b:Nat) | more (k v:Value) | over
def EV.v:EV→Value
  | .val v=>v
  | .lit b=> .bool b
  | .adr b o=> .pointer (some ⟨b,o,none⟩)
  | .itr _ b=> .pointer (some ⟨b,0,none⟩)
  | .more k v=> .tuple #[.bool true,k,v]
  | .over=> .tuple #[.bool false]
def VT.ev:(v:VT)→v.D→EV
  | .one l,x=> .val (l.mk x)
  | .agg ls,x=> .val (.agg (Tup.vals ls x).toArray)
  | .fn f,_=> .val (.func (.func f) ⟨[]⟩ ⟨[]⟩)
  | .clo f ls,x=> .val (.func (.func f) ⟨[]⟩ ⟨Tup.vals ls x⟩)
  | .yl,l=> .val (.func (.yield l) ⟨[]⟩ ⟨[]⟩)
def fnU (f:FuncId):EV→Option Unit
  | .val (.func (.func g) ⟨[]⟩ ⟨[]⟩)=>bif Nat.beq f g then some () else none
  | _=>none
def Zrm (f:FuncId) (ls:List Leaf):EV→Option (Tup ls)
  | .val (.func (.func g) ⟨[]⟩ ⟨cs⟩)=>bif Nat.beq f g then Tup.un ls cs else none
  | _=>none
def ylU:EV→Option Nat
  | .val (.func (.yield l) ⟨[]⟩ ⟨[]⟩)=>some l
  | _=>none
def VT.un:(v:VT)→EV→Option v.D
  | .one l,e=>l.un e.v
  | .agg ls,.val (.agg cs)=>Tup.un ls cs.toList
  | .agg _,_=>none
  | .fn f,e=>fnU f e
  | .clo f ls,e=>Zrm f ls e
  | .yl,e=>ylU e
def Yp.evs:(vs:List VT)→Yp vs→List EV
  | [],_=>[]
  | v::vs,t=>v.ev t.1::Yp.evs vs t.2
def Yp.un:(vs:List VT)→List EV→Option (Yp vs)
  | [],[]=>some ()
  | v::vs,e::es=>match v.un e,Yp.un vs es with
    | some x,some t=>some (x,t)
    | _,_=>none
  | _,_=>none
def ZaI:List EV→EV
  | [e]=>e
  | es=> .val (.tuple (es.map EV.v).toArray)
structure Zh where
  args:List VT
  res:List VT
  sem:Yp args→(Yp res→Zb→Prop)→(Value→Zb→Prop)→Zb→Prop
structure XC where
  caps:List VT
  sem:Yld→Nat→Yp caps→(Zb→Prop)→Zb→Prop
inductive Mark where
  | no | at_ (D:Nat) | raw (ds:List Deferred)
def Mark.isNo:Mark→Bool
  | .no=>true
  | _=>false
structure Env where
  f:Nat→Option EV
  mD:Mark
instance:CoeFun Env (fun _=>Nat→Option EV):=⟨Env.f⟩
def Env.set (e:Env) (d:Nat) (v:EV):Env:=⟨fun j=>bif Nat.beq j d then some v else e.f j,e.mD⟩
def Env.ev (e:Env):Operand→Option EV
  | .tmp t=>e.f t
  | .const (.bool b)=>some (.lit b)
  | .const v=>some (.val v)
  | .global g=>some (.adr g 0)
  | .func f=>some (.val (.func (.func f) #[] #[]))
structure Cfg where
  P:Program
  calls:List (FuncId × Zh)
  n:Nat
  ext:List FuncId
  dyn:List (String × TypeId × FuncId)
  iters:List (FuncId × XC)
  rnd:Option Nat
  pan:Value→Zb→Prop
  yld:Yld
  fns:List (FuncId × List Leaf)
def Ya (P:Program) (calls:List (FuncId × Zh)) (n:Nat) (ext:List FuncId) (dyn:List (String × TypeId × FuncId)) (iters:List (FuncId × XC)) (yld:Yld) (fns:List (FuncId × List Leaf):=[]):Cfg :=
  ⟨P,calls,n,ext,dyn,iters,none,fun _ _=>False,yld,fns⟩
def Yg:Yld:=fun _ _ _ _=>False
structure ZnR where
  s:Zh
  t:Yp s.args
def ZfE (f:FuncId) (es:List EV):List (FuncId × Zh)→Option ZnR
  | []=>none
  | (g,s)::r=>bif Nat.beq f g then (match Yp.un s.args es with
    | some t=>some ⟨s,t⟩
    | none=>ZfE f es r) else ZfE f es r
structure Zmi where
  s:XC
  t:Yp s.caps
def Zj9 (f:FuncId) (es:List EV):List (FuncId × XC)→Option Zmi
  | []=>none
  | (g,s)::r=>bif Nat.beq f g then (match Yp.un s.caps es with
    | some t=>some ⟨s,t⟩
    | none=>Zj9 f es r) else Zj9 f es r
structure Zhq where
  a0:VT
  rest:List VT
  res:List VT
  sem:Yp (a0::rest)→(Yp res→Zb→Prop)→(Value→Zb→Prop)→Zb→Prop
  t:Yp rest
def ZfD (f:FuncId) (es:List EV):List (FuncId × Zh)→Option Zhq
  | []=>none
  | (g,⟨a0::rest,res,sem⟩)::r=>bif Nat.beq f g then (match Yp.un rest es with
    | some t=>some ⟨a0,rest,res,sem,t⟩
    | none=>ZfD f es r) else ZfD f es r
  | (_,⟨[],_,_⟩)::r=>ZfD f es r
def ZoA (calls:List (FuncId × Zh)) (Kp:Value→Zb→Prop) (name:String) (v:Value) (es:List EV) (h:Zb) (K:EV→Zb→Prop):List (String × TypeId × FuncId)→Prop
  | []=>False
  | (n,t,f)::r=>bif n ==name then (match ZfD f es calls with
    | some p=>exG v (fun x:p.a0.D=> .iface t (p.a0.ev x).v) (fun x=>p.sem (x,p.t) (fun rr h'=>K (ZaI (Yp.evs p.res rr)) h') Kp h)∨ZoA calls Kp name v es h K r
    | none=>ZoA calls Kp name v es h K r) else ZoA calls Kp name v es h K r
def Znf (es:List EV) (cs:List Value):List EV:=es++cs.map EV.val
def fnP (calls:List (FuncId × Zh)) (Kp:Value→Zb→Prop) (v:Value) (es:List EV) (h:Zb) (K:EV→Zb→Prop):List (FuncId × List Leaf)→Prop
  | []=>False
  | (f,[])::r=>match ZfE f es calls with
    | some ⟨s,t⟩=>ZrC v f (s.sem t (fun rr h'=>K (ZaI (Yp.evs s.res rr)) h') Kp h)∨fnP calls Kp v es h K r
    | none=>fnP calls Kp v es h K r
  | (f,l::ls)::r=>exG v (fun c:Tup (l::ls)=> .func (.func f) ⟨[]⟩ ⟨Tup.vals (l::ls) c⟩) (fun c=>match ZfE f (Znf es (Tup.vals (l::ls) c)) calls with
    | some ⟨s,t⟩=>s.sem t (fun rr h'=>K (ZaI (Yp.evs s.res rr)) h') Kp h
    | none=>False)∨fnP calls Kp v es h K r
def Zrk (l:List (FuncId × List Leaf)):Operand→List (FuncId × List Leaf)
  | .tmp _=>l
  | _=>[]
def ZoM (f:FuncId):List FuncId→Bool
  | []=>false
  | g::r=>bif Nat.beq f g then true else ZoM f r
def evs (e:Env):List Operand→Option (List EV)
  | []=>some []
  | x::xs=>match e.ev x,evs e xs with
    | some v,some vs=>some (v::vs)
    | _,_=>none
def ZnP (op:BinOp) (x y:EV) (K:EV→Prop):Prop :=
  match x,y with
  | .val (.int k a),.val (.int k' b) =>
    match op with
    | .shl=>Zbs (0≤b) (K (.val (.int k (Zmo k a b))))
    | .shr=>Zbs (0≤b) (K (.val (.int k (ZjW k a b))))
    | _=>if k=k' then
       match op with
       | .add=>K (.val (.int k (k.wrap (a+b))))
       | .sub=>K (.val (.int k (k.wrap (a - b))))
       | .mul=>K (.val (.int k (k.wrap (a*b))))
       | .quo=>Zbs (b≠0) (K (.val (.int k (k.wrap (a.tdiv b)))))
       | .rem=>Zbs (b≠0) (K (.val (.int k (a.tmod b))))
       | .and=>K (.val (.int k (ZjN k a b)))
       | .or=>K (.val (.int k (orV k a b)))
       | .xor=>K (.val (.int k (ZtT k a b)))
       | .andNot=>K (.val (.int k (Zrp k a b)))
       | .eql=>K (.val (.bool (a ==b)))
       | .neq=>K (.val (.bool (a !=b)))
       | .lss=>K (.val (.bool (decide (a<b))))
       | .leq=>K (.val (.bool (decide (a≤b))))
       | .gtr=>K (.val (.bool (decide (a>b))))
       | .geq=>K (.val (.bool (decide (a≥b))))
       | _=>False
      else False
  | .val (.string a),.val (.string b) =>
    match op with
    | .add=>Zp5 a b fun s=>K (.val (.string s))
    | .eql=>K (.val (.bool (Za9 a b)))
    | .neq=>K (.val (.bool (!Za9 a b)))
    | .lss=>K (.val (.bool (Op.bytesLess a.toList b.toList)))
    | .leq=>K (.val (.bool (Op.bytesLess a.toList b.toList||Za9 a b)))
    | .gtr=>K (.val (.bool (!(Op.bytesLess a.toList b.toList||Za9 a b))))
    | .geq=>K (.val (.bool (!Op.bytesLess a.toList b.toList)))
    | _=>False
  | _,_=>False
def eqP (t:Option TypeDesc) (neg:Bool) (x y:EV) (K:EV→Prop):Prop :=
  match t,x,y with
  | some (.pointer _),.adr _ _,.val (.pointer none)=>K (.lit neg)
  | some (.pointer _),.val (.pointer p),.val (.pointer none)=>K (.val (.bool (bif neg then p.isSome else p.isNone)))
  | some (.slice _),.val (.slice p _ _),.val (.slice none _ _)=>K (.val (.bool (bif neg then p.isSome else p.isNone)))
  | some (.map _ _),.val (.map p),.val (.map none)=>K (.val (.bool (bif neg then p.isSome else p.isNone)))
  | some .bool,x,y =>
    match x.v,y.v with
    | .bool a,.bool b=>K (.val (.bool (bif neg then a !=b else a ==b)))
    | _,_=>False
  | _,_,_=>False
def Ze3 (d:Option TypeDesc) (h:Zb) (b o:Nat) (K:EV→Prop):Prop :=
  match d with
  | some (.int k)=>ldI h b o k fun x=>K (.val (.int k x))
  | some .bool=>ldB h b o fun x=>K (.val (.bool x))
  | some .string=>ldS h b o fun x=>K (.val (.string x))
  | some (.pointer _)=>ldP h b o fun x=>K (.val (.pointer x))
  | some (.slice _)=>ldL h b o fun x=>K (.val (.slice x.ptr x.len x.cap))
  | some (.map _ _)=>ldM h b o fun x=>K (.val (.map x))
  | some (.struct _) | some (.array _ _) | none=>False
  | some _=>ldV h b o fun x=>K (.val x)
def Zaz (P:Program):Nat→TypeId→List (Option TypeDesc)
  | 0,_=>[none]
  | d+1,t=>match P.underlying t with
    | some (.struct fs)=>fs.toList.flatMap fun f=>Zaz P d f.type
    | some (.array n e)=>(List.replicate n (Zaz P d e)).flatten
    | x=>[x]
def Zqa (o i:Nat):Nat:=bif Nat.beq i 0 then o else o+i
def ZmV (h:Zb) (b o:Nat):Nat→List (Option TypeDesc)→(List Value→Prop)→Prop
  | _,[],K=>K []
  | i,d::ds,K=>Ze3 d h b (Zqa o i) fun v=>ZmV h b o (i+1) ds fun vs=>K (v.v::vs)
def Y7:Option TypeDesc→Bool
  | some (.struct _) | some (.array _ _)=>true
  | _=>false
def ldT (P:Program) (t:TypeId) (h:Zb) (b o:Nat) (K:EV→Prop):Prop :=
  bif Y7 (P.underlying t) then
    (bif Nat.beq (Zaz P 8 t).length (P.cellsOf t) then ZmV h b o 0 (Zaz P 8 t) fun vs=>K (.val (.agg vs.toArray)) else False)
  else Ze3 (P.underlying t) h b o K
def atP (x:EV) (K:Nat→Nat→Prop):Prop :=
  match x with
  | .adr b o=>K b o
  | .val (.pointer p)=>Zd p K
  | _=>False
def stT (P:Program) (t:TypeId) (h:Zb) (b o:Nat) (v:EV) (K:Zb→Prop):Prop :=
  match v with
  | .val (.agg cs)=>bif Y7 (P.underlying t) then (bif Nat.beq cs.toList.length (P.cellsOf t) then sts h b o cs.toList K else False) else False
  | v=>bif Y7 (P.underlying t) then False else (bif Nat.beq (P.cellsOf t) 1 then st h b o v.v K else False)
def ZdE:EV→List Value
  | .val (.agg cs)=>cs.toList
  | v=>[v.v]
def ZlE:Option TypeDesc→Bool
  | some (.int _) | some .bool | some .string | some (.pointer _) | some (.slice _) | some (.map _ _) | some (.struct _) | some (.array _ _) | none=>false
  | some _=>true
def Zfm (d:Option TypeDesc) (v:EV):List Value:=bif ZlE d then [v.v] else ZdE v
def Zhy (P:Program) (fs:List Field) (e:Env):List (Nat × Operand)→List Value
  | []=>[]
  | (i,x)::r=>match fs[i]?,e.ev x with
    | some f,some v=>bif ZlE (P.underlying f.type) then v.v::Zhy P fs e r else Zhy P fs e r
    | _,_=>Zhy P fs e r
def Zod:List Value→Prop→Prop
  | [],K=>K
  | v::vs,K=>Zbs (ZW v=true) (Zod vs K)
def ZaO:List Value→List (Nat × List Value)→List Value
  | cs,[]=>cs
  | cs,(o,vs)::r=>ZaO (cs.take o++vs++cs.drop (o+vs.length)) r
def ZeS (P:Program) (fs:List Field) (e:Env) (n:Nat):List (Nat × Operand)→Option (List (Nat × List Value))
  | []=>some []
  | (i,x)::r=>match fs[i]?,e.ev x,ZeS P fs e n r with
    | some f,some v,some l=>bif Nat.beq (Zfm (P.underlying f.type) v).length (P.cellsOf f.type) then (bif Nat.ble (f.offset+(Zfm (P.underlying f.type) v).length) n then some ((f.offset,Zfm (P.underlying f.type) v)::l) else none) else none
    | _,_,_=>none
def ZdT (size:Nat) (e:Env) (n:Nat):List (Nat × Operand)→Option (List (Nat × List Value))
  | []=>some []
  | (i,x)::r=>match e.ev x,ZdT size e n r with
    | some v,some l=>bif Nat.beq (ZdE v).length size then (bif Nat.ble (i*size+(ZdE v).length) n then some ((i*size,ZdE v)::l) else none) else none
    | _,_=>none
def Zea (P:Program) (t:TypeId):Option (List Value):=match P.info? t with
  | some i=>match i.zero with
    | some v=>some v.cells.toList
    | none=>none
  | none=>none
def Zil (P:Program) (t:TypeId):Option (Nat × Nat):=match P.info? t with
  | some i=>some (i.size,i.bytes)
  | none=>none
def Znz (d:Int):Option (Option EV)→Option Int
  | none=>some d
  | some (some (.val (.int _ n)))=>some n
  | _=>none
def ZdF:Nat:=16777216
def ZlD:TypeDesc→Value→Bool
  | .int k,.int k' _=>if k=k' then true else false
  | .string,.string _=>true
  | .bool,.bool _=>true
  | _,_=>false
def ZfF:Option TypeDesc→Bool
  | some (.int _) | some .string | some .bool=>true
  | _=>false
def Zcv (P:Program):List Field→Nat→Bool
  | [],_=>true
  | f::fs,i=>bif f.name == "_" then false else bif Nat.beq f.offset i&&ZfF (P.underlying f.type) then Zcv P fs (i+1) else false
def Zcw (P:Program) (fs:List Field):List TypeDesc:=fs.map fun f=>(P.underlying f.type).getD .bool
def ZlC:List TypeDesc→List Value→Bool
  | [],[]=>true
  | d::ds,v::vs=>bif ZlD d v then ZlC ds vs else false
  | _,_=>false
def Zm1 (P:Program) (kt:TypeId) (fs:Array Field) (cs:List Value):Bool :=
  bif P.stoodInHeld kt then false else bif Zcv P fs.toList 0 then ZlC (Zcw P fs.toList) cs else false
def Zm2 (P:Program) (n:Nat) (e:TypeId) (cs:List Value):Bool :=
  bif Nat.beq n 2 then (bif ZfF (P.underlying e) then (match P.info? e with
    | some i=>bif Nat.beq i.size 1 then ZlC [(P.underlying e).getD .bool,(P.underlying e).getD .bool] cs else false
    | none=>false) else false) else false
def ZiJ (P:Program) (kt:TypeId) (d:TypeDesc) (h:Zb) (m:Option Nat) (k:Value) (K:Option Value→Prop):Prop :=
  match d,k with
  | .struct fs,.agg cs=>bif Zm1 P kt fs cs.toList then ZiK (Zcw P fs.toList) h m cs.toList K else False
  | .array n e,.agg cs=>bif Zm2 P n e cs.toList then ZiK [(P.underlying e).getD .bool,(P.underlying e).getD .bool] h m cs.toList K else False
  | d,k=>bif ZlD d k then ZnF d h m k K else False
def ZiH (P:Program) (kt:TypeId) (d:TypeDesc) (h:Zb) (m:Option Nat) (k v:Value) (K:Zb→Prop):Prop :=
  match d,k with
  | .struct fs,.agg cs=>bif Zm1 P kt fs cs.toList then ZiI (Zcw P fs.toList) h m cs.toList v K else False
  | .array n e,.agg cs=>bif Zm2 P n e cs.toList then ZiI [(P.underlying e).getD .bool,(P.underlying e).getD .bool] h m cs.toList v K else False
  | d,k=>bif ZlD d k then ZnE d h m k v K else False
def ZjL (d:Option TypeDesc) (v:Value) (K:EV→Prop):Prop :=
  match d with
  | some (.int k)=>asI v k fun x=>K (.val (.int k x))
  | some .bool=>asB v fun x=>K (.val (.bool x))
  | some .string=>asS v fun x=>K (.val (.string x))
  | some (.pointer _)=>asP v fun x=>K (.val (.pointer x))
  | some (.slice _)=>asL v fun x=>K (.val (.slice x.ptr x.len x.cap))
  | some (.map _ _)=>asM v fun x=>K (.val (.map x))
  | _=>False
def ZpP:Option TypeDesc→Leaf
  | some (.int k)=> .I k | some .bool=> .B | some .string=> .S | some (.pointer _)=> .P | some (.slice _)=> .L | some (.map _ _)=> .M | _=> .V
def ZoQ (P:Program) (t:TypeId) (v:Value) (K:EV→Prop):Prop :=
  bif Y7 (P.underlying t) then exG v (fun r:Tup ((Zaz P 8 t).map ZpP)=> .agg (Tup.vals _ r).toArray) (fun r=>K (.val (.agg (Tup.vals _ r).toArray)))
  else ZjL (P.underlying t) v K
def ZnT (P:Program) (t:TypeId):Option Value:=match P.info? t with
  | some i=>i.zero
  | none=>none
def ZbN:Option TypeDesc→Bool
  | some (.interface _)=>true
  | none=>true
  | _=>false
def ZcV (P:Program) (ts:Array TypeId):Bool:=match ts[0]? with
  | some t=>match P.underlying t with
    | some (.map _ _)=>true
    | _=>false
  | none=>false
def ZfI (c:Cfg) (o:Op) (ρ:Env) (h:Zb) (K:EV→Zb→Prop):Prop :=
  match o with
  | .call ⟨.builtin .len,args,ts⟩ =>
    match ts[0]?,evs ρ args.toList with
    | some t,some [v]=>match c.P.underlying t,v with
      | some .string,.val (.string s)=>K (.val (.int .i64 s.size)) h
      | some (.slice _),.val (.slice _ n _)=>K (.val (.int .i64 n)) h
      | some (.array n _),_=>K (.val (.int .i64 n)) h
      | some (.map _ _),.val (.map m)=>ZtW h m fun n=>K (.val (.int .i64 n)) h
      | _,_=>False
    | _,_=>False
  | .call ⟨.builtin .cap,args,ts⟩ =>
    match ts[0]?,evs ρ args.toList with
    | some t,some [v]=>match c.P.underlying t,v with
      | some (.slice _),.val (.slice _ _ n)=>K (.val (.int .i64 n)) h
      | _,_=>False
    | _,_=>False
  | .call ⟨.builtin .min,args,_⟩ =>
    match evs ρ args.toList with
    | some [.val (.int k x),.val (.int _ y)]=>K (.val (.int k (Zri x y))) h
    | _=>False
  | .call ⟨.builtin .max,args,_⟩ =>
    match evs ρ args.toList with
    | some [.val (.int k x),.val (.int _ y)]=>K (.val (.int k (Zoh x y))) h
    | _=>False
  | .call ⟨.builtin .append,args,ts⟩ =>
    match ts[0]?,(match ts[1]? with | none=>false | some t=>match c.P.underlying t with | some (.int _)=>true | some _=>false | none=>true) with
    | some t,false=>match c.P.underlying t with
      | some (.slice e)=>match Zil c.P e,Zea c.P e,evs ρ args.toList with
        | some (size,bytes),some zs,some [.val (.slice p n m),.val (.slice p' n' m')] =>
          rdS ⟨p',n',m'⟩ size h fun new=>app e size bytes zs ⟨p,n,m⟩ n' new h fun s h'=>K (.val (.slice s.ptr s.len s.cap)) h'
        | some (size,bytes),some zs,some [.val (.slice p n m),.val (.string s)] =>
          app e size bytes zs ⟨p,n,m⟩ s.size (YP s) h fun s h'=>K (.val (.slice s.ptr s.len s.cap)) h'
        | _,_,_=>False
      | _=>False
    | _,_=>False
  | .call ⟨.value x,args,_⟩ =>
    match Zrk c.fns x with
    | f::r=>(match ρ.ev x,evs ρ args.toList with
      | some v,some es=>fnP c.calls c.pan v.v es h K (f::r)
      | _,_=>False)
    | [] =>
    match ρ.ev x with
    | some (.val (.func (.func f) ⟨[]⟩ ⟨cs⟩)) =>
      match evs ρ args.toList with
      | some es=>match ZfE f (Znf es cs) c.calls with
        | some ⟨s,t⟩=>s.sem t (fun r h'=>K (ZaI (Yp.evs s.res r)) h') c.pan h
        | none=>bif ZoM f c.ext then (match Znf es cs with
          | [x]=>Zp3 x.v h fun v h'=>K (.val v) h'
          | _=>False) else False
      | none=>False
    | some (.val (.func (.yield l) ⟨[]⟩ ⟨[]⟩)) =>
      match evs ρ args.toList with
      | some es=>c.yld l (es.map EV.v) (fun b h'=>K (.val (.bool b)) h') h
      | none=>False
    | _=>False
  | .call ⟨.builtin .delete,args,ts⟩ =>
    match ts[0]?,evs ρ args.toList with
    | some t,some [.val (.map m),k]=>match c.P.underlying t with
      | some (.map kt _)=>match c.P.underlying kt with
        | some d=>bif ZlD d k.v then ZnG d h m k.v fun h'=>K (.val (.tuple #[])) h' else False
        | none=>False
      | _=>False
    | _,_=>False
  | .call ⟨.invoke x name,args,_⟩ =>
    match ρ.ev x,evs ρ args.toList with
    | some v,some es=>ZoA c.calls c.pan name v.v es h K c.dyn
    | _,_=>False
  | .call ⟨.builtin .clear,args,ts⟩ =>
    match ts[0]?,evs ρ args.toList with
    | some t,some [.val (.map m)]=>match c.P.underlying t with
      | some (.map _ _)=>ZrH h m fun h'=>K (.val (.tuple #[])) h'
      | _=>False
    | some t,some [.val (.slice p l m)]=>match c.P.underlying t with
      | some (.slice e)=>match Zea c.P e with
        | some zs=>ZrG ⟨p,l,m⟩ zs h fun h'=>K (.val (.tuple #[])) h'
        | none=>False
      | _=>False
    | _,_=>False
  | _=>False
def ZbU (d:Option TypeDesc) (x y:Value):Option Bool :=
  match d,x,y with
  | some (.int _),.int k a,.int k' b=>if k=k' then some (a ==b) else none
  | some .string,.string a,.string b=>some (Za9 a b)
  | some .bool,.bool a,.bool b=>some (a ==b)
  | _,_,_=>none
def ZaU (P:Program):List Field→List Value→List Value→Option Bool
  | [],_,_=>some true
  | f::fs,xs,ys =>
    bif f.name == "_" then none else
    match xs[f.offset]?,ys[f.offset]? with
    | some x,some y=>match ZbU (P.underlying f.type) x y,ZaU P fs xs ys with
      | some a,some r=>some (bif a then r else false)
      | _,_=>none
    | _,_=>none
def ZaF (P:Program):List Field→List Value→List Value→Option Bool
  | [],_,_=>some true
  | f::fs,xs,ys =>
    bif f.name == "_" then none else
    match P.underlying f.type with
    | some (.struct gs) =>
      bif P.stoodInHeld f.type then none else
      bif Nat.ble (f.offset+P.cellsOf f.type) xs.length&&Nat.ble (f.offset+P.cellsOf f.type) ys.length then
        match ZaU P gs.toList ((xs.drop f.offset).take (P.cellsOf f.type)) ((ys.drop f.offset).take (P.cellsOf f.type)),ZaF P fs xs ys with
        | some a,some r=>some (bif a then r else false)
        | _,_=>none
      else none
    | u=>match xs[f.offset]?,ys[f.offset]? with
      | some x,some y=>match ZbU u x y,ZaF P fs xs ys with
        | some a,some r=>some (bif a then r else false)
        | _,_=>none
      | _,_=>none
def eqS (P:Program) (t:TypeId) (fs:Array Field) (x y:EV) (K:Bool→Prop):Prop :=
  match x,y with
  | .val (.agg xs),.val (.agg ys)=>bif P.stoodInHeld t||P.eqGuardType P.depth t then False else
    match ZaF P fs.toList xs.toList ys.toList with
    | some b=>K b
    | none=>False
  | _,_=>False
def opP (c:Cfg) (o:Op) (ρ:Env) (h:Zb) (K:EV→Zb→Prop):Prop :=
  match o with
  | .move x=>match ρ.ev x with
    | some v=>K v h
    | none=>False
  | .assign x=>match ρ.ev x with
    | some (.val (.int k n))=>ZJ n fun n=>K (.val (.int k n)) h
    | some (.val (.bool b))=>ZP b fun b=>K (.val (.bool b)) h
    | some v=>K v h
    | none=>False
  | .pick x a b=>match ρ.ev x,ρ.ev a,ρ.ev b with
    | some (.lit true),some a,_=>K a h
    | some (.lit false),_,some b=>K b h
    | some (.val (.bool x)),some a,some b=>match a.v,b.v with
      | .bool a,.bool b=>K (.val (.bool (bif x then a else b))) h
      | _,_=>False
    | _,_,_=>False
  | .alloc e=>match Zea c.P e with
    | some zs=>newC h zs e fun b h'=>K (.adr b 0) h'
    | none=>False
  | .box e x=>match ρ.ev x with
    | some v=>bif ZlE (c.P.underlying e) then Zbs (ZW v.v=true) (newC h [v.v] e fun b h'=>K (.adr b 0) h') else newC h (ZdE v) e fun b h'=>K (.adr b 0) h'
    | none=>False
  | .build t parts=>match c.P.underlying t,Zea c.P t with
    | some (.struct fs),some zs=>match ZeS c.P fs.toList ρ zs.length parts.toList with
      | some l=>bif fs.toList.all fun f=>(c.P.info? f.type).isSome then Zod (Zhy c.P fs.toList ρ parts.toList) (K (.val (.agg (ZaO zs l).toArray)) h) else False
      | none=>False
    | some (.array _ e),some zs=>match ZdT (c.P.cellsOf e) ρ zs.length parts.toList with
      | some l=>bif (c.P.info? e).isSome then K (.val (.agg (ZaO zs l).toArray)) h else False
      | none=>False
    | _,_=>False
  | .buildSlice t n parts=>match c.P.underlying t with
    | some (.slice e)=>match Zea c.P e,ZdT (c.P.cellsOf e) ρ (n*c.P.cellsOf e) parts.toList with
      | some zs,some l=>bif Nat.ble (n*c.P.cellsOf e) ZdF then
          (bif Nat.beq zs.length (c.P.cellsOf e) then
            newC h (ZaO (YQ zs n) l) e fun b h'=>K (.val (.slice (some ⟨b,0,none⟩) n n)) h' else False) else False
      | _,_=>False
    | _=>False
  | .load t a=>match ρ.ev a with
    | some x=>atP x fun b o=>ldT c.P t h b o fun v=>K v h
    | none=>False
  | .store t a x=>match ρ.ev a,ρ.ev x with
    | some a,some x=>atP a fun b o=>stT c.P t h b o x fun h'=>K (.val undef) h'
    | _,_=>False
  | .nilCheck x=>match ρ.ev x with
    | some x=>atP x fun b o=>K (.adr b o) h
    | none=>False
  | .binOp op t x yo _=>match ρ.ev x,ρ.ev yo with
    | some x,some y=>match op,c.P.underlying t with
      | .eql,some (.int _) | .eql,some .string=>ZnP op x y fun v=>K v h
      | .neq,some (.int _) | .neq,some .string=>ZnP op x y fun v=>K v h
      | .eql,some (.struct fs)=>eqS c.P t fs x y fun b=>K (.val (.bool b)) h
      | .neq,some (.struct fs)=>eqS c.P t fs x y fun b=>K (.val (.bool (!b))) h
      | .eql,some (.interface _)=>match yo with
        | .const .nilIface=>ZhZ x.v fun b=>K (.val (.bool b)) h
        | _=>False
      | .neq,some (.interface _)=>match yo with
        | .const .nilIface=>ZhZ x.v fun b=>K (.val (.bool (!b))) h
        | _=>False
      | .eql,some (.func _ _ _)=>match yo with
        | .const .nilFunc=>ZlF x.v fun b=>K (.val (.bool b)) h
        | _=>False
      | .neq,some (.func _ _ _)=>match yo with
        | .const .nilFunc=>ZlF x.v fun b=>K (.val (.bool (!b))) h
        | _=>False
      | .eql,d=>eqP d false x y fun v=>K v h
      | .neq,d=>eqP d true x y fun v=>K v h
      | _,_=>ZnP op x y fun v=>K v h
    | _,_=>False
  | .unOp op _ x=>match op,ρ.ev x with
    | .not,some (.lit b)=>K (.lit (!b)) h
    | .not,some (.val (.bool b))=>K (.val (.bool (!b))) h
    | .neg,some (.val (.int k n))=>K (.val (.int k (k.wrap (0 - n)))) h
    | _,_=>False
  | .convert s d x=>match c.P.underlying s,c.P.underlying d,ρ.ev x with
    | some (.int _),some (.int k),some (.val (.int _ n))=>K (.val (.int k (k.wrap n))) h
    | some .string,some .string,some (.val (.string s))=>K (.val (.string s)) h
    | some .string,some (.slice e),some (.val (.string s))=>match c.P.underlying e with
      | some (.int .u8)=>s2b e s h fun x h'=>K (.val (.slice x.ptr x.len x.cap)) h'
      | _=>False
    | some (.slice e),some .string,some (.val (.slice p l m))=>match c.P.underlying e with
      | some (.int .u8)=>b2s ⟨p,l,m⟩ h fun s=>K (.val (.string s)) h
      | _=>False
    | some (.slice _),some (.slice e),some (.val (.slice p l m))=>match c.P.underlying e with
      | some (.int .u8)=>bif Nat.beq s d then Zrj p h fun h'=>K (.val (.slice p l m)) h' else False
      | _=>False
    | _,_,_=>False
  | .makeSlice t l m=>match c.P.underlying t,ρ.ev l,ρ.ev m with
    | some (.slice e),some (.val (.int _ l)),some (.val (.int _ m))=>match Zil c.P e,Zea c.P e with
      | some (size,bytes),some zs=>bif Nat.beq zs.length size then mkS e bytes zs l m h fun s h'=>K (.val (.slice s.ptr s.len s.cap)) h' else False
      | _,_=>False
    | _,_,_=>False
  | .slice t x lo hi mx=>match c.P.underlying t,ρ.ev x with
    | some .string,some (.val (.string s))=>match mx,Znz 0 (lo.map ρ.ev),Znz s.size (hi.map ρ.ev) with
      | none,some lo,some hi=>ZmC s lo hi fun s=>K (.val (.string s)) h
      | _,_,_=>False
    | some (.slice e),some (.val (.slice p l m))=>match Znz 0 (lo.map ρ.ev),Znz l (hi.map ρ.ev),Znz m (mx.map ρ.ev),Zil c.P e with
      | some lo,some up,some most,some (size,_)=>bif hi.isNone&&mx.isSome then False else slc p m size lo up most fun s=>K (.val (.slice s.ptr s.len s.cap)) h
      | _,_,_,_=>False
    | _,_=>False
  | .fieldAddr s x f=>match c.P.underlying s,ρ.ev x with
    | some (.struct fs),some x=>match fs.toList[f]? with
      | some fd=>bif Nat.beq (c.P.cellsOf fd.type) 0 then False else atP x fun b o=>K (.adr b (Zqa o fd.offset)) h
      | none=>False
    | _,_=>False
  | .field s x f=>match c.P.underlying s,ρ.ev x with
    | some (.struct fs),some (.val (.agg cs))=>match fs.toList[f]? with
      | some fd=>bif (c.P.underlying fd.type).isNone then False else bif Y7 (c.P.underlying fd.type) then K (.val (.agg ((cs.toList.drop fd.offset).take (c.P.cellsOf fd.type)).toArray)) h
        else match cs.toList[fd.offset]? with
          | some v=>K (.val v) h
          | none=>False
      | none=>False
    | _,_=>False
  | .indexAddr t x i=>match c.P.underlying t,ρ.ev x,ρ.ev i with
    | some (.slice e),some (.val (.slice p l _)),some (.val (.int _ i))=>match Zil c.P e with
      | some (size,_)=>Zh0 p l i size fun b o=>K (.adr b o) h
      | none=>False
    | some (.array n e),some x,some (.val (.int _ i))=>match Zil c.P e with
      | some (size,_)=>atP x fun b o=>ZrD n i fun j=>K (.adr b (o+j*size)) h
      | none=>False
    | _,_,_=>False
  | .index t x i=>match c.P.underlying t,ρ.ev x,ρ.ev i with
    | some .string,some (.val (.string s)),some (.val (.int _ i))=>ZkA s i fun n=>K (.val (.int .u8 n)) h
    | some (.array n e),some (.val (.agg cs)),some (.val (.int _ i))=>match c.P.underlying e with
      | some (.struct _)=>bif Nat.beq cs.toList.length (n*c.P.cellsOf e) then ZrD n i fun j=>ZoQ c.P e (.agg ⟨(cs.toList.drop (j*c.P.cellsOf e)).take (c.P.cellsOf e)⟩) fun v=>K v h else False
      | _=>False
    | _,_,_=>False
  | .extract x i=>match ρ.ev x with
    | some (.more _ _)=>bif Nat.beq i 0 then K (.lit true) h else False
    | some .over=>bif Nat.beq i 0 then K (.lit false) h else False
    | some (.val (.tuple vs))=>match vs.toList[i]? with
      | some v=>K (.val v) h
      | none=>False
    | _=>False
  | .call _=>ZfI c o ρ h K
  | .panic x=>match ρ.ev x with
    | some (.val (.iface t v))=>c.pan (.iface t v) h
    | _=>False
  | .makeFunc (.func f) first caps=>match first.toList,evs ρ caps.toList with
    | [],some es=>K (.val (.func (.func f) ⟨[]⟩ ⟨es.map EV.v⟩)) h
    | _,_=>False
  | .makeMap _ none=>ZpK h fun b h'=>K (.val (.map (some b))) h'
  | .lookup t x i ok=>match c.P.underlying t,ρ.ev x,ρ.ev i with
    | some (.map kt et),some (.val (.map m)),some k=>match c.P.underlying kt,ZnT c.P et with
      | some d,some z=>ZiJ c.P kt d h m k.v fun r=>ZoQ c.P et (r.getD z) fun v=>K (bif ok then .val (.tuple #[v.v,.bool r.isSome]) else v) h
      | _,_=>False
    | _,_,_=>False
  | .mapUpdate t m k x=>match c.P.underlying t,ρ.ev m,ρ.ev k,ρ.ev x with
    | some (.map kt _),some (.val (.map m)),some k,some x=>match c.P.underlying kt with
      | some d=>ZiH c.P kt d h m k.v x.v fun h'=>K (.val undef) h'
      | none=>False
    | _,_,_,_=>False
  | .range t x=>match c.P.underlying t,ρ.ev x with
    | some (.map _ _),some (.val (.map m))=>rgM h m fun b h'=>K (.itr t b) h'
    | _,_=>False
  | .next x false=>match ρ.ev x with
    | some (.itr _ b)=>Zrf h b (fun k v h'=>K (.more k v) h') (K .over h)
    | _=>False
  | .entry x=>match ρ.ev x with
    | some (.itr t b)=>match c.P.underlying t with
      | some (.map kt et)=>ZtZ h b fun k v=>ZoQ c.P kt k fun k'=>ZoQ c.P et v fun v'=>K (.val (.tuple #[k'.v,v'.v])) h
      | _=>False
    | _=>False
  | .makeInterface t x=>match ρ.ev x with
    | some v=>bif ZbN (c.P.underlying t) then False else K (.val (.iface t v.v)) h
    | none=>False
  | .typeAssert x _ t ok=>match ρ.ev x with
    | some v=>bif ZbN (c.P.underlying t) then False else bif ok then (match v with
      | .val (.iface t' u)=>bif Nat.beq t' t then K (.val (.tuple #[u,.bool true])) h else False
      | _=>False) else asT v.v t fun y=>ZjL (c.P.underlying t) y fun u=>K u h
    | none=>False
  | _=>False
def Zie (n:Nat) (e:Env) (d:Option Tmp) (v:EV) (K:Env→Prop):Prop :=
  match d with
  | none=>K e
  | some d=>bif Nat.blt d n then K (e.set d v) else False
def opQ (c:Cfg) (o:Oper) (e:Env) (h:Zb) (K:EV→Zb→Prop):Prop :=
  match o.op with
  | .assign x=>bif ZlE (c.P.underlying o.type) then (match e.ev x with
    | some v=>K v h
    | none=>False) else opP c (.assign x) e h K
  | op=>opP c op e h K
def ZpH (c:Cfg) (o:Oper) (e:Env) (h:Zb) (K:Env→Zb→Prop):Prop :=
  opQ c o e h fun v h'=>Zie c.n e o.dst v fun e'=>K e' h'
def ZfW (c:Cfg) (o:Oper) (e:Env) (h:Zb) (K:Env→Zb→Prop):Prop :=
  Zie c.n e o.dst (.val undef) fun e'=>K e' h
def Zbx (ops:List Oper) (j:Nat):Option Tmp:=(ops[j]?).bind (·.dst)
def Zat (c:Cfg) (one:Oper→Env→Zb→(Env→Zb→Prop)→Prop) (all:List Oper):List Oper→Env→Zb→(Env→Zb→Prop)→Prop
  | [],e,h,K=>K e h
  | o::os,e,h,K =>
    match o.guard with
    | none=>one o e h fun e' h'=>Zat c one all os e' h' K
    | some (j,want) =>
      match Zbx all j with
      | none=>ZfW c o e h fun e' h'=>Zat c one all os e' h' K
      | some t =>
        match e t with
        | some (.lit b) =>
          match b,want with
          | true,true | false,false=>one o e h fun e' h'=>Zat c one all os e' h' K
          | true,false | false,true=>ZfW c o e h fun e' h'=>Zat c one all os e' h' K
        | some (.val (.bool b)) =>
          match want with
          | true=>ZE b (one o (e.set t (.lit true)) h fun e' h'=>Zat c one all os e' h' K) (ZfW c o (e.set t (.lit false)) h fun e' h'=>Zat c one all os e' h' K)
          | false=>ZE b (ZfW c o (e.set t (.lit true)) h fun e' h'=>Zat c one all os e' h' K) (one o (e.set t (.lit false)) h fun e' h'=>Zat c one all os e' h' K)
        | some _=>ZfW c o e h fun e' h'=>Zat c one all os e' h' K
        | none=>False
def Zje (c:Cfg) (o:Op) (ρ:Env) (h:Zb) (K:EV→Zb→Prop):Prop :=
  match o with
  | .move _ | .assign _ | .pick _ _ _ | .load _ _ | .nilCheck _ | .binOp _ _ _ _ _ | .unOp _ _ _ | .slice _ _ _ _ _ | .fieldAddr _ _ _ | .field _ _ _ | .indexAddr _ _ _ | .index _ _ _ | .extract _ _ | .build _ _ | .makeFunc _ _ _=>opP c o ρ h K
  | .convert s d _=>match c.P.underlying s,c.P.underlying d with
    | some (.int _),some (.int _)=>opP c o ρ h K
    | _,_=>False
  | .call ⟨.builtin .len,_,_⟩ | .call ⟨.builtin .cap,_,_⟩ | .call ⟨.builtin .min,_,_⟩ | .call ⟨.builtin .max,_,_⟩=>opP c o ρ h K
  | .call ⟨.value (.func f),args,_⟩ =>
    match evs ρ args.toList with
    | some es=>match ZfE f es c.calls with
      | some ⟨s,t⟩=>Zj6 (fun K' h'=>s.sem t K' (fun _ _=>False) h') h fun r=>K (ZaI (Yp.evs s.res r)) h
      | none=>False
    | none=>False
  | _=>False
def Zlf (c:Cfg) (o:Oper) (e:Env) (h:Zb) (K:Env→Zb→Prop):Prop :=
  Zje c o.op e h fun v h'=>Zie c.n e o.dst v fun e'=>K e' h'
def ZjK (m i:Nat):Bool:=Nat.beq (Nat.land (Nat.shiftRight m i) 1) 1
def Zfy (m i:Nat):Nat:=Nat.lor m (Nat.shiftLeft 1 i)
def Zgp (m:Nat):List Edge→Bool
  | []=>true
  | e::es=>bif Region.binds .any e then (bif ZjK m e.on then Zgp m es else false) else Zgp m es
def YM (m i:Nat) (o:Oper):Bool:=bif ZjK m i then false else Zgp m o.after.toList
def ZdW (m i:Nat):Nat→List Oper→Bool
  | _,[]=>true
  | k,o::os=>bif Nat.beq k i then ZdW m i (k+1) os else bif YM m k o then false else ZdW m i (k+1) os
def Zb3 (i:Nat):List Edge→Bool
  | []=>false
  | e::es=>bif Nat.beq e.on i then (bif Region.binds .any e then true else Zb3 i es) else Zb3 i es
def Zeh (ops:Array Oper) (oi:Oper) (m i:Nat):Nat→List Oper→Bool
  | _,[]=>true
  | k,o::os=>bif (bif Nat.beq k i then true else bif ZjK m k then true else bif Zb3 i o.after.toList then true else oi.apart ops o) then Zeh ops oi m i (k+1) os else false
def Zlu (m:Nat):Nat→List Oper→Bool
  | _,[]=>true
  | k,o::os=>bif YM m k o then false else Zlu m (k+1) os
abbrev Zb2:=List (Nat × (Zb→Prop))
def Zkt (o:Oper):Zb2→Zb2
  | []=>[]
  | x::r=>bif Zb3 x.1 o.after.toList then Zkt o r else x::Zkt o r
def Zon (h:Zb):Zb2→Prop→Prop
  | [],K=>K
  | x::r,K=>x.2 h∧Zon h r K
def Zf9 (m i j:Nat):Nat→List Oper→Bool
  | _,[]=>true
  | k,o::os=>bif Nat.beq k i||Nat.beq k j then Zf9 m i j (k+1) os else bif YM m k o then false else Zf9 m i j (k+1) os
def Zid (b o:Nat):Nat→List Value→List (Nat × Nat × Value)
  | _,[]=>[]
  | i,v::vs=>(b,Zqa o i,v)::Zid b o (i+1) vs
def ldH (P:Program) (t:TypeId) (h:Zb) (b o:Nat) (K:EV→List (Nat × Nat × Value)→Prop):Prop :=
  bif Y7 (P.underlying t) then
    (bif Nat.beq (Zaz P 8 t).length (P.cellsOf t) then ZmV h b o 0 (Zaz P 8 t) fun vs=>K (.val (.agg vs.toArray)) (Zid b o 0 vs) else False)
  else Ze3 (P.underlying t) h b o fun v=>K v [(b,o,v.v)]
inductive OpK where
  | pure | load (t:TypeId) (x:Operand) | text (x:Operand) | other
def Zb7 (c:Cfg):Op→OpK
  | .move _ | .assign _ | .pick _ _ _ | .nilCheck _ | .binOp _ _ _ _ _ | .unOp _ _ _ | .slice _ _ _ _ _ | .fieldAddr _ _ _ | .field _ _ _ | .indexAddr _ _ _ | .index _ _ _ | .extract _ _ | .build _ _ | .makeFunc _ _ _=> .pure
  | .convert s d x=>match c.P.underlying s,c.P.underlying d with
    | some (.int _),some (.int _)=> .pure
    | some (.slice e),some .string=>match c.P.underlying e with
      | some (.int .u8)=> .text x
      | _=> .other
    | _,_=> .other
  | .call ⟨.builtin .len,_,ts⟩=>bif ZcV c.P ts then .other else .pure
  | .call ⟨.builtin .cap,_,_⟩ | .call ⟨.builtin .min,_,_⟩ | .call ⟨.builtin .max,_,_⟩=> .pure
  | .load t x=> .load t x
  | _=> .other
def Zfa (all:List Oper) (o:Oper) (e:Env) (A B:Env→Prop):Prop :=
  match o.guard with
  | none=>A e
  | some (j,want) =>
    match Zbx all j with
    | none=>B e
    | some t =>
      match e t with
      | some (.lit b) =>
        match b,want with
        | true,true | false,false=>A e
        | true,false | false,true=>B e
      | some (.val (.bool b)) =>
        match want with
        | true=>ZE b (A (e.set t (.lit true))) (B (e.set t (.lit false)))
        | false=>ZE b (B (e.set t (.lit true))) (A (e.set t (.lit false)))
      | some _=>B e
      | none=>False
inductive OrdT where
  | done | take (i:Nat) (r:OrdT) | fork (i:Nat) (r:OrdT) (j:Nat) (s:OrdT)
def OrdT.depth:OrdT→Nat
  | .done=>0
  | .take _ r=>r.depth+1
  | .fork _ r _ s=>Nat.max r.depth s.depth+1
def Zoz (c:Cfg) (ops:Array Oper) (o:Oper) (hd:Zb2) (e:Env) (h:Zb) (rest:Zb2→Env→Zb→Prop):Prop :=
  Zfa ops.toList o e (fun e=>opP c o.op e h fun v h'=>Zie c.n e o.dst v fun e'=>Zon h' (Zkt o hd) (rest (Zkt o hd) e' h'))
   (fun e=>Zie c.n e o.dst (.val undef) fun e'=>rest hd e' h)
def Zp0 (c:Cfg) (ops:Array Oper) (o:Oper) (hd:Zb2) (e:Env) (h:Zb) (rest:Zb2→Env→Zb→Prop):Prop :=
  Zfa ops.toList o e (fun e=>opP c o.op e h fun v _=>Zie c.n e o.dst v fun e'=>rest hd e' h)
   (fun e=>Zie c.n e o.dst (.val undef) fun e'=>rest hd e' h)
def ZhM (c:Cfg) (ops:Array Oper) (K:Env→Zb→Prop):OrdT→Nat→Zb2→Env→Zb→Prop
  | .done,m,_,e,h=>bif Zlu m 0 ops.toList then K e h else False
  | .fork i r j s,m,hd,e,h =>
    match ops[i]?,ops[j]? with
    | some o,some p=>bif YM m i o&&(YM m j p&&Zf9 m i j 0 ops.toList) then
        Zkw (Zoz c ops o hd e h (ZhM c ops K r (Zfy m i))) (Zoz c ops p hd e h (ZhM c ops K s (Zfy m j)))
      else False
    | _,_=>False
  | .take i r,m,hd,e,h =>
    match ops[i]? with
    | none=>False
    | some o =>
      match Zb7 c o.op with
      | .pure=>bif YM m i o&&(Zeh ops o m i 0 ops.toList||ZdW m i 0 ops.toList) then Zp0 c ops o hd e h (ZhM c ops K r (Zfy m i)) else False
      | .load t x=>bif YM m i o&&Zeh ops o m i 0 ops.toList then
          Zfa ops.toList o e (fun e=>match e.ev x with
           | some y=>atP y fun b p=>ldH c.P t h b p fun v cells=>Zie c.n e o.dst v fun e'=>ZhM c ops K r (Zfy m i) ((i,fun h'=>Zdd h' cells)::hd) e' h
           | none=>False)
           (fun e=>Zie c.n e o.dst (.val undef) fun e'=>ZhM c ops K r (Zfy m i) hd e' h)
        else bif YM m i o&&ZdW m i 0 ops.toList then Zp0 c ops o hd e h (ZhM c ops K r (Zfy m i)) else False
      | .text x=>bif YM m i o&&Zeh ops o m i 0 ops.toList then
          Zfa ops.toList o e (fun e=>match e.ev x with
           | some (.val (.slice p l n))=>b2s ⟨p,l,n⟩ h fun s=>Zie c.n e o.dst (.val (.string s)) fun e'=>ZhM c ops K r (Zfy m i) ((i,fun h'=>b2s ⟨p,l,n⟩ h' fun s'=>s'=s)::hd) e' h
           | _=>False)
           (fun e=>Zie c.n e o.dst (.val undef) fun e'=>ZhM c ops K r (Zfy m i) hd e' h)
        else bif YM m i o&&ZdW m i 0 ops.toList then Zoz c ops o hd e h (ZhM c ops K r (Zfy m i)) else False
      | .other=>bif YM m i o&&ZdW m i 0 ops.toList then Zoz c ops o hd e h (ZhM c ops K r (Zfy m i)) else False
inductive Ann where
  | leaf
  | seq (a b:Ann)
  | cut (slots:List Nat) (tys:List VT) (kill:List (Nat × Nat)) (a b:Ann)
  | cond (a b:Ann)
  | block (a:Ann)
  | loop (slots:List Nat) (tys:List VT) (kill:List (Nat × Nat)) (a:Ann)
  | order (l:OrdT)
  | range (tys:List VT) (a b:Ann)
inductive Ex where
  | normal | exit (id:Nat) | ret
def Zco:List Nat→List EV→Nat→Option EV
  | s::ss,v::vs,j=>bif Nat.beq j s then some v else Zco ss vs j
  | _,_,_=>none
def ZhX:List (Nat × Nat)→Nat→Bool
  | [],_=>false
  | (lo,hi)::r,j=>bif Nat.ble lo j&&Nat.ble j hi then true else ZhX r j
def Zft:List Nat→Nat→Bool
  | [],_=>false
  | s::ss,j=>bif Nat.beq j s then true else Zft ss j
def ZlR (slots:List Nat) (vs:List EV) (kill:List (Nat × Nat)) (e:Env):Env:=⟨fun j =>
  match Zco slots vs j with
  | some v=>some v
  | none=>bif ZhX kill j then none else e.f j,e.mD⟩
def Zj4 (e:Env):List Nat→Option (List EV)
  | []=>some []
  | s::ss=>match e s,Zj4 e ss with
    | some v,some vs=>some (v::vs)
    | _,_=>none
def Zit (slots:List Nat) (tys:List VT) (e:Env):Option (Yp tys) :=
  match Zj4 e slots with
  | some es=>Yp.un tys es
  | none=>none
def ZlA (slots:List Nat) (tys:List VT) (e:Env) (J:Yp tys→Zb→Prop) (h:Zb):Prop :=
  match Zit slots tys e with
  | some t=>J t h
  | none=>False
def mkN:Nat:=4294967291
def dstsOf:Code→List Nat
  | .region _ ops _=>ops.toList.filterMap (·.dst)
  | .seq a b=>dstsOf a++dstsOf b
  | .cond _ a b=>dstsOf a++dstsOf b
  | .block _ a=>dstsOf a
  | .loop a=>dstsOf a
  | .rangeFunc _ _ _ _=>[mkN]
  | _=>[]
def ZjC (slots:List Nat) (kill:List (Nat × Nat)) (a:Code):Bool:=(dstsOf a).all fun j=>bif Nat.beq j mkN then false else Zft slots j||ZhX kill j
def Zas (K:Env→Zb→Prop) (Q:Ex→Env→Zb→Prop):Ex→Env→Zb→Prop
  | .normal,e,h=>K e h
  | .exit id,e,h=>Q (.exit id) e h
  | .ret,e,h=>Q .ret e h
def ZnO (id:Nat) (Q:Ex→Env→Zb→Prop):Ex→Env→Zb→Prop
  | .normal,e,h=>Q .normal e h
  | .exit id',e,h=>bif Nat.beq id' id then Q .normal e h else Q (.exit id') e h
  | .ret,e,h=>Q .ret e h
def ZfZ (n:Nat) (e:Env):List Tmp→List EV→Option Env
  | [],[]=>some e
  | p::ps,v::vs=>bif Nat.blt p n then ZfZ n (e.set p v) ps vs else none
  | _,_=>none
def Zop (a:Code):Bool:=Zft (dstsOf a) mkN
def ZlG:Op→Bool
  | .defer _=>true
  | _=>false
def Zdy:List Oper→Bool
  | []=>true
  | o::os=>bif ZlG o.op then false else Zdy os
def Ann.fst:Ann→Ann
  | .seq a _ | .cut _ _ _ a _ | .cond a _ | .block a | .loop _ _ _ a | .range _ a _=>a
  | .leaf | .order _=> .leaf
def Ann.snd:Ann→Ann
  | .seq _ b | .cut _ _ _ _ b | .cond _ b | .range _ _ b=>b
  | _=> .leaf
def Znx (K:Env→Zb→Prop):Ex→Env→Zb→Prop
  | .normal,e,h=>K e h
  | _,_,_=>False
def Znw (k:Option Code→Zb→Prop):Ex→Env→Zb→Prop
  | .normal,_,h=>k none h
  | .exit id,_,h=>k (some (.exit id)) h
  | .ret,_,h=>k (some .ret) h
def wpC (c:Cfg):Code→Ann→Env→Zb→(Ex→Env→Zb→Prop)→Prop
  | .skip,_,e,h,Q=>Q .normal e h
  | .region _ ops draw,ann,e,h,Q =>
    match draw with
    | true=>match ann with
      | .order l=>bif Region.noSelect ops&&(Nat.ble l.depth ops.size&&Zdy ops.toList) then ZhM c ops (fun e' h'=>Q .normal e' h') l 0 [] e h else False
      | _=>bif c.rnd.isNone&&Region.lexB .any ops then Zat c (Zlf c) ops.toList ops.toList e h fun e' h'=>Q .normal e' h' else False
    | false=>Zat c (ZpH c) ops.toList ops.toList e h fun e' h'=>Q .normal e' h'
  | .seq a b,ann,e,h,Q =>
    match ann with
    | .cut slots tys kill x y =>
      bif ZjC slots kill a then
        ZbZ (fun t h'=>wpC c b y (ZlR slots (Yp.evs tys t) kill e) h' Q) (fun J=>wpC c a x e h (Zas (fun e' h'=>ZlA slots tys e' J h') Q))
      else False
    | ann=>wpC c a ann.fst e h (Zas (fun e' h'=>wpC c b ann.snd e' h' Q) Q)
  | .cond x a b,ann,e,h,Q =>
    match e.ev x with
    | some (.lit true)=>wpC c a ann.fst e h Q
    | some (.lit false)=>wpC c b ann.snd e h Q
    | some (.val (.bool v))=>ZE v (wpC c a ann.fst e h Q) (wpC c b ann.snd e h Q)
    | _=>False
  | .block id a,ann,e,h,Q=>wpC c a ann.fst e h (ZnO id Q)
  | .loop a,ann,e,h,Q =>
    match ann with
    | .loop slots tys kill x =>
      bif ZjC slots kill a then
        match Zit slots tys e with
        | some t0=>Zb9 (fun J t h'=>wpC c a x (ZlR slots (Yp.evs tys t) kill e) h' (Zas (fun e' h''=>ZlA slots tys e' J h'') Q)) t0 h
        | none=>False
      else False
    | _=>False
  | .exit id,_,e,h,Q=>Q (.exit id) e h
  | .ret,_,e,h,Q=>Q .ret e h
  | .rangeFunc g ps assign body,ann,e,h,Q =>
    match ann with
    | .range tys x y=>bif c.rnd.isNone&&e.mD.isNo then
      (match e.ev g with
      | some (.val (.func (.func f) ⟨[]⟩ ⟨cs⟩))=>match Zj9 f (cs.map EV.val) c.iters with
        | some ⟨s,t⟩ =>
          ZpF ps.size (fun Y l K h'=>s.sem Y l t K h')
           (fun l r vs h' k=>Zp8 (fun a:Yp tys=>(Yp.evs tys a).map EV.v) vs fun a=>match ZfZ c.n ⟨e.f,.no⟩ ps.toList (Yp.evs tys a) with
             | some e1=>wpC { c with rnd:=some l,pan:=fun _ _=>False } assign x e1 h' (Znx fun e2 h2 =>
                 Zp7 r l h2 fun h3=>wpC { c with rnd:=some l,pan:=fun _ _=>False } body y e2 h3 (Znw k))
             | none=>False)
           h fun p D h'=>ZpV p (Q .normal ⟨e.f,.at_ D⟩ h') (fun id=>Q (.exit id) ⟨e.f,.at_ D⟩ h') (Q .ret ⟨e.f,.at_ D⟩ h')
        | none=>False
      | _=>False)
      else False
    | _=>False
  | _,_,_,_,_=>False
def Zkz (c:Cfg) (e:Env) (h:Zb):List ResultVar→(List EV→Prop)→Prop
  | [],K=>K []
  | .tmp t::r,K=>match e.f t with
    | some v=>Zkz c e h r fun vs=>K (v::vs)
    | none=>False
  | .cell a t::r,K=>match e.f a with
    | some (.adr b o)=>ldT c.P t h b o fun v=>Zkz c e h r fun vs=>K (v::vs)
    | _=>False
def Zdj (l:List EV):Env:=⟨fun j=>go l 0 j,.no⟩
where go:List EV→Nat→Nat→Option EV
  | [],_,_=>none
  | v::vs,i,j=>bif Nat.beq j i then some v else go vs (i+1) j
def Zqj (c:Cfg) (fn:Func) (ann:Ann) (args:List EV) (res:List VT) (K:Yp res→Zb→Prop) (Kp:Value→Zb→Prop) (h:Zb):Prop :=
  match fn.body with
  | some code=>wpC { c with rnd:=none,pan:=bif Zop code then fun _ _=>False else Kp } code ann (Zdj args) h fun ex e h' =>
    match ex with
    | .exit _=>False
    | _=>match e.mD with
      | .no=>Zkz c e h' fn.results.toList fun vs=>match Yp.un res vs with
        | some r=>K r h'
        | none=>False
      | .at_ D=>ZpB D h' fun h'=>Zkz c e h' fn.results.toList fun vs=>match Yp.un res vs with
        | some r=>K r h'
        | none=>False
      | .raw _=>False
  | none=>False
theorem Zhl (w:World) (b o:Nat):w.cell? ⟨b,o,none⟩=Zb.cell w.heap b o:=by
  unfold World.cell? Zb.cell
  simp only [Option.isSome_none,Bool.false_eq_true,if_false]
  cases w.heap[b]? with
  | none=>rfl
  | some x=>cases x<;>rfl
theorem Zot (w:World) (b o:Nat):w.frozen? ⟨b,o,none⟩=Zb.froz w.heap b o:=by
  unfold World.frozen? Zb.froz
  rfl
theorem ZfX (w:World) (b o:Nat) (v:Value):w.setCell ⟨b,o,none⟩ v={ w with heap:=Zb.put w.heap b o v }:=by
  unfold World.setCell Zb.put
  simp only [Option.isSome_none,Bool.false_eq_true,if_false]
  refine congrArg (fun f=>({ w with heap:=w.heap.modify b f }:World)) ?_
  funext x
  cases x<;>rfl
theorem Zfr (b o n:Nat):(⟨b,o,none⟩:Addr).add n=⟨b,o+n,none⟩:=by
  unfold Addr.add
  split
  ·rename_i h;subst h;rfl
  ·rfl
theorem ZiW (o i:Nat):Zqa o i=o+i:=by
  unfold Zqa
  cases h:Nat.beq i 0 with
  | false=>rfl
  | true=>have:=Nat.eq_of_beq_eq_true h;subst this;rfl
def Same (w w':World):Prop:=w'.tape=w.tape∧w'.os=w.os∧w'.output=w.output
theorem Same.refl (w:World):Same w w:=⟨rfl,rfl,rfl⟩
theorem Same.trans {a b c:World} (h:Same a b) (h':Same b c):Same a c:=⟨h'.1.trans h.1,h'.2.1.trans h.2.1,h'.2.2.trans h.2.2⟩
def Zoi:Mark→List Deferred
  | .no=>[]
  | .at_ D=>[{ target:= .collected D,args:= #[]}]
  | .raw ds=>ds
structure Agr (n:Nat) (e:Env) (a:Act):Prop where
  size:a.tmps.size=n
  defers:a.defers=Zoi e.mD
  val:∀ j v,e j=some v→a.tmps[j]?=some v.v
theorem Agr.ev {n:Nat} {e:Env} {a:Act} (h:Agr n e a) {x:Operand} {v:EV} (hx:e.ev x=some v):a.eval x=v.v:=by
  cases x with
  | tmp t=>have:=h.val t v hx;simp [Act.eval,this]
  | const c =>
    cases c<;>simp only [Env.ev,Option.some.injEq] at hx<;>subst hx<;>rfl
  | global g=>simp only [Env.ev,Option.some.injEq] at hx;subst hx;rfl
  | func f=>simp only [Env.ev,Option.some.injEq] at hx;subst hx;rfl
theorem Agr.evs {n:Nat} {e:Env} {a:Act} (h:Agr n e a):∀ {xs:List Operand} {vs:List EV},evs e xs=some vs→xs.map a.eval=vs.map EV.v
  | [],vs,hx=>by simp only [Fw.evs,Option.some.injEq] at hx;subst hx;rfl
  | x::xs,vs,hx=>by
    simp only [Fw.evs] at hx
    split at hx
    ·rename_i v vs' h1 h2
     simp only [Option.some.injEq] at hx;subst hx
     simp [h.ev h1,h.evs h2]
    ·cases hx
theorem Agr.set {n:Nat} {e:Env} {a:Act} (h:Agr n e a) {d:Nat} (hd:Nat.blt d n=true) (v:EV):Agr n (e.set d v) (a.put (some d) v.v):=by
  have hlt:d<n:=by rw [Nat.blt_eq] at hd;exact hd
  refine ⟨by simp [Act.put,h.size],by simp [Act.put,h.defers,Env.set],fun j u hj=>?_⟩
  unfold Env.set at hj
  dsimp only at hj
  cases hb:Nat.beq j d with
  | true =>
    have:=Nat.eq_of_beq_eq_true hb;subst this
    rw [hb] at hj
    simp only [cond_true,Option.some.injEq] at hj
    subst hj
    simp [Act.put,h.size,hlt]
  | false =>
    have hne:j≠d:=Nat.ne_of_beq_eq_false hb
    rw [hb] at hj
    simp only [cond_false] at hj
    have:=h.val j u hj
    simp [Act.put,Array.getElem?_setIfInBounds_ne (Ne.symm hne),this]
theorem Agr.tell {n:Nat} {e:Env} {a:Act} (h:Agr n e a) {t:Nat} {b:Bool} (ht:e t=some (.val (.bool b))):Agr n (e.set t (.lit b)) a:=by
  refine ⟨h.size,h.defers,fun j u hj=>?_⟩
  unfold Env.set at hj
  dsimp only at hj
  cases hb:Nat.beq j t with
  | true =>
    have:=Nat.eq_of_beq_eq_true hb;subst this
    rw [hb] at hj
    simp only [cond_true,Option.some.injEq] at hj
    subst hj
    have:=h.val j _ ht
    exact this
  | false =>
    rw [hb] at hj
    exact h.val j u hj
theorem XA {n:Nat} {e:Env} {a:Act} (h:Agr n e a) {d:Option Tmp} {v:EV} {K:Env→Prop} (hk:Zie n e d v K) :
    ∃ e',Agr n e' (a.put d v.v)∧K e':=by
  unfold Zie at hk
  cases d with
  | none=>exact ⟨e,h,hk⟩
  | some d =>
    simp only at hk
    cases hb:Nat.blt d n with
    | false=>rw [hb] at hk;exact hk.elim
    | true=>rw [hb] at hk;exact ⟨_,h.set hb v,hk⟩
section
variable (P:Program) (w:World)
theorem ZbI {b o:Nat} {v:Value} (h:Zb.cell w.heap b o=some v) (m:Mode):(load ⟨b,o,none⟩ m).run P w = .ok v w:=by
  rw [run_load,Zhl,h]
theorem ZfA {b o:Nat} {u v:Value} (h:Zb.cell w.heap b o=some u) (hf:Zb.froz w.heap b o=false) (hv:ZW v=true) (m:Mode) :
    (store ⟨b,o,none⟩ v m).run P w = .ok () { w with heap:=Zb.put w.heap b o v }:=by
  have hv':v.oneCell'=true:=by cases v<;>first | rfl | (simp [ZW] at hv)
  rw [run_store P w _ v m hv',Zhl,h,Zot,hf]
  simp only [Bool.false_eq_true,if_false,ZfX]
theorem Za (t:TypeId) {d:TypeDesc} (h:P.underlying t=some d):(underlying t).run P w = .ok d w:=by
  unfold underlying
  simp [h]
theorem YV (t:TypeId) {i:TypeInfo} (h:P.info? t=some i):(typeInfo t).run P w = .ok i w:=by
  unfold typeInfo
  simp [h]
theorem Ye (t:TypeId) {i:TypeInfo} (h:P.info? t=some i):(sizeOf t).run P w = .ok i.size w:=by
  unfold sizeOf
  simp [YV P w t h]
theorem Yw (t:TypeId) {i:TypeInfo} {v:Value} (h:P.info? t=some i) (hv:i.zero=some v):(zeroValue t).run P w = .ok v w:=by
  unfold zeroValue
  simp [YV P w t h,hv]
theorem YI {t:TypeId} {d:TypeDesc} (h:P.underlying t=some d):∃ i,P.info? t=some i:=by
  unfold Program.underlying at h
  cases hi:P.info? t with
  | none=>simp [hi] at h
  | some i=>exact ⟨i,rfl⟩
theorem Y8 {t:TypeId} {i:TypeInfo} (h:P.info? t=some i):P.cellsOf t=i.size:=by
  unfold Program.cellsOf
  simp [h]
theorem Zal (t:TypeId) {d:TypeDesc} (h:P.underlying t=some d):(isAgg t).run P w = .ok (Y7 (some d)) w:=by
  unfold isAgg
  simp only [Sem.run_bind,Za P w t h,Result.andThen_ok]
  cases d<;>rfl
theorem Zbp (b o:Nat):∀ (vs:List Value) (i:Nat) (acc:Array Value),Zb.has w.heap b (o+i) vs →
    (loadCellsFrom ⟨b,o,none⟩ i vs.length acc).run P w = .ok (acc++vs.toArray) w
  | [],i,acc,_=>by simp [loadCellsFrom]
  | v::vs,i,acc,h=>by
    have h1:Zb.cell w.heap b (o+i)=some v:=h.1
    have h2:Zb.has w.heap b (o+i+1) vs:=h.2
    simp only [List.length_cons,loadCellsFrom,Sem.run_bind,Zfr,ZbI P w h1,Result.andThen_ok]
    rw [Zbp b o vs (i+1) _ (by rw [← Nat.add_assoc];exact h2)]
    simp
theorem XU (b o:Nat) (vs:List Value) (h:Zb.has w.heap b o vs):(loadCells ⟨b,o,none⟩ vs.length).run P w = .ok vs.toArray w:=by
  unfold loadCells
  rw [Zbp P w b o vs 0 #[] (by simpa using h)]
  simp
end
theorem ZiR {h:Zb} {b o b' o':Nat} {v:Value} (hne:b≠b'∨o≠o'):(h.put b o v).cell b' o'=h.cell b' o':=by
  unfold Zb.put Zb.cell
  simp only [Array.getElem?_modify]
  by_cases hb:b=b'
  ·subst hb
   have ho:o≠o':=hne.resolve_left (fun h=>h rfl)
   simp only [if_true]
   cases hh:h[b]? with
   | none=>rfl
   | some x=>cases x<;>simp [Array.getElem?_setIfInBounds_ne ho]
  ·simp [hb]
theorem ZmY {h:Zb} {b o b' o':Nat} {v:Value}:(h.put b o v).froz b' o'=h.froz b' o':=by
  unfold Zb.put Zb.froz
  simp only [Array.getElem?_modify]
  by_cases hb:b=b'
  ·subst hb
   simp only [if_true]
   cases hh:h[b]? with
   | none=>rfl
   | some x=>cases x<;>rfl
  ·simp [hb]
theorem Zjt {h:Zb} {b o:Nat} {v:Value}:∀ {n o':Nat},o<o'→h.free b o' n→(h.put b o v).free b o' n
  | 0,_,_,_=>trivial
  | n+1,o',hlt,hf=>by
    obtain ⟨⟨⟨u,hu⟩,hz⟩,hr⟩:=hf
    exact ⟨⟨⟨u,by rw [ZiR (.inr (by omega))];exact hu⟩,by rw [ZmY];exact hz⟩,Zjt (by omega) hr⟩
theorem Zah (P:Program) (b o:Nat):∀ (vs:List Value) (i:Nat) (w:World),Zb.free w.heap b (o+i) vs.length→vs.all ZW=true →
    (storeCells ⟨b,o,none⟩ vs i).run P w = .ok () { w with heap:=Zb.puts w.heap b (o+i) vs }
  | [],i,w,_,_=>rfl
  | v::vs,i,w,hf,ha=>by
    obtain ⟨⟨⟨u,hu⟩,hz⟩,hr⟩:=hf
    simp only [List.all_cons,Bool.and_eq_true] at ha
    simp only [storeCells,Sem.run_bind,Zfr,ZfA P w hu hz ha.1,Result.andThen_ok]
    rw [Zah P b o vs (i+1) _ (by rw [← Nat.add_assoc];exact Zjt (by omega) hr) ha.2]
    simp [Zb.puts,Nat.add_assoc]
theorem Zdb {d:Option TypeDesc} {h:Zb} {b o:Nat} {K:EV→Prop} (hk:Ze3 d h b o K) :
    ∃ v,h.cell b o=some v.v∧K v∧Y7 d=false∧d.isSome=true:=by
  unfold Ze3 at hk
  cases d with
  | none=>exact hk.elim
  | some d =>
    cases d<;>simp only at hk<;>first
      | exact hk.elim
      | (obtain ⟨x,hx,hK⟩:=hk;refine ⟨_,?_,hK,rfl,rfl⟩;exact hx)
theorem ZdY {h:Zb} {b o:Nat}:∀ {ds:List (Option TypeDesc)} {i:Nat} {K:List Value→Prop},ZmV h b o i ds K →
    ∃ vs,vs.length=ds.length∧h.has b (o+i) vs∧K vs
  | [],i,K,hk=>⟨[],rfl,trivial,hk⟩
  | d::ds,i,K,hk=>by
    obtain ⟨v,hc,hk,_⟩:=Zdb hk
    obtain ⟨vs,hl,hh,hk⟩:=ZdY hk
    rw [ZiW] at hc
    exact ⟨v.v::vs,by simp [hl],⟨hc,by rw [Nat.add_assoc];exact hh⟩,hk⟩
theorem Zjn {P:Program} {t:TypeId} {b o:Nat} {K:EV→Prop} {h:Zb} (hk:ldT P t h b o K) :
    ∃ v,(∀ w:World,w.heap=h→(loadVar t ⟨b,o,none⟩).run P w = .ok v.v w)∧K v:=by
  unfold ldT at hk
  cases hu:P.underlying t with
  | none=>rw [hu] at hk;simp [Y7,Ze3] at hk
  | some d =>
    obtain ⟨i,hi⟩:=YI P hu
    rw [hu] at hk
    unfold loadVar
    cases ha:Y7 (some d) with
    | true =>
      rw [ha] at hk
      simp only [cond_true] at hk
      cases hl:Nat.beq (Zaz P 8 t).length (P.cellsOf t) with
      | false=>rw [hl] at hk;exact hk.elim
      | true =>
        rw [hl] at hk
        obtain ⟨vs,hlen,hh,hk⟩:=ZdY hk
        have hs:i.size=vs.length:=by rw [hlen,Nat.eq_of_beq_eq_true hl,Y8 P hi]
        refine ⟨.val (.agg vs.toArray),fun w hw=>?_,hk⟩
        subst hw
        simp only [Sem.run_bind,Zal P w t hu,ha,Result.andThen_ok,if_true,Ye P w t hi,hs]
        rw [XU P w b o vs (by simpa using hh)]
        rfl
    | false =>
      rw [ha] at hk
      obtain ⟨v,hc,hk,_⟩:=Zdb hk
      refine ⟨v,fun w hw=>?_,hk⟩
      subst hw
      simp only [Sem.run_bind,Zal P w t hu,ha,Result.andThen_ok,Bool.false_eq_true,if_false]
      exact ZbI P w hc _
def Zny (vs:List VT) (t:Yp vs):Value:=(ZaI (Yp.evs vs t)).v
def fen (r:Option Nat):Fence:={ fn:=fun _=>True,depth:=none,alive:=false,round:=r }
theorem Zb0 {r:Option Nat} {n:Nat} {P:Program} {f:FuncId} {args:Array Value} {w:World} {R:Ending→World→Prop}:CallsIn (fen r) n P f args w R↔Calls P f args w R :=
  callsIn_wide (n:=n)
def Zak (res:List VT) (w:World) (K:Yp res→Zb→Prop) (Kp:Value→Zb→Prop):Ending→World→Prop:=fun e w' =>
  (∃ r,e = .returned (Zny res r)∧Same w w'∧K r w'.heap)∨(∃ v,e = .panicked [{ v,recovered:=false }]∧Same w w'∧Kp v w'.heap)
def Znk (P:Program) (l:Nat) (vs:List Value) (w:World) (k:Bool→Zb→Prop):Prop :=
  ∃ fn tmps assign body,(Instr.yield l vs.toArray).run P w = .ok (.round l fn tmps assign body) w ∧
    RoundIn (fen none) 0 P l fn tmps assign body w fun e w'=>∃ b,e = .returned (.bool b)∧Same w w'∧k b w'.heap
def YOK (P:Program) (Y:Yld):Prop:=∀ l vs k w,Y l vs k w.heap→Znk P l vs w k
structure Zx (P:Program) (f:FuncId) (s:Zh):Prop where
  named:∃ fn,P.funcs[f]?=some fn∧(fn.name == "runtime.NumGoroutine")=false∧fn.body.isNone=false
  calls:∀ (t:Yp s.args) (K:Yp s.res→Zb→Prop) (Kp:Value→Zb→Prop) (w:World),s.sem t K Kp w.heap →
    Calls P f ((Yp.evs s.args t).map EV.v).toArray w (Zak s.res w K Kp)
def XC.spec (s:XC) (Y:Yld):Zh:=⟨.yl::s.caps,[],fun t K _ h=>s.sem Y t.1 t.2 (fun h'=>K () h') h⟩
def Zmk (P:Program) (f:FuncId) (s:XC):Prop:=∀ Y,YOK P Y→Zx P f (s.spec Y)
def ZoJ (P:Program) (f:FuncId):Prop:=∀ (t b:Nat) (es:Array MapEntry) (c:Nat) (w:World),w.heap[b]?=some (.map es c) →
  ∃ w',(callFunc f #[.iface t (.map (some b))]).run P w = .ok (.value (.iface t (.map (some w.heap.size)))) w'∧Same w w'∧w'.heap=w.heap.push (.map es c)
def ZjO (P:Program) (name:String) (t:TypeId) (f:FuncId):Prop:=∀ (v:Value) (w:World),(method (P.types.size+Made.depth) t v name).run P w = .ok (f,v) w
structure Cfg.OK (c:Cfg):Prop where
  calls:∀ x,x∈c.calls→Zx c.P x.1 x.2
  ext:∀ f,f∈c.ext→ZoJ c.P f
  dyn:∀ x,x∈c.dyn→ZjO c.P x.1 x.2.1 x.2.2
  iters:∀ x,x∈c.iters→Zmk c.P x.1 x.2
  yld:YOK c.P c.yld
theorem Cfg.OK.at {c:Cfg} (h:c.OK) (r:Option Nat) (p:Value→Zb→Prop):Cfg.OK { c with rnd:=r,pan:=p }:=⟨h.calls,h.ext,h.dyn,h.iters,h.yld⟩
theorem ZL (P:Program):YOK P Yg:=fun _ _ _ _ h=>h.elim
theorem ZeT {f:FuncId} {es:List EV}:∀ {l:List (FuncId × XC)} {p:Zmi},Zj9 f es l=some p→(f,p.s)∈l∧Yp.un p.s.caps es=some p.t
  | [],p,h=>by simp [Zj9] at h
  | (g,s)::r,p,h=>by
    simp only [Zj9] at h
    cases hb:Nat.beq f g with
    | false =>
      rw [hb] at h
      have:=ZeT (l:=r) h
      exact ⟨.tail _ this.1,this.2⟩
    | true =>
      rw [hb] at h
      have he:=Nat.eq_of_beq_eq_true hb
      subst he
      simp only [cond_true] at h
      split at h
      ·rename_i t ht
       simp only [Option.some.injEq] at h
       subst h
       exact ⟨.head _,ht⟩
      ·have:=ZeT (l:=r) h
       exact ⟨.tail _ this.1,this.2⟩
theorem Zck {f:FuncId} {es:List EV}:∀ {l:List (FuncId × Zh)} {p:ZnR},ZfE f es l=some p→(f,p.s)∈l∧Yp.un p.s.args es=some p.t
  | [],p,h=>by simp [ZfE] at h
  | (g,s)::r,p,h=>by
    simp only [ZfE] at h
    cases hb:Nat.beq f g with
    | false =>
      rw [hb] at h
      have:=Zck (l:=r) h
      exact ⟨.tail _ this.1,this.2⟩
    | true =>
      rw [hb] at h
      have he:=Nat.eq_of_beq_eq_true hb
      subst he
      simp only [cond_true] at h
      split at h
      ·rename_i t ht
       simp only [Option.some.injEq] at h
       subst h
       exact ⟨.head _,ht⟩
      ·have:=Zck (l:=r) h
       exact ⟨.tail _ this.1,this.2⟩
theorem Zdv {f:FuncId} {es:List EV}:∀ {l:List (FuncId × Zh)} {p:Zhq},ZfD f es l=some p→(f,(⟨p.a0::p.rest,p.res,p.sem⟩:Zh))∈l∧Yp.un p.rest es=some p.t
  | [],p,h=>by simp [ZfD] at h
  | (g,⟨a0::rest,res,sem⟩)::r,p,h=>by
    simp only [ZfD] at h
    cases hb:Nat.beq f g with
    | false =>
      rw [hb] at h
      have:=Zdv (l:=r) h
      exact ⟨.tail _ this.1,this.2⟩
    | true =>
      rw [hb] at h
      have he:=Nat.eq_of_beq_eq_true hb
      subst he
      simp only [cond_true] at h
      split at h
      ·rename_i t ht
       simp only [Option.some.injEq] at h
       subst h
       exact ⟨.head _,ht⟩
      ·have:=Zdv (l:=r) h
       exact ⟨.tail _ this.1,this.2⟩
  | (g,⟨[],res,sem⟩)::r,p,h=>by
    simp only [ZfD] at h
    have:=Zdv (l:=r) h
    exact ⟨.tail _ this.1,this.2⟩
theorem Zh6 {calls:List (FuncId × Zh)} {Kp:Value→Zb→Prop} {name:String} {v:Value} {es:List EV} {h:Zb} {K:EV→Zb→Prop}:∀ {l:List (String × TypeId × FuncId)},ZoA calls Kp name v es h K l →
    ∃ (t:TypeId) (f:FuncId) (p:Zhq) (x:p.a0.D),(name,t,f)∈l∧v = .iface t (p.a0.ev x).v∧ZfD f es calls=some p∧p.sem (x,p.t) (fun rr h'=>K (ZaI (Yp.evs p.res rr)) h') Kp h
  | [],hk=>hk.elim
  | (n,t,f)::r,hk=>by
    have tail:ZoA calls Kp name v es h K r→∃ (t':TypeId) (f':FuncId) (p:Zhq) (x:p.a0.D),(name,t',f')∈(n,t,f)::r∧v = .iface t' (p.a0.ev x).v∧ZfD f' es calls=some p∧p.sem (x,p.t) (fun rr h'=>K (ZaI (Yp.evs p.res rr)) h') Kp h:=fun h9=>by
      obtain ⟨t',f',p,x,h1,h2,h3,h4⟩:=Zh6 h9
      exact ⟨t',f',p,x,.tail _ h1,h2,h3,h4⟩
    simp only [ZoA] at hk
    cases hb:n ==name with
    | false=>rw [hb] at hk;exact tail hk
    | true =>
      rw [hb] at hk
      have he:n=name:=by simpa using hb
      subst he
      simp only [cond_true] at hk
      split at hk
      ·rename_i p hp
       rcases hk with ⟨x,hx,hk⟩ | hk
       ·exact ⟨t,f,p,x,.head _,hx,hp,hk⟩
       ·exact tail hk
      ·exact tail hk
theorem Zep {calls:List (FuncId × Zh)} {Kp:Value→Zb→Prop} {v:Value} {es:List EV} {h:Zb} {K:EV→Zb→Prop}:∀ {l:List (FuncId × List Leaf)},fnP calls Kp v es h K l →
    ∃ (f:FuncId) (cs:List Value) (s:Zh) (t:Yp s.args),v = .func (.func f) #[] ⟨cs⟩∧ZfE f (Znf es cs) calls=some ⟨s,t⟩∧s.sem t (fun rr h'=>K (ZaI (Yp.evs s.res rr)) h') Kp h
  | [],hk=>hk.elim
  | (f,[])::r,hk=>by
    simp only [fnP] at hk
    split at hk
    ·rename_i s t hp
     rcases hk with ⟨hv,hk⟩ | hk
     ·exact ⟨f,[],s,t,hv,by simpa [Znf] using hp,hk⟩
     ·exact Zep hk
    ·exact Zep hk
  | (f,l::ls)::r,hk=>by
    simp only [fnP] at hk
    rcases hk with ⟨c,hv,hk⟩ | hk
    ·split at hk
     ·rename_i s t hp
      exact ⟨f,_,s,t,hv,hp,hk⟩
     ·exact hk.elim
    ·exact Zep hk
theorem Zjs {f:FuncId}:∀ {l:List FuncId},ZoM f l=true→f∈l
  | [],h=>by simp [ZoM] at h
  | g::r,h=>by
    simp only [ZoM] at h
    cases hb:Nat.beq f g with
    | true=>rw [Nat.eq_of_beq_eq_true hb];exact .head _
    | false=>rw [hb] at h;exact .tail _ (Zjs h)
theorem Zpw {l:Leaf} {v:Value} {x:l.D} (h:l.un v=some x):l.mk x=v:=by
  cases l<;>cases v<;>simp only [Leaf.un] at h<;>first
    | (split at h
       ·simp only [Option.some.injEq] at h;subst h;rename_i hk;subst hk;rfl
       ·cases h)
    | (simp only [Option.some.injEq] at h;subst h;rfl)
    | cases h
theorem ZkW:∀ {ls:List Leaf} {vs:List Value} {t:Tup ls},Tup.un ls vs=some t→Tup.vals ls t=vs
  | [],[],t,_=>rfl
  | [],_::_,t,h=>by simp [Tup.un] at h
  | _::_,[],t,h=>by simp [Tup.un] at h
  | l::ls,v::vs,t,h=>by
    simp only [Tup.un] at h
    split at h
    ·rename_i x t' h1 h2
     simp only [Option.some.injEq] at h
     subst h
     simp only [Tup.vals,Zpw h1,ZkW h2]
    ·cases h
theorem Zm0 {f:FuncId} {e:EV} {x:Unit} (h:fnU f e=some x):(EV.val (.func (.func f) #[] #[])).v=e.v:=by
  unfold fnU at h
  split at h
  ·rename_i g
   cases hb:Nat.beq f g with
   | false=>rw [hb] at h;cases h
   | true=>rw [Nat.eq_of_beq_eq_true hb]
  ·cases h
theorem Zl0 {f:FuncId} {ls:List Leaf} {e:EV} {x:Tup ls} (h:Zrm f ls e=some x):(EV.val (.func (.func f) #[] ⟨Tup.vals ls x⟩)).v=e.v:=by
  unfold Zrm at h
  split at h
  ·rename_i g cs
   cases hb:Nat.beq f g with
   | false=>rw [hb] at h;cases h
   | true =>
     rw [hb] at h
     rw [Nat.eq_of_beq_eq_true hb,ZkW (ls:=ls) (vs:=cs) h]
  ·cases h
theorem Zmq {e:EV} {l:Nat} (h:ylU e=some l):(EV.val (.func (.yield l) #[] #[])).v=e.v:=by
  unfold ylU at h
  split at h
  ·simp only [Option.some.injEq] at h;subst h;rfl
  ·cases h
theorem Zq4 {v:VT} {e:EV} {x:v.D} (h:v.un e=some x):(v.ev x).v=e.v:=by
  cases v with
  | one l=>exact Zpw (v:=e.v) h
  | agg ls =>
    cases e with
    | val u =>
      cases u with
      | agg cs =>
        have:=ZkW (ls:=ls) (vs:=cs.toList) h
        show Value.agg (Tup.vals ls x).toArray = .agg cs
        rw [this]
      | _=>simp [VT.un] at h
    | lit b=>simp [VT.un] at h
    | adr b o=>simp [VT.un] at h
    | itr t b=>simp [VT.un] at h
    | more k v=>simp [VT.un] at h
    | over=>simp [VT.un] at h
  | fn f=>exact Zm0 h
  | clo f ls=>exact Zl0 h
  | yl=>exact Zmq h
theorem ZbG:∀ {vs:List VT} {es:List EV} {t:Yp vs},Yp.un vs es=some t→(Yp.evs vs t).map EV.v=es.map EV.v
  | [],[],t,_=>rfl
  | [],_::_,t,h=>by simp [Yp.un] at h
  | _::_,[],t,h=>by simp [Yp.un] at h
  | v::vs,e::es,t,h=>by
    simp only [Yp.un] at h
    split at h
    ·rename_i x t' h1 h2
     simp only [Option.some.injEq] at h
     subst h
     simp only [Yp.evs,List.map_cons,Zq4 h1,ZbG h2]
    ·cases h
theorem Zlt {P:Program} {ρ:Operand→Value} {o:Oper} {w w':World} {n:Next} (hr:(execOp ρ o).run P w = .ok n w') (hn:∀ d,n≠ .defer d):∀ c,o.op≠ .defer c:=by
  intro c hc
  unfold execOp at hr
  rw [hc] at hr
  simp only [Sem.run_bind] at hr
  cases h:(resolve ρ c o.type).run P w with
  | ok d w1 =>
    rw [h] at hr
    simp only [Result.andThen_ok,Sem.run_pure] at hr
    cases hr
    exact hn _ rfl
  | halt x w1 =>
    rw [h] at hr
    cases hr
theorem Zdp {P:Program} {r:Option Nat} {ρ:Operand→Value} {o:Oper} {w w':World} {n:Next} (hr:(execOp ρ o).run P w = .ok n w') (hn:∀ d,n≠ .defer d):(o.semAt r ρ).run P w = .ok n w':=by
  rw [Oper.semAt_eq _ _ _ (Zlt hr hn)]
  exact hr
theorem Znr {P:Program} {r:Option Nat} {o:Oper} {a:Act} {w w':World} {v:Value} {next:Act→World→Prop} {Q:Exit→Act→World→Prop}
    (hr:(execOp a.eval o).run P w = .ok (.value v) w') (hn:next (a.put o.dst v) w'):o.wpIn (fen r) 0 P a w next Q:=by
  refine ⟨fun _ _=>trivial,?_⟩
  rw [show (fen r).round=r from rfl,Zdp hr (fun _ h=>by cases h)]
  exact hn
theorem Zi2 {P:Program} {r:Option Nat} {o:Oper} {a:Act} {w w':World} {next:Act→World→Prop} {Q:Exit→Act→World→Prop}
    (hr:(execOp a.eval o).run P w = .ok .skip w') (hn:next (a.put o.dst undef) w'):o.wpIn (fen r) 0 P a w next Q:=by
  refine ⟨fun _ _=>trivial,?_⟩
  rw [show (fen r).round=r from rfl,Zdp hr (fun _ h=>by cases h)]
  exact hn
theorem Zgy {P:Program} {r:Option Nat} {o:Oper} {a:Act} {w:World} {f:FuncId} {args:Array Value} {next:Act→World→Prop} {Q:Exit→Act→World→Prop}
    (hr:(execOp a.eval o).run P w = .ok (.enter f args) w) (hc:Calls P f args w fun
      | .returned v,w''=>next (a.put o.dst v) w''
      | .panicked chain,w''=>Q (.panic chain) a w''
      | .outgrown,_=>LetsOut Q):o.wpIn (fen r) 0 P a w next Q:=by
  refine ⟨fun _ _=>trivial,?_⟩
  rw [show (fen r).round=r from rfl,Zdp hr (fun _ h=>by cases h)]
  exact ⟨fun h=>(by cases h),Zb0.2 hc⟩
theorem Zmr {P:Program} {r:Option Nat} {o:Oper} {a:Act} {w:World} {l:Nat} {f:FuncId} {tmps:Array Value} {assign body:Code} {next:Act→World→Prop} {Q:Exit→Act→World→Prop}
    (hr:(execOp a.eval o).run P w = .ok (.round l f tmps assign body) w) {k:Bool→World→Prop} (hc:RoundIn (fen none) 0 P l f tmps assign body w fun e w'=>∃ b,e = .returned (.bool b)∧k b w')
    (hn:∀ b w',k b w'→next (a.put o.dst (.bool b)) w'):o.wpIn (fen r) 0 P a w next Q:=by
  refine ⟨fun _ _=>trivial,?_⟩
  rw [show (fen r).round=r from rfl,Zdp hr (fun _ h=>by cases h)]
  refine ⟨fun h=>(by cases h),?_⟩
  have hc':RoundIn (fen r) (0 - 1) P l f tmps assign body w fun e w'=>∃ b,e = .returned (.bool b)∧k b w':=hc
  refine hc'.mono ?_
  rintro e w' ⟨b,rfl,hb⟩
  exact hn _ _ hb
theorem Zms {P:Program} {r:Option Nat} {o:Oper} {a:Act} {w:World} {v:Value} {next:Act→World→Prop} {Q:Exit→Act→World→Prop}
    (hd:∀ c,o.op≠ .defer c) (hr:(execOp a.eval o).run P w = .halt (.panic v) w) (hq:Q (.panic [{ v,recovered:=false }]) a w):o.wpIn (fen r) 0 P a w next Q:=by
  refine ⟨fun _ _=>trivial,?_⟩
  rw [show (fen r).round=r from rfl,Oper.semAt_eq _ _ _ hd,hr]
  exact hq
theorem Zk9 {P:Program} {w w':World} {s:Sem Value} {v:Value} (h:s.run P w = .ok v w') :
    (do pure (.value (← s)):Sem Next).run P w = .ok (.value v) w':=by
  simp [h]
theorem ZpE {P:Program} {w w':World} {s:Sem Unit} (h:s.run P w = .ok () w') :
    (do s;pure .skip:Sem Next).run P w = .ok .skip w':=by
  simp [h]
theorem Znh {P:Program} {op:BinOp} {t:TypeId} {x y:EV} {K:EV→Prop} (hk:ZnP op x y K):∃ v,(∀ w,(binOp op t x.v y.v).run P w = .ok v.v w)∧K v:=by
  unfold ZnP at hk
  split at hk
  ·rename_i k a k' b
   cases op<;>simp only at hk
   case shl =>
     obtain ⟨h0,hk⟩:=hk
     refine ⟨_,fun w=>?_,hk⟩
     simp only [EV.v,binOp,Op.shift,if_neg (Int.not_lt.2 h0)]
     rfl
   case shr =>
     obtain ⟨h0,hk⟩:=hk
     refine ⟨_,fun w=>?_,hk⟩
     simp only [EV.v,binOp,Op.shift,if_neg (Int.not_lt.2 h0)]
     rfl
   all_goals
     rcases Decidable.em (k=k') with he | he
     case inr=>rw [if_neg he] at hk;exact hk.elim
     subst he
     rw [if_pos rfl] at hk
     first
     | exact hk.elim
     | (obtain ⟨h0,hk⟩:=(show Zbs _ _ from hk)
        refine ⟨_,fun w=>?_,hk⟩
        simp only [EV.v,binOp,ne_eq,not_true,if_false,Op.intDiv,if_neg h0]
        rfl)
     | (refine ⟨_,fun w=>?_,hk⟩;simp only [EV.v,binOp,ne_eq,not_true,if_false];rfl)
  ·rename_i a b
   cases op<;>simp only at hk
   case add =>
     obtain ⟨h0,hk⟩:=hk
     refine ⟨_,fun w=>?_,hk⟩
     have:¬ (((a.size+b.size:Nat):Int)>IntKind.i64.max):=by
       have:IntKind.i64.max=9223372036854775807:=by decide
       rw [this];omega
     simp only [EV.v,binOp,Op.stringOp,if_neg this]
     rfl
   all_goals first
     | exact hk.elim
     | (refine ⟨_,fun w=>?_,hk⟩;rfl)
  ·exact hk.elim
section
variable {P:Program} {t:TypeId} (w:World)
theorem ZdB {e:TypeId} (hu:P.underlying t=some (.pointer e)) (p:Option Addr):(Op.equal t (.pointer p) (.pointer none)).run P w = .ok p.isNone w:=by
  unfold Op.equal Op.maxDepth
  rw [show (10000:Nat)=9999+1 from rfl]
  unfold Op.equalIn
  simp only [Sem.run_bind,Za P w t hu,Result.andThen_ok]
  cases p<;>rfl
theorem Zff {e:TypeId} (hu:P.underlying t=some (.slice e)) (p:Option Addr) (n m n' m':Nat):(Op.equal t (.slice p n m) (.slice none n' m')).run P w = .ok p.isNone w:=by
  unfold Op.equal Op.maxDepth
  rw [show (10000:Nat)=9999+1 from rfl]
  unfold Op.equalIn
  simp only [Sem.run_bind,Za P w t hu,Result.andThen_ok]
  cases p<;>rfl
theorem Zhh {k e:TypeId} (hu:P.underlying t=some (.map k e)) (p:Option Nat):(Op.equal t (.map p) (.map none)).run P w = .ok p.isNone w:=by
  unfold Op.equal Op.maxDepth
  rw [show (10000:Nat)=9999+1 from rfl]
  unfold Op.equalIn
  simp only [Sem.run_bind,Za P w t hu,Result.andThen_ok]
  cases p<;>rfl
theorem Zhg {ms:Array (String × TypeId)} (hu:P.underlying t=some (.interface ms)):(Op.equal t .nilIface .nilIface).run P w = .ok true w:=by
  unfold Op.equal Op.maxDepth
  rw [show (10000:Nat)=9999+1 from rfl]
  unfold Op.equalIn
  simp only [Sem.run_bind,Za P w t hu,Result.andThen_ok]
  rfl
theorem Zfg {ms:Array (String × TypeId)} (hu:P.underlying t=some (.interface ms)) (t2:TypeId) (u:Value):(Op.equal t (.iface t2 u) .nilIface).run P w = .ok false w:=by
  unfold Op.equal Op.maxDepth
  rw [show (10000:Nat)=9999+1 from rfl]
  unfold Op.equalIn
  simp only [Sem.run_bind,Za P w t hu,Result.andThen_ok]
  rfl
theorem ZfG {ps rs:Array TypeId} {vr:Bool} (hu:P.underlying t=some (.func ps rs vr)):(Op.equal t .nilFunc .nilFunc).run P w = .ok true w:=by
  unfold Op.equal Op.maxDepth
  rw [show (10000:Nat)=9999+1 from rfl]
  unfold Op.equalIn
  simp only [Sem.run_bind,Za P w t hu,Result.andThen_ok]
  rfl
theorem ZfH {ps rs:Array TypeId} {vr:Bool} (hu:P.underlying t=some (.func ps rs vr)) (f:Fn) (a b:Array Value):(Op.equal t (.func f a b) .nilFunc).run P w = .ok false w:=by
  unfold Op.equal Op.maxDepth
  rw [show (10000:Nat)=9999+1 from rfl]
  unfold Op.equalIn
  simp only [Sem.run_bind,Za P w t hu,Result.andThen_ok]
  rfl
theorem Zkr (hu:P.underlying t=some .bool) (a b:Bool):(Op.equal t (.bool a) (.bool b)).run P w = .ok (a ==b) w:=by
  unfold Op.equal Op.maxDepth
  rw [show (10000:Nat)=9999+1 from rfl]
  unfold Op.equalIn
  simp only [Sem.run_bind,Za P w t hu,Result.andThen_ok]
  rfl
end
theorem Zoy {P:Program} {t:TypeId} {neg:Bool} {x y:EV} {K:EV→Prop} (hk:eqP (P.underlying t) neg x y K) :
    ∃ v,(∀ w,(binOp (bif neg then .neq else .eql) t x.v y.v).run P w = .ok v.v w)∧K v:=by
  unfold eqP at hk
  split at hk
  ·rename_i e b o hu
   refine ⟨_,fun w=>?_,hk⟩
   have:=ZdB w hu (some ⟨b,o,none⟩)
   cases neg<;>simp only [cond_true,cond_false,EV.v,binOp,Sem.run_bind,this,Result.andThen_ok]<;>rfl
  ·rename_i e p hu
   refine ⟨_,fun w=>?_,hk⟩
   have:=ZdB w hu p
   cases neg<;>simp only [cond_true,cond_false,EV.v,binOp,Sem.run_bind,this,Result.andThen_ok]<;>cases p<;>rfl
  ·rename_i e p n m n' m' hu
   refine ⟨_,fun w=>?_,hk⟩
   have:=Zff w hu p n m n' m'
   cases neg<;>simp only [cond_true,cond_false,EV.v,binOp,Sem.run_bind,this,Result.andThen_ok]<;>cases p<;>rfl
  ·rename_i k e p hu
   refine ⟨_,fun w=>?_,hk⟩
   have:=Zhh w hu p
   cases neg<;>simp only [cond_true,cond_false,EV.v,binOp,Sem.run_bind,this,Result.andThen_ok]<;>cases p<;>rfl
  ·rename_i hu
   split at hk
   ·rename_i a b hx hy
    refine ⟨_,fun w=>?_,hk⟩
    have:=Zkr w hu a b
    rw [hx,hy]
    cases neg<;>simp only [cond_true,cond_false,EV.v,binOp,Sem.run_bind,this,Result.andThen_ok]<;>rfl
   ·exact hk.elim
  ·exact hk.elim
theorem Zh5 (off:Nat):∀ (l:List Value) (k:Nat) (cs:Array Value),off+k+l.length≤cs.size →
    ((l.zipIdx k).foldl (fun cs x=>cs.setIfInBounds (off+x.2) x.1) cs).toList=cs.toList.take (off+k)++l++cs.toList.drop (off+k+l.length)
  | [],k,cs,h=>by simp
  | v::l,k,cs,h=>by
    simp only [List.zipIdx_cons,List.foldl_cons,List.length_cons] at h ⊢
    rw [Zh5 off l (k+1) _ (by simp;omega)]
    have hlt:off+k<cs.toList.length:=by simp;omega
    simp only [Array.toList_setIfInBounds]
    rw [show off+(k+1)=off+k+1 from by omega,List.take_succ_eq_append_getElem (by simp;omega),List.take_set_of_le (by omega),List.drop_set_of_lt (by omega)]
    simp
    omega
def ZoI (place:Nat→Option (Nat × Nat)) (n:Nat):List (Nat × Value)→List (Nat × List Value)→Prop
  | [],[]=>True
  | p::ps,q::l=>place p.1=some (q.1,q.2.length)∧p.2.cells.toList=q.2∧q.1+q.2.length≤n∧ZoI place n ps l
  | _,_=>False
theorem Za6 (place:Nat→Option (Nat × Nat)) (n:Nat):∀ (ps:List (Nat × Value)) (l:List (Nat × List Value)) (cs:Array Value),
    cs.size=n→ZoI place n ps l→Instr.fill place cs ps=some (ZaO cs.toList l).toArray
  | [],[],cs,_,_=>by simp [Instr.fill,ZaO]
  | [],_::_,cs,_,h=>h.elim
  | _::_,[],cs,_,h=>h.elim
  | (i,v)::ps,(o,vs)::l,cs,hn,h=>by
    obtain ⟨hp,hv,hle,h2⟩:=h
    simp only at hp hv hle
    have hlen:v.cells.size=vs.length:=by rw [← hv];simp
    have hfold:(v.cells.zipIdx.foldl (fun cs x=>match x with | (c,j)=>cs.setIfInBounds (o+j) c) cs).toList=cs.toList.take o++vs++cs.toList.drop (o+vs.length):=by
      rw [← Array.foldl_toList,Array.toList_zipIdx,hv]
      have:=Zh5 o vs 0 cs (by omega)
      simpa using this
    have hsz:(v.cells.zipIdx.foldl (fun cs x=>match x with | (c,j)=>cs.setIfInBounds (o+j) c) cs).size=n:=by
      rw [← Array.length_toList,hfold]
      simp
      omega
    have ih:=Za6 place n ps l _ hsz h2
    rw [hfold] at ih
    have hno:¬ (o+vs.length>cs.size):=by omega
    simp only [Instr.fill,hp,hlen,ne_eq,not_true,decide_false,Bool.false_or,hno,ZaO]
    exact ih
theorem Zfl (v:EV):v.v.cells.toList=ZdE v:=by
  cases v with
  | val v=>cases v<;>rfl
  | lit b=>rfl
  | adr b o=>rfl
  | itr t b=>rfl
  | more k v=>rfl
  | over=>rfl
theorem Zhk (v:EV):v.v.cells=(ZdE v).toArray:=by
  rw [← Zfl]
section
variable {c:Cfg} {e:Env} {a:Act} {n:Nat}
theorem Zln {u:Value} (h:ZW u=true):u.cells.toList=[u]:=by
  cases u<;>first | rfl | cases h
theorem Zl2 {d:Option TypeDesc} {v:EV} (h:ZlE d=true→ZW v.v=true):v.v.cells.toList=Zfm d v:=by
  unfold Zfm
  cases hb:ZlE d with
  | true=>exact Zln (h hb)
  | false=>exact Zfl v
theorem Zgc:∀ {l:List Value} {K:Prop},Zod l K→(∀ u,u∈l→ZW u=true)∧K
  | [],_,h=>⟨fun _ h9=>(by cases h9),h⟩
  | v::vs,K,h=>by
    obtain ⟨h1,h2⟩:=Zgc h.2
    refine ⟨fun u hu=>?_,h2⟩
    rcases List.mem_cons.1 hu with rfl | hu
    ·exact h.1
    ·exact h1 u hu
theorem Zd7 (P:Program) (fs:List Field) (hag:Agr n e a) (k:Nat):∀ {ps:List (Nat × Operand)} {l:List (Nat × List Value)},ZeS P fs e k ps=some l→(∀ u,u∈Zhy P fs e ps→ZW u=true) →
    ZoI (fun i=>(fs[i]?).map fun f=>(f.offset,P.cellsOf f.type)) k (ps.map fun x=>(x.1,a.eval x.2)) l
  | [],l,h,_=>by simp only [ZeS,Option.some.injEq] at h;subst h;exact trivial
  | (i,x)::r,l,h,hone=>by
    simp only [ZeS] at h
    split at h
    ·rename_i f v l' hf hv hl
     have hone1:ZlE (P.underlying f.type)=true→ZW v.v=true:=fun hb=>hone _ (by unfold Zhy;rw [hf,hv];simp [hb])
     have hone2:∀ u,u∈Zhy P fs e r→ZW u=true:=fun u hu=>hone u (by
       unfold Zhy
       rw [hf,hv]
       dsimp only
       cases ZlE (P.underlying f.type) with
       | true=>exact List.mem_cons_of_mem _ hu
       | false=>exact hu)
     cases h1:Nat.beq (Zfm (P.underlying f.type) v).length (P.cellsOf f.type) with
     | false=>rw [h1] at h;cases h
     | true =>
       rw [h1] at h
       simp only [cond_true] at h
       cases h2:Nat.ble (f.offset+(Zfm (P.underlying f.type) v).length) k with
       | false=>rw [h2] at h;cases h
       | true =>
         rw [h2] at h
         simp only [cond_true,Option.some.injEq] at h
         subst h
         refine ⟨?_,?_,Nat.le_of_ble_eq_true h2,Zd7 P fs hag k hl hone2⟩
         ·simp [hf,Nat.eq_of_beq_eq_true h1]
         ·simp only [hag.ev hv,Zl2 hone1]
    ·cases h
theorem Zcj (size:Nat) (hag:Agr n e a) (k:Nat):∀ {ps:List (Nat × Operand)} {l:List (Nat × List Value)},ZdT size e k ps=some l →
    ZoI (fun i=>some (i*size,size)) k (ps.map fun x=>(x.1,a.eval x.2)) l
  | [],l,h=>by simp only [ZdT,Option.some.injEq] at h;subst h;exact trivial
  | (i,x)::r,l,h=>by
    simp only [ZdT] at h
    split at h
    ·rename_i v l' hv hl
     cases h1:Nat.beq (ZdE v).length size with
     | false=>rw [h1] at h;cases h
     | true =>
       rw [h1] at h
       simp only [cond_true] at h
       cases h2:Nat.ble (i*size+(ZdE v).length) k with
       | false=>rw [h2] at h;cases h
       | true =>
         rw [h2] at h
         simp only [cond_true,Option.some.injEq] at h
         subst h
         refine ⟨?_,?_,Nat.le_of_ble_eq_true h2,Zcj size hag k hl⟩
         ·simp [Nat.eq_of_beq_eq_true h1]
         ·simp only [hag.ev hv,Zfl]
    ·cases h
theorem ZcM {x:EV} {K:Nat→Nat→Prop} (h:atP x K):∃ b o,x.v = .pointer (some ⟨b,o,none⟩)∧K b o:=by
  unfold atP at h
  split at h
  ·exact ⟨_,_,rfl,h⟩
  ·obtain ⟨b,o,rfl,h⟩:=h;exact ⟨b,o,rfl,h⟩
  ·exact h.elim
theorem XN {P:Program} {t:TypeId} {zs:List Value} (h:Zea P t=some zs):∃ i v,P.info? t=some i∧i.zero=some v∧v.cells.toList=zs:=by
  unfold Zea at h
  split at h
  ·rename_i i hi
   split at h
   ·rename_i v hv
    simp only [Option.some.injEq] at h
    exact ⟨i,v,hi,hv,h⟩
   ·cases h
  ·cases h
theorem ZaD {P:Program} {t:TypeId} {s b:Nat} (h:Zil P t=some (s,b)):∃ i,P.info? t=some i∧i.size=s∧i.bytes=b:=by
  unfold Zil at h
  split at h
  ·rename_i i hi
   simp only [Option.some.injEq,Prod.mk.injEq] at h
   exact ⟨i,hi,h.1,h.2⟩
  ·cases h
theorem ZmB {P:Program} {t:TypeId} {b o:Nat} {v:EV} {K:Zb→Prop} {w:World} (h:stT P t w.heap b o v K) :
    ∃ h',(storeVar t ⟨b,o,none⟩ v.v).run P w = .ok () { w with heap:=h' }∧K h':=by
  have key:∀ (i:TypeInfo) (vs:List Value),P.info? t=some i→i.size=vs.length→v.v.cells=vs.toArray→Zb.free w.heap b o vs.length→vs.all ZW=true →
      (storeVar t ⟨b,o,none⟩ v.v).run P w = .ok () { w with heap:=Zb.puts w.heap b o vs }:=by
    intro i vs hi hs hc hf ha
    unfold storeVar
    simp only [Sem.run_bind,Ye P w t hi,Result.andThen_ok,hc,hs,List.size_toArray,ne_eq,not_true,if_false]
    have:=Zah P b o vs 0 w (by simpa using hf) ha
    simpa using this
  have one:Y7 (P.underlying t)=false→Nat.beq (P.cellsOf t) 1=true→(∀ cs,v.v≠ .agg cs)→st w.heap b o v.v K →
      ∃ h',(storeVar t ⟨b,o,none⟩ v.v).run P w = .ok () { w with heap:=h' }∧K h':=by
    intro hA h1 hne hst
    obtain ⟨⟨u,hu⟩,hf,hone,hk⟩:=hst
    have hsz:=Nat.eq_of_beq_eq_true h1
    cases hi:P.info? t with
    | none=>unfold Program.cellsOf at hsz;simp [hi] at hsz
    | some i =>
      rw [Y8 P hi] at hsz
      refine ⟨_,key i [v.v] hi (by simp [hsz]) ?_ ⟨⟨⟨u,hu⟩,hf⟩,trivial⟩ (by simp [hone]),hk⟩
      cases hv:v.v<;>first | rfl | exact absurd hv (hne _)
  unfold stT at h
  split at h
  ·rename_i cs
   cases hA:Y7 (P.underlying t) with
   | false=>rw [hA] at h;exact h.elim
   | true =>
     rw [hA] at h
     simp only [cond_true] at h
     cases h1:Nat.beq cs.toList.length (P.cellsOf t) with
     | false=>rw [h1] at h;exact h.elim
     | true =>
       rw [h1] at h
       obtain ⟨hf,ha,hk⟩:=h
       have hsz:=Nat.eq_of_beq_eq_true h1
       cases hi:P.info? t with
       | none =>
         unfold Program.underlying at hA
         simp [hi,Y7] at hA
       | some i =>
         rw [Y8 P hi] at hsz
         exact ⟨_,key i cs.toList hi hsz.symm rfl hf ha,hk⟩
  ·rename_i v' hne
   cases hA:Y7 (P.underlying t) with
   | true=>rw [hA] at h;exact h.elim
   | false =>
     rw [hA] at h
     simp only [cond_false] at h
     cases h1:Nat.beq (P.cellsOf t) 1 with
     | false=>rw [h1] at h;exact h.elim
     | true =>
       rw [h1] at h
       refine one hA h1 (fun cs hcs=>?_) h
       cases v with
       | val u=>simp only [EV.v] at hcs;subst hcs;exact hne cs rfl
       | lit b=>cases hcs
       | adr b o=>cases hcs
       | itr t b=>cases hcs
       | more k v=>cases hcs
       | over=>cases hcs
theorem ZbB (zs:List Value) (n:Nat):(YQ zs n).length=n*zs.length:=by
  simp [YQ]
theorem Zfd (zs:List Value):∀ (n i:Nat),i<n*zs.length→(YQ zs n)[i]?=zs[i % zs.length]?
  | 0,i,h=>by omega
  | n+1,i,h=>by
    unfold YQ
    rw [List.replicate_succ,List.flatten_cons]
    rcases Nat.lt_or_ge i zs.length with hi | hi
    ·rw [List.getElem?_append_left hi,Nat.mod_eq_of_lt hi]
    ·rw [List.getElem?_append_right hi]
     have:=Zfd zs n (i - zs.length) (by rw [Nat.succ_mul] at h;omega)
     unfold YQ at this
     rw [this,Nat.mod_eq_sub_mod hi]
theorem Zc3 (zs:Array Value) (n m:Nat) (h:m=n*zs.size):((Array.range m).map (zs[· % zs.size]!)).toList=YQ zs.toList n:=by
  subst h
  apply List.ext_getElem?
  intro i
  simp only [Array.toList_map,Array.toList_range,List.getElem?_map]
  rcases Nat.lt_or_ge i (n*zs.size) with hi | hi
  ·rw [Zfd _ _ _ (by simpa using hi)]
   have hpos:0<zs.size:=by rcases Nat.eq_zero_or_pos zs.size with h0 | h0;· rw [h0] at hi;omega
                           ·exact h0
   have hm:i % zs.size<zs.size:=Nat.mod_lt _ hpos
   simp [hi,hm]
  ·rw [List.getElem?_eq_none (by simpa using hi)]
   rw [List.getElem?_eq_none (by rw [ZbB];simpa using hi)]
   rfl
end
end Go.Fw
