/- The reading of a function's code as a condition on memory: what each operation, region and statement asks and leaves. Definitions alone. -/
import Derived.Sort.QuietThIn
import Derived.OrdersHeld
import Derived.Laws.Sem
import Derived.Laws.World
import Derived.RangeFuncLeaves
import Derived.RangeFuncRecord
import Derived.Test.YtpjbjdheeemdiaaGreatDoorPa2
set_option linter.unusedVariables false
set_option linter.unusedSimpArgs false
namespace Go.Fw
open Go
inductive Leaf where
  | I (k:IntKind) | B | S | P | L | M | V
abbrev Leaf.D:Leaf->Type
  | .I _=>Int | .B=>Bool | .S=>ByteArray | .P=>Option Addr | .L=>Sl | .M=>Option Nat | .V=>Value
def Leaf.mk:(l:Leaf)->l.D->Value
  | .I k,n=> .int k n | .B,b=> .bool b | .S,s=> .string s | .P,p=> .pointer p | .L,s=> .slice s.ptr s.len s.cap | .M,m=> .map m | .V,v=>v
def Leaf.un:(l:Leaf)->Value->Option l.D
  | .I k,.int k' n=>if k'=k then some n else none
  | .B,.bool b=>some b
  | .S,.string s=>some s
  | .P,.pointer p=>some p
  | .L,.slice p l c=>some ⟨p,l,c⟩
  | .M,.map m=>some m
  | .V,v=>some v
  | _,_=>none
abbrev Tup:List Leaf->Type
  | []=>Unit
  | l::ls=>l.D × Tup ls
def Tup.vals:(ls:List Leaf)->Tup ls->List Value
  | [],_=>[]
  | l::ls,t=>l.mk t.1::Tup.vals ls t.2
def Tup.un:(ls:List Leaf)->List Value->Option (Tup ls)
  | [],[]=>some ()
  | l::ls,v::vs=>match l.un v,Tup.un ls vs with
    | some x,some t=>some (x,t)
    | _,_=>none
  | _,_=>none
inductive VT where
  | one (l:Leaf) | agg (ls:List Leaf) | fn (f:FuncId) | clo (f:FuncId) (ls:List Leaf) | yl
abbrev VT.D:VT->Type
  | .one l=>l.D
  | .agg ls=>Tup ls
  | .fn _=>Unit
  | .clo _ ls=>Tup ls
  | .yl=>Nat
abbrev Xw:List VT->Type
  | []=>Unit
  | v::vs=>v.D × Xw vs
inductive EV where
  | val (v:Value) | lit (b:Bool) | adr (b o:Nat) | itr (t:TypeId) (b:Nat) | more (k v:Value) | over
def EV.v:EV->Value
  | .val v=>v
  | .lit b=> .bool b
  | .adr b o=> .pointer (some ⟨b,o,none⟩)
  | .itr _ b=> .pointer (some ⟨b,0,none⟩)
  | .more k v=> .tuple #[.bool true,k,v]
  | .over=> .tuple #[.bool false]
def VT.ev:(v:VT)->v.D->EV
  | .one l,x=> .val (l.mk x)
  | .agg ls,x=> .val (.agg (Tup.vals ls x).toArray)
  | .fn f,_=> .val (.func (.func f) ⟨[]⟩ ⟨[]⟩)
  | .clo f ls,x=> .val (.func (.func f) ⟨[]⟩ ⟨Tup.vals ls x⟩)
  | .yl,l=> .val (.func (.yield l) ⟨[]⟩ ⟨[]⟩)
def fnU (f:FuncId):EV->Option Unit
  | .val (.func (.func g) ⟨[]⟩ ⟨[]⟩)=>bif Nat.beq f g then some () else none
  | _=>none
def ZL5 (f:FuncId) (ls:List Leaf):EV->Option (Tup ls)
  | .val (.func (.func g) ⟨[]⟩ ⟨cs⟩)=>bif Nat.beq f g then Tup.un ls cs else none
  | _=>none
def ylU:EV->Option Nat
  | .val (.func (.yield l) ⟨[]⟩ ⟨[]⟩)=>some l
  | _=>none
def VT.un:(v:VT)->EV->Option v.D
  | .one l,e=>l.un e.v
  | .agg ls,.val (.agg cs)=>Tup.un ls cs.toList
  | .agg _,_=>none
  | .fn f,e=>fnU f e
  | .clo f ls,e=>ZL5 f ls e
  | .yl,e=>ylU e
def Xw.evs:(vs:List VT)->Xw vs->List EV
  | [],_=>[]
  | v::vs,t=>v.ev t.1::Xw.evs vs t.2
def Xw.un:(vs:List VT)->List EV->Option (Xw vs)
  | [],[]=>some ()
  | v::vs,e::es=>match v.un e,Xw.un vs es with
    | some x,some t=>some (x,t)
    | _,_=>none
  | _,_=>none
def Zfg:List EV->EV
  | [e]=>e
  | es=> .val (.tuple (es.map EV.v).toArray)
structure Zd where
  args:List VT
  res:List VT
  sem:Xw args->(Xw res->Zc->Prop)->(Value->Zc->Prop)->Zc->Prop
structure Zde where
  caps:List VT
  sem:Yld->Nat->Xw caps->(Zc->Prop)->Zc->Prop
inductive Mark where
  | no | at_ (D:Nat) | raw (ds:List Deferred)
def Mark.isNo:Mark->Bool
  | .no=>true
  | _=>false
structure Env where
  f:Nat->Option EV
  mD:Mark
instance:CoeFun Env (fun _=>Nat->Option EV):=⟨Env.f⟩
def Env.set (e:Env) (d:Nat) (v:EV):Env:=⟨fun j=>bif Nat.beq j d then some v else e.f j,e.mD⟩
def Env.ev (e:Env):Operand->Option EV
  | .tmp t=>e.f t
  | .const (.bool b)=>some (.lit b)
  | .const v=>some (.val v)
  | .global g=>some (.adr g 0)
  | .func f=>some (.val (.func (.func f) #[] #[]))
structure Cfg where
  P:Program
  calls:List (FuncId × Zd)
  n:Nat
  ext:List FuncId
  dyn:List (String × TypeId × FuncId)
  iters:List (FuncId × Zde)
  rnd:Option Nat
  pan:Value->Zc->Prop
  yld:Yld
  fns:List (FuncId × List Leaf)
def ZD (P:Program) (calls:List (FuncId × Zd)) (n:Nat) (ext:List FuncId) (dyn:List (String × TypeId × FuncId)) (iters:List (FuncId × Zde)) (yld:Yld) (fns:List (FuncId × List Leaf):=[]):Cfg :=
  ⟨P,calls,n,ext,dyn,iters,none,fun _ _=>False,yld,fns⟩
def ZE:Yld:=fun _ _ _ _=>False
structure ZAW where
  s:Zd
  t:Xw s.args
def Zmj (f:FuncId) (es:List EV):List (FuncId × Zd)->Option ZAW
  | []=>none
  | (g,s)::r=>bif Nat.beq f g then (match Xw.un s.args es with
    | some t=>some ⟨s,t⟩
    | none=>Zmj f es r) else Zmj f es r
structure Zyr where
  s:Zde
  t:Xw s.caps
def ZtM (f:FuncId) (es:List EV):List (FuncId × Zde)->Option Zyr
  | []=>none
  | (g,s)::r=>bif Nat.beq f g then (match Xw.un s.caps es with
    | some t=>some ⟨s,t⟩
    | none=>ZtM f es r) else ZtM f es r
structure ZoQ where
  a0:VT
  rest:List VT
  res:List VT
  sem:Xw (a0::rest)->(Xw res->Zc->Prop)->(Value->Zc->Prop)->Zc->Prop
  t:Xw rest
def Zmi (f:FuncId) (es:List EV):List (FuncId × Zd)->Option ZoQ
  | []=>none
  | (g,⟨a0::rest,res,sem⟩)::r=>bif Nat.beq f g then (match Xw.un rest es with
    | some t=>some ⟨a0,rest,res,sem,t⟩
    | none=>Zmi f es r) else Zmi f es r
  | (_,⟨[],_,_⟩)::r=>Zmi f es r
def ZDB (calls:List (FuncId × Zd)) (Kp:Value->Zc->Prop) (name:String) (v:Value) (es:List EV) (h:Zc) (K:EV->Zc->Prop):List (String × TypeId × FuncId)->Prop
  | []=>False
  | (n,t,f)::r=>bif n ==name then (match Zmi f es calls with
    | some p=>exG v (fun x:p.a0.D=> .iface t (p.a0.ev x).v) (fun x=>p.sem (x,p.t) (fun rr h'=>K (Zfg (Xw.evs p.res rr)) h') Kp h)\/ZDB calls Kp name v es h K r
    | none=>ZDB calls Kp name v es h K r) else ZDB calls Kp name v es h K r
def Zz7 (es:List EV) (cs:List Value):List EV:=es++cs.map EV.val
def fnP (calls:List (FuncId × Zd)) (Kp:Value->Zc->Prop) (v:Value) (es:List EV) (h:Zc) (K:EV->Zc->Prop):List (FuncId × List Leaf)->Prop
  | []=>False
  | (f,[])::r=>match Zmj f es calls with
    | some ⟨s,t⟩=>ZLW v f (s.sem t (fun rr h'=>K (Zfg (Xw.evs s.res rr)) h') Kp h)\/fnP calls Kp v es h K r
    | none=>fnP calls Kp v es h K r
  | (f,l::ls)::r=>exG v (fun c:Tup (l::ls)=> .func (.func f) ⟨[]⟩ ⟨Tup.vals (l::ls) c⟩) (fun c=>match Zmj f (Zz7 es (Tup.vals (l::ls) c)) calls with
    | some ⟨s,t⟩=>s.sem t (fun rr h'=>K (Zfg (Xw.evs s.res rr)) h') Kp h
    | none=>False)\/fnP calls Kp v es h K r
def ZEO (t:Nat):List (FuncId × List Leaf)->Bool
  | []=>false
  | (f,_)::r=>bif Nat.beq f (1000000+t) then true else ZEO t r
def ZLX (l:List (FuncId × List Leaf)):Operand->List (FuncId × List Leaf)
  | .tmp t=>bif ZEO t l then [] else l
  | _=>[]
def ZDR (f:FuncId):List FuncId->Bool
  | []=>false
  | g::r=>bif Nat.beq f g then true else ZDR f r
def evs (e:Env):List Operand->Option (List EV)
  | []=>some []
  | x::xs=>match e.ev x,evs e xs with
    | some v,some vs=>some (v::vs)
    | _,_=>none
def ZAT (op:BinOp) (x y:EV) (K:EV->Prop):Prop :=
  match x,y with
  | .val (.int k a),.val (.int k' b) =>
    match op with
    | .shl=>Y6 (0<=b) (K (.val (.int k (Zyy k a b))))
    | .shr=>Y6 (0<=b) (K (.val (.int k (Zzg k a b))))
    | _=>if k=k' then
       match op with
       | .add=>K (.val (.int k (k.wrap (a+b))))
       | .sub=>K (.val (.int k (k.wrap (a - b))))
       | .mul=>K (.val (.int k (k.wrap (a*b))))
       | .quo=>Y6 (b≠0) (K (.val (.int k (k.wrap (a.tdiv b)))))
       | .rem=>Y6 (b≠0) (K (.val (.int k (a.tmod b))))
       | .and=>K (.val (.int k (ZyB k a b)))
       | .or=>K (.val (.int k (orV k a b)))
       | .xor=>K (.val (.int k (ZNP k a b)))
       | .andNot=>K (.val (.int k (ZMa k a b)))
       | .eql=>K (.val (.bool (a ==b)))
       | .neq=>K (.val (.bool (a !=b)))
       | .lss=>K (.val (.bool (decide (a<b))))
       | .leq=>K (.val (.bool (decide (a<=b))))
       | .gtr=>K (.val (.bool (decide (a>b))))
       | .geq=>K (.val (.bool (decide (a>=b))))
       | _=>False
      else False
  | .val (.string a),.val (.string b) =>
    match op with
    | .add=>ZFA a b fun s=>K (.val (.string s))
    | .eql=>K (.val (.bool (Zch a b)))
    | .neq=>K (.val (.bool (!Zch a b)))
    | .lss=>K (.val (.bool (Op.bytesLess a.toList b.toList)))
    | .leq=>K (.val (.bool (Op.bytesLess a.toList b.toList||Zch a b)))
    | .gtr=>K (.val (.bool (!(Op.bytesLess a.toList b.toList||Zch a b))))
    | .geq=>K (.val (.bool (!Op.bytesLess a.toList b.toList)))
    | _=>False
  | _,_=>False
def eqP (t:Option TypeDesc) (neg:Bool) (x y:EV) (K:EV->Prop):Prop :=
  match t,x,y with
  | some (.pointer _),.adr _ _,.val (.pointer none)=>K (.lit neg)
  | some (.pointer _),.val (.pointer p),.val (.pointer none)=>K (.val (.bool (bif neg then p.isSome else p.isNone)))
  | some (.slice _),.val (.slice p _ _),.val (.slice none _ _)=>K (.val (.bool (bif neg then p.isSome else p.isNone)))
  | some (.map _ _),.val (.map p),.val (.map none)=>K (.val (.bool (bif neg then p.isSome else p.isNone)))
  | some .bool,x,y =>
    match x.v,y.v with
    | .bool a,.bool b=>K (.val (.bool (bif neg then a !=b else a ==b)))
    | _,_=>False
  | _,_,_=>False
def Zlx (d:Option TypeDesc) (h:Zc) (b o:Nat) (K:EV->Prop):Prop :=
  match d with
  | some (.int k)=>ldI h b o k fun x=>K (.val (.int k x))
  | some .bool=>ldB h b o fun x=>K (.val (.bool x))
  | some .string=>ldS h b o fun x=>K (.val (.string x))
  | some (.pointer _)=>ldP h b o fun x=>K (.val (.pointer x))
  | some (.slice _)=>ldL h b o fun x=>K (.val (.slice x.ptr x.len x.cap))
  | some (.map _ _)=>ldM h b o fun x=>K (.val (.map x))
  | some (.struct _) | some (.array _ _) | none=>False
  | some _=>ldV h b o fun x=>K (.val x)
def ZeZ (P:Program):Nat->TypeId->List (Option TypeDesc)
  | 0,_=>[none]
  | d+1,t=>match P.underlying t with
    | some (.struct fs)=>fs.toList.flatMap fun f=>ZeZ P d f.type
    | some (.array n e)=>(List.replicate n (ZeZ P d e)).flatten
    | x=>[x]
def ZFK (o i:Nat):Nat:=bif Nat.beq i 0 then o else o+i
def ZzD (h:Zc) (b o:Nat):Nat->List (Option TypeDesc)->(List Value->Prop)->Prop
  | _,[],K=>K []
  | i,d::ds,K=>Zlx d h b (ZFK o i) fun v=>ZzD h b o (i+1) ds fun vs=>K (v.v::vs)
def ZbV:Option TypeDesc->Bool
  | some (.struct _) | some (.array _ _)=>true
  | _=>false
def ldT (P:Program) (t:TypeId) (h:Zc) (b o:Nat) (K:EV->Prop):Prop :=
  bif ZbV (P.underlying t) then
    (bif Nat.beq (ZeZ P 8 t).length (P.cellsOf t) then ZzD h b o 0 (ZeZ P 8 t) fun vs=>K (.val (.agg vs.toArray)) else False)
  else Zlx (P.underlying t) h b o K
def atP (x:EV) (K:Nat->Nat->Prop):Prop :=
  match x with
  | .adr b o=>K b o
  | .val (.pointer p)=>Ze p K
  | _=>False
def stT (P:Program) (t:TypeId) (h:Zc) (b o:Nat) (v:EV) (K:Zc->Prop):Prop :=
  match v with
  | .val (.agg cs)=>bif ZbV (P.underlying t) then (bif Nat.beq cs.toList.length (P.cellsOf t) then sts h b o cs.toList K else False) else False
  | v=>bif ZbV (P.underlying t) then False else (bif Nat.beq (P.cellsOf t) 1 then st h b o v.v K else False)
def Zjp:EV->List Value
  | .val (.agg cs)=>cs.toList
  | v=>[v.v]
def Zxx:Option TypeDesc->Bool
  | some (.int _) | some .bool | some .string | some (.pointer _) | some (.slice _) | some (.map _ _) | some (.struct _) | some (.array _ _) | none=>false
  | some _=>true
def ZlZ (d:Option TypeDesc) (v:EV):List Value:=bif Zxx d then [v.v] else Zjp v
def Zpf (P:Program) (fs:List Field) (e:Env):List (Nat × Operand)->List Value
  | []=>[]
  | (i,x)::r=>match fs[i]?,e.ev x with
    | some f,some v=>bif Zxx (P.underlying f.type) then v.v::Zpf P fs e r else Zpf P fs e r
    | _,_=>Zpf P fs e r
def ZCY:List Value->Prop->Prop
  | [],K=>K
  | v::vs,K=>Y6 (Yc v=true) (ZCY vs K)
def Zfk:List Value->List (Nat × List Value)->List Value
  | cs,[]=>cs
  | cs,(o,vs)::r=>Zfk (cs.take o++vs++cs.drop (o+vs.length)) r
def Zll (P:Program) (fs:List Field) (e:Env) (n:Nat):List (Nat × Operand)->Option (List (Nat × List Value))
  | []=>some []
  | (i,x)::r=>match fs[i]?,e.ev x,Zll P fs e n r with
    | some f,some v,some l=>bif Nat.beq (ZlZ (P.underlying f.type) v).length (P.cellsOf f.type) then (bif Nat.ble (f.offset+(ZlZ (P.underlying f.type) v).length) n then some ((f.offset,ZlZ (P.underlying f.type) v)::l) else none) else none
    | _,_,_=>none
def ZjP (size:Nat) (e:Env) (n:Nat):List (Nat × Operand)->Option (List (Nat × List Value))
  | []=>some []
  | (i,x)::r=>match e.ev x,ZjP size e n r with
    | some v,some l=>bif Nat.beq (Zjp v).length size then (bif Nat.ble (i*size+(Zjp v).length) n then some ((i*size,Zjp v)::l) else none) else none
    | _,_=>none
def Zkm (P:Program) (t:TypeId):Option (List Value):=match P.info? t with
  | some i=>match i.zero with
    | some v=>some v.cells.toList
    | none=>none
  | none=>none
def ZqV (P:Program) (t:TypeId):Option (Nat × Nat):=match P.info? t with
  | some i=>some (i.size,i.bytes)
  | none=>none
def ZAD (d:Int):Option (Option EV)->Option Int
  | none=>some d
  | some (some (.val (.int _ n)))=>some n
  | _=>none
def Zjq:Nat:=16777216
def Zxt:TypeDesc->Value->Bool
  | .int k,.int k' _=>if k=k' then true else false
  | .string,.string _=>true
  | .bool,.bool _=>true
  | _,_=>false
def Zmo:Option TypeDesc->Bool
  | some (.int _) | some .string | some .bool=>true
  | _=>false
def ZhO (P:Program):List Field->Nat->Bool
  | [],_=>true
  | f::fs,i=>bif f.name == "_" then false else bif Nat.beq f.offset i&&Zmo (P.underlying f.type) then ZhO P fs (i+1) else false
def ZhP (P:Program) (fs:List Field):List TypeDesc:=fs.map fun f=>(P.underlying f.type).getD .bool
def Zxs:List TypeDesc->List Value->Bool
  | [],[]=>true
  | d::ds,v::vs=>bif Zxt d v then Zxs ds vs else false
  | _,_=>false
def ZzU (P:Program) (kt:TypeId) (fs:Array Field) (cs:List Value):Bool :=
  bif P.stoodInHeld kt then false else bif ZhO P fs.toList 0 then Zxs (ZhP P fs.toList) cs else false
def ZzV (P:Program) (n:Nat) (e:TypeId) (cs:List Value):Bool :=
  bif Nat.beq n 2 then (bif Zmo (P.underlying e) then (match P.info? e with
    | some i=>bif Nat.beq i.size 1 then Zxs [(P.underlying e).getD .bool,(P.underlying e).getD .bool] cs else false
    | none=>false) else false) else false
def Zrj (P:Program) (kt:TypeId) (d:TypeDesc) (h:Zc) (m:Option Nat) (k:Value) (K:Option Value->Prop):Prop :=
  match d,k with
  | .struct fs,.agg cs=>bif ZzU P kt fs cs.toList then Zrk (ZhP P fs.toList) h m cs.toList K else False
  | .array n e,.agg cs=>bif ZzV P n e cs.toList then Zrk [(P.underlying e).getD .bool,(P.underlying e).getD .bool] h m cs.toList K else False
  | d,k=>bif Zxt d k then ZsB d h m k K else False
def Zon (P:Program) (kt:TypeId) (d:TypeDesc) (h:Zc) (m:Option Nat) (k v:Value) (K:Zc->Prop):Prop :=
  match d,k with
  | .struct fs,.agg cs=>bif ZzU P kt fs cs.toList then Zri (ZhP P fs.toList) h m cs.toList v K else False
  | .array n e,.agg cs=>bif ZzV P n e cs.toList then Zri [(P.underlying e).getD .bool,(P.underlying e).getD .bool] h m cs.toList v K else False
  | d,k=>bif Zxt d k then Xr d h m k v K else False
def Zs9 (d:Option TypeDesc) (v:Value) (K:EV->Prop):Prop :=
  match d with
  | some (.int k)=>asI v k fun x=>K (.val (.int k x))
  | some .bool=>asB v fun x=>K (.val (.bool x))
  | some .string=>asS v fun x=>K (.val (.string x))
  | some (.pointer _)=>asP v fun x=>K (.val (.pointer x))
  | some (.slice _)=>asL v fun x=>K (.val (.slice x.ptr x.len x.cap))
  | some (.map _ _)=>asM v fun x=>K (.val (.map x))
  | some (.struct _) | some (.array _ _) | none=>False
  | some _=>K (.val v)
def ZFf:Option TypeDesc->Leaf
  | some (.int k)=> .I k | some .bool=> .B | some .string=> .S | some (.pointer _)=> .P | some (.slice _)=> .L | some (.map _ _)=> .M | _=> .V
def ZDU (P:Program) (t:TypeId) (v:Value) (K:EV->Prop):Prop :=
  bif ZbV (P.underlying t) then exG v (fun r:Tup ((ZeZ P 8 t).map ZFf)=> .agg (Tup.vals _ r).toArray) (fun r=>K (.val (.agg (Tup.vals _ r).toArray)))
  else Zs9 (P.underlying t) v K
def ZCq (P:Program) (t:TypeId):Option Value:=match P.info? t with
  | some i=>i.zero
  | none=>none
def ZgM:Option TypeDesc->Bool
  | some (.interface _)=>true
  | none=>true
  | _=>false
def Zil (P:Program) (ts:Array TypeId):Bool:=match ts[0]? with
  | some t=>match P.underlying t with
    | some (.map _ _)=>true
    | _=>false
  | none=>false
def Zmt (c:Cfg) (o:Op) (ρ:Env) (h:Zc) (K:EV->Zc->Prop):Prop :=
  match o with
  | .call ⟨.builtin .len,args,ts⟩ =>
    match ts[0]?,evs ρ args.toList with
    | some t,some [v]=>match c.P.underlying t,v with
      | some .string,.val (.string s)=>K (.val (.int .i64 s.size)) h
      | some (.slice _),.val (.slice _ n _)=>K (.val (.int .i64 n)) h
      | some (.array n _),_=>K (.val (.int .i64 n)) h
      | some (.map _ _),.val (.map m)=>ZNS h m fun n=>K (.val (.int .i64 n)) h
      | _,_=>False
    | _,_=>False
  | .call ⟨.builtin .cap,args,ts⟩ =>
    match ts[0]?,evs ρ args.toList with
    | some t,some [v]=>match c.P.underlying t,v with
      | some (.slice _),.val (.slice _ _ n)=>K (.val (.int .i64 n)) h
      | _,_=>False
    | _,_=>False
  | .call ⟨.builtin .min,args,_⟩ =>
    match evs ρ args.toList with
    | some [.val (.int k x),.val (.int _ y)]=>K (.val (.int k (ZLT x y))) h
    | _=>False
  | .call ⟨.builtin .max,args,_⟩ =>
    match evs ρ args.toList with
    | some [.val (.int k x),.val (.int _ y)]=>K (.val (.int k (ZAI x y))) h
    | _=>False
  | .call ⟨.builtin .append,args,ts⟩ =>
    match ts[0]?,(match ts[1]? with | none=>false | some t=>match c.P.underlying t with | some (.int _)=>true | some _=>false | none=>true) with
    | some t,false=>match c.P.underlying t with
      | some (.slice e)=>match ZqV c.P e,Zkm c.P e,evs ρ args.toList with
        | some (size,bytes),some zs,some [.val (.slice p n m),.val (.slice p' n' m')] =>
          rdS ⟨p',n',m'⟩ size h fun new=>app e size bytes zs ⟨p,n,m⟩ n' new h fun s h'=>K (.val (.slice s.ptr s.len s.cap)) h'
        | some (size,bytes),some zs,some [.val (.slice p n m),.val (.string s)] =>
          app e size bytes zs ⟨p,n,m⟩ s.size (Zba s) h fun s h'=>K (.val (.slice s.ptr s.len s.cap)) h'
        | _,_,_=>False
      | _=>False
    | _,_=>False
  | .call ⟨.value x,args,_⟩ =>
    match ZLX c.fns x with
    | f::r=>(match ρ.ev x,evs ρ args.toList with
      | some v,some es=>fnP c.calls c.pan v.v es h K (f::r)
      | _,_=>False)
    | [] =>
    match ρ.ev x with
    | some (.val (.func (.func f) ⟨[]⟩ ⟨cs⟩)) =>
      match evs ρ args.toList with
      | some es=>match Zmj f (Zz7 es cs) c.calls with
        | some ⟨s,t⟩=>s.sem t (fun r h'=>K (Zfg (Xw.evs s.res r)) h') c.pan h
        | none=>bif ZDR f c.ext then (match Zz7 es cs with
          | [x]=>ZFy x.v h fun v h'=>K (.val v) h'
          | _=>False) else False
      | none=>False
    | some (.val (.func (.yield l) ⟨[]⟩ ⟨[]⟩)) =>
      match evs ρ args.toList with
      | some es=>c.yld l (es.map EV.v) (fun b h'=>K (.val (.bool b)) h') h
      | none=>False
    | _=>False
  | .call ⟨.builtin .delete,args,ts⟩ =>
    match ts[0]?,evs ρ args.toList with
    | some t,some [.val (.map m),k]=>match c.P.underlying t with
      | some (.map kt _)=>match c.P.underlying kt with
        | some d=>bif Zxt d k.v then ZAJ d h m k.v fun h'=>K (.val (.tuple #[])) h' else False
        | none=>False
      | _=>False
    | _,_=>False
  | .call ⟨.invoke x name,args,_⟩ =>
    match ρ.ev x,evs ρ args.toList with
    | some v,some es=>ZDB c.calls c.pan name v.v es h K c.dyn
    | _,_=>False
  | .call ⟨.builtin .clear,args,ts⟩ =>
    match ts[0]?,evs ρ args.toList with
    | some t,some [.val (.map m)]=>match c.P.underlying t with
      | some (.map _ _)=>ZMs h m fun h'=>K (.val (.tuple #[])) h'
      | _=>False
    | some t,some [.val (.slice p l m)]=>match c.P.underlying t with
      | some (.slice e)=>match Zkm c.P e with
        | some zs=>ZMr ⟨p,l,m⟩ zs h fun h'=>K (.val (.tuple #[])) h'
        | none=>False
      | _=>False
    | _,_=>False
  | _=>False
def ZgZ (d:Option TypeDesc) (x y:Value):Option Bool :=
  match d,x,y with
  | some (.int _),.int k a,.int k' b=>if k=k' then some (a ==b) else none
  | some .string,.string a,.string b=>some (Zch a b)
  | some .bool,.bool a,.bool b=>some (a ==b)
  | _,_,_=>none
def ZfA (P:Program):List Field->List Value->List Value->Option Bool
  | [],_,_=>some true
  | f::fs,xs,ys =>
    bif f.name == "_" then none else
    match xs[f.offset]?,ys[f.offset]? with
    | some x,some y=>match ZgZ (P.underlying f.type) x y,ZfA P fs xs ys with
      | some a,some r=>some (bif a then r else false)
      | _,_=>none
    | _,_=>none
def Ze8 (P:Program):List Field->List Value->List Value->Option Bool
  | [],_,_=>some true
  | f::fs,xs,ys =>
    bif f.name == "_" then none else
    match P.underlying f.type with
    | some (.struct gs) =>
      bif P.stoodInHeld f.type then none else
      bif Nat.ble (f.offset+P.cellsOf f.type) xs.length&&Nat.ble (f.offset+P.cellsOf f.type) ys.length then
        match ZfA P gs.toList ((xs.drop f.offset).take (P.cellsOf f.type)) ((ys.drop f.offset).take (P.cellsOf f.type)),Ze8 P fs xs ys with
        | some a,some r=>some (bif a then r else false)
        | _,_=>none
      else none
    | u=>match xs[f.offset]?,ys[f.offset]? with
      | some x,some y=>match ZgZ u x y,Ze8 P fs xs ys with
        | some a,some r=>some (bif a then r else false)
        | _,_=>none
      | _,_=>none
def eqS (P:Program) (t:TypeId) (fs:Array Field) (x y:EV) (K:Bool->Prop):Prop :=
  match x,y with
  | .val (.agg xs),.val (.agg ys)=>bif P.stoodInHeld t||P.eqGuardType P.depth t then False else
    match Ze8 P fs.toList xs.toList ys.toList with
    | some b=>K b
    | none=>False
  | _,_=>False
def opP (c:Cfg) (o:Op) (ρ:Env) (h:Zc) (K:EV->Zc->Prop):Prop :=
  match o with
  | .move x=>match ρ.ev x with
    | some v=>K v h
    | none=>False
  | .assign x=>match ρ.ev x with
    | some (.val (.int k n))=>Zi n fun n=>K (.val (.int k n)) h
    | some (.val (.bool b))=>Yx b fun b=>K (.val (.bool b)) h
    | some v=>K v h
    | none=>False
  | .pick x a b=>match ρ.ev x,ρ.ev a,ρ.ev b with
    | some (.lit true),some a,_=>K a h
    | some (.lit false),_,some b=>K b h
    | some (.val (.bool x)),some a,some b=>match a.v,b.v with
      | .bool a,.bool b=>K (.val (.bool (bif x then a else b))) h
      | _,_=>False
    | _,_,_=>False
  | .alloc e=>match Zkm c.P e with
    | some zs=>newC h zs e fun b h'=>K (.adr b 0) h'
    | none=>False
  | .box e x=>match ρ.ev x with
    | some v=>bif Zxx (c.P.underlying e) then Y6 (Yc v.v=true) (newC h [v.v] e fun b h'=>K (.adr b 0) h') else newC h (Zjp v) e fun b h'=>K (.adr b 0) h'
    | none=>False
  | .build t parts=>match c.P.underlying t,Zkm c.P t with
    | some (.struct fs),some zs=>match Zll c.P fs.toList ρ zs.length parts.toList with
      | some l=>bif fs.toList.all fun f=>(c.P.info? f.type).isSome then ZCY (Zpf c.P fs.toList ρ parts.toList) (K (.val (.agg (Zfk zs l).toArray)) h) else False
      | none=>False
    | some (.array _ e),some zs=>match ZjP (c.P.cellsOf e) ρ zs.length parts.toList with
      | some l=>bif (c.P.info? e).isSome then K (.val (.agg (Zfk zs l).toArray)) h else False
      | none=>False
    | _,_=>False
  | .buildSlice t n parts=>match c.P.underlying t with
    | some (.slice e)=>match Zkm c.P e,ZjP (c.P.cellsOf e) ρ (n*c.P.cellsOf e) parts.toList with
      | some zs,some l=>bif Nat.ble (n*c.P.cellsOf e) Zjq then
          (bif Nat.beq zs.length (c.P.cellsOf e) then
            newC h (Zfk (Zbt zs n) l) e fun b h'=>K (.val (.slice (some ⟨b,0,none⟩) n n)) h' else False) else False
      | _,_=>False
    | _=>False
  | .load t a=>match ρ.ev a with
    | some x=>atP x fun b o=>ldT c.P t h b o fun v=>K v h
    | none=>False
  | .store t a x=>match ρ.ev a,ρ.ev x with
    | some a,some x=>atP a fun b o=>stT c.P t h b o x fun h'=>K (.val undef) h'
    | _,_=>False
  | .nilCheck x=>match ρ.ev x with
    | some x=>atP x fun b o=>K (.adr b o) h
    | none=>False
  | .binOp op t x yo _=>match ρ.ev x,ρ.ev yo with
    | some x,some y=>match op,c.P.underlying t with
      | .eql,some (.int _) | .eql,some .string=>ZAT op x y fun v=>K v h
      | .neq,some (.int _) | .neq,some .string=>ZAT op x y fun v=>K v h
      | .eql,some (.struct fs)=>eqS c.P t fs x y fun b=>K (.val (.bool b)) h
      | .neq,some (.struct fs)=>eqS c.P t fs x y fun b=>K (.val (.bool (!b))) h
      | .eql,some (.interface _)=>match yo with
        | .const .nilIface=>Znb x.v fun b=>K (.val (.bool b)) h
        | _=>False
      | .neq,some (.interface _)=>match yo with
        | .const .nilIface=>Znb x.v fun b=>K (.val (.bool (!b))) h
        | _=>False
      | .eql,some (.func _ _ _)=>match yo with
        | .const .nilFunc=>ZsE x.v fun b=>K (.val (.bool b)) h
        | _=>False
      | .neq,some (.func _ _ _)=>match yo with
        | .const .nilFunc=>ZsE x.v fun b=>K (.val (.bool (!b))) h
        | _=>False
      | .eql,d=>eqP d false x y fun v=>K v h
      | .neq,d=>eqP d true x y fun v=>K v h
      | _,_=>ZAT op x y fun v=>K v h
    | _,_=>False
  | .unOp op _ x=>match op,ρ.ev x with
    | .not,some (.lit b)=>K (.lit (!b)) h
    | .not,some (.val (.bool b))=>K (.val (.bool (!b))) h
    | .neg,some (.val (.int k n))=>K (.val (.int k (k.wrap (0 - n)))) h
    | _,_=>False
  | .convert s d x=>match c.P.underlying s,c.P.underlying d,ρ.ev x with
    | some (.int _),some (.int k),some (.val (.int _ n))=>K (.val (.int k (k.wrap n))) h
    | some .string,some .string,some (.val (.string s))=>K (.val (.string s)) h
    | some .string,some (.slice e),some (.val (.string s))=>match c.P.underlying e with
      | some (.int .u8)=>s2b e s h fun x h'=>K (.val (.slice x.ptr x.len x.cap)) h'
      | _=>False
    | some (.slice e),some .string,some (.val (.slice p l m))=>match c.P.underlying e with
      | some (.int .u8)=>b2s ⟨p,l,m⟩ h fun s=>K (.val (.string s)) h
      | _=>False
    | some (.slice _),some (.slice e),some (.val (.slice p l m))=>match c.P.underlying e with
      | some (.int .u8)=>bif Nat.beq s d then ZLU p h fun h'=>K (.val (.slice p l m)) h' else False
      | _=>False
    | _,_,_=>False
  | .makeSlice t l m=>match c.P.underlying t,ρ.ev l,ρ.ev m with
    | some (.slice e),some (.val (.int _ l)),some (.val (.int _ m))=>match ZqV c.P e,Zkm c.P e with
      | some (size,bytes),some zs=>bif Nat.beq zs.length size then mkS e bytes zs l m h fun s h'=>K (.val (.slice s.ptr s.len s.cap)) h' else False
      | _,_=>False
    | _,_,_=>False
  | .slice t x lo hi mx=>match c.P.underlying t,ρ.ev x with
    | some .string,some (.val (.string s))=>match mx,ZAD 0 (lo.map ρ.ev),ZAD s.size (hi.map ρ.ev) with
      | none,some lo,some hi=>Zze s lo hi fun s=>K (.val (.string s)) h
      | _,_,_=>False
    | some (.slice e),some (.val (.slice p l m))=>match ZAD 0 (lo.map ρ.ev),ZAD l (hi.map ρ.ev),ZAD m (mx.map ρ.ev),ZqV c.P e with
      | some lo,some up,some most,some (size,_)=>bif hi.isNone&&mx.isSome then False else slc p m size lo up most fun s=>K (.val (.slice s.ptr s.len s.cap)) h
      | _,_,_,_=>False
    | _,_=>False
  | .fieldAddr s x f=>match c.P.underlying s,ρ.ev x with
    | some (.struct fs),some x=>match fs.toList[f]? with
      | some fd=>bif Nat.beq (c.P.cellsOf fd.type) 0 then False else atP x fun b o=>K (.adr b (ZFK o fd.offset)) h
      | none=>False
    | _,_=>False
  | .field s x f=>match c.P.underlying s,ρ.ev x with
    | some (.struct fs),some (.val (.agg cs))=>match fs.toList[f]? with
      | some fd=>bif (c.P.underlying fd.type).isNone then False else bif ZbV (c.P.underlying fd.type) then K (.val (.agg ((cs.toList.drop fd.offset).take (c.P.cellsOf fd.type)).toArray)) h
        else match cs.toList[fd.offset]? with
          | some v=>K (.val v) h
          | none=>False
      | none=>False
    | _,_=>False
  | .indexAddr t x i=>match c.P.underlying t,ρ.ev x,ρ.ev i with
    | some (.slice e),some (.val (.slice p l _)),some (.val (.int _ i))=>match ZqV c.P e with
      | some (size,_)=>ZcM p l i size fun b o=>K (.adr b o) h
      | none=>False
    | some (.array n e),some x,some (.val (.int _ i))=>match ZqV c.P e with
      | some (size,_)=>atP x fun b o=>ZAN n i fun j=>K (.adr b (o+j*size)) h
      | none=>False
    | _,_,_=>False
  | .index t x i=>match c.P.underlying t,ρ.ev x,ρ.ev i with
    | some .string,some (.val (.string s)),some (.val (.int _ i))=>ZDP s i fun n=>K (.val (.int .u8 n)) h
    | some (.array n e),some (.val (.agg cs)),some (.val (.int _ i))=>match c.P.underlying e with
      | some (.struct _)=>bif Nat.beq cs.toList.length (n*c.P.cellsOf e) then ZAN n i fun j=>ZDU c.P e (.agg ⟨(cs.toList.drop (j*c.P.cellsOf e)).take (c.P.cellsOf e)⟩) fun v=>K v h else False
      | _=>False
    | _,_,_=>False
  | .extract x i=>match ρ.ev x with
    | some (.more _ _)=>bif Nat.beq i 0 then K (.lit true) h else False
    | some .over=>bif Nat.beq i 0 then K (.lit false) h else False
    | some (.val (.tuple vs))=>match vs.toList[i]? with
      | some v=>K (.val v) h
      | none=>False
    | _=>False
  | .call _=>Zmt c o ρ h K
  | .panic x=>match ρ.ev x with
    | some (.val (.iface t v))=>c.pan (.iface t v) h
    | _=>False
  | .makeFunc (.func f) first caps=>match first.toList,evs ρ caps.toList with
    | [],some es=>K (.val (.func (.func f) ⟨[]⟩ ⟨es.map EV.v⟩)) h
    | _,_=>False
  | .makeMap _ none=>Zij h fun b h'=>K (.val (.map (some b))) h'
  | .lookup t x i ok=>match c.P.underlying t,ρ.ev x,ρ.ev i with
    | some (.map kt et),some (.val (.map m)),some k=>match c.P.underlying kt,ZCq c.P et with
      | some d,some z=>Zrj c.P kt d h m k.v fun r=>ZDU c.P et (r.getD z) fun v=>K (bif ok then .val (.tuple #[v.v,.bool r.isSome]) else v) h
      | _,_=>False
    | _,_,_=>False
  | .mapUpdate t m k x=>match c.P.underlying t,ρ.ev m,ρ.ev k,ρ.ev x with
    | some (.map kt _),some (.val (.map m)),some k,some x=>match c.P.underlying kt with
      | some d=>Zon c.P kt d h m k.v x.v fun h'=>K (.val undef) h'
      | none=>False
    | _,_,_,_=>False
  | .insert t m k x=>match c.P.underlying t,ρ.ev m,ρ.ev k,ρ.ev x with
    | some (.map kt _),some (.val (.map m)),some k,some x=>match c.P.underlying kt with
      | some d=>Zon c.P kt d h m k.v x.v fun h'=>K (.val undef) h'
      | none=>False
    | _,_,_,_=>False
  | .range t x=>match c.P.underlying t,ρ.ev x with
    | some (.map _ _),some (.val (.map m))=>rgM h m fun b h'=>K (.itr t b) h'
    | _,_=>False
  | .next x false=>match ρ.ev x with
    | some (.itr _ b)=>ZLR h b (fun k v h'=>K (.more k v) h') (K .over h)
    | _=>False
  | .entry x=>match ρ.ev x with
    | some (.itr t b)=>match c.P.underlying t with
      | some (.map kt et)=>ZNX h b fun k v=>ZDU c.P kt k fun k'=>ZDU c.P et v fun v'=>K (.val (.tuple #[k'.v,v'.v])) h
      | _=>False
    | _=>False
  | .makeInterface t x=>match ρ.ev x with
    | some v=>bif ZgM (c.P.underlying t) then False else K (.val (.iface t v.v)) h
    | none=>False
  | .typeAssert x _ t ok=>match ρ.ev x with
    | some v=>bif ZgM (c.P.underlying t) then False else bif ok then (match v with
      | .val (.iface t' u)=>bif Nat.beq t' t then K (.val (.tuple #[u,.bool true])) h else False
      | _=>False) else asT v.v t fun y=>Zs9 (c.P.underlying t) y fun u=>K u h
    | none=>False
  | _=>False
def Zqu (n:Nat) (e:Env) (d:Option Tmp) (v:EV) (K:Env->Prop):Prop :=
  match d with
  | none=>K e
  | some d=>bif Nat.blt d n then K (e.set d v) else False
def opQ (c:Cfg) (o:Oper) (e:Env) (h:Zc) (K:EV->Zc->Prop):Prop :=
  match o.op with
  | .assign x=>bif Zxx (c.P.underlying o.type) then (match e.ev x with
    | some v=>K v h
    | none=>False) else opP c (.assign x) e h K
  | op=>opP c op e h K
def ZE3 (c:Cfg) (o:Oper) (e:Env) (h:Zc) (K:Env->Zc->Prop):Prop :=
  opQ c o e h fun v h'=>Zqu c.n e o.dst v fun e'=>K e' h'
def ZmL (c:Cfg) (o:Oper) (e:Env) (h:Zc) (K:Env->Zc->Prop):Prop :=
  Zqu c.n e o.dst (.val undef) fun e'=>K e' h
def XE (ops:List Oper) (j:Nat):Option Tmp:=(ops[j]?).bind (·.dst)
def ZeR (c:Cfg) (one:Oper->Env->Zc->(Env->Zc->Prop)->Prop) (all:List Oper):List Oper->Env->Zc->(Env->Zc->Prop)->Prop
  | [],e,h,K=>K e h
  | o::os,e,h,K =>
    match o.guard with
    | none=>one o e h fun e' h'=>ZeR c one all os e' h' K
    | some (j,want) =>
      match XE all j with
      | none=>ZmL c o e h fun e' h'=>ZeR c one all os e' h' K
      | some t =>
        match e t with
        | some (.lit b) =>
          match b,want with
          | true,true | false,false=>one o e h fun e' h'=>ZeR c one all os e' h' K
          | true,false | false,true=>ZmL c o e h fun e' h'=>ZeR c one all os e' h' K
        | some (.val (.bool b)) =>
          match want with
          | true=>Zz b (one o (e.set t (.lit true)) h fun e' h'=>ZeR c one all os e' h' K) (ZmL c o (e.set t (.lit false)) h fun e' h'=>ZeR c one all os e' h' K)
          | false=>Zz b (ZmL c o (e.set t (.lit true)) h fun e' h'=>ZeR c one all os e' h' K) (one o (e.set t (.lit false)) h fun e' h'=>ZeR c one all os e' h' K)
        | some _=>ZmL c o e h fun e' h'=>ZeR c one all os e' h' K
        | none=>False
def Zsm (c:Cfg) (o:Op) (ρ:Env) (h:Zc) (K:EV->Zc->Prop):Prop :=
  match o with
  | .move _ | .assign _ | .pick _ _ _ | .load _ _ | .nilCheck _ | .binOp _ _ _ _ _ | .unOp _ _ _ | .slice _ _ _ _ _ | .fieldAddr _ _ _ | .field _ _ _ | .indexAddr _ _ _ | .index _ _ _ | .extract _ _ | .build _ _ | .makeFunc _ _ _=>opP c o ρ h K
  | .convert s d _=>match c.P.underlying s,c.P.underlying d with
    | some (.int _),some (.int _)=>opP c o ρ h K
    | _,_=>False
  | .call ⟨.builtin .len,_,_⟩ | .call ⟨.builtin .cap,_,_⟩ | .call ⟨.builtin .min,_,_⟩ | .call ⟨.builtin .max,_,_⟩=>opP c o ρ h K
  | .call ⟨.value (.func f),args,_⟩ =>
    match evs ρ args.toList with
    | some es=>match Zmj f es c.calls with
      | some ⟨s,t⟩=>ZtL (fun K' h'=>s.sem t K' (fun _ _=>False) h') h fun r=>K (Zfg (Xw.evs s.res r)) h
      | none=>False
    | none=>False
  | _=>False
def ZwP (c:Cfg) (o:Oper) (e:Env) (h:Zc) (K:Env->Zc->Prop):Prop :=
  Zsm c o.op e h fun v h'=>Zqu c.n e o.dst v fun e'=>K e' h'
def Zgd (m i:Nat):Bool:=Nat.beq (Nat.land (Nat.shiftRight m i) 1) 1
def Zn1 (m i:Nat):Nat:=Nat.lor m (Nat.shiftLeft 1 i)
def Znn (m:Nat):List Edge->Bool
  | []=>true
  | e::es=>bif Region.binds .any e then (bif Zgd m e.on then Znn m es else false) else Znn m es
def Zca (m i:Nat) (o:Oper):Bool:=bif Zgd m i then false else Znn m o.after.toList
def Zjf (m i:Nat):Nat->List Oper->Bool
  | _,[]=>true
  | k,o::os=>bif Nat.beq k i then Zjf m i (k+1) os else bif Zca m k o then false else Zjf m i (k+1) os
def Zff (i:Nat):List Edge->Bool
  | []=>false
  | e::es=>bif Nat.beq e.on i then (bif Region.binds .any e then true else Zff i es) else Zff i es
def Zmm (ops:Array Oper) (oi:Oper) (m i:Nat):Nat->List Oper->Bool
  | _,[]=>true
  | k,o::os=>bif (bif Nat.beq k i then true else bif Zgd m k then true else bif Zff i o.after.toList then true else oi.apart ops o) then Zmm ops oi m i (k+1) os else false
def Zxc (m:Nat):Nat->List Oper->Bool
  | _,[]=>true
  | k,o::os=>bif Zca m k o then false else Zxc m (k+1) os
abbrev ZfC:=List (Nat × (Zc->Prop))
def Zqf (o:Oper):ZfC->ZfC
  | []=>[]
  | x::r=>bif Zff x.1 o.after.toList then Zqf o r else x::Zqf o r
def ZpZ (h:Zc):ZfC->Prop->Prop
  | [],K=>K
  | x::r,K=>x.2 h/\ZpZ h r K
def ZmZ (m i j:Nat):Nat->List Oper->Bool
  | _,[]=>true
  | k,o::os=>bif Nat.beq k i||Nat.beq k j then ZmZ m i j (k+1) os else bif Zca m k o then false else ZmZ m i j (k+1) os
def Zqr (b o:Nat):Nat->List Value->List (Nat × Nat × Value)
  | _,[]=>[]
  | i,v::vs=>(b,ZFK o i,v)::Zqr b o (i+1) vs
def ldH (P:Program) (t:TypeId) (h:Zc) (b o:Nat) (K:EV->List (Nat × Nat × Value)->Prop):Prop :=
  bif ZbV (P.underlying t) then
    (bif Nat.beq (ZeZ P 8 t).length (P.cellsOf t) then ZzD h b o 0 (ZeZ P 8 t) fun vs=>K (.val (.agg vs.toArray)) (Zqr b o 0 vs) else False)
  else Zlx (P.underlying t) h b o fun v=>K v [(b,o,v.v)]
inductive OpK where
  | pure | load (t:TypeId) (x:Operand) | text (x:Operand) | other
def ZeT (c:Cfg):Op->OpK
  | .move _ | .assign _ | .pick _ _ _ | .nilCheck _ | .binOp _ _ _ _ _ | .unOp _ _ _ | .slice _ _ _ _ _ | .fieldAddr _ _ _ | .field _ _ _ | .indexAddr _ _ _ | .index _ _ _ | .extract _ _ | .build _ _ | .makeFunc _ _ _=> .pure
  | .convert s d x=>match c.P.underlying s,c.P.underlying d with
    | some (.int _),some (.int _)=> .pure
    | some (.slice e),some .string=>match c.P.underlying e with
      | some (.int .u8)=> .text x
      | _=> .other
    | _,_=> .other
  | .call ⟨.builtin .len,_,ts⟩=>bif Zil c.P ts then .other else .pure
  | .call ⟨.builtin .cap,_,_⟩ | .call ⟨.builtin .min,_,_⟩ | .call ⟨.builtin .max,_,_⟩=> .pure
  | .load t x=> .load t x
  | _=> .other
def ZlG (all:List Oper) (o:Oper) (e:Env) (A B:Env->Prop):Prop :=
  match o.guard with
  | none=>A e
  | some (j,want) =>
    match XE all j with
    | none=>B e
    | some t =>
      match e t with
      | some (.lit b) =>
        match b,want with
        | true,true | false,false=>A e
        | true,false | false,true=>B e
      | some (.val (.bool b)) =>
        match want with
        | true=>Zz b (A (e.set t (.lit true))) (B (e.set t (.lit false)))
        | false=>Zz b (B (e.set t (.lit true))) (A (e.set t (.lit false)))
      | some _=>B e
      | none=>False
def Zcd:List Nat->List EV->Nat->Option EV
  | s::ss,v::vs,j=>bif Nat.beq j s then some v else Zcd ss vs j
  | _,_,_=>none
def ZpR:List (Nat × Nat)->Nat->Bool
  | [],_=>false
  | (lo,hi)::r,j=>bif Nat.ble lo j&&Nat.ble j hi then true else ZpR r j
def ZbL:List Nat->Nat->Bool
  | [],_=>false
  | s::ss,j=>bif Nat.beq j s then true else ZbL ss j
def Zmq (slots:List Nat) (vs:List EV) (kill:List (Nat × Nat)) (e:Env):Env:=⟨fun j =>
  match Zcd slots vs j with
  | some v=>some v
  | none=>bif ZpR kill j then none else e.f j,e.mD⟩
def Zqh (L:List Nat):List Edge->List Nat
  | []=>[]
  | e::es=>bif Region.binds .any e then (bif ZbL L e.on then e.on::Zqh L es else Zqh L es) else Zqh L es
def Zlr (d:Nat->Bool):List Nat->Prop->Prop
  | [],K=>K
  | i::is,K=>d i=true->Zlr d is K
def ZFQ (ops:Array Oper) (L:List Nat) (d:Nat->Bool) (f:Nat->Oper->Prop):List Nat->Prop
  | []=>True
  | k::ks=>(match ops[k]? with
    | some o=>d k=false->Zlr d (Zqh L o.after.toList) (f k o)
    | none=>False)/\ZFQ ops L d f ks
def ZhS (m:Nat) (E:List Nat):List Edge->Bool
  | []=>true
  | e::es=>bif Region.binds .any e then (bif Zgd m e.on then ZhS m E es else bif ZbL E e.on then ZhS m E es else false) else ZhS m E es
def Zpl (ops:Array Oper) (m:Nat):List Nat->List Nat->Bool
  | _,[]=>true
  | E,k::ks=>match ops[k]? with
    | some o=>bif Zgd m k then false else bif ZbL E k then false else bif o.guard.isNone then (bif ZhS m E o.after.toList then Zpl ops m (k::E) ks else false) else false
    | none=>false
def Zef (m:Nat) (L:List Nat):List Edge->Bool
  | []=>false
  | e::es=>bif Region.binds .any e then (bif Zgd m e.on then Zef m L es else bif ZbL L e.on then Zef m L es else true) else Zef m L es
def ZhX (es:List Edge):List Nat->Bool
  | []=>true
  | k::ks=>bif Zff k es then ZhX es ks else false
def ZE1 (m:Nat) (L:List Nat):Nat->List Oper->Bool
  | _,[]=>true
  | k,o::os=>bif (bif Zgd m k then true else bif ZbL L k then true else bif Zef m L o.after.toList then true else ZhX o.after.toList L) then ZE1 m L (k+1) os else false
def Zoj (j k:Nat):Nat->List Oper->Bool
  | _,[]=>true
  | i,o::os=>bif Nat.beq i k then Zoj j k (i+1) os else match o.dst with
    | some x=>bif Nat.beq x j then false else Zoj j k (i+1) os
    | none=>Zoj j k (i+1) os
def ZqO (ops:List Oper) (slots:List Nat):List Nat->Bool
  | []=>true
  | k::ks=>match XE ops k with
    | some j=>bif ZbL slots j then (bif Zoj j k 0 ops then ZqO ops slots ks else false) else false
    | none=>ZqO ops slots ks
def Zrx (ops:List Oper) (j:Nat):List Nat->Bool
  | []=>false
  | k::ks=>match XE ops k with
    | some x=>bif Nat.beq x j then true else Zrx ops j ks
    | none=>Zrx ops j ks
def ZmK (ops:List Oper) (L:List Nat):List Nat->Bool
  | []=>true
  | j::js=>bif Zrx ops j L then ZmK ops L js else false
def ZDe (ops:Array Oper) (m:Nat) (L:List Nat) (slots:List Nat):Bool :=
  bif Zpl ops m [] L then (bif ZE1 m L 0 ops.toList then (bif ZqO ops.toList slots L then ZmK ops.toList L slots else false) else false) else false
def Zkk (ops:List Oper) (j:Nat):List Edge->Bool
  | []=>false
  | e::es=>bif Region.binds .any e then (match XE ops e.on with
    | some x=>bif Nat.beq x j then true else Zkk ops j es
    | none=>Zkk ops j es) else Zkk ops j es
def eAt (ops:List Oper) (after:List Edge) (slots:List Nat) (vs:List EV) (e:Env):Env:=⟨fun j=>match Zcd slots vs j with
  | some v=>bif Zkk ops j after then some v else none
  | none=>bif ZbL slots j then none else e.f j,e.mD⟩
def ZAx:List Nat->Nat->EV->List EV->List EV
  | s::ss,j,v,x::xs=>bif Nat.beq j s then v::xs else x::ZAx ss j v xs
  | _,_,_,xs=>xs
inductive OrdT where
  | done | take (i:Nat) (fr:Bool) (r:OrdT) | fork (i:Nat) (r:OrdT) (j:Nat) (s:OrdT) | inv (L slots:List Nat) (tys:List VT) (r:OrdT)
def OrdT.depth:OrdT->Nat
  | .done=>0
  | .take _ _ r=>r.depth+1
  | .fork _ r _ s=>Nat.max r.depth s.depth+1
  | .inv L _ _ r=>r.depth+L.length
def ZDA (c:Cfg) (ops:Array Oper) (o:Oper) (hd:ZfC) (e:Env) (h:Zc) (rest:ZfC->Env->Zc->Prop):Prop :=
  ZlG ops.toList o e (fun e=>opP c o.op e h fun v h'=>Zqu c.n e o.dst v fun e'=>ZpZ h' (Zqf o hd) (rest (Zqf o hd) e' h'))
   (fun e=>Zqu c.n e o.dst (.val undef) fun e'=>rest hd e' h)
def ZFu (c:Cfg) (ops:Array Oper) (o:Oper) (hd:ZfC) (e:Env) (h:Zc) (rest:ZfC->Env->Zc->Prop):Prop :=
  ZlG ops.toList o e (fun e=>opP c o.op e h fun v _=>Zqu c.n e o.dst v fun e'=>rest hd e' h)
   (fun e=>Zqu c.n e o.dst (.val undef) fun e'=>rest hd e' h)
def ZCD (c:Cfg) (ops:Array Oper) (o:Oper) (m i:Nat) (fr:Bool):Bool :=
  bif Zca m i o then (match ZeT c o.op with
    | .other=>Zjf m i 0 ops.toList
    | _=>bif fr then Zmm ops o m i 0 ops.toList else Zjf m i 0 ops.toList) else false
def Zoh (c:Cfg) (ops:Array Oper):OrdT->Nat->Bool
  | .done,m=>Zxc m 0 ops.toList
  | .fork i r j s,m =>
    match ops[i]?,ops[j]? with
    | some o,some p=>bif Zca m i o&&(Zca m j p&&ZmZ m i j 0 ops.toList) then (bif Zoh c ops r (Zn1 m i) then Zoh c ops s (Zn1 m j) else false) else false
    | _,_=>false
  | .take i fr r,m =>
    match ops[i]? with
    | none=>false
    | some o=>bif ZCD c ops o m i fr then Zoh c ops r (Zn1 m i) else false
  | .inv L slots tys r,m=>bif ZDe ops m L slots&&Nat.beq slots.length tys.length then Zoh c ops r (L.foldl Zn1 m) else false
def Zog (c:Cfg) (ops:Array Oper) (K:Env->Zc->Prop):OrdT->ZfC->Env->Zc->Prop
  | .done,_,e,h=>K e h
  | .fork i r j s,hd,e,h =>
    match ops[i]?,ops[j]? with
    | some o,some p=>Zqt (ZDA c ops o hd e h (Zog c ops K r)) (ZDA c ops p hd e h (Zog c ops K s))
    | _,_=>False
  | .inv L slots tys r,hd,e,h =>
    Zyz (fun I d t h'=>ZFQ ops L d (fun k o=>opP c o.op (eAt ops.toList o.after.toList slots (Xw.evs tys t) e) h' fun v h''=>ZpZ h'' (Zqf o hd) (match o.dst with
     | none=>I (XL d k) t h''
     | some j=>bif Nat.blt j c.n then (match Xw.un tys (ZAx slots j v (Xw.evs tys t)) with
       | some t'=>I (XL d k) t' h''
       | none=>False) else False)) L)
     (fun d t h'=>Zlr d L (ZpZ h' hd (Zog c ops K r hd (Zmq slots (Xw.evs tys t) [] e) h'))) h
  | .take i fr r,hd,e,h =>
    match ops[i]? with
    | none=>False
    | some o =>
      match ZeT c o.op with
      | .pure=>ZFu c ops o hd e h (Zog c ops K r)
      | .load t x=>bif fr then
          ZlG ops.toList o e (fun e=>match e.ev x with
           | some y=>atP y fun b p=>ldH c.P t h b p fun v cells=>Zqu c.n e o.dst v fun e'=>Zog c ops K r ((i,fun h'=>Z9 h' cells)::hd) e' h
           | none=>False)
           (fun e=>Zqu c.n e o.dst (.val undef) fun e'=>Zog c ops K r hd e' h)
        else ZFu c ops o hd e h (Zog c ops K r)
      | .text x=>bif fr then
          ZlG ops.toList o e (fun e=>match e.ev x with
           | some (.val (.slice p l n))=>b2s ⟨p,l,n⟩ h fun s=>Zqu c.n e o.dst (.val (.string s)) fun e'=>Zog c ops K r ((i,fun h'=>b2s ⟨p,l,n⟩ h' fun s'=>s'=s)::hd) e' h
           | _=>False)
           (fun e=>Zqu c.n e o.dst (.val undef) fun e'=>Zog c ops K r hd e' h)
        else ZDA c ops o hd e h (Zog c ops K r)
      | .other=>ZDA c ops o hd e h (Zog c ops K r)
inductive Ann where
  | leaf
  | seq (a b:Ann)
  | cut (slots:List Nat) (tys:List VT) (kill:List (Nat × Nat)) (a b:Ann)
  | cond (a b:Ann)
  | block (a:Ann)
  | loop (slots:List Nat) (tys:List VT) (kill:List (Nat × Nat)) (a:Ann)
  | order (l:OrdT)
  | range (tys:List VT) (a b:Ann)
inductive Ex where
  | normal | exit (id:Nat) | ret
def ZtG (e:Env):List Nat->Option (List EV)
  | []=>some []
  | s::ss=>match e s,ZtG e ss with
    | some v,some vs=>some (v::vs)
    | _,_=>none
def Zq2 (slots:List Nat) (tys:List VT) (e:Env):Option (Xw tys) :=
  match ZtG e slots with
  | some es=>Xw.un tys es
  | none=>none
def Zxq (slots:List Nat) (tys:List VT) (e:Env) (J:Xw tys->Zc->Prop) (h:Zc):Prop :=
  match Zq2 slots tys e with
  | some t=>J t h
  | none=>False
def mkN:Nat:=4294967291
def dstsOf:Code->List Nat
  | .region _ ops _=>ops.toList.filterMap (·.dst)
  | .seq a b=>dstsOf a++dstsOf b
  | .cond _ a b=>dstsOf a++dstsOf b
  | .block _ a=>dstsOf a
  | .loop a=>dstsOf a
  | .rangeFunc _ _ _ _=>[mkN]
  | _=>[]
def ZsX (slots:List Nat) (kill:List (Nat × Nat)) (a:Code):Bool:=(dstsOf a).all fun j=>bif Nat.beq j mkN then false else ZbL slots j||ZpR kill j
def ZeO (K:Env->Zc->Prop) (Q:Ex->Env->Zc->Prop):Ex->Env->Zc->Prop
  | .normal,e,h=>K e h
  | .exit id,e,h=>Q (.exit id) e h
  | .ret,e,h=>Q .ret e h
def ZAS (id:Nat) (Q:Ex->Env->Zc->Prop):Ex->Env->Zc->Prop
  | .normal,e,h=>Q .normal e h
  | .exit id',e,h=>bif Nat.beq id' id then Q .normal e h else Q (.exit id') e h
  | .ret,e,h=>Q .ret e h
def ZmO (n:Nat) (e:Env):List Tmp->List EV->Option Env
  | [],[]=>some e
  | p::ps,v::vs=>bif Nat.blt p n then ZmO n (e.set p v) ps vs else none
  | _,_=>none
def ZDi (a:Code):Bool:=ZbL (dstsOf a) mkN
def Zxy:Op->Bool
  | .defer _=>true
  | _=>false
def Zjh:List Oper->Bool
  | []=>true
  | o::os=>bif Zxy o.op then false else Zjh os
def Ann.fst:Ann->Ann
  | .seq a _ | .cut _ _ _ a _ | .cond a _ | .block a | .loop _ _ _ a | .range _ a _=>a
  | .leaf | .order _=> .leaf
def Ann.snd:Ann->Ann
  | .seq _ b | .cut _ _ _ _ b | .cond _ b | .range _ _ b=>b
  | _=> .leaf
def ZAA (K:Env->Zc->Prop):Ex->Env->Zc->Prop
  | .normal,e,h=>K e h
  | _,_,_=>False
def ZAz (k:Option Code->Zc->Prop):Ex->Env->Zc->Prop
  | .normal,_,h=>k none h
  | .exit id,_,h=>k (some (.exit id)) h
  | .ret,_,h=>k (some .ret) h
def wpC (c:Cfg):Code->Ann->Env->Zc->(Ex->Env->Zc->Prop)->Prop
  | .skip,_,e,h,Q=>Q .normal e h
  | .region _ ops draw,ann,e,h,Q =>
    match draw with
    | true=>match ann with
      | .order l=>bif Region.noSelect ops&&(Nat.ble l.depth ops.size&&(Zjh ops.toList&&Zoh c ops l 0)) then Zog c ops (fun e' h'=>Q .normal e' h') l [] e h else False
      | _=>bif c.rnd.isNone&&Region.lexB .any ops then ZeR c (ZwP c) ops.toList ops.toList e h fun e' h'=>Q .normal e' h' else False
    | false=>ZeR c (ZE3 c) ops.toList ops.toList e h fun e' h'=>Q .normal e' h'
  | .seq a b,ann,e,h,Q =>
    match ann with
    | .cut slots tys kill x y =>
      bif ZsX slots kill a then
        Zgf (fun t h'=>wpC c b y (Zmq slots (Xw.evs tys t) kill e) h' Q) (fun J=>wpC c a x e h (ZeO (fun e' h'=>Zxq slots tys e' J h') Q))
      else False
    | ann=>wpC c a ann.fst e h (ZeO (fun e' h'=>wpC c b ann.snd e' h' Q) Q)
  | .cond x a b,ann,e,h,Q =>
    match e.ev x with
    | some (.lit true)=>wpC c a ann.fst e h Q
    | some (.lit false)=>wpC c b ann.snd e h Q
    | some (.val (.bool v))=>Zz v (wpC c a ann.fst e h Q) (wpC c b ann.snd e h Q)
    | _=>False
  | .block id a,ann,e,h,Q=>wpC c a ann.fst e h (ZAS id Q)
  | .loop a,ann,e,h,Q =>
    match ann with
    | .loop slots tys kill x =>
      bif ZsX slots kill a then
        match Zq2 slots tys e with
        | some t0=>Zar (fun J t h'=>wpC c a x (Zmq slots (Xw.evs tys t) kill e) h' (ZeO (fun e' h''=>Zxq slots tys e' J h'') Q)) t0 h
        | none=>False
      else False
    | _=>False
  | .exit id,_,e,h,Q=>Q (.exit id) e h
  | .ret,_,e,h,Q=>Q .ret e h
  | .rangeFunc g ps assign body,ann,e,h,Q =>
    match ann with
    | .range tys x y=>bif c.rnd.isNone&&e.mD.isNo then
      (match e.ev g with
      | some (.val (.func (.func f) ⟨[]⟩ ⟨cs⟩))=>match ZtM f (cs.map EV.val) c.iters with
        | some ⟨s,t⟩ =>
          ZEY ps.size (fun Y l K h'=>s.sem Y l t K h')
           (fun l r vs h' k=>ZFI (fun a:Xw tys=>(Xw.evs tys a).map EV.v) vs fun a=>match ZmO c.n ⟨e.f,.no⟩ ps.toList (Xw.evs tys a) with
             | some e1=>wpC { c with rnd:=some l,pan:=fun _ _=>False } assign x e1 h' (ZAA fun e2 h2 =>
                 ZFC r l h2 fun h3=>wpC { c with rnd:=some l,pan:=fun _ _=>False } body y e2 h3 (ZAz k))
             | none=>False)
           h fun p D h'=>ZFl p (Q .normal ⟨e.f,.at_ D⟩ h') (fun id=>Q (.exit id) ⟨e.f,.at_ D⟩ h') (Q .ret ⟨e.f,.at_ D⟩ h')
        | none=>False
      | _=>False)
      else False
    | _=>False
  | _,_,_,_,_=>False
def Zuo (c:Cfg) (e:Env) (h:Zc):List ResultVar->(List EV->Prop)->Prop
  | [],K=>K []
  | .tmp t::r,K=>match e.f t with
    | some v=>Zuo c e h r fun vs=>K (v::vs)
    | none=>False
  | .cell a t::r,K=>match e.f a with
    | some (.adr b o)=>ldT c.P t h b o fun v=>Zuo c e h r fun vs=>K (v::vs)
    | _=>False
def ZiS (l:List EV):Env:=⟨fun j=>go l 0 j,.no⟩
where go:List EV->Nat->Nat->Option EV
  | [],_,_=>none
  | v::vs,i,j=>bif Nat.beq j i then some v else go vs (i+1) j
def ZFR (c:Cfg) (fn:Func) (ann:Ann) (args:List EV) (res:List VT) (K:Xw res->Zc->Prop) (Kp:Value->Zc->Prop) (h:Zc):Prop :=
  match fn.body with
  | some code=>wpC { c with rnd:=none,pan:=bif ZDi code then fun _ _=>False else Kp } code ann (ZiS args) h fun ex e h' =>
    match ex with
    | .exit _=>False
    | _=>match e.mD with
      | .no=>Zuo c e h' fn.results.toList fun vs=>match Xw.un res vs with
        | some r=>K r h'
        | none=>False
      | .at_ D=>ZEU D h' fun h'=>Zuo c e h' fn.results.toList fun vs=>match Xw.un res vs with
        | some r=>K r h'
        | none=>False
      | .raw _=>False
  | none=>False
theorem ZiQ (w:World) (b o:Nat):w.cell? ⟨b,o,none⟩=Zc.cell w.heap b o:=by
  unfold World.cell? Zc.cell
  simp only [Awf,Aqc,if_false]
  cases w.heap[b]? with
  | none=>rfl
  | some x=>cases x<;>rfl
theorem ZDs (w:World) (b o:Nat):w.frozen? ⟨b,o,none⟩=Zc.froz w.heap b o:=by
  unfold World.frozen? Zc.froz
  rfl
theorem ZmM (w:World) (b o:Nat) (v:Value):w.setCell ⟨b,o,none⟩ v={ w with heap:=Zc.put w.heap b o v }:=by
  unfold World.setCell Zc.put
  simp only [Awf,Aqc,if_false]
  refine congrArg (fun f=>({ w with heap:=w.heap.modify b f }:World)) ?_
  funext x
  cases x<;>rfl
theorem Zkl (b o n:Nat):(⟨b,o,none⟩:Addr).add n=⟨b,o+n,none⟩:=by
  unfold Addr.add
  split
  ·rename_i h;subst h;rfl
  ·rfl
theorem ZrL (o i:Nat):ZFK o i=o+i:=by
  unfold ZFK
  cases h:Nat.beq i 0 with
  | false=>rfl
  | true=>have:=Awg h;subst this;rfl
def Same (w w':World):Prop:=w'.tape=w.tape/\w'.os=w.os/\w'.output=w.output
theorem Same.refl (w:World):Same w w:=⟨rfl,rfl,rfl⟩
theorem Same.trans {a b c:World} (h:Same a b) (h':Same b c):Same a c:=⟨h'.1.trans h.1,h'.2.1.trans h.2.1,h'.2.2.trans h.2.2⟩
def ZC1:Mark->List Deferred
  | .no=>[]
  | .at_ D=>[{ target:= .collected D,args:= #[]}]
  | .raw ds=>ds
structure Agr (n:Nat) (e:Env) (a:Act):Prop where
  size:a.tmps.size=n
  defers:a.defers=ZC1 e.mD
  val:∀ j v,e j=some v->a.tmps[j]?=some v.v
theorem Agr.ev {n:Nat} {e:Env} {a:Act} (h:Agr n e a) {x:Operand} {v:EV} (hx:e.ev x=some v):a.eval x=v.v:=by
  cases x with
  | tmp t=>have:=h.val t v hx;simp [Act.eval,this]
  | const c =>
    cases c<;>simp only [Env.ev,Awh] at hx<;>subst hx<;>rfl
  | global g=>simp only [Env.ev,Awh] at hx;subst hx;rfl
  | func f=>simp only [Env.ev,Awh] at hx;subst hx;rfl
theorem Agr.evs {n:Nat} {e:Env} {a:Act} (h:Agr n e a):∀ {xs:List Operand} {vs:List EV},evs e xs=some vs->xs.map a.eval=vs.map EV.v
  | [],vs,hx=>by simp only [Fw.evs,Awh] at hx;subst hx;rfl
  | x::xs,vs,hx=>by
    simp only [Fw.evs] at hx
    split at hx
    ·rename_i v vs' h1 h2
     simp only [Awh] at hx;subst hx
     simp [h.ev h1,h.evs h2]
    ·cases hx
theorem Agr.set {n:Nat} {e:Env} {a:Act} (h:Agr n e a) {d:Nat} (hd:Nat.blt d n=true) (v:EV):Agr n (e.set d v) (a.put (some d) v.v):=by
  have hlt:d<n:=by rw [Nat.blt_eq] at hd;exact hd
  refine ⟨by simp [Act.put,h.size],by simp [Act.put,h.defers,Env.set],fun j u hj=>?_⟩
  unfold Env.set at hj
  dsimp only at hj
  cases hb:Nat.beq j d with
  | true =>
    have:=Awg hb;subst this
    rw [hb] at hj
    simp only [cond_true,Awh] at hj
    subst hj
    simp [Act.put,h.size,hlt]
  | false =>
    have hne:j≠d:=Awi hb
    rw [hb] at hj
    simp only [cond_false] at hj
    have:=h.val j u hj
    simp [Act.put,Awj (Ne.symm hne),this]
theorem Agr.tell {n:Nat} {e:Env} {a:Act} (h:Agr n e a) {t:Nat} {b:Bool} (ht:e t=some (.val (.bool b))):Agr n (e.set t (.lit b)) a:=by
  refine ⟨h.size,h.defers,fun j u hj=>?_⟩
  unfold Env.set at hj
  dsimp only at hj
  cases hb:Nat.beq j t with
  | true =>
    have:=Awg hb;subst this
    rw [hb] at hj
    simp only [cond_true,Awh] at hj
    subst hj
    have:=h.val j _ ht
    exact this
  | false =>
    rw [hb] at hj
    exact h.val j u hj
theorem Zdc {n:Nat} {e:Env} {a:Act} (h:Agr n e a) {d:Option Tmp} {v:EV} {K:Env->Prop} (hk:Zqu n e d v K) :
    ∃ e',Agr n e' (a.put d v.v)/\K e':=by
  unfold Zqu at hk
  cases d with
  | none=>exact ⟨e,h,hk⟩
  | some d =>
    simp only at hk
    cases hb:Nat.blt d n with
    | false=>rw [hb] at hk;exact hk.elim
    | true=>rw [hb] at hk;exact ⟨_,h.set hb v,hk⟩
section
variable (P:Program) (w:World)
theorem ZgG {b o:Nat} {v:Value} (h:Zc.cell w.heap b o=some v) (m:Mode):(load ⟨b,o,none⟩ m).run P w = .ok v w:=by
  rw [run_load,ZiQ,h]
theorem Zmf {b o:Nat} {u v:Value} (h:Zc.cell w.heap b o=some u) (hf:Zc.froz w.heap b o=false) (hv:Yc v=true) (m:Mode) :
    (store ⟨b,o,none⟩ v m).run P w = .ok () { w with heap:=Zc.put w.heap b o v }:=by
  have hv':v.oneCell'=true:=by cases v<;>first | rfl | (simp [Yc] at hv)
  rw [run_store P w _ v m hv',ZiQ,h,ZDs,hf]
  simp only [Aqc,if_false,ZmM]
theorem Zg (t:TypeId) {d:TypeDesc} (h:P.underlying t=some d):(underlying t).run P w = .ok d w:=by
  unfold underlying
  simp [h]
theorem Zbu (t:TypeId) {i:TypeInfo} (h:P.info? t=some i):(typeInfo t).run P w = .ok i w:=by
  unfold typeInfo
  simp [h]
theorem XM (t:TypeId) {i:TypeInfo} (h:P.info? t=some i):(sizeOf t).run P w = .ok i.size w:=by
  unfold sizeOf
  simp [Zbu P w t h]
theorem Zau (t:TypeId) {i:TypeInfo} {v:Value} (h:P.info? t=some i) (hv:i.zero=some v):(zeroValue t).run P w = .ok v w:=by
  unfold zeroValue
  simp [Zbu P w t h,hv]
theorem ZaZ {t:TypeId} {d:TypeDesc} (h:P.underlying t=some d):∃ i,P.info? t=some i:=by
  unfold Program.underlying at h
  cases hi:P.info? t with
  | none=>simp [hi] at h
  | some i=>exact ⟨i,rfl⟩
theorem ZbW {t:TypeId} {i:TypeInfo} (h:P.info? t=some i):P.cellsOf t=i.size:=by
  unfold Program.cellsOf
  simp [h]
theorem Zep (t:TypeId) {d:TypeDesc} (h:P.underlying t=some d):(isAgg t).run P w = .ok (ZbV (some d)) w:=by
  unfold isAgg
  simp only [Awk,Zg P w t h,Awl]
  cases d<;>rfl
theorem Zgm (b o:Nat):∀ (vs:List Value) (i:Nat) (acc:Array Value),Zc.has w.heap b (o+i) vs ->
    (loadCellsFrom ⟨b,o,none⟩ i vs.length acc).run P w = .ok (acc++vs.toArray) w
  | [],i,acc,_=>by simp [loadCellsFrom]
  | v::vs,i,acc,h=>by
    have h1:Zc.cell w.heap b (o+i)=some v:=h.1
    have h2:Zc.has w.heap b (o+i+1) vs:=h.2
    simp only [Aqj,loadCellsFrom,Awk,Zkl,ZgG P w h1,Awl]
    rw [Zgm b o vs (i+1) _ (by rw [<- Aqh];exact h2)]
    simp
theorem ZdC (b o:Nat) (vs:List Value) (h:Zc.has w.heap b o vs):(loadCells ⟨b,o,none⟩ vs.length).run P w = .ok vs.toArray w:=by
  unfold loadCells
  rw [Zgm P w b o vs 0 #[] (by simpa using h)]
  simp
end
theorem ZrG {h:Zc} {b o b' o':Nat} {v:Value} (hne:b≠b'\/o≠o'):(h.put b o v).cell b' o'=h.cell b' o':=by
  unfold Zc.put Zc.cell
  simp only [Aqi]
  by_cases hb:b=b'
  ·subst hb
   have ho:o≠o':=hne.resolve_left (fun h=>h rfl)
   simp only [if_true]
   cases hh:h[b]? with
   | none=>rfl
   | some x=>cases x<;>simp [Awj ho]
  ·simp [hb]
theorem ZzO {h:Zc} {b o b' o':Nat} {v:Value}:(h.put b o v).froz b' o'=h.froz b' o':=by
  unfold Zc.put Zc.froz
  simp only [Aqi]
  by_cases hb:b=b'
  ·subst hb
   simp only [if_true]
   cases hh:h[b]? with
   | none=>rfl
   | some x=>cases x<;>rfl
  ·simp [hb]
theorem ZsP {h:Zc} {b o:Nat} {v:Value}:∀ {n o':Nat},o<o'->h.free b o' n->(h.put b o v).free b o' n
  | 0,_,_,_=>trivial
  | n+1,o',hlt,hf=>by
    obtain ⟨⟨⟨u,hu⟩,hz⟩,hr⟩:=hf
    exact ⟨⟨⟨u,by rw [ZrG (.inr (by omega))];exact hu⟩,by rw [ZzO];exact hz⟩,ZsP (by omega) hr⟩
theorem Zeh (P:Program) (b o:Nat):∀ (vs:List Value) (i:Nat) (w:World),Zc.free w.heap b (o+i) vs.length->vs.all Yc=true ->
    (storeCells ⟨b,o,none⟩ vs i).run P w = .ok () { w with heap:=Zc.puts w.heap b (o+i) vs }
  | [],i,w,_,_=>rfl
  | v::vs,i,w,hf,ha=>by
    obtain ⟨⟨⟨u,hu⟩,hz⟩,hr⟩:=hf
    simp only [Awm,Awn] at ha
    simp only [storeCells,Awk,Zkl,Zmf P w hu hz ha.1,Awl]
    rw [Zeh P b o vs (i+1) _ (by rw [<- Aqh];exact ZsP (by omega) hr) ha.2]
    simp [Zc.puts,Aqh]
theorem ZiF {d:Option TypeDesc} {h:Zc} {b o:Nat} {K:EV->Prop} (hk:Zlx d h b o K) :
    ∃ v,h.cell b o=some v.v/\K v/\ZbV d=false/\d.isSome=true:=by
  unfold Zlx at hk
  cases d with
  | none=>exact hk.elim
  | some d =>
    cases d<;>simp only at hk<;>first
      | exact hk.elim
      | (obtain ⟨x,hx,hK⟩:=hk;refine ⟨_,?_,hK,rfl,rfl⟩;exact hx)
theorem ZjY {h:Zc} {b o:Nat}:∀ {ds:List (Option TypeDesc)} {i:Nat} {K:List Value->Prop},ZzD h b o i ds K ->
    ∃ vs,vs.length=ds.length/\h.has b (o+i) vs/\K vs
  | [],i,K,hk=>⟨[],rfl,trivial,hk⟩
  | d::ds,i,K,hk=>by
    obtain ⟨v,hc,hk,_⟩:=ZiF hk
    obtain ⟨vs,hl,hh,hk⟩:=ZjY hk
    rw [ZrL] at hc
    exact ⟨v.v::vs,by simp [hl],⟨hc,by rw [Aqh];exact hh⟩,hk⟩
theorem ZsD {P:Program} {t:TypeId} {b o:Nat} {K:EV->Prop} {h:Zc} (hk:ldT P t h b o K) :
    ∃ v,(∀ w:World,w.heap=h->(loadVar t ⟨b,o,none⟩).run P w = .ok v.v w)/\K v:=by
  unfold ldT at hk
  cases hu:P.underlying t with
  | none=>rw [hu] at hk;simp [ZbV,Zlx] at hk
  | some d =>
    obtain ⟨i,hi⟩:=ZaZ P hu
    rw [hu] at hk
    unfold loadVar
    cases ha:ZbV (some d) with
    | true =>
      rw [ha] at hk
      simp only [cond_true] at hk
      cases hl:Nat.beq (ZeZ P 8 t).length (P.cellsOf t) with
      | false=>rw [hl] at hk;exact hk.elim
      | true =>
        rw [hl] at hk
        obtain ⟨vs,hlen,hh,hk⟩:=ZjY hk
        have hs:i.size=vs.length:=by rw [hlen,Awg hl,ZbW P hi]
        refine ⟨.val (.agg vs.toArray),fun w hw=>?_,hk⟩
        subst hw
        simp only [Awk,Zep P w t hu,ha,Awl,if_true,XM P w t hi,hs]
        rw [ZdC P w b o vs (by simpa using hh)]
        rfl
    | false =>
      rw [ha] at hk
      obtain ⟨v,hc,hk,_⟩:=ZiF hk
      refine ⟨v,fun w hw=>?_,hk⟩
      subst hw
      simp only [Awk,Zep P w t hu,ha,Awl,Aqc,if_false]
      exact ZgG P w hc _
def ZAB (vs:List VT) (t:Xw vs):Value:=(Zfg (Xw.evs vs t)).v
def fen (r:Option Nat):Fence:={ fn:=fun _=>True,depth:=none,alive:=false,round:=r }
theorem Zg3 {r:Option Nat} {n:Nat} {P:Program} {f:FuncId} {args:Array Value} {w:World} {R:Ending->World->Prop}:CallsIn (fen r) n P f args w R↔Calls P f args w R :=
  callsIn_wide (n:=n)
def Zen (res:List VT) (w:World) (K:Xw res->Zc->Prop) (Kp:Value->Zc->Prop):Ending->World->Prop:=fun e w' =>
  (∃ r,e = .returned (ZAB res r)/\Same w w'/\K r w'.heap)\/(∃ v,e = .panicked [{ v,recovered:=false }]/\Same w w'/\Kp v w'.heap)
def ZAg (P:Program) (l:Nat) (vs:List Value) (w:World) (k:Bool->Zc->Prop):Prop :=
  ∃ fn tmps assign body,(Instr.yield l vs.toArray).run P w = .ok (.round l fn tmps assign body) w /\
    RoundIn (fen none) 0 P l fn tmps assign body w fun e w'=>∃ b,e = .returned (.bool b)/\Same w w'/\k b w'.heap
def YOK (P:Program) (Y:Yld):Prop:=∀ l vs k w,Y l vs k w.heap->ZAg P l vs w k
structure Zj (P:Program) (f:FuncId) (s:Zd):Prop where
  named:∃ fn,P.funcs[f]?=some fn/\(fn.name == "runtime.NumGoroutine")=false/\fn.body.isNone=false
  calls:∀ (t:Xw s.args) (K:Xw s.res->Zc->Prop) (Kp:Value->Zc->Prop) (w:World),s.sem t K Kp w.heap ->
    Calls P f ((Xw.evs s.args t).map EV.v).toArray w (Zen s.res w K Kp)
def Zde.spec (s:Zde) (Y:Yld):Zd:=⟨.yl::s.caps,[],fun t K _ h=>s.sem Y t.1 t.2 (fun h'=>K () h') h⟩
def Zyt (P:Program) (f:FuncId) (s:Zde):Prop:=∀ Y,YOK P Y->Zj P f (s.spec Y)
def ZDN (P:Program) (f:FuncId):Prop:=∀ (t b:Nat) (es:Array MapEntry) (c:Nat) (w:World),w.heap[b]?=some (.map es c) ->
  ∃ w',(callFunc f #[.iface t (.map (some b))]).run P w = .ok (.value (.iface t (.map (some w.heap.size)))) w'/\Same w w'/\w'.heap=w.heap.push (.map es c)
def Ztc (P:Program) (name:String) (t:TypeId) (f:FuncId):Prop:=∀ (v:Value) (w:World),(method (P.types.size+Made.depth) t v name).run P w = .ok (f,v) w
structure Cfg.OK (c:Cfg):Prop where
  calls:∀ x,x∈c.calls->Zj c.P x.1 x.2
  ext:∀ f,f∈c.ext->ZDN c.P f
  dyn:∀ x,x∈c.dyn->Ztc c.P x.1 x.2.1 x.2.2
  iters:∀ x,x∈c.iters->Zyt c.P x.1 x.2
  yld:YOK c.P c.yld
theorem Cfg.OK.at {c:Cfg} (h:c.OK) (r:Option Nat) (p:Value->Zc->Prop):Cfg.OK { c with rnd:=r,pan:=p }:=⟨h.calls,h.ext,h.dyn,h.iters,h.yld⟩
theorem Zr (P:Program):YOK P ZE:=fun _ _ _ _ h=>h.elim
theorem Zlm {f:FuncId} {es:List EV}:∀ {l:List (FuncId × Zde)} {p:Zyr},ZtM f es l=some p->(f,p.s)∈l/\Xw.un p.s.caps es=some p.t
  | [],p,h=>by simp [ZtM] at h
  | (g,s)::r,p,h=>by
    simp only [ZtM] at h
    cases hb:Nat.beq f g with
    | false =>
      rw [hb] at h
      have:=Zlm (l:=r) h
      exact ⟨.tail _ this.1,this.2⟩
    | true =>
      rw [hb] at h
      have he:=Awg hb
      subst he
      simp only [cond_true] at h
      split at h
      ·rename_i t ht
       simp only [Awh] at h
       subst h
       exact ⟨.head _,ht⟩
      ·have:=Zlm (l:=r) h
       exact ⟨.tail _ this.1,this.2⟩
theorem ZhA {f:FuncId} {es:List EV}:∀ {l:List (FuncId × Zd)} {p:ZAW},Zmj f es l=some p->(f,p.s)∈l/\Xw.un p.s.args es=some p.t
  | [],p,h=>by simp [Zmj] at h
  | (g,s)::r,p,h=>by
    simp only [Zmj] at h
    cases hb:Nat.beq f g with
    | false =>
      rw [hb] at h
      have:=ZhA (l:=r) h
      exact ⟨.tail _ this.1,this.2⟩
    | true =>
      rw [hb] at h
      have he:=Awg hb
      subst he
      simp only [cond_true] at h
      split at h
      ·rename_i t ht
       simp only [Awh] at h
       subst h
       exact ⟨.head _,ht⟩
      ·have:=ZhA (l:=r) h
       exact ⟨.tail _ this.1,this.2⟩
theorem Zjd {f:FuncId} {es:List EV}:∀ {l:List (FuncId × Zd)} {p:ZoQ},Zmi f es l=some p->(f,(⟨p.a0::p.rest,p.res,p.sem⟩:Zd))∈l/\Xw.un p.rest es=some p.t
  | [],p,h=>by simp [Zmi] at h
  | (g,⟨a0::rest,res,sem⟩)::r,p,h=>by
    simp only [Zmi] at h
    cases hb:Nat.beq f g with
    | false =>
      rw [hb] at h
      have:=Zjd (l:=r) h
      exact ⟨.tail _ this.1,this.2⟩
    | true =>
      rw [hb] at h
      have he:=Awg hb
      subst he
      simp only [cond_true] at h
      split at h
      ·rename_i t ht
       simp only [Awh] at h
       subst h
       exact ⟨.head _,ht⟩
      ·have:=Zjd (l:=r) h
       exact ⟨.tail _ this.1,this.2⟩
  | (g,⟨[],res,sem⟩)::r,p,h=>by
    simp only [Zmi] at h
    have:=Zjd (l:=r) h
    exact ⟨.tail _ this.1,this.2⟩
theorem Zqe {calls:List (FuncId × Zd)} {Kp:Value->Zc->Prop} {name:String} {v:Value} {es:List EV} {h:Zc} {K:EV->Zc->Prop}:∀ {l:List (String × TypeId × FuncId)},ZDB calls Kp name v es h K l ->
    ∃ (t:TypeId) (f:FuncId) (p:ZoQ) (x:p.a0.D),(name,t,f)∈l/\v = .iface t (p.a0.ev x).v/\Zmi f es calls=some p/\p.sem (x,p.t) (fun rr h'=>K (Zfg (Xw.evs p.res rr)) h') Kp h
  | [],hk=>hk.elim
  | (n,t,f)::r,hk=>by
    have tail:ZDB calls Kp name v es h K r->∃ (t':TypeId) (f':FuncId) (p:ZoQ) (x:p.a0.D),(name,t',f')∈(n,t,f)::r/\v = .iface t' (p.a0.ev x).v/\Zmi f' es calls=some p/\p.sem (x,p.t) (fun rr h'=>K (Zfg (Xw.evs p.res rr)) h') Kp h:=fun h9=>by
      obtain ⟨t',f',p,x,h1,h2,h3,h4⟩:=Zqe h9
      exact ⟨t',f',p,x,.tail _ h1,h2,h3,h4⟩
    simp only [ZDB] at hk
    cases hb:n ==name with
    | false=>rw [hb] at hk;exact tail hk
    | true =>
      rw [hb] at hk
      have he:n=name:=by simpa using hb
      subst he
      simp only [cond_true] at hk
      split at hk
      ·rename_i p hp
       rcases hk with ⟨x,hx,hk⟩ | hk
       ·exact ⟨t,f,p,x,.head _,hx,hp,hk⟩
       ·exact tail hk
      ·exact tail hk
theorem ZkI {calls:List (FuncId × Zd)} {Kp:Value->Zc->Prop} {v:Value} {es:List EV} {h:Zc} {K:EV->Zc->Prop}:∀ {l:List (FuncId × List Leaf)},fnP calls Kp v es h K l ->
    ∃ (f:FuncId) (cs:List Value) (s:Zd) (t:Xw s.args),v = .func (.func f) #[] ⟨cs⟩/\Zmj f (Zz7 es cs) calls=some ⟨s,t⟩/\s.sem t (fun rr h'=>K (Zfg (Xw.evs s.res rr)) h') Kp h
  | [],hk=>hk.elim
  | (f,[])::r,hk=>by
    simp only [fnP] at hk
    split at hk
    ·rename_i s t hp
     rcases hk with ⟨hv,hk⟩ | hk
     ·exact ⟨f,[],s,t,hv,by simpa [Zz7] using hp,hk⟩
     ·exact ZkI hk
    ·exact ZkI hk
  | (f,l::ls)::r,hk=>by
    simp only [fnP] at hk
    rcases hk with ⟨c,hv,hk⟩ | hk
    ·split at hk
     ·rename_i s t hp
      exact ⟨f,_,s,t,hv,hp,hk⟩
     ·exact hk.elim
    ·exact ZkI hk
theorem ZsN {f:FuncId}:∀ {l:List FuncId},ZDR f l=true->f∈l
  | [],h=>by simp [ZDR] at h
  | g::r,h=>by
    simp only [ZDR] at h
    cases hb:Nat.beq f g with
    | true=>rw [Awg hb];exact .head _
    | false=>rw [hb] at h;exact .tail _ (ZsN h)
theorem ZEK {l:Leaf} {v:Value} {x:l.D} (h:l.un v=some x):l.mk x=v:=by
  cases l<;>cases v<;>simp only [Leaf.un] at h<;>first
    | (split at h
       ·simp only [Awh] at h;subst h;rename_i hk;subst hk;rfl
       ·cases h)
    | (simp only [Awh] at h;subst h;rfl)
    | cases h
theorem Zwp:∀ {ls:List Leaf} {vs:List Value} {t:Tup ls},Tup.un ls vs=some t->Tup.vals ls t=vs
  | [],[],t,_=>rfl
  | [],_::_,t,h=>by simp [Tup.un] at h
  | _::_,[],t,h=>by simp [Tup.un] at h
  | l::ls,v::vs,t,h=>by
    simp only [Tup.un] at h
    split at h
    ·rename_i x t' h1 h2
     simp only [Awh] at h
     subst h
     simp only [Tup.vals,ZEK h1,Zwp h2]
    ·cases h
theorem ZzQ {f:FuncId} {e:EV} {x:Unit} (h:fnU f e=some x):(EV.val (.func (.func f) #[] #[])).v=e.v:=by
  unfold fnU at h
  split at h
  ·rename_i g
   cases hb:Nat.beq f g with
   | false=>rw [hb] at h;cases h
   | true=>rw [Awg hb]
  ·cases h
theorem Zx6 {f:FuncId} {ls:List Leaf} {e:EV} {x:Tup ls} (h:ZL5 f ls e=some x):(EV.val (.func (.func f) #[] ⟨Tup.vals ls x⟩)).v=e.v:=by
  unfold ZL5 at h
  split at h
  ·rename_i g cs
   cases hb:Nat.beq f g with
   | false=>rw [hb] at h;cases h
   | true =>
     rw [hb] at h
     rw [Awg hb,Zwp (ls:=ls) (vs:=cs) h]
  ·cases h
theorem ZyR {e:EV} {l:Nat} (h:ylU e=some l):(EV.val (.func (.yield l) #[] #[])).v=e.v:=by
  unfold ylU at h
  split at h
  ·simp only [Awh] at h;subst h;rfl
  ·cases h
theorem ZLF {v:VT} {e:EV} {x:v.D} (h:v.un e=some x):(v.ev x).v=e.v:=by
  cases v with
  | one l=>exact ZEK (v:=e.v) h
  | agg ls =>
    cases e with
    | val u =>
      cases u with
      | agg cs =>
        have:=Zwp (ls:=ls) (vs:=cs.toList) h
        show Value.agg (Tup.vals ls x).toArray = .agg cs
        rw [this]
      | _=>simp [VT.un] at h
    | lit b=>simp [VT.un] at h
    | adr b o=>simp [VT.un] at h
    | itr t b=>simp [VT.un] at h
    | more k v=>simp [VT.un] at h
    | over=>simp [VT.un] at h
  | fn f=>exact ZzQ h
  | clo f ls=>exact Zx6 h
  | yl=>exact ZyR h
theorem ZfR:∀ {vs:List VT} {es:List EV} {t:Xw vs},Xw.un vs es=some t->(Xw.evs vs t).map EV.v=es.map EV.v
  | [],[],t,_=>rfl
  | [],_::_,t,h=>by simp [Xw.un] at h
  | _::_,[],t,h=>by simp [Xw.un] at h
  | v::vs,e::es,t,h=>by
    simp only [Xw.un] at h
    split at h
    ·rename_i x t' h1 h2
     simp only [Awh] at h
     subst h
     simp only [Xw.evs,Awo,ZLF h1,ZfR h2]
    ·cases h
theorem Zxb {P:Program} {ρ:Operand->Value} {o:Oper} {w w':World} {n:Next} (hr:(execOp ρ o).run P w = .ok n w') (hn:∀ d,n≠ .defer d):∀ c,o.op≠ .defer c:=by
  intro c hc
  unfold execOp at hr
  rw [hc] at hr
  simp only [Awk] at hr
  cases h:(resolve ρ c o.type).run P w with
  | ok d w1 =>
    rw [h] at hr
    simp only [Awl,Awp] at hr
    cases hr
    exact hn _ rfl
  | halt x w1 =>
    rw [h] at hr
    cases hr
theorem Zi4 {P:Program} {r:Option Nat} {ρ:Operand->Value} {o:Oper} {w w':World} {n:Next} (hr:(execOp ρ o).run P w = .ok n w') (hn:∀ d,n≠ .defer d):(o.semAt r ρ).run P w = .ok n w':=by
  rw [Oper.semAt_eq _ _ _ (Zxb hr hn)]
  exact hr
theorem ZAl {P:Program} {r:Option Nat} {o:Oper} {a:Act} {w w':World} {v:Value} {next:Act->World->Prop} {Q:Exit->Act->World->Prop}
    (hr:(execOp a.eval o).run P w = .ok (.value v) w') (hn:next (a.put o.dst v) w'):o.wpIn (fen r) 0 P a w next Q:=by
  refine ⟨fun _ _=>trivial,?_⟩
  rw [show (fen r).round=r from rfl,Zi4 hr (fun _ h=>by cases h)]
  exact hn
theorem ZnC {P:Program} {r:Option Nat} {o:Oper} {a:Act} {w w':World} {next:Act->World->Prop} {Q:Exit->Act->World->Prop}
    (hr:(execOp a.eval o).run P w = .ok .skip w') (hn:next (a.put o.dst undef) w'):o.wpIn (fen r) 0 P a w next Q:=by
  refine ⟨fun _ _=>trivial,?_⟩
  rw [show (fen r).round=r from rfl,Zi4 hr (fun _ h=>by cases h)]
  exact hn
theorem ZnD {P:Program} {r:Option Nat} {o:Oper} {a:Act} {w:World} {f:FuncId} {args:Array Value} {next:Act->World->Prop} {Q:Exit->Act->World->Prop}
    (hr:(execOp a.eval o).run P w = .ok (.enter f args) w) (hc:Calls P f args w fun
      | .returned v,w''=>next (a.put o.dst v) w''
      | .panicked chain,w''=>Q (.panic chain) a w''
      | .outgrown,_=>LetsOut Q):o.wpIn (fen r) 0 P a w next Q:=by
  refine ⟨fun _ _=>trivial,?_⟩
  rw [show (fen r).round=r from rfl,Zi4 hr (fun _ h=>by cases h)]
  exact ⟨fun h=>(by cases h),Zg3.2 hc⟩
theorem ZyS {P:Program} {r:Option Nat} {o:Oper} {a:Act} {w:World} {l:Nat} {f:FuncId} {tmps:Array Value} {assign body:Code} {next:Act->World->Prop} {Q:Exit->Act->World->Prop}
    (hr:(execOp a.eval o).run P w = .ok (.round l f tmps assign body) w) {k:Bool->World->Prop} (hc:RoundIn (fen none) 0 P l f tmps assign body w fun e w'=>∃ b,e = .returned (.bool b)/\k b w')
    (hn:∀ b w',k b w'->next (a.put o.dst (.bool b)) w'):o.wpIn (fen r) 0 P a w next Q:=by
  refine ⟨fun _ _=>trivial,?_⟩
  rw [show (fen r).round=r from rfl,Zi4 hr (fun _ h=>by cases h)]
  refine ⟨fun h=>(by cases h),?_⟩
  have hc':RoundIn (fen r) (0 - 1) P l f tmps assign body w fun e w'=>∃ b,e = .returned (.bool b)/\k b w':=hc
  refine hc'.mono ?_
  rintro e w' ⟨b,rfl,hb⟩
  exact hn _ _ hb
theorem ZyT {P:Program} {r:Option Nat} {o:Oper} {a:Act} {w:World} {v:Value} {next:Act->World->Prop} {Q:Exit->Act->World->Prop}
    (hd:∀ c,o.op≠ .defer c) (hr:(execOp a.eval o).run P w = .halt (.panic v) w) (hq:Q (.panic [{ v,recovered:=false }]) a w):o.wpIn (fen r) 0 P a w next Q:=by
  refine ⟨fun _ _=>trivial,?_⟩
  rw [show (fen r).round=r from rfl,Oper.semAt_eq _ _ _ hd,hr]
  exact hq
theorem ZwH {P:Program} {w w':World} {s:Sem Value} {v:Value} (h:s.run P w = .ok v w') :
    (do pure (.value (<- s)):Sem Next).run P w = .ok (.value v) w':=by
  simp [h]
theorem ZCM {P:Program} {w w':World} {s:Sem Unit} (h:s.run P w = .ok () w') :
    (do s;pure .skip:Sem Next).run P w = .ok .skip w':=by
  simp [h]
theorem ZAb {P:Program} {op:BinOp} {t:TypeId} {x y:EV} {K:EV->Prop} (hk:ZAT op x y K):∃ v,(∀ w,(binOp op t x.v y.v).run P w = .ok v.v w)/\K v:=by
  unfold ZAT at hk
  split at hk
  ·rename_i k a k' b
   cases op<;>simp only at hk
   case shl =>
     obtain ⟨h0,hk⟩:=hk
     refine ⟨_,fun w=>?_,hk⟩
     simp only [EV.v,binOp,Op.shift,if_neg (Int.not_lt.2 h0)]
     rfl
   case shr =>
     obtain ⟨h0,hk⟩:=hk
     refine ⟨_,fun w=>?_,hk⟩
     simp only [EV.v,binOp,Op.shift,if_neg (Int.not_lt.2 h0)]
     rfl
   all_goals
     rcases Decidable.em (k=k') with he | he
     case inr=>rw [if_neg he] at hk;exact hk.elim
     subst he
     rw [if_pos rfl] at hk
     first
     | exact hk.elim
     | (obtain ⟨h0,hk⟩:=(show Y6 _ _ from hk)
        refine ⟨_,fun w=>?_,hk⟩
        simp only [EV.v,binOp,ne_eq,not_true,if_false,Op.intDiv,if_neg h0]
        rfl)
     | (refine ⟨_,fun w=>?_,hk⟩;simp only [EV.v,binOp,ne_eq,not_true,if_false];rfl)
  ·rename_i a b
   cases op<;>simp only at hk
   case add =>
     obtain ⟨h0,hk⟩:=hk
     refine ⟨_,fun w=>?_,hk⟩
     have:¬ (((a.size+b.size:Nat):Int)>IntKind.i64.max):=by
       have:IntKind.i64.max=9223372036854775807:=by decide
       rw [this];omega
     simp only [EV.v,binOp,Op.stringOp,if_neg this]
     rfl
   all_goals first
     | exact hk.elim
     | (refine ⟨_,fun w=>?_,hk⟩;rfl)
  ·exact hk.elim
section
variable {P:Program} {t:TypeId} (w:World)
theorem Zjm {e:TypeId} (hu:P.underlying t=some (.pointer e)) (p:Option Addr):(Op.equal t (.pointer p) (.pointer none)).run P w = .ok p.isNone w:=by
  unfold Op.equal Op.maxDepth
  rw [show (10000:Nat)=9999+1 from rfl]
  unfold Op.equalIn
  simp only [Awk,Zg P w t hu,Awl]
  cases p<;>rfl
theorem ZlN {e:TypeId} (hu:P.underlying t=some (.slice e)) (p:Option Addr) (n m n' m':Nat):(Op.equal t (.slice p n m) (.slice none n' m')).run P w = .ok p.isNone w:=by
  unfold Op.equal Op.maxDepth
  rw [show (10000:Nat)=9999+1 from rfl]
  unfold Op.equalIn
  simp only [Awk,Zg P w t hu,Awl]
  cases p<;>rfl
theorem ZoF {k e:TypeId} (hu:P.underlying t=some (.map k e)) (p:Option Nat):(Op.equal t (.map p) (.map none)).run P w = .ok p.isNone w:=by
  unfold Op.equal Op.maxDepth
  rw [show (10000:Nat)=9999+1 from rfl]
  unfold Op.equalIn
  simp only [Awk,Zg P w t hu,Awl]
  cases p<;>rfl
theorem ZoE {ms:Array (String × TypeId)} (hu:P.underlying t=some (.interface ms)):(Op.equal t .nilIface .nilIface).run P w = .ok true w:=by
  unfold Op.equal Op.maxDepth
  rw [show (10000:Nat)=9999+1 from rfl]
  unfold Op.equalIn
  simp only [Awk,Zg P w t hu,Awl]
  rfl
theorem ZlO {ms:Array (String × TypeId)} (hu:P.underlying t=some (.interface ms)) (t2:TypeId) (u:Value):(Op.equal t (.iface t2 u) .nilIface).run P w = .ok false w:=by
  unfold Op.equal Op.maxDepth
  rw [show (10000:Nat)=9999+1 from rfl]
  unfold Op.equalIn
  simp only [Awk,Zg P w t hu,Awl]
  rfl
theorem Zmr {ps rs:Array TypeId} {vr:Bool} (hu:P.underlying t=some (.func ps rs vr)):(Op.equal t .nilFunc .nilFunc).run P w = .ok true w:=by
  unfold Op.equal Op.maxDepth
  rw [show (10000:Nat)=9999+1 from rfl]
  unfold Op.equalIn
  simp only [Awk,Zg P w t hu,Awl]
  rfl
theorem Zms {ps rs:Array TypeId} {vr:Bool} (hu:P.underlying t=some (.func ps rs vr)) (f:Fn) (a b:Array Value):(Op.equal t (.func f a b) .nilFunc).run P w = .ok false w:=by
  unfold Op.equal Op.maxDepth
  rw [show (10000:Nat)=9999+1 from rfl]
  unfold Op.equalIn
  simp only [Awk,Zg P w t hu,Awl]
  rfl
theorem Zuc (hu:P.underlying t=some .bool) (a b:Bool):(Op.equal t (.bool a) (.bool b)).run P w = .ok (a ==b) w:=by
  unfold Op.equal Op.maxDepth
  rw [show (10000:Nat)=9999+1 from rfl]
  unfold Op.equalIn
  simp only [Awk,Zg P w t hu,Awl]
  rfl
end
theorem ZDz {P:Program} {t:TypeId} {neg:Bool} {x y:EV} {K:EV->Prop} (hk:eqP (P.underlying t) neg x y K) :
    ∃ v,(∀ w,(binOp (bif neg then .neq else .eql) t x.v y.v).run P w = .ok v.v w)/\K v:=by
  unfold eqP at hk
  split at hk
  ·rename_i e b o hu
   refine ⟨_,fun w=>?_,hk⟩
   have:=Zjm w hu (some ⟨b,o,none⟩)
   cases neg<;>simp only [cond_true,cond_false,EV.v,binOp,Awk,this,Awl]<;>rfl
  ·rename_i e p hu
   refine ⟨_,fun w=>?_,hk⟩
   have:=Zjm w hu p
   cases neg<;>simp only [cond_true,cond_false,EV.v,binOp,Awk,this,Awl]<;>cases p<;>rfl
  ·rename_i e p n m n' m' hu
   refine ⟨_,fun w=>?_,hk⟩
   have:=ZlN w hu p n m n' m'
   cases neg<;>simp only [cond_true,cond_false,EV.v,binOp,Awk,this,Awl]<;>cases p<;>rfl
  ·rename_i k e p hu
   refine ⟨_,fun w=>?_,hk⟩
   have:=ZoF w hu p
   cases neg<;>simp only [cond_true,cond_false,EV.v,binOp,Awk,this,Awl]<;>cases p<;>rfl
  ·rename_i hu
   split at hk
   ·rename_i a b hx hy
    refine ⟨_,fun w=>?_,hk⟩
    have:=Zuc w hu a b
    rw [hx,hy]
    cases neg<;>simp only [cond_true,cond_false,EV.v,binOp,Awk,this,Awl]<;>rfl
   ·exact hk.elim
  ·exact hk.elim
theorem Zp5 (off:Nat):∀ (l:List Value) (k:Nat) (cs:Array Value),off+k+l.length<=cs.size ->
    ((l.zipIdx k).foldl (fun cs x=>cs.setIfInBounds (off+x.2) x.1) cs).toList=cs.toList.take (off+k)++l++cs.toList.drop (off+k+l.length)
  | [],k,cs,h=>by simp
  | v::l,k,cs,h=>by
    simp only [List.zipIdx_cons,Awq,Aqj] at h ⊢
    rw [Zp5 off l (k+1) _ (by simp;omega)]
    have hlt:off+k<cs.toList.length:=by simp;omega
    simp only [Aqk]
    rw [show off+(k+1)=off+k+1 from by omega,Aql (by simp;omega),Aqm (by omega),Aqn (by omega)]
    simp
    omega
def ZDM (place:Nat->Option (Nat × Nat)) (n:Nat):List (Nat × Value)->List (Nat × List Value)->Prop
  | [],[]=>True
  | p::ps,q::l=>place p.1=some (q.1,q.2.length)/\p.2.cells.toList=q.2/\q.1+q.2.length<=n/\ZDM place n ps l
  | _,_=>False
theorem ZfO (place:Nat->Option (Nat × Nat)) (n:Nat):∀ (ps:List (Nat × Value)) (l:List (Nat × List Value)) (cs:Array Value),
    cs.size=n->ZDM place n ps l->Instr.fill place cs ps=some (Zfk cs.toList l).toArray
  | [],[],cs,_,_=>by simp [Instr.fill,Zfk]
  | [],_::_,cs,_,h=>h.elim
  | _::_,[],cs,_,h=>h.elim
  | (i,v)::ps,(o,vs)::l,cs,hn,h=>by
    obtain ⟨hp,hv,hle,h2⟩:=h
    simp only at hp hv hle
    have hlen:v.cells.size=vs.length:=by rw [<- hv];simp
    have hfold:(v.cells.zipIdx.foldl (fun cs x=>match x with | (c,j)=>cs.setIfInBounds (o+j) c) cs).toList=cs.toList.take o++vs++cs.toList.drop (o+vs.length):=by
      rw [<- Array.foldl_toList,Array.toList_zipIdx,hv]
      have:=Zp5 o vs 0 cs (by omega)
      simpa using this
    have hsz:(v.cells.zipIdx.foldl (fun cs x=>match x with | (c,j)=>cs.setIfInBounds (o+j) c) cs).size=n:=by
      rw [<- Awa,hfold]
      simp
      omega
    have ih:=ZfO place n ps l _ hsz h2
    rw [hfold] at ih
    have hno:¬ (o+vs.length>cs.size):=by omega
    simp only [Instr.fill,hp,hlen,ne_eq,not_true,decide_false,Bool.false_or,hno,Zfk]
    exact ih
theorem ZlY (v:EV):v.v.cells.toList=Zjp v:=by
  cases v with
  | val v=>cases v<;>rfl
  | lit b=>rfl
  | adr b o=>rfl
  | itr t b=>rfl
  | more k v=>rfl
  | over=>rfl
theorem ZoI (v:EV):v.v.cells=(Zjp v).toArray:=by
  rw [<- ZlY]
section
variable {c:Cfg} {e:Env} {a:Act} {n:Nat}
theorem ZwY {u:Value} (h:Yc u=true):u.cells.toList=[u]:=by
  cases u<;>first | rfl | cases h
theorem Zx7 {d:Option TypeDesc} {v:EV} (h:Zxx d=true->Yc v.v=true):v.v.cells.toList=ZlZ d v:=by
  unfold ZlZ
  cases hb:Zxx d with
  | true=>exact ZwY (h hb)
  | false=>exact ZlY v
theorem Zm4:∀ {l:List Value} {K:Prop},ZCY l K->(∀ u,u∈l->Yc u=true)/\K
  | [],_,h=>⟨fun _ h9=>(by cases h9),h⟩
  | v::vs,K,h=>by
    obtain ⟨h1,h2⟩:=Zm4 h.2
    refine ⟨fun u hu=>?_,h2⟩
    rcases Awr.1 hu with rfl | hu
    ·exact h.1
    ·exact h1 u hu
theorem Zkc (P:Program) (fs:List Field) (hag:Agr n e a) (k:Nat):∀ {ps:List (Nat × Operand)} {l:List (Nat × List Value)},Zll P fs e k ps=some l->(∀ u,u∈Zpf P fs e ps->Yc u=true) ->
    ZDM (fun i=>(fs[i]?).map fun f=>(f.offset,P.cellsOf f.type)) k (ps.map fun x=>(x.1,a.eval x.2)) l
  | [],l,h,_=>by simp only [Zll,Awh] at h;subst h;exact trivial
  | (i,x)::r,l,h,hone=>by
    simp only [Zll] at h
    split at h
    ·rename_i f v l' hf hv hl
     have hone1:Zxx (P.underlying f.type)=true->Yc v.v=true:=fun hb=>hone _ (by unfold Zpf;rw [hf,hv];simp [hb])
     have hone2:∀ u,u∈Zpf P fs e r->Yc u=true:=fun u hu=>hone u (by
       unfold Zpf
       rw [hf,hv]
       dsimp only
       cases Zxx (P.underlying f.type) with
       | true=>exact Aws _ hu
       | false=>exact hu)
     cases h1:Nat.beq (ZlZ (P.underlying f.type) v).length (P.cellsOf f.type) with
     | false=>rw [h1] at h;cases h
     | true =>
       rw [h1] at h
       simp only [cond_true] at h
       cases h2:Nat.ble (f.offset+(ZlZ (P.underlying f.type) v).length) k with
       | false=>rw [h2] at h;cases h
       | true =>
         rw [h2] at h
         simp only [cond_true,Awh] at h
         subst h
         refine ⟨?_,?_,Awt h2,Zkc P fs hag k hl hone2⟩
         ·simp [hf,Awg h1]
         ·simp only [hag.ev hv,Zx7 hone1]
    ·cases h
theorem Zhz (size:Nat) (hag:Agr n e a) (k:Nat):∀ {ps:List (Nat × Operand)} {l:List (Nat × List Value)},ZjP size e k ps=some l ->
    ZDM (fun i=>some (i*size,size)) k (ps.map fun x=>(x.1,a.eval x.2)) l
  | [],l,h=>by simp only [ZjP,Awh] at h;subst h;exact trivial
  | (i,x)::r,l,h=>by
    simp only [ZjP] at h
    split at h
    ·rename_i v l' hv hl
     cases h1:Nat.beq (Zjp v).length size with
     | false=>rw [h1] at h;cases h
     | true =>
       rw [h1] at h
       simp only [cond_true] at h
       cases h2:Nat.ble (i*size+(Zjp v).length) k with
       | false=>rw [h2] at h;cases h
       | true =>
         rw [h2] at h
         simp only [cond_true,Awh] at h
         subst h
         refine ⟨?_,?_,Awt h2,Zhz size hag k hl⟩
         ·simp [Awg h1]
         ·simp only [hag.ev hv,ZlY]
    ·cases h
theorem Zh8 {x:EV} {K:Nat->Nat->Prop} (h:atP x K):∃ b o,x.v = .pointer (some ⟨b,o,none⟩)/\K b o:=by
  unfold atP at h
  split at h
  ·exact ⟨_,_,rfl,h⟩
  ·obtain ⟨b,o,rfl,h⟩:=h;exact ⟨b,o,rfl,h⟩
  ·exact h.elim
theorem Zdo {P:Program} {t:TypeId} {zs:List Value} (h:Zkm P t=some zs):∃ i v,P.info? t=some i/\i.zero=some v/\v.cells.toList=zs:=by
  unfold Zkm at h
  split at h
  ·rename_i i hi
   split at h
   ·rename_i v hv
    simp only [Awh] at h
    exact ⟨i,v,hi,hv,h⟩
   ·cases h
  ·cases h
theorem Ze6 {P:Program} {t:TypeId} {s b:Nat} (h:ZqV P t=some (s,b)):∃ i,P.info? t=some i/\i.size=s/\i.bytes=b:=by
  unfold ZqV at h
  split at h
  ·rename_i i hi
   simp only [Awh,Prod.mk.injEq] at h
   exact ⟨i,hi,h.1,h.2⟩
  ·cases h
theorem Zzd {P:Program} {t:TypeId} {b o:Nat} {v:EV} {K:Zc->Prop} {w:World} (h:stT P t w.heap b o v K) :
    ∃ h',(storeVar t ⟨b,o,none⟩ v.v).run P w = .ok () { w with heap:=h' }/\K h':=by
  have key:∀ (i:TypeInfo) (vs:List Value),P.info? t=some i->i.size=vs.length->v.v.cells=vs.toArray->Zc.free w.heap b o vs.length->vs.all Yc=true ->
      (storeVar t ⟨b,o,none⟩ v.v).run P w = .ok () { w with heap:=Zc.puts w.heap b o vs }:=by
    intro i vs hi hs hc hf ha
    unfold storeVar
    simp only [Awk,XM P w t hi,Awl,hc,hs,List.size_toArray,ne_eq,not_true,if_false]
    have:=Zeh P b o vs 0 w (by simpa using hf) ha
    simpa using this
  have one:ZbV (P.underlying t)=false->Nat.beq (P.cellsOf t) 1=true->(∀ cs,v.v≠ .agg cs)->st w.heap b o v.v K ->
      ∃ h',(storeVar t ⟨b,o,none⟩ v.v).run P w = .ok () { w with heap:=h' }/\K h':=by
    intro hA h1 hne hst
    obtain ⟨⟨u,hu⟩,hf,hone,hk⟩:=hst
    have hsz:=Awg h1
    cases hi:P.info? t with
    | none=>unfold Program.cellsOf at hsz;simp [hi] at hsz
    | some i =>
      rw [ZbW P hi] at hsz
      refine ⟨_,key i [v.v] hi (by simp [hsz]) ?_ ⟨⟨⟨u,hu⟩,hf⟩,trivial⟩ (by simp [hone]),hk⟩
      cases hv:v.v<;>first | rfl | exact absurd hv (hne _)
  unfold stT at h
  split at h
  ·rename_i cs
   cases hA:ZbV (P.underlying t) with
   | false=>rw [hA] at h;exact h.elim
   | true =>
     rw [hA] at h
     simp only [cond_true] at h
     cases h1:Nat.beq cs.toList.length (P.cellsOf t) with
     | false=>rw [h1] at h;exact h.elim
     | true =>
       rw [h1] at h
       obtain ⟨hf,ha,hk⟩:=h
       have hsz:=Awg h1
       cases hi:P.info? t with
       | none =>
         unfold Program.underlying at hA
         simp [hi,ZbV] at hA
       | some i =>
         rw [ZbW P hi] at hsz
         exact ⟨_,key i cs.toList hi hsz.symm rfl hf ha,hk⟩
  ·rename_i v' hne
   cases hA:ZbV (P.underlying t) with
   | true=>rw [hA] at h;exact h.elim
   | false =>
     rw [hA] at h
     simp only [cond_false] at h
     cases h1:Nat.beq (P.cellsOf t) 1 with
     | false=>rw [h1] at h;exact h.elim
     | true =>
       rw [h1] at h
       refine one hA h1 (fun cs hcs=>?_) h
       cases v with
       | val u=>simp only [EV.v] at hcs;subst hcs;exact hne cs rfl
       | lit b=>cases hcs
       | adr b o=>cases hcs
       | itr t b=>cases hcs
       | more k v=>cases hcs
       | over=>cases hcs
theorem Zgy (zs:List Value) (n:Nat):(Zbt zs n).length=n*zs.length:=by
  simp [Zbt]
theorem ZlJ (zs:List Value):∀ (n i:Nat),i<n*zs.length->(Zbt zs n)[i]?=zs[i % zs.length]?
  | 0,i,h=>by omega
  | n+1,i,h=>by
    unfold Zbt
    rw [List.replicate_succ,List.flatten_cons]
    rcases Aqd i zs.length with hi | hi
    ·rw [Awu hi,Awv hi]
    ·rw [Aww hi]
     have:=ZlJ zs n (i - zs.length) (by rw [Awx] at h;omega)
     unfold Zbt at this
     rw [this,Nat.mod_eq_sub_mod hi]
theorem Zir (zs:Array Value) (n m:Nat) (h:m=n*zs.size):((Array.range m).map (zs[· % zs.size]!)).toList=Zbt zs.toList n:=by
  subst h
  apply Awy
  intro i
  simp only [Array.toList_map,Array.toList_range,Awz]
  rcases Aqd i (n*zs.size) with hi | hi
  ·rw [ZlJ _ _ _ (by simpa using hi)]
   have hpos:0<zs.size:=by rcases Aqw zs.size with h0 | h0;· rw [h0] at hi;omega
                           ·exact h0
   have hm:i % zs.size<zs.size:=Nat.mod_lt _ hpos
   simp [hi,hm]
  ·rw [Aqt (by simpa using hi)]
   rw [Aqt (by rw [Zgy];simpa using hi)]
   rfl
end
end Go.Fw
