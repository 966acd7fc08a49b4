/- The reading of a function's code as a condition on memory: what each operation, region and statement asks and leaves. Definitions alone. -/
import Derived.Sort.QuietThIn
import Derived.OrdersHeld
import Derived.Laws.Sem
import Derived.Laws.World
import Derived.RangeFuncLeaves
import Derived.RangeFuncRecord
import Derived.Test.YtonbfpnngkemiaaGreatPa2
set_option linter.unusedVariables false
set_option linter.unusedSimpArgs false
namespace Go.Fw
open Go
inductive Leaf where
  |I (k:IntKind)|B|S|P|L|M|V
abbrev Leaf.D:Leaf->Type
  | .I _=>Int| .B=>Bool| .S=>ByteArray| .P=>Option Addr| .L=>Sl| .M=>Option Nat| .V=>Value
def Leaf.mk:(l:Leaf)->l.D->Value
  | .I k,n=>.int k n| .B,b=>.bool b| .S,s=>.string s| .P,p=>.pointer p| .L,s=>.slice s.ptr s.len s.cap| .M,m=>.map m| .V,v=>v
def Leaf.un:(l:Leaf)->Value->Option l.D
  | .I k,.int a n=>if a=k then some n else none
  | .B,.bool b=>some b
  | .S,.string s=>some s
  | .P,.pointer p=>some p
  | .L,.slice p l c=>some ⟨p,l,c⟩
  | .M,.map m=>some m
  | .V,v=>some v
  |_,_=>none
abbrev Tup:List Leaf->Type
  |[]=>Unit
  |l::ls=>l.D×Tup ls
def Tup.vals:(ls:List Leaf)->Tup ls->List Value
  |[],_=>[]
  |l::ls,t=>l.mk t.1::Tup.vals ls t.2
def Tup.un:(ls:List Leaf)->List Value->Option (Tup ls)
  |[],[]=>some ()
  | l::ls,v::vs=>match l.un v,Tup.un ls vs with
    |some x,some t=>some (x,t)
    |_,_=>none
  |_,_=>none
inductive VT where
  |one (l:Leaf)|agg (ls:List Leaf)|fn (f:FuncId)|clo (f:FuncId) (ls:List Leaf)|yl
abbrev VT.D:VT->Type
  | .one l=>l.D
  | .agg ls=>Tup ls
  | .fn _=>Unit
  | .clo _ ls=>Tup ls
  | .yl=>Nat
abbrev Xf:List VT->Type
  |[]=>Unit
  |v::vs=>v.D×Xf vs
inductive EV where
  |val (v:Value)|lit (b:Bool)|adr (b o:Nat)|itr (t:TypeId) (b:Nat)|more (k v:Value)|over
def EV.v:EV->Value
  | .val v=>v
  | .lit b=>.bool b
  | .adr b o=>.pointer (some ⟨b,o,none⟩)
  | .itr _ b=>.pointer (some ⟨b,0,none⟩)
  | .more k v=>.tuple #[.bool true,k,v]
  | .over=>.tuple #[.bool false]
def VT.ev:(v:VT)->v.D->EV
  | .one l,x=>.val (l.mk x)
  | .agg ls,x=>.val (.agg (Tup.vals ls x).toArray)
  | .fn f,_=>.val (.func (.func f) ⟨[]⟩ ⟨[]⟩)
  | .clo f ls,x=>.val (.func (.func f) ⟨[]⟩ ⟨Tup.vals ls x⟩)
  | .yl,l=>.val (.func (.yield l) ⟨[]⟩ ⟨[]⟩)
def fnU(f:FuncId):EV->Option Unit
  | .val (.func (.func g) ⟨[]⟩ ⟨[]⟩)=>bif Nat.beq f g then some ()else none
  |_=>none
def ZNS(f:FuncId)(ls:List Leaf):EV->Option (Tup ls)
  | .val (.func (.func g) ⟨[]⟩ ⟨cs⟩)=>bif Nat.beq f g then Tup.un ls cs else none
  |_=>none
def ylU:EV->Option Nat
  | .val (.func (.yield l) ⟨[]⟩ ⟨[]⟩)=>some l
  |_=>none
def VT.un:(v:VT)->EV->Option v.D
  | .one l,e=>l.un e.v
  | .agg ls,.val (.agg cs)=>Tup.un ls cs.toList
  | .agg _,_=>none
  | .fn f,e=>fnU f e
  | .clo f ls,e=>ZNS f ls e
  | .yl,e=>ylU e
def Xf.evs:(vs:List VT)->Xf vs->List EV
  |[],_=>[]
  |v::vs,t=>v.ev t.1::Xf.evs vs t.2
def Xf.un:(vs:List VT)->List EV->Option (Xf vs)
  |[],[]=>some ()
  | v::vs,e::es=>match v.un e,Xf.un vs es with
    |some x,some t=>some (x,t)
    |_,_=>none
  |_,_=>none
def ZgO:List EV->EV
  |[e]=>e
  |es=>.val (.tuple (es.map EV.v).toArray)
structure Zh where
  args:List VT
  res:List VT
  sem:Xf args->(Xf res->Zf->Prop)->(Value->Zf->Prop)->Zf->Prop
structure ZcB where
  caps:List VT
  sem:Yld->Nat->Xf caps->(Zf->Prop)->Zf->Prop
inductive Mark where
  |no|at_ (D:Nat)|raw (ds:List Deferred)
def Mark.isNo:Mark->Bool
  | .no=>true
  |_=>false
structure Env where
  f:Nat->Option EV
  mD:Mark
instance:CoeFun Env (λ_=>Nat->Option EV):=⟨Env.f⟩
def Env.set(e:Env)(d:Nat)(v:EV):Env:=⟨λj=>bif Nat.beq j d then some v else e.f j,e.mD⟩
def Env.ev(e:Env):Operand->Option EV
  | .tmp t=>e.f t
  | .const (.bool b)=>some (.lit b)
  | .const v=>some (.val v)
  | .global g=>some (.adr g 0)
  | .func f=>some (.val (.func (.func f) #[] #[]))
structure Cfg where
  P:Program
  calls:List (FuncId×Zh)
  n:Nat
  ext:List FuncId
  dyn:List (String×TypeId×FuncId)
  iters:List (FuncId×ZcB)
  rnd:Option Nat
  pan:Value->Zf->Prop
  yld:Yld
  fns:List (FuncId×List Leaf)
  adds:List FuncId
def Zke(P:Program)(calls:List (FuncId×Zh))(n:Nat)(ext:List FuncId)(dyn:List (String×TypeId×FuncId))(iters:List (FuncId×ZcB))(yld:Yld)(fns:List (FuncId×List Leaf):=[])(adds:List FuncId:=[]):Cfg:=
  ⟨P,calls,n,ext,dyn,iters,none,λ_ _=>False,yld,fns,adds⟩
def ZlR:Yld:=λ_ _ _ _=>False
structure ZBS where
  s:Zh
  t:Xf s.args
def Zoo(f:FuncId)(es:List EV):List (FuncId×Zh)->Option ZBS
  |[]=>none
  | (g,s)::r=>bif Nat.beq f g then(match Xf.un s.args es with
    |some t=>some ⟨s,t⟩
    |none=>Zoo f es r)else Zoo f es r
structure ZyC where
  s:ZcB
  t:Xf s.caps
def Zvm(f:FuncId)(es:List EV):List (FuncId×ZcB)->Option ZyC
  |[]=>none
  | (g,s)::r=>bif Nat.beq f g then(match Xf.un s.caps es with
    |some t=>some ⟨s,t⟩
    |none=>Zvm f es r)else Zvm f es r
structure ZqQ where
  a0:VT
  rest:List VT
  res:List VT
  sem:Xf (a0::rest)->(Xf res->Zf->Prop)->(Value->Zf->Prop)->Zf->Prop
  t:Xf rest
def Zon(f:FuncId)(es:List EV):List (FuncId×Zh)->Option ZqQ
  |[]=>none
  | (g,⟨a0::rest,res,sem⟩)::r=>bif Nat.beq f g then(match Xf.un rest es with
    |some t=>some ⟨a0,rest,res,sem,t⟩
    |none=>Zon f es r)else Zon f es r
  |(_,⟨[],_,_⟩)::r=>Zon f es r
def ZEC(calls:List (FuncId×Zh))(a:Value->Zf->Prop)(name:String)(v:Value)(es:List EV)(h:Zf)(K:EV->Zf->Prop):List (String×TypeId×FuncId)->Prop
  |[]=>False
  | (n,t,f)::r=>bif n==name then(match Zon f es calls with
    |some p=>exG v (λx:p.a0.D=>.iface t (p.a0.ev x).v) (λx=>p.sem (x,p.t) (λb h'=>K (ZgO (Xf.evs p.res b)) h') a h)\/ZEC calls a name v es h K r
    |none=>ZEC calls a name v es h K r)else ZEC calls a name v es h K r
def ZyX(es:List EV)(cs:List Value):List EV:=es++cs.map EV.val
def fnP(calls:List (FuncId×Zh))(a:Value->Zf->Prop)(v:Value)(es:List EV)(h:Zf)(K:EV->Zf->Prop):List (FuncId×List Leaf)->Prop
  |[]=>False
  | (f,[])::r=>match Zoo f es calls with
    |some ⟨s,t⟩=>ZE7 v f (s.sem t (λb h'=>K (ZgO (Xf.evs s.res b)) h') a h)\/fnP calls a v es h K r
    |none=>fnP calls a v es h K r
  | (f,l::ls)::r=>exG v (λc:Tup (l::ls)=>.func (.func f) ⟨[]⟩ ⟨Tup.vals (l::ls) c⟩) (λc=>match Zoo f (ZyX es (Tup.vals (l::ls) c)) calls with
    |some ⟨s,t⟩=>s.sem t (λb h'=>K (ZgO (Xf.evs s.res b)) h') a h
    |none=>False)\/fnP calls a v es h K r
def ZGa(t:Nat):List (FuncId×List Leaf)->Bool
  |[]=>false
  |(f,_)::r=>bif Nat.beq f (1000000+t)then true else ZGa t r
def ZNE(l:List (FuncId×List Leaf)):Operand->List (FuncId×List Leaf)
  | .tmp t=>bif ZGa t l then []else l
  |_=>[]
def ZBJ(f:FuncId):List FuncId->Bool
  |[]=>false
  |g::r=>bif Nat.beq f g then true else ZBJ f r
def evs(e:Env):List Operand->Option (List EV)
  |[]=>some []
  | x::xs=>match e.ev x,evs e xs with
    |some v,some vs=>some (v::vs)
    |_,_=>none
def ZBQ(op:BinOp)(x y:EV)(K:EV->Prop):Prop:=
  match x,y with
  | .val (.int k a),.val (.int c b)=>
    match op with
    | .shl=>Zu (0<=b) (K (.val (.int k (ZBt k a b))))
    | .shr=>Zu (0<=b) (K (.val (.int k (ZkW k a b))))
    | _=>if k=c then
       match op with
       | .add=>K (.val (.int k (k.wrap (a+b))))
       | .sub=>K (.val (.int k (k.wrap (a- b))))
       | .mul=>K (.val (.int k (k.wrap (a*b))))
       | .quo=>Zu (b≠0) (K (.val (.int k (k.wrap (a.tdiv b)))))
       | .rem=>Zu (b≠0) (K (.val (.int k (a.tmod b))))
       | .and=>K (.val (.int k (ZyY k a b)))
       | .or=>K (.val (.int k (orV k a b)))
       | .xor=>K (.val (.int k (ZAh k a b)))
       | .andNot=>K (.val (.int k (ZNV k a b)))
       | .eql=>K (.val (.bool (a==b)))
       | .neq=>K (.val (.bool (a !=b)))
       | .lss=>K (.val (.bool (decide (a<b))))
       | .leq=>K (.val (.bool (decide (a<=b))))
       | .gtr=>K (.val (.bool (decide (a>b))))
       | .geq=>K (.val (.bool (decide (a>=b))))
       |_=>False
      else False
  | .val (.string a),.val (.string b)=>
    match op with
    | .add=>ZRh a b λs=>K (.val (.string s))
    | .eql=>K (.val (.bool (Yr a b)))
    | .neq=>K (.val (.bool (!Yr a b)))
    | .lss=>K (.val (.bool (Op.bytesLess a.toList b.toList)))
    | .leq=>K (.val (.bool (Op.bytesLess a.toList b.toList||Yr a b)))
    | .gtr=>K (.val (.bool (!(Op.bytesLess a.toList b.toList||Yr a b))))
    | .geq=>K (.val (.bool (!Op.bytesLess a.toList b.toList)))
    |_=>False
  |_,_=>False
def eqP(t:Option TypeDesc)(neg:Bool)(x y:EV)(K:EV->Prop):Prop:=
  match t,x,y with
  |some (.pointer _),.adr _ _,.val (.pointer none)=>K (.lit neg)
  |some (.pointer _),.val (.pointer p),.val (.pointer none)=>K (.val (.bool (bif neg then p.isSome else p.isNone)))
  |some (.slice _),.val (.slice p _ _),.val (.slice none _ _)=>K (.val (.bool (bif neg then p.isSome else p.isNone)))
  |some (.map _ _),.val (.map p),.val (.map none)=>K (.val (.bool (bif neg then p.isSome else p.isNone)))
  | some .bool,x,y=>
    match x.v,y.v with
    | .bool a,.bool b=>K (.val (.bool (bif neg then a !=b else a==b)))
    |_,_=>False
  |_,_,_=>False
def Znv(d:Option TypeDesc)(h:Zf)(b o:Nat)(K:EV->Prop):Prop:=
  match d with
  |some (.int k)=>ldI h b o k λx=>K (.val (.int k x))
  |some .bool=>ldB h b o λx=>K (.val (.bool x))
  |some .string=>ldS h b o λx=>K (.val (.string x))
  |some (.pointer _)=>ldP h b o λx=>K (.val (.pointer x))
  |some (.slice _)=>ldL h b o λx=>K (.val (.slice x.ptr x.len x.cap))
  |some (.map _ _)=>ldM h b o λx=>K (.val (.map x))
  |some (.struct _)|some (.array _ _)|none=>False
  |some _=>ldV h b o λx=>K (.val x)
def ZgD(P:Program):Nat->TypeId->List (Option TypeDesc)
  | 0,_=>[none]
  | d+1,t=>match P.underlying t with
    |some (.struct fs)=>fs.toList.flatMap λf=>ZgD P d f.type
    |some (.array n e)=>(List.replicate n (ZgD P d e)).flatten
    |x=>[x]
def ZHa(o i:Nat):Nat:=bif Nat.beq i 0 then o else o+i
def ZAN(h:Zf)(b o:Nat):Nat->List (Option TypeDesc)->(List Value->Prop)->Prop
  |_,[],K=>K []
  |i,d::a,K=>Znv d h b (ZHa o i) λv=>ZAN h b o (i+1) a λvs=>K (v.v::vs)
def ZbY:Option TypeDesc->Bool
  |some (.struct _)|some (.array _ _)=>true
  |_=>false
def ldT(P:Program)(t:TypeId)(h:Zf)(b o:Nat)(K:EV->Prop):Prop:=
  bif ZbY (P.underlying t)then
    (bif Nat.beq (ZgD P 8 t).length (P.cellsOf t)then ZAN h b o 0 (ZgD P 8 t) λvs=>K (.val (.agg vs.toArray))else False)
  else Znv (P.underlying t) h b o K
def atP(x:EV)(K:Nat->Nat->Prop):Prop:=
  match x with
  | .adr b o=>K b o
  | .val (.pointer p)=>Ze p K
  |_=>False
def stT(P:Program)(t:TypeId)(h:Zf)(b o:Nat)(v:EV)(K:Zf->Prop):Prop:=
  match v with
  | .val (.agg cs)=>bif ZbY (P.underlying t)then(bif Nat.beq cs.toList.length (P.cellsOf t)then sts h b o cs.toList K else False)else False
  |v=>bif ZbY (P.underlying t)then False else(bif Nat.beq (P.cellsOf t) 1 then st h b o v.v K else False)
def Zlk:EV->List Value
  | .val (.agg cs)=>cs.toList
  |v=>[v.v]
def ZxL:Option TypeDesc->Bool
  |some (.int _)|some .bool|some .string|some (.pointer _)|some (.slice _)|some (.map _ _)|some (.struct _)|some (.array _ _)|none=>false
  |some _=>true
def ZnY(d:Option TypeDesc)(v:EV):List Value:=bif ZxL d then [v.v]else Zlk v
def Zq6(P:Program)(fs:List Field)(e:Env):List (Nat×Operand)->List Value
  |[]=>[]
  | (i,x)::r=>match fs[i]?,e.ev x with
    |some f,some v=>bif ZxL (P.underlying f.type)then v.v::Zq6 P fs e r else Zq6 P fs e r
    |_,_=>Zq6 P fs e r
def ZDT:List Value->Prop->Prop
  |[],K=>K
  |v::vs,K=>Zu (Zr v=true) (ZDT vs K)
def ZgT:List Value->List (Nat×List Value)->List Value
  |cs,[]=>cs
  |cs,(o,vs)::r=>ZgT (cs.take o++vs++cs.drop (o+vs.length)) r
def Zne(P:Program)(fs:List Field)(e:Env)(n:Nat):List (Nat×Operand)->Option (List (Nat×List Value))
  |[]=>some []
  | (i,x)::r=>match fs[i]?,e.ev x,Zne P fs e n r with
    |some f,some v,some l=>bif Nat.beq (ZnY (P.underlying f.type) v).length (P.cellsOf f.type)then(bif Nat.ble (f.offset+(ZnY (P.underlying f.type) v).length) n then some ((f.offset,ZnY (P.underlying f.type) v)::l)else none)else none
    |_,_,_=>none
def ZlO(size:Nat)(e:Env)(n:Nat):List (Nat×Operand)->Option (List (Nat×List Value))
  |[]=>some []
  | (i,x)::r=>match e.ev x,ZlO size e n r with
    |some v,some l=>bif Nat.beq (Zlk v).length size then(bif Nat.ble (i*size+(Zlk v).length) n then some ((i*size,Zlk v)::l)else none)else none
    |_,_=>none
def Zmp(P:Program)(t:TypeId):Option (List Value):=match P.info? t with
  | some i=>match i.zero with
    |some v=>some v.cells.toList
    |none=>none
  |none=>none
def Zrb(P:Program)(t:TypeId):Option (Nat×Nat):=match P.info? t with
  |some i=>some (i.size,i.bytes)
  |none=>none
def Zxj(d:Int):Option (Option EV)->Option Int
  |none=>some d
  |some (some (.val (.int _ n)))=>some n
  |_=>none
def Zll:Nat:=16777216
def ZxI:TypeDesc->Value->Bool
  | .int k,.int a _=>if k=a then true else false
  | .string,.string _=>true
  | .bool,.bool _=>true
  |_,_=>false
def Zov:Option TypeDesc->Bool
  |some (.int _)|some .string|some .bool=>true
  |_=>false
def ZjM(P:Program):List Field->Nat->Bool
  |[],_=>true
  |f::fs,i=>bif f.name== "_" then false else bif Nat.beq f.offset i&&Zov (P.underlying f.type)then ZjM P fs (i+1)else false
def ZjN(P:Program)(fs:List Field):List TypeDesc:=fs.map λf=>(P.underlying f.type).getD .bool
def ZxH:List TypeDesc->List Value->Bool
  |[],[]=>true
  |d::a,v::vs=>bif ZxI d v then ZxH a vs else false
  |_,_=>false
def ZAX(P:Program)(kt:TypeId)(fs:Array Field)(cs:List Value):Bool:=
  bif P.stoodInHeld kt then false else bif ZjM P fs.toList 0 then ZxH (ZjN P fs.toList) cs else false
def ZAY(P:Program)(n:Nat)(e:TypeId)(cs:List Value):Bool:=
  bif Nat.beq n 2 then(bif Zov (P.underlying e)then(match P.info? e with
    |some i=>bif Nat.beq i.size 1 then ZxH [(P.underlying e).getD .bool,(P.underlying e).getD .bool] cs else false
    |none=>false)else false)else false
def Zs1(P:Program)(kt:TypeId)(d:TypeDesc)(h:Zf)(m:Option Nat)(k:Value)(K:Option Value->Prop):Prop:=
  match d,k with
  | .struct fs,.agg cs=>bif ZAX P kt fs cs.toList then Za1 (ZjN P fs.toList) h m cs.toList K else False
  | .array n e,.agg cs=>bif ZAY P n e cs.toList then Za1 [(P.underlying e).getD .bool,(P.underlying e).getD .bool] h m cs.toList K else False
  |d,k=>bif ZxI d k then Zcm d h m k K else False
def Zqm(P:Program)(kt:TypeId)(d:TypeDesc)(h:Zf)(m:Option Nat)(k v:Value)(K:Zf->Prop):Prop:=
  match d,k with
  | .struct fs,.agg cs=>bif ZAX P kt fs cs.toList then ZhH (ZjN P fs.toList) h m cs.toList v K else False
  | .array n e,.agg cs=>bif ZAY P n e cs.toList then ZhH [(P.underlying e).getD .bool,(P.underlying e).getD .bool] h m cs.toList v K else False
  |d,k=>bif ZxI d k then Zcl d h m k v K else False
def Zuq(d:Option TypeDesc)(v:Value)(K:EV->Prop):Prop:=
  match d with
  |some (.int k)=>asI v k λx=>K (.val (.int k x))
  |some .bool=>asB v λx=>K (.val (.bool x))
  |some .string=>asS v λx=>K (.val (.string x))
  |some (.pointer _)=>asP v λx=>K (.val (.pointer x))
  |some (.slice _)=>asL v λx=>K (.val (.slice x.ptr x.len x.cap))
  |some (.map _ _)=>asM v λx=>K (.val (.map x))
  |some (.struct _)|some (.array _ _)|none=>False
  |some _=>K (.val v)
def ZGF:Option TypeDesc->Leaf
  |some (.int k)=>.I k|some .bool=>.B|some .string=>.S|some (.pointer _)=>.P|some (.slice _)=>.L|some (.map _ _)=>.M|_=>.V
def ZFb(P:Program)(t:TypeId)(v:Value)(K:EV->Prop):Prop:=
  bif ZbY (P.underlying t)then exG v (λr:Tup ((ZgD P 8 t).map ZGF)=>.agg (Tup.vals _ r).toArray) (λr=>K (.val (.agg (Tup.vals _ r).toArray)))
  else Zuq (P.underlying t) v K
def ZDf(P:Program)(t:TypeId):Option Value:=match P.info? t with
  |some i=>i.zero
  |none=>none
def Ziy:Option TypeDesc->Bool
  |some (.interface _)=>true
  |none=>true
  |_=>false
def Zki(P:Program)(ts:Array TypeId):Bool:=match ts[0]? with
  | some t=>match P.underlying t with
    |some (.map _ _)=>true
    |_=>false
  |none=>false
def Zoz(c:Cfg)(o:Op)(ρ:Env)(h:Zf)(K:EV->Zf->Prop):Prop:=
  match o with
  | .call ⟨.builtin .len,args,ts⟩=>
    match ts[0]?,evs ρ args.toList with
    | some t,some [v]=>match c.P.underlying t,v with
      |some .string,.val (.string s)=>K (.val (.int .i64 s.size)) h
      |some (.slice _),.val (.slice _ n _)=>K (.val (.int .i64 n)) h
      |some (.array n _),_=>K (.val (.int .i64 n)) h
      |some (.map _ _),.val (.map m)=>ZGE h m λn=>K (.val (.int .i64 n)) h
      |_,_=>False
    |_,_=>False
  | .call ⟨.builtin .cap,args,ts⟩=>
    match ts[0]?,evs ρ args.toList with
    | some t,some [v]=>match c.P.underlying t,v with
      |some (.slice _),.val (.slice _ _ n)=>K (.val (.int .i64 n)) h
      |_,_=>False
    |_,_=>False
  | .call ⟨.builtin .min,args,_⟩=>
    match evs ρ args.toList with
    |some [.val (.int k x),.val (.int _ y)]=>K (.val (.int k (Zo2 x y))) h
    |_=>False
  | .call ⟨.builtin .max,args,_⟩=>
    match evs ρ args.toList with
    |some [.val (.int k x),.val (.int _ y)]=>K (.val (.int k (Zid x y))) h
    |_=>False
  | .call ⟨.builtin .append,args,ts⟩=>
    match ts[0]?,(match ts[1]? with|none=>false|some t=>match c.P.underlying t with|some (.int _)=>true|some _=>false|none=>true)with
    | some t,false=>match c.P.underlying t with
      | some (.slice e)=>match Zrb c.P e,Zmp c.P e,evs ρ args.toList with
        | some (size,bytes),some zs,some [.val (.slice p n m),.val (.slice g a i)]=>
          rdS ⟨g,a,i⟩ size h λnew=>app e size bytes zs ⟨p,n,m⟩ a new h λs h'=>K (.val (.slice s.ptr s.len s.cap)) h'
        | some (size,bytes),some zs,some [.val (.slice p n m),.val (.string s)]=>
          app e size bytes zs ⟨p,n,m⟩ s.size (Zfa s) h λs h'=>K (.val (.slice s.ptr s.len s.cap)) h'
        |_,_,_=>False
      |_=>False
    |_,_=>False
  | .call ⟨.value x,args,_⟩=>
    match ZNE c.fns x with
    | f::r=>(match ρ.ev x,evs ρ args.toList with
      |some v,some es=>fnP c.calls c.pan v.v es h K (f::r)
      |_,_=>False)
    |[]=>
    match ρ.ev x with
    | some (.val (.func (.func f) ⟨[]⟩ ⟨cs⟩))=>
      match evs ρ args.toList with
      | some es=>match Zoo f (ZyX es cs) c.calls with
        |some ⟨s,t⟩=>s.sem t (λr h'=>K (ZgO (Xf.evs s.res r)) h') c.pan h
        | none=>bif ZBJ f c.ext then(match ZyX es cs with
          |[x]=>ZBN x.v h λv h'=>K (.val v) h'
          |_=>False)else bif ZBJ f c.adds then(match ZyX es cs with
          |[.val (.int .u64 x),.val (.int .u64 y),.val (.int .u64 z)]=>Zu (z.toNat<=1) (K (.val (.tuple #[.int .u64 (Zr3 x y z),.int .u64 (ZrS x y z)])) h)
          |_=>False)else False
      |none=>False
    | some (.val (.func (.yield l) ⟨[]⟩ ⟨[]⟩))=>
      match evs ρ args.toList with
      |some es=>c.yld l (es.map EV.v) (λb h'=>K (.val (.bool b)) h') h
      |none=>False
    |_=>False
  | .call ⟨.builtin .delete,args,ts⟩=>
    match ts[0]?,evs ρ args.toList with
    | some t,some [.val (.map m),k]=>match c.P.underlying t with
      | some (.map kt _)=>match c.P.underlying kt with
        |some d=>bif ZxI d k.v then Znp d h m k.v λh'=>K (.val (.tuple #[])) h' else False
        |none=>False
      |_=>False
    |_,_=>False
  | .call ⟨.invoke x name,args,_⟩=>
    match ρ.ev x,evs ρ args.toList with
    |some v,some es=>ZEC c.calls c.pan name v.v es h K c.dyn
    |_,_=>False
  | .call ⟨.builtin .clear,args,ts⟩=>
    match ts[0]?,evs ρ args.toList with
    | some t,some [.val (.map m)]=>match c.P.underlying t with
      |some (.map _ _)=>ZOs h m λh'=>K (.val (.tuple #[])) h'
      |_=>False
    | some t,some [.val (.slice p l m)]=>match c.P.underlying t with
      | some (.slice e)=>match Zmp c.P e with
        |some zs=>ZGZ ⟨p,l,m⟩ zs h λh'=>K (.val (.tuple #[])) h'
        |none=>False
      |_=>False
    |_,_=>False
  |_=>False
def ZiX(d:Option TypeDesc)(x y:Value):Option Bool:=
  match d,x,y with
  |some (.int _),.int k a,.int c b=>if k=c then some (a==b)else none
  |some .string,.string a,.string b=>some (Yr a b)
  |some .bool,.bool a,.bool b=>some (a==b)
  |_,_,_=>none
def Zhg(P:Program):List Field->List Value->List Value->Option Bool
  |[],_,_=>some true
  | f::fs,xs,ys=>
    bif f.name== "_" then none else
    match xs[f.offset]?,ys[f.offset]? with
    | some x,some y=>match ZiX (P.underlying f.type) x y,Zhg P fs xs ys with
      |some a,some r=>some (bif a then r else false)
      |_,_=>none
    |_,_=>none
def ZgI(P:Program):List Field->List Value->List Value->Option Bool
  |[],_,_=>some true
  | f::fs,xs,ys=>
    bif f.name== "_" then none else
    match P.underlying f.type with
    | some (.struct gs)=>
      bif P.stoodInHeld f.type then none else
      bif Nat.ble (f.offset+P.cellsOf f.type) xs.length&&Nat.ble (f.offset+P.cellsOf f.type) ys.length then
        match Zhg P gs.toList ((xs.drop f.offset).take (P.cellsOf f.type)) ((ys.drop f.offset).take (P.cellsOf f.type)),ZgI P fs xs ys with
        |some a,some r=>some (bif a then r else false)
        |_,_=>none
      else none
    | u=>match xs[f.offset]?,ys[f.offset]? with
      | some x,some y=>match ZiX u x y,ZgI P fs xs ys with
        |some a,some r=>some (bif a then r else false)
        |_,_=>none
      |_,_=>none
def eqS(P:Program)(t:TypeId)(fs:Array Field)(x y:EV)(K:Bool->Prop):Prop:=
  match x,y with
  | .val (.agg xs),.val (.agg ys)=>bif P.stoodInHeld t||P.eqGuardType P.depth t then False else
    match ZgI P fs.toList xs.toList ys.toList with
    |some b=>K b
    |none=>False
  |_,_=>False
def opP(c:Cfg)(o:Op)(ρ:Env)(h:Zf)(K:EV->Zf->Prop):Prop:=
  match o with
  | .move x=>match ρ.ev x with
    |some v=>K v h
    |none=>False
  | .assign x=>match ρ.ev x with
    |some (.val (.int k n))=>Zc n λn=>K (.val (.int k n)) h
    |some (.val (.bool b))=>Zq b λb=>K (.val (.bool b)) h
    |some v=>K v h
    |none=>False
  | .pick x a b=>match ρ.ev x,ρ.ev a,ρ.ev b with
    |some (.lit true),some a,_=>K a h
    |some (.lit false),_,some b=>K b h
    | some (.val (.bool x)),some a,some b=>match a.v,b.v with
      | .bool a,.bool b=>K (.val (.bool (bif x then a else b))) h
      |_,_=>False
    |_,_,_=>False
  | .alloc e=>match Zmp c.P e with
    |some zs=>newC h zs e λb h'=>K (.adr b 0) h'
    |none=>False
  | .box e x=>match ρ.ev x with
    |some v=>bif ZxL (c.P.underlying e)then Zu (Zr v.v=true) (newC h [v.v] e λb h'=>K (.adr b 0) h')else newC h (Zlk v) e λb h'=>K (.adr b 0) h'
    |none=>False
  | .build t parts=>match c.P.underlying t,Zmp c.P t with
    | some (.struct fs),some zs=>match Zne c.P fs.toList ρ zs.length parts.toList with
      |some l=>bif fs.toList.all λf=>(c.P.info? f.type).isSome then ZDT (Zq6 c.P fs.toList ρ parts.toList) (K (.val (.agg (ZgT zs l).toArray)) h)else False
      |none=>False
    | some (.array _ e),some zs=>match ZlO (c.P.cellsOf e) ρ zs.length parts.toList with
      |some l=>bif (c.P.info? e).isSome then K (.val (.agg (ZgT zs l).toArray)) h else False
      |none=>False
    |_,_=>False
  | .buildSlice t n parts=>match c.P.underlying t with
    | some (.slice e)=>match Zmp c.P e,ZlO (c.P.cellsOf e) ρ (n*c.P.cellsOf e) parts.toList with
      | some zs,some l=>bif Nat.ble (n*c.P.cellsOf e) Zll then
          (bif Nat.beq zs.length (c.P.cellsOf e)then
            newC h (ZgT (XI zs n) l) e λb h'=>K (.val (.slice (some ⟨b,0,none⟩) n n)) h' else False)else False
      |_,_=>False
    |_=>False
  | .load t a=>match ρ.ev a with
    |some x=>atP x λb o=>ldT c.P t h b o λv=>K v h
    |none=>False
  | .store t a x=>match ρ.ev a,ρ.ev x with
    |some a,some x=>atP a λb o=>stT c.P t h b o x λh'=>K (.val undef) h'
    |_,_=>False
  | .nilCheck x=>match ρ.ev x with
    |some x=>atP x λb o=>K (.adr b o) h
    |none=>False
  | .binOp op t x g _=>match ρ.ev x,ρ.ev g with
    | some x,some y=>match op,c.P.underlying t with
      | .eql,some (.int _)| .eql,some .string=>ZBQ op x y λv=>K v h
      | .neq,some (.int _)| .neq,some .string=>ZBQ op x y λv=>K v h
      | .eql,some (.struct fs)=>eqS c.P t fs x y λb=>K (.val (.bool b)) h
      | .neq,some (.struct fs)=>eqS c.P t fs x y λb=>K (.val (.bool (!b))) h
      | .eql,some (.interface _)=>match g with
        | .const .nilIface=>ZxM x.v λb=>K (.val (.bool b)) h
        |_=>False
      | .neq,some (.interface _)=>match g with
        | .const .nilIface=>ZxM x.v λb=>K (.val (.bool (!b))) h
        |_=>False
      | .eql,some (.func _ _ _)=>match g with
        | .const .nilFunc=>ZxN x.v λb=>K (.val (.bool b)) h
        |_=>False
      | .neq,some (.func _ _ _)=>match g with
        | .const .nilFunc=>ZxN x.v λb=>K (.val (.bool (!b))) h
        |_=>False
      | .eql,d=>eqP d false x y λv=>K v h
      | .neq,d=>eqP d true x y λv=>K v h
      |_,_=>ZBQ op x y λv=>K v h
    |_,_=>False
  | .unOp op _ x=>match op,ρ.ev x with
    | .not,some (.lit b)=>K (.lit (!b)) h
    | .not,some (.val (.bool b))=>K (.val (.bool (!b))) h
    | .neg,some (.val (.int k n))=>K (.val (.int k (k.wrap (0-n)))) h
    |_,_=>False
  | .convert s d x=>match c.P.underlying s,c.P.underlying d,ρ.ev x with
    |some (.int _),some (.int k),some (.val (.int _ n))=>K (.val (.int k (k.wrap n))) h
    |some .string,some .string,some (.val (.string s))=>K (.val (.string s)) h
    | some .string,some (.slice e),some (.val (.string s))=>match c.P.underlying e with
      |some (.int .u8)=>s2b e s h λx h'=>K (.val (.slice x.ptr x.len x.cap)) h'
      |_=>False
    | some (.slice e),some .string,some (.val (.slice p l m))=>match c.P.underlying e with
      |some (.int .u8)=>b2s ⟨p,l,m⟩ h λs=>K (.val (.string s)) h
      |_=>False
    | some (.slice _),some (.slice e),some (.val (.slice p l m))=>match c.P.underlying e with
      |some (.int .u8)=>bif Nat.beq s d then ZNA p h λh'=>K (.val (.slice p l m)) h' else False
      |_=>False
    |_,_,_=>False
  | .makeSlice t l m=>match c.P.underlying t,ρ.ev l,ρ.ev m with
    | some (.slice e),some (.val (.int _ l)),some (.val (.int _ m))=>match Zrb c.P e,Zmp c.P e with
      |some (size,bytes),some zs=>bif Nat.beq zs.length size then mkS e bytes zs l m h λs h'=>K (.val (.slice s.ptr s.len s.cap)) h' else False
      |_,_=>False
    |_,_,_=>False
  | .slice t x lo hi q=>match c.P.underlying t,ρ.ev x with
    | some .string,some (.val (.string s))=>match q,Zxj 0 (lo.map ρ.ev),Zxj s.size (hi.map ρ.ev)with
      |none,some lo,some hi=>ZRa s lo hi λs=>K (.val (.string s)) h
      |_,_,_=>False
    | some (.slice e),some (.val (.slice p l m))=>match Zxj 0 (lo.map ρ.ev),Zxj l (hi.map ρ.ev),Zxj m (q.map ρ.ev),Zrb c.P e with
      |some lo,some up,some most,some (size,_)=>bif hi.isNone&&q.isSome then False else slc p m size lo up most λs=>K (.val (.slice s.ptr s.len s.cap)) h
      |_,_,_,_=>False
    | some (.array n e),some x=>match Zxj 0 (lo.map ρ.ev),Zxj n (hi.map ρ.ev),Zxj n (q.map ρ.ev),Zrb c.P e with
      |some lo,some up,some most,some (size,_)=>bif hi.isNone&&q.isSome then False else atP x λb o=>slc (some ⟨b,o,none⟩) n size lo up most λs=>K (.val (.slice s.ptr s.len s.cap)) h
      |_,_,_,_=>False
    |_,_=>False
  | .fieldAddr s x f=>match c.P.underlying s,ρ.ev x with
    | some (.struct fs),some x=>match fs.toList[f]? with
      |some fd=>bif Nat.beq (c.P.cellsOf fd.type) 0 then False else atP x λb o=>K (.adr b (ZHa o fd.offset)) h
      |none=>False
    |_,_=>False
  | .field s x f=>match c.P.underlying s,ρ.ev x with
    | some (.struct fs),some (.val (.agg cs))=>match fs.toList[f]? with
      | some fd=>bif (c.P.underlying fd.type).isNone then False else bif ZbY (c.P.underlying fd.type)then K (.val (.agg ((cs.toList.drop fd.offset).take (c.P.cellsOf fd.type)).toArray)) h
        else match cs.toList[fd.offset]? with
          |some v=>K (.val v) h
          |none=>False
      |none=>False
    |_,_=>False
  | .indexAddr t x i=>match c.P.underlying t,ρ.ev x,ρ.ev i with
    | some (.slice e),some (.val (.slice p l _)),some (.val (.int _ i))=>match Zrb c.P e with
      |some (size,_)=>YI p l i size λb o=>K (.adr b o) h
      |none=>False
    | some (.array n e),some x,some (.val (.int _ i))=>match Zrb c.P e with
      |some (size,_)=>atP x λb o=>ZND n i λj=>K (.adr b (o+j*size)) h
      |none=>False
    |_,_,_=>False
  | .index t x i=>match c.P.underlying t,ρ.ev x,ρ.ev i with
    |some .string,some (.val (.string s)),some (.val (.int _ i))=>ZEb s i λn=>K (.val (.int .u8 n)) h
    | some (.array n e),some (.val (.agg cs)),some (.val (.int _ i))=>match c.P.underlying e with
      |some (.struct _)=>bif Nat.beq cs.toList.length (n*c.P.cellsOf e)then ZND n i λj=>ZFb c.P e (.agg ⟨(cs.toList.drop (j*c.P.cellsOf e)).take (c.P.cellsOf e)⟩) λv=>K v h else False
      |_=>False
    |_,_,_=>False
  | .extract x i=>match ρ.ev x with
    |some (.more _ _)=>bif Nat.beq i 0 then K (.lit true) h else False
    |some .over=>bif Nat.beq i 0 then K (.lit false) h else False
    | some (.val (.tuple vs))=>match vs.toList[i]? with
      |some v=>K (.val v) h
      |none=>False
    |_=>False
  | .call _=>Zoz c o ρ h K
  | .panic x=>match ρ.ev x with
    |some (.val (.iface t v))=>c.pan (.iface t v) h
    |_=>False
  | .makeFunc (.func f) first caps=>match first.toList,evs ρ caps.toList with
    |[],some es=>K (.val (.func (.func f) ⟨[]⟩ ⟨es.map EV.v⟩)) h
    |_,_=>False
  | .makeMap _ none=>Zdf h λb h'=>K (.val (.map (some b))) h'
  | .lookup t x i ok=>match c.P.underlying t,ρ.ev x,ρ.ev i with
    | some (.map kt et),some (.val (.map m)),some k=>match c.P.underlying kt,ZDf c.P et with
      |some d,some z=>Zs1 c.P kt d h m k.v λr=>ZFb c.P et (r.getD z) λv=>K (bif ok then .val (.tuple #[v.v,.bool r.isSome])else v) h
      |_,_=>False
    |_,_,_=>False
  | .mapUpdate t m k x=>match c.P.underlying t,ρ.ev m,ρ.ev k,ρ.ev x with
    | some (.map kt _),some (.val (.map m)),some k,some x=>match c.P.underlying kt with
      |some d=>Zqm c.P kt d h m k.v x.v λh'=>K (.val undef) h'
      |none=>False
    |_,_,_,_=>False
  | .insert t m k x=>match c.P.underlying t,ρ.ev m,ρ.ev k,ρ.ev x with
    | some (.map kt _),some (.val (.map m)),some k,some x=>match c.P.underlying kt with
      |some d=>Zqm c.P kt d h m k.v x.v λh'=>K (.val undef) h'
      |none=>False
    |_,_,_,_=>False
  | .range t x=>match c.P.underlying t,ρ.ev x with
    |some (.map _ _),some (.val (.map m))=>rgM h m λb h'=>K (.itr t b) h'
    |_,_=>False
  | .next x false=>match ρ.ev x with
    |some (.itr _ b)=>ZDS h b (λk v h'=>K (.more k v) h') (K .over h)
    |_=>False
  | .entry x=>match ρ.ev x with
    | some (.itr t b)=>match c.P.underlying t with
      |some (.map kt et)=>ZNO h b λk v=>ZFb c.P kt k λw=>ZFb c.P et v λA=>K (.val (.tuple #[w.v,A.v])) h
      |_=>False
    |_=>False
  | .makeInterface t x=>match ρ.ev x with
    |some v=>bif Ziy (c.P.underlying t)then False else K (.val (.iface t v.v)) h
    |none=>False
  | .typeAssert x _ t ok=>match ρ.ev x with
    | some v=>bif Ziy (c.P.underlying t)then False else bif ok then(match v with
      | .val (.iface t' u)=>bif Nat.beq t' t then K (.val (.tuple #[u,.bool true])) h else False
      |_=>False)else asT v.v t λy=>Zuq (c.P.underlying t) y λu=>K u h
    |none=>False
  |_=>False
def Zsf(n:Nat)(e:Env)(d:Option Tmp)(v:EV)(K:Env->Prop):Prop:=
  match d with
  |none=>K e
  |some d=>bif Nat.blt d n then K (e.set d v)else False
def opQ(c:Cfg)(o:Oper)(e:Env)(h:Zf)(K:EV->Zf->Prop):Prop:=
  match o.op with
  | .assign x=>bif ZxL (c.P.underlying o.type)then(match e.ev x with
    |some v=>K v h
    |none=>False)else opP c (.assign x) e h K
  |op=>opP c op e h K
def ZGr(c:Cfg)(o:Oper)(e:Env)(h:Zf)(K:Env->Zf->Prop):Prop:=
  opQ c o e h λv h'=>Zsf c.n e o.dst v λa=>K a h'
def ZoN(c:Cfg)(o:Oper)(e:Env)(h:Zf)(K:Env->Zf->Prop):Prop:=
  Zsf c.n e o.dst (.val undef) λa=>K a h
def Xl(ops:List Oper)(j:Nat):Option Tmp:=(ops[j]?).bind (·.dst)
def Zgp(c:Cfg)(one:Oper->Env->Zf->(Env->Zf->Prop)->Prop)(all:List Oper):List Oper->Env->Zf->(Env->Zf->Prop)->Prop
  |[],e,h,K=>K e h
  | o::os,e,h,K=>
    match o.guard with
    |none=>one o e h λa h'=>Zgp c one all os a h' K
    | some (j,want)=>
      match Xl all j with
      |none=>ZoN c o e h λa h'=>Zgp c one all os a h' K
      | some t=>
        match e t with
        | some (.lit b)=>
          match b,want with
          |true,true|false,false=>one o e h λa h'=>Zgp c one all os a h' K
          |true,false|false,true=>ZoN c o e h λa h'=>Zgp c one all os a h' K
        | some (.val (.bool b))=>
          match want with
          |true=>Zl b (one o (e.set t (.lit true)) h λa h'=>Zgp c one all os a h' K) (ZoN c o (e.set t (.lit false)) h λa h'=>Zgp c one all os a h' K)
          |false=>Zl b (ZoN c o (e.set t (.lit true)) h λa h'=>Zgp c one all os a h' K) (one o (e.set t (.lit false)) h λa h'=>Zgp c one all os a h' K)
        |some _=>ZoN c o e h λa h'=>Zgp c one all os a h' K
        |none=>False
def ZtU(c:Cfg)(o:Op)(ρ:Env)(h:Zf)(K:EV->Zf->Prop):Prop:=
  match o with
  | .move _| .assign _| .pick _ _ _| .load _ _| .nilCheck _| .binOp _ _ _ _ _| .unOp _ _ _| .slice _ _ _ _ _| .fieldAddr _ _ _| .field _ _ _| .indexAddr _ _ _| .index _ _ _| .extract _ _| .build _ _| .makeFunc _ _ _=>opP c o ρ h K
  | .convert s d _=>match c.P.underlying s,c.P.underlying d with
    |some (.int _),some (.int _)=>opP c o ρ h K
    |_,_=>False
  | .call ⟨.builtin .len,_,_⟩ | .call ⟨.builtin .cap,_,_⟩ | .call ⟨.builtin .min,_,_⟩ | .call ⟨.builtin .max,_,_⟩=>opP c o ρ h K
  | .call ⟨.value (.func f),args,_⟩=>
    match evs ρ args.toList with
    | some es=>match Zoo f es c.calls with
      |some ⟨s,t⟩=>Zxd (λa h'=>s.sem t a (λ_ _=>False) h') h λr=>K (ZgO (Xf.evs s.res r)) h
      |none=>False
    |none=>False
  |_=>False
def Zxc(c:Cfg)(o:Oper)(e:Env)(h:Zf)(K:Env->Zf->Prop):Prop:=
  ZtU c o.op e h λv h'=>Zsf c.n e o.dst v λa=>K a h'
def ZhY(m i:Nat):Bool:=Nat.beq (Nat.land (Nat.shiftRight m i) 1) 1
def Zp4(m i:Nat):Nat:=Nat.lor m (Nat.shiftLeft 1 i)
def Zpq(m:Nat):List Edge->Bool
  |[]=>true
  |e::es=>bif Region.binds .any e then(bif ZhY m e.on then Zpq m es else false)else Zpq m es
def Zci(m i:Nat)(o:Oper):Bool:=bif ZhY m i then false else Zpq m o.after.toList
def Zk6(m i:Nat):Nat->List Oper->Bool
  |_,[]=>true
  |k,o::os=>bif Nat.beq k i then Zk6 m i (k+1) os else bif Zci m k o then false else Zk6 m i (k+1) os
def ZgM(i:Nat):List Edge->Bool
  |[]=>false
  |e::es=>bif Nat.beq e.on i then(bif Region.binds .any e then true else ZgM i es)else ZgM i es
def Zou(ops:Array Oper)(a:Oper)(m i:Nat):Nat->List Oper->Bool
  |_,[]=>true
  |k,o::os=>bif (bif Nat.beq k i then true else bif ZhY m k then true else bif ZgM i o.after.toList then true else a.apart ops o)then Zou ops a m i (k+1) os else false
def Zxr(m:Nat):Nat->List Oper->Bool
  |_,[]=>true
  |k,o::os=>bif Zci m k o then false else Zxr m (k+1) os
abbrev Zhh:=List (Nat×(Zf->Prop))
def ZrO(o:Oper):Zhh->Zhh
  |[]=>[]
  |x::r=>bif ZgM x.1 o.after.toList then ZrO o r else x::ZrO o r
def ZrB(h:Zf):Zhh->Prop->Prop
  |[],K=>K
  |x::r,K=>x.2 h/\ZrB h r K
def ZoV(m i j:Nat):Nat->List Oper->Bool
  |_,[]=>true
  |k,o::os=>bif Nat.beq k i||Nat.beq k j then ZoV m i j (k+1) os else bif Zci m k o then false else ZoV m i j (k+1) os
def ZrW(b o:Nat):Nat->List Value->List (Nat×Nat×Value)
  |_,[]=>[]
  |i,v::vs=>(b,ZHa o i,v)::ZrW b o (i+1) vs
def ldH(P:Program)(t:TypeId)(h:Zf)(b o:Nat)(K:EV->List (Nat×Nat×Value)->Prop):Prop:=
  bif ZbY (P.underlying t)then
    (bif Nat.beq (ZgD P 8 t).length (P.cellsOf t)then ZAN h b o 0 (ZgD P 8 t) λvs=>K (.val (.agg vs.toArray)) (ZrW b o 0 vs)else False)
  else Znv (P.underlying t) h b o λv=>K v [(b,o,v.v)]
inductive OpK where
  |pure|load (t:TypeId) (x:Operand)|text (x:Operand)|other
def Zgr(c:Cfg):Op->OpK
  | .move _| .assign _| .pick _ _ _| .nilCheck _| .binOp _ _ _ _ _| .unOp _ _ _| .slice _ _ _ _ _| .fieldAddr _ _ _| .field _ _ _| .indexAddr _ _ _| .index _ _ _| .extract _ _| .build _ _| .makeFunc _ _ _=>.pure
  | .convert s d x=>match c.P.underlying s,c.P.underlying d with
    |some (.int _),some (.int _)=>.pure
    | some (.slice e),some .string=>match c.P.underlying e with
      |some (.int .u8)=>.text x
      |_=>.other
    |_,_=>.other
  | .call ⟨.builtin .len,_,ts⟩=>bif Zki c.P ts then .other else .pure
  | .call ⟨.builtin .cap,_,_⟩ | .call ⟨.builtin .min,_,_⟩ | .call ⟨.builtin .max,_,_⟩=>.pure
  | .load t x=>.load t x
  |_=>.other
def ZnG(all:List Oper)(o:Oper)(e:Env)(A B:Env->Prop):Prop:=
  match o.guard with
  |none=>A e
  | some (j,want)=>
    match Xl all j with
    |none=>B e
    | some t=>
      match e t with
      | some (.lit b)=>
        match b,want with
        |true,true|false,false=>A e
        |true,false|false,true=>B e
      | some (.val (.bool b))=>
        match want with
        |true=>Zl b (A (e.set t (.lit true))) (B (e.set t (.lit false)))
        |false=>Zl b (B (e.set t (.lit true))) (A (e.set t (.lit false)))
      |some _=>B e
      |none=>False
def X0:List Nat->List EV->Nat->Option EV
  |s::a,v::vs,j=>bif Nat.beq j s then some v else X0 a vs j
  |_,_,_=>none
def Zry:List (Nat×Nat)->Nat->Bool
  |[],_=>false
  |(lo,hi)::r,j=>bif Nat.ble lo j&&Nat.ble j hi then true else Zry r j
def Zdg:List Nat->Nat->Bool
  |[],_=>false
  |s::a,j=>bif Nat.beq j s then true else Zdg a j
def Zow(a:List Nat)(vs:List EV)(kill:List (Nat×Nat))(e:Env):Env:=⟨λj=>
  match X0 a vs j with
  |some v=>some v
  |none=>bif Zry kill j then none else e.f j,e.mD⟩
def ZrR(L:List Nat):List Edge->List Nat
  |[]=>[]
  |e::es=>bif Region.binds .any e then(bif Zdg L e.on then e.on::ZrR L es else ZrR L es)else ZrR L es
def Znj(d:Nat->Bool):List Nat->Prop->Prop
  |[],K=>K
  |i::is,K=>d i=true->Znj d is K
def ZHR(ops:Array Oper)(L:List Nat)(d:Nat->Bool)(f:Nat->Oper->Prop):List Nat->Prop
  |[]=>True
  | k::ks=>(match ops[k]? with
    |some o=>d k=false->Znj d (ZrR L o.after.toList) (f k o)
    |none=>False)/\ZHR ops L d f ks
def ZjP(m:Nat)(E:List Nat):List Edge->Bool
  |[]=>true
  |e::es=>bif Region.binds .any e then(bif ZhY m e.on then ZjP m E es else bif Zdg E e.on then ZjP m E es else false)else ZjP m E es
def Zq8(ops:Array Oper)(m:Nat):List Nat->List Nat->Bool
  |_,[]=>true
  | E,k::ks=>match ops[k]? with
    |some o=>bif ZhY m k then false else bif Zdg E k then false else bif o.guard.isNone then(bif ZjP m E o.after.toList then Zq8 ops m (k::E) ks else false)else false
    |none=>false
def Zfz(m:Nat)(L:List Nat):List Edge->Bool
  |[]=>false
  |e::es=>bif Region.binds .any e then(bif ZhY m e.on then Zfz m L es else bif Zdg L e.on then Zfz m L es else true)else Zfz m L es
def ZjU(es:List Edge):List Nat->Bool
  |[]=>true
  |k::ks=>bif ZgM k es then ZjU es ks else false
def ZGm(m:Nat)(L:List Nat):Nat->List Oper->Bool
  |_,[]=>true
  |k,o::os=>bif (bif ZhY m k then true else bif Zdg L k then true else bif Zfz m L o.after.toList then true else ZjU o.after.toList L)then ZGm m L (k+1) os else false
def Zqg(j k:Nat):Nat->List Oper->Bool
  |_,[]=>true
  | i,o::os=>bif Nat.beq i k then Zqg j k (i+1) os else match o.dst with
    |some x=>bif Nat.beq x j then false else Zqg j k (i+1) os
    |none=>Zqg j k (i+1) os
def ZsJ(ops:List Oper)(a:List Nat):List Nat->Bool
  |[]=>true
  | k::ks=>match Xl ops k with
    |some j=>bif Zdg a j then(bif Zqg j k 0 ops then ZsJ ops a ks else false)else false
    |none=>ZsJ ops a ks
def Zta(ops:List Oper)(j:Nat):List Nat->Bool
  |[]=>false
  | k::ks=>match Xl ops k with
    |some x=>bif Nat.beq x j then true else Zta ops j ks
    |none=>Zta ops j ks
def ZoL(ops:List Oper)(L:List Nat):List Nat->Bool
  |[]=>true
  |j::a=>bif Zta ops j L then ZoL ops L a else false
def ZEa(ops:Array Oper)(m:Nat)(L:List Nat)(a:List Nat):Bool:=
  bif Zq8 ops m [] L then(bif ZGm m L 0 ops.toList then(bif ZsJ ops.toList a L then ZoL ops.toList L a else false)else false)else false
def Zmn(ops:List Oper)(j:Nat):List Edge->Bool
  |[]=>false
  | e::es=>bif Region.binds .any e then(match Xl ops e.on with
    |some x=>bif Nat.beq x j then true else Zmn ops j es
    |none=>Zmn ops j es)else Zmn ops j es
def eAt(ops:List Oper)(after:List Edge)(a:List Nat)(vs:List EV)(e:Env):Env:=⟨λj=>match X0 a vs j with
  |some v=>bif Zmn ops j after then some v else none
  |none=>bif Zdg a j then none else e.f j,e.mD⟩
def ZBu:List Nat->Nat->EV->List EV->List EV
  |s::a,j,v,x::xs=>bif Nat.beq j s then v::xs else x::ZBu a j v xs
  |_,_,_,xs=>xs
inductive OrdT where
  |done|take (i:Nat) (fr:Bool) (r:OrdT)|fork (i:Nat) (r:OrdT) (j:Nat) (s:OrdT)|inv (L slots:List Nat) (tys:List VT) (r:OrdT)
def OrdT.depth:OrdT->Nat
  | .done=>0
  | .take _ _ r=>r.depth+1
  | .fork _ r _ s=>Nat.max r.depth s.depth+1
  | .inv L _ _ r=>r.depth+L.length
def ZEB(c:Cfg)(ops:Array Oper)(o:Oper)(hd:Zhh)(e:Env)(h:Zf)(rest:Zhh->Env->Zf->Prop):Prop:=
  ZnG ops.toList o e (λe=>opP c o.op e h λv h'=>Zsf c.n e o.dst v λa=>ZrB h' (ZrO o hd) (rest (ZrO o hd) a h'))
   (λe=>Zsf c.n e o.dst (.val undef) λa=>rest hd a h)
def ZGW(c:Cfg)(ops:Array Oper)(o:Oper)(hd:Zhh)(e:Env)(h:Zf)(rest:Zhh->Env->Zf->Prop):Prop:=
  ZnG ops.toList o e (λe=>opP c o.op e h λv _=>Zsf c.n e o.dst v λa=>rest hd a h)
   (λe=>Zsf c.n e o.dst (.val undef) λa=>rest hd a h)
def ZDr(c:Cfg)(ops:Array Oper)(o:Oper)(m i:Nat)(a:Bool):Bool:=
  bif Zci m i o then(match Zgr c o.op with
    | .other=>Zk6 m i 0 ops.toList
    |_=>bif a then Zou ops o m i 0 ops.toList else Zk6 m i 0 ops.toList)else false
def Zqf(c:Cfg)(ops:Array Oper):OrdT->Nat->Bool
  | .done,m=>Zxr m 0 ops.toList
  | .fork i r j s,m=>
    match ops[i]?,ops[j]? with
    |some o,some p=>bif Zci m i o&&(Zci m j p&&ZoV m i j 0 ops.toList)then(bif Zqf c ops r (Zp4 m i)then Zqf c ops s (Zp4 m j)else false)else false
    |_,_=>false
  | .take i b r,m=>
    match ops[i]? with
    |none=>false
    |some o=>bif ZDr c ops o m i b then Zqf c ops r (Zp4 m i)else false
  | .inv L a tys r,m=>bif ZEa ops m L a&&Nat.beq a.length tys.length then Zqf c ops r (L.foldl Zp4 m)else false
def Zqe(c:Cfg)(ops:Array Oper)(K:Env->Zf->Prop):OrdT->Zhh->Env->Zf->Prop
  | .done,_,e,h=>K e h
  | .fork i r j s,hd,e,h=>
    match ops[i]?,ops[j]? with
    |some o,some p=>Zi2 (ZEB c ops o hd e h (Zqe c ops K r)) (ZEB c ops p hd e h (Zqe c ops K s))
    |_,_=>False
  | .inv L a tys r,hd,e,h=>
    ZRd (λI d t h'=>ZHR ops L d (λk o=>opP c o.op (eAt ops.toList o.after.toList a (Xf.evs tys t) e) h' λv h''=>ZrB h'' (ZrO o hd) (match o.dst with
     |none=>I (setB d k) t h''
     | some j=>bif Nat.blt j c.n then(match Xf.un tys (ZBu a j v (Xf.evs tys t))with
       |some t'=>I (setB d k) t' h''
       |none=>False)else False)) L)
     (λd t h'=>Znj d L (ZrB h' hd (Zqe c ops K r hd (Zow a (Xf.evs tys t) [] e) h'))) h
  | .take i g r,hd,e,h=>
    match ops[i]? with
    |none=>False
    | some o =>
      match Zgr c o.op with
      | .pure=>ZGW c ops o hd e h (Zqe c ops K r)
      | .load t x=>bif g then
          ZnG ops.toList o e (λe=>match e.ev x with
           |some y=>atP y λb p=>ldH c.P t h b p λv cells=>Zsf c.n e o.dst v λf=>Zqe c ops K r ((i,λh'=>Zm h' cells)::hd) f h
           |none=>False)
           (λe=>Zsf c.n e o.dst (.val undef) λf=>Zqe c ops K r hd f h)
        else ZGW c ops o hd e h (Zqe c ops K r)
      | .text x=>bif g then
          ZnG ops.toList o e (λe=>match e.ev x with
           |some (.val (.slice p l n))=>b2s ⟨p,l,n⟩ h λs=>Zsf c.n e o.dst (.val (.string s)) λf=>Zqe c ops K r ((i,λh'=>b2s ⟨p,l,n⟩ h' λs'=>s'=s)::hd) f h
           |_=>False)
           (λe=>Zsf c.n e o.dst (.val undef) λf=>Zqe c ops K r hd f h)
        else ZEB c ops o hd e h (Zqe c ops K r)
      | .other=>ZEB c ops o hd e h (Zqe c ops K r)
inductive Ann where
  |leaf
  |seq (a b:Ann)
  |cut (slots:List Nat) (tys:List VT) (kill:List (Nat×Nat)) (a b:Ann)
  |cond (a b:Ann)
  |block (a:Ann)
  |loop (slots:List Nat) (tys:List VT) (kill:List (Nat×Nat)) (a:Ann)
  |order (l:OrdT)
  |range (tys:List VT) (a b:Ann)
inductive Ex where
  |normal|exit (id:Nat)|ret
def Zvk(e:Env):List Nat->Option (List EV)
  |[]=>some []
  | s::a=>match e s,Zvk e a with
    |some v,some vs=>some (v::vs)
    |_,_=>none
def ZsR(a:List Nat)(tys:List VT)(e:Env):Option (Xf tys):=
  match Zvk e a with
  |some es=>Xf.un tys es
  |none=>none
def ZxF(a:List Nat)(tys:List VT)(e:Env)(J:Xf tys->Zf->Prop)(h:Zf):Prop:=
  match ZsR a tys e with
  |some t=>J t h
  |none=>False
def mkN:Nat:=4294967291
def Zf5:Code->List Nat
  | .region _ ops _=>ops.toList.filterMap (·.dst)
  | .seq a b=>Zf5 a++Zf5 b
  | .cond _ a b=>Zf5 a++Zf5 b
  | .block _ a=>Zf5 a
  | .loop a=>Zf5 a
  | .rangeFunc _ _ _ _=>[mkN]
  |_=>[]
def Zug(b:List Nat)(kill:List (Nat×Nat))(a:Code):Bool:=(Zf5 a).all λj=>bif Nat.beq j mkN then false else Zdg b j||Zry kill j
def ZA3(K:Env->Zf->Prop)(Q:Ex->Env->Zf->Prop):Ex->Env->Zf->Prop
  | .normal,e,h=>K e h
  | .exit id,e,h=>Q (.exit id) e h
  | .ret,e,h=>Q .ret e h
def ZBP(id:Nat)(Q:Ex->Env->Zf->Prop):Ex->Env->Zf->Prop
  | .normal,e,h=>Q .normal e h
  | .exit a,e,h=>bif Nat.beq a id then Q .normal e h else Q (.exit a) e h
  | .ret,e,h=>Q .ret e h
def ZoP(n:Nat)(e:Env):List Tmp->List EV->Option Env
  |[],[]=>some e
  |p::a,v::vs=>bif Nat.blt p n then ZoP n (e.set p v) a vs else none
  |_,_=>none
def ZEj(a:Code):Bool:=Zdg (Zf5 a) mkN
def ZxO:Op->Bool
  | .defer _=>true
  |_=>false
def Zk9:List Oper->Bool
  |[]=>true
  |o::os=>bif ZxO o.op then false else Zk9 os
def Ann.fst:Ann->Ann
  | .seq a _| .cut _ _ _ a _| .cond a _| .block a| .loop _ _ _ a| .range _ a _=>a
  | .leaf| .order _=>.leaf
def Ann.snd:Ann->Ann
  | .seq _ b| .cut _ _ _ _ b| .cond _ b| .range _ _ b=>b
  |_=>.leaf
def ZBx(K:Env->Zf->Prop):Ex->Env->Zf->Prop
  | .normal,e,h=>K e h
  |_,_,_=>False
def ZBw(k:Option Code->Zf->Prop):Ex->Env->Zf->Prop
  | .normal,_,h=>k none h
  | .exit id,_,h=>k (some (.exit id)) h
  | .ret,_,h=>k (some .ret) h
def wpC(c:Cfg):Code->Ann->Env->Zf->(Ex->Env->Zf->Prop)->Prop
  | .skip,_,e,h,Q=>Q .normal e h
  | .region _ ops draw,d,e,h,Q=>
    match draw with
    | true=>match d with
      | .order l=>bif Region.noSelect ops&&(Nat.ble l.depth ops.size&&(Zk9 ops.toList&&Zqf c ops l 0))then Zqe c ops (λj h'=>Q .normal j h') l [] e h else False
      |_=>bif c.rnd.isNone&&Region.lexB .any ops then Zgp c (Zxc c) ops.toList ops.toList e h λj h'=>Q .normal j h' else False
    |false=>Zgp c (ZGr c) ops.toList ops.toList e h λj h'=>Q .normal j h'
  | .seq a b,d,e,h,Q=>
    match d with
    | .cut i tys kill x y=>
      bif Zug i kill a then
        Zfb (λt h'=>wpC c b y (Zow i (Xf.evs tys t) kill e) h' Q) (λJ=>wpC c a x e h (ZA3 (λj h'=>ZxF i tys j J h') Q))
      else False
    |d=>wpC c a d.fst e h (ZA3 (λj h'=>wpC c b d.snd j h' Q) Q)
  | .cond x a b,d,e,h,Q=>
    match e.ev x with
    |some (.lit true)=>wpC c a d.fst e h Q
    |some (.lit false)=>wpC c b d.snd e h Q
    |some (.val (.bool v))=>Zl v (wpC c a d.fst e h Q) (wpC c b d.snd e h Q)
    |_=>False
  | .block id a,d,e,h,Q=>wpC c a d.fst e h (ZBP id Q)
  | .loop a,d,e,h,Q=>
    match d with
    | .loop i tys kill x=>
      bif Zug i kill a then
        match ZsR i tys e with
        |some t0=>Yl (λJ t h'=>wpC c a x (Zow i (Xf.evs tys t) kill e) h' (ZA3 (λj h''=>ZxF i tys j J h'') Q)) t0 h
        |none=>False
      else False
    |_=>False
  | .exit id,_,e,h,Q=>Q (.exit id) e h
  | .ret,_,e,h,Q=>Q .ret e h
  | .rangeFunc g m assign body,d,e,h,Q=>
    match d with
    | .range tys x y=>bif c.rnd.isNone&&e.mD.isNo then
      (match e.ev g with
      | some (.val (.func (.func f) ⟨[]⟩ ⟨cs⟩))=>match Zvm f (cs.map EV.val) c.iters with
        | some ⟨s,t⟩=>
          ZoS m.size (λY l K h'=>s.sem Y l t K h')
           (λl r vs h' k=>Zyr (λa:Xf tys=>(Xf.evs tys a).map EV.v) vs λa=>match ZoP c.n ⟨e.f,.no⟩ m.toList (Xf.evs tys a)with
             | some o=>wpC {c with rnd:=some l,pan:=λ_ _=>False} assign x o h' (ZBx λq u=>
                 Ztj r l u λh3=>wpC {c with rnd:=some l,pan:=λ_ _=>False} body y q h3 (ZBw k))
             |none=>False)
           h λp D h'=>Zvy p (Q .normal ⟨e.f,.at_ D⟩ h') (λid=>Q (.exit id) ⟨e.f,.at_ D⟩ h') (Q .ret ⟨e.f,.at_ D⟩ h')
        |none=>False
      |_=>False)
      else False
    |_=>False
  |_,_,_,_,_=>False
def ZyW(c:Cfg)(e:Env)(h:Zf):List ResultVar->(List EV->Prop)->Prop
  |[],K=>K []
  | .tmp t::r,K=>match e.f t with
    |some v=>ZyW c e h r λvs=>K (v::vs)
    |none=>False
  | .cell a t::r,K=>match e.f a with
    |some (.adr b o)=>ldT c.P t h b o λv=>ZyW c e h r λvs=>K (v::vs)
    |_=>False
def Zn3(l:List EV):Env:=⟨λj=>go l 0 j,.no⟩
where go:List EV->Nat->Nat->Option EV
  |[],_,_=>none
  |v::vs,i,j=>bif Nat.beq j i then some v else go vs (i+1) j
def ZE9(c:Cfg)(fn:Func)(a:Ann)(args:List EV)(res:List VT)(K:Xf res->Zf->Prop)(b:Value->Zf->Prop)(h:Zf):Prop:=
  match fn.body with
  | some code=>wpC {c with rnd:=none,pan:=bif ZEj code then λ_ _=>False else b} code a (Zn3 args) h λex e h'=>
    match ex with
    | .exit _=>False
    | _=>match e.mD with
      | .no=>ZyW c e h' fn.results.toList λvs=>match Xf.un res vs with
        |some r=>K r h'
        |none=>False
      | .at_ D=>ZkV D h' λh'=>ZyW c e h' fn.results.toList λvs=>match Xf.un res vs with
        |some r=>K r h'
        |none=>False
      | .raw _=>False
  |none=>False
theorem Zti(w:World)(b o:Nat):w.cell? ⟨b,o,none⟩=Zf.cell w.heap b o:=by
  unfold World.cell? Zf.cell;simp only[Awf,Aqc,if_false]
  cases w.heap[b]? with
  |none=>rfl
  |some x=>cases x<;>rfl
theorem ZEt(w:World)(b o:Nat):w.frozen? ⟨b,o,none⟩=Zf.froz w.heap b o:=by unfold World.frozen? Zf.froz;rfl
theorem Zva(w:World)(b o:Nat)(v:Value):w.setCell ⟨b,o,none⟩ v={w with heap:=Zf.put w.heap b o v}:=by
  unfold World.setCell Zf.put;simp only[Awf,Aqc,if_false];refine congrArg (λf=>({w with heap:=w.heap.modify b f}:World)) ?_
  funext x
  cases x<;>rfl
theorem Zn6(b o n:Nat):(⟨b,o,none⟩:Addr).add n=⟨b,o+n,none⟩:=by
  unfold Addr.add;split
  ·rename_i h;subst h;rfl
  ·rfl
theorem Zto(o i:Nat):ZHa o i=o+i:=by
  unfold ZHa
  cases h:Nat.beq i 0 with
  |false=>rfl
  |true=>have:=Awg h;subst this;rfl
def Same(w w':World):Prop:=w'.tape=w.tape/\w'.os=w.os/\w'.output=w.output
theorem Same.refl(w:World):Same w w:=⟨rfl,rfl,rfl⟩
theorem Same.trans{a b c:World}(h:Same a b)(h':Same b c):Same a c:=⟨h'.1.trans h.1,h'.2.1.trans h.2.1,h'.2.2.trans h.2.2⟩
def ZDU:Mark->List Deferred
  | .no=>[]
  | .at_ D=>[{target:=.collected D,args:= #[]}]
  | .raw a=>a
structure Agr(n:Nat)(e:Env)(a:Act):Prop where
  size:a.tmps.size=n
  defers:a.defers=ZDU e.mD
  val:∀j v,e j=some v->a.tmps[j]?=some v.v
theorem Agr.ev{n:Nat}{e:Env}{a:Act}(h:Agr n e a){x:Operand}{v:EV}(b:e.ev x=some v):a.eval x=v.v:=by
  cases x with
  |tmp t=>have:=h.val t v b;simp[Act.eval,this]
  | const c=>
    cases c<;>simp only[Env.ev,Awh]at b<;>subst b<;>rfl
  |global g=>simp only[Env.ev,Awh]at b;subst b;rfl
  |func f=>simp only[Env.ev,Awh]at b;subst b;rfl
theorem Agr.evs{n:Nat}{e:Env}{a:Act}(h:Agr n e a):∀{xs:List Operand} {vs:List EV},evs e xs=some vs->xs.map a.eval=vs.map EV.v
  |[],vs,b=>by simp only[Fw.evs,Awh]at b;subst b;rfl
  | x::xs,vs,b=>by
    simp only[Fw.evs]at b;split at b
    ·rename_i v c h1 d;simp only[Awh]at b;subst b;simp[h.ev h1,h.evs d]
    ·cases b
theorem Agr.set{n:Nat}{e:Env}{a:Act}(h:Agr n e a){d:Nat}(hd:Nat.blt d n=true)(v:EV):Agr n (e.set d v) (a.put (some d) v.v):=by
  have f:d<n:=by rw[Nat.blt_eq]at hd;exact hd
  refine⟨by simp[Act.put,h.size],by simp[Act.put,h.defers,Env.set],λj u b=>?_⟩;unfold Env.set at b;dsimp only at b
  cases c:Nat.beq j d with
  | true=>
    have:=Awg c;subst this;rw[c]at b;simp only[cond_true,Awh]at b;subst b;simp[Act.put,h.size,f]
  | false=>
    have g:j≠d:=Awi c;rw[c]at b;simp only[cond_false]at b;have:=h.val j u b;simp[Act.put,Awj (Ne.symm g),this]
theorem Agr.tell{n:Nat}{e:Env}{a:Act}(h:Agr n e a){t:Nat}{b:Bool}(f:e t=some (.val (.bool b))):Agr n (e.set t (.lit b)) a:=by
  refine⟨h.size,h.defers,λj u c=>?_⟩;unfold Env.set at c;dsimp only at c
  cases d:Nat.beq j t with
  | true=>
    have:=Awg d;subst this;rw[d]at c;simp only[cond_true,Awh]at c;subst c;have:=h.val j _ f;exact this
  | false=>
    rw[d]at c;exact h.val j u c
theorem ZdM{n:Nat}{e:Env}{a:Act}(h:Agr n e a){d:Option Tmp}{v:EV}{K:Env->Prop}(b:Zsf n e d v K):
    ∃f,Agr n f (a.put d v.v)/\K f:=by
  unfold Zsf at b
  cases d with
  |none=>exact⟨e,h,b⟩
  | some d=>
    simp only at b
    cases c:Nat.blt d n with
    |false=>rw[c]at b;exact b.elim
    |true=>rw[c]at b;exact⟨_,h.set c v,b⟩
section
variable(P:Program)(w:World)
theorem Zin{b o:Nat}{v:Value}(h:Zf.cell w.heap b o=some v)(m:Mode):(load ⟨b,o,none⟩ m).run P w= .ok v w:=by rw[run_load,Zti,h]
theorem Zol{b o:Nat}{u v:Value}(h:Zf.cell w.heap b o=some u)(c:Zf.froz w.heap b o=false)(hv:Zr v=true)(m:Mode):
    (store ⟨b,o,none⟩ v m).run P w= .ok () {w with heap:=Zf.put w.heap b o v}:=by
  have a:v.oneCell'=true:=by cases v<;>first|rfl|(simp[Zr]at hv)
  rw[run_store P w _ v m a,Zti,h,ZEt,c];simp only[Aqc,if_false,Zva]
theorem Zk(t:TypeId){d:TypeDesc}(h:P.underlying t=some d):(underlying t).run P w= .ok d w:=by unfold underlying;simp[h]
theorem Zbu(t:TypeId){i:TypeInfo}(h:P.info? t=some i):(typeInfo t).run P w= .ok i w:=by unfold typeInfo;simp[h]
theorem Xg(t:TypeId){i:TypeInfo}(h:P.info? t=some i):(sizeOf t).run P w= .ok i.size w:=by unfold sizeOf;simp[Zbu P w t h]
theorem Zab(t:TypeId){i:TypeInfo}{v:Value}(h:P.info? t=some i)(hv:i.zero=some v):(zeroValue t).run P w= .ok v w:=by unfold zeroValue;simp[Zbu P w t h,hv]
theorem ZaZ{t:TypeId}{d:TypeDesc}(h:P.underlying t=some d):∃i,P.info? t=some i:=by
  unfold Program.underlying at h
  cases hi:P.info? t with
  |none=>simp[hi]at h
  |some i=>exact⟨i,rfl⟩
theorem Zb6{t:TypeId}{i:TypeInfo}(h:P.info? t=some i):P.cellsOf t=i.size:=by unfold Program.cellsOf;simp[h]
theorem ZfR(t:TypeId){d:TypeDesc}(h:P.underlying t=some d):(isAgg t).run P w= .ok (ZbY (some d)) w:=by unfold isAgg;simp only[Awk,Zk P w t h,Awl];cases d<;>rfl
theorem Zh4(b o:Nat):∀(vs:List Value) (i:Nat) (acc:Array Value),Zf.has w.heap b (o+i) vs->
    (loadCellsFrom ⟨b,o,none⟩ i vs.length acc).run P w= .ok (acc++vs.toArray) w
  |[],i,acc,_=>by simp[loadCellsFrom]
  | v::vs,i,acc,h=>by
    have h1:Zf.cell w.heap b (o+i)=some v:=h.1;have a:Zf.has w.heap b (o+i+1) vs:=h.2;simp only[Aqj,loadCellsFrom,Awk,Zn6,Zin P w h1,Awl];rw[Zh4 b o vs (i+1) _ (by rw[<-Aqh];exact a)];simp
theorem Zeq(b o:Nat)(vs:List Value)(h:Zf.has w.heap b o vs):(loadCells ⟨b,o,none⟩ vs.length).run P w= .ok vs.toArray w:=by unfold loadCells;rw[Zh4 P w b o vs 0 #[] (by simpa using h)];simp
end
theorem Zth{h:Zf}{b o a c:Nat}{v:Value}(d:b≠a\/o≠c):(h.put b o v).cell a c=h.cell a c:=by
  unfold Zf.put Zf.cell;simp only[Aqi]
  by_cases e:b=a
  ·subst e;have ho:o≠c:=d.resolve_left (λh=>h rfl);simp only[if_true]
   cases f:h[b]? with
   |none=>rfl
   |some x=>cases x<;>simp[Awj ho]
  ·simp[e]
theorem ZAT{h:Zf}{b o a c:Nat}{v:Value}:(h.put b o v).froz a c=h.froz a c:=by
  unfold Zf.put Zf.froz;simp only[Aqi]
  by_cases d:b=a
  ·subst d;simp only[if_true]
   cases e:h[b]? with
   |none=>rfl
   |some x=>cases x<;>rfl
  ·simp[d]
theorem Zub{h:Zf}{b o:Nat}{v:Value}:∀{n a:Nat},o<a->h.free b a n->(h.put b o v).free b a n
  | 0,_,_,_=>trivial
  | n+1,a,c,d=>by
    obtain⟨⟨⟨u,hu⟩,hz⟩,e⟩:=d;exact⟨⟨⟨u,by rw[Zth (.inr (by omega))];exact hu⟩,by rw[ZAT];exact hz⟩,Zub (by omega) e⟩
theorem ZfB(P:Program)(b o:Nat):∀(vs:List Value) (i:Nat) (w:World),Zf.free w.heap b (o+i) vs.length->vs.all Zr=true->
    (storeCells ⟨b,o,none⟩ vs i).run P w= .ok () {w with heap:=Zf.puts w.heap b (o+i) vs}
  |[],i,w,_,_=>rfl
  | v::vs,i,w,c,a=>by
    obtain⟨⟨⟨u,hu⟩,hz⟩,d⟩:=c;simp only[Awm,Awn]at a;simp only[storeCells,Awk,Zn6,Zol P w hu hz a.1,Awl];rw[ZfB P b o vs (i+1) _ (by rw[<-Aqh];exact Zub (by omega) d) a.2];simp[Zf.puts,Aqh]
theorem Zkz{d:Option TypeDesc}{h:Zf}{b o:Nat}{K:EV->Prop}(a:Znv d h b o K):
    ∃v,h.cell b o=some v.v/\K v/\ZbY d=false/\d.isSome=true:=by
  unfold Znv at a
  cases d with
  |none=>exact a.elim
  | some d=>
    cases d<;>simp only at a<;>first
      |exact a.elim
      |(obtain⟨x,c,e⟩:=a;refine⟨_,?_,e,rfl,rfl⟩;exact c)
theorem ZlV{h:Zf}{b o:Nat}:∀{c:List (Option TypeDesc)} {i:Nat} {K:List Value->Prop},ZAN h b o i c K->
    ∃vs,vs.length=c.length/\h.has b (o+i) vs/\K vs
  |[],i,K,a=>⟨[],rfl,trivial,a⟩
  | d::c,i,K,a=>by
    obtain⟨v,e,a,_⟩:=Zkz a;obtain⟨vs,hl,f,a⟩:=ZlV a;rw[Zto]at e;exact⟨v.v::vs,by simp[hl],⟨e,by rw[Aqh];exact f⟩,a⟩
theorem Zt6{P:Program}{t:TypeId}{b o:Nat}{K:EV->Prop}{h:Zf}(a:ldT P t h b o K):
    ∃v,(∀w:World,w.heap=h->(loadVar t ⟨b,o,none⟩).run P w= .ok v.v w)/\K v:=by
  unfold ldT at a
  cases hu:P.underlying t with
  |none=>rw[hu]at a;simp[ZbY,Znv]at a
  | some d=>
    obtain⟨i,hi⟩:=ZaZ P hu;rw[hu]at a;unfold loadVar
    cases c:ZbY (some d)with
    | true=>
      rw[c]at a;simp only[cond_true]at a
      cases hl:Nat.beq (ZgD P 8 t).length (P.cellsOf t)with
      |false=>rw[hl]at a;exact a.elim
      | true=>
        rw[hl]at a;obtain⟨vs,hlen,e,a⟩:=ZlV a;have hs:i.size=vs.length:=by rw[hlen,Awg hl,Zb6 P hi]
        refine⟨.val (.agg vs.toArray),λw hw=>?_,a⟩;subst hw;simp only[Awk,ZfR P w t hu,c,Awl,if_true,Xg P w t hi,hs];rw[Zeq P w b o vs (by simpa using e)];rfl
    | false=>
      rw[c]at a;obtain⟨v,f,a,_⟩:=Zkz a;refine⟨v,λw hw=>?_,a⟩;subst hw;simp only[Awk,ZfR P w t hu,c,Awl,Aqc,if_false];exact Zin P w f _
def ZGk(vs:List VT)(t:Xf vs):Value:=(ZgO (Xf.evs vs t)).v
def fen(r:Option Nat):Fence:={fn:=λ_=>True,depth:=none,alive:=false,round:=r}
theorem Zi0{r:Option Nat}{n:Nat}{P:Program}{f:FuncId}{args:Array Value}{w:World}{R:Ending->World->Prop}:CallsIn (fen r) n P f args w R↔Calls P f args w R:=
  callsIn_wide (n:=n)
def Zka(res:List VT)(w:World)(K:Xf res->Zf->Prop)(a:Value->Zf->Prop):Ending->World->Prop:=λe w'=>
  (∃r,e= .returned (ZGk res r)/\Same w w'/\K r w'.heap)\/(∃v,e= .panicked [{v,recovered:=false}]/\Same w w'/\a v w'.heap)
def ZBf(P:Program)(l:Nat)(vs:List Value)(w:World)(k:Bool->Zf->Prop):Prop:=
  ∃ fn tmps assign body,(Instr.yield l vs.toArray).run P w= .ok (.round l fn tmps assign body) w/\
    RoundIn (fen none) 0 P l fn tmps assign body w λe w'=>∃b,e= .returned (.bool b)/\Same w w'/\k b w'.heap
def YOK(P:Program)(Y:Yld):Prop:=∀l vs k w,Y l vs k w.heap->ZBf P l vs w k
structure ZG(P:Program)(f:FuncId)(s:Zh):Prop where
  named:∃fn,P.funcs[f]?=some fn/\(fn.name== "runtime.NumGoroutine")=false/\fn.body.isNone=false
  calls:∀(t:Xf s.args) (K:Xf s.res->Zf->Prop) (Kp:Value->Zf->Prop) (w:World),s.sem t K Kp w.heap->
    Calls P f ((Xf.evs s.args t).map EV.v).toArray w (Zka s.res w K Kp)
def ZcB.spec(s:ZcB)(Y:Yld):Zh:=⟨.yl::s.caps,[],λt K _ h=>s.sem Y t.1 t.2 (λh'=>K () h') h⟩
def Zr7(P:Program)(f:FuncId)(s:ZcB):Prop:=∀Y,YOK P Y->ZG P f (s.spec Y)
def ZyM(P:Program)(f:FuncId):Prop:=∀(t b:Nat) (es:Array MapEntry) (c:Nat) (w:World),w.heap[b]?=some (.map es c)->
  ∃w',(callFunc f #[.iface t (.map (some b))]).run P w= .ok (.value (.iface t (.map (some w.heap.size)))) w'/\Same w w'/\w'.heap=w.heap.push (.map es c)
def ZyO(P:Program)(f:FuncId):Prop:=∀(x y z:Int) (w:World),z.toNat<=1->(callFunc f #[.int .u64 x,.int .u64 y,.int .u64 z]).run P w= .ok (.value (.tuple #[.int .u64 (Zr3 x y z),.int .u64 (ZrS x y z)])) w
def Zuz(P:Program)(name:String)(t:TypeId)(f:FuncId):Prop:=∀(v:Value) (w:World),(method (P.types.size+Made.depth) t v name).run P w= .ok (f,v) w
structure Cfg.OK(c:Cfg):Prop where
  calls:∀x,x∈c.calls->ZG c.P x.1 x.2
  ext:∀f,f∈c.ext->ZyM c.P f
  dyn:∀x,x∈c.dyn->Zuz c.P x.1 x.2.1 x.2.2
  iters:∀x,x∈c.iters->Zr7 c.P x.1 x.2
  yld:YOK c.P c.yld
  adds:∀f,f∈c.adds->ZyO c.P f
theorem Cfg.OK.at{c:Cfg}(h:c.OK)(r:Option Nat)(p:Value->Zf->Prop):Cfg.OK {c with rnd:=r,pan:=p}:=⟨h.calls,h.ext,h.dyn,h.iters,h.yld,h.adds⟩
theorem Zi5(P:Program):YOK P ZlR:=λ_ _ _ _ h=>h.elim
theorem Znf{f:FuncId}{es:List EV}:∀{l:List (FuncId×ZcB)} {p:ZyC},Zvm f es l=some p->(f,p.s)∈l/\Xf.un p.s.caps es=some p.t
  |[],p,h=>by simp[Zvm]at h
  | (g,s)::r,p,h=>by
    simp only[Zvm]at h
    cases a:Nat.beq f g with
    | false=>
      rw[a]at h;have:=Znf (l:=r) h;exact⟨.tail _ this.1,this.2⟩
    | true=>
      rw[a]at h;have he:=Awg a;subst he;simp only[cond_true]at h;split at h
      ·rename_i t b;simp only[Awh]at h;subst h;exact⟨.head _,b⟩
      ·have:=Znf (l:=r) h;exact⟨.tail _ this.1,this.2⟩
theorem Zjs{f:FuncId}{es:List EV}:∀{l:List (FuncId×Zh)} {p:ZBS},Zoo f es l=some p->(f,p.s)∈l/\Xf.un p.s.args es=some p.t
  |[],p,h=>by simp[Zoo]at h
  | (g,s)::r,p,h=>by
    simp only[Zoo]at h
    cases a:Nat.beq f g with
    | false=>
      rw[a]at h;have:=Zjs (l:=r) h;exact⟨.tail _ this.1,this.2⟩
    | true=>
      rw[a]at h;have he:=Awg a;subst he;simp only[cond_true]at h;split at h
      ·rename_i t b;simp only[Awh]at h;subst h;exact⟨.head _,b⟩
      ·have:=Zjs (l:=r) h;exact⟨.tail _ this.1,this.2⟩
theorem Zk4{f:FuncId}{es:List EV}:∀{l:List (FuncId×Zh)} {p:ZqQ},Zon f es l=some p->(f,(⟨p.a0::p.rest,p.res,p.sem⟩:Zh))∈l/\Xf.un p.rest es=some p.t
  |[],p,h=>by simp[Zon]at h
  | (g,⟨a0::rest,res,sem⟩)::r,p,h=>by
    simp only[Zon]at h
    cases a:Nat.beq f g with
    | false=>
      rw[a]at h;have:=Zk4 (l:=r) h;exact⟨.tail _ this.1,this.2⟩
    | true=>
      rw[a]at h;have he:=Awg a;subst he;simp only[cond_true]at h;split at h
      ·rename_i t b;simp only[Awh]at h;subst h;exact⟨.head _,b⟩
      ·have:=Zk4 (l:=r) h;exact⟨.tail _ this.1,this.2⟩
  | (g,⟨[],res,sem⟩)::r,p,h=>by
    simp only[Zon]at h;have:=Zk4 (l:=r) h;exact⟨.tail _ this.1,this.2⟩
theorem ZrN{calls:List (FuncId×Zh)}{b:Value->Zf->Prop}{name:String}{v:Value}{es:List EV}{h:Zf}{K:EV->Zf->Prop}:∀{l:List (String×TypeId×FuncId)},ZEC calls b name v es h K l->
    ∃(t:TypeId) (f:FuncId) (p:ZqQ) (x:p.a0.D),(name,t,f)∈l/\v= .iface t (p.a0.ev x).v/\Zon f es calls=some p/\p.sem (x,p.t) (λd h'=>K (ZgO (Xf.evs p.res d)) h') b h
  |[],a=>a.elim
  | (n,t,f)::r,a=>by
    have tail:ZEC calls b name v es h K r->∃(t':TypeId) (c:FuncId) (p:ZqQ) (x:p.a0.D),(name,t',c)∈(n,t,f)::r/\v= .iface t' (p.a0.ev x).v/\Zon c es calls=some p/\p.sem (x,p.t) (λd h'=>K (ZgO (Xf.evs p.res d)) h') b h:=λg=>by
      obtain⟨t',c,p,x,h1,i,h3,j⟩:=ZrN g;exact⟨t',c,p,x,.tail _ h1,i,h3,j⟩
    simp only[ZEC]at a
    cases e:n==name with
    |false=>rw[e]at a;exact tail a
    | true=>
      rw[e]at a;have he:n=name:=by simpa using e
      subst he;simp only[cond_true]at a;split at a
      ·rename_i p k
       rcases a with⟨x,m,a⟩ |a
       ·exact⟨t,f,p,x,.head _,m,k,a⟩
       ·exact tail a
      ·exact tail a
theorem ZmH{calls:List (FuncId×Zh)}{d:Value->Zf->Prop}{v:Value}{es:List EV}{h:Zf}{K:EV->Zf->Prop}:∀{l:List (FuncId×List Leaf)},fnP calls d v es h K l->
    ∃(f:FuncId) (cs:List Value) (s:Zh) (t:Xf s.args),v= .func (.func f) #[] ⟨cs⟩/\Zoo f (ZyX es cs) calls=some ⟨s,t⟩/\s.sem t (λe h'=>K (ZgO (Xf.evs s.res e)) h') d h
  |[],a=>a.elim
  | (f,[])::r,a=>by
    simp only[fnP]at a;split at a
    ·rename_i s t b
     rcases a with⟨hv,a⟩ |a
     ·exact⟨f,[],s,t,hv,by simpa[ZyX]using b,a⟩
     ·exact ZmH a
    ·exact ZmH a
  | (f,l::ls)::r,a=>by
    simp only[fnP]at a
    rcases a with⟨c,hv,a⟩ |a
    ·split at a
     ·rename_i s t b;exact⟨f,_,s,t,hv,b,a⟩
     ·exact a.elim
    ·exact ZmH a
theorem Zqv{f:FuncId}:∀{l:List FuncId},ZBJ f l=true->f∈l
  |[],h=>by simp[ZBJ]at h
  | g::r,h=>by
    simp only[ZBJ]at h
    cases a:Nat.beq f g with
    |true=>rw[Awg a];exact .head _
    |false=>rw[a]at h;exact .tail _ (Zqv h)
theorem ZF7{l:Leaf}{v:Value}{x:l.D}(h:l.un v=some x):l.mk x=v:=by
  cases l<;>cases v<;>simp only[Leaf.un]at h<;>first
    | (split at h
       ·simp only[Awh]at h;subst h;rename_i a;subst a;rfl
       ·cases h)
    |(simp only[Awh]at h;subst h;rfl)
    |cases h
theorem ZwO:∀{ls:List Leaf} {vs:List Value} {t:Tup ls},Tup.un ls vs=some t->Tup.vals ls t=vs
  |[],[],t,_=>rfl
  |[],_::_,t,h=>by simp[Tup.un]at h
  |_::_,[],t,h=>by simp[Tup.un]at h
  | l::ls,v::vs,t,h=>by
    simp only[Tup.un]at h;split at h
    ·rename_i x t' h1 a;simp only[Awh]at h;subst h;simp only[Tup.vals,ZF7 h1,ZwO a]
    ·cases h
theorem ZAV{f:FuncId}{e:EV}{x:Unit}(h:fnU f e=some x):(EV.val (.func (.func f) #[] #[])).v=e.v:=by
  unfold fnU at h;split at h
  ·rename_i g
   cases a:Nat.beq f g with
   |false=>rw[a]at h;cases h
   |true=>rw[Awg a]
  ·cases h
theorem Zyh{f:FuncId}{ls:List Leaf}{e:EV}{x:Tup ls}(h:ZNS f ls e=some x):(EV.val (.func (.func f) #[] ⟨Tup.vals ls x⟩)).v=e.v:=by
  unfold ZNS at h;split at h
  ·rename_i g cs
   cases a:Nat.beq f g with
   |false=>rw[a]at h;cases h
   | true=>
     rw[a]at h;rw[Awg a,ZwO (ls:=ls) (vs:=cs) h]
  ·cases h
theorem ZAg{e:EV}{l:Nat}(h:ylU e=some l):(EV.val (.func (.yield l) #[] #[])).v=e.v:=by
  unfold ylU at h;split at h
  ·simp only[Awh]at h;subst h;rfl
  ·cases h
theorem ZNn{v:VT}{e:EV}{x:v.D}(h:v.un e=some x):(v.ev x).v=e.v:=by
  cases v with
  |one l=>exact ZF7 (v:=e.v) h
  | agg ls=>
    cases e with
    | val u=>
      cases u with
      | agg cs=>
        have:=ZwO (ls:=ls) (vs:=cs.toList) h;show Value.agg (Tup.vals ls x).toArray= .agg cs;rw[this]
      |_=>simp[VT.un]at h
    |lit b=>simp[VT.un]at h
    |adr b o=>simp[VT.un]at h
    |itr t b=>simp[VT.un]at h
    |more k v=>simp[VT.un]at h
    |over=>simp[VT.un]at h
  |fn f=>exact ZAV h
  |clo f ls=>exact Zyh h
  |yl=>exact ZAg h
theorem ZhF:∀{vs:List VT} {es:List EV} {t:Xf vs},Xf.un vs es=some t->(Xf.evs vs t).map EV.v=es.map EV.v
  |[],[],t,_=>rfl
  |[],_::_,t,h=>by simp[Xf.un]at h
  |_::_,[],t,h=>by simp[Xf.un]at h
  | v::vs,e::es,t,h=>by
    simp only[Xf.un]at h;split at h
    ·rename_i x t' h1 a;simp only[Awh]at h;subst h;simp only[Xf.evs,Awo,ZNn h1,ZhF a]
    ·cases h
theorem Zxq{P:Program}{ρ:Operand->Value}{o:Oper}{w w':World}{n:Next}(a:(execOp ρ o).run P w= .ok n w')(b:∀d,n≠ .defer d):∀c,o.op≠ .defer c:=by
  intro c e;unfold execOp at a;rw[e]at a;simp only[Awk]at a
  cases h:(resolve ρ c o.type).run P w with
  | ok d w1=>
    rw[h]at a;simp only[Awl,Awp]at a;cases a;exact b _ rfl
  | halt x w1=>
    rw[h]at a;cases a
theorem ZkX{P:Program}{r:Option Nat}{ρ:Operand->Value}{o:Oper}{w w':World}{n:Next}(a:(execOp ρ o).run P w= .ok n w')(b:∀d,n≠ .defer d):(o.semAt r ρ).run P w= .ok n w':=by rw[Oper.semAt_eq _ _ _ (Zxq a b)];exact a
theorem ZBm{P:Program}{r:Option Nat}{o:Oper}{a:Act}{w w':World}{v:Value}{next:Act->World->Prop}{Q:Exit->Act->World->Prop}
    (b:(execOp a.eval o).run P w= .ok (.value v) w') (c:next (a.put o.dst v) w'):o.wpIn (fen r) 0 P a w next Q:=by
  refine⟨λ_ _=>trivial,?_⟩;rw[show(fen r).round=r from rfl,ZkX b (λ_ h=>by cases h)];exact c
theorem ZpM{P:Program}{r:Option Nat}{o:Oper}{a:Act}{w w':World}{next:Act->World->Prop}{Q:Exit->Act->World->Prop}
    (b:(execOp a.eval o).run P w= .ok .skip w') (c:next (a.put o.dst undef) w'):o.wpIn (fen r) 0 P a w next Q:=by
  refine⟨λ_ _=>trivial,?_⟩;rw[show(fen r).round=r from rfl,ZkX b (λ_ h=>by cases h)];exact c
theorem ZpN{P:Program}{r:Option Nat}{o:Oper}{a:Act}{w:World}{f:FuncId}{args:Array Value}{next:Act->World->Prop}{Q:Exit->Act->World->Prop}
    (c:(execOp a.eval o).run P w= .ok (.enter f args) w) (d:Calls P f args w λ
      | .returned v,b=>next (a.put o.dst v) b
      | .panicked chain,b=>Q (.panic chain) a b
      | .outgrown,_=>LetsOut Q):o.wpIn (fen r) 0 P a w next Q:=by
  refine⟨λ_ _=>trivial,?_⟩;rw[show(fen r).round=r from rfl,ZkX c (λ_ h=>by cases h)];exact⟨λh=>(by cases h),Zi0.2 d⟩
theorem ZAi{P:Program}{r:Option Nat}{o:Oper}{a:Act}{w:World}{l:Nat}{f:FuncId}{tmps:Array Value}{assign body:Code}{next:Act->World->Prop}{Q:Exit->Act->World->Prop}
    (d:(execOp a.eval o).run P w= .ok (.round l f tmps assign body) w) {k:Bool->World->Prop} (g:RoundIn (fen none) 0 P l f tmps assign body w λe w'=>∃b,e= .returned (.bool b)/\k b w')
    (i:∀b w',k b w'->next (a.put o.dst (.bool b)) w'):o.wpIn (fen r) 0 P a w next Q:=by
  refine⟨λ_ _=>trivial,?_⟩;rw[show(fen r).round=r from rfl,ZkX d (λ_ h=>by cases h)];refine⟨λh=>(by cases h),?_⟩;have c:RoundIn (fen r) (0-1) P l f tmps assign body w λe w'=>∃b,e= .returned (.bool b)/\k b w':=g;refine c.mono ?_;rintro e w' ⟨b,rfl,j⟩;exact i _ _ j
theorem ZAj{P:Program}{r:Option Nat}{o:Oper}{a:Act}{w:World}{v:Value}{next:Act->World->Prop}{Q:Exit->Act->World->Prop}
    (hd:∀c,o.op≠ .defer c) (b:(execOp a.eval o).run P w= .halt (.panic v) w) (d:Q (.panic [{v,recovered:=false}]) a w):o.wpIn (fen r) 0 P a w next Q:=by
  refine⟨λ_ _=>trivial,?_⟩;rw[show(fen r).round=r from rfl,Oper.semAt_eq _ _ _ hd,b];exact d
theorem Zw8{P:Program}{w w':World}{s:Sem Value}{v:Value}(h:s.run P w= .ok v w'):
    (do pure (.value (<-s)):Sem Next).run P w= .ok (.value v) w':=by
  simp[h]
theorem ZDy{P:Program}{w w':World}{s:Sem Unit}(h:s.run P w= .ok () w'):
    (do s;pure .skip:Sem Next).run P w= .ok .skip w':=by
  simp[h]
theorem ZA9{P:Program}{op:BinOp}{t:TypeId}{x y:EV}{K:EV->Prop}(c:ZBQ op x y K):∃v,(∀w,(binOp op t x.v y.v).run P w= .ok v.v w)/\K v:=by
  unfold ZBQ at c;split at c
  ·rename_i k a d b;cases op<;>simp only at c
   case shl=>
     obtain⟨h0,c⟩:=c;refine⟨_,λw=>?_,c⟩;simp only[EV.v,binOp,Op.shift,if_neg (Int.not_lt.2 h0)];rfl
   case shr=>
     obtain⟨h0,c⟩:=c;refine⟨_,λw=>?_,c⟩;simp only[EV.v,binOp,Op.shift,if_neg (Int.not_lt.2 h0)];rfl
   all_goals
     rcases Decidable.em (k=d)with he|he
     case inr=>rw[if_neg he]at c;exact c.elim
     subst he;rw[if_pos rfl]at c
     first
     |exact c.elim
     | (obtain ⟨h0,c⟩:=(show Zu _ _ from c)
        refine⟨_,λw=>?_,c⟩;simp only[EV.v,binOp,ne_eq,not_true,if_false,Op.intDiv,if_neg h0]
        rfl)
     |(refine⟨_,λw=>?_,c⟩;simp only[EV.v,binOp,ne_eq,not_true,if_false];rfl)
  ·rename_i a b;cases op<;>simp only at c
   case add=>
     obtain⟨h0,c⟩:=c;refine⟨_,λw=>?_,c⟩
     have:¬(((a.size+b.size:Nat):Int)>IntKind.i64.max):=by
       have:IntKind.i64.max=9223372036854775807:=by decide
       rw[this];omega
     simp only[EV.v,binOp,Op.stringOp,if_neg this];rfl
   all_goals first
     |exact c.elim
     |(refine⟨_,λw=>?_,c⟩;rfl)
  ·exact c.elim
section
variable{P:Program}{t:TypeId}(w:World)
theorem Zli{e:TypeId}(hu:P.underlying t=some (.pointer e))(p:Option Addr):(Op.equal t (.pointer p) (.pointer none)).run P w= .ok p.isNone w:=by unfold Op.equal Op.maxDepth;rw[show(10000:Nat)=9999+1 from rfl];unfold Op.equalIn;simp only[Awk,Zk P w t hu,Awl];cases p<;>rfl
theorem ZnR{e:TypeId}(hu:P.underlying t=some (.slice e))(p:Option Addr)(n m a b:Nat):(Op.equal t (.slice p n m) (.slice none a b)).run P w= .ok p.isNone w:=by unfold Op.equal Op.maxDepth;rw[show(10000:Nat)=9999+1 from rfl];unfold Op.equalIn;simp only[Awk,Zk P w t hu,Awl];cases p<;>rfl
theorem ZqD{k e:TypeId}(hu:P.underlying t=some (.map k e))(p:Option Nat):(Op.equal t (.map p) (.map none)).run P w= .ok p.isNone w:=by unfold Op.equal Op.maxDepth;rw[show(10000:Nat)=9999+1 from rfl];unfold Op.equalIn;simp only[Awk,Zk P w t hu,Awl];cases p<;>rfl
theorem ZqC{ms:Array (String×TypeId)}(hu:P.underlying t=some (.interface ms)):(Op.equal t .nilIface .nilIface).run P w= .ok true w:=by unfold Op.equal Op.maxDepth;rw[show(10000:Nat)=9999+1 from rfl];unfold Op.equalIn;simp only[Awk,Zk P w t hu,Awl];rfl
theorem ZnS{ms:Array (String×TypeId)}(hu:P.underlying t=some (.interface ms))(t2:TypeId)(u:Value):(Op.equal t (.iface t2 u) .nilIface).run P w= .ok false w:=by unfold Op.equal Op.maxDepth;rw[show(10000:Nat)=9999+1 from rfl];unfold Op.equalIn;simp only[Awk,Zk P w t hu,Awl];rfl
theorem Zox{a rs:Array TypeId}{b:Bool}(hu:P.underlying t=some (.func a rs b)):(Op.equal t .nilFunc .nilFunc).run P w= .ok true w:=by unfold Op.equal Op.maxDepth;rw[show(10000:Nat)=9999+1 from rfl];unfold Op.equalIn;simp only[Awk,Zk P w t hu,Awl];rfl
theorem Zoy{c rs:Array TypeId}{d:Bool}(hu:P.underlying t=some (.func c rs d))(f:Fn)(a b:Array Value):(Op.equal t (.func f a b) .nilFunc).run P w= .ok false w:=by unfold Op.equal Op.maxDepth;rw[show(10000:Nat)=9999+1 from rfl];unfold Op.equalIn;simp only[Awk,Zk P w t hu,Awl];rfl
theorem ZvI(hu:P.underlying t=some .bool)(a b:Bool):(Op.equal t (.bool a) (.bool b)).run P w= .ok (a==b) w:=by unfold Op.equal Op.maxDepth;rw[show(10000:Nat)=9999+1 from rfl];unfold Op.equalIn;simp only[Awk,Zk P w t hu,Awl];rfl
end
theorem ZEA{P:Program}{t:TypeId}{neg:Bool}{x y:EV}{K:EV->Prop}(c:eqP (P.underlying t) neg x y K):
    ∃v,(∀w,(binOp (bif neg then .neq else .eql) t x.v y.v).run P w= .ok v.v w)/\K v:=by
  unfold eqP at c;split at c
  ·rename_i e b o hu;refine⟨_,λw=>?_,c⟩;have:=Zli w hu (some ⟨b,o,none⟩);cases neg<;>simp only[cond_true,cond_false,EV.v,binOp,Awk,this,Awl]<;>rfl
  ·rename_i e p hu;refine⟨_,λw=>?_,c⟩;have:=Zli w hu p;cases neg<;>simp only[cond_true,cond_false,EV.v,binOp,Awk,this,Awl]<;>cases p<;>rfl
  ·rename_i e p n m d f hu;refine⟨_,λw=>?_,c⟩;have:=ZnR w hu p n m d f;cases neg<;>simp only[cond_true,cond_false,EV.v,binOp,Awk,this,Awl]<;>cases p<;>rfl
  ·rename_i k e p hu;refine⟨_,λw=>?_,c⟩;have:=ZqD w hu p;cases neg<;>simp only[cond_true,cond_false,EV.v,binOp,Awk,this,Awl]<;>cases p<;>rfl
  ·rename_i hu;split at c
   ·rename_i a b g h;refine⟨_,λw=>?_,c⟩;have:=ZvI w hu a b;rw[g,h];cases neg<;>simp only[cond_true,cond_false,EV.v,binOp,Awk,this,Awl]<;>rfl
   ·exact c.elim
  ·exact c.elim
theorem ZrF(off:Nat):∀(l:List Value) (k:Nat) (cs:Array Value),off+k+l.length<=cs.size->
    ((l.zipIdx k).foldl (λcs x=>cs.setIfInBounds (off+x.2) x.1) cs).toList=cs.toList.take (off+k)++l++cs.toList.drop (off+k+l.length)
  |[],k,cs,h=>by simp
  | v::l,k,cs,h=>by
    simp only[List.zipIdx_cons,Awq,Aqj]at h⊢;rw[ZrF off l (k+1) _ (by simp;omega)];have a:off+k<cs.toList.length:=by simp;omega
    simp only[Aqk];rw[show off+(k+1)=off+k+1 from by omega,Aql (by simp;omega),Aqm (by omega),Aqn (by omega)];simp;omega
def ZET(place:Nat->Option (Nat×Nat))(n:Nat):List (Nat×Value)->List (Nat×List Value)->Prop
  |[],[]=>True
  |p::a,q::l=>place p.1=some (q.1,q.2.length)/\p.2.cells.toList=q.2/\q.1+q.2.length<=n/\ZET place n a l
  |_,_=>False
theorem Zhx(place:Nat->Option (Nat×Nat))(n:Nat):∀(b:List (Nat×Value)) (l:List (Nat×List Value)) (cs:Array Value),
    cs.size=n->ZET place n b l->Instr.fill place cs b=some (ZgT cs.toList l).toArray
  |[],[],cs,_,_=>by simp[Instr.fill,ZgT]
  |[],_::_,cs,_,h=>h.elim
  |_::_,[],cs,_,h=>h.elim
  | (i,v)::b,(o,vs)::l,cs,m,h=>by
    obtain⟨f,hv,hle,k⟩:=h;simp only at f hv hle;have hlen:v.cells.size=vs.length:=by rw[<-hv];simp
    have a:(v.cells.zipIdx.foldl (λcs x=>match x with|(c,j)=>cs.setIfInBounds (o+j) c) cs).toList=cs.toList.take o++vs++cs.toList.drop (o+vs.length):=by
      rw[<-Array.foldl_toList,Array.toList_zipIdx,hv];have:=ZrF o vs 0 cs (by omega);simpa using this
    have d:(v.cells.zipIdx.foldl (λcs x=>match x with|(c,j)=>cs.setIfInBounds (o+j) c) cs).size=n:=by
      rw[<-Awa,a];simp;omega
    have g:=Zhx place n b l _ d k;rw[a]at g;have e:¬(o+vs.length>cs.size):=by omega
    simp only[Instr.fill,f,hlen,ne_eq,not_true,decide_false,Bool.false_or,e,ZgT];exact g
theorem ZnX(v:EV):v.v.cells.toList=Zlk v:=by
  cases v with
  |val v=>cases v<;>rfl
  |lit b=>rfl
  |adr b o=>rfl
  |itr t b=>rfl
  |more k v=>rfl
  |over=>rfl
theorem ZqE(v:EV):v.v.cells=(Zlk v).toArray:=by rw[<-ZnX]
section
variable{c:Cfg}{e:Env}{a:Act}{n:Nat}
theorem Zxn{u:Value}(h:Zr u=true):u.cells.toList=[u]:=by
  cases u<;>first|rfl|cases h
theorem Zyi{d:Option TypeDesc}{v:EV}(h:ZxL d=true->Zr v.v=true):v.v.cells.toList=ZnY d v:=by
  unfold ZnY
  cases a:ZxL d with
  |true=>exact Zxn (h a)
  |false=>exact ZnX v
theorem Zo0:∀{l:List Value} {K:Prop},ZDT l K->(∀u,u∈l->Zr u=true)/\K
  |[],_,h=>⟨λ_ a=>(by cases a),h⟩
  | v::vs,K,h=>by
    obtain⟨h1,b⟩:=Zo0 h.2;refine⟨λu hu=>?_,b⟩
    rcases Awr.1 hu with rfl|hu
    ·exact h.1
    ·exact h1 u hu
theorem Zmf(P:Program)(fs:List Field)(g:Agr n e a)(k:Nat):∀{j:List (Nat×Operand)} {l:List (Nat×List Value)},Zne P fs e k j=some l->(∀u,u∈Zq6 P fs e j->Zr u=true)->
    ZET (λi=>(fs[i]?).map λf=>(f.offset,P.cellsOf f.type)) k (j.map λx=>(x.1,a.eval x.2)) l
  |[],l,h,_=>by simp only[Zne,Awh]at h;subst h;exact trivial
  | (i,x)::r,l,h,b=>by
    simp only[Zne]at h;split at h
    ·rename_i f v q m hv hl;have c:ZxL (P.underlying f.type)=true->Zr v.v=true:=λp=>b _ (by unfold Zq6;rw[m,hv];simp[p])
     have d:∀u,u∈Zq6 P fs e r->Zr u=true:=λu hu=>b u (by
       unfold Zq6;rw[m,hv];dsimp only
       cases ZxL (P.underlying f.type)with
       |true=>exact Aws _ hu
       |false=>exact hu)
     cases h1:Nat.beq (ZnY (P.underlying f.type) v).length (P.cellsOf f.type)with
     |false=>rw[h1]at h;cases h
     | true=>
       rw[h1]at h;simp only[cond_true]at h
       cases o:Nat.ble (f.offset+(ZnY (P.underlying f.type) v).length) k with
       |false=>rw[o]at h;cases h
       | true=>
         rw[o]at h;simp only[cond_true,Awh]at h;subst h;refine⟨?_,?_,Awt o,Zmf P fs g k hl d⟩
         ·simp[m,Awg h1]
         ·simp only[g.ev hv,Zyi c]
    ·cases h
theorem Zjr(size:Nat)(b:Agr n e a)(k:Nat):∀{d:List (Nat×Operand)} {l:List (Nat×List Value)},ZlO size e k d=some l->
    ZET (λi=>some (i*size,size)) k (d.map λx=>(x.1,a.eval x.2)) l
  |[],l,h=>by simp only[ZlO,Awh]at h;subst h;exact trivial
  | (i,x)::r,l,h=>by
    simp only[ZlO]at h;split at h
    ·rename_i v f hv hl
     cases h1:Nat.beq (Zlk v).length size with
     |false=>rw[h1]at h;cases h
     | true=>
       rw[h1]at h;simp only[cond_true]at h
       cases c:Nat.ble (i*size+(Zlk v).length) k with
       |false=>rw[c]at h;cases h
       | true=>
         rw[c]at h;simp only[cond_true,Awh]at h;subst h;refine⟨?_,?_,Awt c,Zjr size b k hl⟩
         ·simp[Awg h1]
         ·simp only[b.ev hv,ZnX]
    ·cases h
theorem Zi3{x:EV}{K:Nat->Nat->Prop}(h:atP x K):∃b o,x.v= .pointer (some ⟨b,o,none⟩)/\K b o:=by
  unfold atP at h;split at h
  ·exact⟨_,_,rfl,h⟩
  ·obtain⟨b,o,rfl,h⟩:=h;exact⟨b,o,rfl,h⟩
  ·exact h.elim
theorem Zee{P:Program}{t:TypeId}{zs:List Value}(h:Zmp P t=some zs):∃i v,P.info? t=some i/\i.zero=some v/\v.cells.toList=zs:=by
  unfold Zmp at h;split at h
  ·rename_i i hi;split at h
   ·rename_i v hv;simp only[Awh]at h;exact⟨i,v,hi,hv,h⟩
   ·cases h
  ·cases h
theorem Zfe{P:Program}{t:TypeId}{s b:Nat}(h:Zrb P t=some (s,b)):∃i,P.info? t=some i/\i.size=s/\i.bytes=b:=by
  unfold Zrb at h;split at h
  ·rename_i i hi;simp only[Awh,Prod.mk.injEq]at h;exact⟨i,hi,h.1,h.2⟩
  ·cases h
theorem ZAp{P:Program}{t:TypeId}{b o:Nat}{v:EV}{K:Zf->Prop}{w:World}(h:stT P t w.heap b o v K):
    ∃h',(storeVar t ⟨b,o,none⟩ v.v).run P w= .ok () {w with heap:=h'}/\K h':=by
  have key:∀(i:TypeInfo) (vs:List Value),P.info? t=some i->i.size=vs.length->v.v.cells=vs.toArray->Zf.free w.heap b o vs.length->vs.all Zr=true->
      (storeVar t ⟨b,o,none⟩ v.v).run P w= .ok () {w with heap:=Zf.puts w.heap b o vs}:=by
    intro i vs hi hs n f j;unfold storeVar;simp only[Awk,Xg P w t hi,Awl,n,hs,List.size_toArray,ne_eq,not_true,if_false];have:=ZfB P b o vs 0 w (by simpa using f) j;simpa using this
  have one:ZbY (P.underlying t)=false->Nat.beq (P.cellsOf t) 1=true->(∀cs,v.v≠ .agg cs)->st w.heap b o v.v K->
      ∃h',(storeVar t ⟨b,o,none⟩ v.v).run P w= .ok () {w with heap:=h'}/\K h':=by
    intro d h1 e l;obtain⟨⟨u,hu⟩,f,g,m⟩:=l;have a:=Awg h1
    cases hi:P.info? t with
    |none=>unfold Program.cellsOf at a;simp[hi]at a
    | some i=>
      rw[Zb6 P hi]at a;refine⟨_,key i [v.v] hi (by simp[a]) ?_ ⟨⟨⟨u,hu⟩,f⟩,trivial⟩ (by simp[g]),m⟩
      cases hv:v.v<;>first|rfl|exact absurd hv (e _)
  unfold stT at h;split at h
  ·rename_i cs
   cases d:ZbY (P.underlying t)with
   |false=>rw[d]at h;exact h.elim
   | true =>
     rw[d]at h;simp only[cond_true]at h
     cases h1:Nat.beq cs.toList.length (P.cellsOf t)with
     |false=>rw[h1]at h;exact h.elim
     | true=>
       rw[h1]at h;obtain⟨f,j,m⟩:=h;have a:=Awg h1
       cases hi:P.info? t with
       | none=>
         unfold Program.underlying at d;simp[hi,ZbY]at d
       | some i=>
         rw[Zb6 P hi]at a;exact⟨_,key i cs.toList hi a.symm rfl f j,m⟩
  ·rename_i p e
   cases d:ZbY (P.underlying t)with
   |true=>rw[d]at h;exact h.elim
   | false=>
     rw[d]at h;simp only[cond_false]at h
     cases h1:Nat.beq (P.cellsOf t) 1 with
     |false=>rw[h1]at h;exact h.elim
     | true=>
       rw[h1]at h;refine one d h1 (λcs c=>?_) h
       cases v with
       |val u=>simp only[EV.v]at c;subst c;exact e cs rfl
       |lit b=>cases c
       |adr b o=>cases c
       |itr t b=>cases c
       |more k v=>cases c
       |over=>cases c
theorem Zie(zs:List Value)(n:Nat):(XI zs n).length=n*zs.length:=by simp[XI]
theorem ZnM(zs:List Value):∀(n i:Nat),i<n*zs.length->(XI zs n)[i]?=zs[i % zs.length]?
  | 0,i,h=>by omega
  | n+1,i,h=>by
    unfold XI;rw[List.replicate_succ,List.flatten_cons]
    rcases Aqd i zs.length with hi|hi
    ·rw[Awu hi,Nat.mod_eq_of_lt hi]
    ·rw[Awv hi];have:=ZnM zs n (i- zs.length) (by rw[Aww]at h;omega);unfold XI at this;rw[this,Nat.mod_eq_sub_mod hi]
theorem Zkn(zs:Array Value)(n m:Nat)(h:m=n*zs.size):((Array.range m).map (zs[· % zs.size]!)).toList=XI zs.toList n:=by
  subst h;apply Awx;intro i;simp only[Array.toList_map,Array.toList_range,Awy]
  rcases Aqd i (n*zs.size)with hi|hi
  ·rw [ZnM _ _ _ (by simpa using hi)]
   have a:0<zs.size:=by rcases Aqw zs.size with h0|h0;· rw[h0]at hi;omega
                        ·exact h0
   have hm:i % zs.size<zs.size:=Nat.mod_lt _ a;simp[hi,hm]
  ·rw[Aqt (by simpa using hi)];rw[Aqt (by rw[Zie];simpa using hi)];rfl
end
end Go.Fw
