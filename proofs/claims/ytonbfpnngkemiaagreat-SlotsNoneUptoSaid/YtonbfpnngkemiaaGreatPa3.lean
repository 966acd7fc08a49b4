/- The reading of a function's code as a condition on memory: what each operation, region and statement asks and leaves. Definitions alone. -/
import Derived.Sort.QuietThIn
import Derived.OrdersHeld
import Derived.Laws.Sem
import Derived.Laws.World
import Derived.RangeFuncLeaves
import Derived.RangeFuncRecord
import Derived.Test.YtonbfpnngkemiaaGreatPa2
set_option linter.unusedVariables false
set_option linter.unusedSimpArgs false
namespace Go.Fw
open Go
inductive Leaf where
  |I (k:IntKind)|B|S|P|L|M|V
abbrev Leaf.D:Leaf->Type
  | .I _=>Int| .B=>Bool| .S=>ByteArray| .P=>Option Addr| .L=>Sl| .M=>Option Nat| .V=>Value
def Leaf.mk:(l:Leaf)->l.D->Value
  | .I k,n=>.int k n| .B,b=>.bool b| .S,s=>.string s| .P,p=>.pointer p| .L,s=>.slice s.ptr s.len s.cap| .M,m=>.map m| .V,v=>v
def Leaf.un:(l:Leaf)->Value->Option l.D
  | .I k,.int a n=>if a=k then some n else none
  | .B,.bool b=>some b
  | .S,.string s=>some s
  | .P,.pointer p=>some p
  | .L,.slice p l c=>some ⟨p,l,c⟩
  | .M,.map m=>some m
  | .V,v=>some v
  |_,_=>none
abbrev Tup:List Leaf->Type
  |[]=>Unit
  |l::ls=>l.D×Tup ls
def Tup.vals:(ls:List Leaf)->Tup ls->List Value
  |[],_=>[]
  |l::ls,t=>l.mk t.1::Tup.vals ls t.2
def Tup.un:(ls:List Leaf)->List Value->Option (Tup ls)
  |[],[]=>some ()
  | l::ls,v::vs=>match l.un v,Tup.un ls vs with
    |some x,some t=>some (x,t)
    |_,_=>none
  |_,_=>none
inductive VT where
  |one (l:Leaf)|agg (ls:List Leaf)|fn (f:FuncId)|clo (f:FuncId) (ls:List Leaf)|yl
abbrev VT.D:VT->Type
  | .one l=>l.D
  | .agg ls=>Tup ls
  | .fn _=>Unit
  | .clo _ ls=>Tup ls
  | .yl=>Nat
abbrev Xn:List VT->Type
  |[]=>Unit
  |v::vs=>v.D×Xn vs
inductive EV where
  |val (v:Value)|lit (b:Bool)|adr (b o:Nat)|itr (t:TypeId) (b:Nat)|more (k v:Value)|over
def EV.v:EV->Value
  | .val v=>v
  | .lit b=>.bool b
  | .adr b o=>.pointer (some ⟨b,o,none⟩)
  | .itr _ b=>.pointer (some ⟨b,0,none⟩)
  | .more k v=>.tuple #[.bool true,k,v]
  | .over=>.tuple #[.bool false]
def VT.ev:(v:VT)->v.D->EV
  | .one l,x=>.val (l.mk x)
  | .agg ls,x=>.val (.agg (Tup.vals ls x).toArray)
  | .fn f,_=>.val (.func (.func f) ⟨[]⟩ ⟨[]⟩)
  | .clo f ls,x=>.val (.func (.func f) ⟨[]⟩ ⟨Tup.vals ls x⟩)
  | .yl,l=>.val (.func (.yield l) ⟨[]⟩ ⟨[]⟩)
def fnU(f:FuncId):EV->Option Unit
  | .val (.func (.func g) ⟨[]⟩ ⟨[]⟩)=>bif Nat.beq f g then some ()else none
  |_=>none
def ZPc(f:FuncId)(ls:List Leaf):EV->Option (Tup ls)
  | .val (.func (.func g) ⟨[]⟩ ⟨cs⟩)=>bif Nat.beq f g then Tup.un ls cs else none
  |_=>none
def ylU:EV->Option Nat
  | .val (.func (.yield l) ⟨[]⟩ ⟨[]⟩)=>some l
  |_=>none
def VT.un:(v:VT)->EV->Option v.D
  | .one l,e=>l.un e.v
  | .agg ls,.val (.agg cs)=>Tup.un ls cs.toList
  | .agg _,_=>none
  | .fn f,e=>fnU f e
  | .clo f ls,e=>ZPc f ls e
  | .yl,e=>ylU e
def Xn.evs:(vs:List VT)->Xn vs->List EV
  |[],_=>[]
  |v::vs,t=>v.ev t.1::Xn.evs vs t.2
def Xn.un:(vs:List VT)->List EV->Option (Xn vs)
  |[],[]=>some ()
  | v::vs,e::es=>match v.un e,Xn.un vs es with
    |some x,some t=>some (x,t)
    |_,_=>none
  |_,_=>none
def Zhc:List EV->EV
  |[e]=>e
  |es=>.val (.tuple (es.map EV.v).toArray)
structure Zg where
  args:List VT
  res:List VT
  sem:Xn args->(Xn res->Zf->Prop)->(Value->Zf->Prop)->Zf->Prop
structure ZcP where
  caps:List VT
  sem:Yld->Nat->Xn caps->(Zf->Prop)->Zf->Prop
inductive Mark where
  |no|at_ (D:Nat)|raw (ds:List Deferred)
def Mark.isNo:Mark->Bool
  | .no=>true
  |_=>false
structure Env where
  f:Nat->Option EV
  mD:Mark
instance:CoeFun Env (λ_=>Nat->Option EV):=⟨Env.f⟩
def Env.set(e:Env)(d:Nat)(v:EV):Env:=⟨λj=>bif Nat.beq j d then some v else e.f j,e.mD⟩
def Env.ev(e:Env):Operand->Option EV
  | .tmp t=>e.f t
  | .const (.bool b)=>some (.lit b)
  | .const v=>some (.val v)
  | .global g=>some (.adr g 0)
  | .func f=>some (.val (.func (.func f) #[] #[]))
structure Cfg where
  P:Program
  calls:List (FuncId×Zg)
  n:Nat
  ext:List FuncId
  dyn:List (String×TypeId×FuncId)
  iters:List (FuncId×ZcP)
  rnd:Option Nat
  pan:Value->Zf->Prop
  yld:Yld
  fns:List (FuncId×List Leaf)
  adds:List FuncId
def ZjZ(P:Program)(calls:List (FuncId×Zg))(n:Nat)(ext:List FuncId)(dyn:List (String×TypeId×FuncId))(iters:List (FuncId×ZcP))(yld:Yld)(fns:List (FuncId×List Leaf):=[])(adds:List FuncId:=[]):Cfg:=
  ⟨P,calls,n,ext,dyn,iters,none,λ_ _=>False,yld,fns,adds⟩
def ZlE:Yld:=λ_ _ _ _=>False
structure ZCi where
  s:Zg
  t:Xn s.args
def ZoX(f:FuncId)(es:List EV):List (FuncId×Zg)->Option ZCi
  |[]=>none
  | (g,s)::r=>bif Nat.beq f g then(match Xn.un s.args es with
    |some t=>some ⟨s,t⟩
    |none=>ZoX f es r)else ZoX f es r
structure Zy4 where
  s:ZcP
  t:Xn s.caps
def ZvW(f:FuncId)(es:List EV):List (FuncId×ZcP)->Option Zy4
  |[]=>none
  | (g,s)::r=>bif Nat.beq f g then(match Xn.un s.caps es with
    |some t=>some ⟨s,t⟩
    |none=>ZvW f es r)else ZvW f es r
structure Zro where
  a0:VT
  rest:List VT
  res:List VT
  sem:Xn (a0::rest)->(Xn res->Zf->Prop)->(Value->Zf->Prop)->Zf->Prop
  t:Xn rest
def ZoW(f:FuncId)(es:List EV):List (FuncId×Zg)->Option Zro
  |[]=>none
  | (g,⟨a0::rest,res,sem⟩)::r=>bif Nat.beq f g then(match Xn.un rest es with
    |some t=>some ⟨a0,rest,res,sem,t⟩
    |none=>ZoW f es r)else ZoW f es r
  |(_,⟨[],_,_⟩)::r=>ZoW f es r
def ZE3(calls:List (FuncId×Zg))(a:Value->Zf->Prop)(name:String)(v:Value)(es:List EV)(h:Zf)(K:EV->Zf->Prop):List (String×TypeId×FuncId)->Prop
  |[]=>False
  | (n,t,f)::r=>bif n==name then(match ZoW f es calls with
    |some p=>exG v (λx:p.a0.D=>.iface t (p.a0.ev x).v) (λx=>p.sem (x,p.t) (λb h'=>K (Zhc (Xn.evs p.res b)) h') a h)\/ZE3 calls a name v es h K r
    |none=>ZE3 calls a name v es h K r)else ZE3 calls a name v es h K r
def Zzq(es:List EV)(cs:List Value):List EV:=es++cs.map EV.val
def fnP(calls:List (FuncId×Zg))(a:Value->Zf->Prop)(v:Value)(es:List EV)(h:Zf)(K:EV->Zf->Prop):List (FuncId×List Leaf)->Prop
  |[]=>False
  | (f,[])::r=>match ZoX f es calls with
    |some ⟨s,t⟩=>ZFx v f (s.sem t (λb h'=>K (Zhc (Xn.evs s.res b)) h') a h)\/fnP calls a v es h K r
    |none=>fnP calls a v es h K r
  | (f,l::ls)::r=>exG v (λc:Tup (l::ls)=>.func (.func f) ⟨[]⟩ ⟨Tup.vals (l::ls) c⟩) (λc=>match ZoX f (Zzq es (Tup.vals (l::ls) c)) calls with
    |some ⟨s,t⟩=>s.sem t (λb h'=>K (Zhc (Xn.evs s.res b)) h') a h
    |none=>False)\/fnP calls a v es h K r
def ZGL(t:Nat):List (FuncId×List Leaf)->Bool
  |[]=>false
  |(f,_)::r=>bif Nat.beq f (1000000+t)then true else ZGL t r
def ZOZ(l:List (FuncId×List Leaf)):Operand->List (FuncId×List Leaf)
  | .tmp t=>bif ZGL t l then []else l
  |_=>[]
def ZB9(f:FuncId):List FuncId->Bool
  |[]=>false
  |g::r=>bif Nat.beq f g then true else ZB9 f r
def evs(e:Env):List Operand->Option (List EV)
  |[]=>some []
  | x::xs=>match e.ev x,evs e xs with
    |some v,some vs=>some (v::vs)
    |_,_=>none
def ZCh(op:BinOp)(x y:EV)(K:EV->Prop):Prop:=
  match x,y with
  | .val (.int k a),.val (.int c b)=>
    match op with
    | .shl=>Zx (0<=b) (K (.val (.int k (ZBV k a b))))
    | .shr=>Zx (0<=b) (K (.val (.int k (Zlr k a b))))
    | _=>if k=c then
       match op with
       | .add=>K (.val (.int k (k.wrap (a+b))))
       | .sub=>K (.val (.int k (k.wrap (a- b))))
       | .mul=>K (.val (.int k (k.wrap (a*b))))
       | .quo=>Zx (b≠0) (K (.val (.int k (k.wrap (a.tdiv b)))))
       | .rem=>Zx (b≠0) (K (.val (.int k (a.tmod b))))
       | .and=>K (.val (.int k (Zzr k a b)))
       | .or=>K (.val (.int k (orV k a b)))
       | .xor=>K (.val (.int k (ZAI k a b)))
       | .andNot=>K (.val (.int k (ZPf k a b)))
       | .eql=>K (.val (.bool (a==b)))
       | .neq=>K (.val (.bool (a !=b)))
       | .lss=>K (.val (.bool (decide (a<b))))
       | .leq=>K (.val (.bool (decide (a<=b))))
       | .gtr=>K (.val (.bool (decide (a>b))))
       | .geq=>K (.val (.bool (decide (a>=b))))
       |_=>False
      else False
  | .val (.string a),.val (.string b)=>
    match op with
    | .add=>ZSF a b λs=>K (.val (.string s))
    | .eql=>K (.val (.bool (Z2 a b)))
    | .neq=>K (.val (.bool (!Z2 a b)))
    | .lss=>K (.val (.bool (Op.bytesLess a.toList b.toList)))
    | .leq=>K (.val (.bool (Op.bytesLess a.toList b.toList||Z2 a b)))
    | .gtr=>K (.val (.bool (!(Op.bytesLess a.toList b.toList||Z2 a b))))
    | .geq=>K (.val (.bool (!Op.bytesLess a.toList b.toList)))
    |_=>False
  |_,_=>False
def eqP(t:Option TypeDesc)(neg:Bool)(x y:EV)(K:EV->Prop):Prop:=
  match t,x,y with
  |some (.pointer _),.adr _ _,.val (.pointer none)=>K (.lit neg)
  |some (.pointer _),.val (.pointer p),.val (.pointer none)=>K (.val (.bool (bif neg then p.isSome else p.isNone)))
  |some (.slice _),.val (.slice p _ _),.val (.slice none _ _)=>K (.val (.bool (bif neg then p.isSome else p.isNone)))
  |some (.map _ _),.val (.map p),.val (.map none)=>K (.val (.bool (bif neg then p.isSome else p.isNone)))
  | some .bool,x,y=>
    match x.v,y.v with
    | .bool a,.bool b=>K (.val (.bool (bif neg then a !=b else a==b)))
    |_,_=>False
  |_,_,_=>False
def Zn1(d:Option TypeDesc)(h:Zf)(b o:Nat)(K:EV->Prop):Prop:=
  match d with
  |some (.int k)=>ldI h b o k λx=>K (.val (.int k x))
  |some .bool=>ldB h b o λx=>K (.val (.bool x))
  |some .string=>ldS h b o λx=>K (.val (.string x))
  |some (.pointer _)=>ldP h b o λx=>K (.val (.pointer x))
  |some (.slice _)=>ldL h b o λx=>K (.val (.slice x.ptr x.len x.cap))
  |some (.map _ _)=>ldM h b o λx=>K (.val (.map x))
  |some (.struct _)|some (.array _ _)|none=>False
  |some _=>ldV h b o λx=>K (.val x)
def Zg3(P:Program):Nat->TypeId->List (Option TypeDesc)
  | 0,_=>[none]
  | d+1,t=>match P.underlying t with
    |some (.struct fs)=>fs.toList.flatMap λf=>Zg3 P d f.type
    |some (.array n e)=>(List.replicate n (Zg3 P d e)).flatten
    |x=>[x]
def ZHS(o i:Nat):Nat:=bif Nat.beq i 0 then o else o+i
def ZBf(h:Zf)(b o:Nat):Nat->List (Option TypeDesc)->(List Value->Prop)->Prop
  |_,[],K=>K []
  |i,d::a,K=>Zn1 d h b (ZHS o i) λv=>ZBf h b o (i+1) a λvs=>K (v.v::vs)
def Zck:Option TypeDesc->Bool
  |some (.struct _)|some (.array _ _)=>true
  |_=>false
def ldT(P:Program)(t:TypeId)(h:Zf)(b o:Nat)(K:EV->Prop):Prop:=
  bif Zck (P.underlying t)then
    (bif Nat.beq (Zg3 P 8 t).length (P.cellsOf t)then ZBf h b o 0 (Zg3 P 8 t) λvs=>K (.val (.agg vs.toArray))else False)
  else Zn1 (P.underlying t) h b o K
def atP(x:EV)(K:Nat->Nat->Prop):Prop:=
  match x with
  | .adr b o=>K b o
  | .val (.pointer p)=>Ze p K
  |_=>False
def stT(P:Program)(t:TypeId)(h:Zf)(b o:Nat)(v:EV)(K:Zf->Prop):Prop:=
  match v with
  | .val (.agg cs)=>bif Zck (P.underlying t)then(bif Nat.beq cs.toList.length (P.cellsOf t)then sts h b o cs.toList K else False)else False
  |v=>bif Zck (P.underlying t)then False else(bif Nat.beq (P.cellsOf t) 1 then st h b o v.v K else False)
def ZlQ:EV->List Value
  | .val (.agg cs)=>cs.toList
  |v=>[v.v]
def Zyc:Option TypeDesc->Bool
  |some (.int _)|some .bool|some .string|some (.pointer _)|some (.slice _)|some (.map _ _)|some (.struct _)|some (.array _ _)|none=>false
  |some _=>true
def Zos(d:Option TypeDesc)(v:EV):List Value:=bif Zyc d then [v.v]else ZlQ v
def ZrI(P:Program)(fs:List Field)(e:Env):List (Nat×Operand)->List Value
  |[]=>[]
  | (i,x)::r=>match fs[i]?,e.ev x with
    |some f,some v=>bif Zyc (P.underlying f.type)then v.v::ZrI P fs e r else ZrI P fs e r
    |_,_=>ZrI P fs e r
def ZEk:List Value->Prop->Prop
  |[],K=>K
  |v::vs,K=>Zx (Zs v=true) (ZEk vs K)
def Zhh:List Value->List (Nat×List Value)->List Value
  |cs,[]=>cs
  |cs,(o,vs)::r=>Zhh (cs.take o++vs++cs.drop (o+vs.length)) r
def ZnI(P:Program)(fs:List Field)(e:Env)(n:Nat):List (Nat×Operand)->Option (List (Nat×List Value))
  |[]=>some []
  | (i,x)::r=>match fs[i]?,e.ev x,ZnI P fs e n r with
    |some f,some v,some l=>bif Nat.beq (Zos (P.underlying f.type) v).length (P.cellsOf f.type)then(bif Nat.ble (f.offset+(Zos (P.underlying f.type) v).length) n then some ((f.offset,Zos (P.underlying f.type) v)::l)else none)else none
    |_,_,_=>none
def Zmf(size:Nat)(e:Env)(n:Nat):List (Nat×Operand)->Option (List (Nat×List Value))
  |[]=>some []
  | (i,x)::r=>match e.ev x,Zmf size e n r with
    |some v,some l=>bif Nat.beq (ZlQ v).length size then(bif Nat.ble (i*size+(ZlQ v).length) n then some ((i*size,ZlQ v)::l)else none)else none
    |_,_=>none
def ZmQ(P:Program)(t:TypeId):Option (List Value):=match P.info? t with
  | some i=>match i.zero with
    |some v=>some v.cells.toList
    |none=>none
  |none=>none
def ZrO(P:Program)(t:TypeId):Option (Nat×Nat):=match P.info? t with
  |some i=>some (i.size,i.bytes)
  |none=>none
def ZxJ(d:Int):Option (Option EV)->Option Int
  |none=>some d
  |some (some (.val (.int _ n)))=>some n
  |_=>none
def ZlR:Nat:=16777216
def Zx7:TypeDesc->Value->Bool
  | .int k,.int a _=>if k=a then true else false
  | .string,.string _=>true
  | .bool,.bool _=>true
  |_,_=>false
def Zo2:Option TypeDesc->Bool
  |some (.int _)|some .string|some .bool=>true
  |_=>false
def Zko(P:Program):List Field->Nat->Bool
  |[],_=>true
  |f::fs,i=>bif f.name== "_" then false else bif Nat.beq f.offset i&&Zo2 (P.underlying f.type)then Zko P fs (i+1)else false
def Zkp(P:Program)(fs:List Field):List TypeDesc:=fs.map λf=>(P.underlying f.type).getD .bool
def Zx6:List TypeDesc->List Value->Bool
  |[],[]=>true
  |d::a,v::vs=>bif Zx7 d v then Zx6 a vs else false
  |_,_=>false
def ZBn(P:Program)(kt:TypeId)(fs:Array Field)(cs:List Value):Bool:=
  bif P.stoodInHeld kt then false else bif Zko P fs.toList 0 then Zx6 (Zkp P fs.toList) cs else false
def ZBo(P:Program)(n:Nat)(e:TypeId)(cs:List Value):Bool:=
  bif Nat.beq n 2 then(bif Zo2 (P.underlying e)then(match P.info? e with
    |some i=>bif Nat.beq i.size 1 then Zx6 [(P.underlying e).getD .bool,(P.underlying e).getD .bool] cs else false
    |none=>false)else false)else false
def ZtB(P:Program)(kt:TypeId)(d:TypeDesc)(h:Zf)(m:Option Nat)(k:Value)(K:Option Value->Prop):Prop:=
  match d,k with
  | .struct fs,.agg cs=>bif ZBn P kt fs cs.toList then ZbA (Zkp P fs.toList) h m cs.toList K else False
  | .array n e,.agg cs=>bif ZBo P n e cs.toList then ZbA [(P.underlying e).getD .bool,(P.underlying e).getD .bool] h m cs.toList K else False
  |d,k=>bif Zx7 d k then Zhj d h m k K else False
def ZqU(P:Program)(kt:TypeId)(d:TypeDesc)(h:Zf)(m:Option Nat)(k v:Value)(K:Zf->Prop):Prop:=
  match d,k with
  | .struct fs,.agg cs=>bif ZBn P kt fs cs.toList then Zh7 (Zkp P fs.toList) h m cs.toList v K else False
  | .array n e,.agg cs=>bif ZBo P n e cs.toList then Zh7 [(P.underlying e).getD .bool,(P.underlying e).getD .bool] h m cs.toList v K else False
  |d,k=>bif Zx7 d k then Zj0 d h m k v K else False
def ZuV(d:Option TypeDesc)(v:Value)(K:EV->Prop):Prop:=
  match d with
  |some (.int k)=>asI v k λx=>K (.val (.int k x))
  |some .bool=>asB v λx=>K (.val (.bool x))
  |some .string=>asS v λx=>K (.val (.string x))
  |some (.pointer _)=>asP v λx=>K (.val (.pointer x))
  |some (.slice _)=>asL v λx=>K (.val (.slice x.ptr x.len x.cap))
  |some (.map _ _)=>asM v λx=>K (.val (.map x))
  |some (.struct _)|some (.array _ _)|none=>False
  |some _=>K (.val v)
def ZHn:Option TypeDesc->Leaf
  |some (.int k)=>.I k|some .bool=>.B|some .string=>.S|some (.pointer _)=>.P|some (.slice _)=>.L|some (.map _ _)=>.M|_=>.V
def ZFC(P:Program)(t:TypeId)(v:Value)(K:EV->Prop):Prop:=
  bif Zck (P.underlying t)then exG v (λr:Tup ((Zg3 P 8 t).map ZHn)=>.agg (Tup.vals _ r).toArray) (λr=>K (.val (.agg (Tup.vals _ r).toArray)))
  else ZuV (P.underlying t) v K
def ZDF(P:Program)(t:TypeId):Option Value:=match P.info? t with
  |some i=>i.zero
  |none=>none
def Zi0:Option TypeDesc->Bool
  |some (.interface _)=>true
  |none=>true
  |_=>false
def ZkT(P:Program)(ts:Array TypeId):Bool:=match ts[0]? with
  | some t=>match P.underlying t with
    |some (.map _ _)=>true
    |_=>false
  |none=>false
def Zo6(c:Cfg)(o:Op)(ρ:Env)(h:Zf)(K:EV->Zf->Prop):Prop:=
  match o with
  | .call ⟨.builtin .len,args,ts⟩=>
    match ts[0]?,evs ρ args.toList with
    | some t,some [v]=>match c.P.underlying t,v with
      |some .string,.val (.string s)=>K (.val (.int .i64 s.size)) h
      |some (.slice _),.val (.slice _ n _)=>K (.val (.int .i64 n)) h
      |some (.array n _),_=>K (.val (.int .i64 n)) h
      |some (.map _ _),.val (.map m)=>ZHm h m λn=>K (.val (.int .i64 n)) h
      |_,_=>False
    |_,_=>False
  | .call ⟨.builtin .cap,args,ts⟩=>
    match ts[0]?,evs ρ args.toList with
    | some t,some [v]=>match c.P.underlying t,v with
      |some (.slice _),.val (.slice _ _ n)=>K (.val (.int .i64 n)) h
      |_,_=>False
    |_,_=>False
  | .call ⟨.builtin .min,args,_⟩=>
    match evs ρ args.toList with
    |some [.val (.int k x),.val (.int _ y)]=>K (.val (.int k (ZqT x y))) h
    |_=>False
  | .call ⟨.builtin .max,args,_⟩=>
    match evs ρ args.toList with
    |some [.val (.int k x),.val (.int _ y)]=>K (.val (.int k (ZiE x y))) h
    |_=>False
  | .call ⟨.builtin .append,args,ts⟩=>
    match ts[0]?,(match ts[1]? with|none=>false|some t=>match c.P.underlying t with|some (.int _)=>true|some _=>false|none=>true)with
    | some t,false=>match c.P.underlying t with
      | some (.slice e)=>match ZrO c.P e,ZmQ c.P e,evs ρ args.toList with
        | some (size,bytes),some zs,some [.val (.slice p n m),.val (.slice g a i)]=>
          rdS ⟨g,a,i⟩ size h λnew=>app e size bytes zs ⟨p,n,m⟩ a new h λs h'=>K (.val (.slice s.ptr s.len s.cap)) h'
        | some (size,bytes),some zs,some [.val (.slice p n m),.val (.string s)]=>
          app e size bytes zs ⟨p,n,m⟩ s.size (ZfB s) h λs h'=>K (.val (.slice s.ptr s.len s.cap)) h'
        |_,_,_=>False
      |_=>False
    |_,_=>False
  | .call ⟨.value x,args,_⟩=>
    match ZOZ c.fns x with
    | f::r=>(match ρ.ev x,evs ρ args.toList with
      |some v,some es=>fnP c.calls c.pan v.v es h K (f::r)
      |_,_=>False)
    |[]=>
    match ρ.ev x with
    | some (.val (.func (.func f) ⟨[]⟩ ⟨cs⟩))=>
      match evs ρ args.toList with
      | some es=>match ZoX f (Zzq es cs) c.calls with
        |some ⟨s,t⟩=>s.sem t (λr h'=>K (Zhc (Xn.evs s.res r)) h') c.pan h
        | none=>bif ZB9 f c.ext then(match Zzq es cs with
          |[x]=>ZyH x.v h λv h'=>K (.val v) h'
          |_=>False)else bif ZB9 f c.adds then(match Zzq es cs with
          |[.val (.int .u64 x),.val (.int .u64 y),.val (.int .u64 z)]=>Zx (z.toNat<=1) (K (.val (.tuple #[.int .u64 (ZsE x y z),.int .u64 (Zsu x y z)])) h)
          |_=>False)else False
      |none=>False
    | some (.val (.func (.yield l) ⟨[]⟩ ⟨[]⟩))=>
      match evs ρ args.toList with
      |some es=>c.yld l (es.map EV.v) (λb h'=>K (.val (.bool b)) h') h
      |none=>False
    |_=>False
  | .call ⟨.builtin .delete,args,ts⟩=>
    match ts[0]?,evs ρ args.toList with
    | some t,some [.val (.map m),k]=>match c.P.underlying t with
      | some (.map kt _)=>match c.P.underlying kt with
        |some d=>bif Zx7 d k.v then ZnS d h m k.v λh'=>K (.val (.tuple #[])) h' else False
        |none=>False
      |_=>False
    |_,_=>False
  | .call ⟨.invoke x name,args,_⟩=>
    match ρ.ev x,evs ρ args.toList with
    |some v,some es=>ZE3 c.calls c.pan name v.v es h K c.dyn
    |_,_=>False
  | .call ⟨.builtin .clear,args,ts⟩=>
    match ts[0]?,evs ρ args.toList with
    | some t,some [.val (.map m)]=>match c.P.underlying t with
      |some (.map _ _)=>ZPS h m λh'=>K (.val (.tuple #[])) h'
      |_=>False
    | some t,some [.val (.slice p l m)]=>match c.P.underlying t with
      | some (.slice e)=>match ZmQ c.P e with
        |some zs=>ZFB ⟨p,l,m⟩ zs h λh'=>K (.val (.tuple #[])) h'
        |none=>False
      |_=>False
    |_,_=>False
  |_=>False
def Zjp(d:Option TypeDesc)(x y:Value):Option Bool:=
  match d,x,y with
  |some (.int _),.int k a,.int c b=>if k=c then some (a==b)else none
  |some .string,.string a,.string b=>some (Z2 a b)
  |some .bool,.bool a,.bool b=>some (a==b)
  |_,_,_=>none
def ZhF(P:Program):List Field->List Value->List Value->Option Bool
  |[],_,_=>some true
  | f::fs,xs,ys=>
    bif f.name== "_" then none else
    match xs[f.offset]?,ys[f.offset]? with
    | some x,some y=>match Zjp (P.underlying f.type) x y,ZhF P fs xs ys with
      |some a,some r=>some (bif a then r else false)
      |_,_=>none
    |_,_=>none
def Zg8(P:Program):List Field->List Value->List Value->Option Bool
  |[],_,_=>some true
  | f::fs,xs,ys=>
    bif f.name== "_" then none else
    match P.underlying f.type with
    | some (.struct gs)=>
      bif P.stoodInHeld f.type then none else
      bif Nat.ble (f.offset+P.cellsOf f.type) xs.length&&Nat.ble (f.offset+P.cellsOf f.type) ys.length then
        match ZhF P gs.toList ((xs.drop f.offset).take (P.cellsOf f.type)) ((ys.drop f.offset).take (P.cellsOf f.type)),Zg8 P fs xs ys with
        |some a,some r=>some (bif a then r else false)
        |_,_=>none
      else none
    | u=>match xs[f.offset]?,ys[f.offset]? with
      | some x,some y=>match Zjp u x y,Zg8 P fs xs ys with
        |some a,some r=>some (bif a then r else false)
        |_,_=>none
      |_,_=>none
def eqS(P:Program)(t:TypeId)(fs:Array Field)(x y:EV)(K:Bool->Prop):Prop:=
  match x,y with
  | .val (.agg xs),.val (.agg ys)=>bif P.stoodInHeld t||P.eqGuardType P.depth t then False else
    match Zg8 P fs.toList xs.toList ys.toList with
    |some b=>K b
    |none=>False
  |_,_=>False
def opP(c:Cfg)(o:Op)(ρ:Env)(h:Zf)(K:EV->Zf->Prop):Prop:=
  match o with
  | .move x=>match ρ.ev x with
    |some v=>K v h
    |none=>False
  | .assign x=>match ρ.ev x with
    |some (.val (.int k n))=>Zc n λn=>K (.val (.int k n)) h
    |some (.val (.bool b))=>Zq b λb=>K (.val (.bool b)) h
    |some v=>K v h
    |none=>False
  | .pick x a b=>match ρ.ev x,ρ.ev a,ρ.ev b with
    |some (.lit true),some a,_=>K a h
    |some (.lit false),_,some b=>K b h
    | some (.val (.bool x)),some a,some b=>match a.v,b.v with
      | .bool a,.bool b=>K (.val (.bool (bif x then a else b))) h
      |_,_=>False
    |_,_,_=>False
  | .alloc e=>match ZmQ c.P e with
    |some zs=>newC h zs e λb h'=>K (.adr b 0) h'
    |none=>False
  | .box e x=>match ρ.ev x with
    |some v=>bif Zyc (c.P.underlying e)then Zx (Zs v.v=true) (newC h [v.v] e λb h'=>K (.adr b 0) h')else newC h (ZlQ v) e λb h'=>K (.adr b 0) h'
    |none=>False
  | .build t parts=>match c.P.underlying t,ZmQ c.P t with
    | some (.struct fs),some zs=>match ZnI c.P fs.toList ρ zs.length parts.toList with
      |some l=>bif fs.toList.all λf=>(c.P.info? f.type).isSome then ZEk (ZrI c.P fs.toList ρ parts.toList) (K (.val (.agg (Zhh zs l).toArray)) h)else False
      |none=>False
    | some (.array _ e),some zs=>match Zmf (c.P.cellsOf e) ρ zs.length parts.toList with
      |some l=>bif (c.P.info? e).isSome then K (.val (.agg (Zhh zs l).toArray)) h else False
      |none=>False
    |_,_=>False
  | .buildSlice t n parts=>match c.P.underlying t with
    | some (.slice e)=>match ZmQ c.P e,Zmf (c.P.cellsOf e) ρ (n*c.P.cellsOf e) parts.toList with
      | some zs,some l=>bif Nat.ble (n*c.P.cellsOf e) ZlR then
          (bif Nat.beq zs.length (c.P.cellsOf e)then
            newC h (Zhh (XR zs n) l) e λb h'=>K (.val (.slice (some ⟨b,0,none⟩) n n)) h' else False)else False
      |_,_=>False
    |_=>False
  | .load t a=>match ρ.ev a with
    |some x=>atP x λb o=>ldT c.P t h b o λv=>K v h
    |none=>False
  | .store t a x=>match ρ.ev a,ρ.ev x with
    |some a,some x=>atP a λb o=>stT c.P t h b o x λh'=>K (.val undef) h'
    |_,_=>False
  | .nilCheck x=>match ρ.ev x with
    |some x=>atP x λb o=>K (.adr b o) h
    |none=>False
  | .binOp op t x g _=>match ρ.ev x,ρ.ev g with
    | some x,some y=>match op,c.P.underlying t with
      | .eql,some (.int _)| .eql,some .string=>ZCh op x y λv=>K v h
      | .neq,some (.int _)| .neq,some .string=>ZCh op x y λv=>K v h
      | .eql,some (.struct fs)=>eqS c.P t fs x y λb=>K (.val (.bool b)) h
      | .neq,some (.struct fs)=>eqS c.P t fs x y λb=>K (.val (.bool (!b))) h
      | .eql,some (.interface _)=>match g with
        | .const .nilIface=>Zyd x.v λb=>K (.val (.bool b)) h
        |_=>False
      | .neq,some (.interface _)=>match g with
        | .const .nilIface=>Zyd x.v λb=>K (.val (.bool (!b))) h
        |_=>False
      | .eql,some (.func _ _ _)=>match g with
        | .const .nilFunc=>Zye x.v λb=>K (.val (.bool b)) h
        |_=>False
      | .neq,some (.func _ _ _)=>match g with
        | .const .nilFunc=>Zye x.v λb=>K (.val (.bool (!b))) h
        |_=>False
      | .eql,d=>eqP d false x y λv=>K v h
      | .neq,d=>eqP d true x y λv=>K v h
      |_,_=>ZCh op x y λv=>K v h
    |_,_=>False
  | .unOp op _ x=>match op,ρ.ev x with
    | .not,some (.lit b)=>K (.lit (!b)) h
    | .not,some (.val (.bool b))=>K (.val (.bool (!b))) h
    | .neg,some (.val (.int k n))=>K (.val (.int k (k.wrap (0-n)))) h
    |_,_=>False
  | .convert s d x=>match c.P.underlying s,c.P.underlying d,ρ.ev x with
    |some (.int _),some (.int k),some (.val (.int _ n))=>K (.val (.int k (k.wrap n))) h
    |some .string,some .string,some (.val (.string s))=>K (.val (.string s)) h
    | some .string,some (.slice e),some (.val (.string s))=>match c.P.underlying e with
      |some (.int .u8)=>s2b e s h λx h'=>K (.val (.slice x.ptr x.len x.cap)) h'
      |_=>False
    | some (.slice e),some .string,some (.val (.slice p l m))=>match c.P.underlying e with
      |some (.int .u8)=>b2s ⟨p,l,m⟩ h λs=>K (.val (.string s)) h
      |_=>False
    | some (.slice _),some (.slice e),some (.val (.slice p l m))=>match c.P.underlying e with
      |some (.int .u8)=>bif Nat.beq s d then ZOT p h λh'=>K (.val (.slice p l m)) h' else False
      |_=>False
    |_,_,_=>False
  | .makeSlice t l m=>match c.P.underlying t,ρ.ev l,ρ.ev m with
    | some (.slice e),some (.val (.int _ l)),some (.val (.int _ m))=>match ZrO c.P e,ZmQ c.P e with
      |some (size,bytes),some zs=>bif Nat.beq zs.length size then mkS e bytes zs l m h λs h'=>K (.val (.slice s.ptr s.len s.cap)) h' else False
      |_,_=>False
    |_,_,_=>False
  | .slice t x lo hi q=>match c.P.underlying t,ρ.ev x with
    | some .string,some (.val (.string s))=>match q,ZxJ 0 (lo.map ρ.ev),ZxJ s.size (hi.map ρ.ev)with
      |none,some lo,some hi=>ZSy s lo hi λs=>K (.val (.string s)) h
      |_,_,_=>False
    | some (.slice e),some (.val (.slice p l m))=>match ZxJ 0 (lo.map ρ.ev),ZxJ l (hi.map ρ.ev),ZxJ m (q.map ρ.ev),ZrO c.P e with
      |some lo,some up,some most,some (size,_)=>bif hi.isNone&&q.isSome then False else slc p m size lo up most λs=>K (.val (.slice s.ptr s.len s.cap)) h
      |_,_,_,_=>False
    | some (.array n e),some x=>match ZxJ 0 (lo.map ρ.ev),ZxJ n (hi.map ρ.ev),ZxJ n (q.map ρ.ev),ZrO c.P e with
      |some lo,some up,some most,some (size,_)=>bif hi.isNone&&q.isSome then False else atP x λb o=>slc (some ⟨b,o,none⟩) n size lo up most λs=>K (.val (.slice s.ptr s.len s.cap)) h
      |_,_,_,_=>False
    |_,_=>False
  | .fieldAddr s x f=>match c.P.underlying s,ρ.ev x with
    | some (.struct fs),some x=>match fs.toList[f]? with
      |some fd=>bif Nat.beq (c.P.cellsOf fd.type) 0 then False else atP x λb o=>K (.adr b (ZHS o fd.offset)) h
      |none=>False
    |_,_=>False
  | .field s x f=>match c.P.underlying s,ρ.ev x with
    | some (.struct fs),some (.val (.agg cs))=>match fs.toList[f]? with
      | some fd=>bif (c.P.underlying fd.type).isNone then False else bif Zck (c.P.underlying fd.type)then K (.val (.agg ((cs.toList.drop fd.offset).take (c.P.cellsOf fd.type)).toArray)) h
        else match cs.toList[fd.offset]? with
          |some v=>K (.val v) h
          |none=>False
      |none=>False
    |_,_=>False
  | .indexAddr t x i=>match c.P.underlying t,ρ.ev x,ρ.ev i with
    | some (.slice e),some (.val (.slice p l _)),some (.val (.int _ i))=>match ZrO c.P e with
      |some (size,_)=>Yk p l i size λb o=>K (.adr b o) h
      |none=>False
    | some (.array n e),some x,some (.val (.int _ i))=>match ZrO c.P e with
      |some (size,_)=>atP x λb o=>ZOY n i λj=>K (.adr b (o+j*size)) h
      |none=>False
    |_,_,_=>False
  | .index t x i=>match c.P.underlying t,ρ.ev x,ρ.ev i with
    |some .string,some (.val (.string s)),some (.val (.int _ i))=>ZEB s i λn=>K (.val (.int .u8 n)) h
    | some (.array n e),some (.val (.agg cs)),some (.val (.int _ i))=>match c.P.underlying e with
      |some (.struct _)=>bif Nat.beq cs.toList.length (n*c.P.cellsOf e)then ZOY n i λj=>ZFC c.P e (.agg ⟨(cs.toList.drop (j*c.P.cellsOf e)).take (c.P.cellsOf e)⟩) λv=>K v h else False
      |_=>False
    |_,_,_=>False
  | .extract x i=>match ρ.ev x with
    |some (.more _ _)=>bif Nat.beq i 0 then K (.lit true) h else False
    |some .over=>bif Nat.beq i 0 then K (.lit false) h else False
    | some (.val (.tuple vs))=>match vs.toList[i]? with
      |some v=>K (.val v) h
      |none=>False
    |_=>False
  | .call _=>Zo6 c o ρ h K
  | .panic x=>match ρ.ev x with
    |some (.val (.iface t v))=>c.pan (.iface t v) h
    |_=>False
  | .makeFunc (.func f) first caps=>match first.toList,evs ρ caps.toList with
    |[],some es=>K (.val (.func (.func f) ⟨[]⟩ ⟨es.map EV.v⟩)) h
    |_,_=>False
  | .makeMap _ none=>ZfD h λb h'=>K (.val (.map (some b))) h'
  | .lookup t x i ok=>match c.P.underlying t,ρ.ev x,ρ.ev i with
    | some (.map kt et),some (.val (.map m)),some k=>match c.P.underlying kt,ZDF c.P et with
      |some d,some z=>ZtB c.P kt d h m k.v λr=>ZFC c.P et (r.getD z) λv=>K (bif ok then .val (.tuple #[v.v,.bool r.isSome])else v) h
      |_,_=>False
    |_,_,_=>False
  | .mapUpdate t m k x=>match c.P.underlying t,ρ.ev m,ρ.ev k,ρ.ev x with
    | some (.map kt _),some (.val (.map m)),some k,some x=>match c.P.underlying kt with
      |some d=>ZqU c.P kt d h m k.v x.v λh'=>K (.val undef) h'
      |none=>False
    |_,_,_,_=>False
  | .insert t m k x=>match c.P.underlying t,ρ.ev m,ρ.ev k,ρ.ev x with
    | some (.map kt _),some (.val (.map m)),some k,some x=>match c.P.underlying kt with
      |some d=>ZqU c.P kt d h m k.v x.v λh'=>K (.val undef) h'
      |none=>False
    |_,_,_,_=>False
  | .range t x=>match c.P.underlying t,ρ.ev x with
    |some (.map _ _),some (.val (.map m))=>rgM h m λb h'=>K (.itr t b) h'
    |_,_=>False
  | .next x false=>match ρ.ev x with
    |some (.itr _ b)=>ZEj h b (λk v h'=>K (.more k v) h') (K .over h)
    |_=>False
  | .entry x=>match ρ.ev x with
    | some (.itr t b)=>match c.P.underlying t with
      |some (.map kt et)=>ZO8 h b λk v=>ZFC c.P kt k λw=>ZFC c.P et v λA=>K (.val (.tuple #[w.v,A.v])) h
      |_=>False
    |_=>False
  | .makeInterface t x=>match ρ.ev x with
    |some v=>bif Zi0 (c.P.underlying t)then False else K (.val (.iface t v.v)) h
    |none=>False
  | .typeAssert x _ t ok=>match ρ.ev x with
    | some v=>bif Zi0 (c.P.underlying t)then False else bif ok then(match v with
      | .val (.iface t' u)=>bif Nat.beq t' t then K (.val (.tuple #[u,.bool true])) h else False
      |_=>False)else asT v.v t λy=>ZuV (c.P.underlying t) y λu=>K u h
    |none=>False
  |_=>False
def ZsR(n:Nat)(e:Env)(d:Option Tmp)(v:EV)(K:Env->Prop):Prop:=
  match d with
  |none=>K e
  |some d=>bif Nat.blt d n then K (e.set d v)else False
def opQ(c:Cfg)(o:Oper)(e:Env)(h:Zf)(K:EV->Zf->Prop):Prop:=
  match o.op with
  | .assign x=>bif Zyc (c.P.underlying o.type)then(match e.ev x with
    |some v=>K v h
    |none=>False)else opP c (.assign x) e h K
  |op=>opP c op e h K
def ZG6(c:Cfg)(o:Oper)(e:Env)(h:Zf)(K:Env->Zf->Prop):Prop:=
  opQ c o e h λv h'=>ZsR c.n e o.dst v λa=>K a h'
def Zpj(c:Cfg)(o:Oper)(e:Env)(h:Zf)(K:Env->Zf->Prop):Prop:=
  ZsR c.n e o.dst (.val undef) λa=>K a h
def Xt(ops:List Oper)(j:Nat):Option Tmp:=(ops[j]?).bind (·.dst)
def ZgQ(c:Cfg)(one:Oper->Env->Zf->(Env->Zf->Prop)->Prop)(all:List Oper):List Oper->Env->Zf->(Env->Zf->Prop)->Prop
  |[],e,h,K=>K e h
  | o::os,e,h,K=>
    match o.guard with
    |none=>one o e h λa h'=>ZgQ c one all os a h' K
    | some (j,want)=>
      match Xt all j with
      |none=>Zpj c o e h λa h'=>ZgQ c one all os a h' K
      | some t=>
        match e t with
        | some (.lit b)=>
          match b,want with
          |true,true|false,false=>one o e h λa h'=>ZgQ c one all os a h' K
          |true,false|false,true=>Zpj c o e h λa h'=>ZgQ c one all os a h' K
        | some (.val (.bool b))=>
          match want with
          |true=>Zk b (one o (e.set t (.lit true)) h λa h'=>ZgQ c one all os a h' K) (Zpj c o (e.set t (.lit false)) h λa h'=>ZgQ c one all os a h' K)
          |false=>Zk b (Zpj c o (e.set t (.lit true)) h λa h'=>ZgQ c one all os a h' K) (one o (e.set t (.lit false)) h λa h'=>ZgQ c one all os a h' K)
        |some _=>Zpj c o e h λa h'=>ZgQ c one all os a h' K
        |none=>False
def Zur(c:Cfg)(o:Op)(ρ:Env)(h:Zf)(K:EV->Zf->Prop):Prop:=
  match o with
  | .move _| .assign _| .pick _ _ _| .load _ _| .nilCheck _| .binOp _ _ _ _ _| .unOp _ _ _| .slice _ _ _ _ _| .fieldAddr _ _ _| .field _ _ _| .indexAddr _ _ _| .index _ _ _| .extract _ _| .build _ _| .makeFunc _ _ _=>opP c o ρ h K
  | .convert s d _=>match c.P.underlying s,c.P.underlying d with
    |some (.int _),some (.int _)=>opP c o ρ h K
    |_,_=>False
  | .call ⟨.builtin .len,_,_⟩ | .call ⟨.builtin .cap,_,_⟩ | .call ⟨.builtin .min,_,_⟩ | .call ⟨.builtin .max,_,_⟩=>opP c o ρ h K
  | .call ⟨.value (.func f),args,_⟩=>
    match evs ρ args.toList with
    | some es=>match ZoX f es c.calls with
      |some ⟨s,t⟩=>ZxE (λa h'=>s.sem t a (λ_ _=>False) h') h λr=>K (Zhc (Xn.evs s.res r)) h
      |none=>False
    |none=>False
  |_=>False
def ZxD(c:Cfg)(o:Oper)(e:Env)(h:Zf)(K:Env->Zf->Prop):Prop:=
  Zur c o.op e h λv h'=>ZsR c.n e o.dst v λa=>K a h'
def Ziq(m i:Nat):Bool:=Nat.beq (Nat.land (Nat.shiftRight m i) 1) 1
def ZqB(m i:Nat):Nat:=Nat.lor m (Nat.shiftLeft 1 i)
def ZpV(m:Nat):List Edge->Bool
  |[]=>true
  |e::es=>bif Region.binds .any e then(bif Ziq m e.on then ZpV m es else false)else ZpV m es
def ZcB(m i:Nat)(o:Oper):Bool:=bif Ziq m i then false else ZpV m o.after.toList
def ZlB(m i:Nat):Nat->List Oper->Bool
  |_,[]=>true
  |k,o::os=>bif Nat.beq k i then ZlB m i (k+1) os else bif ZcB m k o then false else ZlB m i (k+1) os
def Zhb(i:Nat):List Edge->Bool
  |[]=>false
  |e::es=>bif Nat.beq e.on i then(bif Region.binds .any e then true else Zhb i es)else Zhb i es
def Zo1(ops:Array Oper)(a:Oper)(m i:Nat):Nat->List Oper->Bool
  |_,[]=>true
  |k,o::os=>bif (bif Nat.beq k i then true else bif Ziq m k then true else bif Zhb i o.after.toList then true else a.apart ops o)then Zo1 ops a m i (k+1) os else false
def ZxR(m:Nat):Nat->List Oper->Bool
  |_,[]=>true
  |k,o::os=>bif ZcB m k o then false else ZxR m (k+1) os
abbrev ZhH:=List (Nat×(Zf->Prop))
def Zsr(o:Oper):ZhH->ZhH
  |[]=>[]
  |x::r=>bif Zhb x.1 o.after.toList then Zsr o r else x::Zsr o r
def Zsd(h:Zf):ZhH->Prop->Prop
  |[],K=>K
  |x::r,K=>x.2 h/\Zsd h r K
def Zpt(m i j:Nat):Nat->List Oper->Bool
  |_,[]=>true
  |k,o::os=>bif Nat.beq k i||Nat.beq k j then Zpt m i j (k+1) os else bif ZcB m k o then false else Zpt m i j (k+1) os
def Zsy(b o:Nat):Nat->List Value->List (Nat×Nat×Value)
  |_,[]=>[]
  |i,v::vs=>(b,ZHS o i,v)::Zsy b o (i+1) vs
def ldH(P:Program)(t:TypeId)(h:Zf)(b o:Nat)(K:EV->List (Nat×Nat×Value)->Prop):Prop:=
  bif Zck (P.underlying t)then
    (bif Nat.beq (Zg3 P 8 t).length (P.cellsOf t)then ZBf h b o 0 (Zg3 P 8 t) λvs=>K (.val (.agg vs.toArray)) (Zsy b o 0 vs)else False)
  else Zn1 (P.underlying t) h b o λv=>K v [(b,o,v.v)]
inductive OpK where
  |pure|load (t:TypeId) (x:Operand)|text (x:Operand)|other
def ZgT(c:Cfg):Op->OpK
  | .move _| .assign _| .pick _ _ _| .nilCheck _| .binOp _ _ _ _ _| .unOp _ _ _| .slice _ _ _ _ _| .fieldAddr _ _ _| .field _ _ _| .indexAddr _ _ _| .index _ _ _| .extract _ _| .build _ _| .makeFunc _ _ _=>.pure
  | .convert s d x=>match c.P.underlying s,c.P.underlying d with
    |some (.int _),some (.int _)=>.pure
    | some (.slice e),some .string=>match c.P.underlying e with
      |some (.int .u8)=>.text x
      |_=>.other
    |_,_=>.other
  | .call ⟨.builtin .len,_,ts⟩=>bif ZkT c.P ts then .other else .pure
  | .call ⟨.builtin .cap,_,_⟩ | .call ⟨.builtin .min,_,_⟩ | .call ⟨.builtin .max,_,_⟩=>.pure
  | .load t x=>.load t x
  |_=>.other
def Zoa(all:List Oper)(o:Oper)(e:Env)(A B:Env->Prop):Prop:=
  match o.guard with
  |none=>A e
  | some (j,want)=>
    match Xt all j with
    |none=>B e
    | some t=>
      match e t with
      | some (.lit b)=>
        match b,want with
        |true,true|false,false=>A e
        |true,false|false,true=>B e
      | some (.val (.bool b))=>
        match want with
        |true=>Zk b (A (e.set t (.lit true))) (B (e.set t (.lit false)))
        |false=>Zk b (B (e.set t (.lit true))) (A (e.set t (.lit false)))
      |some _=>B e
      |none=>False
def Zar:List Nat->List EV->Nat->Option EV
  |s::a,v::vs,j=>bif Nat.beq j s then some v else Zar a vs j
  |_,_,_=>none
def Zsa:List (Nat×Nat)->Nat->Bool
  |[],_=>false
  |(lo,hi)::r,j=>bif Nat.ble lo j&&Nat.ble j hi then true else Zsa r j
def Zdx:List Nat->Nat->Bool
  |[],_=>false
  |s::a,j=>bif Nat.beq j s then true else Zdx a j
def Zo3(a:List Nat)(vs:List EV)(kill:List (Nat×Nat))(e:Env):Env:=⟨λj=>
  match Zar a vs j with
  |some v=>some v
  |none=>bif Zsa kill j then none else e.f j,e.mD⟩
def Zst(L:List Nat):List Edge->List Nat
  |[]=>[]
  |e::es=>bif Region.binds .any e then(bif Zdx L e.on then e.on::Zst L es else Zst L es)else Zst L es
def ZnM(d:Nat->Bool):List Nat->Prop->Prop
  |[],K=>K
  |i::is,K=>d i=true->ZnM d is K
def ZIB(ops:Array Oper)(L:List Nat)(d:Nat->Bool)(f:Nat->Oper->Prop):List Nat->Prop
  |[]=>True
  | k::ks=>(match ops[k]? with
    |some o=>d k=false->ZnM d (Zst L o.after.toList) (f k o)
    |none=>False)/\ZIB ops L d f ks
def Zkq(m:Nat)(E:List Nat):List Edge->Bool
  |[]=>true
  |e::es=>bif Region.binds .any e then(bif Ziq m e.on then Zkq m E es else bif Zdx E e.on then Zkq m E es else false)else Zkq m E es
def ZrK(ops:Array Oper)(m:Nat):List Nat->List Nat->Bool
  |_,[]=>true
  | E,k::ks=>match ops[k]? with
    |some o=>bif Ziq m k then false else bif Zdx E k then false else bif o.guard.isNone then(bif Zkq m E o.after.toList then ZrK ops m (k::E) ks else false)else false
    |none=>false
def Zf4(m:Nat)(L:List Nat):List Edge->Bool
  |[]=>false
  |e::es=>bif Region.binds .any e then(bif Ziq m e.on then Zf4 m L es else bif Zdx L e.on then Zf4 m L es else true)else Zf4 m L es
def Zkw(es:List Edge):List Nat->Bool
  |[]=>true
  |k::ks=>bif Zhb k es then Zkw es ks else false
def ZG1(m:Nat)(L:List Nat):Nat->List Oper->Bool
  |_,[]=>true
  |k,o::os=>bif (bif Ziq m k then true else bif Zdx L k then true else bif Zf4 m L o.after.toList then true else Zkw o.after.toList L)then ZG1 m L (k+1) os else false
def ZqN(j k:Nat):Nat->List Oper->Bool
  |_,[]=>true
  | i,o::os=>bif Nat.beq i k then ZqN j k (i+1) os else match o.dst with
    |some x=>bif Nat.beq x j then false else ZqN j k (i+1) os
    |none=>ZqN j k (i+1) os
def Ztk(ops:List Oper)(a:List Nat):List Nat->Bool
  |[]=>true
  | k::ks=>match Xt ops k with
    |some j=>bif Zdx a j then(bif ZqN j k 0 ops then Ztk ops a ks else false)else false
    |none=>Ztk ops a ks
def ZtJ(ops:List Oper)(j:Nat):List Nat->Bool
  |[]=>false
  | k::ks=>match Xt ops k with
    |some x=>bif Nat.beq x j then true else ZtJ ops j ks
    |none=>ZtJ ops j ks
def Zpi(ops:List Oper)(L:List Nat):List Nat->Bool
  |[]=>true
  |j::a=>bif ZtJ ops j L then Zpi ops L a else false
def ZEA(ops:Array Oper)(m:Nat)(L:List Nat)(a:List Nat):Bool:=
  bif ZrK ops m [] L then(bif ZG1 m L 0 ops.toList then(bif Ztk ops.toList a L then Zpi ops.toList L a else false)else false)else false
def ZmN(ops:List Oper)(j:Nat):List Edge->Bool
  |[]=>false
  | e::es=>bif Region.binds .any e then(match Xt ops e.on with
    |some x=>bif Nat.beq x j then true else ZmN ops j es
    |none=>ZmN ops j es)else ZmN ops j es
def eAt(ops:List Oper)(after:List Edge)(a:List Nat)(vs:List EV)(e:Env):Env:=⟨λj=>match Zar a vs j with
  |some v=>bif ZmN ops j after then some v else none
  |none=>bif Zdx a j then none else e.f j,e.mD⟩
def ZBW:List Nat->Nat->EV->List EV->List EV
  |s::a,j,v,x::xs=>bif Nat.beq j s then v::xs else x::ZBW a j v xs
  |_,_,_,xs=>xs
inductive OrdT where
  |done|take (i:Nat) (fr:Bool) (r:OrdT)|fork (i:Nat) (r:OrdT) (j:Nat) (s:OrdT)|inv (L slots:List Nat) (tys:List VT) (r:OrdT)
def OrdT.depth:OrdT->Nat
  | .done=>0
  | .take _ _ r=>r.depth+1
  | .fork _ r _ s=>Nat.max r.depth s.depth+1
  | .inv L _ _ r=>r.depth+L.length
def ZE2(c:Cfg)(ops:Array Oper)(o:Oper)(hd:ZhH)(e:Env)(h:Zf)(rest:ZhH->Env->Zf->Prop):Prop:=
  Zoa ops.toList o e (λe=>opP c o.op e h λv h'=>ZsR c.n e o.dst v λa=>Zsd h' (Zsr o hd) (rest (Zsr o hd) a h'))
   (λe=>ZsR c.n e o.dst (.val undef) λa=>rest hd a h)
def ZHF(c:Cfg)(ops:Array Oper)(o:Oper)(hd:ZhH)(e:Env)(h:Zf)(rest:ZhH->Env->Zf->Prop):Prop:=
  Zoa ops.toList o e (λe=>opP c o.op e h λv _=>ZsR c.n e o.dst v λa=>rest hd a h)
   (λe=>ZsR c.n e o.dst (.val undef) λa=>rest hd a h)
def ZDU(c:Cfg)(ops:Array Oper)(o:Oper)(m i:Nat)(a:Bool):Bool:=
  bif ZcB m i o then(match ZgT c o.op with
    | .other=>ZlB m i 0 ops.toList
    |_=>bif a then Zo1 ops o m i 0 ops.toList else ZlB m i 0 ops.toList)else false
def ZqM(c:Cfg)(ops:Array Oper):OrdT->Nat->Bool
  | .done,m=>ZxR m 0 ops.toList
  | .fork i r j s,m=>
    match ops[i]?,ops[j]? with
    |some o,some p=>bif ZcB m i o&&(ZcB m j p&&Zpt m i j 0 ops.toList)then(bif ZqM c ops r (ZqB m i)then ZqM c ops s (ZqB m j)else false)else false
    |_,_=>false
  | .take i b r,m=>
    match ops[i]? with
    |none=>false
    |some o=>bif ZDU c ops o m i b then ZqM c ops r (ZqB m i)else false
  | .inv L a tys r,m=>bif ZEA ops m L a&&Nat.beq a.length tys.length then ZqM c ops r (L.foldl ZqB m)else false
def ZqL(c:Cfg)(ops:Array Oper)(K:Env->Zf->Prop):OrdT->ZhH->Env->Zf->Prop
  | .done,_,e,h=>K e h
  | .fork i r j s,hd,e,h=>
    match ops[i]?,ops[j]? with
    |some o,some p=>Zlh (ZE2 c ops o hd e h (ZqL c ops K r)) (ZE2 c ops p hd e h (ZqL c ops K s))
    |_,_=>False
  | .inv L a tys r,hd,e,h=>
    ZSB (λI d t h'=>ZIB ops L d (λk o=>opP c o.op (eAt ops.toList o.after.toList a (Xn.evs tys t) e) h' λv h''=>Zsd h'' (Zsr o hd) (match o.dst with
     |none=>I (setB d k) t h''
     | some j=>bif Nat.blt j c.n then(match Xn.un tys (ZBW a j v (Xn.evs tys t))with
       |some t'=>I (setB d k) t' h''
       |none=>False)else False)) L)
     (λd t h'=>ZnM d L (Zsd h' hd (ZqL c ops K r hd (Zo3 a (Xn.evs tys t) [] e) h'))) h
  | .take i g r,hd,e,h=>
    match ops[i]? with
    |none=>False
    | some o =>
      match ZgT c o.op with
      | .pure=>ZHF c ops o hd e h (ZqL c ops K r)
      | .load t x=>bif g then
          Zoa ops.toList o e (λe=>match e.ev x with
           |some y=>atP y λb p=>ldH c.P t h b p λv cells=>ZsR c.n e o.dst v λf=>ZqL c ops K r ((i,λh'=>Zo h' cells)::hd) f h
           |none=>False)
           (λe=>ZsR c.n e o.dst (.val undef) λf=>ZqL c ops K r hd f h)
        else ZHF c ops o hd e h (ZqL c ops K r)
      | .text x=>bif g then
          Zoa ops.toList o e (λe=>match e.ev x with
           |some (.val (.slice p l n))=>b2s ⟨p,l,n⟩ h λs=>ZsR c.n e o.dst (.val (.string s)) λf=>ZqL c ops K r ((i,λh'=>b2s ⟨p,l,n⟩ h' λs'=>s'=s)::hd) f h
           |_=>False)
           (λe=>ZsR c.n e o.dst (.val undef) λf=>ZqL c ops K r hd f h)
        else ZE2 c ops o hd e h (ZqL c ops K r)
      | .other=>ZE2 c ops o hd e h (ZqL c ops K r)
inductive Ann where
  |leaf
  |seq (a b:Ann)
  |cut (slots:List Nat) (tys:List VT) (kill:List (Nat×Nat)) (a b:Ann)
  |cond (a b:Ann)
  |block (a:Ann)
  |loop (slots:List Nat) (tys:List VT) (kill:List (Nat×Nat)) (a:Ann)
  |order (l:OrdT)
  |range (tys:List VT) (a b:Ann)
inductive Ex where
  |normal|exit (id:Nat)|ret
def ZvU(e:Env):List Nat->Option (List EV)
  |[]=>some []
  | s::a=>match e s,ZvU e a with
    |some v,some vs=>some (v::vs)
    |_,_=>none
def Ztr(a:List Nat)(tys:List VT)(e:Env):Option (Xn tys):=
  match ZvU e a with
  |some es=>Xn.un tys es
  |none=>none
def Zx3(a:List Nat)(tys:List VT)(e:Env)(J:Xn tys->Zf->Prop)(h:Zf):Prop:=
  match Ztr a tys e with
  |some t=>J t h
  |none=>False
def mkN:Nat:=4294967291
def Zgx:Code->List Nat
  | .region _ ops _=>ops.toList.filterMap (·.dst)
  | .seq a b=>Zgx a++Zgx b
  | .cond _ a b=>Zgx a++Zgx b
  | .block _ a=>Zgx a
  | .loop a=>Zgx a
  | .rangeFunc _ _ _ _=>[mkN]
  |_=>[]
def ZuM(b:List Nat)(kill:List (Nat×Nat))(a:Code):Bool:=(Zgx a).all λj=>bif Nat.beq j mkN then false else Zdx b j||Zsa kill j
def ZBr(K:Env->Zf->Prop)(Q:Ex->Env->Zf->Prop):Ex->Env->Zf->Prop
  | .normal,e,h=>K e h
  | .exit id,e,h=>Q (.exit id) e h
  | .ret,e,h=>Q .ret e h
def ZCg(id:Nat)(Q:Ex->Env->Zf->Prop):Ex->Env->Zf->Prop
  | .normal,e,h=>Q .normal e h
  | .exit a,e,h=>bif Nat.beq a id then Q .normal e h else Q (.exit a) e h
  | .ret,e,h=>Q .ret e h
def Zpl(n:Nat)(e:Env):List Tmp->List EV->Option Env
  |[],[]=>some e
  |p::a,v::vs=>bif Nat.blt p n then Zpl n (e.set p v) a vs else none
  |_,_=>none
def ZEJ(a:Code):Bool:=Zdx (Zgx a) mkN
def Zyf:Op->Bool
  | .defer _=>true
  |_=>false
def ZlF:List Oper->Bool
  |[]=>true
  |o::os=>bif Zyf o.op then false else ZlF os
def Ann.fst:Ann->Ann
  | .seq a _| .cut _ _ _ a _| .cond a _| .block a| .loop _ _ _ a| .range _ a _=>a
  | .leaf| .order _=>.leaf
def Ann.snd:Ann->Ann
  | .seq _ b| .cut _ _ _ _ b| .cond _ b| .range _ _ b=>b
  |_=>.leaf
def ZBZ(K:Env->Zf->Prop):Ex->Env->Zf->Prop
  | .normal,e,h=>K e h
  |_,_,_=>False
def ZBY(k:Option Code->Zf->Prop):Ex->Env->Zf->Prop
  | .normal,_,h=>k none h
  | .exit id,_,h=>k (some (.exit id)) h
  | .ret,_,h=>k (some .ret) h
def wpC(c:Cfg):Code->Ann->Env->Zf->(Ex->Env->Zf->Prop)->Prop
  | .skip,_,e,h,Q=>Q .normal e h
  | .region _ ops draw,d,e,h,Q=>
    match draw with
    | true=>match d with
      | .order l=>bif Region.noSelect ops&&(Nat.ble l.depth ops.size&&(ZlF ops.toList&&ZqM c ops l 0))then ZqL c ops (λj h'=>Q .normal j h') l [] e h else False
      |_=>bif c.rnd.isNone&&Region.lexB .any ops then ZgQ c (ZxD c) ops.toList ops.toList e h λj h'=>Q .normal j h' else False
    |false=>ZgQ c (ZG6 c) ops.toList ops.toList e h λj h'=>Q .normal j h'
  | .seq a b,d,e,h,Q=>
    match d with
    | .cut i tys kill x y=>
      bif ZuM i kill a then
        Zf1 (λt h'=>wpC c b y (Zo3 i (Xn.evs tys t) kill e) h' Q) (λJ=>wpC c a x e h (ZBr (λj h'=>Zx3 i tys j J h') Q))
      else False
    |d=>wpC c a d.fst e h (ZBr (λj h'=>wpC c b d.snd j h' Q) Q)
  | .cond x a b,d,e,h,Q=>
    match e.ev x with
    |some (.lit true)=>wpC c a d.fst e h Q
    |some (.lit false)=>wpC c b d.snd e h Q
    |some (.val (.bool v))=>Zk v (wpC c a d.fst e h Q) (wpC c b d.snd e h Q)
    |_=>False
  | .block id a,d,e,h,Q=>wpC c a d.fst e h (ZCg id Q)
  | .loop a,d,e,h,Q=>
    match d with
    | .loop i tys kill x=>
      bif ZuM i kill a then
        match Ztr i tys e with
        |some t0=>ZP (λJ t h'=>wpC c a x (Zo3 i (Xn.evs tys t) kill e) h' (ZBr (λj h''=>Zx3 i tys j J h'') Q)) t0 h
        |none=>False
      else False
    |_=>False
  | .exit id,_,e,h,Q=>Q (.exit id) e h
  | .ret,_,e,h,Q=>Q .ret e h
  | .rangeFunc g m assign body,d,e,h,Q=>
    match d with
    | .range tys x y=>bif c.rnd.isNone&&e.mD.isNo then
      (match e.ev g with
      | some (.val (.func (.func f) ⟨[]⟩ ⟨cs⟩))=>match ZvW f (cs.map EV.val) c.iters with
        | some ⟨s,t⟩=>
          Zpp m.size (λY l K h'=>s.sem Y l t K h')
           (λl r vs h' k=>ZyS (λa:Xn tys=>(Xn.evs tys a).map EV.v) vs λa=>match Zpl c.n ⟨e.f,.no⟩ m.toList (Xn.evs tys a)with
             | some o=>wpC {c with rnd:=some l,pan:=λ_ _=>False} assign x o h' (ZBZ λq u=>
                 ZtQ r l u λh3=>wpC {c with rnd:=some l,pan:=λ_ _=>False} body y q h3 (ZBY k))
             |none=>False)
           h λp D h'=>Zv7 p (Q .normal ⟨e.f,.at_ D⟩ h') (λid=>Q (.exit id) ⟨e.f,.at_ D⟩ h') (Q .ret ⟨e.f,.at_ D⟩ h')
        |none=>False
      |_=>False)
      else False
    |_=>False
  |_,_,_,_,_=>False
def Zzp(c:Cfg)(e:Env)(h:Zf):List ResultVar->(List EV->Prop)->Prop
  |[],K=>K []
  | .tmp t::r,K=>match e.f t with
    |some v=>Zzp c e h r λvs=>K (v::vs)
    |none=>False
  | .cell a t::r,K=>match e.f a with
    |some (.adr b o)=>ldT c.P t h b o λv=>Zzp c e h r λvs=>K (v::vs)
    |_=>False
def Zow(l:List EV):Env:=⟨λj=>go l 0 j,.no⟩
where go:List EV->Nat->Nat->Option EV
  |[],_,_=>none
  |v::vs,i,j=>bif Nat.beq j i then some v else go vs (i+1) j
def ZFz(c:Cfg)(fn:Func)(a:Ann)(args:List EV)(res:List VT)(K:Xn res->Zf->Prop)(b:Value->Zf->Prop)(h:Zf):Prop:=
  match fn.body with
  | some code=>wpC {c with rnd:=none,pan:=bif ZEJ code then λ_ _=>False else b} code a (Zow args) h λex e h'=>
    match ex with
    | .exit _=>False
    | _=>match e.mD with
      | .no=>Zzp c e h' fn.results.toList λvs=>match Xn.un res vs with
        |some r=>K r h'
        |none=>False
      | .at_ D=>Zlq D h' λh'=>Zzp c e h' fn.results.toList λvs=>match Xn.un res vs with
        |some r=>K r h'
        |none=>False
      | .raw _=>False
  |none=>False
theorem Zre(w:World)(b o:Nat):w.cell? ⟨b,o,none⟩=Zf.cell w.heap b o:=by
  unfold World.cell? Zf.cell;simp only[Awf,Aqc,if_false]
  cases w.heap[b]? with
  |none=>rfl
  |some x=>cases x<;>rfl
theorem ZET(w:World)(b o:Nat):w.frozen? ⟨b,o,none⟩=Zf.froz w.heap b o:=by unfold World.frozen? Zf.froz;rfl
theorem ZvJ(w:World)(b o:Nat)(v:Value):w.setCell ⟨b,o,none⟩ v={w with heap:=Zf.put w.heap b o v}:=by
  unfold World.setCell Zf.put;simp only[Awf,Aqc,if_false];refine congrArg (λf=>({w with heap:=w.heap.modify b f}:World)) ?_
  funext x
  cases x<;>rfl
theorem Zoz(b o n:Nat):(⟨b,o,none⟩:Addr).add n=⟨b,o+n,none⟩:=by
  unfold Addr.add;split
  ·rename_i h;subst h;rfl
  ·rfl
theorem ZtV(o i:Nat):ZHS o i=o+i:=by
  unfold ZHS
  cases h:Nat.beq i 0 with
  |false=>rfl
  |true=>have:=Awg h;subst this;rfl
def Same(w w':World):Prop:=w'.tape=w.tape/\w'.os=w.os/\w'.output=w.output
theorem Same.refl(w:World):Same w w:=⟨rfl,rfl,rfl⟩
theorem Same.trans{a b c:World}(h:Same a b)(h':Same b c):Same a c:=⟨h'.1.trans h.1,h'.2.1.trans h.2.1,h'.2.2.trans h.2.2⟩
def ZEl:Mark->List Deferred
  | .no=>[]
  | .at_ D=>[{target:=.collected D,args:= #[]}]
  | .raw a=>a
structure Agr(n:Nat)(e:Env)(a:Act):Prop where
  size:a.tmps.size=n
  defers:a.defers=ZEl e.mD
  val:∀j v,e j=some v->a.tmps[j]?=some v.v
theorem Agr.ev{n:Nat}{e:Env}{a:Act}(h:Agr n e a){x:Operand}{v:EV}(b:e.ev x=some v):a.eval x=v.v:=by
  cases x with
  |tmp t=>have:=h.val t v b;simp[Act.eval,this]
  | const c=>
    cases c<;>simp only[Env.ev,Awh]at b<;>subst b<;>rfl
  |global g=>simp only[Env.ev,Awh]at b;subst b;rfl
  |func f=>simp only[Env.ev,Awh]at b;subst b;rfl
theorem Agr.evs{n:Nat}{e:Env}{a:Act}(h:Agr n e a):∀{xs:List Operand} {vs:List EV},evs e xs=some vs->xs.map a.eval=vs.map EV.v
  |[],vs,b=>by simp only[Fw.evs,Awh]at b;subst b;rfl
  | x::xs,vs,b=>by
    simp only[Fw.evs]at b;split at b
    ·rename_i v c h1 d;simp only[Awh]at b;subst b;simp[h.ev h1,h.evs d]
    ·cases b
theorem Agr.set{n:Nat}{e:Env}{a:Act}(h:Agr n e a){d:Nat}(hd:Nat.blt d n=true)(v:EV):Agr n (e.set d v) (a.put (some d) v.v):=by
  have f:d<n:=by rw[Nat.blt_eq]at hd;exact hd
  refine⟨by simp[Act.put,h.size],by simp[Act.put,h.defers,Env.set],λj u b=>?_⟩;unfold Env.set at b;dsimp only at b
  cases c:Nat.beq j d with
  | true=>
    have:=Awg c;subst this;rw[c]at b;simp only[cond_true,Awh]at b;subst b;simp[Act.put,h.size,f]
  | false=>
    have g:j≠d:=Awi c;rw[c]at b;simp only[cond_false]at b;have:=h.val j u b;simp[Act.put,Awj (Ne.symm g),this]
theorem Agr.tell{n:Nat}{e:Env}{a:Act}(h:Agr n e a){t:Nat}{b:Bool}(f:e t=some (.val (.bool b))):Agr n (e.set t (.lit b)) a:=by
  refine⟨h.size,h.defers,λj u c=>?_⟩;unfold Env.set at c;dsimp only at c
  cases d:Nat.beq j t with
  | true=>
    have:=Awg d;subst this;rw[d]at c;simp only[cond_true,Awh]at c;subst c;have:=h.val j _ f;exact this
  | false=>
    rw[d]at c;exact h.val j u c
theorem Zeb{n:Nat}{e:Env}{a:Act}(h:Agr n e a){d:Option Tmp}{v:EV}{K:Env->Prop}(b:ZsR n e d v K):
    ∃f,Agr n f (a.put d v.v)/\K f:=by
  unfold ZsR at b
  cases d with
  |none=>exact⟨e,h,b⟩
  | some d=>
    simp only at b
    cases c:Nat.blt d n with
    |false=>rw[c]at b;exact b.elim
    |true=>rw[c]at b;exact⟨_,h.set c v,b⟩
section
variable(P:Program)(w:World)
theorem ZiO{b o:Nat}{v:Value}(h:Zf.cell w.heap b o=some v)(m:Mode):(load ⟨b,o,none⟩ m).run P w= .ok v w:=by rw[run_load,Zre,h]
theorem ZoU{b o:Nat}{u v:Value}(h:Zf.cell w.heap b o=some u)(c:Zf.froz w.heap b o=false)(hv:Zs v=true)(m:Mode):
    (store ⟨b,o,none⟩ v m).run P w= .ok () {w with heap:=Zf.put w.heap b o v}:=by
  have a:v.oneCell'=true:=by cases v<;>first|rfl|(simp[Zs]at hv)
  rw[run_store P w _ v m a,Zre,h,ZET,c];simp only[Aqc,if_false,ZvJ]
theorem Zl(t:TypeId){d:TypeDesc}(h:P.underlying t=some d):(underlying t).run P w= .ok d w:=by unfold underlying;simp[h]
theorem ZbO(t:TypeId){i:TypeInfo}(h:P.info? t=some i):(typeInfo t).run P w= .ok i w:=by unfold typeInfo;simp[h]
theorem Xo(t:TypeId){i:TypeInfo}(h:P.info? t=some i):(sizeOf t).run P w= .ok i.size w:=by unfold sizeOf;simp[ZbO P w t h]
theorem Zam(t:TypeId){i:TypeInfo}{v:Value}(h:P.info? t=some i)(hv:i.zero=some v):(zeroValue t).run P w= .ok v w:=by unfold zeroValue;simp[ZbO P w t h,hv]
theorem Zbf{t:TypeId}{d:TypeDesc}(h:P.underlying t=some d):∃i,P.info? t=some i:=by
  unfold Program.underlying at h
  cases hi:P.info? t with
  |none=>simp[hi]at h
  |some i=>exact⟨i,rfl⟩
theorem Zcr{t:TypeId}{i:TypeInfo}(h:P.info? t=some i):P.cellsOf t=i.size:=by unfold Program.cellsOf;simp[h]
theorem Zgk(t:TypeId){d:TypeDesc}(h:P.underlying t=some d):(isAgg t).run P w= .ok (Zck (some d)) w:=by unfold isAgg;simp only[Awk,Zl P w t h,Awl];cases d<;>rfl
theorem Ziw(b o:Nat):∀(vs:List Value) (i:Nat) (acc:Array Value),Zf.has w.heap b (o+i) vs->
    (loadCellsFrom ⟨b,o,none⟩ i vs.length acc).run P w= .ok (acc++vs.toArray) w
  |[],i,acc,_=>by simp[loadCellsFrom]
  | v::vs,i,acc,h=>by
    have h1:Zf.cell w.heap b (o+i)=some v:=h.1;have a:Zf.has w.heap b (o+i+1) vs:=h.2;simp only[Aqj,loadCellsFrom,Awk,Zoz,ZiO P w h1,Awl];rw[Ziw b o vs (i+1) _ (by rw[<-Aqh];exact a)];simp
theorem ZeM(b o:Nat)(vs:List Value)(h:Zf.has w.heap b o vs):(loadCells ⟨b,o,none⟩ vs.length).run P w= .ok vs.toArray w:=by unfold loadCells;rw[Ziw P w b o vs 0 #[] (by simpa using h)];simp
end
theorem ZtP{h:Zf}{b o a c:Nat}{v:Value}(d:b≠a\/o≠c):(h.put b o v).cell a c=h.cell a c:=by
  unfold Zf.put Zf.cell;simp only[Aqi]
  by_cases e:b=a
  ·subst e;have ho:o≠c:=d.resolve_left (λh=>h rfl);simp only[if_true]
   cases f:h[b]? with
   |none=>rfl
   |some x=>cases x<;>simp[Awj ho]
  ·simp[e]
theorem ZBj{h:Zf}{b o a c:Nat}{v:Value}:(h.put b o v).froz a c=h.froz a c:=by
  unfold Zf.put Zf.froz;simp only[Aqi]
  by_cases d:b=a
  ·subst d;simp only[if_true]
   cases e:h[b]? with
   |none=>rfl
   |some x=>cases x<;>rfl
  ·simp[d]
theorem ZuH{h:Zf}{b o:Nat}{v:Value}:∀{n a:Nat},o<a->h.free b a n->(h.put b o v).free b a n
  | 0,_,_,_=>trivial
  | n+1,a,c,d=>by
    obtain⟨⟨⟨u,hu⟩,hz⟩,e⟩:=d;exact⟨⟨⟨u,by rw[ZtP (.inr (by omega))];exact hu⟩,by rw[ZBj];exact hz⟩,ZuH (by omega) e⟩
theorem Zf6(P:Program)(b o:Nat):∀(vs:List Value) (i:Nat) (w:World),Zf.free w.heap b (o+i) vs.length->vs.all Zs=true->
    (storeCells ⟨b,o,none⟩ vs i).run P w= .ok () {w with heap:=Zf.puts w.heap b (o+i) vs}
  |[],i,w,_,_=>rfl
  | v::vs,i,w,c,a=>by
    obtain⟨⟨⟨u,hu⟩,hz⟩,d⟩:=c;simp only[Awm,Awn]at a;simp only[storeCells,Awk,Zoz,ZoU P w hu hz a.1,Awl];rw[Zf6 P b o vs (i+1) _ (by rw[<-Aqh];exact ZuH (by omega) d) a.2];simp[Zf.puts,Aqh]
theorem Zk7{d:Option TypeDesc}{h:Zf}{b o:Nat}{K:EV->Prop}(a:Zn1 d h b o K):
    ∃v,h.cell b o=some v.v/\K v/\Zck d=false/\d.isSome=true:=by
  unfold Zn1 at a
  cases d with
  |none=>exact a.elim
  | some d=>
    cases d<;>simp only at a<;>first
      |exact a.elim
      |(obtain⟨x,c,e⟩:=a;refine⟨_,?_,e,rfl,rfl⟩;exact c)
theorem Zmn{h:Zf}{b o:Nat}:∀{c:List (Option TypeDesc)} {i:Nat} {K:List Value->Prop},ZBf h b o i c K->
    ∃vs,vs.length=c.length/\h.has b (o+i) vs/\K vs
  |[],i,K,a=>⟨[],rfl,trivial,a⟩
  | d::c,i,K,a=>by
    obtain⟨v,e,a,_⟩:=Zk7 a;obtain⟨vs,hl,f,a⟩:=Zmn a;rw[ZtV]at e;exact⟨v.v::vs,by simp[hl],⟨e,by rw[Aqh];exact f⟩,a⟩
theorem ZuB{P:Program}{t:TypeId}{b o:Nat}{K:EV->Prop}{h:Zf}(a:ldT P t h b o K):
    ∃v,(∀w:World,w.heap=h->(loadVar t ⟨b,o,none⟩).run P w= .ok v.v w)/\K v:=by
  unfold ldT at a
  cases hu:P.underlying t with
  |none=>rw[hu]at a;simp[Zck,Zn1]at a
  | some d=>
    obtain⟨i,hi⟩:=Zbf P hu;rw[hu]at a;unfold loadVar
    cases c:Zck (some d)with
    | true=>
      rw[c]at a;simp only[cond_true]at a
      cases hl:Nat.beq (Zg3 P 8 t).length (P.cellsOf t)with
      |false=>rw[hl]at a;exact a.elim
      | true=>
        rw[hl]at a;obtain⟨vs,hlen,e,a⟩:=Zmn a;have hs:i.size=vs.length:=by rw[hlen,Awg hl,Zcr P hi]
        refine⟨.val (.agg vs.toArray),λw hw=>?_,a⟩;subst hw;simp only[Awk,Zgk P w t hu,c,Awl,if_true,Xo P w t hi,hs];rw[ZeM P w b o vs (by simpa using e)];rfl
    | false=>
      rw[c]at a;obtain⟨v,f,a,_⟩:=Zk7 a;refine⟨v,λw hw=>?_,a⟩;subst hw;simp only[Awk,Zgk P w t hu,c,Awl,Aqc,if_false];exact ZiO P w f _
def ZGW(vs:List VT)(t:Xn vs):Value:=(Zhc (Xn.evs vs t)).v
def fen(r:Option Nat):Fence:={fn:=λ_=>True,depth:=none,alive:=false,round:=r}
theorem Zjs{r:Option Nat}{n:Nat}{P:Program}{f:FuncId}{args:Array Value}{w:World}{R:Ending->World->Prop}:CallsIn (fen r) n P f args w R↔Calls P f args w R:=
  callsIn_wide (n:=n)
def ZkK(res:List VT)(w:World)(K:Xn res->Zf->Prop)(a:Value->Zf->Prop):Ending->World->Prop:=λe w'=>
  (∃r,e= .returned (ZGW res r)/\Same w w'/\K r w'.heap)\/(∃v,e= .panicked [{v,recovered:=false}]/\Same w w'/\a v w'.heap)
def ZBE(P:Program)(l:Nat)(vs:List Value)(w:World)(k:Bool->Zf->Prop):Prop:=
  ∃ fn tmps assign body,(Instr.yield l vs.toArray).run P w= .ok (.round l fn tmps assign body) w/\
    RoundIn (fen none) 0 P l fn tmps assign body w λe w'=>∃b,e= .returned (.bool b)/\Same w w'/\k b w'.heap
def YOK(P:Program)(Y:Yld):Prop:=∀l vs k w,Y l vs k w.heap->ZBE P l vs w k
structure Zr(P:Program)(f:FuncId)(s:Zg):Prop where
  named:∃fn,P.funcs[f]?=some fn/\(fn.name== "runtime.NumGoroutine")=false/\fn.body.isNone=false
  calls:∀(t:Xn s.args) (K:Xn s.res->Zf->Prop) (Kp:Value->Zf->Prop) (w:World),s.sem t K Kp w.heap->
    Calls P f ((Xn.evs s.args t).map EV.v).toArray w (ZkK s.res w K Kp)
def ZcP.spec(s:ZcP)(Y:Yld):Zg:=⟨.yl::s.caps,[],λt K _ h=>s.sem Y t.1 t.2 (λh'=>K () h') h⟩
def ZsI(P:Program)(f:FuncId)(s:ZcP):Prop:=∀Y,YOK P Y->Zr P f (s.spec Y)
def Zzf(P:Program)(f:FuncId):Prop:=∀(t b:Nat) (es:Array MapEntry) (c:Nat) (w:World),w.heap[b]?=some (.map es c)->
  ∃w',(callFunc f #[.iface t (.map (some b))]).run P w= .ok (.value (.iface t (.map (some w.heap.size)))) w'/\Same w w'/\w'.heap=w.heap.push (.map es c)
def Zzi(P:Program)(f:FuncId):Prop:=∀(x y z:Int) (w:World),z.toNat<=1->(callFunc f #[.int .u64 x,.int .u64 y,.int .u64 z]).run P w= .ok (.value (.tuple #[.int .u64 (ZsE x y z),.int .u64 (Zsu x y z)])) w
def Zu6(P:Program)(name:String)(t:TypeId)(f:FuncId):Prop:=∀(v:Value) (w:World),(method (P.types.size+Made.depth) t v name).run P w= .ok (f,v) w
structure Cfg.OK(c:Cfg):Prop where
  calls:∀x,x∈c.calls->Zr c.P x.1 x.2
  ext:∀f,f∈c.ext->Zzf c.P f
  dyn:∀x,x∈c.dyn->Zu6 c.P x.1 x.2.1 x.2.2
  iters:∀x,x∈c.iters->ZsI c.P x.1 x.2
  yld:YOK c.P c.yld
  adds:∀f,f∈c.adds->Zzi c.P f
theorem Cfg.OK.at{c:Cfg}(h:c.OK)(r:Option Nat)(p:Value->Zf->Prop):Cfg.OK {c with rnd:=r,pan:=p}:=⟨h.calls,h.ext,h.dyn,h.iters,h.yld,h.adds⟩
theorem Zis(P:Program):YOK P ZlE:=λ_ _ _ _ h=>h.elim
theorem ZnJ{f:FuncId}{es:List EV}:∀{l:List (FuncId×ZcP)} {p:Zy4},ZvW f es l=some p->(f,p.s)∈l/\Xn.un p.s.caps es=some p.t
  |[],p,h=>by simp[ZvW]at h
  | (g,s)::r,p,h=>by
    simp only[ZvW]at h
    cases a:Nat.beq f g with
    | false=>
      rw[a]at h;have:=ZnJ (l:=r) h;exact⟨.tail _ this.1,this.2⟩
    | true=>
      rw[a]at h;have he:=Awg a;subst he;simp only[cond_true]at h;split at h
      ·rename_i t b;simp only[Awh]at h;subst h;exact⟨.head _,b⟩
      ·have:=ZnJ (l:=r) h;exact⟨.tail _ this.1,this.2⟩
theorem ZjX{f:FuncId}{es:List EV}:∀{l:List (FuncId×Zg)} {p:ZCi},ZoX f es l=some p->(f,p.s)∈l/\Xn.un p.s.args es=some p.t
  |[],p,h=>by simp[ZoX]at h
  | (g,s)::r,p,h=>by
    simp only[ZoX]at h
    cases a:Nat.beq f g with
    | false=>
      rw[a]at h;have:=ZjX (l:=r) h;exact⟨.tail _ this.1,this.2⟩
    | true=>
      rw[a]at h;have he:=Awg a;subst he;simp only[cond_true]at h;split at h
      ·rename_i t b;simp only[Awh]at h;subst h;exact⟨.head _,b⟩
      ·have:=ZjX (l:=r) h;exact⟨.tail _ this.1,this.2⟩
theorem Zlz{f:FuncId}{es:List EV}:∀{l:List (FuncId×Zg)} {p:Zro},ZoW f es l=some p->(f,(⟨p.a0::p.rest,p.res,p.sem⟩:Zg))∈l/\Xn.un p.rest es=some p.t
  |[],p,h=>by simp[ZoW]at h
  | (g,⟨a0::rest,res,sem⟩)::r,p,h=>by
    simp only[ZoW]at h
    cases a:Nat.beq f g with
    | false=>
      rw[a]at h;have:=Zlz (l:=r) h;exact⟨.tail _ this.1,this.2⟩
    | true=>
      rw[a]at h;have he:=Awg a;subst he;simp only[cond_true]at h;split at h
      ·rename_i t b;simp only[Awh]at h;subst h;exact⟨.head _,b⟩
      ·have:=Zlz (l:=r) h;exact⟨.tail _ this.1,this.2⟩
  | (g,⟨[],res,sem⟩)::r,p,h=>by
    simp only[ZoW]at h;have:=Zlz (l:=r) h;exact⟨.tail _ this.1,this.2⟩
theorem Zsq{calls:List (FuncId×Zg)}{b:Value->Zf->Prop}{name:String}{v:Value}{es:List EV}{h:Zf}{K:EV->Zf->Prop}:∀{l:List (String×TypeId×FuncId)},ZE3 calls b name v es h K l->
    ∃(t:TypeId) (f:FuncId) (p:Zro) (x:p.a0.D),(name,t,f)∈l/\v= .iface t (p.a0.ev x).v/\ZoW f es calls=some p/\p.sem (x,p.t) (λd h'=>K (Zhc (Xn.evs p.res d)) h') b h
  |[],a=>a.elim
  | (n,t,f)::r,a=>by
    have tail:ZE3 calls b name v es h K r->∃(t':TypeId) (c:FuncId) (p:Zro) (x:p.a0.D),(name,t',c)∈(n,t,f)::r/\v= .iface t' (p.a0.ev x).v/\ZoW c es calls=some p/\p.sem (x,p.t) (λd h'=>K (Zhc (Xn.evs p.res d)) h') b h:=λg=>by
      obtain⟨t',c,p,x,h1,i,h3,j⟩:=Zsq g;exact⟨t',c,p,x,.tail _ h1,i,h3,j⟩
    simp only[ZE3]at a
    cases e:n==name with
    |false=>rw[e]at a;exact tail a
    | true=>
      rw[e]at a;have he:n=name:=by simpa using e
      subst he;simp only[cond_true]at a;split at a
      ·rename_i p k
       rcases a with⟨x,m,a⟩ |a
       ·exact⟨t,f,p,x,.head _,m,k,a⟩
       ·exact tail a
      ·exact tail a
theorem Zm7{calls:List (FuncId×Zg)}{d:Value->Zf->Prop}{v:Value}{es:List EV}{h:Zf}{K:EV->Zf->Prop}:∀{l:List (FuncId×List Leaf)},fnP calls d v es h K l->
    ∃(f:FuncId) (cs:List Value) (s:Zg) (t:Xn s.args),v= .func (.func f) #[] ⟨cs⟩/\ZoX f (Zzq es cs) calls=some ⟨s,t⟩/\s.sem t (λe h'=>K (Zhc (Xn.evs s.res e)) h') d h
  |[],a=>a.elim
  | (f,[])::r,a=>by
    simp only[fnP]at a;split at a
    ·rename_i s t b
     rcases a with⟨hv,a⟩ |a
     ·exact⟨f,[],s,t,hv,by simpa[Zzq]using b,a⟩
     ·exact Zm7 a
    ·exact Zm7 a
  | (f,l::ls)::r,a=>by
    simp only[fnP]at a
    rcases a with⟨c,hv,a⟩ |a
    ·split at a
     ·rename_i s t b;exact⟨f,_,s,t,hv,b,a⟩
     ·exact a.elim
    ·exact Zm7 a
theorem Zq4{f:FuncId}:∀{l:List FuncId},ZB9 f l=true->f∈l
  |[],h=>by simp[ZB9]at h
  | g::r,h=>by
    simp only[ZB9]at h
    cases a:Nat.beq f g with
    |true=>rw[Awg a];exact .head _
    |false=>rw[a]at h;exact .tail _ (Zq4 h)
theorem ZGI{l:Leaf}{v:Value}{x:l.D}(h:l.un v=some x):l.mk x=v:=by
  cases l<;>cases v<;>simp only[Leaf.un]at h<;>first
    | (split at h
       ·simp only[Awh]at h;subst h;rename_i a;subst a;rfl
       ·cases h)
    |(simp only[Awh]at h;subst h;rfl)
    |cases h
theorem Zxf:∀{ls:List Leaf} {vs:List Value} {t:Tup ls},Tup.un ls vs=some t->Tup.vals ls t=vs
  |[],[],t,_=>rfl
  |[],_::_,t,h=>by simp[Tup.un]at h
  |_::_,[],t,h=>by simp[Tup.un]at h
  | l::ls,v::vs,t,h=>by
    simp only[Tup.un]at h;split at h
    ·rename_i x t' h1 a;simp only[Awh]at h;subst h;simp only[Tup.vals,ZGI h1,Zxf a]
    ·cases h
theorem ZBl{f:FuncId}{e:EV}{x:Unit}(h:fnU f e=some x):(EV.val (.func (.func f) #[] #[])).v=e.v:=by
  unfold fnU at h;split at h
  ·rename_i g
   cases a:Nat.beq f g with
   |false=>rw[a]at h;cases h
   |true=>rw[Awg a]
  ·cases h
theorem ZyI{f:FuncId}{ls:List Leaf}{e:EV}{x:Tup ls}(h:ZPc f ls e=some x):(EV.val (.func (.func f) #[] ⟨Tup.vals ls x⟩)).v=e.v:=by
  unfold ZPc at h;split at h
  ·rename_i g cs
   cases a:Nat.beq f g with
   |false=>rw[a]at h;cases h
   | true=>
     rw[a]at h;rw[Awg a,Zxf (ls:=ls) (vs:=cs) h]
  ·cases h
theorem ZAH{e:EV}{l:Nat}(h:ylU e=some l):(EV.val (.func (.yield l) #[] #[])).v=e.v:=by
  unfold ylU at h;split at h
  ·simp only[Awh]at h;subst h;rfl
  ·cases h
theorem ZOD{v:VT}{e:EV}{x:v.D}(h:v.un e=some x):(v.ev x).v=e.v:=by
  cases v with
  |one l=>exact ZGI (v:=e.v) h
  | agg ls=>
    cases e with
    | val u=>
      cases u with
      | agg cs=>
        have:=Zxf (ls:=ls) (vs:=cs.toList) h;show Value.agg (Tup.vals ls x).toArray= .agg cs;rw[this]
      |_=>simp[VT.un]at h
    |lit b=>simp[VT.un]at h
    |adr b o=>simp[VT.un]at h
    |itr t b=>simp[VT.un]at h
    |more k v=>simp[VT.un]at h
    |over=>simp[VT.un]at h
  |fn f=>exact ZBl h
  |clo f ls=>exact ZyI h
  |yl=>exact ZAH h
theorem Zh5:∀{vs:List VT} {es:List EV} {t:Xn vs},Xn.un vs es=some t->(Xn.evs vs t).map EV.v=es.map EV.v
  |[],[],t,_=>rfl
  |[],_::_,t,h=>by simp[Xn.un]at h
  |_::_,[],t,h=>by simp[Xn.un]at h
  | v::vs,e::es,t,h=>by
    simp only[Xn.un]at h;split at h
    ·rename_i x t' h1 a;simp only[Awh]at h;subst h;simp only[Xn.evs,Awo,ZOD h1,Zh5 a]
    ·cases h
theorem ZxQ{P:Program}{ρ:Operand->Value}{o:Oper}{w w':World}{n:Next}(a:(execOp ρ o).run P w= .ok n w')(b:∀d,n≠ .defer d):∀c,o.op≠ .defer c:=by
  intro c e;unfold execOp at a;rw[e]at a;simp only[Awk]at a
  cases h:(resolve ρ c o.type).run P w with
  | ok d w1=>
    rw[h]at a;simp only[Awl,Awp]at a;cases a;exact b _ rfl
  | halt x w1=>
    rw[h]at a;cases a
theorem Zls{P:Program}{r:Option Nat}{ρ:Operand->Value}{o:Oper}{w w':World}{n:Next}(a:(execOp ρ o).run P w= .ok n w')(b:∀d,n≠ .defer d):(o.semAt r ρ).run P w= .ok n w':=by rw[Oper.semAt_eq _ _ _ (ZxQ a b)];exact a
theorem ZBO{P:Program}{r:Option Nat}{o:Oper}{a:Act}{w w':World}{v:Value}{next:Act->World->Prop}{Q:Exit->Act->World->Prop}
    (b:(execOp a.eval o).run P w= .ok (.value v) w') (c:next (a.put o.dst v) w'):o.wpIn (fen r) 0 P a w next Q:=by
  refine⟨λ_ _=>trivial,?_⟩;rw[show(fen r).round=r from rfl,Zls b (λ_ h=>by cases h)];exact c
theorem Zql{P:Program}{r:Option Nat}{o:Oper}{a:Act}{w w':World}{next:Act->World->Prop}{Q:Exit->Act->World->Prop}
    (b:(execOp a.eval o).run P w= .ok .skip w') (c:next (a.put o.dst undef) w'):o.wpIn (fen r) 0 P a w next Q:=by
  refine⟨λ_ _=>trivial,?_⟩;rw[show(fen r).round=r from rfl,Zls b (λ_ h=>by cases h)];exact c
theorem Zqm{P:Program}{r:Option Nat}{o:Oper}{a:Act}{w:World}{f:FuncId}{args:Array Value}{next:Act->World->Prop}{Q:Exit->Act->World->Prop}
    (c:(execOp a.eval o).run P w= .ok (.enter f args) w) (d:Calls P f args w λ
      | .returned v,b=>next (a.put o.dst v) b
      | .panicked chain,b=>Q (.panic chain) a b
      | .outgrown,_=>LetsOut Q):o.wpIn (fen r) 0 P a w next Q:=by
  refine⟨λ_ _=>trivial,?_⟩;rw[show(fen r).round=r from rfl,Zls c (λ_ h=>by cases h)];exact⟨λh=>(by cases h),Zjs.2 d⟩
theorem ZAJ{P:Program}{r:Option Nat}{o:Oper}{a:Act}{w:World}{l:Nat}{f:FuncId}{tmps:Array Value}{assign body:Code}{next:Act->World->Prop}{Q:Exit->Act->World->Prop}
    (d:(execOp a.eval o).run P w= .ok (.round l f tmps assign body) w) {k:Bool->World->Prop} (g:RoundIn (fen none) 0 P l f tmps assign body w λe w'=>∃b,e= .returned (.bool b)/\k b w')
    (i:∀b w',k b w'->next (a.put o.dst (.bool b)) w'):o.wpIn (fen r) 0 P a w next Q:=by
  refine⟨λ_ _=>trivial,?_⟩;rw[show(fen r).round=r from rfl,Zls d (λ_ h=>by cases h)];refine⟨λh=>(by cases h),?_⟩;have c:RoundIn (fen r) (0-1) P l f tmps assign body w λe w'=>∃b,e= .returned (.bool b)/\k b w':=g;refine c.mono ?_;rintro e w' ⟨b,rfl,j⟩;exact i _ _ j
theorem ZAK{P:Program}{r:Option Nat}{o:Oper}{a:Act}{w:World}{v:Value}{next:Act->World->Prop}{Q:Exit->Act->World->Prop}
    (hd:∀c,o.op≠ .defer c) (b:(execOp a.eval o).run P w= .halt (.panic v) w) (d:Q (.panic [{v,recovered:=false}]) a w):o.wpIn (fen r) 0 P a w next Q:=by
  refine⟨λ_ _=>trivial,?_⟩;rw[show(fen r).round=r from rfl,Oper.semAt_eq _ _ _ hd,b];exact d
theorem Zxz{P:Program}{w w':World}{s:Sem Value}{v:Value}(h:s.run P w= .ok v w'):
    (do pure (.value (<-s)):Sem Next).run P w= .ok (.value v) w':=by
  simp[h]
theorem ZD1{P:Program}{w w':World}{s:Sem Unit}(h:s.run P w= .ok () w'):
    (do s;pure .skip:Sem Next).run P w= .ok .skip w':=by
  simp[h]
theorem ZBy{P:Program}{op:BinOp}{t:TypeId}{x y:EV}{K:EV->Prop}(c:ZCh op x y K):∃v,(∀w,(binOp op t x.v y.v).run P w= .ok v.v w)/\K v:=by
  unfold ZCh at c;split at c
  ·rename_i k a d b;cases op<;>simp only at c
   case shl=>
     obtain⟨h0,c⟩:=c;refine⟨_,λw=>?_,c⟩;simp only[EV.v,binOp,Op.shift,if_neg (Int.not_lt.2 h0)];rfl
   case shr=>
     obtain⟨h0,c⟩:=c;refine⟨_,λw=>?_,c⟩;simp only[EV.v,binOp,Op.shift,if_neg (Int.not_lt.2 h0)];rfl
   all_goals
     rcases Decidable.em (k=d)with he|he
     case inr=>rw[if_neg he]at c;exact c.elim
     subst he;rw[if_pos rfl]at c
     first
     |exact c.elim
     | (obtain ⟨h0,c⟩:=(show Zx _ _ from c)
        refine⟨_,λw=>?_,c⟩;simp only[EV.v,binOp,ne_eq,not_true,if_false,Op.intDiv,if_neg h0]
        rfl)
     |(refine⟨_,λw=>?_,c⟩;simp only[EV.v,binOp,ne_eq,not_true,if_false];rfl)
  ·rename_i a b;cases op<;>simp only at c
   case add=>
     obtain⟨h0,c⟩:=c;refine⟨_,λw=>?_,c⟩
     have:¬(((a.size+b.size:Nat):Int)>IntKind.i64.max):=by
       have:IntKind.i64.max=9223372036854775807:=by decide
       rw[this];omega
     simp only[EV.v,binOp,Op.stringOp,if_neg this];rfl
   all_goals first
     |exact c.elim
     |(refine⟨_,λw=>?_,c⟩;rfl)
  ·exact c.elim
section
variable{P:Program}{t:TypeId}(w:World)
theorem ZlO{e:TypeId}(hu:P.underlying t=some (.pointer e))(p:Option Addr):(Op.equal t (.pointer p) (.pointer none)).run P w= .ok p.isNone w:=by unfold Op.equal Op.maxDepth;rw[show(10000:Nat)=9999+1 from rfl];unfold Op.equalIn;simp only[Awk,Zl P w t hu,Awl];cases p<;>rfl
theorem Zom{e:TypeId}(hu:P.underlying t=some (.slice e))(p:Option Addr)(n m a b:Nat):(Op.equal t (.slice p n m) (.slice none a b)).run P w= .ok p.isNone w:=by unfold Op.equal Op.maxDepth;rw[show(10000:Nat)=9999+1 from rfl];unfold Op.equalIn;simp only[Awk,Zl P w t hu,Awl];cases p<;>rfl
theorem Zrc{k e:TypeId}(hu:P.underlying t=some (.map k e))(p:Option Nat):(Op.equal t (.map p) (.map none)).run P w= .ok p.isNone w:=by unfold Op.equal Op.maxDepth;rw[show(10000:Nat)=9999+1 from rfl];unfold Op.equalIn;simp only[Awk,Zl P w t hu,Awl];cases p<;>rfl
theorem Zrb{ms:Array (String×TypeId)}(hu:P.underlying t=some (.interface ms)):(Op.equal t .nilIface .nilIface).run P w= .ok true w:=by unfold Op.equal Op.maxDepth;rw[show(10000:Nat)=9999+1 from rfl];unfold Op.equalIn;simp only[Awk,Zl P w t hu,Awl];rfl
theorem Zon{ms:Array (String×TypeId)}(hu:P.underlying t=some (.interface ms))(t2:TypeId)(u:Value):(Op.equal t (.iface t2 u) .nilIface).run P w= .ok false w:=by unfold Op.equal Op.maxDepth;rw[show(10000:Nat)=9999+1 from rfl];unfold Op.equalIn;simp only[Awk,Zl P w t hu,Awl];rfl
theorem Zo4{a rs:Array TypeId}{b:Bool}(hu:P.underlying t=some (.func a rs b)):(Op.equal t .nilFunc .nilFunc).run P w= .ok true w:=by unfold Op.equal Op.maxDepth;rw[show(10000:Nat)=9999+1 from rfl];unfold Op.equalIn;simp only[Awk,Zl P w t hu,Awl];rfl
theorem Zo5{c rs:Array TypeId}{d:Bool}(hu:P.underlying t=some (.func c rs d))(f:Fn)(a b:Array Value):(Op.equal t (.func f a b) .nilFunc).run P w= .ok false w:=by unfold Op.equal Op.maxDepth;rw[show(10000:Nat)=9999+1 from rfl];unfold Op.equalIn;simp only[Awk,Zl P w t hu,Awl];rfl
theorem Zwh(hu:P.underlying t=some .bool)(a b:Bool):(Op.equal t (.bool a) (.bool b)).run P w= .ok (a==b) w:=by unfold Op.equal Op.maxDepth;rw[show(10000:Nat)=9999+1 from rfl];unfold Op.equalIn;simp only[Awk,Zl P w t hu,Awl];rfl
end
theorem ZEZ{P:Program}{t:TypeId}{neg:Bool}{x y:EV}{K:EV->Prop}(c:eqP (P.underlying t) neg x y K):
    ∃v,(∀w,(binOp (bif neg then .neq else .eql) t x.v y.v).run P w= .ok v.v w)/\K v:=by
  unfold eqP at c;split at c
  ·rename_i e b o hu;refine⟨_,λw=>?_,c⟩;have:=ZlO w hu (some ⟨b,o,none⟩);cases neg<;>simp only[cond_true,cond_false,EV.v,binOp,Awk,this,Awl]<;>rfl
  ·rename_i e p hu;refine⟨_,λw=>?_,c⟩;have:=ZlO w hu p;cases neg<;>simp only[cond_true,cond_false,EV.v,binOp,Awk,this,Awl]<;>cases p<;>rfl
  ·rename_i e p n m d f hu;refine⟨_,λw=>?_,c⟩;have:=Zom w hu p n m d f;cases neg<;>simp only[cond_true,cond_false,EV.v,binOp,Awk,this,Awl]<;>cases p<;>rfl
  ·rename_i k e p hu;refine⟨_,λw=>?_,c⟩;have:=Zrc w hu p;cases neg<;>simp only[cond_true,cond_false,EV.v,binOp,Awk,this,Awl]<;>cases p<;>rfl
  ·rename_i hu;split at c
   ·rename_i a b g h;refine⟨_,λw=>?_,c⟩;have:=Zwh w hu a b;rw[g,h];cases neg<;>simp only[cond_true,cond_false,EV.v,binOp,Awk,this,Awl]<;>rfl
   ·exact c.elim
  ·exact c.elim
theorem Zsh(off:Nat):∀(l:List Value) (k:Nat) (cs:Array Value),off+k+l.length<=cs.size->
    ((l.zipIdx k).foldl (λcs x=>cs.setIfInBounds (off+x.2) x.1) cs).toList=cs.toList.take (off+k)++l++cs.toList.drop (off+k+l.length)
  |[],k,cs,h=>by simp
  | v::l,k,cs,h=>by
    simp only[List.zipIdx_cons,Awq,Aqj]at h⊢;rw[Zsh off l (k+1) _ (by simp;omega)];have a:off+k<cs.toList.length:=by simp;omega
    simp only[Aqk];rw[show off+(k+1)=off+k+1 from by omega,Aql (by simp;omega),Aqm (by omega),Aqn (by omega)];simp;omega
def ZFj(place:Nat->Option (Nat×Nat))(n:Nat):List (Nat×Value)->List (Nat×List Value)->Prop
  |[],[]=>True
  |p::a,q::l=>place p.1=some (q.1,q.2.length)/\p.2.cells.toList=q.2/\q.1+q.2.length<=n/\ZFj place n a l
  |_,_=>False
theorem Zh0(place:Nat->Option (Nat×Nat))(n:Nat):∀(b:List (Nat×Value)) (l:List (Nat×List Value)) (cs:Array Value),
    cs.size=n->ZFj place n b l->Instr.fill place cs b=some (Zhh cs.toList l).toArray
  |[],[],cs,_,_=>by simp[Instr.fill,Zhh]
  |[],_::_,cs,_,h=>h.elim
  |_::_,[],cs,_,h=>h.elim
  | (i,v)::b,(o,vs)::l,cs,m,h=>by
    obtain⟨f,hv,hle,k⟩:=h;simp only at f hv hle;have hlen:v.cells.size=vs.length:=by rw[<-hv];simp
    have a:(v.cells.zipIdx.foldl (λcs x=>match x with|(c,j)=>cs.setIfInBounds (o+j) c) cs).toList=cs.toList.take o++vs++cs.toList.drop (o+vs.length):=by
      rw[<-Array.foldl_toList,Array.toList_zipIdx,hv];have:=Zsh o vs 0 cs (by omega);simpa using this
    have d:(v.cells.zipIdx.foldl (λcs x=>match x with|(c,j)=>cs.setIfInBounds (o+j) c) cs).size=n:=by
      rw[<-Awa,a];simp;omega
    have g:=Zh0 place n b l _ d k;rw[a]at g;have e:¬(o+vs.length>cs.size):=by omega
    simp only[Instr.fill,f,hlen,ne_eq,not_true,decide_false,Bool.false_or,e,Zhh];exact g
theorem Zor(v:EV):v.v.cells.toList=ZlQ v:=by
  cases v with
  |val v=>cases v<;>rfl
  |lit b=>rfl
  |adr b o=>rfl
  |itr t b=>rfl
  |more k v=>rfl
  |over=>rfl
theorem Zrd(v:EV):v.v.cells=(ZlQ v).toArray:=by rw[<-Zor]
section
variable{c:Cfg}{e:Env}{a:Act}{n:Nat}
theorem ZxN{u:Value}(h:Zs u=true):u.cells.toList=[u]:=by
  cases u<;>first|rfl|cases h
theorem ZyJ{d:Option TypeDesc}{v:EV}(h:Zyc d=true->Zs v.v=true):v.v.cells.toList=Zos d v:=by
  unfold Zos
  cases a:Zyc d with
  |true=>exact ZxN (h a)
  |false=>exact Zor v
theorem Zpy:∀{l:List Value} {K:Prop},ZEk l K->(∀u,u∈l->Zs u=true)/\K
  |[],_,h=>⟨λ_ a=>(by cases a),h⟩
  | v::vs,K,h=>by
    obtain⟨h1,b⟩:=Zpy h.2;refine⟨λu hu=>?_,b⟩
    rcases Awr.1 hu with rfl|hu
    ·exact h.1
    ·exact h1 u hu
theorem ZmF(P:Program)(fs:List Field)(g:Agr n e a)(k:Nat):∀{j:List (Nat×Operand)} {l:List (Nat×List Value)},ZnI P fs e k j=some l->(∀u,u∈ZrI P fs e j->Zs u=true)->
    ZFj (λi=>(fs[i]?).map λf=>(f.offset,P.cellsOf f.type)) k (j.map λx=>(x.1,a.eval x.2)) l
  |[],l,h,_=>by simp only[ZnI,Awh]at h;subst h;exact trivial
  | (i,x)::r,l,h,b=>by
    simp only[ZnI]at h;split at h
    ·rename_i f v q m hv hl;have c:Zyc (P.underlying f.type)=true->Zs v.v=true:=λp=>b _ (by unfold ZrI;rw[m,hv];simp[p])
     have d:∀u,u∈ZrI P fs e r->Zs u=true:=λu hu=>b u (by
       unfold ZrI;rw[m,hv];dsimp only
       cases Zyc (P.underlying f.type)with
       |true=>exact Aws _ hu
       |false=>exact hu)
     cases h1:Nat.beq (Zos (P.underlying f.type) v).length (P.cellsOf f.type)with
     |false=>rw[h1]at h;cases h
     | true=>
       rw[h1]at h;simp only[cond_true]at h
       cases o:Nat.ble (f.offset+(Zos (P.underlying f.type) v).length) k with
       |false=>rw[o]at h;cases h
       | true=>
         rw[o]at h;simp only[cond_true,Awh]at h;subst h;refine⟨?_,?_,Awt o,ZmF P fs g k hl d⟩
         ·simp[m,Awg h1]
         ·simp only[g.ev hv,ZyJ c]
    ·cases h
theorem ZjW(size:Nat)(b:Agr n e a)(k:Nat):∀{d:List (Nat×Operand)} {l:List (Nat×List Value)},Zmf size e k d=some l->
    ZFj (λi=>some (i*size,size)) k (d.map λx=>(x.1,a.eval x.2)) l
  |[],l,h=>by simp only[Zmf,Awh]at h;subst h;exact trivial
  | (i,x)::r,l,h=>by
    simp only[Zmf]at h;split at h
    ·rename_i v f hv hl
     cases h1:Nat.beq (ZlQ v).length size with
     |false=>rw[h1]at h;cases h
     | true=>
       rw[h1]at h;simp only[cond_true]at h
       cases c:Nat.ble (i*size+(ZlQ v).length) k with
       |false=>rw[c]at h;cases h
       | true=>
         rw[c]at h;simp only[cond_true,Awh]at h;subst h;refine⟨?_,?_,Awt c,ZjW size b k hl⟩
         ·simp[Awg h1]
         ·simp only[b.ev hv,Zor]
    ·cases h
theorem Zju{x:EV}{K:Nat->Nat->Prop}(h:atP x K):∃b o,x.v= .pointer (some ⟨b,o,none⟩)/\K b o:=by
  unfold atP at h;split at h
  ·exact⟨_,_,rfl,h⟩
  ·obtain⟨b,o,rfl,h⟩:=h;exact⟨b,o,rfl,h⟩
  ·exact h.elim
theorem ZeA{P:Program}{t:TypeId}{zs:List Value}(h:ZmQ P t=some zs):∃i v,P.info? t=some i/\i.zero=some v/\v.cells.toList=zs:=by
  unfold ZmQ at h;split at h
  ·rename_i i hi;split at h
   ·rename_i v hv;simp only[Awh]at h;exact⟨i,v,hi,hv,h⟩
   ·cases h
  ·cases h
theorem ZfK{P:Program}{t:TypeId}{s b:Nat}(h:ZrO P t=some (s,b)):∃i,P.info? t=some i/\i.size=s/\i.bytes=b:=by
  unfold ZrO at h;split at h
  ·rename_i i hi;simp only[Awh,Prod.mk.injEq]at h;exact⟨i,hi,h.1,h.2⟩
  ·cases h
theorem ZAQ{P:Program}{t:TypeId}{b o:Nat}{v:EV}{K:Zf->Prop}{w:World}(h:stT P t w.heap b o v K):
    ∃h',(storeVar t ⟨b,o,none⟩ v.v).run P w= .ok () {w with heap:=h'}/\K h':=by
  have key:∀(i:TypeInfo) (vs:List Value),P.info? t=some i->i.size=vs.length->v.v.cells=vs.toArray->Zf.free w.heap b o vs.length->vs.all Zs=true->
      (storeVar t ⟨b,o,none⟩ v.v).run P w= .ok () {w with heap:=Zf.puts w.heap b o vs}:=by
    intro i vs hi hs n f j;unfold storeVar;simp only[Awk,Xo P w t hi,Awl,n,hs,List.size_toArray,ne_eq,not_true,if_false];have:=Zf6 P b o vs 0 w (by simpa using f) j;simpa using this
  have one:Zck (P.underlying t)=false->Nat.beq (P.cellsOf t) 1=true->(∀cs,v.v≠ .agg cs)->st w.heap b o v.v K->
      ∃h',(storeVar t ⟨b,o,none⟩ v.v).run P w= .ok () {w with heap:=h'}/\K h':=by
    intro d h1 e l;obtain⟨⟨u,hu⟩,f,g,m⟩:=l;have a:=Awg h1
    cases hi:P.info? t with
    |none=>unfold Program.cellsOf at a;simp[hi]at a
    | some i=>
      rw[Zcr P hi]at a;refine⟨_,key i [v.v] hi (by simp[a]) ?_ ⟨⟨⟨u,hu⟩,f⟩,trivial⟩ (by simp[g]),m⟩
      cases hv:v.v<;>first|rfl|exact absurd hv (e _)
  unfold stT at h;split at h
  ·rename_i cs
   cases d:Zck (P.underlying t)with
   |false=>rw[d]at h;exact h.elim
   | true =>
     rw[d]at h;simp only[cond_true]at h
     cases h1:Nat.beq cs.toList.length (P.cellsOf t)with
     |false=>rw[h1]at h;exact h.elim
     | true=>
       rw[h1]at h;obtain⟨f,j,m⟩:=h;have a:=Awg h1
       cases hi:P.info? t with
       | none=>
         unfold Program.underlying at d;simp[hi,Zck]at d
       | some i=>
         rw[Zcr P hi]at a;exact⟨_,key i cs.toList hi a.symm rfl f j,m⟩
  ·rename_i p e
   cases d:Zck (P.underlying t)with
   |true=>rw[d]at h;exact h.elim
   | false=>
     rw[d]at h;simp only[cond_false]at h
     cases h1:Nat.beq (P.cellsOf t) 1 with
     |false=>rw[h1]at h;exact h.elim
     | true=>
       rw[h1]at h;refine one d h1 (λcs c=>?_) h
       cases v with
       |val u=>simp only[EV.v]at c;subst c;exact e cs rfl
       |lit b=>cases c
       |adr b o=>cases c
       |itr t b=>cases c
       |more k v=>cases c
       |over=>cases c
theorem ZiF(zs:List Value)(n:Nat):(XR zs n).length=n*zs.length:=by simp[XR]
theorem Zoh(zs:List Value):∀(n i:Nat),i<n*zs.length->(XR zs n)[i]?=zs[i % zs.length]?
  | 0,i,h=>by omega
  | n+1,i,h=>by
    unfold XR;rw[List.replicate_succ,List.flatten_cons]
    rcases Aqd i zs.length with hi|hi
    ·rw[Awu hi,Nat.mod_eq_of_lt hi]
    ·rw[Awv hi];have:=Zoh zs n (i- zs.length) (by rw[Aww]at h;omega);unfold XR at this;rw[this,Nat.mod_eq_sub_mod hi]
theorem ZkX(zs:Array Value)(n m:Nat)(h:m=n*zs.size):((Array.range m).map (zs[· % zs.size]!)).toList=XR zs.toList n:=by
  subst h;apply Awx;intro i;simp only[Array.toList_map,Array.toList_range,Awy]
  rcases Aqd i (n*zs.size)with hi|hi
  ·rw [Zoh _ _ _ (by simpa using hi)]
   have a:0<zs.size:=by rcases Aqw zs.size with h0|h0;· rw[h0]at hi;omega
                        ·exact h0
   have hm:i % zs.size<zs.size:=Nat.mod_lt _ a;simp[hi,hm]
  ·rw[Aqt (by simpa using hi)];rw[Aqt (by rw[ZiF];simpa using hi)];rfl
end
end Go.Fw
