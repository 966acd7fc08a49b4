/- The reading of a function's code as a condition on memory: what each operation, region and statement asks and leaves. Definitions alone. -/
import Derived.Sort.QuietThIn
import Derived.OrdersHeld
import Derived.Laws.Sem
import Derived.Laws.World
import Derived.RangeFuncLeaves
import Derived.RangeFuncRecord
import Derived.Test.YtbppjmcinoffnaaGreatPa2
set_option linter.unusedVariables false
set_option linter.unusedSimpArgs false
namespace Go.Fw
open Go
inductive Leaf where
  | I (k:IntKind) | B | S | P | L | M | V
abbrev Leaf.D:Leaf→Type
  | .I _=>Int | .B=>Bool | .S=>ByteArray | .P=>Option Addr | .L=>Sl | .M=>Option Nat | .V=>Value
def Leaf.mk:(l:Leaf)→l.D→Value
  | .I k,n=> .int k n | .B,b=> .bool b | .S,s=> .string s | .P,p=> .pointer p | .L,s=> .slice s.ptr s.len s.cap | .M,m=> .map m | .V,v=>v
def Leaf.un:(l:Leaf)→Value→Option l.D
  | .I k,.int k' n=>if k'=k then some n else none
  | .B,.bool b=>some b
  | .S,.string s=>some s
  | .P,.pointer p=>some p
  | .L,.slice p l c=>some ⟨p,l,c⟩
  | .M,.map m=>some m
  | .V,v=>some v
  | _,_=>none
abbrev Tup:List Leaf→Type
  | []=>Unit
  | l::ls=>l.D × Tup ls
def Tup.vals:(ls:List Leaf)→Tup ls→List Value
  | [],_=>[]
  | l::ls,t=>l.mk t.1::Tup.vals ls t.2
def Tup.un:(ls:List Leaf)→List Value→Option (Tup ls)
  | [],[]=>some ()
  | l::ls,v::vs=>match l.un v,Tup.un ls vs with
    | some x,some t=>some (x,t)
    | _,_=>none
  | _,_=>none
inductive VT where
  | one (l:Leaf) | agg (ls:List Leaf) | fn (f:FuncId) | clo (f:FuncId) (ls:List Leaf) | yl
abbrev VT.D:VT→Type
  | .one l=>l.D
  | .agg ls=>Tup ls
  | .fn _=>Unit
  | .clo _ ls=>Tup ls
  | .yl=>Nat
abbrev Zae:List VT→Type
  | []=>Unit
  | v::vs=>v.D × Zae vs
inductive EV where
  | val (v:Value) | lit (b:Bool) | adr (b o:Nat) | itr (t:TypeId) (b:Nat) | more (k v:Value) | over
def EV.v:EV→Value
  | .val v=>v
  | .lit b=> .bool b
  | .adr b o=> .pointer (some ⟨b,o,none⟩)
  | .itr _ b=> .pointer (some ⟨b,0,none⟩)
  | .more k v=> .tuple #[.bool true,k,v]
  | .over=> .tuple #[.bool false]
def VT.ev:(v:VT)→v.D→EV
  | .one l,x=> .val (l.mk x)
  | .agg ls,x=> .val (.agg (Tup.vals ls x).toArray)
  | .fn f,_=> .val (.func (.func f) ⟨[]⟩ ⟨[]⟩)
  | .clo f ls,x=> .val (.func (.func f) ⟨[]⟩ ⟨Tup.vals ls x⟩)
  | .yl,l=> .val (.func (.yield l) ⟨[]⟩ ⟨[]⟩)
def fnU (f:FuncId):EV→Option Unit
  | .val (.func (.func g) ⟨[]⟩ ⟨[]⟩)=>bif Nat.beq f g then some () else none
  | _=>none
def ZEx (f:FuncId) (ls:List Leaf):EV→Option (Tup ls)
  | .val (.func (.func g) ⟨[]⟩ ⟨cs⟩)=>bif Nat.beq f g then Tup.un ls cs else none
  | _=>none
def ylU:EV→Option Nat
  | .val (.func (.yield l) ⟨[]⟩ ⟨[]⟩)=>some l
  | _=>none
def VT.un:(v:VT)→EV→Option v.D
  | .one l,e=>l.un e.v
  | .agg ls,.val (.agg cs)=>Tup.un ls cs.toList
  | .agg _,_=>none
  | .fn f,e=>fnU f e
  | .clo f ls,e=>ZEx f ls e
  | .yl,e=>ylU e
def Zae.evs:(vs:List VT)→Zae vs→List EV
  | [],_=>[]
  | v::vs,t=>v.ev t.1::Zae.evs vs t.2
def Zae.un:(vs:List VT)→List EV→Option (Zae vs)
  | [],[]=>some ()
  | v::vs,e::es=>match v.un e,Zae.un vs es with
    | some x,some t=>some (x,t)
    | _,_=>none
  | _,_=>none
def ZeG:List EV→EV
  | [e]=>e
  | es=> .val (.tuple (es.map EV.v).toArray)
structure Ze where
  args:List VT
  res:List VT
  sem:Zae args→(Zae res→Zb→Prop)→(Value→Zb→Prop)→Zb→Prop
structure Zb7 where
  caps:List VT
  sem:Yld→Nat→Zae caps→(Zb→Prop)→Zb→Prop
structure Env where
  f:Nat→Option EV
  mD:Option Nat
instance:CoeFun Env (fun _=>Nat→Option EV):=⟨Env.f⟩
def Env.set (e:Env) (d:Nat) (v:EV):Env:=⟨fun j=>bif Nat.beq j d then some v else e.f j,e.mD⟩
def Env.ev (e:Env):Operand→Option EV
  | .tmp t=>e.f t
  | .const (.bool b)=>some (.lit b)
  | .const v=>some (.val v)
  | .global g=>some (.adr g 0)
  | .func f=>some (.val (.func (.func f) #[] #[]))
structure Cfg where
  P:Program
  calls:List (FuncId × Ze)
  n:Nat
  ext:List FuncId
  dyn:List (String × TypeId × FuncId)
  iters:List (FuncId × Zb7)
  rnd:Option Nat
  pan:Value→Zb→Prop
  yld:Yld
  fns:List FuncId
def ZF (P:Program) (calls:List (FuncId × Ze)) (n:Nat) (ext:List FuncId) (dyn:List (String × TypeId × FuncId)) (iters:List (FuncId × Zb7)) (yld:Yld) (fns:List FuncId:=[]):Cfg :=
  ⟨P,calls,n,ext,dyn,iters,none,fun _ _=>False,yld,fns⟩
def ZH:Yld:=fun _ _ _ _=>False
structure Zvx where
  s:Ze
  t:Zae s.args
def Zlt (f:FuncId) (es:List EV):List (FuncId × Ze)→Option Zvx
  | []=>none
  | (g,s)::r=>bif Nat.beq f g then (match Zae.un s.args es with
    | some t=>some ⟨s,t⟩
    | none=>Zlt f es r) else Zlt f es r
structure Zs5 where
  s:Zb7
  t:Zae s.caps
def ZpT (f:FuncId) (es:List EV):List (FuncId × Zb7)→Option Zs5
  | []=>none
  | (g,s)::r=>bif Nat.beq f g then (match Zae.un s.caps es with
    | some t=>some ⟨s,t⟩
    | none=>ZpT f es r) else ZpT f es r
structure ZlY where
  a0:VT
  rest:List VT
  res:List VT
  sem:Zae (a0::rest)→(Zae res→Zb→Prop)→(Value→Zb→Prop)→Zb→Prop
  t:Zae rest
def Zkb (f:FuncId) (es:List EV):List (FuncId × Ze)→Option ZlY
  | []=>none
  | (g,⟨a0::rest,res,sem⟩)::r=>bif Nat.beq f g then (match Zae.un rest es with
    | some t=>some ⟨a0,rest,res,sem,t⟩
    | none=>Zkb f es r) else Zkb f es r
  | (_,⟨[],_,_⟩)::r=>Zkb f es r
def Zw1 (calls:List (FuncId × Ze)) (Kp:Value→Zb→Prop) (name:String) (v:Value) (es:List EV) (h:Zb) (K:EV→Zb→Prop):List (String × TypeId × FuncId)→Prop
  | []=>False
  | (n,t,f)::r=>bif n ==name then (match Zkb f es calls with
    | some p=>exG v (fun x:p.a0.D=> .iface t (p.a0.ev x).v) (fun x=>p.sem (x,p.t) (fun rr h'=>K (ZeG (Zae.evs p.res rr)) h') Kp h)∨Zw1 calls Kp name v es h K r
    | none=>Zw1 calls Kp name v es h K r) else Zw1 calls Kp name v es h K r
def fnP (calls:List (FuncId × Ze)) (Kp:Value→Zb→Prop) (v:Value) (es:List EV) (h:Zb) (K:EV→Zb→Prop):List FuncId→Prop
  | []=>False
  | f::r=>match Zlt f es calls with
    | some ⟨s,t⟩=>ZmY v f (s.sem t (fun rr h'=>K (ZeG (Zae.evs s.res rr)) h') Kp h)∨fnP calls Kp v es h K r
    | none=>fnP calls Kp v es h K r
def ZEu (l:List FuncId):Operand→List FuncId
  | .tmp _=>l
  | _=>[]
def Zxn (f:FuncId):List FuncId→Bool
  | []=>false
  | g::r=>bif Nat.beq f g then true else Zxn f r
def evs (e:Env):List Operand→Option (List EV)
  | []=>some []
  | x::xs=>match e.ev x,evs e xs with
    | some v,some vs=>some (v::vs)
    | _,_=>none
def Zvu (op:BinOp) (x y:EV) (K:EV→Prop):Prop :=
  match x,y with
  | .val (.int k a),.val (.int k' b) =>
    match op with
    | .shl=>ZK (0≤b) (K (.val (.int k (Zvc k a b))))
    | .shr=>ZK (0≤b) (K (.val (.int k (Zl1 k a b))))
    | _=>if k=k' then
       match op with
       | .add=>K (.val (.int k (k.wrap (a+b))))
       | .sub=>K (.val (.int k (k.wrap (a - b))))
       | .mul=>K (.val (.int k (k.wrap (a*b))))
       | .quo=>ZK (b≠0) (K (.val (.int k (k.wrap (a.tdiv b)))))
       | .rem=>ZK (b≠0) (K (.val (.int k (a.tmod b))))
       | .and=>K (.val (.int k (ZIV k a b)))
       | .or=>K (.val (.int k (orV k a b)))
       | .xor=>K (.val (.int k (Ztw k a b)))
       | .andNot=>K (.val (.int k (ZEA k a b)))
       | .eql=>K (.val (.bool (a ==b)))
       | .neq=>K (.val (.bool (a !=b)))
       | .lss=>K (.val (.bool (decide (a<b))))
       | .leq=>K (.val (.bool (decide (a≤b))))
       | .gtr=>K (.val (.bool (decide (a>b))))
       | .geq=>K (.val (.bool (decide (a≥b))))
       | _=>False
      else False
  | .val (.string a),.val (.string b) =>
    match op with
    | .add=>ZIU a b fun s=>K (.val (.string s))
    | .eql=>K (.val (.bool (Zag a b)))
    | .neq=>K (.val (.bool (!Zag a b)))
    | .lss=>K (.val (.bool (Op.bytesLess a.toList b.toList)))
    | .leq=>K (.val (.bool (Op.bytesLess a.toList b.toList||Zag a b)))
    | .gtr=>K (.val (.bool (!(Op.bytesLess a.toList b.toList||Zag a b))))
    | .geq=>K (.val (.bool (!Op.bytesLess a.toList b.toList)))
    | _=>False
  | _,_=>False
def eqP (t:Option TypeDesc) (neg:Bool) (x y:EV) (K:EV→Prop):Prop :=
  match t,x,y with
  | some (.pointer _),.adr _ _,.val (.pointer none)=>K (.lit neg)
  | some (.pointer _),.val (.pointer p),.val (.pointer none)=>K (.val (.bool (bif neg then p.isSome else p.isNone)))
  | some (.slice _),.val (.slice p _ _),.val (.slice none _ _)=>K (.val (.bool (bif neg then p.isSome else p.isNone)))
  | some (.map _ _),.val (.map p),.val (.map none)=>K (.val (.bool (bif neg then p.isSome else p.isNone)))
  | some .bool,x,y =>
    match x.v,y.v with
    | .bool a,.bool b=>K (.val (.bool (bif neg then a !=b else a ==b)))
    | _,_=>False
  | _,_,_=>False
def Zju (d:Option TypeDesc) (h:Zb) (b o:Nat) (K:EV→Prop):Prop :=
  match d with
  | some (.int k)=>ldI h b o k fun x=>K (.val (.int k x))
  | some .bool=>ldB h b o fun x=>K (.val (.bool x))
  | some .string=>ldS h b o fun x=>K (.val (.string x))
  | some (.pointer _)=>ldP h b o fun x=>K (.val (.pointer x))
  | some (.slice _)=>ldL h b o fun x=>K (.val (.slice x.ptr x.len x.cap))
  | some (.map _ _)=>ldM h b o fun x=>K (.val (.map x))
  | some (.struct _) | some (.array _ _) | none=>False
  | some _=>ldV h b o fun x=>K (.val x)
def Zed (P:Program):Nat→TypeId→List (Option TypeDesc)
  | 0,_=>[none]
  | d+1,t=>match P.underlying t with
    | some (.struct fs)=>fs.toList.flatMap fun f=>Zed P d f.type
    | some (.array n e)=>(List.replicate n (Zed P d e)).flatten
    | x=>[x]
def ZzH (o i:Nat):Nat:=bif Nat.beq i 0 then o else o+i
def Zt7 (h:Zb) (b o:Nat):Nat→List (Option TypeDesc)→(List Value→Prop)→Prop
  | _,[],K=>K []
  | i,d::ds,K=>Zju d h b (ZzH o i) fun v=>Zt7 h b o (i+1) ds fun vs=>K (v.v::vs)
def ZbF:Option TypeDesc→Bool
  | some (.struct _) | some (.array _ _)=>true
  | _=>false
def ldT (P:Program) (t:TypeId) (h:Zb) (b o:Nat) (K:EV→Prop):Prop :=
  bif ZbF (P.underlying t) then
    (bif Nat.beq (Zed P 8 t).length (P.cellsOf t) then Zt7 h b o 0 (Zed P 8 t) fun vs=>K (.val (.agg vs.toArray)) else False)
  else Zju (P.underlying t) h b o K
def atP (x:EV) (K:Nat→Nat→Prop):Prop :=
  match x with
  | .adr b o=>K b o
  | .val (.pointer p)=>Zd p K
  | _=>False
def stT (P:Program) (t:TypeId) (h:Zb) (b o:Nat) (v:EV) (K:Zb→Prop):Prop :=
  match v with
  | .val (.agg cs)=>bif ZbF (P.underlying t) then (bif Nat.beq cs.toList.length (P.cellsOf t) then sts h b o cs.toList K else False) else False
  | v=>bif ZbF (P.underlying t) then False else (bif Nat.beq (P.cellsOf t) 1 then st h b o v.v K else False)
def Zhv:EV→List Value
  | .val (.agg cs)=>cs.toList
  | v=>[v.v]
def Zxl:Option TypeDesc→Bool
  | some (.int _) | some .bool | some .string | some (.pointer _) | some (.slice _) | some (.map _ _) | some (.struct _) | some (.array _ _) | none=>false
  | some _=>true
def ZjN (d:Option TypeDesc) (v:EV):List Value:=bif Zxl d then [v.v] else Zhv v
def Zml (P:Program) (fs:List Field) (e:Env):List (Nat × Operand)→List Value
  | []=>[]
  | (i,x)::r=>match fs[i]?,e.ev x with
    | some f,some v=>bif Zxl (P.underlying f.type) then v.v::Zml P fs e r else Zml P fs e r
    | _,_=>Zml P fs e r
def ZwG:List Value→Prop→Prop
  | [],K=>K
  | v::vs,K=>ZK (Zv v=true) (ZwG vs K)
def Zek:List Value→List (Nat × List Value)→List Value
  | cs,[]=>cs
  | cs,(o,vs)::r=>Zek (cs.take o++vs++cs.drop (o+vs.length)) r
def Zjf (P:Program) (fs:List Field) (e:Env) (n:Nat):List (Nat × Operand)→Option (List (Nat × List Value))
  | []=>some []
  | (i,x)::r=>match fs[i]?,e.ev x,Zjf P fs e n r with
    | some f,some v,some l=>bif Nat.beq (ZjN (P.underlying f.type) v).length (P.cellsOf f.type) then (bif Nat.ble (f.offset+(ZjN (P.underlying f.type) v).length) n then some ((f.offset,ZjN (P.underlying f.type) v)::l) else none) else none
    | _,_,_=>none
def ZhO (size:Nat) (e:Env) (n:Nat):List (Nat × Operand)→Option (List (Nat × List Value))
  | []=>some []
  | (i,x)::r=>match e.ev x,ZhO size e n r with
    | some v,some l=>bif Nat.beq (Zhv v).length size then (bif Nat.ble (i*size+(Zhv v).length) n then some ((i*size,Zhv v)::l) else none) else none
    | _,_=>none
def Ziq (P:Program) (t:TypeId):Option (List Value):=match P.info? t with
  | some i=>match i.zero with
    | some v=>some v.cells.toList
    | none=>none
  | none=>none
def ZnL (P:Program) (t:TypeId):Option (Nat × Nat):=match P.info? t with
  | some i=>some (i.size,i.bytes)
  | none=>none
def Zvf (d:Int):Option (Option EV)→Option Int
  | none=>some d
  | some (some (.val (.int _ n)))=>some n
  | _=>none
def Zhw:Nat:=16777216
def Zsk:TypeDesc→Value→Bool
  | .int k,.int k' _=>if k=k' then true else false
  | .string,.string _=>true
  | .bool,.bool _=>true
  | _,_=>false
def ZsA:Option TypeDesc→Bool
  | some (.int _) | some .string | some .bool=>true
  | _=>false
def ZfH (P:Program):List Field→Nat→Bool
  | [],_=>true
  | f::fs,i=>bif f.name == "_" then false else bif Nat.beq f.offset i&&ZsA (P.underlying f.type) then ZfH P fs (i+1) else false
def Zd5 (P:Program) (fs:List Field):List TypeDesc:=fs.map fun f=>(P.underlying f.type).getD .bool
def Zt9:List TypeDesc→List Value→Bool
  | [],[]=>true
  | d::ds,v::vs=>bif Zsk d v then Zt9 ds vs else false
  | _,_=>false
def Zp9 (P:Program) (kt:TypeId) (fs:Array Field) (cs:List Value):Bool :=
  bif P.stoodInHeld kt then false else bif ZfH P fs.toList 0 then Zt9 (Zd5 P fs.toList) cs else false
def Zn7 (P:Program) (kt:TypeId) (d:TypeDesc) (h:Zb) (m:Option Nat) (k:Value) (K:Option Value→Prop):Prop :=
  match d,k with
  | .struct fs,.agg cs=>bif Zp9 P kt fs cs.toList then ZhZ (Zd5 P fs.toList) h m cs.toList K else False
  | d,k=>bif Zsk d k then XL d h m k K else False
def Zn6 (P:Program) (kt:TypeId) (d:TypeDesc) (h:Zb) (m:Option Nat) (k v:Value) (K:Zb→Prop):Prop :=
  match d,k with
  | .struct fs,.agg cs=>bif Zp9 P kt fs cs.toList then ZhY (Zd5 P fs.toList) h m cs.toList v K else False
  | d,k=>bif Zsk d k then Zax d h m k v K else False
def Zpi (d:Option TypeDesc) (v:Value) (K:EV→Prop):Prop :=
  match d with
  | some (.int k)=>asI v k fun x=>K (.val (.int k x))
  | some .bool=>asB v fun x=>K (.val (.bool x))
  | some .string=>asS v fun x=>K (.val (.string x))
  | some (.pointer _)=>asP v fun x=>K (.val (.pointer x))
  | some (.slice _)=>asL v fun x=>K (.val (.slice x.ptr x.len x.cap))
  | some (.map _ _)=>asM v fun x=>K (.val (.map x))
  | _=>False
def Zzb:Option TypeDesc→Leaf
  | some (.int k)=> .I k | some .bool=> .B | some .string=> .S | some (.pointer _)=> .P | some (.slice _)=> .L | some (.map _ _)=> .M | _=> .V
def ZzC (P:Program) (t:TypeId) (v:Value) (K:EV→Prop):Prop :=
  bif ZbF (P.underlying t) then exG v (fun r:Tup ((Zed P 8 t).map Zzb)=> .agg (Tup.vals _ r).toArray) (fun r=>K (.val (.agg (Tup.vals _ r).toArray)))
  else Zpi (P.underlying t) v K
def Zwm (P:Program) (t:TypeId):Option Value:=match P.info? t with
  | some i=>i.zero
  | none=>none
def Zgh:Option TypeDesc→Bool
  | some (.interface _)=>true
  | none=>true
  | _=>false
def ZAh (es:List EV) (cs:List Value):List EV:=es++cs.map EV.val
def Zgw (P:Program) (ts:Array TypeId):Bool:=match ts[0]? with
  | some t=>match P.underlying t with
    | some (.map _ _)=>true
    | _=>false
  | none=>false
def Zke (c:Cfg) (o:Op) (ρ:Env) (h:Zb) (K:EV→Zb→Prop):Prop :=
  match o with
  | .call ⟨.builtin .len,args,ts⟩ =>
    match ts[0]?,evs ρ args.toList with
    | some t,some [v]=>match c.P.underlying t,v with
      | some .string,.val (.string s)=>K (.val (.int .i64 s.size)) h
      | some (.slice _),.val (.slice _ n _)=>K (.val (.int .i64 n)) h
      | some (.array n _),_=>K (.val (.int .i64 n)) h
      | some (.map _ _),.val (.map m)=>ZwM h m fun n=>K (.val (.int .i64 n)) h
      | _,_=>False
    | _,_=>False
  | .call ⟨.builtin .cap,args,ts⟩ =>
    match ts[0]?,evs ρ args.toList with
    | some t,some [v]=>match c.P.underlying t,v with
      | some (.slice _),.val (.slice _ _ n)=>K (.val (.int .i64 n)) h
      | _,_=>False
    | _,_=>False
  | .call ⟨.builtin .min,args,_⟩ =>
    match evs ρ args.toList with
    | some [.val (.int k x),.val (.int _ y)]=>K (.val (.int k (Zik x y))) h
    | _=>False
  | .call ⟨.builtin .max,args,_⟩ =>
    match evs ρ args.toList with
    | some [.val (.int k x),.val (.int _ y)]=>K (.val (.int k (Zqk x y))) h
    | _=>False
  | .call ⟨.builtin .append,args,ts⟩ =>
    match ts[0]?,(match ts[1]? with | none=>false | some t=>match c.P.underlying t with | some (.int _)=>true | some _=>false | none=>true) with
    | some t,false=>match c.P.underlying t with
      | some (.slice e)=>match ZnL c.P e,Ziq c.P e,evs ρ args.toList with
        | some (size,bytes),some zs,some [.val (.slice p n m),.val (.slice p' n' m')] =>
          rdS ⟨p',n',m'⟩ size h fun new=>app e size bytes zs ⟨p,n,m⟩ n' new h fun s h'=>K (.val (.slice s.ptr s.len s.cap)) h'
        | some (size,bytes),some zs,some [.val (.slice p n m),.val (.string s)] =>
          app e size bytes zs ⟨p,n,m⟩ s.size (Zbm s) h fun s h'=>K (.val (.slice s.ptr s.len s.cap)) h'
        | _,_,_=>False
      | _=>False
    | _,_=>False
  | .call ⟨.value x,args,_⟩ =>
    match ZEu c.fns x with
    | f::r=>(match ρ.ev x,evs ρ args.toList with
      | some v,some es=>fnP c.calls c.pan v.v es h K (f::r)
      | _,_=>False)
    | [] =>
    match ρ.ev x with
    | some (.val (.func (.func f) ⟨[]⟩ ⟨cs⟩)) =>
      match evs ρ args.toList with
      | some es=>match Zlt f (ZAh es cs) c.calls with
        | some ⟨s,t⟩=>s.sem t (fun r h'=>K (ZeG (Zae.evs s.res r)) h') c.pan h
        | none=>bif Zxn f c.ext then (match ZAh es cs with
          | [x]=>Zzv x.v h fun v h'=>K (.val v) h'
          | _=>False) else False
      | none=>False
    | some (.val (.func (.yield l) ⟨[]⟩ ⟨[]⟩)) =>
      match evs ρ args.toList with
      | some es=>c.yld l (es.map EV.v) (fun b h'=>K (.val (.bool b)) h') h
      | none=>False
    | _=>False
  | .call ⟨.builtin .delete,args,ts⟩ =>
    match ts[0]?,evs ρ args.toList with
    | some t,some [.val (.map m),k]=>match c.P.underlying t with
      | some (.map kt _)=>match c.P.underlying kt with
        | some d=>bif Zsk d k.v then Zf0 d h m k.v fun h'=>K (.val (.tuple #[])) h' else False
        | none=>False
      | _=>False
    | _,_=>False
  | .call ⟨.invoke x name,args,_⟩ =>
    match ρ.ev x,evs ρ args.toList with
    | some v,some es=>Zw1 c.calls c.pan name v.v es h K c.dyn
    | _,_=>False
  | .call ⟨.builtin .clear,args,ts⟩ =>
    match ts[0]?,evs ρ args.toList with
    | some t,some [.val (.map m)]=>match c.P.underlying t with
      | some (.map _ _)=>ZAg h m fun h'=>K (.val (.tuple #[])) h'
      | _=>False
    | some t,some [.val (.slice p l m)]=>match c.P.underlying t with
      | some (.slice e)=>match Ziq c.P e with
        | some zs=>ZsN ⟨p,l,m⟩ zs h fun h'=>K (.val (.tuple #[])) h'
        | none=>False
      | _=>False
    | _,_=>False
  | _=>False
def ZgX (d:Option TypeDesc) (x y:Value):Option Bool :=
  match d,x,y with
  | some (.int _),.int k a,.int k' b=>if k=k' then some (a ==b) else none
  | some .string,.string a,.string b=>some (Zag a b)
  | some .bool,.bool a,.bool b=>some (a ==b)
  | _,_,_=>none
def Zeu (P:Program):List Field→List Value→List Value→Option Bool
  | [],_,_=>some true
  | f::fs,xs,ys =>
    bif f.name == "_" then none else
    match xs[f.offset]?,ys[f.offset]? with
    | some x,some y=>match ZgX (P.underlying f.type) x y,Zeu P fs xs ys with
      | some a,some r=>some (bif a then r else false)
      | _,_=>none
    | _,_=>none
def Zeg (P:Program):List Field→List Value→List Value→Option Bool
  | [],_,_=>some true
  | f::fs,xs,ys =>
    bif f.name == "_" then none else
    match P.underlying f.type with
    | some (.struct gs) =>
      bif P.stoodInHeld f.type then none else
      bif Nat.ble (f.offset+P.cellsOf f.type) xs.length&&Nat.ble (f.offset+P.cellsOf f.type) ys.length then
        match Zeu P gs.toList ((xs.drop f.offset).take (P.cellsOf f.type)) ((ys.drop f.offset).take (P.cellsOf f.type)),Zeg P fs xs ys with
        | some a,some r=>some (bif a then r else false)
        | _,_=>none
      else none
    | u=>match xs[f.offset]?,ys[f.offset]? with
      | some x,some y=>match ZgX u x y,Zeg P fs xs ys with
        | some a,some r=>some (bif a then r else false)
        | _,_=>none
      | _,_=>none
def eqS (P:Program) (t:TypeId) (fs:Array Field) (x y:EV) (K:Bool→Prop):Prop :=
  match x,y with
  | .val (.agg xs),.val (.agg ys)=>bif P.stoodInHeld t||P.eqGuardType P.depth t then False else
    match Zeg P fs.toList xs.toList ys.toList with
    | some b=>K b
    | none=>False
  | _,_=>False
def opP (c:Cfg) (o:Op) (ρ:Env) (h:Zb) (K:EV→Zb→Prop):Prop :=
  match o with
  | .move x=>match ρ.ev x with
    | some v=>K v h
    | none=>False
  | .assign x=>match ρ.ev x with
    | some (.val (.int k n))=>Zc n fun n=>K (.val (.int k n)) h
    | some (.val (.bool b))=>ZG b fun b=>K (.val (.bool b)) h
    | some v=>K v h
    | none=>False
  | .pick x a b=>match ρ.ev x,ρ.ev a,ρ.ev b with
    | some (.lit true),some a,_=>K a h
    | some (.lit false),_,some b=>K b h
    | some (.val (.bool x)),some a,some b=>match a.v,b.v with
      | .bool a,.bool b=>K (.val (.bool (bif x then a else b))) h
      | _,_=>False
    | _,_,_=>False
  | .alloc e=>match Ziq c.P e with
    | some zs=>newC h zs e fun b h'=>K (.adr b 0) h'
    | none=>False
  | .box e x=>match ρ.ev x with
    | some v=>newC h (Zhv v) e fun b h'=>K (.adr b 0) h'
    | none=>False
  | .build t parts=>match c.P.underlying t,Ziq c.P t with
    | some (.struct fs),some zs=>match Zjf c.P fs.toList ρ zs.length parts.toList with
      | some l=>bif fs.toList.all fun f=>(c.P.info? f.type).isSome then ZwG (Zml c.P fs.toList ρ parts.toList) (K (.val (.agg (Zek zs l).toArray)) h) else False
      | none=>False
    | some (.array _ e),some zs=>match ZhO (c.P.cellsOf e) ρ zs.length parts.toList with
      | some l=>bif (c.P.info? e).isSome then K (.val (.agg (Zek zs l).toArray)) h else False
      | none=>False
    | _,_=>False
  | .buildSlice t n parts=>match c.P.underlying t with
    | some (.slice e)=>match Ziq c.P e,ZhO (c.P.cellsOf e) ρ (n*c.P.cellsOf e) parts.toList with
      | some zs,some l=>bif Nat.ble (n*c.P.cellsOf e) Zhw then
          (bif Nat.beq zs.length (c.P.cellsOf e) then
            newC h (Zek (ZaA zs n) l) e fun b h'=>K (.val (.slice (some ⟨b,0,none⟩) n n)) h' else False) else False
      | _,_=>False
    | _=>False
  | .load t a=>match ρ.ev a with
    | some x=>atP x fun b o=>ldT c.P t h b o fun v=>K v h
    | none=>False
  | .store t a x=>match ρ.ev a,ρ.ev x with
    | some a,some x=>atP a fun b o=>stT c.P t h b o x fun h'=>K (.val undef) h'
    | _,_=>False
  | .nilCheck x=>match ρ.ev x with
    | some x=>atP x fun b o=>K (.adr b o) h
    | none=>False
  | .binOp op t x y _=>match ρ.ev x,ρ.ev y with
    | some x,some y=>match op,c.P.underlying t with
      | .eql,some (.int _) | .eql,some .string=>Zvu op x y fun v=>K v h
      | .neq,some (.int _) | .neq,some .string=>Zvu op x y fun v=>K v h
      | .eql,some (.struct fs)=>eqS c.P t fs x y fun b=>K (.val (.bool b)) h
      | .neq,some (.struct fs)=>eqS c.P t fs x y fun b=>K (.val (.bool (!b))) h
      | .eql,d=>eqP d false x y fun v=>K v h
      | .neq,d=>eqP d true x y fun v=>K v h
      | _,_=>Zvu op x y fun v=>K v h
    | _,_=>False
  | .unOp op _ x=>match op,ρ.ev x with
    | .not,some (.lit b)=>K (.lit (!b)) h
    | .not,some (.val (.bool b))=>K (.val (.bool (!b))) h
    | .neg,some (.val (.int k n))=>K (.val (.int k (k.wrap (0 - n)))) h
    | _,_=>False
  | .convert s d x=>match c.P.underlying s,c.P.underlying d,ρ.ev x with
    | some (.int _),some (.int k),some (.val (.int _ n))=>K (.val (.int k (k.wrap n))) h
    | some .string,some .string,some (.val (.string s))=>K (.val (.string s)) h
    | some .string,some (.slice e),some (.val (.string s))=>match c.P.underlying e with
      | some (.int .u8)=>s2b e s h fun x h'=>K (.val (.slice x.ptr x.len x.cap)) h'
      | _=>False
    | some (.slice e),some .string,some (.val (.slice p l m))=>match c.P.underlying e with
      | some (.int .u8)=>b2s ⟨p,l,m⟩ h fun s=>K (.val (.string s)) h
      | _=>False
    | some (.slice _),some (.slice e),some (.val (.slice p l m))=>match c.P.underlying e with
      | some (.int .u8)=>bif Nat.beq s d then ZEd p h fun h'=>K (.val (.slice p l m)) h' else False
      | _=>False
    | _,_,_=>False
  | .makeSlice t l m=>match c.P.underlying t,ρ.ev l,ρ.ev m with
    | some (.slice e),some (.val (.int _ l)),some (.val (.int _ m))=>match ZnL c.P e,Ziq c.P e with
      | some (size,bytes),some zs=>bif Nat.beq zs.length size then mkS e bytes zs l m h fun s h'=>K (.val (.slice s.ptr s.len s.cap)) h' else False
      | _,_=>False
    | _,_,_=>False
  | .slice t x lo hi mx=>match c.P.underlying t,ρ.ev x with
    | some .string,some (.val (.string s))=>match mx,Zvf 0 (lo.map ρ.ev),Zvf s.size (hi.map ρ.ev) with
      | none,some lo,some hi=>ZIN s lo hi fun s=>K (.val (.string s)) h
      | _,_,_=>False
    | some (.slice e),some (.val (.slice p l m))=>match Zvf 0 (lo.map ρ.ev),Zvf l (hi.map ρ.ev),Zvf m (mx.map ρ.ev),ZnL c.P e with
      | some lo,some up,some most,some (size,_)=>bif hi.isNone&&mx.isSome then False else slc p m size lo up most fun s=>K (.val (.slice s.ptr s.len s.cap)) h
      | _,_,_,_=>False
    | _,_=>False
  | .fieldAddr s x f=>match c.P.underlying s,ρ.ev x with
    | some (.struct fs),some x=>match fs.toList[f]? with
      | some fd=>bif Nat.beq (c.P.cellsOf fd.type) 0 then False else atP x fun b o=>K (.adr b (ZzH o fd.offset)) h
      | none=>False
    | _,_=>False
  | .field s x f=>match c.P.underlying s,ρ.ev x with
    | some (.struct fs),some (.val (.agg cs))=>match fs.toList[f]? with
      | some fd=>bif (c.P.underlying fd.type).isNone then False else bif ZbF (c.P.underlying fd.type) then K (.val (.agg ((cs.toList.drop fd.offset).take (c.P.cellsOf fd.type)).toArray)) h
        else match cs.toList[fd.offset]? with
          | some v=>K (.val v) h
          | none=>False
      | none=>False
    | _,_=>False
  | .indexAddr t x i=>match c.P.underlying t,ρ.ev x,ρ.ev i with
    | some (.slice e),some (.val (.slice p l _)),some (.val (.int _ i))=>match ZnL c.P e with
      | some (size,_)=>Zau p l i size fun b o=>K (.adr b o) h
      | none=>False
    | some (.array n e),some x,some (.val (.int _ i))=>match ZnL c.P e with
      | some (size,_)=>atP x fun b o=>Zxm n i fun j=>K (.adr b (o+j*size)) h
      | none=>False
    | _,_,_=>False
  | .index t x i=>match c.P.underlying t,ρ.ev x,ρ.ev i with
    | some .string,some (.val (.string s)),some (.val (.int _ i))=>ZAb s i fun n=>K (.val (.int .u8 n)) h
    | _,_,_=>False
  | .extract x i=>match ρ.ev x with
    | some (.more _ _)=>bif Nat.beq i 0 then K (.lit true) h else False
    | some .over=>bif Nat.beq i 0 then K (.lit false) h else False
    | some (.val (.tuple vs))=>match vs.toList[i]? with
      | some v=>K (.val v) h
      | none=>False
    | _=>False
  | .call _=>Zke c o ρ h K
  | .panic x=>match ρ.ev x with
    | some (.val (.iface t v))=>c.pan (.iface t v) h
    | _=>False
  | .makeFunc (.func f) first caps=>match first.toList,evs ρ caps.toList with
    | [],some es=>K (.val (.func (.func f) ⟨[]⟩ ⟨es.map EV.v⟩)) h
    | _,_=>False
  | .makeMap _ none=>Zc7 h fun b h'=>K (.val (.map (some b))) h'
  | .lookup t x i ok=>match c.P.underlying t,ρ.ev x,ρ.ev i with
    | some (.map kt et),some (.val (.map m)),some k=>match c.P.underlying kt,Zwm c.P et with
      | some d,some z=>Zn7 c.P kt d h m k.v fun r=>ZzC c.P et (r.getD z) fun v=>K (bif ok then .val (.tuple #[v.v,.bool r.isSome]) else v) h
      | _,_=>False
    | _,_,_=>False
  | .mapUpdate t m k x=>match c.P.underlying t,ρ.ev m,ρ.ev k,ρ.ev x with
    | some (.map kt _),some (.val (.map m)),some k,some x=>match c.P.underlying kt with
      | some d=>Zn6 c.P kt d h m k.v x.v fun h'=>K (.val undef) h'
      | none=>False
    | _,_,_,_=>False
  | .range t x=>match c.P.underlying t,ρ.ev x with
    | some (.map _ _),some (.val (.map m))=>rgM h m fun b h'=>K (.itr t b) h'
    | _,_=>False
  | .next x false=>match ρ.ev x with
    | some (.itr _ b)=>Zt2 h b (fun k v h'=>K (.more k v) h') (K .over h)
    | _=>False
  | .entry x=>match ρ.ev x with
    | some (.itr t b)=>match c.P.underlying t with
      | some (.map kt et)=>ZAe h b fun k v=>ZzC c.P kt k fun k'=>ZzC c.P et v fun v'=>K (.val (.tuple #[k'.v,v'.v])) h
      | _=>False
    | _=>False
  | .makeInterface t x=>match ρ.ev x with
    | some v=>bif Zgh (c.P.underlying t) then False else K (.val (.iface t v.v)) h
    | none=>False
  | .typeAssert x _ t ok=>match ρ.ev x with
    | some v=>bif ok||Zgh (c.P.underlying t) then False else asT v.v t fun y=>Zpi (c.P.underlying t) y fun u=>K u h
    | none=>False
  | _=>False
def ZnA (n:Nat) (e:Env) (d:Option Tmp) (v:EV) (K:Env→Prop):Prop :=
  match d with
  | none=>K e
  | some d=>bif Nat.blt d n then K (e.set d v) else False
def Zy1 (c:Cfg) (o:Oper) (e:Env) (h:Zb) (K:Env→Zb→Prop):Prop :=
  opP c o.op e h fun v h'=>ZnA c.n e o.dst v fun e'=>K e' h'
def Zkn (c:Cfg) (o:Oper) (e:Env) (h:Zb) (K:Env→Zb→Prop):Prop :=
  ZnA c.n e o.dst (.val undef) fun e'=>K e' h
def Ze3 (ops:List Oper) (j:Nat):Option Tmp:=(ops[j]?).bind (·.dst)
def Zd0 (c:Cfg) (one:Oper→Env→Zb→(Env→Zb→Prop)→Prop) (all:List Oper):List Oper→Env→Zb→(Env→Zb→Prop)→Prop
  | [],e,h,K=>K e h
  | o::os,e,h,K =>
    match o.guard with
    | none=>one o e h fun e' h'=>Zd0 c one all os e' h' K
    | some (j,want) =>
      match Ze3 all j with
      | none=>Zkn c o e h fun e' h'=>Zd0 c one all os e' h' K
      | some t =>
        match e t with
        | some (.lit b) =>
          match b,want with
          | true,true | false,false=>one o e h fun e' h'=>Zd0 c one all os e' h' K
          | true,false | false,true=>Zkn c o e h fun e' h'=>Zd0 c one all os e' h' K
        | some (.val (.bool b)) =>
          match want with
          | true=>Zw b (one o (e.set t (.lit true)) h fun e' h'=>Zd0 c one all os e' h' K) (Zkn c o (e.set t (.lit false)) h fun e' h'=>Zd0 c one all os e' h' K)
          | false=>Zw b (Zkn c o (e.set t (.lit true)) h fun e' h'=>Zd0 c one all os e' h' K) (one o (e.set t (.lit false)) h fun e' h'=>Zd0 c one all os e' h' K)
        | some _=>Zkn c o e h fun e' h'=>Zd0 c one all os e' h' K
        | none=>False
def ZoV (c:Cfg) (o:Op) (ρ:Env) (h:Zb) (K:EV→Zb→Prop):Prop :=
  match o with
  | .move _ | .assign _ | .pick _ _ _ | .load _ _ | .nilCheck _ | .binOp _ _ _ _ _ | .unOp _ _ _ | .slice _ _ _ _ _ | .fieldAddr _ _ _ | .field _ _ _ | .indexAddr _ _ _ | .index _ _ _ | .extract _ _ | .build _ _ | .makeFunc _ _ _=>opP c o ρ h K
  | .convert s d _=>match c.P.underlying s,c.P.underlying d with
    | some (.int _),some (.int _)=>opP c o ρ h K
    | _,_=>False
  | .call ⟨.builtin .len,_,_⟩ | .call ⟨.builtin .cap,_,_⟩ | .call ⟨.builtin .min,_,_⟩ | .call ⟨.builtin .max,_,_⟩=>opP c o ρ h K
  | .call ⟨.value (.func f),args,_⟩ =>
    match evs ρ args.toList with
    | some es=>match Zlt f es c.calls with
      | some ⟨s,t⟩=>Zwx (fun K' h'=>s.sem t K' (fun _ _=>False) h') h fun r=>K (ZeG (Zae.evs s.res r)) h
      | none=>False
    | none=>False
  | _=>False
def ZrQ (c:Cfg) (o:Oper) (e:Env) (h:Zb) (K:Env→Zb→Prop):Prop :=
  ZoV c o.op e h fun v h'=>ZnA c.n e o.dst v fun e'=>K e' h'
def Zph (m i:Nat):Bool:=Nat.beq (Nat.land (Nat.shiftRight m i) 1) 1
def setN (m i:Nat):Nat:=Nat.lor m (Nat.shiftLeft 1 i)
def ZkP (m:Nat):List Edge→Bool
  | []=>true
  | e::es=>bif Region.binds .any e then (bif Zph m e.on then ZkP m es else false) else ZkP m es
def ZaP (m i:Nat) (o:Oper):Bool:=bif Zph m i then false else ZkP m o.after.toList
def ZhS (m i:Nat):Nat→List Oper→Bool
  | _,[]=>true
  | k,o::os=>bif Nat.beq k i then ZhS m i (k+1) os else bif ZaP m k o then false else ZhS m i (k+1) os
def ZfD (i:Nat):List Edge→Bool
  | []=>false
  | e::es=>bif Nat.beq e.on i then (bif Region.binds .any e then true else ZfD i es) else ZfD i es
def Ziw (ops:Array Oper) (oi:Oper) (m i:Nat):Nat→List Oper→Bool
  | _,[]=>true
  | k,o::os=>bif (bif Nat.beq k i then true else bif Zph m k then true else bif ZfD i o.after.toList then true else oi.apart ops o) then Ziw ops oi m i (k+1) os else false
def Zr3 (m:Nat):Nat→List Oper→Bool
  | _,[]=>true
  | k,o::os=>bif ZaP m k o then false else Zr3 m (k+1) os
abbrev ZfC:=List (Nat × (Zb→Prop))
def Zqb (o:Oper):ZfC→ZfC
  | []=>[]
  | x::r=>bif ZfD x.1 o.after.toList then Zqb o r else x::Zqb o r
def ZwP (h:Zb):ZfC→Prop→Prop
  | [],K=>K
  | x::r,K=>x.2 h∧ZwP h r K
def Zkv (m i j:Nat):Nat→List Oper→Bool
  | _,[]=>true
  | k,o::os=>bif Nat.beq k i||Nat.beq k j then Zkv m i j (k+1) os else bif ZaP m k o then false else Zkv m i j (k+1) os
def Zng (b o:Nat):Nat→List Value→List (Nat × Nat × Value)
  | _,[]=>[]
  | i,v::vs=>(b,ZzH o i,v)::Zng b o (i+1) vs
def ldH (P:Program) (t:TypeId) (h:Zb) (b o:Nat) (K:EV→List (Nat × Nat × Value)→Prop):Prop :=
  bif ZbF (P.underlying t) then
    (bif Nat.beq (Zed P 8 t).length (P.cellsOf t) then Zt7 h b o 0 (Zed P 8 t) fun vs=>K (.val (.agg vs.toArray)) (Zng b o 0 vs) else False)
  else Zju (P.underlying t) h b o fun v=>K v [(b,o,v.v)]
inductive OpK where
  | pure | load (t:TypeId) (x:Operand) | text (x:Operand) | other
def ZfF (c:Cfg):Op→OpK
  | .move _ | .assign _ | .pick _ _ _ | .nilCheck _ | .binOp _ _ _ _ _ | .unOp _ _ _ | .slice _ _ _ _ _ | .fieldAddr _ _ _ | .field _ _ _ | .indexAddr _ _ _ | .index _ _ _ | .extract _ _ | .build _ _ | .makeFunc _ _ _=> .pure
  | .convert s d x=>match c.P.underlying s,c.P.underlying d with
    | some (.int _),some (.int _)=> .pure
    | some (.slice e),some .string=>match c.P.underlying e with
      | some (.int .u8)=> .text x
      | _=> .other
    | _,_=> .other
  | .call ⟨.builtin .len,_,ts⟩=>bif Zgw c.P ts then .other else .pure
  | .call ⟨.builtin .cap,_,_⟩ | .call ⟨.builtin .min,_,_⟩ | .call ⟨.builtin .max,_,_⟩=> .pure
  | .load t x=> .load t x
  | _=> .other
def Zjx (all:List Oper) (o:Oper) (e:Env) (A B:Env→Prop):Prop :=
  match o.guard with
  | none=>A e
  | some (j,want) =>
    match Ze3 all j with
    | none=>B e
    | some t =>
      match e t with
      | some (.lit b) =>
        match b,want with
        | true,true | false,false=>A e
        | true,false | false,true=>B e
      | some (.val (.bool b)) =>
        match want with
        | true=>Zw b (A (e.set t (.lit true))) (B (e.set t (.lit false)))
        | false=>Zw b (B (e.set t (.lit true))) (A (e.set t (.lit false)))
      | some _=>B e
      | none=>False
inductive OrdT where
  | done | take (i:Nat) (r:OrdT) | fork (i:Nat) (r:OrdT) (j:Nat) (s:OrdT)
def OrdT.depth:OrdT→Nat
  | .done=>0
  | .take _ r=>r.depth+1
  | .fork _ r _ s=>Nat.max r.depth s.depth+1
def Zw0 (c:Cfg) (ops:Array Oper) (o:Oper) (hd:ZfC) (e:Env) (h:Zb) (rest:ZfC→Env→Zb→Prop):Prop :=
  Zjx ops.toList o e (fun e=>opP c o.op e h fun v h'=>ZnA c.n e o.dst v fun e'=>ZwP h' (Zqb o hd) (rest (Zqb o hd) e' h'))
   (fun e=>ZnA c.n e o.dst (.val undef) fun e'=>rest hd e' h)
def Zzr (c:Cfg) (ops:Array Oper) (o:Oper) (hd:ZfC) (e:Env) (h:Zb) (rest:ZfC→Env→Zb→Prop):Prop :=
  Zjx ops.toList o e (fun e=>opP c o.op e h fun v _=>ZnA c.n e o.dst v fun e'=>rest hd e' h)
   (fun e=>ZnA c.n e o.dst (.val undef) fun e'=>rest hd e' h)
def ZmA (c:Cfg) (ops:Array Oper) (K:Env→Zb→Prop):OrdT→Nat→ZfC→Env→Zb→Prop
  | .done,m,_,e,h=>bif Zr3 m 0 ops.toList then K e h else False
  | .fork i r j s,m,hd,e,h =>
    match ops[i]?,ops[j]? with
    | some o,some p=>bif ZaP m i o&&(ZaP m j p&&Zkv m i j 0 ops.toList) then
        Zfb (Zw0 c ops o hd e h (ZmA c ops K r (setN m i))) (Zw0 c ops p hd e h (ZmA c ops K s (setN m j)))
      else False
    | _,_=>False
  | .take i r,m,hd,e,h =>
    match ops[i]? with
    | none=>False
    | some o =>
      match ZfF c o.op with
      | .pure=>bif ZaP m i o&&(Ziw ops o m i 0 ops.toList||ZhS m i 0 ops.toList) then Zzr c ops o hd e h (ZmA c ops K r (setN m i)) else False
      | .load t x=>bif ZaP m i o&&Ziw ops o m i 0 ops.toList then
          Zjx ops.toList o e (fun e=>match e.ev x with
           | some y=>atP y fun b p=>ldH c.P t h b p fun v cells=>ZnA c.n e o.dst v fun e'=>ZmA c ops K r (setN m i) ((i,fun h'=>Zk h' cells)::hd) e' h
           | none=>False)
           (fun e=>ZnA c.n e o.dst (.val undef) fun e'=>ZmA c ops K r (setN m i) hd e' h)
        else bif ZaP m i o&&ZhS m i 0 ops.toList then Zzr c ops o hd e h (ZmA c ops K r (setN m i)) else False
      | .text x=>bif ZaP m i o&&Ziw ops o m i 0 ops.toList then
          Zjx ops.toList o e (fun e=>match e.ev x with
           | some (.val (.slice p l n))=>b2s ⟨p,l,n⟩ h fun s=>ZnA c.n e o.dst (.val (.string s)) fun e'=>ZmA c ops K r (setN m i) ((i,fun h'=>b2s ⟨p,l,n⟩ h' fun s'=>s'=s)::hd) e' h
           | _=>False)
           (fun e=>ZnA c.n e o.dst (.val undef) fun e'=>ZmA c ops K r (setN m i) hd e' h)
        else bif ZaP m i o&&ZhS m i 0 ops.toList then Zw0 c ops o hd e h (ZmA c ops K r (setN m i)) else False
      | .other=>bif ZaP m i o&&ZhS m i 0 ops.toList then Zw0 c ops o hd e h (ZmA c ops K r (setN m i)) else False
inductive Ann where
  | leaf
  | seq (a b:Ann)
  | cut (slots:List Nat) (tys:List VT) (kill:List (Nat × Nat)) (a b:Ann)
  | cond (a b:Ann)
  | block (a:Ann)
  | loop (slots:List Nat) (tys:List VT) (kill:List (Nat × Nat)) (a:Ann)
  | order (l:OrdT)
  | range (tys:List VT) (a b:Ann)
inductive Ex where
  | normal | exit (id:Nat) | ret
def Zaw:List Nat→List EV→Nat→Option EV
  | s::ss,v::vs,j=>bif Nat.beq j s then some v else Zaw ss vs j
  | _,_,_=>none
def ZmV:List (Nat × Nat)→Nat→Bool
  | [],_=>false
  | (lo,hi)::r,j=>bif Nat.ble lo j&&Nat.ble j hi then true else ZmV r j
def Zqj:List Nat→Nat→Bool
  | [],_=>false
  | s::ss,j=>bif Nat.beq j s then true else Zqj ss j
def ZsC (slots:List Nat) (vs:List EV) (kill:List (Nat × Nat)) (e:Env):Env:=⟨fun j =>
  match Zaw slots vs j with
  | some v=>some v
  | none=>bif ZmV kill j then none else e.f j,e.mD⟩
def ZpN (e:Env):List Nat→Option (List EV)
  | []=>some []
  | s::ss=>match e s,ZpN e ss with
    | some v,some vs=>some (v::vs)
    | _,_=>none
def ZnX (slots:List Nat) (tys:List VT) (e:Env):Option (Zae tys) :=
  match ZpN e slots with
  | some es=>Zae.un tys es
  | none=>none
def Zse (slots:List Nat) (tys:List VT) (e:Env) (J:Zae tys→Zb→Prop) (h:Zb):Prop :=
  match ZnX slots tys e with
  | some t=>J t h
  | none=>False
def mkN:Nat:=4294967291
def ZdW:Code→List Nat
  | .region _ ops _=>ops.toList.filterMap (·.dst)
  | .seq a b=>ZdW a++ZdW b
  | .cond _ a b=>ZdW a++ZdW b
  | .block _ a=>ZdW a
  | .loop a=>ZdW a
  | .rangeFunc _ _ _ _=>[mkN]
  | _=>[]
def Zo8 (slots:List Nat) (kill:List (Nat × Nat)) (a:Code):Bool:=(ZdW a).all fun j=>bif Nat.beq j mkN then false else Zqj slots j||ZmV kill j
def Zun (K:Env→Zb→Prop) (Q:Ex→Env→Zb→Prop):Ex→Env→Zb→Prop
  | .normal,e,h=>K e h
  | .exit id,e,h=>Q (.exit id) e h
  | .ret,e,h=>Q .ret e h
def Zvt (id:Nat) (Q:Ex→Env→Zb→Prop):Ex→Env→Zb→Prop
  | .normal,e,h=>Q .normal e h
  | .exit id',e,h=>bif Nat.beq id' id then Q .normal e h else Q (.exit id') e h
  | .ret,e,h=>Q .ret e h
def Zkp (n:Nat) (e:Env):List Tmp→List EV→Option Env
  | [],[]=>some e
  | p::ps,v::vs=>bif Nat.blt p n then Zkp n (e.set p v) ps vs else none
  | _,_=>none
def ZwR (a:Code):Bool:=Zqj (ZdW a) mkN
def Zsm:Op→Bool
  | .defer _=>true
  | _=>false
def Zhf:List Oper→Bool
  | []=>true
  | o::os=>bif Zsm o.op then false else Zhf os
def Ann.fst:Ann→Ann
  | .seq a _ | .cut _ _ _ a _ | .cond a _ | .block a | .loop _ _ _ a | .range _ a _=>a
  | .leaf | .order _=> .leaf
def Ann.snd:Ann→Ann
  | .seq _ b | .cut _ _ _ _ b | .cond _ b | .range _ _ b=>b
  | _=> .leaf
def Zve (K:Env→Zb→Prop):Ex→Env→Zb→Prop
  | .normal,e,h=>K e h
  | _,_,_=>False
def Zvd (k:Option Code→Zb→Prop):Ex→Env→Zb→Prop
  | .normal,_,h=>k none h
  | .exit id,_,h=>k (some (.exit id)) h
  | .ret,_,h=>k (some .ret) h
def wpC (c:Cfg):Code→Ann→Env→Zb→(Ex→Env→Zb→Prop)→Prop
  | .skip,_,e,h,Q=>Q .normal e h
  | .region _ ops draw,ann,e,h,Q =>
    match draw with
    | true=>match ann with
      | .order l=>bif Region.noSelect ops&&(Nat.ble l.depth ops.size&&Zhf ops.toList) then ZmA c ops (fun e' h'=>Q .normal e' h') l 0 [] e h else False
      | _=>bif c.rnd.isNone&&Region.lexB .any ops then Zd0 c (ZrQ c) ops.toList ops.toList e h fun e' h'=>Q .normal e' h' else False
    | false=>Zd0 c (Zy1 c) ops.toList ops.toList e h fun e' h'=>Q .normal e' h'
  | .seq a b,ann,e,h,Q =>
    match ann with
    | .cut slots tys kill x y =>
      bif Zo8 slots kill a then
        ZgY (fun t h'=>wpC c b y (ZsC slots (Zae.evs tys t) kill e) h' Q) (fun J=>wpC c a x e h (Zun (fun e' h'=>Zse slots tys e' J h') Q))
      else False
    | ann=>wpC c a ann.fst e h (Zun (fun e' h'=>wpC c b ann.snd e' h' Q) Q)
  | .cond x a b,ann,e,h,Q =>
    match e.ev x with
    | some (.lit true)=>wpC c a ann.fst e h Q
    | some (.lit false)=>wpC c b ann.snd e h Q
    | some (.val (.bool v))=>Zw v (wpC c a ann.fst e h Q) (wpC c b ann.snd e h Q)
    | _=>False
  | .block id a,ann,e,h,Q=>wpC c a ann.fst e h (Zvt id Q)
  | .loop a,ann,e,h,Q =>
    match ann with
    | .loop slots tys kill x =>
      bif Zo8 slots kill a then
        match ZnX slots tys e with
        | some t0=>YH (fun J t h'=>wpC c a x (ZsC slots (Zae.evs tys t) kill e) h' (Zun (fun e' h''=>Zse slots tys e' J h'') Q)) t0 h
        | none=>False
      else False
    | _=>False
  | .exit id,_,e,h,Q=>Q (.exit id) e h
  | .ret,_,e,h,Q=>Q .ret e h
  | .rangeFunc g ps assign body,ann,e,h,Q =>
    match ann with
    | .range tys x y=>bif c.rnd.isNone&&e.mD.isNone then
      (match e.ev g with
      | some (.val (.func (.func f) ⟨[]⟩ ⟨cs⟩))=>match ZpT f (cs.map EV.val) c.iters with
        | some ⟨s,t⟩ =>
          ZrP ps.size (fun Y l K h'=>s.sem Y l t K h')
           (fun l r vs h' k=>Zxa (fun a:Zae tys=>(Zae.evs tys a).map EV.v) vs fun a=>match Zkp c.n ⟨e.f,none⟩ ps.toList (Zae.evs tys a) with
             | some e1=>wpC { c with rnd:=some l,pan:=fun _ _=>False } assign x e1 h' (Zve fun e2 h2 =>
                 Zuq r l h2 fun h3=>wpC { c with rnd:=some l,pan:=fun _ _=>False } body y e2 h3 (Zvd k))
             | none=>False)
           h fun p D h'=>Zua p (Q .normal ⟨e.f,some D⟩ h') (fun id=>Q (.exit id) ⟨e.f,some D⟩ h') (Q .ret ⟨e.f,some D⟩ h')
        | none=>False
      | _=>False)
      else False
    | _=>False
  | _,_,_,_,_=>False
def Ztg (c:Cfg) (e:Env) (h:Zb):List ResultVar→(List EV→Prop)→Prop
  | [],K=>K []
  | .tmp t::r,K=>match e.f t with
    | some v=>Ztg c e h r fun vs=>K (v::vs)
    | none=>False
  | .cell a t::r,K=>match e.f a with
    | some (.adr b o)=>ldT c.P t h b o fun v=>Ztg c e h r fun vs=>K (v::vs)
    | _=>False
def ZjR (l:List EV):Env:=⟨fun j=>go l 0 j,none⟩
where go:List EV→Nat→Nat→Option EV
  | [],_,_=>none
  | v::vs,i,j=>bif Nat.beq j i then some v else go vs (i+1) j
def Zzs (c:Cfg) (fn:Func) (ann:Ann) (args:List EV) (res:List VT) (K:Zae res→Zb→Prop) (Kp:Value→Zb→Prop) (h:Zb):Prop :=
  match fn.body with
  | some code=>wpC { c with rnd:=none,pan:=bif ZwR code then fun _ _=>False else Kp } code ann (ZjR args) h fun ex e h' =>
    match ex with
    | .exit _=>False
    | _=>match e.mD with
      | none=>Ztg c e h' fn.results.toList fun vs=>match Zae.un res vs with
        | some r=>K r h'
        | none=>False
      | some D=>ZpC D h' fun h'=>Ztg c e h' fn.results.toList fun vs=>match Zae.un res vs with
        | some r=>K r h'
        | none=>False
  | none=>False
theorem ZlP (w:World) (b o:Nat):w.cell? ⟨b,o,none⟩=Zb.cell w.heap b o:=by
  unfold World.cell? Zb.cell
  simp only [Option.isSome_none,Bool.false_eq_true,if_false]
  cases w.heap[b]? with
  | none=>rfl
  | some x=>cases x<;>rfl
theorem ZwT (w:World) (b o:Nat):w.frozen? ⟨b,o,none⟩=Zb.froz w.heap b o:=by
  unfold World.frozen? Zb.froz
  rfl
theorem ZpD (w:World) (b o:Nat) (v:Value):w.setCell ⟨b,o,none⟩ v={ w with heap:=Zb.put w.heap b o v }:=by
  unfold World.setCell Zb.put
  simp only [Option.isSome_none,Bool.false_eq_true,if_false]
  refine congrArg (fun f=>({ w with heap:=w.heap.modify b f }:World)) ?_
  funext x
  cases x<;>rfl
theorem ZjU (b o n:Nat):(⟨b,o,none⟩:Addr).add n=⟨b,o+n,none⟩:=by
  unfold Addr.add
  split
  ·rename_i h;subst h;rfl
  ·rfl
theorem ZoA (o i:Nat):ZzH o i=o+i:=by
  unfold ZzH
  cases h:Nat.beq i 0 with
  | false=>rfl
  | true=>have:=Nat.eq_of_beq_eq_true h;subst this;rfl
def Same (w w':World):Prop:=w'.tape=w.tape∧w'.os=w.os∧w'.output=w.output
theorem Same.refl (w:World):Same w w:=⟨rfl,rfl,rfl⟩
theorem Same.trans {a b c:World} (h:Same a b) (h':Same b c):Same a c:=⟨h'.1.trans h.1,h'.2.1.trans h.2.1,h'.2.2.trans h.2.2⟩
def ZwI:Option Nat→List Deferred
  | none=>[]
  | some D=>[{ target:= .collected D,args:= #[]}]
structure Agr (n:Nat) (e:Env) (a:Act):Prop where
  size:a.tmps.size=n
  defers:a.defers=ZwI e.mD
  val:∀ j v,e j=some v→a.tmps[j]?=some v.v
theorem Agr.ev {n:Nat} {e:Env} {a:Act} (h:Agr n e a) {x:Operand} {v:EV} (hx:e.ev x=some v):a.eval x=v.v:=by
  cases x with
  | tmp t=>have:=h.val t v hx;simp [Act.eval,this]
  | const c =>
    cases c<;>simp only [Env.ev,Option.some.injEq] at hx<;>subst hx<;>rfl
  | global g=>simp only [Env.ev,Option.some.injEq] at hx;subst hx;rfl
  | func f=>simp only [Env.ev,Option.some.injEq] at hx;subst hx;rfl
theorem Agr.evs {n:Nat} {e:Env} {a:Act} (h:Agr n e a):∀ {xs:List Operand} {vs:List EV},evs e xs=some vs→xs.map a.eval=vs.map EV.v
  | [],vs,hx=>by simp only [Fw.evs,Option.some.injEq] at hx;subst hx;rfl
  | x::xs,vs,hx=>by
    simp only [Fw.evs] at hx
    split at hx
    ·rename_i v vs' h1 h2
     simp only [Option.some.injEq] at hx;subst hx
     simp [h.ev h1,h.evs h2]
    ·cases hx
theorem Agr.set {n:Nat} {e:Env} {a:Act} (h:Agr n e a) {d:Nat} (hd:Nat.blt d n=true) (v:EV):Agr n (e.set d v) (a.put (some d) v.v):=by
  have hlt:d<n:=by rw [Nat.blt_eq] at hd;exact hd
  refine ⟨by simp [Act.put,h.size],by simp [Act.put,h.defers,Env.set],fun j u hj=>?_⟩
  unfold Env.set at hj
  dsimp only at hj
  cases hb:Nat.beq j d with
  | true =>
    have:=Nat.eq_of_beq_eq_true hb;subst this
    rw [hb] at hj
    simp only [cond_true,Option.some.injEq] at hj
    subst hj
    simp [Act.put,h.size,hlt]
  | false =>
    have hne:j≠d:=Nat.ne_of_beq_eq_false hb
    rw [hb] at hj
    simp only [cond_false] at hj
    have:=h.val j u hj
    simp [Act.put,Array.getElem?_setIfInBounds_ne (Ne.symm hne),this]
theorem Agr.tell {n:Nat} {e:Env} {a:Act} (h:Agr n e a) {t:Nat} {b:Bool} (ht:e t=some (.val (.bool b))):Agr n (e.set t (.lit b)) a:=by
  refine ⟨h.size,h.defers,fun j u hj=>?_⟩
  unfold Env.set at hj
  dsimp only at hj
  cases hb:Nat.beq j t with
  | true =>
    have:=Nat.eq_of_beq_eq_true hb;subst this
    rw [hb] at hj
    simp only [cond_true,Option.some.injEq] at hj
    subst hj
    have:=h.val j _ ht
    exact this
  | false =>
    rw [hb] at hj
    exact h.val j u hj
theorem ZcL {n:Nat} {e:Env} {a:Act} (h:Agr n e a) {d:Option Tmp} {v:EV} {K:Env→Prop} (hk:ZnA n e d v K) :
    ∃ e',Agr n e' (a.put d v.v)∧K e':=by
  unfold ZnA at hk
  cases d with
  | none=>exact ⟨e,h,hk⟩
  | some d =>
    simp only at hk
    cases hb:Nat.blt d n with
    | false=>rw [hb] at hk;exact hk.elim
    | true=>rw [hb] at hk;exact ⟨_,h.set hb v,hk⟩
section
variable (P:Program) (w:World)
theorem Zfi {b o:Nat} {v:Value} (h:Zb.cell w.heap b o=some v) (m:Mode):(load ⟨b,o,none⟩ m).run P w = .ok v w:=by
  rw [run_load,ZlP,h]
theorem Zj7 {b o:Nat} {u v:Value} (h:Zb.cell w.heap b o=some u) (hf:Zb.froz w.heap b o=false) (hv:Zv v=true) (m:Mode) :
    (store ⟨b,o,none⟩ v m).run P w = .ok () { w with heap:=Zb.put w.heap b o v }:=by
  have hv':v.oneCell'=true:=by cases v<;>first | rfl | (simp [Zv] at hv)
  rw [run_store P w _ v m hv',ZlP,h,ZwT,hf]
  simp only [Bool.false_eq_true,if_false,ZpD]
theorem Zh (t:TypeId) {d:TypeDesc} (h:P.underlying t=some d):(underlying t).run P w = .ok d w:=by
  unfold underlying
  simp [h]
theorem ZaB (t:TypeId) {i:TypeInfo} (h:P.info? t=some i):(typeInfo t).run P w = .ok i w:=by
  unfold typeInfo
  simp [h]
theorem XT (t:TypeId) {i:TypeInfo} (h:P.info? t=some i):(sizeOf t).run P w = .ok i.size w:=by
  unfold sizeOf
  simp [ZaB P w t h]
theorem Zaa (t:TypeId) {i:TypeInfo} {v:Value} (h:P.info? t=some i) (hv:i.zero=some v):(zeroValue t).run P w = .ok v w:=by
  unfold zeroValue
  simp [ZaB P w t h,hv]
theorem ZbG {t:TypeId} {d:TypeDesc} (h:P.underlying t=some d):∃ i,P.info? t=some i:=by
  unfold Program.underlying at h
  cases hi:P.info? t with
  | none=>simp [hi] at h
  | some i=>exact ⟨i,rfl⟩
theorem Zbr {t:TypeId} {i:TypeInfo} (h:P.info? t=some i):P.cellsOf t=i.size:=by
  unfold Program.cellsOf
  simp [h]
theorem ZdP (t:TypeId) {d:TypeDesc} (h:P.underlying t=some d):(isAgg t).run P w = .ok (ZbF (some d)) w:=by
  unfold isAgg
  simp only [Sem.run_bind,Zh P w t h,Result.andThen_ok]
  cases d<;>rfl
theorem ZeX (b o:Nat):∀ (vs:List Value) (i:Nat) (acc:Array Value),Zb.has w.heap b (o+i) vs →
    (loadCellsFrom ⟨b,o,none⟩ i vs.length acc).run P w = .ok (acc++vs.toArray) w
  | [],i,acc,_=>by simp [loadCellsFrom]
  | v::vs,i,acc,h=>by
    have h1:Zb.cell w.heap b (o+i)=some v:=h.1
    have h2:Zb.has w.heap b (o+i+1) vs:=h.2
    simp only [List.length_cons,loadCellsFrom,Sem.run_bind,ZjU,Zfi P w h1,Result.andThen_ok]
    rw [ZeX b o vs (i+1) _ (by rw [← Nat.add_assoc];exact h2)]
    simp
theorem Zdb (b o:Nat) (vs:List Value) (h:Zb.has w.heap b o vs):(loadCells ⟨b,o,none⟩ vs.length).run P w = .ok vs.toArray w:=by
  unfold loadCells
  rw [ZeX P w b o vs 0 #[] (by simpa using h)]
  simp
end
theorem Zor {h:Zb} {b o b' o':Nat} {v:Value} (hne:b≠b'∨o≠o'):(h.put b o v).cell b' o'=h.cell b' o':=by
  unfold Zb.put Zb.cell
  simp only [Array.getElem?_modify]
  by_cases hb:b=b'
  ·subst hb
   have ho:o≠o':=hne.resolve_left (fun h=>h rfl)
   simp only [if_true]
   cases hh:h[b]? with
   | none=>rfl
   | some x=>cases x<;>simp [Array.getElem?_setIfInBounds_ne ho]
  ·simp [hb]
theorem Zuf {h:Zb} {b o b' o':Nat} {v:Value}:(h.put b o v).froz b' o'=h.froz b' o':=by
  unfold Zb.put Zb.froz
  simp only [Array.getElem?_modify]
  by_cases hb:b=b'
  ·subst hb
   simp only [if_true]
   cases hh:h[b]? with
   | none=>rfl
   | some x=>cases x<;>rfl
  ·simp [hb]
theorem Zo4 {h:Zb} {b o:Nat} {v:Value}:∀ {n o':Nat},o<o'→h.free b o' n→(h.put b o v).free b o' n
  | 0,_,_,_=>trivial
  | n+1,o',hlt,hf=>by
    obtain ⟨⟨⟨u,hu⟩,hz⟩,hr⟩:=hf
    exact ⟨⟨⟨u,by rw [Zor (.inr (by omega))];exact hu⟩,by rw [Zuf];exact hz⟩,Zo4 (by omega) hr⟩
theorem ZdM (P:Program) (b o:Nat):∀ (vs:List Value) (i:Nat) (w:World),Zb.free w.heap b (o+i) vs.length→vs.all Zv=true →
    (storeCells ⟨b,o,none⟩ vs i).run P w = .ok () { w with heap:=Zb.puts w.heap b (o+i) vs }
  | [],i,w,_,_=>rfl
  | v::vs,i,w,hf,ha=>by
    obtain ⟨⟨⟨u,hu⟩,hz⟩,hr⟩:=hf
    simp only [List.all_cons,Bool.and_eq_true] at ha
    simp only [storeCells,Sem.run_bind,ZjU,Zj7 P w hu hz ha.1,Result.andThen_ok]
    rw [ZdM P b o vs (i+1) _ (by rw [← Nat.add_assoc];exact Zo4 (by omega) hr) ha.2]
    simp [Zb.puts,Nat.add_assoc]
theorem ZgI {d:Option TypeDesc} {h:Zb} {b o:Nat} {K:EV→Prop} (hk:Zju d h b o K) :
    ∃ v,h.cell b o=some v.v∧K v∧ZbF d=false∧d.isSome=true:=by
  unfold Zju at hk
  cases d with
  | none=>exact hk.elim
  | some d =>
    cases d<;>simp only at hk<;>first
      | exact hk.elim
      | (obtain ⟨x,hx,hK⟩:=hk;refine ⟨_,?_,hK,rfl,rfl⟩;exact hx)
theorem Zh0 {h:Zb} {b o:Nat}:∀ {ds:List (Option TypeDesc)} {i:Nat} {K:List Value→Prop},Zt7 h b o i ds K →
    ∃ vs,vs.length=ds.length∧h.has b (o+i) vs∧K vs
  | [],i,K,hk=>⟨[],rfl,trivial,hk⟩
  | d::ds,i,K,hk=>by
    obtain ⟨v,hc,hk,_⟩:=ZgI hk
    obtain ⟨vs,hl,hh,hk⟩:=Zh0 hk
    rw [ZoA] at hc
    exact ⟨v.v::vs,by simp [hl],⟨hc,by rw [Nat.add_assoc];exact hh⟩,hk⟩
theorem Zo0 {P:Program} {t:TypeId} {b o:Nat} {K:EV→Prop} {h:Zb} (hk:ldT P t h b o K) :
    ∃ v,(∀ w:World,w.heap=h→(loadVar t ⟨b,o,none⟩).run P w = .ok v.v w)∧K v:=by
  unfold ldT at hk
  cases hu:P.underlying t with
  | none=>rw [hu] at hk;simp [ZbF,Zju] at hk
  | some d =>
    obtain ⟨i,hi⟩:=ZbG P hu
    rw [hu] at hk
    unfold loadVar
    cases ha:ZbF (some d) with
    | true =>
      rw [ha] at hk
      simp only [cond_true] at hk
      cases hl:Nat.beq (Zed P 8 t).length (P.cellsOf t) with
      | false=>rw [hl] at hk;exact hk.elim
      | true =>
        rw [hl] at hk
        obtain ⟨vs,hlen,hh,hk⟩:=Zh0 hk
        have hs:i.size=vs.length:=by rw [hlen,Nat.eq_of_beq_eq_true hl,Zbr P hi]
        refine ⟨.val (.agg vs.toArray),fun w hw=>?_,hk⟩
        subst hw
        simp only [Sem.run_bind,ZdP P w t hu,ha,Result.andThen_ok,if_true,XT P w t hi,hs]
        rw [Zdb P w b o vs (by simpa using hh)]
        rfl
    | false =>
      rw [ha] at hk
      obtain ⟨v,hc,hk,_⟩:=ZgI hk
      refine ⟨v,fun w hw=>?_,hk⟩
      subst hw
      simp only [Sem.run_bind,ZdP P w t hu,ha,Result.andThen_ok,Bool.false_eq_true,if_false]
      exact Zfi P w hc _
def ZyV (vs:List VT) (t:Zae vs):Value:=(ZeG (Zae.evs vs t)).v
def fen (r:Option Nat):Fence:={ fn:=fun _=>True,depth:=none,alive:=false,round:=r }
theorem ZfA {r:Option Nat} {n:Nat} {P:Program} {f:FuncId} {args:Array Value} {w:World} {R:Ending→World→Prop}:CallsIn (fen r) n P f args w R↔Calls P f args w R :=
  callsIn_wide (n:=n)
def Zgl (res:List VT) (w:World) (K:Zae res→Zb→Prop) (Kp:Value→Zb→Prop):Ending→World→Prop:=fun e w' =>
  (∃ r,e = .returned (ZyV res r)∧Same w w'∧K r w'.heap)∨(∃ v,e = .panicked [{ v,recovered:=false }]∧Same w w'∧Kp v w'.heap)
def ZuB (P:Program) (l:Nat) (vs:List Value) (w:World) (k:Bool→Zb→Prop):Prop :=
  ∃ fn tmps assign body,(Instr.yield l vs.toArray).run P w = .ok (.round l fn tmps assign body) w ∧
    RoundIn (fen none) 0 P l fn tmps assign body w fun e w'=>∃ b,e = .returned (.bool b)∧Same w w'∧k b w'.heap
def YOK (P:Program) (Y:Yld):Prop:=∀ l vs k w,Y l vs k w.heap→ZuB P l vs w k
structure Zm (P:Program) (f:FuncId) (s:Ze):Prop where
  named:∃ fn,P.funcs[f]?=some fn∧(fn.name == "runtime.NumGoroutine")=false∧fn.body.isNone=false
  calls:∀ (t:Zae s.args) (K:Zae s.res→Zb→Prop) (Kp:Value→Zb→Prop) (w:World),s.sem t K Kp w.heap →
    Calls P f ((Zae.evs s.args t).map EV.v).toArray w (Zgl s.res w K Kp)
def Zb7.spec (s:Zb7) (Y:Yld):Ze:=⟨.yl::s.caps,[],fun t K _ h=>s.sem Y t.1 t.2 (fun h'=>K () h') h⟩
def Zpm (P:Program) (f:FuncId) (s:Zb7):Prop:=∀ Y,YOK P Y→Zm P f (s.spec Y)
def Zxh (P:Program) (f:FuncId):Prop:=∀ (t b:Nat) (es:Array MapEntry) (c:Nat) (w:World),w.heap[b]?=some (.map es c) →
  ∃ w',(callFunc f #[.iface t (.map (some b))]).run P w = .ok (.value (.iface t (.map (some w.heap.size)))) w'∧Same w w'∧w'.heap=w.heap.push (.map es c)
def Zf8 (P:Program) (name:String) (t:TypeId) (f:FuncId):Prop:=∀ (v:Value) (w:World),(method (P.types.size+Made.depth) t v name).run P w = .ok (f,v) w
structure Cfg.OK (c:Cfg):Prop where
  calls:∀ x,x∈c.calls→Zm c.P x.1 x.2
  ext:∀ f,f∈c.ext→Zxh c.P f
  dyn:∀ x,x∈c.dyn→Zf8 c.P x.1 x.2.1 x.2.2
  iters:∀ x,x∈c.iters→Zpm c.P x.1 x.2
  yld:YOK c.P c.yld
theorem Cfg.OK.at {c:Cfg} (h:c.OK) (r:Option Nat) (p:Value→Zb→Prop):Cfg.OK { c with rnd:=r,pan:=p }:=⟨h.calls,h.ext,h.dyn,h.iters,h.yld⟩
theorem Zp (P:Program):YOK P ZH:=fun _ _ _ _ h=>h.elim
theorem Zjg {f:FuncId} {es:List EV}:∀ {l:List (FuncId × Zb7)} {p:Zs5},ZpT f es l=some p→(f,p.s)∈l∧Zae.un p.s.caps es=some p.t
  | [],p,h=>by simp [ZpT] at h
  | (g,s)::r,p,h=>by
    simp only [ZpT] at h
    cases hb:Nat.beq f g with
    | false =>
      rw [hb] at h
      have:=Zjg (l:=r) h
      exact ⟨.tail _ this.1,this.2⟩
    | true =>
      rw [hb] at h
      have he:=Nat.eq_of_beq_eq_true hb
      subst he
      simp only [cond_true] at h
      split at h
      ·rename_i t ht
       simp only [Option.some.injEq] at h
       subst h
       exact ⟨.head _,ht⟩
      ·have:=Zjg (l:=r) h
       exact ⟨.tail _ this.1,this.2⟩
theorem ZfU {f:FuncId} {es:List EV}:∀ {l:List (FuncId × Ze)} {p:Zvx},Zlt f es l=some p→(f,p.s)∈l∧Zae.un p.s.args es=some p.t
  | [],p,h=>by simp [Zlt] at h
  | (g,s)::r,p,h=>by
    simp only [Zlt] at h
    cases hb:Nat.beq f g with
    | false =>
      rw [hb] at h
      have:=ZfU (l:=r) h
      exact ⟨.tail _ this.1,this.2⟩
    | true =>
      rw [hb] at h
      have he:=Nat.eq_of_beq_eq_true hb
      subst he
      simp only [cond_true] at h
      split at h
      ·rename_i t ht
       simp only [Option.some.injEq] at h
       subst h
       exact ⟨.head _,ht⟩
      ·have:=ZfU (l:=r) h
       exact ⟨.tail _ this.1,this.2⟩
theorem Zhc {f:FuncId} {es:List EV}:∀ {l:List (FuncId × Ze)} {p:ZlY},Zkb f es l=some p→(f,(⟨p.a0::p.rest,p.res,p.sem⟩:Ze))∈l∧Zae.un p.rest es=some p.t
  | [],p,h=>by simp [Zkb] at h
  | (g,⟨a0::rest,res,sem⟩)::r,p,h=>by
    simp only [Zkb] at h
    cases hb:Nat.beq f g with
    | false =>
      rw [hb] at h
      have:=Zhc (l:=r) h
      exact ⟨.tail _ this.1,this.2⟩
    | true =>
      rw [hb] at h
      have he:=Nat.eq_of_beq_eq_true hb
      subst he
      simp only [cond_true] at h
      split at h
      ·rename_i t ht
       simp only [Option.some.injEq] at h
       subst h
       exact ⟨.head _,ht⟩
      ·have:=Zhc (l:=r) h
       exact ⟨.tail _ this.1,this.2⟩
  | (g,⟨[],res,sem⟩)::r,p,h=>by
    simp only [Zkb] at h
    have:=Zhc (l:=r) h
    exact ⟨.tail _ this.1,this.2⟩
theorem Znc {calls:List (FuncId × Ze)} {Kp:Value→Zb→Prop} {name:String} {v:Value} {es:List EV} {h:Zb} {K:EV→Zb→Prop}:∀ {l:List (String × TypeId × FuncId)},Zw1 calls Kp name v es h K l →
    ∃ (t:TypeId) (f:FuncId) (p:ZlY) (x:p.a0.D),(name,t,f)∈l∧v = .iface t (p.a0.ev x).v∧Zkb f es calls=some p∧p.sem (x,p.t) (fun rr h'=>K (ZeG (Zae.evs p.res rr)) h') Kp h
  | [],hk=>hk.elim
  | (n,t,f)::r,hk=>by
    have tail:Zw1 calls Kp name v es h K r→∃ (t':TypeId) (f':FuncId) (p:ZlY) (x:p.a0.D),(name,t',f')∈(n,t,f)::r∧v = .iface t' (p.a0.ev x).v∧Zkb f' es calls=some p∧p.sem (x,p.t) (fun rr h'=>K (ZeG (Zae.evs p.res rr)) h') Kp h:=fun h9=>by
      obtain ⟨t',f',p,x,h1,h2,h3,h4⟩:=Znc h9
      exact ⟨t',f',p,x,.tail _ h1,h2,h3,h4⟩
    simp only [Zw1] at hk
    cases hb:n ==name with
    | false=>rw [hb] at hk;exact tail hk
    | true =>
      rw [hb] at hk
      have he:n=name:=by simpa using hb
      subst he
      simp only [cond_true] at hk
      split at hk
      ·rename_i p hp
       rcases hk with ⟨x,hx,hk⟩ | hk
       ·exact ⟨t,f,p,x,.head _,hx,hp,hk⟩
       ·exact tail hk
      ·exact tail hk
theorem ZlD {calls:List (FuncId × Ze)} {Kp:Value→Zb→Prop} {v:Value} {es:List EV} {h:Zb} {K:EV→Zb→Prop}:∀ {l:List FuncId},fnP calls Kp v es h K l →
    ∃ (f:FuncId) (s:Ze) (t:Zae s.args),v = .func (.func f) #[] #[]∧Zlt f es calls=some ⟨s,t⟩∧s.sem t (fun rr h'=>K (ZeG (Zae.evs s.res rr)) h') Kp h
  | [],hk=>hk.elim
  | f::r,hk=>by
    simp only [fnP] at hk
    split at hk
    ·rename_i s t hp
     rcases hk with ⟨hv,hk⟩ | hk
     ·exact ⟨f,s,t,hv,hp,hk⟩
     ·exact ZlD hk
    ·exact ZlD hk
theorem Zo3 {f:FuncId}:∀ {l:List FuncId},Zxn f l=true→f∈l
  | [],h=>by simp [Zxn] at h
  | g::r,h=>by
    simp only [Zxn] at h
    cases hb:Nat.beq f g with
    | true=>rw [Nat.eq_of_beq_eq_true hb];exact .head _
    | false=>rw [hb] at h;exact .tail _ (Zo3 h)
theorem ZyK {l:Leaf} {v:Value} {x:l.D} (h:l.un v=some x):l.mk x=v:=by
  cases l<;>cases v<;>simp only [Leaf.un] at h<;>first
    | (split at h
       ·simp only [Option.some.injEq] at h;subst h;rename_i hk;subst hk;rfl
       ·cases h)
    | (simp only [Option.some.injEq] at h;subst h;rfl)
    | cases h
theorem Zro:∀ {ls:List Leaf} {vs:List Value} {t:Tup ls},Tup.un ls vs=some t→Tup.vals ls t=vs
  | [],[],t,_=>rfl
  | [],_::_,t,h=>by simp [Tup.un] at h
  | _::_,[],t,h=>by simp [Tup.un] at h
  | l::ls,v::vs,t,h=>by
    simp only [Tup.un] at h
    split at h
    ·rename_i x t' h1 h2
     simp only [Option.some.injEq] at h
     subst h
     simp only [Tup.vals,ZyK h1,Zro h2]
    ·cases h
theorem Zui {f:FuncId} {e:EV} {x:Unit} (h:fnU f e=some x):(EV.val (.func (.func f) #[] #[])).v=e.v:=by
  unfold fnU at h
  split at h
  ·rename_i g
   cases hb:Nat.beq f g with
   | false=>rw [hb] at h;cases h
   | true=>rw [Nat.eq_of_beq_eq_true hb]
  ·cases h
theorem ZsO {f:FuncId} {ls:List Leaf} {e:EV} {x:Tup ls} (h:ZEx f ls e=some x):(EV.val (.func (.func f) #[] ⟨Tup.vals ls x⟩)).v=e.v:=by
  unfold ZEx at h
  split at h
  ·rename_i g cs
   cases hb:Nat.beq f g with
   | false=>rw [hb] at h;cases h
   | true =>
     rw [hb] at h
     rw [Nat.eq_of_beq_eq_true hb,Zro (ls:=ls) (vs:=cs) h]
  ·cases h
theorem Ztv {e:EV} {l:Nat} (h:ylU e=some l):(EV.val (.func (.yield l) #[] #[])).v=e.v:=by
  unfold ylU at h
  split at h
  ·simp only [Option.some.injEq] at h;subst h;rfl
  ·cases h
theorem ZD7 {v:VT} {e:EV} {x:v.D} (h:v.un e=some x):(v.ev x).v=e.v:=by
  cases v with
  | one l=>exact ZyK (v:=e.v) h
  | agg ls =>
    cases e with
    | val u =>
      cases u with
      | agg cs =>
        have:=Zro (ls:=ls) (vs:=cs.toList) h
        show Value.agg (Tup.vals ls x).toArray = .agg cs
        rw [this]
      | _=>simp [VT.un] at h
    | lit b=>simp [VT.un] at h
    | adr b o=>simp [VT.un] at h
    | itr t b=>simp [VT.un] at h
    | more k v=>simp [VT.un] at h
    | over=>simp [VT.un] at h
  | fn f=>exact Zui h
  | clo f ls=>exact ZsO h
  | yl=>exact Ztv h
theorem Zfh:∀ {vs:List VT} {es:List EV} {t:Zae vs},Zae.un vs es=some t→(Zae.evs vs t).map EV.v=es.map EV.v
  | [],[],t,_=>rfl
  | [],_::_,t,h=>by simp [Zae.un] at h
  | _::_,[],t,h=>by simp [Zae.un] at h
  | v::vs,e::es,t,h=>by
    simp only [Zae.un] at h
    split at h
    ·rename_i x t' h1 h2
     simp only [Option.some.injEq] at h
     subst h
     simp only [Zae.evs,List.map_cons,ZD7 h1,Zfh h2]
    ·cases h
theorem Zr2 {P:Program} {ρ:Operand→Value} {o:Oper} {w w':World} {n:Next} (hr:(execOp ρ o).run P w = .ok n w') (hn:∀ d,n≠ .defer d):∀ c,o.op≠ .defer c:=by
  intro c hc
  unfold execOp at hr
  rw [hc] at hr
  simp only [Sem.run_bind] at hr
  cases h:(resolve ρ c o.type).run P w with
  | ok d w1 =>
    rw [h] at hr
    simp only [Result.andThen_ok,Sem.run_pure] at hr
    cases hr
    exact hn _ rfl
  | halt x w1 =>
    rw [h] at hr
    cases hr
theorem Zg6 {P:Program} {r:Option Nat} {ρ:Operand→Value} {o:Oper} {w w':World} {n:Next} (hr:(execOp ρ o).run P w = .ok n w') (hn:∀ d,n≠ .defer d):(o.semAt r ρ).run P w = .ok n w':=by
  rw [Oper.semAt_eq _ _ _ (Zr2 hr hn)]
  exact hr
theorem Zu6 {P:Program} {r:Option Nat} {o:Oper} {a:Act} {w w':World} {v:Value} {next:Act→World→Prop} {Q:Exit→Act→World→Prop}
    (hr:(execOp a.eval o).run P w = .ok (.value v) w') (hn:next (a.put o.dst v) w'):o.wpIn (fen r) 0 P a w next Q:=by
  refine ⟨fun _ _=>trivial,?_⟩
  rw [show (fen r).round=r from rfl,Zg6 hr (fun _ h=>by cases h)]
  exact hn
theorem ZoJ {P:Program} {r:Option Nat} {o:Oper} {a:Act} {w w':World} {next:Act→World→Prop} {Q:Exit→Act→World→Prop}
    (hr:(execOp a.eval o).run P w = .ok .skip w') (hn:next (a.put o.dst undef) w'):o.wpIn (fen r) 0 P a w next Q:=by
  refine ⟨fun _ _=>trivial,?_⟩
  rw [show (fen r).round=r from rfl,Zg6 hr (fun _ h=>by cases h)]
  exact hn
theorem Zk2 {P:Program} {r:Option Nat} {o:Oper} {a:Act} {w:World} {f:FuncId} {args:Array Value} {next:Act→World→Prop} {Q:Exit→Act→World→Prop}
    (hr:(execOp a.eval o).run P w = .ok (.enter f args) w) (hc:Calls P f args w fun
      | .returned v,w''=>next (a.put o.dst v) w''
      | .panicked chain,w''=>Q (.panic chain) a w''
      | .outgrown,_=>LetsOut Q):o.wpIn (fen r) 0 P a w next Q:=by
  refine ⟨fun _ _=>trivial,?_⟩
  rw [show (fen r).round=r from rfl,Zg6 hr (fun _ h=>by cases h)]
  exact ⟨fun h=>(by cases h),ZfA.2 hc⟩
theorem Ztx {P:Program} {r:Option Nat} {o:Oper} {a:Act} {w:World} {l:Nat} {f:FuncId} {tmps:Array Value} {assign body:Code} {next:Act→World→Prop} {Q:Exit→Act→World→Prop}
    (hr:(execOp a.eval o).run P w = .ok (.round l f tmps assign body) w) {k:Bool→World→Prop} (hc:RoundIn (fen none) 0 P l f tmps assign body w fun e w'=>∃ b,e = .returned (.bool b)∧k b w')
    (hn:∀ b w',k b w'→next (a.put o.dst (.bool b)) w'):o.wpIn (fen r) 0 P a w next Q:=by
  refine ⟨fun _ _=>trivial,?_⟩
  rw [show (fen r).round=r from rfl,Zg6 hr (fun _ h=>by cases h)]
  refine ⟨fun h=>(by cases h),?_⟩
  have hc':RoundIn (fen r) (0 - 1) P l f tmps assign body w fun e w'=>∃ b,e = .returned (.bool b)∧k b w':=hc
  refine hc'.mono ?_
  rintro e w' ⟨b,rfl,hb⟩
  exact hn _ _ hb
theorem Zty {P:Program} {r:Option Nat} {o:Oper} {a:Act} {w:World} {v:Value} {next:Act→World→Prop} {Q:Exit→Act→World→Prop}
    (hd:∀ c,o.op≠ .defer c) (hr:(execOp a.eval o).run P w = .halt (.panic v) w) (hq:Q (.panic [{ v,recovered:=false }]) a w):o.wpIn (fen r) 0 P a w next Q:=by
  refine ⟨fun _ _=>trivial,?_⟩
  rw [show (fen r).round=r from rfl,Oper.semAt_eq _ _ _ hd,hr]
  exact hq
theorem ZrL {P:Program} {w w':World} {s:Sem Value} {v:Value} (h:s.run P w = .ok v w') :
    (do pure (.value (← s)):Sem Next).run P w = .ok (.value v) w':=by
  simp [h]
theorem ZyU {P:Program} {w w':World} {s:Sem Unit} (h:s.run P w = .ok () w') :
    (do s;pure .skip:Sem Next).run P w = .ok .skip w':=by
  simp [h]
theorem Zus {P:Program} {op:BinOp} {t:TypeId} {x y:EV} {K:EV→Prop} (hk:Zvu op x y K):∃ v,(∀ w,(binOp op t x.v y.v).run P w = .ok v.v w)∧K v:=by
  unfold Zvu at hk
  split at hk
  ·rename_i k a k' b
   cases op<;>simp only at hk
   case shl =>
     obtain ⟨h0,hk⟩:=hk
     refine ⟨_,fun w=>?_,hk⟩
     simp only [EV.v,binOp,Op.shift,if_neg (Int.not_lt.2 h0)]
     rfl
   case shr =>
     obtain ⟨h0,hk⟩:=hk
     refine ⟨_,fun w=>?_,hk⟩
     simp only [EV.v,binOp,Op.shift,if_neg (Int.not_lt.2 h0)]
     rfl
   all_goals
     rcases Decidable.em (k=k') with he | he
     case inr=>rw [if_neg he] at hk;exact hk.elim
     subst he
     rw [if_pos rfl] at hk
     first
     | exact hk.elim
     | (obtain ⟨h0,hk⟩:=(show ZK _ _ from hk)
        refine ⟨_,fun w=>?_,hk⟩
        simp only [EV.v,binOp,ne_eq,not_true,if_false,Op.intDiv,if_neg h0]
        rfl)
     | (refine ⟨_,fun w=>?_,hk⟩;simp only [EV.v,binOp,ne_eq,not_true,if_false];rfl)
  ·rename_i a b
   cases op<;>simp only at hk
   case add =>
     obtain ⟨h0,hk⟩:=hk
     refine ⟨_,fun w=>?_,hk⟩
     have:¬ (((a.size+b.size:Nat):Int)>IntKind.i64.max):=by
       have:IntKind.i64.max=9223372036854775807:=by decide
       rw [this];omega
     simp only [EV.v,binOp,Op.stringOp,if_neg this]
     rfl
   all_goals first
     | exact hk.elim
     | (refine ⟨_,fun w=>?_,hk⟩;rfl)
  ·exact hk.elim
section
variable {P:Program} {t:TypeId} (w:World)
theorem Zhp {e:TypeId} (hu:P.underlying t=some (.pointer e)) (p:Option Addr):(Op.equal t (.pointer p) (.pointer none)).run P w = .ok p.isNone w:=by
  unfold Op.equal Op.maxDepth
  rw [show (10000:Nat)=9999+1 from rfl]
  unfold Op.equalIn
  simp only [Sem.run_bind,Zh P w t hu,Result.andThen_ok]
  cases p<;>rfl
theorem ZjG {e:TypeId} (hu:P.underlying t=some (.slice e)) (p:Option Addr) (n m n' m':Nat):(Op.equal t (.slice p n m) (.slice none n' m')).run P w = .ok p.isNone w:=by
  unfold Op.equal Op.maxDepth
  rw [show (10000:Nat)=9999+1 from rfl]
  unfold Op.equalIn
  simp only [Sem.run_bind,Zh P w t hu,Result.andThen_ok]
  cases p<;>rfl
theorem ZlJ {k e:TypeId} (hu:P.underlying t=some (.map k e)) (p:Option Nat):(Op.equal t (.map p) (.map none)).run P w = .ok p.isNone w:=by
  unfold Op.equal Op.maxDepth
  rw [show (10000:Nat)=9999+1 from rfl]
  unfold Op.equalIn
  simp only [Sem.run_bind,Zh P w t hu,Result.andThen_ok]
  cases p<;>rfl
theorem Zqa (hu:P.underlying t=some .bool) (a b:Bool):(Op.equal t (.bool a) (.bool b)).run P w = .ok (a ==b) w:=by
  unfold Op.equal Op.maxDepth
  rw [show (10000:Nat)=9999+1 from rfl]
  unfold Op.equalIn
  simp only [Sem.run_bind,Zh P w t hu,Result.andThen_ok]
  rfl
end
theorem ZwZ {P:Program} {t:TypeId} {neg:Bool} {x y:EV} {K:EV→Prop} (hk:eqP (P.underlying t) neg x y K) :
    ∃ v,(∀ w,(binOp (bif neg then .neq else .eql) t x.v y.v).run P w = .ok v.v w)∧K v:=by
  unfold eqP at hk
  split at hk
  ·rename_i e b o hu
   refine ⟨_,fun w=>?_,hk⟩
   have:=Zhp w hu (some ⟨b,o,none⟩)
   cases neg<;>simp only [cond_true,cond_false,EV.v,binOp,Sem.run_bind,this,Result.andThen_ok]<;>rfl
  ·rename_i e p hu
   refine ⟨_,fun w=>?_,hk⟩
   have:=Zhp w hu p
   cases neg<;>simp only [cond_true,cond_false,EV.v,binOp,Sem.run_bind,this,Result.andThen_ok]<;>cases p<;>rfl
  ·rename_i e p n m n' m' hu
   refine ⟨_,fun w=>?_,hk⟩
   have:=ZjG w hu p n m n' m'
   cases neg<;>simp only [cond_true,cond_false,EV.v,binOp,Sem.run_bind,this,Result.andThen_ok]<;>cases p<;>rfl
  ·rename_i k e p hu
   refine ⟨_,fun w=>?_,hk⟩
   have:=ZlJ w hu p
   cases neg<;>simp only [cond_true,cond_false,EV.v,binOp,Sem.run_bind,this,Result.andThen_ok]<;>cases p<;>rfl
  ·rename_i hu
   split at hk
   ·rename_i a b hx hy
    refine ⟨_,fun w=>?_,hk⟩
    have:=Zqa w hu a b
    rw [hx,hy]
    cases neg<;>simp only [cond_true,cond_false,EV.v,binOp,Sem.run_bind,this,Result.andThen_ok]<;>rfl
   ·exact hk.elim
  ·exact hk.elim
theorem Zm5 (off:Nat):∀ (l:List Value) (k:Nat) (cs:Array Value),off+k+l.length≤cs.size →
    ((l.zipIdx k).foldl (fun cs x=>cs.setIfInBounds (off+x.2) x.1) cs).toList=cs.toList.take (off+k)++l++cs.toList.drop (off+k+l.length)
  | [],k,cs,h=>by simp
  | v::l,k,cs,h=>by
    simp only [List.zipIdx_cons,List.foldl_cons,List.length_cons] at h ⊢
    rw [Zm5 off l (k+1) _ (by simp;omega)]
    have hlt:off+k<cs.toList.length:=by simp;omega
    simp only [Array.toList_setIfInBounds]
    rw [show off+(k+1)=off+k+1 from by omega,List.take_succ_eq_append_getElem (by simp;omega),List.take_set_of_le (by omega),List.drop_set_of_lt (by omega)]
    simp
    omega
def Zxg (place:Nat→Option (Nat × Nat)) (n:Nat):List (Nat × Value)→List (Nat × List Value)→Prop
  | [],[]=>True
  | p::ps,q::l=>place p.1=some (q.1,q.2.length)∧p.2.cells.toList=q.2∧q.1+q.2.length≤n∧Zxg place n ps l
  | _,_=>False
theorem ZeD (place:Nat→Option (Nat × Nat)) (n:Nat):∀ (ps:List (Nat × Value)) (l:List (Nat × List Value)) (cs:Array Value),
    cs.size=n→Zxg place n ps l→Instr.fill place cs ps=some (Zek cs.toList l).toArray
  | [],[],cs,_,_=>by simp [Instr.fill,Zek]
  | [],_::_,cs,_,h=>h.elim
  | _::_,[],cs,_,h=>h.elim
  | (i,v)::ps,(o,vs)::l,cs,hn,h=>by
    obtain ⟨hp,hv,hle,h2⟩:=h
    simp only at hp hv hle
    have hlen:v.cells.size=vs.length:=by rw [← hv];simp
    have hfold:(v.cells.zipIdx.foldl (fun cs x=>match x with | (c,j)=>cs.setIfInBounds (o+j) c) cs).toList=cs.toList.take o++vs++cs.toList.drop (o+vs.length):=by
      rw [← Array.foldl_toList,Array.toList_zipIdx,hv]
      have:=Zm5 o vs 0 cs (by omega)
      simpa using this
    have hsz:(v.cells.zipIdx.foldl (fun cs x=>match x with | (c,j)=>cs.setIfInBounds (o+j) c) cs).size=n:=by
      rw [← Array.length_toList,hfold]
      simp
      omega
    have ih:=ZeD place n ps l _ hsz h2
    rw [hfold] at ih
    have hno:¬ (o+vs.length>cs.size):=by omega
    simp only [Instr.fill,hp,hlen,ne_eq,not_true,decide_false,Bool.false_or,hno,Zek]
    exact ih
theorem ZjM (v:EV):v.v.cells.toList=Zhv v:=by
  cases v with
  | val v=>cases v<;>rfl
  | lit b=>rfl
  | adr b o=>rfl
  | itr t b=>rfl
  | more k v=>rfl
  | over=>rfl
theorem ZlO (v:EV):v.v.cells=(Zhv v).toArray:=by
  rw [← ZjM]
section
variable {c:Cfg} {e:Env} {a:Act} {n:Nat}
theorem ZrY {u:Value} (h:Zv u=true):u.cells.toList=[u]:=by
  cases u<;>first | rfl | cases h
theorem ZsP {d:Option TypeDesc} {v:EV} (h:Zxl d=true→Zv v.v=true):v.v.cells.toList=ZjN d v:=by
  unfold ZjN
  cases hb:Zxl d with
  | true=>exact ZrY (h hb)
  | false=>exact ZjM v
theorem Zkz:∀ {l:List Value} {K:Prop},ZwG l K→(∀ u,u∈l→Zv u=true)∧K
  | [],_,h=>⟨fun _ h9=>(by cases h9),h⟩
  | v::vs,K,h=>by
    obtain ⟨h1,h2⟩:=Zkz h.2
    refine ⟨fun u hu=>?_,h2⟩
    rcases List.mem_cons.1 hu with rfl | hu
    ·exact h.1
    ·exact h1 u hu
theorem Zih (P:Program) (fs:List Field) (hag:Agr n e a) (k:Nat):∀ {ps:List (Nat × Operand)} {l:List (Nat × List Value)},Zjf P fs e k ps=some l→(∀ u,u∈Zml P fs e ps→Zv u=true) →
    Zxg (fun i=>(fs[i]?).map fun f=>(f.offset,P.cellsOf f.type)) k (ps.map fun x=>(x.1,a.eval x.2)) l
  | [],l,h,_=>by simp only [Zjf,Option.some.injEq] at h;subst h;exact trivial
  | (i,x)::r,l,h,hone=>by
    simp only [Zjf] at h
    split at h
    ·rename_i f v l' hf hv hl
     have hone1:Zxl (P.underlying f.type)=true→Zv v.v=true:=fun hb=>hone _ (by unfold Zml;rw [hf,hv];simp [hb])
     have hone2:∀ u,u∈Zml P fs e r→Zv u=true:=fun u hu=>hone u (by
       unfold Zml
       rw [hf,hv]
       dsimp only
       cases Zxl (P.underlying f.type) with
       | true=>exact List.mem_cons_of_mem _ hu
       | false=>exact hu)
     cases h1:Nat.beq (ZjN (P.underlying f.type) v).length (P.cellsOf f.type) with
     | false=>rw [h1] at h;cases h
     | true =>
       rw [h1] at h
       simp only [cond_true] at h
       cases h2:Nat.ble (f.offset+(ZjN (P.underlying f.type) v).length) k with
       | false=>rw [h2] at h;cases h
       | true =>
         rw [h2] at h
         simp only [cond_true,Option.some.injEq] at h
         subst h
         refine ⟨?_,?_,Nat.le_of_ble_eq_true h2,Zih P fs hag k hl hone2⟩
         ·simp [hf,Nat.eq_of_beq_eq_true h1]
         ·simp only [hag.ev hv,ZsP hone1]
    ·cases h
theorem ZfT (size:Nat) (hag:Agr n e a) (k:Nat):∀ {ps:List (Nat × Operand)} {l:List (Nat × List Value)},ZhO size e k ps=some l →
    Zxg (fun i=>some (i*size,size)) k (ps.map fun x=>(x.1,a.eval x.2)) l
  | [],l,h=>by simp only [ZhO,Option.some.injEq] at h;subst h;exact trivial
  | (i,x)::r,l,h=>by
    simp only [ZhO] at h
    split at h
    ·rename_i v l' hv hl
     cases h1:Nat.beq (Zhv v).length size with
     | false=>rw [h1] at h;cases h
     | true =>
       rw [h1] at h
       simp only [cond_true] at h
       cases h2:Nat.ble (i*size+(Zhv v).length) k with
       | false=>rw [h2] at h;cases h
       | true =>
         rw [h2] at h
         simp only [cond_true,Option.some.injEq] at h
         subst h
         refine ⟨?_,?_,Nat.le_of_ble_eq_true h2,ZfT size hag k hl⟩
         ·simp [Nat.eq_of_beq_eq_true h1]
         ·simp only [hag.ev hv,ZjM]
    ·cases h
theorem Zgk {x:EV} {K:Nat→Nat→Prop} (h:atP x K):∃ b o,x.v = .pointer (some ⟨b,o,none⟩)∧K b o:=by
  unfold atP at h
  split at h
  ·exact ⟨_,_,rfl,h⟩
  ·obtain ⟨b,o,rfl,h⟩:=h;exact ⟨b,o,rfl,h⟩
  ·exact h.elim
theorem Zc5 {P:Program} {t:TypeId} {zs:List Value} (h:Ziq P t=some zs):∃ i v,P.info? t=some i∧i.zero=some v∧v.cells.toList=zs:=by
  unfold Ziq at h
  split at h
  ·rename_i i hi
   split at h
   ·rename_i v hv
    simp only [Option.some.injEq] at h
    exact ⟨i,v,hi,hv,h⟩
   ·cases h
  ·cases h
theorem Zef {P:Program} {t:TypeId} {s b:Nat} (h:ZnL P t=some (s,b)):∃ i,P.info? t=some i∧i.size=s∧i.bytes=b:=by
  unfold ZnL at h
  split at h
  ·rename_i i hi
   simp only [Option.some.injEq,Prod.mk.injEq] at h
   exact ⟨i,hi,h.1,h.2⟩
  ·cases h
theorem ZtH {P:Program} {t:TypeId} {b o:Nat} {v:EV} {K:Zb→Prop} {w:World} (h:stT P t w.heap b o v K) :
    ∃ h',(storeVar t ⟨b,o,none⟩ v.v).run P w = .ok () { w with heap:=h' }∧K h':=by
  have key:∀ (i:TypeInfo) (vs:List Value),P.info? t=some i→i.size=vs.length→v.v.cells=vs.toArray→Zb.free w.heap b o vs.length→vs.all Zv=true →
      (storeVar t ⟨b,o,none⟩ v.v).run P w = .ok () { w with heap:=Zb.puts w.heap b o vs }:=by
    intro i vs hi hs hc hf ha
    unfold storeVar
    simp only [Sem.run_bind,XT P w t hi,Result.andThen_ok,hc,hs,List.size_toArray,ne_eq,not_true,if_false]
    have:=ZdM P b o vs 0 w (by simpa using hf) ha
    simpa using this
  have one:ZbF (P.underlying t)=false→Nat.beq (P.cellsOf t) 1=true→(∀ cs,v.v≠ .agg cs)→st w.heap b o v.v K →
      ∃ h',(storeVar t ⟨b,o,none⟩ v.v).run P w = .ok () { w with heap:=h' }∧K h':=by
    intro hA h1 hne hst
    obtain ⟨⟨u,hu⟩,hf,hone,hk⟩:=hst
    have hsz:=Nat.eq_of_beq_eq_true h1
    cases hi:P.info? t with
    | none=>unfold Program.cellsOf at hsz;simp [hi] at hsz
    | some i =>
      rw [Zbr P hi] at hsz
      refine ⟨_,key i [v.v] hi (by simp [hsz]) ?_ ⟨⟨⟨u,hu⟩,hf⟩,trivial⟩ (by simp [hone]),hk⟩
      cases hv:v.v<;>first | rfl | exact absurd hv (hne _)
  unfold stT at h
  split at h
  ·rename_i cs
   cases hA:ZbF (P.underlying t) with
   | false=>rw [hA] at h;exact h.elim
   | true =>
     rw [hA] at h
     simp only [cond_true] at h
     cases h1:Nat.beq cs.toList.length (P.cellsOf t) with
     | false=>rw [h1] at h;exact h.elim
     | true =>
       rw [h1] at h
       obtain ⟨hf,ha,hk⟩:=h
       have hsz:=Nat.eq_of_beq_eq_true h1
       cases hi:P.info? t with
       | none =>
         unfold Program.underlying at hA
         simp [hi,ZbF] at hA
       | some i =>
         rw [Zbr P hi] at hsz
         exact ⟨_,key i cs.toList hi hsz.symm rfl hf ha,hk⟩
  ·rename_i v' hne
   cases hA:ZbF (P.underlying t) with
   | true=>rw [hA] at h;exact h.elim
   | false =>
     rw [hA] at h
     simp only [cond_false] at h
     cases h1:Nat.beq (P.cellsOf t) 1 with
     | false=>rw [h1] at h;exact h.elim
     | true =>
       rw [h1] at h
       refine one hA h1 (fun cs hcs=>?_) h
       cases v with
       | val u=>simp only [EV.v] at hcs;subst hcs;exact hne cs rfl
       | lit b=>cases hcs
       | adr b o=>cases hcs
       | itr t b=>cases hcs
       | more k v=>cases hcs
       | over=>cases hcs
theorem Zfd (zs:List Value) (n:Nat):(ZaA zs n).length=n*zs.length:=by
  simp [ZaA]
theorem ZjE (zs:List Value):∀ (n i:Nat),i<n*zs.length→(ZaA zs n)[i]?=zs[i % zs.length]?
  | 0,i,h=>by omega
  | n+1,i,h=>by
    unfold ZaA
    rw [List.replicate_succ,List.flatten_cons]
    rcases Nat.lt_or_ge i zs.length with hi | hi
    ·rw [List.getElem?_append_left hi,Nat.mod_eq_of_lt hi]
    ·rw [List.getElem?_append_right hi]
     have:=ZjE zs n (i - zs.length) (by rw [Nat.succ_mul] at h;omega)
     unfold ZaA at this
     rw [this,Nat.mod_eq_sub_mod hi]
theorem Zgy (zs:Array Value) (n m:Nat) (h:m=n*zs.size):((Array.range m).map (zs[· % zs.size]!)).toList=ZaA zs.toList n:=by
  subst h
  apply List.ext_getElem?
  intro i
  simp only [Array.toList_map,Array.toList_range,List.getElem?_map]
  rcases Nat.lt_or_ge i (n*zs.size) with hi | hi
  ·rw [ZjE _ _ _ (by simpa using hi)]
   have hpos:0<zs.size:=by rcases Nat.eq_zero_or_pos zs.size with h0 | h0;· rw [h0] at hi;omega
                           ·exact h0
   have hm:i % zs.size<zs.size:=Nat.mod_lt _ hpos
   simp [hi,hm]
  ·rw [List.getElem?_eq_none (by simpa using hi)]
   rw [List.getElem?_eq_none (by rw [Zfd];simpa using hi)]
   rfl
end
theorem Zc6 (P:Program) (w:World) (t:TypeId) (cs:Array Value):(newRow t cs).run P w = .ok ⟨w.heap.size,0,none⟩ { w with heap:=w.heap.push (.cells cs t)}:=by
  unfold newRow
  simp
theorem ZrM (P:Program) (w:World) (t:TypeId) (v:Value) {i:TypeInfo} (hi:P.info? t=some i) (hv:i.zero=some v) :
    (Instr.alloc t true (.tuple #[])).run P w = .ok (.pointer (some ⟨w.heap.size,0,none⟩)) { w with heap:=w.heap.push (.cells v.cells t)}:=by
  unfold Instr.alloc newVar
  simp [Zaa P w t hi hv,Zc6]
theorem Zwt (P:Program) (w:World) (t:TypeId) (v:Value) :
    (Instr.box t v).run P w = .ok (.pointer (some ⟨w.heap.size,0,none⟩)) { w with heap:=w.heap.push (.cells v.cells t)}:=by
  unfold Instr.box newVar
  simp [Zc6]
theorem Zjq (P:Program) (w:World):∀ (l:List Field),(∀ f∈l,∃ i,P.info? f.type=some i) →
    (l.mapM fun f=>(do pure (f.offset,← sizeOf f.type):Sem (Nat × Nat))).run P w = .ok (l.map fun f=>(f.offset,P.cellsOf f.type)) w
  | [],_=>by simp
  | f::l,h=>by
    obtain ⟨i,hi⟩:=h f (by simp)
    have ih:=Zjq P w l (fun g hg=>h g (by simp [hg]))
    rw [List.mapM_cons]
    simp only [Sem.run_bind,XT P w f.type hi,Result.andThen_ok,Sem.run_pure,ih,List.map_cons,Zbr P hi]
theorem Ziu (P:Program) (w:World) (t:TypeId) {fs:Array Field} {zs:List Value} {ps:List (Nat × Value)} {l:List (Nat × List Value)}
    (hu:P.underlying t=some (.struct fs)) (hz:Ziq P t=some zs) (hall:(fs.toList.all fun f=>(P.info? f.type).isSome)=true)
    (hf:Zxg (fun i=>(fs.toList[i]?).map fun f=>(f.offset,P.cellsOf f.type)) zs.length ps l) :
    (Instr.build t ps.toArray).run P w = .ok (.agg (Zek zs l).toArray) w:=by
  obtain ⟨i,v,hi,hv,rfl⟩:=Zc5 hz
  unfold Instr.build
  simp only [Sem.run_bind,Zaa P w t hi hv,Result.andThen_ok,Zh P w t hu]
  rw [Array.mapM_eq_mapM_toList]
  simp only [Sem.run_map,Zjq P w fs.toList (fun f hf=>by
    have:=List.all_eq_true.1 hall f hf
    exact Option.isSome_iff_exists.1 this),Result.andThen_ok]
  have:=ZeD (fun (x:Nat)=>((fs.toList.map fun (f:Field)=>(f.offset,P.cellsOf f.type)).toArray)[x]?) v.cells.toList.length ps l v.cells (by simp) (by
    have e:(fun (x:Nat)=>((fs.toList.map fun (f:Field)=>(f.offset,P.cellsOf f.type)).toArray)[x]?)=(fun (i:Nat)=>(fs.toList[i]?).map fun (f:Field)=>(f.offset,P.cellsOf f.type)):=by
      funext x
      simp
    rw [e];exact hf)
  simp only [this]
  rfl
theorem Zi6 (P:Program) (w:World) (t:TypeId) {n:Nat} {el:TypeId} {zs:List Value} {ps:List (Nat × Value)} {l:List (Nat × List Value)} {j:TypeInfo}
    (hu:P.underlying t=some (.array n el)) (hz:Ziq P t=some zs) (hj:P.info? el=some j)
    (hf:Zxg (fun i=>some (i*P.cellsOf el,P.cellsOf el)) zs.length ps l) :
    (Instr.build t ps.toArray).run P w = .ok (.agg (Zek zs l).toArray) w:=by
  obtain ⟨i,v,hi,hv,rfl⟩:=Zc5 hz
  unfold Instr.build
  simp only [Sem.run_bind,Zaa P w t hi hv,Result.andThen_ok,Zh P w t hu,XT P w el hj]
  have:=ZeD (fun i=>some (i*j.size,j.size)) v.cells.toList.length ps l v.cells (by simp) (by rw [Zbr P hj] at hf;exact hf)
  simp only [this]
  rfl
theorem Zj8 (P:Program) (w:World) (t:TypeId) {n:Nat} {el:TypeId} {zs:List Value} {ps:List (Nat × Value)} {l:List (Nat × List Value)}
    (hu:P.underlying t=some (.slice el)) (hz:Ziq P el=some zs) (hs:zs.length=P.cellsOf el) (hle:n*P.cellsOf el≤Zhw)
    (hf:Zxg (fun i=>some (i*P.cellsOf el,P.cellsOf el)) (n*P.cellsOf el) ps l) :
    (Instr.buildSlice t n ps.toArray).run P w = .ok (.slice (some ⟨w.heap.size,0,none⟩) n n) { w with heap:=w.heap.push (.cells (Zek (ZaA zs n) l).toArray el)}:=by
  obtain ⟨i,v,hi,hv,rfl⟩:=Zc5 hz
  have hsz:=Zbr P hi
  unfold Instr.buildSlice
  simp only [Sem.run_bind,Zh P w t hu,Result.andThen_ok,XT P w el hi]
  rw [hsz] at hs hle hf
  have h24:¬ (n*i.size>2 ^ 24):=by
    have:(2:Nat) ^ 24=Zhw:=by unfold Zhw;decide
    omega
  have hlen:v.cells.size=i.size:=by simpa using hs
  have fin:∀ z:Array Value,((Array.range (n*i.size)).map (fun x=>z[x % z.size]!)).toList=ZaA v.cells.toList n →
      Instr.fill (fun j=>some (j*i.size,i.size)) ((Array.range (n*i.size)).map (fun x=>z[x % z.size]!)) ps=some (Zek (ZaA v.cells.toList n) l).toArray:=by
    intro z hz'
    have:=ZeD (fun j=>some (j*i.size,i.size)) (n*i.size) ps l ((Array.range (n*i.size)).map (fun x=>z[x % z.size]!)) (by simp) hf
    rw [hz'] at this
    exact this
  simp only [if_neg h24]
  by_cases h:n*i.size=0
  ·rw [if_pos h]
   have hz0:ZaA v.cells.toList n=[]:=List.eq_nil_of_length_eq_zero (by rw [Zfd];simpa [hlen] using h)
   simp only [Sem.run_bind,Sem.run_pure,Result.andThen_ok]
   rw [fin #[] (by rw [hz0];simp [h])]
   simp only [Sem.run_bind,Zc6,Result.andThen_ok,Sem.run_pure]
  ·rw [if_neg h]
   simp only [Sem.run_bind,Zaa P w el hi hv,Sem.run_pure,Result.andThen_ok]
   rw [fin v.cells (Zgy v.cells n _ (by rw [hlen]))]
   simp only [Sem.run_bind,Zc6,Result.andThen_ok,Sem.run_pure]
theorem Zkq {P:Program} {w:World} {t:TypeId} {b o:Nat} {v:Value} (h:(loadVar t ⟨b,o,none⟩).run P w = .ok v w) :
    (Instr.loadAt t (.pointer (some ⟨b,o,none⟩))).run P w = .ok v w:=by
  unfold Instr.loadAt Instr.sureAddr
  simp [h]
theorem ZnN {P:Program} {w w':World} {t:TypeId} {b o:Nat} {v:Value} (h:(storeVar t ⟨b,o,none⟩ v).run P w = .ok () w') :
    (Instr.storeAt t (.pointer (some ⟨b,o,none⟩)) v).run P w = .ok () w':=by
  unfold Instr.storeAt Instr.sureAddr
  simp [h]
theorem ZnS {P:Program} {w:World} {s:TypeId} {b o f:Nat} {fs:Array Field} {fd:Field} (hu:P.underlying s=some (.struct fs)) (hf:fs.toList[f]?=some fd)
    (hn:P.cellsOf fd.type≠0):(Instr.fieldAt s (.pointer (some ⟨b,o,none⟩)) f).run P w = .ok (.pointer (some ⟨b,o+fd.offset,none⟩)) w:=by
  unfold Instr.fieldAt Instr.sureAddr fieldPlace
  cases hi:P.info? fd.type with
  | none=>unfold Program.cellsOf at hn;simp [hi] at hn
  | some i =>
    have hf':fs[f]?=some fd:=by simpa using hf
    have h0:i.size≠0:=by rw [← Zbr P hi];exact hn
    simp only [Sem.run_bind,Zh P w s hu,Result.andThen_ok,hf',Sem.run_pure,XT P w _ hi,if_neg h0,ZjU]
theorem ZhL {P:Program} {w:World} {t el:TypeId} {b o l m size:Nat} {k:IntKind} {i:Int} {inf:TypeInfo} (hu:P.underlying t=some (.slice el)) (hi:P.info? el=some inf) (hs:inf.size=size)
    (h0:0≤i) (h1:i<l):(Instr.indexAt t (.slice (some ⟨b,o,none⟩) l m) (.int k i)).run P w = .ok (.pointer (some ⟨b,o+i.toNat*size,none⟩)) w:=by
  unfold Instr.indexAt asIntOf
  simp only [Sem.run_bind,Sem.run_pure,Result.andThen_ok,Zh P w t hu]
  simp [h0,h1,XT P w el hi,hs,ZjU]
theorem ZhM {P:Program} {w:World} {t el:TypeId} {b o n size:Nat} {k:IntKind} {i:Int} {inf:TypeInfo} (hu:P.underlying t=some (.array n el)) (hi:P.info? el=some inf) (hs:inf.size=size)
    (h0:0≤i) (h1:i<n):(Instr.indexAt t (.pointer (some ⟨b,o,none⟩)) (.int k i)).run P w = .ok (.pointer (some ⟨b,o+i.toNat*size,none⟩)) w:=by
  unfold Instr.indexAt asIntOf Instr.sureAddr
  simp only [Sem.run_bind,Sem.run_pure,Result.andThen_ok,Zh P w t hu]
  simp [h0,h1,XT P w el hi,hs,ZjU]
theorem Zis {P:Program} {w:World} {t:TypeId} {s:ByteArray} {k:IntKind} {i:Int} {x:UInt8} (hu:P.underlying t=some .string) (h0:0≤i) (hx:s[i.toNat]?=some x) :
    (Instr.index t (.string s) (.int k i)).run P w = .ok (.int .u8 x.toNat) w:=by
  unfold Instr.index asIntOf
  simp only [Sem.run_bind,Sem.run_pure,Result.andThen_ok,Zh P w t hu,if_pos h0,hx]
theorem Zll {P:Program} {w:World} {s:TypeId} {cs:Array Value} {f:Nat} {fs:Array Field} {fd:Field} {v:Value} {d:TypeDesc} (hu:P.underlying s=some (.struct fs)) (hf:fs.toList[f]?=some fd)
    (hd:P.underlying fd.type=some d) (ha:ZbF (some d)=false) (hv:cs.toList[fd.offset]?=some v):(Instr.field s (.agg cs) f).run P w = .ok v w:=by
  unfold Instr.field part asAgg
  have hf':fs[f]?=some fd:=by simpa using hf
  have hv':cs[fd.offset]?=some v:=by simpa using hv
  simp [Zh P w s hu,hf',ZdP P w _ hd,ha,hv']
theorem Zlm {P:Program} {w:World} {s:TypeId} {cs:Array Value} {f:Nat} {fs:Array Field} {fd:Field} {d:TypeDesc} {inf:TypeInfo} (hu:P.underlying s=some (.struct fs)) (hf:fs.toList[f]?=some fd)
    (hd:P.underlying fd.type=some d) (ha:ZbF (some d)=true) (hi:P.info? fd.type=some inf) :
    (Instr.field s (.agg cs) f).run P w = .ok (.agg ((cs.toList.drop fd.offset).take inf.size).toArray) w:=by
  unfold Instr.field part asAgg
  have hf':fs[f]?=some fd:=by simpa using hf
  simp only [Sem.run_bind,Zh P w s hu,Result.andThen_ok,hf',Sem.run_pure,ZdP P w _ hd,ha,if_true,XT P w _ hi]
  congr 2
  apply Array.ext'
  simp [List.extract_eq_take_drop]
end Go.Fw
