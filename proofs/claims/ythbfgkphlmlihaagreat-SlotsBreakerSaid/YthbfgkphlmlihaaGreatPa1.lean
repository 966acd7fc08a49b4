/- The words in which the functions' models are written: memory as an array of blocks, and what one step of a function asks of it and leaves. Plain definitions, no program. -/
import GoSem.Core.World
import GoSem.Core.View
import GoSem.Core.Lib
import GoSem.Instr.Lookup
import Derived.MapKept
import Derived.Laws.IdiomRangeMap
set_option linter.unusedVariables false
set_option linter.unusedSimpArgs false
namespace Go.Fw
open Go
abbrev Zd:=Array Obj
abbrev HP:=Zd→Prop
def Zd.cell (h:Zd) (b o:Nat):Option Value :=
  match h[b]? with
  | some (.cells c _ _)=>c[o]?
  | _=>none
def Zd.froz (h:Zd) (b o:Nat):Bool :=
  match h[b]? with
  | some (.cells _ _ (lo,hi))=>decide (lo≤o)&&decide (o<hi)
  | _=>false
def Zd.put (h:Zd) (b o:Nat) (v:Value):Zd :=
  h.modify b fun
    | .cells c e f=> .cells (c.setIfInBounds o v) e f
    | x=>x
def Zd.puts (h:Zd) (b:Nat):Nat→List Value→Zd
  | _,[]=>h
  | o,v::vs=>(h.put b o v).puts b (o+1) vs
def Zd.has (h:Zd) (b:Nat):Nat→List Value→Prop
  | _,[]=>True
  | o,v::vs=>h.cell b o=some v∧h.has b (o+1) vs
def Zd.free (h:Zd) (b:Nat):Nat→Nat→Prop
  | _,0=>True
  | o,n+1=>((∃ u,h.cell b o=some u)∧h.froz b o=false)∧h.free b (o+1) n
structure Sl where
  ptr:Option Addr
  len:Nat
  cap:Nat
def ZH:Value→Bool
  | .agg _ | .tuple _=>false
  | _=>true
def Zs (b:Bool) (A B:Prop):Prop:=(b=true→A)∧(b=false→B)
def Zf (n:Int) (K:Int→Prop):Prop:=K n
def ZE (b:Bool) (K:Bool→Prop):Prop:=K b
def ldI (h:Zd) (b o:Nat) (k:IntKind) (K:Int→Prop):Prop:=∃ n,h.cell b o=some (.int k n)∧K n
def ldB (h:Zd) (b o:Nat) (K:Bool→Prop):Prop:=∃ x,h.cell b o=some (.bool x)∧K x
def ldS (h:Zd) (b o:Nat) (K:ByteArray→Prop):Prop:=∃ x,h.cell b o=some (.string x)∧K x
def ldP (h:Zd) (b o:Nat) (K:Option Addr→Prop):Prop:=∃ x,h.cell b o=some (.pointer x)∧K x
def ldL (h:Zd) (b o:Nat) (K:Sl→Prop):Prop:=∃ x:Sl,h.cell b o=some (.slice x.ptr x.len x.cap)∧K x
def ldM (h:Zd) (b o:Nat) (K:Option Nat→Prop):Prop:=∃ x,h.cell b o=some (.map x)∧K x
def ldV (h:Zd) (b o:Nat) (K:Value→Prop):Prop:=∃ x,h.cell b o=some x∧K x
def Zg (p:Option Addr) (K:Nat→Nat→Prop):Prop:=∃ b o,p=some ⟨b,o,none⟩∧K b o
def st (h:Zd) (b o:Nat) (v:Value) (K:Zd→Prop):Prop :=
  (∃ u,h.cell b o=some u)∧h.froz b o=false∧ZH v=true∧K (h.put b o v)
def sts (h:Zd) (b o:Nat) (vs:List Value) (K:Zd→Prop):Prop :=
  h.free b o vs.length∧vs.all ZH=true∧K (h.puts b o vs)
def Xy (p:Option Addr) (l:Nat) (i:Int) (size:Nat) (K:Nat→Nat→Prop):Prop :=
  ∃ b o,p=some ⟨b,o,none⟩∧0≤i∧i<l∧K b (o+i.toNat*size)
def ZAu (l:Nat) (i:Int) (K:Nat→Prop):Prop:=0≤i∧i<l∧K i.toNat
def ZAY (s:ByteArray) (i:Int) (K:Int→Prop):Prop:=∃ x,0≤i∧s[i.toNat]?=some x∧K (UInt8.toNat x)
def ZR (p:Prop) (K:Prop):Prop:=p∧K
def ZsZ (p:Option Addr) (l m size:Nat):Option Addr:=if m=l then p else p.map (·.add (l*size))
def slc (p:Option Addr) (cap size:Nat) (lo hi mx:Int) (K:Sl→Prop):Prop :=
  0≤lo∧lo≤hi∧hi≤mx∧mx≤cap∧K ⟨ZsZ p lo.toNat mx.toNat size,hi.toNat - lo.toNat,mx.toNat - lo.toNat⟩
def ZER (s:ByteArray) (lo hi:Int) (K:ByteArray→Prop):Prop :=
  0≤lo∧lo≤hi∧hi≤s.size∧K (s.extract lo.toNat hi.toNat)
def ZES (k:IntKind) (x y:Int):Int:=k.wrap (x*2 ^ (min y.toNat k.bits))
def ZtG (k:IntKind) (x y:Int):Int:=x.fdiv (2 ^ (min y.toNat k.bits))
def Zwf (k:IntKind) (x y:Int):Int:=k.wrap (BitVec.toNat (BitVec.ofInt k.bits x &&& BitVec.ofInt k.bits y))
def orV (k:IntKind) (x y:Int):Int:=k.wrap (BitVec.toNat (BitVec.ofInt k.bits x ||| BitVec.ofInt k.bits y))
def ZEP (k:IntKind) (x y:Int):Int:=k.wrap (BitVec.toNat (BitVec.ofInt k.bits x ^^^ BitVec.ofInt k.bits y))
def ZAB (k:IntKind) (x y:Int):Int:=k.wrap (BitVec.toNat (BitVec.ofInt k.bits x &&& ~~~ BitVec.ofInt k.bits y))
def XN (x y:ByteArray):Bool:=x.toList ==y.toList
def Zn1 (x y:Int):Int:=if y<x then y else x
def Zl6 (x y:Int):Int:=if y>x then y else x
def ZEW (x y:ByteArray) (K:ByteArray→Prop):Prop:=x.size+y.size≤9223372036854775807∧K (x++y)
def Zcq (s:ByteArray):List Value:=s.data.toList.map fun b=>Value.int .u8 b.toNat
def rdS (x:Sl) (size:Nat) (h:Zd) (K:List Value→Prop):Prop :=
  (x.len=0∧K [])∨∃ b o l,x.ptr=some ⟨b,o,none⟩∧l.length=x.len*size∧h.has b o l∧K l
def X6 (zs:List Value) (n:Nat):List Value:=(List.replicate n zs).flatten
def app (elem:TypeId) (size bytes:Nat) (zs:List Value) (s:Sl) (n:Nat) (new:List Value) (h:Zd) (K:Sl→Zd→Prop):Prop :=
  (s.len+n≤s.cap →
    (new=[]∧K ⟨s.ptr,s.len+n,s.cap⟩ h) ∨
    (∃ b o,s.ptr=some ⟨b,o,none⟩∧h.free b (o+s.len*size) new.length∧new.all ZH=true∧K ⟨s.ptr,s.len+n,s.cap⟩ (h.puts b (o+s.len*size) new))) ∧
  (s.cap<s.len+n→(s.len+n)*bytes≤140737488355328∧s.len+n≤140737488355328∧rdS s size h fun old =>
    ∀ cap,s.len+n≤cap→cap<9223372036854775808 →
      K ⟨some ⟨h.size,0,none⟩,s.len+n,cap⟩ (h.push (.cells (old++new++X6 zs (cap - (s.len+n))).toArray elem)))
def mkS (elem:TypeId) (bytes:Nat) (zs:List Value) (l c:Int) (h:Zd) (K:Sl→Zd→Prop):Prop :=
  0≤l∧l≤c∧c*bytes≤281474976710656∧c≤281474976710656 ∧
   K ⟨some ⟨h.size,0,none⟩,l.toNat,c.toNat⟩ (h.push (.cells (X6 zs c.toNat).toArray elem))
def b2s (x:Sl) (h:Zd) (K:ByteArray→Prop):Prop :=
  (x.len=0∧K ByteArray.empty)∨∃ b o s,x.ptr=some ⟨b,o,none⟩∧s.size=x.len∧h.has b o (Zcq s)∧K s
def s2b (elem:TypeId) (s:ByteArray) (h:Zd) (K:Sl→Zd→Prop):Prop :=
  s.size<9223372036854775808∧∀ cap,s.size≤cap→cap<9223372036854775808 →
    K ⟨some ⟨h.size,0,none⟩,s.size,cap⟩ (h.push (.cells (Zcq s++List.replicate (cap - s.size) (Value.int .u8 0)).toArray elem (cap,cap+1)))
def Zd.frz (h:Zd) (b:Nat):Zd :=
  h.modify b fun
    | .cells c e _=> .cells c e (c.size,c.size+1)
    | x=>x
def ZAt (p:Option Addr) (h:Zd) (K:Zd→Prop):Prop :=
  ∃ b o c e,p=some ⟨b,o,none⟩∧h[b]?=some (.cells c e (0,0))∧K (h.frz b)
def newC (h:Zd) (cells:List Value) (t:TypeId) (K:Nat→Zd→Prop):Prop:=K h.size (h.push (.cells cells.toArray t))
def Zid (d:TypeDesc) (h:Zd) (m:Option Nat) (key:Value) (K:Option Value→Prop):Prop :=
  (m=none→K none)∧∀ b,m=some b→∃ es c r,h[b]?=some (.map es c)∧Instr.findNow d key es.toList 0=some r∧K (r.map (·.2))
def XW:List TypeDesc→List Value→Prop
  | [],[]=>True
  | d::ds,v::vs=>MapKept.IsKey d v∧XW ds vs
  | _,_=>False
def ZgB (ds:List TypeDesc) (v:Value):Prop:=∃ cs:List Value,v = .agg cs.toArray∧XW ds cs
def Zfl:Value→Value→Bool
  | .int _ a,.int _ b=>a ==b
  | .string a,.string b=>XN a b
  | .bool a,.bool b=>a ==b
  | _,_=>false
def Zcz:List Value→List Value→Bool
  | [],[]=>true
  | v::vs,w::ws=>bif Zfl v w then Zcz vs ws else false
  | _,_=>false
def ZiF (k:List Value):Value→Bool
  | .agg cs=>Zcz k cs.toList
  | _=>false
def ZeZ (k:List Value):List MapEntry→Nat→Option (Nat × Value)
  | [],_=>none
  | e::es,i=>bif ZiF k e.key then some (i,e.val) else ZeZ k es (i+1)
def ZbZ (ds:List TypeDesc) (h:Zd) (m:Option Nat) (key:List Value) (K:Option Value→Prop):Prop :=
  (m=none→K none)∧∀ b,m=some b→∃ es c,h[b]?=some (.map es c)∧(∀ x,x∈es.toList→ZgB ds x.key)∧K ((ZeZ key es.toList 0).map (·.2))
def ZpY (v:Value) (K:Bool→Prop):Prop:=(v = .nilIface∧K true)∨∃ t u,v = .iface t u∧K false
def ZpZ (v:Value) (K:Bool→Prop):Prop:=(v = .nilFunc∧K true)∨∃ f a b,v = .func f a b∧K false
def asI (v:Value) (k:IntKind) (K:Int→Prop):Prop:=∃ n,v = .int k n∧K n
def asB (v:Value) (K:Bool→Prop):Prop:=∃ x,v = .bool x∧K x
def asS (v:Value) (K:ByteArray→Prop):Prop:=∃ x,v = .string x∧K x
def asP (v:Value) (K:Option Addr→Prop):Prop:=∃ x,v = .pointer x∧K x
def asL (v:Value) (K:Sl→Prop):Prop:=∃ x:Sl,v = .slice x.ptr x.len x.cap∧K x
def asM (v:Value) (K:Option Nat→Prop):Prop:=∃ x,v = .map x∧K x
def asT (v:Value) (t:TypeId) (K:Value→Prop):Prop:=∃ x,v = .iface t x∧K x
def ZfP (h:Zd) (K:Nat→Zd→Prop):Prop:=K h.size (h.push (.map #[] 0))
def Zwa (es:Array MapEntry) (c:Nat) (key v:Value):Option (Nat × Value)→Obj
  | some (i,_)=> .map (es.modify i fun e=>{ e with key:=key,val:=v }) c
  | none=> .map (es.push { key:=key,val:=v,born:=c }) (c+1)
def Zib (d:TypeDesc) (h:Zd) (m:Option Nat) (key v:Value) (K:Zd→Prop):Prop :=
  ∃ b es c r,m=some b∧h[b]?=some (.map es c)∧(∀ x,x∈es.toList→MapKept.IsKey d x.key)∧Instr.findNow d key es.toList 0=some r∧K (h.setIfInBounds b (Zwa es c key v r))
def ZgY (ds:List TypeDesc) (h:Zd) (m:Option Nat) (key:List Value) (v:Value) (K:Zd→Prop):Prop :=
  ∃ b es c,m=some b∧h[b]?=some (.map es c)∧(∀ x,x∈es.toList→ZgB ds x.key)∧K (h.setIfInBounds b (Zwa es c (.agg key.toArray) v (ZeZ key es.toList 0)))
def ZAZ (es:Array MapEntry) (c:Nat):Option (Nat × Value)→Obj
  | some (i,_)=> .map (es.eraseIdxIfInBounds i) c
  | none=> .map es c
def Zle (d:TypeDesc) (h:Zd) (m:Option Nat) (key:Value) (K:Zd→Prop):Prop :=
  (m=none→K h)∧∀ b,m=some b→∃ es c r,h[b]?=some (.map es c)∧Instr.findNow d key es.toList 0=some r∧K (h.setIfInBounds b (ZAZ es c r))
def ZAy (h:Zd) (m:Option Nat) (K:Zd→Prop):Prop :=
  (m=none→K h)∧∀ b,m=some b→∃ es c,h[b]?=some (.map es c)∧K (h.setIfInBounds b (.map #[] c))
def ZAx (s:Sl) (zs:List Value) (h:Zd) (K:Zd→Prop):Prop :=
  (s.ptr=none∧K h)∨(s.len=0∧K h) ∨
  ∃ b o,s.ptr=some ⟨b,o,none⟩∧h.free b o (X6 zs s.len).length∧(X6 zs s.len).all ZH=true∧K (h.puts b o (X6 zs s.len))
def rgM (h:Zd) (m:Option Nat) (K:Nat→Zd→Prop):Prop :=
  (m=none→K h.size (h.push (.mapIter none 0 #[] 0)))∧∀ b,m=some b→∃ es c,h[b]?=some (.map es c)∧K h.size (h.push (.mapIter (some b) c #[] c))
def Ztd (h:Zd) (r:Nat) (T:Value→Value→Zd→Prop) (F:Prop):Prop :=
  (∃ s seen c,h[r]?=some (.mapIter none s seen c)∧F) ∨
  ∃ bm since seen c0 es clock,h[r]?=some (.mapIter (some bm) since seen c0)∧h[bm]?=some (.map es clock)∧(∀ x,x∈es.toList→x.born<since)∧since≤c0 ∧
    ((leftOf es seen).size=0→F)∧∀ e,e∈(leftOf es seen).toList→T e.key e.val (h.setIfInBounds r (.mapIter (some bm) since (seen.push e.born) clock))
def ZAw (h:Zd) (r:Nat) (K:Value→Value→Prop):Prop :=
  ∃ (bm since:Nat) (seen:Array Nat) (es:Array MapEntry) (clock:Nat) (e:MapEntry),h[r]?=some (.mapIter (some bm) since (seen.push e.born) clock)∧h[bm]?=some (.map es clock)∧e∈es.toList∧(es.toList.map (·.born)).Nodup∧K e.key e.val
def ZtI (v:Value) (f:Nat) (P:Prop):Prop:=v = .func (.func f) #[] #[]∧P
def exG {ρ:Type} (v:Value) (mk:ρ→Value) (K:ρ→Prop):Prop:=∃ r,v=mk r∧K r
def Zwc (h:Zd) (m:Option Nat) (K:Int→Prop):Prop :=
  (m=none→K 0)∧∀ b,m=some b→∃ es c,h[b]?=some (.map es c)∧K (es.size:Int)
def ZrQ (x:Value) (h:Zd) (K:Value→Zd→Prop):Prop :=
  ∃ t b es c,x = .iface t (.map (some b))∧h[b]?=some (.map es c)∧K (.iface t (.map (some h.size))) (h.push (.map es c))
def Zs4 {ρ:Type} (m:(ρ→Zd→Prop)→Zd→Prop) (h:Zd) (K:ρ→Prop):Prop :=
  ∃ r,m (fun r' h'=>r'=r∧h'=h) h∧K r
def Zo (h:Zd):List (Nat × Nat × Value)→Prop
  | []=>True
  | (b,o,v)::r=>h.cell b o=some v∧Zo h r
def Ziz (A B:Prop):Prop:=A∧B
def ZaR (r:Loop) (st:LoopState) (p:Option Code):Obj:= .loop { r with state:=st,pending:=p }
def Znw (h:Zd) (l:Nat) (r:Loop) (st:LoopState) (p:Option Code) (K:Prop):Prop:=h[l]?=some (ZaR r st p)∧K
def ZgD (h:Zd) (l:Nat) (o:Obj):Zd:=h.setIfInBounds l o
abbrev Yld:=Nat→List Value→(Bool→Zd→Prop)→Zd→Prop
def Zi3 (r:Loop) (l:Nat) (n:Nat) (body:List Value→Zd→(Option Code→Zd→Prop)→Prop):Yld:=fun l' vs k h =>
  l'=l∧vs.length=n∧Znw h l r .ready none (
    body vs h fun p h'=>Znw h' l r .busy none (k p.isNone (ZgD h' l (ZaR r (if p.isNone then .ready else .done) p))))
def Zmk (r:Loop) (l:Nat) (h:Zd) (K:Zd→Prop):Prop:=Znw h l r .ready none (K (ZgD h l (ZaR r .busy none)))
def Zjf (n:Nat) (it:Yld→Nat→(Zd→Prop)→Zd→Prop) (body:Nat→Loop→List Value→Zd→(Option Code→Zd→Prop)→Prop) (h:Zd) (K:Option Code→Nat→Zd→Prop):Prop :=
  ∀ r:Loop,it (Zi3 r (h.size+1) n (body (h.size+1) r)) (h.size+1)
    (fun h'=>∃ st p,st≠ .busy∧Znw h' (h.size+1) r st p (K p h.size (ZgD h' (h.size+1) (ZaR r .exhausted p)))) ((h.push (.deferred (some []))).push (ZaR r .ready none))
def Zma (p:Option Code) (N:Prop) (X:Nat→Prop) (R:Prop):Prop:=match p with
  | none=>N
  | some (.exit id)=>X id
  | some .ret=>R
  | _=>False
def Zqk {ρ:Type} (mk:ρ→List Value) (vs:List Value) (K:ρ→Prop):Prop:=∃ r,vs=mk r∧K r
def ZeY (D:Nat) (h:Zd) (K:Zd→Prop):Prop:=h[D]?=some (.deferred (some []))∧K (ZgD h D (.deferred none))
def YY {σ:Type} (body:(σ→Zd→Prop)→σ→Zd→Prop) (s:σ) (h:Zd):Prop :=
  ∃ (I:σ→Zd→Prop) (μ:σ→Zd→Nat),I s h∧∀ s h,I s h→body (fun s' h'=>I s' h'∧μ s' h'<μ s h) s h
def Zg7 {σ:Type} (rest:σ→Zd→Prop) (pre:(σ→Zd→Prop)→Prop):Prop :=
  ∃ J:σ→Zd→Prop,(∀ s h,J s h→rest s h)∧pre J
def ZkN (d:Nat→Bool) (k:Nat):Nat→Bool:=fun i=>bif Nat.beq i k then true else d i
def ZEV {σ:Type} (S:((Nat→Bool)→σ→Zd→Prop)→(Nat→Bool)→σ→Zd→Prop) (F:(Nat→Bool)→σ→Zd→Prop) (h:Zd):Prop :=
  ∃ I:(Nat→Bool)→σ→Zd→Prop,(∃ s,I (fun _=>false) s h)∧(∀ d s h',I d s h'→S I d s h')∧∀ d s h',I d s h'→F d s h'
theorem Zcy {σ:Type} {body:(σ→Zd→Prop)→σ→Zd→Prop} {s:σ} {h:Zd} (I:σ→Zd→Prop) (μ:σ→Zd→Nat)
    (h0:I s h) (hr:∀ s h,I s h→body (fun s' h'=>I s' h'∧μ s' h'<μ s h) s h):YY body s h:=⟨I,μ,h0,hr⟩
theorem Zg6 {σ:Type} {rest:σ→Zd→Prop} {pre:(σ→Zd→Prop)→Prop} (J:σ→Zd→Prop)
    (h1:∀ s h,J s h→rest s h) (h2:pre J):Zg7 rest pre:=⟨J,h1,h2⟩
theorem ZaD {σ:Type} {rest:σ→Zd→Prop} {pre:(σ→Zd→Prop)→Prop} (h:pre rest):Zg7 rest pre:=⟨rest,fun _ _ h=>h,h⟩
theorem YL {A B:Prop} (h:A):Zs true A B:=⟨fun _=>h,fun e=>by cases e⟩
theorem Zz {A B:Prop} (h:B):Zs false A B:=⟨fun e=>(by cases e),fun _=>h⟩
theorem Za {n:Int} {K:Int→Prop} (h:K n):Zf n K:=h
theorem Zc {n:Bool} {K:Bool→Prop} (h:K n):ZE n K:=h
theorem Zu {p:Prop} [Decidable p] {A B:Prop} (h1:p→A) (h2:¬ p→B):Zs (decide p) A B :=
  ⟨fun e=>h1 (of_decide_eq_true e),fun e=>h2 (of_decide_eq_false e)⟩
theorem Zt {b:Bool} {A B:Prop} (e:b=true) (h:A):Zs b A B:=by subst e;exact YL h
theorem Zi {b:Bool} {A B:Prop} (e:b=false) (h:B):Zs b A B:=by subst e;exact Zz h
theorem XH {n:Int} (h0 : -9223372036854775808≤n) (h1:n≤9223372036854775807):IntKind.wrap .i64 n=n:=by
  unfold IntKind.wrap
  have hb:(2:Int) ^ IntKind.i64.bits=18446744073709551616:=by decide
  have hb':(2:Int) ^ (IntKind.i64.bits - 1)=9223372036854775808:=by decide
  have hs:IntKind.i64.signed=true:=rfl
  simp only [hb,hb',hs,Bool.true_and]
  rcases Int.lt_or_le n 0 with h | h
  ·have:n % 18446744073709551616=n+18446744073709551616:=by omega
   rw [this,if_pos (by simp;omega)]
   omega
  ·have:n % 18446744073709551616=n:=by omega
   rw [this,if_neg (by simp;omega)]
theorem Zty {h:Zd} {b o:Nat} {v:Value} (hc:h.cell b o=some v):b<h.size:=by
  unfold Zd.cell at hc
  rcases Nat.lt_or_ge b h.size with hl | hl
  ·exact hl
  ·rw [Array.getElem?_eq_none hl] at hc;cases hc
theorem ZnH {h h':Zd} {b:Nat} (he:h'[b]?=h[b]?) (o:Nat):h'.cell b o=h.cell b o:=by
  unfold Zd.cell;rw [he]
theorem Zll {h h':Zd} {b:Nat} (he:h'[b]?=h[b]?):∀ {l:List Value} {o:Nat},h.has b o l→h'.has b o l
  | [],_,_=>trivial
  | _::_,_,⟨h1,h2⟩=>⟨(ZnH he _).trans h1,Zll he h2⟩
theorem Zkt {h:Zd} {b:Nat}:∀ {l:List Value} {o i:Nat} {v:Value},h.has b o l→l[i]?=some v→h.cell b (o+i)=some v
  | [],_,_,_,_,hv=>by simp at hv
  | x::l,o,0,v,⟨h1,_⟩,hv=>by simp at hv;subst hv;exact h1
  | x::l,o,i+1,v,⟨_,h2⟩,hv=>by
    have:=Zkt (i:=i) (v:=v) h2 (by simpa using hv)
    rw [show o+(i+1)=o+1+i from by omega];exact this
theorem Zp6 {h:Zd} {b:Nat}:∀ {l:List Value} {o:Nat},(∀ i v,l[i]?=some v→h.cell b (o+i)=some v)→h.has b o l
  | [],_,_=>trivial
  | x::l,o,hh=>⟨by have:=hh 0 x (by simp);simpa using this,Zp6 fun i v hv=>by have:=hh (i+1) v (by simpa using hv);rw [show o+1+i=o+(i+1) from by omega];exact this⟩
theorem ZrO {h:Zd} {b o:Nat} {l:List Value} (hh:h.has b o l) (hne:l≠[]):b<h.size:=by
  cases l with
  | nil=>exact absurd rfl hne
  | cons v l=>exact Zty hh.1
theorem Zg8 {h:Zd} {b o:Nat} {c:Array Value} {e:TypeId} {f:Nat × Nat} (hb:h[b]?=some (.cells c e f)):h.cell b o=c[o]?:=by
  unfold Zd.cell;rw [hb]
theorem Zil {h:Zd} {b o:Nat} {c:Array Value} {e:TypeId} {f:Nat × Nat} {l:List Value} (hb:h[b]?=some (.cells c e f)) (hl:∀ i v,l[i]?=some v→c[o+i]?=some v):h.has b o l :=
  Zp6 fun i v hv=>by rw [Zg8 hb];exact hl i v hv
theorem ZjD {h:Zd} {b:Nat} {c:Array Value} {e:TypeId} (hb:h[b]?=some (.cells c e (0,0))):∀ {n o:Nat},o+n≤c.size→h.free b o n
  | 0,_,_=>trivial
  | n+1,o,hle=>by
    have hlt:o<c.size:=by omega
    refine ⟨⟨⟨c[o],by rw [Zg8 hb];simp [hlt]⟩,?_⟩,ZjD hb (by omega)⟩
    unfold Zd.froz;rw [hb];simp
theorem Zla {h:Zd} {b o:Nat} {v:Value} {c:Array Value} {e:TypeId} {f:Nat × Nat} (hb:h[b]?=some (.cells c e f)):(h.put b o v)[b]?=some (.cells (c.setIfInBounds o v) e f):=by
  unfold Zd.put
  rw [Array.getElem?_modify,if_pos rfl,hb]
  rfl
theorem Zgk {h:Zd} {b o k:Nat} {v:Value} (hk:k≠b):(h.put b o v)[k]?=h[k]?:=by
  unfold Zd.put
  rw [Array.getElem?_modify,if_neg (Ne.symm hk)]
theorem Zgj {h:Zd} {b o:Nat} {v:Value}:(h.put b o v).size=h.size:=by
  unfold Zd.put;simp
theorem Zgi {h:Zd} {b:Nat}:∀ {vs:List Value} {o:Nat},(h.puts b o vs).size=h.size
  | [],_=>rfl
  | v::vs,o=>by unfold Zd.puts;rw [Zgi,Zgj]
theorem ZfF {b k:Nat} (hk:k≠b):∀ {vs:List Value} {h:Zd} {o:Nat},(h.puts b o vs)[k]?=h[k]?
  | [],_,_=>rfl
  | v::vs,h,o=>by unfold Zd.puts;rw [ZfF hk,Zgk hk]
theorem Zjg {b:Nat} {e:TypeId} {f:Nat × Nat}:∀ {vs:List Value} {h:Zd} {o:Nat} {c:Array Value},h[b]?=some (.cells c e f)→o+vs.length≤c.size →
    ∃ c',(h.puts b o vs)[b]?=some (.cells c' e f)∧c'.toList=c.toList.take o++vs++c.toList.drop (o+vs.length)
  | [],h,o,c,hb,_=>⟨c,hb,by simp⟩
  | v::vs,h,o,c,hb,hle=>by
    simp only [List.length_cons] at hle
    obtain ⟨c',hc',hl⟩:=Zjg (vs:=vs) (h:=h.put b o v) (o:=o+1) (Zla hb) (by simp;omega)
    refine ⟨c',hc',?_⟩
    rw [hl]
    have hlt:o<c.toList.length:=by simp;omega
    simp only [Array.toList_setIfInBounds,List.length_cons]
    rw [List.take_succ_eq_append_getElem (by simp;omega),List.take_set_of_le (by omega),List.drop_set_of_lt (by omega)]
    simp
    omega
theorem Zgl {h:Zd} {x:Obj} {k:Nat} (hk:k<h.size):(h.push x)[k]?=h[k]?:=by
  rw [Array.getElem?_push,if_neg (by omega)]
theorem ZdU {h:Zd} {x:Obj}:(h.push x)[h.size]?=some x:=by simp
structure Ext (h h':Zd):Prop where
  size:h.size≤h'.size
  old:∀ k,k<h.size→h'[k]?=h[k]?
theorem Ext.refl (h:Zd):Ext h h:=⟨Nat.le_refl _,fun _ _=>rfl⟩
theorem Ext.trans {a b c:Zd} (h:Ext a b) (h':Ext b c):Ext a c :=
  ⟨Nat.le_trans h.size h'.size,fun k hk=>(h'.old k (Nat.lt_of_lt_of_le hk h.size)).trans (h.old k hk)⟩
theorem Ext.push (h:Zd) (x:Obj):Ext h (h.push x):=⟨by simp,fun _ hk=>Zgl hk⟩
structure Upd (S:Nat→Prop) (h h':Zd):Prop where
  size:h.size≤h'.size
  old:∀ k,k<h.size→¬ S k→h'[k]?=h[k]?
theorem Upd.refl (S:Nat→Prop) (h:Zd):Upd S h h:=⟨Nat.le_refl _,fun _ _ _=>rfl⟩
theorem Upd.trans {S:Nat→Prop} {a b c:Zd} (h:Upd S a b) (h':Upd S b c):Upd S a c :=
  ⟨Nat.le_trans h.size h'.size,fun k hk hs=>(h'.old k (Nat.lt_of_lt_of_le hk h.size) hs).trans (h.old k hk hs)⟩
theorem Upd.mono {S T:Nat→Prop} {a b:Zd} (h:Upd S a b) (hs:∀ k,k<a.size→S k→T k):Upd T a b :=
  ⟨h.size,fun k hk hn=>h.old k hk fun hS=>hn (hs k hk hS)⟩
theorem Ext.upd {a b:Zd} (h:Ext a b) (S:Nat→Prop):Upd S a b:=⟨h.size,fun k hk _=>h.old k hk⟩
theorem Upd.ext {S:Nat→Prop} {a b:Zd} (h:Upd S a b) (hs:∀ k,k<a.size→¬ S k):Ext a b:=⟨h.size,fun k hk=>h.old k hk (hs k hk)⟩
theorem Upd.put (h:Zd) (b o:Nat) (v:Value):Upd (· = b) h (h.put b o v):=⟨by rw [Zgj];exact Nat.le_refl _,fun k _ hk=>Zgk hk⟩
theorem Upd.puts (h:Zd) (b o:Nat) (vs:List Value):Upd (· = b) h (h.puts b o vs):=⟨by rw [Zgi];exact Nat.le_refl _,fun k _ hk=>ZfF hk⟩
theorem Zno {h:Zd} {cells:List Value} {t:TypeId} {K:Nat→Zd→Prop} (hk:K h.size (h.push (.cells cells.toArray t))):newC h cells t K:=hk
theorem Ext.then {a b c:Zd} {S:Nat→Prop} (h:Ext a b) (h':Upd S b c) (hs:∀ k,S k→a.size≤k):Ext a c :=
  ⟨Nat.le_trans h.size h'.size,fun k hk=>(h'.old k (Nat.lt_of_lt_of_le hk h.size) fun hS=>by have:=hs k hS;omega).trans (h.old k hk)⟩
def slV (s:Sl):Value:= .slice s.ptr s.len s.cap
def Sl.blk (s:Sl):Option Nat:=s.ptr.map (·.block)
structure Row (h:Zd) (s:Sl) (size:Nat) (vs:List Value):Prop where
  len:vs.length=s.len*size
  cap:s.len≤s.cap
  big:s.cap<9223372036854775808
  at_:s.len=0∨∃ b o,s.ptr=some ⟨b,o,none⟩∧h.has b o vs
theorem Row.nil_of {h:Zd} {s:Sl} {size:Nat} {vs:List Value} (hr:Row h s size vs) (h0:s.len=0):vs=[] :=
  List.eq_nil_of_length_eq_zero (by rw [hr.len,h0,Nat.zero_mul])
theorem Row.congr {h h':Zd} {s:Sl} {size:Nat} {vs:List Value} (hr:Row h s size vs) (he:∀ b o,s.ptr=some ⟨b,o,none⟩→vs≠[]→b<h.size→h'[b]?=h[b]?):Row h' s size vs:=by
  refine ⟨hr.len,hr.cap,hr.big,?_⟩
  rcases hr.at_ with h0 | ⟨b,o,hp,hh⟩
  ·exact .inl h0
  ·rcases Classical.em (vs=[]) with hvs | hvs
   ·subst hvs;exact .inr ⟨b,o,hp,trivial⟩
   ·exact .inr ⟨b,o,hp,Zll (he b o hp hvs (ZrO hh hvs)) hh⟩
theorem Row.ext {h h':Zd} {s:Sl} {size:Nat} {vs:List Value} (hr:Row h s size vs) (he:Ext h h'):Row h' s size vs :=
  hr.congr fun b _ _ _ hb=>he.old b hb
theorem Row.at1 {h:Zd} {s:Sl} {vs:List Value} (hr:Row h s 1 vs) {i:Nat} {v:Value} (hv:vs[i]?=some v) :
    ∃ b o,s.ptr=some ⟨b,o,none⟩∧i<s.len∧h.cell b (o+i)=some v:=by
  have hlt:i<vs.length:=by
    rcases Nat.lt_or_ge i vs.length with h | h
    ·exact h
    ·rw [List.getElem?_eq_none h] at hv;cases hv
  rcases hr.at_ with h0 | ⟨b,o,hp,hh⟩
  ·rw [hr.nil_of h0] at hv;simp at hv
  ·exact ⟨b,o,hp,by have:=hr.len;omega,Zkt hh hv⟩
theorem Row.idx {h:Zd} {s:Sl} {vs:List Value} (hr:Row h s 1 vs) {i:Int} {n:Nat} (hi:i=n) {v:Value} (hv:vs[n]?=some v) {K:Nat→Nat→Prop}
    (hk:∀ b o,s.ptr=some ⟨b,o,none⟩→h.cell b (o+n)=some v→K b (o+n)):Xy s.ptr s.len i 1 K:=by
  obtain ⟨b,o,hp,hlt,hc⟩:=hr.at1 hv
  subst hi
  refine ⟨b,o,hp,by omega,by omega,?_⟩
  rw [Int.toNat_natCast,Nat.mul_one]
  exact hk b o hp hc
theorem Row.rd {h:Zd} {s:Sl} {size:Nat} {vs:List Value} (hr:Row h s size vs) {K:List Value→Prop} (hk:K vs):rdS s size h K:=by
  rcases hr.at_ with h0 | ⟨b,o,hp,hh⟩
  ·rw [hr.nil_of h0] at hk;exact .inl ⟨h0,hk⟩
  ·exact .inr ⟨b,o,vs,hp,hr.len,hh,hk⟩
theorem Row.nil (h:Zd) (size:Nat):Row h ⟨none,0,0⟩ size []:=⟨by simp,Nat.le_refl _,by decide,.inl rfl⟩
structure Own (h:Zd) (base:Nat) (s:Sl) (size:Nat) (vs:List Value):Prop where
  len:vs.length=s.len*size
  cap:s.len≤s.cap
  big:s.cap<9223372036854775808
  at_:(s.ptr=none∧s.cap=0)∨∃ b c e,s.ptr=some ⟨b,0,none⟩∧base≤b∧h[b]?=some (.cells c e (0,0))∧c.size=s.cap*size∧vs=c.toList.take (s.len*size)
theorem Own.row {h:Zd} {base:Nat} {s:Sl} {size:Nat} {vs:List Value} (ho:Own h base s size vs):Row h s size vs:=by
  refine ⟨ho.len,ho.cap,ho.big,?_⟩
  rcases ho.at_ with ⟨_,h0⟩ | ⟨b,c,e,hp,_,hb,hc,hv⟩
  ·exact .inl (by have:=ho.cap;omega)
  ·right
   refine ⟨b,0,hp,Zil hb fun i v hi=>?_⟩
   rw [hv,List.getElem?_take] at hi
   split at hi
   ·simpa using hi
   ·cases hi
theorem Own.nil (h:Zd) (base size:Nat):Own h base ⟨none,0,0⟩ size []:=⟨by simp,Nat.le_refl _,by decide,.inl ⟨rfl,rfl⟩⟩
theorem Own.congr {h h':Zd} {base:Nat} {s:Sl} {size:Nat} {vs:List Value} (ho:Own h base s size vs) (he:∀ b,s.blk=some b→b<h.size→base≤b→h'[b]?=h[b]?):Own h' base s size vs:=by
  refine ⟨ho.len,ho.cap,ho.big,?_⟩
  rcases ho.at_ with h0 | ⟨b,c,e,hp,hb,hc,hr⟩
  ·exact .inl h0
  ·refine .inr ⟨b,c,e,hp,hb,?_,hr⟩
   rw [he b (by simp [Sl.blk,hp]) ?_ hb]
   ·exact hc
   ·rcases Nat.lt_or_ge b h.size with hl | hl
    ·exact hl
    ·rw [Array.getElem?_eq_none hl] at hc;cases hc
theorem Own.base {h:Zd} {base base':Nat} {s:Sl} {size:Nat} {vs:List Value} (ho:Own h base s size vs) (hb:base'≤base):Own h base' s size vs:=by
  refine ⟨ho.len,ho.cap,ho.big,?_⟩
  rcases ho.at_ with h0 | ⟨b,c,e,hp,hb',hr⟩
  ·exact .inl h0
  ·exact .inr ⟨b,c,e,hp,by omega,hr⟩
theorem Own.lt {h:Zd} {base:Nat} {s:Sl} {size:Nat} {vs:List Value} (ho:Own h base s size vs) {b:Nat} (hb:s.blk=some b):base≤b∧b<h.size:=by
  rcases ho.at_ with ⟨hp,_⟩ | ⟨b',c,e,hp,hb',hr,_⟩
  ·simp [Sl.blk,hp] at hb
  ·simp [Sl.blk,hp] at hb
   subst hb
   refine ⟨hb',?_⟩
   rcases Nat.lt_or_ge b' h.size with hl | hl
   ·exact hl
   ·rw [Array.getElem?_eq_none hl] at hr;cases hr
theorem ZiL (zs:List Value) (n:Nat):(X6 zs n).length=n*zs.length:=by simp [X6]
theorem Own.app {h:Zd} {base:Nat} {s:Sl} {size bytes n:Nat} {vs new zs:List Value} {elem:TypeId} {K:Sl→Zd→Prop}
    (ho:Own h base s size vs) (hnew:new.length=n*size) (hone:new.all ZH=true) (hz:zs.length=size) (hb:(s.len+n)*bytes≤140737488355328) (hl:s.len+n≤140737488355328) (hbase:base≤h.size)
    (hk:∀ s' h',Own h' base s' size (vs++new)→s'.len=s.len+n→Upd (fun k=>s.blk=some k) h h'→(s'.blk=s.blk∨s'.blk=some h.size)→K s' h') :
    Fw.app elem size bytes zs s n new h K:=by
  have hlen:=ho.len
  have hcap:=ho.cap
  refine ⟨fun hroom=>?_,fun hgt=>⟨hb,hl,ho.row.rd fun cap h1 h2=>?_⟩⟩
  ·rcases ho.at_ with ⟨hp,h0⟩ | ⟨b,c,e,hp,hbb,hblk,hc,hv⟩
   ·left
    have hn:n=0:=by omega
    have hnil:new=[]:=List.eq_nil_of_length_eq_zero (by rw [hnew,hn,Nat.zero_mul])
    refine ⟨hnil,hk _ _ ?_ rfl (Upd.refl _ _) (.inl rfl)⟩
    refine ⟨by simp [hnil,hn,hlen],hroom,ho.big,.inl ⟨hp,h0⟩⟩
   ·right
    have hle:s.len*size+new.length≤c.size:=by
      rw [hc,hnew,← Nat.add_mul];exact Nat.mul_le_mul_right _ hroom
    refine ⟨b,0,hp,ZjD hblk (by simpa using hle),hone,?_⟩
    obtain ⟨c',hc',hl'⟩:=Zjg (vs:=new) (o:=0+s.len*size) hblk (by simpa using hle)
    refine hk _ _ ⟨?_,hroom,ho.big,.inr ⟨b,c',e,hp,hbb,hc',?_,?_⟩⟩ rfl ((Upd.puts h b _ new).mono fun k _ hk=>by subst hk;simp [Sl.blk,hp]) (.inl rfl)
    ·simp [hlen,hnew,Nat.add_mul]
    ·rw [← hc,← Array.length_toList,hl']
     simp
     omega
    ·rw [hl']
     simp only [Nat.zero_add]
     rw [Nat.add_mul,← hnew,List.take_append_of_le_length (by simp;omega),List.take_of_length_le (by simp;omega),hv]
  ·refine hk _ _ ⟨by simp [hlen,hnew,Nat.add_mul],h1,h2,.inr ⟨h.size,_,elem,rfl,hbase,ZdU,?_,?_⟩⟩ rfl ((Ext.push h _).upd _) (.inr rfl)
   ·simp only [List.size_toArray,List.length_append,ZiL,hz,hlen,hnew]
    rw [← Nat.add_mul,← Nat.add_mul]
    congr 1
    omega
   ·simp only []
    rw [List.take_append_of_le_length (by simp [hlen,hnew,Nat.add_mul]),List.take_of_length_le (by simp [hlen,hnew,Nat.add_mul])]
theorem Own.newC {h:Zd} {cells:List Value} {t:TypeId} {size n:Nat} (hl:cells.length=n*size) (hn:n<9223372036854775808) :
    Own (h.push (.cells cells.toArray t)) h.size ⟨some ⟨h.size,0,none⟩,n,n⟩ size cells :=
  ⟨hl,Nat.le_refl _,hn,.inr ⟨h.size,_,t,rfl,Nat.le_refl _,ZdU,by simp [hl],by simp;rw [List.take_of_length_le (by omega)]⟩⟩
theorem Own.blk_lt {h:Zd} {base:Nat} {s:Sl} {size:Nat} {vs:List Value} (ho:Own h base s size vs) {b:Nat} (hb:s.blk=some b):b<h.size:=(ho.lt hb).2
theorem ZfE (s:ByteArray):XN s s=true:=by unfold XN;simp
end Go.Fw
namespace Go.Proofs.YthbfgkphlmlihaaGreat
open Go Go.Fw
def Z0 (m:Option Nat) (K:Value→Zd→Prop) (h:Zd):Prop :=
  newC h [Value.map m] 73 fun b h'=>K (.func (.func 113) #[] #[.pointer (some ⟨b,0,none⟩)]) h'
def Zm4 (h:Zd) (m:Nat) (l:List Int):Prop :=
  ∃ es clk,h[m]?=some (.map es clk)∧MapKept.Stamped es clk∧es.toList.map (·.key)=l.map (Value.int .i64)∧l.Pairwise (· < ·)∧∀ x,x∈l→ -9223372036854775808≤x∧x<9223372036854775808
def ZbA (x:Value) (K:Sl→Zd→Prop) (h:Zd):Prop :=
  ∃ b m l,x = .func (.func 113) #[] #[.pointer (some ⟨b,0,none⟩)]∧h.cell b 0=some (.map (some m))∧Zm4 h m l∧l.length*8≤140737488355328 ∧
    ∀ s h',Own h' h.size s 1 (l.map (Value.int .i64))→Ext h h'→K s h'
end Go.Proofs.YthbfgkphlmlihaaGreat
