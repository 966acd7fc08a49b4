/- The words in which the functions' models are written: memory as an array of blocks, and what one step of a function asks of it and leaves. Plain definitions, no program. -/
import GoSem.Core.World
import GoSem.Core.View
import GoSem.Core.Lib
import GoSem.Instr.Lookup
import Derived.MapKept
import Derived.Laws.IdiomRangeMap
set_option linter.unusedVariables false
set_option linter.unusedSimpArgs false
namespace Go.Fw
open Go
abbrev Zb:=Array Obj
abbrev HP:=Zb→Prop
def Zb.cell (h:Zb) (b o:Nat):Option Value :=
  match h[b]? with
  | some (.cells c _ _)=>c[o]?
  | _=>none
def Zb.froz (h:Zb) (b o:Nat):Bool :=
  match h[b]? with
  | some (.cells _ _ (lo,hi))=>decide (lo≤o)&&decide (o<hi)
  | _=>false
def Zb.put (h:Zb) (b o:Nat) (v:Value):Zb :=
  h.modify b fun
    | .cells c e f=> .cells (c.setIfInBounds o v) e f
    | x=>x
def Zb.puts (h:Zb) (b:Nat):Nat→List Value→Zb
  | _,[]=>h
  | o,v::vs=>(h.put b o v).puts b (o+1) vs
def Zb.has (h:Zb) (b:Nat):Nat→List Value→Prop
  | _,[]=>True
  | o,v::vs=>h.cell b o=some v∧h.has b (o+1) vs
def Zb.free (h:Zb) (b:Nat):Nat→Nat→Prop
  | _,0=>True
  | o,n+1=>((∃ u,h.cell b o=some u)∧h.froz b o=false)∧h.free b (o+1) n
structure Sl where
  ptr:Option Addr
  len:Nat
  cap:Nat
def Zv:Value→Bool
  | .agg _ | .tuple _=>false
  | _=>true
def Zw (b:Bool) (A B:Prop):Prop:=(b=true→A)∧(b=false→B)
def Zc (n:Int) (K:Int→Prop):Prop:=K n
def ZG (b:Bool) (K:Bool→Prop):Prop:=K b
def ldI (h:Zb) (b o:Nat) (k:IntKind) (K:Int→Prop):Prop:=∃ n,h.cell b o=some (.int k n)∧K n
def ldB (h:Zb) (b o:Nat) (K:Bool→Prop):Prop:=∃ x,h.cell b o=some (.bool x)∧K x
def ldS (h:Zb) (b o:Nat) (K:ByteArray→Prop):Prop:=∃ x,h.cell b o=some (.string x)∧K x
def ldP (h:Zb) (b o:Nat) (K:Option Addr→Prop):Prop:=∃ x,h.cell b o=some (.pointer x)∧K x
def ldL (h:Zb) (b o:Nat) (K:Sl→Prop):Prop:=∃ x:Sl,h.cell b o=some (.slice x.ptr x.len x.cap)∧K x
def ldM (h:Zb) (b o:Nat) (K:Option Nat→Prop):Prop:=∃ x,h.cell b o=some (.map x)∧K x
def ldV (h:Zb) (b o:Nat) (K:Value→Prop):Prop:=∃ x,h.cell b o=some x∧K x
def Zd (p:Option Addr) (K:Nat→Nat→Prop):Prop:=∃ b o,p=some ⟨b,o,none⟩∧K b o
def st (h:Zb) (b o:Nat) (v:Value) (K:Zb→Prop):Prop :=
  (∃ u,h.cell b o=some u)∧h.froz b o=false∧Zv v=true∧K (h.put b o v)
def sts (h:Zb) (b o:Nat) (vs:List Value) (K:Zb→Prop):Prop :=
  h.free b o vs.length∧vs.all Zv=true∧K (h.puts b o vs)
def Zap (p:Option Addr) (l:Nat) (i:Int) (size:Nat) (K:Nat→Nat→Prop):Prop :=
  ∃ b o,p=some ⟨b,o,none⟩∧0≤i∧i<l∧K b (o+i.toNat*size)
def Zxw (l:Nat) (i:Int) (K:Nat→Prop):Prop:=0≤i∧i<l∧K i.toNat
def ZAk (s:ByteArray) (i:Int) (K:Int→Prop):Prop:=∃ x,0≤i∧s[i.toNat]?=some x∧K (UInt8.toNat x)
def ZH (p:Prop) (K:Prop):Prop:=p∧K
def Zef (p:Option Addr) (l m size:Nat):Option Addr:=if m=l then p else p.map (·.add (l*size))
def slc (p:Option Addr) (cap size:Nat) (lo hi mx:Int) (K:Sl→Prop):Prop :=
  0≤lo∧lo≤hi∧hi≤mx∧mx≤cap∧K ⟨Zef p lo.toNat mx.toNat size,hi.toNat - lo.toNat,mx.toNat - lo.toNat⟩
def ZIX (s:ByteArray) (lo hi:Int) (K:ByteArray→Prop):Prop :=
  0≤lo∧lo≤hi∧hi≤s.size∧K (s.extract lo.toNat hi.toNat)
def Zvi (k:IntKind) (x y:Int):Int:=k.wrap (x*2 ^ (min y.toNat k.bits))
def ZlM (k:IntKind) (x y:Int):Int:=x.fdiv (2 ^ (min y.toNat k.bits))
def ZI5 (k:IntKind) (x y:Int):Int:=k.wrap (BitVec.toNat (BitVec.ofInt k.bits x &&& BitVec.ofInt k.bits y))
def orV (k:IntKind) (x y:Int):Int:=k.wrap (BitVec.toNat (BitVec.ofInt k.bits x ||| BitVec.ofInt k.bits y))
def Ztv (k:IntKind) (x y:Int):Int:=k.wrap (BitVec.toNat (BitVec.ofInt k.bits x ^^^ BitVec.ofInt k.bits y))
def ZEL (k:IntKind) (x y:Int):Int:=k.wrap (BitVec.toNat (BitVec.ofInt k.bits x &&& ~~~ BitVec.ofInt k.bits y))
def ZaF (x y:ByteArray):Bool:=x.toList ==y.toList
def Zjf (x y:Int):Int:=if y<x then y else x
def Zqf (x y:Int):Int:=if y>x then y else x
def ZI4 (x y:ByteArray) (K:ByteArray→Prop):Prop:=x.size+y.size≤9223372036854775807∧K (x++y)
def Zbx (s:ByteArray):List Value:=s.data.toList.map fun b=>Value.int .u8 b.toNat
def rdS (x:Sl) (size:Nat) (h:Zb) (K:List Value→Prop):Prop :=
  (x.len=0∧K [])∨∃ b o l,x.ptr=some ⟨b,o,none⟩∧l.length=x.len*size∧h.has b o l∧K l
def ZaJ (zs:List Value) (n:Nat):List Value:=(List.replicate n zs).flatten
def app (elem:TypeId) (size bytes:Nat) (zs:List Value) (s:Sl) (n:Nat) (new:List Value) (h:Zb) (K:Sl→Zb→Prop):Prop :=
  (s.len+n≤s.cap →
    (new=[]∧K ⟨s.ptr,s.len+n,s.cap⟩ h) ∨
    (∃ b o,s.ptr=some ⟨b,o,none⟩∧h.free b (o+s.len*size) new.length∧new.all Zv=true∧K ⟨s.ptr,s.len+n,s.cap⟩ (h.puts b (o+s.len*size) new))) ∧
  (s.cap<s.len+n→(s.len+n)*bytes≤140737488355328∧s.len+n≤140737488355328∧rdS s size h fun old =>
    ∀ cap,s.len+n≤cap→cap<9223372036854775808 →
      K ⟨some ⟨h.size,0,none⟩,s.len+n,cap⟩ (h.push (.cells (old++new++ZaJ zs (cap - (s.len+n))).toArray elem)))
def mkS (elem:TypeId) (bytes:Nat) (zs:List Value) (l c:Int) (h:Zb) (K:Sl→Zb→Prop):Prop :=
  0≤l∧l≤c∧c*bytes≤281474976710656∧c≤281474976710656 ∧
   K ⟨some ⟨h.size,0,none⟩,l.toNat,c.toNat⟩ (h.push (.cells (ZaJ zs c.toNat).toArray elem))
def b2s (x:Sl) (h:Zb) (K:ByteArray→Prop):Prop :=
  (x.len=0∧K ByteArray.empty)∨∃ b o s,x.ptr=some ⟨b,o,none⟩∧s.size=x.len∧h.has b o (Zbx s)∧K s
def s2b (elem:TypeId) (s:ByteArray) (h:Zb) (K:Sl→Zb→Prop):Prop :=
  s.size<9223372036854775808∧∀ cap,s.size≤cap→cap<9223372036854775808 →
    K ⟨some ⟨h.size,0,none⟩,s.size,cap⟩ (h.push (.cells (Zbx s++List.replicate (cap - s.size) (Value.int .u8 0)).toArray elem (cap,cap+1)))
def Zb.frz (h:Zb) (b:Nat):Zb :=
  h.modify b fun
    | .cells c e _=> .cells c e (c.size,c.size+1)
    | x=>x
def ZEp (p:Option Addr) (h:Zb) (K:Zb→Prop):Prop :=
  ∃ b o c e,p=some ⟨b,o,none⟩∧h[b]?=some (.cells c e (0,0))∧K (h.frz b)
def newC (h:Zb) (cells:List Value) (t:TypeId) (K:Nat→Zb→Prop):Prop:=K h.size (h.push (.cells cells.toArray t))
def XF (d:TypeDesc) (h:Zb) (m:Option Nat) (key:Value) (K:Option Value→Prop):Prop :=
  (m=none→K none)∧∀ b,m=some b→∃ es c r,h[b]?=some (.map es c)∧Instr.findNow d key es.toList 0=some r∧K (r.map (·.2))
def ZaC:List TypeDesc→List Value→Prop
  | [],[]=>True
  | d::ds,v::vs=>MapKept.IsKey d v∧ZaC ds vs
  | _,_=>False
def ZgB (ds:List TypeDesc) (v:Value):Prop:=∃ cs:List Value,v = .agg cs.toArray∧ZaC ds cs
def ZfR:Value→Value→Bool
  | .int _ a,.int _ b=>a ==b
  | .string a,.string b=>ZaF a b
  | .bool a,.bool b=>a ==b
  | _,_=>false
def Zdt:List Value→List Value→Bool
  | [],[]=>true
  | v::vs,w::ws=>bif ZfR v w then Zdt vs ws else false
  | _,_=>false
def Zh9 (k:List Value):Value→Bool
  | .agg cs=>Zdt k cs.toList
  | _=>false
def ZeA (k:List Value):List MapEntry→Nat→Option (Nat × Value)
  | [],_=>none
  | e::es,i=>bif Zh9 k e.key then some (i,e.val) else ZeA k es (i+1)
def Zfv (ds:List TypeDesc) (h:Zb) (m:Option Nat) (key:List Value) (K:Option Value→Prop):Prop :=
  (m=none→K none)∧∀ b,m=some b→∃ es c,h[b]?=some (.map es c)∧(∀ x,x∈es.toList→ZgB ds x.key)∧K ((ZeA key es.toList 0).map (·.2))
def asI (v:Value) (k:IntKind) (K:Int→Prop):Prop:=∃ n,v = .int k n∧K n
def asB (v:Value) (K:Bool→Prop):Prop:=∃ x,v = .bool x∧K x
def asS (v:Value) (K:ByteArray→Prop):Prop:=∃ x,v = .string x∧K x
def asP (v:Value) (K:Option Addr→Prop):Prop:=∃ x,v = .pointer x∧K x
def asL (v:Value) (K:Sl→Prop):Prop:=∃ x:Sl,v = .slice x.ptr x.len x.cap∧K x
def asM (v:Value) (K:Option Nat→Prop):Prop:=∃ x,v = .map x∧K x
def asT (v:Value) (t:TypeId) (K:Value→Prop):Prop:=∃ x,v = .iface t x∧K x
def Zci (h:Zb) (K:Nat→Zb→Prop):Prop:=K h.size (h.push (.map #[] 0))
def Zxt (es:Array MapEntry) (c:Nat) (key v:Value):Option (Nat × Value)→Obj
  | some (i,_)=> .map (es.modify i fun e=>{ e with key:=key,val:=v }) c
  | none=> .map (es.push { key:=key,val:=v,born:=c }) (c+1)
def X9 (d:TypeDesc) (h:Zb) (m:Option Nat) (key v:Value) (K:Zb→Prop):Prop :=
  ∃ b es c r,m=some b∧h[b]?=some (.map es c)∧(∀ x,x∈es.toList→MapKept.IsKey d x.key)∧Instr.findNow d key es.toList 0=some r∧K (h.setIfInBounds b (Zxt es c key v r))
def Zfu (ds:List TypeDesc) (h:Zb) (m:Option Nat) (key:List Value) (v:Value) (K:Zb→Prop):Prop :=
  ∃ b es c,m=some b∧h[b]?=some (.map es c)∧(∀ x,x∈es.toList→ZgB ds x.key)∧K (h.setIfInBounds b (Zxt es c (.agg key.toArray) v (ZeA key es.toList 0)))
def ZAm (es:Array MapEntry) (c:Nat):Option (Nat × Value)→Obj
  | some (i,_)=> .map (es.eraseIdxIfInBounds i) c
  | none=> .map es c
def Zgb (d:TypeDesc) (h:Zb) (m:Option Nat) (key:Value) (K:Zb→Prop):Prop :=
  (m=none→K h)∧∀ b,m=some b→∃ es c r,h[b]?=some (.map es c)∧Instr.findNow d key es.toList 0=some r∧K (h.setIfInBounds b (ZAm es c r))
def ZAn (h:Zb) (m:Option Nat) (K:Zb→Prop):Prop :=
  (m=none→K h)∧∀ b,m=some b→∃ es c,h[b]?=some (.map es c)∧K (h.setIfInBounds b (.map #[] c))
def ZsF (s:Sl) (zs:List Value) (h:Zb) (K:Zb→Prop):Prop :=
  (s.ptr=none∧K h)∨(s.len=0∧K h) ∨
  ∃ b o,s.ptr=some ⟨b,o,none⟩∧h.free b o (ZaJ zs s.len).length∧(ZaJ zs s.len).all Zv=true∧K (h.puts b o (ZaJ zs s.len))
def rgM (h:Zb) (m:Option Nat) (K:Nat→Zb→Prop):Prop :=
  (m=none→K h.size (h.push (.mapIter none 0 #[] 0)))∧∀ b,m=some b→∃ es c,h[b]?=some (.map es c)∧K h.size (h.push (.mapIter (some b) c #[] c))
def Zt4 (h:Zb) (r:Nat) (T:Value→Value→Zb→Prop) (F:Prop):Prop :=
  (∃ s seen c,h[r]?=some (.mapIter none s seen c)∧F) ∨
  ∃ bm since seen c0 es clock,h[r]?=some (.mapIter (some bm) since seen c0)∧h[bm]?=some (.map es clock)∧(∀ x,x∈es.toList→x.born<since)∧since≤c0 ∧
    ((leftOf es seen).size=0→F)∧∀ e,e∈(leftOf es seen).toList→T e.key e.val (h.setIfInBounds r (.mapIter (some bm) since (seen.push e.born) clock))
def ZAl (h:Zb) (r:Nat) (K:Value→Value→Prop):Prop :=
  ∃ (bm since:Nat) (seen:Array Nat) (es:Array MapEntry) (clock:Nat) (e:MapEntry),h[r]?=some (.mapIter (some bm) since (seen.push e.born) clock)∧h[bm]?=some (.map es clock)∧e∈es.toList∧(es.toList.map (·.born)).Nodup∧K e.key e.val
def ZmE (v:Value) (f:Nat) (P:Prop):Prop:=v = .func (.func f) #[] #[]∧P
def exG {ρ:Type} (v:Value) (mk:ρ→Value) (K:ρ→Prop):Prop:=∃ r,v=mk r∧K r
def ZwU (h:Zb) (m:Option Nat) (K:Int→Prop):Prop :=
  (m=none→K 0)∧∀ b,m=some b→∃ es c,h[b]?=some (.map es c)∧K (es.size:Int)
def ZzJ (x:Value) (h:Zb) (K:Value→Zb→Prop):Prop :=
  ∃ t b es c,x = .iface t (.map (some b))∧h[b]?=some (.map es c)∧K (.iface t (.map (some h.size))) (h.push (.map es c))
def ZwE {ρ:Type} (m:(ρ→Zb→Prop)→Zb→Prop) (h:Zb) (K:ρ→Prop):Prop :=
  ∃ r,m (fun r' h'=>r'=r∧h'=h) h∧K r
def Zi (h:Zb):List (Nat × Nat × Value)→Prop
  | []=>True
  | (b,o,v)::r=>h.cell b o=some v∧Zi h r
def Zfj (A B:Prop):Prop:=A∧B
def ZeR (r:Loop) (st:LoopState) (p:Option Code):Obj:= .loop { r with state:=st,pending:=p }
def ZpT (h:Zb) (l:Nat) (r:Loop) (st:LoopState) (p:Option Code) (K:Prop):Prop:=h[l]?=some (ZeR r st p)∧K
def setO (h:Zb) (l:Nat) (o:Obj):Zb:=h.setIfInBounds l o
abbrev Yld:=Nat→List Value→(Bool→Zb→Prop)→Zb→Prop
def Zor (r:Loop) (l:Nat) (n:Nat) (body:List Value→Zb→(Option Code→Zb→Prop)→Prop):Yld:=fun l' vs k h =>
  l'=l∧vs.length=n∧ZpT h l r .ready none (
    body vs h fun p h'=>ZpT h' l r .busy none (k p.isNone (setO h' l (ZeR r (if p.isNone then .ready else .done) p))))
def Zuu (r:Loop) (l:Nat) (h:Zb) (K:Zb→Prop):Prop:=ZpT h l r .ready none (K (setO h l (ZeR r .busy none)))
def ZrL (n:Nat) (it:Yld→Nat→(Zb→Prop)→Zb→Prop) (body:Nat→Loop→List Value→Zb→(Option Code→Zb→Prop)→Prop) (h:Zb) (K:Option Code→Nat→Zb→Prop):Prop :=
  ∀ r:Loop,it (Zor r (h.size+1) n (body (h.size+1) r)) (h.size+1)
    (fun h'=>∃ st p,st≠ .busy∧ZpT h' (h.size+1) r st p (K p h.size (setO h' (h.size+1) (ZeR r .exhausted p)))) ((h.push (.deferred (some []))).push (ZeR r .ready none))
def Zud (p:Option Code) (N:Prop) (X:Nat→Prop) (R:Prop):Prop:=match p with
  | none=>N
  | some (.exit id)=>X id
  | some .ret=>R
  | _=>False
def Zxj {ρ:Type} (mk:ρ→List Value) (vs:List Value) (K:ρ→Prop):Prop:=∃ r,vs=mk r∧K r
def Zps (D:Nat) (h:Zb) (K:Zb→Prop):Prop:=h[D]?=some (.deferred (some []))∧K (setO h D (.deferred none))
def YI {σ:Type} (body:(σ→Zb→Prop)→σ→Zb→Prop) (s:σ) (h:Zb):Prop :=
  ∃ (I:σ→Zb→Prop) (μ:σ→Zb→Nat),I s h∧∀ s h,I s h→body (fun s' h'=>I s' h'∧μ s' h'<μ s h) s h
def Zg5 {σ:Type} (rest:σ→Zb→Prop) (pre:(σ→Zb→Prop)→Prop):Prop :=
  ∃ J:σ→Zb→Prop,(∀ s h,J s h→rest s h)∧pre J
theorem Yc {σ:Type} {body:(σ→Zb→Prop)→σ→Zb→Prop} {s:σ} {h:Zb} (I:σ→Zb→Prop) (μ:σ→Zb→Nat)
    (h0:I s h) (hr:∀ s h,I s h→body (fun s' h'=>I s' h'∧μ s' h'<μ s h) s h):YI body s h:=⟨I,μ,h0,hr⟩
theorem ZbA {σ:Type} {rest:σ→Zb→Prop} {pre:(σ→Zb→Prop)→Prop} (J:σ→Zb→Prop)
    (h1:∀ s h,J s h→rest s h) (h2:pre J):Zg5 rest pre:=⟨J,h1,h2⟩
theorem ZsC {σ:Type} {rest:σ→Zb→Prop} {pre:(σ→Zb→Prop)→Prop} (h:pre rest):Zg5 rest pre:=⟨rest,fun _ _ h=>h,h⟩
theorem ZF {A B:Prop} (h:A):Zw true A B:=⟨fun _=>h,fun e=>by cases e⟩
theorem Zl {A B:Prop} (h:B):Zw false A B:=⟨fun e=>(by cases e),fun _=>h⟩
theorem Za {n:Int} {K:Int→Prop} (h:K n):Zc n K:=h
theorem Zx {n:Bool} {K:Bool→Prop} (h:K n):ZG n K:=h
theorem Zj {p:Prop} [Decidable p] {A B:Prop} (h1:p→A) (h2:¬ p→B):Zw (decide p) A B :=
  ⟨fun e=>h1 (of_decide_eq_true e),fun e=>h2 (of_decide_eq_false e)⟩
theorem ZaS {b:Bool} {A B:Prop} (e:b=true) (h:A):Zw b A B:=by subst e;exact ZF h
theorem XE {b:Bool} {A B:Prop} (e:b=false) (h:B):Zw b A B:=by subst e;exact Zl h
theorem ZR {n:Int} (h0 : -9223372036854775808≤n) (h1:n≤9223372036854775807):IntKind.wrap .i64 n=n:=by
  unfold IntKind.wrap
  have hb:(2:Int) ^ IntKind.i64.bits=18446744073709551616:=by decide
  have hb':(2:Int) ^ (IntKind.i64.bits - 1)=9223372036854775808:=by decide
  have hs:IntKind.i64.signed=true:=rfl
  simp only [hb,hb',hs,Bool.true_and]
  rcases Int.lt_or_le n 0 with h | h
  ·have:n % 18446744073709551616=n+18446744073709551616:=by omega
   rw [this,if_pos (by simp;omega)]
   omega
  ·have:n % 18446744073709551616=n:=by omega
   rw [this,if_neg (by simp;omega)]
theorem ZEj {n:Int} (h0:0≤n) (h1:n<256):IntKind.wrap .u8 n=n:=by
  unfold IntKind.wrap
  have hb:(2:Int) ^ IntKind.u8.bits=256:=by decide
  have hs:IntKind.u8.signed=false:=rfl
  simp only [hb,hs,Bool.false_and,Bool.false_eq_true,if_false]
  omega
theorem Zl7 (n:Int):IntKind.wrap .u8 n=n % 256:=by
  unfold IntKind.wrap
  have hb:(2:Int) ^ IntKind.u8.bits=256:=by decide
  have hs:IntKind.u8.signed=false:=rfl
  simp only [hb,hs,Bool.false_and,Bool.false_eq_true,if_false]
theorem Zn9 {h:Zb} {b o:Nat} {v:Value} (hc:h.cell b o=some v):b<h.size:=by
  unfold Zb.cell at hc
  rcases Nat.lt_or_ge b h.size with hl | hl
  ·exact hl
  ·rw [Array.getElem?_eq_none hl] at hc;cases hc
theorem Zh5 {h h':Zb} {b:Nat} (he:h'[b]?=h[b]?) (o:Nat):h'.cell b o=h.cell b o:=by
  unfold Zb.cell;rw [he]
theorem Zho {h h':Zb} {b:Nat} (he:h'[b]?=h[b]?):∀ {l:List Value} {o:Nat},h.has b o l→h'.has b o l
  | [],_,_=>trivial
  | _::_,_,⟨h1,h2⟩=>⟨(Zh5 he _).trans h1,Zho he h2⟩
theorem Zh1 {h:Zb} {b:Nat}:∀ {l:List Value} {o i:Nat} {v:Value},h.has b o l→l[i]?=some v→h.cell b (o+i)=some v
  | [],_,_,_,_,hv=>by simp at hv
  | x::l,o,0,v,⟨h1,_⟩,hv=>by simp at hv;subst hv;exact h1
  | x::l,o,i+1,v,⟨_,h2⟩,hv=>by
    have:=Zh1 (i:=i) (v:=v) h2 (by simpa using hv)
    rw [show o+(i+1)=o+1+i from by omega];exact this
theorem ZoM {h:Zb} {b:Nat}:∀ {l:List Value} {o:Nat},(∀ i v,l[i]?=some v→h.cell b (o+i)=some v)→h.has b o l
  | [],_,_=>trivial
  | x::l,o,hh=>⟨by have:=hh 0 x (by simp);simpa using this,ZoM fun i v hv=>by have:=hh (i+1) v (by simpa using hv);rw [show o+1+i=o+(i+1) from by omega];exact this⟩
theorem Zkz {h:Zb} {b o:Nat} {l:List Value} (hh:h.has b o l) (hne:l≠[]):b<h.size:=by
  cases l with
  | nil=>exact absurd rfl hne
  | cons v l=>exact Zn9 hh.1
theorem Zsi {h:Zb} {b o:Nat} {l:List Value} (hh:h.has b o l) (k n:Nat):h.has b (o+k) ((l.drop k).take n):=by
  refine ZoM fun i v hv=>?_
  rw [List.getElem?_take] at hv
  split at hv
  ·rw [List.getElem?_drop] at hv
   have:=Zh1 hh hv
   rw [Nat.add_assoc];exact this
  ·cases hv
theorem Zn {h:Zb} {b o:Nat} {c:Array Value} {e:TypeId} {f:Nat × Nat} (hb:h[b]?=some (.cells c e f)):h.cell b o=c[o]?:=by
  unfold Zb.cell;rw [hb]
theorem ZaD {h:Zb} {b o:Nat} {c:Array Value} {e:TypeId} {f:Nat × Nat} {l:List Value} (hb:h[b]?=some (.cells c e f)) (hl:∀ i v,l[i]?=some v→c[o+i]?=some v):h.has b o l :=
  ZoM fun i v hv=>by rw [Zn hb];exact hl i v hv
theorem Zfe {h:Zb} {b:Nat} {c:Array Value} {e:TypeId} (hb:h[b]?=some (.cells c e (0,0))):∀ {n o:Nat},o+n≤c.size→h.free b o n
  | 0,_,_=>trivial
  | n+1,o,hle=>by
    have hlt:o<c.size:=by omega
    refine ⟨⟨⟨c[o],by rw [Zn hb];simp [hlt]⟩,?_⟩,Zfe hb (by omega)⟩
    unfold Zb.froz;rw [hb];simp
theorem Zf2 {h:Zb} {b o:Nat} {v:Value} {c:Array Value} {e:TypeId} {f:Nat × Nat} (hb:h[b]?=some (.cells c e f)):(h.put b o v)[b]?=some (.cells (c.setIfInBounds o v) e f):=by
  unfold Zb.put
  rw [Array.getElem?_modify,if_pos rfl,hb]
  rfl
theorem Zdm {h:Zb} {b o k:Nat} {v:Value} (hk:k≠b):(h.put b o v)[k]?=h[k]?:=by
  unfold Zb.put
  rw [Array.getElem?_modify,if_neg (Ne.symm hk)]
theorem ZeH {h:Zb} {b o:Nat} {v:Value}:(h.put b o v).size=h.size:=by
  unfold Zb.put;simp
theorem Ze8 {h:Zb} {b:Nat}:∀ {vs:List Value} {o:Nat},(h.puts b o vs).size=h.size
  | [],_=>rfl
  | v::vs,o=>by unfold Zb.puts;rw [Ze8,ZeH]
theorem Zce {b k:Nat} (hk:k≠b):∀ {vs:List Value} {h:Zb} {o:Nat},(h.puts b o vs)[k]?=h[k]?
  | [],_,_=>rfl
  | v::vs,h,o=>by unfold Zb.puts;rw [Zce hk,Zdm hk]
theorem Ze9 {b:Nat} {e:TypeId} {f:Nat × Nat}:∀ {vs:List Value} {h:Zb} {o:Nat} {c:Array Value},h[b]?=some (.cells c e f)→o+vs.length≤c.size →
    ∃ c',(h.puts b o vs)[b]?=some (.cells c' e f)∧c'.toList=c.toList.take o++vs++c.toList.drop (o+vs.length)
  | [],h,o,c,hb,_=>⟨c,hb,by simp⟩
  | v::vs,h,o,c,hb,hle=>by
    simp only [List.length_cons] at hle
    obtain ⟨c',hc',hl⟩:=Ze9 (vs:=vs) (h:=h.put b o v) (o:=o+1) (Zf2 hb) (by simp;omega)
    refine ⟨c',hc',?_⟩
    rw [hl]
    have hlt:o<c.toList.length:=by simp;omega
    simp only [Array.toList_setIfInBounds,List.length_cons]
    rw [List.take_succ_eq_append_getElem (by simp;omega),List.take_set_of_le (by omega),List.drop_set_of_lt (by omega)]
    simp
    omega
theorem Zfs {h:Zb} {x:Obj} {k:Nat} (hk:k<h.size):(h.push x)[k]?=h[k]?:=by
  rw [Array.getElem?_push,if_neg (by omega)]
theorem Zeg {h:Zb} {x:Obj}:(h.push x)[h.size]?=some x:=by simp
structure Ext (h h':Zb):Prop where
  size:h.size≤h'.size
  old:∀ k,k<h.size→h'[k]?=h[k]?
theorem Ext.refl (h:Zb):Ext h h:=⟨Nat.le_refl _,fun _ _=>rfl⟩
theorem Ext.trans {a b c:Zb} (h:Ext a b) (h':Ext b c):Ext a c :=
  ⟨Nat.le_trans h.size h'.size,fun k hk=>(h'.old k (Nat.lt_of_lt_of_le hk h.size)).trans (h.old k hk)⟩
theorem Ext.push (h:Zb) (x:Obj):Ext h (h.push x):=⟨by simp,fun _ hk=>Zfs hk⟩
structure Upd (S:Nat→Prop) (h h':Zb):Prop where
  size:h.size≤h'.size
  old:∀ k,k<h.size→¬ S k→h'[k]?=h[k]?
theorem Upd.refl (S:Nat→Prop) (h:Zb):Upd S h h:=⟨Nat.le_refl _,fun _ _ _=>rfl⟩
theorem Upd.trans {S:Nat→Prop} {a b c:Zb} (h:Upd S a b) (h':Upd S b c):Upd S a c :=
  ⟨Nat.le_trans h.size h'.size,fun k hk hs=>(h'.old k (Nat.lt_of_lt_of_le hk h.size) hs).trans (h.old k hk hs)⟩
theorem Upd.mono {S T:Nat→Prop} {a b:Zb} (h:Upd S a b) (hs:∀ k,k<a.size→S k→T k):Upd T a b :=
  ⟨h.size,fun k hk hn=>h.old k hk fun hS=>hn (hs k hk hS)⟩
theorem Ext.upd {a b:Zb} (h:Ext a b) (S:Nat→Prop):Upd S a b:=⟨h.size,fun k hk _=>h.old k hk⟩
theorem Upd.ext {S:Nat→Prop} {a b:Zb} (h:Upd S a b) (hs:∀ k,k<a.size→¬ S k):Ext a b:=⟨h.size,fun k hk=>h.old k hk (hs k hk)⟩
theorem Upd.put (h:Zb) (b o:Nat) (v:Value):Upd (· = b) h (h.put b o v):=⟨by rw [ZeH];exact Nat.le_refl _,fun k _ hk=>Zdm hk⟩
theorem Upd.puts (h:Zb) (b o:Nat) (vs:List Value):Upd (· = b) h (h.puts b o vs):=⟨by rw [Ze8];exact Nat.le_refl _,fun k _ hk=>Zce hk⟩
theorem Upd.low {base:Nat} {a b:Zb} (h:Upd (fun k=>base≤k) a b) {k:Nat} (hk:k<base) (hk':k<a.size):b[k]?=a[k]?:=h.old k hk' (by omega)
theorem ZdL {h:Zb} {cells:List Value} {t:TypeId} {K:Nat→Zb→Prop} (hk:K h.size (h.push (.cells cells.toArray t))):newC h cells t K:=hk
theorem Ext.then {a b c:Zb} {S:Nat→Prop} (h:Ext a b) (h':Upd S b c) (hs:∀ k,S k→a.size≤k):Ext a c :=
  ⟨Nat.le_trans h.size h'.size,fun k hk=>(h'.old k (Nat.lt_of_lt_of_le hk h.size) fun hS=>by have:=hs k hS;omega).trans (h.old k hk)⟩
def slV (s:Sl):Value:= .slice s.ptr s.len s.cap
def Sl.blk (s:Sl):Option Nat:=s.ptr.map (·.block)
def bv (x:UInt8):Value:= .int .u8 x.toNat
structure Row (h:Zb) (s:Sl) (size:Nat) (vs:List Value):Prop where
  len:vs.length=s.len*size
  cap:s.len≤s.cap
  big:s.cap<9223372036854775808
  at_:s.len=0∨∃ b o,s.ptr=some ⟨b,o,none⟩∧h.has b o vs
abbrev Bytes (h:Zb) (s:Sl) (l:List UInt8):Prop:=Row h s 1 (l.map bv)
theorem Row.nil_of {h:Zb} {s:Sl} {size:Nat} {vs:List Value} (hr:Row h s size vs) (h0:s.len=0):vs=[] :=
  List.eq_nil_of_length_eq_zero (by rw [hr.len,h0,Nat.zero_mul])
theorem Row.congr {h h':Zb} {s:Sl} {size:Nat} {vs:List Value} (hr:Row h s size vs) (he:∀ b o,s.ptr=some ⟨b,o,none⟩→vs≠[]→b<h.size→h'[b]?=h[b]?):Row h' s size vs:=by
  refine ⟨hr.len,hr.cap,hr.big,?_⟩
  rcases hr.at_ with h0 | ⟨b,o,hp,hh⟩
  ·exact .inl h0
  ·rcases Classical.em (vs=[]) with hvs | hvs
   ·subst hvs;exact .inr ⟨b,o,hp,trivial⟩
   ·exact .inr ⟨b,o,hp,Zho (he b o hp hvs (Zkz hh hvs)) hh⟩
theorem Row.ext {h h':Zb} {s:Sl} {size:Nat} {vs:List Value} (hr:Row h s size vs) (he:Ext h h'):Row h' s size vs :=
  hr.congr fun b _ _ _ hb=>he.old b hb
theorem Bytes.length {h:Zb} {s:Sl} {l:List UInt8} (hb:Bytes h s l):s.len=l.length:=by
  have:=hb.len;simp at this;omega
theorem Row.at1 {h:Zb} {s:Sl} {vs:List Value} (hr:Row h s 1 vs) {i:Nat} {v:Value} (hv:vs[i]?=some v) :
    ∃ b o,s.ptr=some ⟨b,o,none⟩∧i<s.len∧h.cell b (o+i)=some v:=by
  have hlt:i<vs.length:=by
    rcases Nat.lt_or_ge i vs.length with h | h
    ·exact h
    ·rw [List.getElem?_eq_none h] at hv;cases hv
  rcases hr.at_ with h0 | ⟨b,o,hp,hh⟩
  ·rw [hr.nil_of h0] at hv;simp at hv
  ·exact ⟨b,o,hp,by have:=hr.len;omega,Zh1 hh hv⟩
theorem Row.idx {h:Zb} {s:Sl} {vs:List Value} (hr:Row h s 1 vs) {i:Int} {n:Nat} (hi:i=n) {v:Value} (hv:vs[n]?=some v) {K:Nat→Nat→Prop}
    (hk:∀ b o,s.ptr=some ⟨b,o,none⟩→h.cell b (o+n)=some v→K b (o+n)):Zap s.ptr s.len i 1 K:=by
  obtain ⟨b,o,hp,hlt,hc⟩:=hr.at1 hv
  subst hi
  refine ⟨b,o,hp,by omega,by omega,?_⟩
  rw [Int.toNat_natCast,Nat.mul_one]
  exact hk b o hp hc
theorem Bytes.idx {h:Zb} {s:Sl} {l:List UInt8} (hr:Bytes h s l) {i:Int} {n:Nat} (hi:i=n) {x:UInt8} (hv:l[n]?=some x) {K:Int→Prop} (hk:K x.toNat) :
    Zap s.ptr s.len i 1 fun b o=>ldI h b o .u8 K :=
  Row.idx hr hi (v:=bv x) (by simp [hv]) fun _ _ _ hc=>⟨_,hc,hk⟩
theorem Row.rd {h:Zb} {s:Sl} {size:Nat} {vs:List Value} (hr:Row h s size vs) {K:List Value→Prop} (hk:K vs):rdS s size h K:=by
  rcases hr.at_ with h0 | ⟨b,o,hp,hh⟩
  ·rw [hr.nil_of h0] at hk;exact .inl ⟨h0,hk⟩
  ·exact .inr ⟨b,o,vs,hp,hr.len,hh,hk⟩
theorem Row.nil (h:Zb) (size:Nat):Row h ⟨none,0,0⟩ size []:=⟨by simp,Nat.le_refl _,by decide,.inl rfl⟩
theorem Row.slc {h:Zb} {s:Sl} {vs:List Value} (hr:Row h s 1 vs) {lo hi mx:Int} {a b m:Nat} (ea:lo=a) (eb:hi=b) (em:mx=m) (h1:a≤b) (h2:b≤s.len) (h2':b≤m) (h3:m≤s.cap) {K:Sl→Prop}
    (hk:∀ s',Row h s' 1 ((vs.drop a).take (b - a))→s'.len=b - a→s'.cap=m - a→(∀ k,s'.blk=some k→s.blk=some k)→K s'):Fw.slc s.ptr s.cap 1 lo hi mx K:=by
  subst ea eb em
  refine ⟨by omega,by omega,by omega,by omega,?_⟩
  have hl:=hr.len
  refine hk _ ⟨?_,?_,?_,?_⟩ ?_ ?_ ?_
  ·simp;omega
  ·simp;omega
  ·have:=hr.big;simp;omega
  ·simp only [Int.toNat_natCast]
   rcases Nat.eq_zero_or_pos (b - a) with h0 | h0
   ·exact .inl h0
   ·right
    rcases hr.at_ with h9 | ⟨bb,o,hp,hh⟩
    ·omega
    ·refine ⟨bb,o+a,?_,Zsi hh a (b - a)⟩
     unfold Zef
     rw [if_neg (by omega),hp]
     simp only [Option.map_some,Nat.mul_one]
     unfold Addr.add
     split
     ·rename_i h;subst h;rfl
     ·rfl
  ·simp
  ·simp
  ·intro k
   unfold Sl.blk Zef
   split
   ·exact id
   ·cases s.ptr with
    | none=>simp
    | some x=>simp [Addr.add];split<;>exact id
structure Own (h:Zb) (base:Nat) (s:Sl) (size:Nat) (vs:List Value):Prop where
  len:vs.length=s.len*size
  cap:s.len≤s.cap
  big:s.cap<9223372036854775808
  at_:(s.ptr=none∧s.cap=0)∨∃ b c e,s.ptr=some ⟨b,0,none⟩∧base≤b∧h[b]?=some (.cells c e (0,0))∧c.size=s.cap*size∧vs=c.toList.take (s.len*size)
theorem Own.row {h:Zb} {base:Nat} {s:Sl} {size:Nat} {vs:List Value} (ho:Own h base s size vs):Row h s size vs:=by
  refine ⟨ho.len,ho.cap,ho.big,?_⟩
  rcases ho.at_ with ⟨_,h0⟩ | ⟨b,c,e,hp,_,hb,hc,hv⟩
  ·exact .inl (by have:=ho.cap;omega)
  ·right
   refine ⟨b,0,hp,ZaD hb fun i v hi=>?_⟩
   rw [hv,List.getElem?_take] at hi
   split at hi
   ·simpa using hi
   ·cases hi
theorem Own.nil (h:Zb) (base size:Nat):Own h base ⟨none,0,0⟩ size []:=⟨by simp,Nat.le_refl _,by decide,.inl ⟨rfl,rfl⟩⟩
theorem Own.congr {h h':Zb} {base:Nat} {s:Sl} {size:Nat} {vs:List Value} (ho:Own h base s size vs) (he:∀ b,s.blk=some b→b<h.size→base≤b→h'[b]?=h[b]?):Own h' base s size vs:=by
  refine ⟨ho.len,ho.cap,ho.big,?_⟩
  rcases ho.at_ with h0 | ⟨b,c,e,hp,hb,hc,hr⟩
  ·exact .inl h0
  ·refine .inr ⟨b,c,e,hp,hb,?_,hr⟩
   rw [he b (by simp [Sl.blk,hp]) ?_ hb]
   ·exact hc
   ·rcases Nat.lt_or_ge b h.size with hl | hl
    ·exact hl
    ·rw [Array.getElem?_eq_none hl] at hc;cases hc
theorem Own.base {h:Zb} {base base':Nat} {s:Sl} {size:Nat} {vs:List Value} (ho:Own h base s size vs) (hb:base'≤base):Own h base' s size vs:=by
  refine ⟨ho.len,ho.cap,ho.big,?_⟩
  rcases ho.at_ with h0 | ⟨b,c,e,hp,hb',hr⟩
  ·exact .inl h0
  ·exact .inr ⟨b,c,e,hp,by omega,hr⟩
theorem Own.lt {h:Zb} {base:Nat} {s:Sl} {size:Nat} {vs:List Value} (ho:Own h base s size vs) {b:Nat} (hb:s.blk=some b):base≤b∧b<h.size:=by
  rcases ho.at_ with ⟨hp,_⟩ | ⟨b',c,e,hp,hb',hr,_⟩
  ·simp [Sl.blk,hp] at hb
  ·simp [Sl.blk,hp] at hb
   subst hb
   refine ⟨hb',?_⟩
   rcases Nat.lt_or_ge b' h.size with hl | hl
   ·exact hl
   ·rw [Array.getElem?_eq_none hl] at hr;cases hr
theorem ZeO (zs:List Value) (n:Nat):(ZaJ zs n).length=n*zs.length:=by simp [ZaJ]
theorem Own.app {h:Zb} {base:Nat} {s:Sl} {size bytes n:Nat} {vs new zs:List Value} {elem:TypeId} {K:Sl→Zb→Prop}
    (ho:Own h base s size vs) (hnew:new.length=n*size) (hone:new.all Zv=true) (hz:zs.length=size) (hb:(s.len+n)*bytes≤140737488355328) (hl:s.len+n≤140737488355328) (hbase:base≤h.size)
    (hk:∀ s' h',Own h' base s' size (vs++new)→s'.len=s.len+n→Upd (fun k=>s.blk=some k) h h'→(s'.blk=s.blk∨s'.blk=some h.size)→K s' h') :
    Fw.app elem size bytes zs s n new h K:=by
  have hlen:=ho.len
  have hcap:=ho.cap
  refine ⟨fun hroom=>?_,fun hgt=>⟨hb,hl,ho.row.rd fun cap h1 h2=>?_⟩⟩
  ·rcases ho.at_ with ⟨hp,h0⟩ | ⟨b,c,e,hp,hbb,hblk,hc,hv⟩
   ·left
    have hn:n=0:=by omega
    have hnil:new=[]:=List.eq_nil_of_length_eq_zero (by rw [hnew,hn,Nat.zero_mul])
    refine ⟨hnil,hk _ _ ?_ rfl (Upd.refl _ _) (.inl rfl)⟩
    refine ⟨by simp [hnil,hn,hlen],hroom,ho.big,.inl ⟨hp,h0⟩⟩
   ·right
    have hle:s.len*size+new.length≤c.size:=by
      rw [hc,hnew,← Nat.add_mul];exact Nat.mul_le_mul_right _ hroom
    refine ⟨b,0,hp,Zfe hblk (by simpa using hle),hone,?_⟩
    obtain ⟨c',hc',hl'⟩:=Ze9 (vs:=new) (o:=0+s.len*size) hblk (by simpa using hle)
    refine hk _ _ ⟨?_,hroom,ho.big,.inr ⟨b,c',e,hp,hbb,hc',?_,?_⟩⟩ rfl ((Upd.puts h b _ new).mono fun k _ hk=>by subst hk;simp [Sl.blk,hp]) (.inl rfl)
    ·simp [hlen,hnew,Nat.add_mul]
    ·rw [← hc,← Array.length_toList,hl']
     simp
     omega
    ·rw [hl']
     simp only [Nat.zero_add]
     rw [Nat.add_mul,← hnew,List.take_append_of_le_length (by simp;omega),List.take_of_length_le (by simp;omega),hv]
  ·refine hk _ _ ⟨by simp [hlen,hnew,Nat.add_mul],h1,h2,.inr ⟨h.size,_,elem,rfl,hbase,Zeg,?_,?_⟩⟩ rfl ((Ext.push h _).upd _) (.inr rfl)
   ·simp only [List.size_toArray,List.length_append,ZeO,hz,hlen,hnew]
    rw [← Nat.add_mul,← Nat.add_mul]
    congr 1
    omega
   ·simp only []
    rw [List.take_append_of_le_length (by simp [hlen,hnew,Nat.add_mul]),List.take_of_length_le (by simp [hlen,hnew,Nat.add_mul])]
theorem Own.newC {h:Zb} {cells:List Value} {t:TypeId} {size n:Nat} (hl:cells.length=n*size) (hn:n<9223372036854775808) :
    Own (h.push (.cells cells.toArray t)) h.size ⟨some ⟨h.size,0,none⟩,n,n⟩ size cells :=
  ⟨hl,Nat.le_refl _,hn,.inr ⟨h.size,_,t,rfl,Nat.le_refl _,Zeg,by simp [hl],by simp;rw [List.take_of_length_le (by omega)]⟩⟩
structure Xj (h:Zb) (base:Nat) (s:Sl) (ll:List (List UInt8)):Prop where
  rows:∃ ss:List Sl,Own h base s 1 (ss.map slV)∧ss.length=ll.length ∧
    (∀ (i:Nat) (x:Sl) (l:List UInt8),ss[i]?=some x→ll[i]?=some l→Own h base x 1 (l.map bv)) ∧
    (∀ (i:Nat) (x:Sl) (k:Nat),ss[i]?=some x→x.blk=some k→s.blk≠some k) ∧
    (∀ (i j:Nat) (x y:Sl) (k:Nat),ss[i]?=some x→ss[j]?=some y→x.blk=some k→y.blk=some k→i=j)
theorem Xj.nil (h:Zb) (base:Nat):Xj h base ⟨none,0,0⟩ [] :=
  ⟨[],Own.nil h base 1,rfl,by simp,by simp,by simp⟩
theorem Xj.len {h:Zb} {base:Nat} {s:Sl} {ll:List (List UInt8)} (ho:Xj h base s ll):s.len=ll.length:=by
  obtain ⟨ss,h1,h2,_⟩:=ho.rows
  have:=h1.len
  simp at this
  omega
theorem Xj.congr {h h':Zb} {base:Nat} {s:Sl} {ll:List (List UInt8)} (ho:Xj h base s ll) (he:∀ b,b<h.size→base≤b→h'[b]?=h[b]?):Xj h' base s ll:=by
  obtain ⟨ss,h1,h2,h3,h4,h5⟩:=ho.rows
  exact ⟨ss,h1.congr fun b _ hl hb=>he b hl hb,h2,fun i x l hx hl=>(h3 i x l hx hl).congr fun b _ hl hb=>he b hl hb,h4,h5⟩
theorem Xj.snoc {h h1 h':Zb} {base:Nat} {s s' x:Sl} {ll:List (List UInt8)} {l:List UInt8} (ho:Xj h base s ll) (hext:Ext h h1) (hx:Own h1 h.size x 1 (l.map bv)) (hbase:base≤h.size)
    (hs:∀ vs,Own h base s 1 vs→Own h1 base s 1 vs→Own h' base s' 1 (vs++[slV x])) (hu:Upd (fun k=>s.blk=some k) h1 h') (hblk:s'.blk=s.blk∨s'.blk=some h1.size):Xj h' base s' (ll++[l]):=by
  obtain ⟨ss,g1,g2,g3,g4,g5⟩:=ho.rows
  have g1':=g1.congr (h':=h1) fun b _ hl _=>hext.old b hl
  have hxlt:∀ k,x.blk=some k→h.size≤k∧k<h1.size:=fun k hk=>hx.lt hk
  refine ⟨ss++[x],by rw [List.map_append];exact hs _ g1 g1',by simp [g2],?_,?_,?_⟩
  ·intro i y m hy hm
   rcases Nat.lt_or_ge i ss.length with hi | hi
   ·rw [List.getElem?_append_left hi] at hy
    rw [List.getElem?_append_left (by omega)] at hm
    refine ((g3 i y m hy hm).congr (h':=h1) fun b _ hl _=>hext.old b hl).congr fun b hb hl _=>hu.old b hl ?_
    exact g4 i y b hy hb
   ·rw [List.getElem?_append_right hi] at hy
    rw [List.getElem?_append_right (by omega)] at hm
    have hi0:i - ss.length=0:=by
      rcases Nat.eq_zero_or_pos (i - ss.length) with h | h
      ·exact h
      ·rw [List.getElem?_eq_none (by simp;omega)] at hy;cases hy
    rw [hi0] at hy
    rw [← g2,hi0] at hm
    simp at hy hm
    subst hy hm
    refine (hx.base hbase).congr fun b hb hl _=>hu.old b hl fun hsb=>?_
    have:=(g1.lt hsb).2
    have:=(hxlt b hb).1
    omega
  ·intro i y k hy hk
   rcases Nat.lt_or_ge i ss.length with hi | hi
   ·rw [List.getElem?_append_left hi] at hy
    rcases hblk with h | h
    ·rw [h];exact g4 i y k hy hk
    ·rw [h]
     intro he
     cases he
     have hlt:i<ll.length:=by omega
     have:=((g3 i y _ hy (List.getElem?_eq_getElem hlt)).lt hk).2
     have:=hext.size
     omega
   ·rw [List.getElem?_append_right hi] at hy
    have hi0:i - ss.length=0:=by
      rcases Nat.eq_zero_or_pos (i - ss.length) with h | h
      ·exact h
      ·rw [List.getElem?_eq_none (by simp;omega)] at hy;cases hy
    rw [hi0] at hy
    simp at hy
    subst hy
    have:=hxlt k hk
    rcases hblk with h | h
    ·rw [h];intro he;have:=(g1.lt he).2;omega
    ·rw [h];intro he;cases he;omega
  ·have last:∀ i y,(ss++[x])[i]?=some y→ss.length≤i→i=ss.length∧y=x:=by
     intro i y hy hi
     rw [List.getElem?_append_right hi] at hy
     have hi0:i - ss.length=0:=by
       rcases Nat.eq_zero_or_pos (i - ss.length) with h | h
       ·exact h
       ·rw [List.getElem?_eq_none (by simp;omega)] at hy;cases hy
     rw [hi0] at hy
     simp at hy
     exact ⟨by omega,hy.symm⟩
   have old:∀ i y k,(ss++[x])[i]?=some y→i<ss.length→y.blk=some k→k<h.size:=by
     intro i y k hy hi hk
     rw [List.getElem?_append_left hi] at hy
     have hlt:i<ll.length:=by omega
     exact ((g3 i y _ hy (List.getElem?_eq_getElem hlt)).lt hk).2
   intro i j y z k hy hz hk hk'
   rcases Nat.lt_or_ge i ss.length with hi | hi
   ·rcases Nat.lt_or_ge j ss.length with hj | hj
    ·rw [List.getElem?_append_left hi] at hy
     rw [List.getElem?_append_left hj] at hz
     exact g5 i j y z k hy hz hk hk'
    ·obtain ⟨_,rfl⟩:=last j z hz hj
     have:=old i y k hy hi hk
     have:=hxlt k hk'
     omega
   ·rcases Nat.lt_or_ge j ss.length with hj | hj
    ·obtain ⟨_,rfl⟩:=last i y hy hi
     have:=old j z k hz hj hk'
     have:=hxlt k hk
     omega
    ·have h1:=(last i y hy hi).1
     have h2:=(last j z hz hj).1
     omega
theorem Xj.idx {h:Zb} {base:Nat} {s:Sl} {ll:List (List UInt8)} (ho:Xj h base s ll) {i:Int} {n:Nat} (hi:i=n) {l:List UInt8} (hl:ll[n]?=some l) {K:Sl→Prop} (hk:∀ x,Bytes h x l→K x) :
    Zap s.ptr s.len i 1 fun b o=>ldL h b o K:=by
  obtain ⟨ss,h1,h2,h3,_,_⟩:=ho.rows
  have hlt:n<ss.length:=by
    rw [h2]
    rcases Nat.lt_or_ge n ll.length with h | h
    ·exact h
    ·rw [List.getElem?_eq_none h] at hl;cases hl
  have hx:ss[n]?=some ss[n]:=List.getElem?_eq_getElem hlt
  refine Row.idx h1.row hi (v:=slV ss[n]) (by simp [hx]) fun b o _ hc=>⟨ss[n],hc,hk _ (h3 n _ l hx hl).row⟩
theorem Zpq (s:ByteArray):ZaF s s=true:=by unfold ZaF;simp
theorem ZsS {h:Zb} {s:Sl} {l:List UInt8} (hb:Bytes h s l) {K:ByteArray→Prop} (hk:K ⟨l.toArray⟩):b2s s h K:=by
  rcases hb.at_ with h0 | ⟨b,o,hp,hh⟩
  ·left
   refine ⟨h0,?_⟩
   have:l=[]:=List.eq_nil_of_length_eq_zero (by have:=hb.length;omega)
   subst this
   exact hk
  ·right
   refine ⟨b,o,⟨l.toArray⟩,hp,?_,?_,hk⟩
   ·have:=hb.length;rw [this];rfl
   ·have:Zbx ⟨l.toArray⟩=l.map bv:=by unfold Zbx bv;simp
    rw [this];exact hh
end Go.Fw
namespace Go.Proofs.YtbppjmcinoffnaaGreat
open Go Go.Fw
def YM (m:Option Nat) (K:Value→Zb→Prop) (h:Zb):Prop :=
  newC h [Value.map m] 125 fun b h'=>K (.func (.func 109) #[] #[.pointer (some ⟨b,0,none⟩)]) h'
def Zo9 (h:Zb) (m:Nat) (l:List Int):Prop :=
  ∃ es clk,h[m]?=some (.map es clk)∧MapKept.Stamped es clk∧es.toList.map (·.key)=l.map (Value.int .i64)∧l.Pairwise (· < ·)∧∀ x,x∈l→ -9223372036854775808≤x∧x<9223372036854775808
def Zck (x:Value) (K:Sl→Zb→Prop) (h:Zb):Prop :=
  ∃ b m l,x = .func (.func 109) #[] #[.pointer (some ⟨b,0,none⟩)]∧h.cell b 0=some (.map (some m))∧Zo9 h m l∧l.length*8≤140737488355328 ∧
    ∀ s h',Own h' h.size s 1 (l.map (Value.int .i64))→Ext h h'→K s h'
end Go.Proofs.YtbppjmcinoffnaaGreat
