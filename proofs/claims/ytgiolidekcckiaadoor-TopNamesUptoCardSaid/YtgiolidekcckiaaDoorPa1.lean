/- The words in which the functions' models are written: memory as an array of blocks, and what one step of a function asks of it and leaves. Plain definitions, no program. -/
import GoSem.Core.World
import GoSem.Core.View
import GoSem.Core.Lib
import GoSem.Instr.Lookup
import Derived.MapKept
import Derived.Laws.IdiomRangeMap
import Derived.Test.YtgiolidekcckiaaDoorProg
import Derived.Shelf.Unicode.DecodeSlow
import Derived.Lib.Bytealg
import Derived.Lib.RuneCount
import Derived.Lib.ItoaNum
import Derived.Lib.AtoiAll
import Derived.Lib.ValidU
import Derived.Lib.LaidTab
import Derived.Lib.Case
import Derived.Lib.IndexMore
import Derived.Lib.TrimByte
import Derived.Lib.Repeat
import GoSem.Machine.Frame
import GoSem.Op.String
set_option linter.unusedVariables false
set_option linter.unusedSimpArgs false
namespace Go.Fw
open Go
abbrev Zb:=Array Obj
abbrev HP:=Zb→Prop
def Zb.cell (h:Zb) (b o:Nat):Option Value :=
  match h[b]? with
  | some (.cells c _ _)=>c[o]?
  | _=>none
def Zb.froz (h:Zb) (b o:Nat):Bool :=
  match h[b]? with
  | some (.cells _ _ (lo,hi))=>decide (lo≤o)&&decide (o<hi)
  | _=>false
def Zb.put (h:Zb) (b o:Nat) (v:Value):Zb :=
  h.modify b fun
    | .cells c e f=> .cells (c.setIfInBounds o v) e f
    | x=>x
def Zb.puts (h:Zb) (b:Nat):Nat→List Value→Zb
  | _,[]=>h
  | o,v::vs=>(h.put b o v).puts b (o+1) vs
def Zb.has (h:Zb) (b:Nat):Nat→List Value→Prop
  | _,[]=>True
  | o,v::vs=>h.cell b o=some v∧h.has b (o+1) vs
def Zb.free (h:Zb) (b:Nat):Nat→Nat→Prop
  | _,0=>True
  | o,n+1=>((∃ u,h.cell b o=some u)∧h.froz b o=false)∧h.free b (o+1) n
structure Sl where
  ptr:Option Addr
  len:Nat
  cap:Nat
def ZW:Value→Bool
  | .agg _ | .tuple _=>false
  | _=>true
def ZE (b:Bool) (A B:Prop):Prop:=(b=true→A)∧(b=false→B)
def ZJ (n:Int) (K:Int→Prop):Prop:=K n
def ZP (b:Bool) (K:Bool→Prop):Prop:=K b
def ldI (h:Zb) (b o:Nat) (k:IntKind) (K:Int→Prop):Prop:=∃ n,h.cell b o=some (.int k n)∧K n
def ldB (h:Zb) (b o:Nat) (K:Bool→Prop):Prop:=∃ x,h.cell b o=some (.bool x)∧K x
def ldS (h:Zb) (b o:Nat) (K:ByteArray→Prop):Prop:=∃ x,h.cell b o=some (.string x)∧K x
def ldP (h:Zb) (b o:Nat) (K:Option Addr→Prop):Prop:=∃ x,h.cell b o=some (.pointer x)∧K x
def ldL (h:Zb) (b o:Nat) (K:Sl→Prop):Prop:=∃ x:Sl,h.cell b o=some (.slice x.ptr x.len x.cap)∧K x
def ldM (h:Zb) (b o:Nat) (K:Option Nat→Prop):Prop:=∃ x,h.cell b o=some (.map x)∧K x
def ldV (h:Zb) (b o:Nat) (K:Value→Prop):Prop:=∃ x,h.cell b o=some x∧K x
def Zd (p:Option Addr) (K:Nat→Nat→Prop):Prop:=∃ b o,p=some ⟨b,o,none⟩∧K b o
def st (h:Zb) (b o:Nat) (v:Value) (K:Zb→Prop):Prop :=
  (∃ u,h.cell b o=some u)∧h.froz b o=false∧ZW v=true∧K (h.put b o v)
def sts (h:Zb) (b o:Nat) (vs:List Value) (K:Zb→Prop):Prop :=
  h.free b o vs.length∧vs.all ZW=true∧K (h.puts b o vs)
def Zh0 (p:Option Addr) (l:Nat) (i:Int) (size:Nat) (K:Nat→Nat→Prop):Prop :=
  ∃ b o,p=some ⟨b,o,none⟩∧0≤i∧i<l∧K b (o+i.toNat*size)
def ZrD (l:Nat) (i:Int) (K:Nat→Prop):Prop:=0≤i∧i<l∧K i.toNat
def ZkA (s:ByteArray) (i:Int) (K:Int→Prop):Prop:=∃ x,0≤i∧s[i.toNat]?=some x∧K (UInt8.toNat x)
def Zbs (p:Prop) (K:Prop):Prop:=p∧K
def Zn0 (p:Option Addr) (l m size:Nat):Option Addr:=if m=l then p else p.map (·.add (l*size))
def slc (p:Option Addr) (cap size:Nat) (lo hi mx:Int) (K:Sl→Prop):Prop :=
  0≤lo∧lo≤hi∧hi≤mx∧mx≤cap∧K ⟨Zn0 p lo.toNat mx.toNat size,hi.toNat - lo.toNat,mx.toNat - lo.toNat⟩
def ZmC (s:ByteArray) (lo hi:Int) (K:ByteArray→Prop):Prop :=
  0≤lo∧lo≤hi∧hi≤s.size∧K (s.extract lo.toNat hi.toNat)
def Zmo (k:IntKind) (x y:Int):Int:=k.wrap (x*2 ^ (min y.toNat k.bits))
def ZjW (k:IntKind) (x y:Int):Int:=x.fdiv (2 ^ (min y.toNat k.bits))
def ZjN (k:IntKind) (x y:Int):Int:=k.wrap (BitVec.toNat (BitVec.ofInt k.bits x &&& BitVec.ofInt k.bits y))
def orV (k:IntKind) (x y:Int):Int:=k.wrap (BitVec.toNat (BitVec.ofInt k.bits x ||| BitVec.ofInt k.bits y))
def ZtT (k:IntKind) (x y:Int):Int:=k.wrap (BitVec.toNat (BitVec.ofInt k.bits x ^^^ BitVec.ofInt k.bits y))
def Zrp (k:IntKind) (x y:Int):Int:=k.wrap (BitVec.toNat (BitVec.ofInt k.bits x &&& ~~~ BitVec.ofInt k.bits y))
def Za9 (x y:ByteArray):Bool:=x.toList ==y.toList
def Zri (x y:Int):Int:=if y<x then y else x
def Zoh (x y:Int):Int:=if y>x then y else x
def Zp5 (x y:ByteArray) (K:ByteArray→Prop):Prop:=x.size+y.size≤9223372036854775807∧K (x++y)
def YP (s:ByteArray):List Value:=s.data.toList.map fun b=>Value.int .u8 b.toNat
def rdS (x:Sl) (size:Nat) (h:Zb) (K:List Value→Prop):Prop :=
  (x.len=0∧K [])∨∃ b o l,x.ptr=some ⟨b,o,none⟩∧l.length=x.len*size∧h.has b o l∧K l
def YQ (zs:List Value) (n:Nat):List Value:=(List.replicate n zs).flatten
def app (elem:TypeId) (size bytes:Nat) (zs:List Value) (s:Sl) (n:Nat) (new:List Value) (h:Zb) (K:Sl→Zb→Prop):Prop :=
  (s.len+n≤s.cap →
    (new=[]∧K ⟨s.ptr,s.len+n,s.cap⟩ h) ∨
    (∃ b o,s.ptr=some ⟨b,o,none⟩∧h.free b (o+s.len*size) new.length∧new.all ZW=true∧K ⟨s.ptr,s.len+n,s.cap⟩ (h.puts b (o+s.len*size) new))) ∧
  (s.cap<s.len+n→(s.len+n)*bytes≤140737488355328∧s.len+n≤140737488355328∧rdS s size h fun old =>
    ∀ cap,s.len+n≤cap→cap<9223372036854775808 →
      K ⟨some ⟨h.size,0,none⟩,s.len+n,cap⟩ (h.push (.cells (old++new++YQ zs (cap - (s.len+n))).toArray elem)))
def mkS (elem:TypeId) (bytes:Nat) (zs:List Value) (l c:Int) (h:Zb) (K:Sl→Zb→Prop):Prop :=
  0≤l∧l≤c∧c*bytes≤281474976710656∧c≤281474976710656 ∧
   K ⟨some ⟨h.size,0,none⟩,l.toNat,c.toNat⟩ (h.push (.cells (YQ zs c.toNat).toArray elem))
def b2s (x:Sl) (h:Zb) (K:ByteArray→Prop):Prop :=
  (x.len=0∧K ByteArray.empty)∨∃ b o s,x.ptr=some ⟨b,o,none⟩∧s.size=x.len∧h.has b o (YP s)∧K s
def s2b (elem:TypeId) (s:ByteArray) (h:Zb) (K:Sl→Zb→Prop):Prop :=
  s.size<9223372036854775808∧∀ cap,s.size≤cap→cap<9223372036854775808 →
    K ⟨some ⟨h.size,0,none⟩,s.size,cap⟩ (h.push (.cells (YP s++List.replicate (cap - s.size) (Value.int .u8 0)).toArray elem (cap,cap+1)))
def Zb.frz (h:Zb) (b:Nat):Zb :=
  h.modify b fun
    | .cells c e _=> .cells c e (c.size,c.size+1)
    | x=>x
def Zrj (p:Option Addr) (h:Zb) (K:Zb→Prop):Prop :=
  ∃ b o c e,p=some ⟨b,o,none⟩∧h[b]?=some (.cells c e (0,0))∧K (h.frz b)
def newC (h:Zb) (cells:List Value) (t:TypeId) (K:Nat→Zb→Prop):Prop:=K h.size (h.push (.cells cells.toArray t))
def ZnF (d:TypeDesc) (h:Zb) (m:Option Nat) (key:Value) (K:Option Value→Prop):Prop :=
  (m=none→K none)∧∀ b,m=some b→∃ es c r,h[b]?=some (.map es c)∧Instr.findNow d key es.toList 0=some r∧K (r.map (·.2))
def YB:List TypeDesc→List Value→Prop
  | [],[]=>True
  | d::ds,v::vs=>MapKept.IsKey d v∧YB ds vs
  | _,_=>False
def Zer (ds:List TypeDesc) (v:Value):Prop:=∃ cs:List Value,v = .agg cs.toArray∧YB ds cs
def ZcU:Value→Value→Bool
  | .int _ a,.int _ b=>a ==b
  | .string a,.string b=>Za9 a b
  | .bool a,.bool b=>a ==b
  | _,_=>false
def ZaQ:List Value→List Value→Bool
  | [],[]=>true
  | v::vs,w::ws=>bif ZcU v w then ZaQ vs ws else false
  | _,_=>false
def Zkx (k:List Value):Value→Bool
  | .agg cs=>ZaQ k cs.toList
  | _=>false
def Zfe (k:List Value):List MapEntry→Nat→Option (Nat × Value)
  | [],_=>none
  | e::es,i=>bif Zkx k e.key then some (i,e.val) else Zfe k es (i+1)
def ZiK (ds:List TypeDesc) (h:Zb) (m:Option Nat) (key:List Value) (K:Option Value→Prop):Prop :=
  (m=none→K none)∧∀ b,m=some b→∃ es c,h[b]?=some (.map es c)∧(∀ x,x∈es.toList→Zer ds x.key)∧K ((Zfe key es.toList 0).map (·.2))
def ZhZ (v:Value) (K:Bool→Prop):Prop:=(v = .nilIface∧K true)∨∃ t u,v = .iface t u∧K false
def ZlF (v:Value) (K:Bool→Prop):Prop:=(v = .nilFunc∧K true)∨∃ f a b,v = .func f a b∧K false
def asI (v:Value) (k:IntKind) (K:Int→Prop):Prop:=∃ n,v = .int k n∧K n
def asB (v:Value) (K:Bool→Prop):Prop:=∃ x,v = .bool x∧K x
def asS (v:Value) (K:ByteArray→Prop):Prop:=∃ x,v = .string x∧K x
def asP (v:Value) (K:Option Addr→Prop):Prop:=∃ x,v = .pointer x∧K x
def asL (v:Value) (K:Sl→Prop):Prop:=∃ x:Sl,v = .slice x.ptr x.len x.cap∧K x
def asM (v:Value) (K:Option Nat→Prop):Prop:=∃ x,v = .map x∧K x
def asT (v:Value) (t:TypeId) (K:Value→Prop):Prop:=∃ x,v = .iface t x∧K x
def ZpK (h:Zb) (K:Nat→Zb→Prop):Prop:=K h.size (h.push (.map #[] 0))
def Zqi (es:Array MapEntry) (c:Nat) (key v:Value):Option (Nat × Value)→Obj
  | some (i,_)=> .map (es.modify i fun e=>{ e with key:=key,val:=v }) c
  | none=> .map (es.push { key:=key,val:=v,born:=c }) (c+1)
def ZnE (d:TypeDesc) (h:Zb) (m:Option Nat) (key v:Value) (K:Zb→Prop):Prop :=
  ∃ b es c r,m=some b∧h[b]?=some (.map es c)∧(∀ x,x∈es.toList→MapKept.IsKey d x.key)∧Instr.findNow d key es.toList 0=some r∧K (h.setIfInBounds b (Zqi es c key v r))
def ZiI (ds:List TypeDesc) (h:Zb) (m:Option Nat) (key:List Value) (v:Value) (K:Zb→Prop):Prop :=
  ∃ b es c,m=some b∧h[b]?=some (.map es c)∧(∀ x,x∈es.toList→Zer ds x.key)∧K (h.setIfInBounds b (Zqi es c (.agg key.toArray) v (Zfe key es.toList 0)))
def ZrF (es:Array MapEntry) (c:Nat):Option (Nat × Value)→Obj
  | some (i,_)=> .map (es.eraseIdxIfInBounds i) c
  | none=> .map es c
def ZnG (d:TypeDesc) (h:Zb) (m:Option Nat) (key:Value) (K:Zb→Prop):Prop :=
  (m=none→K h)∧∀ b,m=some b→∃ es c r,h[b]?=some (.map es c)∧Instr.findNow d key es.toList 0=some r∧K (h.setIfInBounds b (ZrF es c r))
def ZrH (h:Zb) (m:Option Nat) (K:Zb→Prop):Prop :=
  (m=none→K h)∧∀ b,m=some b→∃ es c,h[b]?=some (.map es c)∧K (h.setIfInBounds b (.map #[] c))
def ZrG (s:Sl) (zs:List Value) (h:Zb) (K:Zb→Prop):Prop :=
  (s.ptr=none∧K h)∨(s.len=0∧K h) ∨
  ∃ b o,s.ptr=some ⟨b,o,none⟩∧h.free b o (YQ zs s.len).length∧(YQ zs s.len).all ZW=true∧K (h.puts b o (YQ zs s.len))
def rgM (h:Zb) (m:Option Nat) (K:Nat→Zb→Prop):Prop :=
  (m=none→K h.size (h.push (.mapIter none 0 #[] 0)))∧∀ b,m=some b→∃ es c,h[b]?=some (.map es c)∧K h.size (h.push (.mapIter (some b) c #[] c))
def Zrf (h:Zb) (r:Nat) (T:Value→Value→Zb→Prop) (F:Prop):Prop :=
  (∃ s seen c,h[r]?=some (.mapIter none s seen c)∧F) ∨
  ∃ bm since seen c0 es clock,h[r]?=some (.mapIter (some bm) since seen c0)∧h[bm]?=some (.map es clock)∧(∀ x,x∈es.toList→x.born<since)∧since≤c0 ∧
    ((leftOf es seen).size=0→F)∧∀ e,e∈(leftOf es seen).toList→T e.key e.val (h.setIfInBounds r (.mapIter (some bm) since (seen.push e.born) clock))
def ZtZ (h:Zb) (r:Nat) (K:Value→Value→Prop):Prop :=
  ∃ (bm since:Nat) (seen:Array Nat) (es:Array MapEntry) (clock:Nat) (e:MapEntry),h[r]?=some (.mapIter (some bm) since (seen.push e.born) clock)∧h[bm]?=some (.map es clock)∧e∈es.toList∧(es.toList.map (·.born)).Nodup∧K e.key e.val
def ZrC (v:Value) (f:Nat) (P:Prop):Prop:=v = .func (.func f) #[] #[]∧P
def exG {ρ:Type} (v:Value) (mk:ρ→Value) (K:ρ→Prop):Prop:=∃ r,v=mk r∧K r
def ZtW (h:Zb) (m:Option Nat) (K:Int→Prop):Prop :=
  (m=none→K 0)∧∀ b,m=some b→∃ es c,h[b]?=some (.map es c)∧K (es.size:Int)
def Zp3 (x:Value) (h:Zb) (K:Value→Zb→Prop):Prop :=
  ∃ t b es c,x = .iface t (.map (some b))∧h[b]?=some (.map es c)∧K (.iface t (.map (some h.size))) (h.push (.map es c))
def Zj6 {ρ:Type} (m:(ρ→Zb→Prop)→Zb→Prop) (h:Zb) (K:ρ→Prop):Prop :=
  ∃ r,m (fun r' h'=>r'=r∧h'=h) h∧K r
def Zdd (h:Zb):List (Nat × Nat × Value)→Prop
  | []=>True
  | (b,o,v)::r=>h.cell b o=some v∧Zdd h r
def Zkw (A B:Prop):Prop:=A∧B
def Zef (r:Loop) (st:LoopState) (p:Option Code):Obj:= .loop { r with state:=st,pending:=p }
def Zkk (h:Zb) (l:Nat) (r:Loop) (st:LoopState) (p:Option Code) (K:Prop):Prop:=h[l]?=some (Zef r st p)∧K
def Znv (h:Zb) (l:Nat) (o:Obj):Zb:=h.setIfInBounds l o
abbrev Yld:=Nat→List Value→(Bool→Zb→Prop)→Zb→Prop
def Znq (r:Loop) (l:Nat) (n:Nat) (body:List Value→Zb→(Option Code→Zb→Prop)→Prop):Yld:=fun l' vs k h =>
  l'=l∧vs.length=n∧Zkk h l r .ready none (
    body vs h fun p h'=>Zkk h' l r .busy none (k p.isNone (Znv h' l (Zef r (if p.isNone then .ready else .done) p))))
def Zp7 (r:Loop) (l:Nat) (h:Zb) (K:Zb→Prop):Prop:=Zkk h l r .ready none (K (Znv h l (Zef r .busy none)))
def ZpF (n:Nat) (it:Yld→Nat→(Zb→Prop)→Zb→Prop) (body:Nat→Loop→List Value→Zb→(Option Code→Zb→Prop)→Prop) (h:Zb) (K:Option Code→Nat→Zb→Prop):Prop :=
  ∀ r:Loop,it (Znq r (h.size+1) n (body (h.size+1) r)) (h.size+1)
    (fun h'=>∃ st p,st≠ .busy∧Zkk h' (h.size+1) r st p (K p h.size (Znv h' (h.size+1) (Zef r .exhausted p)))) ((h.push (.deferred (some []))).push (Zef r .ready none))
def ZpV (p:Option Code) (N:Prop) (X:Nat→Prop) (R:Prop):Prop:=match p with
  | none=>N
  | some (.exit id)=>X id
  | some .ret=>R
  | _=>False
def Zp8 {ρ:Type} (mk:ρ→List Value) (vs:List Value) (K:ρ→Prop):Prop:=∃ r,vs=mk r∧K r
def ZpB (D:Nat) (h:Zb) (K:Zb→Prop):Prop:=h[D]?=some (.deferred (some []))∧K (Znv h D (.deferred none))
def Zb9 {σ:Type} (body:(σ→Zb→Prop)→σ→Zb→Prop) (s:σ) (h:Zb):Prop :=
  ∃ (I:σ→Zb→Prop) (μ:σ→Zb→Nat),I s h∧∀ s h,I s h→body (fun s' h'=>I s' h'∧μ s' h'<μ s h) s h
def ZbZ {σ:Type} (rest:σ→Zb→Prop) (pre:(σ→Zb→Prop)→Prop):Prop :=
  ∃ J:σ→Zb→Prop,(∀ s h,J s h→rest s h)∧pre J
theorem Z2 {σ:Type} {body:(σ→Zb→Prop)→σ→Zb→Prop} {s:σ} {h:Zb} (I:σ→Zb→Prop) (μ:σ→Zb→Nat)
    (h0:I s h) (hr:∀ s h,I s h→body (fun s' h'=>I s' h'∧μ s' h'<μ s h) s h):Zb9 body s h:=⟨I,μ,h0,hr⟩
theorem Zy {σ:Type} {rest:σ→Zb→Prop} {pre:(σ→Zb→Prop)→Prop} (J:σ→Zb→Prop)
    (h1:∀ s h,J s h→rest s h) (h2:pre J):ZbZ rest pre:=⟨J,h1,h2⟩
theorem Zh8 {σ:Type} {rest:σ→Zb→Prop} {pre:(σ→Zb→Prop)→Prop} (h:pre rest):ZbZ rest pre:=⟨rest,fun _ _ h=>h,h⟩
theorem Zbv {A B:Prop} (h:A):ZE true A B:=⟨fun _=>h,fun e=>by cases e⟩
theorem ZaE {A B:Prop} (h:B):ZE false A B:=⟨fun e=>(by cases e),fun _=>h⟩
theorem Zc {n:Int} {K:Int→Prop} (h:K n):ZJ n K:=h
theorem Zf {n:Bool} {K:Bool→Prop} (h:K n):ZP n K:=h
theorem Zp {p:Prop} [Decidable p] {A B:Prop} (h1:p→A) (h2:¬ p→B):ZE (decide p) A B :=
  ⟨fun e=>h1 (of_decide_eq_true e),fun e=>h2 (of_decide_eq_false e)⟩
theorem Zt {b:Bool} {A B:Prop} (e:b=true) (h:A):ZE b A B:=by subst e;exact Zbv h
theorem Zo {b:Bool} {A B:Prop} (e:b=false) (h:B):ZE b A B:=by subst e;exact ZaE h
theorem Y5 {n:Int} (h0 : -9223372036854775808≤n) (h1:n≤9223372036854775807):IntKind.wrap .i64 n=n:=by
  unfold IntKind.wrap
  have hb:(2:Int) ^ IntKind.i64.bits=18446744073709551616:=by decide
  have hb':(2:Int) ^ (IntKind.i64.bits - 1)=9223372036854775808:=by decide
  have hs:IntKind.i64.signed=true:=rfl
  simp only [hb,hb',hs,Bool.true_and]
  rcases Int.lt_or_le n 0 with h | h
  ·have:n % 18446744073709551616=n+18446744073709551616:=by omega
   rw [this,if_pos (by simp;omega)]
   omega
  ·have:n % 18446744073709551616=n:=by omega
   rw [this,if_neg (by simp;omega)]
theorem ZkI {n:Int} (h0:0≤n) (h1:n<256):IntKind.wrap .u8 n=n:=by
  unfold IntKind.wrap
  have hb:(2:Int) ^ IntKind.u8.bits=256:=by decide
  have hs:IntKind.u8.signed=false:=rfl
  simp only [hb,hs,Bool.false_and,Bool.false_eq_true,if_false]
  omega
theorem ZkH (n:Int):IntKind.wrap .u8 n=n % 256:=by
  unfold IntKind.wrap
  have hb:(2:Int) ^ IntKind.u8.bits=256:=by decide
  have hs:IntKind.u8.signed=false:=rfl
  simp only [hb,hs,Bool.false_and,Bool.false_eq_true,if_false]
theorem Zl3 {h:Zb} {b o:Nat} {v:Value} (hc:h.cell b o=some v):b<h.size:=by
  unfold Zb.cell at hc
  rcases Nat.lt_or_ge b h.size with hl | hl
  ·exact hl
  ·rw [Array.getElem?_eq_none hl] at hc;cases hc
theorem Zgq {h h':Zb} {b:Nat} (he:h'[b]?=h[b]?) (o:Nat):h'.cell b o=h.cell b o:=by
  unfold Zb.cell;rw [he]
theorem Zh2 {h h':Zb} {b:Nat} (he:h'[b]?=h[b]?):∀ {l:List Value} {o:Nat},h.has b o l→h'.has b o l
  | [],_,_=>trivial
  | _::_,_,⟨h1,h2⟩=>⟨(Zgq he _).trans h1,Zh2 he h2⟩
theorem Zg8 {h:Zb} {b:Nat}:∀ {l:List Value} {o i:Nat} {v:Value},h.has b o l→l[i]?=some v→h.cell b (o+i)=some v
  | [],_,_,_,_,hv=>by simp at hv
  | x::l,o,0,v,⟨h1,_⟩,hv=>by simp at hv;subst hv;exact h1
  | x::l,o,i+1,v,⟨_,h2⟩,hv=>by
    have:=Zg8 (i:=i) (v:=v) h2 (by simpa using hv)
    rw [show o+(i+1)=o+1+i from by omega];exact this
theorem ZnL {h:Zb} {b:Nat}:∀ {l:List Value} {o:Nat},(∀ i v,l[i]?=some v→h.cell b (o+i)=some v)→h.has b o l
  | [],_,_=>trivial
  | x::l,o,hh=>⟨by have:=hh 0 x (by simp);simpa using this,ZnL fun i v hv=>by have:=hh (i+1) v (by simpa using hv);rw [show o+1+i=o+(i+1) from by omega];exact this⟩
theorem ZpZ {h:Zb} {b o:Nat} {l:List Value} (hh:h.has b o l) (hne:l≠[]):b<h.size:=by
  cases l with
  | nil=>exact absurd rfl hne
  | cons v l=>exact Zl3 hh.1
theorem Zd2 {h:Zb} {b o:Nat} {c:Array Value} {e:TypeId} {f:Nat × Nat} (hb:h[b]?=some (.cells c e f)):h.cell b o=c[o]?:=by
  unfold Zb.cell;rw [hb]
theorem Zbw {h:Zb} {b o:Nat} {c:Array Value} {e:TypeId} {f:Nat × Nat} {l:List Value} (hb:h[b]?=some (.cells c e f)) (hl:∀ i v,l[i]?=some v→c[o+i]?=some v):h.has b o l :=
  ZnL fun i v hv=>by rw [Zd2 hb];exact hl i v hv
theorem ZcK {h:Zb} {b:Nat} {c:Array Value} {e:TypeId} (hb:h[b]?=some (.cells c e (0,0))):∀ {n o:Nat},o+n≤c.size→h.free b o n
  | 0,_,_=>trivial
  | n+1,o,hle=>by
    have hlt:o<c.size:=by omega
    refine ⟨⟨⟨c[o],by rw [Zd2 hb];simp [hlt]⟩,?_⟩,ZcK hb (by omega)⟩
    unfold Zb.froz;rw [hb];simp
theorem ZhL {h:Zb} {b o:Nat} {v:Value} {c:Array Value} {e:TypeId} {f:Nat × Nat} (hb:h[b]?=some (.cells c e f)):(h.put b o v)[b]?=some (.cells (c.setIfInBounds o v) e f):=by
  unfold Zb.put
  rw [Array.getElem?_modify,if_pos rfl,hb]
  rfl
theorem ZhK {h:Zb} {b o k:Nat} {v:Value} (hk:k≠b):(h.put b o v)[k]?=h[k]?:=by
  unfold Zb.put
  rw [Array.getElem?_modify,if_neg (Ne.symm hk)]
theorem Zen {h:Zb} {b o:Nat} {v:Value}:(h.put b o v).size=h.size:=by
  unfold Zb.put;simp
theorem Zdt {h:Zb} {b:Nat}:∀ {vs:List Value} {o:Nat},(h.puts b o vs).size=h.size
  | [],_=>rfl
  | v::vs,o=>by unfold Zb.puts;rw [Zdt,Zen]
theorem ZdS {b k:Nat} (hk:k≠b):∀ {vs:List Value} {h:Zb} {o:Nat},(h.puts b o vs)[k]?=h[k]?
  | [],_,_=>rfl
  | v::vs,h,o=>by unfold Zb.puts;rw [ZdS hk,ZhK hk]
theorem Zf3 {b:Nat} {e:TypeId} {f:Nat × Nat}:∀ {vs:List Value} {h:Zb} {o:Nat} {c:Array Value},h[b]?=some (.cells c e f)→o+vs.length≤c.size →
    ∃ c',(h.puts b o vs)[b]?=some (.cells c' e f)∧c'.toList=c.toList.take o++vs++c.toList.drop (o+vs.length)
  | [],h,o,c,hb,_=>⟨c,hb,by simp⟩
  | v::vs,h,o,c,hb,hle=>by
    simp only [List.length_cons] at hle
    obtain ⟨c',hc',hl⟩:=Zf3 (vs:=vs) (h:=h.put b o v) (o:=o+1) (ZhL hb) (by simp;omega)
    refine ⟨c',hc',?_⟩
    rw [hl]
    have hlt:o<c.toList.length:=by simp;omega
    simp only [Array.toList_setIfInBounds,List.length_cons]
    rw [List.take_succ_eq_append_getElem (by simp;omega),List.take_set_of_le (by omega),List.drop_set_of_lt (by omega)]
    simp
    omega
theorem ZmG {h:Zb} {x:Obj} {k:Nat} (hk:k<h.size):(h.push x)[k]?=h[k]?:=by
  rw [Array.getElem?_push,if_neg (by omega)]
theorem Zdu {h:Zb} {x:Obj}:(h.push x)[h.size]?=some x:=by simp
structure Ext (h h':Zb):Prop where
  size:h.size≤h'.size
  old:∀ k,k<h.size→h'[k]?=h[k]?
theorem Ext.refl (h:Zb):Ext h h:=⟨Nat.le_refl _,fun _ _=>rfl⟩
theorem Ext.trans {a b c:Zb} (h:Ext a b) (h':Ext b c):Ext a c :=
  ⟨Nat.le_trans h.size h'.size,fun k hk=>(h'.old k (Nat.lt_of_lt_of_le hk h.size)).trans (h.old k hk)⟩
theorem Ext.push (h:Zb) (x:Obj):Ext h (h.push x):=⟨by simp,fun _ hk=>ZmG hk⟩
structure Upd (S:Nat→Prop) (h h':Zb):Prop where
  size:h.size≤h'.size
  old:∀ k,k<h.size→¬ S k→h'[k]?=h[k]?
theorem Upd.refl (S:Nat→Prop) (h:Zb):Upd S h h:=⟨Nat.le_refl _,fun _ _ _=>rfl⟩
theorem Upd.trans {S:Nat→Prop} {a b c:Zb} (h:Upd S a b) (h':Upd S b c):Upd S a c :=
  ⟨Nat.le_trans h.size h'.size,fun k hk hs=>(h'.old k (Nat.lt_of_lt_of_le hk h.size) hs).trans (h.old k hk hs)⟩
theorem Upd.mono {S T:Nat→Prop} {a b:Zb} (h:Upd S a b) (hs:∀ k,k<a.size→S k→T k):Upd T a b :=
  ⟨h.size,fun k hk hn=>h.old k hk fun hS=>hn (hs k hk hS)⟩
theorem Ext.upd {a b:Zb} (h:Ext a b) (S:Nat→Prop):Upd S a b:=⟨h.size,fun k hk _=>h.old k hk⟩
theorem Upd.ext {S:Nat→Prop} {a b:Zb} (h:Upd S a b) (hs:∀ k,k<a.size→¬ S k):Ext a b:=⟨h.size,fun k hk=>h.old k hk (hs k hk)⟩
theorem Upd.put (h:Zb) (b o:Nat) (v:Value):Upd (· = b) h (h.put b o v):=⟨by rw [Zen];exact Nat.le_refl _,fun k _ hk=>ZhK hk⟩
theorem Upd.puts (h:Zb) (b o:Nat) (vs:List Value):Upd (· = b) h (h.puts b o vs):=⟨by rw [Zdt];exact Nat.le_refl _,fun k _ hk=>ZdS hk⟩
theorem Zkf {h:Zb} {cells:List Value} {t:TypeId} {K:Nat→Zb→Prop} (hk:K h.size (h.push (.cells cells.toArray t))):newC h cells t K:=hk
theorem Ext.then {a b c:Zb} {S:Nat→Prop} (h:Ext a b) (h':Upd S b c) (hs:∀ k,S k→a.size≤k):Ext a c :=
  ⟨Nat.le_trans h.size h'.size,fun k hk=>(h'.old k (Nat.lt_of_lt_of_le hk h.size) fun hS=>by have:=hs k hS;omega).trans (h.old k hk)⟩
def slV (s:Sl):Value:= .slice s.ptr s.len s.cap
def Sl.blk (s:Sl):Option Nat:=s.ptr.map (·.block)
def bv (x:UInt8):Value:= .int .u8 x.toNat
structure Row (h:Zb) (s:Sl) (size:Nat) (vs:List Value):Prop where
  len:vs.length=s.len*size
  cap:s.len≤s.cap
  big:s.cap<9223372036854775808
  at_:s.len=0∨∃ b o,s.ptr=some ⟨b,o,none⟩∧h.has b o vs
abbrev Zml (h:Zb) (s:Sl) (l:List UInt8):Prop:=Row h s 1 (l.map bv)
theorem Row.nil_of {h:Zb} {s:Sl} {size:Nat} {vs:List Value} (hr:Row h s size vs) (h0:s.len=0):vs=[] :=
  List.eq_nil_of_length_eq_zero (by rw [hr.len,h0,Nat.zero_mul])
theorem Row.congr {h h':Zb} {s:Sl} {size:Nat} {vs:List Value} (hr:Row h s size vs) (he:∀ b o,s.ptr=some ⟨b,o,none⟩→vs≠[]→b<h.size→h'[b]?=h[b]?):Row h' s size vs:=by
  refine ⟨hr.len,hr.cap,hr.big,?_⟩
  rcases hr.at_ with h0 | ⟨b,o,hp,hh⟩
  ·exact .inl h0
  ·rcases Classical.em (vs=[]) with hvs | hvs
   ·subst hvs;exact .inr ⟨b,o,hp,trivial⟩
   ·exact .inr ⟨b,o,hp,Zh2 (he b o hp hvs (ZpZ hh hvs)) hh⟩
theorem Row.ext {h h':Zb} {s:Sl} {size:Nat} {vs:List Value} (hr:Row h s size vs) (he:Ext h h'):Row h' s size vs :=
  hr.congr fun b _ _ _ hb=>he.old b hb
theorem Zml.length {h:Zb} {s:Sl} {l:List UInt8} (hb:Zml h s l):s.len=l.length:=by
  have:=hb.len;simp at this;omega
theorem Row.at1 {h:Zb} {s:Sl} {vs:List Value} (hr:Row h s 1 vs) {i:Nat} {v:Value} (hv:vs[i]?=some v) :
    ∃ b o,s.ptr=some ⟨b,o,none⟩∧i<s.len∧h.cell b (o+i)=some v:=by
  have hlt:i<vs.length:=by
    rcases Nat.lt_or_ge i vs.length with h | h
    ·exact h
    ·rw [List.getElem?_eq_none h] at hv;cases hv
  rcases hr.at_ with h0 | ⟨b,o,hp,hh⟩
  ·rw [hr.nil_of h0] at hv;simp at hv
  ·exact ⟨b,o,hp,by have:=hr.len;omega,Zg8 hh hv⟩
theorem Row.idx {h:Zb} {s:Sl} {vs:List Value} (hr:Row h s 1 vs) {i:Int} {n:Nat} (hi:i=n) {v:Value} (hv:vs[n]?=some v) {K:Nat→Nat→Prop}
    (hk:∀ b o,s.ptr=some ⟨b,o,none⟩→h.cell b (o+n)=some v→K b (o+n)):Zh0 s.ptr s.len i 1 K:=by
  obtain ⟨b,o,hp,hlt,hc⟩:=hr.at1 hv
  subst hi
  refine ⟨b,o,hp,by omega,by omega,?_⟩
  rw [Int.toNat_natCast,Nat.mul_one]
  exact hk b o hp hc
theorem Zml.idx {h:Zb} {s:Sl} {l:List UInt8} (hr:Zml h s l) {i:Int} {n:Nat} (hi:i=n) {x:UInt8} (hv:l[n]?=some x) {K:Int→Prop} (hk:K x.toNat) :
    Zh0 s.ptr s.len i 1 fun b o=>ldI h b o .u8 K :=
  Row.idx hr hi (v:=bv x) (by simp [hv]) fun _ _ _ hc=>⟨_,hc,hk⟩
theorem Row.rd {h:Zb} {s:Sl} {size:Nat} {vs:List Value} (hr:Row h s size vs) {K:List Value→Prop} (hk:K vs):rdS s size h K:=by
  rcases hr.at_ with h0 | ⟨b,o,hp,hh⟩
  ·rw [hr.nil_of h0] at hk;exact .inl ⟨h0,hk⟩
  ·exact .inr ⟨b,o,vs,hp,hr.len,hh,hk⟩
theorem Row.nil (h:Zb) (size:Nat):Row h ⟨none,0,0⟩ size []:=⟨by simp,Nat.le_refl _,by decide,.inl rfl⟩
structure Own (h:Zb) (base:Nat) (s:Sl) (size:Nat) (vs:List Value):Prop where
  len:vs.length=s.len*size
  cap:s.len≤s.cap
  big:s.cap<9223372036854775808
  at_:(s.ptr=none∧s.cap=0)∨∃ b c e,s.ptr=some ⟨b,0,none⟩∧base≤b∧h[b]?=some (.cells c e (0,0))∧c.size=s.cap*size∧vs=c.toList.take (s.len*size)
theorem Own.row {h:Zb} {base:Nat} {s:Sl} {size:Nat} {vs:List Value} (ho:Own h base s size vs):Row h s size vs:=by
  refine ⟨ho.len,ho.cap,ho.big,?_⟩
  rcases ho.at_ with ⟨_,h0⟩ | ⟨b,c,e,hp,_,hb,hc,hv⟩
  ·exact .inl (by have:=ho.cap;omega)
  ·right
   refine ⟨b,0,hp,Zbw hb fun i v hi=>?_⟩
   rw [hv,List.getElem?_take] at hi
   split at hi
   ·simpa using hi
   ·cases hi
theorem Own.nil (h:Zb) (base size:Nat):Own h base ⟨none,0,0⟩ size []:=⟨by simp,Nat.le_refl _,by decide,.inl ⟨rfl,rfl⟩⟩
theorem Own.congr {h h':Zb} {base:Nat} {s:Sl} {size:Nat} {vs:List Value} (ho:Own h base s size vs) (he:∀ b,s.blk=some b→b<h.size→base≤b→h'[b]?=h[b]?):Own h' base s size vs:=by
  refine ⟨ho.len,ho.cap,ho.big,?_⟩
  rcases ho.at_ with h0 | ⟨b,c,e,hp,hb,hc,hr⟩
  ·exact .inl h0
  ·refine .inr ⟨b,c,e,hp,hb,?_,hr⟩
   rw [he b (by simp [Sl.blk,hp]) ?_ hb]
   ·exact hc
   ·rcases Nat.lt_or_ge b h.size with hl | hl
    ·exact hl
    ·rw [Array.getElem?_eq_none hl] at hc;cases hc
theorem Own.lt {h:Zb} {base:Nat} {s:Sl} {size:Nat} {vs:List Value} (ho:Own h base s size vs) {b:Nat} (hb:s.blk=some b):base≤b∧b<h.size:=by
  rcases ho.at_ with ⟨hp,_⟩ | ⟨b',c,e,hp,hb',hr,_⟩
  ·simp [Sl.blk,hp] at hb
  ·simp [Sl.blk,hp] at hb
   subst hb
   refine ⟨hb',?_⟩
   rcases Nat.lt_or_ge b' h.size with hl | hl
   ·exact hl
   ·rw [Array.getElem?_eq_none hl] at hr;cases hr
theorem Za8 (zs:List Value) (n:Nat):(YQ zs n).length=n*zs.length:=by simp [YQ]
theorem Own.app {h:Zb} {base:Nat} {s:Sl} {size bytes n:Nat} {vs new zs:List Value} {elem:TypeId} {K:Sl→Zb→Prop}
    (ho:Own h base s size vs) (hnew:new.length=n*size) (hone:new.all ZW=true) (hz:zs.length=size) (hb:(s.len+n)*bytes≤140737488355328) (hl:s.len+n≤140737488355328) (hbase:base≤h.size)
    (hk:∀ s' h',Own h' base s' size (vs++new)→s'.len=s.len+n→Upd (fun k=>s.blk=some k) h h'→(s'.blk=s.blk∨s'.blk=some h.size)→K s' h') :
    Fw.app elem size bytes zs s n new h K:=by
  have hlen:=ho.len
  have hcap:=ho.cap
  refine ⟨fun hroom=>?_,fun hgt=>⟨hb,hl,ho.row.rd fun cap h1 h2=>?_⟩⟩
  ·rcases ho.at_ with ⟨hp,h0⟩ | ⟨b,c,e,hp,hbb,hblk,hc,hv⟩
   ·left
    have hn:n=0:=by omega
    have hnil:new=[]:=List.eq_nil_of_length_eq_zero (by rw [hnew,hn,Nat.zero_mul])
    refine ⟨hnil,hk _ _ ?_ rfl (Upd.refl _ _) (.inl rfl)⟩
    refine ⟨by simp [hnil,hn,hlen],hroom,ho.big,.inl ⟨hp,h0⟩⟩
   ·right
    have hle:s.len*size+new.length≤c.size:=by
      rw [hc,hnew,← Nat.add_mul];exact Nat.mul_le_mul_right _ hroom
    refine ⟨b,0,hp,ZcK hblk (by simpa using hle),hone,?_⟩
    obtain ⟨c',hc',hl'⟩:=Zf3 (vs:=new) (o:=0+s.len*size) hblk (by simpa using hle)
    refine hk _ _ ⟨?_,hroom,ho.big,.inr ⟨b,c',e,hp,hbb,hc',?_,?_⟩⟩ rfl ((Upd.puts h b _ new).mono fun k _ hk=>by subst hk;simp [Sl.blk,hp]) (.inl rfl)
    ·simp [hlen,hnew,Nat.add_mul]
    ·rw [← hc,← Array.length_toList,hl']
     simp
     omega
    ·rw [hl']
     simp only [Nat.zero_add]
     rw [Nat.add_mul,← hnew,List.take_append_of_le_length (by simp;omega),List.take_of_length_le (by simp;omega),hv]
  ·refine hk _ _ ⟨by simp [hlen,hnew,Nat.add_mul],h1,h2,.inr ⟨h.size,_,elem,rfl,hbase,Zdu,?_,?_⟩⟩ rfl ((Ext.push h _).upd _) (.inr rfl)
   ·simp only [List.size_toArray,List.length_append,Za8,hz,hlen,hnew]
    rw [← Nat.add_mul,← Nat.add_mul]
    congr 1
    omega
   ·simp only []
    rw [List.take_append_of_le_length (by simp [hlen,hnew,Nat.add_mul]),List.take_of_length_le (by simp [hlen,hnew,Nat.add_mul])]
theorem Own.newC {h:Zb} {cells:List Value} {t:TypeId} {size n:Nat} (hl:cells.length=n*size) (hn:n<9223372036854775808) :
    Own (h.push (.cells cells.toArray t)) h.size ⟨some ⟨h.size,0,none⟩,n,n⟩ size cells :=
  ⟨hl,Nat.le_refl _,hn,.inr ⟨h.size,_,t,rfl,Nat.le_refl _,Zdu,by simp [hl],by simp;rw [List.take_of_length_le (by omega)]⟩⟩
theorem Zrg {h:Zb} {cells:List Value} {t:TypeId} {K:Nat→Zb→Prop} (l:List UInt8) (n:Nat) (hc:cells=l.map bv) (hn:l.length=n) (hlt:n<9223372036854775808)
    (hk:∀ b h',Zml h' ⟨some ⟨b,0,none⟩,n,n⟩ l→Ext h h'→b=h.size→K b h'):newC h cells t K:=by
  subst hc
  exact hk _ _ (Own.newC (h:=h) (cells:=l.map bv) (t:=t) (size:=1) (n:=n) (by simp [hn]) hlt).row (Ext.push h _) rfl
theorem ZfV (s:ByteArray):Za9 s s=true:=by unfold Za9;simp
end Go.Fw
namespace Go.Proofs.YtgiolidekcckiaaDoor
open Go Go.Fw
structure ZaZ (h:Zb):Prop where
  utf:∀ w:World,w.heap=h→Lib.Utf8Tabs 0 1 w
abbrev Zg (l:List UInt8):ByteArray:=⟨l.toArray⟩
def ZY (s:ByteArray) (c:Int) (K:Int→HP) (h:Zb):Prop:=K (Lib.indexByte s.data.toList c.toNat.toUInt8) h
def Zw (s:ByteArray) (K:Bool→HP) (h:Zb):Prop:=ZaZ h∧s.size≤9223372036854775807∧∀ h',Ext h h'→K (Lib.validD s.data.toList) h'
def ZU (s:ByteArray) (K:Int→HP) (h:Zb):Prop:=s.size<9223372036854775807∧∀ h',Ext h h'→K (Lib.runeCount s) h'
def Zz (p:Option Addr) (K:HP) (h:Zb):Prop :=
  ∃ b c v T,p=some ⟨b,0,none⟩∧h[b]?=some (.cells #[c,v] T (0,0))∧(T=43∨T=45) ∧
    ((c = .pointer none∧K (h.put b 0 (.pointer (some ⟨b,0,none⟩))))∨(c = .pointer (some ⟨b,0,none⟩)∧K h))
def ZT (p:Option Addr) (K:ByteArray→HP) (h:Zb):Prop :=
  ∃ (b:Nat) (c:Value) (x:Sl) (T:TypeId),p=some ⟨b,0,none⟩∧h[b]?=some (.cells #[c,.slice x.ptr x.len x.cap] T (0,0)) ∧
    ((x.ptr=none∧x.len=0∧x.cap=0∧K ByteArray.empty h) ∨
     ∃ (g:Nat) (s:ByteArray) (cur:Array Value) (fz:Nat × Nat),x.ptr=some ⟨g,0,none⟩∧g≠b∧x.len=s.size∧s.size≠0∧x.len≤x.cap∧x.cap≤cur.size∧x.cap<9223372036854775808∧h[g]?=some (.cells cur 5 fz)∧h.has g 0 (YP s) ∧
       ∀ h',Upd (· = g) h h'→K s h')
abbrev zT0:=ByteArray→((Int × ByteArray × Sl × Sl × Unit)→HP)→HP
def ZbS (s:ByteArray) (K:(Int × ByteArray × Sl × Sl × Unit)→HP) (h:Zb):Prop :=
 newC h [.int .u8 0,.string (ByteArray.mk #[]),.slice none 0 0,.slice none 0 0] 26 fun b h1 =>
 sts h1 b 0 [.int .u8 5,.string s,.slice none 0 0,.slice none 0 0] fun h2 =>
 ldI h2 b 0 .u8 fun t=>ldS h2 b (0+1) fun t3=>ldL h2 b (0+2) fun t4=>ldL h2 b (0+3) fun t5=>K (t,t3,t4,t5,()) h2
def X0:zT0:=ZbS
abbrev zT1:=ByteArray→Int→(Int→HP)→HP
abbrev zT2:=(Option Addr)→(HP)→HP
def Xw (f1:zT1) (r:Option Addr) (K:HP) (h:Zb):Prop :=
 Zb9 (σ:=Unit) (fun J1 s h2 =>
 Zd r fun b o =>
 ldI h2 b (o+1) .i64 fun t =>
 Zd r fun b3 o4 =>
 ldS h2 b3 o4 fun t5 =>
 ZE (decide (t<(t5.size:Int))) (
 Zd r fun b6 o7 =>
 ldS h2 b6 o7 fun t8 =>
 Zd r fun b9 o10 =>
 ldI h2 b9 (o10+1) .i64 fun t11 =>
 ZkA t8 t11 fun t12 =>
 Zj6 (ρ:=Int × Unit) (fun K h=>f1 (ByteArray.mk #[32,9,10,13]) t12 (fun q h=>K (q,()) h) h) h2 fun r14 =>
 ZE (decide (r14.1≥0)) (
 Zd r fun b15 o16 =>
 ldI h2 b15 (o16+1) .i64 fun t17 =>
 Zd r fun b18 o19 =>
 st h2 b18 (o19+1) (.int .i64 (IntKind.wrap .i64 (t17+1))) fun h20 =>
 J1 (()) h20) (
 K h2)) (
 K h2)) (()) h
def Zv:zT2:=Xw ZY
abbrev zT3:=(Option Addr)→(Int→HP)→HP
def X6 (r:Option Addr) (K:Int→HP) (h:Zb):Prop :=
 ZJ 0 fun t =>
 Zd r fun b o =>
 ldI h b (o+1) .i64 fun t1 =>
 Zd r fun b2 o3 =>
 ldS h b2 o3 fun t4 =>
 ZE (decide (t1<(t4.size:Int))) (
 Zd r fun b5 o6 =>
 ldS h b5 o6 fun t7 =>
 Zd r fun b8 o9 =>
 ldI h b8 (o9+1) .i64 fun t10 =>
 ZkA t7 t10 fun t11 =>
 ZJ t11 fun t12 =>
 K t12 h) (
 ZJ 0 fun t13 =>
 K t13 h)
def Zi:zT3:=X6
abbrev zT4:=(Option Addr)→Int→Int→(HP)→(Value→HP)→HP
def YJ (r:Option Addr) (e:Int) (at_:Int) (K:HP) (P:Value→HP) (h:Zb):Prop :=
 Zd r fun b o =>
 ldS h b o fun t =>
 ZE (decide (at_≥(t.size:Int))) (
 Zd r fun b1 o2 =>
 ldS h b1 o2 fun t3 =>
 P (.iface 55 (.agg #[.int .i64 24,.int .i64 (t3.size:Int)])) h) (
 P (.iface 55 (.agg #[.int .i64 e,.int .i64 at_])) h)
def Ze:zT4:=YJ
abbrev zT6:=(Option Addr)→(HP)→HP
abbrev zT7:=(Option Addr)→Int→(Value→HP)→HP
def Yd (f6:zT6) (b:Option Addr) (c:Int) (K:Value→HP) (h:Zb):Prop :=
 f6 b (fun h1 =>
 Zd b fun b2 o =>
 ldL h1 b2 (o+1) fun t =>
 newC h1 [.int .u8 c] 5 fun b3 h4 =>
 rdS ⟨some ⟨b3,0,none⟩,1,1⟩ 1 h4 fun new=>app 5 1 1 [.int .u8 0] t 1 new h4 fun t5 h6 =>
 Zd b fun b7 o8 =>
 st h6 b7 (o8+1) (.slice t5.ptr t5.len t5.cap) fun h9 =>
 K .nilIface h9) h
def Zl:zT7:=Yd Zz
abbrev zT8:=(Option Addr)→(Int→HP)→(Value→HP)→HP
def Zae (f3:zT3) (f4:zT4) (r:Option Addr) (K:Int→HP) (P:Value→HP) (h:Zb):Prop :=
 ZJ 0 fun t =>
 ZJ 0 fun n =>
 Zb9 (σ:=Int × Int × Unit) (fun J2 s h3 =>
 (fun (n1:Int) (s5:Int) =>
 ZE (decide (s5<4)) (
 f3 r (fun t4 h5 =>
 ZJ t4 fun c =>
 ZbZ (σ:=Int × Unit) (fun s33 h34 =>
 (fun (n32:Int) =>
 Zd r fun b35 o36 =>
 ldI h34 b35 (o36+1) .i64 fun t37 =>
 Zd r fun b38 o39 =>
 st h34 b38 (o39+1) (.int .i64 (IntKind.wrap .i64 (t37+1))) fun h40 =>
 J2 (n32,IntKind.wrap .i64 (s5+1),()) h40) s33.1) (fun J6 =>
 ZbZ (σ:=Bool × Unit) (fun s9 h10 =>
 (fun (s15:Bool) =>
 ZE s15 (
 Zbs (0≤(4:Int)) <|
 ZJ (orV .i32 (Zmo .i32 n1 4) (IntKind.wrap .i32 (IntKind.wrap .u8 (c - 48)))) fun n11 =>
 J6 (n11,()) h10) (
 ZE (decide (c≥97)) (
 ZP (decide (c≤102)) fun t12 =>
 ZE t12 (
 Zbs (0≤(4:Int)) <|
 ZJ (orV .i32 (Zmo .i32 n1 4) (IntKind.wrap .i32 (IntKind.wrap .u8 ((IntKind.wrap .u8 (c - 97))+10)))) fun n13 =>
 J6 (n13,()) h10) (
 ZE (decide (c≥65)) (
 ZP (decide (c≤70)) fun t14 =>
 ZE t14 (
 Zbs (0≤(4:Int)) <|
 ZJ (orV .i32 (Zmo .i32 n1 4) (IntKind.wrap .i32 (IntKind.wrap .u8 ((IntKind.wrap .u8 (c - 65))+10)))) fun n15 =>
 J6 (n15,()) h10) (
 Zd r fun b o =>
 ldI h10 b (o+1) .i64 fun t16 =>
 f4 r 22 t16 (fun h17 =>
 J6 (n1,()) h17) P h10)) (
 Zd r fun b18 o19 =>
 ldI h10 b18 (o19+1) .i64 fun t20 =>
 f4 r 22 t20 (fun h21 =>
 J6 (n1,()) h21) P h10))) (
 ZE (decide (c≥65)) (
 ZP (decide (c≤70)) fun t22 =>
 ZE t22 (
 Zbs (0≤(4:Int)) <|
 ZJ (orV .i32 (Zmo .i32 n1 4) (IntKind.wrap .i32 (IntKind.wrap .u8 ((IntKind.wrap .u8 (c - 65))+10)))) fun n23 =>
 J6 (n23,()) h10) (
 Zd r fun b24 o25 =>
 ldI h10 b24 (o25+1) .i64 fun t26 =>
 f4 r 22 t26 (fun h27 =>
 J6 (n1,()) h27) P h10)) (
 Zd r fun b28 o29 =>
 ldI h10 b28 (o29+1) .i64 fun t30 =>
 f4 r 22 t30 (fun h31 =>
 J6 (n1,()) h31) P h10)))) s9.1) (fun J7 =>
 ZE (decide (c≥48)) (
 ZP (decide (c≤57)) fun t8 =>
 J7 (t8,()) h5) (
 J7 (false,()) h5)))) h3) (
 ZJ n1 fun t41 =>
 K t41 h3)) s.1 s.2.1) (n,0,()) h
def YT:zT8:=Zae Zi Ze
abbrev zT9:=ByteArray→ByteArray→(Bool→HP)→HP
def Yh (s:ByteArray) (prefix_:ByteArray) (K:Bool→HP) (h:Zb):Prop :=
 ZE (decide ((s.size:Int)≥(prefix_.size:Int))) (
 ZmC s 0 (prefix_.size:Int) fun t =>
 ZP (Za9 t prefix_) fun t1 =>
 K t1 h) (
 K false h)
def ZV:zT9:=Yh
abbrev Zpu:=ByteArray→ByteArray→(Bool→HP)→HP
def XG (f9:zT9) (s:ByteArray) (prefix_:ByteArray) (K:Bool→HP) (h:Zb):Prop :=
 f9 s prefix_ (fun t h1 =>
 ZP t fun t2 =>
 K t2 h1) h
def Yy:Zpu:=XG ZV
abbrev Zpt:=Sl→Int→(Sl→HP)→HP
def Yc (p:Sl) (r:Int) (K:Sl→HP) (h:Zb):Prop :=
 ZJ (IntKind.wrap .u32 r) fun i =>
 ZP (decide (i≤2047)) fun t =>
 ZE t (
 Zbs (0≤(6:Int)) <|
 newC h [.int .u8 (orV .u8 (192:Int) (IntKind.wrap .u8 (ZjW .i32 r 6))),.int .u8 (orV .u8 (128:Int) (ZjN .u8 (IntKind.wrap .u8 r) 63))] 5 fun b h1 =>
 rdS ⟨some ⟨b,0,none⟩,2,2⟩ 1 h1 fun new=>app 5 1 1 [.int .u8 0] p 2 new h1 fun t2 h3 =>
 K t2 h3) (
 ZbZ (σ:=Bool × Unit) (fun s h7 =>
 (fun (s25:Bool) =>
 ZE s25 (
 Zbs (0≤(12:Int)) <|
 Zbs (0≤(6:Int)) <|
 newC h7 [.int .u8 (orV .u8 (224:Int) (IntKind.wrap .u8 (ZjW .i32 r 12))),.int .u8 (orV .u8 (128:Int) (ZjN .u8 (IntKind.wrap .u8 (ZjW .i32 r 6)) 63)),.int .u8 (orV .u8 (128:Int) (ZjN .u8 (IntKind.wrap .u8 r) 63))] 5 fun b8 h9 =>
 rdS ⟨some ⟨b8,0,none⟩,3,3⟩ 1 h9 fun new12=>app 5 1 1 [.int .u8 0] p 3 new12 h9 fun t10 h11 =>
 K t10 h11) (
 ZE (decide (i>65535)) (
 ZP (decide (i≤1114111)) fun t13 =>
 ZE t13 (
 Zbs (0≤(18:Int)) <|
 Zbs (0≤(12:Int)) <|
 Zbs (0≤(6:Int)) <|
 newC h7 [.int .u8 (orV .u8 (240:Int) (IntKind.wrap .u8 (ZjW .i32 r 18))),.int .u8 (orV .u8 (128:Int) (ZjN .u8 (IntKind.wrap .u8 (ZjW .i32 r 12)) 63)),.int .u8 (orV .u8 (128:Int) (ZjN .u8 (IntKind.wrap .u8 (ZjW .i32 r 6)) 63)),.int .u8 (orV .u8 (128:Int) (ZjN .u8 (IntKind.wrap .u8 r) 63))] 5 fun b14 h15 =>
 rdS ⟨some ⟨b14,0,none⟩,4,4⟩ 1 h15 fun new18=>app 5 1 1 [.int .u8 0] p 4 new18 h15 fun t16 h17 =>
 K t16 h17) (
 newC h7 [.int .u8 239,.int .u8 191,.int .u8 189] 5 fun b19 h20 =>
 rdS ⟨some ⟨b19,0,none⟩,3,3⟩ 1 h20 fun new23=>app 5 1 1 [.int .u8 0] p 3 new23 h20 fun t21 h22 =>
 K t21 h22)) (
 newC h7 [.int .u8 239,.int .u8 191,.int .u8 189] 5 fun b24 h25 =>
 rdS ⟨some ⟨b24,0,none⟩,3,3⟩ 1 h25 fun new28=>app 5 1 1 [.int .u8 0] p 3 new28 h25 fun t26 h27 =>
 K t26 h27))) s.1) (fun J4 =>
 ZP (decide (i<55296)) fun t5 =>
 ZE t5 (
 J4 (t5,()) h) (
 ZE (decide ((57343:Int)<i)) (
 ZP (decide (i≤65535)) fun t6 =>
 J4 (t6,()) h) (
 J4 (false,()) h))))
def ZS:Zpt:=Yc
abbrev Zps:=Sl→Int→(Sl→HP)→HP
def YL (f11:Zpt) (p:Sl) (r:Int) (K:Sl→HP) (h:Zb):Prop :=
 ZE (decide ((IntKind.wrap .u32 r)≤127)) (
 newC h [.int .u8 (IntKind.wrap .u8 r)] 5 fun b h1 =>
 rdS ⟨some ⟨b,0,none⟩,1,1⟩ 1 h1 fun new=>app 5 1 1 [.int .u8 0] p 1 new h1 fun t h2 =>
 K t h2) (
 f11 p r (fun t3 h4 =>
 K t3 h4) h)
def Z3:Zps:=YL ZS
abbrev Zpr:=(Option Addr)→Int→(Int→Value→HP)→HP
def YC (f6:zT6) (f12:Zps) (b:Option Addr) (r:Int) (K:Int→Value→HP) (h:Zb):Prop :=
 ZJ 0 fun t =>
 f6 b (fun h1 =>
 Zd b fun b2 o =>
 ldL h1 b2 (o+1) fun t3 =>
 ZJ (t3.len:Int) fun n =>
 Zd b fun b4 o5 =>
 ldL h1 b4 (o5+1) fun t6 =>
 f12 t6 r (fun t7 h8 =>
 Zd b fun b9 o10 =>
 st h8 b9 (o10+1) (.slice t7.ptr t7.len t7.cap) fun h11 =>
 Zd b fun b12 o13 =>
 ldL h11 b12 (o13+1) fun t14 =>
 ZJ (IntKind.wrap .i64 ((t14.len:Int) - n)) fun t15 =>
 K t15 .nilIface h11) h1) h
def ZZ:Zpr:=YC Zz Z3
abbrev Zpq:=(Option Addr)→(Option Addr)→(HP)→(Value→HP)→HP
def Xu (f3:zT3) (f1:zT1) (f7:zT7) (f4:zT4) (f8:zT8) (f10:Zpu) (f13:Zpr) (r:Option Addr) (b:Option Addr) (K:HP) (P:Value→HP) (h:Zb):Prop :=
 f3 r (fun t h1 =>
 ZJ t fun c =>
 ZbZ (σ:=Unit) (fun s h19 =>
 ZbZ (σ:=Unit) (fun s25 h26 =>
 Zd r fun b27 o28 =>
 ldI h26 b27 (o28+1) .i64 fun t29 =>
 Zd r fun b30 o31 =>
 st h26 b30 (o31+1) (.int .i64 (IntKind.wrap .i64 (t29+1))) fun h32 =>
 f8 r (fun t33 h34 =>
 ZJ t33 fun n =>
 ZbZ (σ:=Unit) (fun s68 h69 =>
 ZbZ (σ:=Int × Unit) (fun s73 h74 =>
 (fun (n72:Int) =>
 f13 b n72 (fun t75 t76 h77 =>
 K h77) h74) s73.1) (fun J70 =>
 ZE (decide (n≥55296)) (
 ZE (decide (n<57344)) (
 ZJ 65533 fun n71 =>
 J70 (n71,()) h69) (
 J70 (n,()) h69)) (
 J70 (n,()) h69))) (fun J35 =>
 ZbZ (σ:=Bool × Unit) (fun s46 h47 =>
 (fun (s72:Bool) =>
 ZE s72 (
 Zd r fun b48 o49 =>
 ldI h47 b48 (o49+1) .i64 fun t50 =>
 ZJ t50 fun was =>
 Zd r fun b51 o52 =>
 ldI h47 b51 (o52+1) .i64 fun t53 =>
 Zd r fun b54 o55 =>
 st h47 b54 (o55+1) (.int .i64 (IntKind.wrap .i64 (t53+2))) fun h56 =>
 f8 r (fun t57 h58 =>
 ZJ t57 fun low =>
 ZE (decide (low≥56320)) (
 ZE (decide (low<57344)) (
 Zbs (0≤(10:Int)) <|
 f13 b (IntKind.wrap .i32 ((IntKind.wrap .i32 ((65536:Int)+(Zmo .i32 (IntKind.wrap .i32 (n - 55296)) 10)))+(IntKind.wrap .i32 (low - 56320)))) (fun t59 t60 h61 =>
 K h61) h58) (
 Zd r fun b62 o63 =>
 st h58 b62 (o63+1) (.int .i64 was) fun h64 =>
 J35 (()) h64)) (
 Zd r fun b65 o66 =>
 st h58 b65 (o66+1) (.int .i64 was) fun h67 =>
 J35 (()) h67)) P h56) (
 J35 (()) h47)) s46.1) (fun J36 =>
 ZE (decide (n≥55296)) (
 ZE (decide (n<56320)) (
 Zd r fun b37 o38 =>
 ldS h34 b37 o38 fun t39 =>
 Zd r fun b40 o41 =>
 ldI h34 b40 (o41+1) .i64 fun t42 =>
 ZmC t39 t42 t39.size fun t43 =>
 Zj6 (ρ:=Bool × Unit) (fun K h=>f10 t43 (ByteArray.mk #[92,117]) (fun q h=>K (q,()) h) h) h34 fun r45 =>
 J36 (r45.1,()) h34) (
 J36 (false,()) h34)) (
 J36 (false,()) h34)))) P h32) (fun J20 =>
 ZE (c !=117) (
 Zd r fun b21 o22 =>
 ldI h19 b21 (o22+1) .i64 fun t23 =>
 f4 r 22 t23 (fun h24 =>
 J20 (()) h24) P h19) (
 J20 (()) h19))) (fun J2 =>
 f1 (ByteArray.mk #[34,92,47,98,102,110,114,116]) c (fun t3 h4 =>
 ZJ t3 fun i =>
 ZE (decide (i≥0)) (
 Zd r fun b5 o =>
 ldI h4 b5 (o+1) .i64 fun t6 =>
 Zd r fun b7 o8 =>
 ldS h4 b7 o8 fun t9 =>
 ZE (decide (t6<(t9.size:Int))) (
 ZkA (ByteArray.mk #[34,92,47,8,12,10,13,9]) i fun t10 =>
 f7 b t10 (fun t11 h12 =>
 Zd r fun b13 o14 =>
 ldI h12 b13 (o14+1) .i64 fun t15 =>
 Zd r fun b16 o17 =>
 st h12 b16 (o17+1) (.int .i64 (IntKind.wrap .i64 (t15+1))) fun h18 =>
 K h18) h4) (
 J2 (()) h4)) (
 J2 (()) h4)) h1)) h
def Yv:Zpq:=Xu Zi ZY Zl Ze YT Yy ZZ
abbrev Zq3:=ByteArray→(Int→HP)→HP
abbrev Zky:=ByteArray→(Bool→HP)→HP
abbrev Zpp:=ByteArray→(Bool→HP)→HP
def ZbR (f15:Zq3) (f16:Zky) (s:ByteArray) (K:Bool→HP) (h:Zb):Prop :=
 newC h [.string (ByteArray.mk #[128,128,128]),.string (ByteArray.mk #[144,128,128]),.string (ByteArray.mk #[160,128,128])] 9 fun b h1 =>
 Zb9 (σ:=Int × Unit) (fun J2 s3 h4 =>
 (fun (s11:Int) =>
 ZE (decide (s11<(3:Int))) (
 Zh0 (some ⟨b,0,none⟩) 3 s11 1 fun b5 o =>
 ldS h4 b5 o fun t =>
 ZJ (s.size:Int) fun k =>
 Zb9 (σ:=Int × Unit) (fun J7 s8 h9 =>
 (fun (k6:Int) =>
 ZE (decide (k6<4)) (
 ZmC t 0 (IntKind.wrap .i64 (k6 - (s.size:Int))) fun t10 =>
 Zp5 s t10 fun s12 =>
 f15 s12 (fun t13 h14 =>
 ZJ t13 fun n =>
 ZE (n ==1) (
 f16 s12 (fun t15 h16 =>
 ZE t15 (
 K true h16) (
 ZJ (IntKind.wrap .i64 (k6+1)) fun k17 =>
 J7 (k17,()) h16)) h14) (
 ZJ (IntKind.wrap .i64 (k6+1)) fun k18 =>
 J7 (k18,()) h14)) h9) (
 ZE (decide ((s.size:Int)<4)) (
 Zp5 s t fun s19 =>
 ZmC s19 0 4 fun t20 =>
 f16 t20 (fun t21 h22 =>
 ZE t21 (
 Zp5 s t fun s23 =>
 ZmC s23 0 4 fun t24 =>
 f15 t24 (fun t25 h26 =>
 ZE (t25 ==1) (
 K true h26) (
 J2 (IntKind.wrap .i64 (s11+1),()) h26)) h22) (
 J2 (IntKind.wrap .i64 (s11+1),()) h22)) h9) (
 J2 (IntKind.wrap .i64 (s11+1),()) h9))) s8.1) (k,()) h4) (
 f16 s (fun t27 h28 =>
 ZE t27 (
 f15 s (fun t29 h30 =>
 ZP (t29 ==1) fun t31 =>
 K t31 h30) h28) (
 K false h28)) h4)) s3.1) (0,()) h1
def XZ:Zpp:=ZbR ZU Zw
abbrev ZkE:=(Option Addr)→ByteArray→(Int→Value→HP)→HP
def Z5 (f6:zT6) (b:Option Addr) (s:ByteArray) (K:Int→Value→HP) (h:Zb):Prop :=
 ZJ 0 fun t =>
 f6 b (fun h1 =>
 Zd b fun b2 o =>
 ldL h1 b2 (o+1) fun t3 =>
 app 5 1 1 [.int .u8 0] t3 s.size (YP s) h1 fun t4 h5 =>
 Zd b fun b6 o7 =>
 st h5 b6 (o7+1) (.slice t4.ptr t4.len t4.cap) fun h8 =>
 ZJ (s.size:Int) fun t9 =>
 K t9 .nilIface h8) h
def Zk:ZkE:=Z5 Zz
abbrev Zpo:=(Option Addr)→(Option Addr)→(HP)→(Value→HP)→HP
def XK (f4:zT4) (f17:Zpp) (f16:Zky) (f18:ZkE) (r:Option Addr) (b:Option Addr) (K:HP) (P:Value→HP) (h:Zb):Prop :=
 ZJ 1 fun k =>
 Zb9 (σ:=Int × Unit) (fun J2 s h3 =>
 (fun (k1:Int) =>
 ZbZ (σ:=Unit) (fun s13 h14 =>
 Zd r fun b15 o16 =>
 ldS h14 b15 o16 fun t17 =>
 Zd r fun b18 o19 =>
 ldI h14 b18 (o19+1) .i64 fun t20 =>
 Zd r fun b21 o22 =>
 ldI h14 b21 (o22+1) .i64 fun t23 =>
 ZmC t17 t20 (IntKind.wrap .i64 (t23+k1)) fun t24 =>
 ZbZ (σ:=Unit) (fun s32 h33 =>
 f16 t24 (fun t34 h35 =>
 ZE t34 (
 f18 b t24 (fun t36 t37 h38 =>
 Zd r fun b39 o40 =>
 ldI h38 b39 (o40+1) .i64 fun t41 =>
 Zd r fun b42 o43 =>
 st h38 b42 (o43+1) (.int .i64 (IntKind.wrap .i64 (t41+k1))) fun h44 =>
 K h44) h35) (
 ZJ (IntKind.wrap .i64 (k1+1)) fun k45 =>
 J2 (k45,()) h35)) h33) (fun J25 =>
 f17 t24 (fun t26 h27 =>
 ZE (!t26) (
 Zd r fun b28 o29 =>
 ldI h27 b28 (o29+1) .i64 fun t30 =>
 f4 r 22 (IntKind.wrap .i64 ((IntKind.wrap .i64 (t30+k1)) - 1)) (fun h31 =>
 J25 (()) h31) P h27) (
 J25 (()) h27)) h14)) (fun J4 =>
 Zd r fun b5 o =>
 ldI h3 b5 (o+1) .i64 fun t =>
 Zd r fun b6 o7 =>
 ldS h3 b6 o7 fun t8 =>
 ZE (decide ((IntKind.wrap .i64 (t+k1))>(t8.size:Int))) (
 Zd r fun b9 o10 =>
 ldS h3 b9 o10 fun t11 =>
 f4 r 24 (t11.size:Int) (fun h12 =>
 J4 (()) h12) P h3) (
 J4 (()) h3))) s.1) (k,()) h
def YA:Zpo:=XK Ze XZ Zw Zk
abbrev zT5:=(Option Addr)→(ByteArray→HP)→HP
abbrev Znp:=(Option Addr)→(ByteArray→HP)→(Value→HP)→HP
def X4 (f3:zT3) (f4:zT4) (f5:zT5) (f14:Zpq) (f7:zT7) (f19:Zpo) (r:Option Addr) (K:ByteArray→HP) (P:Value→HP) (h:Zb):Prop :=
 Zd r fun b o =>
 ldI h b (o+1) .i64 fun t =>
 Zd r fun b1 o2 =>
 st h b1 (o2+1) (.int .i64 (IntKind.wrap .i64 (t+1))) fun h3 =>
 newC h3 [.pointer none,.slice none 0 0] 43 fun b4 h5 =>
 Zb9 (σ:=Unit) (fun J6 s h7 =>
 f3 r (fun t8 h9 =>
 ZJ t8 fun c =>
 ZbZ (σ:=Bool × Unit) (fun s18 h19 =>
 (fun (s16:Bool) =>
 ZE s16 (
 Zd r fun b20 o21 =>
 ldI h19 b20 (o21+1) .i64 fun t22 =>
 f4 r 22 t22 (fun h23 =>
 J6 (()) h23) P h19) (
 ZP (c ==34) fun t24 =>
 ZE t24 (
 Zd r fun b25 o26 =>
 ldI h19 b25 (o26+1) .i64 fun t27 =>
 Zd r fun b28 o29 =>
 st h19 b28 (o29+1) (.int .i64 (IntKind.wrap .i64 (t27+1))) fun h30 =>
 f5 (some ⟨b4,0,none⟩) (fun t31 h32 =>
 K t31 h32) h30) (
 ZP (c ==92) fun t33 =>
 ZE t33 (
 Zd r fun b34 o35 =>
 ldI h19 b34 (o35+1) .i64 fun t36 =>
 Zd r fun b37 o38 =>
 st h19 b37 (o38+1) (.int .i64 (IntKind.wrap .i64 (t36+1))) fun h39 =>
 f14 r (some ⟨b4,0,none⟩) (fun h40 =>
 J6 (()) h40) P h39) (
 ZP (decide (c<128)) fun t41 =>
 ZE t41 (
 f7 (some ⟨b4,0,none⟩) c (fun t42 h43 =>
 Zd r fun b44 o45 =>
 ldI h43 b44 (o45+1) .i64 fun t46 =>
 Zd r fun b47 o48 =>
 st h43 b47 (o48+1) (.int .i64 (IntKind.wrap .i64 (t46+1))) fun h49 =>
 J6 (()) h49) h19) (
 f19 r (some ⟨b4,0,none⟩) (fun h50 =>
 J6 (()) h50) P h19))))) s18.1) (fun J10 =>
 Zd r fun b11 o12 =>
 ldI h9 b11 (o12+1) .i64 fun t13 =>
 Zd r fun b14 o15 =>
 ldS h9 b14 o15 fun t16 =>
 ZE (decide (t13≥(t16.size:Int))) (
 J10 (true,()) h9) (
 ZP (decide (c<32)) fun t17 =>
 J10 (t17,()) h9))) h7) (()) h5
def Yb:Znp:=X4 Zi Ze ZT Yv Zl YA
abbrev Zgx:=(Option Addr)→Int→((Int × ByteArray × Sl × Sl × Unit)→HP)→(Value→HP)→HP
abbrev Zpn:=(Option Addr)→(Option Addr)→Int→(HP)→(Value→HP)→HP
def X5 (f2:zT2) (f3:zT3) (f4:zT4) (f20:Znp) (f21:Zgx) (r:Option Addr) (v:Option Addr) (deep:Int) (K:HP) (P:Value→HP) (h:Zb):Prop :=
 f2 r (fun h1 =>
 ZbZ (σ:=Unit) (fun s39 h40 =>
 Zd v fun b41 o42 =>
 ldL h40 b41 (o42+2) fun t43 =>
 Zkw (
 f21 r deep (fun t44 h45 =>
 Zbs (Zdd h45 [(b41,o42+2,.slice t43.ptr t43.len t43.cap)]) <|
 newC h45 [.int .u8 0,.string (ByteArray.mk #[]),.slice none 0 0,.slice none 0 0] 26 fun b46 h47 =>
 Zbs (Zdd h47 [(b41,o42+2,.slice t43.ptr t43.len t43.cap)]) <|
 rdS ⟨some ⟨b46,0,none⟩,1,1⟩ 4 h47 fun new50=>app 26 4 72 [.int .u8 0,.string (ByteArray.mk #[]),.slice none 0 0,.slice none 0 0] t43 1 new50 h47 fun t48 h49 =>
 Zh0 t48.ptr t48.len (t43.len:Int) 4 fun b51 o52 =>
 Zd v fun b53 o54 =>
 Zkw (
 sts h49 b51 o52 [.int .u8 t44.1,.string t44.2.1,.slice t44.2.2.1.ptr t44.2.2.1.len t44.2.2.1.cap,.slice t44.2.2.2.1.ptr t44.2.2.2.1.len t44.2.2.2.1.cap] fun h55 =>
 st h55 b53 (o54+2) (.slice t48.ptr t48.len t48.cap) fun h56 =>
 f2 r (fun h57 =>
 K h57) h56) (
 st h49 b53 (o54+2) (.slice t48.ptr t48.len t48.cap) fun h58 =>
 sts h58 b51 o52 [.int .u8 t44.1,.string t44.2.1,.slice t44.2.2.1.ptr t44.2.2.1.len t44.2.2.1.cap,.slice t44.2.2.2.1.ptr t44.2.2.2.1.len t44.2.2.2.1.cap] fun h59 =>
 f2 r (fun h60 =>
 K h60) h59)) P h40) (
 newC h40 [.int .u8 0,.string (ByteArray.mk #[]),.slice none 0 0,.slice none 0 0] 26 fun b61 h62 =>
 Zbs (Zdd h62 [(b41,o42+2,.slice t43.ptr t43.len t43.cap)]) <|
 f21 r deep (fun t63 h64 =>
 Zbs (Zdd h64 [(b41,o42+2,.slice t43.ptr t43.len t43.cap)]) <|
 rdS ⟨some ⟨b61,0,none⟩,1,1⟩ 4 h64 fun new67=>app 26 4 72 [.int .u8 0,.string (ByteArray.mk #[]),.slice none 0 0,.slice none 0 0] t43 1 new67 h64 fun t65 h66 =>
 Zh0 t65.ptr t65.len (t43.len:Int) 4 fun b68 o69 =>
 Zd v fun b70 o71 =>
 Zkw (
 sts h66 b68 o69 [.int .u8 t63.1,.string t63.2.1,.slice t63.2.2.1.ptr t63.2.2.1.len t63.2.2.1.cap,.slice t63.2.2.2.1.ptr t63.2.2.2.1.len t63.2.2.2.1.cap] fun h72 =>
 st h72 b70 (o71+2) (.slice t65.ptr t65.len t65.cap) fun h73 =>
 f2 r (fun h74 =>
 K h74) h73) (
 st h66 b70 (o71+2) (.slice t65.ptr t65.len t65.cap) fun h75 =>
 sts h75 b68 o69 [.int .u8 t63.1,.string t63.2.1,.slice t63.2.2.1.ptr t63.2.2.1.len t63.2.2.1.cap,.slice t63.2.2.2.1.ptr t63.2.2.2.1.len t63.2.2.2.1.cap] fun h76 =>
 f2 r (fun h77 =>
 K h77) h76)) P h62)) (fun J2 =>
 Zd v fun b o =>
 ldI h1 b o .u8 fun t =>
 ZE (t ==7) (
 ZbZ (σ:=Unit) (fun s h10 =>
 Zd v fun b11 o12 =>
 ldL h10 b11 (o12+3) fun t13 =>
 f20 r (fun t14 h15 =>
 Zbs (Zdd h15 [(b11,o12+3,.slice t13.ptr t13.len t13.cap)]) <|
 newC h15 [.string t14] 9 fun b16 h17 =>
 Zbs (Zdd h17 [(b11,o12+3,.slice t13.ptr t13.len t13.cap)]) <|
 rdS ⟨some ⟨b16,0,none⟩,1,1⟩ 1 h17 fun new=>app 9 1 16 [.string (ByteArray.mk #[])] t13 1 new h17 fun t18 h19 =>
 Zd v fun b20 o21 =>
 st h19 b20 (o21+3) (.slice t18.ptr t18.len t18.cap) fun h22 =>
 f2 r (fun h23 =>
 ZbZ (σ:=Unit) (fun s31 h32 =>
 Zd r fun b33 o34 =>
 ldI h32 b33 (o34+1) .i64 fun t35 =>
 Zd r fun b36 o37 =>
 st h32 b36 (o37+1) (.int .i64 (IntKind.wrap .i64 (t35+1))) fun h38 =>
 J2 (()) h38) (fun J24 =>
 f3 r (fun t25 h26 =>
 ZE (t25 !=58) (
 Zd r fun b27 o28 =>
 ldI h26 b27 (o28+1) .i64 fun t29 =>
 f4 r 20 t29 (fun h30 =>
 J24 (()) h30) P h26) (
 J24 (()) h26)) h23)) h22) P h10) (fun J3 =>
 f3 r (fun t4 h5 =>
 ZE (t4 !=34) (
 Zd r fun b6 o7 =>
 ldI h5 b6 (o7+1) .i64 fun t8 =>
 f4 r 20 t8 (fun h9 =>
 J3 (()) h9) P h5) (
 J3 (()) h5)) h1)) (
 J2 (()) h1))) h
def YD (f21:Zgx):Zpn:=X5 Zv Zi Ze Yb f21
abbrev Zpm:=(Option Addr)→Int→Int→Int→((Int × ByteArray × Sl × Sl × Unit)→HP)→(Value→HP)→HP
def Y3 (f4:zT4) (f2:zT2) (f3:zT3) (f22:Zpn) (r:Option Addr) (k:Int) (end_:Int) (deep:Int) (K:(Int × ByteArray × Sl × Sl × Unit)→HP) (P:Value→HP) (h:Zb):Prop :=
 newC h [.int .u8 0,.string (ByteArray.mk #[]),.slice none 0 0,.slice none 0 0] 26 fun b h1 =>
 ZbZ (σ:=Unit) (fun s h5 =>
 Zd r fun b6 o7 =>
 ldI h5 b6 (o7+1) .i64 fun t8 =>
 Zd r fun b9 o10 =>
 st h5 b9 (o10+1) (.int .i64 (IntKind.wrap .i64 (t8+1))) fun h11 =>
 newC h11 [.int .u8 0,.string (ByteArray.mk #[]),.slice none 0 0,.slice none 0 0] 26 fun b12 h13 =>
 sts h13 b12 0 [.int .u8 k,.string (ByteArray.mk #[]),.slice none 0 0,.slice none 0 0] fun h14 =>
 f2 r (fun h15 =>
 Zb9 (σ:=Unit) (fun J16 s17 h18 =>
 ZbZ (σ:=Unit) (fun s43 h44 =>
 ZbZ (σ:=Unit) (fun s62 h63 =>
 f22 r (some ⟨b12,0,none⟩) (IntKind.wrap .i64 (deep+1)) (fun h64 =>
 J16 (()) h64) P h63) (fun J45 =>
 ldL h44 b12 (0+2) fun t46 =>
 ZE (decide ((t46.len:Int)>0)) (
 ZbZ (σ:=Unit) (fun s54 h55 =>
 Zd r fun b56 o57 =>
 ldI h55 b56 (o57+1) .i64 fun t58 =>
 Zd r fun b59 o60 =>
 st h55 b59 (o60+1) (.int .i64 (IntKind.wrap .i64 (t58+1))) fun h61 =>
 J45 (()) h61) (fun J47 =>
 f3 r (fun t48 h49 =>
 ZE (t48 !=44) (
 Zd r fun b50 o51 =>
 ldI h49 b50 (o51+1) .i64 fun t52 =>
 f4 r 20 t52 (fun h53 =>
 J47 (()) h53) P h49) (
 J47 (()) h49)) h44)) (
 J45 (()) h44))) (fun J19 =>
 Zj6 (ρ:=Int × Unit) (fun K h=>f3 r (fun q h=>K (q,()) h) h) h18 fun r21 =>
 ZE (r21.1 !=end_) (
 J19 (()) h18) (
 Zd r fun b22 o23 =>
 ldI h18 b22 (o23+1) .i64 fun t24 =>
 Zd r fun b25 o26 =>
 ldS h18 b25 o26 fun t27 =>
 ZE (decide (t24≥(t27.size:Int))) (
 J19 (()) h18) (
 Zd r fun b28 o29 =>
 ldI h18 b28 (o29+1) .i64 fun t30 =>
 Zd r fun b31 o32 =>
 st h18 b31 (o32+1) (.int .i64 (IntKind.wrap .i64 (t30+1))) fun h33 =>
 ldI h33 b12 0 .u8 fun t34=>ldS h33 b12 (0+1) fun t35=>ldL h33 b12 (0+2) fun t36=>ldL h33 b12 (0+3) fun t37 =>
 sts h33 b 0 [.int .u8 t34,.string t35,.slice t36.ptr t36.len t36.cap,.slice t37.ptr t37.len t37.cap] fun h38 =>
 ldI h38 b 0 .u8 fun t39=>ldS h38 b (0+1) fun t40=>ldL h38 b (0+2) fun t41=>ldL h38 b (0+3) fun t42=>K (t39,t40,t41,t42,()) h38)))) (()) h15) h14) (fun J2 =>
 ZE (decide (deep≥64)) (
 Zd r fun b3 o =>
 ldI h1 b3 (o+1) .i64 fun t =>
 f4 r 23 t (fun h4 =>
 J2 (()) h4) P h1) (
 J2 (()) h1))
def ZX (f21:Zgx):Zpm:=Y3 Ze Zv Zi (YD f21)
abbrev Zpl:=(Option Addr)→ByteArray→Int→((Int × ByteArray × Sl × Sl × Unit)→HP)→(Value→HP)→HP
def X3 (f3:zT3) (f4:zT4) (r:Option Addr) (w:ByteArray) (k:Int) (K:(Int × ByteArray × Sl × Sl × Unit)→HP) (P:Value→HP) (h:Zb):Prop :=
 newC h [.int .u8 0,.string (ByteArray.mk #[]),.slice none 0 0,.slice none 0 0] 26 fun b h1 =>
 Zb9 (σ:=Int × Unit) (fun J2 s h3 =>
 (fun (s10:Int) =>
 ZE (decide (s10<(w.size:Int))) (
 ZJ s10 fun i =>
 ZbZ (σ:=Unit) (fun s20 h21 =>
 Zd r fun b22 o23 =>
 ldI h21 b22 (o23+1) .i64 fun t24 =>
 Zd r fun b25 o26 =>
 st h21 b25 (o26+1) (.int .i64 (IntKind.wrap .i64 (t24+1))) fun h27 =>
 J2 (IntKind.wrap .i64 (s10+1),()) h27) (fun J4 =>
 Zj6 (ρ:=Int × Unit) (fun K h=>f3 r (fun q h=>K (q,()) h) h) h3 fun r5 =>
 ZkA w i fun t6 =>
 ZE (r5.1 !=t6) (
 Zd r fun b7 o =>
 ldI h3 b7 (o+1) .i64 fun t8 =>
 f4 r 20 t8 (fun h9 =>
 J4 (()) h9) P h3) (
 Zd r fun b10 o11 =>
 ldI h3 b10 (o11+1) .i64 fun t12 =>
 Zd r fun b13 o14 =>
 ldS h3 b13 o14 fun t15 =>
 ZE (decide (t12≥(t15.size:Int))) (
 Zd r fun b16 o17 =>
 ldI h3 b16 (o17+1) .i64 fun t18 =>
 f4 r 20 t18 (fun h19 =>
 J4 (()) h19) P h3) (
 J4 (()) h3)))) (
 sts h3 b 0 [.int .u8 k,.string (ByteArray.mk #[]),.slice none 0 0,.slice none 0 0] fun h28 =>
 ldI h28 b 0 .u8 fun t29=>ldS h28 b (0+1) fun t30=>ldL h28 b (0+2) fun t31=>ldL h28 b (0+3) fun t32=>K (t29,t30,t31,t32,()) h28)) s.1) (0,()) h1
def YG:Zpl:=X3 Zi Ze
abbrev Zpk:=(Option Addr)→(HP)→(Value→HP)→HP
def Xv (f3:zT3) (f4:zT4) (r:Option Addr) (K:HP) (P:Value→HP) (h:Zb):Prop :=
 ZbZ (σ:=Unit) (fun s h9 =>
 f3 r (fun t10 h11 =>
 ZJ t10 fun c12 =>
 Zb9 (σ:=Int × Unit) (fun J14 s15 h16 =>
 (fun (c13:Int) =>
 ZE (decide (c13≥48)) (
 ZE (decide (c13≤57)) (
 Zd r fun b17 o18 =>
 ldI h16 b17 (o18+1) .i64 fun t19 =>
 Zd r fun b20 o21 =>
 st h16 b20 (o21+1) (.int .i64 (IntKind.wrap .i64 (t19+1))) fun h22 =>
 f3 r (fun t23 h24 =>
 ZJ t23 fun c25 =>
 J14 (c25,()) h24) h22) (
 K h16)) (
 K h16)) s15.1) (c12,()) h11) h9) (fun J1 =>
 f3 r (fun t h2 =>
 ZJ t fun c =>
 ZE (decide (c<48)) (
 Zd r fun b o =>
 ldI h2 b (o+1) .i64 fun t3 =>
 f4 r 21 t3 (fun h4 =>
 J1 (()) h4) P h2) (
 ZE (decide (c>57)) (
 Zd r fun b5 o6 =>
 ldI h2 b5 (o6+1) .i64 fun t7 =>
 f4 r 21 t7 (fun h8 =>
 J1 (()) h8) P h2) (
 J1 (()) h2))) h)
def ZK:Zpk:=Xv Zi Ze
abbrev Zpj:=(Option Addr)→((Int × ByteArray × Sl × Sl × Unit)→HP)→(Value→HP)→HP
def Xt (f3:zT3) (f4:zT4) (f25:Zpk) (r:Option Addr) (K:(Int × ByteArray × Sl × Sl × Unit)→HP) (P:Value→HP) (h:Zb):Prop :=
 newC h [.int .u8 0,.string (ByteArray.mk #[]),.slice none 0 0,.slice none 0 0] 26 fun b h1 =>
 Zd r fun b2 o =>
 ldI h1 b2 (o+1) .i64 fun t =>
 ZJ t fun from_ =>
 ZbZ (σ:=Unit) (fun s h12 =>
 ZbZ (σ:=Unit) (fun s29 h30 =>
 ZbZ (σ:=Unit) (fun s41 h42 =>
 ZbZ (σ:=Unit) (fun s95 h96 =>
 Zd r fun b97 o98 =>
 Zd r fun b99 o100 =>
 ldS h96 b97 o98 fun t101 =>
 ldI h96 b99 (o100+1) .i64 fun t102 =>
 ZmC t101 from_ t102 fun t103 =>
 sts h96 b 0 [.int .u8 4,.string t103,.slice none 0 0,.slice none 0 0] fun h104 =>
 ldI h104 b 0 .u8 fun t105=>ldS h104 b (0+1) fun t106=>ldL h104 b (0+2) fun t107=>ldL h104 b (0+3) fun t108=>K (t105,t106,t107,t108,()) h104) (fun J43 =>
 f3 r (fun t44 h45 =>
 ZJ t44 fun c46 =>
 ZE (c46 ==101) (
 Zd r fun b47 o48 =>
 ldI h45 b47 (o48+1) .i64 fun t49 =>
 Zd r fun b50 o51 =>
 st h45 b50 (o51+1) (.int .i64 (IntKind.wrap .i64 (t49+1))) fun h52 =>
 f3 r (fun t53 h54 =>
 ZJ t53 fun c55 =>
 ZE (c55 ==43) (
 Zd r fun b56 o57 =>
 ldI h54 b56 (o57+1) .i64 fun t58 =>
 Zd r fun b59 o60 =>
 st h54 b59 (o60+1) (.int .i64 (IntKind.wrap .i64 (t58+1))) fun h61 =>
 f25 r (fun h62 =>
 J43 (()) h62) P h61) (
 ZE (c55 ==45) (
 Zd r fun b63 o64 =>
 ldI h54 b63 (o64+1) .i64 fun t65 =>
 Zd r fun b66 o67 =>
 st h54 b66 (o67+1) (.int .i64 (IntKind.wrap .i64 (t65+1))) fun h68 =>
 f25 r (fun h69 =>
 J43 (()) h69) P h68) (
 f25 r (fun h70 =>
 J43 (()) h70) P h54))) h52) (
 ZE (c46 ==69) (
 Zd r fun b71 o72 =>
 ldI h45 b71 (o72+1) .i64 fun t73 =>
 Zd r fun b74 o75 =>
 st h45 b74 (o75+1) (.int .i64 (IntKind.wrap .i64 (t73+1))) fun h76 =>
 f3 r (fun t77 h78 =>
 ZJ t77 fun c79 =>
 ZE (c79 ==43) (
 Zd r fun b80 o81 =>
 ldI h78 b80 (o81+1) .i64 fun t82 =>
 Zd r fun b83 o84 =>
 st h78 b83 (o84+1) (.int .i64 (IntKind.wrap .i64 (t82+1))) fun h85 =>
 f25 r (fun h86 =>
 J43 (()) h86) P h85) (
 ZE (c79 ==45) (
 Zd r fun b87 o88 =>
 ldI h78 b87 (o88+1) .i64 fun t89 =>
 Zd r fun b90 o91 =>
 st h78 b90 (o91+1) (.int .i64 (IntKind.wrap .i64 (t89+1))) fun h92 =>
 f25 r (fun h93 =>
 J43 (()) h93) P h92) (
 f25 r (fun h94 =>
 J43 (()) h94) P h78))) h76) (
 J43 (()) h45))) h42)) (fun J31 =>
 f3 r (fun t32 h33 =>
 ZE (t32 ==46) (
 Zd r fun b34 o35 =>
 ldI h33 b34 (o35+1) .i64 fun t36 =>
 Zd r fun b37 o38 =>
 st h33 b37 (o38+1) (.int .i64 (IntKind.wrap .i64 (t36+1))) fun h39 =>
 f25 r (fun h40 =>
 J31 (()) h40) P h39) (
 J31 (()) h33)) h30)) (fun J13 =>
 f3 r (fun t14 h15 =>
 ZE (t14 ==48) (
 Zd r fun b16 o17 =>
 ldI h15 b16 (o17+1) .i64 fun t18 =>
 Zd r fun b19 o20 =>
 st h15 b19 (o20+1) (.int .i64 (IntKind.wrap .i64 (t18+1))) fun h21 =>
 f3 r (fun t22 h23 =>
 ZJ t22 fun c =>
 ZE (decide (c≥48)) (
 ZE (decide (c≤57)) (
 Zd r fun b24 o25 =>
 ldI h23 b24 (o25+1) .i64 fun t26 =>
 f4 r 21 t26 (fun h27 =>
 J13 (()) h27) P h23) (
 J13 (()) h23)) (
 J13 (()) h23)) h21) (
 f25 r (fun h28 =>
 J13 (()) h28) P h15)) h12)) (fun J3 =>
 f3 r (fun t4 h5 =>
 ZE (t4 ==45) (
 Zd r fun b6 o7 =>
 ldI h5 b6 (o7+1) .i64 fun t8 =>
 Zd r fun b9 o10 =>
 st h5 b9 (o10+1) (.int .i64 (IntKind.wrap .i64 (t8+1))) fun h11 =>
 J3 (()) h11) (
 J3 (()) h5)) h1)
def Yf:Zpj:=Xt Zi Ze ZK
def XJ (f2:zT2) (f3:zT3) (f4:zT4) (f23:Zpm) (f20:Znp) (f24:Zpl) (f26:Zpj) (r:Option Addr) (deep:Int) (K:(Int × ByteArray × Sl × Sl × Unit)→HP) (P:Value→HP) (h:Zb):Prop :=
 newC h [.int .u8 0,.string (ByteArray.mk #[]),.slice none 0 0,.slice none 0 0] 26 fun b h1 =>
 f2 r (fun h2 =>
 ZbZ (σ:=Unit) (fun s h78 =>
 Zd r fun b79 o80 =>
 ldI h78 b79 (o80+1) .i64 fun t81 =>
 f4 r 20 t81 (fun h82 =>
 sts h82 b 0 [.int .u8 0,.string (ByteArray.mk #[]),.slice none 0 0,.slice none 0 0] fun h83 =>
 ldI h83 b 0 .u8 fun t84=>ldS h83 b (0+1) fun t85=>ldL h83 b (0+2) fun t86=>ldL h83 b (0+3) fun t87=>K (t84,t85,t86,t87,()) h83) P h78) (fun J3 =>
 f3 r (fun t h4 =>
 ZJ t fun c =>
 Zd r fun b5 o =>
 ldI h4 b5 (o+1) .i64 fun t6 =>
 Zd r fun b7 o8 =>
 ldS h4 b7 o8 fun t9 =>
 ZP (decide (t6≥(t9.size:Int))) fun t10 =>
 ZE t10 (
 Zd r fun b11 o12 =>
 ldI h4 b11 (o12+1) .i64 fun t13 =>
 f4 r 24 t13 (fun h14 =>
 J3 (()) h14) P h4) (
 ZP (c ==123) fun t15 =>
 ZE t15 (
 f23 r 7 125 deep (fun t16 h17 =>
 sts h17 b 0 [.int .u8 t16.1,.string t16.2.1,.slice t16.2.2.1.ptr t16.2.2.1.len t16.2.2.1.cap,.slice t16.2.2.2.1.ptr t16.2.2.2.1.len t16.2.2.2.1.cap] fun h18 =>
 ldI h18 b 0 .u8 fun t19=>ldS h18 b (0+1) fun t20=>ldL h18 b (0+2) fun t21=>ldL h18 b (0+3) fun t22=>K (t19,t20,t21,t22,()) h18) P h4) (
 ZP (c ==91) fun t23 =>
 ZE t23 (
 f23 r 6 93 deep (fun t24 h25 =>
 sts h25 b 0 [.int .u8 t24.1,.string t24.2.1,.slice t24.2.2.1.ptr t24.2.2.1.len t24.2.2.1.cap,.slice t24.2.2.2.1.ptr t24.2.2.2.1.len t24.2.2.2.1.cap] fun h26 =>
 ldI h26 b 0 .u8 fun t27=>ldS h26 b (0+1) fun t28=>ldL h26 b (0+2) fun t29=>ldL h26 b (0+3) fun t30=>K (t27,t28,t29,t30,()) h26) P h4) (
 ZP (c ==34) fun t31 =>
 ZE t31 (
 f20 r (fun t32 h33 =>
 sts h33 b 0 [.int .u8 5,.string t32,.slice none 0 0,.slice none 0 0] fun h34 =>
 ldI h34 b 0 .u8 fun t35=>ldS h34 b (0+1) fun t36=>ldL h34 b (0+2) fun t37=>ldL h34 b (0+3) fun t38=>K (t35,t36,t37,t38,()) h34) P h4) (
 ZP (c ==110) fun t39 =>
 ZE t39 (
 f24 r (ByteArray.mk #[110,117,108,108]) 1 (fun t40 h41 =>
 sts h41 b 0 [.int .u8 t40.1,.string t40.2.1,.slice t40.2.2.1.ptr t40.2.2.1.len t40.2.2.1.cap,.slice t40.2.2.2.1.ptr t40.2.2.2.1.len t40.2.2.2.1.cap] fun h42 =>
 ldI h42 b 0 .u8 fun t43=>ldS h42 b (0+1) fun t44=>ldL h42 b (0+2) fun t45=>ldL h42 b (0+3) fun t46=>K (t43,t44,t45,t46,()) h42) P h4) (
 ZP (c ==102) fun t47 =>
 ZE t47 (
 f24 r (ByteArray.mk #[102,97,108,115,101]) 2 (fun t48 h49 =>
 sts h49 b 0 [.int .u8 t48.1,.string t48.2.1,.slice t48.2.2.1.ptr t48.2.2.1.len t48.2.2.1.cap,.slice t48.2.2.2.1.ptr t48.2.2.2.1.len t48.2.2.2.1.cap] fun h50 =>
 ldI h50 b 0 .u8 fun t51=>ldS h50 b (0+1) fun t52=>ldL h50 b (0+2) fun t53=>ldL h50 b (0+3) fun t54=>K (t51,t52,t53,t54,()) h50) P h4) (
 ZP (c ==116) fun t55 =>
 ZE t55 (
 f24 r (ByteArray.mk #[116,114,117,101]) 3 (fun t56 h57 =>
 sts h57 b 0 [.int .u8 t56.1,.string t56.2.1,.slice t56.2.2.1.ptr t56.2.2.1.len t56.2.2.1.cap,.slice t56.2.2.2.1.ptr t56.2.2.2.1.len t56.2.2.2.1.cap] fun h58 =>
 ldI h58 b 0 .u8 fun t59=>ldS h58 b (0+1) fun t60=>ldL h58 b (0+2) fun t61=>ldL h58 b (0+3) fun t62=>K (t59,t60,t61,t62,()) h58) P h4) (
 ZE (c ==45) (
 f26 r (fun t63 h64 =>
 sts h64 b 0 [.int .u8 t63.1,.string t63.2.1,.slice t63.2.2.1.ptr t63.2.2.1.len t63.2.2.1.cap,.slice t63.2.2.2.1.ptr t63.2.2.2.1.len t63.2.2.2.1.cap] fun h65 =>
 ldI h65 b 0 .u8 fun t66=>ldS h65 b (0+1) fun t67=>ldL h65 b (0+2) fun t68=>ldL h65 b (0+3) fun t69=>K (t66,t67,t68,t69,()) h65) P h4) (
 ZE (decide (c≥48)) (
 ZP (decide (c≤57)) fun t70 =>
 ZE t70 (
 f26 r (fun t71 h72 =>
 sts h72 b 0 [.int .u8 t71.1,.string t71.2.1,.slice t71.2.2.1.ptr t71.2.2.1.len t71.2.2.1.cap,.slice t71.2.2.2.1.ptr t71.2.2.2.1.len t71.2.2.2.1.cap] fun h73 =>
 ldI h73 b 0 .u8 fun t74=>ldS h73 b (0+1) fun t75=>ldL h73 b (0+2) fun t76=>ldL h73 b (0+3) fun t77=>K (t74,t75,t76,t77,()) h73) P h4) (
 J3 (()) h4)) (
 J3 (()) h4)))))))))) h2)) h1
def Y0 (f21:Zgx):Zgx:=XJ Zv Zi Ze (ZX f21) Yb YG Yf
def Z7:Nat→Zgx
 | 0=>fun _ _ _ _ _=>False
 | n+1=>Y0 (Z7 n)
def Y2:Zgx:=fun r deep K P h=>∃ n,Z7 n r deep K P h
abbrev zV:List Value:=[.int .u8 0,.string (ByteArray.mk #[]),.slice none 0 0,.slice none 0 0]
def Zql (b2 b3 b4:Nat) (e n:Int) (E:HP) (h:Zb):Prop :=
 ZhZ (.iface 55 (.agg #[.int .i64 e,.int .i64 n])) fun b=>ZE b (E h) (ZE true (
 newC h [.int .i64 0,.int .i64 0] 55 fun b1 h2=>sts h2 b1 0 [.int .i64 e,.int .i64 n] fun h3 =>
 ldI h3 b1 0 .i64 fun t=>ldI h3 b1 (0+1) .i64 fun t4 =>
 Zd (some ⟨b2,0,none⟩) fun b5 o=>sts h3 b5 o zV fun h6=>Zbs (Zdd h6 [(b1,0+1,.int .i64 t4)]) <| Zbs (Zdd h6 [(b1,0,.int .i64 t)]) <|
 Zd (some ⟨b3,0,none⟩) fun b7 o8=>st h6 b7 o8 (.int .i64 t) fun h9=>Zbs (Zdd h9 [(b1,0+1,.int .i64 t4)]) <|
 Zd (some ⟨b4,0,none⟩) fun b10 o11=>st h9 b10 o11 (.int .i64 t4) fun h12=>E h12) False)
def ZcG (b b2 b4:Nat) (K:(Int × ByteArray × Sl × Sl × Unit)→Int→Int→HP) (h:Zb):Prop :=
 ldI h b 0 .u8 fun t=>ldS h b (0+1) fun t9=>ldL h b (0+2) fun t10=>ldL h b (0+3) fun t11=>ldI h b2 0 .i64 fun t12=>ldI h b4 0 .i64 fun t13=>K (t,t9,t10,t11,()) t12 t13 h
def XB (b b2 b4:Nat) (K:(Int × ByteArray × Sl × Sl × Unit)→Int→Int→HP) (v:Value) (h:Zb):Prop :=
 ∃ e n,v = .iface 55 (.agg #[.int .i64 e,.int .i64 n])∧Zql b b2 b4 e n (ZcG b b2 b4 K) h
def Zda (b b2 b4:Nat) (K:(Int × ByteArray × Sl × Sl × Unit)→Int→Int→HP) (h:Zb):Prop :=
 ldI h b 0 .u8 fun t36=>ldS h b (0+1) fun t37=>ldL h b (0+2) fun t38=>ldL h b (0+3) fun t39 =>
 sts h b 0 [.int .u8 t36,.string t37,.slice t38.ptr t38.len t38.cap,.slice t39.ptr t39.len t39.cap] fun h40 =>
 st h40 b2 0 (.int .i64 0) fun h41=>st h41 b4 0 (.int .i64 0) fun h42=>ZcG b b2 b4 K h42
def YH (s:ByteArray) (K:(Int × ByteArray × Sl × Sl × Unit)→Int→Int→HP) (h:Zb):Prop :=
 newC h zV 26 fun b h1=>newC h1 [.int .i64 0] 28 fun b2 h3=>newC h3 [.int .i64 0] 3 fun b4 h5 =>
 ZE (decide ((s.size:Int)>65536)) (
 sts h5 b 0 zV fun h6=>st h6 b2 0 (.int .i64 5) fun h7=>st h7 b4 0 (.int .i64 65536) fun h8=>ZcG b b2 b4 K h8) (
 newC h5 [.string s,.int .i64 0] 58 fun b14 h15 =>
 Y2 (some ⟨b14,0,none⟩) 0 (fun t16 h17 =>
 sts h17 b 0 [.int .u8 t16.1,.string t16.2.1,.slice t16.2.2.1.ptr t16.2.2.1.len t16.2.2.1.cap,.slice t16.2.2.2.1.ptr t16.2.2.2.1.len t16.2.2.2.1.cap] fun h18 =>
 Zv (some ⟨b14,0,none⟩) (fun h19 =>
 ldI h19 b14 (0+1) .i64 fun t20=>ZE (decide (t20<(s.size:Int))) (
 ldI h19 b14 (0+1) .i64 fun t21=>Ze (some ⟨b14,0,none⟩) 25 t21 (Zda b b2 b4 K) (XB b b2 b4 K) h19) (Zda b b2 b4 K h19)) h18) (XB b b2 b4 K) h15)
abbrev ZoK:=ByteArray→((Int × ByteArray × Sl × Sl × Unit)→Int→Int→HP)→HP
abbrev Zpi:=ByteArray→(Bool→HP)→HP
def ZaS (f27:ZoK) (s:ByteArray) (K:Bool→HP) (h:Zb):Prop :=
 f27 s (fun t t1 t2 h3 =>
 newC h3 [.int .u8 0,.string (ByteArray.mk #[]),.slice none 0 0,.slice none 0 0] 26 fun b h4 =>
 sts h4 b 0 [.int .u8 t.1,.string t.2.1,.slice t.2.2.1.ptr t.2.2.1.len t.2.2.1.cap,.slice t.2.2.2.1.ptr t.2.2.2.1.len t.2.2.2.1.cap] fun h5 =>
 ZJ t1 fun e =>
 ZJ t2 fun x =>
 ZE (e ==0) (
 ldI h5 b 0 .u8 fun t6 =>
 ZE (t6 ==4) (
 ldS h5 b (0+1) fun t7 =>
 ZP (Za9 t7 s) fun t8 =>
 K t8 h5) (
 K false h5)) (
 K false h5)) h
def Xh:Zpi:=ZaS YH
abbrev Zph:=ByteArray→(Bool→HP)→HP
def Zbk (f16:Zky) (s:ByteArray) (K:Bool→HP) (h:Zb):Prop :=
 f16 s (fun t h1 =>
 ZP (!t) fun t2 =>
 K t2 h1) h
def Zaj:Zph:=Zbk Zw
abbrev Zpg:=Sl→(Int→HP)→HP
def ZI (f29:Zph) (s:Sl) (K:Int→HP) (h:Zb):Prop :=
 ZJ 0 fun t =>
 Zb9 (σ:=Int × Unit) (fun J1 s2 h3 =>
 (fun (s8:Int) =>
 ZE (decide (s8<(s.len:Int))) (
 ZJ s8 fun i =>
 Zh0 s.ptr s.len i 1 fun b o =>
 ldS h3 b o fun t4 =>
 f29 t4 (fun t5 h6 =>
 ZE t5 (
 ZJ i fun t7 =>
 K t7 h6) (
 J1 (IntKind.wrap .i64 (s8+1),()) h6)) h3) (
 ZJ (-1) fun t8 =>
 K t8 h3)) s2.1) (0,()) h
def ZB:Zpg:=ZI Zaj
abbrev Zpf:=Sl→(Bool→HP)→HP
def ZH (f30:Zpg) (s:Sl) (K:Bool→HP) (h:Zb):Prop :=
 f30 s (fun t h1 =>
 ZP (decide (t≥0)) fun t2 =>
 K t2 h1) h
def Zq:Zpf:=ZH ZB
abbrev Zpe:=(Int × ByteArray × Sl × Sl × Unit)→(Bool→HP)→HP
def Zcs (f28:Zpi) (f16:Zky) (f31:Zpf) (v:Int × ByteArray × Sl × Sl × Unit) (K:Bool→HP) (h:Zb):Prop :=
 newC h [.int .u8 v.1,.string v.2.1,.slice v.2.2.1.ptr v.2.2.1.len v.2.2.1.cap,.slice v.2.2.2.1.ptr v.2.2.2.1.len v.2.2.2.1.cap] 26 fun b h1 =>
 ldS h1 b (0+1) fun t =>
 ldL h1 b (0+2) fun t2 =>
 ldL h1 b (0+3) fun t3 =>
 ZP (!(Za9 t (ByteArray.mk #[]))) fun text =>
 ZP (decide ((t2.len:Int)>0)) fun list =>
 ZP (decide ((t3.len:Int)>0)) fun names =>
 ldI h1 b 0 .u8 fun t4 =>
 ZbZ (σ:=Bool × Unit) (fun s h9 =>
 (fun (s19:Bool) =>
 ZE s19 (
 ZE (!text) (
 ZE (!list) (
 ZP (!names) fun t10 =>
 K t10 h9) (
 K false h9)) (
 K false h9)) (
 ZP (t4 ==4) fun t11 =>
 ZE t11 (
 ldS h9 b (0+1) fun t12 =>
 f28 t12 (fun t13 h14 =>
 ZE t13 (
 ZE (!list) (
 ZP (!names) fun t15 =>
 K t15 h14) (
 K false h14)) (
 K false h14)) h9) (
 ZP (t4 ==5) fun t16 =>
 ZE t16 (
 ldS h9 b (0+1) fun t17 =>
 f16 t17 (fun t18 h19 =>
 ZE t18 (
 ZE (!list) (
 ZP (!names) fun t20 =>
 K t20 h19) (
 K false h19)) (
 K false h19)) h9) (
 ZP (t4 ==6) fun t21 =>
 ZE t21 (
 ZE (!text) (
 ZP (!names) fun t22 =>
 K t22 h9) (
 K false h9)) (
 ZP (t4 ==7) fun t23 =>
 ZE t23 (
 ZE (!text) (
 ldL h9 b (0+3) fun t24 =>
 ldL h9 b (0+2) fun t25 =>
 ZE ((t24.len:Int) ==(t25.len:Int)) (
 ldL h9 b (0+3) fun t26 =>
 f31 t26 (fun t27 h28 =>
 ZP (!t27) fun t29 =>
 K t29 h28) h9) (
 K false h9)) (
 K false h9)) (
 K false h9)))))) s.1) (fun J5 =>
 ZP (t4 ==1) fun t6 =>
 ZE t6 (
 J5 (t6,()) h1) (
 ZP (t4 ==2) fun t7 =>
 ZE t7 (
 J5 (t7,()) h1) (
 ZP (t4 ==3) fun t8 =>
 J5 (t8,()) h1)))
def Zap:Zpe:=Zcs Xh Zw Zq
abbrev ZfJ:=(Option Addr)→(Int × ByteArray × Sl × Sl × Unit)→Int→Value→(Bool→HP)→HP
abbrev Zpd:=(Int × ByteArray × Sl × Sl × Unit)→(Option Addr)→(Option Addr)→(Option Addr)→(Bool→HP)→HP
def XL (f33:ZfJ) (p:Int × ByteArray × Sl × Sl × Unit) (a1:Option Addr) (a2:Option Addr) (a3:Option Addr) (K:Bool→HP) (h:Zb):Prop :=
 newC h [.int .u8 p.1,.string p.2.1,.slice p.2.2.1.ptr p.2.2.1.len p.2.2.1.cap,.slice p.2.2.2.1.ptr p.2.2.2.1.len p.2.2.2.1.cap] 26 fun b h1 =>
 Zd a1 fun b2 o=>ldP h1 b2 o fun t =>
 ldI h1 b 0 .u8 fun t3=>ldS h1 b (0+1) fun t4=>ldL h1 b (0+2) fun t5=>ldL h1 b (0+3) fun t6 =>
 Zd a2 fun b7 o8=>ldI h1 b7 o8 .i64 fun t9 =>
 Zd a3 fun b10 o11=>ldV h1 b10 o11 fun t12 =>
 f33 t (t3,t4,t5,t6,()) (IntKind.wrap .i64 (t9+1)) t12 (fun t13 h14 =>
 ZP (!t13) fun t15 =>
 K t15 h14) h1
def Y1 (f33:ZfJ):Zpd:=XL f33
abbrev Zpc:=Sl→(Option Addr × Option Addr × Option Addr × Unit)→(Int→HP)→HP
def ZC (f34:Zpd) (s:Sl) (f:Option Addr × Option Addr × Option Addr × Unit) (K:Int→HP) (h:Zb):Prop :=
 ZJ 0 fun t =>
 Zb9 (σ:=Int × Unit) (fun J1 s2 h3 =>
 (fun (s8:Int) =>
 ZE (decide (s8<(s.len:Int))) (
 ZJ s8 fun i =>
 Zh0 s.ptr s.len i 4 fun b o =>
 ldI h3 b o .u8 fun t4=>ldS h3 b (o+1) fun t5=>ldL h3 b (o+2) fun t6=>ldL h3 b (o+3) fun t7 =>
 f34 (t4,t5,t6,t7,()) f.1 f.2.1 f.2.2.1 (fun t8 h9 =>
 ZE t8 (
 ZJ i fun t10 =>
 K t10 h9) (
 J1 (IntKind.wrap .i64 (s8+1),()) h9)) h3) (
 ZJ (-1) fun t11 =>
 K t11 h3)) s2.1) (0,()) h
def Zr (f33:ZfJ):Zpc:=ZC (Y1 f33)
abbrev Zpb:=Sl→(Option Addr × Option Addr × Option Addr × Unit)→(Bool→HP)→HP
def ZA (f35:Zpc) (s:Sl) (f:Option Addr × Option Addr × Option Addr × Unit) (K:Bool→HP) (h:Zb):Prop :=
 f35 s (f.1,f.2.1,f.2.2.1,()) (fun t h1 =>
 ZP (decide (t≥0)) fun t2 =>
 K t2 h1) h
def Zj (f33:ZfJ):Zpb:=ZA (Zr f33)
def Zaf (f32:Zpe) (f36:Zpb) (c:Option Addr) (v:Int × ByteArray × Sl × Sl × Unit) (deep:Int) (right:Value) (K:Bool→HP) (h:Zb):Prop :=
 newC h [.pointer c] 50 fun b h1 =>
 newC h1 [.int .u8 v.1,.string v.2.1,.slice v.2.2.1.ptr v.2.2.1.len v.2.2.1.cap,.slice v.2.2.2.1.ptr v.2.2.2.1.len v.2.2.2.1.cap] 26 fun b2 h3 =>
 newC h3 [.int .i64 deep] 3 fun b4 h5 =>
 Zbs (ZW right=true) <| newC h5 [right] 32 fun b6 h7 =>
 ldP h7 b 0 fun t =>
 Zd t fun b8 o =>
 ldI h7 b8 o .i64 fun t9 =>
 Zd t fun b10 o11 =>
 st h7 b10 o11 (.int .i64 (IntKind.wrap .i64 (t9+1))) fun h12 =>
 ldP h12 b 0 fun t13 =>
 Zd t13 fun b14 o15 =>
 ldI h12 b14 o15 .i64 fun t16 =>
 ZE (decide (t16>65536)) (
 K false h12) (
 ldV h12 b6 0 fun t17 =>
 ldI h12 b2 0 .u8 fun t18=>ldS h12 b2 (0+1) fun t19=>ldL h12 b2 (0+2) fun t20=>ldL h12 b2 (0+3) fun t21 =>
 (ZrC t17 15 <| f32 (t18,t19,t20,t21,()) (fun t24 h22 =>
 ZE (!t24) (
 K false h22) (
 ZbZ (σ:=Unit) (fun s h28 =>
 ldP h28 b 0 fun t29 =>
 ldP h28 b 0 fun t30 =>
 Zd t30 fun b31 o32 =>
 ldI h28 b31 (o32+1) .i64 fun t33 =>
 ldI h28 b4 0 .i64 fun t34 =>
 Zd t29 fun b35 o36 =>
 st h28 b35 (o36+1) (.int .i64 (Zoh t33 (IntKind.wrap .i64 (t34+1)))) fun h37 =>
 ldI h37 b4 0 .i64 fun t38 =>
 ZE (decide (t38≥64)) (
 K true h37) (
 ldL h37 b2 (0+2) fun t39 =>
 f36 t39 (some ⟨b,0,none⟩,some ⟨b4,0,none⟩,some ⟨b6,0,none⟩,()) (fun t40 h41 =>
 ZP (!t40) fun t42 =>
 K t42 h41) h37)) (fun J25 =>
 ldI h22 b2 0 .u8 fun t26 =>
 ZE (t26 !=6) (
 ldI h22 b2 0 .u8 fun t27 =>
 ZE (t27 !=7) (
 K true h22) (
 J25 (()) h22)) (
 J25 (()) h22)))) h12)∨(
 False))
def Xp (f33:ZfJ):ZfJ:=Zaf Zap (Zj f33)
def Yi:Nat→ZfJ
 | 0=>fun _ _ _ _ _ _=>False
 | n+1=>Xp (Yi n)
def Zad:ZfJ:=fun c v deep right K h=>∃ n,Yi n c v deep right K h
abbrev Zno:=(Int × ByteArray × Sl × Sl × Unit)→(Bool→HP)→HP
def Zct (f33:ZfJ) (v:Int × ByteArray × Sl × Sl × Unit) (K:Bool→HP) (h:Zb):Prop :=
 newC h [.int .u8 v.1,.string v.2.1,.slice v.2.2.1.ptr v.2.2.1.len v.2.2.1.cap,.slice v.2.2.2.1.ptr v.2.2.2.1.len v.2.2.2.1.cap] 26 fun b h1 =>
 newC h1 [.int .i64 0,.int .i64 0] 52 fun b2 h3 =>
 ldI h3 b 0 .u8 fun t=>ldS h3 b (0+1) fun t4=>ldL h3 b (0+2) fun t5=>ldL h3 b (0+3) fun t6 =>
 f33 (some ⟨b2,0,none⟩) (t,t4,t5,t6,()) 0 (.func (.func 15) #[] #[]) (fun t7 h8 =>
 ZE t7 (
 ldI h8 b2 (0+1) .i64 fun t9 =>
 ZP (decide (t9≤64)) fun t10 =>
 K t10 h8) (
 K false h8)) h3
def Xi:Zno:=Zct Zad
abbrev Znn:=(Option Addr)→(Int→HP)→HP
def Xj (b:Option Addr) (K:Int→HP) (h:Zb):Prop :=
 ZJ 0 fun t =>
 Zd b fun b1 o =>
 ldL h b1 (o+1) fun t2 =>
 ZJ (t2.len:Int) fun t3 =>
 K t3 h
def Z0:Znn:=Xj
abbrev Zpa:=(Option Addr)→ByteArray→(HP)→HP
def X2 (f7:zT7) (f1:zT1) (f18:ZkE) (w:Option Addr) (s:ByteArray) (K:HP) (h:Zb):Prop :=
 Zd w fun b o =>
 f7 (some ⟨b,o,none⟩) 34 (fun t h1 =>
 Zb9 (σ:=Int × Unit) (fun J2 s3 h4 =>
 (fun (s13:Int) =>
 ZE (decide (s13<(s.size:Int))) (
 ZJ s13 fun i =>
 ZkA s i fun t5 =>
 ZJ t5 fun c =>
 f1 (ByteArray.mk #[8,12,10,13,9]) c (fun t6 h7 =>
 ZJ t6 fun k =>
 ZbZ (σ:=Bool × Unit) (fun s10 h11 =>
 (fun (s26:Bool) =>
 ZE s26 (
 Zd w fun b12 o13 =>
 f7 (some ⟨b12,o13,none⟩) 92 (fun t14 h15 =>
 Zd w fun b16 o17 =>
 f7 (some ⟨b16,o17,none⟩) c (fun t18 h19 =>
 J2 (IntKind.wrap .i64 (s13+1),()) h19) h15) h11) (
 ZP (decide (k≥0)) fun t20 =>
 ZE t20 (
 Zd w fun b21 o22 =>
 f7 (some ⟨b21,o22,none⟩) 92 (fun t23 h24 =>
 Zd w fun b25 o26 =>
 ZkA (ByteArray.mk #[98,102,110,114,116]) k fun t27 =>
 f7 (some ⟨b25,o26,none⟩) t27 (fun t28 h29 =>
 J2 (IntKind.wrap .i64 (s13+1),()) h29) h24) h11) (
 ZP (decide (c<32)) fun t30 =>
 ZE t30 (
 Zd w fun b31 o32 =>
 f18 (some ⟨b31,o32,none⟩) (ByteArray.mk #[92,117,48,48]) (fun t33 t34 h35 =>
 Zd w fun b36 o37 =>
 Zbs (0≤(4:Int)) <|
 ZkA (ByteArray.mk #[48,49,50,51,52,53,54,55,56,57,97,98,99,100,101,102]) (ZjW .u8 c 4) fun t38 =>
 f7 (some ⟨b36,o37,none⟩) t38 (fun t39 h40 =>
 Zd w fun b41 o42 =>
 ZkA (ByteArray.mk #[48,49,50,51,52,53,54,55,56,57,97,98,99,100,101,102]) (ZjN .u8 c 15) fun t43 =>
 f7 (some ⟨b41,o42,none⟩) t43 (fun t44 h45 =>
 J2 (IntKind.wrap .i64 (s13+1),()) h45) h40) h35) h11) (
 Zd w fun b46 o47 =>
 f7 (some ⟨b46,o47,none⟩) c (fun t48 h49 =>
 J2 (IntKind.wrap .i64 (s13+1),()) h49) h11)))) s10.1) (fun J8 =>
 ZE (c ==34) (
 J8 (true,()) h7) (
 ZP (c ==92) fun t9 =>
 J8 (t9,()) h7))) h4) (
 Zd w fun b50 o51 =>
 f7 (some ⟨b50,o51,none⟩) 34 (fun t52 h53 =>
 K h53) h4)) s3.1) (0,()) h1) h
def YF:Zpa:=X2 Zl ZY Zk
abbrev Zi1:=(Option Addr)→(Int × ByteArray × Sl × Sl × Unit)→(HP)→HP
def XI (f38:Znn) (f18:ZkE) (f39:Zpa) (f7:zT7) (f40:Zi1) (w:Option Addr) (v:Int × ByteArray × Sl × Sl × Unit) (K:HP) (h:Zb):Prop :=
 newC h [.int .u8 v.1,.string v.2.1,.slice v.2.2.1.ptr v.2.2.1.len v.2.2.1.cap,.slice v.2.2.2.1.ptr v.2.2.2.1.len v.2.2.2.1.cap] 26 fun b h1 =>
 Zd w fun b2 o =>
 f38 (some ⟨b2,o,none⟩) (fun t h3 =>
 ZE (decide (t>65536)) (
 K h3) (
 ldI h3 b 0 .u8 fun t4 =>
 ZP (t4 ==1) fun t5 =>
 ZE t5 (
 Zd w fun b6 o7 =>
 f18 (some ⟨b6,o7,none⟩) (ByteArray.mk #[110,117,108,108]) (fun t8 t9 h10 =>
 K h10) h3) (
 ZP (t4 ==2) fun t11 =>
 ZE t11 (
 Zd w fun b12 o13 =>
 f18 (some ⟨b12,o13,none⟩) (ByteArray.mk #[102,97,108,115,101]) (fun t14 t15 h16 =>
 K h16) h3) (
 ZP (t4 ==3) fun t17 =>
 ZE t17 (
 Zd w fun b18 o19 =>
 f18 (some ⟨b18,o19,none⟩) (ByteArray.mk #[116,114,117,101]) (fun t20 t21 h22 =>
 K h22) h3) (
 ZP (t4 ==4) fun t23 =>
 ZE t23 (
 Zd w fun b24 o25 =>
 ldS h3 b (0+1) fun t26 =>
 f18 (some ⟨b24,o25,none⟩) t26 (fun t27 t28 h29 =>
 K h29) h3) (
 ZP (t4 ==5) fun t30 =>
 ZE t30 (
 ldS h3 b (0+1) fun t31 =>
 f39 w t31 (fun h32 =>
 K h32) h3) (
 ZbZ (σ:=ByteArray × Unit) (fun s h35 =>
 (fun (ends:ByteArray) =>
 Zd w fun b36 o37 =>
 ZkA ends 0 fun t38 =>
 f7 (some ⟨b36,o37,none⟩) t38 (fun t39 h40 =>
 ldL h40 b (0+2) fun t41 =>
 Zb9 (σ:=Int × Unit) (fun J42 s43 h44 =>
 (fun (s26:Int) =>
 ZE (decide (s26<(t41.len:Int))) (
 Zh0 t41.ptr t41.len s26 4 fun b45 o46 =>
 ldI h44 b45 o46 .u8 fun t47=>ldS h44 b45 (o46+1) fun t48=>ldL h44 b45 (o46+2) fun t49=>ldL h44 b45 (o46+3) fun t50 =>
 newC h44 [.int .u8 0,.string (ByteArray.mk #[]),.slice none 0 0,.slice none 0 0] 26 fun b51 h52 =>
 ZJ s26 fun i =>
 sts h52 b51 0 [.int .u8 t47,.string t48,.slice t49.ptr t49.len t49.cap,.slice t50.ptr t50.len t50.cap] fun h53 =>
 ZbZ (σ:=Unit) (fun s59 h60 =>
 ZbZ (σ:=Unit) (fun s72 h73 =>
 ldI h73 b51 0 .u8 fun t74=>ldS h73 b51 (0+1) fun t75=>ldL h73 b51 (0+2) fun t76=>ldL h73 b51 (0+3) fun t77 =>
 f40 w (t74,t75,t76,t77,()) (fun h78 =>
 J42 (IntKind.wrap .i64 (s26+1),()) h78) h73) (fun J61 =>
 ldI h60 b 0 .u8 fun t62 =>
 ZE (t62 ==7) (
 ldL h60 b (0+3) fun t63 =>
 Zh0 t63.ptr t63.len i 1 fun b64 o65 =>
 ldS h60 b64 o65 fun t66 =>
 f39 w t66 (fun h67 =>
 Zd w fun b68 o69 =>
 f7 (some ⟨b68,o69,none⟩) 58 (fun t70 h71 =>
 J61 (()) h71) h67) h60) (
 J61 (()) h60))) (fun J54 =>
 ZE (decide (i>0)) (
 Zd w fun b55 o56 =>
 f7 (some ⟨b55,o56,none⟩) 44 (fun t57 h58 =>
 J54 (()) h58) h53) (
 J54 (()) h53))) (
 Zd w fun b79 o80 =>
 ZkA ends 1 fun t81 =>
 f7 (some ⟨b79,o80,none⟩) t81 (fun t82 h83 =>
 K h83) h44)) s43.1) (0,()) h40) h35) s.1) (fun J33 =>
 ldI h3 b 0 .u8 fun t34 =>
 ZE (t34 ==7) (
 J33 (ByteArray.mk #[123,125],()) h3) (
 J33 (ByteArray.mk #[91,93],()) h3))))))))) h1
def YZ (f40:Zi1):Zi1:=XI Z0 Zk YF Zl f40
def Z6:Nat→Zi1
 | 0=>fun _ _ _ _=>False
 | n+1=>YZ (Z6 n)
def XF:Zi1:=fun w v K h=>∃ n,Z6 n w v K h
abbrev Zo9:=(Int × ByteArray × Sl × Sl × Unit)→(ByteArray→Int→HP)→HP
def Zcu (f37:Zno) (f40:Zi1) (f38:Znn) (f5:zT5) (v:Int × ByteArray × Sl × Sl × Unit) (K:ByteArray→Int→HP) (h:Zb):Prop :=
 newC h [.int .u8 v.1,.string v.2.1,.slice v.2.2.1.ptr v.2.2.1.len v.2.2.1.cap,.slice v.2.2.2.1.ptr v.2.2.2.1.len v.2.2.2.1.cap] 26 fun b h1 =>
 ZJ 0 fun t =>
 ldI h1 b 0 .u8 fun t2=>ldS h1 b (0+1) fun t3=>ldL h1 b (0+2) fun t4=>ldL h1 b (0+3) fun t5 =>
 f37 (t2,t3,t4,t5,()) (fun t6 h7 =>
 ZE (!t6) (
 ZJ 6 fun t8 =>
 K (ByteArray.mk #[]) t8 h7) (
 newC h7 [.pointer none,.slice none 0 0] 45 fun b9 h10 =>
 ldI h10 b 0 .u8 fun t11=>ldS h10 b (0+1) fun t12=>ldL h10 b (0+2) fun t13=>ldL h10 b (0+3) fun t14 =>
 f40 (some ⟨b9,0,none⟩) (t11,t12,t13,t14,()) (fun h15 =>
 f38 (some ⟨b9,0,none⟩) (fun t16 h17 =>
 ZE (decide (t16>65536)) (
 ZJ 5 fun t18 =>
 K (ByteArray.mk #[]) t18 h17) (
 f5 (some ⟨b9,0,none⟩) (fun t19 h20 =>
 ZJ 0 fun t21 =>
 K t19 t21 h20) h17)) h15) h10)) h1
def Zaq:Zo9:=Zcu Xi XF Z0 ZT
abbrev ZkD:=Int→Int→Int→(Bool→HP)→HP
def Zbi (n:Int) (lo:Int) (hi:Int) (K:Bool→HP) (h:Zb):Prop :=
 ZE (decide (n≥lo)) (
 ZP (decide (n≤hi)) fun t =>
 K t h) (
 K false h)
def Yl:ZkD:=Zbi
abbrev ZkC:=ByteArray→(Bool→HP)→HP
def Zbj (f42:ZkD) (s:ByteArray) (K:Bool→HP) (h:Zb):Prop :=
 Zb9 (σ:=Int × Unit) (fun J1 s2 h3 =>
 (fun (s6:Int) =>
 ZE (decide (s6<(s.size:Int))) (
 ZJ s6 fun i =>
 ZkA s i fun t =>
 f42 (IntKind.wrap .i64 t) 33 126 (fun t4 h5 =>
 ZE (!t4) (
 K false h5) (
 J1 (IntKind.wrap .i64 (s6+1),()) h5)) h3) (
 f42 (s.size:Int) 1 64 (fun t6 h7 =>
 ZP t6 fun t8 =>
 K t8 h7) h3)) s2.1) (0,()) h
def Ym:ZkC:=Zbj Yl
abbrev Zo8:=ByteArray→(Bool→HP)→HP
def Xk (f43:ZkC) (s:ByteArray) (K:Bool→HP) (h:Zb):Prop :=
 f43 s (fun t h1 =>
 ZP (!t) fun t2 =>
 K t2 h1) h
def YE:Zo8:=Xk Ym
abbrev Zo7:=Sl→(Int→HP)→HP
def ZF (f44:Zo8) (s:Sl) (K:Int→HP) (h:Zb):Prop :=
 ZJ 0 fun t =>
 Zb9 (σ:=Int × Unit) (fun J1 s2 h3 =>
 (fun (s8:Int) =>
 ZE (decide (s8<(s.len:Int))) (
 ZJ s8 fun i =>
 Zh0 s.ptr s.len i 1 fun b o =>
 ldS h3 b o fun t4 =>
 f44 t4 (fun t5 h6 =>
 ZE t5 (
 ZJ i fun t7 =>
 K t7 h6) (
 J1 (IntKind.wrap .i64 (s8+1),()) h6)) h3) (
 ZJ (-1) fun t8 =>
 K t8 h3)) s2.1) (0,()) h
def Zu:Zo7:=ZF YE
abbrev Zo6:=Sl→(Bool→HP)→HP
def ZD (f45:Zo7) (s:Sl) (K:Bool→HP) (h:Zb):Prop :=
 f45 s (fun t h1 =>
 ZP (decide (t≥0)) fun t2 =>
 K t2 h1) h
def Zs:Zo6:=ZD Zu
abbrev Zo5:=(ByteArray × Sl × Unit)→(Bool→HP)→HP
def XH (f43:ZkC) (f46:Zo6) (r:ByteArray × Sl × Unit) (K:Bool→HP) (h:Zb):Prop :=
 newC h [.string r.1,.slice r.2.1.ptr r.2.1.len r.2.1.cap] 62 fun b h1 =>
 ldS h1 b 0 fun t =>
 f43 t (fun t2 h3 =>
 ZE t2 (
 ldL h3 b (0+1) fun t4 =>
 f46 t4 (fun t5 h6 =>
 ZP (!t5) fun t7 =>
 K t7 h6) h3) (
 K false h3)) h1
def Yz:Zo5:=XH Ym Zs
abbrev Zo4:=(Option Addr)→(Option Addr)→(Bool→HP)→HP
def Zc2 (f42:ZkD) (a0:Option Addr) (a1:Option Addr) (K:Bool→HP) (h:Zb):Prop :=
 Zd a0 fun b o =>
 ldI h b (o+3) .i64 fun t =>
 Zd a1 fun b1 o2=>ldI h b1 o2 .i64 fun t3 =>
 f42 t t3 1099511627776 (fun t4 h5 =>
 ZP t4 fun t6 =>
 K t6 h5) h
def Zbh:Zo4:=Zc2 Yl
abbrev Zo3:=(Option Addr)→(Bool→HP)→HP
def Zc1 (a0:Option Addr) (K:Bool→HP) (h:Zb):Prop :=
 Zd a0 fun b o =>
 ldI h b (o+4) .u8 fun t =>
 ZE (decide (t≤2)) (
 Zd a0 fun b1 o2 =>
 ldI h b1 (o2+6) .u8 fun t3 =>
 ZP (decide (t3≤3)) fun t4 =>
 K t4 h) (
 K false h)
def Zbg:Zo3:=Zc1
abbrev Zo2:=(Option Addr)→(Bool→HP)→HP
def Zc0 (a0:Option Addr) (K:Bool→HP) (h:Zb):Prop :=
 Zd a0 fun b o =>
 ldI h b (o+4) .u8 fun t =>
 ZE (t !=0) (
 K true h) (
 Zd a0 fun b1 o2 =>
 ldS h b1 (o2+5) fun t3 =>
 ZP (Za9 t3 (ByteArray.mk #[])) fun t4 =>
 K t4 h)
def Zbf:Zo2:=Zc0
abbrev Zo1:=(Option Addr)→(Bool→HP)→HP
def ZcZ (a0:Option Addr) (K:Bool→HP) (h:Zb):Prop :=
 Zd a0 fun b o =>
 ldB h b (o+2) fun t =>
 ZE (!t) (
 K true h) (
 Zd a0 fun b1 o2 =>
 ldI h b1 (o2+6) .u8 fun t3 =>
 ZE (t3 ==0) (
 Zd a0 fun b4 o5 =>
 ldB h b4 (o5+9) fun t6 =>
 ZP (!t6) fun t7 =>
 K t7 h) (
 K false h))
def Zbe:Zo1:=ZcZ
abbrev Znm:=Bool→Int→Int→Int→(Bool→HP)→HP
def Zd8 (f42:ZkD) (asked:Bool) (n:Int) (lo:Int) (hi:Int) (K:Bool→HP) (h:Zb):Prop :=
 ZE asked (
 f42 n lo hi (fun t h1 =>
 ZE t (
 K true h1) (
 ZE (!asked) (
 ZP (n ==0) fun t2 =>
 K t2 h1) (
 K false h1))) h) (
 ZE (!asked) (
 ZP (n ==0) fun t3 =>
 K t3 h) (
 K false h))
def Zan:Znm:=Zd8 Yl
abbrev Zo0:=(Option Addr)→(Option Addr)→(Option Addr)→(Bool→HP)→HP
def ZcY (f52:Znm) (a0:Option Addr) (a1:Option Addr) (a2:Option Addr) (K:Bool→HP) (h:Zb):Prop :=
 Zd a0 fun b o=>ldB h b o fun t =>
 Zd a1 fun b1 o2 =>
 ldI h b1 (o2+7) .i64 fun t3 =>
 f52 t t3 1 3600 (fun t4 h5 =>
 ZE t4 (
 Zd a2 fun b6 o7=>ldB h5 b6 o7 fun t8 =>
 Zd a1 fun b9 o10 =>
 ldI h5 b9 (o10+8) .i64 fun t11 =>
 f52 t8 t11 0 3600000000 (fun t12 h13 =>
 ZP t12 fun t14 =>
 K t14 h13) h5) (
 K false h5)) h
def Zbd:Zo0:=ZcY Zan
abbrev ZoZ:=(Option Addr)→(Bool→HP)→HP
def ZcX (a0:Option Addr) (K:Bool→HP) (h:Zb):Prop :=
 Zd a0 fun b o =>
 ldB h b (o+9) fun t =>
 ZE (!t) (
 K true h) (
 Zd a0 fun b1 o2 =>
 ldI h b1 (o2+4) .u8 fun t3 =>
 ZE (t3 ==0) (
 Zd a0 fun b4 o5 =>
 ldI h b4 (o5+6) .u8 fun t6 =>
 ZP (t6 ==0) fun t7 =>
 K t7 h) (
 K false h))
def Zbc:ZoZ:=ZcX
abbrev ZoY:=(Option Addr)→(Bool→HP)→HP
def ZcW (f52:Znm) (a0:Option Addr) (K:Bool→HP) (h:Zb):Prop :=
 Zd a0 fun b o =>
 ldB h b (o+9) fun t =>
 Zd a0 fun b1 o2 =>
 ldI h b1 (o2+10) .i64 fun t3 =>
 f52 t t3 1 1099511627776 (fun t4 h5 =>
 ZE t4 (
 Zd a0 fun b6 o7 =>
 ldB h5 b6 (o7+9) fun t8 =>
 ZE t8 (
 K true h5) (
 Zd a0 fun b9 o10 =>
 ldB h5 b9 (o10+11) fun t11 =>
 ZP (!t11) fun t12 =>
 K t12 h5)) (
 K false h5)) h
def Zbb:ZoY:=ZcW Zan
abbrev ZoX:=(ByteArray × Sl × Int × Unit)→Sl→(Int→HP)→HP
def ZaR (f47:Zo5) (f48:Zo4) (f49:Zo3) (f50:Zo2) (f51:Zo1) (f53:Zo0) (f54:ZoZ) (f55:ZoY) (l:ByteArray × Sl × Int × Unit) (all:Sl) (K:Int→HP) (h:Zb):Prop :=
 newC h [.string l.1,.slice l.2.1.ptr l.2.1.len l.2.1.cap,.int .i64 l.2.2.1] 64 fun b h1 =>
 ZJ 0 fun t =>
 ldS h1 b 0 fun t2=>ldL h1 b (0+1) fun t3 =>
 f47 (t2,t3,()) (fun t4 h5 =>
 ZE (!t4) (
 ZJ 10 fun t6 =>
 K t6 h5) (
 Zb9 (σ:=Int × Unit) (fun J7 s h8 =>
 (fun (s13:Int) =>
 ZE (decide (s13<(all.len:Int))) (
 Zh0 all.ptr all.len s13 1 fun b9 o =>
 ldV h8 b9 o fun t10 =>
 (exG t10 (fun c:Option Addr × Option Addr × Unit=> .func (.func 21) #[] ⟨[.pointer c.1,.pointer c.2.1]⟩) fun c=>f48 c.1 c.2.1 (fun t12 h11 =>
 ZE (!t12) (
 ldI h11 b (0+2) .i64 fun t19 =>
 ZJ t19 fun t20 =>
 K t20 h11) (
 J7 (IntKind.wrap .i64 (s13+1),()) h11)) h8)∨(
 (exG t10 (fun c13:Option Addr × Unit=> .func (.func 22) #[] ⟨[.pointer c13.1]⟩) fun c13=>f49 c13.1 (fun t12 h11 =>
 ZE (!t12) (
 ldI h11 b (0+2) .i64 fun t19 =>
 ZJ t19 fun t20 =>
 K t20 h11) (
 J7 (IntKind.wrap .i64 (s13+1),()) h11)) h8)∨(
 (exG t10 (fun c14:Option Addr × Unit=> .func (.func 23) #[] ⟨[.pointer c14.1]⟩) fun c14=>f50 c14.1 (fun t12 h11 =>
 ZE (!t12) (
 ldI h11 b (0+2) .i64 fun t19 =>
 ZJ t19 fun t20 =>
 K t20 h11) (
 J7 (IntKind.wrap .i64 (s13+1),()) h11)) h8)∨(
 (exG t10 (fun c15:Option Addr × Unit=> .func (.func 24) #[] ⟨[.pointer c15.1]⟩) fun c15=>f51 c15.1 (fun t12 h11 =>
 ZE (!t12) (
 ldI h11 b (0+2) .i64 fun t19 =>
 ZJ t19 fun t20 =>
 K t20 h11) (
 J7 (IntKind.wrap .i64 (s13+1),()) h11)) h8)∨(
 (exG t10 (fun c16:Option Addr × Option Addr × Option Addr × Unit=> .func (.func 25) #[] ⟨[.pointer c16.1,.pointer c16.2.1,.pointer c16.2.2.1]⟩) fun c16=>f53 c16.1 c16.2.1 c16.2.2.1 (fun t12 h11 =>
 ZE (!t12) (
 ldI h11 b (0+2) .i64 fun t19 =>
 ZJ t19 fun t20 =>
 K t20 h11) (
 J7 (IntKind.wrap .i64 (s13+1),()) h11)) h8)∨(
 (exG t10 (fun c17:Option Addr × Unit=> .func (.func 27) #[] ⟨[.pointer c17.1]⟩) fun c17=>f54 c17.1 (fun t12 h11 =>
 ZE (!t12) (
 ldI h11 b (0+2) .i64 fun t19 =>
 ZJ t19 fun t20 =>
 K t20 h11) (
 J7 (IntKind.wrap .i64 (s13+1),()) h11)) h8)∨(
 (exG t10 (fun c18:Option Addr × Unit=> .func (.func 28) #[] ⟨[.pointer c18.1]⟩) fun c18=>f55 c18.1 (fun t12 h11 =>
 ZE (!t12) (
 ldI h11 b (0+2) .i64 fun t19 =>
 ZJ t19 fun t20 =>
 K t20 h11) (
 J7 (IntKind.wrap .i64 (s13+1),()) h11)) h8)∨(
 False)))))))) (
 ZJ 0 fun t21 =>
 K t21 h8)) s.1) (0,()) h5)) h1
def XY:ZoX:=ZaR Yz Zbh Zbg Zbf Zbe Zbd Zbc Zbb
abbrev ZoW:=(ByteArray × ByteArray × Bool × Int × Int × ByteArray × Int × Int × Int × Bool × Int × Bool × Unit)→(Int→HP)→HP
def Zcr (f56:ZoX) (r:ByteArray × ByteArray × Bool × Int × Int × ByteArray × Int × Int × Int × Bool × Int × Bool × Unit) (K:Int→HP) (h:Zb):Prop :=
 newC h [.string r.1,.string r.2.1,.bool r.2.2.1,.int .i64 r.2.2.2.1,.int .u8 r.2.2.2.2.1,.string r.2.2.2.2.2.1,.int .u8 r.2.2.2.2.2.2.1,.int .i64 r.2.2.2.2.2.2.2.1,.int .i64 r.2.2.2.2.2.2.2.2.1,.bool r.2.2.2.2.2.2.2.2.2.1,.int .i64 r.2.2.2.2.2.2.2.2.2.2.1,.bool r.2.2.2.2.2.2.2.2.2.2.2.1] 39 fun b h1 =>
 ZJ 0 fun t =>
 ldS h1 b (0+1) fun t2 =>
 newC h1 [.string t2] 9 fun b3 h4 =>
 ZbZ (σ:=Sl × Unit) (fun s h19 =>
 (fun (names:Sl) =>
 ZbZ (σ:=Option Addr × Unit) (fun s29 h30 =>
 (fun (warm:Option Addr) =>
 ZbZ (σ:=Option Addr × Unit) (fun s40 h41 =>
 (fun (paced:Option Addr) =>
 newC h41 [.int .i64 0] 3 fun b42 h43 =>
 st h43 b42 0 (.int .i64 1) fun h44 =>
 ZbZ (σ:=Unit) (fun s48 h49 =>
 ldS h49 b 0 fun t50 =>
 newC h49 [.func (.func 21) #[] #[.pointer (some ⟨b,0,none⟩),.pointer (some ⟨b42,0,none⟩)],.func (.func 22) #[] #[.pointer (some ⟨b,0,none⟩)],.func (.func 23) #[] #[.pointer (some ⟨b,0,none⟩)],.func (.func 24) #[] #[.pointer (some ⟨b,0,none⟩)],.func (.func 25) #[] #[.pointer warm,.pointer (some ⟨b,0,none⟩),.pointer paced],.func (.func 27) #[] #[.pointer (some ⟨b,0,none⟩)],.func (.func 28) #[] #[.pointer (some ⟨b,0,none⟩)]] 66 fun b51 h52 =>
 f56 (t50,names,30,()) ⟨some ⟨b51,0,none⟩,7,7⟩ (fun t53 h54 =>
 ZJ t53 fun t55 =>
 K t55 h54) h52) (fun J45 =>
 ldI h44 b (0+6) .u8 fun t46 =>
 ZE (t46 ==0) (
 st h44 b42 0 (.int .i64 0) fun h47 =>
 J45 (()) h47) (
 J45 (()) h44))) s40.1) (fun J31 =>
 ldI h30 b (0+6) .u8 fun t32 =>
 ZE (t32 ==2) (
 newC h30 [.bool false] 4 fun b33 h34 =>
 st h34 b33 0 (.bool true) fun h35 =>
 J31 (some ⟨b33,0,none⟩,()) h35) (
 ldI h30 b (0+6) .u8 fun t36 =>
 newC h30 [.bool false] 4 fun b37 h38 =>
 st h38 b37 0 (.bool (t36 ==3)) fun h39 =>
 J31 (some ⟨b37,0,none⟩,()) h39))) s29.1) (fun J20 =>
 ldI h19 b (0+6) .u8 fun t21 =>
 ZE (t21 ==1) (
 newC h19 [.bool false] 4 fun b22 h23 =>
 st h23 b22 0 (.bool true) fun h24 =>
 J20 (some ⟨b22,0,none⟩,()) h24) (
 ldI h19 b (0+6) .u8 fun t25 =>
 newC h19 [.bool false] 4 fun b26 h27 =>
 st h27 b26 0 (.bool (t25 ==3)) fun h28 =>
 J20 (some ⟨b26,0,none⟩,()) h28))) s.1) (fun J5 =>
 ldI h4 b (0+4) .u8 fun t6 =>
 ZE (t6 ==1) (
 ldS h4 b (0+5) fun t7 =>
 newC h4 [.string t7] 9 fun b8 h9 =>
 rdS ⟨some ⟨b8,0,none⟩,1,1⟩ 1 h9 fun new=>app 9 1 16 [.string (ByteArray.mk #[])] ⟨some ⟨b3,0,none⟩,1,1⟩ 1 new h9 fun t10 h11 =>
 J5 (t10,()) h11) (
 ldI h4 b (0+4) .u8 fun t12 =>
 ZE (t12 ==2) (
 ldS h4 b (0+5) fun t13 =>
 newC h4 [.string t13] 9 fun b14 h15 =>
 rdS ⟨some ⟨b14,0,none⟩,1,1⟩ 1 h15 fun new18=>app 9 1 16 [.string (ByteArray.mk #[])] ⟨some ⟨b3,0,none⟩,1,1⟩ 1 new18 h15 fun t16 h17 =>
 J5 (t16,()) h17) (
 J5 (⟨some ⟨b3,0,none⟩,1,1⟩,()) h4)))
def Zao:ZoW:=Zcr XY
abbrev ZrB:=ByteArray→(Bool→HP)→HP
def Xb (f0:zT0) (f41:Zo9) (f43:ZkC) (f37:Zno) (f27:ZoK) (f57:ZoW) (s:ByteArray) (K:Bool→HP) (h:Zb):Prop :=
 f0 s (fun t h1 =>
 newC h1 [.int .u8 0,.string (ByteArray.mk #[]),.slice none 0 0,.slice none 0 0] 26 fun b h2 =>
 sts h2 b 0 [.int .u8 t.1,.string t.2.1,.slice t.2.2.1.ptr t.2.2.1.len t.2.2.1.cap,.slice t.2.2.2.1.ptr t.2.2.2.1.len t.2.2.2.1.cap] fun h3 =>
 ldI h3 b 0 .u8 fun t4=>ldS h3 b (0+1) fun t5=>ldL h3 b (0+2) fun t6=>ldL h3 b (0+3) fun t7 =>
 f41 (t4,t5,t6,t7,()) (fun t8 t9 h10 =>
 ZJ t9 fun e =>
 ZE (e !=0) (
 f43 s (fun t11 h12 =>
 ZE (!t11) (
 ZE (e ==5) (
 K true h12) (
 ldI h12 b 0 .u8 fun t13=>ldS h12 b (0+1) fun t14=>ldL h12 b (0+2) fun t15=>ldL h12 b (0+3) fun t16 =>
 f37 (t13,t14,t15,t16,()) (fun t17 h18 =>
 ZP (!t17) fun t19 =>
 K t19 h18) h12)) (
 K false h12)) h10) (
 f27 t8 (fun t20 t21 t22 h23 =>
 newC h23 [.int .u8 0,.string (ByteArray.mk #[]),.slice none 0 0,.slice none 0 0] 26 fun b24 h25 =>
 sts h25 b24 0 [.int .u8 t20.1,.string t20.2.1,.slice t20.2.2.1.ptr t20.2.2.1.len t20.2.2.1.cap,.slice t20.2.2.2.1.ptr t20.2.2.2.1.len t20.2.2.2.1.cap] fun h26 =>
 ZJ t21 fun f =>
 ZJ t22 fun x =>
 f57 (s,ByteArray.mk #[100,101,102,97,117,108,116],false,1,0,ByteArray.mk #[],0,0,0,false,0,false,()) (fun t27 h28 =>
 ZJ t27 fun f2 =>
 ZE (f ==0) (
 ldI h28 b24 0 .u8 fun t29 =>
 ZE (t29 ==5) (
 ldS h28 b24 (0+1) fun t30 =>
 ZE (Za9 t30 s) (
 f43 s (fun t31 h32 =>
 ZE (t31 ==(f2 ==0)) (
 ZE (f2 ==0) (
 K true h32) (
 ZP (f2 ==10) fun t33 =>
 K t33 h32)) (
 K false h32)) h28) (
 K false h28)) (
 K false h28)) (
 K false h28)) h26) h10)) h3) h
def Y9:ZrB:=Xb X0 Zaq Ym Xi YH Zao
end Go.Proofs.YtgiolidekcckiaaDoor
