/- From a law's model to the call: it returns true, and what was there is as it was. -/
import Derived.Below
import Derived.Test.YthbfgkphlmlihaaGreatRows
import Derived.Deep.Slices
import Derived.ChangeSlices
import Derived.Test.YthbfgkphlmlihaaGreatPa8
set_option linter.unusedVariables false
set_option linter.unusedSimpArgs false
namespace Go.Fw
open Go Go.RowKit
theorem ZpS {P:Program} {f:FuncId} {s:Ze} (ok:Zm P f s) (t:Xa s.args) (w:World) {args:Array Value} (hargs:((Xa.evs s.args t).map EV.v).toArray=args)
    (h:s.sem t (fun r h'=>Zvr s.res r = .bool true∧Ext w.heap h') (fun _ _=>False) w.heap):Calls P f args w fun e w'=>e = .returned (.bool true)∧Below w.heap.size w w':=by
  rw [← hargs]
  refine (ok.calls t _ _ w h).mono ?_
  rintro e w' (⟨r,rfl,hs,hr,hx⟩ | ⟨v,rfl,hs,hk⟩)
  ·exact ⟨by rw [hr],hs.2.1,hs.1,hs.2.2,hx.size,hx.old⟩
  ·exact hk.elim
end Go.Fw
namespace Go.Proofs.YthbfgkphlmlihaaGreat
open Go Go.Fw Go.ChangeShapes Go.WideShapes
theorem Zgq {n:Nat} (h:n≤maxLen):n<9223372036854775808:=by
  have e:maxLen=9223372036854775807:=by decide
  omega
theorem Zpp {w:World} {a:Addr} {v:Value} (h:w.cell? a=some v):a=⟨a.block,a.off,none⟩:=by
  obtain ⟨b,o,s⟩:=a
  unfold World.cell? at h
  split at h
  ·cases s with
   | none=>rfl
   | some s=>simp at h
  ·cases h
theorem Zm2 {b o i:Nat}:(⟨b,o,none⟩:Addr).add i=⟨b,o+i,none⟩:=ZiG b o i
section
variable {H:Type} {enc:TypeId × Value→H} {P:Program} {w:World} {base:Nat} {spare:Nat→Bool} {held:Bool}
end
end Go.Proofs.YthbfgkphlmlihaaGreat
namespace Go.Fw
open Go
def obj (h:Zd) (b:Nat):Option Obj:=h[b]?
def sz (h:Zd):Nat:=h.size
theorem YV {h:Zd}:Array.size h=sz h:=rfl
theorem Zc4 {h:Zd} {x:Obj}:sz (h.push x)=sz h+1:=by unfold sz;simp
theorem ZrD {h:Zd} {b o:Nat} {v:Value}:sz (h.put b o v)=sz h:=by unfold sz;exact Zgj
theorem Zhw {h:Zd} {x:Obj} {b:Nat}:obj (h.push x) b=if b=sz h then some x else obj h b:=by
  unfold obj sz;rw [Array.getElem?_push]
def Zji (o:Nat) (v:Value):Option Obj→Option Obj
  | some (.cells c e f)=>some (.cells (c.setIfInBounds o v) e f)
  | x=>x
theorem Zhh {o:Nat} {v:Value} {l:List Value} {e:TypeId} {f:Nat × Nat}:Zji o v (some (.cells l.toArray e f))=some (.cells (l.set o v).toArray e f):=by
  simp [Zji]
theorem ZpF {h:Zd} {b o k:Nat} {v:Value}:obj (h.put b o v) k=if k=b then Zji o v (obj h k) else obj h k:=by
  unfold obj Zd.put
  rw [Array.getElem?_modify]
  by_cases hk:b=k
  ·subst hk
   rw [if_pos rfl,if_pos rfl]
   cases h[b]? with
   | none=>rfl
   | some x=>cases x<;>rfl
  ·rw [if_neg hk,if_neg (Ne.symm hk)]
def Z7 (o:Nat):Option Obj→Option Value
  | some (.cells c _ _)=>c[o]?
  | _=>none
def ZeD (o:Nat):Option Obj→Bool
  | some (.cells c _ f)=>decide (o<c.size)&&(f.1 ==0&&f.2 ==0)
  | _=>false
theorem Zgo {o:Nat} {l:List Value} {e:TypeId} {f:Nat × Nat}:Z7 o (some (.cells l.toArray e f))=l[o]?:=by simp [Z7]
theorem Zko {o:Nat} {l:List Value} {e:TypeId}:ZeD o (some (.cells l.toArray e (0,0)))=decide (o<l.length):=by simp [ZeD]
theorem YA {h:Zd} {b o:Nat}:h.cell b o=Z7 o (obj h b):=by unfold Zd.cell obj Z7;rfl
theorem Zio {h:Zd} {b o:Nat} (hf:ZeD o (obj h b)=true):(∃ u,h.cell b o=some u)∧h.froz b o=false:=by
  unfold ZeD at hf
  split at hf
  ·rename_i c e f hb
   simp only [Bool.and_eq_true,decide_eq_true_eq,beq_iff_eq] at hf
   obtain ⟨h1,h2,h3⟩:=hf
   have hb':h[b]?=some (.cells c e f):=hb
   refine ⟨⟨c[o],by unfold Zd.cell;rw [hb'];simp [h1]⟩,?_⟩
   unfold Zd.froz
   rw [hb']
   obtain ⟨lo,hi⟩:=f
   simp only at h2 h3
   subst h2 h3
   simp
  ·cases hf
theorem ZmX {n:Int} {K:Int→Prop}:Zf n K=K n:=propext ⟨fun h=>h,fun h=>h⟩
theorem ZmY {n:Bool} {K:Bool→Prop}:ZE n K=K n:=propext ⟨fun h=>h,fun h=>h⟩
theorem Zte {h:Zd} {cells:List Value} {t:TypeId} {K:Nat→Zd→Prop}:newC h cells t K=K (sz h) (h.push (.cells cells.toArray t (0,0))):=propext ⟨fun h=>h,fun h=>h⟩
theorem ZpJ {h:Zd} {K:Nat→Zd→Prop}:ZfP h K=K (sz h) (h.push (.map #[] 0)):=propext ⟨fun h=>h,fun h=>h⟩
theorem ZpK {p K:Prop}:ZR p K=(p∧K):=propext ⟨fun h=>h,fun h=>h⟩
theorem Zri {p K:Prop}:Ziz p K=(p∧K):=propext ⟨fun h=>h,fun h=>h⟩
theorem Zre {b o:Nat} {K:Nat→Nat→Prop}:Zg (some ⟨b,o,none⟩) K=K b o:=propext ⟨fun ⟨b',o',e,h⟩=>(by cases e;exact h),fun h=>⟨b,o,rfl,h⟩⟩
theorem Ztm {A B:Prop}:Zs true A B=A:=propext ⟨fun h=>h.1 rfl,fun h=>YL h⟩
theorem Ztn {A B:Prop}:Zs false A B=B:=propext ⟨fun h=>h.2 rfl,fun h=>Zz h⟩
theorem ZvN {h:Zd} {b o:Nat} {k:IntKind} {n:Int} {K:Int→Prop} (hc:Z7 o (obj h b)=some (.int k n)):ldI h b o k K=K n :=
  propext ⟨fun ⟨m,e,hk⟩=>(by rw [YA,hc] at e;cases e;exact hk),fun hk=>⟨n,by rw [YA,hc],hk⟩⟩
theorem ZvP {h:Zd} {b o:Nat} {n:Bool} {K:Bool→Prop} (hc:Z7 o (obj h b)=some (.bool n)):ldB h b o K=K n :=
  propext ⟨fun ⟨m,e,hk⟩=>(by rw [YA,hc] at e;cases e;exact hk),fun hk=>⟨n,by rw [YA,hc],hk⟩⟩
theorem ZvF {h:Zd} {b o:Nat} {n:ByteArray} {K:ByteArray→Prop} (hc:Z7 o (obj h b)=some (.string n)):ldS h b o K=K n :=
  propext ⟨fun ⟨m,e,hk⟩=>(by rw [YA,hc] at e;cases e;exact hk),fun hk=>⟨n,by rw [YA,hc],hk⟩⟩
theorem ZvH {h:Zd} {b o:Nat} {n:Option Addr} {K:Option Addr→Prop} (hc:Z7 o (obj h b)=some (.pointer n)):ldP h b o K=K n :=
  propext ⟨fun ⟨m,e,hk⟩=>(by rw [YA,hc] at e;cases e;exact hk),fun hk=>⟨n,by rw [YA,hc],hk⟩⟩
theorem ZvJ {h:Zd} {b o:Nat} {n:Option Nat} {K:Option Nat→Prop} (hc:Z7 o (obj h b)=some (.map n)):ldM h b o K=K n :=
  propext ⟨fun ⟨m,e,hk⟩=>(by rw [YA,hc] at e;cases e;exact hk),fun hk=>⟨n,by rw [YA,hc],hk⟩⟩
theorem ZvD {h:Zd} {b o:Nat} {n:Value} {K:Value→Prop} (hc:Z7 o (obj h b)=some n):ldV h b o K=K n :=
  propext ⟨fun ⟨m,e,hk⟩=>(by rw [YA,hc] at e;cases e;exact hk),fun hk=>⟨n,by rw [YA,hc],hk⟩⟩
theorem ZvL {h:Zd} {b o:Nat} {p:Option Addr} {l c:Nat} {K:Sl→Prop} (hc:Z7 o (obj h b)=some (.slice p l c)):ldL h b o K=K ⟨p,l,c⟩ :=
  propext ⟨fun ⟨m,e,hk⟩=>(by rw [YA,hc] at e;cases e;exact hk),fun hk=>⟨⟨p,l,c⟩,by rw [YA,hc],hk⟩⟩
theorem ZAs {h:Zd} {b o:Nat} {v:Value} {K:Zd→Prop} (hf:ZeD o (obj h b)=true) (hv:ZH v=true):st h b o v K=K (h.put b o v) :=
  propext ⟨fun hk=>hk.2.2.2,fun hk=>⟨(Zio hf).1,(Zio hf).2,hv,hk⟩⟩
theorem ZmQ {h:Zd} {b:Nat}:∀ (n o:Nat),(∀ i,i<n→ZeD (o+i) (obj h b)=true)→h.free b o n
  | 0,_,_=>trivial
  | n+1,o,hf=>⟨Zio (by have:=hf 0 (by omega);simpa using this),ZmQ n (o+1) fun i hi=>by have:=hf (i+1) (by omega);rw [show o+1+i=o+(i+1) from by omega];exact this⟩
def Zmd (o n:Nat):Option Obj→Bool
  | some (.cells c _ f)=>decide (o+n≤c.size)&&(f.1 ==0&&f.2 ==0)
  | _=>false
theorem Zf8 {o n:Nat} {l:List Value} {e:TypeId}:Zmd o n (some (.cells l.toArray e (0,0)))=decide (o+n≤l.length):=by simp [Zmd]
theorem Zq7 {h:Zd} {b o n:Nat} (hf:Zmd o n (obj h b)=true):h.free b o n:=by
  refine ZmQ n o fun i hi=>?_
  unfold Zmd at hf
  split at hf
  ·rename_i c e f hb
   rw [hb]
   simp only [Bool.and_eq_true,decide_eq_true_eq] at hf
   simp only [ZeD,Bool.and_eq_true,decide_eq_true_eq]
   exact ⟨by omega,hf.2⟩
  ·cases hf
theorem Zpn {h:Zd} {b o:Nat} {vs:List Value} {K:Zd→Prop} (hf:Zmd o vs.length (obj h b)=true) (hv:vs.all ZH=true):sts h b o vs K=K (h.puts b o vs) :=
  propext ⟨fun hk=>hk.2.2,fun hk=>⟨Zq7 hf,hv,hk⟩⟩
theorem ZfX {h:Zd} {b o:Nat} {vs:List Value}:sz (h.puts b o vs)=sz h:=Zgi
def Zf0:Nat→List Value→Option Obj→Option Obj
  | _,[],x=>x
  | o,v::vs,x=>Zf0 (o+1) vs (Zji o v x)
def ZcV:Nat→List Value→List Value→List Value
  | _,[],l=>l
  | o,v::vs,l=>ZcV (o+1) vs (l.set o v)
theorem Zdp {e:TypeId} {f:Nat × Nat}:∀ {vs:List Value} {o:Nat} {l:List Value},Zf0 o vs (some (.cells l.toArray e f))=some (.cells (ZcV o vs l).toArray e f)
  | [],_,_=>rfl
  | v::vs,o,l=>by unfold Zf0 ZcV;rw [Zhh,Zdp]
theorem Zhv {b:Nat}:∀ {vs:List Value} {h:Zd} {o k:Nat},obj (h.puts b o vs) k=if k=b then Zf0 o vs (obj h k) else obj h k
  | [],h,o,k=>by
    unfold Zd.puts Zf0
    split<;>rfl
  | v::vs,h,o,k=>by
    unfold Zd.puts
    rw [Zhv,ZpF]
    by_cases hk:k=b
    ·rw [if_pos hk,if_pos hk,if_pos hk];rfl
    ·rw [if_neg hk,if_neg hk,if_neg hk]
theorem Zlk {h:Zd}:Zo h []=True:=rfl
theorem Zjx {h:Zd} {b o:Nat} {v:Value} {r:List (Nat × Nat × Value)}:Zo h ((b,o,v)::r)=(Z7 o (obj h b)=some v∧Zo h r):=by
  rw [← YA];rfl
theorem ZvM {h:Zd} {b o:Nat} {k:IntKind} {K:Int→Prop}:ldI h b o k K=∃ n,Z7 o (obj h b)=some (.int k n)∧K n:=by
  unfold ldI;exact propext ⟨fun ⟨n,e,hk⟩=>⟨n,YA▸e,hk⟩,fun ⟨n,e,hk⟩=>⟨n,YA.trans e,hk⟩⟩
theorem ZvO {h:Zd} {b o:Nat} {K:Bool→Prop}:ldB h b o K=∃ n,Z7 o (obj h b)=some (.bool n)∧K n:=by
  unfold ldB;exact propext ⟨fun ⟨n,e,hk⟩=>⟨n,YA▸e,hk⟩,fun ⟨n,e,hk⟩=>⟨n,YA.trans e,hk⟩⟩
theorem ZvE {h:Zd} {b o:Nat} {K:ByteArray→Prop}:ldS h b o K=∃ n,Z7 o (obj h b)=some (.string n)∧K n:=by
  unfold ldS;exact propext ⟨fun ⟨n,e,hk⟩=>⟨n,YA▸e,hk⟩,fun ⟨n,e,hk⟩=>⟨n,YA.trans e,hk⟩⟩
theorem ZvG {h:Zd} {b o:Nat} {K:Option Addr→Prop}:ldP h b o K=∃ n,Z7 o (obj h b)=some (.pointer n)∧K n:=by
  unfold ldP;exact propext ⟨fun ⟨n,e,hk⟩=>⟨n,YA▸e,hk⟩,fun ⟨n,e,hk⟩=>⟨n,YA.trans e,hk⟩⟩
theorem ZvI {h:Zd} {b o:Nat} {K:Option Nat→Prop}:ldM h b o K=∃ n,Z7 o (obj h b)=some (.map n)∧K n:=by
  unfold ldM;exact propext ⟨fun ⟨n,e,hk⟩=>⟨n,YA▸e,hk⟩,fun ⟨n,e,hk⟩=>⟨n,YA.trans e,hk⟩⟩
theorem ZvC {h:Zd} {b o:Nat} {K:Value→Prop}:ldV h b o K=∃ n,Z7 o (obj h b)=some n∧K n:=by
  unfold ldV;exact propext ⟨fun ⟨n,e,hk⟩=>⟨n,YA▸e,hk⟩,fun ⟨n,e,hk⟩=>⟨n,YA.trans e,hk⟩⟩
theorem ZvK {h:Zd} {b o:Nat} {K:Sl→Prop}:ldL h b o K=∃ s:Sl,Z7 o (obj h b)=some (slV s)∧K s:=by
  unfold ldL;exact propext ⟨fun ⟨n,e,hk⟩=>⟨n,YA▸e,hk⟩,fun ⟨n,e,hk⟩=>⟨n,YA.trans e,hk⟩⟩
theorem Zvp {s t:Sl}:(slV s=slV t)=(s=t):=by
  refine propext ⟨fun h=>?_,fun h=>by rw [h]⟩
  cases s;cases t
  unfold slV at h
  injection h with h1 h2 h3
  subst h1 h2 h3
  rfl
theorem YX {σ:Type} {body:(σ→Zd→Prop)→σ→Zd→Prop} {s:σ} {h:Zd} (I:σ→Zd→Prop) (μ:σ→Zd→Nat)
    (h0:I s h) (hr:∀ s h,I s h→∀ Q:σ→Zd→Prop,(∀ s' h',I s' h'→μ s' h'<μ s h→Q s' h')→body Q s h):YY body s h:=⟨I,μ,h0,fun s h hs=>hr s h hs _ fun _ _ a b=>⟨a,b⟩⟩
theorem ZrP {σ:Type} {rest:σ→Zd→Prop} {pre:(σ→Zd→Prop)→Prop} (J:σ→Zd→Prop)
    (h1:∀ s h,J s h→rest s h) (h2:∀ Q:σ→Zd→Prop,(∀ s h,J s h→Q s h)→pre Q):Zg7 rest pre:=⟨J,h1,h2 _ fun _ _ h=>h⟩
theorem Zvo {s:Sl}:Value.slice s.ptr s.len s.cap=slV s:=rfl
theorem ZgU {k:IntKind} {n:Int}:ZH (.int k n)=true:=by simp [ZH]
theorem ZqY {b:Bool}:ZH (.bool b)=true:=by simp [ZH]
theorem Zs6 {b:ByteArray}:ZH (.string b)=true:=by simp [ZH]
theorem Zs8 {b:Option Addr}:ZH (.pointer b)=true:=by simp [ZH]
theorem Zvv {b:Option Addr} {l c:Nat}:ZH (.slice b l c)=true:=by simp [ZH]
theorem Zs7 {s:Sl}:ZH (slV s)=true:=by simp [ZH,slV]
theorem Zs9 {b:Option Nat}:ZH (.map b)=true:=by simp [ZH]
theorem ZpD {t:TypeId} {v:Value}:ZH (.iface t v)=true:=by simp [ZH]
theorem ZqX:ZH .nilIface=true:=by simp [ZH]
theorem Zvw {f:Fn} {a b:Array Value}:ZH (.func f a b)=true:=by simp [ZH]
theorem Zig {h:Zd} {b:Nat} (hb:b<sz h) (k:Nat):(b=sz h+k)=False:=eq_false (by omega)
theorem ZdW {h:Zd} {b:Nat} (hb:b<sz h):(b=sz h)=False:=eq_false (by omega)
theorem Ztj {h:Zd} {b:Nat} (hb:b<sz h) (k:Nat):(sz h+k=b)=False:=eq_false (by omega)
theorem ZpM {h:Zd} {b:Nat} (hb:b<sz h):(sz h=b)=False:=eq_false (by omega)
theorem Z6 {h h':Zd} (e:Ext h h') {b:Nat} (hb:b<sz h):obj h' b=obj h b:=e.old b hb
theorem Ze6 {S:Nat→Prop} {h h':Zd} (e:Upd S h h') {b:Nat} (hb:b<sz h) (hs:¬ S b):obj h' b=obj h b:=e.old b hb hs
theorem ZmS {h h':Zd} (e:Ext h h'):sz h≤sz h':=e.size
theorem Zah {h h1:Zd} {x:Obj} (he:Ext h h1):Ext h (h1.push x):=he.trans (Ext.push _ _)
theorem Zmg {h h1:Zd} {b o:Nat} {v:Value} (he:Ext h h1) (hb:sz h≤b):Ext h (h1.put b o v) :=
  he.then (Upd.put _ _ _ _) fun k hk=>by subst hk;exact hb
theorem Zcp {h h1:Zd} {b o:Nat} {vs:List Value} (he:Ext h h1) (hb:sz h≤b):Ext h (h1.puts b o vs) :=
  he.then (Upd.puts _ _ _ _) fun k hk=>by subst hk;exact hb
theorem ZeA {S:Nat→Prop} {h h1:Zd} {x:Obj} (he:Upd S h h1):Upd S h (h1.push x):=⟨Nat.le_trans he.size (by simp),fun k hk hs=>(Zgl (Nat.lt_of_lt_of_le hk he.size)).trans (he.old k hk hs)⟩
theorem Zpd {S:Nat→Prop} {h h1:Zd} {b o:Nat} {v:Value} (he:Upd S h h1) (hb:sz h≤b∨S b):Upd S h (h1.put b o v) :=
  ⟨by rw [Zgj];exact he.size,fun k hk hs=>(Zgk fun e=>by subst e;exact hb.elim (fun h9=>by unfold sz at h9;omega) hs).trans (he.old k hk hs)⟩
theorem ZcL {S:Nat→Prop} {h h1:Zd} {b o:Nat} {vs:List Value} (he:Upd S h h1) (hb:sz h≤b∨S b):Upd S h (h1.puts b o vs) :=
  ⟨by rw [Zgi];exact he.size,fun k hk hs=>(ZfF fun e=>by subst e;exact hb.elim (fun h9=>by unfold sz at h9;omega) hs).trans (he.old k hk hs)⟩
theorem Zr {h:Zd} {b:Nat} {x:Obj} (hb:obj h b=some x):b<sz h:=by
  unfold obj at hb
  rcases Nat.lt_or_ge b h.size with hl | hl
  ·exact hl
  ·rw [Array.getElem?_eq_none hl] at hb;cases hb
theorem Zl {h h':Zd} {b:Nat} {x:Obj} (hb:obj h b=some x) (e:Ext h h'):obj h' b=some x:=(Z6 e (Zr hb)).trans hb
theorem Ztl {S:Nat→Prop} {h h':Zd} {b:Nat} {x:Obj} (hb:obj h b=some x) (e:Upd S h h') (hs:¬ S b):obj h' b=some x:=(Ze6 e (Zr hb) hs).trans hb
theorem YN {h:Zd} {l:Nat} {o:Obj}:sz (ZgD h l o)=sz h:=by unfold sz ZgD;simp
theorem YH {h:Zd} {l k:Nat} {o:Obj} (hl:l<sz h):obj (ZgD h l o) k=if k=l then some o else obj h k:=by
  unfold obj ZgD
  by_cases hk:k=l
  ·subst hk
   rw [if_pos rfl,Array.getElem?_setIfInBounds_self_of_lt hl]
  ·rw [if_neg hk,Array.getElem?_setIfInBounds_ne (Ne.symm hk)]
theorem ZdT {S:Nat→Prop} {h h1:Zd} {l:Nat} {o:Obj} (he:Upd S h h1) (hb:sz h≤l∨S l):Upd S h (ZgD h1 l o) :=
  ⟨by unfold ZgD;simp;exact he.size,fun k hk hs=>by
    unfold ZgD
    rw [Array.getElem?_setIfInBounds_ne (fun e=>by subst e;exact hb.elim (fun h9=>by unfold sz at h9;omega) hs)]
    exact he.old k hk hs⟩
theorem ZcW {h h1:Zd} {l:Nat} {o:Obj} (he:Ext h h1) (hb:sz h≤l):Ext h (ZgD h1 l o) :=
  (ZdT (S:=fun _=>False) (he.upd _) (.inl hb)).ext fun _ _ h=>h
theorem ZkF {r:Loop} {l:Nat} {h:Zd} {K:Zd→Prop}:Zmk r l h K=(obj h l=some (ZaR r .ready none)∧K (ZgD h l (ZaR r .busy none))):=propext ⟨fun h=>h,fun h=>h⟩
theorem Zkd {D:Nat} {h:Zd} {K:Zd→Prop}:ZeY D h K=(obj h D=some (.deferred (some []))∧K (ZgD h D (.deferred none))):=propext ⟨fun h=>h,fun h=>h⟩
theorem ZhY {n:Nat} {it:Yld→Nat→(Zd→Prop)→Zd→Prop} {body:Nat→Loop→List Value→Zd→(Option Code→Zd→Prop)→Prop} {h:Zd} {K:Option Code→Nat→Zd→Prop} :
    Zjf n it body h K=∀ r:Loop,it (Zi3 r (sz h+1) n (body (sz h+1) r)) (sz h+1)
     (fun h'=>∃ st p,st≠ .busy∧(obj h' (sz h+1)=some (ZaR r st p)∧K p (sz h) (ZgD h' (sz h+1) (ZaR r .exhausted p)))) ((h.push (.deferred (some []))).push (ZaR r .ready none)):=propext ⟨fun h=>h,fun h=>h⟩
theorem ZkZ {r:Loop} {l n:Nat} {body:List Value→Zd→(Option Code→Zd→Prop)→Prop} {l':Nat} {vs:List Value} {k:Bool→Zd→Prop} {h:Zd} :
    Zi3 r l n body l' vs k h=(l'=l∧vs.length=n∧(obj h l=some (ZaR r .ready none)∧body vs h fun p h'=>(obj h' l=some (ZaR r .busy none)∧k p.isNone (ZgD h' l (ZaR r (if p.isNone then .ready else .done) p))))):=propext ⟨fun h=>h,fun h=>h⟩
theorem Zgs {N:Prop} {X:Nat→Prop} {R:Prop}:Zma none N X R=N:=rfl
theorem Ye:(∀ {h:Zd} {cells:List Value} {t:TypeId} {K:Nat→Zd→Prop},newC h cells t K=K (sz h) (h.push (.cells cells.toArray t (0,0)))) ∧
  (∀ {h:Zd} {K:Nat→Zd→Prop},ZfP h K=K (sz h) (h.push (.map #[] 0))) ∧
  (∀ {n:Int} {K:Int→Prop},Zf n K=K n) ∧
  (∀ {n:Bool} {K:Bool→Prop},ZE n K=K n) ∧
  (∀ {p K:Prop},ZR p K=(p∧K)) ∧
  (∀ {p K:Prop},Ziz p K=(p∧K)) ∧
  (∀ {b o:Nat} {K:Nat→Nat→Prop},Zg (some ⟨b,o,none⟩) K=K b o) ∧
  (∀ {A B:Prop},Zs true A B=A) ∧
  (∀ {A B:Prop},Zs false A B=B) ∧
  (∀ {h:Zd} {b o:Nat} {k:IntKind} {K:Int→Prop},ldI h b o k K=∃ n,Z7 o (obj h b)=some (.int k n)∧K n) ∧
  (∀ {h:Zd} {b o:Nat} {K:Bool→Prop},ldB h b o K=∃ n,Z7 o (obj h b)=some (.bool n)∧K n) ∧
  (∀ {h:Zd} {b o:Nat} {K:ByteArray→Prop},ldS h b o K=∃ n,Z7 o (obj h b)=some (.string n)∧K n) ∧
  (∀ {h:Zd} {b o:Nat} {K:Option Addr→Prop},ldP h b o K=∃ n,Z7 o (obj h b)=some (.pointer n)∧K n) ∧
  (∀ {h:Zd} {b o:Nat} {K:Option Nat→Prop},ldM h b o K=∃ n,Z7 o (obj h b)=some (.map n)∧K n) ∧
  (∀ {h:Zd} {b o:Nat} {K:Value→Prop},ldV h b o K=∃ n,Z7 o (obj h b)=some n∧K n) ∧
  (∀ {h:Zd} {b o:Nat} {K:Sl→Prop},ldL h b o K=∃ s:Sl,Z7 o (obj h b)=some (slV s)∧K s) ∧
  (∀ {h:Zd} {b o:Nat} {v:Value} {K:Zd→Prop} (hf:ZeD o (obj h b)=true) (hv:ZH v=true),st h b o v K=K (h.put b o v)) ∧
  (∀ {h:Zd} {b o:Nat} {vs:List Value} {K:Zd→Prop} (hf:Zmd o vs.length (obj h b)=true) (hv:vs.all ZH=true),sts h b o vs K=K (h.puts b o vs)) ∧
  (∀ {h:Zd} {x:Obj},sz (h.push x)=sz h+1) ∧
  (∀ {h:Zd} {b o:Nat} {v:Value},sz (h.put b o v)=sz h) ∧
  (∀ {h:Zd} {b o:Nat} {vs:List Value},sz (h.puts b o vs)=sz h) ∧
  (∀ {h:Zd} {x:Obj} {b:Nat},obj (h.push x) b=if b=sz h then some x else obj h b) ∧
  (∀ {h:Zd} {b o k:Nat} {v:Value},obj (h.put b o v) k=if k=b then Zji o v (obj h k) else obj h k) ∧
  (∀ {b:Nat} {vs:List Value} {h:Zd} {o k:Nat},obj (h.puts b o vs) k=if k=b then Zf0 o vs (obj h k) else obj h k) ∧
  (∀ {o:Nat} {v:Value} {l:List Value} {e:TypeId} {f:Nat × Nat},Zji o v (some (.cells l.toArray e f))=some (.cells (l.set o v).toArray e f)) ∧
  (∀ {e:TypeId} {f:Nat × Nat},(∀ {vs:List Value} {o:Nat} {l:List Value},Zf0 o vs (some (.cells l.toArray e f))=some (.cells (ZcV o vs l).toArray e f))) ∧
  (∀ {o:Nat} {l:List Value} {e:TypeId} {f:Nat × Nat},Z7 o (some (.cells l.toArray e f))=l[o]?) ∧
  (∀ {o:Nat} {l:List Value} {e:TypeId},ZeD o (some (.cells l.toArray e (0,0)))=decide (o<l.length)) ∧
  (∀ {o n:Nat} {l:List Value} {e:TypeId},Zmd o n (some (.cells l.toArray e (0,0)))=decide (o+n≤l.length)) ∧
  (∀ {h:Zd},Zo h []=True) ∧
  (∀ {h:Zd} {b o:Nat} {v:Value} {r:List (Nat × Nat × Value)},Zo h ((b,o,v)::r)=(Z7 o (obj h b)=some v∧Zo h r)) ∧
  (∀ {h:Zd},Array.size h=sz h) ∧
  (∀ {s t:Sl},(slV s=slV t)=(s=t)) ∧
  (∀ {s:Sl},Value.slice s.ptr s.len s.cap=slV s) ∧
  (∀ {k:IntKind} {n:Int},ZH (.int k n)=true) ∧
  (∀ {b:Bool},ZH (.bool b)=true) ∧
  (∀ {b:ByteArray},ZH (.string b)=true) ∧
  (∀ {b:Option Addr},ZH (.pointer b)=true) ∧
  (∀ {b:Option Addr} {l c:Nat},ZH (.slice b l c)=true) ∧
  (∀ {s:Sl},ZH (slV s)=true) ∧
  (∀ {b:Option Nat},ZH (.map b)=true) ∧
  (∀ {t:TypeId} {v:Value},ZH (.iface t v)=true) ∧
  (ZH .nilIface=true) ∧
  (∀ {f:Fn} {a b:Array Value},ZH (.func f a b)=true) ∧
  (∀ (h:Zd),Ext h h) ∧
  (∀ {h h1:Zd} {x:Obj} (he:Ext h h1),Ext h (h1.push x)) ∧
  (∀ {h h1:Zd} {b o:Nat} {v:Value} (he:Ext h h1) (hb:sz h≤b),Ext h (h1.put b o v)) ∧
  (∀ {h h1:Zd} {b o:Nat} {vs:List Value} (he:Ext h h1) (hb:sz h≤b),Ext h (h1.puts b o vs)) ∧
  (∀ (p:Prop),(p∧p)=p) ∧
  (∀ (p:Prop),(True∧p)=p) ∧
  (∀ (p:Prop),(p∧True)=p) ∧
  (∀ (b:Bool),(b&&b)=b) ∧
  (∀ (b:Bool),(true&&b)=b) ∧
  (∀ (b:Bool),(b&&true)=b) ∧
  ((!true)=false) ∧
  ((!false)=true) ∧
  (∀ {p:Prop} [Decidable p],(decide p=true)=p) ∧
  (∀ (n:Nat),0+n=n) ∧
  (∀ (n:Nat),n+0=n) ∧
  (∀ (n m k:Nat),n+m+k=n+(m+k)) ∧
  (∀ {m k n:Nat},n+m=n+k↔m=k) ∧
  (∀ {a b:Nat},a+b=a↔b=0) ∧
  (∀ {a b:Nat},a=a+b↔b=0) ∧
  (∀ {m k n:Nat},n+m≤n+k↔m≤k) ∧
  (∀ (n k:Nat),n≤n+k) ∧
  (∀ (n:Nat),n≤n) ∧
  ((1:Nat)≠0) ∧
  (∀ {k n m:Nat},k+n<k+m↔n<m) ∧
  (∀ {n k:Nat},n<n+k↔0<k) :=
  ⟨@Zte,@ZpJ,@ZmX,@ZmY,@ZpK,@Zri,@Zre,@Ztm,@Ztn,@ZvM,@ZvO,@ZvE,@ZvG,@ZvI,@ZvC,@ZvK,@ZAs,@Zpn,@Zc4,@ZrD,@ZfX,@Zhw,@ZpF,@Zhv,@Zhh,@Zdp,@Zgo,@Zko,@Zf8,@Zlk,@Zjx,@YV,@Zvp,@Zvo,@ZgU,@ZqY,@Zs6,@Zs8,@Zvv,@Zs7,@Zs9,@ZpD,@ZqX,@Zvw,@Ext.refl,@Zah,@Zmg,@Zcp,@and_self,@true_and,@and_true,@Bool.and_self,@Bool.true_and,@Bool.and_true,Bool.not_true,Bool.not_false,@decide_eq_true_eq,@Nat.zero_add,@Nat.add_zero,@Nat.add_assoc,@Nat.add_left_cancel_iff,@Nat.add_eq_left,@Nat.left_eq_add,@Nat.add_le_add_iff_left,@Nat.le_add_right,@Nat.le_refl,Nat.one_ne_zero,@Nat.add_lt_add_iff_left,@Nat.lt_add_right_iff_pos⟩
theorem Yd:(∀ (b o:Nat) (s:Option Nat) (b' o':Nat) (s':Option Nat),(Addr.mk b o s=Addr.mk b' o' s')=(b=b'∧o=o'∧s=s')) ∧
  (∀ (k:IntKind) (n:Int) (k':IntKind) (n':Int),(Value.int k n=Value.int k' n')=(k=k'∧n=n')) ∧
  (∀ (b b':Bool),(Value.bool b=Value.bool b')=(b=b')) ∧
  (∀ (s s':ByteArray),(Value.string s=Value.string s')=(s=s')) ∧
  (∀ (a a':Option Addr),(Value.pointer a=Value.pointer a')=(a=a')) ∧
  (∀ (r r':Option Nat),(Value.map r=Value.map r')=(r=r')) ∧
  (∀ {α β:Type} (a:α) (f:α→β),Option.map f (some a)=some (f a)) ∧
  (∀ {α:Type} {a b:α},Option.getD (some a) b=a) ∧
  (∀ {α:Type} {a:α},Option.getD none a=a) ∧
  (∀ {α:Type} {a:α},Option.isSome (some a)=true) ∧
  (∀ {α:Type},Option.isSome (none:Option α)=false) ∧
  (∀ {α:Type} {a:α},Option.isNone (some a)=false) ∧
  (∀ {α:Type},Option.isNone (none:Option α)=true) ∧
  (∀ {α:Type} (a a':α),(some a=some a')=(a=a')) ∧
  (∀ {α:Type} {a:α} {l:List α} {f:α→Bool},List.all (a::l) f=(f a&&List.all l f)) ∧
  (∀ {α:Type} {f:α→Bool},List.all [] f=true) ∧
  (∀ {α:Type} {a:α} {l:List α},List.length (a::l)=List.length l+1) ∧
  (∀ {α:Type},List.length ([]:List α)=0) ∧
  (∀ {α:Type} {x:α} {xs:List α} {a:α},List.set (x::xs) 0 a=a::xs) ∧
  (∀ {α:Type} {x:α} {xs:List α} {i:Nat} {a:α},List.set (x::xs) (i+1) a=x::List.set xs i a) ∧
  (∀ {α:Type} {a:α} {l:List α},(a::l)[0]?=some a) ∧
  (∀ {α:Type} {a:α} {i:Nat} {l:List α},(a::l)[i+1]?=l[i]?) ∧
  (∀ {α:Type} {i:Nat},([]:List α)[i]?=none) ∧
  (∀ {α β:Type} (a:α) (b:β) (a':α) (b':β),((a,b)=(a',b'))=(a=a'∧b=b')) ∧
  (∀ {α:Type} {p:α→Prop} {a':α},(∃ a,a=a'∧p a)↔p a') ∧
  (∀ {α:Type} {p:α→Prop} {a':α},(∃ a,a'=a∧p a)↔p a') ∧
  (∀ (h:Decidable True),@decide True h=true) ∧
  (∀ (h:Decidable False),@decide False h=false) :=
  ⟨@Addr.mk.injEq,@Value.int.injEq,@Value.bool.injEq,@Value.string.injEq,@Value.pointer.injEq,@Value.map.injEq,@Option.map_some,@Option.getD_some,@Option.getD_none,@Option.isSome_some,@Option.isSome_none,@Option.isNone_some,@Option.isNone_none,@Option.some.injEq,@List.all_cons,@List.all_nil,@List.length_cons,@List.length_nil,@List.set_cons_zero,@List.set_cons_succ,@List.getElem?_cons_zero,@List.getElem?_cons_succ,@List.getElem?_nil,@Prod.mk.injEq,@exists_eq_left,@exists_eq_left',@decide_true,@decide_false⟩
theorem evC:(∀ {α:Type} {i:Decidable True} (t e:α),@ite α True i t e=t)∧(∀ {α:Type} {i:Decidable False} (t e:α),@ite α False i t e=e) ∧
    (∀ (o:Nat) (l:List Value),ZcV o [] l=l)∧(∀ (o:Nat) (v:Value) (vs l:List Value),ZcV o (v::vs) l=ZcV (o+1) vs (l.set o v))∧(∀ a:Nat,(a ==a)=true) :=
  ⟨fun _ _=>if_pos trivial,fun _ _=>if_neg id,fun _ _=>rfl,fun _ _ _ _=>rfl,fun a=>beq_self_eq_true a⟩
end Go.Fw
namespace Go.Proofs.YthbfgkphlmlihaaGreat
open Go Go.Fw
open Nat renaming reduceAdd→Nqa,reduceLT→Nqb,reduceLeDiff→Nqc,reduceEqDiff→Nqd,reduceMul→Nqe
abbrev iv (n:Int):Value:= .int .i64 n
theorem Yg {h:Zd} {cells:List Value} {t:TypeId} {K:Nat→Zd→Prop} (hk:∀ h1,h1[h.size]?=some (.cells cells.toArray t (0,0))→Ext h h1→h1.size=h.size+1→K h.size h1):newC h cells t K :=
  Zno (hk _ ZdU (Ext.push _ _) (by simp))
theorem Zj {b o:Nat} {K:Nat→Nat→Prop} (hk:K b o):Zg (some ⟨b,o,none⟩) K:=⟨b,o,rfl,hk⟩
theorem blk_lt {h:Zd} {b:Nat} {x:Obj} (hq:h[b]?=some x):b<h.size:=by
  rcases Nat.lt_or_ge b h.size with hl | hl
  ·exact hl
  ·rw [Array.getElem?_eq_none hl] at hq;cases hq
theorem Zp3 {α:Type} {l:List α} {i:Nat} {x:α} (h:l[i]?=some x):i<l.length:=by
  rcases Nat.lt_or_ge i l.length with h9 | h9
  ·exact h9
  ·rw [List.getElem?_eq_none h9] at h;cases h
theorem YZ {α:Type} {f:α→List Value} {n:Nat} (hf:∀ a,(f a).length=n):∀ l:List α,(l.flatMap f).length=l.length*n
  | []=>by simp
  | a::l=>by rw [List.flatMap_cons,List.length_append,hf,YZ hf l,List.length_cons,Nat.succ_mul];omega
theorem Zkv {α:Type} {f:α→List Value} {n:Nat} (hf:∀ a,(f a).length=n):∀ (l:List α) (i m:Nat) (a:α),l[i]?=some a→m<n→(l.flatMap f)[i*n+m]?=(f a)[m]?
  | [],i,m,a,h,_=>by simp at h
  | x::l,0,m,a,h,hm=>by
    simp only [List.getElem?_cons_zero,Option.some.injEq] at h
    subst h
    rw [List.flatMap_cons,Nat.zero_mul,Nat.zero_add,List.getElem?_append_left (by rw [hf];exact hm)]
  | x::l,i+1,m,a,h,hm=>by
    rw [List.flatMap_cons,List.getElem?_append_right (by rw [hf,Nat.succ_mul];omega),hf]
    have e:(i+1)*n+m - n=i*n+m:=by rw [Nat.succ_mul];omega
    rw [e]
    exact Zkv hf l i m a (by simpa using h) hm
theorem ZEU {h:Zd} {b o:Nat} {v:Value} {K:Zd→Prop} {c:Array Value} {e:TypeId} (hb:h[b]?=some (.cells c e (0,0))) (ho:o<c.size) (hv:ZH v=true)
    (hk:∀ h',h'[b]?=some (.cells (c.setIfInBounds o v) e (0,0))→Upd (· = b) h h'→h'.size=h.size→K h'):st h b o v K:=by
  refine ⟨⟨c[o],by rw [Zg8 hb];simp [ho]⟩,?_,hv,hk _ (Zla hb) (Upd.put h b o v) Zgj⟩
  unfold Zd.froz;rw [hb];simp
theorem Zb {h:Zd} {b o:Nat} {l:List Value} {e:TypeId} {f:Nat × Nat} {v:Value} (hb:obj h b=some (.cells l.toArray e f)) (hv:l[o]?=some v):Z7 o (obj h b)=some v:=by rw [hb,Zgo];exact hv
theorem rI {h:Zd} {b o:Nat} {k:IntKind} {n:Int} {K:Int→Prop} (hc:Z7 o (obj h b)=some (.int k n)) (hk:K n):ldI h b o k K:=by rw [ZvN hc];exact hk
theorem rB {h:Zd} {b o:Nat} {n:Bool} {K:Bool→Prop} (hc:Z7 o (obj h b)=some (.bool n)) (hk:K n):ldB h b o K:=by rw [ZvP hc];exact hk
theorem rS {h:Zd} {b o:Nat} {n:ByteArray} {K:ByteArray→Prop} (hc:Z7 o (obj h b)=some (.string n)) (hk:K n):ldS h b o K:=by rw [ZvF hc];exact hk
theorem rP {h:Zd} {b o:Nat} {n:Option Addr} {K:Option Addr→Prop} (hc:Z7 o (obj h b)=some (.pointer n)) (hk:K n):ldP h b o K:=by rw [ZvH hc];exact hk
theorem rM {h:Zd} {b o:Nat} {n:Option Nat} {K:Option Nat→Prop} (hc:Z7 o (obj h b)=some (.map n)) (hk:K n):ldM h b o K:=by rw [ZvJ hc];exact hk
theorem rL {h:Zd} {b o:Nat} {s:Sl} {K:Sl→Prop} (hc:Z7 o (obj h b)=some (slV s)) (hk:K s):ldL h b o K:=by cases s;exact (ZvL hc).mpr hk
theorem rV {h:Zd} {b o:Nat} {n:Value} {K:Value→Prop} (hc:Z7 o (obj h b)=some n) (hk:K n):ldV h b o K:=by rw [ZvD hc];exact hk
theorem ZdD {h:Zd} {b o:Nat} {v:Value} {K:Zd→Prop} {l:List Value} {e:TypeId} (hb:obj h b=some (.cells l.toArray e (0,0))) (ho:o<l.length) (hv:ZH v=true)
    (hk:∀ h',obj h' b=some (.cells (l.set o v).toArray e (0,0))→Upd (· = b) h h'→sz h'=sz h→K h'):st h b o v K:=by
  refine ZEU hb (by simpa using ho) hv fun h' c u z=>hk h' ?_ u z
  rw [show obj h' b=h'[b]? from rfl,c]
  simp
theorem YM {hh:Zd} {b o:Nat} {v:Value} (hc:Z7 o (obj hh b)=some v):Zo hh [(b,o,v)]:=by rw [Zjx,Zlk];exact ⟨hc,trivial⟩
theorem wrS {i n:Nat} (h:i<n) (hn:n<9223372036854775808):IntKind.wrap .i64 ((i:Int)+1)=((i+1:Nat):Int):=by rw [XH (by omega) (by omega)];rfl
theorem Zdj {α:Type} {g:α→List Value} {n:Nat} (hg:∀ a,(g a).length=n) {h:Zd} {s:Sl} {l:List α} (hr:Row h s n (l.flatMap g)) {i:Nat} {a:α} (hi:l[i]?=some a) (hn:0<n) :
    ∃ b o,s.blk=some b∧b<sz h∧(∀ {K:Nat→Nat→Prop} {m:Int},m=(i:Int)→K b o→Xy s.ptr s.len m n K)∧∀ j v,(g a)[j]?=some v→Z7 (o+j) (obj h b)=some v:=by
  have hlen:=hr.len
  rw [YZ hg] at hlen
  have hls:l.length=s.len:=Nat.eq_of_mul_eq_mul_right hn hlen
  have hil:=Zp3 hi
  rcases hr.at_ with h0 | ⟨b,o,hp,hh⟩
  ·omega
  ·have hne:l.flatMap g≠[]:=fun e=>by
     have:=YZ hg l
     rw [e] at this
     have h9:0<l.length*n:=Nat.mul_pos (by omega) hn
     simp only [List.length_nil] at this
     omega
   refine ⟨b,o+i*n,by simp [Sl.blk,hp],ZrO hh hne,fun {K m} hm hk=>⟨b,o,hp,by omega,by omega,by subst hm;simpa using hk⟩,fun j v hv=>?_⟩
   have hj:j<n:=by rw [← hg a];exact Zp3 hv
   have:=Zkt hh (i:=i*n+j) (v:=v) (by rw [Zkv hg l i j a hi hj];exact hv)
   rw [YA,← Nat.add_assoc] at this
   exact this
theorem Zdt {a b:Int} {A B:Prop} (h1:a≠b→A) (h2:a=b→B):Zs (a !=b) A B:=⟨fun e=>h1 (by simpa using e),fun e=>h2 (by simpa using e)⟩
theorem ZEQ {h:Zd} {b:Nat} {l:List Value} {t:TypeId} (hc:obj h b=some (.cells l.toArray t (0,0))) {vs:List Value} (hl:l.length=vs.length) (hv:vs.all ZH=true) (hp:ZcV 0 vs l=vs) {K:Zd→Prop}
    (hk:∀ h',obj h' b=some (.cells vs.toArray t (0,0))→Upd (· = b) h h'→sz h'=sz h→K h'):sts h b 0 vs K:=by
  rw [Zpn (by rw [hc,Zf8,hl];simp) hv]
  refine hk _ ?_ (ZcL (Upd.refl _ _) (.inr rfl)) ZfX
  rw [Zhv,if_pos rfl,hc,Zdp,hp]
theorem ZaE {h:Zd} {b:Nat} {l:List Value} {t:TypeId} (hc:obj h b=some (.cells l.toArray t (0,0))) {vs:List Value} {K:Zd→Prop}
    (hk:∀ h',obj h' b=some (.cells vs.toArray t (0,0))→Upd (· = b) h h'→sz h'=sz h→K h') (hl:l.length=vs.length:=by rfl) (hv:vs.all ZH=true:=by rfl) (hp:ZcV 0 vs l=vs:=by rfl):sts h b 0 vs K:=ZEQ hc hl hv hp hk
theorem ZiR {h:Zd} {b n:Nat} {l:List Value} {t:TypeId} {f:Nat × Nat} (c:obj h b=some (.cells l.toArray t f)) (hl:l.length=n):Row h ⟨some ⟨b,0,none⟩,1,1⟩ n l :=
  ⟨by rw [Nat.one_mul];exact hl,Nat.le_refl _,(show 1<9223372036854775808 by decide),.inr ⟨b,0,rfl,Zil c fun i v hi=>by simpa using hi⟩⟩
theorem ZET {h:Zd} {b k n:Nat} {l:List Value} {t:TypeId} {f:Nat × Nat} (c:obj h b=some (.cells l.toArray t f)) (hl:l.length=k*n) (hk:k<9223372036854775808):Row h ⟨some ⟨b,0,none⟩,k,k⟩ n l :=
  ⟨hl,Nat.le_refl _,hk,.inr ⟨b,0,rfl,Zil c fun i v hi=>by simpa using hi⟩⟩
def inB (n lo hi:Int):Bool:=decide (n≥lo)&&decide (n≤hi)
theorem Zew {n lo hi:Int} {K:Bool→Zd→Prop} {h:Zd} (hk:K (inB n lo hi) h):Yf n lo hi K h:=by
  unfold Yf Zd3
  unfold inB at hk
  refine ⟨fun e=>Zc ?_,fun e=>?_⟩
  ·rw [e] at hk;exact hk
  ·rw [e] at hk;exact hk
def Zh9 (c:UInt8):Bool:=decide (33≤c.toNat)&&decide (c.toNat≤126)
def Zfg (s:ByteArray):Bool:=decide (1≤s.size)&&decide (s.size≤64)&&s.data.toList.all Zh9
theorem ZtA {s:ByteArray} {k:Nat} (h:k<s.size):∃ c:UInt8,s[k]?=some c∧s.data.toList[k]?=some c:=by
  refine ⟨s[k],?_,?_⟩
  ·exact getElem?_pos s k h
  ·rw [Array.getElem?_toList]
   exact getElem?_pos s.data k h
theorem ZtB {l:List UInt8} {k:Nat} {c:UInt8} (h:l[k]?=some c) (hc:Zh9 c=false):l.all Zh9=false:=by
  rw [List.all_eq_false]
  exact ⟨c,List.mem_of_getElem? h,by simp [hc]⟩
theorem Zrm {l:List UInt8} {k:Nat} {c:UInt8} (h:l[k]?=some c) (hc:Zh9 c=true) (ht:(l.take k).all Zh9=true):(l.take (k+1)).all Zh9=true:=by
  have hk:k<l.length:=by
    rcases Nat.lt_or_ge k l.length with h9 | h9
    ·exact h9
    ·rw [List.getElem?_eq_none h9] at h;cases h
  rw [List.take_succ_eq_append_getElem hk]
  have:l[k]=c:=by rw [List.getElem?_eq_getElem hk] at h;exact Option.some.inj h
  simp [ht,this,hc]
theorem ZcJ {s:ByteArray} (hs:s.size<9223372036854775808) {K:Bool→Zd→Prop} {h:Zd} (hk:K (Zfg s) h):Xt s K h:=by
  unfold Xt Zd5
  refine Zcy (fun p h'=>h'=h∧∃ k:Nat,p.1=(k:Int)∧k≤s.size∧(s.data.toList.take k).all Zh9=true) (fun p _=>s.size - p.1.toNat) ⟨rfl,0,rfl,Nat.zero_le _,by simp⟩ ?_
  rintro ⟨i,u⟩ h' ⟨rfl,k,hi,hkl,hall⟩
  dsimp only at hi
  subst hi
  dsimp only
  refine Zu (fun hlt=>Za ?_) (fun hge=>?_)
  ·have hk1:k<s.size:=by omega
   obtain ⟨c,h1,h2⟩:=ZtA hk1
   have hc8:=c.toNat_lt
   refine ⟨c,by omega,by rw [Int.toNat_natCast];exact h1,Zew ?_⟩
   rw [XH (by omega) (by omega)]
   have e:inB (c.toNat:Int) 33 126=Zh9 c:=by
     unfold inB Zh9
     congr 1
     ·exact decide_eq_decide.2 (by omega)
     ·exact decide_eq_decide.2 (by omega)
   rw [e]
   refine ⟨fun hb=>?_,fun hb=>?_⟩
   ·have hb':Zh9 c=false:=by simpa using hb
    have:Zfg s=false:=by unfold Zfg;rw [ZtB h2 hb',Bool.and_false]
    rw [this] at hk;exact hk
   ·have hb':Zh9 c=true:=by simpa using hb
    rw [XH (n:=(k:Int)+1) (by omega) (by omega)]
    exact ⟨⟨rfl,k+1,by omega,by omega,Zrm h2 hb' hall⟩,by omega⟩
  ·have hfull:s.data.toList.take k=s.data.toList:=List.take_of_length_le (by
     have:s.data.toList.length=s.size:=by simp
     omega)
   rw [hfull] at hall
   refine Zew (Zc ?_)
   have:Zfg s=inB (s.size:Int) 1 64:=by
     unfold Zfg inB
     rw [hall,Bool.and_true]
     congr 1
     ·exact decide_eq_decide.2 (by omega)
     ·exact decide_eq_decide.2 (by omega)
   rw [← this]
   exact hk
def upd {α:Type} (f:Int→Option α) (k:Int) (v:Option α):Int→Option α:=fun j=>if j=k then v else f j
theorem Zez {α:Type} (f:Int→Option α) (k:Int) (v:Option α):upd f k v k=v:=if_pos rfl
theorem Zhf {α:Type} (f:Int→Option α) {k j:Int} (v:Option α) (h:j≠k):upd f k v j=f j:=if_neg h
structure Zmx (es:Array MapEntry) (f:Int→Option Value):Prop where
  to_:∀ e,e∈es.toList→∃ k,e.key=iv k∧f k=some e.val
  of:∀ k v,f k=some v→∃ e,e∈es.toList∧e.key=iv k
def Zet (h:Zd) (mb:Nat) (f:Int→Option Value) (n:Nat):Prop :=
  ∃ es c,h[mb]?=some (.map es c)∧MapKept.Stamped es c∧es.size=n∧Zmx es f
theorem ZmN {a b:Int} (h:iv a=iv b):a=b:=by injection h
theorem Zmx.key {es:Array MapEntry} {f:Int→Option Value} (he:Zmx es f):∀ x,x∈es.toList→MapKept.IsKey (.int .i64) x.key:=fun x hx=>by
  obtain ⟨k,hk,_⟩:=he.to_ x hx
  rw [hk]
  rfl
theorem Zmx.val {es:Array MapEntry} {f:Int→Option Value} (he:Zmx es f) {e:MapEntry} (hm:e∈es.toList) {k:Int} (hk:e.key=iv k):f k=some e.val:=by
  obtain ⟨j,hj,hv⟩:=he.to_ e hm
  rw [hk] at hj
  rw [ZmN hj]
  exact hv
theorem Zmx.find {es:Array MapEntry} {f:Int→Option Value} (he:Zmx es f) (k:Int) :
    (Instr.findNow (.int .i64) (iv k) es.toList 0=some none∧f k=none)∨∃ j e,Instr.findNow (.int .i64) (iv k) es.toList 0=some (some (j,e.val))∧es.toList[j]?=some e∧e.key=iv k∧f k=some e.val:=by
  rcases MapKept.findNow_spec (d:= .int .i64) (k:=iv k) rfl es.toList 0 he.key with ⟨h1,h2⟩ | ⟨j,e,h1,h2,h3⟩
  ·refine .inl ⟨h1,?_⟩
   cases hf:f k with
   | none=>rfl
   | some v =>
     obtain ⟨e,hm,hk⟩:=he.of k v hf
     exact absurd hk (h2 e hm)
  ·rw [Nat.zero_add] at h1
   exact .inr ⟨j,e,h1,h2,h3,he.val (List.mem_of_getElem? h2) h3⟩
theorem Zet.congr {h h':Zd} {mb:Nat} {f:Int→Option Value} {n:Nat} (hm:Zet h mb f n) (he:h'[mb]?=h[mb]?):Zet h' mb f n:=by
  obtain ⟨es,c,hb,r⟩:=hm
  exact ⟨es,c,he.trans hb,r⟩
theorem Zet.lt {h:Zd} {mb:Nat} {f:Int→Option Value} {n:Nat} (hm:Zet h mb f n):mb<h.size:=by
  obtain ⟨es,c,hb,r⟩:=hm
  exact blk_lt hb
theorem Zet.new {h:Zd} {K:Nat→Zd→Prop} (hk:∀ h1,Zet h1 h.size (fun _=>none) 0→Ext h h1→h1.size=h.size+1→K h.size h1):ZfP h K :=
  hk _ ⟨#[],0,ZdU,MapKept.stamped_empty 0,rfl,⟨fun e he=>by simp at he,fun k v hv=>by cases hv⟩⟩ (Ext.push _ _) (by simp)
theorem Zet.get {h:Zd} {mb:Nat} {f:Int→Option Value} {n:Nat} (hm:Zet h mb f n) (k:Int) {K:Option Value→Prop} (hk:K (f k)):Zid (.int .i64) h (some mb) (iv k) K:=by
  obtain ⟨es,c,hb,hs,hn,he⟩:=hm
  refine ⟨(fun e=>by cases e),fun b e=>?_⟩
  cases e
  rcases he.find k with ⟨h1,h2⟩ | ⟨j,e,h1,h2,h3,h4⟩
  ·exact ⟨es,c,none,hb,h1,by rw [h2] at hk;exact hk⟩
  ·exact ⟨es,c,_,hb,h1,by rw [h4] at hk;exact hk⟩
theorem Zet.len {h:Zd} {mb:Nat} {f:Int→Option Value} {n:Nat} (hm:Zet h mb f n) {K:Int→Prop} (hk:K (n:Int)):Zwc h (some mb) K:=by
  obtain ⟨es,c,hb,hs,hn,he⟩:=hm
  refine ⟨(fun e=>by cases e),fun b e=>?_⟩
  cases e
  exact ⟨es,c,hb,by rw [hn];exact hk⟩
theorem ZeB {h:Zd} {b:Nat} {x:Obj}:Upd (· = b) h (h.setIfInBounds b x) :=
  ⟨by simp,fun k _ hk=>by rw [Array.getElem?_setIfInBounds_ne (fun e=>hk e.symm)]⟩
theorem Zge {h:Zd} {b:Nat} {x:Obj} (hb:b<h.size):(h.setIfInBounds b x)[b]?=some x:=by simp [hb]
theorem Zmx.modify {es:Array MapEntry} {f:Int→Option Value} (he:Zmx es f) {c:Nat} (hs:MapKept.Stamped es c) {j:Nat} {e:MapEntry} {k:Int} (hj:es.toList[j]?=some e) (hk:e.key=iv k) (v:Value) :
    Zmx (es.modify j fun x=>{ x with key:=iv k,val:=v }) (upd f k (some v))∧MapKept.Stamped (es.modify j fun x=>{ x with key:=iv k,val:=v }) c:=by
  have hj':es[j]?=some e:=by simpa using hj
  have uniq:∀ i x,es.toList[i]?=some x→x.key=iv k→i=j:=by
    intro i x hi hx
    have hnd:=hs.2.2
    have h1:(es.toList.map (·.key))[i]?=some (iv k):=by rw [List.getElem?_map,hi];simp [hx]
    have h2:(es.toList.map (·.key))[j]?=some (iv k):=by rw [List.getElem?_map,hj];simp [hk]
    obtain ⟨hil,h1⟩:=List.getElem?_eq_some_iff.1 h1
    obtain ⟨hjl,h2⟩:=List.getElem?_eq_some_iff.1 h2
    exact (List.getElem_inj hnd).1 (h1.trans h2.symm)
  refine ⟨⟨fun x hx=>?_,fun i u hu=>?_⟩,?_⟩
  ·obtain ⟨i,hi⟩:=List.getElem?_of_mem hx
   rw [Array.getElem?_toList,Array.getElem?_modify] at hi
   by_cases hij:j=i
   ·subst hij
    rw [if_pos rfl,hj'] at hi
    simp only [Option.map_some,Option.some.injEq] at hi
    subst hi
    exact ⟨k,rfl,Zez _ _ _⟩
   ·rw [if_neg hij] at hi
    have hi':es.toList[i]?=some x:=by simpa using hi
    obtain ⟨m,hm,hv⟩:=he.to_ x (List.mem_of_getElem? hi')
    refine ⟨m,hm,?_⟩
    rw [Zhf]
    ·exact hv
    ·intro hmk
     subst hmk
     exact hij (uniq i x hi' hm).symm
  ·by_cases hik:i=k
   ·subst hik
    refine ⟨{ e with key:=iv i,val:=v },?_,rfl⟩
    refine List.mem_of_getElem? (i:=j) ?_
    rw [Array.getElem?_toList,Array.getElem?_modify,if_pos rfl,hj']
    rfl
   ·rw [Zhf f _ hik] at hu
    obtain ⟨x,hx,hxk⟩:=he.of i u hu
    obtain ⟨m,hm⟩:=List.getElem?_of_mem hx
    refine ⟨x,List.mem_of_getElem? (i:=m) ?_,hxk⟩
    rw [Array.getElem?_toList,Array.getElem?_modify,if_neg]
    ·simpa using hm
    ·intro hjm
     subst hjm
     rw [hj] at hm
     cases hm
     exact hik (ZmN (hxk.symm.trans hk))
  ·refine MapKept.stamped_modify hs j _ (fun x _=>rfl) fun x _ hx=>?_
   rw [hj'] at hx
   cases hx
   exact hk.symm
theorem Zet.put {h:Zd} {mb:Nat} {f:Int→Option Value} {n:Nat} (hm:Zet h mb f n) (k:Int) (v:Value) {K:Zd→Prop}
    (hk:∀ h',Zet h' mb (upd f k (some v)) (if (f k).isSome then n else n+1)→Upd (· = mb) h h'→h'.size=h.size→K h'):Zib (.int .i64) h (some mb) (iv k) v K:=by
  have hlt:=hm.lt
  obtain ⟨es,c,hb,hs,hn,he⟩:=hm
  rcases he.find k with ⟨h1,h2⟩ | ⟨j,e,h1,h2,h3,h4⟩
  ·refine ⟨mb,es,c,none,rfl,hb,he.key,h1,hk _ ⟨es.push { key:=iv k,val:=v,born:=c },c+1,Zge hlt,MapKept.stamped_push hs fun x hx hxk=>?_,by simp [h2,hn],⟨fun x hx=>?_,fun i u hu=>?_⟩⟩ ZeB (by simp)⟩
   ·have:=he.val hx hxk
    rw [h2] at this
    cases this
   ·simp only [Array.toList_push,List.mem_append,List.mem_singleton] at hx
    rcases hx with hx | rfl
    ·obtain ⟨m,hm,hv⟩:=he.to_ x hx
     refine ⟨m,hm,?_⟩
     rw [Zhf]
     ·exact hv
     ·intro hmk
      subst hmk
      rw [h2] at hv
      cases hv
    ·exact ⟨k,rfl,Zez _ _ _⟩
   ·simp only [Array.toList_push,List.mem_append,List.mem_singleton]
    by_cases hik:i=k
    ·subst hik
     exact ⟨_,.inr rfl,rfl⟩
    ·rw [Zhf f _ hik] at hu
     obtain ⟨x,hx,hxk⟩:=he.of i u hu
     exact ⟨x,.inl hx,hxk⟩
  ·obtain ⟨g1,g2⟩:=he.modify hs h2 h3 v
   exact ⟨mb,es,c,_,rfl,hb,he.key,h1,hk _ ⟨_,c,Zge hlt,g2,by simp [h4,hn],g1⟩ ZeB (by simp)⟩
theorem Zmx.erase {es:Array MapEntry} {f:Int→Option Value} (he:Zmx es f) {c:Nat} (hs:MapKept.Stamped es c) {j:Nat} {e:MapEntry} {k:Int} (hj:es.toList[j]?=some e) (hk:e.key=iv k) :
    Zmx (es.eraseIdxIfInBounds j) (upd f k none)∧MapKept.Stamped (es.eraseIdxIfInBounds j) c∧(es.eraseIdxIfInBounds j).toList=es.toList.eraseIdx j∧(es.eraseIdxIfInBounds j).size=es.size - 1:=by
  obtain ⟨hjl,hje⟩:=List.getElem?_eq_some_iff.1 hj
  have hjs:j<es.size:=by simpa using hjl
  have hl:(es.eraseIdxIfInBounds j).toList=es.toList.eraseIdx j:=by
    unfold Array.eraseIdxIfInBounds
    rw [dif_pos hjs,Array.toList_eraseIdx]
  have hnd:=hs.2.2
  have mem:∀ x,x∈es.toList.eraseIdx j↔x∈es.toList∧x.key≠iv k:=fun x=>by
    constructor
    ·intro hx
     obtain ⟨i,hne,hi⟩:=List.mem_eraseIdx_iff_getElem?.1 hx
     refine ⟨List.mem_of_getElem? hi,fun hxk=>hne ?_⟩
     have h1:(es.toList.map (·.key))[i]?=some (iv k):=by rw [List.getElem?_map,hi];simp [hxk]
     have h2:(es.toList.map (·.key))[j]?=some (iv k):=by rw [List.getElem?_map,hj];simp [hk]
     obtain ⟨hil,h1⟩:=List.getElem?_eq_some_iff.1 h1
     obtain ⟨hjl,h2⟩:=List.getElem?_eq_some_iff.1 h2
     exact (List.getElem_inj hnd).1 (h1.trans h2.symm)
    ·rintro ⟨hx,hxk⟩
     obtain ⟨i,hi⟩:=List.getElem?_of_mem hx
     refine List.mem_eraseIdx_iff_getElem?.2 ⟨i,fun hij=>?_,hi⟩
     subst hij
     rw [hj] at hi
     cases hi
     exact hxk hk
  refine ⟨⟨fun x hx=>?_,fun i u hu=>?_⟩,MapKept.stamped_erase hs j,hl,?_⟩
  ·rw [hl] at hx
   obtain ⟨hx,hxk⟩:=(mem x).1 hx
   obtain ⟨m,hm,hv⟩:=he.to_ x hx
   refine ⟨m,hm,?_⟩
   rw [Zhf]
   ·exact hv
   ·intro hmk
    subst hmk
    exact hxk hm
  ·by_cases hik:i=k
   ·subst hik
    rw [Zez] at hu
    cases hu
   ·rw [Zhf f _ hik] at hu
    obtain ⟨x,hx,hxk⟩:=he.of i u hu
    exact ⟨x,by rw [hl];exact (mem x).2 ⟨hx,fun h=>hik (ZmN (hxk.symm.trans h))⟩,hxk⟩
  ·unfold Array.eraseIdxIfInBounds
   rw [dif_pos hjs]
   simp
theorem Zet.del {h:Zd} {mb:Nat} {f:Int→Option Value} {n:Nat} (hm:Zet h mb f n) (k:Int) {K:Zd→Prop}
    (hk:∀ h',Zet h' mb (upd f k none) (if (f k).isSome then n - 1 else n)→Upd (· = mb) h h'→h'.size=h.size→K h'):Zle (.int .i64) h (some mb) (iv k) K:=by
  have hlt:=hm.lt
  obtain ⟨es,c,hb,hs,hn,he⟩:=hm
  refine ⟨(fun e=>by cases e),fun b e=>?_⟩
  cases e
  rcases he.find k with ⟨h1,h2⟩ | ⟨j,e,h1,h2,h3,h4⟩
  ·have hu:upd f k none=f:=by
     funext j
     unfold upd
     split
     ·rename_i hj;rw [hj,h2]
     ·rfl
   refine ⟨es,c,none,hb,h1,hk _ ⟨es,c,Zge hlt,hs,by simp [h2,hn],by rw [hu];exact he⟩ ZeB (by simp)⟩
  ·obtain ⟨g1,g2,g3,g4⟩:=he.erase hs h2 h3
   exact ⟨es,c,_,hb,h1,hk _ ⟨_,c,Zge hlt,g2,by simp [h4,g4,hn],g1⟩ ZeB (by simp)⟩
theorem Zet.clear {h:Zd} {mb:Nat} {f:Int→Option Value} {n:Nat} (hm:Zet h mb f n) {K:Zd→Prop}
    (hk:∀ h',Zet h' mb (fun _=>none) 0→Upd (· = mb) h h'→h'.size=h.size→K h'):ZAy h (some mb) K:=by
  have hlt:=hm.lt
  obtain ⟨es,c,hb,hs,hn,he⟩:=hm
  refine ⟨(fun e=>by cases e),fun b e=>?_⟩
  cases e
  exact ⟨es,c,hb,hk _ ⟨#[],c,Zge hlt,MapKept.stamped_empty c,rfl,⟨fun e he=>by simp at he,fun k v hv=>by cases hv⟩⟩ ZeB (by simp)⟩
def ZdQ (h:Zd) (mb it:Nat) (f:Int→Option Value) (n:Nat) (rem:Int→Prop) (L:Nat):Prop :=
  ∃ (es:Array MapEntry) (c since:Nat) (seen:Array Nat) (c0:Nat),h[mb]?=some (.map es c)∧MapKept.Stamped es c∧es.size=n∧Zmx es f∧h[it]?=some (.mapIter (some mb) since seen c0)∧(∀ x,x∈es.toList→x.born<since)∧(since≤c0∧since≤c) ∧
    (leftOf es seen).size=L∧∀ k,rem k↔∃ e,e∈(leftOf es seen).toList∧e.key=iv k
def ZcI (h:Zd) (mb it:Nat) (f:Int→Option Value) (n:Nat) (rem:Int→Prop) (L:Nat) (k:Int):Prop :=
  ∃ (es:Array MapEntry) (c since:Nat) (seen:Array Nat) (e:MapEntry),h[mb]?=some (.map es c)∧MapKept.Stamped es c∧es.size=n∧Zmx es f∧h[it]?=some (.mapIter (some mb) since (seen.push e.born) c)∧(∀ x,x∈es.toList→x.born<since)∧since≤c ∧
    e∈es.toList∧e.key=iv k∧(leftOf es (seen.push e.born)).size=L∧∀ j,rem j↔∃ e',e'∈(leftOf es (seen.push e.born)).toList∧e'.key=iv j
theorem XR (es:Array MapEntry) (seen:Array Nat):(leftOf es seen).toList=es.toList.filter fun e=> !seen.contains e.born:=by
  unfold leftOf;rw [Array.toList_filter]
theorem Zl9 (es:Array MapEntry) (seen:Array Nat):(leftOf es seen).size=(es.toList.filter fun e=> !seen.contains e.born).length:=by
  rw [← XR,Array.length_toList]
theorem Zlg {es:Array MapEntry} {seen:Array Nat} {b:Nat} {e:MapEntry}:e∈(leftOf es (seen.push b)).toList↔e∈(leftOf es seen).toList∧e.born≠b:=by
  rw [XR,XR,List.mem_filter,List.mem_filter,contains_push]
  cases seen.contains e.born<;>simp
theorem ZdQ.lt {h:Zd} {mb it:Nat} {f:Int→Option Value} {n:Nat} {rem:Int→Prop} {L:Nat} (hr:ZdQ h mb it f n rem L):mb<h.size∧it<h.size∧mb≠it:=by
  obtain ⟨es,c,since,seen,c0,hb,_,_,_,hi,_⟩:=hr
  refine ⟨blk_lt hb,blk_lt hi,fun e=>?_⟩
  subst e
  rw [hb] at hi
  cases hi
theorem ZdQ.map {h:Zd} {mb it:Nat} {f:Int→Option Value} {n:Nat} {rem:Int→Prop} {L:Nat} (hr:ZdQ h mb it f n rem L):Zet h mb f n:=by
  obtain ⟨es,c,since,seen,c0,hb,hs,hn,he,_⟩:=hr
  exact ⟨es,c,hb,hs,hn,he⟩
theorem ZdQ.congr {h h':Zd} {mb it:Nat} {f:Int→Option Value} {n:Nat} {rem:Int→Prop} {L:Nat} (hr:ZdQ h mb it f n rem L) (h1:h'[mb]?=h[mb]?) (h2:h'[it]?=h[it]?):ZdQ h' mb it f n rem L:=by
  obtain ⟨es,c,since,seen,c0,hb,hs,hn,he,hi,r⟩:=hr
  exact ⟨es,c,since,seen,c0,h1.trans hb,hs,hn,he,h2.trans hi,r⟩
theorem ZcI.congr {h h':Zd} {mb it:Nat} {f:Int→Option Value} {n:Nat} {rem:Int→Prop} {L:Nat} {k:Int} (hr:ZcI h mb it f n rem L k) (h1:h'[mb]?=h[mb]?) (h2:h'[it]?=h[it]?):ZcI h' mb it f n rem L k:=by
  obtain ⟨es,c,since,seen,e,hb,hs,hn,he,hi,r⟩:=hr
  exact ⟨es,c,since,seen,e,h1.trans hb,hs,hn,he,h2.trans hi,r⟩
theorem Zet.range {h:Zd} {mb:Nat} {f:Int→Option Value} {n:Nat} (hm:Zet h mb f n) {K:Nat→Zd→Prop} (hk:∀ h1,ZdQ h1 mb h.size f n (fun k=>(f k).isSome=true) n→Ext h h1→h1.size=h.size+1→K h.size h1):rgM h (some mb) K:=by
  have hlt:=hm.lt
  obtain ⟨es,c,hb,hs,hn,he⟩:=hm
  have hl:(leftOf es #[]).toList=es.toList:=by
    rw [XR]
    exact List.filter_eq_self.2 fun a _=>by simp
  refine ⟨(fun e=>by cases e),fun b e=>?_⟩
  cases e
  refine ⟨es,c,hb,hk _ ⟨es,c,c,#[],c,(Zgl hlt).trans hb,hs,hn,he,ZdU,hs.1,⟨Nat.le_refl _,Nat.le_refl _⟩,?_,fun k=>?_⟩ (Ext.push _ _) (by simp)⟩
  ·rw [← Array.length_toList,hl,Array.length_toList,hn]
  ·rw [hl]
   constructor
   ·intro hk
    obtain ⟨v,hv⟩:=Option.isSome_iff_exists.1 hk
    exact he.of k v hv
   ·rintro ⟨e,hm,hek⟩
    rw [he.val hm hek]
    rfl
theorem ZdQ.next {h:Zd} {mb it:Nat} {f:Int→Option Value} {n:Nat} {rem:Int→Prop} {L:Nat} (hr:ZdQ h mb it f n rem L) {T:Value→Value→Zd→Prop} {F:Prop}
    (hF:(∀ k,¬ rem k)→F) (hT:∀ k v h' L',rem k→f k=some v→ZcI h' mb it f n (fun j=>rem j∧j≠k) L' k→L'<L→Upd (· = it) h h'→h'.size=h.size→T (iv k) v h'):Ztd h it T F:=by
  obtain ⟨hl1,hl2,hne⟩:=hr.lt
  obtain ⟨es,c,since,seen,c0,hb,hs,hn,he,hi,hold,hsc,hL,hrem⟩:=hr
  refine .inr ⟨mb,since,seen,c0,es,c,hi,hb,hold,hsc.1,fun h0=>hF fun k hk=>?_,fun e hm=>?_⟩
  ·obtain ⟨e,hm,_⟩:=(hrem k).1 hk
   rw [XR] at hm
   rw [Zl9] at h0
   rw [List.eq_nil_of_length_eq_zero h0] at hm
   cases hm
  ·obtain ⟨hme,hns⟩:=mem_left hm
   obtain ⟨k,hk,hv⟩:=he.to_ e hme
   rw [hk]
   refine hT k e.val _ (leftOf es (seen.push e.born)).size ((hrem k).2 ⟨e,hm,hk⟩) hv ⟨es,c,since,seen,e,?_,hs,hn,he,Zge hl2,hold,hsc.2,hme,hk,rfl,fun j=>?_⟩ (by have:=left_shrinks es seen e hm;omega) ZeB (by simp)
   ·rw [Array.getElem?_setIfInBounds_ne (Ne.symm hne)];exact hb
   ·constructor
    ·rintro ⟨hj,hjk⟩
     obtain ⟨e',hm',hk'⟩:=(hrem j).1 hj
     refine ⟨e',Zlg.2 ⟨hm',fun hb'=>hjk ?_⟩,hk'⟩
     have hnd:=hs.2.1
     obtain ⟨i,hi⟩:=List.getElem?_of_mem (mem_left hm').1
     obtain ⟨m,hm2⟩:=List.getElem?_of_mem hme
     have h1:(es.toList.map (·.born))[i]?=some e.born:=by rw [List.getElem?_map,hi];simp [hb']
     have h2:(es.toList.map (·.born))[m]?=some e.born:=by rw [List.getElem?_map,hm2];rfl
     obtain ⟨hil,h1⟩:=List.getElem?_eq_some_iff.1 h1
     obtain ⟨hjl,h2⟩:=List.getElem?_eq_some_iff.1 h2
     have:=(List.getElem_inj hnd).1 (h1.trans h2.symm)
     subst this
     rw [hi] at hm2
     cases hm2
     exact ZmN (hk'.symm.trans hk)
    ·rintro ⟨e',hm',hk'⟩
     obtain ⟨hm1,hb1⟩:=Zlg.1 hm'
     refine ⟨(hrem j).2 ⟨e',hm1,hk'⟩,fun hjk=>hb1 ?_⟩
     subst hjk
     have hnd:=hs.2.2
     obtain ⟨i,hi⟩:=List.getElem?_of_mem (mem_left hm1).1
     obtain ⟨m,hm2⟩:=List.getElem?_of_mem hme
     have h1:(es.toList.map (·.key))[i]?=some (iv j):=by rw [List.getElem?_map,hi];simp [hk']
     have h2:(es.toList.map (·.key))[m]?=some (iv j):=by rw [List.getElem?_map,hm2];simp [hk]
     obtain ⟨hil,h1⟩:=List.getElem?_eq_some_iff.1 h1
     obtain ⟨hjl,h2⟩:=List.getElem?_eq_some_iff.1 h2
     have:=(List.getElem_inj hnd).1 (h1.trans h2.symm)
     subst this
     rw [hi] at hm2
     cases hm2
     rfl
theorem ZcI.ent {h:Zd} {mb it:Nat} {f:Int→Option Value} {n:Nat} {rem:Int→Prop} {L:Nat} {k:Int} (hr:ZcI h mb it f n rem L k) {K:Value→Value→Prop} (hk:∀ v,f k=some v→K (iv k) v):ZAw h it K:=by
  obtain ⟨es,c,since,seen,e,hb,hs,hn,he,hi,hold,hsc,hme,hek,hL,hrem⟩:=hr
  have:=hk e.val (he.val hme hek)
  rw [← hek] at this
  exact ⟨mb,since,seen,es,c,e,hi,hb,hme,hs.2.1,this⟩
theorem ZcI.go {h:Zd} {mb it:Nat} {f:Int→Option Value} {n:Nat} {rem:Int→Prop} {L:Nat} {k:Int} (hr:ZcI h mb it f n rem L k):ZdQ h mb it f n rem L:=by
  obtain ⟨es,c,since,seen,e,hb,hs,hn,he,hi,hold,hsc,hme,hek,hL,hrem⟩:=hr
  exact ⟨es,c,since,_,c,hb,hs,hn,he,hi,hold,⟨hsc,hsc⟩,hL,hrem⟩
theorem Zhj {α:Type} (p:α→Bool):∀ (l:List α) (j:Nat) (x:α),l[j]?=some x→p x=false→(l.eraseIdx j).filter p=l.filter p
  | [],j,x,h,_=>by simp at h
  | y::l,0,x,h,hp=>by simp at h;subst h;simp [hp]
  | y::l,j+1,x,h,hp=>by
    have ih:=Zhj p l j x (by simpa using h) hp
    simp only [List.eraseIdx_cons_succ,List.filter_cons,ih]
theorem ZcI.del {h:Zd} {mb it:Nat} {f:Int→Option Value} {n:Nat} {rem:Int→Prop} {L:Nat} {k:Int} (hr:ZcI h mb it f n rem L k) {K:Zd→Prop}
    (hk:∀ h' n',ZdQ h' mb it (upd f k none) n' rem L→Upd (· = mb) h h'→h'.size=h.size→K h'):Zle (.int .i64) h (some mb) (iv k) K:=by
  obtain ⟨hl1,hl2,hne⟩:=hr.go.lt
  obtain ⟨es,c,since,seen,e,hb,hs,hn,he,hi,hold,hsc,hme,hek,hL,hrem⟩:=hr
  refine ⟨(fun e=>by cases e),fun b e=>?_⟩
  cases e
  rcases he.find k with ⟨h1,h2⟩ | ⟨j,e',h1,h2,h3,h4⟩
  ·rw [he.val hme hek] at h2;cases h2
  ·obtain ⟨g1,g2,g3,g4⟩:=he.erase hs h2 h3
   have hee:e'=e:=by
     have hnd:=hs.2.2
     obtain ⟨m,hm2⟩:=List.getElem?_of_mem hme
     have q1:(es.toList.map (·.key))[j]?=some (iv k):=by rw [List.getElem?_map,h2];simp [h3]
     have q2:(es.toList.map (·.key))[m]?=some (iv k):=by rw [List.getElem?_map,hm2];simp [hek]
     obtain ⟨hil,q1⟩:=List.getElem?_eq_some_iff.1 q1
     obtain ⟨hjl,q2⟩:=List.getElem?_eq_some_iff.1 q2
     have:=(List.getElem_inj hnd).1 (q1.trans q2.symm)
     subst this
     rw [h2] at hm2
     exact Option.some.inj hm2
   subst hee
   have hleft:(leftOf (es.eraseIdxIfInBounds j) (seen.push e'.born)).toList=(leftOf es (seen.push e'.born)).toList:=by
     rw [XR,XR,g3]
     exact Zhj _ _ _ _ h2 (by rw [contains_push,beq_self_eq_true,Bool.or_true];rfl)
   exact ⟨es,c,_,hb,h1,hk _ _ ⟨_,c,since,_,c,Zge hl1,g2,rfl,g1,by rw [Array.getElem?_setIfInBounds_ne hne];exact hi,fun x hx=>hold x ((by rw [g3] at hx;exact List.mem_of_mem_eraseIdx hx)),⟨hsc,hsc⟩,
     by rw [← Array.length_toList,hleft,Array.length_toList,hL],fun q=>by rw [hleft];exact hrem q⟩ ZeB (by simp)⟩
theorem ZcI.put {h:Zd} {mb it:Nat} {f:Int→Option Value} {n:Nat} {rem:Int→Prop} {L:Nat} {k:Int} (hr:ZcI h mb it f n rem L k) (v:Value) {K:Zd→Prop}
    (hk:∀ h',ZdQ h' mb it (upd f k (some v)) n rem L→Upd (· = mb) h h'→h'.size=h.size→K h'):Zib (.int .i64) h (some mb) (iv k) v K:=by
  obtain ⟨hl1,hl2,hne⟩:=hr.go.lt
  obtain ⟨es,c,since,seen,e,hb,hs,hn,he,hi,hold,hsc,hme,hek,hL,hrem⟩:=hr
  rcases he.find k with ⟨h1,h2⟩ | ⟨j,e',h1,h2,h3,h4⟩
  ·rw [he.val hme hek] at h2;cases h2
  ·obtain ⟨g1,g2⟩:=he.modify hs h2 h3 v
   have hj':es[j]?=some e':=by simpa using h2
   have hl:(es.modify j fun x=>{ x with key:=iv k,val:=v }).toList=es.toList.set j { e' with key:=iv k,val:=v }:=by
     apply List.ext_getElem?
     intro i
     rw [Array.getElem?_toList,Array.getElem?_modify,List.getElem?_set]
     have hjl:j<es.toList.length:=(List.getElem?_eq_some_iff.1 h2).1
     by_cases hij:j=i
     ·subst hij
      rw [if_pos rfl,if_pos rfl,if_pos hjl,hj']
      rfl
     ·rw [if_neg hij,if_neg hij,Array.getElem?_toList]
   have hee:e'.born=e.born:=by
     have hnd:=hs.2.2
     obtain ⟨m,hm2⟩:=List.getElem?_of_mem hme
     have q1:(es.toList.map (·.key))[j]?=some (iv k):=by rw [List.getElem?_map,h2];simp [h3]
     have q2:(es.toList.map (·.key))[m]?=some (iv k):=by rw [List.getElem?_map,hm2];simp [hek]
     obtain ⟨hil,q1⟩:=List.getElem?_eq_some_iff.1 q1
     obtain ⟨hjl,q2⟩:=List.getElem?_eq_some_iff.1 q2
     have:=(List.getElem_inj hnd).1 (q1.trans q2.symm)
     subst this
     rw [h2] at hm2
     rw [Option.some.inj hm2]
   have hfs:∀ (l:List MapEntry) (j:Nat) (x y:MapEntry),l[j]?=some x→(!(seen.push e.born).contains x.born)=false→(!(seen.push e.born).contains y.born)=false →
       (l.set j y).filter (fun z=> !(seen.push e.born).contains z.born)=l.filter (fun z=> !(seen.push e.born).contains z.born):=by
     intro l
     induction l with
     | nil=>intro j x y h;simp at h
     | cons z l ih =>
       intro j x y h hx hy
       cases j with
       | zero=>simp at h;subst h;simp only [List.set_cons_zero,List.filter_cons,hx,hy];simp
       | succ j=>simp only [List.set_cons_succ,List.filter_cons,ih j x y (by simpa using h) hx hy]
   have hcon:(!(seen.push e.born).contains e'.born)=false:=by rw [hee,contains_push,beq_self_eq_true,Bool.or_true];rfl
   have hleft:(leftOf (es.modify j fun x=>{ x with key:=iv k,val:=v }) (seen.push e.born)).toList=(leftOf es (seen.push e.born)).toList:=by
     rw [XR,XR,hl]
     exact hfs _ _ _ _ h2 hcon hcon
   refine ⟨mb,es,c,_,rfl,hb,he.key,h1,hk _ ⟨_,c,since,_,c,Zge hl1,g2,by simp [hn],g1,by rw [Array.getElem?_setIfInBounds_ne hne];exact hi,fun x hx=>?_,⟨hsc,hsc⟩,
     by rw [← Array.length_toList,hleft,Array.length_toList,hL],fun q=>by rw [hleft];exact hrem q⟩ ZeB (by simp)⟩
   rw [hl] at hx
   rcases List.mem_or_eq_of_mem_set hx with hx | hx
   ·exact hold x hx
   ·subst hx
    exact hold e' (List.mem_of_getElem? h2)
end Go.Proofs.YthbfgkphlmlihaaGreat
