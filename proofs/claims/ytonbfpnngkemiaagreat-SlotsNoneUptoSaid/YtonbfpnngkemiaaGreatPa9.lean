/- An evaluator by rewriting: what each word of the models comes to on a memory that is written out (blocks pushed, cells put). Plain laws, no program. -/
import Derived.Test.YtonbfpnngkemiaaGreatPa8
set_option linter.unusedVariables false
set_option linter.unusedSimpArgs false
namespace Go.Fw
open Go
def obj(h:Zf)(b:Nat):Option Obj:=h[b]?
def sz(h:Zf):Nat:=h.size
theorem YR{h:Zf}:Array.size h=sz h:=rfl
theorem ZbQ{h:Zf}{x:Obj}:sz (h.push x)=sz h+1:=by unfold sz;simp
theorem ZBQ{h:Zf}{b o:Nat}{v:Value}:sz (h.put b o v)=sz h:=by unfold sz;exact Zky
theorem Zm2{h:Zf}{x:Obj}{b:Nat}:obj (h.push x) b=if b=sz h then some x else obj h b:=by unfold obj sz;rw[Array.getElem?_push]
def Zpu(o:Nat)(v:Value):Option Obj->Option Obj
  |some (.cells c e f)=>some (.cells (c.setIfInBounds o v) e f)
  |x=>x
theorem ZmH{o:Nat}{v:Value}{l:List Value}{e:TypeId}{f:Nat×Nat}:Zpu o v (some (.cells l.toArray e f))=some (.cells (l.set o v).toArray e f):=by simp[Zpu]
theorem ZxP{h:Zf}{b o k:Nat}{v:Value}:obj (h.put b o v) k=if k=b then Zpu o v (obj h k)else obj h k:=by
  unfold obj Zf.put;rw[Aqi]
  by_cases a:b=k
  ·subst a;rw[if_pos rfl,if_pos rfl]
   cases h[b]? with
   |none=>rfl
   |some x=>cases x<;>rfl
  ·rw[if_neg a,if_neg (Ne.symm a)]
def Zy(o:Nat):Option Obj->Option Value
  |some (.cells c _ _)=>c[o]?
  |_=>none
def ZiR(o:Nat):Option Obj->Bool
  |some (.cells c _ f)=>decide (o<c.size)&&(f.1==0&&f.2==0)
  |_=>false
theorem Zdj{o:Nat}{l:List Value}{e:TypeId}{f:Nat×Nat}:Zy o (some (.cells l.toArray e f))=l[o]?:=by simp[Zy]
theorem ZqQ{o:Nat}{l:List Value}{e:TypeId}:ZiR o (some (.cells l.toArray e (0,0)))=decide (o<l.length):=by simp[ZiR]
theorem Yg{h:Zf}{b o:Nat}:h.cell b o=Zy o (obj h b):=by unfold Zf.cell obj Zy;rfl
theorem Zof{h:Zf}{b o:Nat}(a:ZiR o (obj h b)=true):(∃u,h.cell b o=some u)/\h.froz b o=false:=by
  unfold ZiR at a;split at a
  ·rename_i c e f i;simp only[Awn,decide_eq_true_eq,beq_iff_eq]at a;obtain⟨h1,g,h3⟩:=a;have d:h[b]?=some (.cells c e f):=i;refine⟨⟨c[o],by unfold Zf.cell;rw[d];simp[h1]⟩,?_⟩;unfold Zf.froz;rw[d];obtain⟨lo,hi⟩:=f;simp only at g h3;subst g h3;simp
  ·cases a
theorem Zbz{n:Int}{K:Int->Prop}:Zc n K=K n:=propext ⟨λh=>h,λh=>h⟩
theorem ZlU{n:Bool}{K:Bool->Prop}:Zq n K=K n:=propext ⟨λh=>h,λh=>h⟩
theorem ZiU{h:Zf}{cells:List Value}{t:TypeId}{K:Nat->Zf->Prop}:newC h cells t K=K (sz h) (h.push (.cells cells.toArray t (0,0))):=propext ⟨λh=>h,λh=>h⟩
theorem Zr3{h:Zf}{K:Nat->Zf->Prop}:ZfD h K=K (sz h) (h.push (.map #[] 0)):=propext ⟨λh=>h,λh=>h⟩
theorem ZxS{p K:Prop}:Zx p K=(p/\K):=propext ⟨λh=>h,λh=>h⟩
theorem ZBx{p K:Prop}:Zlh p K=(p/\K):=propext ⟨λh=>h,λh=>h⟩
theorem ZBq{b o:Nat}{K:Nat->Nat->Prop}:Ze (some ⟨b,o,none⟩) K=K b o:=propext ⟨λ⟨a,c,e,h⟩=>(by cases e;exact h),λh=>⟨b,o,rfl,h⟩⟩
theorem ZEy{A B:Prop}:Zk true A B=A:=propext ⟨λh=>h.1 rfl,λh=>Xh h⟩
theorem ZEz{A B:Prop}:Zk false A B=B:=propext ⟨λh=>h.2 rfl,λh=>ZB h⟩
theorem ZB5{h:Zf}{b o:Nat}{k:IntKind}{n:Int}{K:Int->Prop}(c:Zy o (obj h b)=some (.int k n)):ldI h b o k K=K n:=
  propext ⟨λ⟨m,e,a⟩=>(by rw[Yg,c]at e;cases e;exact a),λa=>⟨n,by rw[Yg,c],a⟩⟩
theorem ZHx{h:Zf}{b o:Nat}{n:Bool}{K:Bool->Prop}(c:Zy o (obj h b)=some (.bool n)):ldB h b o K=K n:=
  propext ⟨λ⟨m,e,a⟩=>(by rw[Yg,c]at e;cases e;exact a),λa=>⟨n,by rw[Yg,c],a⟩⟩
theorem ZB3{h:Zf}{b o:Nat}{n:ByteArray}{K:ByteArray->Prop}(c:Zy o (obj h b)=some (.string n)):ldS h b o K=K n:=
  propext ⟨λ⟨m,e,a⟩=>(by rw[Yg,c]at e;cases e;exact a),λa=>⟨n,by rw[Yg,c],a⟩⟩
theorem ZHr{h:Zf}{b o:Nat}{n:Option Addr}{K:Option Addr->Prop}(c:Zy o (obj h b)=some (.pointer n)):ldP h b o K=K n:=
  propext ⟨λ⟨m,e,a⟩=>(by rw[Yg,c]at e;cases e;exact a),λa=>⟨n,by rw[Yg,c],a⟩⟩
theorem ZHt{h:Zf}{b o:Nat}{n:Option Nat}{K:Option Nat->Prop}(c:Zy o (obj h b)=some (.map n)):ldM h b o K=K n:=
  propext ⟨λ⟨m,e,a⟩=>(by rw[Yg,c]at e;cases e;exact a),λa=>⟨n,by rw[Yg,c],a⟩⟩
theorem ZB2{h:Zf}{b o:Nat}{n:Value}{K:Value->Prop}(c:Zy o (obj h b)=some n):ldV h b o K=K n:=
  propext ⟨λ⟨m,e,a⟩=>(by rw[Yg,c]at e;cases e;exact a),λa=>⟨n,by rw[Yg,c],a⟩⟩
theorem ZB4{h:Zf}{b o:Nat}{p:Option Addr}{l c:Nat}{K:Sl->Prop}(d:Zy o (obj h b)=some (.slice p l c)):ldL h b o K=K ⟨p,l,c⟩ :=
  propext ⟨λ⟨m,e,a⟩=>(by rw[Yg,d]at e;cases e;exact a),λa=>⟨⟨p,l,c⟩,by rw[Yg,d],a⟩⟩
theorem ZOM{h:Zf}{b o:Nat}{v:Value}{K:Zf->Prop}(c:ZiR o (obj h b)=true)(hv:Zs v=true):st h b o v K=K (h.put b o v):=
  propext ⟨λa=>a.2.2.2,λa=>⟨(Zof c).1,(Zof c).2,hv,a⟩⟩
theorem ZuI{h:Zf}{b:Nat}:∀(n o:Nat),(∀i,i<n->ZiR (o+i) (obj h b)=true)->h.free b o n
  | 0,_,_=>trivial
  |n+1,o,a=>⟨Zof (by have:=a 0 (by omega);simpa using this),ZuI n (o+1) λi hi=>by have:=a (i+1) (by omega);rw[show o+1+i=o+(i+1)from by omega];exact this⟩
def ZtK(o n:Nat):Option Obj->Bool
  |some (.cells c _ f)=>decide (o+n<=c.size)&&(f.1==0&&f.2==0)
  |_=>false
theorem Zjn{o n:Nat}{l:List Value}{e:TypeId}:ZtK o n (some (.cells l.toArray e (0,0)))=decide (o+n<=l.length):=by simp[ZtK]
theorem ZBk{h:Zf}{b o n:Nat}(a:ZtK o n (obj h b)=true):h.free b o n:=by
  refine ZuI n o λi hi=>?_;unfold ZtK at a;split at a
  ·rename_i c e f d;rw[d];simp only[Awn,decide_eq_true_eq]at a;simp only[ZiR,Awn,decide_eq_true_eq];exact⟨by omega,a.2⟩
  ·cases a
theorem Zph{h:Zf}{b o:Nat}{vs:List Value}{K:Zf->Prop}(c:ZtK o vs.length (obj h b)=true)(hv:vs.all Zs=true):sts h b o vs K=K (h.puts b o vs):=
  propext ⟨λa=>a.2.2,λa=>⟨ZBk c,hv,a⟩⟩
theorem ZiN{h:Zf}{b o:Nat}{vs:List Value}:sz (h.puts b o vs)=sz h:=Zlw
def Zk4:Nat->List Value->Option Obj->Option Obj
  |_,[],x=>x
  |o,v::vs,x=>Zk4 (o+1) vs (Zpu o v x)
def Ze9:Nat->List Value->List Value->List Value
  |_,[],l=>l
  |o,v::vs,l=>Ze9 (o+1) vs (l.set o v)
theorem ZeO{e:TypeId}{f:Nat×Nat}:∀{vs:List Value} {o:Nat} {l:List Value},Zk4 o vs (some (.cells l.toArray e f))=some (.cells (Ze9 o vs l).toArray e f)
  |[],_,_=>rfl
  |v::vs,o,l=>by unfold Zk4 Ze9;rw[ZmH,ZeO]
theorem ZlC{b:Nat}:∀{vs:List Value} {h:Zf} {o k:Nat},obj (h.puts b o vs) k=if k=b then Zk4 o vs (obj h k)else obj h k
  | [],h,o,k=>by
    unfold Zf.puts Zk4;split<;>rfl
  | v::vs,h,o,k=>by
    unfold Zf.puts;rw[ZlC,ZxP]
    by_cases a:k=b
    ·rw[if_pos a,if_pos a,if_pos a];rfl
    ·rw[if_neg a,if_neg a,if_neg a]
theorem Zhq{h:Zf}:Zo h []=True:=rfl
theorem Za0{h:Zf}{b o:Nat}{v:Value}{r:List (Nat×Nat×Value)}:Zo h ((b,o,v)::r)=(Zy o (obj h b)=some v/\Zo h r):=by rw[<-Yg];rfl
theorem Zyj{b o l size:Nat}{i:Int}{n:Nat}{K:Nat->Nat->Prop}(hi:i=(n:Int))(hl:n<l)(a:K b (o+n*size)):Yk (some ⟨b,o,none⟩) l i size K:=by subst hi;exact⟨b,o,rfl,by omega,by omega,by simpa using a⟩
theorem ZHv{h:Zf}{b o:Nat}{k:IntKind}{K:Int->Prop}:ldI h b o k K=∃n,Zy o (obj h b)=some (.int k n)/\K n:=by unfold ldI;exact propext ⟨λ⟨n,e,a⟩=>⟨n,Yg▸e,a⟩,λ⟨n,e,a⟩=>⟨n,Yg.trans e,a⟩⟩
theorem ZHw{h:Zf}{b o:Nat}{K:Bool->Prop}:ldB h b o K=∃n,Zy o (obj h b)=some (.bool n)/\K n:=by unfold ldB;exact propext ⟨λ⟨n,e,a⟩=>⟨n,Yg▸e,a⟩,λ⟨n,e,a⟩=>⟨n,Yg.trans e,a⟩⟩
theorem ZHp{h:Zf}{b o:Nat}{K:ByteArray->Prop}:ldS h b o K=∃n,Zy o (obj h b)=some (.string n)/\K n:=by unfold ldS;exact propext ⟨λ⟨n,e,a⟩=>⟨n,Yg▸e,a⟩,λ⟨n,e,a⟩=>⟨n,Yg.trans e,a⟩⟩
theorem ZHq{h:Zf}{b o:Nat}{K:Option Addr->Prop}:ldP h b o K=∃n,Zy o (obj h b)=some (.pointer n)/\K n:=by unfold ldP;exact propext ⟨λ⟨n,e,a⟩=>⟨n,Yg▸e,a⟩,λ⟨n,e,a⟩=>⟨n,Yg.trans e,a⟩⟩
theorem ZHs{h:Zf}{b o:Nat}{K:Option Nat->Prop}:ldM h b o K=∃n,Zy o (obj h b)=some (.map n)/\K n:=by unfold ldM;exact propext ⟨λ⟨n,e,a⟩=>⟨n,Yg▸e,a⟩,λ⟨n,e,a⟩=>⟨n,Yg.trans e,a⟩⟩
theorem ZHo{h:Zf}{b o:Nat}{K:Value->Prop}:ldV h b o K=∃n,Zy o (obj h b)=some n/\K n:=by unfold ldV;exact propext ⟨λ⟨n,e,a⟩=>⟨n,Yg▸e,a⟩,λ⟨n,e,a⟩=>⟨n,Yg.trans e,a⟩⟩
theorem ZHu{h:Zf}{b o:Nat}{K:Sl->Prop}:ldL h b o K=∃s:Sl,Zy o (obj h b)=some (slV s)/\K s:=by unfold ldL;exact propext ⟨λ⟨n,e,a⟩=>⟨n,Yg▸e,a⟩,λ⟨n,e,a⟩=>⟨n,Yg.trans e,a⟩⟩
theorem ZGT{s t:Sl}:(slV s=slV t)=(s=t):=by refine propext ⟨λh=>?_,λh=>by rw[h]⟩;cases s;cases t;unfold slV at h;injection h with h1 a h3;subst h1 a h3;rfl
theorem Zaj{σ:Type}{body:(σ->Zf->Prop)->σ->Zf->Prop}{s:σ}{h:Zf}(I:σ->Zf->Prop)(μ:σ->Zf->Nat)
    (h0:I s h) (c:∀s h,I s h->∀Q:σ->Zf->Prop,(∀s' h',I s' h'->μ s' h'<μ s h->Q s' h')->body Q s h):ZP body s h:=⟨I,μ,h0,λs h hs=>c s h hs _ λ_ _ a b=>⟨a,b⟩⟩
theorem ZoF{σ:Type}{rest:σ->Zf->Prop}{pre:(σ->Zf->Prop)->Prop}(J:σ->Zf->Prop)
    (h1:∀s h,J s h->rest s h) (a:∀Q:σ->Zf->Prop,(∀s h,J s h->Q s h)->pre Q):Zf1 rest pre:=⟨J,h1,a _ λ_ _ h=>h⟩
theorem Znq{s:Sl}:Value.slice s.ptr s.len s.cap=slV s:=rfl
theorem ZdD{k:IntKind}{n:Int}:Zs (.int k n)=true:=by simp[Zs]
theorem ZqO{b:Bool}:Zs (.bool b)=true:=by simp[Zs]
theorem ZiQ{b:ByteArray}:Zs (.string b)=true:=by simp[Zs]
theorem ZEc{b:Option Addr}:Zs (.pointer b)=true:=by simp[Zs]
theorem ZG4{b:Option Addr}{l c:Nat}:Zs (.slice b l c)=true:=by simp[Zs]
theorem XC{s:Sl}:Zs (slV s)=true:=by simp[Zs,slV]
theorem Ztu{b:Option Nat}:Zs (.map b)=true:=by simp[Zs]
theorem ZxM{t:TypeId}{v:Value}:Zs (.iface t v)=true:=by simp[Zs]
theorem ZA2:Zs .nilIface=true:=by simp[Zs]
theorem ZG5{f:Fn}{a b:Array Value}:Zs (.func f a b)=true:=by simp[Zs]
theorem ZnU{h:Zf}{b:Nat}(a:b<sz h)(k:Nat):(b=sz h+k)=False:=eq_false (by omega)
theorem Ze8{h:Zf}{b:Nat}(a:b<sz h):(b=sz h)=False:=eq_false (by omega)
theorem ZEn{h:Zf}{b:Nat}(a:b<sz h)(k:Nat):(sz h+k=b)=False:=eq_false (by omega)
theorem ZxW{h:Zf}{b:Nat}(a:b<sz h):(sz h=b)=False:=eq_false (by omega)
theorem ZQ{h h':Zf}(e:Ext h h'){b:Nat}(a:b<sz h):obj h' b=obj h b:=e.old b a
theorem Zal{S:Nat->Prop}{h h':Zf}(e:Upd S h h'){b:Nat}(a:b<sz h)(hs:¬S b):obj h' b=obj h b:=e.old b a hs
theorem ZmL{h h':Zf}(e:Ext h h'):sz h<=sz h':=e.size
theorem X7{h h1:Zf}{x:Obj}(he:Ext h h1):Ext h (h1.push x):=he.trans (Ext.push _ _)
theorem ZtL{h h1:Zf}{b o:Nat}{v:Value}(he:Ext h h1)(a:sz h<=b):Ext h (h1.put b o v):=
  he.then (Upd.put _ _ _ _) λk c=>by subst c;exact a
theorem Zb8{h h1:Zf}{b o:Nat}{vs:List Value}(he:Ext h h1)(a:sz h<=b):Ext h (h1.puts b o vs):=
  he.then (Upd.puts _ _ _ _) λk c=>by subst c;exact a
theorem ZiJ{S:Nat->Prop}{h h1:Zf}{x:Obj}(he:Upd S h h1):Upd S h (h1.push x):=⟨Aqp he.size (by simp),λk a hs=>(Zkz (Aqq a he.size)).trans (he.old k a hs)⟩
theorem Zxc{S:Nat->Prop}{h h1:Zf}{b o:Nat}{v:Value}(he:Upd S h h1)(a:sz h<=b\/S b):Upd S h (h1.put b o v):=
  ⟨by rw[Zky];exact he.size,λk c hs=>(Zlx λe=>by subst e;exact a.elim (λd=>by unfold sz at d;omega) hs).trans (he.old k c hs)⟩
theorem Zf5{S:Nat->Prop}{h h1:Zf}{b o:Nat}{vs:List Value}(he:Upd S h h1)(a:sz h<=b\/S b):Upd S h (h1.puts b o vs):=
  ⟨by rw[Zlw];exact he.size,λk c hs=>(Zkx λe=>by subst e;exact a.elim (λd=>by unfold sz at d;omega) hs).trans (he.old k c hs)⟩
theorem Zp{h:Zf}{b:Nat}{x:Obj}(a:obj h b=some x):b<sz h:=by
  unfold obj at a
  rcases Aqd b h.size with hl|hl
  ·exact hl
  ·rw[Aqe hl]at a;cases a
theorem Zj{h h':Zf}{b:Nat}{x:Obj}(a:obj h b=some x)(e:Ext h h'):obj h' b=some x:=(ZQ e (Zp a)).trans a
theorem Y0{S:Nat->Prop}{h h':Zf}{b:Nat}{x:Obj}(a:obj h b=some x)(e:Upd S h h')(hs:¬S b):obj h' b=some x:=(Zal e (Zp a) hs).trans a
theorem Y7{h:Zf}{l:Nat}{o:Obj}:sz (Zns h l o)=sz h:=by unfold sz Zns;simp
theorem YX{h:Zf}{l k:Nat}{o:Obj}(hl:l<sz h):obj (Zns h l o) k=if k=l then some o else obj h k:=by
  unfold obj Zns
  by_cases a:k=l
  ·subst a;rw[if_pos rfl,Array.getElem?_setIfInBounds_self_of_lt hl]
  ·rw[if_neg a,Awj (Ne.symm a)]
theorem ZhN{S:Nat->Prop}{h h1:Zf}{l:Nat}{o:Obj}(he:Upd S h h1)(a:sz h<=l\/S l):Upd S h (Zns h1 l o):=
  ⟨by unfold Zns;simp;exact he.size,λk b hs=>by
    unfold Zns;rw[Awj (λe=>by subst e;exact a.elim (λc=>by unfold sz at c;omega) hs)]
    exact he.old k b hs⟩
theorem Zgh{h h1:Zf}{l:Nat}{o:Obj}(he:Ext h h1)(a:sz h<=l):Ext h (Zns h1 l o):=
  (ZhN (S:=λ_=>False) (he.upd _) (.inl a)).ext λ_ _ h=>h
theorem Zrf{r:Loop}{l:Nat}{h:Zf}{K:Zf->Prop}:ZtQ r l h K=(obj h l=some (ZdC r .ready none)/\K (Zns h l (ZdC r .busy none))):=propext ⟨λh=>h,λh=>h⟩
theorem Zqz{D:Nat}{h:Zf}{K:Zf->Prop}:Zlq D h K=(obj h D=some (.deferred (some []))/\K (Zns h D (.deferred none))):=propext ⟨λh=>h,λh=>h⟩
theorem ZnF{n:Nat}{it:Yld->Nat->(Zf->Prop)->Zf->Prop}{body:Nat->Loop->List Value->Zf->(Option Code->Zf->Prop)->Prop}{h:Zf}{K:Option Code->Nat->Zf->Prop}:
    Zpp n it body h K=∀r:Loop,it (Zpb r (sz h+1) n (body (sz h+1) r)) (sz h+1)
     (λh'=>∃st p,st≠ .busy/\(obj h' (sz h+1)=some (ZdC r st p)/\K p (sz h) (Zns h' (sz h+1) (ZdC r .exhausted p)))) ((h.push (.deferred (some []))).push (ZdC r .ready none)):=propext ⟨λh=>h,λh=>h⟩
theorem ZrE{r:Loop}{l n:Nat}{body:List Value->Zf->(Option Code->Zf->Prop)->Prop}{a:Nat}{vs:List Value}{k:Bool->Zf->Prop}{h:Zf}:
    Zpb r l n body a vs k h=(a=l/\vs.length=n/\(obj h l=some (ZdC r .ready none)/\body vs h λp h'=>(obj h' l=some (ZdC r .busy none)/\k p.isNone (Zns h' l (ZdC r (if p.isNone then .ready else .done) p))))):=propext ⟨λh=>h,λh=>h⟩
theorem Zn2{N:Prop}{X:Nat->Prop}{R:Prop}:Zv7 none N X R=N:=rfl
theorem Ext.updS{h h1 a:Zf}{S:Nat->Prop}(e:Ext h h1)(u:Upd S h1 a)(hs:∀k,S k->sz h<=k):Ext h a:=e.then u λk b=>hs k b
theorem ZM:(∀{h:Zf} {cells:List Value} {t:TypeId} {K:Nat->Zf->Prop},newC h cells t K=K (sz h) (h.push (.cells cells.toArray t (0,0))))/\
  (∀{h:Zf} {K:Nat->Zf->Prop},ZfD h K=K (sz h) (h.push (.map #[] 0)))/\
  (∀{n:Int} {K:Int->Prop},Zc n K=K n)/\
  (∀{n:Bool} {K:Bool->Prop},Zq n K=K n)/\
  (∀{p K:Prop},Zx p K=(p/\K))/\
  (∀{p K:Prop},Zlh p K=(p/\K))/\
  (∀{b o:Nat} {K:Nat->Nat->Prop},Ze (some ⟨b,o,none⟩) K=K b o)/\
  (∀{A B:Prop},Zk true A B=A)/\
  (∀{A B:Prop},Zk false A B=B)/\
  (∀{h:Zf} {b o:Nat} {k:IntKind} {K:Int->Prop},ldI h b o k K=∃n,Zy o (obj h b)=some (.int k n)/\K n)/\
  (∀{h:Zf} {b o:Nat} {K:Bool->Prop},ldB h b o K=∃n,Zy o (obj h b)=some (.bool n)/\K n)/\
  (∀{h:Zf} {b o:Nat} {K:ByteArray->Prop},ldS h b o K=∃n,Zy o (obj h b)=some (.string n)/\K n)/\
  (∀{h:Zf} {b o:Nat} {K:Option Addr->Prop},ldP h b o K=∃n,Zy o (obj h b)=some (.pointer n)/\K n)/\
  (∀{h:Zf} {b o:Nat} {K:Option Nat->Prop},ldM h b o K=∃n,Zy o (obj h b)=some (.map n)/\K n)/\
  (∀{h:Zf} {b o:Nat} {K:Value->Prop},ldV h b o K=∃n,Zy o (obj h b)=some n/\K n)/\
  (∀{h:Zf} {b o:Nat} {K:Sl->Prop},ldL h b o K=∃s:Sl,Zy o (obj h b)=some (slV s)/\K s)/\
  (∀{h:Zf} {b o:Nat} {v:Value} {K:Zf->Prop} (d:ZiR o (obj h b)=true) (hv:Zs v=true),st h b o v K=K (h.put b o v))/\
  (∀{h:Zf} {b o:Nat} {vs:List Value} {K:Zf->Prop} (d:ZtK o vs.length (obj h b)=true) (hv:vs.all Zs=true),sts h b o vs K=K (h.puts b o vs))/\
  (∀{h:Zf} {x:Obj},sz (h.push x)=sz h+1)/\
  (∀{h:Zf} {b o:Nat} {v:Value},sz (h.put b o v)=sz h)/\
  (∀{h:Zf} {b o:Nat} {vs:List Value},sz (h.puts b o vs)=sz h)/\
  (∀{h:Zf} {x:Obj} {b:Nat},obj (h.push x) b=if b=sz h then some x else obj h b)/\
  (∀{h:Zf} {b o k:Nat} {v:Value},obj (h.put b o v) k=if k=b then Zpu o v (obj h k)else obj h k)/\
  (∀{b:Nat} {vs:List Value} {h:Zf} {o k:Nat},obj (h.puts b o vs) k=if k=b then Zk4 o vs (obj h k)else obj h k)/\
  (∀{o:Nat} {v:Value} {l:List Value} {e:TypeId} {f:Nat×Nat},Zpu o v (some (.cells l.toArray e f))=some (.cells (l.set o v).toArray e f))/\
  (∀{e:TypeId} {f:Nat×Nat},(∀{vs:List Value} {o:Nat} {l:List Value},Zk4 o vs (some (.cells l.toArray e f))=some (.cells (Ze9 o vs l).toArray e f)))/\
  (∀{o:Nat} {l:List Value} {e:TypeId} {f:Nat×Nat},Zy o (some (.cells l.toArray e f))=l[o]?)/\
  (∀{o:Nat} {l:List Value} {e:TypeId},ZiR o (some (.cells l.toArray e (0,0)))=decide (o<l.length))/\
  (∀{o n:Nat} {l:List Value} {e:TypeId},ZtK o n (some (.cells l.toArray e (0,0)))=decide (o+n<=l.length))/\
  (∀{h:Zf},Zo h []=True)/\
  (∀{h:Zf} {b o:Nat} {v:Value} {r:List (Nat×Nat×Value)},Zo h ((b,o,v)::r)=(Zy o (obj h b)=some v/\Zo h r))/\
  (∀{h:Zf},Array.size h=sz h)/\
  (∀{s t:Sl},(slV s=slV t)=(s=t))/\
  (∀{s:Sl},Value.slice s.ptr s.len s.cap=slV s)/\
  (∀{k:IntKind} {n:Int},Zs (.int k n)=true)/\
  (∀{b:Bool},Zs (.bool b)=true)/\
  (∀{b:ByteArray},Zs (.string b)=true)/\
  (∀{b:Option Addr},Zs (.pointer b)=true)/\
  (∀{b:Option Addr} {l c:Nat},Zs (.slice b l c)=true)/\
  (∀{s:Sl},Zs (slV s)=true)/\
  (∀{b:Option Nat},Zs (.map b)=true)/\
  (∀{t:TypeId} {v:Value},Zs (.iface t v)=true)/\
  (Zs .nilIface=true)/\
  (∀{f:Fn} {a b:Array Value},Zs (.func f a b)=true)/\
  (∀(h:Zf),Ext h h)/\
  (∀{h h1:Zf} {x:Obj} (he:Ext h h1),Ext h (h1.push x))/\
  (∀{h h1:Zf} {b o:Nat} {v:Value} (he:Ext h h1) (g:sz h<=b),Ext h (h1.put b o v))/\
  (∀{h h1:Zf} {b o:Nat} {vs:List Value} (he:Ext h h1) (g:sz h<=b),Ext h (h1.puts b o vs))/\
  (∀(p:Prop),(p/\p)=p)/\
  (∀(p:Prop),(True/\p)=p)/\
  (∀(p:Prop),(p/\True)=p)/\
  (∀(b:Bool),(b&&b)=b)/\
  (∀(b:Bool),(true&&b)=b)/\
  (∀(b:Bool),(b&&true)=b)/\
  ((!true)=false)/\
  ((!false)=true)/\
  (∀{p:Prop} [Decidable p],(decide p=true)=p)/\
  (∀(n:Nat),0+n=n)/\
  (∀(n:Nat),n+0=n)/\
  (∀(n m k:Nat),n+m+k=n+(m+k))/\
  (∀{m k n:Nat},n+m=n+k↔m=k)/\
  (∀{a b:Nat},a+b=a↔b=0)/\
  (∀{a b:Nat},a=a+b↔b=0)/\
  (∀{m k n:Nat},n+m<=n+k↔m<=k)/\
  (∀(n k:Nat),n<=n+k)/\
  (∀(n:Nat),n<=n)/\
  ((1:Nat)≠0)/\
  (∀{k n m:Nat},k+n<k+m↔n<m)/\
  (∀{n k:Nat},n<n+k↔0<k):=
  ⟨@ZiU,@Zr3,@Zbz,@ZlU,@ZxS,@ZBx,@ZBq,@ZEy,@ZEz,@ZHv,@ZHw,@ZHp,@ZHq,@ZHs,@ZHo,@ZHu,@ZOM,@Zph,@ZbQ,@ZBQ,@ZiN,@Zm2,@ZxP,@ZlC,@ZmH,@ZeO,@Zdj,@ZqQ,@Zjn,@Zhq,@Za0,@YR,@ZGT,@Znq,@ZdD,@ZqO,@ZiQ,@ZEc,@ZG4,@XC,@Ztu,@ZxM,@ZA2,@ZG5,@Ext.refl,@X7,@ZtL,@Zb8,@and_self,@true_and,@and_true,@Bool.and_self,@Bool.true_and,@Bool.and_true,Bool.not_true,Axj,@decide_eq_true_eq,@Nat.zero_add,@Nat.add_zero,@Nat.add_assoc,@Nat.add_left_cancel_iff,@Nat.add_eq_left,@Nat.left_eq_add,@Nat.add_le_add_iff_left,@Nat.le_add_right,@Nat.le_refl,Axl,@Nat.add_lt_add_iff_left,@Nat.lt_add_right_iff_pos⟩
theorem ZL:(∀(b o:Nat) (s:Option Nat) (c d:Nat) (s':Option Nat),(Addr.mk b o s=Addr.mk c d s')=(b=c/\o=d/\s=s'))/\
  (∀(k:IntKind) (n:Int) (e:IntKind) (g:Int),(Value.int k n=Value.int e g)=(k=e/\n=g))/\
  (∀(b c:Bool),(Value.bool b=Value.bool c)=(b=c))/\
  (∀(s s':ByteArray),(Value.string s=Value.string s')=(s=s'))/\
  (∀(a a':Option Addr),(Value.pointer a=Value.pointer a')=(a=a'))/\
  (∀(r j:Option Nat),(Value.map r=Value.map j)=(r=j))/\
  (∀{α β:Type} (a:α) (f:α->β),Option.map f (some a)=some (f a))/\
  (∀{α:Type} {a b:α},Option.getD (some a) b=a)/\
  (∀{α:Type} {a:α},Option.getD none a=a)/\
  (∀{α:Type} {a:α},Option.isSome (some a)=true)/\
  (∀{α:Type},Option.isSome (none:Option α)=false)/\
  (∀{α:Type} {a:α},Option.isNone (some a)=false)/\
  (∀{α:Type},Option.isNone (none:Option α)=true)/\
  (∀{α:Type} (a a':α),(some a=some a')=(a=a'))/\
  (∀{α:Type} {a:α} {l:List α} {f:α->Bool},List.all (a::l) f=(f a&&List.all l f))/\
  (∀{α:Type} {f:α->Bool},List.all [] f=true)/\
  (∀{α:Type} {a:α} {l:List α},List.length (a::l)=List.length l+1)/\
  (∀{α:Type},List.length ([]:List α)=0)/\
  (∀{α:Type} {x:α} {xs:List α} {a:α},List.set (x::xs) 0 a=a::xs)/\
  (∀{α:Type} {x:α} {xs:List α} {i:Nat} {a:α},List.set (x::xs) (i+1) a=x::List.set xs i a)/\
  (∀{α:Type} {a:α} {l:List α},(a::l)[0]?=some a)/\
  (∀{α:Type} {a:α} {i:Nat} {l:List α},(a::l)[i+1]?=l[i]?)/\
  (∀{α:Type} {i:Nat},([]:List α)[i]?=none)/\
  (∀{α β:Type} (a:α) (b:β) (a':α) (c:β),((a,b)=(a',c))=(a=a'/\b=c))/\
  (∀{α:Type} {p:α->Prop} {a':α},(∃a,a=a'/\p a)↔p a')/\
  (∀{α:Type} {p:α->Prop} {a':α},(∃a,a'=a/\p a)↔p a')/\
  (∀(h:Decidable True),@decide True h=true)/\
  (∀(h:Decidable False),@decide False h=false):=
  ⟨@Addr.mk.injEq,@Value.int.injEq,@Value.bool.injEq,@Value.string.injEq,@Value.pointer.injEq,@Value.map.injEq,@Option.map_some,@Option.getD_some,@Option.getD_none,@Option.isSome_some,@Option.isSome_none,@Option.isNone_some,@Option.isNone_none,@Option.some.injEq,@List.all_cons,@List.all_nil,@List.length_cons,@List.length_nil,@List.set_cons_zero,@List.set_cons_succ,@List.getElem?_cons_zero,@List.getElem?_cons_succ,@List.getElem?_nil,@Prod.mk.injEq,@exists_eq_left,@exists_eq_left',@decide_true,@decide_false⟩
theorem evC:(∀{α:Type} {i:Decidable True} (t e:α),@ite α True i t e=t)/\(∀{α:Type} {i:Decidable False} (t e:α),@ite α False i t e=e)/\
    (∀(o:Nat) (l:List Value),Ze9 o [] l=l)/\(∀(o:Nat) (v:Value) (vs l:List Value),Ze9 o (v::vs) l=Ze9 (o+1) vs (l.set o v))/\(∀a:Nat,(a==a)=true):=
  ⟨λ_ _=>if_pos trivial,λ_ _=>if_neg id,λ_ _=>rfl,λ_ _ _ _=>rfl,λa=>beq_self_eq_true a⟩
end Go.Fw
namespace Go.Proofs.YtonbfpnngkemiaaGreat
open Go Go.Fw
open Nat renaming reduceAdd->Nqa,reduceLT->Nqb,reduceLeDiff->Nqc,reduceEqDiff->Nqd,reduceMul->Nqe
theorem ZF{h:Zf}{cells:List Value}{t:TypeId}{K:Nat->Zf->Prop}(a:∀h1,h1[h.size]?=some (.cells cells.toArray t (0,0))->Ext h h1->h1.size=h.size+1->K h.size h1):newC h cells t K:=
  Zpx (a _ Zdi (Ext.push _ _) (by simp))
theorem Zi{b o:Nat}{K:Nat->Nat->Prop}(a:K b o):Ze (some ⟨b,o,none⟩) K:=⟨b,o,rfl,a⟩
theorem ZsC{h:Zf}{b:Nat}{x:Obj}(a:h[b]?=some x):b<h.size:=by
  rcases Aqd b h.size with hl|hl
  ·exact hl
  ·rw[Aqe hl]at a;cases a
theorem ZbP{α:Type}{l:List α}{i:Nat}{x:α}(h:l[i]?=some x):i<l.length:=by
  rcases Aqd i l.length with a|a
  ·exact a
  ·rw[Aqt a]at h;cases h
theorem YN{α:Type}{f:α->List Value}{n:Nat}(b:∀a,(f a).length=n):∀l:List α,(l.flatMap f).length=l.length*n
  |[]=>by simp
  |a::l=>by rw[Aye,Awe,b,YN b l,Aqj,Aww];omega
theorem Zq8{α:Type}{f:α->List Value}{n:Nat}(b:∀a,(f a).length=n):∀(l:List α) (i m:Nat) (a:α),l[i]?=some a->m<n->(l.flatMap f)[i*n+m]?=(f a)[m]?
  |[],i,m,a,h,_=>by simp at h
  | x::l,0,m,a,h,hm=>by
    simp only[Axg,Awh]at h;subst h;rw[Aye,Aqs,Awb,Awu (by rw[b];exact hm)]
  | x::l,i+1,m,a,h,hm=>by
    rw[Aye,Awv (by rw[b,Aww];omega),b];have e:(i+1)*n+m- n=i*n+m:=by rw[Aww];omega
    rw[e];exact Zq8 b l i m a (by simpa using h) hm
theorem ZPK{h:Zf}{b o:Nat}{v:Value}{K:Zf->Prop}{c:Array Value}{e:TypeId}(a:h[b]?=some (.cells c e (0,0)))(ho:o<c.size)(hv:Zs v=true)
    (d:∀h',h'[b]?=some (.cells (c.setIfInBounds o v) e (0,0))->Upd (· = b) h h'->h'.size=h.size->K h'):st h b o v K:=by
  refine⟨⟨c[o],by rw[ZkI a];simp[ho]⟩,?_,hv,d _ (ZnG a) (Upd.put h b o v) Zky⟩;unfold Zf.froz;rw[a];simp
theorem Zb{h:Zf}{b o:Nat}{l:List Value}{e:TypeId}{f:Nat×Nat}{v:Value}(a:obj h b=some (.cells l.toArray e f))(hv:l[o]?=some v):Zy o (obj h b)=some v:=by rw[a,Zdj];exact hv
theorem rI{h:Zf}{b o:Nat}{k:IntKind}{n:Int}{K:Int->Prop}(a:Zy o (obj h b)=some (.int k n))(c:K n):ldI h b o k K:=by rw[ZB5 a];exact c
theorem rB{h:Zf}{b o:Nat}{n:Bool}{K:Bool->Prop}(a:Zy o (obj h b)=some (.bool n))(c:K n):ldB h b o K:=by rw[ZHx a];exact c
theorem rS{h:Zf}{b o:Nat}{n:ByteArray}{K:ByteArray->Prop}(a:Zy o (obj h b)=some (.string n))(c:K n):ldS h b o K:=by rw[ZB3 a];exact c
theorem rP{h:Zf}{b o:Nat}{n:Option Addr}{K:Option Addr->Prop}(a:Zy o (obj h b)=some (.pointer n))(c:K n):ldP h b o K:=by rw[ZHr a];exact c
theorem rM{h:Zf}{b o:Nat}{n:Option Nat}{K:Option Nat->Prop}(a:Zy o (obj h b)=some (.map n))(c:K n):ldM h b o K:=by rw[ZHt a];exact c
theorem rL{h:Zf}{b o:Nat}{s:Sl}{K:Sl->Prop}(a:Zy o (obj h b)=some (slV s))(c:K s):ldL h b o K:=by cases s;exact(ZB4 a).mpr c
theorem rV{h:Zf}{b o:Nat}{n:Value}{K:Value->Prop}(a:Zy o (obj h b)=some n)(c:K n):ldV h b o K:=by rw[ZB2 a];exact c
theorem ZcS{h:Zf}{b o:Nat}{v:Value}{K:Zf->Prop}{l:List Value}{e:TypeId}(a:obj h b=some (.cells l.toArray e (0,0)))(ho:o<l.length)(hv:Zs v=true)
    (d:∀h',obj h' b=some (.cells (l.set o v).toArray e (0,0))->Upd (· = b) h h'->sz h'=sz h->K h'):st h b o v K:=by
  refine ZPK a (by simpa using ho) hv λh' c u z=>d h' ?_ u z;rw[show obj h' b=h'[b]? from rfl,c];simp
theorem Yj{a:Zf}{b o:Nat}{v:Value}(c:Zy o (obj a b)=some v):Zo a [(b,o,v)]:=by rw[Za0,Zhq];exact⟨c,trivial⟩
theorem wrS{i n:Nat}(h:i<n)(a:n<9223372036854775808):IntKind.wrap .i64 ((i:Int)+1)=((i+1:Nat):Int):=by rw[Yw (by omega) (by omega)];rfl
theorem Zab{α:Type}{g:α->List Value}{n:Nat}(c:∀a,(g a).length=n){h:Zf}{s:Sl}{l:List α}(f:Row h s n (l.flatMap g)){i:Nat}{a:α}(hi:l[i]?=some a)(k:0<n):
    ∃b o,s.blk=some b/\b<sz h/\(∀{K:Nat->Nat->Prop} {m:Int},m=(i:Int)->K b o->Yk s.ptr s.len m n K)/\∀j v,(g a)[j]?=some v->Zy (o+j) (obj h b)=some v:=by
  have hlen:=f.len;rw[YN c]at hlen;have r:l.length=s.len:=Ayf k hlen;have t:=ZbP hi
  rcases f.at_ with h0|⟨b,o,p,q⟩
  ·omega
  ·have d:l.flatMap g≠[]:=λe=>by
     have:=YN c l;rw[e]at this;have x:0<l.length*n:=Nat.mul_pos (by omega) k;simp only[Ayd]at this;omega
   refine⟨b,o+i*n,by simp[Sl.blk,p],Zyl q d,λ{K m} hm u=>⟨b,o,p,by omega,by omega,by subst hm;simpa using u⟩,λj v hv=>?_⟩;have w:j<n:=by rw[<-c a];exact ZbP hv
   have:=Zh9 q (i:=i*n+j) (v:=v) (by rw[Zq8 c l i j a hi w];exact hv);rw[Yg,<-Aqh]at this;exact this
theorem Zdt{a b:Int}{A B:Prop}(h1:a≠b->A)(c:a=b->B):Zk (a !=b) A B:=⟨λe=>h1 (by simpa using e),λe=>c (by simpa using e)⟩
theorem ZSx{h:Zf}{b:Nat}{l:List Value}{t:TypeId}(a:obj h b=some (.cells l.toArray t (0,0))){vs:List Value}(hl:l.length=vs.length)(hv:vs.all Zs=true)(c:Ze9 0 vs l=vs){K:Zf->Prop}
    (d:∀h',obj h' b=some (.cells vs.toArray t (0,0))->Upd (· = b) h h'->sz h'=sz h->K h'):sts h b 0 vs K:=by
  rw[Zph (by rw[a,Zjn,hl];simp) hv];refine d _ ?_ (Zf5 (Upd.refl _ _) (.inr rfl)) ZiN;rw[ZlC,if_pos rfl,a,ZeO,c]
theorem ZaN{h:Zf}{b:Nat}{l:List Value}{t:TypeId}(a:obj h b=some (.cells l.toArray t (0,0))){vs:List Value}{K:Zf->Prop}
    (c:∀h',obj h' b=some (.cells vs.toArray t (0,0))->Upd (· = b) h h'->sz h'=sz h->K h') (hl:l.length=vs.length:=by rfl) (hv:vs.all Zs=true:=by rfl) (d:Ze9 0 vs l=vs:=by rfl):sts h b 0 vs K:=ZSx a hl hv d c
theorem ZkO{h:Zf}{b n:Nat}{l:List Value}{t:TypeId}{f:Nat×Nat}(c:obj h b=some (.cells l.toArray t f))(hl:l.length=n):Row h ⟨some ⟨b,0,none⟩,1,1⟩ n l:=
  ⟨by rw[Nat.one_mul];exact hl,Aqo _,(show 1<9223372036854775808 by decide),.inr ⟨b,0,rfl,Zgu c λi v hi=>by simpa using hi⟩⟩
theorem ZBX{h:Zf}{b k n:Nat}{l:List Value}{t:TypeId}{f:Nat×Nat}(c:obj h b=some (.cells l.toArray t f))(hl:l.length=k*n)(a:k<9223372036854775808):Row h ⟨some ⟨b,0,none⟩,k,k⟩ n l:=
  ⟨hl,Aqo _,a,.inr ⟨b,0,rfl,Zgu c λi v hi=>by simpa using hi⟩⟩
def inB(n lo hi:Int):Bool:=decide (n>=lo)&&decide (n<=hi)
theorem YU{n lo hi:Int}{K:Bool->Zf->Prop}{h:Zf}(a:K (inB n lo hi) h):Yl n lo hi K h:=by
  unfold Yl Zgb;unfold inB at a;refine⟨λe=>Zd ?_,λe=>?_⟩
  ·rw[e]at a;exact a
  ·rw[e]at a;exact a
def ZnO(c:UInt8):Bool:=decide (33<=c.toNat)&&decide (c.toNat<=126)
def Zk5(s:ByteArray):Bool:=decide (1<=s.size)&&decide (s.size<=64)&&s.data.toList.all ZnO
theorem ZE8{s:ByteArray}{k:Nat}(h:k<s.size):∃c:UInt8,s[k]?=some c/\s.data.toList[k]?=some c:=by
  refine⟨s[k],?_,?_⟩
  ·exact getElem?_pos s k h
  ·rw[Axp];exact getElem?_pos s.data k h
theorem ZFd{l:List UInt8}{k:Nat}{c:UInt8}(h:l[k]?=some c)(a:ZnO c=false):l.all ZnO=false:=by rw[List.all_eq_false];exact⟨c,Axo h,by simp[a]⟩
theorem ZBC{l:List UInt8}{k:Nat}{c:UInt8}(h:l[k]?=some c)(d:ZnO c=true)(e:(l.take k).all ZnO=true):(l.take (k+1)).all ZnO=true:=by
  have b:k<l.length:=by
    rcases Aqd k l.length with a|a
    ·exact a
    ·rw[Aqt a]at h;cases h
  rw[Aql b];have:l[k]=c:=by rw[Axy b]at h;exact Option.some.inj h
  simp[e,this,d]
theorem Zlm{s:ByteArray}(hs:s.size<9223372036854775808){K:Bool->Zf->Prop}{h:Zf}(f:K (Zk5 s) h):Zat s K h:=by
  unfold Zat Zgd;refine YL (λp h'=>h'=h/\∃k:Nat,p.1=(k:Int)/\k<=s.size/\(s.data.toList.take k).all ZnO=true) (λp _=>s.size- p.1.toNat) ⟨rfl,0,rfl,Ayg _,by simp⟩ ?_;rintro⟨i,u⟩ h' ⟨rfl,k,hi,m,a⟩;dsimp only at hi;subst hi;dsimp only;refine Zn (λo=>Za ?_) (λq=>?_)
  ·have g:k<s.size:=by omega
   obtain⟨c,h1,l⟩:=ZE8 g;have r:=c.toNat_lt;refine⟨c,by omega,by rw[Aqu];exact h1,YU ?_⟩;rw[Yw (by omega) (by omega)]
   have e:inB (c.toNat:Int) 33 126=ZnO c:=by
     unfold inB ZnO;congr 1
     ·exact decide_eq_decide.2 (by omega)
     ·exact decide_eq_decide.2 (by omega)
   rw[e];refine⟨λj=>?_,λj=>?_⟩
   ·have b:ZnO c=false:=by simpa using j
    have:Zk5 s=false:=by unfold Zk5;rw[ZFd l b,Bool.and_false]
    rw[this]at f;exact f
   ·have b:ZnO c=true:=by simpa using j
    rw[Yw (n:=(k:Int)+1) (by omega) (by omega)];exact⟨⟨rfl,k+1,by omega,by omega,ZBC l b a⟩,by omega⟩
  ·have d:s.data.toList.take k=s.data.toList:=Awd (by
     have:s.data.toList.length=s.size:=by simp
     omega)
   rw[d]at a;refine YU (Zd ?_)
   have:Zk5 s=inB (s.size:Int) 1 64:=by
     unfold Zk5 inB;rw[a,Ayb];congr 1
     ·exact decide_eq_decide.2 (by omega)
     ·exact decide_eq_decide.2 (by omega)
   rw[<-this];exact f
def upd{α:Type}(f:Int->Option α)(k:Int)(v:Option α):Int->Option α:=λj=>if j=k then v else f j
theorem Zea{α:Type}(f:Int->Option α)(k:Int)(v:Option α):upd f k v k=v:=if_pos rfl
theorem Zit{α:Type}(f:Int->Option α){k j:Int}(v:Option α)(h:j≠k):upd f k v j=f j:=if_neg h
structure Zt6(es:Array MapEntry)(f:Int->Option Value):Prop where
  to_:∀e,e∈es.toList->∃k,e.key=iv k/\f k=some e.val
  of:∀k v,f k=some v->∃e,e∈es.toList/\e.key=iv k
def ZlX(h:Zf)(mb:Nat)(f:Int->Option Value)(n:Nat):Prop:=
  ∃es c,h[mb]?=some (.map es c)/\MapKept.Stamped es c/\es.size=n/\Zt6 es f
theorem ZpH{a b:Int}(h:iv a=iv b):a=b:=by injection h
theorem Zt6.key{es:Array MapEntry}{f:Int->Option Value}(he:Zt6 es f):∀x,x∈es.toList->MapKept.IsKey (.int .i64) x.key:=λx a=>by
  obtain⟨k,b,_⟩:=he.to_ x a;rw[b];rfl
theorem Zt6.val{es:Array MapEntry}{f:Int->Option Value}(he:Zt6 es f){e:MapEntry}(hm:e∈es.toList){k:Int}(b:e.key=iv k):f k=some e.val:=by obtain⟨j,a,hv⟩:=he.to_ e hm;rw[b]at a;rw[ZpH a];exact hv
theorem Zt6.find{es:Array MapEntry}{f:Int->Option Value}(he:Zt6 es f)(k:Int):
    (Instr.findNow (.int .i64) (iv k) es.toList 0=some none/\f k=none)\/∃j e,Instr.findNow (.int .i64) (iv k) es.toList 0=some (some (j,e.val))/\es.toList[j]?=some e/\e.key=iv k/\f k=some e.val:=by
  rcases MapKept.findNow_spec (d:=.int .i64) (k:=iv k) rfl es.toList 0 he.key with⟨h1,a⟩ |⟨j,e,h1,a,h3⟩
  ·refine .inl ⟨h1,?_⟩
   cases b:f k with
   |none=>rfl
   | some v=>
     obtain⟨e,hm,c⟩:=he.of k v b;exact absurd c (a e hm)
  ·rw[Awb]at h1;exact .inr ⟨j,e,h1,a,h3,he.val (Axo a) h3⟩
theorem ZlX.congr{h h':Zf}{mb:Nat}{f:Int->Option Value}{n:Nat}(hm:ZlX h mb f n)(he:h'[mb]?=h[mb]?):ZlX h' mb f n:=by obtain⟨es,c,a,r⟩:=hm;exact⟨es,c,he.trans a,r⟩
theorem ZlX.lt{h:Zf}{mb:Nat}{f:Int->Option Value}{n:Nat}(hm:ZlX h mb f n):mb<h.size:=by obtain⟨es,c,a,r⟩:=hm;exact ZsC a
theorem ZlX.new{h:Zf}{K:Nat->Zf->Prop}(a:∀h1,ZlX h1 h.size (λ_=>none) 0->Ext h h1->h1.size=h.size+1->K h.size h1):ZfD h K:=
  a _ ⟨#[],0,Zdi,MapKept.stamped_empty 0,rfl,⟨λe he=>by simp at he,λk v hv=>by cases hv⟩⟩ (Ext.push _ _) (by simp)
theorem ZlX.get{h:Zf}{mb:Nat}{f:Int->Option Value}{n:Nat}(hm:ZlX h mb f n)(k:Int){K:Option Value->Prop}(a:K (f k)):Zhj (.int .i64) h (some mb) (iv k) K:=by
  obtain⟨es,c,d,hs,l,he⟩:=hm;refine⟨(λe=>by cases e),λb e=>?_⟩;cases e
  rcases he.find k with⟨h1,g⟩ |⟨j,e,h1,g,h3,i⟩
  ·exact⟨es,c,none,d,h1,by rw[g]at a;exact a⟩
  ·exact⟨es,c,_,d,h1,by rw[i]at a;exact a⟩
theorem Zhg{h:Zf}{b:Nat}{x:Obj}:Upd (· = b) h (h.setIfInBounds b x):=
  ⟨by simp,λk _ a=>by rw[Awj (λe=>a e.symm)]⟩
theorem ZjQ{h:Zf}{b:Nat}{x:Obj}(a:b<h.size):(h.setIfInBounds b x)[b]?=some x:=by simp[a]
theorem Zt6.modify{es:Array MapEntry}{f:Int->Option Value}(he:Zt6 es f){c:Nat}(hs:MapKept.Stamped es c){j:Nat}{e:MapEntry}{k:Int}(n:es.toList[j]?=some e)(o:e.key=iv k)(v:Value):
    Zt6 (es.modify j λx=>{x with key:=iv k,val:=v}) (upd f k (some v))/\MapKept.Stamped (es.modify j λx=>{x with key:=iv k,val:=v}) c:=by
  have b:es[j]?=some e:=by simpa using n
  have uniq:∀i x,es.toList[i]?=some x->x.key=iv k->i=j:=by
    intro i x hi a;have p:=hs.2.2;have h1:(es.toList.map (·.key))[i]?=some (iv k):=by rw[Awy,hi];simp[a]
    have q:(es.toList.map (·.key))[j]?=some (iv k):=by rw[Awy,n];simp[o]
    obtain⟨t,h1⟩:=Ayh.1 h1;obtain⟨w,q⟩:=Ayh.1 q;exact(List.getElem_inj p).1 (h1.trans q.symm)
  refine⟨⟨λx a=>?_,λi u hu=>?_⟩,?_⟩
  ·obtain ⟨i,hi⟩:=Ayi a;rw[Axp,Aqi]at hi
   by_cases d:j=i
   ·subst d;rw[if_pos rfl,b]at hi;simp only[Aqx,Awh]at hi;subst hi;exact⟨k,rfl,Zea _ _ _⟩
   ·rw [if_neg d]at hi
    have h:es.toList[i]?=some x:=by simpa using hi
    obtain⟨m,hm,hv⟩:=he.to_ x (Axo h);refine⟨m,hm,?_⟩;rw[Zit]
    ·exact hv
    ·intro r;subst r;exact d (uniq i x h hm).symm
  ·by_cases g:i=k
   ·subst g;refine⟨{e with key:=iv i,val:=v},?_,rfl⟩;refine Axo (i:=j) ?_;rw[Axp,Aqi,if_pos rfl,b];rfl
   ·rw [Zit f _ g]at hu;obtain⟨x,a,l⟩:=he.of i u hu;obtain⟨m,hm⟩:=Ayi a;refine⟨x,Axo (i:=m) ?_,l⟩;rw[Axp,Aqi,if_neg]
    ·simpa using hm
    ·intro s;subst s;rw[n]at hm;cases hm;exact g (ZpH (l.symm.trans o))
  ·refine MapKept.stamped_modify hs j _ (λx _=>rfl) λx _ a=>?_;rw[b]at a;cases a;exact o.symm
theorem ZlX.put{h:Zf}{mb:Nat}{f:Int->Option Value}{n:Nat}(hm:ZlX h mb f n)(k:Int)(v:Value){K:Zf->Prop}
    (p:∀h',ZlX h' mb (upd f k (some v)) (if(f k).isSome then n else n+1)->Upd (· = mb) h h'->h'.size=h.size->K h'):Zj0 (.int .i64) h (some mb) (iv k) v K:=by
  have d:=hm.lt;obtain⟨es,c,q,hs,r,he⟩:=hm
  rcases he.find k with⟨h1,g⟩ |⟨j,e,h1,g,h3,s⟩
  ·refine ⟨mb,es,c,none,rfl,q,he.key,h1,p _ ⟨es.push {key:=iv k,val:=v,born:=c},c+1,ZjQ d,MapKept.stamped_push hs λx a b=>?_,by simp[g,r],⟨λx a=>?_,λi u hu=>?_⟩⟩ Zhg (by simp)⟩
   ·have:=he.val a b;rw[g]at this;cases this
   ·simp only[Array.toList_push,Axx,Axs]at a
    rcases a with a|rfl
    ·obtain ⟨m,hm,hv⟩:=he.to_ x a;refine⟨m,hm,?_⟩;rw[Zit]
     ·exact hv
     ·intro o;subst o;rw[g]at hv;cases hv
    ·exact⟨k,rfl,Zea _ _ _⟩
   ·simp only[Array.toList_push,Axx,Axs]
    by_cases l:i=k
    ·subst l;exact⟨_,.inr rfl,rfl⟩
    ·rw[Zit f _ l]at hu;obtain⟨x,a,b⟩:=he.of i u hu;exact⟨x,.inl a,b⟩
  ·obtain⟨t,w⟩:=he.modify hs g h3 v;exact⟨mb,es,c,_,rfl,q,he.key,h1,p _ ⟨_,c,ZjQ d,w,by simp[s,r],t⟩ Zhg (by simp)⟩
theorem Zt6.erase{es:Array MapEntry}{f:Int->Option Value}(he:Zt6 es f){c:Nat}(hs:MapKept.Stamped es c){j:Nat}{e:MapEntry}{k:Int}(n:es.toList[j]?=some e)(t:e.key=iv k):
    Zt6 (es.eraseIdxIfInBounds j) (upd f k none)/\MapKept.Stamped (es.eraseIdxIfInBounds j) c/\(es.eraseIdxIfInBounds j).toList=es.toList.eraseIdx j/\(es.eraseIdxIfInBounds j).size=es.size- 1:=by
  obtain⟨g,v⟩:=Ayh.1 n;have l:j<es.size:=by simpa using g
  have hl:(es.eraseIdxIfInBounds j).toList=es.toList.eraseIdx j:=by
    unfold Array.eraseIdxIfInBounds;rw[dif_pos l,Array.toList_eraseIdx]
  have o:=hs.2.2
  have mem:∀x,x∈es.toList.eraseIdx j↔x∈es.toList/\x.key≠iv k:=λx=>by
    constructor
    ·intro b
     obtain⟨i,p,hi⟩:=List.mem_eraseIdx_iff_getElem?.1 b;refine⟨Axo hi,λa=>p ?_⟩;have h1:(es.toList.map (·.key))[i]?=some (iv k):=by rw[Awy,hi];simp[a]
     have q:(es.toList.map (·.key))[j]?=some (iv k):=by rw[Awy,n];simp[t]
     obtain⟨w,h1⟩:=Ayh.1 h1;obtain⟨g,q⟩:=Ayh.1 q;exact(List.getElem_inj o).1 (h1.trans q.symm)
    ·rintro⟨b,a⟩;obtain⟨i,hi⟩:=Ayi b;refine List.mem_eraseIdx_iff_getElem?.2 ⟨i,λr=>?_,hi⟩;subst r;rw[n]at hi;cases hi;exact a t
  refine⟨⟨λx b=>?_,λi u hu=>?_⟩,MapKept.stamped_erase hs j,hl,?_⟩
  ·rw [hl]at b;obtain⟨b,a⟩:=(mem x).1 b;obtain⟨m,hm,hv⟩:=he.to_ x b;refine⟨m,hm,?_⟩;rw[Zit]
   ·exact hv
   ·intro s;subst s;exact a hm
  ·by_cases d:i=k
   ·subst d;rw[Zea]at hu;cases hu
   ·rw[Zit f _ d]at hu;obtain⟨x,b,a⟩:=he.of i u hu;exact⟨x,by rw[hl];exact(mem x).2 ⟨b,λh=>d (ZpH (a.symm.trans h))⟩,a⟩
  ·unfold Array.eraseIdxIfInBounds;rw[dif_pos l];simp
def Zks(h:Zf)(mb it:Nat)(f:Int->Option Value)(n:Nat)(rem:Int->Prop)(L:Nat):Prop:=
  ∃ (es:Array MapEntry) (c since:Nat) (seen:Array Nat) (c0:Nat),h[mb]?=some (.map es c)/\MapKept.Stamped es c/\es.size=n/\Zt6 es f/\h[it]?=some (.mapIter (some mb) since seen c0)/\(∀x,x∈es.toList->x.born<since)/\(since<=c0/\since<=c)/\
    (leftOf es seen).size=L/\∀k,rem k↔∃e,e∈(leftOf es seen).toList/\e.key=iv k
def Zkt(h:Zf)(mb it:Nat)(f:Int->Option Value)(n:Nat)(rem:Int->Prop)(L:Nat)(k:Int):Prop:=
  ∃ (es:Array MapEntry) (c since:Nat) (seen:Array Nat) (e:MapEntry),h[mb]?=some (.map es c)/\MapKept.Stamped es c/\es.size=n/\Zt6 es f/\h[it]?=some (.mapIter (some mb) since (seen.push e.born) c)/\(∀x,x∈es.toList->x.born<since)/\since<=c/\
    e∈es.toList/\e.key=iv k/\(leftOf es (seen.push e.born)).size=L/\∀j,rem j↔∃a,a∈(leftOf es (seen.push e.born)).toList/\a.key=iv j
theorem Zb0(es:Array MapEntry)(seen:Array Nat):(leftOf es seen).toList=es.toList.filter λe=> !seen.contains e.born:=by unfold leftOf;rw[Array.toList_filter]
theorem ZtD(es:Array MapEntry)(seen:Array Nat):(leftOf es seen).size=(es.toList.filter λe=> !seen.contains e.born).length:=by rw[<-Zb0,Awa]
theorem Zr9{es:Array MapEntry}{seen:Array Nat}{b:Nat}{e:MapEntry}:e∈(leftOf es (seen.push b)).toList↔e∈(leftOf es seen).toList/\e.born≠b:=by rw[Zb0,Zb0,Axt,Axt,contains_push];cases seen.contains e.born<;>simp
theorem Zks.lt{h:Zf}{mb it:Nat}{f:Int->Option Value}{n:Nat}{rem:Int->Prop}{L:Nat}(b:Zks h mb it f n rem L):mb<h.size/\it<h.size/\mb≠it:=by obtain⟨es,c,since,seen,c0,a,_,_,_,hi,_⟩:=b;refine⟨ZsC a,ZsC hi,λe=>?_⟩;subst e;rw[a]at hi;cases hi
theorem Zks.map{h:Zf}{mb it:Nat}{f:Int->Option Value}{n:Nat}{rem:Int->Prop}{L:Nat}(a:Zks h mb it f n rem L):ZlX h mb f n:=by obtain⟨es,c,since,seen,c0,b,hs,d,he,_⟩:=a;exact⟨es,c,b,hs,d,he⟩
theorem ZlX.range{h:Zf}{mb:Nat}{f:Int->Option Value}{n:Nat}(hm:ZlX h mb f n){K:Nat->Zf->Prop}(d:∀h1,Zks h1 mb h.size f n (λk=>(f k).isSome=true) n->Ext h h1->h1.size=h.size+1->K h.size h1):rgM h (some mb) K:=by
  have g:=hm.lt;obtain⟨es,c,j,hs,l,he⟩:=hm
  have hl:(leftOf es #[]).toList=es.toList:=by
    rw[Zb0];exact List.filter_eq_self.2 λa _=>by simp
  refine⟨(λe=>by cases e),λb e=>?_⟩;cases e;refine⟨es,c,j,d _ ⟨es,c,c,#[],c,(Zkz g).trans j,hs,l,he,Zdi,hs.1,⟨Aqo _,Aqo _⟩,?_,λk=>?_⟩ (Ext.push _ _) (by simp)⟩
  ·rw[<-Awa,hl,Awa,l]
  ·rw [hl];constructor
   ·intro d;obtain⟨v,hv⟩:=Axc.1 d;exact he.of k v hv
   ·rintro⟨e,hm,i⟩;rw[he.val hm i];rfl
theorem Zks.next{h:Zf}{mb it:Nat}{f:Int->Option Value}{n:Nat}{rem:Int->Prop}{L:Nat}(C:Zks h mb it f n rem L){T:Value->Value->Zf->Prop}{F:Prop}
    (G:(∀k,¬rem k)->F) (hT:∀k v h' D,rem k->f k=some v->Zkt h' mb it f n (λj=>rem j/\j≠k) D k->D<L->Upd (· = it) h h'->h'.size=h.size->T (iv k) v h'):ZEj h it T F:=by
  obtain⟨H,u,w⟩:=C.lt;obtain⟨es,c,since,seen,c0,E,hs,I,he,hi,hold,s,M,b⟩:=C;refine .inr ⟨mb,since,seen,c0,es,c,hi,E,hold,s.1,λh0=>G λk o=>?_,λe hm=>?_⟩
  ·obtain⟨e,hm,_⟩:=(b k).1 o;rw[Zb0]at hm;rw[ZtD]at h0;rw[Aqr h0]at hm;cases hm
  ·obtain ⟨g,J⟩:=mem_left hm;obtain⟨k,o,hv⟩:=he.to_ e g;rw[o];refine hT k e.val _ (leftOf es (seen.push e.born)).size ((b k).2 ⟨e,hm,o⟩) hv ⟨es,c,since,seen,e,?_,hs,I,he,ZjQ u,hold,s.2,g,o,rfl,λj=>?_⟩ (by have:=left_shrinks es seen e hm;omega) Zhg (by simp)
   ·rw[Awj (Ne.symm w)];exact E
   ·constructor
    ·rintro⟨K,p⟩
     obtain⟨x,l,d⟩:=(b j).1 K;refine⟨x,Zr9.2 ⟨l,λy=>p ?_⟩,d⟩;have q:=hs.2.1;obtain⟨i,hi⟩:=Ayi (mem_left l).1;obtain⟨m,a⟩:=Ayi g;have h1:(es.toList.map (·.born))[i]?=some e.born:=by rw[Awy,hi];simp[y]
     have r:(es.toList.map (·.born))[m]?=some e.born:=by rw[Awy,a];rfl
     obtain⟨z,h1⟩:=Ayh.1 h1;obtain⟨A,r⟩:=Ayh.1 r;have:=(List.getElem_inj q).1 (h1.trans r.symm);subst this;rw[hi]at a;cases a;exact ZpH (d.symm.trans o)
    ·rintro⟨x,l,d⟩
     obtain⟨t,B⟩:=Zr9.1 l;refine⟨(b j).2 ⟨x,t,d⟩,λp=>B ?_⟩;subst p;have q:=hs.2.2;obtain⟨i,hi⟩:=Ayi (mem_left t).1;obtain⟨m,a⟩:=Ayi g;have h1:(es.toList.map (·.key))[i]?=some (iv j):=by rw[Awy,hi];simp[d]
     have r:(es.toList.map (·.key))[m]?=some (iv j):=by rw[Awy,a];simp[o]
     obtain⟨z,h1⟩:=Ayh.1 h1;obtain⟨A,r⟩:=Ayh.1 r;have:=(List.getElem_inj q).1 (h1.trans r.symm);subst this;rw[hi]at a;cases a;rfl
theorem Zkt.ent{h:Zf}{mb it:Nat}{f:Int->Option Value}{n:Nat}{rem:Int->Prop}{L:Nat}{k:Int}(g:Zkt h mb it f n rem L k){K:Value->Value->Prop}(i:∀v,f k=some v->K (iv k) v):ZO8 h it K:=by obtain⟨es,c,since,seen,e,j,hs,m,he,hi,hold,l,a,b,o,d⟩:=g;have:=i e.val (he.val a b);rw[<-b]at this;exact⟨mb,since,seen,es,c,e,hi,j,a,hs.2.1,this⟩
theorem Zkt.go{h:Zf}{mb it:Nat}{f:Int->Option Value}{n:Nat}{rem:Int->Prop}{L:Nat}{k:Int}(d:Zkt h mb it f n rem L k):Zks h mb it f n rem L:=by obtain⟨es,c,since,seen,e,g,hs,i,he,hi,hold,a,j,l,m,b⟩:=d;exact⟨es,c,since,_,c,g,hs,i,he,hi,hold,⟨a,a⟩,m,b⟩
theorem ZmK{α:Type}(p:α->Bool):∀(l:List α) (j:Nat) (x:α),l[j]?=some x->p x=false->(l.eraseIdx j).filter p=l.filter p
  |[],j,x,h,_=>by simp at h
  |y::l,0,x,h,a=>by simp at h;subst h;simp[a]
  | y::l,j+1,x,h,a=>by
    have b:=ZmK p l j x (by simpa using h) a;simp only[List.eraseIdx_cons_succ,List.filter_cons,b]
theorem Zkt.del{h:Zf}{mb it:Nat}{f:Int->Option Value}{n:Nat}{rem:Int->Prop}{L:Nat}{k:Int}(z:Zkt h mb it f n rem L k){K:Zf->Prop}
    (C:∀h' D,Zks h' mb it (upd f k none) D rem L->Upd (· = mb) h h'->h'.size=h.size->K h'):ZnS (.int .i64) h (some mb) (iv k) K:=by
  obtain⟨r,E,s⟩:=z.go.lt;obtain⟨es,c,since,seen,e,F,hs,N,he,hi,hold,i,l,o,G,p⟩:=z;refine⟨(λe=>by cases e),λb e=>?_⟩;cases e
  rcases he.find k with⟨h1,d⟩ |⟨j,t,h1,d,h3,O⟩
  ·rw[he.val l o]at d;cases d
  ·obtain ⟨H,I,A,P⟩:=he.erase hs d h3
   have u:t=e:=by
     have v:=hs.2.2;obtain⟨m,g⟩:=Ayi l;have w:(es.toList.map (·.key))[j]?=some (iv k):=by rw[Awy,d];simp[h3]
     have y:(es.toList.map (·.key))[m]?=some (iv k):=by rw[Awy,g];simp[o]
     obtain⟨J,w⟩:=Ayh.1 w;obtain⟨M,y⟩:=Ayh.1 y;have:=(List.getElem_inj v).1 (w.trans y.symm);subst this;rw[d]at g;exact Option.some.inj g
   subst u
   have a:(leftOf (es.eraseIdxIfInBounds j) (seen.push t.born)).toList=(leftOf es (seen.push t.born)).toList:=by
     rw[Zb0,Zb0,A];exact ZmK _ _ _ _ d (by rw[contains_push,beq_self_eq_true,Bool.or_true];rfl)
   exact ⟨es,c,_,F,h1,C _ _ ⟨_,c,since,_,c,ZjQ r,I,rfl,H,by rw[Awj s];exact hi,λx B=>hold x ((by rw[A]at B;exact List.mem_of_mem_eraseIdx B)),⟨i,i⟩,
     by rw[<-Awa,a,Awa,G],λq=>by rw[a];exact p q⟩ Zhg (by simp)⟩
theorem ZrG(n:Int):0<=IntKind.wrap .u64 n/\IntKind.wrap .u64 n<18446744073709551616:=by
  unfold IntKind.wrap;have a:(2:Int) ^ IntKind.u64.bits=18446744073709551616:=by decide
  have hs:IntKind.u64.signed=false:=rfl;simp only[a,hs,Aqb,Aqc,if_false];omega
theorem Zm0{n:Int}(h0:0<=n)(h1:n<18446744073709551616):IntKind.wrap .u64 n=n:=by
  unfold IntKind.wrap;have a:(2:Int) ^ IntKind.u64.bits=18446744073709551616:=by decide
  have hs:IntKind.u64.signed=false:=rfl;simp only[a,hs,Aqb,Aqc,if_false];omega
theorem Zm3(x y:Int):∃p q:Int,(0<=p/\p<18446744073709551616)/\(0<=q/\q<18446744073709551616)/\∀{K:Int->Int->Zf->Prop} {h:Zf},K p q h->Zaw x y K h:=by
  exact ⟨_,_,ZrG _,ZrG _,λ{K h} a=>by
    unfold Zaw ZfZ
    exact Za (Za (Za ⟨by decide,Za (Za ⟨by decide,Za (Za ⟨by decide,Za (Za ⟨by decide,Za (Za ⟨by decide,Za (Za a)⟩)⟩)⟩)⟩)⟩))⟩
theorem Ztm(n:Int):∃r:Int,(0<=r/\r<18446744073709551616)/\(n≠0-> -9223372036854775808<=n->n<=9223372036854775807->r≠0)/\∀{K:Int->Zf->Prop} {h:Zf},K r h->ZfM n K h:=by
  by_cases b:n<0
  ·refine ⟨IntKind.wrap .u64 (0-IntKind.wrap .u64 n),ZrG _,λ_ h1 c=>?_,λ{K h} a=>?_⟩
   ·unfold IntKind.wrap
    have d:(2:Int) ^ IntKind.u64.bits=18446744073709551616:=by decide
    have hs:IntKind.u64.signed=false:=rfl;simp only[d,hs,Aqb,Aqc,if_false];omega
   ·unfold ZfM ZkG;exact Za (Zm (decide_eq_true b) (Za a))
  ·refine ⟨IntKind.wrap .u64 n,ZrG _,λh0 h1 c=>?_,λ{K h} a=>?_⟩
   ·rw[Zm0 (by omega) (by omega)];exact h0
   ·unfold ZfM ZkG;exact Za (Zh (decide_eq_false b) (Za a))
abbrev W3:=Int×Int×Bool×Unit
theorem Zpq(a b:Int):∃w:W3,(0<=w.1/\w.1<18446744073709551616)/\(0<=w.2.1/\w.2.1<18446744073709551616)/\∀{K:W3->Zf->Prop} {h:Zf},(∀h',Ext h h'->K w h')->Ze1 a b K h:=by
  obtain⟨p,_,_,j⟩:=Ztm a;obtain⟨q,_,_,l⟩:=Ztm b;obtain⟨hi,lo,h1,m,hm⟩:=Zm3 p q;refine⟨(hi,lo,(if(decide (a<0) !=decide (b<0))=true then orV .u64 hi lo !=0 else false),()),h1,m,λ{K h} c=>?_⟩;unfold Ze1 Zjg;refine ZF λh3 g i z3=>j (l (hm (Za (Za ⟨λq=>?_,λq=>?_⟩))))
  ·rw[if_pos q]at c;refine ZaN g λe d f z4=>rI (Zb d rfl) (rI (Zb d rfl) (rB (Zb d rfl) (c e (i.then f λk c=>by subst c;exact Aqo _))))
  ·rw[if_neg (by rw[q];decide)]at c;refine ZaN g λe d f z4=>rI (Zb d rfl) (rI (Zb d rfl) (rB (Zb d rfl) (c e (i.then f λk c=>by subst c;exact Aqo _))))
def ZPg{ρ:Type}(F:(ρ->Zf->Prop)->Zf->Prop):Prop:=∃r,∀(K:ρ->Zf->Prop) (h:Zf),(∀h',Ext h h'->K r h')->F K h
theorem ZnN(w:W3):∃(n:Int) (ok:Bool),∀{K:Int->Bool->Zf->Prop} {h:Zf},(∀h',Ext h h'->K n ok h')->YT w K h:=by
  obtain⟨a,b,c,u⟩:=w
  have start:∀{K:Int->Bool->Zf->Prop} {h:Zf},(∀h1,Ext h h1->obj h1 (sz h)=some (.cells [.int .u64 a,.int .u64 b,.bool c].toArray 361 (0,0))->(ldI h1 (sz h) 0 .u64 λt2=>ldI h1 (sz h) (0+1) .u64 λt3=>
      Zk (bif t2==0 then(bif t3==9223372036854775808 then true else false)else false) (ldB h1 (sz h) (0+2) λt4=>Zq t4 λt5=>Zk t5 (Zc (-9223372036854775808) λt6=>K t6 true h1) (
       ldI h1 (sz h) 0 .u64 λt7=>Zk (t7 !=0) (Zc 0 λt8=>K t8 false h1) (ldI h1 (sz h) (0+1) .u64 λt9=>Zq (decide (t9>=9223372036854775808)) λt10=>Zk t10 (Zc 0 λt11=>K t11 false h1) (
         ldB h1 (sz h) (0+2) λt12=>Zq t12 λt13=>Zk t13 (ldI h1 (sz h) (0+1) .u64 λt14=>Zc (IntKind.wrap .i64 (0-(IntKind.wrap .i64 t14))) λt15=>K t15 true h1) (ldI h1 (sz h) (0+1) .u64 λt16=>Zc (IntKind.wrap .i64 t16) λt17=>K t17 true h1)))))
       (ldI h1 (sz h) 0 .u64 λt18=>Zk (t18 !=0) (Zc 0 λt19=>K t19 false h1) (ldI h1 (sz h) (0+1) .u64 λt20=>Zq (decide (t20>=9223372036854775808)) λt21=>Zk t21 (Zc 0 λt22=>K t22 false h1) (
         ldB h1 (sz h) (0+2) λt23=>Zq t23 λt24=>Zk t24 (ldI h1 (sz h) (0+1) .u64 λt25=>Zc (IntKind.wrap .i64 (0-(IntKind.wrap .i64 t25))) λt26=>K t26 true h1) (ldI h1 (sz h) (0+1) .u64 λt27=>Zc (IntKind.wrap .i64 t27) λt28=>K t28 true h1))))))->YT (a,b,c,u) K h:=λ{K h} l=>by
    unfold YT ZfY;exact ZF λh1 c1 d o=>Za (l h1 d c1)
  by_cases f:a=0
  ·by_cases g:b=9223372036854775808
   ·cases c with
    | true=>
      refine⟨_,_,λ{K h} e=>start λh1 d c1=>rI (Zb c1 rfl) (rI (Zb c1 rfl) (Zm (by rw[f,g];rfl) (rB (Zb c1 rfl) (Zd (Xh (Za (e h1 d)))))))⟩
    | false=>
      refine⟨_,_,λ{K h} e=>start λh1 d c1=>rI (Zb c1 rfl) (rI (Zb c1 rfl) (Zm (by rw[f,g];rfl) (rB (Zb c1 rfl) (Zd (ZB (rI (Zb c1 rfl) (Zh (by rw[f];rfl) (rI (Zb c1 rfl) (Zd (Zm (by rw[g];rfl) (Za (e h1 d))))))))))))⟩
   ·have i:(bif a==0 then(bif b==9223372036854775808 then true else false)else false)=false:=by
      have:(b==9223372036854775808)=false:=by simpa using g
      rw[this,f];rfl
    by_cases j:b>=9223372036854775808
    ·exact⟨_,_,λ{K h} e=>start λh1 d c1=>rI (Zb c1 rfl) (rI (Zb c1 rfl) (Zh i (rI (Zb c1 rfl) (Zh (by rw[f];rfl) (rI (Zb c1 rfl) (Zd (Zm (decide_eq_true j) (Za (e h1 d)))))))))⟩
    ·cases c with
     |true=>exact⟨_,_,λ{K h} e=>start λh1 d c1=>rI (Zb c1 rfl) (rI (Zb c1 rfl) (Zh i (rI (Zb c1 rfl) (Zh (by rw[f];rfl) (rI (Zb c1 rfl) (Zd (Zh (decide_eq_false j) (rB (Zb c1 rfl) (Zd (Xh (rI (Zb c1 rfl) (Za (e h1 d)))))))))))))⟩
     |false=>exact⟨_,_,λ{K h} e=>start λh1 d c1=>rI (Zb c1 rfl) (rI (Zb c1 rfl) (Zh i (rI (Zb c1 rfl) (Zh (by rw[f];rfl) (rI (Zb c1 rfl) (Zd (Zh (decide_eq_false j) (rB (Zb c1 rfl) (Zd (ZB (rI (Zb c1 rfl) (Za (e h1 d)))))))))))))⟩
  ·have m:(a==0)=false:=by simpa using f
   have k:(a !=0)=true:=by simpa using f
   exact⟨_,_,λ{K h} e=>start λh1 d c1=>rI (Zb c1 rfl) (rI (Zb c1 rfl) (Zh (by rw[m];rfl) (rI (Zb c1 rfl) (Zm k (Za (e h1 d))))))⟩
theorem ZBF(a b:Int):ZPg (Zc1 a b):=by
  obtain⟨w,_,_,r⟩:=Zpq a b;obtain⟨n,ok,s⟩:=ZnN w;obtain⟨w1,t,i,x⟩:=w;have f:∀{K:Int->Bool->Zf->Prop} {h:Zf},(∀h',Ext h h'->K n ok h')->YT (w1,t,i,()) K h:=s
  cases ok with
  | true=>
    refine⟨n,λK h c=>?_⟩;unfold Zc1 Zjh;refine Za (r λh1 g=>ZF λu m o v=>ZaN m λh3 d p z3=>rI (Zb d rfl) (rI (Zb d rfl) (rB (Zb d rfl) (f λj l=>Za (Zd (Xh (Za (c j ?_))))))));exact((g.trans o).then p λk c=>by subst c;exact g.size).trans l
  | false=>
    refine⟨if i=true then -9223372036854775808 else 9223372036854775807,λK h c=>?_⟩;unfold Zc1 Zjh;refine Za (r λh1 g=>ZF λu m o v=>ZaN m λh3 d p z3=>rI (Zb d rfl) (rI (Zb d rfl) (rB (Zb d rfl) (f λj l=>Za (Zd (ZB (rB (Zb (Zj d l) rfl) ?_)))))));have e:=((g.trans o).then p λk c=>by subst c;exact g.size).trans l;unfold ZeF ZkH;refine Za ⟨λq=>Za (Za ?_),λq=>Za (Za ?_)⟩
    ·have:=c j e;rwa[if_pos (show i=true from q)]at this
    ·have:=c j e;rwa[if_neg (by rw[show i=false from q];decide)]at this
theorem Znm{n:Int}{ok:Bool}{K:Int->Int->Zf->Prop}{h:Zf}(a:K (if ok=true then n else 0) (if ok=true then 0 else 8) h):Ziz n ok K h:=by
  unfold Ziz Zmv
  cases ok with
  |true=>exact Za (Za (Zh rfl (Za (Za a))))
  |false=>exact Za (Za (Zm rfl (Za (Za a))))
theorem ZH5(a b:Int):∃n e:Int,∀{K:Int->Int->Zf->Prop} {h:Zf},K n e h->Zgr a b K h:=by
  by_cases q:(decide (a<0) !=decide (b<0))=true
  ·refine⟨if true=true then IntKind.wrap .i64 (a+b)else 0,if true=true then 0 else 8,λ{K h} c=>?_⟩;unfold Zgr ZlN;exact Za (Za (Za (Zm q (Znm (Za (Za c))))))
  ·refine⟨if(decide (IntKind.wrap .i64 (a+b)<0)==decide (a<0))=true then IntKind.wrap .i64 (a+b)else 0,if(decide (IntKind.wrap .i64 (a+b)<0)==decide (a<0))=true then 0 else 8,λ{K h} c=>?_⟩;unfold Zgr ZlN;exact Za (Za (Za (Zh (by simpa using q) (Znm (Za (Za c))))))
theorem Zu3(a b:Int):∃r:Int,∀{K:Int->Zf->Prop} {h:Zf} {s:Sl},Row h s 1 [iv a,iv b]->K r h->Zdq s K h:=by
  have one:∀sum n:Int,∃r:Int,∀{J:Int->Zf->Prop} {h:Zf},J r h->Zgr sum n (λt5 t6 j=>Zc t5 λs8=>Zc t6 λerr=>Zk (err !=0) (ZeF (decide (n<0)) (λt9 f=>Zc t9 λg=>Zc g λc=>J c f) j) (Zc s8 λd=>J d j)) h:=λsum n=>by
    obtain⟨v,e,A⟩:=ZH5 sum n
    by_cases q:e=0
    ·exact⟨v,λ{J h} l=>A (Za (Za (Zh (by rw[q];rfl) (Za l))))⟩
    ·refine ⟨if n<0 then -9223372036854775808 else 9223372036854775807,λ{J h} l=>A (Za (Za (Zm (by simpa using q) ?_)))⟩;unfold ZeF ZkH;refine Za (Zn (λm=>Za (Za (Za ?_))) λm=>Za (Za (Za ?_)))
     ·rwa[if_pos m]at l
     ·rwa[if_neg m]at l
  obtain⟨t,h1⟩:=one 0 a;obtain⟨B,D⟩:=one t b;refine⟨B,λ{K h s} hs E=>?_⟩;unfold Zdq Zmw;have hl:s.len=2:=by have:=hs.len;simp at this;omega
  refine Za (Za (Zaj (λp k=>(p=(0,0,())\/p=(t,1,())\/p=(B,2,()))/\k=h) (λp _=>(2-p.2.1).toNat) ⟨.inl rfl,rfl⟩ ?_));rintro _ k ⟨F,rfl⟩ Q C;have u:IntKind.wrap .i64 ((0:Int)+1)=1:=by decide
  have w:IntKind.wrap .i64 ((1:Int)+1)=2:=by decide
  rcases F with rfl|rfl|rfl
  ·dsimp only;rw[hl];have:=hs.idx (i:=0) (n:=0) (v:=iv a) rfl rfl (K:=λb o=>ldI k b o .i64 λt4=>Zc t4 λn=>Zgr 0 n (λt5 t6 j=>Zc t5 λs8=>Zc t6 λerr=>Zk (err !=0) (ZeF (decide (n<0)) (λt9 f=>Zc t9 λg=>Zc g λc=>Q (c,IntKind.wrap .i64 ((0:Int)+1),()) f) j) (Zc s8 λd=>Q (d,IntKind.wrap .i64 ((0:Int)+1),()) j)) k) λb o _ y=>⟨a,y,Za (h1 (J:=λx z=>Q (x,IntKind.wrap .i64 ((0:Int)+1),()) z) (by rw[u];exact C _ _ ⟨.inr (.inl rfl),rfl⟩ (show(2-(1:Int)).toNat<(2-(0:Int)).toNat by decide)))⟩;rw[hl]at this;exact Zm rfl this
  ·dsimp only;rw[hl];have:=hs.idx (i:=1) (n:=1) (v:=iv b) rfl rfl (K:=λb o=>ldI k b o .i64 λt4=>Zc t4 λn=>Zgr t n (λt5 t6 j=>Zc t5 λs8=>Zc t6 λerr=>Zk (err !=0) (ZeF (decide (n<0)) (λt9 f=>Zc t9 λg=>Zc g λc=>Q (c,IntKind.wrap .i64 ((1:Int)+1),()) f) j) (Zc s8 λd=>Q (d,IntKind.wrap .i64 ((1:Int)+1),()) j)) k) λG o _ y=>⟨b,y,Za (D (J:=λx z=>Q (x,IntKind.wrap .i64 ((1:Int)+1),()) z) (by rw[w];exact C _ _ ⟨.inr (.inr rfl),rfl⟩ (show(2-(2:Int)).toNat<(2-(1:Int)).toNat by decide)))⟩;rw[hl]at this;exact Zm rfl this
  ·dsimp only;rw[hl];exact Zh rfl (Za E)
inductive Run{σ ρ:Type}(step:σ->σ ⊕ ρ):σ->ρ->Prop
  |stop {s:σ} {r:ρ}:step s= .inr r->Run step s r
  |more {s s':σ} {r:ρ}:step s= .inl s'->Run step s' r->Run step s r
theorem ZxA{σ ρ:Type}{step:σ->σ ⊕ ρ}{μ:σ->Nat}(a:∀s s',step s= .inl s'->μ s'<μ s):∀(n:Nat) (s:σ),μ s<=n->∃r,Run step s r
  | 0,s,b=>by
    cases e:step s with
    |inr r=>exact⟨r,.stop e⟩
    |inl s'=>have:=a s s' e;omega
  | n+1,s,b=>by
    cases e:step s with
    |inr r=>exact⟨r,.stop e⟩
    | inl s'=>
      have:=a s s' e;obtain⟨r,c⟩:=ZxA a n s' (by omega);exact⟨r,.more e c⟩
theorem Zup{σ ρ:Type}{step:σ->σ ⊕ ρ}{μ:σ->Nat}(d:∀s s',step s= .inl s'->μ s'<μ s){body:(σ->Zf->Prop)->σ->Zf->Prop}{s:σ}{r:ρ}(f:Run step s r){h:Zf}{K:ρ->Zf->Prop}
    (g:∀J s,(∀s',step s= .inl s'->J s' h)->(∀r,step s= .inr r->K r h)->body J s h) (i:K r h):ZP body s h:=by
  refine YL (λs' h'=>h'=h/\Run step s' r) (λs' _=>μ s') ⟨rfl,f⟩ ?_;rintro s' h' ⟨rfl,b⟩;refine g _ s' (λj e=>⟨⟨rfl,?_⟩,d _ _ e⟩) λk e=>?_
  ·cases b with
   |stop a=>rw[e]at a;cases a
   |more a c=>rw[e]at a;cases a;exact c
  ·cases b with
   |stop a=>rw[e]at a;cases a;exact i
   |more a c=>rw[e]at a;cases a
theorem Zul{x:Int}{k:Int}(b:0<=x)(h0:0<=k)(h1:k<=64):Zlr .u64 x k=x / 2 ^ k.toNat:=by unfold Zlr;have a:IntKind.u64.bits=64:=rfl;rw[a,Nat.min_eq_left (by omega)];exact Int.fdiv_eq_ediv_of_nonneg _ (Int.le_of_lt (Int.pow_pos (by decide)))
def Zr8:ByteArray:=ByteArray.mk #[0,1,2,2,3,3,3,3,4,4,4,4,4,4,4,4,5,5,5,5,5,5,5,5,5,5,5,5,5,5,5,5,6,6,6,6,6,6,6,6,6,6,6,6,6,6,6,6,6,6,6,6,6,6,6,6,6,6,6,6,6,6,6,6,7,7,7,7,7,7,7,7,7,7,7,7,7,7,7,7,7,7,7,7,7,7,7,7,7,7,7,7,7,7,7,7,7,7,7,7,7,7,7,7,7,7,7,7,7,7,7,7,7,7,7,7,7,7,7,7,7,7,7,7,7,7,7,7,8,8,8,8,8,8,8,8,8,8,8,8,8,8,8,8,8,8,8,8,8,8,8,8,8,8,8,8,8,8,8,8,8,8,8,8,8,8,8,8,8,8,8,8,8,8,8,8,8,8,8,8,8,8,8,8,8,8,8,8,8,8,8,8,8,8,8,8,8,8,8,8,8,8,8,8,8,8,8,8,8,8,8,8,8,8,8,8,8,8,8,8,8,8,8,8,8,8,8,8,8,8,8,8,8,8,8,8,8,8,8,8,8,8,8,8,8,8,8,8,8,8,8,8,8,8,8,8]
theorem Zx1:∀i:Fin 256,∃c:Fin 9,Zr8.data[i.val]?=some (UInt8.ofNat c.val)/\(1<=i.val->1<=c.val/\2 ^ (c.val- 1)<=i.val/\i.val<2 ^ c.val):=by decide +kernel
theorem Zx2{x:Int}(h0:1<=x)(h1:x<256):∃(c:UInt8) (n:Nat),Zr8[x.toNat]?=some c/\c.toNat=n/\1<=n/\n<=8/\(2:Int) ^ (n- 1)<=x/\x<(2:Int) ^ n:=by
  obtain⟨c,a,e⟩:=Zx1 ⟨x.toNat,by omega⟩;obtain⟨f,b,d⟩:=e (by show 1<=x.toNat;omega);have g:=c.isLt;dsimp only at a b d;refine⟨UInt8.ofNat c.val,c.val,?_,?_,f,by omega,?_,?_⟩
  ·exact a
  ·simp;omega
  ·have:((2 ^ (c.val- 1):Nat):Int)<=(x.toNat:Int):=by exact_mod_cast b
   rw[Axe (by omega)]at this
   exact_mod_cast this
  ·have:((x.toNat:Nat):Int)<((2 ^ c.val:Nat):Int):=by exact_mod_cast d
   rw[Axe (by omega)]at this
   exact_mod_cast this
def Zzs(x:Int)(n:Nat):Prop:=(2:Int) ^ (n- 1)<=x/\x<(2:Int) ^ n
theorem Zzs.up{x:Int}{n k:Nat}(a:Zzs (x / 2 ^ k) n)(c:1<=n):Zzs x (n+k):=by
  have b:(0:Int)<2 ^ k:=Int.pow_pos (by decide);constructor
  ·rw[show n+k- 1=(n- 1)+k from by omega,Int.pow_add];exact(Int.le_ediv_iff_mul_le b).1 a.1
  ·rw[Int.pow_add];exact(Int.ediv_lt_iff_lt_mul b).1 a.2
theorem ZHl{x:Int}(h0:1<=x)(h1:x<18446744073709551616):∃n:Nat,1<=n/\n<=64/\Zzs x n/\∀{K:Int->Zf->Prop} {h:Zf},K (n:Int) h->ZbH x K h:=by
  have last:∀(y:Int) (k:Nat),1<=y->y<256->k<=56->∃n:Nat,1<=n/\n<=8/\Zzs y n/\∀{K:Int->Zf->Prop} {h:Zf},K ((n+k:Nat):Int) h->ZEB Zr8 (IntKind.wrap .u8 y) λt=>Zc (IntKind.wrap .i64 ((k:Int)+(IntKind.wrap .i64 t))) λn21=>K n21 h:=λy k h0 h1 u=>by
    obtain⟨c,n,w,s,a,n8,b1,b2⟩:=Zx2 h0 h1;refine⟨n,a,n8,⟨b1,b2⟩,λ{K h} b=>?_⟩;rw[ZOA (by omega) h1];refine⟨c,by omega,w,Za ?_⟩;rw[Yw (n:=(c.toNat:Int)) (by omega) (by omega),Yw (by omega) (by omega)];rw[show(k:Int)+(c.toNat:Int)=((n+k:Nat):Int)from by rw[s];omega];exact b
  have d:∀(y:Int) (k:Nat),1<=y->y<65536->k<=48->∃n:Nat,1<=n/\n<=16/\Zzs y n/\∀{K:Int->Zf->Prop} {h:Zf},K ((n+k:Nat):Int) h->Zf1 (σ:=Int×Int×Unit) (λe i=>(λ(j:Int) (n18:Int)=>ZEB Zr8 (IntKind.wrap .u8 j) λt=>Zc (IntKind.wrap .i64 (n18+(IntKind.wrap .i64 t))) λn21=>K n21 i) e.1 e.2.1) (λf=>Zk (decide (y>=256)) (Zx (0<=(8:Int))<|Zc (Zlr .u64 y 8) λl=>Zc (IntKind.wrap .i64 ((k:Int)+8)) λn16=>f (l,n16,()) h) (f (y,(k:Int),()) h)):=λy k h0 h1 u=>by
    by_cases q:y>=256
    ·have o:(2:Int) ^ (8:Int).toNat=256:=by decide
     obtain⟨n,a,n8,g,hl⟩:=last (y / 256) (k+8) (by omega) (by omega) (by omega);refine⟨n+8,by omega,by omega,Zzs.up (k:=8) (by rw[show(2:Int) ^ 8=256 from by decide];exact g) a,λ{K h} b=>XX (Zm (decide_eq_true q) ⟨by decide,Za (Za ?_)⟩)⟩;rw[Zul (by omega) (by decide) (by decide),o,Yw (by omega) (by omega),show(k:Int)+8=((k+8:Nat):Int)from by omega];exact hl (by rw[show n+(k+8)=n+8+k from by omega];exact b)
    ·obtain⟨n,a,n8,g,hl⟩:=last y k h0 (by omega) (by omega);exact⟨n,a,by omega,g,λ{K h} b=>XX (Zh (decide_eq_false q) (hl b))⟩
  have second:∀(y:Int) (k:Nat),1<=y->y<4294967296->k<=32->∃n:Nat,1<=n/\n<=32/\Zzs y n/\∀{K:Int->Zf->Prop} {h:Zf},K ((n+k:Nat):Int) h->Zf1 (σ:=Int×Int×Unit) (λp r=>(λ(m:Int) (n11:Int)=>Zf1 (σ:=Int×Int×Unit) (λe i=>(λ(j:Int) (n18:Int)=>ZEB Zr8 (IntKind.wrap .u8 j) λt=>Zc (IntKind.wrap .i64 (n18+(IntKind.wrap .i64 t))) λn21=>K n21 i) e.1 e.2.1) (λf=>Zk (decide (m>=256)) (Zx (0<=(8:Int))<|Zc (Zlr .u64 m 8) λl=>Zc (IntKind.wrap .i64 (n11+8)) λn16=>f (l,n16,()) r) (f (m,n11,()) r))) p.1 p.2.1) (λv=>Zk (decide (y>=65536)) (Zx (0<=(16:Int))<|Zc (Zlr .u64 y 16) λz=>Zc (IntKind.wrap .i64 ((k:Int)+16)) λn9=>v (z,n9,()) h) (v (y,(k:Int),()) h)):=λy k h0 h1 u=>by
    by_cases q:y>=65536
    ·have o:(2:Int) ^ (16:Int).toNat=65536:=by decide
     obtain⟨n,a,n8,g,hl⟩:=d (y / 65536) (k+16) (by omega) (by omega) (by omega);refine⟨n+16,by omega,by omega,Zzs.up (k:=16) (by rw[show(2:Int) ^ 16=65536 from by decide];exact g) a,λ{K h} b=>XX (Zm (decide_eq_true q) ⟨by decide,Za (Za ?_)⟩)⟩;rw[Zul (by omega) (by decide) (by decide),o,Yw (by omega) (by omega),show(k:Int)+16=((k+16:Nat):Int)from by omega];exact hl (by rw[show n+(k+16)=n+16+k from by omega];exact b)
    ·obtain⟨n,a,n8,g,hl⟩:=d y k h0 (by omega) (by omega);exact⟨n,a,by omega,g,λ{K h} b=>XX (Zh (decide_eq_false q) (hl b))⟩
  by_cases q:x>=4294967296
  ·have o:(2:Int) ^ (32:Int).toNat=4294967296:=by decide
   obtain⟨n,a,n8,g,hl⟩:=second (x / 4294967296) 32 (by omega) (by omega) (by omega);refine⟨n+32,by omega,by omega,Zzs.up (k:=32) (by rw[show(2:Int) ^ 32=4294967296 from by decide];exact g) a,λ{K h} b=>?_⟩;unfold ZbH Zdu;refine Za (XX (Zm (decide_eq_true q) ⟨by decide,Za (Za ?_)⟩));rw[Zul (by omega) (by decide) (by decide),o];exact hl b
  ·obtain⟨n,a,n8,g,hl⟩:=second x 0 h0 (by omega) (by omega);refine⟨n,a,by omega,g,λ{K h} b=>?_⟩;unfold ZbH Zdu;exact Za (XX (Zh (decide_eq_false q) (hl b)))
def Zwi(yn0 yn1 un:Int)(q r:Int):(Int×Int) ⊕ Int:=
  if q>=4294967296\/IntKind.wrap .u64 (q*yn0)>IntKind.wrap .u64 (IntKind.wrap .u64 (4294967296*r)+un)then
    (if IntKind.wrap .u64 (r+yn1)>=4294967296 then .inr (IntKind.wrap .u64 (q- 1))else .inl (IntKind.wrap .u64 (q- 1),IntKind.wrap .u64 (r+yn1)))
  else .inr q
def dA(yn0 yn1 un:Int)(s:Int×Int×Unit):(Int×Int×Unit) ⊕ Int:=match Zwi yn0 yn1 un s.1 s.2.1 with
  | .inl s'=>.inl (s'.1,s'.2,())
  | .inr v=>.inr v
def dB(yn0 yn1 un:Int)(s:Int×Int×Unit):(Int×Int×Unit) ⊕ Int:=match Zwi yn0 yn1 un s.2.1 s.1 with
  | .inl s'=>.inl (s'.2,s'.1,())
  | .inr v=>.inr v
def dMu(r:Int):Nat:=if 0<=r/\r<4294967296 then(4294967296-r).toNat else 4294967297
theorem ZyG{yn0 yn1 un:Int}(h1:1<=yn1)(h2:yn1<4294967296){q r:Int}{s':Int×Int}(e:Zwi yn0 yn1 un q r= .inl s'):dMu s'.2<dMu r:=by
  unfold Zwi at e;split at e
  ·split at e
   ·cases e
   ·rename_i b;cases e;have hw:=ZrG (r+yn1);unfold dMu;dsimp only;rw[if_pos ⟨hw.1,by omega⟩]
    by_cases a:0<=r/\r<4294967296
    ·rw[if_pos a];rw[Zm0 (by omega) (by omega)]at b⊢;omega
    ·rw[if_neg a];omega
  ·cases e
section
variable{yn0 yn1 un:Int}(h1:1<=yn1)(h2:yn1<4294967296)
include h1 h2
theorem ZCc:∀s s':Int×Int×Unit,dA yn0 yn1 un s= .inl s'->dMu s'.2.1<dMu s.2.1:=λs s' e=>by
  unfold dA at e;split at e
  ·rename_i t a;cases e;exact ZyG h1 h2 a
  ·cases e
theorem ZCb:∀s s':Int×Int×Unit,dB yn0 yn1 un s= .inl s'->dMu s'.1<dMu s.1:=λs s' e=>by
  unfold dB at e;split at e
  ·rename_i t a;cases e;exact ZyG h1 h2 a
  ·cases e
theorem ZPb(s:Int×Int×Unit):∃v:Int,Run (dA yn0 yn1 un) s v:=ZxA (μ:=λs=>dMu s.2.1) (ZCc h1 h2) _ _ (Aqo _)
theorem ZPa(s:Int×Int×Unit):∃v:Int,Run (dB yn0 yn1 un) s v:=ZxA (μ:=λs=>dMu s.1) (ZCb h1 h2) _ _ (Aqo _)
theorem ZE5{q r v:Int}(t:Run (dA yn0 yn1 un) (q,r,()) v){g:Int×Unit->Zf->Prop}{h:Zf}(w:g (v,()) h):ZP (σ:=Int×Int×Unit) (λn k i=>
    (λ(e:Int) (f:Int)=>
    Zf1 (σ:=Unit) (λx l=>
    Zc (IntKind.wrap .u64 (e- 1)) λd=>
    Zc (IntKind.wrap .u64 (f+yn1)) λc=>
    Zk (decide (c>=4294967296)) (
    g (d,()) l) (
    n (d,c,()) l)) (λm=>
    Zk (decide (e>=4294967296)) (
    m (()) i) (
    Zk (decide ((IntKind.wrap .u64 (e*yn0))>(IntKind.wrap .u64 ((IntKind.wrap .u64 ((4294967296:Int)*f))+un)))) (
    m (()) i) (
    g (e,()) i)))) k.1 k.2.1) (q,r,()) h:=by
  refine Zup (step:=dA yn0 yn1 un) (μ:=λs=>dMu s.2.1) (ZCc h1 h2) t (K:=λr h=>g (r,()) h) (λJ s hi hs=>?_) w;obtain⟨a,b,u⟩:=s;dsimp only;unfold dA Zwi at hi hs;dsimp only at hi hs
  have more:(a>=4294967296\/IntKind.wrap .u64 (a*yn0)>IntKind.wrap .u64 (IntKind.wrap .u64 (4294967296*b)+un))->Zc (IntKind.wrap .u64 (a- 1)) λd=>Zc (IntKind.wrap .u64 (b+yn1)) λc=>Zk (decide (c>=4294967296)) (g (d,()) h) (J (d,c,()) h):=λy=>by
    rw[if_pos y]at hi hs;refine Za (Za (Zn (λj=>?_) λj=>?_))
    ·rw[if_pos j]at hs;exact hs _ rfl
    ·rw[if_neg j]at hi;exact hi _ rfl
  refine XX (Zn (λj=>more (.inl j)) λj=>Zn (λo=>more (.inr o)) λo=>?_);rw[if_neg (by rintro(p|p);exact j p;exact o p)]at hs;exact hs _ rfl
theorem ZE4{q r v:Int}(x:Run (dB yn0 yn1 un) (r,q,()) v){g:Int×Unit->Zf->Prop}{h:Zf}(y:g (v,()) h):ZP (σ:=Int×Int×Unit) (λp m k=>
    (λ(c:Int) (d:Int)=>
    Zf1 (σ:=Unit) (λz n=>
    Zc (IntKind.wrap .u64 (d- 1)) λi=>
    Zc (IntKind.wrap .u64 (c+yn1)) λe=>
    Zk (decide (e>=4294967296)) (
    g (i,()) n) (
    p (e,i,()) n)) (λo=>
    Zk (decide (d>=4294967296)) (
    o (()) k) (
    Zk (decide ((IntKind.wrap .u64 (d*yn0))>(IntKind.wrap .u64 ((IntKind.wrap .u64 ((4294967296:Int)*c))+un)))) (
    o (()) k) (
    g (d,()) k)))) m.1 m.2.1) (r,q,()) h:=by
  refine Zup (step:=dB yn0 yn1 un) (μ:=λs=>dMu s.1) (ZCb h1 h2) x (K:=λr h=>g (r,()) h) (λJ s hi hs=>?_) y;obtain⟨b,a,u⟩:=s;dsimp only;unfold dB Zwi at hi hs;dsimp only at hi hs
  have more:(a>=4294967296\/IntKind.wrap .u64 (a*yn0)>IntKind.wrap .u64 (IntKind.wrap .u64 (4294967296*b)+un))->Zc (IntKind.wrap .u64 (a- 1)) λj=>Zc (IntKind.wrap .u64 (b+yn1)) λf=>Zk (decide (f>=4294967296)) (g (j,()) h) (J (f,j,()) h):=λA=>by
    rw[if_pos A]at hi hs;refine Za (Za (Zn (λl=>?_) λl=>?_))
    ·rw[if_pos l]at hs;exact hs _ rfl
    ·rw[if_neg l]at hi;exact hi _ rfl
  refine XX (Zn (λl=>more (.inl l)) λl=>Zn (λt=>more (.inr t)) λt=>?_);rw[if_neg (by rintro(w|w);exact l w;exact t w)]at hs;exact hs _ rfl
end
theorem ZBK{hi lo y:Int}(h0:0<=hi)(h1:hi<y)(h2:y<18446744073709551616):∃p q:Int,(0<=p/\p<18446744073709551616)/\∀{K:Int->Int->Zf->Prop} {h:Zf},K p q h->Zax hi lo y K h:=by
  have l:(y==0)=false:=by simp;omega
  have m:¬y<=hi:=by omega
  by_cases q:hi=0
  ·refine⟨IntKind.wrap .u64 (Int.tdiv lo y),Int.tmod lo y,ZrG _,λ{K h} t=>?_⟩;unfold Zax Zdv;exact Za (Za (XX (Zh l (XX (Zh (decide_eq_false m) (Zm (by rw[q];rfl) ⟨by omega,by omega,Za (Za t)⟩))))))
  ·have H:(hi==0)=false:=by simpa using q
   obtain⟨n,J,I,E,hl⟩:=ZHl (x:=y) (by omega) h2
   have hs:IntKind.wrap .u64 (IntKind.wrap .i64 ((64:Int)- (n:Int)))=((64-n:Nat):Int):=by
     rw[Yw (by omega) (by omega),Zm0 (by omega) (by omega)];omega
   have u:∃a:Int,ZBV .u64 y ((64-n:Nat):Int)=a/\9223372036854775808<=a/\a<18446744073709551616:=by
     refine⟨_,rfl,?_⟩;unfold ZBV;have g:IntKind.u64.bits=64:=rfl;rw[g,Aqu,Nat.min_eq_left (by omega)];have F:(0:Int)<2 ^ (64-n):=Int.pow_pos (by decide);have L:(2:Int) ^ (n- 1)*2 ^ (64-n)=9223372036854775808:=by rw[<-Int.pow_add,show n- 1+(64-n)=63 from by omega];decide
     have M:(2:Int) ^ n*2 ^ (64-n)=18446744073709551616:=by rw[<-Int.pow_add,show n+(64-n)=64 from by omega];decide
     have N:(2:Int) ^ (n- 1)*2 ^ (64-n)<=y*2 ^ (64-n):=Int.mul_le_mul_of_nonneg_right E.1 (Int.le_of_lt F);have O:y*2 ^ (64-n)<(2:Int) ^ n*2 ^ (64-n):=Int.mul_lt_mul_of_pos_right E.2 F;rw[Zm0 (by omega) (by omega)];omega
   obtain⟨a,o,P,R⟩:=u
   have v:Zlr .u64 a 32=a / 4294967296:=by
     rw[Zul (by omega) (by decide) (by decide)];rfl
   have yn1:1<=a / 4294967296:=by omega
   have e:a / 4294967296<4294967296:=by omega
   have r:a / 4294967296≠0:=by omega
   generalize i:orV .u64 (ZBV .u64 hi ((64-n:Nat):Int)) (Zlr .u64 lo (IntKind.wrap .u64 ((64:Int)- ((64-n:Nat):Int))))=b;generalize j:ZBV .u64 lo ((64-n:Nat):Int)=c;obtain⟨d1,w⟩:=ZPb (yn0:=Zzr .u64 a 4294967295) (un:=Zlr .u64 c 32) yn1 e (IntKind.wrap .u64 (Int.tdiv b (a / 4294967296)),IntKind.wrap .u64 (b- IntKind.wrap .u64 (IntKind.wrap .u64 (Int.tdiv b (a / 4294967296))*(a / 4294967296))),());generalize k:IntKind.wrap .u64 (IntKind.wrap .u64 (IntKind.wrap .u64 (b*4294967296)+Zlr .u64 c 32)- IntKind.wrap .u64 (d1*a))=d;obtain⟨d0,z⟩:=ZPa (yn0:=Zzr .u64 a 4294967295) (un:=Zzr .u64 c 4294967295) yn1 e (IntKind.wrap .u64 (d- IntKind.wrap .u64 (IntKind.wrap .u64 (Int.tdiv d (a / 4294967296))*(a / 4294967296))),IntKind.wrap .u64 (Int.tdiv d (a / 4294967296)),());refine⟨IntKind.wrap .u64 (IntKind.wrap .u64 (d1*4294967296)+d0),Zlr .u64 (IntKind.wrap .u64 (IntKind.wrap .u64 (IntKind.wrap .u64 (d*4294967296)+Zzr .u64 c 4294967295)- IntKind.wrap .u64 (d0*a))) ((64-n:Nat):Int),ZrG _,λ{K h} t=>?_⟩;unfold Zax Zdv;refine Za (Za (XX (Zh l (XX (Zh (decide_eq_false m) (Zh H ?_))))));unfold XE ZaR;refine Za (hl (Za (Za ?_)));rw[hs];have f:(0:Int)<=((64-n:Nat):Int):=by omega
   refine⟨f,Za ?_⟩;rw[o];refine⟨by decide,Za ?_⟩;rw[v];refine Za ⟨f,(ZrG _).1,Za ?_⟩;rw[i];refine⟨f,Za ?_⟩;rw[j];refine⟨by decide,Za (Za ⟨r,Za (Za (ZoF (λ(s:Int×Unit) A=>s=(d1,())/\A=h) ?_ λQ B=>ZE5 yn1 e w (B _ _ ⟨rfl,rfl⟩)))⟩)⟩;rintro _ A ⟨rfl,C⟩;subst C;refine Za ?_;rw[k];refine⟨r,Za (Za (ZoF (λ(s:Int×Unit) G=>s=(d0,())/\G=A) ?_ λQ B=>ZE4 yn1 e z (B _ _ ⟨rfl,rfl⟩)))⟩;rintro _ G ⟨rfl,D⟩;subst D;exact⟨f,Za (Za t)⟩
end Go.Proofs.YtonbfpnngkemiaaGreat
