/- The windows of buckets: what their functions do, whatever is counted. -/
import Derived.Laws.Strings
import Derived.Test.YthbfgkphlmlihaaGreatPa8
set_option linter.unusedVariables false
set_option linter.unusedSimpArgs false
namespace Go.Proofs.YthbfgkphlmlihaaGreat
open Go Go.Fw
open Nat renaming reduceAdd->Nqa,reduceLT->Nqb,reduceLeDiff->Nqc,reduceEqDiff->Nqd,reduceMul->Nqe
abbrev C6:=Int × Int × Int × Int × Int × Int × Unit
def ZkF (a b:Int):Int:=IntKind.wrap .i64 (Zpl a (IntKind.wrap .i64 (4611686018427387904 - b))+b)
theorem Zxr {a b:Int} {K:Int->Zf->Prop} {h:Zf}:Ziz a b K h=K (ZkF a b) h:=propext ⟨λh=>h,λh=>h⟩
def Zmq (a b:C6):C6:=(ZkF a.1 b.1,ZkF a.2.1 b.2.1,ZkF a.2.2.1 b.2.2.1,ZkF a.2.2.2.1 b.2.2.2.1,ZkF a.2.2.2.2.1 b.2.2.2.2.1,
  (if a.2.2.1=0 then b.2.2.2.2.2.1 else if b.2.2.1=0 then a.2.2.2.2.2.1 else Zpl a.2.2.2.2.2.1 b.2.2.2.2.2.1),())
def c6L (c:C6):List Value:=[iv c.1,iv c.2.1,iv c.2.2.1,iv c.2.2.2.1,iv c.2.2.2.2.1,iv c.2.2.2.2.2.1]
theorem Z5 {a b:Int} {A B:Prop} (h1:a=b->A) (c:a≠b->B):Zm (a ==b) A B:=⟨λh=>h1 (by simpa using h),λh=>c (by simpa using h)⟩
theorem ZtU {a b:C6} {K:C6->Zf->Prop} {h:Zf} (f:∀ h',Ext h h'->K (Zmq a b) h'):Zeq a b K h:=by
  unfold Zeq ZjG
  refine Zev (λt h'=>∃ q,t=(some ⟨q,0,none⟩,())/\Ext h h'/\sz h+3<=q/\q<sz h'/\obj h' (sz h)=some (.cells (c6L a).toArray 169 (0,0))/\obj h' (sz h+1)=some (.cells (c6L b).toArray 169 (0,0))/\obj h' (sz h+2)=some (.cells [iv 0,iv 0,iv 0,iv 0,iv 0,iv 0].toArray 169 (0,0)) /\
      obj h' q=some (.cells [iv (ZkF a.1 b.1),iv (ZkF a.2.1 b.2.1),iv (ZkF a.2.2.1 b.2.2.1),iv (ZkF a.2.2.2.1 b.2.2.2.1),iv (ZkF a.2.2.2.2.1 b.2.2.2.2.1),iv 0].toArray 169 (0,0))) ?_ ?_
  ·rintro _ h' ⟨q,rfl,he,p,g,h0,h1,i,h3⟩
   dsimp only;have j:(sz h=q)=False:=eq_false (by omega);have k:(sz h+1=q)=False:=eq_false (by omega);have l:(sz h+2=q)=False:=eq_false (by omega);have m:(q=sz h+2)=False:=eq_false (by omega);have sh:sz h<=q:=by omega
   have fin:∀ (r:C6) (c:Zf),r=Zmq a b->Ext h c->K r c:=λr c n o=>by subst n;exact f c o
   simp (maxDischargeDepth:=60) only [ZO,ZN,evC,Nqa,Nqb,Nqc,Nqd,Nqe,reduceCtorEq,h0,h1,i,h3,c6L,j,k,l,m,sh,he,if_false];refine Z5 (λd=>?_) λd=>Z5 (λe=>?_) λe=>?_
   all_goals
     refine fin _ _ ?_ ?_
     ·simp [Zmq,d];try simp [e]
     ·simp +arith (maxDischargeDepth:=60) only [ZbW,Ztr,he,sh]
  ·simp (maxDischargeDepth:=60) only [ZO,ZN,evC,Nqa,Nqb,Nqc,Nqd,Nqe,reduceCtorEq,Zxr,c6L]
theorem ZxF (a b:Int):Zpl a b=min a b:=by unfold Zpl;split<;>omega
theorem Zte (a b:Int):Zij a b=max a b:=by unfold Zij;split<;>omega
theorem ZdV {a b:Int} (c:0<=a/\a<=4611686018427387904) (d:0<=b/\b<=4611686018427387904):ZkF a b=min a (4611686018427387904 - b)+b:=by
  unfold ZkF;rw [Yr (n:=4611686018427387904 - b) (by omega) (by omega),ZxF,Yr (by omega) (by omega)]
theorem Zib {a:Int} (b:0<=a/\a<=4611686018427387904):ZkF a 0=a:=by
  rw [ZdV b (by omega)];omega
def z6:C6:=(0,0,0,0,0,0,())
def c6V (x:C6):Value:= .agg (c6L x).toArray
structure Rt (c:C6):Prop where
  p:0<=c.1/\c.1<=4611686018427387904
  b:0<=c.2.1/\c.2.1<=4611686018427387904
  d:0<=c.2.2.1/\c.2.2.1<=4611686018427387904
  e:0<=c.2.2.2.1/\c.2.2.2.1<=c.2.2.1
  s:0<=c.2.2.2.2.1/\c.2.2.2.2.1<=4611686018427387904
  m:0<=c.2.2.2.2.2.1/\c.2.2.2.2.2.1<=c.2.2.2.2.1
  z:0<c.2.2.1\/c.2.2.2.2.1=0
theorem Rt.zero:Rt z6:=⟨by decide,by decide,by decide,by decide,by decide,by decide,.inr rfl⟩
theorem Rt.two {a b:C6} (c:Rt a) (d:Rt b):Rt (Zmq a b):=by
  obtain ⟨e,f,a3,a4,a5,n,o⟩:=c;obtain ⟨b1,b2,g,b4,h,p,q⟩:=d;have i:=ZdV e b1;have j:=ZdV f b2;have k:=ZdV a3 g;have l:=ZdV (show 0<=a.2.2.2.1/\a.2.2.2.1<=4611686018427387904 by omega) (show 0<=b.2.2.2.1/\b.2.2.2.1<=4611686018427387904 by omega);have m:=ZdV a5 h;refine ⟨?_,?_,?_,?_,?_,?_,?_⟩<;>simp only [Zmq,i,j,k,l,m]
  ·omega
  ·omega
  ·omega
  ·omega
  ·omega
  ·rw [ZxF];split<;>(try split)<;>omega
  ·omega
theorem ZNT {a:C6} (b:Rt a):Zmq a z6=a:=by
  obtain ⟨c,d,a3,a4,a5,f,g⟩:=b;have e:=Zib (show 0<=a.2.2.2.1/\a.2.2.2.1<=4611686018427387904 by omega);simp only [Zmq,z6,Zib c,Zib d,Zib a3,e,Zib a5,if_true];split
  ·rw [show (0:Int)=a.2.2.2.2.2.1 from by omega]
  ·rfl
theorem ZGt {a:C6} (c:Rt a):Zmq z6 a=a:=by
  obtain ⟨d,e,a3,a4,a5,h,i⟩:=c;have b:∀ {x:Int},0<=x/\x<=4611686018427387904->ZkF 0 x=x:=λ{x} f=>by rw [ZdV (by omega) f];omega
  have g:=b (show 0<=a.2.2.2.1/\a.2.2.2.1<=4611686018427387904 by omega);simp only [Zmq,z6,b d,b e,b a3,g,b a5,if_true]
theorem ZGu {a b:C6} (f:Rt a) (g:Rt b) (h:Zmq a b=z6):a=z6:=by
  obtain ⟨p,q,r,s,t,v,u⟩:=a;obtain ⟨d,e,a3,a4,a5,i,j⟩:=f;obtain ⟨b1,b2,k,b4,l,w,x⟩:=g;have c:0<=b.2.2.2.1/\b.2.2.2.1<=4611686018427387904:=by omega
  simp only [Zmq,z6,Prod.mk.injEq] at h;dsimp only at d e a3 a4 a5 i j;obtain ⟨h1,m,h3,n,o,y,_⟩:=h;rw [ZdV d b1] at h1;rw [ZdV e b2] at m;rw [ZdV a3 k] at h3;rw [ZdV (by omega) c] at n;rw [ZdV a5 l] at o;simp only [z6,Prod.mk.injEq];refine ⟨by omega,by omega,by omega,by omega,by omega,by omega,trivial⟩
structure Wid where
  len:Int
  cnt:Int
  wid:Int
  e:IntKind.wrap .i64 (Int.tdiv len cnt)=wid
  c0:1<=cnt
  c1:cnt<=10
  w0:1<=wid
  w1:wid<=120000000
def Wid.sec:Wid:=⟨1000000,10,100000,by decide,by decide,by decide,by decide,by decide⟩
def Wid.dbl:Wid:=⟨2000000,2,1000000,by decide,by decide,by decide,by decide,by decide⟩
def bkt (k:Wid) (t:Int):Int:=t / k.wid
theorem ZkY {k:Wid} {t:Int} (h0:0<=t) (h1:t<=1152921504606846976):0<=bkt k t/\bkt k t<=1152921504606846976:=by
  have:=k.w0;exact ⟨Int.ediv_nonneg h0 (by omega),Int.le_trans (Int.ediv_le_self _ h0) h1⟩
theorem ZtV {k:Wid} {t:Int} (h0:0<=t) (h1:t<=1152921504606846976):IntKind.wrap .i64 (Int.tdiv t k.wid)=bkt k t:=by
  have:=ZkY (k:=k) h0 h1;unfold bkt at this ⊢;rw [Int.tdiv_eq_ediv_of_nonneg h0,Yr (by omega) (by omega)]
theorem Zuz {k:Wid} {s t:Int} (h:s<=t):bkt k s<=bkt k t:=Int.ediv_le_ediv (by have:=k.w0;omega) h
structure Win where
  last:Int
  p:Int->C6
structure Win.OK (w:Win):Prop where
  lo:0<=w.last
  hi:w.last<=1152921504606846976
  p:∀ i,Rt (w.p i)
structure Zkh (k:Wid) (h:Zf) (wb mb:Nat) (w:Win):Prop where
  ok:w.OK
  cells:obj h wb=some (.cells [iv k.len,iv k.cnt,iv w.last,.map (some mb)].toArray 242 (0,0))
  map:∃ f n,ZlE h mb f n/\(∀ i v,f i=some v->∃ x,v=c6V x/\Rt x)/\∀ i,bkt k w.last - k.cnt<i->f i=some (c6V (w.p i))\/(f i=none/\w.p i=z6)
theorem Zkh.mlt {k:Wid} {h:Zf} {wb mb:Nat} {w:Win} (hw:Zkh k h wb mb w):mb<sz h:=by
  obtain ⟨f,n,hm,_⟩:=hw.map;exact hm.lt
theorem Zkh.congr {k:Wid} {h h':Zf} {wb mb:Nat} {w:Win} (hw:Zkh k h wb mb w) (h1:obj h' wb=obj h wb) (a:obj h' mb=obj h mb):Zkh k h' wb mb w:=by
  obtain ⟨f,n,hm,r⟩:=hw.map;exact ⟨hw.ok,h1.trans hw.cells,f,n,hm.congr a,r⟩
def ZW (last at_:Int):Int:=if at_<0 then 2 else if at_>1152921504606846976 then 2 else if at_<last then 7 else 0
theorem Zey {last at_:Int} (h:ZW last at_=0):0<=at_/\at_<=1152921504606846976/\last<=at_:=by
  unfold ZW at h;split at h
  ·cases h
  ·split at h
   ·cases h
   ·split at h
    ·cases h
    ·omega
theorem ZlK {k:Wid} {h:Zf} {wb mb:Nat} {w:Win} (hw:Zkh k h wb mb w) {at_:Int} {K:Int->Zf->Prop} (a:K (ZW w.last at_) h):YO (some ⟨wb,0,none⟩) at_ K h:=by
  unfold YO ZcW;unfold ZW at a;simp (maxDischargeDepth:=60) only [ZO,ZN,evC,Nqa,Nqb,Nqc,Nqd,Nqe,reduceCtorEq,hw.cells];refine Zn (λq=>?_) λq=>Zn (λb=>?_) λb=>Zn (λc=>?_) λc=>?_
  ·rw [if_pos q] at a;exact a
  ·rw [if_neg q,if_pos b] at a;exact a
  ·rw [if_neg q,if_neg b,if_pos c] at a;exact a
  ·rw [if_neg q,if_neg b,if_neg c] at a;exact a
theorem Zse {k:Wid} {h:Zf} {wb:Nat} {r:List Value} (a:obj h wb=some (.cells (iv k.len::iv k.cnt::r).toArray 242 (0,0))) {at_:Int} (h0:0<=at_) (h1:at_<=1152921504606846976) {K:Int->Zf->Prop} :
    ZP (some ⟨wb,0,none⟩) at_ K h=K (bkt k at_) h:=by
  unfold ZP ZaJ;have b:k.cnt≠0:=by have:=k.c0;omega
  have c:k.wid≠0:=by have:=k.w0;omega
  simp (maxDischargeDepth:=60) only [ZO,ZN,evC,Nqa,Nqb,Nqc,Nqd,Nqe,reduceCtorEq,a,k.e,ZtV h0 h1];simp [b,c]
def loW (k:Wid) (at_:Int):Int:=max 0 (bkt k at_ - (k.cnt - 1))
theorem ZyA {h:Zf} {w:Option Addr} {at_:Int} {K:(Option Addr × Option Addr × Unit)->Zf->Prop}:Xt w at_ K h=K (some ⟨sz h,0,none⟩,some ⟨sz h+1,0,none⟩,()) ((h.push (.cells [.pointer w].toArray 162 (0,0))).push (.cells [iv at_].toArray 3 (0,0))):=by
  unfold Xt ZeV;simp (maxDischargeDepth:=60) only [ZO,ZN,evC,Nqa,Nqb,Nqc,Nqd,Nqe,reduceCtorEq]
theorem ZuA {k:Wid} {Y:Yld} {y:Nat} {b1 b2 wb mb:Nat} {w:Win} {at_:Int} {h0:Zf} {T1 T2:TypeId} (hw:Zkh k h0 wb mb w) (c:obj h0 b1=some (.cells [.pointer (some ⟨wb,0,none⟩)].toArray T1 (0,0)))
    (t:obj h0 b2=some (.cells [iv at_].toArray T2 (0,0))) (G:ZW w.last at_=0) {S:Nat->Prop} (H:∀ j,S j->j<sz h0) (s1:¬ S b1) (s2:¬ S b2) (u:¬ S wb) (s4:¬ S mb)
    (J:Int->Zf->Prop) (m:∀ i h h',J i h->Ext h h'->J i h')
    (I:∀ i h,J i h->w.p i=z6->J (i+1) h)
    (L:∀ i h (K:Bool->Zf->Prop),i<=bkt k at_->J i h->Upd S h0 h->(∀ h',J (i+1) h'->Upd S h h'->K true h')->Y y [.agg (iv (IntKind.wrap .i64 (i*k.wid))::c6L (w.p i)).toArray] K h)
    {K:Zf->Prop} (M:J (loW k at_) h0) (C:∀ h,J (bkt k at_+1) h->Upd S h0 h->K h):Xb Y y (some ⟨b1,0,none⟩) (some ⟨b2,0,none⟩) K h0:=by
  obtain ⟨a0,D,N⟩:=Zey G;have O:=ZkY (k:=k) a0 D;have P:=Zuz (k:=k) N;unfold Xb Zdr;have Q:=k.e;have R:=k.c0;have T:=k.c1;have U:k.cnt≠0:=by omega
  have V:Zij 0 (IntKind.wrap .i64 ((IntKind.wrap .i64 (bkt k at_ - k.cnt))+1))=loW k at_:=by
    rw [Yr (n:=bkt k at_ - k.cnt) (by omega) (by omega),Yr (by omega) (by omega),Zte];unfold loW;congr 1;omega
  simp (maxDischargeDepth:=60) only [ZO,ZN,evC,Nqa,Nqb,Nqc,Nqd,Nqe,reduceCtorEq,c,t,hw.cells,Zse hw.cells a0 D,V];refine YQ (λs h=>∃ i,s=(i,())/\loW k at_<=i/\i<=bkt k at_+1/\J i h/\Upd S h0 h) (λs _=>(bkt k at_+1 - s.1).toNat) ⟨_,rfl,Int.le_refl _,by unfold loW;omega,M,Upd.refl _ _⟩ ?_;rintro _ h ⟨i,rfl,v,W,d,hu⟩;dsimp only;have X:bkt k at_ - (k.cnt - 1)<=i/\0<=i:=by unfold loW at v;omega
  refine Zn (λq=>?_) λq=>C h (by rw [show bkt k at_+1=i from by omega];exact d) hu;have Z:=Zp c;have E:=Zp hw.cells;have c1:obj h b1=some (.cells [.pointer (some ⟨wb,0,none⟩)].toArray T1 (0,0)):=(Zah hu Z s1).trans c;have x:obj h wb=some (.cells [iv k.len,iv k.cnt,iv w.last,.map (some mb)].toArray 242 (0,0)):=(Zah hu E u).trans hw.cells;have o:sz h0<=sz h:=hu.size;have g:b1<sz h:=by omega
  have l:wb<sz h:=by omega
  have r:IntKind.wrap .i64 (i+1)=i+1:=Yr (by omega) (by omega);obtain ⟨f,n,hm,aa,z⟩:=(hw.congr (h':=h) (Zah hu E u) (Zah hu hw.mlt s4)).map;simp (maxDischargeDepth:=60) only [ZO,ZN,evC,Nqa,Nqb,Nqc,Nqd,Nqe,reduceCtorEq,c1,x];refine hm.get i ?_
  rcases z i (by omega) with A | ⟨A,hp⟩
  ·rw [A]
   refine ⟨w.p i,rfl,?_⟩;simp (maxDischargeDepth:=60) only [ZO,ZN,evC,Nqa,Nqb,Nqc,Nqd,Nqe,reduceCtorEq,c6L,c1,x,ZnJ g,ZeS g,ZnJ l,ZeS l,ZEa g,ZxG g,ZEa l,ZxG l,Q];refine ⟨U,L i _ _ q (m _ _ _ d ?_) ?_ λh' B a=>?_⟩
   ·simp (maxDischargeDepth:=60) only [ZO,ZN,evC,Nqa,Nqb,Nqc,Nqd,Nqe,reduceCtorEq]
   ·exact ZfK (Zio hu) (.inl (by omega))
   ·have F:sz h+1<=sz h':=by have:=a.size;simp only [YP,ZbG,Zis] at this;exact this
    have ns:∀ k,sz h0<=k->¬ S k:=λk C hs=>by have:=H k hs;omega
    have g0:=Zah a (b:=sz h) (by simp only [ZbG,Zis];omega) (ns _ o);have g1:=Zah a (b:=b1) (by simp only [ZbG,Zis];omega) s1;have g3:=Zah a (b:=wb) (by simp only [ZbG,Zis];omega) u;simp (maxDischargeDepth:=60) only [ZO,ZN,evC,Nqa,Nqb,Nqc,Nqd,Nqe,reduceCtorEq,g0,g1,g3,c1,x,ZnJ g,ZeS g,ZnJ l,ZeS l,r];refine ⟨⟨by omega,by omega,B,?_⟩,by omega⟩
    ·exact (ZfK (Zio hu) (.inl o)).trans a
  ·rw [A]
   refine ⟨z6,rfl,?_⟩;simp (maxDischargeDepth:=60) only [ZO,ZN,evC,Nqa,Nqb,Nqc,Nqd,Nqe,reduceCtorEq,r];refine ⟨⟨by omega,by omega,I i _ (m _ _ _ d ?_) hp,?_⟩,by omega⟩
   ·simp (maxDischargeDepth:=60) only [ZO,ZN,evC,Nqa,Nqb,Nqc,Nqd,Nqe,reduceCtorEq]
   ·exact ZfK (Zio hu) (.inl (by omega))
def ZBB (p:Int->C6):Nat->Int->C6->C6
  | 0,_,acc=>acc
  | n+1,i,acc=>ZBB p n (i+1) (Zmq acc (p i))
def ZoB (p:Int->C6) (lo i:Int):C6:=ZBB p (i - lo).toNat lo z6
theorem Zro (p:Int->C6):∀ (n:Nat) (i:Int) (acc:C6),ZBB p (n+1) i acc=Zmq (ZBB p n i acc) (p (i+n))
  | 0,i,acc=>by simp [ZBB]
  | n+1,i,acc=>by
    have:=Zro p n (i+1) (Zmq acc (p i));show ZBB p (n+1) (i+1) (Zmq acc (p i))=_;rw [this];show Zmq _ _=Zmq (ZBB p n (i+1) (Zmq acc (p i))) _;congr 2;omega
theorem ZlQ (p:Int->C6) {lo i:Int} (h:lo<=i):ZoB p lo (i+1)=Zmq (ZoB p lo i) (p i):=by
  unfold ZoB;rw [show (i+1 - lo).toNat=(i - lo).toNat+1 from by omega,Zro];congr 2;omega
theorem ZtY (p:Int->C6) (lo:Int):ZoB p lo lo=z6:=by unfold ZoB;simp [ZBB]
theorem Zw6 {p:Int->C6} (a:∀ i,Rt (p i)) (lo:Int) (n:Nat):Rt (ZoB p lo (lo+n)):=by
  induction n with
  | zero=>rw [show lo+((0:Nat):Int)=lo from by omega,ZtY];exact Rt.zero
  | succ n b =>
    rw [show lo+((n+1:Nat):Int)=lo+n+1 from by omega,ZlQ p (by omega)];exact b.two (a _)
def Win.sum (k:Wid) (w:Win) (at_:Int):C6:=ZoB w.p (loW k at_) (bkt k at_+1)
theorem Zo0 {p:Int->C6} (a:∀ i,Rt (p i)) {lo i:Int} (h:lo<=i):Rt (ZoB p lo i):=by
  have:=Zw6 a lo (i - lo).toNat;rwa [show lo+((i - lo).toNat:Int)=i from by omega] at this
theorem Zq6 {k:Wid} {h:Zf} {wb mb:Nat} {w:Win} (hw:Zkh k h wb mb w) {at_:Int} {K:C6->Int->Zf->Prop}
    (q:∀ h',Ext h h'->K (if ZW w.last at_=0 then w.sum k at_ else z6) (ZW w.last at_) h'):XJ (some ⟨wb,0,none⟩) at_ K h:=by
  unfold XJ Zd8;have v:=Zp hw.cells;have x:=hw.mlt;simp (maxDischargeDepth:=60) only [ZO,ZN,evC,Nqa,Nqb,Nqc,Nqd,Nqe,reduceCtorEq];refine ZlK (hw.congr (by simp (maxDischargeDepth:=60) only [ZO,ZN,evC,Nqa,Nqb,Nqc,Nqd,Nqe,reduceCtorEq,ZeS v]) (by simp (maxDischargeDepth:=60) only [ZO,ZN,evC,Nqa,Nqb,Nqc,Nqd,Nqe,reduceCtorEq,ZeS x])) ?_
  rcases Decidable.em (ZW w.last at_=0) with he | he
  ·rw [if_pos he] at q
   rw [he] at q ⊢;obtain ⟨a0,I,R⟩:=Zey he;have J:=ZkY (k:=k) a0 I;simp (maxDischargeDepth:=60) only [ZO,ZN,evC,Nqa,Nqb,Nqc,Nqd,Nqe,reduceCtorEq,bne_self_eq_false,ZyA,Znu];intro r;have L:loW k at_<=bkt k at_+1:=by have:=k.c0;unfold loW;omega
   have M:=ZnJ v;have n30:=ZeS v;have N:=ZnJ x;have n40:=ZeS x
   refine ZuA (w:=w) (at_:=at_) (wb:=wb) (mb:=mb) (hw.congr ?_ ?_) ?_ ?_ he (S:=λk=>k=sz h+1\/k=sz h+5) ?_ ?_ ?_ ?_ ?_
     (λi c=>obj c (sz h+5)=some (Zdp r .ready none)/\obj c (sz h+4)=some (.deferred (some []))/\obj c (sz h+1)=some (.cells (c6L (ZoB w.p (loW k at_) i)).toArray 169 (0,0)) /\
       obj c (sz h)=some (.cells [iv 0,iv 0,iv 0,iv 0,iv 0,iv 0].toArray 169 (0,0))/\Ext h c/\loW k at_<=i) (T1:=162) (T2:=3) ?_ ?_ ?_ ?_ ?_
   ·simp (maxDischargeDepth:=60) only [ZO,ZN,evC,Nqa,Nqb,Nqc,Nqd,Nqe,reduceCtorEq,M,n30]
   ·simp (maxDischargeDepth:=60) only [ZO,ZN,evC,Nqa,Nqb,Nqc,Nqd,Nqe,reduceCtorEq,N,n40]
   ·simp (maxDischargeDepth:=60) only [ZO,ZN,evC,Nqa,Nqb,Nqc,Nqd,Nqe,reduceCtorEq]
   ·simp (maxDischargeDepth:=60) only [ZO,ZN,evC,Nqa,Nqb,Nqc,Nqd,Nqe,reduceCtorEq]
   ·intro k O
    simp (maxDischargeDepth:=60) only [ZO,ZN,evC,Nqa,Nqb,Nqc,Nqd,Nqe,reduceCtorEq];omega
   ·omega
   ·omega
   ·omega
   ·omega
   ·rintro i c h' ⟨d,f,g,l,m,n⟩ e
    exact ⟨Zj d e,Zj f e,Zj g e,Zj l e,m.trans e,n⟩
   ·rintro i c ⟨d,f,g,l,m,n⟩ P
    rw [ZlQ _ n,P,ZNT (Zo0 hw.ok.p n)];exact ⟨d,f,g,l,m,by omega⟩
   ·rintro i c T _ ⟨d,f,g,l,m,n⟩ hu y
    rw [Zrh];refine ⟨rfl,rfl,d,⟨((IntKind.wrap .i64 (i*k.wid),w.p i),()),rfl,?_⟩⟩;have B:=Zp d;have C:=Zp f;have U:=Zp g;have V:=Zp l;have D:sz h+5<sz c+1:=by omega
    have z:∀ j,j<=5->(sz h+j=sz c)=False/\(sz c=sz h+j)=False:=λj W=>⟨eq_false (by omega),eq_false (by omega)⟩;have t:=z 1 (by omega);have u:=z 5 (by omega);simp (maxDischargeDepth:=60) only [ZO,ZN,evC,Nqa,Nqb,Nqc,Nqd,Nqe,reduceCtorEq,ZqX,Y1,Y9,d,g,t.1,t.2,u.1,u.2,c6L,D];refine ZtU (a:=ZoB w.p (loW k at_) i) (b:=w.p i) λh' o=>?_;have z':=Zmz o;simp (maxDischargeDepth:=60) only [ZO,ZN,evC,Nqa,Nqb,Nqc,Nqd,Nqe,reduceCtorEq,Y9] at z';have s:sz h+5<sz h':=by omega
    have A:=ZG o (b:=sz h+1) (by simp (maxDischargeDepth:=60) only [ZO,ZN,evC,Nqa,Nqb,Nqc,Nqd,Nqe,reduceCtorEq,Y9];omega);have E:=ZG o (b:=sz h+5) (by simp (maxDischargeDepth:=60) only [ZO,ZN,evC,Nqa,Nqb,Nqc,Nqd,Nqe,reduceCtorEq,Y9];omega);have F:=ZG o (b:=sz h+4) (by simp (maxDischargeDepth:=60) only [ZO,ZN,evC,Nqa,Nqb,Nqc,Nqd,Nqe,reduceCtorEq,Y9];omega);have G:=ZG o (b:=sz h) (by simp (maxDischargeDepth:=60) only [ZO,ZN,evC,Nqa,Nqb,Nqc,Nqd,Nqe,reduceCtorEq,Y9];omega);have H:=z 4 (by omega);have Q:(sz h=sz c)=False:=eq_false (by omega);simp (maxDischargeDepth:=60) only [ZO,ZN,evC,Nqa,Nqb,Nqc,Nqd,Nqe,reduceCtorEq,Y1,Y9,d,f,g,l,Q,t.1,H.1,u.1,t.2,H.2,u.2,D] at A E F G;rw [<- ZlQ _ n];simp (maxDischargeDepth:=60) only [ZO,ZN,evC,Nqa,Nqb,Nqc,Nqd,Nqe,reduceCtorEq,Y1,Y9,A,E,s,c6L];refine y _ ⟨?_,?_,?_,?_,?_,by omega⟩ ?_
    ·simp (maxDischargeDepth:=60) only [ZO,ZN,evC,Nqa,Nqb,Nqc,Nqd,Nqe,reduceCtorEq,Y1,Y9,s]
    ·simp (maxDischargeDepth:=60) only [ZO,ZN,evC,Nqa,Nqb,Nqc,Nqd,Nqe,reduceCtorEq,Y1,Y9,s,F]
    ·simp (maxDischargeDepth:=60) only [ZO,ZN,evC,Nqa,Nqb,Nqc,Nqd,Nqe,reduceCtorEq,Y1,Y9,s,A,c6L]
    ·simp (maxDischargeDepth:=60) only [ZO,ZN,evC,Nqa,Nqb,Nqc,Nqd,Nqe,reduceCtorEq,Y1,Y9,s,G]
    ·exact ZfX (ZbW ((ZfX (ZbW (X5 m) (by omega)) (by omega)).trans o) (by omega)) (by omega)
    ·exact Zhx (ZfK ((Zhx (ZfK (Zio (Upd.refl _ _)) (.inl (by omega))) (.inr (.inr rfl))).trans (o.upd _)) (.inr (.inl rfl))) (.inr (.inr rfl))
   ·simp (maxDischargeDepth:=60) only [ZO,ZN,evC,Nqa,Nqb,Nqc,Nqd,Nqe,reduceCtorEq,ZtY,z6,c6L,Int.le_refl]
   ·rintro c ⟨d,f,g,l,m,n⟩ hu
    refine ⟨.ready,none,by decide,d,?_⟩;have B:=Zp d;have C:=Zp f;rw [ZnR];simp (maxDischargeDepth:=60) only [ZO,ZN,evC,Nqa,Nqb,Nqc,Nqd,Nqe,reduceCtorEq,Y1,Y9,Zqj,d,f,g,l,B,C,c6L];exact q _ (ZfX (ZbW (ZfX m (by omega)) (by omega)) (by omega))
  ·have:(ZW w.last at_ !=0)=true:=by simpa using he
   rw [this];rw [if_neg he] at q;simp (maxDischargeDepth:=60) only [ZO,ZN,evC,Nqa,Nqb,Nqc,Nqd,Nqe,reduceCtorEq];exact q _ (by simp (maxDischargeDepth:=60) only [ZO,ZN,evC,Nqa,Nqb,Nqc,Nqd,Nqe,reduceCtorEq])
theorem Zt7 {h:Zf} {s:Sl} {size:Nat} {vs:List Value} (a:Row h s size vs) {i:Nat} (hi:i<s.len):∃ b o,(∀ {K:Nat->Nat->Prop} {n:Int},n=(i:Int)->K b o->YS s.ptr s.len n size K)/\∀ j v,j<size->vs[i*size+j]?=some v->ZA (o+j) (obj h b)=some v:=by
  rcases a.at_ with h0 | ⟨b,o,c,d⟩
  ·omega
  ·refine ⟨b,o+i*size,λ{K n} e f=>?_,λj v g hv=>?_⟩
   ·subst e
    exact ⟨b,o,c,by omega,by omega,by simpa using f⟩
   ·have:=ZiE d hv
    rw [Yo,<- Aqh] at this;exact this
theorem Zpa {c:C6} (k:Rt c) {K:Bool->Zf->Prop} {h:Zf} (l:∀ h',Ext h h'->K true h'):ZdH c K h:=by
  obtain ⟨b,d,e,f,a,g,u⟩:=c;obtain ⟨m,n,a3,a4,a5,o,p⟩:=k;dsimp only at m n a3 a4 a5 o p;unfold ZdH ZhO;simp (maxDischargeDepth:=60) only [ZO,ZN,evC,Nqa,Nqb,Nqc,Nqd,Nqe,reduceCtorEq];refine YQ (λs r=>∃ i:Int,s=(i,())/\0<=i/\i<=6/\r=((h.push (.cells [iv b,iv d,iv e,iv f,iv a,iv g].toArray 169 (0,0))).push (.cells [iv b,iv d,iv e,iv f,iv a,iv g].toArray 3 (0,0)))) (λs _=>(6 - s.1).toNat) ⟨0,rfl,by omega,by omega,rfl⟩ ?_;rintro _ _ ⟨i,rfl,t,hi,rfl⟩;dsimp only;refine Zn (λq=>?_) λq=>?_
  ·refine ⟨_,_,rfl,by omega,by omega,?_⟩
   have j:IntKind.wrap .i64 (i+1)=i+1:=Yr (by omega) (by omega);have v:i=0\/i=1\/i=2\/i=3\/i=4\/i=5:=by omega
   have D:∀ x:Int,0<=x/\x<=4611686018427387904->decide (x<0)=false/\decide (x>4611686018427387904)=false:=λx k=>by constructor<;>simp<;>omega
   have d1:=D b (by omega);have d2:=D d (by omega);have d3:=D e (by omega);have d4:=D f (by omega);have d5:=D a (by omega);have d6:=D g (by omega)
   rcases v with rfl | rfl | rfl | rfl | rfl | rfl<;>simp (maxDischargeDepth:=60) only [ZO,ZN,evC,Nqa,Nqb,Nqc,Nqd,Nqe,reduceCtorEq,Aqv,d1.1,d1.2,d2.1,d2.2,d3.1,d3.2,d4.1,d4.2,d5.1,d5.2,d6.1,d6.2,j,Int.toNat_zero,Int.reduceToNat]<;>exact ⟨⟨by omega,by omega⟩,by omega⟩
  ·have fin:K true ((h.push (.cells [iv b,iv d,iv e,iv f,iv a,iv g].toArray 169 (0,0))).push (.cells [iv b,iv d,iv e,iv f,iv a,iv g].toArray 3 (0,0))):=l _ (X5 (X5 (Ext.refl _)))
   simp (maxDischargeDepth:=60) only [ZO,ZN,evC,Nqa,Nqb,Nqc,Nqd,Nqe,reduceCtorEq];refine ⟨λ_=>⟨λ_=>⟨λ_=>fin,λq=>?_⟩,λq=>?_⟩,λq=>?_⟩
   ·simp at q
    rw [show (a ==0)=true from by simp;omega];exact fin
   ·simp at q;omega
   ·simp at q;omega
theorem ZyT {h:Zf} {s:Sl} {a b:C6} (x:Row h s 6 (c6L a++c6L b)) (C:Rt a) (L:Rt b) {K:C6->Zf->Prop} (D:∀ h',Ext h h'->K (Zmq a b) h'):ZgH s K h:=by
  have hl:s.len=2:=by have:=x.len;simp [c6L] at this;omega
  unfold ZgH ZiG;simp (maxDischargeDepth:=60) only [ZO,ZN,evC,Nqa,Nqb,Nqc,Nqd,Nqe,reduceCtorEq]
  refine YQ (λst d=>∃ i:Nat,st=((i:Int),())/\i<=2/\Ext h d/\obj d (sz h)=some (.cells [iv 0,iv 0,iv 0,iv 0,iv 0,iv 0].toArray 169 (0,0))/\obj d (sz h+1)=some (.cells (c6L (if i=0 then z6 else if i=1 then a else Zmq a b)).toArray 169 (0,0)))
    (λs _=>(2 - s.1).toNat) ⟨0,rfl,by omega,by simp (maxDischargeDepth:=60) only [ZO,ZN,evC,Nqa,Nqb,Nqc,Nqd,Nqe,reduceCtorEq],by simp (maxDischargeDepth:=60) only [ZO,ZN,evC,Nqa,Nqb,Nqc,Nqd,Nqe,reduceCtorEq],by simp (maxDischargeDepth:=60) only [ZO,ZN,evC,Nqa,Nqb,Nqc,Nqd,Nqe,reduceCtorEq,z6,if_true,c6L]⟩ ?_
  rintro _ d ⟨i,rfl,hi,he,n,l⟩;dsimp only;have M:=Zp l;have g0:=Zp n;refine Zn (λq=>?_) λq=>?_
  ·have e:i<s.len:=by omega
   obtain ⟨E,o,f,c⟩:=Zt7 (x.ext he) e;refine f rfl ?_
   have hv:∀ j,j<6->ZA (o+j) (obj d E)=(c6L (if i=0 then a else b))[j]?:=λj g=>by
     rcases (show i=0\/i=1 by omega) with rfl | rfl
     ·rw [if_pos rfl]
      obtain ⟨v,hv⟩:∃ v,(c6L a)[j]?=some v:=⟨_,Axy (by simpa [c6L] using g)⟩;rw [hv];exact c j v g (by rw [Aqs,Awb,Awu (by simpa [c6L] using g)];exact hv)
     ·rw [if_neg (by omega)]
      obtain ⟨v,hv⟩:∃ v,(c6L b)[j]?=some v:=⟨_,Axy (by simpa [c6L] using g)⟩;rw [hv];exact c j v g (by rw [Nat.one_mul,Awv (by simp [c6L])];simpa [c6L] using hv)
   have v0:=hv 0 (by omega);have v1:=hv 1 (by omega);have v2:=hv 2 (by omega);have v3:=hv 3 (by omega);have v4:=hv 4 (by omega);have v5:=hv 5 (by omega);have y:Rt (if i=0 then a else b):=by split<;>assumption
   generalize p:(if i=0 then a else b)=z at v0 v1 v2 v3 v4 v5 y;generalize r:(if i=0 then z6 else if i=1 then a else Zmq a b)=ac at l;simp only [c6L,Axg,Axh,Axi] at v0 v1 v2 v3 v4 v5;have F:(sz h+1=sz d)=False:=eq_false (by omega);have G:(sz h=sz d)=False:=eq_false (by omega);simp (maxDischargeDepth:=60) only [ZO,ZN,evC,Nqa,Nqb,Nqc,Nqd,Nqe,reduceCtorEq,v0,v1,v2,v3,v4,v5];refine Zpa y λh1 k=>?_;have H:=Zmz k;simp (maxDischargeDepth:=60) only [ZO,ZN,evC,Nqa,Nqb,Nqc,Nqd,Nqe,reduceCtorEq] at H;have A:=ZG k (b:=sz d) (by simp (maxDischargeDepth:=60) only [ZO,ZN,evC,Nqa,Nqb,Nqc,Nqd,Nqe,reduceCtorEq]<;>omega);have t:=ZG k (b:=sz h+1) (by simp (maxDischargeDepth:=60) only [ZO,ZN,evC,Nqa,Nqb,Nqc,Nqd,Nqe,reduceCtorEq]<;>omega);have B:=ZG k (b:=sz h) (by simp (maxDischargeDepth:=60) only [ZO,ZN,evC,Nqa,Nqb,Nqc,Nqd,Nqe,reduceCtorEq]<;>omega);simp (maxDischargeDepth:=60) only [ZO,ZN,evC,Nqa,Nqb,Nqc,Nqd,Nqe,reduceCtorEq,F,G,l,n] at A t B;simp (maxDischargeDepth:=60) only [ZO,ZN,evC,Nqa,Nqb,Nqc,Nqd,Nqe,reduceCtorEq,A,t,c6L];refine ZtU (a:=ac) (b:=z) λN m=>?_;have O:=Zmz m;have I:=Zj t m;have J:=Zj B m;have u:IntKind.wrap .i64 ((i:Int)+1)=((i+1:Nat):Int):=by rw [Yr (by omega) (by omega)];omega
   have w:(sz h=sz h+1)=False:=eq_false (by omega);simp (maxDischargeDepth:=60) only [ZO,ZN,evC,Nqa,Nqb,Nqc,Nqd,Nqe,reduceCtorEq,I,c6L,u];refine ⟨⟨i+1,rfl,by omega,ZbW (((ZbW (X5 he) (by omega)).trans k).trans m) (by omega),?_,?_⟩,by omega⟩
   ·simp (maxDischargeDepth:=60) only [ZO,ZN,evC,Nqa,Nqb,Nqc,Nqd,Nqe,reduceCtorEq,J,w]
   ·have:Zmq ac z=(if i+1=0 then z6 else if i+1=1 then a else Zmq a b):=by
      rw [<- r,<- p]
      rcases (show i=0\/i=1 by omega) with rfl | rfl
      ·simp [ZGt C]
      ·simp
    rw [<- this]
  ·have e:i=2:=by omega
   subst e;simp (maxDischargeDepth:=60) only [ZO,ZN,evC,Nqa,Nqb,Nqc,Nqd,Nqe,reduceCtorEq,n,l,c6L];exact D _ (ZbW he (by omega))
def ZEd (h:Zf) (mb it:Nat):Nat:=match h[it]?,h[mb]? with
  | some (.mapIter _ _ seen _),some (.map es _)=>(leftOf es seen).size
  | _,_=>0
theorem ZmT {h:Zf} {mb it:Nat} {f:Int->Option Value} {n:Nat} {rem:Int->Prop} {L:Nat} (b:ZjX h mb it f n rem L):ZEd h mb it=L:=by
  obtain ⟨es,c,since,seen,c0,d,hs,i,he,hi,hold,e,g,a⟩:=b;unfold ZEd;rw [hi,d];exact g
def Win.add (k:Wid) (w:Win) (at_:Int) (x:C6):Win:=⟨at_,λi=>if i=bkt k at_ then Zmq (w.p i) x else w.p i⟩
theorem Zg5 {k:Wid} (b:(Int.tmod k.len k.cnt)=0) (hl:1<=k.len/\k.len<=1099511627776) {h:Zf} {K:Option Addr->Int->Zf->Prop} (d:∀ h',Zkh k h' (sz h+1) (sz h) ⟨0,λ_=>z6⟩->Ext h h'->sz h'=sz h+2->K (some ⟨sz h+1,0,none⟩) 0 h'):ZcN k.len k.cnt K h:=by
  unfold ZcN ZjH;have e:=k.c0;have f:=k.c1;have c:((Int.tmod k.len k.cnt) !=0)=false:=by rw [b];rfl
  have g:decide (k.len<1)=false:=by simp;omega
  have j:decide (k.len>1099511627776)=false:=by simp;omega
  have l:decide (k.cnt<1)=false:=by simp;omega
  have m:decide (k.cnt>60)=false:=by simp;omega
  rw [g,j,l,m];simp (maxDischargeDepth:=60) only [Zbq,ZlB,ZxD,c];refine Zt (Zt (Zt (Zt ⟨by omega,Zt ?_⟩)));refine ZlE.new λh1 hm c a=>?_;simp (maxDischargeDepth:=60) only [ZO,ZN,evC,Nqa,Nqb,Nqc,Nqd,Nqe,reduceCtorEq];simp only [YP] at hm a;rw [a];refine d _ ⟨⟨by decide,by decide,λi=>Rt.zero⟩,?_,?_⟩ (X5 c) ?_
  ·simp (maxDischargeDepth:=60) only [ZO,ZN,evC,Nqa,Nqb,Nqc,Nqd,Nqe,reduceCtorEq,a]
  ·exact ⟨_,_,hm.congr (Zj7 hm.lt),(λi v hv=>by cases hv),λi _=> .inr ⟨rfl,rfl⟩⟩
  ·simp (maxDischargeDepth:=60) only [ZO,ZN,evC,Nqa,Nqb,Nqc,Nqd,Nqe,reduceCtorEq,a]
theorem ZlG {k:Wid} {h:Zf} {wb mb:Nat} {w:Win} (hw:Zkh k h wb mb w) {at_:Int} {x:C6} (Y:Rt x) {s:Sl} (hs:Row h s 6 (c6L x)) (aD:∀ b,s.blk=some b->b≠wb/\b≠mb) {K:Int->Zf->Prop}
    (Z:∀ h',Zkh k h' wb mb (if ZW w.last at_=0 then w.add k at_ x else w)->Upd (λj=>j=wb\/j=mb) h h'->K (ZW w.last at_) h'):Xi (some ⟨wb,0,none⟩) at_ s K h:=by
  have bh:=k.c0;have bj:=k.c1;have hl:s.len=1:=by have:=hs.len;simp [c6L] at this;omega
  have l3:=Zp hw.cells;have l4:=hw.mlt
  have D:wb≠mb:=λe=>by
    obtain ⟨f,n,⟨es,c,H,_⟩,_⟩:=hw.map;have:=hw.cells;rw [e] at this;rw [show obj h mb=h[mb]? from rfl,H] at this;cases this
  unfold Xi Zd9;simp (maxDischargeDepth:=60) only [ZO,ZN,evC,Nqa,Nqb,Nqc,Nqd,Nqe,reduceCtorEq];refine ZlK hw ?_
  rcases Decidable.em (ZW w.last at_=0) with he | he
  case inr =>
    have:(ZW w.last at_ !=0)=true:=by simpa using he
    rw [this];rw [if_neg he] at Z;exact YC (Z _ hw (Upd.refl _ _))
  rw [if_pos he] at Z;rw [he] at Z ⊢;obtain ⟨a0,a1,a2⟩:=Zey he;have bn:=ZkY (k:=k) a0 a1;have bo:=Zuz (k:=k) a2;refine Zt ?_;refine YQ (λst g=>∃ i:Nat,st=((i:Int),())/\i<=1/\Ext h g) (λs _=>(1 - s.1).toNat) ⟨0,rfl,by omega,Ext.refl _⟩ ?_;rintro _ g ⟨i,rfl,hi,l⟩;dsimp only;have zz:=Zmz l;refine Zn (λq=>?_) λq=>?_
  ·have aF:i=0:=by omega
   subst aF;obtain ⟨bb,o,aa,a⟩:=Zt7 (i:=0) (hs.ext l) (by omega);refine aa rfl ?_;have v0:=a 0 _ (by omega) (show (c6L x)[0]?=some (iv (x.1)) from rfl);have v1:=a 1 _ (by omega) (show (c6L x)[1]?=some (iv (x.2.1)) from rfl);have v2:=a 2 _ (by omega) (show (c6L x)[2]?=some (iv (x.2.2.1)) from rfl);have v3:=a 3 _ (by omega) (show (c6L x)[3]?=some (iv (x.2.2.2.1)) from rfl);have v4:=a 4 _ (by omega) (show (c6L x)[4]?=some (iv (x.2.2.2.2.1)) from rfl);have v5:=a 5 _ (by omega) (show (c6L x)[5]?=some (iv (x.2.2.2.2.2.1)) from rfl);simp only [Axi] at v0;simp (maxDischargeDepth:=60) only [ZO,ZN,evC,Nqa,Nqb,Nqc,Nqd,Nqe,reduceCtorEq,v0,v1,v2,v3,v4,v5];refine Zpa Y λh1 e1=>?_;have aG:IntKind.wrap .i64 (((0:Nat):Int)+1)=((1:Nat):Int):=by decide
   simp (maxDischargeDepth:=60) only [ZO,ZN,evC,Nqa,Nqb,Nqc,Nqd,Nqe,reduceCtorEq,aG];exact ⟨⟨1,rfl,by omega,(ZbW (X5 l) (by omega)).trans e1⟩,by decide⟩
  ·clear q
   have c3:=Zj hw.cells l;have n3:wb<sz g:=by omega
   have n4:mb<sz g:=by omega
   have ae:mb≠wb:=λe=>D e.symm
   have m:obj (Zf.put g wb 2 (iv at_)) wb=some (.cells [iv k.len,iv k.cnt,iv at_,.map (some mb)].toArray 242 (0,0)):=by
     simp (maxDischargeDepth:=60) only [ZO,ZN,evC,Nqa,Nqb,Nqc,Nqd,Nqe,reduceCtorEq,c3]
   have u1:Upd (λj=>j=wb\/j=mb) h (Zf.put g wb 2 (iv at_)):=ZwX (l.upd _) (.inr (.inl rfl));have aI:=(hw.congr (h':=g) (ZG l l3) (ZG l l4)).map;simp (maxDischargeDepth:=60) only [ZO,ZN,evC,Nqa,Nqb,Nqc,Nqd,Nqe,reduceCtorEq,c3,Zse m a0 a1];obtain ⟨f,n,hm,af,U⟩:=aI;have I:ZlE (Zf.put g wb 2 (iv at_)) mb f n:=hm.congr (Zld ae);have ag:sz (Zf.put g wb 2 (iv at_))=sz g:=ZBz;generalize Zf.put g wb 2 (iv at_)=F at m u1 I ag ⊢
   refine Zev (λ_ J=>∃ P n',ZlE J mb P n'/\(∀ i v,P i=some v->∃ x,v=c6V x/\Rt x)/\(∀ i,bkt k at_ - k.cnt<i->P i=some (c6V ((w.add k at_ x).p i))\/(P i=none/\(w.add k at_ x).p i=z6)) /\
     obj J wb=some (.cells [iv k.len,iv k.cnt,iv at_,.map (some mb)].toArray 242 (0,0))/\Upd (λj=>j=wb\/j=mb) h J) ?_ ?_
   ·rintro _ J ⟨P,n',ah,Q,ai,c9,u9⟩
    have l9:=Zp c9;have g9:=ah.lt;simp (maxDischargeDepth:=60) only [ZO,ZN,evC,Nqa,Nqb,Nqc,Nqd,Nqe,reduceCtorEq,c9];refine ah.range λbq R aj aL=>?_;simp only [YP] at R aL ⊢
    have aM:(w.add k at_ x).OK:=⟨a0,a1,λi=>by
      have:=hw.ok.p i;unfold Win.add;dsimp only;split
      ·exact this.two Y
      ·exact this⟩
    refine YQ (λ_ g=>∃ r M rem L,ZjX g mb (sz J) r M rem L/\(∀ i,bkt k at_ - k.cnt<i->r i=P i)/\(∀ i v,r i=some v->P i=some v)/\obj g wb=some (.cells [iv k.len,iv k.cnt,iv at_,.map (some mb)].toArray 242 (0,0))/\Upd (λj=>j=wb\/j=mb) h g)
      (λ_ g=>ZEd g mb (sz J)) ⟨P,n',_,_,R,λ_ _=>rfl,λ_ _ hv=>hv,Zj c9 aj,u9.trans (aj.upd _)⟩ ?_
    rintro _ aN ⟨r,M,rem,L,hr,V,N,ak,O⟩;have aZ:sz h<=sz J:=u9.size;refine Zev (λs z=>(s.1=true/\∃ kk S L',ZjY z mb (sz J) r M S L' kk/\L'<L/\obj z wb=some (.cells [iv k.len,iv k.cnt,iv at_,.map (some mb)].toArray 242 (0,0))/\Upd (λj=>j=wb\/j=mb) h z)\/(s.1=false/\z=aN)) ?_ ?_
    ·rintro ⟨b,_⟩ z (⟨H,kk,S,L',A,hL,aq,B⟩ | ⟨H,rfl⟩)
     ·simp only at H
      subst H;refine YC (A.ent λv hv=>⟨kk,rfl,?_⟩);obtain ⟨y,rfl,hy⟩:=Q _ _ (N _ _ hv);refine ⟨y,rfl,?_⟩;simp (maxDischargeDepth:=60) only [ZO,ZN,evC,Nqa,Nqb,Nqc,Nqd,Nqe,reduceCtorEq,aq];refine Zn (λq=>?_) λq=>?_
      ·refine A.del λbt n13 T ar bu=>⟨⟨_,_,_,_,T,λi hi=>?_,λi v hv=>?_,YZ aq ar D,B.trans (ar.mono λj _ G=> .inr G)⟩,?_⟩
       ·rw [Yr (by omega) (by omega)] at q
        rw [Zh7 _ _ (by omega)];exact V i hi
       ·unfold upd at hv
        split at hv
        ·cases hv
        ·exact N i v hv
       ·rw [ZmT T,ZmT hr];exact hL
      ·exact ⟨⟨_,_,_,_,A.go,V,N,B⟩,by rw [ZmT A.go,ZmT hr];exact hL⟩
     ·simp only at H
      subst H;refine Zt ?_;refine Z _ ⟨aM,ak,r,M,hr.map,λi v hv=>Q i v (N i v hv),λi hi=>?_⟩ O;rw [V i hi];exact ai i hi
    ·refine hr.next (λ_=>?_) λkk v z L' bw hv A hL B bx=>?_
     ·exact .inr ⟨rfl,rfl⟩
     ·have aO:wb≠sz J:=by omega
      exact .inl ⟨rfl,kk,_,L',A,hL,YZ ak B aO,⟨Aqp O.size B.size,λj G hn=>(B.old j (Aqq G O.size) (λe=>by have:j<sz h:=G;omega)).trans (O.old j G hn)⟩⟩
   ·have ck:ZA 3 (obj F wb)=some (.map (some mb)):=by rw [m];rfl
    have l2:=Zp m;simp (maxDischargeDepth:=60) only [ZO,ZN,evC,Nqa,Nqb,Nqc,Nqd,Nqe,reduceCtorEq,m]
    have aP:(f (bkt k at_)).getD (.agg #[iv 0,iv 0,iv 0,iv 0,iv 0,iv 0])=c6V (w.p (bkt k at_)):=by
      rcases U (bkt k at_) (by omega) with e | ⟨e,ep⟩
      ·rw [e];rfl
      ·rw [e,ep];rfl
    have W:=hw.ok.p (bkt k at_);refine I.get (bkt k at_) ⟨w.p (bkt k at_),aP,?_⟩;rw [<- ag]
    have ho:Own (F.push (.cells [iv (w.p (bkt k at_)).1,iv (w.p (bkt k at_)).2.1,iv (w.p (bkt k at_)).2.2.1,iv (w.p (bkt k at_)).2.2.2.1,iv (w.p (bkt k at_)).2.2.2.2.1,iv (w.p (bkt k at_)).2.2.2.2.2.1].toArray 169 (0,0))) (sz F) ⟨some ⟨sz F,0,none⟩,1,1⟩ 6 (c6L (w.p (bkt k at_))) :=
      Own.newC (h:=F) (cells:=c6L (w.p (bkt k at_))) (t:=169) (size:=6) (n:=1) rfl (by decide)
    have aQ:Row F s 6 (c6L x):=(hs.congr λb o H _ aR=>u1.old b aR λe=>by
      have:=aD b (by simp [Sl.blk,H])
      omega)
    refine (aQ.ext (Ext.push _ _)).rd (Own.app ho (by rw [hl];rfl) (by simp [c6L,Zd6]) rfl (by rw [hl];show (1+1)*48<=140737488355328;decide) (by rw [hl];show 1+1<=140737488355328;decide) (by rw [YP,ZbG];omega) λt h4 aT bA aU bc=>?_)
    have e4:Ext F h4:=(Ext.push F _).then aU λj G=>by
      simp [Sl.blk] at G;subst G;exact Aqo _
    refine ZyT aT.row W Y λE e5=>?_;have X:=e4.trans e5;have c5:=Zj m X;have u5:Upd (λj=>j=wb\/j=mb) h E:=u1.trans (X.upd _);have av:ZlE E mb f n:=I.congr (ZG X I.lt);have pr:=W.two Y;have l5:=Zp c5;have ax:=av.lt;generalize ay:Zmq (w.p (bkt k at_)) x=d at pr ⊢
    have old:∀ i,bkt k at_ - k.cnt<i->i≠bkt k at_->f i=some (c6V ((w.add k at_ x).p i))\/(f i=none/\(w.add k at_ x).p i=z6):=λi hi D=>by
      have:(w.add k at_ x).p i=w.p i:=if_neg D;rw [this];exact U i (by omega)
    have new:(w.add k at_ x).p (bkt k at_)=d:=(if_pos rfl).trans ay;simp (maxDischargeDepth:=60) only [ZO,ZN,evC,Nqa,Nqb,Nqc,Nqd,Nqe,reduceCtorEq,c6L,c5,ZnJ l5,ZeS l5,ZEa l5,ZxG l5]
    have u6:Upd (λj=>j=wb\/j=mb) h (Zf.puts (E.push (.cells [iv 0,iv 0,iv 0,iv 0,iv 0,iv 0].toArray 169 (0,0))) (sz E) 0 [iv d.1,iv d.2.1,iv d.2.2.1,iv d.2.2.2.1,iv d.2.2.2.2.1,iv d.2.2.2.2.2.1]) :=
      ZfK (Zio u5) (.inl (by have:sz h<=sz E:=u5.size;omega))
    have az:ZlE (Zf.puts (E.push (.cells [iv 0,iv 0,iv 0,iv 0,iv 0,iv 0].toArray 169 (0,0))) (sz E) 0 [iv d.1,iv d.2.1,iv d.2.2.1,iv d.2.2.2.1,iv d.2.2.2.2.1,iv d.2.2.2.2.2.1]) mb f n :=
      av.congr ((Zj5 (by have:=ax;simp only [YP] at this;omega)).trans (Zj7 ax))
    have aV:obj (Zf.puts (E.push (.cells [iv 0,iv 0,iv 0,iv 0,iv 0,iv 0].toArray 169 (0,0))) (sz E) 0 [iv d.1,iv d.2.1,iv d.2.2.1,iv d.2.2.2.1,iv d.2.2.2.2.1,iv d.2.2.2.2.2.1]) wb=some (.cells [iv k.len,iv k.cnt,iv at_,.map (some mb)].toArray 242 (0,0)):=by
      simp (maxDischargeDepth:=60) only [ZO,ZN,evC,Nqa,Nqb,Nqc,Nqd,Nqe,reduceCtorEq,c5,ZeS l5]
    have aW:∀ c:C6,(bif c.1 ==0 then (bif c.2.1 ==0 then (bif c.2.2.1 ==0 then (bif c.2.2.2.1 ==0 then (bif c.2.2.2.2.1 ==0 then (bif c.2.2.2.2.2.1 ==0 then true else false) else false) else false) else false) else false) else false)=decide (c=z6):=λc=>by
      obtain ⟨c1,c2,c3,c4,c5,c6,u⟩:=c;simp only [z6,Prod.mk.injEq,Bool.cond_eq_ite,beq_iff_eq]
      by_cases h1:c1=0<;>by_cases F:c2=0<;>by_cases h3:c3=0<;>by_cases h4:c4=0<;>by_cases E:c5=0<;>by_cases h6:c6=0<;>simp [h1,F,h3,h4,E,h6]
    rw [aW d]
    rcases Decidable.em (d=z6) with h0 | h0
    ·refine Zi (by simp [h0]) ?_
     refine ⟨f,n,az,af,λi hi=>?_,u6⟩
     by_cases C:i=bkt k at_
     ·subst C
      rw [new,h0]
      rcases U (bkt k at_) (by omega) with e | ⟨e,ep⟩
      ·have:w.p (bkt k at_)=z6:=ZGu W Y (ay.trans h0)
       rw [this] at e;exact .inl e
      ·exact .inr ⟨e,rfl⟩
     ·exact old i hi C
    ·refine Zl (by simp [h0]) ?_
     refine az.put (bkt k at_) (c6V d) λh7 aX u7 z7=>⟨_,_,aX,λi v hv=>?_,λi hi=>?_,YZ aV u7 D,u6.trans (u7.mono λj _ G=> .inr G)⟩
     ·unfold upd at hv
      split at hv
      ·cases hv;exact ⟨d,rfl,pr⟩
      ·exact af i v hv
     ·by_cases C:i=bkt k at_
      ·subst C
       rw [ZdT,new];exact .inl rfl
      ·rw [Zh7 _ _ C]
       exact old i hi C
def ZqC (p:Int->C6) (cur:Int):Nat->Int->Int->Int
  | 0,_,acc=>acc
  | n+1,i,acc=>ZqC p cur n (i+1) (if i=cur then acc else Zij acc (p i).1)
def Zgz (p:Int->C6) (cur lo i:Int):Int:=ZqC p cur (i - lo).toNat lo 0
theorem Zpk (p:Int->C6) (cur:Int):∀ (n:Nat) (i acc:Int),ZqC p cur (n+1) i acc=if i+n=cur then ZqC p cur n i acc else Zij (ZqC p cur n i acc) (p (i+n)).1
  | 0,i,acc=>by simp [ZqC]
  | n+1,i,acc=>by
    have:=Zpk p cur n (i+1) (if i=cur then acc else Zij acc (p i).1);show ZqC p cur (n+1) (i+1) _=_;rw [this,show i+1+(n:Int)=i+((n+1:Nat):Int) from by omega];rfl
theorem ZkL (p:Int->C6) (cur:Int) {lo i:Int} (h:lo<=i):Zgz p cur lo (i+1)=if i=cur then Zgz p cur lo i else Zij (Zgz p cur lo i) (p i).1:=by
  unfold Zgz;rw [show (i+1 - lo).toNat=(i - lo).toNat+1 from by omega,Zpk,show lo+((i - lo).toNat:Int)=i from by omega]
theorem ZxE (p:Int->C6) (cur lo:Int):Zgz p cur lo lo=0:=by unfold Zgz;simp [ZqC]
theorem Zue {p:Int->C6} {cur:Int}:∀ (n:Nat) (i acc:Int),0<=acc->0<=ZqC p cur n i acc
  | 0,i,acc,h=>h
  | n+1,i,acc,h=>Zue n (i+1) _ (by split;exact h;rw [Zte];omega)
def Win.most (k:Wid) (w:Win) (at_:Int):Int:=Zgz w.p (bkt k at_) (loW k at_) (bkt k at_+1)
theorem ZpL {k:Wid} {h:Zf} {wb:Nat} {r:List Value} (a:obj h wb=some (.cells (iv k.len::iv k.cnt::r).toArray 242 (0,0))) {at_:Int} {K:Int->Zf->Prop} :
    ZP (some ⟨wb,0,none⟩) at_ K h=K (IntKind.wrap .i64 (Int.tdiv at_ k.wid)) h:=by
  unfold ZP ZaJ;have b:k.cnt≠0:=by have:=k.c0;omega
  have c:k.wid≠0:=by have:=k.w0;omega
  simp (maxDischargeDepth:=60) only [ZO,ZN,evC,Nqa,Nqb,Nqc,Nqd,Nqe,reduceCtorEq,a,k.e];simp [b,c]
theorem Zyw {k:Wid} {at_ i:Int} (h0:0<=i) (hi:i<=bkt k at_) (b:0<=at_) (a:at_<=1152921504606846976):IntKind.wrap .i64 (Int.tdiv (IntKind.wrap .i64 (i*k.wid)) k.wid)=i:=by
  have c:=k.w0;have h1:i*k.wid<=at_:=Int.le_trans (Int.mul_le_mul_of_nonneg_right hi (by omega)) (Int.ediv_mul_le at_ (by omega));have d:0<=i*k.wid:=Int.mul_nonneg h0 (by omega);have e:=ZkY (k:=k) b a;rw [Yr (n:=i*k.wid) (by omega) (by omega),Int.mul_tdiv_cancel _ (by omega),Yr (by omega) (by omega)]
theorem Zsl {k:Wid} {h:Zf} {wb mb:Nat} {w:Win} (hw:Zkh k h wb mb w) {at_:Int} {K:Int->Int->Zf->Prop}
    (z:∀ h',Ext h h'->K (if ZW w.last at_=0 then w.most k at_ else 0) (ZW w.last at_) h'):Zaa (some ⟨wb,0,none⟩) at_ K h:=by
  unfold Zaa Zds;have E:=Zp hw.cells;have F:=hw.mlt;simp (maxDischargeDepth:=60) only [ZO,ZN,evC,Nqa,Nqb,Nqc,Nqd,Nqe,reduceCtorEq];refine ZlK (hw.congr (by simp (maxDischargeDepth:=60) only [ZO,ZN,evC,Nqa,Nqb,Nqc,Nqd,Nqe,reduceCtorEq,ZeS E,ZnJ E]) (by simp (maxDischargeDepth:=60) only [ZO,ZN,evC,Nqa,Nqb,Nqc,Nqd,Nqe,reduceCtorEq,ZeS F,ZnJ F])) ?_
  rcases Decidable.em (ZW w.last at_=0) with he | he
  ·rw [if_pos he] at z
   rw [he] at z ⊢;obtain ⟨a0,G,U⟩:=Zey he;have O:=ZkY (k:=k) a0 G;simp (maxDischargeDepth:=60) only [ZO,ZN,evC,Nqa,Nqb,Nqc,Nqd,Nqe,reduceCtorEq,bne_self_eq_false,ZyA,Znu];intro r;have P:loW k at_<=bkt k at_+1:=by have:=k.c0;unfold loW;omega
   have J:0<=loW k at_:=by unfold loW;omega
   have L:=ZnJ E;have n30:=ZeS E;have Q:=ZnJ F;have n40:=ZeS F
   refine ZuA (w:=w) (at_:=at_) (wb:=wb) (mb:=mb) (hw.congr ?_ ?_) ?_ ?_ he (S:=λk=>k=sz h+2\/k=sz h+6) ?_ ?_ ?_ ?_ ?_
     (λi b=>obj b (sz h+6)=some (Zdp r .ready none)/\obj b (sz h+5)=some (.deferred (some []))/\obj b (sz h+2)=some (.cells [iv (Zgz w.p (bkt k at_) (loW k at_) i)].toArray 3 (0,0)) /\
       obj b (sz h)=some (.cells [.pointer (some ⟨wb,0,none⟩)].toArray 162 (0,0))/\obj b (sz h+1)=some (.cells [iv at_].toArray 3 (0,0))/\obj b wb=some (.cells [iv k.len,iv k.cnt,iv w.last,.map (some mb)].toArray 242 (0,0))/\Ext h b/\loW k at_<=i) (T1:=162) (T2:=3) ?_ ?_ ?_ ?_ ?_
   ·simp (maxDischargeDepth:=60) only [ZO,ZN,evC,Nqa,Nqb,Nqc,Nqd,Nqe,reduceCtorEq,L,n30]
   ·simp (maxDischargeDepth:=60) only [ZO,ZN,evC,Nqa,Nqb,Nqc,Nqd,Nqe,reduceCtorEq,Q,n40]
   ·simp (maxDischargeDepth:=60) only [ZO,ZN,evC,Nqa,Nqb,Nqc,Nqd,Nqe,reduceCtorEq]
   ·simp (maxDischargeDepth:=60) only [ZO,ZN,evC,Nqa,Nqb,Nqc,Nqd,Nqe,reduceCtorEq]
   ·intro k R
    simp (maxDischargeDepth:=60) only [ZO,ZN,evC,Nqa,Nqb,Nqc,Nqd,Nqe,reduceCtorEq];omega
   ·omega
   ·omega
   ·omega
   ·omega
   ·rintro i b h' ⟨c,m,d,f,s,t,u,x⟩ e
    exact ⟨Zj c e,Zj m e,Zj d e,Zj f e,Zj s e,Zj t e,u.trans e,x⟩
   ·rintro i b ⟨c,m,d,f,s,t,u,x⟩ T
    have A:Zgz w.p (bkt k at_) (loW k at_) (i+1)=Zgz w.p (bkt k at_) (loW k at_) i:=by
      rw [ZkL _ _ x,T];split
      ·rfl
      ·have:=Zue (p:=w.p) (cur:=bkt k at_) (i - loW k at_).toNat (loW k at_) 0 (by omega)
       rw [Zte];show max (Zgz _ _ _ _) 0=_;unfold Zgz;omega
    rw [A];exact ⟨c,m,d,f,s,t,u,by omega⟩
   ·rintro i b V H ⟨c,m,d,f,s,t,u,x⟩ hu B
    rw [Zrh];refine ⟨rfl,rfl,c,⟨((IntKind.wrap .i64 (i*k.wid),w.p i),()),rfl,?_⟩⟩;have M:=Zp c;have N:=Zp m;have W:=Zp d;have X:=Zp f;have a:sz h+6<sz b+1:=by omega
    have C:∀ j,j<=6->(sz h+j=sz b)=False/\(sz b=sz h+j)=False:=λj Y=>⟨eq_false (by omega),eq_false (by omega)⟩;have y:(sz h=sz b)=False:=eq_false (by omega);have g:(sz b=sz h)=False:=eq_false (by omega);have n:=C 1 (by omega);have o:=C 2 (by omega);have v:=C 6 (by omega);have mw:(wb=sz b)=False:=eq_false (by omega);have l:(wb=sz h+6)=False:=eq_false (by omega);simp (maxDischargeDepth:=60) only [ZO,ZN,evC,Nqa,Nqb,Nqc,Nqd,Nqe,reduceCtorEq,ZqX,Y1,Y9,c,d,f,s,y,g,n.1,n.2,o.1,o.2,v.1,v.2,c6L,a];refine (ZpL (k:=k) (r:=[iv w.last,.map (some mb)]) ?_).mpr ?_
    ·simp (maxDischargeDepth:=60) only [ZO,ZN,evC,Nqa,Nqb,Nqc,Nqd,Nqe,reduceCtorEq,Y1,Y9,t,mw,l,a]
    simp (maxDischargeDepth:=60) only [ZO,ZN,evC,Nqa,Nqb,Nqc,Nqd,Nqe,reduceCtorEq,Y1,Y9,c,d,f,s,y,g,n.1,n.2,o.1,o.2,v.1,v.2,c6L,a];refine (ZpL (k:=k) (r:=[iv w.last,.map (some mb)]) ?_).mpr ?_
    ·simp (maxDischargeDepth:=60) only [ZO,ZN,evC,Nqa,Nqb,Nqc,Nqd,Nqe,reduceCtorEq,Y1,Y9,t,mw,l,a]
    rw [ZtV a0 G,Zyw (by omega) H a0 G];refine ZfQ (λq=>?_) λq=>?_
    ·have A:Zgz w.p (bkt k at_) (loW k at_) (i+1)=Zij (Zgz w.p (bkt k at_) (loW k at_) i) (w.p i).1:=by rw [ZkL _ _ x,if_neg q]
     simp (maxDischargeDepth:=60) only [ZO,ZN,evC,Nqa,Nqb,Nqc,Nqd,Nqe,reduceCtorEq,Y1,Y9,c,m,d,f,s,t,mw,l,y,g,n.1,n.2,o.1,o.2,v.1,v.2,a];rw [<- A];have nm:(sz h=sz h+6)=False/\(sz h+1=sz h+6)=False:=⟨eq_false (by omega),eq_false (by omega)⟩;refine B _ ⟨?_,?_,?_,?_,?_,?_,?_,by omega⟩ ?_
     ·simp (maxDischargeDepth:=60) only [ZO,ZN,evC,Nqa,Nqb,Nqc,Nqd,Nqe,reduceCtorEq,Y1,Y9,a]
     ·have D:=C 5 (by omega)
      simp (maxDischargeDepth:=60) only [ZO,ZN,evC,Nqa,Nqb,Nqc,Nqd,Nqe,reduceCtorEq,Y1,Y9,a,m,D.1,D.2]
     ·simp (maxDischargeDepth:=60) only [ZO,ZN,evC,Nqa,Nqb,Nqc,Nqd,Nqe,reduceCtorEq,Y1,Y9,a,d,o.1,o.2]
     ·simp (maxDischargeDepth:=60) only [ZO,ZN,evC,Nqa,Nqb,Nqc,Nqd,Nqe,reduceCtorEq,Y1,Y9,a,f,y,g]
     ·simp (maxDischargeDepth:=60) only [ZO,ZN,evC,Nqa,Nqb,Nqc,Nqd,Nqe,reduceCtorEq,Y1,Y9,a,s,n.1,n.2]
     ·have I:(wb=sz h+2)=False:=eq_false (by omega)
      simp (maxDischargeDepth:=60) only [ZO,ZN,evC,Nqa,Nqb,Nqc,Nqd,Nqe,reduceCtorEq,Y1,Y9,a,t,mw,l,I]
     ·exact ZfX (Ztr (ZfX (ZbW (X5 u) (by omega)) (by omega)) (by omega)) (by omega)
     ·exact Zhx (ZwX (Zhx (ZfK (Zio (Upd.refl _ _)) (.inl (by omega))) (.inr (.inr rfl))) (.inr (.inl rfl))) (.inr (.inr rfl))
    ·have A:Zgz w.p (bkt k at_) (loW k at_) (i+1)=Zgz w.p (bkt k at_) (loW k at_) i:=by rw [ZkL _ _ x,if_pos q]
     simp (maxDischargeDepth:=60) only [ZO,ZN,evC,Nqa,Nqb,Nqc,Nqd,Nqe,reduceCtorEq,Y1,Y9,c,m,d,f,s,t,mw,l,y,g,n.1,n.2,o.1,o.2,v.1,v.2,a];refine B _ ⟨?_,?_,?_,?_,?_,?_,?_,by omega⟩ ?_
     ·simp (maxDischargeDepth:=60) only [ZO,ZN,evC,Nqa,Nqb,Nqc,Nqd,Nqe,reduceCtorEq,Y1,Y9,a]
     ·have D:=C 5 (by omega)
      simp (maxDischargeDepth:=60) only [ZO,ZN,evC,Nqa,Nqb,Nqc,Nqd,Nqe,reduceCtorEq,Y1,Y9,a,m,D.1,D.2]
     ·simp (maxDischargeDepth:=60) only [ZO,ZN,evC,Nqa,Nqb,Nqc,Nqd,Nqe,reduceCtorEq,Y1,Y9,a,d,o.1,o.2,A]
     ·simp (maxDischargeDepth:=60) only [ZO,ZN,evC,Nqa,Nqb,Nqc,Nqd,Nqe,reduceCtorEq,Y1,Y9,a,f,y,g]
     ·simp (maxDischargeDepth:=60) only [ZO,ZN,evC,Nqa,Nqb,Nqc,Nqd,Nqe,reduceCtorEq,Y1,Y9,a,s,n.1,n.2]
     ·simp (maxDischargeDepth:=60) only [ZO,ZN,evC,Nqa,Nqb,Nqc,Nqd,Nqe,reduceCtorEq,Y1,Y9,a,t,mw,l]
     ·exact ZfX (ZfX (ZbW (X5 u) (by omega)) (by omega)) (by omega)
     ·exact Zhx (Zhx (ZfK (Zio (Upd.refl _ _)) (.inl (by omega))) (.inr (.inr rfl))) (.inr (.inr rfl))
   ·simp (maxDischargeDepth:=60) only [ZO,ZN,evC,Nqa,Nqb,Nqc,Nqd,Nqe,reduceCtorEq,ZxE,Int.le_refl,hw.cells,L,n30]
   ·rintro b ⟨c,m,d,f,s,t,u,x⟩ hu
    refine ⟨.ready,none,by decide,c,?_⟩;have M:=Zp c;have N:=Zp m;rw [ZnR];simp (maxDischargeDepth:=60) only [ZO,ZN,evC,Nqa,Nqb,Nqc,Nqd,Nqe,reduceCtorEq,Y1,Y9,Zqj,c,m,d,f,M,N];exact z _ (ZfX (ZfX u (by omega)) (by omega))
  ·have:(ZW w.last at_ !=0)=true:=by simpa using he
   rw [this];rw [if_neg he] at z;simp (maxDischargeDepth:=60) only [ZO,ZN,evC,Nqa,Nqb,Nqc,Nqd,Nqe,reduceCtorEq];exact z _ (by simp (maxDischargeDepth:=60) only [ZO,ZN,evC,Nqa,Nqb,Nqc,Nqd,Nqe,reduceCtorEq])
theorem Ztg {h:Zf} {mb:Nat} {f:Int->Option Value} {n:Nat} (b:ZlE h mb f n) {K:Option Nat->Zf->Prop} (d:∀ h',ZlE h' (sz h) f n->Ext h h'->sz h'=sz h+1->K (some (sz h)) h'):ZR (some mb) K h:=by
  unfold ZR Yz;obtain ⟨es,c,e,a⟩:=b;exact Zt ⟨240,mb,es,c,rfl,e,_,rfl,_,rfl,d (h.push (.map es c)) ⟨es,c,Zc8,a⟩ (Ext.push _ _) ZbG⟩
theorem ZpU {k:Wid} {h:Zf} {wb mb:Nat} {w:Win} (hw:Zkh k h wb mb w) {K:Option Addr->Zf->Prop} (a:∀ h',Zkh k h' (sz h) (sz h+1) w->Ext h h'->sz h'=sz h+2->K (some ⟨sz h,0,none⟩) h'):Zbi (some ⟨wb,0,none⟩) K h:=by
  unfold Zbi Zdt;have t:=Zp hw.cells;have u:=hw.mlt;have c:=hw.cells;refine Zt (Zg (rI (Zb c rfl) (rI (Zb c rfl) (rI (Zb c rfl) (rM (Zb c rfl) (ZI λh1 c1 m o=>?_))))));refine Zbb c1 λg p q v=>?_;have d:Ext h g:=m.then q λk a=>by simp only [a,YP];exact Aqo _
  have e:=Zj c d;refine Zg (rM (Zb e rfl) ?_);obtain ⟨f,n,hm,r⟩:=hw.map;refine Ztg (hm.congr (ZG d hm.lt)) λh3 b i z3=>?_;have s:=Zj p i;refine Zbg s (show 3<4 by decide) rfl λx j l z4=>?_;have zz:sz g=sz h+1:=by have:h1.size=h.size+1:=o;simp only [YP] at this;omega
  rw [zz] at b z3;refine a _ ⟨hw.ok,?_,f,n,b.congr (l.old _ (by simp only [YP];omega) (by simp only [YP];omega)),r⟩ ((d.trans i).then l λk a=>by simp only [a,YP];exact Aqo _) (by omega);rw [zz] at j;exact j
structure Node where
  last:Int
  s:Int->C6
  d:Int->C6
  fl:Int
def Node.zero:Node:=⟨0,λ_=>z6,λ_=>z6,0⟩
structure Zii (h:Zf) (nb a ma b mb:Nat) (n:Node):Prop where
  cells:obj h nb=some (.cells [.pointer (some ⟨a,0,none⟩),.pointer (some ⟨b,0,none⟩),iv n.fl].toArray 179 (0,0))
  ws:Zkh .sec h a ma ⟨n.last,n.s⟩
  wd:Zkh .dbl h b mb ⟨n.last,n.d⟩
  fl:0<=n.fl/\n.fl<=4096
def Zgg (h:Zf) (q:Nat) (n:Node):Prop:=Zii h (q+4) (q+1) q (q+3) (q+2) n
theorem Zgg.congr {h h':Zf} {q:Nat} {n:Node} (a:Zgg h q n) (he:∀ j,q<=j->j<q+5->obj h' j=obj h j):Zgg h' q n :=
  ⟨(he _ (by omega) (by omega)).trans a.cells,a.ws.congr (he _ (by omega) (by omega)) (he _ (by omega) (by omega)),a.wd.congr (he _ (by omega) (by omega)) (he _ (by omega) (by omega)),a.fl⟩
theorem Zgg.lt {h:Zf} {q:Nat} {n:Node} (a:Zgg h q n):q+4<sz h:=Zp a.cells
theorem Zgg.ext {h h':Zf} {q:Nat} {n:Node} (a:Zgg h q n) (he:Ext h h'):Zgg h' q n:=a.congr λj _ b=>ZG he (by have:=a.lt;omega)
theorem Zv7 {h:Zf} {K:Option Addr->Zf->Prop} (g:∀ h',Zgg h' (sz h) Node.zero->Ext h h'->sz h'=sz h+5->K (some ⟨sz h+4,0,none⟩) h'):Zj9 K h:=by
  unfold Zj9 Zmf;refine Zg5 (k:= .sec) (by decide) (by decide) λh1 w1 i d=>Za ?_;refine Zg5 (k:= .dbl) (by decide) (by decide) λe f c j=>Za (ZI λh3 l b z3=>?_);have m:sz h3=sz e+1:=z3;have a:obj h3 (sz e)=_:=l;simp only [YP];rw [d] at f a;rw [j,d] at a ⊢;refine g h3 ⟨?_,(w1.congr (ZG c (by omega)) (ZG c (by omega))).congr (ZG b (by omega)) (ZG b (by omega)),f.congr (ZG b (by omega)) (ZG b (by omega)),by decide⟩ ((i.trans c).trans b) (by omega);exact a
theorem Zii.ext {h h':Zf} {d a e b mb:Nat} {n:Node} (c:Zii h d a e b mb n) (he:Ext h h'):Zii h' d a e b mb n :=
  ⟨Zj c.cells he,c.ws.congr (ZG he (Zp c.ws.cells)) (ZG he c.ws.mlt),c.wd.congr (ZG he (Zp c.wd.cells)) (ZG he c.wd.mlt),c.fl⟩
def Node.sum (n:Node) (at_:Int):C6:=if ZW n.last at_=0 then Win.sum .sec ⟨n.last,n.s⟩ at_ else z6
theorem ZyP {h:Zf} {f a j b mb:Nat} {n:Node} (l:Zii h f a j b mb n) {at_:Int} {K:C6->Int->Zf->Prop} (e:∀ h',Ext h h'->K (n.sum at_) (ZW n.last at_) h'):Xw (some ⟨f,0,none⟩) at_ K h:=by
  unfold Xw Ze6;refine ZI λh1 c1 g q=>Za (Zt (Zg ?_));have d:=l.ext g;refine rP (Zb d.cells rfl) (Zq6 d.ws λr i=>?_);have m:=Zj c1 i;refine Zbb m λh3 c o z3=>Za ?_;have p:Ext h h3:=(g.trans i).then o λk e=>by subst e;exact Aqo _
  exact rI (Zb c rfl) (rI (Zb c rfl) (rI (Zb c rfl) (rI (Zb c rfl) (rI (Zb c rfl) (rI (Zb c rfl) (e h3 p))))))
def Node.past (n:Node) (at_:Int):Int:=if ZW n.last at_=0 then Win.most .dbl ⟨n.last,n.d⟩ at_ else 0
def Node.most (n:Node) (at_:Int):Int:=if ZW n.last at_=0 then Win.most .sec ⟨n.last,n.s⟩ at_ else 0
theorem ZyN {h:Zf} {c a e b mb:Nat} {n:Node} (d:Zii h c a e b mb n) {at_:Int} {K:Int->Int->Zf->Prop} (f:∀ h',Ext h h'->K (n.past at_) (ZW n.last at_) h'):ZaT (some ⟨c,0,none⟩) at_ K h:=by
  unfold ZaT Zd3;exact Za (Za (Zt (Zg (rP (Zb d.cells rfl) (Zsl d.wd λh' g=>Za (Za (f h' g)))))))
theorem Zwb {h:Zf} {c a e b mb:Nat} {n:Node} (d:Zii h c a e b mb n) {at_:Int} {K:Int->Int->Zf->Prop} (f:∀ h',Ext h h'->K (n.most at_) (ZW n.last at_) h'):ZaU (some ⟨c,0,none⟩) at_ K h:=by
  unfold ZaU Zd4;exact Za (Za (Zt (Zg (rP (Zb d.cells rfl) (Zsl d.ws λh' g=>Za (Za (f h' g)))))))
theorem Zk1 {h:Zf} {c a d b mb:Nat} {n:Node} (e:Zii h c a d b mb n) {K:Int->Zf->Prop} (f:K n.fl h):YM (some ⟨c,0,none⟩) K h:=by
  unfold YM ZcJ;exact Za (Zt (Zg (rI (Zb e.cells rfl) (Za f))))
theorem ZjZ {K:Int->Zf->Prop} {h:Zf} (a:K 0 h):YM none K h:=by
  unfold YM ZcJ;exact Za (YC (Za a))
theorem Zwc {h:Zf} {j a o b mb:Nat} {n:Node} (e:Zii h j a o b mb n) {K:Option Addr->Zf->Prop} (p:∀ h',Zii h' (sz h+4) (sz h) (sz h+1) (sz h+2) (sz h+3) n->Ext h h'->sz h'=sz h+5->K (some ⟨sz h+4,0,none⟩) h'):ZaW (some ⟨j,0,none⟩) K h:=by
  unfold ZaW Zd5;refine Zt (Zg (Zg (Zg (rP (Zb e.cells rfl) (rP (Zb e.cells rfl) (rI (Zb e.cells rfl) ?_))))));refine ZpU e.ws λh1 w1 k l=>?_;have c:=e.ext k;refine ⟨ZZ (Zb c.cells rfl),ZZ (Zb c.cells rfl),ZpU c.wd λq m i r=>?_⟩;have g:=c.ext i;refine ⟨ZZ (Zb g.cells rfl),ZI λh3 s f z3=>⟨ZZ (Zb (g.ext f).cells rfl),?_⟩⟩;simp only [YP] at z3 ⊢;have d:obj h3 (sz q)=_:=s;rw [l] at m d;rw [r,l] at d ⊢;exact p h3 ⟨d,(w1.congr (ZG i (by omega)) (ZG i (by omega))).congr (ZG f (by omega)) (ZG f (by omega)),m.congr (ZG f (by omega)) (ZG f (by omega)),e.fl⟩ ((k.trans i).trans f) (by omega)
theorem ZtH {h:Zf} {K:Option Addr->Zf->Prop} (a:K none h):ZaW none K h:=by
  unfold ZaW Zd5;exact YC a
def Node.add (n:Node) (at_:Int) (x:C6):Node:=⟨at_,(Win.add .sec ⟨n.last,n.s⟩ at_ x).p,(Win.add .dbl ⟨n.last,n.d⟩ at_ x).p,n.fl⟩
theorem ZnA {h:Zf} {q:Nat} {n:Node} (c:Zgg h q n) {at_:Int} (he:ZW n.last at_=0) {x:C6} (l:Rt x) {s:Sl} (hs:Row h s 6 (c6L x)) (a:∀ b,s.blk=some b->b<q\/q+5<=b) {K:Zf->Prop}
    (u:∀ h',Zgg h' q (n.add at_ x)->Upd (λj=>q<=j/\j<q+5) h h'->K h'):ZaS (some ⟨q+4,0,none⟩) at_ s K h:=by
  unfold ZaS Zgk;refine Zg (rP (Zb c.cells rfl) ?_);refine ZlG c.ws l hs (λb d=>by have:=a b d;omega) λh1 w1 f=>?_;have lt:=c.lt;rw [if_pos he] at w1;have g:∀ j,j<sz h->j≠q+1->j≠q->obj h1 j=obj h j:=λj e v w=>f.old j e (by omega);have m:obj h1 (q+4)=_:=(g _ (by omega) (by omega) (by omega)).trans c.cells;refine Zg (rP (Zb m rfl) ?_);have i:Row h1 s 6 (c6L x):=hs.congr λb o d _ hl=>f.old b hl (by have:=a b (by simp [Sl.blk,d]);omega);have y:=f.size;refine ZlG (c.wd.congr (g _ (by omega) (by omega) (by omega)) (g _ (by omega) (by omega) (by omega))) l i (λb d=>by have:=a b d;omega) λp r t=>?_;rw [if_pos he] at r;have zz:sz h<=sz h1:=y;have k:∀ j,j<sz h->j≠q+3->j≠q+2->obj p j=obj h1 j:=λj e v w=>t.old j (Aqq e zz) (by omega);refine u p ⟨(k _ (by omega) (by omega) (by omega)).trans m,w1.congr (k _ (by omega) (by omega) (by omega)) (k _ (by omega) (by omega) (by omega)),r,c.fl⟩ ?_;exact (f.mono λj _ e=>by omega).trans (t.mono λj _ e=>by omega)
def Zam (last at_ c:Int):Int:=if at_<0\/1152921504606846976<at_ then 2 else if c<1\/1099511627776<c then 2 else if at_<last then 7 else 0
theorem Zuh {last at_ c:Int} (h:Zam last at_ c=0):ZW last at_=0/\1<=c/\c<=1099511627776:=by
  unfold Zam at h;unfold ZW;split at h
  ·cases h
  ·split at h
   ·cases h
   ·split at h
    ·cases h
    ·rw [if_neg (by omega),if_neg (by omega),if_neg (by omega)]
     omega
theorem ZlS {at_:Int} {K:Bool->Zf->Prop} {h:Zf} (a:K (inB at_ 0 1152921504606846976) h):ZeC at_ K h:=by
  unfold ZeC ZiI;unfold inB at a;exact ⟨λe=>by rw [e] at a;exact Zd a,λe=>by rw [e] at a;exact a⟩
theorem Zpp {h:Zf} {k a m b mb:Nat} {n:Node} (l:Zii h k a m b mb n) {at_ c:Int} {s:Sl} (hs:Row h s 1 [iv c]) {K:Int->Zf->Prop} (d:K (Zam n.last at_ c) h):XC (some ⟨k,0,none⟩) at_ s K h:=by
  unfold XC Zd2;refine Za (Zt (ZlS ?_));have hl:s.len=1:=by have:=hs.len;simp at this;omega
  by_cases f:at_<0\/1152921504606846976<at_
  ·have:inB at_ 0 1152921504606846976=false:=by unfold inB;simp;omega
   rw [this];unfold Zam at d;rw [if_pos f] at d;exact YC (Za d)
  have:inB at_ 0 1152921504606846976=true:=by unfold inB;simp;omega
  rw [this];refine Zt (Zbf (λt h'=>∃ i:Nat,t=((i:Int),())/\h'=h/\(i=0\/(i=1/\¬ (c<1\/1099511627776<c)))) (λt _=>(1 - t.1).toNat) ⟨0,rfl,rfl,.inl rfl⟩ ?_);rintro _ h' ⟨i,rfl,p,hi⟩ Q r;dsimp only;subst p;refine Zn (λq=>?_) λq=>?_
  ·have g:i=0:=by omega
   subst g;refine hs.idx (n:=0) (v:=iv c) rfl rfl λb o _ u=>⟨c,u,Za ?_⟩;unfold Zam at d;rw [if_neg f] at d;refine Zn (λw=>Za ?_) λw=>Zn (λe=>Za ?_) λe=>r _ _ ⟨1,rfl,rfl,.inr ⟨rfl,by omega⟩⟩ ?_
   ·rw [if_pos (by omega)] at d;exact d
   ·rw [if_pos (by omega)] at d;exact d
   ·show (1 - (IntKind.wrap .i64 (((0:Nat):Int)+1))).toNat<(1 - ((0:Nat):Int)).toNat
    decide
  ·have j:¬ (c<1\/1099511627776<c):=by omega
   refine Zg (rP (Zb l.cells rfl) ?_);unfold Zbh Zbp;refine Za (Zt (Zg (rI (Zb l.ws.cells rfl) (Za ?_))));unfold Zam at d;rw [if_neg f,if_neg j] at d;refine Zn (λe=>Za ?_) λe=>Za ?_
   ·rw [if_pos e] at d;exact d
   ·rw [if_neg e] at d;exact d
abbrev inN (q:Nat):Nat->Prop:=λj=>q<=j/\j<q+5
def ZoH (c:Int):C6:=(c,0,0,0,0,0,())
def ZlA (c:Int):C6:=(0,c,0,0,0,0,())
theorem Rt.pass {c:Int} (h:1<=c/\c<=1099511627776):Rt (ZoH c):=⟨by simp only [ZoH];omega,by simp [ZoH],by simp [ZoH],by simp [ZoH],by simp [ZoH],by simp [ZoH],.inr rfl⟩
theorem Rt.block {c:Int} (h:1<=c/\c<=1099511627776):Rt (ZlA c):=⟨by simp [ZlA],by simp only [ZlA];omega,by simp [ZlA],by simp [ZlA],by simp [ZlA],by simp [ZlA],.inr rfl⟩
def ZDX (n:Node) (at_ c:Int):Int:=if Zam n.last at_ c=0 then (if 4096<=n.fl then 3 else 0) else Zam n.last at_ c
def Node.passed (n:Node) (at_ c:Int):Node:=if ZDX n at_ c=0 then ⟨at_,(n.add at_ (ZoH c)).s,(n.add at_ (ZoH c)).d,n.fl+1⟩ else n
def Node.blocked (n:Node) (at_ c:Int):Node:=if Zam n.last at_ c=0 then n.add at_ (ZlA c) else n
theorem ZGr {h h1 a:Zf} {q:Nat} (e:Ext h h1) (u:Upd (inN q) h1 a):Upd (inN q) h a:=(e.upd _).trans u
theorem ZOO {h h1:Zf} {s:Sl} {c:Int} (hs:Row h s 1 [iv c]) (e:Ext h h1) {K:Nat->Nat->Prop} {i:Int} (hi:i=((0:Nat):Int)) {L:Nat} (a:s.len=L) (d:∀ b o,h1.cell b o=some (iv c)->K b o):YS s.ptr L i 1 K :=
  a▸(hs.ext e).idx (n:=0) (v:=iv c) hi rfl λb o _ f=>d b (o+0) f
theorem Zwa {h:Zf} {q:Nat} {n:Node} (d:Zgg h q n) {at_ c:Int} {s:Sl} (hs:Row h s 1 [iv c]) {K:Int->Zf->Prop}
    (a:∀ h',Zgg h' q (n.passed at_ c)->Upd (inN q) h h'->K (ZDX n at_ c) h'):ZdX (some ⟨q+4,0,none⟩) at_ s K h:=by
  unfold ZdX Zgl;have hl:s.len=1:=by have:=hs.len;simp at this;omega
  refine Za (Zpp d hs (Za ?_));unfold Node.passed at a;unfold ZDX at a
  by_cases he:Zam n.last at_ c=0
  case neg =>
    rw [if_neg he,if_neg he] at a;exact Zl (by simpa using he) (Za (a h d (Upd.refl _ _)))
  rw [if_pos he] at a;rw [he];have M:=d.fl;refine Zt (Zg (rI (Zb d.cells rfl) ?_));rw [Yr (n:=4096 - n.fl) (by omega) (by omega),hl];refine Zn (λp=>Za ?_) λp=>?_
  ·have r:4096<=n.fl:=by have:((1:Nat):Int)>4096 - n.fl:=p;omega
   rw [if_pos r,if_neg (by decide)] at a;exact a h d (Upd.refl _ _)
  have r:¬ 4096<=n.fl:=λN=>p (by show ((1:Nat):Int)>_;omega);rw [if_neg r,if_pos rfl] at a;obtain ⟨hw,E⟩:=Zuh he;refine Zbf (λt h'=>Ext h h'/\((t=(⟨none,0,0⟩,0,())/\h'=h)\/(t.2.1=1/\Own h' (sz h) t.1 6 (c6L (ZoH c))))) (λt _=>(1 - t.2.1).toNat) ⟨Ext.refl _,.inl ⟨rfl,rfl⟩⟩ ?_;rintro ⟨l,i,u⟩ h' ⟨A,⟨g,F⟩ | ⟨g,ho⟩⟩ Q G
  ·injection g with v e
   injection e with e H;subst v;subst e;subst F;dsimp only;refine YC (ZOO hs (Ext.refl _) rfl hl λb o w=>⟨c,w,Za (ZI λh1 c1 B O=>(Zj4 c1 rfl).rd ?_)⟩);refine (Own.nil h1 (sz h') 6).app (n:=1) rfl (by simp [Zd6]) rfl (by decide) (by decide) B.size λP C I _ x _=>G _ _ ⟨B.then x λk a=>(by simp [Sl.blk] at a),.inr ⟨rfl,I⟩⟩ (show (1 - IntKind.wrap .i64 (0+1)).toNat<(1 - (0:Int)).toNat by decide)
  ·dsimp only at g ho ⊢
   subst g;refine Zt ?_;have y:=d.ext A;have lt:=d.lt;refine ZnA y hw (Rt.pass E) ho.row (λb w=>by have:=(ho.lt w).1;omega) λC f x=>?_;refine Zg (rI (Zb f.cells rfl) (Zg (Zbg f.cells (show 0+2<3 by decide) rfl λh3 J D z3=>Za (a h3 ?_ ?_))))
   ·have R:=f
    have m:∀ j,j≠q+4->j<q+5->obj h3 j=obj C j:=λj z L=>D.old j (Aqq (show j<q+5 by omega) (by have:=f.lt;simp only [YP];omega)) z;refine ⟨?_,f.ws.congr (m _ (by omega) (by omega)) (m _ (by omega) (by omega)),f.wd.congr (m _ (by omega) (by omega)) (m _ (by omega) (by omega)),by show 0<=n.fl+1/\n.fl+1<=4096;omega⟩;rw [J];show some (Obj.cells [_,_,iv (IntKind.wrap .i64 (n.fl+((1:Nat):Int)))].toArray _ _)=_;rw [Yr (n:=n.fl+((1:Nat):Int)) (by omega) (by omega)];rfl
   ·exact (ZGr A x).trans (D.mono λj _ z=>by subst z;exact ⟨by omega,by omega⟩)
theorem ZtI {h:Zf} {q:Nat} {n:Node} (e:Zgg h q n) {at_ c:Int} {s:Sl} (hs:Row h s 1 [iv c]) {K:Int->Zf->Prop}
    (a:∀ h',Zgg h' q (n.blocked at_ c)->Upd (inN q) h h'->K (Zam n.last at_ c) h'):Zdb (some ⟨q+4,0,none⟩) at_ s K h:=by
  unfold Zdb Zfx;have hl:s.len=1:=by have:=hs.len;simp at this;omega
  refine Za (Zpp e hs (Za ?_));unfold Node.blocked at a
  by_cases he:Zam n.last at_ c=0
  case neg =>
    rw [if_neg he] at a;exact Zl (by simpa using he) (Za (a h e (Upd.refl _ _)))
  rw [if_pos he] at a;rw [he] at a ⊢;refine Zt ?_;rw [hl];obtain ⟨hw,x⟩:=Zuh he;refine Zbf (λt h'=>Ext h h'/\((t=(⟨none,0,0⟩,0,())/\h'=h)\/(t.2.1=1/\Own h' (sz h) t.1 6 (c6L (ZlA c))))) (λt _=>(1 - t.2.1).toNat) ⟨Ext.refl _,.inl ⟨rfl,rfl⟩⟩ ?_;rintro ⟨l,i,u⟩ h' ⟨r,⟨f,y⟩ | ⟨f,ho⟩⟩ Q z
  ·injection f with g d
   injection d with d A;subst g;subst d;subst y;dsimp only;refine YC (ZOO hs (Ext.refl _) rfl hl λb o j=>⟨c,j,Za (ZI λh1 c1 v D=>(Zj4 c1 rfl).rd ?_)⟩);refine (Own.nil h1 (sz h') 6).app (n:=1) rfl (by simp [Zd6]) rfl (by decide) (by decide) v.size λE w B _ m _=>z _ _ ⟨v.then m λk a=>(by simp [Sl.blk] at a),.inr ⟨rfl,B⟩⟩ (show (1 - IntKind.wrap .i64 (0+1)).toNat<(1 - (0:Int)).toNat by decide)
  ·dsimp only at f ho ⊢
   subst f;refine Zt ?_;have p:=e.ext r;have lt:=e.lt;exact ZnA p hw (Rt.block x) ho.row (λb j=>by have:=(ho.lt j).1;omega) λw C m=>Za (a w C (ZGr r m))
def Zof (rt:Int) (failed:Bool):C6:=(0,0,1,(if failed then 1 else 0),rt,rt,())
theorem Rt.done {rt:Int} {f:Bool} (h:0<=rt/\rt<=1152921504606846976):Rt (Zof rt f):=by
  refine ⟨by simp [Zof],by simp [Zof],by simp [Zof],?_,by simp only [Zof];omega,by simp only [Zof];omega,.inl (by simp [Zof])⟩;simp only [Zof];cases f<;>decide
def doneE (n:Node) (at_ rt:Int):Int :=
  if ZW n.last at_=2 then 2 else if ¬ (0<=rt/\rt<=1152921504606846976) then 2 else if ZW n.last at_≠0 then ZW n.last at_ else if n.fl=0 then 4 else 0
def Node.done (n:Node) (at_ rt:Int) (f:Bool):Node:=if doneE n at_ rt=0 then ⟨at_,(n.add at_ (Zof rt f)).s,(n.add at_ (Zof rt f)).d,n.fl - 1⟩ else n
theorem ZvE {h:Zf} {f a i b mb:Nat} {n:Node} (g:Zii h f a i b mb n) {at_:Int} {K:Int->Zf->Prop} (c:K (ZW n.last at_) h):XC (some ⟨f,0,none⟩) at_ ⟨none,0,0⟩ K h:=by
  unfold XC Zd2;refine Za (Zt (ZlS ?_));unfold ZW at c
  by_cases d:at_<0\/1152921504606846976<at_
  ·have:inB at_ 0 1152921504606846976=false:=by unfold inB;simp;omega
   rw [this];refine YC (Za ?_)
   rcases d with d | d
   ·rw [if_pos d] at c;exact c
   ·rw [if_neg (by omega),if_pos d] at c;exact c
  have:inB at_ 0 1152921504606846976=true:=by unfold inB;simp;omega
  rw [this];refine Zt (Zbf (λt h'=>t=(0,())/\h'=h) (λt _=>0) ⟨rfl,rfl⟩ ?_);rintro _ h' ⟨rfl,j⟩ Q k;dsimp only;subst j;refine Zt ?_;refine Zg (rP (Zb g.cells rfl) ?_);unfold Zbh Zbp;refine Za (Zt (Zg (rI (Zb g.ws.cells rfl) (Za ?_))));rw [if_neg (by omega),if_neg (by omega)] at c;refine Zn (λe=>Za ?_) λe=>Za ?_
  ·rw [if_pos e] at c;exact c
  ·rw [if_neg e] at c;exact c
theorem Zwd {h:Zf} {q:Nat} {n:Node} (g:Zgg h q n) {at_ rt:Int} {f:Bool} {K:Int->Zf->Prop}
    (a:∀ h',Zgg h' q (n.done at_ rt f)->Upd (inN q) h h'->K (doneE n at_ rt) h'):ZdY (some ⟨q+4,0,none⟩) at_ rt f K h:=by
  unfold ZdY Zgm
  have no:∀ e,e≠0->doneE n at_ rt=e->K e h:=λe h1 p=>by
    have:=a h (by unfold Node.done;rw [if_neg (by rw [p];exact h1)];exact g) (Upd.refl _ _);rwa [p] at this
  refine Za (ZvE g (Za (Zd (Zt ?_))));refine Z5 (λi=>Za ?_) λi=>ZlS ?_
  ·exact no 2 (by decide) (by unfold doneE;rw [if_pos i])
  by_cases m:0<=rt/\rt<=1152921504606846976
  case neg =>
    have:inB rt 0 1152921504606846976=false:=by unfold inB;simp;omega
    rw [this];exact Zd (YC (Za (no 2 (by decide) (by unfold doneE;rw [if_neg i,if_pos m]))))
  have:inB rt 0 1152921504606846976=true:=by unfold inB;simp;omega
  rw [this];refine Zd (Zt (Zd (ZfQ (λl=>Za ?_) λl=>?_)))
  ·exact no _ l (by unfold doneE;rw [if_neg i,if_neg (λc=>c m),if_pos l])
  refine Zg (rI (Zb g.cells rfl) (Zd (Z5 (λs=>Za ?_) λs=>?_)))
  ·exact no 4 (by decide) (by unfold doneE;rw [if_neg i,if_neg (λc=>c m),if_neg (λc=>c l),if_pos s])
  have ok:doneE n at_ rt=0:=by unfold doneE;rw [if_neg i,if_neg (λc=>c m),if_neg (λc=>c l),if_neg s]
  rw [ok] at a;unfold Node.done at a;rw [if_pos ok] at a;have M:=g.fl;have lt:=g.lt;refine ZI λh1 c1 C N=>Zbb c1 λp v D O=>?_;have w:Ext h p:=C.then D λk a=>by subst a;exact Aqo _
  refine Zlw (λ_ h'=>Ext h h'/\obj h' (sz h)=some (.cells (c6L (Zof rt f)).toArray 169 (0,0))) ?_ ?_
  ·rintro _ h3 ⟨x,d⟩
   refine rI (Zb d rfl) (rI (Zb d rfl) (rI (Zb d rfl) (rI (Zb d rfl) (rI (Zb d rfl) (rI (Zb d rfl) (ZI λP E F z4=>?_))))));have o:=x.trans F;have t:q+5<=sz h3:=by have:=(g.ext x).lt;omega
   refine ZnA (g.ext o) l (Rt.done m) (Zj4 E rfl) (λb y=>by simp [Sl.blk] at y;subst y;exact .inr t) λG n5 H=>?_;refine Zg (rI (Zb n5.cells rfl) (Zg (Zbg n5.cells (show 0+2<3 by decide) rfl λz I A z6=>Za (a z ?_ ?_))))
   ·have r:∀ j,j≠q+4->j<q+5->obj z j=obj G j:=λj u J=>A.old j (Aqq (show j<q+5 by omega) (by have:=n5.lt;simp only [YP];omega)) u
    refine ⟨?_,n5.ws.congr (r _ (by omega) (by omega)) (r _ (by omega) (by omega)),n5.wd.congr (r _ (by omega) (by omega)) (r _ (by omega) (by omega)),by show 0<=n.fl - 1/\n.fl - 1<=4096;omega⟩;rw [I];show some (Obj.cells [_,_,iv (IntKind.wrap .i64 (n.fl - 1))].toArray _ _)=_;rw [Yr (n:=n.fl - 1) (by omega) (by omega)]
   ·exact (ZGr o H).trans (A.mono λj _ u=>by subst u;exact ⟨by omega,by omega⟩)
  ·intro Q B
   cases f
   ·exact Zt (B _ _ ⟨w,v⟩)
   ·refine YC (Zbg v (show 0+3<6 by decide) rfl λh3 d L z3=>B _ _ ⟨w.then L λk a=>by subst a;exact Aqo _,d⟩)
theorem Zrp {a b:ByteArray}:Yp a b=true↔a=b:=by
  unfold Yp;rw [ByteArray.toList_eq,ByteArray.toList_eq,beq_iff_eq];constructor
  ·intro h
   cases a;cases b;congr;exact Array.toList_inj.1 h
  ·rintro rfl;rfl
theorem Zg1 (a b:ByteArray):Yp a b=decide (a=b):=by
  by_cases h:a=b
  ·rw [decide_eq_true h];exact Zrp.2 h
  ·rw [decide_eq_false h]
   cases q:Yp a b with
   | false=>rfl
   | true=>exact absurd (Zrp.1 q) h
abbrev K4:=Int × ByteArray × ByteArray × ByteArray × Unit
def k4L (k:K4):List Value:=[.int .u8 k.1,.string k.2.1,.string k.2.2.1,.string k.2.2.2.1]
theorem Zcj (k:K4):(k4L k).length=4:=rfl
structure Zq8 (h:Zf) (mb:Nat) (f:K4->Option Value) (n:Nat):Prop where
  is:∃ es clk,obj h mb=some (.map es clk)/\es.size=n/\(∀ x,x∈es.toList->∃ k:K4,x.key = .agg (k4L k).toArray)/\∀ k,(Zhp (k4L k) es.toList 0).map (·.2)=f k
theorem Zq8.lt {h:Zf} {mb n:Nat} {f:K4->Option Value} (a:Zq8 h mb f n):mb<sz h:=by
  obtain ⟨es,b,h1,_⟩:=a.is;exact Zp h1
theorem Zq8.congr {h h':Zf} {mb n:Nat} {f:K4->Option Value} (b:Zq8 h mb f n) (he:obj h' mb=obj h mb):Zq8 h' mb f n:=by
  obtain ⟨es,a,h1,c⟩:=b.is;exact ⟨es,a,he.trans h1,c⟩
theorem Zq8.new {h:Zf} {mb:Nat} {c:Nat} (a:obj h mb=some (.map #[] c)):Zq8 h mb (λ_=>none) 0:=⟨#[],c,a,rfl,(λx b=>by cases b),λ_=>rfl⟩
theorem ZBU (k:K4):Zki [(.int .u8),.string,.string,.string] (.agg (k4L k).toArray):=⟨k4L k,rfl,rfl,trivial,trivial,trivial,trivial⟩
theorem Zr2 (k:List Value) (e:MapEntry):∀ (l:List MapEntry) (i:Nat),Zhp k (l++[e]) i=match Zhp k l i with
    | some x=>some x
    | none=>bif Zmm k e.key then some (i+l.length,e.val) else none
  | [],i=>by simp only [Ayj,Zhp,Ayd,Axi]
  | x::l,i=>by
    simp only [List.cons_append,Zhp,Aqj]
    cases Zmm k x.key with
    | true=>rfl
    | false =>
      simp only [cond_false];rw [Zr2 k e l (i+1),show i+1+l.length=i+(l.length+1) from by omega]
theorem ZuC (k j:K4):Zmm (k4L k) (.agg (k4L j).toArray)=decide (k=j):=by
  show ZeU (k4L k) (k4L j)=_;obtain ⟨a,b,c,d,_⟩:=k;obtain ⟨e,f,g,h,_⟩:=j;simp only [ZeU,Zje,k4L,Zg1,Prod.mk.injEq,and_true]
  by_cases h1:a=e<;>by_cases i:b=f<;>by_cases h3:c=g<;>by_cases l:d=h<;>simp [h1,i,h3,l]
theorem Zq8.get {h:Zf} {mb n:Nat} {f:K4->Option Value} (c:Zq8 h mb f n) (k:K4) {K:Option Value->Prop} (d:K (f k)):Zch [(.int .u8),.string,.string,.string] h (some mb) (k4L k) K:=by
  obtain ⟨es,a,h1,h0,g,h3⟩:=c.is;refine ⟨λe=>(by cases e),λb i=>?_⟩;cases i;refine ⟨es,a,h1,λx j=>?_,by rw [h3];exact d⟩;obtain ⟨l,e⟩:=g x j;rw [e];exact ZBU l
theorem Zq8.len {h:Zf} {mb n:Nat} {f:K4->Option Value} (c:Zq8 h mb f n) {K:Int->Prop} (d:K (n:Int)):ZG4 h (some mb) K:=by
  obtain ⟨es,a,h1,h0,i,h3⟩:=c.is;refine ⟨λe=>(by cases e),λb g=>?_⟩;cases g;exact ⟨es,a,h1,by rw [h0];exact d⟩
theorem setMap {h:Zf} {b:Nat} {x y:Obj} (a:obj h b=some x):obj (h.setIfInBounds b y) b=some y/\Upd (· = b) h (h.setIfInBounds b y)/\sz (h.setIfInBounds b y)=sz h :=
  ⟨Zjr (Zp a),Zg2,Array.size_setIfInBounds⟩
theorem Zq8.put {h:Zf} {mb n:Nat} {f:K4->Option Value} (l:Zq8 h mb f n) {k:K4} (m:f k=none) (v:Value) {K:Zf->Prop}
    (o:∀ h',Zq8 h' mb (λj=>if j=k then some v else f j) (n+1)->Upd (· = mb) h h'->sz h'=sz h->K h'):ZhN [(.int .u8),.string,.string,.string] h (some mb) (k4L k) v K:=by
  obtain ⟨es,c,h1,d,i,h3⟩:=l.is;refine ⟨mb,es,c,rfl,h1,λx b=>?_,?_⟩
  ·obtain ⟨p,e⟩:=i x b
   rw [e];exact ZBU p
  have h0:Zhp (k4L k) es.toList 0=none:=by
    have:=h3 k;rw [m] at this;simpa using this
  rw [h0];obtain ⟨q,r,s⟩:=setMap (y:= .map (es.push { key:= .agg (k4L k).toArray,val:=v,born:=c }) (c+1)) h1;refine o _ ⟨_,_,q,by simp [d],λx b=>?_,λa=>?_⟩ r s
  ·rw [Array.toList_push] at b
   rcases Axx.1 b with b | b
   ·exact i x b
   ·simp only [Awr,Ayk,or_false] at b
    subst b;exact ⟨k,rfl⟩
  ·rw [Array.toList_push,Zr2]
   have g:=h3 a
   by_cases e:a=k
   ·rw [if_pos e,e,h0]
    show (bif Zmm (k4L k) (.agg (k4L k).toArray) then some (0+es.toList.length,v) else none).map (·.2)=_;rw [ZuC,decide_eq_true rfl];rfl
   ·rw [if_neg e,<- g]
    cases Zhp (k4L a) es.toList 0 with
    | some x=>rfl
    | none =>
      show (bif Zmm (k4L a) (.agg (k4L k).toArray) then some (0+es.toList.length,v) else none).map (·.2)=_;rw [ZuC,decide_eq_false e];rfl
structure Tree where
  f:K4->Option Node
  keys:List K4
  last:Int
structure Zq4 (h:Zf) (tb mb base:Nat) (ks:Sl) (A:K4->Option Nat) (t:Tree):Prop where
  cells:obj h tb=some (.cells [.map (some mb),slV ks,iv t.last].toArray 116 (0,0))
  map:∃ n,Zq8 h mb (λk=>(A k).map λq=> .pointer (some ⟨q+4,0,none⟩)) n
  row:Own h base ks 4 (t.keys.flatMap k4L)
  len:t.keys.length<=512
  node:∀ k,(A k=none/\t.f k=none)\/∃ q n,A k=some q/\t.f k=some n/\Zgg h q n
  disj:∀ k k' q q',A k=some q->A k'=some q'->k≠k'->q+5<=q'\/q'+5<=q
  mt:mb≠tb
  kb:∀ b,ks.blk=some b->b≠tb/\b≠mb
  out:∀ k q,A k=some q->(∀ j,inN q j->j≠tb/\j≠mb/\ks.blk≠some j)
def ZOM (tb mb:Nat) (ks:Sl) (A:K4->Option Nat) (j:Nat):Prop:=j=tb\/j=mb\/ks.blk=some j\/∃ k q,A k=some q/\inN q j
def ZaD (h:Zf) (tb:Nat) (O:Nat->Prop) (t:Tree):Prop:=∃ mb base ks A,Zq4 h tb mb base ks A t/\∀ j,ZOM tb mb ks A j->O j
theorem Zq4.congr {h h':Zf} {tb mb base:Nat} {ks:Sl} {A:K4->Option Nat} {t:Tree} (a:Zq4 h tb mb base ks A t) (he:∀ j,ZOM tb mb ks A j->j<sz h->obj h' j=obj h j):Zq4 h' tb mb base ks A t:=by
  obtain ⟨n,hm⟩:=a.map;refine ⟨(he _ (.inl rfl) (Zp a.cells)).trans a.cells,⟨n,hm.congr (he _ (.inr (.inl rfl)) hm.lt)⟩,a.row.congr λb d hl _=>he b (.inr (.inr (.inl d))) hl,a.len,λk=>?_,a.disj,a.mt,a.kb,a.out⟩
  rcases a.node k with h1 | ⟨q,n,h1,e,h3⟩
  ·exact .inl h1
  ·exact .inr ⟨q,n,h1,e,h3.congr λj f c=>he j (.inr (.inr (.inr ⟨k,q,h1,f,c⟩))) (by have:=h3.lt;omega)⟩
theorem ZaD.congr {h h':Zf} {tb:Nat} {O:Nat->Prop} {t:Tree} (a:ZaD h tb O t) (he:∀ j,O j->j<sz h->obj h' j=obj h j):ZaD h' tb O t:=by
  obtain ⟨mb,base,ks,A,hi,ho⟩:=a;exact ⟨mb,base,ks,A,hi.congr λj b hl=>he j (ho j b) hl,ho⟩
theorem ZaD.ext {h h':Zf} {tb:Nat} {O:Nat->Prop} {t:Tree} (a:ZaD h tb O t) (e:Ext h h'):ZaD h' tb O t:=a.congr λ_ _ b=>ZG e b
theorem ZaD.mono {h:Zf} {tb:Nat} {O O':Nat->Prop} {t:Tree} (a:ZaD h tb O t) (he:∀ j,O j->O' j):ZaD h tb O' t:=by
  obtain ⟨mb,base,ks,A,hi,ho⟩:=a;exact ⟨mb,base,ks,A,hi,λj b=>he j (ho j b)⟩
theorem Zv2 {h:Zf} {K:Option Addr->Zf->Prop} (d:∀ h',ZaD h' (sz h+1) (λj=>j=sz h\/j=sz h+1) ⟨λ_=>none,[],0⟩->Ext h h'->sz h'=sz h+2->K (some ⟨sz h+1,0,none⟩) h'):Zj8 K h:=by
  unfold Zj8 Zme Zfm;have c0:obj (h.push (.map #[] 0)) (sz h)=some (.map #[] 0):=Zc8;refine ZI λh1 c1 c e=>?_;have z0:sz (h.push (.map #[] 0))=sz h+1:=ZbG;simp only [YP,z0] at c1 e ⊢;refine d h1 ⟨sz h,0,⟨none,0,0⟩,λ_=>none,⟨c1,⟨0,(Zq8.new c0).congr (ZG c (by omega))⟩,Own.nil _ _ _,by decide,λk=> .inl ⟨rfl,rfl⟩,(λ_ _ _ _ a=>by cases a),by omega,(λb f=>by cases f),λ_ _ a=>by cases a⟩,?_⟩ (X5 (Ext.refl h) |>.trans c) (by omega);rintro j (h1 | h1 | h1 | ⟨_,_,h1,_⟩)
  ·exact .inr h1
  ·exact .inl h1
  ·cases h1
  ·cases h1
abbrev C8:=Int × ByteArray × ByteArray × ByteArray × Bool × Int × Sl × Unit
abbrev em:ByteArray:=ByteArray.mk #[]
def c8L (c:C8):List Value:=[iv c.1,.string c.2.1,.string c.2.2.1,.string c.2.2.2.1,.bool c.2.2.2.2.1,iv c.2.2.2.2.2.1,slV c.2.2.2.2.2.2.1]
def Zwn (c:C8):List K4:=if c.2.2.2.1=em then [] else [(5,em,c.2.1,c.2.2.2.1,())]
def ZHg (c:C8):List K4:=if c.2.2.2.2.1=true then [(1,em,em,em,())] else []
def YL (c:C8):List K4:=(3,c.2.2.1,c.2.1,em,())::(4,em,c.2.1,em,())::(Zwn c++(2,c.2.2.1,em,em,())::ZHg c)
def Zl6 (c:C8):Bool:=ZkK c.2.1&&ZkK c.2.2.1&&(decide (c.2.2.2.1=em)||ZkK c.2.2.2.1)
def ZiC (c:C8):Int:=if Zl6 c=true then 0 else 10
structure Zhu (c:C8):Prop where
  a:c.2.1.size<9223372036854775808
  b:c.2.2.1.size<9223372036854775808
  c:c.2.2.2.1.size<9223372036854775808
theorem ZBT (l:List K4):(l.flatMap k4L).all Zr=true:=by
  rw [Axb];intro v hv;obtain ⟨k,_,a⟩:=List.mem_flatMap.1 hv;simp only [k4L,Awr,Ayk,or_false] at a
  rcases a with rfl | rfl | rfl | rfl<;>rfl
theorem ZIi {h:Zf} {base:Nat} {s:Sl} {l m:List K4} (ho:Own h base s 4 (l.flatMap k4L)) {n:Nat} (b:m.length=n) (g:l.length+n<=100000) (a:base<=sz h) {K:Sl->Zf->Prop}
    (c:∀ s' h',Own h' base s' 4 ((l++m).flatMap k4L)->s'.len=s.len+n->Upd (λk=>s.blk=some k) h h'->K s' h'):app 102 4 56 [.int .u8 0,.string (ByteArray.mk #[]),.string (ByteArray.mk #[]),.string (ByteArray.mk #[])] s n (m.flatMap k4L) h K:=by
  have hl:=ho.len;rw [YV Zcj] at hl;have hs:s.len=l.length:=(Ayf (by decide) hl).symm;refine ho.app (n:=n) (by rw [YV Zcj,b]) (ZBT m) rfl (by omega) (by omega) a λs' h' d e f _=>c s' h' (by rw [Ayl];exact d) e f
theorem ZlF {h:Zf} {c:C8} (hz:Zhu c) {K:Sl->Int->Zf->Prop} (d:∀ s h',Ext h h'->Own h' (sz h) s 4 ((if ZiC c=0 then YL c else []).flatMap k4L)->K s (ZiC c) h'):ZbJ c K h:=by
  unfold ZbJ ZkS;refine ZI λh1 c1 t z1=>Za (Zlw (λ_ h'=>h'=h1/\ZiC c=0) ?_ λQ v=>?_)
  ·rintro _ h' ⟨M,ok⟩
   subst M;rw [ok,if_pos rfl] at d;refine rS (Zb c1 rfl) (rS (Zb c1 rfl) (rS (Zb c1 rfl) (ZI λN O w z2=>Zlw (λs h3=>Ext h' h3/\Own h3 (sz h') s.1 4 (((3,c.2.2.1,c.2.1,em,())::(4,em,c.2.1,em,())::Zwn c).flatMap k4L)) ?_ λQ v=>?_)))
   ·rintro ⟨l,u⟩ h3 ⟨o,p⟩
    dsimp only at p ⊢;have z:=Zj c1 o;refine rS (Zb z rfl) (ZI λx P F z4=>(Zj4 P rfl).rd ?_);have y:Own x (sz h') l 4 _:=p.congr λb _ hl _=>F.old b hl;have g:∀ {l:List K4} {n:Nat},l.length+n<=100->l.length+n<=100000:=λh=>by omega
    have R:(Zwn c).length<=1:=by unfold Zwn;split<;>simp
    have r:Ext h' x:=o.trans F;have G:sz h<=sz h':=t.size;refine ZIi y (m:=[(2,c.2.2.1,em,em,())]) rfl (by simp only [Aqj,Ayd];omega) r.size λs5 H I _ S=>?_;have f:Ext h' H:=r.then S λk d=>(y.lt d).1
    have T:=Zj c1 f;refine rB (Zb T rfl) ⟨λg=>?_,λg=>?_⟩
    ·refine ZI λU V A z6=>(Zj4 V rfl).rd ?_
     have J:Own U (sz h') s5 4 _:=I.congr λb _ hl _=>A.old b hl;refine ZIi J (m:=[(1,em,em,em,())]) rfl (by simp only [Aqj,Awe,Ayd];omega) (f.trans A).size λs7 W X _ Y=>Za (d s7 W (t.trans ((f.trans A).then Y λk d=>(J.lt d).1)) ?_)
     have:YL c=(3,c.2.2.1,c.2.1,em,())::(4,em,c.2.1,em,())::Zwn c++[(2,c.2.2.1,em,em,())]++[(1,em,em,em,())]:=by
       unfold YL ZHg;rw [if_pos g];simp
     rw [this];exact X.base G
    ·refine Za (d s5 H (t.trans f) ?_)
     have:YL c=(3,c.2.2.1,c.2.1,em,())::(4,em,c.2.1,em,())::Zwn c++[(2,c.2.2.1,em,em,())]:=by
       unfold YL ZHg;rw [if_neg (by rw [g];decide)];simp
     rw [this];exact I.base G
   ·have i:=Zj c1 w
    have L:Own N (sz h') ⟨some ⟨h'.size,0,none⟩,2,2⟩ 4 (([(3,c.2.2.1,c.2.1,em,()),(4,em,c.2.1,em,())]:List K4).flatMap k4L) :=
      ⟨rfl,Aqo _,(show 2<9223372036854775808 by decide),.inr ⟨h'.size,_,_,rfl,Aqo _,O,rfl,rfl⟩⟩
    refine rS (Zb i rfl) ?_;rw [Zg1];refine ⟨λg=>?_,λg=>?_⟩
    ·have j:c.2.2.2.1≠em:=by simpa using g
     refine rS (Zb i rfl) (rS (Zb i rfl) (ZI λh3 z o z3=>(Zj4 z rfl).rd ?_));have p:Own h3 (sz h') _ 4 _:=L.congr λb _ hl _=>o.old b hl;refine ZIi p (m:=[(5,em,c.2.1,c.2.2.2.1,())]) rfl (by simp only [Aqj,Ayd];omega) (w.trans o).size λs4 x y _ Z=>v _ _ ⟨(w.trans o).then Z λk d=>(p.lt d).1,?_⟩
     ·show Own x (sz h') s4 4 _
      have:Zwn c=[(5,em,c.2.1,c.2.2.2.1,())]:=by unfold Zwn;rw [if_neg j]
      rw [this];exact y
    ·have he:c.2.2.2.1=em:=by simpa using g
     refine v _ _ ⟨w,?_⟩;have:Zwn c=[]:=by unfold Zwn;rw [if_pos he]
     rw [this];exact L
  ·have bad:Zl6 c=false->K ⟨none,0,0⟩ 10 h1:=λe=>by
     have:=d ⟨none,0,0⟩ h1 t;unfold ZiC at this;rw [e] at this;exact this (Own.nil _ _ _)
   refine rS (Zb c1 rfl) (Zk0 hz.a ⟨λB=>Za (bad ?_),λB=>?_⟩)
   ·have:ZkK c.2.1=false:=by simpa using B
    unfold Zl6;rw [this];rfl
   have n1:ZkK c.2.1=true:=by simpa using B
   refine rS (Zb c1 rfl) (Zk0 hz.b ⟨λC=>Za (bad ?_),λC=>?_⟩)
   ·have:ZkK c.2.2.1=false:=by simpa using C
    unfold Zl6;rw [this,Bool.and_false];rfl
   have n2:ZkK c.2.2.1=true:=by simpa using C
   refine rS (Zb c1 rfl) ?_;rw [Zg1];have fin:(decide (c.2.2.2.1=em)||ZkK c.2.2.2.1)=true->Q () h1:=λq=>v _ _ ⟨rfl,by unfold ZiC Zl6;rw [n1,n2,q];rfl⟩;refine ⟨λD=>?_,λD=>?_⟩
   ·have j:c.2.2.2.1≠em:=by simpa using D
    refine rS (Zb c1 rfl) (Zk0 hz.c ⟨λE=>Za (bad ?_),λE=>fin ?_⟩)
    ·have:ZkK c.2.2.2.1=false:=by simpa using E
     unfold Zl6;rw [this,decide_eq_false j,Bool.or_false,Bool.and_false]
    ·have:ZkK c.2.2.2.1=true:=by simpa using E
     rw [this,Bool.or_true]
   ·have he:c.2.2.2.1=em:=by simpa using D
    exact fin (by rw [decide_eq_true he];rfl)
def Tree.isNew (t:Tree) (k:K4):Bool:=(t.f k).isNone
def Tree.freshN (t:Tree) (l:List K4):Nat:=(l.filter t.isNew).length
theorem Zq4.isNone {h:Zf} {tb mb base:Nat} {ks:Sl} {A:K4->Option Nat} {t:Tree} (c:Zq4 h tb mb base ks A t) (k:K4):t.isNew k=(A k).isNone:=by
  unfold Tree.isNew
  rcases c.node k with ⟨a,b⟩ | ⟨q,n,a,b,_⟩<;>rw [a,b]<;>rfl
theorem ZpD {h:Zf} {tb:Nat} {O:Nat->Prop} {t:Tree} (S:ZaD h tb O t) {s:Sl} {l:List K4} (hs:Row h s 4 (l.flatMap k4L)) (hd:l.Nodup) (hl:l.length<=100000) {K:Int->Zf->Prop} (z:∀ h',Ext h h'->K (t.freshN l:Int) h'):Xv (some ⟨tb,0,none⟩) s K h:=by
  obtain ⟨mb,base,ks,A,hi,ho⟩:=S;unfold Xv Ze2 Zfm;have hlen:=hs.len;rw [YV Zcj] at hlen;have T:s.len=l.length:=(Ayf (by decide) hlen).symm;have c0:obj (h.push (.map #[] 0)) (sz h)=some (.map #[] 0):=Zc8;have U:Ext h (h.push (.map #[] 0)):=X5 (Ext.refl h)
  refine Za (Zbf (λp B=>∃ i:Nat,p=((i:Int),())/\i<=l.length/\Ext h B/\∃ g,Zq8 B (sz h) g (t.freshN (l.take i))/\∀ k,k∉l.take i->g k=none) (λp _=>l.length - p.1.toNat)
    ⟨0,rfl,Ayg _,U,_,(Zq8.new c0).congr rfl,λ_ _=>rfl⟩ ?_)
  rintro _ B ⟨i,rfl,V,he,g,hm,u⟩ Q P;dsimp only;refine Zn (λq=>?_) λq=>?_
  ·have f:i<l.length:=by omega
   have H:l[i]?=some l[i]:=Axy f;generalize l[i]=k at H;obtain ⟨b,o,hb,W,C,I⟩:=ZbD Zcj (hs.ext he) H (by decide);have v0:=I 0 _ rfl;have v1:=I 1 _ rfl;have v2:=I 2 _ rfl;have v3:=I 3 _ rfl;have D:IntKind.wrap .i64 ((i:Int)+1)=((i+1:Nat):Int):=wrS f (by omega);have m:l.take (i+1)=l.take i++[k]:=by rw [Aym,H];rfl
   have J:k∉l.take i:=λc=>by
     have E:=hd;rw [<- Ayn i l,List.nodup_append] at E;refine E.2.2 k c k ?_ rfl;refine Axo (i:=0) ?_;rw [Aqg,Axi];exact H
   refine C rfl (rI v0 (rS v1 (rS v2 (rS v3 (ZI λh1 c1 X z1=>Zbb c1 λy r Y z2=>Zg ?_)))));have R:Ext B y:=X.then Y λk z=>by subst z;exact Aqo _
   have v:=he.trans R;have F:Zq4 y tb mb base ks A t:=hi.congr λj _ w=>ZG v w;obtain ⟨n,L⟩:=F.map;have G:=hm.congr (ZG R hm.lt);refine rM (Zb F.cells rfl) (rI (Zb r rfl) (rS (Zb r rfl) (rS (Zb r rfl) (rS (Zb r rfl) (L.get k ?_)))));have d:=hi.isNone k
   rcases hi.node k with ⟨a,Z⟩ | ⟨q9,n9,a,Z,_⟩
   ·rw [a] at d ⊢
    refine ⟨none,rfl,YC (rI (Zb r rfl) (rS (Zb r rfl) (rS (Zb r rfl) (rS (Zb r rfl) (G.put (k:=k) ?_ _ λh3 M u3 z3=>?_)))))⟩
    ·exact u k J
    ·rw [D]
     refine P _ _ ⟨i+1,rfl,f,v.then u3 λk z=>by subst z;exact Aqo _,?_⟩ (by show l.length - ((i+1:Nat):Int).toNat<l.length - ((i:Nat):Int).toNat;omega);have h1:(l.take (i+1)).filter t.isNew=(l.take i).filter t.isNew++[k]:=by rw [m,List.filter_append];congr 1;simp [d]
     have y:t.freshN (l.take (i+1))=t.freshN (l.take i)+1:=by unfold Tree.freshN;rw [h1];simp
     refine ⟨_,by rw [y];exact M,λj w=>?_⟩;rw [m] at w;have N:j≠k:=λe=>w (by rw [e];simp);exact (if_neg N).trans (u j λc=>w (Axx.2 (.inl c)))
   ·rw [a] at d ⊢
    refine ⟨_,rfl,Zt ?_⟩;rw [D];have h1:(l.take (i+1)).filter t.isNew=(l.take i).filter t.isNew:=by rw [m,List.filter_append];simp [d]
    have y:t.freshN (l.take (i+1))=t.freshN (l.take i):=by unfold Tree.freshN;rw [h1]
    refine P _ _ ⟨i+1,rfl,f,v,g,by rw [y];exact G,λj w=>u j λc=>w (by rw [m];exact Axx.2 (.inl c))⟩ (by show l.length - ((i+1:Nat):Int).toNat<l.length - ((i:Nat):Int).toNat;omega)
  ·have x:l.take i=l:=Awd (by omega)
   rw [x] at hm;exact hm.len (Za (z B he))
theorem ZOq {h:Zf} {base:Nat} {s:Sl} {l m:List K4} (ho:Own h base s 4 (l.flatMap k4L)) {n:Nat} (b:m.length=n) (g:l.length+n<=100000) (a:base<=sz h) {K:Sl->Zf->Prop}
    (c:∀ s' h',Own h' base s' 4 ((l++m).flatMap k4L)->Upd (λk=>s.blk=some k) h h'->(s'.blk=s.blk\/s'.blk=some (sz h))->K s' h'):app 102 4 56 [.int .u8 0,.string (ByteArray.mk #[]),.string (ByteArray.mk #[]),.string (ByteArray.mk #[])] s n (m.flatMap k4L) h K:=by
  have hl:=ho.len;rw [YV Zcj] at hl;have hs:s.len=l.length:=(Ayf (by decide) hl).symm;refine ho.app (n:=n) (by rw [YV Zcj,b]) (ZBT m) rfl (by omega) (by omega) a λs' h' d i e f=>c s' h' (by rw [Ayl];exact d) e f
def Tree.make (t:Tree) (k:K4):Tree:=match t.f k with
  | some _=>t
  | none=>⟨λj=>if j=k then some Node.zero else t.f j,t.keys++[k],t.last⟩
theorem Zpn {h:Zf} {tb:Nat} {O:Nat->Prop} {t:Tree} (ht:ZaD h tb O t) {k:K4} (hl:t.isNew k=true->t.keys.length<512) {K:Zf->Prop}
    (hk:∀ h' O',ZaD h' tb O' (t.make k)->Upd O h h'->(∀ j,O' j->O j\/(sz h<=j/\j<sz h'))->(∀ j,O j->O' j)->K h'):Xu (some ⟨tb,0,none⟩) k K h:=by
  obtain ⟨mb,base,ks,A,hi,ho⟩:=ht;unfold Xu Ze1;refine ZI λh1 c1 g z1=>Zg ?_;have u:Zq4 h1 tb mb base ks A t:=hi.congr λj _ d=>ZG g d;obtain ⟨n,C⟩:=u.map;refine rM (Zb u.cells rfl) (rI (Zb c1 rfl) (rS (Zb c1 rfl) (rS (Zb c1 rfl) (rS (Zb c1 rfl) (C.get k ?_)))));have y:=hi.isNone k
  rcases hi.node k with ⟨a,D⟩ | ⟨q9,n9,a,D,_⟩
  case inr =>
    rw [a];refine ⟨_,rfl,Zt (hk h1 O ?_ (g.upd _) (λj d=> .inl d) λj d=>d)⟩;have:t.make k=t:=by unfold Tree.make;rw [D]
    rw [this];exact ⟨mb,base,ks,A,u,ho⟩
  rw [a] at y ⊢;have aq:=hl y;refine ⟨none,rfl,YC (Zg (rM (Zb u.cells rfl) (rI (Zb c1 rfl) (rS (Zb c1 rfl) (rS (Zb c1 rfl) (rS (Zb c1 rfl) (Zv7 λz n2 x z2=>?_)))))))⟩;have F:=Zj c1 x;have G:Zq4 z tb mb base ks A t:=u.congr λj _ d=>ZG x d;refine ⟨⟨Zb F rfl,Zb F rfl,Zb F rfl,Zb F rfl,trivial⟩,ZZ (Zb G.cells rfl),?_⟩;refine (C.congr (ZG x C.lt)).put (k:=k) (by rw [a];rfl) _ λh3 V N z3=>?_;have av:tb<sz h:=Zp hi.cells;have aw:mb<sz h:=by obtain ⟨n9,W⟩:=hi.map;exact W.lt
  have v:∀ b,ks.blk=some b->b<sz h:=λb o=>(hi.row.lt o).2;have s1:sz h<=sz h1:=g.size;have s2:sz z=sz h1+5:=z2;have s3:sz h3=sz z:=z3;have t3:obj h3 tb=_:=(N.old tb (show tb<sz z by omega) (λe=>hi.mt e.symm)).trans G.cells;have P:obj h3 (sz h)=_:=(N.old (sz h) (show sz h<sz z by have:h1.size=h.size+1:=z1;simp only [YP] at this;omega) (by omega)).trans F;refine Zg (rL (Zb t3 rfl) (rI (Zb P rfl) (rS (Zb P rfl) (rS (Zb P rfl) (rS (Zb P rfl) (ZI λB c4 H z4=>?_))))));have t4:=Zj t3 H;refine ⟨ZZ (Zb t4 rfl),(Zj4 c4 rfl).rd ?_⟩;have s4:sz h3<=sz B:=H.size;have o4:Own B 0 ks 4 (t.keys.flatMap k4L):=(hi.row.congr λb o hl _=>(H.old b (show b<sz h3 by have:=v b o;omega)).trans ((N.old b (show b<sz z by have:=v b o;omega) (hi.kb b o).2).trans ((x.old b (show b<sz h1 by have:=v b o;omega)).trans (g.old b hl)))).base (Ayg _);refine ZOq o4 (m:=[k]) (n:=1) rfl (by omega) (Ayg _) λs5 Q o5 R b5=>?_;have t5:obj Q tb=_:=(R.old tb (show tb<sz B by omega) (λe=>(hi.kb tb e).1 rfl)).trans t4;have aA:sz B<=sz Q:=R.size;refine Zg (Zbg t5 (show 0+1<3 by decide) rfl λI c6 X z6=>?_);let S:Nat->Prop:=λj=>j=tb\/j=mb\/ks.blk=some j;have J:Upd S z I:=(((N.mono λj _ d=> .inr (.inl d)).trans (H.upd S)).trans (R.mono λj _ d=> .inr (.inr d))).trans (X.mono λj _ d=> .inl d);have U:Upd S h I:=((g.trans x).upd S).trans J
  have nS:∀ j,sz h<=j->¬ S j:=λj d hs=>by
    rcases hs with c | c | c
    ·omega
    ·omega
    ·have:=v j c;omega
  have SO:∀ j,S j->O j:=λj hs=>ho j (by
    rcases hs with c | c | c
    ·exact .inl c
    ·exact .inr (.inl c)
    ·exact .inr (.inr (.inl c)))
  have w:∀ b,s5.blk=some b->ks.blk=some b\/b=sz B:=λb o=>by
    rcases b5 with c | c
    ·exact .inl (c▸o)
    ·rw [c] at o;exact .inr (Option.some.inj o).symm
  refine hk I (λj=>O j\/(sz h<=j/\j<sz I)) ⟨mb,0,s5,λj=>if j=k then some (sz h1) else A j,⟨?_,⟨n+1,?_⟩,?_,?_,?_,?_,hi.mt,?_,?_⟩,?_⟩ (U.mono λj _ d=>SO j d) (λj d=>d) λj d=> .inl d
  ·have e:t.make k=⟨λj=>if j=k then some Node.zero else t.f j,t.keys++[k],t.last⟩:=by unfold Tree.make;rw [D]
   rw [e];exact c6
  ·refine (show Zq8 I mb _ (n+1) from ?_)
   have:(λj=>Option.map (λq=>Value.pointer (some ⟨q+4,0,none⟩)) (if j=k then some (sz h1) else A j))=λj=>if j=k then some (Value.pointer (some ⟨sz h1+4,0,none⟩)) else Option.map (λq=>Value.pointer (some ⟨q+4,0,none⟩)) (A j):=by
     funext j
     split<;>rfl
   rw [this];refine V.congr ?_;exact (X.old mb (show mb<sz Q by omega) hi.mt).trans ((R.old mb (show mb<sz B by omega) λe=>(hi.kb mb e).2 rfl).trans (H.old mb (show mb<sz h3 by omega)))
  ·have e:(t.make k).keys=t.keys++[k]:=by unfold Tree.make;rw [D]
   rw [e];refine o5.congr λb o hl _=>X.old b hl λL=>?_
   rcases w b o with c | c
   ·exact (hi.kb b c).1 L
   ·omega
  ·have e:(t.make k).keys=t.keys++[k]:=by unfold Tree.make;rw [D]
   rw [e];simp;omega
  ·intro j
   have e:(t.make k).f j=if j=k then some Node.zero else t.f j:=by unfold Tree.make;rw [D]
   by_cases p:j=k
   ·refine .inr ⟨sz h1,Node.zero,if_pos p,by rw [e,if_pos p],n2.congr λi r T=>J.old i (show i<sz z by omega) (nS i (by omega))⟩
   ·rcases hi.node j with ⟨r,T⟩ | ⟨q,n9,r,T,E⟩
    ·exact .inl ⟨(if_neg p).trans r,by rw [e,if_neg p];exact T⟩
    ·refine .inr ⟨q,n9,(if_neg p).trans r,by rw [e,if_neg p];exact T,E.congr λi g4 g5=>U.old i (show i<sz h by have:=E.lt;omega) λhs=>?_⟩
     obtain ⟨Y,Z,o3⟩:=hi.out j q r i ⟨g4,g5⟩
     rcases hs with c | c | c
     ·exact Y c
     ·exact Z c
     ·exact o3 c
  ·have old:∀ j q,A j=some q->q+5<=sz h:=λj q d=>by
     rcases hi.node j with ⟨r,_⟩ | ⟨q9,n9,r,_,E⟩
     ·rw [r] at d;cases d
     ·rw [r] at d;cases d;have:=E.lt;omega
   intro j j' q q' l s M
   by_cases g:j=k<;>by_cases x:j'=k
   ·exact absurd (g.trans x.symm) M
   ·rw [if_pos g] at l;rw [if_neg x] at s;cases l;exact .inr (by have:=old _ _ s;omega)
   ·rw [if_neg g] at l;rw [if_pos x] at s;cases s;exact .inl (by have:=old _ _ l;omega)
   ·rw [if_neg g] at l;rw [if_neg x] at s;exact hi.disj j j' q q' l s M
  ·intro b o
   rcases w b o with c | c
   ·exact hi.kb b c
   ·omega
  ·intro j q l i ae
   obtain ⟨w1,w2⟩:=ae
   by_cases g:j=k
   ·rw [if_pos g] at l;cases l
    refine ⟨by omega,by omega,λL=>?_⟩
    rcases w i L with c | c
    ·have:=v i c;omega
    ·have:B.size=h3.size+1:=z4
     simp only [YP] at this;omega
   ·rw [if_neg g] at l
    obtain ⟨Y,Z,o3⟩:=hi.out j q l i ⟨w1,w2⟩;refine ⟨Y,Z,λL=>?_⟩
    rcases w i L with c | c
    ·exact o3 c
    ·rcases hi.node j with ⟨r,_⟩ | ⟨q9,n9,r,_,E⟩
     ·rw [r] at l;cases l
     ·rw [r] at l;cases l;have:=E.lt;omega
  ·rintro j (c | c | c | ⟨i,q,c,w1,w2⟩)
   ·exact .inl (ho j (.inl c))
   ·exact .inl (ho j (.inr (.inl c)))
   ·rcases w j c with h8 | h8
    ·exact .inl (ho j (.inr (.inr (.inl h8))))
    ·have:sz B<sz Q:=by have:=(o5.lt c).2;rw [h8] at this;exact this
     exact .inr (by omega)
   ·dsimp only at c
    by_cases g:i=k
    ·rw [if_pos g] at c;cases c;exact .inr (by omega)
    ·rw [if_neg g] at c
     exact .inl (ho j (.inr (.inr (.inr ⟨i,q,c,w1,w2⟩))))
end Go.Proofs.YthbfgkphlmlihaaGreat
