/- The windows of buckets: what their functions do, whatever is counted. -/
import Derived.Laws.Strings
import Derived.Test.YtonbfpnngkemiaaGreatPa9
set_option linter.unusedVariables false
set_option linter.unusedSimpArgs false
namespace Go.Proofs.YtonbfpnngkemiaaGreat
open Go Go.Fw
open Nat renaming reduceAdd->Nqa,reduceLT->Nqb,reduceLeDiff->Nqc,reduceEqDiff->Nqd,reduceMul->Nqe
abbrev C6:=Int×Int×Int×Int×Int×Int×Unit
def Zk1(a b:Int):Int:=IntKind.wrap .i64 (ZqT a (IntKind.wrap .i64 (4611686018427387904-b))+b)
theorem ZxF{a b:Int}{K:Int->Zf->Prop}{h:Zf}:ZiW a b K h=K (Zk1 a b) h:=propext ⟨λh=>h,λh=>h⟩
def ZmE(a b:C6):C6:=(Zk1 a.1 b.1,Zk1 a.2.1 b.2.1,Zk1 a.2.2.1 b.2.2.1,Zk1 a.2.2.2.1 b.2.2.2.1,Zk1 a.2.2.2.2.1 b.2.2.2.2.1,
  (if a.2.2.1=0 then b.2.2.2.2.2.1 else if b.2.2.1=0 then a.2.2.2.2.2.1 else ZqT a.2.2.2.2.2.1 b.2.2.2.2.2.1),())
def c6L(c:C6):List Value:=[iv c.1,iv c.2.1,iv c.2.2.1,iv c.2.2.2.1,iv c.2.2.2.2.1,iv c.2.2.2.2.2.1]
theorem Ym{a b:Int}{A B:Prop}(h1:a=b->A)(c:a≠b->B):Zk (a==b) A B:=⟨λh=>h1 (by simpa using h),λh=>c (by simpa using h)⟩
theorem Zuc{a b:C6}{K:C6->Zf->Prop}{h:Zf}(f:∀h',Ext h h'->K (ZmE a b) h'):ZeC a b K h:=by
  unfold ZeC Zj8
  refine ZeK (λt h'=>∃q,t=(some ⟨q,0,none⟩,())/\Ext h h'/\sz h+3<=q/\q<sz h'/\obj h' (sz h)=some (.cells (c6L a).toArray 52 (0,0))/\obj h' (sz h+1)=some (.cells (c6L b).toArray 52 (0,0))/\obj h' (sz h+2)=some (.cells [iv 0,iv 0,iv 0,iv 0,iv 0,iv 0].toArray 52 (0,0))/\
      obj h' q=some (.cells [iv (Zk1 a.1 b.1),iv (Zk1 a.2.1 b.2.1),iv (Zk1 a.2.2.1 b.2.2.1),iv (Zk1 a.2.2.2.1 b.2.2.2.1),iv (Zk1 a.2.2.2.2.1 b.2.2.2.2.1),iv 0].toArray 52 (0,0))) ?_ ?_
  ·rintro _ h' ⟨q,rfl,he,p,g,h0,h1,i,h3⟩
   dsimp only;have j:(sz h=q)=False:=eq_false (by omega);have k:(sz h+1=q)=False:=eq_false (by omega);have l:(sz h+2=q)=False:=eq_false (by omega);have m:(q=sz h+2)=False:=eq_false (by omega);have sh:sz h<=q:=by omega
   have fin:∀(r:C6) (c:Zf),r=ZmE a b->Ext h c->K r c:=λr c n o=>by subst n;exact f c o
   simp (maxDischargeDepth:=60) only[ZM,ZL,evC,Nqa,Nqb,Nqc,Nqd,Nqe,reduceCtorEq,h0,h1,i,h3,c6L,j,k,l,m,sh,he,if_false];refine Ym (λd=>?_) λd=>Ym (λe=>?_) λe=>?_
   all_goals
     refine fin _ _ ?_ ?_
     ·simp[ZmE,d];try simp[e]
     ·simp +arith (maxDischargeDepth:=60) only[Zb8,ZtL,he,sh]
  ·simp (maxDischargeDepth:=60) only[ZM,ZL,evC,Nqa,Nqb,Nqc,Nqd,Nqe,reduceCtorEq,ZxF,c6L]
theorem ZxU(a b:Int):ZqT a b=min a b:=by unfold ZqT;split<;>omega
theorem ZtA(a b:Int):ZiE a b=max a b:=by unfold ZiE;split<;>omega
theorem Zec{a b:Int}(c:0<=a/\a<=4611686018427387904)(d:0<=b/\b<=4611686018427387904):Zk1 a b=min a (4611686018427387904-b)+b:=by unfold Zk1;rw[Yw (n:=4611686018427387904-b) (by omega) (by omega),ZxU,Yw (by omega) (by omega)]
theorem Zix{a:Int}(b:0<=a/\a<=4611686018427387904):Zk1 a 0=a:=by rw[Zec b (by omega)];omega
def z6:C6:=(0,0,0,0,0,0,())
def c6V(x:C6):Value:=.agg (c6L x).toArray
structure Rt(c:C6):Prop where
  p:0<=c.1/\c.1<=4611686018427387904
  b:0<=c.2.1/\c.2.1<=4611686018427387904
  d:0<=c.2.2.1/\c.2.2.1<=4611686018427387904
  e:0<=c.2.2.2.1/\c.2.2.2.1<=c.2.2.1
  s:0<=c.2.2.2.2.1/\c.2.2.2.2.1<=4611686018427387904
  m:0<=c.2.2.2.2.2.1/\c.2.2.2.2.2.1<=c.2.2.2.2.1
  z:0<c.2.2.1\/c.2.2.2.2.1=0
theorem Rt.zero:Rt z6:=⟨by decide,by decide,by decide,by decide,by decide,by decide,.inr rfl⟩
theorem Rt.two{a b:C6}(c:Rt a)(d:Rt b):Rt (ZmE a b):=by
  obtain⟨e,f,a3,a4,a5,n,o⟩:=c;obtain⟨b1,b2,g,b4,h,p,q⟩:=d;have i:=Zec e b1;have j:=Zec f b2;have k:=Zec a3 g;have l:=Zec (show 0<=a.2.2.2.1/\a.2.2.2.1<=4611686018427387904 by omega) (show 0<=b.2.2.2.1/\b.2.2.2.1<=4611686018427387904 by omega);have m:=Zec a5 h;refine⟨?_,?_,?_,?_,?_,?_,?_⟩<;>simp only[ZmE,i,j,k,l,m]
  ·omega
  ·omega
  ·omega
  ·omega
  ·omega
  ·rw[ZxU];split<;>(try split)<;>omega
  ·omega
theorem ZOF{a:C6}(b:Rt a):ZmE a z6=a:=by
  obtain⟨c,d,a3,a4,a5,f,g⟩:=b;have e:=Zix (show 0<=a.2.2.2.1/\a.2.2.2.1<=4611686018427387904 by omega);simp only[ZmE,z6,Zix c,Zix d,Zix a3,e,Zix a5,if_true];split
  ·rw[show(0:Int)=a.2.2.2.2.2.1 from by omega]
  ·rfl
theorem ZGJ{a:C6}(c:Rt a):ZmE z6 a=a:=by
  obtain⟨d,e,a3,a4,a5,h,i⟩:=c;have b:∀{x:Int},0<=x/\x<=4611686018427387904->Zk1 0 x=x:=λ{x} f=>by rw[Zec (by omega) f];omega
  have g:=b (show 0<=a.2.2.2.1/\a.2.2.2.1<=4611686018427387904 by omega);simp only[ZmE,z6,b d,b e,b a3,g,b a5,if_true]
theorem ZGK{a b:C6}(f:Rt a)(g:Rt b)(h:ZmE a b=z6):a=z6:=by
  obtain⟨p,q,r,s,t,v,u⟩:=a;obtain⟨d,e,a3,a4,a5,i,j⟩:=f;obtain⟨b1,b2,k,b4,l,w,x⟩:=g;have c:0<=b.2.2.2.1/\b.2.2.2.1<=4611686018427387904:=by omega
  simp only[ZmE,z6,Prod.mk.injEq]at h;dsimp only at d e a3 a4 a5 i j;obtain⟨h1,m,h3,n,o,y,_⟩:=h;rw[Zec d b1]at h1;rw[Zec e b2]at m;rw[Zec a3 k]at h3;rw[Zec (by omega) c]at n;rw[Zec a5 l]at o;simp only[z6,Prod.mk.injEq];refine⟨by omega,by omega,by omega,by omega,by omega,by omega,trivial⟩
structure Wid where
  len:Int
  cnt:Int
  wid:Int
  e:IntKind.wrap .i64 (Int.tdiv len cnt)=wid
  c0:1<=cnt
  c1:cnt<=10
  w0:1<=wid
  w1:wid<=120000000
def Wid.sec:Wid:=⟨1000000,10,100000,by decide,by decide,by decide,by decide,by decide⟩
def Wid.dbl:Wid:=⟨2000000,2,1000000,by decide,by decide,by decide,by decide,by decide⟩
def bkt(k:Wid)(t:Int):Int:=t / k.wid
theorem Zli{k:Wid}{t:Int}(h0:0<=t)(h1:t<=1152921504606846976):0<=bkt k t/\bkt k t<=1152921504606846976:=by have:=k.w0;exact⟨Int.ediv_nonneg h0 (by omega),Int.le_trans (Int.ediv_le_self _ h0) h1⟩
theorem Zud{k:Wid}{t:Int}(h0:0<=t)(h1:t<=1152921504606846976):IntKind.wrap .i64 (Int.tdiv t k.wid)=bkt k t:=by have:=Zli (k:=k) h0 h1;unfold bkt at this⊢;rw[Int.tdiv_eq_ediv_of_nonneg h0,Yw (by omega) (by omega)]
theorem ZuT{k:Wid}{s t:Int}(h:s<=t):bkt k s<=bkt k t:=Int.ediv_le_ediv (by have:=k.w0;omega) h
structure Win where
  last:Int
  p:Int->C6
structure Win.OK(w:Win):Prop where
  lo:0<=w.last
  hi:w.last<=1152921504606846976
  p:∀i,Rt (w.p i)
structure Zll(k:Wid)(h:Zf)(wb mb:Nat)(w:Win):Prop where
  ok:w.OK
  cells:obj h wb=some (.cells [iv k.len,iv k.cnt,iv w.last,.map (some mb)].toArray 282 (0,0))
  map:∃f n,ZlX h mb f n/\(∀i v,f i=some v->∃x,v=c6V x/\Rt x)/\∀i,bkt k w.last- k.cnt<i->f i=some (c6V (w.p i))\/(f i=none/\w.p i=z6)
theorem Zll.mlt{k:Wid}{h:Zf}{wb mb:Nat}{w:Win}(hw:Zll k h wb mb w):mb<sz h:=by obtain⟨f,n,hm,_⟩:=hw.map;exact hm.lt
theorem Zll.congr{k:Wid}{h h':Zf}{wb mb:Nat}{w:Win}(hw:Zll k h wb mb w)(h1:obj h' wb=obj h wb)(a:obj h' mb=obj h mb):Zll k h' wb mb w:=by obtain⟨f,n,hm,r⟩:=hw.map;exact⟨hw.ok,h1.trans hw.cells,f,n,hm.congr a,r⟩
def YC(last at_:Int):Int:=if at_<0 then 2 else if at_>1152921504606846976 then 2 else if at_<last then 7 else 0
theorem Zgi{last at_:Int}(h:YC last at_=0):0<=at_/\at_<=1152921504606846976/\last<=at_:=by
  unfold YC at h;split at h
  ·cases h
  ·split at h
   ·cases h
   ·split at h
    ·cases h
    ·omega
theorem Zl1{k:Wid}{h:Zf}{wb mb:Nat}{w:Win}(hw:Zll k h wb mb w){at_:Int}{K:Int->Zf->Prop}(a:K (YC w.last at_) h):YJ (some ⟨wb,0,none⟩) at_ K h:=by
  unfold YJ Zc4;unfold YC at a;simp (maxDischargeDepth:=60) only[ZM,ZL,evC,Nqa,Nqb,Nqc,Nqd,Nqe,reduceCtorEq,hw.cells];refine Zn (λq=>?_) λq=>Zn (λb=>?_) λb=>Zn (λc=>?_) λc=>?_
  ·rw[if_pos q]at a;exact a
  ·rw[if_neg q,if_pos b]at a;exact a
  ·rw[if_neg q,if_neg b,if_pos c]at a;exact a
  ·rw[if_neg q,if_neg b,if_neg c]at a;exact a
theorem Zsz{k:Wid}{h:Zf}{wb:Nat}{r:List Value}(a:obj h wb=some (.cells (iv k.len::iv k.cnt::r).toArray 282 (0,0))){at_:Int}(h0:0<=at_)(h1:at_<=1152921504606846976){K:Int->Zf->Prop}:
    ZR (some ⟨wb,0,none⟩) at_ K h=K (bkt k at_) h:=by
  unfold ZR ZaK;have b:k.cnt≠0:=by have:=k.c0;omega
  have c:k.wid≠0:=by have:=k.w0;omega
  simp (maxDischargeDepth:=60) only[ZM,ZL,evC,Nqa,Nqb,Nqc,Nqd,Nqe,reduceCtorEq,a,k.e,Zud h0 h1];simp[b,c]
def loW(k:Wid)(at_:Int):Int:=max 0 (bkt k at_-(k.cnt- 1))
theorem ZyR{h:Zf}{w:Option Addr}{at_:Int}{K:(Option Addr×Option Addr×Unit)->Zf->Prop}:Xv w at_ K h=K (some ⟨sz h,0,none⟩,some ⟨sz h+1,0,none⟩,()) ((h.push (.cells [.pointer w].toArray 201 (0,0))).push (.cells [iv at_].toArray 3 (0,0))):=by unfold Xv Zfc;simp (maxDischargeDepth:=60) only[ZM,ZL,evC,Nqa,Nqb,Nqc,Nqd,Nqe,reduceCtorEq]
theorem ZuU{k:Wid}{Y:Yld}{y:Nat}{b1 b2 wb mb:Nat}{w:Win}{at_:Int}{h0:Zf}{T1 T2:TypeId}(hw:Zll k h0 wb mb w)(c:obj h0 b1=some (.cells [.pointer (some ⟨wb,0,none⟩)].toArray T1 (0,0)))
    (t:obj h0 b2=some (.cells [iv at_].toArray T2 (0,0))) (G:YC w.last at_=0) {S:Nat->Prop} (H:∀j,S j->j<sz h0) (s1:¬S b1) (s2:¬S b2) (u:¬S wb) (s4:¬S mb)
    (J:Int->Zf->Prop) (m:∀i h h',J i h->Ext h h'->J i h')
    (I:∀i h,J i h->w.p i=z6->J (i+1) h)
    (L:∀i h (K:Bool->Zf->Prop),i<=bkt k at_->J i h->Upd S h0 h->(∀h',J (i+1) h'->Upd S h h'->K true h')->Y y [.agg (iv (IntKind.wrap .i64 (i*k.wid))::c6L (w.p i)).toArray] K h)
    {K:Zf->Prop} (M:J (loW k at_) h0) (C:∀h,J (bkt k at_+1) h->Upd S h0 h->K h):Y8 Y y (some ⟨b1,0,none⟩) (some ⟨b2,0,none⟩) K h0:=by
  obtain⟨a0,D,N⟩:=Zgi G;have O:=Zli (k:=k) a0 D;have P:=ZuT (k:=k) N;unfold Y8 ZdG;have Q:=k.e;have R:=k.c0;have T:=k.c1;have U:k.cnt≠0:=by omega
  have V:ZiE 0 (IntKind.wrap .i64 ((IntKind.wrap .i64 (bkt k at_-k.cnt))+1))=loW k at_:=by
    rw[Yw (n:=bkt k at_-k.cnt) (by omega) (by omega),Yw (by omega) (by omega),ZtA];unfold loW;congr 1;omega
  simp (maxDischargeDepth:=60) only[ZM,ZL,evC,Nqa,Nqb,Nqc,Nqd,Nqe,reduceCtorEq,c,t,hw.cells,Zsz hw.cells a0 D,V];refine YL (λs h=>∃i,s=(i,())/\loW k at_<=i/\i<=bkt k at_+1/\J i h/\Upd S h0 h) (λs _=>(bkt k at_+1-s.1).toNat) ⟨_,rfl,Int.le_refl _,by unfold loW;omega,M,Upd.refl _ _⟩ ?_;rintro _ h ⟨i,rfl,v,W,d,hu⟩;dsimp only;have X:bkt k at_-(k.cnt- 1)<=i/\0<=i:=by unfold loW at v;omega
  refine Zn (λq=>?_) λq=>C h (by rw[show bkt k at_+1=i from by omega];exact d) hu;have Z:=Zp c;have E:=Zp hw.cells;have c1:obj h b1=some (.cells [.pointer (some ⟨wb,0,none⟩)].toArray T1 (0,0)):=(Zal hu Z s1).trans c;have x:obj h wb=some (.cells [iv k.len,iv k.cnt,iv w.last,.map (some mb)].toArray 282 (0,0)):=(Zal hu E u).trans hw.cells;have o:sz h0<=sz h:=hu.size;have g:b1<sz h:=by omega
  have l:wb<sz h:=by omega
  have r:IntKind.wrap .i64 (i+1)=i+1:=Yw (by omega) (by omega);obtain⟨f,n,hm,aa,z⟩:=(hw.congr (h':=h) (Zal hu E u) (Zal hu hw.mlt s4)).map;simp (maxDischargeDepth:=60) only[ZM,ZL,evC,Nqa,Nqb,Nqc,Nqd,Nqe,reduceCtorEq,c1,x];refine hm.get i ?_
  rcases z i (by omega)with A|⟨A,hp⟩
  ·rw [A];refine⟨w.p i,rfl,?_⟩;simp (maxDischargeDepth:=60) only[ZM,ZL,evC,Nqa,Nqb,Nqc,Nqd,Nqe,reduceCtorEq,c6L,c1,x,ZnU g,Ze8 g,ZnU l,Ze8 l,ZEn g,ZxW g,ZEn l,ZxW l,Q];refine⟨U,L i _ _ q (m _ _ _ d ?_) ?_ λh' B a=>?_⟩
   ·simp (maxDischargeDepth:=60) only[ZM,ZL,evC,Nqa,Nqb,Nqc,Nqd,Nqe,reduceCtorEq]
   ·exact Zf5 (ZiJ hu) (.inl (by omega))
   ·have F:sz h+1<=sz h':=by have:=a.size;simp only[YR,ZbQ,ZiN]at this;exact this
    have ns:∀k,sz h0<=k->¬S k:=λk C hs=>by have:=H k hs;omega
    have g0:=Zal a (b:=sz h) (by simp only[ZbQ,ZiN];omega) (ns _ o);have g1:=Zal a (b:=b1) (by simp only[ZbQ,ZiN];omega) s1;have g3:=Zal a (b:=wb) (by simp only[ZbQ,ZiN];omega) u;simp (maxDischargeDepth:=60) only[ZM,ZL,evC,Nqa,Nqb,Nqc,Nqd,Nqe,reduceCtorEq,g0,g1,g3,c1,x,ZnU g,Ze8 g,ZnU l,Ze8 l,r];refine⟨⟨by omega,by omega,B,?_⟩,by omega⟩
    ·exact(Zf5 (ZiJ hu) (.inl o)).trans a
  ·rw [A];refine⟨z6,rfl,?_⟩;simp (maxDischargeDepth:=60) only[ZM,ZL,evC,Nqa,Nqb,Nqc,Nqd,Nqe,reduceCtorEq,r];refine⟨⟨by omega,by omega,I i _ (m _ _ _ d ?_) hp,?_⟩,by omega⟩
   ·simp (maxDischargeDepth:=60) only[ZM,ZL,evC,Nqa,Nqb,Nqc,Nqd,Nqe,reduceCtorEq]
   ·exact Zf5 (ZiJ hu) (.inl (by omega))
def ZBS(p:Int->C6):Nat->Int->C6->C6
  | 0,_,acc=>acc
  |n+1,i,acc=>ZBS p n (i+1) (ZmE acc (p i))
def ZoS(p:Int->C6)(lo i:Int):C6:=ZBS p (i- lo).toNat lo z6
theorem ZrL(p:Int->C6):∀(n:Nat) (i:Int) (acc:C6),ZBS p (n+1) i acc=ZmE (ZBS p n i acc) (p (i+n))
  | 0,i,acc=>by simp[ZBS]
  | n+1,i,acc=>by
    have:=ZrL p n (i+1) (ZmE acc (p i));show ZBS p (n+1) (i+1) (ZmE acc (p i))=_;rw[this];show ZmE _ _=ZmE (ZBS p n (i+1) (ZmE acc (p i))) _;congr 2;omega
theorem Zl6(p:Int->C6){lo i:Int}(h:lo<=i):ZoS p lo (i+1)=ZmE (ZoS p lo i) (p i):=by unfold ZoS;rw[show(i+1-lo).toNat=(i- lo).toNat+1 from by omega,ZrL];congr 2;omega
theorem Zug(p:Int->C6)(lo:Int):ZoS p lo lo=z6:=by unfold ZoS;simp[ZBS]
theorem Zxl{p:Int->C6}(a:∀i,Rt (p i))(lo:Int)(n:Nat):Rt (ZoS p lo (lo+n)):=by
  induction n with
  |zero=>rw[show lo+((0:Nat):Int)=lo from by omega,Zug];exact Rt.zero
  | succ n b=>
    rw[show lo+((n+1:Nat):Int)=lo+n+1 from by omega,Zl6 p (by omega)];exact b.two (a _)
def Win.sum(k:Wid)(w:Win)(at_:Int):C6:=ZoS w.p (loW k at_) (bkt k at_+1)
theorem Zpg{p:Int->C6}(a:∀i,Rt (p i)){lo i:Int}(h:lo<=i):Rt (ZoS p lo i):=by have:=Zxl a lo (i- lo).toNat;rwa[show lo+((i- lo).toNat:Int)=i from by omega]at this
theorem Zu0{k:Wid}{h:Zf}{wb mb:Nat}{w:Win}(hw:Zll k h wb mb w){at_:Int}{K:C6->Int->Zf->Prop}
    (q:∀h',Ext h h'->K (if YC w.last at_=0 then w.sum k at_ else z6) (YC w.last at_) h'):XK (some ⟨wb,0,none⟩) at_ K h:=by
  unfold XK Zek;have v:=Zp hw.cells;have x:=hw.mlt;simp (maxDischargeDepth:=60) only[ZM,ZL,evC,Nqa,Nqb,Nqc,Nqd,Nqe,reduceCtorEq];refine Zl1 (hw.congr (by simp (maxDischargeDepth:=60) only[ZM,ZL,evC,Nqa,Nqb,Nqc,Nqd,Nqe,reduceCtorEq,Ze8 v]) (by simp (maxDischargeDepth:=60) only[ZM,ZL,evC,Nqa,Nqb,Nqc,Nqd,Nqe,reduceCtorEq,Ze8 x])) ?_
  rcases Decidable.em (YC w.last at_=0)with he|he
  ·rw [if_pos he]at q
   rw[he]at q⊢;obtain⟨a0,I,R⟩:=Zgi he;have J:=Zli (k:=k) a0 I;simp (maxDischargeDepth:=60) only[ZM,ZL,evC,Nqa,Nqb,Nqc,Nqd,Nqe,reduceCtorEq,bne_self_eq_false,ZyR,ZnF];intro r;have L:loW k at_<=bkt k at_+1:=by have:=k.c0;unfold loW;omega
   have M:=ZnU v;have n30:=Ze8 v;have N:=ZnU x;have n40:=Ze8 x
   refine ZuU (w:=w) (at_:=at_) (wb:=wb) (mb:=mb) (hw.congr ?_ ?_) ?_ ?_ he (S:=λk=>k=sz h+1\/k=sz h+5) ?_ ?_ ?_ ?_ ?_
     (λi c=>obj c (sz h+5)=some (ZdC r .ready none)/\obj c (sz h+4)=some (.deferred (some []))/\obj c (sz h+1)=some (.cells (c6L (ZoS w.p (loW k at_) i)).toArray 52 (0,0))/\
       obj c (sz h)=some (.cells [iv 0,iv 0,iv 0,iv 0,iv 0,iv 0].toArray 52 (0,0))/\Ext h c/\loW k at_<=i) (T1:=201) (T2:=3) ?_ ?_ ?_ ?_ ?_
   ·simp (maxDischargeDepth:=60) only[ZM,ZL,evC,Nqa,Nqb,Nqc,Nqd,Nqe,reduceCtorEq,M,n30]
   ·simp (maxDischargeDepth:=60) only[ZM,ZL,evC,Nqa,Nqb,Nqc,Nqd,Nqe,reduceCtorEq,N,n40]
   ·simp (maxDischargeDepth:=60) only[ZM,ZL,evC,Nqa,Nqb,Nqc,Nqd,Nqe,reduceCtorEq]
   ·simp (maxDischargeDepth:=60) only[ZM,ZL,evC,Nqa,Nqb,Nqc,Nqd,Nqe,reduceCtorEq]
   ·intro k O;simp (maxDischargeDepth:=60) only[ZM,ZL,evC,Nqa,Nqb,Nqc,Nqd,Nqe,reduceCtorEq];omega
   ·omega
   ·omega
   ·omega
   ·omega
   ·rintro i c h' ⟨d,f,g,l,m,n⟩ e;exact⟨Zj d e,Zj f e,Zj g e,Zj l e,m.trans e,n⟩
   ·rintro i c ⟨d,f,g,l,m,n⟩ P;rw[Zl6 _ n,P,ZOF (Zpg hw.ok.p n)];exact⟨d,f,g,l,m,by omega⟩
   ·rintro i c T _ ⟨d,f,g,l,m,n⟩ hu y
    rw[ZrE];refine⟨rfl,rfl,d,⟨((IntKind.wrap .i64 (i*k.wid),w.p i),()),rfl,?_⟩⟩;have B:=Zp d;have C:=Zp f;have U:=Zp g;have V:=Zp l;have D:sz h+5<sz c+1:=by omega
    have z:∀j,j<=5->(sz h+j=sz c)=False/\(sz c=sz h+j)=False:=λj W=>⟨eq_false (by omega),eq_false (by omega)⟩;have t:=z 1 (by omega);have u:=z 5 (by omega);simp (maxDischargeDepth:=60) only[ZM,ZL,evC,Nqa,Nqb,Nqc,Nqd,Nqe,reduceCtorEq,Zrf,YX,Y7,d,g,t.1,t.2,u.1,u.2,c6L,D];refine Zuc (a:=ZoS w.p (loW k at_) i) (b:=w.p i) λh' o=>?_;have z':=ZmL o;simp (maxDischargeDepth:=60) only[ZM,ZL,evC,Nqa,Nqb,Nqc,Nqd,Nqe,reduceCtorEq,Y7]at z';have s:sz h+5<sz h':=by omega
    have A:=ZQ o (b:=sz h+1) (by simp (maxDischargeDepth:=60) only[ZM,ZL,evC,Nqa,Nqb,Nqc,Nqd,Nqe,reduceCtorEq,Y7];omega);have E:=ZQ o (b:=sz h+5) (by simp (maxDischargeDepth:=60) only[ZM,ZL,evC,Nqa,Nqb,Nqc,Nqd,Nqe,reduceCtorEq,Y7];omega);have F:=ZQ o (b:=sz h+4) (by simp (maxDischargeDepth:=60) only[ZM,ZL,evC,Nqa,Nqb,Nqc,Nqd,Nqe,reduceCtorEq,Y7];omega);have G:=ZQ o (b:=sz h) (by simp (maxDischargeDepth:=60) only[ZM,ZL,evC,Nqa,Nqb,Nqc,Nqd,Nqe,reduceCtorEq,Y7];omega);have H:=z 4 (by omega);have Q:(sz h=sz c)=False:=eq_false (by omega);simp (maxDischargeDepth:=60) only[ZM,ZL,evC,Nqa,Nqb,Nqc,Nqd,Nqe,reduceCtorEq,YX,Y7,d,f,g,l,Q,t.1,H.1,u.1,t.2,H.2,u.2,D]at A E F G;rw[<-Zl6 _ n];simp (maxDischargeDepth:=60) only[ZM,ZL,evC,Nqa,Nqb,Nqc,Nqd,Nqe,reduceCtorEq,YX,Y7,A,E,s,c6L];refine y _ ⟨?_,?_,?_,?_,?_,by omega⟩ ?_
    ·simp (maxDischargeDepth:=60) only[ZM,ZL,evC,Nqa,Nqb,Nqc,Nqd,Nqe,reduceCtorEq,YX,Y7,s]
    ·simp (maxDischargeDepth:=60) only[ZM,ZL,evC,Nqa,Nqb,Nqc,Nqd,Nqe,reduceCtorEq,YX,Y7,s,F]
    ·simp (maxDischargeDepth:=60) only[ZM,ZL,evC,Nqa,Nqb,Nqc,Nqd,Nqe,reduceCtorEq,YX,Y7,s,A,c6L]
    ·simp (maxDischargeDepth:=60) only[ZM,ZL,evC,Nqa,Nqb,Nqc,Nqd,Nqe,reduceCtorEq,YX,Y7,s,G]
    ·exact Zgh (Zb8 ((Zgh (Zb8 (X7 m) (by omega)) (by omega)).trans o) (by omega)) (by omega)
    ·exact ZhN (Zf5 ((ZhN (Zf5 (ZiJ (Upd.refl _ _)) (.inl (by omega))) (.inr (.inr rfl))).trans (o.upd _)) (.inr (.inl rfl))) (.inr (.inr rfl))
   ·simp (maxDischargeDepth:=60) only[ZM,ZL,evC,Nqa,Nqb,Nqc,Nqd,Nqe,reduceCtorEq,Zug,z6,c6L,Int.le_refl]
   ·rintro c ⟨d,f,g,l,m,n⟩ hu;refine⟨.ready,none,by decide,d,?_⟩;have B:=Zp d;have C:=Zp f;rw[Zn2];simp (maxDischargeDepth:=60) only[ZM,ZL,evC,Nqa,Nqb,Nqc,Nqd,Nqe,reduceCtorEq,YX,Y7,Zqz,d,f,g,l,B,C,c6L];exact q _ (Zgh (Zb8 (Zgh m (by omega)) (by omega)) (by omega))
  ·have:(YC w.last at_ !=0)=true:=by simpa using he
   rw[this];rw[if_neg he]at q;simp (maxDischargeDepth:=60) only[ZM,ZL,evC,Nqa,Nqb,Nqc,Nqd,Nqe,reduceCtorEq];exact q _ (by simp (maxDischargeDepth:=60) only[ZM,ZL,evC,Nqa,Nqb,Nqc,Nqd,Nqe,reduceCtorEq])
theorem Zuq{h:Zf}{s:Sl}{size:Nat}{vs:List Value}(a:Row h s size vs){i:Nat}(hi:i<s.len):∃b o,(∀{K:Nat->Nat->Prop} {n:Int},n=(i:Int)->K b o->Yk s.ptr s.len n size K)/\∀j v,j<size->vs[i*size+j]?=some v->Zy (o+j) (obj h b)=some v:=by
  rcases a.at_ with h0|⟨b,o,c,d⟩
  ·omega
  ·refine ⟨b,o+i*size,λ{K n} e f=>?_,λj v g hv=>?_⟩
   ·subst e;exact⟨b,o,c,by omega,by omega,by simpa using f⟩
   ·have:=Zh9 d hv;rw[Yg,<-Aqh]at this;exact this
theorem Zpo{c:C6}(k:Rt c){K:Bool->Zf->Prop}{h:Zf}(l:∀h',Ext h h'->K true h'):ZdY c K h:=by
  obtain⟨b,d,e,f,a,g,u⟩:=c;obtain⟨m,n,a3,a4,a5,o,p⟩:=k;dsimp only at m n a3 a4 a5 o p;unfold ZdY Zia;simp (maxDischargeDepth:=60) only[ZM,ZL,evC,Nqa,Nqb,Nqc,Nqd,Nqe,reduceCtorEq];refine YL (λs r=>∃i:Int,s=(i,())/\0<=i/\i<=6/\r=((h.push (.cells [iv b,iv d,iv e,iv f,iv a,iv g].toArray 52 (0,0))).push (.cells [iv b,iv d,iv e,iv f,iv a,iv g].toArray 3 (0,0)))) (λs _=>(6-s.1).toNat) ⟨0,rfl,by omega,by omega,rfl⟩ ?_;rintro _ _ ⟨i,rfl,t,hi,rfl⟩;dsimp only;refine Zn (λq=>?_) λq=>?_
  ·refine ⟨_,_,rfl,by omega,by omega,?_⟩
   have j:IntKind.wrap .i64 (i+1)=i+1:=Yw (by omega) (by omega);have v:i=0\/i=1\/i=2\/i=3\/i=4\/i=5:=by omega
   have D:∀x:Int,0<=x/\x<=4611686018427387904->decide (x<0)=false/\decide (x>4611686018427387904)=false:=λx k=>by constructor<;>simp<;>omega
   have d1:=D b (by omega);have d2:=D d (by omega);have d3:=D e (by omega);have d4:=D f (by omega);have d5:=D a (by omega);have d6:=D g (by omega)
   rcases v with rfl|rfl|rfl|rfl|rfl|rfl<;>simp (maxDischargeDepth:=60) only[ZM,ZL,evC,Nqa,Nqb,Nqc,Nqd,Nqe,reduceCtorEq,Aqv,d1.1,d1.2,d2.1,d2.2,d3.1,d3.2,d4.1,d4.2,d5.1,d5.2,d6.1,d6.2,j,Int.toNat_zero,Int.reduceToNat]<;>exact⟨⟨by omega,by omega⟩,by omega⟩
  ·have fin:K true ((h.push (.cells [iv b,iv d,iv e,iv f,iv a,iv g].toArray 52 (0,0))).push (.cells [iv b,iv d,iv e,iv f,iv a,iv g].toArray 3 (0,0))):=l _ (X7 (X7 (Ext.refl _)));simp (maxDischargeDepth:=60) only[ZM,ZL,evC,Nqa,Nqb,Nqc,Nqd,Nqe,reduceCtorEq];refine⟨λ_=>⟨λ_=>⟨λ_=>fin,λq=>?_⟩,λq=>?_⟩,λq=>?_⟩
   ·simp at q;rw[show(a==0)=true from by simp;omega];exact fin
   ·simp at q;omega
   ·simp at q;omega
theorem Zzb{h:Zf}{s:Sl}{a b:C6}(x:Row h s 6 (c6L a++c6L b))(C:Rt a)(L:Rt b){K:C6->Zf->Prop}(D:∀h',Ext h h'->K (ZmE a b) h'):ZeQ s K h:=by
  have hl:s.len=2:=by have:=x.len;simp[c6L]at this;omega
  unfold ZeQ Zi2;simp (maxDischargeDepth:=60) only[ZM,ZL,evC,Nqa,Nqb,Nqc,Nqd,Nqe,reduceCtorEq]
  refine YL (λst d=>∃i:Nat,st=((i:Int),())/\i<=2/\Ext h d/\obj d (sz h)=some (.cells [iv 0,iv 0,iv 0,iv 0,iv 0,iv 0].toArray 52 (0,0))/\obj d (sz h+1)=some (.cells (c6L (if i=0 then z6 else if i=1 then a else ZmE a b)).toArray 52 (0,0)))
    (λs _=>(2-s.1).toNat) ⟨0,rfl,by omega,by simp (maxDischargeDepth:=60) only[ZM,ZL,evC,Nqa,Nqb,Nqc,Nqd,Nqe,reduceCtorEq],by simp (maxDischargeDepth:=60) only[ZM,ZL,evC,Nqa,Nqb,Nqc,Nqd,Nqe,reduceCtorEq],by simp (maxDischargeDepth:=60) only[ZM,ZL,evC,Nqa,Nqb,Nqc,Nqd,Nqe,reduceCtorEq,z6,if_true,c6L]⟩ ?_
  rintro _ d ⟨i,rfl,hi,he,n,l⟩;dsimp only;have M:=Zp l;have g0:=Zp n;refine Zn (λq=>?_) λq=>?_
  ·have e:i<s.len:=by omega
   obtain⟨E,o,f,c⟩:=Zuq (x.ext he) e;refine f rfl ?_
   have hv:∀j,j<6->Zy (o+j) (obj d E)=(c6L (if i=0 then a else b))[j]?:=λj g=>by
     rcases(show i=0\/i=1 by omega)with rfl|rfl
     ·rw[if_pos rfl];obtain⟨v,hv⟩:∃v,(c6L a)[j]?=some v:=⟨_,Axy (by simpa[c6L]using g)⟩;rw[hv];exact c j v g (by rw[Aqs,Awb,Awu (by simpa[c6L]using g)];exact hv)
     ·rw[if_neg (by omega)];obtain⟨v,hv⟩:∃v,(c6L b)[j]?=some v:=⟨_,Axy (by simpa[c6L]using g)⟩;rw[hv];exact c j v g (by rw[Nat.one_mul,Awv (by simp[c6L])];simpa[c6L]using hv)
   have v0:=hv 0 (by omega);have v1:=hv 1 (by omega);have v2:=hv 2 (by omega);have v3:=hv 3 (by omega);have v4:=hv 4 (by omega);have v5:=hv 5 (by omega);have y:Rt (if i=0 then a else b):=by split<;>assumption
   generalize p:(if i=0 then a else b)=z at v0 v1 v2 v3 v4 v5 y;generalize r:(if i=0 then z6 else if i=1 then a else ZmE a b)=ac at l;simp only[c6L,Axg,Axh,Axi]at v0 v1 v2 v3 v4 v5;have F:(sz h+1=sz d)=False:=eq_false (by omega);have G:(sz h=sz d)=False:=eq_false (by omega);simp (maxDischargeDepth:=60) only[ZM,ZL,evC,Nqa,Nqb,Nqc,Nqd,Nqe,reduceCtorEq,v0,v1,v2,v3,v4,v5];refine Zpo y λh1 k=>?_;have H:=ZmL k;simp (maxDischargeDepth:=60) only[ZM,ZL,evC,Nqa,Nqb,Nqc,Nqd,Nqe,reduceCtorEq]at H;have A:=ZQ k (b:=sz d) (by simp (maxDischargeDepth:=60) only[ZM,ZL,evC,Nqa,Nqb,Nqc,Nqd,Nqe,reduceCtorEq]<;>omega);have t:=ZQ k (b:=sz h+1) (by simp (maxDischargeDepth:=60) only[ZM,ZL,evC,Nqa,Nqb,Nqc,Nqd,Nqe,reduceCtorEq]<;>omega);have B:=ZQ k (b:=sz h) (by simp (maxDischargeDepth:=60) only[ZM,ZL,evC,Nqa,Nqb,Nqc,Nqd,Nqe,reduceCtorEq]<;>omega);simp (maxDischargeDepth:=60) only[ZM,ZL,evC,Nqa,Nqb,Nqc,Nqd,Nqe,reduceCtorEq,F,G,l,n]at A t B;simp (maxDischargeDepth:=60) only[ZM,ZL,evC,Nqa,Nqb,Nqc,Nqd,Nqe,reduceCtorEq,A,t,c6L];refine Zuc (a:=ac) (b:=z) λN m=>?_;have O:=ZmL m;have I:=Zj t m;have J:=Zj B m;have u:IntKind.wrap .i64 ((i:Int)+1)=((i+1:Nat):Int):=by rw[Yw (by omega) (by omega)];omega
   have w:(sz h=sz h+1)=False:=eq_false (by omega);simp (maxDischargeDepth:=60) only[ZM,ZL,evC,Nqa,Nqb,Nqc,Nqd,Nqe,reduceCtorEq,I,c6L,u];refine⟨⟨i+1,rfl,by omega,Zb8 (((Zb8 (X7 he) (by omega)).trans k).trans m) (by omega),?_,?_⟩,by omega⟩
   ·simp (maxDischargeDepth:=60) only[ZM,ZL,evC,Nqa,Nqb,Nqc,Nqd,Nqe,reduceCtorEq,J,w]
   ·have:ZmE ac z=(if i+1=0 then z6 else if i+1=1 then a else ZmE a b):=by
      rw[<-r,<-p]
      rcases(show i=0\/i=1 by omega)with rfl|rfl
      ·simp[ZGJ C]
      ·simp
    rw[<-this]
  ·have e:i=2:=by omega
   subst e;simp (maxDischargeDepth:=60) only[ZM,ZL,evC,Nqa,Nqb,Nqc,Nqd,Nqe,reduceCtorEq,n,l,c6L];exact D _ (Zb8 he (by omega))
def ZEq(h:Zf)(mb it:Nat):Nat:=match h[it]?,h[mb]? with
  |some (.mapIter _ _ seen _),some (.map es _)=>(leftOf es seen).size
  |_,_=>0
theorem Zm4{h:Zf}{mb it:Nat}{f:Int->Option Value}{n:Nat}{rem:Int->Prop}{L:Nat}(b:Zks h mb it f n rem L):ZEq h mb it=L:=by obtain⟨es,c,since,seen,c0,d,hs,i,he,hi,hold,e,g,a⟩:=b;unfold ZEq;rw[hi,d];exact g
def Win.add(k:Wid)(w:Win)(at_:Int)(x:C6):Win:=⟨at_,λi=>if i=bkt k at_ then ZmE (w.p i) x else w.p i⟩
theorem ZiT{k:Wid}(b:(Int.tmod k.len k.cnt)=0)(hl:1<=k.len/\k.len<=1099511627776){h:Zf}{K:Option Addr->Int->Zf->Prop}(d:∀h',Zll k h' (sz h+1) (sz h) ⟨0,λ_=>z6⟩->Ext h h'->sz h'=sz h+2->K (some ⟨sz h+1,0,none⟩) 0 h'):ZcV k.len k.cnt K h:=by
  unfold ZcV Zj9;have e:=k.c0;have f:=k.c1;have c:((Int.tmod k.len k.cnt) !=0)=false:=by rw[b];rfl
  have g:decide (k.len<1)=false:=by simp;omega
  have j:decide (k.len>1099511627776)=false:=by simp;omega
  have l:decide (k.cnt<1)=false:=by simp;omega
  have m:decide (k.cnt>60)=false:=by simp;omega
  rw[g,j,l,m];simp (maxDischargeDepth:=60) only[Zbz,ZlU,ZxS,c];refine ZB (ZB (ZB (ZB ⟨by omega,ZB ?_⟩)));refine ZlX.new λh1 hm c a=>?_;simp (maxDischargeDepth:=60) only[ZM,ZL,evC,Nqa,Nqb,Nqc,Nqd,Nqe,reduceCtorEq];simp only[YR]at hm a;rw[a];refine d _ ⟨⟨by decide,by decide,λi=>Rt.zero⟩,?_,?_⟩ (X7 c) ?_
  ·simp (maxDischargeDepth:=60) only[ZM,ZL,evC,Nqa,Nqb,Nqc,Nqd,Nqe,reduceCtorEq,a]
  ·exact⟨_,_,hm.congr (Zkz hm.lt),(λi v hv=>by cases hv),λi _=>.inr ⟨rfl,rfl⟩⟩
  ·simp (maxDischargeDepth:=60) only[ZM,ZL,evC,Nqa,Nqb,Nqc,Nqd,Nqe,reduceCtorEq,a]
theorem Zna{k:Wid}{h:Zf}{wb mb:Nat}{w:Win}(hw:Zll k h wb mb w){at_:Int}{x:C6}(Y:Rt x){s:Sl}(hs:Row h s 6 (c6L x))(aB:∀b,s.blk=some b->b≠wb/\b≠mb){K:Int->Zf->Prop}
    (Z:∀h',Zll k h' wb mb (if YC w.last at_=0 then w.add k at_ x else w)->Upd (λj=>j=wb\/j=mb) h h'->K (YC w.last at_) h'):Xj (some ⟨wb,0,none⟩) at_ s K h:=by
  have bf:=k.c0;have bg:=k.c1;have hl:s.len=1:=by have:=hs.len;simp[c6L]at this;omega
  have l3:=Zp hw.cells;have l4:=hw.mlt
  have D:wb≠mb:=λe=>by
    obtain⟨f,n,⟨es,c,H,_⟩,_⟩:=hw.map;have:=hw.cells;rw[e]at this;rw[show obj h mb=h[mb]? from rfl,H]at this;cases this
  unfold Xj Zel;simp (maxDischargeDepth:=60) only[ZM,ZL,evC,Nqa,Nqb,Nqc,Nqd,Nqe,reduceCtorEq];refine Zl1 hw ?_
  rcases Decidable.em (YC w.last at_=0)with he|he
  case inr=>
    have:(YC w.last at_ !=0)=true:=by simpa using he
    rw[this];rw[if_neg he]at Z;exact Xh (Z _ hw (Upd.refl _ _))
  rw[if_pos he]at Z;rw[he]at Z⊢;obtain⟨a0,a1,a2⟩:=Zgi he;have bl:=Zli (k:=k) a0 a1;have bm:=ZuT (k:=k) a2;refine ZB ?_;refine YL (λst g=>∃i:Nat,st=((i:Int),())/\i<=1/\Ext h g) (λs _=>(1-s.1).toNat) ⟨0,rfl,by omega,Ext.refl _⟩ ?_;rintro _ g ⟨i,rfl,hi,l⟩;dsimp only;have zz:=ZmL l;refine Zn (λq=>?_) λq=>?_
  ·have aD:i=0:=by omega
   subst aD;obtain⟨bb,o,aa,a⟩:=Zuq (i:=0) (hs.ext l) (by omega);refine aa rfl ?_;have v0:=a 0 _ (by omega) (show(c6L x)[0]?=some (iv (x.1))from rfl);have v1:=a 1 _ (by omega) (show(c6L x)[1]?=some (iv (x.2.1))from rfl);have v2:=a 2 _ (by omega) (show(c6L x)[2]?=some (iv (x.2.2.1))from rfl);have v3:=a 3 _ (by omega) (show(c6L x)[3]?=some (iv (x.2.2.2.1))from rfl);have v4:=a 4 _ (by omega) (show(c6L x)[4]?=some (iv (x.2.2.2.2.1))from rfl);have v5:=a 5 _ (by omega) (show(c6L x)[5]?=some (iv (x.2.2.2.2.2.1))from rfl);simp only[Axi]at v0;simp (maxDischargeDepth:=60) only[ZM,ZL,evC,Nqa,Nqb,Nqc,Nqd,Nqe,reduceCtorEq,v0,v1,v2,v3,v4,v5];refine Zpo Y λh1 e1=>?_;have aE:IntKind.wrap .i64 (((0:Nat):Int)+1)=((1:Nat):Int):=by decide
   simp (maxDischargeDepth:=60) only[ZM,ZL,evC,Nqa,Nqb,Nqc,Nqd,Nqe,reduceCtorEq,aE];exact⟨⟨1,rfl,by omega,(Zb8 (X7 l) (by omega)).trans e1⟩,by decide⟩
  ·clear q
   have c3:=Zj hw.cells l;have n3:wb<sz g:=by omega
   have n4:mb<sz g:=by omega
   have ab:mb≠wb:=λe=>D e.symm
   have m:obj (Zf.put g wb 2 (iv at_)) wb=some (.cells [iv k.len,iv k.cnt,iv at_,.map (some mb)].toArray 282 (0,0)):=by
     simp (maxDischargeDepth:=60) only[ZM,ZL,evC,Nqa,Nqb,Nqc,Nqd,Nqe,reduceCtorEq,c3]
   have u1:Upd (λj=>j=wb\/j=mb) h (Zf.put g wb 2 (iv at_)):=Zxc (l.upd _) (.inr (.inl rfl));have aG:=(hw.congr (h':=g) (ZQ l l3) (ZQ l l4)).map;simp (maxDischargeDepth:=60) only[ZM,ZL,evC,Nqa,Nqb,Nqc,Nqd,Nqe,reduceCtorEq,c3,Zsz m a0 a1];obtain⟨f,n,hm,ae,U⟩:=aG;have I:ZlX (Zf.put g wb 2 (iv at_)) mb f n:=hm.congr (Zlx ab);have af:sz (Zf.put g wb 2 (iv at_))=sz g:=ZBQ;generalize Zf.put g wb 2 (iv at_)=F at m u1 I af⊢
   refine ZeK (λ_ J=>∃P n',ZlX J mb P n'/\(∀i v,P i=some v->∃x,v=c6V x/\Rt x)/\(∀i,bkt k at_-k.cnt<i->P i=some (c6V ((w.add k at_ x).p i))\/(P i=none/\(w.add k at_ x).p i=z6))/\
     obj J wb=some (.cells [iv k.len,iv k.cnt,iv at_,.map (some mb)].toArray 282 (0,0))/\Upd (λj=>j=wb\/j=mb) h J) ?_ ?_
   ·rintro _ J ⟨P,n',ag,Q,ah,c9,u9⟩;have l9:=Zp c9;have g9:=ag.lt;simp (maxDischargeDepth:=60) only[ZM,ZL,evC,Nqa,Nqb,Nqc,Nqd,Nqe,reduceCtorEq,c9];refine ag.range λbo R ai aJ=>?_;simp only[YR]at R aJ⊢
    have aK:(w.add k at_ x).OK:=⟨a0,a1,λi=>by
      have:=hw.ok.p i;unfold Win.add;dsimp only;split
      ·exact this.two Y
      ·exact this⟩
    refine YL (λ_ g=>∃r M rem L,Zks g mb (sz J) r M rem L/\(∀i,bkt k at_-k.cnt<i->r i=P i)/\(∀i v,r i=some v->P i=some v)/\obj g wb=some (.cells [iv k.len,iv k.cnt,iv at_,.map (some mb)].toArray 282 (0,0))/\Upd (λj=>j=wb\/j=mb) h g)
      (λ_ g=>ZEq g mb (sz J)) ⟨P,n',_,_,R,λ_ _=>rfl,λ_ _ hv=>hv,Zj c9 ai,u9.trans (ai.upd _)⟩ ?_
    rintro _ aL ⟨r,M,rem,L,hr,V,N,aj,O⟩;have aX:sz h<=sz J:=u9.size;refine ZeK (λs z=>(s.1=true/\∃kk S L',Zkt z mb (sz J) r M S L' kk/\L'<L/\obj z wb=some (.cells [iv k.len,iv k.cnt,iv at_,.map (some mb)].toArray 282 (0,0))/\Upd (λj=>j=wb\/j=mb) h z)\/(s.1=false/\z=aL)) ?_ ?_
    ·rintro ⟨b,_⟩ z (⟨H,kk,S,L',A,hL,an,B⟩ |⟨H,rfl⟩)
     ·simp only at H;subst H;refine Xh (A.ent λv hv=>⟨kk,rfl,?_⟩);obtain⟨y,rfl,hy⟩:=Q _ _ (N _ _ hv);refine⟨y,rfl,?_⟩;simp (maxDischargeDepth:=60) only[ZM,ZL,evC,Nqa,Nqb,Nqc,Nqd,Nqe,reduceCtorEq,an];refine Zn (λq=>?_) λq=>?_
      ·refine A.del λbp n13 T ao bq=>⟨⟨_,_,_,_,T,λi hi=>?_,λi v hv=>?_,Y0 an ao D,B.trans (ao.mono λj _ G=>.inr G)⟩,?_⟩
       ·rw[Yw (by omega) (by omega)]at q;rw[Zit _ _ (by omega)];exact V i hi
       ·unfold upd at hv;split at hv
        ·cases hv
        ·exact N i v hv
       ·rw[Zm4 T,Zm4 hr];exact hL
      ·exact⟨⟨_,_,_,_,A.go,V,N,B⟩,by rw[Zm4 A.go,Zm4 hr];exact hL⟩
     ·simp only at H;subst H;refine ZB ?_;refine Z _ ⟨aK,aj,r,M,hr.map,λi v hv=>Q i v (N i v hv),λi hi=>?_⟩ O;rw[V i hi];exact ah i hi
    ·refine hr.next (λ_=>?_) λkk v z L' bt hv A hL B bu=>?_
     ·exact .inr ⟨rfl,rfl⟩
     ·have aM:wb≠sz J:=by omega
      exact .inl ⟨rfl,kk,_,L',A,hL,Y0 aj B aM,⟨Aqp O.size B.size,λj G hn=>(B.old j (Aqq G O.size) (λe=>by have:j<sz h:=G;omega)).trans (O.old j G hn)⟩⟩
   ·have ck:Zy 3 (obj F wb)=some (.map (some mb)):=by rw[m];rfl
    have l2:=Zp m;simp (maxDischargeDepth:=60) only[ZM,ZL,evC,Nqa,Nqb,Nqc,Nqd,Nqe,reduceCtorEq,m]
    have aN:(f (bkt k at_)).getD (.agg #[iv 0,iv 0,iv 0,iv 0,iv 0,iv 0])=c6V (w.p (bkt k at_)):=by
      rcases U (bkt k at_) (by omega)with e|⟨e,ep⟩
      ·rw[e];rfl
      ·rw[e,ep];rfl
    have W:=hw.ok.p (bkt k at_);refine I.get (bkt k at_) ⟨w.p (bkt k at_),aN,?_⟩;rw[<-af]
    have ho:Own (F.push (.cells [iv (w.p (bkt k at_)).1,iv (w.p (bkt k at_)).2.1,iv (w.p (bkt k at_)).2.2.1,iv (w.p (bkt k at_)).2.2.2.1,iv (w.p (bkt k at_)).2.2.2.2.1,iv (w.p (bkt k at_)).2.2.2.2.2.1].toArray 52 (0,0))) (sz F) ⟨some ⟨sz F,0,none⟩,1,1⟩ 6 (c6L (w.p (bkt k at_))):=
      Own.newC (h:=F) (cells:=c6L (w.p (bkt k at_))) (t:=52) (size:=6) (n:=1) rfl (by decide)
    have aO:Row F s 6 (c6L x):=(hs.congr λb o H _ aP=>u1.old b aP λe=>by
      have:=aB b (by simp[Sl.blk,H])
      omega)
    refine(aO.ext (Ext.push _ _)).rd (Own.app ho (by rw[hl];rfl) (by simp[c6L,ZdD]) rfl (by rw[hl];show(1+1)*48<=140737488355328;decide) (by rw[hl];show 1+1<=140737488355328;decide) (by rw[YR,ZbQ];omega) λt h4 aR bx aS aZ=>?_)
    have e4:Ext F h4:=(Ext.push F _).then aS λj G=>by
      simp[Sl.blk]at G;subst G;exact Aqo _
    refine Zzb aR.row W Y λE e5=>?_;have X:=e4.trans e5;have c5:=Zj m X;have u5:Upd (λj=>j=wb\/j=mb) h E:=u1.trans (X.upd _);have ar:ZlX E mb f n:=I.congr (ZQ X I.lt);have pr:=W.two Y;have l5:=Zp c5;have av:=ar.lt;generalize aw:ZmE (w.p (bkt k at_)) x=d at pr⊢
    have old:∀i,bkt k at_-k.cnt<i->i≠bkt k at_->f i=some (c6V ((w.add k at_ x).p i))\/(f i=none/\(w.add k at_ x).p i=z6):=λi hi D=>by
      have:(w.add k at_ x).p i=w.p i:=if_neg D;rw[this];exact U i (by omega)
    have new:(w.add k at_ x).p (bkt k at_)=d:=(if_pos rfl).trans aw;simp (maxDischargeDepth:=60) only[ZM,ZL,evC,Nqa,Nqb,Nqc,Nqd,Nqe,reduceCtorEq,c6L,c5,ZnU l5,Ze8 l5,ZEn l5,ZxW l5]
    have u6:Upd (λj=>j=wb\/j=mb) h (Zf.puts (E.push (.cells [iv 0,iv 0,iv 0,iv 0,iv 0,iv 0].toArray 52 (0,0))) (sz E) 0 [iv d.1,iv d.2.1,iv d.2.2.1,iv d.2.2.2.1,iv d.2.2.2.2.1,iv d.2.2.2.2.2.1]):=
      Zf5 (ZiJ u5) (.inl (by have:sz h<=sz E:=u5.size;omega))
    have ax:ZlX (Zf.puts (E.push (.cells [iv 0,iv 0,iv 0,iv 0,iv 0,iv 0].toArray 52 (0,0))) (sz E) 0 [iv d.1,iv d.2.1,iv d.2.2.1,iv d.2.2.2.1,iv d.2.2.2.2.1,iv d.2.2.2.2.2.1]) mb f n:=
      ar.congr ((Zkx (by have:=av;simp only[YR]at this;omega)).trans (Zkz av))
    have aT:obj (Zf.puts (E.push (.cells [iv 0,iv 0,iv 0,iv 0,iv 0,iv 0].toArray 52 (0,0))) (sz E) 0 [iv d.1,iv d.2.1,iv d.2.2.1,iv d.2.2.2.1,iv d.2.2.2.2.1,iv d.2.2.2.2.2.1]) wb=some (.cells [iv k.len,iv k.cnt,iv at_,.map (some mb)].toArray 282 (0,0)):=by
      simp (maxDischargeDepth:=60) only[ZM,ZL,evC,Nqa,Nqb,Nqc,Nqd,Nqe,reduceCtorEq,c5,Ze8 l5]
    have aU:∀c:C6,(bif c.1==0 then(bif c.2.1==0 then(bif c.2.2.1==0 then(bif c.2.2.2.1==0 then(bif c.2.2.2.2.1==0 then(bif c.2.2.2.2.2.1==0 then true else false)else false)else false)else false)else false)else false)=decide (c=z6):=λc=>by
      obtain⟨c1,c2,c3,c4,c5,c6,u⟩:=c;simp only[z6,Prod.mk.injEq,Bool.cond_eq_ite,beq_iff_eq]
      by_cases h1:c1=0<;>by_cases F:c2=0<;>by_cases h3:c3=0<;>by_cases h4:c4=0<;>by_cases E:c5=0<;>by_cases h6:c6=0<;>simp[h1,F,h3,h4,E,h6]
    rw[aU d]
    rcases Decidable.em (d=z6)with h0|h0
    ·refine Zh (by simp[h0]) ?_;refine⟨f,n,ax,ae,λi hi=>?_,u6⟩
     by_cases C:i=bkt k at_
     ·subst C;rw[new,h0]
      rcases U (bkt k at_) (by omega)with e|⟨e,ep⟩
      ·have:w.p (bkt k at_)=z6:=ZGK W Y (aw.trans h0);rw[this]at e;exact .inl e
      ·exact .inr ⟨e,rfl⟩
     ·exact old i hi C
    ·refine Zm (by simp[h0]) ?_;refine ax.put (bkt k at_) (c6V d) λh7 aV u7 z7=>⟨_,_,aV,λi v hv=>?_,λi hi=>?_,Y0 aT u7 D,u6.trans (u7.mono λj _ G=>.inr G)⟩
     ·unfold upd at hv;split at hv
      ·cases hv;exact⟨d,rfl,pr⟩
      ·exact ae i v hv
     ·by_cases C:i=bkt k at_
      ·subst C;rw[Zea,new];exact .inl rfl
      ·rw[Zit _ _ C];exact old i hi C
def ZqS(p:Int->C6)(cur:Int):Nat->Int->Int->Int
  | 0,_,acc=>acc
  |n+1,i,acc=>ZqS p cur n (i+1) (if i=cur then acc else ZiE acc (p i).1)
def ZgR(p:Int->C6)(cur lo i:Int):Int:=ZqS p cur (i- lo).toNat lo 0
theorem Zpz(p:Int->C6)(cur:Int):∀(n:Nat) (i acc:Int),ZqS p cur (n+1) i acc=if i+n=cur then ZqS p cur n i acc else ZiE (ZqS p cur n i acc) (p (i+n)).1
  | 0,i,acc=>by simp[ZqS]
  | n+1,i,acc=>by
    have:=Zpz p cur n (i+1) (if i=cur then acc else ZiE acc (p i).1);show ZqS p cur (n+1) (i+1) _=_;rw[this,show i+1+(n:Int)=i+((n+1:Nat):Int)from by omega];rfl
theorem Zk6(p:Int->C6)(cur:Int){lo i:Int}(h:lo<=i):ZgR p cur lo (i+1)=if i=cur then ZgR p cur lo i else ZiE (ZgR p cur lo i) (p i).1:=by unfold ZgR;rw[show(i+1-lo).toNat=(i- lo).toNat+1 from by omega,Zpz,show lo+((i- lo).toNat:Int)=i from by omega]
theorem ZxT(p:Int->C6)(cur lo:Int):ZgR p cur lo lo=0:=by unfold ZgR;simp[ZqS]
theorem Zux{p:Int->C6}{cur:Int}:∀(n:Nat) (i acc:Int),0<=acc->0<=ZqS p cur n i acc
  | 0,i,acc,h=>h
  |n+1,i,acc,h=>Zux n (i+1) _ (by split;exact h;rw[ZtA];omega)
def Win.most(k:Wid)(w:Win)(at_:Int):Int:=ZgR w.p (bkt k at_) (loW k at_) (bkt k at_+1)
theorem ZpX{k:Wid}{h:Zf}{wb:Nat}{r:List Value}(a:obj h wb=some (.cells (iv k.len::iv k.cnt::r).toArray 282 (0,0))){at_:Int}{K:Int->Zf->Prop}:
    ZR (some ⟨wb,0,none⟩) at_ K h=K (IntKind.wrap .i64 (Int.tdiv at_ k.wid)) h:=by
  unfold ZR ZaK;have b:k.cnt≠0:=by have:=k.c0;omega
  have c:k.wid≠0:=by have:=k.w0;omega
  simp (maxDischargeDepth:=60) only[ZM,ZL,evC,Nqa,Nqb,Nqc,Nqd,Nqe,reduceCtorEq,a,k.e];simp[b,c]
theorem ZyN{k:Wid}{at_ i:Int}(h0:0<=i)(hi:i<=bkt k at_)(b:0<=at_)(a:at_<=1152921504606846976):IntKind.wrap .i64 (Int.tdiv (IntKind.wrap .i64 (i*k.wid)) k.wid)=i:=by have c:=k.w0;have h1:i*k.wid<=at_:=Int.le_trans (Int.mul_le_mul_of_nonneg_right hi (by omega)) (Int.ediv_mul_le at_ (by omega));have d:0<=i*k.wid:=Int.mul_nonneg h0 (by omega);have e:=Zli (k:=k) b a;rw[Yw (n:=i*k.wid) (by omega) (by omega),Int.mul_tdiv_cancel _ (by omega),Yw (by omega) (by omega)]
theorem ZsH{k:Wid}{h:Zf}{wb mb:Nat}{w:Win}(hw:Zll k h wb mb w){at_:Int}{K:Int->Int->Zf->Prop}
    (z:∀h',Ext h h'->K (if YC w.last at_=0 then w.most k at_ else 0) (YC w.last at_) h'):Zad (some ⟨wb,0,none⟩) at_ K h:=by
  unfold Zad ZdH;have E:=Zp hw.cells;have F:=hw.mlt;simp (maxDischargeDepth:=60) only[ZM,ZL,evC,Nqa,Nqb,Nqc,Nqd,Nqe,reduceCtorEq];refine Zl1 (hw.congr (by simp (maxDischargeDepth:=60) only[ZM,ZL,evC,Nqa,Nqb,Nqc,Nqd,Nqe,reduceCtorEq,Ze8 E,ZnU E]) (by simp (maxDischargeDepth:=60) only[ZM,ZL,evC,Nqa,Nqb,Nqc,Nqd,Nqe,reduceCtorEq,Ze8 F,ZnU F])) ?_
  rcases Decidable.em (YC w.last at_=0)with he|he
  ·rw [if_pos he]at z
   rw[he]at z⊢;obtain⟨a0,G,U⟩:=Zgi he;have O:=Zli (k:=k) a0 G;simp (maxDischargeDepth:=60) only[ZM,ZL,evC,Nqa,Nqb,Nqc,Nqd,Nqe,reduceCtorEq,bne_self_eq_false,ZyR,ZnF];intro r;have P:loW k at_<=bkt k at_+1:=by have:=k.c0;unfold loW;omega
   have J:0<=loW k at_:=by unfold loW;omega
   have L:=ZnU E;have n30:=Ze8 E;have Q:=ZnU F;have n40:=Ze8 F
   refine ZuU (w:=w) (at_:=at_) (wb:=wb) (mb:=mb) (hw.congr ?_ ?_) ?_ ?_ he (S:=λk=>k=sz h+2\/k=sz h+6) ?_ ?_ ?_ ?_ ?_
     (λi b=>obj b (sz h+6)=some (ZdC r .ready none)/\obj b (sz h+5)=some (.deferred (some []))/\obj b (sz h+2)=some (.cells [iv (ZgR w.p (bkt k at_) (loW k at_) i)].toArray 3 (0,0))/\
       obj b (sz h)=some (.cells [.pointer (some ⟨wb,0,none⟩)].toArray 201 (0,0))/\obj b (sz h+1)=some (.cells [iv at_].toArray 3 (0,0))/\obj b wb=some (.cells [iv k.len,iv k.cnt,iv w.last,.map (some mb)].toArray 282 (0,0))/\Ext h b/\loW k at_<=i) (T1:=201) (T2:=3) ?_ ?_ ?_ ?_ ?_
   ·simp (maxDischargeDepth:=60) only[ZM,ZL,evC,Nqa,Nqb,Nqc,Nqd,Nqe,reduceCtorEq,L,n30]
   ·simp (maxDischargeDepth:=60) only[ZM,ZL,evC,Nqa,Nqb,Nqc,Nqd,Nqe,reduceCtorEq,Q,n40]
   ·simp (maxDischargeDepth:=60) only[ZM,ZL,evC,Nqa,Nqb,Nqc,Nqd,Nqe,reduceCtorEq]
   ·simp (maxDischargeDepth:=60) only[ZM,ZL,evC,Nqa,Nqb,Nqc,Nqd,Nqe,reduceCtorEq]
   ·intro k R;simp (maxDischargeDepth:=60) only[ZM,ZL,evC,Nqa,Nqb,Nqc,Nqd,Nqe,reduceCtorEq];omega
   ·omega
   ·omega
   ·omega
   ·omega
   ·rintro i b h' ⟨c,m,d,f,s,t,u,x⟩ e;exact⟨Zj c e,Zj m e,Zj d e,Zj f e,Zj s e,Zj t e,u.trans e,x⟩
   ·rintro i b ⟨c,m,d,f,s,t,u,x⟩ T
    have A:ZgR w.p (bkt k at_) (loW k at_) (i+1)=ZgR w.p (bkt k at_) (loW k at_) i:=by
      rw[Zk6 _ _ x,T];split
      ·rfl
      ·have:=Zux (p:=w.p) (cur:=bkt k at_) (i- loW k at_).toNat (loW k at_) 0 (by omega);rw[ZtA];show max (ZgR _ _ _ _) 0=_;unfold ZgR;omega
    rw[A];exact⟨c,m,d,f,s,t,u,by omega⟩
   ·rintro i b V H ⟨c,m,d,f,s,t,u,x⟩ hu B
    rw[ZrE];refine⟨rfl,rfl,c,⟨((IntKind.wrap .i64 (i*k.wid),w.p i),()),rfl,?_⟩⟩;have M:=Zp c;have N:=Zp m;have W:=Zp d;have X:=Zp f;have a:sz h+6<sz b+1:=by omega
    have C:∀j,j<=6->(sz h+j=sz b)=False/\(sz b=sz h+j)=False:=λj Y=>⟨eq_false (by omega),eq_false (by omega)⟩;have y:(sz h=sz b)=False:=eq_false (by omega);have g:(sz b=sz h)=False:=eq_false (by omega);have n:=C 1 (by omega);have o:=C 2 (by omega);have v:=C 6 (by omega);have mw:(wb=sz b)=False:=eq_false (by omega);have l:(wb=sz h+6)=False:=eq_false (by omega);simp (maxDischargeDepth:=60) only[ZM,ZL,evC,Nqa,Nqb,Nqc,Nqd,Nqe,reduceCtorEq,Zrf,YX,Y7,c,d,f,s,y,g,n.1,n.2,o.1,o.2,v.1,v.2,c6L,a];refine(ZpX (k:=k) (r:=[iv w.last,.map (some mb)]) ?_).mpr ?_
    ·simp (maxDischargeDepth:=60) only[ZM,ZL,evC,Nqa,Nqb,Nqc,Nqd,Nqe,reduceCtorEq,YX,Y7,t,mw,l,a]
    simp (maxDischargeDepth:=60) only[ZM,ZL,evC,Nqa,Nqb,Nqc,Nqd,Nqe,reduceCtorEq,YX,Y7,c,d,f,s,y,g,n.1,n.2,o.1,o.2,v.1,v.2,c6L,a];refine(ZpX (k:=k) (r:=[iv w.last,.map (some mb)]) ?_).mpr ?_
    ·simp (maxDischargeDepth:=60) only[ZM,ZL,evC,Nqa,Nqb,Nqc,Nqd,Nqe,reduceCtorEq,YX,Y7,t,mw,l,a]
    rw[Zud a0 G,ZyN (by omega) H a0 G];refine Zdt (λq=>?_) λq=>?_
    ·have A:ZgR w.p (bkt k at_) (loW k at_) (i+1)=ZiE (ZgR w.p (bkt k at_) (loW k at_) i) (w.p i).1:=by rw[Zk6 _ _ x,if_neg q]
     simp (maxDischargeDepth:=60) only[ZM,ZL,evC,Nqa,Nqb,Nqc,Nqd,Nqe,reduceCtorEq,YX,Y7,c,m,d,f,s,t,mw,l,y,g,n.1,n.2,o.1,o.2,v.1,v.2,a];rw[<-A];have nm:(sz h=sz h+6)=False/\(sz h+1=sz h+6)=False:=⟨eq_false (by omega),eq_false (by omega)⟩;refine B _ ⟨?_,?_,?_,?_,?_,?_,?_,by omega⟩ ?_
     ·simp (maxDischargeDepth:=60) only[ZM,ZL,evC,Nqa,Nqb,Nqc,Nqd,Nqe,reduceCtorEq,YX,Y7,a]
     ·have D:=C 5 (by omega);simp (maxDischargeDepth:=60) only[ZM,ZL,evC,Nqa,Nqb,Nqc,Nqd,Nqe,reduceCtorEq,YX,Y7,a,m,D.1,D.2]
     ·simp (maxDischargeDepth:=60) only[ZM,ZL,evC,Nqa,Nqb,Nqc,Nqd,Nqe,reduceCtorEq,YX,Y7,a,d,o.1,o.2]
     ·simp (maxDischargeDepth:=60) only[ZM,ZL,evC,Nqa,Nqb,Nqc,Nqd,Nqe,reduceCtorEq,YX,Y7,a,f,y,g]
     ·simp (maxDischargeDepth:=60) only[ZM,ZL,evC,Nqa,Nqb,Nqc,Nqd,Nqe,reduceCtorEq,YX,Y7,a,s,n.1,n.2]
     ·have I:(wb=sz h+2)=False:=eq_false (by omega);simp (maxDischargeDepth:=60) only[ZM,ZL,evC,Nqa,Nqb,Nqc,Nqd,Nqe,reduceCtorEq,YX,Y7,a,t,mw,l,I]
     ·exact Zgh (ZtL (Zgh (Zb8 (X7 u) (by omega)) (by omega)) (by omega)) (by omega)
     ·exact ZhN (Zxc (ZhN (Zf5 (ZiJ (Upd.refl _ _)) (.inl (by omega))) (.inr (.inr rfl))) (.inr (.inl rfl))) (.inr (.inr rfl))
    ·have A:ZgR w.p (bkt k at_) (loW k at_) (i+1)=ZgR w.p (bkt k at_) (loW k at_) i:=by rw[Zk6 _ _ x,if_pos q]
     simp (maxDischargeDepth:=60) only[ZM,ZL,evC,Nqa,Nqb,Nqc,Nqd,Nqe,reduceCtorEq,YX,Y7,c,m,d,f,s,t,mw,l,y,g,n.1,n.2,o.1,o.2,v.1,v.2,a];refine B _ ⟨?_,?_,?_,?_,?_,?_,?_,by omega⟩ ?_
     ·simp (maxDischargeDepth:=60) only[ZM,ZL,evC,Nqa,Nqb,Nqc,Nqd,Nqe,reduceCtorEq,YX,Y7,a]
     ·have D:=C 5 (by omega);simp (maxDischargeDepth:=60) only[ZM,ZL,evC,Nqa,Nqb,Nqc,Nqd,Nqe,reduceCtorEq,YX,Y7,a,m,D.1,D.2]
     ·simp (maxDischargeDepth:=60) only[ZM,ZL,evC,Nqa,Nqb,Nqc,Nqd,Nqe,reduceCtorEq,YX,Y7,a,d,o.1,o.2,A]
     ·simp (maxDischargeDepth:=60) only[ZM,ZL,evC,Nqa,Nqb,Nqc,Nqd,Nqe,reduceCtorEq,YX,Y7,a,f,y,g]
     ·simp (maxDischargeDepth:=60) only[ZM,ZL,evC,Nqa,Nqb,Nqc,Nqd,Nqe,reduceCtorEq,YX,Y7,a,s,n.1,n.2]
     ·simp (maxDischargeDepth:=60) only[ZM,ZL,evC,Nqa,Nqb,Nqc,Nqd,Nqe,reduceCtorEq,YX,Y7,a,t,mw,l]
     ·exact Zgh (Zgh (Zb8 (X7 u) (by omega)) (by omega)) (by omega)
     ·exact ZhN (ZhN (Zf5 (ZiJ (Upd.refl _ _)) (.inl (by omega))) (.inr (.inr rfl))) (.inr (.inr rfl))
   ·simp (maxDischargeDepth:=60) only[ZM,ZL,evC,Nqa,Nqb,Nqc,Nqd,Nqe,reduceCtorEq,ZxT,Int.le_refl,hw.cells,L,n30]
   ·rintro b ⟨c,m,d,f,s,t,u,x⟩ hu;refine⟨.ready,none,by decide,c,?_⟩;have M:=Zp c;have N:=Zp m;rw[Zn2];simp (maxDischargeDepth:=60) only[ZM,ZL,evC,Nqa,Nqb,Nqc,Nqd,Nqe,reduceCtorEq,YX,Y7,Zqz,c,m,d,f,M,N];exact z _ (Zgh (Zgh u (by omega)) (by omega))
  ·have:(YC w.last at_ !=0)=true:=by simpa using he
   rw[this];rw[if_neg he]at z;simp (maxDischargeDepth:=60) only[ZM,ZL,evC,Nqa,Nqb,Nqc,Nqd,Nqe,reduceCtorEq];exact z _ (by simp (maxDischargeDepth:=60) only[ZM,ZL,evC,Nqa,Nqb,Nqc,Nqd,Nqe,reduceCtorEq])
theorem ZtC{h:Zf}{mb:Nat}{f:Int->Option Value}{n:Nat}(b:ZlX h mb f n){K:Option Nat->Zf->Prop}(d:∀h',ZlX h' (sz h) f n->Ext h h'->sz h'=sz h+1->K (some (sz h)) h'):ZS (some mb) K h:=by unfold ZS Yx;obtain⟨es,c,e,a⟩:=b;exact ZB ⟨280,mb,es,c,rfl,e,_,rfl,_,rfl,d (h.push (.map es c)) ⟨es,c,Zdi,a⟩ (Ext.push _ _) ZbQ⟩
theorem Zp7{k:Wid}{h:Zf}{wb mb:Nat}{w:Win}(hw:Zll k h wb mb w){K:Option Addr->Zf->Prop}(a:∀h',Zll k h' (sz h) (sz h+1) w->Ext h h'->sz h'=sz h+2->K (some ⟨sz h,0,none⟩) h'):Zbp (some ⟨wb,0,none⟩) K h:=by
  unfold Zbp ZdJ;have u:=Zp hw.cells;have v:=hw.mlt;have c:=hw.cells;refine ZB (Zi (rI (Zb c rfl) (rI (Zb c rfl) (rI (Zb c rfl) (rM (Zb c rfl) (ZF λh1 c1 o p=>?_))))));refine ZaN c1 λg q s x=>?_;have d:Ext h g:=o.then s λk a=>by simp only[a,YR];exact Aqo _
  have e:=Zj c d;refine Zi (rM (Zb e rfl) ?_);obtain⟨f,n,hm,r⟩:=hw.map;refine ZtC (hm.congr (ZQ d hm.lt)) λh3 b i z3=>?_;have t:=Zj q i;refine ZcS t (show 3<4 by decide) rfl λy j l z4=>?_;have m:sz g=sz h+1:=by have:h1.size=h.size+1:=p;simp only[YR]at this;omega
  rw[m]at b z3;refine a _ ⟨hw.ok,?_,f,n,b.congr (l.old _ (by simp only[YR];omega) (by simp only[YR];omega)),r⟩ ((d.trans i).then l λk a=>by simp only[a,YR];exact Aqo _) (by omega);rw[m]at j;exact j
structure Node where
  last:Int
  s:Int->C6
  d:Int->C6
  fl:Int
def Node.zero:Node:=⟨0,λ_=>z6,λ_=>z6,0⟩
structure ZjG(h:Zf)(nb a ma b mb:Nat)(n:Node):Prop where
  cells:obj h nb=some (.cells [.pointer (some ⟨a,0,none⟩),.pointer (some ⟨b,0,none⟩),iv n.fl].toArray 216 (0,0))
  ws:Zll .sec h a ma ⟨n.last,n.s⟩
  wd:Zll .dbl h b mb ⟨n.last,n.d⟩
  fl:0<=n.fl/\n.fl<=4096
def Zg6(h:Zf)(q:Nat)(n:Node):Prop:=ZjG h (q+4) (q+1) q (q+3) (q+2) n
theorem Zg6.congr{h h':Zf}{q:Nat}{n:Node}(a:Zg6 h q n)(he:∀j,q<=j->j<q+5->obj h' j=obj h j):Zg6 h' q n:=
  ⟨(he _ (by omega) (by omega)).trans a.cells,a.ws.congr (he _ (by omega) (by omega)) (he _ (by omega) (by omega)),a.wd.congr (he _ (by omega) (by omega)) (he _ (by omega) (by omega)),a.fl⟩
theorem Zg6.lt{h:Zf}{q:Nat}{n:Node}(a:Zg6 h q n):q+4<sz h:=Zp a.cells
theorem Zg6.ext{h h':Zf}{q:Nat}{n:Node}(a:Zg6 h q n)(he:Ext h h'):Zg6 h' q n:=a.congr λj _ b=>ZQ he (by have:=a.lt;omega)
theorem Zws{h:Zf}{K:Option Addr->Zf->Prop}(g:∀h',Zg6 h' (sz h) Node.zero->Ext h h'->sz h'=sz h+5->K (some ⟨sz h+4,0,none⟩) h'):ZkB K h:=by unfold ZkB Zmt;refine ZiT (k:=.sec) (by decide) (by decide) λh1 w1 i d=>Za ?_;refine ZiT (k:=.dbl) (by decide) (by decide) λe f c j=>Za (ZF λh3 l b z3=>?_);have m:sz h3=sz e+1:=z3;have a:obj h3 (sz e)=_:=l;simp only[YR];rw[d]at f a;rw[j,d]at a⊢;refine g h3 ⟨?_,(w1.congr (ZQ c (by omega)) (ZQ c (by omega))).congr (ZQ b (by omega)) (ZQ b (by omega)),f.congr (ZQ b (by omega)) (ZQ b (by omega)),by decide⟩ ((i.trans c).trans b) (by omega);exact a
theorem ZjG.ext{h h':Zf}{d a e b mb:Nat}{n:Node}(c:ZjG h d a e b mb n)(he:Ext h h'):ZjG h' d a e b mb n:=
  ⟨Zj c.cells he,c.ws.congr (ZQ he (Zp c.ws.cells)) (ZQ he c.ws.mlt),c.wd.congr (ZQ he (Zp c.wd.cells)) (ZQ he c.wd.mlt),c.fl⟩
def Node.sum(n:Node)(at_:Int):C6:=if YC n.last at_=0 then Win.sum .sec ⟨n.last,n.s⟩ at_ else z6
theorem Zy7{h:Zf}{f a j b mb:Nat}{n:Node}(l:ZjG h f a j b mb n){at_:Int}{K:C6->Int->Zf->Prop}(e:∀h',Ext h h'->K (n.sum at_) (YC n.last at_) h'):Xg (some ⟨f,0,none⟩) at_ K h:=by
  unfold Xg Zfm;refine ZF λh1 c1 g q=>Za (ZB (Zi ?_));have d:=l.ext g;refine rP (Zb d.cells rfl) (Zu0 d.ws λr i=>?_);have m:=Zj c1 i;refine ZaN m λh3 c o z3=>Za ?_;have p:Ext h h3:=(g.trans i).then o λk e=>by subst e;exact Aqo _
  exact rI (Zb c rfl) (rI (Zb c rfl) (rI (Zb c rfl) (rI (Zb c rfl) (rI (Zb c rfl) (rI (Zb c rfl) (e h3 p))))))
def Node.past(n:Node)(at_:Int):Int:=if YC n.last at_=0 then Win.most .dbl ⟨n.last,n.d⟩ at_ else 0
def Node.most(n:Node)(at_:Int):Int:=if YC n.last at_=0 then Win.most .sec ⟨n.last,n.s⟩ at_ else 0
theorem Zy5{h:Zf}{c a e b mb:Nat}{n:Node}(d:ZjG h c a e b mb n){at_:Int}{K:Int->Int->Zf->Prop}(f:∀h',Ext h h'->K (n.past at_) (YC n.last at_) h'):ZaV (some ⟨c,0,none⟩) at_ K h:=by unfold ZaV Zeg;exact Za (Za (ZB (Zi (rP (Zb d.cells rfl) (ZsH d.wd λh' g=>Za (Za (f h' g)))))))
theorem Zww{h:Zf}{c a e b mb:Nat}{n:Node}(d:ZjG h c a e b mb n){at_:Int}{K:Int->Int->Zf->Prop}(f:∀h',Ext h h'->K (n.most at_) (YC n.last at_) h'):ZaW (some ⟨c,0,none⟩) at_ K h:=by unfold ZaW Zeh;exact Za (Za (ZB (Zi (rP (Zb d.cells rfl) (ZsH d.ws λh' g=>Za (Za (f h' g)))))))
theorem ZoC{h:Zf}{c a d b mb:Nat}{n:Node}(e:ZjG h c a d b mb n){K:Int->Zf->Prop}(f:K n.fl h):Ys (some ⟨c,0,none⟩) K h:=by unfold Ys ZcO;exact Za (ZB (Zi (rI (Zb e.cells rfl) (Za f))))
theorem ZmP{K:Int->Zf->Prop}{h:Zf}(a:K 0 h):Ys none K h:=by unfold Ys ZcO;exact Za (Xh (Za a))
theorem Zwx{h:Zf}{j a o b mb:Nat}{n:Node}(e:ZjG h j a o b mb n){K:Option Addr->Zf->Prop}(p:∀h',ZjG h' (sz h+4) (sz h) (sz h+1) (sz h+2) (sz h+3) n->Ext h h'->sz h'=sz h+5->K (some ⟨sz h+4,0,none⟩) h'):ZaY (some ⟨j,0,none⟩) K h:=by unfold ZaY Zei;refine ZB (Zi (Zi (Zi (rP (Zb e.cells rfl) (rP (Zb e.cells rfl) (rI (Zb e.cells rfl) ?_))))));refine Zp7 e.ws λh1 w1 k l=>?_;have c:=e.ext k;refine⟨Yj (Zb c.cells rfl),Yj (Zb c.cells rfl),Zp7 c.wd λq m i r=>?_⟩;have g:=c.ext i;refine⟨Yj (Zb g.cells rfl),ZF λh3 s f z3=>⟨Yj (Zb (g.ext f).cells rfl),?_⟩⟩;simp only[YR]at z3⊢;have d:obj h3 (sz q)=_:=s;rw[l]at m d;rw[r,l]at d⊢;exact p h3 ⟨d,(w1.congr (ZQ i (by omega)) (ZQ i (by omega))).congr (ZQ f (by omega)) (ZQ f (by omega)),m.congr (ZQ f (by omega)) (ZQ f (by omega)),e.fl⟩ ((k.trans i).trans f) (by omega)
theorem Zt0{h:Zf}{K:Option Addr->Zf->Prop}(a:K none h):ZaY none K h:=by unfold ZaY Zei;exact Xh a
def Node.add(n:Node)(at_:Int)(x:C6):Node:=⟨at_,(Win.add .sec ⟨n.last,n.s⟩ at_ x).p,(Win.add .dbl ⟨n.last,n.d⟩ at_ x).p,n.fl⟩
theorem Zr0{h:Zf}{q:Nat}{n:Node}(c:Zg6 h q n){at_:Int}(he:YC n.last at_=0){x:C6}(l:Rt x){s:Sl}(hs:Row h s 6 (c6L x))(a:∀b,s.blk=some b->b<q\/q+5<=b){K:Zf->Prop}
    (u:∀h',Zg6 h' q (n.add at_ x)->Upd (λj=>q<=j/\j<q+5) h h'->K h'):ZaT (some ⟨q+4,0,none⟩) at_ s K h:=by
  unfold ZaT ZgC;refine Zi (rP (Zb c.cells rfl) ?_);refine Zna c.ws l hs (λb d=>by have:=a b d;omega) λh1 w1 f=>?_;have lt:=c.lt;rw[if_pos he]at w1;have g:∀j,j<sz h->j≠q+1->j≠q->obj h1 j=obj h j:=λj e v w=>f.old j e (by omega);have m:obj h1 (q+4)=_:=(g _ (by omega) (by omega) (by omega)).trans c.cells;refine Zi (rP (Zb m rfl) ?_);have i:Row h1 s 6 (c6L x):=hs.congr λb o d _ hl=>f.old b hl (by have:=a b (by simp[Sl.blk,d]);omega);have y:=f.size;refine Zna (c.wd.congr (g _ (by omega) (by omega) (by omega)) (g _ (by omega) (by omega) (by omega))) l i (λb d=>by have:=a b d;omega) λp r t=>?_;rw[if_pos he]at r;have z:sz h<=sz h1:=y;have k:∀j,j<sz h->j≠q+3->j≠q+2->obj p j=obj h1 j:=λj e v w=>t.old j (Aqq e z) (by omega);refine u p ⟨(k _ (by omega) (by omega) (by omega)).trans m,w1.congr (k _ (by omega) (by omega) (by omega)) (k _ (by omega) (by omega) (by omega)),r,c.fl⟩ ?_;exact(f.mono λj _ e=>by omega).trans (t.mono λj _ e=>by omega)
def Zar(last at_ c:Int):Int:=if at_<0\/1152921504606846976<at_ then 2 else if c<1\/1099511627776<c then 2 else if at_<last then 7 else 0
theorem ZuA{last at_ c:Int}(h:Zar last at_ c=0):YC last at_=0/\1<=c/\c<=1099511627776:=by
  unfold Zar at h;unfold YC;split at h
  ·cases h
  ·split at h
   ·cases h
   ·split at h
    ·cases h
    ·rw[if_neg (by omega),if_neg (by omega),if_neg (by omega)];omega
theorem ZvL{at_:Int}{K:Bool->Zf->Prop}{h:Zf}(a:K (inB at_ 0 1152921504606846976) h):ZeR at_ K h:=by unfold ZeR Zi4;unfold inB at a;exact⟨λe=>by rw[e]at a;exact Zd a,λe=>by rw[e]at a;exact a⟩
theorem ZpD{h:Zf}{k a m b mb:Nat}{n:Node}(l:ZjG h k a m b mb n){at_ c:Int}{s:Sl}(hs:Row h s 1 [iv c]){K:Int->Zf->Prop}(d:K (Zar n.last at_ c) h):ZaU (some ⟨k,0,none⟩) at_ s K h:=by
  unfold ZaU ZgD;refine Za (ZB (ZvL ?_));have hl:s.len=1:=by have:=hs.len;simp at this;omega
  by_cases f:at_<0\/1152921504606846976<at_
  ·have:inB at_ 0 1152921504606846976=false:=by unfold inB;simp;omega
   rw[this];unfold Zar at d;rw[if_pos f]at d;exact Xh (Za d)
  have:inB at_ 0 1152921504606846976=true:=by unfold inB;simp;omega
  rw[this];refine ZB (Zaj (λt h'=>∃i:Nat,t=((i:Int),())/\h'=h/\(i=0\/(i=1/\¬(c<1\/1099511627776<c)))) (λt _=>(1-t.1).toNat) ⟨0,rfl,rfl,.inl rfl⟩ ?_);rintro _ h' ⟨i,rfl,p,hi⟩ Q r;dsimp only;subst p;refine Zn (λq=>?_) λq=>?_
  ·have g:i=0:=by omega
   subst g;refine hs.idx (n:=0) (v:=iv c) rfl rfl λb o _ u=>⟨c,u,Za ?_⟩;unfold Zar at d;rw[if_neg f]at d;refine Zn (λw=>Za ?_) λw=>Zn (λe=>Za ?_) λe=>r _ _ ⟨1,rfl,rfl,.inr ⟨rfl,by omega⟩⟩ ?_
   ·rw[if_pos (by omega)]at d;exact d
   ·rw[if_pos (by omega)]at d;exact d
   ·show(1-(IntKind.wrap .i64 (((0:Nat):Int)+1))).toNat<(1-((0:Nat):Int)).toNat;decide
  ·have j:¬(c<1\/1099511627776<c):=by omega
   refine Zi (rP (Zb l.cells rfl) ?_);unfold ZdE ZdI;refine Za (ZB (Zi (rI (Zb l.ws.cells rfl) (Za ?_))));unfold Zar at d;rw[if_neg f,if_neg j]at d;refine Zn (λe=>Za ?_) λe=>Za ?_
   ·rw[if_pos e]at d;exact d
   ·rw[if_neg e]at d;exact d
abbrev inN(q:Nat):Nat->Prop:=λj=>q<=j/\j<q+5
def ZoY(c:Int):C6:=(c,0,0,0,0,0,())
def ZlT(c:Int):C6:=(0,c,0,0,0,0,())
theorem Rt.pass{c:Int}(h:1<=c/\c<=1099511627776):Rt (ZoY c):=⟨by simp only[ZoY];omega,by simp[ZoY],by simp[ZoY],by simp[ZoY],by simp[ZoY],by simp[ZoY],.inr rfl⟩
theorem Rt.block{c:Int}(h:1<=c/\c<=1099511627776):Rt (ZlT c):=⟨by simp[ZlT],by simp only[ZlT];omega,by simp[ZlT],by simp[ZlT],by simp[ZlT],by simp[ZlT],.inr rfl⟩
def ZEa(n:Node)(at_ c:Int):Int:=if Zar n.last at_ c=0 then(if 4096<=n.fl then 3 else 0)else Zar n.last at_ c
def Node.passed(n:Node)(at_ c:Int):Node:=if ZEa n at_ c=0 then⟨at_,(n.add at_ (ZoY c)).s,(n.add at_ (ZoY c)).d,n.fl+1⟩else n
def Node.blocked(n:Node)(at_ c:Int):Node:=if Zar n.last at_ c=0 then n.add at_ (ZlT c)else n
theorem ZIy{h h1 a:Zf}{q:Nat}(e:Ext h h1)(u:Upd (inN q) h1 a):Upd (inN q) h a:=(e.upd _).trans u
theorem ZPO{h h1:Zf}{s:Sl}{c:Int}(hs:Row h s 1 [iv c])(e:Ext h h1){K:Nat->Nat->Prop}{i:Int}(hi:i=((0:Nat):Int)){L:Nat}(a:s.len=L)(d:∀b o,h1.cell b o=some (iv c)->K b o):Yk s.ptr L i 1 K:=
  a▸(hs.ext e).idx (n:=0) (v:=iv c) hi rfl λb o _ f=>d b (o+0) f
theorem Zwv{h:Zf}{q:Nat}{n:Node}(d:Zg6 h q n){at_ c:Int}{s:Sl}(hs:Row h s 1 [iv c]){K:Int->Zf->Prop}
    (a:∀h',Zg6 h' q (n.passed at_ c)->Upd (inN q) h h'->K (ZEa n at_ c) h'):Zed (some ⟨q+4,0,none⟩) at_ s K h:=by
  unfold Zed ZgE;have hl:s.len=1:=by have:=hs.len;simp at this;omega
  refine Za (ZpD d hs (Za ?_));unfold Node.passed at a;unfold ZEa at a
  by_cases he:Zar n.last at_ c=0
  case neg=>
    rw[if_neg he,if_neg he]at a;exact Zm (by simpa using he) (Za (a h d (Upd.refl _ _)))
  rw[if_pos he]at a;rw[he];have M:=d.fl;refine ZB (Zi (rI (Zb d.cells rfl) ?_));rw[Yw (n:=4096-n.fl) (by omega) (by omega),hl];refine Zn (λp=>Za ?_) λp=>?_
  ·have r:4096<=n.fl:=by have:((1:Nat):Int)>4096-n.fl:=p;omega
   rw[if_pos r,if_neg (by decide)]at a;exact a h d (Upd.refl _ _)
  have r:¬ 4096<=n.fl:=λN=>p (by show((1:Nat):Int)>_;omega);rw[if_neg r,if_pos rfl]at a;obtain⟨hw,E⟩:=ZuA he;refine Zaj (λt h'=>Ext h h'/\((t=(⟨none,0,0⟩,0,())/\h'=h)\/(t.2.1=1/\Own h' (sz h) t.1 6 (c6L (ZoY c))))) (λt _=>(1-t.2.1).toNat) ⟨Ext.refl _,.inl ⟨rfl,rfl⟩⟩ ?_;rintro⟨l,i,u⟩ h' ⟨A,⟨g,F⟩ |⟨g,ho⟩⟩ Q G
  ·injection g with v e;injection e with e H;subst v;subst e;subst F;dsimp only;refine Xh (ZPO hs (Ext.refl _) rfl hl λb o w=>⟨c,w,Za (ZF λh1 c1 B O=>(ZkO c1 rfl).rd ?_)⟩);refine(Own.nil h1 (sz h') 6).app (n:=1) rfl (by simp[ZdD]) rfl (by decide) (by decide) B.size λP C I _ x _=>G _ _ ⟨B.then x λk a=>(by simp[Sl.blk]at a),.inr ⟨rfl,I⟩⟩ (show(1-IntKind.wrap .i64 (0+1)).toNat<(1-(0:Int)).toNat by decide)
  ·dsimp only at g ho⊢;subst g;refine ZB ?_;have y:=d.ext A;have lt:=d.lt;refine Zr0 y hw (Rt.pass E) ho.row (λb w=>by have:=(ho.lt w).1;omega) λC f x=>?_;refine Zi (rI (Zb f.cells rfl) (Zi (ZcS f.cells (show 0+2<3 by decide) rfl λh3 J D z3=>Za (a h3 ?_ ?_))))
   ·have R:=f;have m:∀j,j≠q+4->j<q+5->obj h3 j=obj C j:=λj z L=>D.old j (Aqq (show j<q+5 by omega) (by have:=f.lt;simp only[YR];omega)) z;refine⟨?_,f.ws.congr (m _ (by omega) (by omega)) (m _ (by omega) (by omega)),f.wd.congr (m _ (by omega) (by omega)) (m _ (by omega) (by omega)),by show 0<=n.fl+1/\n.fl+1<=4096;omega⟩;rw[J];show some (Obj.cells [_,_,iv (IntKind.wrap .i64 (n.fl+((1:Nat):Int)))].toArray _ _)=_;rw[Yw (n:=n.fl+((1:Nat):Int)) (by omega) (by omega)];rfl
   ·exact(ZIy A x).trans (D.mono λj _ z=>by subst z;exact⟨by omega,by omega⟩)
theorem Zt1{h:Zf}{q:Nat}{n:Node}(e:Zg6 h q n){at_ c:Int}{s:Sl}(hs:Row h s 1 [iv c]){K:Int->Zf->Prop}
    (a:∀h',Zg6 h' q (n.blocked at_ c)->Upd (inN q) h h'->K (Zar n.last at_ c) h'):Zdm (some ⟨q+4,0,none⟩) at_ s K h:=by
  unfold Zdm ZfR;have hl:s.len=1:=by have:=hs.len;simp at this;omega
  refine Za (ZpD e hs (Za ?_));unfold Node.blocked at a
  by_cases he:Zar n.last at_ c=0
  case neg=>
    rw[if_neg he]at a;exact Zm (by simpa using he) (Za (a h e (Upd.refl _ _)))
  rw[if_pos he]at a;rw[he]at a⊢;refine ZB ?_;rw[hl];obtain⟨hw,x⟩:=ZuA he;refine Zaj (λt h'=>Ext h h'/\((t=(⟨none,0,0⟩,0,())/\h'=h)\/(t.2.1=1/\Own h' (sz h) t.1 6 (c6L (ZlT c))))) (λt _=>(1-t.2.1).toNat) ⟨Ext.refl _,.inl ⟨rfl,rfl⟩⟩ ?_;rintro⟨l,i,u⟩ h' ⟨r,⟨f,y⟩ |⟨f,ho⟩⟩ Q z
  ·injection f with g d;injection d with d A;subst g;subst d;subst y;dsimp only;refine Xh (ZPO hs (Ext.refl _) rfl hl λb o j=>⟨c,j,Za (ZF λh1 c1 v D=>(ZkO c1 rfl).rd ?_)⟩);refine(Own.nil h1 (sz h') 6).app (n:=1) rfl (by simp[ZdD]) rfl (by decide) (by decide) v.size λE w B _ m _=>z _ _ ⟨v.then m λk a=>(by simp[Sl.blk]at a),.inr ⟨rfl,B⟩⟩ (show(1-IntKind.wrap .i64 (0+1)).toNat<(1-(0:Int)).toNat by decide)
  ·dsimp only at f ho⊢;subst f;refine ZB ?_;have p:=e.ext r;have lt:=e.lt;exact Zr0 p hw (Rt.block x) ho.row (λb j=>by have:=(ho.lt j).1;omega) λw C m=>Za (a w C (ZIy r m))
theorem ZrM{a b:ByteArray}:Z2 a b=true↔a=b:=by
  unfold Z2;rw[ByteArray.toList_eq,ByteArray.toList_eq,beq_iff_eq];constructor
  ·intro h;cases a;cases b;congr;exact Array.toList_inj.1 h
  ·rintro rfl;rfl
theorem Zhe(a b:ByteArray):Z2 a b=decide (a=b):=by
  by_cases h:a=b
  ·rw[decide_eq_true h];exact ZrM.2 h
  ·rw [decide_eq_false h]
   cases q:Z2 a b with
   |false=>rfl
   |true=>exact absurd (ZrM.1 q) h
abbrev K4:=Int×ByteArray×ByteArray×ByteArray×Unit
def k4L(k:K4):List Value:=[.int .u8 k.1,.string k.2.1,.string k.2.2.1,.string k.2.2.2.1]
theorem Zfb(k:K4):(k4L k).length=4:=rfl
structure Zrp(h:Zf)(mb:Nat)(f:K4->Option Value)(n:Nat):Prop where
  is:∃es clk,obj h mb=some (.map es clk)/\es.size=n/\(∀x,x∈es.toList->∃k:K4,x.key= .agg (k4L k).toArray)/\∀k,(ZhE (k4L k) es.toList 0).map (·.2)=f k
theorem Zrp.lt{h:Zf}{mb n:Nat}{f:K4->Option Value}(a:Zrp h mb f n):mb<sz h:=by obtain⟨es,b,h1,_⟩:=a.is;exact Zp h1
theorem Zrp.congr{h h':Zf}{mb n:Nat}{f:K4->Option Value}(b:Zrp h mb f n)(he:obj h' mb=obj h mb):Zrp h' mb f n:=by obtain⟨es,a,h1,c⟩:=b.is;exact⟨es,a,he.trans h1,c⟩
theorem Zrp.new{h:Zf}{mb:Nat}{c:Nat}(a:obj h mb=some (.map #[] c)):Zrp h mb (λ_=>none) 0:=⟨#[],c,a,rfl,(λx b=>by cases b),λ_=>rfl⟩
theorem ZB7(k:K4):ZkJ [(.int .u8),.string,.string,.string] (.agg (k4L k).toArray):=⟨k4L k,rfl,rfl,trivial,trivial,trivial,trivial⟩
theorem Zso(k:List Value)(e:MapEntry):∀(l:List MapEntry) (i:Nat),ZhE k (l++[e]) i=match ZhE k l i with
    |some x=>some x
    |none=>bif ZmA k e.key then some (i+l.length,e.val)else none
  |[],i=>by simp only[Ayj,ZhE,Ayd,Axi]
  | x::l,i=>by
    simp only[List.cons_append,ZhE,Aqj]
    cases ZmA k x.key with
    |true=>rfl
    | false=>
      simp only[cond_false];rw[Zso k e l (i+1),show i+1+l.length=i+(l.length+1)from by omega]
theorem ZuW(k j:K4):ZmA (k4L k) (.agg (k4L j).toArray)=decide (k=j):=by
  show Zfa (k4L k) (k4L j)=_;obtain⟨a,b,c,d,_⟩:=k;obtain⟨e,f,g,h,_⟩:=j;simp only[Zfa,ZjC,k4L,Zhe,Prod.mk.injEq,and_true]
  by_cases h1:a=e<;>by_cases i:b=f<;>by_cases h3:c=g<;>by_cases l:d=h<;>simp[h1,i,h3,l]
theorem Zrp.get{h:Zf}{mb n:Nat}{f:K4->Option Value}(c:Zrp h mb f n)(k:K4){K:Option Value->Prop}(d:K (f k)):ZbA [(.int .u8),.string,.string,.string] h (some mb) (k4L k) K:=by obtain⟨es,a,h1,h0,g,h3⟩:=c.is;refine⟨λe=>(by cases e),λb i=>?_⟩;cases i;refine⟨es,a,h1,λx j=>?_,by rw[h3];exact d⟩;obtain⟨l,e⟩:=g x j;rw[e];exact ZB7 l
theorem Zrp.len{h:Zf}{mb n:Nat}{f:K4->Option Value}(c:Zrp h mb f n){K:Int->Prop}(d:K (n:Int)):ZHm h (some mb) K:=by obtain⟨es,a,h1,h0,i,h3⟩:=c.is;refine⟨λe=>(by cases e),λb g=>?_⟩;cases g;exact⟨es,a,h1,by rw[h0];exact d⟩
theorem setMap{h:Zf}{b:Nat}{x y:Obj}(a:obj h b=some x):obj (h.setIfInBounds b y) b=some y/\Upd (· = b) h (h.setIfInBounds b y)/\sz (h.setIfInBounds b y)=sz h:=
  ⟨ZjQ (Zp a),Zhg,Array.size_setIfInBounds⟩
theorem Zrp.put{h:Zf}{mb n:Nat}{f:K4->Option Value}(l:Zrp h mb f n){k:K4}(m:f k=none)(v:Value){K:Zf->Prop}
    (o:∀h',Zrp h' mb (λj=>if j=k then some v else f j) (n+1)->Upd (· = mb) h h'->sz h'=sz h->K h'):Zh7 [(.int .u8),.string,.string,.string] h (some mb) (k4L k) v K:=by
  obtain⟨es,c,h1,d,i,h3⟩:=l.is;refine⟨mb,es,c,rfl,h1,λx b=>?_,?_⟩
  ·obtain⟨p,e⟩:=i x b;rw[e];exact ZB7 p
  have h0:ZhE (k4L k) es.toList 0=none:=by
    have:=h3 k;rw[m]at this;simpa using this
  rw[h0];obtain⟨q,r,s⟩:=setMap (y:=.map (es.push {key:=.agg (k4L k).toArray,val:=v,born:=c}) (c+1)) h1;refine o _ ⟨_,_,q,by simp[d],λx b=>?_,λa=>?_⟩ r s
  ·rw [Array.toList_push]at b
   rcases Axx.1 b with b|b
   ·exact i x b
   ·simp only[Awr,Ayk,or_false]at b;subst b;exact⟨k,rfl⟩
  ·rw [Array.toList_push,Zso];have g:=h3 a
   by_cases e:a=k
   ·rw[if_pos e,e,h0];show(bif ZmA (k4L k) (.agg (k4L k).toArray)then some (0+es.toList.length,v)else none).map (·.2)=_;rw[ZuW,decide_eq_true rfl];rfl
   ·rw [if_neg e,<-g]
    cases ZhE (k4L a) es.toList 0 with
    |some x=>rfl
    | none=>
      show(bif ZmA (k4L a) (.agg (k4L k).toArray)then some (0+es.toList.length,v)else none).map (·.2)=_;rw[ZuW,decide_eq_false e];rfl
structure Tree where
  f:K4->Option Node
  keys:List K4
  last:Int
structure Zrn(h:Zf)(tb mb base:Nat)(ks:Sl)(A:K4->Option Nat)(t:Tree):Prop where
  cells:obj h tb=some (.cells [.map (some mb),slV ks,iv t.last].toArray 155 (0,0))
  map:∃n,Zrp h mb (λk=>(A k).map λq=>.pointer (some ⟨q+4,0,none⟩)) n
  row:Own h base ks 4 (t.keys.flatMap k4L)
  len:t.keys.length<=512
  node:∀k,(A k=none/\t.f k=none)\/∃q n,A k=some q/\t.f k=some n/\Zg6 h q n
  disj:∀k k' q q',A k=some q->A k'=some q'->k≠k'->q+5<=q'\/q'+5<=q
  mt:mb≠tb
  kb:∀b,ks.blk=some b->b≠tb/\b≠mb
  out:∀k q,A k=some q->(∀j,inN q j->j≠tb/\j≠mb/\ks.blk≠some j)
def ZPM(tb mb:Nat)(ks:Sl)(A:K4->Option Nat)(j:Nat):Prop:=j=tb\/j=mb\/ks.blk=some j\/∃k q,A k=some q/\inN q j
def Zbn(h:Zf)(tb:Nat)(O:Nat->Prop)(t:Tree):Prop:=∃mb base ks A,Zrn h tb mb base ks A t/\∀j,ZPM tb mb ks A j->O j
theorem Zrn.congr{h h':Zf}{tb mb base:Nat}{ks:Sl}{A:K4->Option Nat}{t:Tree}(a:Zrn h tb mb base ks A t)(he:∀j,ZPM tb mb ks A j->j<sz h->obj h' j=obj h j):Zrn h' tb mb base ks A t:=by
  obtain⟨n,hm⟩:=a.map;refine⟨(he _ (.inl rfl) (Zp a.cells)).trans a.cells,⟨n,hm.congr (he _ (.inr (.inl rfl)) hm.lt)⟩,a.row.congr λb d hl _=>he b (.inr (.inr (.inl d))) hl,a.len,λk=>?_,a.disj,a.mt,a.kb,a.out⟩
  rcases a.node k with h1|⟨q,n,h1,e,h3⟩
  ·exact .inl h1
  ·exact .inr ⟨q,n,h1,e,h3.congr λj f c=>he j (.inr (.inr (.inr ⟨k,q,h1,f,c⟩))) (by have:=h3.lt;omega)⟩
theorem Zbn.congr{h h':Zf}{tb:Nat}{O:Nat->Prop}{t:Tree}(a:Zbn h tb O t)(he:∀j,O j->j<sz h->obj h' j=obj h j):Zbn h' tb O t:=by obtain⟨mb,base,ks,A,hi,ho⟩:=a;exact⟨mb,base,ks,A,hi.congr λj b hl=>he j (ho j b) hl,ho⟩
theorem Zbn.ext{h h':Zf}{tb:Nat}{O:Nat->Prop}{t:Tree}(a:Zbn h tb O t)(e:Ext h h'):Zbn h' tb O t:=a.congr λ_ _ b=>ZQ e b
theorem Zbn.mono{h:Zf}{tb:Nat}{O O':Nat->Prop}{t:Tree}(a:Zbn h tb O t)(he:∀j,O j->O' j):Zbn h tb O' t:=by obtain⟨mb,base,ks,A,hi,ho⟩:=a;exact⟨mb,base,ks,A,hi,λj b=>he j (ho j b)⟩
theorem Zwo{h:Zf}{K:Option Addr->Zf->Prop}(d:∀h',Zbn h' (sz h+1) (λj=>j=sz h\/j=sz h+1) ⟨λ_=>none,[],0⟩->Ext h h'->sz h'=sz h+2->K (some ⟨sz h+1,0,none⟩) h'):ZkA K h:=by
  unfold ZkA Zms ZfD;have c0:obj (h.push (.map #[] 0)) (sz h)=some (.map #[] 0):=Zdi;refine ZF λh1 c1 c e=>?_;have z0:sz (h.push (.map #[] 0))=sz h+1:=ZbQ;simp only[YR,z0]at c1 e⊢;refine d h1 ⟨sz h,0,⟨none,0,0⟩,λ_=>none,⟨c1,⟨0,(Zrp.new c0).congr (ZQ c (by omega))⟩,Own.nil _ _ _,by decide,λk=>.inl ⟨rfl,rfl⟩,(λ_ _ _ _ a=>by cases a),by omega,(λb f=>by cases f),λ_ _ a=>by cases a⟩,?_⟩ (X7 (Ext.refl h)|>.trans c) (by omega);rintro j (h1|h1|h1|⟨_,_,h1,_⟩)
  ·exact .inr h1
  ·exact .inl h1
  ·cases h1
  ·cases h1
abbrev C8:=Int×ByteArray×ByteArray×ByteArray×Bool×Int×Sl×Unit
abbrev em:ByteArray:=ByteArray.mk #[]
def c8L(c:C8):List Value:=[iv c.1,.string c.2.1,.string c.2.2.1,.string c.2.2.2.1,.bool c.2.2.2.2.1,iv c.2.2.2.2.2.1,slV c.2.2.2.2.2.2.1]
def ZwE(c:C8):List K4:=if c.2.2.2.1=em then []else [(5,em,c.2.1,c.2.2.2.1,())]
def ZHy(c:C8):List K4:=if c.2.2.2.2.1=true then [(1,em,em,em,())]else []
def Xu(c:C8):List K4:=(3,c.2.2.1,c.2.1,em,())::(4,em,c.2.1,em,())::(ZwE c++(2,c.2.2.1,em,em,())::ZHy c)
def Zml(c:C8):Bool:=Zk5 c.2.1&&Zk5 c.2.2.1&&(decide (c.2.2.2.1=em)||Zk5 c.2.2.2.1)
def Zj6(c:C8):Int:=if Zml c=true then 0 else 10
structure Zkr(c:C8):Prop where
  a:c.2.1.size<9223372036854775808
  b:c.2.2.1.size<9223372036854775808
  c:c.2.2.2.1.size<9223372036854775808
theorem ZB6(l:List K4):(l.flatMap k4L).all Zs=true:=by
  rw[Axb];intro v hv;obtain⟨k,_,a⟩:=List.mem_flatMap.1 hv;simp only[k4L,Awr,Ayk,or_false]at a
  rcases a with rfl|rfl|rfl|rfl<;>rfl
theorem ZID{h:Zf}{base:Nat}{s:Sl}{l m:List K4}(ho:Own h base s 4 (l.flatMap k4L)){n:Nat}(b:m.length=n)(g:l.length+n<=100000)(a:base<=sz h){K:Sl->Zf->Prop}
    (c:∀s' h',Own h' base s' 4 ((l++m).flatMap k4L)->s'.len=s.len+n->Upd (λk=>s.blk=some k) h h'->K s' h'):app 114 4 56 [.int .u8 0,.string (ByteArray.mk #[]),.string (ByteArray.mk #[]),.string (ByteArray.mk #[])] s n (m.flatMap k4L) h K:=by
  have hl:=ho.len;rw[YN Zfb]at hl;have hs:s.len=l.length:=(Ayf (by decide) hl).symm;refine ho.app (n:=n) (by rw[YN Zfb,b]) (ZB6 m) rfl (by omega) (by omega) a λs' h' d e f _=>c s' h' (by rw[Ayl];exact d) e f
theorem ZoB{h:Zf}{c:C8}(hz:Zkr c){K:Sl->Int->Zf->Prop}(d:∀s h',Ext h h'->Own h' (sz h) s 4 ((if Zj6 c=0 then Xu c else []).flatMap k4L)->K s (Zj6 c) h'):ZbT c K h:=by
  unfold ZbT Zlb;refine ZF λh1 c1 t z1=>Za (ZoF (λ_ h'=>h'=h1/\Zj6 c=0) ?_ λQ v=>?_)
  ·rintro _ h' ⟨M,ok⟩;subst M;rw[ok,if_pos rfl]at d;refine rS (Zb c1 rfl) (rS (Zb c1 rfl) (rS (Zb c1 rfl) (ZF λN O w z2=>ZoF (λs h3=>Ext h' h3/\Own h3 (sz h') s.1 4 (((3,c.2.2.1,c.2.1,em,())::(4,em,c.2.1,em,())::ZwE c).flatMap k4L)) ?_ λQ v=>?_)))
   ·rintro ⟨l,u⟩ h3 ⟨o,p⟩
    dsimp only at p⊢;have z:=Zj c1 o;refine rS (Zb z rfl) (ZF λx P F z4=>(ZkO P rfl).rd ?_);have y:Own x (sz h') l 4 _:=p.congr λb _ hl _=>F.old b hl;have g:∀{l:List K4} {n:Nat},l.length+n<=100->l.length+n<=100000:=λh=>by omega
    have R:(ZwE c).length<=1:=by unfold ZwE;split<;>simp
    have r:Ext h' x:=o.trans F;have G:sz h<=sz h':=t.size;refine ZID y (m:=[(2,c.2.2.1,em,em,())]) rfl (by simp only[Aqj,Ayd];omega) r.size λs5 H I _ S=>?_;have f:Ext h' H:=r.then S λk d=>(y.lt d).1
    have T:=Zj c1 f;refine rB (Zb T rfl) ⟨λg=>?_,λg=>?_⟩
    ·refine ZF λU V A z6=>(ZkO V rfl).rd ?_;have J:Own U (sz h') s5 4 _:=I.congr λb _ hl _=>A.old b hl;refine ZID J (m:=[(1,em,em,em,())]) rfl (by simp only[Aqj,Awe,Ayd];omega) (f.trans A).size λs7 W X _ Y=>Za (d s7 W (t.trans ((f.trans A).then Y λk d=>(J.lt d).1)) ?_)
     have:Xu c=(3,c.2.2.1,c.2.1,em,())::(4,em,c.2.1,em,())::ZwE c++[(2,c.2.2.1,em,em,())]++[(1,em,em,em,())]:=by
       unfold Xu ZHy;rw[if_pos g];simp
     rw[this];exact X.base G
    ·refine Za (d s5 H (t.trans f) ?_)
     have:Xu c=(3,c.2.2.1,c.2.1,em,())::(4,em,c.2.1,em,())::ZwE c++[(2,c.2.2.1,em,em,())]:=by
       unfold Xu ZHy;rw[if_neg (by rw[g];decide)];simp
     rw[this];exact I.base G
   ·have i:=Zj c1 w
    have L:Own N (sz h') ⟨some ⟨h'.size,0,none⟩,2,2⟩ 4 (([(3,c.2.2.1,c.2.1,em,()),(4,em,c.2.1,em,())]:List K4).flatMap k4L):=
      ⟨rfl,Aqo _,(show 2<9223372036854775808 by decide),.inr ⟨h'.size,_,_,rfl,Aqo _,O,rfl,rfl⟩⟩
    refine rS (Zb i rfl) ?_;rw[Zhe];refine⟨λg=>?_,λg=>?_⟩
    ·have j:c.2.2.2.1≠em:=by simpa using g
     refine rS (Zb i rfl) (rS (Zb i rfl) (ZF λh3 z o z3=>(ZkO z rfl).rd ?_));have p:Own h3 (sz h') _ 4 _:=L.congr λb _ hl _=>o.old b hl;refine ZID p (m:=[(5,em,c.2.1,c.2.2.2.1,())]) rfl (by simp only[Aqj,Ayd];omega) (w.trans o).size λs4 x y _ Z=>v _ _ ⟨(w.trans o).then Z λk d=>(p.lt d).1,?_⟩
     ·show Own x (sz h') s4 4 _
      have:ZwE c=[(5,em,c.2.1,c.2.2.2.1,())]:=by unfold ZwE;rw[if_neg j]
      rw[this];exact y
    ·have he:c.2.2.2.1=em:=by simpa using g
     refine v _ _ ⟨w,?_⟩;have:ZwE c=[]:=by unfold ZwE;rw[if_pos he]
     rw[this];exact L
  ·have bad:Zml c=false->K ⟨none,0,0⟩ 10 h1:=λe=>by
     have:=d ⟨none,0,0⟩ h1 t;unfold Zj6 at this;rw[e]at this;exact this (Own.nil _ _ _)
   refine rS (Zb c1 rfl) (Zlm hz.a ⟨λB=>Za (bad ?_),λB=>?_⟩)
   ·have:Zk5 c.2.1=false:=by simpa using B
    unfold Zml;rw[this];rfl
   have n1:Zk5 c.2.1=true:=by simpa using B
   refine rS (Zb c1 rfl) (Zlm hz.b ⟨λC=>Za (bad ?_),λC=>?_⟩)
   ·have:Zk5 c.2.2.1=false:=by simpa using C
    unfold Zml;rw[this,Bool.and_false];rfl
   have n2:Zk5 c.2.2.1=true:=by simpa using C
   refine rS (Zb c1 rfl) ?_;rw[Zhe];have fin:(decide (c.2.2.2.1=em)||Zk5 c.2.2.2.1)=true->Q () h1:=λq=>v _ _ ⟨rfl,by unfold Zj6 Zml;rw[n1,n2,q];rfl⟩;refine⟨λD=>?_,λD=>?_⟩
   ·have j:c.2.2.2.1≠em:=by simpa using D
    refine rS (Zb c1 rfl) (Zlm hz.c ⟨λE=>Za (bad ?_),λE=>fin ?_⟩)
    ·have:Zk5 c.2.2.2.1=false:=by simpa using E
     unfold Zml;rw[this,decide_eq_false j,Bool.or_false,Bool.and_false]
    ·have:Zk5 c.2.2.2.1=true:=by simpa using E
     rw[this,Bool.or_true]
   ·have he:c.2.2.2.1=em:=by simpa using D
    exact fin (by rw[decide_eq_true he];rfl)
def Tree.isNew(t:Tree)(k:K4):Bool:=(t.f k).isNone
def Tree.freshN(t:Tree)(l:List K4):Nat:=(l.filter t.isNew).length
theorem Zrn.isNone{h:Zf}{tb mb base:Nat}{ks:Sl}{A:K4->Option Nat}{t:Tree}(c:Zrn h tb mb base ks A t)(k:K4):t.isNew k=(A k).isNone:=by
  unfold Tree.isNew
  rcases c.node k with⟨a,b⟩ |⟨q,n,a,b,_⟩<;>rw[a,b]<;>rfl
theorem ZpP{h:Zf}{tb:Nat}{O:Nat->Prop}{t:Tree}(S:Zbn h tb O t){s:Sl}{l:List K4}(hs:Row h s 4 (l.flatMap k4L))(hd:l.Nodup)(hl:l.length<=100000){K:Int->Zf->Prop}(z:∀h',Ext h h'->K (t.freshN l:Int) h'):Xx (some ⟨tb,0,none⟩) s K h:=by
  obtain⟨mb,base,ks,A,hi,ho⟩:=S;unfold Xx Zfj ZfD;have hlen:=hs.len;rw[YN Zfb]at hlen;have T:s.len=l.length:=(Ayf (by decide) hlen).symm;have c0:obj (h.push (.map #[] 0)) (sz h)=some (.map #[] 0):=Zdi;have U:Ext h (h.push (.map #[] 0)):=X7 (Ext.refl h)
  refine Za (Zaj (λp B=>∃i:Nat,p=((i:Int),())/\i<=l.length/\Ext h B/\∃g,Zrp B (sz h) g (t.freshN (l.take i))/\∀k,k∉l.take i->g k=none) (λp _=>l.length- p.1.toNat)
    ⟨0,rfl,Ayg _,U,_,(Zrp.new c0).congr rfl,λ_ _=>rfl⟩ ?_)
  rintro _ B ⟨i,rfl,V,he,g,hm,u⟩ Q P;dsimp only;refine Zn (λq=>?_) λq=>?_
  ·have f:i<l.length:=by omega
   have H:l[i]?=some l[i]:=Axy f;generalize l[i]=k at H;obtain⟨b,o,hb,W,C,I⟩:=Zab Zfb (hs.ext he) H (by decide);have v0:=I 0 _ rfl;have v1:=I 1 _ rfl;have v2:=I 2 _ rfl;have v3:=I 3 _ rfl;have D:IntKind.wrap .i64 ((i:Int)+1)=((i+1:Nat):Int):=wrS f (by omega);have m:l.take (i+1)=l.take i++[k]:=by rw[Aym,H];rfl
   have J:k∉l.take i:=λc=>by
     have E:=hd;rw[<-Ayn i l,List.nodup_append]at E;refine E.2.2 k c k ?_ rfl;refine Axo (i:=0) ?_;rw[Aqg,Axi];exact H
   refine C rfl (rI v0 (rS v1 (rS v2 (rS v3 (ZF λh1 c1 X z1=>ZaN c1 λy r Y z2=>Zi ?_)))));have R:Ext B y:=X.then Y λk z=>by subst z;exact Aqo _
   have v:=he.trans R;have F:Zrn y tb mb base ks A t:=hi.congr λj _ w=>ZQ v w;obtain⟨n,L⟩:=F.map;have G:=hm.congr (ZQ R hm.lt);refine rM (Zb F.cells rfl) (rI (Zb r rfl) (rS (Zb r rfl) (rS (Zb r rfl) (rS (Zb r rfl) (L.get k ?_)))));have d:=hi.isNone k
   rcases hi.node k with⟨a,Z⟩ |⟨q9,n9,a,Z,_⟩
   ·rw [a]at d⊢;refine⟨none,rfl,Xh (rI (Zb r rfl) (rS (Zb r rfl) (rS (Zb r rfl) (rS (Zb r rfl) (G.put (k:=k) ?_ _ λh3 M u3 z3=>?_)))))⟩
    ·exact u k J
    ·rw [D]
     refine P _ _ ⟨i+1,rfl,f,v.then u3 λk z=>by subst z;exact Aqo _,?_⟩ (by show l.length- ((i+1:Nat):Int).toNat<l.length- ((i:Nat):Int).toNat;omega);have h1:(l.take (i+1)).filter t.isNew=(l.take i).filter t.isNew++[k]:=by rw[m,List.filter_append];congr 1;simp[d]
     have y:t.freshN (l.take (i+1))=t.freshN (l.take i)+1:=by unfold Tree.freshN;rw[h1];simp
     refine⟨_,by rw[y];exact M,λj w=>?_⟩;rw[m]at w;have N:j≠k:=λe=>w (by rw[e];simp);exact(if_neg N).trans (u j λc=>w (Axx.2 (.inl c)))
   ·rw [a]at d⊢
    refine⟨_,rfl,ZB ?_⟩;rw[D];have h1:(l.take (i+1)).filter t.isNew=(l.take i).filter t.isNew:=by rw[m,List.filter_append];simp[d]
    have y:t.freshN (l.take (i+1))=t.freshN (l.take i):=by unfold Tree.freshN;rw[h1]
    refine P _ _ ⟨i+1,rfl,f,v,g,by rw[y];exact G,λj w=>u j λc=>w (by rw[m];exact Axx.2 (.inl c))⟩ (by show l.length- ((i+1:Nat):Int).toNat<l.length- ((i:Nat):Int).toNat;omega)
  ·have x:l.take i=l:=Awd (by omega);rw[x]at hm;exact hm.len (Za (z B he))
theorem ZPe{h:Zf}{base:Nat}{s:Sl}{l m:List K4}(ho:Own h base s 4 (l.flatMap k4L)){n:Nat}(b:m.length=n)(g:l.length+n<=100000)(a:base<=sz h){K:Sl->Zf->Prop}
    (c:∀s' h',Own h' base s' 4 ((l++m).flatMap k4L)->Upd (λk=>s.blk=some k) h h'->(s'.blk=s.blk\/s'.blk=some (sz h))->K s' h'):app 114 4 56 [.int .u8 0,.string (ByteArray.mk #[]),.string (ByteArray.mk #[]),.string (ByteArray.mk #[])] s n (m.flatMap k4L) h K:=by
  have hl:=ho.len;rw[YN Zfb]at hl;have hs:s.len=l.length:=(Ayf (by decide) hl).symm;refine ho.app (n:=n) (by rw[YN Zfb,b]) (ZB6 m) rfl (by omega) (by omega) a λs' h' d i e f=>c s' h' (by rw[Ayl];exact d) e f
def Tree.make(t:Tree)(k:K4):Tree:=match t.f k with
  |some _=>t
  |none=>⟨λj=>if j=k then some Node.zero else t.f j,t.keys++[k],t.last⟩
theorem ZpB{h:Zf}{tb:Nat}{O:Nat->Prop}{t:Tree}(ht:Zbn h tb O t){k:K4}(hl:t.isNew k=true->t.keys.length<512){K:Zf->Prop}
    (hk:∀h' O',Zbn h' tb O' (t.make k)->Upd O h h'->(∀j,O' j->O j\/(sz h<=j/\j<sz h'))->(∀j,O j->O' j)->K h'):Xw (some ⟨tb,0,none⟩) k K h:=by
  obtain⟨mb,base,ks,A,hi,ho⟩:=ht;unfold Xw Zfi;refine ZF λh1 c1 g z1=>Zi ?_;have u:Zrn h1 tb mb base ks A t:=hi.congr λj _ d=>ZQ g d;obtain⟨n,C⟩:=u.map;refine rM (Zb u.cells rfl) (rI (Zb c1 rfl) (rS (Zb c1 rfl) (rS (Zb c1 rfl) (rS (Zb c1 rfl) (C.get k ?_)))));have y:=hi.isNone k
  rcases hi.node k with⟨a,D⟩ |⟨q9,n9,a,D,_⟩
  case inr=>
    rw[a];refine⟨_,rfl,ZB (hk h1 O ?_ (g.upd _) (λj d=>.inl d) λj d=>d)⟩;have:t.make k=t:=by unfold Tree.make;rw[D]
    rw[this];exact⟨mb,base,ks,A,u,ho⟩
  rw[a]at y⊢;have an:=hl y;refine⟨none,rfl,Xh (Zi (rM (Zb u.cells rfl) (rI (Zb c1 rfl) (rS (Zb c1 rfl) (rS (Zb c1 rfl) (rS (Zb c1 rfl) (Zws λz n2 x z2=>?_)))))))⟩;have F:=Zj c1 x;have G:Zrn z tb mb base ks A t:=u.congr λj _ d=>ZQ x d;refine⟨⟨Zb F rfl,Zb F rfl,Zb F rfl,Zb F rfl,trivial⟩,Yj (Zb G.cells rfl),?_⟩;refine(C.congr (ZQ x C.lt)).put (k:=k) (by rw[a];rfl) _ λh3 V N z3=>?_;have ar:tb<sz h:=Zp hi.cells;have au:mb<sz h:=by obtain⟨n9,W⟩:=hi.map;exact W.lt
  have v:∀b,ks.blk=some b->b<sz h:=λb o=>(hi.row.lt o).2;have s1:sz h<=sz h1:=g.size;have s2:sz z=sz h1+5:=z2;have s3:sz h3=sz z:=z3;have t3:obj h3 tb=_:=(N.old tb (show tb<sz z by omega) (λe=>hi.mt e.symm)).trans G.cells;have P:obj h3 (sz h)=_:=(N.old (sz h) (show sz h<sz z by have:h1.size=h.size+1:=z1;simp only[YR]at this;omega) (by omega)).trans F;refine Zi (rL (Zb t3 rfl) (rI (Zb P rfl) (rS (Zb P rfl) (rS (Zb P rfl) (rS (Zb P rfl) (ZF λB c4 H z4=>?_))))));have t4:=Zj t3 H;refine⟨Yj (Zb t4 rfl),(ZkO c4 rfl).rd ?_⟩;have s4:sz h3<=sz B:=H.size;have o4:Own B 0 ks 4 (t.keys.flatMap k4L):=(hi.row.congr λb o hl _=>(H.old b (show b<sz h3 by have:=v b o;omega)).trans ((N.old b (show b<sz z by have:=v b o;omega) (hi.kb b o).2).trans ((x.old b (show b<sz h1 by have:=v b o;omega)).trans (g.old b hl)))).base (Ayg _);refine ZPe o4 (m:=[k]) (n:=1) rfl (by omega) (Ayg _) λs5 Q o5 R b5=>?_;have t5:obj Q tb=_:=(R.old tb (show tb<sz B by omega) (λe=>(hi.kb tb e).1 rfl)).trans t4;have ay:sz B<=sz Q:=R.size;refine Zi (ZcS t5 (show 0+1<3 by decide) rfl λI c6 X z6=>?_);let S:Nat->Prop:=λj=>j=tb\/j=mb\/ks.blk=some j;have J:Upd S z I:=(((N.mono λj _ d=>.inr (.inl d)).trans (H.upd S)).trans (R.mono λj _ d=>.inr (.inr d))).trans (X.mono λj _ d=>.inl d);have U:Upd S h I:=((g.trans x).upd S).trans J
  have nS:∀j,sz h<=j->¬S j:=λj d hs=>by
    rcases hs with c|c|c
    ·omega
    ·omega
    ·have:=v j c;omega
  have SO:∀j,S j->O j:=λj hs=>ho j (by
    rcases hs with c|c|c
    ·exact .inl c
    ·exact .inr (.inl c)
    ·exact .inr (.inr (.inl c)))
  have w:∀b,s5.blk=some b->ks.blk=some b\/b=sz B:=λb o=>by
    rcases b5 with c|c
    ·exact .inl (c▸o)
    ·rw[c]at o;exact .inr (Option.some.inj o).symm
  refine hk I (λj=>O j\/(sz h<=j/\j<sz I)) ⟨mb,0,s5,λj=>if j=k then some (sz h1)else A j,⟨?_,⟨n+1,?_⟩,?_,?_,?_,?_,hi.mt,?_,?_⟩,?_⟩ (U.mono λj _ d=>SO j d) (λj d=>d) λj d=>.inl d
  ·have e:t.make k=⟨λj=>if j=k then some Node.zero else t.f j,t.keys++[k],t.last⟩:=by unfold Tree.make;rw[D]
   rw[e];exact c6
  ·refine (show Zrp I mb _ (n+1)from ?_)
   have:(λj=>Option.map (λq=>Value.pointer (some ⟨q+4,0,none⟩)) (if j=k then some (sz h1)else A j))=λj=>if j=k then some (Value.pointer (some ⟨sz h1+4,0,none⟩))else Option.map (λq=>Value.pointer (some ⟨q+4,0,none⟩)) (A j):=by
     funext j
     split<;>rfl
   rw[this];refine V.congr ?_;exact(X.old mb (show mb<sz Q by omega) hi.mt).trans ((R.old mb (show mb<sz B by omega) λe=>(hi.kb mb e).2 rfl).trans (H.old mb (show mb<sz h3 by omega)))
  ·have e:(t.make k).keys=t.keys++[k]:=by unfold Tree.make;rw[D]
   rw[e];refine o5.congr λb o hl _=>X.old b hl λL=>?_
   rcases w b o with c|c
   ·exact(hi.kb b c).1 L
   ·omega
  ·have e:(t.make k).keys=t.keys++[k]:=by unfold Tree.make;rw[D]
   rw[e];simp;omega
  ·intro j
   have e:(t.make k).f j=if j=k then some Node.zero else t.f j:=by unfold Tree.make;rw[D]
   by_cases p:j=k
   ·refine .inr ⟨sz h1,Node.zero,if_pos p,by rw[e,if_pos p],n2.congr λi r T=>J.old i (show i<sz z by omega) (nS i (by omega))⟩
   ·rcases hi.node j with⟨r,T⟩ |⟨q,n9,r,T,E⟩
    ·exact .inl ⟨(if_neg p).trans r,by rw[e,if_neg p];exact T⟩
    ·refine .inr ⟨q,n9,(if_neg p).trans r,by rw[e,if_neg p];exact T,E.congr λi g4 g5=>U.old i (show i<sz h by have:=E.lt;omega) λhs=>?_⟩;obtain⟨Y,Z,o3⟩:=hi.out j q r i ⟨g4,g5⟩
     rcases hs with c|c|c
     ·exact Y c
     ·exact Z c
     ·exact o3 c
  ·have old:∀j q,A j=some q->q+5<=sz h:=λj q d=>by
     rcases hi.node j with⟨r,_⟩ |⟨q9,n9,r,_,E⟩
     ·rw[r]at d;cases d
     ·rw[r]at d;cases d;have:=E.lt;omega
   intro j j' q q' l s M
   by_cases g:j=k<;>by_cases x:j'=k
   ·exact absurd (g.trans x.symm) M
   ·rw[if_pos g]at l;rw[if_neg x]at s;cases l;exact .inr (by have:=old _ _ s;omega)
   ·rw[if_neg g]at l;rw[if_pos x]at s;cases s;exact .inl (by have:=old _ _ l;omega)
   ·rw[if_neg g]at l;rw[if_neg x]at s;exact hi.disj j j' q q' l s M
  ·intro b o
   rcases w b o with c|c
   ·exact hi.kb b c
   ·omega
  ·intro j q l i ab;obtain⟨w1,w2⟩:=ab
   by_cases g:j=k
   ·rw [if_pos g]at l;cases l;refine⟨by omega,by omega,λL=>?_⟩
    rcases w i L with c|c
    ·have:=v i c;omega
    ·have:B.size=h3.size+1:=z4;simp only[YR]at this;omega
   ·rw [if_neg g]at l;obtain⟨Y,Z,o3⟩:=hi.out j q l i ⟨w1,w2⟩;refine⟨Y,Z,λL=>?_⟩
    rcases w i L with c|c
    ·exact o3 c
    ·rcases hi.node j with⟨r,_⟩ |⟨q9,n9,r,_,E⟩
     ·rw[r]at l;cases l
     ·rw[r]at l;cases l;have:=E.lt;omega
  ·rintro j (c|c|c|⟨i,q,c,w1,w2⟩)
   ·exact .inl (ho j (.inl c))
   ·exact .inl (ho j (.inr (.inl c)))
   ·rcases w j c with h8|h8
    ·exact .inl (ho j (.inr (.inr (.inl h8))))
    ·have:sz B<sz Q:=by have:=(o5.lt c).2;rw[h8]at this;exact this
     exact .inr (by omega)
   ·dsimp only at c
    by_cases g:i=k
    ·rw[if_pos g]at c;cases c;exact .inr (by omega)
    ·rw[if_neg g]at c;exact .inl (ho j (.inr (.inr (.inr ⟨i,q,c,w1,w2⟩))))
end Go.Proofs.YtonbfpnngkemiaaGreat
