/- The windows of buckets: what their functions do, whatever is counted. -/
import Derived.Laws.Strings
import Derived.Test.YtonbfpnngkemiaaGreatPa8
set_option linter.unusedVariables false
set_option linter.unusedSimpArgs false
namespace Go.Proofs.YtonbfpnngkemiaaGreat
open Go Go.Fw
open Nat renaming reduceAdd->Nqa,reduceLT->Nqb,reduceLeDiff->Nqc,reduceEqDiff->Nqd,reduceMul->Nqe
abbrev C6:=Int×Int×Int×Int×Int×Int×Unit
def Zff(a b:Int):Int:=IntKind.wrap .i64 (Zo2 a (IntKind.wrap .i64 (4611686018427387904-b))+b)
theorem Zxe{a b:Int}{K:Int->Zf->Prop}{h:Zf}:Zit a b K h=K (Zff a b) h:=propext ⟨λh=>h,λh=>h⟩
def ZfQ(a b:C6):C6:=(Zff a.1 b.1,Zff a.2.1 b.2.1,Zff a.2.2.1 b.2.2.1,Zff a.2.2.2.1 b.2.2.2.1,Zff a.2.2.2.2.1 b.2.2.2.2.1,
  (if a.2.2.1=0 then b.2.2.2.2.2.1 else if b.2.2.1=0 then a.2.2.2.2.2.1 else Zo2 a.2.2.2.2.2.1 b.2.2.2.2.2.1),())
def c6L(c:C6):List Value:=[iv c.1,iv c.2.1,iv c.2.2.1,iv c.2.2.2.1,iv c.2.2.2.2.1,iv c.2.2.2.2.2.1]
theorem Z0{a b:Int}{A B:Prop}(h1:a=b->A)(c:a≠b->B):Zl (a==b) A B:=⟨λh=>h1 (by simpa using h),λh=>c (by simpa using h)⟩
theorem ZpU{a b:C6}{K:C6->Zf->Prop}{h:Zf}(f:∀h',Ext h h'->K (ZfQ a b) h'):Zeg a b K h:=by
  unfold Zeg Zjy
  refine Zem (λt h'=>∃q,t=(some ⟨q,0,none⟩,())/\Ext h h'/\sz h+3<=q/\q<sz h'/\obj h' (sz h)=some (.cells (c6L a).toArray 52 (0,0))/\obj h' (sz h+1)=some (.cells (c6L b).toArray 52 (0,0))/\obj h' (sz h+2)=some (.cells [iv 0,iv 0,iv 0,iv 0,iv 0,iv 0].toArray 52 (0,0))/\
      obj h' q=some (.cells [iv (Zff a.1 b.1),iv (Zff a.2.1 b.2.1),iv (Zff a.2.2.1 b.2.2.1),iv (Zff a.2.2.2.1 b.2.2.2.1),iv (Zff a.2.2.2.2.1 b.2.2.2.2.1),iv 0].toArray 52 (0,0))) ?_ ?_
  ·rintro _ h' ⟨q,rfl,he,p,g,h0,h1,i,h3⟩
   dsimp only;have j:(sz h=q)=False:=eq_false (by omega);have k:(sz h+1=q)=False:=eq_false (by omega);have l:(sz h+2=q)=False:=eq_false (by omega);have m:(q=sz h+2)=False:=eq_false (by omega);have sh:sz h<=q:=by omega
   have fin:∀(r:C6) (c:Zf),r=ZfQ a b->Ext h c->K r c:=λr c n o=>by subst n;exact f c o
   simp (maxDischargeDepth:=60) only[ZQ,ZP,evC,Nqa,Nqb,Nqc,Nqd,Nqe,reduceCtorEq,h0,h1,i,h3,c6L,j,k,l,m,sh,he,if_false];refine Z0 (λd=>?_) λd=>Z0 (λe=>?_) λe=>?_
   all_goals
     refine fin _ _ ?_ ?_
     ·simp[ZfQ,d];try simp[e]
     ·simp +arith (maxDischargeDepth:=60) only[ZbM,Ztc,he,sh]
  ·simp (maxDischargeDepth:=60) only[ZQ,ZP,evC,Nqa,Nqb,Nqc,Nqd,Nqe,reduceCtorEq,Zxe,c6L]
theorem Zxu(a b:Int):Zo2 a b=min a b:=by unfold Zo2;split<;>omega
theorem Zs0(a b:Int):Zid a b=max a b:=by unfold Zid;split<;>omega
theorem Zcj{a b:Int}(c:0<=a/\a<=4611686018427387904)(d:0<=b/\b<=4611686018427387904):Zff a b=min a (4611686018427387904-b)+b:=by unfold Zff;rw[Yj (n:=4611686018427387904-b) (by omega) (by omega),Zxu,Yj (by omega) (by omega)]
theorem Zh5{a:Int}(b:0<=a/\a<=4611686018427387904):Zff a 0=a:=by rw[Zcj b (by omega)];omega
def z6:C6:=(0,0,0,0,0,0,())
def c6V(x:C6):Value:=.agg (c6L x).toArray
structure Rt(c:C6):Prop where
  p:0<=c.1/\c.1<=4611686018427387904
  b:0<=c.2.1/\c.2.1<=4611686018427387904
  d:0<=c.2.2.1/\c.2.2.1<=4611686018427387904
  e:0<=c.2.2.2.1/\c.2.2.2.1<=c.2.2.1
  s:0<=c.2.2.2.2.1/\c.2.2.2.2.1<=4611686018427387904
  m:0<=c.2.2.2.2.2.1/\c.2.2.2.2.2.1<=c.2.2.2.2.1
  z:0<c.2.2.1\/c.2.2.2.2.1=0
theorem Rt.zero:Rt z6:=⟨by decide,by decide,by decide,by decide,by decide,by decide,.inr rfl⟩
theorem Rt.two{a b:C6}(c:Rt a)(d:Rt b):Rt (ZfQ a b):=by
  obtain⟨e,f,a3,a4,a5,n,o⟩:=c;obtain⟨b1,b2,g,b4,h,p,q⟩:=d;have i:=Zcj e b1;have j:=Zcj f b2;have k:=Zcj a3 g;have l:=Zcj (show 0<=a.2.2.2.1/\a.2.2.2.1<=4611686018427387904 by omega) (show 0<=b.2.2.2.1/\b.2.2.2.1<=4611686018427387904 by omega);have m:=Zcj a5 h;refine⟨?_,?_,?_,?_,?_,?_,?_⟩<;>simp only[ZfQ,i,j,k,l,m]
  ·omega
  ·omega
  ·omega
  ·omega
  ·omega
  ·rw[Zxu];split<;>(try split)<;>omega
  ·omega
theorem ZNp{a:C6}(b:Rt a):ZfQ a z6=a:=by
  obtain⟨c,d,a3,a4,a5,f,g⟩:=b;have e:=Zh5 (show 0<=a.2.2.2.1/\a.2.2.2.1<=4611686018427387904 by omega);simp only[ZfQ,z6,Zh5 c,Zh5 d,Zh5 a3,e,Zh5 a5,if_true];split
  ·rw[show(0:Int)=a.2.2.2.2.2.1 from by omega]
  ·rfl
theorem ZF8{a:C6}(c:Rt a):ZfQ z6 a=a:=by
  obtain⟨d,e,a3,a4,a5,h,i⟩:=c;have b:∀{x:Int},0<=x/\x<=4611686018427387904->Zff 0 x=x:=λ{x} f=>by rw[Zcj (by omega) f];omega
  have g:=b (show 0<=a.2.2.2.1/\a.2.2.2.1<=4611686018427387904 by omega);simp only[ZfQ,z6,b d,b e,b a3,g,b a5,if_true]
theorem ZF9{a b:C6}(f:Rt a)(g:Rt b)(h:ZfQ a b=z6):a=z6:=by
  obtain⟨p,q,r,s,t,v,u⟩:=a;obtain⟨d,e,a3,a4,a5,i,j⟩:=f;obtain⟨b1,b2,k,b4,l,w,x⟩:=g;have c:0<=b.2.2.2.1/\b.2.2.2.1<=4611686018427387904:=by omega
  simp only[ZfQ,z6,Prod.mk.injEq]at h;dsimp only at d e a3 a4 a5 i j;obtain⟨h1,m,h3,n,o,y,_⟩:=h;rw[Zcj d b1]at h1;rw[Zcj e b2]at m;rw[Zcj a3 k]at h3;rw[Zcj (by omega) c]at n;rw[Zcj a5 l]at o;simp only[z6,Prod.mk.injEq];refine⟨by omega,by omega,by omega,by omega,by omega,by omega,trivial⟩
structure Wid where
  len:Int
  cnt:Int
  wid:Int
  e:IntKind.wrap .i64 (Int.tdiv len cnt)=wid
  c0:1<=cnt
  c1:cnt<=10
  w0:1<=wid
  w1:wid<=120000000
def Wid.sec:Wid:=⟨1000000,10,100000,by decide,by decide,by decide,by decide,by decide⟩
def Wid.dbl:Wid:=⟨2000000,2,1000000,by decide,by decide,by decide,by decide,by decide⟩
def bkt(k:Wid)(t:Int):Int:=t / k.wid
theorem ZkO{k:Wid}{t:Int}(h0:0<=t)(h1:t<=1152921504606846976):0<=bkt k t/\bkt k t<=1152921504606846976:=by have:=k.w0;exact⟨Int.ediv_nonneg h0 (by omega),Int.le_trans (Int.ediv_le_self _ h0) h1⟩
theorem ZtG{k:Wid}{t:Int}(h0:0<=t)(h1:t<=1152921504606846976):IntKind.wrap .i64 (Int.tdiv t k.wid)=bkt k t:=by have:=ZkO (k:=k) h0 h1;unfold bkt at this⊢;rw[Int.tdiv_eq_ediv_of_nonneg h0,Yj (by omega) (by omega)]
theorem Zuo{k:Wid}{s t:Int}(h:s<=t):bkt k s<=bkt k t:=Int.ediv_le_ediv (by have:=k.w0;omega) h
structure Win where
  last:Int
  p:Int->C6
structure Win.OK(w:Win):Prop where
  lo:0<=w.last
  hi:w.last<=1152921504606846976
  p:∀i,Rt (w.p i)
structure Zj8(k:Wid)(h:Zf)(wb mb:Nat)(w:Win):Prop where
  ok:w.OK
  cells:obj h wb=some (.cells [iv k.len,iv k.cnt,iv w.last,.map (some mb)].toArray 282 (0,0))
  map:∃f n,Zlv h mb f n/\(∀i v,f i=some v->∃x,v=c6V x/\Rt x)/\∀i,bkt k w.last- k.cnt<i->f i=some (c6V (w.p i))\/(f i=none/\w.p i=z6)
theorem Zj8.mlt{k:Wid}{h:Zf}{wb mb:Nat}{w:Win}(hw:Zj8 k h wb mb w):mb<sz h:=by obtain⟨f,n,hm,_⟩:=hw.map;exact hm.lt
theorem Zj8.congr{k:Wid}{h h':Zf}{wb mb:Nat}{w:Win}(hw:Zj8 k h wb mb w)(h1:obj h' wb=obj h wb)(a:obj h' mb=obj h mb):Zj8 k h' wb mb w:=by obtain⟨f,n,hm,r⟩:=hw.map;exact⟨hw.ok,h1.trans hw.cells,f,n,hm.congr a,r⟩
def ZO(last at_:Int):Int:=if at_<0 then 2 else if at_>1152921504606846976 then 2 else if at_<last then 7 else 0
theorem Zeo{last at_:Int}(h:ZO last at_=0):0<=at_/\at_<=1152921504606846976/\last<=at_:=by
  unfold ZO at h;split at h
  ·cases h
  ·split at h
   ·cases h
   ·split at h
    ·cases h
    ·omega
theorem Zlz{k:Wid}{h:Zf}{wb mb:Nat}{w:Win}(hw:Zj8 k h wb mb w){at_:Int}{K:Int->Zf->Prop}(a:K (ZO w.last at_) h):YH (some ⟨wb,0,none⟩) at_ K h:=by
  unfold YH ZcN;unfold ZO at a;simp (maxDischargeDepth:=60) only[ZQ,ZP,evC,Nqa,Nqb,Nqc,Nqd,Nqe,reduceCtorEq,hw.cells];refine Zo (λq=>?_) λq=>Zo (λb=>?_) λb=>Zo (λc=>?_) λc=>?_
  ·rw[if_pos q]at a;exact a
  ·rw[if_neg q,if_pos b]at a;exact a
  ·rw[if_neg q,if_neg b,if_pos c]at a;exact a
  ·rw[if_neg q,if_neg b,if_neg c]at a;exact a
theorem ZrY{k:Wid}{h:Zf}{wb:Nat}{r:List Value}(a:obj h wb=some (.cells (iv k.len::iv k.cnt::r).toArray 282 (0,0))){at_:Int}(h0:0<=at_)(h1:at_<=1152921504606846976){K:Int->Zf->Prop}:
    ZS (some ⟨wb,0,none⟩) at_ K h=K (bkt k at_) h:=by
  unfold ZS ZaB;have b:k.cnt≠0:=by have:=k.c0;omega
  have c:k.wid≠0:=by have:=k.w0;omega
  simp (maxDischargeDepth:=60) only[ZQ,ZP,evC,Nqa,Nqb,Nqc,Nqd,Nqe,reduceCtorEq,a,k.e,ZtG h0 h1];simp[b,c]
def loW(k:Wid)(at_:Int):Int:=max 0 (bkt k at_-(k.cnt- 1))
theorem Zyq{h:Zf}{w:Option Addr}{at_:Int}{K:(Option Addr×Option Addr×Unit)->Zf->Prop}:Xn w at_ K h=K (some ⟨sz h,0,none⟩,some ⟨sz h+1,0,none⟩,()) ((h.push (.cells [.pointer w].toArray 201 (0,0))).push (.cells [iv at_].toArray 3 (0,0))):=by unfold Xn ZeL;simp (maxDischargeDepth:=60) only[ZQ,ZP,evC,Nqa,Nqb,Nqc,Nqd,Nqe,reduceCtorEq]
theorem Zup{k:Wid}{Y:Yld}{y:Nat}{b1 b2 wb mb:Nat}{w:Win}{at_:Int}{h0:Zf}{T1 T2:TypeId}(hw:Zj8 k h0 wb mb w)(c:obj h0 b1=some (.cells [.pointer (some ⟨wb,0,none⟩)].toArray T1 (0,0)))
    (t:obj h0 b2=some (.cells [iv at_].toArray T2 (0,0))) (G:ZO w.last at_=0) {S:Nat->Prop} (H:∀j,S j->j<sz h0) (s1:¬S b1) (s2:¬S b2) (u:¬S wb) (s4:¬S mb)
    (J:Int->Zf->Prop) (m:∀i h h',J i h->Ext h h'->J i h')
    (I:∀i h,J i h->w.p i=z6->J (i+1) h)
    (L:∀i h (K:Bool->Zf->Prop),i<=bkt k at_->J i h->Upd S h0 h->(∀h',J (i+1) h'->Upd S h h'->K true h')->Y y [.agg (iv (IntKind.wrap .i64 (i*k.wid))::c6L (w.p i)).toArray] K h)
    {K:Zf->Prop} (M:J (loW k at_) h0) (C:∀h,J (bkt k at_+1) h->Upd S h0 h->K h):Y4 Y y (some ⟨b1,0,none⟩) (some ⟨b2,0,none⟩) K h0:=by
  obtain⟨a0,D,N⟩:=Zeo G;have O:=ZkO (k:=k) a0 D;have P:=Zuo (k:=k) N;unfold Y4 Zdn;have Q:=k.e;have R:=k.c0;have T:=k.c1;have U:k.cnt≠0:=by omega
  have V:Zid 0 (IntKind.wrap .i64 ((IntKind.wrap .i64 (bkt k at_-k.cnt))+1))=loW k at_:=by
    rw[Yj (n:=bkt k at_-k.cnt) (by omega) (by omega),Yj (by omega) (by omega),Zs0];unfold loW;congr 1;omega
  simp (maxDischargeDepth:=60) only[ZQ,ZP,evC,Nqa,Nqb,Nqc,Nqd,Nqe,reduceCtorEq,c,t,hw.cells,ZrY hw.cells a0 D,V];refine YK (λs h=>∃i,s=(i,())/\loW k at_<=i/\i<=bkt k at_+1/\J i h/\Upd S h0 h) (λs _=>(bkt k at_+1-s.1).toNat) ⟨_,rfl,Int.le_refl _,by unfold loW;omega,M,Upd.refl _ _⟩ ?_;rintro _ h ⟨i,rfl,v,W,d,hu⟩;dsimp only;have X:bkt k at_-(k.cnt- 1)<=i/\0<=i:=by unfold loW at v;omega
  refine Zo (λq=>?_) λq=>C h (by rw[show bkt k at_+1=i from by omega];exact d) hu;have Z:=Zp c;have E:=Zp hw.cells;have c1:obj h b1=some (.cells [.pointer (some ⟨wb,0,none⟩)].toArray T1 (0,0)):=(Zaa hu Z s1).trans c;have x:obj h wb=some (.cells [iv k.len,iv k.cnt,iv w.last,.map (some mb)].toArray 282 (0,0)):=(Zaa hu E u).trans hw.cells;have o:sz h0<=sz h:=hu.size;have g:b1<sz h:=by omega
  have l:wb<sz h:=by omega
  have r:IntKind.wrap .i64 (i+1)=i+1:=Yj (by omega) (by omega);obtain⟨f,n,hm,aa,z⟩:=(hw.congr (h':=h) (Zaa hu E u) (Zaa hu hw.mlt s4)).map;simp (maxDischargeDepth:=60) only[ZQ,ZP,evC,Nqa,Nqb,Nqc,Nqd,Nqe,reduceCtorEq,c1,x];refine hm.get i ?_
  rcases z i (by omega)with A|⟨A,hp⟩
  ·rw [A];refine⟨w.p i,rfl,?_⟩;simp (maxDischargeDepth:=60) only[ZQ,ZP,evC,Nqa,Nqb,Nqc,Nqd,Nqe,reduceCtorEq,c6L,c1,x,Znq g,ZeI g,Znq l,ZeI l,ZDW g,Zxw g,ZDW l,Zxw l,Q];refine⟨U,L i _ _ q (m _ _ _ d ?_) ?_ λh' B a=>?_⟩
   ·simp (maxDischargeDepth:=60) only[ZQ,ZP,evC,Nqa,Nqb,Nqc,Nqd,Nqe,reduceCtorEq]
   ·exact ZfA (Zii hu) (.inl (by omega))
   ·have F:sz h+1<=sz h':=by have:=a.size;simp only[YJ,Zbv,Zim]at this;exact this
    have ns:∀k,sz h0<=k->¬S k:=λk C hs=>by have:=H k hs;omega
    have g0:=Zaa a (b:=sz h) (by simp only[Zbv,Zim];omega) (ns _ o);have g1:=Zaa a (b:=b1) (by simp only[Zbv,Zim];omega) s1;have g3:=Zaa a (b:=wb) (by simp only[Zbv,Zim];omega) u;simp (maxDischargeDepth:=60) only[ZQ,ZP,evC,Nqa,Nqb,Nqc,Nqd,Nqe,reduceCtorEq,g0,g1,g3,c1,x,Znq g,ZeI g,Znq l,ZeI l,r];refine⟨⟨by omega,by omega,B,?_⟩,by omega⟩
    ·exact(ZfA (Zii hu) (.inl o)).trans a
  ·rw [A];refine⟨z6,rfl,?_⟩;simp (maxDischargeDepth:=60) only[ZQ,ZP,evC,Nqa,Nqb,Nqc,Nqd,Nqe,reduceCtorEq,r];refine⟨⟨by omega,by omega,I i _ (m _ _ _ d ?_) hp,?_⟩,by omega⟩
   ·simp (maxDischargeDepth:=60) only[ZQ,ZP,evC,Nqa,Nqb,Nqc,Nqd,Nqe,reduceCtorEq]
   ·exact ZfA (Zii hu) (.inl (by omega))
def ZBq(p:Int->C6):Nat->Int->C6->C6
  | 0,_,acc=>acc
  |n+1,i,acc=>ZBq p n (i+1) (ZfQ acc (p i))
def Zoj(p:Int->C6)(lo i:Int):C6:=ZBq p (i- lo).toNat lo z6
theorem Zq9(p:Int->C6):∀(n:Nat) (i:Int) (acc:C6),ZBq p (n+1) i acc=ZfQ (ZBq p n i acc) (p (i+n))
  | 0,i,acc=>by simp[ZBq]
  | n+1,i,acc=>by
    have:=Zq9 p n (i+1) (ZfQ acc (p i));show ZBq p (n+1) (i+1) (ZfQ acc (p i))=_;rw[this];show ZfQ _ _=ZfQ (ZBq p n (i+1) (ZfQ acc (p i))) _;congr 2;omega
theorem ZjW(p:Int->C6){lo i:Int}(h:lo<=i):Zoj p lo (i+1)=ZfQ (Zoj p lo i) (p i):=by unfold Zoj;rw[show(i+1-lo).toNat=(i- lo).toNat+1 from by omega,Zq9];congr 2;omega
theorem ZpY(p:Int->C6)(lo:Int):Zoj p lo lo=z6:=by unfold Zoj;simp[ZBq]
theorem ZwU{p:Int->C6}(a:∀i,Rt (p i))(lo:Int)(n:Nat):Rt (Zoj p lo (lo+n)):=by
  induction n with
  |zero=>rw[show lo+((0:Nat):Int)=lo from by omega,ZpY];exact Rt.zero
  | succ n b=>
    rw[show lo+((n+1:Nat):Int)=lo+n+1 from by omega,ZjW p (by omega)];exact b.two (a _)
def Win.sum(k:Wid)(w:Win)(at_:Int):C6:=Zoj w.p (loW k at_) (bkt k at_+1)
theorem ZoI{p:Int->C6}(a:∀i,Rt (p i)){lo i:Int}(h:lo<=i):Rt (Zoj p lo i):=by have:=ZwU a lo (i- lo).toNat;rwa[show lo+((i- lo).toNat:Int)=i from by omega]at this
theorem ZqP{k:Wid}{h:Zf}{wb mb:Nat}{w:Win}(hw:Zj8 k h wb mb w){at_:Int}{K:C6->Int->Zf->Prop}
    (q:∀h',Ext h h'->K (if ZO w.last at_=0 then w.sum k at_ else z6) (ZO w.last at_) h'):XB (some ⟨wb,0,none⟩) at_ K h:=by
  unfold XB ZdZ;have v:=Zp hw.cells;have x:=hw.mlt;simp (maxDischargeDepth:=60) only[ZQ,ZP,evC,Nqa,Nqb,Nqc,Nqd,Nqe,reduceCtorEq];refine Zlz (hw.congr (by simp (maxDischargeDepth:=60) only[ZQ,ZP,evC,Nqa,Nqb,Nqc,Nqd,Nqe,reduceCtorEq,ZeI v]) (by simp (maxDischargeDepth:=60) only[ZQ,ZP,evC,Nqa,Nqb,Nqc,Nqd,Nqe,reduceCtorEq,ZeI x])) ?_
  rcases Decidable.em (ZO w.last at_=0)with he|he
  ·rw [if_pos he]at q
   rw[he]at q⊢;obtain⟨a0,I,R⟩:=Zeo he;have J:=ZkO (k:=k) a0 I;simp (maxDischargeDepth:=60) only[ZQ,ZP,evC,Nqa,Nqb,Nqc,Nqd,Nqe,reduceCtorEq,bne_self_eq_false,Zyq,Znb];intro r;have L:loW k at_<=bkt k at_+1:=by have:=k.c0;unfold loW;omega
   have M:=Znq v;have n30:=ZeI v;have N:=Znq x;have n40:=ZeI x
   refine Zup (w:=w) (at_:=at_) (wb:=wb) (mb:=mb) (hw.congr ?_ ?_) ?_ ?_ he (S:=λk=>k=sz h+1\/k=sz h+5) ?_ ?_ ?_ ?_ ?_
     (λi c=>obj c (sz h+5)=some (Zdk r .ready none)/\obj c (sz h+4)=some (.deferred (some []))/\obj c (sz h+1)=some (.cells (c6L (Zoj w.p (loW k at_) i)).toArray 52 (0,0))/\
       obj c (sz h)=some (.cells [iv 0,iv 0,iv 0,iv 0,iv 0,iv 0].toArray 52 (0,0))/\Ext h c/\loW k at_<=i) (T1:=201) (T2:=3) ?_ ?_ ?_ ?_ ?_
   ·simp (maxDischargeDepth:=60) only[ZQ,ZP,evC,Nqa,Nqb,Nqc,Nqd,Nqe,reduceCtorEq,M,n30]
   ·simp (maxDischargeDepth:=60) only[ZQ,ZP,evC,Nqa,Nqb,Nqc,Nqd,Nqe,reduceCtorEq,N,n40]
   ·simp (maxDischargeDepth:=60) only[ZQ,ZP,evC,Nqa,Nqb,Nqc,Nqd,Nqe,reduceCtorEq]
   ·simp (maxDischargeDepth:=60) only[ZQ,ZP,evC,Nqa,Nqb,Nqc,Nqd,Nqe,reduceCtorEq]
   ·intro k O;simp (maxDischargeDepth:=60) only[ZQ,ZP,evC,Nqa,Nqb,Nqc,Nqd,Nqe,reduceCtorEq];omega
   ·omega
   ·omega
   ·omega
   ·omega
   ·rintro i c h' ⟨d,f,g,l,m,n⟩ e;exact⟨Zj d e,Zj f e,Zj g e,Zj l e,m.trans e,n⟩
   ·rintro i c ⟨d,f,g,l,m,n⟩ P;rw[ZjW _ n,P,ZNp (ZoI hw.ok.p n)];exact⟨d,f,g,l,m,by omega⟩
   ·rintro i c T _ ⟨d,f,g,l,m,n⟩ hu y
    rw[Zq2];refine⟨rfl,rfl,d,⟨((IntKind.wrap .i64 (i*k.wid),w.p i),()),rfl,?_⟩⟩;have B:=Zp d;have C:=Zp f;have U:=Zp g;have V:=Zp l;have D:sz h+5<sz c+1:=by omega
    have z:∀j,j<=5->(sz h+j=sz c)=False/\(sz c=sz h+j)=False:=λj W=>⟨eq_false (by omega),eq_false (by omega)⟩;have t:=z 1 (by omega);have u:=z 5 (by omega);simp (maxDischargeDepth:=60) only[ZQ,ZP,evC,Nqa,Nqb,Nqc,Nqd,Nqe,reduceCtorEq,ZqF,YU,Y3,d,g,t.1,t.2,u.1,u.2,c6L,D];refine ZpU (a:=Zoj w.p (loW k at_) i) (b:=w.p i) λh' o=>?_;have z':=Zml o;simp (maxDischargeDepth:=60) only[ZQ,ZP,evC,Nqa,Nqb,Nqc,Nqd,Nqe,reduceCtorEq,Y3]at z';have s:sz h+5<sz h':=by omega
    have A:=ZB o (b:=sz h+1) (by simp (maxDischargeDepth:=60) only[ZQ,ZP,evC,Nqa,Nqb,Nqc,Nqd,Nqe,reduceCtorEq,Y3];omega);have E:=ZB o (b:=sz h+5) (by simp (maxDischargeDepth:=60) only[ZQ,ZP,evC,Nqa,Nqb,Nqc,Nqd,Nqe,reduceCtorEq,Y3];omega);have F:=ZB o (b:=sz h+4) (by simp (maxDischargeDepth:=60) only[ZQ,ZP,evC,Nqa,Nqb,Nqc,Nqd,Nqe,reduceCtorEq,Y3];omega);have G:=ZB o (b:=sz h) (by simp (maxDischargeDepth:=60) only[ZQ,ZP,evC,Nqa,Nqb,Nqc,Nqd,Nqe,reduceCtorEq,Y3];omega);have H:=z 4 (by omega);have Q:(sz h=sz c)=False:=eq_false (by omega);simp (maxDischargeDepth:=60) only[ZQ,ZP,evC,Nqa,Nqb,Nqc,Nqd,Nqe,reduceCtorEq,YU,Y3,d,f,g,l,Q,t.1,H.1,u.1,t.2,H.2,u.2,D]at A E F G;rw[<-ZjW _ n];simp (maxDischargeDepth:=60) only[ZQ,ZP,evC,Nqa,Nqb,Nqc,Nqd,Nqe,reduceCtorEq,YU,Y3,A,E,s,c6L];refine y _ ⟨?_,?_,?_,?_,?_,by omega⟩ ?_
    ·simp (maxDischargeDepth:=60) only[ZQ,ZP,evC,Nqa,Nqb,Nqc,Nqd,Nqe,reduceCtorEq,YU,Y3,s]
    ·simp (maxDischargeDepth:=60) only[ZQ,ZP,evC,Nqa,Nqb,Nqc,Nqd,Nqe,reduceCtorEq,YU,Y3,s,F]
    ·simp (maxDischargeDepth:=60) only[ZQ,ZP,evC,Nqa,Nqb,Nqc,Nqd,Nqe,reduceCtorEq,YU,Y3,s,A,c6L]
    ·simp (maxDischargeDepth:=60) only[ZQ,ZP,evC,Nqa,Nqb,Nqc,Nqd,Nqe,reduceCtorEq,YU,Y3,s,G]
    ·exact ZfM (ZbM ((ZfM (ZbM (XW m) (by omega)) (by omega)).trans o) (by omega)) (by omega)
    ·exact Zhm (ZfA ((Zhm (ZfA (Zii (Upd.refl _ _)) (.inl (by omega))) (.inr (.inr rfl))).trans (o.upd _)) (.inr (.inl rfl))) (.inr (.inr rfl))
   ·simp (maxDischargeDepth:=60) only[ZQ,ZP,evC,Nqa,Nqb,Nqc,Nqd,Nqe,reduceCtorEq,ZpY,z6,c6L,Int.le_refl]
   ·rintro c ⟨d,f,g,l,m,n⟩ hu;refine⟨.ready,none,by decide,d,?_⟩;have B:=Zp d;have C:=Zp f;rw[Znw];simp (maxDischargeDepth:=60) only[ZQ,ZP,evC,Nqa,Nqb,Nqc,Nqd,Nqe,reduceCtorEq,YU,Y3,Zp2,d,f,g,l,B,C,c6L];exact q _ (ZfM (ZbM (ZfM m (by omega)) (by omega)) (by omega))
  ·have:(ZO w.last at_ !=0)=true:=by simpa using he
   rw[this];rw[if_neg he]at q;simp (maxDischargeDepth:=60) only[ZQ,ZP,evC,Nqa,Nqb,Nqc,Nqd,Nqe,reduceCtorEq];exact q _ (by simp (maxDischargeDepth:=60) only[ZQ,ZP,evC,Nqa,Nqb,Nqc,Nqd,Nqe,reduceCtorEq])
theorem ZtT{h:Zf}{s:Sl}{size:Nat}{vs:List Value}(a:Row h s size vs){i:Nat}(hi:i<s.len):∃b o,(∀{K:Nat->Nat->Prop} {n:Int},n=(i:Int)->K b o->YI s.ptr s.len n size K)/\∀j v,j<size->vs[i*size+j]?=some v->ZA (o+j) (obj h b)=some v:=by
  rcases a.at_ with h0|⟨b,o,c,d⟩
  ·omega
  ·refine ⟨b,o+i*size,λ{K n} e f=>?_,λj v g hv=>?_⟩
   ·subst e;exact⟨b,o,c,by omega,by omega,by simpa using f⟩
   ·have:=Ziz d hv;rw[Yq,<-Aqh]at this;exact this
theorem ZlM{c:C6}(k:Rt c){K:Bool->Zf->Prop}{h:Zf}(l:∀h',Ext h h'->K true h'):ZdA c K h:=by
  obtain⟨b,d,e,f,a,g,u⟩:=c;obtain⟨m,n,a3,a4,a5,o,p⟩:=k;dsimp only at m n a3 a4 a5 o p;unfold ZdA ZhI;simp (maxDischargeDepth:=60) only[ZQ,ZP,evC,Nqa,Nqb,Nqc,Nqd,Nqe,reduceCtorEq];refine YK (λs r=>∃i:Int,s=(i,())/\0<=i/\i<=6/\r=((h.push (.cells [iv b,iv d,iv e,iv f,iv a,iv g].toArray 52 (0,0))).push (.cells [iv b,iv d,iv e,iv f,iv a,iv g].toArray 3 (0,0)))) (λs _=>(6-s.1).toNat) ⟨0,rfl,by omega,by omega,rfl⟩ ?_;rintro _ _ ⟨i,rfl,t,hi,rfl⟩;dsimp only;refine Zo (λq=>?_) λq=>?_
  ·refine ⟨_,_,rfl,by omega,by omega,?_⟩
   have j:IntKind.wrap .i64 (i+1)=i+1:=Yj (by omega) (by omega);have v:i=0\/i=1\/i=2\/i=3\/i=4\/i=5:=by omega
   have D:∀x:Int,0<=x/\x<=4611686018427387904->decide (x<0)=false/\decide (x>4611686018427387904)=false:=λx k=>by constructor<;>simp<;>omega
   have d1:=D b (by omega);have d2:=D d (by omega);have d3:=D e (by omega);have d4:=D f (by omega);have d5:=D a (by omega);have d6:=D g (by omega)
   rcases v with rfl|rfl|rfl|rfl|rfl|rfl<;>simp (maxDischargeDepth:=60) only[ZQ,ZP,evC,Nqa,Nqb,Nqc,Nqd,Nqe,reduceCtorEq,Aqv,d1.1,d1.2,d2.1,d2.2,d3.1,d3.2,d4.1,d4.2,d5.1,d5.2,d6.1,d6.2,j,Int.toNat_zero,Int.reduceToNat]<;>exact⟨⟨by omega,by omega⟩,by omega⟩
  ·have fin:K true ((h.push (.cells [iv b,iv d,iv e,iv f,iv a,iv g].toArray 52 (0,0))).push (.cells [iv b,iv d,iv e,iv f,iv a,iv g].toArray 3 (0,0))):=l _ (XW (XW (Ext.refl _)));simp (maxDischargeDepth:=60) only[ZQ,ZP,evC,Nqa,Nqb,Nqc,Nqd,Nqe,reduceCtorEq];refine⟨λ_=>⟨λ_=>⟨λ_=>fin,λq=>?_⟩,λq=>?_⟩,λq=>?_⟩
   ·simp at q;rw[show(a==0)=true from by simp;omega];exact fin
   ·simp at q;omega
   ·simp at q;omega
theorem ZyI{h:Zf}{s:Sl}{a b:C6}(x:Row h s 6 (c6L a++c6L b))(C:Rt a)(L:Rt b){K:C6->Zf->Prop}(D:∀h',Ext h h'->K (ZfQ a b) h'):Zbw s K h:=by
  have hl:s.len=2:=by have:=x.len;simp[c6L]at this;omega
  unfold Zbw ZgE;simp (maxDischargeDepth:=60) only[ZQ,ZP,evC,Nqa,Nqb,Nqc,Nqd,Nqe,reduceCtorEq]
  refine YK (λst d=>∃i:Nat,st=((i:Int),())/\i<=2/\Ext h d/\obj d (sz h)=some (.cells [iv 0,iv 0,iv 0,iv 0,iv 0,iv 0].toArray 52 (0,0))/\obj d (sz h+1)=some (.cells (c6L (if i=0 then z6 else if i=1 then a else ZfQ a b)).toArray 52 (0,0)))
    (λs _=>(2-s.1).toNat) ⟨0,rfl,by omega,by simp (maxDischargeDepth:=60) only[ZQ,ZP,evC,Nqa,Nqb,Nqc,Nqd,Nqe,reduceCtorEq],by simp (maxDischargeDepth:=60) only[ZQ,ZP,evC,Nqa,Nqb,Nqc,Nqd,Nqe,reduceCtorEq],by simp (maxDischargeDepth:=60) only[ZQ,ZP,evC,Nqa,Nqb,Nqc,Nqd,Nqe,reduceCtorEq,z6,if_true,c6L]⟩ ?_
  rintro _ d ⟨i,rfl,hi,he,n,l⟩;dsimp only;have M:=Zp l;have g0:=Zp n;refine Zo (λq=>?_) λq=>?_
  ·have e:i<s.len:=by omega
   obtain⟨E,o,f,c⟩:=ZtT (x.ext he) e;refine f rfl ?_
   have hv:∀j,j<6->ZA (o+j) (obj d E)=(c6L (if i=0 then a else b))[j]?:=λj g=>by
     rcases(show i=0\/i=1 by omega)with rfl|rfl
     ·rw[if_pos rfl];obtain⟨v,hv⟩:∃v,(c6L a)[j]?=some v:=⟨_,Axy (by simpa[c6L]using g)⟩;rw[hv];exact c j v g (by rw[Aqs,Awb,Awu (by simpa[c6L]using g)];exact hv)
     ·rw[if_neg (by omega)];obtain⟨v,hv⟩:∃v,(c6L b)[j]?=some v:=⟨_,Axy (by simpa[c6L]using g)⟩;rw[hv];exact c j v g (by rw[Nat.one_mul,Awv (by simp[c6L])];simpa[c6L]using hv)
   have v0:=hv 0 (by omega);have v1:=hv 1 (by omega);have v2:=hv 2 (by omega);have v3:=hv 3 (by omega);have v4:=hv 4 (by omega);have v5:=hv 5 (by omega);have y:Rt (if i=0 then a else b):=by split<;>assumption
   generalize p:(if i=0 then a else b)=z at v0 v1 v2 v3 v4 v5 y;generalize r:(if i=0 then z6 else if i=1 then a else ZfQ a b)=ac at l;simp only[c6L,Axg,Axh,Axi]at v0 v1 v2 v3 v4 v5;have F:(sz h+1=sz d)=False:=eq_false (by omega);have G:(sz h=sz d)=False:=eq_false (by omega);simp (maxDischargeDepth:=60) only[ZQ,ZP,evC,Nqa,Nqb,Nqc,Nqd,Nqe,reduceCtorEq,v0,v1,v2,v3,v4,v5];refine ZlM y λh1 k=>?_;have H:=Zml k;simp (maxDischargeDepth:=60) only[ZQ,ZP,evC,Nqa,Nqb,Nqc,Nqd,Nqe,reduceCtorEq]at H;have A:=ZB k (b:=sz d) (by simp (maxDischargeDepth:=60) only[ZQ,ZP,evC,Nqa,Nqb,Nqc,Nqd,Nqe,reduceCtorEq]<;>omega);have t:=ZB k (b:=sz h+1) (by simp (maxDischargeDepth:=60) only[ZQ,ZP,evC,Nqa,Nqb,Nqc,Nqd,Nqe,reduceCtorEq]<;>omega);have B:=ZB k (b:=sz h) (by simp (maxDischargeDepth:=60) only[ZQ,ZP,evC,Nqa,Nqb,Nqc,Nqd,Nqe,reduceCtorEq]<;>omega);simp (maxDischargeDepth:=60) only[ZQ,ZP,evC,Nqa,Nqb,Nqc,Nqd,Nqe,reduceCtorEq,F,G,l,n]at A t B;simp (maxDischargeDepth:=60) only[ZQ,ZP,evC,Nqa,Nqb,Nqc,Nqd,Nqe,reduceCtorEq,A,t,c6L];refine ZpU (a:=ac) (b:=z) λN m=>?_;have O:=Zml m;have I:=Zj t m;have J:=Zj B m;have u:IntKind.wrap .i64 ((i:Int)+1)=((i+1:Nat):Int):=by rw[Yj (by omega) (by omega)];omega
   have w:(sz h=sz h+1)=False:=eq_false (by omega);simp (maxDischargeDepth:=60) only[ZQ,ZP,evC,Nqa,Nqb,Nqc,Nqd,Nqe,reduceCtorEq,I,c6L,u];refine⟨⟨i+1,rfl,by omega,ZbM (((ZbM (XW he) (by omega)).trans k).trans m) (by omega),?_,?_⟩,by omega⟩
   ·simp (maxDischargeDepth:=60) only[ZQ,ZP,evC,Nqa,Nqb,Nqc,Nqd,Nqe,reduceCtorEq,J,w]
   ·have:ZfQ ac z=(if i+1=0 then z6 else if i+1=1 then a else ZfQ a b):=by
      rw[<-r,<-p]
      rcases(show i=0\/i=1 by omega)with rfl|rfl
      ·simp[ZF8 C]
      ·simp
    rw[<-this]
  ·have e:i=2:=by omega
   subst e;simp (maxDischargeDepth:=60) only[ZQ,ZP,evC,Nqa,Nqb,Nqc,Nqd,Nqe,reduceCtorEq,n,l,c6L];exact D _ (ZbM he (by omega))
def ZDZ(h:Zf)(mb it:Nat):Nat:=match h[it]?,h[mb]? with
  |some (.mapIter _ _ seen _),some (.map es _)=>(leftOf es seen).size
  |_,_=>0
theorem ZmC{h:Zf}{mb it:Nat}{f:Int->Option Value}{n:Nat}{rem:Int->Prop}{L:Nat}(b:ZjQ h mb it f n rem L):ZDZ h mb it=L:=by obtain⟨es,c,since,seen,c0,d,hs,i,he,hi,hold,e,g,a⟩:=b;unfold ZDZ;rw[hi,d];exact g
def Win.add(k:Wid)(w:Win)(at_:Int)(x:C6):Win:=⟨at_,λi=>if i=bkt k at_ then ZfQ (w.p i) x else w.p i⟩
theorem ZgV{k:Wid}(b:(Int.tmod k.len k.cnt)=0)(hl:1<=k.len/\k.len<=1099511627776){h:Zf}{K:Option Addr->Int->Zf->Prop}(d:∀h',Zj8 k h' (sz h+1) (sz h) ⟨0,λ_=>z6⟩->Ext h h'->sz h'=sz h+2->K (some ⟨sz h+1,0,none⟩) 0 h'):ZcD k.len k.cnt K h:=by
  unfold ZcD Zjz;have e:=k.c0;have f:=k.c1;have c:((Int.tmod k.len k.cnt) !=0)=false:=by rw[b];rfl
  have g:decide (k.len<1)=false:=by simp;omega
  have j:decide (k.len>1099511627776)=false:=by simp;omega
  have l:decide (k.cnt<1)=false:=by simp;omega
  have m:decide (k.cnt>60)=false:=by simp;omega
  rw[g,j,l,m];simp (maxDischargeDepth:=60) only[Zbd,Zlo,Zxs,c];refine Zt (Zt (Zt (Zt ⟨by omega,Zt ?_⟩)));refine Zlv.new λh1 hm c a=>?_;simp (maxDischargeDepth:=60) only[ZQ,ZP,evC,Nqa,Nqb,Nqc,Nqd,Nqe,reduceCtorEq];simp only[YJ]at hm a;rw[a];refine d _ ⟨⟨by decide,by decide,λi=>Rt.zero⟩,?_,?_⟩ (XW c) ?_
  ·simp (maxDischargeDepth:=60) only[ZQ,ZP,evC,Nqa,Nqb,Nqc,Nqd,Nqe,reduceCtorEq,a]
  ·exact⟨_,_,hm.congr (ZjZ hm.lt),(λi v hv=>by cases hv),λi _=>.inr ⟨rfl,rfl⟩⟩
  ·simp (maxDischargeDepth:=60) only[ZQ,ZP,evC,Nqa,Nqb,Nqc,Nqd,Nqe,reduceCtorEq,a]
theorem Zls{k:Wid}{h:Zf}{wb mb:Nat}{w:Win}(hw:Zj8 k h wb mb w){at_:Int}{x:C6}(Y:Rt x){s:Sl}(hs:Row h s 6 (c6L x))(aC:∀b,s.blk=some b->b≠wb/\b≠mb){K:Int->Zf->Prop}
    (Z:∀h',Zj8 k h' wb mb (if ZO w.last at_=0 then w.add k at_ x else w)->Upd (λj=>j=wb\/j=mb) h h'->K (ZO w.last at_) h'):Xc (some ⟨wb,0,none⟩) at_ s K h:=by
  have bh:=k.c0;have bj:=k.c1;have hl:s.len=1:=by have:=hs.len;simp[c6L]at this;omega
  have l3:=Zp hw.cells;have l4:=hw.mlt
  have D:wb≠mb:=λe=>by
    obtain⟨f,n,⟨es,c,H,_⟩,_⟩:=hw.map;have:=hw.cells;rw[e]at this;rw[show obj h mb=h[mb]? from rfl,H]at this;cases this
  unfold Xc Zd0;simp (maxDischargeDepth:=60) only[ZQ,ZP,evC,Nqa,Nqb,Nqc,Nqd,Nqe,reduceCtorEq];refine Zlz hw ?_
  rcases Decidable.em (ZO w.last at_=0)with he|he
  case inr=>
    have:(ZO w.last at_ !=0)=true:=by simpa using he
    rw[this];rw[if_neg he]at Z;exact Yz (Z _ hw (Upd.refl _ _))
  rw[if_pos he]at Z;rw[he]at Z⊢;obtain⟨a0,a1,a2⟩:=Zeo he;have bn:=ZkO (k:=k) a0 a1;have bo:=Zuo (k:=k) a2;refine Zt ?_;refine YK (λst g=>∃i:Nat,st=((i:Int),())/\i<=1/\Ext h g) (λs _=>(1-s.1).toNat) ⟨0,rfl,by omega,Ext.refl _⟩ ?_;rintro _ g ⟨i,rfl,hi,l⟩;dsimp only;have zz:=Zml l;refine Zo (λq=>?_) λq=>?_
  ·have aE:i=0:=by omega
   subst aE;obtain⟨bb,o,aa,a⟩:=ZtT (i:=0) (hs.ext l) (by omega);refine aa rfl ?_;have v0:=a 0 _ (by omega) (show(c6L x)[0]?=some (iv (x.1))from rfl);have v1:=a 1 _ (by omega) (show(c6L x)[1]?=some (iv (x.2.1))from rfl);have v2:=a 2 _ (by omega) (show(c6L x)[2]?=some (iv (x.2.2.1))from rfl);have v3:=a 3 _ (by omega) (show(c6L x)[3]?=some (iv (x.2.2.2.1))from rfl);have v4:=a 4 _ (by omega) (show(c6L x)[4]?=some (iv (x.2.2.2.2.1))from rfl);have v5:=a 5 _ (by omega) (show(c6L x)[5]?=some (iv (x.2.2.2.2.2.1))from rfl);simp only[Axi]at v0;simp (maxDischargeDepth:=60) only[ZQ,ZP,evC,Nqa,Nqb,Nqc,Nqd,Nqe,reduceCtorEq,v0,v1,v2,v3,v4,v5];refine ZlM Y λh1 e1=>?_;have aF:IntKind.wrap .i64 (((0:Nat):Int)+1)=((1:Nat):Int):=by decide
   simp (maxDischargeDepth:=60) only[ZQ,ZP,evC,Nqa,Nqb,Nqc,Nqd,Nqe,reduceCtorEq,aF];exact⟨⟨1,rfl,by omega,(ZbM (XW l) (by omega)).trans e1⟩,by decide⟩
  ·clear q
   have c3:=Zj hw.cells l;have n3:wb<sz g:=by omega
   have n4:mb<sz g:=by omega
   have ae:mb≠wb:=λe=>D e.symm
   have m:obj (Zf.put g wb 2 (iv at_)) wb=some (.cells [iv k.len,iv k.cnt,iv at_,.map (some mb)].toArray 282 (0,0)):=by
     simp (maxDischargeDepth:=60) only[ZQ,ZP,evC,Nqa,Nqb,Nqc,Nqd,Nqe,reduceCtorEq,c3]
   have u1:Upd (λj=>j=wb\/j=mb) h (Zf.put g wb 2 (iv at_)):=ZwL (l.upd _) (.inr (.inl rfl));have aH:=(hw.congr (h':=g) (ZB l l3) (ZB l l4)).map;simp (maxDischargeDepth:=60) only[ZQ,ZP,evC,Nqa,Nqb,Nqc,Nqd,Nqe,reduceCtorEq,c3,ZrY m a0 a1];obtain⟨f,n,hm,af,U⟩:=aH;have I:Zlv (Zf.put g wb 2 (iv at_)) mb f n:=hm.congr (Zk2 ae);have ag:sz (Zf.put g wb 2 (iv at_))=sz g:=ZBo;generalize Zf.put g wb 2 (iv at_)=F at m u1 I ag⊢
   refine Zem (λ_ J=>∃P n',Zlv J mb P n'/\(∀i v,P i=some v->∃x,v=c6V x/\Rt x)/\(∀i,bkt k at_-k.cnt<i->P i=some (c6V ((w.add k at_ x).p i))\/(P i=none/\(w.add k at_ x).p i=z6))/\
     obj J wb=some (.cells [iv k.len,iv k.cnt,iv at_,.map (some mb)].toArray 282 (0,0))/\Upd (λj=>j=wb\/j=mb) h J) ?_ ?_
   ·rintro _ J ⟨P,n',ah,Q,ai,c9,u9⟩;have l9:=Zp c9;have g9:=ah.lt;simp (maxDischargeDepth:=60) only[ZQ,ZP,evC,Nqa,Nqb,Nqc,Nqd,Nqe,reduceCtorEq,c9];refine ah.range λbq R aj aK=>?_;simp only[YJ]at R aK⊢
    have aL:(w.add k at_ x).OK:=⟨a0,a1,λi=>by
      have:=hw.ok.p i;unfold Win.add;dsimp only;split
      ·exact this.two Y
      ·exact this⟩
    refine YK (λ_ g=>∃r M rem L,ZjQ g mb (sz J) r M rem L/\(∀i,bkt k at_-k.cnt<i->r i=P i)/\(∀i v,r i=some v->P i=some v)/\obj g wb=some (.cells [iv k.len,iv k.cnt,iv at_,.map (some mb)].toArray 282 (0,0))/\Upd (λj=>j=wb\/j=mb) h g)
      (λ_ g=>ZDZ g mb (sz J)) ⟨P,n',_,_,R,λ_ _=>rfl,λ_ _ hv=>hv,Zj c9 aj,u9.trans (aj.upd _)⟩ ?_
    rintro _ aM ⟨r,M,rem,L,hr,V,N,ak,O⟩;have aY:sz h<=sz J:=u9.size;refine Zem (λs z=>(s.1=true/\∃kk S L',ZjR z mb (sz J) r M S L' kk/\L'<L/\obj z wb=some (.cells [iv k.len,iv k.cnt,iv at_,.map (some mb)].toArray 282 (0,0))/\Upd (λj=>j=wb\/j=mb) h z)\/(s.1=false/\z=aM)) ?_ ?_
    ·rintro ⟨b,_⟩ z (⟨H,kk,S,L',A,hL,ao,B⟩ |⟨H,rfl⟩)
     ·simp only at H;subst H;refine Yz (A.ent λv hv=>⟨kk,rfl,?_⟩);obtain⟨y,rfl,hy⟩:=Q _ _ (N _ _ hv);refine⟨y,rfl,?_⟩;simp (maxDischargeDepth:=60) only[ZQ,ZP,evC,Nqa,Nqb,Nqc,Nqd,Nqe,reduceCtorEq,ao];refine Zo (λq=>?_) λq=>?_
      ·refine A.del λbt n13 T aq bu=>⟨⟨_,_,_,_,T,λi hi=>?_,λi v hv=>?_,YW ao aq D,B.trans (aq.mono λj _ G=>.inr G)⟩,?_⟩
       ·rw[Yj (by omega) (by omega)]at q;rw[Zfd _ _ (by omega)];exact V i hi
       ·unfold upd at hv;split at hv
        ·cases hv
        ·exact N i v hv
       ·rw[ZmC T,ZmC hr];exact hL
      ·exact⟨⟨_,_,_,_,A.go,V,N,B⟩,by rw[ZmC A.go,ZmC hr];exact hL⟩
     ·simp only at H;subst H;refine Zt ?_;refine Z _ ⟨aL,ak,r,M,hr.map,λi v hv=>Q i v (N i v hv),λi hi=>?_⟩ O;rw[V i hi];exact ai i hi
    ·refine hr.next (λ_=>?_) λkk v z L' bw hv A hL B bx=>?_
     ·exact .inr ⟨rfl,rfl⟩
     ·have aN:wb≠sz J:=by omega
      exact .inl ⟨rfl,kk,_,L',A,hL,YW ak B aN,⟨Aqp O.size B.size,λj G hn=>(B.old j (Aqq G O.size) (λe=>by have:j<sz h:=G;omega)).trans (O.old j G hn)⟩⟩
   ·have ck:ZA 3 (obj F wb)=some (.map (some mb)):=by rw[m];rfl
    have l2:=Zp m;simp (maxDischargeDepth:=60) only[ZQ,ZP,evC,Nqa,Nqb,Nqc,Nqd,Nqe,reduceCtorEq,m]
    have aO:(f (bkt k at_)).getD (.agg #[iv 0,iv 0,iv 0,iv 0,iv 0,iv 0])=c6V (w.p (bkt k at_)):=by
      rcases U (bkt k at_) (by omega)with e|⟨e,ep⟩
      ·rw[e];rfl
      ·rw[e,ep];rfl
    have W:=hw.ok.p (bkt k at_);refine I.get (bkt k at_) ⟨w.p (bkt k at_),aO,?_⟩;rw[<-ag]
    have ho:Own (F.push (.cells [iv (w.p (bkt k at_)).1,iv (w.p (bkt k at_)).2.1,iv (w.p (bkt k at_)).2.2.1,iv (w.p (bkt k at_)).2.2.2.1,iv (w.p (bkt k at_)).2.2.2.2.1,iv (w.p (bkt k at_)).2.2.2.2.2.1].toArray 52 (0,0))) (sz F) ⟨some ⟨sz F,0,none⟩,1,1⟩ 6 (c6L (w.p (bkt k at_))):=
      Own.newC (h:=F) (cells:=c6L (w.p (bkt k at_))) (t:=52) (size:=6) (n:=1) rfl (by decide)
    have aP:Row F s 6 (c6L x):=(hs.congr λb o H _ aQ=>u1.old b aQ λe=>by
      have:=aC b (by simp[Sl.blk,H])
      omega)
    refine(aP.ext (Ext.push _ _)).rd (Own.app ho (by rw[hl];rfl) (by simp[c6L,Zdl]) rfl (by rw[hl];show(1+1)*48<=140737488355328;decide) (by rw[hl];show 1+1<=140737488355328;decide) (by rw[YJ,Zbv];omega) λt h4 aS bA aT ba=>?_)
    have e4:Ext F h4:=(Ext.push F _).then aT λj G=>by
      simp[Sl.blk]at G;subst G;exact Aqo _
    refine ZyI aS.row W Y λE e5=>?_;have X:=e4.trans e5;have c5:=Zj m X;have u5:Upd (λj=>j=wb\/j=mb) h E:=u1.trans (X.upd _);have au:Zlv E mb f n:=I.congr (ZB X I.lt);have pr:=W.two Y;have l5:=Zp c5;have aw:=au.lt;generalize ax:ZfQ (w.p (bkt k at_)) x=d at pr⊢
    have old:∀i,bkt k at_-k.cnt<i->i≠bkt k at_->f i=some (c6V ((w.add k at_ x).p i))\/(f i=none/\(w.add k at_ x).p i=z6):=λi hi D=>by
      have:(w.add k at_ x).p i=w.p i:=if_neg D;rw[this];exact U i (by omega)
    have new:(w.add k at_ x).p (bkt k at_)=d:=(if_pos rfl).trans ax;simp (maxDischargeDepth:=60) only[ZQ,ZP,evC,Nqa,Nqb,Nqc,Nqd,Nqe,reduceCtorEq,c6L,c5,Znq l5,ZeI l5,ZDW l5,Zxw l5]
    have u6:Upd (λj=>j=wb\/j=mb) h (Zf.puts (E.push (.cells [iv 0,iv 0,iv 0,iv 0,iv 0,iv 0].toArray 52 (0,0))) (sz E) 0 [iv d.1,iv d.2.1,iv d.2.2.1,iv d.2.2.2.1,iv d.2.2.2.2.1,iv d.2.2.2.2.2.1]):=
      ZfA (Zii u5) (.inl (by have:sz h<=sz E:=u5.size;omega))
    have ay:Zlv (Zf.puts (E.push (.cells [iv 0,iv 0,iv 0,iv 0,iv 0,iv 0].toArray 52 (0,0))) (sz E) 0 [iv d.1,iv d.2.1,iv d.2.2.1,iv d.2.2.2.1,iv d.2.2.2.2.1,iv d.2.2.2.2.2.1]) mb f n:=
      au.congr ((ZjX (by have:=aw;simp only[YJ]at this;omega)).trans (ZjZ aw))
    have aU:obj (Zf.puts (E.push (.cells [iv 0,iv 0,iv 0,iv 0,iv 0,iv 0].toArray 52 (0,0))) (sz E) 0 [iv d.1,iv d.2.1,iv d.2.2.1,iv d.2.2.2.1,iv d.2.2.2.2.1,iv d.2.2.2.2.2.1]) wb=some (.cells [iv k.len,iv k.cnt,iv at_,.map (some mb)].toArray 282 (0,0)):=by
      simp (maxDischargeDepth:=60) only[ZQ,ZP,evC,Nqa,Nqb,Nqc,Nqd,Nqe,reduceCtorEq,c5,ZeI l5]
    have aV:∀c:C6,(bif c.1==0 then(bif c.2.1==0 then(bif c.2.2.1==0 then(bif c.2.2.2.1==0 then(bif c.2.2.2.2.1==0 then(bif c.2.2.2.2.2.1==0 then true else false)else false)else false)else false)else false)else false)=decide (c=z6):=λc=>by
      obtain⟨c1,c2,c3,c4,c5,c6,u⟩:=c;simp only[z6,Prod.mk.injEq,Bool.cond_eq_ite,beq_iff_eq]
      by_cases h1:c1=0<;>by_cases F:c2=0<;>by_cases h3:c3=0<;>by_cases h4:c4=0<;>by_cases E:c5=0<;>by_cases h6:c6=0<;>simp[h1,F,h3,h4,E,h6]
    rw[aV d]
    rcases Decidable.em (d=z6)with h0|h0
    ·refine Zi (by simp[h0]) ?_;refine⟨f,n,ay,af,λi hi=>?_,u6⟩
     by_cases C:i=bkt k at_
     ·subst C;rw[new,h0]
      rcases U (bkt k at_) (by omega)with e|⟨e,ep⟩
      ·have:w.p (bkt k at_)=z6:=ZF9 W Y (ax.trans h0);rw[this]at e;exact .inl e
      ·exact .inr ⟨e,rfl⟩
     ·exact old i hi C
    ·refine Zn (by simp[h0]) ?_;refine ay.put (bkt k at_) (c6V d) λh7 aW u7 z7=>⟨_,_,aW,λi v hv=>?_,λi hi=>?_,YW aU u7 D,u6.trans (u7.mono λj _ G=>.inr G)⟩
     ·unfold upd at hv;split at hv
      ·cases hv;exact⟨d,rfl,pr⟩
      ·exact af i v hv
     ·by_cases C:i=bkt k at_
      ·subst C;rw[Zep,new];exact .inl rfl
      ·rw[Zfd _ _ C];exact old i hi C
def Zql(p:Int->C6)(cur:Int):Nat->Int->Int->Int
  | 0,_,acc=>acc
  |n+1,i,acc=>Zql p cur n (i+1) (if i=cur then acc else Zid acc (p i).1)
def Zgq(p:Int->C6)(cur lo i:Int):Int:=Zql p cur (i- lo).toNat lo 0
theorem Zo1(p:Int->C6)(cur:Int):∀(n:Nat) (i acc:Int),Zql p cur (n+1) i acc=if i+n=cur then Zql p cur n i acc else Zid (Zql p cur n i acc) (p (i+n)).1
  | 0,i,acc=>by simp[Zql]
  | n+1,i,acc=>by
    have:=Zo1 p cur n (i+1) (if i=cur then acc else Zid acc (p i).1);show Zql p cur (n+1) (i+1) _=_;rw[this,show i+1+(n:Int)=i+((n+1:Nat):Int)from by omega];rfl
theorem Zkx(p:Int->C6)(cur:Int){lo i:Int}(h:lo<=i):Zgq p cur lo (i+1)=if i=cur then Zgq p cur lo i else Zid (Zgq p cur lo i) (p i).1:=by unfold Zgq;rw[show(i+1-lo).toNat=(i- lo).toNat+1 from by omega,Zo1,show lo+((i- lo).toNat:Int)=i from by omega]
theorem Zxt(p:Int->C6)(cur lo:Int):Zgq p cur lo lo=0:=by unfold Zgq;simp[Zql]
theorem Zt2{p:Int->C6}{cur:Int}:∀(n:Nat) (i acc:Int),0<=acc->0<=Zql p cur n i acc
  | 0,i,acc,h=>h
  |n+1,i,acc,h=>Zt2 n (i+1) _ (by split;exact h;rw[Zs0];omega)
def Win.most(k:Wid)(w:Win)(at_:Int):Int:=Zgq w.p (bkt k at_) (loW k at_) (bkt k at_+1)
theorem Zps{k:Wid}{h:Zf}{wb:Nat}{r:List Value}(a:obj h wb=some (.cells (iv k.len::iv k.cnt::r).toArray 282 (0,0))){at_:Int}{K:Int->Zf->Prop}:
    ZS (some ⟨wb,0,none⟩) at_ K h=K (IntKind.wrap .i64 (Int.tdiv at_ k.wid)) h:=by
  unfold ZS ZaB;have b:k.cnt≠0:=by have:=k.c0;omega
  have c:k.wid≠0:=by have:=k.w0;omega
  simp (maxDischargeDepth:=60) only[ZQ,ZP,evC,Nqa,Nqb,Nqc,Nqd,Nqe,reduceCtorEq,a,k.e];simp[b,c]
theorem Zym{k:Wid}{at_ i:Int}(h0:0<=i)(hi:i<=bkt k at_)(b:0<=at_)(a:at_<=1152921504606846976):IntKind.wrap .i64 (Int.tdiv (IntKind.wrap .i64 (i*k.wid)) k.wid)=i:=by have c:=k.w0;have h1:i*k.wid<=at_:=Int.le_trans (Int.mul_le_mul_of_nonneg_right hi (by omega)) (Int.ediv_mul_le at_ (by omega));have d:0<=i*k.wid:=Int.mul_nonneg h0 (by omega);have e:=ZkO (k:=k) b a;rw[Yj (n:=i*k.wid) (by omega) (by omega),Int.mul_tdiv_cancel _ (by omega),Yj (by omega) (by omega)]
theorem Zr6{k:Wid}{h:Zf}{wb mb:Nat}{w:Win}(hw:Zj8 k h wb mb w){at_:Int}{K:Int->Int->Zf->Prop}
    (z:∀h',Ext h h'->K (if ZO w.last at_=0 then w.most k at_ else 0) (ZO w.last at_) h'):X3 (some ⟨wb,0,none⟩) at_ K h:=by
  unfold X3 Zdo;have E:=Zp hw.cells;have F:=hw.mlt;simp (maxDischargeDepth:=60) only[ZQ,ZP,evC,Nqa,Nqb,Nqc,Nqd,Nqe,reduceCtorEq];refine Zlz (hw.congr (by simp (maxDischargeDepth:=60) only[ZQ,ZP,evC,Nqa,Nqb,Nqc,Nqd,Nqe,reduceCtorEq,ZeI E,Znq E]) (by simp (maxDischargeDepth:=60) only[ZQ,ZP,evC,Nqa,Nqb,Nqc,Nqd,Nqe,reduceCtorEq,ZeI F,Znq F])) ?_
  rcases Decidable.em (ZO w.last at_=0)with he|he
  ·rw [if_pos he]at z
   rw[he]at z⊢;obtain⟨a0,G,U⟩:=Zeo he;have O:=ZkO (k:=k) a0 G;simp (maxDischargeDepth:=60) only[ZQ,ZP,evC,Nqa,Nqb,Nqc,Nqd,Nqe,reduceCtorEq,bne_self_eq_false,Zyq,Znb];intro r;have P:loW k at_<=bkt k at_+1:=by have:=k.c0;unfold loW;omega
   have J:0<=loW k at_:=by unfold loW;omega
   have L:=Znq E;have n30:=ZeI E;have Q:=Znq F;have n40:=ZeI F
   refine Zup (w:=w) (at_:=at_) (wb:=wb) (mb:=mb) (hw.congr ?_ ?_) ?_ ?_ he (S:=λk=>k=sz h+2\/k=sz h+6) ?_ ?_ ?_ ?_ ?_
     (λi b=>obj b (sz h+6)=some (Zdk r .ready none)/\obj b (sz h+5)=some (.deferred (some []))/\obj b (sz h+2)=some (.cells [iv (Zgq w.p (bkt k at_) (loW k at_) i)].toArray 3 (0,0))/\
       obj b (sz h)=some (.cells [.pointer (some ⟨wb,0,none⟩)].toArray 201 (0,0))/\obj b (sz h+1)=some (.cells [iv at_].toArray 3 (0,0))/\obj b wb=some (.cells [iv k.len,iv k.cnt,iv w.last,.map (some mb)].toArray 282 (0,0))/\Ext h b/\loW k at_<=i) (T1:=201) (T2:=3) ?_ ?_ ?_ ?_ ?_
   ·simp (maxDischargeDepth:=60) only[ZQ,ZP,evC,Nqa,Nqb,Nqc,Nqd,Nqe,reduceCtorEq,L,n30]
   ·simp (maxDischargeDepth:=60) only[ZQ,ZP,evC,Nqa,Nqb,Nqc,Nqd,Nqe,reduceCtorEq,Q,n40]
   ·simp (maxDischargeDepth:=60) only[ZQ,ZP,evC,Nqa,Nqb,Nqc,Nqd,Nqe,reduceCtorEq]
   ·simp (maxDischargeDepth:=60) only[ZQ,ZP,evC,Nqa,Nqb,Nqc,Nqd,Nqe,reduceCtorEq]
   ·intro k R;simp (maxDischargeDepth:=60) only[ZQ,ZP,evC,Nqa,Nqb,Nqc,Nqd,Nqe,reduceCtorEq];omega
   ·omega
   ·omega
   ·omega
   ·omega
   ·rintro i b h' ⟨c,m,d,f,s,t,u,x⟩ e;exact⟨Zj c e,Zj m e,Zj d e,Zj f e,Zj s e,Zj t e,u.trans e,x⟩
   ·rintro i b ⟨c,m,d,f,s,t,u,x⟩ T
    have A:Zgq w.p (bkt k at_) (loW k at_) (i+1)=Zgq w.p (bkt k at_) (loW k at_) i:=by
      rw[Zkx _ _ x,T];split
      ·rfl
      ·have:=Zt2 (p:=w.p) (cur:=bkt k at_) (i- loW k at_).toNat (loW k at_) 0 (by omega);rw[Zs0];show max (Zgq _ _ _ _) 0=_;unfold Zgq;omega
    rw[A];exact⟨c,m,d,f,s,t,u,by omega⟩
   ·rintro i b V H ⟨c,m,d,f,s,t,u,x⟩ hu B
    rw[Zq2];refine⟨rfl,rfl,c,⟨((IntKind.wrap .i64 (i*k.wid),w.p i),()),rfl,?_⟩⟩;have M:=Zp c;have N:=Zp m;have W:=Zp d;have X:=Zp f;have a:sz h+6<sz b+1:=by omega
    have C:∀j,j<=6->(sz h+j=sz b)=False/\(sz b=sz h+j)=False:=λj Y=>⟨eq_false (by omega),eq_false (by omega)⟩;have y:(sz h=sz b)=False:=eq_false (by omega);have g:(sz b=sz h)=False:=eq_false (by omega);have n:=C 1 (by omega);have o:=C 2 (by omega);have v:=C 6 (by omega);have mw:(wb=sz b)=False:=eq_false (by omega);have l:(wb=sz h+6)=False:=eq_false (by omega);simp (maxDischargeDepth:=60) only[ZQ,ZP,evC,Nqa,Nqb,Nqc,Nqd,Nqe,reduceCtorEq,ZqF,YU,Y3,c,d,f,s,y,g,n.1,n.2,o.1,o.2,v.1,v.2,c6L,a];refine(Zps (k:=k) (r:=[iv w.last,.map (some mb)]) ?_).mpr ?_
    ·simp (maxDischargeDepth:=60) only[ZQ,ZP,evC,Nqa,Nqb,Nqc,Nqd,Nqe,reduceCtorEq,YU,Y3,t,mw,l,a]
    simp (maxDischargeDepth:=60) only[ZQ,ZP,evC,Nqa,Nqb,Nqc,Nqd,Nqe,reduceCtorEq,YU,Y3,c,d,f,s,y,g,n.1,n.2,o.1,o.2,v.1,v.2,c6L,a];refine(Zps (k:=k) (r:=[iv w.last,.map (some mb)]) ?_).mpr ?_
    ·simp (maxDischargeDepth:=60) only[ZQ,ZP,evC,Nqa,Nqb,Nqc,Nqd,Nqe,reduceCtorEq,YU,Y3,t,mw,l,a]
    rw[ZtG a0 G,Zym (by omega) H a0 G];refine ZbG (λq=>?_) λq=>?_
    ·have A:Zgq w.p (bkt k at_) (loW k at_) (i+1)=Zid (Zgq w.p (bkt k at_) (loW k at_) i) (w.p i).1:=by rw[Zkx _ _ x,if_neg q]
     simp (maxDischargeDepth:=60) only[ZQ,ZP,evC,Nqa,Nqb,Nqc,Nqd,Nqe,reduceCtorEq,YU,Y3,c,m,d,f,s,t,mw,l,y,g,n.1,n.2,o.1,o.2,v.1,v.2,a];rw[<-A];have nm:(sz h=sz h+6)=False/\(sz h+1=sz h+6)=False:=⟨eq_false (by omega),eq_false (by omega)⟩;refine B _ ⟨?_,?_,?_,?_,?_,?_,?_,by omega⟩ ?_
     ·simp (maxDischargeDepth:=60) only[ZQ,ZP,evC,Nqa,Nqb,Nqc,Nqd,Nqe,reduceCtorEq,YU,Y3,a]
     ·have D:=C 5 (by omega);simp (maxDischargeDepth:=60) only[ZQ,ZP,evC,Nqa,Nqb,Nqc,Nqd,Nqe,reduceCtorEq,YU,Y3,a,m,D.1,D.2]
     ·simp (maxDischargeDepth:=60) only[ZQ,ZP,evC,Nqa,Nqb,Nqc,Nqd,Nqe,reduceCtorEq,YU,Y3,a,d,o.1,o.2]
     ·simp (maxDischargeDepth:=60) only[ZQ,ZP,evC,Nqa,Nqb,Nqc,Nqd,Nqe,reduceCtorEq,YU,Y3,a,f,y,g]
     ·simp (maxDischargeDepth:=60) only[ZQ,ZP,evC,Nqa,Nqb,Nqc,Nqd,Nqe,reduceCtorEq,YU,Y3,a,s,n.1,n.2]
     ·have I:(wb=sz h+2)=False:=eq_false (by omega);simp (maxDischargeDepth:=60) only[ZQ,ZP,evC,Nqa,Nqb,Nqc,Nqd,Nqe,reduceCtorEq,YU,Y3,a,t,mw,l,I]
     ·exact ZfM (Ztc (ZfM (ZbM (XW u) (by omega)) (by omega)) (by omega)) (by omega)
     ·exact Zhm (ZwL (Zhm (ZfA (Zii (Upd.refl _ _)) (.inl (by omega))) (.inr (.inr rfl))) (.inr (.inl rfl))) (.inr (.inr rfl))
    ·have A:Zgq w.p (bkt k at_) (loW k at_) (i+1)=Zgq w.p (bkt k at_) (loW k at_) i:=by rw[Zkx _ _ x,if_pos q]
     simp (maxDischargeDepth:=60) only[ZQ,ZP,evC,Nqa,Nqb,Nqc,Nqd,Nqe,reduceCtorEq,YU,Y3,c,m,d,f,s,t,mw,l,y,g,n.1,n.2,o.1,o.2,v.1,v.2,a];refine B _ ⟨?_,?_,?_,?_,?_,?_,?_,by omega⟩ ?_
     ·simp (maxDischargeDepth:=60) only[ZQ,ZP,evC,Nqa,Nqb,Nqc,Nqd,Nqe,reduceCtorEq,YU,Y3,a]
     ·have D:=C 5 (by omega);simp (maxDischargeDepth:=60) only[ZQ,ZP,evC,Nqa,Nqb,Nqc,Nqd,Nqe,reduceCtorEq,YU,Y3,a,m,D.1,D.2]
     ·simp (maxDischargeDepth:=60) only[ZQ,ZP,evC,Nqa,Nqb,Nqc,Nqd,Nqe,reduceCtorEq,YU,Y3,a,d,o.1,o.2,A]
     ·simp (maxDischargeDepth:=60) only[ZQ,ZP,evC,Nqa,Nqb,Nqc,Nqd,Nqe,reduceCtorEq,YU,Y3,a,f,y,g]
     ·simp (maxDischargeDepth:=60) only[ZQ,ZP,evC,Nqa,Nqb,Nqc,Nqd,Nqe,reduceCtorEq,YU,Y3,a,s,n.1,n.2]
     ·simp (maxDischargeDepth:=60) only[ZQ,ZP,evC,Nqa,Nqb,Nqc,Nqd,Nqe,reduceCtorEq,YU,Y3,a,t,mw,l]
     ·exact ZfM (ZfM (ZbM (XW u) (by omega)) (by omega)) (by omega)
     ·exact Zhm (Zhm (ZfA (Zii (Upd.refl _ _)) (.inl (by omega))) (.inr (.inr rfl))) (.inr (.inr rfl))
   ·simp (maxDischargeDepth:=60) only[ZQ,ZP,evC,Nqa,Nqb,Nqc,Nqd,Nqe,reduceCtorEq,Zxt,Int.le_refl,hw.cells,L,n30]
   ·rintro b ⟨c,m,d,f,s,t,u,x⟩ hu;refine⟨.ready,none,by decide,c,?_⟩;have M:=Zp c;have N:=Zp m;rw[Znw];simp (maxDischargeDepth:=60) only[ZQ,ZP,evC,Nqa,Nqb,Nqc,Nqd,Nqe,reduceCtorEq,YU,Y3,Zp2,c,m,d,f,M,N];exact z _ (ZfM (ZfM u (by omega)) (by omega))
  ·have:(ZO w.last at_ !=0)=true:=by simpa using he
   rw[this];rw[if_neg he]at z;simp (maxDischargeDepth:=60) only[ZQ,ZP,evC,Nqa,Nqb,Nqc,Nqd,Nqe,reduceCtorEq];exact z _ (by simp (maxDischargeDepth:=60) only[ZQ,ZP,evC,Nqa,Nqb,Nqc,Nqd,Nqe,reduceCtorEq])
theorem Zs2{h:Zf}{mb:Nat}{f:Int->Option Value}{n:Nat}(b:Zlv h mb f n){K:Option Nat->Zf->Prop}(d:∀h',Zlv h' (sz h) f n->Ext h h'->sz h'=sz h+1->K (some (sz h)) h'):ZU (some mb) K h:=by unfold ZU Yw;obtain⟨es,c,e,a⟩:=b;exact Zt ⟨280,mb,es,c,rfl,e,_,rfl,_,rfl,d (h.push (.map es c)) ⟨es,c,Zc2,a⟩ (Ext.push _ _) Zbv⟩
theorem ZpB{k:Wid}{h:Zf}{wb mb:Nat}{w:Win}(hw:Zj8 k h wb mb w){K:Option Addr->Zf->Prop}(a:∀h',Zj8 k h' (sz h) (sz h+1) w->Ext h h'->sz h'=sz h+2->K (some ⟨sz h,0,none⟩) h'):Za7 (some ⟨wb,0,none⟩) K h:=by
  unfold Za7 Zdp;have t:=Zp hw.cells;have u:=hw.mlt;have c:=hw.cells;refine Zt (Zg (rI (Zb c rfl) (rI (Zb c rfl) (rI (Zb c rfl) (rM (Zb c rfl) (ZH λh1 c1 m o=>?_))))));refine Zaw c1 λg p q v=>?_;have d:Ext h g:=m.then q λk a=>by simp only[a,YJ];exact Aqo _
  have e:=Zj c d;refine Zg (rM (Zb e rfl) ?_);obtain⟨f,n,hm,r⟩:=hw.map;refine Zs2 (hm.congr (ZB d hm.lt)) λh3 b i z3=>?_;have s:=Zj p i;refine Zbs s (show 3<4 by decide) rfl λx j l z4=>?_;have zz:sz g=sz h+1:=by have:h1.size=h.size+1:=o;simp only[YJ]at this;omega
  rw[zz]at b z3;refine a _ ⟨hw.ok,?_,f,n,b.congr (l.old _ (by simp only[YJ];omega) (by simp only[YJ];omega)),r⟩ ((d.trans i).then l λk a=>by simp only[a,YJ];exact Aqo _) (by omega);rw[zz]at j;exact j
structure Node where
  last:Int
  s:Int->C6
  d:Int->C6
  fl:Int
def Node.zero:Node:=⟨0,λ_=>z6,λ_=>z6,0⟩
structure ZhC(h:Zf)(nb a ma b mb:Nat)(n:Node):Prop where
  cells:obj h nb=some (.cells [.pointer (some ⟨a,0,none⟩),.pointer (some ⟨b,0,none⟩),iv n.fl].toArray 216 (0,0))
  ws:Zj8 .sec h a ma ⟨n.last,n.s⟩
  wd:Zj8 .dbl h b mb ⟨n.last,n.d⟩
  fl:0<=n.fl/\n.fl<=4096
def Zfx(h:Zf)(q:Nat)(n:Node):Prop:=ZhC h (q+4) (q+1) q (q+3) (q+2) n
theorem Zfx.congr{h h':Zf}{q:Nat}{n:Node}(a:Zfx h q n)(he:∀j,q<=j->j<q+5->obj h' j=obj h j):Zfx h' q n:=
  ⟨(he _ (by omega) (by omega)).trans a.cells,a.ws.congr (he _ (by omega) (by omega)) (he _ (by omega) (by omega)),a.wd.congr (he _ (by omega) (by omega)) (he _ (by omega) (by omega)),a.fl⟩
theorem Zfx.lt{h:Zf}{q:Nat}{n:Node}(a:Zfx h q n):q+4<sz h:=Zp a.cells
theorem Zfx.ext{h h':Zf}{q:Nat}{n:Node}(a:Zfx h q n)(he:Ext h h'):Zfx h' q n:=a.congr λj _ b=>ZB he (by have:=a.lt;omega)
theorem ZvY{h:Zf}{K:Option Addr->Zf->Prop}(g:∀h',Zfx h' (sz h) Node.zero->Ext h h'->sz h'=sz h+5->K (some ⟨sz h+4,0,none⟩) h'):Zj1 K h:=by unfold Zj1 Zl2;refine ZgV (k:=.sec) (by decide) (by decide) λh1 w1 i d=>Za ?_;refine ZgV (k:=.dbl) (by decide) (by decide) λe f c j=>Za (ZH λh3 l b z3=>?_);have m:sz h3=sz e+1:=z3;have a:obj h3 (sz e)=_:=l;simp only[YJ];rw[d]at f a;rw[j,d]at a⊢;refine g h3 ⟨?_,(w1.congr (ZB c (by omega)) (ZB c (by omega))).congr (ZB b (by omega)) (ZB b (by omega)),f.congr (ZB b (by omega)) (ZB b (by omega)),by decide⟩ ((i.trans c).trans b) (by omega);exact a
theorem ZhC.ext{h h':Zf}{d a e b mb:Nat}{n:Node}(c:ZhC h d a e b mb n)(he:Ext h h'):ZhC h' d a e b mb n:=
  ⟨Zj c.cells he,c.ws.congr (ZB he (Zp c.ws.cells)) (ZB he c.ws.mlt),c.wd.congr (ZB he (Zp c.wd.cells)) (ZB he c.wd.mlt),c.fl⟩
def Node.sum(n:Node)(at_:Int):C6:=if ZO n.last at_=0 then Win.sum .sec ⟨n.last,n.s⟩ at_ else z6
theorem Zr4{h:Zf}{f a j b mb:Nat}{n:Node}(l:ZhC h f a j b mb n){at_:Int}{K:C6->Int->Zf->Prop}(e:∀h',Ext h h'->K (n.sum at_) (ZO n.last at_) h'):Xa (some ⟨f,0,none⟩) at_ K h:=by
  unfold Xa ZeW;refine ZH λh1 c1 g q=>Za (Zt (Zg ?_));have d:=l.ext g;refine rP (Zb d.cells rfl) (ZqP d.ws λr i=>?_);have m:=Zj c1 i;refine Zaw m λh3 c o z3=>Za ?_;have p:Ext h h3:=(g.trans i).then o λk e=>by subst e;exact Aqo _
  exact rI (Zb c rfl) (rI (Zb c rfl) (rI (Zb c rfl) (rI (Zb c rfl) (rI (Zb c rfl) (rI (Zb c rfl) (e h3 p))))))
def Node.past(n:Node)(at_:Int):Int:=if ZO n.last at_=0 then Win.most .dbl ⟨n.last,n.d⟩ at_ else 0
def Node.most(n:Node)(at_:Int):Int:=if ZO n.last at_=0 then Win.most .sec ⟨n.last,n.s⟩ at_ else 0
theorem ZyD{h:Zf}{c a e b mb:Nat}{n:Node}(d:ZhC h c a e b mb n){at_:Int}{K:Int->Int->Zf->Prop}(f:∀h',Ext h h'->K (n.past at_) (ZO n.last at_) h'):ZaK (some ⟨c,0,none⟩) at_ K h:=by unfold ZaK ZdU;exact Za (Za (Zt (Zg (rP (Zb d.cells rfl) (Zr6 d.wd λh' g=>Za (Za (f h' g)))))))
theorem Zv2{h:Zf}{c a e b mb:Nat}{n:Node}(d:ZhC h c a e b mb n){at_:Int}{K:Int->Int->Zf->Prop}(f:∀h',Ext h h'->K (n.most at_) (ZO n.last at_) h'):ZaL (some ⟨c,0,none⟩) at_ K h:=by unfold ZaL ZdV;exact Za (Za (Zt (Zg (rP (Zb d.cells rfl) (Zr6 d.ws λh' g=>Za (Za (f h' g)))))))
theorem ZkS{h:Zf}{c a d b mb:Nat}{n:Node}(e:ZhC h c a d b mb n){K:Int->Zf->Prop}(f:K n.fl h):Yv (some ⟨c,0,none⟩) K h:=by unfold Yv ZcA;exact Za (Zt (Zg (rI (Zb e.cells rfl) (Za f))))
theorem ZjS{K:Int->Zf->Prop}{h:Zf}(a:K 0 h):Yv none K h:=by unfold Yv ZcA;exact Za (Yz (Za a))
theorem Zv3{h:Zf}{j a o b mb:Nat}{n:Node}(e:ZhC h j a o b mb n){K:Option Addr->Zf->Prop}(p:∀h',ZhC h' (sz h+4) (sz h) (sz h+1) (sz h+2) (sz h+3) n->Ext h h'->sz h'=sz h+5->K (some ⟨sz h+4,0,none⟩) h'):ZaN (some ⟨j,0,none⟩) K h:=by unfold ZaN ZdW;refine Zt (Zg (Zg (Zg (rP (Zb e.cells rfl) (rP (Zb e.cells rfl) (rI (Zb e.cells rfl) ?_))))));refine ZpB e.ws λh1 w1 k l=>?_;have c:=e.ext k;refine⟨ZR (Zb c.cells rfl),ZR (Zb c.cells rfl),ZpB c.wd λq m i r=>?_⟩;have g:=c.ext i;refine⟨ZR (Zb g.cells rfl),ZH λh3 s f z3=>⟨ZR (Zb (g.ext f).cells rfl),?_⟩⟩;simp only[YJ]at z3⊢;have d:obj h3 (sz q)=_:=s;rw[l]at m d;rw[r,l]at d⊢;exact p h3 ⟨d,(w1.congr (ZB i (by omega)) (ZB i (by omega))).congr (ZB f (by omega)) (ZB f (by omega)),m.congr (ZB f (by omega)) (ZB f (by omega)),e.fl⟩ ((k.trans i).trans f) (by omega)
theorem Ztt{h:Zf}{K:Option Addr->Zf->Prop}(a:K none h):ZaN none K h:=by unfold ZaN ZdW;exact Yz a
def Node.add(n:Node)(at_:Int)(x:C6):Node:=⟨at_,(Win.add .sec ⟨n.last,n.s⟩ at_ x).p,(Win.add .dbl ⟨n.last,n.d⟩ at_ x).p,n.fl⟩
theorem Znh{h:Zf}{q:Nat}{n:Node}(c:Zfx h q n){at_:Int}(he:ZO n.last at_=0){x:C6}(l:Rt x){s:Sl}(hs:Row h s 6 (c6L x))(a:∀b,s.blk=some b->b<q\/q+5<=b){K:Zf->Prop}
    (u:∀h',Zfx h' q (n.add at_ x)->Upd (λj=>q<=j/\j<q+5) h h'->K h'):ZaJ (some ⟨q+4,0,none⟩) at_ s K h:=by
  unfold ZaJ Zgb;refine Zg (rP (Zb c.cells rfl) ?_);refine Zls c.ws l hs (λb d=>by have:=a b d;omega) λh1 w1 f=>?_;have lt:=c.lt;rw[if_pos he]at w1;have g:∀j,j<sz h->j≠q+1->j≠q->obj h1 j=obj h j:=λj e v w=>f.old j e (by omega);have m:obj h1 (q+4)=_:=(g _ (by omega) (by omega) (by omega)).trans c.cells;refine Zg (rP (Zb m rfl) ?_);have i:Row h1 s 6 (c6L x):=hs.congr λb o d _ hl=>f.old b hl (by have:=a b (by simp[Sl.blk,d]);omega);have y:=f.size;refine Zls (c.wd.congr (g _ (by omega) (by omega) (by omega)) (g _ (by omega) (by omega) (by omega))) l i (λb d=>by have:=a b d;omega) λp r t=>?_;rw[if_pos he]at r;have zz:sz h<=sz h1:=y;have k:∀j,j<sz h->j≠q+3->j≠q+2->obj p j=obj h1 j:=λj e v w=>t.old j (Aqq e zz) (by omega);refine u p ⟨(k _ (by omega) (by omega) (by omega)).trans m,w1.congr (k _ (by omega) (by omega) (by omega)) (k _ (by omega) (by omega) (by omega)),r,c.fl⟩ ?_;exact(f.mono λj _ e=>by omega).trans (t.mono λj _ e=>by omega)
def X0(last at_ c:Int):Int:=if at_<0\/1152921504606846976<at_ then 2 else if c<1\/1099511627776<c then 2 else if at_<last then 7 else 0
theorem Zt5{last at_ c:Int}(h:X0 last at_ c=0):ZO last at_=0/\1<=c/\c<=1099511627776:=by
  unfold X0 at h;unfold ZO;split at h
  ·cases h
  ·split at h
   ·cases h
   ·split at h
    ·cases h
    ·rw[if_neg (by omega),if_neg (by omega),if_neg (by omega)];omega
theorem ZlF{at_:Int}{K:Bool->Zf->Prop}{h:Zf}(a:K (inB at_ 0 1152921504606846976) h):Zet at_ K h:=by unfold Zet ZiC;unfold inB at a;exact⟨λe=>by rw[e]at a;exact Zd a,λe=>by rw[e]at a;exact a⟩
theorem Zo7{h:Zf}{k a m b mb:Nat}{n:Node}(l:ZhC h k a m b mb n){at_ c:Int}{s:Sl}(hs:Row h s 1 [iv c]){K:Int->Zf->Prop}(d:K (X0 n.last at_ c) h):Xu (some ⟨k,0,none⟩) at_ s K h:=by
  unfold Xu ZdT;refine Za (Zt (ZlF ?_));have hl:s.len=1:=by have:=hs.len;simp at this;omega
  by_cases f:at_<0\/1152921504606846976<at_
  ·have:inB at_ 0 1152921504606846976=false:=by unfold inB;simp;omega
   rw[this];unfold X0 at d;rw[if_pos f]at d;exact Yz (Za d)
  have:inB at_ 0 1152921504606846976=true:=by unfold inB;simp;omega
  rw[this];refine Zt (ZaE (λt h'=>∃i:Nat,t=((i:Int),())/\h'=h/\(i=0\/(i=1/\¬(c<1\/1099511627776<c)))) (λt _=>(1-t.1).toNat) ⟨0,rfl,rfl,.inl rfl⟩ ?_);rintro _ h' ⟨i,rfl,p,hi⟩ Q r;dsimp only;subst p;refine Zo (λq=>?_) λq=>?_
  ·have g:i=0:=by omega
   subst g;refine hs.idx (n:=0) (v:=iv c) rfl rfl λb o _ u=>⟨c,u,Za ?_⟩;unfold X0 at d;rw[if_neg f]at d;refine Zo (λw=>Za ?_) λw=>Zo (λe=>Za ?_) λe=>r _ _ ⟨1,rfl,rfl,.inr ⟨rfl,by omega⟩⟩ ?_
   ·rw[if_pos (by omega)]at d;exact d
   ·rw[if_pos (by omega)]at d;exact d
   ·show(1-(IntKind.wrap .i64 (((0:Nat):Int)+1))).toNat<(1-((0:Nat):Int)).toNat;decide
  ·have j:¬(c<1\/1099511627776<c):=by omega
   refine Zg (rP (Zb l.cells rfl) ?_);unfold Za6 Zbc;refine Za (Zt (Zg (rI (Zb l.ws.cells rfl) (Za ?_))));unfold X0 at d;rw[if_neg f,if_neg j]at d;refine Zo (λe=>Za ?_) λe=>Za ?_
   ·rw[if_pos e]at d;exact d
   ·rw[if_neg e]at d;exact d
abbrev inN(q:Nat):Nat->Prop:=λj=>q<=j/\j<q+5
def Zmx(c:Int):C6:=(c,0,0,0,0,0,())
def Zkk(c:Int):C6:=(0,c,0,0,0,0,())
theorem Rt.pass{c:Int}(h:1<=c/\c<=1099511627776):Rt (Zmx c):=⟨by simp only[Zmx];omega,by simp[Zmx],by simp[Zmx],by simp[Zmx],by simp[Zmx],by simp[Zmx],.inr rfl⟩
theorem Rt.block{c:Int}(h:1<=c/\c<=1099511627776):Rt (Zkk c):=⟨by simp[Zkk],by simp only[Zkk];omega,by simp[Zkk],by simp[Zkk],by simp[Zkk],by simp[Zkk],.inr rfl⟩
def Zxg(n:Node)(at_ c:Int):Int:=if X0 n.last at_ c=0 then(if 4096<=n.fl then 3 else 0)else X0 n.last at_ c
def Node.passed(n:Node)(at_ c:Int):Node:=if Zxg n at_ c=0 then⟨at_,(n.add at_ (Zmx c)).s,(n.add at_ (Zmx c)).d,n.fl+1⟩else n
def Node.blocked(n:Node)(at_ c:Int):Node:=if X0 n.last at_ c=0 then n.add at_ (Zkk c)else n
theorem ZF6{h h1 a:Zf}{q:Nat}(e:Ext h h1)(u:Upd (inN q) h1 a):Upd (inN q) h a:=(e.upd _).trans u
theorem ZOo{h h1:Zf}{s:Sl}{c:Int}(hs:Row h s 1 [iv c])(e:Ext h h1){K:Nat->Nat->Prop}{i:Int}(hi:i=((0:Nat):Int)){L:Nat}(a:s.len=L)(d:∀b o,h1.cell b o=some (iv c)->K b o):YI s.ptr L i 1 K:=
  a▸(hs.ext e).idx (n:=0) (v:=iv c) hi rfl λb o _ f=>d b (o+0) f
theorem Zv1{h:Zf}{q:Nat}{n:Node}(d:Zfx h q n){at_ c:Int}{s:Sl}(hs:Row h s 1 [iv c]){K:Int->Zf->Prop}
    (a:∀h',Zfx h' q (n.passed at_ c)->Upd (inN q) h h'->K (Zxg n at_ c) h'):ZdO (some ⟨q+4,0,none⟩) at_ s K h:=by
  unfold ZdO Zgc;have hl:s.len=1:=by have:=hs.len;simp at this;omega
  refine Za (Zo7 d hs (Za ?_));unfold Node.passed at a;unfold Zxg at a
  by_cases he:X0 n.last at_ c=0
  case neg=>
    rw[if_neg he,if_neg he]at a;exact Zn (by simpa using he) (Za (a h d (Upd.refl _ _)))
  rw[if_pos he]at a;rw[he];have M:=d.fl;refine Zt (Zg (rI (Zb d.cells rfl) ?_));rw[Yj (n:=4096-n.fl) (by omega) (by omega),hl];refine Zo (λp=>Za ?_) λp=>?_
  ·have r:4096<=n.fl:=by have:((1:Nat):Int)>4096-n.fl:=p;omega
   rw[if_pos r,if_neg (by decide)]at a;exact a h d (Upd.refl _ _)
  have r:¬ 4096<=n.fl:=λN=>p (by show((1:Nat):Int)>_;omega);rw[if_neg r,if_pos rfl]at a;obtain⟨hw,E⟩:=Zt5 he;refine ZaE (λt h'=>Ext h h'/\((t=(⟨none,0,0⟩,0,())/\h'=h)\/(t.2.1=1/\Own h' (sz h) t.1 6 (c6L (Zmx c))))) (λt _=>(1-t.2.1).toNat) ⟨Ext.refl _,.inl ⟨rfl,rfl⟩⟩ ?_;rintro⟨l,i,u⟩ h' ⟨A,⟨g,F⟩ |⟨g,ho⟩⟩ Q G
  ·injection g with v e;injection e with e H;subst v;subst e;subst F;dsimp only;refine Yz (ZOo hs (Ext.refl _) rfl hl λb o w=>⟨c,w,Za (ZH λh1 c1 B O=>(Zje c1 rfl).rd ?_)⟩);refine(Own.nil h1 (sz h') 6).app (n:=1) rfl (by simp[Zdl]) rfl (by decide) (by decide) B.size λP C I _ x _=>G _ _ ⟨B.then x λk a=>(by simp[Sl.blk]at a),.inr ⟨rfl,I⟩⟩ (show(1-IntKind.wrap .i64 (0+1)).toNat<(1-(0:Int)).toNat by decide)
  ·dsimp only at g ho⊢;subst g;refine Zt ?_;have y:=d.ext A;have lt:=d.lt;refine Znh y hw (Rt.pass E) ho.row (λb w=>by have:=(ho.lt w).1;omega) λC f x=>?_;refine Zg (rI (Zb f.cells rfl) (Zg (Zbs f.cells (show 0+2<3 by decide) rfl λh3 J D z3=>Za (a h3 ?_ ?_))))
   ·have R:=f;have m:∀j,j≠q+4->j<q+5->obj h3 j=obj C j:=λj z L=>D.old j (Aqq (show j<q+5 by omega) (by have:=f.lt;simp only[YJ];omega)) z;refine⟨?_,f.ws.congr (m _ (by omega) (by omega)) (m _ (by omega) (by omega)),f.wd.congr (m _ (by omega) (by omega)) (m _ (by omega) (by omega)),by show 0<=n.fl+1/\n.fl+1<=4096;omega⟩;rw[J];show some (Obj.cells [_,_,iv (IntKind.wrap .i64 (n.fl+((1:Nat):Int)))].toArray _ _)=_;rw[Yj (n:=n.fl+((1:Nat):Int)) (by omega) (by omega)];rfl
   ·exact(ZF6 A x).trans (D.mono λj _ z=>by subst z;exact⟨by omega,by omega⟩)
theorem Ztu{h:Zf}{q:Nat}{n:Node}(e:Zfx h q n){at_ c:Int}{s:Sl}(hs:Row h s 1 [iv c]){K:Int->Zf->Prop}
    (a:∀h',Zfx h' q (n.blocked at_ c)->Upd (inN q) h h'->K (X0 n.last at_ c) h'):Zc5 (some ⟨q+4,0,none⟩) at_ s K h:=by
  unfold Zc5 Zfm;have hl:s.len=1:=by have:=hs.len;simp at this;omega
  refine Za (Zo7 e hs (Za ?_));unfold Node.blocked at a
  by_cases he:X0 n.last at_ c=0
  case neg=>
    rw[if_neg he]at a;exact Zn (by simpa using he) (Za (a h e (Upd.refl _ _)))
  rw[if_pos he]at a;rw[he]at a⊢;refine Zt ?_;rw[hl];obtain⟨hw,x⟩:=Zt5 he;refine ZaE (λt h'=>Ext h h'/\((t=(⟨none,0,0⟩,0,())/\h'=h)\/(t.2.1=1/\Own h' (sz h) t.1 6 (c6L (Zkk c))))) (λt _=>(1-t.2.1).toNat) ⟨Ext.refl _,.inl ⟨rfl,rfl⟩⟩ ?_;rintro⟨l,i,u⟩ h' ⟨r,⟨f,y⟩ |⟨f,ho⟩⟩ Q z
  ·injection f with g d;injection d with d A;subst g;subst d;subst y;dsimp only;refine Yz (ZOo hs (Ext.refl _) rfl hl λb o j=>⟨c,j,Za (ZH λh1 c1 v D=>(Zje c1 rfl).rd ?_)⟩);refine(Own.nil h1 (sz h') 6).app (n:=1) rfl (by simp[Zdl]) rfl (by decide) (by decide) v.size λE w B _ m _=>z _ _ ⟨v.then m λk a=>(by simp[Sl.blk]at a),.inr ⟨rfl,B⟩⟩ (show(1-IntKind.wrap .i64 (0+1)).toNat<(1-(0:Int)).toNat by decide)
  ·dsimp only at f ho⊢;subst f;refine Zt ?_;have p:=e.ext r;have lt:=e.lt;exact Znh p hw (Rt.block x) ho.row (λb j=>by have:=(ho.lt j).1;omega) λw C m=>Za (a w C (ZF6 r m))
def ZjO(rt:Int)(failed:Bool):C6:=(0,0,1,(if failed then 1 else 0),rt,rt,())
theorem Rt.done{rt:Int}{f:Bool}(h:0<=rt/\rt<=1152921504606846976):Rt (ZjO rt f):=by refine⟨by simp[ZjO],by simp[ZjO],by simp[ZjO],?_,by simp only[ZjO];omega,by simp only[ZjO];omega,.inl (by simp[ZjO])⟩;simp only[ZjO];cases f<;>decide
def doneE(n:Node)(at_ rt:Int):Int:=
  if ZO n.last at_=2 then 2 else if ¬(0<=rt/\rt<=1152921504606846976)then 2 else if ZO n.last at_≠0 then ZO n.last at_ else if n.fl=0 then 4 else 0
def Node.done(n:Node)(at_ rt:Int)(f:Bool):Node:=if doneE n at_ rt=0 then⟨at_,(n.add at_ (ZjO rt f)).s,(n.add at_ (ZjO rt f)).d,n.fl- 1⟩else n
theorem Zvu{h:Zf}{f a i b mb:Nat}{n:Node}(g:ZhC h f a i b mb n){at_:Int}{K:Int->Zf->Prop}(c:K (ZO n.last at_) h):Xu (some ⟨f,0,none⟩) at_ ⟨none,0,0⟩ K h:=by
  unfold Xu ZdT;refine Za (Zt (ZlF ?_));unfold ZO at c
  by_cases d:at_<0\/1152921504606846976<at_
  ·have:inB at_ 0 1152921504606846976=false:=by unfold inB;simp;omega
   rw[this];refine Yz (Za ?_)
   rcases d with d|d
   ·rw[if_pos d]at c;exact c
   ·rw[if_neg (by omega),if_pos d]at c;exact c
  have:inB at_ 0 1152921504606846976=true:=by unfold inB;simp;omega
  rw[this];refine Zt (ZaE (λt h'=>t=(0,())/\h'=h) (λt _=>0) ⟨rfl,rfl⟩ ?_);rintro _ h' ⟨rfl,j⟩ Q k;dsimp only;subst j;refine Zt ?_;refine Zg (rP (Zb g.cells rfl) ?_);unfold Za6 Zbc;refine Za (Zt (Zg (rI (Zb g.ws.cells rfl) (Za ?_))));rw[if_neg (by omega),if_neg (by omega)]at c;refine Zo (λe=>Za ?_) λe=>Za ?_
  ·rw[if_pos e]at c;exact c
  ·rw[if_neg e]at c;exact c
theorem Zv4{h:Zf}{q:Nat}{n:Node}(g:Zfx h q n){at_ rt:Int}{f:Bool}{K:Int->Zf->Prop}
    (a:∀h',Zfx h' q (n.done at_ rt f)->Upd (inN q) h h'->K (doneE n at_ rt) h'):ZdP (some ⟨q+4,0,none⟩) at_ rt f K h:=by
  unfold ZdP Zgd
  have no:∀e,e≠0->doneE n at_ rt=e->K e h:=λe h1 p=>by
    have:=a h (by unfold Node.done;rw[if_neg (by rw[p];exact h1)];exact g) (Upd.refl _ _);rwa[p]at this
  refine Za (Zvu g (Za (Zd (Zt ?_))));refine Z0 (λi=>Za ?_) λi=>ZlF ?_
  ·exact no 2 (by decide) (by unfold doneE;rw[if_pos i])
  by_cases m:0<=rt/\rt<=1152921504606846976
  case neg=>
    have:inB rt 0 1152921504606846976=false:=by unfold inB;simp;omega
    rw[this];exact Zd (Yz (Za (no 2 (by decide) (by unfold doneE;rw[if_neg i,if_pos m]))))
  have:inB rt 0 1152921504606846976=true:=by unfold inB;simp;omega
  rw[this];refine Zd (Zt (Zd (ZbG (λl=>Za ?_) λl=>?_)))
  ·exact no _ l (by unfold doneE;rw[if_neg i,if_neg (λc=>c m),if_pos l])
  refine Zg (rI (Zb g.cells rfl) (Zd (Z0 (λs=>Za ?_) λs=>?_)))
  ·exact no 4 (by decide) (by unfold doneE;rw[if_neg i,if_neg (λc=>c m),if_neg (λc=>c l),if_pos s])
  have ok:doneE n at_ rt=0:=by unfold doneE;rw[if_neg i,if_neg (λc=>c m),if_neg (λc=>c l),if_neg s]
  rw[ok]at a;unfold Node.done at a;rw[if_pos ok]at a;have M:=g.fl;have lt:=g.lt;refine ZH λh1 c1 C N=>Zaw c1 λp v D O=>?_;have w:Ext h p:=C.then D λk a=>by subst a;exact Aqo _
  refine ZkM (λ_ h'=>Ext h h'/\obj h' (sz h)=some (.cells (c6L (ZjO rt f)).toArray 52 (0,0))) ?_ ?_
  ·rintro _ h3 ⟨x,d⟩
   refine rI (Zb d rfl) (rI (Zb d rfl) (rI (Zb d rfl) (rI (Zb d rfl) (rI (Zb d rfl) (rI (Zb d rfl) (ZH λP E F z4=>?_))))));have o:=x.trans F;have t:q+5<=sz h3:=by have:=(g.ext x).lt;omega
   refine Znh (g.ext o) l (Rt.done m) (Zje E rfl) (λb y=>by simp[Sl.blk]at y;subst y;exact .inr t) λG n5 H=>?_;refine Zg (rI (Zb n5.cells rfl) (Zg (Zbs n5.cells (show 0+2<3 by decide) rfl λz I A z6=>Za (a z ?_ ?_))))
   ·have r:∀j,j≠q+4->j<q+5->obj z j=obj G j:=λj u J=>A.old j (Aqq (show j<q+5 by omega) (by have:=n5.lt;simp only[YJ];omega)) u;refine⟨?_,n5.ws.congr (r _ (by omega) (by omega)) (r _ (by omega) (by omega)),n5.wd.congr (r _ (by omega) (by omega)) (r _ (by omega) (by omega)),by show 0<=n.fl- 1/\n.fl- 1<=4096;omega⟩;rw[I];show some (Obj.cells [_,_,iv (IntKind.wrap .i64 (n.fl- 1))].toArray _ _)=_;rw[Yj (n:=n.fl- 1) (by omega) (by omega)]
   ·exact(ZF6 o H).trans (A.mono λj _ u=>by subst u;exact⟨by omega,by omega⟩)
  ·intro Q B;cases f
   ·exact Zt (B _ _ ⟨w,v⟩)
   ·refine Yz (Zbs v (show 0+3<6 by decide) rfl λh3 d L z3=>B _ _ ⟨w.then L λk a=>by subst a;exact Aqo _,d⟩)
theorem Zra{a b:ByteArray}:Yr a b=true↔a=b:=by
  unfold Yr;rw[ByteArray.toList_eq,ByteArray.toList_eq,beq_iff_eq];constructor
  ·intro h;cases a;cases b;congr;exact Array.toList_inj.1 h
  ·rintro rfl;rfl
theorem Zjl(a b:ByteArray):Yr a b=decide (a=b):=by
  by_cases h:a=b
  ·rw[decide_eq_true h];exact Zra.2 h
  ·rw [decide_eq_false h]
   cases q:Yr a b with
   |false=>rfl
   |true=>exact absurd (Zra.1 q) h
abbrev K4:=Int×ByteArray×ByteArray×ByteArray×Unit
def k4L(k:K4):List Value:=[.int .u8 k.1,.string k.2.1,.string k.2.2.1,.string k.2.2.2.1]
theorem ZbF(k:K4):(k4L k).length=4:=rfl
structure ZqR(h:Zf)(mb:Nat)(f:K4->Option Value)(n:Nat):Prop where
  is:∃es clk,obj h mb=some (.map es clk)/\es.size=n/\(∀x,x∈es.toList->∃k:K4,x.key= .agg (k4L k).toArray)/\∀k,(Zhf (k4L k) es.toList 0).map (·.2)=f k
theorem ZqR.lt{h:Zf}{mb n:Nat}{f:K4->Option Value}(a:ZqR h mb f n):mb<sz h:=by obtain⟨es,b,h1,_⟩:=a.is;exact Zp h1
theorem ZqR.congr{h h':Zf}{mb n:Nat}{f:K4->Option Value}(b:ZqR h mb f n)(he:obj h' mb=obj h mb):ZqR h' mb f n:=by obtain⟨es,a,h1,c⟩:=b.is;exact⟨es,a,he.trans h1,c⟩
theorem ZqR.new{h:Zf}{mb:Nat}{c:Nat}(a:obj h mb=some (.map #[] c)):ZqR h mb (λ_=>none) 0:=⟨#[],c,a,rfl,(λx b=>by cases b),λ_=>rfl⟩
theorem ZBH(k:K4):Zj9 [(.int .u8),.string,.string,.string] (.agg (k4L k).toArray):=⟨k4L k,rfl,rfl,trivial,trivial,trivial,trivial⟩
theorem ZrL(k:List Value)(e:MapEntry):∀(l:List MapEntry) (i:Nat),Zhf k (l++[e]) i=match Zhf k l i with
    |some x=>some x
    |none=>bif Zl9 k e.key then some (i+l.length,e.val)else none
  |[],i=>by simp only[Ayh,Zhf,Ayb,Axi]
  | x::l,i=>by
    simp only[List.cons_append,Zhf,Aqj]
    cases Zl9 k x.key with
    |true=>rfl
    | false=>
      simp only[cond_false];rw[ZrL k e l (i+1),show i+1+l.length=i+(l.length+1)from by omega]
theorem Zur(k j:K4):Zl9 (k4L k) (.agg (k4L j).toArray)=decide (k=j):=by
  show ZeK (k4L k) (k4L j)=_;obtain⟨a,b,c,d,_⟩:=k;obtain⟨e,f,g,h,_⟩:=j;simp only[ZeK,Zja,k4L,Zjl,Prod.mk.injEq,and_true]
  by_cases h1:a=e<;>by_cases i:b=f<;>by_cases h3:c=g<;>by_cases l:d=h<;>simp[h1,i,h3,l]
theorem ZqR.get{h:Zf}{mb n:Nat}{f:K4->Option Value}(c:ZqR h mb f n)(k:K4){K:Option Value->Prop}(d:K (f k)):Za1 [(.int .u8),.string,.string,.string] h (some mb) (k4L k) K:=by obtain⟨es,a,h1,h0,g,h3⟩:=c.is;refine⟨λe=>(by cases e),λb i=>?_⟩;cases i;refine⟨es,a,h1,λx j=>?_,by rw[h3];exact d⟩;obtain⟨l,e⟩:=g x j;rw[e];exact ZBH l
theorem ZqR.len{h:Zf}{mb n:Nat}{f:K4->Option Value}(c:ZqR h mb f n){K:Int->Prop}(d:K (n:Int)):ZGE h (some mb) K:=by obtain⟨es,a,h1,h0,i,h3⟩:=c.is;refine⟨λe=>(by cases e),λb g=>?_⟩;cases g;exact⟨es,a,h1,by rw[h0];exact d⟩
theorem setMap{h:Zf}{b:Nat}{x y:Obj}(a:obj h b=some x):obj (h.setIfInBounds b y) b=some y/\Upd (· = b) h (h.setIfInBounds b y)/\sz (h.setIfInBounds b y)=sz h:=
  ⟨Zjm (Zp a),ZgS,Array.size_setIfInBounds⟩
theorem ZqR.put{h:Zf}{mb n:Nat}{f:K4->Option Value}(l:ZqR h mb f n){k:K4}(m:f k=none)(v:Value){K:Zf->Prop}
    (o:∀h',ZqR h' mb (λj=>if j=k then some v else f j) (n+1)->Upd (· = mb) h h'->sz h'=sz h->K h'):ZhH [(.int .u8),.string,.string,.string] h (some mb) (k4L k) v K:=by
  obtain⟨es,c,h1,d,i,h3⟩:=l.is;refine⟨mb,es,c,rfl,h1,λx b=>?_,?_⟩
  ·obtain⟨p,e⟩:=i x b;rw[e];exact ZBH p
  have h0:Zhf (k4L k) es.toList 0=none:=by
    have:=h3 k;rw[m]at this;simpa using this
  rw[h0];obtain⟨q,r,s⟩:=setMap (y:=.map (es.push {key:=.agg (k4L k).toArray,val:=v,born:=c}) (c+1)) h1;refine o _ ⟨_,_,q,by simp[d],λx b=>?_,λa=>?_⟩ r s
  ·rw [Array.toList_push]at b
   rcases Axx.1 b with b|b
   ·exact i x b
   ·simp only[Awr,Ayi,or_false]at b;subst b;exact⟨k,rfl⟩
  ·rw [Array.toList_push,ZrL];have g:=h3 a
   by_cases e:a=k
   ·rw[if_pos e,e,h0];show(bif Zl9 (k4L k) (.agg (k4L k).toArray)then some (0+es.toList.length,v)else none).map (·.2)=_;rw[Zur,decide_eq_true rfl];rfl
   ·rw [if_neg e,<-g]
    cases Zhf (k4L a) es.toList 0 with
    |some x=>rfl
    | none=>
      show(bif Zl9 (k4L a) (.agg (k4L k).toArray)then some (0+es.toList.length,v)else none).map (·.2)=_;rw[Zur,decide_eq_false e];rfl
structure Tree where
  f:K4->Option Node
  keys:List K4
  last:Int
structure ZqN(h:Zf)(tb mb base:Nat)(ks:Sl)(A:K4->Option Nat)(t:Tree):Prop where
  cells:obj h tb=some (.cells [.map (some mb),slV ks,iv t.last].toArray 155 (0,0))
  map:∃n,ZqR h mb (λk=>(A k).map λq=>.pointer (some ⟨q+4,0,none⟩)) n
  row:Own h base ks 4 (t.keys.flatMap k4L)
  len:t.keys.length<=512
  node:∀k,(A k=none/\t.f k=none)\/∃q n,A k=some q/\t.f k=some n/\Zfx h q n
  disj:∀k k' q q',A k=some q->A k'=some q'->k≠k'->q+5<=q'\/q'+5<=q
  mt:mb≠tb
  kb:∀b,ks.blk=some b->b≠tb/\b≠mb
  out:∀k q,A k=some q->(∀j,inN q j->j≠tb/\j≠mb/\ks.blk≠some j)
def ZOm(tb mb:Nat)(ks:Sl)(A:K4->Option Nat)(j:Nat):Prop:=j=tb\/j=mb\/ks.blk=some j\/∃k q,A k=some q/\inN q j
def Zak(h:Zf)(tb:Nat)(O:Nat->Prop)(t:Tree):Prop:=∃mb base ks A,ZqN h tb mb base ks A t/\∀j,ZOm tb mb ks A j->O j
theorem ZqN.congr{h h':Zf}{tb mb base:Nat}{ks:Sl}{A:K4->Option Nat}{t:Tree}(a:ZqN h tb mb base ks A t)(he:∀j,ZOm tb mb ks A j->j<sz h->obj h' j=obj h j):ZqN h' tb mb base ks A t:=by
  obtain⟨n,hm⟩:=a.map;refine⟨(he _ (.inl rfl) (Zp a.cells)).trans a.cells,⟨n,hm.congr (he _ (.inr (.inl rfl)) hm.lt)⟩,a.row.congr λb d hl _=>he b (.inr (.inr (.inl d))) hl,a.len,λk=>?_,a.disj,a.mt,a.kb,a.out⟩
  rcases a.node k with h1|⟨q,n,h1,e,h3⟩
  ·exact .inl h1
  ·exact .inr ⟨q,n,h1,e,h3.congr λj f c=>he j (.inr (.inr (.inr ⟨k,q,h1,f,c⟩))) (by have:=h3.lt;omega)⟩
theorem Zak.congr{h h':Zf}{tb:Nat}{O:Nat->Prop}{t:Tree}(a:Zak h tb O t)(he:∀j,O j->j<sz h->obj h' j=obj h j):Zak h' tb O t:=by obtain⟨mb,base,ks,A,hi,ho⟩:=a;exact⟨mb,base,ks,A,hi.congr λj b hl=>he j (ho j b) hl,ho⟩
theorem Zak.ext{h h':Zf}{tb:Nat}{O:Nat->Prop}{t:Tree}(a:Zak h tb O t)(e:Ext h h'):Zak h' tb O t:=a.congr λ_ _ b=>ZB e b
theorem Zak.mono{h:Zf}{tb:Nat}{O O':Nat->Prop}{t:Tree}(a:Zak h tb O t)(he:∀j,O j->O' j):Zak h tb O' t:=by obtain⟨mb,base,ks,A,hi,ho⟩:=a;exact⟨mb,base,ks,A,hi,λj b=>he j (ho j b)⟩
theorem ZvT{h:Zf}{K:Option Addr->Zf->Prop}(d:∀h',Zak h' (sz h+1) (λj=>j=sz h\/j=sz h+1) ⟨λ_=>none,[],0⟩->Ext h h'->sz h'=sz h+2->K (some ⟨sz h+1,0,none⟩) h'):Zj0 K h:=by
  unfold Zj0 Zl1 Zdf;have c0:obj (h.push (.map #[] 0)) (sz h)=some (.map #[] 0):=Zc2;refine ZH λh1 c1 c e=>?_;have z0:sz (h.push (.map #[] 0))=sz h+1:=Zbv;simp only[YJ,z0]at c1 e⊢;refine d h1 ⟨sz h,0,⟨none,0,0⟩,λ_=>none,⟨c1,⟨0,(ZqR.new c0).congr (ZB c (by omega))⟩,Own.nil _ _ _,by decide,λk=>.inl ⟨rfl,rfl⟩,(λ_ _ _ _ a=>by cases a),by omega,(λb f=>by cases f),λ_ _ a=>by cases a⟩,?_⟩ (XW (Ext.refl h)|>.trans c) (by omega);rintro j (h1|h1|h1|⟨_,_,h1,_⟩)
  ·exact .inr h1
  ·exact .inl h1
  ·cases h1
  ·cases h1
abbrev C8:=Int×ByteArray×ByteArray×ByteArray×Bool×Int×Sl×Unit
abbrev em:ByteArray:=ByteArray.mk #[]
def c8L(c:C8):List Value:=[iv c.1,.string c.2.1,.string c.2.2.1,.string c.2.2.2.1,.bool c.2.2.2.2.1,iv c.2.2.2.2.2.1,slV c.2.2.2.2.2.2.1]
def Zvx(c:C8):List K4:=if c.2.2.2.1=em then []else [(5,em,c.2.1,c.2.2.2.1,())]
def ZE6(c:C8):List K4:=if c.2.2.2.2.1=true then [(1,em,em,em,())]else []
def ZI(c:C8):List K4:=(3,c.2.2.1,c.2.1,em,())::(4,em,c.2.1,em,())::(Zvx c++(2,c.2.2.1,em,em,())::ZE6 c)
def ZlT(c:C8):Bool:=Zkw c.2.1&&Zkw c.2.2.1&&(decide (c.2.2.2.1=em)||Zkw c.2.2.2.1)
def ZgZ(c:C8):Int:=if ZlT c=true then 0 else 10
structure Zic(c:C8):Prop where
  a:c.2.1.size<9223372036854775808
  b:c.2.2.1.size<9223372036854775808
  c:c.2.2.2.1.size<9223372036854775808
theorem ZBG(l:List K4):(l.flatMap k4L).all Zr=true:=by
  rw[Axb];intro v hv;obtain⟨k,_,a⟩:=List.mem_flatMap.1 hv;simp only[k4L,Awr,Ayi,or_false]at a
  rcases a with rfl|rfl|rfl|rfl<;>rfl
theorem ZHU{h:Zf}{base:Nat}{s:Sl}{l m:List K4}(ho:Own h base s 4 (l.flatMap k4L)){n:Nat}(b:m.length=n)(g:l.length+n<=100000)(a:base<=sz h){K:Sl->Zf->Prop}
    (c:∀s' h',Own h' base s' 4 ((l++m).flatMap k4L)->s'.len=s.len+n->Upd (λk=>s.blk=some k) h h'->K s' h'):app 114 4 56 [.int .u8 0,.string (ByteArray.mk #[]),.string (ByteArray.mk #[]),.string (ByteArray.mk #[])] s n (m.flatMap k4L) h K:=by
  have hl:=ho.len;rw[YM ZbF]at hl;have hs:s.len=l.length:=(Ayd (by decide) hl).symm;refine ho.app (n:=n) (by rw[YM ZbF,b]) (ZBG m) rfl (by omega) (by omega) a λs' h' d e f _=>c s' h' (by rw[Ayj];exact d) e f
theorem Zlr{h:Zf}{c:C8}(hz:Zic c){K:Sl->Int->Zf->Prop}(d:∀s h',Ext h h'->Own h' (sz h) s 4 ((if ZgZ c=0 then ZI c else []).flatMap k4L)->K s (ZgZ c) h'):Zby c K h:=by
  unfold Zby ZkE;refine ZH λh1 c1 t z1=>Za (ZkM (λ_ h'=>h'=h1/\ZgZ c=0) ?_ λQ v=>?_)
  ·rintro _ h' ⟨M,ok⟩;subst M;rw[ok,if_pos rfl]at d;refine rS (Zb c1 rfl) (rS (Zb c1 rfl) (rS (Zb c1 rfl) (ZH λN O w z2=>ZkM (λs h3=>Ext h' h3/\Own h3 (sz h') s.1 4 (((3,c.2.2.1,c.2.1,em,())::(4,em,c.2.1,em,())::Zvx c).flatMap k4L)) ?_ λQ v=>?_)))
   ·rintro ⟨l,u⟩ h3 ⟨o,p⟩
    dsimp only at p⊢;have z:=Zj c1 o;refine rS (Zb z rfl) (ZH λx P F z4=>(Zje P rfl).rd ?_);have y:Own x (sz h') l 4 _:=p.congr λb _ hl _=>F.old b hl;have g:∀{l:List K4} {n:Nat},l.length+n<=100->l.length+n<=100000:=λh=>by omega
    have R:(Zvx c).length<=1:=by unfold Zvx;split<;>simp
    have r:Ext h' x:=o.trans F;have G:sz h<=sz h':=t.size;refine ZHU y (m:=[(2,c.2.2.1,em,em,())]) rfl (by simp only[Aqj,Ayb];omega) r.size λs5 H I _ S=>?_;have f:Ext h' H:=r.then S λk d=>(y.lt d).1
    have T:=Zj c1 f;refine rB (Zb T rfl) ⟨λg=>?_,λg=>?_⟩
    ·refine ZH λU V A z6=>(Zje V rfl).rd ?_;have J:Own U (sz h') s5 4 _:=I.congr λb _ hl _=>A.old b hl;refine ZHU J (m:=[(1,em,em,em,())]) rfl (by simp only[Aqj,Awe,Ayb];omega) (f.trans A).size λs7 W X _ Y=>Za (d s7 W (t.trans ((f.trans A).then Y λk d=>(J.lt d).1)) ?_)
     have:ZI c=(3,c.2.2.1,c.2.1,em,())::(4,em,c.2.1,em,())::Zvx c++[(2,c.2.2.1,em,em,())]++[(1,em,em,em,())]:=by
       unfold ZI ZE6;rw[if_pos g];simp
     rw[this];exact X.base G
    ·refine Za (d s5 H (t.trans f) ?_)
     have:ZI c=(3,c.2.2.1,c.2.1,em,())::(4,em,c.2.1,em,())::Zvx c++[(2,c.2.2.1,em,em,())]:=by
       unfold ZI ZE6;rw[if_neg (by rw[g];decide)];simp
     rw[this];exact I.base G
   ·have i:=Zj c1 w
    have L:Own N (sz h') ⟨some ⟨h'.size,0,none⟩,2,2⟩ 4 (([(3,c.2.2.1,c.2.1,em,()),(4,em,c.2.1,em,())]:List K4).flatMap k4L):=
      ⟨rfl,Aqo _,(show 2<9223372036854775808 by decide),.inr ⟨h'.size,_,_,rfl,Aqo _,O,rfl,rfl⟩⟩
    refine rS (Zb i rfl) ?_;rw[Zjl];refine⟨λg=>?_,λg=>?_⟩
    ·have j:c.2.2.2.1≠em:=by simpa using g
     refine rS (Zb i rfl) (rS (Zb i rfl) (ZH λh3 z o z3=>(Zje z rfl).rd ?_));have p:Own h3 (sz h') _ 4 _:=L.congr λb _ hl _=>o.old b hl;refine ZHU p (m:=[(5,em,c.2.1,c.2.2.2.1,())]) rfl (by simp only[Aqj,Ayb];omega) (w.trans o).size λs4 x y _ Z=>v _ _ ⟨(w.trans o).then Z λk d=>(p.lt d).1,?_⟩
     ·show Own x (sz h') s4 4 _
      have:Zvx c=[(5,em,c.2.1,c.2.2.2.1,())]:=by unfold Zvx;rw[if_neg j]
      rw[this];exact y
    ·have he:c.2.2.2.1=em:=by simpa using g
     refine v _ _ ⟨w,?_⟩;have:Zvx c=[]:=by unfold Zvx;rw[if_pos he]
     rw[this];exact L
  ·have bad:ZlT c=false->K ⟨none,0,0⟩ 10 h1:=λe=>by
     have:=d ⟨none,0,0⟩ h1 t;unfold ZgZ at this;rw[e]at this;exact this (Own.nil _ _ _)
   refine rS (Zb c1 rfl) (ZkR hz.a ⟨λB=>Za (bad ?_),λB=>?_⟩)
   ·have:Zkw c.2.1=false:=by simpa using B
    unfold ZlT;rw[this];rfl
   have n1:Zkw c.2.1=true:=by simpa using B
   refine rS (Zb c1 rfl) (ZkR hz.b ⟨λC=>Za (bad ?_),λC=>?_⟩)
   ·have:Zkw c.2.2.1=false:=by simpa using C
    unfold ZlT;rw[this,Bool.and_false];rfl
   have n2:Zkw c.2.2.1=true:=by simpa using C
   refine rS (Zb c1 rfl) ?_;rw[Zjl];have fin:(decide (c.2.2.2.1=em)||Zkw c.2.2.2.1)=true->Q () h1:=λq=>v _ _ ⟨rfl,by unfold ZgZ ZlT;rw[n1,n2,q];rfl⟩;refine⟨λD=>?_,λD=>?_⟩
   ·have j:c.2.2.2.1≠em:=by simpa using D
    refine rS (Zb c1 rfl) (ZkR hz.c ⟨λE=>Za (bad ?_),λE=>fin ?_⟩)
    ·have:Zkw c.2.2.2.1=false:=by simpa using E
     unfold ZlT;rw[this,decide_eq_false j,Bool.or_false,Bool.and_false]
    ·have:Zkw c.2.2.2.1=true:=by simpa using E
     rw[this,Bool.or_true]
   ·have he:c.2.2.2.1=em:=by simpa using D
    exact fin (by rw[decide_eq_true he];rfl)
def Tree.isNew(t:Tree)(k:K4):Bool:=(t.f k).isNone
def Tree.freshN(t:Tree)(l:List K4):Nat:=(l.filter t.isNew).length
theorem ZqN.isNone{h:Zf}{tb mb base:Nat}{ks:Sl}{A:K4->Option Nat}{t:Tree}(c:ZqN h tb mb base ks A t)(k:K4):t.isNew k=(A k).isNone:=by
  unfold Tree.isNew
  rcases c.node k with⟨a,b⟩ |⟨q,n,a,b,_⟩<;>rw[a,b]<;>rfl
theorem Zpj{h:Zf}{tb:Nat}{O:Nat->Prop}{t:Tree}(S:Zak h tb O t){s:Sl}{l:List K4}(hs:Row h s 4 (l.flatMap k4L))(hd:l.Nodup)(hl:l.length<=100000){K:Int->Zf->Prop}(z:∀h',Ext h h'->K (t.freshN l:Int) h'):Xp (some ⟨tb,0,none⟩) s K h:=by
  obtain⟨mb,base,ks,A,hi,ho⟩:=S;unfold Xp ZeS Zdf;have hlen:=hs.len;rw[YM ZbF]at hlen;have T:s.len=l.length:=(Ayd (by decide) hlen).symm;have c0:obj (h.push (.map #[] 0)) (sz h)=some (.map #[] 0):=Zc2;have U:Ext h (h.push (.map #[] 0)):=XW (Ext.refl h)
  refine Za (ZaE (λp B=>∃i:Nat,p=((i:Int),())/\i<=l.length/\Ext h B/\∃g,ZqR B (sz h) g (t.freshN (l.take i))/\∀k,k∉l.take i->g k=none) (λp _=>l.length- p.1.toNat)
    ⟨0,rfl,Aye _,U,_,(ZqR.new c0).congr rfl,λ_ _=>rfl⟩ ?_)
  rintro _ B ⟨i,rfl,V,he,g,hm,u⟩ Q P;dsimp only;refine Zo (λq=>?_) λq=>?_
  ·have f:i<l.length:=by omega
   have H:l[i]?=some l[i]:=Axy f;generalize l[i]=k at H;obtain⟨b,o,hb,W,C,I⟩:=Za5 ZbF (hs.ext he) H (by decide);have v0:=I 0 _ rfl;have v1:=I 1 _ rfl;have v2:=I 2 _ rfl;have v3:=I 3 _ rfl;have D:IntKind.wrap .i64 ((i:Int)+1)=((i+1:Nat):Int):=wrS f (by omega);have m:l.take (i+1)=l.take i++[k]:=by rw[Ayk,H];rfl
   have J:k∉l.take i:=λc=>by
     have E:=hd;rw[<-Ayl i l,List.nodup_append]at E;refine E.2.2 k c k ?_ rfl;refine Axo (i:=0) ?_;rw[Aqg,Axi];exact H
   refine C rfl (rI v0 (rS v1 (rS v2 (rS v3 (ZH λh1 c1 X z1=>Zaw c1 λy r Y z2=>Zg ?_)))));have R:Ext B y:=X.then Y λk z=>by subst z;exact Aqo _
   have v:=he.trans R;have F:ZqN y tb mb base ks A t:=hi.congr λj _ w=>ZB v w;obtain⟨n,L⟩:=F.map;have G:=hm.congr (ZB R hm.lt);refine rM (Zb F.cells rfl) (rI (Zb r rfl) (rS (Zb r rfl) (rS (Zb r rfl) (rS (Zb r rfl) (L.get k ?_)))));have d:=hi.isNone k
   rcases hi.node k with⟨a,Z⟩ |⟨q9,n9,a,Z,_⟩
   ·rw [a]at d⊢;refine⟨none,rfl,Yz (rI (Zb r rfl) (rS (Zb r rfl) (rS (Zb r rfl) (rS (Zb r rfl) (G.put (k:=k) ?_ _ λh3 M u3 z3=>?_)))))⟩
    ·exact u k J
    ·rw [D]
     refine P _ _ ⟨i+1,rfl,f,v.then u3 λk z=>by subst z;exact Aqo _,?_⟩ (by show l.length- ((i+1:Nat):Int).toNat<l.length- ((i:Nat):Int).toNat;omega);have h1:(l.take (i+1)).filter t.isNew=(l.take i).filter t.isNew++[k]:=by rw[m,List.filter_append];congr 1;simp[d]
     have y:t.freshN (l.take (i+1))=t.freshN (l.take i)+1:=by unfold Tree.freshN;rw[h1];simp
     refine⟨_,by rw[y];exact M,λj w=>?_⟩;rw[m]at w;have N:j≠k:=λe=>w (by rw[e];simp);exact(if_neg N).trans (u j λc=>w (Axx.2 (.inl c)))
   ·rw [a]at d⊢
    refine⟨_,rfl,Zt ?_⟩;rw[D];have h1:(l.take (i+1)).filter t.isNew=(l.take i).filter t.isNew:=by rw[m,List.filter_append];simp[d]
    have y:t.freshN (l.take (i+1))=t.freshN (l.take i):=by unfold Tree.freshN;rw[h1]
    refine P _ _ ⟨i+1,rfl,f,v,g,by rw[y];exact G,λj w=>u j λc=>w (by rw[m];exact Axx.2 (.inl c))⟩ (by show l.length- ((i+1:Nat):Int).toNat<l.length- ((i:Nat):Int).toNat;omega)
  ·have x:l.take i=l:=Awd (by omega);rw[x]at hm;exact hm.len (Za (z B he))
theorem ZNU{h:Zf}{base:Nat}{s:Sl}{l m:List K4}(ho:Own h base s 4 (l.flatMap k4L)){n:Nat}(b:m.length=n)(g:l.length+n<=100000)(a:base<=sz h){K:Sl->Zf->Prop}
    (c:∀s' h',Own h' base s' 4 ((l++m).flatMap k4L)->Upd (λk=>s.blk=some k) h h'->(s'.blk=s.blk\/s'.blk=some (sz h))->K s' h'):app 114 4 56 [.int .u8 0,.string (ByteArray.mk #[]),.string (ByteArray.mk #[]),.string (ByteArray.mk #[])] s n (m.flatMap k4L) h K:=by
  have hl:=ho.len;rw[YM ZbF]at hl;have hs:s.len=l.length:=(Ayd (by decide) hl).symm;refine ho.app (n:=n) (by rw[YM ZbF,b]) (ZBG m) rfl (by omega) (by omega) a λs' h' d i e f=>c s' h' (by rw[Ayj];exact d) e f
def Tree.make(t:Tree)(k:K4):Tree:=match t.f k with
  |some _=>t
  |none=>⟨λj=>if j=k then some Node.zero else t.f j,t.keys++[k],t.last⟩
theorem Zo5{h:Zf}{tb:Nat}{O:Nat->Prop}{t:Tree}(ht:Zak h tb O t){k:K4}(hl:t.isNew k=true->t.keys.length<512){K:Zf->Prop}
    (hk:∀h' O',Zak h' tb O' (t.make k)->Upd O h h'->(∀j,O' j->O j\/(sz h<=j/\j<sz h'))->(∀j,O j->O' j)->K h'):Xo (some ⟨tb,0,none⟩) k K h:=by
  obtain⟨mb,base,ks,A,hi,ho⟩:=ht;unfold Xo ZeR;refine ZH λh1 c1 g z1=>Zg ?_;have u:ZqN h1 tb mb base ks A t:=hi.congr λj _ d=>ZB g d;obtain⟨n,C⟩:=u.map;refine rM (Zb u.cells rfl) (rI (Zb c1 rfl) (rS (Zb c1 rfl) (rS (Zb c1 rfl) (rS (Zb c1 rfl) (C.get k ?_)))));have y:=hi.isNone k
  rcases hi.node k with⟨a,D⟩ |⟨q9,n9,a,D,_⟩
  case inr=>
    rw[a];refine⟨_,rfl,Zt (hk h1 O ?_ (g.upd _) (λj d=>.inl d) λj d=>d)⟩;have:t.make k=t:=by unfold Tree.make;rw[D]
    rw[this];exact⟨mb,base,ks,A,u,ho⟩
  rw[a]at y⊢;have ao:=hl y;refine⟨none,rfl,Yz (Zg (rM (Zb u.cells rfl) (rI (Zb c1 rfl) (rS (Zb c1 rfl) (rS (Zb c1 rfl) (rS (Zb c1 rfl) (ZvY λz n2 x z2=>?_)))))))⟩;have F:=Zj c1 x;have G:ZqN z tb mb base ks A t:=u.congr λj _ d=>ZB x d;refine⟨⟨Zb F rfl,Zb F rfl,Zb F rfl,Zb F rfl,trivial⟩,ZR (Zb G.cells rfl),?_⟩;refine(C.congr (ZB x C.lt)).put (k:=k) (by rw[a];rfl) _ λh3 V N z3=>?_;have au:tb<sz h:=Zp hi.cells;have av:mb<sz h:=by obtain⟨n9,W⟩:=hi.map;exact W.lt
  have v:∀b,ks.blk=some b->b<sz h:=λb o=>(hi.row.lt o).2;have s1:sz h<=sz h1:=g.size;have s2:sz z=sz h1+5:=z2;have s3:sz h3=sz z:=z3;have t3:obj h3 tb=_:=(N.old tb (show tb<sz z by omega) (λe=>hi.mt e.symm)).trans G.cells;have P:obj h3 (sz h)=_:=(N.old (sz h) (show sz h<sz z by have:h1.size=h.size+1:=z1;simp only[YJ]at this;omega) (by omega)).trans F;refine Zg (rL (Zb t3 rfl) (rI (Zb P rfl) (rS (Zb P rfl) (rS (Zb P rfl) (rS (Zb P rfl) (ZH λB c4 H z4=>?_))))));have t4:=Zj t3 H;refine⟨ZR (Zb t4 rfl),(Zje c4 rfl).rd ?_⟩;have s4:sz h3<=sz B:=H.size;have o4:Own B 0 ks 4 (t.keys.flatMap k4L):=(hi.row.congr λb o hl _=>(H.old b (show b<sz h3 by have:=v b o;omega)).trans ((N.old b (show b<sz z by have:=v b o;omega) (hi.kb b o).2).trans ((x.old b (show b<sz h1 by have:=v b o;omega)).trans (g.old b hl)))).base (Aye _);refine ZNU o4 (m:=[k]) (n:=1) rfl (by omega) (Aye _) λs5 Q o5 R b5=>?_;have t5:obj Q tb=_:=(R.old tb (show tb<sz B by omega) (λe=>(hi.kb tb e).1 rfl)).trans t4;have az:sz B<=sz Q:=R.size;refine Zg (Zbs t5 (show 0+1<3 by decide) rfl λI c6 X z6=>?_);let S:Nat->Prop:=λj=>j=tb\/j=mb\/ks.blk=some j;have J:Upd S z I:=(((N.mono λj _ d=>.inr (.inl d)).trans (H.upd S)).trans (R.mono λj _ d=>.inr (.inr d))).trans (X.mono λj _ d=>.inl d);have U:Upd S h I:=((g.trans x).upd S).trans J
  have nS:∀j,sz h<=j->¬S j:=λj d hs=>by
    rcases hs with c|c|c
    ·omega
    ·omega
    ·have:=v j c;omega
  have SO:∀j,S j->O j:=λj hs=>ho j (by
    rcases hs with c|c|c
    ·exact .inl c
    ·exact .inr (.inl c)
    ·exact .inr (.inr (.inl c)))
  have w:∀b,s5.blk=some b->ks.blk=some b\/b=sz B:=λb o=>by
    rcases b5 with c|c
    ·exact .inl (c▸o)
    ·rw[c]at o;exact .inr (Option.some.inj o).symm
  refine hk I (λj=>O j\/(sz h<=j/\j<sz I)) ⟨mb,0,s5,λj=>if j=k then some (sz h1)else A j,⟨?_,⟨n+1,?_⟩,?_,?_,?_,?_,hi.mt,?_,?_⟩,?_⟩ (U.mono λj _ d=>SO j d) (λj d=>d) λj d=>.inl d
  ·have e:t.make k=⟨λj=>if j=k then some Node.zero else t.f j,t.keys++[k],t.last⟩:=by unfold Tree.make;rw[D]
   rw[e];exact c6
  ·refine (show ZqR I mb _ (n+1)from ?_)
   have:(λj=>Option.map (λq=>Value.pointer (some ⟨q+4,0,none⟩)) (if j=k then some (sz h1)else A j))=λj=>if j=k then some (Value.pointer (some ⟨sz h1+4,0,none⟩))else Option.map (λq=>Value.pointer (some ⟨q+4,0,none⟩)) (A j):=by
     funext j
     split<;>rfl
   rw[this];refine V.congr ?_;exact(X.old mb (show mb<sz Q by omega) hi.mt).trans ((R.old mb (show mb<sz B by omega) λe=>(hi.kb mb e).2 rfl).trans (H.old mb (show mb<sz h3 by omega)))
  ·have e:(t.make k).keys=t.keys++[k]:=by unfold Tree.make;rw[D]
   rw[e];refine o5.congr λb o hl _=>X.old b hl λL=>?_
   rcases w b o with c|c
   ·exact(hi.kb b c).1 L
   ·omega
  ·have e:(t.make k).keys=t.keys++[k]:=by unfold Tree.make;rw[D]
   rw[e];simp;omega
  ·intro j
   have e:(t.make k).f j=if j=k then some Node.zero else t.f j:=by unfold Tree.make;rw[D]
   by_cases p:j=k
   ·refine .inr ⟨sz h1,Node.zero,if_pos p,by rw[e,if_pos p],n2.congr λi r T=>J.old i (show i<sz z by omega) (nS i (by omega))⟩
   ·rcases hi.node j with⟨r,T⟩ |⟨q,n9,r,T,E⟩
    ·exact .inl ⟨(if_neg p).trans r,by rw[e,if_neg p];exact T⟩
    ·refine .inr ⟨q,n9,(if_neg p).trans r,by rw[e,if_neg p];exact T,E.congr λi g4 g5=>U.old i (show i<sz h by have:=E.lt;omega) λhs=>?_⟩;obtain⟨Y,Z,o3⟩:=hi.out j q r i ⟨g4,g5⟩
     rcases hs with c|c|c
     ·exact Y c
     ·exact Z c
     ·exact o3 c
  ·have old:∀j q,A j=some q->q+5<=sz h:=λj q d=>by
     rcases hi.node j with⟨r,_⟩ |⟨q9,n9,r,_,E⟩
     ·rw[r]at d;cases d
     ·rw[r]at d;cases d;have:=E.lt;omega
   intro j j' q q' l s M
   by_cases g:j=k<;>by_cases x:j'=k
   ·exact absurd (g.trans x.symm) M
   ·rw[if_pos g]at l;rw[if_neg x]at s;cases l;exact .inr (by have:=old _ _ s;omega)
   ·rw[if_neg g]at l;rw[if_pos x]at s;cases s;exact .inl (by have:=old _ _ l;omega)
   ·rw[if_neg g]at l;rw[if_neg x]at s;exact hi.disj j j' q q' l s M
  ·intro b o
   rcases w b o with c|c
   ·exact hi.kb b c
   ·omega
  ·intro j q l i ae;obtain⟨w1,w2⟩:=ae
   by_cases g:j=k
   ·rw [if_pos g]at l;cases l;refine⟨by omega,by omega,λL=>?_⟩
    rcases w i L with c|c
    ·have:=v i c;omega
    ·have:B.size=h3.size+1:=z4;simp only[YJ]at this;omega
   ·rw [if_neg g]at l;obtain⟨Y,Z,o3⟩:=hi.out j q l i ⟨w1,w2⟩;refine⟨Y,Z,λL=>?_⟩
    rcases w i L with c|c
    ·exact o3 c
    ·rcases hi.node j with⟨r,_⟩ |⟨q9,n9,r,_,E⟩
     ·rw[r]at l;cases l
     ·rw[r]at l;cases l;have:=E.lt;omega
  ·rintro j (c|c|c|⟨i,q,c,w1,w2⟩)
   ·exact .inl (ho j (.inl c))
   ·exact .inl (ho j (.inr (.inl c)))
   ·rcases w j c with h8|h8
    ·exact .inl (ho j (.inr (.inr (.inl h8))))
    ·have:sz B<sz Q:=by have:=(o5.lt c).2;rw[h8]at this;exact this
     exact .inr (by omega)
   ·dsimp only at c
    by_cases g:i=k
    ·rw[if_pos g]at c;cases c;exact .inr (by omega)
    ·rw[if_neg g]at c;exact .inl (ho j (.inr (.inr (.inr ⟨i,q,c,w1,w2⟩))))
end Go.Proofs.YtonbfpnngkemiaaGreat
