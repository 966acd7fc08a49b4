/- The windows of buckets: what their functions do, whatever is counted. -/
import Derived.Laws.Strings
import Derived.Test.YthbfgkphlmlihaaGreatPa9
set_option linter.unusedVariables false
set_option linter.unusedSimpArgs false
namespace Go.Proofs.YthbfgkphlmlihaaGreat
open Go Go.Fw
open Nat renaming reduceAdd→Nqa,reduceLT→Nqb,reduceLeDiff→Nqc,reduceEqDiff→Nqd,reduceMul→Nqe
abbrev C6:=Int × Int × Int × Int × Int × Int × Unit
def Zfb (a b:Int):Int:=IntKind.wrap .i64 (Zn1 a (IntKind.wrap .i64 (4611686018427387904 - b))+b)
theorem Zpx {a b:Int} {K:Int→Zd→Prop} {h:Zd}:Zdr a b K h=K (Zfb a b) h:=propext ⟨fun h=>h,fun h=>h⟩
def Zgb (a b:C6):C6:=(Zfb a.1 b.1,Zfb a.2.1 b.2.1,Zfb a.2.2.1 b.2.2.1,Zfb a.2.2.2.1 b.2.2.2.1,Zfb a.2.2.2.2.1 b.2.2.2.2.1,
  (if a.2.2.1=0 then b.2.2.2.2.2.1 else if b.2.2.1=0 then a.2.2.2.2.2.1 else Zn1 a.2.2.2.2.2.1 b.2.2.2.2.2.1),())
def c6L (c:C6):List Value:=[iv c.1,iv c.2.1,iv c.2.2.1,iv c.2.2.2.1,iv c.2.2.2.2.1,iv c.2.2.2.2.2.1]
theorem Zce {a b:Int} {A B:Prop} (h1:a=b→A) (h2:a≠b→B):Zs (a ==b) A B:=⟨fun h=>h1 (by simpa using h),fun h=>h2 (by simpa using h)⟩
theorem ZmC {a b:C6} {K:C6→Zd→Prop} {h:Zd} (hk:∀ h',Ext h h'→K (Zgb a b) h'):Zbl a b K h:=by
  unfold Zbl Zfm
  refine Zg6 (fun t h'=>∃ q,t=(some ⟨q,0,none⟩,())∧Ext h h'∧sz h+3≤q∧q<sz h'∧obj h' (sz h)=some (.cells (c6L a).toArray 169 (0,0))∧obj h' (sz h+1)=some (.cells (c6L b).toArray 169 (0,0))∧obj h' (sz h+2)=some (.cells [iv 0,iv 0,iv 0,iv 0,iv 0,iv 0].toArray 169 (0,0)) ∧
      obj h' q=some (.cells [iv (Zfb a.1 b.1),iv (Zfb a.2.1 b.2.1),iv (Zfb a.2.2.1 b.2.2.1),iv (Zfb a.2.2.2.1 b.2.2.2.1),iv (Zfb a.2.2.2.2.1 b.2.2.2.2.1),iv 0].toArray 169 (0,0))) ?_ ?_
  ·rintro _ h' ⟨q,rfl,he,hq,hq2,h0,h1,h2,h3⟩
   dsimp only
   have n0:(sz h=q)=False:=eq_false (by omega)
   have n1:(sz h+1=q)=False:=eq_false (by omega)
   have n2:(sz h+2=q)=False:=eq_false (by omega)
   have n3:(q=sz h+2)=False:=eq_false (by omega)
   have sh:sz h≤q:=by omega
   have fin:∀ (r:C6) (h9:Zd),r=Zgb a b→Ext h h9→K r h9:=fun r h9 e1 e2=>by subst e1;exact hk h9 e2
   simp (maxDischargeDepth:=60) only [Ye,Yd,evC,Nqa,Nqb,Nqc,Nqd,Nqe,reduceCtorEq,h0,h1,h2,h3,c6L,n0,n1,n2,n3,sh,he,if_false]
   refine Zce (fun q1=>?_) fun q1=>Zce (fun q2=>?_) fun q2=>?_
   all_goals
     refine fin _ _ ?_ ?_
     ·simp [Zgb,q1];try simp [q2]
     ·simp +arith (maxDischargeDepth:=60) only [Zcp,Zmg,he,sh]
  ·simp (maxDischargeDepth:=60) only [Ye,Yd,evC,Nqa,Nqb,Nqc,Nqd,Nqe,reduceCtorEq,Zpx,c6L]
theorem Zl4 (a b:Int):Zn1 a b=min a b:=by unfold Zn1;split<;>omega
theorem Zl5 (a b:Int):Zl6 a b=max a b:=by unfold Zl6;split<;>omega
theorem Zbf {a b:Int} (ha:0≤a∧a≤4611686018427387904) (hb:0≤b∧b≤4611686018427387904):Zfb a b=min a (4611686018427387904 - b)+b:=by
  unfold Zfb
  rw [XH (n:=4611686018427387904 - b) (by omega) (by omega),Zl4,XH (by omega) (by omega)]
theorem Zej {a:Int} (ha:0≤a∧a≤4611686018427387904):Zfb a 0=a:=by
  rw [Zbf ha (by omega)];omega
def z6:C6:=(0,0,0,0,0,0,())
def c6V (x:C6):Value:= .agg (c6L x).toArray
structure Rt (c:C6):Prop where
  p:0≤c.1∧c.1≤4611686018427387904
  b:0≤c.2.1∧c.2.1≤4611686018427387904
  d:0≤c.2.2.1∧c.2.2.1≤4611686018427387904
  e:0≤c.2.2.2.1∧c.2.2.2.1≤c.2.2.1
  s:0≤c.2.2.2.2.1∧c.2.2.2.2.1≤4611686018427387904
  m:0≤c.2.2.2.2.2.1∧c.2.2.2.2.2.1≤c.2.2.2.2.1
  z:0<c.2.2.1∨c.2.2.2.2.1=0
theorem Rt.zero:Rt z6:=⟨by decide,by decide,by decide,by decide,by decide,by decide,.inr rfl⟩
theorem Rt.two {a b:C6} (ha:Rt a) (hb:Rt b):Rt (Zgb a b):=by
  obtain ⟨a1,a2,a3,a4,a5,a6,a7⟩:=ha
  obtain ⟨b1,b2,b3,b4,b5,b6,b7⟩:=hb
  have e1:=Zbf a1 b1
  have e2:=Zbf a2 b2
  have e3:=Zbf a3 b3
  have e4:=Zbf (show 0≤a.2.2.2.1∧a.2.2.2.1≤4611686018427387904 by omega) (show 0≤b.2.2.2.1∧b.2.2.2.1≤4611686018427387904 by omega)
  have e5:=Zbf a5 b5
  refine ⟨?_,?_,?_,?_,?_,?_,?_⟩<;>simp only [Zgb,e1,e2,e3,e4,e5]
  ·omega
  ·omega
  ·omega
  ·omega
  ·omega
  ·rw [Zl4];split<;>(try split)<;>omega
  ·omega
theorem ZAq {a:C6} (ha:Rt a):Zgb a z6=a:=by
  obtain ⟨a1,a2,a3,a4,a5,a6,a7⟩:=ha
  have e4:=Zej (show 0≤a.2.2.2.1∧a.2.2.2.1≤4611686018427387904 by omega)
  simp only [Zgb,z6,Zej a1,Zej a2,Zej a3,e4,Zej a5,if_true]
  split
  ·rw [show (0:Int)=a.2.2.2.2.2.1 from by omega]
  ·rfl
theorem Zpe {a:C6} (ha:Rt a):Zgb z6 a=a:=by
  obtain ⟨a1,a2,a3,a4,a5,a6,a7⟩:=ha
  have zl:∀ {x:Int},0≤x∧x≤4611686018427387904→Zfb 0 x=x:=fun {x} hx=>by rw [Zbf (by omega) hx];omega
  have e4:=zl (show 0≤a.2.2.2.1∧a.2.2.2.1≤4611686018427387904 by omega)
  simp only [Zgb,z6,zl a1,zl a2,zl a3,e4,zl a5,if_true]
theorem Zvk {a b:C6} (ha:Rt a) (hb:Rt b) (h:Zgb a b=z6):a=z6:=by
  obtain ⟨x1,x2,x3,x4,x5,x6,u⟩:=a
  obtain ⟨a1,a2,a3,a4,a5,a6,a7⟩:=ha
  obtain ⟨b1,b2,b3,b4,b5,b6,b7⟩:=hb
  have b4':0≤b.2.2.2.1∧b.2.2.2.1≤4611686018427387904:=by omega
  simp only [Zgb,z6,Prod.mk.injEq] at h
  dsimp only at a1 a2 a3 a4 a5 a6 a7
  obtain ⟨h1,h2,h3,h4,h5,h6,_⟩:=h
  rw [Zbf a1 b1] at h1
  rw [Zbf a2 b2] at h2
  rw [Zbf a3 b3] at h3
  rw [Zbf (by omega) b4'] at h4
  rw [Zbf a5 b5] at h5
  simp only [z6,Prod.mk.injEq]
  refine ⟨by omega,by omega,by omega,by omega,by omega,by omega,trivial⟩
structure Wid where
  len:Int
  cnt:Int
  wid:Int
  e:IntKind.wrap .i64 (Int.tdiv len cnt)=wid
  c0:1≤cnt
  c1:cnt≤10
  w0:1≤wid
  w1:wid≤1000000
def Wid.sec:Wid:=⟨1000000,10,100000,by decide,by decide,by decide,by decide,by decide⟩
def Wid.dbl:Wid:=⟨2000000,2,1000000,by decide,by decide,by decide,by decide,by decide⟩
def bkt (k:Wid) (t:Int):Int:=t / k.wid
theorem Zfx {k:Wid} {t:Int} (h0:0≤t) (h1:t≤1152921504606846976):0≤bkt k t∧bkt k t≤1152921504606846976:=by
  have:=k.w0
  exact ⟨Int.ediv_nonneg h0 (by omega),Int.le_trans (Int.ediv_le_self _ h0) h1⟩
theorem ZmD {k:Wid} {t:Int} (h0:0≤t) (h1:t≤1152921504606846976):IntKind.wrap .i64 (Int.tdiv t k.wid)=bkt k t:=by
  have:=Zfx (k:=k) h0 h1
  unfold bkt at this ⊢
  rw [Int.tdiv_eq_ediv_of_nonneg h0,XH (by omega) (by omega)]
theorem ZhA {k:Wid} {s t:Int} (h:s≤t):bkt k s≤bkt k t:=Int.ediv_le_ediv (by have:=k.w0;omega) h
structure Win where
  last:Int
  p:Int→C6
structure Win.OK (w:Win):Prop where
  lo:0≤w.last
  hi:w.last≤1152921504606846976
  p:∀ i,Rt (w.p i)
structure Zhs (k:Wid) (h:Zd) (wb mb:Nat) (w:Win):Prop where
  ok:w.OK
  cells:obj h wb=some (.cells [iv k.len,iv k.cnt,iv w.last,.map (some mb)].toArray 242 (0,0))
  map:∃ f n,Zet h mb f n∧(∀ i v,f i=some v→∃ x,v=c6V x∧Rt x)∧∀ i,bkt k w.last - k.cnt<i→f i=some (c6V (w.p i))∨(f i=none∧w.p i=z6)
theorem Zhs.mlt {k:Wid} {h:Zd} {wb mb:Nat} {w:Win} (hw:Zhs k h wb mb w):mb<sz h:=by
  obtain ⟨f,n,hm,_⟩:=hw.map
  exact hm.lt
theorem Zhs.congr {k:Wid} {h h':Zd} {wb mb:Nat} {w:Win} (hw:Zhs k h wb mb w) (h1:obj h' wb=obj h wb) (h2:obj h' mb=obj h mb):Zhs k h' wb mb w:=by
  obtain ⟨f,n,hm,r⟩:=hw.map
  exact ⟨hw.ok,h1.trans hw.cells,f,n,hm.congr h2,r⟩
def Yw (last at_:Int):Int:=if at_<0 then 2 else if at_>1152921504606846976 then 2 else if at_<last then 7 else 0
theorem Ze2 {last at_:Int} (h:Yw last at_=0):0≤at_∧at_≤1152921504606846976∧last≤at_:=by
  unfold Yw at h
  split at h
  ·cases h
  ·split at h
   ·cases h
   ·split at h
    ·cases h
    ·omega
theorem ZgF {k:Wid} {h:Zd} {wb mb:Nat} {w:Win} (hw:Zhs k h wb mb w) {at_:Int} {K:Int→Zd→Prop} (hk:K (Yw w.last at_) h):Yl (some ⟨wb,0,none⟩) at_ K h:=by
  unfold Yl Zbr
  unfold Yw at hk
  simp (maxDischargeDepth:=60) only [Ye,Yd,evC,Nqa,Nqb,Nqc,Nqd,Nqe,reduceCtorEq,hw.cells]
  refine Zu (fun q=>?_) fun q=>Zu (fun q2=>?_) fun q2=>Zu (fun q3=>?_) fun q3=>?_
  ·rw [if_pos q] at hk;exact hk
  ·rw [if_neg q,if_pos q2] at hk;exact hk
  ·rw [if_neg q,if_neg q2,if_pos q3] at hk;exact hk
  ·rw [if_neg q,if_neg q2,if_neg q3] at hk;exact hk
theorem ZlB {k:Wid} {h:Zd} {wb:Nat} {r:List Value} (hc:obj h wb=some (.cells (iv k.len::iv k.cnt::r).toArray 242 (0,0))) {at_:Int} (h0:0≤at_) (h1:at_≤1152921504606846976) {K:Int→Zd→Prop} :
    ZU (some ⟨wb,0,none⟩) at_ K h=K (bkt k at_) h:=by
  unfold ZU X1
  have n1:k.cnt≠0:=by have:=k.c0;omega
  have n2:k.wid≠0:=by have:=k.w0;omega
  simp (maxDischargeDepth:=60) only [Ye,Yd,evC,Nqa,Nqb,Nqc,Nqd,Nqe,reduceCtorEq,hc,k.e,ZmD h0 h1]
  simp [n1,n2]
def loW (k:Wid) (at_:Int):Int:=max 0 (bkt k at_ - (k.cnt - 1))
theorem Zqj {h:Zd} {w:Option Addr} {at_:Int} {K:(Option Addr × Option Addr × Unit)→Zd→Prop}:Xc w at_ K h=K (some ⟨sz h,0,none⟩,some ⟨sz h+1,0,none⟩,()) ((h.push (.cells [.pointer w].toArray 162 (0,0))).push (.cells [iv at_].toArray 3 (0,0))):=by
  unfold Xc Zcf
  simp (maxDischargeDepth:=60) only [Ye,Yd,evC,Nqa,Nqb,Nqc,Nqd,Nqe,reduceCtorEq]
theorem ZmZ {k:Wid} {Y:Yld} {y:Nat} {b1 b2 wb mb:Nat} {w:Win} {at_:Int} {h0:Zd} {T1 T2:TypeId} (hw:Zhs k h0 wb mb w) (hb1:obj h0 b1=some (.cells [.pointer (some ⟨wb,0,none⟩)].toArray T1 (0,0)))
    (hb2:obj h0 b2=some (.cells [iv at_].toArray T2 (0,0))) (ha:Yw w.last at_=0) {S:Nat→Prop} (hS:∀ j,S j→j<sz h0) (s1:¬ S b1) (s2:¬ S b2) (s3:¬ S wb) (s4:¬ S mb)
    (J:Int→Zd→Prop) (hJe:∀ i h h',J i h→Ext h h'→J i h')
    (hN:∀ i h,J i h→w.p i=z6→J (i+1) h)
    (hY:∀ i h (K:Bool→Zd→Prop),i≤bkt k at_→J i h→Upd S h0 h→(∀ h',J (i+1) h'→Upd S h h'→K true h')→Y y [.agg (iv (IntKind.wrap .i64 (i*k.wid))::c6L (w.p i)).toArray] K h)
    {K:Zd→Prop} (hJ:J (loW k at_) h0) (hk:∀ h,J (bkt k at_+1) h→Upd S h0 h→K h):YO Y y (some ⟨b1,0,none⟩) (some ⟨b2,0,none⟩) K h0:=by
  obtain ⟨a0,a1,a2⟩:=Ze2 ha
  have hbk:=Zfx (k:=k) a0 a1
  have hbm:=ZhA (k:=k) a2
  unfold YO ZbB
  have e1:=k.e
  have kc0:=k.c0
  have kc1:=k.c1
  have kn:k.cnt≠0:=by omega
  have e2:Zl6 0 (IntKind.wrap .i64 ((IntKind.wrap .i64 (bkt k at_ - k.cnt))+1))=loW k at_:=by
    rw [XH (n:=bkt k at_ - k.cnt) (by omega) (by omega),XH (by omega) (by omega),Zl5]
    unfold loW
    congr 1
    omega
  simp (maxDischargeDepth:=60) only [Ye,Yd,evC,Nqa,Nqb,Nqc,Nqd,Nqe,reduceCtorEq,hb1,hb2,hw.cells,ZlB hw.cells a0 a1,e2]
  refine Zcy (fun s h=>∃ i,s=(i,())∧loW k at_≤i∧i≤bkt k at_+1∧J i h∧Upd S h0 h) (fun s _=>(bkt k at_+1 - s.1).toNat) ⟨_,rfl,Int.le_refl _,by unfold loW;omega,hJ,Upd.refl _ _⟩ ?_
  rintro _ h ⟨i,rfl,hi0,hi1,hJi,hu⟩
  dsimp only
  have hi2:bkt k at_ - (k.cnt - 1)≤i∧0≤i:=by unfold loW at hi0;omega
  refine Zu (fun q=>?_) fun q=>hk h (by rw [show bkt k at_+1=i from by omega];exact hJi) hu
  have l1:=Zr hb1
  have l3:=Zr hw.cells
  have c1:obj h b1=some (.cells [.pointer (some ⟨wb,0,none⟩)].toArray T1 (0,0)):=(Ze6 hu l1 s1).trans hb1
  have c3:obj h wb=some (.cells [iv k.len,iv k.cnt,iv w.last,.map (some mb)].toArray 242 (0,0)):=(Ze6 hu l3 s3).trans hw.cells
  have hsz:sz h0≤sz h:=hu.size
  have n1:b1<sz h:=by omega
  have n3:wb<sz h:=by omega
  have hwr:IntKind.wrap .i64 (i+1)=i+1:=XH (by omega) (by omega)
  obtain ⟨f,n,hm,hfv,hfp⟩:=(hw.congr (h':=h) (Ze6 hu l3 s3) (Ze6 hu hw.mlt s4)).map
  simp (maxDischargeDepth:=60) only [Ye,Yd,evC,Nqa,Nqb,Nqc,Nqd,Nqe,reduceCtorEq,c1,c3]
  refine hm.get i ?_
  rcases hfp i (by omega) with hf | ⟨hf,hp⟩
  ·rw [hf]
   refine ⟨w.p i,rfl,?_⟩
   simp (maxDischargeDepth:=60) only [Ye,Yd,evC,Nqa,Nqb,Nqc,Nqd,Nqe,reduceCtorEq,c6L,c1,c3,Zig n1,ZdW n1,Zig n3,ZdW n3,Ztj n1,ZpM n1,Ztj n3,ZpM n3,e1]
   refine ⟨kn,hY i _ _ q (hJe _ _ _ hJi ?_) ?_ fun h' hJ' hu'=>?_⟩
   ·simp (maxDischargeDepth:=60) only [Ye,Yd,evC,Nqa,Nqb,Nqc,Nqd,Nqe,reduceCtorEq]
   ·exact ZcL (ZeA hu) (.inl (by omega))
   ·have hsz':sz h+1≤sz h':=by have:=hu'.size;simp only [YV,Zc4,ZfX] at this;exact this
    have ns:∀ k,sz h0≤k→¬ S k:=fun k hk hs=>by have:=hS k hs;omega
    have g0:=Ze6 hu' (b:=sz h) (by simp only [Zc4,ZfX];omega) (ns _ hsz)
    have g1:=Ze6 hu' (b:=b1) (by simp only [Zc4,ZfX];omega) s1
    have g3:=Ze6 hu' (b:=wb) (by simp only [Zc4,ZfX];omega) s3
    simp (maxDischargeDepth:=60) only [Ye,Yd,evC,Nqa,Nqb,Nqc,Nqd,Nqe,reduceCtorEq,g0,g1,g3,c1,c3,Zig n1,ZdW n1,Zig n3,ZdW n3,hwr]
    refine ⟨⟨by omega,by omega,hJ',?_⟩,by omega⟩
    ·exact (ZcL (ZeA hu) (.inl hsz)).trans hu'
  ·rw [hf]
   refine ⟨z6,rfl,?_⟩
   simp (maxDischargeDepth:=60) only [Ye,Yd,evC,Nqa,Nqb,Nqc,Nqd,Nqe,reduceCtorEq,hwr]
   refine ⟨⟨by omega,by omega,hN i _ (hJe _ _ _ hJi ?_) hp,?_⟩,by omega⟩
   ·simp (maxDischargeDepth:=60) only [Ye,Yd,evC,Nqa,Nqb,Nqc,Nqd,Nqe,reduceCtorEq]
   ·exact ZcL (ZeA hu) (.inl (by omega))
def ZrE (p:Int→C6):Nat→Int→C6→C6
  | 0,_,acc=>acc
  | n+1,i,acc=>ZrE p n (i+1) (Zgb acc (p i))
def ZgK (p:Int→C6) (lo i:Int):C6:=ZrE p (i - lo).toNat lo z6
theorem Zk3 (p:Int→C6):∀ (n:Nat) (i:Int) (acc:C6),ZrE p (n+1) i acc=Zgb (ZrE p n i acc) (p (i+n))
  | 0,i,acc=>by simp [ZrE]
  | n+1,i,acc=>by
    have:=Zk3 p n (i+1) (Zgb acc (p i))
    show ZrE p (n+1) (i+1) (Zgb acc (p i))=_
    rw [this]
    show Zgb _ _=Zgb (ZrE p n (i+1) (Zgb acc (p i))) _
    congr 2
    omega
theorem Zeg (p:Int→C6) {lo i:Int} (h:lo≤i):ZgK p lo (i+1)=Zgb (ZgK p lo i) (p i):=by
  unfold ZgK
  rw [show (i+1 - lo).toNat=(i - lo).toNat+1 from by omega,Zk3]
  congr 2
  omega
theorem Zhu (p:Int→C6) (lo:Int):ZgK p lo lo=z6:=by unfold ZgK;simp [ZrE]
theorem Zpm {p:Int→C6} (hp:∀ i,Rt (p i)) (lo:Int) (n:Nat):Rt (ZgK p lo (lo+n)):=by
  induction n with
  | zero=>rw [show lo+((0:Nat):Int)=lo from by omega,Zhu];exact Rt.zero
  | succ n ih =>
    rw [show lo+((n+1:Nat):Int)=lo+n+1 from by omega,Zeg p (by omega)]
    exact ih.two (hp _)
def Win.sum (k:Wid) (w:Win) (at_:Int):C6:=ZgK w.p (loW k at_) (bkt k at_+1)
theorem Zi6 {p:Int→C6} (hp:∀ i,Rt (p i)) {lo i:Int} (h:lo≤i):Rt (ZgK p lo i):=by
  have:=Zpm hp lo (i - lo).toNat
  rwa [show lo+((i - lo).toNat:Int)=i from by omega] at this
theorem Zm3 {k:Wid} {h:Zd} {wb mb:Nat} {w:Win} (hw:Zhs k h wb mb w) {at_:Int} {K:C6→Int→Zd→Prop}
    (hk:∀ h',Ext h h'→K (if Yw w.last at_=0 then w.sum k at_ else z6) (Yw w.last at_) h'):Y0 (some ⟨wb,0,none⟩) at_ K h:=by
  unfold Y0 ZbO
  have l3:=Zr hw.cells
  have l4:=hw.mlt
  simp (maxDischargeDepth:=60) only [Ye,Yd,evC,Nqa,Nqb,Nqc,Nqd,Nqe,reduceCtorEq]
  refine ZgF (hw.congr (by simp (maxDischargeDepth:=60) only [Ye,Yd,evC,Nqa,Nqb,Nqc,Nqd,Nqe,reduceCtorEq,ZdW l3]) (by simp (maxDischargeDepth:=60) only [Ye,Yd,evC,Nqa,Nqb,Nqc,Nqd,Nqe,reduceCtorEq,ZdW l4])) ?_
  rcases Decidable.em (Yw w.last at_=0) with he | he
  ·rw [if_pos he] at hk
   rw [he] at hk ⊢
   obtain ⟨a0,a1,a2⟩:=Ze2 he
   have hbk:=Zfx (k:=k) a0 a1
   simp (maxDischargeDepth:=60) only [Ye,Yd,evC,Nqa,Nqb,Nqc,Nqd,Nqe,reduceCtorEq,bne_self_eq_false,Zqj,ZhY]
   intro r
   have hlo:loW k at_≤bkt k at_+1:=by have:=k.c0;unfold loW;omega
   have n3:=Zig l3
   have n30:=ZdW l3
   have n4:=Zig l4
   have n40:=ZdW l4
   refine ZmZ (w:=w) (at_:=at_) (wb:=wb) (mb:=mb) (hw.congr ?_ ?_) ?_ ?_ he (S:=fun k=>k=sz h+1∨k=sz h+5) ?_ ?_ ?_ ?_ ?_
     (fun i hh=>obj hh (sz h+5)=some (ZaR r .ready none)∧obj hh (sz h+4)=some (.deferred (some []))∧obj hh (sz h+1)=some (.cells (c6L (ZgK w.p (loW k at_) i)).toArray 169 (0,0)) ∧
       obj hh (sz h)=some (.cells [iv 0,iv 0,iv 0,iv 0,iv 0,iv 0].toArray 169 (0,0))∧Ext h hh∧loW k at_≤i) (T1:=162) (T2:=3) ?_ ?_ ?_ ?_ ?_
   ·simp (maxDischargeDepth:=60) only [Ye,Yd,evC,Nqa,Nqb,Nqc,Nqd,Nqe,reduceCtorEq,n3,n30]
   ·simp (maxDischargeDepth:=60) only [Ye,Yd,evC,Nqa,Nqb,Nqc,Nqd,Nqe,reduceCtorEq,n4,n40]
   ·simp (maxDischargeDepth:=60) only [Ye,Yd,evC,Nqa,Nqb,Nqc,Nqd,Nqe,reduceCtorEq]
   ·simp (maxDischargeDepth:=60) only [Ye,Yd,evC,Nqa,Nqb,Nqc,Nqd,Nqe,reduceCtorEq]
   ·intro k hk9
    simp (maxDischargeDepth:=60) only [Ye,Yd,evC,Nqa,Nqb,Nqc,Nqd,Nqe,reduceCtorEq]
    omega
   ·omega
   ·omega
   ·omega
   ·omega
   ·rintro i hh h' ⟨j1,j2,j3,j4,j5,j6⟩ e
    exact ⟨Zl j1 e,Zl j2 e,Zl j3 e,Zl j4 e,j5.trans e,j6⟩
   ·rintro i hh ⟨j1,j2,j3,j4,j5,j6⟩ hp
    rw [Zeg _ j6,hp,ZAq (Zi6 hw.ok.p j6)]
    exact ⟨j1,j2,j3,j4,j5,by omega⟩
   ·rintro i hh K9 _ ⟨j1,j2,j3,j4,j5,j6⟩ hu hK9
    rw [ZkZ]
    refine ⟨rfl,rfl,j1,⟨((IntKind.wrap .i64 (i*k.wid),w.p i),()),rfl,?_⟩⟩
    have g1:=Zr j1
    have g2:=Zr j2
    have g3:=Zr j3
    have g4:=Zr j4
    have g5:sz h+5<sz hh+1:=by omega
    have nn:∀ j,j≤5→(sz h+j=sz hh)=False∧(sz hh=sz h+j)=False:=fun j hj=>⟨eq_false (by omega),eq_false (by omega)⟩
    have m1:=nn 1 (by omega)
    have m5:=nn 5 (by omega)
    simp (maxDischargeDepth:=60) only [Ye,Yd,evC,Nqa,Nqb,Nqc,Nqd,Nqe,reduceCtorEq,ZkF,YH,YN,j1,j3,m1.1,m1.2,m5.1,m5.2,c6L,g5]
    refine ZmC (a:=ZgK w.p (loW k at_) i) (b:=w.p i) fun h' e'=>?_
    have z':=ZmS e'
    simp (maxDischargeDepth:=60) only [Ye,Yd,evC,Nqa,Nqb,Nqc,Nqd,Nqe,reduceCtorEq,YN] at z'
    have g6:sz h+5<sz h':=by omega
    have o1:=Z6 e' (b:=sz h+1) (by simp (maxDischargeDepth:=60) only [Ye,Yd,evC,Nqa,Nqb,Nqc,Nqd,Nqe,reduceCtorEq,YN];omega)
    have o5:=Z6 e' (b:=sz h+5) (by simp (maxDischargeDepth:=60) only [Ye,Yd,evC,Nqa,Nqb,Nqc,Nqd,Nqe,reduceCtorEq,YN];omega)
    have o4:=Z6 e' (b:=sz h+4) (by simp (maxDischargeDepth:=60) only [Ye,Yd,evC,Nqa,Nqb,Nqc,Nqd,Nqe,reduceCtorEq,YN];omega)
    have o0:=Z6 e' (b:=sz h) (by simp (maxDischargeDepth:=60) only [Ye,Yd,evC,Nqa,Nqb,Nqc,Nqd,Nqe,reduceCtorEq,YN];omega)
    have m4:=nn 4 (by omega)
    have m0:(sz h=sz hh)=False:=eq_false (by omega)
    simp (maxDischargeDepth:=60) only [Ye,Yd,evC,Nqa,Nqb,Nqc,Nqd,Nqe,reduceCtorEq,YH,YN,j1,j2,j3,j4,m0,m1.1,m4.1,m5.1,m1.2,m4.2,m5.2,g5] at o1 o5 o4 o0
    rw [← Zeg _ j6]
    simp (maxDischargeDepth:=60) only [Ye,Yd,evC,Nqa,Nqb,Nqc,Nqd,Nqe,reduceCtorEq,YH,YN,o1,o5,g6,c6L]
    refine hK9 _ ⟨?_,?_,?_,?_,?_,by omega⟩ ?_
    ·simp (maxDischargeDepth:=60) only [Ye,Yd,evC,Nqa,Nqb,Nqc,Nqd,Nqe,reduceCtorEq,YH,YN,g6]
    ·simp (maxDischargeDepth:=60) only [Ye,Yd,evC,Nqa,Nqb,Nqc,Nqd,Nqe,reduceCtorEq,YH,YN,g6,o4]
    ·simp (maxDischargeDepth:=60) only [Ye,Yd,evC,Nqa,Nqb,Nqc,Nqd,Nqe,reduceCtorEq,YH,YN,g6,o1,c6L]
    ·simp (maxDischargeDepth:=60) only [Ye,Yd,evC,Nqa,Nqb,Nqc,Nqd,Nqe,reduceCtorEq,YH,YN,g6,o0]
    ·exact ZcW (Zcp ((ZcW (Zcp (Zah j5) (by omega)) (by omega)).trans e') (by omega)) (by omega)
    ·exact ZdT (ZcL ((ZdT (ZcL (ZeA (Upd.refl _ _)) (.inl (by omega))) (.inr (.inr rfl))).trans (e'.upd _)) (.inr (.inl rfl))) (.inr (.inr rfl))
   ·simp (maxDischargeDepth:=60) only [Ye,Yd,evC,Nqa,Nqb,Nqc,Nqd,Nqe,reduceCtorEq,Zhu,z6,c6L,Int.le_refl]
   ·rintro hh ⟨j1,j2,j3,j4,j5,j6⟩ hu
    refine ⟨.ready,none,by decide,j1,?_⟩
    have g1:=Zr j1
    have g2:=Zr j2
    rw [Zgs]
    simp (maxDischargeDepth:=60) only [Ye,Yd,evC,Nqa,Nqb,Nqc,Nqd,Nqe,reduceCtorEq,YH,YN,Zkd,j1,j2,j3,j4,g1,g2,c6L]
    exact hk _ (ZcW (Zcp (ZcW j5 (by omega)) (by omega)) (by omega))
  ·have:(Yw w.last at_ !=0)=true:=by simpa using he
   rw [this]
   rw [if_neg he] at hk
   simp (maxDischargeDepth:=60) only [Ye,Yd,evC,Nqa,Nqb,Nqc,Nqd,Nqe,reduceCtorEq]
   exact hk _ (by simp (maxDischargeDepth:=60) only [Ye,Yd,evC,Nqa,Nqb,Nqc,Nqd,Nqe,reduceCtorEq])
theorem ZmG {h:Zd} {s:Sl} {size:Nat} {vs:List Value} (hr:Row h s size vs) {i:Nat} (hi:i<s.len):∃ b o,(∀ {K:Nat→Nat→Prop} {n:Int},n=(i:Int)→K b o→Xy s.ptr s.len n size K)∧∀ j v,j<size→vs[i*size+j]?=some v→Z7 (o+j) (obj h b)=some v:=by
  rcases hr.at_ with h0 | ⟨b,o,hp,hh⟩
  ·omega
  ·refine ⟨b,o+i*size,fun {K n} hn hk=>?_,fun j v hj hv=>?_⟩
   ·subst hn
    exact ⟨b,o,hp,by omega,by omega,by simpa using hk⟩
   ·have:=Zkt hh hv
    rw [YA,← Nat.add_assoc] at this
    exact this
theorem Zje {c:C6} (hx:Rt c) {K:Bool→Zd→Prop} {h:Zd} (hk:∀ h',Ext h h'→K true h'):Zaj c K h:=by
  obtain ⟨x1,x2,x3,x4,x5,x6,u⟩:=c
  obtain ⟨a1,a2,a3,a4,a5,a6,a7⟩:=hx
  dsimp only at a1 a2 a3 a4 a5 a6 a7
  unfold Zaj Zd2
  simp (maxDischargeDepth:=60) only [Ye,Yd,evC,Nqa,Nqb,Nqc,Nqd,Nqe,reduceCtorEq]
  refine Zcy (fun s hh=>∃ i:Int,s=(i,())∧0≤i∧i≤6∧hh=((h.push (.cells [iv x1,iv x2,iv x3,iv x4,iv x5,iv x6].toArray 169 (0,0))).push (.cells [iv x1,iv x2,iv x3,iv x4,iv x5,iv x6].toArray 3 (0,0)))) (fun s _=>(6 - s.1).toNat) ⟨0,rfl,by omega,by omega,rfl⟩ ?_
  rintro _ _ ⟨i,rfl,hi0,hi,rfl⟩
  dsimp only
  refine Zu (fun q=>?_) fun q=>?_
  ·refine ⟨_,_,rfl,by omega,by omega,?_⟩
   have hwr:IntKind.wrap .i64 (i+1)=i+1:=XH (by omega) (by omega)
   have h6:i=0∨i=1∨i=2∨i=3∨i=4∨i=5:=by omega
   have D:∀ x:Int,0≤x∧x≤4611686018427387904→decide (x<0)=false∧decide (x>4611686018427387904)=false:=fun x hx=>by constructor<;>simp<;>omega
   have d1:=D x1 (by omega)
   have d2:=D x2 (by omega)
   have d3:=D x3 (by omega)
   have d4:=D x4 (by omega)
   have d5:=D x5 (by omega)
   have d6:=D x6 (by omega)
   rcases h6 with rfl | rfl | rfl | rfl | rfl | rfl<;>simp (maxDischargeDepth:=60) only [Ye,Yd,evC,Nqa,Nqb,Nqc,Nqd,Nqe,reduceCtorEq,Nat.mul_one,d1.1,d1.2,d2.1,d2.2,d3.1,d3.2,d4.1,d4.2,d5.1,d5.2,d6.1,d6.2,hwr,Int.toNat_zero,Int.reduceToNat]<;>exact ⟨⟨by omega,by omega⟩,by omega⟩
  ·have fin:K true ((h.push (.cells [iv x1,iv x2,iv x3,iv x4,iv x5,iv x6].toArray 169 (0,0))).push (.cells [iv x1,iv x2,iv x3,iv x4,iv x5,iv x6].toArray 3 (0,0))):=hk _ (Zah (Zah (Ext.refl _)))
   simp (maxDischargeDepth:=60) only [Ye,Yd,evC,Nqa,Nqb,Nqc,Nqd,Nqe,reduceCtorEq]
   refine ⟨fun _=>⟨fun _=>⟨fun _=>fin,fun q=>?_⟩,fun q=>?_⟩,fun q=>?_⟩
   ·simp at q
    rw [show (x5 ==0)=true from by simp;omega]
    exact fin
   ·simp at q;omega
   ·simp at q;omega
theorem Zqu {h:Zd} {s:Sl} {a b:C6} (hr:Row h s 6 (c6L a++c6L b)) (ha:Rt a) (hb:Rt b) {K:C6→Zd→Prop} (hk:∀ h',Ext h h'→K (Zgb a b) h'):Zb0 s K h:=by
  have hl:s.len=2:=by have:=hr.len;simp [c6L] at this;omega
  unfold Zb0 ZeH
  simp (maxDischargeDepth:=60) only [Ye,Yd,evC,Nqa,Nqb,Nqc,Nqd,Nqe,reduceCtorEq]
  refine Zcy (fun st hh=>∃ i:Nat,st=((i:Int),())∧i≤2∧Ext h hh∧obj hh (sz h)=some (.cells [iv 0,iv 0,iv 0,iv 0,iv 0,iv 0].toArray 169 (0,0))∧obj hh (sz h+1)=some (.cells (c6L (if i=0 then z6 else if i=1 then a else Zgb a b)).toArray 169 (0,0)))
    (fun s _=>(2 - s.1).toNat) ⟨0,rfl,by omega,by simp (maxDischargeDepth:=60) only [Ye,Yd,evC,Nqa,Nqb,Nqc,Nqd,Nqe,reduceCtorEq],by simp (maxDischargeDepth:=60) only [Ye,Yd,evC,Nqa,Nqb,Nqc,Nqd,Nqe,reduceCtorEq],by simp (maxDischargeDepth:=60) only [Ye,Yd,evC,Nqa,Nqb,Nqc,Nqd,Nqe,reduceCtorEq,z6,if_true,c6L]⟩ ?_
  rintro _ hh ⟨i,rfl,hi,he,o0,o1⟩
  dsimp only
  have g1:=Zr o1
  have g0:=Zr o0
  refine Zu (fun q=>?_) fun q=>?_
  ·have hi2:i<s.len:=by omega
   obtain ⟨bb,o,hidx,hcell⟩:=ZmG (hr.ext he) hi2
   refine hidx rfl ?_
   have hv:∀ j,j<6→Z7 (o+j) (obj hh bb)=(c6L (if i=0 then a else b))[j]?:=fun j hj=>by
     rcases (show i=0∨i=1 by omega) with rfl | rfl
     ·rw [if_pos rfl]
      obtain ⟨v,hv⟩:∃ v,(c6L a)[j]?=some v:=⟨_,List.getElem?_eq_getElem (by simpa [c6L] using hj)⟩
      rw [hv]
      exact hcell j v hj (by rw [Nat.zero_mul,Nat.zero_add,List.getElem?_append_left (by simpa [c6L] using hj)];exact hv)
     ·rw [if_neg (by omega)]
      obtain ⟨v,hv⟩:∃ v,(c6L b)[j]?=some v:=⟨_,List.getElem?_eq_getElem (by simpa [c6L] using hj)⟩
      rw [hv]
      exact hcell j v hj (by rw [Nat.one_mul,List.getElem?_append_right (by simp [c6L])];simpa [c6L] using hv)
   have v0:=hv 0 (by omega)
   have v1:=hv 1 (by omega)
   have v2:=hv 2 (by omega)
   have v3:=hv 3 (by omega)
   have v4:=hv 4 (by omega)
   have v5:=hv 5 (by omega)
   have hc:Rt (if i=0 then a else b):=by split<;>assumption
   generalize hcc:(if i=0 then a else b)=cc at v0 v1 v2 v3 v4 v5 hc
   generalize hac:(if i=0 then z6 else if i=1 then a else Zgb a b)=ac at o1
   simp only [c6L,List.getElem?_cons_zero,List.getElem?_cons_succ,Nat.add_zero] at v0 v1 v2 v3 v4 v5
   have m1:(sz h+1=sz hh)=False:=eq_false (by omega)
   have m0:(sz h=sz hh)=False:=eq_false (by omega)
   simp (maxDischargeDepth:=60) only [Ye,Yd,evC,Nqa,Nqb,Nqc,Nqd,Nqe,reduceCtorEq,v0,v1,v2,v3,v4,v5]
   refine Zje hc fun h1 e1=>?_
   have z1:=ZmS e1
   simp (maxDischargeDepth:=60) only [Ye,Yd,evC,Nqa,Nqb,Nqc,Nqd,Nqe,reduceCtorEq] at z1
   have p0:=Z6 e1 (b:=sz hh) (by simp (maxDischargeDepth:=60) only [Ye,Yd,evC,Nqa,Nqb,Nqc,Nqd,Nqe,reduceCtorEq]<;>omega)
   have p1:=Z6 e1 (b:=sz h+1) (by simp (maxDischargeDepth:=60) only [Ye,Yd,evC,Nqa,Nqb,Nqc,Nqd,Nqe,reduceCtorEq]<;>omega)
   have p2:=Z6 e1 (b:=sz h) (by simp (maxDischargeDepth:=60) only [Ye,Yd,evC,Nqa,Nqb,Nqc,Nqd,Nqe,reduceCtorEq]<;>omega)
   simp (maxDischargeDepth:=60) only [Ye,Yd,evC,Nqa,Nqb,Nqc,Nqd,Nqe,reduceCtorEq,m1,m0,o1,o0] at p0 p1 p2
   simp (maxDischargeDepth:=60) only [Ye,Yd,evC,Nqa,Nqb,Nqc,Nqd,Nqe,reduceCtorEq,p0,p1,c6L]
   refine ZmC (a:=ac) (b:=cc) fun h2 e2=>?_
   have z2:=ZmS e2
   have q1:=Zl p1 e2
   have q2:=Zl p2 e2
   have hwr:IntKind.wrap .i64 ((i:Int)+1)=((i+1:Nat):Int):=by rw [XH (by omega) (by omega)];omega
   have n01:(sz h=sz h+1)=False:=eq_false (by omega)
   simp (maxDischargeDepth:=60) only [Ye,Yd,evC,Nqa,Nqb,Nqc,Nqd,Nqe,reduceCtorEq,q1,c6L,hwr]
   refine ⟨⟨i+1,rfl,by omega,Zcp (((Zcp (Zah he) (by omega)).trans e1).trans e2) (by omega),?_,?_⟩,by omega⟩
   ·simp (maxDischargeDepth:=60) only [Ye,Yd,evC,Nqa,Nqb,Nqc,Nqd,Nqe,reduceCtorEq,q2,n01]
   ·have:Zgb ac cc=(if i+1=0 then z6 else if i+1=1 then a else Zgb a b):=by
      rw [← hac,← hcc]
      rcases (show i=0∨i=1 by omega) with rfl | rfl
      ·simp [Zpe ha]
      ·simp
    rw [← this]
  ·have hi2:i=2:=by omega
   subst hi2
   simp (maxDischargeDepth:=60) only [Ye,Yd,evC,Nqa,Nqb,Nqc,Nqd,Nqe,reduceCtorEq,o0,o1,c6L]
   exact hk _ (Zcp he (by omega))
def Ztk (h:Zd) (mb it:Nat):Nat:=match h[it]?,h[mb]? with
  | some (.mapIter _ _ seen _),some (.map es _)=>(leftOf es seen).size
  | _,_=>0
theorem Zhx {h:Zd} {mb it:Nat} {f:Int→Option Value} {n:Nat} {rem:Int→Prop} {L:Nat} (hr:ZdQ h mb it f n rem L):Ztk h mb it=L:=by
  obtain ⟨es,c,since,seen,c0,hb,hs,hn,he,hi,hold,hsc,hL,hrem⟩:=hr
  unfold Ztk
  rw [hi,hb]
  exact hL
def Win.add (k:Wid) (w:Win) (at_:Int) (x:C6):Win:=⟨at_,fun i=>if i=bkt k at_ then Zgb (w.p i) x else w.p i⟩
theorem Zf1 {k:Wid} (hkk:(Int.tmod k.len k.cnt)=0) (hl:1≤k.len∧k.len≤1099511627776) {h:Zd} {K:Option Addr→Int→Zd→Prop} (hk:∀ h',Zhs k h' (sz h+1) (sz h) ⟨0,fun _=>z6⟩→Ext h h'→sz h'=sz h+2→K (some ⟨sz h+1,0,none⟩) 0 h'):Zbm k.len k.cnt K h:=by
  unfold Zbm Zfn
  have kc0:=k.c0
  have kc1:=k.c1
  have e1:((Int.tmod k.len k.cnt) !=0)=false:=by rw [hkk];rfl
  have e2:decide (k.len<1)=false:=by simp;omega
  have e3:decide (k.len>1099511627776)=false:=by simp;omega
  have e4:decide (k.cnt<1)=false:=by simp;omega
  have e5:decide (k.cnt>60)=false:=by simp;omega
  rw [e2,e3,e4,e5]
  simp (maxDischargeDepth:=60) only [ZmX,ZmY,ZpK,e1]
  refine Zz (Zz (Zz (Zz ⟨by omega,Zz ?_⟩)))
  refine Zet.new fun h1 hm e1 z1=>?_
  simp (maxDischargeDepth:=60) only [Ye,Yd,evC,Nqa,Nqb,Nqc,Nqd,Nqe,reduceCtorEq]
  simp only [YV] at hm z1
  rw [z1]
  refine hk _ ⟨⟨by decide,by decide,fun i=>Rt.zero⟩,?_,?_⟩ (Zah e1) ?_
  ·simp (maxDischargeDepth:=60) only [Ye,Yd,evC,Nqa,Nqb,Nqc,Nqd,Nqe,reduceCtorEq,z1]
  ·exact ⟨_,_,hm.congr (Zgl hm.lt),(fun i v hv=>by cases hv),fun i _=> .inr ⟨rfl,rfl⟩⟩
  ·simp (maxDischargeDepth:=60) only [Ye,Yd,evC,Nqa,Nqb,Nqc,Nqd,Nqe,reduceCtorEq,z1]
theorem ZkM {k:Wid} {h:Zd} {wb mb:Nat} {w:Win} (hw:Zhs k h wb mb w) {at_:Int} {x:C6} (hx:Rt x) {s:Sl} (hs:Row h s 6 (c6L x)) (hsb:∀ b,s.blk=some b→b≠wb∧b≠mb) {K:Int→Zd→Prop}
    (hk:∀ h',Zhs k h' wb mb (if Yw w.last at_=0 then w.add k at_ x else w)→Upd (fun j=>j=wb∨j=mb) h h'→K (Yw w.last at_) h'):Y1 (some ⟨wb,0,none⟩) at_ s K h:=by
  have kc0:=k.c0
  have kc1:=k.c1
  have hl:s.len=1:=by have:=hs.len;simp [c6L] at this;omega
  have l3:=Zr hw.cells
  have l4:=hw.mlt
  have hne:wb≠mb:=fun e=>by
    obtain ⟨f,n,⟨es,c,hb,_⟩,_⟩:=hw.map
    have:=hw.cells
    rw [e] at this
    rw [show obj h mb=h[mb]? from rfl,hb] at this
    cases this
  unfold Y1 ZbP
  simp (maxDischargeDepth:=60) only [Ye,Yd,evC,Nqa,Nqb,Nqc,Nqd,Nqe,reduceCtorEq]
  refine ZgF hw ?_
  rcases Decidable.em (Yw w.last at_=0) with he | he
  case inr =>
    have:(Yw w.last at_ !=0)=true:=by simpa using he
    rw [this]
    rw [if_neg he] at hk
    exact YL (hk _ hw (Upd.refl _ _))
  rw [if_pos he] at hk
  rw [he] at hk ⊢
  obtain ⟨a0,a1,a2⟩:=Ze2 he
  have hbk:=Zfx (k:=k) a0 a1
  have hbm:=ZhA (k:=k) a2
  refine Zz ?_
  refine Zcy (fun st hh=>∃ i:Nat,st=((i:Int),())∧i≤1∧Ext h hh) (fun s _=>(1 - s.1).toNat) ⟨0,rfl,by omega,Ext.refl _⟩ ?_
  rintro _ hh ⟨i,rfl,hi,hee⟩
  dsimp only
  have zz:=ZmS hee
  refine Zu (fun q=>?_) fun q=>?_
  ·have hi0:i=0:=by omega
   subst hi0
   obtain ⟨bb,o,hidx,hcell⟩:=ZmG (i:=0) (hs.ext hee) (by omega)
   refine hidx rfl ?_
   have v0:=hcell 0 _ (by omega) (show (c6L x)[0]?=some (iv (x.1)) from rfl)
   have v1:=hcell 1 _ (by omega) (show (c6L x)[1]?=some (iv (x.2.1)) from rfl)
   have v2:=hcell 2 _ (by omega) (show (c6L x)[2]?=some (iv (x.2.2.1)) from rfl)
   have v3:=hcell 3 _ (by omega) (show (c6L x)[3]?=some (iv (x.2.2.2.1)) from rfl)
   have v4:=hcell 4 _ (by omega) (show (c6L x)[4]?=some (iv (x.2.2.2.2.1)) from rfl)
   have v5:=hcell 5 _ (by omega) (show (c6L x)[5]?=some (iv (x.2.2.2.2.2.1)) from rfl)
   simp only [Nat.add_zero] at v0
   simp (maxDischargeDepth:=60) only [Ye,Yd,evC,Nqa,Nqb,Nqc,Nqd,Nqe,reduceCtorEq,v0,v1,v2,v3,v4,v5]
   refine Zje hx fun h1 e1=>?_
   have hwr:IntKind.wrap .i64 (((0:Nat):Int)+1)=((1:Nat):Int):=by decide
   simp (maxDischargeDepth:=60) only [Ye,Yd,evC,Nqa,Nqb,Nqc,Nqd,Nqe,reduceCtorEq,hwr]
   exact ⟨⟨1,rfl,by omega,(Zcp (Zah hee) (by omega)).trans e1⟩,by decide⟩
  ·clear q
   have c3:=Zl hw.cells hee
   have n3:wb<sz hh:=by omega
   have n4:mb<sz hh:=by omega
   have hne':mb≠wb:=fun e=>hne e.symm
   have c3':obj (Zd.put hh wb 2 (iv at_)) wb=some (.cells [iv k.len,iv k.cnt,iv at_,.map (some mb)].toArray 242 (0,0)):=by
     simp (maxDischargeDepth:=60) only [Ye,Yd,evC,Nqa,Nqb,Nqc,Nqd,Nqe,reduceCtorEq,c3]
   have u1:Upd (fun j=>j=wb∨j=mb) h (Zd.put hh wb 2 (iv at_)):=Zpd (hee.upd _) (.inr (.inl rfl))
   have hm1:=(hw.congr (h':=hh) (Z6 hee l3) (Z6 hee l4)).map
   simp (maxDischargeDepth:=60) only [Ye,Yd,evC,Nqa,Nqb,Nqc,Nqd,Nqe,reduceCtorEq,c3,ZlB c3' a0 a1]
   obtain ⟨f,n,hm,hfv,hfp⟩:=hm1
   have hm2:Zet (Zd.put hh wb 2 (iv at_)) mb f n:=hm.congr (Zgk hne')
   have zz2:sz (Zd.put hh wb 2 (iv at_))=sz hh:=ZrD
   generalize Zd.put hh wb 2 (iv at_)=h2 at c3' u1 hm2 zz2 ⊢
   refine Zg6 (fun _ h9=>∃ f' n',Zet h9 mb f' n'∧(∀ i v,f' i=some v→∃ x,v=c6V x∧Rt x)∧(∀ i,bkt k at_ - k.cnt<i→f' i=some (c6V ((w.add k at_ x).p i))∨(f' i=none∧(w.add k at_ x).p i=z6)) ∧
     obj h9 wb=some (.cells [iv k.len,iv k.cnt,iv at_,.map (some mb)].toArray 242 (0,0))∧Upd (fun j=>j=wb∨j=mb) h h9) ?_ ?_
   ·rintro _ h9 ⟨f',n',hm9,hfv9,hfp9,c9,u9⟩
    have l9:=Zr c9
    have g9:=hm9.lt
    simp (maxDischargeDepth:=60) only [Ye,Yd,evC,Nqa,Nqb,Nqc,Nqd,Nqe,reduceCtorEq,c9]
    refine hm9.range fun h10 hr10 e10 z10=>?_
    simp only [YV] at hr10 z10 ⊢
    have okw:(w.add k at_ x).OK:=⟨a0,a1,fun i=>by
      have:=hw.ok.p i
      unfold Win.add
      dsimp only
      split
      ·exact this.two hx
      ·exact this⟩
    refine Zcy (fun _ hh=>∃ f'' n'' rem L,ZdQ hh mb (sz h9) f'' n'' rem L∧(∀ i,bkt k at_ - k.cnt<i→f'' i=f' i)∧(∀ i v,f'' i=some v→f' i=some v)∧obj hh wb=some (.cells [iv k.len,iv k.cnt,iv at_,.map (some mb)].toArray 242 (0,0))∧Upd (fun j=>j=wb∨j=mb) h hh)
      (fun _ hh=>Ztk hh mb (sz h9)) ⟨f',n',_,_,hr10,fun _ _=>rfl,fun _ _ hv=>hv,Zl c9 e10,u9.trans (e10.upd _)⟩ ?_
    rintro _ h11 ⟨f'',n'',rem,L,hr,hf1,hf2,c11,u11⟩
    have hsz9:sz h≤sz h9:=u9.size
    refine Zg6 (fun s h12=>(s.1=true∧∃ kk rem' L',ZcI h12 mb (sz h9) f'' n'' rem' L' kk∧L'<L∧obj h12 wb=some (.cells [iv k.len,iv k.cnt,iv at_,.map (some mb)].toArray 242 (0,0))∧Upd (fun j=>j=wb∨j=mb) h h12)∨(s.1=false∧h12=h11)) ?_ ?_
    ·rintro ⟨b,_⟩ h12 (⟨hb,kk,rem',L',hra,hL,c12,u12⟩ | ⟨hb,rfl⟩)
     ·simp only at hb
      subst hb
      refine YL (hra.ent fun v hv=>⟨kk,rfl,?_⟩)
      obtain ⟨y,rfl,hy⟩:=hfv9 _ _ (hf2 _ _ hv)
      refine ⟨y,rfl,?_⟩
      simp (maxDischargeDepth:=60) only [Ye,Yd,evC,Nqa,Nqb,Nqc,Nqd,Nqe,reduceCtorEq,c12]
      refine Zu (fun q=>?_) fun q=>?_
      ·refine hra.del fun h13 n13 hr13 u13 z13=>⟨⟨_,_,_,_,hr13,fun i hi=>?_,fun i v hv=>?_,Ztl c12 u13 hne,u12.trans (u13.mono fun j _ hj=> .inr hj)⟩,?_⟩
       ·rw [XH (by omega) (by omega)] at q
        rw [Zhf _ _ (by omega)]
        exact hf1 i hi
       ·unfold upd at hv
        split at hv
        ·cases hv
        ·exact hf2 i v hv
       ·rw [Zhx hr13,Zhx hr];exact hL
      ·exact ⟨⟨_,_,_,_,hra.go,hf1,hf2,u12⟩,by rw [Zhx hra.go,Zhx hr];exact hL⟩
     ·simp only at hb
      subst hb
      refine Zz ?_
      refine hk _ ⟨okw,c11,f'',n'',hr.map,fun i v hv=>hfv9 i v (hf2 i v hv),fun i hi=>?_⟩ u11
      rw [hf1 i hi]
      exact hfp9 i hi
    ·refine hr.next (fun _=>?_) fun kk v h12 L' hk1 hv hra hL u12 z12=>?_
     ·exact .inr ⟨rfl,rfl⟩
     ·have hwi:wb≠sz h9:=by omega
      exact .inl ⟨rfl,kk,_,L',hra,hL,Ztl c11 u12 hwi,⟨Nat.le_trans u11.size u12.size,fun j hj hn=>(u12.old j (Nat.lt_of_lt_of_le hj u11.size) (fun e=>by have:j<sz h:=hj;omega)).trans (u11.old j hj hn)⟩⟩
   ·have ck:Z7 3 (obj h2 wb)=some (.map (some mb)):=by rw [c3'];rfl
    have l2:=Zr c3'
    simp (maxDischargeDepth:=60) only [Ye,Yd,evC,Nqa,Nqb,Nqc,Nqd,Nqe,reduceCtorEq,c3']
    have hfk:(f (bkt k at_)).getD (.agg #[iv 0,iv 0,iv 0,iv 0,iv 0,iv 0])=c6V (w.p (bkt k at_)):=by
      rcases hfp (bkt k at_) (by omega) with e | ⟨e,ep⟩
      ·rw [e];rfl
      ·rw [e,ep];rfl
    have hpk:=hw.ok.p (bkt k at_)
    refine hm2.get (bkt k at_) ⟨w.p (bkt k at_),hfk,?_⟩
    rw [← zz2]
    have ho:Own (h2.push (.cells [iv (w.p (bkt k at_)).1,iv (w.p (bkt k at_)).2.1,iv (w.p (bkt k at_)).2.2.1,iv (w.p (bkt k at_)).2.2.2.1,iv (w.p (bkt k at_)).2.2.2.2.1,iv (w.p (bkt k at_)).2.2.2.2.2.1].toArray 169 (0,0))) (sz h2) ⟨some ⟨sz h2,0,none⟩,1,1⟩ 6 (c6L (w.p (bkt k at_))) :=
      Own.newC (h:=h2) (cells:=c6L (w.p (bkt k at_))) (t:=169) (size:=6) (n:=1) rfl (by decide)
    have hs2:Row h2 s 6 (c6L x):=(hs.congr fun b o hb _ hlb=>u1.old b hlb fun e=>by
      have:=hsb b (by simp [Sl.blk,hb])
      omega)
    refine (hs2.ext (Ext.push _ _)).rd (Own.app ho (by rw [hl];rfl) (by simp [c6L,ZgU]) rfl (by rw [hl];show (1+1)*48≤140737488355328;decide) (by rw [hl];show 1+1≤140737488355328;decide) (by rw [YV,Zc4];omega) fun t h4 ho4 hl4 hu4 hblk=>?_)
    have e4:Ext h2 h4:=(Ext.push h2 _).then hu4 fun j hj=>by
      simp [Sl.blk] at hj
      subst hj
      exact Nat.le_refl _
    refine Zqu ho4.row hpk hx fun h5 e5=>?_
    have e25:=e4.trans e5
    have c5:=Zl c3' e25
    have u5:Upd (fun j=>j=wb∨j=mb) h h5:=u1.trans (e25.upd _)
    have hm5:Zet h5 mb f n:=hm2.congr (Z6 e25 hm2.lt)
    have pr:=hpk.two hx
    have l5:=Zr c5
    have lm5:=hm5.lt
    generalize hpv:Zgb (w.p (bkt k at_)) x=pv at pr ⊢
    have old:∀ i,bkt k at_ - k.cnt<i→i≠bkt k at_→f i=some (c6V ((w.add k at_ x).p i))∨(f i=none∧(w.add k at_ x).p i=z6):=fun i hi hne=>by
      have:(w.add k at_ x).p i=w.p i:=if_neg hne
      rw [this]
      exact hfp i (by omega)
    have new:(w.add k at_ x).p (bkt k at_)=pv:=(if_pos rfl).trans hpv
    simp (maxDischargeDepth:=60) only [Ye,Yd,evC,Nqa,Nqb,Nqc,Nqd,Nqe,reduceCtorEq,c6L,c5,Zig l5,ZdW l5,Ztj l5,ZpM l5]
    have u6:Upd (fun j=>j=wb∨j=mb) h (Zd.puts (h5.push (.cells [iv 0,iv 0,iv 0,iv 0,iv 0,iv 0].toArray 169 (0,0))) (sz h5) 0 [iv pv.1,iv pv.2.1,iv pv.2.2.1,iv pv.2.2.2.1,iv pv.2.2.2.2.1,iv pv.2.2.2.2.2.1]) :=
      ZcL (ZeA u5) (.inl (by have:sz h≤sz h5:=u5.size;omega))
    have hm6:Zet (Zd.puts (h5.push (.cells [iv 0,iv 0,iv 0,iv 0,iv 0,iv 0].toArray 169 (0,0))) (sz h5) 0 [iv pv.1,iv pv.2.1,iv pv.2.2.1,iv pv.2.2.2.1,iv pv.2.2.2.2.1,iv pv.2.2.2.2.2.1]) mb f n :=
      hm5.congr ((ZfF (by have:=lm5;simp only [YV] at this;omega)).trans (Zgl lm5))
    have c6_:obj (Zd.puts (h5.push (.cells [iv 0,iv 0,iv 0,iv 0,iv 0,iv 0].toArray 169 (0,0))) (sz h5) 0 [iv pv.1,iv pv.2.1,iv pv.2.2.1,iv pv.2.2.2.1,iv pv.2.2.2.2.1,iv pv.2.2.2.2.2.1]) wb=some (.cells [iv k.len,iv k.cnt,iv at_,.map (some mb)].toArray 242 (0,0)):=by
      simp (maxDischargeDepth:=60) only [Ye,Yd,evC,Nqa,Nqb,Nqc,Nqd,Nqe,reduceCtorEq,c5,ZdW l5]
    have zz6:∀ c:C6,(bif c.1 ==0 then (bif c.2.1 ==0 then (bif c.2.2.1 ==0 then (bif c.2.2.2.1 ==0 then (bif c.2.2.2.2.1 ==0 then (bif c.2.2.2.2.2.1 ==0 then true else false) else false) else false) else false) else false) else false)=decide (c=z6):=fun c=>by
      obtain ⟨c1,c2,c3,c4,c5,c6,u⟩:=c
      simp only [z6,Prod.mk.injEq,Bool.cond_eq_ite,beq_iff_eq]
      by_cases h1:c1=0<;>by_cases h2:c2=0<;>by_cases h3:c3=0<;>by_cases h4:c4=0<;>by_cases h5:c5=0<;>by_cases h6:c6=0<;>simp [h1,h2,h3,h4,h5,h6]
    rw [zz6 pv]
    rcases Decidable.em (pv=z6) with h0 | h0
    ·refine Zi (by simp [h0]) ?_
     refine ⟨f,n,hm6,hfv,fun i hi=>?_,u6⟩
     by_cases hik:i=bkt k at_
     ·subst hik
      rw [new,h0]
      rcases hfp (bkt k at_) (by omega) with e | ⟨e,ep⟩
      ·have:w.p (bkt k at_)=z6:=Zvk hpk hx (hpv.trans h0)
       rw [this] at e
       exact .inl e
      ·exact .inr ⟨e,rfl⟩
     ·exact old i hi hik
    ·refine Zt (by simp [h0]) ?_
     refine hm6.put (bkt k at_) (c6V pv) fun h7 hm7 u7 z7=>⟨_,_,hm7,fun i v hv=>?_,fun i hi=>?_,Ztl c6_ u7 hne,u6.trans (u7.mono fun j _ hj=> .inr hj)⟩
     ·unfold upd at hv
      split at hv
      ·cases hv;exact ⟨pv,rfl,pr⟩
      ·exact hfv i v hv
     ·by_cases hik:i=bkt k at_
      ·subst hik
       rw [Zez,new]
       exact .inl rfl
      ·rw [Zhf _ _ hik]
       exact old i hi hik
def Zkp (p:Int→C6) (cur:Int):Nat→Int→Int→Int
  | 0,_,acc=>acc
  | n+1,i,acc=>Zkp p cur n (i+1) (if i=cur then acc else Zl6 acc (p i).1)
def Zdm (p:Int→C6) (cur lo i:Int):Int:=Zkp p cur (i - lo).toNat lo 0
theorem Zjn (p:Int→C6) (cur:Int):∀ (n:Nat) (i acc:Int),Zkp p cur (n+1) i acc=if i+n=cur then Zkp p cur n i acc else Zl6 (Zkp p cur n i acc) (p (i+n)).1
  | 0,i,acc=>by simp [Zkp]
  | n+1,i,acc=>by
    have:=Zjn p cur n (i+1) (if i=cur then acc else Zl6 acc (p i).1)
    show Zkp p cur (n+1) (i+1) _=_
    rw [this,show i+1+(n:Int)=i+((n+1:Nat):Int) from by omega]
    rfl
theorem Zf2 (p:Int→C6) (cur:Int) {lo i:Int} (h:lo≤i):Zdm p cur lo (i+1)=if i=cur then Zdm p cur lo i else Zl6 (Zdm p cur lo i) (p i).1:=by
  unfold Zdm
  rw [show (i+1 - lo).toNat=(i - lo).toNat+1 from by omega,Zjn,show lo+((i - lo).toNat:Int)=i from by omega]
theorem ZpL (p:Int→C6) (cur lo:Int):Zdm p cur lo lo=0:=by unfold Zdm;simp [Zkp]
theorem ZmK {p:Int→C6} {cur:Int}:∀ (n:Nat) (i acc:Int),0≤acc→0≤Zkp p cur n i acc
  | 0,i,acc,h=>h
  | n+1,i,acc,h=>ZmK n (i+1) _ (by split;exact h;rw [Zl5];omega)
def Win.most (k:Wid) (w:Win) (at_:Int):Int:=Zdm w.p (bkt k at_) (loW k at_) (bkt k at_+1)
theorem ZjK {k:Wid} {h:Zd} {wb:Nat} {r:List Value} (hc:obj h wb=some (.cells (iv k.len::iv k.cnt::r).toArray 242 (0,0))) {at_:Int} {K:Int→Zd→Prop} :
    ZU (some ⟨wb,0,none⟩) at_ K h=K (IntKind.wrap .i64 (Int.tdiv at_ k.wid)) h:=by
  unfold ZU X1
  have n1:k.cnt≠0:=by have:=k.c0;omega
  have n2:k.wid≠0:=by have:=k.w0;omega
  simp (maxDischargeDepth:=60) only [Ye,Yd,evC,Nqa,Nqb,Nqc,Nqd,Nqe,reduceCtorEq,hc,k.e]
  simp [n1,n2]
theorem Zqg {k:Wid} {at_ i:Int} (h0:0≤i) (hi:i≤bkt k at_) (ha:0≤at_) (ha2:at_≤1152921504606846976):IntKind.wrap .i64 (Int.tdiv (IntKind.wrap .i64 (i*k.wid)) k.wid)=i:=by
  have k0:=k.w0
  have h1:i*k.wid≤at_:=Int.le_trans (Int.mul_le_mul_of_nonneg_right hi (by omega)) (Int.ediv_mul_le at_ (by omega))
  have h2:0≤i*k.wid:=Int.mul_nonneg h0 (by omega)
  have hb:=Zfx (k:=k) ha ha2
  rw [XH (n:=i*k.wid) (by omega) (by omega),Int.mul_tdiv_cancel _ (by omega),XH (by omega) (by omega)]
theorem ZlF {k:Wid} {h:Zd} {wb mb:Nat} {w:Win} (hw:Zhs k h wb mb w) {at_:Int} {K:Int→Int→Zd→Prop}
    (hk:∀ h',Ext h h'→K (if Yw w.last at_=0 then w.most k at_ else 0) (Yw w.last at_) h'):YP (some ⟨wb,0,none⟩) at_ K h:=by
  unfold YP ZbC
  have l3:=Zr hw.cells
  have l4:=hw.mlt
  simp (maxDischargeDepth:=60) only [Ye,Yd,evC,Nqa,Nqb,Nqc,Nqd,Nqe,reduceCtorEq]
  refine ZgF (hw.congr (by simp (maxDischargeDepth:=60) only [Ye,Yd,evC,Nqa,Nqb,Nqc,Nqd,Nqe,reduceCtorEq,ZdW l3,Zig l3]) (by simp (maxDischargeDepth:=60) only [Ye,Yd,evC,Nqa,Nqb,Nqc,Nqd,Nqe,reduceCtorEq,ZdW l4,Zig l4])) ?_
  rcases Decidable.em (Yw w.last at_=0) with he | he
  ·rw [if_pos he] at hk
   rw [he] at hk ⊢
   obtain ⟨a0,a1,a2⟩:=Ze2 he
   have hbk:=Zfx (k:=k) a0 a1
   simp (maxDischargeDepth:=60) only [Ye,Yd,evC,Nqa,Nqb,Nqc,Nqd,Nqe,reduceCtorEq,bne_self_eq_false,Zqj,ZhY]
   intro r
   have hlo:loW k at_≤bkt k at_+1:=by have:=k.c0;unfold loW;omega
   have hlo0:0≤loW k at_:=by unfold loW;omega
   have n3:=Zig l3
   have n30:=ZdW l3
   have n4:=Zig l4
   have n40:=ZdW l4
   refine ZmZ (w:=w) (at_:=at_) (wb:=wb) (mb:=mb) (hw.congr ?_ ?_) ?_ ?_ he (S:=fun k=>k=sz h+2∨k=sz h+6) ?_ ?_ ?_ ?_ ?_
     (fun i hh=>obj hh (sz h+6)=some (ZaR r .ready none)∧obj hh (sz h+5)=some (.deferred (some []))∧obj hh (sz h+2)=some (.cells [iv (Zdm w.p (bkt k at_) (loW k at_) i)].toArray 3 (0,0)) ∧
       obj hh (sz h)=some (.cells [.pointer (some ⟨wb,0,none⟩)].toArray 162 (0,0))∧obj hh (sz h+1)=some (.cells [iv at_].toArray 3 (0,0))∧obj hh wb=some (.cells [iv k.len,iv k.cnt,iv w.last,.map (some mb)].toArray 242 (0,0))∧Ext h hh∧loW k at_≤i) (T1:=162) (T2:=3) ?_ ?_ ?_ ?_ ?_
   ·simp (maxDischargeDepth:=60) only [Ye,Yd,evC,Nqa,Nqb,Nqc,Nqd,Nqe,reduceCtorEq,n3,n30]
   ·simp (maxDischargeDepth:=60) only [Ye,Yd,evC,Nqa,Nqb,Nqc,Nqd,Nqe,reduceCtorEq,n4,n40]
   ·simp (maxDischargeDepth:=60) only [Ye,Yd,evC,Nqa,Nqb,Nqc,Nqd,Nqe,reduceCtorEq]
   ·simp (maxDischargeDepth:=60) only [Ye,Yd,evC,Nqa,Nqb,Nqc,Nqd,Nqe,reduceCtorEq]
   ·intro k hk9
    simp (maxDischargeDepth:=60) only [Ye,Yd,evC,Nqa,Nqb,Nqc,Nqd,Nqe,reduceCtorEq]
    omega
   ·omega
   ·omega
   ·omega
   ·omega
   ·rintro i hh h' ⟨j1,j2,j3,j4,j5,j6,j7,j8⟩ e
    exact ⟨Zl j1 e,Zl j2 e,Zl j3 e,Zl j4 e,Zl j5 e,Zl j6 e,j7.trans e,j8⟩
   ·rintro i hh ⟨j1,j2,j3,j4,j5,j6,j7,j8⟩ hp
    have hq:Zdm w.p (bkt k at_) (loW k at_) (i+1)=Zdm w.p (bkt k at_) (loW k at_) i:=by
      rw [Zf2 _ _ j8,hp]
      split
      ·rfl
      ·have:=ZmK (p:=w.p) (cur:=bkt k at_) (i - loW k at_).toNat (loW k at_) 0 (by omega)
       rw [Zl5]
       show max (Zdm _ _ _ _) 0=_
       unfold Zdm
       omega
    rw [hq]
    exact ⟨j1,j2,j3,j4,j5,j6,j7,by omega⟩
   ·rintro i hh K9 hib ⟨j1,j2,j3,j4,j5,j6,j7,j8⟩ hu hK9
    rw [ZkZ]
    refine ⟨rfl,rfl,j1,⟨((IntKind.wrap .i64 (i*k.wid),w.p i),()),rfl,?_⟩⟩
    have g1:=Zr j1
    have g2:=Zr j2
    have g3:=Zr j3
    have g4:=Zr j4
    have g5:sz h+6<sz hh+1:=by omega
    have nn:∀ j,j≤6→(sz h+j=sz hh)=False∧(sz hh=sz h+j)=False:=fun j hj=>⟨eq_false (by omega),eq_false (by omega)⟩
    have m0:(sz h=sz hh)=False:=eq_false (by omega)
    have m0':(sz hh=sz h)=False:=eq_false (by omega)
    have m1:=nn 1 (by omega)
    have m2:=nn 2 (by omega)
    have m6:=nn 6 (by omega)
    have mw:(wb=sz hh)=False:=eq_false (by omega)
    have mw6:(wb=sz h+6)=False:=eq_false (by omega)
    simp (maxDischargeDepth:=60) only [Ye,Yd,evC,Nqa,Nqb,Nqc,Nqd,Nqe,reduceCtorEq,ZkF,YH,YN,j1,j3,j4,j5,m0,m0',m1.1,m1.2,m2.1,m2.2,m6.1,m6.2,c6L,g5]
    refine (ZjK (k:=k) (r:=[iv w.last,.map (some mb)]) ?_).mpr ?_
    ·simp (maxDischargeDepth:=60) only [Ye,Yd,evC,Nqa,Nqb,Nqc,Nqd,Nqe,reduceCtorEq,YH,YN,j6,mw,mw6,g5]
    simp (maxDischargeDepth:=60) only [Ye,Yd,evC,Nqa,Nqb,Nqc,Nqd,Nqe,reduceCtorEq,YH,YN,j1,j3,j4,j5,m0,m0',m1.1,m1.2,m2.1,m2.2,m6.1,m6.2,c6L,g5]
    refine (ZjK (k:=k) (r:=[iv w.last,.map (some mb)]) ?_).mpr ?_
    ·simp (maxDischargeDepth:=60) only [Ye,Yd,evC,Nqa,Nqb,Nqc,Nqd,Nqe,reduceCtorEq,YH,YN,j6,mw,mw6,g5]
    rw [ZmD a0 a1,Zqg (by omega) hib a0 a1]
    refine Zdt (fun q=>?_) fun q=>?_
    ·have hq:Zdm w.p (bkt k at_) (loW k at_) (i+1)=Zl6 (Zdm w.p (bkt k at_) (loW k at_) i) (w.p i).1:=by rw [Zf2 _ _ j8,if_neg q]
     simp (maxDischargeDepth:=60) only [Ye,Yd,evC,Nqa,Nqb,Nqc,Nqd,Nqe,reduceCtorEq,YH,YN,j1,j2,j3,j4,j5,j6,mw,mw6,m0,m0',m1.1,m1.2,m2.1,m2.2,m6.1,m6.2,g5]
     rw [← hq]
     have nm:(sz h=sz h+6)=False∧(sz h+1=sz h+6)=False:=⟨eq_false (by omega),eq_false (by omega)⟩
     refine hK9 _ ⟨?_,?_,?_,?_,?_,?_,?_,by omega⟩ ?_
     ·simp (maxDischargeDepth:=60) only [Ye,Yd,evC,Nqa,Nqb,Nqc,Nqd,Nqe,reduceCtorEq,YH,YN,g5]
     ·have m5:=nn 5 (by omega)
      simp (maxDischargeDepth:=60) only [Ye,Yd,evC,Nqa,Nqb,Nqc,Nqd,Nqe,reduceCtorEq,YH,YN,g5,j2,m5.1,m5.2]
     ·simp (maxDischargeDepth:=60) only [Ye,Yd,evC,Nqa,Nqb,Nqc,Nqd,Nqe,reduceCtorEq,YH,YN,g5,j3,m2.1,m2.2]
     ·simp (maxDischargeDepth:=60) only [Ye,Yd,evC,Nqa,Nqb,Nqc,Nqd,Nqe,reduceCtorEq,YH,YN,g5,j4,m0,m0']
     ·simp (maxDischargeDepth:=60) only [Ye,Yd,evC,Nqa,Nqb,Nqc,Nqd,Nqe,reduceCtorEq,YH,YN,g5,j5,m1.1,m1.2]
     ·have mw2:(wb=sz h+2)=False:=eq_false (by omega)
      simp (maxDischargeDepth:=60) only [Ye,Yd,evC,Nqa,Nqb,Nqc,Nqd,Nqe,reduceCtorEq,YH,YN,g5,j6,mw,mw6,mw2]
     ·exact ZcW (Zmg (ZcW (Zcp (Zah j7) (by omega)) (by omega)) (by omega)) (by omega)
     ·exact ZdT (Zpd (ZdT (ZcL (ZeA (Upd.refl _ _)) (.inl (by omega))) (.inr (.inr rfl))) (.inr (.inl rfl))) (.inr (.inr rfl))
    ·have hq:Zdm w.p (bkt k at_) (loW k at_) (i+1)=Zdm w.p (bkt k at_) (loW k at_) i:=by rw [Zf2 _ _ j8,if_pos q]
     simp (maxDischargeDepth:=60) only [Ye,Yd,evC,Nqa,Nqb,Nqc,Nqd,Nqe,reduceCtorEq,YH,YN,j1,j2,j3,j4,j5,j6,mw,mw6,m0,m0',m1.1,m1.2,m2.1,m2.2,m6.1,m6.2,g5]
     refine hK9 _ ⟨?_,?_,?_,?_,?_,?_,?_,by omega⟩ ?_
     ·simp (maxDischargeDepth:=60) only [Ye,Yd,evC,Nqa,Nqb,Nqc,Nqd,Nqe,reduceCtorEq,YH,YN,g5]
     ·have m5:=nn 5 (by omega)
      simp (maxDischargeDepth:=60) only [Ye,Yd,evC,Nqa,Nqb,Nqc,Nqd,Nqe,reduceCtorEq,YH,YN,g5,j2,m5.1,m5.2]
     ·simp (maxDischargeDepth:=60) only [Ye,Yd,evC,Nqa,Nqb,Nqc,Nqd,Nqe,reduceCtorEq,YH,YN,g5,j3,m2.1,m2.2,hq]
     ·simp (maxDischargeDepth:=60) only [Ye,Yd,evC,Nqa,Nqb,Nqc,Nqd,Nqe,reduceCtorEq,YH,YN,g5,j4,m0,m0']
     ·simp (maxDischargeDepth:=60) only [Ye,Yd,evC,Nqa,Nqb,Nqc,Nqd,Nqe,reduceCtorEq,YH,YN,g5,j5,m1.1,m1.2]
     ·simp (maxDischargeDepth:=60) only [Ye,Yd,evC,Nqa,Nqb,Nqc,Nqd,Nqe,reduceCtorEq,YH,YN,g5,j6,mw,mw6]
     ·exact ZcW (ZcW (Zcp (Zah j7) (by omega)) (by omega)) (by omega)
     ·exact ZdT (ZdT (ZcL (ZeA (Upd.refl _ _)) (.inl (by omega))) (.inr (.inr rfl))) (.inr (.inr rfl))
   ·simp (maxDischargeDepth:=60) only [Ye,Yd,evC,Nqa,Nqb,Nqc,Nqd,Nqe,reduceCtorEq,ZpL,Int.le_refl,hw.cells,n3,n30]
   ·rintro hh ⟨j1,j2,j3,j4,j5,j6,j7,j8⟩ hu
    refine ⟨.ready,none,by decide,j1,?_⟩
    have g1:=Zr j1
    have g2:=Zr j2
    rw [Zgs]
    simp (maxDischargeDepth:=60) only [Ye,Yd,evC,Nqa,Nqb,Nqc,Nqd,Nqe,reduceCtorEq,YH,YN,Zkd,j1,j2,j3,j4,g1,g2]
    exact hk _ (ZcW (ZcW j7 (by omega)) (by omega))
  ·have:(Yw w.last at_ !=0)=true:=by simpa using he
   rw [this]
   rw [if_neg he] at hk
   simp (maxDischargeDepth:=60) only [Ye,Yd,evC,Nqa,Nqb,Nqc,Nqd,Nqe,reduceCtorEq]
   exact hk _ (by simp (maxDischargeDepth:=60) only [Ye,Yd,evC,Nqa,Nqb,Nqc,Nqd,Nqe,reduceCtorEq])
theorem Zl8 {h:Zd} {mb:Nat} {f:Int→Option Value} {n:Nat} (hp:Zet h mb f n) {K:Option Nat→Zd→Prop} (hk:∀ h',Zet h' (sz h) f n→Ext h h'→sz h'=sz h+1→K (some (sz h)) h'):ZL (some mb) K h:=by
  unfold ZL Yo
  obtain ⟨es,c,hb,hks⟩:=hp
  exact Zz ⟨240,mb,es,c,rfl,hb,_,rfl,_,rfl,hk (h.push (.map es c)) ⟨es,c,ZdU,hks⟩ (Ext.push _ _) Zc4⟩
theorem ZjS {k:Wid} {h:Zd} {wb mb:Nat} {w:Win} (hw:Zhs k h wb mb w) {K:Option Addr→Zd→Prop} (hk:∀ h',Zhs k h' (sz h) (sz h+1) w→Ext h h'→sz h'=sz h+2→K (some ⟨sz h,0,none⟩) h'):XJ (some ⟨wb,0,none⟩) K h:=by
  unfold XJ ZbD
  have l3:=Zr hw.cells
  have l4:=hw.mlt
  have c:=hw.cells
  refine Zz (Zj (rI (Zb c rfl) (rI (Zb c rfl) (rI (Zb c rfl) (rM (Zb c rfl) (Yg fun h1 c1 e1 z1=>?_))))))
  refine ZaE c1 fun h2 c2 u2 z2=>?_
  have e2:Ext h h2:=e1.then u2 fun k hk=>by simp only [hk,YV];exact Nat.le_refl _
  have cc2:=Zl c e2
  refine Zj (rM (Zb cc2 rfl) ?_)
  obtain ⟨f,n,hm,r⟩:=hw.map
  refine Zl8 (hm.congr (Z6 e2 hm.lt)) fun h3 hm3 e3 z3=>?_
  have c3:=Zl c2 e3
  refine ZdD c3 (show 3<4 by decide) rfl fun h4 c4 u4 z4=>?_
  have zz:sz h2=sz h+1:=by have:h1.size=h.size+1:=z1;simp only [YV] at this;omega
  rw [zz] at hm3 z3
  refine hk _ ⟨hw.ok,?_,f,n,hm3.congr (u4.old _ (by simp only [YV];omega) (by simp only [YV];omega)),r⟩ ((e2.trans e3).then u4 fun k hk=>by simp only [hk,YV];exact Nat.le_refl _) (by omega)
  rw [zz] at c4
  exact c4
structure Node where
  last:Int
  s:Int→C6
  d:Int→C6
  fl:Int
def Node.zero:Node:=⟨0,fun _=>z6,fun _=>z6,0⟩
structure Zes (h:Zd) (nb a ma b mb:Nat) (n:Node):Prop where
  cells:obj h nb=some (.cells [.pointer (some ⟨a,0,none⟩),.pointer (some ⟨b,0,none⟩),iv n.fl].toArray 179 (0,0))
  ws:Zhs .sec h a ma ⟨n.last,n.s⟩
  wd:Zhs .dbl h b mb ⟨n.last,n.d⟩
  fl:0≤n.fl∧n.fl≤4096
def Zc2 (h:Zd) (q:Nat) (n:Node):Prop:=Zes h (q+4) (q+1) q (q+3) (q+2) n
theorem Zc2.congr {h h':Zd} {q:Nat} {n:Node} (hn:Zc2 h q n) (he:∀ j,q≤j→j<q+5→obj h' j=obj h j):Zc2 h' q n :=
  ⟨(he _ (by omega) (by omega)).trans hn.cells,hn.ws.congr (he _ (by omega) (by omega)) (he _ (by omega) (by omega)),hn.wd.congr (he _ (by omega) (by omega)) (he _ (by omega) (by omega)),hn.fl⟩
theorem Zc2.lt {h:Zd} {q:Nat} {n:Node} (hn:Zc2 h q n):q+4<sz h:=Zr hn.cells
theorem Zc2.ext {h h':Zd} {q:Nat} {n:Node} (hn:Zc2 h q n) (he:Ext h h'):Zc2 h' q n:=hn.congr fun j _ hj=>Z6 he (by have:=hn.lt;omega)
theorem ZnO {h:Zd} {K:Option Addr→Zd→Prop} (hk:∀ h',Zc2 h' (sz h) Node.zero→Ext h h'→sz h'=sz h+5→K (some ⟨sz h+4,0,none⟩) h'):Zem K h:=by
  unfold Zem Zg5
  refine Zf1 (k:= .sec) (by decide) (by decide) fun h1 w1 e1 z1=>Za ?_
  refine Zf1 (k:= .dbl) (by decide) (by decide) fun h2 w2 e2 z2=>Za (Yg fun h3 c3 e3 z3=>?_)
  have z3':sz h3=sz h2+1:=z3
  have c3':obj h3 (sz h2)=_:=c3
  simp only [YV]
  rw [z1] at w2 c3'
  rw [z2,z1] at c3' ⊢
  refine hk h3 ⟨?_,(w1.congr (Z6 e2 (by omega)) (Z6 e2 (by omega))).congr (Z6 e3 (by omega)) (Z6 e3 (by omega)),w2.congr (Z6 e3 (by omega)) (Z6 e3 (by omega)),by decide⟩ ((e1.trans e2).trans e3) (by omega)
  exact c3'
theorem Zes.ext {h h':Zd} {nb a ma b mb:Nat} {n:Node} (hn:Zes h nb a ma b mb n) (he:Ext h h'):Zes h' nb a ma b mb n :=
  ⟨Zl hn.cells he,hn.ws.congr (Z6 he (Zr hn.ws.cells)) (Z6 he hn.ws.mlt),hn.wd.congr (Z6 he (Zr hn.wd.cells)) (Z6 he hn.wd.mlt),hn.fl⟩
def Node.sum (n:Node) (at_:Int):C6:=if Yw n.last at_=0 then Win.sum .sec ⟨n.last,n.s⟩ at_ else z6
theorem Zqs {h:Zd} {nb a ma b mb:Nat} {n:Node} (hn:Zes h nb a ma b mb n) {at_:Int} {K:C6→Int→Zd→Prop} (hk:∀ h',Ext h h'→K (n.sum at_) (Yw n.last at_) h'):Yu (some ⟨nb,0,none⟩) at_ K h:=by
  unfold Yu Zcl
  refine Yg fun h1 c1 e1 z1=>Za (Zz (Zj ?_))
  have hn1:=hn.ext e1
  refine rP (Zb hn1.cells rfl) (Zm3 hn1.ws fun h2 e2=>?_)
  have c2:=Zl c1 e2
  refine ZaE c2 fun h3 c3 u3 z3=>Za ?_
  have e3:Ext h h3:=(e1.trans e2).then u3 fun k hk=>by subst hk;exact Nat.le_refl _
  exact rI (Zb c3 rfl) (rI (Zb c3 rfl) (rI (Zb c3 rfl) (rI (Zb c3 rfl) (rI (Zb c3 rfl) (rI (Zb c3 rfl) (hk h3 e3))))))
def Node.past (n:Node) (at_:Int):Int:=if Yw n.last at_=0 then Win.most .dbl ⟨n.last,n.d⟩ at_ else 0
def Node.most (n:Node) (at_:Int):Int:=if Yw n.last at_=0 then Win.most .sec ⟨n.last,n.s⟩ at_ else 0
theorem Zqr {h:Zd} {nb a ma b mb:Nat} {n:Node} (hn:Zes h nb a ma b mb n) {at_:Int} {K:Int→Int→Zd→Prop} (hk:∀ h',Ext h h'→K (n.past at_) (Yw n.last at_) h'):XC (some ⟨nb,0,none⟩) at_ K h:=by
  unfold XC ZbJ
  exact Za (Za (Zz (Zj (rP (Zb hn.cells rfl) (ZlF hn.wd fun h' e'=>Za (Za (hk h' e')))))))
theorem ZnQ {h:Zd} {nb a ma b mb:Nat} {n:Node} (hn:Zes h nb a ma b mb n) {at_:Int} {K:Int→Int→Zd→Prop} (hk:∀ h',Ext h h'→K (n.most at_) (Yw n.last at_) h'):XD (some ⟨nb,0,none⟩) at_ K h:=by
  unfold XD ZbK
  exact Za (Za (Zz (Zj (rP (Zb hn.cells rfl) (ZlF hn.ws fun h' e'=>Za (Za (hk h' e')))))))
theorem Zga {h:Zd} {nb a ma b mb:Nat} {n:Node} (hn:Zes h nb a ma b mb n) {K:Int→Zd→Prop} (hk:K n.fl h):ZY (some ⟨nb,0,none⟩) K h:=by
  unfold ZY Zbg
  exact Za (Zz (Zj (rI (Zb hn.cells rfl) (Za hk))))
theorem ZfA {K:Int→Zd→Prop} {h:Zd} (hk:K 0 h):ZY none K h:=by
  unfold ZY Zbg
  exact Za (YL (Za hk))
theorem ZnR {h:Zd} {nb a ma b mb:Nat} {n:Node} (hn:Zes h nb a ma b mb n) {K:Option Addr→Zd→Prop} (hk:∀ h',Zes h' (sz h+4) (sz h) (sz h+1) (sz h+2) (sz h+3) n→Ext h h'→sz h'=sz h+5→K (some ⟨sz h+4,0,none⟩) h'):XE (some ⟨nb,0,none⟩) K h:=by
  unfold XE ZbL
  refine Zz (Zj (Zj (Zj (rP (Zb hn.cells rfl) (rP (Zb hn.cells rfl) (rI (Zb hn.cells rfl) ?_))))))
  refine ZjS hn.ws fun h1 w1 e1 z1=>?_
  have hn1:=hn.ext e1
  refine ⟨YM (Zb hn1.cells rfl),YM (Zb hn1.cells rfl),ZjS hn1.wd fun h2 w2 e2 z2=>?_⟩
  have hn2:=hn1.ext e2
  refine ⟨YM (Zb hn2.cells rfl),Yg fun h3 c3 e3 z3=>⟨YM (Zb (hn2.ext e3).cells rfl),?_⟩⟩
  simp only [YV] at z3 ⊢
  have c3':obj h3 (sz h2)=_:=c3
  rw [z1] at w2 c3'
  rw [z2,z1] at c3' ⊢
  exact hk h3 ⟨c3',(w1.congr (Z6 e2 (by omega)) (Z6 e2 (by omega))).congr (Z6 e3 (by omega)) (Z6 e3 (by omega)),w2.congr (Z6 e3 (by omega)) (Z6 e3 (by omega)),hn.fl⟩ ((e1.trans e2).trans e3) (by omega)
theorem Zmu {h:Zd} {K:Option Addr→Zd→Prop} (hk:K none h):XE none K h:=by
  unfold XE ZbL
  exact YL hk
def Node.add (n:Node) (at_:Int) (x:C6):Node:=⟨at_,(Win.add .sec ⟨n.last,n.s⟩ at_ x).p,(Win.add .dbl ⟨n.last,n.d⟩ at_ x).p,n.fl⟩
theorem Zh6 {h:Zd} {q:Nat} {n:Node} (hn:Zc2 h q n) {at_:Int} (he:Yw n.last at_=0) {x:C6} (hx:Rt x) {s:Sl} (hs:Row h s 6 (c6L x)) (hsb:∀ b,s.blk=some b→b<q∨q+5≤b) {K:Zd→Prop}
    (hk:∀ h',Zc2 h' q (n.add at_ x)→Upd (fun j=>q≤j∧j<q+5) h h'→K h'):YW (some ⟨q+4,0,none⟩) at_ s K h:=by
  unfold YW Zdb
  refine Zj (rP (Zb hn.cells rfl) ?_)
  refine ZkM hn.ws hx hs (fun b hb=>by have:=hsb b hb;omega) fun h1 w1 u1=>?_
  have lt:=hn.lt
  rw [if_pos he] at w1
  have k1:∀ j,j<sz h→j≠q+1→j≠q→obj h1 j=obj h j:=fun j hj h9 h8=>u1.old j hj (by omega)
  have cc:obj h1 (q+4)=_:=(k1 _ (by omega) (by omega) (by omega)).trans hn.cells
  refine Zj (rP (Zb cc rfl) ?_)
  have hs1:Row h1 s 6 (c6L x):=hs.congr fun b o hb _ hl=>u1.old b hl (by have:=hsb b (by simp [Sl.blk,hb]);omega)
  have z1:=u1.size
  refine ZkM (hn.wd.congr (k1 _ (by omega) (by omega) (by omega)) (k1 _ (by omega) (by omega) (by omega))) hx hs1 (fun b hb=>by have:=hsb b hb;omega) fun h2 w2 u2=>?_
  rw [if_pos he] at w2
  have zz:sz h≤sz h1:=z1
  have k2:∀ j,j<sz h→j≠q+3→j≠q+2→obj h2 j=obj h1 j:=fun j hj h9 h8=>u2.old j (Nat.lt_of_lt_of_le hj zz) (by omega)
  refine hk h2 ⟨(k2 _ (by omega) (by omega) (by omega)).trans cc,w1.congr (k2 _ (by omega) (by omega) (by omega)) (k2 _ (by omega) (by omega) (by omega)),w2,hn.fl⟩ ?_
  exact (u1.mono fun j _ hj=>by omega).trans (u2.mono fun j _ hj=>by omega)
def Xx (last at_ c:Int):Int:=if at_<0∨1152921504606846976<at_ then 2 else if c<1∨1099511627776<c then 2 else if at_<last then 7 else 0
theorem ZmL {last at_ c:Int} (h:Xx last at_ c=0):Yw last at_=0∧1≤c∧c≤1099511627776:=by
  unfold Xx at h
  unfold Yw
  split at h
  ·cases h
  ·split at h
   ·cases h
   ·split at h
    ·cases h
    ·rw [if_neg (by omega),if_neg (by omega),if_neg (by omega)]
     omega
theorem ZgL {at_:Int} {K:Bool→Zd→Prop} {h:Zd} (hk:K (inB at_ 0 1152921504606846976) h):ZaH at_ K h:=by
  unfold ZaH ZeJ
  unfold inB at hk
  exact ⟨fun e=>by rw [e] at hk;exact Zc hk,fun e=>by rw [e] at hk;exact hk⟩
theorem Zjt {h:Zd} {nb a ma b mb:Nat} {n:Node} (hn:Zes h nb a ma b mb n) {at_ c:Int} {s:Sl} (hs:Row h s 1 [iv c]) {K:Int→Zd→Prop} (hk:K (Xx n.last at_ c) h):YE (some ⟨nb,0,none⟩) at_ s K h:=by
  unfold YE ZbI
  refine Za (Zz (ZgL ?_))
  have hl:s.len=1:=by have:=hs.len;simp at this;omega
  by_cases ht:at_<0∨1152921504606846976<at_
  ·have:inB at_ 0 1152921504606846976=false:=by unfold inB;simp;omega
   rw [this]
   unfold Xx at hk
   rw [if_pos ht] at hk
   exact YL (Za hk)
  have:inB at_ 0 1152921504606846976=true:=by unfold inB;simp;omega
  rw [this]
  refine Zz (YX (fun t h'=>∃ i:Nat,t=((i:Int),())∧h'=h∧(i=0∨(i=1∧¬ (c<1∨1099511627776<c)))) (fun t _=>(1 - t.1).toNat) ⟨0,rfl,rfl,.inl rfl⟩ ?_)
  rintro _ h' ⟨i,rfl,hh,hi⟩ Q hQ
  dsimp only
  subst hh
  refine Zu (fun q=>?_) fun q=>?_
  ·have hi0:i=0:=by omega
   subst hi0
   refine hs.idx (n:=0) (v:=iv c) rfl rfl fun b o _ hc=>⟨c,hc,Za ?_⟩
   unfold Xx at hk
   rw [if_neg ht] at hk
   refine Zu (fun q1=>Za ?_) fun q1=>Zu (fun q2=>Za ?_) fun q2=>hQ _ _ ⟨1,rfl,rfl,.inr ⟨rfl,by omega⟩⟩ ?_
   ·rw [if_pos (by omega)] at hk;exact hk
   ·rw [if_pos (by omega)] at hk;exact hk
   ·show (1 - (IntKind.wrap .i64 (((0:Nat):Int)+1))).toNat<(1 - ((0:Nat):Int)).toNat
    decide
  ·have hi1:¬ (c<1∨1099511627776<c):=by omega
   refine Zj (rP (Zb hn.cells rfl) ?_)
   unfold XI Zam
   refine Za (Zz (Zj (rI (Zb hn.ws.cells rfl) (Za ?_))))
   unfold Xx at hk
   rw [if_neg ht,if_neg hi1] at hk
   refine Zu (fun q2=>Za ?_) fun q2=>Za ?_
   ·rw [if_pos q2] at hk;exact hk
   ·rw [if_neg q2] at hk;exact hk
abbrev inN (q:Nat):Nat→Prop:=fun j=>q≤j∧j<q+5
def Zh2 (c:Int):C6:=(c,0,0,0,0,0,())
def ZfT (c:Int):C6:=(0,c,0,0,0,0,())
theorem Rt.pass {c:Int} (h:1≤c∧c≤1099511627776):Rt (Zh2 c):=⟨by simp only [Zh2];omega,by simp [Zh2],by simp [Zh2],by simp [Zh2],by simp [Zh2],by simp [Zh2],.inr rfl⟩
theorem Rt.block {c:Int} (h:1≤c∧c≤1099511627776):Rt (ZfT c):=⟨by simp [ZfT],by simp only [ZfT];omega,by simp [ZfT],by simp [ZfT],by simp [ZfT],by simp [ZfT],.inr rfl⟩
def Zpy (n:Node) (at_ c:Int):Int:=if Xx n.last at_ c=0 then (if 4096≤n.fl then 3 else 0) else Xx n.last at_ c
def Node.passed (n:Node) (at_ c:Int):Node:=if Zpy n at_ c=0 then ⟨at_,(n.add at_ (Zh2 c)).s,(n.add at_ (Zh2 c)).d,n.fl+1⟩ else n
def Node.blocked (n:Node) (at_ c:Int):Node:=if Xx n.last at_ c=0 then n.add at_ (ZfT c) else n
theorem Zvi {h h1 h2:Zd} {q:Nat} (e:Ext h h1) (u:Upd (inN q) h1 h2):Upd (inN q) h h2:=(e.upd _).trans u
theorem ZAX {h h1:Zd} {s:Sl} {c:Int} (hs:Row h s 1 [iv c]) (e:Ext h h1) {K:Nat→Nat→Prop} {i:Int} (hi:i=((0:Nat):Int)) {L:Nat} (hL:s.len=L) (hk:∀ b o,h1.cell b o=some (iv c)→K b o):Xy s.ptr L i 1 K :=
  hL▸(hs.ext e).idx (n:=0) (v:=iv c) hi rfl fun b o _ hc=>hk b (o+0) hc
theorem ZnP {h:Zd} {q:Nat} {n:Node} (hn:Zc2 h q n) {at_ c:Int} {s:Sl} (hs:Row h s 1 [iv c]) {K:Int→Zd→Prop}
    (hk:∀ h',Zc2 h' q (n.passed at_ c)→Upd (inN q) h h'→K (Zpy n at_ c) h'):ZaU (some ⟨q+4,0,none⟩) at_ s K h:=by
  unfold ZaU Zdc
  have hl:s.len=1:=by have:=hs.len;simp at this;omega
  refine Za (Zjt hn hs (Za ?_))
  unfold Node.passed at hk
  unfold Zpy at hk
  by_cases he:Xx n.last at_ c=0
  case neg =>
    rw [if_neg he,if_neg he] at hk
    exact Zt (by simpa using he) (Za (hk h hn (Upd.refl _ _)))
  rw [if_pos he] at hk
  rw [he]
  have hf:=hn.fl
  refine Zz (Zj (rI (Zb hn.cells rfl) ?_))
  rw [XH (n:=4096 - n.fl) (by omega) (by omega),hl]
  refine Zu (fun q1=>Za ?_) fun q1=>?_
  ·have hq:4096≤n.fl:=by have:((1:Nat):Int)>4096 - n.fl:=q1;omega
   rw [if_pos hq,if_neg (by decide)] at hk
   exact hk h hn (Upd.refl _ _)
  have hq:¬ 4096≤n.fl:=fun h9=>q1 (by show ((1:Nat):Int)>_;omega)
  rw [if_neg hq,if_pos rfl] at hk
  obtain ⟨hw,hc⟩:=ZmL he
  refine YX (fun t h'=>Ext h h'∧((t=(⟨none,0,0⟩,0,())∧h'=h)∨(t.2.1=1∧Own h' (sz h) t.1 6 (c6L (Zh2 c))))) (fun t _=>(1 - t.2.1).toNat) ⟨Ext.refl _,.inl ⟨rfl,rfl⟩⟩ ?_
  rintro ⟨l,i,u⟩ h' ⟨e',⟨ht,hh⟩ | ⟨ht,ho⟩⟩ Q hQ
  ·injection ht with ht1 ht2
   injection ht2 with ht2 ht3
   subst ht1
   subst ht2
   subst hh
   dsimp only
   refine YL (ZAX hs (Ext.refl _) rfl hl fun b o hb=>⟨c,hb,Za (Yg fun h1 c1 e1 z1=>(ZiR c1 rfl).rd ?_)⟩)
   refine (Own.nil h1 (sz h') 6).app (n:=1) rfl (by simp [ZgU]) rfl (by decide) (by decide) e1.size fun l2 h2 o2 _ u2 _=>hQ _ _ ⟨e1.then u2 fun k hk=>(by simp [Sl.blk] at hk),.inr ⟨rfl,o2⟩⟩ (show (1 - IntKind.wrap .i64 (0+1)).toNat<(1 - (0:Int)).toNat by decide)
  ·dsimp only at ht ho ⊢
   subst ht
   refine Zz ?_
   have hn':=hn.ext e'
   have lt:=hn.lt
   refine Zh6 hn' hw (Rt.pass hc) ho.row (fun b hb=>by have:=(ho.lt hb).1;omega) fun h2 n2 u2=>?_
   refine Zj (rI (Zb n2.cells rfl) (Zj (ZdD n2.cells (show 0+2<3 by decide) rfl fun h3 c3 u3 z3=>Za (hk h3 ?_ ?_))))
   ·have nn:=n2
    have kk:∀ j,j≠q+4→j<q+5→obj h3 j=obj h2 j:=fun j hj hl9=>u3.old j (Nat.lt_of_lt_of_le (show j<q+5 by omega) (by have:=n2.lt;simp only [YV];omega)) hj
    refine ⟨?_,n2.ws.congr (kk _ (by omega) (by omega)) (kk _ (by omega) (by omega)),n2.wd.congr (kk _ (by omega) (by omega)) (kk _ (by omega) (by omega)),by show 0≤n.fl+1∧n.fl+1≤4096;omega⟩
    rw [c3]
    show some (Obj.cells [_,_,iv (IntKind.wrap .i64 (n.fl+((1:Nat):Int)))].toArray _ _)=_
    rw [XH (n:=n.fl+((1:Nat):Int)) (by omega) (by omega)]
    rfl
   ·exact (Zvi e' u2).trans (u3.mono fun j _ hj=>by subst hj;exact ⟨by omega,by omega⟩)
theorem Zmv {h:Zd} {q:Nat} {n:Node} (hn:Zc2 h q n) {at_ c:Int} {s:Sl} (hs:Row h s 1 [iv c]) {K:Int→Zd→Prop}
    (hk:∀ h',Zc2 h' q (n.blocked at_ c)→Upd (inN q) h h'→K (Xx n.last at_ c) h'):Zaw (some ⟨q+4,0,none⟩) at_ s K h:=by
  unfold Zaw ZcD
  have hl:s.len=1:=by have:=hs.len;simp at this;omega
  refine Za (Zjt hn hs (Za ?_))
  unfold Node.blocked at hk
  by_cases he:Xx n.last at_ c=0
  case neg =>
    rw [if_neg he] at hk
    exact Zt (by simpa using he) (Za (hk h hn (Upd.refl _ _)))
  rw [if_pos he] at hk
  rw [he] at hk ⊢
  refine Zz ?_
  rw [hl]
  obtain ⟨hw,hc⟩:=ZmL he
  refine YX (fun t h'=>Ext h h'∧((t=(⟨none,0,0⟩,0,())∧h'=h)∨(t.2.1=1∧Own h' (sz h) t.1 6 (c6L (ZfT c))))) (fun t _=>(1 - t.2.1).toNat) ⟨Ext.refl _,.inl ⟨rfl,rfl⟩⟩ ?_
  rintro ⟨l,i,u⟩ h' ⟨e',⟨ht,hh⟩ | ⟨ht,ho⟩⟩ Q hQ
  ·injection ht with ht1 ht2
   injection ht2 with ht2 ht3
   subst ht1
   subst ht2
   subst hh
   dsimp only
   refine YL (ZAX hs (Ext.refl _) rfl hl fun b o hb=>⟨c,hb,Za (Yg fun h1 c1 e1 z1=>(ZiR c1 rfl).rd ?_)⟩)
   refine (Own.nil h1 (sz h') 6).app (n:=1) rfl (by simp [ZgU]) rfl (by decide) (by decide) e1.size fun l2 h2 o2 _ u2 _=>hQ _ _ ⟨e1.then u2 fun k hk=>(by simp [Sl.blk] at hk),.inr ⟨rfl,o2⟩⟩ (show (1 - IntKind.wrap .i64 (0+1)).toNat<(1 - (0:Int)).toNat by decide)
  ·dsimp only at ht ho ⊢
   subst ht
   refine Zz ?_
   have hn':=hn.ext e'
   have lt:=hn.lt
   exact Zh6 hn' hw (Rt.block hc) ho.row (fun b hb=>by have:=(ho.lt hb).1;omega) fun h2 n2 u2=>Za (hk h2 n2 (Zvi e' u2))
def Ziv (rt:Int) (failed:Bool):C6:=(0,0,1,(if failed then 1 else 0),rt,rt,())
theorem Rt.done {rt:Int} {f:Bool} (h:0≤rt∧rt≤1152921504606846976):Rt (Ziv rt f):=by
  refine ⟨by simp [Ziv],by simp [Ziv],by simp [Ziv],?_,by simp only [Ziv];omega,by simp only [Ziv];omega,.inl (by simp [Ziv])⟩
  simp only [Ziv]
  cases f<;>decide
def doneE (n:Node) (at_ rt:Int):Int :=
  if Yw n.last at_=2 then 2 else if ¬ (0≤rt∧rt≤1152921504606846976) then 2 else if Yw n.last at_≠0 then Yw n.last at_ else if n.fl=0 then 4 else 0
def Node.done (n:Node) (at_ rt:Int) (f:Bool):Node:=if doneE n at_ rt=0 then ⟨at_,(n.add at_ (Ziv rt f)).s,(n.add at_ (Ziv rt f)).d,n.fl - 1⟩ else n
theorem Znr {h:Zd} {nb a ma b mb:Nat} {n:Node} (hn:Zes h nb a ma b mb n) {at_:Int} {K:Int→Zd→Prop} (hk:K (Yw n.last at_) h):YE (some ⟨nb,0,none⟩) at_ ⟨none,0,0⟩ K h:=by
  unfold YE ZbI
  refine Za (Zz (ZgL ?_))
  unfold Yw at hk
  by_cases ht:at_<0∨1152921504606846976<at_
  ·have:inB at_ 0 1152921504606846976=false:=by unfold inB;simp;omega
   rw [this]
   refine YL (Za ?_)
   rcases ht with ht | ht
   ·rw [if_pos ht] at hk;exact hk
   ·rw [if_neg (by omega),if_pos ht] at hk;exact hk
  have:inB at_ 0 1152921504606846976=true:=by unfold inB;simp;omega
  rw [this]
  refine Zz (YX (fun t h'=>t=(0,())∧h'=h) (fun t _=>0) ⟨rfl,rfl⟩ ?_)
  rintro _ h' ⟨rfl,hh⟩ Q hQ
  dsimp only
  subst hh
  refine Zz ?_
  refine Zj (rP (Zb hn.cells rfl) ?_)
  unfold XI Zam
  refine Za (Zz (Zj (rI (Zb hn.ws.cells rfl) (Za ?_))))
  rw [if_neg (by omega),if_neg (by omega)] at hk
  refine Zu (fun q2=>Za ?_) fun q2=>Za ?_
  ·rw [if_pos q2] at hk;exact hk
  ·rw [if_neg q2] at hk;exact hk
theorem ZnS {h:Zd} {q:Nat} {n:Node} (hn:Zc2 h q n) {at_ rt:Int} {f:Bool} {K:Int→Zd→Prop}
    (hk:∀ h',Zc2 h' q (n.done at_ rt f)→Upd (inN q) h h'→K (doneE n at_ rt) h'):ZaW (some ⟨q+4,0,none⟩) at_ rt f K h:=by
  unfold ZaW Zde
  have no:∀ e,e≠0→doneE n at_ rt=e→K e h:=fun e h1 h2=>by
    have:=hk h (by unfold Node.done;rw [if_neg (by rw [h2];exact h1)];exact hn) (Upd.refl _ _)
    rwa [h2] at this
  refine Za (Znr hn (Za (Zc (Zz ?_))))
  refine Zce (fun q1=>Za ?_) fun q1=>ZgL ?_
  ·exact no 2 (by decide) (by unfold doneE;rw [if_pos q1])
  by_cases hr:0≤rt∧rt≤1152921504606846976
  case neg =>
    have:inB rt 0 1152921504606846976=false:=by unfold inB;simp;omega
    rw [this]
    exact Zc (YL (Za (no 2 (by decide) (by unfold doneE;rw [if_neg q1,if_pos hr]))))
  have:inB rt 0 1152921504606846976=true:=by unfold inB;simp;omega
  rw [this]
  refine Zc (Zz (Zc (Zdt (fun q2=>Za ?_) fun q2=>?_)))
  ·exact no _ q2 (by unfold doneE;rw [if_neg q1,if_neg (fun h9=>h9 hr),if_pos q2])
  refine Zj (rI (Zb hn.cells rfl) (Zc (Zce (fun q3=>Za ?_) fun q3=>?_)))
  ·exact no 4 (by decide) (by unfold doneE;rw [if_neg q1,if_neg (fun h9=>h9 hr),if_neg (fun h9=>h9 q2),if_pos q3])
  have ok:doneE n at_ rt=0:=by unfold doneE;rw [if_neg q1,if_neg (fun h9=>h9 hr),if_neg (fun h9=>h9 q2),if_neg q3]
  rw [ok] at hk
  unfold Node.done at hk
  rw [if_pos ok] at hk
  have hf:=hn.fl
  have lt:=hn.lt
  refine Yg fun h1 c1 e1 z1=>ZaE c1 fun h2 c2 u2 z2=>?_
  have e2:Ext h h2:=e1.then u2 fun k hk=>by subst hk;exact Nat.le_refl _
  refine ZrP (fun _ h'=>Ext h h'∧obj h' (sz h)=some (.cells (c6L (Ziv rt f)).toArray 169 (0,0))) ?_ ?_
  ·rintro _ h3 ⟨e3,c3⟩
   refine rI (Zb c3 rfl) (rI (Zb c3 rfl) (rI (Zb c3 rfl) (rI (Zb c3 rfl) (rI (Zb c3 rfl) (rI (Zb c3 rfl) (Yg fun h4 c4 e4 z4=>?_))))))
   have e34:=e3.trans e4
   have hsz:q+5≤sz h3:=by have:=(hn.ext e3).lt;omega
   refine Zh6 (hn.ext e34) q2 (Rt.done hr) (ZiR c4 rfl) (fun b hb=>by simp [Sl.blk] at hb;subst hb;exact .inr hsz) fun h5 n5 u5=>?_
   refine Zj (rI (Zb n5.cells rfl) (Zj (ZdD n5.cells (show 0+2<3 by decide) rfl fun h6 c6 u6 z6=>Za (hk h6 ?_ ?_))))
   ·have kk:∀ j,j≠q+4→j<q+5→obj h6 j=obj h5 j:=fun j hj hl9=>u6.old j (Nat.lt_of_lt_of_le (show j<q+5 by omega) (by have:=n5.lt;simp only [YV];omega)) hj
    refine ⟨?_,n5.ws.congr (kk _ (by omega) (by omega)) (kk _ (by omega) (by omega)),n5.wd.congr (kk _ (by omega) (by omega)) (kk _ (by omega) (by omega)),by show 0≤n.fl - 1∧n.fl - 1≤4096;omega⟩
    rw [c6]
    show some (Obj.cells [_,_,iv (IntKind.wrap .i64 (n.fl - 1))].toArray _ _)=_
    rw [XH (n:=n.fl - 1) (by omega) (by omega)]
   ·exact (Zvi e34 u5).trans (u6.mono fun j _ hj=>by subst hj;exact ⟨by omega,by omega⟩)
  ·intro Q hQ
   cases f
   ·exact Zz (hQ _ _ ⟨e2,c2⟩)
   ·refine YL (ZdD c2 (show 0+3<6 by decide) rfl fun h3 c3 u3 z3=>hQ _ _ ⟨e2.then u3 fun k hk=>by subst hk;exact Nat.le_refl _,c3⟩)
theorem Zk4 {a b:ByteArray}:XN a b=true↔a=b:=by
  unfold XN
  rw [ByteArray.toList_eq,ByteArray.toList_eq,beq_iff_eq]
  constructor
  ·intro h
   cases a;cases b
   congr
   exact Array.toList_inj.1 h
  ·rintro rfl;rfl
theorem ZdC (a b:ByteArray):XN a b=decide (a=b):=by
  by_cases h:a=b
  ·rw [decide_eq_true h];exact Zk4.2 h
  ·rw [decide_eq_false h]
   cases q:XN a b with
   | false=>rfl
   | true=>exact absurd (Zk4.1 q) h
abbrev K4:=Int × ByteArray × ByteArray × ByteArray × Unit
def k4L (k:K4):List Value:=[.int .u8 k.1,.string k.2.1,.string k.2.2.1,.string k.2.2.2.1]
theorem Za8 (k:K4):(k4L k).length=4:=rfl
structure ZkK (h:Zd) (mb:Nat) (f:K4→Option Value) (n:Nat):Prop where
  is:∃ es clk,obj h mb=some (.map es clk)∧es.size=n∧(∀ x,x∈es.toList→∃ k:K4,x.key = .agg (k4L k).toArray)∧∀ k,(ZeZ (k4L k) es.toList 0).map (·.2)=f k
theorem ZkK.lt {h:Zd} {mb n:Nat} {f:K4→Option Value} (hA:ZkK h mb f n):mb<sz h:=by
  obtain ⟨es,clk,h1,_⟩:=hA.is
  exact Zr h1
theorem ZkK.congr {h h':Zd} {mb n:Nat} {f:K4→Option Value} (hA:ZkK h mb f n) (he:obj h' mb=obj h mb):ZkK h' mb f n:=by
  obtain ⟨es,clk,h1,h2⟩:=hA.is
  exact ⟨es,clk,he.trans h1,h2⟩
theorem ZkK.new {h:Zd} {mb:Nat} {c:Nat} (hb:obj h mb=some (.map #[] c)):ZkK h mb (fun _=>none) 0:=⟨#[],c,hb,rfl,(fun x hx=>by cases hx),fun _=>rfl⟩
theorem ZrN (k:K4):ZgB [(.int .u8),.string,.string,.string] (.agg (k4L k).toArray):=⟨k4L k,rfl,rfl,trivial,trivial,trivial,trivial⟩
theorem Zls (k:List Value) (e:MapEntry):∀ (l:List MapEntry) (i:Nat),ZeZ k (l++[e]) i=match ZeZ k l i with
    | some x=>some x
    | none=>bif ZiF k e.key then some (i+l.length,e.val) else none
  | [],i=>by simp only [List.nil_append,ZeZ,List.length_nil,Nat.add_zero]
  | x::l,i=>by
    simp only [List.cons_append,ZeZ,List.length_cons]
    cases ZiF k x.key with
    | true=>rfl
    | false =>
      simp only [cond_false]
      rw [Zls k e l (i+1),show i+1+l.length=i+(l.length+1) from by omega]
theorem Zm1 (k j:K4):ZiF (k4L k) (.agg (k4L j).toArray)=decide (k=j):=by
  show Zcz (k4L k) (k4L j)=_
  obtain ⟨k1,k2,k3,k4,_⟩:=k
  obtain ⟨j1,j2,j3,j4,_⟩:=j
  simp only [Zcz,Zfl,k4L,ZdC,Prod.mk.injEq,and_true]
  by_cases h1:k1=j1<;>by_cases h2:k2=j2<;>by_cases h3:k3=j3<;>by_cases h4:k4=j4<;>simp [h1,h2,h3,h4]
theorem ZkK.get {h:Zd} {mb n:Nat} {f:K4→Option Value} (hA:ZkK h mb f n) (k:K4) {K:Option Value→Prop} (hk:K (f k)):ZbZ [(.int .u8),.string,.string,.string] h (some mb) (k4L k) K:=by
  obtain ⟨es,clk,h1,h0,h2,h3⟩:=hA.is
  refine ⟨fun e=>(by cases e),fun b hb=>?_⟩
  cases hb
  refine ⟨es,clk,h1,fun x hx=>?_,by rw [h3];exact hk⟩
  obtain ⟨k',e⟩:=h2 x hx
  rw [e]
  exact ZrN k'
theorem ZkK.len {h:Zd} {mb n:Nat} {f:K4→Option Value} (hA:ZkK h mb f n) {K:Int→Prop} (hk:K (n:Int)):Zwc h (some mb) K:=by
  obtain ⟨es,clk,h1,h0,h2,h3⟩:=hA.is
  refine ⟨fun e=>(by cases e),fun b hb=>?_⟩
  cases hb
  exact ⟨es,clk,h1,by rw [h0];exact hk⟩
theorem Zvq {h:Zd} {b:Nat} {x y:Obj} (hb:obj h b=some x):obj (h.setIfInBounds b y) b=some y∧Upd (· = b) h (h.setIfInBounds b y)∧sz (h.setIfInBounds b y)=sz h :=
  ⟨Zge (Zr hb),ZeB,Array.size_setIfInBounds⟩
theorem ZkK.put {h:Zd} {mb n:Nat} {f:K4→Option Value} (hA:ZkK h mb f n) {k:K4} (hf:f k=none) (v:Value) {K:Zd→Prop}
    (hk:∀ h',ZkK h' mb (fun j=>if j=k then some v else f j) (n+1)→Upd (· = mb) h h'→sz h'=sz h→K h'):ZgY [(.int .u8),.string,.string,.string] h (some mb) (k4L k) v K:=by
  obtain ⟨es,clk,h1,h00,h2,h3⟩:=hA.is
  refine ⟨mb,es,clk,rfl,h1,fun x hx=>?_,?_⟩
  ·obtain ⟨k',e⟩:=h2 x hx
   rw [e]
   exact ZrN k'
  have h0:ZeZ (k4L k) es.toList 0=none:=by
    have:=h3 k
    rw [hf] at this
    simpa using this
  rw [h0]
  obtain ⟨m1,m2,m3⟩:=Zvq (y:= .map (es.push { key:= .agg (k4L k).toArray,val:=v,born:=clk }) (clk+1)) h1
  refine hk _ ⟨_,_,m1,by simp [h00],fun x hx=>?_,fun a=>?_⟩ m2 m3
  ·rw [Array.toList_push] at hx
   rcases List.mem_append.1 hx with hx | hx
   ·exact h2 x hx
   ·simp only [List.mem_cons,List.not_mem_nil,or_false] at hx
    subst hx
    exact ⟨k,rfl⟩
  ·rw [Array.toList_push,Zls]
   have hab:=h3 a
   by_cases e:a=k
   ·rw [if_pos e,e,h0]
    show (bif ZiF (k4L k) (.agg (k4L k).toArray) then some (0+es.toList.length,v) else none).map (·.2)=_
    rw [Zm1,decide_eq_true rfl]
    rfl
   ·rw [if_neg e,← hab]
    cases ZeZ (k4L a) es.toList 0 with
    | some x=>rfl
    | none =>
      show (bif ZiF (k4L a) (.agg (k4L k).toArray) then some (0+es.toList.length,v) else none).map (·.2)=_
      rw [Zm1,decide_eq_false e]
      rfl
structure Tree where
  f:K4→Option Node
  keys:List K4
  last:Int
structure ZkI (h:Zd) (tb mb base:Nat) (ks:Sl) (A:K4→Option Nat) (t:Tree):Prop where
  cells:obj h tb=some (.cells [.map (some mb),slV ks,iv t.last].toArray 116 (0,0))
  map:∃ n,ZkK h mb (fun k=>(A k).map fun q=> .pointer (some ⟨q+4,0,none⟩)) n
  row:Own h base ks 4 (t.keys.flatMap k4L)
  len:t.keys.length≤512
  node:∀ k,(A k=none∧t.f k=none)∨∃ q n,A k=some q∧t.f k=some n∧Zc2 h q n
  disj:∀ k k' q q',A k=some q→A k'=some q'→k≠k'→q+5≤q'∨q'+5≤q
  mt:mb≠tb
  kb:∀ b,ks.blk=some b→b≠tb∧b≠mb
  out:∀ k q,A k=some q→(∀ j,inN q j→j≠tb∧j≠mb∧ks.blk≠some j)
def ZAW (tb mb:Nat) (ks:Sl) (A:K4→Option Nat) (j:Nat):Prop:=j=tb∨j=mb∨ks.blk=some j∨∃ k q,A k=some q∧inN q j
def XM (h:Zd) (tb:Nat) (O:Nat→Prop) (t:Tree):Prop:=∃ mb base ks A,ZkI h tb mb base ks A t∧∀ j,ZAW tb mb ks A j→O j
theorem ZkI.congr {h h':Zd} {tb mb base:Nat} {ks:Sl} {A:K4→Option Nat} {t:Tree} (ht:ZkI h tb mb base ks A t) (he:∀ j,ZAW tb mb ks A j→j<sz h→obj h' j=obj h j):ZkI h' tb mb base ks A t:=by
  obtain ⟨n,hm⟩:=ht.map
  refine ⟨(he _ (.inl rfl) (Zr ht.cells)).trans ht.cells,⟨n,hm.congr (he _ (.inr (.inl rfl)) hm.lt)⟩,ht.row.congr fun b hb hl _=>he b (.inr (.inr (.inl hb))) hl,ht.len,fun k=>?_,ht.disj,ht.mt,ht.kb,ht.out⟩
  rcases ht.node k with h1 | ⟨q,n,h1,h2,h3⟩
  ·exact .inl h1
  ·exact .inr ⟨q,n,h1,h2,h3.congr fun j hj hj2=>he j (.inr (.inr (.inr ⟨k,q,h1,hj,hj2⟩))) (by have:=h3.lt;omega)⟩
theorem XM.congr {h h':Zd} {tb:Nat} {O:Nat→Prop} {t:Tree} (ht:XM h tb O t) (he:∀ j,O j→j<sz h→obj h' j=obj h j):XM h' tb O t:=by
  obtain ⟨mb,base,ks,A,hi,ho⟩:=ht
  exact ⟨mb,base,ks,A,hi.congr fun j hj hl=>he j (ho j hj) hl,ho⟩
theorem XM.ext {h h':Zd} {tb:Nat} {O:Nat→Prop} {t:Tree} (ht:XM h tb O t) (e:Ext h h'):XM h' tb O t:=ht.congr fun _ _ hj=>Z6 e hj
theorem XM.mono {h:Zd} {tb:Nat} {O O':Nat→Prop} {t:Tree} (ht:XM h tb O t) (he:∀ j,O j→O' j):XM h tb O' t:=by
  obtain ⟨mb,base,ks,A,hi,ho⟩:=ht
  exact ⟨mb,base,ks,A,hi,fun j hj=>he j (ho j hj)⟩
theorem ZnM {h:Zd} {K:Option Addr→Zd→Prop} (hk:∀ h',XM h' (sz h+1) (fun j=>j=sz h∨j=sz h+1) ⟨fun _=>none,[],0⟩→Ext h h'→sz h'=sz h+2→K (some ⟨sz h+1,0,none⟩) h'):Zel K h:=by
  unfold Zel Zg4 ZfP
  have c0:obj (h.push (.map #[] 0)) (sz h)=some (.map #[] 0):=ZdU
  refine Yg fun h1 c1 e1 z1=>?_
  have z0:sz (h.push (.map #[] 0))=sz h+1:=Zc4
  simp only [YV,z0] at c1 z1 ⊢
  refine hk h1 ⟨sz h,0,⟨none,0,0⟩,fun _=>none,⟨c1,⟨0,(ZkK.new c0).congr (Z6 e1 (by omega))⟩,Own.nil _ _ _,by decide,fun k=> .inl ⟨rfl,rfl⟩,(fun _ _ _ _ hq=>by cases hq),by omega,(fun b hb=>by cases hb),fun _ _ hq=>by cases hq⟩,?_⟩ (Zah (Ext.refl h) |>.trans e1) (by omega)
  rintro j (h1 | h1 | h1 | ⟨_,_,h1,_⟩)
  ·exact .inr h1
  ·exact .inl h1
  ·cases h1
  ·cases h1
abbrev C8:=Int × ByteArray × ByteArray × ByteArray × Bool × Int × Sl × Unit
abbrev em:ByteArray:=ByteArray.mk #[]
def c8L (c:C8):List Value:=[iv c.1,.string c.2.1,.string c.2.2.1,.string c.2.2.2.1,.bool c.2.2.2.2.1,iv c.2.2.2.2.2.1,slV c.2.2.2.2.2.2.1]
def Znu (c:C8):List K4:=if c.2.2.2.1=em then [] else [(5,em,c.2.1,c.2.2.2.1,())]
def ZtH (c:C8):List K4:=if c.2.2.2.2.1=true then [(1,em,em,em,())] else []
def Z1 (c:C8):List K4:=(3,c.2.2.1,c.2.1,em,())::(4,em,c.2.1,em,())::(Znu c++(2,c.2.2.1,em,em,())::ZtH c)
def ZgW (c:C8):Bool:=Zfg c.2.1&&Zfg c.2.2.1&&(decide (c.2.2.2.1=em)||Zfg c.2.2.2.1)
def Zen (c:C8):Int:=if ZgW c=true then 0 else 10
structure ZfM (c:C8):Prop where
  a:c.2.1.size<9223372036854775808
  b:c.2.2.1.size<9223372036854775808
  c:c.2.2.2.1.size<9223372036854775808
theorem ZrM (l:List K4):(l.flatMap k4L).all ZH=true:=by
  rw [List.all_eq_true]
  intro v hv
  obtain ⟨k,_,hk⟩:=List.mem_flatMap.1 hv
  simp only [k4L,List.mem_cons,List.not_mem_nil,or_false] at hk
  rcases hk with rfl | rfl | rfl | rfl<;>rfl
theorem Zwd {h:Zd} {base:Nat} {s:Sl} {l m:List K4} (ho:Own h base s 4 (l.flatMap k4L)) {n:Nat} (hn:m.length=n) (hb:l.length+n≤100000) (hbase:base≤sz h) {K:Sl→Zd→Prop}
    (hk:∀ s' h',Own h' base s' 4 ((l++m).flatMap k4L)→s'.len=s.len+n→Upd (fun k=>s.blk=some k) h h'→K s' h'):app 102 4 56 [.int .u8 0,.string (ByteArray.mk #[]),.string (ByteArray.mk #[]),.string (ByteArray.mk #[])] s n (m.flatMap k4L) h K:=by
  have hl:=ho.len
  rw [YZ Za8] at hl
  have hs:s.len=l.length:=(Nat.eq_of_mul_eq_mul_right (by decide) hl).symm
  refine ho.app (n:=n) (by rw [YZ Za8,hn]) (ZrM m) rfl (by omega) (by omega) hbase fun s' h' o' l' u' _=>hk s' h' (by rw [List.flatMap_append];exact o') l' u'
theorem Zfz {h:Zd} {c:C8} (hz:ZfM c) {K:Sl→Int→Zd→Prop} (hk:∀ s h',Ext h h'→Own h' (sz h) s 4 ((if Zen c=0 then Z1 c else []).flatMap k4L)→K s (Zen c) h'):Xd c K h:=by
  unfold Xd Zf6
  refine Yg fun h1 c1 e1 z1=>Za (ZrP (fun _ h'=>h'=h1∧Zen c=0) ?_ fun Q hQ=>?_)
  ·rintro _ h' ⟨hh,ok⟩
   subst hh
   rw [ok,if_pos rfl] at hk
   refine rS (Zb c1 rfl) (rS (Zb c1 rfl) (rS (Zb c1 rfl) (Yg fun h2 c2 e2 z2=>ZrP (fun s h3=>Ext h' h3∧Own h3 (sz h') s.1 4 (((3,c.2.2.1,c.2.1,em,())::(4,em,c.2.1,em,())::Znu c).flatMap k4L)) ?_ fun Q hQ=>?_)))
   ·rintro ⟨l,u⟩ h3 ⟨e3,o3⟩
    dsimp only at o3 ⊢
    have c3:=Zl c1 e3
    refine rS (Zb c3 rfl) (Yg fun h4 c4 e4 z4=>(ZiR c4 rfl).rd ?_)
    have o4:Own h4 (sz h') l 4 _:=o3.congr fun b _ hl _=>e4.old b hl
    have hb:∀ {l:List K4} {n:Nat},l.length+n≤100→l.length+n≤100000:=fun h=>by omega
    have k5l:(Znu c).length≤1:=by unfold Znu;split<;>simp
    have e14:Ext h' h4:=e3.trans e4
    have zb:sz h≤sz h':=e1.size
    refine Zwd o4 (m:=[(2,c.2.2.1,em,em,())]) rfl (by simp only [List.length_cons,List.length_nil];omega) e14.size fun s5 h5 o5 _ u5=>?_
    have e15:Ext h' h5:=e14.then u5 fun k hk=>(o4.lt hk).1
    have c5:=Zl c1 e15
    refine rB (Zb c5 rfl) ⟨fun hb=>?_,fun hb=>?_⟩
    ·refine Yg fun h6 c6 e6 z6=>(ZiR c6 rfl).rd ?_
     have o6:Own h6 (sz h') s5 4 _:=o5.congr fun b _ hl _=>e6.old b hl
     refine Zwd o6 (m:=[(1,em,em,em,())]) rfl (by simp only [List.length_cons,List.length_append,List.length_nil];omega) (e15.trans e6).size fun s7 h7 o7 _ u7=>Za (hk s7 h7 (e1.trans ((e15.trans e6).then u7 fun k hk=>(o6.lt hk).1)) ?_)
     have:Z1 c=(3,c.2.2.1,c.2.1,em,())::(4,em,c.2.1,em,())::Znu c++[(2,c.2.2.1,em,em,())]++[(1,em,em,em,())]:=by
       unfold Z1 ZtH;rw [if_pos hb];simp
     rw [this];exact o7.base zb
    ·refine Za (hk s5 h5 (e1.trans e15) ?_)
     have:Z1 c=(3,c.2.2.1,c.2.1,em,())::(4,em,c.2.1,em,())::Znu c++[(2,c.2.2.1,em,em,())]:=by
       unfold Z1 ZtH;rw [if_neg (by rw [hb];decide)];simp
     rw [this];exact o5.base zb
   ·have c2':=Zl c1 e2
    have o2:Own h2 (sz h') ⟨some ⟨h'.size,0,none⟩,2,2⟩ 4 (([(3,c.2.2.1,c.2.1,em,()),(4,em,c.2.1,em,())]:List K4).flatMap k4L) :=
      ⟨rfl,Nat.le_refl _,(show 2<9223372036854775808 by decide),.inr ⟨h'.size,_,_,rfl,Nat.le_refl _,c2,rfl,rfl⟩⟩
    refine rS (Zb c2' rfl) ?_
    rw [ZdC]
    refine ⟨fun hb=>?_,fun hb=>?_⟩
    ·have hne:c.2.2.2.1≠em:=by simpa using hb
     refine rS (Zb c2' rfl) (rS (Zb c2' rfl) (Yg fun h3 c3 e3 z3=>(ZiR c3 rfl).rd ?_))
     have o3:Own h3 (sz h') _ 4 _:=o2.congr fun b _ hl _=>e3.old b hl
     refine Zwd o3 (m:=[(5,em,c.2.1,c.2.2.2.1,())]) rfl (by simp only [List.length_cons,List.length_nil];omega) (e2.trans e3).size fun s4 h4 o4 _ u4=>hQ _ _ ⟨(e2.trans e3).then u4 fun k hk=>(o3.lt hk).1,?_⟩
     ·show Own h4 (sz h') s4 4 _
      have:Znu c=[(5,em,c.2.1,c.2.2.2.1,())]:=by unfold Znu;rw [if_neg hne]
      rw [this];exact o4
    ·have he:c.2.2.2.1=em:=by simpa using hb
     refine hQ _ _ ⟨e2,?_⟩
     have:Znu c=[]:=by unfold Znu;rw [if_pos he]
     rw [this];exact o2
  ·have bad:ZgW c=false→K ⟨none,0,0⟩ 10 h1:=fun e=>by
     have:=hk ⟨none,0,0⟩ h1 e1
     unfold Zen at this
     rw [e] at this
     exact this (Own.nil _ _ _)
   refine rS (Zb c1 rfl) (ZcJ hz.a ⟨fun q1=>Za (bad ?_),fun q1=>?_⟩)
   ·have:Zfg c.2.1=false:=by simpa using q1
    unfold ZgW;rw [this];rfl
   have n1:Zfg c.2.1=true:=by simpa using q1
   refine rS (Zb c1 rfl) (ZcJ hz.b ⟨fun q2=>Za (bad ?_),fun q2=>?_⟩)
   ·have:Zfg c.2.2.1=false:=by simpa using q2
    unfold ZgW;rw [this,Bool.and_false];rfl
   have n2:Zfg c.2.2.1=true:=by simpa using q2
   refine rS (Zb c1 rfl) ?_
   rw [ZdC]
   have fin:(decide (c.2.2.2.1=em)||Zfg c.2.2.2.1)=true→Q () h1:=fun q=>hQ _ _ ⟨rfl,by unfold Zen ZgW;rw [n1,n2,q];rfl⟩
   refine ⟨fun q3=>?_,fun q3=>?_⟩
   ·have hne:c.2.2.2.1≠em:=by simpa using q3
    refine rS (Zb c1 rfl) (ZcJ hz.c ⟨fun q4=>Za (bad ?_),fun q4=>fin ?_⟩)
    ·have:Zfg c.2.2.2.1=false:=by simpa using q4
     unfold ZgW;rw [this,decide_eq_false hne,Bool.or_false,Bool.and_false]
    ·have:Zfg c.2.2.2.1=true:=by simpa using q4
     rw [this,Bool.or_true]
   ·have he:c.2.2.2.1=em:=by simpa using q3
    exact fin (by rw [decide_eq_true he];rfl)
end Go.Proofs.YthbfgkphlmlihaaGreat
