/- Rules as a value (rulejson.ToValue; printed by mkRsF.py). -/
import Derived.Test.YtpjbjdheeemdiaaGreatDoorPa17
set_option linter.unusedVariables false
set_option linter.unusedSimpArgs false
namespace Go.Js
open Go Go.Fw Go.Proofs.YtpjbjdheeemdiaaGreatDoor
theorem Zhz (zs:List (BL × JV)):wV (ZhK zs)=9+(zs.map fun q=>6*q.1.length+3+wV q.2).sum:=by
  have h:∀ zs:List (BL × JV),nsW (zs.map (·.1))+pw (ZdC (zs.map (·.2)))=(zs.map fun q=>6*q.1.length+3+wV q.2).sum:=fun zs=>by
    induction zs with
    | nil=>rfl
    | cons q zs a =>
      simp only [Awo,Azp,nsW,ZdC,pw,<- a]
      simp only [wV]
      omega
  have:=h zs
  have e:wV (ZhK zs)=9+6*0+nsW (zs.map (·.1))+pw (ZdC (zs.map (·.2))):=rfl
  omega
theorem Zlq (l:List JV):wV (ZcX l)=9+(l.map wV).sum:=by
  have:=Zyf l
  have e:wV (ZcX l)=9+6*0+0+pw (ZdC l):=rfl
  omega
theorem Zrn {α:Type} {f g:α->Nat} {c:Nat}:∀ {l:List α},(∀ x,x∈l->f x<=c*g x)->(l.map f).sum<=c*(l.map g).sum
  | [],_=>by simp
  | x::l,h=>by
    have:=h x (by simp)
    have:=Zrn (l:=l) fun y a=>h y (by simp [a])
    simp only [Awo,Azp,Nat.mul_add]
    omega
theorem Zf4 {α:Type} {f:α->Nat}:∀ {l:List α} {x:α},x∈l->f x<=(l.map f).sum
  | a::l,x,h=>by
    simp only [Awo,Azp]
    rcases Awr.1 h with rfl | h
    ·omega
    ·have:=Zf4 (f:=f) h;omega
theorem ZpB (s:BL):wV (Zd2 s)=9+6*s.length:=by
  have e:wV (Zd2 s)=9+6*s.length+0+0:=rfl
  omega
theorem ZgL {n:Int} (h:Zhv n):wV (ZcY n)<=135:=by
  have:=Lib.itoa_length_le n h.1 h.2
  have e:wV (ZcY n)=9+6*(Lib.itoa n).length+0+0:=rfl
  omega
theorem ZsO (b:Bool):wV (Zdm b)=9:=rfl
theorem Zxq {ws:List BL} (h:∀ w,w∈ws->w.length<=20) (n:Nat):wV (Zif ws n)<=129:=by
  unfold Zif
  rw [ZpB,Avb]
  cases a:ws[if n<ws.length then n else 0]? with
  | none=>simp
  | some w=>have:=h w (Axq a);simp only [Axo];omega
theorem ZBZ {f:FlowP} (h:f.rng):wV (ZdS f)<=2340*f.wt:=by
  have a:=ZgL h.1
  have a2:=ZgL h.2.2.2.1
  have a3:=ZgL h.2.2.2.2.1
  have a4:=ZgL h.2.2.2.2.2
  have b:=Zxq Zrp f.strat
  have c:=Zxq Zrs f.shape
  unfold ZdS
  simp only [Zhz,Awo,Azz,Azp,Ave,ZpB,ZsO,Zbc,Zrg,ZiX,ZfA,Zml,ZB1,Zt6,ZxB,Zt7,Zoo,ZGq,Zmm,Aqj,Ays,FlowP.wt]
  omega
theorem Zxr {f:Yx} (h:f.rng):wV (ZaQ f)<=2340*f.wt:=by
  have a:=ZgL h.2.1
  have a2:=ZgL h.2.2.1
  have a3:=ZgL h.2.2.2.1
  have a4:=ZgL h.2.2.2.2.1
  have a5:=ZgL h.2.2.2.2.2
  have b:=Zxq Zr6 f.grade
  unfold ZaQ
  simp only [Zhz,Awo,Azz,Azp,Ave,ZpB,Zbc,Zt9,ZfA,ZxD,Zt8,Zrf,Zon,Aqj,Ays,Yx.wt]
  omega
theorem ZGk {f:BL × Int} (h:Zhv f.2):wV (Zd4 f)<=400*Zez f:=by
  have a:=ZgL h
  unfold Zd4
  simp only [Zhz,Awo,Azz,Azp,Ave,ZpB,Zt5,ZfA,Aqj,Ays,Zez]
  omega
theorem ZsQ {l:List (BL × Int)} (h:∀ p,p∈l->Zhv p.2):wV (ZcX (l.map Zd4))<=9+400*(l.map Zez).sum:=by
  rw [Zlq,Azq]
  have:=Zrn (f:=wV ∘ Zd4) (g:=Zez) (c:=400) (l:=l) fun x a=>ZGk (h x a)
  omega
theorem ZNl {f:Zew} (h:f.rng):wV (Zig f)<=2340*f.wt:=by
  have a:=ZgL h.1
  have a2:=ZgL h.2.1
  have a3:=ZgL h.2.2.1
  have a4:=ZsQ h.2.2.2
  unfold Zig
  simp only [Zhz,Awo,Azz,Azp,Ave,ZpB,Zbc,ZpQ,ZfA,ZkQ,ZpP,Aqj,Ays,Zew.wt]
  omega
theorem Zt1 {f:Y4} (h:f.rng):wV (XD f)<=2340*1:=by
  have a:=ZgL h.1
  have a2:=ZgL h.2.1
  have a3:=ZgL h.2.2.1
  have a4:=ZgL h.2.2.2.1
  have a5:=ZgL h.2.2.2.2
  unfold XD
  simp only [Zhz,Awo,Azz,Azp,Ave,ZB2,ZiX,ZGp,ZxE,ZB3,Aqj,Ays]
  omega
theorem ZsP (l:List BL):wV (ZcX (l.map Zd2))<=9+9*(l.map Zgy).sum:=by
  rw [Zlq,Azq]
  have:=Zrn (f:=wV ∘ Zd2) (g:=Zgy) (c:=9) (l:=l) fun x a=>by
    show wV (Zd2 x)<=9*Zgy x
    rw [ZpB]
    simp only [Zgy]
    omega
  omega
theorem ZGj (f:ZaI):wV (Zcd f)<=2340*f.wt:=by
  have a4:=ZsP f.origins
  unfold Zcd
  simp only [Zhz,Awo,Azz,Azp,Ave,ZpB,ZsO,Zbc,ZpO,ZkR,Aqj,Ays,ZaI.wt]
  omega
end Go.Js
namespace Go.Proofs.YtpjbjdheeemdiaaGreatDoor
open Go Go.Fw Go.Js
theorem ZEj:tx "flow" = [102,108,111,119]:=by kernel_rfl
theorem ZAz:tx "break" = [98,114,101,97,107]:=by kernel_rfl
theorem ZGr:tx "hot" = [104,111,116]:=by kernel_rfl
theorem ZxC:tx "system" = [115,121,115,116,101,109]:=by kernel_rfl
theorem Zrh:tx "authority" = [97,117,116,104,111,114,105,116,121]:=by kernel_rfl
theorem Zrk {u:Zc} {z:VTR} {r:RulesP} {S:Nat->Prop} (n:ZaB u S z r) (L:∀ b,S b->b<sz u) (v:r.rng) (hw:r.wt<=16777216) (ht:ZaT u) {K:VT5->HP} (hk:∀ z' h',Ext u h'->ZaS h' (fr h' (sz u)) z' (toV r)->K z' h'):Za5 z K u:=by
  unfold Za5 Zen
  obtain ⟨w,E,F,R⟩:=n.ho
  obtain ⟨A,G,H,T⟩:=n.li
  simp only [RulesP.wt] at hw
  have U:∀ p,p∈w->p.2∈r.ho:=fun p hp=>by rw [<- E];exact Ayw.2 ⟨p,hp,rfl⟩
  have mL:∀ p,p∈A->p.2∈r.li:=fun p hp=>by rw [<- G];exact Ayw.2 ⟨p,hp,rfl⟩
  have bF:∀ p,p∈r.fl->p.res.length<=20000000/\p.org.length<=20000000/\p.ref.length<=20000000:=fun p hp=>by have:=Zf4 (f:=FlowP.wt) hp;simp only [FlowP.wt] at this hw;omega
  have bB:∀ p,p∈r.br->p.res.length<=20000000:=fun p hp=>by have:=Zf4 (f:=Yx.wt) hp;simp only [Yx.wt] at this hw;omega
  have V:∀ p,p∈w->p.2.res.length<=20000000/\(∀ q,q∈p.2.items->q.1.length<=20000000)/\wV (ZcX (p.2.items.map Zd4))<=40000000000:=fun p hp=>by
    have C:=Zf4 (f:=Zew.wt) (U p hp)
    have h2:=ZsQ (v.2.2.1 _ (U p hp)).2.2.2
    have h3:p.2.wt=1+p.2.res.length+(p.2.items.map Zez).sum:=rfl
    refine ⟨by omega,fun q hq=>?_,by omega⟩
    have:=Zf4 (f:=Zez) hq
    have h4:Zez q=1+q.1.length:=rfl
    omega
  have bL:∀ p,p∈A->p.2.res.length<=20000000/\wV (ZcX (p.2.origins.map Zd2))<=40000000000:=fun p hp=>by
    have C:=Zf4 (f:=ZaI.wt) (mL p hp)
    have h2:=ZsP p.2.origins
    have h3:p.2.wt=1+p.2.res.length+(p.2.origins.map Zgy).sum:=rfl
    exact ⟨by omega,by omega⟩
  have wF:wV (ZcX (r.fl.map ZdS))<=40000000000:=by
    have:=Zrn (f:=wV ∘ ZdS) (g:=FlowP.wt) (c:=2340) (l:=r.fl) fun x D=>ZBZ (v.1 x D)
    rw [Zlq,Azq];omega
  have wB:wV (ZcX (r.br.map ZaQ))<=40000000000:=by
    have:=Zrn (f:=wV ∘ ZaQ) (g:=Yx.wt) (c:=2340) (l:=r.br) fun x D=>Zxr (v.2.1 x D)
    rw [Zlq,Azq];omega
  have wH:wV (ZcX (r.ho.map Zig))<=40000000000:=by
    have:=Zrn (f:=wV ∘ Zig) (g:=Zew.wt) (c:=2340) (l:=r.ho) fun x D=>ZNl (v.2.2.1 x D)
    rw [Zlq,Azq];omega
  have wY:wV (ZcX (r.sy.map XD))<=40000000000:=by
    have:=Zrn (f:=wV ∘ XD) (g:=fun _=>1) (c:=2340) (l:=r.sy) fun x D=>Zt1 (v.2.2.2 x D)
    rw [Zlq,Azq];omega
  have wL:wV (ZcX (r.li.map Zcd))<=40000000000:=by
    have:=Zrn (f:=wV ∘ Zcd) (g:=ZaI.wt) (c:=2340) (l:=r.li) fun x D=>ZGj x
    rw [Zlq,Azq];omega
  refine YZ fun W c1 f1 y1=>YZ fun C c3 f3 y3=>?_
  have s0:sz u=u.size:=rfl
  have sk:sz W=W.size:=rfl
  have s1:sz C=C.size:=rfl
  have a:Ext u C:=f1.trans f3
  have d:obj C u.size=some (.cells (Zak z).toArray 28 (0,0)):=Zn c1 f3
  have i:obj C W.size=some (.cells zV.toArray 33 (0,0)):=c3
  refine rL (s:=z.1) (Zb d rfl) ?_
  refine rL (s:=z.2.1) (Zb d rfl) ?_
  refine rL (s:=z.2.2.1) (Zb d rfl) ?_
  refine ZdI fun o g2 X ob=>?_
  have d:=Zn d X
  have a:=a.trans X
  have i:=Zn i X
  have og:sz C<=o:=ob.ge
  refine ⟨YH d rfl,?_⟩
  refine ⟨YH d rfl,?_⟩
  refine ⟨YH d rfl,?_⟩
  refine ZpE (S:=S) (Ym n.fl.1 n.fl.2 fun b _ k=>Zu a k) n.fl.2 (fun j m=>Aqq (L j m) a.size) (fun p hp=>⟨bF p hp,v.1 p hp⟩) wF (ht.ext a) fun M g3 N t=>?_
  have d:=Zn d N
  have a:=a.trans N
  have i:=Zn i N
  have ob:=ob.ext N
  refine ⟨YH d rfl,?_⟩
  refine ⟨YH d rfl,?_⟩
  refine Zc8 (nm:=[102,108,111,119]) ob t (fun _ h=>h.2) (show 0<=12 by decide) ⟨show 4<=20 by decide,wF⟩ fun g4 ob Y=>?_
  have d:=ZG d Y (by omega)
  have a:=a.updS Y fun j m=>by omega
  have i:=ZG i Y (by omega)
  refine ⟨YH d rfl,?_⟩
  refine ⟨YH d rfl,?_⟩
  refine ZnO (S:=S) (Ym n.br.1 n.br.2 fun b _ k=>Zu a k) n.br.2 (fun j m=>Aqq (L j m) a.size) (fun p hp=>⟨bB p hp,v.2.1 p hp⟩) wB (ht.ext a) fun M g5 O t=>?_
  have d:=Zn d O
  have a:=a.trans O
  have i:=Zn i O
  have ob:=ob.ext O
  refine ⟨YH d rfl,?_⟩
  refine Zc8 (nm:=[98,114,101,97,107]) ob t (fun _ h=>h.2) (show 1<=12 by decide) ⟨show 5<=20 by decide,wB⟩ fun g6 ob Z=>?_
  have d:=ZG d Z (by omega)
  have a:=a.updS Z fun j m=>by omega
  have i:=ZG i Z (by omega)
  refine ⟨YH d rfl,?_⟩
  refine Zrc (S:=S) (Ym F.1 F.2 fun b _ k=>Zu a k) F.2 (fun j m=>Aqq (L j m) a.size) (fun p hp=>⟨(V p hp).1,v.2.2.1 _ (U p hp),ZhN (R p hp) fun b _ k=>Zu a k,(V p hp).2.1,(V p hp).2.2⟩) (by rw [show (w.map fun p=>Zig p.2)=r.ho.map Zig from by rw [<- E,Azq];rfl];exact wH) (ht.ext a) fun M g7 P t=>?_
  rw [show (w.map fun p=>Zig p.2)=r.ho.map Zig from by rw [<- E,Azq];rfl] at t
  have d:=Zn d P
  have a:=a.trans P
  have i:=Zn i P
  have ob:=ob.ext P
  refine Zc8 (nm:=[104,111,116]) ob t (fun _ h=>h.2) (show 2<=12 by decide) ⟨show 3<=20 by decide,wH⟩ fun g8 ob u8=>?_
  have d:=ZG d u8 (by omega)
  have a:=a.updS u8 fun j m=>by omega
  have i:=ZG i u8 (by omega)
  refine rL (s:=z.2.2.2.1) (Zb d rfl) ?_
  refine rL (s:=z.2.2.2.2.1) (Zb d rfl) ?_
  refine Zmb (S:=S) (Ym n.sy.1 n.sy.2 fun b _ k=>Zu a k) n.sy.2 (fun j m=>Aqq (L j m) a.size) (fun p hp=>v.2.2.2 p hp) wY (ht.ext a) fun M g9 Q t=>?_
  have d:=Zn d Q
  have a:=a.trans Q
  have i:=Zn i Q
  have ob:=ob.ext Q
  refine ⟨YH d rfl,?_⟩
  refine Zc8 (nm:=[115,121,115,116,101,109]) ob t (fun _ h=>h.2) (show 3<=12 by decide) ⟨show 6<=20 by decide,wY⟩ fun g10 ob I=>?_
  have d:=ZG d I (by omega)
  have a:=a.updS I fun j m=>by omega
  have i:=ZG i I (by omega)
  refine ⟨YH d rfl,?_⟩
  refine Zkc (S:=S) (Ym H.1 H.2 fun b _ k=>Zu a k) H.2 (fun j m=>Aqq (L j m) a.size) (fun p hp=>⟨(bL p hp).1,ZhN (T p hp) fun b _ k=>Zu a k,(bL p hp).2⟩) (by rw [show (A.map fun p=>Zcd p.2)=r.li.map Zcd from by rw [<- G,Azq];rfl];exact wL) (ht.ext a) fun M g11 B t=>?_
  rw [show (A.map fun p=>Zcd p.2)=r.li.map Zcd from by rw [<- G,Azq];rfl] at t
  have d:=Zn d B
  have a:=a.trans B
  have i:=Zn i B
  have ob:=ob.ext B
  refine Zc8 (nm:=[97,117,116,104,111,114,105,116,121]) ob t (fun _ h=>h.2) (show 4<=12 by decide) ⟨show 9<=20 by decide,wL⟩ fun g12 ob J=>?_
  have d:=ZG d J (by omega)
  have a:=a.updS J fun j m=>by omega
  have i:=ZG i J (by omega)
  obtain ⟨z2,T2,c2,w2,_,_⟩:=ob
  have hv:toV r=ZhK [([102,108,111,119],ZcX (r.fl.map ZdS)),([98,114,101,97,107],ZcX (r.br.map ZaQ)),([104,111,116],ZcX (r.ho.map Zig)),([115,121,115,116,101,109],ZcX (r.sy.map XD)),([97,117,116,104,111,114,105,116,121],ZcX (r.li.map Zcd))]:=by unfold toV;rw [ZEj,ZAz,ZGr,ZxC,Zrh]
  refine Zo (rI (Zb c2 rfl) (rS (Zb c2 rfl) (rL (s:=z2.2.2.1) (Zb c2 rfl) (rL (s:=z2.2.2.2.1) (Zb c2 rfl) (ZbF (x:=z2.2.2.1) (y:=z2.2.2.2.1) i rfl fun h5 u5 z5=>hk _ h5 (a.updS u5 fun j m=>by omega) ?_)))))
  rw [hv]
  exact w2.keep (fun b k hl=>Zt u5 hl fun e=>by have:=k.1;omega) fun b k=>⟨by have:=k.1;omega,by have:=k.2.1;omega⟩
end Go.Proofs.YtpjbjdheeemdiaaGreatDoor
namespace Go.Js
open Go
def RulesP.lens (r:RulesP):List Nat:=[r.fl.length,r.br.length,r.ho.length,r.sy.length,r.li.length]
theorem Zin {α:Type} {a b:List α} {i:Nat} {x y:α} (h:a.take i=b.take i) (c:a[i]?=some x) (d:b[i]?=some y) (e:x=y):a.take (i+1)=b.take (i+1):=by
  rw [Ayu,Ayu,h,c,d,e]
theorem Znc {α:Type} {a b:List α} {i:Nat} {x y:α} (c:a[i]?=some x) (d:b[i]?=some y) (e:x≠y):a≠b:=fun h=>e (by rw [h,d] at c;exact (Option.some.inj c).symm)
end Go.Js
namespace Go.Proofs.YtpjbjdheeemdiaaGreatDoor
open Go Go.Fw Go.Js
section
variable {h:Zc}
theorem ZBs (a b:FlowP):(bif ZcC (Zj a.res) (Zj b.res) then (bif ZcC (Zj a.org) (Zj b.org) then (bif a.thr ==b.thr then (bif a.cnt ==b.cnt then (bif (a.strat:Int) ==(b.strat:Int) then (bif ZcC (Zj a.ref) (Zj b.ref) then (bif (a.shape:Int) ==(b.shape:Int) then
    (bif a.warm ==b.warm then (bif a.queue ==b.queue then (bif a.clu ==b.clu then (bif a.id ==b.id then (bif a.fb ==b.fb then true else false) else false) else false) else false) else false) else false) else false) else false) else false) else false) else false) else false)=decide (a=b):=by
  obtain ⟨h,a2,a3,a4,a5,i,j,k,a9,c,d,a12⟩:=a
  obtain ⟨l,m,n,o,p,q,r,s,t,e,f,g⟩:=b
  simp only [Zas,Zv9]
  rw [Azx]
  simp
theorem ZzG (a b:Yx):(bif ZcC (Zj a.res) (Zj b.res) then (bif (a.grade:Int) ==(b.grade:Int) then (bif a.cnt ==b.cnt then (bif a.slow ==b.slow then (bif a.least ==b.least then (bif a.window ==b.window then (bif a.recover ==b.recover then true else false) else false) else false) else false) else false) else false) else false)=decide (a=b):=by
  obtain ⟨c,a2,a3,a4,a5,d,e⟩:=a
  obtain ⟨f,g,h,i,j,k,l⟩:=b
  simp only [Zas,Zv9]
  rw [Azx]
  simp
theorem ZvD (a b:Y4):(bif a.qps ==b.qps then (bif a.threads ==b.threads then (bif a.rt ==b.rt then (bif a.load ==b.load then (bif a.cpu ==b.cpu then true else false) else false) else false) else false) else false)=decide (a=b):=by
  obtain ⟨c,a2,a3,a4,a5⟩:=a
  obtain ⟨d,e,f,g,h⟩:=b
  rw [Azx]
  simp
theorem ZBf (a b:BL × Int):(bif ZcC (Zj a.1) (Zj b.1) then (bif a.2 ==b.2 then true else false) else false)=decide (a=b):=by
  obtain ⟨c,a2⟩:=a
  obtain ⟨d,e⟩:=b
  simp only [Zas]
  rw [Azx]
  simp
theorem ZBg {a b:Bool} {A B:Prop} (c:a≠b->A) (d:a=b->B):Zy (a !=b) A B:=⟨fun e=>c (by simpa using e),fun e=>d (by simpa using e)⟩
theorem Zrt {a b:Zew} {x y:Sl} (m:Row h x 2 (ZfF a.items)) (v:Row h y 2 (ZfF b.items)) {K:Bool->HP} (w:∀ h',Ext h h'->K (decide (a=b)) h'):XQ (ZFC x a) (ZFC y b) K h:=by
  unfold XQ ZbT
  refine YZ fun F G H P=>YZ fun l c3 z z3=>?_
  have c:=H.trans z
  have d:obj l h.size=some (.cells (ZlF (x,a)).toArray 85 (0,0)):=Zn G z
  have j:obj l F.size=some (.cells (ZlF (y,b)).toArray 85 (0,0)):=c3
  have no:∀ {p:Prop},a≠b->K false l:=fun n=>by have:=w l c;rw [decide_eq_false n] at this;exact this
  have A:=m.len
  have I:=v.len
  rw [Zm2] at A I
  have big:=m.big
  have cap:=m.cap
  refine rS (n:=Zj a.res) (Zb d rfl) (rS (n:=Zj b.res) (Zb j rfl) ?_)
  rw [Zas]
  by_cases f:¬ a.res=b.res
  ·rw [decide_eq_false f]
   exact Zm rfl (no (p:=True) fun e=>f (by rw [e]))
  have r:a.res=b.res:=Classical.not_not.1 f
  rw [decide_eq_true r]
  refine Zl rfl (rI (n:=a.index) (Zb d rfl) (rI (n:=b.index) (Zb j rfl) (Zar (fun n=>no (p:=True) fun e=>n (by rw [e])) fun B=>?_)))
  refine rI (n:=a.cnt) (Zb d rfl) (rI (n:=b.cnt) (Zb j rfl) (Zar (fun n=>no (p:=True) fun e=>n (by rw [e])) fun C=>?_))
  refine rI (n:=a.secs) (Zb d rfl) (rI (n:=b.secs) (Zb j rfl) (Zar (fun n=>no (p:=True) fun e=>n (by rw [e])) fun D=>?_))
  refine rL (s:=x) (Zb d rfl) (rL (s:=y) (Zb j rfl) (Zar (fun n=>no (p:=True) fun e=>n (by rw [e] at A;omega)) fun Q=>Za ?_))
  have hlen:a.items.length=b.items.length:=by omega
  refine Zv (fun p h'=>h'=l/\∃ i:Nat,p.1=i/\i<=a.items.length/\a.items.take i=b.items.take i) (fun p _=>(a.items.length - p.1).toNat) ⟨rfl,0,rfl,Ayk _,rfl⟩ ?_
  rintro ⟨R,u⟩ J ⟨rfl,i,E,L,o⟩
  dsimp only at E ⊢
  subst E
  refine rL (s:=x) (Zb d rfl) (Zq (fun M=>rL (s:=x) (Zb d rfl) ?_) fun N=>?_)
  ·have t:i<a.items.length:=by omega
   obtain ⟨p,hp⟩:∃ p,a.items[i]?=some p:=⟨_,Ayb t⟩
   obtain ⟨q,g⟩:∃ q,b.items[i]?=some q:=⟨_,Ayb (by omega)⟩
   refine Zqv (m.ext c) hp rfl (rL (s:=y) (Zb j rfl) (Zqv (v.ext c) g rfl ?_))
   rw [ZBf]
   by_cases e:p=q
   ·rw [decide_eq_true e]
    refine Zl rfl (Za ?_)
    rw [YA (by omega) (by omega)]
    exact ⟨⟨rfl,i+1,rfl,by omega,Zin o hp g e⟩,by omega⟩
   ·rw [decide_eq_false e]
    exact Zm rfl (no (p:=True) fun O=>Znc hp g e (by rw [O]))
  ·have:i=a.items.length:=by omega
   subst this
   rw [Awd (Aqo _),Awd (by omega)] at o
   have:a=b:=by
     obtain ⟨S,a2,a3,a4,a5⟩:=a
     obtain ⟨T,U,V,W,X⟩:=b
     simp only at r B C D o
     rw [r,B,C,D,o]
   have k:=w J c
   rw [decide_eq_true this] at k
   exact k
theorem Zp2 {a b:ZaI} {x y:Sl} (l:Row h x 1 (a.origins.map sV)) (v:Row h y 1 (b.origins.map sV)) {K:Bool->HP} (w:∀ h',Ext h h'->K (decide (a=b)) h'):XF (Zwh x a) (Zwh y b) K h:=by
  unfold XF Zbv
  refine YZ fun C D E M=>YZ fun g c3 z z3=>?_
  have c:=E.trans z
  have j:obj g h.size=some (.cells (Zgt (x,a)).toArray 95 (0,0)):=Zn D z
  have m:obj g C.size=some (.cells (Zgt (y,b)).toArray 95 (0,0)):=c3
  have no:∀ {p:Prop},a≠b->K false g:=fun n=>by have:=w g c;rw [decide_eq_false n] at this;exact this
  have F:=Zb3 l
  have N:=Zb3 v
  have big:=l.big
  have cap:=l.cap
  refine rS (n:=Zj a.res) (Zb j rfl) (rS (n:=Zj b.res) (Zb m rfl) ?_)
  rw [Zas]
  by_cases d:¬ a.res=b.res
  ·rw [decide_eq_false d]
   exact Zm rfl (no (p:=True) fun e=>d (by rw [e]))
  have r:a.res=b.res:=Classical.not_not.1 d
  rw [decide_eq_true r]
  refine Zl rfl (rBl (n:=a.white) (Zb j rfl) (rBl (n:=b.white) (Zb m rfl) (ZBg (fun n=>no (p:=True) fun e=>n (by rw [e])) fun A=>?_)))
  refine rL (s:=x) (Zb j rfl) (rL (s:=y) (Zb m rfl) (Zar (fun n=>no (p:=True) fun e=>n (by rw [e] at F;omega)) fun O=>Za ?_))
  have hlen:a.origins.length=b.origins.length:=by omega
  refine Zv (fun p h'=>h'=g/\∃ i:Nat,p.1=i/\i<=a.origins.length/\a.origins.take i=b.origins.take i) (fun p _=>(a.origins.length - p.1).toNat) ⟨rfl,0,rfl,Ayk _,rfl⟩ ?_
  rintro ⟨P,u⟩ G ⟨rfl,i,B,H,o⟩
  dsimp only at B ⊢
  subst B
  refine rL (s:=x) (Zb j rfl) (Zq (fun I=>rL (s:=x) (Zb j rfl) ?_) fun J=>?_)
  ·have t:i<a.origins.length:=by omega
   obtain ⟨p,hp⟩:∃ p,a.origins[i]?=some p:=⟨_,Ayb t⟩
   obtain ⟨q,f⟩:∃ q,b.origins[i]?=some q:=⟨_,Ayb (by omega)⟩
   refine ZgQ (l.ext c) hp rfl (rL (s:=y) (Zb m rfl) (ZgQ (v.ext c) f rfl ?_))
   rw [Zas]
   by_cases e:p=q
   ·rw [decide_eq_true e]
    refine Zl rfl (Za ?_)
    rw [YA (by omega) (by omega)]
    exact ⟨⟨rfl,i+1,rfl,by omega,Zin o hp f e⟩,by omega⟩
   ·rw [decide_eq_false e]
    exact Zm rfl (no (p:=True) fun L=>Znc hp f e (by rw [L]))
  ·have:i=a.origins.length:=by omega
   subst this
   rw [Awd (Aqo _),Awd (by omega)] at o
   have:a=b:=by
     obtain ⟨Q,a2,a3⟩:=a
     obtain ⟨R,S,T⟩:=b
     simp only at r A o
     rw [r,A,o]
   have k:=w G c
   rw [decide_eq_true this] at k
   exact k
theorem Znu {z:VTR} {r:RulesP} {S:Nat->Prop} (b:ZaB h S z r) {i:Nat} {n:Nat} (a:r.lens[i]?=some n) {k:Int} (g:k=(i:Int)+1) {K:Int->HP} (l:∀ h',Ext h h'->K n h'):Zam z k K h:=by
  unfold Zam ZcO
  subst g
  refine YZ fun f m o C=>Za ?_
  have d:obj f h.size=some (.cells (Zak z).toArray 28 (0,0)):=m
  have p:=ZaJ (c:=Zd5) (n:=12) (fun _=>rfl) b.fl.1 (by decide)
  have q:=ZaJ (c:=Zcu) (n:=7) (fun _=>rfl) b.br.1 (by decide)
  have t:=ZaJ (c:=ZbG) (n:=5) (fun _=>rfl) b.sy.1 (by decide)
  obtain ⟨hp,u,v,D⟩:=b.ho
  obtain ⟨w,x,y,E⟩:=b.li
  have A:=ZaJ (c:=ZlF) (n:=5) (fun _=>rfl) v.1 (by decide)
  have B:=ZaJ (c:=Zgt) (n:=3) (fun _=>rfl) y.1 (by decide)
  have m3:hp.length=r.ho.length:=by rw [<- u];simp
  have m5:w.length=r.li.length:=by rw [<- x];simp
  have e:=l f o
  have ne:∀ (i j:Nat),i≠j->(((i:Int)+1) ==((j:Int)+1))=false:=fun i j h=>by simp;omega
  match i,a with
  | 0,a=>cases a;exact Zh (Zm rfl (rL (s:=z.1) (Zb d rfl) (Za (by rw [p];exact e))))
  | 1,a=>cases a;exact Zh (Zl (ne 1 0 (by decide)) (Zh (Zm rfl (rL (s:=z.2.1) (Zb d rfl) (Za (by rw [q];exact e))))))
  | 2,a=>cases a;exact Zh (Zl (ne 2 0 (by decide)) (Zh (Zl (ne 2 1 (by decide)) (Zh (Zm rfl (rL (s:=z.2.2.1) (Zb d rfl) (Za (by rw [A,m3];exact e))))))))
  | 3,a=>cases a;exact Zh (Zl (ne 3 0 (by decide)) (Zh (Zl (ne 3 1 (by decide)) (Zh (Zl (ne 3 2 (by decide)) (Zh (Zm rfl (rL (s:=z.2.2.2.1) (Zb d rfl) (Za (by rw [t];exact e))))))))))
  | 4,a=>cases a;exact Zh (Zl (ne 4 0 (by decide)) (Zh (Zl (ne 4 1 (by decide)) (Zh (Zl (ne 4 2 (by decide)) (Zh (Zl (ne 4 3 (by decide)) (Zh (Zm rfl (rL (s:=z.2.2.2.2.1) (Zb d rfl) (Za (by rw [B,m5];exact e))))))))))))
  | n+5,a=>cases a
theorem ZgO {za zb:VTR} {f rb:RulesP} {S S':Nat->Prop} (w:ZaB h S za f) (Y:ZaB h S' zb rb) {K:Bool->HP} (hk:∀ h',Ext h h'->K (decide (f=rb)) h'):Zax za zb K h:=by
  unfold Zax Zdc
  refine YZ fun h2 c1 e1 z1=>YZ fun I c3 e3 z3=>Za ?_
  have r:=e1.trans e3
  have l:obj I h.size=some (.cells (Zak za).toArray 28 (0,0)):=Zn c1 e3
  have m:obj I h2.size=some (.cells (Zak zb).toArray 28 (0,0)):=c3
  have no:∀ {h':Zc},Ext I h'->f≠rb->K false h':=fun e n=>by have:=hk _ (r.trans e);rw [decide_eq_false n] at this;exact this
  obtain ⟨Z,aa,J,ay⟩:=id w.ho
  obtain ⟨ab,ad,L,az⟩:=id w.li
  obtain ⟨ae,af,aA,aB⟩:=id Y.ho
  obtain ⟨ag,ah,aC,aD⟩:=id Y.li
  have bf:f.lens.length=5:=rfl
  have aP:rb.lens.length=5:=rfl
  refine Zv (fun p h'=>Ext I h'/\∃ i:Nat,p.1=(i:Int)+1/\i<=5/\f.lens.take i=rb.lens.take i) (fun p _=>(6 - p.1).toNat) ⟨Ext.refl _,0,rfl,Ayk _,rfl⟩ ?_
  rintro ⟨i_,u⟩ h7 ⟨W,i,t,B,hq⟩
  dsimp only at t ⊢
  subst t
  have C:=Zn l W
  have A:=Zn m W
  refine Zq (fun D=>?_) fun E=>Za ?_
  ·have v:i<5:=by omega
   obtain ⟨p,hp⟩:∃ p,f.lens[i]?=some p:=⟨_,Ayb (by omega)⟩
   obtain ⟨q,d⟩:∃ q,rb.lens[i]?=some q:=⟨_,Ayb (by omega)⟩
   refine rL (s:=za.1) (Zb C rfl) (rL (s:=za.2.1) (Zb C rfl) (rL (s:=za.2.2.1) (Zb C rfl) (rL (s:=za.2.2.2.1) (Zb C rfl) (rL (s:=za.2.2.2.2.1) (Zb C rfl) ?_))))
   refine rL (s:=zb.1) (Zb A rfl) (rL (s:=zb.2.1) (Zb A rfl) (rL (s:=zb.2.2.1) (Zb A rfl) (rL (s:=zb.2.2.2.1) (Zb A rfl) (rL (s:=zb.2.2.2.2.1) (Zb A rfl) ?_))))
   refine Znu (z:=za) (w.ext (r.trans W)) hp rfl fun bg M=>⟨?_,Znu (z:=zb) (Y.ext (r.trans (W.trans M))) d rfl fun bh aj=>Zar (fun n=>no (W.trans (M.trans aj)) fun e=>n ?_) fun q2=>Za ?_⟩
   ·have c:=Zn A M
    refine ⟨?_,?_,?_,?_,?_,trivial⟩<;>rw [Zai]<;>exact Zb c rfl
   ·rw [e,d] at hp
    cases hp
    rfl
   ·rw [ZsM (by omega) (by omega)]
    exact ⟨⟨W.trans (M.trans aj),i+1,by omega,by omega,Zin hq hp d (by omega)⟩,by omega⟩
  have aE:i=5:=by omega
  subst aE
  rw [Awd (by omega),Awd (by omega)] at hq
  obtain ⟨n1,n2,n3,n4,n5⟩:f.fl.length=rb.fl.length/\f.br.length=rb.br.length/\f.ho.length=rb.ho.length/\f.sy.length=rb.sy.length/\f.li.length=rb.li.length:=by
    simp only [RulesP.lens,Axy,and_true] at hq
    exact hq
  have bj:=ZaJ (c:=Zd5) (n:=12) (fun _=>rfl) w.fl.1 (by decide)
  have aQ:=w.fl.1.big
  have aR:=w.fl.1.cap
  refine Zv (fun p h'=>Ext I h'/\∃ i:Nat,p.1=i/\i<=f.fl.length/\f.fl.take i=rb.fl.take i) (fun p _=>(f.fl.length - p.1).toNat) ⟨W,0,rfl,Ayk _,rfl⟩ ?_
  rintro ⟨i_,u⟩ g0 ⟨f0,i,t,B,N⟩
  dsimp only at t ⊢
  subst t
  have ak:=Zn l f0
  have aF:=Zn m f0
  have al:=r.trans f0
  refine rL (s:=za.1) (Zb ak rfl) (Zq (fun D=>rL (s:=za.1) (Zb ak rfl) ?_) fun E=>Za ?_)
  ·have v:i<f.fl.length:=by omega
   obtain ⟨p,hp⟩:∃ p,f.fl[i]?=some p:=⟨_,Ayb v⟩
   obtain ⟨q,d⟩:∃ q,rb.fl[i]?=some q:=⟨_,Ayb (by omega)⟩
   refine Zb0 (c:=Zd5) (fun _=>rfl) (w.fl.1.ext al) (by decide) hp rfl fun b o g=>⟨_,g 0 _ rfl,_,g 1 _ rfl,_,g 2 _ rfl,_,g 3 _ rfl,_,g 4 _ rfl,_,g 5 _ rfl,_,g 6 _ rfl,_,g 7 _ rfl,_,g 8 _ rfl,_,g 9 _ rfl,_,g 10 _ rfl,_,g 11 _ rfl,rL (s:=zb.1) (Zb aF rfl) (Zb0 (c:=Zd5) (fun _=>rfl) (Y.fl.1.ext al) (by decide) d rfl fun b' o' j=>⟨_,j 0 _ rfl,_,j 1 _ rfl,_,j 2 _ rfl,_,j 3 _ rfl,_,j 4 _ rfl,_,j 5 _ rfl,_,j 6 _ rfl,_,j 7 _ rfl,_,j 8 _ rfl,_,j 9 _ rfl,_,j 10 _ rfl,_,j 11 _ rfl,?_⟩)⟩
   dsimp only
   rw [ZBs p q]
   by_cases e:p=q
   ·rw [decide_eq_true e]
    refine Zl rfl (Za ?_)
    rw [YA (by omega) (by omega)]
    exact ⟨⟨f0,i+1,rfl,by omega,Zin N hp d e⟩,by omega⟩
   ·rw [decide_eq_false e]
    exact Zm rfl (no f0 fun O=>Znc hp d e (by rw [O]))
  have aG:i=f.fl.length:=by omega
  subst aG
  rw [Awd (Aqo _),Awd (by omega)] at N
  have bk:=ZaJ (c:=Zcu) (n:=7) (fun _=>rfl) w.br.1 (by decide)
  have aS:=w.br.1.big
  have aT:=w.br.1.cap
  refine Zv (fun p h'=>Ext I h'/\∃ i:Nat,p.1=i/\i<=f.br.length/\f.br.take i=rb.br.take i) (fun p _=>(f.br.length - p.1).toNat) ⟨f0,0,rfl,Ayk _,rfl⟩ ?_
  rintro ⟨i_,u⟩ g1 ⟨f1,i,t,B,P⟩
  dsimp only at t ⊢
  subst t
  have an:=Zn l f1
  have aH:=Zn m f1
  have ao:=r.trans f1
  refine rL (s:=za.2.1) (Zb an rfl) (Zq (fun D=>rL (s:=za.2.1) (Zb an rfl) ?_) fun E=>Za ?_)
  ·have v:i<f.br.length:=by omega
   obtain ⟨p,hp⟩:∃ p,f.br[i]?=some p:=⟨_,Ayb v⟩
   obtain ⟨q,d⟩:∃ q,rb.br[i]?=some q:=⟨_,Ayb (by omega)⟩
   refine Zb0 (c:=Zcu) (fun _=>rfl) (w.br.1.ext ao) (by decide) hp rfl fun b o g=>⟨_,g 0 _ rfl,_,g 1 _ rfl,_,g 2 _ rfl,_,g 3 _ rfl,_,g 4 _ rfl,_,g 5 _ rfl,_,g 6 _ rfl,rL (s:=zb.2.1) (Zb aH rfl) (Zb0 (c:=Zcu) (fun _=>rfl) (Y.br.1.ext ao) (by decide) d rfl fun b' o' j=>⟨_,j 0 _ rfl,_,j 1 _ rfl,_,j 2 _ rfl,_,j 3 _ rfl,_,j 4 _ rfl,_,j 5 _ rfl,_,j 6 _ rfl,?_⟩)⟩
   dsimp only
   rw [ZzG p q]
   by_cases e:p=q
   ·rw [decide_eq_true e]
    refine Zl rfl (Za ?_)
    rw [YA (by omega) (by omega)]
    exact ⟨⟨f1,i+1,rfl,by omega,Zin P hp d e⟩,by omega⟩
   ·rw [decide_eq_false e]
    exact Zm rfl (no f1 fun O=>Znc hp d e (by rw [O]))
  have aI:i=f.br.length:=by omega
  subst aI
  rw [Awd (Aqo _),Awd (by omega)] at P
  have bm:=ZaJ (c:=ZlF) (n:=5) (fun _=>rfl) J.1 (by decide)
  have bo:Z.length=f.ho.length:=by rw [<- aa];simp
  have bp:ae.length=rb.ho.length:=by rw [<- af];simp
  have aU:=J.1.big
  have aV:=J.1.cap
  refine Zv (fun p h'=>Ext I h'/\∃ i:Nat,p.1=i/\i<=f.ho.length/\f.ho.take i=rb.ho.take i) (fun p _=>(f.ho.length - p.1).toNat) ⟨f1,0,rfl,Ayk _,rfl⟩ ?_
  rintro ⟨i_,u⟩ g2 ⟨f2,i,t,B,Q⟩
  dsimp only at t ⊢
  subst t
  have X:=Zn l f2
  have aq:=Zn m f2
  have R:=r.trans f2
  refine rL (s:=za.2.2.1) (Zb X rfl) (Zq (fun D=>rL (s:=za.2.2.1) (Zb X rfl) ?_) fun E=>Za ?_)
  ·have v:i<f.ho.length:=by omega
   obtain ⟨p,hp⟩:∃ p,Z[i]?=some p:=⟨_,Ayb (by omega)⟩
   obtain ⟨q,d⟩:∃ q,ae[i]?=some q:=⟨_,Ayb (by omega)⟩
   have F:f.ho[i]?=some p.2:=by rw [<- aa,Awz,hp];rfl
   have G:rb.ho[i]?=some q.2:=by rw [<- af,Awz,d];rfl
   refine Zb0 (c:=ZlF) (fun _=>rfl) (J.1.ext R) (by decide) hp rfl fun b o g=>⟨_,g 0 _ rfl,_,g 1 _ rfl,_,g 2 _ rfl,_,g 3 _ rfl,p.1,g 4 _ rfl,rL (s:=zb.2.2.1) (Zb aq rfl) (Zb0 (c:=ZlF) (fun _=>rfl) (aA.1.ext R) (by decide) d rfl fun b' o' j=>⟨_,j 0 _ rfl,_,j 1 _ rfl,_,j 2 _ rfl,_,j 3 _ rfl,q.1,j 4 _ rfl,?_⟩)⟩
   refine Zrt (a:=p.2) (b:=q.2) (x:=p.1) (y:=q.1) ((ay p (Axq hp)).1.ext R) ((aB q (Axq d)).1.ext R) fun h9 T=>⟨YH (Zn aq T) rfl,YH (Zn X T) rfl,?_⟩
   by_cases e:p.2=q.2
   ·rw [decide_eq_true e]
    refine Zl rfl (Za ?_)
    rw [YA (by omega) (by omega)]
    exact ⟨⟨f2.trans T,i+1,rfl,by omega,Zin Q F G e⟩,by omega⟩
   ·rw [decide_eq_false e]
    exact Zm rfl (no (f2.trans T) fun O=>Znc F G e (by rw [O]))
  have aJ:i=f.ho.length:=by omega
  subst aJ
  rw [Awd (Aqo _),Awd (by omega)] at Q
  have bs:=ZaJ (c:=ZbG) (n:=5) (fun _=>rfl) w.sy.1 (by decide)
  have aW:=w.sy.1.big
  have aX:=w.sy.1.cap
  refine Zv (fun p h'=>Ext I h'/\∃ i:Nat,p.1=i/\i<=f.sy.length/\f.sy.take i=rb.sy.take i) (fun p _=>(f.sy.length - p.1).toNat) ⟨f2,0,rfl,Ayk _,rfl⟩ ?_
  rintro ⟨i_,u⟩ g3 ⟨f3,i,t,B,U⟩
  dsimp only at t ⊢
  subst t
  have ar:=Zn l f3
  have aK:=Zn m f3
  have au:=r.trans f3
  refine rL (s:=za.2.2.2.1) (Zb ar rfl) (Zq (fun D=>rL (s:=za.2.2.2.1) (Zb ar rfl) ?_) fun E=>Za ?_)
  ·have v:i<f.sy.length:=by omega
   obtain ⟨p,hp⟩:∃ p,f.sy[i]?=some p:=⟨_,Ayb v⟩
   obtain ⟨q,d⟩:∃ q,rb.sy[i]?=some q:=⟨_,Ayb (by omega)⟩
   refine Zb0 (c:=ZbG) (fun _=>rfl) (w.sy.1.ext au) (by decide) hp rfl fun b o g=>⟨_,g 0 _ rfl,_,g 1 _ rfl,_,g 2 _ rfl,_,g 3 _ rfl,_,g 4 _ rfl,rL (s:=zb.2.2.2.1) (Zb aK rfl) (Zb0 (c:=ZbG) (fun _=>rfl) (Y.sy.1.ext au) (by decide) d rfl fun b' o' j=>⟨_,j 0 _ rfl,_,j 1 _ rfl,_,j 2 _ rfl,_,j 3 _ rfl,_,j 4 _ rfl,?_⟩)⟩
   dsimp only
   rw [ZvD p q]
   by_cases e:p=q
   ·rw [decide_eq_true e]
    refine Zl rfl (Za ?_)
    rw [YA (by omega) (by omega)]
    exact ⟨⟨f3,i+1,rfl,by omega,Zin U hp d e⟩,by omega⟩
   ·rw [decide_eq_false e]
    exact Zm rfl (no f3 fun O=>Znc hp d e (by rw [O]))
  have aL:i=f.sy.length:=by omega
  subst aL
  rw [Awd (Aqo _),Awd (by omega)] at U
  have bt:=ZaJ (c:=Zgt) (n:=3) (fun _=>rfl) L.1 (by decide)
  have bw:ab.length=f.li.length:=by rw [<- ad];simp
  have bx:ag.length=rb.li.length:=by rw [<- ah];simp
  have aY:=L.1.big
  have aZ:=L.1.cap
  refine Zv (fun p h'=>Ext I h'/\∃ i:Nat,p.1=i/\i<=f.li.length/\f.li.take i=rb.li.take i) (fun p _=>(f.li.length - p.1).toNat) ⟨f3,0,rfl,Ayk _,rfl⟩ ?_
  rintro ⟨i_,u⟩ g4 ⟨f4,i,t,B,V⟩
  dsimp only at t ⊢
  subst t
  have l:=Zn l f4
  have m:=Zn m f4
  have H:=r.trans f4
  refine rL (s:=za.2.2.2.2.1) (Zb l rfl) (Zq (fun D=>rL (s:=za.2.2.2.2.1) (Zb l rfl) ?_) fun E=>?_)
  ·have v:i<f.li.length:=by omega
   obtain ⟨p,hp⟩:∃ p,ab[i]?=some p:=⟨_,Ayb (by omega)⟩
   obtain ⟨q,d⟩:∃ q,ag[i]?=some q:=⟨_,Ayb (by omega)⟩
   have F:f.li[i]?=some p.2:=by rw [<- ad,Awz,hp];rfl
   have G:rb.li[i]?=some q.2:=by rw [<- ah,Awz,d];rfl
   refine Zb0 (c:=Zgt) (fun _=>rfl) (L.1.ext H) (by decide) hp rfl fun b o g=>⟨_,g 0 _ rfl,_,g 1 _ rfl,p.1,g 2 _ rfl,rL (s:=zb.2.2.2.2.1) (Zb m rfl) (Zb0 (c:=Zgt) (fun _=>rfl) (aC.1.ext H) (by decide) d rfl fun b' o' j=>⟨_,j 0 _ rfl,_,j 1 _ rfl,q.1,j 2 _ rfl,?_⟩)⟩
   refine Zp2 (a:=p.2) (b:=q.2) (x:=p.1) (y:=q.1) ((az p (Axq hp)).1.ext H) ((aD q (Axq d)).1.ext H) fun h9 T=>⟨YH (Zn m T) rfl,YH (Zn l T) rfl,?_⟩
   by_cases e:p.2=q.2
   ·rw [decide_eq_true e]
    refine Zl rfl (Za ?_)
    rw [YA (by omega) (by omega)]
    exact ⟨⟨f4.trans T,i+1,rfl,by omega,Zin V F G e⟩,by omega⟩
   ·rw [decide_eq_false e]
    exact Zm rfl (no (f4.trans T) fun O=>Znc F G e (by rw [O]))
  have aM:i=f.li.length:=by omega
  subst aM
  rw [Awd (Aqo _),Awd (by omega)] at V
  have:f=rb:=by
    obtain ⟨a1,a2,a3,a4,a5⟩:=f
    obtain ⟨b1,b2,b3,b4,b5⟩:=rb
    simp only at N P Q U V
    rw [N,P,Q,U,V]
  have k:=hk g4 H
  rw [decide_eq_true this] at k
  exact k
end
end Go.Proofs.YtpjbjdheeemdiaaGreatDoor
namespace Go.Proofs.YtpjbjdheeemdiaaGreatDoor
open Go Go.Fw Go.Js
section
variable {h:Zc}
abbrev zR:VTR:=(⟨none,0,0⟩,⟨none,0,0⟩,⟨none,0,0⟩,⟨none,0,0⟩,⟨none,0,0⟩,())
theorem ZfY {z:VTR} {T:TypeId} {K:Nat->HP} (a:∀ b h',Ext h h'->obj h' b=some (.cells (Zak z).toArray T (0,0))->sz h<=b->K b h'):newC h [.slice none 0 0,.slice none 0 0,.slice none 0 0,.slice none 0 0,.slice none 0 0] T fun b c =>
    sts c b 0 [.slice z.1.ptr z.1.len z.1.cap,.slice z.2.1.ptr z.2.1.len z.2.1.cap,.slice z.2.2.1.ptr z.2.2.1.len z.2.2.1.cap,.slice z.2.2.2.1.ptr z.2.2.2.1.len z.2.2.2.1.cap,.slice z.2.2.2.2.1.ptr z.2.2.2.2.1.len z.2.2.2.2.1.cap] (K b):=by
  refine YZ fun i c2 d z2=>ZfK c2 (by show 5<=5;omega) rfl fun e c3 f z3=>a _ e (d.updS f fun j g=>by subst g;exact Aqo _) c3 (Aqo _)
theorem rV4 {b:Nat} {z:VT5} {T:TypeId} {f:Nat × Nat} {K:Int->ByteArray->Sl->Sl->Prop} (c:obj h b=some (.cells (Xq z).toArray T f)) (a:K z.1 z.2.1 z.2.2.1 z.2.2.2.1):ldI h b 0 .u8 fun t1=>ldS h b (0+1) fun t2=>ldL h b (0+2) fun t3=>ldL h b (0+3) fun t4=>K t1 t2 t3 t4 :=
  rI (Zb c rfl) (rS (Zb c rfl) (rL (s:=z.2.2.1) (Zb c rfl) (rL (s:=z.2.2.2.1) (Zb c rfl) a)))
theorem rR5 {b:Nat} {z:VTR} {T:TypeId} {f:Nat × Nat} {K:Sl->Sl->Sl->Sl->Sl->Prop} (c:obj h b=some (.cells (Zak z).toArray T f)) (a:K z.1 z.2.1 z.2.2.1 z.2.2.2.1 z.2.2.2.2.1):ldL h b 0 fun t1=>ldL h b (0+1) fun t2=>ldL h b (0+2) fun t3=>ldL h b (0+3) fun t4=>ldL h b (0+4) fun t5=>K t1 t2 t3 t4 t5 :=
  rL (s:=z.1) (Zb c rfl) (rL (s:=z.2.1) (Zb c rfl) (rL (s:=z.2.2.1) (Zb c rfl) (rL (s:=z.2.2.2.1) (Zb c rfl) (rL (s:=z.2.2.2.2.1) (Zb c rfl) a))))
theorem ZtX:RulesP.fit RulesP.zero:=⟨(fun _ h=>by cases h),(fun _ h=>by cases h),(fun _ h=>by cases h),(fun _ h=>by cases h)⟩
structure Dec (s:BL) (r:RulesP) (e a:Nat):Prop where
  ok:e=0->a=0/\∃ v,Zdo s = .ok v/\Zho v = .ok r
  er:e≠0->r=RulesP.zero/\∀ v,Zdo s = .ok v->∃ k i,Zho v = .error (k,i,e)
theorem Zgl {s:ByteArray} (ht:ZaT h) (hh:9<=sz h) {K:(Sl × Sl × Sl × Sl × Sl × Unit)->Int->Int->HP} (J:∀ x r (e a:Nat) h',Ext h h'->ZaB h' (fun b=>sz h<=b) x r->RulesP.fit r->Dec s.data.toList r e a->K x e a h'):Zad s K h:=by
  unfold Zad ZeM
  refine YZ fun C U L z1=>Za (Za (Zyj (ht.ext L) (by have:=L.size;have:sz h=h.size:=rfl;have:sz C=C.size:=rfl;omega) fun z e n b t T V b1 b2 g9=>Za (Za ?_)))
  have s0:sz h=h.size:=rfl
  have s1:sz C=C.size:=rfl
  have s9:sz t=t.size:=rfl
  have M:obj t h.size=some (.cells (Zak zR).toArray 28 (0,0)):=Zn U T
  have o:=L.trans T
  have W:h.size<sz C:=by omega
  have d:∀ {v:JV},ZaS t (fun j=>sz C<=j/\j<sz t) z v->wV v<=1048576->(∀ r,Zho v = .ok r->Dec s.data.toList r 0 0)->(∀ k i e,Zho v = .error (k,i,e)->e≠0->Dec s.data.toList RulesP.zero e 0) ->
      ldI t b 0 .u8 fun t18=>ldS t b (0+1) fun t19=>ldL t b (0+2) fun t20=>ldL t b (0+3) fun t21=>XW (t18,t19,t20,t21,()) (fun t22 t23 t24 t25 y =>
        newC y [.slice none 0 0,.slice none 0 0,.slice none 0 0,.slice none 0 0,.slice none 0 0] 28 fun f N =>
        sts N f 0 [.slice t22.1.ptr t22.1.len t22.1.cap,.slice t22.2.1.ptr t22.2.1.len t22.2.1.cap,.slice t22.2.2.1.ptr t22.2.2.1.len t22.2.2.1.cap,.slice t22.2.2.2.1.ptr t22.2.2.2.1.len t22.2.2.2.1.cap,.slice t22.2.2.2.2.1.ptr t22.2.2.2.2.1.len t22.2.2.2.2.1.cap] fun g =>
        Zi t23 fun A=>Zi t24 fun x=>Zi t25 fun X =>
        ldL g f 0 fun t32=>ldL g f (0+1) fun t33=>ldL g f (0+2) fun t34=>ldL g f (0+3) fun t35=>ldL g f (0+4) fun t36 =>
        sts g h.size 0 [.slice t32.ptr t32.len t32.cap,.slice t33.ptr t33.len t33.cap,.slice t34.ptr t34.len t34.cap,.slice t35.ptr t35.len t35.cap,.slice t36.ptr t36.len t36.cap] fun c =>
        Zi A fun t38=>Zi 0 fun t39 =>
        ldL c h.size 0 fun t40=>ldL c h.size (0+1) fun t41=>ldL c h.size (0+2) fun t42=>ldL c h.size (0+3) fun t43=>ldL c h.size (0+4) fun t44=>K (t40,t41,t42,t43,t44,()) t38 t39 c) t:=by
    intro v m hw O P
    refine rV4 V (Zn4 (z:=z) m (fun j I=>I.2) (by omega) (ht.ext o) (by have:=o.size;omega) (fun x r y D F G p=>?_) fun k i e y D E p=>?_)
    ·refine ZfY (z:=x) fun f g l B _=>Za (Za (Za (rR5 B (ZfK (Zn (Zn M p) l) (by show 5<=5;omega) rfl fun c c37 u z37=>Za (Za (rR5 (z:=x) c37 (J x r 0 0 c ?_ ?_ G (O r D))))))))
     ·exact (o.trans (p.trans l)).updS u fun j I=>by omega
     ·exact ((F.ext l).keep fun b Y Z=>Zt u Z fun e=>by omega).mono fun b _ Y=>by omega
    ·refine ZfY (z:=zR) fun f g l B _=>Za (Za (Za (rR5 B (ZfK (Zn (Zn M p) l) (by show 5<=5;omega) rfl fun c c37 u z37=>Za (Za (rR5 (z:=zR) c37 (J zR RulesP.zero e 0 c ?_ (ZaB.zero _ _) ZtX (P k i e D E))))))))
     exact (o.trans (p.trans l)).updS u fun j I=>by omega
  cases hp:Zdo s.data.toList with
  | ok v =>
    rw [hp] at g9
    obtain ⟨m,rfl,rfl⟩:=g9
    refine Zl rfl (d m (ZEB hp) (fun r F=>⟨fun _=>⟨rfl,v,hp,F⟩,fun n=>absurd rfl n⟩) fun k i e D E=>⟨fun H=>absurd H E,fun _=>⟨rfl,fun w hw=>?_⟩⟩)
    rw [hp] at hw
    cases hw
    exact ⟨k,i,D⟩
  | err e' k' =>
    rw [hp] at g9
    obtain ⟨m,rfl,rfl⟩:=g9
    have no:∀ v,Zdo s.data.toList = .ok v->False:=fun v m=>by rw [hp] at m;cases m
    refine Zar (fun E=>?_) fun h0=>?_
    ·refine ZfK M (by show 5<=5;omega) rfl fun Q R S ad=>Za (Za (rR5 (z:=zR) R (J zR RulesP.zero e' k' Q (o.updS S fun j I=>by omega) (ZaB.zero _ _) ZtX ⟨fun H=>absurd H (by omega),fun _=>⟨rfl,fun v m=>absurd m (by rw [hp];intro q;cases q)⟩⟩)))
    ·refine d m (by decide) (fun r F=>by cases F) fun k i e D E=>⟨fun H=>absurd H E,fun _=>⟨rfl,fun v m=>absurd m (by rw [hp];intro q;cases q)⟩⟩
def lvA:BL:=[123,34,102,108,111,119,34,58,91,123,34,114,101,115,111,117,114,99,101,34,58,34,97,34,44,34,99,111,117,110,116,34,58,53,125,93,125]
def lvB:BL:=[123,34,102,108,111,119,34,58,91,123,34,114,101,115,111,117,114,99,101,34,58,34,97,34,44,34,99,117,111,110,116,34,58,53,125,93,125]
def rlA:FlowP:=⟨[97],tx "default", false,5,0,[],0,0,0,false,0,false⟩
def jA (n:BL):JV:=⟨7,[],[tx "flow"],.cons 6 [] [] (.cons 7 [] [tx "resource", n] (.cons 5 [97] [] .nil (.cons 4 [53] [] .nil .nil)) .nil) .nil⟩
theorem ZN2:Zdo lvA = .ok (jA (tx "count")):=by kernel_rfl
theorem ZN1:Zdo lvB = .ok (jA (tx "cuont")):=by kernel_rfl
theorem ZGO:Zho (jA (tx "count")) = .ok ⟨[rlA],[],[],[],[]⟩:=by kernel_rfl
theorem ZGN:Zho (jA (tx "cuont")) = .error (1,0,26):=by kernel_rfl
theorem ZjH (ht:ZaT h) (D:9<=sz h) {K:Bool->HP} (E:∀ h',Ext h h'->K true h'):Zay K h:=by
  unfold Zay Zdd
  refine Zgl ht D fun x r e a V F G _ hd=>ZfY (z:=x) fun b H B I _=>Za (Za ?_)
  have l:=F.trans B
  have hp:(ByteArray.mk #[123,34,102,108,111,119,34,58,91,123,34,114,101,115,111,117,114,99,101,34,58,34,97,34,44,34,99,111,117,110,116,34,58,53,125,93,125]).data.toList=lvA:=rfl
  rw [hp] at hd
  have he:e=0:=by
    rcases Aqw e with p | p
    ·exact p
    ·obtain ⟨_,q⟩:=hd.er (by omega)
     obtain ⟨k,i,q⟩:=q _ ZN2
     rw [ZGO] at q
     cases q
  obtain ⟨J,v,t,u⟩:=hd.ok he
  rw [ZN2] at t
  cases t
  rw [ZGO] at u
  cases u
  subst he J
  have L:sz h<=sz H:=l.size
  refine Zgl (ht.ext l) (by omega) fun M W f a2 X N O _ m=>ZfY (z:=M) fun P w y C _=>Za (Za ?_)
  have A:(ByteArray.mk #[123,34,102,108,111,119,34,58,91,123,34,114,101,115,111,117,114,99,101,34,58,34,97,34,44,34,99,117,111,110,116,34,58,53,125,93,125]).data.toList=lvB:=rfl
  rw [A] at m
  have Q:f=26:=by
    rcases Aqw f with p | p
    ·obtain ⟨_,v,t,u⟩:=m.ok p
     rw [ZN1] at t
     cases t
     rw [ZGN] at u
     cases u
    ·obtain ⟨_,q⟩:=m.er (by omega)
     obtain ⟨k,i,q⟩:=q _ ZN1
     rw [ZGN] at q
     cases q
     rfl
  subst Q
  have d:=N.trans y
  have j:=Zn I d
  have row:=(G.ext (B.trans d)).fl.1
  have R:x.1.len=1:=ZaJ (c:=Zd5) (n:=12) (fun _=>rfl) row (by decide)
  refine Zm rfl (Zm rfl (rL (s:=x.1) (Zb j rfl) (Zm (by rw [R];rfl) (rL (s:=x.1) (Zb j rfl) (Zb0 (c:=Zd5) (fun _=>rfl) row (by decide) (i:=0) (a:=rlA) rfl rfl fun S o g=>⟨_,g 3 _ rfl,Zm rfl (rL (s:=x.1) (Zb j rfl) (Zb0 (c:=Zd5) (fun _=>rfl) row (by decide) (i:=0) (a:=rlA) rfl rfl fun T U g18=>⟨_,g18 1 _ rfl,?_⟩))⟩)))))
  refine Zm ?_ (Zh (E w (l.trans d)))
  show ZcC (Zj (tx "default")) (Zj [100,101,102,97,117,108,116])=true
  rw [Zas]
  exact decide_eq_true (by kernel_rfl)
end
end Go.Proofs.YtpjbjdheeemdiaaGreatDoor
namespace Go.Js
open Go Go.Fw Go.Proofs.YtpjbjdheeemdiaaGreatDoor
end Go.Js
namespace Go.Proofs.YtpjbjdheeemdiaaGreatDoor
open Go Go.Fw Go.Js
section
variable {h:Zc}
end
end Go.Proofs.YtpjbjdheeemdiaaGreatDoor
namespace Go.Js
open Go Go.Fw Go.Proofs.YtpjbjdheeemdiaaGreatDoor
end Go.Js
namespace Go.Proofs.YtpjbjdheeemdiaaGreatDoor
open Go Go.Fw Go.Js
section
variable {h:Zc}
end
end Go.Proofs.YtpjbjdheeemdiaaGreatDoor
namespace Go.Proofs.YtpjbjdheeemdiaaGreatDoor
open Go Go.Fw Go.Lib
theorem tyR:TyR Tryz.prog 28 75 80 85 91 95 203 9 4 3 72 73 78 22 23 24 25 26 83 31 where
  R:=⟨_,Tryz.underlying28,by kernel_rfl,by kernel_rfl⟩
  F:=⟨_,Tryz.underlying75,by kernel_rfl,by kernel_rfl⟩
  B:=⟨_,Tryz.underlying80,by kernel_rfl,by kernel_rfl⟩
  H:=⟨_,Tryz.underlying85,by kernel_rfl,by kernel_rfl⟩
  Y:=⟨_,Tryz.underlying91,by kernel_rfl,by kernel_rfl⟩
  L:=⟨_,Tryz.underlying95,by kernel_rfl,by kernel_rfl⟩
  I:=⟨_,Tryz.underlying203,by kernel_rfl,by kernel_rfl⟩
  s:=Tryz.underlying9
  b:=Tryz.underlying4
  i:=Tryz.underlying3
  sg:=Tryz.underlying72
  sh:=Tryz.underlying73
  g:=Tryz.underlying78
  lF:=Tryz.underlying22
  lB:=Tryz.underlying23
  lH:=Tryz.underlying24
  lY:=Tryz.underlying25
  lL:=Tryz.underlying26
  lI:=Tryz.underlying83
  lT:=Tryz.underlying31
  one:=by kernel_rfl
abbrev ZlE:List (String × DataW Unit):=[("math/bits.deBruijn32tab", Rows.laid_math_bits_deBruijn32tab),("math/bits.deBruijn64tab", Rows.laid_math_bits_deBruijn64tab),("internal/strconv.uint64pow10", Rows.laid_internal_strconv_uint64pow10),("unicode/utf8.acceptRanges", Rows.laid_unicode_utf8_acceptRanges),("strconv.ErrRange", Rows.laid_strconv_ErrRange),("strconv.ErrSyntax", Rows.laid_strconv_ErrSyntax),("unicode/utf8.first", Rows.laid_unicode_utf8_first)]
theorem Ztp:(ZlE.all fun x=>x.2.handleName?.isNone)=true:=by kernel_rfl
set_option maxRecDepth 10000 in
theorem ZAE {W:World} (m:laidMetH Tryz.prog ZlE W) (j:W.ShapedOpen Tryz.prog):ZaT W.heap/\9<=sz W.heap:=by
  have g:∀ w:World,w.heap=W.heap->laidMet Tryz.prog ZlE w:=fun w hw=>by
    have:=m.of_heap hw.symm
    rw [MakeChecks.laidMetH_plain _ _ _ Ztp] at this
    exact this
  have k:=g W rfl
  refine ⟨⟨fun w hw=>?_,fun w hw=>?_,?_,?_,?_⟩,?_⟩
  ·have c:=laidMet.reads (g w hw) (n:= "unicode/utf8.first") (d:=Rows.laid_unicode_utf8_first) (by simp [ZlE])
   have l:=laidMet.reads (g w hw) (n:= "unicode/utf8.acceptRanges") (d:=Rows.laid_unicode_utf8_acceptRanges) (by simp [ZlE])
   rw [ZBw] at c
   rw [ZzS] at l
   exact ZxA c l
  ·have c:=laidMet.reads (g w hw) (n:= "internal/strconv.uint64pow10") (d:=Rows.laid_internal_strconv_uint64pow10) (by simp [ZlE])
   rw [ZGD] at c
   exact Zsu ZAZ ZAY Tryz.underlying332 Tryz.underlying182 ZNP ZNQ c
  ·exact Zse ZvV ZvU (laidMet.reads k (n:= "strconv.ErrRange") (d:=Rows.laid_strconv_ErrRange) (by simp [ZlE]))
  ·exact Zse ZAH ZAG (laidMet.reads k (n:= "strconv.ErrSyntax") (d:=Rows.laid_strconv_ErrSyntax) (by simp [ZlE]))
  ·obtain ⟨cs,p,q,r⟩:=j.1 _ _ _ (by rw [Zlu];decide) ZyG
   obtain ⟨ts,e,_,f⟩:=r Ztj
   rw [Zwc] at e
   cases e
   have h:0<cs.size:=by rw [q];decide
   obtain ⟨u,i,a⟩:=f 0 cs[0] (by simp [h])
   have:u=3:=by simpa using i.symm
   subst this
   have b:Zc.cell W.heap 2 0=some cs[0]:=by
     unfold Zc.cell;simp [p,h]
   rw [b]
   unfold Cell.ok at a
   rw [Tryz.underlying3] at a
   cases s:cs[0]<;>rw [s] at a<;>first | exact ⟨_,by rw [a.1]⟩ | simp at a
  ·obtain ⟨o,t,h,_⟩:=j.2 13 (by rw [Zlu];decide) (by rw [ZvF];decide)
   have:=(Ayd.1 h).1
   show 9<=W.heap.size
   omega
end Go.Proofs.YtpjbjdheeemdiaaGreatDoor
namespace Go.Js
open Go Go.Fw Go.Proofs.YtpjbjdheeemdiaaGreatDoor
theorem ZeQ {α:Type} {f:α->Nat}:∀ {l:List α} {i:Nat},Zct f l i=none->∀ a,a∈l->f a=0
  | [],_,_,a,h=>by cases h
  | b::l,i,h,a,c=>by
    simp only [Zct] at h
    split at h
    ·rename_i d
     rcases Awr.1 c with rfl | c
     ·exact d
     ·exact ZeQ h a c
    ·cases h
theorem ZeP {α:Type} {f:α->Nat}:∀ {l:List α} {i j e:Nat},Zct f l i=some (j,e)->e≠0
  | [],_,_,_,h=>by cases h
  | b::l,i,j,e,h=>by
    simp only [Zct] at h
    split at h
    ·exact ZeP h
    ·rename_i a
     cases h
     exact a
structure Zlm (r:RulesP):Prop where
  nf:r.fl.length<=256
  nb:r.br.length<=256
  nh:r.ho.length<=256
  ny:r.sy.length<=256
  nl:r.li.length<=256
  ef:∀ a,a∈r.fl->a.err=0
  eb:∀ a,a∈r.br->a.err=0
  eh:∀ a,a∈r.ho->a.err=0
  ey:∀ a,a∈r.sy->a.err=0
  el:∀ a,a∈r.li->a.err=0
theorem ZpY {r:RulesP} (h:r.whereE.2.2=0):Zlm r:=by
  unfold RulesP.whereE at h
  split at h
  ·cases h
  split at h
  ·cases h
  split at h
  ·cases h
  split at h
  ·cases h
  split at h
  ·cases h
  split at h
  ·rename_i he
   exact absurd h (ZeP he)
  rename_i a
  split at h
  ·rename_i he
   exact absurd h (ZeP he)
  rename_i b
  split at h
  ·rename_i he
   exact absurd h (ZeP he)
  rename_i n3
  split at h
  ·rename_i he
   exact absurd h (ZeP he)
  rename_i n4
  split at h
  ·rename_i he
   exact absurd h (ZeP he)
  rename_i c
  exact ⟨by omega,by omega,by omega,by omega,by omega,ZeQ a,ZeQ b,ZeQ n3,ZeQ n4,ZeQ c⟩
theorem ZjN {l:BL} (h:Za1 l=true):l.length<=64:=by
  unfold Za1 at h
  simp only [Awn,decide_eq_true_eq] at h
  exact h.2.2
theorem Zmk:∀ {l:BL},(∀ c,c∈l->c.toNat<128)->Utf l
  | [],_=> .nil
  | c::l,h=>by
    have:Zcs [c]=true:=by
      have:=ZrM c (h c (by simp))
      simp [Zcs,this,okC]
    exact Utf.cons (x:=[c]) this (Zmk fun d hd=>h d (Aws _ hd))
theorem ZmQ {l:BL} (h:Za1 l=true):Utf l:=by
  unfold Za1 at h
  simp only [Awn,decide_eq_true_eq,Axc] at h
  refine Zmk fun c a=>?_
  have:=h.1 c a
  unfold ZCi at this
  simp only [Awn,decide_eq_true_eq] at this
  omega
theorem ZjS {n a b:Int} (h:inB n a b=true):a<=n/\n<=b:=by
  unfold inB at h
  simpa only [Awn,decide_eq_true_eq] using h
theorem ZlR {a:Bool} {n b c:Int} (h:ZcE a n b c=true):n=0\/b<=n/\n<=c:=by
  unfold ZcE at h
  split at h
  ·exact .inr (ZjS h)
  ·exact .inl (by simpa using h)
theorem Zhp {f:FlowP} (h:f.err=0):f.rng/\f.strat<=2/\f.shape<=3/\(f.res.length<=64/\Utf f.res)/\(f.org.length<=64/\Utf f.org)/\f.ref.length<=64/\Utf f.ref:=by
  unfold FlowP.err at h
  split at h
  ·rename_i b
   split at h
   ·rename_i c
    simp only [FlowP.names,Awn] at b
    simp only [FlowP.good,Awn,decide_eq_true_eq] at c
    obtain ⟨⟨d,e⟩,n3⟩:=b
    obtain ⟨⟨⟨⟨⟨⟨g1,g2,g3⟩,g4⟩,_⟩,g5,g6⟩,_⟩,g7,_⟩:=c
    have i1:=ZjS g1
    have i5:=ZlR g5
    have i6:=ZlR g6
    have i7:=ZlR g7
    have a : -9223372036854775808<=f.cnt/\f.cnt<=9223372036854775807:=by
      have:=i1.1
      split at this<;>omega
    have g:f.ref.length<=64/\Utf f.ref:=by
      by_cases i:f.strat=1\/f.strat=2
      ·rw [if_pos i] at n3
       exact ⟨ZjN n3,ZmQ n3⟩
      ·have j:f.strat=0:=by omega
       rw [j] at g4
       have:f.ref=[]:=by simpa using g4
       rw [this]
       exact ⟨by decide,.nil⟩
    refine ⟨⟨a,by omega,by omega,?_,?_,?_⟩,g2,g3,⟨ZjN d,ZmQ d⟩,⟨ZjN e,ZmQ e⟩,g⟩<;>unfold Zhv<;>omega
   ·cases h
  ·cases h
theorem Zgn {f:Yx} (h:f.err=0):f.rng/\f.grade<=2/\f.res.length<=64/\Utf f.res:=by
  unfold Yx.err at h
  split at h
  ·rename_i a
   split at h
   ·rename_i b
    simp only [Yx.good,Awn,decide_eq_true_eq] at b
    obtain ⟨⟨⟨⟨g1,g2⟩,g3⟩,g4,g5⟩,g6⟩:=b
    have i2:=ZjS g2
    have i3:=ZlR g3
    have i4:=ZjS g4
    have i5:=ZjS g5
    have i6:=ZjS g6
    have c:f.cnt<=1099511627776:=by
      have:=i2.2
      split at this<;>omega
    refine ⟨⟨by omega,?_,?_,?_,?_,?_⟩,g1,ZjN a,ZmQ a⟩<;>unfold Zhv<;>omega
   ·cases h
  ·cases h
theorem Zhm {f:Zew} (h:f.err=0):f.rng/\f.res.length<=64/\Utf f.res/\f.items.length<=32/\∀ p,p∈f.items->p.1.length<=64:=by
  unfold Zew.err at h
  split at h
  ·rename_i a
   split at h
   ·rename_i b
    simp only [Zew.good,Awn,decide_eq_true_eq,Axc] at b
    obtain ⟨⟨⟨g1,g2⟩,⟨g3,g4⟩,_⟩,g5⟩:=b
    have i1:=ZjS g1
    have i2:=ZjS g2
    have i3:=ZjS g3
    refine ⟨⟨?_,?_,?_,fun p hp=>?_⟩,ZjN a,ZmQ a,g4,fun p hp=>(g5 p hp).1⟩
    ·unfold Zhv;omega
    ·unfold Zhv;omega
    ·unfold Zhv;omega
    ·have:=ZjS (g5 p hp).2
     unfold Zhv;omega
   ·cases h
  ·cases h
theorem Zip {f:Y4} (h:f.err=0):f.rng:=by
  unfold Y4.err at h
  split at h
  ·rename_i a
   simp only [Awn] at a
   obtain ⟨⟨⟨⟨g1,g2⟩,g3⟩,g4⟩,g5⟩:=a
   have i1:=ZjS g1
   have i2:=ZjS g2
   have i3:=ZjS g3
   have i4:=ZjS g4
   have i5:=ZjS g5
   refine ⟨?_,?_,?_,?_,?_⟩<;>unfold Zhv<;>omega
  ·cases h
theorem Zhk {f:ZaI} (h:f.err=0):f.res.length<=64/\Utf f.res/\f.origins.length<=32/\∀ p,p∈f.origins->p.length<=64/\Utf p:=by
  unfold ZaI.err at h
  split at h
  ·rename_i a
   split at h
   ·rename_i b
    simp only [Awn,decide_eq_true_eq,Axc] at a b
    exact ⟨ZjN a.1,ZmQ a.1,b.1.2,fun p hp=>⟨ZjN (a.2 p hp),ZmQ (a.2 p hp)⟩⟩
   ·cases h
  ·cases h
theorem Zlm.rng {r:RulesP} (s:Zlm r):r.rng:=⟨fun f a=>(Zhp (s.ef f a)).1,fun f a=>(Zgn (s.eb f a)).1,fun f a=>(Zhm (s.eh f a)).1,fun f a=>Zip (s.ey f a)⟩
theorem Zqo {α:Type} {g:α->α}:∀ {l:List α},(∀ a,a∈l->g a=a)->l.map g=l
  | [],_=>rfl
  | a::l,h=>by rw [Awo,h a (by simp),Zqo fun b c=>h b (by simp [c])]
theorem Zlm.norm {r:RulesP} (s:Zlm r):r.norm=r:=by
  unfold RulesP.norm
  rw [Zqo (g:=FlowP.norm) fun f a=>?_,Zqo (g:=Yx.norm) fun f a=>?_]
  ·have h:=(Zgn (s.eb f a)).2.1
   unfold Yx.norm wd
   rw [if_pos (show f.grade<ZgH.length from Nat.lt_of_le_of_lt h (by decide))]
  ·obtain ⟨_,b,c,_⟩:=Zhp (s.ef f a)
   unfold FlowP.norm wd
   rw [if_pos (show f.strat<Zgz.length from Nat.lt_of_le_of_lt b (by decide)),if_pos (show f.shape<ZgA.length from Nat.lt_of_le_of_lt c (by decide))]
theorem ZcB {α:Type} {f:α->Nat} {c:Nat}:∀ {l:List α},(∀ x,x∈l->f x<=c)->(l.map f).sum<=c*l.length
  | [],_=>by simp
  | x::l,h=>by
    have:=h x (by simp)
    have:=ZcB (l:=l) fun y a=>h y (by simp [a])
    simp only [Awo,Azp,Aqj,Nat.mul_add]
    omega
theorem ZuH {f:Zew} (h:f.err=0):(f.items.map Zez).sum<=2080:=by
  obtain ⟨_,_,_,d,a⟩:=Zhm h
  have:=ZcB (f:=Zez) (c:=65) (l:=f.items) fun x b=>by have:=a x b;show 1+x.1.length<=65;omega
  omega
theorem ZoP {f:ZaI} (h:f.err=0):(f.origins.map Zgy).sum<=2080:=by
  obtain ⟨_,_,d,a⟩:=Zhk h
  have:=ZcB (f:=Zgy) (c:=65) (l:=f.origins) fun x b=>by have:=(a x b).1;show 1+x.length<=65;omega
  omega
theorem Zlm.wt {r:RulesP} (s:Zlm r):r.wt<=16777216:=by
  have d:=ZcB (f:=FlowP.wt) (c:=193) (l:=r.fl) fun x a=>by obtain ⟨_,_,_,b,e,g⟩:=Zhp (s.ef x a);show 1+x.res.length+x.org.length+x.ref.length<=193;omega
  have a2:=ZcB (f:=Yx.wt) (c:=65) (l:=r.br) fun x a=>by obtain ⟨_,_,b,_⟩:=Zgn (s.eb x a);show 1+x.res.length<=65;omega
  have a3:=ZcB (f:=Zew.wt) (c:=2145) (l:=r.ho) fun x a=>by obtain ⟨_,b,_⟩:=Zhm (s.eh x a);have:=ZuH (s.eh x a);show 1+x.res.length+(x.items.map Zez).sum<=2145;omega
  have a4:=ZcB (f:=fun _:Y4=>1) (c:=1) (l:=r.sy) fun x _=>Aqo _
  have a5:=ZcB (f:=ZaI.wt) (c:=2145) (l:=r.li) fun x a=>by obtain ⟨b,_⟩:=Zhk (s.el x a);have:=ZoP (s.el x a);show 1+x.res.length+(x.origins.map Zgy).sum<=2145;omega
  have:=s.nf
  have:=s.nb
  have:=s.nh
  have:=s.ny
  have:=s.nl
  unfold RulesP.wt
  omega
theorem Zlm.wV {r:RulesP} (s:Zlm r):wV (toV r)<800000000:=by
  have n:=ZcB (f:=fun f=>Go.Js.wV (ZdS f)) (c:=451620) (l:=r.fl) fun x a=>by
    obtain ⟨b,_,_,d,o,p⟩:=Zhp (s.ef x a)
    have:=ZBZ b
    have:x.wt=1+x.res.length+x.org.length+x.ref.length:=rfl
    omega
  have a2:=ZcB (f:=fun f=>Go.Js.wV (ZaQ f)) (c:=152100) (l:=r.br) fun x a=>by
    obtain ⟨b,_,d,_⟩:=Zgn (s.eb x a)
    have:=Zxr b
    have:x.wt=1+x.res.length:=rfl
    omega
  have a3:=ZcB (f:=fun f=>Go.Js.wV (Zig f)) (c:=850000) (l:=r.ho) fun x a=>by
    obtain ⟨b,d,_⟩:=Zhm (s.eh x a)
    have q:=ZgL b.1
    have t:=ZgL b.2.1
    have u:=ZgL b.2.2.1
    have e:=ZsQ b.2.2.2
    have g:=ZuH (s.eh x a)
    show Go.Js.wV (Zig x)<=850000
    unfold Zig
    simp only [Zhz,Awo,Azz,Azp,Ave,ZpB,Zbc,ZpQ,ZfA,ZkQ,ZpP,Aqj,Ays]
    omega
  have a4:=ZcB (f:=fun f=>Go.Js.wV (XD f)) (c:=2340) (l:=r.sy) fun x a=>by
    have:=Zt1 (Zip (s.ey x a))
    omega
  have a5:=ZcB (f:=fun f=>Go.Js.wV (Zcd f)) (c:=25000) (l:=r.li) fun x a=>by
    obtain ⟨d,_⟩:=Zhk (s.el x a)
    have g:=ZoP (s.el x a)
    have e:=ZsP x.origins
    show Go.Js.wV (Zcd x)<=25000
    unfold Zcd
    simp only [Zhz,Awo,Azz,Azp,Ave,ZpB,ZsO,Zbc,ZpO,ZkR,Aqj,Ays]
    omega
  have:=s.nf
  have:=s.nb
  have:=s.nh
  have:=s.ny
  have:=s.nl
  unfold toV
  simp only [Zhz,Awo,Azz,Azp,Ave,Zlq,Azq]
  have h:(tx "flow").length=4:=by decide
  have i:(tx "break").length=5:=by decide
  have j:(tx "hot").length=3:=by decide
  have k:(tx "system").length=6:=by decide
  have m:(tx "authority").length=9:=by decide
  rw [h,i,j,k,m]
  show 9+(6*4+3+(9+(r.fl.map fun f=>Go.Js.wV (ZdS f)).sum)+(6*5+3+(9+(r.br.map fun f=>Go.Js.wV (ZaQ f)).sum)+(6*3+3+(9+(r.ho.map fun f=>Go.Js.wV (Zig f)).sum)+(6*6+3+(9+(r.sy.map fun f=>Go.Js.wV (XD f)).sum)+(6*9+3+(9+(r.li.map fun f=>Go.Js.wV (Zcd f)).sum)+0)))))<800000000
  omega
theorem ZtJ:∀ l:List JV,ZiQ (ZdC l)=(l.map Zg8).sum
  | []=>rfl
  | v::l=>by
    have:=ZtJ l
    simp only [ZdC,ZiQ,Awo,Azp,Zg8]
    omega
theorem Zj0 (zs:List (BL × JV)):Zg8 (ZhK zs)=1+(zs.map fun q=>Zg8 q.2).sum:=by
  have e:Zg8 (ZhK zs)=1+ZiQ (ZdC (zs.map (·.2))):=rfl
  rw [e,ZtJ,Azq]
  rfl
theorem ZtI (l:List JV):Zg8 (ZcX l)=1+(l.map Zg8).sum:=by
  have e:Zg8 (ZcX l)=1+ZiQ (ZdC l):=rfl
  rw [e,ZtJ]
theorem Znx (s:BL):Zg8 (Zd2 s)=1:=rfl
theorem Znz (s:Int):Zg8 (ZcY s)=1:=rfl
theorem Zny (s:Bool):Zg8 (Zdm s)=1:=rfl
theorem Zvb (ws:List BL) (n:Nat):Zg8 (Zif ws n)=1:=rfl
theorem Zlm.cnt {r:RulesP} (s:Zlm r):Zg8 (toV r)<=65536:=by
  have g:=ZcB (f:=fun f=>Zg8 (ZdS f)) (c:=13) (l:=r.fl) fun x a=>by
    unfold ZdS
    simp only [Zj0,Awo,Azz,Azp,Ave,Znx,Znz,Zny,Zvb]
    omega
  have a2:=ZcB (f:=fun f=>Zg8 (ZaQ f)) (c:=8) (l:=r.br) fun x a=>by
    unfold ZaQ
    simp only [Zj0,Awo,Azz,Azp,Ave,Znx,Znz,Zny,Zvb]
    omega
  have a3:=ZcB (f:=fun f=>Zg8 (Zig f)) (c:=102) (l:=r.ho) fun x a=>by
    have b:=(Zhm (s.eh x a)).2.2.2.1
    have d:=ZcB (f:=Zg8 ∘ Zd4) (c:=3) (l:=x.items) fun y e=>by
      show Zg8 (Zd4 y)<=3
      unfold Zd4
      simp only [Zj0,Awo,Azz,Azp,Ave,Znx,Znz]
      omega
    unfold Zig
    simp only [Zj0,Awo,Azz,Azp,Ave,Znx,Znz,ZtI,Azq]
    omega
  have a4:=ZcB (f:=fun f=>Zg8 (XD f)) (c:=6) (l:=r.sy) fun x a=>by
    unfold XD
    simp only [Zj0,Awo,Azz,Azp,Ave,Znz]
    omega
  have a5:=ZcB (f:=fun f=>Zg8 (Zcd f)) (c:=36) (l:=r.li) fun x a=>by
    have b:=(Zhk (s.el x a)).2.2.1
    have d:=ZcB (f:=Zg8 ∘ Zd2) (c:=1) (l:=x.origins) fun y e=>Aqo _
    unfold Zcd
    simp only [Zj0,Awo,Azz,Azp,Ave,Znx,Zny,ZtI,Azq]
    omega
  have:=s.nf
  have:=s.nb
  have:=s.nh
  have:=s.ny
  have:=s.nl
  unfold toV
  simp only [Zj0,Awo,Azz,Azp,Ave,ZtI,Azq]
  show 1+(1+(r.fl.map fun f=>Zg8 (ZdS f)).sum+(1+(r.br.map fun f=>Zg8 (ZaQ f)).sum+(1+(r.ho.map fun f=>Zg8 (Zig f)).sum+(1+(r.sy.map fun f=>Zg8 (XD f)).sum+(1+(r.li.map fun f=>Zg8 (Zcd f)).sum+0)))))<=65536
  omega
theorem ZmD {d:Nat} {k:Nat} {t:BL} {ns:List BL} {s r:JL}:Zc5 d (.cons k t ns s r)↔ZaX d ⟨k,t,ns,s⟩/\Zc5 d r:=by
  cases d with
  | zero=>simp only [ZaX,Zc5];constructor<;>(intro h;simp_all)
  | succ d=>simp only [ZaX,Zc5];constructor<;>(intro h;simp_all)
theorem ZmC {d:Nat}:∀ {l:List JV},(∀ v,v∈l->ZaX d v)->Zc5 d (ZdC l)
  | [],_=>by cases d<;>trivial
  | v::l,h=>ZmD.2 ⟨h v (by simp),ZmC fun w hw=>h w (by simp [hw])⟩
theorem ZoF {d:Nat}:∀ {l:JL} {w:JV},Zc5 d l->w∈l.list->ZaX d w
  | .nil,w,_,h=>by cases h
  | .cons k t ns s r,w,h,hw=>by
    obtain ⟨a,b⟩:=ZmD.1 h
    rcases Awr.1 hw with rfl | hw
    ·exact a
    ·exact ZoF b hw
theorem Zi2 {d:Nat} {k:Nat} {t:BL} (h:ZgB k t [] .nil) (a:k≠6) (b:k≠7):ZaX d ⟨k,t,[],.nil⟩:=by
  cases d with
  | zero=>exact ⟨h,a,b,trivial⟩
  | succ d=>exact ⟨h,by cases d<;>trivial,trivial⟩
theorem Zd9 {d:Nat} {s:BL} (h:Utf s):ZaX d (Zd2 s):=Zi2 (.inr (.inr (.inl ⟨rfl,h,rfl,rfl⟩))) (by decide) (by decide)
theorem XO {d:Nat} {n:Int} (h:Zhv n):ZaX d (ZcY n):=Zi2 (.inr (.inl ⟨rfl,(Zo1 h.1 h.2).2.1,(Zo1 h.1 h.2).2.2,rfl,rfl⟩)) (by decide) (by decide)
theorem ZmB {d:Nat} (b:Bool):ZaX d (Zdm b):=by
  cases b
  ·exact Zi2 (.inl ⟨.inr (.inl rfl),rfl,rfl,rfl⟩) (by decide) (by decide)
  ·exact Zi2 (.inl ⟨.inr (.inr rfl),rfl,rfl,rfl⟩) (by decide) (by decide)
theorem ZkY {d:Nat} {ws:List BL} (h:∀ w,w∈ws->Utf w) (n:Nat):ZaX d (Zif ws n):=by
  refine Zd9 ?_
  rw [Avb]
  cases a:ws[if n<ws.length then n else 0]? with
  | none=>exact .nil
  | some w=>exact h w (Axq a)
theorem Zf0 {d:Nat} {l:List JV} (h:∀ v,v∈l->ZaX d v):ZaX (d+1) (ZcX l):=⟨.inr (.inr (.inr (.inl ⟨rfl,rfl,rfl⟩))),ZmC h,trivial⟩
theorem ZfZ {d:Nat} {zs:List (BL × JV)} (h:∀ q,q∈zs->Utf q.1/\ZaX d q.2):ZaX (d+1) (ZhK zs):=by
  refine ⟨.inr (.inr (.inr (.inr ⟨rfl,rfl,?_,fun n b=>?_⟩))),ZmC fun v c=>?_,trivial⟩
  ·show (zs.map (·.1)).length=(ZdC (zs.map (·.2))).len
   rw [Za8,Ayx,Ayx]
  ·obtain ⟨q,a,rfl⟩:=Ayw.1 b
   exact (h q a).1
  ·obtain ⟨q,a,rfl⟩:=Ayw.1 c
   exact (h q a).2
theorem Zia {l:BL} (h:(l.all fun c=>decide (c.toNat<128))=true):Utf l:=Zmk fun c a=>by simpa using Axc.1 h c a
theorem Zmj {ws:List BL} (h:(ws.all fun l=>l.all fun c=>decide (c.toNat<128))=true):∀ w,w∈ws->Utf w:=fun w hw=>Zia (Axc.1 h w hw)
theorem Zlm.right {r:RulesP} (s:Zlm r) (hu:∀ f,f∈r.ho->∀ p,p∈f.items->Utf p.1):ZaX 64 (toV r):=by
  have us:=Zmj (ws:=Zgz) (by decide +kernel)
  have k:=Zmj (ws:=ZgA) (by decide +kernel)
  have l:=Zmj (ws:=ZgH) (by decide +kernel)
  refine ZfZ fun q a=>?_
  simp only [Awr,Azk,or_false] at a
  rcases a with rfl | rfl | rfl | rfl | rfl
  ·refine ⟨Zia (by dsimp only;decide +kernel),Zf0 fun v c=>?_⟩
   obtain ⟨f,b,rfl⟩:=Ayw.1 c
   obtain ⟨⟨d,_,_,e,n3,n4⟩,_,_,⟨_,g⟩,⟨_,h⟩,_,m⟩:=Zhp (s.ef f b)
   refine ZfZ fun q a=>?_
   simp only [Awr,Azk,or_false] at a
   rcases a with rfl | rfl | rfl | rfl | rfl | rfl | rfl | rfl | rfl | rfl | rfl | rfl<;>refine ⟨Zia (by dsimp only;decide +kernel),?_⟩<;>first | exact Zd9 g | exact Zd9 h | exact Zd9 m | exact ZmB _ | exact XO d | exact XO e | exact XO n3 | exact XO n4 | exact ZkY us _ | exact ZkY k _
  ·refine ⟨Zia (by dsimp only;decide +kernel),Zf0 fun v c=>?_⟩
   obtain ⟨f,b,rfl⟩:=Ayw.1 c
   obtain ⟨⟨_,d,e,n3,n4,i⟩,_,_,g⟩:=Zgn (s.eb f b)
   refine ZfZ fun q a=>?_
   simp only [Awr,Azk,or_false] at a
   rcases a with rfl | rfl | rfl | rfl | rfl | rfl | rfl<;>refine ⟨Zia (by dsimp only;decide +kernel),?_⟩<;>first | exact Zd9 g | exact XO d | exact XO e | exact XO n3 | exact XO n4 | exact XO i | exact ZkY l _
  ·refine ⟨Zia (by dsimp only;decide +kernel),Zf0 fun v c=>?_⟩
   obtain ⟨f,b,rfl⟩:=Ayw.1 c
   obtain ⟨⟨d,e,n3,n4⟩,_,g,_⟩:=Zhm (s.eh f b)
   have j:ZaX 61 (ZcX (f.items.map Zd4)):=Zf0 fun w hw=>by
     obtain ⟨p,hp,rfl⟩:=Ayw.1 hw
     refine ZfZ fun q a=>?_
     simp only [Awr,Azk,or_false] at a
     rcases a with rfl | rfl<;>refine ⟨Zia (by dsimp only;decide +kernel),?_⟩
     ·exact Zd9 (hu f b p hp)
     ·exact XO (n4 p hp)
   refine ZfZ fun q a=>?_
   simp only [Awr,Azk,or_false] at a
   rcases a with rfl | rfl | rfl | rfl | rfl<;>refine ⟨Zia (by dsimp only;decide +kernel),?_⟩<;>first | exact Zd9 g | exact XO d | exact XO e | exact XO n3 | exact j
  ·refine ⟨Zia (by dsimp only;decide +kernel),Zf0 fun v c=>?_⟩
   obtain ⟨f,b,rfl⟩:=Ayw.1 c
   obtain ⟨d,e,n3,n4,i⟩:=Zip (s.ey f b)
   refine ZfZ fun q a=>?_
   simp only [Awr,Azk,or_false] at a
   rcases a with rfl | rfl | rfl | rfl | rfl<;>refine ⟨Zia (by dsimp only;decide +kernel),?_⟩<;>first | exact XO d | exact XO e | exact XO n3 | exact XO n4 | exact XO i
  ·refine ⟨Zia (by dsimp only;decide +kernel),Zf0 fun v c=>?_⟩
   obtain ⟨f,b,rfl⟩:=Ayw.1 c
   obtain ⟨_,g,_,h⟩:=Zhk (s.el f b)
   have j:ZaX 61 (ZcX (f.origins.map Zd2)):=Zf0 fun w hw=>by
     obtain ⟨p,hp,rfl⟩:=Ayw.1 hw
     exact Zd9 (h p hp).2
   refine ZfZ fun q a=>?_
   simp only [Awr,Azk,or_false] at a
   rcases a with rfl | rfl | rfl<;>refine ⟨Zia (by dsimp only;decide +kernel),?_⟩<;>first | exact Zd9 g | exact ZmB _ | exact j
def RtJ (v:JV):Prop:=∃ d,ZaX d v
theorem RtJ.kind {v:JV} (h:RtJ v):ZgB v.k v.t v.ns v.sub:=by
  obtain ⟨d,h⟩:=h
  cases d with
  | zero=>exact h.1
  | succ d=>exact h.1
theorem RtJ.sub {v w:JV} (h:RtJ v) (hw:w∈v.sub.list):RtJ w:=by
  obtain ⟨d,h⟩:=h
  cases d with
  | zero =>
    exfalso
    obtain ⟨b,c,f,_⟩:=h
    have a:v.sub≠ .nil:=fun e=>by rw [e] at hw;cases hw
    rcases b with ⟨_,_,_,e⟩ | ⟨_,_,_,_,e⟩ | ⟨_,_,_,e⟩ | ⟨e,_⟩ | ⟨e,_⟩
    ·exact a e
    ·exact a e
    ·exact a e
    ·exact c e
    ·exact f e
  | succ d=>exact ⟨d,ZoF h.2.1 hw⟩
theorem RtJ.utf {v:JV} (h:RtJ v) (a:v.k=5):Utf v.t:=by
  rcases h.kind with ⟨e,_⟩ | ⟨e,_⟩ | ⟨_,u,_⟩ | ⟨e,_⟩ | ⟨e,_⟩
  ·omega
  ·omega
  ·exact u
  ·omega
  ·omega
theorem ZBe {v:JV} {p:BL × Int} (d:RtJ v) (h:ZaZ v = .ok p):Utf p.1:=by
  unfold ZaZ at h
  split at h
  ·rename_i m hm
   cases h
   have g:=Zs7 (μ:=MV) (F:=Zlc) (m0:=[.t [],.n 0]) rfl hm (a:=tx "value") (j:=0) (k:= .text) (by rfl)
   have f:∃ s,m[0]?=some (.t s)/\Utf s:=by
     split at g
     ·rename_i w hw
      obtain ⟨x,c,i⟩:=g
      have b:w∈v.sub.list:=(List.of_mem_zip (Znj hw)).2
      simp only [Zdn] at c
      split at c
      ·rename_i l
       cases c
       exact ⟨_,i,(d.sub b).utf l⟩
      ·cases c
     ·exact ⟨[],g,.nil⟩
   obtain ⟨s,e,hu⟩:=f
   unfold Zm1
   split
   ·simp at e
    rw [e]
    exact hu
   ·exact .nil
  ·cases h
theorem ZEU {v:JV} {f:Zew} (g:RtJ v) (h:Zcc v = .ok f):∀ p,p∈f.items->Utf p.1:=by
  obtain ⟨m,hm,rfl⟩:=ZrO h
  intro p hp
  have i:m[4]?=some (.is (Zn3 m).items):=by
    have:=ZuM (Ze3 (by rfl) hm)
    rw [this]
    rfl
  rcases Zk0 rfl hm i with e | ⟨a,k,w,d,j,c⟩
  ·have n:(Zn3 m).items=[]:=by
     simp only [ZwF,Axj,Axi,Awh,MV.is.injEq] at e
     exact e.symm
   rw [n] at hp
   cases hp
  ·have o:k = .items:=by
     have:Zts[4]?=some (tx "items", .items):=rfl
     rw [this] at d
     cases d
     rfl
   subst o
   simp only [ZaR] at c
   split at c
   ·split at c
    ·rename_i l q
     cases c
     obtain ⟨b,r,e⟩:=(ZlU q).2 p hp
     exact ZBe ((g.sub j).sub r) e
    ·cases c
   ·cases c
theorem ZEx {v:JV} {ls:List JL} (g:RtJ v) (h:Xn ZhI ZjE ZjF v = .ok ls):∀ l,l∈ls->∀ w,w∈l.list->RtJ w:=by
  obtain ⟨_,o⟩:=(ZeD (rd:=ZhI) (F:=ZjE) (m0:=ZjF) rfl).1 h
  intro l i
  obtain ⟨j,c⟩:=Azm i
  by_cases d:∃ p k,p∈ZBV v/\Zbh p.1 ZjE 0=some (j,k)
  ·obtain ⟨p,k,hp,a⟩:=d
   obtain ⟨m,n,y,e,b,f⟩:=o.each p hp
   rw [a] at e
   cases e
   rw [c] at f
   cases f
   unfold ZhI at b
   split at b<;>cases b
   exact fun w hw=>(g.sub (List.of_mem_zip hp).2).sub hw
  ·have:=o.rest j fun p hp k a=>d ⟨p,k,hp,a⟩
   rw [c] at this
   have:l∈ZjF:=Axq this.symm
   simp only [ZjF,Awr,Azk,or_false] at this
   rcases this with rfl | rfl | rfl | rfl | rfl<;>(intro w hw;cases hw)
theorem Zwm {v:JV} {r:RulesP} (d:RtJ v) (h:Zho v = .ok r):r.whereE.2.2=0/\∀ f,f∈r.ho->∀ p,p∈f.items->Utf p.1:=by
  unfold Zho at h
  split at h
  ·cases h
  ·rename_i ls b
   split at h
   ·cases h
   ·rename_i m a
    split at h
    ·rename_i e
     cases h
     refine ⟨e,fun f g=>?_⟩
     unfold Zb1 at a
     split at a
     ·cases a
     ·split at a
      ·cases a
      ·split at a
       ·cases a
       ·rename_i c i
        split at a
        ·cases a
        ·split at a
         ·cases a
         ·cases a
          obtain ⟨w,j,k⟩:=Zhs i f g
          have l:ls.length=5:=(Zx9 b).1
          exact ZEU (ZEx d b _ (ZjG l (by decide)) w j) k
    ·cases h
end Go.Js
namespace Go.Js
open Go Go.Fw Go.Proofs.YtpjbjdheeemdiaaGreatDoor
theorem ZCw {r:RulesP} (h:r.wt<=16777216):Go.Proofs.YtpjbjdheeemdiaaGreatDoor.RulesP.fit r:=by
  simp only [RulesP.wt] at h
  refine ⟨fun f b=>?_,fun f b=>?_,fun f b=>?_,fun f b=>?_⟩
  ·have:=Zf4 (f:=FlowP.wt) b;simp only [FlowP.wt] at this h;omega
  ·have:=Zf4 (f:=Yx.wt) b;simp only [Yx.wt] at this h;omega
  ·have c:=Zf4 (f:=Zew.wt) b
   have d:f.wt=1+f.res.length+(f.items.map Zez).sum:=rfl
   have g:f.items.length<=(f.items.map Zez).sum:=by
     have:∀ l:List (BL × Int),l.length<=(l.map Zez).sum:=fun l=>by
       induction l with
       | nil=>exact Aqo _
       | cons a l i =>
         have:Zez a=1+a.1.length:=rfl
         simp only [Awo,Azp,Aqj]
         omega
     exact this _
   omega
  ·have c:=Zf4 (f:=ZaI.wt) b
   have d:f.wt=1+f.res.length+(f.origins.map Zgy).sum:=rfl
   refine ⟨by omega,fun n e=>?_⟩
   have:=Zf4 (f:=Zgy) e
   have j:Zgy n=1+n.length:=rfl
   omega
end Go.Js
namespace Go.Proofs.YtpjbjdheeemdiaaGreatDoor
open Go Go.Fw Go.Js
section
variable {h:Zc}
def Enc (r:RulesP) (s:ByteArray) (e:Int):Prop :=
  (r.whereE.2.2≠0/\e=((r.whereE.2.2:Nat):Int))\/(r.whereE.2.2=0/\ZgC (toV r)=false/\e=6)\/(r.whereE.2.2=0/\ZgC (toV r)=true/\e=5) \/
    (r.whereE.2.2=0/\ZgC (toV r)=true/\(Zbn (toV r)).length<=65536/\s=Zj (Zbn (toV r))/\e=0)
theorem Znp {z:VTR} {r:RulesP} {S:Nat->Prop} (u:ZaB h S z r) (C:∀ j,S j->j<sz h) (D:RulesP.fit r) (ht:ZaT h) (E:9<=sz h) {K:ByteArray->Int->HP} (w:∀ s e h',Ext h h'->Enc r s e->K s e h'):Zbs z K h:=by
  unfold Zbs ZeL
  have M:sz h=h.size:=rfl
  refine YZ fun m F x N=>Za ?_
  have s1:sz m=m.size:=rfl
  have i:obj m h.size=some (.cells (Zak z).toArray 28 (0,0)):=F
  refine rR5 i (Zof (z:=z) (u.ext x) D fun c p hp d=>Za (Za (Za ?_)))
  subst hp
  have a:=x.trans d
  have G:sz c=c.size:=rfl
  have y:=d.size
  by_cases g:r.whereE.2.2=0
  ·have n:=ZpY g
   refine Zl (by rw [g];rfl) (rR5 (Zn i d) (Zrk (z:=z) (u.ext a) (fun j o=>by have:=C j o;omega) n.rng n.wt (ht.ext a) fun v H k I=>?_))
   have b:=a.trans k
   have A:=k.size
   have hw:=n.wV
   refine ZvZ (z:=v) I (fun j o=>o.2) (ZFd (by omega)) (by have:=Zv0 (toV r);omega) (ht.ext b) (Aqp E b.size) fun s e q t J L B=>Za (w s e q (b.trans t) ?_)
   cases f:ZgC (toV r) with
   | false=>exact .inr (.inl ⟨g,f,(J f).2⟩)
   | true =>
     rcases Aqd 65536 (Zbn (toV r)).length with l | l
     ·exact .inr (.inr (.inl ⟨g,f,(L f l).2⟩))
     ·exact .inr (.inr (.inr ⟨g,f,l,(B f l).1,(B f l).2⟩))
  ·exact Zm (bne_iff_ne.2 (by omega)) (Za (w _ _ c a (.inl ⟨g,rfl⟩)))
theorem Zzq {r x:RulesP} {s:ByteArray} {f a:Nat} (he:Enc r s 0) (hd:Dec s.data.toList x f a):f=0/\x=r:=by
  rcases he with ⟨b,e⟩ | ⟨_,_,e⟩ | ⟨_,_,e⟩ | ⟨b,h,j,rfl,_⟩
  ·omega
  ·cases e
  ·cases e
  ·have c:=ZpY b
   have hp:(Zj (Zbn (toV r))).data.toList=Zbn (toV r):=by simp [Zj]
   rw [hp] at hd
   have pb:=ZoO (Zi4.1 h).1 j
   have fb:=(ZvP c.rng).1
   rw [c.norm,if_pos b] at fb
   rcases Aqw f with f0 | f0
   ·obtain ⟨_,v,d,g⟩:=hd.ok f0
    rw [pb] at d
    cases d
    rw [fb] at g
    cases g
    exact ⟨f0,rfl⟩
   ·obtain ⟨_,q⟩:=hd.er (by omega)
    obtain ⟨k,i,q⟩:=q _ pb
    rw [fb] at q
    cases q
theorem Zln {z:VTR} {r:RulesP} {s:ByteArray} (G:ZaB h (fun b=>b<sz h) z r/\r.rng/\r.wt<=16777216) (_:s.size<=140737488351232) (ht:ZaT h) (o:9<=sz h) {K:Bool->HP} (H:∀ h',Ext h h'->K true h'):ZaE z s K h:=by
  obtain ⟨G,hg,hw⟩:=G
  unfold ZaE ZaG
  have s0:sz h=h.size:=rfl
  refine YZ fun I c1 J z1=>?_
  have s1:sz I=I.size:=rfl
  have B:obj I h.size=some (.cells (Zak z).toArray 28 (0,0)):=c1
  refine rR5 B (Znp (z:=z) (G.ext J) (fun j Z=>by omega) (ZCw hw) (ht.ext J) (by omega) fun a e h8 e8 he=>Za ?_)
  have m:=J.trans e8
  refine ZO (fun _ h'=>Ext h h') ?_ ?_
  ·rintro ⟨⟩ af p
   refine Zgl (ht.ext p) (Aqp o p.size) fun x rx f at_ ag L M _ hd=>ZfY (z:=x) fun ah N C t _=>Za (Za ?_)
   have c:=p.trans (L.trans C)
   have i:=M.ext C
   refine Zar (fun hn=>?_) fun h0=>?_
   ·obtain ⟨q,_⟩:=hd.er (by omega)
    subst q
    refine ZjH (ht.ext c) (Aqp o c.size) fun ai u=>Zm rfl (rR5 (z:=x) (Zn t u) (ZgO (za:=x) (zb:=zR) (i.ext u) (ZaB.zero _ (fun _=>False)) fun aj O=>Zh ?_))
    rw [decide_eq_true rfl]
    exact H _ (c.trans (u.trans O))
   ·have f0:f=0:=by omega
    subst f0
    obtain ⟨_,v,q1,q2⟩:=hd.ok rfl
    obtain ⟨w0,wu⟩:=Zwm ⟨64,(ZnX q1).1⟩ q2
    have P:=ZpY w0
    have hR:ZgC (toV rx)=true:=Zi4.2 ⟨P.right wu,P.cnt⟩
    refine rR5 (z:=x) t (Znp (z:=x) (i.mono (S':=fun j=>j<sz N) fun j hl _=>hl) (fun j Z=>Z) (ZCw P.wt) (ht.ext c) (Aqp o c.size) fun b e2 ar w D=>Za ?_)
    have d:=c.trans w
    have two:e2=5\/e2=0:=by
      rcases D with ⟨q,_⟩ | ⟨_,q,_⟩ | ⟨_,_,q⟩ | ⟨_,_,_,_,q⟩
      ·exact absurd w0 q
      ·rw [hR] at q;cases q
      ·exact .inl q
      ·exact .inr q
    rcases two with rfl | rfl
    ·exact Zm rfl (ZjH (ht.ext d) (Aqp o d.size) fun au Q=>Zh (H _ (d.trans Q)))
    ·refine Zl rfl (Zgl (ht.ext d) (Aqp o d.size) fun y ry f2 a2 av R hy _ S=>ZfY (z:=y) fun ax ay E T _=>Za (Za ?_))
     obtain ⟨rfl,rfl⟩:=Zzq D S
     have g:=R.trans E
     have k:=d.trans g
     refine ZjH (ht.ext k) (Aqp o k.size) fun az l=>Zm rfl (Zm rfl (Zm rfl (rR5 (z:=x) (Zn t (w.trans (g.trans l))) (rR5 (z:=y) (Zn T l) ?_))))
     refine ZgO (za:=x) (zb:=y) (i.ext (w.trans (g.trans l))) (hy.ext (E.trans l)) fun aA U=>Zh ?_
     rw [decide_eq_true rfl]
     exact H _ (k.trans (l.trans U))
  ·refine Zq (fun V=>?_) fun _=>m
   subst V
   refine Zgl (ht.ext m) (Aqp o m.size) fun x rx f at_ aB F M _ hd=>ZfY (z:=x) fun aC aD A W _=>Za (Za ?_)
   obtain ⟨rfl,rfl⟩:=Zzq he hd
   have n:=m.trans (F.trans A)
   have X:=Zn B (e8.trans (F.trans A))
   refine Zl rfl (rR5 (z:=x) W (rR5 (z:=z) X (ZgO (za:=x) (zb:=z) (M.ext A) (G.ext n) fun aE Y=>?_)))
   rw [decide_eq_true rfl]
   exact Zl rfl (n.trans Y)
end
end Go.Proofs.YtpjbjdheeemdiaaGreatDoor
