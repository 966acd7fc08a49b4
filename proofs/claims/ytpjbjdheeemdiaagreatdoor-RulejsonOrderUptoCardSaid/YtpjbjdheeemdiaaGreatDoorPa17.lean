/- Rules as a value (rulejson.ToValue; printed by mkRsF.py). -/
import Derived.Test.YtpjbjdheeemdiaaGreatDoorPa16
set_option linter.unusedVariables false
set_option linter.unusedSimpArgs false
namespace Go.Js
open Go Go.Fw Go.Proofs.YtpjbjdheeemdiaaGreatDoor
theorem ZjC (zs:List (BL × JV)):wV (Zhj zs)=9+(zs.map fun q=>6*q.1.length+3+wV q.2).sum:=by
  have h:∀ zs:List (BL × JV),nsW (zs.map (·.1))+pw (ZcL (zs.map (·.2)))=(zs.map fun q=>6*q.1.length+3+wV q.2).sum:=fun zs=>by
    induction zs with
    | nil=>rfl
    | cons q zs ih =>
      simp only [Awo,Azo,nsW,ZcL,pw,<- ih]
      simp only [wV]
      omega
  have:=h zs
  have e:wV (Zhj zs)=9+6*0+nsW (zs.map (·.1))+pw (ZcL (zs.map (·.2))):=rfl
  omega
theorem Zg7 (l:List JV):wV (ZcB l)=9+(l.map wV).sum:=by
  have:=ZwQ l
  have e:wV (ZcB l)=9+6*0+0+pw (ZcL l):=rfl
  omega
theorem ZjI {α:Type} {f g:α->Nat} {c:Nat}:∀ {l:List α},(∀ x,x∈l->f x<=c*g x)->(l.map f).sum<=c*(l.map g).sum
  | [],_=>by simp
  | x::l,h=>by
    have:=h x (by simp)
    have:=ZjI (l:=l) fun y hy=>h y (by simp [hy])
    simp only [Awo,Azo,Nat.mul_add]
    omega
theorem ZjU {α:Type} {f:α->Nat}:∀ {l:List α} {x:α},x∈l->f x<=(l.map f).sum
  | a::l,x,h=>by
    simp only [Awo,Azo]
    rcases Awr.1 h with rfl | h
    ·omega
    ·have:=ZjU (f:=f) h;omega
theorem ZqK (s:BL):wV (ZdY s)=9+6*s.length:=by
  have e:wV (ZdY s)=9+6*s.length+0+0:=rfl
  omega
theorem Zhh {n:Int} (h:Zim n):wV (ZcI n)<=135:=by
  have:=Lib.itoa_length_le n h.1 h.2
  have e:wV (ZcI n)=9+6*(Lib.itoa n).length+0+0:=rfl
  omega
theorem Zv1 (b:Bool):wV (ZdA b)=9:=rfl
theorem Zv0 {ws:List BL} (h:∀ w,w∈ws->w.length<=20) (n:Nat):wV (Zia ws n)<=129:=by
  unfold Zia
  rw [ZqK,Avb]
  cases hq:ws[if n<ws.length then n else 0]? with
  | none=>simp
  | some w=>have:=h w (Axq hq);simp only [Axo];omega
theorem ZAn {f:FlowP} (h:f.rng):wV (Zd0 f)<=2340*f.wt:=by
  have a1:=Zhh h.1
  have a2:=Zhh h.2.2.2.1
  have a3:=Zhh h.2.2.2.2.1
  have a4:=Zhh h.2.2.2.2.2
  have b1:=Zv0 Zpr f.strat
  have b2:=Zv0 Zpu f.shape
  unfold Zd0
  simp only [ZjC,Awo,Azz,Azo,Ave,ZqK,Zv1,Zcg,Zph,ZhZ,ZfJ,ZkX,ZAp,Zr1,Zwj,Zr2,ZmE,ZEM,ZkY,Aqj,Ays,FlowP.wt]
  omega
theorem Zv4 {f:YJ} (h:f.rng):wV (Za7 f)<=2340*f.wt:=by
  have a1:=Zhh h.2.1
  have a2:=Zhh h.2.2.1
  have a3:=Zhh h.2.2.2.1
  have a4:=Zhh h.2.2.2.2.1
  have a5:=Zhh h.2.2.2.2.2
  have b1:=Zv0 Zp2 f.grade
  unfold Za7
  simp only [ZjC,Awo,Azz,Azo,Ave,ZqK,Zcg,Zr6,ZfJ,Zwl,Zr3,Zpg,ZmC,Aqj,Ays,YJ.wt]
  omega
theorem ZEF {f:BL × Int} (h:Zim f.2):wV (Zez f)<=400*ZhF f:=by
  have a1:=Zhh h
  unfold Zez
  simp only [ZjC,Awo,Azz,Azo,Ave,ZqK,Zr0,ZfJ,Aqj,Ays,ZhF]
  omega
theorem Zv3 {l:List (BL × Int)} (h:∀ p,p∈l->Zim p.2):wV (ZcB (l.map Zez))<=9+400*(l.map ZhF).sum:=by
  rw [Zg7,Azp]
  have:=ZjI (f:=wV ∘ Zez) (g:=ZhF) (c:=400) (l:=l) fun x hx=>ZEF (h x hx)
  omega
theorem ZEG {f:ZeP} (h:f.rng):wV (Zin f)<=2340*f.wt:=by
  have a1:=Zhh h.1
  have a2:=Zhh h.2.1
  have a3:=Zhh h.2.2.1
  have a4:=Zv3 h.2.2.2
  unfold Zin
  simp only [ZjC,Awo,Azz,Azo,Ave,ZqK,Zcg,Zr5,ZfJ,ZmB,Zr4,Aqj,Ays,ZeP.wt]
  omega
theorem ZrV {f:Xi} (h:f.rng):wV (XO f)<=2340*1:=by
  have a1:=Zhh h.1
  have a2:=Zhh h.2.1
  have a3:=Zhh h.2.2.1
  have a4:=Zhh h.2.2.2.1
  have a5:=Zhh h.2.2.2.2
  unfold XO
  simp only [ZjC,Awo,Azz,Azo,Ave,ZAq,ZhZ,ZEL,Zwm,ZAr,Aqj,Ays]
  omega
theorem Zv2 (l:List BL):wV (ZcB (l.map ZdY))<=9+9*(l.map Zka).sum:=by
  rw [Zg7,Azp]
  have:=ZjI (f:=wV ∘ ZdY) (g:=Zka) (c:=9) (l:=l) fun x hx=>by
    show wV (ZdY x)<=9*Zka x
    rw [ZqK]
    simp only [Zka]
    omega
  omega
theorem ZAm (f:Za2):wV (Zda f)<=2340*f.wt:=by
  have a4:=Zv2 f.origins
  unfold Zda
  simp only [ZjC,Awo,Azz,Azo,Ave,ZqK,Zv1,Zcg,ZrZ,ZmD,Aqj,Ays,Za2.wt]
  omega
end Go.Js
namespace Go.Proofs.YtpjbjdheeemdiaaGreatDoor
open Go Go.Fw Go.Js
theorem ZCA:tx "flow" = [102,108,111,119]:=by kernel_rfl
theorem Zy3:tx "break" = [98,114,101,97,107]:=by kernel_rfl
theorem ZEN:tx "hot" = [104,111,116]:=by kernel_rfl
theorem Zwk:tx "system" = [115,121,115,116,101,109]:=by kernel_rfl
theorem Zpi:tx "authority" = [97,117,116,104,111,114,105,116,121]:=by kernel_rfl
theorem Zpn {h0:Zc} {z:VTR} {r:RulesP} {S:Nat->Prop} (hr:Zat h0 S z r) (hS:∀ b,S b->b<sz h0) (hg:r.rng) (hw:r.wt<=16777216) (ht:ZaN h0) {K:VT5->HP} (hk:∀ z' h',Ext h0 h'->Zam h' (fr h' (sz h0)) z' (toV r)->K z' h'):ZaU z K h0:=by
  unfold ZaU ZdT
  obtain ⟨hp_,hH1,hH2,hH3⟩:=hr.ho
  obtain ⟨lp_,hL1,hL2,hL3⟩:=hr.li
  simp only [RulesP.wt] at hw
  have mH:∀ p,p∈hp_->p.2∈r.ho:=fun p hp=>by rw [<- hH1];exact Ayw.2 ⟨p,hp,rfl⟩
  have mL:∀ p,p∈lp_->p.2∈r.li:=fun p hp=>by rw [<- hL1];exact Ayw.2 ⟨p,hp,rfl⟩
  have bF:∀ p,p∈r.fl->p.res.length<=20000000/\p.org.length<=20000000/\p.ref.length<=20000000:=fun p hp=>by have:=ZjU (f:=FlowP.wt) hp;simp only [FlowP.wt] at this hw;omega
  have bB:∀ p,p∈r.br->p.res.length<=20000000:=fun p hp=>by have:=ZjU (f:=YJ.wt) hp;simp only [YJ.wt] at this hw;omega
  have bH:∀ p,p∈hp_->p.2.res.length<=20000000/\(∀ q,q∈p.2.items->q.1.length<=20000000)/\wV (ZcB (p.2.items.map Zez))<=40000000000:=fun p hp=>by
    have h1:=ZjU (f:=ZeP.wt) (mH p hp)
    have h2:=Zv3 (hg.2.2.1 _ (mH p hp)).2.2.2
    have h3:p.2.wt=1+p.2.res.length+(p.2.items.map ZhF).sum:=rfl
    refine ⟨by omega,fun q hq=>?_,by omega⟩
    have:=ZjU (f:=ZhF) hq
    have h4:ZhF q=1+q.1.length:=rfl
    omega
  have bL:∀ p,p∈lp_->p.2.res.length<=20000000/\wV (ZcB (p.2.origins.map ZdY))<=40000000000:=fun p hp=>by
    have h1:=ZjU (f:=Za2.wt) (mL p hp)
    have h2:=Zv2 p.2.origins
    have h3:p.2.wt=1+p.2.res.length+(p.2.origins.map Zka).sum:=rfl
    exact ⟨by omega,by omega⟩
  have wF:wV (ZcB (r.fl.map Zd0))<=40000000000:=by
    have:=ZjI (f:=wV ∘ Zd0) (g:=FlowP.wt) (c:=2340) (l:=r.fl) fun x hx=>ZAn (hg.1 x hx)
    rw [Zg7,Azp];omega
  have wB:wV (ZcB (r.br.map Za7))<=40000000000:=by
    have:=ZjI (f:=wV ∘ Za7) (g:=YJ.wt) (c:=2340) (l:=r.br) fun x hx=>Zv4 (hg.2.1 x hx)
    rw [Zg7,Azp];omega
  have wH:wV (ZcB (r.ho.map Zin))<=40000000000:=by
    have:=ZjI (f:=wV ∘ Zin) (g:=ZeP.wt) (c:=2340) (l:=r.ho) fun x hx=>ZEG (hg.2.2.1 x hx)
    rw [Zg7,Azp];omega
  have wY:wV (ZcB (r.sy.map XO))<=40000000000:=by
    have:=ZjI (f:=wV ∘ XO) (g:=fun _=>1) (c:=2340) (l:=r.sy) fun x hx=>ZrV (hg.2.2.2 x hx)
    rw [Zg7,Azp];omega
  have wL:wV (ZcB (r.li.map Zda))<=40000000000:=by
    have:=ZjI (f:=wV ∘ Zda) (g:=Za2.wt) (c:=2340) (l:=r.li) fun x hx=>ZAm x
    rw [Zg7,Azp];omega
  refine YX fun k1 c1 f1 y1=>YX fun h1 c3 f3 y3=>?_
  have s0:sz h0=h0.size:=rfl
  have sk:sz k1=k1.size:=rfl
  have s1:sz h1=h1.size:=rfl
  have eH:Ext h0 h1:=f1.trans f3
  have cb:obj h1 h0.size=some (.cells (Zac z).toArray 28 (0,0)):=Zl c1 f3
  have cz:obj h1 k1.size=some (.cells zV.toArray 33 (0,0)):=c3
  refine rL (s:=z.1) (Zb cb rfl) ?_
  refine rL (s:=z.2.1) (Zb cb rfl) ?_
  refine rL (s:=z.2.2.1) (Zb cb rfl) ?_
  refine Zdf fun o g2 e2 ob=>?_
  have cb:=Zl cb e2
  have eH:=eH.trans e2
  have cz:=Zl cz e2
  have og:sz h1<=o:=ob.ge
  refine ⟨YE cb rfl,?_⟩
  refine ⟨YE cb rfl,?_⟩
  refine ⟨YE cb rfl,?_⟩
  refine ZnI (S:=S) (Yi hr.fl.1 hr.fl.2 fun b _ hb=>Zq eH hb) hr.fl.2 (fun j hj=>Aqq (hS j hj) eH.size) (fun p hp=>⟨bF p hp,hg.1 p hp⟩) wF (ht.ext eH) fun z_ g3 e3 hz=>?_
  have cb:=Zl cb e3
  have eH:=eH.trans e3
  have cz:=Zl cz e3
  have ob:=ob.ext e3
  refine ⟨YE cb rfl,?_⟩
  refine ⟨YE cb rfl,?_⟩
  refine ZcK (nm:=[102,108,111,119]) ob hz (fun _ h=>h.2) (show 0<=12 by decide) ⟨show 4<=20 by decide,wF⟩ fun g4 ob u4=>?_
  have cb:=ZB cb u4 (by omega)
  have eH:=eH.updS u4 fun j hj=>by omega
  have cz:=ZB cz u4 (by omega)
  refine ⟨YE cb rfl,?_⟩
  refine ⟨YE cb rfl,?_⟩
  refine Zl6 (S:=S) (Yi hr.br.1 hr.br.2 fun b _ hb=>Zq eH hb) hr.br.2 (fun j hj=>Aqq (hS j hj) eH.size) (fun p hp=>⟨bB p hp,hg.2.1 p hp⟩) wB (ht.ext eH) fun z_ g5 e5 hz=>?_
  have cb:=Zl cb e5
  have eH:=eH.trans e5
  have cz:=Zl cz e5
  have ob:=ob.ext e5
  refine ⟨YE cb rfl,?_⟩
  refine ZcK (nm:=[98,114,101,97,107]) ob hz (fun _ h=>h.2) (show 1<=12 by decide) ⟨show 5<=20 by decide,wB⟩ fun g6 ob u6=>?_
  have cb:=ZB cb u6 (by omega)
  have eH:=eH.updS u6 fun j hj=>by omega
  have cz:=ZB cz u6 (by omega)
  refine ⟨YE cb rfl,?_⟩
  refine Zpd (S:=S) (Yi hH2.1 hH2.2 fun b _ hb=>Zq eH hb) hH2.2 (fun j hj=>Aqq (hS j hj) eH.size) (fun p hp=>⟨(bH p hp).1,hg.2.2.1 _ (mH p hp),ZgL (hH3 p hp) fun b _ hb=>Zq eH hb,(bH p hp).2.1,(bH p hp).2.2⟩) (by rw [show (hp_.map fun p=>Zin p.2)=r.ho.map Zin from by rw [<- hH1,Azp];rfl];exact wH) (ht.ext eH) fun z_ g7 e7 hz=>?_
  rw [show (hp_.map fun p=>Zin p.2)=r.ho.map Zin from by rw [<- hH1,Azp];rfl] at hz
  have cb:=Zl cb e7
  have eH:=eH.trans e7
  have cz:=Zl cz e7
  have ob:=ob.ext e7
  refine ZcK (nm:=[104,111,116]) ob hz (fun _ h=>h.2) (show 2<=12 by decide) ⟨show 3<=20 by decide,wH⟩ fun g8 ob u8=>?_
  have cb:=ZB cb u8 (by omega)
  have eH:=eH.updS u8 fun j hj=>by omega
  have cz:=ZB cz u8 (by omega)
  refine rL (s:=z.2.2.2.1) (Zb cb rfl) ?_
  refine rL (s:=z.2.2.2.2.1) (Zb cb rfl) ?_
  refine ZkR (S:=S) (Yi hr.sy.1 hr.sy.2 fun b _ hb=>Zq eH hb) hr.sy.2 (fun j hj=>Aqq (hS j hj) eH.size) (fun p hp=>hg.2.2.2 p hp) wY (ht.ext eH) fun z_ g9 e9 hz=>?_
  have cb:=Zl cb e9
  have eH:=eH.trans e9
  have cz:=Zl cz e9
  have ob:=ob.ext e9
  refine ⟨YE cb rfl,?_⟩
  refine ZcK (nm:=[115,121,115,116,101,109]) ob hz (fun _ h=>h.2) (show 3<=12 by decide) ⟨show 6<=20 by decide,wY⟩ fun g10 ob u10=>?_
  have cb:=ZB cb u10 (by omega)
  have eH:=eH.updS u10 fun j hj=>by omega
  have cz:=ZB cz u10 (by omega)
  refine ⟨YE cb rfl,?_⟩
  refine ZiZ (S:=S) (Yi hL2.1 hL2.2 fun b _ hb=>Zq eH hb) hL2.2 (fun j hj=>Aqq (hS j hj) eH.size) (fun p hp=>⟨(bL p hp).1,ZgL (hL3 p hp) fun b _ hb=>Zq eH hb,(bL p hp).2⟩) (by rw [show (lp_.map fun p=>Zda p.2)=r.li.map Zda from by rw [<- hL1,Azp];rfl];exact wL) (ht.ext eH) fun z_ g11 e11 hz=>?_
  rw [show (lp_.map fun p=>Zda p.2)=r.li.map Zda from by rw [<- hL1,Azp];rfl] at hz
  have cb:=Zl cb e11
  have eH:=eH.trans e11
  have cz:=Zl cz e11
  have ob:=ob.ext e11
  refine ZcK (nm:=[97,117,116,104,111,114,105,116,121]) ob hz (fun _ h=>h.2) (show 4<=12 by decide) ⟨show 9<=20 by decide,wL⟩ fun g12 ob u12=>?_
  have cb:=ZB cb u12 (by omega)
  have eH:=eH.updS u12 fun j hj=>by omega
  have cz:=ZB cz u12 (by omega)
  obtain ⟨z2,T2,c2,w2,_,_⟩:=ob
  have hv:toV r=Zhj [([102,108,111,119],ZcB (r.fl.map Zd0)),([98,114,101,97,107],ZcB (r.br.map Za7)),([104,111,116],ZcB (r.ho.map Zin)),([115,121,115,116,101,109],ZcB (r.sy.map XO)),([97,117,116,104,111,114,105,116,121],ZcB (r.li.map Zda))]:=by unfold toV;rw [ZCA,Zy3,ZEN,Zwk,Zpi]
  refine Zu (rI (Zb c2 rfl) (rS (Zb c2 rfl) (rL (s:=z2.2.2.1) (Zb c2 rfl) (rL (s:=z2.2.2.2.1) (Zb c2 rfl) (Zbc (x:=z2.2.2.1) (y:=z2.2.2.2.1) cz rfl fun h5 u5 z5=>hk _ h5 (eH.updS u5 fun j hj=>by omega) ?_)))))
  rw [hv]
  exact w2.keep (fun b hb hl=>Zo u5 hl fun e=>by have:=hb.1;omega) fun b hb=>⟨by have:=hb.1;omega,by have:=hb.2.1;omega⟩
end Go.Proofs.YtpjbjdheeemdiaaGreatDoor
namespace Go.Js
open Go
def RulesP.lens (r:RulesP):List Nat:=[r.fl.length,r.br.length,r.ho.length,r.sy.length,r.li.length]
theorem Zht {α:Type} {a b:List α} {i:Nat} {x y:α} (h:a.take i=b.take i) (hx:a[i]?=some x) (hy:b[i]?=some y) (e:x=y):a.take (i+1)=b.take (i+1):=by
  rw [Ayu,Ayu,h,hx,hy,e]
theorem ZlH {α:Type} {a b:List α} {i:Nat} {x y:α} (hx:a[i]?=some x) (hy:b[i]?=some y) (e:x≠y):a≠b:=fun h=>e (by rw [h,hy] at hx;exact (Option.some.inj hx).symm)
end Go.Js
namespace Go.Proofs.YtpjbjdheeemdiaaGreatDoor
open Go Go.Fw Go.Js
section
variable {h:Zc}
theorem ZzS (a b:FlowP):(bif Zch (Zk a.res) (Zk b.res) then (bif Zch (Zk a.org) (Zk b.org) then (bif a.thr ==b.thr then (bif a.cnt ==b.cnt then (bif (a.strat:Int) ==(b.strat:Int) then (bif Zch (Zk a.ref) (Zk b.ref) then (bif (a.shape:Int) ==(b.shape:Int) then
    (bif a.warm ==b.warm then (bif a.queue ==b.queue then (bif a.clu ==b.clu then (bif a.id ==b.id then (bif a.fb ==b.fb then true else false) else false) else false) else false) else false) else false) else false) else false) else false) else false) else false) else false)=decide (a=b):=by
  obtain ⟨a1,a2,a3,a4,a5,a6,a7,a8,a9,a10,a11,a12⟩:=a
  obtain ⟨b1,b2,b3,b4,b5,b6,b7,b8,b9,b10,b11,b12⟩:=b
  simp only [Zag,ZtU]
  rw [Azx]
  simp
theorem Zyc (a b:YJ):(bif Zch (Zk a.res) (Zk b.res) then (bif (a.grade:Int) ==(b.grade:Int) then (bif a.cnt ==b.cnt then (bif a.slow ==b.slow then (bif a.least ==b.least then (bif a.window ==b.window then (bif a.recover ==b.recover then true else false) else false) else false) else false) else false) else false) else false)=decide (a=b):=by
  obtain ⟨a1,a2,a3,a4,a5,a6,a7⟩:=a
  obtain ⟨b1,b2,b3,b4,b5,b6,b7⟩:=b
  simp only [Zag,ZtU]
  rw [Azx]
  simp
theorem Ztt (a b:Xi):(bif a.qps ==b.qps then (bif a.threads ==b.threads then (bif a.rt ==b.rt then (bif a.load ==b.load then (bif a.cpu ==b.cpu then true else false) else false) else false) else false) else false)=decide (a=b):=by
  obtain ⟨a1,a2,a3,a4,a5⟩:=a
  obtain ⟨b1,b2,b3,b4,b5⟩:=b
  rw [Azx]
  simp
theorem ZzE (a b:BL × Int):(bif Zch (Zk a.1) (Zk b.1) then (bif a.2 ==b.2 then true else false) else false)=decide (a=b):=by
  obtain ⟨a1,a2⟩:=a
  obtain ⟨b1,b2⟩:=b
  simp only [Zag]
  rw [Azx]
  simp
theorem ZzF {a b:Bool} {A B:Prop} (h1:a≠b->A) (h2:a=b->B):Zz (a !=b) A B:=⟨fun e=>h1 (by simpa using e),fun e=>h2 (by simpa using e)⟩
theorem Zpv {a b:ZeP} {x y:Sl} (ha:Row h x 2 (Ze0 a.items)) (hb:Row h y 2 (Ze0 b.items)) {K:Bool->HP} (hk:∀ h',Ext h h'->K (decide (a=b)) h'):XH (ZDQ x a) (ZDQ y b) K h:=by
  unfold XH ZbG
  refine YX fun h2 c1 e1 z1=>YX fun h4 c3 e3 z3=>?_
  have e04:=e1.trans e3
  have ca:obj h4 h.size=some (.cells (Zkw (x,a)).toArray 85 (0,0)):=Zl c1 e3
  have cb:obj h4 h2.size=some (.cells (Zkw (y,b)).toArray 85 (0,0)):=c3
  have no:∀ {p:Prop},a≠b->K false h4:=fun n=>by have:=hk h4 e04;rw [decide_eq_false n] at this;exact this
  have la:=ha.len
  have lb:=hb.len
  rw [Zlz] at la lb
  have big:=ha.big
  have cap:=ha.cap
  refine rS (n:=Zk a.res) (Zb ca rfl) (rS (n:=Zk b.res) (Zb cb rfl) ?_)
  rw [Zag]
  by_cases h1':¬ a.res=b.res
  ·rw [decide_eq_false h1']
   exact Zn rfl (no (p:=True) fun e=>h1' (by rw [e]))
  have h1:a.res=b.res:=Classical.not_not.1 h1'
  rw [decide_eq_true h1]
  refine Zm rfl (rI (n:=a.index) (Zb ca rfl) (rI (n:=b.index) (Zb cb rfl) (Zax (fun n=>no (p:=True) fun e=>n (by rw [e])) fun q2=>?_)))
  refine rI (n:=a.cnt) (Zb ca rfl) (rI (n:=b.cnt) (Zb cb rfl) (Zax (fun n=>no (p:=True) fun e=>n (by rw [e])) fun q3=>?_))
  refine rI (n:=a.secs) (Zb ca rfl) (rI (n:=b.secs) (Zb cb rfl) (Zax (fun n=>no (p:=True) fun e=>n (by rw [e])) fun q4=>?_))
  refine rL (s:=x) (Zb ca rfl) (rL (s:=y) (Zb cb rfl) (Zax (fun n=>no (p:=True) fun e=>n (by rw [e] at la;omega)) fun q5=>Za ?_))
  have hlen:a.items.length=b.items.length:=by omega
  refine Zv (fun p h'=>h'=h4/\∃ i:Nat,p.1=i/\i<=a.items.length/\a.items.take i=b.items.take i) (fun p _=>(a.items.length - p.1).toNat) ⟨rfl,0,rfl,Ayk _,rfl⟩ ?_
  rintro ⟨i_,u⟩ h5 ⟨rfl,i,hi,hil,hq⟩
  dsimp only at hi ⊢
  subst hi
  refine rL (s:=x) (Zb ca rfl) (Zt (fun hlt=>rL (s:=x) (Zb ca rfl) ?_) fun hge=>?_)
  ·have hia:i<a.items.length:=by omega
   obtain ⟨p,hp⟩:∃ p,a.items[i]?=some p:=⟨_,Ayb hia⟩
   obtain ⟨q,hqb⟩:∃ q,b.items[i]?=some q:=⟨_,Ayb (by omega)⟩
   refine Zou (ha.ext e04) hp rfl (rL (s:=y) (Zb cb rfl) (Zou (hb.ext e04) hqb rfl ?_))
   rw [ZzE]
   by_cases e:p=q
   ·rw [decide_eq_true e]
    refine Zm rfl (Za ?_)
    rw [Yt (by omega) (by omega)]
    exact ⟨⟨rfl,i+1,rfl,by omega,Zht hq hp hqb e⟩,by omega⟩
   ·rw [decide_eq_false e]
    exact Zn rfl (no (p:=True) fun e2=>ZlH hp hqb e (by rw [e2]))
  ·have:i=a.items.length:=by omega
   subst this
   rw [Awd (Aqo _),Awd (by omega)] at hq
   have:a=b:=by
     obtain ⟨a1,a2,a3,a4,a5⟩:=a
     obtain ⟨b1,b2,b3,b4,b5⟩:=b
     simp only at h1 q2 q3 q4 hq
     rw [h1,q2,q3,q4,hq]
   have k:=hk h5 e04
   rw [decide_eq_true this] at k
   exact k
theorem Zn3 {a b:Za2} {x y:Sl} (ha:Row h x 1 (a.origins.map sV)) (hb:Row h y 1 (b.origins.map sV)) {K:Bool->HP} (hk:∀ h',Ext h h'->K (decide (a=b)) h'):Xy (Zt1 x a) (Zt1 y b) K h:=by
  unfold Xy Zbk
  refine YX fun h2 c1 e1 z1=>YX fun h4 c3 e3 z3=>?_
  have e04:=e1.trans e3
  have ca:obj h4 h.size=some (.cells (ZfF (x,a)).toArray 95 (0,0)):=Zl c1 e3
  have cb:obj h4 h2.size=some (.cells (ZfF (y,b)).toArray 95 (0,0)):=c3
  have no:∀ {p:Prop},a≠b->K false h4:=fun n=>by have:=hk h4 e04;rw [decide_eq_false n] at this;exact this
  have la:=ZaQ ha
  have lb:=ZaQ hb
  have big:=ha.big
  have cap:=ha.cap
  refine rS (n:=Zk a.res) (Zb ca rfl) (rS (n:=Zk b.res) (Zb cb rfl) ?_)
  rw [Zag]
  by_cases h1':¬ a.res=b.res
  ·rw [decide_eq_false h1']
   exact Zn rfl (no (p:=True) fun e=>h1' (by rw [e]))
  have h1:a.res=b.res:=Classical.not_not.1 h1'
  rw [decide_eq_true h1]
  refine Zm rfl (rBl (n:=a.white) (Zb ca rfl) (rBl (n:=b.white) (Zb cb rfl) (ZzF (fun n=>no (p:=True) fun e=>n (by rw [e])) fun q2=>?_)))
  refine rL (s:=x) (Zb ca rfl) (rL (s:=y) (Zb cb rfl) (Zax (fun n=>no (p:=True) fun e=>n (by rw [e] at la;omega)) fun q5=>Za ?_))
  have hlen:a.origins.length=b.origins.length:=by omega
  refine Zv (fun p h'=>h'=h4/\∃ i:Nat,p.1=i/\i<=a.origins.length/\a.origins.take i=b.origins.take i) (fun p _=>(a.origins.length - p.1).toNat) ⟨rfl,0,rfl,Ayk _,rfl⟩ ?_
  rintro ⟨i_,u⟩ h5 ⟨rfl,i,hi,hil,hq⟩
  dsimp only at hi ⊢
  subst hi
  refine rL (s:=x) (Zb ca rfl) (Zt (fun hlt=>rL (s:=x) (Zb ca rfl) ?_) fun hge=>?_)
  ·have hia:i<a.origins.length:=by omega
   obtain ⟨p,hp⟩:∃ p,a.origins[i]?=some p:=⟨_,Ayb hia⟩
   obtain ⟨q,hqb⟩:∃ q,b.origins[i]?=some q:=⟨_,Ayb (by omega)⟩
   refine ZfV (ha.ext e04) hp rfl (rL (s:=y) (Zb cb rfl) (ZfV (hb.ext e04) hqb rfl ?_))
   rw [Zag]
   by_cases e:p=q
   ·rw [decide_eq_true e]
    refine Zm rfl (Za ?_)
    rw [Yt (by omega) (by omega)]
    exact ⟨⟨rfl,i+1,rfl,by omega,Zht hq hp hqb e⟩,by omega⟩
   ·rw [decide_eq_false e]
    exact Zn rfl (no (p:=True) fun e2=>ZlH hp hqb e (by rw [e2]))
  ·have:i=a.origins.length:=by omega
   subst this
   rw [Awd (Aqo _),Awd (by omega)] at hq
   have:a=b:=by
     obtain ⟨a1,a2,a3⟩:=a
     obtain ⟨b1,b2,b3⟩:=b
     simp only at h1 q2 hq
     rw [h1,q2,hq]
   have k:=hk h5 e04
   rw [decide_eq_true this] at k
   exact k
theorem ZlU {z:VTR} {r:RulesP} {S:Nat->Prop} (hr:Zat h S z r) {i:Nat} {n:Nat} (hn:r.lens[i]?=some n) {k:Int} (hi:k=(i:Int)+1) {K:Int->HP} (hk:∀ h',Ext h h'->K n h'):X8 z k K h:=by
  unfold X8 Zcs
  subst hi
  refine YX fun h1 c1 e1 z1=>Za ?_
  have cb:obj h1 h.size=some (.cells (Zac z).toArray 28 (0,0)):=c1
  have l1:=ZaA (c:=Zdx) (n:=12) (fun _=>rfl) hr.fl.1 (by decide)
  have l2:=ZaA (c:=Zcc) (n:=7) (fun _=>rfl) hr.br.1 (by decide)
  have l4:=ZaA (c:=Zbw) (n:=5) (fun _=>rfl) hr.sy.1 (by decide)
  obtain ⟨hp,q1,q2,q3⟩:=hr.ho
  obtain ⟨lp,p1,p2,p3⟩:=hr.li
  have l3:=ZaA (c:=Zkw) (n:=5) (fun _=>rfl) q2.1 (by decide)
  have l5:=ZaA (c:=ZfF) (n:=3) (fun _=>rfl) p2.1 (by decide)
  have m3:hp.length=r.ho.length:=by rw [<- q1];simp
  have m5:lp.length=r.li.length:=by rw [<- p1];simp
  have k0:=hk h1 e1
  have ne:∀ (i j:Nat),i≠j->(((i:Int)+1) ==((j:Int)+1))=false:=fun i j h=>by simp;omega
  match i,hn with
  | 0,hn=>cases hn;exact Zh (Zn rfl (rL (s:=z.1) (Zb cb rfl) (Za (by rw [l1];exact k0))))
  | 1,hn=>cases hn;exact Zh (Zm (ne 1 0 (by decide)) (Zh (Zn rfl (rL (s:=z.2.1) (Zb cb rfl) (Za (by rw [l2];exact k0))))))
  | 2,hn=>cases hn;exact Zh (Zm (ne 2 0 (by decide)) (Zh (Zm (ne 2 1 (by decide)) (Zh (Zn rfl (rL (s:=z.2.2.1) (Zb cb rfl) (Za (by rw [l3,m3];exact k0))))))))
  | 3,hn=>cases hn;exact Zh (Zm (ne 3 0 (by decide)) (Zh (Zm (ne 3 1 (by decide)) (Zh (Zm (ne 3 2 (by decide)) (Zh (Zn rfl (rL (s:=z.2.2.2.1) (Zb cb rfl) (Za (by rw [l4];exact k0))))))))))
  | 4,hn=>cases hn;exact Zh (Zm (ne 4 0 (by decide)) (Zh (Zm (ne 4 1 (by decide)) (Zh (Zm (ne 4 2 (by decide)) (Zh (Zm (ne 4 3 (by decide)) (Zh (Zn rfl (rL (s:=z.2.2.2.2.1) (Zb cb rfl) (Za (by rw [l5,m5];exact k0))))))))))))
  | n+5,hn=>cases hn
theorem Zmb {za zb:VTR} {ra rb:RulesP} {S S':Nat->Prop} (ha:Zat h S za ra) (hb:Zat h S' zb rb) {K:Bool->HP} (hk:∀ h',Ext h h'->K (decide (ra=rb)) h'):Zao za zb K h:=by
  unfold Zao ZcN
  refine YX fun h2 c1 e1 z1=>YX fun h4 c3 e3 z3=>Za ?_
  have e04:=e1.trans e3
  have ca4:obj h4 h.size=some (.cells (Zac za).toArray 28 (0,0)):=Zl c1 e3
  have cb4:obj h4 h2.size=some (.cells (Zac zb).toArray 28 (0,0)):=c3
  have no:∀ {h':Zc},Ext h4 h'->ra≠rb->K false h':=fun e n=>by have:=hk _ (e04.trans e);rw [decide_eq_false n] at this;exact this
  obtain ⟨hpa,qa1,qa2,qa3⟩:=id ha.ho
  obtain ⟨lpa,pa1,pa2,pa3⟩:=id ha.li
  obtain ⟨hpb,qb1,qb2,qb3⟩:=id hb.ho
  obtain ⟨lpb,pb1,pb2,pb3⟩:=id hb.li
  have hl5:ra.lens.length=5:=rfl
  have hl5b:rb.lens.length=5:=rfl
  refine Zv (fun p h'=>Ext h4 h'/\∃ i:Nat,p.1=(i:Int)+1/\i<=5/\ra.lens.take i=rb.lens.take i) (fun p _=>(6 - p.1).toNat) ⟨Ext.refl _,0,rfl,Ayk _,rfl⟩ ?_
  rintro ⟨i_,u⟩ h7 ⟨e7,i,hi,hil,hq⟩
  dsimp only at hi ⊢
  subst hi
  have ca7:=Zl ca4 e7
  have cb7:=Zl cb4 e7
  refine Zt (fun hlt=>?_) fun hge=>Za ?_
  ·have hia:i<5:=by omega
   obtain ⟨p,hp⟩:∃ p,ra.lens[i]?=some p:=⟨_,Ayb (by omega)⟩
   obtain ⟨q,hqb⟩:∃ q,rb.lens[i]?=some q:=⟨_,Ayb (by omega)⟩
   refine rL (s:=za.1) (Zb ca7 rfl) (rL (s:=za.2.1) (Zb ca7 rfl) (rL (s:=za.2.2.1) (Zb ca7 rfl) (rL (s:=za.2.2.2.1) (Zb ca7 rfl) (rL (s:=za.2.2.2.2.1) (Zb ca7 rfl) ?_))))
   refine rL (s:=zb.1) (Zb cb7 rfl) (rL (s:=zb.2.1) (Zb cb7 rfl) (rL (s:=zb.2.2.1) (Zb cb7 rfl) (rL (s:=zb.2.2.2.1) (Zb cb7 rfl) (rL (s:=zb.2.2.2.2.1) (Zb cb7 rfl) ?_))))
   refine ZlU (z:=za) (ha.ext (e04.trans e7)) hp rfl fun h18 e18=>⟨?_,ZlU (z:=zb) (hb.ext (e04.trans (e7.trans e18))) hqb rfl fun h20 e20=>Zax (fun n=>no (e7.trans (e18.trans e20)) fun e=>n ?_) fun q2=>Za ?_⟩
   ·have c:=Zl cb7 e18
    refine ⟨?_,?_,?_,?_,?_,trivial⟩<;>rw [X6]<;>exact Zb c rfl
   ·rw [e,hqb] at hp
    cases hp
    rfl
   ·rw [ZqI (by omega) (by omega)]
    exact ⟨⟨e7.trans (e18.trans e20),i+1,by omega,by omega,Zht hq hp hqb (by omega)⟩,by omega⟩
  have hi5:i=5:=by omega
  subst hi5
  rw [Awd (by omega),Awd (by omega)] at hq
  obtain ⟨n1,n2,n3,n4,n5⟩:ra.fl.length=rb.fl.length/\ra.br.length=rb.br.length/\ra.ho.length=rb.ho.length/\ra.sy.length=rb.sy.length/\ra.li.length=rb.li.length:=by
    simp only [RulesP.lens,Axy,and_true] at hq
    exact hq
  have la0:=ZaA (c:=Zdx) (n:=12) (fun _=>rfl) ha.fl.1 (by decide)
  have big0:=ha.fl.1.big
  have cap0:=ha.fl.1.cap
  refine Zv (fun p h'=>Ext h4 h'/\∃ i:Nat,p.1=i/\i<=ra.fl.length/\ra.fl.take i=rb.fl.take i) (fun p _=>(ra.fl.length - p.1).toNat) ⟨e7,0,rfl,Ayk _,rfl⟩ ?_
  rintro ⟨i_,u⟩ g0 ⟨f0,i,hi,hil,hq0⟩
  dsimp only at hi ⊢
  subst hi
  have ca0:=Zl ca4 f0
  have cb0:=Zl cb4 f0
  have ex0:=e04.trans f0
  refine rL (s:=za.1) (Zb ca0 rfl) (Zt (fun hlt=>rL (s:=za.1) (Zb ca0 rfl) ?_) fun hge=>Za ?_)
  ·have hia:i<ra.fl.length:=by omega
   obtain ⟨p,hp⟩:∃ p,ra.fl[i]?=some p:=⟨_,Ayb hia⟩
   obtain ⟨q,hqb⟩:∃ q,rb.fl[i]?=some q:=⟨_,Ayb (by omega)⟩
   refine ZbN (c:=Zdx) (fun _=>rfl) (ha.fl.1.ext ex0) (by decide) hp rfl fun b o g=>⟨_,g 0 _ rfl,_,g 1 _ rfl,_,g 2 _ rfl,_,g 3 _ rfl,_,g 4 _ rfl,_,g 5 _ rfl,_,g 6 _ rfl,_,g 7 _ rfl,_,g 8 _ rfl,_,g 9 _ rfl,_,g 10 _ rfl,_,g 11 _ rfl,rL (s:=zb.1) (Zb cb0 rfl) (ZbN (c:=Zdx) (fun _=>rfl) (hb.fl.1.ext ex0) (by decide) hqb rfl fun b' o' g'=>⟨_,g' 0 _ rfl,_,g' 1 _ rfl,_,g' 2 _ rfl,_,g' 3 _ rfl,_,g' 4 _ rfl,_,g' 5 _ rfl,_,g' 6 _ rfl,_,g' 7 _ rfl,_,g' 8 _ rfl,_,g' 9 _ rfl,_,g' 10 _ rfl,_,g' 11 _ rfl,?_⟩)⟩
   dsimp only
   rw [ZzS p q]
   by_cases e:p=q
   ·rw [decide_eq_true e]
    refine Zm rfl (Za ?_)
    rw [Yt (by omega) (by omega)]
    exact ⟨⟨f0,i+1,rfl,by omega,Zht hq0 hp hqb e⟩,by omega⟩
   ·rw [decide_eq_false e]
    exact Zn rfl (no f0 fun e2=>ZlH hp hqb e (by rw [e2]))
  have hi0:i=ra.fl.length:=by omega
  subst hi0
  rw [Awd (Aqo _),Awd (by omega)] at hq0
  have la1:=ZaA (c:=Zcc) (n:=7) (fun _=>rfl) ha.br.1 (by decide)
  have big1:=ha.br.1.big
  have cap1:=ha.br.1.cap
  refine Zv (fun p h'=>Ext h4 h'/\∃ i:Nat,p.1=i/\i<=ra.br.length/\ra.br.take i=rb.br.take i) (fun p _=>(ra.br.length - p.1).toNat) ⟨f0,0,rfl,Ayk _,rfl⟩ ?_
  rintro ⟨i_,u⟩ g1 ⟨f1,i,hi,hil,hq1⟩
  dsimp only at hi ⊢
  subst hi
  have ca1:=Zl ca4 f1
  have cb1:=Zl cb4 f1
  have ex1:=e04.trans f1
  refine rL (s:=za.2.1) (Zb ca1 rfl) (Zt (fun hlt=>rL (s:=za.2.1) (Zb ca1 rfl) ?_) fun hge=>Za ?_)
  ·have hia:i<ra.br.length:=by omega
   obtain ⟨p,hp⟩:∃ p,ra.br[i]?=some p:=⟨_,Ayb hia⟩
   obtain ⟨q,hqb⟩:∃ q,rb.br[i]?=some q:=⟨_,Ayb (by omega)⟩
   refine ZbN (c:=Zcc) (fun _=>rfl) (ha.br.1.ext ex1) (by decide) hp rfl fun b o g=>⟨_,g 0 _ rfl,_,g 1 _ rfl,_,g 2 _ rfl,_,g 3 _ rfl,_,g 4 _ rfl,_,g 5 _ rfl,_,g 6 _ rfl,rL (s:=zb.2.1) (Zb cb1 rfl) (ZbN (c:=Zcc) (fun _=>rfl) (hb.br.1.ext ex1) (by decide) hqb rfl fun b' o' g'=>⟨_,g' 0 _ rfl,_,g' 1 _ rfl,_,g' 2 _ rfl,_,g' 3 _ rfl,_,g' 4 _ rfl,_,g' 5 _ rfl,_,g' 6 _ rfl,?_⟩)⟩
   dsimp only
   rw [Zyc p q]
   by_cases e:p=q
   ·rw [decide_eq_true e]
    refine Zm rfl (Za ?_)
    rw [Yt (by omega) (by omega)]
    exact ⟨⟨f1,i+1,rfl,by omega,Zht hq1 hp hqb e⟩,by omega⟩
   ·rw [decide_eq_false e]
    exact Zn rfl (no f1 fun e2=>ZlH hp hqb e (by rw [e2]))
  have hi1:i=ra.br.length:=by omega
  subst hi1
  rw [Awd (Aqo _),Awd (by omega)] at hq1
  have la2:=ZaA (c:=Zkw) (n:=5) (fun _=>rfl) qa2.1 (by decide)
  have ma2:hpa.length=ra.ho.length:=by rw [<- qa1];simp
  have mb2:hpb.length=rb.ho.length:=by rw [<- qb1];simp
  have big2:=qa2.1.big
  have cap2:=qa2.1.cap
  refine Zv (fun p h'=>Ext h4 h'/\∃ i:Nat,p.1=i/\i<=ra.ho.length/\ra.ho.take i=rb.ho.take i) (fun p _=>(ra.ho.length - p.1).toNat) ⟨f1,0,rfl,Ayk _,rfl⟩ ?_
  rintro ⟨i_,u⟩ g2 ⟨f2,i,hi,hil,hq2⟩
  dsimp only at hi ⊢
  subst hi
  have ca2:=Zl ca4 f2
  have cb2:=Zl cb4 f2
  have ex2:=e04.trans f2
  refine rL (s:=za.2.2.1) (Zb ca2 rfl) (Zt (fun hlt=>rL (s:=za.2.2.1) (Zb ca2 rfl) ?_) fun hge=>Za ?_)
  ·have hia:i<ra.ho.length:=by omega
   obtain ⟨p,hp⟩:∃ p,hpa[i]?=some p:=⟨_,Ayb (by omega)⟩
   obtain ⟨q,hqb⟩:∃ q,hpb[i]?=some q:=⟨_,Ayb (by omega)⟩
   have hpp:ra.ho[i]?=some p.2:=by rw [<- qa1,Awz,hp];rfl
   have hqq:rb.ho[i]?=some q.2:=by rw [<- qb1,Awz,hqb];rfl
   refine ZbN (c:=Zkw) (fun _=>rfl) (qa2.1.ext ex2) (by decide) hp rfl fun b o g=>⟨_,g 0 _ rfl,_,g 1 _ rfl,_,g 2 _ rfl,_,g 3 _ rfl,p.1,g 4 _ rfl,rL (s:=zb.2.2.1) (Zb cb2 rfl) (ZbN (c:=Zkw) (fun _=>rfl) (qb2.1.ext ex2) (by decide) hqb rfl fun b' o' g'=>⟨_,g' 0 _ rfl,_,g' 1 _ rfl,_,g' 2 _ rfl,_,g' 3 _ rfl,q.1,g' 4 _ rfl,?_⟩)⟩
   refine Zpv (a:=p.2) (b:=q.2) (x:=p.1) (y:=q.1) ((qa3 p (Axq hp)).1.ext ex2) ((qb3 q (Axq hqb)).1.ext ex2) fun h9 e9=>⟨YE (Zl cb2 e9) rfl,YE (Zl ca2 e9) rfl,?_⟩
   by_cases e:p.2=q.2
   ·rw [decide_eq_true e]
    refine Zm rfl (Za ?_)
    rw [Yt (by omega) (by omega)]
    exact ⟨⟨f2.trans e9,i+1,rfl,by omega,Zht hq2 hpp hqq e⟩,by omega⟩
   ·rw [decide_eq_false e]
    exact Zn rfl (no (f2.trans e9) fun e2=>ZlH hpp hqq e (by rw [e2]))
  have hi2:i=ra.ho.length:=by omega
  subst hi2
  rw [Awd (Aqo _),Awd (by omega)] at hq2
  have la3:=ZaA (c:=Zbw) (n:=5) (fun _=>rfl) ha.sy.1 (by decide)
  have big3:=ha.sy.1.big
  have cap3:=ha.sy.1.cap
  refine Zv (fun p h'=>Ext h4 h'/\∃ i:Nat,p.1=i/\i<=ra.sy.length/\ra.sy.take i=rb.sy.take i) (fun p _=>(ra.sy.length - p.1).toNat) ⟨f2,0,rfl,Ayk _,rfl⟩ ?_
  rintro ⟨i_,u⟩ g3 ⟨f3,i,hi,hil,hq3⟩
  dsimp only at hi ⊢
  subst hi
  have ca3:=Zl ca4 f3
  have cb3:=Zl cb4 f3
  have ex3:=e04.trans f3
  refine rL (s:=za.2.2.2.1) (Zb ca3 rfl) (Zt (fun hlt=>rL (s:=za.2.2.2.1) (Zb ca3 rfl) ?_) fun hge=>Za ?_)
  ·have hia:i<ra.sy.length:=by omega
   obtain ⟨p,hp⟩:∃ p,ra.sy[i]?=some p:=⟨_,Ayb hia⟩
   obtain ⟨q,hqb⟩:∃ q,rb.sy[i]?=some q:=⟨_,Ayb (by omega)⟩
   refine ZbN (c:=Zbw) (fun _=>rfl) (ha.sy.1.ext ex3) (by decide) hp rfl fun b o g=>⟨_,g 0 _ rfl,_,g 1 _ rfl,_,g 2 _ rfl,_,g 3 _ rfl,_,g 4 _ rfl,rL (s:=zb.2.2.2.1) (Zb cb3 rfl) (ZbN (c:=Zbw) (fun _=>rfl) (hb.sy.1.ext ex3) (by decide) hqb rfl fun b' o' g'=>⟨_,g' 0 _ rfl,_,g' 1 _ rfl,_,g' 2 _ rfl,_,g' 3 _ rfl,_,g' 4 _ rfl,?_⟩)⟩
   dsimp only
   rw [Ztt p q]
   by_cases e:p=q
   ·rw [decide_eq_true e]
    refine Zm rfl (Za ?_)
    rw [Yt (by omega) (by omega)]
    exact ⟨⟨f3,i+1,rfl,by omega,Zht hq3 hp hqb e⟩,by omega⟩
   ·rw [decide_eq_false e]
    exact Zn rfl (no f3 fun e2=>ZlH hp hqb e (by rw [e2]))
  have hi3:i=ra.sy.length:=by omega
  subst hi3
  rw [Awd (Aqo _),Awd (by omega)] at hq3
  have la4:=ZaA (c:=ZfF) (n:=3) (fun _=>rfl) pa2.1 (by decide)
  have ma4:lpa.length=ra.li.length:=by rw [<- pa1];simp
  have mb4:lpb.length=rb.li.length:=by rw [<- pb1];simp
  have big4:=pa2.1.big
  have cap4:=pa2.1.cap
  refine Zv (fun p h'=>Ext h4 h'/\∃ i:Nat,p.1=i/\i<=ra.li.length/\ra.li.take i=rb.li.take i) (fun p _=>(ra.li.length - p.1).toNat) ⟨f3,0,rfl,Ayk _,rfl⟩ ?_
  rintro ⟨i_,u⟩ g4 ⟨f4,i,hi,hil,hq4⟩
  dsimp only at hi ⊢
  subst hi
  have ca4:=Zl ca4 f4
  have cb4:=Zl cb4 f4
  have ex4:=e04.trans f4
  refine rL (s:=za.2.2.2.2.1) (Zb ca4 rfl) (Zt (fun hlt=>rL (s:=za.2.2.2.2.1) (Zb ca4 rfl) ?_) fun hge=>?_)
  ·have hia:i<ra.li.length:=by omega
   obtain ⟨p,hp⟩:∃ p,lpa[i]?=some p:=⟨_,Ayb (by omega)⟩
   obtain ⟨q,hqb⟩:∃ q,lpb[i]?=some q:=⟨_,Ayb (by omega)⟩
   have hpp:ra.li[i]?=some p.2:=by rw [<- pa1,Awz,hp];rfl
   have hqq:rb.li[i]?=some q.2:=by rw [<- pb1,Awz,hqb];rfl
   refine ZbN (c:=ZfF) (fun _=>rfl) (pa2.1.ext ex4) (by decide) hp rfl fun b o g=>⟨_,g 0 _ rfl,_,g 1 _ rfl,p.1,g 2 _ rfl,rL (s:=zb.2.2.2.2.1) (Zb cb4 rfl) (ZbN (c:=ZfF) (fun _=>rfl) (pb2.1.ext ex4) (by decide) hqb rfl fun b' o' g'=>⟨_,g' 0 _ rfl,_,g' 1 _ rfl,q.1,g' 2 _ rfl,?_⟩)⟩
   refine Zn3 (a:=p.2) (b:=q.2) (x:=p.1) (y:=q.1) ((pa3 p (Axq hp)).1.ext ex4) ((pb3 q (Axq hqb)).1.ext ex4) fun h9 e9=>⟨YE (Zl cb4 e9) rfl,YE (Zl ca4 e9) rfl,?_⟩
   by_cases e:p.2=q.2
   ·rw [decide_eq_true e]
    refine Zm rfl (Za ?_)
    rw [Yt (by omega) (by omega)]
    exact ⟨⟨f4.trans e9,i+1,rfl,by omega,Zht hq4 hpp hqq e⟩,by omega⟩
   ·rw [decide_eq_false e]
    exact Zn rfl (no (f4.trans e9) fun e2=>ZlH hpp hqq e (by rw [e2]))
  have hi4:i=ra.li.length:=by omega
  subst hi4
  rw [Awd (Aqo _),Awd (by omega)] at hq4
  have:ra=rb:=by
    obtain ⟨a1,a2,a3,a4,a5⟩:=ra
    obtain ⟨b1,b2,b3,b4,b5⟩:=rb
    simp only at hq0 hq1 hq2 hq3 hq4
    rw [hq0,hq1,hq2,hq3,hq4]
  have k:=hk g4 ex4
  rw [decide_eq_true this] at k
  exact k
end
end Go.Proofs.YtpjbjdheeemdiaaGreatDoor
namespace Go.Proofs.YtpjbjdheeemdiaaGreatDoor
open Go Go.Fw Go.Js
section
variable {h:Zc}
abbrev zR:VTR:=(⟨none,0,0⟩,⟨none,0,0⟩,⟨none,0,0⟩,⟨none,0,0⟩,⟨none,0,0⟩,())
theorem Zwb {z:VT5} {T:TypeId} {K:Nat->HP} (hk:∀ b h',Ext h h'->obj h' b=some (.cells (Xl z).toArray T (0,0))->sz h<=b->K b h'):newC h [.int .u8 0,.string (ByteArray.mk #[]),.slice none 0 0,.slice none 0 0] T fun b h4 =>
    sts h4 b 0 [.int .u8 z.1,.string z.2.1,.slice z.2.2.1.ptr z.2.2.1.len z.2.2.1.cap,.slice z.2.2.2.1.ptr z.2.2.2.1.len z.2.2.2.1.cap] (K b):=by
  refine YX fun h2 c2 e2 z2=>ZeW c2 (by show 4<=4;omega) rfl fun h3 c3 u3 z3=>hk _ h3 (e2.updS u3 fun j hj=>by subst hj;exact Aqo _) c3 (Aqo _)
theorem Zgn {z:VTR} {T:TypeId} {K:Nat->HP} (hk:∀ b h',Ext h h'->obj h' b=some (.cells (Zac z).toArray T (0,0))->sz h<=b->K b h'):newC h [.slice none 0 0,.slice none 0 0,.slice none 0 0,.slice none 0 0,.slice none 0 0] T fun b h4 =>
    sts h4 b 0 [.slice z.1.ptr z.1.len z.1.cap,.slice z.2.1.ptr z.2.1.len z.2.1.cap,.slice z.2.2.1.ptr z.2.2.1.len z.2.2.1.cap,.slice z.2.2.2.1.ptr z.2.2.2.1.len z.2.2.2.1.cap,.slice z.2.2.2.2.1.ptr z.2.2.2.2.1.len z.2.2.2.2.1.cap] (K b):=by
  refine YX fun h2 c2 e2 z2=>ZeW c2 (by show 5<=5;omega) rfl fun h3 c3 u3 z3=>hk _ h3 (e2.updS u3 fun j hj=>by subst hj;exact Aqo _) c3 (Aqo _)
theorem rV4 {b:Nat} {z:VT5} {T:TypeId} {f:Nat × Nat} {K:Int->ByteArray->Sl->Sl->Prop} (c:obj h b=some (.cells (Xl z).toArray T f)) (hk:K z.1 z.2.1 z.2.2.1 z.2.2.2.1):ldI h b 0 .u8 fun t1=>ldS h b (0+1) fun t2=>ldL h b (0+2) fun t3=>ldL h b (0+3) fun t4=>K t1 t2 t3 t4 :=
  rI (Zb c rfl) (rS (Zb c rfl) (rL (s:=z.2.2.1) (Zb c rfl) (rL (s:=z.2.2.2.1) (Zb c rfl) hk)))
theorem rR5 {b:Nat} {z:VTR} {T:TypeId} {f:Nat × Nat} {K:Sl->Sl->Sl->Sl->Sl->Prop} (c:obj h b=some (.cells (Zac z).toArray T f)) (hk:K z.1 z.2.1 z.2.2.1 z.2.2.2.1 z.2.2.2.2.1):ldL h b 0 fun t1=>ldL h b (0+1) fun t2=>ldL h b (0+2) fun t3=>ldL h b (0+3) fun t4=>ldL h b (0+4) fun t5=>K t1 t2 t3 t4 t5 :=
  rL (s:=z.1) (Zb c rfl) (rL (s:=z.2.1) (Zb c rfl) (rL (s:=z.2.2.1) (Zb c rfl) (rL (s:=z.2.2.2.1) (Zb c rfl) (rL (s:=z.2.2.2.2.1) (Zb c rfl) hk))))
theorem ZrS:RulesP.fit RulesP.zero:=⟨(fun _ h=>by cases h),(fun _ h=>by cases h),(fun _ h=>by cases h),(fun _ h=>by cases h)⟩
structure Dec (s:BL) (r:RulesP) (e a:Nat):Prop where
  ok:e=0->a=0/\∃ v,Zer s = .ok v/\Zgu v = .ok r
  er:e≠0->r=RulesP.zero/\∀ v,Zer s = .ok v->∃ k i,Zgu v = .error (k,i,e)
theorem ZlT {s:ByteArray} (ht:ZaN h) (hh:9<=sz h) {K:(Sl × Sl × Sl × Sl × Sl × Unit)->Int->Int->HP} (hk:∀ x r (e a:Nat) h',Ext h h'->Zat h' (fun b=>sz h<=b) x r->RulesP.fit r->Dec s.data.toList r e a->K x e a h'):Zbh s K h:=by
  unfold Zbh Zeb
  refine YX fun h1 c1 e1 z1=>Za (Za (ZwT (ht.ext e1) (by have:=e1.size;have:sz h=h.size:=rfl;have:sz h1=h1.size:=rfl;omega) fun z e n b h9 e9 cv b1 b2 g9=>Za (Za ?_)))
  have s0:sz h=h.size:=rfl
  have s1:sz h1=h1.size:=rfl
  have s9:sz h9=h9.size:=rfl
  have cr:obj h9 h.size=some (.cells (Zac zR).toArray 28 (0,0)):=Zl c1 e9
  have e09:=e1.trans e9
  have hrl:h.size<sz h1:=by omega
  have fromPart:∀ {v:JV},Zam h9 (fun j=>sz h1<=j/\j<sz h9) z v->wV v<=1048576->(∀ r,Zgu v = .ok r->Dec s.data.toList r 0 0)->(∀ k i e,Zgu v = .error (k,i,e)->e≠0->Dec s.data.toList RulesP.zero e 0) ->
      ldI h9 b 0 .u8 fun t18=>ldS h9 b (0+1) fun t19=>ldL h9 b (0+2) fun t20=>ldL h9 b (0+3) fun t21=>YP (t18,t19,t20,t21,()) (fun t22 t23 t24 t25 h26 =>
        newC h26 [.slice none 0 0,.slice none 0 0,.slice none 0 0,.slice none 0 0,.slice none 0 0] 28 fun b27 h28 =>
        sts h28 b27 0 [.slice t22.1.ptr t22.1.len t22.1.cap,.slice t22.2.1.ptr t22.2.1.len t22.2.1.cap,.slice t22.2.2.1.ptr t22.2.2.1.len t22.2.2.1.cap,.slice t22.2.2.2.1.ptr t22.2.2.2.1.len t22.2.2.2.1.cap,.slice t22.2.2.2.2.1.ptr t22.2.2.2.2.1.len t22.2.2.2.2.1.cap] fun h29 =>
        Zi t23 fun err30=>Zi t24 fun x=>Zi t25 fun x31 =>
        ldL h29 b27 0 fun t32=>ldL h29 b27 (0+1) fun t33=>ldL h29 b27 (0+2) fun t34=>ldL h29 b27 (0+3) fun t35=>ldL h29 b27 (0+4) fun t36 =>
        sts h29 h.size 0 [.slice t32.ptr t32.len t32.cap,.slice t33.ptr t33.len t33.cap,.slice t34.ptr t34.len t34.cap,.slice t35.ptr t35.len t35.cap,.slice t36.ptr t36.len t36.cap] fun h37 =>
        Zi err30 fun t38=>Zi 0 fun t39 =>
        ldL h37 h.size 0 fun t40=>ldL h37 h.size (0+1) fun t41=>ldL h37 h.size (0+2) fun t42=>ldL h37 h.size (0+3) fun t43=>ldL h37 h.size (0+4) fun t44=>K (t40,t41,t42,t43,t44,()) t38 t39 h37) h9:=by
    intro v hv hw okD erD
    refine rV4 cv (Zip (z:=z) hv (fun j hj=>hj.2) (by omega) (ht.ext e09) (by have:=e09.size;omega) (fun x r h26 hf hr hfit e26=>?_) fun k i e h26 hf hn e26=>?_)
    ·refine Zgn (z:=x) fun b27 h29 e29 c27 _=>Za (Za (Za (rR5 c27 (ZeW (Zl (Zl cr e26) e29) (by show 5<=5;omega) rfl fun h37 c37 u37 z37=>Za (Za (rR5 (z:=x) c37 (hk x r 0 0 h37 ?_ ?_ hfit (okD r hf))))))))
     ·exact (e09.trans (e26.trans e29)).updS u37 fun j hj=>by omega
     ·exact ((hr.ext e29).keep fun b hb hl=>Zo u37 hl fun e=>by omega).mono fun b _ hb=>by omega
    ·refine Zgn (z:=zR) fun b27 h29 e29 c27 _=>Za (Za (Za (rR5 c27 (ZeW (Zl (Zl cr e26) e29) (by show 5<=5;omega) rfl fun h37 c37 u37 z37=>Za (Za (rR5 (z:=zR) c37 (hk zR RulesP.zero e 0 h37 ?_ (Zat.zero _ _) ZrS (erD k i e hf hn))))))))
     exact (e09.trans (e26.trans e29)).updS u37 fun j hj=>by omega
  cases hp:Zer s.data.toList with
  | ok v =>
    rw [hp] at g9
    obtain ⟨hv,rfl,rfl⟩:=g9
    refine Zm rfl (fromPart hv (ZCT hp) (fun r hr=>⟨fun _=>⟨rfl,v,hp,hr⟩,fun n=>absurd rfl n⟩) fun k i e hf hn=>⟨fun e0=>absurd e0 hn,fun _=>⟨rfl,fun w hw=>?_⟩⟩)
    rw [hp] at hw
    cases hw
    exact ⟨k,i,hf⟩
  | err e' k' =>
    rw [hp] at g9
    obtain ⟨hv,rfl,rfl⟩:=g9
    have no:∀ v,Zer s.data.toList = .ok v->False:=fun v hv=>by rw [hp] at hv;cases hv
    refine Zax (fun hn=>?_) fun h0=>?_
    ·refine ZeW cr (by show 5<=5;omega) rfl fun h10 c10 u10 z10=>Za (Za (rR5 (z:=zR) c10 (hk zR RulesP.zero e' k' h10 (e09.updS u10 fun j hj=>by omega) (Zat.zero _ _) ZrS ⟨fun e0=>absurd e0 (by omega),fun _=>⟨rfl,fun v hv=>absurd hv (by rw [hp];intro q;cases q)⟩⟩)))
    ·refine fromPart hv (by decide) (fun r hr=>by cases hr) fun k i e hf hn=>⟨fun e0=>absurd e0 hn,fun _=>⟨rfl,fun v hv=>absurd hv (by rw [hp];intro q;cases q)⟩⟩
def lvA:BL:=[123,34,102,108,111,119,34,58,91,123,34,114,101,115,111,117,114,99,101,34,58,34,97,34,44,34,99,111,117,110,116,34,58,53,125,93,125]
def lvB:BL:=[123,34,102,108,111,119,34,58,91,123,34,114,101,115,111,117,114,99,101,34,58,34,97,34,44,34,99,117,111,110,116,34,58,53,125,93,125]
def rlA:FlowP:=⟨[97],tx "default", false,5,0,[],0,0,0,false,0,false⟩
def jA (n:BL):JV:=⟨7,[],[tx "flow"],.cons 6 [] [] (.cons 7 [] [tx "resource", n] (.cons 5 [97] [] .nil (.cons 4 [53] [] .nil .nil)) .nil) .nil⟩
theorem ZMm:Zer lvA = .ok (jA (tx "count")):=by kernel_rfl
theorem ZMl:Zer lvB = .ok (jA (tx "cuont")):=by kernel_rfl
theorem ZFb:Zgu (jA (tx "count")) = .ok ⟨[rlA],[],[],[],[]⟩:=by kernel_rfl
theorem ZFa:Zgu (jA (tx "cuont")) = .error (1,0,26):=by kernel_rfl
theorem Zlg (ht:ZaN h) (hh:9<=sz h) {K:Bool->HP} (hk:∀ h',Ext h h'->K true h'):Zap K h:=by
  unfold Zap ZcO
  refine ZlT ht hh fun x r e a h3 e3 hr _ hd=>Zgn (z:=x) fun b h5 e5 cb _=>Za (Za ?_)
  have e05:=e3.trans e5
  have hp:(ByteArray.mk #[123,34,102,108,111,119,34,58,91,123,34,114,101,115,111,117,114,99,101,34,58,34,97,34,44,34,99,111,117,110,116,34,58,53,125,93,125]).data.toList=lvA:=rfl
  rw [hp] at hd
  have he:e=0:=by
    rcases Aqw e with h0 | h0
    ·exact h0
    ·obtain ⟨_,q⟩:=hd.er (by omega)
     obtain ⟨k,i,q⟩:=q _ ZMm
     rw [ZFb] at q
     cases q
  obtain ⟨ha,v,q1,q2⟩:=hd.ok he
  rw [ZMm] at q1
  cases q1
  rw [ZFb] at q2
  cases q2
  subst he ha
  have sz5:sz h<=sz h5:=e05.size
  refine ZlT (ht.ext e05) (by omega) fun x2 r2 f a2 h9 e9 hr2 _ hd2=>Zgn (z:=x2) fun b10 h12 e12 cb10 _=>Za (Za ?_)
  have hp2:(ByteArray.mk #[123,34,102,108,111,119,34,58,91,123,34,114,101,115,111,117,114,99,101,34,58,34,97,34,44,34,99,117,111,110,116,34,58,53,125,93,125]).data.toList=lvB:=rfl
  rw [hp2] at hd2
  have hf:f=26:=by
    rcases Aqw f with h0 | h0
    ·obtain ⟨_,v,q1,q2⟩:=hd2.ok h0
     rw [ZMl] at q1
     cases q1
     rw [ZFa] at q2
     cases q2
    ·obtain ⟨_,q⟩:=hd2.er (by omega)
     obtain ⟨k,i,q⟩:=q _ ZMl
     rw [ZFa] at q
     cases q
     rfl
  subst hf
  have e512:=e9.trans e12
  have cb12:=Zl cb e512
  have row:=(hr.ext (e5.trans e512)).fl.1
  have hx:x.1.len=1:=ZaA (c:=Zdx) (n:=12) (fun _=>rfl) row (by decide)
  refine Zn rfl (Zn rfl (rL (s:=x.1) (Zb cb12 rfl) (Zn (by rw [hx];rfl) (rL (s:=x.1) (Zb cb12 rfl) (ZbN (c:=Zdx) (fun _=>rfl) row (by decide) (i:=0) (a:=rlA) rfl rfl fun b15 o g=>⟨_,g 3 _ rfl,Zn rfl (rL (s:=x.1) (Zb cb12 rfl) (ZbN (c:=Zdx) (fun _=>rfl) row (by decide) (i:=0) (a:=rlA) rfl rfl fun b18 o18 g18=>⟨_,g18 1 _ rfl,?_⟩))⟩)))))
  refine Zn ?_ (Zh (hk h12 (e05.trans e512)))
  show Zch (Zk (tx "default")) (Zk [100,101,102,97,117,108,116])=true
  rw [Zag]
  exact decide_eq_true (by kernel_rfl)
end
end Go.Proofs.YtpjbjdheeemdiaaGreatDoor
namespace Go.Js
open Go Go.Fw Go.Proofs.YtpjbjdheeemdiaaGreatDoor
def Zhs (v:JV) (i:Nat):Nat:=if v.k=7 then v.sub.len - 1 - i else i
def Zl9 (v:JV):List JV:=if v.k=7 then v.sub.list.reverse else v.sub.list
def Zi0 (v:JV) (i:Nat):List BL:=if v.k=7 then ((v.ns.take v.sub.len).drop (v.sub.len - i)).reverse else []
theorem ZCB (v:JV):Zaf v=⟨v.k,v.t,Zi0 v v.sub.len,ZcL ((Zl9 v).map Zaf)⟩:=by
  have e:Zi1 v.sub=ZcL (v.sub.list.map Zaf):=by rw [<- ZkC,Zro]
  have d:Zaf v=⟨v.k,v.t,if v.k=7 then (v.ns.take v.sub.len).reverse else [],if v.k=7 then ZcL (Zi1 v.sub).list.reverse else Zi1 v.sub⟩:=rfl
  rw [d]
  unfold Zi0 Zl9
  rw [e,ZdO,Nat.sub_self,List.drop_zero]
  by_cases h:v.k=7
  ·rw [if_pos h,if_pos h,if_pos h,Avc]
  ·rw [if_neg h,if_neg h,if_neg h]
theorem Ztp (v:JV):Zi0 v 0=[]:=by
  unfold Zi0
  split
  ·rw [Nat.sub_zero,Avf (by rw [Ayo];omega)];rfl
  ·rfl
theorem Zk0 {v:JV} (h:v.k≠7) (i:Nat):Zi0 v i=[]:=if_neg h
theorem Ztr {v:JV} {i:Nat} {a:BL} (h:v.k=7) (hi:i<v.sub.len) (ha:v.ns[Zhs v i]?=some a):Zi0 v (i+1)=Zi0 v i++[a]:=by
  unfold Zhs at ha
  unfold Zi0
  rw [if_pos h] at ha ⊢
  rw [if_pos h]
  obtain ⟨hl,hg⟩:=Azj.1 ha
  have ht:v.sub.len - 1 - i<(v.ns.take v.sub.len).length:=by rw [Ayo];omega
  have e1:v.sub.len - (i+1)=v.sub.len - 1 - i:=by omega
  have e2:v.sub.len - 1 - i+1=v.sub.len - i:=by omega
  rw [e1,Ayl ht,e2,List.reverse_cons,List.getElem_take,hg]
theorem Ztq {v:JV} {i:Nat} (h:v.k=7) (hn:v.ns.length<=Zhs v i):Zi0 v (i+1)=Zi0 v i:=by
  unfold Zhs at hn
  unfold Zi0
  rw [if_pos h] at hn
  rw [if_pos h,if_pos h,Avf (by rw [Ayo];omega),Avf (by rw [Ayo];omega)]
theorem Zkg:∀ (n:Nat) (l:JL),(l.drop n).list=l.list.drop n
  | 0,l=>rfl
  | n+1,.nil=>by simp [JL.drop,JL.list]
  | n+1,.cons _ _ _ _ r=>by simp only [JL.drop,JL.list,List.drop_succ_cons,Zkg n r]
theorem Zy4 {v:JV} {i:Nat} {k:Nat} {t:BL} {ns:List BL} {s r:JL} (hi:i<v.sub.len) (hd:v.sub.drop (Zhs v i) = .cons k t ns s r):(Zl9 v)[i]?=some ⟨k,t,ns,s⟩:=by
  have e:=Zkg (Zhs v i) v.sub
  rw [hd] at e
  have g:v.sub.list[Zhs v i]?=some ⟨k,t,ns,s⟩:=by
    have:=congrArg (fun l:List JV=>l[0]?) e
    simpa [JL.list] using this.symm
  unfold Zl9
  unfold Zhs at g
  by_cases h:v.k=7
  ·rw [if_pos h] at g ⊢
   rw [List.getElem?_reverse (by rw [JL.list_len];exact hi),JL.list_len]
   exact g
  ·rw [if_neg h] at g ⊢
   exact g
theorem Zpj (v:JV):(Zl9 v).length=v.sub.len:=by
  unfold Zl9
  split
  ·rw [List.length_reverse,JL.list_len]
  ·rw [JL.list_len]
end Go.Js
namespace Go.Proofs.YtpjbjdheeemdiaaGreatDoor
open Go Go.Fw Go.Js
theorem ZqP:∀ (m:Nat) {h:Zc} {z:VT5} {v:JV} {S:Nat->Prop} {K:VT5->HP},v.sub.hei<=m->wV v<=1000000000000->Zam h S z v->(∀ j,S j->j<sz h) ->
    (∀ z' h',Ext h h'->Zam h' (fr h' (sz h)) z' (Zaf v)->K z' h')->Y8 (m+1) z K h:=by
  have step:∀ {f:ZjA} {v:JV},(∀ i k t ns s r,v.sub.drop i = .cons k t ns s r->∀ {h:Zc} {z:VT5} {S:Nat->Prop} {K:VT5->HP},wV ⟨k,t,ns,s⟩<=1000000000000->Zam h S z ⟨k,t,ns,s⟩->(∀ j,S j->j<sz h)->(∀ z' h',Ext h h'->Zam h' (fr h' (sz h)) z' (Zaf ⟨k,t,ns,s⟩)->K z' h')->f z K h) ->
      ∀ {h:Zc} {z:VT5} {S:Nat->Prop} {K:VT5->HP},wV v<=1000000000000->Zam h S z v->(∀ j,S j->j<sz h)->(∀ z' h',Ext h h'->Zam h' (fr h' (sz h)) z' (Zaf v)->K z' h')->ZaH f z K h:=by
    intro f v hsub h z S K hw hv hS hk
    unfold ZaH ZbY
    have s0:sz h=h.size:=rfl
    refine YX fun h1 c1 e1 z1=>YX fun h3 c3 e3 z3=>?_
    have s1:sz h1=h1.size:=rfl
    have s3:sz h3=h3.size:=rfl
    have e03:=e1.trans e3
    have cv:obj h3 h.size=some (.cells (Xl z).toArray 33 (0,0)):=Zl c1 e3
    have cz:obj h3 h1.size=some (.cells zV.toArray 33 (0,0)):=c3
    obtain ⟨a1,a2,a3,a4,cx,a5,a6,a7⟩:=id hv
    have hlx:z.2.2.1.len=v.sub.len:=by have:=a5.len;have:=a7.len;omega
    have hln:=ZaQ a3
    have hpw:=ZdN v.sub
    have hpv:=Zk4 v
    have hnl:v.ns.length<=1000000000000:=by have:=Zrg v.ns;unfold wV at hw;omega
    have keepS:∀ {a:Zc},Ext h a->∀ j,S j->j<sz h->obj a j=obj h j:=fun e j hj hl=>Zq e hl
    refine rI (Zb cv rfl) (rS (Zb cv rfl) (YX fun h6 c6 e6 z6=>ZeW c6 (by show 4<=4;omega) rfl fun h7 c7 u7 z7=>Za ?_))
    have e37:Ext h3 h7:=e6.updS u7 fun j hj=>by subst hj;exact Aqo _
    have s7:sz h7=h7.size:=rfl
    have e07:=e03.trans e37
    have cv7:=Zl cv e37
    have cz7:=Zl cz e37
    have co7:obj h7 h3.size=some (.cells (Xl (z.1,z.2.1,⟨none,0,0⟩,⟨none,0,0⟩,())).toArray 33 (0,0)):=c7
    have hob:=ZaJ co7
    have sz37:sz h<=h3.size:=by have:=e03.size;omega
    refine Zv (fun p h'=>∃ (i:Nat) (vs:List Value) (l y:Sl),p.1=i/\i<=v.sub.len/\obj h' h3.size=some (.cells (Xl (z.1,z.2.1,l,y,())).toArray 33 (0,0))/\Own h' (sz h7) l 4 vs/\Own h' (sz h7) y 1 ((Zi0 v i).map sV)/\(∀ j,l.blk=some j->y.blk≠some j) /\
        Xm h' (fun j=>sz h7<=j/\j<sz h'/\l.blk≠some j/\y.blk≠some j) (ZcL (((Zl9 v).take i).map Zaf)) vs/\Upd (· = h3.size) h7 h') (fun p _=>(v.sub.len - p.1).toNat)
      ⟨0,[],⟨none,0,0⟩,⟨none,0,0⟩,rfl,Ayk _,co7,Own.nil _ _ _,(by rw [Ztp];exact Own.nil _ _ _),(fun _ e=>by cases e),rfl,Upd.refl _ _⟩ ?_
    rintro ⟨i_,u⟩ h10 ⟨i,vs,l,y,hi,hil,co,ol,oy,hly,hov,u10⟩
    dsimp only at hi ⊢
    subst hi
    have s10:sz h10=h10.size:=rfl
    have sz10:sz h7<=sz h10:=u10.size
    have u010:Upd (· = h3.size) h h10:=UN e07 u10
    have e010:Ext h h10:=e07.updS u10 fun j hj=>by omega
    have hll:l.len=i:=by have:=ol.len;have:=hov.len;rw [ZaW] at this;simp [Zpj] at this;omega
    have lblk:∀ {j:Nat},l.blk=some j->sz h7<=j/\j<sz h10:=fun e=>ol.lt e
    have yblk:∀ {j:Nat},y.blk=some j->sz h7<=j/\j<sz h10:=fun e=>oy.lt e
    have cv10:=ZB cv7 u10 (by omega)
    refine rL (s:=z.2.2.1) (Zb cv10 rfl) (Zt (fun hlt=>Za ?_) fun hge=>?_)
    ·have hia:i<v.sub.len:=by omega
     have hol:Zhs v i<v.sub.len:=by unfold Zhs;split<;>omega
     refine Z0 (fun p h'=>p.1=((Zhs v i:Nat):Int)/\∃ y':Sl,obj h' h3.size=some (.cells (Xl (z.1,z.2.1,l,y',())).toArray 33 (0,0))/\Own h' (sz h7) l 4 vs/\Own h' (sz h7) y' 1 ((Zi0 v (i+1)).map sV)/\(∀ j,l.blk=some j->y'.blk≠some j) /\
         Xm h' (fun j=>sz h7<=j/\j<sz h'/\l.blk≠some j/\y'.blk≠some j) (ZcL (((Zl9 v).take i).map Zaf)) vs/\Upd (· = h3.size) h7 h') ?_ ?_
     ·rintro ⟨k_,u⟩ h28 ⟨hk_,y',co28,ol28,oy28,hly28,hov28,u28⟩
      dsimp only at hk_ ⊢
      subst hk_
      have s28:sz h28=h28.size:=rfl
      have sz28:sz h7<=sz h28:=u28.size
      have e028:Ext h h28:=e07.updS u28 fun j hj=>by omega
      have cv28:=ZB cv7 u28 (by omega)
      have lblk28:∀ {j:Nat},l.blk=some j->sz h7<=j/\j<sz h28:=fun e=>ol28.lt e
      have yblk28:∀ {j:Nat},y'.blk=some j->sz h7<=j/\j<sz h28:=fun e=>oy28.lt e
      obtain ⟨k,t,ns,s,r,hd⟩:=JL.drop_cons hol
      refine rL (s:=l) (Zb co28 rfl) (rL (s:=z.2.2.1) (Zb cv28 rfl) (ZfW (Yi a5 a6 (keepS e028)) (a7.keep (keepS e028) fun j hj=>hj) hd rfl fun zi hzi=>?_))
      refine hsub _ k t ns s r hd (S:=S) (by have:=ZqM _ hd;omega) hzi (fun j hj=>by have:=hS j hj;have:=e028.size;omega) fun z6 h38 e38 hz6=>?_
      have s38:sz h38=h38.size:=rfl
      have sz38:sz h28<=sz h38:=e38.size
      have co38:=Zl co28 e38
      have cv38:=Zl cv28 e38
      refine ⟨hv4 cv38 rfl,hv4 co38 rfl,YX fun h40 c40 e40 z40=>⟨hv4 (Zl cv38 e40) rfl,hv4 (Zl co38 e40) rfl,?_⟩⟩
      have s40:sz h40=h40.size:=rfl
      have c40':obj h40 h38.size=some (.cells (Xl z6).toArray 33 (0,0)):=c40
      have e2840:=e38.trans e40
      have sz40:=e2840.size
      refine Zha c40' rfl ((ol28.congr fun b _ hb _=>Zq e2840 hb).app (n:=1) rfl (Zcf z6) rfl (by omega) (by omega) (by omega) fun l8 h42 o8 l8l u8 b8=>?_)
      have s42:sz h42=h42.size:=rfl
      have sz42:sz h40<=sz h42:=u8.size
      have co42:=ZB (Zl co28 e2840) u8 fun e=>by have:=(lblk28 e).1;omega
      have cv42:=ZB (Zl cv28 e2840) u8 fun e=>by have:=(lblk28 e).1;omega
      refine ⟨hv4 cv42 rfl,Zjw co42 (by simp [Xl]) rfl fun h45 c45 u45 z45=>Za ?_⟩
      rw [Yt (by omega) (by omega)]
      have l8b:∀ j,l8.blk=some j->l.blk=some j\/j=h40.size:=fun j hj=>by
        rcases b8 with h9 | h9
        ·left;rw [<- h9];exact hj
        ·right;rw [h9] at hj;exact (Option.some.inj hj).symm
      have s45:sz h45=h45.size:=rfl
      have hwi:(Zl9 v).take (i+1)=(Zl9 v).take i++[⟨k,t,ns,s⟩]:=by rw [Ayu,Zy4 hia hd];rfl
      refine ⟨⟨i+1,vs++Xl z6,l8,y',rfl,by omega,c45,o8.congr fun b hl hb hge=>Zo u45 hb fun e=>?_,(oy28.congr fun b hl hb _=>?_),fun j hj hj'=>?_,?_,?_⟩,by omega⟩
      ·omega
      ·exact ((Zo u45 (by omega) (by have:=yblk28 hl;omega)).trans (Zo u8 (by omega) fun e=>hly28 _ e hl)).trans (Zq e2840 hb)
      ·rcases l8b j hj with q | q
       ·exact hly28 j q hj'
       ·have:=yblk28 hj';omega
      ·rw [hwi,Ayy,Awo,Azz,Zey]
       refine Xm.snoc (hz6.keep (S':=fun j=>sz h7<=j/\j<sz h45/\l8.blk≠some j/\y'.blk≠some j) (fun b hb hl=>?_) fun b hb=>?_) (hov28.keep (fun b hb hl=>?_) fun b hb=>?_)
       ·have h1b:=hb.1
        rw [Zo u45 (by omega) (by omega),Zo u8 (by omega) fun h9=>by have:=(lblk28 h9).2;omega]
        exact Zq e40 hl
       ·obtain ⟨q1,q2⟩:=hb
        refine ⟨by omega,by omega,fun h9=>?_,fun h9=>by have:=yblk28 h9;omega⟩
        rcases l8b b h9 with h8' | h8'
        ·have:=(lblk28 h8').2;omega
        ·omega
       ·rw [Zo u45 (by omega) (by omega),Zo u8 (by omega) fun h9=>hb.2.2.1 h9]
        exact Zq e2840 hl
       ·refine ⟨hb.1,by omega,fun h9=>?_,hb.2.2.2⟩
        rcases l8b b h9 with h8' | h8'
        ·exact hb.2.2.1 h8'
        ·omega
      ·refine UT (UT (u28.trans (e2840.upd _)) u8 fun j hj=> .inr (lblk28 hj).1) u45 fun j hj=> .inl hj
     ·refine rI (Zb cv10 rfl) ?_
      by_cases hk7:v.k=7
      ·have ho:Zhs v i=v.sub.len - 1 - i:=if_pos hk7
       have hw15:IntKind.wrap .i64 (IntKind.wrap .i64 ((z.2.2.1.len:Int) - 1) - (i:Int))=((Zhs v i:Nat):Int):=by
         rw [Yt (n:=(z.2.2.1.len:Int) - 1) (by omega) (by omega),Yt (by omega) (by omega)]
         omega
       refine Zn (by simp [a1,hk7]) (rL (s:=z.2.2.1) (Zb cv10 rfl) ?_)
       rw [hw15]
       refine Za (rL (s:=z.2.2.2.1) (Zb cv10 rfl) (Zt (fun hlt2=>?_) fun hge2=>?_))
       ·have hin:Zhs v i<v.ns.length:=by omega
        have hget:=Ayb hin
        refine rL (s:=y) (Zb co rfl) (rL (s:=z.2.2.2.1) (Zb cv10 rfl) (ZfV (Yi a3 a4 (keepS e010)) hget rfl (YX fun h22 c22 e22 z22=>⟨hv4 (Zl cv10 e22) rfl,hv4 (Zl co e22) rfl,?_⟩)))
        have s22:sz h22=h22.size:=rfl
        have hyl:y.len<=v.ns.length:=by
          have:=ZaQ oy.row
          unfold Zi0 at this
          rw [if_pos hk7] at this
          simp at this
          omega
        refine Zha (n:=1) (size:=1) c22 rfl ((oy.congr fun b _ hb _=>Zq e22 hb).app (new:=[sV (v.ns[Zhs v i])]) (n:=1) rfl rfl rfl (by omega) (by omega) (by have:=e22.size;omega) fun y8 h24 o8 hy u8 b8=>?_)
        have sz24:sz h22<=sz h24:=u8.size
        have sz22:sz h10<=sz h22:=e22.size
        have s24:sz h24=h24.size:=rfl
        have co24:=ZB (Zl co e22) u8 fun e=>by have:=(yblk e).1;omega
        have cv24:=ZB (Zl cv10 e22) u8 fun e=>by have:=(yblk e).1;omega
        refine ⟨hv4 cv24 rfl,Zjw co24 (by simp [Xl]) rfl fun h25 c25 u25 z25=>?_⟩
        have y8b:∀ j,y8.blk=some j->y.blk=some j\/j=h22.size:=fun j hj=>by
          rcases b8 with h9 | h9
          ·left;rw [<- h9];exact hj
          ·right;rw [h9] at hj;exact (Option.some.inj hj).symm
        have s25:sz h25=h25.size:=rfl
        refine ⟨rfl,y8,c25,ol.congr fun b hl hb _=>?_,?_,fun j hj hj'=>?_,hov.keep (fun b hb hl=>?_) fun b hb=>?_,?_⟩
        ·exact ((Zo u25 (by omega) (by have:=lblk hl;omega)).trans (Zo u8 (by omega) fun e=>hly _ hl e)).trans (Zq e22 hb)
        ·rw [Ztr hk7 hia hget,Ayy]
         exact o8.congr fun b hl hb hge=>Zo u25 hb fun e=>by omega
        ·rcases y8b j hj' with q | q
         ·exact hly j hj q
         ·have:=lblk hj;omega
        ·rw [Zo u25 (by omega) (by omega),Zo u8 (by omega) fun h9=>hb.2.2.2 h9]
         exact Zq e22 hl
        ·refine ⟨hb.1,by omega,hb.2.2.1,fun h9=>?_⟩
         rcases y8b b h9 with h8' | h8'
         ·exact hb.2.2.2 h8'
         ·omega
        ·exact UT (UT (u10.trans (e22.upd _)) u8 fun j hj=> .inr (yblk hj).1) u25 fun j hj=> .inl hj
       ·refine ⟨rfl,y,co,ol,?_,hly,hov,u10⟩
        rw [Ztq hk7 (by omega)]
        exact oy
      ·refine Zm (by rw [a1];exact beq_eq_false_iff_ne.2 (by omega)) ⟨?_,y,co,ol,?_,hly,hov,u10⟩
       ·show ((i:Nat):Int)=((Zhs v i:Nat):Int)
        unfold Zhs
        rw [if_neg hk7]
       ·rw [Zk0 hk7]
        rw [Zk0 hk7] at oy
        exact oy
    ·have hil2:i=v.sub.len:=by omega
     subst hil2
     have cz10:=ZB cz7 u10 (by omega)
     rw [Awd (by rw [Zpj];omega)] at hov
     refine rI (Zb co rfl) (rS (Zb co rfl) (rL (s:=l) (Zb co rfl) (rL (s:=y) (Zb co rfl) (Zbc (x:=l) (y:=y) cz10 rfl fun h50 u50 z50=>hk (z.1,z.2.1,l,y,()) h50 (e010.updS u50 fun j hj=>by omega) ?_))))
     have hlt1:h1.size<sz h7:=by have:=e37.size;omega
     rw [ZCB]
     refine ⟨a1,a2,(oy.congr fun b hl hb hge=>Zo u50 hb fun e=>by omega).row,fun _ b hb=>?_,vs,(ol.congr fun b hl hb hge=>Zo u50 hb fun e=>by omega).row,fun _ b hb=>?_,hov.keep (fun b hb hl=>Zo u50 hl fun e=>by have:=hb.1;omega) fun b hb=>?_⟩
     ·have:=oy.lt hb;exact ⟨by omega,by omega⟩
     ·have:=ol.lt hb;exact ⟨by omega,by omega⟩
     ·exact ⟨by omega,by omega⟩
  intro m
  induction m with
  | zero =>
    intro h z v S K hm
    exact step (f:=Y8 0) fun i k t ns s r hd=>by have:=JL.drop_hei i v.sub hd;omega
  | succ m ih =>
    intro h z v S K hm
    exact step (f:=Y8 (m+1)) fun i k t ns s r hd=>fun a b c d=>ih (v:=⟨k,t,ns,s⟩) (by have:=JL.drop_hei i v.sub hd;show s.hei<=m;omega) a b c d
section
variable {h:Zc}
theorem ZqQ {z:VT5} {v:JV} {S:Nat->Prop} {K:VT5->HP} (hw:wV v<=1000000000000) (hv:Zam h S z v) (hS:∀ j,S j->j<sz h) (hk:∀ z' h',Ext h h'->Zam h' (fr h' (sz h)) z' (Zaf v)->K z' h'):ZaI z K h :=
  ⟨v.sub.hei+1,ZqP v.sub.hei (Aqo _) hw hv hS hk⟩
end
end Go.Proofs.YtpjbjdheeemdiaaGreatDoor
namespace Go.Js
open Go Go.Fw Go.Proofs.YtpjbjdheeemdiaaGreatDoor
theorem Zk3:∀ (n:Nat) (l:List Nat),(l.take n).sum<=l.sum
  | 0,l=>by simp
  | n+1,[]=>by simp
  | n+1,a::l=>by have:=Zk3 n l;simp only [Ayn,Azo];omega
theorem Zsu (ns:List BL) (n:Nat):nsW (ns.take n).reverse<=nsW ns:=by
  rw [Zsv,Zsv,Avc,List.sum_reverse,List.map_take]
  exact Zk3 n _
theorem ZAC (l:JL):pw (ZcL l.list.reverse)=pw l:=by
  rw [Zzl,Avc,List.sum_reverse,<- Zzl,Zro]
theorem Zq5:∀ l:JL,pw (Zi1 l)<=pw l
  | .nil=>Aqo _
  | .cons k t ns s r=>by
    have h1:=Zq5 s
    have h2:=Zq5 r
    have h3:=Zsu ns s.len
    have h4:=ZAC (Zi1 s)
    simp only [Zi1,pw]
    split
    ·omega
    ·simp only [nsW];omega
theorem ZCv (v:JV):wV (Zaf v)<=wV v:=by
  have h1:=Zq5 v.sub
  have h3:=Zsu v.ns v.sub.len
  have h4:=ZAC (Zi1 v.sub)
  unfold Zaf wV
  dsimp only
  split
  ·omega
  ·simp only [nsW];omega
theorem ZLE {r:RulesP} (hg:r.rng) (hw:r.wt<=16777216):wV (toV r)<=600000000000:=by
  simp only [RulesP.wt] at hw
  refine Zv5 (by simp only [Aqj,Ays];omega) fun q hq=>?_
  have wF:wV (ZcB (r.fl.map Zd0))<=40000000000:=by
    have:=ZjI (f:=wV ∘ Zd0) (g:=FlowP.wt) (c:=2340) (l:=r.fl) fun x hx=>ZAn (hg.1 x hx)
    rw [Zg7,Azp];omega
  have wB:wV (ZcB (r.br.map Za7))<=40000000000:=by
    have:=ZjI (f:=wV ∘ Za7) (g:=YJ.wt) (c:=2340) (l:=r.br) fun x hx=>Zv4 (hg.2.1 x hx)
    rw [Zg7,Azp];omega
  have wH:wV (ZcB (r.ho.map Zin))<=40000000000:=by
    have:=ZjI (f:=wV ∘ Zin) (g:=ZeP.wt) (c:=2340) (l:=r.ho) fun x hx=>ZEG (hg.2.2.1 x hx)
    rw [Zg7,Azp];omega
  have wY:wV (ZcB (r.sy.map XO))<=40000000000:=by
    have:=ZjI (f:=wV ∘ XO) (g:=fun _=>1) (c:=2340) (l:=r.sy) fun x hx=>ZrV (hg.2.2.2 x hx)
    rw [Zg7,Azp];omega
  have wL:wV (ZcB (r.li.map Zda))<=40000000000:=by
    have:=ZjI (f:=wV ∘ Zda) (g:=Za2.wt) (c:=2340) (l:=r.li) fun x _=>ZAm x
    rw [Zg7,Azp];omega
  simp only [Awr,Azi,or_false] at hq
  rcases hq with rfl | rfl | rfl | rfl | rfl
  ·exact ⟨(by decide:(tx "flow").length<=20),wF⟩
  ·exact ⟨(by decide:(tx "break").length<=20),wB⟩
  ·exact ⟨(by decide:(tx "hot").length<=20),wH⟩
  ·exact ⟨(by decide:(tx "system").length<=20),wY⟩
  ·exact ⟨(by decide:(tx "authority").length<=20),wL⟩
end Go.Js
namespace Go.Proofs.YtpjbjdheeemdiaaGreatDoor
open Go Go.Fw Go.Js
section
variable {h:Zc}
def Frm (v:JV) (ra:RulesP) (e k i:Nat):Prop:=(e=0/\k=0/\i=0/\Zgu v = .ok ra/\RulesP.fit ra)\/(e≠0/\ra=RulesP.zero/\Zgu v = .error (k,i,e))
theorem Zp3 {z:VT5} {v:JV} {S:Nat->Prop} (hv:Zam h S z v) (hS:∀ b,S b->b<sz h) (hw:wV v<=1000000000000) (ht:ZaN h) (h9:9<=sz h) {K:(Sl × Sl × Sl × Sl × Sl × Unit)->Int->Int->Int->HP}
    (hk:∀ x ra (e k i:Nat) h',Ext h h'->Zat h' (fun b=>sz h<=b/\b<sz h') x ra->Frm v ra e k i->K x e k i h'):YP z K h:=by
  refine Zip hv hS hw ht h9 (fun x r h' hf hr hfit e=>hk x r 0 0 0 h' e ?_ (.inl ⟨rfl,rfl,rfl,hf,hfit⟩)) fun k i e h' hf hn ee=>hk zR RulesP.zero e k i h' ee (Zat.zero _ _) (.inr ⟨hn,rfl,hf⟩)
  exact hr.mono fun b hl hb=>⟨hb,hl⟩
theorem Zjs {z:VTR} {r:RulesP} (hr:Zat h (fun b=>b<sz h) z r/\r.rng/\r.wt<=16777216) (ht:ZaN h) (hh:9<=sz h) {K:Bool->HP} (hk:∀ h',Ext h h'->K true h'):Zah z K h:=by
  obtain ⟨hr,hg,hw⟩:=hr
  unfold Zah Zak
  have s0:sz h=h.size:=rfl
  have hwV:=ZLE hg hw
  have hwT:=ZCv (toV r)
  refine YX fun h1 c1 e1 z1=>?_
  have c1':obj h1 h.size=some (.cells (Zac z).toArray 28 (0,0)):=c1
  have s1:sz h1=h1.size:=rfl
  refine rR5 c1' (Zpn (z:=z) (hr.ext e1) (fun j hj=>by omega) hg hw (ht.ext e1) fun v1 h7 e7 hv1=>?_)
  have s7:sz h7=h7.size:=rfl
  refine Zwb (z:=v1) fun b8 h10 e10 c10 hb8=>?_
  have s10:sz h10=h10.size:=rfl
  have sz7:=e7.size
  have sz10:=e10.size
  have e010:=e1.trans (e7.trans e10)
  refine rI (Zb c10 rfl) (Zm (by rw [hv1.1];rfl) (rV4 c10 ?_))
  have hv1':Zam h10 (fr h7 (sz h1)) v1 (toV r):=hv1.keep (fun b hb hl=>Zq e10 hl) fun _ q=>q
  refine ZqQ (z:=v1) (by omega) hv1' (fun j hj=>by have:=hj.2;omega) fun v2 h17 e17 hv2=>?_
  have s17:sz h17=h17.size:=rfl
  have sz17:=e17.size
  refine Zwb (z:=v2) fun b18 h20 e20 c20 hb18=>?_
  have s20:sz h20=h20.size:=rfl
  have sz20:=e20.size
  have hv2':Zam h20 (fr h17 (sz h10)) v2 (Zaf (toV r)):=hv2.keep (fun b hb hl=>Zq e20 hl) fun _ q=>q
  have e020:=e010.trans (e17.trans e20)
  refine rV4 c20 (ZtE (z:=v2) hv2' (fun j hj=>by have:=hj.2;omega) (ZDw (by omega)) (ht.ext e020) (by omega) fun h26 e26=>?_)
  have s26:sz h26=h26.size:=rfl
  have sz26:=e26.size
  have e026:=e020.trans e26
  cases hR:ZwL (Zaf (toV r)) with
  | false=>exact Zn rfl (Zlg (ht.ext e026) (by omega) fun h28 e28=>Zh (hk h28 (e026.trans e28)))
  | true =>
    have e1026:=(e17.trans e20).trans e26
    have c10':=Zl c10 e1026
    have hv1'':Zam h26 (fr h7 (sz h1)) v1 (toV r):=hv1'.keep (fun b hb hl=>Zq e1026 hl) fun _ q=>q
    refine Zm rfl (rV4 c10' (Zp3 (z:=v1) hv1'' (fun j hj=>by have:=hj.2;omega) (by omega) (ht.ext e026) (by omega) fun x ra e k i h38 e38 hx f1=>Zgn (z:=x) fun b39 h41 e41 c41 _=>Za (Za (Za ?_))))
    have e2641:=e38.trans e41
    have e041:=e026.trans e2641
    have c20':=Zl (Zl c20 e26) e2641
    have s38:sz h38=h38.size:=rfl
    have s41:sz h41=h41.size:=rfl
    have sz38:=e38.size
    have sz41:=e41.size
    have hv2'':Zam h41 (fr h17 (sz h10)) v2 (Zaf (toV r)):=hv2'.keep (fun b hb hl=>Zq (e26.trans e2641) hl) fun _ q=>q
    refine rV4 c20' (Zp3 (z:=v2) hv2'' (fun j hj=>by have:=hj.2;omega) (by omega) (ht.ext e041) (by omega) fun y rb f m n h51 e51 hy f2=>Zgn (z:=y) fun b52 h54 e54 c54 _=>Za (Za (Za ?_)))
    have e4154:=e51.trans e54
    have e054:=e041.trans e4154
    have sz51:=e51.size
    have sz54:=e54.size
    refine Zlg (ht.ext e054) (Aqp hh e054.size) fun h58 e58=>Zn rfl ?_
    have back:=(ZtD hg).2
    have both:(e=0/\f=0\/e≠0/\f≠0)/\ra=rb:=by
      rcases f1 with ⟨q1,_,_,q2,_⟩ | ⟨q1,q3,q2⟩<;>rcases f2 with ⟨p1,_,_,p2,_⟩ | ⟨p1,p3,p2⟩
      ·rw [back,q2] at p2
       exact ⟨.inl ⟨q1,p1⟩,by cases p2;rfl⟩
      ·rw [back,q2] at p2;cases p2
      ·rw [back,q2] at p2;cases p2
      ·exact ⟨.inr ⟨q1,p1⟩,by rw [q3,p3]⟩
    have eqT:(((e:Int) ==0) ==((f:Int) ==0))=true:=by
      rcases both.1 with ⟨rfl,rfl⟩ | ⟨q1,q2⟩
      ·rfl
      ·rw [beq_eq_false_iff_ne.2 (show (e:Int)≠0 by omega),beq_eq_false_iff_ne.2 (show (f:Int)≠0 by omega)];rfl
    refine Zn eqT (rR5 (Zl c41 (e4154.trans e58)) (rR5 (Zl c54 e58) ?_))
    refine Zmb (za:=x) (zb:=y) (hx.ext (e41.trans (e4154.trans e58))) (hy.ext (e54.trans e58)) fun h70 e70=>?_
    rw [decide_eq_true both.2]
    exact Zh (hk h70 ((e054.trans e58).trans e70))
end
end Go.Proofs.YtpjbjdheeemdiaaGreatDoor
namespace Go.Proofs.YtpjbjdheeemdiaaGreatDoor
open Go Go.Fw Go.Lib
theorem tyR:TyR Tryz.prog 28 75 80 85 91 95 203 9 4 3 72 73 78 22 23 24 25 26 83 31 where
  R:=⟨_,Tryz.underlying28,by kernel_rfl,by kernel_rfl⟩
  F:=⟨_,Tryz.underlying75,by kernel_rfl,by kernel_rfl⟩
  B:=⟨_,Tryz.underlying80,by kernel_rfl,by kernel_rfl⟩
  H:=⟨_,Tryz.underlying85,by kernel_rfl,by kernel_rfl⟩
  Y:=⟨_,Tryz.underlying91,by kernel_rfl,by kernel_rfl⟩
  L:=⟨_,Tryz.underlying95,by kernel_rfl,by kernel_rfl⟩
  I:=⟨_,Tryz.underlying203,by kernel_rfl,by kernel_rfl⟩
  s:=Tryz.underlying9
  b:=Tryz.underlying4
  i:=Tryz.underlying3
  sg:=Tryz.underlying72
  sh:=Tryz.underlying73
  g:=Tryz.underlying78
  lF:=Tryz.underlying22
  lB:=Tryz.underlying23
  lH:=Tryz.underlying24
  lY:=Tryz.underlying25
  lL:=Tryz.underlying26
  lI:=Tryz.underlying83
  lT:=Tryz.underlying31
  one:=by kernel_rfl
abbrev Zku:List (String × DataW Unit):=[("math/bits.deBruijn32tab", Rows.laid_math_bits_deBruijn32tab),("math/bits.deBruijn64tab", Rows.laid_math_bits_deBruijn64tab),("internal/strconv.uint64pow10", Rows.laid_internal_strconv_uint64pow10),("unicode/utf8.acceptRanges", Rows.laid_unicode_utf8_acceptRanges),("strconv.ErrRange", Rows.laid_strconv_ErrRange),("strconv.ErrSyntax", Rows.laid_strconv_ErrSyntax),("unicode/utf8.first", Rows.laid_unicode_utf8_first)]
theorem Zrn:(Zku.all fun x=>x.2.handleName?.isNone)=true:=by kernel_rfl
set_option maxRecDepth 10000 in
theorem Zy6 {W:World} (hL:laidMetH Tryz.prog Zku W) (hS:W.ShapedOpen Tryz.prog):ZaN W.heap/\9<=sz W.heap:=by
  have hl:∀ w:World,w.heap=W.heap->laidMet Tryz.prog Zku w:=fun w hw=>by
    have:=hL.of_heap hw.symm
    rw [MakeChecks.laidMetH_plain _ _ _ Zrn] at this
    exact this
  have hW:=hl W rfl
  refine ⟨⟨fun w hw=>?_,fun w hw=>?_,?_,?_,?_⟩,?_⟩
  ·have r1:=laidMet.reads (hl w hw) (n:= "unicode/utf8.first") (d:=Rows.laid_unicode_utf8_first) (by simp [Zku])
   have r2:=laidMet.reads (hl w hw) (n:= "unicode/utf8.acceptRanges") (d:=Rows.laid_unicode_utf8_acceptRanges) (by simp [Zku])
   rw [ZzW] at r1
   rw [Zyo] at r2
   exact Zwi r1 r2
  ·have r1:=laidMet.reads (hl w hw) (n:= "internal/strconv.uint64pow10") (d:=Rows.laid_internal_strconv_uint64pow10) (by simp [Zku])
   rw [ZEZ] at r1
   exact Zqq Zzq Zzp Tryz.underlying332 Tryz.underlying182 ZL7 ZL8 r1
  ·exact Zqc ZtJ ZtI (laidMet.reads hW (n:= "strconv.ErrRange") (d:=Rows.laid_strconv_ErrRange) (by simp [Zku]))
  ·exact Zqc Zy9 Zy8 (laidMet.reads hW (n:= "strconv.ErrSyntax") (d:=Rows.laid_strconv_ErrSyntax) (by simp [Zku]))
  ·obtain ⟨cs,hh,hs,hr⟩:=hS.1 _ _ _ (by rw [Zkh];decide) Zxe
   obtain ⟨ts,hts,_,hall⟩:=hr Zrh
   rw [ZtW] at hts
   cases hts
   have h1:0<cs.size:=by rw [hs];decide
   obtain ⟨u,hu',hok⟩:=hall 0 cs[0] (by simp [h1])
   have:u=3:=by simpa using hu'.symm
   subst this
   have hcell:Zc.cell W.heap 2 0=some cs[0]:=by
     unfold Zc.cell;simp [hh,h1]
   rw [hcell]
   unfold Cell.ok at hok
   rw [Tryz.underlying3] at hok
   cases hv:cs[0]<;>rw [hv] at hok<;>first | exact ⟨_,by rw [hok.1]⟩ | simp at hok
  ·obtain ⟨o,o0,h1,_⟩:=hS.2 13 (by rw [Zkh];decide) (by rw [Ztv];decide)
   have:=(Ayd.1 h1).1
   show 9<=W.heap.size
   omega
end Go.Proofs.YtpjbjdheeemdiaaGreatDoor
