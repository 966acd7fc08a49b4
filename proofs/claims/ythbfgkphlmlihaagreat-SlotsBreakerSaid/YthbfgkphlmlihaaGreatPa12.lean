/- Which flows are a call's: one plain flow. -/
import Derived.Test.YthbfgkphlmlihaaGreatPa11
set_option linter.unusedVariables false
set_option linter.unusedSimpArgs false
namespace Go.Proofs.YthbfgkphlmlihaaGreat
open Go Go.Fw
open Nat renaming reduceAdd→Nqa,reduceLT→Nqb,reduceLeDiff→Nqc,reduceEqDiff→Nqd,reduceMul→Nqe
theorem ZhX {n:Nat} {it:Yld→Nat→(Zd→Prop)→Zd→Prop} {body:Nat→Loop→List Value→Zd→(Option Code→Zd→Prop)→Prop} {h:Zd} {K:Option Code→Nat→Zd→Prop}
    (hk:∀ r h1,obj h1 (sz h)=some (.deferred (some []))→obj h1 (sz h+1)=some (ZaR r .ready none)→Ext h h1→sz h1=sz h+2 →
      it (Zi3 r (sz h+1) n (body (sz h+1) r)) (sz h+1) (fun h'=>∃ st p,st≠ .busy∧(obj h' (sz h+1)=some (ZaR r st p)∧K p (sz h) (ZgD h' (sz h+1) (ZaR r .exhausted p)))) h1):Zjf n it body h K:=by
  rw [ZhY]
  intro r
  refine hk r _ ?_ ?_ (Zah (Zah (Ext.refl h))) ?_
  ·rw [Zhw,if_neg (by rw [Zc4];omega),Zhw,if_pos rfl]
  ·rw [Zhw,if_pos (by rw [Zc4])]
  ·rw [Zc4,Zc4]
theorem Zeh {h:Zd} {l:Nat} {x y:Obj} (hx:obj h l=some x) {K:Zd→Prop} (hk:∀ h1,obj h1 l=some y→Upd (· = l) h h1→sz h1=sz h→K h1):K (ZgD h l y) :=
  hk _ (by rw [YH (Zr hx),if_pos rfl]) (ZdT (Upd.refl _ _) (.inr rfl)) YN
theorem ZlM {r:Loop} {l n:Nat} {body:List Value→Zd→(Option Code→Zd→Prop)→Prop} {vs:List Value} {k:Bool→Zd→Prop} {h:Zd} (hl:vs.length=n) (hr:obj h l=some (ZaR r .ready none))
    (hb:body vs h fun p h'=>(obj h' l=some (ZaR r .busy none)∧k p.isNone (ZgD h' l (ZaR r (if p.isNone then .ready else .done) p)))):Zi3 r l n body l vs k h:=⟨rfl,hl,hr,hb⟩
theorem ZnI {r:Loop} {l:Nat} {h:Zd} {K:Zd→Prop} (hr:obj h l=some (ZaR r .ready none)) (hk:∀ h1,obj h1 l=some (ZaR r .busy none)→Upd (· = l) h h1→sz h1=sz h→K h1):Zmk r l h K:=by
  rw [ZkF]
  exact ⟨hr,Zeh hr hk⟩
theorem Zi9 {D:Nat} {h:Zd} {K:Zd→Prop} (hd:obj h D=some (.deferred (some []))) (hk:∀ h1,Upd (· = D) h h1→sz h1=sz h→K h1):ZeY D h K:=by
  rw [Zkd]
  exact ⟨hd,Zeh hd fun h1 _ u z=>hk h1 u z⟩
theorem ZkL {h:Zd} {th:Bool} {n:Int} {s:Sl} (hs:Row h s 12 (Zky (Zal th n))) {org:ByteArray} {K:Bool→Zd→Prop} (hk:∀ h',Ext h h'→K true h'):X5 s 0 org K h:=by
  unfold X5 Zdi
  have hl:s.len=1:=by have:=hs.len;simp [Zky] at this;omega
  refine Yg fun h1 c1 e1 z1=>Yg fun h2 c2 e2 z2=>Yg fun h3 c3 e3 z3=>?_
  have e13:=e2.trans e3
  have e03:=(e1.trans e13)
  obtain ⟨b,o,hb,hlt,hidx,hc⟩:=Zdj (α:=F12) (g:=Zky) (n:=12) (fun _=>rfl) (l:=[Zal th n]) (by simpa using hs.ext e03) (i:=0) rfl (by decide)
  have c1':=Zl c1 e13
  have c2':=Zl c2 e3
  refine rI (Zb c2' rfl) (Zi rfl (rI (Zb c2' rfl) (rL (s:=s) (Zb c1' rfl) (Zi (by rw [hl];rfl) (rL (s:=s) (Zb c1' rfl) (rI (Zb c2' rfl) (hidx rfl (rS (hc 1 _ rfl) (Zc ?_)))))))))
  have:XN Zqz Zqz=true:=ZfE _
  exact Zt this (Zt this (hk h3 e03))
theorem Zf9 {h:Zd} {th:Bool} {n:Int} {c:C8} {K:(ByteArray × ByteArray × ByteArray × Bool × Unit)→Zd→Prop} (hk:∀ h',Ext h h'→K (c.2.1,em,em,false,()) h'):Zak (Zal th n) c K h:=by
  unfold Zak Zed
  refine Yg fun h1 c1 e1 z1=>Yg fun h2 c2 e2 z2=>Yg fun h3 c3 e3 z3=>?_
  have c1':=Zl c1 (e2.trans e3)
  have c2':=Zl c2 e3
  refine rI (Zb c1' rfl) (Zc (Zi rfl (Zc (Zi rfl (rS (Zb c1' rfl) (Zi (show (!XN Zqz Zqz)=false by rw [ZfE];rfl) (rS (Zb c2' rfl) (ZaE c3 fun h4 c4 u4 z4=>?_))))))))
  have e4:Ext h h4:=((e1.trans e2).trans e3).then u4 fun k hk=>by subst hk;exact (e1.trans e2).size
  exact rS (Zb c4 rfl) (rS (Zb c4 rfl) (rS (Zb c4 rfl) (rB (Zb c4 rfl) (hk h4 e4))))
def Zl3 (c:C8):List Value:=if sA=c.2.1 then [iv 0] else []
theorem Zqt {h:Zd} {th:Bool} {n:Int} {s:Sl} (hs:Row h s 12 (Zky (Zal th n))) {c:C8} {K:Sl→Zd→Prop} (hk:∀ h' t,Ext h h'→Own h' (sz h) t 1 (Zl3 c)→K t h'):ZaI s c K h:=by
  unfold ZaI Zdv
  have hl:s.len=1:=by have:=hs.len;simp [Zky] at this;omega
  refine Yg fun h1 c1 e1 z1=>Yg fun h2 c2 e2 z2=>?_
  have x2:=Zl c1 e2
  refine rI (Zb x2 rfl) (rS (Zb x2 rfl) (rS (Zb x2 rfl) (rS (Zb x2 rfl) (rB (Zb x2 rfl) (rI (Zb x2 rfl) (rL (s:=c.2.2.2.2.2.2.1) (Zb x2 rfl) ?_))))))
  unfold Zca Zdu
  refine Yg fun h3 c3 e3 z3=>Yg fun h4 c4 e4 z4=>ZhX fun r h5 d5 r5 e5 z5=>?_
  have w1:sz h1=sz h+1:=z1
  have w2:sz h2=sz h1+1:=z2
  have w3:sz h3=sz h2+1:=z3
  have w4:sz h4=sz h3+1:=z4
  have x5:=Zl x2 ((e3.trans e4).trans e5)
  have s5:=Zl c2 ((e3.trans e4).trans e5)
  have a5:=Zl c3 (e4.trans e5)
  have b5:=Zl c4 e5
  have e05:Ext h h5:=(((e1.trans e2).trans e3).trans e4).trans e5
  have e15:Ext h1 h5:=((e2.trans e3).trans e4).trans e5
  unfold Zbp Zco
  let P:Zd→Sl→Prop:=fun hh t=>Ext h hh∧obj hh (sz h1)=some (.cells [slV t].toArray 85 (0,0))∧obj hh (sz h4)=some (.deferred (some []))∧obj hh (sz h4+1)=some (ZaR r .ready none)
  have fin:∀ (hh:Zd) (t:Sl),P hh t→Own hh (sz h) t 1 (Zl3 c)→(∀ b,t.blk=some b→b≠sz h4∧b≠sz h4+1)→∃ st p,st≠LoopState.busy∧(obj hh (sz h4+1)=some (ZaR r st p)∧Zma p (ldL (ZgD hh (sz h4+1) (ZaR r .exhausted p)) (sz h1) 0 fun t46=>ZeY (sz h4) (ZgD hh (sz h4+1) (ZaR r .exhausted p)) fun h47=>K t46 h47) (fun x=>bif Nat.beq x 0 then (ldL (ZgD hh (sz h4+1) (ZaR r .exhausted p)) (sz h1) 0 fun t49=>ZeY (sz h4) (ZgD hh (sz h4+1) (ZaR r .exhausted p)) fun h50=>K t49 h50) else False) (ZeY (sz h4) (ZgD hh (sz h4+1) (ZaR r .exhausted p)) fun h48=>K ⟨none,0,0⟩ h48)):=by
    rintro hh t ⟨he,hs1,hd,hrec⟩ ho hb
    refine ⟨.ready,none,by decide,hrec,?_⟩
    rw [Zgs]
    refine Zeh hrec (K:=fun hx=>ldL hx (sz h1) 0 fun t46=>ZeY (sz h4) hx fun h47=>K t46 h47) fun h6 c6 u6 z6=>?_
    have s6:obj h6 (sz h1)=_:=(u6.old _ (Zr hs1) (show ¬ sz h1=sz h4+1 by omega)).trans hs1
    have d6:obj h6 (sz h4)=_:=(u6.old _ (Zr hd) (show ¬ sz h4=sz h4+1 by omega)).trans hd
    refine rL (s:=t) (Zb s6 rfl) (Zi9 d6 fun h7 u7 z7=>hk h7 t ?_ ?_)
    ·exact (he.then u6 fun k hk=>by subst hk;show sz h≤sz h4+1;omega).then u7 fun k hk=>by subst hk;show sz h≤sz h4;omega
    ·exact (ho.congr fun b hb9 hl9 _=>u6.old b hl9 (hb b hb9).2).congr fun b hb9 hl9 _=>u7.old b hl9 (hb b hb9).1
  refine Zj (rL (s:=s) (Zb a5 rfl) (YX (fun p hh=>(p=(0,())∧hh=h5)∨(p.1=1∧∃ t,P hh t∧Own hh (sz h) t 1 (Zl3 c)∧∀ b,t.blk=some b→b≠sz h4∧b≠sz h4+1)) (fun p _=>(1 - p.1).toNat) (.inl ⟨rfl,rfl⟩) ?_))
  rintro ⟨i,u⟩ hh (⟨hp,hh9⟩ | ⟨hp,t,hP,ho,hb⟩) Q hQ
  case inr =>
    dsimp only at hp ⊢
    subst hp
    rw [hl]
    exact Zi rfl (fin hh t hP ho hb)
  injection hp with hp _
  subst hp
  subst hh9
  dsimp only
  rw [hl]
  obtain ⟨b,o,hb,hlt,hidx,hc⟩:=Zdj (α:=F12) (g:=Zky) (n:=12) (fun _=>rfl) (l:=[Zal th n]) (by simpa using hs.ext e05) (i:=0) rfl (by decide)
  have hidx':∀ {K:Nat→Nat→Prop},K b o→Xy s.ptr 1 0 12 K:=fun {K} hk=>by have:=hidx (K:=K) (m:=0) rfl hk;rwa [hl] at this
  refine Zt rfl (hidx' (rS (hc 0 _ rfl) (rS (hc 1 _ rfl) (rB (hc 2 _ rfl) (rI (hc 3 _ rfl) (rI (hc 4 _ rfl) (rS (hc 5 _ rfl) (rI (hc 6 _ rfl) (rI (hc 7 _ rfl) (rI (hc 8 _ rfl) (rB (hc 9 _ rfl) (rI (hc 10 _ rfl) (rB (hc 11 _ rfl) (Yg fun h6 c6 e6 z6=>Za (ZaE c6 fun h7 c7 u7 z7=>?_)))))))))))))))
  have e7:Ext hh h7:=e6.then u7 fun k hk=>by subst hk;exact Nat.le_refl _
  have b7:=Zl b5 e7
  refine rS (Zb c7 rfl) (Zj (rS (Zb b7 rfl) ?_))
  show Zs (XN sA c.2.1) _ _
  rw [ZdC]
  refine Zu (fun q=>Zj (rL (s:=s) (Zb (Zl a5 e7) rfl) (Zj (rS (Zb b7 rfl) ?_)))) fun q=>?_
  case refine_2 =>
    refine hQ _ _ (.inr ⟨rfl,nl,⟨e05.trans e7,Zl s5 e7,Zl d5 e7,Zl r5 e7⟩,?_,fun b hb=>by cases hb⟩) (show (1 - IntKind.wrap .i64 (0+1)).toNat<(1 - (0:Int)).toNat by decide)
    unfold Zl3;rw [if_neg q];exact Own.nil _ _ _
  refine ZkL (hs.ext (e05.trans e7)) fun h8 e8=>Zt rfl ?_
  have c8:=Zl c7 e8
  have e78:=e7.trans e8
  refine rS (Zb c8 rfl) (rS (Zb c8 rfl) (rB (Zb c8 rfl) (rI (Zb c8 rfl) (rI (Zb c8 rfl) (rS (Zb c8 rfl) (rI (Zb c8 rfl) (rI (Zb c8 rfl) (rI (Zb c8 rfl) (rB (Zb c8 rfl) (rI (Zb c8 rfl) (rB (Zb c8 rfl) ?_)))))))))))
  refine ZlM rfl (Zl r5 e78) ⟨(0,Zal th n,()),rfl,Za (Yg fun h9 c9 e9 z9=>ZaE c9 fun h10 c10 u10 z10=>?_)⟩
  have e10:Ext h8 h10:=e9.then u10 fun k hk=>by subst hk;exact Nat.le_refl _
  have e510:=e78.trans e10
  refine ZnI (Zl r5 e510) fun h11 r11 u11 z11=>?_
  have nr:∀ {j:Nat} {x:Obj},obj h10 j=some x→j≠sz h4+1→obj h11 j=some x:=fun {j x} hj hn=>(u11.old j (Zr hj) hn).trans hj
  have w8:sz hh≤sz h8:=e78.size
  have w10:sz h8≤sz h10:=e10.size
  have w11:sz h11=sz h10:=z11
  have w5:sz hh=sz h4+2:=z5
  have c11:=nr c10 (by show sz h8≠sz h4+1;omega)
  have x11:=nr (Zl x5 e510) (by show sz h≠sz h4+1;omega)
  have s11:=nr (Zl s5 e510) (by show sz h1≠sz h4+1;omega)
  have d11:=nr (Zl d5 e510) (by omega)
  have e011:Ext h h11:=(e05.trans e510).then u11 fun k hk=>by subst hk;show sz h≤sz h4+1;omega
  refine rS (Zb c11 rfl) (rS (Zb c11 rfl) (rB (Zb c11 rfl) (rI (Zb c11 rfl) (rI (Zb c11 rfl) (rS (Zb c11 rfl) (rI (Zb c11 rfl) (rI (Zb c11 rfl) (rI (Zb c11 rfl) (rB (Zb c11 rfl) (rI (Zb c11 rfl) (rB (Zb c11 rfl) ?_)))))))))))
  refine rI (Zb x11 rfl) (rS (Zb x11 rfl) (rS (Zb x11 rfl) (rS (Zb x11 rfl) (rB (Zb x11 rfl) (rI (Zb x11 rfl) (rL (s:=c.2.2.2.2.2.2.1) (Zb x11 rfl) ?_))))))
  refine Zf9 (c:=c) fun h12 e12=>Zt rfl (rL (s:=nl) (Zb (Zl s11 e12) rfl) (Yg fun h13 c13 e13 z13=>(ZiR c13 rfl).rd ?_))
  have e1113:=e12.trans e13
  refine (Own.nil h13 (sz h13) 1).app (n:=1) rfl rfl rfl (by decide) (by decide) (Nat.le_refl _) fun t h14 o14 _ u14 _=>?_
  have e1314:Ext h13 h14:=u14.ext fun k _ hk=>by cases hk
  have e1114:=e1113.trans e1314
  refine ZdD (Zl s11 e1114) (show 0<1 by decide) rfl fun h15 c15 u15 z15=>?_
  have n1:¬ sz h4+1=sz h1:=by omega
  have n2:¬ sz h4=sz h1:=by omega
  have r15:obj h15 (sz h4+1)=_:=(u15.old _ (Zr (Zl r11 e1114)) n1).trans (Zl r11 e1114)
  have d15:obj h15 (sz h4)=_:=(u15.old _ (Zr (Zl d11 e1114)) n2).trans (Zl d11 e1114)
  refine ⟨r15,Zeh (y:=ZaR r .ready none) r15 (K:=fun hx=>Zs (!(none:Option Code).isNone) _ _) fun h16 r16 u16 z16=>Zi rfl (hQ _ _ (.inr ⟨rfl,t,⟨?_,?_,?_,r16⟩,?_,fun b hb=>?_⟩) (show (1 - IntKind.wrap .i64 (0+1)).toNat<(1 - (0:Int)).toNat by decide))⟩
  ·exact ((e011.trans e1114).then u15 fun k hk=>by subst hk;exact e1.size).then u16 fun k hk=>by subst hk;show sz h≤sz h4+1;omega
  ·exact (u16.old _ (Zr c15) (show ¬ sz h1=sz h4+1 by omega)).trans c15
  ·exact (u16.old _ (Zr d15) (show ¬ sz h4=sz h4+1 by omega)).trans d15
  ·have w13:sz h11≤sz h13:=e1113.size
   unfold Zl3;rw [if_pos q]
   refine ((Zdl (Zdl o14 u15 (show sz h1<sz h13 by omega)) u16 (show sz h4+1<sz h13 by omega))).base ?_
   show sz h≤sz h13
   omega
  ·have:sz h13≤b:=(o14.lt hb).1
   have w13:sz h11≤sz h13:=e1113.size
   omega
abbrev ZAo (eb:Nat) (c:C8) (gr:Bool) (tk bk:Sl) (wt:Int):List Value:= .pointer (some ⟨eb,0,none⟩)::iv c.1 :: .string c.2.1 :: .string c.2.2.1 :: .string c.2.2.2.1 :: .bool c.2.2.2.2.1::iv c.2.2.2.2.2.1::slV c.2.2.2.2.2.2.1::[.bool gr,slV tk,slV bk,iv wt]
abbrev ZbW (eb:Nat) (c:C8) (gr:Bool) (tk bk:Sl) (wt:Int):Obj:= .cells (ZAo eb c gr tk bk wt).toArray 145 (0,0)
theorem Zm5 {h:Zd} {eb st tb fm:Nat} {r:R5} {sh:Sl} {g:Int} {O:Nat→Prop} {E:Eng} (hE:Ze1 h eb st tb fm r sh g O E) {kind:Int} (hkd:kind=2∨kind=3∨kind=4∨kind=5) {res:ByteArray} {K:Sl→Zd→Prop} (hk:∀ h',Ext h h'→K nl h'):Y7 r kind res K h:=by
  unfold Y7 Zeo
  refine Yg fun h1 c1 e1 z1=>Yg fun h2 c2 e2 z2=>Yg fun h3 c3 e3 z3=>?_
  have c1':=Zl c1 (e2.trans e3)
  have e03:Ext h h3:=(e1.trans e2).trans e3
  rcases hkd with hq | hq | hq | hq
  ·subst hq
   refine Zc (Zi rfl (Zc (Zt rfl (rL (s:=r.2.1) (Zb c1' rfl) (YX (fun p hh=>p=(0,())∧hh=h3) (fun _ _=>0) ⟨rfl,rfl⟩ ?_)))))
   rintro _ hh ⟨rfl,hh9⟩ Q _
   subst hh9
   dsimp only
   rw [hE.l2]
   exact Zi rfl (rL (s:=nl) (Zb c3 rfl) (hk hh e03))
  ·subst hq
   refine Zc (Zi rfl (Zc (Zi rfl (Zc (Zt rfl (rL (s:=r.2.2.1) (Zb c1' rfl) (YX (fun p hh=>p=(0,())∧hh=h3) (fun _ _=>0) ⟨rfl,rfl⟩ ?_)))))))
   rintro _ hh ⟨rfl,hh9⟩ Q _
   subst hh9
   dsimp only
   rw [hE.l3]
   exact Zi rfl (rL (s:=nl) (Zb c3 rfl) (hk hh e03))
  ·subst hq
   refine Zc (Zi rfl (Zc (Zi rfl (Zc (Zi rfl (Zc (Zt rfl (rL (s:=r.2.2.2.1) (Zb c1' rfl) (YX (fun p hh=>p=(0,())∧hh=h3) (fun _ _=>0) ⟨rfl,rfl⟩ ?_)))))))))
   rintro _ hh ⟨rfl,hh9⟩ Q _
   subst hh9
   dsimp only
   rw [hE.l4]
   exact Zi rfl (rL (s:=nl) (Zb c3 rfl) (hk hh e03))
  ·subst hq
   refine Zc (Zi rfl (Zc (Zi rfl (Zc (Zi rfl (Zc (Zi rfl (Zc (Zt rfl (rL (s:=r.2.2.2.2.1) (Zb c1' rfl) (YX (fun p hh=>p=(0,())∧hh=h3) (fun _ _=>0) ⟨rfl,rfl⟩ ?_)))))))))))
   rintro _ hh ⟨rfl,hh9⟩ Q _
   subst hh9
   dsimp only
   rw [hE.l5]
   exact Zi rfl (rL (s:=nl) (Zb c3 rfl) (hk hh e03))
theorem Zme {h:Zd} {wb eb st tb fm:Nat} {r:R5} {sh:Sl} {g:Int} {O:Nat→Prop} {E:Eng} {c:C8} {gr:Bool} {tk bk:Sl} {wt:Int} (hE:Ze1 h eb st tb fm r sh g O E) (hw:obj h wb=some (ZbW eb c gr tk bk wt)) {B:Option Addr × Unit} {kind:Int} (hkd:kind=2∨kind=3∨kind=4∨kind=5) {K:Int→Bool→Zd→Prop} (hk:∀ h',Ext h h'→K 0 false h'):ZI (some ⟨wb,0,none⟩) kind B K h:=by
  unfold ZI Yp
  refine Za (Zj (Zj (rP (Zb hw rfl) (Zj (rL (s:=r.1) (Zb hE.cells rfl) (rL (s:=r.2.1) (Zb hE.cells rfl) (rL (s:=r.2.2.1) (Zb hE.cells rfl) (rL (s:=r.2.2.2.1) (Zb hE.cells rfl) (rL (s:=r.2.2.2.2.1) (Zb hE.cells rfl) (rS (Zb hw rfl) ?_))))))))))
  refine Zm5 hE hkd fun h1 e1=>⟨YM (Zb (Zl hw e1) rfl),YX (fun p hh=>p=(0,())∧hh=h1) (fun _ _=>0) ⟨rfl,rfl⟩ ?_⟩
  rintro _ hh ⟨rfl,hh9⟩ Q _
  subst hh9
  exact Zi rfl (Za (hk hh e1))
theorem Zkw {h:Zd} {wb eb st tb fm:Nat} {r:R5} {sh:Sl} {g:Int} {O:Nat→Prop} {E:Eng} {c:C8} {gr:Bool} {tk bk:Sl} {wt:Int} (hE:Ze1 h eb st tb fm r sh g O E) (hw:obj h wb=some (ZbW eb c gr tk bk wt)) {B:Option Addr × Option Addr × Unit} {kind:Int} (hkd:kind=2∨kind=3∨kind=4∨kind=5) {K:Int→Bool→Zd→Prop} (hk:∀ h',Ext h h'→K 0 false h'):ZG (some ⟨wb,0,none⟩) kind B K h:=by
  unfold ZG Yj
  refine Za (Zj (Zj (rP (Zb hw rfl) (Zj (rL (s:=r.1) (Zb hE.cells rfl) (rL (s:=r.2.1) (Zb hE.cells rfl) (rL (s:=r.2.2.1) (Zb hE.cells rfl) (rL (s:=r.2.2.2.1) (Zb hE.cells rfl) (rL (s:=r.2.2.2.2.1) (Zb hE.cells rfl) (rS (Zb hw rfl) ?_))))))))))
  refine Zm5 hE hkd fun h1 e1=>⟨YM (Zb (Zl hw e1) rfl),YX (fun p hh=>p=(0,())∧hh=h1) (fun _ _=>0) ⟨rfl,rfl⟩ ?_⟩
  rintro _ hh ⟨rfl,hh9⟩ Q _
  subst hh9
  exact Zi rfl (Za (hk hh e1))
theorem ZnE {h:Zd} {wb eb st tb fm:Nat} {r:R5} {sh:Sl} {g:Int} {O:Nat→Prop} {E:Eng} {c:C8} {gr:Bool} {tk bk:Sl} {wt:Int} (hE:Ze1 h eb st tb fm r sh g O E) (hw:obj h wb=some (ZbW eb c gr tk bk wt)) {B:Option Addr × Unit} {kind:Int} (hkd:kind=2∨kind=3∨kind=4∨kind=5) {K:Int→Bool→Zd→Prop} (hk:∀ h',Ext h h'→K 0 false h'):ZJ (some ⟨wb,0,none⟩) kind B K h:=by
  unfold ZJ Ys
  refine Za (Zj (Zj (rP (Zb hw rfl) (Zj (rL (s:=r.1) (Zb hE.cells rfl) (rL (s:=r.2.1) (Zb hE.cells rfl) (rL (s:=r.2.2.1) (Zb hE.cells rfl) (rL (s:=r.2.2.2.1) (Zb hE.cells rfl) (rL (s:=r.2.2.2.2.1) (Zb hE.cells rfl) (rS (Zb hw rfl) ?_))))))))))
  refine Zm5 hE hkd fun h1 e1=>⟨YM (Zb (Zl hw e1) rfl),YX (fun p hh=>p=(0,())∧hh=h1) (fun _ _=>0) ⟨rfl,rfl⟩ ?_⟩
  rintro _ hh ⟨rfl,hh9⟩ Q _
  subst hh9
  exact Zi rfl (Za (hk hh e1))
theorem Zlq {h:Zd} {wb eb st tb fm:Nat} {r:R5} {sh:Sl} {g:Int} {O:Nat→Prop} {E:Eng} {c:C8} {gr:Bool} {tk bk:Sl} {wt:Int} (hE:Ze1 h eb st tb fm r sh g O E) (hw:obj h wb=some (ZbW eb c gr tk bk wt)) {B:Option Addr × Unit} {kind:Int} (hkd:kind=2∨kind=3∨kind=4∨kind=5) {K:Int→Bool→Zd→Prop} (hk:∀ h',Ext h h'→K 0 false h'):ZS (some ⟨wb,0,none⟩) kind B K h:=by
  unfold ZS Ym
  refine Za (Zj (Zj (rP (Zb hw rfl) (Zj (rL (s:=r.1) (Zb hE.cells rfl) (rL (s:=r.2.1) (Zb hE.cells rfl) (rL (s:=r.2.2.1) (Zb hE.cells rfl) (rL (s:=r.2.2.2.1) (Zb hE.cells rfl) (rL (s:=r.2.2.2.2.1) (Zb hE.cells rfl) (rS (Zb hw rfl) ?_))))))))))
  refine Zm5 hE hkd fun h1 e1=>⟨YM (Zb (Zl hw e1) rfl),YX (fun p hh=>p=(0,())∧hh=h1) (fun _ _=>0) ⟨rfl,rfl⟩ ?_⟩
  rintro _ hh ⟨rfl,hh9⟩ Q _
  subst hh9
  exact Zi rfl (Za (hk hh e1))
theorem ZpQ {h:Zd} {wb eb st tb fm:Nat} {r:R5} {sh:Sl} {g:Int} {O:Nat→Prop} {E:Eng} {c:C8} {gr:Bool} {tk bk:Sl} {wt:Int} (hE:Ze1 h eb st tb fm r sh g O E) (hw:obj h wb=some (ZbW eb c gr tk bk wt)) {K:Int→Bool→Zd→Prop} (hk:∀ h',Ext h h'→K 0 false h'):Xe (some ⟨wb,0,none⟩) K h:=by
  unfold Xe Zbh
  refine Yg fun h1 c1 e1 z1=>Za (rP (Zb c1 rfl) (Zme (hE.ext e1) (Zl hw e1) (.inr (.inr (.inr rfl))) fun h2 e2=>Za (Zc (hk h2 (e1.trans e2)))))
theorem Zq5 {h:Zd} {wb eb st tb fm:Nat} {r:R5} {sh:Sl} {g:Int} {O:Nat→Prop} {E:Eng} {c:C8} {gr:Bool} {tk bk:Sl} {wt:Int} (hE:Ze1 h eb st tb fm r sh g O E) (hw:obj h wb=some (ZbW eb c gr tk bk wt)) {K:Int→Bool→Zd→Prop} (hk:∀ h',Ext h h'→K 0 false h'):Xq (some ⟨wb,0,none⟩) K h:=by
  unfold Xq Zbx
  refine Yg fun h1 c1 e1 z1=>Za (rP (Zb c1 rfl) (ZnE (hE.ext e1) (Zl hw e1) (.inr (.inl rfl)) fun h2 e2=>Za (Zc (hk h2 (e1.trans e2)))))
theorem ZnJ {h:Zd} {wb eb st tb fm:Nat} {r:R5} {sh:Sl} {g:Int} {O:Nat→Prop} {E:Eng} {c:C8} {gr:Bool} {tk bk:Sl} {wt:Int} (hE:Ze1 h eb st tb fm r sh g O E) (hw:obj h wb=some (ZbW eb c gr tk bk wt)) {K:Int→Bool→Zd→Prop} (hk:∀ h',Ext h h'→K 0 false h'):Y3 (some ⟨wb,0,none⟩) K h:=by
  unfold Y3 ZaK
  refine Yg fun h1 c1 e1 z1=>Za (rP (Zb c1 rfl) (Zlq (hE.ext e1) (Zl hw e1) (.inl rfl) fun h2 e2=>Za (Zc (hk h2 (e1.trans e2)))))
def Zh4 (o:Option Node) (at_:Int):C6:=match o with
  | some n=>n.sum at_
  | none=>z6
def oFl (o:Option Node):Int:=match o with
  | some n=>n.fl
  | none=>0
theorem ZfB {h:Zd} {p:Option Addr} {o:Option Node} (hf:ZiI h p o) {at_:Int} {K:C6→Int→Zd→Prop} (hk:∀ e h',Ext h h'→K (Zh4 o at_) e h'):Yu p at_ K h:=by
  rcases hf with ⟨ho,hp⟩ | ⟨nb,a,ma,b,mb,n,ho,hp,hn⟩<;>subst ho<;>subst hp
  ·unfold Yu Zcl
   refine Yg fun h1 c1 e1 z1=>Za (Zt rfl (ZaE c1 fun h2 c2 u2 z2=>Za ?_))
   exact rI (Zb c2 rfl) (rI (Zb c2 rfl) (rI (Zb c2 rfl) (rI (Zb c2 rfl) (rI (Zb c2 rfl) (rI (Zb c2 rfl) (hk 1 h2 (e1.then u2 fun k hk=>by subst hk;exact Nat.le_refl _)))))))
  ·exact Zqs hn fun h' e'=>hk _ h' e'
theorem ZnU {h:Zd} {p:Option Addr} {o:Option Node} (hf:ZiI h p o) {at_:Int} {K:Int→Int→Zd→Prop} (hk:∀ v e h',Ext h h'→K v e h'):XC p at_ K h:=by
  rcases hf with ⟨ho,hp⟩ | ⟨nb,a,ma,b,mb,n,ho,hp,hn⟩<;>subst ho<;>subst hp
  ·unfold XC ZbJ
   exact Za (Za (Zt rfl (Za (Za (hk _ _ h (Ext.refl _))))))
  ·exact Zqr hn fun h' e'=>hk _ _ h' e'
theorem ZjX {h:Zd} {p:Option Addr} {o:Option Node} (hf:ZiI h p o) {at_:Int} {K:Int→Int→Zd→Prop} (hk:∀ v e h',Ext h h'→K v e h'):XD p at_ K h:=by
  rcases hf with ⟨ho,hp⟩ | ⟨nb,a,ma,b,mb,n,ho,hp,hn⟩<;>subst ho<;>subst hp
  ·unfold XD ZbK
   exact Za (Za (Zt rfl (Za (Za (hk _ _ h (Ext.refl _))))))
  ·exact ZnQ hn fun h' e'=>hk _ _ h' e'
theorem Zc3 {h:Zd} {p:Option Addr} {o:Option Node} (hf:ZiI h p o) {K:Int→Zd→Prop} (hk:K (oFl o) h):ZY p K h:=by
  rcases hf with ⟨ho,hp⟩ | ⟨nb,a,ma,b,mb,n,ho,hp,hn⟩<;>subst ho<;>subst hp
  ·exact ZfA hk
  ·exact Zga hn hk
theorem ZjY {h:Zd} {p:Option Addr} {o:Option Node} (hf:ZiI h p o) {at_:Int} {K:Int→Int→Zd→Prop} (hk:∀ v e h',Ext h h'→K v e h'):ZaV p at_ K h:=by
  unfold ZaV Zdd
  refine Za (Za (ZfB hf fun e h1 e1=>Yg fun h2 c2 e2 z2=>ZaE c2 fun h3 c3 u3 z3=>Za ?_))
  have e3:Ext h h3:=(e1.trans e2).then u3 fun k hk=>by subst hk;exact e1.size
  refine ⟨fun _=>Za (Za (hk _ _ h3 e3)),fun _=>rI (Zb c3 rfl) (Zce (fun q=>Za (Za (hk _ _ h3 e3))) fun q=>rI (Zb c3 rfl) (rI (Zb c3 rfl) ⟨q,Za (Za (hk _ _ h3 e3))⟩))⟩
theorem ZiJ {h:Zd} {p:Option Addr} {o:Option Node} (hf:ZiI h p o) {at_:Int} {K:Int→Int→Zd→Prop} (hk:∀ v e h',Ext h h'→K v e h'):Zav p at_ K h:=by
  unfold Zav ZcC
  refine Za (Za (ZfB hf fun e h1 e1=>Yg fun h2 c2 e2 z2=>ZaE c2 fun h3 c3 u3 z3=>Za ?_))
  have e3:Ext h h3:=(e1.trans e2).then u3 fun k hk=>by subst hk;exact e1.size
  exact rI (Zb c3 rfl) (Za (Za (hk _ _ h3 e3)))
theorem ZlS {h:Zd} {wb eb st tb fm:Nat} {r:R5} {sh:Sl} {g:Int} {O:Nat→Prop} {E:Eng} {c:C8} {gr:Bool} {tk bk:Sl} {wt:Int} (hE:Ze1 h eb st tb fm r sh g O E) (hw:obj h wb=some (ZbW eb c gr tk bk wt)) {K:Int→Bool→Zd→Prop} (hk:∀ h',Ext h h'→K 0 false h'):YQ (some ⟨wb,0,none⟩) K h:=by
  unfold YQ Zan
  refine Yg fun h1 c1 e1 z1=>Za (rP (Zb c1 rfl) (Zj (rB (Zb (Zl hw e1) rfl) ⟨fun _=>Za (hk h1 e1),fun _=>?_⟩)))
  have w1:=Zl hw e1
  have y1:=(hE.ext e1).cells
  refine rP (Zb c1 rfl) (Zj (rP (Zb w1 rfl) (Zj (rP (Zb y1 rfl) (Zha (hE.ext e1).tree fun h2 p e2 f2=>?_)))))
  have K1:∀ {hh:Zd},Ext h1 hh→Z7 0 (obj hh (sz h))=some (.pointer (some ⟨wb,0,none⟩))∧Z7 1 (obj hh wb)=some (iv c.1)∧Z7 0 (obj hh wb)=some (.pointer (some ⟨eb,0,none⟩)):=fun {hh} e=>⟨Zb (Zl c1 e) rfl,Zb (Zl w1 e) rfl,Zb (Zl w1 e) rfl⟩
  obtain ⟨a2,b2,_⟩:=K1 e2
  refine rP a2 (Zj (rI b2 (ZfB f2 fun x3 h3 e3=>Yg fun h4 c4 e4 z4=>ZaE c4 fun h5 c5 u5 z5=>Za ?_)))
  have e25:Ext h2 h5:=(e3.trans e4).then u5 fun k hk=>by subst hk;exact e3.size
  obtain ⟨a5,b5,_⟩:=K1 (e2.trans e25)
  refine rP a5 (Zj (rI b5 (ZjY (f2.ext e25) fun v6 x6 h6 e6=>Za (Za ?_))))
  obtain ⟨a6,b6,_⟩:=K1 (e2.trans (e25.trans e6))
  refine rP a6 (Zj (rI b6 (ZjX (f2.ext (e25.trans e6)) fun v7 x7 h7 e7=>Za (Za ?_))))
  have e27:=(e25.trans e6).trans e7
  obtain ⟨a7,b7,_⟩:=K1 (e2.trans e27)
  refine rP a7 (Zj (rI b7 (ZiJ (f2.ext e27) fun v8 x8 h8 e8=>Za (Za ?_))))
  have e28:=e27.trans e8
  have e18:=e2.trans e28
  have c8:=Zl c5 ((e6.trans e7).trans e8)
  refine ZrP (fun _ hh=>Ext h8 hh) ?_ ?_
  ·rintro s h9 e9
   obtain ⟨a9,b9,_⟩:=K1 (e18.trans e9)
   refine rP a9 (Zkw (hE.ext (e1.trans (e18.trans e9))) (Zl hw (e1.trans (e18.trans e9))) (.inr (.inr (.inl rfl))) fun h10 e10=>Za (Zc (hk h10 (e1.trans (e18.trans (e9.trans e10))))))
  ·intro Q hQ
   obtain ⟨a8,b8,d8⟩:=K1 e18
   have y8:=(hE.ext (e1.trans e18)).cells
   have H:∀ hh,Ext h8 hh→Zo hh [(eb,0+14,iv 0)]∧Zo hh [(wb,0,.pointer (some ⟨eb,0,none⟩))]∧Zo hh [(sz h,0,.pointer (some ⟨wb,0,none⟩))]∧Zo hh [(eb,0+13,iv 0)]∧Zo hh [(sz h3,0,iv (Zh4 (E.t.f (1,em,em,em,())) c.1).1)]:=fun hh e=>by
     obtain ⟨a9,b9,d9⟩:=K1 (e18.trans e)
     have y9:=(hE.ext (e1.trans (e18.trans e))).cells
     exact ⟨YM (Zb y9 rfl),YM d9,YM a9,YM (Zb y9 rfl),YM (Zb (Zl c8 e) rfl)⟩
   refine rI (Zb c8 rfl) (rP a8 (Zj (rP d8 (Zj (rI (Zb y8 rfl) (rP a8 (Zj (rP d8 (Zj (rI (Zb y8 rfl) ⟨?_,?_⟩))))))))))
   ·obtain ⟨g1,g2,g3,g4,g5⟩:=H h8 (Ext.refl _)
    refine Zc3 (f2.ext e28) ⟨g1,g2,g3,g4,g2,g3,g5,Yg fun h9 c9 e9 z9=>?_⟩
    obtain ⟨g1,g2,g3,g4,g5⟩:=H h9 e9
    exact ⟨g1,g2,g3,g4,g2,g3,g5,ZaE c9 fun h10 c10 u10 z10=>hQ _ _ (e9.then u10 fun k hk=>by subst hk;exact Nat.le_refl _)⟩
   ·refine Yg fun h9 c9 e9 z9=>?_
    obtain ⟨g1,g2,g3,g4,g5⟩:=H h9 e9
    exact ⟨g1,g2,g3,g4,g2,g3,g5,Zc3 (f2.ext (e28.trans e9)) ⟨g1,g2,g3,g4,g2,g3,g5,ZaE c9 fun h10 c10 u10 z10=>hQ _ _ (e9.then u10 fun k hk=>by subst hk;exact Nat.le_refl _)⟩⟩
abbrev clK (res:ByteArray):K4:=(4,em,res,em,())
theorem Zly {res:ByteArray} {h:Zd} {K:K4→Zd→Prop} (hk:∀ h',Ext h h'→K (clK res) h'):Zbn res K h:=by
  unfold Zbn ZdJ
  refine Yg fun h1 c1 e1 z1=>ZaE c1 fun h2 c2 u2 z2=>?_
  exact rI (Zb c2 rfl) (rS (Zb c2 rfl) (rS (Zb c2 rfl) (rS (Zb c2 rfl) (hk h2 (e1.then u2 fun k hk=>by subst hk;exact Nat.le_refl _)))))
theorem ZpI {h:Zd} {wb eb st tb fm:Nat} {r:R5} {sh:Sl} {g:Int} {O:Nat→Prop} {E:Eng} {c:C8} {gr:Bool} {tk bk:Sl} {wt:Int} (hE:Ze1 h eb st tb fm r sh g O E) (hw:obj h wb=some (ZbW eb c gr tk bk wt)) {th:Bool} {n:Int} {K:Option Addr→Zd→Prop}
    (hk:∀ h' p,Ext h h'→ZiI h' p (E.t.f (clK c.2.1))→K p h'):Zax (some ⟨wb,0,none⟩) (Zal th n) K h:=by
  unfold Zax ZcE
  refine Yg fun h1 c1 e1 z1=>ZrP (fun s hh=>∃ lb,s=(some ⟨lb,0,none⟩,())∧Ext h hh∧obj hh lb=some (.cells [.string c.2.1,.string em,.string em,.bool false].toArray 346 (0,0))) ?_ ?_
  ·rintro _ h2 ⟨lb,rfl,e2,l2⟩
   dsimp only
   refine Zj (rS (Zb l2 rfl) (Zly fun h3 e3=>Yg fun h4 c4 e4 z4=>ZaE c4 fun h5 c5 u5 z5=>ZaD ?_))
   have e35:Ext h3 h5:=e4.then u5 fun k hk=>by subst hk;exact Nat.le_refl _
   have e25:=e3.trans e35
   have l5:=Zl l2 e25
   have s0:(!XN em em)=false:=by rw [ZfE];rfl
   refine Zj (rS (Zb l5 rfl) (Zc (Zi s0 (Zj (rS (Zb l5 rfl) (Zc (Zi s0 (Zj ?_))))))))
   have e05:=e2.trans e25
   have w5:=Zl hw e05
   have hE5:=hE.ext e05
   refine rP (Zb w5 rfl) (Zj (rP (Zb hE5.cells rfl) (rI (Zb c5 rfl) (rS (Zb c5 rfl) (rS (Zb c5 rfl) (rS (Zb c5 rfl) ?_))))))
   exact Zha (k:=clK c.2.1) hE5.tree fun h6 p e6 f6=>⟨YM (Zb (Zl w5 e6) rfl),hk h6 p (e05.trans e6) f6⟩
  ·intro Q hQ
   have w1:=Zl hw e1
   have hd1:∀ hh,Ext h1 hh→Zo hh [(wb,0+1,iv c.1),(wb,0+1+1,.string c.2.1),(wb,0+1+2,.string c.2.2.1),(wb,0+1+3,.string c.2.2.2.1),(wb,0+1+4,.bool c.2.2.2.2.1),(wb,0+1+5,iv c.2.2.2.2.2.1),(wb,0+1+6,slV c.2.2.2.2.2.2.1)]:=fun hh e=>by
     have w:=Zl w1 e
     exact ⟨Zb w rfl,Zb w rfl,Zb w rfl,Zb w rfl,Zb w rfl,Zb w rfl,Zb w rfl,trivial⟩
   have hd2:∀ hh,Ext h1 hh→Zo hh [(sz h,0,.string sA),(sz h,0+1,.string Zqz),(sz h,0+2,.bool th),(sz h,0+3,iv n),(sz h,0+4,.int .u8 0),(sz h,0+5,.string em),(sz h,0+6,.int .u8 0),(sz h,0+7,iv 0),(sz h,0+8,iv 0),(sz h,0+9,.bool false),(sz h,0+10,iv 0),(sz h,0+11,.bool false)]:=fun hh e=>by
     have w:=Zl c1 e
     exact ⟨Zb w rfl,Zb w rfl,Zb w rfl,Zb w rfl,Zb w rfl,Zb w rfl,Zb w rfl,Zb w rfl,Zb w rfl,Zb w rfl,Zb w rfl,Zb w rfl,trivial⟩
   refine Zj (rS (Zb c1 rfl) (rS (Zb c1 rfl) (rB (Zb c1 rfl) (rI (Zb c1 rfl) (rI (Zb c1 rfl) (rS (Zb c1 rfl) (rI (Zb c1 rfl) (rI (Zb c1 rfl) (rI (Zb c1 rfl) (rB (Zb c1 rfl) (rI (Zb c1 rfl) (rB (Zb c1 rfl) ?_))))))))))))
   refine rI (Zb w1 rfl) (rS (Zb w1 rfl) (rS (Zb w1 rfl) (rS (Zb w1 rfl) (rB (Zb w1 rfl) (rI (Zb w1 rfl) (rL (s:=c.2.2.2.2.2.2.1) (Zb w1 rfl) ⟨?_,?_⟩))))))
   ·refine Zf9 (c:=c) fun h2 e2=>Yg fun h3 c3 e3 z3=>ZaE c3 fun h4 c4 u4 z4=>hQ _ _ ⟨_,rfl,?_,c4⟩
    exact ((e1.trans e2).trans e3).then u4 fun k hk=>by subst hk;exact (e1.trans e2).size
   ·refine Yg fun h2 c2 e2 z2=>⟨hd1 h2 e2,hd2 h2 e2,Zf9 (c:=c) fun h3 e3=>ZaE (Zl c2 e3) fun h4 c4 u4 z4=>hQ _ _ ⟨_,rfl,?_,c4⟩⟩
    exact ((e1.trans e2).trans e3).then u4 fun k hk=>by subst hk;exact e1.size
def Zh3 (th:Bool) (n passed flight count:Int):Bool:=if th=true then decide (flight<n) else decide (count≤n - passed)
theorem Zms {h:Zd} {th:Bool} {n passed flight count:Int} (hn:0≤n∧n≤1099511627776) (hp:0≤passed∧passed≤4611686018427387904) {K:Bool→Zd→Prop} (hk:∀ h',Ext h h'→K (Zh3 th n passed flight count) h'):Zbq (Zal th n) passed flight count K h:=by
  unfold Zbq ZdO
  refine Yg fun h1 c1 e1 z1=>rB (Zb c1 rfl) ⟨fun q=>?_,fun q=>?_⟩
  ·have:=hk h1 e1
   unfold Zh3 at this
   rw [if_pos (show th=true from q)] at this
   exact rI (Zb c1 rfl) (Zc this)
  ·have:=hk h1 e1
   unfold Zh3 at this
   have q':th=false:=q
   rw [if_neg (by rw [q'];decide)] at this
   refine rI (Zb c1 rfl) (Za ?_)
   show Zs _ _ _
   have hw:IntKind.wrap .i64 ((Zal th n).2.2.2.1 - passed)=n - passed:=XH (by show _≤n - passed;omega) (by show n - passed≤_;omega)
   rw [hw]
   refine Zu (fun q2=>by omega) fun q2=>Zu (fun q3=>rI (Zb c1 rfl) (Zc (Zu (fun q4=>?_) fun q4=>Zc this))) fun q3=>by omega
   have q4':n - passed>n:=q4
   omega
theorem Zp8 {h:Zd} {wb eb st tb fm:Nat} {r:R5} {sh:Sl} {g:Int} {O:Nat→Prop} {E:Eng} {c:C8} {gr:Bool} {tk bk:Sl} {wt:Int} (hE:Ze1 h eb st tb fm r sh g O E) (hw:obj h wb=some (ZbW eb c gr tk bk wt)) {th:Bool} {n:Int} (hn:0≤n∧n≤1099511627776)
    (hp:0≤(Zh4 (E.t.f (clK c.2.1)) c.1).1∧(Zh4 (E.t.f (clK c.2.1)) c.1).1≤4611686018427387904) {K:Bool→Zd→Prop}
    (hk:∀ h',Ext h h'→K (Zh3 th n (Zh4 (E.t.f (clK c.2.1)) c.1).1 (oFl (E.t.f (clK c.2.1))) c.2.2.2.2.2.1) h'):Zay (some ⟨wb,0,none⟩) (Zal th n) (none,none,()) K h:=by
  unfold Zay ZcF
  refine Yg fun h1 c1 e1 z1=>Yg fun h2 c2 e2 z2=>?_
  have r2:=Zl c1 e2
  refine rS (Zb r2 rfl) (rS (Zb r2 rfl) (rB (Zb r2 rfl) (rI (Zb r2 rfl) (rI (Zb r2 rfl) (rS (Zb r2 rfl) (rI (Zb r2 rfl) (rI (Zb r2 rfl) (rI (Zb r2 rfl) (rB (Zb r2 rfl) (rI (Zb r2 rfl) (rB (Zb r2 rfl) ?_)))))))))))
  have e02:=e1.trans e2
  refine ZpI (hE.ext e02) (Zl hw e02) fun h3 p e3 f3=>Zj (rI (Zb (Zl hw (e02.trans e3)) rfl) (ZfB f3 fun x4 h4 e4=>Yg fun h5 c5 e5 z5=>ZaE c5 fun h6 c6 u6 z6=>Za (Zj ?_)))
  have e36:Ext h3 h6:=(e4.trans e5).then u6 fun k hk=>by subst hk;exact e4.size
  have e06:=(e02.trans e3).trans e36
  refine rI (Zb (Zl hw e06) rfl) (ZnU (f3.ext e36) fun v7 x7 h7 e7=>Yg fun h8 c8 e8 z8=>ZdD c8 (show 0<1 by decide) rfl fun h9 c9 u9 z9=>Za ?_)
  have e69:Ext h6 h9:=(e7.trans e8).then u9 fun k hk=>by subst hk;exact e7.size
  have e09:=e06.trans e69
  have w9:=Zl hw e09
  refine ZrP (fun s hh=>Ext h9 hh∧∃ pa pc,s=(some ⟨pa,0,none⟩,some ⟨pc,0,none⟩,())∧obj hh pc=some (.cells [iv c.2.2.2.2.2.1].toArray 3 (0,0))) ?_ ?_
  ·rintro _ h10 ⟨e10,pa,pc,rfl,cc⟩
   dsimp only
   have e2x:Ext h2 h10:=((e3.trans e36).trans e69).trans e10
   have r10:=Zl r2 e2x
   have s10:=Zl c6 (e69.trans e10)
   refine rI (Zb r10 rfl) (Zc (Zi rfl (Zc (Zi rfl (Zc (Zi rfl ?_))))))
   refine rS (Zb r10 rfl) (rS (Zb r10 rfl) (rB (Zb r10 rfl) (rI (Zb r10 rfl) (rI (Zb r10 rfl) (rS (Zb r10 rfl) (rI (Zb r10 rfl) (rI (Zb r10 rfl) (rI (Zb r10 rfl) (rB (Zb r10 rfl) (rI (Zb r10 rfl) (rB (Zb r10 rfl) ?_)))))))))))
   refine rI (Zb s10 rfl) (Zj (rI (Zb cc rfl) (Zc3 (f3.ext ((e36.trans e69).trans e10)) ⟨YM (Zb cc rfl),YM (Zb s10 rfl),⟨Zb r10 rfl,Zb r10 rfl,Zb r10 rfl,Zb r10 rfl,Zb r10 rfl,Zb r10 rfl,Zb r10 rfl,Zb r10 rfl,Zb r10 rfl,Zb r10 rfl,Zb r10 rfl,Zb r10 rfl,trivial⟩,?_⟩)))
   exact Zms hn hp fun h11 e11=>Zc (hk h11 ((e09.trans e10).trans e11))
  ·intro Q hQ
   have hd:∀ hh,Ext h9 hh→Zo hh [(wb,0+1+5,iv c.2.2.2.2.2.1)]∧Zo hh [(wb,0+1,iv c.1)]:=fun hh e=>⟨YM (Zb (Zl w9 e) rfl),YM (Zb (Zl w9 e) rfl)⟩
   refine Zj (Zj (rI (Zb w9 rfl) (rI (Zb w9 rfl) ⟨?_,?_⟩)))
   all_goals
     refine Yg fun h10 c10 e10 z10=>⟨(hd h10 e10).1,(hd h10 e10).2,Yg fun h11 c11 e11 z11=>⟨(hd h11 (e10.trans e11)).1,(hd h11 (e10.trans e11)).2,?_⟩⟩
     have x10:=Zl c10 e11
     have w10:sz h10=sz h9+1:=z10
     have ne:¬ sz h10=sz h9:=by omega
     have ne':¬ sz h9=sz h10:=by omega
     have f10:sz h9≤sz h10:=by omega
   ·refine ZdD x10 (show 0<1 by decide) rfl fun h12 c12 u12 z12=>?_
    have e12:Ext h9 h12:=(e10.trans e11).then u12 fun k hk=>by subst hk;exact Nat.le_refl _
    have y12:obj h12 (sz h10)=_:=(u12.old (sz h10) (Zr c11) ne).trans c11
    refine ⟨(hd h12 e12).1,ZdD y12 (show 0<1 by decide) rfl fun h13 c13 u13 z13=>hQ _ _ ⟨e12.then u13 fun k hk=>by subst hk;exact f10,_,_,rfl,c13⟩⟩
   ·refine ZdD c11 (show 0<1 by decide) rfl fun h12 c12 u12 z12=>?_
    have e12:Ext h9 h12:=(e10.trans e11).then u12 fun k hk=>by subst hk;exact f10
    have y12:obj h12 (sz h9)=_:=(u12.old (sz h9) (Zr x10) ne').trans x10
    refine ⟨(hd h12 e12).1,ZdD y12 (show 0<1 by decide) rfl fun h13 c13 u13 z13=>hQ _ _ ⟨e12.then u13 fun k hk=>by subst hk;exact Nat.le_refl _,_,_,rfl,c13⟩⟩
def Zer (E:Eng) (th:Bool) (n:Int) (c:C8):Bool:=decide (sA=c.2.1) && !Zh3 th n (Zh4 (E.t.f (clK c.2.1)) c.1).1 (oFl (E.t.f (clK c.2.1))) c.2.2.2.2.2.1
theorem ZnB {h:Zd} {wb eb st tb fm:Nat} {r:R5} {sh:Sl} {g:Int} {O:Nat→Prop} {E:Eng} {c:C8} {gr:Bool} {tk bk:Sl} {wt:Int} (hE:Ze1 h eb st tb fm r sh g O E) (hw:obj h wb=some (ZbW eb c gr tk bk wt)) {th:Bool} {n:Int} (hfs:E.fs=[Zal th n]) (hn:0≤n∧n≤1099511627776)
    (hp:0≤(Zh4 (E.t.f (clK c.2.1)) c.1).1∧(Zh4 (E.t.f (clK c.2.1)) c.1).1≤4611686018427387904) {K:Int→Bool→Zd→Prop}
    (hk:∀ h',Ext h h'→K 0 (Zer E th n c) h'):Xf (some ⟨wb,0,none⟩) K h:=by
  unfold Xf Zbi
  have hrow:Row h r.1 12 (Zky (Zal th n)):=by have:=hE.rules;rw [hfs] at this;simpa using this
  have hshp:Row h sh 2 ZgV:=by have:=hE.shp;rw [hfs] at this;simpa using this
  have hl:r.1.len=1:=by have:=hrow.len;simp [Zky] at this;omega
  have hl2:sh.len=1:=by have:=hshp.len;simp [ZgV] at this;omega
  refine Za (Zj (Zj (rP (Zb hw rfl) (Zj (rL (s:=r.1) (Zb hE.cells rfl) (rI (Zb hw rfl) (rS (Zb hw rfl) (rS (Zb hw rfl) (rS (Zb hw rfl) (rB (Zb hw rfl) (rI (Zb hw rfl) (rL (s:=c.2.2.2.2.2.2.1) (Zb hw rfl) ?_))))))))))))
  refine Zqt hrow (c:=c) fun h1 t e1 o1=>⟨YM (Zb (Zl hw e1) rfl),?_⟩
  unfold Zer at hk
  by_cases hs:sA=c.2.1
  case neg =>
    have htl:t.len=0:=by have:=o1.len;unfold Zl3 at this;rw [if_neg hs] at this;simp at this;omega
    rw [decide_eq_false hs] at hk
    refine YX (fun p hh=>p=(0,())∧hh=h1) (fun _ _=>0) ⟨rfl,rfl⟩ ?_
    rintro _ hh ⟨rfl,hh9⟩ Q _
    subst hh9
    dsimp only
    rw [htl]
    exact Zi rfl (Za (hk hh e1))
  have om:Own h1 (sz h) t 1 [iv 0]:=by have:=o1;unfold Zl3 at this;rw [if_pos hs] at this;exact this
  have htl:t.len=1:=by have:=om.len;simp at this;omega
  rw [decide_eq_true hs,Bool.true_and] at hk
  refine YX (fun p hh=>(p=(0,())∧hh=h1)∨(p.1=1∧Ext h hh∧Zh3 th n (Zh4 (E.t.f (clK c.2.1)) c.1).1 (oFl (E.t.f (clK c.2.1))) c.2.2.2.2.2.1=true)) (fun p _=>(1 - p.1).toNat) (.inl ⟨rfl,rfl⟩) ?_
  rintro ⟨i,u⟩ hh (⟨hq,hh9⟩ | ⟨hq,hex,hpass⟩) Q hQ
  case inr =>
    dsimp only at hq ⊢
    subst hq
    rw [htl]
    rw [hpass] at hk
    exact Zi rfl (Za (hk hh hex))
  injection hq with hq _
  subst hq
  subst hh9
  dsimp only
  rw [htl]
  have w1:=Zl hw e1
  have E1:=hE.ext e1
  obtain ⟨b,o,hb,hlt,hidx,hc⟩:=Zdj (α:=F12) (g:=Zky) (n:=12) (fun _=>rfl) (l:=[Zal th n]) (by simpa using hrow.ext e1) (i:=0) rfl (by decide)
  refine Zt rfl ?_
  have hix:∀ {K:Nat→Nat→Prop},(∀ b o,Zd.cell hh b o=some (iv 0)→K b o)→Xy t.ptr 1 0 1 K:=fun {K} hk=>by
    have:=om.row.idx (i:=0) (n:=0) (v:=iv 0) rfl rfl (K:=K) fun b o _ hc=>hk b (o+0) hc
    rwa [htl] at this
  refine hix fun b9 o9 hc9=>⟨0,hc9,Za (Zj (rP (Zb w1 rfl) (Zj (rL (s:=r.1) (Zb E1.cells rfl) (hidx rfl ?_)))))⟩
  refine rS (hc 0 _ rfl) (rS (hc 1 _ rfl) (rB (hc 2 _ rfl) (rI (hc 3 _ rfl) (rI (hc 4 _ rfl) (rS (hc 5 _ rfl) (rI (hc 6 _ rfl) (rI (hc 7 _ rfl) (rI (hc 8 _ rfl) (rB (hc 9 _ rfl) (rI (hc 10 _ rfl) (rB (hc 11 _ rfl) (Yg fun h2 c2 e2 z2=>ZaE c2 fun h3 c3 u3 z3=>ZaD ?_))))))))))))
  have e13:Ext hh h3:=e2.then u3 fun k hk=>by subst hk;exact Nat.le_refl _
  have e03:=e1.trans e13
  have w3:=Zl hw e03
  have E3:=hE.ext e03
  obtain ⟨b2,o2,hb2,hlt2,hidx2,hc2⟩:=Zdj (α:=Unit) (g:=fun _=>ZgV) (n:=2) (fun _=>rfl) (l:=[()]) (by simpa using hshp.ext e03) (i:=0) rfl (by decide)
  refine rB (Zb c3 rfl) (Zi rfl (Zj ?_))
  refine rS (Zb c3 rfl) (rS (Zb c3 rfl) (rB (Zb c3 rfl) (rI (Zb c3 rfl) (rI (Zb c3 rfl) (rS (Zb c3 rfl) (rI (Zb c3 rfl) (rI (Zb c3 rfl) (rI (Zb c3 rfl) (rB (Zb c3 rfl) (rI (Zb c3 rfl) (rB (Zb c3 rfl) ?_)))))))))))
  refine rP (Zb w3 rfl) (Zj (rL (s:=sh) (Zb E3.cells rfl) (hidx2 rfl (rP (hc2 0 _ rfl) (rP (hc2 1 _ rfl) ?_)))))
  refine Zp8 E3 w3 hn hp fun h4 e4=>⟨YM (Zb (E3.ext e4).cells rfl),YM (Zb (Zl w3 e4) rfl),?_⟩
  have e04:=e03.trans e4
  refine ⟨fun q=>Za ?_,fun q=>hQ _ _ (.inr ⟨rfl,e04,by have q2:(!Zh3 th n (Zh4 (E.t.f (clK c.2.1)) c.1).1 (oFl (E.t.f (clK c.2.1))) c.2.2.2.2.2.1)=false:=q;simpa using q2⟩) (show (1 - IntKind.wrap .i64 (0+1)).toNat<(1 - (0:Int)).toNat by decide)⟩
  have q':Zh3 th n (Zh4 (E.t.f (clK c.2.1)) c.1).1 (oFl (E.t.f (clK c.2.1))) c.2.2.2.2.2.1=false:=by have q2:(!Zh3 th n (Zh4 (E.t.f (clK c.2.1)) c.1).1 (oFl (E.t.f (clK c.2.1))) c.2.2.2.2.2.1)=true:=q;simpa using q2
  rw [q'] at hk
  exact hk h4 e04
abbrev fn0 (f:Nat):Value:= .func (.func f) #[] #[]
theorem ZpN {h:Zd} {wb eb st tb fm:Nat} {r:R5} {sh:Sl} {g:Int} {O:Nat→Prop} {E:Eng} {c:C8} {gr:Bool} {tk bk:Sl} {wt:Int} (hE:Ze1 h eb st tb fm r sh g O E) (hw:obj h wb=some (ZbW eb c gr tk bk wt)) {th:Bool} {n:Int} (hfs:E.fs=[Zal th n]) (hn:0≤n∧n≤1099511627776)
    (hp:0≤(Zh4 (E.t.f (clK c.2.1)) c.1).1∧(Zh4 (E.t.f (clK c.2.1)) c.1).1≤4611686018427387904) {K:(Int × Int × Int × Unit)→Bool→Zd→Prop}
    (hk:∀ h',Ext h h'→K ((if Zer E th n c=true then 4 else 0),0,0,()) (Zer E th n c) h'):Xp (some ⟨wb,0,none⟩) K h:=by
  unfold Xp Zbw
  refine Yg fun h1 c1 e1 z1=>⟨rfl,rfl,rfl,rfl,rfl,Yg fun h2 c2 e2 z2=>ZaE c2 fun h3 c3 u3 z3=>?_⟩
  refine rI (Zb c3 rfl) (rV (Zb c3 rfl) (rI (Zb c3 rfl) (rV (Zb c3 rfl) (rI (Zb c3 rfl) (rV (Zb c3 rfl) (rI (Zb c3 rfl) (rV (Zb c3 rfl) (rI (Zb c3 rfl) (rV (Zb c3 rfl) ?_)))))))))
  have e13:Ext h1 h3:=e2.then u3 fun k hk=>by subst hk;exact Nat.le_refl _
  have e03:=e1.trans e13
  have w3:=Zl hw e03
  have E3:=hE.ext e03
  have b3:=Zl c1 e13
  refine YX (fun p hh=>Ext h3 hh∧∃ j:Nat,p=((j:Int),())∧j≤5∧(4≤j→Zer E th n c=false)) (fun p _=>(5 - p.1).toNat) ⟨Ext.refl _,0,rfl,by decide,fun h9=>absurd h9 (by decide)⟩ ?_
  rintro _ hh ⟨he,j,rfl,hj,hbl⟩ Q hQ
  dsimp only
  have wh:=Zl w3 he
  have Eh:=E3.ext he
  have bh:=Zl b3 he
  have e0h:=e03.trans he
  have nx:∀ (jj:Nat) (hy:Zd),j=jj→jj<5→(4≤jj+1→Zer E th n c=false)→Ext hh hy→Q (IntKind.wrap .i64 ((j:Int)+1),()) hy:=fun jj hy h1 h2 h3 ey=>by
    subst h1
    rw [XH (by omega) (by omega)]
    exact hQ _ _ ⟨he.trans ey,j+1,rfl,by omega,h3⟩ (by show (5 - ((j:Int)+1)).toNat<(5 - (j:Int)).toNat;omega)
  rcases (show j=0∨j=1∨j=2∨j=3∨j=4∨j=5 by omega) with q | q | q | q | q | q
  ·have nx:=fun hy=>nx 0 hy q (by decide) (fun h9=>absurd h9 (by decide))
   subst q
   refine Zt rfl ⟨by decide,by decide,(1,fn0 100,()),rfl,Yg fun h4 c4 e4 z4=>ZaE c4 fun h5 c5 u5 z5=>rV (Zb c5 rfl) (.inl ⟨rfl,?_⟩)⟩
   have e5:Ext hh h5:=e4.then u5 fun k hk=>by subst hk;exact Nat.le_refl _
   exact ZpQ (Eh.ext e5) (Zl wh e5) fun h6 e6=>Za (Zc (Zi rfl (nx h6 (e5.trans e6))))
  ·have nx:=fun hy=>nx 1 hy q (by decide) (fun h9=>absurd h9 (by decide))
   subst q
   refine Zt rfl ⟨by decide,by decide,(2,fn0 101,()),rfl,Yg fun h4 c4 e4 z4=>ZaE c4 fun h5 c5 u5 z5=>rV (Zb c5 rfl) (.inr (.inl ⟨rfl,?_⟩))⟩
   have e5:Ext hh h5:=e4.then u5 fun k hk=>by subst hk;exact Nat.le_refl _
   exact ZlS (Eh.ext e5) (Zl wh e5) fun h6 e6=>Za (Zc (Zi rfl (nx h6 (e5.trans e6))))
  ·have nx:=fun hy=>nx 2 hy q (by decide) (fun h9=>absurd h9 (by decide))
   subst q
   refine Zt rfl ⟨by decide,by decide,(3,fn0 102,()),rfl,Yg fun h4 c4 e4 z4=>ZaE c4 fun h5 c5 u5 z5=>rV (Zb c5 rfl) (.inr (.inr (.inl ⟨rfl,?_⟩)))⟩
   have e5:Ext hh h5:=e4.then u5 fun k hk=>by subst hk;exact Nat.le_refl _
   exact Zq5 (Eh.ext e5) (Zl wh e5) fun h6 e6=>Za (Zc (Zi rfl (nx h6 (e5.trans e6))))
  ·have nx:=fun (qb:Zer E th n c=false) hy=>nx 3 hy q (by decide) (fun _=>qb)
   subst q
   refine Zt rfl ⟨by decide,by decide,(4,fn0 103,()),rfl,Yg fun h4 c4 e4 z4=>ZaE c4 fun h5 c5 u5 z5=>rV (Zb c5 rfl) (.inr (.inr (.inr (.inl ⟨rfl,?_⟩))))⟩
   have e5:Ext hh h5:=e4.then u5 fun k hk=>by subst hk;exact Nat.le_refl _
   refine ZnB (Eh.ext e5) (Zl wh e5) hfs hn hp fun h6 e6=>Za (Zc ⟨fun qb=>?_,fun qb=>nx qb h6 (e5.trans e6)⟩)
   rw [qb,if_pos rfl] at hk
   have b6:=Zl bh (e5.trans e6)
   refine rI (Zb (Zl c5 e6) rfl) (ZaE b6 fun h7 c7 u7 z7=>rI (Zb c7 rfl) (rI (Zb c7 rfl) (rI (Zb c7 rfl) (hk h7 ?_))))
   exact (e0h.trans (e5.trans e6)).then u7 fun k hk=>by subst hk;exact Nat.le_refl _
  ·have nx:=fun hy=>nx 4 hy q (by decide) (fun _=>hbl (by omega))
   subst q
   refine Zt rfl ⟨by decide,by decide,(5,fn0 104,()),rfl,Yg fun h4 c4 e4 z4=>ZaE c4 fun h5 c5 u5 z5=>rV (Zb c5 rfl) (.inr (.inr (.inr (.inr (.inl ⟨rfl,?_⟩)))))⟩
   have e5:Ext hh h5:=e4.then u5 fun k hk=>by subst hk;exact Nat.le_refl _
   exact ZnJ (Eh.ext e5) (Zl wh e5) fun h6 e6=>Za (Zc (Zi rfl (nx h6 (e5.trans e6))))
  ·subst q
   rw [hbl (by decide)] at hk
   refine Zi rfl (ZaE bh fun h7 c7 u7 z7=>rI (Zb c7 rfl) (rI (Zb c7 rfl) (rI (Zb c7 rfl) (hk h7 ?_))))
   exact e0h.then u7 fun k hk=>by subst hk;exact Nat.le_refl _
theorem Zas {h h':Zd} {s:Sl} {size:Nat} {vs:List Value} (hr:Row h s size vs) (hk:∀ b,s.blk=some b→b<sz h→obj h' b=obj h b):Row h' s size vs:=hr.congr fun b o hb _ hl=>hk b (by simp [Sl.blk,hb]) hl
theorem Ze1.tree' {h h':Zd} {eb st tb fm:Nat} {r:R5} {sh:Sl} {g:Int} {O O':Nat→Prop} {E:Eng} {t':Tree} (hE:Ze1 h eb st tb fm r sh g O E) (ht:XM h' tb O' t') (u:Upd O h h') (gr:Zhy O O' h h'):Ze1 h' eb st tb fm r sh g O' { E with t:=t' }:=by
  have leb:=Zr hE.cells
  have lfm:fm<sz h:=hE.map.lt
  have w:sz h≤sz h':=u.size
  have nO:∀ j,j<sz h→¬ O j→¬ O' j:=fun j hj hn h9=>by
    rcases gr.1 j h9 with g | g
    ·exact hn g
    ·omega
  have keep:∀ b,b<sz h→¬ O b→obj h' b=obj h b:=fun b hb hn=>u.old b hb hn
  refine ⟨(keep eb leb hE.se).trans hE.cells,Zas hE.rules fun b hb hl=>keep b hl (hE.sr b (.inl hb)).1,hE.l2,hE.l3,hE.l4,hE.l5,Zas hE.shp fun b hb hl=>keep b hl (hE.sr b (.inr hb)).1,ht,hE.map.congr (keep fm lfm hE.sm),fun j hj=>?_,nO eb leb hE.se,nO fm lfm hE.sm,hE.em,fun b hb=>⟨fun h9=>?_,(hE.sr b hb).2⟩,fun b hb=>Nat.lt_of_lt_of_le (hE.lr b hb) w⟩
  ·rcases gr.1 j hj with g | g
   ·have:=hE.hO j g;omega
   ·exact g.2
  ·rcases gr.1 b h9 with g | g
   ·exact (hE.sr b hb).1 g
   ·have:=hE.lr b hb;omega
theorem Ze1.set {h h':Zd} {eb st tb fm:Nat} {r:R5} {sh:Sl} {g:Int} {O:Nat→Prop} {E:Eng} (hE:Ze1 h eb st tb fm r sh g O E) {fl nx la:Int} (hc:obj h' eb=some (Ztv st tb fm r sh nl nl g fl nx la)) (u:Upd (· = eb) h h'):Ze1 h' eb st tb fm r sh g O { E with fl:=fl,nx:=nx,la:=la }:=by
  have w:sz h≤sz h':=u.size
  refine ⟨hc,Zas hE.rules fun b hb hl=>u.old b hl (hE.sr b (.inl hb)).2.1,hE.l2,hE.l3,hE.l4,hE.l5,Zas hE.shp fun b hb hl=>u.old b hl (hE.sr b (.inr hb)).2.1,hE.tree.congr fun j hj hl=>u.old j hl fun e=>hE.se (e▸hj),hE.map.congr (u.old fm hE.map.lt fun e=>hE.em e.symm),fun j hj=>Nat.lt_of_lt_of_le (hE.hO j hj) w,hE.se,hE.sm,hE.em,hE.sr,fun b hb=>Nat.lt_of_lt_of_le (hE.lr b hb) w⟩
theorem Ze1.mapped {h h':Zd} {eb st tb fm:Nat} {r:R5} {sh:Sl} {g:Int} {O:Nat→Prop} {E:Eng} (hE:Ze1 h eb st tb fm r sh g O E) {f:Int→Option Value} {n:Nat} (hm:Zet h' fm f n) (u:Upd (· = fm) h h'):Ze1 h' eb st tb fm r sh g O { E with f:=f,n:=n }:=by
  have w:sz h≤sz h':=u.size
  refine ⟨(u.old eb (Zr hE.cells) hE.em).trans hE.cells,Zas hE.rules fun b hb hl=>u.old b hl (hE.sr b (.inl hb)).2.2,hE.l2,hE.l3,hE.l4,hE.l5,Zas hE.shp fun b hb hl=>u.old b hl (hE.sr b (.inr hb)).2.2,hE.tree.congr fun j hj hl=>u.old j hl fun e=>hE.sm (e▸hj),hm,fun j hj=>Nat.lt_of_lt_of_le (hE.hO j hj) w,hE.se,hE.sm,hE.em,hE.sr,fun b hb=>Nat.lt_of_lt_of_le (hE.lr b hb) w⟩
def ZlZ (eb fm:Nat) (O:Nat→Prop) (j:Nat):Prop:=j=eb∨j=fm∨O j
def Zfy (al:List ByteArray):Bool:=al.any fun s=>decide (64<s.size)
def Yq (E:Eng) (c:C8) (al:List ByteArray):Int :=
  if Zen c≠0 then Zen c else if ¬ (0≤c.1∧c.1≤1152921504606846976) then 2 else if ¬ (1≤c.2.2.2.2.2.1∧c.2.2.2.2.2.1≤1099511627776) then 2 else if 8<al.length then 5 else if Zfy al=true then 5
  else if c.1<E.la then 7 else if 4096≤E.fl then 3 else E.t.touchE c
theorem Zhn {h:Zd} {s:Sl} {al:List ByteArray} (hs:Row h s 1 (al.map .string)) {K:Bool→Zd→Prop} (hk:K (Zfy al) h) (hl:al.length≤8):Zy s K h:=by
  unfold Zy Z5 ZP Yc
  have hsl:s.len=al.length:=by have:=hs.len;simp at this;omega
  refine Za (YX (fun p hh=>∃ i:Nat,p=((i:Int),())∧i≤al.length∧hh=h∧Zfy (al.take i)=false) (fun p _=>al.length - p.1.toNat) ⟨0,rfl,Nat.zero_le _,rfl,rfl⟩ ?_)
  rintro _ hh ⟨i,rfl,hil,hh9,ha⟩ Q hQ
  subst hh9
  dsimp only
  refine Zu (fun q=>?_) fun q=>?_
  ·have hi1:i<al.length:=by omega
   have hg:al[i]?=some al[i]:=List.getElem?_eq_getElem hi1
   generalize al[i]=x at hg
   refine Za (hs.idx (n:=i) (v:= .string x) rfl (by rw [List.getElem?_map,hg];rfl) fun b o _ hc=>⟨x,hc,?_⟩)
   unfold XZ Za9
   refine Zc (Zu (fun q2=>Za (Zc ?_)) fun q2=>?_)
   ·have:decide ((i:Int)≥0)=true:=by simp
    rw [this]
    have:Zfy al=true:=List.any_eq_true.2 ⟨x,List.mem_of_getElem? hg,by simp;omega⟩
    rw [this] at hk
    exact hk
   ·rw [wrS hi1 (by omega)]
    refine hQ _ _ ⟨i+1,rfl,hi1,rfl,?_⟩ (by show al.length - ((i+1:Nat):Int).toNat<al.length - ((i:Nat):Int).toNat;omega)
    unfold Zfy at ha ⊢
    rw [List.take_add_one,hg,List.any_append,ha]
    simp
    omega
  ·have hfull:al.take i=al:=List.take_of_length_le (by omega)
   rw [hfull] at ha
   rw [ha] at hk
   exact Za (Zc hk)
theorem ZlN {h:Zd} {eb st tb fm:Nat} {r:R5} {sh:Sl} {g:Int} {O:Nat→Prop} {E:Eng} (hE:Ze1 h eb st tb fm r sh g O E) {c:C8} (hz:ZfM c) {al:List ByteArray} (ha:Row h c.2.2.2.2.2.2.1 1 (al.map .string)) {K:Int→Zd→Prop}
    (hk:∀ h' O',Ze1 h' eb st tb fm r sh g O' { E with t:=if Yq E c al=0 then E.t.touched c else E.t }→Upd O h h'→Zhy O O' h h'→K (Yq E c al) h'):YR (some ⟨eb,0,none⟩) c K h:=by
  have no:∀ e (h9:Zd),Ext h h9→e≠0→Yq E c al=e→K e h9:=fun e h9 e9 h1 h2=>by
    have:=hk h9 O (by rw [if_neg (by rw [h2];exact h1)];exact hE.ext e9) (e9.upd _) ⟨fun j hj=> .inl hj,fun j hj=>hj⟩
    rwa [h2] at this
  unfold YR Zao
  have hal:c.2.2.2.2.2.2.1.len=al.length:=by have:=ha.len;simp at this;omega
  refine Yg fun h1 c1 e1 z1=>Za (rI (Zb c1 rfl) (rS (Zb c1 rfl) (rS (Zb c1 rfl) (rS (Zb c1 rfl) (rB (Zb c1 rfl) (rI (Zb c1 rfl) (rL (s:=c.2.2.2.2.2.2.1) (Zb c1 rfl) ?_)))))))
  refine Zfz (c:=c) hz fun s h2 e2 o2=>Za (Zdt (fun q1=>Za (no _ h2 (e1.trans e2) q1 (by unfold Yq;rw [if_pos q1]))) fun q1=>?_)
  have e02:=e1.trans e2
  have c2:=Zl c1 e2
  have tE:∀ {a:Int},¬ (0≤c.1∧c.1≤1152921504606846976)→K 2 h2:=fun hb=>no 2 h2 e02 (by decide) (by unfold Yq;rw [if_neg (fun h9=>h9 q1),if_pos hb])
  refine rI (Zb c2 rfl) (Zu (fun q2=>Za (tE (a:=0) (by omega))) fun q2=>rI (Zb c2 rfl) (Zu (fun q3=>Za (tE (a:=0) (by omega))) fun q3=>?_))
  have hat:0≤c.1∧c.1≤1152921504606846976:=by omega
  have cE:¬ (1≤c.2.2.2.2.2.1∧c.2.2.2.2.2.1≤1099511627776)→K 2 h2:=fun hb=>no 2 h2 e02 (by decide) (by unfold Yq;rw [if_neg (fun h9=>h9 q1),if_neg (fun h9=>h9 hat),if_pos hb])
  refine rI (Zb c2 rfl) (Zu (fun q4=>Za (cE (by omega))) fun q4=>rI (Zb c2 rfl) (Zc (Zu (fun q5=>Za (cE (by omega))) fun q5=>?_)))
  have hct:1≤c.2.2.2.2.2.1∧c.2.2.2.2.2.1≤1099511627776:=by omega
  refine rL (s:=c.2.2.2.2.2.2.1) (Zb c2 rfl) (Zu (fun q6=>Za (no 5 h2 e02 (by decide) ?_)) fun q6=>?_)
  ·unfold Yq;rw [if_neg (fun h9=>h9 q1),if_neg (fun h9=>h9 hat),if_neg (fun h9=>h9 hct),if_pos (by omega)]
  have q6':¬ 8<al.length:=by omega
  refine rL (s:=c.2.2.2.2.2.2.1) (Zb c2 rfl) (Zhn (ha.ext e02) (Zc ⟨fun q7=>Za (no 5 h2 e02 (by decide) ?_),fun q7=>?_⟩) (by omega))
  ·unfold Yq;rw [if_neg (fun h9=>h9 q1),if_neg (fun h9=>h9 hat),if_neg (fun h9=>h9 hct),if_neg q6',if_pos q7]
  have q7':¬ Zfy al=true:=by rw [q7];decide
  have E2:=hE.ext e02
  refine rI (Zb c2 rfl) (Zj (rI (Zb E2.cells rfl) (Zc (Zu (fun q8=>Za (no 7 h2 e02 (by decide) ?_)) fun q8=>?_))))
  ·unfold Yq;rw [if_neg (fun h9=>h9 q1),if_neg (fun h9=>h9 hat),if_neg (fun h9=>h9 hct),if_neg q6',if_neg q7',if_pos q8]
  refine Zj (rI (Zb E2.cells rfl) (Zc (Zu (fun q9=>Za (no 3 h2 e02 (by decide) ?_)) fun q9=>?_)))
  ·unfold Yq;rw [if_neg (fun h9=>h9 q1),if_neg (fun h9=>h9 hat),if_neg (fun h9=>h9 hct),if_neg q6',if_neg q7',if_neg q8,if_pos (show 4096≤E.fl from q9)]
  have hW:Yq E c al=E.t.touchE c:=by unfold Yq;rw [if_neg (fun h9=>h9 q1),if_neg (fun h9=>h9 hat),if_neg (fun h9=>h9 hct),if_neg q6',if_neg q7',if_neg q8,if_neg (show ¬ 4096≤E.fl from q9)]
  rw [hW] at hk
  refine Zj (rP (Zb E2.cells rfl) (rI (Zb c2 rfl) (rS (Zb c2 rfl) (rS (Zb c2 rfl) (rS (Zb c2 rfl) (rB (Zb c2 rfl) (rI (Zb c2 rfl) (rL (s:=c.2.2.2.2.2.2.1) (Zb c2 rfl) (Yg fun h3 c3 e3 z3=>⟨YM (Zb (E2.ext e3).cells rfl),?_⟩)))))))))
  have E3:=E2.ext e3
  have e03:=e02.trans e3
  refine ZjT E3.tree E3.hO hz (ZiR c3 rfl) (fun b hb h9=>?_) fun h4 O' t4 u4 g4=>Za (hk h4 O' ?_ ((e03.upd _).trans u4) (ZdI e03 g4))
  ·simp [Sl.blk] at hb
   subst hb
   have:=hE.hO _ h9
   have:sz h≤sz h2:=e02.size
   simp only [YV] at *
   omega
  ·have:(if E.t.touchE c=0 then E.t.touched c else E.t)=E.t.touched c:=by
     split
     ·rfl
     ·rename_i hne
      unfold Tree.touched
      rw [if_neg hne]
   rw [this]
   exact E3.tree' t4 u4 g4
theorem Ze1.frame {h h':Zd} {eb st tb fm:Nat} {r:R5} {sh:Sl} {g:Int} {O:Nat→Prop} {E:Eng} (hE:Ze1 h eb st tb fm r sh g O E) {x base:Nat} (u:Upd (· = x) h h') (hx:base≤x) (hO:¬ O x) (h1:eb<base) (h2:fm<base) (h3:∀ b,r.1.blk=some b∨sh.blk=some b→b<base):Ze1 h' eb st tb fm r sh g O E:=by
  have w:sz h≤sz h':=u.size
  refine ⟨(u.old eb (Zr hE.cells) (by omega)).trans hE.cells,Zas hE.rules fun b hb hl=>u.old b hl (by have:=h3 b (.inl hb);omega),hE.l2,hE.l3,hE.l4,hE.l5,Zas hE.shp fun b hb hl=>u.old b hl (by have:=h3 b (.inr hb);omega),hE.tree.congr fun j hj hl=>u.old j hl fun e=>hO (e▸hj),hE.map.congr (u.old fm hE.map.lt (by omega)),fun j hj=>Nat.lt_of_lt_of_le (hE.hO j hj) w,hE.se,hE.sm,hE.em,hE.sr,fun b hb=>Nat.lt_of_lt_of_le (hE.lr b hb) w⟩
theorem ZfS {O O':Nat→Prop} {h h1 h2:Zd} (gr:Zhy O O' h h1) (w:sz h1≤sz h2):Zhy O O' h h2:=⟨fun j hj=>by
  rcases gr.1 j hj with q | q
  ·exact .inl q
  ·exact .inr (by omega),gr.2⟩
theorem Zgt {O O1 O2:Nat→Prop} {h h1 h2 h3:Zd} (g1:Zhy O O1 h h1) (w0:sz h≤sz h2) (w:sz h1≤sz h3) (g2:Zhy O1 O2 h2 h3):Zhy O O2 h h3:=⟨fun j hj=>by
  rcases g2.1 j hj with q | q
  ·rcases g1.1 j q with q | q
   ·exact .inl q
   ·exact .inr (by omega)
  ·exact .inr (by omega),fun j hj=>g2.2 j (g1.2 j hj)⟩
def Zhk (c:C8):Value:= .agg #[iv c.1,.string c.2.1,.string c.2.2.1,.string c.2.2.2.1,.bool c.2.2.2.2.1,iv c.2.2.2.2.2.1,slV nl,.bool false,slV nl]
def Eng.mid (E:Eng) (c:C8):Eng:={ E with t:=E.t.touched c,la:=c.1 }
def Eng.block (E:Eng) (c:C8):Eng:={ E.mid c with t:=(E.mid c).t.blocked c }
def Eng.pass (E:Eng) (c:C8) (m:Nat):Eng:={ E.mid c with t:=(E.mid c).t.passed c,nx:=IntKind.wrap .i64 (E.nx+1),fl:=IntKind.wrap .i64 (E.fl+1),f:=upd E.f E.nx (some (Zhk c)),n:=m }
inductive Entered (E:Eng) (th:Bool) (n:Int) (c:C8) (al:List ByteArray):Eng→Int→(Int × Int × Int × Unit)→Int→Prop
  | bad:Yq E c al≠0→Entered E th n c al E 0 (0,0,0,()) (Yq E c al)
  | block:Yq E c al=0→Zer (E.mid c) th n c=true→Entered E th n c al (E.block c) 0 (4,0,0,()) 0
  | pass (m:Nat):Yq E c al=0→Zer (E.mid c) th n c=false→Entered E th n c al (E.pass c m) E.nx (0,0,0,()) 0
theorem ZnW {h:Zd} {eb st tb fm:Nat} {r:R5} {sh:Sl} {g:Int} {O:Nat→Prop} {E:Eng} (hE:Ze1 h eb st tb fm r sh g O E) {th:Bool} {n:Int} (hfs:E.fs=[Zal th n]) (hn:0≤n∧n≤1099511627776)
    {c:C8} (hz:ZfM c) {al:List ByteArray} (ha:Row h c.2.2.2.2.2.2.1 1 (al.map .string)) (hp:0≤(Zh4 ((E.mid c).t.f (clK c.2.1)) c.1).1∧(Zh4 ((E.mid c).t.f (clK c.2.1)) c.1).1≤4611686018427387904)
    {K:Int→(Int × Int × Int × Unit)→Int→Zd→Prop} (hk:∀ h' O' E' m v e,Entered E th n c al E' m v e→Ze1 h' eb st tb fm r sh g O' E'→Upd (ZlZ eb fm O) h h'→Zhy O O' h h'→K m v e h'):YT (some ⟨eb,0,none⟩) c false K h:=by
  unfold YT Zar
  refine Yg fun h1 c1 e1 z1=>Za (Yg fun h2 c2 e2 z2=>Za (Zi rfl (Zj ?_)))
  have e02:=e1.trans e2
  have x2:=Zl c1 e2
  have E2:=hE.ext e02
  have s1:sz h1=sz h+1:=z1
  have s2:sz h2=sz h1+1:=z2
  refine rI (Zb x2 rfl) (rS (Zb x2 rfl) (rS (Zb x2 rfl) (rS (Zb x2 rfl) (rB (Zb x2 rfl) (rI (Zb x2 rfl) (rL (s:=c.2.2.2.2.2.2.1) (Zb x2 rfl) ?_))))))
  refine ZlN E2 (c:=c) hz (ha.ext e02) fun h3 O3 E3 u3 g3=>Za ?_
  have s3:sz h2≤sz h3:=u3.size
  have nO:∀ j,sz h≤j→¬ O j:=fun j hj h9=>by have:=hE.hO j h9;omega
  have nO3:∀ j,sz h≤j→j<sz h2→¬ O3 j:=fun j hj hl h9=>by
    rcases g3.1 j h9 with q | q
    ·exact nO j hj q
    ·omega
  have x3:obj h3 (sz h)=_:=(u3.old _ (show sz h<sz h2 by omega) (nO _ (Nat.le_refl _))).trans x2
  have y3:obj h3 (sz h1)=_:=(u3.old _ (show sz h1<sz h2 by omega) (nO _ (by omega))).trans c2
  have leb:eb<sz h:=Zr hE.cells
  have lfm:fm<sz h:=hE.map.lt
  have U3:Upd (ZlZ eb fm O) h h3:=((e02.upd _).trans (u3.mono fun j _ hj=> .inr (.inr hj)))
  refine Zdt (fun q=>?_) fun q=>?_
  ·rw [if_neg q] at E3
   refine Za (ZaE y3 fun h4 c4 u4 z4=>Za (rI (Zb c4 rfl) (rI (Zb c4 rfl) (rI (Zb c4 rfl) (hk h4 O3 E 0 (0,0,0,()) _ (.bad q) ?_ ?_ ?_)))))
   ·exact E3.frame u4 (base:=sz h) (by omega) (nO3 _ (by omega) (by omega)) leb lfm hE.lr
   ·exact Zai U3 u4 fun j hj h9=>absurd hj (by omega)
   ·exact ZfS (ZdI e02 g3) (by omega)
  rw [if_pos q] at E3
  refine rI (Zb x3 rfl) (Zj (ZdD E3.cells (show 0+18<19 by decide) rfl fun h4 c4 u4 z4=>Zj ?_))
  have E4:Ze1 h4 eb st tb fm r sh g O3 (E.mid c):=E3.set c4 u4
  have s4:sz h4=sz h3:=z4
  have neb:∀ j,sz h≤j→¬ j=eb:=fun j hj=>by omega
  have x4:obj h4 (sz h)=_:=(u4.old _ (Zr x3) (neb _ (Nat.le_refl _))).trans x3
  have y4:obj h4 (sz h1)=_:=(u4.old _ (Zr y3) (neb _ (by omega))).trans y3
  have U4:Upd (ZlZ eb fm O) h h4:=U3.trans (u4.mono fun j _ hj=> .inl hj)
  refine rI (Zb x4 rfl) (rS (Zb x4 rfl) (rS (Zb x4 rfl) (rS (Zb x4 rfl) (rB (Zb x4 rfl) (rI (Zb x4 rfl) (rL (s:=c.2.2.2.2.2.2.1) (Zb x4 rfl) (Yg fun h5 c5 e5 z5=>?_)))))))
  have x5:=Zl x4 e5
  have s5:sz h5=sz h4+1:=z5
  refine ⟨⟨Zb x5 rfl,Zb x5 rfl,Zb x5 rfl,Zb x5 rfl,Zb x5 rfl,Zb x5 rfl,Zb x5 rfl,trivial⟩,?_⟩
  have w5:obj h5 (sz h4)=some (ZbW eb c false nl nl 0):=c5
  refine ZpN (E4.ext e5) w5 (th:=th) (n:=n) hfs hn hp fun h6 e6=>Yg fun h7 c7 e7 z7=>ZaE c7 fun h8 c8 u8 z8=>Zc ?_
  have e58:Ext h5 h8:=(e6.trans e7).then u8 fun k hk=>by subst hk;exact e6.size
  have e48:=e5.trans e58
  have E8:=E4.ext e48
  have x8:=Zl x4 e48
  have y8:=Zl y4 e48
  have w8:=Zl w5 e58
  have s6:sz h5≤sz h6:=e6.size
  have s7:sz h7=sz h6+1:=z7
  have s8:sz h8=sz h7:=z8
  have U8:Upd (ZlZ eb fm O) h h8:=U4.trans (e48.upd _)
  have g8:Zhy O O3 h h8:=ZfS (ZdI e02 g3) (by omega)
  have n3:∀ j,sz h3≤j→¬ O3 j:=fun j hj h9=>by have:=E4.hO j h9;omega
  have O38:∀ j,O3 j→j<sz h8:=E8.hO
  refine ⟨fun qb=>Zj (rP (Zb E8.cells rfl) ?_),fun qb=>rL (s:=nl) (Zb w8 rfl) (YX (fun p hx=>p=(0,())∧hx=h8) (fun _ _=>0) ⟨rfl,rfl⟩ ?_)⟩
  ·refine rI (Zb x8 rfl) (rS (Zb x8 rfl) (rS (Zb x8 rfl) (rS (Zb x8 rfl) (rB (Zb x8 rfl) (rI (Zb x8 rfl) (rL (s:=c.2.2.2.2.2.2.1) (Zb x8 rfl) ?_))))))
   refine ZiH (c:=c) E8.tree O38 hz fun er h9 O9 t9 u9 g9=>Za ?_
   have E9:=E8.tree' t9 u9 g9
   have s9:sz h8≤sz h9:=u9.size
   have c9:obj h9 (sz h6)=_:=(u9.old _ (Zr c8) (n3 (sz h6) (show sz h3≤sz h6 by omega))).trans c8
   have y9:obj h9 (sz h1)=_:=(u9.old _ (Zr y8) (nO3 _ (by omega) (by omega))).trans y8
   have nO9:∀ j,sz h≤j→j<sz h2→¬ O9 j:=fun j hj hl h99=>by
     rcases g9.1 j h99 with q | q
     ·exact nO3 j hj hl q
     ·omega
   have U9:Upd (ZlZ eb fm O) h h9:=Zai U8 u9 fun j hj h99=>by
     rcases g8.1 j h99 with q | q
     ·exact .inr (.inr q)
     ·omega
   refine rI (Zb c9 rfl) (rI (Zb c9 rfl) (rI (Zb c9 rfl) (ZaE y9 fun h10 c10 u10 z10=>Za ?_)))
   rw [if_pos qb] at c10
   refine rI (Zb c10 rfl) (rI (Zb c10 rfl) (rI (Zb c10 rfl) (hk h10 O9 (E.block c) 0 (4,0,0,()) 0 (.block q qb) ?_ ?_ ?_)))
   ·exact E9.frame u10 (base:=sz h) (by omega) (nO9 _ (by omega) (by omega)) leb lfm hE.lr
   ·exact Zai U9 u10 fun j hj h99=>absurd hj (by omega)
   ·have s10:sz h10=sz h9:=z10
    exact Zgt g8 (by omega) (by omega) (ZfS g9 (by omega))
  ·rintro _ hx ⟨rfl,hx9⟩ Q _
   subst hx9
   dsimp only
   refine Zi rfl (Zj (rP (Zb E8.cells rfl) ?_))
   refine rI (Zb x8 rfl) (rS (Zb x8 rfl) (rS (Zb x8 rfl) (rS (Zb x8 rfl) (rB (Zb x8 rfl) (rI (Zb x8 rfl) (rL (s:=c.2.2.2.2.2.2.1) (Zb x8 rfl) ?_))))))
   refine ZjU (c:=c) E8.tree O38 hz fun er h9 O9 t9 u9 g9=>?_
   have E9:=E8.tree' t9 u9 g9
   have s9:sz hx≤sz h9:=u9.size
   have x9:obj h9 (sz h)=_:=(u9.old _ (Zr x8) (nO3 _ (by omega) (by omega))).trans x8
   have y9:obj h9 (sz h1)=_:=(u9.old _ (Zr y8) (nO3 _ (by omega) (by omega))).trans y8
   have w9:obj h9 (sz h4)=_:=(u9.old _ (Zr w8) (n3 (sz h4) (show sz h3≤sz h4 by omega))).trans w8
   have nO9:∀ j,sz h≤j→j<sz h2→¬ O9 j:=fun j hj hl h99=>by
     rcases g9.1 j h99 with q | q
     ·exact nO3 j hj hl q
     ·omega
   have U9:Upd (ZlZ eb fm O) h h9:=Zai U8 u9 fun j hj h99=>by
     rcases g8.1 j h99 with q | q
     ·exact .inr (.inr q)
     ·omega
   refine ZdD x9 (show 0+6<7 by decide) rfl fun h10 c10 u10 z10=>Zj ?_
   have E10:=E9.frame u10 (base:=sz h) (Nat.le_refl _) (nO9 (sz h) (Nat.le_refl _) (show sz h<sz h2 by omega)) leb lfm hE.lr
   have y10:obj h10 (sz h1)=_:=(u10.old _ (Zr y9) (show ¬ sz h1=sz h by omega)).trans y9
   have w10:obj h10 (sz h4)=_:=(u10.old _ (Zr w9) (show ¬ sz h4=sz h by omega)).trans w9
   have U10:Upd (ZlZ eb fm O) h h10:=Zai U9 u10 fun j hj h99=>by have h98:j=sz h:=h99;omega
   refine rI (Zb E10.cells rfl) (Za (Zj (rI (Zb E10.cells rfl) (Zj (ZdD E10.cells (show 0+17<19 by decide) rfl fun h11 c11 u11 z11=>Zj (rI (Zb c11 rfl) (Zj (ZdD c11 (show 0+16<19 by decide) rfl fun h12 c12 u12 z12=>Zj ?_))))))))
   have u112:Upd (· = eb) h10 h12:=u11.trans u12
   have E12:=E10.set (fl:=IntKind.wrap .i64 (E.fl+1)) (nx:=IntKind.wrap .i64 (E.nx+1)) (la:=c.1) c12 u112
   have x12:obj h12 (sz h)=_:=(u112.old _ (Zr c10) (neb _ (Nat.le_refl _))).trans c10
   have y12:obj h12 (sz h1)=_:=(u112.old _ (Zr y10) (neb _ (by omega))).trans y10
   have w12:obj h12 (sz h4)=_:=(u112.old _ (Zr w10) (neb _ (by omega))).trans w10
   have U12:Upd (ZlZ eb fm O) h h12:=U10.trans (u112.mono fun j _ hj=> .inl hj)
   refine rM (Zb E12.cells rfl) (rI (Zb x12 rfl) (rS (Zb x12 rfl) (rS (Zb x12 rfl) (rS (Zb x12 rfl) (rB (Zb x12 rfl) (rI (Zb x12 rfl) (rL (s:=nl) (Zb x12 rfl) (rL (s:=nl) (Zb w12 rfl) ?_))))))))
   refine E12.map.put E.nx (Zhk c) fun h13 m13 u13 z13=>Za ?_
   have E13:=E12.mapped m13 u13
   have nfm:∀ j,sz h≤j→¬ j=fm:=fun j hj=>by omega
   have y13:obj h13 (sz h1)=_:=(u13.old _ (Zr y12) (nfm _ (by omega))).trans y12
   have w13:obj h13 (sz h4)=_:=(u13.old _ (Zr w12) (nfm _ (by omega))).trans w12
   have U13:Upd (ZlZ eb fm O) h h13:=U12.trans (u13.mono fun j _ hj=> .inr (.inl hj))
   refine rI (Zb w13 rfl) (ZaE y13 fun h14 c14 u14 z14=>Za (rI (Zb c14 rfl) (rI (Zb c14 rfl) (rI (Zb c14 rfl) (hk h14 O9 (E.pass c _) E.nx (0,0,0,()) 0 (.pass _ q qb) (E13.frame u14 (base:=sz h) (by omega) (nO9 _ (by omega) (by omega)) leb lfm hE.lr) ?_ ?_)))))
   ·exact Zai U13 u14 fun j hj h99=>absurd hj (by omega)
   ·have s10:sz h10=sz h9:=z10
    have s12:sz h12=sz h10:=z12.trans z11
    have s13:sz h13=sz h12:=z13
    have s14:sz h14=sz h13:=z14
    exact Zgt g8 (by omega) (by omega) (ZfS g9 (by omega))
theorem ZjZ {h:Zd} {eb st tb fm:Nat} {r:R5} {sh:Sl} {g:Int} {O:Nat→Prop} {E:Eng} (hE:Ze1 h eb st tb fm r sh g O E) {th:Bool} {n:Int} (hfs:E.fs=[Zal th n]) (hn:0≤n∧n≤1099511627776)
    {c:C8} (hz:ZfM c) {al:List ByteArray} (ha:Row h c.2.2.2.2.2.2.1 1 (al.map .string)) (hp:0≤(Zh4 ((E.mid c).t.f (clK c.2.1)) c.1).1∧(Zh4 ((E.mid c).t.f (clK c.2.1)) c.1).1≤4611686018427387904)
    {K:Int→(Int × Int × Int × Unit)→Int→Zd→Prop} (hk:∀ h' O' E' m v e,Entered E th n c al E' m v e→Ze1 h' eb st tb fm r sh g O' E'→Upd (ZlZ eb fm O) h h'→Zhy O O' h h'→K m v e h'):Yr (some ⟨eb,0,none⟩) c K h:=by
  unfold Yr Zaq
  refine Yg fun h1 c1 e1 z1=>Za (Yg fun h2 c2 e2 z2=>Za ?_)
  have x2:=Zl c1 e2
  have e02:=e1.trans e2
  have s1:sz h1=sz h+1:=z1
  have s2:sz h2=sz h1+1:=z2
  refine rI (Zb x2 rfl) (rS (Zb x2 rfl) (rS (Zb x2 rfl) (rS (Zb x2 rfl) (rB (Zb x2 rfl) (rI (Zb x2 rfl) (rL (s:=c.2.2.2.2.2.2.1) (Zb x2 rfl) ?_))))))
  refine ZnW (hE.ext e02) hfs hn (c:=c) hz (ha.ext e02) hp fun h3 O3 E3 m v e hent hE3 u3 g3=>Za ?_
  have leb:eb<sz h:=Zr hE.cells
  have lfm:fm<sz h:=hE.map.lt
  have nx:∀ j,sz h≤j→¬ ZlZ eb fm O j:=fun j hj h9=>by
    rcases h9 with h9 | h9 | h9
    ·omega
    ·omega
    ·have:=hE.hO j h9;omega
  have c3:obj h3 (sz h1)=_:=(u3.old (sz h1) (Zr c2) (nx (sz h1) (show sz h≤sz h1 by omega))).trans c2
  refine ZaE c3 fun h4 c4 u4 z4=>Za (rI (Zb c4 rfl) (rI (Zb c4 rfl) (rI (Zb c4 rfl) ?_)))
  have s3:sz h2≤sz h3:=u3.size
  have s4:sz h4=sz h3:=z4
  obtain ⟨v1,v2,v3,v4⟩:=v
  refine hk h4 O3 E3 m _ e hent (hE3.frame u4 (base:=sz h) (by omega) (fun h9=>?_) leb lfm hE.lr) ?_ (ZfS (ZdI e02 g3) (by omega))
  ·rcases g3.1 _ h9 with q | q
   ·have:=hE.hO _ q;omega
   ·have:sz h2≤sz h1:=q.1
    omega
  ·exact Zai ((e02.upd _).trans u3) u4 fun j hj h99=>by have h98:j=sz h1:=h99;omega
theorem Zie:∀ (l:List K4) (t:Tree) (k:K4),(t.f k=none∧k∉l∧(t.makes l).f k=none)∨(t.f k=none∧k∈l∧(t.makes l).f k=some Node.zero)∨∃ n,t.f k=some n∧(t.makes l).f k=some n
  | [],t,k=>by
    cases h:t.f k with
    | none=>exact .inl ⟨rfl,by simp,h⟩
    | some n=>exact .inr (.inr ⟨n,rfl,h⟩)
  | x::l,t,k=>by
    have ih:=Zie l (t.make x) k
    show _∨(_∧_∧((t.make x).makes l).f k=_)∨∃ n,_∧((t.make x).makes l).f k=_
    by_cases e:k=x
    ·subst e
     cases h:t.f k with
     | none =>
       have hm:(t.make k).f k=some Node.zero:=by unfold Tree.make;rw [h];exact if_pos rfl
       rcases ih with ⟨q,_⟩ | ⟨q,_⟩ | ⟨n,q1,q2⟩
       ·rw [hm] at q;cases q
       ·rw [hm] at q;cases q
       ·rw [hm] at q1;cases q1
        exact .inr (.inl ⟨rfl,by simp,q2⟩)
     | some n =>
       have hm:(t.make k).f k=some n:=by unfold Tree.make;rw [h];exact h
       rcases ih with ⟨q,_⟩ | ⟨q,_⟩ | ⟨n2,q1,q2⟩
       ·rw [hm] at q;cases q
       ·rw [hm] at q;cases q
       ·rw [hm] at q1;cases q1
        exact .inr (.inr ⟨n,rfl,q2⟩)
    ·have hm:(t.make x).f k=t.f k:=by
       unfold Tree.make
       split
       ·rfl
       ·exact if_neg e
     rw [hm] at ih
     rcases ih with ⟨q1,q2,q3⟩ | ⟨q1,q2,q3⟩ | ⟨n,q1,q2⟩
     ·exact .inl ⟨q1,by simp [e,q2],q3⟩
     ·exact .inr (.inl ⟨q1,List.mem_cons_of_mem _ q2,q3⟩)
     ·exact .inr (.inr ⟨n,q1,q2⟩)
theorem Zjp:∀ (l:List K4) (t:Tree),l.Nodup→t.room l→(t.makes l).keys.length≤512∧(t.makes l).last=t.last
  | [],t,_,hr=>⟨by show t.keys.length≤512;unfold Tree.room Tree.freshN at hr;simpa using hr,rfl⟩
  | x::l,t,hd,hr=>by
    have hx:=List.nodup_cons.1 hd
    obtain ⟨_,h2⟩:=ZhV hr hx.1
    obtain ⟨a,b⟩:=Zjp l (t.make x) hx.2 h2
    refine ⟨a,b.trans ?_⟩
    unfold Tree.make
    split<;>rfl
theorem Zti {t:Tree} {k:K4} {n:Node} (h:t.f k=some n):t.make k=t:=by unfold Tree.make;rw [h]
theorem Zpo (g:Node→Node):∀ (l:List K4) (t:Tree),l.Nodup→(∀ k∈l,∃ n,t.f k=some n)→(t.steps g l).keys=t.keys∧∀ k,(k∈l→(t.steps g l).f k=(t.f k).map g)∧(k∉l→(t.steps g l).f k=t.f k)
  | [],t,_,_=>⟨rfl,fun k=>⟨fun h=>absurd h (by simp),fun _=>rfl⟩⟩
  | x::l,t,hd,hx=>by
    have hx1:=List.nodup_cons.1 hd
    obtain ⟨n,hn⟩:=hx x (List.mem_cons_self ..)
    have e1:(t.make x).on x g=t.put x (g n):=by rw [Zti hn];unfold Tree.on;rw [hn]
    have hf:∀ k,(t.put x (g n)).f k=if k=x then some (g n) else t.f k:=fun k=>rfl
    obtain ⟨a,b⟩:=Zpo g l (t.put x (g n)) hx1.2 fun k hk=>by
      obtain ⟨n2,h2⟩:=hx k (List.mem_cons_of_mem _ hk)
      rw [hf]
      by_cases e:k=x
      ·exact ⟨_,if_pos e⟩
      ·exact ⟨n2,(if_neg e).trans h2⟩
    show (Tree.steps g l ((t.make x).on x g)).keys=_∧∀ k,(k∈x::l→(Tree.steps g l ((t.make x).on x g)).f k=_)∧(k∉x::l→(Tree.steps g l ((t.make x).on x g)).f k=_)
    rw [e1]
    refine ⟨a,fun k=>⟨fun hk=>?_,fun hk=>?_⟩⟩
    ·by_cases e:k=x
     ·subst e
      rw [(b k).2 hx1.1,hf,if_pos rfl,hn]
      rfl
     ·have:k∈l:=by
        rcases List.mem_cons.1 hk with h | h
        ·exact absurd h e
        ·exact h
      rw [(b k).1 this,hf,if_neg e]
    ·have h1:k≠x:=fun e=>hk (by rw [e];exact List.mem_cons_self ..)
     have h2:k∉l:=fun h=>hk (List.mem_cons_of_mem _ h)
     rw [(b k).2 h2,hf,if_neg h1]
structure ZeX (la fl:Int) (n:Node):Prop where
  last:n.last≤la
  fl:0≤n.fl∧n.fl≤fl
  rt:∀ i,Rt (n.s i)
structure Zht (E:Eng) (m:Nat):Prop where
  keys:E.t.keys.length≤512
  tl:E.t.last≤E.la
  la:0≤E.la
  nodes:∀ k n,E.t.f k=some n→ZeX E.la E.fl n
  fl:0≤E.fl∧E.fl≤m
  nx:1≤E.nx∧E.nx≤m+1
structure Zrp (E:Eng) (c:C8):Prop where
  k:Zen c=0
  at_:0≤c.1∧c.1≤1152921504606846976
  cnt:1≤c.2.2.2.2.2.1∧c.2.2.2.2.2.1≤1099511627776
  la:E.la≤c.1
  fl:E.fl<4096
  room:E.t.room (Z1 c)
theorem ZeN {E:Eng} {c:C8} {al:List ByteArray} (h:Yq E c al=0):Zrp E c:=by
  unfold Yq at h
  by_cases q1:Zen c=0
  case neg=>rw [if_pos q1] at h;exact absurd h q1
  rw [if_neg (fun h9=>h9 q1)] at h
  by_cases q2:0≤c.1∧c.1≤1152921504606846976
  case neg=>rw [if_pos q2] at h;cases h
  rw [if_neg (fun h9=>h9 q2)] at h
  by_cases q3:1≤c.2.2.2.2.2.1∧c.2.2.2.2.2.1≤1099511627776
  case neg=>rw [if_pos q3] at h;cases h
  rw [if_neg (fun h9=>h9 q3)] at h
  by_cases q4:8<al.length
  ·rw [if_pos q4] at h;cases h
  rw [if_neg q4] at h
  by_cases q5:Zfy al=true
  ·rw [if_pos q5] at h;cases h
  rw [if_neg q5] at h
  by_cases q6:c.1<E.la
  ·rw [if_pos q6] at h;cases h
  rw [if_neg q6] at h
  by_cases q7:4096≤E.fl
  ·rw [if_pos q7] at h;cases h
  rw [if_neg q7] at h
  unfold Tree.touchE at h
  rw [if_neg (fun h9=>h9 q1)] at h
  by_cases q8:E.t.room (Z1 c)
  case neg=>rw [if_pos q8] at h;cases h
  exact ⟨q1,q2,q3,by omega,by omega,q8⟩
theorem Zvz {E:Eng} {c:C8} (hF:Zrp E c):(E.mid c).t=E.t.makes (Z1 c):=by
  have:E.t.touchE c=0:=by unfold Tree.touchE;rw [if_neg (fun h9=>h9 hF.k),if_neg (fun h9=>h9 hF.room)]
  show E.t.touched c=_
  unfold Tree.touched
  rw [if_pos this]
theorem ZsR {la fl:Int} (h1:0≤la) (h2:0≤fl):ZeX la fl Node.zero:=⟨h1,⟨Int.le_refl _,h2⟩,fun _=>Rt.zero⟩
theorem ZeX.mono {la fl la' fl':Int} {n:Node} (h:ZeX la fl n) (h1:la≤la') (h2:fl≤fl'):ZeX la' fl' n:=⟨by have:=h.last;omega,by have:=h.fl;omega,h.rt⟩
theorem Zjo {E:Eng} {m:Nat} (h:Zht E m) {c:C8} (hF:Zrp E c):Zht (E.mid c) m∧∀ k∈Z1 c,∃ n,(E.mid c).t.f k=some n:=by
  have e:=Zvz hF
  have hk:=Zjp (Z1 c) E.t (Zdx c) hF.room
  have hla:=hF.la
  have h0:=h.la
  refine ⟨⟨by rw [e];exact hk.1,by rw [e,hk.2];exact Int.le_trans h.tl hF.la,hF.at_.1,fun k n hn=>?_,h.fl,h.nx⟩,fun k hk=>?_⟩
  ·rw [e] at hn
   rcases Zie (Z1 c) E.t k with ⟨_,_,q⟩ | ⟨_,_,q⟩ | ⟨n2,q1,q2⟩
   ·rw [q] at hn;cases hn
   ·rw [q] at hn;cases hn;exact ZsR hF.at_.1 h.fl.1
   ·rw [q2] at hn;cases hn;exact (h.nodes k n q1).mono hF.la (Int.le_refl _)
  ·rw [e]
   rcases Zie (Z1 c) E.t k with ⟨_,q,_⟩ | ⟨_,_,q⟩ | ⟨n2,q1,q2⟩
   ·exact absurd hk q
   ·exact ⟨_,q⟩
   ·exact ⟨_,q2⟩
theorem ZiD {t:Tree}:∀ {l:List K4},(∀ k∈l,∃ n,t.f k=some n)→t.freshN l=0
  | [],_=>rfl
  | k::l,h=>by
    obtain ⟨n,hn⟩:=h k (List.mem_cons_self ..)
    rw [ZjC,ZiD fun j hj=>h j (List.mem_cons_of_mem _ hj)]
    have:t.isNew k=false:=by unfold Tree.isNew;rw [hn];rfl
    rw [this];rfl
theorem Znl {E:Eng} {m:Nat} {c:C8} (hF:Zrp E c) (hO:Zht (E.mid c) m) (hl:(E.mid c).fl<4096) (hk:∀ k∈Z1 c,∃ n,(E.mid c).t.f k=some n) (full:Bool):(E.mid c).t.noteE c full=0:=by
  have hr:(E.mid c).t.room (Z1 c):=by unfold Tree.room;rw [ZiD hk];exact hO.keys
  have hnf:¬ (full=true∧(Z1 c).any (E.mid c).t.full=true):=fun h=>by
    obtain ⟨k,hk9,hf⟩:=List.any_eq_true.1 h.2
    obtain ⟨n,hn⟩:=hk k hk9
    unfold Tree.full at hf
    rw [hn] at hf
    have:=(hO.nodes k n hn).fl
    simp at hf
    omega
  have htl:¬ c.1<(E.mid c).t.last:=by have:=hO.tl;show ¬ c.1<_;have:(E.mid c).la=c.1:=rfl;omega
  unfold Tree.noteE
  rw [if_neg (fun h9=>h9 hF.k),if_neg (fun h9=>h9 hF.at_),if_neg (fun h9=>h9 hF.cnt),if_neg htl,if_neg (fun h9=>h9 hr),if_neg hnf]
theorem Zh5 {E:Eng} {m:Nat} {c:C8} (hF:Zrp E c) (hO:Zht (E.mid c) m) (hl:(E.mid c).fl<4096) (hk:∀ k∈Z1 c,∃ n,(E.mid c).t.f k=some n) (full:Bool) (g:Node→Node) :
    ((E.mid c).t.noted c full g).keys=(E.mid c).t.keys∧((E.mid c).t.noted c full g).last=c.1∧∀ k,(k∈Z1 c→((E.mid c).t.noted c full g).f k=((E.mid c).t.f k).map g)∧(k∉Z1 c→((E.mid c).t.noted c full g).f k=(E.mid c).t.f k):=by
  unfold Tree.noted
  rw [if_pos (Znl hF hO hl hk full)]
  obtain ⟨a,b⟩:=Zpo g (Z1 c) (E.mid c).t (Zdx c) hk
  exact ⟨a,rfl,b⟩
theorem ZfG {n:Node} {c:C8} {fl:Int} (hF1:0≤c.1∧c.1≤1152921504606846976) (hF2:1≤c.2.2.2.2.2.1∧c.2.2.2.2.2.1≤1099511627776) (hn:ZeX c.1 fl n) (hl:fl<4096):Xx n.last c.1 c.2.2.2.2.2.1=0∧Zpy n c.1 c.2.2.2.2.2.1=0:=by
  have h1:Xx n.last c.1 c.2.2.2.2.2.1=0:=by
    have:=hn.last
    unfold Xx
    rw [if_neg (by omega),if_neg (by omega),if_neg (by omega)]
  refine ⟨h1,?_⟩
  have:=hn.fl
  unfold Zpy
  rw [if_pos h1,if_neg (by omega)]
theorem ZrU {n:Node} {la fl:Int} (hn:ZeX la fl n) {x:C6} (hx:Rt x) {at_:Int}:∀ i,Rt ((n.add at_ x).s i):=fun i=>by
  show Rt (if i=bkt .sec at_ then Zgb (n.s i) x else n.s i)
  split
  ·exact (hn.rt i).two hx
  ·exact hn.rt i
theorem Zs5 {n:Node} {c:C8} {fl:Int} (hF1:0≤c.1∧c.1≤1152921504606846976) (hF2:1≤c.2.2.2.2.2.1∧c.2.2.2.2.2.1≤1099511627776) (hn:ZeX c.1 fl n) (hl:fl<4096):ZeX c.1 (fl+1) (n.passed c.1 c.2.2.2.2.2.1):=by
  unfold Node.passed
  rw [if_pos (ZfG hF1 hF2 hn hl).2]
  have:=hn.fl
  exact ⟨Int.le_refl _,⟨by show 0≤n.fl+1;omega,by show n.fl+1≤_;omega⟩,ZrU hn (Rt.pass hF2)⟩
theorem Zrj {n:Node} {c:C8} {fl:Int} (hF1:0≤c.1∧c.1≤1152921504606846976) (hF2:1≤c.2.2.2.2.2.1∧c.2.2.2.2.2.1≤1099511627776) (hn:ZeX c.1 fl n) (hl:fl<4096):ZeX c.1 fl (n.blocked c.1 c.2.2.2.2.2.1):=by
  unfold Node.blocked
  rw [if_pos (ZfG hF1 hF2 hn hl).1]
  exact ⟨Int.le_refl _,hn.fl,ZrU hn (Rt.block hF2)⟩
theorem ZnG {E E':Eng} {m:Nat} (h:Zht E m) (hm:m≤4000) {th:Bool} {n:Int} {c:C8} {al:List ByteArray} {k:Int} {v:Int × Int × Int × Unit} {e:Int} (hE:Entered E th n c al E' k v e):Zht E' (m+1):=by
  have hfl:=h.fl
  have hnx:=h.nx
  cases hE with
  | bad q=>exact ⟨h.keys,h.tl,h.la,h.nodes,by omega,by omega⟩
  | block q qb =>
    have hF:=ZeN q
    obtain ⟨hO,hk⟩:=Zjo h hF
    have hl:(E.mid c).fl<4096:=hF.fl
    obtain ⟨a,b,d⟩:=Zh5 hF hO hl hk false fun n=>n.blocked c.1 c.2.2.2.2.2.1
    refine ⟨by show ((E.mid c).t.blocked c).keys.length≤512;unfold Tree.blocked;rw [a];exact hO.keys,by show ((E.mid c).t.blocked c).last≤c.1;unfold Tree.blocked;rw [b];exact Int.le_refl _,hF.at_.1,fun k2 n2 hn2=>?_,⟨hfl.1,by show E.fl≤_;omega⟩,⟨hnx.1,by show E.nx≤_;omega⟩⟩
    have hn2':((E.mid c).t.noted c false fun n=>n.blocked c.1 c.2.2.2.2.2.1).f k2=some n2:=hn2
    by_cases hkm:k2∈Z1 c
    ·rw [(d k2).1 hkm] at hn2'
     obtain ⟨n3,hn3⟩:=hk k2 hkm
     rw [hn3] at hn2'
     cases hn2'
     exact Zrj hF.at_ hF.cnt (hO.nodes k2 n3 hn3) hl
    ·rw [(d k2).2 hkm] at hn2'
     exact hO.nodes k2 n2 hn2'
  | pass m2 q qb =>
    have hF:=ZeN q
    obtain ⟨hO,hk⟩:=Zjo h hF
    have hl:(E.mid c).fl<4096:=hF.fl
    obtain ⟨a,b,d⟩:=Zh5 hF hO hl hk true fun n=>n.passed c.1 c.2.2.2.2.2.1
    have e1:IntKind.wrap .i64 (E.fl+1)=E.fl+1:=XH (by omega) (by omega)
    have e2:IntKind.wrap .i64 (E.nx+1)=E.nx+1:=XH (by omega) (by omega)
    refine ⟨by show ((E.mid c).t.passed c).keys.length≤512;unfold Tree.passed;rw [a];exact hO.keys,by show ((E.mid c).t.passed c).last≤c.1;unfold Tree.passed;rw [b];exact Int.le_refl _,hF.at_.1,fun k2 n2 hn2=>?_,?_,?_⟩
    ·have hn2':((E.mid c).t.noted c true fun n=>n.passed c.1 c.2.2.2.2.2.1).f k2=some n2:=hn2
     show ZeX c.1 (IntKind.wrap .i64 (E.fl+1)) n2
     rw [e1]
     by_cases hkm:k2∈Z1 c
     ·rw [(d k2).1 hkm] at hn2'
      obtain ⟨n3,hn3⟩:=hk k2 hkm
      rw [hn3] at hn2'
      cases hn2'
      exact Zs5 hF.at_ hF.cnt (hO.nodes k2 n3 hn3) hl
     ·rw [(d k2).2 hkm] at hn2'
      exact (hO.nodes k2 n2 hn2').mono (Int.le_refl _) (by show E.fl≤E.fl+1;omega)
    ·show 0≤IntKind.wrap .i64 (E.fl+1)∧IntKind.wrap .i64 (E.fl+1)≤_
     rw [e1];omega
    ·show 1≤IntKind.wrap .i64 (E.nx+1)∧IntKind.wrap .i64 (E.nx+1)≤_
     rw [e2];omega
abbrev Ps:=List (Int × Int)
def sm (P:Int→Bool):Ps→Int
  | []=>0
  | p::ps=>(if P p.1=true then p.2 else 0)+sm P ps
theorem Zps (P:Int→Bool) (p:Int × Int):∀ ps:Ps,sm P (ps++[p])=sm P ps+(if P p.1=true then p.2 else 0)
  | []=>by simp [sm]
  | q::ps=>by
    show _+sm P (ps++[p])=_+sm P ps+_
    rw [Zps P p ps];omega
theorem Zpr {P:Int→Bool}:∀ {ps:Ps},(∀ p∈ps,0≤p.2)→0≤sm P ps
  | [],_=>Int.le_refl _
  | q::ps,h=>by
    have h1:=h q (List.mem_cons_self ..)
    have h2:=Zpr (P:=P) fun p hp=>h p (List.mem_cons_of_mem q hp)
    show 0≤(if P q.1=true then q.2 else 0)+sm P ps
    split<;>omega
theorem ZhL {P Q:Int→Bool}:∀ {ps:Ps},(∀ p∈ps,0≤p.2)→(∀ p∈ps,P p.1=true→Q p.1=true)→sm P ps≤sm Q ps
  | [],_,_=>Int.le_refl _
  | q::ps,h,hi=>by
    have h1:=h q (List.mem_cons_self ..)
    have h2:=ZhL (P:=P) (Q:=Q) (fun p hp=>h p (List.mem_cons_of_mem q hp)) fun p hp=>hi p (List.mem_cons_of_mem q hp)
    have h3:=hi q (List.mem_cons_self ..)
    show (if P q.1=true then q.2 else 0)+sm P ps≤(if Q q.1=true then q.2 else 0)+sm Q ps
    by_cases e:P q.1=true
    ·rw [if_pos e,if_pos (h3 e)];omega
    ·rw [if_neg e];split<;>omega
theorem ZrG {P Q R:Int→Bool} (hR:∀ x,R x=(P x||Q x)) (hd:∀ x,¬ (P x=true∧Q x=true)):∀ ps:Ps,sm R ps=sm P ps+sm Q ps
  | []=>rfl
  | q::ps=>by
    show (if R q.1=true then q.2 else 0)+sm R ps=(if P q.1=true then q.2 else 0)+sm P ps+((if Q q.1=true then q.2 else 0)+sm Q ps)
    rw [ZrG hR hd ps,hR]
    have:=hd q.1
    cases h1:P q.1<;>cases h2:Q q.1<;>simp [h1,h2] at this ⊢ <;> omega
theorem Zpq {P:Int→Bool} (h:∀ x,P x=false):∀ ps:Ps,sm P ps=0
  | []=>rfl
  | q::ps=>by show (if P q.1=true then q.2 else 0)+sm P ps=0;rw [Zpq h ps,h];rfl
theorem Zkc {P:Int→Bool} {b:Int} (hb:0≤b):∀ {ps:Ps},(∀ p∈ps,0≤p.2∧p.2≤b)→sm P ps≤b*ps.length
  | [],_=>by simp [sm]
  | q::ps,h=>by
    have h1:=h q (List.mem_cons_self ..)
    have h2:=Zkc (P:=P) hb fun p hp=>h p (List.mem_cons_of_mem q hp)
    show (if P q.1=true then q.2 else 0)+sm P ps≤_
    rw [List.length_cons,Int.natCast_add,Int.mul_add]
    split<;>omega
abbrev bs (t:Int):Int:=bkt .sec t
theorem ZhK {p:Int→C6} {ps:Ps} (hp:∀ i,(p i).1=sm (fun t=>decide (bs t=i)) ps) (hpos:∀ q∈ps,0≤q.2) (ht:sm (fun _=>true) ps≤4611686018427387904) (lo:Int) :
    ∀ k:Nat,(ZgK p lo (lo+k)).1=sm (fun t=>decide (lo≤bs t∧bs t<lo+k)) ps
  | 0=>by
    rw [show lo+((0:Nat):Int)=lo from by omega,Zhu,Zpq fun x=>decide_eq_false (by omega)]
    rfl
  | k+1=>by
    have ih:=ZhK hp hpos ht lo k
    rw [show lo+((k+1:Nat):Int)=lo+k+1 from by omega,Zeg p (by omega)]
    show Zfb (ZgK p lo (lo+k)).1 (p (lo+k)).1=_
    rw [ih,hp]
    have h1:=ZrG (P:=fun t=>decide (lo≤bs t∧bs t<lo+k)) (Q:=fun t=>decide (bs t=lo+k)) (R:=fun t=>decide (lo≤bs t∧bs t<lo+k+1)) (fun x=>by rw [← Bool.decide_or];exact decide_eq_decide.2 (by omega)) (fun x h=>by simp at h;omega) ps
    have h2:=ZhL (P:=fun t=>decide (lo≤bs t∧bs t<lo+k+1)) (Q:=fun _=>true) hpos fun _ _ _=>rfl
    have h3:=Zpr (P:=fun t=>decide (lo≤bs t∧bs t<lo+k)) hpos
    have h4:=Zpr (P:=fun t=>decide (bs t=lo+k)) hpos
    rw [Zbf (by omega) (by omega)]
    omega
def ZkB (E:Eng) (i:Int):Int:=match E.t.f (clK sA) with
  | some n=>(n.s i).1
  | none=>0
abbrev since (t:Int):Int→Bool:=fun x=>decide (loW .sec t≤bs x)
structure ZeU (E:Eng) (n:Int) (ps:Ps):Prop where
  cnt:∀ i,ZkB E i=sm (fun t=>decide (bs t=i)) ps
  pos:∀ p∈ps,0≤p.1∧p.1≤E.la∧1≤p.2∧p.2≤1099511627776
  win:∀ t,E.la≤t→sm (since t) ps≤n
theorem ZgX {E:Eng} {c:C8} (hF:Zrp E c) (i:Int):ZkB (E.mid c) i=ZkB E i:=by
  have e:=Zvz hF
  unfold ZkB
  rw [e]
  rcases Zie (Z1 c) E.t (clK sA) with ⟨q1,_,q2⟩ | ⟨q1,_,q2⟩ | ⟨n,q1,q2⟩<;>rw [q1,q2]
  rfl
theorem Zlz {c:C8}:clK sA∈Z1 c↔sA=c.2.1:=by
  unfold Z1 Znu ZtH clK
  constructor
  ·intro h
   split at h<;>split at h<;>simp at h<;>exact h
  ·intro h
   rw [← h]
   simp
theorem Zjj {E:Eng} {m:Nat} {n:Int} {ps:Ps} {c:C8} (hF:Zrp E c) (hO:Zht (E.mid c) m) (hC:ZeU E n ps) (hl:ps.length≤4000):(Zh4 ((E.mid c).t.f (clK sA)) c.1).1=sm (since c.1) ps:=by
  have hpos:∀ q∈ps,0≤q.2:=fun q hq=>by have:=(hC.pos q hq).2.2;omega
  have ht:sm (fun _=>true) ps≤4611686018427387904:=by
    have:=Zkc (P:=fun _=>true) (b:=1099511627776) (by decide) (ps:=ps) fun p hp=>by have:=(hC.pos p hp).2.2;omega
    omega
  have hcnt:∀ i,ZkB (E.mid c) i=sm (fun t=>decide (bs t=i)) ps:=fun i=>(ZgX hF i).trans (hC.cnt i)
  unfold ZkB at hcnt
  cases hf:(E.mid c).t.f (clK sA) with
  | none =>
    rw [hf] at hcnt
    have h0:ps=[]:=by
      cases ps with
      | nil=>rfl
      | cons q ps =>
        have h1:=hcnt (bs q.1)
        have h2:=Zpr (P:=fun t=>decide (bs t=bs q.1)) (ps:=ps) fun p hp=>hpos p (List.mem_cons_of_mem q hp)
        have h3:=(hC.pos q (List.mem_cons_self ..)).2.2
        have h4:sm (fun t=>decide (bs t=bs q.1)) (q::ps)=q.2+sm (fun t=>decide (bs t=bs q.1)) ps:=by show (if decide (bs q.1=bs q.1)=true then q.2 else 0)+_=_;rw [decide_eq_true rfl];rfl
        simp only at h1
        omega
    rw [h0]
    rfl
  | some nd =>
    rw [hf] at hcnt
    have hnl:=(hO.nodes _ nd hf).last
    have hwe:Yw nd.last c.1=0:=by
      have:=hF.at_
      have h9:(E.mid c).la=c.1:=rfl
      unfold Yw
      rw [if_neg (by omega),if_neg (by omega),if_neg (by omega)]
    show (nd.sum c.1).1=_
    unfold Node.sum
    rw [if_pos hwe]
    unfold Win.sum
    have hlo:loW .sec c.1≤bkt .sec c.1+1:=by
      have:=Zfx (k:= .sec) hF.at_.1 hF.at_.2
      have:(Wid.sec).cnt=10:=rfl
      unfold loW
      omega
    have:=ZhK (p:=nd.s) hcnt hpos ht (loW .sec c.1) (bkt .sec c.1+1 - loW .sec c.1).toNat
    rw [show loW .sec c.1+((bkt .sec c.1+1 - loW .sec c.1).toNat:Int)=bkt .sec c.1+1 from by omega] at this
    rw [show (⟨nd.last,nd.s⟩:Win).p=nd.s from rfl,this]
    refine Int.le_antisymm (ZhL hpos fun p _ h=>?_) (ZhL hpos fun p hp h=>?_)
    ·simp at h ⊢;exact h.1
    ·simp at h ⊢
     have h1:=(hC.pos p hp).2.1
     have h2:bs p.1≤bkt .sec c.1:=ZhA (by have:=hF.la;omega)
     exact ⟨h,by omega⟩
theorem Zna {s t:Int} (h:s≤t) {x:Int} (hx:since t x=true):since s x=true:=by
  have h1:=ZhA (k:= .sec) h
  unfold since loW at *
  simp only [decide_eq_true_eq] at *
  omega
theorem ZeU.later {E E':Eng} {n:Int} {ps:Ps} (hC:ZeU E n ps) (hla:E.la≤E'.la) (hc:∀ i,ZkB E' i=ZkB E i):ZeU E' n ps :=
  ⟨fun i=>(hc i).trans (hC.cnt i),fun p hp=>by have:=hC.pos p hp;omega,fun t ht=>hC.win t (by omega)⟩
theorem Zqb {nd:Node} {x:C6} {at_:Int} (hn:∀ i,0≤(nd.s i).1∧(nd.s i).1≤4503599627370496) (hx:0≤x.1∧x.1≤1099511627776) (i:Int):((nd.add at_ x).s i).1=(nd.s i).1+(if bs at_=i then x.1 else 0):=by
  show (if i=bkt .sec at_ then Zgb (nd.s i) x else nd.s i).1=_
  have:=hn i
  by_cases e:i=bkt .sec at_
  ·rw [if_pos e,if_pos e.symm]
   show Zfb (nd.s i).1 x.1=_
   rw [Zbf (by omega) (by omega)]
   omega
  ·rw [if_neg e,if_neg (fun h=>e h.symm)];omega
theorem Ziu {E E':Eng} {m:Nat} (h:Zht E m) (hm:m≤4000) {n:Int} {ps:Ps} (hC:ZeU E n ps) (hl:ps.length≤m) {c:C8} {al:List ByteArray} {k:Int} {v:Int × Int × Int × Unit} {e:Int} (hE:Entered E false n c al E' k v e) :
    (e≠0∧E'=E)∨(e=0∧Zrp E c∧E'.la=c.1∧((k>0∧v.1=0∧ZeU E' n (if sA=c.2.1 then ps++[(c.1,c.2.2.2.2.2.1)] else ps))∨(k=0∧v.1=4∧sA=c.2.1∧ZeU E' n ps))):=by
  have hnx:=h.nx
  have hbnd:∀ i,0≤ZkB E i∧ZkB E i≤4503599627370496:=fun i=>by
    rw [hC.cnt i]
    have h1:=Zpr (P:=fun t=>decide (bs t=i)) (ps:=ps) fun q hq=>by have:=(hC.pos q hq).2.2;omega
    have h2:=Zkc (P:=fun t=>decide (bs t=i)) (b:=1099511627776) (by decide) (ps:=ps) fun p hp=>by have:=(hC.pos p hp).2.2;omega
    omega
  cases hE with
  | bad q=>exact .inl ⟨q,rfl⟩
  | block q qb =>
    have hF:=ZeN q
    obtain ⟨hO,hk⟩:=Zjo h hF
    have hlf:(E.mid c).fl<4096:=hF.fl
    obtain ⟨a,b,d⟩:=Zh5 hF hO hlf hk false fun n=>n.blocked c.1 c.2.2.2.2.2.1
    have hs:sA=c.2.1:=by unfold Zer at qb;simp at qb;exact qb.1
    refine .inr ⟨rfl,hF,rfl,.inr ⟨rfl,rfl,hs,hC.later hF.la fun i=>?_⟩⟩
    rw [← ZgX hF i]
    have hbi:=hbnd
    obtain ⟨nd,hnd⟩:=hk (clK sA) (Zlz.2 hs)
    have hf:(E.block c).t.f (clK sA)=some (nd.blocked c.1 c.2.2.2.2.2.1):=by
      have:=(d (clK sA)).1 (Zlz.2 hs)
      rw [hnd] at this
      exact this
    have hcm:∀ i,ZkB (E.mid c) i=(nd.s i).1:=fun i=>by unfold ZkB;rw [hnd]
    have hce:ZkB (E.block c) i=((nd.blocked c.1 c.2.2.2.2.2.1).s i).1:=by unfold ZkB;rw [hf]
    rw [hce,hcm]
    have hb:nd.blocked c.1 c.2.2.2.2.2.1=nd.add c.1 (ZfT c.2.2.2.2.2.1):=by unfold Node.blocked;rw [if_pos (ZfG hF.at_ hF.cnt (hO.nodes _ nd hnd) hlf).1]
    rw [hb,Zqb (fun i=>by rw [← hcm,ZgX hF];exact hbi i) (show 0≤(0:Int)∧(0:Int)≤1099511627776 by decide)]
    show _+(if _ then (0:Int) else 0)=_
    split<;>omega
  | pass m2 q qb =>
    have hF:=ZeN q
    obtain ⟨hO,hk⟩:=Zjo h hF
    have hlf:(E.mid c).fl<4096:=hF.fl
    obtain ⟨a,b,d⟩:=Zh5 hF hO hlf hk true fun n=>n.passed c.1 c.2.2.2.2.2.1
    refine .inr ⟨rfl,hF,rfl,.inl ⟨by omega,rfl,?_⟩⟩
    by_cases hs:sA=c.2.1
    case neg =>
      rw [if_neg hs]
      refine hC.later hF.la fun i=>?_
      rw [← ZgX hF i]
      have:(E.pass c m2).t.f (clK sA)=(E.mid c).t.f (clK sA):=(d (clK sA)).2 fun h9=>hs (Zlz.1 h9)
      unfold ZkB
      rw [this]
    rw [if_pos hs]
    obtain ⟨nd,hnd⟩:=hk (clK sA) (Zlz.2 hs)
    have hf:(E.pass c m2).t.f (clK sA)=some (nd.passed c.1 c.2.2.2.2.2.1):=by
      have:=(d (clK sA)).1 (Zlz.2 hs)
      rw [hnd] at this
      exact this
    have hcm:∀ i,ZkB (E.mid c) i=(nd.s i).1:=fun i=>by unfold ZkB;rw [hnd]
    have hb:(nd.passed c.1 c.2.2.2.2.2.1).s=(nd.add c.1 (Zh2 c.2.2.2.2.2.1)).s:=by unfold Node.passed;rw [if_pos (ZfG hF.at_ hF.cnt (hO.nodes _ nd hnd) hlf).2]
    have hpos:∀ q∈ps,0≤q.2:=fun q hq=>by have:=(hC.pos q hq).2.2;omega
    have hct:=hF.cnt
    have hla:=hF.la
    have hsum:=Zjj hF hO hC (by omega)
    have hpass:c.2.2.2.2.2.1≤n - sm (since c.1) ps:=by
      unfold Zer at qb
      rw [decide_eq_true hs,Bool.true_and] at qb
      have qb':Zh3 false n (Zh4 ((E.mid c).t.f (clK c.2.1)) c.1).1 (oFl ((E.mid c).t.f (clK c.2.1))) c.2.2.2.2.2.1=true:=by simpa using qb
      rw [← hs,hsum] at qb'
      unfold Zh3 at qb'
      simpa using qb'
    refine ⟨fun i=>?_,fun p hp=>?_,fun t ht=>?_⟩
    ·have hce:ZkB (E.pass c m2) i=((nd.passed c.1 c.2.2.2.2.2.1).s i).1:=by unfold ZkB;rw [hf]
     rw [hce,hb,Zqb (fun i=>by rw [← hcm,ZgX hF];exact hbnd i) (by show 0≤c.2.2.2.2.2.1∧c.2.2.2.2.2.1≤_;omega),← hcm,ZgX hF,hC.cnt i,Zps]
     show _+(if bs c.1=i then c.2.2.2.2.2.1 else 0)=_+(if decide (bs c.1=i)=true then c.2.2.2.2.2.1 else 0)
     simp
    ·have hla':(E.pass c m2).la=c.1:=rfl
     rw [hla']
     rcases List.mem_append.1 hp with hp | hp
     ·have:=hC.pos p hp;omega
     ·simp at hp;subst hp;have:=hF.at_;exact ⟨this.1,Int.le_refl _,hct⟩
    ·have ht':c.1≤t:=ht
     rw [Zps]
     have h1:=ZhL (P:=since t) (Q:=since c.1) hpos fun p _ h=>Zna ht' h
     show _+(if _ then c.2.2.2.2.2.1 else 0)≤n
     split<;>omega
theorem ZkE (c:C8):(c8L c).length=7:=rfl
def ZgC (h:Zd) (c:C8):Prop:=ZfM c∧∃ al:List ByteArray,Row h c.2.2.2.2.2.2.1 1 (al.map .string)
theorem ZgC.ext {h h':Zd} {c:C8} (hc:ZgC h c) (e:Ext h h'):ZgC h' c:=by
  obtain ⟨hz,al,ha⟩:=hc
  exact ⟨hz,al,ha.ext e⟩
abbrev pc (c:C8):Int × Int:=(c.1,c.2.2.2.2.2.1)
def ZvW:Prop:=∀ (h:Zd) (K:Bool→Zd→Prop),(∀ h',Ext h h'→K true h')→XK K h
end Go.Proofs.YthbfgkphlmlihaaGreat
