/- The live part of the laws of the slots, with the general engine. -/
import Derived.Test.YtonbfpnngkemiaaGreatRows
import Derived.Deep.Slices
import Derived.ChangeSlices
import Derived.ChangeArms
import Derived.Test.YtonbfpnngkemiaaGreatProg
import Derived.KernelRfl
import Derived.Test.YtonbfpnngkemiaaGreatPa18
set_option linter.unusedVariables false
set_option linter.unusedSimpArgs false
namespace Go.Proofs.YtonbfpnngkemiaaGreat
open Go Go.Fw Go.Js
abbrev ZON:ByteArray:=ByteArray.mk #[109,97,105,110]
def fA:FlowP:=⟨[97],[100,101,102,97,117,108,116],false,1,0,[],0,0,0,false,0,false⟩
def rA:RulesP:=⟨[fA],[],[],[],[]⟩
def cA:PC:=(0,sA,ZON,em,false,1)
abbrev kA:K4:=(4,em,sA,em,())
theorem ZGY:rA.whereE.2.2=0:=by decide
theorem ZPQ:Rw.RulesP.fit rA:=by
  refine⟨λf a=>?_,λf a=>(by cases a),λf a=>(by cases a),λf a=>(by cases a)⟩;have:f=fA:=by simpa[rA]using a
  subst this;decide
theorem ZOR:ZmZ [fA] (cl cA nl)=[0]:=by unfold ZmZ Zgm Zgm cbK ZBs Zay;simp only[Zhe];decide
theorem ZSA:ZtF (Zay (Rw.ZaL fA) (cl cA nl))=kA:=by unfold ZtF Zay;simp only[Zhe];decide
def tA1:Tree:=Tree.zero.touched (cl cA nl)
def tA2:Tree:=(tA1.passed (cl cA nl)).touched (cl cA nl)
theorem ZG0:Zmg (Rw.ZaL fA) (ZmY (tA1.f kA) 0).1 (oFl (tA1.f kA)) 1=true:=by decide
theorem ZGZ:Zmg (Rw.ZaL fA) (ZmY (tA2.f kA) 0).1 (oFl (tA2.f kA)) 1=false:=by decide
theorem Zxq:Zkr (cl cA nl):=⟨by decide,by decide,by decide⟩
def Zt9(t:Tree)(la op:Int):Int:=
  if Zj6 (cl cA nl)≠0 then Zj6 (cl cA nl)else if ¬(0<=cA.1/\cA.1<=1152921504606846976)then 2 else if ¬(1<=cA.2.2.2.2.2/\cA.2.2.2.2.2<=1099511627776)then 2 else if 8<([]:List ByteArray).length then 5 else if Zlk []=true then 5
  else if cA.1<la then 7 else if 4096<=op then 3 else t.touchE (cl cA nl)
theorem ZDP:Zt9 Tree.zero 0 0=0:=by decide
theorem ZDO:Zt9 (tA1.passed (cl cA nl)) 0 1=0:=by decide
theorem ZHh{G:GS}(a:G.r=rA)(d:G.fl=[(none,none)]):ZnV G cA [] false=if Zmg (Rw.ZaL fA) (ZmY (G.t.f kA) 0).1 (oFl (G.t.f kA)) 1=true then(none,[],0)else(some (4,0),[],0):=by
  have e:ofK G.r 5 cA.2.1=[]:=by rw[a];decide
  have g:ofK G.r 3 cA.2.1=[]:=by rw[a];decide
  have h:ofK G.r 2 cA.2.1=[]:=by rw[a];decide
  have c:ZmZ G.r.fl (cl cA nl)=[0]:=by rw[a];exact ZOR
  have l:stg G cA [] false 0 ([],0)=(none,([],0)):=by
    show ZfJ (ZpF G cA) (ofK G.r 5 cA.2.1) ([],0)=_;rw[e];rfl
  have s1:stg G cA [] false 1 ([],0)=(none,([],0)):=rfl
  have s2:stg G cA [] false 2 ([],0)=(none,([],0)):=by
    show ZfJ (ZnX G cA []) (ofK G.r 3 cA.2.1) ([],0)=_;rw[g];rfl
  have s4:stg G cA [] false 4 ([],0)=(none,([],0)):=by
    show ZfJ (ZnY G cA) (ofK G.r 2 cA.2.1) ([],0)=_;rw[h];rfl
  have m:ZfG G cA false 0=⟨!Zmg (Rw.ZaL fA) (ZmY (G.t.f kA) 0).1 (oFl (G.t.f kA)) 1,[],none⟩:=by
    unfold ZfG;rw[a,d];show(if fA.clu=true/\(false=true\/fA.fb=false)then _ else ZkQ fA (none,none) (G.t.f (ZtF (Zay (Rw.ZaL fA) (cl cA nl)))) cA 0)=_;rw[ZSA,if_neg (by decide)];rfl
  have o:stg G cA [] false 3 ([],0)=if Zmg (Rw.ZaL fA) (ZmY (G.t.f kA) 0).1 (oFl (G.t.f kA)) 1=true then(none,([],0))else(some 0,([],0)):=by
    show ZfJ (ZfG G cA false) (ZmZ G.r.fl (cl cA nl)) ([],0)=_;rw[c];show(if(ZfG G cA false 0).b=true then(some (0:Int),([]:List Tk)++(ZfG G cA false 0).tk,wtV 0 (ZfG G cA false 0).wt)else(none,([]:List Tk)++(ZfG G cA false 0).tk,wtV 0 (ZfG G cA false 0).wt))=_;rw[m];cases Zmg (Rw.ZaL fA) (ZmY (G.t.f kA) 0).1 (oFl (G.t.f kA)) 1<;>rfl
  have k:∀(n j:Nat) (x:List Tk×Int),ZlJ (stg G cA [] false) (n+1) j x=match (stg G cA [] false j x).1 with
    |some i=>(some (((j+1:Nat):Int),i),(stg G cA [] false j x).2)
    |none=>ZlJ (stg G cA [] false) n (j+1) (stg G cA [] false j x).2:=λ_ _ _=>rfl
  unfold ZnV;rw[k,l];show ZlJ _ 4 1 ([],0)=_;rw[k,s1];show ZlJ _ 3 2 ([],0)=_;rw[k,s2];show ZlJ _ 2 3 ([],0)=_;rw[k,o]
  cases Zmg (Rw.ZaL fA) (ZmY (G.t.f kA) 0).1 (oFl (G.t.f kA)) 1 with
  |false=>rfl
  | true=>
    show ZlJ _ 1 4 ([],0)=_;rw[k,s4];rfl
noncomputable def gA1:GS:=(GS.new 10 1).load rA
theorem ZE1:gA1.enter cA [] false=((1,(0,0,0,()),0),(gA1.mid cA).pass cA []):=by unfold GS.enter;rw[if_neg (λh=>h (show Zt9 Tree.zero 0 0=0 from ZDP)),ZHh (G:=gA1.mid cA) rfl rfl,if_pos (show Zmg (Rw.ZaL fA) (ZmY ((gA1.mid cA).t.f kA) 0).1 (oFl ((gA1.mid cA).t.f kA)) 1=true from ZG0)];rfl
noncomputable def gA2:GS:=(gA1.mid cA).pass cA []
theorem ZE0:gA2.enter cA [] false=((0,(4,0,0,()),0),(gA2.mid cA).blocked cA):=by unfold GS.enter;rw[if_neg (λh=>h (show Zt9 (tA1.passed (cl cA nl)) 0 1=0 from ZDO)),ZHh (G:=gA2.mid cA) rfl rfl,if_neg (by rw[show Zmg (Rw.ZaL fA) (ZmY ((gA2.mid cA).t.f kA) 0).1 (oFl ((gA2.mid cA).t.f kA)) 1=false from ZGZ];decide)]
section
variable{h:Zf}{T:TgM}{L:Lay}{G:GS}
theorem Zzg{c:PC}{sl:Sl}{al:List ByteArray}(o:ZcQ h T L G)(ok:GOK G)(hz:Zkr (cl c nl))(z:Row h sl 1 (al.map .string))(e:al≠[]->∀b,sl.blk=some b->b<sz h/\T b=none){K:Int->V4->Int->Zf->Prop}
    (p:∀h' T' q,ZcQ h' T' q (G.enter c al false).2->q.eb=L.eb->GrG T T' h h'->K (G.enter c al false).1.1 (G.enter c al false).1.2.1 (G.enter c al false).1.2.2 h'):Xa (some ⟨L.eb,0,none⟩) (cl c sl) K h:=by
  unfold Xa Zbx;refine ZF λh1 c1 A B=>Za (ZF λr C t D=>Za ?_);have a:=A.trans t;have d:=Zj c1 t;have s1:sz h1=sz h+1:=B;have s2:sz r=sz h1+1:=D;refine rI (Zb d rfl) (rS (Zb d rfl) (rS (Zb d rfl) (rS (Zb d rfl) (rB (Zb d rfl) (rI (Zb d rfl) (rL (s:=sl) (Zb d rfl) ?_))))));refine ZFk (o.ext a) ok hz (z.ext a) (λne b u=>⟨by have:=(e ne b u).1;omega,(e ne b u).2⟩) λh3 w E F eb f=>Za ?_;have x:T (sz h1)=none:=Classical.byContradiction λi=>by have:=o.hT _ i;omega
  have H:obj h3 (sz h1)=_:=(f.old (show sz h1<sz r by omega) x).trans C
  have k:w (sz h1)=none:=Classical.byContradiction λi=>by
    rcases f.n _ i with g|g
    ·exact g x
    ·omega
  generalize (G.enter c al false).1.2.1=v at p⊢;obtain⟨v1,v2,v3,v4⟩:=v;refine ZaN H λI l y z4=>Za (rI (Zb l rfl) (rI (Zb l rfl) (rI (Zb l rfl) (p I w E (F.frame y λj m=>by rw[show j=sz h1 from m];exact k) eb ((GrG.pre a f).new y λj m=>by have J:j=sz h1:=m;omega)))))
end
theorem ZEm{h:Zf}{mb n:Nat}{v:Value}(hm:ZlX h mb (upd (λ_=>none) 1 (some v)) n):Zu2 h mb [1]:=by
  obtain⟨es,c,d,hs,i,he⟩:=hm;refine⟨es,c,d,hs,?_,by simp,λx f=>by simp at f;omega⟩;have hd:=((MapKept.stamped_iff es c).1 hs).2.2
  have a:∀e∈es.toList,e.key=iv 1:=λe hm=>by
    obtain⟨k,g,hv⟩:=he.to_ e hm;unfold upd at hv;split at hv
    ·rename_i b;rw[g,b]
    ·cases hv
  obtain⟨e,hm,_⟩:=he.of 1 v (Zea _ _ _)
  cases hl:es.toList with
  |nil=>rw[hl]at hm;cases hm
  | cons x l=>
    rw[hl]at a hd
    cases l with
    |nil=>simp[a x (List.mem_cons_self ..)]
    | cons y l=>
      have h1:=List.pairwise_cons.1 hd;exact absurd ((a x (List.mem_cons_self ..)).trans (a y (by simp)).symm) (h1.1 y (List.mem_cons_self ..))
theorem ZG2{h:Zf}{T:TgM}{L:Lay}{G:GS}(d:ZcQ h T L G){e:Ent}(x:G.en=upd (λ_=>none) 1 (some e))(ho:e.ov=false){K:Sl->Zf->Prop}(y:∀h' s,Ext h h'->s.len=1->K s h'):Xk (some ⟨L.eb,0,none⟩) K h:=by
  obtain⟨f,n,z⟩:=d.ent
  obtain ⟨g,A⟩:∃g,f=upd (λ_=>none) 1 (some (ZHH e.c e.ov g)):=by
    rcases z.e 1 with⟨k,_⟩ |⟨W,s',k,J,_⟩
    ·rw[x,Zea]at k;cases k
    ·rw [x,Zea]at k;cases k;refine⟨s',funext λj=>?_⟩
     by_cases q:j=1
     ·subst q;rw[J,Zea]
     ·rw [Zit _ _ q]
      rcases z.e j with⟨_,b2⟩ |⟨M,N,b1,_⟩
      ·exact b2
      ·rw[x,Zit _ _ q]at b1;cases b1
  have hm:=z.m;rw[A]at hm;unfold Xk Zb3;refine ZF λh1 c1 l X=>rP (Zb c1 rfl) (Zh rfl (rP (Zb c1 rfl) (Zi (rM (Zb (d.ext l).cells rfl) ?_))));unfold Yu;refine ZF λO P r Y=>?_;have R:=(d.ext l).ext r;have B:=ZeL d.hT d.fT;have a:ZlX O L.fm (upd (λ_=>none) 1 (some (ZHH e.c e.ov g))) n:=hm.congr (ZQ (l.trans r) B);refine⟨_,L.fm,[1],rfl,by rw[Yg];exact Zb P rfl,ZEm a,by decide,λs h3 I t=>?_⟩;have hl:s.len=1:=by have:=I.len;simp at this;omega
  have S:=R.ext t;have C:ZlX h3 L.fm (upd (λ_=>none) 1 (some (ZHH e.c e.ov g))) n:=a.congr (ZQ t a.lt);have D:=(l.trans r).trans t;have U:=Zj (Zj c1 r) t;unfold Yo Yq Yt Yv;refine Za (Zaj (λp w=>(p.1=0\/p.1=1)/\w=h3) (λp _=>(1-p.1).toNat) ⟨.inl rfl,rfl⟩ ?_);rintro⟨i,u⟩ w ⟨hi,E⟩ Q V;subst E;dsimp only at hi⊢
  rcases hi with hi|hi
  ·subst hi;rw[hl]
   have F:∀{K:Nat->Nat->Prop},(∀b o,Zf.cell w b o=some (iv 1)->K b o)->Yk s.ptr 1 0 1 K:=λ{K} y=>by
     have:=I.row.idx (i:=0) (n:=0) (v:=iv 1) rfl rfl (K:=K) λb o _ H=>y b (o+0) H;rwa[hl]at this
   refine Zm rfl (Za (F λb o H=>⟨1,H,?_⟩));unfold Za9 Zc9;refine Zi (rP (Zb U rfl) (Zi (rM (Zb S.cells rfl) (C.get 1 ⟨(e.c.1,e.c.2.1,e.c.2.2.1,e.c.2.2.2.1,e.c.2.2.2.2.1,e.c.2.2.2.2.2.1,nl,e.ov,g,()),?_,Zd (Zh (by rw[ho]) (V _ _ ⟨.inr (by decide),rfl⟩ (show(1-IntKind.wrap .i64 (0+1)).toNat<(1-(0:Int)).toNat by decide)))⟩))));rw[Zea];rfl
  ·subst hi;rw[hl];exact Zh rfl (Za (Za (Zm rfl (y w s D hl))))
theorem ZHi{h:Zf}{K:Bool->Zf->Prop}(i:∀h',Ext h h'->K true h'):Zbt K h:=by
  unfold Zbt ZdN;refine ZHY (by decide) λh1 T1 L1 E1 n1 Z=>Za (Zh rfl (Zh rfl (ZF λC c2 e2 z2=>?_)));have A:∀{S:Nat->Prop},Rw.inS S nl:=λ{S} hl=>absurd rfl hl;have hr:Rw.Yn C (· = sz h1) (⟨some ⟨sz h1,0,none⟩,1,1⟩,nl,nl,nl,nl,()) rA:=⟨⟨ZkO c2 rfl,λ_ b q=>(Option.some.inj q).symm⟩,⟨Row.nil _ _,A⟩,⟨[],rfl,⟨Row.nil _ _,A⟩,λp D=>(by cases D)⟩,⟨Row.nil _ _,A⟩,⟨[],rfl,⟨Row.nil _ _,A⟩,λp D=>(by cases D)⟩⟩;have s2:sz C=sz h1+1:=z2;have w1:sz h<=sz h1:=Z.size;have t1:∀j,T1 j≠none->sz h<=j:=n1;have base:∀{T':TgM} {a b:Zf},GrG T1 T' a b->sz h<=sz a->∀j,T' j≠none->sz h<=j:=λ{T' a b} g ha j E=>(g.n j E).elim (t1 j) λd=>by omega
  refine ZCk (E1.ext e2) (GOK.new (by decide)) hr (λb q=>by have e':b=sz h1:=q;omega) ZPQ (λ_ h3 F L3 E3 eb3 g3=>?_) λe he H=>absurd (he.symm.trans ZGY) H;have o:Ext h h3:=(Z.trans e2).then g3.u λk i=>t1 k i
  refine Za (ZF λh4 c4 e4 z4=>ZaN c4 λt l u5 z5=>?_);have v:Ext h3 t:=e4.then u5 λk i=>by subst i;exact Aqo _
  have E5:=E3.ext v;have w3:sz h<=sz h3:=o.size;have I:sz h3<sz t:=Zp l;have n3:∀j,F j≠none->j<sz h3:=E3.hT;have t3:F (sz h3)=none:=Classical.byContradiction λd=>by have:=n3 _ d;omega
  have b3:∀j,F j≠none->sz h<=j:=base g3 (by omega);rw[<-eb3];refine rI (Zb l rfl) (rS (Zb l rfl) (rS (Zb l rfl) (rS (Zb l rfl) (rB (Zb l rfl) (rI (Zb l rfl) (rL (s:=nl) (Zb l rfl) ?_))))));have w:GOK gA1:=GOK.load (GOK.new (by decide)) ZGY ZPQ;refine Zzg (c:=cA) (sl:=nl) (al:=[]) (G:=gA1) E5 w Zxq (Row.nil _ _) (λne b q=>by cases q) λm B L6 J L x=>?_;rw[ZE1]at J⊢;dsimp only at J⊢;have y:ZcQ m B L6 gA2:=J;have M:GOK gA2:=(GOK.mid w).pass Zxq;have c6:obj m (sz h3)=_:=(x.old (show sz h3<sz t from I) t3).trans l
  have t6:∀j,sz h3<=j->j<sz t->B j=none:=λj h1 C=>Classical.byContradiction λd=>by
    rcases x.n j d with g|g
    ·have:=n3 j g;omega
    ·omega
  have b6:∀j,B j≠none->sz h<=j:=λj E=>(x.n j E).elim (b3 j) λd=>by omega
  have aA:sz t<=sz m:=x.u.size;refine ZF λh7 c7 e7 z7=>Za (ZaN c7 λN c8 u8 z8=>Za ?_);have r:Ext m N:=e7.then u8 λk i=>by subst i;exact Aqo _
  have d8:=Zj c6 r;have O:sz m<sz N:=Zp c8;refine rI (Zb d8 rfl) (rS (Zb d8 rfl) (rS (Zb d8 rfl) (rS (Zb d8 rfl) (rB (Zb d8 rfl) (rI (Zb d8 rfl) (rL (s:=nl) (Zb d8 rfl) ?_))))));rw[<-L];refine Zzg (c:=cA) (sl:=nl) (al:=[]) (G:=gA2) (y.ext r) M Zxq (Row.nil _ _) (λne b q=>by cases q) λd T9 L9 P Q g9=>?_;rw[ZE0]at P⊢;dsimp only at P⊢;have t68:B (sz m)=none:=Classical.byContradiction λd=>by have:=y.hT _ d;omega
  have c9:obj d (sz m)=_:=(g9.old (show sz m<sz N from O) t68).trans c8;refine ZF λaE R T aF=>Za (ZaN R λU V W aG=>Za ?_);have f:Ext d U:=T.then W λk i=>by subst i;exact Aqo _
  have z:=Zj c9 f;refine Zm rfl (Zm rfl (rI (Zb z rfl) (Zm rfl (Zm rfl (Zm rfl (rI (Zb V rfl) (Zm rfl (Zm rfl ?_))))))));rw[<-Q];refine ZG2 (P.ext f) (e:=⟨cl cA nl,false,[]⟩) rfl rfl λX s Y hs=>Zd ?_;rw[hs];refine i X ?_;have x6:Ext h m:=(o.trans v).then x.u b3
  have x9:Ext h d:=(x6.trans r).then g9.u b6
  exact(x9.trans f).trans Y
section
variable{h:Zf}{c:C8}
theorem ZCl{gr:Bool}{K:Int->V4->Int->Zf->Prop}(a:∀h',Ext h h'->K 0 (0,0,0,()) 1 h'):Xb none c gr K h:=by unfold Xb Zby;refine ZF λh1 c1 d i=>Za (ZF λj e f l=>Za (Zm rfl (Za (ZaN e λh3 b g z3=>Za ?_))));exact rI (Zb b rfl) (rI (Zb b rfl) (rI (Zb b rfl) (a h3 ((d.trans f).then g λk a=>by subst a;exact d.size))))
theorem ZH0{K:Int->V4->Int->Zf->Prop}(b:∀h',Ext h h'->K 0 (0,0,0,()) 1 h'):Xa none c K h:=by unfold Xa Zbx;refine ZF λh1 c1 e m=>Za (ZF λn i f o=>Za ?_);have a:=Zj c1 f;refine rI (Zb a rfl) (rS (Zb a rfl) (rS (Zb a rfl) (rS (Zb a rfl) (rB (Zb a rfl) (rI (Zb a rfl) (rL (s:=c.2.2.2.2.2.2.1) (Zb a rfl) (ZCl λh3 g=>Za (ZaN (Zj i g) λj d l z4=>Za ?_))))))));exact rI (Zb d rfl) (rI (Zb d rfl) (rI (Zb d rfl) (b j (((e.trans f).trans g).then l λk b=>by subst b;exact e.size))))
theorem ZFl{at_:Int}{r:ByteArray}{K:C6->Int->Zf->Prop}(b:∀h',Ext h h'->K z6 1 h'):Zbb none at_ r K h:=by unfold Zbb Zdb;refine ZF λh1 c1 c f=>Za (Zm rfl (ZaN c1 λd a e g=>Za ?_));exact rI (Zb a rfl) (rI (Zb a rfl) (rI (Zb a rfl) (rI (Zb a rfl) (rI (Zb a rfl) (rI (Zb a rfl) (b d (c.then e λk b=>by subst b;exact Aqo _)))))))
theorem ZHV{K:Rw.VTR->Int->Zf->Prop}(b:∀h' z,Ext h h'->K z 0 h'):Y9 none K h:=by unfold Y9 Zbw;refine ZF λh1 c1 c f=>Za (Zm rfl (ZaN c1 λd a e g=>Za ?_));exact rL (s:=nl) (Zb a rfl) (rL (s:=nl) (Zb a rfl) (rL (s:=nl) (Zb a rfl) (rL (s:=nl) (Zb a rfl) (rL (s:=nl) (Zb a rfl) (b d _ (c.then e λk b=>by subst b;exact Aqo _))))))
theorem ZPk{z:Rw.VTR}{K:Int->Zf->Prop}(a:∀h',Ext h h'->K 1 h'):YY none z K h:=by unfold YY Zb4;exact ZF λh1 c1 b c=>Za (Zm rfl (Za (a h1 b)))
theorem ZFe{l p:Int}{K:Int->Zf->Prop}(a:K 1 h):Za8 none l p K h:=by unfold Za8 Zc8;exact Za (Zd (Zm rfl (Za a)))
theorem ZPo{n a:Int}{f:Bool}{K:Int->Zf->Prop}(b:K 1 h):ZbW none n a f K h:=by unfold ZbW Zev;exact Za (Zm rfl (Za b))
theorem ZPj{K:Sl->Zf->Prop}(a:∀h',Ext h h'->K nl h'):Xk none K h:=by unfold Xk Zb3;exact ZF λh1 c1 b c=>rP (Zb c1 rfl) (Zm rfl (a h1 b))
theorem ZBJ{r:ByteArray}{K:Int->Zf->Prop}(a:K 0 h):Zba none r K h:=by unfold Zba Zda;exact Za (Zm rfl (Za a))
theorem Zwt{K:Sl->Zf->Prop}(a:K nl h):X3 none K h:=by unfold X3 ZbJ;exact Zm rfl a
theorem ZPl{K:Int->Zf->Prop}(a:K 0 h):ZbU none K h:=by unfold ZbU Zet;exact Za (Zm rfl (Za a))
theorem ZPn{K:Option Addr->Zf->Prop}(a:K none h):ZbV none K h:=by unfold ZbV Zeu;exact Zm rfl a
end
section
variable{h:Zf}{T:TgM}{L:Lay}{G:GS}
theorem ZBI(c:ZcQ h T L G)(ok:GOK G){S:Nat->Prop}{d:Rw.VTR}{r:RulesP}(k:Rw.Yn h S d r)(l:∀b,S b->b<sz h)(f:Rw.RulesP.fit r){K:Int->Zf->Prop}
    (g:∀e h' T' i a,ZcQ h' T' i a->GOK a->((e=0/\a.r=r)\/(e≠0/\a=G))->i.eb=L.eb->GrG T T' h h'->K e h'):YY (some ⟨L.eb,0,none⟩) d K h:=
  ZCk c ok k l f (λm h3 n o p eb3 q=>g 0 h3 n o _ p (GOK.load ok m f) (.inl ⟨rfl,rfl⟩) eb3 q) λe _ s h3 j=>g e h3 T L G (c.ext j) ok (.inr ⟨by omega,rfl⟩) rfl (GrG.ext j)
end
theorem ZPH{h:Zf}{b o:Nat}{v w:Value}(hw:Wb h b)(g:Zy o (obj h b)=some w)(hv:Zs v=true){K:Zf->Prop}(l:∀h',Wb h' b->(∀k,(Zy k (obj h b)).isSome->(Zy k (obj h' b)).isSome)->Upd (· = b) h h'->sz h'=sz h->K h'):st h b o v K:=by
  obtain⟨c,e,a⟩:=hw;have i:obj h b=some (.cells c.toList.toArray e (0,0)):=by rw[Array.toArray_toList];exact a
  have hs:o<c.size:=by
    rw[i,Zdj]at g;have:=ZbP g;simpa using this
  refine ZPK a hs hv λh' j u z=>l h' ⟨_,_,j⟩ (λk d=>?_) u z;have f:obj h' b=some (.cells (c.setIfInBounds o v).toList.toArray e (0,0)):=by rw[Array.toArray_toList];exact j
  rw[i,Zdj]at d;rw[f,Zdj];simpa using d
abbrev rE:RulesP:=⟨[],[],[],[],[]⟩
abbrev nl5:Rw.VTR:=(nl,nl,nl,nl,nl,())
theorem ZSz(h:Zf)(S:Nat->Prop):Rw.Yn h S nl5 rE:=by have a:Rw.inS S nl:=λhl=>absurd rfl hl;exact⟨⟨Row.nil _ _,a⟩,⟨Row.nil _ _,a⟩,⟨[],rfl,⟨Row.nil _ _,a⟩,λp b=>(by cases b)⟩,⟨Row.nil _ _,a⟩,⟨[],rfl,⟨Row.nil _ _,a⟩,λp b=>(by cases b)⟩⟩
abbrev r5o(z:Rw.VTR):Obj:=.cells (r5 z).toArray 39 (0,0)
theorem ZA6{h:Zf}{c:PC}{sl:Sl}{m:Rw.VTR}{r:RulesP}(hr:Rw.Yn h (· < sz h) m r)(aE:Rw.RulesP.fit r)(x:Mid r){K:Bool->Zf->Prop}(l:∀h',Ext h h'->K true h'):XU (cl c sl) m K h:=by
  unfold XU Zbm;refine ZF λh1 c1 e1 z1=>ZF λt c2 e2 z2=>?_;have U:=Zj c1 e2;have ba:=e1.trans e2;have ag:obj t (sz h1)=some (r5o m):=c2;refine rI (Zb U rfl) (rS (Zb U rfl) (rS (Zb U rfl) (rS (Zb U rfl) (rB (Zb U rfl) (rI (Zb U rfl) (rL (s:=sl) (Zb U rfl) (ZH0 λh3 e3=>ZF λh4 c4 e4 z4=>Za (ZaN c4 λh5 c5 u5 z5=>Za ?_))))))));have ah:Ext t h5:=(e3.trans e4).then u5 λk l=>by subst l;exact e3.size
  have x5:=Zj U ah;refine rI (Zb x5 rfl) (rS (Zb x5 rfl) (rS (Zb x5 rfl) (rS (Zb x5 rfl) (rB (Zb x5 rfl) (rI (Zb x5 rfl) (rL (s:=sl) (Zb x5 rfl) (ZCl λh6 e6=>ZF λh7 c7 e7 z7=>Za (ZaN c7 λh8 c8 u8 z8=>Za ?_))))))));have aF:Ext t h8:=((ah.trans e6).trans e7).then u8 λk l=>by subst l;exact(ah.trans e6).size
  refine ZFl λC H=>ZF λcH bb bc cJ=>ZaN bb λbd cK bf cM=>Za ?_;have V:Ext t bd:=((aF.trans H).trans bc).then bf λk l=>by subst l;exact(aF.trans H).size
  refine ZHV λcN bg aG=>ZF λcO bh bj cP=>ZaN bh (vs:=r5 bg) (λbk cQ bl cR=>Za ?_) (hv:=by simp[r5,XC]);have aH:Ext t bk:=((V.trans aG).trans bj).then bl λk l=>by subst l;exact(V.trans aG).size
  refine ZHi λcT bm=>Zh rfl (Zh rfl (Zh rfl (Zh rfl (Zh rfl ?_))));have W:=aH.trans bm;have I:=Zj ag W;refine rL (s:=m.1) (Zb I rfl) (rL (s:=m.2.1) (Zb I rfl) (rL (s:=m.2.2.1) (Zb I rfl) (rL (s:=m.2.2.2.1) (Zb I rfl) (rL (s:=m.2.2.2.2.1) (Zb I rfl) ?_))));refine ZPk λcV bn=>Zh rfl (ZFe (Zh rfl (ZPo (Zh rfl (ZPj λaI bo=>Zh rfl (ZBJ (Zh rfl (Zwt (Zh rfl (ZPl (Zh rfl (ZPn (Zh rfl ?_)))))))))))));have X:=(W.trans bn).trans bo;refine ZHY (by decide) λhN T2 L2 E2 n2 eN=>Za ?_;have aj:=X.trans eN;have aJ:=ba.trans aj;have yN:=Zj ag aj;have w1:sz h1=sz h+1:=z1;have w2:sz t=sz h1+1:=z2;have cW:sz t<=sz aI:=X.size;have wN:sz aI<=sz hN:=eN.size;refine rL (s:=m.1) (Zb yN rfl) (rL (s:=m.2.1) (Zb yN rfl) (rL (s:=m.2.2.1) (Zb yN rfl) (rL (s:=m.2.2.2.1) (Zb yN rfl) (rL (s:=m.2.2.2.2.1) (Zb yN rfl) ?_))));refine ZPp (hr.ext aJ) (λb E=>by have cX:b<sz h:=E;omega) x λM y eC rC=>ZF λhD cD eD zD=>ZaN cD (vs:=r5 y) (λhE cE uE zE=>?_) (hv:=by simp[r5,XC]);have wC:sz hN<=sz M:=eC.size;have wD:sz hD=sz M+1:=zD;have wE:sz hE=sz hD:=zE;have ak:Ext M hE:=eD.then uE λk l=>by subst l;exact Aqo _
  refine rL (s:=y.1) (Zb cE rfl) (rL (s:=y.2.1) (Zb cE rfl) (rL (s:=y.2.2.1) (Zb cE rfl) (rL (s:=y.2.2.2.1) (Zb cE rfl) (rL (s:=y.2.2.2.2.1) (Zb cE rfl) ?_))));have al:=eC.trans ak;have tN:∀j,sz hN<=j->T2 j=none:=λj d=>Classical.byContradiction λC=>by have:=E2.hT j C;omega
  refine ZBI (E2.ext al) (GOK.new (by decide)) (rC.ext ak) (λb E=>by have:=E.1.2;omega) aE λe O T3 L3 G3 E3 aL z eb3 g3=>Za (Za ?_);have wL:sz hE<=sz O:=g3.u.size
  have t3:∀j,sz hN<=j->j<sz hE->T3 j=none:=λj h1 t=>Classical.byContradiction λC=>by
    rcases g3.n j C with q|q
    ·exact q (tN j h1)
    ·omega
  have cL:obj O (sz M)=some (r5o y):=(g3.old (show sz M<sz hE by omega) (tN _ wC)).trans cE;have bq:Ext h O:=(aJ.trans al).then g3.u λk l=>by have:=n2 k l;show sz h<=k;omega
  have Y:∀j,Rnw M (sz hN) (sz M) j->obj O j=obj M j:=λj d=>by
    have h1:=d.1.1;have t:=d.1.2;rw[g3.old (show j<sz hE by omega) (tN j h1)];exact ZQ ak t
  have bt:=rC.keep (h':=O) λb E _=>Y b E;obtain⟨Z,an⟩:=bt.fl;have df:=Y2 (g:=Rw.ZcR) (n:=12) (λ_=>rfl) Z (by decide);have dg:=x.f
  refine Zaj (λ(p:Int×Unit) v=>∃i:Nat,p=((i:Int),())/\i<=r.fl.length/\Upd (λj=>y.1.len≠0/\y.1.blk=some j) O v/\∀j,y.1.len≠0->y.1.blk=some j->Wb v j/\∀k,(Zy k (obj O j)).isSome->(Zy k (obj v j)).isSome) (λp _=>((r.fl.length:Int)- p.1).toNat)
    ⟨0,rfl,Ayg _,Upd.refl _ _,λj h1 t=>⟨(an h1 j t).2.keep (Y j (an h1 j t)),λk l=>l⟩⟩ ?_
  rintro _ P ⟨i,rfl,dh,uF,wF⟩ Q hQ;dsimp only;have nF:∀j,(y.1.len≠0/\y.1.blk=some j)->sz hN<=j/\j<sz M:=λj d=>(an d.1 j d.2).1;have cF:obj P (sz M)=some (r5o y):=(uF.old _ (Zp cL) λd=>by have:=nF _ d;omega).trans cL;refine rL (s:=y.1) (Zb cF rfl) (Zn (λq=>?_) λq=>?_)
  ·have hi:i<r.fl.length:=by omega
   have hg:r.fl[i]?=some r.fl[i]:=Axy hi;generalize r.fl[i]=f at hg;obtain⟨b,o,E,bu,A,hc⟩:=Zab (g:=Rw.ZcR) (n:=12) (λ_=>rfl) Z hg (by decide);have R:y.1.len≠0:=by omega
   obtain⟨wb,ws⟩:=wF b R E;obtain⟨w,hw⟩:=Axc.1 (ws (o+3) (by rw[hc 3 _ rfl];rfl));refine rL (s:=y.1) (Zb cF rfl) (A rfl (ZPH wb hw rfl λF ao aq uG zG=>Za ?_));rw[wrS hi (by omega)];refine hQ _ _ ⟨i+1,rfl,hi,uF.trans (uG.mono λj _ d=>by have H:j=b:=d;subst H;exact⟨R,E⟩),λj h1 t=>?_⟩ (by show((r.fl.length:Int)- ((i+1:Nat):Int)).toNat<((r.fl.length:Int)- ((i:Nat):Int)).toNat;omega);have H:j=b:=by rw[E]at t;exact(Option.some.inj t).symm
   subst H;exact⟨ao,λk l=>aq k (ws k l)⟩
  clear hQ Q;have dk:sz O<=sz P:=uF.size;have EF:=E3.frame uF λj d=>t3 j (nF j d).1 (by have:=(nF j d).2;omega);have aP:Ext h P:=bq.then uF λj d=>by have:=(nF j d).1;show sz h<=j;omega
  rw[<-eb3];refine Zu1 EF aL λhR zg g9 rg wg eR=>ZF λhS cS eS zS=>ZaN cS (vs:=r5 zg) (λhU cU uU zU=>Za (Za ?_)) (hv:=by simp[r5,XC]);have wR:sz P<=sz hR:=eR.size;have wS:sz hS=sz hR+1:=zS;have wU:sz hU=sz hS:=zU;have D:Ext hR hU:=eS.then uU λk l=>by subst l;exact Aqo _
  obtain⟨G,aQ,⟨J,cb⟩,av⟩:=wg;have S:=J.ext D;have dt:=Y2 (g:=Rw.ZjI) (n:=5) (λ_=>rfl) J (by decide);have du:G.length=G3.r.ho.length:=by rw[<-aQ,Ayv]
  have cc:G3.r.ho.length<=100000000:=by
    rcases z with⟨_,F⟩ |⟨_,F⟩
    ·rw[F];exact x.h
    ·rw[F];exact Ayg _
  have lit:∀p,p∈G->p.2.items.length<=100000000:=λp bx=>by
    have hm:p.2∈G3.r.ho:=by rw[<-aQ];exact List.mem_map_of_mem bx
    rcases z with⟨_,F⟩ |⟨_,F⟩
    ·rw[F]at hm;exact x.hi _ hm
    ·rw[F]at hm;cases hm
  let SI:Nat->Prop:=λj=>∃p,p∈G/\p.1.len≠0/\p.1.blk=some j;have nI:∀j,SI j->Rnw hR (sz P) (sz hR) j/\zg.2.2.1.blk≠some j:=λj ⟨p,h1,t,h3⟩=>⟨(av p h1).1.2 t j h3,(av p h1).2 j h3⟩;let In:Zf->Prop:=λv=>Upd SI hU v/\∀j,SI j->Wb v j/\∀k,(Zy k (obj hU j)).isSome->(Zy k (obj v j)).isSome;have bz:In hU:=⟨Upd.refl _ _,λj d=>⟨(nI j d).1.2.keep (ZQ D (nI j d).1.1.2),λk l=>l⟩⟩;have cI:∀{v:Zf},In v->obj v (sz hR)=some (r5o zg):=λ{v} a=>(a.1.old _ (Zp cU) λd=>by have C:sz hR<sz hR:=(nI _ d).1.1.2;omega).trans cU;have bB:∀{v:Zf},In v->Row v zg.2.2.1 5 (G.flatMap Rw.ZjI):=λ{v} a=>S.congr λb o E _ hl=>a.1.old b hl λd=>(nI _ d).2 (by simp[Sl.blk,E]);refine Zaj (λ(p:Int×Unit) v=>∃i:Nat,p=((i:Int),())/\i<=G.length/\In v) (λp _=>((G.length:Int)- p.1).toNat) ⟨0,rfl,Ayg _,bz⟩ ?_;rintro _ hV ⟨i1,rfl,dv,iV⟩ Q hQ;dsimp only;refine rL (s:=zg.2.2.1) (Zb (cI iV) rfl) (Zn (λq=>?_) λq=>?_)
  ·have hi:i1<G.length:=by omega
   have hg:G[i1]?=some G[i1]:=Axy hi;have B:=Ayy hi;generalize G[i1]=p at hg B;have ae:Row hU p.1 2 (Rw.Zds p.2.items):=(av p B).1.1.ext D;have dw:p.1.len=p.2.items.length:=by have:=ae.len;rw[Rw.Zh8]at this;omega
   have lp:=lit p B;refine Za (Zaj (λ(q:Int×Unit) v=>∃k:Nat,q=((k:Int),())/\k<=p.2.items.length/\In v) (λq _=>((p.2.items.length:Int)- q.1).toNat) ⟨0,rfl,Ayg _,iV⟩ ?_);rintro _ hW ⟨k,rfl,dx,iW⟩ Q2 bD;dsimp only;obtain⟨b,o,E,bu,A,hc⟩:=Zab (g:=Rw.ZjI) (n:=5) (λ_=>rfl) (bB iW) hg (by decide);refine rL (s:=zg.2.2.1) (Zb (cI iW) rfl) (A rfl (rL (s:=p.1) (hc 4 _ rfl) (Zn (λq2=>?_) λq2=>?_)))
   ·have aw:k<p.2.items.length:=by omega
    have aT:p.2.items[k]?=some p.2.items[k]:=Axy aw;generalize p.2.items[k]=it at aT;obtain⟨b2,o2,bE,cf,ax,bF⟩:=Zab (α:=BL×Int) (g:=λp=>[Rw.sV p.1,iv p.2]) (n:=2) (λ_=>rfl) ae aT (by decide);have R:p.1.len≠0:=by omega
    have aU:SI b2:=⟨p,B,R,bE⟩;obtain⟨wb,ws⟩:=iW.2 b2 aU;obtain⟨w,hw⟩:=Axc.1 (ws (o2+0) (by rw[bF 0 _ rfl];rfl));refine rL (s:=zg.2.2.1) (Zb (cI iW) rfl) (A rfl (rL (s:=p.1) (hc 4 _ rfl) (ax rfl (ZPH wb hw rfl λhX ao aq uX zX=>Za ?_))));rw[wrS aw (by omega)];refine bD _ _ ⟨k+1,rfl,aw,iW.1.trans (uX.mono λj _ d=>by have H:j=b2:=d;subst H;exact aU),λj d=>?_⟩ (by show((p.2.items.length:Int)- ((k+1:Nat):Int)).toNat<((p.2.items.length:Int)- ((k:Nat):Int)).toNat;omega)
    by_cases H:j=b2
    ·subst H;exact⟨ao,λk l=>aq k (ws k l)⟩
    ·obtain ⟨a1,a2⟩:=iW.2 j d
     have jl:j<sz hW:=by
       have:=(nI j d).1.1.2;have:=iW.1.size;have C:sz hU<=sz hW:=this;omega
     have eo:obj hX j=obj hW j:=uX.old j jl H;exact⟨a1.keep eo,λk l=>by rw[eo];exact a2 k l⟩
   ·refine Za ?_;rw[wrS hi (by omega)];exact hQ _ _ ⟨i1+1,rfl,hi,iW⟩ (by show((G.length:Int)- ((i1+1:Nat):Int)).toNat<((G.length:Int)- ((i1:Nat):Int)).toNat;omega)
  clear hQ Q
  have tI:∀j,SI j->T3 j=none:=λj d=>Classical.byContradiction λC=>by
    have h1:=(nI j d).1.1.1;have t:j<sz P:=EF.hT j C;omega
  have EV:=((EF.ext eR).ext D).frame iV.1 tI;have bG:=(aP.trans eR).trans D
  have bH:Ext h hV:=bG.then iV.1 λj d=>by
    have:=(nI j d).1.1.1;have:=aP.size;have C:sz h<=sz P:=this;show sz h<=j;omega
  refine ZFg EV aL λhY L g8 rz eY=>ZF λhA cA eA zA=>ZaN cA (vs:=r5 L) (λhB N uB zB=>Za ?_) (hv:=by simp[r5,XC]);have wA:sz hA=sz hY+1:=zA;have ay:Ext hY hB:=eA.then uB λk l=>by subst l;exact Aqo _
  have e0B:=(bH.trans eY).trans ay;have T:=rz.ext ay
  rcases z with⟨he,F⟩ |⟨he,F⟩
  ·subst he;rw[F]at T;refine Zh rfl (Zm rfl ?_);refine rL (s:=L.1) (Zb N rfl) (rL (s:=L.2.1) (Zb N rfl) (rL (s:=L.2.2.1) (Zb N rfl) (rL (s:=L.2.2.2.1) (Zb N rfl) (rL (s:=L.2.2.2.2.1) (Zb N rfl) ?_))))
   have yB:obj hB (sz h1)=some (r5o m):=by
     have a1:=Zj ag (aj.trans al);have a2:obj O (sz h1)=some (r5o m):=(g3.old (Zp a1) (Classical.byContradiction λC=>by have:=n2 _ C;omega)).trans a1;have a3:obj P (sz h1)=some (r5o m):=(uF.old _ (Zp a2) λd=>by have:=(nF _ d).1;omega).trans a2;have a4:=Zj a3 (eR.trans D);have w9:sz h1<sz P:=Zp a3;have a5:obj hV (sz h1)=some (r5o m):=(iV.1.old _ (Zp a4) λd=>by have:=(nI _ d).1.1.1;omega).trans a4;exact Zj a5 (eY.trans ay)
   refine rL (s:=m.1) (Zb yB rfl) (rL (s:=m.2.1) (Zb yB rfl) (rL (s:=m.2.2.1) (Zb yB rfl) (rL (s:=m.2.2.2.1) (Zb yB rfl) (rL (s:=m.2.2.2.2.1) (Zb yB rfl) ?_))));exact ZHT T (hr.ext e0B) x λhZ eZ=>Zd (l hZ (e0B.trans eZ))
  ·rw[show G3.r=rE by rw[F];rfl]at T;refine Zdt (λ_=>?_) λC=>absurd C he;refine rL (s:=L.1) (Zb N rfl) (rL (s:=L.2.1) (Zb N rfl) (rL (s:=L.2.2.1) (Zb N rfl) (rL (s:=L.2.2.2.1) (Zb N rfl) (rL (s:=L.2.2.2.2.1) (Zb N rfl) ?_))));exact ZHT T (ZSz hB λ_=>True) ⟨by decide,by decide,by decide,by decide,by decide,λf hf=>(by cases hf),λf hf=>(by cases hf)⟩ λhZ eZ=>Zm rfl (l hZ (e0B.trans eZ))
end Go.Proofs.YtonbfpnngkemiaaGreat
namespace Go.Proofs.YtonbfpnngkemiaaGreat
open Go Go.Fw Go.ChangeShapes Go.WideShapes
theorem ZBv{H:Type}(d:DataW H):1<=Rows.uptoBulk d:=by
  cases d with
  |lit l=>cases l<;>simp[Rows.uptoBulk]
  |_=>simp[Rows.uptoBulk]
section
variable{H:Type}{enc:TypeId×Value->H}{P:Program}{w:World}{base:Nat}{spare:Nat->Bool}{held:Bool}
end
end Go.Proofs.YtonbfpnngkemiaaGreat
namespace Go.Proofs.YtonbfpnngkemiaaGreat.Rw
open Go Go.Fw Go.Js
theorem ZlH{n:Nat}(h:n<=maxLen):n<9223372036854775808:=by
  have e:maxLen=9223372036854775807:=by decide
  omega
theorem Zxo{w:World}{a:Addr}{v:Value}(h:w.cell? a=some v):a=⟨a.block,a.off,none⟩:=by
  obtain⟨b,o,s⟩:=a;unfold World.cell? at h;split at h
  ·cases s with
   |none=>rfl
   |some s=>simp at h
  ·cases h
theorem ZuX{b o i:Nat}:(⟨b,o,none⟩:Addr).add i=⟨b,o+i,none⟩:=Zoz b o i
theorem ZOB{n:Int}(h:(Lit.int .u8 n).wf=true):0<=n/\n<256:=by
  simp only[Lit.wf,Awn,decide_eq_true_eq]at h;have h1:IntKind.u8.min=0:=by decide
  have a:IntKind.u8.max=255:=by decide
  omega
theorem ZGG{n:Int}(h:(Lit.int .i64 n).wf=true): -9223372036854775808<=n/\n<9223372036854775808:=by
  simp only[Lit.wf,Awn,decide_eq_true_eq]at h;have h1:IntKind.i64.min= -9223372036854775808:=by decide
  have a:IntKind.i64.max=9223372036854775807:=by decide
  omega
theorem Zxk{α:Type}(f:α->Nat):∀l:List α,(l.map λx=>16*f x).sum=16*(l.map f).sum
  |[]=>rfl
  |x::l=>by rw[Awo,Azb,Zxk f l,Awo,Azb];omega
theorem ZBR{α:Type}{f g:α->Nat}:∀{l:List α},(∀x∈l,f x<=g x)->(l.map f).sum<=(l.map g).sum
  |[],_=>Aqo _
  | x::l,h=>by
    have:=h x (by simp);have:=ZBR (l:=l) λy a=>h y (Aws _ a);simp only[Awo,Azb];omega
theorem Zrh{H:Type}{d:DataW H}:∀{l:List (DataW H)},d∈l->Rows.uptoBulk d<=Rows.uptoBulkAll l
  |[],h=>by cases h
  | x::l,h=>by
    simp only[Rows.uptoBulkAll]
    rcases Awr.1 h with rfl|h
    ·omega
    ·have:=Zrh h;omega
theorem ZuP{H:Type}(D:Nat->DataW H):∀l:List Nat,Rows.uptoBulkAll (l.map D)=(l.map λi=>Rows.uptoBulk (D i)).sum
  |[]=>rfl
  |x::l=>by simp only[Awo,Rows.uptoBulkAll,Azb,ZuP D l]
end Go.Proofs.YtonbfpnngkemiaaGreat.Rw
namespace Go.Proofs.YtonbfpnngkemiaaGreat.Rw
open Go Go.Fw Go.Js
section
variable{H:Type}{enc:TypeId×Value->H}{P:Program}{w:World}{base:Nat}{spare:Nat->Bool}{held:Bool}
theorem ZyA{fs:Array Field}{l:List (TypeId×Nat)}(b:fs.toList.map (λf=>(f.type,f.offset))=l){i:Nat}{p:TypeId×Nat}(a:l[i]?=some p):∃f,fs[i]?=some f/\f.type=p.1/\f.offset=p.2:=by subst b;rw[Awy,Aza]at a;obtain⟨f,h1,rfl⟩:=a;exact⟨f,by simpa using h1,rfl,rfl⟩
theorem Zh2{α:Type}[Inhabited α]{g:α->List Value}{n:Nat}(j:∀a,(g a).length=n)(o:0<n){Pa:α->Prop}{μ:α->Nat}{u t:TypeId}{fuel N:Nat}{a:Option Addr}{len cap:Nat}{x:DataW H×List MemPlace}(hu:P.underlying u=some (.slice t))(G:P.cellsOf t=n)
    (elem:∀{fuel:Nat} {cs:List Value} {y:DataW H×List MemPlace},Rows.uptoBulk y.1<N->DataW.trod enc P w base spare held fuel t cs=some y->∃a:α,cs=g a/\Pa a/\μ a<=16*Rows.uptoBulk y.1)
    (I:Rows.uptoBulk x.1<=N) (h:DataW.trod enc P w base spare held fuel u [.slice a len cap]=some x):∃l:List α,(Row w.heap ⟨a,len,cap⟩ n (l.flatMap g)/\∀a,a∈l->Pa a)/\(l.map μ).sum+16<=16*Rows.uptoBulk x.1:=by
  rcases Deep.open_slice hu h with⟨b,rfl⟩ |⟨a',A,B,m,S,D,T,b,_,hl,hm,p,rfl,J⟩
  ·simp at b;obtain⟨rfl,rfl,rfl⟩:=b;exact⟨[],⟨Row.nil _ n,by simp⟩,by simp[Rows.uptoBulk]⟩
  ·simp at b
   obtain⟨rfl,rfl,rfl⟩:=b;have hlen:len<=m:=by rw[p];split<;>omega
   have c:cap<9223372036854775808:=ZlH hm
   have each:∀i,i<len->∃a:α,w.cells? base (a'.add (i*n)) n=some (g a)/\Pa a/\μ a<=16*Rows.uptoBulk (D i):=by
     intro i hi;obtain⟨K,h1,L⟩:=J i (by omega);rw[G]at h1
     obtain ⟨r,rfl,M,O⟩:=elem (by
       have:=Zrh (d:=D i) (l:=(List.range len).map D) (Axz.2 ⟨i,by simpa using hi,rfl⟩);simp only[Rows.uptoBulk]at I⊢
       omega) L
     exact⟨r,h1,M,O⟩
   obtain⟨f,q⟩:=Deep.choose_lt each;have cell:∀i,i<len->∀k,k<n->w.cell? ((a'.add (i*n)).add k)=(g (f i))[k]?:=λi hi k s=>(World.cells?_some (q i hi).1).2.2 k s;refine⟨(List.range len).map f,⟨⟨by rw[Zmy j];simp,hl,c,?_⟩,λa Q=>?_⟩,?_⟩
   ·rcases Aqw len with h0|h0
    ·exact .inl h0
    ·right
     have e:a'=⟨a'.block,a'.off,none⟩:=by
       have h0:=cell 0 (by omega) 0 o;have R:(a'.add (0*n)).add 0=a':=by rw[Aqs];rfl
       rw[R,Axy (by rw[j];exact o)]at h0;exact Zxo h0
     refine⟨a'.block,a'.off,by rw[<-e],ZuF λk v hv=>?_⟩
     have s:k<len*n:=by
       have:=ZBh hv;rw[Zmy j]at this;simpa using this
     have z:=Nat.div_add_mod k n;have hi:k / n<len:=(Nat.div_lt_iff_lt_mul o).2 s;have C:k % n<n:=Nat.mod_lt _ o;have E:=Zok j ((List.range len).map f) (k / n) (k % n) (f (k / n)) (by rw[Awy,List.getElem?_range hi];rfl) C;have F:k / n*n+k % n=k:=by rw[Nat.mul_comm];exact z
     rw[F,hv]at E;have:=cell (k / n) hi (k % n) C;rw[e,ZuX,ZuX,Zre,<-E]at this;rw[<-F,<-Aqh];exact this
   ·obtain⟨i,hi,rfl⟩:=Axz.1 Q;exact(q i (by simpa using hi)).2.1
   ·have h1:((List.range len).map λi=>μ (f i)).sum<=((List.range len).map λi=>16*Rows.uptoBulk (D i)).sum:=ZBR λi hi=>(q i (by simpa using hi)).2.2;rw[Zxk]at h1;simp only[Rows.uptoBulk,Aya,ZuP];have:((List.range len).map (μ ∘ f)).sum=((List.range len).map λi=>μ (f i)).sum:=rfl;omega
theorem Zyw:∀l:List BL,l.flatMap (λn=>[sV n])=l.map sV
  |[]=>rfl
  |a::l=>by rw[Aye,Zyw l];rfl
end
end Go.Proofs.YtonbfpnngkemiaaGreat.Rw
namespace Go.Js
open Go Go.Fw Go.Js
def ZoE(n:Int):Prop:= -9223372036854775808<=n/\n<=9223372036854775807
def FlowP.rng(f:FlowP):Prop:=ZoE f.cnt/\f.strat<256/\f.shape<256/\ZoE f.warm/\ZoE f.queue/\ZoE f.id
def YK.rng(f:YK):Prop:=f.grade<256/\ZoE f.cnt/\ZoE f.slow/\ZoE f.least/\ZoE f.window/\ZoE f.recover
def ZdX.rng(f:ZdX):Prop:=ZoE f.index/\ZoE f.cnt/\ZoE f.secs/\∀p,p∈f.items->ZoE p.2
def Zas.rng(f:Zas):Prop:=ZoE f.qps/\ZoE f.threads/\ZoE f.rt/\ZoE f.load/\ZoE f.cpu
def RulesP.rng(r:RulesP):Prop:=(∀f,f∈r.fl->f.rng)/\(∀f,f∈r.br->f.rng)/\(∀f,f∈r.ho->f.rng)/\∀f,f∈r.sy->f.rng
def FlowP.wt(f:FlowP):Nat:=1+f.res.length+f.org.length+f.ref.length
def YK.wt(f:YK):Nat:=1+f.res.length
def Zj7(p:BL×Int):Nat:=1+p.1.length
def ZdX.wt(f:ZdX):Nat:=1+f.res.length+(f.items.map Zj7).sum
def ZjO(t:BL):Nat:=1+t.length
def Zbi.wt(f:Zbi):Nat:=1+f.res.length+(f.origins.map ZjO).sum
def RulesP.wt(r:RulesP):Nat:=(r.fl.map FlowP.wt).sum+(r.br.map YK.wt).sum+(r.ho.map ZdX.wt).sum+(r.sy.map λ_=>1).sum+(r.li.map Zbi.wt).sum
end Go.Js
namespace Go.Proofs.YtonbfpnngkemiaaGreat.Rw
open Go Go.Fw Go.Js
def StT(P:Program)(t:TypeId)(tys:List TypeId):Prop:=∃fs:Array Field,P.underlying t=some (.struct fs)/\fs.toList.map (λf=>(f.type,f.offset))=tys.zipIdx/\P.cellsOf t=tys.length
end Go.Proofs.YtonbfpnngkemiaaGreat.Rw
namespace Go.Proofs.YtonbfpnngkemiaaGreat.Rw
open Go Go.Fw Go.Js
section
variable{H:Type}{enc:TypeId×Value->H}{P:Program}{w:World}{base:Nat}{spare:Nat->Bool}{held:Bool}
def ZCm(f:TypeId->Value->Option (DataW H×List MemPlace)):List TypeId->List Value->List (DataW H×List MemPlace)->Prop
  |[],[],[]=>True
  |u::us,c::cs,x::xs=>f u c=some x/\ZCm f us cs xs
  |_,_,_=>False
theorem ZCm.inv{f:TypeId->Value->Option (DataW H×List MemPlace)}{u:TypeId}{us:List TypeId}{cs:List Value}{xs:List (DataW H×List MemPlace)}(h:ZCm f (u::us) cs xs):∃c a x b,cs=c::a/\xs=x::b/\f u c=some x/\ZCm f us a b:=by
  match cs,xs,h with
  |c::cs,x::xs,h=>exact⟨c,cs,x,xs,rfl,rfl,h.1,h.2⟩
theorem ZCm.nil{f:TypeId->Value->Option (DataW H×List MemPlace)}{cs:List Value}{xs:List (DataW H×List MemPlace)}(h:ZCm f [] cs xs):cs=[]/\xs=[]:=by
  match cs,xs,h with
  |[],[],_=>exact⟨rfl,rfl⟩
theorem ZyX{f:TypeId->Value->Option (DataW H×List MemPlace)}:∀(tys:List TypeId) (cs:List Value) (xs:List (DataW H×List MemPlace)),cs.length=tys.length->xs.length=tys.length->
    (∀(i:Nat) u c x,tys[i]?=some u->cs[i]?=some c->xs[i]?=some x->f u c=some x)->ZCm f tys cs xs
  |[],[],[],_,_,_=>trivial
  |u::us,c::cs,x::xs,h1,e,h=>⟨h 0 u c x rfl rfl rfl,ZyX us cs xs (by simpa using h1) (by simpa using e) λi u c x a b d=>h (i+1) u c x (by simpa using a) (by simpa using b) (by simpa using d)⟩
  |[],_::_,_,h,_,_=>by simp at h
  |[],[],_::_,_,h,_=>by simp at h
  |_::_,[],_,h,_,_=>by simp at h
  |_::_,_::_,[],_,h,_=>by simp at h
theorem fieldsOf{t:TypeId}{tys:List TypeId}{fuel:Nat}{cs:List Value}{x:DataW H×List MemPlace}(st:StT P t tys)(h1:∀u,u∈tys->P.cellsOf u=1)(h:DataW.trod enc P w base spare held fuel t cs=some x):
    ∃(n:Nat) (xs:List (DataW H×List MemPlace)),ZCm (λu c=>DataW.trod enc P w base spare held n u [c]) tys cs xs/\Rows.uptoBulk x.1=Rows.uptoBulkAll (xs.map (·.1))+1:=by
  obtain⟨fs,j,g,r⟩:=st;obtain⟨xs,n,rfl,rfl,hlen,k,e⟩:=DataW.trod_struct j h
  have l:fs.size=tys.length:=by
    have:=congrArg List.length g;simpa using this
  refine⟨n,xs,ZyX tys cs xs (by omega) (by omega) λi u c x a b d=>?_,by simp only[Rows.uptoBulk]⟩;obtain⟨f,m,o,q⟩:=ZyA g (i:=i) (p:=(u,i)) (by rw[List.getElem?_zipIdx,a];simp);have:=e i f m;rw[o,q,h1 u (Axo a),d]at this;rw[<-this];congr 1;obtain⟨hi,rfl⟩:=Ayh.1 b;rw[Ayo hi];rfl
theorem ZDX{n:Nat}{ts:TypeId}{c:Value}{x:DataW H×List MemPlace}(a:P.underlying ts=some .string)(h:DataW.trod enc P w base spare held n ts [c]=some x):∃s:BL,c=sV s/\Rows.uptoBulk x.1=Rows.uptoBulk (.lit (.string s):DataW H):=by obtain⟨s,h1,b,_⟩:=DataW.trod_string a h;simp at h1;subst h1;exact⟨s.data.toList,rfl,by rw[b]⟩
theorem Zru{n:Nat}{ti:TypeId}{c:Value}{x:DataW H×List MemPlace}(a:P.underlying ti=some (.int .i64))(h:DataW.trod enc P w base spare held n ti [c]=some x):∃s:Int,c=i64 s/\ZoE s:=by obtain⟨s,h1,b,h3⟩:=DataW.trod_int a h;simp at h1;subst h1;have:=ZGG h3;exact⟨s,rfl,by unfold ZoE;omega⟩
theorem tU8{n:Nat}{ti:TypeId}{c:Value}{x:DataW H×List MemPlace}(a:P.underlying ti=some (.int .u8))(h:DataW.trod enc P w base spare held n ti [c]=some x):∃s:Nat,c=i8 s/\s<256:=by obtain⟨s,h1,b,h3⟩:=DataW.trod_int a h;simp at h1;subst h1;have:=ZOB h3;exact⟨s.toNat,by unfold i8;rw[Axe this.1],by omega⟩
theorem ZAO{n:Nat}{ti:TypeId}{c:Value}{x:DataW H×List MemPlace}(a:P.underlying ti=some .bool)(h:DataW.trod enc P w base spare held n ti [c]=some x):∃s:Bool,c= .bool s:=by obtain⟨s,h1,b⟩:=DataW.trod_bool a h;simp at h1;exact⟨s,h1⟩
theorem tSl{u e:TypeId}{n:Nat}{c:Value}{y:DataW H×List MemPlace}(hu:P.underlying u=some (.slice e))(f:DataW.trod enc P w base spare held n u [c]=some y):∃s:Sl,c=slV s:=by
  rcases Deep.open_slice hu f with⟨a,_⟩ |⟨a',b,d,m,g,D,h,a,_⟩
  ·simp at a;exact⟨⟨none,0,0⟩,a⟩
  ·simp at a;exact⟨⟨some a',b,d⟩,a⟩
theorem Zh1(s:BL):s.length+1<=Rows.uptoBulk (.lit (.string s):DataW H):=by simp only[Rows.uptoBulk];omega
structure TyR(P:Program)(tR tF tB tH tY tL tI ts tb ti tsg tsh tg sF sB sH sY sL sI sT:TypeId):Prop where
  R:StT P tR [sF,sB,sH,sY,sL]
  F:StT P tF [ts,ts,tb,ti,tsg,ts,tsh,ti,ti,tb,ti,tb]
  B:StT P tB [ts,tg,ti,ti,ti,ti,ti]
  H:StT P tH [ts,ti,ti,ti,sI]
  Y:StT P tY [ti,ti,ti,ti,ti]
  L:StT P tL [ts,tb,sT]
  I:StT P tI [ts,ti]
  s:P.underlying ts=some .string
  b:P.underlying tb=some .bool
  i:P.underlying ti=some (.int .i64)
  sg:P.underlying tsg=some (.int .u8)
  sh:P.underlying tsh=some (.int .u8)
  g:P.underlying tg=some (.int .u8)
  lF:P.underlying sF=some (.slice tF)
  lB:P.underlying sB=some (.slice tB)
  lH:P.underlying sH=some (.slice tH)
  lY:P.underlying sY=some (.slice tY)
  lL:P.underlying sL=some (.slice tL)
  lI:P.underlying sI=some (.slice tI)
  lT:P.underlying sT=some (.slice ts)
  one:([ts,tb,ti,tsg,tsh,tg,sF,sB,sH,sY,sL,sI,sT].all λu=>P.cellsOf u==1)=true
end
end Go.Proofs.YtonbfpnngkemiaaGreat.Rw
namespace Go.Proofs.YtonbfpnngkemiaaGreat.Rw
open Go Go.Fw Go.Js
section
variable{H:Type}{enc:TypeId×Value->H}{P:Program}{w:World}{base:Nat}{spare:Nat->Bool}{held:Bool}
variable{tR tF tB tH tY tL tI ts tb ti tsg tsh tg sF sB sH sY sL sI sT:TypeId}
theorem TyR.o(T:TyR P tR tF tB tH tY tL tI ts tb ti tsg tsh tg sF sB sH sY sL sI sT){tys:List TypeId}(h:∀u,u∈tys->u∈[ts,tb,ti,tsg,tsh,tg,sF,sB,sH,sY,sL,sI,sT]):∀u,u∈tys->P.cellsOf u=1:=λu hu=>by
  simpa using Axb.1 T.one u (h u hu)
theorem ZBB(T:TyR P tR tF tB tH tY tL tI ts tb ti tsg tsh tg sF sB sH sY sL sI sT){fuel:Nat}{cs:List Value}{x:DataW H×List MemPlace}(h:DataW.trod enc P w base spare held fuel tF cs=some x):∃a:FlowP,cs=ZcR a/\a.rng/\a.wt<=16*Rows.uptoBulk x.1:=by obtain⟨n,xs,c,r⟩:=fieldsOf T.F (T.o λu hu=>by simp only[Awr]at hu⊢;rcases hu with h|h|h|h|h|h|h|h|h|h|h|h|h<;>simp_all) h;obtain⟨_,cs,O,xs,rfl,rfl,h1,c⟩:=c.inv;obtain⟨_,cs,Q,xs,rfl,rfl,t,c⟩:=c.inv;obtain⟨_,cs,R,xs,rfl,rfl,h3,c⟩:=c.inv;obtain⟨_,cs,S,xs,rfl,rfl,v,c⟩:=c.inv;obtain⟨_,cs,U,xs,rfl,rfl,y,c⟩:=c.inv;obtain⟨_,cs,V,xs,rfl,rfl,z,c⟩:=c.inv;obtain⟨_,cs,W,xs,rfl,rfl,A,c⟩:=c.inv;obtain⟨_,cs,X,xs,rfl,rfl,B,c⟩:=c.inv;obtain⟨_,cs,Y,xs,rfl,rfl,C,c⟩:=c.inv;obtain⟨_,cs,D,xs,rfl,rfl,d,c⟩:=c.inv;obtain⟨_,cs,E,xs,rfl,rfl,e,c⟩:=c.inv;obtain⟨_,cs,G,xs,rfl,rfl,f,c⟩:=c.inv;obtain⟨rfl,rfl⟩:=c.nil;obtain⟨m,rfl,b1⟩:=ZDX T.s h1;obtain⟨p,rfl,b2⟩:=ZDX T.s t;obtain⟨a3,rfl⟩:=ZAO T.b h3;obtain⟨a4,rfl,I⟩:=Zru T.i v;obtain⟨a5,rfl,r5⟩:=tU8 T.sg y;obtain⟨q,rfl,Z⟩:=ZDX T.s z;obtain⟨J,rfl,K⟩:=tU8 T.sh A;obtain⟨L,rfl,M⟩:=Zru T.i B;obtain⟨a9,rfl,N⟩:=Zru T.i C;obtain⟨g,rfl⟩:=ZAO T.b d;obtain⟨j,rfl,k⟩:=Zru T.i e;obtain⟨l,rfl⟩:=ZAO T.b f;refine⟨⟨m,p,a3,a4,a5,q,J,L,a9,g,j,l⟩,rfl,⟨I,r5,K,M,N,k⟩,?_⟩;have l1:=Zh1 (H:=H) m;have l2:=Zh1 (H:=H) p;have l6:=Zh1 (H:=H) q;simp only[Awo,Rows.uptoBulkAll]at r;simp only[FlowP.wt];omega
theorem ZyW(T:TyR P tR tF tB tH tY tL tI ts tb ti tsg tsh tg sF sB sH sY sL sI sT){fuel:Nat}{cs:List Value}{x:DataW H×List MemPlace}(h:DataW.trod enc P w base spare held fuel tB cs=some x):∃a:YK,cs=ZbN a/\a.rng/\a.wt<=16*Rows.uptoBulk x.1:=by obtain⟨n,xs,b,d⟩:=fieldsOf T.B (T.o λu hu=>by simp only[Awr]at hu⊢;rcases hu with h|h|h|h|h|h|h|h<;>simp_all) h;obtain⟨_,cs,A,xs,rfl,rfl,h1,b⟩:=b.inv;obtain⟨_,cs,C,xs,rfl,rfl,e,b⟩:=b.inv;obtain⟨_,cs,D,xs,rfl,rfl,h3,b⟩:=b.inv;obtain⟨_,cs,E,xs,rfl,rfl,f,b⟩:=b.inv;obtain⟨_,cs,F,xs,rfl,rfl,j,b⟩:=b.inv;obtain⟨_,cs,G,xs,rfl,rfl,k,b⟩:=b.inv;obtain⟨_,cs,I,xs,rfl,rfl,l,b⟩:=b.inv;obtain⟨rfl,rfl⟩:=b.nil;obtain⟨c,rfl,b1⟩:=ZDX T.s h1;obtain⟨m,rfl,p⟩:=tU8 T.g e;obtain⟨a3,rfl,q⟩:=Zru T.i h3;obtain⟨a4,rfl,r⟩:=Zru T.i f;obtain⟨a5,rfl,r5⟩:=Zru T.i j;obtain⟨t,rfl,v⟩:=Zru T.i k;obtain⟨y,rfl,z⟩:=Zru T.i l;refine⟨⟨c,m,a3,a4,a5,t,y⟩,rfl,⟨p,q,r,r5,v,z⟩,?_⟩;have J:=Zh1 (H:=H) c;simp only[Awo,Rows.uptoBulkAll]at d;simp only[YK.wt];omega
theorem Zwm(T:TyR P tR tF tB tH tY tL tI ts tb ti tsg tsh tg sF sB sH sY sL sI sT){fuel:Nat}{cs:List Value}{x:DataW H×List MemPlace}(h:DataW.trod enc P w base spare held fuel tY cs=some x):∃a:Zas,cs=ZdB a/\a.rng/\1<=16*Rows.uptoBulk x.1:=by obtain⟨n,xs,b,p⟩:=fieldsOf T.Y (T.o λu hu=>by simp only[Awr]at hu⊢;rcases hu with h|h|h|h|h|h<;>simp_all) h;obtain⟨_,cs,q,xs,rfl,rfl,h1,b⟩:=b.inv;obtain⟨_,cs,r,xs,rfl,rfl,c,b⟩:=b.inv;obtain⟨_,cs,s,xs,rfl,rfl,h3,b⟩:=b.inv;obtain⟨_,cs,t,xs,rfl,rfl,d,b⟩:=b.inv;obtain⟨_,cs,v,xs,rfl,rfl,e,b⟩:=b.inv;obtain⟨rfl,rfl⟩:=b.nil;obtain⟨f,rfl,g⟩:=Zru T.i h1;obtain⟨j,rfl,k⟩:=Zru T.i c;obtain⟨a3,rfl,l⟩:=Zru T.i h3;obtain⟨a4,rfl,m⟩:=Zru T.i d;obtain⟨a5,rfl,r5⟩:=Zru T.i e;exact⟨⟨f,j,a3,a4,a5⟩,rfl,⟨g,k,l,m,r5⟩,by omega⟩
theorem ZBA(T:TyR P tR tF tB tH tY tL tI ts tb ti tsg tsh tg sF sB sH sY sL sI sT){fuel:Nat}{cs:List Value}{x:DataW H×List MemPlace}(h:DataW.trod enc P w base spare held fuel tI cs=some x):∃a:BL×Int,cs=[sV a.1,i64 a.2]/\ZoE a.2/\Zj7 a<=16*Rows.uptoBulk x.1:=by obtain⟨n,xs,b,d⟩:=fieldsOf T.I (T.o λu hu=>by simp only[Awr]at hu⊢;rcases hu with h|h|h<;>simp_all) h;obtain⟨_,cs,j,xs,rfl,rfl,h1,b⟩:=b.inv;obtain⟨_,cs,k,xs,rfl,rfl,e,b⟩:=b.inv;obtain⟨rfl,rfl⟩:=b.nil;obtain⟨c,rfl,b1⟩:=ZDX T.s h1;obtain⟨f,rfl,g⟩:=Zru T.i e;refine⟨(c,f),rfl,g,?_⟩;have l:=Zh1 (H:=H) c;simp only[Awo,Rows.uptoBulkAll]at d;simp only[Zj7];omega
theorem ZFc(T:TyR P tR tF tB tH tY tL tI ts tb ti tsg tsh tg sF sB sH sY sL sI sT){fuel:Nat}{cs:List Value}{x:DataW H×List MemPlace}(h:DataW.trod enc P w base spare held fuel tH cs=some x):
    ∃a:Sl×ZdX,cs=ZjI a/\(a.2.rng/\ZIF w.heap (λb=>b<sz w.heap) a)/\a.2.wt<=16*Rows.uptoBulk x.1:=by
  obtain⟨n,xs,c,l⟩:=fieldsOf T.H (T.o λu hu=>by simp only[Awr]at hu⊢;rcases hu with h|h|h|h|h|h<;>simp_all) h;obtain⟨_,cs,F,xs,rfl,rfl,h1,c⟩:=c.inv;obtain⟨_,cs,G,xs,rfl,rfl,m,c⟩:=c.inv;obtain⟨_,cs,J,xs,rfl,rfl,h3,c⟩:=c.inv;obtain⟨_,cs,K,xs,rfl,rfl,q,c⟩:=c.inv;obtain⟨_,cs,t,xs,rfl,rfl,f,c⟩:=c.inv;obtain⟨rfl,rfl⟩:=c.nil;obtain⟨j,rfl,b1⟩:=ZDX T.s h1;obtain⟨v,rfl,z⟩:=Zru T.i m;obtain⟨a3,rfl,A⟩:=Zru T.i h3;obtain⟨a4,rfl,B⟩:=Zru T.i q;obtain⟨s5,rfl⟩:=tSl T.lI f;obtain⟨fs,C,D,d⟩:=T.I
  obtain ⟨E,⟨k,ip⟩,ib⟩:=Zh2 (α:=BL×Int) (g:=λp=>[sV p.1,i64 p.2]) (n:=2) (Pa:=λp=>ZoE p.2) (μ:=Zj7) (N:=Rows.uptoBulk t.1) (λ_=>rfl) (by decide) T.lI d (λ{fuel cs y} _ h=>by
    obtain⟨a,e,r,b⟩:=ZBA T h
    exact⟨a,e,r,b⟩) (Aqo _) f
  refine⟨(s5,⟨j,v,a3,a4,E⟩),rfl,⟨⟨z,A,B,ip⟩,k,Zlv k (by decide)⟩,?_⟩;have L:=Zh1 (H:=H) j;simp only[Awo,Rows.uptoBulkAll]at l;simp only[ZdX.wt];omega
theorem ZBz(T:TyR P tR tF tB tH tY tL tI ts tb ti tsg tsh tg sF sB sH sY sL sI sT){fuel:Nat}{cs:List Value}{x:DataW H×List MemPlace}(h:DataW.trod enc P w base spare held fuel tL cs=some x):
    ∃a:Sl×Zbi,cs=Zhp a/\Zy8 w.heap (λb=>b<sz w.heap) a/\a.2.wt<=16*Rows.uptoBulk x.1:=by
  obtain⟨n,xs,c,j⟩:=fieldsOf T.L (T.o λu hu=>by simp only[Awr]at hu⊢;rcases hu with h|h|h|h<;>simp_all) h;obtain⟨_,cs,q,xs,rfl,rfl,h1,c⟩:=c.inv;obtain⟨_,cs,r,xs,rfl,rfl,k,c⟩:=c.inv;obtain⟨_,cs,l,xs,rfl,rfl,h3,c⟩:=c.inv;obtain⟨rfl,rfl⟩:=c.nil;obtain⟨f,rfl,b1⟩:=ZDX T.s h1;obtain⟨m,rfl⟩:=ZAO T.b k;obtain⟨i,rfl⟩:=tSl T.lT h3
  obtain ⟨nl,⟨p,_⟩,t⟩:=Zh2 (α:=BL) (g:=λn=>[sV n]) (n:=1) (Pa:=λ_=>True) (μ:=ZjO) (N:=Rows.uptoBulk l.1) (λ_=>rfl) (by decide) T.lT (T.o (tys:=[ts]) (by simp) ts (by simp)) (λ{fuel cs y} _ h=>by
    obtain⟨s,e,he,_⟩:=DataW.trod_string T.s h;refine⟨s.data.toList,by rw[e],trivial,?_⟩;rw[he];have:=Zh1 (H:=H) s.data.toList;simp only[ZjO]
    omega) (Aqo _) h3
  have d:Row w.heap i 1 (nl.map sV):=by rw[<-Zyw];exact p
  refine⟨(i,⟨f,m,nl⟩),rfl,⟨d,Zlv d (by decide)⟩,?_⟩;have v:=Zh1 (H:=H) f;simp only[Awo,Rows.uptoBulkAll]at j;simp only[Zbi.wt];omega
theorem ZyT(T:TyR P tR tF tB tH tY tL tI ts tb ti tsg tsh tg sF sB sH sY sL sI sT){fuel:Nat}{cs:List Value}{x:DataW H×List MemPlace}(h:DataW.trod enc P w base spare held fuel tR cs=some x):
    ∃(z:VTR) (r:RulesP),cs=Zjw z/\Yn w.heap (λb=>b<sz w.heap) z r/\r.rng/\r.wt<=16*Rows.uptoBulk x.1:=by
  obtain⟨n,xs,c,t⟩:=fieldsOf T.R (T.o λu hu=>by simp only[Awr]at hu⊢;rcases hu with h|h|h|h|h|h<;>simp_all) h;obtain⟨_,cs,v,xs,rfl,rfl,h1,c⟩:=c.inv;obtain⟨_,cs,A,xs,rfl,rfl,e,c⟩:=c.inv;obtain⟨_,cs,C,xs,rfl,rfl,h3,c⟩:=c.inv;obtain⟨_,cs,D,xs,rfl,rfl,i,c⟩:=c.inv;obtain⟨_,cs,E,xs,rfl,rfl,j,c⟩:=c.inv;obtain⟨rfl,rfl⟩:=c.nil;obtain⟨s1,rfl⟩:=tSl T.lF h1;obtain⟨s2,rfl⟩:=tSl T.lB e;obtain⟨G,rfl⟩:=tSl T.lH h3;obtain⟨s4,rfl⟩:=tSl T.lY i;obtain⟨s5,rfl⟩:=tSl T.lL j
  haveI:Inhabited FlowP:=⟨⟨[],[],false,0,0,[],0,0,0,false,0,false⟩⟩
  haveI:Inhabited YK:=⟨⟨[],0,0,0,0,0,0⟩⟩
  haveI:Inhabited Zas:=⟨⟨0,0,0,0,0⟩⟩
  haveI:Inhabited (Sl×ZdX):=⟨(⟨none,0,0⟩,⟨[],0,0,0,[]⟩)⟩
  haveI:Inhabited (Sl×Zbi):=⟨(⟨none,0,0⟩,⟨[],false,[]⟩)⟩
  obtain⟨f1,⟨k,I⟩,b1⟩:=Zh2 (α:=FlowP) (g:=ZcR) (n:=12) (Pa:=FlowP.rng) (μ:=FlowP.wt) (N:=Rows.uptoBulk v.1) (λ_=>rfl) (by decide) T.lF T.F.choose_spec.2.2 (λ{fuel cs y} _ h=>ZBB T h) (Aqo _) h1;obtain⟨f2,⟨l,J⟩,b2⟩:=Zh2 (α:=YK) (g:=ZbN) (n:=7) (Pa:=YK.rng) (μ:=YK.wt) (N:=Rows.uptoBulk A.1) (λ_=>rfl) (by decide) T.lB T.B.choose_spec.2.2 (λ{fuel cs y} _ h=>ZyW T h) (Aqo _) e;obtain⟨f3,⟨m,q⟩,O⟩:=Zh2 (α:=Sl×ZdX) (g:=ZjI) (n:=5) (Pa:=λa=>a.2.rng/\ZIF w.heap (λb=>b<sz w.heap) a) (μ:=λa=>a.2.wt) (N:=Rows.uptoBulk C.1) (λ_=>rfl) (by decide) T.lH T.H.choose_spec.2.2 (λ{fuel cs y} _ h=>ZFc T h) (Aqo _) h3;obtain⟨f4,⟨s,K⟩,b4⟩:=Zh2 (α:=Zas) (g:=ZdB) (n:=5) (Pa:=Zas.rng) (μ:=λ_=>1) (N:=Rows.uptoBulk D.1) (λ_=>rfl) (by decide) T.lY T.Y.choose_spec.2.2 (λ{fuel cs y} _ h=>Zwm T h) (Aqo _) i;obtain⟨f5,⟨r5,M⟩,Q⟩:=Zh2 (α:=Sl×Zbi) (g:=Zhp) (n:=3) (Pa:=λa=>Zy8 w.heap (λb=>b<sz w.heap) a) (μ:=λa=>a.2.wt) (N:=Rows.uptoBulk E.1) (λ_=>rfl) (by decide) T.lL T.L.choose_spec.2.2 (λ{fuel cs y} _ h=>ZBz T h) (Aqo _) j;refine⟨(s1,s2,G,s4,s5,()),⟨f1,f2,f3.map (·.2),f4,f5.map (·.2)⟩,rfl,⟨⟨k,Zlv k (by decide)⟩,⟨l,Zlv l (by decide)⟩,⟨f3,rfl,⟨m,Zlv m (by decide)⟩,λp d=>(q p d).2⟩,⟨s,Zlv s (by decide)⟩,⟨f5,rfl,⟨r5,Zlv r5 (by decide)⟩,M⟩⟩,⟨I,J,λf c=>?_,K⟩,?_⟩
  ·obtain⟨p,d,rfl⟩:=Axz.1 c;exact(q p d).1
  ·simp only[Awo,List.map_nil,Rows.uptoBulkAll]at t;simp only[RulesP.wt,Aya];have S:(f3.map (ZdX.wt ∘ λx=>x.2)).sum=(f3.map λa=>a.2.wt).sum:=rfl;have U:(f5.map (Zbi.wt ∘ λx=>x.2)).sum=(f5.map λa=>a.2.wt).sum:=rfl;omega
end
end Go.Proofs.YtonbfpnngkemiaaGreat.Rw
namespace Go.Proofs.YtonbfpnngkemiaaGreat
open Go Go.Fw Go.Js Go.ChangeShapes Go.WideShapes
theorem ZuJ:∀l:List ByteArray,l.flatMap (λs=>[Value.string s])=l.map .string
  |[]=>rfl
  |x::l=>by rw[Aye,ZuJ l];rfl
theorem Zh6{α:Type}{f:α->Nat}:∀{l:List α} {a:α},a∈l->f a<=(l.map f).sum
  |[],a,h=>by cases h
  | b::l,a,h=>by
    rw[Awo,Azb]
    rcases Awr.1 h with rfl|h
    ·omega
    ·have:=Zh6 (f:=f) h;omega
theorem ZiY{α:Type}{f:α->Nat}(c:∀a,1<=f a):∀(l:List α),l.length<=(l.map f).sum
  |[]=>Ayg _
  | b::l=>by
    rw[Awo,Azb,Aqj];have:=ZiY c l;have:=c b;omega
theorem Zyx{r:RulesP}(h:r.wt<=1000000000000):Rw.RulesP.fit r:=by
  unfold RulesP.wt at h;refine⟨λf b=>?_,λf b=>?_,λf b=>⟨?_,?_⟩,λf b=>⟨?_,λn c=>?_⟩⟩
  ·have h1:f.wt<=(r.fl.map FlowP.wt).sum:=Zh6 b;have e:f.wt=1+f.res.length+f.org.length+f.ref.length:=rfl;omega
  ·have h1:f.wt<=(r.br.map YK.wt).sum:=Zh6 b;have e:f.wt=1+f.res.length:=rfl;omega
  ·have h1:f.wt<=(r.ho.map ZdX.wt).sum:=Zh6 b;have e:f.wt=1+f.res.length+(f.items.map Zj7).sum:=rfl;omega
  ·have h1:f.wt<=(r.ho.map ZdX.wt).sum:=Zh6 b;have e:f.wt=1+f.res.length+(f.items.map Zj7).sum:=rfl;have d:=ZiY (f:=Zj7) (λa=>by unfold Zj7;omega) f.items;omega
  ·have h1:f.wt<=(r.li.map Zbi.wt).sum:=Zh6 b;have e:f.wt=1+f.res.length+(f.origins.map ZjO).sum:=rfl;omega
  ·have h1:f.wt<=(r.li.map Zbi.wt).sum:=Zh6 b;have e:f.wt=1+f.res.length+(f.origins.map ZjO).sum:=rfl;have d:ZjO n<=(f.origins.map ZjO).sum:=Zh6 c;have g:ZjO n=1+n.length:=rfl;omega
section
variable{H:Type}{enc:TypeId×Value->H}{P:Program}{w:World}{base:Nat}{spare:Nat->Bool}{held:Bool}
theorem ZyU{t:TypeId}{fs:Array Field}{cs:List Value}{fuel:Nat}{x:DataW H×List MemPlace}(F:P.underlying t=some (.struct fs))(G:P.cellsOf t=7){j ts tb v:TypeId}(k:P.underlying j=some (.int .i64))(e:P.underlying ts=some .string)(z:P.underlying tb=some .bool)(m:P.underlying v=some (.slice ts))
    (ci:P.cellsOf j=1) (o:P.cellsOf ts=1) (cb:P.cellsOf tb=1) (cl:P.cellsOf v=1) (B:fs.toList.map (λf=>(f.type,f.offset))=[(j,0),(ts,1),(ts,2),(ts,3),(tb,4),(j,5),(v,6)])
    (h:DataW.trod enc P w base spare held fuel t cs=some x):∃(c:PC) (sl:Sl) (al:List ByteArray),cs=c8L (Go.Proofs.YtonbfpnngkemiaaGreat.cl c sl)/\Row w.heap sl 1 (al.map .string)/\Zkr (Go.Proofs.YtonbfpnngkemiaaGreat.cl c nl)/\al.length<=16*Rows.uptoBulk x.1:=by
  obtain⟨xs,n,rfl,rfl,hl,hlen,q⟩:=DataW.trod_struct F h;rw[G]at hl
  have I:fs.size=7:=by
    have:=congrArg List.length B;simpa using this
  match cs,hl with
  | [c0,c1,J,K,L,M,O],_=>
    have b:∀{i:Nat} {p:TypeId×Nat} (hi:i<xs.length),([(j,0),(ts,1),(ts,2),(ts,3),(tb,4),(j,5),(v,6)]:List (TypeId×Nat))[i]?=some p->DataW.trod enc P w base spare held n p.1 (([c0,c1,J,K,L,M,O].drop p.2).take (P.cellsOf p.1))=some xs[i]:=λ{i p} hi Q=>by
      obtain⟨f,R,S,T⟩:=Rw.ZyA B Q;have:=q i f R;rw[S,T,Axy hi]at this;exact this
    have f0:=b (i:=0) (by omega) rfl;have f1:=b (i:=1) (by omega) rfl;have f2:=b (i:=2) (by omega) rfl;have f3:=b (i:=3) (by omega) rfl;have f4:=b (i:=4) (by omega) rfl;have f5:=b (i:=5) (by omega) rfl;have f6:=b (i:=6) (by omega) rfl;dsimp only at f0 f1 f2 f3 f4 f5 f6;rw[ci]at f0 f5;rw[o]at f1 f2 f3;rw[cb]at f4;rw[cl]at f6;obtain⟨U,h0,_⟩:=DataW.trod_int k f0;obtain⟨s1,h1,_,V⟩:=DataW.trod_string e f1;obtain⟨s2,C,_,W⟩:=DataW.trod_string e f2;obtain⟨X,h3,_,z3⟩:=DataW.trod_string e f3;obtain⟨b4,D,_⟩:=DataW.trod_bool z f4;obtain⟨Y,E,_⟩:=DataW.trod_int k f5;simp at h0 h1 C h3 D E;subst h0 h1 C h3 D E;obtain⟨Z,h6⟩:=Rw.tSl m f6;subst h6
    obtain ⟨al,⟨r,_⟩,u⟩:=Rw.Zh2 (α:=ByteArray) (g:=λs=>[Value.string s]) (n:=1) (Pa:=λ_=>True) (μ:=λ_=>1) (N:=Rows.uptoBulk (xs[6]'(by omega)).1) (λ_=>rfl) (by decide) m o (λ{fuel cs y} _ h=>by
      obtain⟨s,A,he,_⟩:=DataW.trod_string e h;have:=ZBv y.1
      exact⟨s,A,trivial,by omega⟩) (Aqo _) f6
    refine⟨(U,s1,s2,X,b4,Y),Z,al,rfl,?_,⟨Rw.ZlH V,Rw.ZlH W,Rw.ZlH z3⟩,?_⟩
    ·rw[<-ZuJ al];exact r
    ·have e1:(al.map λ_=>1).sum=al.length:=by
       clear r u
       induction al with
       |nil=>rfl
       |cons a l ih=>simp[ih];omega
     have hm:=Rw.Zrh (H:=H) (d:=(xs[6]'(by omega)).1) (l:=xs.map (·.1)) (Axz.2 ⟨_,Ayy _,rfl⟩);simp only[Rows.uptoBulk];omega
end
theorem tyR:Rw.TyR Tryz.prog 39 69 141 72 144 147 74 9 4 3 66 67 139 33 34 35 36 37 70 23 where
  R:=⟨_,Tryz.underlying39,by kernel_rfl,by kernel_rfl⟩
  F:=⟨_,Tryz.underlying69,by kernel_rfl,by kernel_rfl⟩
  B:=⟨_,Tryz.underlying141,by kernel_rfl,by kernel_rfl⟩
  H:=⟨_,Tryz.underlying72,by kernel_rfl,by kernel_rfl⟩
  Y:=⟨_,Tryz.underlying144,by kernel_rfl,by kernel_rfl⟩
  L:=⟨_,Tryz.underlying147,by kernel_rfl,by kernel_rfl⟩
  I:=⟨_,Tryz.underlying74,by kernel_rfl,by kernel_rfl⟩
  s:=Tryz.underlying9
  b:=Tryz.underlying4
  i:=Tryz.underlying3
  sg:=Tryz.underlying66
  sh:=Tryz.underlying67
  g:=Tryz.underlying139
  lF:=Tryz.underlying33
  lB:=Tryz.underlying34
  lH:=Tryz.underlying35
  lY:=Tryz.underlying36
  lL:=Tryz.underlying37
  lI:=Tryz.underlying70
  lT:=Tryz.underlying23
  one:=by kernel_rfl
theorem Zwn{H:Type}{enc:TypeId×Value->H}{w:World}{base:Nat}{spare:Nat->Bool}{held:Bool}{fuel:Nat}{cs:List Value}{x:DataW H×List MemPlace}(c:Rows.uptoBulk x.1<=1048576)
    (h:DataW.trod enc Tryz.prog w base spare held fuel 39 cs=some x):∃(z:Rw.VTR) (r:RulesP),cs=Rw.Zjw z/\Rw.Yn w.heap (λb=>b<sz w.heap) z r/\r.rng/\r.wt<=16777216:=by
  obtain⟨z,r,h1,a,h3,d⟩:=Rw.ZyT tyR h;exact⟨z,r,h1,a,h3,by omega⟩
theorem ZyV{H:Type}{enc:TypeId×Value->H}{w:World}{base:Nat}{spare:Nat->Bool}{held:Bool}{fuel:Nat}{cs:List Value}{x:DataW H×List MemPlace}
    (h:DataW.trod enc Tryz.prog w base spare held fuel 25 cs=some x):∃(c:PC) (sl:Sl),cs=c8L (Go.Proofs.YtonbfpnngkemiaaGreat.cl c sl):=by
  obtain⟨c,sl,al,h1,_⟩:=ZyU Tryz.underlying25 (by kernel_rfl) Tryz.underlying3 Tryz.underlying9 Tryz.underlying4 Tryz.underlying23 (by kernel_rfl) (by kernel_rfl) (by kernel_rfl) (by kernel_rfl) (by kernel_rfl) h;exact⟨c,sl,h1⟩
end Go.Proofs.YtonbfpnngkemiaaGreat
namespace Go.Proofs.YtonbfpnngkemiaaGreat
open Go Go.Fw Go.Js
theorem ZxV{r:RulesP}(h:r.wt<=100000000):Mid r:=by
  unfold RulesP.wt at h;have d:=ZiY (f:=FlowP.wt) (λa=>by unfold FlowP.wt;omega) r.fl;have g:=ZiY (f:=YK.wt) (λa=>by unfold YK.wt;omega) r.br;have a3:=ZiY (f:=ZdX.wt) (λa=>by unfold ZdX.wt;omega) r.ho;have a4:=ZiY (f:=λ_:Zas=>1) (λa=>Aqo _) r.sy;have a5:=ZiY (f:=Zbi.wt) (λa=>by unfold Zbi.wt;omega) r.li;refine⟨by omega,by omega,by omega,by omega,by omega,λf b=>?_,λf b=>?_⟩
  ·have h1:f.wt<=(r.ho.map ZdX.wt).sum:=Zh6 b;have e:f.wt=1+f.res.length+(f.items.map Zj7).sum:=rfl;have c:=ZiY (f:=Zj7) (λa=>by unfold Zj7;omega) f.items;omega
  ·have h1:f.wt<=(r.li.map Zbi.wt).sum:=Zh6 b;have e:f.wt=1+f.res.length+(f.origins.map ZjO).sum:=rfl;have c:=ZiY (f:=ZjO) (λa=>by unfold ZjO;omega) f.origins;omega
theorem Zo7{h:Zf}{c:PC}{sl:Sl}{z:Rw.VTR}{r:RulesP}{K:Bool->Zf->Prop}(a:Rw.Yn h (λb=>b<sz h) z r/\r.rng/\r.wt<=16777216)(d:∀h',Ext h h'->K true h'):XU (cl c sl) z K h:=
  ZA6 a.1 (Zyx (by have:=a.2.2;omega)) (ZxV (by have:=a.2.2;omega)) d
end Go.Proofs.YtonbfpnngkemiaaGreat
