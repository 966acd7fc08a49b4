/- The live part of the laws of the slots, with the general engine. -/
import Derived.Test.YthbfgkphlmlihaaGreatRows
import Derived.Deep.Slices
import Derived.ChangeSlices
import Derived.ChangeArms
import Derived.Test.YthbfgkphlmlihaaGreatProg
import Derived.KernelRfl
import Derived.Test.YthbfgkphlmlihaaGreatPa17
set_option linter.unusedVariables false
set_option linter.unusedSimpArgs false
namespace Go.Proofs.YthbfgkphlmlihaaGreat
open Go Go.Fw Go.Js
abbrev ZN1:ByteArray:=ByteArray.mk #[109,97,105,110]
def fA:FlowP:=⟨[97],[100,101,102,97,117,108,116],false,1,0,[],0,0,0,false,0,false⟩
def rA:RulesP:=⟨[fA],[],[],[],[]⟩
def cA:PC:=(0,sA,ZN1,em,false,1)
abbrev kA:K4:=(4,em,sA,em,())
theorem ZGJ:rA.whereE.2.2=0:=by decide
theorem ZOQ:Rw.RulesP.fit rA:=by
  refine ⟨λf a=>?_,λf a=>(by cases a),λf a=>(by cases a),λf a=>(by cases a)⟩;have:f=fA:=by simpa [rA] using a
  subst this;decide
theorem ZN4:ZmN [fA] (cl cA nl)=[0]:=by
  unfold ZmN Zf1 Zf1 cbK ZBc Zat;simp only [Zg1];decide
theorem ZRz:Ztj (Zat (Rw.ZaK fA) (cl cA nl))=kA:=by
  unfold Ztj Zat;simp only [Zg1];decide
def tA1:Tree:=Tree.zero.touched (cl cA nl)
def tA2:Tree:=(tA1.passed (cl cA nl)).touched (cl cA nl)
theorem ZGL:Zl1 (Rw.ZaK fA) (ZmM (tA1.f kA) 0).1 (oFl (tA1.f kA)) 1=true:=by decide
theorem ZGK:Zl1 (Rw.ZaK fA) (ZmM (tA2.f kA) 0).1 (oFl (tA2.f kA)) 1=false:=by decide
theorem Zxb:Zhu (cl cA nl):=⟨by decide,by decide,by decide⟩
def ZtR (t:Tree) (la op:Int):Int :=
  if ZiC (cl cA nl)≠0 then ZiC (cl cA nl) else if ¬ (0<=cA.1/\cA.1<=1152921504606846976) then 2 else if ¬ (1<=cA.2.2.2.2.2/\cA.2.2.2.2.2<=1099511627776) then 2 else if 8<([]:List ByteArray).length then 5 else if ZkZ []=true then 5
  else if cA.1<la then 7 else if 4096<=op then 3 else t.touchE (cl cA nl)
theorem ZDD:ZtR Tree.zero 0 0=0:=by decide
theorem ZDC:ZtR (tA1.passed (cl cA nl)) 0 1=0:=by decide
theorem ZG0 {G:GS} (a:G.r=rA) (d:G.fl=[(none,none)]):ZnK G cA [] false=if Zl1 (Rw.ZaK fA) (ZmM (G.t.f kA) 0).1 (oFl (G.t.f kA)) 1=true then (none,[],0) else (some (4,0),[],0):=by
  have e:ofK G.r 5 cA.2.1=[]:=by rw [a];decide
  have g:ofK G.r 3 cA.2.1=[]:=by rw [a];decide
  have h:ofK G.r 2 cA.2.1=[]:=by rw [a];decide
  have c:ZmN G.r.fl (cl cA nl)=[0]:=by rw [a];exact ZN4
  have l:stg G cA [] false 0 ([],0)=(none,([],0)):=by
    show Zfp (Zpr G cA) (ofK G.r 5 cA.2.1) ([],0)=_;rw [e];rfl
  have s1:stg G cA [] false 1 ([],0)=(none,([],0)):=rfl
  have s2:stg G cA [] false 2 ([],0)=(none,([],0)):=by
    show Zfp (ZnM G cA []) (ofK G.r 3 cA.2.1) ([],0)=_;rw [g];rfl
  have s4:stg G cA [] false 4 ([],0)=(none,([],0)):=by
    show Zfp (ZnN G cA) (ofK G.r 2 cA.2.1) ([],0)=_;rw [h];rfl
  have m:Zfn G cA false 0=⟨!Zl1 (Rw.ZaK fA) (ZmM (G.t.f kA) 0).1 (oFl (G.t.f kA)) 1,[],none⟩:=by
    unfold Zfn;rw [a,d];show (if fA.clu=true/\(false=true\/fA.fb=false) then _ else Zkr fA (none,none) (G.t.f (Ztj (Zat (Rw.ZaK fA) (cl cA nl)))) cA 0)=_;rw [ZRz,if_neg (by decide)];rfl
  have o:stg G cA [] false 3 ([],0)=if Zl1 (Rw.ZaK fA) (ZmM (G.t.f kA) 0).1 (oFl (G.t.f kA)) 1=true then (none,([],0)) else (some 0,([],0)):=by
    show Zfp (Zfn G cA false) (ZmN G.r.fl (cl cA nl)) ([],0)=_;rw [c];show (if (Zfn G cA false 0).b=true then (some (0:Int),([]:List Tk)++(Zfn G cA false 0).tk,wtV 0 (Zfn G cA false 0).wt) else (none,([]:List Tk)++(Zfn G cA false 0).tk,wtV 0 (Zfn G cA false 0).wt))=_;rw [m];cases Zl1 (Rw.ZaK fA) (ZmM (G.t.f kA) 0).1 (oFl (G.t.f kA)) 1<;>rfl
  have k:∀ (n j:Nat) (x:List Tk × Int),Zlo (stg G cA [] false) (n+1) j x=match (stg G cA [] false j x).1 with
    | some i=>(some (((j+1:Nat):Int),i),(stg G cA [] false j x).2)
    | none=>Zlo (stg G cA [] false) n (j+1) (stg G cA [] false j x).2:=λ_ _ _=>rfl
  unfold ZnK;rw [k,l];show Zlo _ 4 1 ([],0)=_;rw [k,s1];show Zlo _ 3 2 ([],0)=_;rw [k,s2];show Zlo _ 2 3 ([],0)=_;rw [k,o]
  cases Zl1 (Rw.ZaK fA) (ZmM (G.t.f kA) 0).1 (oFl (G.t.f kA)) 1 with
  | false=>rfl
  | true =>
    show Zlo _ 1 4 ([],0)=_;rw [k,s4];rfl
noncomputable def gA1:GS:=(GS.new 10 1).load rA
theorem ZEP:gA1.enter cA [] false=((1,(0,0,0,()),0),(gA1.mid cA).pass cA []):=by
  unfold GS.enter;rw [if_neg (λh=>h (show ZtR Tree.zero 0 0=0 from ZDD)),ZG0 (G:=gA1.mid cA) rfl rfl,if_pos (show Zl1 (Rw.ZaK fA) (ZmM ((gA1.mid cA).t.f kA) 0).1 (oFl ((gA1.mid cA).t.f kA)) 1=true from ZGL)];rfl
noncomputable def gA2:GS:=(gA1.mid cA).pass cA []
theorem ZEO:gA2.enter cA [] false=((0,(4,0,0,()),0),(gA2.mid cA).blocked cA):=by
  unfold GS.enter;rw [if_neg (λh=>h (show ZtR (tA1.passed (cl cA nl)) 0 1=0 from ZDC)),ZG0 (G:=gA2.mid cA) rfl rfl,if_neg (by rw [show Zl1 (Rw.ZaK fA) (ZmM ((gA2.mid cA).t.f kA) 0).1 (oFl ((gA2.mid cA).t.f kA)) 1=false from ZGK];decide)]
section
variable {h:Zf} {T:TgM} {L:Lay} {G:GS}
theorem ZyY {c:PC} {sl:Sl} {al:List ByteArray} (o:Zba h T L G) (ok:GOK G) (hz:Zhu (cl c nl)) (z:Row h sl 1 (al.map .string)) (e:∀ b,sl.blk=some b->b<sz h/\T b=none) {K:Int->V4->Int->Zf->Prop}
    (p:∀ h' T' q,Zba h' T' q (G.enter c al false).2->q.eb=L.eb->GrG T T' h h'->K (G.enter c al false).1.1 (G.enter c al false).1.2.1 (G.enter c al false).1.2.2 h'):Zbo (some ⟨L.eb,0,none⟩) (cl c sl) K h:=by
  unfold Zbo ZdB;refine ZI λh1 c1 A B=>Za (ZI λr C t D=>Za ?_);have a:=A.trans t;have d:=Zj c1 t;have s1:sz h1=sz h+1:=B;have s2:sz r=sz h1+1:=D;refine rI (Zb d rfl) (rS (Zb d rfl) (rS (Zb d rfl) (rS (Zb d rfl) (rB (Zb d rfl) (rI (Zb d rfl) (rL (s:=sl) (Zb d rfl) ?_))))));refine ZyZ (o.ext a) ok hz (z.ext a) (λb u=>⟨by have:=(e b u).1;omega,(e b u).2⟩) λh3 w E F eb f=>Za ?_;have x:T (sz h1)=none:=Classical.byContradiction λi=>by have:=o.hT _ i;omega
  have H:obj h3 (sz h1)=_:=(f.old (show sz h1<sz r by omega) x).trans C
  have k:w (sz h1)=none:=Classical.byContradiction λi=>by
    rcases f.n _ i with g | g
    ·exact g x
    ·omega
  generalize (G.enter c al false).1.2.1=v at p ⊢;obtain ⟨v1,v2,v3,v4⟩:=v;refine Zbb H λI l y z4=>Za (rI (Zb l rfl) (rI (Zb l rfl) (rI (Zb l rfl) (p I w E (F.frame y λj m=>by rw [show j=sz h1 from m];exact k) eb ((GrG.pre a f).new y λj m=>by have J:j=sz h1:=m;omega)))))
end
theorem ZD9 {h:Zf} {mb n:Nat} {v:Value} (hm:ZlE h mb (upd (λ_=>none) 1 (some v)) n):ZuH h mb [1]:=by
  obtain ⟨es,c,d,hs,i,he⟩:=hm;refine ⟨es,c,d,hs,?_,by simp,λx f=>by simp at f;omega⟩;have hd:=((MapKept.stamped_iff es c).1 hs).2.2
  have a:∀ e∈es.toList,e.key=iv 1:=λe hm=>by
    obtain ⟨k,g,hv⟩:=he.to_ e hm;unfold upd at hv;split at hv
    ·rename_i b;rw [g,b]
    ·cases hv
  obtain ⟨e,hm,_⟩:=he.of 1 v (ZdT _ _ _)
  cases hl:es.toList with
  | nil=>rw [hl] at hm;cases hm
  | cons x l =>
    rw [hl] at a hd
    cases l with
    | nil=>simp [a x (List.mem_cons_self ..)]
    | cons y l =>
      have h1:=List.pairwise_cons.1 hd;exact absurd ((a x (List.mem_cons_self ..)).trans (a y (by simp)).symm) (h1.1 y (List.mem_cons_self ..))
theorem ZGN {h:Zf} {T:TgM} {L:Lay} {G:GS} (d:Zba h T L G) {e:Ent} (x:G.en=upd (λ_=>none) 1 (some e)) (ho:e.ov=false) {K:Sl->Zf->Prop} (y:∀ h' s,Ext h h'->s.len=1->K s h'):ZbK (some ⟨L.eb,0,none⟩) K h:=by
  obtain ⟨f,n,z⟩:=d.ent
  obtain ⟨g,A⟩:∃ g,f=upd (λ_=>none) 1 (some (ZHq e.c e.ov g)):=by
    rcases z.e 1 with ⟨k,_⟩ | ⟨W,s',k,J,_⟩
    ·rw [x,ZdT] at k;cases k
    ·rw [x,ZdT] at k
     cases k;refine ⟨s',funext λj=>?_⟩
     by_cases q:j=1
     ·subst q;rw [J,ZdT]
     ·rw [Zh7 _ _ q]
      rcases z.e j with ⟨_,b2⟩ | ⟨M,N,b1,_⟩
      ·exact b2
      ·rw [x,Zh7 _ _ q] at b1;cases b1
  have hm:=z.m;rw [A] at hm;unfold ZbK Zeh;refine ZI λh1 c1 l X=>rP (Zb c1 rfl) (Zi rfl (rP (Zb c1 rfl) (Zg (rM (Zb (d.ext l).cells rfl) ?_))));unfold Yx;refine ZI λO P r Y=>?_;have R:=(d.ext l).ext r;have B:=Zby d.hT d.fT;have a:ZlE O L.fm (upd (λ_=>none) 1 (some (ZHq e.c e.ov g))) n:=hm.congr (ZG (l.trans r) B);refine ⟨_,L.fm,[1],rfl,by rw [Yo];exact Zb P rfl,ZD9 a,by decide,λs h3 I t=>?_⟩;have hl:s.len=1:=by have:=I.len;simp at this;omega
  have S:=R.ext t;have C:ZlE h3 L.fm (upd (λ_=>none) 1 (some (ZHq e.c e.ov g))) n:=a.congr (ZG t a.lt);have D:=(l.trans r).trans t;have U:=Zj (Zj c1 r) t;unfold Ys Yu Yw Yy;refine Za (Zbf (λp w=>(p.1=0\/p.1=1)/\w=h3) (λp _=>(1 - p.1).toNat) ⟨.inl rfl,rfl⟩ ?_);rintro ⟨i,u⟩ w ⟨hi,E⟩ Q V;subst E;dsimp only at hi ⊢
  rcases hi with hi | hi
  ·subst hi
   rw [hl]
   have F:∀ {K:Nat->Nat->Prop},(∀ b o,Zf.cell w b o=some (iv 1)->K b o)->YS s.ptr 1 0 1 K:=λ{K} y=>by
     have:=I.row.idx (i:=0) (n:=0) (v:=iv 1) rfl rfl (K:=K) λb o _ H=>y b (o+0) H;rwa [hl] at this
   refine Zl rfl (Za (F λb o H=>⟨1,H,?_⟩));unfold Za5 Zc0;refine Zg (rP (Zb U rfl) (Zg (rM (Zb S.cells rfl) (C.get 1 ⟨(e.c.1,e.c.2.1,e.c.2.2.1,e.c.2.2.2.1,e.c.2.2.2.2.1,e.c.2.2.2.2.2.1,nl,e.ov,g,()),?_,Zd (Zi (by rw [ho]) (V _ _ ⟨.inr (by decide),rfl⟩ (show (1 - IntKind.wrap .i64 (0+1)).toNat<(1 - (0:Int)).toNat by decide)))⟩))));rw [ZdT];rfl
  ·subst hi
   rw [hl];exact Zi rfl (Za (Za (Zl rfl (y w s D hl))))
theorem ZBO {h:Zf} {K:Bool->Zf->Prop} (i:∀ h',Ext h h'->K true h'):Zbk K h:=by
  unfold Zbk Zdv;refine ZE4 (by decide) λh1 T1 L1 E1 n1 e1=>Za (Zi rfl (Zi rfl (ZI λC c2 e2 z2=>?_)));have A:∀ {S:Nat->Prop},Rw.inS S nl:=λ{S} hl=>absurd rfl hl;have hr:Rw.Y8 C (· = sz h1) (⟨some ⟨sz h1,0,none⟩,1,1⟩,nl,nl,nl,nl,()) rA:=⟨⟨Zj4 c2 rfl,λ_ b q=>(Option.some.inj q).symm⟩,⟨Row.nil _ _,A⟩,⟨[],rfl,⟨Row.nil _ _,A⟩,λp D=>(by cases D)⟩,⟨Row.nil _ _,A⟩,⟨[],rfl,⟨Row.nil _ _,A⟩,λp D=>(by cases D)⟩⟩;have s2:sz C=sz h1+1:=z2;have w1:sz h<=sz h1:=e1.size;have t1:∀ j,T1 j≠none->sz h<=j:=n1;have base:∀ {T':TgM} {a b:Zf},GrG T1 T' a b->sz h<=sz a->∀ j,T' j≠none->sz h<=j:=λ{T' a b} g ha j E=>(g.n j E).elim (t1 j) λd=>by omega
  refine Zsm (E1.ext e2) (GOK.new (by decide)) hr (λb q=>by have e':b=sz h1:=q;omega) ZOQ (λ_ h3 F L3 E3 H g3=>?_) λe he I=>absurd (he.symm.trans ZGJ) I;have o:Ext h h3:=(e1.trans e2).then g3.u λk i=>t1 k i
  refine Za (ZI λh4 c4 e4 z4=>Zbb c4 λt l u5 z5=>?_);have v:Ext h3 t:=e4.then u5 λk i=>by subst i;exact Aqo _
  have E5:=E3.ext v;have w3:sz h<=sz h3:=o.size;have J:sz h3<sz t:=Zp l;have n3:∀ j,F j≠none->j<sz h3:=E3.hT;have t3:F (sz h3)=none:=Classical.byContradiction λd=>by have:=n3 _ d;omega
  have b3:∀ j,F j≠none->sz h<=j:=base g3 (by omega);rw [<- H];refine rI (Zb l rfl) (rS (Zb l rfl) (rS (Zb l rfl) (rS (Zb l rfl) (rB (Zb l rfl) (rI (Zb l rfl) (rL (s:=nl) (Zb l rfl) ?_))))));have w:GOK gA1:=GOK.load (GOK.new (by decide)) ZGJ ZOQ;refine ZyY (c:=cA) (sl:=nl) (al:=[]) (G:=gA1) E5 w Zxb (Row.nil _ _) (λb q=>by cases q) λm B L6 L M x=>?_;rw [ZEP] at L ⊢;dsimp only at L ⊢;have y:Zba m B L6 gA2:=L;have N:GOK gA2:=(GOK.mid w).pass Zxb;have c6:obj m (sz h3)=_:=(x.old (show sz h3<sz t from J) t3).trans l
  have t6:∀ j,sz h3<=j->j<sz t->B j=none:=λj h1 C=>Classical.byContradiction λd=>by
    rcases x.n j d with g | g
    ·have:=n3 j g;omega
    ·omega
  have b6:∀ j,B j≠none->sz h<=j:=λj E=>(x.n j E).elim (b3 j) λd=>by omega
  have aC:sz t<=sz m:=x.u.size;refine ZI λh7 c7 e7 z7=>Za (Zbb c7 λO c8 u8 z8=>Za ?_);have r:Ext m O:=e7.then u8 λk i=>by subst i;exact Aqo _
  have d8:=Zj c6 r;have P:sz m<sz O:=Zp c8;refine rI (Zb d8 rfl) (rS (Zb d8 rfl) (rS (Zb d8 rfl) (rS (Zb d8 rfl) (rB (Zb d8 rfl) (rI (Zb d8 rfl) (rL (s:=nl) (Zb d8 rfl) ?_))))));rw [<- M];refine ZyY (c:=cA) (sl:=nl) (al:=[]) (G:=gA2) (y.ext r) N Zxb (Row.nil _ _) (λb q=>by cases q) λd T9 L9 Q R g9=>?_;rw [ZEO] at Q ⊢;dsimp only at Q ⊢;have t68:B (sz m)=none:=Classical.byContradiction λd=>by have:=y.hT _ d;omega
  have c9:obj d (sz m)=_:=(g9.old (show sz m<sz O from P) t68).trans c8;refine ZI λaG T U aH=>Za (Zbb T λV W X aI=>Za ?_);have f:Ext d V:=U.then X λk i=>by subst i;exact Aqo _
  have z:=Zj c9 f;refine Zl rfl (Zl rfl (rI (Zb z rfl) (Zl rfl (Zl rfl (Zl rfl (rI (Zb W rfl) (Zl rfl (Zl rfl ?_))))))));rw [<- R];refine ZGN (Q.ext f) (e:=⟨cl cA nl,false,[]⟩) rfl rfl λY s Z hs=>Zd ?_;rw [hs];refine i Y ?_;have x6:Ext h m:=(o.trans v).then x.u b3
  have x9:Ext h d:=(x6.trans r).then g9.u b6
  exact (x9.trans f).trans Z
structure ZoR where
  k:Int
  c:PC
  al:List ByteArray
  gr:Bool
  num:Int
  at_:Int
  fl:Bool
  r:RulesP
  ld:Int
  cp:Int
abbrev ZHr (d:ZoR) (sl:Sl) (z:Rw.VTR):List Value:=[iv d.k,iv d.c.1,.string d.c.2.1,.string d.c.2.2.1,.string d.c.2.2.2.1,.bool d.c.2.2.2.2.1,iv d.c.2.2.2.2.2,slV sl,.bool d.gr,iv d.num,iv d.at_,.bool d.fl,slV z.1,slV z.2.1,slV z.2.2.1,slV z.2.2.2.1,slV z.2.2.2.2.1,iv d.ld,iv d.cp]
abbrev ZOl (d:ZoR) (sl:Sl) (z:Rw.VTR):Int × Int × ByteArray × ByteArray × ByteArray × Bool × Int × Sl × Bool × Int × Int × Bool × Sl × Sl × Sl × Sl × Sl × Int × Int × Unit:=(d.k,d.c.1,d.c.2.1,d.c.2.2.1,d.c.2.2.2.1,d.c.2.2.2.2.1,d.c.2.2.2.2.2,sl,d.gr,d.num,d.at_,d.fl,z.1,z.2.1,z.2.2.1,z.2.2.2.1,z.2.2.2.2.1,d.ld,d.cp,())
abbrev Ztu (d:ZoR) (sl:Sl) (z:Rw.VTR):Obj:= .cells (ZHr d sl z).toArray 58 (0,0)
structure Zj1 (h:Zf) (base:Nat) (d:ZoR) (sl:Sl) (z:Rw.VTR):Prop where
  a:Row h sl 1 (d.al.map .string)
  ab:Rw.inS (· < base) sl
  al:d.al.length<=8796093022208
  zz:Zhu (cl d.c nl)
  r:Rw.Y8 h (· < base) z d.r
  f:Rw.RulesP.fit d.r
theorem Zj1.keep {h h':Zf} {base:Nat} {d:ZoR} {sl:Sl} {z:Rw.VTR} (i:Zj1 h base d sl z) (k:∀ j,j<base->obj h' j=obj h j):Zj1 h' base d sl z :=
  ⟨Rw.ZgE i.a i.ab λb c _=>k b c,i.ab,i.al,i.zz,i.r.keep λb c _=>k b c,i.f⟩
open Classical in
noncomputable def GS.deed (G:GS) (d:ZoR):GS:=if d.k=0 then (G.enter d.c d.al d.gr).2 else if d.k=1 then (G.exit d.num d.at_ d.fl).2 else if d.k=2 then (if d.r.whereE.2.2=0 then G.load d.r else G) else (G.sample d.ld d.cp).2
theorem GOK.deed {G:GS} {d:ZoR} (ok:GOK G) (hz:Zhu (cl d.c nl)) (a:Rw.RulesP.fit d.r):GOK (G.deed d):=by
  unfold GS.deed;split
  ·exact ok.enter hz
  ·split
   ·exact ok.exit
   ·split
    ·split
     ·rename_i q;exact ok.load q a
     ·exact ok
    ·exact ok.sample
theorem Zut {c:PC} {sl:Sl} {al:List ByteArray} {h:Zf} (w:Row h sl 1 (al.map .string)) (hl:al.length<=8796093022208) {K:C8->Zf->Prop} (b:∀ h' s,Ext h h'->Own h' (sz h) s 1 (al.map .string)->K (cl c s) h'):Xf (cl c sl) K h:=by
  unfold Xf Zck;have l:sl.len=al.length:=by have:=w.len;simp at this;omega
  refine ZI λh1 c1 B C=>ZI λa D y E=>ZI λh3 F m z3=>?_;have g:=(B.trans y).trans m;have w1:sz h1=sz h+1:=C;have O:sz a=sz h1+1:=E;have P:sz h3=sz a+1:=z3;have i:=Zj (Zj c1 y) m;have o:=Zj D m;refine rL (s:=sl) (Zb i rfl) ((w.ext g).rd ?_);have G:Own h3 (sz a) ⟨some ⟨sz a,0,none⟩,0,0⟩ 1 []:=⟨rfl,Aqo _,(show 0<9223372036854775808 by decide),.inr ⟨sz a,_,_,rfl,Aqo _,F,rfl,rfl⟩⟩;refine G.app (n:=sl.len) (by simp [l]) (by rw [Axb];intro v hv;obtain ⟨x,_,rfl⟩:=Axz.1 hv;rfl) rfl (by show (0+sl.len)*16<=_;omega) (by show 0+sl.len<=_;omega) (by show sz a<=sz h3;omega) λt H I _ J _=>?_;have d:Upd (· = sz a) h3 H:=J.mono λj _ L=>(Option.some.inj L).symm;have p:=YZ i d (show ¬ sz h=sz a by omega);have q:=YZ o d (show ¬ sz h1=sz a by omega);refine Zbg p (show 0+6<7 by decide) rfl λQ e r z5=>?_;have u:=YZ q r (show ¬ sz h1=sz h by omega);refine rI (Zb e rfl) (rS (Zb e rfl) (rS (Zb e rfl) (rS (Zb e rfl) (rB (Zb e rfl) (rI (Zb e rfl) (rL (s:=t) (Zb e rfl) (Zbb u λz f A z6=>?_)))))));refine rI (Zb f rfl) (rS (Zb f rfl) (rS (Zb f rfl) (rS (Zb f rfl) (rB (Zb f rfl) (rI (Zb f rfl) (rL (s:=t) (Zb f rfl) (b z t ?_ ?_)))))))
  ·refine ((g.then d λk b=>?_).then r λk b=>?_).then A λk b=>?_
   ·subst b;show sz h<=sz a;omega
   ·subst b;exact Aqo _
   ·subst b;show sz h<=sz h1;omega
  ·have M:=Zsu I r (show sz h<sz a by omega)
   have N:=Zsu M A (show sz h1<sz a by omega);exact (by simpa using N:Own z (sz a) t 1 (al.map .string)).base (by omega)
section
variable {h:Zf} {T:TgM} {L:Lay} {G:GS} {d:ZoR} {sl:Sl} {z:Rw.VTR}
theorem ZBE {b1 base:Nat} (hE:Zba h T L G) (ok:GOK G) (o:Zj1 h base d sl z) (cb:obj h b1=some (Ztu d sl z)) (tb:T b1=none) {J:Int × Option Addr × Int × Unit->Zf->Prop}
    (hJ:∀ h' T' l i,Zba h' T' l (G.enter d.c d.al d.gr).2->l.eb=L.eb->GrG T T' h h'->obj h' i=some (.cells [.int .u8 (G.enter d.c d.al d.gr).1.2.1.1,iv (G.enter d.c d.al d.gr).1.2.1.2.1,iv (G.enter d.c d.al d.gr).1.2.1.2.2.1].toArray 42 (0,0))->sz h<=i->T' i=none->J ((G.enter d.c d.al d.gr).1.1,some ⟨i,0,none⟩,(G.enter d.c d.al d.gr).1.2.2,()) h') :
    ldI h b1 (0+1) .i64 λt5=>ldS h b1 (0+1+1) λt6=>ldS h b1 (0+1+2) λt7=>ldS h b1 (0+1+3) λt8=>ldB h b1 (0+1+4) λt9=>ldI h b1 (0+1+5) .i64 λt10=>ldL h b1 (0+1+6) λt11=>ldB h b1 (0+8) λt12=>Zjj ( Xf (t5,t6,t7,t8,t9,t10,t11,()) (λt13 q=>Zu (Zo q [(b1,0+8,.bool t12)]) <| Zjj ( YF (some ⟨L.eb,0,none⟩) (t13.1,t13.2.1,t13.2.2.1,t13.2.2.2.1,t13.2.2.2.2.1,t13.2.2.2.2.2.1,⟨t13.2.2.2.2.2.2.1.ptr,t13.2.2.2.2.2.2.1.len,t13.2.2.2.2.2.2.1.cap⟩,()) t12 (λt15 t16 t17 K=>newC K [.int .u8 0,iv 0,iv 0] 42 λx M=>Zc t15 λn=>sts M x 0 [.int .u8 t16.1,iv t16.2.1,iv t16.2.2.1] λN=>Zc t17 λf=>J (n,some ⟨x,0,none⟩,f,()) N) q) ( newC q [.int .u8 0,iv 0,iv 0] 42 λy A=>Zu (Zo A [(b1,0+8,.bool t12)]) <| YF (some ⟨L.eb,0,none⟩) (t13.1,t13.2.1,t13.2.2.1,t13.2.2.2.1,t13.2.2.2.2.1,t13.2.2.2.2.2.1,⟨t13.2.2.2.2.2.2.1.ptr,t13.2.2.2.2.2.2.1.len,t13.2.2.2.2.2.2.1.cap⟩,()) t12 (λt24 t25 t26 O=>Zc t24 λn28=>sts O y 0 [.int .u8 t25.1,iv t25.2.1,iv t25.2.2.1] λP=>Zc t26 λf30=>J (n28,some ⟨y,0,none⟩,f30,()) P) A)) h) ( newC h [.int .u8 0,iv 0,iv 0] 42 λB r=>Zu (Zo r [(b1,0+8,.bool t12)]) <| Zu (Zo r [(b1,0+1,iv t5),(b1,0+1+1,.string t6),(b1,0+1+2,.string t7),(b1,0+1+3,.string t8),(b1,0+1+4,.bool t9),(b1,0+1+5,iv t10),(b1,0+1+6,.slice t11.ptr t11.len t11.cap)]) <| Xf (t5,t6,t7,t8,t9,t10,t11,()) (λt33 C=>Zu (Zo C [(b1,0+8,.bool t12)]) <| YF (some ⟨L.eb,0,none⟩) (t33.1,t33.2.1,t33.2.2.1,t33.2.2.2.1,t33.2.2.2.2.1,t33.2.2.2.2.2.1,⟨t33.2.2.2.2.2.2.1.ptr,t33.2.2.2.2.2.2.1.len,t33.2.2.2.2.2.2.1.cap⟩,()) t12 (λt35 t36 t37 R=>Zc t35 λn39=>sts R B 0 [.int .u8 t36.1,iv t36.2.1,iv t36.2.2.1] λS=>Zc t37 λf41=>J (n39,some ⟨B,0,none⟩,f41,()) S) C) r):=by
  have H:∀ E,obj E b1=obj h b1->Zo E [(b1,0+8,.bool d.gr)]/\Zo E [(b1,0+1,iv d.c.1),(b1,0+1+1,.string d.c.2.1),(b1,0+1+2,.string d.c.2.2.1),(b1,0+1+3,.string d.c.2.2.2.1),(b1,0+1+4,.bool d.c.2.2.2.2.1),(b1,0+1+5,iv d.c.2.2.2.2.2),(b1,0+1+6,slV sl)]:=λE e=>by
    have c:=e.trans cb;exact ⟨ZZ (Zb c rfl),Zb c rfl,Zb c rfl,Zb c rfl,Zb c rfl,Zb c rfl,Zb c rfl,Zb c rfl,trivial⟩
  have lb:=Zp cb;have U:∀ j,sz h<=j->T j=none:=λj F=>Classical.byContradiction λD=>by have:=hE.hT j D;omega
  have ent:∀ {h1:Zf} {s:Sl},Ext h h1->Own h1 (sz h) s 1 (d.al.map .string)->∀ {Q:Int->V4->Int->Zf->Prop},(∀ h' T' l,Zba h' T' l (G.enter d.c d.al d.gr).2->l.eb=L.eb->GrG T T' h h'->(∀ j,sz h<=j->j<sz h1->obj h' j=obj h1 j/\T' j=none)->Q (G.enter d.c d.al d.gr).1.1 (G.enter d.c d.al d.gr).1.2.1 (G.enter d.c d.al d.gr).1.2.2 h')->YF (some ⟨L.eb,0,none⟩) (cl d.c s) d.gr Q h1:=λ{h1 s} k v {Q} hQ =>
    ZyZ (hE.ext k) ok o.zz v.row (λb hb=>⟨(v.lt hb).2,U b (v.lt hb).1⟩) λh' T' l V eb g'=>hQ h' T' l V eb (GrG.pre k g') λj m h3=>⟨g'.old h3 (U j m),Classical.byContradiction λD=>by
     rcases g'.n j D with g | g
     ·exact g (U j m)
     ·omega⟩
  have box:∀ {h':Zf} {T':TgM} {l:Lay},Zba h' T' l (G.enter d.c d.al d.gr).2->l.eb=L.eb->GrG T T' h h'->∀ {i:Nat},obj h' i=some (.cells [.int .u8 0,iv 0,iv 0].toArray 42 (0,0))->sz h<=i->T' i=none->sts h' i 0 [.int .u8 (G.enter d.c d.al d.gr).1.2.1.1,iv (G.enter d.c d.al d.gr).1.2.1.2.1,iv (G.enter d.c d.al d.gr).1.2.1.2.2.1] λW=>J ((G.enter d.c d.al d.gr).1.1,some ⟨i,0,none⟩,(G.enter d.c d.al d.gr).1.2.2,()) W:=λ{h' T' l} V eb g' {i} cv lv tv =>
    Zbb cv λh6 c6 u6 z6=>hJ h6 T' l i (V.frame u6 λj F=>by rw [show j=i from F];exact tv) eb (g'.new u6 λj F=>by rw [show j=i from F];exact lv) c6 lv tv
  refine rI (Zb cb rfl) (rS (Zb cb rfl) (rS (Zb cb rfl) (rS (Zb cb rfl) (rB (Zb cb rfl) (rI (Zb cb rfl) (rL (s:=sl) (Zb cb rfl) (rB (Zb cb rfl) ⟨?_,?_⟩)))))))
  ·refine Zut o.a o.al λh1 s k v=>⟨(H h1 (k.old b1 lb)).1,?_,?_⟩
   ·refine ent k v λm T2 L2 E2 X g2 I=>ZI λh3 c3 e3 z3=>Za ?_
    have w:sz h<=sz m:=g2.u.size;exact box (E2.ext e3) X (g2.then e3) c3 w (Classical.byContradiction λD=>by have ay:sz m<sz m:=E2.hT _ D;omega)
   ·refine ZI λm c2 p z2=>⟨(H m ((k.trans p).old b1 lb)).1,?_⟩
    have w1:sz h<=sz h1:=k.size;have w2:sz m=sz h1+1:=z2;refine ent (k.trans p) (v.congr λb _ hl _=>p.old b hl) λh3 T3 L3 Y t Z k3=>Za ?_;obtain ⟨k1,I⟩:=k3 (sz h1) w1 (by omega);exact box Y t Z (k1.trans c2) w1 I
  ·refine ZI λh1 c1 k z1=>⟨(H h1 (k.old b1 lb)).1,(H h1 (k.old b1 lb)).2,?_⟩
   have w1:sz h1=sz h+1:=z1;refine Zut (o.a.ext k) o.al λm s p o2=>⟨(H m ((k.trans p).old b1 lb)).1,?_⟩;have w2:sz h1<=sz m:=p.size;refine ent (k.trans p) (o2.base (by omega)) λh3 T3 L3 Y t Z k3=>Za ?_;obtain ⟨k1,I⟩:=k3 (sz h) (Aqo _) (by omega);exact box Y t Z (k1.trans (Zj c1 p)) (Aqo _) I
end
structure Zwo (h:Zf) (base:Nat) (Ta:TgM) (La:Lay) (Tb:TgM) (Lb:Lay) (G:GS):Prop where
  a:Zba h Ta La G
  b:Zba h Tb Lb G
  d:∀ j,Ta j≠none->Tb j=none
  la:∀ j,Ta j≠none->base<=j
  lb:∀ j,Tb j≠none->base<=j
section
variable {h h' h'':Zf} {base:Nat} {Ta Tb Ta' Tb' T T':TgM} {La Lb La' Lb' L:Lay} {G G':GS}
theorem Zwo.ext (R:Zwo h base Ta La Tb Lb G) (e:Ext h h'):Zwo h' base Ta La Tb Lb G:=⟨R.a.ext e,R.b.ext e,R.d,R.la,R.lb⟩
theorem ZrK (hl:∀ j,T j≠none->base<=j) (g:GrG T T' h h') (c:base<=sz h):(∀ j,j<base->obj h' j=obj h j)/\∀ j,T' j≠none->base<=j :=
  ⟨λj a=>g.old (Aqq a c) (Classical.byContradiction λb=>by have:=hl j b;omega),λj a=>(g.n j a).elim (hl j) λb=>Aqp c b⟩
theorem Zwo.both (R:Zwo h base Ta La Tb Lb G) (k:base<=sz h) (c:GrG Ta Ta' h h') (l:Zba h'' Tb' Lb' G') (gb:GrG Tb Tb' h' h'') (m:Zba h' Ta' La' G'):Zwo h'' base Ta' La' Tb' Lb' G'/\(∀ j,j<base->obj h'' j=obj h j)/\sz h<=sz h'':=by
  obtain ⟨s,hd⟩:=c.other R.b R.d;obtain ⟨n,o⟩:=ZrK R.la c k;have e:base<=sz h':=Aqp k c.u.size;obtain ⟨p,q⟩:=ZrK R.lb gb e;have f:∀ j,Tb j≠none->Ta' j=none:=λj a=>Classical.byContradiction λg=>a (hd j g);obtain ⟨r,i⟩:=gb.other m f;exact ⟨⟨r,l,λj a=>Classical.byContradiction λg=>a (i j g),o,q⟩,λj a=>(p j a).trans (n j a),Aqp c.u.size gb.u.size⟩
theorem ZGv {d:ZoR} {sl:Sl} {z:Rw.VTR} (R:Zwo h base Ta La Tb Lb G) (ok:GOK G) (hb:base<=sz h) (af:Zj1 h base d sl z) {K:Bool->Zf->Prop}
    (hk:∀ h' Ta' La' Tb' Lb',Zwo h' base Ta' La' Tb' Lb' (G.deed d)->La'.eb=La.eb->Lb'.eb=Lb.eb->(∀ j,j<base->obj h' j=obj h j)->sz h<=sz h'->K true h'):Zbj (some ⟨La.eb,0,none⟩) (some ⟨Lb.eb,0,none⟩) (ZOl d sl z) K h:=by
  unfold Zbj Zdu;refine ZI λp c2 e2 z2=>?_;have m:=R.ext e2;have w2:sz p=sz h+1:=z2;have o:base<=sz p:=by omega
  have F:∀ j,j<base->obj p j=obj h j:=λj Q=>e2.old j (show j<sz h by omega);have t:=af.keep F;have i:obj p (sz h)=some (Ztu d sl z):=c2;have U:Ta (sz h)=none:=Classical.byContradiction λw=>by have:=R.a.hT _ w;omega
  have tb:Tb (sz h)=none:=Classical.byContradiction λw=>by have:=R.b.hT _ w;omega
  have g:∀ {w:Zf} {Ta' Tb':TgM} {La' Lb':Lay},Zwo w base Ta' La' Tb' Lb' (G.deed d)->La'.eb=La.eb->Lb'.eb=Lb.eb->(∀ j,j<base->obj w j=obj p j)->sz p<=sz w->K true w:=λ{w Ta' Tb' La' Lb'} R9 A eb l9 s9=>hk w Ta' La' Tb' Lb' R9 A eb (λj Q=>(l9 j Q).trans (F j Q)) (by omega);refine rI (Zb i rfl) (Zd (Z5 (λT=>?_) λT=>Zd (Z5 (λV=>?_) λV=>Zd (Z5 (λY=>?_) λY=>?_))))
  ·have B:G.deed d=(G.enter d.c d.al d.gr).2:=by unfold GS.deed;rw [if_pos T]
   rw [B] at g;refine Zlw (λ(s:Int × Option Addr × Int × Unit) h3=>∃ I Ta' La',s.1=(G.enter d.c d.al d.gr).1.1/\s.2.1=some ⟨I,0,none⟩/\s.2.2.1=(G.enter d.c d.al d.gr).1.2.2/\Zba h3 Ta' La' (G.enter d.c d.al d.gr).2/\La'.eb=La.eb/\GrG Ta Ta' p h3/\obj h3 I=some (.cells [.int .u8 (G.enter d.c d.al d.gr).1.2.1.1,iv (G.enter d.c d.al d.gr).1.2.1.2.1,iv (G.enter d.c d.al d.gr).1.2.1.2.2.1].toArray 42 (0,0))/\sz p<=I) ?_ ?_
   ·rintro ⟨n,v,f,u⟩ h3 ⟨I,Ta',La',s1,s2,W,C,A,k,Z,lv⟩
    dsimp only at s1 s2 W ⊢;subst s1;subst s2;subst W;obtain ⟨B3,hd3⟩:=k.other m.b m.d;have ag:base<=sz h3:=Aqp o k.u.size;have q:=t.keep (ZrK m.la k o).1;have l:obj h3 (sz h)=some (Ztu d sl z):=(k.old (show sz h<sz p by omega) U).trans i;have ah:Tb I=none:=Classical.byContradiction λw=>by have:=m.b.hT _ w;omega
    refine Zlw (λ(s:Int × Option Addr × Int × Unit) y=>∃ wb Tb' Lb',s.1=(G.enter d.c d.al d.gr).1.1/\s.2.1=some ⟨wb,0,none⟩/\s.2.2.1=(G.enter d.c d.al d.gr).1.2.2/\Zba y Tb' Lb' (G.enter d.c d.al d.gr).2/\Lb'.eb=Lb.eb/\GrG Tb Tb' h3 y/\obj y wb=some (.cells [.int .u8 (G.enter d.c d.al d.gr).1.2.1.1,iv (G.enter d.c d.al d.gr).1.2.1.2.1,iv (G.enter d.c d.al d.gr).1.2.1.2.2.1].toArray 42 (0,0))) ?_ ?_
    ·rintro ⟨n,v,f,u⟩ y ⟨wb,Tb',Lb',s1,s2,W,D,eb,gb,X⟩
     dsimp only at s1 s2 W ⊢;subst s1;subst s2;subst W;have N:obj y I=_:=(gb.old (Zp Z) ah).trans Z;obtain ⟨O,P,s4⟩:=m.both o k D gb C;refine Zl (by simp) (Zg (rI (Zb N rfl) (rI (Zb N rfl) (rI (Zb N rfl) (Zg (rI (Zb X rfl) (rI (Zb X rfl) (rI (Zb X rfl) (Zl (by simp) (Zd ?_))))))))));have:=g O A eb P s4;rwa [show ((G.enter d.c d.al d.gr).1.2.2 ==(G.enter d.c d.al d.gr).1.2.2)=true by simp]
    ·intro J hJ
     exact ZBE B3 ok q l tb λy T4 L4 wb D eb gb X _ _=>hJ _ _ ⟨wb,T4,L4,rfl,rfl,rfl,D,eb,gb,X⟩
   ·intro J hJ
    exact ZBE m.a ok t i U λh3 T3 L3 I C A k Z lv _=>hJ _ _ ⟨I,T3,L3,rfl,rfl,rfl,C,A,k,Z,lv⟩
  ·have B:G.deed d=(G.exit d.num d.at_ d.fl).2:=by unfold GS.deed;rw [if_neg T,if_pos V]
   rw [B] at g;refine rI (Zb i rfl) (rI (Zb i rfl) (rB (Zb i rfl) (rI (Zb i rfl) (rI (Zb i rfl) (rB (Zb i rfl) ?_)))));refine ZB8 m.a ok λh3 T3 L3 C A k=>?_;obtain ⟨B3,hd3⟩:=k.other m.b m.d;have l:obj h3 (sz h)=some (Ztu d sl z):=(k.old (show sz h<sz p by omega) U).trans i;refine ⟨ZZ (Zb l rfl),ZZ (Zb l rfl),ZZ (Zb l rfl),ZB8 B3 ok λy T4 L4 D eb gb=>Zd ?_⟩;obtain ⟨O,P,s4⟩:=m.both o k D gb C;have:=g O A eb P s4;rwa [show ((G.exit d.num d.at_ d.fl).1 ==(G.exit d.num d.at_ d.fl).1)=true by simp]
  ·refine rL (s:=z.1) (Zb i rfl) (rL (s:=z.2.1) (Zb i rfl) (rL (s:=z.2.2.1) (Zb i rfl) (rL (s:=z.2.2.2.1) (Zb i rfl) (rL (s:=z.2.2.2.2.1) (Zb i rfl) (rL (s:=z.1) (Zb i rfl) (rL (s:=z.2.1) (Zb i rfl) (rL (s:=z.2.2.1) (Zb i rfl) (rL (s:=z.2.2.2.1) (Zb i rfl) (rL (s:=z.2.2.2.2.1) (Zb i rfl) ?_)))))))))
   have H:∀ {hh:Zf},obj hh (sz h)=some (Ztu d sl z)->Zo hh [(sz h,0+12,slV z.1),(sz h,0+12+1,slV z.2.1),(sz h,0+12+2,slV z.2.2.1),(sz h,0+12+3,slV z.2.2.2.1),(sz h,0+12+4,slV z.2.2.2.2.1)]:=λ{hh} c=>⟨Zb c rfl,Zb c rfl,Zb c rfl,Zb c rfl,Zb c rfl,trivial⟩;refine Zsm m.a ok (S:=(· < base)) t.r (λb x=>by have L:b<base:=x;omega) t.f (λhq h3 T3 L3 C A k=>?_) λe he E h3 e3=>?_
   ·have B:G.deed d=G.load d.r:=by unfold GS.deed;rw [if_neg T,if_neg V,if_pos Y,if_pos hq]
    rw [B] at g;obtain ⟨B3,hd3⟩:=k.other m.b m.d;have ag:base<=sz h3:=Aqp o k.u.size;have q:=t.keep (ZrK m.la k o).1;have l:obj h3 (sz h)=some (Ztu d sl z):=(k.old (show sz h<sz p by omega) U).trans i;refine ⟨H l,Zsm B3 ok (S:=(· < base)) q.r (λb x=>by have L:b<base:=x;omega) q.f (λ_ y T4 L4 D eb gb=>Zd ?_) λe he E=>absurd (he.symm.trans hq) E⟩;obtain ⟨O,P,s4⟩:=m.both o k D gb C;exact g O A eb P s4
   ·have B:G.deed d=G:=by unfold GS.deed;rw [if_neg T,if_neg V,if_pos Y,if_neg (by rw [he];exact E)]
    rw [B] at g;have R3:=m.ext e3;have M:∀ j,j<base->obj h3 j=obj p j:=λj Q=>e3.old j (show j<sz p by omega);have q:=t.keep M;have w3:sz p<=sz h3:=e3.size;refine ⟨H (Zj i e3),Zsm R3.b ok (S:=(· < base)) q.r (λb x=>by have L:b<base:=x;omega) q.f (λhq=>absurd (he.symm.trans hq) E) λe' ar ay y e4=>Zd ?_⟩;have:=g (R3.ext e4) rfl rfl (λj Q=>(e4.old j (show j<sz h3 by omega)).trans (M j Q)) (Aqp w3 e4.size);rwa [show ((e:Int) ==(e':Int))=true by rw [<- he,<- ar];simp]
  ·have B:G.deed d=(G.sample d.ld d.cp).2:=by unfold GS.deed;rw [if_neg T,if_neg V,if_neg Y]
   rw [B] at g;refine rI (Zb i rfl) (rI (Zb i rfl) (rI (Zb i rfl) (rI (Zb i rfl) ?_)));refine ZuG m.a λh3 C k=>?_;obtain ⟨B3,hd3⟩:=k.other m.b m.d;have l:obj h3 (sz h)=some (Ztu d sl z):=(k.old (show sz h<sz p by omega) U).trans i;refine ⟨ZZ (Zb l rfl),ZZ (Zb l rfl),ZuG B3 λy D gb=>Zd ?_⟩;obtain ⟨O,P,s4⟩:=m.both o k D gb C;have:=g O rfl rfl P s4;rwa [show ((G.sample d.ld d.cp).1 ==(G.sample d.ld d.cp).1)=true by simp]
end
abbrev Zsp:=ZoR × Sl × Rw.VTR
abbrev Zr8 (x:Zsp):List Value:=ZHr x.1 x.2.1 x.2.2
section
variable {h:Zf} {l:Sl} {ds:List Zsp}
theorem Zvt (hl:Row h l 19 (ds.flatMap Zr8)) (W:∀ x,x∈ds->Zj1 h (sz h) x.1 x.2.1 x.2.2) {K:Bool->Zf->Prop} (A:∀ h',Ext h h'->K true h'):Xx l K h:=by
  unfold Xx ZaC;have r:(1:Int)<=10/\(10:Int)<=4096:=by decide
  have ll:l.len=ds.length:=Zao (g:=Zr8) (λ_=>rfl) hl (by decide);have cap:=hl.cap;have big:=hl.big;refine ZE4 r λh1 Ta X A1 na e1=>Za (ZE4 r λh2 Tb Y B2 nb e2=>Za (Zi rfl (Zi rfl (Za ?_))));have I:=e1.trans e2;have R2:Zwo h2 (sz h) Ta X Tb Y (GS.new 10 1):=⟨A1.ext e2,B2,λj m=>Classical.byContradiction λv=>by have:=nb j v;have:=A1.hT j m;omega,na,λj m=>Aqp e1.size (nb j m)⟩
  refine Zbf (λ(p:Int × Unit) B=>∃ (i:Nat) (w:TgM) (y:Lay) (C:TgM) (D:Lay) (G:GS),p=((i:Int),())/\i<=ds.length/\i<=60/\Zwo B (sz h) w y C D G/\GOK G/\y.eb=X.eb/\D.eb=Y.eb/\(∀ j,j<sz h->obj B j=obj h j)/\sz h<=sz B) (λp _=>(100 - p.1).toNat)
    ⟨0,Ta,X,Tb,Y,_,rfl,Ayg _,by decide,R2,GOK.new r,rfl,rfl,λj m=>I.old j m,I.size⟩ ?_
  rintro _ B ⟨i,w,y,C,D,G,rfl,hi,ax,R,ok,ea,eb,low,ws⟩ Q hQ;have eh:Ext h B:=⟨ws,λk A=>low k A⟩;dsimp only;refine Zn (λq=>Zn (λq2=>?_) λq2=>ZBO λv Z=>Zd (A v (eh.trans Z))) λq=>ZBO λv Z=>Zd (A v (eh.trans Z));have J:i<ds.length:=by omega
  have hx:ds[i]?=some ds[i]:=Axy J;generalize ds[i]=x at hx;obtain ⟨d,sl,z⟩:=x;rw [<- ea,<- eb];refine ZE3 R.b ok λh3 z3 g3 r3 e3=>ZI λh4 c4 e4 z4=>Zbb c4 (vs:=[slV z3.1,slV z3.2.1,slV z3.2.2.1,slV z3.2.2.2.1,slV z3.2.2.2.2.1]) (λV L u5 z5=>Za ?_) (hv:=by simp [Zms,ZaM]);have E:Ext h3 V:=e4.then u5 λk A=>by subst A;exact Aqo _
  have M:=e3.trans E;have R5:=R.ext M;have w3:sz B<=sz h3:=e3.size;have w5:sz h3<=sz V:=E.size;have N:∀ j,j<sz h->obj V j=obj h j:=λj m=>(M.old j (show j<sz B by omega)).trans (low j m);refine rL (s:=z3.1) (Zb L rfl) (rL (s:=z3.2.1) (Zb L rfl) (rL (s:=z3.2.2.1) (Zb L rfl) (rL (s:=z3.2.2.2.1) (Zb L rfl) (rL (s:=z3.2.2.2.2.1) (Zb L rfl) ?_))));refine Zsm R5.b ok (r3.ext E) (λb hb=>by have:=hb.2;omega) ok.fit (λ_ O T6 L6 E6 P g6=>Zi rfl ?_) λe he af=>absurd (he.symm.trans ok.we) af;rw [GS.load_self ok] at E6;have S:sz h<=sz V:=by omega
  have ag:∀ j,C j≠none->w j=none:=λj m=>Classical.byContradiction λv=>m (R5.d j v);obtain ⟨A6,ah⟩:=g6.other R5.a ag;obtain ⟨l6,ai⟩:=ZrK R5.lb g6 S;have R6:Zwo O (sz h) w y T6 L6 G:=⟨A6,E6,λj m=>Classical.byContradiction λv=>m (ah j v),R5.la,ai⟩;have t:∀ j,j<sz h->obj O j=obj h j:=λj m=>(l6 j m).trans (N j m);have F:sz h<=sz O:=Aqp S g6.u.size;have aj:Ext h O:=⟨F,λk A=>t k A⟩;have H:=(W _ (Axo hx)).keep (h':=O) t;obtain ⟨b,o,_,_,T,c⟩:=ZbD (g:=Zr8) (n:=19) (λ_=>rfl) (hl.ext aj) hx (by decide);refine T rfl (rI (c 0 _ rfl) (rI (c 1 _ rfl) (rS (c 2 _ rfl) (rS (c 3 _ rfl) (rS (c 4 _ rfl) (rB (c 5 _ rfl) (rI (c 6 _ rfl) (rL (s:=sl) (c 7 _ rfl) (rB (c 8 _ rfl) (rI (c 9 _ rfl) (rI (c 10 _ rfl) (rB (c 11 _ rfl) (rL (s:=z.1) (c 12 _ rfl) (rL (s:=z.2.1) (c 13 _ rfl) (rL (s:=z.2.2.1) (c 14 _ rfl) (rL (s:=z.2.2.2.1) (c 15 _ rfl) (rL (s:=z.2.2.2.2.1) (c 16 _ rfl) (rI (c 17 _ rfl) (rI (c 18 _ rfl) (?_))))))))))))))))))));rw [<- P];refine ZGv R6 ok F H λh7 T7 L7 S7 M7 R7 ak an U s7=>Zi rfl (Za ?_);rw [Yr (by omega) (by omega)];refine hQ _ _ ⟨i+1,T7,L7,S7,M7,_,by simp,J,by omega,R7,ok.deed H.zz H.f,ak.trans ea,an.trans (P.trans eb),λj m=>(U j m).trans (t j m),Aqp F s7⟩ (by show (100 - ((i:Int)+1)).toNat<(100 - (i:Int)).toNat;omega)
end
end Go.Proofs.YthbfgkphlmlihaaGreat
namespace Go.Proofs.YthbfgkphlmlihaaGreat
open Go Go.Fw Go.ChangeShapes Go.WideShapes
theorem ZBf {H:Type} (d:DataW H):1<=Rows.uptoBulk d:=by
  cases d with
  | lit l=>cases l<;>simp [Rows.uptoBulk]
  | _=>simp [Rows.uptoBulk]
section
variable {H:Type} {enc:TypeId × Value->H} {P:Program} {w:World} {base:Nat} {spare:Nat->Bool} {held:Bool}
end
end Go.Proofs.YthbfgkphlmlihaaGreat
namespace Go.Proofs.YthbfgkphlmlihaaGreat.Rw
open Go Go.Fw Go.Js
theorem Zlm {n:Nat} (h:n<=maxLen):n<9223372036854775808:=by
  have e:maxLen=9223372036854775807:=by decide
  omega
theorem Zw9 {w:World} {a:Addr} {v:Value} (h:w.cell? a=some v):a=⟨a.block,a.off,none⟩:=by
  obtain ⟨b,o,s⟩:=a;unfold World.cell? at h;split at h
  ·cases s with
   | none=>rfl
   | some s=>simp at h
  ·cases h
theorem ZuD {b o i:Nat}:(⟨b,o,none⟩:Addr).add i=⟨b,o+i,none⟩:=Zop b o i
theorem ZNP {n:Int} (h:(Lit.int .u8 n).wf=true):0<=n/\n<256:=by
  simp only [Lit.wf,Awn,decide_eq_true_eq] at h;have h1:IntKind.u8.min=0:=by decide
  have a:IntKind.u8.max=255:=by decide
  omega
theorem ZGp {n:Int} (h:(Lit.int .i64 n).wf=true) : -9223372036854775808<=n/\n<9223372036854775808:=by
  simp only [Lit.wf,Awn,decide_eq_true_eq] at h;have h1:IntKind.i64.min = -9223372036854775808:=by decide
  have a:IntKind.i64.max=9223372036854775807:=by decide
  omega
theorem Zw5 {α:Type} (f:α->Nat):∀ l:List α,(l.map λx=>16*f x).sum=16*(l.map f).sum
  | []=>rfl
  | x::l=>by rw [Awo,Azb,Zw5 f l,Awo,Azb];omega
theorem ZBA {α:Type} {f g:α->Nat}:∀ {l:List α},(∀ x∈l,f x<=g x)->(l.map f).sum<=(l.map g).sum
  | [],_=>Aqo _
  | x::l,h=>by
    have:=h x (by simp);have:=ZBA (l:=l) λy a=>h y (Aws _ a);simp only [Awo,Azb];omega
theorem ZmZ {H:Type} {d:DataW H}:∀ {l:List (DataW H)},d∈l->Rows.uptoBulk d<=Rows.uptoBulkAll l
  | [],h=>by cases h
  | x::l,h=>by
    simp only [Rows.uptoBulkAll]
    rcases Awr.1 h with rfl | h
    ·omega
    ·have:=ZmZ h;omega
theorem Zuw {H:Type} (D:Nat->DataW H):∀ l:List Nat,Rows.uptoBulkAll (l.map D)=(l.map λi=>Rows.uptoBulk (D i)).sum
  | []=>rfl
  | x::l=>by simp only [Awo,Rows.uptoBulkAll,Azb,Zuw D l]
end Go.Proofs.YthbfgkphlmlihaaGreat.Rw
namespace Go.Proofs.YthbfgkphlmlihaaGreat.Rw
open Go Go.Fw Go.Js
section
variable {H:Type} {enc:TypeId × Value->H} {P:Program} {w:World} {base:Nat} {spare:Nat->Bool} {held:Bool}
theorem Ztq {fs:Array Field} {l:List (TypeId × Nat)} (b:fs.toList.map (λf=>(f.type,f.offset))=l) {i:Nat} {p:TypeId × Nat} (a:l[i]?=some p):∃ f,fs[i]?=some f/\f.type=p.1/\f.offset=p.2:=by
  subst b;rw [Awy,Aza] at a;obtain ⟨f,h1,rfl⟩:=a;exact ⟨f,by simpa using h1,rfl,rfl⟩
theorem ZgS {α:Type} [Inhabited α] {g:α->List Value} {n:Nat} (j:∀ a,(g a).length=n) (o:0<n) {Pa:α->Prop} {μ:α->Nat} {u t:TypeId} {fuel N:Nat} {a:Option Addr} {len cap:Nat} {x:DataW H × List MemPlace} (hu:P.underlying u=some (.slice t)) (G:P.cellsOf t=n)
    (elem:∀ {fuel:Nat} {cs:List Value} {y:DataW H × List MemPlace},Rows.uptoBulk y.1<N->DataW.trod enc P w base spare held fuel t cs=some y->∃ a:α,cs=g a/\Pa a/\μ a<=16*Rows.uptoBulk y.1)
    (I:Rows.uptoBulk x.1<=N) (h:DataW.trod enc P w base spare held fuel u [.slice a len cap]=some x):∃ l:List α,(Row w.heap ⟨a,len,cap⟩ n (l.flatMap g)/\∀ a,a∈l->Pa a)/\(l.map μ).sum+16<=16*Rows.uptoBulk x.1:=by
  rcases Deep.open_slice hu h with ⟨b,rfl⟩ | ⟨a',A,B,m,S,D,T,b,_,hl,hm,p,rfl,J⟩
  ·simp at b
   obtain ⟨rfl,rfl,rfl⟩:=b;exact ⟨[],⟨Row.nil _ n,by simp⟩,by simp [Rows.uptoBulk]⟩
  ·simp at b
   obtain ⟨rfl,rfl,rfl⟩:=b;have hlen:len<=m:=by rw [p];split<;>omega
   have c:cap<9223372036854775808:=Zlm hm
   have each:∀ i,i<len->∃ a:α,w.cells? base (a'.add (i*n)) n=some (g a)/\Pa a/\μ a<=16*Rows.uptoBulk (D i):=by
     intro i hi;obtain ⟨K,h1,L⟩:=J i (by omega);rw [G] at h1
     obtain ⟨r,rfl,M,O⟩:=elem (by
       have:=ZmZ (d:=D i) (l:=(List.range len).map D) (Axz.2 ⟨i,by simpa using hi,rfl⟩);simp only [Rows.uptoBulk] at I ⊢
       omega) L
     exact ⟨r,h1,M,O⟩
   obtain ⟨f,q⟩:=Deep.choose_lt each;have cell:∀ i,i<len->∀ k,k<n->w.cell? ((a'.add (i*n)).add k)=(g (f i))[k]?:=λi hi k s=>(World.cells?_some (q i hi).1).2.2 k s;refine ⟨(List.range len).map f,⟨⟨by rw [Zmk j];simp,hl,c,?_⟩,λa Q=>?_⟩,?_⟩
   ·rcases Aqw len with h0 | h0
    ·exact .inl h0
    ·right
     have e:a'=⟨a'.block,a'.off,none⟩:=by
       have h0:=cell 0 (by omega) 0 o;have R:(a'.add (0*n)).add 0=a':=by rw [Aqs];rfl
       rw [R,Axy (by rw [j];exact o)] at h0;exact Zw9 h0
     refine ⟨a'.block,a'.off,by rw [<- e],Zuk λk v hv=>?_⟩
     have s:k<len*n:=by
       have:=ZA0 hv;rw [Zmk j] at this;simpa using this
     have z:=Nat.div_add_mod k n;have hi:k / n<len:=(Nat.div_lt_iff_lt_mul o).2 s;have C:k % n<n:=Nat.mod_lt _ o;have E:=Zoa j ((List.range len).map f) (k / n) (k % n) (f (k / n)) (by rw [Awy,List.getElem?_range hi];rfl) C;have F:k / n*n+k % n=k:=by rw [Nat.mul_comm];exact z
     rw [F,hv] at E;have:=cell (k / n) hi (k % n) C;rw [e,ZuD,ZuD,ZqW,<- E] at this;rw [<- F,<- Aqh];exact this
   ·obtain ⟨i,hi,rfl⟩:=Axz.1 Q
    exact (q i (by simpa using hi)).2.1
   ·have h1:((List.range len).map λi=>μ (f i)).sum<=((List.range len).map λi=>16*Rows.uptoBulk (D i)).sum:=ZBA λi hi=>(q i (by simpa using hi)).2.2
    rw [Zw5] at h1;simp only [Rows.uptoBulk,Aya,Zuw];have:((List.range len).map (μ ∘ f)).sum=((List.range len).map λi=>μ (f i)).sum:=rfl;omega
theorem Zyh:∀ l:List BL,l.flatMap (λn=>[sV n])=l.map sV
  | []=>rfl
  | a::l=>by rw [Aye,Zyh l];rfl
end
end Go.Proofs.YthbfgkphlmlihaaGreat.Rw
namespace Go.Js
open Go Go.Fw Go.Js
def Zot (n:Int):Prop:= -9223372036854775808<=n/\n<=9223372036854775807
def FlowP.rng (f:FlowP):Prop:=Zot f.cnt/\f.strat<256/\f.shape<256/\Zot f.warm/\Zot f.queue/\Zot f.id
def YK.rng (f:YK):Prop:=f.grade<256/\Zot f.cnt/\Zot f.slow/\Zot f.least/\Zot f.window/\Zot f.recover
def Zex.rng (f:Zex):Prop:=Zot f.index/\Zot f.cnt/\Zot f.secs/\∀ p,p∈f.items->Zot p.2
def ZaE.rng (f:ZaE):Prop:=Zot f.qps/\Zot f.threads/\Zot f.rt/\Zot f.load/\Zot f.cpu
def RulesP.rng (r:RulesP):Prop:=(∀ f,f∈r.fl->f.rng)/\(∀ f,f∈r.br->f.rng)/\(∀ f,f∈r.ho->f.rng)/\∀ f,f∈r.sy->f.rng
def FlowP.wt (f:FlowP):Nat:=1+f.res.length+f.org.length+f.ref.length
def YK.wt (f:YK):Nat:=1+f.res.length
def Zmw (p:BL × Int):Nat:=1+p.1.length
def Zex.wt (f:Zex):Nat:=1+f.res.length+(f.items.map Zmw).sum
def Zmr (t:BL):Nat:=1+t.length
def ZbE.wt (f:ZbE):Nat:=1+f.res.length+(f.origins.map Zmr).sum
def RulesP.wt (r:RulesP):Nat:=(r.fl.map FlowP.wt).sum+(r.br.map YK.wt).sum+(r.ho.map Zex.wt).sum+(r.sy.map λ_=>1).sum+(r.li.map ZbE.wt).sum
end Go.Js
namespace Go.Proofs.YthbfgkphlmlihaaGreat.Rw
open Go Go.Fw Go.Js
def StT (P:Program) (t:TypeId) (tys:List TypeId):Prop:=∃ fs:Array Field,P.underlying t=some (.struct fs)/\fs.toList.map (λf=>(f.type,f.offset))=tys.zipIdx/\P.cellsOf t=tys.length
end Go.Proofs.YthbfgkphlmlihaaGreat.Rw
namespace Go.Proofs.YthbfgkphlmlihaaGreat.Rw
open Go Go.Fw Go.Js
section
variable {H:Type} {enc:TypeId × Value->H} {P:Program} {w:World} {base:Nat} {spare:Nat->Bool} {held:Bool}
def ZCa (f:TypeId->Value->Option (DataW H × List MemPlace)):List TypeId->List Value->List (DataW H × List MemPlace)->Prop
  | [],[],[]=>True
  | u::us,c::cs,x::xs=>f u c=some x/\ZCa f us cs xs
  | _,_,_=>False
theorem ZCa.inv {f:TypeId->Value->Option (DataW H × List MemPlace)} {u:TypeId} {us:List TypeId} {cs:List Value} {xs:List (DataW H × List MemPlace)} (h:ZCa f (u::us) cs xs):∃ c a x b,cs=c::a/\xs=x::b/\f u c=some x/\ZCa f us a b:=by
  match cs,xs,h with
  | c::cs,x::xs,h=>exact ⟨c,cs,x,xs,rfl,rfl,h.1,h.2⟩
theorem ZCa.nil {f:TypeId->Value->Option (DataW H × List MemPlace)} {cs:List Value} {xs:List (DataW H × List MemPlace)} (h:ZCa f [] cs xs):cs=[]/\xs=[]:=by
  match cs,xs,h with
  | [],[],_=>exact ⟨rfl,rfl⟩
theorem ZyH {f:TypeId->Value->Option (DataW H × List MemPlace)}:∀ (tys:List TypeId) (cs:List Value) (xs:List (DataW H × List MemPlace)),cs.length=tys.length->xs.length=tys.length ->
    (∀ (i:Nat) u c x,tys[i]?=some u->cs[i]?=some c->xs[i]?=some x->f u c=some x)->ZCa f tys cs xs
  | [],[],[],_,_,_=>trivial
  | u::us,c::cs,x::xs,h1,e,h=>⟨h 0 u c x rfl rfl rfl,ZyH us cs xs (by simpa using h1) (by simpa using e) λi u c x a b d=>h (i+1) u c x (by simpa using a) (by simpa using b) (by simpa using d)⟩
  | [],_::_,_,h,_,_=>by simp at h
  | [],[],_::_,_,h,_=>by simp at h
  | _::_,[],_,h,_,_=>by simp at h
  | _::_,_::_,[],_,h,_=>by simp at h
theorem fieldsOf {t:TypeId} {tys:List TypeId} {fuel:Nat} {cs:List Value} {x:DataW H × List MemPlace} (st:StT P t tys) (h1:∀ u,u∈tys->P.cellsOf u=1) (h:DataW.trod enc P w base spare held fuel t cs=some x) :
    ∃ (n:Nat) (xs:List (DataW H × List MemPlace)),ZCa (λu c=>DataW.trod enc P w base spare held n u [c]) tys cs xs/\Rows.uptoBulk x.1=Rows.uptoBulkAll (xs.map (·.1))+1:=by
  obtain ⟨fs,j,g,r⟩:=st;obtain ⟨xs,n,rfl,rfl,hlen,k,e⟩:=DataW.trod_struct j h
  have l:fs.size=tys.length:=by
    have:=congrArg List.length g;simpa using this
  refine ⟨n,xs,ZyH tys cs xs (by omega) (by omega) λi u c x a b d=>?_,by simp only [Rows.uptoBulk]⟩;obtain ⟨f,m,o,q⟩:=Ztq g (i:=i) (p:=(u,i)) (by rw [List.getElem?_zipIdx,a];simp);have:=e i f m;rw [o,q,h1 u (Axo a),d] at this;rw [<- this];congr 1;obtain ⟨hi,rfl⟩:=Ayh.1 b;rw [Ayo hi];rfl
theorem ZDL {n:Nat} {ts:TypeId} {c:Value} {x:DataW H × List MemPlace} (a:P.underlying ts=some .string) (h:DataW.trod enc P w base spare held n ts [c]=some x):∃ s:BL,c=sV s/\Rows.uptoBulk x.1=Rows.uptoBulk (.lit (.string s):DataW H):=by
  obtain ⟨s,h1,b,_⟩:=DataW.trod_string a h;simp at h1;subst h1;exact ⟨s.data.toList,rfl,by rw [b]⟩
theorem Zrb {n:Nat} {ti:TypeId} {c:Value} {x:DataW H × List MemPlace} (a:P.underlying ti=some (.int .i64)) (h:DataW.trod enc P w base spare held n ti [c]=some x):∃ s:Int,c=i64 s/\Zot s:=by
  obtain ⟨s,h1,b,h3⟩:=DataW.trod_int a h;simp at h1;subst h1;have:=ZGp h3;exact ⟨s,rfl,by unfold Zot;omega⟩
theorem tU8 {n:Nat} {ti:TypeId} {c:Value} {x:DataW H × List MemPlace} (a:P.underlying ti=some (.int .u8)) (h:DataW.trod enc P w base spare held n ti [c]=some x):∃ s:Nat,c=i8 s/\s<256:=by
  obtain ⟨s,h1,b,h3⟩:=DataW.trod_int a h;simp at h1;subst h1;have:=ZNP h3;exact ⟨s.toNat,by unfold i8;rw [Axe this.1],by omega⟩
theorem ZAy {n:Nat} {ti:TypeId} {c:Value} {x:DataW H × List MemPlace} (a:P.underlying ti=some .bool) (h:DataW.trod enc P w base spare held n ti [c]=some x):∃ s:Bool,c = .bool s:=by
  obtain ⟨s,h1,b⟩:=DataW.trod_bool a h;simp at h1;exact ⟨s,h1⟩
theorem tSl {u e:TypeId} {n:Nat} {c:Value} {y:DataW H × List MemPlace} (hu:P.underlying u=some (.slice e)) (f:DataW.trod enc P w base spare held n u [c]=some y):∃ s:Sl,c=slV s:=by
  rcases Deep.open_slice hu f with ⟨a,_⟩ | ⟨a',b,d,m,g,D,h,a,_⟩
  ·simp at a;exact ⟨⟨none,0,0⟩,a⟩
  ·simp at a;exact ⟨⟨some a',b,d⟩,a⟩
theorem ZhJ (s:BL):s.length+1<=Rows.uptoBulk (.lit (.string s):DataW H):=by
  simp only [Rows.uptoBulk];omega
structure TyR (P:Program) (tR tF tB tH tY tL tI ts tb ti tsg tsh tg sF sB sH sY sL sI sT:TypeId):Prop where
  R:StT P tR [sF,sB,sH,sY,sL]
  F:StT P tF [ts,ts,tb,ti,tsg,ts,tsh,ti,ti,tb,ti,tb]
  B:StT P tB [ts,tg,ti,ti,ti,ti,ti]
  H:StT P tH [ts,ti,ti,ti,sI]
  Y:StT P tY [ti,ti,ti,ti,ti]
  L:StT P tL [ts,tb,sT]
  I:StT P tI [ts,ti]
  s:P.underlying ts=some .string
  b:P.underlying tb=some .bool
  i:P.underlying ti=some (.int .i64)
  sg:P.underlying tsg=some (.int .u8)
  sh:P.underlying tsh=some (.int .u8)
  g:P.underlying tg=some (.int .u8)
  lF:P.underlying sF=some (.slice tF)
  lB:P.underlying sB=some (.slice tB)
  lH:P.underlying sH=some (.slice tH)
  lY:P.underlying sY=some (.slice tY)
  lL:P.underlying sL=some (.slice tL)
  lI:P.underlying sI=some (.slice tI)
  lT:P.underlying sT=some (.slice ts)
  one:([ts,tb,ti,tsg,tsh,tg,sF,sB,sH,sY,sL,sI,sT].all λu=>P.cellsOf u ==1)=true
end
end Go.Proofs.YthbfgkphlmlihaaGreat.Rw
namespace Go.Proofs.YthbfgkphlmlihaaGreat.Rw
open Go Go.Fw Go.Js
section
variable {H:Type} {enc:TypeId × Value->H} {P:Program} {w:World} {base:Nat} {spare:Nat->Bool} {held:Bool}
variable {tR tF tB tH tY tL tI ts tb ti tsg tsh tg sF sB sH sY sL sI sT:TypeId}
theorem TyR.o (T:TyR P tR tF tB tH tY tL tI ts tb ti tsg tsh tg sF sB sH sY sL sI sT) {tys:List TypeId} (h:∀ u,u∈tys->u∈[ts,tb,ti,tsg,tsh,tg,sF,sB,sH,sY,sL,sI,sT]):∀ u,u∈tys->P.cellsOf u=1:=λu hu=>by
  simpa using Axb.1 T.one u (h u hu)
theorem ZBl (T:TyR P tR tF tB tH tY tL tI ts tb ti tsg tsh tg sF sB sH sY sL sI sT) {fuel:Nat} {cs:List Value} {x:DataW H × List MemPlace} (h:DataW.trod enc P w base spare held fuel tF cs=some x):∃ a:FlowP,cs=Zfj a/\a.rng/\a.wt<=16*Rows.uptoBulk x.1:=by
  obtain ⟨n,xs,c,r⟩:=fieldsOf T.F (T.o λu hu=>by simp only [Awr] at hu ⊢;rcases hu with h | h | h | h | h | h | h | h | h | h | h | h | h<;>simp_all) h;obtain ⟨_,cs,Q,xs,rfl,rfl,h1,c⟩:=c.inv;obtain ⟨_,cs,R,xs,rfl,rfl,t,c⟩:=c.inv;obtain ⟨_,cs,S,xs,rfl,rfl,h3,c⟩:=c.inv;obtain ⟨_,cs,U,xs,rfl,rfl,v,c⟩:=c.inv;obtain ⟨_,cs,V,xs,rfl,rfl,y,c⟩:=c.inv;obtain ⟨_,cs,W,xs,rfl,rfl,z,c⟩:=c.inv;obtain ⟨_,cs,X,xs,rfl,rfl,A,c⟩:=c.inv;obtain ⟨_,cs,Y,xs,rfl,rfl,B,c⟩:=c.inv;obtain ⟨_,cs,Z,xs,rfl,rfl,C,c⟩:=c.inv;obtain ⟨_,cs,D,xs,rfl,rfl,d,c⟩:=c.inv;obtain ⟨_,cs,E,xs,rfl,rfl,e,c⟩:=c.inv;obtain ⟨_,cs,G,xs,rfl,rfl,f,c⟩:=c.inv;obtain ⟨rfl,rfl⟩:=c.nil;obtain ⟨m,rfl,b1⟩:=ZDL T.s h1;obtain ⟨p,rfl,b2⟩:=ZDL T.s t;obtain ⟨a3,rfl⟩:=ZAy T.b h3;obtain ⟨a4,rfl,I⟩:=Zrb T.i v;obtain ⟨a5,rfl,J⟩:=tU8 T.sg y;obtain ⟨q,rfl,b6⟩:=ZDL T.s z;obtain ⟨K,rfl,L⟩:=tU8 T.sh A;obtain ⟨M,rfl,N⟩:=Zrb T.i B;obtain ⟨a9,rfl,O⟩:=Zrb T.i C;obtain ⟨g,rfl⟩:=ZAy T.b d;obtain ⟨j,rfl,k⟩:=Zrb T.i e;obtain ⟨l,rfl⟩:=ZAy T.b f;refine ⟨⟨m,p,a3,a4,a5,q,K,M,a9,g,j,l⟩,rfl,⟨I,J,L,N,O,k⟩,?_⟩;have l1:=ZhJ (H:=H) m;have l2:=ZhJ (H:=H) p;have l6:=ZhJ (H:=H) q;simp only [Awo,Rows.uptoBulkAll] at r;simp only [FlowP.wt];omega
theorem ZyF (T:TyR P tR tF tB tH tY tL tI ts tb ti tsg tsh tg sF sB sH sY sL sI sT) {fuel:Nat} {cs:List Value} {x:DataW H × List MemPlace} (h:DataW.trod enc P w base spare held fuel tB cs=some x):∃ a:YK,cs=Zdl a/\a.rng/\a.wt<=16*Rows.uptoBulk x.1:=by
  obtain ⟨n,xs,b,d⟩:=fieldsOf T.B (T.o λu hu=>by simp only [Awr] at hu ⊢;rcases hu with h | h | h | h | h | h | h | h<;>simp_all) h;obtain ⟨_,cs,C,xs,rfl,rfl,h1,b⟩:=b.inv;obtain ⟨_,cs,D,xs,rfl,rfl,e,b⟩:=b.inv;obtain ⟨_,cs,E,xs,rfl,rfl,h3,b⟩:=b.inv;obtain ⟨_,cs,F,xs,rfl,rfl,f,b⟩:=b.inv;obtain ⟨_,cs,G,xs,rfl,rfl,j,b⟩:=b.inv;obtain ⟨_,cs,I,xs,rfl,rfl,k,b⟩:=b.inv;obtain ⟨_,cs,J,xs,rfl,rfl,l,b⟩:=b.inv;obtain ⟨rfl,rfl⟩:=b.nil;obtain ⟨c,rfl,b1⟩:=ZDL T.s h1;obtain ⟨m,rfl,p⟩:=tU8 T.g e;obtain ⟨a3,rfl,q⟩:=Zrb T.i h3;obtain ⟨a4,rfl,r⟩:=Zrb T.i f;obtain ⟨a5,rfl,t⟩:=Zrb T.i j;obtain ⟨v,rfl,y⟩:=Zrb T.i k;obtain ⟨z,rfl,A⟩:=Zrb T.i l;refine ⟨⟨c,m,a3,a4,a5,v,z⟩,rfl,⟨p,q,r,t,y,A⟩,?_⟩;have K:=ZhJ (H:=H) c;simp only [Awo,Rows.uptoBulkAll] at d;simp only [YK.wt];omega
theorem Zv0 (T:TyR P tR tF tB tH tY tL tI ts tb ti tsg tsh tg sF sB sH sY sL sI sT) {fuel:Nat} {cs:List Value} {x:DataW H × List MemPlace} (h:DataW.trod enc P w base spare held fuel tY cs=some x):∃ a:ZaE,cs=Zg0 a/\a.rng/\1<=16*Rows.uptoBulk x.1:=by
  obtain ⟨n,xs,b,q⟩:=fieldsOf T.Y (T.o λu hu=>by simp only [Awr] at hu ⊢;rcases hu with h | h | h | h | h | h<;>simp_all) h;obtain ⟨_,cs,r,xs,rfl,rfl,h1,b⟩:=b.inv;obtain ⟨_,cs,s,xs,rfl,rfl,c,b⟩:=b.inv;obtain ⟨_,cs,t,xs,rfl,rfl,h3,b⟩:=b.inv;obtain ⟨_,cs,v,xs,rfl,rfl,d,b⟩:=b.inv;obtain ⟨_,cs,y,xs,rfl,rfl,e,b⟩:=b.inv;obtain ⟨rfl,rfl⟩:=b.nil;obtain ⟨f,rfl,g⟩:=Zrb T.i h1;obtain ⟨j,rfl,k⟩:=Zrb T.i c;obtain ⟨a3,rfl,l⟩:=Zrb T.i h3;obtain ⟨a4,rfl,m⟩:=Zrb T.i d;obtain ⟨a5,rfl,p⟩:=Zrb T.i e;exact ⟨⟨f,j,a3,a4,a5⟩,rfl,⟨g,k,l,m,p⟩,by omega⟩
theorem ZBk (T:TyR P tR tF tB tH tY tL tI ts tb ti tsg tsh tg sF sB sH sY sL sI sT) {fuel:Nat} {cs:List Value} {x:DataW H × List MemPlace} (h:DataW.trod enc P w base spare held fuel tI cs=some x):∃ a:BL × Int,cs=[sV a.1,i64 a.2]/\Zot a.2/\Zmw a<=16*Rows.uptoBulk x.1:=by
  obtain ⟨n,xs,b,d⟩:=fieldsOf T.I (T.o λu hu=>by simp only [Awr] at hu ⊢;rcases hu with h | h | h<;>simp_all) h;obtain ⟨_,cs,j,xs,rfl,rfl,h1,b⟩:=b.inv;obtain ⟨_,cs,k,xs,rfl,rfl,e,b⟩:=b.inv;obtain ⟨rfl,rfl⟩:=b.nil;obtain ⟨c,rfl,b1⟩:=ZDL T.s h1;obtain ⟨f,rfl,g⟩:=Zrb T.i e;refine ⟨(c,f),rfl,g,?_⟩;have l:=ZhJ (H:=H) c;simp only [Awo,Rows.uptoBulkAll] at d;simp only [Zmw];omega
theorem ZE0 (T:TyR P tR tF tB tH tY tL tI ts tb ti tsg tsh tg sF sB sH sY sL sI sT) {fuel:Nat} {cs:List Value} {x:DataW H × List MemPlace} (h:DataW.trod enc P w base spare held fuel tH cs=some x) :
    ∃ a:Sl × Zex,cs=Zlr a/\(a.2.rng/\ZOv w.heap (λb=>b<sz w.heap) a)/\a.2.wt<=16*Rows.uptoBulk x.1:=by
  obtain ⟨n,xs,c,l⟩:=fieldsOf T.H (T.o λu hu=>by simp only [Awr] at hu ⊢;rcases hu with h | h | h | h | h | h<;>simp_all) h;obtain ⟨_,cs,F,xs,rfl,rfl,h1,c⟩:=c.inv;obtain ⟨_,cs,G,xs,rfl,rfl,m,c⟩:=c.inv;obtain ⟨_,cs,J,xs,rfl,rfl,h3,c⟩:=c.inv;obtain ⟨_,cs,K,xs,rfl,rfl,q,c⟩:=c.inv;obtain ⟨_,cs,t,xs,rfl,rfl,f,c⟩:=c.inv;obtain ⟨rfl,rfl⟩:=c.nil;obtain ⟨j,rfl,b1⟩:=ZDL T.s h1;obtain ⟨v,rfl,z⟩:=Zrb T.i m;obtain ⟨a3,rfl,A⟩:=Zrb T.i h3;obtain ⟨a4,rfl,B⟩:=Zrb T.i q;obtain ⟨s5,rfl⟩:=tSl T.lI f;obtain ⟨fs,C,D,d⟩:=T.I
  obtain ⟨E,⟨k,ip⟩,ib⟩:=ZgS (α:=BL × Int) (g:=λp=>[sV p.1,i64 p.2]) (n:=2) (Pa:=λp=>Zot p.2) (μ:=Zmw) (N:=Rows.uptoBulk t.1) (λ_=>rfl) (by decide) T.lI d (λ{fuel cs y} _ h=>by
    obtain ⟨a,e,r,b⟩:=ZBk T h
    exact ⟨a,e,r,b⟩) (Aqo _) f
  refine ⟨(s5,⟨j,v,a3,a4,E⟩),rfl,⟨⟨z,A,B,ip⟩,k,Zku k (by decide)⟩,?_⟩;have L:=ZhJ (H:=H) j;simp only [Awo,Rows.uptoBulkAll] at l;simp only [Zex.wt];omega
theorem ZBj (T:TyR P tR tF tB tH tY tL tI ts tb ti tsg tsh tg sF sB sH sY sL sI sT) {fuel:Nat} {cs:List Value} {x:DataW H × List MemPlace} (h:DataW.trod enc P w base spare held fuel tL cs=some x) :
    ∃ a:Sl × ZbE,cs=ZiB a/\ZyQ w.heap (λb=>b<sz w.heap) a/\a.2.wt<=16*Rows.uptoBulk x.1:=by
  obtain ⟨n,xs,c,j⟩:=fieldsOf T.L (T.o λu hu=>by simp only [Awr] at hu ⊢;rcases hu with h | h | h | h<;>simp_all) h;obtain ⟨_,cs,q,xs,rfl,rfl,h1,c⟩:=c.inv;obtain ⟨_,cs,r,xs,rfl,rfl,k,c⟩:=c.inv;obtain ⟨_,cs,l,xs,rfl,rfl,h3,c⟩:=c.inv;obtain ⟨rfl,rfl⟩:=c.nil;obtain ⟨f,rfl,b1⟩:=ZDL T.s h1;obtain ⟨m,rfl⟩:=ZAy T.b k;obtain ⟨i,rfl⟩:=tSl T.lT h3
  obtain ⟨nl,⟨p,_⟩,t⟩:=ZgS (α:=BL) (g:=λn=>[sV n]) (n:=1) (Pa:=λ_=>True) (μ:=Zmr) (N:=Rows.uptoBulk l.1) (λ_=>rfl) (by decide) T.lT (T.o (tys:=[ts]) (by simp) ts (by simp)) (λ{fuel cs y} _ h=>by
    obtain ⟨s,e,he,_⟩:=DataW.trod_string T.s h;refine ⟨s.data.toList,by rw [e],trivial,?_⟩;rw [he];have:=ZhJ (H:=H) s.data.toList;simp only [Zmr]
    omega) (Aqo _) h3
  have d:Row w.heap i 1 (nl.map sV):=by rw [<- Zyh];exact p
  refine ⟨(i,⟨f,m,nl⟩),rfl,⟨d,Zku d (by decide)⟩,?_⟩;have v:=ZhJ (H:=H) f;simp only [Awo,Rows.uptoBulkAll] at j;simp only [ZbE.wt];omega
theorem ZyC (T:TyR P tR tF tB tH tY tL tI ts tb ti tsg tsh tg sF sB sH sY sL sI sT) {fuel:Nat} {cs:List Value} {x:DataW H × List MemPlace} (h:DataW.trod enc P w base spare held fuel tR cs=some x) :
    ∃ (z:VTR) (r:RulesP),cs=Zjx z/\Y8 w.heap (λb=>b<sz w.heap) z r/\r.rng/\r.wt<=16*Rows.uptoBulk x.1:=by
  obtain ⟨n,xs,c,v⟩:=fieldsOf T.R (T.o λu hu=>by simp only [Awr] at hu ⊢;rcases hu with h | h | h | h | h | h<;>simp_all) h;obtain ⟨_,cs,A,xs,rfl,rfl,h1,c⟩:=c.inv;obtain ⟨_,cs,C,xs,rfl,rfl,e,c⟩:=c.inv;obtain ⟨_,cs,D,xs,rfl,rfl,h3,c⟩:=c.inv;obtain ⟨_,cs,E,xs,rfl,rfl,i,c⟩:=c.inv;obtain ⟨_,cs,G,xs,rfl,rfl,j,c⟩:=c.inv;obtain ⟨rfl,rfl⟩:=c.nil;obtain ⟨s1,rfl⟩:=tSl T.lF h1;obtain ⟨s2,rfl⟩:=tSl T.lB e;obtain ⟨I,rfl⟩:=tSl T.lH h3;obtain ⟨s4,rfl⟩:=tSl T.lY i;obtain ⟨s5,rfl⟩:=tSl T.lL j
  haveI:Inhabited FlowP:=⟨⟨[],[],false,0,0,[],0,0,0,false,0,false⟩⟩
  haveI:Inhabited YK:=⟨⟨[],0,0,0,0,0,0⟩⟩
  haveI:Inhabited ZaE:=⟨⟨0,0,0,0,0⟩⟩
  haveI:Inhabited (Sl × Zex):=⟨(⟨none,0,0⟩,⟨[],0,0,0,[]⟩)⟩
  haveI:Inhabited (Sl × ZbE):=⟨(⟨none,0,0⟩,⟨[],false,[]⟩)⟩
  obtain ⟨f1,⟨k,J⟩,b1⟩:=ZgS (α:=FlowP) (g:=Zfj) (n:=12) (Pa:=FlowP.rng) (μ:=FlowP.wt) (N:=Rows.uptoBulk A.1) (λ_=>rfl) (by decide) T.lF T.F.choose_spec.2.2 (λ{fuel cs y} _ h=>ZBl T h) (Aqo _) h1;obtain ⟨f2,⟨l,K⟩,b2⟩:=ZgS (α:=YK) (g:=Zdl) (n:=7) (Pa:=YK.rng) (μ:=YK.wt) (N:=Rows.uptoBulk C.1) (λ_=>rfl) (by decide) T.lB T.B.choose_spec.2.2 (λ{fuel cs y} _ h=>ZyF T h) (Aqo _) e;obtain ⟨f3,⟨m,q⟩,Q⟩:=ZgS (α:=Sl × Zex) (g:=Zlr) (n:=5) (Pa:=λa=>a.2.rng/\ZOv w.heap (λb=>b<sz w.heap) a) (μ:=λa=>a.2.wt) (N:=Rows.uptoBulk D.1) (λ_=>rfl) (by decide) T.lH T.H.choose_spec.2.2 (λ{fuel cs y} _ h=>ZE0 T h) (Aqo _) h3;obtain ⟨f4,⟨s,M⟩,b4⟩:=ZgS (α:=ZaE) (g:=Zg0) (n:=5) (Pa:=ZaE.rng) (μ:=λ_=>1) (N:=Rows.uptoBulk E.1) (λ_=>rfl) (by decide) T.lY T.Y.choose_spec.2.2 (λ{fuel cs y} _ h=>Zv0 T h) (Aqo _) i;obtain ⟨f5,⟨t,O⟩,S⟩:=ZgS (α:=Sl × ZbE) (g:=ZiB) (n:=3) (Pa:=λa=>ZyQ w.heap (λb=>b<sz w.heap) a) (μ:=λa=>a.2.wt) (N:=Rows.uptoBulk G.1) (λ_=>rfl) (by decide) T.lL T.L.choose_spec.2.2 (λ{fuel cs y} _ h=>ZBj T h) (Aqo _) j;refine ⟨(s1,s2,I,s4,s5,()),⟨f1,f2,f3.map (·.2),f4,f5.map (·.2)⟩,rfl,⟨⟨k,Zku k (by decide)⟩,⟨l,Zku l (by decide)⟩,⟨f3,rfl,⟨m,Zku m (by decide)⟩,λp d=>(q p d).2⟩,⟨s,Zku s (by decide)⟩,⟨f5,rfl,⟨t,Zku t (by decide)⟩,O⟩⟩,⟨J,K,λf c=>?_,M⟩,?_⟩
  ·obtain ⟨p,d,rfl⟩:=Axz.1 c
   exact (q p d).1
  ·simp only [Awo,List.map_nil,Rows.uptoBulkAll] at v
   simp only [RulesP.wt,Aya];have U:(f3.map (Zex.wt ∘ λx=>x.2)).sum=(f3.map λa=>a.2.wt).sum:=rfl;have V:(f5.map (ZbE.wt ∘ λx=>x.2)).sum=(f5.map λa=>a.2.wt).sum:=rfl;omega
end
end Go.Proofs.YthbfgkphlmlihaaGreat.Rw
namespace Go.Proofs.YthbfgkphlmlihaaGreat
open Go Go.Fw Go.Js Go.ChangeShapes Go.WideShapes
theorem Zuo:∀ l:List ByteArray,l.flatMap (λs=>[Value.string s])=l.map .string
  | []=>rfl
  | x::l=>by rw [Aye,Zuo l];rfl
theorem ZjB {α:Type} {f:α->Nat}:∀ {l:List α} {a:α},a∈l->f a<=(l.map f).sum
  | [],a,h=>by cases h
  | b::l,a,h=>by
    rw [Awo,Azb]
    rcases Awr.1 h with rfl | h
    ·omega
    ·have:=ZjB (f:=f) h;omega
theorem ZxM {α:Type} {f:α->Nat} (c:∀ a,1<=f a):∀ (l:List α),l.length<=(l.map f).sum
  | []=>Ayg _
  | b::l=>by
    rw [Awo,Azb,Aqj];have:=ZxM c l;have:=c b;omega
theorem Zyi {r:RulesP} (h:r.wt<=1000000000000):Rw.RulesP.fit r:=by
  unfold RulesP.wt at h;refine ⟨λf b=>?_,λf b=>?_,λf b=>⟨?_,?_⟩,λf b=>⟨?_,λn c=>?_⟩⟩
  ·have h1:f.wt<=(r.fl.map FlowP.wt).sum:=ZjB b
   have e:f.wt=1+f.res.length+f.org.length+f.ref.length:=rfl;omega
  ·have h1:f.wt<=(r.br.map YK.wt).sum:=ZjB b
   have e:f.wt=1+f.res.length:=rfl;omega
  ·have h1:f.wt<=(r.ho.map Zex.wt).sum:=ZjB b
   have e:f.wt=1+f.res.length+(f.items.map Zmw).sum:=rfl;omega
  ·have h1:f.wt<=(r.ho.map Zex.wt).sum:=ZjB b
   have e:f.wt=1+f.res.length+(f.items.map Zmw).sum:=rfl;have d:=ZxM (f:=Zmw) (λa=>by unfold Zmw;omega) f.items;omega
  ·have h1:f.wt<=(r.li.map ZbE.wt).sum:=ZjB b
   have e:f.wt=1+f.res.length+(f.origins.map Zmr).sum:=rfl;omega
  ·have h1:f.wt<=(r.li.map ZbE.wt).sum:=ZjB b
   have e:f.wt=1+f.res.length+(f.origins.map Zmr).sum:=rfl;have d:Zmr n<=(f.origins.map Zmr).sum:=ZjB c;have g:Zmr n=1+n.length:=rfl;omega
section
variable {H:Type} {enc:TypeId × Value->H} {P:Program} {w:World} {base:Nat} {spare:Nat->Bool} {held:Bool}
theorem ZyE {t:TypeId} {fs:Array Field} {cs:List Value} {fuel:Nat} {x:DataW H × List MemPlace} (F:P.underlying t=some (.struct fs)) (G:P.cellsOf t=7) {j ts tb v:TypeId} (k:P.underlying j=some (.int .i64)) (e:P.underlying ts=some .string) (z:P.underlying tb=some .bool) (m:P.underlying v=some (.slice ts))
    (ci:P.cellsOf j=1) (o:P.cellsOf ts=1) (cb:P.cellsOf tb=1) (cl:P.cellsOf v=1) (B:fs.toList.map (λf=>(f.type,f.offset))=[(j,0),(ts,1),(ts,2),(ts,3),(tb,4),(j,5),(v,6)])
    (h:DataW.trod enc P w base spare held fuel t cs=some x):∃ (c:PC) (sl:Sl) (al:List ByteArray),cs=c8L (Go.Proofs.YthbfgkphlmlihaaGreat.cl c sl)/\Row w.heap sl 1 (al.map .string)/\Zhu (Go.Proofs.YthbfgkphlmlihaaGreat.cl c nl)/\al.length<=16*Rows.uptoBulk x.1:=by
  obtain ⟨xs,n,rfl,rfl,hl,hlen,q⟩:=DataW.trod_struct F h;rw [G] at hl
  have I:fs.size=7:=by
    have:=congrArg List.length B;simpa using this
  match cs,hl with
  | [c0,c1,J,K,L,M,O],_ =>
    have b:∀ {i:Nat} {p:TypeId × Nat} (hi:i<xs.length),([(j,0),(ts,1),(ts,2),(ts,3),(tb,4),(j,5),(v,6)]:List (TypeId × Nat))[i]?=some p->DataW.trod enc P w base spare held n p.1 (([c0,c1,J,K,L,M,O].drop p.2).take (P.cellsOf p.1))=some xs[i]:=λ{i p} hi Q=>by
      obtain ⟨f,R,S,T⟩:=Rw.Ztq B Q;have:=q i f R;rw [S,T,Axy hi] at this;exact this
    have f0:=b (i:=0) (by omega) rfl;have f1:=b (i:=1) (by omega) rfl;have f2:=b (i:=2) (by omega) rfl;have f3:=b (i:=3) (by omega) rfl;have f4:=b (i:=4) (by omega) rfl;have f5:=b (i:=5) (by omega) rfl;have f6:=b (i:=6) (by omega) rfl;dsimp only at f0 f1 f2 f3 f4 f5 f6;rw [ci] at f0 f5;rw [o] at f1 f2 f3;rw [cb] at f4;rw [cl] at f6;obtain ⟨U,h0,_⟩:=DataW.trod_int k f0;obtain ⟨s1,h1,_,V⟩:=DataW.trod_string e f1;obtain ⟨s2,C,_,W⟩:=DataW.trod_string e f2;obtain ⟨X,h3,_,z3⟩:=DataW.trod_string e f3;obtain ⟨b4,D,_⟩:=DataW.trod_bool z f4;obtain ⟨Y,E,_⟩:=DataW.trod_int k f5;simp at h0 h1 C h3 D E;subst h0 h1 C h3 D E;obtain ⟨Z,h6⟩:=Rw.tSl m f6;subst h6
    obtain ⟨al,⟨r,_⟩,u⟩:=Rw.ZgS (α:=ByteArray) (g:=λs=>[Value.string s]) (n:=1) (Pa:=λ_=>True) (μ:=λ_=>1) (N:=Rows.uptoBulk (xs[6]'(by omega)).1) (λ_=>rfl) (by decide) m o (λ{fuel cs y} _ h=>by
      obtain ⟨s,A,he,_⟩:=DataW.trod_string e h;have:=ZBf y.1
      exact ⟨s,A,trivial,by omega⟩) (Aqo _) f6
    refine ⟨(U,s1,s2,X,b4,Y),Z,al,rfl,?_,⟨Rw.Zlm V,Rw.Zlm W,Rw.Zlm z3⟩,?_⟩
    ·rw [<- Zuo al]
     exact r
    ·have e1:(al.map λ_=>1).sum=al.length:=by
       clear r u
       induction al with
       | nil=>rfl
       | cons a l ih=>simp [ih];omega
     have hm:=Rw.ZmZ (H:=H) (d:=(xs[6]'(by omega)).1) (l:=xs.map (·.1)) (Axz.2 ⟨_,Ayy _,rfl⟩);simp only [Rows.uptoBulk];omega
theorem ZyD {t:TypeId} {fs:Array Field} {cs:List Value} {fuel:Nat} {x:DataW H × List MemPlace} (U:P.underlying t=some (.struct fs)) (V:P.cellsOf t=19) {e u tb tr:TypeId} (g:P.underlying e=some (.int .i64)) (o:P.underlying tb=some .bool)
    (ci:P.cellsOf e=1) (cb:P.cellsOf tb=1) (W:P.cellsOf u=7) (X:P.cellsOf tr=5) (L:fs.toList.map (λf=>(f.type,f.offset))=[(e,0),(u,1),(tb,8),(e,9),(e,10),(tb,11),(tr,12),(e,17),(e,18)])
    (m:∀ {fuel:Nat} {cs:List Value} {x:DataW H × List MemPlace},DataW.trod enc P w base spare held fuel u cs=some x->∃ (c:PC) (sl:Sl) (al:List ByteArray),cs=c8L (Go.Proofs.YthbfgkphlmlihaaGreat.cl c sl)/\Row w.heap sl 1 (al.map .string)/\Zhu (Go.Proofs.YthbfgkphlmlihaaGreat.cl c nl)/\al.length<=16*Rows.uptoBulk x.1)
    (j:∀ {fuel:Nat} {cs:List Value} {x:DataW H × List MemPlace},DataW.trod enc P w base spare held fuel tr cs=some x->∃ (z:Rw.VTR) (r:RulesP),cs=Rw.Zjx z/\Rw.Y8 w.heap (λb=>b<sz w.heap) z r/\r.rng/\r.wt<=16*Rows.uptoBulk x.1)
    (Y:Rows.uptoBulk x.1<1048577) (h:DataW.trod enc P w base spare held fuel t cs=some x):∃ y:Zsp,cs=Zr8 y/\Zj1 w.heap (sz w.heap) y.1 y.2.1 y.2.2:=by
  obtain ⟨xs,n,rfl,rfl,hl,hlen,q⟩:=DataW.trod_struct U h;rw [V] at hl
  have Z:fs.size=9:=by
    have:=congrArg List.length L;simpa using this
  have M:∀ (i:Nat) (hi:i<xs.length),Rows.uptoBulk (xs[i]'hi).1<=1048576:=λi hi=>by
    have hm:=Rw.ZmZ (H:=H) (d:=(xs[i]'hi).1) (l:=xs.map (·.1)) (Axz.2 ⟨_,Ayy _,rfl⟩);simp only [Rows.uptoBulk] at Y;omega
  match cs,hl with
  | [a0,a1,a2,a3,a4,a5,a6,a7,a8,a9,v,A,B,C,D,E,F,G,I],_ =>
    have a:∀ {i:Nat} {p:TypeId × Nat} (hi:i<xs.length),([(e,0),(u,1),(tb,8),(e,9),(e,10),(tb,11),(tr,12),(e,17),(e,18)]:List (TypeId × Nat))[i]?=some p->DataW.trod enc P w base spare held n p.1 (([a0,a1,a2,a3,a4,a5,a6,a7,a8,a9,v,A,B,C,D,E,F,G,I].drop p.2).take (P.cellsOf p.1))=some xs[i]:=λ{i p} hi hp=>by
      obtain ⟨f,g1,g2,g3⟩:=Rw.Ztq L hp;have:=q i f g1;rw [g2,g3,Axy hi] at this;exact this
    have f0:=a (i:=0) (by omega) rfl;have f1:=a (i:=1) (by omega) rfl;have f2:=a (i:=2) (by omega) rfl;have f3:=a (i:=3) (by omega) rfl;have f4:=a (i:=4) (by omega) rfl;have f5:=a (i:=5) (by omega) rfl;have f6:=a (i:=6) (by omega) rfl;have f7:=a (i:=7) (by omega) rfl;have f8:=a (i:=8) (by omega) rfl;dsimp only at f0 f1 f2 f3 f4 f5 f6 f7 f8;rw [ci] at f0 f3 f4 f7 f8;rw [cb] at f2 f5;rw [W] at f1;rw [X] at f6;obtain ⟨n0,h0,_⟩:=DataW.trod_int g f0;obtain ⟨c,sl,al,s,k,J,aq⟩:=m f1;obtain ⟨b2,N,_⟩:=DataW.trod_bool o f2;obtain ⟨n3,h3,_⟩:=DataW.trod_int g f3;obtain ⟨n4,O,_⟩:=DataW.trod_int g f4;obtain ⟨b5,Q,_⟩:=DataW.trod_bool o f5;obtain ⟨z,r,R,K,_,aw⟩:=j f6;obtain ⟨n7,S,_⟩:=DataW.trod_int g f7;obtain ⟨n8,T,_⟩:=DataW.trod_int g f8;have k1:=M 1 (by omega);have k6:=M 6 (by omega);simp at h0 N h3 O Q S T;subst h0 N h3 O Q S T;simp only [List.drop,List.take,c8L,Rw.Zjx,Go.Proofs.YthbfgkphlmlihaaGreat.cl,Axw,and_true] at s R;obtain ⟨rfl,rfl,rfl,rfl,rfl,rfl,rfl⟩:=s;obtain ⟨rfl,rfl,rfl,rfl,rfl⟩:=R;exact ⟨(⟨n0,c,al,b2,n3,n4,b5,r,n7,n8⟩,sl,z),rfl,⟨k,Rw.Zku k (by decide),(by show al.length<=_;omega),J,K,Zyi (by show r.wt<=_;omega)⟩⟩
end
theorem tyR:Rw.TyR Tryz.prog 39 32 52 134 202 160 212 9 4 3 29 30 50 33 34 35 36 37 132 45 where
  R:=⟨_,Tryz.underlying39,by kernel_rfl,by kernel_rfl⟩
  F:=⟨_,Tryz.underlying32,by kernel_rfl,by kernel_rfl⟩
  B:=⟨_,Tryz.underlying52,by kernel_rfl,by kernel_rfl⟩
  H:=⟨_,Tryz.underlying134,by kernel_rfl,by kernel_rfl⟩
  Y:=⟨_,Tryz.underlying202,by kernel_rfl,by kernel_rfl⟩
  L:=⟨_,Tryz.underlying160,by kernel_rfl,by kernel_rfl⟩
  I:=⟨_,Tryz.underlying212,by kernel_rfl,by kernel_rfl⟩
  s:=Tryz.underlying9
  b:=Tryz.underlying4
  i:=Tryz.underlying3
  sg:=Tryz.underlying29
  sh:=Tryz.underlying30
  g:=Tryz.underlying50
  lF:=Tryz.underlying33
  lB:=Tryz.underlying34
  lH:=Tryz.underlying35
  lY:=Tryz.underlying36
  lL:=Tryz.underlying37
  lI:=Tryz.underlying132
  lT:=Tryz.underlying45
  one:=by kernel_rfl
theorem Zv1 {H:Type} {enc:TypeId × Value->H} {w:World} {base:Nat} {spare:Nat->Bool} {held:Bool} {fuel:Nat} {a:Option Addr} {len cap:Nat} {x:DataW H × List MemPlace} (d:Rows.uptoBulk x.1<=1048576)
    (h:DataW.trod enc Tryz.prog w base spare held fuel 55 [.slice a len cap]=some x):∃ l:List Zsp,Row w.heap ⟨a,len,cap⟩ 19 (l.flatMap Zr8)/\∀ y,y∈l->Zj1 w.heap (sz w.heap) y.1 y.2.1 y.2.2:=by
  haveI:Inhabited Zsp:=⟨(⟨0,(0,em,em,em,false,0),[],false,0,0,false,⟨[],[],[],[],[]⟩,0,0⟩,nl,(nl,nl,nl,nl,nl,()))⟩
  obtain ⟨l,hl,_⟩:=Rw.ZgS (α:=Zsp) (g:=Zr8) (n:=19) (Pa:=λy=>Zj1 w.heap (sz w.heap) y.1 y.2.1 y.2.2) (μ:=λ_=>0) (N:=1048577) (λ_=>rfl) (by decide) Tryz.underlying55 (by kernel_rfl) (λ{fuel cs y} b h=>by
    obtain ⟨z,h1,c⟩:=ZyD Tryz.underlying58 (by kernel_rfl) Tryz.underlying3 Tryz.underlying4 (by kernel_rfl) (by kernel_rfl) (by kernel_rfl) (by kernel_rfl) (by kernel_rfl)
      (ZyE Tryz.underlying47 (by kernel_rfl) Tryz.underlying3 Tryz.underlying9 Tryz.underlying4 Tryz.underlying45 (by kernel_rfl) (by kernel_rfl) (by kernel_rfl) (by kernel_rfl) (by kernel_rfl)) (Rw.ZyC tyR) b h
    exact ⟨z,h1,c,Ayg _⟩) (by omega) h
  exact ⟨l,hl⟩
theorem ZmO {h:Zf} {l:Sl} {a:List Zsp} {K:Bool->Zf->Prop} (hl:Row h l 19 (a.flatMap Zr8)/\∀ y,y∈a->Zj1 h (sz h) y.1 y.2.1 y.2.2) (b:∀ h',Ext h h'->K true h'):Xx l K h:=Zvt hl.1 hl.2 b
end Go.Proofs.YthbfgkphlmlihaaGreat
