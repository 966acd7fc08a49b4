/- The live part of the laws of the slots, with the general engine. -/
import Derived.Test.YthbfgkphlmlihaaGreatRows
import Derived.Deep.Slices
import Derived.ChangeSlices
import Derived.ChangeArms
import Derived.Test.YthbfgkphlmlihaaGreatProg
import Derived.KernelRfl
import Derived.Test.YthbfgkphlmlihaaGreatPa17
set_option linter.unusedVariables false
set_option linter.unusedSimpArgs false
namespace Go.Proofs.YthbfgkphlmlihaaGreat
open Go Go.Fw Go.Js
abbrev ZNR:ByteArray:=ByteArray.mk #[109,97,105,110]
def fA:FlowP:=⟨[97],[100,101,102,97,117,108,116],false,1,0,[],0,0,0,false,0,false⟩
def rA:RulesP:=⟨[fA],[],[],[],[]⟩
def cA:PC:=(0,sA,ZNR,em,false,1)
abbrev kA:K4:=(4,em,sA,em,())
theorem ZGy:rA.whereE.2.2=0:=by decide
theorem ZOG:Rw.RulesP.fit rA:=by
  refine ⟨fun f a=>?_,fun f a=>(by cases a),fun f a=>(by cases a),fun f a=>(by cases a)⟩;have:f=fA:=by simpa [rA] using a
  subst this;decide
theorem ZNU:ZmJ [fA] (cl cA nl)=[0]:=by
  unfold ZmJ ZfZ ZfZ cbK ZA4 Zas;simp only [ZgY];decide
theorem ZRq:Zs9 (Zas (Rw.ZaJ fA) (cl cA nl))=kA:=by
  unfold Zs9 Zas;simp only [ZgY];decide
def tA1:Tree:=Tree.zero.touched (cl cA nl)
def tA2:Tree:=(tA1.passed (cl cA nl)).touched (cl cA nl)
theorem ZGA:ZlY (Rw.ZaJ fA) (ZmI (tA1.f kA) 0).1 (oFl (tA1.f kA)) 1=true:=by decide
theorem ZGz:ZlY (Rw.ZaJ fA) (ZmI (tA2.f kA) 0).1 (oFl (tA2.f kA)) 1=false:=by decide
theorem Zw2:Zhs (cl cA nl):=⟨by decide,by decide,by decide⟩
def ZtH (t:Tree) (la op:Int):Int :=
  if ZiA (cl cA nl)≠0 then ZiA (cl cA nl) else if ¬ (0<=cA.1/\cA.1<=1152921504606846976) then 2 else if ¬ (1<=cA.2.2.2.2.2/\cA.2.2.2.2.2<=1099511627776) then 2 else if 8<([]:List ByteArray).length then 5 else if ZkW []=true then 5
  else if cA.1<la then 7 else if 4096<=op then 3 else t.touchE (cl cA nl)
theorem ZDt:ZtH Tree.zero 0 0=0:=by decide
theorem ZDs:ZtH (tA1.passed (cl cA nl)) 0 1=0:=by decide
theorem ZGP {G:GS} (a:G.r=rA) (d:G.fl=[(none,none)]):ZnE G cA [] false=if ZlY (Rw.ZaJ fA) (ZmI (G.t.f kA) 0).1 (oFl (G.t.f kA)) 1=true then (none,[],0) else (some (4,0),[],0):=by
  have e:ofK G.r 5 cA.2.1=[]:=by rw [a];decide
  have g:ofK G.r 3 cA.2.1=[]:=by rw [a];decide
  have h:ofK G.r 2 cA.2.1=[]:=by rw [a];decide
  have c:ZmJ G.r.fl (cl cA nl)=[0]:=by rw [a];exact ZNU
  have l:stg G cA [] false 0 ([],0)=(none,([],0)):=by
    show Zfn (Zpm G cA) (ofK G.r 5 cA.2.1) ([],0)=_;rw [e];rfl
  have s1:stg G cA [] false 1 ([],0)=(none,([],0)):=rfl
  have s2:stg G cA [] false 2 ([],0)=(none,([],0)):=by
    show Zfn (ZnG G cA []) (ofK G.r 3 cA.2.1) ([],0)=_;rw [g];rfl
  have s4:stg G cA [] false 4 ([],0)=(none,([],0)):=by
    show Zfn (ZnH G cA) (ofK G.r 2 cA.2.1) ([],0)=_;rw [h];rfl
  have m:Zfl G cA false 0=⟨!ZlY (Rw.ZaJ fA) (ZmI (G.t.f kA) 0).1 (oFl (G.t.f kA)) 1,[],none⟩:=by
    unfold Zfl;rw [a,d];show (if fA.clu=true/\(false=true\/fA.fb=false) then _ else Zko fA (none,none) (G.t.f (Zs9 (Zas (Rw.ZaJ fA) (cl cA nl)))) cA 0)=_;rw [ZRq,if_neg (by decide)];rfl
  have o:stg G cA [] false 3 ([],0)=if ZlY (Rw.ZaJ fA) (ZmI (G.t.f kA) 0).1 (oFl (G.t.f kA)) 1=true then (none,([],0)) else (some 0,([],0)):=by
    show Zfn (Zfl G cA false) (ZmJ G.r.fl (cl cA nl)) ([],0)=_;rw [c];show (if (Zfl G cA false 0).b=true then (some (0:Int),([]:List Tk)++(Zfl G cA false 0).tk,wtV 0 (Zfl G cA false 0).wt) else (none,([]:List Tk)++(Zfl G cA false 0).tk,wtV 0 (Zfl G cA false 0).wt))=_;rw [m];cases ZlY (Rw.ZaJ fA) (ZmI (G.t.f kA) 0).1 (oFl (G.t.f kA)) 1<;>rfl
  have k:∀ (n j:Nat) (x:List Tk × Int),Zlk (stg G cA [] false) (n+1) j x=match (stg G cA [] false j x).1 with
    | some i=>(some (((j+1:Nat):Int),i),(stg G cA [] false j x).2)
    | none=>Zlk (stg G cA [] false) n (j+1) (stg G cA [] false j x).2:=fun _ _ _=>rfl
  unfold ZnE;rw [k,l];show Zlk _ 4 1 ([],0)=_;rw [k,s1];show Zlk _ 3 2 ([],0)=_;rw [k,s2];show Zlk _ 2 3 ([],0)=_;rw [k,o]
  cases ZlY (Rw.ZaJ fA) (ZmI (G.t.f kA) 0).1 (oFl (G.t.f kA)) 1 with
  | false=>rfl
  | true =>
    show Zlk _ 1 4 ([],0)=_;rw [k,s4];rfl
noncomputable def gA1:GS:=(GS.new 10 1).load rA
theorem ZEF:gA1.enter cA [] false=((1,(0,0,0,()),0),(gA1.mid cA).pass cA []):=by
  unfold GS.enter;rw [if_neg (fun h=>h (show ZtH Tree.zero 0 0=0 from ZDt)),ZGP (G:=gA1.mid cA) rfl rfl,if_pos (show ZlY (Rw.ZaJ fA) (ZmI ((gA1.mid cA).t.f kA) 0).1 (oFl ((gA1.mid cA).t.f kA)) 1=true from ZGA)];rfl
noncomputable def gA2:GS:=(gA1.mid cA).pass cA []
theorem ZEE:gA2.enter cA [] false=((0,(4,0,0,()),0),(gA2.mid cA).blocked cA):=by
  unfold GS.enter;rw [if_neg (fun h=>h (show ZtH (tA1.passed (cl cA nl)) 0 1=0 from ZDs)),ZGP (G:=gA2.mid cA) rfl rfl,if_neg (by rw [show ZlY (Rw.ZaJ fA) (ZmI ((gA2.mid cA).t.f kA) 0).1 (oFl ((gA2.mid cA).t.f kA)) 1=false from ZGz];decide)]
section
variable {h:Zf} {T:TgM} {L:Lay} {G:GS}
theorem ZyR {c:PC} {sl:Sl} {al:List ByteArray} (o:Za9 h T L G) (ok:GOK G) (hz:Zhs (cl c nl)) (z:Row h sl 1 (al.map .string)) (e:∀ b,sl.blk=some b->b<sz h/\T b=none) {K:Int->V4->Int->Zf->Prop}
    (p:∀ h' T' q,Za9 h' T' q (G.enter c al false).2->q.eb=L.eb->GrG T T' h h'->K (G.enter c al false).1.1 (G.enter c al false).1.2.1 (G.enter c al false).1.2.2 h'):Zbm (some ⟨L.eb,0,none⟩) (cl c sl) K h:=by
  unfold Zbm Zdz;refine ZJ fun h1 c1 A B=>Za (ZJ fun r C t D=>Za ?_);have a:=A.trans t;have d:=Zj c1 t;have s1:sz h1=sz h+1:=B;have s2:sz r=sz h1+1:=D;refine rI (Zb d rfl) (rS (Zb d rfl) (rS (Zb d rfl) (rS (Zb d rfl) (rB (Zb d rfl) (rI (Zb d rfl) (rL (s:=sl) (Zb d rfl) ?_))))));refine ZyS (o.ext a) ok hz (z.ext a) (fun b u=>⟨by have:=(e b u).1;omega,(e b u).2⟩) fun h3 w E F eb f=>Za ?_;have x:T (sz h1)=none:=Classical.byContradiction fun i=>by have:=o.hT _ i;omega
  have H:obj h3 (sz h1)=_:=(f.old (show sz h1<sz r by omega) x).trans C
  have k:w (sz h1)=none:=Classical.byContradiction fun i=>by
    rcases f.n _ i with g | g
    ·exact g x
    ·omega
  generalize (G.enter c al false).1.2.1=v at p ⊢;obtain ⟨v1,v2,v3,v4⟩:=v;refine Zbe H fun I l y z4=>Za (rI (Zb l rfl) (rI (Zb l rfl) (rI (Zb l rfl) (p I w E (F.frame y fun j m=>by rw [show j=sz h1 from m];exact k) eb ((GrG.pre a f).new y fun j m=>by have J:j=sz h1:=m;omega)))))
end
theorem ZD0 {h:Zf} {mb n:Nat} {v:Value} (hm:ZlA h mb (upd (fun _=>none) 1 (some v)) n):Zuz h mb [1]:=by
  obtain ⟨es,c,d,hs,i,he⟩:=hm;refine ⟨es,c,d,hs,?_,by simp,fun x f=>by simp at f;omega⟩;have hd:=((MapKept.stamped_iff es c).1 hs).2.2
  have a:∀ e∈es.toList,e.key=iv 1:=fun e hm=>by
    obtain ⟨k,g,hv⟩:=he.to_ e hm;unfold upd at hv;split at hv
    ·rename_i b;rw [g,b]
    ·cases hv
  obtain ⟨e,hm,_⟩:=he.of 1 v (ZdR _ _ _)
  cases hl:es.toList with
  | nil=>rw [hl] at hm;cases hm
  | cons x l =>
    rw [hl] at a hd
    cases l with
    | nil=>simp [a x (List.mem_cons_self ..)]
    | cons y l =>
      have h1:=List.pairwise_cons.1 hd;exact absurd ((a x (List.mem_cons_self ..)).trans (a y (by simp)).symm) (h1.1 y (List.mem_cons_self ..))
theorem ZGC {h:Zf} {T:TgM} {L:Lay} {G:GS} (d:Za9 h T L G) {e:Ent} (x:G.en=upd (fun _=>none) 1 (some e)) (ho:e.ov=false) {K:Sl->Zf->Prop} (y:∀ h' s,Ext h h'->s.len=1->K s h'):ZbI (some ⟨L.eb,0,none⟩) K h:=by
  obtain ⟨f,n,z⟩:=d.ent
  obtain ⟨g,A⟩:∃ g,f=upd (fun _=>none) 1 (some (ZHf e.c e.ov g)):=by
    rcases z.e 1 with ⟨k,_⟩ | ⟨W,s',k,J,_⟩
    ·rw [x,ZdR] at k;cases k
    ·rw [x,ZdR] at k
     cases k;refine ⟨s',funext fun j=>?_⟩
     by_cases q:j=1
     ·subst q;rw [J,ZdR]
     ·rw [Zh5 _ _ q]
      rcases z.e j with ⟨_,b2⟩ | ⟨M,N,b1,_⟩
      ·exact b2
      ·rw [x,Zh5 _ _ q] at b1;cases b1
  have hm:=z.m;rw [A] at hm;unfold ZbI Zeg;refine ZJ fun h1 c1 l X=>rP (Zb c1 rfl) (Zi rfl (rP (Zb c1 rfl) (Zg (rM (Zb (d.ext l).cells rfl) ?_))));unfold Yx;refine ZJ fun O P r Y=>?_;have R:=(d.ext l).ext r;have B:=ZbA d.hT d.fT;have a:ZlA O L.fm (upd (fun _=>none) 1 (some (ZHf e.c e.ov g))) n:=hm.congr (ZG (l.trans r) B);refine ⟨_,L.fm,[1],rfl,by rw [Yo];exact Zb P rfl,ZD0 a,by decide,fun s h3 I t=>?_⟩;have hl:s.len=1:=by have:=I.len;simp at this;omega
  have S:=R.ext t;have C:ZlA h3 L.fm (upd (fun _=>none) 1 (some (ZHf e.c e.ov g))) n:=a.congr (ZG t a.lt);have D:=(l.trans r).trans t;have U:=Zj (Zj c1 r) t;unfold Ys Yu Yw Yy;refine Za (Zbd (fun p w=>(p.1=0\/p.1=1)/\w=h3) (fun p _=>(1 - p.1).toNat) ⟨.inl rfl,rfl⟩ ?_);rintro ⟨i,u⟩ w ⟨hi,E⟩ Q V;subst E;dsimp only at hi ⊢
  rcases hi with hi | hi
  ·subst hi
   rw [hl]
   have F:∀ {K:Nat->Nat->Prop},(∀ b o,Zf.cell w b o=some (iv 1)->K b o)->YR s.ptr 1 0 1 K:=fun {K} y=>by
     have:=I.row.idx (i:=0) (n:=0) (v:=iv 1) rfl rfl (K:=K) fun b o _ H=>y b (o+0) H;rwa [hl] at this
   refine Zl rfl (Za (F fun b o H=>⟨1,H,?_⟩));unfold Za4 ZcY;refine Zg (rP (Zb U rfl) (Zg (rM (Zb S.cells rfl) (C.get 1 ⟨(e.c.1,e.c.2.1,e.c.2.2.1,e.c.2.2.2.1,e.c.2.2.2.2.1,e.c.2.2.2.2.2.1,nl,e.ov,g,()),?_,Zc (Zi (by rw [ho]) (V _ _ ⟨.inr (by decide),rfl⟩ (show (1 - IntKind.wrap .i64 (0+1)).toNat<(1 - (0:Int)).toNat by decide)))⟩))));rw [ZdR];rfl
  ·subst hi
   rw [hl];exact Zi rfl (Za (Za (Zl rfl (y w s D hl))))
theorem Zxz {h:Zf} {K:Bool->Zf->Prop} (i:∀ h',Ext h h'->K true h'):Zbj K h:=by
  unfold Zbj Zdu;refine ZET (by decide) fun h1 T1 L1 E1 n1 e1=>Za (Zi rfl (Zi rfl (ZJ fun C c2 e2 z2=>?_)));have A:∀ {S:Nat->Prop},Rw.inS S nl:=fun {S} hl=>absurd rfl hl;have hr:Rw.Xe C (· = sz h1) (⟨some ⟨sz h1,0,none⟩,1,1⟩,nl,nl,nl,nl,()) rA:=⟨⟨Zj1 c2 rfl,fun _ b q=>(Option.some.inj q).symm⟩,⟨Row.nil _ _,A⟩,⟨[],rfl,⟨Row.nil _ _,A⟩,fun p D=>(by cases D)⟩,⟨Row.nil _ _,A⟩,⟨[],rfl,⟨Row.nil _ _,A⟩,fun p D=>(by cases D)⟩⟩;have s2:sz C=sz h1+1:=z2;have w1:sz h<=sz h1:=e1.size;have t1:∀ j,T1 j≠none->sz h<=j:=n1;have base:∀ {T':TgM} {a b:Zf},GrG T1 T' a b->sz h<=sz a->∀ j,T' j≠none->sz h<=j:=fun {T' a b} g ha j E=>(g.n j E).elim (t1 j) fun d=>by omega
  refine ZuF (E1.ext e2) (GOK.new (by decide)) hr (fun b q=>by have e':b=sz h1:=q;omega) ZOG (fun _ h3 F L3 E3 H g3=>?_) fun e he I=>absurd (he.symm.trans ZGy) I;have o:Ext h h3:=(e1.trans e2).then g3.u fun k i=>t1 k i
  refine Za (ZJ fun h4 c4 e4 z4=>Zbe c4 fun t l u5 z5=>?_);have v:Ext h3 t:=e4.then u5 fun k i=>by subst i;exact Aqo _
  have E5:=E3.ext v;have w3:sz h<=sz h3:=o.size;have J:sz h3<sz t:=Zp l;have n3:∀ j,F j≠none->j<sz h3:=E3.hT;have t3:F (sz h3)=none:=Classical.byContradiction fun d=>by have:=n3 _ d;omega
  have b3:∀ j,F j≠none->sz h<=j:=base g3 (by omega);rw [<- H];refine rI (Zb l rfl) (rS (Zb l rfl) (rS (Zb l rfl) (rS (Zb l rfl) (rB (Zb l rfl) (rI (Zb l rfl) (rL (s:=nl) (Zb l rfl) ?_))))));have w:GOK gA1:=GOK.load (GOK.new (by decide)) ZGy ZOG;refine ZyR (c:=cA) (sl:=nl) (al:=[]) (G:=gA1) E5 w Zw2 (Row.nil _ _) (fun b q=>by cases q) fun m B L6 L M x=>?_;rw [ZEF] at L ⊢;dsimp only at L ⊢;have y:Za9 m B L6 gA2:=L;have N:GOK gA2:=(GOK.mid w).pass Zw2;have c6:obj m (sz h3)=_:=(x.old (show sz h3<sz t from J) t3).trans l
  have t6:∀ j,sz h3<=j->j<sz t->B j=none:=fun j h1 C=>Classical.byContradiction fun d=>by
    rcases x.n j d with g | g
    ·have:=n3 j g;omega
    ·omega
  have b6:∀ j,B j≠none->sz h<=j:=fun j E=>(x.n j E).elim (b3 j) fun d=>by omega
  have aC:sz t<=sz m:=x.u.size;refine ZJ fun h7 c7 e7 z7=>Za (Zbe c7 fun O c8 u8 z8=>Za ?_);have r:Ext m O:=e7.then u8 fun k i=>by subst i;exact Aqo _
  have d8:=Zj c6 r;have P:sz m<sz O:=Zp c8;refine rI (Zb d8 rfl) (rS (Zb d8 rfl) (rS (Zb d8 rfl) (rS (Zb d8 rfl) (rB (Zb d8 rfl) (rI (Zb d8 rfl) (rL (s:=nl) (Zb d8 rfl) ?_))))));rw [<- M];refine ZyR (c:=cA) (sl:=nl) (al:=[]) (G:=gA2) (y.ext r) N Zw2 (Row.nil _ _) (fun b q=>by cases q) fun d T9 L9 Q R g9=>?_;rw [ZEE] at Q ⊢;dsimp only at Q ⊢;have t68:B (sz m)=none:=Classical.byContradiction fun d=>by have:=y.hT _ d;omega
  have c9:obj d (sz m)=_:=(g9.old (show sz m<sz O from P) t68).trans c8;refine ZJ fun aG T U aH=>Za (Zbe T fun V W X aI=>Za ?_);have f:Ext d V:=U.then X fun k i=>by subst i;exact Aqo _
  have z:=Zj c9 f;refine Zl rfl (Zl rfl (rI (Zb z rfl) (Zl rfl (Zl rfl (Zl rfl (rI (Zb W rfl) (Zl rfl (Zl rfl ?_))))))));rw [<- R];refine ZGC (Q.ext f) (e:=⟨cl cA nl,false,[]⟩) rfl rfl fun Y s Z hs=>Zc ?_;rw [hs];refine i Y ?_;have x6:Ext h m:=(o.trans v).then x.u b3
  have x9:Ext h d:=(x6.trans r).then g9.u b6
  exact (x9.trans f).trans Z
structure ZoM where
  k:Int
  c:PC
  al:List ByteArray
  gr:Bool
  num:Int
  at_:Int
  fl:Bool
  r:RulesP
  ld:Int
  cp:Int
abbrev ZHg (d:ZoM) (sl:Sl) (z:Rw.VTR):List Value:=[iv d.k,iv d.c.1,.string d.c.2.1,.string d.c.2.2.1,.string d.c.2.2.2.1,.bool d.c.2.2.2.2.1,iv d.c.2.2.2.2.2,slV sl,.bool d.gr,iv d.num,iv d.at_,.bool d.fl,slV z.1,slV z.2.1,slV z.2.2.1,slV z.2.2.2.1,slV z.2.2.2.2.1,iv d.ld,iv d.cp]
abbrev ZOb (d:ZoM) (sl:Sl) (z:Rw.VTR):Int × Int × ByteArray × ByteArray × ByteArray × Bool × Int × Sl × Bool × Int × Int × Bool × Sl × Sl × Sl × Sl × Sl × Int × Int × Unit:=(d.k,d.c.1,d.c.2.1,d.c.2.2.1,d.c.2.2.2.1,d.c.2.2.2.2.1,d.c.2.2.2.2.2,sl,d.gr,d.num,d.at_,d.fl,z.1,z.2.1,z.2.2.1,z.2.2.2.1,z.2.2.2.2.1,d.ld,d.cp,())
abbrev Ztk (d:ZoM) (sl:Sl) (z:Rw.VTR):Obj:= .cells (ZHg d sl z).toArray 58 (0,0)
structure ZjY (h:Zf) (base:Nat) (d:ZoM) (sl:Sl) (z:Rw.VTR):Prop where
  a:Row h sl 1 (d.al.map .string)
  ab:Rw.inS (· < base) sl
  al:d.al.length<=8796093022208
  zz:Zhs (cl d.c nl)
  r:Rw.Xe h (· < base) z d.r
  f:Rw.RulesP.fit d.r
theorem ZjY.keep {h h':Zf} {base:Nat} {d:ZoM} {sl:Sl} {z:Rw.VTR} (i:ZjY h base d sl z) (k:∀ j,j<base->obj h' j=obj h j):ZjY h' base d sl z :=
  ⟨Rw.ZgC i.a i.ab fun b c _=>k b c,i.ab,i.al,i.zz,i.r.keep fun b c _=>k b c,i.f⟩
open Classical in
noncomputable def GS.deed (G:GS) (d:ZoM):GS:=if d.k=0 then (G.enter d.c d.al d.gr).2 else if d.k=1 then (G.exit d.num d.at_ d.fl).2 else if d.k=2 then (if d.r.whereE.2.2=0 then G.load d.r else G) else (G.sample d.ld d.cp).2
theorem GOK.deed {G:GS} {d:ZoM} (ok:GOK G) (hz:Zhs (cl d.c nl)) (a:Rw.RulesP.fit d.r):GOK (G.deed d):=by
  unfold GS.deed;split
  ·exact ok.enter hz
  ·split
   ·exact ok.exit
   ·split
    ·split
     ·rename_i q;exact ok.load q a
     ·exact ok
    ·exact ok.sample
theorem Zul {c:PC} {sl:Sl} {al:List ByteArray} {h:Zf} (w:Row h sl 1 (al.map .string)) (hl:al.length<=8796093022208) {K:C8->Zf->Prop} (b:∀ h' s,Ext h h'->Own h' (sz h) s 1 (al.map .string)->K (cl c s) h'):Xf (cl c sl) K h:=by
  unfold Xf Zci;have l:sl.len=al.length:=by have:=w.len;simp at this;omega
  refine ZJ fun h1 c1 B C=>ZJ fun a D y E=>ZJ fun h3 F m z3=>?_;have g:=(B.trans y).trans m;have w1:sz h1=sz h+1:=C;have O:sz a=sz h1+1:=E;have P:sz h3=sz a+1:=z3;have i:=Zj (Zj c1 y) m;have o:=Zj D m;refine rL (s:=sl) (Zb i rfl) ((w.ext g).rd ?_);have G:Own h3 (sz a) ⟨some ⟨sz a,0,none⟩,0,0⟩ 1 []:=⟨rfl,Aqo _,(show 0<9223372036854775808 by decide),.inr ⟨sz a,_,_,rfl,Aqo _,F,rfl,rfl⟩⟩;refine G.app (n:=sl.len) (by simp [l]) (by rw [Axb];intro v hv;obtain ⟨x,_,rfl⟩:=Axz.1 hv;rfl) rfl (by show (0+sl.len)*16<=_;omega) (by show 0+sl.len<=_;omega) (by show sz a<=sz h3;omega) fun t H I _ J _=>?_;have d:Upd (· = sz a) h3 H:=J.mono fun j _ L=>(Option.some.inj L).symm;have p:=YZ i d (show ¬ sz h=sz a by omega);have q:=YZ o d (show ¬ sz h1=sz a by omega);refine Zbf p (show 0+6<7 by decide) rfl fun Q e r z5=>?_;have u:=YZ q r (show ¬ sz h1=sz h by omega);refine rI (Zb e rfl) (rS (Zb e rfl) (rS (Zb e rfl) (rS (Zb e rfl) (rB (Zb e rfl) (rI (Zb e rfl) (rL (s:=t) (Zb e rfl) (Zbe u fun z f A z6=>?_)))))));refine rI (Zb f rfl) (rS (Zb f rfl) (rS (Zb f rfl) (rS (Zb f rfl) (rB (Zb f rfl) (rI (Zb f rfl) (rL (s:=t) (Zb f rfl) (b z t ?_ ?_)))))))
  ·refine ((g.then d fun k b=>?_).then r fun k b=>?_).then A fun k b=>?_
   ·subst b;show sz h<=sz a;omega
   ·subst b;exact Aqo _
   ·subst b;show sz h<=sz h1;omega
  ·have M:=Zsj I r (show sz h<sz a by omega)
   have N:=Zsj M A (show sz h1<sz a by omega);exact (by simpa using N:Own z (sz a) t 1 (al.map .string)).base (by omega)
section
variable {h:Zf} {T:TgM} {L:Lay} {G:GS} {d:ZoM} {sl:Sl} {z:Rw.VTR}
theorem ZBu {b1 base:Nat} (hE:Za9 h T L G) (ok:GOK G) (o:ZjY h base d sl z) (cb:obj h b1=some (Ztk d sl z)) (tb:T b1=none) {J:Int × Option Addr × Int × Unit->Zf->Prop}
    (hJ:∀ h' T' l i,Za9 h' T' l (G.enter d.c d.al d.gr).2->l.eb=L.eb->GrG T T' h h'->obj h' i=some (.cells [.int .u8 (G.enter d.c d.al d.gr).1.2.1.1,iv (G.enter d.c d.al d.gr).1.2.1.2.1,iv (G.enter d.c d.al d.gr).1.2.1.2.2.1].toArray 42 (0,0))->sz h<=i->T' i=none->J ((G.enter d.c d.al d.gr).1.1,some ⟨i,0,none⟩,(G.enter d.c d.al d.gr).1.2.2,()) h') :
    ldI h b1 (0+1) .i64 fun t5=>ldS h b1 (0+1+1) fun t6=>ldS h b1 (0+1+2) fun t7=>ldS h b1 (0+1+3) fun t8=>ldB h b1 (0+1+4) fun t9=>ldI h b1 (0+1+5) .i64 fun t10=>ldL h b1 (0+1+6) fun t11=>ldB h b1 (0+8) fun t12=>Zjh ( Xf (t5,t6,t7,t8,t9,t10,t11,()) (fun t13 q=>Zu (Zo q [(b1,0+8,.bool t12)]) <| Zjh ( YF (some ⟨L.eb,0,none⟩) (t13.1,t13.2.1,t13.2.2.1,t13.2.2.2.1,t13.2.2.2.2.1,t13.2.2.2.2.2.1,⟨t13.2.2.2.2.2.2.1.ptr,t13.2.2.2.2.2.2.1.len,t13.2.2.2.2.2.2.1.cap⟩,()) t12 (fun t15 t16 t17 K=>newC K [.int .u8 0,iv 0,iv 0] 42 fun x M=>Zd t15 fun n=>sts M x 0 [.int .u8 t16.1,iv t16.2.1,iv t16.2.2.1] fun N=>Zd t17 fun f=>J (n,some ⟨x,0,none⟩,f,()) N) q) ( newC q [.int .u8 0,iv 0,iv 0] 42 fun y A=>Zu (Zo A [(b1,0+8,.bool t12)]) <| YF (some ⟨L.eb,0,none⟩) (t13.1,t13.2.1,t13.2.2.1,t13.2.2.2.1,t13.2.2.2.2.1,t13.2.2.2.2.2.1,⟨t13.2.2.2.2.2.2.1.ptr,t13.2.2.2.2.2.2.1.len,t13.2.2.2.2.2.2.1.cap⟩,()) t12 (fun t24 t25 t26 O=>Zd t24 fun n28=>sts O y 0 [.int .u8 t25.1,iv t25.2.1,iv t25.2.2.1] fun P=>Zd t26 fun f30=>J (n28,some ⟨y,0,none⟩,f30,()) P) A)) h) ( newC h [.int .u8 0,iv 0,iv 0] 42 fun B r=>Zu (Zo r [(b1,0+8,.bool t12)]) <| Zu (Zo r [(b1,0+1,iv t5),(b1,0+1+1,.string t6),(b1,0+1+2,.string t7),(b1,0+1+3,.string t8),(b1,0+1+4,.bool t9),(b1,0+1+5,iv t10),(b1,0+1+6,.slice t11.ptr t11.len t11.cap)]) <| Xf (t5,t6,t7,t8,t9,t10,t11,()) (fun t33 C=>Zu (Zo C [(b1,0+8,.bool t12)]) <| YF (some ⟨L.eb,0,none⟩) (t33.1,t33.2.1,t33.2.2.1,t33.2.2.2.1,t33.2.2.2.2.1,t33.2.2.2.2.2.1,⟨t33.2.2.2.2.2.2.1.ptr,t33.2.2.2.2.2.2.1.len,t33.2.2.2.2.2.2.1.cap⟩,()) t12 (fun t35 t36 t37 R=>Zd t35 fun n39=>sts R B 0 [.int .u8 t36.1,iv t36.2.1,iv t36.2.2.1] fun S=>Zd t37 fun f41=>J (n39,some ⟨B,0,none⟩,f41,()) S) C) r):=by
  have H:∀ E,obj E b1=obj h b1->Zo E [(b1,0+8,.bool d.gr)]/\Zo E [(b1,0+1,iv d.c.1),(b1,0+1+1,.string d.c.2.1),(b1,0+1+2,.string d.c.2.2.1),(b1,0+1+3,.string d.c.2.2.2.1),(b1,0+1+4,.bool d.c.2.2.2.2.1),(b1,0+1+5,iv d.c.2.2.2.2.2),(b1,0+1+6,slV sl)]:=fun E e=>by
    have c:=e.trans cb;exact ⟨ZZ (Zb c rfl),Zb c rfl,Zb c rfl,Zb c rfl,Zb c rfl,Zb c rfl,Zb c rfl,Zb c rfl,trivial⟩
  have lb:=Zp cb;have U:∀ j,sz h<=j->T j=none:=fun j F=>Classical.byContradiction fun D=>by have:=hE.hT j D;omega
  have ent:∀ {h1:Zf} {s:Sl},Ext h h1->Own h1 (sz h) s 1 (d.al.map .string)->∀ {Q:Int->V4->Int->Zf->Prop},(∀ h' T' l,Za9 h' T' l (G.enter d.c d.al d.gr).2->l.eb=L.eb->GrG T T' h h'->(∀ j,sz h<=j->j<sz h1->obj h' j=obj h1 j/\T' j=none)->Q (G.enter d.c d.al d.gr).1.1 (G.enter d.c d.al d.gr).1.2.1 (G.enter d.c d.al d.gr).1.2.2 h')->YF (some ⟨L.eb,0,none⟩) (cl d.c s) d.gr Q h1:=fun {h1 s} k v {Q} hQ =>
    ZyS (hE.ext k) ok o.zz v.row (fun b hb=>⟨(v.lt hb).2,U b (v.lt hb).1⟩) fun h' T' l V eb g'=>hQ h' T' l V eb (GrG.pre k g') fun j m h3=>⟨g'.old h3 (U j m),Classical.byContradiction fun D=>by
     rcases g'.n j D with g | g
     ·exact g (U j m)
     ·omega⟩
  have box:∀ {h':Zf} {T':TgM} {l:Lay},Za9 h' T' l (G.enter d.c d.al d.gr).2->l.eb=L.eb->GrG T T' h h'->∀ {i:Nat},obj h' i=some (.cells [.int .u8 0,iv 0,iv 0].toArray 42 (0,0))->sz h<=i->T' i=none->sts h' i 0 [.int .u8 (G.enter d.c d.al d.gr).1.2.1.1,iv (G.enter d.c d.al d.gr).1.2.1.2.1,iv (G.enter d.c d.al d.gr).1.2.1.2.2.1] fun W=>J ((G.enter d.c d.al d.gr).1.1,some ⟨i,0,none⟩,(G.enter d.c d.al d.gr).1.2.2,()) W:=fun {h' T' l} V eb g' {i} cv lv tv =>
    Zbe cv fun h6 c6 u6 z6=>hJ h6 T' l i (V.frame u6 fun j F=>by rw [show j=i from F];exact tv) eb (g'.new u6 fun j F=>by rw [show j=i from F];exact lv) c6 lv tv
  refine rI (Zb cb rfl) (rS (Zb cb rfl) (rS (Zb cb rfl) (rS (Zb cb rfl) (rB (Zb cb rfl) (rI (Zb cb rfl) (rL (s:=sl) (Zb cb rfl) (rB (Zb cb rfl) ⟨?_,?_⟩)))))))
  ·refine Zul o.a o.al fun h1 s k v=>⟨(H h1 (k.old b1 lb)).1,?_,?_⟩
   ·refine ent k v fun m T2 L2 E2 X g2 I=>ZJ fun h3 c3 e3 z3=>Za ?_
    have w:sz h<=sz m:=g2.u.size;exact box (E2.ext e3) X (g2.then e3) c3 w (Classical.byContradiction fun D=>by have ay:sz m<sz m:=E2.hT _ D;omega)
   ·refine ZJ fun m c2 p z2=>⟨(H m ((k.trans p).old b1 lb)).1,?_⟩
    have w1:sz h<=sz h1:=k.size;have w2:sz m=sz h1+1:=z2;refine ent (k.trans p) (v.congr fun b _ hl _=>p.old b hl) fun h3 T3 L3 Y t Z k3=>Za ?_;obtain ⟨k1,I⟩:=k3 (sz h1) w1 (by omega);exact box Y t Z (k1.trans c2) w1 I
  ·refine ZJ fun h1 c1 k z1=>⟨(H h1 (k.old b1 lb)).1,(H h1 (k.old b1 lb)).2,?_⟩
   have w1:sz h1=sz h+1:=z1;refine Zul (o.a.ext k) o.al fun m s p o2=>⟨(H m ((k.trans p).old b1 lb)).1,?_⟩;have w2:sz h1<=sz m:=p.size;refine ent (k.trans p) (o2.base (by omega)) fun h3 T3 L3 Y t Z k3=>Za ?_;obtain ⟨k1,I⟩:=k3 (sz h) (Aqo _) (by omega);exact box Y t Z (k1.trans (Zj c1 p)) (Aqo _) I
end
structure ZyC (h:Zf) (base:Nat) (Ta:TgM) (La:Lay) (Tb:TgM) (Lb:Lay) (G:GS):Prop where
  a:Za9 h Ta La G
  b:Za9 h Tb Lb G
  d:∀ j,Ta j≠none->Tb j=none
  la:∀ j,Ta j≠none->base<=j
  lb:∀ j,Tb j≠none->base<=j
section
variable {h h' h'':Zf} {base:Nat} {Ta Tb Ta' Tb' T T':TgM} {La Lb La' Lb' L:Lay} {G G':GS}
theorem ZyC.ext (R:ZyC h base Ta La Tb Lb G) (e:Ext h h'):ZyC h' base Ta La Tb Lb G:=⟨R.a.ext e,R.b.ext e,R.d,R.la,R.lb⟩
theorem Zt8 (hl:∀ j,T j≠none->base<=j) (g:GrG T T' h h') (c:base<=sz h):(∀ j,j<base->obj h' j=obj h j)/\∀ j,T' j≠none->base<=j :=
  ⟨fun j a=>g.old (Aqq a c) (Classical.byContradiction fun b=>by have:=hl j b;omega),fun j a=>(g.n j a).elim (hl j) fun b=>Aqp c b⟩
theorem ZyC.both (R:ZyC h base Ta La Tb Lb G) (k:base<=sz h) (c:GrG Ta Ta' h h') (l:Za9 h'' Tb' Lb' G') (gb:GrG Tb Tb' h' h'') (m:Za9 h' Ta' La' G'):ZyC h'' base Ta' La' Tb' Lb' G'/\(∀ j,j<base->obj h'' j=obj h j)/\sz h<=sz h'':=by
  obtain ⟨s,hd⟩:=c.other R.b R.d;obtain ⟨n,o⟩:=Zt8 R.la c k;have e:base<=sz h':=Aqp k c.u.size;obtain ⟨p,q⟩:=Zt8 R.lb gb e;have f:∀ j,Tb j≠none->Ta' j=none:=fun j a=>Classical.byContradiction fun g=>a (hd j g);obtain ⟨r,i⟩:=gb.other m f;exact ⟨⟨r,l,fun j a=>Classical.byContradiction fun g=>a (i j g),o,q⟩,fun j a=>(p j a).trans (n j a),Aqp c.u.size gb.u.size⟩
theorem ZGk {d:ZoM} {sl:Sl} {z:Rw.VTR} (R:ZyC h base Ta La Tb Lb G) (ok:GOK G) (hb:base<=sz h) (af:ZjY h base d sl z) {K:Bool->Zf->Prop}
    (hk:∀ h' Ta' La' Tb' Lb',ZyC h' base Ta' La' Tb' Lb' (G.deed d)->La'.eb=La.eb->Lb'.eb=Lb.eb->(∀ j,j<base->obj h' j=obj h j)->sz h<=sz h'->K true h'):Zbi (some ⟨La.eb,0,none⟩) (some ⟨Lb.eb,0,none⟩) (ZOb d sl z) K h:=by
  unfold Zbi Zdt;refine ZJ fun p c2 e2 z2=>?_;have m:=R.ext e2;have w2:sz p=sz h+1:=z2;have o:base<=sz p:=by omega
  have F:∀ j,j<base->obj p j=obj h j:=fun j Q=>e2.old j (show j<sz h by omega);have t:=af.keep F;have i:obj p (sz h)=some (Ztk d sl z):=c2;have U:Ta (sz h)=none:=Classical.byContradiction fun w=>by have:=R.a.hT _ w;omega
  have tb:Tb (sz h)=none:=Classical.byContradiction fun w=>by have:=R.b.hT _ w;omega
  have g:∀ {w:Zf} {Ta' Tb':TgM} {La' Lb':Lay},ZyC w base Ta' La' Tb' Lb' (G.deed d)->La'.eb=La.eb->Lb'.eb=Lb.eb->(∀ j,j<base->obj w j=obj p j)->sz p<=sz w->K true w:=fun {w Ta' Tb' La' Lb'} R9 A eb l9 s9=>hk w Ta' La' Tb' Lb' R9 A eb (fun j Q=>(l9 j Q).trans (F j Q)) (by omega);refine rI (Zb i rfl) (Zc (Z5 (fun T=>?_) fun T=>Zc (Z5 (fun V=>?_) fun V=>Zc (Z5 (fun Y=>?_) fun Y=>?_))))
  ·have B:G.deed d=(G.enter d.c d.al d.gr).2:=by unfold GS.deed;rw [if_pos T]
   rw [B] at g;refine Zls (fun (s:Int × Option Addr × Int × Unit) h3=>∃ I Ta' La',s.1=(G.enter d.c d.al d.gr).1.1/\s.2.1=some ⟨I,0,none⟩/\s.2.2.1=(G.enter d.c d.al d.gr).1.2.2/\Za9 h3 Ta' La' (G.enter d.c d.al d.gr).2/\La'.eb=La.eb/\GrG Ta Ta' p h3/\obj h3 I=some (.cells [.int .u8 (G.enter d.c d.al d.gr).1.2.1.1,iv (G.enter d.c d.al d.gr).1.2.1.2.1,iv (G.enter d.c d.al d.gr).1.2.1.2.2.1].toArray 42 (0,0))/\sz p<=I) ?_ ?_
   ·rintro ⟨n,v,f,u⟩ h3 ⟨I,Ta',La',s1,s2,W,C,A,k,Z,lv⟩
    dsimp only at s1 s2 W ⊢;subst s1;subst s2;subst W;obtain ⟨B3,hd3⟩:=k.other m.b m.d;have ag:base<=sz h3:=Aqp o k.u.size;have q:=t.keep (Zt8 m.la k o).1;have l:obj h3 (sz h)=some (Ztk d sl z):=(k.old (show sz h<sz p by omega) U).trans i;have ah:Tb I=none:=Classical.byContradiction fun w=>by have:=m.b.hT _ w;omega
    refine Zls (fun (s:Int × Option Addr × Int × Unit) y=>∃ wb Tb' Lb',s.1=(G.enter d.c d.al d.gr).1.1/\s.2.1=some ⟨wb,0,none⟩/\s.2.2.1=(G.enter d.c d.al d.gr).1.2.2/\Za9 y Tb' Lb' (G.enter d.c d.al d.gr).2/\Lb'.eb=Lb.eb/\GrG Tb Tb' h3 y/\obj y wb=some (.cells [.int .u8 (G.enter d.c d.al d.gr).1.2.1.1,iv (G.enter d.c d.al d.gr).1.2.1.2.1,iv (G.enter d.c d.al d.gr).1.2.1.2.2.1].toArray 42 (0,0))) ?_ ?_
    ·rintro ⟨n,v,f,u⟩ y ⟨wb,Tb',Lb',s1,s2,W,D,eb,gb,X⟩
     dsimp only at s1 s2 W ⊢;subst s1;subst s2;subst W;have N:obj y I=_:=(gb.old (Zp Z) ah).trans Z;obtain ⟨O,P,s4⟩:=m.both o k D gb C;refine Zl (by simp) (Zg (rI (Zb N rfl) (rI (Zb N rfl) (rI (Zb N rfl) (Zg (rI (Zb X rfl) (rI (Zb X rfl) (rI (Zb X rfl) (Zl (by simp) (Zc ?_))))))))));have:=g O A eb P s4;rwa [show ((G.enter d.c d.al d.gr).1.2.2 ==(G.enter d.c d.al d.gr).1.2.2)=true by simp]
    ·intro J hJ
     exact ZBu B3 ok q l tb fun y T4 L4 wb D eb gb X _ _=>hJ _ _ ⟨wb,T4,L4,rfl,rfl,rfl,D,eb,gb,X⟩
   ·intro J hJ
    exact ZBu m.a ok t i U fun h3 T3 L3 I C A k Z lv _=>hJ _ _ ⟨I,T3,L3,rfl,rfl,rfl,C,A,k,Z,lv⟩
  ·have B:G.deed d=(G.exit d.num d.at_ d.fl).2:=by unfold GS.deed;rw [if_neg T,if_pos V]
   rw [B] at g;refine rI (Zb i rfl) (rI (Zb i rfl) (rB (Zb i rfl) (rI (Zb i rfl) (rI (Zb i rfl) (rB (Zb i rfl) ?_)))));refine ZBX m.a ok fun h3 T3 L3 C A k=>?_;obtain ⟨B3,hd3⟩:=k.other m.b m.d;have l:obj h3 (sz h)=some (Ztk d sl z):=(k.old (show sz h<sz p by omega) U).trans i;refine ⟨ZZ (Zb l rfl),ZZ (Zb l rfl),ZZ (Zb l rfl),ZBX B3 ok fun y T4 L4 D eb gb=>Zc ?_⟩;obtain ⟨O,P,s4⟩:=m.both o k D gb C;have:=g O A eb P s4;rwa [show ((G.exit d.num d.at_ d.fl).1 ==(G.exit d.num d.at_ d.fl).1)=true by simp]
  ·refine rL (s:=z.1) (Zb i rfl) (rL (s:=z.2.1) (Zb i rfl) (rL (s:=z.2.2.1) (Zb i rfl) (rL (s:=z.2.2.2.1) (Zb i rfl) (rL (s:=z.2.2.2.2.1) (Zb i rfl) (rL (s:=z.1) (Zb i rfl) (rL (s:=z.2.1) (Zb i rfl) (rL (s:=z.2.2.1) (Zb i rfl) (rL (s:=z.2.2.2.1) (Zb i rfl) (rL (s:=z.2.2.2.2.1) (Zb i rfl) ?_)))))))))
   have H:∀ {hh:Zf},obj hh (sz h)=some (Ztk d sl z)->Zo hh [(sz h,0+12,slV z.1),(sz h,0+12+1,slV z.2.1),(sz h,0+12+2,slV z.2.2.1),(sz h,0+12+3,slV z.2.2.2.1),(sz h,0+12+4,slV z.2.2.2.2.1)]:=fun {hh} c=>⟨Zb c rfl,Zb c rfl,Zb c rfl,Zb c rfl,Zb c rfl,trivial⟩;refine ZuF m.a ok (S:=(· < base)) t.r (fun b x=>by have L:b<base:=x;omega) t.f (fun hq h3 T3 L3 C A k=>?_) fun e he E h3 e3=>?_
   ·have B:G.deed d=G.load d.r:=by unfold GS.deed;rw [if_neg T,if_neg V,if_pos Y,if_pos hq]
    rw [B] at g;obtain ⟨B3,hd3⟩:=k.other m.b m.d;have ag:base<=sz h3:=Aqp o k.u.size;have q:=t.keep (Zt8 m.la k o).1;have l:obj h3 (sz h)=some (Ztk d sl z):=(k.old (show sz h<sz p by omega) U).trans i;refine ⟨H l,ZuF B3 ok (S:=(· < base)) q.r (fun b x=>by have L:b<base:=x;omega) q.f (fun _ y T4 L4 D eb gb=>Zc ?_) fun e he E=>absurd (he.symm.trans hq) E⟩;obtain ⟨O,P,s4⟩:=m.both o k D gb C;exact g O A eb P s4
   ·have B:G.deed d=G:=by unfold GS.deed;rw [if_neg T,if_neg V,if_pos Y,if_neg (by rw [he];exact E)]
    rw [B] at g;have R3:=m.ext e3;have M:∀ j,j<base->obj h3 j=obj p j:=fun j Q=>e3.old j (show j<sz p by omega);have q:=t.keep M;have w3:sz p<=sz h3:=e3.size;refine ⟨H (Zj i e3),ZuF R3.b ok (S:=(· < base)) q.r (fun b x=>by have L:b<base:=x;omega) q.f (fun hq=>absurd (he.symm.trans hq) E) fun e' ar ay y e4=>Zc ?_⟩;have:=g (R3.ext e4) rfl rfl (fun j Q=>(e4.old j (show j<sz h3 by omega)).trans (M j Q)) (Aqp w3 e4.size);rwa [show ((e:Int) ==(e':Int))=true by rw [<- he,<- ar];simp]
  ·have B:G.deed d=(G.sample d.ld d.cp).2:=by unfold GS.deed;rw [if_neg T,if_neg V,if_neg Y]
   rw [B] at g;refine rI (Zb i rfl) (rI (Zb i rfl) (rI (Zb i rfl) (rI (Zb i rfl) ?_)));refine Zuy m.a fun h3 C k=>?_;obtain ⟨B3,hd3⟩:=k.other m.b m.d;have l:obj h3 (sz h)=some (Ztk d sl z):=(k.old (show sz h<sz p by omega) U).trans i;refine ⟨ZZ (Zb l rfl),ZZ (Zb l rfl),Zuy B3 fun y D gb=>Zc ?_⟩;obtain ⟨O,P,s4⟩:=m.both o k D gb C;have:=g O rfl rfl P s4;rwa [show ((G.sample d.ld d.cp).1 ==(G.sample d.ld d.cp).1)=true by simp]
end
abbrev Zse:=ZoM × Sl × Rw.VTR
abbrev ZrY (x:Zse):List Value:=ZHg x.1 x.2.1 x.2.2
section
variable {h:Zf} {l:Sl} {ds:List Zse}
theorem ZwP {keys seed:Int} (hl:Row h l 19 (ds.flatMap ZrY)) (H:∀ x,x∈ds->ZjY h (sz h) x.1 x.2.1 x.2.2) {K:Bool->Zf->Prop} (v:∀ h',Ext h h'->K true h'):XD keys seed l K h:=by
  unfold XD ZaN
  by_cases a:1<=keys/\keys<=4096
  case neg =>
    refine ZyH a (Za (ZyH a (Za (Zi rfl (Zl rfl (Zxz fun h1 F=>Zl rfl (Zc (v h1 F))))))))
  have ll:l.len=ds.length:=Zan (g:=ZrY) (fun _=>rfl) hl (by decide);have cap:=hl.cap;have big:=hl.big;refine ZET a fun h1 S I T Z F=>Za (ZET a fun h2 U J B2 V W=>Za (Zi rfl (Zi rfl (Za ?_))));have w:=F.trans W;have R2:ZyC h2 (sz h) S I U J (GS.new keys seed):=⟨T.ext W,B2,fun j e=>Classical.byContradiction fun y=>by have:=V j y;have:=T.hT j e;omega,Z,fun j e=>Aqp F.size (V j e)⟩
  refine Zbd (fun (p:Int × Unit) u=>∃ (i:Nat) (A:TgM) (m:Lay) (B:TgM) (r:Lay) (G:GS),p=((i:Int),())/\i<=ds.length/\i<=60/\ZyC u (sz h) A m B r G/\GOK G/\m.eb=I.eb/\r.eb=J.eb/\(∀ j,j<sz h->obj u j=obj h j)/\sz h<=sz u) (fun p _=>(100 - p.1).toNat)
    ⟨0,S,I,U,J,_,rfl,Ayg _,by decide,R2,GOK.new a,rfl,rfl,fun j e=>w.old j e,w.size⟩ ?_
  rintro _ u ⟨i,A,m,B,r,G,rfl,hi,X,R,ok,Y,eb,low,ws⟩ Q hQ;have L:Ext h u:=⟨ws,fun k v=>low k v⟩;dsimp only;refine Zn (fun q=>Zn (fun q2=>?_) fun q2=>Zxz fun y M=>Zc (v y (L.trans M))) fun q=>Zxz fun y M=>Zc (v y (L.trans M));have C:i<ds.length:=by omega
  have N:ds[i]?=some ds[i]:=Axy C;generalize ds[i]=x at N;obtain ⟨d,sl,z⟩:=x;have t:=(H _ (Axo N)).keep (h':=u) low;obtain ⟨b,o,_,_,D,c⟩:=ZbB (g:=ZrY) (n:=19) (fun _=>rfl) (hl.ext L) N (by decide);refine D rfl (rI (c 0 _ rfl) (rI (c 1 _ rfl) (rS (c 2 _ rfl) (rS (c 3 _ rfl) (rS (c 4 _ rfl) (rB (c 5 _ rfl) (rI (c 6 _ rfl) (rL (s:=sl) (c 7 _ rfl) (rB (c 8 _ rfl) (rI (c 9 _ rfl) (rI (c 10 _ rfl) (rB (c 11 _ rfl) (rL (s:=z.1) (c 12 _ rfl) (rL (s:=z.2.1) (c 13 _ rfl) (rL (s:=z.2.2.1) (c 14 _ rfl) (rL (s:=z.2.2.2.1) (c 15 _ rfl) (rL (s:=z.2.2.2.2.1) (c 16 _ rfl) (rI (c 17 _ rfl) (rI (c 18 _ rfl) (?_))))))))))))))))))));rw [<- Y,<- eb];refine ZGk R ok ws t fun h3 T3 L3 S3 M3 R3 O P E s3=>Zi rfl (Za ?_);rw [Yr (by omega) (by omega)];refine hQ _ _ ⟨i+1,T3,L3,S3,M3,_,by simp,C,by omega,R3,ok.deed t.zz t.f,O.trans Y,P.trans eb,fun j e=>(E j e).trans (low j e),Aqp ws s3⟩ (by show (100 - ((i:Int)+1)).toNat<(100 - (i:Int)).toNat;omega)
end
end Go.Proofs.YthbfgkphlmlihaaGreat
namespace Go.Proofs.YthbfgkphlmlihaaGreat
open Go Go.Fw Go.ChangeShapes Go.WideShapes
theorem ZA7 {H:Type} (d:DataW H):1<=Rows.uptoBulk d:=by
  cases d with
  | lit l=>cases l<;>simp [Rows.uptoBulk]
  | _=>simp [Rows.uptoBulk]
section
variable {H:Type} {enc:TypeId × Value->H} {P:Program} {w:World} {base:Nat} {spare:Nat->Bool} {held:Bool}
end
end Go.Proofs.YthbfgkphlmlihaaGreat
namespace Go.Proofs.YthbfgkphlmlihaaGreat.Rw
open Go Go.Fw Go.Js
theorem Zli {n:Nat} (h:n<=maxLen):n<9223372036854775808:=by
  have e:maxLen=9223372036854775807:=by decide
  omega
theorem Zw0 {w:World} {a:Addr} {v:Value} (h:w.cell? a=some v):a=⟨a.block,a.off,none⟩:=by
  obtain ⟨b,o,s⟩:=a;unfold World.cell? at h;split at h
  ·cases s with
   | none=>rfl
   | some s=>simp at h
  ·cases h
theorem Zuv {b o i:Nat}:(⟨b,o,none⟩:Addr).add i=⟨b,o+i,none⟩:=Zoj b o i
theorem ZNF {n:Int} (h:(Lit.int .u8 n).wf=true):0<=n/\n<256:=by
  simp only [Lit.wf,Awn,decide_eq_true_eq] at h;have h1:IntKind.u8.min=0:=by decide
  have a:IntKind.u8.max=255:=by decide
  omega
theorem ZGe {n:Int} (h:(Lit.int .i64 n).wf=true) : -9223372036854775808<=n/\n<9223372036854775808:=by
  simp only [Lit.wf,Awn,decide_eq_true_eq] at h;have h1:IntKind.i64.min = -9223372036854775808:=by decide
  have a:IntKind.i64.max=9223372036854775807:=by decide
  omega
theorem ZwW {α:Type} (f:α->Nat):∀ l:List α,(l.map fun x=>16*f x).sum=16*(l.map f).sum
  | []=>rfl
  | x::l=>by rw [Awo,Azb,ZwW f l,Awo,Azb];omega
theorem ZBq {α:Type} {f g:α->Nat}:∀ {l:List α},(∀ x∈l,f x<=g x)->(l.map f).sum<=(l.map g).sum
  | [],_=>Aqo _
  | x::l,h=>by
    have:=h x (by simp);have:=ZBq (l:=l) fun y a=>h y (Aws _ a);simp only [Awo,Azb];omega
theorem ZmU {H:Type} {d:DataW H}:∀ {l:List (DataW H)},d∈l->Rows.uptoBulk d<=Rows.uptoBulkAll l
  | [],h=>by cases h
  | x::l,h=>by
    simp only [Rows.uptoBulkAll]
    rcases Awr.1 h with rfl | h
    ·omega
    ·have:=ZmU h;omega
theorem Zuo {H:Type} (D:Nat->DataW H):∀ l:List Nat,Rows.uptoBulkAll (l.map D)=(l.map fun i=>Rows.uptoBulk (D i)).sum
  | []=>rfl
  | x::l=>by simp only [Awo,Rows.uptoBulkAll,Azb,Zuo D l]
end Go.Proofs.YthbfgkphlmlihaaGreat.Rw
namespace Go.Proofs.YthbfgkphlmlihaaGreat.Rw
open Go Go.Fw Go.Js
section
variable {H:Type} {enc:TypeId × Value->H} {P:Program} {w:World} {base:Nat} {spare:Nat->Bool} {held:Bool}
theorem Ztg {fs:Array Field} {l:List (TypeId × Nat)} (b:fs.toList.map (fun f=>(f.type,f.offset))=l) {i:Nat} {p:TypeId × Nat} (a:l[i]?=some p):∃ f,fs[i]?=some f/\f.type=p.1/\f.offset=p.2:=by
  subst b;rw [Awy,Aza] at a;obtain ⟨f,h1,rfl⟩:=a;exact ⟨f,by simpa using h1,rfl,rfl⟩
theorem ZgP {α:Type} [Inhabited α] {g:α->List Value} {n:Nat} (j:∀ a,(g a).length=n) (o:0<n) {Pa:α->Prop} {μ:α->Nat} {u t:TypeId} {fuel N:Nat} {a:Option Addr} {len cap:Nat} {x:DataW H × List MemPlace} (hu:P.underlying u=some (.slice t)) (G:P.cellsOf t=n)
    (elem:∀ {fuel:Nat} {cs:List Value} {y:DataW H × List MemPlace},Rows.uptoBulk y.1<N->DataW.trod enc P w base spare held fuel t cs=some y->∃ a:α,cs=g a/\Pa a/\μ a<=16*Rows.uptoBulk y.1)
    (I:Rows.uptoBulk x.1<=N) (h:DataW.trod enc P w base spare held fuel u [.slice a len cap]=some x):∃ l:List α,(Row w.heap ⟨a,len,cap⟩ n (l.flatMap g)/\∀ a,a∈l->Pa a)/\(l.map μ).sum+16<=16*Rows.uptoBulk x.1:=by
  rcases Deep.open_slice hu h with ⟨b,rfl⟩ | ⟨a',A,B,m,S,D,T,b,_,hl,hm,p,rfl,J⟩
  ·simp at b
   obtain ⟨rfl,rfl,rfl⟩:=b;exact ⟨[],⟨Row.nil _ n,by simp⟩,by simp [Rows.uptoBulk]⟩
  ·simp at b
   obtain ⟨rfl,rfl,rfl⟩:=b;have hlen:len<=m:=by rw [p];split<;>omega
   have c:cap<9223372036854775808:=Zli hm
   have each:∀ i,i<len->∃ a:α,w.cells? base (a'.add (i*n)) n=some (g a)/\Pa a/\μ a<=16*Rows.uptoBulk (D i):=by
     intro i hi;obtain ⟨K,h1,L⟩:=J i (by omega);rw [G] at h1
     obtain ⟨r,rfl,M,O⟩:=elem (by
       have:=ZmU (d:=D i) (l:=(List.range len).map D) (Axz.2 ⟨i,by simpa using hi,rfl⟩);simp only [Rows.uptoBulk] at I ⊢
       omega) L
     exact ⟨r,h1,M,O⟩
   obtain ⟨f,q⟩:=Deep.choose_lt each;have cell:∀ i,i<len->∀ k,k<n->w.cell? ((a'.add (i*n)).add k)=(g (f i))[k]?:=fun i hi k s=>(World.cells?_some (q i hi).1).2.2 k s;refine ⟨(List.range len).map f,⟨⟨by rw [Zmh j];simp,hl,c,?_⟩,fun a Q=>?_⟩,?_⟩
   ·rcases Aqw len with h0 | h0
    ·exact .inl h0
    ·right
     have e:a'=⟨a'.block,a'.off,none⟩:=by
       have h0:=cell 0 (by omega) 0 o;have R:(a'.add (0*n)).add 0=a':=by rw [Aqs];rfl
       rw [R,Axy (by rw [j];exact o)] at h0;exact Zw0 h0
     refine ⟨a'.block,a'.off,by rw [<- e],Zuc fun k v hv=>?_⟩
     have s:k<len*n:=by
       have:=ZAS hv;rw [Zmh j] at this;simpa using this
     have z:=Nat.div_add_mod k n;have hi:k / n<len:=(Nat.div_lt_iff_lt_mul o).2 s;have C:k % n<n:=Nat.mod_lt _ o;have E:=Zn4 j ((List.range len).map f) (k / n) (k % n) (f (k / n)) (by rw [Awy,List.getElem?_range hi];rfl) C;have F:k / n*n+k % n=k:=by rw [Nat.mul_comm];exact z
     rw [F,hv] at E;have:=cell (k / n) hi (k % n) C;rw [e,Zuv,Zuv,ZqQ,<- E] at this;rw [<- F,<- Aqh];exact this
   ·obtain ⟨i,hi,rfl⟩:=Axz.1 Q
    exact (q i (by simpa using hi)).2.1
   ·have h1:((List.range len).map fun i=>μ (f i)).sum<=((List.range len).map fun i=>16*Rows.uptoBulk (D i)).sum:=ZBq fun i hi=>(q i (by simpa using hi)).2.2
    rw [ZwW] at h1;simp only [Rows.uptoBulk,Aya,Zuo];have:((List.range len).map (μ ∘ f)).sum=((List.range len).map fun i=>μ (f i)).sum:=rfl;omega
theorem Zx8:∀ l:List BL,l.flatMap (fun n=>[sV n])=l.map sV
  | []=>rfl
  | a::l=>by rw [Aye,Zx8 l];rfl
end
end Go.Proofs.YthbfgkphlmlihaaGreat.Rw
namespace Go.Js
open Go Go.Fw Go.Js
def Zoo (n:Int):Prop:= -9223372036854775808<=n/\n<=9223372036854775807
def FlowP.rng (f:FlowP):Prop:=Zoo f.cnt/\f.strat<256/\f.shape<256/\Zoo f.warm/\Zoo f.queue/\Zoo f.id
def YS.rng (f:YS):Prop:=f.grade<256/\Zoo f.cnt/\Zoo f.slow/\Zoo f.least/\Zoo f.window/\Zoo f.recover
def Zev.rng (f:Zev):Prop:=Zoo f.index/\Zoo f.cnt/\Zoo f.secs/\∀ p,p∈f.items->Zoo p.2
def ZaD.rng (f:ZaD):Prop:=Zoo f.qps/\Zoo f.threads/\Zoo f.rt/\Zoo f.load/\Zoo f.cpu
def RulesP.rng (r:RulesP):Prop:=(∀ f,f∈r.fl->f.rng)/\(∀ f,f∈r.br->f.rng)/\(∀ f,f∈r.ho->f.rng)/\∀ f,f∈r.sy->f.rng
def FlowP.wt (f:FlowP):Nat:=1+f.res.length+f.org.length+f.ref.length
def YS.wt (f:YS):Nat:=1+f.res.length
def Zms (p:BL × Int):Nat:=1+p.1.length
def Zev.wt (f:Zev):Nat:=1+f.res.length+(f.items.map Zms).sum
def Zmo (t:BL):Nat:=1+t.length
def ZbC.wt (f:ZbC):Nat:=1+f.res.length+(f.origins.map Zmo).sum
def RulesP.wt (r:RulesP):Nat:=(r.fl.map FlowP.wt).sum+(r.br.map YS.wt).sum+(r.ho.map Zev.wt).sum+(r.sy.map fun _=>1).sum+(r.li.map ZbC.wt).sum
end Go.Js
namespace Go.Proofs.YthbfgkphlmlihaaGreat.Rw
open Go Go.Fw Go.Js
def StT (P:Program) (t:TypeId) (tys:List TypeId):Prop:=∃ fs:Array Field,P.underlying t=some (.struct fs)/\fs.toList.map (fun f=>(f.type,f.offset))=tys.zipIdx/\P.cellsOf t=tys.length
end Go.Proofs.YthbfgkphlmlihaaGreat.Rw
namespace Go.Proofs.YthbfgkphlmlihaaGreat.Rw
open Go Go.Fw Go.Js
section
variable {H:Type} {enc:TypeId × Value->H} {P:Program} {w:World} {base:Nat} {spare:Nat->Bool} {held:Bool}
def ZBZ (f:TypeId->Value->Option (DataW H × List MemPlace)):List TypeId->List Value->List (DataW H × List MemPlace)->Prop
  | [],[],[]=>True
  | u::us,c::cs,x::xs=>f u c=some x/\ZBZ f us cs xs
  | _,_,_=>False
theorem ZBZ.inv {f:TypeId->Value->Option (DataW H × List MemPlace)} {u:TypeId} {us:List TypeId} {cs:List Value} {xs:List (DataW H × List MemPlace)} (h:ZBZ f (u::us) cs xs):∃ c a x b,cs=c::a/\xs=x::b/\f u c=some x/\ZBZ f us a b:=by
  match cs,xs,h with
  | c::cs,x::xs,h=>exact ⟨c,cs,x,xs,rfl,rfl,h.1,h.2⟩
theorem ZBZ.nil {f:TypeId->Value->Option (DataW H × List MemPlace)} {cs:List Value} {xs:List (DataW H × List MemPlace)} (h:ZBZ f [] cs xs):cs=[]/\xs=[]:=by
  match cs,xs,h with
  | [],[],_=>exact ⟨rfl,rfl⟩
theorem Zyy {f:TypeId->Value->Option (DataW H × List MemPlace)}:∀ (tys:List TypeId) (cs:List Value) (xs:List (DataW H × List MemPlace)),cs.length=tys.length->xs.length=tys.length ->
    (∀ (i:Nat) u c x,tys[i]?=some u->cs[i]?=some c->xs[i]?=some x->f u c=some x)->ZBZ f tys cs xs
  | [],[],[],_,_,_=>trivial
  | u::us,c::cs,x::xs,h1,e,h=>⟨h 0 u c x rfl rfl rfl,Zyy us cs xs (by simpa using h1) (by simpa using e) fun i u c x a b d=>h (i+1) u c x (by simpa using a) (by simpa using b) (by simpa using d)⟩
  | [],_::_,_,h,_,_=>by simp at h
  | [],[],_::_,_,h,_=>by simp at h
  | _::_,[],_,h,_,_=>by simp at h
  | _::_,_::_,[],_,h,_=>by simp at h
theorem fieldsOf {t:TypeId} {tys:List TypeId} {fuel:Nat} {cs:List Value} {x:DataW H × List MemPlace} (st:StT P t tys) (h1:∀ u,u∈tys->P.cellsOf u=1) (h:DataW.trod enc P w base spare held fuel t cs=some x) :
    ∃ (n:Nat) (xs:List (DataW H × List MemPlace)),ZBZ (fun u c=>DataW.trod enc P w base spare held n u [c]) tys cs xs/\Rows.uptoBulk x.1=Rows.uptoBulkAll (xs.map (·.1))+1:=by
  obtain ⟨fs,j,g,r⟩:=st;obtain ⟨xs,n,rfl,rfl,hlen,k,e⟩:=DataW.trod_struct j h
  have l:fs.size=tys.length:=by
    have:=congrArg List.length g;simpa using this
  refine ⟨n,xs,Zyy tys cs xs (by omega) (by omega) fun i u c x a b d=>?_,by simp only [Rows.uptoBulk]⟩;obtain ⟨f,m,o,q⟩:=Ztg g (i:=i) (p:=(u,i)) (by rw [List.getElem?_zipIdx,a];simp);have:=e i f m;rw [o,q,h1 u (Axo a),d] at this;rw [<- this];congr 1;obtain ⟨hi,rfl⟩:=Ayh.1 b;rw [Ayo hi];rfl
theorem ZDB {n:Nat} {ts:TypeId} {c:Value} {x:DataW H × List MemPlace} (a:P.underlying ts=some .string) (h:DataW.trod enc P w base spare held n ts [c]=some x):∃ s:BL,c=sV s/\Rows.uptoBulk x.1=Rows.uptoBulk (.lit (.string s):DataW H):=by
  obtain ⟨s,h1,b,_⟩:=DataW.trod_string a h;simp at h1;subst h1;exact ⟨s.data.toList,rfl,by rw [b]⟩
theorem Zq5 {n:Nat} {ti:TypeId} {c:Value} {x:DataW H × List MemPlace} (a:P.underlying ti=some (.int .i64)) (h:DataW.trod enc P w base spare held n ti [c]=some x):∃ s:Int,c=i64 s/\Zoo s:=by
  obtain ⟨s,h1,b,h3⟩:=DataW.trod_int a h;simp at h1;subst h1;have:=ZGe h3;exact ⟨s,rfl,by unfold Zoo;omega⟩
theorem tU8 {n:Nat} {ti:TypeId} {c:Value} {x:DataW H × List MemPlace} (a:P.underlying ti=some (.int .u8)) (h:DataW.trod enc P w base spare held n ti [c]=some x):∃ s:Nat,c=i8 s/\s<256:=by
  obtain ⟨s,h1,b,h3⟩:=DataW.trod_int a h;simp at h1;subst h1;have:=ZNF h3;exact ⟨s.toNat,by unfold i8;rw [Axe this.1],by omega⟩
theorem ZAq {n:Nat} {ti:TypeId} {c:Value} {x:DataW H × List MemPlace} (a:P.underlying ti=some .bool) (h:DataW.trod enc P w base spare held n ti [c]=some x):∃ s:Bool,c = .bool s:=by
  obtain ⟨s,h1,b⟩:=DataW.trod_bool a h;simp at h1;exact ⟨s,h1⟩
theorem tSl {u e:TypeId} {n:Nat} {c:Value} {y:DataW H × List MemPlace} (hu:P.underlying u=some (.slice e)) (f:DataW.trod enc P w base spare held n u [c]=some y):∃ s:Sl,c=slV s:=by
  rcases Deep.open_slice hu f with ⟨a,_⟩ | ⟨a',b,d,m,g,D,h,a,_⟩
  ·simp at a;exact ⟨⟨none,0,0⟩,a⟩
  ·simp at a;exact ⟨⟨some a',b,d⟩,a⟩
theorem ZhH (s:BL):s.length+1<=Rows.uptoBulk (.lit (.string s):DataW H):=by
  simp only [Rows.uptoBulk];omega
structure TyR (P:Program) (tR tF tB tH tY tL tI ts tb ti tsg tsh tg sF sB sH sY sL sI sT:TypeId):Prop where
  R:StT P tR [sF,sB,sH,sY,sL]
  F:StT P tF [ts,ts,tb,ti,tsg,ts,tsh,ti,ti,tb,ti,tb]
  B:StT P tB [ts,tg,ti,ti,ti,ti,ti]
  H:StT P tH [ts,ti,ti,ti,sI]
  Y:StT P tY [ti,ti,ti,ti,ti]
  L:StT P tL [ts,tb,sT]
  I:StT P tI [ts,ti]
  s:P.underlying ts=some .string
  b:P.underlying tb=some .bool
  i:P.underlying ti=some (.int .i64)
  sg:P.underlying tsg=some (.int .u8)
  sh:P.underlying tsh=some (.int .u8)
  g:P.underlying tg=some (.int .u8)
  lF:P.underlying sF=some (.slice tF)
  lB:P.underlying sB=some (.slice tB)
  lH:P.underlying sH=some (.slice tH)
  lY:P.underlying sY=some (.slice tY)
  lL:P.underlying sL=some (.slice tL)
  lI:P.underlying sI=some (.slice tI)
  lT:P.underlying sT=some (.slice ts)
  one:([ts,tb,ti,tsg,tsh,tg,sF,sB,sH,sY,sL,sI,sT].all fun u=>P.cellsOf u ==1)=true
end
end Go.Proofs.YthbfgkphlmlihaaGreat.Rw
namespace Go.Proofs.YthbfgkphlmlihaaGreat.Rw
open Go Go.Fw Go.Js
section
variable {H:Type} {enc:TypeId × Value->H} {P:Program} {w:World} {base:Nat} {spare:Nat->Bool} {held:Bool}
variable {tR tF tB tH tY tL tI ts tb ti tsg tsh tg sF sB sH sY sL sI sT:TypeId}
theorem TyR.o (T:TyR P tR tF tB tH tY tL tI ts tb ti tsg tsh tg sF sB sH sY sL sI sT) {tys:List TypeId} (h:∀ u,u∈tys->u∈[ts,tb,ti,tsg,tsh,tg,sF,sB,sH,sY,sL,sI,sT]):∀ u,u∈tys->P.cellsOf u=1:=fun u hu=>by
  simpa using Axb.1 T.one u (h u hu)
theorem ZBd (T:TyR P tR tF tB tH tY tL tI ts tb ti tsg tsh tg sF sB sH sY sL sI sT) {fuel:Nat} {cs:List Value} {x:DataW H × List MemPlace} (h:DataW.trod enc P w base spare held fuel tF cs=some x):∃ a:FlowP,cs=Zfh a/\a.rng/\a.wt<=16*Rows.uptoBulk x.1:=by
  obtain ⟨n,xs,c,r⟩:=fieldsOf T.F (T.o fun u hu=>by simp only [Awr] at hu ⊢;rcases hu with h | h | h | h | h | h | h | h | h | h | h | h | h<;>simp_all) h;obtain ⟨_,cs,Q,xs,rfl,rfl,h1,c⟩:=c.inv;obtain ⟨_,cs,R,xs,rfl,rfl,t,c⟩:=c.inv;obtain ⟨_,cs,S,xs,rfl,rfl,h3,c⟩:=c.inv;obtain ⟨_,cs,U,xs,rfl,rfl,v,c⟩:=c.inv;obtain ⟨_,cs,V,xs,rfl,rfl,y,c⟩:=c.inv;obtain ⟨_,cs,W,xs,rfl,rfl,z,c⟩:=c.inv;obtain ⟨_,cs,X,xs,rfl,rfl,A,c⟩:=c.inv;obtain ⟨_,cs,Y,xs,rfl,rfl,B,c⟩:=c.inv;obtain ⟨_,cs,Z,xs,rfl,rfl,C,c⟩:=c.inv;obtain ⟨_,cs,D,xs,rfl,rfl,d,c⟩:=c.inv;obtain ⟨_,cs,E,xs,rfl,rfl,e,c⟩:=c.inv;obtain ⟨_,cs,G,xs,rfl,rfl,f,c⟩:=c.inv;obtain ⟨rfl,rfl⟩:=c.nil;obtain ⟨m,rfl,b1⟩:=ZDB T.s h1;obtain ⟨p,rfl,b2⟩:=ZDB T.s t;obtain ⟨a3,rfl⟩:=ZAq T.b h3;obtain ⟨a4,rfl,I⟩:=Zq5 T.i v;obtain ⟨a5,rfl,J⟩:=tU8 T.sg y;obtain ⟨q,rfl,b6⟩:=ZDB T.s z;obtain ⟨K,rfl,L⟩:=tU8 T.sh A;obtain ⟨M,rfl,N⟩:=Zq5 T.i B;obtain ⟨a9,rfl,O⟩:=Zq5 T.i C;obtain ⟨g,rfl⟩:=ZAq T.b d;obtain ⟨j,rfl,k⟩:=Zq5 T.i e;obtain ⟨l,rfl⟩:=ZAq T.b f;refine ⟨⟨m,p,a3,a4,a5,q,K,M,a9,g,j,l⟩,rfl,⟨I,J,L,N,O,k⟩,?_⟩;have l1:=ZhH (H:=H) m;have l2:=ZhH (H:=H) p;have l6:=ZhH (H:=H) q;simp only [Awo,Rows.uptoBulkAll] at r;simp only [FlowP.wt];omega
theorem Zyw (T:TyR P tR tF tB tH tY tL tI ts tb ti tsg tsh tg sF sB sH sY sL sI sT) {fuel:Nat} {cs:List Value} {x:DataW H × List MemPlace} (h:DataW.trod enc P w base spare held fuel tB cs=some x):∃ a:YS,cs=Zdk a/\a.rng/\a.wt<=16*Rows.uptoBulk x.1:=by
  obtain ⟨n,xs,b,d⟩:=fieldsOf T.B (T.o fun u hu=>by simp only [Awr] at hu ⊢;rcases hu with h | h | h | h | h | h | h | h<;>simp_all) h;obtain ⟨_,cs,C,xs,rfl,rfl,h1,b⟩:=b.inv;obtain ⟨_,cs,D,xs,rfl,rfl,e,b⟩:=b.inv;obtain ⟨_,cs,E,xs,rfl,rfl,h3,b⟩:=b.inv;obtain ⟨_,cs,F,xs,rfl,rfl,f,b⟩:=b.inv;obtain ⟨_,cs,G,xs,rfl,rfl,j,b⟩:=b.inv;obtain ⟨_,cs,I,xs,rfl,rfl,k,b⟩:=b.inv;obtain ⟨_,cs,J,xs,rfl,rfl,l,b⟩:=b.inv;obtain ⟨rfl,rfl⟩:=b.nil;obtain ⟨c,rfl,b1⟩:=ZDB T.s h1;obtain ⟨m,rfl,p⟩:=tU8 T.g e;obtain ⟨a3,rfl,q⟩:=Zq5 T.i h3;obtain ⟨a4,rfl,r⟩:=Zq5 T.i f;obtain ⟨a5,rfl,t⟩:=Zq5 T.i j;obtain ⟨v,rfl,y⟩:=Zq5 T.i k;obtain ⟨z,rfl,A⟩:=Zq5 T.i l;refine ⟨⟨c,m,a3,a4,a5,v,z⟩,rfl,⟨p,q,r,t,y,A⟩,?_⟩;have K:=ZhH (H:=H) c;simp only [Awo,Rows.uptoBulkAll] at d;simp only [YS.wt];omega
theorem ZvR (T:TyR P tR tF tB tH tY tL tI ts tb ti tsg tsh tg sF sB sH sY sL sI sT) {fuel:Nat} {cs:List Value} {x:DataW H × List MemPlace} (h:DataW.trod enc P w base spare held fuel tY cs=some x):∃ a:ZaD,cs=ZgX a/\a.rng/\1<=16*Rows.uptoBulk x.1:=by
  obtain ⟨n,xs,b,q⟩:=fieldsOf T.Y (T.o fun u hu=>by simp only [Awr] at hu ⊢;rcases hu with h | h | h | h | h | h<;>simp_all) h;obtain ⟨_,cs,r,xs,rfl,rfl,h1,b⟩:=b.inv;obtain ⟨_,cs,s,xs,rfl,rfl,c,b⟩:=b.inv;obtain ⟨_,cs,t,xs,rfl,rfl,h3,b⟩:=b.inv;obtain ⟨_,cs,v,xs,rfl,rfl,d,b⟩:=b.inv;obtain ⟨_,cs,y,xs,rfl,rfl,e,b⟩:=b.inv;obtain ⟨rfl,rfl⟩:=b.nil;obtain ⟨f,rfl,g⟩:=Zq5 T.i h1;obtain ⟨j,rfl,k⟩:=Zq5 T.i c;obtain ⟨a3,rfl,l⟩:=Zq5 T.i h3;obtain ⟨a4,rfl,m⟩:=Zq5 T.i d;obtain ⟨a5,rfl,p⟩:=Zq5 T.i e;exact ⟨⟨f,j,a3,a4,a5⟩,rfl,⟨g,k,l,m,p⟩,by omega⟩
theorem ZBc (T:TyR P tR tF tB tH tY tL tI ts tb ti tsg tsh tg sF sB sH sY sL sI sT) {fuel:Nat} {cs:List Value} {x:DataW H × List MemPlace} (h:DataW.trod enc P w base spare held fuel tI cs=some x):∃ a:BL × Int,cs=[sV a.1,i64 a.2]/\Zoo a.2/\Zms a<=16*Rows.uptoBulk x.1:=by
  obtain ⟨n,xs,b,d⟩:=fieldsOf T.I (T.o fun u hu=>by simp only [Awr] at hu ⊢;rcases hu with h | h | h<;>simp_all) h;obtain ⟨_,cs,j,xs,rfl,rfl,h1,b⟩:=b.inv;obtain ⟨_,cs,k,xs,rfl,rfl,e,b⟩:=b.inv;obtain ⟨rfl,rfl⟩:=b.nil;obtain ⟨c,rfl,b1⟩:=ZDB T.s h1;obtain ⟨f,rfl,g⟩:=Zq5 T.i e;refine ⟨(c,f),rfl,g,?_⟩;have l:=ZhH (H:=H) c;simp only [Awo,Rows.uptoBulkAll] at d;simp only [Zms];omega
theorem ZEQ (T:TyR P tR tF tB tH tY tL tI ts tb ti tsg tsh tg sF sB sH sY sL sI sT) {fuel:Nat} {cs:List Value} {x:DataW H × List MemPlace} (h:DataW.trod enc P w base spare held fuel tH cs=some x) :
    ∃ a:Sl × Zev,cs=Zln a/\(a.2.rng/\ZOl w.heap (fun b=>b<sz w.heap) a)/\a.2.wt<=16*Rows.uptoBulk x.1:=by
  obtain ⟨n,xs,c,l⟩:=fieldsOf T.H (T.o fun u hu=>by simp only [Awr] at hu ⊢;rcases hu with h | h | h | h | h | h<;>simp_all) h;obtain ⟨_,cs,F,xs,rfl,rfl,h1,c⟩:=c.inv;obtain ⟨_,cs,G,xs,rfl,rfl,m,c⟩:=c.inv;obtain ⟨_,cs,J,xs,rfl,rfl,h3,c⟩:=c.inv;obtain ⟨_,cs,K,xs,rfl,rfl,q,c⟩:=c.inv;obtain ⟨_,cs,t,xs,rfl,rfl,f,c⟩:=c.inv;obtain ⟨rfl,rfl⟩:=c.nil;obtain ⟨j,rfl,b1⟩:=ZDB T.s h1;obtain ⟨v,rfl,z⟩:=Zq5 T.i m;obtain ⟨a3,rfl,A⟩:=Zq5 T.i h3;obtain ⟨a4,rfl,B⟩:=Zq5 T.i q;obtain ⟨s5,rfl⟩:=tSl T.lI f;obtain ⟨fs,C,D,d⟩:=T.I
  obtain ⟨E,⟨k,ip⟩,ib⟩:=ZgP (α:=BL × Int) (g:=fun p=>[sV p.1,i64 p.2]) (n:=2) (Pa:=fun p=>Zoo p.2) (μ:=Zms) (N:=Rows.uptoBulk t.1) (fun _=>rfl) (by decide) T.lI d (fun {fuel cs y} _ h=>by
    obtain ⟨a,e,r,b⟩:=ZBc T h
    exact ⟨a,e,r,b⟩) (Aqo _) f
  refine ⟨(s5,⟨j,v,a3,a4,E⟩),rfl,⟨⟨z,A,B,ip⟩,k,Zkr k (by decide)⟩,?_⟩;have L:=ZhH (H:=H) j;simp only [Awo,Rows.uptoBulkAll] at l;simp only [Zev.wt];omega
theorem ZBb (T:TyR P tR tF tB tH tY tL tI ts tb ti tsg tsh tg sF sB sH sY sL sI sT) {fuel:Nat} {cs:List Value} {x:DataW H × List MemPlace} (h:DataW.trod enc P w base spare held fuel tL cs=some x) :
    ∃ a:Sl × ZbC,cs=Ziz a/\ZyJ w.heap (fun b=>b<sz w.heap) a/\a.2.wt<=16*Rows.uptoBulk x.1:=by
  obtain ⟨n,xs,c,j⟩:=fieldsOf T.L (T.o fun u hu=>by simp only [Awr] at hu ⊢;rcases hu with h | h | h | h<;>simp_all) h;obtain ⟨_,cs,q,xs,rfl,rfl,h1,c⟩:=c.inv;obtain ⟨_,cs,r,xs,rfl,rfl,k,c⟩:=c.inv;obtain ⟨_,cs,l,xs,rfl,rfl,h3,c⟩:=c.inv;obtain ⟨rfl,rfl⟩:=c.nil;obtain ⟨f,rfl,b1⟩:=ZDB T.s h1;obtain ⟨m,rfl⟩:=ZAq T.b k;obtain ⟨i,rfl⟩:=tSl T.lT h3
  obtain ⟨nl,⟨p,_⟩,t⟩:=ZgP (α:=BL) (g:=fun n=>[sV n]) (n:=1) (Pa:=fun _=>True) (μ:=Zmo) (N:=Rows.uptoBulk l.1) (fun _=>rfl) (by decide) T.lT (T.o (tys:=[ts]) (by simp) ts (by simp)) (fun {fuel cs y} _ h=>by
    obtain ⟨s,e,he,_⟩:=DataW.trod_string T.s h;refine ⟨s.data.toList,by rw [e],trivial,?_⟩;rw [he];have:=ZhH (H:=H) s.data.toList;simp only [Zmo]
    omega) (Aqo _) h3
  have d:Row w.heap i 1 (nl.map sV):=by rw [<- Zx8];exact p
  refine ⟨(i,⟨f,m,nl⟩),rfl,⟨d,Zkr d (by decide)⟩,?_⟩;have v:=ZhH (H:=H) f;simp only [Awo,Rows.uptoBulkAll] at j;simp only [ZbC.wt];omega
theorem Zyt (T:TyR P tR tF tB tH tY tL tI ts tb ti tsg tsh tg sF sB sH sY sL sI sT) {fuel:Nat} {cs:List Value} {x:DataW H × List MemPlace} (h:DataW.trod enc P w base spare held fuel tR cs=some x) :
    ∃ (z:VTR) (r:RulesP),cs=Zju z/\Xe w.heap (fun b=>b<sz w.heap) z r/\r.rng/\r.wt<=16*Rows.uptoBulk x.1:=by
  obtain ⟨n,xs,c,v⟩:=fieldsOf T.R (T.o fun u hu=>by simp only [Awr] at hu ⊢;rcases hu with h | h | h | h | h | h<;>simp_all) h;obtain ⟨_,cs,A,xs,rfl,rfl,h1,c⟩:=c.inv;obtain ⟨_,cs,C,xs,rfl,rfl,e,c⟩:=c.inv;obtain ⟨_,cs,D,xs,rfl,rfl,h3,c⟩:=c.inv;obtain ⟨_,cs,E,xs,rfl,rfl,i,c⟩:=c.inv;obtain ⟨_,cs,G,xs,rfl,rfl,j,c⟩:=c.inv;obtain ⟨rfl,rfl⟩:=c.nil;obtain ⟨s1,rfl⟩:=tSl T.lF h1;obtain ⟨s2,rfl⟩:=tSl T.lB e;obtain ⟨I,rfl⟩:=tSl T.lH h3;obtain ⟨s4,rfl⟩:=tSl T.lY i;obtain ⟨s5,rfl⟩:=tSl T.lL j
  haveI:Inhabited FlowP:=⟨⟨[],[],false,0,0,[],0,0,0,false,0,false⟩⟩
  haveI:Inhabited YS:=⟨⟨[],0,0,0,0,0,0⟩⟩
  haveI:Inhabited ZaD:=⟨⟨0,0,0,0,0⟩⟩
  haveI:Inhabited (Sl × Zev):=⟨(⟨none,0,0⟩,⟨[],0,0,0,[]⟩)⟩
  haveI:Inhabited (Sl × ZbC):=⟨(⟨none,0,0⟩,⟨[],false,[]⟩)⟩
  obtain ⟨f1,⟨k,J⟩,b1⟩:=ZgP (α:=FlowP) (g:=Zfh) (n:=12) (Pa:=FlowP.rng) (μ:=FlowP.wt) (N:=Rows.uptoBulk A.1) (fun _=>rfl) (by decide) T.lF T.F.choose_spec.2.2 (fun {fuel cs y} _ h=>ZBd T h) (Aqo _) h1;obtain ⟨f2,⟨l,K⟩,b2⟩:=ZgP (α:=YS) (g:=Zdk) (n:=7) (Pa:=YS.rng) (μ:=YS.wt) (N:=Rows.uptoBulk C.1) (fun _=>rfl) (by decide) T.lB T.B.choose_spec.2.2 (fun {fuel cs y} _ h=>Zyw T h) (Aqo _) e;obtain ⟨f3,⟨m,q⟩,Q⟩:=ZgP (α:=Sl × Zev) (g:=Zln) (n:=5) (Pa:=fun a=>a.2.rng/\ZOl w.heap (fun b=>b<sz w.heap) a) (μ:=fun a=>a.2.wt) (N:=Rows.uptoBulk D.1) (fun _=>rfl) (by decide) T.lH T.H.choose_spec.2.2 (fun {fuel cs y} _ h=>ZEQ T h) (Aqo _) h3;obtain ⟨f4,⟨s,M⟩,b4⟩:=ZgP (α:=ZaD) (g:=ZgX) (n:=5) (Pa:=ZaD.rng) (μ:=fun _=>1) (N:=Rows.uptoBulk E.1) (fun _=>rfl) (by decide) T.lY T.Y.choose_spec.2.2 (fun {fuel cs y} _ h=>ZvR T h) (Aqo _) i;obtain ⟨f5,⟨t,O⟩,S⟩:=ZgP (α:=Sl × ZbC) (g:=Ziz) (n:=3) (Pa:=fun a=>ZyJ w.heap (fun b=>b<sz w.heap) a) (μ:=fun a=>a.2.wt) (N:=Rows.uptoBulk G.1) (fun _=>rfl) (by decide) T.lL T.L.choose_spec.2.2 (fun {fuel cs y} _ h=>ZBb T h) (Aqo _) j;refine ⟨(s1,s2,I,s4,s5,()),⟨f1,f2,f3.map (·.2),f4,f5.map (·.2)⟩,rfl,⟨⟨k,Zkr k (by decide)⟩,⟨l,Zkr l (by decide)⟩,⟨f3,rfl,⟨m,Zkr m (by decide)⟩,fun p d=>(q p d).2⟩,⟨s,Zkr s (by decide)⟩,⟨f5,rfl,⟨t,Zkr t (by decide)⟩,O⟩⟩,⟨J,K,fun f c=>?_,M⟩,?_⟩
  ·obtain ⟨p,d,rfl⟩:=Axz.1 c
   exact (q p d).1
  ·simp only [Awo,List.map_nil,Rows.uptoBulkAll] at v
   simp only [RulesP.wt,Aya];have U:(f3.map (Zev.wt ∘ fun x=>x.2)).sum=(f3.map fun a=>a.2.wt).sum:=rfl;have V:(f5.map (ZbC.wt ∘ fun x=>x.2)).sum=(f5.map fun a=>a.2.wt).sum:=rfl;omega
end
end Go.Proofs.YthbfgkphlmlihaaGreat.Rw
namespace Go.Proofs.YthbfgkphlmlihaaGreat
open Go Go.Fw Go.Js Go.ChangeShapes Go.WideShapes
theorem Zug:∀ l:List ByteArray,l.flatMap (fun s=>[Value.string s])=l.map .string
  | []=>rfl
  | x::l=>by rw [Aye,Zug l];rfl
theorem Zjy {α:Type} {f:α->Nat}:∀ {l:List α} {a:α},a∈l->f a<=(l.map f).sum
  | [],a,h=>by cases h
  | b::l,a,h=>by
    rw [Awo,Azb]
    rcases Awr.1 h with rfl | h
    ·omega
    ·have:=Zjy (f:=f) h;omega
theorem ZxD {α:Type} {f:α->Nat} (c:∀ a,1<=f a):∀ (l:List α),l.length<=(l.map f).sum
  | []=>Ayg _
  | b::l=>by
    rw [Awo,Azb,Aqj];have:=ZxD c l;have:=c b;omega
theorem Zx9 {r:RulesP} (h:r.wt<=1000000000000):Rw.RulesP.fit r:=by
  unfold RulesP.wt at h;refine ⟨fun f b=>?_,fun f b=>?_,fun f b=>⟨?_,?_⟩,fun f b=>⟨?_,fun n c=>?_⟩⟩
  ·have h1:f.wt<=(r.fl.map FlowP.wt).sum:=Zjy b
   have e:f.wt=1+f.res.length+f.org.length+f.ref.length:=rfl;omega
  ·have h1:f.wt<=(r.br.map YS.wt).sum:=Zjy b
   have e:f.wt=1+f.res.length:=rfl;omega
  ·have h1:f.wt<=(r.ho.map Zev.wt).sum:=Zjy b
   have e:f.wt=1+f.res.length+(f.items.map Zms).sum:=rfl;omega
  ·have h1:f.wt<=(r.ho.map Zev.wt).sum:=Zjy b
   have e:f.wt=1+f.res.length+(f.items.map Zms).sum:=rfl;have d:=ZxD (f:=Zms) (fun a=>by unfold Zms;omega) f.items;omega
  ·have h1:f.wt<=(r.li.map ZbC.wt).sum:=Zjy b
   have e:f.wt=1+f.res.length+(f.origins.map Zmo).sum:=rfl;omega
  ·have h1:f.wt<=(r.li.map ZbC.wt).sum:=Zjy b
   have e:f.wt=1+f.res.length+(f.origins.map Zmo).sum:=rfl;have d:Zmo n<=(f.origins.map Zmo).sum:=Zjy c;have g:Zmo n=1+n.length:=rfl;omega
section
variable {H:Type} {enc:TypeId × Value->H} {P:Program} {w:World} {base:Nat} {spare:Nat->Bool} {held:Bool}
theorem Zyv {t:TypeId} {fs:Array Field} {cs:List Value} {fuel:Nat} {x:DataW H × List MemPlace} (F:P.underlying t=some (.struct fs)) (G:P.cellsOf t=7) {j ts tb v:TypeId} (k:P.underlying j=some (.int .i64)) (e:P.underlying ts=some .string) (z:P.underlying tb=some .bool) (m:P.underlying v=some (.slice ts))
    (ci:P.cellsOf j=1) (o:P.cellsOf ts=1) (cb:P.cellsOf tb=1) (cl:P.cellsOf v=1) (B:fs.toList.map (fun f=>(f.type,f.offset))=[(j,0),(ts,1),(ts,2),(ts,3),(tb,4),(j,5),(v,6)])
    (h:DataW.trod enc P w base spare held fuel t cs=some x):∃ (c:PC) (sl:Sl) (al:List ByteArray),cs=c8L (Go.Proofs.YthbfgkphlmlihaaGreat.cl c sl)/\Row w.heap sl 1 (al.map .string)/\Zhs (Go.Proofs.YthbfgkphlmlihaaGreat.cl c nl)/\al.length<=16*Rows.uptoBulk x.1:=by
  obtain ⟨xs,n,rfl,rfl,hl,hlen,q⟩:=DataW.trod_struct F h;rw [G] at hl
  have I:fs.size=7:=by
    have:=congrArg List.length B;simpa using this
  match cs,hl with
  | [c0,c1,J,K,L,M,O],_ =>
    have b:∀ {i:Nat} {p:TypeId × Nat} (hi:i<xs.length),([(j,0),(ts,1),(ts,2),(ts,3),(tb,4),(j,5),(v,6)]:List (TypeId × Nat))[i]?=some p->DataW.trod enc P w base spare held n p.1 (([c0,c1,J,K,L,M,O].drop p.2).take (P.cellsOf p.1))=some xs[i]:=fun {i p} hi Q=>by
      obtain ⟨f,R,S,T⟩:=Rw.Ztg B Q;have:=q i f R;rw [S,T,Axy hi] at this;exact this
    have f0:=b (i:=0) (by omega) rfl;have f1:=b (i:=1) (by omega) rfl;have f2:=b (i:=2) (by omega) rfl;have f3:=b (i:=3) (by omega) rfl;have f4:=b (i:=4) (by omega) rfl;have f5:=b (i:=5) (by omega) rfl;have f6:=b (i:=6) (by omega) rfl;dsimp only at f0 f1 f2 f3 f4 f5 f6;rw [ci] at f0 f5;rw [o] at f1 f2 f3;rw [cb] at f4;rw [cl] at f6;obtain ⟨U,h0,_⟩:=DataW.trod_int k f0;obtain ⟨s1,h1,_,V⟩:=DataW.trod_string e f1;obtain ⟨s2,C,_,W⟩:=DataW.trod_string e f2;obtain ⟨X,h3,_,z3⟩:=DataW.trod_string e f3;obtain ⟨b4,D,_⟩:=DataW.trod_bool z f4;obtain ⟨Y,E,_⟩:=DataW.trod_int k f5;simp at h0 h1 C h3 D E;subst h0 h1 C h3 D E;obtain ⟨Z,h6⟩:=Rw.tSl m f6;subst h6
    obtain ⟨al,⟨r,_⟩,u⟩:=Rw.ZgP (α:=ByteArray) (g:=fun s=>[Value.string s]) (n:=1) (Pa:=fun _=>True) (μ:=fun _=>1) (N:=Rows.uptoBulk (xs[6]'(by omega)).1) (fun _=>rfl) (by decide) m o (fun {fuel cs y} _ h=>by
      obtain ⟨s,A,he,_⟩:=DataW.trod_string e h;have:=ZA7 y.1
      exact ⟨s,A,trivial,by omega⟩) (Aqo _) f6
    refine ⟨(U,s1,s2,X,b4,Y),Z,al,rfl,?_,⟨Rw.Zli V,Rw.Zli W,Rw.Zli z3⟩,?_⟩
    ·rw [<- Zug al]
     exact r
    ·have e1:(al.map fun _=>1).sum=al.length:=by
       clear r u
       induction al with
       | nil=>rfl
       | cons a l ih=>simp [ih];omega
     have hm:=Rw.ZmU (H:=H) (d:=(xs[6]'(by omega)).1) (l:=xs.map (·.1)) (Axz.2 ⟨_,Ayy _,rfl⟩);simp only [Rows.uptoBulk];omega
theorem Zyu {t:TypeId} {fs:Array Field} {cs:List Value} {fuel:Nat} {x:DataW H × List MemPlace} (U:P.underlying t=some (.struct fs)) (V:P.cellsOf t=19) {e u tb tr:TypeId} (g:P.underlying e=some (.int .i64)) (o:P.underlying tb=some .bool)
    (ci:P.cellsOf e=1) (cb:P.cellsOf tb=1) (W:P.cellsOf u=7) (X:P.cellsOf tr=5) (L:fs.toList.map (fun f=>(f.type,f.offset))=[(e,0),(u,1),(tb,8),(e,9),(e,10),(tb,11),(tr,12),(e,17),(e,18)])
    (m:∀ {fuel:Nat} {cs:List Value} {x:DataW H × List MemPlace},DataW.trod enc P w base spare held fuel u cs=some x->∃ (c:PC) (sl:Sl) (al:List ByteArray),cs=c8L (Go.Proofs.YthbfgkphlmlihaaGreat.cl c sl)/\Row w.heap sl 1 (al.map .string)/\Zhs (Go.Proofs.YthbfgkphlmlihaaGreat.cl c nl)/\al.length<=16*Rows.uptoBulk x.1)
    (j:∀ {fuel:Nat} {cs:List Value} {x:DataW H × List MemPlace},DataW.trod enc P w base spare held fuel tr cs=some x->∃ (z:Rw.VTR) (r:RulesP),cs=Rw.Zju z/\Rw.Xe w.heap (fun b=>b<sz w.heap) z r/\r.rng/\r.wt<=16*Rows.uptoBulk x.1)
    (Y:Rows.uptoBulk x.1<1048577) (h:DataW.trod enc P w base spare held fuel t cs=some x):∃ y:Zse,cs=ZrY y/\ZjY w.heap (sz w.heap) y.1 y.2.1 y.2.2:=by
  obtain ⟨xs,n,rfl,rfl,hl,hlen,q⟩:=DataW.trod_struct U h;rw [V] at hl
  have Z:fs.size=9:=by
    have:=congrArg List.length L;simpa using this
  have M:∀ (i:Nat) (hi:i<xs.length),Rows.uptoBulk (xs[i]'hi).1<=1048576:=fun i hi=>by
    have hm:=Rw.ZmU (H:=H) (d:=(xs[i]'hi).1) (l:=xs.map (·.1)) (Axz.2 ⟨_,Ayy _,rfl⟩);simp only [Rows.uptoBulk] at Y;omega
  match cs,hl with
  | [a0,a1,a2,a3,a4,a5,a6,a7,a8,a9,v,A,B,C,D,E,F,G,I],_ =>
    have a:∀ {i:Nat} {p:TypeId × Nat} (hi:i<xs.length),([(e,0),(u,1),(tb,8),(e,9),(e,10),(tb,11),(tr,12),(e,17),(e,18)]:List (TypeId × Nat))[i]?=some p->DataW.trod enc P w base spare held n p.1 (([a0,a1,a2,a3,a4,a5,a6,a7,a8,a9,v,A,B,C,D,E,F,G,I].drop p.2).take (P.cellsOf p.1))=some xs[i]:=fun {i p} hi hp=>by
      obtain ⟨f,g1,g2,g3⟩:=Rw.Ztg L hp;have:=q i f g1;rw [g2,g3,Axy hi] at this;exact this
    have f0:=a (i:=0) (by omega) rfl;have f1:=a (i:=1) (by omega) rfl;have f2:=a (i:=2) (by omega) rfl;have f3:=a (i:=3) (by omega) rfl;have f4:=a (i:=4) (by omega) rfl;have f5:=a (i:=5) (by omega) rfl;have f6:=a (i:=6) (by omega) rfl;have f7:=a (i:=7) (by omega) rfl;have f8:=a (i:=8) (by omega) rfl;dsimp only at f0 f1 f2 f3 f4 f5 f6 f7 f8;rw [ci] at f0 f3 f4 f7 f8;rw [cb] at f2 f5;rw [W] at f1;rw [X] at f6;obtain ⟨n0,h0,_⟩:=DataW.trod_int g f0;obtain ⟨c,sl,al,s,k,J,aq⟩:=m f1;obtain ⟨b2,N,_⟩:=DataW.trod_bool o f2;obtain ⟨n3,h3,_⟩:=DataW.trod_int g f3;obtain ⟨n4,O,_⟩:=DataW.trod_int g f4;obtain ⟨b5,Q,_⟩:=DataW.trod_bool o f5;obtain ⟨z,r,R,K,_,aw⟩:=j f6;obtain ⟨n7,S,_⟩:=DataW.trod_int g f7;obtain ⟨n8,T,_⟩:=DataW.trod_int g f8;have k1:=M 1 (by omega);have k6:=M 6 (by omega);simp at h0 N h3 O Q S T;subst h0 N h3 O Q S T;simp only [List.drop,List.take,c8L,Rw.Zju,Go.Proofs.YthbfgkphlmlihaaGreat.cl,Axw,and_true] at s R;obtain ⟨rfl,rfl,rfl,rfl,rfl,rfl,rfl⟩:=s;obtain ⟨rfl,rfl,rfl,rfl,rfl⟩:=R;exact ⟨(⟨n0,c,al,b2,n3,n4,b5,r,n7,n8⟩,sl,z),rfl,⟨k,Rw.Zkr k (by decide),(by show al.length<=_;omega),J,K,Zx9 (by show r.wt<=_;omega)⟩⟩
end
theorem tyR:Rw.TyR Tryz.prog 39 32 52 134 202 160 212 9 4 3 29 30 50 33 34 35 36 37 132 45 where
  R:=⟨_,Tryz.underlying39,by kernel_rfl,by kernel_rfl⟩
  F:=⟨_,Tryz.underlying32,by kernel_rfl,by kernel_rfl⟩
  B:=⟨_,Tryz.underlying52,by kernel_rfl,by kernel_rfl⟩
  H:=⟨_,Tryz.underlying134,by kernel_rfl,by kernel_rfl⟩
  Y:=⟨_,Tryz.underlying202,by kernel_rfl,by kernel_rfl⟩
  L:=⟨_,Tryz.underlying160,by kernel_rfl,by kernel_rfl⟩
  I:=⟨_,Tryz.underlying212,by kernel_rfl,by kernel_rfl⟩
  s:=Tryz.underlying9
  b:=Tryz.underlying4
  i:=Tryz.underlying3
  sg:=Tryz.underlying29
  sh:=Tryz.underlying30
  g:=Tryz.underlying50
  lF:=Tryz.underlying33
  lB:=Tryz.underlying34
  lH:=Tryz.underlying35
  lY:=Tryz.underlying36
  lL:=Tryz.underlying37
  lI:=Tryz.underlying132
  lT:=Tryz.underlying45
  one:=by kernel_rfl
theorem ZvS {H:Type} {enc:TypeId × Value->H} {w:World} {base:Nat} {spare:Nat->Bool} {held:Bool} {fuel:Nat} {a:Option Addr} {len cap:Nat} {x:DataW H × List MemPlace} (d:Rows.uptoBulk x.1<=1048576)
    (h:DataW.trod enc Tryz.prog w base spare held fuel 55 [.slice a len cap]=some x):∃ l:List Zse,Row w.heap ⟨a,len,cap⟩ 19 (l.flatMap ZrY)/\∀ y,y∈l->ZjY w.heap (sz w.heap) y.1 y.2.1 y.2.2:=by
  haveI:Inhabited Zse:=⟨(⟨0,(0,em,em,em,false,0),[],false,0,0,false,⟨[],[],[],[],[]⟩,0,0⟩,nl,(nl,nl,nl,nl,nl,()))⟩
  obtain ⟨l,hl,_⟩:=Rw.ZgP (α:=Zse) (g:=ZrY) (n:=19) (Pa:=fun y=>ZjY w.heap (sz w.heap) y.1 y.2.1 y.2.2) (μ:=fun _=>0) (N:=1048577) (fun _=>rfl) (by decide) Tryz.underlying55 (by kernel_rfl) (fun {fuel cs y} b h=>by
    obtain ⟨z,h1,c⟩:=Zyu Tryz.underlying58 (by kernel_rfl) Tryz.underlying3 Tryz.underlying4 (by kernel_rfl) (by kernel_rfl) (by kernel_rfl) (by kernel_rfl) (by kernel_rfl)
      (Zyv Tryz.underlying47 (by kernel_rfl) Tryz.underlying3 Tryz.underlying9 Tryz.underlying4 Tryz.underlying45 (by kernel_rfl) (by kernel_rfl) (by kernel_rfl) (by kernel_rfl) (by kernel_rfl)) (Rw.Zyt tyR) b h
    exact ⟨z,h1,c,Ayg _⟩) (by omega) h
  exact ⟨l,hl⟩
theorem Zol {h:Zf} {keys seed:Int} {l:Sl} {a:List Zse} {K:Bool->Zf->Prop} (hl:Row h l 19 (a.flatMap ZrY)/\∀ y,y∈a->ZjY h (sz h) y.1 y.2.1 y.2.2) (b:∀ h',Ext h h'->K true h'):XD keys seed l K h:=ZwP hl.1 hl.2 b
end Go.Proofs.YthbfgkphlmlihaaGreat
