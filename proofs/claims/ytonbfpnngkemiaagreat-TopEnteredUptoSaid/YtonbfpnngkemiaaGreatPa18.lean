/- The general engine: Enter, all in all. -/
import Derived.Test.YtonbfpnngkemiaaGreatRows
import Derived.Deep.Slices
import Derived.ChangeSlices
import Derived.ChangeArms
import Derived.Test.YtonbfpnngkemiaaGreatProg
import Derived.KernelRfl
import Derived.Test.YtonbfpnngkemiaaGreatPa17
set_option linter.unusedVariables false
set_option linter.unusedSimpArgs false
namespace Go.Proofs.YtonbfpnngkemiaaGreat
open Go Go.Fw Go.Js
theorem EnR.put{h h':Zf}{T:TgM}{fm d:Nat}{en:Int->Option Ent}{f:Int->Option Value}{n:Nat}{k:Int}{e:Ent}{s:Sl}(l:EnI h T fm en f n)(hm:Zlv h' fm (upd f k (some (ZOq e.c e.ov s))) d)(u:Upd (· = fm) h h')(hT:T fm=some (.p fm))(m:Row h' s 1 (e.pr.map iv))(hs:Rw.inS (roT T) s):EnR h' T fm (upd en k (some e)):=by
  refine⟨_,d,hm,λj=>?_⟩
  by_cases q:j=k
  ·subst q;exact .inr ⟨e,s,Zep _ _ _,Zep _ _ _,m,hs⟩
  ·rw [Zfd en _ q,Zfd f _ q]
   rcases l.e j with h1|⟨a,s',h1,o,h3,g⟩
   ·exact .inl h1
   ·refine .inr ⟨a,s',h1,o,Rw.Zhn h3 g λb i hl=>u.old b hl λr=>?_,g⟩;have a:b=fm:=r;rw[a]at i;rw[show T fm=some .ro from i]at hT;cases hT
section
variable{h:Zf}{T:TgM}{L:Lay}{G:GS}{c:PC}{sl:Sl}{al:List ByteArray}{gr:Bool}
theorem ZEV(S:Zb1 h T L G)(ok:GOK G)(hz:Zic (cl c nl))(ha:Row h sl 1 (al.map .string))(ay:al≠[]->∀b,sl.blk=some b->b<sz h/\T b=none){K:Int->V4->Int->Zf->Prop}
    (Q:∀h' T' D,Zb1 h' T' D (G.enter c al gr).2->D.eb=L.eb->GrG T T' h h'->K (G.enter c al gr).1.1 (G.enter c al gr).1.2.1 (G.enter c al gr).1.2.2 h'):Zbb (some ⟨L.eb,0,none⟩) (cl c sl) gr K h:=by
  have aJ:Zic (cl c sl):=⟨hz.a,hz.b,hz.c⟩;unfold Zbb Zdv;refine ZH λh1 c1 e1 z1=>Za (ZH λU c2 e2 z2=>Za (Zi rfl (Zg ?_)));have ak:=e1.trans e2;have x2:=Zj c1 e2;have E2:=S.ext ak;have s1:sz h1=sz h+1:=z1;have s2:sz U=sz h1+1:=z2;have Tn:∀j,sz h<=j->T j=none:=λj d=>Classical.byContradiction λi=>by have:=S.hT j i;omega
  refine rI (Zb x2 rfl) (rS (Zb x2 rfl) (rS (Zb x2 rfl) (rS (Zb x2 rfl) (rB (Zb x2 rfl) (rI (Zb x2 rfl) (rL (s:=sl) (Zb x2 rfl) (?_)))))));refine ZDl E2 (c:=c) hz (ha.ext ak) λh3 C E3 g3=>Za ?_;have s3:sz U<=sz h3:=g3.u.size;have G3:GrG T C h h3:=GrG.pre ak g3
  have I:∀j,sz h<=j->j<sz U->C j=none:=λj d hl=>Classical.byContradiction λi=>by
    rcases g3.n j i with g|g
    ·exact g (Tn j d)
    ·omega
  have x3:obj h3 (sz h)=_:=(g3.old (show sz h<sz U by omega) (Tn _ (Aqo _))).trans x2;have y3:obj h3 (sz h1)=_:=(g3.old (show sz h1<sz U by omega) (Tn _ (by omega))).trans c2;refine ZbG (λq=>?_) λq=>?_
  ·rw[if_neg q]at E3;refine Za (Zaw y3 λr c4 u4 z4=>Za (rI (Zb c4 rfl) (rI (Zb c4 rfl) (rI (Zb c4 rfl) ?_))));unfold GS.enter at Q;rw[if_pos q]at Q;exact Q r C L (E3.frame u4 λj d=>by rw[show j=sz h1 from d];exact I _ (by omega) (by omega)) rfl (G3.new u4 λj d=>by have e':j=sz h1:=d;omega)
  rw[if_pos q]at E3;unfold GS.enter at Q;rw[if_neg (λi=>i q)]at Q;refine rI (Zb x3 rfl) (Zg (Zbs E3.cells (show 0+18<19 by decide) rfl λr c4 u4 z4=>Zg ?_));have E4:Zb1 r C L (G.mid c):=E3.set (ld:=G.ld) (cp:=G.cp) (op:=G.op) (nx:=G.nx) (la:=c.1) c4 u4;have s4:sz r=sz h3:=z4;have bp:L.eb<sz h:=ZbX S.hT S.eT;have J:∀j,sz h<=j->¬j=L.eb:=λj d=>by omega
  have x4:obj r (sz h)=_:=(u4.old _ (Zp x3) (J _ (Aqo _))).trans x3;have y4:obj r (sz h1)=_:=(u4.old _ (Zp y3) (J _ (by omega))).trans y3;have G4:GrG T C h r:=G3.trans (GrG.one (Y9 E3.eT) u4) S.hT;refine rI (Zb x4 rfl) (rS (Zb x4 rfl) (rS (Zb x4 rfl) (rS (Zb x4 rfl) (rB (Zb x4 rfl) (rI (Zb x4 rfl) (rL (s:=sl) (Zb x4 rfl) (ZH λh5 c5 e5 z5=>?_)))))));have x5:=Zj x4 e5;have y5:=Zj y4 e5;have s5:sz h5=sz r+1:=z5;refine⟨⟨Zb x5 rfl,Zb x5 rfl,Zb x5 rfl,Zb x5 rfl,Zb x5 rfl,Zb x5 rfl,Zb x5 rfl,trivial⟩,?_⟩;have w5:obj h5 (sz r)=some (Zu2 L.eb (cl c sl) gr nl nl 0):=c5;have E5:=E4.ext e5;have az:∀j,C j≠none->j<sz r:=E4.hT;have hb:∀j,C j≠none->j<sz r/\j≠sz r:=λj d=>by have:=az j d;omega
  have bq:Row h5 sl 1 (al.map .string):=by
    have a3:Row h3 sl 1 (al.map .string):=(ha.ext ak).congr λb o l aA A=>by
      obtain⟨b1,b2⟩:=ay (λi=>aA (by rw[i];rfl)) b (by simp[Sl.blk,l]);exact g3.old (show b<sz U by omega) b2
    exact (a3.congr (h':=r) λb o l aA A=>u4.old b A λe=>by
      obtain⟨b1,b2⟩:=ay (λi=>aA (by rw[i];rfl)) b (by simp[Sl.blk,l]);have e':b=L.eb:=e;rw[e',S.eT]at b2
      cases b2).ext e5
  refine ZGA (al:=al) E5 ok.mid hb (by omega) w5 bq (λne b l=>by have:=(ay ne b l).1;omega) λh6 x hx u6 hW=>?_;have s6:sz h5<=sz h6:=u6.size;have bt:C (sz r)=none:=Classical.byContradiction λi=>by have:=az _ i;omega
  have E6:=E5.frame u6 λj d=>by rw[show j=sz r from d];exact bt
  have x6:obj h6 (sz h)=_:=(u6.old _ (Zp x5) (show ¬sz h=sz r by omega)).trans x5;have y6:obj h6 (sz h1)=_:=(u6.old _ (Zp y5) (show ¬sz h1=sz r by omega)).trans y5;have G6:GrG T C h h6:=(G4.then e5).new u6 λj d=>by have e':j=sz r:=d;omega
  refine ZH λh7 c7 e7 z7=>Zaw c7 λM c8 u8 z8=>Zd ?_;have Y:Ext h6 M:=e7.then u8 λk Q=>by subst Q;exact Aqo _
  have E8:=E6.ext Y;have x8:=Zj x6 Y;have y8:=Zj y6 Y;have s7:sz h7=sz h6+1:=z7;have s8:sz M=sz h7:=z8;have G8:GrG T C h M:=G6.then Y
  have aO:∀j,sz h3<=j->C j=none:=λj d=>Classical.byContradiction λi=>by have:=az j i;omega
  rw[hx]at Q;obtain⟨o,tks,wt⟩:=x
  cases o with
  | some ki=>
    obtain⟨kk,ii⟩:=ki;dsimp only at Q c8;refine Zn rfl (Zg (rP (Zb E8.cells rfl) (rI (Zb x8 rfl) (rS (Zb x8 rfl) (rS (Zb x8 rfl) (rS (Zb x8 rfl) (rB (Zb x8 rfl) (rI (Zb x8 rfl) (rL (s:=sl) (Zb x8 rfl) (?_))))))))));refine Ztq (c:=cl c sl) E8.tree (λj d=>ZbX E8.hT d) aJ λer i O9 t9 V g9=>Za ?_;have E9:Zb1 i (ZhZ C (.p L.tb) (sz M) (sz i)) L ((G.mid c).blocked c):=E8.tree' t9 V g9;have s9:sz M<=sz i:=V.size;have G9:GrG T (ZhZ C (.p L.tb) (sz M) (sz i)) h i:=G8.trans (GrG.tag E8.hT V (λj d=>Y9 d) (Aqo _)) S.hT
    have N:∀j,C j=none->¬inT C L.tb j:=λj d i=>by
      have Z:C j=some (.p L.tb):=i;rw[d]at Z;cases Z
    have c9:obj i (sz h6)=_:=(V.old _ (Zp c8) (N (sz h6) (aO (sz h6) (show sz h3<=sz h6 by omega)))).trans c8;have y9:obj i (sz h1)=_:=(V.old _ (Zp y8) (N _ (I _ (by omega) (by omega)))).trans y8;refine rI (Zb c9 rfl) (rI (Zb c9 rfl) (rI (Zb c9 rfl) (Zaw y9 λF W H aP=>Za (rI (Zb W rfl) (rI (Zb W rfl) (rI (Zb W rfl) (Q F _ L (E9.frame H λj d=>?_) rfl (G9.new H λj d=>?_))))))))
    ·rw[show j=sz h1 from d];unfold ZhZ;rw[if_neg (by omega)];exact I _ (by omega) (by omega)
    ·have e':j=sz h1:=d;omega
  |none=>
  dsimp only at Q c8 hW;obtain⟨t',cL,W6,hl⟩:=hW rfl;have W8:=W6.ext Y;have bz:∀j,C j≠none->j<sz h5/\j≠sz r:=λj d=>by have:=hb j d;omega
  refine Zi rfl (rL (s:=t') (Zb W8.w rfl) ?_);refine ZDp (tks:=tks) E8 ok.mid bz W8 hl (λtk bA=>?_) λhh T' D v R=>?_
  ·have:=ZDX (G:=G.mid c) (c:=c) (al:=al) (gr:=gr) tk (by rw[hx];exact bA);exact this
  have aQ:GOK (ZfS c (G.mid c,[]) tks).1:=GOK.runs (x:=(G.mid c,[])) ok.mid;generalize ZfS c (G.mid c,[]) tks=y at R Q aQ;obtain⟨G2,pr⟩:=y;dsimp only at R Q aQ;have GR:GrG T T' h hh:=G8.run R S.hT (by omega);have sR:sz M<=sz hh:=R.u.size;have aa:∀{j:Nat} {xx:Obj},obj M j=some xx->C j=none->j≠sz r->obj hh j=some xx:=λ{j xx} aR h1 U=>(R.u.old j (Zp aR) λe=>e.elim (λe=>e h1) U).trans aR;have xR:=aa x8 (I _ (Aqo _) (by omega)) (show sz h≠sz r by omega);have yR:=aa y8 (I _ (by omega) (by omega)) (show sz h1≠sz r by omega);have aS:D.eb=L.eb:=R.ls.eb
  have aT:∀j,sz h<=j->j<sz M->C j=none->T' j=none:=λj h1 U h3=>Classical.byContradiction λi=>by
    rcases R.n j i with g|g
    ·exact g h3
    ·omega
  have tx:T' (sz h)=none:=aT _ (Aqo _) (by omega) (I _ (Aqo _) (by omega));have ty:T' (sz h1)=none:=aT _ (by omega) (by omega) (I _ (by omega) (by omega));have ER:=R.E;rw[<-aS]at J bp⊢;refine Zg (rP (Zb ER.cells rfl) (rI (Zb xR rfl) (rS (Zb xR rfl) (rS (Zb xR rfl) (rS (Zb xR rfl) (rB (Zb xR rfl) (rI (Zb xR rfl) (rL (s:=sl) (Zb xR rfl) (?_)))))))));refine ZvW (c:=cl c sl) ER.tree (λj d=>ZbX ER.hT d) aJ λer i O9 t9 V g9=>?_;have E9:Zb1 i (ZhZ T' (.p D.tb) (sz hh) (sz i)) D {G2 with t:=G2.t.passed (cl c nl)}:=ER.tree' t9 V g9;have s9:sz hh<=sz i:=V.size;have G9:GrG T (ZhZ T' (.p D.tb) (sz hh) (sz i)) h i:=GR.trans (GrG.tag ER.hT V (λj d=>Y9 d) (Aqo _)) S.hT
  have N:∀j,T' j=none->¬inT T' D.tb j:=λj d i=>by
    have Z:T' j=some (.p D.tb):=i;rw[d]at Z;cases Z
  have ae:∀j,j<sz hh->T' j=none->ZhZ T' (.p D.tb) (sz hh) (sz i) j=none:=λj h1 U=>by unfold ZhZ;rw[if_neg (by omega)];exact U
  have x9:obj i (sz h)=_:=(V.old _ (Zp xR) (N _ tx)).trans xR;have y9:obj i (sz h1)=_:=(V.old _ (Zp yR) (N _ ty)).trans yR;have w9:obj i (sz r)=_:=(V.old _ (Zp R.w) (N _ R.tw')).trans R.w;have o9:Own i (sz M) v 1 (pr.map iv):=R.o.congr λb l A _=>V.old b A (N _ (R.ot b l));have p9:∀b,v.blk=some b->ZhZ T' (.p D.tb) (sz hh) (sz i) b=none/\sz h<=b:=λb l=>⟨ae b (R.o.lt l).2 (R.ot b l),by have:=(R.o.lt l).1;omega⟩;generalize ZhZ T' (.p D.tb) (sz hh) (sz i)=T9 at E9 G9 ae p9;refine Zbs x9 (show 0+6<7 by decide) rfl λF W H aP=>Zg ?_;have bD:T9 (sz h)=none:=ae _ (by omega) tx;have af:=E9.frame H λj d=>by rw[show j=sz h from d];exact bD
  have bE:GrG T T9 h F:=G9.new H λj d=>by rw[show j=sz h from d];exact Aqo _
  have cQ:sz F=sz i:=aP;have aV:obj F (sz h1)=_:=(H.old _ (Zp y9) (show ¬sz h1=sz h by omega)).trans y9;have aW:obj F (sz r)=_:=(H.old _ (Zp w9) (show ¬sz r=sz h by omega)).trans w9;have bF:Own F (sz M) v 1 (pr.map iv):=o9.congr λb l A aB=>H.old b A λe=>by have e':b=sz h:=e;have:sz M<=b:=aB;omega
  refine rI (Zb af.cells rfl) (Za (Zg (rI (Zb af.cells rfl) (Zg (Zbs af.cells (show 0+17<19 by decide) rfl λcR aX bG cS=>Zg (rI (Zb aX rfl) (Zg (Zbs aX (show 0+16<19 by decide) rfl λO bH bI cU=>Zg ?_))))))));have B:Upd (· = D.eb) F O:=bG.trans bI;have aY:=af.set (ld:=G2.ld) (cp:=G2.cp) (op:=IntKind.wrap .i64 (G2.op+1)) (nx:=IntKind.wrap .i64 (G2.nx+1)) (la:=G2.la) bH B;have bJ:GrG T T9 h O:=bE.trans (GrG.one (Y9 af.eT) B) S.hT;have P:obj O (sz h)=_:=(B.old _ (Zp W) (J _ (Aqo _))).trans W;have aZ:obj O (sz h1)=_:=(B.old _ (Zp aV) (J _ (by omega))).trans aV;have aC:obj O (sz r)=_:=(B.old _ (Zp aW) (J _ (by omega))).trans aW;have aD:Own O (sz M) v 1 (pr.map iv):=bF.congr λb l A aB=>B.old b A (J _ (by have:sz M<=b:=aB;omega));have hp:=λb l=>(p9 b l).1;have z:=aY.keep (T':=tagS T9 v) (λj t _ _=>rfl) (Zij hp) (Aqo _) λj d=>(Zik d).elim (aY.hT j) λe=>(aD.lt e).2;have ba:GrG T (tagS T9 v) h O:=bJ.tagS p9;obtain⟨f,n,hI⟩:=z.ent;have cW:=ZbX S.hT S.fT;refine rM (Zb z.cells rfl) (rI (Zb P rfl) (rS (Zb P rfl) (rS (Zb P rfl) (rS (Zb P rfl) (rB (Zb P rfl) (rI (Zb P rfl) (rL (s:=nl) (Zb P rfl) (rL (s:=v) (Zb aC rfl) ?_))))))));refine hI.m.put G2.nx _ λaq bK X cX=>Za ?_
  have bb:∀j,T9 j=none->v.blk≠some j->¬j=D.fm:=λj h1 U e=>by
    have:=z.fT;rw[<-e]at this;unfold tagS at this;rw[if_neg U,h1]at this;cases this
  have aE:∀j,j<sz M->v.blk≠some j:=λj d e=>by have:=(aD.lt e).1;omega
  have bL:T9 (sz r)=none:=ae _ (by omega) R.tw';have bc:T9 (sz h1)=none:=ae _ (by omega) ty;have bf:EnR aq (tagS T9 v) D.fm (upd G2.en G2.nx (some ⟨cl c nl,false,pr⟩)):=EnR.put (e:=⟨cl c nl,false,pr⟩) (s:=v) hI bK X z.fT ((aD.congr λb l A _=>X.old b A λe=>?_).row) ZpW
  ·have bM:=z.mapped bf X;have bN:obj aq (sz h1)=_:=(X.old _ (Zp aZ) (bb _ bc (aE _ (by omega)))).trans aZ;have bO:obj aq (sz r)=_:=(X.old _ (Zp aC) (bb _ bL (aE _ (by omega)))).trans aC;have bP:GrG T (tagS T9 v) h aq:=ba.trans (GrG.one (Y9 z.fT) X) S.hT;refine rI (Zb bO rfl) (Zaw bN λbQ aF bg cY=>Za (rI (Zb aF rfl) (rI (Zb aF rfl) (rI (Zb aF rfl) (Q bQ _ D (bM.frame bg λj d=>?_) aS (bP.new bg λj d=>?_))))))
   ·rw[show j=sz h1 from d];unfold tagS;rw[if_neg (aE _ (by omega))];exact bc
   ·have e':j=sz h1:=d;omega
  ·have e':b=D.fm:=e;have:=z.fT;rw[<-e']at this;unfold tagS at this;rw[if_pos l]at this;cases this
end
theorem ZvK{h:Zf}{s:Sl}{l:List Int}{v:Int}(hs:Row h s 1 (l.map iv)){K:Bool->Zf->Prop}(e:K (decide (v∈l)) h):Y2 s v K h:=by
  unfold Y2 ZaF ZbA ZbI;have sl:s.len=l.length:=by have:=hs.len;simp at this;omega
  have big:=hs.big;have cap:=hs.cap;refine Za (ZaE (λ(p:Int×Unit) j=>∃i:Nat,p=((i:Int),())/\i<=l.length/\j=h/\v∉l.take i) (λp _=>((l.length:Int)- p.1).toNat) ⟨0,rfl,Aye _,rfl,by simp⟩ ?_);rintro _ j ⟨i,rfl,m,f,a⟩ Q r;subst f;dsimp only;refine Zo (λq=>?_) λq=>?_
  ·have hi:i<l.length:=by omega
   have c:l[i]?=some l[i]:=Axy hi;generalize l[i]=x at c;refine Za (hs.idx (i:=(i:Int)) (n:=i) rfl (v:=iv x) (by rw[Awy,c];rfl) λb o _ t=>⟨x,t,Z0 (λg=>Za (Zd ?_)) λg=>?_⟩)
   ·have hm:v∈l:=by rw[g];exact Axo c
    rw[decide_eq_true hm]at e;rwa[show decide ((i:Int)>=0)=true by simp]
   ·rw [Yj (by omega) (by omega)];refine r _ _ ⟨i+1,by simp,hi,rfl,λk=>?_⟩ (by show((l.length:Int)- ((i:Int)+1)).toNat<((l.length:Int)- ((i:Nat):Int)).toNat;omega);rw[Ayk,c]at k
    rcases Axx.1 k with d|d
    ·exact a d
    ·simp at d;exact g d
  ·have:l.take i=l:=Awd (by omega);rw[this]at a;rw[decide_eq_false a]at e;exact Za (Zd e)
section
variable{h:Zf}{T:TgM}{L:Lay}{G:GS}
theorem ZHi(w:Zb1 h T L G)(ok:GOK G){number at_:Int}{failed:Bool}{K:Int->Zf->Prop}
    (d:∀h' T' y,Zb1 h' T' y (G.exit number at_ failed).2->y.eb=L.eb->GrG T T' h h'->K (G.exit number at_ failed).1 h'):Zbz (some ⟨L.eb,0,none⟩) number at_ failed K h:=by
  unfold Zbz Zd9;obtain⟨f,n,hI⟩:=w.ent;refine Za (Zi rfl (Zg (rM (Zb w.cells rfl) (hI.m.get number ?_))));unfold GS.exit at d
  rcases hI.e number with⟨a1,a2⟩ |⟨e,s,a1,a2,a3,a4⟩
  ·rw [a1]at d
   rw[a2];refine⟨(0,em,em,em,false,0,nl,false,nl,()),rfl,ZH λh1 c1 e1 z1=>Zaw c1 λC c2 u2 z2=>Zd (Zd (Zn rfl (Za ?_)))⟩;have N:Ext h C:=e1.then u2 λk d=>by subst d;exact Aqo _
   exact d C T L (w.ext N) rfl (GrG.ext N)
  rw[a1]at d;rw[a2];dsimp only at d;have hz:=ok.en number e a1;refine⟨(e.c.1,e.c.2.1,e.c.2.2.1,e.c.2.2.2.1,e.c.2.2.2.2.1,e.c.2.2.2.2.2.1,nl,e.ov,s,()),rfl,ZH λh1 c1 e1 z1=>Zaw c1 λC c2 u2 z2=>Zd (Zd (Zi rfl (rB (Zb c2 rfl) (Zd ⟨λq1=>Za ?_,λq1=>?_⟩))))⟩
  all_goals have N:Ext h C:=e1.then u2 λk d=>by subst d;exact Aqo _
  all_goals have Y:=w.ext N
  ·rw[if_pos (show e.ov=true from q1)]at d;exact d C T L Y rfl (GrG.ext N)
  rw[if_neg (by rw[show e.ov=false from q1];decide)]at d;refine Zo (λq2=>Za ?_) λq2=>Zd (Zo (λq3=>Za ?_) λq3=>Zg (rI (Zb Y.cells rfl) (Zd (Zo (λq4=>Za ?_) λq4=>?_))))
  ·rw[if_pos q2]at d;exact d C T L Y rfl (GrG.ext N)
  ·rw[if_neg q2,if_pos q3]at d;exact d C T L Y rfl (GrG.ext N)
  ·rw[if_neg q2,if_neg q3,if_pos q4]at d;exact d C T L Y rfl (GrG.ext N)
  rw[if_neg q2,if_neg q3,if_neg q4]at d;have bt:L.eb<sz h:=ZbX w.hT w.eT;have bu:L.fm<sz h:=ZbX w.hT w.fT;have Tn:∀j,sz h<=j->T j=none:=λj u=>Classical.byContradiction λJ=>by have:=w.hT j J;omega
  have w1:sz h1=sz h+1:=z1;have w2:sz C=sz h1:=z2;refine Zg (Zbs Y.cells (show 0+18<19 by decide) rfl λh3 c3 u3 z3=>Zg ?_);have E3:=Y.set (ld:=G.ld) (cp:=G.cp) (op:=G.op) (nx:=G.nx) (la:=at_) c3 u3;have G3:GrG T T h h3:=(GrG.ext N).trans (GrG.one (Y9 Y.eT) u3) w.hT;have x3:obj h3 (sz h)=_:=(u3.old (sz h) (Zp c2) (show ¬sz h=L.eb by omega)).trans c2;obtain⟨f3,n3,al⟩:=E3.ent;refine rM (Zb E3.cells rfl) (al.m.put number _ λO m4 u4 z4=>Zg ?_);have aO:EnR O T L.fm (upd G.en number (some ⟨zC,true,[]⟩)):=EnR.put (e:=⟨zC,true,[]⟩) (s:=nl) al m4 u4 E3.fT (Row.nil _ _) λJ=>absurd rfl J;have E4:=E3.mapped aO u4;have G4:=G3.trans (GrG.one (Y9 E3.fT) u4) w.hT;have x4:obj O (sz h)=_:=(u4.old (sz h) (Zp x3) (show ¬sz h=L.fm by omega)).trans x3;refine rI (Zb E4.cells rfl) (Zg (Zbs E4.cells (show 0+16<19 by decide) rfl λZ c5 u5 z5=>?_));have E5:=E4.set (ld:=G.ld) (cp:=G.cp) (op:=IntKind.wrap .i64 (G.op- 1)) (nx:=G.nx) (la:=at_) c5 u5;have G5:=G4.trans (GrG.one (Y9 E4.eT) u5) w.hT;have x5:obj Z (sz h)=_:=(u5.old (sz h) (Zp x4) (show ¬sz h=L.eb by omega)).trans x4;refine rI (Zb x5 rfl) (Za (Zbs x5 (show 0<9 by decide) rfl λP R u6 z6=>Zg ?_));have E6:=E5.frame u6 λj u=>by rw[show j=sz h from u];exact Tn _ (Aqo _)
  have G6:=G5.new u6 λj u=>by rw[show j=sz h from u];exact Aqo _
  refine rP (Zb E6.cells rfl) (rI (Zb R rfl) (rS (Zb R rfl) (rS (Zb R rfl) (rS (Zb R rfl) (rB (Zb R rfl) (rI (Zb R rfl) (rL (s:=nl) (Zb R rfl) ?_)))))));refine ZvX (c:=Zlm e.c at_) E6.tree (λj u=>ZbX E6.hT u) ⟨hz.a,hz.b,hz.c⟩ λE t7 u7=>Zg ?_;have M:Zb1 E (ZhZ T (.p L.tb) (sz P) (sz E)) L (G.over number at_ failed e):=E6.tree' t7 u7 ⟨λj u=>.inl u,λj u=>u⟩;have G7:=G6.trans (GrG.tag (t:=.p L.tb) (lo:=sz P) (hi:=sz E) E6.hT u7 (λj u=>Y9 u) (Aqo _)) w.hT
  have x7:obj E (sz h)=_:=(u7.old (sz h) (Zp R) λJ=>by
    have D:T (sz h)=some (.p L.tb):=J
    rw[Tn _ (Aqo _)]at D;cases D).trans R
  have aR:∀b,T b=some .ro->obj E b=obj h b:=λb v=>by
    have lb:=ZbX w.hT v;have aq:b≠L.eb:=λe9=>by rw[e9,w.eT]at v;cases v
    have aS:b≠L.fm:=λe9=>by rw[e9,w.fT]at v;cases v
    have l2:b<sz C:=by omega
    refine(u7.old b (show b<sz P by have:sz P=sz Z:=z6;have:sz Z=sz O:=z5;have:sz O=sz h3:=z4;have:sz h3=sz C:=z3;omega) λJ=>?_).trans ((u6.old b (show b<sz Z by have:sz Z=sz O:=z5;have:sz O=sz h3:=z4;have:sz h3=sz C:=z3;omega) (show ¬b=sz h by omega)).trans ((u5.old b (show b<sz O by have:sz O=sz h3:=z4;have:sz h3=sz C:=z3;omega) aq).trans ((u4.old b (show b<sz h3 by have:sz h3=sz C:=z3;omega) aS).trans ((u3.old b l2 aq).trans (ZB N lb)))));have D:T b=some (.p L.tb):=J;rw[v]at D;cases D
  have bF:sz P=sz C:=by have:sz P=sz Z:=z6;have:sz Z=sz O:=z5;have:sz O=sz h3:=z4;have:sz h3=sz C:=z3;omega
  have au:ZhZ T (.p L.tb) (sz P) (sz E) (sz h)=none:=by
    unfold ZhZ;rw[if_neg (by omega)];exact Tn _ (Aqo _)
  generalize ZhZ T (.p L.tb) (sz P) (sz E)=T7 at M G7 au;have av:GOK (G.over number at_ failed e):=ok.over;refine rL (s:=L.z.1) (Zb M.cells rfl) (rL (s:=L.z.2.1) (Zb M.cells rfl) (rL (s:=L.z.2.2.1) (Zb M.cells rfl) (rL (s:=L.z.2.2.2.1) (Zb M.cells rfl) (rL (s:=L.z.2.2.2.2.1) (Zb M.cells rfl) (rS (Zb x7 rfl) ?_)))));refine ZOu M.rz (λb aw=>ZbX M.hT aw) av.good.s λh8 t8 e8 o8=>?_
  refine ZnB (KL:=ofK G.r 2 e.c.2.1) (kt:=t8) (body:=λbH t61 S Q=>Zc t61 λi=>Ze (some ⟨L.eb,0,none⟩) λaU aV=>ldL S aU (aV+8+1) λt64=>YI t64.ptr t64.len i 2 λax ay=>ldP S ax ay λt67=>ldI S ax (ay+1) .i64 λt68=>
    newC S [.pointer none,iv 0] 123 λU aW=>sts aW U 0 [.pointer t67,iv t68] λV=>ldP V U 0 λt72=>ldL V (sz h) (0+8) λt73=>ldI V U (0+1) .i64 λt74=>
    Y2 t73 t74 (λt75 az=>Zu (Zm az [(U,0,.pointer t72)])<|Xz t72 at_ (IntKind.wrap .i64 (at_-e.c.1)) failed t75 (λt77 aX=>Q aX) az) V)
    (λm I=>∃T' y F,Zb1 I T' y F/\GOK F/\F.r=G.r/\y.eb=L.eb/\GrG T7 T' h8 I/\((ofK G.r 2 e.c.2.1).drop m).foldl (Zel at_ (IntKind.wrap .i64 (at_-e.c.1)) failed e.pr) F=(ofK G.r 2 e.c.2.1).foldl (Zel at_ (IntKind.wrap .i64 (at_-e.c.1)) failed e.pr) (G.over number at_ failed e)/\(∀b,T b=some .ro->obj I b=obj h b)/\(∀b,T b=some .ro->T' b=some .ro))
    (by have:=ZBA ok.good.s 2 e.c.2.1;omega) (λm I ⟨T',y,F,W,_,_,_,g',_⟩=>?_) ⟨T7,L,_,M.ext e8,av,rfl,rfl,GrG.refl _ _,rfl,λb v=>?_,λb v=>G7.s.to v⟩ ?_ ?_
  ·refine (o8.congr (h':=I) λb aw aY aZ=>g'.old aY ?_).row
   exact Classical.byContradiction λJ=>by
     have aa:b<sz E:=M.hT b J;have:sz E<=b:=aZ;omega
  ·have l7:b<sz E:=by have:=ZbX w.hT v;have:sz P<=sz E:=u7.size;omega
   exact(ZB e8 l7).trans (aR b v)
  ·rintro m k I Q ae ⟨T',y,F,W,af,ag,X,g',q,aA,A⟩ hQ
   obtain⟨j,fb,u,hf⟩:=Zku (show k∈ofL (λf:YN=>Zx f.res) e.c.2.1 G.r.br 0 from Axo ae);rw[Awb]at u;subst u;obtain⟨B,hB⟩:∃B,F.br[j]?=some B:=⟨_,Axy (by rw[af.lb,ag];exact Zbn hf)⟩;obtain⟨p,hL⟩:=W.gb hB;have cE:obj I L.eb=some (geO F y.sb y.tb y.fm y.z y.f1 y.b1 y.h1):=by rw[<-X];exact W.cells
   have xh:obj I (sz h)=_:=(g'.old (show sz h<sz h8 by have:sz E<=sz h8:=e8.size;have:sz P<=sz E:=u7.size;omega) au).trans (Zj x7 e8);obtain⟨b,o,_,_,aB,hc⟩:=Za5 (g:=λx:Nat×BkW=>bkL x.1 x.2.2) (n:=2) (λ_=>rfl) W.br.r hL (by decide);refine Za (Zg (rL (s:=y.b1) (Zb cE rfl) (aB rfl (rP (hc 0 _ rfl) (rI (hc 1 _ rfl) (ZH λg1 k1 d1 y1=>Zaw k1 λg2 k2 v2 y2=>rP (Zb k2 rfl) (rL (s:=s) (Zb (Zj xh (d1.then v2 λk d=>by subst d;exact Aqo _)) rfl) (rI (Zb k2 rfl) (ZvK (l:=e.pr) ?_ ⟨ZR (Zb k2 rfl),?_⟩)))))))))
   ·have d2:Ext I g2:=d1.then v2 λk d=>by subst d;exact Aqo _
    refine Rw.Zhn a3 a4 λb v hl=>(ZB d2 ?_).trans (aA b v);exact ZbX W.hT (A b v)
   have d2:Ext I g2:=d1.then v2 λk d=>by subst d;exact Aqo _
   have H:=W.ext d2;refine Zv6 (H.br.e j _ hL) (λj u=>ZbX H.hT u) λJ O9 k9 u9 g9=>?_;have E9:=H.setB (B':=⟨B.1.1.done B.1.2 at_ (IntKind.wrap .i64 (at_-e.c.1)) failed (decide (B.2∈e.pr)),by rw[Zuh];exact B.1.2⟩) hL k9 u9 g9
   have dk:Zel at_ (IntKind.wrap .i64 (at_-e.c.1)) failed e.pr F (j:Int)={F with br:=F.br.set j (⟨B.1.1.done B.1.2 at_ (IntKind.wrap .i64 (at_-e.c.1)) failed (decide (B.2∈e.pr)),by rw[Zuh];exact B.1.2⟩,B.2)}:=by
     unfold Zel;rw[Aqu,hB]
   have hm:=Zbn ae
   have hd:(ofK G.r 2 e.c.2.1).drop m=(j:Int)::(ofK G.r 2 e.c.2.1).drop (m+1):=by
     rw[Aym hm];congr 1;exact(Ayf.1 ae).2
   rw[hd,Awq,dk]at q;refine hQ J ⟨_,_,_,E9,af.setB,ag,X,(g'.then d2).trans (GrG.tag H.hT u9 (λj u=>Y9 u) (Aqo _)) (λj u=>Aqq (M.hT j u) e8.size),q,λb v=>?_,λb v=>?_⟩
   ·refine(u9.old b (ZbX H.hT (A b v)) λD=>?_).trans ((ZB d2 (ZbX W.hT (A b v))).trans (aA b v));have aa:T' b=some (.p p):=D;rw[A b v]at aa;cases aa
   ·exact(Zgt H.hT).to (A b v)
  ·rintro I ⟨T',y,F,W,af,ag,X,g',q,_,_⟩;rw[Ayo (Aqo _)]at q;have e9:F=_:=q;subst e9;exact Za (d I T' y W X ((G7.then e8).trans g' w.hT))
end
section
variable{h:Zf}{T:TgM}{L:Lay}{G:GS}
theorem ZEU{c:PC}{sl:Sl}{al:List ByteArray}(o:Zb1 h T L G)(ok:GOK G)(hz:Zic (cl c nl))(z:Row h sl 1 (al.map .string))(e:al≠[]->∀b,sl.blk=some b->b<sz h/\T b=none){K:Int->V4->Int->Zf->Prop}
    (p:∀h' T' q,Zb1 h' T' q (G.enter c al false).2->q.eb=L.eb->GrG T T' h h'->K (G.enter c al false).1.1 (G.enter c al false).1.2.1 (G.enter c al false).1.2.2 h'):Zba (some ⟨L.eb,0,none⟩) (cl c sl) K h:=by
  unfold Zba Zdu;refine ZH λh1 c1 A B=>Za (ZH λr C t D=>Za ?_);have a:=A.trans t;have d:=Zj c1 t;have s1:sz h1=sz h+1:=B;have s2:sz r=sz h1+1:=D;refine rI (Zb d rfl) (rS (Zb d rfl) (rS (Zb d rfl) (rS (Zb d rfl) (rB (Zb d rfl) (rI (Zb d rfl) (rL (s:=sl) (Zb d rfl) ?_))))));refine ZEV (o.ext a) ok hz (z.ext a) (λne b u=>⟨by have:=(e ne b u).1;omega,(e ne b u).2⟩) λh3 w E F eb f=>Za ?_;have x:T (sz h1)=none:=Classical.byContradiction λi=>by have:=o.hT _ i;omega
  have H:obj h3 (sz h1)=_:=(f.old (show sz h1<sz r by omega) x).trans C
  have k:w (sz h1)=none:=Classical.byContradiction λi=>by
    rcases f.n _ i with g|g
    ·exact g x
    ·omega
  generalize (G.enter c al false).1.2.1=v at p⊢;obtain⟨v1,v2,v3,v4⟩:=v;refine Zaw H λI l y z4=>Za (rI (Zb l rfl) (rI (Zb l rfl) (rI (Zb l rfl) (p I w E (F.frame y λj m=>by rw[show j=sz h1 from m];exact k) eb ((GrG.pre a f).new y λj m=>by have J:j=sz h1:=m;omega)))))
end
abbrev z6O:Obj:=.cells [iv 0,iv 0,iv 0,iv 0,iv 0,iv 0].toArray 52 (0,0)
abbrev c6O(c:C6):Obj:=.cells (c6L c).toArray 52 (0,0)
theorem ZEI(c:C6):(c6L c).length=6:=rfl
theorem ZG0(c:C6):(c6L c).all Zr=true:=by simp[c6L,Zdl]
theorem ZHb{h:Zf}{s:Sl}{a:C6}(C:Row h s 6 ([a].flatMap c6L))(H:Rt a){K:C6->Zf->Prop}(f:∀h',Ext h h'->K (ZfQ z6 a) h'):Zbw s K h:=by
  have hl:s.len=1:=by have:=C.len;simp[c6L]at this;omega
  unfold Zbw ZgE;refine ZH λh1 c1 I J=>ZH λL M D N=>?_;have w1:sz h1=sz h+1:=J;have X:sz L=sz h1+1:=N;refine ZaE (λp u=>∃i:Nat,p=((i:Int),())/\i<=1/\Ext h u/\obj u (sz h)=some z6O/\obj u (sz h1)=some (c6O (if i=0 then z6 else ZfQ z6 a))) (λp _=>(1-p.1).toNat) ⟨0,rfl,by omega,I.trans D,Zj c1 D,M⟩ ?_;rintro _ u ⟨i,rfl,hi,he,x,d⟩ Q O;dsimp only;rw[hl];have Y:=Zp d;have g0:=Zp x;refine Zo (λq=>?_) λq=>?_
  ·have y:i=0:=by omega
   subst y;rw[if_pos rfl]at d;obtain⟨b,o,Z,P,v,r⟩:=Za5 ZEI (C.ext he) (i:=0) rfl (by decide);have g:∀{K:Nat->Nat->Prop},K b o->YI s.ptr 1 ((0:Nat):Int) 6 K:=λ{K} z=>by have:=v (K:=K) (m:=((0:Nat):Int)) rfl z;rwa[hl]at this
   refine g (rI (r 0 _ rfl) (rI (r 1 _ rfl) (rI (r 2 _ rfl) (rI (r 3 _ rfl) (rI (r 4 _ rfl) (rI (r 5 _ rfl) (ZH λh3 e R z3=>Zaw e λS j T z4=>?_)))))));refine rI (Zb j rfl) (rI (Zb j rfl) (rI (Zb j rfl) (rI (Zb j rfl) (rI (Zb j rfl) (rI (Zb j rfl) ?_)))));have A:Ext u S:=R.then T λk f=>by subst f;exact Aqo _
   refine ZlM (c:=a) H λh5 E=>Zn rfl ?_;have w:=A.trans E;have l:=Zj d w;have t:=Zj j E;refine rI (Zb l rfl) (rI (Zb l rfl) (rI (Zb l rfl) (rI (Zb l rfl) (rI (Zb l rfl) (rI (Zb l rfl) ?_)))));refine rI (Zb t rfl) (rI (Zb t rfl) (rI (Zb t rfl) (rI (Zb t rfl) (rI (Zb t rfl) (rI (Zb t rfl) ?_)))));refine ZpU (a:=z6) (b:=a) λh6 F=>Zaw (Zj l F) λh7 U G z7=>?_;have n:=w.trans F;refine O _ _ ⟨1,rfl,by omega,(he.trans n).then G λk f=>by have V:k=sz h1:=f;show sz h<=k;omega,(G.old _ (Zp (Zj x n)) (show ¬sz h=sz h1 by omega)).trans (Zj x n),U⟩ (by decide)
  ·have B:i=1:=by omega
   subst B;refine rI (Zb d rfl) (rI (Zb d rfl) (rI (Zb d rfl) (rI (Zb d rfl) (rI (Zb d rfl) (rI (Zb d rfl) ?_)))));refine Zaw x λh3 e W z3=>rI (Zb e rfl) (rI (Zb e rfl) (rI (Zb e rfl) (rI (Zb e rfl) (rI (Zb e rfl) (rI (Zb e rfl) (f h3 (he.then W λk f=>by have V:k=sz h:=f;show sz h<=k;omega)))))))
theorem ZHd{h:Zf}{l:Sl}{s a G b mb:Nat}{n:Node}(D:Row h l 1 [.pointer (some ⟨s,0,none⟩)])(w:ZhC h s a G b mb n){at_:Int}(hw:ZO n.last at_=0)(hs:Rt (n.sum at_)){K:C6->Int->Int->Zf->Prop}(f:∀h',Ext h h'->K (ZfQ z6 (n.sum at_)) n.fl 0 h'):Ziu at_ l K h:=by
  have hl:l.len=1:=by have:=D.len;simp at this;omega
  have H:=w.fl;unfold Ziu ZkF;refine ZH λh1 c1 I J=>Za (Za (Za ?_));have w1:sz h1=sz h+1:=J;refine ZaE (λ(p:Sl×Int×Int×Unit) d=>∃i:Nat,p.2.2.1=(i:Int)/\Ext h d/\obj d (sz h)=some z6O/\((i=0/\p.1=⟨none,0,0⟩/\p.2.1=0)\/(i=1/\p.2.1=n.fl/\Own d (sz h1) p.1 6 ([n.sum at_].flatMap c6L)))) (λp _=>(1-p.2.2.1).toNat) ⟨0,rfl,I,c1,.inl ⟨rfl,rfl,rfl⟩⟩ ?_;rintro⟨cs,fl,X,u⟩ d ⟨i,m,he,x,c⟩ Q L;dsimp only at m c⊢;subst m;rw[hl];have g0:=Zp x
  rcases c with⟨rfl,rfl,rfl⟩ |⟨rfl,rfl,ho⟩
  ·refine Zn rfl ?_
   have q:∀{K:Nat->Nat->Prop},(∀b o,Zf.cell d b o=some (.pointer (some ⟨s,0,none⟩))->K b o)->YI l.ptr 1 ((0:Nat):Int) 1 K:=λ{K} y=>by
     have:=(D.ext he).idx (i:=((0:Nat):Int)) (n:=0) (v:=.pointer (some ⟨s,0,none⟩)) rfl rfl (K:=K) λb o _ M=>y b o M;rwa[hl]at this
   refine q λY N z=>⟨_,z,Zi rfl ?_⟩;refine Zr4 (w.ext he) λE t=>ZH λh3 e O z3=>Zaw e λP j R z4=>Za ?_;rw[hw];have A:Ext E P:=O.then R λk f=>by subst f;exact Aqo _
   refine Zi rfl (rI (Zb j rfl) (rI (Zb j rfl) (rI (Zb j rfl) (rI (Zb j rfl) (rI (Zb j rfl) (rI (Zb j rfl) (ZH λB S T z5=>(Zje S rfl).rd ?_)))))));have r:=(t.trans A).trans T;have Z:sz d<=sz B:=r.size;have wh:sz h1<=sz d:=by have:sz h<sz d:=g0;omega
   refine(Own.nil B (sz h1) 6).app (n:=1) (base:=sz h1) rfl (ZG0 (n.sum at_)) rfl (by decide) (by decide) (by show sz h1<=sz B;omega) λs' F U l6 V _=>?_;have g:Ext d F:=r.then V λk f=>by cases f
   have C:=w.ext (he.trans g);refine Zg (rI (Zb C.cells rfl) (Za ?_));rw[show(0:Int)+n.fl=n.fl by omega,Yj (by omega) (by omega)];refine L _ _ ⟨1,rfl,he.trans g,Zj x g,.inr ⟨rfl,rfl,?_⟩⟩ (by show(1-IntKind.wrap .i64 (((0:Nat):Int)+1)).toNat<(1-((0:Nat):Int)).toNat;decide);show Own F (sz h1) s' 6 (c6L (n.sum at_)++[]);rw[Ayr];exact U
  ·refine Zi rfl (ZHb ho.row hs λE t=>Zaw (Zj x t) λh3 e W z3=>Za (Za ?_));exact rI (Zb e rfl) (rI (Zb e rfl) (rI (Zb e rfl) (rI (Zb e rfl) (rI (Zb e rfl) (rI (Zb e rfl) (f h3 ((he.trans t).then W λk f=>by subst f;exact Aqo _)))))))
theorem ZNY{h:Zf}{tb:Nat}{O:Nat->Prop}{t:Tree}(R:Zak h tb O t){k:K4}{s:Sl}(hs:Row h s 4 ([k].flatMap k4L)){n:Node}(S:t.f k=some n){at_:Int}(h0:0<=at_/\at_<=1152921504606846976)(hl:t.last<=at_)(hw:ZO n.last at_=0)(V:Rt (n.sum at_))
    {K:C6->Int->Int->Zf->Prop} (v:∀h',Ext h h'->K (ZfQ z6 (n.sum at_)) n.fl 0 h'):ZcE (some ⟨tb,0,none⟩) at_ s K h:=by
  have y:s.len=1:=by have:=hs.len;simp[k4L]at this;omega
  unfold ZcE Zg1;refine ZH λh1 c1 T W=>Za (Za (Zd (Zi rfl (ZjV ?_))));have w1:sz h1=sz h+1:=W;have I:inB at_ 0 1152921504606846976=true:=by unfold inB;simp;omega
  rw[I];refine Zd (Zi rfl (Zg (rI (R.ext T).last (Zd (Zi (by simpa using hl) ?_)))))
  obtain ⟨q,U⟩:∃q,∀d,Ext h d->∃mb,ZA 0 (obj d tb)=some (.map (some mb))/\Zfx d q n/\∀K:Option Value->Prop,K (some (.pointer (some ⟨q+4,0,none⟩)))->Za1 [(.int .u8),.string,.string,.string] d (some mb) (k4L k) K:=by
    obtain⟨mb,base,ks,A,hi,ho⟩:=R
    rcases hi.node k with⟨_,b⟩ |⟨q,n',a,b,c⟩
    ·rw[S]at b;cases b
    ·rw[S]at b;cases b;refine⟨q,λd e=>?_⟩;obtain⟨m,hm⟩:=hi.map;have J:=hm.congr (ZB e hm.lt);exact⟨mb,Zb (Zj hi.cells e) rfl,c.ext e,λK X=>J.get k (by rw[a];exact X)⟩
  refine ZaE (λ(p:Sl×Int×Unit) d=>∃i:Nat,p.2.1=(i:Int)/\Ext h d/\obj d (sz h)=some z6O/\((i=0/\p.1=⟨none,0,0⟩)\/(i=1/\Own d (sz h1) p.1 1 [.pointer (some ⟨q+4,0,none⟩)]))) (λp _=>(1-p.2.1).toNat) ⟨0,rfl,T,c1,.inl ⟨rfl,rfl⟩⟩ ?_;rintro⟨l,i',u⟩ d ⟨i,z,he,L,j⟩ Q Y;dsimp only at z j⊢;subst z;rw[y];have g0:=Zp L
  rcases j with⟨rfl,rfl⟩ |⟨rfl,ho⟩
  ·obtain ⟨b,o,hb,Z,B,G⟩:=Za5 ZbF (hs.ext he) (i:=0) rfl (by decide)
   have w:∀{K:Nat->Nat->Prop},K b o->YI s.ptr 1 ((0:Nat):Int) 4 K:=λ{K} M=>by have:=B (K:=K) (m:=((0:Nat):Int)) rfl M;rwa[y]at this
   refine Zn rfl (w (rI (G 0 _ rfl) (rS (G 1 _ rfl) (rS (G 2 _ rfl) (rS (G 3 _ rfl) (ZH λh2 c2 H z2=>Zaw c2 λh3 g N z3=>?_))))));have C:Ext d h3:=H.then N λk v=>by subst v;exact Aqo _
   obtain⟨mb,x,D,r⟩:=U h3 (he.trans C);refine Zg (rM x (rI (Zb g rfl) (rS (Zb g rfl) (rS (Zb g rfl) (rS (Zb g rfl) (r _ ⟨_,rfl,Zi rfl ?_⟩))))));refine Zg (rM x (rI (Zb g rfl) (rS (Zb g rfl) (rS (Zb g rfl) (rS (Zb g rfl) (r _ ⟨_,rfl,ZH λP c4 e4 z4=>(Zje c4 rfl).rd ?_⟩))))));have E:=C.trans e4;have w4:sz d<=sz P:=E.size;have wh:sz h1<=sz d:=by have:sz h<sz d:=g0;omega
   refine(Own.nil P (sz h1) 1).app (n:=1) (base:=sz h1) rfl rfl rfl (by decide) (by decide) (by show sz h1<=sz P;omega) λs' h5 o5 l5 u5 _=>?_;have F:Ext d h5:=E.then u5 λk v=>by cases v
   exact Y _ _ ⟨1,rfl,he.trans F,Zj L F,.inr ⟨rfl,o5⟩⟩ (by show(1-IntKind.wrap .i64 (((0:Nat):Int)+1)).toNat<(1-((0:Nat):Int)).toNat;decide)
  ·obtain⟨mb,x,D,r⟩:=U d he;refine Zi rfl (ZHd ho.row D hw V λh2 H=>Zaw (Zj L H) λh3 g N z3=>Za (Za ?_));exact rI (Zb g rfl) (rI (Zb g rfl) (rI (Zb g rfl) (rI (Zb g rfl) (rI (Zb g rfl) (rI (Zb g rfl) (v h3 ((he.trans H).then N λk v=>by subst v;exact Aqo _)))))))
section
variable{h:Zf}{T:TgM}{L:Lay}{G:GS}
theorem ZBj(M:Zb1 h T L G){r:ByteArray}{n:Node}(P:G.t.f (kc r)=some n){at_:Int}(h0:0<=at_/\at_<=1152921504606846976)(hl:G.t.last<=at_)(z:G.la<=at_)(hw:ZO n.last at_=0)(R:Rt (n.sum at_))
    {K:C6->Int->Zf->Prop} (p:∀h',Ext h h'->K (ZfQ z6 (n.sum at_)) 0 h'):ZaW (some ⟨L.eb,0,none⟩) at_ r K h:=by
  unfold ZaW ZcR;refine ZH λh1 c1 A S=>Za (Zi rfl ?_);have w1:sz h1=sz h+1:=S;refine ZkM (λ(s:Option Addr×Int×Unit) d=>∃q,s=(some ⟨q,0,none⟩,0,())/\Ext h1 d/\obj d q=some (c6O (ZfQ z6 (n.sum at_)))) ?_ λQ N=>?_
  ·rintro _ O ⟨q,rfl,a,o⟩;dsimp only;have B:=(M.ext A).ext a;have U:=Zj c1 a;refine Zn rfl (Zg (rI (Zb B.cells rfl) (Zi (by simpa using z) (Zg ?_))));refine rI (Zb o rfl) (rI (Zb o rfl) (rI (Zb o rfl) (rI (Zb o rfl) (rI (Zb o rfl) (rI (Zb o rfl) (Zaw U λh3 j V z3=>Za ?_))))));exact rI (Zb j rfl) (rI (Zb j rfl) (rI (Zb j rfl) (rI (Zb j rfl) (rI (Zb j rfl) (rI (Zb j rfl) (p h3 ((A.trans a).then V λk p=>by subst p;exact Aqo _)))))))
  ·have u:=M.ext A;have hd:∀{d:Zf},Ext h1 d->Zm d [(L.eb,0+12,.pointer (some ⟨L.tb,0,none⟩))]:=λ{d} e=>ZR (Zb (u.ext e).cells rfl)
   have call:∀{d:Zf} {b:Nat},Ext h1 d->obj d b=some (k4O (kc r))->∀{C:C6->Int->Int->Zf->Prop},(∀h',Ext d h'->C (ZfQ z6 (n.sum at_)) n.fl 0 h')->ZcE (some ⟨L.tb,0,none⟩) at_ ⟨some ⟨b,0,none⟩,1,1⟩ C d:=λ{d b} e c {C} D=>
     ZNY (k:=kc r) (u.ext e).tree (by show Row d _ 4 (k4L (kc r)++[]);rw[Ayr];exact Zje c rfl) P h0 hl hw R D
   have w:∀{d:Zf},Ext h1 d->newC d [iv 0,iv 0,iv 0,iv 0,iv 0,iv 0] 52 λx E=>sts E x 0 [iv (ZfQ z6 (n.sum at_)).1,iv (ZfQ z6 (n.sum at_)).2.1,iv (ZfQ z6 (n.sum at_)).2.2.1,iv (ZfQ z6 (n.sum at_)).2.2.2.1,iv (ZfQ z6 (n.sum at_)).2.2.2.2.1,iv (ZfQ z6 (n.sum at_)).2.2.2.2.2.1] λv=>Q (some ⟨x,0,none⟩,0,()) v:=λ{d} e=>
     ZH λF W m z5=>Zaw W λX H I z6=>N _ _ ⟨_,rfl,(e.trans m).then I λk p=>by subst p;have:=e.size;exact this,H⟩
   have l:∀{d:Zf} {b:Nat},Ext h1 d->sz h1<=b->obj d b=some z6O->sts d b 0 [iv (ZfQ z6 (n.sum at_)).1,iv (ZfQ z6 (n.sum at_)).2.1,iv (ZfQ z6 (n.sum at_)).2.2.1,iv (ZfQ z6 (n.sum at_)).2.2.2.1,iv (ZfQ z6 (n.sum at_)).2.2.2.2.1,iv (ZfQ z6 (n.sum at_)).2.2.2.2.2.1] λv=>Q (some ⟨b,0,none⟩,0,()) v:=λ{d b} e Y c=>
     Zaw c λX H I z6=>N _ _ ⟨_,rfl,e.then I λk p=>by subst p;exact Y,H⟩
   refine Zg (rP (Zb u.cells rfl) ⟨Zhz λO a=>⟨hd a,⟨ZH λh3 j g z3=>⟨hd (a.trans g),⟨call (a.trans g) j λJ i=>w ((a.trans g).trans i),ZH λJ y i z4=>⟨hd ((a.trans g).trans i),call ((a.trans g).trans i) (Zj j i) λF m=>l (((a.trans g).trans i).trans m) ((a.trans g).size) (Zj y m)⟩⟩⟩,
     ZH λh3 j g z3=>⟨hd (a.trans g),ZH λJ y i z4=>⟨hd ((a.trans g).trans i),call ((a.trans g).trans i) y λF m=>l (((a.trans g).trans i).trans m) (a.size) (Zj (Zj j i) m)⟩⟩⟩⟩,
     ZH λO o a Z=>⟨hd a,Zhz λh3 g=>⟨hd (a.trans g),ZH λJ y i z4=>⟨hd ((a.trans g).trans i),call ((a.trans g).trans i) y λF m=>l (((a.trans g).trans i).trans m) (Aqo _) (Zj (Zj (Zj o g) i) m)⟩⟩⟩⟩)
theorem ZuD(a:Zb1 h T L G){r:ByteArray}{K:Int->Zf->Prop}(c:∀h',Ext h h'->K (oFl (G.t.f (kc r))) h'):ZaV (some ⟨L.eb,0,none⟩) r K h:=by unfold ZaV ZcQ;refine Za (Zi rfl (Zg (rP (Zb a.cells rfl) (Zhz λh1 b=>⟨ZR (Zb (a.ext b).cells rfl),Zma (k:=kc r) (a.ext b).tree λd p e f2=>ZhD f2 (Za (c d (b.trans e)))⟩))))
end
structure MpI(h:Zf)(m:Nat)(P:ByteArray->Int):Prop where
  m:∃f n,Zlw h m f n/\∀r,(f r).getD (iv 0)=iv (P r)
theorem MpI.lt{h:Zf}{m:Nat}{P:ByteArray->Int}(hm:MpI h m P):m<sz h:=by obtain⟨f,n,a,b⟩:=hm;exact a.lt
theorem MpI.congr{h h':Zf}{m:Nat}{P:ByteArray->Int}(hm:MpI h m P)(e:obj h' m=obj h m):MpI h' m P:=by obtain⟨f,n,a,b⟩:=hm;exact⟨f,n,a.congr e,b⟩
theorem MpI.get{h:Zf}{m:Nat}{P:ByteArray->Int}(hm:MpI h m P)(k:ByteArray){K:Int->Prop}(c:K (P k)):Zcm .string h (some m) (.string k) λr=>asI (r.getD (iv 0)) .i64 K:=by obtain⟨f,n,a,b⟩:=hm;exact a.get k ⟨P k,b k,c⟩
theorem MpI.put{h:Zf}{m:Nat}{P:ByteArray->Int}(hm:MpI h m P)(k:ByteArray)(v:Int){K:Zf->Prop}(c:∀h',MpI h' m (λr=>if r=k then v else P r)->Upd (· = m) h h'->sz h'=sz h->K h'):Zcl .string h (some m) (.string k) (iv v) K:=by
  obtain⟨f,n,a,b⟩:=hm;refine a.put k _ λh' d u z=>c h' ⟨_,_,d,λr=>?_⟩ u z
  by_cases q:r=k
  ·subst q;rw[Zh1,if_pos rfl];rfl
  ·rw[ZgN f _ q,if_neg q];exact b r
structure Mps(h:Zf)(T:TgM)(b0 m1 m2 m3 m4:Nat)(P B O:ByteArray->Int)(F:Int->Option Value):Prop where
  p:MpI h m1 P
  b:MpI h m2 B
  o:MpI h m3 O
  f:∃n,Zlv h m4 F n
  d:m1≠m2/\m1≠m3/\m1≠m4/\m2≠m3/\m2≠m4/\m3≠m4
  t:∀j,j=m1\/j=m2\/j=m3\/j=m4->T j=none/\b0<=j
section
variable{h h':Zf}{T T':TgM}{b0 m1 m2 m3 m4:Nat}{P B O:ByteArray->Int}{F:Int->Option Value}
theorem Mps.lt(hm:Mps h T b0 m1 m2 m3 m4 P B O F){j:Nat}(c:j=m1\/j=m2\/j=m3\/j=m4):j<sz h:=by
  rcases c with rfl|rfl|rfl|rfl
  ·exact hm.p.lt
  ·exact hm.b.lt
  ·exact hm.o.lt
  ·obtain⟨n,a⟩:=hm.f;exact a.lt
theorem Mps.keep(hm:Mps h T b0 m1 m2 m3 m4 P B O F)(c:∀j,j=m1\/j=m2\/j=m3\/j=m4->obj h' j=obj h j)(hT:∀j,j=m1\/j=m2\/j=m3\/j=m4->T' j=none):Mps h' T' b0 m1 m2 m3 m4 P B O F:=by obtain⟨n,a⟩:=hm.f;exact⟨hm.p.congr (c _ (.inl rfl)),hm.b.congr (c _ (.inr (.inl rfl))),hm.o.congr (c _ (.inr (.inr (.inl rfl)))),⟨n,a.congr (c _ (.inr (.inr (.inr rfl))))⟩,hm.d,λj e=>⟨hT j e,(hm.t j e).2⟩⟩
theorem Mps.ext(hm:Mps h T b0 m1 m2 m3 m4 P B O F)(e:Ext h h'):Mps h' T b0 m1 m2 m3 m4 P B O F:=hm.keep (λ_ a=>ZB e (hm.lt a)) λj a=>(hm.t j a).1
theorem Mps.gr(hm:Mps h T b0 m1 m2 m3 m4 P B O F)(g:GrG T T' h h'):Mps h' T' b0 m1 m2 m3 m4 P B O F:=hm.keep (λj a=>g.old (hm.lt a) (hm.t j a).1) λj a=>Classical.byContradiction λb=>by
  rcases g.n j b with q|q
  ·exact q (hm.t j a).1
  ·have:=hm.lt a;omega
end
abbrev ZqV:=PC×Sl×List ByteArray
abbrev ZvN(y:ZqV):List Value:=c8L (cl y.1 y.2.1)
theorem ZrX(y:ZqV):(ZvN y).length=7:=rfl
structure ZyN(h:Zf)(base:Nat)(y:ZqV):Prop where
  a:Row h y.2.1 1 (y.2.2.map .string)
  ab:Rw.inS (· < base) y.2.1
  zz:Zic (cl y.1 nl)
def atC(c:PC)(i:Int):PC:=(i,c.2)
abbrev opF(op:Ops):ByteArray->Int:=λr=>(Zjf op (kc r):Int)
theorem TE.mono{G:GS}{m a:Nat}{P B:ByteArray->Int}{op:Ops}(h:TE G m P B op)(hm:m<=a):TE G a P B op:=
  ⟨h.keys,h.tl,h.la,h.nodes,h.fl,by have:=h.len;omega,by have:=h.nx;omega,h.nd,h.ent,h.out,h.new,h.ok,h.has,h.cs,h.cn,λr=>by have:=h.bd r;omega⟩
structure SI(h0 hh:Zf)(eb m1 m2 m3 m4:Nat)(T:TgM)(L:Lay)(G:GS)(P B:ByteArray->Int)(op:Ops)(F:Int->Option Value)(i:Nat):Prop where
  e:Ext h0 hh
  eng:Zb1 hh T L G
  ok:GOK G
  te:TE G i P B op
  la:G.la<=i
  base:∀j,T j≠none->sz h0<=j
  eb:L.eb=eb
  mp:Mps hh T (sz h0) m1 m2 m3 m4 P B (opF op) F
  ff:∀p∈op,F p.1=some (.string p.2.2.1)
section
variable{h0 hh hx:Zf}{eb m1 m2 m3 m4:Nat}{T T':TgM}{L:Lay}{G:GS}{P B:ByteArray->Int}{op:Ops}{F:Int->Option Value}{i:Nat}
theorem SI.ext(s:SI h0 hh eb m1 m2 m3 m4 T L G P B op F i)(e:Ext hh hx):SI h0 hx eb m1 m2 m3 m4 T L G P B op F i:=⟨s.e.trans e,s.eng.ext e,s.ok,s.te,s.la,s.base,s.eb,s.mp.ext e,s.ff⟩
theorem SI.none(s:SI h0 hh eb m1 m2 m3 m4 T L G P B op F i){j:Nat}(b:j<sz h0\/sz hh<=j):T j=none:=Classical.byContradiction λa=>by
  have h1:=s.base j a;have c:=s.eng.hT j a;omega
end
structure SJ(h0 hh:Zf)(eb m1 m2 m3 m4 cb:Nat)(c:PC)(sl:Sl)(i:Nat)(T:TgM)(L:Lay)(G:GS)(P B:ByteArray->Int)(op:Ops)(F:Int->Option Value):Prop where
  s:SI h0 hh eb m1 m2 m3 m4 T L G P B op F (i+1)
  la:G.la=i
  nd:∃n,G.t.f (kc c.2.1)=some n
  cell:obj hh cb=some (ZnZ (cl (atC c i) sl))
  cT:T cb=none
  cm:cb≠m1/\cb≠m2/\cb≠m3/\cb≠m4
  cb:sz h0<=cb
theorem ZDo{n:Node}(h:Rt (n.s 0)):(ZfQ z6 (ZfQ z6 (n.s 0))).1=(n.s 0).1/\(ZfQ z6 (ZfQ z6 (n.s 0))).2.1=(n.s 0).2.1:=by
  have a:=h.p;have c:=h.b;have z:∀x:Int,0<=x/\x<=4611686018427387904->Zff 0 x=x:=λx hx=>by rw[Zcj (by omega) hx];omega
  refine⟨?_,?_⟩
  ·show Zff 0 (Zff 0 (n.s 0).1)=_;rw[z _ a,z _ a]
  ·show Zff 0 (Zff 0 (n.s 0).2.1)=_;rw[z _ c,z _ c]
theorem ZmI(P:ByteArray->Int)(r:ByteArray)(d:Int):(λs=>if s=r then P r+d else P s)=Zi4 P r d:=by
  funext s
  unfold Zi4
  by_cases q:s=r
  ·rw[if_pos q,if_pos q,q]
  ·rw[if_neg q,if_neg q]
section
variable{h:Zf}{T:TgM}{L:Lay}{G:GS}
theorem ZBh(d:Zb1 h T L G)(ok:GOK G){S:Nat->Prop}{f:Rw.VTR}{r:RulesP}(l:Rw.YY h S f r)(m:∀b,S b->b<sz h)(g:Rw.RulesP.fit r){K:Int->Zf->Prop}
    (i:∀e h' T' j a,Zb1 h' T' j a->GOK a->(a=G\/a=G.load r)->j.eb=L.eb->GrG T T' h h'->K e h'):Zap (some ⟨L.eb,0,none⟩) f K h:=
  ZHg d ok l m g (λn h3 o p q c s=>i 0 h3 o p _ q (GOK.load ok n g) (.inr rfl) c s) λe _ _ h3 k=>i e h3 T L G (d.ext k) ok (.inl rfl) rfl (GrG.ext k)
end
theorem ZDL(op:Ops)(k:Int)(c:PC):opF (op++[(k,cl c nl)])=Zi4 (opF op) c.2.1 1:=by
  funext r
  unfold opF Zi4;rw[Zhy];show((Zjf op (kc r)+((if kc r∈ZI (cl c nl)then 1 else 0)+0):Nat):Int)=_
  by_cases q:r=c.2.1
  ·rw[if_pos q,if_pos (Zjx.2 q)];rfl
  ·rw[if_neg q,if_neg (λa=>q (Zjx.1 a))];rfl
theorem ZDK(a b:Ops)(k:Int)(c:C8):opF (a++b)=Zi4 (opF (a++(k,c)::b)) c.2.1 (-1):=by
  funext r
  show((Zjf (a++b) (kc r):Nat):Int)=if r=c.2.1 then((Zjf (a++(k,c)::b) (kc r):Nat):Int) + -1 else((Zjf (a++(k,c)::b) (kc r):Nat):Int)
  rw[Zhy,Zhy];show _=if r=c.2.1 then((Zjf a (kc r)+((if kc r∈ZI c then 1 else 0)+Zjf b (kc r)):Nat):Int) + -1 else((Zjf a (kc r)+((if kc r∈ZI c then 1 else 0)+Zjf b (kc r)):Nat):Int)
  by_cases q:r=c.2.1
  ·rw[if_pos q,if_pos (Zjx.2 q)];omega
  ·rw[if_neg q,if_neg (λd=>q (Zjx.1 d))];omega
theorem Mps.putP{h:Zf}{T:TgM}{b0 m1 m2 m3 m4:Nat}{P B O:ByteArray->Int}{F:Int->Option Value}(hm:Mps h T b0 m1 m2 m3 m4 P B O F)(k:ByteArray)(v:Int){K:Zf->Prop}
    (c:∀h',Mps h' T b0 m1 m2 m3 m4 (λr=>if r=k then v else P r) B O F->Upd (· = m1) h h'->sz h'=sz h->K h'):Zcl .string h (some m1) (.string k) (iv v) K:=by
  obtain⟨d1,d2,d3,d4,d5,d6⟩:=hm.d;obtain⟨n,a⟩:=hm.f;refine hm.p.put k v λh' p u z=>c h' ⟨p,hm.b.congr (u.old _ hm.b.lt λe=>d1 e.symm),hm.o.congr (u.old _ hm.o.lt λe=>d2 e.symm),⟨n,a.congr (u.old _ a.lt λe=>d3 e.symm)⟩,hm.d,hm.t⟩ u z
theorem Mps.putB{h:Zf}{T:TgM}{b0 m1 m2 m3 m4:Nat}{P B O:ByteArray->Int}{F:Int->Option Value}(hm:Mps h T b0 m1 m2 m3 m4 P B O F)(k:ByteArray)(v:Int){K:Zf->Prop}
    (c:∀h',Mps h' T b0 m1 m2 m3 m4 P (λr=>if r=k then v else B r) O F->Upd (· = m2) h h'->sz h'=sz h->K h'):Zcl .string h (some m2) (.string k) (iv v) K:=by
  obtain⟨d1,d2,d3,d4,d5,d6⟩:=hm.d;obtain⟨n,a⟩:=hm.f;refine hm.b.put k v λh' p u z=>c h' ⟨hm.p.congr (u.old _ hm.p.lt λe=>d1 e),p,hm.o.congr (u.old _ hm.o.lt λe=>d4 e.symm),⟨n,a.congr (u.old _ a.lt λe=>d5 e.symm)⟩,hm.d,hm.t⟩ u z
theorem Mps.putO{h:Zf}{T:TgM}{b0 m1 m2 m3 m4:Nat}{P B O:ByteArray->Int}{F:Int->Option Value}(hm:Mps h T b0 m1 m2 m3 m4 P B O F)(k:ByteArray)(v:Int){K:Zf->Prop}
    (c:∀h',Mps h' T b0 m1 m2 m3 m4 P B (λr=>if r=k then v else O r) F->Upd (· = m3) h h'->sz h'=sz h->K h'):Zcl .string h (some m3) (.string k) (iv v) K:=by
  obtain⟨d1,d2,d3,d4,d5,d6⟩:=hm.d;obtain⟨n,a⟩:=hm.f;refine hm.o.put k v λh' p u z=>c h' ⟨hm.p.congr (u.old _ hm.p.lt λe=>d2 e),hm.b.congr (u.old _ hm.b.lt λe=>d4 e),p,⟨n,a.congr (u.old _ a.lt λe=>d6 e.symm)⟩,hm.d,hm.t⟩ u z
theorem Mps.putF{h:Zf}{T:TgM}{b0 m1 m2 m3 m4:Nat}{P B O:ByteArray->Int}{F:Int->Option Value}(hm:Mps h T b0 m1 m2 m3 m4 P B O F)(k:Int)(v:Value){K:Zf->Prop}
    (a:∀h',Mps h' T b0 m1 m2 m3 m4 P B O (upd F k (some v))->Upd (· = m4) h h'->sz h'=sz h->K h'):Zcl (.int .i64) h (some m4) (iv k) v K:=by
  obtain⟨d1,d2,d3,d4,d5,d6⟩:=hm.d;obtain⟨n,c⟩:=hm.f;refine c.put k v λh' p u z=>a h' ⟨hm.p.congr (u.old _ hm.p.lt λe=>d3 e),hm.b.congr (u.old _ hm.b.lt λe=>d5 e),hm.o.congr (u.old _ hm.o.lt λe=>d6 e),⟨_,p⟩,hm.d,hm.t⟩ u z
theorem Ztd{h:Zf}{zr:Rw.VTR}{r:RulesP}(hr:Rw.YY h (· < sz h) zr r)(bg:Rw.RulesP.fit r){l:Sl}{Y:List ZqV}(hl:Row h l 7 (Y.flatMap ZvN))(hds:∀y,y∈Y->ZyN h (sz h) y){xs:Sl}{es:List Int}(hx:Row h xs 1 (es.map iv))
    {K:Bool->Zf->Prop} (A:∀h',Ext h h'->K true h'):XR zr l xs K h:=by
  have hlen:=hl.len;rw[YM ZrX]at hlen;have bh:l.len=Y.length:=(Ayd (by decide) hlen).symm;have ca:xs.len=es.length:=by have:=hx.len;simp at this;omega
  have cZ:=hl.big;have da:=hl.cap;unfold XR Zbo;refine ZH λh1 c1 e1 z1=>ZN0 (by decide) λh2 T2 L2 E2 n2 e2=>Za (Zi rfl (Zi rfl ?_));have bj:=e1.trans e2;have x2:=Zj c1 e2;have w1:sz h1=sz h+1:=z1;have w2:sz h1<=sz h2:=e2.size;have b2:∀j,T2 j≠none->sz h<=j:=λj H=>by have:=n2 j H;omega
  have cf:GOK (GS.new 100 3):=GOK.new (by decide)
  have bl:∀{G:GS},G.t=Tree.zero->G.la=0->G.en=(λ_=>none)->G.op=0->G.nx=1->TE G 0 (λ_=>0) (λ_=>0) []:=λ{G} q1 q2 q3 q4 q5=>
    ⟨by rw[q1];exact Aye _,by rw[q1,q2];exact Int.le_refl _,by rw[q2];exact Int.le_refl _,λk n hn=>(by rw[q1]at hn;cases hn),by rw[q4];rfl,Aqo _,by rw[q5];decide,List.nodup_nil,λp C=>(by cases C),λj e H=>(by rw[q3]at H;cases H),λj _=>(by rw[q3]),λp C=>(by cases C),λp C=>(by cases C),λr n hn=>(by rw[q1]at hn;cases hn),λr _=>⟨rfl,rfl⟩,λr=>(by decide)⟩
  refine rL (s:=zr.1) (Zb x2 rfl) (rL (s:=zr.2.1) (Zb x2 rfl) (rL (s:=zr.2.2.1) (Zb x2 rfl) (rL (s:=zr.2.2.2.1) (Zb x2 rfl) (rL (s:=zr.2.2.2.2.1) (Zb x2 rfl) ?_))));refine ZBh E2 cf (hr.ext bj) (λb hb=>by have dF:b<sz h:=hb;omega) bg λt9 h3 T3 L3 G3 E3 cg hG ck g3=>?_
  have bm:TE G3 0 (λ_=>0) (λ_=>0) []/\G3.la=0:=by
    rcases hG with rfl|rfl
    ·exact⟨bl rfl rfl rfl rfl rfl,rfl⟩
    ·exact⟨bl rfl rfl rfl rfl rfl,rfl⟩
  have bn:Ext h h3:=bj.then g3.u λk A=>b2 k A
  have w3:sz h2<=sz h3:=g3.u.size;have b3:∀j,T3 j≠none->sz h<=j:=λj H=>(g3.n j H).elim (b2 j) λz=>by omega
  refine Zlw.new λZ m4 e4 z4=>Zlw.new λN m5 e5 z5=>Zlw.new λh6 m6 e6 z6=>Zlv.new λh7 m7 e7 z7=>?_;have y4:sz Z=sz h3+1:=z4;have y5:sz N=sz Z+1:=z5;have y6:sz h6=sz N+1:=z6;have y7:sz h7=sz h6+1:=z7;have bo:Ext h3 h7:=((e4.trans e5).trans e6).trans e7;have dL:sz h<=sz h3:=bn.size
  have s0:SI h h7 L2.eb (sz h3) (sz Z) (sz N) (sz h6) T3 L3 G3 (λ_=>0) (λ_=>0) [] (λ_=>none) 0:=by
    refine⟨bn.trans bo,E3.ext bo,cg,bm.1,by rw[bm.2];exact Int.le_refl _,b3,ck,⟨⟨_,_,((m4.congr (ZB e5 m4.lt)).congr (ZB e6 (by have:=m4.lt;show sz h3<sz N;omega))).congr (ZB e7 (by show sz h3<sz h6;omega)),λ_=>rfl⟩,⟨_,_,(m5.congr (ZB e6 m5.lt)).congr (ZB e7 (by show sz Z<sz h6;omega)),λ_=>rfl⟩,⟨_,_,m6.congr (ZB e7 m6.lt),λ_=>rfl⟩,⟨_,m7⟩,by omega,λj H=>⟨Classical.byContradiction λz=>by have:=E3.hT j z;omega,by omega⟩⟩,λp C=>by cases C⟩
  refine ZkM (λ(_:Unit) hh=>Ext h hh) (λ_ hh he=>?_) λQ0 bp=>Za ?_
  ·unfold Zky ZkJ;exact ZH λh8 c8 e8 z8=>Zd (A h8 (he.trans e8))
  refine ZaE (λ(p:Int×Unit) hh=>∃(i:Nat) (T:TgM) (L:Lay) (G:GS) (P B:ByteArray->Int) (op:Ops) (F:Int->Option Value),p=((i:Int),())/\i<=Y.length/\i<=100/\SI h hh L2.eb (sz h3) (sz Z) (sz N) (sz h6) T L G P B op F i) (λp _=>Y.length- p.1.toNat) ⟨0,_,_,_,_,_,_,_,rfl,Aye _,Aye _,s0⟩ ?_;rintro _ hh ⟨i,T,L,G,P,B,op,F,rfl,dO,dP,s⟩ Q hQ;dsimp only;rw[bh];refine Zo (λq=>Zo (λq2=>?_) λq2=>bp _ _ s.e) λq=>bp _ _ s.e;have ah:i<Y.length:=by omega
  have bq:i<100:=by omega
  have hg:Y[i]?=some Y[i]:=Axy ah;have hm:=Ayx ah;generalize Y[i]=y at hg hm;obtain⟨c,sl,al⟩:=y;have aO:IntKind.wrap .i64 ((i:Int)+1)=((i+1:Nat):Int):=wrS ah (by omega);obtain⟨ya,yb,yz⟩:=hds _ hm;dsimp only at ya yb yz
  have bt:Zic (cl (atC c i) nl):=by
    obtain⟨a1,a2,a3⟩:=yz;exact⟨a1,a2,a3⟩
  obtain⟨b,o,hb,dQ,bu,hc⟩:=Za5 ZrX (hl.ext s.e) hg (by decide);have aQ:∀{K:Nat->Nat->Prop},K b o->YI l.ptr Y.length (i:Int) 7 K:=λ{K} cw=>by have:=bu (K:=K) (m:=(i:Int)) rfl cw;rwa[bh]at this
  refine aQ (rI (hc 0 _ rfl) (rS (hc 1 _ rfl) (rS (hc 2 _ rfl) (rS (hc 3 _ rfl) (rB (hc 4 _ rfl) (rI (hc 5 _ rfl) (rL (s:=sl) (hc 6 _ rfl) (ZH λg1 k1 f1 v1=>Zaw k1 λg2 k2 f2 v2=>Zbs k2 (show 0<7 by decide) rfl λg3 D f3 v3=>?_))))))));have u1:sz g1=sz hh+1:=v1;have u2:sz g2=sz g1:=v2;have u3:sz g3=sz g2:=v3;have cy:Ext hh g3:=(f1.then f2 λk A=>by subst A;exact Aqo _).then f3 λk A=>by subst A;exact Aqo _
  have cz:obj g3 (sz hh)=some (ZnZ (cl (atC c i) sl)):=D;refine rI (Zb D rfl) (rS (Zb D rfl) (rS (Zb D rfl) (rS (Zb D rfl) (rB (Zb D rfl) (rI (Zb D rfl) (rL (s:=sl) (Zb D rfl) ?_))))));have s3:=s.ext cy;have bw:sz h<=sz hh:=s.e.size;rw[<-s.eb];refine ZEU (c:=atC c i) (sl:=sl) (al:=al) s3.eng s.ok bt (ya.ext s3.e) (λcB b9 cC=>?_) λh8 T8 L8 E8 aR g8=>ZH λz c9 e9 z9=>Za (Zaw c9 λaB aS cE dU=>Za ?_)
  ·have cF:sl.len≠0:=λz=>by
     have h8:=ya.len;rw[z]at h8;simp at h8;exact cB h8
   have:=yb cF b9 cC;exact⟨by have z:b9<sz h:=this;omega,s.none (.inl this)⟩
  have w9:sz z=sz h8+1:=z9;have w8:sz g3<=sz h8:=g8.u.size;have O:Ext h8 aB:=e9.then cE λk A=>by subst A;exact Aqo _
  have b8:∀j,T8 j≠none->sz h<=j:=λj H=>(g8.n j H).elim (s.base j) λz=>by omega
  have Tn:T (sz hh)=none:=s.none (.inr (Aqo _))
  have bB:T8 (sz hh)=none:=Classical.byContradiction λq9=>by
    rcases g8.n _ q9 with q8|q8
    ·exact q8 Tn
    ·omega
  have cH:obj h8 (sz hh)=some (ZnZ (cl (atC c i) sl)):=(g8.old (show sz hh<sz g3 by omega) Tn).trans cz;have E:=Zj cH O;have J:=(s3.mp.gr g8).ext O;have aT:Ext h aB:=(s3.e.then g8.u λk A=>s.base k A).trans O
  have af:sz hh≠sz h3/\sz hh≠sz Z/\sz hh≠sz N/\sz hh≠sz h6:=by
    have a1:=s.mp.p.lt;have a2:=s.mp.b.lt;have a3:=s.mp.o.lt;have a4:=s.mp.lt (.inr (.inr (.inr rfl)));omega
  rcases ZA0 (c:=atC c i) s.te bq (show(i:Int)<=99 by omega) al false with⟨hy,cI⟩ |⟨cJ,cK,hy,aD,ai,V⟩
  ·rw[cI]at E8;refine ZbG (λ_=>Za ?_) λq9=>absurd q9 hy;rw[aO];exact hQ _ _ ⟨i+1,T8,L8,G,P,B,op,F,rfl,ah,by omega,⟨aT,E8.ext O,s.ok,s.te.mono (Nat.le_succ _),by have:=s.la;omega,b8,aR.trans s.eb,J,s.ff⟩⟩ (by show Y.length- ((i+1:Nat):Int).toNat<Y.length- ((i:Nat):Int).toNat;omega)
  have ok8:GOK (G.enter (atC c i) al false).2:=s.ok.enter bt;generalize G.enter (atC c i) al false=R at E8 hy aD ai V ok8 aS⊢;obtain⟨⟨n,v,ey⟩,G8⟩:=R;dsimp only at E8 hy aD ai V ok8 aS⊢;subst hy;refine Zi rfl ?_;refine ZkM (λ(_:Unit) hz=>∃T9 L9 G9 P9 B9 I F9,SJ h hz L2.eb (sz h3) (sz Z) (sz N) (sz h6) (sz hh) c sl i T9 L9 G9 P9 B9 I F9) ?_ λQ1 bC=>?_
  ·rintro _ hz ⟨T9,L9,G9,P9,B9,I,F9,d⟩;refine ZkM (λ(_:Unit) hz=>∃T9 L9 G9 P9 B9 I F9,SJ h hz L2.eb (sz h3) (sz Z) (sz N) (sz h6) (sz hh) c sl i T9 L9 G9 P9 B9 I F9) ?_ λQ2 aU=>?_
   ·
    clear d T9 L9 G9 P9 B9 I F9 hz;rintro _ hz ⟨T9,L9,G9,P9,B9,I,F9,d⟩;obtain⟨nd,aa⟩:=d.nd;have aV:=d.s.te;obtain⟨n1,aW,n3⟩:=aV.nodes _ _ aa;obtain⟨p1,p2⟩:=aV.cs _ _ aa;have dt:=d.la;have ak:ZO nd.last (i:Int)=0:=by unfold ZO;rw[if_neg (by omega),if_neg (by omega),if_neg (by omega)]
    have aG:=ZQ8 aW (at_:=(i:Int)) (by omega) (by omega) (by omega);have cM:Rt (nd.sum (i:Int)):=by rw[aG];exact Rt.zero.two (aW 0)
    obtain⟨q1,bD⟩:=ZDo (aW 0);rw[<-aG]at q1 bD;rw[show L.eb=L9.eb from s.eb.trans d.s.eb.symm];refine rS (Zb d.cell rfl) (ZBj d.s.eng aa (by omega) (by have:=aV.tl;omega) (by omega) ak cM λa1 d1=>ZH λa2 k2 d2 v2=>Zaw k2 λa3 D d3 v3=>Za (Zi rfl ?_));rw[q1,bD,p1,p2]at D;have bE:Ext hz a3:=(d1.trans d2).then d3 λk A=>by subst A;exact d1.size
    have s9:=d.s.ext bE;have w:=Zj d.cell bE;refine rI (Zb D rfl) (rS (Zb w rfl) (s9.mp.p.get _ ⟨ZR (Zb D rfl),ZbG (λz=>absurd rfl z) λ_=>?_⟩));refine rI (Zb D rfl) (rS (Zb w rfl) (s9.mp.b.get _ ⟨ZR (Zb D rfl),ZR (Zb D rfl),ZbG (λz=>absurd rfl z) λ_=>?_⟩));have bF:oFl (G9.t.f (kc c.2.1))=opF I c.2.1:=by rw[aa];exact n3
    have done:∀{aX:Zf},Ext a3 aX->Q (((i+1:Nat):Int),()) aX:=λ{aX} e=>hQ _ _ ⟨i+1,T9,L9,G9,P9,B9,I,F9,rfl,ah,by omega,s9.ext e⟩ (by show Y.length- ((i+1:Nat):Int).toNat<Y.length- ((i:Nat):Int).toNat;omega);refine rS (Zb w rfl) (rS (Zb w rfl) ⟨ZuD s9.eng λa4 d4=>?_,s9.mp.o.get _ ⟨ZR (Zb w rfl),ZR (Zb D rfl),ZR (Zb D rfl),ZuD s9.eng λa4 d4=>⟨ZR (Zb (Zj D d4) rfl),ZR (Zb (Zj D d4) rfl),?_⟩⟩⟩)
    ·refine⟨ZR (Zb (Zj w d4) rfl),ZR (Zb (Zj D d4) rfl),ZR (Zb (Zj D d4) rfl),(s9.mp.ext d4).o.get _ ⟨ZR (Zb (Zj D d4) rfl),ZR (Zb (Zj D d4) rfl),ZbG (λz=>absurd bF z) λ_=>Za ?_⟩⟩;rw[aO];exact done d4
    ·refine ZbG (λz=>absurd bF z) λ_=>Za ?_;rw[aO];exact done d4
   ·
    refine Zo (λq9=>?_) λq9=>aU _ _ ⟨T9,L9,G9,P9,B9,I,F9,d⟩;rw[ca]at q9;have cN:i<es.length:=by omega
    have bG:es[i]?=some es[i]:=Axy cN;generalize es[i]=k at bG;have dY:sz h<=sz hz:=d.s.e.size;refine(hx.ext d.s.e).idx (i:=(i:Int)) (n:=i) rfl (v:=iv k) (by rw[Awy,bG];rfl) λbx ox _ cO=>⟨k,cO,Za ?_⟩;rw[show L.eb=L9.eb from s.eb.trans d.s.eb.symm];refine ZHi d.s.eng d.s.ok λag aE bH aY aH an=>?_;have bI:Ext h ag:=d.s.e.then an.u λk A=>d.s.base k A
    have bJ:∀j,aE j≠none->sz h<=j:=λj H=>(an.n j H).elim (d.s.base j) λz=>by omega
    have cP:=Zp d.cell
    have aI:aE (sz hh)=none:=Classical.byContradiction λq8=>by
      rcases an.n _ q8 with q7|q7
      ·exact q7 d.cT
      ·omega
    have M:obj ag (sz hh)=some (ZnZ (cl (atC c i) sl)):=(an.old cP d.cT).trans d.cell;have g:=d.s.mp.gr an;have bK:GOK (G9.exit k (i:Int) false).2:=d.s.ok.exit
    rcases ZEy (number:=k) (at_:=(i:Int)) d.s.te (by omega) (by omega) false with⟨hy,hG⟩ |⟨hy,a,S,bb,cQ,ao,aq,aZ⟩
    ·rw[hG]at aY;refine Z0 (λz=>absurd z hy) λ_=>aU _ _ ⟨aE,bH,G9,P9,B9,I,F9,⟨⟨bI,aY,d.s.ok,d.s.te,d.s.la,bJ,aH.trans d.s.eb,g,d.s.ff⟩,d.la,d.nd,M,aI,d.cm,d.cb⟩⟩
    ·subst cQ;have hF:=d.s.ff (k,S) (List.mem_append_right _ (List.mem_cons_self ..));obtain⟨nf,cR⟩:=g.f;refine Z0 (λ_=>cR.get k ⟨S.2.1,by rw[hF];rfl,g.o.get _ ?_⟩) λz=>absurd hy z;have hle:=ZnW (kc S.2.1) (a++(k,S)::bb);have cS:=d.s.te.len;have ea:1<=Zjf (a++(k,S)::bb) (kc S.2.1):=Zuk (p:=(k,S)) (List.mem_append_right _ (List.mem_cons_self ..)) (Zjx.2 rfl)
     have ak:IntKind.wrap .i64 (opF (a++(k,S)::bb) S.2.1-1)=opF (a++(k,S)::bb) S.2.1 + -1:=by
       show IntKind.wrap .i64 (((Zjf (a++(k,S)::bb) (kc S.2.1):Nat):Int)- 1)=((Zjf (a++(k,S)::bb) (kc S.2.1):Nat):Int) + -1;rw[Yj (by omega) (by omega)];omega
     rw[ak];refine g.putO S.2.1 _ λbL U W cU=>?_;rw[ZmI,<-ZDK a bb k S]at U;have bM:=g.t (sz N) (.inr (.inr (.inl rfl)));refine aU _ _ ⟨aE,bH,_,P9,B9,a++bb,F9,⟨⟨bI.then W λk A=>by rw[show k=sz N from A];exact bM.2,aY.frame W λj H=>by rw[show j=sz N from H];exact bM.1,bK,ao,by rw[aq];omega,bJ,aH.trans d.s.eb,U,λp C=>d.s.ff p ?_⟩,aq,aZ _ d.nd,(W.old _ (Zp M) (show ¬sz hh=sz N from d.cm.2.2.1)).trans M,aI,d.cm,d.cb⟩⟩
     rcases Axx.1 C with C|C
     ·exact List.mem_append_left _ C
     ·exact List.mem_append_right _ (Aws _ C)
  ·
   refine rI (Zb aS rfl) ?_;have bN:G8.la<=((i+1:Nat):Int):=by rw[ai];show(i:Int)<=_;omega
   have bO:=E8.ext O;have bd:=s.te.bd c.2.1
   have hP:∀x:Int,0<=x->x<=1099511627776*(i:Int)->IntKind.wrap .i64 (x+c.2.2.2.2.2)=x+c.2.2.2.2.2:=λx h1 h2=>by
     have h3:1<=c.2.2.2.2.2:=cJ;have Z:c.2.2.2.2.2<=1099511627776:=cK;exact Yj (by omega) (by omega)
   have bP:=J.t (sz h3) (.inl rfl);have bQ:=J.t (sz Z) (.inr (.inl rfl));have bR:=J.t (sz N) (.inr (.inr (.inl rfl)));have bS:=J.t (sz h6) (.inr (.inr (.inr rfl)));have aK:=Zp E
   rcases V with⟨hv,ao⟩ |⟨hv,hn,ao⟩
   ·refine Z0 (λz=>absurd z hv) λ_=>rS (Zb E rfl) (J.b.get _ (rI (Zb E rfl) ?_));show Zcl .string aB (some (sz Z)) (.string c.2.1) (iv (IntKind.wrap .i64 (B c.2.1+c.2.2.2.2.2))) _;rw[hP _ bd.2.2.1 bd.2.2.2];refine J.putB c.2.1 _ λag g X cV=>?_;rw[ZmI]at g;exact bC _ _ ⟨T8,L8,G8,P,_,op,F,⟨⟨aT.then X λk A=>by rw[show k=sz Z from A];exact bQ.2,bO.frame X λj H=>by rw[show j=sz Z from H];exact bQ.1,ok8,ao,bN,b8,aR.trans s.eb,g,s.ff⟩,ai,aD,(X.old _ aK (show ¬sz hh=sz Z from af.2.1)).trans E,bB,af,bw⟩⟩
   ·subst hn;refine Z0 (λ_=>rS (Zb E rfl) (J.p.get _ (rI (Zb E rfl) ?_))) λz=>absurd hv z;show Zcl .string aB (some (sz h3)) (.string c.2.1) (iv (IntKind.wrap .i64 (P c.2.1+c.2.2.2.2.2))) _;rw[hP _ bd.1 bd.2.1];refine J.putP c.2.1 _ λag g X cV=>?_;rw[ZmI]at g;have ar:obj ag (sz hh)=some (ZnZ (cl (atC c i) sl)):=(X.old _ aK (show ¬sz hh=sz h3 from af.1)).trans E;have hle:=ZnW (kc c.2.1) op;have cW:=s.te.len
    have ak:IntKind.wrap .i64 (opF op c.2.1+1)=opF op c.2.1+1:=by
      show IntKind.wrap .i64 (((Zjf op (kc c.2.1):Nat):Int)+1)=((Zjf op (kc c.2.1):Nat):Int)+1;exact Yj (by omega) (by omega)
    refine rS (Zb ar rfl) (g.o.get _ ?_);show Zcl .string ag (some (sz N)) (.string c.2.1) (iv (IntKind.wrap .i64 (opF op c.2.1+1))) _;rw[ak];refine g.putO c.2.1 _ λbL U W cU=>?_;rw[ZmI,show Zi4 (opF op) c.2.1 1=_ from(ZDL op G.nx (atC c i)).symm]at U;have au:obj bL (sz hh)=some (ZnZ (cl (atC c i) sl)):=(W.old _ (Zp ar) (show ¬sz hh=sz N from af.2.2.1)).trans ar;refine rS (Zb au rfl) (U.putF G.nx (.string c.2.1) λcX bT ba ec=>?_);have bU:obj cX (sz hh)=some (ZnZ (cl (atC c i) sl)):=(ba.old _ (Zp au) (show ¬sz hh=sz h6 from af.2.2.2)).trans au
    have cY:∀p∈op,p.1≠G.nx:=λp C z=>by
      obtain⟨pr,h1⟩:=s.te.ent p C;rw[s.te.new p.1 (by omega)]at h1;cases h1
    refine bC _ _ ⟨T8,L8,G8,_,B,_,_,⟨⟨((aT.then X λk A=>by rw[show k=sz h3 from A];exact bP.2).then W λk A=>by rw[show k=sz N from A];exact bR.2).then ba λk A=>by rw[show k=sz h6 from A];exact bS.2,
      ((bO.frame X λj H=>by rw[show j=sz h3 from H];exact bP.1).frame W λj H=>by rw[show j=sz N from H];exact bR.1).frame ba λj H=>by rw[show j=sz h6 from H];exact bS.1,ok8,ao,bN,b8,aR.trans s.eb,bT,λp C=>?_⟩,ai,aD,bU,bB,af,bw⟩⟩
    rcases Axx.1 C with C|C
    ·rw[Zfd _ _ (cY p C)];exact s.ff p C
    ·simp at C;subst C;exact Zep ..
end Go.Proofs.YtonbfpnngkemiaaGreat
namespace Go.Proofs.YtonbfpnngkemiaaGreat
open Go Go.Fw Go.ChangeShapes Go.WideShapes
theorem ZA5{H:Type}(d:DataW H):1<=Rows.uptoBulk d:=by
  cases d with
  |lit l=>cases l<;>simp[Rows.uptoBulk]
  |_=>simp[Rows.uptoBulk]
section
variable{H:Type}{enc:TypeId×Value->H}{P:Program}{w:World}{base:Nat}{spare:Nat->Bool}{held:Bool}
end
end Go.Proofs.YtonbfpnngkemiaaGreat
namespace Go.Proofs.YtonbfpnngkemiaaGreat.Rw
open Go Go.Fw Go.Js
theorem Zlb{n:Nat}(h:n<=maxLen):n<9223372036854775808:=by
  have e:maxLen=9223372036854775807:=by decide
  omega
theorem ZwY{w:World}{a:Addr}{v:Value}(h:w.cell? a=some v):a=⟨a.block,a.off,none⟩:=by
  obtain⟨b,o,s⟩:=a;unfold World.cell? at h;split at h
  ·cases s with
   |none=>rfl
   |some s=>simp at h
  ·cases h
theorem Zus{b o i:Nat}:(⟨b,o,none⟩:Addr).add i=⟨b,o+i,none⟩:=Zn6 b o i
theorem ZNl{n:Int}(h:(Lit.int .u8 n).wf=true):0<=n/\n<256:=by
  simp only[Lit.wf,Awn,decide_eq_true_eq]at h;have h1:IntKind.u8.min=0:=by decide
  have a:IntKind.u8.max=255:=by decide
  omega
theorem ZF4{n:Int}(h:(Lit.int .i64 n).wf=true): -9223372036854775808<=n/\n<9223372036854775808:=by
  simp only[Lit.wf,Awn,decide_eq_true_eq]at h;have h1:IntKind.i64.min= -9223372036854775808:=by decide
  have a:IntKind.i64.max=9223372036854775807:=by decide
  omega
theorem ZwT{α:Type}(f:α->Nat):∀l:List α,(l.map λx=>16*f x).sum=16*(l.map f).sum
  |[]=>rfl
  |x::l=>by rw[Awo,Aza,ZwT f l,Awo,Aza];omega
theorem ZBp{α:Type}{f g:α->Nat}:∀{l:List α},(∀x∈l,f x<=g x)->(l.map f).sum<=(l.map g).sum
  |[],_=>Aqo _
  | x::l,h=>by
    have:=h x (by simp);have:=ZBp (l:=l) λy a=>h y (Aws _ a);simp only[Awo,Aza];omega
theorem ZqH{H:Type}{d:DataW H}:∀{l:List (DataW H)},d∈l->Rows.uptoBulk d<=Rows.uptoBulkAll l
  |[],h=>by cases h
  | x::l,h=>by
    simp only[Rows.uptoBulkAll]
    rcases Awr.1 h with rfl|h
    ·omega
    ·have:=ZqH h;omega
theorem Zul{H:Type}(D:Nat->DataW H):∀l:List Nat,Rows.uptoBulkAll (l.map D)=(l.map λi=>Rows.uptoBulk (D i)).sum
  |[]=>rfl
  |x::l=>by simp only[Awo,Rows.uptoBulkAll,Aza,Zul D l]
end Go.Proofs.YtonbfpnngkemiaaGreat.Rw
namespace Go.Proofs.YtonbfpnngkemiaaGreat.Rw
open Go Go.Fw Go.Js
section
variable{H:Type}{enc:TypeId×Value->H}{P:Program}{w:World}{base:Nat}{spare:Nat->Bool}{held:Bool}
theorem Zya{fs:Array Field}{l:List (TypeId×Nat)}(b:fs.toList.map (λf=>(f.type,f.offset))=l){i:Nat}{p:TypeId×Nat}(a:l[i]?=some p):∃f,fs[i]?=some f/\f.type=p.1/\f.offset=p.2:=by subst b;rw[Awy,Ayz]at a;obtain⟨f,h1,rfl⟩:=a;exact⟨f,by simpa using h1,rfl,rfl⟩
theorem ZfN{α:Type}[Inhabited α]{g:α->List Value}{n:Nat}(j:∀a,(g a).length=n)(o:0<n){Pa:α->Prop}{μ:α->Nat}{u t:TypeId}{fuel N:Nat}{a:Option Addr}{len cap:Nat}{x:DataW H×List MemPlace}(hu:P.underlying u=some (.slice t))(G:P.cellsOf t=n)
    (elem:∀{fuel:Nat} {cs:List Value} {y:DataW H×List MemPlace},Rows.uptoBulk y.1<N->DataW.trod enc P w base spare held fuel t cs=some y->∃a:α,cs=g a/\Pa a/\μ a<=16*Rows.uptoBulk y.1)
    (I:Rows.uptoBulk x.1<=N) (h:DataW.trod enc P w base spare held fuel u [.slice a len cap]=some x):∃l:List α,(Row w.heap ⟨a,len,cap⟩ n (l.flatMap g)/\∀a,a∈l->Pa a)/\(l.map μ).sum+16<=16*Rows.uptoBulk x.1:=by
  rcases Deep.open_slice hu h with⟨b,rfl⟩ |⟨a',A,B,m,S,D,T,b,_,hl,hm,p,rfl,J⟩
  ·simp at b;obtain⟨rfl,rfl,rfl⟩:=b;exact⟨[],⟨Row.nil _ n,by simp⟩,by simp[Rows.uptoBulk]⟩
  ·simp at b
   obtain⟨rfl,rfl,rfl⟩:=b;have hlen:len<=m:=by rw[p];split<;>omega
   have c:cap<9223372036854775808:=Zlb hm
   have each:∀i,i<len->∃a:α,w.cells? base (a'.add (i*n)) n=some (g a)/\Pa a/\μ a<=16*Rows.uptoBulk (D i):=by
     intro i hi;obtain⟨K,h1,L⟩:=J i (by omega);rw[G]at h1
     obtain ⟨r,rfl,M,O⟩:=elem (by
       have:=ZqH (d:=D i) (l:=(List.range len).map D) (Ayv.2 ⟨i,by simpa using hi,rfl⟩);simp only[Rows.uptoBulk]at I⊢
       omega) L
     exact⟨r,h1,M,O⟩
   obtain⟨f,q⟩:=Deep.choose_lt each;have cell:∀i,i<len->∀k,k<n->w.cell? ((a'.add (i*n)).add k)=(g (f i))[k]?:=λi hi k s=>(World.cells?_some (q i hi).1).2.2 k s;refine⟨(List.range len).map f,⟨⟨by rw[Zl7 j];simp,hl,c,?_⟩,λa Q=>?_⟩,?_⟩
   ·rcases Aqw len with h0|h0
    ·exact .inl h0
    ·right
     have e:a'=⟨a'.block,a'.off,none⟩:=by
       have h0:=cell 0 (by omega) 0 o;have R:(a'.add (0*n)).add 0=a':=by rw[Aqs];rfl
       rw[R,Axy (by rw[j];exact o)]at h0;exact ZwY h0
     refine⟨a'.block,a'.off,by rw[<-e],Zt8 λk v hv=>?_⟩
     have s:k<len*n:=by
       have:=ZAQ hv;rw[Zl7 j]at this;simpa using this
     have z:=Nat.div_add_mod k n;have hi:k / n<len:=(Nat.div_lt_iff_lt_mul o).2 s;have C:k % n<n:=Nat.mod_lt _ o;have E:=ZnP j ((List.range len).map f) (k / n) (k % n) (f (k / n)) (by rw[Awy,List.getElem?_range hi];rfl) C;have F:k / n*n+k % n=k:=by rw[Nat.mul_comm];exact z
     rw[F,hv]at E;have:=cell (k / n) hi (k % n) C;rw[e,Zus,Zus,Zti,<-E]at this;rw[<-F,<-Aqh];exact this
   ·obtain⟨i,hi,rfl⟩:=Ayv.1 Q;exact(q i (by simpa using hi)).2.1
   ·have h1:((List.range len).map λi=>μ (f i)).sum<=((List.range len).map λi=>16*Rows.uptoBulk (D i)).sum:=ZBp λi hi=>(q i (by simpa using hi)).2.2;rw[ZwT]at h1;simp only[Rows.uptoBulk,List.map_map,Zul];have:((List.range len).map (μ ∘ f)).sum=((List.range len).map λi=>μ (f i)).sum:=rfl;omega
theorem Zx6:∀l:List BL,l.flatMap (λn=>[sV n])=l.map sV
  |[]=>rfl
  |a::l=>by rw[Ayc,Zx6 l];rfl
end
end Go.Proofs.YtonbfpnngkemiaaGreat.Rw
namespace Go.Js
open Go Go.Fw Go.Js
def Zoa(n:Int):Prop:= -9223372036854775808<=n/\n<=9223372036854775807
def FlowP.rng(f:FlowP):Prop:=Zoa f.cnt/\f.strat<256/\f.shape<256/\Zoa f.warm/\Zoa f.queue/\Zoa f.id
def YN.rng(f:YN):Prop:=f.grade<256/\Zoa f.cnt/\Zoa f.slow/\Zoa f.least/\Zoa f.window/\Zoa f.recover
def Zen.rng(f:Zen):Prop:=Zoa f.index/\Zoa f.cnt/\Zoa f.secs/\∀p,p∈f.items->Zoa p.2
def Zav.rng(f:Zav):Prop:=Zoa f.qps/\Zoa f.threads/\Zoa f.rt/\Zoa f.load/\Zoa f.cpu
def RulesP.rng(r:RulesP):Prop:=(∀f,f∈r.fl->f.rng)/\(∀f,f∈r.br->f.rng)/\(∀f,f∈r.ho->f.rng)/\∀f,f∈r.sy->f.rng
def FlowP.wt(f:FlowP):Nat:=1+f.res.length+f.org.length+f.ref.length
def YN.wt(f:YN):Nat:=1+f.res.length
def Zmi(p:BL×Int):Nat:=1+p.1.length
def Zen.wt(f:Zen):Nat:=1+f.res.length+(f.items.map Zmi).sum
def Zme(t:BL):Nat:=1+t.length
def Zbt.wt(f:Zbt):Nat:=1+f.res.length+(f.origins.map Zme).sum
def RulesP.wt(r:RulesP):Nat:=(r.fl.map FlowP.wt).sum+(r.br.map YN.wt).sum+(r.ho.map Zen.wt).sum+(r.sy.map λ_=>1).sum+(r.li.map Zbt.wt).sum
end Go.Js
namespace Go.Proofs.YtonbfpnngkemiaaGreat.Rw
open Go Go.Fw Go.Js
def StT(P:Program)(t:TypeId)(tys:List TypeId):Prop:=∃fs:Array Field,P.underlying t=some (.struct fs)/\fs.toList.map (λf=>(f.type,f.offset))=tys.zipIdx/\P.cellsOf t=tys.length
end Go.Proofs.YtonbfpnngkemiaaGreat.Rw
namespace Go.Proofs.YtonbfpnngkemiaaGreat.Rw
open Go Go.Fw Go.Js
section
variable{H:Type}{enc:TypeId×Value->H}{P:Program}{w:World}{base:Nat}{spare:Nat->Bool}{held:Bool}
def ZBV(f:TypeId->Value->Option (DataW H×List MemPlace)):List TypeId->List Value->List (DataW H×List MemPlace)->Prop
  |[],[],[]=>True
  |u::us,c::cs,x::xs=>f u c=some x/\ZBV f us cs xs
  |_,_,_=>False
theorem ZBV.inv{f:TypeId->Value->Option (DataW H×List MemPlace)}{u:TypeId}{us:List TypeId}{cs:List Value}{xs:List (DataW H×List MemPlace)}(h:ZBV f (u::us) cs xs):∃c a x b,cs=c::a/\xs=x::b/\f u c=some x/\ZBV f us a b:=by
  match cs,xs,h with
  |c::cs,x::xs,h=>exact⟨c,cs,x,xs,rfl,rfl,h.1,h.2⟩
theorem ZBV.nil{f:TypeId->Value->Option (DataW H×List MemPlace)}{cs:List Value}{xs:List (DataW H×List MemPlace)}(h:ZBV f [] cs xs):cs=[]/\xs=[]:=by
  match cs,xs,h with
  |[],[],_=>exact⟨rfl,rfl⟩
theorem Zyx{f:TypeId->Value->Option (DataW H×List MemPlace)}:∀(tys:List TypeId) (cs:List Value) (xs:List (DataW H×List MemPlace)),cs.length=tys.length->xs.length=tys.length->
    (∀(i:Nat) u c x,tys[i]?=some u->cs[i]?=some c->xs[i]?=some x->f u c=some x)->ZBV f tys cs xs
  |[],[],[],_,_,_=>trivial
  |u::us,c::cs,x::xs,h1,e,h=>⟨h 0 u c x rfl rfl rfl,Zyx us cs xs (by simpa using h1) (by simpa using e) λi u c x a b d=>h (i+1) u c x (by simpa using a) (by simpa using b) (by simpa using d)⟩
  |[],_::_,_,h,_,_=>by simp at h
  |[],[],_::_,_,h,_=>by simp at h
  |_::_,[],_,h,_,_=>by simp at h
  |_::_,_::_,[],_,h,_=>by simp at h
theorem fieldsOf{t:TypeId}{tys:List TypeId}{fuel:Nat}{cs:List Value}{x:DataW H×List MemPlace}(st:StT P t tys)(h1:∀u,u∈tys->P.cellsOf u=1)(h:DataW.trod enc P w base spare held fuel t cs=some x):
    ∃(n:Nat) (xs:List (DataW H×List MemPlace)),ZBV (λu c=>DataW.trod enc P w base spare held n u [c]) tys cs xs/\Rows.uptoBulk x.1=Rows.uptoBulkAll (xs.map (·.1))+1:=by
  obtain⟨fs,j,g,r⟩:=st;obtain⟨xs,n,rfl,rfl,hlen,k,e⟩:=DataW.trod_struct j h
  have l:fs.size=tys.length:=by
    have:=congrArg List.length g;simpa using this
  refine⟨n,xs,Zyx tys cs xs (by omega) (by omega) λi u c x a b d=>?_,by simp only[Rows.uptoBulk]⟩;obtain⟨f,m,o,q⟩:=Zya g (i:=i) (p:=(u,i)) (by rw[List.getElem?_zipIdx,a];simp);have:=e i f m;rw[o,q,h1 u (Axo a),d]at this;rw[<-this];congr 1;obtain⟨hi,rfl⟩:=Ayf.1 b;rw[Aym hi];rfl
theorem ZDu{n:Nat}{ts:TypeId}{c:Value}{x:DataW H×List MemPlace}(a:P.underlying ts=some .string)(h:DataW.trod enc P w base spare held n ts [c]=some x):∃s:BL,c=sV s/\Rows.uptoBulk x.1=Rows.uptoBulk (.lit (.string s):DataW H):=by obtain⟨s,h1,b,_⟩:=DataW.trod_string a h;simp at h1;subst h1;exact⟨s.data.toList,rfl,by rw[b]⟩
theorem ZqW{n:Nat}{ti:TypeId}{c:Value}{x:DataW H×List MemPlace}(a:P.underlying ti=some (.int .i64))(h:DataW.trod enc P w base spare held n ti [c]=some x):∃s:Int,c=i64 s/\Zoa s:=by obtain⟨s,h1,b,h3⟩:=DataW.trod_int a h;simp at h1;subst h1;have:=ZF4 h3;exact⟨s,rfl,by unfold Zoa;omega⟩
theorem tU8{n:Nat}{ti:TypeId}{c:Value}{x:DataW H×List MemPlace}(a:P.underlying ti=some (.int .u8))(h:DataW.trod enc P w base spare held n ti [c]=some x):∃s:Nat,c=i8 s/\s<256:=by obtain⟨s,h1,b,h3⟩:=DataW.trod_int a h;simp at h1;subst h1;have:=ZNl h3;exact⟨s.toNat,by unfold i8;rw[Axe this.1],by omega⟩
theorem ZAn{n:Nat}{ti:TypeId}{c:Value}{x:DataW H×List MemPlace}(a:P.underlying ti=some .bool)(h:DataW.trod enc P w base spare held n ti [c]=some x):∃s:Bool,c= .bool s:=by obtain⟨s,h1,b⟩:=DataW.trod_bool a h;simp at h1;exact⟨s,h1⟩
theorem tSl{u e:TypeId}{n:Nat}{c:Value}{y:DataW H×List MemPlace}(hu:P.underlying u=some (.slice e))(f:DataW.trod enc P w base spare held n u [c]=some y):∃s:Sl,c=slV s:=by
  rcases Deep.open_slice hu f with⟨a,_⟩ |⟨a',b,d,m,g,D,h,a,_⟩
  ·simp at a;exact⟨⟨none,0,0⟩,a⟩
  ·simp at a;exact⟨⟨some a',b,d⟩,a⟩
theorem ZhB(s:BL):s.length+1<=Rows.uptoBulk (.lit (.string s):DataW H):=by simp only[Rows.uptoBulk];omega
structure TyR(P:Program)(tR tF tB tH tY tL tI ts tb ti tsg tsh tg sF sB sH sY sL sI sT:TypeId):Prop where
  R:StT P tR [sF,sB,sH,sY,sL]
  F:StT P tF [ts,ts,tb,ti,tsg,ts,tsh,ti,ti,tb,ti,tb]
  B:StT P tB [ts,tg,ti,ti,ti,ti,ti]
  H:StT P tH [ts,ti,ti,ti,sI]
  Y:StT P tY [ti,ti,ti,ti,ti]
  L:StT P tL [ts,tb,sT]
  I:StT P tI [ts,ti]
  s:P.underlying ts=some .string
  b:P.underlying tb=some .bool
  i:P.underlying ti=some (.int .i64)
  sg:P.underlying tsg=some (.int .u8)
  sh:P.underlying tsh=some (.int .u8)
  g:P.underlying tg=some (.int .u8)
  lF:P.underlying sF=some (.slice tF)
  lB:P.underlying sB=some (.slice tB)
  lH:P.underlying sH=some (.slice tH)
  lY:P.underlying sY=some (.slice tY)
  lL:P.underlying sL=some (.slice tL)
  lI:P.underlying sI=some (.slice tI)
  lT:P.underlying sT=some (.slice ts)
  one:([ts,tb,ti,tsg,tsh,tg,sF,sB,sH,sY,sL,sI,sT].all λu=>P.cellsOf u==1)=true
end
end Go.Proofs.YtonbfpnngkemiaaGreat.Rw
namespace Go.Proofs.YtonbfpnngkemiaaGreat.Rw
open Go Go.Fw Go.Js
section
variable{H:Type}{enc:TypeId×Value->H}{P:Program}{w:World}{base:Nat}{spare:Nat->Bool}{held:Bool}
variable{tR tF tB tH tY tL tI ts tb ti tsg tsh tg sF sB sH sY sL sI sT:TypeId}
theorem TyR.o(T:TyR P tR tF tB tH tY tL tI ts tb ti tsg tsh tg sF sB sH sY sL sI sT){tys:List TypeId}(h:∀u,u∈tys->u∈[ts,tb,ti,tsg,tsh,tg,sF,sB,sH,sY,sL,sI,sT]):∀u,u∈tys->P.cellsOf u=1:=λu hu=>by
  simpa using Axb.1 T.one u (h u hu)
theorem ZBc(T:TyR P tR tF tB tH tY tL tI ts tb ti tsg tsh tg sF sB sH sY sL sI sT){fuel:Nat}{cs:List Value}{x:DataW H×List MemPlace}(h:DataW.trod enc P w base spare held fuel tF cs=some x):∃a:FlowP,cs=Ze9 a/\a.rng/\a.wt<=16*Rows.uptoBulk x.1:=by obtain⟨n,xs,c,r⟩:=fieldsOf T.F (T.o λu hu=>by simp only[Awr]at hu⊢;rcases hu with h|h|h|h|h|h|h|h|h|h|h|h|h<;>simp_all) h;obtain⟨_,cs,Q,xs,rfl,rfl,h1,c⟩:=c.inv;obtain⟨_,cs,R,xs,rfl,rfl,t,c⟩:=c.inv;obtain⟨_,cs,S,xs,rfl,rfl,h3,c⟩:=c.inv;obtain⟨_,cs,U,xs,rfl,rfl,v,c⟩:=c.inv;obtain⟨_,cs,V,xs,rfl,rfl,y,c⟩:=c.inv;obtain⟨_,cs,W,xs,rfl,rfl,z,c⟩:=c.inv;obtain⟨_,cs,X,xs,rfl,rfl,A,c⟩:=c.inv;obtain⟨_,cs,Y,xs,rfl,rfl,B,c⟩:=c.inv;obtain⟨_,cs,Z,xs,rfl,rfl,C,c⟩:=c.inv;obtain⟨_,cs,D,xs,rfl,rfl,d,c⟩:=c.inv;obtain⟨_,cs,E,xs,rfl,rfl,e,c⟩:=c.inv;obtain⟨_,cs,G,xs,rfl,rfl,f,c⟩:=c.inv;obtain⟨rfl,rfl⟩:=c.nil;obtain⟨m,rfl,b1⟩:=ZDu T.s h1;obtain⟨p,rfl,b2⟩:=ZDu T.s t;obtain⟨a3,rfl⟩:=ZAn T.b h3;obtain⟨a4,rfl,I⟩:=ZqW T.i v;obtain⟨a5,rfl,J⟩:=tU8 T.sg y;obtain⟨q,rfl,b6⟩:=ZDu T.s z;obtain⟨K,rfl,L⟩:=tU8 T.sh A;obtain⟨M,rfl,N⟩:=ZqW T.i B;obtain⟨a9,rfl,O⟩:=ZqW T.i C;obtain⟨g,rfl⟩:=ZAn T.b d;obtain⟨j,rfl,k⟩:=ZqW T.i e;obtain⟨l,rfl⟩:=ZAn T.b f;refine⟨⟨m,p,a3,a4,a5,q,K,M,a9,g,j,l⟩,rfl,⟨I,J,L,N,O,k⟩,?_⟩;have l1:=ZhB (H:=H) m;have l2:=ZhB (H:=H) p;have l6:=ZhB (H:=H) q;simp only[Awo,Rows.uptoBulkAll]at r;simp only[FlowP.wt];omega
theorem Zyv(T:TyR P tR tF tB tH tY tL tI ts tb ti tsg tsh tg sF sB sH sY sL sI sT){fuel:Nat}{cs:List Value}{x:DataW H×List MemPlace}(h:DataW.trod enc P w base spare held fuel tB cs=some x):∃a:YN,cs=Zdh a/\a.rng/\a.wt<=16*Rows.uptoBulk x.1:=by obtain⟨n,xs,b,d⟩:=fieldsOf T.B (T.o λu hu=>by simp only[Awr]at hu⊢;rcases hu with h|h|h|h|h|h|h|h<;>simp_all) h;obtain⟨_,cs,C,xs,rfl,rfl,h1,b⟩:=b.inv;obtain⟨_,cs,D,xs,rfl,rfl,e,b⟩:=b.inv;obtain⟨_,cs,E,xs,rfl,rfl,h3,b⟩:=b.inv;obtain⟨_,cs,F,xs,rfl,rfl,f,b⟩:=b.inv;obtain⟨_,cs,G,xs,rfl,rfl,j,b⟩:=b.inv;obtain⟨_,cs,I,xs,rfl,rfl,k,b⟩:=b.inv;obtain⟨_,cs,J,xs,rfl,rfl,l,b⟩:=b.inv;obtain⟨rfl,rfl⟩:=b.nil;obtain⟨c,rfl,b1⟩:=ZDu T.s h1;obtain⟨m,rfl,p⟩:=tU8 T.g e;obtain⟨a3,rfl,q⟩:=ZqW T.i h3;obtain⟨a4,rfl,r⟩:=ZqW T.i f;obtain⟨a5,rfl,t⟩:=ZqW T.i j;obtain⟨v,rfl,y⟩:=ZqW T.i k;obtain⟨z,rfl,A⟩:=ZqW T.i l;refine⟨⟨c,m,a3,a4,a5,v,z⟩,rfl,⟨p,q,r,t,y,A⟩,?_⟩;have K:=ZhB (H:=H) c;simp only[Awo,Rows.uptoBulkAll]at d;simp only[YN.wt];omega
theorem ZvQ(T:TyR P tR tF tB tH tY tL tI ts tb ti tsg tsh tg sF sB sH sY sL sI sT){fuel:Nat}{cs:List Value}{x:DataW H×List MemPlace}(h:DataW.trod enc P w base spare held fuel tY cs=some x):∃a:Zav,cs=ZgQ a/\a.rng/\1<=16*Rows.uptoBulk x.1:=by obtain⟨n,xs,b,q⟩:=fieldsOf T.Y (T.o λu hu=>by simp only[Awr]at hu⊢;rcases hu with h|h|h|h|h|h<;>simp_all) h;obtain⟨_,cs,r,xs,rfl,rfl,h1,b⟩:=b.inv;obtain⟨_,cs,s,xs,rfl,rfl,c,b⟩:=b.inv;obtain⟨_,cs,t,xs,rfl,rfl,h3,b⟩:=b.inv;obtain⟨_,cs,v,xs,rfl,rfl,d,b⟩:=b.inv;obtain⟨_,cs,y,xs,rfl,rfl,e,b⟩:=b.inv;obtain⟨rfl,rfl⟩:=b.nil;obtain⟨f,rfl,g⟩:=ZqW T.i h1;obtain⟨j,rfl,k⟩:=ZqW T.i c;obtain⟨a3,rfl,l⟩:=ZqW T.i h3;obtain⟨a4,rfl,m⟩:=ZqW T.i d;obtain⟨a5,rfl,p⟩:=ZqW T.i e;exact⟨⟨f,j,a3,a4,a5⟩,rfl,⟨g,k,l,m,p⟩,by omega⟩
theorem ZBb(T:TyR P tR tF tB tH tY tL tI ts tb ti tsg tsh tg sF sB sH sY sL sI sT){fuel:Nat}{cs:List Value}{x:DataW H×List MemPlace}(h:DataW.trod enc P w base spare held fuel tI cs=some x):∃a:BL×Int,cs=[sV a.1,i64 a.2]/\Zoa a.2/\Zmi a<=16*Rows.uptoBulk x.1:=by obtain⟨n,xs,b,d⟩:=fieldsOf T.I (T.o λu hu=>by simp only[Awr]at hu⊢;rcases hu with h|h|h<;>simp_all) h;obtain⟨_,cs,j,xs,rfl,rfl,h1,b⟩:=b.inv;obtain⟨_,cs,k,xs,rfl,rfl,e,b⟩:=b.inv;obtain⟨rfl,rfl⟩:=b.nil;obtain⟨c,rfl,b1⟩:=ZDu T.s h1;obtain⟨f,rfl,g⟩:=ZqW T.i e;refine⟨(c,f),rfl,g,?_⟩;have l:=ZhB (H:=H) c;simp only[Awo,Rows.uptoBulkAll]at d;simp only[Zmi];omega
theorem ZEN(T:TyR P tR tF tB tH tY tL tI ts tb ti tsg tsh tg sF sB sH sY sL sI sT){fuel:Nat}{cs:List Value}{x:DataW H×List MemPlace}(h:DataW.trod enc P w base spare held fuel tH cs=some x):
    ∃a:Sl×Zen,cs=Zlf a/\(a.2.rng/\ZN1 w.heap (λb=>b<sz w.heap) a)/\a.2.wt<=16*Rows.uptoBulk x.1:=by
  obtain⟨n,xs,c,l⟩:=fieldsOf T.H (T.o λu hu=>by simp only[Awr]at hu⊢;rcases hu with h|h|h|h|h|h<;>simp_all) h;obtain⟨_,cs,F,xs,rfl,rfl,h1,c⟩:=c.inv;obtain⟨_,cs,G,xs,rfl,rfl,m,c⟩:=c.inv;obtain⟨_,cs,J,xs,rfl,rfl,h3,c⟩:=c.inv;obtain⟨_,cs,K,xs,rfl,rfl,q,c⟩:=c.inv;obtain⟨_,cs,t,xs,rfl,rfl,f,c⟩:=c.inv;obtain⟨rfl,rfl⟩:=c.nil;obtain⟨j,rfl,b1⟩:=ZDu T.s h1;obtain⟨v,rfl,z⟩:=ZqW T.i m;obtain⟨a3,rfl,A⟩:=ZqW T.i h3;obtain⟨a4,rfl,B⟩:=ZqW T.i q;obtain⟨s5,rfl⟩:=tSl T.lI f;obtain⟨fs,C,D,d⟩:=T.I
  obtain ⟨E,⟨k,ip⟩,ib⟩:=ZfN (α:=BL×Int) (g:=λp=>[sV p.1,i64 p.2]) (n:=2) (Pa:=λp=>Zoa p.2) (μ:=Zmi) (N:=Rows.uptoBulk t.1) (λ_=>rfl) (by decide) T.lI d (λ{fuel cs y} _ h=>by
    obtain⟨a,e,r,b⟩:=ZBb T h
    exact⟨a,e,r,b⟩) (Aqo _) f
  refine⟨(s5,⟨j,v,a3,a4,E⟩),rfl,⟨⟨z,A,B,ip⟩,k,Zk0 k (by decide)⟩,?_⟩;have L:=ZhB (H:=H) j;simp only[Awo,Rows.uptoBulkAll]at l;simp only[Zen.wt];omega
theorem ZBa(T:TyR P tR tF tB tH tY tL tI ts tb ti tsg tsh tg sF sB sH sY sL sI sT){fuel:Nat}{cs:List Value}{x:DataW H×List MemPlace}(h:DataW.trod enc P w base spare held fuel tL cs=some x):
    ∃a:Sl×Zbt,cs=Zix a/\ZyF w.heap (λb=>b<sz w.heap) a/\a.2.wt<=16*Rows.uptoBulk x.1:=by
  obtain⟨n,xs,c,j⟩:=fieldsOf T.L (T.o λu hu=>by simp only[Awr]at hu⊢;rcases hu with h|h|h|h<;>simp_all) h;obtain⟨_,cs,q,xs,rfl,rfl,h1,c⟩:=c.inv;obtain⟨_,cs,r,xs,rfl,rfl,k,c⟩:=c.inv;obtain⟨_,cs,l,xs,rfl,rfl,h3,c⟩:=c.inv;obtain⟨rfl,rfl⟩:=c.nil;obtain⟨f,rfl,b1⟩:=ZDu T.s h1;obtain⟨m,rfl⟩:=ZAn T.b k;obtain⟨i,rfl⟩:=tSl T.lT h3
  obtain ⟨nl,⟨p,_⟩,t⟩:=ZfN (α:=BL) (g:=λn=>[sV n]) (n:=1) (Pa:=λ_=>True) (μ:=Zme) (N:=Rows.uptoBulk l.1) (λ_=>rfl) (by decide) T.lT (T.o (tys:=[ts]) (by simp) ts (by simp)) (λ{fuel cs y} _ h=>by
    obtain⟨s,e,he,_⟩:=DataW.trod_string T.s h;refine⟨s.data.toList,by rw[e],trivial,?_⟩;rw[he];have:=ZhB (H:=H) s.data.toList;simp only[Zme]
    omega) (Aqo _) h3
  have d:Row w.heap i 1 (nl.map sV):=by rw[<-Zx6];exact p
  refine⟨(i,⟨f,m,nl⟩),rfl,⟨d,Zk0 d (by decide)⟩,?_⟩;have v:=ZhB (H:=H) f;simp only[Awo,Rows.uptoBulkAll]at j;simp only[Zbt.wt];omega
theorem Zys(T:TyR P tR tF tB tH tY tL tI ts tb ti tsg tsh tg sF sB sH sY sL sI sT){fuel:Nat}{cs:List Value}{x:DataW H×List MemPlace}(h:DataW.trod enc P w base spare held fuel tR cs=some x):
    ∃(z:VTR) (r:RulesP),cs=Zi6 z/\YY w.heap (λb=>b<sz w.heap) z r/\r.rng/\r.wt<=16*Rows.uptoBulk x.1:=by
  obtain⟨n,xs,c,v⟩:=fieldsOf T.R (T.o λu hu=>by simp only[Awr]at hu⊢;rcases hu with h|h|h|h|h|h<;>simp_all) h;obtain⟨_,cs,A,xs,rfl,rfl,h1,c⟩:=c.inv;obtain⟨_,cs,C,xs,rfl,rfl,e,c⟩:=c.inv;obtain⟨_,cs,D,xs,rfl,rfl,h3,c⟩:=c.inv;obtain⟨_,cs,E,xs,rfl,rfl,i,c⟩:=c.inv;obtain⟨_,cs,G,xs,rfl,rfl,j,c⟩:=c.inv;obtain⟨rfl,rfl⟩:=c.nil;obtain⟨s1,rfl⟩:=tSl T.lF h1;obtain⟨s2,rfl⟩:=tSl T.lB e;obtain⟨I,rfl⟩:=tSl T.lH h3;obtain⟨s4,rfl⟩:=tSl T.lY i;obtain⟨s5,rfl⟩:=tSl T.lL j
  haveI:Inhabited FlowP:=⟨⟨[],[],false,0,0,[],0,0,0,false,0,false⟩⟩
  haveI:Inhabited YN:=⟨⟨[],0,0,0,0,0,0⟩⟩
  haveI:Inhabited Zav:=⟨⟨0,0,0,0,0⟩⟩
  haveI:Inhabited (Sl×Zen):=⟨(⟨none,0,0⟩,⟨[],0,0,0,[]⟩)⟩
  haveI:Inhabited (Sl×Zbt):=⟨(⟨none,0,0⟩,⟨[],false,[]⟩)⟩
  obtain⟨f1,⟨k,J⟩,b1⟩:=ZfN (α:=FlowP) (g:=Ze9) (n:=12) (Pa:=FlowP.rng) (μ:=FlowP.wt) (N:=Rows.uptoBulk A.1) (λ_=>rfl) (by decide) T.lF T.F.choose_spec.2.2 (λ{fuel cs y} _ h=>ZBc T h) (Aqo _) h1;obtain⟨f2,⟨l,K⟩,b2⟩:=ZfN (α:=YN) (g:=Zdh) (n:=7) (Pa:=YN.rng) (μ:=YN.wt) (N:=Rows.uptoBulk C.1) (λ_=>rfl) (by decide) T.lB T.B.choose_spec.2.2 (λ{fuel cs y} _ h=>Zyv T h) (Aqo _) e;obtain⟨f3,⟨m,q⟩,Q⟩:=ZfN (α:=Sl×Zen) (g:=Zlf) (n:=5) (Pa:=λa=>a.2.rng/\ZN1 w.heap (λb=>b<sz w.heap) a) (μ:=λa=>a.2.wt) (N:=Rows.uptoBulk D.1) (λ_=>rfl) (by decide) T.lH T.H.choose_spec.2.2 (λ{fuel cs y} _ h=>ZEN T h) (Aqo _) h3;obtain⟨f4,⟨s,M⟩,b4⟩:=ZfN (α:=Zav) (g:=ZgQ) (n:=5) (Pa:=Zav.rng) (μ:=λ_=>1) (N:=Rows.uptoBulk E.1) (λ_=>rfl) (by decide) T.lY T.Y.choose_spec.2.2 (λ{fuel cs y} _ h=>ZvQ T h) (Aqo _) i;obtain⟨f5,⟨t,O⟩,S⟩:=ZfN (α:=Sl×Zbt) (g:=Zix) (n:=3) (Pa:=λa=>ZyF w.heap (λb=>b<sz w.heap) a) (μ:=λa=>a.2.wt) (N:=Rows.uptoBulk G.1) (λ_=>rfl) (by decide) T.lL T.L.choose_spec.2.2 (λ{fuel cs y} _ h=>ZBa T h) (Aqo _) j;refine⟨(s1,s2,I,s4,s5,()),⟨f1,f2,f3.map (·.2),f4,f5.map (·.2)⟩,rfl,⟨⟨k,Zk0 k (by decide)⟩,⟨l,Zk0 l (by decide)⟩,⟨f3,rfl,⟨m,Zk0 m (by decide)⟩,λp d=>(q p d).2⟩,⟨s,Zk0 s (by decide)⟩,⟨f5,rfl,⟨t,Zk0 t (by decide)⟩,O⟩⟩,⟨J,K,λf c=>?_,M⟩,?_⟩
  ·obtain⟨p,d,rfl⟩:=Ayv.1 c;exact(q p d).1
  ·simp only[Awo,List.map_nil,Rows.uptoBulkAll]at v;simp only[RulesP.wt,List.map_map];have U:(f3.map (Zen.wt ∘ λx=>x.2)).sum=(f3.map λa=>a.2.wt).sum:=rfl;have V:(f5.map (Zbt.wt ∘ λx=>x.2)).sum=(f5.map λa=>a.2.wt).sum:=rfl;omega
end
end Go.Proofs.YtonbfpnngkemiaaGreat.Rw
namespace Go.Proofs.YtonbfpnngkemiaaGreat
open Go Go.Fw Go.Js Go.ChangeShapes Go.WideShapes
theorem Zud:∀l:List ByteArray,l.flatMap (λs=>[Value.string s])=l.map .string
  |[]=>rfl
  |x::l=>by rw[Ayc,Zud l];rfl
theorem Zjt{α:Type}{f:α->Nat}:∀{l:List α} {a:α},a∈l->f a<=(l.map f).sum
  |[],a,h=>by cases h
  | b::l,a,h=>by
    rw[Awo,Aza]
    rcases Awr.1 h with rfl|h
    ·omega
    ·have:=Zjt (f:=f) h;omega
theorem ZxC{α:Type}{f:α->Nat}(c:∀a,1<=f a):∀(l:List α),l.length<=(l.map f).sum
  |[]=>Aye _
  | b::l=>by
    rw[Awo,Aza,Aqj];have:=ZxC c l;have:=c b;omega
theorem Zx7{r:RulesP}(h:r.wt<=1000000000000):Rw.RulesP.fit r:=by
  unfold RulesP.wt at h;refine⟨λf b=>?_,λf b=>?_,λf b=>⟨?_,?_⟩,λf b=>⟨?_,λn c=>?_⟩⟩
  ·have h1:f.wt<=(r.fl.map FlowP.wt).sum:=Zjt b;have e:f.wt=1+f.res.length+f.org.length+f.ref.length:=rfl;omega
  ·have h1:f.wt<=(r.br.map YN.wt).sum:=Zjt b;have e:f.wt=1+f.res.length:=rfl;omega
  ·have h1:f.wt<=(r.ho.map Zen.wt).sum:=Zjt b;have e:f.wt=1+f.res.length+(f.items.map Zmi).sum:=rfl;omega
  ·have h1:f.wt<=(r.ho.map Zen.wt).sum:=Zjt b;have e:f.wt=1+f.res.length+(f.items.map Zmi).sum:=rfl;have d:=ZxC (f:=Zmi) (λa=>by unfold Zmi;omega) f.items;omega
  ·have h1:f.wt<=(r.li.map Zbt.wt).sum:=Zjt b;have e:f.wt=1+f.res.length+(f.origins.map Zme).sum:=rfl;omega
  ·have h1:f.wt<=(r.li.map Zbt.wt).sum:=Zjt b;have e:f.wt=1+f.res.length+(f.origins.map Zme).sum:=rfl;have d:Zme n<=(f.origins.map Zme).sum:=Zjt c;have g:Zme n=1+n.length:=rfl;omega
section
variable{H:Type}{enc:TypeId×Value->H}{P:Program}{w:World}{base:Nat}{spare:Nat->Bool}{held:Bool}
theorem Zyu{t:TypeId}{fs:Array Field}{cs:List Value}{fuel:Nat}{x:DataW H×List MemPlace}(E:P.underlying t=some (.struct fs))(F:P.cellsOf t=7){j ts tb tl:TypeId}(k:P.underlying j=some (.int .i64))(e:P.underlying ts=some .string)(v:P.underlying tb=some .bool)(m:P.underlying tl=some (.slice ts))
    (ci:P.cellsOf j=1) (o:P.cellsOf ts=1) (cb:P.cellsOf tb=1) (cl:P.cellsOf tl=1) (A:fs.toList.map (λf=>(f.type,f.offset))=[(j,0),(ts,1),(ts,2),(ts,3),(tb,4),(j,5),(tl,6)])
    (h:DataW.trod enc P w base spare held fuel t cs=some x):∃(c:PC) (sl:Sl) (al:List ByteArray),cs=c8L (Go.Proofs.YtonbfpnngkemiaaGreat.cl c sl)/\Row w.heap sl 1 (al.map .string)/\Zic (Go.Proofs.YtonbfpnngkemiaaGreat.cl c nl)/\al.length<=16*Rows.uptoBulk x.1:=by
  obtain⟨xs,n,rfl,rfl,hl,hlen,q⟩:=DataW.trod_struct E h;rw[F]at hl
  have G:fs.size=7:=by
    have:=congrArg List.length A;simpa using this
  match cs,hl with
  | [c0,c1,I,J,K,L,M],_=>
    have b:∀{i:Nat} {p:TypeId×Nat} (hi:i<xs.length),([(j,0),(ts,1),(ts,2),(ts,3),(tb,4),(j,5),(tl,6)]:List (TypeId×Nat))[i]?=some p->DataW.trod enc P w base spare held n p.1 (([c0,c1,I,J,K,L,M].drop p.2).take (P.cellsOf p.1))=some xs[i]:=λ{i p} hi O=>by
      obtain⟨f,Q,R,S⟩:=Rw.Zya A O;have:=q i f Q;rw[R,S,Axy hi]at this;exact this
    have f0:=b (i:=0) (by omega) rfl;have f1:=b (i:=1) (by omega) rfl;have f2:=b (i:=2) (by omega) rfl;have f3:=b (i:=3) (by omega) rfl;have f4:=b (i:=4) (by omega) rfl;have f5:=b (i:=5) (by omega) rfl;have f6:=b (i:=6) (by omega) rfl;dsimp only at f0 f1 f2 f3 f4 f5 f6;rw[ci]at f0 f5;rw[o]at f1 f2 f3;rw[cb]at f4;rw[cl]at f6;obtain⟨T,h0,_⟩:=DataW.trod_int k f0;obtain⟨s1,h1,_,U⟩:=DataW.trod_string e f1;obtain⟨s2,B,_,V⟩:=DataW.trod_string e f2;obtain⟨W,h3,_,z3⟩:=DataW.trod_string e f3;obtain⟨b4,C,_⟩:=DataW.trod_bool v f4;obtain⟨X,D,_⟩:=DataW.trod_int k f5;simp at h0 h1 B h3 C D;subst h0 h1 B h3 C D;obtain⟨Y,Z⟩:=Rw.tSl m f6;subst Z
    obtain ⟨al,⟨r,_⟩,u⟩:=Rw.ZfN (α:=ByteArray) (g:=λs=>[Value.string s]) (n:=1) (Pa:=λ_=>True) (μ:=λ_=>1) (N:=Rows.uptoBulk (xs[6]'(by omega)).1) (λ_=>rfl) (by decide) m o (λ{fuel cs y} _ h=>by
      obtain⟨s,z,he,_⟩:=DataW.trod_string e h;have:=ZA5 y.1
      exact⟨s,z,trivial,by omega⟩) (Aqo _) f6
    refine⟨(T,s1,s2,W,b4,X),Y,al,rfl,?_,⟨Rw.Zlb U,Rw.Zlb V,Rw.Zlb z3⟩,?_⟩
    ·rw[<-Zud al];exact r
    ·have e1:(al.map λ_=>1).sum=al.length:=by
       clear r u
       induction al with
       |nil=>rfl
       |cons a l ih=>simp[ih];omega
     have hm:=Rw.ZqH (H:=H) (d:=(xs[6]'(by omega)).1) (l:=xs.map (·.1)) (Ayv.2 ⟨_,Ayx _,rfl⟩);simp only[Rows.uptoBulk];omega
end
theorem tyR:Rw.TyR Tryz.prog 39 69 141 72 144 147 74 9 4 3 66 67 139 33 34 35 36 37 70 23 where
  R:=⟨_,Tryz.underlying39,by kernel_rfl,by kernel_rfl⟩
  F:=⟨_,Tryz.underlying69,by kernel_rfl,by kernel_rfl⟩
  B:=⟨_,Tryz.underlying141,by kernel_rfl,by kernel_rfl⟩
  H:=⟨_,Tryz.underlying72,by kernel_rfl,by kernel_rfl⟩
  Y:=⟨_,Tryz.underlying144,by kernel_rfl,by kernel_rfl⟩
  L:=⟨_,Tryz.underlying147,by kernel_rfl,by kernel_rfl⟩
  I:=⟨_,Tryz.underlying74,by kernel_rfl,by kernel_rfl⟩
  s:=Tryz.underlying9
  b:=Tryz.underlying4
  i:=Tryz.underlying3
  sg:=Tryz.underlying66
  sh:=Tryz.underlying67
  g:=Tryz.underlying139
  lF:=Tryz.underlying33
  lB:=Tryz.underlying34
  lH:=Tryz.underlying35
  lY:=Tryz.underlying36
  lL:=Tryz.underlying37
  lI:=Tryz.underlying70
  lT:=Tryz.underlying23
  one:=by kernel_rfl
theorem ZvS{H:Type}{enc:TypeId×Value->H}{w:World}{base:Nat}{spare:Nat->Bool}{held:Bool}{fuel:Nat}{a:Option Addr}{len cap:Nat}{x:DataW H×List MemPlace}
    (h:DataW.trod enc Tryz.prog w base spare held fuel 26 [.slice a len cap]=some x):∃l:List ZqV,Row w.heap ⟨a,len,cap⟩ 7 (l.flatMap ZvN)/\∀y,y∈l->ZyN w.heap (sz w.heap) y:=by
  haveI:Inhabited ZqV:=⟨((0,em,em,em,false,0),nl,[])⟩
  obtain ⟨l,hl,_⟩:=Rw.ZfN (α:=ZqV) (g:=ZvN) (n:=7) (Pa:=λy=>ZyN w.heap (sz w.heap) y) (μ:=λ_=>0) (N:=Rows.uptoBulk x.1) (λ_=>rfl) (by decide) Tryz.underlying26 (by kernel_rfl) (λ{fuel cs y} q h=>by
    obtain⟨c,sl,al,h1,f,h3,r⟩:=Zyu Tryz.underlying25 (by kernel_rfl) Tryz.underlying3 Tryz.underlying9 Tryz.underlying4 Tryz.underlying23 (by kernel_rfl) (by kernel_rfl) (by kernel_rfl) (by kernel_rfl) (by kernel_rfl) h
    exact ⟨(c,sl,al),h1,⟨f,λd b j=>by
      rcases f.at_ with h0|⟨k,o,m,p⟩
      ·exact absurd h0 d
      ·have i:b=k:=by simp[Sl.blk,m]at j;exact j.symm
       subst i
       exact Zt9 p λe=>by have:=f.len;rw[e]at this;simp at this;exact d this.symm,h3⟩,Aye _⟩) (Aqo _) h
  exact⟨l,hl⟩
theorem Zyt{H:Type}{enc:TypeId×Value->H}{w:World}{base:Nat}{spare:Nat->Bool}{held:Bool}{fuel:Nat}{a:Option Addr}{len cap:Nat}{x:DataW H×List MemPlace}
    (h:DataW.trod enc Tryz.prog w base spare held fuel 60 [.slice a len cap]=some x):∃l:List Int,Row w.heap ⟨a,len,cap⟩ 1 (l.map iv):=by
  obtain ⟨l,hl,_⟩:=Rw.ZfN (α:=Int) (g:=λn=>[iv n]) (n:=1) (Pa:=λ_=>True) (μ:=λ_=>0) (N:=Rows.uptoBulk x.1) (λ_=>rfl) (by decide) Tryz.underlying60 (by kernel_rfl) (λ{fuel cs y} d h=>by
    obtain⟨b,h0,_⟩:=DataW.trod_int Tryz.underlying3 h
    exact⟨b,h0,trivial,Aye _⟩) (Aqo _) h
  have:∀l:List Int,l.flatMap (λn=>[iv n])=l.map iv:=λl=>by
    induction l with
    |nil=>rfl
    |cons a l c=>rw[Ayc,c];rfl
  exact⟨l,this l▸hl.1⟩
theorem ZvR{H:Type}{enc:TypeId×Value->H}{w:World}{base:Nat}{spare:Nat->Bool}{held:Bool}{fuel:Nat}{cs:List Value}{x:DataW H×List MemPlace}(c:Rows.uptoBulk x.1<=1048576)
    (h:DataW.trod enc Tryz.prog w base spare held fuel 39 cs=some x):∃(z:Rw.VTR) (r:RulesP),cs=Rw.Zi6 z/\Rw.YY w.heap (λb=>b<sz w.heap) z r/\r.rng/\r.wt<=16777216:=by
  obtain⟨z,r,h1,a,h3,d⟩:=Rw.Zys tyR h;exact⟨z,r,h1,a,h3,by omega⟩
theorem Zn8{h:Zf}{z:Rw.VTR}{r:RulesP}{l:Sl}{a:List ZqV}{xs:Sl}{es:List Int}{K:Bool->Zf->Prop}(c:Rw.YY h (λb=>b<sz h) z r/\r.rng/\r.wt<=16777216)(hl:Row h l 7 (a.flatMap ZvN)/\∀y,y∈a->ZyN h (sz h) y)(d:Row h xs 1 (es.map iv))(e:∀h',Ext h h'->K true h'):XR z l xs K h:=
  Ztd c.1 (Zx7 (by have:=c.2.2;omega)) hl.1 hl.2 d e
end Go.Proofs.YtonbfpnngkemiaaGreat
