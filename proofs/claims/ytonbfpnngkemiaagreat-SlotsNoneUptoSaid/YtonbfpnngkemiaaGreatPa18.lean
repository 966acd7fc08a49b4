/- The walk over all rules: a flow rule's node. -/
import Derived.Test.YtonbfpnngkemiaaGreatPa17
set_option linter.unusedVariables false
set_option linter.unusedSimpArgs false
namespace Go.Proofs.YtonbfpnngkemiaaGreat
open Go Go.Fw Go.Js
theorem Zsx{res:ByteArray}{h:Zf}{K:K4->Zf->Prop}(b:∀h',Ext h h'->K (4,em,res,em,()) h'):ZbG res K h:=by unfold ZbG Zhr;refine ZF λh1 c1 c f=>ZaN c1 λd a e g=>?_;exact rI (Zb a rfl) (rS (Zb a rfl) (rS (Zb a rfl) (rS (Zb a rfl) (b d (c.then e λk b=>by subst b;exact Aqo _)))))
abbrev k4O(k:K4):Obj:=.cells (k4L k).toArray 114 (0,0)
section
variable{h:Zf}{T:TgM}{L:Lay}{G:GS}{base wb:Nat}{t:Sl}{c:PC}{sl:Sl}{gr:Bool}{tks:List Tk}{wt:Int}{vs:List Value}
theorem ZHd{f:FlowP}(I:ZcQ h T L G)(W:WkR h base wb L c sl gr tks wt t vs){K:Option Addr->Zf->Prop}(d:∀h' p,Ext h h'->ZoD h' p (G.t.f (ZtF (Zay (Rw.ZaL f) (cl c nl))))->K p h'):Zdn (some ⟨wb,0,none⟩) (Rw.ZaL f) K h:=by
  have hw:Zay (Rw.ZaL f) (cl c sl)=Zay (Rw.ZaL f) (cl c nl):=rfl;rw[<-hw]at d;unfold Zdn ZfS;refine ZF λh1 c1 y z1=>ZoF (λs a=>∃lb,s=(some ⟨lb,0,none⟩,())/\Ext h a/\obj a lb=some (.cells [.string (Zay (Rw.ZaL f) (cl c sl)).1,.string (Zay (Rw.ZaL f) (cl c sl)).2.1,.string (Zay (Rw.ZaL f) (cl c sl)).2.2.1,.bool (Zay (Rw.ZaL f) (cl c sl)).2.2.2.1].toArray 331 (0,0))) ?_ ?_
  ·generalize Zay (Rw.ZaL f) (cl c sl)=l at d⊢
   rintro _ C ⟨lb,rfl,g,X⟩;dsimp only;refine Zi (rS (Zb X rfl) (Zsx λh3 n=>ZF λD z e4 z4=>ZaN z λE J u5 z5=>?_));have M:Ext h3 E:=e4.then u5 λk d=>by subst d;exact Aqo _
   have A:=n.trans M;have v:=Zj X A;have i:=g.trans A;have w5:=(W.ext i).w;have af:=I.ext i;have lw:=Zp W.w;have ag:=Zp I.cells;have w3:sz h<=sz h3:=(g.trans n).size;have w4:sz D=sz h3+1:=z4;have ai:sz E=sz D:=z5;refine ZoF (λ(_:Unit) a=>obj a (sz h3)=some (k4O (ZtF l))/\Ext h a) ?_ ?_
   ·rintro _ F ⟨m,N⟩;have Y:=(W.ext N).w;have B:=I.ext N;refine Zi (rP (Zb Y rfl) (Zi (rP (Zb B.cells rfl) (rI (Zb m rfl) (rS (Zb m rfl) (rS (Zb m rfl) (rS (Zb m rfl) ?_)))))));exact Zp8 (k:=ZtF l) B.tree λh7 p Z f7=>⟨Yj (Zb (Zj Y Z) rfl),d h7 p (N.trans Z) f7⟩
   ·intro Q x
    have up:∀{a:Zf},Upd (· = sz h3) E a->Ext h a:=λ{a} u=>i.then u λk d=>by subst d;exact w3
    have O:∀{b:Bool},b=true->¬b=false:=λj h8=>by rw[j]at h8;cases h8
    refine Zi (rS (Zb v rfl) (Zd ⟨λq=>?_,λq=>?_⟩))
    ·have H:Z2 l.2.2.1 em=false:=by
       have j:(!Z2 l.2.2.1 em)=true:=q;simpa using j
     refine Zi (rS (Zb v rfl) (Zi (rS (Zb v rfl) (ZaN J λF m P z6=>x () F ⟨?_,up P⟩))));unfold ZtF;rw[if_pos H];exact m
    ·have H:Z2 l.2.2.1 em=true:=by
       have j:(!Z2 l.2.2.1 em)=false:=q;simpa using j
     refine Zi (rS (Zb v rfl) (Zd ⟨λR=>?_,λR=>?_⟩))
     ·have o:Z2 l.2.1 em=false:=by
        have j:(!Z2 l.2.1 em)=true:=R;simpa using j
      refine Zi (rS (Zb v rfl) (Zi (rS (Zb v rfl) (ZaN J λF m P z6=>x () F ⟨?_,up P⟩))));unfold ZtF;rw[if_neg (O H),if_pos o];exact m
     ·have o:Z2 l.2.1 em=true:=by
        have j:(!Z2 l.2.1 em)=false:=R;simpa using j
      refine x () E ⟨?_,i⟩;unfold ZtF;rw[if_neg (O H),if_neg (O o)];exact J
  ·intro Q x;have w1:=(W.ext y).w
   have S:∀a,Ext h1 a->Zo a [(wb,0+1,iv c.1),(wb,0+1+1,.string c.2.1),(wb,0+1+2,.string c.2.2.1),(wb,0+1+3,.string c.2.2.2.1),(wb,0+1+4,.bool c.2.2.2.2.1),(wb,0+1+5,iv c.2.2.2.2.2),(wb,0+1+6,slV sl)]:=λa e=>by
     have w:=Zj w1 e;exact⟨Zb w rfl,Zb w rfl,Zb w rfl,Zb w rfl,Zb w rfl,Zb w rfl,Zb w rfl,trivial⟩
   have U:∀a,Ext h1 a->Zo a [(sz h,0,.string (Zu f.res)),(sz h,0+1,.string (Zu f.org)),(sz h,0+2,.bool f.thr),(sz h,0+3,iv f.cnt),(sz h,0+4,.int .u8 f.strat),(sz h,0+5,.string (Zu f.ref)),(sz h,0+6,.int .u8 f.shape),(sz h,0+7,iv f.warm),(sz h,0+8,iv f.queue),(sz h,0+9,.bool f.clu),(sz h,0+10,iv f.id),(sz h,0+11,.bool f.fb)]:=λa e=>by
     have w:=Zj c1 e;exact⟨Zb w rfl,Zb w rfl,Zb w rfl,Zb w rfl,Zb w rfl,Zb w rfl,Zb w rfl,Zb w rfl,Zb w rfl,Zb w rfl,Zb w rfl,Zb w rfl,trivial⟩
   refine Zi (rS (Zb c1 rfl) (rS (Zb c1 rfl) (rB (Zb c1 rfl) (rI (Zb c1 rfl) (rI (Zb c1 rfl) (rS (Zb c1 rfl) (rI (Zb c1 rfl) (rI (Zb c1 rfl) (rI (Zb c1 rfl) (rB (Zb c1 rfl) (rI (Zb c1 rfl) (rB (Zb c1 rfl) (rI (Zb w1 rfl) (rS (Zb w1 rfl) (rS (Zb w1 rfl) (rS (Zb w1 rfl) (rB (Zb w1 rfl) (rI (Zb w1 rfl) (rL (s:=sl) (Zb w1 rfl) ⟨?_,?_⟩)))))))))))))))))))
   ·refine ZtW (r:=Rw.ZaL f) (c:=cl c sl) λC g=>ZF λh3 c3 n z3=>ZaN c3 λD z V z4=>x _ _ ⟨_,rfl,?_,z⟩;exact((y.trans g).trans n).then V λk d=>by subst d;exact(y.trans g).size
   ·refine ZF λC c2 g z2=>⟨S C g,U C g,ZtW (r:=Rw.ZaL f) (c:=cl c sl) λh3 n=>ZaN (Zj c2 n) λD z V z4=>x _ _ ⟨_,rfl,?_,z⟩⟩;exact((y.trans g).trans n).then V λk d=>by subst d;exact y.size
end
section
variable{h:Zf}{T:TgM}{L:Lay}{G:GS}{base wb:Nat}{t:Sl}{c:PC}{sl:Sl}{gr:Bool}{tks:List Tk}{wt:Int}{vs:List Value}
theorem Zw6(W:WkR h base wb L c sl gr tks wt t vs){wait x:Int}{b:Bool}{K:Bool->Zf->Prop}(a:∀h',WkR h' base wb L c sl gr tks (ZiE wt wait) t vs->WS wb t t h h'->K b h'):ZcG (some ⟨wb,0,none⟩) wait b x K h:=by unfold ZcG Zfn;refine Zi (rI (Zb W.w rfl) (Zi (ZcS W.w (show 0+11<12 by decide) rfl λh1 c1 d f=>Zd ?_)));obtain⟨e,s1⟩:=W.wait (wt':=ZiE wt wait) c1 d;exact a h1 e s1
theorem ZHG{i:Nat}{f:FlowP}{s:ShS}{p:ShP}(hE:ZcQ h T L G)(hb:∀j,T j≠none->j<base/\j≠wb)(W:WkR h base wb L c sl gr tks wt t vs)(hn:tks.length<=3000)(hL:L.fs[i]?=some (p,s))(aD:ZAS f s){Q:Bool->Zf->Prop}
    (F:∀h' t' bH,WkR h' base wb L c sl gr (tks++(ZkQ f s (G.t.f (ZtF (Zay (Rw.ZaL f) (cl c nl)))) c i).tk) (wtV wt (ZkQ f s (G.t.f (ZtF (Zay (Rw.ZaL f) (cl c nl)))) c i).wt) t' bH->WS wb t t' h h'->Q (!(ZkQ f s (G.t.f (ZtF (Zay (Rw.ZaL f) (cl c nl)))) c i).b) h'):ZbE (some ⟨wb,0,none⟩) (Rw.ZaL f) (p.1,p.2,()) Q h:=by
  have lw:=Zp W.w;have lb:=W.b;have M:∀j,sz h<=j->t.blk≠some j:=λj hj e=>by have:j<sz h:=(W.o.lt e).2;omega
  unfold ZbE ZfV;refine ZF λh1 c1 e1 z1=>ZF λh3 c3 e3 z3=>?_;have w1:sz h1=sz h+1:=z1;have X:=Zj c1 e3;refine rS (Zb X rfl) (rS (Zb X rfl) (rB (Zb X rfl) (rI (Zb X rfl) (rI (Zb X rfl) (rS (Zb X rfl) (rI (Zb X rfl) (rI (Zb X rfl) (rI (Zb X rfl) (rB (Zb X rfl) (rI (Zb X rfl) (rB (Zb X rfl) (?_))))))))))));have aQ:=e1.trans e3;refine ZHd (hE.ext aQ) (W.ext aQ) λcz q aR f16=>?_;generalize G.t.f (ZtF (Zay (Rw.ZaL f) (cl c nl)))=o at F f16;have ae:=aQ.trans aR;refine Zi (rI (Zb (W.ext ae).w rfl) (Zha f16 λaf bg=>ZF λcB bI bJ z23=>ZaN bI λbK bL bM z24=>Za ?_));have ag:sz h<=sz af:=(ae.trans bg).size;have aS:Ext af bK:=bJ.then bM λk F=>by subst F;exact Aqo _
  have C:=bg.trans aS;have aJ:=ae.trans C;refine Zi (rI (Zb (W.ext aJ).w rfl) (Zt4 (f16.ext C) λcC U ah=>ZF λcD bN bO z32=>ZcS bN (show 0<1 by decide) rfl λd bP bQ z33=>Za ?_));have aK:=aJ.trans ah;have D:Ext U d:=bO.then bQ λk F=>by subst F;exact Aqo _
  have ai:=aK.trans D;have V:sz h<=sz U:=aK.size;have aj:sz h<=sz d:=ai.size;have cr:obj d (sz h)=_:=Zj X ((aR.trans C).trans (ah.trans D));have cs:obj d (sz h1)=_:=Zj c3 ((aR.trans C).trans (ah.trans D));have cS:obj d (sz af)=_:=Zj bL (ah.trans D);have cP:obj d (sz U)=_:=bP;refine ZoF (λ(s:Option Addr×Option Addr×Unit) hh=>∃ab nb,s.1=some ⟨ab,0,none⟩/\s.2.1=some ⟨nb,0,none⟩/\obj hh ab=some (.cells [iv c.1].toArray 3 (0,0))/\obj hh nb=some (.cells [iv c.2.2.2.2.2].toArray 3 (0,0))/\Ext d hh/\sz d<=ab/\sz d<=nb) ?_ ?_
  ·rintro ⟨sa,sn,u⟩ bh ⟨ab,nb,ea,en,ca,cn,B,la,ln⟩;dsimp only at ea en⊢;subst ea;subst en;have r:=ai.trans B;have ls:sz h<=sz h1:=e1.size;have Y:sz h<=ab:=Aqp aj la;have Z:sz h<=nb:=Aqp aj ln;have g:=Zj cr (B);have I:=Zj cs (B);have aG:=Zj cS (B);have aa:=Zj cP (B);have f55:=f16.ext (C.trans (ah.trans (D.trans B)));refine rI (Zb g rfl) (Zd (Ym (λq1=>?_) λq1=>Zd (Ym (λq2=>?_) λq2=>Zd (Ym (λq3=>?_) λq3=>?_))))
   ·have bj:f.shape=1:=by have:(f.shape:Int)=1:=q1;omega
    have aT:=hE.ext r;obtain⟨p1,p2⟩:=p;obtain⟨s1,s2⟩:=s
    cases s2 with
    |none=>exact absurd rfl (aD.2 (.inl bj))
    |some w=>
    have lk:ZkQ f (s1,some w) o c i=⟨!wlV w c.1 (ZiS o c.1) (ZmY o c.1).1 c.2.2.2.2.2,[.warm i (ZiS o c.1) (ZmY o c.1).1],none⟩:=by
      unfold ZkQ;rw[if_pos bj]
    have ao:=W.ext r;refine Zi (rL (s:=t) (Zb ao.w rfl) (ZF λy aq a bk=>(ZkO aq rfl).rd ?_));have l:=r.trans a;have z:=W.ext l;refine ZlW (bx:=0) z (by omega) rfl (λt' O ar u64 au=>?_) rfl;have E:∀{j:Nat} {x:Obj},obj y j=some x->t.blk≠some j->obj O j=some x:=λ{j x} P hn=>(u64.old j (Zp P) hn).trans P;have av:=E z.w W.n;refine Zi (ZcS av (show 0+9<12 by decide) rfl λN aw R bl=>?_);have A:∀{j:Nat} {x:Obj},obj y j=some x->sz h<=j->obj N j=some x:=λ{j x} P hj=>(R.old j (Zp (E P (M j hj))) (show ¬j=wb by omega)).trans (E P (M j hj));have m:∀{b:Nat} {x:Obj} {o:Nat} {vv:Value},obj y b=some x->Zy o (some x)=some vv->sz h<=b->Bx y base wb t b o vv:=λ{b x o vv} h1 h2 h3=>⟨by rw[h1];exact h2,by omega,Zp h1,by omega,M b h3⟩;obtain⟨ay,S⟩:=z.add (v:=.func (.func 182) #[] #[pB (sz h1),pB ab,pB (sz U),pB (sz af),pB nb]) (tk:=.warm i (ZiS o c.1) (ZmY o c.1).1) (t':=t') (h':=O) (h'':=N) ⟨sz h1,ab,sz U,sz af,nb,(p1,p2),rfl,m (Zj I a) rfl ls,m (Zj ca a) rfl Y,m (Zj aa a) rfl V,m (Zj aG a) rfl ag,m (Zj cn a) rfl Z,by rw[hL];rfl⟩ ar u64 au aw R;have az:=(hE.ext l).walk hb z S;obtain⟨aU,ep,cw,_⟩:=(az.fl.e i _ hL).2;have aA:p2=some ⟨aU,0,none⟩:=ep;subst aA;refine rP (Zb (A (Zj I a) ls) rfl) (Zi (rI (Zb (A (Zj ca a) Y) rfl) (rI (Zb (A (Zj aa a) V) rfl) (rI (Zb (A (Zj aG a) ag) rfl) (Zi (rI (Zb (A (Zj cn a) Z) rfl) ?_))))));obtain⟨er,hs⟩:=Classical.choose_spec (ZuZ w c.1 (ZiS o c.1) (ZmY o c.1).1 c.2.2.2.2.2);refine hs cw λbp aB=>Zd (Za (Zd ?_));have fin:=F bp t' _ (by rw[lk];exact ay.ext aB) ((WS.pre l S).then aB);rw[lk]at fin;dsimp only at fin;rw[Bool.not_not]at fin;exact fin
   ·have bq:f.shape=2:=by have:(f.shape:Int)=2:=q2;omega
    have aT:=hE.ext r;obtain⟨p1,p2⟩:=p;obtain⟨s1,s2⟩:=s
    cases s1 with
    |none=>exact absurd rfl (aD.1 (.inl bq))
    |some w=>
    have lk:ZkQ f (some w,s2) o c i=⟨!(plV w c.1 c.2.2.2.2.2).2.1,[.pace i],some (plV w c.1 c.2.2.2.2.2).1⟩:=by
      unfold ZkQ;rw[if_neg (by omega),if_pos bq]
    have ao:=W.ext r;refine Zi (rL (s:=t) (Zb ao.w rfl) (ZF λy aq a bk=>(ZkO aq rfl).rd ?_));have l:=r.trans a;have z:=W.ext l;refine ZlW (bx:=0) z (by omega) rfl (λt' O ar u64 au=>?_) rfl;have E:∀{j:Nat} {x:Obj},obj y j=some x->t.blk≠some j->obj O j=some x:=λ{j x} P hn=>(u64.old j (Zp P) hn).trans P;have av:=E z.w W.n;refine Zi (ZcS av (show 0+9<12 by decide) rfl λN aw R bl=>?_);have A:∀{j:Nat} {x:Obj},obj y j=some x->sz h<=j->obj N j=some x:=λ{j x} P hj=>(R.old j (Zp (E P (M j hj))) (show ¬j=wb by omega)).trans (E P (M j hj));have m:∀{b:Nat} {x:Obj} {o:Nat} {vv:Value},obj y b=some x->Zy o (some x)=some vv->sz h<=b->Bx y base wb t b o vv:=λ{b x o vv} h1 h2 h3=>⟨by rw[h1];exact h2,by omega,Zp h1,by omega,M b h3⟩;obtain⟨ay,S⟩:=z.add (v:=.func (.func 185) #[] #[pB (sz h1),pB ab,pB nb]) (tk:=.pace i) (t':=t') (h':=O) (h'':=N) ⟨sz h1,ab,nb,(p1,p2),rfl,m (Zj I a) rfl ls,m (Zj ca a) rfl Y,m (Zj cn a) rfl Z,by rw[hL];rfl⟩ ar u64 au aw R;have az:=(hE.ext l).walk hb z S;obtain⟨aU,ep,cw,_⟩:=(az.fl.e i _ hL).1;have aA:p1=some ⟨aU,0,none⟩:=ep;subst aA;refine rP (Zb (A (Zj I a) ls) rfl) (Zi (rI (Zb (A (Zj ca a) Y) rfl) (Zi (rI (Zb (A (Zj cn a) Z) rfl) ?_))));refine Classical.choose_spec (Zu4 w c.1 c.2.2.2.2.2) cw λbp aB=>Zw6 (ay.ext aB) λaV aW aX=>Zd ?_;have fin:=F aV t' _ (by rw[lk];exact aW) (((WS.pre l S).then aB).trans aX);rw[lk]at fin;dsimp only at fin;rw[Bool.not_not]at fin;exact fin
   ·have aY:f.shape=3:=by have:(f.shape:Int)=3:=q3;omega
    have aT:=hE.ext r;obtain⟨p1,p2⟩:=p;obtain⟨s1,s2⟩:=s
    cases s1 with
    |none=>exact absurd rfl (aD.1 (.inr aY))
    |some w1=>
    cases s2 with
    |none=>exact absurd rfl (aD.2 (.inr aY))
    |some w2=>
    obtain⟨⟨b1,bU,cJ,_⟩,⟨b2,bV,bW,_⟩⟩:=aT.fl.e i _ hL;have bt:p1=some ⟨b1,0,none⟩:=bU;have bu:p2=some ⟨b2,0,none⟩:=bV;subst bt;subst bu
    have lk:ZkQ f (some w1,some w2) o c i=⟨!(paV w1 c.1 c.2.2.2.2.2 (ZiE (wrV w2 c.1 (ZiS o c.1)) 1)).2.1,[.wp i (ZiS o c.1) (ZiE (wrV w2 c.1 (ZiS o c.1)) 1)],some (paV w1 c.1 c.2.2.2.2.2 (ZiE (wrV w2 c.1 (ZiS o c.1)) 1)).1⟩:=by
      unfold ZkQ;rw[if_neg (by omega),if_neg (by omega),if_pos aY]
    refine rP (Zb I rfl) (Zi (rI (Zb ca rfl) (rI (Zb aa rfl) ?_)));obtain⟨er,hs⟩:=Classical.choose_spec (ZuY w2 c.1 (ZiS o c.1));refine hs bW λK d1=>ZF λg2 k2 d2 y2=>ZcS k2 (show 0<1 by decide) rfl λg3 k3 v3 y3=>Za (rI (Zb k3 rfl) (ZcS k3 (show 0<1 by decide) rfl λg4 k4 v4 y4=>?_));have d14:Ext K g4:=d2.then (v3.trans v4) λk F=>by subst F;exact Aqo _
    have dg:Ext bh g4:=d1.trans d14;have bz:sz h<=sz K:=(r.trans d1).size;have cq:=r;replace r:=r.trans dg;replace I:=Zj I dg;replace aa:=Zj aa dg;replace ca:=Zj ca dg;replace cn:=Zj cn dg;have ao:=W.ext r;refine Zi (rL (s:=t) (Zb ao.w rfl) (ZF λy aq a bk=>(ZkO aq rfl).rd ?_));have l:=r.trans a;have z:=W.ext l;refine ZlW (bx:=0) z (by omega) rfl (λt' O ar u64 au=>?_) rfl;have E:∀{j:Nat} {x:Obj},obj y j=some x->t.blk≠some j->obj O j=some x:=λ{j x} P hn=>(u64.old j (Zp P) hn).trans P;have av:=E z.w W.n;refine Zi (ZcS av (show 0+9<12 by decide) rfl λN aw R bl=>?_);have A:∀{j:Nat} {x:Obj},obj y j=some x->sz h<=j->obj N j=some x:=λ{j x} P hj=>(R.old j (Zp (E P (M j hj))) (show ¬j=wb by omega)).trans (E P (M j hj));have m:∀{b:Nat} {x:Obj} {o:Nat} {vv:Value},obj y b=some x->Zy o (some x)=some vv->sz h<=b->Bx y base wb t b o vv:=λ{b x o vv} h1 h2 h3=>⟨by rw[h1];exact h2,by omega,Zp h1,by omega,M b h3⟩;obtain⟨ay,S⟩:=z.add (v:=.func (.func 190) #[] #[pB (sz h1),pB ab,pB (sz U),pB nb,pB (sz K)]) (tk:=.wp i (ZiS o c.1) (ZiE (wrV w2 c.1 (ZiS o c.1)) 1)) (t':=t') (h':=O) (h'':=N) ⟨sz h1,ab,sz U,nb,sz K,(some ⟨b1,0,none⟩,some ⟨b2,0,none⟩),rfl,m (Zj I a) rfl ls,m (Zj I a) rfl ls,m (Zj ca a) rfl Y,m (Zj aa a) rfl V,m (Zj cn a) rfl Z,m (Zj k4 a) rfl bz,by rw[hL];rfl⟩ ar u64 au aw R;have az:=(hE.ext l).walk hb z S;obtain⟨b9,ep,cw,_⟩:=(az.fl.e i _ hL).1
    have aA:b1=b9:=by
      have:(some ⟨b1,0,none⟩:Option Addr)=some ⟨b9,0,none⟩:=ep;injection this with this;injection this
    subst aA;have bA:=A (Zj ca a) Y;have bB:=A (Zj cn a) Z;have bC:=A (Zj k4 a) bz;refine rP (Zb (A (Zj I a) ls) rfl) (Zi (rI (Zb bA rfl) (Zi (rI (Zb bB rfl) (rI (Zb bC rfl) (Zwu cw λg5 k5 d5 y5=>?_))))));refine⟨Yj (Zb (Zj bC d5) rfl),Yj (Zb (Zj bB d5) rfl),Yj (Zb (Zj bA d5) rfl),?_⟩;obtain⟨pn,bX⟩:=Classical.choose_spec (Zu5 w1 c.1 c.2.2.2.2.2 (ZiE (wrV w2 c.1 (ZiS o c.1)) 1));refine bX k5 λg6 k6 v6=>?_;have d6:Ext N g6:=d5.then v6 λk F=>by subst F;exact Aqo _
    refine Zw6 (ay.ext d6) λaV aW aX=>Zd ?_;have fin:=F aV t' _ (by rw[lk];exact aW) (((WS.pre l S).then d6).trans aX);rw[lk]at fin;dsimp only at fin;rw[Bool.not_not]at fin;exact fin
   ·have n1:¬f.shape=1:=λe=>q1 (by show(f.shape:Int)=1;omega);have n2:¬f.shape=2:=λe=>q2 (by show(f.shape:Int)=2;omega);have n3:¬f.shape=3:=λe=>q3 (by show(f.shape:Int)=3;omega)
    have lk:ZkQ f s o c i=⟨!Zmg (Rw.ZaL f) (ZmY o c.1).1 (oFl o) c.2.2.2.2.2,[],none⟩:=by
      unfold ZkQ;rw[if_neg n1,if_neg n2,if_neg n3]
    have bY:Zo bh [(sz h,0,.string (Zu f.res)),(sz h,0+1,.string (Zu f.org)),(sz h,0+2,.bool f.thr),(sz h,0+3,iv f.cnt),(sz h,0+4,.int .u8 f.strat),(sz h,0+5,.string (Zu f.ref)),(sz h,0+6,.int .u8 f.shape),(sz h,0+7,iv f.warm),(sz h,0+8,iv f.queue),(sz h,0+9,.bool f.clu),(sz h,0+10,iv f.id),(sz h,0+11,.bool f.fb)]:=
      ⟨Zb g rfl,Zb g rfl,Zb g rfl,Zb g rfl,Zb g rfl,Zb g rfl,Zb g rfl,Zb g rfl,Zb g rfl,Zb g rfl,Zb g rfl,Zb g rfl,trivial⟩
    refine rS (Zb g rfl) (rS (Zb g rfl) (rB (Zb g rfl) (rI (Zb g rfl) (rI (Zb g rfl) (rS (Zb g rfl) (rI (Zb g rfl) (rI (Zb g rfl) (rI (Zb g rfl) (rB (Zb g rfl) (rI (Zb g rfl) (rB (Zb g rfl) (rI (Zb aG rfl) (Zi (rI (Zb cn rfl) (Zku f55 ⟨Yj (Zb cn rfl),Yj (Zb aG rfl),bY,ZBH λh9 e9=>Zd ?_⟩)))))))))))))));have fin:=F h9 t vs (by rw[lk,Ayt];exact W.ext (r.trans e9)) (WS.ext (r.trans e9));rw[lk]at fin;dsimp only at fin;rw[Bool.not_not]at fin;exact fin
  ·intro J hJ;have aH:=W.ext ai;have H:∀hh,Ext d hh->Zo hh [(wb,0+1+5,iv c.2.2.2.2.2)]/\Zo hh [(wb,0+1,iv c.1)]:=λhh e=>⟨Yj (Zb (aH.ext e).w rfl),Yj (Zb (aH.ext e).w rfl)⟩;refine Zi (Zi (rI (Zb aH.w rfl) (rI (Zb aH.w rfl) ⟨ZF λK k1 d1 y1=>?_,ZF λK k1 d1 y1=>?_⟩)))
   ·have w9:sz K=sz d+1:=y1
    obtain⟨a1,a2⟩:=H K d1;refine⟨a1,a2,ZF λg2 k2 d2 y2=>?_⟩;have d12:=d1.trans d2;obtain⟨a1,a2⟩:=H g2 d12;refine⟨a1,a2,ZcS (Zj k1 d2) (show 0<1 by decide) rfl λg3 k3 v3 y3=>?_⟩;have d13:Ext d g3:=d12.then v3 λk F=>by subst F;exact Aqo _
    obtain⟨a1,a2⟩:=H g3 d13;have cb:obj g3 (sz K)=_:=(v3.old (sz K) (Zp k2) (show ¬sz K=sz d by omega)).trans k2;refine⟨a1,ZcS cb (show 0<1 by decide) rfl λg4 k4 v4 y4=>hJ _ _ ⟨sz d,sz K,rfl,rfl,?_,k4,d13.then v4 (λk F=>by subst F;show sz d<=sz K;omega),Aqo _,by omega⟩⟩;exact(v4.old (sz d) (Zp k3) (show ¬sz d=sz K by omega)).trans k3
   ·have w9:sz K=sz d+1:=y1
    obtain⟨a1,a2⟩:=H K d1;refine⟨a1,a2,ZF λg2 k2 d2 y2=>?_⟩;have d12:=d1.trans d2;obtain⟨a1,a2⟩:=H g2 d12;refine⟨a1,a2,ZcS k2 (show 0<1 by decide) rfl λg3 k3 v3 y3=>?_⟩;have d13:Ext d g3:=d12.then v3 λk F=>by subst F;show sz d<=sz K;omega
    obtain⟨a1,a2⟩:=H g3 d13;have cc:obj g3 (sz d)=_:=(v3.old (sz d) (Zp (Zj k1 d2)) (show ¬sz d=sz K by omega)).trans (Zj k1 d2);refine⟨a1,ZcS cc (show 0<1 by decide) rfl λg4 k4 v4 y4=>hJ _ _ ⟨sz K,sz d,rfl,rfl,?_,k4,d13.then v4 (λk F=>by subst F;exact Aqo _),by omega,Aqo _⟩⟩;exact(v4.old (sz K) (Zp k3) (show ¬sz K=sz d by omega)).trans k3
end
theorem ZnP{cb:Nat->Bool}{c:C8}:∀{l:List FlowP} {i:Nat} {k:Int},k∈Zgm cb c l i->∃j a,k=((i+j:Nat):Int)/\l[j]?=some a
  |[],i,k,h=>by cases h
  | a::l,i,k,h=>by
    have e:Zgm cb c (a::l) i=if Z2 (Zu a.res) c.2.1=true/\cb i=true/\(Zay (Rw.ZaL a) c).2.2.2.1=false then(i:Int)::Zgm cb c l (i+1)else Zgm cb c l (i+1):=rfl
    rw[e]at h;split at h
    ·rcases Awr.1 h with h|h
     ·exact⟨0,a,h,rfl⟩
     ·obtain⟨j,b,h1,d⟩:=ZnP h;exact⟨j+1,b,by rw[h1];congr 1;omega,by simpa using d⟩
    ·obtain⟨j,b,h1,d⟩:=ZnP h;exact⟨j+1,b,by rw[h1];congr 1;omega,by simpa using d⟩
theorem Zuy{cb:Nat->Bool}{c:C8}:∀{l:List FlowP} {i:Nat},(Zgm cb c l i).length<=l.length
  |[],i=>Aqo _
  | a::l,i=>by
    have e:Zgm cb c (a::l) i=if Z2 (Zu a.res) c.2.1=true/\cb i=true/\(Zay (Rw.ZaL a) c).2.2.2.1=false then(i:Int)::Zgm cb c l (i+1)else Zgm cb c l (i+1):=rfl
    rw[e];have:=Zuy (cb:=cb) (c:=c) (l:=l) (i:=i+1);split
    ·simp only[Aqj];omega
    ·simp only[Aqj];omega
theorem Zuz{cb:Nat->Bool}{c:PC}{s s':Sl}:∀{l:List FlowP} {i:Nat},Zgm cb (cl c s) l i=Zgm cb (cl c s') l i
  |[],_=>rfl
  | a::l,i=>by
    show(if Z2 (Zu a.res) c.2.1=true/\cb i=true/\(Zay (Rw.ZaL a) (cl c s)).2.2.2.1=false then(i:Int)::Zgm cb (cl c s) l (i+1)else Zgm cb (cl c s) l (i+1))=(if Z2 (Zu a.res) c.2.1=true/\cb i=true/\(Zay (Rw.ZaL a) (cl c s)).2.2.2.1=false then(i:Int)::Zgm cb (cl c s') l (i+1)else Zgm cb (cl c s') l (i+1));rw[Zuz]
theorem ZA9{A:List FlowP}{c:PC}{s s':Sl}:ZmZ A (cl c s)=ZmZ A (cl c s'):=by unfold ZmZ;rw[show cbK A (cl c s)=cbK A (cl c s')from rfl];exact Zuz
abbrev ZHN(wb:Nat)(K:Int->Bool->Zf->Prop):Int->Int->Zf->(Zf->Prop)->Prop:=λw t20 b Q=>  Zc t20 λi=>Ze (some ⟨wb,0,none⟩) λp q=>ldP b p q λt23=>Ze t23 λr s=>ldL b r (s+3) λt26=>Yk t26.ptr t26.len i 12 λd e=>ldS b d e λt29=>ldS b d (e+1) λt30=>ldB b d (e+2) λt31=>ldI b d (e+3) .i64 λt32=>ldI b d (e+4) .u8 λt33=>ldS b d (e+5) λt34=>ldI b d (e+6) .u8 λt35=>ldI b d (e+7) .i64 λt36=>ldI b d (e+8) .i64 λt37=>ldB b d (e+9) λt38=>ldI b d (e+10) .i64 λt39=>ldB b d (e+11) λt40=>newC b [.string (ByteArray.mk #[]),.string (ByteArray.mk #[]),.bool false,iv 0,.int .u8 0,.string (ByteArray.mk #[]),.int .u8 0,iv 0,iv 0,.bool false,iv 0,.bool false] 69 λc t=>sts t c 0 [.string t29,.string t30,.bool t31,iv t32,.int .u8 t33,.string t34,.int .u8 t35,iv t36,iv t37,.bool t38,iv t39,.bool t40] λf=>Zf1 (σ:=Unit) (λx a=>Ze (some ⟨wb,0,none⟩) λh j=>ldS a c 0 λt54=>ldS a c (0+1) λt55=>ldB a c (0+2) λt56=>ldI a c (0+3) .i64 λt57=>ldI a c (0+4) .u8 λt58=>ldS a c (0+5) λt59=>ldI a c (0+6) .u8 λt60=>ldI a c (0+7) .i64 λt61=>ldI a c (0+8) .i64 λt62=>ldB a c (0+9) λt63=>ldI a c (0+10) .i64 λt64=>ldB a c (0+11) λt65=>ldP a h j λt66=>Ze t66 λk l=>ldL a k (l+8) λt69=>Yk t69.ptr t69.len i 2 λm n=>ldP a m n λt72=>ldP a m (n+1) λt73=>ZbE (some ⟨wb,0,none⟩) (t54,t55,t56,t57,t58,t59,t60,t61,t62,t63,t64,t65,()) (t72,t73,()) (λt74 g=>Zx (Zo g [(k,l+8,.slice t69.ptr t69.len t69.cap)])<|Zx (Zo g [(h,j,.pointer t66)])<|Zk (!t74) ( Zc i λt76=>K t76 true g) ( Q g)) a) (λo=>ldB f c (0+9) λt45=>Zk t45 ( Ze (some ⟨wb,0,none⟩) λu v=>ldB f u (v+8) λt48=>Zk t48 ( Q f) ( ldB f c (0+11) λt49=>Zk (!t49) ( Q f) ( o (()) f))) ( o (()) f))
section
variable{h:Zf}{T:TgM}{L:Lay}{G:GS}{base wb:Nat}{t:Sl}{c:PC}{sl:Sl}{gr:Bool}{tks:List Tk}{wt:Int}{vs:List Value}
theorem ZBm{m:Int}{j:Nat}{f:FlowP}(E:ZcQ h T L G)(ok:GOK G)(O:∀j,T j≠none->j<base/\j≠wb)(W:WkR h base wb L c sl gr tks wt t vs)(X:tks.length<=3000)(F:G.r.fl[j]?=some f){K:Int->Bool->Zf->Prop}{Q:Zf->Prop}
    (v:∀h' t' o,WkR h' base wb L c sl gr (tks++(ZfG G c gr (j:Int)).tk) (wtV wt (ZfG G c gr (j:Int)).wt) t' o->WS wb t t' h h'->if(ZfG G c gr (j:Int)).b=true then K (j:Int) true h' else Q h'):ZHN wb K m (j:Int) h Q:=by
  obtain⟨s,hs⟩:∃s,G.fl[j]?=some s:=⟨_,Axy (by rw[ok.lf];exact ZbP F)⟩;obtain⟨p,P⟩:=E.gf hs
  have Y:ZfG G c gr (j:Int)=if f.clu=true/\(gr=true\/f.fb=false)then⟨false,[],none⟩else ZkQ f s (G.t.f (ZtF (Zay (Rw.ZaL f) (cl c nl)))) c j:=by
    unfold ZfG;rw[Aqu,F,hs]
  rw[Y]at v;obtain⟨bb,oo,_,_,A,d⟩:=Zab Zgw E.rz.fl.1 F (by decide);refine Za (Zi (rP (Zb W.w rfl) (Zi (rL (s:=L.z.1) (Zb E.cells rfl) (A rfl (rS (d 0 _ rfl) (rS (d 1 _ rfl) (rB (d 2 _ rfl) (rI (d 3 _ rfl) (rI (d 4 _ rfl) (rS (d 5 _ rfl) (rI (d 6 _ rfl) (rI (d 7 _ rfl) (rI (d 8 _ rfl) (rB (d 9 _ rfl) (rI (d 10 _ rfl) (rB (d 11 _ rfl) (ZF λh1 c1 Z z1=>ZaN c1 λy a u2 z2=>?_))))))))))))))))));have e:Ext h y:=Z.then u2 λk v=>by subst v;exact Aqo _
  have B:=W.ext e;have H:=E.ext e;refine ZoF (λ(_:Unit) hh=>hh=y/\¬(f.clu=true/\(gr=true\/f.fb=false))) ?_ ?_
  ·rintro _ h3 ⟨l,I⟩;subst l;rw[if_neg I]at v;obtain⟨b2,o2,_,ae,u,C⟩:=Zab (g:=λx:ShP×ShS=>shL x.1) (n:=2) (λ_=>rfl) H.fl.r P (by decide);refine Zi (rS (Zb a rfl) (rS (Zb a rfl) (rB (Zb a rfl) (rI (Zb a rfl) (rI (Zb a rfl) (rS (Zb a rfl) (rI (Zb a rfl) (rI (Zb a rfl) (rI (Zb a rfl) (rB (Zb a rfl) (rI (Zb a rfl) (rB (Zb a rfl) (rP (Zb B.w rfl) (Zi (rL (s:=L.f1) (Zb H.cells rfl) (u rfl (rP (C 0 _ rfl) (rP (C 1 _ rfl) ?_))))))))))))))))));refine ZHG (f:=f) (s:=s) (p:=p) (i:=j) H O B X P (ok.sh j f s F hs) λh4 t' o R s4=>?_;have E4:=H.walk O B s4;have fin:=v h4 t' o R (WS.pre e s4);refine⟨Yj (Zb E4.cells rfl),Yj (Zb R.w rfl),⟨λq=>Za ?_,λq=>?_⟩⟩
   ·rw[Bool.not_not]at q;rwa[if_pos q]at fin
   ·rw[Bool.not_not]at q;rwa[if_neg (by rw[q];decide)]at fin
  ·intro J S
   have skip:(f.clu=true/\(gr=true\/f.fb=false))->Q y:=λU=>by
     have fin:=v y t vs (by rw[if_pos U,Ayt];exact B) (WS.ext e);rw[if_pos U]at fin;exact fin
   have V:∀{b:Bool},b=false->¬b=true:=λl D=>by rw[l]at D;cases D
   refine rB (Zb a rfl) ⟨λq=>Zi (rB (Zb B.w rfl) ⟨λM=>skip ⟨q,.inl M⟩,λM=>rB (Zb a rfl) ⟨λN=>skip ⟨q,.inr ?_⟩,λN=>S () y ⟨rfl,λl=>?_⟩⟩⟩),λq=>S () y ⟨rfl,λl=>V q l.1⟩⟩
   ·have l:(!f.fb)=true:=N;simpa using l
   ·have D:(!f.fb)=false:=N
    rcases l.2 with g|g
    ·exact V M g
    ·rw[g]at D;cases D
theorem ZEV(n:ZcQ h T L G)(ok:GOK G)(u:∀j,T j≠none->j<base/\j≠wb)(W:WkR h base wb L c sl gr tks wt t vs)(C:tks.length<=2000)
    {K:Int->Bool->Zf->Prop} (v:∀h' t' a x,ZfJ (ZfG G c gr) (ZmZ G.r.fl (cl c nl)) (tks,wt)=x->WkR h' base wb L c sl gr x.2.1 x.2.2 t' a->WS wb t t' h h'->x.2.1.length<=tks.length+256->K (x.1.getD 0) x.1.isSome h'):Za7 (some ⟨wb,0,none⟩) K h:=by
  unfold Za7 Zfp;have lw:=Zp W.w;refine Za (Zi (Zi (rP (Zb W.w rfl) (Zi (rL (s:=L.z.1) (Zb n.cells rfl) (rI (Zb W.w rfl) (rS (Zb W.w rfl) (rS (Zb W.w rfl) (rS (Zb W.w rfl) (rB (Zb W.w rfl) (rI (Zb W.w rfl) (rL (s:=sl) (Zb W.w rfl) ?_))))))))))));refine ZHZ ok.good.s.f (c:=cl c sl) n.rz.fl.1 λF kt d e=>⟨Yj (Zb (W.ext d).w rfl),?_⟩;rw[ZA9 (s':=nl)]at e;refine Zub (h0:=h) (f:=ZfG G c gr) (KL:=ZmZ G.r.fl (cl c nl)) (X:=λi h'=>K i true h') (body:=ZHN wb K) (n.ext d) u (W.ext d) (Aqp Zuy ok.good.s.f) C e lw (λb p=>(W.o.lt p).2) ?_ (λk=>?_) ?_ ?_
  ·intro m k H A wt' t' a Q q D g s hl l;obtain⟨j,f,B,E⟩:=ZnP (show k∈Zgm _ _ G.r.fl 0 from Axo q);rw[Awb]at B;subst B;exact ZBm D ok u g hl E l
  ·unfold ZfG;split
   ·split
    ·exact Ayg _
    ·unfold ZkQ;split
     ·split
      ·exact Aqo _
      ·exact Ayg _
     ·split
      ·split
       ·exact Aqo _
       ·exact Ayg _
      ·split
       ·split
        ·exact Aqo _
        ·exact Ayg _
       ·exact Ayg _
   ·exact Ayg _
  ·intro k h' t' a y hw g s hl;exact v h' t' a (some k,y) hw g (WS.pre d s) hl
  ·intro h' t' a y hw g s hl;exact Za (v h' t' a (none,y) hw g (WS.pre d s) hl)
end
abbrev fn0(f:Nat):Value:=.func (.func f) #[] #[]
def ZOE:Option (Int×Int)->V4
  |some (k,i)=>(k,i,0,())
  |none=>(0,0,0,())
section
variable{h:Zf}{T:TgM}{L:Lay}{G:GS}{base wb:Nat}{c:PC}{sl:Sl}{gr:Bool}
theorem ZHg{al:List ByteArray}(hE:ZcQ h T L G)(ok:GOK G)(hb:∀j,T j≠none->j<base/\j≠wb)(aR:base<=sz h)(hw:obj h wb=some (ZvA L.eb (cl c sl) gr nl nl 0))(ha:Row h sl 1 (al.map .string))(ag:al≠[]->∀b,sl.blk=some b->b<base/\b≠wb){K:V4->Bool->Zf->Prop}
    (I:∀h' x,ZnV G c al gr=x->Upd (· = wb) h h'->(x.1=none->∃t' R,WkR h' (sz h) wb L c sl gr x.2.1 x.2.2 t' R/\x.2.1.length<=2000)->K (ZOE x.1) x.1.isSome h'):ZbC (some ⟨wb,0,none⟩) K h:=by
  unfold ZbC ZfT;have lw:=Zp hw;refine ZF λh1 c1 e1 z1=>⟨rfl,rfl,rfl,rfl,rfl,ZF λh2 c2 e2 z2=>ZaN c2 λh3 U u3 z3=>?_⟩;refine rI (Zb U rfl) (rV (Zb U rfl) (rI (Zb U rfl) (rV (Zb U rfl) (rI (Zb U rfl) (rV (Zb U rfl) (rI (Zb U rfl) (rV (Zb U rfl) (rI (Zb U rfl) (rV (Zb U rfl) ?_)))))))));have ah:Ext h1 h3:=e2.then u3 λk I=>by subst I;exact Aqo _
  have X:=e1.trans ah;have w1:sz h1=sz h+1:=z1;have ay:sz h1<=sz h3:=ah.size;have b3:=Zj c1 ah;have N:∀j,T j≠none->j<sz h1/\j≠wb:=λj hj=>⟨by have:=(hb j hj).1;omega,(hb j hj).2⟩;have ar:al≠[]->∀b,sl.blk=some b->b<sz h1/\b≠wb:=λne b S=>⟨by have:=(ag ne b S).1;omega,(ag ne b S).2⟩;have W3:WkR h3 (sz h1) wb L c sl gr [] 0 nl []:=⟨Zj hw X,Own.nil _ _ _,rfl,(λi v tk h1 _=>by cases h1),ay,λe=>by cases e⟩;have E3:=hE.ext X;refine Zaj (λp A=>∃(j:Nat) (tks:List Tk) (wt:Int) (t':Sl) (R:List Value),p=((j:Int),())/\j<=5/\WkR A (sz h1) wb L c sl gr tks wt t' R/\WS wb nl t' h3 A/\tks.length<=256*j/\ZnV G c al gr=ZlJ (stg G c al gr) (5-j) j (tks,wt)) (λp _=>(5-p.1).toNat) ⟨0,[],0,nl,[],rfl,by decide,W3,WS.refl,Aqo _,rfl⟩ ?_;rintro _ A ⟨j,tks,wt,t',R,rfl,hj,O,s',hl,hw⟩ Q hQ;dsimp only;have ba:sz h3<=sz A:=s'.u.size;have bh:obj A (sz h)=some (.cells [.int .u8 0,iv 0,iv 0].toArray 45 (0,0)):=(s'.u.old (sz h) (Zp b3) λe=>e.elim (λe=>by omega) λe=>by cases e).trans b3;have Eh:=E3.walk N W3 s'
  have aA:Row A sl 1 (al.map .string):=(ha.ext X).congr λb o S aB ai=>s'.u.old b ai λe=>by
    rcases e with e|e
    ·exact(ag (λh9=>aB (by rw[h9];rfl)) b (by simp[Sl.blk,S])).2 e
    ·cases e
  have tn:∀{D:Zf} {tk:List Tk} {w:Int} {t:Sl} {v:List Value},WkR D (sz h1) wb L c sl gr tk w t v->t.blk≠some (sz h):=λW e=>by have:sz h1<=sz h:=(W.o.lt e).1;omega
  have old:∀{D:Zf} {t:Sl},WS wb nl t h3 D->Upd (· = wb) h D:=λs=>(X.upd _).trans (s.u.mono λj _ hj=>hj.elim id λe=>by cases e)
  have fin:∀(v:V4) (z:Zf),obj z (sz h)=some (.cells [.int .u8 0,iv 0,iv 0].toArray 45 (0,0))->∀(f:Bool),(∀J,Upd (· = sz h) z J->K (v.1,v.2.1,v.2.2.1,()) f J)->sts z (sz h) 0 [.int .u8 v.1,iv v.2.1,iv v.2.2.1] λE=>ldI E (sz h) 0 .u8 λt30=>ldI E (sz h) (0+1) .i64 λt31=>ldI E (sz h) (0+2) .i64 λt32=>K (t30,t31,t32,()) f E:=λv z b6 f hK=>
    ZaN b6 λJ c7 V z7=>rI (Zb c7 rfl) (rI (Zb c7 rfl) (rI (Zb c7 rfl) (hK J V)))
  have af:∀{z J:Zf},Upd (· = wb) h z->Upd (· = sz h) z J->Upd (· = wb) h J:=λ{z J} a b=>Znl a b λk I e=>by have e':k=sz h:=e;have bg:k<sz h:=I;omega
  have step:∀(jj:Nat) (aw:Value) (aj:Nat) (z:Zf) (x:Option Int×List Tk×Int) (r:Sl) (m:List Value),j=jj->jj<5->stg G c al gr jj (tks,wt)=x->WkR z (sz h1) wb L c sl gr x.2.1 x.2.2 r m->WS wb t' r A z->x.2.1.length<=tks.length+256->obj z aj=some (.cells [.int .u8 ((jj+1:Nat):Int),aw].toArray 177 (0,0))->
      Zk x.1.isSome (ldI z aj 0 .u8 λt28=>sts z (sz h) 0 [.int .u8 t28,iv (x.1.getD 0),iv 0] λE=>ldI E (sz h) 0 .u8 λt30=>ldI E (sz h) (0+1) .i64 λt31=>ldI E (sz h) (0+2) .i64 λt32=>K (t30,t31,t32,()) true E) (Q (IntKind.wrap .i64 ((j:Int)+1),()) z):=by
    intro jj aw aj z x r m aE aF aG P F C aH;subst aE
    have ak:ZlJ (stg G c al gr) (5-j) j (tks,wt)=match (stg G c al gr j (tks,wt)).1 with
      |some i=>(some (((j+1:Nat):Int),i),(stg G c al gr j (tks,wt)).2)
      |none=>ZlJ (stg G c al gr) (5-(j+1)) (j+1) (stg G c al gr j (tks,wt)).2:=by
      rw[show 5-j=(5-(j+1))+1 by omega];rfl
    rw[ak,aG]at hw;have b6:obj z (sz h)=some (.cells [.int .u8 0,iv 0,iv 0].toArray 45 (0,0)):=(F.u.old (sz h) (Zp bh) λe=>e.elim (λe=>by omega) (tn O)).trans bh;have ss:=s'.trans F;obtain⟨o,y⟩:=x
    cases o with
    | some i=>
      dsimp only at hw C P;refine Zm rfl (rI (Zb aH rfl) (fin (((j+1:Nat):Int),i,0,()) z b6 true λJ V=>?_));exact I J _ hw (af (old ss) V) λe=>by cases e
    | none=>
      dsimp only at hw C P;refine Zh rfl ?_;rw[Yw (by omega) (by omega)];exact hQ _ _ ⟨j+1,y.1,y.2,r,m,by simp,aF,P,ss,by omega,hw⟩ (by show(5-((j:Int)+1)).toNat<(5-(j:Int)).toNat;omega)
  have box:∀{M z:Zf} {x:Obj} {r:Sl},obj M (sz A)=some x->Ext A M->WS wb t' r M z->obj z (sz A)=some x:=λ{M z x r} H B F=>(F.u.old (sz A) (Zp H) λe=>e.elim (λe=>by omega) λe=>by have:sz A<sz A:=(O.o.lt e).2;omega).trans H;have hn:tks.length<=2000:=by omega
  rcases(show j=0\/j=1\/j=2\/j=3\/j=4\/j=5 by omega)with q|q|q|q|q|q
  ·refine Zm (by subst q;rfl) (by
     rw[show((j:Nat):Int)=0 by omega]at step⊢;refine⟨by decide,by decide,(1,fn0 65,()),rfl,ZF λh4 Y Z z4=>ZaN Y λM H u5 z5=>rV (Zb H rfl) (.inl ⟨rfl,?_⟩)⟩;have B:Ext A M:=Z.then u5 λk I=>by subst I;exact Aqo _
     exact ZEp (Eh.ext B) ok N (O.ext B) hn λz r m x D P F C=>Za (Zd (step 0 (fn0 65) (sz A) z x r m q (by decide) D P (WS.pre B F) C (box H B F))))
  ·refine Zm (by subst q;rfl) (by
     rw[show((j:Nat):Int)=1 by omega]at step⊢;refine⟨by decide,by decide,(2,fn0 66,()),rfl,ZF λh4 Y Z z4=>ZaN Y λM H u5 z5=>rV (Zb H rfl) (.inr (.inl ⟨rfl,?_⟩))⟩;have B:Ext A M:=Z.then u5 λk I=>by subst I;exact Aqo _
     exact Zxi (Eh.ext B) ok N (O.ext B) hn λz r m x D P F C=>Za (Zd (step 1 (fn0 66) (sz A) z x r m q (by decide) D P (WS.pre B F) C (box H B F))))
  ·refine Zm (by subst q;rfl) (by
     rw[show((j:Nat):Int)=2 by omega]at step⊢;refine⟨by decide,by decide,(3,fn0 67,()),rfl,ZF λh4 Y Z z4=>ZaN Y λM H u5 z5=>rV (Zb H rfl) (.inr (.inr (.inl ⟨rfl,?_⟩)))⟩;have B:Ext A M:=Z.then u5 λk I=>by subst I;exact Aqo _
     exact ZHB (Eh.ext B) ok N (O.ext B) hn (aA.ext B) ar λz r m x D P F C=>Za (Zd (step 2 (fn0 67) (sz A) z x r m q (by decide) D P (WS.pre B F) C (box H B F))))
  ·refine Zm (by subst q;rfl) (by
     rw[show((j:Nat):Int)=3 by omega]at step⊢;refine⟨by decide,by decide,(4,fn0 68,()),rfl,ZF λh4 Y Z z4=>ZaN Y λM H u5 z5=>rV (Zb H rfl) (.inr (.inr (.inr (.inl ⟨rfl,?_⟩))))⟩;have B:Ext A M:=Z.then u5 λk I=>by subst I;exact Aqo _
     exact ZEV (Eh.ext B) ok N (O.ext B) hn λz r m x D P F C=>Za (Zd (step 3 (fn0 68) (sz A) z x r m q (by decide) D P (WS.pre B F) C (box H B F))))
  ·refine Zm (by subst q;rfl) (by
     rw[show((j:Nat):Int)=4 by omega]at step⊢;refine⟨by decide,by decide,(5,fn0 69,()),rfl,ZF λh4 Y Z z4=>ZaN Y λM H u5 z5=>rV (Zb H rfl) (.inr (.inr (.inr (.inr (.inl ⟨rfl,?_⟩)))))⟩;have B:Ext A M:=Z.then u5 λk I=>by subst I;exact Aqo _
     exact ZBw (Eh.ext B) ok N (O.ext B) hn λz r m x D P F C=>Za (Zd (step 4 (fn0 69) (sz A) z x r m q (by decide) D P (WS.pre B F) C (box H B F))))
  ·subst q;have aI:ZnV G c al gr=(none,(tks,wt)):=hw;refine Zh rfl (fin (0,0,0,()) A bh false λJ V=>?_);refine I J (none,(tks,wt)) aI (af (old s') V) λ_=>⟨t',R,⟨(V.old wb (Zp O.w) (show ¬wb=sz h by omega)).trans O.w,(O.o.congr λb S ai aJ=>V.old b ai λe=>?_).base (by omega),O.l,λi v tk g1 g2=>?_,?_,O.n⟩,hn⟩
   ·have e':b=sz h:=e;have:sz h1<=b:=aJ;omega
   ·have D:=O.e i v tk g1 g2
    have bk:∀{b o:Nat} {vv:Value},Bx A (sz h1) wb t' b o vv->Bx J (sz h) wb t' b o vv:=λ{b o vv} D=>by
      obtain⟨x1,x2,x3,x4,x5⟩:=D;exact⟨by rw[show obj J b=obj A b from V.old b x3 (show ¬b=sz h by omega)];exact x1,by omega,Aqq x3 V.size,x4,x5⟩
    cases tk with
    | hot i s=>
      obtain⟨D,wx,vx,hb,e,a1,a2,a3,a4⟩:=D;exact⟨D,wx,vx,hb,e,bk a1,bk a2,bk a3,a4⟩
    | warm i past sum=>
      obtain⟨a,b,d,f,g,p,e,a1,a2,a3,a4,a5,a6⟩:=D;exact⟨a,b,d,f,g,p,e,bk a1,bk a2,bk a3,bk a4,bk a5,a6⟩
    | pace i=>
      obtain⟨a,b,f,p,e,a1,a2,a3,a4⟩:=D;exact⟨a,b,f,p,e,bk a1,bk a2,bk a3,a4⟩
    | wp i past aP=>
      obtain⟨a,b,d,f,g,p,e,a1,a2,a3,a4,a5,a6,a7⟩:=D;exact⟨a,b,d,f,g,p,e,bk a1,bk a2,bk a3,bk a4,bk a5,bk a6,a7⟩
    | brk i=>
      obtain⟨a,b,hb,id,e,a1,a2,a3,a4⟩:=D;exact⟨a,b,hb,id,e,bk a1,bk a2,bk a3,a4⟩
   ·have:sz A<=sz J:=V.size;omega
end
structure LS(L L':Lay):Prop where
  eb:L'.eb=L.eb
  f:L'.fs.map (·.1)=L.fs.map (·.1)
  b:L'.bs.map (λx=>(x.1,x.2.2))=L.bs.map λx=>(x.1,x.2.2)
  h:L'.hs.map (·.1)=L.hs.map (·.1)
theorem LS.refl{L:Lay}:LS L L:=⟨rfl,rfl,rfl,rfl⟩
theorem LS.trans{L L' L'':Lay}(a:LS L L')(b:LS L' L''):LS L L'':=⟨b.eb.trans a.eb,b.f.trans a.f,b.b.trans a.b,b.h.trans a.h⟩
theorem Zgn{α β:Type}{g:α->β}{l:List α}{i:Nat}{x y:α}(hi:l[i]?=some x)(a:g y=g x):(l.set i y).map g=l.map g:=by
  induction l generalizing i with
  |nil=>cases hi
  | cons b l c=>
    cases i with
    |zero=>cases hi;simp[a]
    |succ i=>simp[c (by simpa using hi)]
theorem ZiA{α β:Type}{g:α->β}{l a:List α}(h:a.map g=l.map g){i:Nat}{y:β}(hi:(l[i]?).map g=some y):∃x,a[i]?=some x/\g x=y:=by
  rw[<-Awy,<-h,Awy]at hi
  cases q:a[i]? with
  |none=>rw[q]at hi;cases hi
  |some x=>rw[q]at hi;exact⟨x,rfl,Option.some.inj hi⟩
structure Zo8(hS:Zf)(T:TgM)(L:Lay)(wb:Nat)(c:PC)(sl:Sl)(gr:Bool)(t:Sl)(wt:Int)(m:Nat)(hh:Zf)(T':TgM)(L':Lay)(G:GS)(pr:List Int)(prS:Sl):Prop where
  E:ZcQ hh T' L' G
  u:Upd (λj=>T j≠none\/j=wb) hS hh
  s:ZdW T T'
  n:∀j,T' j≠none->T j≠none\/sz hS<=j
  w:obj hh wb=some (ZvA L.eb (cl c sl) gr t prS wt)
  lw:wb<sz hS
  tw:T wb=none
  o:Own hh (sz hS) prS 1 (pr.map iv)
  ot:∀b,prS.blk=some b->T' b=none
  ls:LS L L'
  pl:pr.length<=m
section
variable{hS hh h':Zf}{T T' T'':TgM}{L L' L'':Lay}{base wb m:Nat}{c:PC}{sl t prS:Sl}{gr:Bool}{wt:Int}{G G':GS}{pr:List Int}
theorem Zo8.tw'(R:Zo8 hS T L wb c sl gr t wt m hh T' L' G pr prS):T' wb=none:=by
  cases q:T' wb with
  |none=>rfl
  | some x=>
    rcases R.n wb (XI q)with g|g
    ·exact absurd R.tw g
    ·have:=R.lw;omega
theorem Zo8.step(R:Zo8 hS T L wb c sl gr t wt m hh T' L' G pr prS)(E:ZcQ h' T'' L'' G')(g:GrG T' T'' hh h')(ls:LS L' L''):Zo8 hS T L wb c sl gr t wt (m+1) h' T'' L'' G' pr prS:=by
  have ws:sz hS<=sz hh:=R.u.size;refine⟨E,⟨Aqp R.u.size g.u.size,λk f i=>?_⟩,R.s.trans g.s,λj l=>?_,(g.u.old wb (Zp R.w) λe=>e R.tw').trans R.w,R.lw,R.tw,R.o.congr λb a h _=>g.u.old b h λe=>e (R.ot b a),λb a=>?_,R.ls.trans ls,Nat.le_succ_of_le R.pl⟩
  ·refine (g.u.old k (Aqq f ws) λe=>?_).trans (R.u.old k f i)
   rcases R.n k e with d|d
   ·exact i (.inl d)
   ·have:k<sz hS:=f;omega
  ·rcases g.n j l with d|d
   ·exact R.n j d
   ·exact .inr (by omega)
  ·cases q:T'' b with
   |none=>rfl
   | some x=>
     rcases g.n b (XI q)with d|d
     ·exact absurd (R.ot b a) d
     ·have:=(R.o.lt a).2;have:b<sz hh:=this;omega
theorem Zo8.box(R:Zo8 hS T L wb c sl gr t wt m hh T' L' G pr prS)(a:∀j,T j≠none->j<base){b o:Nat}{v:Value}(x:Bx hS base wb t b o v):Zy o (obj hh b)=some v:=by
  obtain⟨d,h,f,g,i⟩:=x;rw[show obj hh b=obj hS b from R.u.old b f λe=>?_]
  ·exact d
  ·rcases e with e|e
   ·have:=a b e;omega
   ·exact g e
theorem ZGU{i:Nat}{x:ByteArray}{a0 p q:Nat}{b:Nat}(R:Zo8 hS T L wb c sl gr t wt m hh T' L' G pr prS)(d:∀j,T j≠none->j<base)(u:Bx hS base wb t a0 0 (pB b))(b1:Bx hS base wb t p 0 (pB wb))(b2:Bx hS base wb t q 0 (.string x))(v:(L.hs[i]?).map (·.1)=some b)
    {K:Zf->Prop} (r:∀h' T'' L'' f,Zo8 hS T L wb c sl gr t wt (m+1) h' T'' L'' (ZfL c (G,pr) (.hot i x)).1 (ZfL c (G,pr) (.hot i x)).2 f->K h'):Xp (some ⟨a0,0,none⟩) (some ⟨p,0,none⟩) (some ⟨q,0,none⟩) K hh:=by
  unfold Xp Zc6;obtain⟨⟨k,H⟩,a,y⟩:=ZiA R.ls.h v;have l:k=b:=y;subst l;have z:G.ho[i]?=some H:=by rw[<-R.E.lh,Awy,a];rfl
  have A:ZfL c (G,pr) (.hot i x)=({G with ho:=G.ho.set i (H.take c.1 x c.2.2.2.2.2)},pr):=by
    unfold ZfL;dsimp only;rw[z]
  rw[A]at r;refine Zi (rP (R.box d u) (Zi (rP (R.box d b1) (Zi (rI (Zb R.w rfl) (Zi (rS (R.box d b2) (Zi (rP (R.box d b1) (Zi (rI (Zb R.w rfl) ?_)))))))))));obtain⟨I,n,s⟩:=R.E.ho.e i _ a;refine Classical.choose_spec (Classical.choose_spec (Classical.choose_spec (Zu8 H c.1 x c.2.2.2.2.2))) n λh1 B C g=>?_;have D:=R.E.setH a s C g;have o:=R.step D (GrG.tag R.E.hT g.upd (λj F=>XI (s j F)) (Aqo _)) ⟨rfl,rfl,rfl,Zgn a rfl⟩;exact⟨⟨o.box d b1,trivial⟩,⟨o.box d b1,trivial⟩,r h1 _ _ prS o⟩
theorem ZEG{p:ShP}{b1 b2:Nat}(h:(hdP p).Nodup)(h1:p.1=some ⟨b1,0,none⟩)(a:p.2=some ⟨b2,0,none⟩):b1≠b2:=by unfold hdP at h;rw[h1,a]at h;simpa[ZtS]using h
theorem Zym{h h':Zf}{O:Nat->Prop}{p:Option Addr}{x:Option Pc}(a:Zyn h O p x)(k:∀b,p=some ⟨b,0,none⟩->obj h' b=obj h b):Zyn h' O p x:=by
  cases x with
  |none=>exact a
  |some x=>obtain⟨b,e,c,o⟩:=a;exact⟨b,e,(k b e).trans c,o⟩
theorem ZEK{h:Zf}{O:Nat->Prop}{p:Option Addr}{x:Pc}(a:Zyn h O p (some x)):∃b,p=some ⟨b,0,none⟩/\b<sz h:=by obtain⟨b,e,c,_⟩:=a;exact⟨b,e,Zp c⟩
theorem ZD4{i:Nat}{past sum:Int}{a b d e f:Nat}{p:ShP}(R:Zo8 hS T L wb c sl gr t wt m hh T' L' G pr prS)(ok:GOK G)(o:∀j,T j≠none->j<base)(hs:∀s,G.fl[i]?=some s->s.2≠none)(C:Bx hS base wb t a 1 (.pointer p.2))(b1:Bx hS base wb t b 0 (iv c.1))(b2:Bx hS base wb t d 0 (iv past))(M:Bx hS base wb t e 0 (iv sum))(b4:Bx hS base wb t f 0 (iv c.2.2.2.2.2))(N:(L.fs[i]?).map (·.1)=some p)
    {K:Zf->Prop} (D:∀h' T'' L'' r,Zo8 hS T L wb c sl gr t wt (m+1) h' T'' L'' (ZfL c (G,pr) (.warm i past sum)).1 (ZfL c (G,pr) (.warm i past sum)).2 r->K h'):XO (some ⟨a,0,none⟩) (some ⟨b,0,none⟩) (some ⟨d,0,none⟩) (some ⟨e,0,none⟩) (some ⟨f,0,none⟩) K hh:=by
  unfold XO Zer;obtain⟨⟨u,s⟩,l,v⟩:=ZiA R.ls.f N;have x:u=p:=v;subst x;have F:G.fl[i]?=some s:=R.E.ge l;obtain⟨s1,s2⟩:=s;have h:=R.E.fl.e i _ l;have y:=(ZpK h).1
  cases s2 with
  |none=>exact absurd rfl (hs _ F)
  |some w=>
  obtain⟨k,O,P,tw⟩:=h.2
  have Q:ZfL c (G,pr) (.warm i past sum)=({G with fl:=G.fl.set i (s1,some (w.take c.1 past sum c.2.2.2.2.2))},pr):=by
    unfold ZfL;dsimp only;rw[F]
  rw[Q]at D;have n:u.2=some ⟨k,0,none⟩:=O;rw[n]at C;refine Zi (rP (R.box o C) (Zi (rI (R.box o b1) (Zi (rI (R.box o b2) (Zi (rI (R.box o M) (Zi (rI (R.box o b4) ?_)))))))));refine Classical.choose_spec (Classical.choose_spec (Classical.choose_spec (Zrm w c.1 past sum c.2.2.2.2.2))) P λh1 c1 H=>?_;have hm:k∈hdP u:=by unfold hdP;rw[n];simp[ZtS]
  have I:Upd (λj=>∃d,d∈hdP u/\T' j=some (.p d)) hh h1:=H.mono λj _ z=>⟨k,hm,by rw[show j=k from z];exact tw⟩
  have A:Zyn h1 (hdT T') u.1 s1:=by
    cases s1 with
    |none=>exact h.1
    | some q=>
      refine Zym h.1 λb g=>?_;obtain⟨J,v,S⟩:=ZEK h.1;have B:b=J:=by rw[v]at g;injection g with g;injection g with g _ _;exact g.symm
      rw[B];exact H.old J S λU=>ZEG y v n U
  have V:=R.E.setF (s':=(s1,some (w.take c.1 past sum c.2.2.2.2.2))) l ⟨A,⟨k,n,c1,tw⟩⟩ I;exact D h1 _ _ prS (R.step V ⟨I.mono λj _ ⟨d,_,hd⟩=>XI hd,ZdW.refl _,λj z=>.inl z⟩ ⟨rfl,Zgn l rfl,rfl,rfl⟩)
theorem ZD6{i:Nat}{a b f:Nat}{p:ShP}(R:Zo8 hS T L wb c sl gr t wt m hh T' L' G pr prS)(u:∀j,T j≠none->j<base)(hs:∀s,G.fl[i]?=some s->s.1≠none)(B:Bx hS base wb t a 0 (.pointer p.1))(b1:Bx hS base wb t b 0 (iv c.1))(b4:Bx hS base wb t f 0 (iv c.2.2.2.2.2))(J:(L.fs[i]?).map (·.1)=some p)
    {K:Zf->Prop} (C:∀h' T'' L'' n,Zo8 hS T L wb c sl gr t wt (m+1) h' T'' L'' (ZfL c (G,pr) (.pace i)).1 (ZfL c (G,pr) (.pace i)).2 n->K h'):XN (some ⟨a,0,none⟩) (some ⟨b,0,none⟩) (some ⟨f,0,none⟩) K hh:=by
  unfold XN Zeq;obtain⟨⟨o,s⟩,h,r⟩:=ZiA R.ls.f J;have v:o=p:=r;subst v;have D:G.fl[i]?=some s:=R.E.ge h;obtain⟨s1,s2⟩:=s;have k:=R.E.fl.e i _ h;have x:=(ZpK k).1
  cases s1 with
  |none=>exact absurd rfl (hs _ D)
  |some w=>
  obtain⟨g,M,N,tw⟩:=k.1
  have O:ZfL c (G,pr) (.pace i)=({G with fl:=G.fl.set i (some (w.go c.1 c.2.2.2.2.2),s2)},pr):=by
    unfold ZfL;dsimp only;rw[D]
  rw[O]at C;have l:o.1=some ⟨g,0,none⟩:=M;rw[l]at B;refine Zi (rP (R.box u B) (Zi (rI (R.box u b1) (Zi (rI (R.box u b4) ?_)))));refine Classical.choose_spec (ZCj w c.1 c.2.2.2.2.2) N λh1 U V W c1 F=>?_;have hm:g∈hdP o:=by unfold hdP;rw[l];simp[ZtS]
  have H:Upd (λj=>∃d,d∈hdP o/\T' j=some (.p d)) hh h1:=F.mono λj _ y=>⟨g,hm,by rw[show j=g from y];exact tw⟩
  have z:ZB8 h1 (hdT T') o.2 s2:=by
    cases s2 with
    |none=>exact k.2
    | some q=>
      obtain⟨A,r,I,P⟩:=k.2;exact⟨A,r,(F.old A (Zp I) λQ=>ZEG x l r (by rw[show A=g from Q])).trans I,P⟩
  have S:=R.E.setF (s':=(some (w.go c.1 c.2.2.2.2.2),s2)) h ⟨⟨g,l,c1,tw⟩,z⟩ H;exact C h1 _ _ prS (R.step S ⟨H.mono λj _ ⟨d,_,hd⟩=>XI hd,ZdW.refl _,λj y=>.inl y⟩ ⟨rfl,Zgn h rfl,rfl,rfl⟩)
theorem ZOO{i:Nat}{past h:Int}{a b d f g:Nat}{p:ShP}(R:Zo8 hS T L wb c sl gr t wt m hh T' L' G pr prS)(A:∀j,T j≠none->j<base)(hs:∀s,G.fl[i]?=some s->s.1≠none/\s.2≠none)(S:Bx hS base wb t a 0 (.pointer p.1))(B:Bx hS base wb t a 1 (.pointer p.2))(b1:Bx hS base wb t b 0 (iv c.1))(b2:Bx hS base wb t d 0 (iv past))(b4:Bx hS base wb t f 0 (iv c.2.2.2.2.2))(b5:Bx hS base wb t g 0 (iv h))(hL:(L.fs[i]?).map (·.1)=some p)
    {K:Zf->Prop} (U:∀h' T'' L'' C,Zo8 hS T L wb c sl gr t wt (m+1) h' T'' L'' (ZfL c (G,pr) (.wp i past h)).1 (ZfL c (G,pr) (.wp i past h)).2 C->K h'):XM (some ⟨a,0,none⟩) (some ⟨b,0,none⟩) (some ⟨d,0,none⟩) (some ⟨f,0,none⟩) (some ⟨g,0,none⟩) K hh:=by
  unfold XM Zep;obtain⟨⟨z,s⟩,k,e8⟩:=ZiA R.ls.f hL;have H:z=p:=e8;subst H;have I:G.fl[i]?=some s:=R.E.ge k;obtain⟨s1,s2⟩:=s;have y:=R.E.fl.e i _ k;have J:=(ZpK y).1
  cases s1 with
  |none=>exact absurd rfl (hs _ I).1
  |some w1=>
  cases s2 with
  |none=>exact absurd rfl (hs _ I).2
  |some M=>
  obtain⟨r,ep,cp,V⟩:=y.1;obtain⟨w,ew,cw,tw⟩:=y.2
  have rk:ZfL c (G,pr) (.wp i past h)=({G with fl:=G.fl.set i (some (w1.at' c.1 c.2.2.2.2.2 h),some (M.fill c.1 past))},pr):=by
    unfold ZfL;dsimp only;rw[I]
  rw[rk]at U;have l:z.1=some ⟨r,0,none⟩:=ep;have q:z.2=some ⟨w,0,none⟩:=ew;rw[l]at S;rw[q]at B;have D:r≠w:=ZEG J l q;refine Zi (rP (R.box A B) (Zi (rI (R.box A b1) (Zi (rI (R.box A b2) ?_)))));refine Classical.choose_spec (Classical.choose_spec (Classical.choose_spec (Zm8 M c.1 past))) cw λh1 c1 N=>?_
  have bk:∀{b o:Nat} {v:Value},Bx hS base wb t b o v->Zy o (obj h1 b)=some v:=λ{b o v} x=>by
    have hx:=R.box A x;obtain⟨x1,x2,x3,x4,x5⟩:=x
    have:b≠w:=λe=>by
      subst e
      rcases R.n b (XI tw)with W|W
      ·have:=A b W;omega
      ·omega
    rw[show obj h1 b=obj hh b from N.old b (Aqq x3 R.u.size) this];exact hx
  refine Zi (rP (bk S) (Zi (rI (bk b1) (Zi (rI (bk b4) (Zi (rI (bk b5) ?_)))))));have O:obj h1 r=some (pcO w1):=(N.old r (Zp cp) D).trans cp;refine Classical.choose_spec (Classical.choose_spec (Zu5 w1 c.1 c.2.2.2.2.2 h)) O λX c2 Y=>?_;have P:r∈hdP z:=by unfold hdP;rw[l];simp[ZtS]
  have Q:w∈hdP z:=by unfold hdP;rw[q];simp[ZtS]
  have Z:Upd (λj=>∃d,d∈hdP z/\T' j=some (.p d)) hh X:=(N.mono λj _ F=>⟨w,Q,by rw[show j=w from F];exact tw⟩).trans (Y.mono λj _ F=>⟨r,P,by rw[show j=r from F];exact V⟩);have E1:=R.E.setF (s':=(some (w1.at' c.1 c.2.2.2.2.2 h),some (M.fill c.1 past))) k ⟨⟨r,l,c2,V⟩,⟨w,q,(Y.old w (Zp c1) (Ne.symm D)).trans c1,tw⟩⟩ Z;exact U X _ _ prS (R.step E1 ⟨Z.mono λj _ ⟨d,_,hd⟩=>XI hd,ZdW.refl _,λj F=>.inl F⟩ ⟨rfl,Zgn k rfl,rfl,rfl⟩)
theorem ZyF{B:BkS}{at_:Int}(hw:WOK B.r)(a:WOK (B.enter at_).r){h:Zf}{wn mb:Nat}(w:Zll (ZuR _ hw) h wn mb B.w):Zll (ZuR _ a) h wn mb (B.enter at_).w:=by
  revert a
  unfold BkS.enter;split<;>(intro _;exact w)
theorem ZGV{i:Nat}{a b h:Nat}{id:Int}(R:Zo8 hS T L wb c sl gr t wt m hh T' L' G pr prS)(hm:m<=2000)(C:∀j,T j≠none->j<base)(b0:Bx hS base wb t a 0 (pB h))(X:Bx hS base wb t a 1 (iv id))(b1:Bx hS base wb t b 0 (pB wb))(hL:(L.bs[i]?).map (λx=>(x.1,x.2.2))=some (h,id))
    {K:Zf->Prop} (I:∀h' T'' L'' J,Zo8 hS T L wb c sl gr t wt (m+1) h' T'' L'' (ZfL c (G,pr) (.brk i)).1 (ZfL c (G,pr) (.brk i)).2 J->K h'):Y3 (some ⟨a,0,none⟩) (some ⟨b,0,none⟩) K hh:=by
  unfold Y3 Zb2;obtain⟨⟨g,B,v⟩,z,e8⟩:=ZiA R.ls.b hL;have Y:g=h/\v=id:=by injection e8 with Z y;exact⟨Z,y⟩
  obtain⟨Z,y⟩:=Y;subst Z;subst y;have hG:G.br[i]?=some (B,v):=by rw[<-R.E.lb,Awy,z];rfl
  have l:WOK (B.1.enter c.1).r:=by have:=B.2;unfold BkS.enter;split<;>exact this
  have rk:ZfL c (G,pr) (.brk i)=({G with br:=G.br.set i (⟨B.1.enter c.1,l⟩,v)},if ZpL B.1 c.1=true then pr++[v]else pr):=by
    unfold ZfL;dsimp only;rw[hG]
  rw[rk]at I;refine Zi (rP (R.box C b0) (Zi (rP (R.box C b1) (Zi (rI (Zb R.w rfl) ?_)))));obtain⟨⟨wn,mb,cB,M,o1,o2,o3⟩,N⟩:=id (R.E.br.e i _ z);refine Zt3 cB λh1 p9 e9 c1 u1 z1=>?_
  have O:g≠wn/\g≠mb:=by
    constructor
    ·intro e;have P:=M.cells;rw[<-e,cB]at P;simp[b7L]at P
    ·intro e;obtain⟨f,n,⟨es,c9,hq,_⟩,_⟩:=M.map;have P:obj hh mb=_:=hq;rw[<-e,cB]at P;cases P
  have Q:(B.1.enter c.1).w.last<=(B.1.enter c.1).la:=by
    unfold BkS.enter;split
    ·rename_i q;unfold YC at q;have:B.1.w.last<=B.1.la:=N;show B.1.w.last<=c.1;split at q
     ·cases q
     ·split at q
      ·cases q
      ·split at q
       ·cases q
       ·omega
    ·exact N
  have aA:(B.1.enter c.1).w=B.1.w:=by unfold BkS.enter;split<;>rfl
  have aB:(B.1.enter c.1).r=B.1.r:=by unfold BkS.enter;split<;>rfl
  have uT:Upd (inT T' g) hh h1:=u1.mono λj _ p=>by rw[show j=g from p];exact o1
  have bR:BkR h1 g (inT T' g) (B.1.enter c.1) l:=⟨⟨wn,mb,c1,ZyF B.2 l (M.congr (u1.old wn (Zp M.cells) λe=>O.1 (show wn=g from e).symm) (u1.old mb M.mlt λe=>O.2 (show mb=g from e).symm)),o1,o2,o3⟩,Q⟩
  ·have E1:=R.E.setB (B':=⟨B.1.enter c.1,l⟩) z bR uT ⟨λj p=>.inl p,λj p=>p⟩;have d:=R.step E1 (GrG.tag R.E.hT uT (λj p=>XI p) (Aqo _)) (L'':={L' with bs:=L'.bs.set i (g,⟨B.1.enter c.1,l⟩,v)}) ⟨rfl,rfl,Zgn z rfl,rfl⟩;refine⟨⟨d.box C b1,trivial⟩,Zd (Zd (Za ⟨λq=>?_,λq=>?_⟩))⟩
   ·have q':ZpL B.1 c.1=true:=q
    rw[if_pos q']at I;refine Zi (Zi (rP (d.box C b1) (Zi (rP (d.box C b1) (Zi (rL (s:=prS) (Zb d.w rfl) (rI (d.box C X) (ZF λA c2 y z2=>?_))))))));have bk:∀{h3:Zf},(∀{j:Nat} {x:Obj},obj h1 j=some x->prS.blk≠some j->obj h3 j=some x)->True:=λ_=>trivial;have nb:prS.blk≠some b:=λe=>by have:=(d.o.lt e).1;have:=b1.2.2.1;omega
    have nw:prS.blk≠some wb:=λe=>by have:=(d.o.lt e).1;have:=d.lw;omega
    have B1:=d.box C b1
    have D:Zy 0 (obj A b)=some (pB wb):=by
      rw[show obj A b=obj h1 b from y.old b (Aqq b1.2.2.1 d.u.size)];exact B1
    have w2:=Zj d.w y;refine⟨Yj (Zb w2 rfl),⟨D,trivial⟩,⟨D,trivial⟩,(ZkO c2 rfl).rd ?_⟩;have pl:=d.pl;have ol:=d.o.len;simp only[Ayv,Aqv]at ol;refine(d.o.congr (h':=A) λb _ hl _=>y.old b hl).app (n:=1) rfl rfl rfl (by omega) (by omega) (Aqp d.u.size y.size) λs' h3 af l3 V ag=>?_
    have S:Zy 0 (obj h3 b)=some (pB wb):=by
      rw[show obj h3 b=obj A b from V.old b (Aqq b1.2.2.1 (Aqp d.u.size y.size)) nb];exact D
    have w3:obj h3 wb=_:=(V.old wb (Zp w2) nw).trans w2;refine⟨⟨S,trivial⟩,⟨S,trivial⟩,Zi (ZcS w3 (show 0+10<12 by decide) rfl λW c4 u4 z4=>?_)⟩;have aM:sz h1<sz A:=by have:sz A=sz h1+1:=z2;omega
    have aN:sz A<=sz h3:=V.size;have aO:sz h3<=sz W:=u4.size;have Tw:=d.tw';have F:Upd (λj=>j=wb\/prS.blk=some j) h1 W:=((y.upd _).trans (V.mono λj _ p=>.inr p)).trans (u4.mono λj _ p=>.inl p)
    have E4:=d.E.frame F λj p=>by
      rcases p with e|e
      ·rw[e];exact Tw
      ·exact d.ot j e
    refine I W _ _ s' ⟨E4,⟨Aqp d.u.size F.size,λk H hn=>?_⟩,d.s,d.n,c4,d.lw,d.tw,?_,λU h=>?_,d.ls,by simp;have:=R.pl;omega⟩
    ·refine (F.old k (Aqq H d.u.size) λh9=>?_).trans (d.u.old k H hn)
     rcases h9 with e|e
     ·exact hn (.inr e)
     ·have:=(d.o.lt e).1;have:k<sz hS:=H;omega
    ·rw[Ayw];refine(af.congr (h':=W) λU h ai g=>u4.old U ai λe=>?_);have e':U=wb:=e;have:sz hS<=U:=g;have:=d.lw;omega
    ·rcases ag with e|e
     ·exact d.ot U (e▸h)
     ·rw[e]at h;cases h;refine Classical.byContradiction λaj=>?_;have h9:sz A<sz h1:=d.E.hT _ aj;omega
   ·rw[if_neg (by rw[show ZpL B.1 c.1=false from q];decide)]at I;exact I h1 _ _ prS d
end
theorem ZsD{h:Zf}{s:Sl}{al:List ByteArray}(hs:Row h s 1 (al.map .string)){K:Bool->Zf->Prop}(d:K (Zlk al) h)(hl:al.length<=8):ZD s K h:=by
  unfold ZD ZU Z4 Z9;have k:s.len=al.length:=by have:=hs.len;simp at this;omega
  refine Za (Zaj (λp j=>∃i:Nat,p=((i:Int),())/\i<=al.length/\j=h/\Zlk (al.take i)=false) (λp _=>al.length- p.1.toNat) ⟨0,rfl,Ayg _,rfl,rfl⟩ ?_);rintro _ j ⟨i,rfl,l,g,e⟩ Q m;subst g;dsimp only;refine Zn (λq=>?_) λq=>?_
  ·have a:i<al.length:=by omega
   have f:al[i]?=some al[i]:=Axy a;generalize al[i]=x at f;refine Za (hs.idx (n:=i) (v:=.string x) rfl (by rw[Awy,f];rfl) λb o _ r=>⟨x,r,?_⟩);unfold Zct Zcv;refine Zd (Zn (λt=>Za (Zd ?_)) λt=>?_)
   ·have:decide ((i:Int)>=0)=true:=by simp
    rw[this];have:Zlk al=true:=List.any_eq_true.2 ⟨x,Axo f,by simp;omega⟩;rw[this]at d;exact d
   ·rw[wrS a (by omega)];refine m _ _ ⟨i+1,rfl,a,rfl,?_⟩ (by show al.length- ((i+1:Nat):Int).toNat<al.length- ((i:Nat):Int).toNat;omega);unfold Zlk at e⊢;rw[Aym,f,List.any_append,e];simp;omega
  ·have c:al.take i=al:=Awd (by omega);rw[c]at e;rw[e]at d;exact Za (Zd d)
theorem ZDN{h:Zf}{T:TgM}{L:Lay}{G:GS}(E:ZcQ h T L G){c:PC}{sl:Sl}(hz:Zkr (cl c nl)){al:List ByteArray}(F:Row h sl 1 (al.map .string)){K:Int->Zf->Prop}
    (w:∀h' T',ZcQ h' T' L (if ZhM G c al=0 then {G with t:=G.t.touched (cl c nl)}else G)->GrG T T' h h'->K (ZhM G c al) h'):Zag (some ⟨L.eb,0,none⟩) (cl c sl) K h:=by
  have no:∀e (d:Zf),Ext h d->e≠0->ZhM G c al=e->K e d:=λe d H h1 i=>by
    have:=w d T (by rw[if_neg (by rw[i];exact h1)];exact E.ext H) (GrG.ext H);rwa[i]at this
  unfold Zag ZdQ;have P:sl.len=al.length:=by have:=F.len;simp at this;omega
  refine ZF λh1 c1 I z1=>Za (rI (Zb c1 rfl) (rS (Zb c1 rfl) (rS (Zb c1 rfl) (rS (Zb c1 rfl) (rB (Zb c1 rfl) (rI (Zb c1 rfl) (rL (s:=sl) (Zb c1 rfl) ?_)))))));refine ZoB (c:=cl c sl) (show Zkr (cl c sl)from⟨hz.a,hz.b,hz.c⟩) λs i x o2=>Za (Zdt (λ(m:Zj6 (cl c nl)≠0)=>Za (no (Zj6 (cl c nl)) i (I.trans x) m (by unfold ZhM;rw[if_pos m]))) λ(m:Zj6 (cl c nl)=0)=>?_);have f:=I.trans x;have g:=Zj c1 x;have J:∀{a:Int},¬(0<=c.1/\c.1<=1152921504606846976)->K 2 i:=λq=>no 2 i f (by decide) (by unfold ZhM;rw[if_neg (λd=>d m),if_pos q]);refine rI (Zb g rfl) (Zn (λ(Q:c.1<0)=>Za (J (a:=0) (by omega))) λ(Q:¬c.1<0)=>rI (Zb g rfl) (Zn (λ(R:c.1>1152921504606846976)=>Za (J (a:=0) (by omega))) λ(R:¬c.1>1152921504606846976)=>?_));have k:0<=c.1/\c.1<=1152921504606846976:=by omega
  have M:¬(1<=c.2.2.2.2.2/\c.2.2.2.2.2<=1099511627776)->K 2 i:=λq=>no 2 i f (by decide) (by unfold ZhM;rw[if_neg (λd=>d m),if_neg (λd=>d k),if_pos q]);refine rI (Zb g rfl) (Zn (λ(S:c.2.2.2.2.2<1)=>Za (M (by omega))) λ(S:¬c.2.2.2.2.2<1)=>rI (Zb g rfl) (Zd (Zn (λ(U:c.2.2.2.2.2>1099511627776)=>Za (M (by omega))) λ(U:¬c.2.2.2.2.2>1099511627776)=>?_)));have l:1<=c.2.2.2.2.2/\c.2.2.2.2.2<=1099511627776:=by omega
  refine rL (s:=sl) (Zb g rfl) (Zn (λV=>Za (no 5 i f (by decide) ?_)) λV=>?_)
  ·unfold ZhM;rw[if_neg (λd=>d m),if_neg (λd=>d k),if_neg (λd=>d l),if_pos (by omega)]
  have n:¬ 8<al.length:=by omega
  refine rL (s:=sl) (Zb g rfl) (ZsD (F.ext f) (Zd ⟨λy=>Za (no 5 i f (by decide) ?_),λy=>?_⟩) (by omega))
  ·unfold ZhM;rw[if_neg (λd=>d m),if_neg (λd=>d k),if_neg (λd=>d l),if_neg n,if_pos y]
  have o:¬Zlk al=true:=by rw[y];decide
  have r:=E.ext f;refine rI (Zb g rfl) (Zi (rI (Zb r.cells rfl) (Zd (Zn (λ(u:c.1<G.la)=>Za (no 7 i f (by decide) ?_)) λ(u:¬c.1<G.la)=>?_))))
  ·unfold ZhM;rw[if_neg (λd=>d m),if_neg (λd=>d k),if_neg (λd=>d l),if_neg n,if_neg o,if_pos u]
  refine Zi (rI (Zb r.cells rfl) (Zd (Zn (λz=>Za (no 3 i f (by decide) ?_)) λz=>?_)))
  ·unfold ZhM;rw[if_neg (λd=>d m),if_neg (λd=>d k),if_neg (λd=>d l),if_neg n,if_neg o,if_neg u,if_pos (show 4096<=G.op from z)]
  have W:ZhM G c al=G.t.touchE (cl c nl):=by unfold ZhM;rw[if_neg (λd=>d m),if_neg (λd=>d k),if_neg (λd=>d l),if_neg n,if_neg o,if_neg u,if_neg (show ¬ 4096<=G.op from z)]
  rw[W]at w;refine Zi (rP (Zb r.cells rfl) (rI (Zb g rfl) (rS (Zb g rfl) (rS (Zb g rfl) (rS (Zb g rfl) (rB (Zb g rfl) (rI (Zb g rfl) (rL (s:=sl) (Zb g rfl) (ZF λh3 X A z3=>⟨Yj (Zb (r.ext A).cells rfl),?_⟩)))))))));have v:=r.ext A;have B:=f.trans A;refine Zwp (c:=cl c sl) v.tree (λj C=>ZeL v.hT C) (show Zkr (cl c sl)from⟨hz.a,hz.b,hz.c⟩) (ZkO X rfl) (λb q d=>?_) λN O' t4 O Y=>Za (w N (Zjv T (.p L.tb) (sz h3) (sz N)) ?_ (GrG.pre B (GrG.tag v.hT O (λj C=>XI C) (Aqo _))))
  ·simp[Sl.blk]at q;subst q;have Z:T (sz i)=some (.p L.tb):=d;have:=ZeL r.hT Z;omega
  ·have:(if G.t.touchE (cl c nl)=0 then {G with t:=G.t.touched (cl c nl)}else G)={G with t:=G.t.touched (cl c nl)}:=by
     split
     ·rfl
     ·rename_i D;unfold Tree.touched;rw[if_neg D]
   rw[this];exact v.tree' t4 O Y
def ZPh(r:RulesP):Tk->Prop
  | .warm i _ _=>∃f,r.fl[i]?=some f/\f.shape=1
  | .pace i=>∃f,r.fl[i]?=some f/\f.shape=2
  | .wp i _ _=>∃f,r.fl[i]?=some f/\f.shape=3
  |_=>True
theorem ZjJ{P:Tk->Prop}{f:Int->Lk}(c:∀i tk,tk∈(f i).tk->P tk):∀{l:List Int} {x:List Tk×Int},(∀tk,tk∈x.1->P tk)->∀tk,tk∈(ZfJ f l x).2.1->P tk
  |[],x,a,tk,h=>a tk h
  | i::l,x,a,tk,h=>by
    have d:∀tk,tk∈x.1++(f i).tk->P tk:=λtk h=>(Axx.1 h).elim (a tk) (c i tk);have e:ZfJ f (i::l) x=if(f i).b=true then(some i,x.1++(f i).tk,wtV x.2 (f i).wt)else ZfJ f l (x.1++(f i).tk,wtV x.2 (f i).wt):=rfl
    rw[e]at h;split at h
    ·exact d tk h
    ·exact ZjJ c (l:=l) (x:=(x.1++(f i).tk,wtV x.2 (f i).wt)) d tk h
theorem Zr5{P:Tk->Prop}{st:Nat->List Tk×Int->Option Int×List Tk×Int}(a:∀j x,(∀tk,tk∈x.1->P tk)->∀tk,tk∈(st j x).2.1->P tk):∀{n j:Nat} {x:List Tk×Int},(∀tk,tk∈x.1->P tk)->∀tk,tk∈(ZlJ st n j x).2.1->P tk
  | 0,_,x,b,tk,h=>b tk h
  | n+1,j,x,b,tk,h=>by
    have e:ZlJ st (n+1) j x=match (st j x).1 with
      |some i=>(some (((j+1:Nat):Int),i),(st j x).2)
      |none=>ZlJ st n (j+1) (st j x).2:=rfl
    rw[e]at h;split at h
    ·exact a j x b tk h
    ·exact Zr5 a (n:=n) (j:=j+1) (x:=(st j x).2) (a j x b) tk h
theorem ZEo{G:GS}{c:PC}{al:List ByteArray}{gr:Bool}:∀tk,tk∈(ZnV G c al gr).2.1->ZPh G.r tk:=by
  refine Zr5 (λj x a tk h=>?_) λtk h=>by cases h
  have no:∀{f:Int->Lk} {l:List Int},(∀i,(f i).tk=[])->tk∈(ZfJ f l x).2.1->ZPh G.r tk:=λ{f l} b h=>ZjJ (λi tk h=>by rw[b i]at h;cases h) a tk h
  match j,h with
  | 0,h=>exact no (λi=>rfl) h
  | 1,h=>
    have h':tk∈(ZFw G c x).2.1:=h;unfold ZFw at h';split at h'
    ·exact no (λi=>rfl) h'
    ·exact a tk h'
  | 2,h=>
    refine ZjJ (λi tk h=>?_) a tk h;unfold ZnX at h;split at h
    ·split at h
     ·simp only[Awr,Ayk,or_false]at h;subst h;trivial
     ·cases h
    ·cases h
  | 3,h =>
    refine ZjJ (λi tk h=>?_) a tk h;unfold ZfG at h;split at h
    ·rename_i f s b hs;split at h
     ·cases h
     ·unfold ZkQ at h;split at h
      ·rename_i q;split at h
       ·simp only[Awr,Ayk,or_false]at h;subst h;exact⟨f,b,q⟩
       ·cases h
      ·split at h
       ·rename_i q;split at h
        ·simp only[Awr,Ayk,or_false]at h;subst h;exact⟨f,b,q⟩
        ·cases h
       ·split at h
        ·rename_i q;split at h
         ·simp only[Awr,Ayk,or_false]at h;subst h;exact⟨f,b,q⟩
         ·cases h
        ·cases h
    ·cases h
  | n+4,h=>
    refine ZjJ (λi tk h=>?_) a tk h;unfold ZnY at h;split at h
    ·simp only[Awr,Ayk,or_false]at h;subst h;trivial
    ·cases h
theorem ZD5{c:PC}{x:GS×List Int}(tk:Tk):(ZfL c x tk).1.r=x.1.r:=by unfold ZfL;cases tk<;>dsimp only<;>split<;>rfl
section
variable{h h8 hh h12:Zf}{T T3 T':TgM}{L L':Lay}{G:GS}
theorem GrG.run{wb m:Nat}{c:PC}{sl t b:Sl}{gr:Bool}{wt:Int}{pr:List Int}(a:GrG T T3 h h8)(R:Zo8 h8 T3 L wb c sl gr t wt m hh T' L' G pr b)(hT:∀j,T j≠none->j<sz h)(hw:sz h<=wb):GrG T T' h hh:=by
  refine⟨⟨Aqp a.u.size R.u.size,λk d f=>?_⟩,a.s.trans R.s,λj i=>?_⟩
  ·have l:k<sz h:=d;refine(R.u.old k (Aqq d a.u.size) λo=>?_).trans (a.u.old k d f)
   rcases o with e|e
   ·rcases a.n k e with g|g
    ·exact f g
    ·omega
   ·omega
  ·rcases R.n j i with g|g
   ·exact a.n j g
   ·exact .inr (Aqp a.u.size g)
theorem GrG.tagS{s:Sl}(a:GrG T T' h h12)(hs:∀b,s.blk=some b->T' b=none/\sz h<=b):GrG T (tagS T' s) h h12:=
  ⟨a.u,a.s.trans (ZiK λb c=>(hs b c).1),λj d=>(ZiL d).elim (a.n j) λe=>.inr (hs j e).2⟩
theorem ZDS{base wb:Nat}{c:PC}{sl t:Sl}{gr:Bool}{wt:Int}{tks:List Tk}{vs:List Value}(hE:ZcQ h8 T L G)(ok:GOK G)(hb:∀j,T j≠none->j<base/\j≠wb)(W:WkR h8 base wb L c sl gr tks wt t vs)(hn:tks.length<=2000)(ah:∀tk,tk∈tks->ZPh G.r tk){K:Zf->Prop}
    (hk:∀h' T' L' J,Zo8 h8 T L wb c sl gr t wt tks.length h' T' L' (ZjV c (G,[]) tks).1 (ZjV c (G,[]) tks).2 J->K h'):
    ZP (σ:=Int×Unit) (λM s z=>(λ(A:Int)=>Zk (decide (A<(t.len:Int))) (Yk t.ptr t.len A 1 λai aj=>ldV z ai aj λt74=>
 (exG t74 (λB:Option Addr×Option Addr×Option Addr×Unit=>.func (.func 122) #[] ⟨[.pointer B.1,.pointer B.2.1,.pointer B.2.2.1]⟩) λB=>Xp B.1 B.2.1 B.2.2.1 (λy=>M (IntKind.wrap .i64 (A+1),()) y) z)\/(
 (exG t74 (λh:Option Addr×Option Addr×Option Addr×Option Addr×Option Addr×Unit=>.func (.func 182) #[] ⟨[.pointer h.1,.pointer h.2.1,.pointer h.2.2.1,.pointer h.2.2.2.1,.pointer h.2.2.2.2.1]⟩) λh=>XO h.1 h.2.1 h.2.2.1 h.2.2.2.1 h.2.2.2.2.1 (λy=>M (IntKind.wrap .i64 (A+1),()) y) z)\/(
 (exG t74 (λC:Option Addr×Option Addr×Option Addr×Unit=>.func (.func 185) #[] ⟨[.pointer C.1,.pointer C.2.1,.pointer C.2.2.1]⟩) λC=>XN C.1 C.2.1 C.2.2.1 (λy=>M (IntKind.wrap .i64 (A+1),()) y) z)\/(
 (exG t74 (λk:Option Addr×Option Addr×Option Addr×Option Addr×Option Addr×Unit=>.func (.func 190) #[] ⟨[.pointer k.1,.pointer k.2.1,.pointer k.2.2.1,.pointer k.2.2.2.1,.pointer k.2.2.2.2.1]⟩) λk=>XM k.1 k.2.1 k.2.2.1 k.2.2.2.1 k.2.2.2.2.1 (λy=>M (IntKind.wrap .i64 (A+1),()) y) z)\/(
 (exG t74 (λN:Option Addr×Option Addr×Unit=>.func (.func 128) #[] ⟨[.pointer N.1,.pointer N.2.1]⟩) λN=>Y3 N.1 N.2.1 (λy=>M (IntKind.wrap .i64 (A+1),()) y) z)\/False))))) (K z)) s.1) (0,()) h8:=by
  have E:∀j,T j≠none->j<base:=λj hj=>(hb j hj).1;have tw:T wb=none:=Classical.byContradiction λh9=>(hb wb h9).2 rfl;have tl:t.len=tks.length:=by have:=W.o.len;have:=W.l;omega
  refine Zaj (λ(p:Int×Unit) hh=>∃(m:Nat) (T':TgM) (L':Lay) (X:GS) (pr:List Int) (J:Sl),p=((m:Int),())/\m<=tks.length/\Zo8 h8 T L wb c sl gr t wt m hh T' L' X pr J/\GOK X/\X.r=G.r/\ZjV c (X,pr) (tks.drop m)=ZjV c (G,[]) tks) (λp _=>((tks.length:Int)- p.1).toNat)
    ⟨0,T,L,G,[],nl,rfl,Ayg _,⟨hE,Upd.refl _ _,ZdW.refl T,λj hj=>.inl hj,W.w,Zp W.w,tw,Own.nil _ _ _,(λb hb=>by cases hb),LS.refl,Aqo _⟩,ok,rfl,rfl⟩ ?_
  rintro _ hh ⟨m,T',L',X,pr,J,rfl,hm,R,F,hr,D⟩ Q hQ;dsimp only;refine Zn (λq=>?_) λq=>?_
  ·have O:m<tks.length:=by omega
   obtain⟨tk,P⟩:∃tk,tks[m]?=some tk:=⟨_,Axy O⟩;obtain⟨v,af⟩:∃v,vs[m]?=some v:=⟨_,Axy (by rw[W.l];exact O)⟩
   have row:Row hh t 1 vs:=(W.o.congr λb aa al an=>R.u.old b al λe=>by
     rcases e with e|e
     ·have:base<=b:=an;have:=E b e;omega
     ·exact W.n (by rw[aa,show b=wb from e])).row
   have hd:tks.drop m=tk::tks.drop (m+1):=by
     rw[Ayo O];congr 1;exact(Ayh.1 P).2
   rw[hd]at D;have S:=ah tk (Axo P)
   have next:∀h' T'' L'' U,Zo8 h8 T L wb c sl gr t wt (m+1) h' T'' L'' (ZfL c (X,pr) tk).1 (ZfL c (X,pr) tk).2 U->Q (IntKind.wrap .i64 ((m:Int)+1),()) h':=λh' T'' L'' U R'=>by
     rw[wrS O (by omega)];exact hQ _ _ ⟨m+1,T'',L'',_,_,U,rfl,O,R',F.run1 (x:=(X,pr)) tk,(ZD5 (x:=(X,pr)) tk).trans hr,D⟩ (by show((tks.length:Int)- ((m+1:Nat):Int)).toNat<((tks.length:Int)- ((m:Nat):Int)).toNat;omega)
   refine row.idx (i:=(m:Int)) (n:=m) rfl af λb o _ hc=>⟨v,hc,?_⟩;have V:=W.e m v tk af P
   cases tk with
   | hot i x=>
     obtain⟨a0,a1,a2,aa,e,Y,b1,b2,Z⟩:=V;subst e;exact .inl ⟨(some ⟨a0,0,none⟩,some ⟨a1,0,none⟩,some ⟨a2,0,none⟩,()),rfl,ZGU R E Y b1 b2 Z next⟩
   | warm i past sum=>
     obtain⟨a,b,d,e,f,p,ev,Y,b1,b2,b3,b4,Z⟩:=V;subst ev;obtain⟨f9,H,I⟩:=S;exact .inr (.inl ⟨(some ⟨a,0,none⟩,some ⟨b,0,none⟩,some ⟨d,0,none⟩,some ⟨e,0,none⟩,some ⟨f,0,none⟩,()),rfl,ZD4 R F E (λs hs=>(F.sh i f9 s (by rw[hr];exact H) hs).2 (.inl I)) Y b1 b2 b3 b4 Z next⟩)
   | pace i=>
     obtain⟨a,b,f,p,ev,Y,b1,b4,Z⟩:=V;subst ev;obtain⟨f9,H,I⟩:=S;exact .inr (.inr (.inl ⟨(some ⟨a,0,none⟩,some ⟨b,0,none⟩,some ⟨f,0,none⟩,()),rfl,ZD6 R E (λs hs=>(F.sh i f9 s (by rw[hr];exact H) hs).1 (.inl I)) Y b1 b4 Z next⟩))
   | wp i past ao=>
     obtain⟨a,b,d,f,g,p,ev,Y,ab,b1,b2,b4,b5,Z⟩:=V;subst ev;obtain⟨f9,H,I⟩:=S;exact .inr (.inr (.inr (.inl ⟨(some ⟨a,0,none⟩,some ⟨b,0,none⟩,some ⟨d,0,none⟩,some ⟨f,0,none⟩,some ⟨g,0,none⟩,()),rfl,ZOO R E (λs hs=>⟨(F.sh i f9 s (by rw[hr];exact H) hs).1 (.inr I),(F.sh i f9 s (by rw[hr];exact H) hs).2 (.inr I)⟩) Y ab b1 b2 b4 b5 Z next⟩)))
   | brk i=>
     obtain⟨a,b,aa,id,ev,Y,ab,b1,Z⟩:=V;subst ev;exact .inr (.inr (.inr (.inr (.inl ⟨(some ⟨a,0,none⟩,some ⟨b,0,none⟩,()),rfl,ZGV R (by omega) E Y ab b1 Z next⟩))))
  ·have:m=tks.length:=by omega
   subst this;rw[Ayq (Aqo _)]at D;have e:(X,pr)=ZjV c (G,[]) tks:=D;refine hk hh T' L' J ?_;rw[<-e];exact R
end
theorem EnR.put{h h':Zf}{T:TgM}{fm d:Nat}{en:Int->Option Ent}{f:Int->Option Value}{n:Nat}{k:Int}{e:Ent}{s:Sl}(l:EnI h T fm en f n)(hm:ZlX h' fm (upd f k (some (ZHH e.c e.ov s))) d)(u:Upd (· = fm) h h')(hT:T fm=some (.p fm))(m:Row h' s 1 (e.pr.map iv))(hs:Rw.inS (roT T) s):EnR h' T fm (upd en k (some e)):=by
  refine⟨_,d,hm,λj=>?_⟩
  by_cases q:j=k
  ·subst q;exact .inr ⟨e,s,Zea _ _ _,Zea _ _ _,m,hs⟩
  ·rw [Zit en _ q,Zit f _ q]
   rcases l.e j with h1|⟨a,s',h1,o,h3,g⟩
   ·exact .inl h1
   ·refine .inr ⟨a,s',h1,o,Rw.ZiP h3 g λb i hl=>u.old b hl λr=>?_,g⟩;have a:b=fm:=r;rw[a]at i;rw[show T fm=some .ro from i]at hT;cases hT
section
variable{h:Zf}{T:TgM}{L:Lay}{G:GS}{c:PC}{sl:Sl}{al:List ByteArray}{gr:Bool}
theorem ZFk(S:ZcQ h T L G)(ok:GOK G)(hz:Zkr (cl c nl))(ha:Row h sl 1 (al.map .string))(ax:al≠[]->∀b,sl.blk=some b->b<sz h/\T b=none){K:Int->V4->Int->Zf->Prop}
    (Q:∀h' T' D,ZcQ h' T' D (G.enter c al gr).2->D.eb=L.eb->GrG T T' h h'->K (G.enter c al gr).1.1 (G.enter c al gr).1.2.1 (G.enter c al gr).1.2.2 h'):Xb (some ⟨L.eb,0,none⟩) (cl c sl) gr K h:=by
  have aI:Zkr (cl c sl):=⟨hz.a,hz.b,hz.c⟩;unfold Xb Zby;refine ZF λh1 c1 e1 z1=>Za (ZF λU c2 e2 z2=>Za (Zh rfl (Zi ?_)));have aj:=e1.trans e2;have x2:=Zj c1 e2;have E2:=S.ext aj;have s1:sz h1=sz h+1:=z1;have s2:sz U=sz h1+1:=z2;have Tn:∀j,sz h<=j->T j=none:=λj d=>Classical.byContradiction λi=>by have:=S.hT j i;omega
  refine rI (Zb x2 rfl) (rS (Zb x2 rfl) (rS (Zb x2 rfl) (rS (Zb x2 rfl) (rB (Zb x2 rfl) (rI (Zb x2 rfl) (rL (s:=sl) (Zb x2 rfl) (?_)))))));refine ZDN E2 (c:=c) hz (ha.ext aj) λh3 C E3 g3=>Za ?_;have s3:sz U<=sz h3:=g3.u.size;have G3:GrG T C h h3:=GrG.pre aj g3
  have I:∀j,sz h<=j->j<sz U->C j=none:=λj d hl=>Classical.byContradiction λi=>by
    rcases g3.n j i with g|g
    ·exact g (Tn j d)
    ·omega
  have x3:obj h3 (sz h)=_:=(g3.old (show sz h<sz U by omega) (Tn _ (Aqo _))).trans x2;have y3:obj h3 (sz h1)=_:=(g3.old (show sz h1<sz U by omega) (Tn _ (by omega))).trans c2;refine Zdt (λq=>?_) λq=>?_
  ·rw[if_neg q]at E3;refine Za (ZaN y3 λr c4 u4 z4=>Za (rI (Zb c4 rfl) (rI (Zb c4 rfl) (rI (Zb c4 rfl) ?_))));unfold GS.enter at Q;rw[if_pos q]at Q;exact Q r C L (E3.frame u4 λj d=>by rw[show j=sz h1 from d];exact I _ (by omega) (by omega)) rfl (G3.new u4 λj d=>by have e':j=sz h1:=d;omega)
  rw[if_pos q]at E3;unfold GS.enter at Q;rw[if_neg (λi=>i q)]at Q;refine rI (Zb x3 rfl) (Zi (ZcS E3.cells (show 0+18<19 by decide) rfl λr c4 u4 z4=>Zi ?_));have E4:ZcQ r C L (G.mid c):=E3.set (ld:=G.ld) (cp:=G.cp) (op:=G.op) (nx:=G.nx) (la:=c.1) c4 u4;have s4:sz r=sz h3:=z4;have bn:L.eb<sz h:=ZeL S.hT S.eT;have J:∀j,sz h<=j->¬j=L.eb:=λj d=>by omega
  have x4:obj r (sz h)=_:=(u4.old _ (Zp x3) (J _ (Aqo _))).trans x3;have y4:obj r (sz h1)=_:=(u4.old _ (Zp y3) (J _ (by omega))).trans y3;have G4:GrG T C h r:=G3.trans (GrG.one (XI E3.eT) u4) S.hT;refine rI (Zb x4 rfl) (rS (Zb x4 rfl) (rS (Zb x4 rfl) (rS (Zb x4 rfl) (rB (Zb x4 rfl) (rI (Zb x4 rfl) (rL (s:=sl) (Zb x4 rfl) (ZF λh5 c5 e5 z5=>?_)))))));have x5:=Zj x4 e5;have y5:=Zj y4 e5;have s5:sz h5=sz r+1:=z5;refine⟨⟨Zb x5 rfl,Zb x5 rfl,Zb x5 rfl,Zb x5 rfl,Zb x5 rfl,Zb x5 rfl,Zb x5 rfl,trivial⟩,?_⟩;have w5:obj h5 (sz r)=some (ZvA L.eb (cl c sl) gr nl nl 0):=c5;have E5:=E4.ext e5;have ay:∀j,C j≠none->j<sz r:=E4.hT;have hb:∀j,C j≠none->j<sz r/\j≠sz r:=λj d=>by have:=ay j d;omega
  have bo:Row h5 sl 1 (al.map .string):=by
    have a3:Row h3 sl 1 (al.map .string):=(ha.ext aj).congr λb o l az A=>by
      obtain⟨b1,b2⟩:=ax (λi=>az (by rw[i];rfl)) b (by simp[Sl.blk,l]);exact g3.old (show b<sz U by omega) b2
    exact (a3.congr (h':=r) λb o l az A=>u4.old b A λe=>by
      obtain⟨b1,b2⟩:=ax (λi=>az (by rw[i];rfl)) b (by simp[Sl.blk,l]);have e':b=L.eb:=e;rw[e',S.eT]at b2
      cases b2).ext e5
  refine ZHg (al:=al) E5 ok.mid hb (by omega) w5 bo (λne b l=>by have:=(ax ne b l).1;omega) λh6 x hx u6 hW=>?_;have s6:sz h5<=sz h6:=u6.size;have bp:C (sz r)=none:=Classical.byContradiction λi=>by have:=ay _ i;omega
  have E6:=E5.frame u6 λj d=>by rw[show j=sz r from d];exact bp
  have x6:obj h6 (sz h)=_:=(u6.old _ (Zp x5) (show ¬sz h=sz r by omega)).trans x5;have y6:obj h6 (sz h1)=_:=(u6.old _ (Zp y5) (show ¬sz h1=sz r by omega)).trans y5;have G6:GrG T C h h6:=(G4.then e5).new u6 λj d=>by have e':j=sz r:=d;omega
  refine ZF λh7 c7 e7 z7=>ZaN c7 λM c8 u8 z8=>Zd ?_;have Y:Ext h6 M:=e7.then u8 λk Q=>by subst Q;exact Aqo _
  have E8:=E6.ext Y;have x8:=Zj x6 Y;have y8:=Zj y6 Y;have s7:sz h7=sz h6+1:=z7;have s8:sz M=sz h7:=z8;have G8:GrG T C h M:=G6.then Y
  have aN:∀j,sz h3<=j->C j=none:=λj d=>Classical.byContradiction λi=>by have:=ay j i;omega
  rw[hx]at Q;obtain⟨o,tks,wt⟩:=x
  cases o with
  | some ki=>
    obtain⟨kk,ii⟩:=ki;dsimp only at Q c8;refine Zm rfl (Zi (rP (Zb E8.cells rfl) (rI (Zb x8 rfl) (rS (Zb x8 rfl) (rS (Zb x8 rfl) (rS (Zb x8 rfl) (rB (Zb x8 rfl) (rI (Zb x8 rfl) (rL (s:=sl) (Zb x8 rfl) (?_))))))))));refine ZtX (c:=cl c sl) E8.tree (λj d=>ZeL E8.hT d) aI λer i O9 t9 V g9=>Za ?_;have E9:ZcQ i (Zjv C (.p L.tb) (sz M) (sz i)) L ((G.mid c).blocked c):=E8.tree' t9 V g9;have s9:sz M<=sz i:=V.size;have G9:GrG T (Zjv C (.p L.tb) (sz M) (sz i)) h i:=G8.trans (GrG.tag E8.hT V (λj d=>XI d) (Aqo _)) S.hT
    have N:∀j,C j=none->¬inT C L.tb j:=λj d i=>by
      have Z:C j=some (.p L.tb):=i;rw[d]at Z;cases Z
    have c9:obj i (sz h6)=_:=(V.old _ (Zp c8) (N (sz h6) (aN (sz h6) (show sz h3<=sz h6 by omega)))).trans c8;have y9:obj i (sz h1)=_:=(V.old _ (Zp y8) (N _ (I _ (by omega) (by omega)))).trans y8;refine rI (Zb c9 rfl) (rI (Zb c9 rfl) (rI (Zb c9 rfl) (ZaN y9 λF W H aO=>Za (rI (Zb W rfl) (rI (Zb W rfl) (rI (Zb W rfl) (Q F _ L (E9.frame H λj d=>?_) rfl (G9.new H λj d=>?_))))))))
    ·rw[show j=sz h1 from d];unfold Zjv;rw[if_neg (by omega)];exact I _ (by omega) (by omega)
    ·have e':j=sz h1:=d;omega
  |none=>
  dsimp only at Q c8 hW;obtain⟨t',cH,W6,hl⟩:=hW rfl;have W8:=W6.ext Y;have bw:∀j,C j≠none->j<sz h5/\j≠sz r:=λj d=>by have:=hb j d;omega
  refine Zh rfl (rL (s:=t') (Zb W8.w rfl) ?_);refine ZDS (tks:=tks) E8 ok.mid bw W8 hl (λtk bx=>?_) λhh T' D v R=>?_
  ·have:=ZEo (G:=G.mid c) (c:=c) (al:=al) (gr:=gr) tk (by rw[hx];exact bx);exact this
  have aP:GOK (ZjV c (G.mid c,[]) tks).1:=GOK.runs (x:=(G.mid c,[])) ok.mid;generalize ZjV c (G.mid c,[]) tks=y at R Q aP;obtain⟨G2,pr⟩:=y;dsimp only at R Q aP;have GR:GrG T T' h hh:=G8.run R S.hT (by omega);have sR:sz M<=sz hh:=R.u.size;have aa:∀{j:Nat} {xx:Obj},obj M j=some xx->C j=none->j≠sz r->obj hh j=some xx:=λ{j xx} aQ h1 U=>(R.u.old j (Zp aQ) λe=>e.elim (λe=>e h1) U).trans aQ;have xR:=aa x8 (I _ (Aqo _) (by omega)) (show sz h≠sz r by omega);have yR:=aa y8 (I _ (by omega) (by omega)) (show sz h1≠sz r by omega);have aR:D.eb=L.eb:=R.ls.eb
  have aS:∀j,sz h<=j->j<sz M->C j=none->T' j=none:=λj h1 U h3=>Classical.byContradiction λi=>by
    rcases R.n j i with g|g
    ·exact g h3
    ·omega
  have tx:T' (sz h)=none:=aS _ (Aqo _) (by omega) (I _ (Aqo _) (by omega));have ty:T' (sz h1)=none:=aS _ (by omega) (by omega) (I _ (by omega) (by omega));have ER:=R.E;rw[<-aR]at J bn⊢;refine Zi (rP (Zb ER.cells rfl) (rI (Zb xR rfl) (rS (Zb xR rfl) (rS (Zb xR rfl) (rS (Zb xR rfl) (rB (Zb xR rfl) (rI (Zb xR rfl) (rL (s:=sl) (Zb xR rfl) (?_)))))))));refine Zwr (c:=cl c sl) ER.tree (λj d=>ZeL ER.hT d) aI λer i O9 t9 V g9=>?_;have E9:ZcQ i (Zjv T' (.p D.tb) (sz hh) (sz i)) D {G2 with t:=G2.t.passed (cl c nl)}:=ER.tree' t9 V g9;have s9:sz hh<=sz i:=V.size;have G9:GrG T (Zjv T' (.p D.tb) (sz hh) (sz i)) h i:=GR.trans (GrG.tag ER.hT V (λj d=>XI d) (Aqo _)) S.hT
  have N:∀j,T' j=none->¬inT T' D.tb j:=λj d i=>by
    have Z:T' j=some (.p D.tb):=i;rw[d]at Z;cases Z
  have ab:∀j,j<sz hh->T' j=none->Zjv T' (.p D.tb) (sz hh) (sz i) j=none:=λj h1 U=>by unfold Zjv;rw[if_neg (by omega)];exact U
  have x9:obj i (sz h)=_:=(V.old _ (Zp xR) (N _ tx)).trans xR;have y9:obj i (sz h1)=_:=(V.old _ (Zp yR) (N _ ty)).trans yR;have w9:obj i (sz r)=_:=(V.old _ (Zp R.w) (N _ R.tw')).trans R.w;have o9:Own i (sz M) v 1 (pr.map iv):=R.o.congr λb l A _=>V.old b A (N _ (R.ot b l));have p9:∀b,v.blk=some b->Zjv T' (.p D.tb) (sz hh) (sz i) b=none/\sz h<=b:=λb l=>⟨ab b (R.o.lt l).2 (R.ot b l),by have:=(R.o.lt l).1;omega⟩;generalize Zjv T' (.p D.tb) (sz hh) (sz i)=T9 at E9 G9 ab p9;refine ZcS x9 (show 0+6<7 by decide) rfl λF W H aO=>Zi ?_;have bB:T9 (sz h)=none:=ab _ (by omega) tx;have ae:=E9.frame H λj d=>by rw[show j=sz h from d];exact bB
  have bC:GrG T T9 h F:=G9.new H λj d=>by rw[show j=sz h from d];exact Aqo _
  have cM:sz F=sz i:=aO;have aU:obj F (sz h1)=_:=(H.old _ (Zp y9) (show ¬sz h1=sz h by omega)).trans y9;have aV:obj F (sz r)=_:=(H.old _ (Zp w9) (show ¬sz r=sz h by omega)).trans w9;have bD:Own F (sz M) v 1 (pr.map iv):=o9.congr λb l A aA=>H.old b A λe=>by have e':b=sz h:=e;have:sz M<=b:=aA;omega
  refine rI (Zb ae.cells rfl) (Za (Zi (rI (Zb ae.cells rfl) (Zi (ZcS ae.cells (show 0+17<19 by decide) rfl λcN aW bE cO=>Zi (rI (Zb aW rfl) (Zi (ZcS aW (show 0+16<19 by decide) rfl λO bF bG cP=>Zi ?_))))))));have B:Upd (· = D.eb) F O:=bE.trans bG;have aX:=ae.set (ld:=G2.ld) (cp:=G2.cp) (op:=IntKind.wrap .i64 (G2.op+1)) (nx:=IntKind.wrap .i64 (G2.nx+1)) (la:=G2.la) bF B;have bH:GrG T T9 h O:=bC.trans (GrG.one (XI ae.eT) B) S.hT;have P:obj O (sz h)=_:=(B.old _ (Zp W) (J _ (Aqo _))).trans W;have aY:obj O (sz h1)=_:=(B.old _ (Zp aU) (J _ (by omega))).trans aU;have aB:obj O (sz r)=_:=(B.old _ (Zp aV) (J _ (by omega))).trans aV;have aC:Own O (sz M) v 1 (pr.map iv):=bD.congr λb l A aA=>B.old b A (J _ (by have:sz M<=b:=aA;omega));have hp:=λb l=>(p9 b l).1;have z:=aX.keep (T':=tagS T9 v) (λj t _ _=>rfl) (ZiK hp) (Aqo _) λj d=>(ZiL d).elim (aX.hT j) λe=>(aC.lt e).2;have aZ:GrG T (tagS T9 v) h O:=bH.tagS p9;obtain⟨f,n,hI⟩:=z.ent;have cR:=ZeL S.hT S.fT;refine rM (Zb z.cells rfl) (rI (Zb P rfl) (rS (Zb P rfl) (rS (Zb P rfl) (rS (Zb P rfl) (rB (Zb P rfl) (rI (Zb P rfl) (rL (s:=nl) (Zb P rfl) (rL (s:=v) (Zb aB rfl) ?_))))))));refine hI.m.put G2.nx _ λao bI X cS=>Za ?_
  have ba:∀j,T9 j=none->v.blk≠some j->¬j=D.fm:=λj h1 U e=>by
    have:=z.fT;rw[<-e]at this;unfold tagS at this;rw[if_neg U,h1]at this;cases this
  have aD:∀j,j<sz M->v.blk≠some j:=λj d e=>by have:=(aC.lt e).1;omega
  have bJ:T9 (sz r)=none:=ab _ (by omega) R.tw';have bb:T9 (sz h1)=none:=ab _ (by omega) ty;have bc:EnR ao (tagS T9 v) D.fm (upd G2.en G2.nx (some ⟨cl c nl,false,pr⟩)):=EnR.put (e:=⟨cl c nl,false,pr⟩) (s:=v) hI bI X z.fT ((aC.congr λb l A _=>X.old b A λe=>?_).row) Zqu
  ·have bK:=z.mapped bc X;have bL:obj ao (sz h1)=_:=(X.old _ (Zp aY) (ba _ bb (aD _ (by omega)))).trans aY;have bM:obj ao (sz r)=_:=(X.old _ (Zp aB) (ba _ bJ (aD _ (by omega)))).trans aB;have bN:GrG T (tagS T9 v) h ao:=aZ.trans (GrG.one (XI z.fT) X) S.hT;refine rI (Zb bM rfl) (ZaN bL λbO aE bd cT=>Za (rI (Zb aE rfl) (rI (Zb aE rfl) (rI (Zb aE rfl) (Q bO _ D (bK.frame bd λj d=>?_) aR (bN.new bd λj d=>?_))))))
   ·rw[show j=sz h1 from d];unfold tagS;rw[if_neg (aD _ (by omega))];exact bb
   ·have e':j=sz h1:=d;omega
  ·have e':b=D.fm:=e;have:=z.fT;rw[<-e']at this;unfold tagS at this;rw[if_pos l]at this;cases this
end
section
variable{h:Zf}{T:TgM}{L:Lay}{G:GS}
end
end Go.Proofs.YtonbfpnngkemiaaGreat
