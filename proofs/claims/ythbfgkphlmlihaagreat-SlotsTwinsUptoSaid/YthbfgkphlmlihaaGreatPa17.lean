/- The walk over all rules: a flow rule's node. -/
import Derived.Test.YthbfgkphlmlihaaGreatPa16
set_option linter.unusedVariables false
set_option linter.unusedSimpArgs false
namespace Go.Proofs.YthbfgkphlmlihaaGreat
open Go Go.Fw Go.Js
theorem Zr2 {res:ByteArray} {h:Zf} {K:K4->Zf->Prop} (b:∀ h',Ext h h'->K (4,em,res,em,()) h'):ZeB res K h:=by
  unfold ZeB Zha;refine ZJ fun h1 c1 c f=>Zbe c1 fun d a e g=>?_;exact rI (Zb a rfl) (rS (Zb a rfl) (rS (Zb a rfl) (rS (Zb a rfl) (b d (c.then e fun k b=>by subst b;exact Aqo _)))))
abbrev k4O (k:K4):Obj:= .cells (k4L k).toArray 102 (0,0)
section
variable {h:Zf} {T:TgM} {L:Lay} {G:GS} {base wb:Nat} {t:Sl} {c:PC} {sl:Sl} {gr:Bool} {tks:List Tk} {wt:Int} {vs:List Value}
theorem ZGL {f:FlowP} (I:Za9 h T L G) (W:WkR h base wb L c sl gr tks wt t vs) {K:Option Addr->Zf->Prop} (d:∀ h' p,Ext h h'->Zom h' p (G.t.f (Zs9 (Zas (Rw.ZaJ f) (cl c nl))))->K p h'):Zda (some ⟨wb,0,none⟩) (Rw.ZaJ f) K h:=by
  have hw:Zas (Rw.ZaJ f) (cl c sl)=Zas (Rw.ZaJ f) (cl c nl):=rfl;rw [<- hw] at d;unfold Zda Zfw;refine ZJ fun h1 c1 y z1=>Zls (fun s a=>∃ lb,s=(some ⟨lb,0,none⟩,())/\Ext h a/\obj a lb=some (.cells [.string (Zas (Rw.ZaJ f) (cl c sl)).1,.string (Zas (Rw.ZaJ f) (cl c sl)).2.1,.string (Zas (Rw.ZaJ f) (cl c sl)).2.2.1,.bool (Zas (Rw.ZaJ f) (cl c sl)).2.2.2.1].toArray 346 (0,0))) ?_ ?_
  ·generalize Zas (Rw.ZaJ f) (cl c sl)=l at d ⊢
   rintro _ C ⟨lb,rfl,g,X⟩;dsimp only;refine Zg (rS (Zb X rfl) (Zr2 fun h3 n=>ZJ fun D z e4 z4=>Zbe z fun E J u5 z5=>?_));have M:Ext h3 E:=e4.then u5 fun k d=>by subst d;exact Aqo _
   have A:=n.trans M;have v:=Zj X A;have i:=g.trans A;have w5:=(W.ext i).w;have ag:=I.ext i;have lw:=Zp W.w;have ah:=Zp I.cells;have w3:sz h<=sz h3:=(g.trans n).size;have w4:sz D=sz h3+1:=z4;have aj:sz E=sz D:=z5;refine Zls (fun (_:Unit) a=>obj a (sz h3)=some (k4O (Zs9 l))/\Ext h a) ?_ ?_
   ·rintro _ F ⟨m,N⟩
    have Y:=(W.ext N).w;have B:=I.ext N;refine Zg (rP (Zb Y rfl) (Zg (rP (Zb B.cells rfl) (rI (Zb m rfl) (rS (Zb m rfl) (rS (Zb m rfl) (rS (Zb m rfl) ?_)))))));exact ZpP (k:=Zs9 l) B.tree fun h7 p Z f7=>⟨ZZ (Zb (Zj Y Z) rfl),d h7 p (N.trans Z) f7⟩
   ·intro Q x
    have up:∀ {a:Zf},Upd (· = sz h3) E a->Ext h a:=fun {a} u=>i.then u fun k d=>by subst d;exact w3
    have O:∀ {b:Bool},b=true->¬ b=false:=fun j h8=>by rw [j] at h8;cases h8
    refine Zg (rS (Zb v rfl) (Zc ⟨fun q=>?_,fun q=>?_⟩))
    ·have H:Yp l.2.2.1 em=false:=by
       have j:(!Yp l.2.2.1 em)=true:=q;simpa using j
     refine Zg (rS (Zb v rfl) (Zg (rS (Zb v rfl) (Zbe J fun F m P z6=>x () F ⟨?_,up P⟩))));unfold Zs9;rw [if_pos H];exact m
    ·have H:Yp l.2.2.1 em=true:=by
       have j:(!Yp l.2.2.1 em)=false:=q;simpa using j
     refine Zg (rS (Zb v rfl) (Zc ⟨fun R=>?_,fun R=>?_⟩))
     ·have o:Yp l.2.1 em=false:=by
        have j:(!Yp l.2.1 em)=true:=R;simpa using j
      refine Zg (rS (Zb v rfl) (Zg (rS (Zb v rfl) (Zbe J fun F m P z6=>x () F ⟨?_,up P⟩))));unfold Zs9;rw [if_neg (O H),if_pos o];exact m
     ·have o:Yp l.2.1 em=true:=by
        have j:(!Yp l.2.1 em)=false:=R;simpa using j
      refine x () E ⟨?_,i⟩;unfold Zs9;rw [if_neg (O H),if_neg (O o)];exact J
  ·intro Q x
   have w1:=(W.ext y).w
   have S:∀ a,Ext h1 a->Zo a [(wb,0+1,iv c.1),(wb,0+1+1,.string c.2.1),(wb,0+1+2,.string c.2.2.1),(wb,0+1+3,.string c.2.2.2.1),(wb,0+1+4,.bool c.2.2.2.2.1),(wb,0+1+5,iv c.2.2.2.2.2),(wb,0+1+6,slV sl)]:=fun a e=>by
     have w:=Zj w1 e;exact ⟨Zb w rfl,Zb w rfl,Zb w rfl,Zb w rfl,Zb w rfl,Zb w rfl,Zb w rfl,trivial⟩
   have U:∀ a,Ext h1 a->Zo a [(sz h,0,.string (Zx f.res)),(sz h,0+1,.string (Zx f.org)),(sz h,0+2,.bool f.thr),(sz h,0+3,iv f.cnt),(sz h,0+4,.int .u8 f.strat),(sz h,0+5,.string (Zx f.ref)),(sz h,0+6,.int .u8 f.shape),(sz h,0+7,iv f.warm),(sz h,0+8,iv f.queue),(sz h,0+9,.bool f.clu),(sz h,0+10,iv f.id),(sz h,0+11,.bool f.fb)]:=fun a e=>by
     have w:=Zj c1 e;exact ⟨Zb w rfl,Zb w rfl,Zb w rfl,Zb w rfl,Zb w rfl,Zb w rfl,Zb w rfl,Zb w rfl,Zb w rfl,Zb w rfl,Zb w rfl,Zb w rfl,trivial⟩
   refine Zg (rS (Zb c1 rfl) (rS (Zb c1 rfl) (rB (Zb c1 rfl) (rI (Zb c1 rfl) (rI (Zb c1 rfl) (rS (Zb c1 rfl) (rI (Zb c1 rfl) (rI (Zb c1 rfl) (rI (Zb c1 rfl) (rB (Zb c1 rfl) (rI (Zb c1 rfl) (rB (Zb c1 rfl) (rI (Zb w1 rfl) (rS (Zb w1 rfl) (rS (Zb w1 rfl) (rS (Zb w1 rfl) (rB (Zb w1 rfl) (rI (Zb w1 rfl) (rL (s:=sl) (Zb w1 rfl) ⟨?_,?_⟩)))))))))))))))))))
   ·refine Ztt (r:=Rw.ZaJ f) (c:=cl c sl) fun C g=>ZJ fun h3 c3 n z3=>Zbe c3 fun D z V z4=>x _ _ ⟨_,rfl,?_,z⟩
    exact ((y.trans g).trans n).then V fun k d=>by subst d;exact (y.trans g).size
   ·refine ZJ fun C c2 g z2=>⟨S C g,U C g,Ztt (r:=Rw.ZaJ f) (c:=cl c sl) fun h3 n=>Zbe (Zj c2 n) fun D z V z4=>x _ _ ⟨_,rfl,?_,z⟩⟩
    exact ((y.trans g).trans n).then V fun k d=>by subst d;exact y.size
end
section
variable {h:Zf} {T:TgM} {L:Lay} {G:GS} {base wb:Nat} {t:Sl} {c:PC} {sl:Sl} {gr:Bool} {tks:List Tk} {wt:Int} {vs:List Value}
theorem ZwH (W:WkR h base wb L c sl gr tks wt t vs) {wait x:Int} {b:Bool} {K:Bool->Zf->Prop} (a:∀ h',WkR h' base wb L c sl gr tks (Zih wt wait) t vs->WS wb t t h h'->K b h'):Zcz (some ⟨wb,0,none⟩) wait b x K h:=by
  unfold Zcz Ze5;refine Zg (rI (Zb W.w rfl) (Zg (Zbf W.w (show 0+11<12 by decide) rfl fun h1 c1 d f=>Zc ?_)));obtain ⟨e,s1⟩:=W.wait (wt':=Zih wt wait) c1 d;exact a h1 e s1
theorem ZHd {i:Nat} {f:FlowP} {s:ShS} {p:ShP} (hE:Za9 h T L G) (hb:∀ j,T j≠none->j<base/\j≠wb) (W:WkR h base wb L c sl gr tks wt t vs) (hn:tks.length<=3000) (hL:L.fs[i]?=some (p,s)) (aD:ZAu f s) {Q:Bool->Zf->Prop}
    (F:∀ h' t' bH,WkR h' base wb L c sl gr (tks++(Zko f s (G.t.f (Zs9 (Zas (Rw.ZaJ f) (cl c nl)))) c i).tk) (wtV wt (Zko f s (G.t.f (Zs9 (Zas (Rw.ZaJ f) (cl c nl)))) c i).wt) t' bH->WS wb t t' h h'->Q (!(Zko f s (G.t.f (Zs9 (Zas (Rw.ZaJ f) (cl c nl)))) c i).b) h'):Zbt (some ⟨wb,0,none⟩) (Rw.ZaJ f) (p.1,p.2,()) Q h:=by
  have lw:=Zp W.w;have lb:=W.b;have M:∀ j,sz h<=j->t.blk≠some j:=fun j hj e=>by have:j<sz h:=(W.o.lt e).2;omega
  unfold Zbt Zfz;refine ZJ fun h1 c1 e1 z1=>ZJ fun h3 c3 e3 z3=>?_;have w1:sz h1=sz h+1:=z1;have X:=Zj c1 e3;refine rS (Zb X rfl) (rS (Zb X rfl) (rB (Zb X rfl) (rI (Zb X rfl) (rI (Zb X rfl) (rS (Zb X rfl) (rI (Zb X rfl) (rI (Zb X rfl) (rI (Zb X rfl) (rB (Zb X rfl) (rI (Zb X rfl) (rB (Zb X rfl) (?_))))))))))));have aQ:=e1.trans e3;refine ZGL (hE.ext aQ) (W.ext aQ) fun cz q aR f16=>?_;generalize G.t.f (Zs9 (Zas (Rw.ZaJ f) (cl c nl)))=o at F f16;have ae:=aQ.trans aR;refine Zg (rI (Zb (W.ext ae).w rfl) (ZgS f16 fun af bg=>ZJ fun cB bI bJ z23=>Zbe bI fun bK bL bM z24=>Za ?_));have ag:sz h<=sz af:=(ae.trans bg).size;have aS:Ext af bK:=bJ.then bM fun k F=>by subst F;exact Aqo _
  have C:=bg.trans aS;have aJ:=ae.trans C;refine Zg (rI (Zb (W.ext aJ).w rfl) (ZtB (f16.ext C) fun cC U ah=>ZJ fun cD bN bO z32=>Zbf bN (show 0<1 by decide) rfl fun d bP bQ z33=>Za ?_));have aK:=aJ.trans ah;have D:Ext U d:=bO.then bQ fun k F=>by subst F;exact Aqo _
  have ai:=aK.trans D;have V:sz h<=sz U:=aK.size;have aj:sz h<=sz d:=ai.size;have cr:obj d (sz h)=_:=Zj X ((aR.trans C).trans (ah.trans D));have cs:obj d (sz h1)=_:=Zj c3 ((aR.trans C).trans (ah.trans D));have cS:obj d (sz af)=_:=Zj bL (ah.trans D);have cP:obj d (sz U)=_:=bP;refine Zls (fun (s:Option Addr × Option Addr × Unit) hh=>∃ ab nb,s.1=some ⟨ab,0,none⟩/\s.2.1=some ⟨nb,0,none⟩/\obj hh ab=some (.cells [iv c.1].toArray 3 (0,0))/\obj hh nb=some (.cells [iv c.2.2.2.2.2].toArray 3 (0,0))/\Ext d hh/\sz d<=ab/\sz d<=nb) ?_ ?_
  ·rintro ⟨sa,sn,u⟩ bh ⟨ab,nb,ea,en,ca,cn,B,la,ln⟩
   dsimp only at ea en ⊢;subst ea;subst en;have r:=ai.trans B;have ls:sz h<=sz h1:=e1.size;have Y:sz h<=ab:=Aqp aj la;have Z:sz h<=nb:=Aqp aj ln;have g:=Zj cr (B);have I:=Zj cs (B);have aG:=Zj cS (B);have aa:=Zj cP (B);have f55:=f16.ext (C.trans (ah.trans (D.trans B)));refine rI (Zb g rfl) (Zc (Z5 (fun q1=>?_) fun q1=>Zc (Z5 (fun q2=>?_) fun q2=>Zc (Z5 (fun q3=>?_) fun q3=>?_))))
   ·have bj:f.shape=1:=by have:(f.shape:Int)=1:=q1;omega
    have aT:=hE.ext r;obtain ⟨p1,p2⟩:=p;obtain ⟨s1,s2⟩:=s
    cases s2 with
    | none=>exact absurd rfl (aD.2 (.inl bj))
    | some w =>
    have lk:Zko f (s1,some w) o c i=⟨!wlV w c.1 (Ziu o c.1) (ZmI o c.1).1 c.2.2.2.2.2,[.warm i (Ziu o c.1) (ZmI o c.1).1],none⟩:=by
      unfold Zko;rw [if_pos bj]
    have ao:=W.ext r;refine Zg (rL (s:=t) (Zb ao.w rfl) (ZJ fun y aq a bk=>(Zj1 aq rfl).rd ?_));have l:=r.trans a;have z:=W.ext l;refine Zlz (bx:=0) z (by omega) rfl (fun t' O ar u64 au=>?_) rfl;have E:∀ {j:Nat} {x:Obj},obj y j=some x->t.blk≠some j->obj O j=some x:=fun {j x} P hn=>(u64.old j (Zp P) hn).trans P;have av:=E z.w W.n;refine Zg (Zbf av (show 0+9<12 by decide) rfl fun N aw R bl=>?_);have A:∀ {j:Nat} {x:Obj},obj y j=some x->sz h<=j->obj N j=some x:=fun {j x} P hj=>(R.old j (Zp (E P (M j hj))) (show ¬ j=wb by omega)).trans (E P (M j hj));have m:∀ {b:Nat} {x:Obj} {o:Nat} {vv:Value},obj y b=some x->ZA o (some x)=some vv->sz h<=b->Bx y base wb t b o vv:=fun {b x o vv} h1 h2 h3=>⟨by rw [h1];exact h2,by omega,Zp h1,by omega,M b h3⟩;obtain ⟨ay,S⟩:=z.add (v:= .func (.func 213) #[] #[pB (sz h1),pB ab,pB (sz U),pB (sz af),pB nb]) (tk:= .warm i (Ziu o c.1) (ZmI o c.1).1) (t':=t') (h':=O) (h'':=N) ⟨sz h1,ab,sz U,sz af,nb,(p1,p2),rfl,m (Zj I a) rfl ls,m (Zj ca a) rfl Y,m (Zj aa a) rfl V,m (Zj aG a) rfl ag,m (Zj cn a) rfl Z,by rw [hL];rfl⟩ ar u64 au aw R;have az:=(hE.ext l).walk hb z S;obtain ⟨aU,ep,cw,_⟩:=(az.fl.e i _ hL).2;have aA:p2=some ⟨aU,0,none⟩:=ep;subst aA;refine rP (Zb (A (Zj I a) ls) rfl) (Zg (rI (Zb (A (Zj ca a) Y) rfl) (rI (Zb (A (Zj aa a) V) rfl) (rI (Zb (A (Zj aG a) ag) rfl) (Zg (rI (Zb (A (Zj cn a) Z) rfl) ?_))))));obtain ⟨er,hs⟩:=Classical.choose_spec (Zux w c.1 (Ziu o c.1) (ZmI o c.1).1 c.2.2.2.2.2);refine hs cw fun bp aB=>Zc (Za (Zc ?_));have fin:=F bp t' _ (by rw [lk];exact ay.ext aB) ((WS.pre l S).then aB);rw [lk] at fin;dsimp only at fin;rw [Bool.not_not] at fin;exact fin
   ·have bq:f.shape=2:=by have:(f.shape:Int)=2:=q2;omega
    have aT:=hE.ext r;obtain ⟨p1,p2⟩:=p;obtain ⟨s1,s2⟩:=s
    cases s1 with
    | none=>exact absurd rfl (aD.1 (.inl bq))
    | some w =>
    have lk:Zko f (some w,s2) o c i=⟨!(plV w c.1 c.2.2.2.2.2).2.1,[.pace i],some (plV w c.1 c.2.2.2.2.2).1⟩:=by
      unfold Zko;rw [if_neg (by omega),if_pos bq]
    have ao:=W.ext r;refine Zg (rL (s:=t) (Zb ao.w rfl) (ZJ fun y aq a bk=>(Zj1 aq rfl).rd ?_));have l:=r.trans a;have z:=W.ext l;refine Zlz (bx:=0) z (by omega) rfl (fun t' O ar u64 au=>?_) rfl;have E:∀ {j:Nat} {x:Obj},obj y j=some x->t.blk≠some j->obj O j=some x:=fun {j x} P hn=>(u64.old j (Zp P) hn).trans P;have av:=E z.w W.n;refine Zg (Zbf av (show 0+9<12 by decide) rfl fun N aw R bl=>?_);have A:∀ {j:Nat} {x:Obj},obj y j=some x->sz h<=j->obj N j=some x:=fun {j x} P hj=>(R.old j (Zp (E P (M j hj))) (show ¬ j=wb by omega)).trans (E P (M j hj));have m:∀ {b:Nat} {x:Obj} {o:Nat} {vv:Value},obj y b=some x->ZA o (some x)=some vv->sz h<=b->Bx y base wb t b o vv:=fun {b x o vv} h1 h2 h3=>⟨by rw [h1];exact h2,by omega,Zp h1,by omega,M b h3⟩;obtain ⟨ay,S⟩:=z.add (v:= .func (.func 216) #[] #[pB (sz h1),pB ab,pB nb]) (tk:= .pace i) (t':=t') (h':=O) (h'':=N) ⟨sz h1,ab,nb,(p1,p2),rfl,m (Zj I a) rfl ls,m (Zj ca a) rfl Y,m (Zj cn a) rfl Z,by rw [hL];rfl⟩ ar u64 au aw R;have az:=(hE.ext l).walk hb z S;obtain ⟨aU,ep,cw,_⟩:=(az.fl.e i _ hL).1;have aA:p1=some ⟨aU,0,none⟩:=ep;subst aA;refine rP (Zb (A (Zj I a) ls) rfl) (Zg (rI (Zb (A (Zj ca a) Y) rfl) (Zg (rI (Zb (A (Zj cn a) Z) rfl) ?_))));refine Classical.choose_spec (ZuB w c.1 c.2.2.2.2.2) cw fun bp aB=>ZwH (ay.ext aB) fun aV aW aX=>Zc ?_;have fin:=F aV t' _ (by rw [lk];exact aW) (((WS.pre l S).then aB).trans aX);rw [lk] at fin;dsimp only at fin;rw [Bool.not_not] at fin;exact fin
   ·have aY:f.shape=3:=by have:(f.shape:Int)=3:=q3;omega
    have aT:=hE.ext r;obtain ⟨p1,p2⟩:=p;obtain ⟨s1,s2⟩:=s
    cases s1 with
    | none=>exact absurd rfl (aD.1 (.inr aY))
    | some w1 =>
    cases s2 with
    | none=>exact absurd rfl (aD.2 (.inr aY))
    | some w2 =>
    obtain ⟨⟨b1,bU,cJ,_⟩,⟨b2,bV,bW,_⟩⟩:=aT.fl.e i _ hL;have bt:p1=some ⟨b1,0,none⟩:=bU;have bu:p2=some ⟨b2,0,none⟩:=bV;subst bt;subst bu
    have lk:Zko f (some w1,some w2) o c i=⟨!(paV w1 c.1 c.2.2.2.2.2 (Zih (wrV w2 c.1 (Ziu o c.1)) 1)).2.1,[.wp i (Ziu o c.1) (Zih (wrV w2 c.1 (Ziu o c.1)) 1)],some (paV w1 c.1 c.2.2.2.2.2 (Zih (wrV w2 c.1 (Ziu o c.1)) 1)).1⟩:=by
      unfold Zko;rw [if_neg (by omega),if_neg (by omega),if_pos aY]
    refine rP (Zb I rfl) (Zg (rI (Zb ca rfl) (rI (Zb aa rfl) ?_)));obtain ⟨er,hs⟩:=Classical.choose_spec (Zuw w2 c.1 (Ziu o c.1));refine hs bW fun K d1=>ZJ fun g2 k2 d2 y2=>Zbf k2 (show 0<1 by decide) rfl fun g3 k3 v3 y3=>Za (rI (Zb k3 rfl) (Zbf k3 (show 0<1 by decide) rfl fun g4 k4 v4 y4=>?_));have d14:Ext K g4:=d2.then (v3.trans v4) fun k F=>by subst F;exact Aqo _
    have dg:Ext bh g4:=d1.trans d14;have bz:sz h<=sz K:=(r.trans d1).size;have cq:=r;replace r:=r.trans dg;replace I:=Zj I dg;replace aa:=Zj aa dg;replace ca:=Zj ca dg;replace cn:=Zj cn dg;have ao:=W.ext r;refine Zg (rL (s:=t) (Zb ao.w rfl) (ZJ fun y aq a bk=>(Zj1 aq rfl).rd ?_));have l:=r.trans a;have z:=W.ext l;refine Zlz (bx:=0) z (by omega) rfl (fun t' O ar u64 au=>?_) rfl;have E:∀ {j:Nat} {x:Obj},obj y j=some x->t.blk≠some j->obj O j=some x:=fun {j x} P hn=>(u64.old j (Zp P) hn).trans P;have av:=E z.w W.n;refine Zg (Zbf av (show 0+9<12 by decide) rfl fun N aw R bl=>?_);have A:∀ {j:Nat} {x:Obj},obj y j=some x->sz h<=j->obj N j=some x:=fun {j x} P hj=>(R.old j (Zp (E P (M j hj))) (show ¬ j=wb by omega)).trans (E P (M j hj));have m:∀ {b:Nat} {x:Obj} {o:Nat} {vv:Value},obj y b=some x->ZA o (some x)=some vv->sz h<=b->Bx y base wb t b o vv:=fun {b x o vv} h1 h2 h3=>⟨by rw [h1];exact h2,by omega,Zp h1,by omega,M b h3⟩;obtain ⟨ay,S⟩:=z.add (v:= .func (.func 221) #[] #[pB (sz h1),pB ab,pB (sz U),pB nb,pB (sz K)]) (tk:= .wp i (Ziu o c.1) (Zih (wrV w2 c.1 (Ziu o c.1)) 1)) (t':=t') (h':=O) (h'':=N) ⟨sz h1,ab,sz U,nb,sz K,(some ⟨b1,0,none⟩,some ⟨b2,0,none⟩),rfl,m (Zj I a) rfl ls,m (Zj I a) rfl ls,m (Zj ca a) rfl Y,m (Zj aa a) rfl V,m (Zj cn a) rfl Z,m (Zj k4 a) rfl bz,by rw [hL];rfl⟩ ar u64 au aw R;have az:=(hE.ext l).walk hb z S;obtain ⟨b9,ep,cw,_⟩:=(az.fl.e i _ hL).1
    have aA:b1=b9:=by
      have:(some ⟨b1,0,none⟩:Option Addr)=some ⟨b9,0,none⟩:=ep;injection this with this;injection this
    subst aA;have bA:=A (Zj ca a) Y;have bB:=A (Zj cn a) Z;have bC:=A (Zj k4 a) bz;refine rP (Zb (A (Zj I a) ls) rfl) (Zg (rI (Zb bA rfl) (Zg (rI (Zb bB rfl) (rI (Zb bC rfl) (Zv0 cw fun g5 k5 d5 y5=>?_))))));refine ⟨ZZ (Zb (Zj bC d5) rfl),ZZ (Zb (Zj bB d5) rfl),ZZ (Zb (Zj bA d5) rfl),?_⟩;obtain ⟨pn,bX⟩:=Classical.choose_spec (ZuC w1 c.1 c.2.2.2.2.2 (Zih (wrV w2 c.1 (Ziu o c.1)) 1));refine bX k5 fun g6 k6 v6=>?_;have d6:Ext N g6:=d5.then v6 fun k F=>by subst F;exact Aqo _
    refine ZwH (ay.ext d6) fun aV aW aX=>Zc ?_;have fin:=F aV t' _ (by rw [lk];exact aW) (((WS.pre l S).then d6).trans aX);rw [lk] at fin;dsimp only at fin;rw [Bool.not_not] at fin;exact fin
   ·have n1:¬ f.shape=1:=fun e=>q1 (by show (f.shape:Int)=1;omega)
    have n2:¬ f.shape=2:=fun e=>q2 (by show (f.shape:Int)=2;omega);have n3:¬ f.shape=3:=fun e=>q3 (by show (f.shape:Int)=3;omega)
    have lk:Zko f s o c i=⟨!ZlY (Rw.ZaJ f) (ZmI o c.1).1 (oFl o) c.2.2.2.2.2,[],none⟩:=by
      unfold Zko;rw [if_neg n1,if_neg n2,if_neg n3]
    have bY:Zo bh [(sz h,0,.string (Zx f.res)),(sz h,0+1,.string (Zx f.org)),(sz h,0+2,.bool f.thr),(sz h,0+3,iv f.cnt),(sz h,0+4,.int .u8 f.strat),(sz h,0+5,.string (Zx f.ref)),(sz h,0+6,.int .u8 f.shape),(sz h,0+7,iv f.warm),(sz h,0+8,iv f.queue),(sz h,0+9,.bool f.clu),(sz h,0+10,iv f.id),(sz h,0+11,.bool f.fb)] :=
      ⟨Zb g rfl,Zb g rfl,Zb g rfl,Zb g rfl,Zb g rfl,Zb g rfl,Zb g rfl,Zb g rfl,Zb g rfl,Zb g rfl,Zb g rfl,Zb g rfl,trivial⟩
    refine rS (Zb g rfl) (rS (Zb g rfl) (rB (Zb g rfl) (rI (Zb g rfl) (rI (Zb g rfl) (rS (Zb g rfl) (rI (Zb g rfl) (rI (Zb g rfl) (rI (Zb g rfl) (rB (Zb g rfl) (rI (Zb g rfl) (rB (Zb g rfl) (rI (Zb aG rfl) (Zg (rI (Zb cn rfl) (ZjX f55 ⟨ZZ (Zb cn rfl),ZZ (Zb aG rfl),bY,ZBh fun h9 e9=>Zc ?_⟩)))))))))))))));have fin:=F h9 t vs (by rw [lk,Ayt];exact W.ext (r.trans e9)) (WS.ext (r.trans e9));rw [lk] at fin;dsimp only at fin;rw [Bool.not_not] at fin;exact fin
  ·intro J hJ
   have aH:=W.ext ai;have H:∀ hh,Ext d hh->Zo hh [(wb,0+1+5,iv c.2.2.2.2.2)]/\Zo hh [(wb,0+1,iv c.1)]:=fun hh e=>⟨ZZ (Zb (aH.ext e).w rfl),ZZ (Zb (aH.ext e).w rfl)⟩;refine Zg (Zg (rI (Zb aH.w rfl) (rI (Zb aH.w rfl) ⟨ZJ fun K k1 d1 y1=>?_,ZJ fun K k1 d1 y1=>?_⟩)))
   ·have w9:sz K=sz d+1:=y1
    obtain ⟨a1,a2⟩:=H K d1;refine ⟨a1,a2,ZJ fun g2 k2 d2 y2=>?_⟩;have d12:=d1.trans d2;obtain ⟨a1,a2⟩:=H g2 d12;refine ⟨a1,a2,Zbf (Zj k1 d2) (show 0<1 by decide) rfl fun g3 k3 v3 y3=>?_⟩;have d13:Ext d g3:=d12.then v3 fun k F=>by subst F;exact Aqo _
    obtain ⟨a1,a2⟩:=H g3 d13;have cb:obj g3 (sz K)=_:=(v3.old (sz K) (Zp k2) (show ¬ sz K=sz d by omega)).trans k2;refine ⟨a1,Zbf cb (show 0<1 by decide) rfl fun g4 k4 v4 y4=>hJ _ _ ⟨sz d,sz K,rfl,rfl,?_,k4,d13.then v4 (fun k F=>by subst F;show sz d<=sz K;omega),Aqo _,by omega⟩⟩;exact (v4.old (sz d) (Zp k3) (show ¬ sz d=sz K by omega)).trans k3
   ·have w9:sz K=sz d+1:=y1
    obtain ⟨a1,a2⟩:=H K d1;refine ⟨a1,a2,ZJ fun g2 k2 d2 y2=>?_⟩;have d12:=d1.trans d2;obtain ⟨a1,a2⟩:=H g2 d12;refine ⟨a1,a2,Zbf k2 (show 0<1 by decide) rfl fun g3 k3 v3 y3=>?_⟩;have d13:Ext d g3:=d12.then v3 fun k F=>by subst F;show sz d<=sz K;omega
    obtain ⟨a1,a2⟩:=H g3 d13;have cc:obj g3 (sz d)=_:=(v3.old (sz d) (Zp (Zj k1 d2)) (show ¬ sz d=sz K by omega)).trans (Zj k1 d2);refine ⟨a1,Zbf cc (show 0<1 by decide) rfl fun g4 k4 v4 y4=>hJ _ _ ⟨sz K,sz d,rfl,rfl,?_,k4,d13.then v4 (fun k F=>by subst F;exact Aqo _),by omega,Aqo _⟩⟩;exact (v4.old (sz K) (Zp k3) (show ¬ sz K=sz d by omega)).trans k3
end
theorem Znz {cb:Nat->Bool} {c:C8}:∀ {l:List FlowP} {i:Nat} {k:Int},k∈ZfZ cb c l i->∃ j a,k=((i+j:Nat):Int)/\l[j]?=some a
  | [],i,k,h=>by cases h
  | a::l,i,k,h=>by
    have e:ZfZ cb c (a::l) i=if Yp (Zx a.res) c.2.1=true/\cb i=true/\(Zas (Rw.ZaJ a) c).2.2.2.1=false then (i:Int)::ZfZ cb c l (i+1) else ZfZ cb c l (i+1):=rfl
    rw [e] at h;split at h
    ·rcases Awr.1 h with h | h
     ·exact ⟨0,a,h,rfl⟩
     ·obtain ⟨j,b,h1,d⟩:=Znz h
      exact ⟨j+1,b,by rw [h1];congr 1;omega,by simpa using d⟩
    ·obtain ⟨j,b,h1,d⟩:=Znz h
     exact ⟨j+1,b,by rw [h1];congr 1;omega,by simpa using d⟩
theorem Zt6 {cb:Nat->Bool} {c:C8}:∀ {l:List FlowP} {i:Nat},(ZfZ cb c l i).length<=l.length
  | [],i=>Aqo _
  | a::l,i=>by
    have e:ZfZ cb c (a::l) i=if Yp (Zx a.res) c.2.1=true/\cb i=true/\(Zas (Rw.ZaJ a) c).2.2.2.1=false then (i:Int)::ZfZ cb c l (i+1) else ZfZ cb c l (i+1):=rfl
    rw [e];have:=Zt6 (cb:=cb) (c:=c) (l:=l) (i:=i+1);split
    ·simp only [Aqj];omega
    ·simp only [Aqj];omega
theorem Zt7 {cb:Nat->Bool} {c:PC} {s s':Sl}:∀ {l:List FlowP} {i:Nat},ZfZ cb (cl c s) l i=ZfZ cb (cl c s') l i
  | [],_=>rfl
  | a::l,i=>by
    show (if Yp (Zx a.res) c.2.1=true/\cb i=true/\(Zas (Rw.ZaJ a) (cl c s)).2.2.2.1=false then (i:Int)::ZfZ cb (cl c s) l (i+1) else ZfZ cb (cl c s) l (i+1))=(if Yp (Zx a.res) c.2.1=true/\cb i=true/\(Zas (Rw.ZaJ a) (cl c s)).2.2.2.1=false then (i:Int)::ZfZ cb (cl c s') l (i+1) else ZfZ cb (cl c s') l (i+1));rw [Zt7]
theorem ZAK {A:List FlowP} {c:PC} {s s':Sl}:ZmJ A (cl c s)=ZmJ A (cl c s'):=by
  unfold ZmJ;rw [show cbK A (cl c s)=cbK A (cl c s') from rfl];exact Zt7
abbrev ZHl (wb:Nat) (K:Int->Bool->Zf->Prop):Int->Int->Zf->(Zf->Prop)->Prop:=fun w t20 b Q=>  Zd t20 fun i=>Ze (some ⟨wb,0,none⟩) fun p q=>ldP b p q fun t23=>Ze t23 fun r s=>ldL b r (s+3) fun t26=>YR t26.ptr t26.len i 12 fun d e=>ldS b d e fun t29=>ldS b d (e+1) fun t30=>ldB b d (e+2) fun t31=>ldI b d (e+3) .i64 fun t32=>ldI b d (e+4) .u8 fun t33=>ldS b d (e+5) fun t34=>ldI b d (e+6) .u8 fun t35=>ldI b d (e+7) .i64 fun t36=>ldI b d (e+8) .i64 fun t37=>ldB b d (e+9) fun t38=>ldI b d (e+10) .i64 fun t39=>ldB b d (e+11) fun t40=>newC b [.string (ByteArray.mk #[]),.string (ByteArray.mk #[]),.bool false,iv 0,.int .u8 0,.string (ByteArray.mk #[]),.int .u8 0,iv 0,iv 0,.bool false,iv 0,.bool false] 32 fun c t=>sts t c 0 [.string t29,.string t30,.bool t31,iv t32,.int .u8 t33,.string t34,.int .u8 t35,iv t36,iv t37,.bool t38,iv t39,.bool t40] fun f=>Zfm (σ:=Unit) (fun x a=>Ze (some ⟨wb,0,none⟩) fun h j=>ldS a c 0 fun t54=>ldS a c (0+1) fun t55=>ldB a c (0+2) fun t56=>ldI a c (0+3) .i64 fun t57=>ldI a c (0+4) .u8 fun t58=>ldS a c (0+5) fun t59=>ldI a c (0+6) .u8 fun t60=>ldI a c (0+7) .i64 fun t61=>ldI a c (0+8) .i64 fun t62=>ldB a c (0+9) fun t63=>ldI a c (0+10) .i64 fun t64=>ldB a c (0+11) fun t65=>ldP a h j fun t66=>Ze t66 fun k l=>ldL a k (l+8) fun t69=>YR t69.ptr t69.len i 2 fun m n=>ldP a m n fun t72=>ldP a m (n+1) fun t73=>Zbt (some ⟨wb,0,none⟩) (t54,t55,t56,t57,t58,t59,t60,t61,t62,t63,t64,t65,()) (t72,t73,()) (fun t74 g=>Zu (Zo g [(k,l+8,.slice t69.ptr t69.len t69.cap)]) <| Zu (Zo g [(h,j,.pointer t66)]) <| Zm (!t74) ( Zd i fun t76=>K t76 true g) ( Q g)) a) (fun o=>ldB f c (0+9) fun t45=>Zm t45 ( Ze (some ⟨wb,0,none⟩) fun u v=>ldB f u (v+8) fun t48=>Zm t48 ( Q f) ( ldB f c (0+11) fun t49=>Zm (!t49) ( Q f) ( o (()) f))) ( o (()) f))
section
variable {h:Zf} {T:TgM} {L:Lay} {G:GS} {base wb:Nat} {t:Sl} {c:PC} {sl:Sl} {gr:Bool} {tks:List Tk} {wt:Int} {vs:List Value}
theorem ZAY {m:Int} {j:Nat} {f:FlowP} (E:Za9 h T L G) (ok:GOK G) (O:∀ j,T j≠none->j<base/\j≠wb) (W:WkR h base wb L c sl gr tks wt t vs) (X:tks.length<=3000) (F:G.r.fl[j]?=some f) {K:Int->Bool->Zf->Prop} {Q:Zf->Prop}
    (v:∀ h' t' o,WkR h' base wb L c sl gr (tks++(Zfl G c gr (j:Int)).tk) (wtV wt (Zfl G c gr (j:Int)).wt) t' o->WS wb t t' h h'->if (Zfl G c gr (j:Int)).b=true then K (j:Int) true h' else Q h'):ZHl wb K m (j:Int) h Q:=by
  obtain ⟨s,hs⟩:∃ s,G.fl[j]?=some s:=⟨_,Axy (by rw [ok.lf];exact Zbw F)⟩;obtain ⟨p,P⟩:=E.gf hs
  have Y:Zfl G c gr (j:Int)=if f.clu=true/\(gr=true\/f.fb=false) then ⟨false,[],none⟩ else Zko f s (G.t.f (Zs9 (Zas (Rw.ZaJ f) (cl c nl)))) c j:=by
    unfold Zfl;rw [Aqu,F,hs]
  rw [Y] at v;obtain ⟨bb,oo,_,_,A,d⟩:=ZbB Zga E.rz.fl.1 F (by decide);refine Za (Zg (rP (Zb W.w rfl) (Zg (rL (s:=L.z.1) (Zb E.cells rfl) (A rfl (rS (d 0 _ rfl) (rS (d 1 _ rfl) (rB (d 2 _ rfl) (rI (d 3 _ rfl) (rI (d 4 _ rfl) (rS (d 5 _ rfl) (rI (d 6 _ rfl) (rI (d 7 _ rfl) (rI (d 8 _ rfl) (rB (d 9 _ rfl) (rI (d 10 _ rfl) (rB (d 11 _ rfl) (ZJ fun h1 c1 Z z1=>Zbe c1 fun y a u2 z2=>?_))))))))))))))))));have e:Ext h y:=Z.then u2 fun k v=>by subst v;exact Aqo _
  have B:=W.ext e;have H:=E.ext e;refine Zls (fun (_:Unit) hh=>hh=y/\¬ (f.clu=true/\(gr=true\/f.fb=false))) ?_ ?_
  ·rintro _ h3 ⟨l,I⟩
   subst l;rw [if_neg I] at v;obtain ⟨b2,o2,_,af,u,C⟩:=ZbB (g:=fun x:ShP × ShS=>shL x.1) (n:=2) (fun _=>rfl) H.fl.r P (by decide);refine Zg (rS (Zb a rfl) (rS (Zb a rfl) (rB (Zb a rfl) (rI (Zb a rfl) (rI (Zb a rfl) (rS (Zb a rfl) (rI (Zb a rfl) (rI (Zb a rfl) (rI (Zb a rfl) (rB (Zb a rfl) (rI (Zb a rfl) (rB (Zb a rfl) (rP (Zb B.w rfl) (Zg (rL (s:=L.f1) (Zb H.cells rfl) (u rfl (rP (C 0 _ rfl) (rP (C 1 _ rfl) ?_))))))))))))))))));refine ZHd (f:=f) (s:=s) (p:=p) (i:=j) H O B X P (ok.sh j f s F hs) fun h4 t' o R s4=>?_;have E4:=H.walk O B s4;have fin:=v h4 t' o R (WS.pre e s4);refine ⟨ZZ (Zb E4.cells rfl),ZZ (Zb R.w rfl),⟨fun q=>Za ?_,fun q=>?_⟩⟩
   ·rw [Bool.not_not] at q
    rwa [if_pos q] at fin
   ·rw [Bool.not_not] at q
    rwa [if_neg (by rw [q];decide)] at fin
  ·intro J S
   have skip:(f.clu=true/\(gr=true\/f.fb=false))->Q y:=fun U=>by
     have fin:=v y t vs (by rw [if_pos U,Ayt];exact B) (WS.ext e);rw [if_pos U] at fin;exact fin
   have V:∀ {b:Bool},b=false->¬ b=true:=fun l D=>by rw [l] at D;cases D
   refine rB (Zb a rfl) ⟨fun q=>Zg (rB (Zb B.w rfl) ⟨fun M=>skip ⟨q,.inl M⟩,fun M=>rB (Zb a rfl) ⟨fun N=>skip ⟨q,.inr ?_⟩,fun N=>S () y ⟨rfl,fun l=>?_⟩⟩⟩),fun q=>S () y ⟨rfl,fun l=>V q l.1⟩⟩
   ·have l:(!f.fb)=true:=N
    simpa using l
   ·have D:(!f.fb)=false:=N
    rcases l.2 with g | g
    ·exact V M g
    ·rw [g] at D;cases D
theorem ZEz (n:Za9 h T L G) (ok:GOK G) (u:∀ j,T j≠none->j<base/\j≠wb) (W:WkR h base wb L c sl gr tks wt t vs) (C:tks.length<=2000)
    {K:Int->Bool->Zf->Prop} (v:∀ h' t' a x,Zfn (Zfl G c gr) (ZmJ G.r.fl (cl c nl)) (tks,wt)=x->WkR h' base wb L c sl gr x.2.1 x.2.2 t' a->WS wb t t' h h'->x.2.1.length<=tks.length+256->K (x.1.getD 0) x.1.isSome h'):Za2 (some ⟨wb,0,none⟩) K h:=by
  unfold Za2 Ze7;have lw:=Zp W.w;refine Za (Zg (Zg (rP (Zb W.w rfl) (Zg (rL (s:=L.z.1) (Zb n.cells rfl) (rI (Zb W.w rfl) (rS (Zb W.w rfl) (rS (Zb W.w rfl) (rS (Zb W.w rfl) (rB (Zb W.w rfl) (rI (Zb W.w rfl) (rL (s:=sl) (Zb W.w rfl) ?_))))))))))));refine ZHt ok.good.s.f (c:=cl c sl) n.rz.fl.1 fun F kt d e=>⟨ZZ (Zb (W.ext d).w rfl),?_⟩;rw [ZAK (s':=nl)] at e;refine ZtJ (h0:=h) (f:=Zfl G c gr) (KL:=ZmJ G.r.fl (cl c nl)) (X:=fun i h'=>K i true h') (body:=ZHl wb K) (n.ext d) u (W.ext d) (Aqp Zt6 ok.good.s.f) C e lw (fun b p=>(W.o.lt p).2) ?_ (fun k=>?_) ?_ ?_
  ·intro m k H A wt' t' a Q q D g s hl l
   obtain ⟨j,f,B,E⟩:=Znz (show k∈ZfZ _ _ G.r.fl 0 from Axo q);rw [Awb] at B;subst B;exact ZAY D ok u g hl E l
  ·unfold Zfl
   split
   ·split
    ·exact Ayg _
    ·unfold Zko
     split
     ·split
      ·exact Aqo _
      ·exact Ayg _
     ·split
      ·split
       ·exact Aqo _
       ·exact Ayg _
      ·split
       ·split
        ·exact Aqo _
        ·exact Ayg _
       ·exact Ayg _
   ·exact Ayg _
  ·intro k h' t' a y hw g s hl
   exact v h' t' a (some k,y) hw g (WS.pre d s) hl
  ·intro h' t' a y hw g s hl
   exact Za (v h' t' a (none,y) hw g (WS.pre d s) hl)
end
abbrev fn0 (f:Nat):Value:= .func (.func f) #[] #[]
def ZNI:Option (Int × Int)->V4
  | some (k,i)=>(k,i,0,())
  | none=>(0,0,0,())
section
variable {h:Zf} {T:TgM} {L:Lay} {G:GS} {base wb:Nat} {c:PC} {sl:Sl} {gr:Bool}
theorem ZGO {al:List ByteArray} (hE:Za9 h T L G) (ok:GOK G) (hb:∀ j,T j≠none->j<base/\j≠wb) (aR:base<=sz h) (hw:obj h wb=some (Zu3 L.eb (cl c sl) gr nl nl 0)) (ha:Row h sl 1 (al.map .string)) (ah:∀ b,sl.blk=some b->b<base/\b≠wb) {K:V4->Bool->Zf->Prop}
    (I:∀ h' x,ZnE G c al gr=x->Upd (· = wb) h h'->(x.1=none->∃ t' R,WkR h' (sz h) wb L c sl gr x.2.1 x.2.2 t' R/\x.2.1.length<=2000)->K (ZNI x.1) x.1.isSome h'):Zbr (some ⟨wb,0,none⟩) K h:=by
  unfold Zbr Zfx;have lw:=Zp hw;refine ZJ fun h1 c1 e1 z1=>⟨rfl,rfl,rfl,rfl,rfl,ZJ fun h2 c2 e2 z2=>Zbe c2 fun h3 U u3 z3=>?_⟩;refine rI (Zb U rfl) (rV (Zb U rfl) (rI (Zb U rfl) (rV (Zb U rfl) (rI (Zb U rfl) (rV (Zb U rfl) (rI (Zb U rfl) (rV (Zb U rfl) (rI (Zb U rfl) (rV (Zb U rfl) ?_)))))))));have ai:Ext h1 h3:=e2.then u3 fun k I=>by subst I;exact Aqo _
  have X:=e1.trans ai;have w1:sz h1=sz h+1:=z1;have az:sz h1<=sz h3:=ai.size;have b3:=Zj c1 ai;have N:∀ j,T j≠none->j<sz h1/\j≠wb:=fun j hj=>⟨by have:=(hb j hj).1;omega,(hb j hj).2⟩;have au:∀ b,sl.blk=some b->b<sz h1/\b≠wb:=fun b S=>⟨by have:=(ah b S).1;omega,(ah b S).2⟩;have W3:WkR h3 (sz h1) wb L c sl gr [] 0 nl []:=⟨Zj hw X,Own.nil _ _ _,rfl,(fun i v tk h1 _=>by cases h1),az,fun e=>by cases e⟩;have E3:=hE.ext X;refine Zbd (fun p A=>∃ (j:Nat) (tks:List Tk) (wt:Int) (t':Sl) (R:List Value),p=((j:Int),())/\j<=5/\WkR A (sz h1) wb L c sl gr tks wt t' R/\WS wb nl t' h3 A/\tks.length<=256*j/\ZnE G c al gr=Zlk (stg G c al gr) (5 - j) j (tks,wt)) (fun p _=>(5 - p.1).toNat) ⟨0,[],0,nl,[],rfl,by decide,W3,WS.refl,Aqo _,rfl⟩ ?_;rintro _ A ⟨j,tks,wt,t',R,rfl,hj,O,s',hl,hw⟩ Q hQ;dsimp only;have ba:sz h3<=sz A:=s'.u.size;have bh:obj A (sz h)=some (.cells [.int .u8 0,iv 0,iv 0].toArray 42 (0,0)):=(s'.u.old (sz h) (Zp b3) fun e=>e.elim (fun e=>by omega) fun e=>by cases e).trans b3;have Eh:=E3.walk N W3 s'
  have aB:Row A sl 1 (al.map .string):=(ha.ext X).congr fun b o S _ aj=>s'.u.old b aj fun e=>by
    rcases e with e | e
    ·exact (ah b (by simp [Sl.blk,S])).2 e
    ·cases e
  have tn:∀ {D:Zf} {tk:List Tk} {w:Int} {t:Sl} {v:List Value},WkR D (sz h1) wb L c sl gr tk w t v->t.blk≠some (sz h):=fun W e=>by have:sz h1<=sz h:=(W.o.lt e).1;omega
  have old:∀ {D:Zf} {t:Sl},WS wb nl t h3 D->Upd (· = wb) h D:=fun s=>(X.upd _).trans (s.u.mono fun j _ hj=>hj.elim id fun e=>by cases e)
  have fin:∀ (v:V4) (z:Zf),obj z (sz h)=some (.cells [.int .u8 0,iv 0,iv 0].toArray 42 (0,0))->∀ (f:Bool),(∀ J,Upd (· = sz h) z J->K (v.1,v.2.1,v.2.2.1,()) f J)->sts z (sz h) 0 [.int .u8 v.1,iv v.2.1,iv v.2.2.1] fun E=>ldI E (sz h) 0 .u8 fun t30=>ldI E (sz h) (0+1) .i64 fun t31=>ldI E (sz h) (0+2) .i64 fun t32=>K (t30,t31,t32,()) f E:=fun v z b6 f hK =>
    Zbe b6 fun J c7 V z7=>rI (Zb c7 rfl) (rI (Zb c7 rfl) (rI (Zb c7 rfl) (hK J V)))
  have ag:∀ {z J:Zf},Upd (· = wb) h z->Upd (· = sz h) z J->Upd (· = wb) h J:=fun {z J} a b=>Zm7 a b fun k I e=>by have e':k=sz h:=e;have bf:k<sz h:=I;omega
  have step:∀ (jj:Nat) (ax:Value) (ak:Nat) (z:Zf) (x:Option Int × List Tk × Int) (r:Sl) (m:List Value),j=jj->jj<5->stg G c al gr jj (tks,wt)=x->WkR z (sz h1) wb L c sl gr x.2.1 x.2.2 r m->WS wb t' r A z->x.2.1.length<=tks.length+256->obj z ak=some (.cells [.int .u8 ((jj+1:Nat):Int),ax].toArray 227 (0,0)) ->
      Zm x.1.isSome (ldI z ak 0 .u8 fun t28=>sts z (sz h) 0 [.int .u8 t28,iv (x.1.getD 0),iv 0] fun E=>ldI E (sz h) 0 .u8 fun t30=>ldI E (sz h) (0+1) .i64 fun t31=>ldI E (sz h) (0+2) .i64 fun t32=>K (t30,t31,t32,()) true E) (Q (IntKind.wrap .i64 ((j:Int)+1),()) z):=by
    intro jj ax ak z x r m aE aF aG P F C aH;subst aE
    have an:Zlk (stg G c al gr) (5 - j) j (tks,wt)=match (stg G c al gr j (tks,wt)).1 with
      | some i=>(some (((j+1:Nat):Int),i),(stg G c al gr j (tks,wt)).2)
      | none=>Zlk (stg G c al gr) (5 - (j+1)) (j+1) (stg G c al gr j (tks,wt)).2:=by
      rw [show 5 - j=(5 - (j+1))+1 by omega];rfl
    rw [an,aG] at hw;have b6:obj z (sz h)=some (.cells [.int .u8 0,iv 0,iv 0].toArray 42 (0,0)):=(F.u.old (sz h) (Zp bh) fun e=>e.elim (fun e=>by omega) (tn O)).trans bh;have ss:=s'.trans F;obtain ⟨o,y⟩:=x
    cases o with
    | some i =>
      dsimp only at hw C P;refine Zl rfl (rI (Zb aH rfl) (fin (((j+1:Nat):Int),i,0,()) z b6 true fun J V=>?_));exact I J _ hw (ag (old ss) V) fun e=>by cases e
    | none =>
      dsimp only at hw C P;refine Zi rfl ?_;rw [Yr (by omega) (by omega)];exact hQ _ _ ⟨j+1,y.1,y.2,r,m,by simp,aF,P,ss,by omega,hw⟩ (by show (5 - ((j:Int)+1)).toNat<(5 - (j:Int)).toNat;omega)
  have box:∀ {M z:Zf} {x:Obj} {r:Sl},obj M (sz A)=some x->Ext A M->WS wb t' r M z->obj z (sz A)=some x:=fun {M z x r} H B F=>(F.u.old (sz A) (Zp H) fun e=>e.elim (fun e=>by omega) fun e=>by have:sz A<sz A:=(O.o.lt e).2;omega).trans H;have hn:tks.length<=2000:=by omega
  rcases (show j=0\/j=1\/j=2\/j=3\/j=4\/j=5 by omega) with q | q | q | q | q | q
  ·refine Zl (by subst q;rfl) (by
     rw [show ((j:Nat):Int)=0 by omega] at step ⊢;refine ⟨by decide,by decide,(1,fn0 100,()),rfl,ZJ fun h4 Y Z z4=>Zbe Y fun M H u5 z5=>rV (Zb H rfl) (.inl ⟨rfl,?_⟩)⟩;have B:Ext A M:=Z.then u5 fun k I=>by subst I;exact Aqo _
     exact ZD3 (Eh.ext B) ok N (O.ext B) hn fun z r m x D P F C=>Za (Zc (step 0 (fn0 100) (sz A) z x r m q (by decide) D P (WS.pre B F) C (box H B F))))
  ·refine Zl (by subst q;rfl) (by
     rw [show ((j:Nat):Int)=1 by omega] at step ⊢;refine ⟨by decide,by decide,(2,fn0 101,()),rfl,ZJ fun h4 Y Z z4=>Zbe Y fun M H u5 z5=>rV (Zb H rfl) (.inr (.inl ⟨rfl,?_⟩))⟩;have B:Ext A M:=Z.then u5 fun k I=>by subst I;exact Aqo _
     exact ZwU (Eh.ext B) ok N (O.ext B) hn fun z r m x D P F C=>Za (Zc (step 1 (fn0 101) (sz A) z x r m q (by decide) D P (WS.pre B F) C (box H B F))))
  ·refine Zl (by subst q;rfl) (by
     rw [show ((j:Nat):Int)=2 by omega] at step ⊢;refine ⟨by decide,by decide,(3,fn0 102,()),rfl,ZJ fun h4 Y Z z4=>Zbe Y fun M H u5 z5=>rV (Zb H rfl) (.inr (.inr (.inl ⟨rfl,?_⟩)))⟩;have B:Ext A M:=Z.then u5 fun k I=>by subst I;exact Aqo _
     exact ZG8 (Eh.ext B) ok N (O.ext B) hn (aB.ext B) au fun z r m x D P F C=>Za (Zc (step 2 (fn0 102) (sz A) z x r m q (by decide) D P (WS.pre B F) C (box H B F))))
  ·refine Zl (by subst q;rfl) (by
     rw [show ((j:Nat):Int)=3 by omega] at step ⊢;refine ⟨by decide,by decide,(4,fn0 103,()),rfl,ZJ fun h4 Y Z z4=>Zbe Y fun M H u5 z5=>rV (Zb H rfl) (.inr (.inr (.inr (.inl ⟨rfl,?_⟩))))⟩;have B:Ext A M:=Z.then u5 fun k I=>by subst I;exact Aqo _
     exact ZEz (Eh.ext B) ok N (O.ext B) hn fun z r m x D P F C=>Za (Zc (step 3 (fn0 103) (sz A) z x r m q (by decide) D P (WS.pre B F) C (box H B F))))
  ·refine Zl (by subst q;rfl) (by
     rw [show ((j:Nat):Int)=4 by omega] at step ⊢;refine ⟨by decide,by decide,(5,fn0 104,()),rfl,ZJ fun h4 Y Z z4=>Zbe Y fun M H u5 z5=>rV (Zb H rfl) (.inr (.inr (.inr (.inr (.inl ⟨rfl,?_⟩)))))⟩;have B:Ext A M:=Z.then u5 fun k I=>by subst I;exact Aqo _
     exact ZA8 (Eh.ext B) ok N (O.ext B) hn fun z r m x D P F C=>Za (Zc (step 4 (fn0 104) (sz A) z x r m q (by decide) D P (WS.pre B F) C (box H B F))))
  ·subst q
   have aI:ZnE G c al gr=(none,(tks,wt)):=hw;refine Zi rfl (fin (0,0,0,()) A bh false fun J V=>?_);refine I J (none,(tks,wt)) aI (ag (old s') V) fun _=>⟨t',R,⟨(V.old wb (Zp O.w) (show ¬ wb=sz h by omega)).trans O.w,(O.o.congr fun b S aj aJ=>V.old b aj fun e=>?_).base (by omega),O.l,fun i v tk g1 g2=>?_,?_,O.n⟩,hn⟩
   ·have e':b=sz h:=e
    have:sz h1<=b:=aJ;omega
   ·have D:=O.e i v tk g1 g2
    have bk:∀ {b o:Nat} {vv:Value},Bx A (sz h1) wb t' b o vv->Bx J (sz h) wb t' b o vv:=fun {b o vv} D=>by
      obtain ⟨x1,x2,x3,x4,x5⟩:=D;exact ⟨by rw [show obj J b=obj A b from V.old b x3 (show ¬ b=sz h by omega)];exact x1,by omega,Aqq x3 V.size,x4,x5⟩
    cases tk with
    | hot i s =>
      obtain ⟨D,wx,vx,hb,e,a1,a2,a3,a4⟩:=D;exact ⟨D,wx,vx,hb,e,bk a1,bk a2,bk a3,a4⟩
    | warm i past sum =>
      obtain ⟨a,b,d,f,g,p,e,a1,a2,a3,a4,a5,a6⟩:=D;exact ⟨a,b,d,f,g,p,e,bk a1,bk a2,bk a3,bk a4,bk a5,a6⟩
    | pace i =>
      obtain ⟨a,b,f,p,e,a1,a2,a3,a4⟩:=D;exact ⟨a,b,f,p,e,bk a1,bk a2,bk a3,a4⟩
    | wp i past aP =>
      obtain ⟨a,b,d,f,g,p,e,a1,a2,a3,a4,a5,a6,a7⟩:=D;exact ⟨a,b,d,f,g,p,e,bk a1,bk a2,bk a3,bk a4,bk a5,bk a6,a7⟩
    | brk i =>
      obtain ⟨a,b,hb,id,e,a1,a2,a3,a4⟩:=D;exact ⟨a,b,hb,id,e,bk a1,bk a2,bk a3,a4⟩
   ·have:sz A<=sz J:=V.size
    omega
end
structure LS (L L':Lay):Prop where
  eb:L'.eb=L.eb
  f:L'.fs.map (·.1)=L.fs.map (·.1)
  b:L'.bs.map (fun x=>(x.1,x.2.2))=L.bs.map fun x=>(x.1,x.2.2)
  h:L'.hs.map (·.1)=L.hs.map (·.1)
theorem LS.refl {L:Lay}:LS L L:=⟨rfl,rfl,rfl,rfl⟩
theorem LS.trans {L L' L'':Lay} (a:LS L L') (b:LS L' L''):LS L L'':=⟨b.eb.trans a.eb,b.f.trans a.f,b.b.trans a.b,b.h.trans a.h⟩
theorem Zf0 {α β:Type} {g:α->β} {l:List α} {i:Nat} {x y:α} (hi:l[i]?=some x) (a:g y=g x):(l.set i y).map g=l.map g:=by
  induction l generalizing i with
  | nil=>cases hi
  | cons b l c =>
    cases i with
    | zero=>cases hi;simp [a]
    | succ i=>simp [c (by simpa using hi)]
theorem Zic {α β:Type} {g:α->β} {l a:List α} (h:a.map g=l.map g) {i:Nat} {y:β} (hi:(l[i]?).map g=some y):∃ x,a[i]?=some x/\g x=y:=by
  rw [<- Awy,<- h,Awy] at hi
  cases q:a[i]? with
  | none=>rw [q] at hi;cases hi
  | some x=>rw [q] at hi;exact ⟨x,rfl,Option.some.inj hi⟩
structure ZoL (hS:Zf) (T:TgM) (L:Lay) (wb:Nat) (c:PC) (sl:Sl) (gr:Bool) (t:Sl) (wt:Int) (m:Nat) (hh:Zf) (T':TgM) (L':Lay) (G:GS) (pr:List Int) (prS:Sl):Prop where
  E:Za9 hh T' L' G
  u:Upd (fun j=>T j≠none\/j=wb) hS hh
  s:Zdl T T'
  n:∀ j,T' j≠none->T j≠none\/sz hS<=j
  w:obj hh wb=some (Zu3 L.eb (cl c sl) gr t prS wt)
  lw:wb<sz hS
  tw:T wb=none
  o:Own hh (sz hS) prS 1 (pr.map iv)
  ot:∀ b,prS.blk=some b->T' b=none
  ls:LS L L'
  pl:pr.length<=m
section
variable {hS hh h':Zf} {T T' T'':TgM} {L L' L'':Lay} {base wb m:Nat} {c:PC} {sl t prS:Sl} {gr:Bool} {wt:Int} {G G':GS} {pr:List Int}
theorem ZoL.tw' (R:ZoL hS T L wb c sl gr t wt m hh T' L' G pr prS):T' wb=none:=by
  cases q:T' wb with
  | none=>rfl
  | some x =>
    rcases R.n wb (Y9 q) with g | g
    ·exact absurd R.tw g
    ·have:=R.lw;omega
theorem ZoL.step (R:ZoL hS T L wb c sl gr t wt m hh T' L' G pr prS) (E:Za9 h' T'' L'' G') (g:GrG T' T'' hh h') (ls:LS L' L''):ZoL hS T L wb c sl gr t wt (m+1) h' T'' L'' G' pr prS:=by
  have ws:sz hS<=sz hh:=R.u.size;refine ⟨E,⟨Aqp R.u.size g.u.size,fun k f i=>?_⟩,R.s.trans g.s,fun j l=>?_,(g.u.old wb (Zp R.w) fun e=>e R.tw').trans R.w,R.lw,R.tw,R.o.congr fun b a h _=>g.u.old b h fun e=>e (R.ot b a),fun b a=>?_,R.ls.trans ls,Nat.le_succ_of_le R.pl⟩
  ·refine (g.u.old k (Aqq f ws) fun e=>?_).trans (R.u.old k f i)
   rcases R.n k e with d | d
   ·exact i (.inl d)
   ·have:k<sz hS:=f;omega
  ·rcases g.n j l with d | d
   ·exact R.n j d
   ·exact .inr (by omega)
  ·cases q:T'' b with
   | none=>rfl
   | some x =>
     rcases g.n b (Y9 q) with d | d
     ·exact absurd (R.ot b a) d
     ·have:=(R.o.lt a).2;have:b<sz hh:=this;omega
theorem ZoL.box (R:ZoL hS T L wb c sl gr t wt m hh T' L' G pr prS) (a:∀ j,T j≠none->j<base) {b o:Nat} {v:Value} (x:Bx hS base wb t b o v):ZA o (obj hh b)=some v:=by
  obtain ⟨d,h,f,g,i⟩:=x;rw [show obj hh b=obj hS b from R.u.old b f fun e=>?_]
  ·exact d
  ·rcases e with e | e
   ·have:=a b e;omega
   ·exact g e
theorem ZGu {i:Nat} {x:ByteArray} {a0 p q:Nat} {b:Nat} (R:ZoL hS T L wb c sl gr t wt m hh T' L' G pr prS) (d:∀ j,T j≠none->j<base) (u:Bx hS base wb t a0 0 (pB b)) (b1:Bx hS base wb t p 0 (pB wb)) (b2:Bx hS base wb t q 0 (.string x)) (v:(L.hs[i]?).map (·.1)=some b)
    {K:Zf->Prop} (r:∀ h' T'' L'' f,ZoL hS T L wb c sl gr t wt (m+1) h' T'' L'' (Zfp c (G,pr) (.hot i x)).1 (Zfp c (G,pr) (.hot i x)).2 f->K h'):Xn (some ⟨a0,0,none⟩) (some ⟨p,0,none⟩) (some ⟨q,0,none⟩) K hh:=by
  unfold Xn ZcV;obtain ⟨⟨k,H⟩,a,y⟩:=Zic R.ls.h v;have l:k=b:=y;subst l;have z:G.ho[i]?=some H:=by rw [<- R.E.lh,Awy,a];rfl
  have A:Zfp c (G,pr) (.hot i x)=({ G with ho:=G.ho.set i (H.take c.1 x c.2.2.2.2.2)},pr):=by
    unfold Zfp;dsimp only;rw [z]
  rw [A] at r;refine Zg (rP (R.box d u) (Zg (rP (R.box d b1) (Zg (rI (Zb R.w rfl) (Zg (rS (R.box d b2) (Zg (rP (R.box d b1) (Zg (rI (Zb R.w rfl) ?_)))))))))));obtain ⟨I,n,s⟩:=R.E.ho.e i _ a;refine Classical.choose_spec (Classical.choose_spec (Classical.choose_spec (ZuG H c.1 x c.2.2.2.2.2))) n fun h1 B C g=>?_;have D:=R.E.setH a s C g;have o:=R.step D (GrG.tag R.E.hT g.upd (fun j F=>Y9 (s j F)) (Aqo _)) ⟨rfl,rfl,rfl,Zf0 a rfl⟩;exact ⟨⟨o.box d b1,trivial⟩,⟨o.box d b1,trivial⟩,r h1 _ _ prS o⟩
theorem ZEk {p:ShP} {b1 b2:Nat} (h:(hdP p).Nodup) (h1:p.1=some ⟨b1,0,none⟩) (a:p.2=some ⟨b2,0,none⟩):b1≠b2:=by
  unfold hdP at h;rw [h1,a] at h;simpa [Ztp] using h
theorem ZxX {h h':Zf} {O:Nat->Prop} {p:Option Addr} {x:Option Pc} (a:ZxY h O p x) (k:∀ b,p=some ⟨b,0,none⟩->obj h' b=obj h b):ZxY h' O p x:=by
  cases x with
  | none=>exact a
  | some x=>obtain ⟨b,e,c,o⟩:=a;exact ⟨b,e,(k b e).trans c,o⟩
theorem ZEo {h:Zf} {O:Nat->Prop} {p:Option Addr} {x:Pc} (a:ZxY h O p (some x)):∃ b,p=some ⟨b,0,none⟩/\b<sz h:=by
  obtain ⟨b,e,c,_⟩:=a;exact ⟨b,e,Zp c⟩
theorem ZDI {i:Nat} {past sum:Int} {a b d e f:Nat} {p:ShP} (R:ZoL hS T L wb c sl gr t wt m hh T' L' G pr prS) (ok:GOK G) (o:∀ j,T j≠none->j<base) (hs:∀ s,G.fl[i]?=some s->s.2≠none) (C:Bx hS base wb t a 1 (.pointer p.2)) (b1:Bx hS base wb t b 0 (iv c.1)) (b2:Bx hS base wb t d 0 (iv past)) (M:Bx hS base wb t e 0 (iv sum)) (b4:Bx hS base wb t f 0 (iv c.2.2.2.2.2)) (N:(L.fs[i]?).map (·.1)=some p)
    {K:Zf->Prop} (D:∀ h' T'' L'' r,ZoL hS T L wb c sl gr t wt (m+1) h' T'' L'' (Zfp c (G,pr) (.warm i past sum)).1 (Zfp c (G,pr) (.warm i past sum)).2 r->K h'):XN (some ⟨a,0,none⟩) (some ⟨b,0,none⟩) (some ⟨d,0,none⟩) (some ⟨e,0,none⟩) (some ⟨f,0,none⟩) K hh:=by
  unfold XN Zee;obtain ⟨⟨u,s⟩,l,v⟩:=Zic R.ls.f N;have x:u=p:=v;subst x;have F:G.fl[i]?=some s:=R.E.ge l;obtain ⟨s1,s2⟩:=s;have h:=R.E.fl.e i _ l;have y:=(Zpr h).1
  cases s2 with
  | none=>exact absurd rfl (hs _ F)
  | some w =>
  obtain ⟨k,O,P,tw⟩:=h.2
  have Q:Zfp c (G,pr) (.warm i past sum)=({ G with fl:=G.fl.set i (s1,some (w.take c.1 past sum c.2.2.2.2.2))},pr):=by
    unfold Zfp;dsimp only;rw [F]
  rw [Q] at D;have n:u.2=some ⟨k,0,none⟩:=O;rw [n] at C;refine Zg (rP (R.box o C) (Zg (rI (R.box o b1) (Zg (rI (R.box o b2) (Zg (rI (R.box o M) (Zg (rI (R.box o b4) ?_)))))))));refine Classical.choose_spec (Classical.choose_spec (Classical.choose_spec (ZqX w c.1 past sum c.2.2.2.2.2))) P fun h1 c1 H=>?_;have hm:k∈hdP u:=by unfold hdP;rw [n];simp [Ztp]
  have I:Upd (fun j=>∃ d,d∈hdP u/\T' j=some (.p d)) hh h1:=H.mono fun j _ z=>⟨k,hm,by rw [show j=k from z];exact tw⟩
  have A:ZxY h1 (hdT T') u.1 s1:=by
    cases s1 with
    | none=>exact h.1
    | some q =>
      refine ZxX h.1 fun b g=>?_;obtain ⟨J,v,S⟩:=ZEo h.1;have B:b=J:=by rw [v] at g;injection g with g;injection g with g _ _;exact g.symm
      rw [B];exact H.old J S fun U=>ZEk y v n U
  have V:=R.E.setF (s':=(s1,some (w.take c.1 past sum c.2.2.2.2.2))) l ⟨A,⟨k,n,c1,tw⟩⟩ I;exact D h1 _ _ prS (R.step V ⟨I.mono fun j _ ⟨d,_,hd⟩=>Y9 hd,Zdl.refl _,fun j z=> .inl z⟩ ⟨rfl,Zf0 l rfl,rfl,rfl⟩)
theorem ZDK {i:Nat} {a b f:Nat} {p:ShP} (R:ZoL hS T L wb c sl gr t wt m hh T' L' G pr prS) (u:∀ j,T j≠none->j<base) (hs:∀ s,G.fl[i]?=some s->s.1≠none) (B:Bx hS base wb t a 0 (.pointer p.1)) (b1:Bx hS base wb t b 0 (iv c.1)) (b4:Bx hS base wb t f 0 (iv c.2.2.2.2.2)) (J:(L.fs[i]?).map (·.1)=some p)
    {K:Zf->Prop} (C:∀ h' T'' L'' n,ZoL hS T L wb c sl gr t wt (m+1) h' T'' L'' (Zfp c (G,pr) (.pace i)).1 (Zfp c (G,pr) (.pace i)).2 n->K h'):XM (some ⟨a,0,none⟩) (some ⟨b,0,none⟩) (some ⟨f,0,none⟩) K hh:=by
  unfold XM Zed;obtain ⟨⟨o,s⟩,h,r⟩:=Zic R.ls.f J;have v:o=p:=r;subst v;have D:G.fl[i]?=some s:=R.E.ge h;obtain ⟨s1,s2⟩:=s;have k:=R.E.fl.e i _ h;have x:=(Zpr k).1
  cases s1 with
  | none=>exact absurd rfl (hs _ D)
  | some w =>
  obtain ⟨g,M,N,tw⟩:=k.1
  have O:Zfp c (G,pr) (.pace i)=({ G with fl:=G.fl.set i (some (w.go c.1 c.2.2.2.2.2),s2)},pr):=by
    unfold Zfp;dsimp only;rw [D]
  rw [O] at C;have l:o.1=some ⟨g,0,none⟩:=M;rw [l] at B;refine Zg (rP (R.box u B) (Zg (rI (R.box u b1) (Zg (rI (R.box u b4) ?_)))));refine Classical.choose_spec (ZBW w c.1 c.2.2.2.2.2) N fun h1 U V W c1 F=>?_;have hm:g∈hdP o:=by unfold hdP;rw [l];simp [Ztp]
  have H:Upd (fun j=>∃ d,d∈hdP o/\T' j=some (.p d)) hh h1:=F.mono fun j _ y=>⟨g,hm,by rw [show j=g from y];exact tw⟩
  have z:ZBK h1 (hdT T') o.2 s2:=by
    cases s2 with
    | none=>exact k.2
    | some q =>
      obtain ⟨A,r,I,P⟩:=k.2;exact ⟨A,r,(F.old A (Zp I) fun Q=>ZEk x l r (by rw [show A=g from Q])).trans I,P⟩
  have S:=R.E.setF (s':=(some (w.go c.1 c.2.2.2.2.2),s2)) h ⟨⟨g,l,c1,tw⟩,z⟩ H;exact C h1 _ _ prS (R.step S ⟨H.mono fun j _ ⟨d,_,hd⟩=>Y9 hd,Zdl.refl _,fun j y=> .inl y⟩ ⟨rfl,Zf0 h rfl,rfl,rfl⟩)
theorem ZNS {i:Nat} {past h:Int} {a b d f g:Nat} {p:ShP} (R:ZoL hS T L wb c sl gr t wt m hh T' L' G pr prS) (A:∀ j,T j≠none->j<base) (hs:∀ s,G.fl[i]?=some s->s.1≠none/\s.2≠none) (S:Bx hS base wb t a 0 (.pointer p.1)) (B:Bx hS base wb t a 1 (.pointer p.2)) (b1:Bx hS base wb t b 0 (iv c.1)) (b2:Bx hS base wb t d 0 (iv past)) (b4:Bx hS base wb t f 0 (iv c.2.2.2.2.2)) (b5:Bx hS base wb t g 0 (iv h)) (hL:(L.fs[i]?).map (·.1)=some p)
    {K:Zf->Prop} (U:∀ h' T'' L'' C,ZoL hS T L wb c sl gr t wt (m+1) h' T'' L'' (Zfp c (G,pr) (.wp i past h)).1 (Zfp c (G,pr) (.wp i past h)).2 C->K h'):XL (some ⟨a,0,none⟩) (some ⟨b,0,none⟩) (some ⟨d,0,none⟩) (some ⟨f,0,none⟩) (some ⟨g,0,none⟩) K hh:=by
  unfold XL Zec;obtain ⟨⟨z,s⟩,k,e8⟩:=Zic R.ls.f hL;have H:z=p:=e8;subst H;have I:G.fl[i]?=some s:=R.E.ge k;obtain ⟨s1,s2⟩:=s;have y:=R.E.fl.e i _ k;have J:=(Zpr y).1
  cases s1 with
  | none=>exact absurd rfl (hs _ I).1
  | some w1 =>
  cases s2 with
  | none=>exact absurd rfl (hs _ I).2
  | some M =>
  obtain ⟨r,ep,cp,V⟩:=y.1;obtain ⟨w,ew,cw,tw⟩:=y.2
  have rk:Zfp c (G,pr) (.wp i past h)=({ G with fl:=G.fl.set i (some (w1.at' c.1 c.2.2.2.2.2 h),some (M.fill c.1 past))},pr):=by
    unfold Zfp;dsimp only;rw [I]
  rw [rk] at U;have l:z.1=some ⟨r,0,none⟩:=ep;have q:z.2=some ⟨w,0,none⟩:=ew;rw [l] at S;rw [q] at B;have D:r≠w:=ZEk J l q;refine Zg (rP (R.box A B) (Zg (rI (R.box A b1) (Zg (rI (R.box A b2) ?_)))));refine Classical.choose_spec (Classical.choose_spec (Classical.choose_spec (ZmV M c.1 past))) cw fun h1 c1 N=>?_
  have bk:∀ {b o:Nat} {v:Value},Bx hS base wb t b o v->ZA o (obj h1 b)=some v:=fun {b o v} x=>by
    have hx:=R.box A x;obtain ⟨x1,x2,x3,x4,x5⟩:=x
    have:b≠w:=fun e=>by
      subst e
      rcases R.n b (Y9 tw) with W | W
      ·have:=A b W;omega
      ·omega
    rw [show obj h1 b=obj hh b from N.old b (Aqq x3 R.u.size) this];exact hx
  refine Zg (rP (bk S) (Zg (rI (bk b1) (Zg (rI (bk b4) (Zg (rI (bk b5) ?_)))))));have O:obj h1 r=some (pcO w1):=(N.old r (Zp cp) D).trans cp;refine Classical.choose_spec (Classical.choose_spec (ZuC w1 c.1 c.2.2.2.2.2 h)) O fun X c2 Y=>?_;have P:r∈hdP z:=by unfold hdP;rw [l];simp [Ztp]
  have Q:w∈hdP z:=by unfold hdP;rw [q];simp [Ztp]
  have Z:Upd (fun j=>∃ d,d∈hdP z/\T' j=some (.p d)) hh X:=(N.mono fun j _ F=>⟨w,Q,by rw [show j=w from F];exact tw⟩).trans (Y.mono fun j _ F=>⟨r,P,by rw [show j=r from F];exact V⟩);have E1:=R.E.setF (s':=(some (w1.at' c.1 c.2.2.2.2.2 h),some (M.fill c.1 past))) k ⟨⟨r,l,c2,V⟩,⟨w,q,(Y.old w (Zp c1) (Ne.symm D)).trans c1,tw⟩⟩ Z;exact U X _ _ prS (R.step E1 ⟨Z.mono fun j _ ⟨d,_,hd⟩=>Y9 hd,Zdl.refl _,fun j F=> .inl F⟩ ⟨rfl,Zf0 k rfl,rfl,rfl⟩)
theorem Zyg {B:BkS} {at_:Int} (hw:WOK B.r) (a:WOK (B.enter at_).r) {h:Zf} {wn mb:Nat} (w:Zke (Zc4 _ hw) h wn mb B.w):Zke (Zc4 _ a) h wn mb (B.enter at_).w:=by
  revert a
  unfold BkS.enter;split<;>(intro _;exact w)
theorem ZGv {i:Nat} {a b h:Nat} {id:Int} (R:ZoL hS T L wb c sl gr t wt m hh T' L' G pr prS) (hm:m<=2000) (C:∀ j,T j≠none->j<base) (b0:Bx hS base wb t a 0 (pB h)) (X:Bx hS base wb t a 1 (iv id)) (b1:Bx hS base wb t b 0 (pB wb)) (hL:(L.bs[i]?).map (fun x=>(x.1,x.2.2))=some (h,id))
    {K:Zf->Prop} (I:∀ h' T'' L'' J,ZoL hS T L wb c sl gr t wt (m+1) h' T'' L'' (Zfp c (G,pr) (.brk i)).1 (Zfp c (G,pr) (.brk i)).2 J->K h'):Y4 (some ⟨a,0,none⟩) (some ⟨b,0,none⟩) K hh:=by
  unfold Y4 ZbP;obtain ⟨⟨g,B,v⟩,z,e8⟩:=Zic R.ls.b hL;have Y:g=h/\v=id:=by injection e8 with Z y;exact ⟨Z,y⟩
  obtain ⟨Z,y⟩:=Y;subst Z;subst y;have hG:G.br[i]?=some (B,v):=by rw [<- R.E.lb,Awy,z];rfl
  have l:WOK (B.1.enter c.1).r:=by have:=B.2;unfold BkS.enter;split<;>exact this
  have rk:Zfp c (G,pr) (.brk i)=({ G with br:=G.br.set i (⟨B.1.enter c.1,l⟩,v)},if Zps B.1 c.1=true then pr++[v] else pr):=by
    unfold Zfp;dsimp only;rw [hG]
  rw [rk] at I;refine Zg (rP (R.box C b0) (Zg (rP (R.box C b1) (Zg (rI (Zb R.w rfl) ?_)))));obtain ⟨⟨wn,mb,cB,M,o1,o2,o3⟩,N⟩:=id (R.E.br.e i _ z);refine ZtA cB fun h1 p9 e9 c1 u1 z1=>?_
  have O:g≠wn/\g≠mb:=by
    constructor
    ·intro e
     have P:=M.cells;rw [<- e,cB] at P;simp [b7L] at P
    ·intro e
     obtain ⟨f,n,⟨es,c9,hq,_⟩,_⟩:=M.map;have P:obj hh mb=_:=hq;rw [<- e,cB] at P;cases P
  have Q:(B.1.enter c.1).w.last<=(B.1.enter c.1).la:=by
    unfold BkS.enter;split
    ·rename_i q
     unfold ZW at q;have:B.1.w.last<=B.1.la:=N;show B.1.w.last<=c.1;split at q
     ·cases q
     ·split at q
      ·cases q
      ·split at q
       ·cases q
       ·omega
    ·exact N
  have aC:(B.1.enter c.1).w=B.1.w:=by unfold BkS.enter;split<;>rfl
  have aD:(B.1.enter c.1).r=B.1.r:=by unfold BkS.enter;split<;>rfl
  have uT:Upd (inT T' g) hh h1:=u1.mono fun j _ p=>by rw [show j=g from p];exact o1
  have bR:BkR h1 g (inT T' g) (B.1.enter c.1) l:=⟨⟨wn,mb,c1,Zyg B.2 l (M.congr (u1.old wn (Zp M.cells) fun e=>O.1 (show wn=g from e).symm) (u1.old mb M.mlt fun e=>O.2 (show mb=g from e).symm)),o1,o2,o3⟩,Q⟩
  ·have E1:=R.E.setB (B':=⟨B.1.enter c.1,l⟩) z bR uT ⟨fun j p=> .inl p,fun j p=>p⟩
   have d:=R.step E1 (GrG.tag R.E.hT uT (fun j p=>Y9 p) (Aqo _)) (L'':={ L' with bs:=L'.bs.set i (g,⟨B.1.enter c.1,l⟩,v)}) ⟨rfl,rfl,Zf0 z rfl,rfl⟩;refine ⟨⟨d.box C b1,trivial⟩,Zc (Zc (Za ⟨fun q=>?_,fun q=>?_⟩))⟩
   ·have q':Zps B.1 c.1=true:=q
    rw [if_pos q'] at I;refine Zg (Zg (rP (d.box C b1) (Zg (rP (d.box C b1) (Zg (rL (s:=prS) (Zb d.w rfl) (rI (d.box C X) (ZJ fun A c2 y z2=>?_))))))));have bk:∀ {h3:Zf},(∀ {j:Nat} {x:Obj},obj h1 j=some x->prS.blk≠some j->obj h3 j=some x)->True:=fun _=>trivial;have nb:prS.blk≠some b:=fun e=>by have:=(d.o.lt e).1;have:=b1.2.2.1;omega
    have nw:prS.blk≠some wb:=fun e=>by have:=(d.o.lt e).1;have:=d.lw;omega
    have B1:=d.box C b1
    have D:ZA 0 (obj A b)=some (pB wb):=by
      rw [show obj A b=obj h1 b from y.old b (Aqq b1.2.2.1 d.u.size)];exact B1
    have w2:=Zj d.w y;refine ⟨ZZ (Zb w2 rfl),⟨D,trivial⟩,⟨D,trivial⟩,(Zj1 c2 rfl).rd ?_⟩;have pl:=d.pl;have ol:=d.o.len;simp only [Ayv,Aqv] at ol;refine (d.o.congr (h':=A) fun b _ hl _=>y.old b hl).app (n:=1) rfl rfl rfl (by omega) (by omega) (Aqp d.u.size y.size) fun s' h3 ag l3 V ah=>?_
    have S:ZA 0 (obj h3 b)=some (pB wb):=by
      rw [show obj h3 b=obj A b from V.old b (Aqq b1.2.2.1 (Aqp d.u.size y.size)) nb];exact D
    have w3:obj h3 wb=_:=(V.old wb (Zp w2) nw).trans w2;refine ⟨⟨S,trivial⟩,⟨S,trivial⟩,Zg (Zbf w3 (show 0+10<12 by decide) rfl fun W c4 u4 z4=>?_)⟩;have aO:sz h1<sz A:=by have:sz A=sz h1+1:=z2;omega
    have aP:sz A<=sz h3:=V.size;have aQ:sz h3<=sz W:=u4.size;have Tw:=d.tw';have F:Upd (fun j=>j=wb\/prS.blk=some j) h1 W:=((y.upd _).trans (V.mono fun j _ p=> .inr p)).trans (u4.mono fun j _ p=> .inl p)
    have E4:=d.E.frame F fun j p=>by
      rcases p with e | e
      ·rw [e];exact Tw
      ·exact d.ot j e
    refine I W _ _ s' ⟨E4,⟨Aqp d.u.size F.size,fun k H hn=>?_⟩,d.s,d.n,c4,d.lw,d.tw,?_,fun U h=>?_,d.ls,by simp;have:=R.pl;omega⟩
    ·refine (F.old k (Aqq H d.u.size) fun h9=>?_).trans (d.u.old k H hn)
     rcases h9 with e | e
     ·exact hn (.inr e)
     ·have:=(d.o.lt e).1;have:k<sz hS:=H;omega
    ·rw [Ayw]
     refine (ag.congr (h':=W) fun U h aj g=>u4.old U aj fun e=>?_);have e':U=wb:=e;have:sz hS<=U:=g;have:=d.lw;omega
    ·rcases ah with e | e
     ·exact d.ot U (e▸h)
     ·rw [e] at h
      cases h;refine Classical.byContradiction fun ak=>?_;have h9:sz A<sz h1:=d.E.hT _ ak;omega
   ·rw [if_neg (by rw [show Zps B.1 c.1=false from q];decide)] at I
    exact I h1 _ _ prS d
end
theorem Zr8 {h:Zf} {s:Sl} {al:List ByteArray} (hs:Row h s 1 (al.map .string)) {K:Bool->Zf->Prop} (d:K (ZkW al) h) (hl:al.length<=8):ZE s K h:=by
  unfold ZE ZU Z8 Ye;have k:s.len=al.length:=by have:=hs.len;simp at this;omega
  refine Za (Zbd (fun p j=>∃ i:Nat,p=((i:Int),())/\i<=al.length/\j=h/\ZkW (al.take i)=false) (fun p _=>al.length - p.1.toNat) ⟨0,rfl,Ayg _,rfl,rfl⟩ ?_);rintro _ j ⟨i,rfl,l,g,e⟩ Q m;subst g;dsimp only;refine Zn (fun q=>?_) fun q=>?_
  ·have a:i<al.length:=by omega
   have f:al[i]?=some al[i]:=Axy a;generalize al[i]=x at f;refine Za (hs.idx (n:=i) (v:= .string x) rfl (by rw [Awy,f];rfl) fun b o _ r=>⟨x,r,?_⟩);unfold Zcg Zck;refine Zc (Zn (fun t=>Za (Zc ?_)) fun t=>?_)
   ·have:decide ((i:Int)>=0)=true:=by simp
    rw [this];have:ZkW al=true:=List.any_eq_true.2 ⟨x,Axo f,by simp;omega⟩;rw [this] at d;exact d
   ·rw [wrS a (by omega)]
    refine m _ _ ⟨i+1,rfl,a,rfl,?_⟩ (by show al.length - ((i+1:Nat):Int).toNat<al.length - ((i:Nat):Int).toNat;omega);unfold ZkW at e ⊢;rw [Aym,f,List.any_append,e];simp;omega
  ·have c:al.take i=al:=Awd (by omega)
   rw [c] at e;rw [e] at d;exact Za (Zc d)
theorem ZDr {h:Zf} {T:TgM} {L:Lay} {G:GS} (E:Za9 h T L G) {c:PC} {sl:Sl} (hz:Zhs (cl c nl)) {al:List ByteArray} (F:Row h sl 1 (al.map .string)) {K:Int->Zf->Prop}
    (w:∀ h' T',Za9 h' T' L (if Zhu G c al=0 then { G with t:=G.t.touched (cl c nl)} else G)->GrG T T' h h'->K (Zhu G c al) h'):Zac (some ⟨L.eb,0,none⟩) (cl c sl) K h:=by
  have no:∀ e (d:Zf),Ext h d->e≠0->Zhu G c al=e->K e d:=fun e d H h1 i=>by
    have:=w d T (by rw [if_neg (by rw [i];exact h1)];exact E.ext H) (GrG.ext H);rwa [i] at this
  unfold Zac Zdx;have P:sl.len=al.length:=by have:=F.len;simp at this;omega
  refine ZJ fun h1 c1 I z1=>Za (rI (Zb c1 rfl) (rS (Zb c1 rfl) (rS (Zb c1 rfl) (rS (Zb c1 rfl) (rB (Zb c1 rfl) (rI (Zb c1 rfl) (rL (s:=sl) (Zb c1 rfl) ?_)))))));refine ZlB (c:=cl c sl) (show Zhs (cl c sl) from ⟨hz.a,hz.b,hz.c⟩) fun s i x o2=>Za (ZfO (fun (m:ZiA (cl c nl)≠0)=>Za (no (ZiA (cl c nl)) i (I.trans x) m (by unfold Zhu;rw [if_pos m]))) fun (m:ZiA (cl c nl)=0)=>?_);have f:=I.trans x;have g:=Zj c1 x;have J:∀ {a:Int},¬ (0<=c.1/\c.1<=1152921504606846976)->K 2 i:=fun q=>no 2 i f (by decide) (by unfold Zhu;rw [if_neg (fun d=>d m),if_pos q]);refine rI (Zb g rfl) (Zn (fun (Q:c.1<0)=>Za (J (a:=0) (by omega))) fun (Q:¬ c.1<0)=>rI (Zb g rfl) (Zn (fun (R:c.1>1152921504606846976)=>Za (J (a:=0) (by omega))) fun (R:¬ c.1>1152921504606846976)=>?_));have k:0<=c.1/\c.1<=1152921504606846976:=by omega
  have M:¬ (1<=c.2.2.2.2.2/\c.2.2.2.2.2<=1099511627776)->K 2 i:=fun q=>no 2 i f (by decide) (by unfold Zhu;rw [if_neg (fun d=>d m),if_neg (fun d=>d k),if_pos q]);refine rI (Zb g rfl) (Zn (fun (S:c.2.2.2.2.2<1)=>Za (M (by omega))) fun (S:¬ c.2.2.2.2.2<1)=>rI (Zb g rfl) (Zc (Zn (fun (U:c.2.2.2.2.2>1099511627776)=>Za (M (by omega))) fun (U:¬ c.2.2.2.2.2>1099511627776)=>?_)));have l:1<=c.2.2.2.2.2/\c.2.2.2.2.2<=1099511627776:=by omega
  refine rL (s:=sl) (Zb g rfl) (Zn (fun V=>Za (no 5 i f (by decide) ?_)) fun V=>?_)
  ·unfold Zhu;rw [if_neg (fun d=>d m),if_neg (fun d=>d k),if_neg (fun d=>d l),if_pos (by omega)]
  have n:¬ 8<al.length:=by omega
  refine rL (s:=sl) (Zb g rfl) (Zr8 (F.ext f) (Zc ⟨fun y=>Za (no 5 i f (by decide) ?_),fun y=>?_⟩) (by omega))
  ·unfold Zhu;rw [if_neg (fun d=>d m),if_neg (fun d=>d k),if_neg (fun d=>d l),if_neg n,if_pos y]
  have o:¬ ZkW al=true:=by rw [y];decide
  have r:=E.ext f;refine rI (Zb g rfl) (Zg (rI (Zb r.cells rfl) (Zc (Zn (fun (u:c.1<G.la)=>Za (no 7 i f (by decide) ?_)) fun (u:¬ c.1<G.la)=>?_))))
  ·unfold Zhu;rw [if_neg (fun d=>d m),if_neg (fun d=>d k),if_neg (fun d=>d l),if_neg n,if_neg o,if_pos u]
  refine Zg (rI (Zb r.cells rfl) (Zc (Zn (fun z=>Za (no 3 i f (by decide) ?_)) fun z=>?_)))
  ·unfold Zhu;rw [if_neg (fun d=>d m),if_neg (fun d=>d k),if_neg (fun d=>d l),if_neg n,if_neg o,if_neg u,if_pos (show 4096<=G.op from z)]
  have W:Zhu G c al=G.t.touchE (cl c nl):=by unfold Zhu;rw [if_neg (fun d=>d m),if_neg (fun d=>d k),if_neg (fun d=>d l),if_neg n,if_neg o,if_neg u,if_neg (show ¬ 4096<=G.op from z)]
  rw [W] at w;refine Zg (rP (Zb r.cells rfl) (rI (Zb g rfl) (rS (Zb g rfl) (rS (Zb g rfl) (rS (Zb g rfl) (rB (Zb g rfl) (rI (Zb g rfl) (rL (s:=sl) (Zb g rfl) (ZJ fun h3 X A z3=>⟨ZZ (Zb (r.ext A).cells rfl),?_⟩)))))))));have v:=r.ext A;have B:=f.trans A;refine ZvU (c:=cl c sl) v.tree (fun j C=>ZbA v.hT C) (show Zhs (cl c sl) from ⟨hz.a,hz.b,hz.c⟩) (Zj1 X rfl) (fun b q d=>?_) fun N O' t4 O Y=>Za (w N (Zh3 T (.p L.tb) (sz h3) (sz N)) ?_ (GrG.pre B (GrG.tag v.hT O (fun j C=>Y9 C) (Aqo _))))
  ·simp [Sl.blk] at q
   subst q;have Z:T (sz i)=some (.p L.tb):=d;have:=ZbA r.hT Z;omega
  ·have:(if G.t.touchE (cl c nl)=0 then { G with t:=G.t.touched (cl c nl)} else G)={ G with t:=G.t.touched (cl c nl)}:=by
     split
     ·rfl
     ·rename_i D
      unfold Tree.touched;rw [if_neg D]
   rw [this];exact v.tree' t4 O Y
def ZOj (r:RulesP):Tk->Prop
  | .warm i _ _=>∃ f,r.fl[i]?=some f/\f.shape=1
  | .pace i=>∃ f,r.fl[i]?=some f/\f.shape=2
  | .wp i _ _=>∃ f,r.fl[i]?=some f/\f.shape=3
  | _=>True
theorem Zji {P:Tk->Prop} {f:Int->Lk} (c:∀ i tk,tk∈(f i).tk->P tk):∀ {l:List Int} {x:List Tk × Int},(∀ tk,tk∈x.1->P tk)->∀ tk,tk∈(Zfn f l x).2.1->P tk
  | [],x,a,tk,h=>a tk h
  | i::l,x,a,tk,h=>by
    have d:∀ tk,tk∈x.1++(f i).tk->P tk:=fun tk h=>(Axx.1 h).elim (a tk) (c i tk);have e:Zfn f (i::l) x=if (f i).b=true then (some i,x.1++(f i).tk,wtV x.2 (f i).wt) else Zfn f l (x.1++(f i).tk,wtV x.2 (f i).wt):=rfl
    rw [e] at h;split at h
    ·exact d tk h
    ·exact Zji c (l:=l) (x:=(x.1++(f i).tk,wtV x.2 (f i).wt)) d tk h
theorem ZrB {P:Tk->Prop} {st:Nat->List Tk × Int->Option Int × List Tk × Int} (a:∀ j x,(∀ tk,tk∈x.1->P tk)->∀ tk,tk∈(st j x).2.1->P tk):∀ {n j:Nat} {x:List Tk × Int},(∀ tk,tk∈x.1->P tk)->∀ tk,tk∈(Zlk st n j x).2.1->P tk
  | 0,_,x,b,tk,h=>b tk h
  | n+1,j,x,b,tk,h=>by
    have e:Zlk st (n+1) j x=match (st j x).1 with
      | some i=>(some (((j+1:Nat):Int),i),(st j x).2)
      | none=>Zlk st n (j+1) (st j x).2:=rfl
    rw [e] at h;split at h
    ·exact a j x b tk h
    ·exact ZrB a (n:=n) (j:=j+1) (x:=(st j x).2) (a j x b) tk h
theorem ZD2 {G:GS} {c:PC} {al:List ByteArray} {gr:Bool}:∀ tk,tk∈(ZnE G c al gr).2.1->ZOj G.r tk:=by
  refine ZrB (fun j x a tk h=>?_) fun tk h=>by cases h
  have no:∀ {f:Int->Lk} {l:List Int},(∀ i,(f i).tk=[])->tk∈(Zfn f l x).2.1->ZOj G.r tk:=fun {f l} b h=>Zji (fun i tk h=>by rw [b i] at h;cases h) a tk h
  match j,h with
  | 0,h=>exact no (fun i=>rfl) h
  | 1,h =>
    have h':tk∈(ZE4 G c x).2.1:=h;unfold ZE4 at h';split at h'
    ·exact no (fun i=>rfl) h'
    ·exact a tk h'
  | 2,h =>
    refine Zji (fun i tk h=>?_) a tk h;unfold ZnG at h;split at h
    ·split at h
     ·simp only [Awr,Ayk,or_false] at h
      subst h;trivial
     ·cases h
    ·cases h
  | 3,h =>
    refine Zji (fun i tk h=>?_) a tk h;unfold Zfl at h;split at h
    ·rename_i f s b hs
     split at h
     ·cases h
     ·unfold Zko at h
      split at h
      ·rename_i q
       split at h
       ·simp only [Awr,Ayk,or_false] at h
        subst h;exact ⟨f,b,q⟩
       ·cases h
      ·split at h
       ·rename_i q
        split at h
        ·simp only [Awr,Ayk,or_false] at h
         subst h;exact ⟨f,b,q⟩
        ·cases h
       ·split at h
        ·rename_i q
         split at h
         ·simp only [Awr,Ayk,or_false] at h
          subst h;exact ⟨f,b,q⟩
         ·cases h
        ·cases h
    ·cases h
  | n+4,h =>
    refine Zji (fun i tk h=>?_) a tk h;unfold ZnH at h;split at h
    ·simp only [Awr,Ayk,or_false] at h
     subst h;trivial
    ·cases h
theorem ZDJ {c:PC} {x:GS × List Int} (tk:Tk):(Zfp c x tk).1.r=x.1.r:=by
  unfold Zfp;cases tk<;>dsimp only<;>split<;>rfl
section
variable {h h8 hh h12:Zf} {T T3 T':TgM} {L L':Lay} {G:GS}
theorem GrG.run {wb m:Nat} {c:PC} {sl t b:Sl} {gr:Bool} {wt:Int} {pr:List Int} (a:GrG T T3 h h8) (R:ZoL h8 T3 L wb c sl gr t wt m hh T' L' G pr b) (hT:∀ j,T j≠none->j<sz h) (hw:sz h<=wb):GrG T T' h hh:=by
  refine ⟨⟨Aqp a.u.size R.u.size,fun k d f=>?_⟩,a.s.trans R.s,fun j i=>?_⟩
  ·have l:k<sz h:=d
   refine (R.u.old k (Aqq d a.u.size) fun o=>?_).trans (a.u.old k d f)
   rcases o with e | e
   ·rcases a.n k e with g | g
    ·exact f g
    ·omega
   ·omega
  ·rcases R.n j i with g | g
   ·exact a.n j g
   ·exact .inr (Aqp a.u.size g)
theorem GrG.tagS {s:Sl} (a:GrG T T' h h12) (hs:∀ b,s.blk=some b->T' b=none/\sz h<=b):GrG T (tagS T' s) h h12 :=
  ⟨a.u,a.s.trans (Zin fun b c=>(hs b c).1),fun j d=>(Zio d).elim (a.n j) fun e=> .inr (hs j e).2⟩
theorem ZDw {base wb:Nat} {c:PC} {sl t:Sl} {gr:Bool} {wt:Int} {tks:List Tk} {vs:List Value} (hE:Za9 h8 T L G) (ok:GOK G) (hb:∀ j,T j≠none->j<base/\j≠wb) (W:WkR h8 base wb L c sl gr tks wt t vs) (hn:tks.length<=2000) (ai:∀ tk,tk∈tks->ZOj G.r tk) {K:Zf->Prop}
    (hk:∀ h' T' L' J,ZoL h8 T L wb c sl gr t wt tks.length h' T' L' (Zjt c (G,[]) tks).1 (Zjt c (G,[]) tks).2 J->K h') :
    Yj (σ:=Int × Unit) (fun M s z=>(fun (A:Int)=>Zm (decide (A<(t.len:Int))) (YR t.ptr t.len A 1 fun aj ak=>ldV z aj ak fun t74 =>
 (exG t74 (fun B:Option Addr × Option Addr × Option Addr × Unit=> .func (.func 168) #[] ⟨[.pointer B.1,.pointer B.2.1,.pointer B.2.2.1]⟩) fun B=>Xn B.1 B.2.1 B.2.2.1 (fun y=>M (IntKind.wrap .i64 (A+1),()) y) z)\/(
 (exG t74 (fun h:Option Addr × Option Addr × Option Addr × Option Addr × Option Addr × Unit=> .func (.func 213) #[] ⟨[.pointer h.1,.pointer h.2.1,.pointer h.2.2.1,.pointer h.2.2.2.1,.pointer h.2.2.2.2.1]⟩) fun h=>XN h.1 h.2.1 h.2.2.1 h.2.2.2.1 h.2.2.2.2.1 (fun y=>M (IntKind.wrap .i64 (A+1),()) y) z)\/(
 (exG t74 (fun C:Option Addr × Option Addr × Option Addr × Unit=> .func (.func 216) #[] ⟨[.pointer C.1,.pointer C.2.1,.pointer C.2.2.1]⟩) fun C=>XM C.1 C.2.1 C.2.2.1 (fun y=>M (IntKind.wrap .i64 (A+1),()) y) z)\/(
 (exG t74 (fun k:Option Addr × Option Addr × Option Addr × Option Addr × Option Addr × Unit=> .func (.func 221) #[] ⟨[.pointer k.1,.pointer k.2.1,.pointer k.2.2.1,.pointer k.2.2.2.1,.pointer k.2.2.2.2.1]⟩) fun k=>XL k.1 k.2.1 k.2.2.1 k.2.2.2.1 k.2.2.2.2.1 (fun y=>M (IntKind.wrap .i64 (A+1),()) y) z)\/(
 (exG t74 (fun N:Option Addr × Option Addr × Unit=> .func (.func 174) #[] ⟨[.pointer N.1,.pointer N.2.1]⟩) fun N=>Y4 N.1 N.2.1 (fun y=>M (IntKind.wrap .i64 (A+1),()) y) z)\/False))))) (K z)) s.1) (0,()) h8:=by
  have E:∀ j,T j≠none->j<base:=fun j hj=>(hb j hj).1;have tw:T wb=none:=Classical.byContradiction fun h9=>(hb wb h9).2 rfl;have tl:t.len=tks.length:=by have:=W.o.len;have:=W.l;omega
  refine Zbd (fun (p:Int × Unit) hh=>∃ (m:Nat) (T':TgM) (L':Lay) (X:GS) (pr:List Int) (J:Sl),p=((m:Int),())/\m<=tks.length/\ZoL h8 T L wb c sl gr t wt m hh T' L' X pr J/\GOK X/\X.r=G.r/\Zjt c (X,pr) (tks.drop m)=Zjt c (G,[]) tks) (fun p _=>((tks.length:Int) - p.1).toNat)
    ⟨0,T,L,G,[],nl,rfl,Ayg _,⟨hE,Upd.refl _ _,Zdl.refl T,fun j hj=> .inl hj,W.w,Zp W.w,tw,Own.nil _ _ _,(fun b hb=>by cases hb),LS.refl,Aqo _⟩,ok,rfl,rfl⟩ ?_
  rintro _ hh ⟨m,T',L',X,pr,J,rfl,hm,R,F,hr,D⟩ Q hQ;dsimp only;refine Zn (fun q=>?_) fun q=>?_
  ·have O:m<tks.length:=by omega
   obtain ⟨tk,P⟩:∃ tk,tks[m]?=some tk:=⟨_,Axy O⟩;obtain ⟨v,ag⟩:∃ v,vs[m]?=some v:=⟨_,Axy (by rw [W.l];exact O)⟩
   have row:Row hh t 1 vs:=(W.o.congr fun b aa ao aq=>R.u.old b ao fun e=>by
     rcases e with e | e
     ·have:base<=b:=aq;have:=E b e;omega
     ·exact W.n (by rw [aa,show b=wb from e])).row
   have hd:tks.drop m=tk::tks.drop (m+1):=by
     rw [Ayo O];congr 1;exact (Ayh.1 P).2
   rw [hd] at D;have S:=ai tk (Axo P)
   have next:∀ h' T'' L'' U,ZoL h8 T L wb c sl gr t wt (m+1) h' T'' L'' (Zfp c (X,pr) tk).1 (Zfp c (X,pr) tk).2 U->Q (IntKind.wrap .i64 ((m:Int)+1),()) h':=fun h' T'' L'' U R'=>by
     rw [wrS O (by omega)];exact hQ _ _ ⟨m+1,T'',L'',_,_,U,rfl,O,R',F.run1 (x:=(X,pr)) tk,(ZDJ (x:=(X,pr)) tk).trans hr,D⟩ (by show ((tks.length:Int) - ((m+1:Nat):Int)).toNat<((tks.length:Int) - ((m:Nat):Int)).toNat;omega)
   refine row.idx (i:=(m:Int)) (n:=m) rfl ag fun b o _ hc=>⟨v,hc,?_⟩;have V:=W.e m v tk ag P
   cases tk with
   | hot i x =>
     obtain ⟨a0,a1,a2,aa,e,Y,b1,b2,Z⟩:=V;subst e;exact .inl ⟨(some ⟨a0,0,none⟩,some ⟨a1,0,none⟩,some ⟨a2,0,none⟩,()),rfl,ZGu R E Y b1 b2 Z next⟩
   | warm i past sum =>
     obtain ⟨a,b,d,e,f,p,ev,Y,b1,b2,b3,b4,Z⟩:=V;subst ev;obtain ⟨f9,H,I⟩:=S;exact .inr (.inl ⟨(some ⟨a,0,none⟩,some ⟨b,0,none⟩,some ⟨d,0,none⟩,some ⟨e,0,none⟩,some ⟨f,0,none⟩,()),rfl,ZDI R F E (fun s hs=>(F.sh i f9 s (by rw [hr];exact H) hs).2 (.inl I)) Y b1 b2 b3 b4 Z next⟩)
   | pace i =>
     obtain ⟨a,b,f,p,ev,Y,b1,b4,Z⟩:=V;subst ev;obtain ⟨f9,H,I⟩:=S;exact .inr (.inr (.inl ⟨(some ⟨a,0,none⟩,some ⟨b,0,none⟩,some ⟨f,0,none⟩,()),rfl,ZDK R E (fun s hs=>(F.sh i f9 s (by rw [hr];exact H) hs).1 (.inl I)) Y b1 b4 Z next⟩))
   | wp i past ar =>
     obtain ⟨a,b,d,f,g,p,ev,Y,ae,b1,b2,b4,b5,Z⟩:=V;subst ev;obtain ⟨f9,H,I⟩:=S;exact .inr (.inr (.inr (.inl ⟨(some ⟨a,0,none⟩,some ⟨b,0,none⟩,some ⟨d,0,none⟩,some ⟨f,0,none⟩,some ⟨g,0,none⟩,()),rfl,ZNS R E (fun s hs=>⟨(F.sh i f9 s (by rw [hr];exact H) hs).1 (.inr I),(F.sh i f9 s (by rw [hr];exact H) hs).2 (.inr I)⟩) Y ae b1 b2 b4 b5 Z next⟩)))
   | brk i =>
     obtain ⟨a,b,aa,id,ev,Y,ae,b1,Z⟩:=V;subst ev;exact .inr (.inr (.inr (.inr (.inl ⟨(some ⟨a,0,none⟩,some ⟨b,0,none⟩,()),rfl,ZGv R (by omega) E Y ae b1 Z next⟩))))
  ·have:m=tks.length:=by omega
   subst this;rw [Ayq (Aqo _)] at D;have e:(X,pr)=Zjt c (G,[]) tks:=D;refine hk hh T' L' J ?_;rw [<- e];exact R
end
theorem EnR.put {h h':Zf} {T:TgM} {fm d:Nat} {en:Int->Option Ent} {f:Int->Option Value} {n:Nat} {k:Int} {e:Ent} {s:Sl} (l:EnI h T fm en f n) (hm:ZlA h' fm (upd f k (some (ZHf e.c e.ov s))) d) (u:Upd (· = fm) h h') (hT:T fm=some (.p fm)) (m:Row h' s 1 (e.pr.map iv)) (hs:Rw.inS (roT T) s):EnR h' T fm (upd en k (some e)):=by
  refine ⟨_,d,hm,fun j=>?_⟩
  by_cases q:j=k
  ·subst q
   exact .inr ⟨e,s,ZdR _ _ _,ZdR _ _ _,m,hs⟩
  ·rw [Zh5 en _ q,Zh5 f _ q]
   rcases l.e j with h1 | ⟨a,s',h1,o,h3,g⟩
   ·exact .inl h1
   ·refine .inr ⟨a,s',h1,o,Rw.ZgC h3 g fun b i hl=>u.old b hl fun r=>?_,g⟩
    have a:b=fm:=r;rw [a] at i;rw [show T fm=some .ro from i] at hT;cases hT
section
variable {h:Zf} {T:TgM} {L:Lay} {G:GS} {c:PC} {sl:Sl} {al:List ByteArray} {gr:Bool}
theorem ZyS (S:Za9 h T L G) (ok:GOK G) (hz:Zhs (cl c nl)) (ha:Row h sl 1 (al.map .string)) (ay:∀ b,sl.blk=some b->b<sz h/\T b=none) {K:Int->V4->Int->Zf->Prop}
    (Q:∀ h' T' D,Za9 h' T' D (G.enter c al gr).2->D.eb=L.eb->GrG T T' h h'->K (G.enter c al gr).1.1 (G.enter c al gr).1.2.1 (G.enter c al gr).1.2.2 h'):YF (some ⟨L.eb,0,none⟩) (cl c sl) gr K h:=by
  have aI:Zhs (cl c sl):=⟨hz.a,hz.b,hz.c⟩;unfold YF ZdA;refine ZJ fun h1 c1 e1 z1=>Za (ZJ fun U c2 e2 z2=>Za (Zi rfl (Zg ?_)));have ak:=e1.trans e2;have x2:=Zj c1 e2;have E2:=S.ext ak;have s1:sz h1=sz h+1:=z1;have s2:sz U=sz h1+1:=z2;have Tn:∀ j,sz h<=j->T j=none:=fun j d=>Classical.byContradiction fun i=>by have:=S.hT j i;omega
  refine rI (Zb x2 rfl) (rS (Zb x2 rfl) (rS (Zb x2 rfl) (rS (Zb x2 rfl) (rB (Zb x2 rfl) (rI (Zb x2 rfl) (rL (s:=sl) (Zb x2 rfl) (?_)))))));refine ZDr E2 (c:=c) hz (ha.ext ak) fun h3 C E3 g3=>Za ?_;have s3:sz U<=sz h3:=g3.u.size;have G3:GrG T C h h3:=GrG.pre ak g3
  have I:∀ j,sz h<=j->j<sz U->C j=none:=fun j d hl=>Classical.byContradiction fun i=>by
    rcases g3.n j i with g | g
    ·exact g (Tn j d)
    ·omega
  have x3:obj h3 (sz h)=_:=(g3.old (show sz h<sz U by omega) (Tn _ (Aqo _))).trans x2;have y3:obj h3 (sz h1)=_:=(g3.old (show sz h1<sz U by omega) (Tn _ (by omega))).trans c2;refine ZfO (fun q=>?_) fun q=>?_
  ·rw [if_neg q] at E3
   refine Za (Zbe y3 fun r c4 u4 z4=>Za (rI (Zb c4 rfl) (rI (Zb c4 rfl) (rI (Zb c4 rfl) ?_))));unfold GS.enter at Q;rw [if_pos q] at Q;exact Q r C L (E3.frame u4 fun j d=>by rw [show j=sz h1 from d];exact I _ (by omega) (by omega)) rfl (G3.new u4 fun j d=>by have e':j=sz h1:=d;omega)
  rw [if_pos q] at E3;unfold GS.enter at Q;rw [if_neg (fun i=>i q)] at Q;refine rI (Zb x3 rfl) (Zg (Zbf E3.cells (show 0+18<19 by decide) rfl fun r c4 u4 z4=>Zg ?_));have E4:Za9 r C L (G.mid c):=E3.set (ld:=G.ld) (cp:=G.cp) (op:=G.op) (nx:=G.nx) (la:=c.1) c4 u4;have s4:sz r=sz h3:=z4;have bn:L.eb<sz h:=ZbA S.hT S.eT;have J:∀ j,sz h<=j->¬ j=L.eb:=fun j d=>by omega
  have x4:obj r (sz h)=_:=(u4.old _ (Zp x3) (J _ (Aqo _))).trans x3;have y4:obj r (sz h1)=_:=(u4.old _ (Zp y3) (J _ (by omega))).trans y3;have G4:GrG T C h r:=G3.trans (GrG.one (Y9 E3.eT) u4) S.hT;refine rI (Zb x4 rfl) (rS (Zb x4 rfl) (rS (Zb x4 rfl) (rS (Zb x4 rfl) (rB (Zb x4 rfl) (rI (Zb x4 rfl) (rL (s:=sl) (Zb x4 rfl) (ZJ fun h5 c5 e5 z5=>?_)))))));have x5:=Zj x4 e5;have y5:=Zj y4 e5;have s5:sz h5=sz r+1:=z5;refine ⟨⟨Zb x5 rfl,Zb x5 rfl,Zb x5 rfl,Zb x5 rfl,Zb x5 rfl,Zb x5 rfl,Zb x5 rfl,trivial⟩,?_⟩;have w5:obj h5 (sz r)=some (Zu3 L.eb (cl c sl) gr nl nl 0):=c5;have E5:=E4.ext e5;have az:∀ j,C j≠none->j<sz r:=E4.hT;have hb:∀ j,C j≠none->j<sz r/\j≠sz r:=fun j d=>by have:=az j d;omega
  have bo:Row h5 sl 1 (al.map .string):=by
    have a3:Row h3 sl 1 (al.map .string):=(ha.ext ak).congr fun b o l _ A=>by
      obtain ⟨b1,b2⟩:=ay b (by simp [Sl.blk,l]);exact g3.old (show b<sz U by omega) b2
    exact (a3.congr (h':=r) fun b o l _ A=>u4.old b A fun e=>by
      obtain ⟨b1,b2⟩:=ay b (by simp [Sl.blk,l]);have e':b=L.eb:=e;rw [e',S.eT] at b2
      cases b2).ext e5
  refine ZGO (al:=al) E5 ok.mid hb (by omega) w5 bo (fun b l=>by have:=(ay b l).1;omega) fun h6 x hx u6 hW=>?_;have s6:sz h5<=sz h6:=u6.size;have bp:C (sz r)=none:=Classical.byContradiction fun i=>by have:=az _ i;omega
  have E6:=E5.frame u6 fun j d=>by rw [show j=sz r from d];exact bp
  have x6:obj h6 (sz h)=_:=(u6.old _ (Zp x5) (show ¬ sz h=sz r by omega)).trans x5;have y6:obj h6 (sz h1)=_:=(u6.old _ (Zp y5) (show ¬ sz h1=sz r by omega)).trans y5;have G6:GrG T C h h6:=(G4.then e5).new u6 fun j d=>by have e':j=sz r:=d;omega
  refine ZJ fun h7 c7 e7 z7=>Zbe c7 fun M c8 u8 z8=>Zc ?_;have Y:Ext h6 M:=e7.then u8 fun k Q=>by subst Q;exact Aqo _
  have E8:=E6.ext Y;have x8:=Zj x6 Y;have y8:=Zj y6 Y;have s7:sz h7=sz h6+1:=z7;have s8:sz M=sz h7:=z8;have G8:GrG T C h M:=G6.then Y
  have aN:∀ j,sz h3<=j->C j=none:=fun j d=>Classical.byContradiction fun i=>by have:=az j i;omega
  rw [hx] at Q;obtain ⟨o,tks,wt⟩:=x
  cases o with
  | some ki =>
    obtain ⟨kk,ii⟩:=ki;dsimp only at Q c8;refine Zl rfl (Zg (rP (Zb E8.cells rfl) (rI (Zb x8 rfl) (rS (Zb x8 rfl) (rS (Zb x8 rfl) (rS (Zb x8 rfl) (rB (Zb x8 rfl) (rI (Zb x8 rfl) (rL (s:=sl) (Zb x8 rfl) (?_))))))))));refine Ztu (c:=cl c sl) E8.tree (fun j d=>ZbA E8.hT d) aI fun er i O9 t9 V g9=>Za ?_;have E9:Za9 i (Zh3 C (.p L.tb) (sz M) (sz i)) L ((G.mid c).blocked c):=E8.tree' t9 V g9;have s9:sz M<=sz i:=V.size;have G9:GrG T (Zh3 C (.p L.tb) (sz M) (sz i)) h i:=G8.trans (GrG.tag E8.hT V (fun j d=>Y9 d) (Aqo _)) S.hT
    have N:∀ j,C j=none->¬ inT C L.tb j:=fun j d i=>by
      have Z:C j=some (.p L.tb):=i;rw [d] at Z;cases Z
    have c9:obj i (sz h6)=_:=(V.old _ (Zp c8) (N (sz h6) (aN (sz h6) (show sz h3<=sz h6 by omega)))).trans c8;have y9:obj i (sz h1)=_:=(V.old _ (Zp y8) (N _ (I _ (by omega) (by omega)))).trans y8;refine rI (Zb c9 rfl) (rI (Zb c9 rfl) (rI (Zb c9 rfl) (Zbe y9 fun F W H aO=>Za (rI (Zb W rfl) (rI (Zb W rfl) (rI (Zb W rfl) (Q F _ L (E9.frame H fun j d=>?_) rfl (G9.new H fun j d=>?_))))))))
    ·rw [show j=sz h1 from d]
     unfold Zh3;rw [if_neg (by omega)];exact I _ (by omega) (by omega)
    ·have e':j=sz h1:=d
     omega
  | none =>
  dsimp only at Q c8 hW;obtain ⟨t',cH,W6,hl⟩:=hW rfl;have W8:=W6.ext Y;have bw:∀ j,C j≠none->j<sz h5/\j≠sz r:=fun j d=>by have:=hb j d;omega
  refine Zi rfl (rL (s:=t') (Zb W8.w rfl) ?_);refine ZDw (tks:=tks) E8 ok.mid bw W8 hl (fun tk bx=>?_) fun hh T' D v R=>?_
  ·have:=ZD2 (G:=G.mid c) (c:=c) (al:=al) (gr:=gr) tk (by rw [hx];exact bx)
   exact this
  have aP:GOK (Zjt c (G.mid c,[]) tks).1:=GOK.runs (x:=(G.mid c,[])) ok.mid;generalize Zjt c (G.mid c,[]) tks=y at R Q aP;obtain ⟨G2,pr⟩:=y;dsimp only at R Q aP;have GR:GrG T T' h hh:=G8.run R S.hT (by omega);have sR:sz M<=sz hh:=R.u.size;have aa:∀ {j:Nat} {xx:Obj},obj M j=some xx->C j=none->j≠sz r->obj hh j=some xx:=fun {j xx} aQ h1 U=>(R.u.old j (Zp aQ) fun e=>e.elim (fun e=>e h1) U).trans aQ;have xR:=aa x8 (I _ (Aqo _) (by omega)) (show sz h≠sz r by omega);have yR:=aa y8 (I _ (by omega) (by omega)) (show sz h1≠sz r by omega);have aR:D.eb=L.eb:=R.ls.eb
  have aS:∀ j,sz h<=j->j<sz M->C j=none->T' j=none:=fun j h1 U h3=>Classical.byContradiction fun i=>by
    rcases R.n j i with g | g
    ·exact g h3
    ·omega
  have tx:T' (sz h)=none:=aS _ (Aqo _) (by omega) (I _ (Aqo _) (by omega));have ty:T' (sz h1)=none:=aS _ (by omega) (by omega) (I _ (by omega) (by omega));have ER:=R.E;rw [<- aR] at J bn ⊢;refine Zg (rP (Zb ER.cells rfl) (rI (Zb xR rfl) (rS (Zb xR rfl) (rS (Zb xR rfl) (rS (Zb xR rfl) (rB (Zb xR rfl) (rI (Zb xR rfl) (rL (s:=sl) (Zb xR rfl) (?_)))))))));refine ZvW (c:=cl c sl) ER.tree (fun j d=>ZbA ER.hT d) aI fun er i O9 t9 V g9=>?_;have E9:Za9 i (Zh3 T' (.p D.tb) (sz hh) (sz i)) D { G2 with t:=G2.t.passed (cl c nl)}:=ER.tree' t9 V g9;have s9:sz hh<=sz i:=V.size;have G9:GrG T (Zh3 T' (.p D.tb) (sz hh) (sz i)) h i:=GR.trans (GrG.tag ER.hT V (fun j d=>Y9 d) (Aqo _)) S.hT
  have N:∀ j,T' j=none->¬ inT T' D.tb j:=fun j d i=>by
    have Z:T' j=some (.p D.tb):=i;rw [d] at Z;cases Z
  have ae:∀ j,j<sz hh->T' j=none->Zh3 T' (.p D.tb) (sz hh) (sz i) j=none:=fun j h1 U=>by unfold Zh3;rw [if_neg (by omega)];exact U
  have x9:obj i (sz h)=_:=(V.old _ (Zp xR) (N _ tx)).trans xR;have y9:obj i (sz h1)=_:=(V.old _ (Zp yR) (N _ ty)).trans yR;have w9:obj i (sz r)=_:=(V.old _ (Zp R.w) (N _ R.tw')).trans R.w;have o9:Own i (sz M) v 1 (pr.map iv):=R.o.congr fun b l A _=>V.old b A (N _ (R.ot b l));have p9:∀ b,v.blk=some b->Zh3 T' (.p D.tb) (sz hh) (sz i) b=none/\sz h<=b:=fun b l=>⟨ae b (R.o.lt l).2 (R.ot b l),by have:=(R.o.lt l).1;omega⟩;generalize Zh3 T' (.p D.tb) (sz hh) (sz i)=T9 at E9 G9 ae p9;refine Zbf x9 (show 0+6<7 by decide) rfl fun F W H aO=>Zg ?_;have bB:T9 (sz h)=none:=ae _ (by omega) tx;have af:=E9.frame H fun j d=>by rw [show j=sz h from d];exact bB
  have bC:GrG T T9 h F:=G9.new H fun j d=>by rw [show j=sz h from d];exact Aqo _
  have cM:sz F=sz i:=aO;have aU:obj F (sz h1)=_:=(H.old _ (Zp y9) (show ¬ sz h1=sz h by omega)).trans y9;have aV:obj F (sz r)=_:=(H.old _ (Zp w9) (show ¬ sz r=sz h by omega)).trans w9;have bD:Own F (sz M) v 1 (pr.map iv):=o9.congr fun b l A aA=>H.old b A fun e=>by have e':b=sz h:=e;have:sz M<=b:=aA;omega
  refine rI (Zb af.cells rfl) (Za (Zg (rI (Zb af.cells rfl) (Zg (Zbf af.cells (show 0+17<19 by decide) rfl fun cN aW bE cO=>Zg (rI (Zb aW rfl) (Zg (Zbf aW (show 0+16<19 by decide) rfl fun O bF bG cP=>Zg ?_))))))));have B:Upd (· = D.eb) F O:=bE.trans bG;have aX:=af.set (ld:=G2.ld) (cp:=G2.cp) (op:=IntKind.wrap .i64 (G2.op+1)) (nx:=IntKind.wrap .i64 (G2.nx+1)) (la:=G2.la) bF B;have bH:GrG T T9 h O:=bC.trans (GrG.one (Y9 af.eT) B) S.hT;have P:obj O (sz h)=_:=(B.old _ (Zp W) (J _ (Aqo _))).trans W;have aY:obj O (sz h1)=_:=(B.old _ (Zp aU) (J _ (by omega))).trans aU;have aB:obj O (sz r)=_:=(B.old _ (Zp aV) (J _ (by omega))).trans aV;have aC:Own O (sz M) v 1 (pr.map iv):=bD.congr fun b l A aA=>B.old b A (J _ (by have:sz M<=b:=aA;omega));have hp:=fun b l=>(p9 b l).1;have z:=aX.keep (T':=tagS T9 v) (fun j t _ _=>rfl) (Zin hp) (Aqo _) fun j d=>(Zio d).elim (aX.hT j) fun e=>(aC.lt e).2;have aZ:GrG T (tagS T9 v) h O:=bH.tagS p9;obtain ⟨f,n,hI⟩:=z.ent;have cR:=ZbA S.hT S.fT;refine rM (Zb z.cells rfl) (rI (Zb P rfl) (rS (Zb P rfl) (rS (Zb P rfl) (rS (Zb P rfl) (rB (Zb P rfl) (rI (Zb P rfl) (rL (s:=nl) (Zb P rfl) (rL (s:=v) (Zb aB rfl) ?_))))))));refine hI.m.put G2.nx _ fun aq bI X cS=>Za ?_
  have ba:∀ j,T9 j=none->v.blk≠some j->¬ j=D.fm:=fun j h1 U e=>by
    have:=z.fT;rw [<- e] at this;unfold tagS at this;rw [if_neg U,h1] at this;cases this
  have aD:∀ j,j<sz M->v.blk≠some j:=fun j d e=>by have:=(aC.lt e).1;omega
  have bJ:T9 (sz r)=none:=ae _ (by omega) R.tw';have bb:T9 (sz h1)=none:=ae _ (by omega) ty;have bc:EnR aq (tagS T9 v) D.fm (upd G2.en G2.nx (some ⟨cl c nl,false,pr⟩)):=EnR.put (e:=⟨cl c nl,false,pr⟩) (s:=v) hI bI X z.fT ((aC.congr fun b l A _=>X.old b A fun e=>?_).row) Zp8
  ·have bK:=z.mapped bc X
   have bL:obj aq (sz h1)=_:=(X.old _ (Zp aY) (ba _ bb (aD _ (by omega)))).trans aY;have bM:obj aq (sz r)=_:=(X.old _ (Zp aB) (ba _ bJ (aD _ (by omega)))).trans aB;have bN:GrG T (tagS T9 v) h aq:=aZ.trans (GrG.one (Y9 z.fT) X) S.hT;refine rI (Zb bM rfl) (Zbe bL fun bO aE bd cT=>Za (rI (Zb aE rfl) (rI (Zb aE rfl) (rI (Zb aE rfl) (Q bO _ D (bK.frame bd fun j d=>?_) aR (bN.new bd fun j d=>?_))))))
   ·rw [show j=sz h1 from d]
    unfold tagS;rw [if_neg (aD _ (by omega))];exact bb
   ·have e':j=sz h1:=d
    omega
  ·have e':b=D.fm:=e
   have:=z.fT;rw [<- e'] at this;unfold tagS at this;rw [if_pos l] at this;cases this
end
theorem ZvM {h:Zf} {s:Sl} {l:List Int} {v:Int} (hs:Row h s 1 (l.map iv)) {K:Bool->Zf->Prop} (e:K (decide (v∈l)) h):Y7 s v K h:=by
  unfold Y7 ZaO ZbK ZbQ;have sl:s.len=l.length:=by have:=hs.len;simp at this;omega
  have big:=hs.big;have cap:=hs.cap;refine Za (Zbd (fun (p:Int × Unit) j=>∃ i:Nat,p=((i:Int),())/\i<=l.length/\j=h/\v∉l.take i) (fun p _=>((l.length:Int) - p.1).toNat) ⟨0,rfl,Ayg _,rfl,by simp⟩ ?_);rintro _ j ⟨i,rfl,m,f,a⟩ Q r;subst f;dsimp only;refine Zn (fun q=>?_) fun q=>?_
  ·have hi:i<l.length:=by omega
   have c:l[i]?=some l[i]:=Axy hi;generalize l[i]=x at c;refine Za (hs.idx (i:=(i:Int)) (n:=i) rfl (v:=iv x) (by rw [Awy,c];rfl) fun b o _ t=>⟨x,t,Z5 (fun g=>Za (Zc ?_)) fun g=>?_⟩)
   ·have hm:v∈l:=by rw [g];exact Axo c
    rw [decide_eq_true hm] at e;rwa [show decide ((i:Int)>=0)=true by simp]
   ·rw [Yr (by omega) (by omega)]
    refine r _ _ ⟨i+1,by simp,hi,rfl,fun k=>?_⟩ (by show ((l.length:Int) - ((i:Int)+1)).toNat<((l.length:Int) - ((i:Nat):Int)).toNat;omega);rw [Aym,c] at k
    rcases Axx.1 k with d | d
    ·exact a d
    ·simp at d
     exact g d
  ·have:l.take i=l:=Awd (by omega)
   rw [this] at a;rw [decide_eq_false a] at e;exact Za (Zc e)
section
variable {h:Zf} {T:TgM} {L:Lay} {G:GS}
theorem ZBX (w:Za9 h T L G) (ok:GOK G) {number at_:Int} {failed:Bool} {K:Int->Zf->Prop}
    (d:∀ h' T' y,Za9 h' T' y (G.exit number at_ failed).2->y.eb=L.eb->GrG T T' h h'->K (G.exit number at_ failed).1 h'):ZbJ (some ⟨L.eb,0,none⟩) number at_ failed K h:=by
  unfold ZbJ Zei;obtain ⟨f,n,hI⟩:=w.ent;refine Za (Zi rfl (Zg (rM (Zb w.cells rfl) (hI.m.get number ?_))));unfold GS.exit at d
  rcases hI.e number with ⟨a1,a2⟩ | ⟨e,s,a1,a2,a3,a4⟩
  ·rw [a1] at d
   rw [a2];refine ⟨(0,em,em,em,false,0,nl,false,nl,()),rfl,ZJ fun h1 c1 e1 z1=>Zbe c1 fun C c2 u2 z2=>Zc (Zc (Zl rfl (Za ?_)))⟩;have N:Ext h C:=e1.then u2 fun k d=>by subst d;exact Aqo _
   exact d C T L (w.ext N) rfl (GrG.ext N)
  rw [a1] at d;rw [a2];dsimp only at d;have hz:=ok.en number e a1;refine ⟨(e.c.1,e.c.2.1,e.c.2.2.1,e.c.2.2.2.1,e.c.2.2.2.2.1,e.c.2.2.2.2.2.1,nl,e.ov,s,()),rfl,ZJ fun h1 c1 e1 z1=>Zbe c1 fun C c2 u2 z2=>Zc (Zc (Zi rfl (rB (Zb c2 rfl) (Zc ⟨fun q1=>Za ?_,fun q1=>?_⟩))))⟩
  all_goals have N:Ext h C:=e1.then u2 fun k d=>by subst d;exact Aqo _
  all_goals have Y:=w.ext N
  ·rw [if_pos (show e.ov=true from q1)] at d
   exact d C T L Y rfl (GrG.ext N)
  rw [if_neg (by rw [show e.ov=false from q1];decide)] at d;refine Zn (fun q2=>Za ?_) fun q2=>Zc (Zn (fun q3=>Za ?_) fun q3=>Zg (rI (Zb Y.cells rfl) (Zc (Zn (fun q4=>Za ?_) fun q4=>?_))))
  ·rw [if_pos q2] at d
   exact d C T L Y rfl (GrG.ext N)
  ·rw [if_neg q2,if_pos q3] at d
   exact d C T L Y rfl (GrG.ext N)
  ·rw [if_neg q2,if_neg q3,if_pos q4] at d
   exact d C T L Y rfl (GrG.ext N)
  rw [if_neg q2,if_neg q3,if_neg q4] at d;have bt:L.eb<sz h:=ZbA w.hT w.eT;have bu:L.fm<sz h:=ZbA w.hT w.fT;have Tn:∀ j,sz h<=j->T j=none:=fun j u=>Classical.byContradiction fun J=>by have:=w.hT j J;omega
  have w1:sz h1=sz h+1:=z1;have w2:sz C=sz h1:=z2;refine Zg (Zbf Y.cells (show 0+18<19 by decide) rfl fun h3 c3 u3 z3=>Zg ?_);have E3:=Y.set (ld:=G.ld) (cp:=G.cp) (op:=G.op) (nx:=G.nx) (la:=at_) c3 u3;have G3:GrG T T h h3:=(GrG.ext N).trans (GrG.one (Y9 Y.eT) u3) w.hT;have x3:obj h3 (sz h)=_:=(u3.old (sz h) (Zp c2) (show ¬ sz h=L.eb by omega)).trans c2;obtain ⟨f3,n3,an⟩:=E3.ent;refine rM (Zb E3.cells rfl) (an.m.put number _ fun O m4 u4 z4=>Zg ?_);have aP:EnR O T L.fm (upd G.en number (some ⟨zC,true,[]⟩)):=EnR.put (e:=⟨zC,true,[]⟩) (s:=nl) an m4 u4 E3.fT (Row.nil _ _) fun J=>absurd rfl J;have E4:=E3.mapped aP u4;have G4:=G3.trans (GrG.one (Y9 E3.fT) u4) w.hT;have x4:obj O (sz h)=_:=(u4.old (sz h) (Zp x3) (show ¬ sz h=L.fm by omega)).trans x3;refine rI (Zb E4.cells rfl) (Zg (Zbf E4.cells (show 0+16<19 by decide) rfl fun Z c5 u5 z5=>?_));have E5:=E4.set (ld:=G.ld) (cp:=G.cp) (op:=IntKind.wrap .i64 (G.op - 1)) (nx:=G.nx) (la:=at_) c5 u5;have G5:=G4.trans (GrG.one (Y9 E4.eT) u5) w.hT;have x5:obj Z (sz h)=_:=(u5.old (sz h) (Zp x4) (show ¬ sz h=L.eb by omega)).trans x4;refine rI (Zb x5 rfl) (Za (Zbf x5 (show 0<9 by decide) rfl fun P R u6 z6=>Zg ?_));have E6:=E5.frame u6 fun j u=>by rw [show j=sz h from u];exact Tn _ (Aqo _)
  have G6:=G5.new u6 fun j u=>by rw [show j=sz h from u];exact Aqo _
  refine rP (Zb E6.cells rfl) (rI (Zb R rfl) (rS (Zb R rfl) (rS (Zb R rfl) (rS (Zb R rfl) (rB (Zb R rfl) (rI (Zb R rfl) (rL (s:=nl) (Zb R rfl) ?_)))))));refine ZvX (c:=ZBQ e.c at_) E6.tree (fun j u=>ZbA E6.hT u) ⟨hz.a,hz.b,hz.c⟩ fun E t7 u7=>Zg ?_;have M:Za9 E (Zh3 T (.p L.tb) (sz P) (sz E)) L (G.over number at_ failed e):=E6.tree' t7 u7 ⟨fun j u=> .inl u,fun j u=>u⟩;have G7:=G6.trans (GrG.tag (t:= .p L.tb) (lo:=sz P) (hi:=sz E) E6.hT u7 (fun j u=>Y9 u) (Aqo _)) w.hT
  have x7:obj E (sz h)=_:=(u7.old (sz h) (Zp R) fun J=>by
    have D:T (sz h)=some (.p L.tb):=J
    rw [Tn _ (Aqo _)] at D;cases D).trans R
  have aS:∀ b,T b=some .ro->obj E b=obj h b:=fun b v=>by
    have lb:=ZbA w.hT v;have ar:b≠L.eb:=fun e9=>by rw [e9,w.eT] at v;cases v
    have aT:b≠L.fm:=fun e9=>by rw [e9,w.fT] at v;cases v
    have l2:b<sz C:=by omega
    refine (u7.old b (show b<sz P by have:sz P=sz Z:=z6;have:sz Z=sz O:=z5;have:sz O=sz h3:=z4;have:sz h3=sz C:=z3;omega) fun J=>?_).trans ((u6.old b (show b<sz Z by have:sz Z=sz O:=z5;have:sz O=sz h3:=z4;have:sz h3=sz C:=z3;omega) (show ¬ b=sz h by omega)).trans ((u5.old b (show b<sz O by have:sz O=sz h3:=z4;have:sz h3=sz C:=z3;omega) ar).trans ((u4.old b (show b<sz h3 by have:sz h3=sz C:=z3;omega) aT).trans ((u3.old b l2 ar).trans (ZG N lb)))));have D:T b=some (.p L.tb):=J;rw [v] at D;cases D
  have bF:sz P=sz C:=by have:sz P=sz Z:=z6;have:sz Z=sz O:=z5;have:sz O=sz h3:=z4;have:sz h3=sz C:=z3;omega
  have av:Zh3 T (.p L.tb) (sz P) (sz E) (sz h)=none:=by
    unfold Zh3;rw [if_neg (by omega)];exact Tn _ (Aqo _)
  generalize Zh3 T (.p L.tb) (sz P) (sz E)=T7 at M G7 av;have aw:GOK (G.over number at_ failed e):=ok.over;refine rL (s:=L.z.1) (Zb M.cells rfl) (rL (s:=L.z.2.1) (Zb M.cells rfl) (rL (s:=L.z.2.2.1) (Zb M.cells rfl) (rL (s:=L.z.2.2.2.1) (Zb M.cells rfl) (rL (s:=L.z.2.2.2.2.1) (Zb M.cells rfl) (rS (Zb x7 rfl) ?_)))));refine ZOJ M.rz (fun b ax=>ZbA M.hT ax) aw.good.s fun h8 t8 e8 o8=>?_
  refine ZnQ (KL:=ofK G.r 2 e.c.2.1) (kt:=t8) (body:=fun bH t61 S Q=>Zd t61 fun i=>Ze (some ⟨L.eb,0,none⟩) fun aV aW=>ldL S aV (aW+8+1) fun t64=>YR t64.ptr t64.len i 2 fun ay az=>ldP S ay az fun t67=>ldI S ay (az+1) .i64 fun t68 =>
    newC S [.pointer none,iv 0] 95 fun U aX=>sts aX U 0 [.pointer t67,iv t68] fun V=>ldP V U 0 fun t72=>ldL V (sz h) (0+8) fun t73=>ldI V U (0+1) .i64 fun t74 =>
    Y7 t73 t74 (fun t75 aA=>Zu (Zo aA [(U,0,.pointer t72)]) <| XH t72 at_ (IntKind.wrap .i64 (at_ - e.c.1)) failed t75 (fun t77 aY=>Q aY) aA) V)
    (fun m I=>∃ T' y F,Za9 I T' y F/\GOK F/\F.r=G.r/\y.eb=L.eb/\GrG T7 T' h8 I/\((ofK G.r 2 e.c.2.1).drop m).foldl (Zmw at_ (IntKind.wrap .i64 (at_ - e.c.1)) failed e.pr) F=(ofK G.r 2 e.c.2.1).foldl (Zmw at_ (IntKind.wrap .i64 (at_ - e.c.1)) failed e.pr) (G.over number at_ failed e)/\(∀ b,T b=some .ro->obj I b=obj h b)/\(∀ b,T b=some .ro->T' b=some .ro))
    (by have:=ZBC ok.good.s 2 e.c.2.1;omega) (fun m I ⟨T',y,F,W,_,_,_,g',_⟩=>?_) ⟨T7,L,_,M.ext e8,aw,rfl,rfl,GrG.refl _ _,rfl,fun b v=>?_,fun b v=>G7.s.to v⟩ ?_ ?_
  ·refine (o8.congr (h':=I) fun b ax aZ ba=>g'.old aZ ?_).row
   exact Classical.byContradiction fun J=>by
     have aa:b<sz E:=M.hT b J;have:sz E<=b:=ba;omega
  ·have l7:b<sz E:=by have:=ZbA w.hT v;have:sz P<=sz E:=u7.size;omega
   exact (ZG e8 l7).trans (aS b v)
  ·rintro m k I Q ae ⟨T',y,F,W,af,ag,X,g',q,aB,A⟩ hQ
   obtain ⟨j,fb,u,hf⟩:=ZkG (show k∈ofL (fun f:YS=>Zx f.res) e.c.2.1 G.r.br 0 from Axo ae);rw [Awb] at u;subst u;obtain ⟨B,hB⟩:∃ B,F.br[j]?=some B:=⟨_,Axy (by rw [af.lb,ag];exact Zbw hf)⟩;obtain ⟨p,hL⟩:=W.gb hB;have cE:obj I L.eb=some (geO F y.sb y.tb y.fm y.z y.f1 y.b1 y.h1):=by rw [<- X];exact W.cells
   have xh:obj I (sz h)=_:=(g'.old (show sz h<sz h8 by have:sz E<=sz h8:=e8.size;have:sz P<=sz E:=u7.size;omega) av).trans (Zj x7 e8);obtain ⟨b,o,_,_,aC,hc⟩:=ZbB (g:=fun x:Nat × BkW=>bkL x.1 x.2.2) (n:=2) (fun _=>rfl) W.br.r hL (by decide);refine Za (Zg (rL (s:=y.b1) (Zb cE rfl) (aC rfl (rP (hc 0 _ rfl) (rI (hc 1 _ rfl) (ZJ fun g1 k1 d1 y1=>Zbe k1 fun g2 k2 v2 y2=>rP (Zb k2 rfl) (rL (s:=s) (Zb (Zj xh (d1.then v2 fun k d=>by subst d;exact Aqo _)) rfl) (rI (Zb k2 rfl) (ZvM (l:=e.pr) ?_ ⟨ZZ (Zb k2 rfl),?_⟩)))))))))
   ·have d2:Ext I g2:=d1.then v2 fun k d=>by subst d;exact Aqo _
    refine Rw.ZgC a3 a4 fun b v hl=>(ZG d2 ?_).trans (aB b v);exact ZbA W.hT (A b v)
   have d2:Ext I g2:=d1.then v2 fun k d=>by subst d;exact Aqo _
   have H:=W.ext d2;refine Zv6 (H.br.e j _ hL) (fun j u=>ZbA H.hT u) fun J O9 k9 u9 g9=>?_;have E9:=H.setB (B':=⟨B.1.1.done B.1.2 at_ (IntKind.wrap .i64 (at_ - e.c.1)) failed (decide (B.2∈e.pr)),by rw [Zuk];exact B.1.2⟩) hL k9 u9 g9
   have dk:Zmw at_ (IntKind.wrap .i64 (at_ - e.c.1)) failed e.pr F (j:Int)={ F with br:=F.br.set j (⟨B.1.1.done B.1.2 at_ (IntKind.wrap .i64 (at_ - e.c.1)) failed (decide (B.2∈e.pr)),by rw [Zuk];exact B.1.2⟩,B.2)}:=by
     unfold Zmw;rw [Aqu,hB]
   have hm:=Zbw ae
   have hd:(ofK G.r 2 e.c.2.1).drop m=(j:Int)::(ofK G.r 2 e.c.2.1).drop (m+1):=by
     rw [Ayo hm];congr 1;exact (Ayh.1 ae).2
   rw [hd,Awq,dk] at q;refine hQ J ⟨_,_,_,E9,af.setB,ag,X,(g'.then d2).trans (GrG.tag H.hT u9 (fun j u=>Y9 u) (Aqo _)) (fun j u=>Aqq (M.hT j u) e8.size),q,fun b v=>?_,fun b v=>?_⟩
   ·refine (u9.old b (ZbA H.hT (A b v)) fun D=>?_).trans ((ZG d2 (ZbA W.hT (A b v))).trans (aB b v))
    have aa:T' b=some (.p p):=D;rw [A b v] at aa;cases aa
   ·exact (ZgB H.hT).to (A b v)
  ·rintro I ⟨T',y,F,W,af,ag,X,g',q,_,_⟩
   rw [Ayq (Aqo _)] at q;have e9:F=_:=q;subst e9;exact Za (d I T' y W X ((G7.then e8).trans g' w.hT))
end
end Go.Proofs.YthbfgkphlmlihaaGreat
