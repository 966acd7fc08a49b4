/- The walk over all rules: one flow rule. -/
import Derived.Test.YthbfgkphlmlihaaGreatPa16
set_option linter.unusedVariables false
set_option linter.unusedSimpArgs false
namespace Go.Proofs.YthbfgkphlmlihaaGreat
open Go Go.Fw Go.Js
section
variable {h:Zf} {T:TgM} {L:Lay} {G:GS} {base wb:Nat} {t:Sl} {c:PC} {sl:Sl} {gr:Bool} {tks:List Tk} {wt:Int} {vs:List Value}
theorem ZwR (W:WkR h base wb L c sl gr tks wt t vs) {wait x:Int} {b:Bool} {K:Bool->Zf->Prop} (a:∀ h',WkR h' base wb L c sl gr tks (Zij wt wait) t vs->WS wb t t h h'->K b h'):ZcB (some ⟨wb,0,none⟩) wait b x K h:=by
  unfold ZcB Ze7;refine Zg (rI (Zb W.w rfl) (Zg (Zbg W.w (show 0+11<12 by decide) rfl λh1 c1 d f=>Zd ?_)));obtain ⟨e,s1⟩:=W.wait (wt':=Zij wt wait) c1 d;exact a h1 e s1
theorem ZHo {i:Nat} {f:FlowP} {s:ShS} {p:ShP} (hE:Zba h T L G) (hb:∀ j,T j≠none->j<base/\j≠wb) (W:WkR h base wb L c sl gr tks wt t vs) (hn:tks.length<=3000) (hL:L.fs[i]?=some (p,s)) (aD:ZAC f s) {Q:Bool->Zf->Prop}
    (F:∀ h' t' bH,WkR h' base wb L c sl gr (tks++(Zkr f s (G.t.f (Ztj (Zat (Rw.ZaK f) (cl c nl)))) c i).tk) (wtV wt (Zkr f s (G.t.f (Ztj (Zat (Rw.ZaK f) (cl c nl)))) c i).wt) t' bH->WS wb t t' h h'->Q (!(Zkr f s (G.t.f (Ztj (Zat (Rw.ZaK f) (cl c nl)))) c i).b) h'):Zbu (some ⟨wb,0,none⟩) (Rw.ZaK f) (p.1,p.2,()) Q h:=by
  have lw:=Zp W.w;have lb:=W.b;have M:∀ j,sz h<=j->t.blk≠some j:=λj hj e=>by have:j<sz h:=(W.o.lt e).2;omega
  unfold Zbu ZfB;refine ZI λh1 c1 e1 z1=>ZI λh3 c3 e3 z3=>?_;have w1:sz h1=sz h+1:=z1;have X:=Zj c1 e3;refine rS (Zb X rfl) (rS (Zb X rfl) (rB (Zb X rfl) (rI (Zb X rfl) (rI (Zb X rfl) (rS (Zb X rfl) (rI (Zb X rfl) (rI (Zb X rfl) (rI (Zb X rfl) (rB (Zb X rfl) (rI (Zb X rfl) (rB (Zb X rfl) (?_))))))))))));have aQ:=e1.trans e3;refine ZGW (hE.ext aQ) (W.ext aQ) λcz q aR f16=>?_;generalize G.t.f (Ztj (Zat (Rw.ZaK f) (cl c nl)))=o at F f16;have ae:=aQ.trans aR;refine Zg (rI (Zb (W.ext ae).w rfl) (ZgV f16 λaf bg=>ZI λcB bI bJ z23=>Zbb bI λbK bL bM z24=>Za ?_));have ag:sz h<=sz af:=(ae.trans bg).size;have aS:Ext af bK:=bJ.then bM λk F=>by subst F;exact Aqo _
  have C:=bg.trans aS;have aJ:=ae.trans C;refine Zg (rI (Zb (W.ext aJ).w rfl) (ZtL (f16.ext C) λcC U ah=>ZI λcD bN bO z32=>Zbg bN (show 0<1 by decide) rfl λd bP bQ z33=>Za ?_));have aK:=aJ.trans ah;have D:Ext U d:=bO.then bQ λk F=>by subst F;exact Aqo _
  have ai:=aK.trans D;have V:sz h<=sz U:=aK.size;have aj:sz h<=sz d:=ai.size;have cr:obj d (sz h)=_:=Zj X ((aR.trans C).trans (ah.trans D));have cs:obj d (sz h1)=_:=Zj c3 ((aR.trans C).trans (ah.trans D));have cS:obj d (sz af)=_:=Zj bL (ah.trans D);have cP:obj d (sz U)=_:=bP;refine Zlw (λ(s:Option Addr × Option Addr × Unit) hh=>∃ ab nb,s.1=some ⟨ab,0,none⟩/\s.2.1=some ⟨nb,0,none⟩/\obj hh ab=some (.cells [iv c.1].toArray 3 (0,0))/\obj hh nb=some (.cells [iv c.2.2.2.2.2].toArray 3 (0,0))/\Ext d hh/\sz d<=ab/\sz d<=nb) ?_ ?_
  ·rintro ⟨sa,sn,u⟩ bh ⟨ab,nb,ea,en,ca,cn,B,la,ln⟩
   dsimp only at ea en ⊢;subst ea;subst en;have r:=ai.trans B;have ls:sz h<=sz h1:=e1.size;have Y:sz h<=ab:=Aqp aj la;have Z:sz h<=nb:=Aqp aj ln;have g:=Zj cr (B);have I:=Zj cs (B);have aG:=Zj cS (B);have aa:=Zj cP (B);have f55:=f16.ext (C.trans (ah.trans (D.trans B)));refine rI (Zb g rfl) (Zd (Z5 (λq1=>?_) λq1=>Zd (Z5 (λq2=>?_) λq2=>Zd (Z5 (λq3=>?_) λq3=>?_))))
   ·have bj:f.shape=1:=by have:(f.shape:Int)=1:=q1;omega
    have aT:=hE.ext r;obtain ⟨p1,p2⟩:=p;obtain ⟨s1,s2⟩:=s
    cases s2 with
    | none=>exact absurd rfl (aD.2 (.inl bj))
    | some w =>
    have lk:Zkr f (s1,some w) o c i=⟨!wlV w c.1 (Ziw o c.1) (ZmM o c.1).1 c.2.2.2.2.2,[.warm i (Ziw o c.1) (ZmM o c.1).1],none⟩:=by
      unfold Zkr;rw [if_pos bj]
    have ao:=W.ext r;refine Zg (rL (s:=t) (Zb ao.w rfl) (ZI λy aq a bk=>(Zj4 aq rfl).rd ?_));have l:=r.trans a;have z:=W.ext l;refine ZlD (bx:=0) z (by omega) rfl (λt' O ar u64 au=>?_) rfl;have E:∀ {j:Nat} {x:Obj},obj y j=some x->t.blk≠some j->obj O j=some x:=λ{j x} P hn=>(u64.old j (Zp P) hn).trans P;have av:=E z.w W.n;refine Zg (Zbg av (show 0+9<12 by decide) rfl λN aw R bl=>?_);have A:∀ {j:Nat} {x:Obj},obj y j=some x->sz h<=j->obj N j=some x:=λ{j x} P hj=>(R.old j (Zp (E P (M j hj))) (show ¬ j=wb by omega)).trans (E P (M j hj));have m:∀ {b:Nat} {x:Obj} {o:Nat} {vv:Value},obj y b=some x->ZA o (some x)=some vv->sz h<=b->Bx y base wb t b o vv:=λ{b x o vv} h1 h2 h3=>⟨by rw [h1];exact h2,by omega,Zp h1,by omega,M b h3⟩;obtain ⟨ay,S⟩:=z.add (v:= .func (.func 213) #[] #[pB (sz h1),pB ab,pB (sz U),pB (sz af),pB nb]) (tk:= .warm i (Ziw o c.1) (ZmM o c.1).1) (t':=t') (h':=O) (h'':=N) ⟨sz h1,ab,sz U,sz af,nb,(p1,p2),rfl,m (Zj I a) rfl ls,m (Zj ca a) rfl Y,m (Zj aa a) rfl V,m (Zj aG a) rfl ag,m (Zj cn a) rfl Z,by rw [hL];rfl⟩ ar u64 au aw R;have az:=(hE.ext l).walk hb z S;obtain ⟨aU,ep,cw,_⟩:=(az.fl.e i _ hL).2;have aA:p2=some ⟨aU,0,none⟩:=ep;subst aA;refine rP (Zb (A (Zj I a) ls) rfl) (Zg (rI (Zb (A (Zj ca a) Y) rfl) (rI (Zb (A (Zj aa a) V) rfl) (rI (Zb (A (Zj aG a) ag) rfl) (Zg (rI (Zb (A (Zj cn a) Z) rfl) ?_))))));obtain ⟨er,hs⟩:=Classical.choose_spec (ZuF w c.1 (Ziw o c.1) (ZmM o c.1).1 c.2.2.2.2.2);refine hs cw λbp aB=>Zd (Za (Zd ?_));have fin:=F bp t' _ (by rw [lk];exact ay.ext aB) ((WS.pre l S).then aB);rw [lk] at fin;dsimp only at fin;rw [Bool.not_not] at fin;exact fin
   ·have bq:f.shape=2:=by have:(f.shape:Int)=2:=q2;omega
    have aT:=hE.ext r;obtain ⟨p1,p2⟩:=p;obtain ⟨s1,s2⟩:=s
    cases s1 with
    | none=>exact absurd rfl (aD.1 (.inl bq))
    | some w =>
    have lk:Zkr f (some w,s2) o c i=⟨!(plV w c.1 c.2.2.2.2.2).2.1,[.pace i],some (plV w c.1 c.2.2.2.2.2).1⟩:=by
      unfold Zkr;rw [if_neg (by omega),if_pos bq]
    have ao:=W.ext r;refine Zg (rL (s:=t) (Zb ao.w rfl) (ZI λy aq a bk=>(Zj4 aq rfl).rd ?_));have l:=r.trans a;have z:=W.ext l;refine ZlD (bx:=0) z (by omega) rfl (λt' O ar u64 au=>?_) rfl;have E:∀ {j:Nat} {x:Obj},obj y j=some x->t.blk≠some j->obj O j=some x:=λ{j x} P hn=>(u64.old j (Zp P) hn).trans P;have av:=E z.w W.n;refine Zg (Zbg av (show 0+9<12 by decide) rfl λN aw R bl=>?_);have A:∀ {j:Nat} {x:Obj},obj y j=some x->sz h<=j->obj N j=some x:=λ{j x} P hj=>(R.old j (Zp (E P (M j hj))) (show ¬ j=wb by omega)).trans (E P (M j hj));have m:∀ {b:Nat} {x:Obj} {o:Nat} {vv:Value},obj y b=some x->ZA o (some x)=some vv->sz h<=b->Bx y base wb t b o vv:=λ{b x o vv} h1 h2 h3=>⟨by rw [h1];exact h2,by omega,Zp h1,by omega,M b h3⟩;obtain ⟨ay,S⟩:=z.add (v:= .func (.func 216) #[] #[pB (sz h1),pB ab,pB nb]) (tk:= .pace i) (t':=t') (h':=O) (h'':=N) ⟨sz h1,ab,nb,(p1,p2),rfl,m (Zj I a) rfl ls,m (Zj ca a) rfl Y,m (Zj cn a) rfl Z,by rw [hL];rfl⟩ ar u64 au aw R;have az:=(hE.ext l).walk hb z S;obtain ⟨aU,ep,cw,_⟩:=(az.fl.e i _ hL).1;have aA:p1=some ⟨aU,0,none⟩:=ep;subst aA;refine rP (Zb (A (Zj I a) ls) rfl) (Zg (rI (Zb (A (Zj ca a) Y) rfl) (Zg (rI (Zb (A (Zj cn a) Z) rfl) ?_))));refine Classical.choose_spec (ZuJ w c.1 c.2.2.2.2.2) cw λbp aB=>ZwR (ay.ext aB) λaV aW aX=>Zd ?_;have fin:=F aV t' _ (by rw [lk];exact aW) (((WS.pre l S).then aB).trans aX);rw [lk] at fin;dsimp only at fin;rw [Bool.not_not] at fin;exact fin
   ·have aY:f.shape=3:=by have:(f.shape:Int)=3:=q3;omega
    have aT:=hE.ext r;obtain ⟨p1,p2⟩:=p;obtain ⟨s1,s2⟩:=s
    cases s1 with
    | none=>exact absurd rfl (aD.1 (.inr aY))
    | some w1 =>
    cases s2 with
    | none=>exact absurd rfl (aD.2 (.inr aY))
    | some w2 =>
    obtain ⟨⟨b1,bU,cJ,_⟩,⟨b2,bV,bW,_⟩⟩:=aT.fl.e i _ hL;have bt:p1=some ⟨b1,0,none⟩:=bU;have bu:p2=some ⟨b2,0,none⟩:=bV;subst bt;subst bu
    have lk:Zkr f (some w1,some w2) o c i=⟨!(paV w1 c.1 c.2.2.2.2.2 (Zij (wrV w2 c.1 (Ziw o c.1)) 1)).2.1,[.wp i (Ziw o c.1) (Zij (wrV w2 c.1 (Ziw o c.1)) 1)],some (paV w1 c.1 c.2.2.2.2.2 (Zij (wrV w2 c.1 (Ziw o c.1)) 1)).1⟩:=by
      unfold Zkr;rw [if_neg (by omega),if_neg (by omega),if_pos aY]
    refine rP (Zb I rfl) (Zg (rI (Zb ca rfl) (rI (Zb aa rfl) ?_)));obtain ⟨er,hs⟩:=Classical.choose_spec (ZuE w2 c.1 (Ziw o c.1));refine hs bW λK d1=>ZI λg2 k2 d2 y2=>Zbg k2 (show 0<1 by decide) rfl λg3 k3 v3 y3=>Za (rI (Zb k3 rfl) (Zbg k3 (show 0<1 by decide) rfl λg4 k4 v4 y4=>?_));have d14:Ext K g4:=d2.then (v3.trans v4) λk F=>by subst F;exact Aqo _
    have dg:Ext bh g4:=d1.trans d14;have bz:sz h<=sz K:=(r.trans d1).size;have cq:=r;replace r:=r.trans dg;replace I:=Zj I dg;replace aa:=Zj aa dg;replace ca:=Zj ca dg;replace cn:=Zj cn dg;have ao:=W.ext r;refine Zg (rL (s:=t) (Zb ao.w rfl) (ZI λy aq a bk=>(Zj4 aq rfl).rd ?_));have l:=r.trans a;have z:=W.ext l;refine ZlD (bx:=0) z (by omega) rfl (λt' O ar u64 au=>?_) rfl;have E:∀ {j:Nat} {x:Obj},obj y j=some x->t.blk≠some j->obj O j=some x:=λ{j x} P hn=>(u64.old j (Zp P) hn).trans P;have av:=E z.w W.n;refine Zg (Zbg av (show 0+9<12 by decide) rfl λN aw R bl=>?_);have A:∀ {j:Nat} {x:Obj},obj y j=some x->sz h<=j->obj N j=some x:=λ{j x} P hj=>(R.old j (Zp (E P (M j hj))) (show ¬ j=wb by omega)).trans (E P (M j hj));have m:∀ {b:Nat} {x:Obj} {o:Nat} {vv:Value},obj y b=some x->ZA o (some x)=some vv->sz h<=b->Bx y base wb t b o vv:=λ{b x o vv} h1 h2 h3=>⟨by rw [h1];exact h2,by omega,Zp h1,by omega,M b h3⟩;obtain ⟨ay,S⟩:=z.add (v:= .func (.func 221) #[] #[pB (sz h1),pB ab,pB (sz U),pB nb,pB (sz K)]) (tk:= .wp i (Ziw o c.1) (Zij (wrV w2 c.1 (Ziw o c.1)) 1)) (t':=t') (h':=O) (h'':=N) ⟨sz h1,ab,sz U,nb,sz K,(some ⟨b1,0,none⟩,some ⟨b2,0,none⟩),rfl,m (Zj I a) rfl ls,m (Zj I a) rfl ls,m (Zj ca a) rfl Y,m (Zj aa a) rfl V,m (Zj cn a) rfl Z,m (Zj k4 a) rfl bz,by rw [hL];rfl⟩ ar u64 au aw R;have az:=(hE.ext l).walk hb z S;obtain ⟨b9,ep,cw,_⟩:=(az.fl.e i _ hL).1
    have aA:b1=b9:=by
      have:(some ⟨b1,0,none⟩:Option Addr)=some ⟨b9,0,none⟩:=ep;injection this with this;injection this
    subst aA;have bA:=A (Zj ca a) Y;have bB:=A (Zj cn a) Z;have bC:=A (Zj k4 a) bz;refine rP (Zb (A (Zj I a) ls) rfl) (Zg (rI (Zb bA rfl) (Zg (rI (Zb bB rfl) (rI (Zb bC rfl) (Zv9 cw λg5 k5 d5 y5=>?_))))));refine ⟨ZZ (Zb (Zj bC d5) rfl),ZZ (Zb (Zj bB d5) rfl),ZZ (Zb (Zj bA d5) rfl),?_⟩;obtain ⟨pn,bX⟩:=Classical.choose_spec (ZuK w1 c.1 c.2.2.2.2.2 (Zij (wrV w2 c.1 (Ziw o c.1)) 1));refine bX k5 λg6 k6 v6=>?_;have d6:Ext N g6:=d5.then v6 λk F=>by subst F;exact Aqo _
    refine ZwR (ay.ext d6) λaV aW aX=>Zd ?_;have fin:=F aV t' _ (by rw [lk];exact aW) (((WS.pre l S).then d6).trans aX);rw [lk] at fin;dsimp only at fin;rw [Bool.not_not] at fin;exact fin
   ·have n1:¬ f.shape=1:=λe=>q1 (by show (f.shape:Int)=1;omega)
    have n2:¬ f.shape=2:=λe=>q2 (by show (f.shape:Int)=2;omega);have n3:¬ f.shape=3:=λe=>q3 (by show (f.shape:Int)=3;omega)
    have lk:Zkr f s o c i=⟨!Zl1 (Rw.ZaK f) (ZmM o c.1).1 (oFl o) c.2.2.2.2.2,[],none⟩:=by
      unfold Zkr;rw [if_neg n1,if_neg n2,if_neg n3]
    have bY:Zo bh [(sz h,0,.string (Zx f.res)),(sz h,0+1,.string (Zx f.org)),(sz h,0+2,.bool f.thr),(sz h,0+3,iv f.cnt),(sz h,0+4,.int .u8 f.strat),(sz h,0+5,.string (Zx f.ref)),(sz h,0+6,.int .u8 f.shape),(sz h,0+7,iv f.warm),(sz h,0+8,iv f.queue),(sz h,0+9,.bool f.clu),(sz h,0+10,iv f.id),(sz h,0+11,.bool f.fb)] :=
      ⟨Zb g rfl,Zb g rfl,Zb g rfl,Zb g rfl,Zb g rfl,Zb g rfl,Zb g rfl,Zb g rfl,Zb g rfl,Zb g rfl,Zb g rfl,Zb g rfl,trivial⟩
    refine rS (Zb g rfl) (rS (Zb g rfl) (rB (Zb g rfl) (rI (Zb g rfl) (rI (Zb g rfl) (rS (Zb g rfl) (rI (Zb g rfl) (rI (Zb g rfl) (rI (Zb g rfl) (rB (Zb g rfl) (rI (Zb g rfl) (rB (Zb g rfl) (rI (Zb aG rfl) (Zg (rI (Zb cn rfl) (Zj0 f55 ⟨ZZ (Zb cn rfl),ZZ (Zb aG rfl),bY,ZBq λh9 e9=>Zd ?_⟩)))))))))))))));have fin:=F h9 t vs (by rw [lk,Ayt];exact W.ext (r.trans e9)) (WS.ext (r.trans e9));rw [lk] at fin;dsimp only at fin;rw [Bool.not_not] at fin;exact fin
  ·intro J hJ
   have aH:=W.ext ai;have H:∀ hh,Ext d hh->Zo hh [(wb,0+1+5,iv c.2.2.2.2.2)]/\Zo hh [(wb,0+1,iv c.1)]:=λhh e=>⟨ZZ (Zb (aH.ext e).w rfl),ZZ (Zb (aH.ext e).w rfl)⟩;refine Zg (Zg (rI (Zb aH.w rfl) (rI (Zb aH.w rfl) ⟨ZI λK k1 d1 y1=>?_,ZI λK k1 d1 y1=>?_⟩)))
   ·have w9:sz K=sz d+1:=y1
    obtain ⟨a1,a2⟩:=H K d1;refine ⟨a1,a2,ZI λg2 k2 d2 y2=>?_⟩;have d12:=d1.trans d2;obtain ⟨a1,a2⟩:=H g2 d12;refine ⟨a1,a2,Zbg (Zj k1 d2) (show 0<1 by decide) rfl λg3 k3 v3 y3=>?_⟩;have d13:Ext d g3:=d12.then v3 λk F=>by subst F;exact Aqo _
    obtain ⟨a1,a2⟩:=H g3 d13;have cb:obj g3 (sz K)=_:=(v3.old (sz K) (Zp k2) (show ¬ sz K=sz d by omega)).trans k2;refine ⟨a1,Zbg cb (show 0<1 by decide) rfl λg4 k4 v4 y4=>hJ _ _ ⟨sz d,sz K,rfl,rfl,?_,k4,d13.then v4 (λk F=>by subst F;show sz d<=sz K;omega),Aqo _,by omega⟩⟩;exact (v4.old (sz d) (Zp k3) (show ¬ sz d=sz K by omega)).trans k3
   ·have w9:sz K=sz d+1:=y1
    obtain ⟨a1,a2⟩:=H K d1;refine ⟨a1,a2,ZI λg2 k2 d2 y2=>?_⟩;have d12:=d1.trans d2;obtain ⟨a1,a2⟩:=H g2 d12;refine ⟨a1,a2,Zbg k2 (show 0<1 by decide) rfl λg3 k3 v3 y3=>?_⟩;have d13:Ext d g3:=d12.then v3 λk F=>by subst F;show sz d<=sz K;omega
    obtain ⟨a1,a2⟩:=H g3 d13;have cc:obj g3 (sz d)=_:=(v3.old (sz d) (Zp (Zj k1 d2)) (show ¬ sz d=sz K by omega)).trans (Zj k1 d2);refine ⟨a1,Zbg cc (show 0<1 by decide) rfl λg4 k4 v4 y4=>hJ _ _ ⟨sz K,sz d,rfl,rfl,?_,k4,d13.then v4 (λk F=>by subst F;exact Aqo _),by omega,Aqo _⟩⟩;exact (v4.old (sz K) (Zp k3) (show ¬ sz K=sz d by omega)).trans k3
end
theorem ZnF {cb:Nat->Bool} {c:C8}:∀ {l:List FlowP} {i:Nat} {k:Int},k∈Zf1 cb c l i->∃ j a,k=((i+j:Nat):Int)/\l[j]?=some a
  | [],i,k,h=>by cases h
  | a::l,i,k,h=>by
    have e:Zf1 cb c (a::l) i=if Yp (Zx a.res) c.2.1=true/\cb i=true/\(Zat (Rw.ZaK a) c).2.2.2.1=false then (i:Int)::Zf1 cb c l (i+1) else Zf1 cb c l (i+1):=rfl
    rw [e] at h;split at h
    ·rcases Awr.1 h with h | h
     ·exact ⟨0,a,h,rfl⟩
     ·obtain ⟨j,b,h1,d⟩:=ZnF h
      exact ⟨j+1,b,by rw [h1];congr 1;omega,by simpa using d⟩
    ·obtain ⟨j,b,h1,d⟩:=ZnF h
     exact ⟨j+1,b,by rw [h1];congr 1;omega,by simpa using d⟩
theorem Zuf {cb:Nat->Bool} {c:C8}:∀ {l:List FlowP} {i:Nat},(Zf1 cb c l i).length<=l.length
  | [],i=>Aqo _
  | a::l,i=>by
    have e:Zf1 cb c (a::l) i=if Yp (Zx a.res) c.2.1=true/\cb i=true/\(Zat (Rw.ZaK a) c).2.2.2.1=false then (i:Int)::Zf1 cb c l (i+1) else Zf1 cb c l (i+1):=rfl
    rw [e];have:=Zuf (cb:=cb) (c:=c) (l:=l) (i:=i+1);split
    ·simp only [Aqj];omega
    ·simp only [Aqj];omega
theorem Zug {cb:Nat->Bool} {c:PC} {s s':Sl}:∀ {l:List FlowP} {i:Nat},Zf1 cb (cl c s) l i=Zf1 cb (cl c s') l i
  | [],_=>rfl
  | a::l,i=>by
    show (if Yp (Zx a.res) c.2.1=true/\cb i=true/\(Zat (Rw.ZaK a) (cl c s)).2.2.2.1=false then (i:Int)::Zf1 cb (cl c s) l (i+1) else Zf1 cb (cl c s) l (i+1))=(if Yp (Zx a.res) c.2.1=true/\cb i=true/\(Zat (Rw.ZaK a) (cl c s)).2.2.2.1=false then (i:Int)::Zf1 cb (cl c s') l (i+1) else Zf1 cb (cl c s') l (i+1));rw [Zug]
theorem ZAS {A:List FlowP} {c:PC} {s s':Sl}:ZmN A (cl c s)=ZmN A (cl c s'):=by
  unfold ZmN;rw [show cbK A (cl c s)=cbK A (cl c s') from rfl];exact Zug
abbrev ZHw (wb:Nat) (K:Int->Bool->Zf->Prop):Int->Int->Zf->(Zf->Prop)->Prop:=λw t20 b Q=>  Zc t20 λi=>Ze (some ⟨wb,0,none⟩) λp q=>ldP b p q λt23=>Ze t23 λr s=>ldL b r (s+3) λt26=>YS t26.ptr t26.len i 12 λd e=>ldS b d e λt29=>ldS b d (e+1) λt30=>ldB b d (e+2) λt31=>ldI b d (e+3) .i64 λt32=>ldI b d (e+4) .u8 λt33=>ldS b d (e+5) λt34=>ldI b d (e+6) .u8 λt35=>ldI b d (e+7) .i64 λt36=>ldI b d (e+8) .i64 λt37=>ldB b d (e+9) λt38=>ldI b d (e+10) .i64 λt39=>ldB b d (e+11) λt40=>newC b [.string (ByteArray.mk #[]),.string (ByteArray.mk #[]),.bool false,iv 0,.int .u8 0,.string (ByteArray.mk #[]),.int .u8 0,iv 0,iv 0,.bool false,iv 0,.bool false] 32 λc t=>sts t c 0 [.string t29,.string t30,.bool t31,iv t32,.int .u8 t33,.string t34,.int .u8 t35,iv t36,iv t37,.bool t38,iv t39,.bool t40] λf=>Zfo (σ:=Unit) (λx a=>Ze (some ⟨wb,0,none⟩) λh j=>ldS a c 0 λt54=>ldS a c (0+1) λt55=>ldB a c (0+2) λt56=>ldI a c (0+3) .i64 λt57=>ldI a c (0+4) .u8 λt58=>ldS a c (0+5) λt59=>ldI a c (0+6) .u8 λt60=>ldI a c (0+7) .i64 λt61=>ldI a c (0+8) .i64 λt62=>ldB a c (0+9) λt63=>ldI a c (0+10) .i64 λt64=>ldB a c (0+11) λt65=>ldP a h j λt66=>Ze t66 λk l=>ldL a k (l+8) λt69=>YS t69.ptr t69.len i 2 λm n=>ldP a m n λt72=>ldP a m (n+1) λt73=>Zbu (some ⟨wb,0,none⟩) (t54,t55,t56,t57,t58,t59,t60,t61,t62,t63,t64,t65,()) (t72,t73,()) (λt74 g=>Zu (Zo g [(k,l+8,.slice t69.ptr t69.len t69.cap)]) <| Zu (Zo g [(h,j,.pointer t66)]) <| Zm (!t74) ( Zc i λt76=>K t76 true g) ( Q g)) a) (λo=>ldB f c (0+9) λt45=>Zm t45 ( Ze (some ⟨wb,0,none⟩) λu v=>ldB f u (v+8) λt48=>Zm t48 ( Q f) ( ldB f c (0+11) λt49=>Zm (!t49) ( Q f) ( o (()) f))) ( o (()) f))
section
variable {h:Zf} {T:TgM} {L:Lay} {G:GS} {base wb:Nat} {t:Sl} {c:PC} {sl:Sl} {gr:Bool} {tks:List Tk} {wt:Int} {vs:List Value}
theorem ZA6 {m:Int} {j:Nat} {f:FlowP} (E:Zba h T L G) (ok:GOK G) (O:∀ j,T j≠none->j<base/\j≠wb) (W:WkR h base wb L c sl gr tks wt t vs) (X:tks.length<=3000) (F:G.r.fl[j]?=some f) {K:Int->Bool->Zf->Prop} {Q:Zf->Prop}
    (v:∀ h' t' o,WkR h' base wb L c sl gr (tks++(Zfn G c gr (j:Int)).tk) (wtV wt (Zfn G c gr (j:Int)).wt) t' o->WS wb t t' h h'->if (Zfn G c gr (j:Int)).b=true then K (j:Int) true h' else Q h'):ZHw wb K m (j:Int) h Q:=by
  obtain ⟨s,hs⟩:∃ s,G.fl[j]?=some s:=⟨_,Axy (by rw [ok.lf];exact Zbz F)⟩;obtain ⟨p,P⟩:=E.gf hs
  have Y:Zfn G c gr (j:Int)=if f.clu=true/\(gr=true\/f.fb=false) then ⟨false,[],none⟩ else Zkr f s (G.t.f (Ztj (Zat (Rw.ZaK f) (cl c nl)))) c j:=by
    unfold Zfn;rw [Aqu,F,hs]
  rw [Y] at v;obtain ⟨bb,oo,_,_,A,d⟩:=ZbD Zgc E.rz.fl.1 F (by decide);refine Za (Zg (rP (Zb W.w rfl) (Zg (rL (s:=L.z.1) (Zb E.cells rfl) (A rfl (rS (d 0 _ rfl) (rS (d 1 _ rfl) (rB (d 2 _ rfl) (rI (d 3 _ rfl) (rI (d 4 _ rfl) (rS (d 5 _ rfl) (rI (d 6 _ rfl) (rI (d 7 _ rfl) (rI (d 8 _ rfl) (rB (d 9 _ rfl) (rI (d 10 _ rfl) (rB (d 11 _ rfl) (ZI λh1 c1 Z z1=>Zbb c1 λy a u2 z2=>?_))))))))))))))))));have e:Ext h y:=Z.then u2 λk v=>by subst v;exact Aqo _
  have B:=W.ext e;have H:=E.ext e;refine Zlw (λ(_:Unit) hh=>hh=y/\¬ (f.clu=true/\(gr=true\/f.fb=false))) ?_ ?_
  ·rintro _ h3 ⟨l,I⟩
   subst l;rw [if_neg I] at v;obtain ⟨b2,o2,_,af,u,C⟩:=ZbD (g:=λx:ShP × ShS=>shL x.1) (n:=2) (λ_=>rfl) H.fl.r P (by decide);refine Zg (rS (Zb a rfl) (rS (Zb a rfl) (rB (Zb a rfl) (rI (Zb a rfl) (rI (Zb a rfl) (rS (Zb a rfl) (rI (Zb a rfl) (rI (Zb a rfl) (rI (Zb a rfl) (rB (Zb a rfl) (rI (Zb a rfl) (rB (Zb a rfl) (rP (Zb B.w rfl) (Zg (rL (s:=L.f1) (Zb H.cells rfl) (u rfl (rP (C 0 _ rfl) (rP (C 1 _ rfl) ?_))))))))))))))))));refine ZHo (f:=f) (s:=s) (p:=p) (i:=j) H O B X P (ok.sh j f s F hs) λh4 t' o R s4=>?_;have E4:=H.walk O B s4;have fin:=v h4 t' o R (WS.pre e s4);refine ⟨ZZ (Zb E4.cells rfl),ZZ (Zb R.w rfl),⟨λq=>Za ?_,λq=>?_⟩⟩
   ·rw [Bool.not_not] at q
    rwa [if_pos q] at fin
   ·rw [Bool.not_not] at q
    rwa [if_neg (by rw [q];decide)] at fin
  ·intro J S
   have skip:(f.clu=true/\(gr=true\/f.fb=false))->Q y:=λU=>by
     have fin:=v y t vs (by rw [if_pos U,Ayt];exact B) (WS.ext e);rw [if_pos U] at fin;exact fin
   have V:∀ {b:Bool},b=false->¬ b=true:=λl D=>by rw [l] at D;cases D
   refine rB (Zb a rfl) ⟨λq=>Zg (rB (Zb B.w rfl) ⟨λM=>skip ⟨q,.inl M⟩,λM=>rB (Zb a rfl) ⟨λN=>skip ⟨q,.inr ?_⟩,λN=>S () y ⟨rfl,λl=>?_⟩⟩⟩),λq=>S () y ⟨rfl,λl=>V q l.1⟩⟩
   ·have l:(!f.fb)=true:=N
    simpa using l
   ·have D:(!f.fb)=false:=N
    rcases l.2 with g | g
    ·exact V M g
    ·rw [g] at D;cases D
theorem ZEJ (n:Zba h T L G) (ok:GOK G) (u:∀ j,T j≠none->j<base/\j≠wb) (W:WkR h base wb L c sl gr tks wt t vs) (C:tks.length<=2000)
    {K:Int->Bool->Zf->Prop} (v:∀ h' t' a x,Zfp (Zfn G c gr) (ZmN G.r.fl (cl c nl)) (tks,wt)=x->WkR h' base wb L c sl gr x.2.1 x.2.2 t' a->WS wb t t' h h'->x.2.1.length<=tks.length+256->K (x.1.getD 0) x.1.isSome h'):Za3 (some ⟨wb,0,none⟩) K h:=by
  unfold Za3 Ze9;have lw:=Zp W.w;refine Za (Zg (Zg (rP (Zb W.w rfl) (Zg (rL (s:=L.z.1) (Zb n.cells rfl) (rI (Zb W.w rfl) (rS (Zb W.w rfl) (rS (Zb W.w rfl) (rS (Zb W.w rfl) (rB (Zb W.w rfl) (rI (Zb W.w rfl) (rL (s:=sl) (Zb W.w rfl) ?_))))))))))));refine ZHD ok.good.s.f (c:=cl c sl) n.rz.fl.1 λF kt d e=>⟨ZZ (Zb (W.ext d).w rfl),?_⟩;rw [ZAS (s':=nl)] at e;refine ZtT (h0:=h) (f:=Zfn G c gr) (KL:=ZmN G.r.fl (cl c nl)) (X:=λi h'=>K i true h') (body:=ZHw wb K) (n.ext d) u (W.ext d) (Aqp Zuf ok.good.s.f) C e lw (λb p=>(W.o.lt p).2) ?_ (λk=>?_) ?_ ?_
  ·intro m k H A wt' t' a Q q D g s hl l
   obtain ⟨j,f,B,E⟩:=ZnF (show k∈Zf1 _ _ G.r.fl 0 from Axo q);rw [Awb] at B;subst B;exact ZA6 D ok u g hl E l
  ·unfold Zfn
   split
   ·split
    ·exact Ayg _
    ·unfold Zkr
     split
     ·split
      ·exact Aqo _
      ·exact Ayg _
     ·split
      ·split
       ·exact Aqo _
       ·exact Ayg _
      ·split
       ·split
        ·exact Aqo _
        ·exact Ayg _
       ·exact Ayg _
   ·exact Ayg _
  ·intro k h' t' a y hw g s hl
   exact v h' t' a (some k,y) hw g (WS.pre d s) hl
  ·intro h' t' a y hw g s hl
   exact Za (v h' t' a (none,y) hw g (WS.pre d s) hl)
end
abbrev fn0 (f:Nat):Value:= .func (.func f) #[] #[]
def ZNS:Option (Int × Int)->V4
  | some (k,i)=>(k,i,0,())
  | none=>(0,0,0,())
section
variable {h:Zf} {T:TgM} {L:Lay} {G:GS} {base wb:Nat} {c:PC} {sl:Sl} {gr:Bool}
theorem ZGZ {al:List ByteArray} (hE:Zba h T L G) (ok:GOK G) (hb:∀ j,T j≠none->j<base/\j≠wb) (aR:base<=sz h) (hw:obj h wb=some (Zva L.eb (cl c sl) gr nl nl 0)) (ha:Row h sl 1 (al.map .string)) (ah:∀ b,sl.blk=some b->b<base/\b≠wb) {K:V4->Bool->Zf->Prop}
    (I:∀ h' x,ZnK G c al gr=x->Upd (· = wb) h h'->(x.1=none->∃ t' R,WkR h' (sz h) wb L c sl gr x.2.1 x.2.2 t' R/\x.2.1.length<=2000)->K (ZNS x.1) x.1.isSome h'):Zbs (some ⟨wb,0,none⟩) K h:=by
  unfold Zbs Zfz;have lw:=Zp hw;refine ZI λh1 c1 e1 z1=>⟨rfl,rfl,rfl,rfl,rfl,ZI λh2 c2 e2 z2=>Zbb c2 λh3 U u3 z3=>?_⟩;refine rI (Zb U rfl) (rV (Zb U rfl) (rI (Zb U rfl) (rV (Zb U rfl) (rI (Zb U rfl) (rV (Zb U rfl) (rI (Zb U rfl) (rV (Zb U rfl) (rI (Zb U rfl) (rV (Zb U rfl) ?_)))))))));have ai:Ext h1 h3:=e2.then u3 λk I=>by subst I;exact Aqo _
  have X:=e1.trans ai;have w1:sz h1=sz h+1:=z1;have az:sz h1<=sz h3:=ai.size;have b3:=Zj c1 ai;have N:∀ j,T j≠none->j<sz h1/\j≠wb:=λj hj=>⟨by have:=(hb j hj).1;omega,(hb j hj).2⟩;have au:∀ b,sl.blk=some b->b<sz h1/\b≠wb:=λb S=>⟨by have:=(ah b S).1;omega,(ah b S).2⟩;have W3:WkR h3 (sz h1) wb L c sl gr [] 0 nl []:=⟨Zj hw X,Own.nil _ _ _,rfl,(λi v tk h1 _=>by cases h1),az,λe=>by cases e⟩;have E3:=hE.ext X;refine Zbf (λp A=>∃ (j:Nat) (tks:List Tk) (wt:Int) (t':Sl) (R:List Value),p=((j:Int),())/\j<=5/\WkR A (sz h1) wb L c sl gr tks wt t' R/\WS wb nl t' h3 A/\tks.length<=256*j/\ZnK G c al gr=Zlo (stg G c al gr) (5 - j) j (tks,wt)) (λp _=>(5 - p.1).toNat) ⟨0,[],0,nl,[],rfl,by decide,W3,WS.refl,Aqo _,rfl⟩ ?_;rintro _ A ⟨j,tks,wt,t',R,rfl,hj,O,s',hl,hw⟩ Q hQ;dsimp only;have ba:sz h3<=sz A:=s'.u.size;have bh:obj A (sz h)=some (.cells [.int .u8 0,iv 0,iv 0].toArray 42 (0,0)):=(s'.u.old (sz h) (Zp b3) λe=>e.elim (λe=>by omega) λe=>by cases e).trans b3;have Eh:=E3.walk N W3 s'
  have aB:Row A sl 1 (al.map .string):=(ha.ext X).congr λb o S _ aj=>s'.u.old b aj λe=>by
    rcases e with e | e
    ·exact (ah b (by simp [Sl.blk,S])).2 e
    ·cases e
  have tn:∀ {D:Zf} {tk:List Tk} {w:Int} {t:Sl} {v:List Value},WkR D (sz h1) wb L c sl gr tk w t v->t.blk≠some (sz h):=λW e=>by have:sz h1<=sz h:=(W.o.lt e).1;omega
  have old:∀ {D:Zf} {t:Sl},WS wb nl t h3 D->Upd (· = wb) h D:=λs=>(X.upd _).trans (s.u.mono λj _ hj=>hj.elim id λe=>by cases e)
  have fin:∀ (v:V4) (z:Zf),obj z (sz h)=some (.cells [.int .u8 0,iv 0,iv 0].toArray 42 (0,0))->∀ (f:Bool),(∀ J,Upd (· = sz h) z J->K (v.1,v.2.1,v.2.2.1,()) f J)->sts z (sz h) 0 [.int .u8 v.1,iv v.2.1,iv v.2.2.1] λE=>ldI E (sz h) 0 .u8 λt30=>ldI E (sz h) (0+1) .i64 λt31=>ldI E (sz h) (0+2) .i64 λt32=>K (t30,t31,t32,()) f E:=λv z b6 f hK =>
    Zbb b6 λJ c7 V z7=>rI (Zb c7 rfl) (rI (Zb c7 rfl) (rI (Zb c7 rfl) (hK J V)))
  have ag:∀ {z J:Zf},Upd (· = wb) h z->Upd (· = sz h) z J->Upd (· = wb) h J:=λ{z J} a b=>Znc a b λk I e=>by have e':k=sz h:=e;have bf:k<sz h:=I;omega
  have step:∀ (jj:Nat) (ax:Value) (ak:Nat) (z:Zf) (x:Option Int × List Tk × Int) (r:Sl) (m:List Value),j=jj->jj<5->stg G c al gr jj (tks,wt)=x->WkR z (sz h1) wb L c sl gr x.2.1 x.2.2 r m->WS wb t' r A z->x.2.1.length<=tks.length+256->obj z ak=some (.cells [.int .u8 ((jj+1:Nat):Int),ax].toArray 227 (0,0)) ->
      Zm x.1.isSome (ldI z ak 0 .u8 λt28=>sts z (sz h) 0 [.int .u8 t28,iv (x.1.getD 0),iv 0] λE=>ldI E (sz h) 0 .u8 λt30=>ldI E (sz h) (0+1) .i64 λt31=>ldI E (sz h) (0+2) .i64 λt32=>K (t30,t31,t32,()) true E) (Q (IntKind.wrap .i64 ((j:Int)+1),()) z):=by
    intro jj ax ak z x r m aE aF aG P F C aH;subst aE
    have an:Zlo (stg G c al gr) (5 - j) j (tks,wt)=match (stg G c al gr j (tks,wt)).1 with
      | some i=>(some (((j+1:Nat):Int),i),(stg G c al gr j (tks,wt)).2)
      | none=>Zlo (stg G c al gr) (5 - (j+1)) (j+1) (stg G c al gr j (tks,wt)).2:=by
      rw [show 5 - j=(5 - (j+1))+1 by omega];rfl
    rw [an,aG] at hw;have b6:obj z (sz h)=some (.cells [.int .u8 0,iv 0,iv 0].toArray 42 (0,0)):=(F.u.old (sz h) (Zp bh) λe=>e.elim (λe=>by omega) (tn O)).trans bh;have ss:=s'.trans F;obtain ⟨o,y⟩:=x
    cases o with
    | some i =>
      dsimp only at hw C P;refine Zl rfl (rI (Zb aH rfl) (fin (((j+1:Nat):Int),i,0,()) z b6 true λJ V=>?_));exact I J _ hw (ag (old ss) V) λe=>by cases e
    | none =>
      dsimp only at hw C P;refine Zi rfl ?_;rw [Yr (by omega) (by omega)];exact hQ _ _ ⟨j+1,y.1,y.2,r,m,by simp,aF,P,ss,by omega,hw⟩ (by show (5 - ((j:Int)+1)).toNat<(5 - (j:Int)).toNat;omega)
  have box:∀ {M z:Zf} {x:Obj} {r:Sl},obj M (sz A)=some x->Ext A M->WS wb t' r M z->obj z (sz A)=some x:=λ{M z x r} H B F=>(F.u.old (sz A) (Zp H) λe=>e.elim (λe=>by omega) λe=>by have:sz A<sz A:=(O.o.lt e).2;omega).trans H;have hn:tks.length<=2000:=by omega
  rcases (show j=0\/j=1\/j=2\/j=3\/j=4\/j=5 by omega) with q | q | q | q | q | q
  ·refine Zl (by subst q;rfl) (by
     rw [show ((j:Nat):Int)=0 by omega] at step ⊢;refine ⟨by decide,by decide,(1,fn0 100,()),rfl,ZI λh4 Y Z z4=>Zbb Y λM H u5 z5=>rV (Zb H rfl) (.inl ⟨rfl,?_⟩)⟩;have B:Ext A M:=Z.then u5 λk I=>by subst I;exact Aqo _
     exact ZEc (Eh.ext B) ok N (O.ext B) hn λz r m x D P F C=>Za (Zd (step 0 (fn0 100) (sz A) z x r m q (by decide) D P (WS.pre B F) C (box H B F))))
  ·refine Zl (by subst q;rfl) (by
     rw [show ((j:Nat):Int)=1 by omega] at step ⊢;refine ⟨by decide,by decide,(2,fn0 101,()),rfl,ZI λh4 Y Z z4=>Zbb Y λM H u5 z5=>rV (Zb H rfl) (.inr (.inl ⟨rfl,?_⟩))⟩;have B:Ext A M:=Z.then u5 λk I=>by subst I;exact Aqo _
     exact Zw3 (Eh.ext B) ok N (O.ext B) hn λz r m x D P F C=>Za (Zd (step 1 (fn0 101) (sz A) z x r m q (by decide) D P (WS.pre B F) C (box H B F))))
  ·refine Zl (by subst q;rfl) (by
     rw [show ((j:Nat):Int)=2 by omega] at step ⊢;refine ⟨by decide,by decide,(3,fn0 102,()),rfl,ZI λh4 Y Z z4=>Zbb Y λM H u5 z5=>rV (Zb H rfl) (.inr (.inr (.inl ⟨rfl,?_⟩)))⟩;have B:Ext A M:=Z.then u5 λk I=>by subst I;exact Aqo _
     exact ZHj (Eh.ext B) ok N (O.ext B) hn (aB.ext B) au λz r m x D P F C=>Za (Zd (step 2 (fn0 102) (sz A) z x r m q (by decide) D P (WS.pre B F) C (box H B F))))
  ·refine Zl (by subst q;rfl) (by
     rw [show ((j:Nat):Int)=3 by omega] at step ⊢;refine ⟨by decide,by decide,(4,fn0 103,()),rfl,ZI λh4 Y Z z4=>Zbb Y λM H u5 z5=>rV (Zb H rfl) (.inr (.inr (.inr (.inl ⟨rfl,?_⟩))))⟩;have B:Ext A M:=Z.then u5 λk I=>by subst I;exact Aqo _
     exact ZEJ (Eh.ext B) ok N (O.ext B) hn λz r m x D P F C=>Za (Zd (step 3 (fn0 103) (sz A) z x r m q (by decide) D P (WS.pre B F) C (box H B F))))
  ·refine Zl (by subst q;rfl) (by
     rw [show ((j:Nat):Int)=4 by omega] at step ⊢;refine ⟨by decide,by decide,(5,fn0 104,()),rfl,ZI λh4 Y Z z4=>Zbb Y λM H u5 z5=>rV (Zb H rfl) (.inr (.inr (.inr (.inr (.inl ⟨rfl,?_⟩)))))⟩;have B:Ext A M:=Z.then u5 λk I=>by subst I;exact Aqo _
     exact ZBg (Eh.ext B) ok N (O.ext B) hn λz r m x D P F C=>Za (Zd (step 4 (fn0 104) (sz A) z x r m q (by decide) D P (WS.pre B F) C (box H B F))))
  ·subst q
   have aI:ZnK G c al gr=(none,(tks,wt)):=hw;refine Zi rfl (fin (0,0,0,()) A bh false λJ V=>?_);refine I J (none,(tks,wt)) aI (ag (old s') V) λ_=>⟨t',R,⟨(V.old wb (Zp O.w) (show ¬ wb=sz h by omega)).trans O.w,(O.o.congr λb S aj aJ=>V.old b aj λe=>?_).base (by omega),O.l,λi v tk g1 g2=>?_,?_,O.n⟩,hn⟩
   ·have e':b=sz h:=e
    have:sz h1<=b:=aJ;omega
   ·have D:=O.e i v tk g1 g2
    have bk:∀ {b o:Nat} {vv:Value},Bx A (sz h1) wb t' b o vv->Bx J (sz h) wb t' b o vv:=λ{b o vv} D=>by
      obtain ⟨x1,x2,x3,x4,x5⟩:=D;exact ⟨by rw [show obj J b=obj A b from V.old b x3 (show ¬ b=sz h by omega)];exact x1,by omega,Aqq x3 V.size,x4,x5⟩
    cases tk with
    | hot i s =>
      obtain ⟨D,wx,vx,hb,e,a1,a2,a3,a4⟩:=D;exact ⟨D,wx,vx,hb,e,bk a1,bk a2,bk a3,a4⟩
    | warm i past sum =>
      obtain ⟨a,b,d,f,g,p,e,a1,a2,a3,a4,a5,a6⟩:=D;exact ⟨a,b,d,f,g,p,e,bk a1,bk a2,bk a3,bk a4,bk a5,a6⟩
    | pace i =>
      obtain ⟨a,b,f,p,e,a1,a2,a3,a4⟩:=D;exact ⟨a,b,f,p,e,bk a1,bk a2,bk a3,a4⟩
    | wp i past aP =>
      obtain ⟨a,b,d,f,g,p,e,a1,a2,a3,a4,a5,a6,a7⟩:=D;exact ⟨a,b,d,f,g,p,e,bk a1,bk a2,bk a3,bk a4,bk a5,bk a6,a7⟩
    | brk i =>
      obtain ⟨a,b,hb,id,e,a1,a2,a3,a4⟩:=D;exact ⟨a,b,hb,id,e,bk a1,bk a2,bk a3,a4⟩
   ·have:sz A<=sz J:=V.size
    omega
end
structure LS (L L':Lay):Prop where
  eb:L'.eb=L.eb
  f:L'.fs.map (·.1)=L.fs.map (·.1)
  b:L'.bs.map (λx=>(x.1,x.2.2))=L.bs.map λx=>(x.1,x.2.2)
  h:L'.hs.map (·.1)=L.hs.map (·.1)
theorem LS.refl {L:Lay}:LS L L:=⟨rfl,rfl,rfl,rfl⟩
theorem LS.trans {L L' L'':Lay} (a:LS L L') (b:LS L' L''):LS L L'':=⟨b.eb.trans a.eb,b.f.trans a.f,b.b.trans a.b,b.h.trans a.h⟩
theorem Zf2 {α β:Type} {g:α->β} {l:List α} {i:Nat} {x y:α} (hi:l[i]?=some x) (a:g y=g x):(l.set i y).map g=l.map g:=by
  induction l generalizing i with
  | nil=>cases hi
  | cons b l c =>
    cases i with
    | zero=>cases hi;simp [a]
    | succ i=>simp [c (by simpa using hi)]
theorem Zie {α β:Type} {g:α->β} {l a:List α} (h:a.map g=l.map g) {i:Nat} {y:β} (hi:(l[i]?).map g=some y):∃ x,a[i]?=some x/\g x=y:=by
  rw [<- Awy,<- h,Awy] at hi
  cases q:a[i]? with
  | none=>rw [q] at hi;cases hi
  | some x=>rw [q] at hi;exact ⟨x,rfl,Option.some.inj hi⟩
structure ZoQ (hS:Zf) (T:TgM) (L:Lay) (wb:Nat) (c:PC) (sl:Sl) (gr:Bool) (t:Sl) (wt:Int) (m:Nat) (hh:Zf) (T':TgM) (L':Lay) (G:GS) (pr:List Int) (prS:Sl):Prop where
  E:Zba hh T' L' G
  u:Upd (λj=>T j≠none\/j=wb) hS hh
  s:Zdm T T'
  n:∀ j,T' j≠none->T j≠none\/sz hS<=j
  w:obj hh wb=some (Zva L.eb (cl c sl) gr t prS wt)
  lw:wb<sz hS
  tw:T wb=none
  o:Own hh (sz hS) prS 1 (pr.map iv)
  ot:∀ b,prS.blk=some b->T' b=none
  ls:LS L L'
  pl:pr.length<=m
section
variable {hS hh h':Zf} {T T' T'':TgM} {L L' L'':Lay} {base wb m:Nat} {c:PC} {sl t prS:Sl} {gr:Bool} {wt:Int} {G G':GS} {pr:List Int}
theorem ZoQ.tw' (R:ZoQ hS T L wb c sl gr t wt m hh T' L' G pr prS):T' wb=none:=by
  cases q:T' wb with
  | none=>rfl
  | some x =>
    rcases R.n wb (Xa q) with g | g
    ·exact absurd R.tw g
    ·have:=R.lw;omega
theorem ZoQ.step (R:ZoQ hS T L wb c sl gr t wt m hh T' L' G pr prS) (E:Zba h' T'' L'' G') (g:GrG T' T'' hh h') (ls:LS L' L''):ZoQ hS T L wb c sl gr t wt (m+1) h' T'' L'' G' pr prS:=by
  have ws:sz hS<=sz hh:=R.u.size;refine ⟨E,⟨Aqp R.u.size g.u.size,λk f i=>?_⟩,R.s.trans g.s,λj l=>?_,(g.u.old wb (Zp R.w) λe=>e R.tw').trans R.w,R.lw,R.tw,R.o.congr λb a h _=>g.u.old b h λe=>e (R.ot b a),λb a=>?_,R.ls.trans ls,Nat.le_succ_of_le R.pl⟩
  ·refine (g.u.old k (Aqq f ws) λe=>?_).trans (R.u.old k f i)
   rcases R.n k e with d | d
   ·exact i (.inl d)
   ·have:k<sz hS:=f;omega
  ·rcases g.n j l with d | d
   ·exact R.n j d
   ·exact .inr (by omega)
  ·cases q:T'' b with
   | none=>rfl
   | some x =>
     rcases g.n b (Xa q) with d | d
     ·exact absurd (R.ot b a) d
     ·have:=(R.o.lt a).2;have:b<sz hh:=this;omega
theorem ZoQ.box (R:ZoQ hS T L wb c sl gr t wt m hh T' L' G pr prS) (a:∀ j,T j≠none->j<base) {b o:Nat} {v:Value} (x:Bx hS base wb t b o v):ZA o (obj hh b)=some v:=by
  obtain ⟨d,h,f,g,i⟩:=x;rw [show obj hh b=obj hS b from R.u.old b f λe=>?_]
  ·exact d
  ·rcases e with e | e
   ·have:=a b e;omega
   ·exact g e
theorem ZGF {i:Nat} {x:ByteArray} {a0 p q:Nat} {b:Nat} (R:ZoQ hS T L wb c sl gr t wt m hh T' L' G pr prS) (d:∀ j,T j≠none->j<base) (u:Bx hS base wb t a0 0 (pB b)) (b1:Bx hS base wb t p 0 (pB wb)) (b2:Bx hS base wb t q 0 (.string x)) (v:(L.hs[i]?).map (·.1)=some b)
    {K:Zf->Prop} (r:∀ h' T'' L'' f,ZoQ hS T L wb c sl gr t wt (m+1) h' T'' L'' (Zfs c (G,pr) (.hot i x)).1 (Zfs c (G,pr) (.hot i x)).2 f->K h'):Xn (some ⟨a0,0,none⟩) (some ⟨p,0,none⟩) (some ⟨q,0,none⟩) K hh:=by
  unfold Xn ZcX;obtain ⟨⟨k,H⟩,a,y⟩:=Zie R.ls.h v;have l:k=b:=y;subst l;have z:G.ho[i]?=some H:=by rw [<- R.E.lh,Awy,a];rfl
  have A:Zfs c (G,pr) (.hot i x)=({ G with ho:=G.ho.set i (H.take c.1 x c.2.2.2.2.2)},pr):=by
    unfold Zfs;dsimp only;rw [z]
  rw [A] at r;refine Zg (rP (R.box d u) (Zg (rP (R.box d b1) (Zg (rI (Zb R.w rfl) (Zg (rS (R.box d b2) (Zg (rP (R.box d b1) (Zg (rI (Zb R.w rfl) ?_)))))))))));obtain ⟨I,n,s⟩:=R.E.ho.e i _ a;refine Classical.choose_spec (Classical.choose_spec (Classical.choose_spec (ZuN H c.1 x c.2.2.2.2.2))) n λh1 B C g=>?_;have D:=R.E.setH a s C g;have o:=R.step D (GrG.tag R.E.hT g.upd (λj F=>Xa (s j F)) (Aqo _)) ⟨rfl,rfl,rfl,Zf2 a rfl⟩;exact ⟨⟨o.box d b1,trivial⟩,⟨o.box d b1,trivial⟩,r h1 _ _ prS o⟩
theorem ZEu {p:ShP} {b1 b2:Nat} (h:(hdP p).Nodup) (h1:p.1=some ⟨b1,0,none⟩) (a:p.2=some ⟨b2,0,none⟩):b1≠b2:=by
  unfold hdP at h;rw [h1,a] at h;simpa [Ztz] using h
theorem Zx6 {h h':Zf} {O:Nat->Prop} {p:Option Addr} {x:Option Pc} (a:Zx7 h O p x) (k:∀ b,p=some ⟨b,0,none⟩->obj h' b=obj h b):Zx7 h' O p x:=by
  cases x with
  | none=>exact a
  | some x=>obtain ⟨b,e,c,o⟩:=a;exact ⟨b,e,(k b e).trans c,o⟩
theorem ZEy {h:Zf} {O:Nat->Prop} {p:Option Addr} {x:Pc} (a:Zx7 h O p (some x)):∃ b,p=some ⟨b,0,none⟩/\b<sz h:=by
  obtain ⟨b,e,c,_⟩:=a;exact ⟨b,e,Zp c⟩
theorem ZDR {i:Nat} {past sum:Int} {a b d e f:Nat} {p:ShP} (R:ZoQ hS T L wb c sl gr t wt m hh T' L' G pr prS) (ok:GOK G) (o:∀ j,T j≠none->j<base) (hs:∀ s,G.fl[i]?=some s->s.2≠none) (C:Bx hS base wb t a 1 (.pointer p.2)) (b1:Bx hS base wb t b 0 (iv c.1)) (b2:Bx hS base wb t d 0 (iv past)) (M:Bx hS base wb t e 0 (iv sum)) (b4:Bx hS base wb t f 0 (iv c.2.2.2.2.2)) (N:(L.fs[i]?).map (·.1)=some p)
    {K:Zf->Prop} (D:∀ h' T'' L'' r,ZoQ hS T L wb c sl gr t wt (m+1) h' T'' L'' (Zfs c (G,pr) (.warm i past sum)).1 (Zfs c (G,pr) (.warm i past sum)).2 r->K h'):XN (some ⟨a,0,none⟩) (some ⟨b,0,none⟩) (some ⟨d,0,none⟩) (some ⟨e,0,none⟩) (some ⟨f,0,none⟩) K hh:=by
  unfold XN Zef;obtain ⟨⟨u,s⟩,l,v⟩:=Zie R.ls.f N;have x:u=p:=v;subst x;have F:G.fl[i]?=some s:=R.E.ge l;obtain ⟨s1,s2⟩:=s;have h:=R.E.fl.e i _ l;have y:=(Zpx h).1
  cases s2 with
  | none=>exact absurd rfl (hs _ F)
  | some w =>
  obtain ⟨k,O,P,tw⟩:=h.2
  have Q:Zfs c (G,pr) (.warm i past sum)=({ G with fl:=G.fl.set i (s1,some (w.take c.1 past sum c.2.2.2.2.2))},pr):=by
    unfold Zfs;dsimp only;rw [F]
  rw [Q] at D;have n:u.2=some ⟨k,0,none⟩:=O;rw [n] at C;refine Zg (rP (R.box o C) (Zg (rI (R.box o b1) (Zg (rI (R.box o b2) (Zg (rI (R.box o M) (Zg (rI (R.box o b4) ?_)))))))));refine Classical.choose_spec (Classical.choose_spec (Classical.choose_spec (Zq3 w c.1 past sum c.2.2.2.2.2))) P λh1 c1 H=>?_;have hm:k∈hdP u:=by unfold hdP;rw [n];simp [Ztz]
  have I:Upd (λj=>∃ d,d∈hdP u/\T' j=some (.p d)) hh h1:=H.mono λj _ z=>⟨k,hm,by rw [show j=k from z];exact tw⟩
  have A:Zx7 h1 (hdT T') u.1 s1:=by
    cases s1 with
    | none=>exact h.1
    | some q =>
      refine Zx6 h.1 λb g=>?_;obtain ⟨J,v,S⟩:=ZEy h.1;have B:b=J:=by rw [v] at g;injection g with g;injection g with g _ _;exact g.symm
      rw [B];exact H.old J S λU=>ZEu y v n U
  have V:=R.E.setF (s':=(s1,some (w.take c.1 past sum c.2.2.2.2.2))) l ⟨A,⟨k,n,c1,tw⟩⟩ I;exact D h1 _ _ prS (R.step V ⟨I.mono λj _ ⟨d,_,hd⟩=>Xa hd,Zdm.refl _,λj z=> .inl z⟩ ⟨rfl,Zf2 l rfl,rfl,rfl⟩)
theorem ZDT {i:Nat} {a b f:Nat} {p:ShP} (R:ZoQ hS T L wb c sl gr t wt m hh T' L' G pr prS) (u:∀ j,T j≠none->j<base) (hs:∀ s,G.fl[i]?=some s->s.1≠none) (B:Bx hS base wb t a 0 (.pointer p.1)) (b1:Bx hS base wb t b 0 (iv c.1)) (b4:Bx hS base wb t f 0 (iv c.2.2.2.2.2)) (J:(L.fs[i]?).map (·.1)=some p)
    {K:Zf->Prop} (C:∀ h' T'' L'' n,ZoQ hS T L wb c sl gr t wt (m+1) h' T'' L'' (Zfs c (G,pr) (.pace i)).1 (Zfs c (G,pr) (.pace i)).2 n->K h'):XM (some ⟨a,0,none⟩) (some ⟨b,0,none⟩) (some ⟨f,0,none⟩) K hh:=by
  unfold XM Zee;obtain ⟨⟨o,s⟩,h,r⟩:=Zie R.ls.f J;have v:o=p:=r;subst v;have D:G.fl[i]?=some s:=R.E.ge h;obtain ⟨s1,s2⟩:=s;have k:=R.E.fl.e i _ h;have x:=(Zpx k).1
  cases s1 with
  | none=>exact absurd rfl (hs _ D)
  | some w =>
  obtain ⟨g,M,N,tw⟩:=k.1
  have O:Zfs c (G,pr) (.pace i)=({ G with fl:=G.fl.set i (some (w.go c.1 c.2.2.2.2.2),s2)},pr):=by
    unfold Zfs;dsimp only;rw [D]
  rw [O] at C;have l:o.1=some ⟨g,0,none⟩:=M;rw [l] at B;refine Zg (rP (R.box u B) (Zg (rI (R.box u b1) (Zg (rI (R.box u b4) ?_)))));refine Classical.choose_spec (ZB7 w c.1 c.2.2.2.2.2) N λh1 U V W c1 F=>?_;have hm:g∈hdP o:=by unfold hdP;rw [l];simp [Ztz]
  have H:Upd (λj=>∃ d,d∈hdP o/\T' j=some (.p d)) hh h1:=F.mono λj _ y=>⟨g,hm,by rw [show j=g from y];exact tw⟩
  have z:ZBV h1 (hdT T') o.2 s2:=by
    cases s2 with
    | none=>exact k.2
    | some q =>
      obtain ⟨A,r,I,P⟩:=k.2;exact ⟨A,r,(F.old A (Zp I) λQ=>ZEu x l r (by rw [show A=g from Q])).trans I,P⟩
  have S:=R.E.setF (s':=(some (w.go c.1 c.2.2.2.2.2),s2)) h ⟨⟨g,l,c1,tw⟩,z⟩ H;exact C h1 _ _ prS (R.step S ⟨H.mono λj _ ⟨d,_,hd⟩=>Xa hd,Zdm.refl _,λj y=> .inl y⟩ ⟨rfl,Zf2 h rfl,rfl,rfl⟩)
theorem ZN2 {i:Nat} {past h:Int} {a b d f g:Nat} {p:ShP} (R:ZoQ hS T L wb c sl gr t wt m hh T' L' G pr prS) (A:∀ j,T j≠none->j<base) (hs:∀ s,G.fl[i]?=some s->s.1≠none/\s.2≠none) (S:Bx hS base wb t a 0 (.pointer p.1)) (B:Bx hS base wb t a 1 (.pointer p.2)) (b1:Bx hS base wb t b 0 (iv c.1)) (b2:Bx hS base wb t d 0 (iv past)) (b4:Bx hS base wb t f 0 (iv c.2.2.2.2.2)) (b5:Bx hS base wb t g 0 (iv h)) (hL:(L.fs[i]?).map (·.1)=some p)
    {K:Zf->Prop} (U:∀ h' T'' L'' C,ZoQ hS T L wb c sl gr t wt (m+1) h' T'' L'' (Zfs c (G,pr) (.wp i past h)).1 (Zfs c (G,pr) (.wp i past h)).2 C->K h'):XL (some ⟨a,0,none⟩) (some ⟨b,0,none⟩) (some ⟨d,0,none⟩) (some ⟨f,0,none⟩) (some ⟨g,0,none⟩) K hh:=by
  unfold XL Zed;obtain ⟨⟨z,s⟩,k,e8⟩:=Zie R.ls.f hL;have H:z=p:=e8;subst H;have I:G.fl[i]?=some s:=R.E.ge k;obtain ⟨s1,s2⟩:=s;have y:=R.E.fl.e i _ k;have J:=(Zpx y).1
  cases s1 with
  | none=>exact absurd rfl (hs _ I).1
  | some w1 =>
  cases s2 with
  | none=>exact absurd rfl (hs _ I).2
  | some M =>
  obtain ⟨r,ep,cp,V⟩:=y.1;obtain ⟨w,ew,cw,tw⟩:=y.2
  have rk:Zfs c (G,pr) (.wp i past h)=({ G with fl:=G.fl.set i (some (w1.at' c.1 c.2.2.2.2.2 h),some (M.fill c.1 past))},pr):=by
    unfold Zfs;dsimp only;rw [I]
  rw [rk] at U;have l:z.1=some ⟨r,0,none⟩:=ep;have q:z.2=some ⟨w,0,none⟩:=ew;rw [l] at S;rw [q] at B;have D:r≠w:=ZEu J l q;refine Zg (rP (R.box A B) (Zg (rI (R.box A b1) (Zg (rI (R.box A b2) ?_)))));refine Classical.choose_spec (Classical.choose_spec (Classical.choose_spec (Zm0 M c.1 past))) cw λh1 c1 N=>?_
  have bk:∀ {b o:Nat} {v:Value},Bx hS base wb t b o v->ZA o (obj h1 b)=some v:=λ{b o v} x=>by
    have hx:=R.box A x;obtain ⟨x1,x2,x3,x4,x5⟩:=x
    have:b≠w:=λe=>by
      subst e
      rcases R.n b (Xa tw) with W | W
      ·have:=A b W;omega
      ·omega
    rw [show obj h1 b=obj hh b from N.old b (Aqq x3 R.u.size) this];exact hx
  refine Zg (rP (bk S) (Zg (rI (bk b1) (Zg (rI (bk b4) (Zg (rI (bk b5) ?_)))))));have O:obj h1 r=some (pcO w1):=(N.old r (Zp cp) D).trans cp;refine Classical.choose_spec (Classical.choose_spec (ZuK w1 c.1 c.2.2.2.2.2 h)) O λX c2 Y=>?_;have P:r∈hdP z:=by unfold hdP;rw [l];simp [Ztz]
  have Q:w∈hdP z:=by unfold hdP;rw [q];simp [Ztz]
  have Z:Upd (λj=>∃ d,d∈hdP z/\T' j=some (.p d)) hh X:=(N.mono λj _ F=>⟨w,Q,by rw [show j=w from F];exact tw⟩).trans (Y.mono λj _ F=>⟨r,P,by rw [show j=r from F];exact V⟩);have E1:=R.E.setF (s':=(some (w1.at' c.1 c.2.2.2.2.2 h),some (M.fill c.1 past))) k ⟨⟨r,l,c2,V⟩,⟨w,q,(Y.old w (Zp c1) (Ne.symm D)).trans c1,tw⟩⟩ Z;exact U X _ _ prS (R.step E1 ⟨Z.mono λj _ ⟨d,_,hd⟩=>Xa hd,Zdm.refl _,λj F=> .inl F⟩ ⟨rfl,Zf2 k rfl,rfl,rfl⟩)
theorem Zyp {B:BkS} {at_:Int} (hw:WOK B.r) (a:WOK (B.enter at_).r) {h:Zf} {wn mb:Nat} (w:Zkh (Zc6 _ hw) h wn mb B.w):Zkh (Zc6 _ a) h wn mb (B.enter at_).w:=by
  revert a
  unfold BkS.enter;split<;>(intro _;exact w)
theorem ZGG {i:Nat} {a b h:Nat} {id:Int} (R:ZoQ hS T L wb c sl gr t wt m hh T' L' G pr prS) (hm:m<=2000) (C:∀ j,T j≠none->j<base) (b0:Bx hS base wb t a 0 (pB h)) (X:Bx hS base wb t a 1 (iv id)) (b1:Bx hS base wb t b 0 (pB wb)) (hL:(L.bs[i]?).map (λx=>(x.1,x.2.2))=some (h,id))
    {K:Zf->Prop} (I:∀ h' T'' L'' J,ZoQ hS T L wb c sl gr t wt (m+1) h' T'' L'' (Zfs c (G,pr) (.brk i)).1 (Zfs c (G,pr) (.brk i)).2 J->K h'):Y4 (some ⟨a,0,none⟩) (some ⟨b,0,none⟩) K hh:=by
  unfold Y4 ZbR;obtain ⟨⟨g,B,v⟩,z,e8⟩:=Zie R.ls.b hL;have Y:g=h/\v=id:=by injection e8 with Z y;exact ⟨Z,y⟩
  obtain ⟨Z,y⟩:=Y;subst Z;subst y;have hG:G.br[i]?=some (B,v):=by rw [<- R.E.lb,Awy,z];rfl
  have l:WOK (B.1.enter c.1).r:=by have:=B.2;unfold BkS.enter;split<;>exact this
  have rk:Zfs c (G,pr) (.brk i)=({ G with br:=G.br.set i (⟨B.1.enter c.1,l⟩,v)},if Zpy B.1 c.1=true then pr++[v] else pr):=by
    unfold Zfs;dsimp only;rw [hG]
  rw [rk] at I;refine Zg (rP (R.box C b0) (Zg (rP (R.box C b1) (Zg (rI (Zb R.w rfl) ?_)))));obtain ⟨⟨wn,mb,cB,M,o1,o2,o3⟩,N⟩:=id (R.E.br.e i _ z);refine ZtK cB λh1 p9 e9 c1 u1 z1=>?_
  have O:g≠wn/\g≠mb:=by
    constructor
    ·intro e
     have P:=M.cells;rw [<- e,cB] at P;simp [b7L] at P
    ·intro e
     obtain ⟨f,n,⟨es,c9,hq,_⟩,_⟩:=M.map;have P:obj hh mb=_:=hq;rw [<- e,cB] at P;cases P
  have Q:(B.1.enter c.1).w.last<=(B.1.enter c.1).la:=by
    unfold BkS.enter;split
    ·rename_i q
     unfold ZW at q;have:B.1.w.last<=B.1.la:=N;show B.1.w.last<=c.1;split at q
     ·cases q
     ·split at q
      ·cases q
      ·split at q
       ·cases q
       ·omega
    ·exact N
  have aC:(B.1.enter c.1).w=B.1.w:=by unfold BkS.enter;split<;>rfl
  have aD:(B.1.enter c.1).r=B.1.r:=by unfold BkS.enter;split<;>rfl
  have uT:Upd (inT T' g) hh h1:=u1.mono λj _ p=>by rw [show j=g from p];exact o1
  have bR:BkR h1 g (inT T' g) (B.1.enter c.1) l:=⟨⟨wn,mb,c1,Zyp B.2 l (M.congr (u1.old wn (Zp M.cells) λe=>O.1 (show wn=g from e).symm) (u1.old mb M.mlt λe=>O.2 (show mb=g from e).symm)),o1,o2,o3⟩,Q⟩
  ·have E1:=R.E.setB (B':=⟨B.1.enter c.1,l⟩) z bR uT ⟨λj p=> .inl p,λj p=>p⟩
   have d:=R.step E1 (GrG.tag R.E.hT uT (λj p=>Xa p) (Aqo _)) (L'':={ L' with bs:=L'.bs.set i (g,⟨B.1.enter c.1,l⟩,v)}) ⟨rfl,rfl,Zf2 z rfl,rfl⟩;refine ⟨⟨d.box C b1,trivial⟩,Zd (Zd (Za ⟨λq=>?_,λq=>?_⟩))⟩
   ·have q':Zpy B.1 c.1=true:=q
    rw [if_pos q'] at I;refine Zg (Zg (rP (d.box C b1) (Zg (rP (d.box C b1) (Zg (rL (s:=prS) (Zb d.w rfl) (rI (d.box C X) (ZI λA c2 y z2=>?_))))))));have bk:∀ {h3:Zf},(∀ {j:Nat} {x:Obj},obj h1 j=some x->prS.blk≠some j->obj h3 j=some x)->True:=λ_=>trivial;have nb:prS.blk≠some b:=λe=>by have:=(d.o.lt e).1;have:=b1.2.2.1;omega
    have nw:prS.blk≠some wb:=λe=>by have:=(d.o.lt e).1;have:=d.lw;omega
    have B1:=d.box C b1
    have D:ZA 0 (obj A b)=some (pB wb):=by
      rw [show obj A b=obj h1 b from y.old b (Aqq b1.2.2.1 d.u.size)];exact B1
    have w2:=Zj d.w y;refine ⟨ZZ (Zb w2 rfl),⟨D,trivial⟩,⟨D,trivial⟩,(Zj4 c2 rfl).rd ?_⟩;have pl:=d.pl;have ol:=d.o.len;simp only [Ayv,Aqv] at ol;refine (d.o.congr (h':=A) λb _ hl _=>y.old b hl).app (n:=1) rfl rfl rfl (by omega) (by omega) (Aqp d.u.size y.size) λs' h3 ag l3 V ah=>?_
    have S:ZA 0 (obj h3 b)=some (pB wb):=by
      rw [show obj h3 b=obj A b from V.old b (Aqq b1.2.2.1 (Aqp d.u.size y.size)) nb];exact D
    have w3:obj h3 wb=_:=(V.old wb (Zp w2) nw).trans w2;refine ⟨⟨S,trivial⟩,⟨S,trivial⟩,Zg (Zbg w3 (show 0+10<12 by decide) rfl λW c4 u4 z4=>?_)⟩;have aO:sz h1<sz A:=by have:sz A=sz h1+1:=z2;omega
    have aP:sz A<=sz h3:=V.size;have aQ:sz h3<=sz W:=u4.size;have Tw:=d.tw';have F:Upd (λj=>j=wb\/prS.blk=some j) h1 W:=((y.upd _).trans (V.mono λj _ p=> .inr p)).trans (u4.mono λj _ p=> .inl p)
    have E4:=d.E.frame F λj p=>by
      rcases p with e | e
      ·rw [e];exact Tw
      ·exact d.ot j e
    refine I W _ _ s' ⟨E4,⟨Aqp d.u.size F.size,λk H hn=>?_⟩,d.s,d.n,c4,d.lw,d.tw,?_,λU h=>?_,d.ls,by simp;have:=R.pl;omega⟩
    ·refine (F.old k (Aqq H d.u.size) λh9=>?_).trans (d.u.old k H hn)
     rcases h9 with e | e
     ·exact hn (.inr e)
     ·have:=(d.o.lt e).1;have:k<sz hS:=H;omega
    ·rw [Ayw]
     refine (ag.congr (h':=W) λU h aj g=>u4.old U aj λe=>?_);have e':U=wb:=e;have:sz hS<=U:=g;have:=d.lw;omega
    ·rcases ah with e | e
     ·exact d.ot U (e▸h)
     ·rw [e] at h
      cases h;refine Classical.byContradiction λak=>?_;have h9:sz A<sz h1:=d.E.hT _ ak;omega
   ·rw [if_neg (by rw [show Zpy B.1 c.1=false from q];decide)] at I
    exact I h1 _ _ prS d
end
theorem Zsi {h:Zf} {s:Sl} {al:List ByteArray} (hs:Row h s 1 (al.map .string)) {K:Bool->Zf->Prop} (d:K (ZkZ al) h) (hl:al.length<=8):ZE s K h:=by
  unfold ZE ZU Z8 Ye;have k:s.len=al.length:=by have:=hs.len;simp at this;omega
  refine Za (Zbf (λp j=>∃ i:Nat,p=((i:Int),())/\i<=al.length/\j=h/\ZkZ (al.take i)=false) (λp _=>al.length - p.1.toNat) ⟨0,rfl,Ayg _,rfl,rfl⟩ ?_);rintro _ j ⟨i,rfl,l,g,e⟩ Q m;subst g;dsimp only;refine Zn (λq=>?_) λq=>?_
  ·have a:i<al.length:=by omega
   have f:al[i]?=some al[i]:=Axy a;generalize al[i]=x at f;refine Za (hs.idx (n:=i) (v:= .string x) rfl (by rw [Awy,f];rfl) λb o _ r=>⟨x,r,?_⟩);unfold Zci Zcm;refine Zd (Zn (λt=>Za (Zd ?_)) λt=>?_)
   ·have:decide ((i:Int)>=0)=true:=by simp
    rw [this];have:ZkZ al=true:=List.any_eq_true.2 ⟨x,Axo f,by simp;omega⟩;rw [this] at d;exact d
   ·rw [wrS a (by omega)]
    refine m _ _ ⟨i+1,rfl,a,rfl,?_⟩ (by show al.length - ((i+1:Nat):Int).toNat<al.length - ((i:Nat):Int).toNat;omega);unfold ZkZ at e ⊢;rw [Aym,f,List.any_append,e];simp;omega
  ·have c:al.take i=al:=Awd (by omega)
   rw [c] at e;rw [e] at d;exact Za (Zd d)
theorem ZDB {h:Zf} {T:TgM} {L:Lay} {G:GS} (E:Zba h T L G) {c:PC} {sl:Sl} (hz:Zhu (cl c nl)) {al:List ByteArray} (F:Row h sl 1 (al.map .string)) {K:Int->Zf->Prop}
    (w:∀ h' T',Zba h' T' L (if Zhw G c al=0 then { G with t:=G.t.touched (cl c nl)} else G)->GrG T T' h h'->K (Zhw G c al) h'):Zad (some ⟨L.eb,0,none⟩) (cl c sl) K h:=by
  have no:∀ e (d:Zf),Ext h d->e≠0->Zhw G c al=e->K e d:=λe d H h1 i=>by
    have:=w d T (by rw [if_neg (by rw [i];exact h1)];exact E.ext H) (GrG.ext H);rwa [i] at this
  unfold Zad Zdy;have P:sl.len=al.length:=by have:=F.len;simp at this;omega
  refine ZI λh1 c1 I z1=>Za (rI (Zb c1 rfl) (rS (Zb c1 rfl) (rS (Zb c1 rfl) (rS (Zb c1 rfl) (rB (Zb c1 rfl) (rI (Zb c1 rfl) (rL (s:=sl) (Zb c1 rfl) ?_)))))));refine ZlF (c:=cl c sl) (show Zhu (cl c sl) from ⟨hz.a,hz.b,hz.c⟩) λs i x o2=>Za (ZfQ (λ(m:ZiC (cl c nl)≠0)=>Za (no (ZiC (cl c nl)) i (I.trans x) m (by unfold Zhw;rw [if_pos m]))) λ(m:ZiC (cl c nl)=0)=>?_);have f:=I.trans x;have g:=Zj c1 x;have J:∀ {a:Int},¬ (0<=c.1/\c.1<=1152921504606846976)->K 2 i:=λq=>no 2 i f (by decide) (by unfold Zhw;rw [if_neg (λd=>d m),if_pos q]);refine rI (Zb g rfl) (Zn (λ(Q:c.1<0)=>Za (J (a:=0) (by omega))) λ(Q:¬ c.1<0)=>rI (Zb g rfl) (Zn (λ(R:c.1>1152921504606846976)=>Za (J (a:=0) (by omega))) λ(R:¬ c.1>1152921504606846976)=>?_));have k:0<=c.1/\c.1<=1152921504606846976:=by omega
  have M:¬ (1<=c.2.2.2.2.2/\c.2.2.2.2.2<=1099511627776)->K 2 i:=λq=>no 2 i f (by decide) (by unfold Zhw;rw [if_neg (λd=>d m),if_neg (λd=>d k),if_pos q]);refine rI (Zb g rfl) (Zn (λ(S:c.2.2.2.2.2<1)=>Za (M (by omega))) λ(S:¬ c.2.2.2.2.2<1)=>rI (Zb g rfl) (Zd (Zn (λ(U:c.2.2.2.2.2>1099511627776)=>Za (M (by omega))) λ(U:¬ c.2.2.2.2.2>1099511627776)=>?_)));have l:1<=c.2.2.2.2.2/\c.2.2.2.2.2<=1099511627776:=by omega
  refine rL (s:=sl) (Zb g rfl) (Zn (λV=>Za (no 5 i f (by decide) ?_)) λV=>?_)
  ·unfold Zhw;rw [if_neg (λd=>d m),if_neg (λd=>d k),if_neg (λd=>d l),if_pos (by omega)]
  have n:¬ 8<al.length:=by omega
  refine rL (s:=sl) (Zb g rfl) (Zsi (F.ext f) (Zd ⟨λy=>Za (no 5 i f (by decide) ?_),λy=>?_⟩) (by omega))
  ·unfold Zhw;rw [if_neg (λd=>d m),if_neg (λd=>d k),if_neg (λd=>d l),if_neg n,if_pos y]
  have o:¬ ZkZ al=true:=by rw [y];decide
  have r:=E.ext f;refine rI (Zb g rfl) (Zg (rI (Zb r.cells rfl) (Zd (Zn (λ(u:c.1<G.la)=>Za (no 7 i f (by decide) ?_)) λ(u:¬ c.1<G.la)=>?_))))
  ·unfold Zhw;rw [if_neg (λd=>d m),if_neg (λd=>d k),if_neg (λd=>d l),if_neg n,if_neg o,if_pos u]
  refine Zg (rI (Zb r.cells rfl) (Zd (Zn (λz=>Za (no 3 i f (by decide) ?_)) λz=>?_)))
  ·unfold Zhw;rw [if_neg (λd=>d m),if_neg (λd=>d k),if_neg (λd=>d l),if_neg n,if_neg o,if_neg u,if_pos (show 4096<=G.op from z)]
  have W:Zhw G c al=G.t.touchE (cl c nl):=by unfold Zhw;rw [if_neg (λd=>d m),if_neg (λd=>d k),if_neg (λd=>d l),if_neg n,if_neg o,if_neg u,if_neg (show ¬ 4096<=G.op from z)]
  rw [W] at w;refine Zg (rP (Zb r.cells rfl) (rI (Zb g rfl) (rS (Zb g rfl) (rS (Zb g rfl) (rS (Zb g rfl) (rB (Zb g rfl) (rI (Zb g rfl) (rL (s:=sl) (Zb g rfl) (ZI λh3 X A z3=>⟨ZZ (Zb (r.ext A).cells rfl),?_⟩)))))))));have v:=r.ext A;have B:=f.trans A;refine Zv3 (c:=cl c sl) v.tree (λj C=>Zby v.hT C) (show Zhu (cl c sl) from ⟨hz.a,hz.b,hz.c⟩) (Zj4 X rfl) (λb q d=>?_) λN O' t4 O Y=>Za (w N (Zh5 T (.p L.tb) (sz h3) (sz N)) ?_ (GrG.pre B (GrG.tag v.hT O (λj C=>Xa C) (Aqo _))))
  ·simp [Sl.blk] at q
   subst q;have Z:T (sz i)=some (.p L.tb):=d;have:=Zby r.hT Z;omega
  ·have:(if G.t.touchE (cl c nl)=0 then { G with t:=G.t.touched (cl c nl)} else G)={ G with t:=G.t.touched (cl c nl)}:=by
     split
     ·rfl
     ·rename_i D
      unfold Tree.touched;rw [if_neg D]
   rw [this];exact v.tree' t4 O Y
def ZOt (r:RulesP):Tk->Prop
  | .warm i _ _=>∃ f,r.fl[i]?=some f/\f.shape=1
  | .pace i=>∃ f,r.fl[i]?=some f/\f.shape=2
  | .wp i _ _=>∃ f,r.fl[i]?=some f/\f.shape=3
  | _=>True
theorem Zjl {P:Tk->Prop} {f:Int->Lk} (c:∀ i tk,tk∈(f i).tk->P tk):∀ {l:List Int} {x:List Tk × Int},(∀ tk,tk∈x.1->P tk)->∀ tk,tk∈(Zfp f l x).2.1->P tk
  | [],x,a,tk,h=>a tk h
  | i::l,x,a,tk,h=>by
    have d:∀ tk,tk∈x.1++(f i).tk->P tk:=λtk h=>(Axx.1 h).elim (a tk) (c i tk);have e:Zfp f (i::l) x=if (f i).b=true then (some i,x.1++(f i).tk,wtV x.2 (f i).wt) else Zfp f l (x.1++(f i).tk,wtV x.2 (f i).wt):=rfl
    rw [e] at h;split at h
    ·exact d tk h
    ·exact Zjl c (l:=l) (x:=(x.1++(f i).tk,wtV x.2 (f i).wt)) d tk h
theorem ZrL {P:Tk->Prop} {st:Nat->List Tk × Int->Option Int × List Tk × Int} (a:∀ j x,(∀ tk,tk∈x.1->P tk)->∀ tk,tk∈(st j x).2.1->P tk):∀ {n j:Nat} {x:List Tk × Int},(∀ tk,tk∈x.1->P tk)->∀ tk,tk∈(Zlo st n j x).2.1->P tk
  | 0,_,x,b,tk,h=>b tk h
  | n+1,j,x,b,tk,h=>by
    have e:Zlo st (n+1) j x=match (st j x).1 with
      | some i=>(some (((j+1:Nat):Int),i),(st j x).2)
      | none=>Zlo st n (j+1) (st j x).2:=rfl
    rw [e] at h;split at h
    ·exact a j x b tk h
    ·exact ZrL a (n:=n) (j:=j+1) (x:=(st j x).2) (a j x b) tk h
theorem ZEb {G:GS} {c:PC} {al:List ByteArray} {gr:Bool}:∀ tk,tk∈(ZnK G c al gr).2.1->ZOt G.r tk:=by
  refine ZrL (λj x a tk h=>?_) λtk h=>by cases h
  have no:∀ {f:Int->Lk} {l:List Int},(∀ i,(f i).tk=[])->tk∈(Zfp f l x).2.1->ZOt G.r tk:=λ{f l} b h=>Zjl (λi tk h=>by rw [b i] at h;cases h) a tk h
  match j,h with
  | 0,h=>exact no (λi=>rfl) h
  | 1,h =>
    have h':tk∈(ZFg G c x).2.1:=h;unfold ZFg at h';split at h'
    ·exact no (λi=>rfl) h'
    ·exact a tk h'
  | 2,h =>
    refine Zjl (λi tk h=>?_) a tk h;unfold ZnM at h;split at h
    ·split at h
     ·simp only [Awr,Ayk,or_false] at h
      subst h;trivial
     ·cases h
    ·cases h
  | 3,h =>
    refine Zjl (λi tk h=>?_) a tk h;unfold Zfn at h;split at h
    ·rename_i f s b hs
     split at h
     ·cases h
     ·unfold Zkr at h
      split at h
      ·rename_i q
       split at h
       ·simp only [Awr,Ayk,or_false] at h
        subst h;exact ⟨f,b,q⟩
       ·cases h
      ·split at h
       ·rename_i q
        split at h
        ·simp only [Awr,Ayk,or_false] at h
         subst h;exact ⟨f,b,q⟩
        ·cases h
       ·split at h
        ·rename_i q
         split at h
         ·simp only [Awr,Ayk,or_false] at h
          subst h;exact ⟨f,b,q⟩
         ·cases h
        ·cases h
    ·cases h
  | n+4,h =>
    refine Zjl (λi tk h=>?_) a tk h;unfold ZnN at h;split at h
    ·simp only [Awr,Ayk,or_false] at h
     subst h;trivial
    ·cases h
theorem ZDS {c:PC} {x:GS × List Int} (tk:Tk):(Zfs c x tk).1.r=x.1.r:=by
  unfold Zfs;cases tk<;>dsimp only<;>split<;>rfl
section
variable {h h8 hh h12:Zf} {T T3 T':TgM} {L L':Lay} {G:GS}
theorem GrG.run {wb m:Nat} {c:PC} {sl t b:Sl} {gr:Bool} {wt:Int} {pr:List Int} (a:GrG T T3 h h8) (R:ZoQ h8 T3 L wb c sl gr t wt m hh T' L' G pr b) (hT:∀ j,T j≠none->j<sz h) (hw:sz h<=wb):GrG T T' h hh:=by
  refine ⟨⟨Aqp a.u.size R.u.size,λk d f=>?_⟩,a.s.trans R.s,λj i=>?_⟩
  ·have l:k<sz h:=d
   refine (R.u.old k (Aqq d a.u.size) λo=>?_).trans (a.u.old k d f)
   rcases o with e | e
   ·rcases a.n k e with g | g
    ·exact f g
    ·omega
   ·omega
  ·rcases R.n j i with g | g
   ·exact a.n j g
   ·exact .inr (Aqp a.u.size g)
theorem GrG.tagS {s:Sl} (a:GrG T T' h h12) (hs:∀ b,s.blk=some b->T' b=none/\sz h<=b):GrG T (tagS T' s) h h12 :=
  ⟨a.u,a.s.trans (Zip λb c=>(hs b c).1),λj d=>(Ziq d).elim (a.n j) λe=> .inr (hs j e).2⟩
theorem ZDG {base wb:Nat} {c:PC} {sl t:Sl} {gr:Bool} {wt:Int} {tks:List Tk} {vs:List Value} (hE:Zba h8 T L G) (ok:GOK G) (hb:∀ j,T j≠none->j<base/\j≠wb) (W:WkR h8 base wb L c sl gr tks wt t vs) (hn:tks.length<=2000) (ai:∀ tk,tk∈tks->ZOt G.r tk) {K:Zf->Prop}
    (hk:∀ h' T' L' J,ZoQ h8 T L wb c sl gr t wt tks.length h' T' L' (Zjw c (G,[]) tks).1 (Zjw c (G,[]) tks).2 J->K h') :
    Yj (σ:=Int × Unit) (λM s z=>(λ(A:Int)=>Zm (decide (A<(t.len:Int))) (YS t.ptr t.len A 1 λaj ak=>ldV z aj ak λt74 =>
 (exG t74 (λB:Option Addr × Option Addr × Option Addr × Unit=> .func (.func 168) #[] ⟨[.pointer B.1,.pointer B.2.1,.pointer B.2.2.1]⟩) λB=>Xn B.1 B.2.1 B.2.2.1 (λy=>M (IntKind.wrap .i64 (A+1),()) y) z)\/(
 (exG t74 (λh:Option Addr × Option Addr × Option Addr × Option Addr × Option Addr × Unit=> .func (.func 213) #[] ⟨[.pointer h.1,.pointer h.2.1,.pointer h.2.2.1,.pointer h.2.2.2.1,.pointer h.2.2.2.2.1]⟩) λh=>XN h.1 h.2.1 h.2.2.1 h.2.2.2.1 h.2.2.2.2.1 (λy=>M (IntKind.wrap .i64 (A+1),()) y) z)\/(
 (exG t74 (λC:Option Addr × Option Addr × Option Addr × Unit=> .func (.func 216) #[] ⟨[.pointer C.1,.pointer C.2.1,.pointer C.2.2.1]⟩) λC=>XM C.1 C.2.1 C.2.2.1 (λy=>M (IntKind.wrap .i64 (A+1),()) y) z)\/(
 (exG t74 (λk:Option Addr × Option Addr × Option Addr × Option Addr × Option Addr × Unit=> .func (.func 221) #[] ⟨[.pointer k.1,.pointer k.2.1,.pointer k.2.2.1,.pointer k.2.2.2.1,.pointer k.2.2.2.2.1]⟩) λk=>XL k.1 k.2.1 k.2.2.1 k.2.2.2.1 k.2.2.2.2.1 (λy=>M (IntKind.wrap .i64 (A+1),()) y) z)\/(
 (exG t74 (λN:Option Addr × Option Addr × Unit=> .func (.func 174) #[] ⟨[.pointer N.1,.pointer N.2.1]⟩) λN=>Y4 N.1 N.2.1 (λy=>M (IntKind.wrap .i64 (A+1),()) y) z)\/False))))) (K z)) s.1) (0,()) h8:=by
  have E:∀ j,T j≠none->j<base:=λj hj=>(hb j hj).1;have tw:T wb=none:=Classical.byContradiction λh9=>(hb wb h9).2 rfl;have tl:t.len=tks.length:=by have:=W.o.len;have:=W.l;omega
  refine Zbf (λ(p:Int × Unit) hh=>∃ (m:Nat) (T':TgM) (L':Lay) (X:GS) (pr:List Int) (J:Sl),p=((m:Int),())/\m<=tks.length/\ZoQ h8 T L wb c sl gr t wt m hh T' L' X pr J/\GOK X/\X.r=G.r/\Zjw c (X,pr) (tks.drop m)=Zjw c (G,[]) tks) (λp _=>((tks.length:Int) - p.1).toNat)
    ⟨0,T,L,G,[],nl,rfl,Ayg _,⟨hE,Upd.refl _ _,Zdm.refl T,λj hj=> .inl hj,W.w,Zp W.w,tw,Own.nil _ _ _,(λb hb=>by cases hb),LS.refl,Aqo _⟩,ok,rfl,rfl⟩ ?_
  rintro _ hh ⟨m,T',L',X,pr,J,rfl,hm,R,F,hr,D⟩ Q hQ;dsimp only;refine Zn (λq=>?_) λq=>?_
  ·have O:m<tks.length:=by omega
   obtain ⟨tk,P⟩:∃ tk,tks[m]?=some tk:=⟨_,Axy O⟩;obtain ⟨v,ag⟩:∃ v,vs[m]?=some v:=⟨_,Axy (by rw [W.l];exact O)⟩
   have row:Row hh t 1 vs:=(W.o.congr λb aa ao aq=>R.u.old b ao λe=>by
     rcases e with e | e
     ·have:base<=b:=aq;have:=E b e;omega
     ·exact W.n (by rw [aa,show b=wb from e])).row
   have hd:tks.drop m=tk::tks.drop (m+1):=by
     rw [Ayo O];congr 1;exact (Ayh.1 P).2
   rw [hd] at D;have S:=ai tk (Axo P)
   have next:∀ h' T'' L'' U,ZoQ h8 T L wb c sl gr t wt (m+1) h' T'' L'' (Zfs c (X,pr) tk).1 (Zfs c (X,pr) tk).2 U->Q (IntKind.wrap .i64 ((m:Int)+1),()) h':=λh' T'' L'' U R'=>by
     rw [wrS O (by omega)];exact hQ _ _ ⟨m+1,T'',L'',_,_,U,rfl,O,R',F.run1 (x:=(X,pr)) tk,(ZDS (x:=(X,pr)) tk).trans hr,D⟩ (by show ((tks.length:Int) - ((m+1:Nat):Int)).toNat<((tks.length:Int) - ((m:Nat):Int)).toNat;omega)
   refine row.idx (i:=(m:Int)) (n:=m) rfl ag λb o _ hc=>⟨v,hc,?_⟩;have V:=W.e m v tk ag P
   cases tk with
   | hot i x =>
     obtain ⟨a0,a1,a2,aa,e,Y,b1,b2,Z⟩:=V;subst e;exact .inl ⟨(some ⟨a0,0,none⟩,some ⟨a1,0,none⟩,some ⟨a2,0,none⟩,()),rfl,ZGF R E Y b1 b2 Z next⟩
   | warm i past sum =>
     obtain ⟨a,b,d,e,f,p,ev,Y,b1,b2,b3,b4,Z⟩:=V;subst ev;obtain ⟨f9,H,I⟩:=S;exact .inr (.inl ⟨(some ⟨a,0,none⟩,some ⟨b,0,none⟩,some ⟨d,0,none⟩,some ⟨e,0,none⟩,some ⟨f,0,none⟩,()),rfl,ZDR R F E (λs hs=>(F.sh i f9 s (by rw [hr];exact H) hs).2 (.inl I)) Y b1 b2 b3 b4 Z next⟩)
   | pace i =>
     obtain ⟨a,b,f,p,ev,Y,b1,b4,Z⟩:=V;subst ev;obtain ⟨f9,H,I⟩:=S;exact .inr (.inr (.inl ⟨(some ⟨a,0,none⟩,some ⟨b,0,none⟩,some ⟨f,0,none⟩,()),rfl,ZDT R E (λs hs=>(F.sh i f9 s (by rw [hr];exact H) hs).1 (.inl I)) Y b1 b4 Z next⟩))
   | wp i past ar =>
     obtain ⟨a,b,d,f,g,p,ev,Y,ae,b1,b2,b4,b5,Z⟩:=V;subst ev;obtain ⟨f9,H,I⟩:=S;exact .inr (.inr (.inr (.inl ⟨(some ⟨a,0,none⟩,some ⟨b,0,none⟩,some ⟨d,0,none⟩,some ⟨f,0,none⟩,some ⟨g,0,none⟩,()),rfl,ZN2 R E (λs hs=>⟨(F.sh i f9 s (by rw [hr];exact H) hs).1 (.inr I),(F.sh i f9 s (by rw [hr];exact H) hs).2 (.inr I)⟩) Y ae b1 b2 b4 b5 Z next⟩)))
   | brk i =>
     obtain ⟨a,b,aa,id,ev,Y,ae,b1,Z⟩:=V;subst ev;exact .inr (.inr (.inr (.inr (.inl ⟨(some ⟨a,0,none⟩,some ⟨b,0,none⟩,()),rfl,ZGG R (by omega) E Y ae b1 Z next⟩))))
  ·have:m=tks.length:=by omega
   subst this;rw [Ayq (Aqo _)] at D;have e:(X,pr)=Zjw c (G,[]) tks:=D;refine hk hh T' L' J ?_;rw [<- e];exact R
end
theorem EnR.put {h h':Zf} {T:TgM} {fm d:Nat} {en:Int->Option Ent} {f:Int->Option Value} {n:Nat} {k:Int} {e:Ent} {s:Sl} (l:EnI h T fm en f n) (hm:ZlE h' fm (upd f k (some (ZHq e.c e.ov s))) d) (u:Upd (· = fm) h h') (hT:T fm=some (.p fm)) (m:Row h' s 1 (e.pr.map iv)) (hs:Rw.inS (roT T) s):EnR h' T fm (upd en k (some e)):=by
  refine ⟨_,d,hm,λj=>?_⟩
  by_cases q:j=k
  ·subst q
   exact .inr ⟨e,s,ZdT _ _ _,ZdT _ _ _,m,hs⟩
  ·rw [Zh7 en _ q,Zh7 f _ q]
   rcases l.e j with h1 | ⟨a,s',h1,o,h3,g⟩
   ·exact .inl h1
   ·refine .inr ⟨a,s',h1,o,Rw.ZgE h3 g λb i hl=>u.old b hl λr=>?_,g⟩
    have a:b=fm:=r;rw [a] at i;rw [show T fm=some .ro from i] at hT;cases hT
section
variable {h:Zf} {T:TgM} {L:Lay} {G:GS} {c:PC} {sl:Sl} {al:List ByteArray} {gr:Bool}
theorem ZyZ (S:Zba h T L G) (ok:GOK G) (hz:Zhu (cl c nl)) (ha:Row h sl 1 (al.map .string)) (ay:∀ b,sl.blk=some b->b<sz h/\T b=none) {K:Int->V4->Int->Zf->Prop}
    (Q:∀ h' T' D,Zba h' T' D (G.enter c al gr).2->D.eb=L.eb->GrG T T' h h'->K (G.enter c al gr).1.1 (G.enter c al gr).1.2.1 (G.enter c al gr).1.2.2 h'):YF (some ⟨L.eb,0,none⟩) (cl c sl) gr K h:=by
  have aI:Zhu (cl c sl):=⟨hz.a,hz.b,hz.c⟩;unfold YF ZdC;refine ZI λh1 c1 e1 z1=>Za (ZI λU c2 e2 z2=>Za (Zi rfl (Zg ?_)));have ak:=e1.trans e2;have x2:=Zj c1 e2;have E2:=S.ext ak;have s1:sz h1=sz h+1:=z1;have s2:sz U=sz h1+1:=z2;have Tn:∀ j,sz h<=j->T j=none:=λj d=>Classical.byContradiction λi=>by have:=S.hT j i;omega
  refine rI (Zb x2 rfl) (rS (Zb x2 rfl) (rS (Zb x2 rfl) (rS (Zb x2 rfl) (rB (Zb x2 rfl) (rI (Zb x2 rfl) (rL (s:=sl) (Zb x2 rfl) (?_)))))));refine ZDB E2 (c:=c) hz (ha.ext ak) λh3 C E3 g3=>Za ?_;have s3:sz U<=sz h3:=g3.u.size;have G3:GrG T C h h3:=GrG.pre ak g3
  have I:∀ j,sz h<=j->j<sz U->C j=none:=λj d hl=>Classical.byContradiction λi=>by
    rcases g3.n j i with g | g
    ·exact g (Tn j d)
    ·omega
  have x3:obj h3 (sz h)=_:=(g3.old (show sz h<sz U by omega) (Tn _ (Aqo _))).trans x2;have y3:obj h3 (sz h1)=_:=(g3.old (show sz h1<sz U by omega) (Tn _ (by omega))).trans c2;refine ZfQ (λq=>?_) λq=>?_
  ·rw [if_neg q] at E3
   refine Za (Zbb y3 λr c4 u4 z4=>Za (rI (Zb c4 rfl) (rI (Zb c4 rfl) (rI (Zb c4 rfl) ?_))));unfold GS.enter at Q;rw [if_pos q] at Q;exact Q r C L (E3.frame u4 λj d=>by rw [show j=sz h1 from d];exact I _ (by omega) (by omega)) rfl (G3.new u4 λj d=>by have e':j=sz h1:=d;omega)
  rw [if_pos q] at E3;unfold GS.enter at Q;rw [if_neg (λi=>i q)] at Q;refine rI (Zb x3 rfl) (Zg (Zbg E3.cells (show 0+18<19 by decide) rfl λr c4 u4 z4=>Zg ?_));have E4:Zba r C L (G.mid c):=E3.set (ld:=G.ld) (cp:=G.cp) (op:=G.op) (nx:=G.nx) (la:=c.1) c4 u4;have s4:sz r=sz h3:=z4;have bn:L.eb<sz h:=Zby S.hT S.eT;have J:∀ j,sz h<=j->¬ j=L.eb:=λj d=>by omega
  have x4:obj r (sz h)=_:=(u4.old _ (Zp x3) (J _ (Aqo _))).trans x3;have y4:obj r (sz h1)=_:=(u4.old _ (Zp y3) (J _ (by omega))).trans y3;have G4:GrG T C h r:=G3.trans (GrG.one (Xa E3.eT) u4) S.hT;refine rI (Zb x4 rfl) (rS (Zb x4 rfl) (rS (Zb x4 rfl) (rS (Zb x4 rfl) (rB (Zb x4 rfl) (rI (Zb x4 rfl) (rL (s:=sl) (Zb x4 rfl) (ZI λh5 c5 e5 z5=>?_)))))));have x5:=Zj x4 e5;have y5:=Zj y4 e5;have s5:sz h5=sz r+1:=z5;refine ⟨⟨Zb x5 rfl,Zb x5 rfl,Zb x5 rfl,Zb x5 rfl,Zb x5 rfl,Zb x5 rfl,Zb x5 rfl,trivial⟩,?_⟩;have w5:obj h5 (sz r)=some (Zva L.eb (cl c sl) gr nl nl 0):=c5;have E5:=E4.ext e5;have az:∀ j,C j≠none->j<sz r:=E4.hT;have hb:∀ j,C j≠none->j<sz r/\j≠sz r:=λj d=>by have:=az j d;omega
  have bo:Row h5 sl 1 (al.map .string):=by
    have a3:Row h3 sl 1 (al.map .string):=(ha.ext ak).congr λb o l _ A=>by
      obtain ⟨b1,b2⟩:=ay b (by simp [Sl.blk,l]);exact g3.old (show b<sz U by omega) b2
    exact (a3.congr (h':=r) λb o l _ A=>u4.old b A λe=>by
      obtain ⟨b1,b2⟩:=ay b (by simp [Sl.blk,l]);have e':b=L.eb:=e;rw [e',S.eT] at b2
      cases b2).ext e5
  refine ZGZ (al:=al) E5 ok.mid hb (by omega) w5 bo (λb l=>by have:=(ay b l).1;omega) λh6 x hx u6 hW=>?_;have s6:sz h5<=sz h6:=u6.size;have bp:C (sz r)=none:=Classical.byContradiction λi=>by have:=az _ i;omega
  have E6:=E5.frame u6 λj d=>by rw [show j=sz r from d];exact bp
  have x6:obj h6 (sz h)=_:=(u6.old _ (Zp x5) (show ¬ sz h=sz r by omega)).trans x5;have y6:obj h6 (sz h1)=_:=(u6.old _ (Zp y5) (show ¬ sz h1=sz r by omega)).trans y5;have G6:GrG T C h h6:=(G4.then e5).new u6 λj d=>by have e':j=sz r:=d;omega
  refine ZI λh7 c7 e7 z7=>Zbb c7 λM c8 u8 z8=>Zd ?_;have Y:Ext h6 M:=e7.then u8 λk Q=>by subst Q;exact Aqo _
  have E8:=E6.ext Y;have x8:=Zj x6 Y;have y8:=Zj y6 Y;have s7:sz h7=sz h6+1:=z7;have s8:sz M=sz h7:=z8;have G8:GrG T C h M:=G6.then Y
  have aN:∀ j,sz h3<=j->C j=none:=λj d=>Classical.byContradiction λi=>by have:=az j i;omega
  rw [hx] at Q;obtain ⟨o,tks,wt⟩:=x
  cases o with
  | some ki =>
    obtain ⟨kk,ii⟩:=ki;dsimp only at Q c8;refine Zl rfl (Zg (rP (Zb E8.cells rfl) (rI (Zb x8 rfl) (rS (Zb x8 rfl) (rS (Zb x8 rfl) (rS (Zb x8 rfl) (rB (Zb x8 rfl) (rI (Zb x8 rfl) (rL (s:=sl) (Zb x8 rfl) (?_))))))))));refine ZtE (c:=cl c sl) E8.tree (λj d=>Zby E8.hT d) aI λer i O9 t9 V g9=>Za ?_;have E9:Zba i (Zh5 C (.p L.tb) (sz M) (sz i)) L ((G.mid c).blocked c):=E8.tree' t9 V g9;have s9:sz M<=sz i:=V.size;have G9:GrG T (Zh5 C (.p L.tb) (sz M) (sz i)) h i:=G8.trans (GrG.tag E8.hT V (λj d=>Xa d) (Aqo _)) S.hT
    have N:∀ j,C j=none->¬ inT C L.tb j:=λj d i=>by
      have Z:C j=some (.p L.tb):=i;rw [d] at Z;cases Z
    have c9:obj i (sz h6)=_:=(V.old _ (Zp c8) (N (sz h6) (aN (sz h6) (show sz h3<=sz h6 by omega)))).trans c8;have y9:obj i (sz h1)=_:=(V.old _ (Zp y8) (N _ (I _ (by omega) (by omega)))).trans y8;refine rI (Zb c9 rfl) (rI (Zb c9 rfl) (rI (Zb c9 rfl) (Zbb y9 λF W H aO=>Za (rI (Zb W rfl) (rI (Zb W rfl) (rI (Zb W rfl) (Q F _ L (E9.frame H λj d=>?_) rfl (G9.new H λj d=>?_))))))))
    ·rw [show j=sz h1 from d]
     unfold Zh5;rw [if_neg (by omega)];exact I _ (by omega) (by omega)
    ·have e':j=sz h1:=d
     omega
  | none =>
  dsimp only at Q c8 hW;obtain ⟨t',cH,W6,hl⟩:=hW rfl;have W8:=W6.ext Y;have bw:∀ j,C j≠none->j<sz h5/\j≠sz r:=λj d=>by have:=hb j d;omega
  refine Zi rfl (rL (s:=t') (Zb W8.w rfl) ?_);refine ZDG (tks:=tks) E8 ok.mid bw W8 hl (λtk bx=>?_) λhh T' D v R=>?_
  ·have:=ZEb (G:=G.mid c) (c:=c) (al:=al) (gr:=gr) tk (by rw [hx];exact bx)
   exact this
  have aP:GOK (Zjw c (G.mid c,[]) tks).1:=GOK.runs (x:=(G.mid c,[])) ok.mid;generalize Zjw c (G.mid c,[]) tks=y at R Q aP;obtain ⟨G2,pr⟩:=y;dsimp only at R Q aP;have GR:GrG T T' h hh:=G8.run R S.hT (by omega);have sR:sz M<=sz hh:=R.u.size;have aa:∀ {j:Nat} {xx:Obj},obj M j=some xx->C j=none->j≠sz r->obj hh j=some xx:=λ{j xx} aQ h1 U=>(R.u.old j (Zp aQ) λe=>e.elim (λe=>e h1) U).trans aQ;have xR:=aa x8 (I _ (Aqo _) (by omega)) (show sz h≠sz r by omega);have yR:=aa y8 (I _ (by omega) (by omega)) (show sz h1≠sz r by omega);have aR:D.eb=L.eb:=R.ls.eb
  have aS:∀ j,sz h<=j->j<sz M->C j=none->T' j=none:=λj h1 U h3=>Classical.byContradiction λi=>by
    rcases R.n j i with g | g
    ·exact g h3
    ·omega
  have tx:T' (sz h)=none:=aS _ (Aqo _) (by omega) (I _ (Aqo _) (by omega));have ty:T' (sz h1)=none:=aS _ (by omega) (by omega) (I _ (by omega) (by omega));have ER:=R.E;rw [<- aR] at J bn ⊢;refine Zg (rP (Zb ER.cells rfl) (rI (Zb xR rfl) (rS (Zb xR rfl) (rS (Zb xR rfl) (rS (Zb xR rfl) (rB (Zb xR rfl) (rI (Zb xR rfl) (rL (s:=sl) (Zb xR rfl) (?_)))))))));refine Zv5 (c:=cl c sl) ER.tree (λj d=>Zby ER.hT d) aI λer i O9 t9 V g9=>?_;have E9:Zba i (Zh5 T' (.p D.tb) (sz hh) (sz i)) D { G2 with t:=G2.t.passed (cl c nl)}:=ER.tree' t9 V g9;have s9:sz hh<=sz i:=V.size;have G9:GrG T (Zh5 T' (.p D.tb) (sz hh) (sz i)) h i:=GR.trans (GrG.tag ER.hT V (λj d=>Xa d) (Aqo _)) S.hT
  have N:∀ j,T' j=none->¬ inT T' D.tb j:=λj d i=>by
    have Z:T' j=some (.p D.tb):=i;rw [d] at Z;cases Z
  have ae:∀ j,j<sz hh->T' j=none->Zh5 T' (.p D.tb) (sz hh) (sz i) j=none:=λj h1 U=>by unfold Zh5;rw [if_neg (by omega)];exact U
  have x9:obj i (sz h)=_:=(V.old _ (Zp xR) (N _ tx)).trans xR;have y9:obj i (sz h1)=_:=(V.old _ (Zp yR) (N _ ty)).trans yR;have w9:obj i (sz r)=_:=(V.old _ (Zp R.w) (N _ R.tw')).trans R.w;have o9:Own i (sz M) v 1 (pr.map iv):=R.o.congr λb l A _=>V.old b A (N _ (R.ot b l));have p9:∀ b,v.blk=some b->Zh5 T' (.p D.tb) (sz hh) (sz i) b=none/\sz h<=b:=λb l=>⟨ae b (R.o.lt l).2 (R.ot b l),by have:=(R.o.lt l).1;omega⟩;generalize Zh5 T' (.p D.tb) (sz hh) (sz i)=T9 at E9 G9 ae p9;refine Zbg x9 (show 0+6<7 by decide) rfl λF W H aO=>Zg ?_;have bB:T9 (sz h)=none:=ae _ (by omega) tx;have af:=E9.frame H λj d=>by rw [show j=sz h from d];exact bB
  have bC:GrG T T9 h F:=G9.new H λj d=>by rw [show j=sz h from d];exact Aqo _
  have cM:sz F=sz i:=aO;have aU:obj F (sz h1)=_:=(H.old _ (Zp y9) (show ¬ sz h1=sz h by omega)).trans y9;have aV:obj F (sz r)=_:=(H.old _ (Zp w9) (show ¬ sz r=sz h by omega)).trans w9;have bD:Own F (sz M) v 1 (pr.map iv):=o9.congr λb l A aA=>H.old b A λe=>by have e':b=sz h:=e;have:sz M<=b:=aA;omega
  refine rI (Zb af.cells rfl) (Za (Zg (rI (Zb af.cells rfl) (Zg (Zbg af.cells (show 0+17<19 by decide) rfl λcN aW bE cO=>Zg (rI (Zb aW rfl) (Zg (Zbg aW (show 0+16<19 by decide) rfl λO bF bG cP=>Zg ?_))))))));have B:Upd (· = D.eb) F O:=bE.trans bG;have aX:=af.set (ld:=G2.ld) (cp:=G2.cp) (op:=IntKind.wrap .i64 (G2.op+1)) (nx:=IntKind.wrap .i64 (G2.nx+1)) (la:=G2.la) bF B;have bH:GrG T T9 h O:=bC.trans (GrG.one (Xa af.eT) B) S.hT;have P:obj O (sz h)=_:=(B.old _ (Zp W) (J _ (Aqo _))).trans W;have aY:obj O (sz h1)=_:=(B.old _ (Zp aU) (J _ (by omega))).trans aU;have aB:obj O (sz r)=_:=(B.old _ (Zp aV) (J _ (by omega))).trans aV;have aC:Own O (sz M) v 1 (pr.map iv):=bD.congr λb l A aA=>B.old b A (J _ (by have:sz M<=b:=aA;omega));have hp:=λb l=>(p9 b l).1;have z:=aX.keep (T':=tagS T9 v) (λj t _ _=>rfl) (Zip hp) (Aqo _) λj d=>(Ziq d).elim (aX.hT j) λe=>(aC.lt e).2;have aZ:GrG T (tagS T9 v) h O:=bH.tagS p9;obtain ⟨f,n,hI⟩:=z.ent;have cR:=Zby S.hT S.fT;refine rM (Zb z.cells rfl) (rI (Zb P rfl) (rS (Zb P rfl) (rS (Zb P rfl) (rS (Zb P rfl) (rB (Zb P rfl) (rI (Zb P rfl) (rL (s:=nl) (Zb P rfl) (rL (s:=v) (Zb aB rfl) ?_))))))));refine hI.m.put G2.nx _ λaq bI X cS=>Za ?_
  have ba:∀ j,T9 j=none->v.blk≠some j->¬ j=D.fm:=λj h1 U e=>by
    have:=z.fT;rw [<- e] at this;unfold tagS at this;rw [if_neg U,h1] at this;cases this
  have aD:∀ j,j<sz M->v.blk≠some j:=λj d e=>by have:=(aC.lt e).1;omega
  have bJ:T9 (sz r)=none:=ae _ (by omega) R.tw';have bb:T9 (sz h1)=none:=ae _ (by omega) ty;have bc:EnR aq (tagS T9 v) D.fm (upd G2.en G2.nx (some ⟨cl c nl,false,pr⟩)):=EnR.put (e:=⟨cl c nl,false,pr⟩) (s:=v) hI bI X z.fT ((aC.congr λb l A _=>X.old b A λe=>?_).row) Zqe
  ·have bK:=z.mapped bc X
   have bL:obj aq (sz h1)=_:=(X.old _ (Zp aY) (ba _ bb (aD _ (by omega)))).trans aY;have bM:obj aq (sz r)=_:=(X.old _ (Zp aB) (ba _ bJ (aD _ (by omega)))).trans aB;have bN:GrG T (tagS T9 v) h aq:=aZ.trans (GrG.one (Xa z.fT) X) S.hT;refine rI (Zb bM rfl) (Zbb bL λbO aE bd cT=>Za (rI (Zb aE rfl) (rI (Zb aE rfl) (rI (Zb aE rfl) (Q bO _ D (bK.frame bd λj d=>?_) aR (bN.new bd λj d=>?_))))))
   ·rw [show j=sz h1 from d]
    unfold tagS;rw [if_neg (aD _ (by omega))];exact bb
   ·have e':j=sz h1:=d
    omega
  ·have e':b=D.fm:=e
   have:=z.fT;rw [<- e'] at this;unfold tagS at this;rw [if_pos l] at this;cases this
end
theorem ZvV {h:Zf} {s:Sl} {l:List Int} {v:Int} (hs:Row h s 1 (l.map iv)) {K:Bool->Zf->Prop} (e:K (decide (v∈l)) h):Y7 s v K h:=by
  unfold Y7 ZaP ZbM ZbS;have sl:s.len=l.length:=by have:=hs.len;simp at this;omega
  have big:=hs.big;have cap:=hs.cap;refine Za (Zbf (λ(p:Int × Unit) j=>∃ i:Nat,p=((i:Int),())/\i<=l.length/\j=h/\v∉l.take i) (λp _=>((l.length:Int) - p.1).toNat) ⟨0,rfl,Ayg _,rfl,by simp⟩ ?_);rintro _ j ⟨i,rfl,m,f,a⟩ Q r;subst f;dsimp only;refine Zn (λq=>?_) λq=>?_
  ·have hi:i<l.length:=by omega
   have c:l[i]?=some l[i]:=Axy hi;generalize l[i]=x at c;refine Za (hs.idx (i:=(i:Int)) (n:=i) rfl (v:=iv x) (by rw [Awy,c];rfl) λb o _ t=>⟨x,t,Z5 (λg=>Za (Zd ?_)) λg=>?_⟩)
   ·have hm:v∈l:=by rw [g];exact Axo c
    rw [decide_eq_true hm] at e;rwa [show decide ((i:Int)>=0)=true by simp]
   ·rw [Yr (by omega) (by omega)]
    refine r _ _ ⟨i+1,by simp,hi,rfl,λk=>?_⟩ (by show ((l.length:Int) - ((i:Int)+1)).toNat<((l.length:Int) - ((i:Nat):Int)).toNat;omega);rw [Aym,c] at k
    rcases Axx.1 k with d | d
    ·exact a d
    ·simp at d
     exact g d
  ·have:l.take i=l:=Awd (by omega)
   rw [this] at a;rw [decide_eq_false a] at e;exact Za (Zd e)
section
variable {h:Zf} {T:TgM} {L:Lay} {G:GS}
theorem ZB8 (w:Zba h T L G) (ok:GOK G) {number at_:Int} {failed:Bool} {K:Int->Zf->Prop}
    (d:∀ h' T' y,Zba h' T' y (G.exit number at_ failed).2->y.eb=L.eb->GrG T T' h h'->K (G.exit number at_ failed).1 h'):ZbL (some ⟨L.eb,0,none⟩) number at_ failed K h:=by
  unfold ZbL Zej;obtain ⟨f,n,hI⟩:=w.ent;refine Za (Zi rfl (Zg (rM (Zb w.cells rfl) (hI.m.get number ?_))));unfold GS.exit at d
  rcases hI.e number with ⟨a1,a2⟩ | ⟨e,s,a1,a2,a3,a4⟩
  ·rw [a1] at d
   rw [a2];refine ⟨(0,em,em,em,false,0,nl,false,nl,()),rfl,ZI λh1 c1 e1 z1=>Zbb c1 λC c2 u2 z2=>Zd (Zd (Zl rfl (Za ?_)))⟩;have N:Ext h C:=e1.then u2 λk d=>by subst d;exact Aqo _
   exact d C T L (w.ext N) rfl (GrG.ext N)
  rw [a1] at d;rw [a2];dsimp only at d;have hz:=ok.en number e a1;refine ⟨(e.c.1,e.c.2.1,e.c.2.2.1,e.c.2.2.2.1,e.c.2.2.2.2.1,e.c.2.2.2.2.2.1,nl,e.ov,s,()),rfl,ZI λh1 c1 e1 z1=>Zbb c1 λC c2 u2 z2=>Zd (Zd (Zi rfl (rB (Zb c2 rfl) (Zd ⟨λq1=>Za ?_,λq1=>?_⟩))))⟩
  all_goals have N:Ext h C:=e1.then u2 λk d=>by subst d;exact Aqo _
  all_goals have Y:=w.ext N
  ·rw [if_pos (show e.ov=true from q1)] at d
   exact d C T L Y rfl (GrG.ext N)
  rw [if_neg (by rw [show e.ov=false from q1];decide)] at d;refine Zn (λq2=>Za ?_) λq2=>Zd (Zn (λq3=>Za ?_) λq3=>Zg (rI (Zb Y.cells rfl) (Zd (Zn (λq4=>Za ?_) λq4=>?_))))
  ·rw [if_pos q2] at d
   exact d C T L Y rfl (GrG.ext N)
  ·rw [if_neg q2,if_pos q3] at d
   exact d C T L Y rfl (GrG.ext N)
  ·rw [if_neg q2,if_neg q3,if_pos q4] at d
   exact d C T L Y rfl (GrG.ext N)
  rw [if_neg q2,if_neg q3,if_neg q4] at d;have bt:L.eb<sz h:=Zby w.hT w.eT;have bu:L.fm<sz h:=Zby w.hT w.fT;have Tn:∀ j,sz h<=j->T j=none:=λj u=>Classical.byContradiction λJ=>by have:=w.hT j J;omega
  have w1:sz h1=sz h+1:=z1;have w2:sz C=sz h1:=z2;refine Zg (Zbg Y.cells (show 0+18<19 by decide) rfl λh3 c3 u3 z3=>Zg ?_);have E3:=Y.set (ld:=G.ld) (cp:=G.cp) (op:=G.op) (nx:=G.nx) (la:=at_) c3 u3;have G3:GrG T T h h3:=(GrG.ext N).trans (GrG.one (Xa Y.eT) u3) w.hT;have x3:obj h3 (sz h)=_:=(u3.old (sz h) (Zp c2) (show ¬ sz h=L.eb by omega)).trans c2;obtain ⟨f3,n3,an⟩:=E3.ent;refine rM (Zb E3.cells rfl) (an.m.put number _ λO m4 u4 z4=>Zg ?_);have aP:EnR O T L.fm (upd G.en number (some ⟨zC,true,[]⟩)):=EnR.put (e:=⟨zC,true,[]⟩) (s:=nl) an m4 u4 E3.fT (Row.nil _ _) λJ=>absurd rfl J;have E4:=E3.mapped aP u4;have G4:=G3.trans (GrG.one (Xa E3.fT) u4) w.hT;have x4:obj O (sz h)=_:=(u4.old (sz h) (Zp x3) (show ¬ sz h=L.fm by omega)).trans x3;refine rI (Zb E4.cells rfl) (Zg (Zbg E4.cells (show 0+16<19 by decide) rfl λZ c5 u5 z5=>?_));have E5:=E4.set (ld:=G.ld) (cp:=G.cp) (op:=IntKind.wrap .i64 (G.op - 1)) (nx:=G.nx) (la:=at_) c5 u5;have G5:=G4.trans (GrG.one (Xa E4.eT) u5) w.hT;have x5:obj Z (sz h)=_:=(u5.old (sz h) (Zp x4) (show ¬ sz h=L.eb by omega)).trans x4;refine rI (Zb x5 rfl) (Za (Zbg x5 (show 0<9 by decide) rfl λP R u6 z6=>Zg ?_));have E6:=E5.frame u6 λj u=>by rw [show j=sz h from u];exact Tn _ (Aqo _)
  have G6:=G5.new u6 λj u=>by rw [show j=sz h from u];exact Aqo _
  refine rP (Zb E6.cells rfl) (rI (Zb R rfl) (rS (Zb R rfl) (rS (Zb R rfl) (rS (Zb R rfl) (rB (Zb R rfl) (rI (Zb R rfl) (rL (s:=nl) (Zb R rfl) ?_)))))));refine Zv6 (c:=ZB1 e.c at_) E6.tree (λj u=>Zby E6.hT u) ⟨hz.a,hz.b,hz.c⟩ λE t7 u7=>Zg ?_;have M:Zba E (Zh5 T (.p L.tb) (sz P) (sz E)) L (G.over number at_ failed e):=E6.tree' t7 u7 ⟨λj u=> .inl u,λj u=>u⟩;have G7:=G6.trans (GrG.tag (t:= .p L.tb) (lo:=sz P) (hi:=sz E) E6.hT u7 (λj u=>Xa u) (Aqo _)) w.hT
  have x7:obj E (sz h)=_:=(u7.old (sz h) (Zp R) λJ=>by
    have D:T (sz h)=some (.p L.tb):=J
    rw [Tn _ (Aqo _)] at D;cases D).trans R
  have aS:∀ b,T b=some .ro->obj E b=obj h b:=λb v=>by
    have lb:=Zby w.hT v;have ar:b≠L.eb:=λe9=>by rw [e9,w.eT] at v;cases v
    have aT:b≠L.fm:=λe9=>by rw [e9,w.fT] at v;cases v
    have l2:b<sz C:=by omega
    refine (u7.old b (show b<sz P by have:sz P=sz Z:=z6;have:sz Z=sz O:=z5;have:sz O=sz h3:=z4;have:sz h3=sz C:=z3;omega) λJ=>?_).trans ((u6.old b (show b<sz Z by have:sz Z=sz O:=z5;have:sz O=sz h3:=z4;have:sz h3=sz C:=z3;omega) (show ¬ b=sz h by omega)).trans ((u5.old b (show b<sz O by have:sz O=sz h3:=z4;have:sz h3=sz C:=z3;omega) ar).trans ((u4.old b (show b<sz h3 by have:sz h3=sz C:=z3;omega) aT).trans ((u3.old b l2 ar).trans (ZG N lb)))));have D:T b=some (.p L.tb):=J;rw [v] at D;cases D
  have bF:sz P=sz C:=by have:sz P=sz Z:=z6;have:sz Z=sz O:=z5;have:sz O=sz h3:=z4;have:sz h3=sz C:=z3;omega
  have av:Zh5 T (.p L.tb) (sz P) (sz E) (sz h)=none:=by
    unfold Zh5;rw [if_neg (by omega)];exact Tn _ (Aqo _)
  generalize Zh5 T (.p L.tb) (sz P) (sz E)=T7 at M G7 av;have aw:GOK (G.over number at_ failed e):=ok.over;refine rL (s:=L.z.1) (Zb M.cells rfl) (rL (s:=L.z.2.1) (Zb M.cells rfl) (rL (s:=L.z.2.2.1) (Zb M.cells rfl) (rL (s:=L.z.2.2.2.1) (Zb M.cells rfl) (rL (s:=L.z.2.2.2.2.1) (Zb M.cells rfl) (rS (Zb x7 rfl) ?_)))));refine ZOT M.rz (λb ax=>Zby M.hT ax) aw.good.s λh8 t8 e8 o8=>?_
  refine ZnW (KL:=ofK G.r 2 e.c.2.1) (kt:=t8) (body:=λbH t61 S Q=>Zc t61 λi=>Ze (some ⟨L.eb,0,none⟩) λaV aW=>ldL S aV (aW+8+1) λt64=>YS t64.ptr t64.len i 2 λay az=>ldP S ay az λt67=>ldI S ay (az+1) .i64 λt68 =>
    newC S [.pointer none,iv 0] 95 λU aX=>sts aX U 0 [.pointer t67,iv t68] λV=>ldP V U 0 λt72=>ldL V (sz h) (0+8) λt73=>ldI V U (0+1) .i64 λt74 =>
    Y7 t73 t74 (λt75 aA=>Zu (Zo aA [(U,0,.pointer t72)]) <| XH t72 at_ (IntKind.wrap .i64 (at_ - e.c.1)) failed t75 (λt77 aY=>Q aY) aA) V)
    (λm I=>∃ T' y F,Zba I T' y F/\GOK F/\F.r=G.r/\y.eb=L.eb/\GrG T7 T' h8 I/\((ofK G.r 2 e.c.2.1).drop m).foldl (ZmA at_ (IntKind.wrap .i64 (at_ - e.c.1)) failed e.pr) F=(ofK G.r 2 e.c.2.1).foldl (ZmA at_ (IntKind.wrap .i64 (at_ - e.c.1)) failed e.pr) (G.over number at_ failed e)/\(∀ b,T b=some .ro->obj I b=obj h b)/\(∀ b,T b=some .ro->T' b=some .ro))
    (by have:=ZBM ok.good.s 2 e.c.2.1;omega) (λm I ⟨T',y,F,W,_,_,_,g',_⟩=>?_) ⟨T7,L,_,M.ext e8,aw,rfl,rfl,GrG.refl _ _,rfl,λb v=>?_,λb v=>G7.s.to v⟩ ?_ ?_
  ·refine (o8.congr (h':=I) λb ax aZ ba=>g'.old aZ ?_).row
   exact Classical.byContradiction λJ=>by
     have aa:b<sz E:=M.hT b J;have:sz E<=b:=ba;omega
  ·have l7:b<sz E:=by have:=Zby w.hT v;have:sz P<=sz E:=u7.size;omega
   exact (ZG e8 l7).trans (aS b v)
  ·rintro m k I Q ae ⟨T',y,F,W,af,ag,X,g',q,aB,A⟩ hQ
   obtain ⟨j,fb,u,hf⟩:=ZkI (show k∈ofL (λf:YK=>Zx f.res) e.c.2.1 G.r.br 0 from Axo ae);rw [Awb] at u;subst u;obtain ⟨B,hB⟩:∃ B,F.br[j]?=some B:=⟨_,Axy (by rw [af.lb,ag];exact Zbz hf)⟩;obtain ⟨p,hL⟩:=W.gb hB;have cE:obj I L.eb=some (geO F y.sb y.tb y.fm y.z y.f1 y.b1 y.h1):=by rw [<- X];exact W.cells
   have xh:obj I (sz h)=_:=(g'.old (show sz h<sz h8 by have:sz E<=sz h8:=e8.size;have:sz P<=sz E:=u7.size;omega) av).trans (Zj x7 e8);obtain ⟨b,o,_,_,aC,hc⟩:=ZbD (g:=λx:Nat × BkW=>bkL x.1 x.2.2) (n:=2) (λ_=>rfl) W.br.r hL (by decide);refine Za (Zg (rL (s:=y.b1) (Zb cE rfl) (aC rfl (rP (hc 0 _ rfl) (rI (hc 1 _ rfl) (ZI λg1 k1 d1 y1=>Zbb k1 λg2 k2 v2 y2=>rP (Zb k2 rfl) (rL (s:=s) (Zb (Zj xh (d1.then v2 λk d=>by subst d;exact Aqo _)) rfl) (rI (Zb k2 rfl) (ZvV (l:=e.pr) ?_ ⟨ZZ (Zb k2 rfl),?_⟩)))))))))
   ·have d2:Ext I g2:=d1.then v2 λk d=>by subst d;exact Aqo _
    refine Rw.ZgE a3 a4 λb v hl=>(ZG d2 ?_).trans (aB b v);exact Zby W.hT (A b v)
   have d2:Ext I g2:=d1.then v2 λk d=>by subst d;exact Aqo _
   have H:=W.ext d2;refine Zwf (H.br.e j _ hL) (λj u=>Zby H.hT u) λJ O9 k9 u9 g9=>?_;have E9:=H.setB (B':=⟨B.1.1.done B.1.2 at_ (IntKind.wrap .i64 (at_ - e.c.1)) failed (decide (B.2∈e.pr)),by rw [Zus];exact B.1.2⟩) hL k9 u9 g9
   have dk:ZmA at_ (IntKind.wrap .i64 (at_ - e.c.1)) failed e.pr F (j:Int)={ F with br:=F.br.set j (⟨B.1.1.done B.1.2 at_ (IntKind.wrap .i64 (at_ - e.c.1)) failed (decide (B.2∈e.pr)),by rw [Zus];exact B.1.2⟩,B.2)}:=by
     unfold ZmA;rw [Aqu,hB]
   have hm:=Zbz ae
   have hd:(ofK G.r 2 e.c.2.1).drop m=(j:Int)::(ofK G.r 2 e.c.2.1).drop (m+1):=by
     rw [Ayo hm];congr 1;exact (Ayh.1 ae).2
   rw [hd,Awq,dk] at q;refine hQ J ⟨_,_,_,E9,af.setB,ag,X,(g'.then d2).trans (GrG.tag H.hT u9 (λj u=>Xa u) (Aqo _)) (λj u=>Aqq (M.hT j u) e8.size),q,λb v=>?_,λb v=>?_⟩
   ·refine (u9.old b (Zby H.hT (A b v)) λD=>?_).trans ((ZG d2 (Zby W.hT (A b v))).trans (aB b v))
    have aa:T' b=some (.p p):=D;rw [A b v] at aa;cases aa
   ·exact (ZgD H.hT).to (A b v)
  ·rintro I ⟨T',y,F,W,af,ag,X,g',q,_,_⟩
   rw [Ayq (Aqo _)] at q;have e9:F=_:=q;subst e9;exact Za (d I T' y W X ((G7.then e8).trans g' w.hT))
end
end Go.Proofs.YthbfgkphlmlihaaGreat
