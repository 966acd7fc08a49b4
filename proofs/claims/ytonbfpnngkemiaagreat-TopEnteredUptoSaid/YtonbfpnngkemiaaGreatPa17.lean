/- The walk over all rules: hot parameters. -/
import Derived.Test.YtonbfpnngkemiaaGreatPa16
set_option linter.unusedVariables false
set_option linter.unusedSimpArgs false
namespace Go.Proofs.YtonbfpnngkemiaaGreat
open Go Go.Fw Go.Js
theorem ZEd{f:Zen}(he:f.err=0):0<=f.index:=by
  unfold Zen.err at he;split at he
  ·split at he
   ·rename_i _ a;unfold Zen.good Js.inJ at a;simp only[Awn,decide_eq_true_eq]at a;omega
   ·cases he
  ·cases he
section
variable{h:Zf}{T:TgM}{L:Lay}{G:GS}{base wb:Nat}{t:Sl}{c:PC}{sl:Sl}{gr:Bool}{tks:List Tk}{wt:Int}{vs:List Value}
theorem Zlq{bx:Nat}(W:WkR h base wb L c sl gr tks wt t vs)(f:tks.length<=5000){v:Value}(hv:Zr v=true){K:Sl->Zf->Prop}(a:∀t' h',Own h' base t' 1 (vs++[v])->Upd (λk=>t.blk=some k) h h'->(t'.blk=t.blk\/t'.blk=some (sz h))->K t' h')(_:bx=bx):app 1 1 8 [.nilFunc] t 1 [v] h K:=by have hl:=W.o.len;simp only[Aqv]at hl;have d:=W.l;have lw:=Zp W.w;have e:=W.b;exact W.o.app (n:=1) rfl (by simp[hv]) rfl (by omega) (by omega) e λt' h' o _ u b=>a t' h' o u b
theorem ZEc{bx j:Nat}{f:Zen}{H:HtS}{al:List ByteArray}(V:Zb1 h T L G)(ok:GOK G)(hb:∀j,T j≠none->j<base/\j≠wb)(W:WkR h base wb L c sl gr tks wt t vs)(hn:tks.length<=3000)(cb:obj h bx=some (.cells [.pointer (some ⟨wb,0,none⟩)].toArray 103 (0,0)))(n0:base<=bx)(n1:bx≠wb)(n2:t.blk≠some bx)
    (ha:Row h sl 1 (al.map .string)) (bK:al≠[]->∀b,sl.blk=some b->b<base/\b≠wb) (Y:G.r.ho[j]?=some f) (hH:G.ho[j]?=some H)
    {Q:Bool->Zf->Prop} (C:∀h' t' aR,WkR h' base wb L c sl gr (tks++(Zos G c al (j:Int)).tk) (wtV wt (Zos G c al (j:Int)).wt) t' aR->WS wb t t' h h'->Q (Zos G c al (j:Int)).b h'):XC (j:Int) (some ⟨bx,0,none⟩) Q h:=by
  unfold XC Zd3;have lw:=Zp W.w;have lb:=W.b;have aS:=ZEd (ok.good.h f (Axo Y));have aI:sl.len=al.length:=by have:=ha.len;simp at this;omega
  have aJ:=ha.cap;have aK:=ha.big;obtain⟨D,hL⟩:=V.gh hH;obtain⟨hp,aU,aV,bL⟩:=V.rz.ho
  obtain ⟨p,aW,aX⟩:∃p,hp[j]?=some p/\p.2=f:=by
    rw[<-aU,Awy]at Y
    cases q:hp[j]? with
    |none=>rw[q]at Y;cases Y
    |some p=>rw[q]at Y;exact⟨p,rfl,Option.some.inj Y⟩
  subst aX
  have Z:Zos G c al (j:Int)=(match al[p.2.index.toNat]? with
    |some v=>⟨!hlV H c.1 v c.2.2.2.2.2,[.hot j v],none⟩
    |none=>⟨false,[],none⟩):=by
    unfold Zos;rw[Aqu,Y,hH];dsimp only;cases al[p.2.index.toNat]?<;>rfl
  refine ZkM (λ(s:Option Addr×Option Addr×Unit) a=>∃rb d,s.1=some ⟨rb,0,none⟩/\s.2.1=some ⟨d,0,none⟩/\obj a rb=some (.cells (Rw.Zlf p).toArray 72 (0,0))/\obj a d=some (.cells [pB D].toArray 166 (0,0))/\Ext h a/\sz h<=d) ?_ ?_
  ·rintro ⟨r,hq,u⟩ h1 ⟨rb,d,X,l,cr,ch,A,lx⟩;dsimp only at X l⊢;subst X;subst l;have W1:=W.ext A;have O:=Zj cb A;have ba:=ha.ext A;have w1:sz h<=sz h1:=A.size;have bM:=Zp ch;refine Zg (rI (Zb cr rfl) (Zg (rP (Zb O rfl) (Zg (rL (s:=sl) (Zb W1.w rfl) (Zo (λq=>?_) λq=>?_))))))
   ·have aa:al[p.2.index.toNat]?=none:=Aqt (by omega);rw[aa]at Z;have fin:=C h1 t vs (by rw[Z,Ayr];exact W1) (WS.ext A);rw[Z]at fin;exact fin
   have bc:p.2.index.toNat<al.length:=by omega
   obtain⟨v,hv⟩:∃v,al[p.2.index.toNat]?=some v:=⟨_,Axy bc⟩;rw[hv]at Z;dsimp only at Z;refine Zg (Zg (rP (Zb O rfl) (Zg (rL (s:=sl) (Zb W1.w rfl) (rI (Zb cr rfl) (ba.idx (i:=p.2.index) (n:=p.2.index.toNat) (by omega) (v:=.string v) (by rw[Awy,hv];rfl) λb o bN B=>⟨v,B,ZH λN c2 l z2=>?_⟩))))))
   have P:Zf.cell N b (o+p.2.index.toNat)=some (.string v):=by
     have bg:b<sz h1:=by
       rw[Yq]at B
       exact Classical.byContradiction λh9=>by
         rw[show obj h1 b=none from Aqe (by show h1.size<=b;have:¬b<h1.size:=h9;omega)]at B;cases B
     rw[Yq]at B⊢;rw[show obj N b=obj h1 b from l.old b bg];exact B
   have W2:=W1.ext l;have bh:=Zj O l;have w2:sz N=sz h1+1:=z2;refine⟨⟨P,trivial⟩,ZR (Zb (Zj cr l) rfl),ZR (Zb W2.w rfl),ZR (Zb bh rfl),Zbs c2 (show 0<1 by decide) rfl λh3 c3 u3 z3=>?_⟩;have w3:sz h3=sz N:=z3;have ag:Ext h1 h3:=l.then u3 λk C=>by subst C;exact Aqo _
   have W3:=W1.ext ag;have ah:=Zj O ag;refine Zg (rP (Zb ah rfl) (Zg (rP (Zb ah rfl) (Zg (rL (s:=t) (Zb W3.w rfl) (ZH λR c4 e4 z4=>?_))))));have W4:=W3.ext e4;have E:=Zj ah e4;have w4:sz R=sz h3+1:=z4;have ax:=ag.trans e4;have ay:=A.trans ax;refine⟨ZR (Zb W4.w rfl),ZR (Zb E rfl),ZR (Zb E rfl),(Zje c4 rfl).rd ?_⟩;refine Zlq (bx:=0) W4 (by omega) rfl (λt' h5 o5 u5 b5=>?_) rfl;have E4:=V.ext ay;have az:∀b,t.blk=some b->b<sz h:=λb hb=>(W.o.lt hb).2;have k5:∀{j:Nat} {x:Obj},obj R j=some x->t.blk≠some j->obj h5 j=some x:=λ{j x} d hn=>(u5.old j (Zp d) hn).trans d;have aA:=k5 E n2;have w5:=k5 W4.w W.n;refine⟨ZR (Zb aA rfl),ZR (Zb aA rfl),Zg (Zbs w5 (show 0+9<12 by decide) rfl λh6 c6 u6 z6=>?_)⟩;have k6:∀{j:Nat} {x:Obj},obj R j=some x->t.blk≠some j->j≠wb->obj h6 j=some x:=λ{j x} d hn hw=>(u6.old j (Zp (k5 d hn)) hw).trans (k5 d hn);have ai:∀{b:Nat} {x:Obj} {o:Nat} {vv:Value},obj R b=some x->ZA o (some x)=some vv->base<=b->b≠wb->t.blk≠some b->Bx R base wb t b o vv:=λ{b x o vv} h1 N h3 R h5=>⟨by rw[h1];exact N,h3,Zp h1,R,h5⟩;have aB:=Zj ch ax;have aC:=Zj c3 e4;have aD:t.blk≠some d:=λe=>by have:=az d e;omega
   have aE:t.blk≠some (sz h1):=λe=>by have:=az _ e;omega
   obtain⟨W6,s6⟩:=W4.add (v:=.func (.func 122) #[] #[pB d,pB bx,pB (sz h1)]) (tk:=.hot j v) (t':=t') (h':=h5) (h'':=h6) ⟨d,bx,sz h1,D,rfl,ai aB rfl (by omega) (by omega) aD,ai E rfl n0 n1 n2,ai aC rfl (by omega) (by omega) aE,by rw[hL];rfl⟩ o5 u5 b5 c6 u6;have E6:=E4.walk hb W4 s6;have bm:=k6 aB aD (show d≠wb by omega);have S:=k6 E n2 n1;have bn:=k6 aC aE (show sz h1≠wb by omega);refine Zg (rP (Zb bm rfl) (Zg (rP (Zb S rfl) (Zg (rI (Zb W6.w rfl) (rS (Zb bn rfl) (Zg (rP (Zb S rfl) (Zg (rI (Zb W6.w rfl) ?_))))))))));obtain⟨Th,bo,_⟩:=E6.ho.e j (D,H) hL;obtain⟨er,_,hs⟩:=Classical.choose_spec (ZqS H c.1 v c.2.2.2.2.2);refine hs bo λh7 e7=>⟨ZR (Zb (Zj S e7) rfl),ZR (Zb (Zj S e7) rfl),Zd (Za (Zd ?_))⟩;have fin:=C h7 t' _ (by rw[Z];exact W6.ext e7) ((WS.pre ay s6).then e7);rw[Z]at fin;exact fin
  ·intro J hJ;obtain⟨U,oo,_,bp,aF,B⟩:=Za5 (g:=Rw.Zlf) (n:=5) (λ_=>rfl) aV.1 aW (by decide);obtain⟨b2,o2,_,bq,aj,P⟩:=Za5 (g:=λx:Nat×HtS=>[pN x.1]) (n:=1) (λ_=>rfl) V.ho.r hL (by decide);refine Zg (rP (Zb cb rfl) (Zg (rP (Zb W.w rfl) (Zg (rL (s:=L.z.2.2.1) (Zb V.cells rfl) (aF rfl (rS (B 0 _ rfl) (rI (B 1 _ rfl) (rI (B 2 _ rfl) (rI (B 3 _ rfl) (rL (s:=p.1) (B 4 _ rfl) (Zg (rP (Zb cb rfl) (Zg (rP (Zb W.w rfl) (Zg (rL (s:=L.h1) (Zb V.cells rfl) (aj rfl (rP (P 0 _ rfl) ?_)))))))))))))))))))
   have H:∀a,Ext h a->Zm a [(b2,o2,pB D)]/\Zm a [(L.eb,0+8+2,slV L.h1)]/\Zm a [(wb,0,.pointer (some ⟨L.eb,0,none⟩))]/\Zm a [(bx,0,.pointer (some ⟨wb,0,none⟩))]/\Zm a [(U,oo,.string (Zx p.2.res)),(U,oo+1,iv p.2.index),(U,oo+2,iv p.2.cnt),(U,oo+3,iv p.2.secs),(U,oo+4,slV p.1)]/\Zm a [(L.eb,0+3+2,slV L.z.2.2.1)]:=λa e=>by
     have kb:∀j v,(Rw.Zlf p)[j]?=some v->Zf.cell a U (oo+j)=some v:=λj v hj=>by
       rw[Yq,show obj a U=obj h U from e.old U bp];exact B j v hj
     have bt:Zf.cell a b2 o2=some (pB D):=by
       rw[Yq,show obj a b2=obj h b2 from e.old b2 bq];exact P 0 _ rfl
     exact⟨⟨bt,trivial⟩,ZR (Zb (V.ext e).cells rfl),ZR (Zb (W.ext e).w rfl),ZR (Zb (Zj cb e) rfl),⟨kb 0 _ rfl,kb 1 _ rfl,kb 2 _ rfl,kb 3 _ rfl,kb 4 _ rfl,trivial⟩,ZR (Zb (V.ext e).cells rfl)⟩
   refine⟨ZH λh1 c1 X z1=>?_,ZH λh1 c1 X z1=>?_⟩
   ·obtain ⟨F,I,m,y,g5,g6⟩:=H h1 X
    refine⟨F,I,m,y,g5,g6,m,y,ZH λN c2 l z2=>?_⟩;have K:=X.trans l;obtain⟨F,I,m,y,g5,g6⟩:=H N K;refine⟨F,I,m,y,g5,g6,m,y,Zaw (Zj c1 l) λh3 c3 u3 z3=>?_⟩;have w1:sz h1=sz h+1:=z1;have M:Ext h h3:=K.then u3 λk C=>by subst C;exact Aqo _
    obtain⟨F,I,m,y,_,_⟩:=H h3 M;have bw:obj h3 (sz h1)=_:=(u3.old (sz h1) (Zp c2) (show ¬sz h1=sz h by omega)).trans c2;refine⟨F,I,m,y,Zbs bw (show 0<1 by decide) rfl λR c4 u4 z4=>hJ _ _ ⟨sz h,sz h1,rfl,rfl,?_,c4,M.then u4 (λk C=>by subst C;show sz h<=sz h1;omega),by omega⟩⟩;exact(u4.old (sz h) (Zp c3) (show ¬sz h=sz h1 by omega)).trans c3
   ·obtain ⟨F,I,m,y,g5,g6⟩:=H h1 X
    refine⟨F,I,m,y,g5,g6,m,y,ZH λN c2 l z2=>?_⟩;have K:=X.trans l;obtain⟨F,I,m,y,g5,g6⟩:=H N K;refine⟨F,I,m,y,g5,g6,m,y,Zaw c2 λh3 c3 u3 z3=>?_⟩;have w1:sz h1=sz h+1:=z1;have M:Ext h h3:=K.then u3 λk C=>by subst C;show sz h<=sz h1;omega
    obtain⟨F,I,m,y,_,_⟩:=H h3 M;have bz:obj h3 (sz h)=_:=(u3.old (sz h) (Zp (Zj c1 l)) (show ¬sz h=sz h1 by omega)).trans (Zj c1 l);refine⟨F,I,m,y,Zbs bz (show 0<1 by decide) rfl λR c4 u4 z4=>hJ _ _ ⟨sz h1,sz h,rfl,rfl,?_,c4,M.then u4 (λk C=>by subst C;exact Aqo _),by omega⟩⟩;exact(u4.old (sz h1) (Zp c3) (show ¬sz h1=sz h by omega)).trans c3
theorem ZGS{al:List ByteArray}(C:Zb1 h T L G)(ok:GOK G)(v:∀j,T j≠none->j<base/\j≠wb)(W:WkR h base wb L c sl gr tks wt t vs)(D:tks.length<=2000)(E:Row h sl 1 (al.map .string))(d:al≠[]->∀b,sl.blk=some b->b<base/\b≠wb)
    {K:Int->Bool->Zf->Prop} (F:∀h' t' a x,ZgL (Zos G c al) (ofK G.r 3 c.2.1) (tks,wt)=x->WkR h' base wb L c sl gr x.2.1 x.2.2 t' a->WS wb t t' h h'->x.2.1.length<=tks.length+256->K (x.1.getD 0) x.1.isSome h'):Zbi (some ⟨wb,0,none⟩) K h:=by
  unfold Zbi Zfp;have lw:=Zp W.w;have lb:=W.b;refine ZH λh1 c1 m P=>Za (rP (Zb c1 rfl) ?_);show ZC ZaO XC (some ⟨wb,0,none⟩) 3 (some ⟨sz h,0,none⟩,()) _ h1;have n:=E.ext m;refine ZqA (f91:=XC) (f:=Zos G c al) (R:=λy=>Row y sl 1 (al.map .string)) (C.ext m) ok v (W.ext m) D c1 (show sz h≠wb by omega) (λe=>by have:sz h<sz h:=(W.o.lt e).2;omega) (λI=>n.congr λb o g i hl=>I b hl ?_ ?_) (λk=>?_) ?_ λh' t' a x hw p s hl=>F h' t' a x hw p (WS.pre m s) hl
  ·exact(d (λq=>i (by rw[q];rfl)) b (by simp[Sl.blk,g])).2
  ·intro e;have:=(d (λq=>i (by rw[q];rfl)) b (by simp[Sl.blk,g])).1;have:=(W.o.lt e).1;omega
  ·unfold Zos;split
   ·split
    ·exact Aqo _
    ·exact Aye _
   ·exact Aye _
  intro k u y z wt' t' a Q J p M hl cb N l;obtain⟨j,f,A,B⟩:=Zku (show k∈ofL (λf:Zen=>Zx f.res) c.2.1 G.r.ho 0 from u);rw[Awb]at A;subst A;obtain⟨H,O⟩:∃H,G.ho[j]?=some H:=⟨_,Axy (by rw[ok.lh];exact Zbn B)⟩;exact ZEc J ok v p hl cb (show base<=sz h by omega) (show sz h≠wb by omega) N M d B O l
end
section
variable{h:Zf}{T:TgM}{L:Lay}{G:GS}{base wb:Nat}{t:Sl}{c:PC}{sl:Sl}{gr:Bool}{tks:List Tk}{wt:Int}{vs:List Value}
theorem Zyk{bx j:Nat}{B:BkW}(E:Zb1 h T L G)(J:∀j,T j≠none->j<base/\j≠wb)(W:WkR h base wb L c sl gr tks wt t vs)(q:tks.length<=3000)(cb:obj h bx=some (.cells [.pointer (some ⟨wb,0,none⟩)].toArray 103 (0,0)))(n0:base<=bx)(V:bx≠wb)(K:t.blk≠some bx)(X:G.br[j]?=some B)
    {Q:Bool->Zf->Prop} (M:∀h' t' N,WkR h' base wb L c sl gr (tks++(Zot G c (j:Int)).tk) (wtV wt (Zot G c (j:Int)).wt) t' N->WS wb t t' h h'->Q (Zot G c (j:Int)).b h'):Xi (j:Int) (some ⟨bx,0,none⟩) Q h:=by
  unfold Xi ZcP;have lw:=Zp W.w;have lb:=W.b;obtain⟨Y,O⟩:=E.gb X
  have Z:Zot G c (j:Int)=⟨!Zua B.1.1 c.1,[.brk j],none⟩:=by
    unfold Zot;rw[Aqu,X]
  obtain⟨b,o,_,_,u,hc⟩:=Za5 (g:=λx:Nat×BkW=>bkL x.1 x.2.2) (n:=2) (λ_=>rfl) E.br.r O (by decide);refine Zg (rP (Zb cb rfl) (Zg (rP (Zb W.w rfl) (Zg (rL (s:=L.b1) (Zb E.cells rfl) (u rfl (rP (hc 0 _ rfl) (rI (hc 1 _ rfl) (ZH λh1 c1 e1 z1=>Zaw c1 λh3 c3 u3 z3=>?_)))))))));have w1:sz h1=sz h+1:=z1;have w3:sz h3=sz h1:=z3;have d:Ext h h3:=e1.then u3 λk M=>by subst M;exact Aqo _
  have W3:=W.ext d;have f:=Zj cb d;refine Zg (rP (Zb f rfl) (Zg (rP (Zb f rfl) (Zg (rL (s:=t) (Zb W3.w rfl) (ZH λp c4 F z4=>?_))))));have y:=W3.ext F;have a:=Zj f F;have z:=d.trans F;refine⟨ZR (Zb y.w rfl),ZR (Zb a rfl),ZR (Zb a rfl),(Zje c4 rfl).rd ?_⟩;refine Zlq (bx:=0) y (by omega) rfl (λt' H o5 u5 b5=>?_) rfl;have E4:=E.ext z;have P:∀b,t.blk=some b->b<sz h:=λb J=>(W.o.lt J).2;have I:∀{j:Nat} {x:Obj},obj p j=some x->t.blk≠some j->obj H j=some x:=λ{j x} A q=>(u5.old j (Zp A) q).trans A;have C:=I a K;have w5:=I y.w W.n;refine⟨ZR (Zb C rfl),ZR (Zb C rfl),Zg (Zbs w5 (show 0+9<12 by decide) rfl λR c6 u6 z6=>?_)⟩;have k6:∀{j:Nat} {x:Obj},obj p j=some x->t.blk≠some j->j≠wb->obj R j=some x:=λ{j x} A q hw=>(u6.old j (Zp (I A q)) hw).trans (I A q);have i:∀{b:Nat} {x:Obj} {o:Nat} {S:Value},obj p b=some x->ZA o (some x)=some S->base<=b->b≠wb->t.blk≠some b->Bx p base wb t b o S:=λ{b x o S} h1 h2 h3 p H=>⟨by rw[h1];exact h2,h3,Zp h1,p,H⟩;have l:=Zj c3 F;have m:t.blk≠some (sz h):=λe=>by have:sz h<sz h:=P _ e;omega
  obtain⟨W6,s6⟩:=y.add (v:=.func (.func 128) #[] #[pB (sz h),pB bx]) (tk:=.brk j) (t':=t') (h':=H) (h'':=R) ⟨sz h,bx,Y,B.2,rfl,i l rfl (by omega) (by omega) m,i l rfl (by omega) (by omega) m,i a rfl n0 V K,by rw[O];rfl⟩ o5 u5 b5 c6 u6;have E6:=E4.walk J y s6;have D:=k6 a K V;have U:=k6 l m (show sz h≠wb by omega);refine rP (Zb U rfl) (Zg (rP (Zb D rfl) (Zg (rI (Zb W6.w rfl) ?_))));obtain⟨wn,mb,cB,_⟩:=(E6.br.e j (Y,B) O).ex;refine Zv5 cB λe9=>⟨ZR (Zb D rfl),Zd (Za (Zd ?_))⟩;have fin:=M R t' _ (by rw[Z];exact W6) (WS.pre z s6);rw[Z]at fin;exact fin
theorem ZA6(q:Zb1 h T L G)(ok:GOK G)(m:∀j,T j≠none->j<base/\j≠wb)(W:WkR h base wb L c sl gr tks wt t vs)(u:tks.length<=2000)
    {K:Int->Bool->Zf->Prop} (v:∀h' t' a x,ZgL (Zot G c) (ofK G.r 2 c.2.1) (tks,wt)=x->WkR h' base wb L c sl gr x.2.1 x.2.2 t' a->WS wb t t' h h'->x.2.1.length<=tks.length+256->K (x.1.getD 0) x.1.isSome h'):Zao (some ⟨wb,0,none⟩) K h:=by
  unfold Zao Zd7;have lw:=Zp W.w;have lb:=W.b;refine ZH λh1 c1 g D=>Za (rP (Zb c1 rfl) ?_);show ZC ZaO Xi (some ⟨wb,0,none⟩) 2 (some ⟨sz h,0,none⟩,()) _ h1;refine ZqA (f91:=Xi) (f:=Zot G c) (R:=λ_=>True) (q.ext g) ok m (W.ext g) u c1 (show sz h≠wb by omega) (λe=>by have:sz h<sz h:=(W.o.lt e).2;omega) (λ_=>trivial) (λk=>?_) ?_ λh' t' a x hw i s hl=>v h' t' a x hw i (WS.pre g s) hl
  ·unfold Zot;split
   ·exact Aqo _
   ·exact Aye _
  intro k l E n wt' t' a Q y i _ hl cb z d;obtain⟨j,f,p,A⟩:=Zku (show k∈ofL (λf:YN=>Zx f.res) c.2.1 G.r.br 0 from l);rw[Awb]at p;subst p;obtain⟨B,C⟩:∃B,G.br[j]?=some B:=⟨_,Axy (by rw[ok.lb];exact Zbn A)⟩;exact Zyk y m i hl cb (show base<=sz h by omega) (show sz h≠wb by omega) z C d
end
theorem Zhz{res:ByteArray}{h:Zf}{K:K4->Zf->Prop}(b:∀h',Ext h h'->K (4,em,res,em,()) h'):Zbl res K h:=by unfold Zbl Zg2;refine ZH λh1 c1 c f=>Zaw c1 λd a e g=>?_;exact rI (Zb a rfl) (rS (Zb a rfl) (rS (Zb a rfl) (rS (Zb a rfl) (b d (c.then e λk b=>by subst b;exact Aqo _)))))
abbrev k4O(k:K4):Obj:=.cells (k4L k).toArray 114 (0,0)
section
variable{h:Zf}{T:TgM}{L:Lay}{G:GS}{base wb:Nat}{t:Sl}{c:PC}{sl:Sl}{gr:Bool}{tks:List Tk}{wt:Int}{vs:List Value}
theorem ZGw{f:FlowP}(I:Zb1 h T L G)(W:WkR h base wb L c sl gr tks wt t vs){K:Option Addr->Zf->Prop}(d:∀h' p,Ext h h'->Zn9 h' p (G.t.f (Zwf (Zbe (Rw.ZcW f) (cl c nl))))->K p h'):Zc6 (some ⟨wb,0,none⟩) (Rw.ZcW f) K h:=by
  have hw:Zbe (Rw.ZcW f) (cl c sl)=Zbe (Rw.ZcW f) (cl c nl):=rfl;rw[<-hw]at d;unfold Zc6 Zfn;refine ZH λh1 c1 y z1=>ZkM (λs a=>∃lb,s=(some ⟨lb,0,none⟩,())/\Ext h a/\obj a lb=some (.cells [.string (Zbe (Rw.ZcW f) (cl c sl)).1,.string (Zbe (Rw.ZcW f) (cl c sl)).2.1,.string (Zbe (Rw.ZcW f) (cl c sl)).2.2.1,.bool (Zbe (Rw.ZcW f) (cl c sl)).2.2.2.1].toArray 331 (0,0))) ?_ ?_
  ·generalize Zbe (Rw.ZcW f) (cl c sl)=l at d⊢
   rintro _ C ⟨lb,rfl,g,V⟩;dsimp only;refine Zg (rS (Zb V rfl) (Zhz λh3 n=>ZH λD z e4 z4=>Zaw z λE J u5 z5=>?_));have M:Ext h3 E:=e4.then u5 λk d=>by subst d;exact Aqo _
   have A:=n.trans M;have v:=Zj V A;have i:=g.trans A;have w5:=(W.ext i).w;have af:=I.ext i;have lw:=Zp W.w;have ag:=Zp I.cells;have w3:sz h<=sz h3:=(g.trans n).size;have w4:sz D=sz h3+1:=z4;have ai:sz E=sz D:=z5;refine ZkM (λ(_:Unit) a=>obj a (sz h3)=some (k4O (Zwf l))/\Ext h a) ?_ ?_
   ·rintro _ F ⟨m,N⟩;have X:=(W.ext N).w;have B:=I.ext N;refine Zg (rP (Zb X rfl) (Zg (rP (Zb B.cells rfl) (rI (Zb m rfl) (rS (Zb m rfl) (rS (Zb m rfl) (rS (Zb m rfl) ?_)))))));exact Zma (k:=Zwf l) B.tree λh7 p Y f7=>⟨ZR (Zb (Zj X Y) rfl),d h7 p (N.trans Y) f7⟩
   ·intro Q x
    have up:∀{a:Zf},Upd (· = sz h3) E a->Ext h a:=λ{a} u=>i.then u λk d=>by subst d;exact w3
    have ff:∀{b:Bool},b=true->¬b=false:=λj Z=>by rw[j]at Z;cases Z
    refine Zg (rS (Zb v rfl) (Zd ⟨λq=>?_,λq=>?_⟩))
    ·have H:Yr l.2.2.1 em=false:=by
       have j:(!Yr l.2.2.1 em)=true:=q;simpa using j
     refine Zg (rS (Zb v rfl) (Zg (rS (Zb v rfl) (Zaw J λF m O z6=>x () F ⟨?_,up O⟩))));unfold Zwf;rw[if_pos H];exact m
    ·have H:Yr l.2.2.1 em=true:=by
       have j:(!Yr l.2.2.1 em)=false:=q;simpa using j
     refine Zg (rS (Zb v rfl) (Zd ⟨λP=>?_,λP=>?_⟩))
     ·have o:Yr l.2.1 em=false:=by
        have j:(!Yr l.2.1 em)=true:=P;simpa using j
      refine Zg (rS (Zb v rfl) (Zg (rS (Zb v rfl) (Zaw J λF m O z6=>x () F ⟨?_,up O⟩))));unfold Zwf;rw[if_neg (ff H),if_pos o];exact m
     ·have o:Yr l.2.1 em=true:=by
        have j:(!Yr l.2.1 em)=false:=P;simpa using j
      refine x () E ⟨?_,i⟩;unfold Zwf;rw[if_neg (ff H),if_neg (ff o)];exact J
  ·intro Q x;have w1:=(W.ext y).w
   have R:∀a,Ext h1 a->Zm a [(wb,0+1,iv c.1),(wb,0+1+1,.string c.2.1),(wb,0+1+2,.string c.2.2.1),(wb,0+1+3,.string c.2.2.2.1),(wb,0+1+4,.bool c.2.2.2.2.1),(wb,0+1+5,iv c.2.2.2.2.2),(wb,0+1+6,slV sl)]:=λa e=>by
     have w:=Zj w1 e;exact⟨Zb w rfl,Zb w rfl,Zb w rfl,Zb w rfl,Zb w rfl,Zb w rfl,Zb w rfl,trivial⟩
   have S:∀a,Ext h1 a->Zm a [(sz h,0,.string (Zx f.res)),(sz h,0+1,.string (Zx f.org)),(sz h,0+2,.bool f.thr),(sz h,0+3,iv f.cnt),(sz h,0+4,.int .u8 f.strat),(sz h,0+5,.string (Zx f.ref)),(sz h,0+6,.int .u8 f.shape),(sz h,0+7,iv f.warm),(sz h,0+8,iv f.queue),(sz h,0+9,.bool f.clu),(sz h,0+10,iv f.id),(sz h,0+11,.bool f.fb)]:=λa e=>by
     have w:=Zj c1 e;exact⟨Zb w rfl,Zb w rfl,Zb w rfl,Zb w rfl,Zb w rfl,Zb w rfl,Zb w rfl,Zb w rfl,Zb w rfl,Zb w rfl,Zb w rfl,Zb w rfl,trivial⟩
   refine Zg (rS (Zb c1 rfl) (rS (Zb c1 rfl) (rB (Zb c1 rfl) (rI (Zb c1 rfl) (rI (Zb c1 rfl) (rS (Zb c1 rfl) (rI (Zb c1 rfl) (rI (Zb c1 rfl) (rI (Zb c1 rfl) (rB (Zb c1 rfl) (rI (Zb c1 rfl) (rB (Zb c1 rfl) (rI (Zb w1 rfl) (rS (Zb w1 rfl) (rS (Zb w1 rfl) (rS (Zb w1 rfl) (rB (Zb w1 rfl) (rI (Zb w1 rfl) (rL (s:=sl) (Zb w1 rfl) ⟨?_,?_⟩)))))))))))))))))))
   ·refine Ztp (r:=Rw.ZcW f) (c:=cl c sl) λC g=>ZH λh3 c3 n z3=>Zaw c3 λD z U z4=>x _ _ ⟨_,rfl,?_,z⟩;exact((y.trans g).trans n).then U λk d=>by subst d;exact(y.trans g).size
   ·refine ZH λC c2 g z2=>⟨R C g,S C g,Ztp (r:=Rw.ZcW f) (c:=cl c sl) λh3 n=>Zaw (Zj c2 n) λD z U z4=>x _ _ ⟨_,rfl,?_,z⟩⟩;exact((y.trans g).trans n).then U λk d=>by subst d;exact y.size
end
section
variable{h:Zf}{T:TgM}{L:Lay}{G:GS}{base wb:Nat}{t:Sl}{c:PC}{sl:Sl}{gr:Bool}{tks:List Tk}{wt:Int}{vs:List Value}
theorem ZwF(W:WkR h base wb L c sl gr tks wt t vs){wait x:Int}{b:Bool}{K:Bool->Zf->Prop}(a:∀h',WkR h' base wb L c sl gr tks (Zid wt wait) t vs->WS wb t t h h'->K b h'):Zcs (some ⟨wb,0,none⟩) wait b x K h:=by unfold Zcs ZeX;refine Zg (rI (Zb W.w rfl) (Zg (Zbs W.w (show 0+11<12 by decide) rfl λh1 c1 d f=>Zd ?_)));obtain⟨e,s1⟩:=W.wait (wt':=Zid wt wait) c1 d;exact a h1 e s1
theorem ZGX{i:Nat}{f:FlowP}{s:ShS}{p:ShP}(hE:Zb1 h T L G)(hb:∀j,T j≠none->j<base/\j≠wb)(W:WkR h base wb L c sl gr tks wt t vs)(hn:tks.length<=3000)(hL:L.fs[i]?=some (p,s))(aC:ZAr f s){Q:Bool->Zf->Prop}
    (F:∀h' t' bH,WkR h' base wb L c sl gr (tks++(ZkK f s (G.t.f (Zwf (Zbe (Rw.ZcW f) (cl c nl)))) c i).tk) (wtV wt (ZkK f s (G.t.f (Zwf (Zbe (Rw.ZcW f) (cl c nl)))) c i).wt) t' bH->WS wb t t' h h'->Q (!(ZkK f s (G.t.f (Zwf (Zbe (Rw.ZcW f) (cl c nl)))) c i).b) h'):Zbj (some ⟨wb,0,none⟩) (Rw.ZcW f) (p.1,p.2,()) Q h:=by
  have lw:=Zp W.w;have lb:=W.b;have M:∀j,sz h<=j->t.blk≠some j:=λj hj e=>by have:j<sz h:=(W.o.lt e).2;omega
  unfold Zbj Zfq;refine ZH λh1 c1 e1 z1=>ZH λh3 c3 e3 z3=>?_;have w1:sz h1=sz h+1:=z1;have X:=Zj c1 e3;refine rS (Zb X rfl) (rS (Zb X rfl) (rB (Zb X rfl) (rI (Zb X rfl) (rI (Zb X rfl) (rS (Zb X rfl) (rI (Zb X rfl) (rI (Zb X rfl) (rI (Zb X rfl) (rB (Zb X rfl) (rI (Zb X rfl) (rB (Zb X rfl) (?_))))))))))));have aP:=e1.trans e3;refine ZGw (hE.ext aP) (W.ext aP) λcC q aQ f16=>?_;generalize G.t.f (Zwf (Zbe (Rw.ZcW f) (cl c nl)))=o at F f16;have ae:=aP.trans aQ;refine Zg (rI (Zb (W.ext ae).w rfl) (ZgK f16 λaf bg=>ZH λcD bI bJ z23=>Zaw bI λbK bL bM z24=>Za ?_));have ag:sz h<=sz af:=(ae.trans bg).size;have aR:Ext af bK:=bJ.then bM λk F=>by subst F;exact Aqo _
  have C:=bg.trans aR;have aI:=ae.trans C;refine Zg (rI (Zb (W.ext aI).w rfl) (Ztx (f16.ext C) λcE U ah=>ZH λcF bN bO z32=>Zbs bN (show 0<1 by decide) rfl λd bP bQ z33=>Za ?_));have aJ:=aI.trans ah;have D:Ext U d:=bO.then bQ λk F=>by subst F;exact Aqo _
  have ai:=aJ.trans D;have V:sz h<=sz U:=aJ.size;have aj:sz h<=sz d:=ai.size;have cr:obj d (sz h)=_:=Zj X ((aQ.trans C).trans (ah.trans D));have cs:obj d (sz h1)=_:=Zj c3 ((aQ.trans C).trans (ah.trans D));have cS:obj d (sz af)=_:=Zj bL (ah.trans D);have cP:obj d (sz U)=_:=bP;refine ZkM (λ(s:Option Addr×Option Addr×Unit) hh=>∃ab nb,s.1=some ⟨ab,0,none⟩/\s.2.1=some ⟨nb,0,none⟩/\obj hh ab=some (.cells [iv c.1].toArray 3 (0,0))/\obj hh nb=some (.cells [iv c.2.2.2.2.2].toArray 3 (0,0))/\Ext d hh/\sz d<=ab/\sz d<=nb) ?_ ?_
  ·rintro ⟨sa,sn,u⟩ bh ⟨ab,nb,ea,en,ca,cn,B,la,ln⟩;dsimp only at ea en⊢;subst ea;subst en;have r:=ai.trans B;have ls:sz h<=sz h1:=e1.size;have Y:sz h<=ab:=Aqp aj la;have Z:sz h<=nb:=Aqp aj ln;have g:=Zj cr (B);have I:=Zj cs (B);have aF:=Zj cS (B);have aa:=Zj cP (B);have f55:=f16.ext (C.trans (ah.trans (D.trans B)));refine rI (Zb g rfl) (Zd (Z0 (λq1=>?_) λq1=>Zd (Z0 (λq2=>?_) λq2=>Zd (Z0 (λq3=>?_) λq3=>?_))))
   ·have bj:f.shape=1:=by have:(f.shape:Int)=1:=q1;omega
    have aS:=hE.ext r;obtain⟨p1,p2⟩:=p;obtain⟨s1,s2⟩:=s
    cases s2 with
    |none=>exact absurd rfl (aC.2 (.inl bj))
    |some w=>
    have lk:ZkK f (s1,some w) o c i=⟨!wlV w c.1 (Ziq o c.1) (Zsg o c.1).1 c.2.2.2.2.2,[.warm i (Ziq o c.1) (Zsg o c.1).1],none⟩:=by
      unfold ZkK;rw[if_pos bj]
    have an:=W.ext r;refine Zg (rL (s:=t) (Zb an.w rfl) (ZH λy ao a bk=>(Zje ao rfl).rd ?_));have l:=r.trans a;have z:=W.ext l;refine Zlq (bx:=0) z (by omega) rfl (λt' O aq u64 ar=>?_) rfl;have E:∀{j:Nat} {x:Obj},obj y j=some x->t.blk≠some j->obj O j=some x:=λ{j x} P hn=>(u64.old j (Zp P) hn).trans P;have au:=E z.w W.n;refine Zg (Zbs au (show 0+9<12 by decide) rfl λN av R bl=>?_);have A:∀{j:Nat} {x:Obj},obj y j=some x->sz h<=j->obj N j=some x:=λ{j x} P hj=>(R.old j (Zp (E P (M j hj))) (show ¬j=wb by omega)).trans (E P (M j hj));have m:∀{b:Nat} {x:Obj} {o:Nat} {vv:Value},obj y b=some x->ZA o (some x)=some vv->sz h<=b->Bx y base wb t b o vv:=λ{b x o vv} h1 h2 h3=>⟨by rw[h1];exact h2,by omega,Zp h1,by omega,M b h3⟩;obtain⟨ax,S⟩:=z.add (v:=.func (.func 182) #[] #[pB (sz h1),pB ab,pB (sz U),pB (sz af),pB nb]) (tk:=.warm i (Ziq o c.1) (Zsg o c.1).1) (t':=t') (h':=O) (h'':=N) ⟨sz h1,ab,sz U,sz af,nb,(p1,p2),rfl,m (Zj I a) rfl ls,m (Zj ca a) rfl Y,m (Zj aa a) rfl V,m (Zj aF a) rfl ag,m (Zj cn a) rfl Z,by rw[hL];rfl⟩ aq u64 ar av R;have ay:=(hE.ext l).walk hb z S;obtain⟨aT,ep,cw,_⟩:=(ay.fl.e i _ hL).2;have az:p2=some ⟨aT,0,none⟩:=ep;subst az;refine rP (Zb (A (Zj I a) ls) rfl) (Zg (rI (Zb (A (Zj ca a) Y) rfl) (rI (Zb (A (Zj aa a) V) rfl) (rI (Zb (A (Zj aF a) ag) rfl) (Zg (rI (Zb (A (Zj cn a) Z) rfl) ?_))))));obtain⟨er,hs⟩:=Classical.choose_spec (Zuv w c.1 (Ziq o c.1) (Zsg o c.1).1 c.2.2.2.2.2);refine hs cw λbp aA=>Zd (Za (Zd ?_));have fin:=F bp t' _ (by rw[lk];exact ax.ext aA) ((WS.pre l S).then aA);rw[lk]at fin;dsimp only at fin;rw[Bool.not_not]at fin;exact fin
   ·have bq:f.shape=2:=by have:(f.shape:Int)=2:=q2;omega
    have aS:=hE.ext r;obtain⟨p1,p2⟩:=p;obtain⟨s1,s2⟩:=s
    cases s1 with
    |none=>exact absurd rfl (aC.1 (.inl bq))
    |some w=>
    have lk:ZkK f (some w,s2) o c i=⟨!(plV w c.1 c.2.2.2.2.2).2.1,[.pace i],some (plV w c.1 c.2.2.2.2.2).1⟩:=by
      unfold ZkK;rw[if_neg (by omega),if_pos bq]
    have an:=W.ext r;refine Zg (rL (s:=t) (Zb an.w rfl) (ZH λy ao a bk=>(Zje ao rfl).rd ?_));have l:=r.trans a;have z:=W.ext l;refine Zlq (bx:=0) z (by omega) rfl (λt' O aq u64 ar=>?_) rfl;have E:∀{j:Nat} {x:Obj},obj y j=some x->t.blk≠some j->obj O j=some x:=λ{j x} P hn=>(u64.old j (Zp P) hn).trans P;have au:=E z.w W.n;refine Zg (Zbs au (show 0+9<12 by decide) rfl λN av R bl=>?_);have A:∀{j:Nat} {x:Obj},obj y j=some x->sz h<=j->obj N j=some x:=λ{j x} P hj=>(R.old j (Zp (E P (M j hj))) (show ¬j=wb by omega)).trans (E P (M j hj));have m:∀{b:Nat} {x:Obj} {o:Nat} {vv:Value},obj y b=some x->ZA o (some x)=some vv->sz h<=b->Bx y base wb t b o vv:=λ{b x o vv} h1 h2 h3=>⟨by rw[h1];exact h2,by omega,Zp h1,by omega,M b h3⟩;obtain⟨ax,S⟩:=z.add (v:=.func (.func 185) #[] #[pB (sz h1),pB ab,pB nb]) (tk:=.pace i) (t':=t') (h':=O) (h'':=N) ⟨sz h1,ab,nb,(p1,p2),rfl,m (Zj I a) rfl ls,m (Zj ca a) rfl Y,m (Zj cn a) rfl Z,by rw[hL];rfl⟩ aq u64 ar av R;have ay:=(hE.ext l).walk hb z S;obtain⟨aT,ep,cw,_⟩:=(ay.fl.e i _ hL).1;have az:p1=some ⟨aT,0,none⟩:=ep;subst az;refine rP (Zb (A (Zj I a) ls) rfl) (Zg (rI (Zb (A (Zj ca a) Y) rfl) (Zg (rI (Zb (A (Zj cn a) Z) rfl) ?_))));refine Classical.choose_spec (Zux w c.1 c.2.2.2.2.2) cw λbp aA=>ZwF (ax.ext aA) λaU aV aW=>Zd ?_;have fin:=F aU t' _ (by rw[lk];exact aV) (((WS.pre l S).then aA).trans aW);rw[lk]at fin;dsimp only at fin;rw[Bool.not_not]at fin;exact fin
   ·have aX:f.shape=3:=by have:(f.shape:Int)=3:=q3;omega
    have aS:=hE.ext r;obtain⟨p1,p2⟩:=p;obtain⟨s1,s2⟩:=s
    cases s1 with
    |none=>exact absurd rfl (aC.1 (.inr aX))
    |some w1=>
    cases s2 with
    |none=>exact absurd rfl (aC.2 (.inr aX))
    |some w2=>
    obtain⟨⟨b1,bU,cL,_⟩,⟨b2,bV,bW,_⟩⟩:=aS.fl.e i _ hL;have bt:p1=some ⟨b1,0,none⟩:=bU;have bu:p2=some ⟨b2,0,none⟩:=bV;subst bt;subst bu
    have lk:ZkK f (some w1,some w2) o c i=⟨!(paV w1 c.1 c.2.2.2.2.2 (Zid (wrV w2 c.1 (Ziq o c.1)) 1)).2.1,[.wp i (Ziq o c.1) (Zid (wrV w2 c.1 (Ziq o c.1)) 1)],some (paV w1 c.1 c.2.2.2.2.2 (Zid (wrV w2 c.1 (Ziq o c.1)) 1)).1⟩:=by
      unfold ZkK;rw[if_neg (by omega),if_neg (by omega),if_pos aX]
    refine rP (Zb I rfl) (Zg (rI (Zb ca rfl) (rI (Zb aa rfl) ?_)));obtain⟨er,hs⟩:=Classical.choose_spec (Zuu w2 c.1 (Ziq o c.1));refine hs bW λK d1=>ZH λg2 k2 d2 y2=>Zbs k2 (show 0<1 by decide) rfl λg3 k3 v3 y3=>Za (rI (Zb k3 rfl) (Zbs k3 (show 0<1 by decide) rfl λg4 k4 v4 y4=>?_));have d14:Ext K g4:=d2.then (v3.trans v4) λk F=>by subst F;exact Aqo _
    have dg:Ext bh g4:=d1.trans d14;have bz:sz h<=sz K:=(r.trans d1).size;have cu:=r;replace r:=r.trans dg;replace I:=Zj I dg;replace aa:=Zj aa dg;replace ca:=Zj ca dg;replace cn:=Zj cn dg;have an:=W.ext r;refine Zg (rL (s:=t) (Zb an.w rfl) (ZH λy ao a bk=>(Zje ao rfl).rd ?_));have l:=r.trans a;have z:=W.ext l;refine Zlq (bx:=0) z (by omega) rfl (λt' O aq u64 ar=>?_) rfl;have E:∀{j:Nat} {x:Obj},obj y j=some x->t.blk≠some j->obj O j=some x:=λ{j x} P hn=>(u64.old j (Zp P) hn).trans P;have au:=E z.w W.n;refine Zg (Zbs au (show 0+9<12 by decide) rfl λN av R bl=>?_);have A:∀{j:Nat} {x:Obj},obj y j=some x->sz h<=j->obj N j=some x:=λ{j x} P hj=>(R.old j (Zp (E P (M j hj))) (show ¬j=wb by omega)).trans (E P (M j hj));have m:∀{b:Nat} {x:Obj} {o:Nat} {vv:Value},obj y b=some x->ZA o (some x)=some vv->sz h<=b->Bx y base wb t b o vv:=λ{b x o vv} h1 h2 h3=>⟨by rw[h1];exact h2,by omega,Zp h1,by omega,M b h3⟩;obtain⟨ax,S⟩:=z.add (v:=.func (.func 190) #[] #[pB (sz h1),pB ab,pB (sz U),pB nb,pB (sz K)]) (tk:=.wp i (Ziq o c.1) (Zid (wrV w2 c.1 (Ziq o c.1)) 1)) (t':=t') (h':=O) (h'':=N) ⟨sz h1,ab,sz U,nb,sz K,(some ⟨b1,0,none⟩,some ⟨b2,0,none⟩),rfl,m (Zj I a) rfl ls,m (Zj I a) rfl ls,m (Zj ca a) rfl Y,m (Zj aa a) rfl V,m (Zj cn a) rfl Z,m (Zj k4 a) rfl bz,by rw[hL];rfl⟩ aq u64 ar av R;have ay:=(hE.ext l).walk hb z S;obtain⟨b9,ep,cw,_⟩:=(ay.fl.e i _ hL).1
    have az:b1=b9:=by
      have:(some ⟨b1,0,none⟩:Option Addr)=some ⟨b9,0,none⟩:=ep;injection this with this;injection this
    subst az;have bA:=A (Zj ca a) Y;have bB:=A (Zj cn a) Z;have bC:=A (Zj k4 a) bz;refine rP (Zb (A (Zj I a) ls) rfl) (Zg (rI (Zb bA rfl) (Zg (rI (Zb bB rfl) (rI (Zb bC rfl) (Zv0 cw λg5 k5 d5 y5=>?_))))));refine⟨ZR (Zb (Zj bC d5) rfl),ZR (Zb (Zj bB d5) rfl),ZR (Zb (Zj bA d5) rfl),?_⟩;obtain⟨pn,bX⟩:=Classical.choose_spec (Zuy w1 c.1 c.2.2.2.2.2 (Zid (wrV w2 c.1 (Ziq o c.1)) 1));refine bX k5 λg6 k6 v6=>?_;have d6:Ext N g6:=d5.then v6 λk F=>by subst F;exact Aqo _
    refine ZwF (ax.ext d6) λaU aV aW=>Zd ?_;have fin:=F aU t' _ (by rw[lk];exact aV) (((WS.pre l S).then d6).trans aW);rw[lk]at fin;dsimp only at fin;rw[Bool.not_not]at fin;exact fin
   ·have n1:¬f.shape=1:=λe=>q1 (by show(f.shape:Int)=1;omega);have n2:¬f.shape=2:=λe=>q2 (by show(f.shape:Int)=2;omega);have n3:¬f.shape=3:=λe=>q3 (by show(f.shape:Int)=3;omega)
    have lk:ZkK f s o c i=⟨!ZAx (Rw.ZcW f) (Zsg o c.1).1 (oFl o) c.2.2.2.2.2,[],none⟩:=by
      unfold ZkK;rw[if_neg n1,if_neg n2,if_neg n3]
    have bY:Zm bh [(sz h,0,.string (Zx f.res)),(sz h,0+1,.string (Zx f.org)),(sz h,0+2,.bool f.thr),(sz h,0+3,iv f.cnt),(sz h,0+4,.int .u8 f.strat),(sz h,0+5,.string (Zx f.ref)),(sz h,0+6,.int .u8 f.shape),(sz h,0+7,iv f.warm),(sz h,0+8,iv f.queue),(sz h,0+9,.bool f.clu),(sz h,0+10,iv f.id),(sz h,0+11,.bool f.fb)]:=
      ⟨Zb g rfl,Zb g rfl,Zb g rfl,Zb g rfl,Zb g rfl,Zb g rfl,Zb g rfl,Zb g rfl,Zb g rfl,Zb g rfl,Zb g rfl,Zb g rfl,trivial⟩
    refine rS (Zb g rfl) (rS (Zb g rfl) (rB (Zb g rfl) (rI (Zb g rfl) (rI (Zb g rfl) (rS (Zb g rfl) (rI (Zb g rfl) (rI (Zb g rfl) (rI (Zb g rfl) (rB (Zb g rfl) (rI (Zb g rfl) (rB (Zb g rfl) (rI (Zb aF rfl) (Zg (rI (Zb cn rfl) (ZhD f55 ⟨ZR (Zb cn rfl),ZR (Zb aF rfl),bY,ZBg λh9 e9=>Zd ?_⟩)))))))))))))));have fin:=F h9 t vs (by rw[lk,Ayr];exact W.ext (r.trans e9)) (WS.ext (r.trans e9));rw[lk]at fin;dsimp only at fin;rw[Bool.not_not]at fin;exact fin
  ·intro J hJ;have aG:=W.ext ai;have H:∀hh,Ext d hh->Zm hh [(wb,0+1+5,iv c.2.2.2.2.2)]/\Zm hh [(wb,0+1,iv c.1)]:=λhh e=>⟨ZR (Zb (aG.ext e).w rfl),ZR (Zb (aG.ext e).w rfl)⟩;refine Zg (Zg (rI (Zb aG.w rfl) (rI (Zb aG.w rfl) ⟨ZH λK k1 d1 y1=>?_,ZH λK k1 d1 y1=>?_⟩)))
   ·have w9:sz K=sz d+1:=y1
    obtain⟨a1,a2⟩:=H K d1;refine⟨a1,a2,ZH λg2 k2 d2 y2=>?_⟩;have d12:=d1.trans d2;obtain⟨a1,a2⟩:=H g2 d12;refine⟨a1,a2,Zbs (Zj k1 d2) (show 0<1 by decide) rfl λg3 k3 v3 y3=>?_⟩;have d13:Ext d g3:=d12.then v3 λk F=>by subst F;exact Aqo _
    obtain⟨a1,a2⟩:=H g3 d13;have cc:obj g3 (sz K)=_:=(v3.old (sz K) (Zp k2) (show ¬sz K=sz d by omega)).trans k2;refine⟨a1,Zbs cc (show 0<1 by decide) rfl λg4 k4 v4 y4=>hJ _ _ ⟨sz d,sz K,rfl,rfl,?_,k4,d13.then v4 (λk F=>by subst F;show sz d<=sz K;omega),Aqo _,by omega⟩⟩;exact(v4.old (sz d) (Zp k3) (show ¬sz d=sz K by omega)).trans k3
   ·have w9:sz K=sz d+1:=y1
    obtain⟨a1,a2⟩:=H K d1;refine⟨a1,a2,ZH λg2 k2 d2 y2=>?_⟩;have d12:=d1.trans d2;obtain⟨a1,a2⟩:=H g2 d12;refine⟨a1,a2,Zbs k2 (show 0<1 by decide) rfl λg3 k3 v3 y3=>?_⟩;have d13:Ext d g3:=d12.then v3 λk F=>by subst F;show sz d<=sz K;omega
    obtain⟨a1,a2⟩:=H g3 d13;have cd:obj g3 (sz d)=_:=(v3.old (sz d) (Zp (Zj k1 d2)) (show ¬sz d=sz K by omega)).trans (Zj k1 d2);refine⟨a1,Zbs cd (show 0<1 by decide) rfl λg4 k4 v4 y4=>hJ _ _ ⟨sz K,sz d,rfl,rfl,?_,k4,d13.then v4 (λk F=>by subst F;exact Aqo _),by omega,Aqo _⟩⟩;exact(v4.old (sz K) (Zp k3) (show ¬sz K=sz d by omega)).trans k3
end
theorem Znm{cb:Nat->Bool}{c:C8}:∀{l:List FlowP} {i:Nat} {k:Int},k∈Zgu cb c l i->∃j a,k=((i+j:Nat):Int)/\l[j]?=some a
  |[],i,k,h=>by cases h
  | a::l,i,k,h=>by
    have e:Zgu cb c (a::l) i=if Yr (Zx a.res) c.2.1=true/\cb i=true/\(Zbe (Rw.ZcW a) c).2.2.2.1=false then(i:Int)::Zgu cb c l (i+1)else Zgu cb c l (i+1):=rfl
    rw[e]at h;split at h
    ·rcases Awr.1 h with h|h
     ·exact⟨0,a,h,rfl⟩
     ·obtain⟨j,b,h1,d⟩:=Znm h;exact⟨j+1,b,by rw[h1];congr 1;omega,by simpa using d⟩
    ·obtain⟨j,b,h1,d⟩:=Znm h;exact⟨j+1,b,by rw[h1];congr 1;omega,by simpa using d⟩
theorem Zt3{cb:Nat->Bool}{c:C8}:∀{l:List FlowP} {i:Nat},(Zgu cb c l i).length<=l.length
  |[],i=>Aqo _
  | a::l,i=>by
    have e:Zgu cb c (a::l) i=if Yr (Zx a.res) c.2.1=true/\cb i=true/\(Zbe (Rw.ZcW a) c).2.2.2.1=false then(i:Int)::Zgu cb c l (i+1)else Zgu cb c l (i+1):=rfl
    rw[e];have:=Zt3 (cb:=cb) (c:=c) (l:=l) (i:=i+1);split
    ·simp only[Aqj];omega
    ·simp only[Aqj];omega
theorem Zt4{cb:Nat->Bool}{c:PC}{s s':Sl}:∀{l:List FlowP} {i:Nat},Zgu cb (cl c s) l i=Zgu cb (cl c s') l i
  |[],_=>rfl
  | a::l,i=>by
    show(if Yr (Zx a.res) c.2.1=true/\cb i=true/\(Zbe (Rw.ZcW a) (cl c s)).2.2.2.1=false then(i:Int)::Zgu cb (cl c s) l (i+1)else Zgu cb (cl c s) l (i+1))=(if Yr (Zx a.res) c.2.1=true/\cb i=true/\(Zbe (Rw.ZcW a) (cl c s)).2.2.2.1=false then(i:Int)::Zgu cb (cl c s') l (i+1)else Zgu cb (cl c s') l (i+1));rw[Zt4]
theorem ZAH{A:List FlowP}{c:PC}{s s':Sl}:Zrp A (cl c s)=Zrp A (cl c s'):=by unfold Zrp;rw[show cbK A (cl c s)=cbK A (cl c s')from rfl];exact Zt4
abbrev ZG5(wb:Nat)(K:Int->Bool->Zf->Prop):Int->Int->Zf->(Zf->Prop)->Prop:=λw t20 b Q=>  Zc t20 λi=>Ze (some ⟨wb,0,none⟩) λp q=>ldP b p q λt23=>Ze t23 λr s=>ldL b r (s+3) λt26=>YI t26.ptr t26.len i 12 λd e=>ldS b d e λt29=>ldS b d (e+1) λt30=>ldB b d (e+2) λt31=>ldI b d (e+3) .i64 λt32=>ldI b d (e+4) .u8 λt33=>ldS b d (e+5) λt34=>ldI b d (e+6) .u8 λt35=>ldI b d (e+7) .i64 λt36=>ldI b d (e+8) .i64 λt37=>ldB b d (e+9) λt38=>ldI b d (e+10) .i64 λt39=>ldB b d (e+11) λt40=>newC b [.string (ByteArray.mk #[]),.string (ByteArray.mk #[]),.bool false,iv 0,.int .u8 0,.string (ByteArray.mk #[]),.int .u8 0,iv 0,iv 0,.bool false,iv 0,.bool false] 69 λc t=>sts t c 0 [.string t29,.string t30,.bool t31,iv t32,.int .u8 t33,.string t34,.int .u8 t35,iv t36,iv t37,.bool t38,iv t39,.bool t40] λf=>Zfb (σ:=Unit) (λx a=>Ze (some ⟨wb,0,none⟩) λh j=>ldS a c 0 λt54=>ldS a c (0+1) λt55=>ldB a c (0+2) λt56=>ldI a c (0+3) .i64 λt57=>ldI a c (0+4) .u8 λt58=>ldS a c (0+5) λt59=>ldI a c (0+6) .u8 λt60=>ldI a c (0+7) .i64 λt61=>ldI a c (0+8) .i64 λt62=>ldB a c (0+9) λt63=>ldI a c (0+10) .i64 λt64=>ldB a c (0+11) λt65=>ldP a h j λt66=>Ze t66 λk l=>ldL a k (l+8) λt69=>YI t69.ptr t69.len i 2 λm n=>ldP a m n λt72=>ldP a m (n+1) λt73=>Zbj (some ⟨wb,0,none⟩) (t54,t55,t56,t57,t58,t59,t60,t61,t62,t63,t64,t65,()) (t72,t73,()) (λt74 g=>Zu (Zm g [(k,l+8,.slice t69.ptr t69.len t69.cap)])<|Zu (Zm g [(h,j,.pointer t66)])<|Zl (!t74) ( Zc i λt76=>K t76 true g) ( Q g)) a) (λo=>ldB f c (0+9) λt45=>Zl t45 ( Ze (some ⟨wb,0,none⟩) λu v=>ldB f u (v+8) λt48=>Zl t48 ( Q f) ( ldB f c (0+11) λt49=>Zl (!t49) ( Q f) ( o (()) f))) ( o (()) f))
section
variable{h:Zf}{T:TgM}{L:Lay}{G:GS}{base wb:Nat}{t:Sl}{c:PC}{sl:Sl}{gr:Bool}{tks:List Tk}{wt:Int}{vs:List Value}
theorem ZAW{m:Int}{j:Nat}{f:FlowP}(E:Zb1 h T L G)(ok:GOK G)(O:∀j,T j≠none->j<base/\j≠wb)(W:WkR h base wb L c sl gr tks wt t vs)(V:tks.length<=3000)(F:G.r.fl[j]?=some f){K:Int->Bool->Zf->Prop}{Q:Zf->Prop}
    (v:∀h' t' o,WkR h' base wb L c sl gr (tks++(Zkh G c gr (j:Int)).tk) (wtV wt (Zkh G c gr (j:Int)).wt) t' o->WS wb t t' h h'->if(Zkh G c gr (j:Int)).b=true then K (j:Int) true h' else Q h'):ZG5 wb K m (j:Int) h Q:=by
  obtain⟨s,hs⟩:∃s,G.fl[j]?=some s:=⟨_,Axy (by rw[ok.lf];exact Zbn F)⟩;obtain⟨p,P⟩:=E.gf hs
  have X:Zkh G c gr (j:Int)=if f.clu=true/\(gr=true\/f.fb=false)then⟨false,[],none⟩else ZkK f s (G.t.f (Zwf (Zbe (Rw.ZcW f) (cl c nl)))) c j:=by
    unfold Zkh;rw[Aqu,F,hs]
  rw[X]at v;obtain⟨bb,oo,_,_,A,d⟩:=Za5 Zf4 E.rz.fl.1 F (by decide);refine Za (Zg (rP (Zb W.w rfl) (Zg (rL (s:=L.z.1) (Zb E.cells rfl) (A rfl (rS (d 0 _ rfl) (rS (d 1 _ rfl) (rB (d 2 _ rfl) (rI (d 3 _ rfl) (rI (d 4 _ rfl) (rS (d 5 _ rfl) (rI (d 6 _ rfl) (rI (d 7 _ rfl) (rI (d 8 _ rfl) (rB (d 9 _ rfl) (rI (d 10 _ rfl) (rB (d 11 _ rfl) (ZH λh1 c1 Y z1=>Zaw c1 λy a Z z2=>?_))))))))))))))))));have e:Ext h y:=Y.then Z λk v=>by subst v;exact Aqo _
  have B:=W.ext e;have H:=E.ext e;refine ZkM (λ(_:Unit) hh=>hh=y/\¬(f.clu=true/\(gr=true\/f.fb=false))) ?_ ?_
  ·rintro _ h3 ⟨l,I⟩;subst l;rw[if_neg I]at v;obtain⟨b2,o2,_,ae,u,C⟩:=Za5 (g:=λx:ShP×ShS=>shL x.1) (n:=2) (λ_=>rfl) H.fl.r P (by decide);refine Zg (rS (Zb a rfl) (rS (Zb a rfl) (rB (Zb a rfl) (rI (Zb a rfl) (rI (Zb a rfl) (rS (Zb a rfl) (rI (Zb a rfl) (rI (Zb a rfl) (rI (Zb a rfl) (rB (Zb a rfl) (rI (Zb a rfl) (rB (Zb a rfl) (rP (Zb B.w rfl) (Zg (rL (s:=L.f1) (Zb H.cells rfl) (u rfl (rP (C 0 _ rfl) (rP (C 1 _ rfl) ?_))))))))))))))))));refine ZGX (f:=f) (s:=s) (p:=p) (i:=j) H O B V P (ok.sh j f s F hs) λh4 t' o R s4=>?_;have E4:=H.walk O B s4;have fin:=v h4 t' o R (WS.pre e s4);refine⟨ZR (Zb E4.cells rfl),ZR (Zb R.w rfl),⟨λq=>Za ?_,λq=>?_⟩⟩
   ·rw[Bool.not_not]at q;rwa[if_pos q]at fin
   ·rw[Bool.not_not]at q;rwa[if_neg (by rw[q];decide)]at fin
  ·intro J S
   have skip:(f.clu=true/\(gr=true\/f.fb=false))->Q y:=λU=>by
     have fin:=v y t vs (by rw[if_pos U,Ayr];exact B) (WS.ext e);rw[if_pos U]at fin;exact fin
   have ff:∀{b:Bool},b=false->¬b=true:=λl D=>by rw[l]at D;cases D
   refine rB (Zb a rfl) ⟨λq=>Zg (rB (Zb B.w rfl) ⟨λM=>skip ⟨q,.inl M⟩,λM=>rB (Zb a rfl) ⟨λN=>skip ⟨q,.inr ?_⟩,λN=>S () y ⟨rfl,λl=>?_⟩⟩⟩),λq=>S () y ⟨rfl,λl=>ff q l.1⟩⟩
   ·have l:(!f.fb)=true:=N;simpa using l
   ·have D:(!f.fb)=false:=N
    rcases l.2 with g|g
    ·exact ff M g
    ·rw[g]at D;cases D
theorem ZEv(n:Zb1 h T L G)(ok:GOK G)(u:∀j,T j≠none->j<base/\j≠wb)(W:WkR h base wb L c sl gr tks wt t vs)(C:tks.length<=2000)
    {K:Int->Bool->Zf->Prop} (v:∀h' t' a x,ZgL (Zkh G c gr) (Zrp G.r.fl (cl c nl)) (tks,wt)=x->WkR h' base wb L c sl gr x.2.1 x.2.2 t' a->WS wb t t' h h'->x.2.1.length<=tks.length+256->K (x.1.getD 0) x.1.isSome h'):ZaU (some ⟨wb,0,none⟩) K h:=by
  unfold ZaU ZeZ;have lw:=Zp W.w;refine Za (Zg (Zg (rP (Zb W.w rfl) (Zg (rL (s:=L.z.1) (Zb n.cells rfl) (rI (Zb W.w rfl) (rS (Zb W.w rfl) (rS (Zb W.w rfl) (rS (Zb W.w rfl) (rB (Zb W.w rfl) (rI (Zb W.w rfl) (rL (s:=sl) (Zb W.w rfl) ?_))))))))))));refine ZHf ok.good.s.f (c:=cl c sl) n.rz.fl.1 λF kt d e=>⟨ZR (Zb (W.ext d).w rfl),?_⟩;rw[ZAH (s':=nl)]at e;refine ZtF (h0:=h) (f:=Zkh G c gr) (KL:=Zrp G.r.fl (cl c nl)) (X:=λi h'=>K i true h') (body:=ZG5 wb K) (n.ext d) u (W.ext d) (Aqp Zt3 ok.good.s.f) C e lw (λb p=>(W.o.lt p).2) ?_ (λk=>?_) ?_ ?_
  ·intro m k H A wt' t' a Q q D g s hl l;obtain⟨j,f,B,E⟩:=Znm (show k∈Zgu _ _ G.r.fl 0 from Axo q);rw[Awb]at B;subst B;exact ZAW D ok u g hl E l
  ·unfold Zkh;split
   ·split
    ·exact Aye _
    ·unfold ZkK;split
     ·split
      ·exact Aqo _
      ·exact Aye _
     ·split
      ·split
       ·exact Aqo _
       ·exact Aye _
      ·split
       ·split
        ·exact Aqo _
        ·exact Aye _
       ·exact Aye _
   ·exact Aye _
  ·intro k h' t' a y hw g s hl;exact v h' t' a (some k,y) hw g (WS.pre d s) hl
  ·intro h' t' a y hw g s hl;exact Za (v h' t' a (none,y) hw g (WS.pre d s) hl)
end
abbrev fn0(f:Nat):Value:=.func (.func f) #[] #[]
def ZNo:Option (Int×Int)->V4
  |some (k,i)=>(k,i,0,())
  |none=>(0,0,0,())
section
variable{h:Zf}{T:TgM}{L:Lay}{G:GS}{base wb:Nat}{c:PC}{sl:Sl}{gr:Bool}
theorem ZGA{al:List ByteArray}(hE:Zb1 h T L G)(ok:GOK G)(hb:∀j,T j≠none->j<base/\j≠wb)(aS:base<=sz h)(hw:obj h wb=some (Zu2 L.eb (cl c sl) gr nl nl 0))(ha:Row h sl 1 (al.map .string))(ah:al≠[]->∀b,sl.blk=some b->b<base/\b≠wb){K:V4->Bool->Zf->Prop}
    (I:∀h' x,Znr G c al gr=x->Upd (· = wb) h h'->(x.1=none->∃t' R,WkR h' (sz h) wb L c sl gr x.2.1 x.2.2 t' R/\x.2.1.length<=2000)->K (ZNo x.1) x.1.isSome h'):Zbh (some ⟨wb,0,none⟩) K h:=by
  unfold Zbh Zfo;have lw:=Zp hw;refine ZH λh1 c1 e1 z1=>⟨rfl,rfl,rfl,rfl,rfl,ZH λh2 c2 e2 z2=>Zaw c2 λh3 U u3 z3=>?_⟩;refine rI (Zb U rfl) (rV (Zb U rfl) (rI (Zb U rfl) (rV (Zb U rfl) (rI (Zb U rfl) (rV (Zb U rfl) (rI (Zb U rfl) (rV (Zb U rfl) (rI (Zb U rfl) (rV (Zb U rfl) ?_)))))))));have ai:Ext h1 h3:=e2.then u3 λk I=>by subst I;exact Aqo _
  have X:=e1.trans ai;have w1:sz h1=sz h+1:=z1;have az:sz h1<=sz h3:=ai.size;have b3:=Zj c1 ai;have N:∀j,T j≠none->j<sz h1/\j≠wb:=λj hj=>⟨by have:=(hb j hj).1;omega,(hb j hj).2⟩;have au:al≠[]->∀b,sl.blk=some b->b<sz h1/\b≠wb:=λne b S=>⟨by have:=(ah ne b S).1;omega,(ah ne b S).2⟩;have W3:WkR h3 (sz h1) wb L c sl gr [] 0 nl []:=⟨Zj hw X,Own.nil _ _ _,rfl,(λi v tk h1 _=>by cases h1),az,λe=>by cases e⟩;have E3:=hE.ext X;refine ZaE (λp A=>∃(j:Nat) (tks:List Tk) (wt:Int) (t':Sl) (R:List Value),p=((j:Int),())/\j<=5/\WkR A (sz h1) wb L c sl gr tks wt t' R/\WS wb nl t' h3 A/\tks.length<=256*j/\Znr G c al gr=Zoq (stg G c al gr) (5-j) j (tks,wt)) (λp _=>(5-p.1).toNat) ⟨0,[],0,nl,[],rfl,by decide,W3,WS.refl,Aqo _,rfl⟩ ?_;rintro _ A ⟨j,tks,wt,t',R,rfl,hj,O,s',hl,hw⟩ Q hQ;dsimp only;have bb:sz h3<=sz A:=s'.u.size;have bh:obj A (sz h)=some (.cells [.int .u8 0,iv 0,iv 0].toArray 45 (0,0)):=(s'.u.old (sz h) (Zp b3) λe=>e.elim (λe=>by omega) λe=>by cases e).trans b3;have Eh:=E3.walk N W3 s'
  have aB:Row A sl 1 (al.map .string):=(ha.ext X).congr λb o S aC aj=>s'.u.old b aj λe=>by
    rcases e with e|e
    ·exact(ah (λh9=>aC (by rw[h9];rfl)) b (by simp[Sl.blk,S])).2 e
    ·cases e
  have tn:∀{D:Zf} {tk:List Tk} {w:Int} {t:Sl} {v:List Value},WkR D (sz h1) wb L c sl gr tk w t v->t.blk≠some (sz h):=λW e=>by have:sz h1<=sz h:=(W.o.lt e).1;omega
  have old:∀{D:Zf} {t:Sl},WS wb nl t h3 D->Upd (· = wb) h D:=λs=>(X.upd _).trans (s.u.mono λj _ hj=>hj.elim id λe=>by cases e)
  have fin:∀(v:V4) (z:Zf),obj z (sz h)=some (.cells [.int .u8 0,iv 0,iv 0].toArray 45 (0,0))->∀(f:Bool),(∀J,Upd (· = sz h) z J->K (v.1,v.2.1,v.2.2.1,()) f J)->sts z (sz h) 0 [.int .u8 v.1,iv v.2.1,iv v.2.2.1] λE=>ldI E (sz h) 0 .u8 λt30=>ldI E (sz h) (0+1) .i64 λt31=>ldI E (sz h) (0+2) .i64 λt32=>K (t30,t31,t32,()) f E:=λv z b6 f hK=>
    Zaw b6 λJ c7 V z7=>rI (Zb c7 rfl) (rI (Zb c7 rfl) (rI (Zb c7 rfl) (hK J V)))
  have ag:∀{z J:Zf},Upd (· = wb) h z->Upd (· = sz h) z J->Upd (· = wb) h J:=λ{z J} a b=>ZmT a b λk I e=>by have e':k=sz h:=e;have bl:k<sz h:=I;omega
  have step:∀(jj:Nat) (ax:Value) (ak:Nat) (z:Zf) (x:Option Int×List Tk×Int) (r:Sl) (m:List Value),j=jj->jj<5->stg G c al gr jj (tks,wt)=x->WkR z (sz h1) wb L c sl gr x.2.1 x.2.2 r m->WS wb t' r A z->x.2.1.length<=tks.length+256->obj z ak=some (.cells [.int .u8 ((jj+1:Nat):Int),ax].toArray 177 (0,0))->
      Zl x.1.isSome (ldI z ak 0 .u8 λt28=>sts z (sz h) 0 [.int .u8 t28,iv (x.1.getD 0),iv 0] λE=>ldI E (sz h) 0 .u8 λt30=>ldI E (sz h) (0+1) .i64 λt31=>ldI E (sz h) (0+2) .i64 λt32=>K (t30,t31,t32,()) true E) (Q (IntKind.wrap .i64 ((j:Int)+1),()) z):=by
    intro jj ax ak z x r m aF aG aH P F C aI;subst aF
    have an:Zoq (stg G c al gr) (5-j) j (tks,wt)=match (stg G c al gr j (tks,wt)).1 with
      |some i=>(some (((j+1:Nat):Int),i),(stg G c al gr j (tks,wt)).2)
      |none=>Zoq (stg G c al gr) (5-(j+1)) (j+1) (stg G c al gr j (tks,wt)).2:=by
      rw[show 5-j=(5-(j+1))+1 by omega];rfl
    rw[an,aH]at hw;have b6:obj z (sz h)=some (.cells [.int .u8 0,iv 0,iv 0].toArray 45 (0,0)):=(F.u.old (sz h) (Zp bh) λe=>e.elim (λe=>by omega) (tn O)).trans bh;have ss:=s'.trans F;obtain⟨o,y⟩:=x
    cases o with
    | some i=>
      dsimp only at hw C P;refine Zn rfl (rI (Zb aI rfl) (fin (((j+1:Nat):Int),i,0,()) z b6 true λJ V=>?_));exact I J _ hw (ag (old ss) V) λe=>by cases e
    | none=>
      dsimp only at hw C P;refine Zi rfl ?_;rw[Yj (by omega) (by omega)];exact hQ _ _ ⟨j+1,y.1,y.2,r,m,by simp,aG,P,ss,by omega,hw⟩ (by show(5-((j:Int)+1)).toNat<(5-(j:Int)).toNat;omega)
  have box:∀{M z:Zf} {x:Obj} {r:Sl},obj M (sz A)=some x->Ext A M->WS wb t' r M z->obj z (sz A)=some x:=λ{M z x r} H B F=>(F.u.old (sz A) (Zp H) λe=>e.elim (λe=>by omega) λe=>by have:sz A<sz A:=(O.o.lt e).2;omega).trans H;have hn:tks.length<=2000:=by omega
  rcases(show j=0\/j=1\/j=2\/j=3\/j=4\/j=5 by omega)with q|q|q|q|q|q
  ·refine Zn (by subst q;rfl) (by
     rw[show((j:Nat):Int)=0 by omega]at step⊢;refine⟨by decide,by decide,(1,fn0 65,()),rfl,ZH λh4 Y Z z4=>Zaw Y λM H u5 z5=>rV (Zb H rfl) (.inl ⟨rfl,?_⟩)⟩;have B:Ext A M:=Z.then u5 λk I=>by subst I;exact Aqo _
     exact ZDY (Eh.ext B) ok N (O.ext B) hn λz r m x D P F C=>Za (Zd (step 0 (fn0 65) (sz A) z x r m q (by decide) D P (WS.pre B F) C (box H B F))))
  ·refine Zn (by subst q;rfl) (by
     rw[show((j:Nat):Int)=1 by omega]at step⊢;refine⟨by decide,by decide,(2,fn0 66,()),rfl,ZH λh4 Y Z z4=>Zaw Y λM H u5 z5=>rV (Zb H rfl) (.inr (.inl ⟨rfl,?_⟩))⟩;have B:Ext A M:=Z.then u5 λk I=>by subst I;exact Aqo _
     exact ZwR (Eh.ext B) ok N (O.ext B) hn λz r m x D P F C=>Za (Zd (step 1 (fn0 66) (sz A) z x r m q (by decide) D P (WS.pre B F) C (box H B F))))
  ·refine Zn (by subst q;rfl) (by
     rw[show((j:Nat):Int)=2 by omega]at step⊢;refine⟨by decide,by decide,(3,fn0 67,()),rfl,ZH λh4 Y Z z4=>Zaw Y λM H u5 z5=>rV (Zb H rfl) (.inr (.inr (.inl ⟨rfl,?_⟩)))⟩;have B:Ext A M:=Z.then u5 λk I=>by subst I;exact Aqo _
     exact ZGS (Eh.ext B) ok N (O.ext B) hn (aB.ext B) au λz r m x D P F C=>Za (Zd (step 2 (fn0 67) (sz A) z x r m q (by decide) D P (WS.pre B F) C (box H B F))))
  ·refine Zn (by subst q;rfl) (by
     rw[show((j:Nat):Int)=3 by omega]at step⊢;refine⟨by decide,by decide,(4,fn0 68,()),rfl,ZH λh4 Y Z z4=>Zaw Y λM H u5 z5=>rV (Zb H rfl) (.inr (.inr (.inr (.inl ⟨rfl,?_⟩))))⟩;have B:Ext A M:=Z.then u5 λk I=>by subst I;exact Aqo _
     exact ZEv (Eh.ext B) ok N (O.ext B) hn λz r m x D P F C=>Za (Zd (step 3 (fn0 68) (sz A) z x r m q (by decide) D P (WS.pre B F) C (box H B F))))
  ·refine Zn (by subst q;rfl) (by
     rw[show((j:Nat):Int)=4 by omega]at step⊢;refine⟨by decide,by decide,(5,fn0 69,()),rfl,ZH λh4 Y Z z4=>Zaw Y λM H u5 z5=>rV (Zb H rfl) (.inr (.inr (.inr (.inr (.inl ⟨rfl,?_⟩)))))⟩;have B:Ext A M:=Z.then u5 λk I=>by subst I;exact Aqo _
     exact ZA6 (Eh.ext B) ok N (O.ext B) hn λz r m x D P F C=>Za (Zd (step 4 (fn0 69) (sz A) z x r m q (by decide) D P (WS.pre B F) C (box H B F))))
  ·subst q;have aJ:Znr G c al gr=(none,(tks,wt)):=hw;refine Zi rfl (fin (0,0,0,()) A bh false λJ V=>?_);refine I J (none,(tks,wt)) aJ (ag (old s') V) λ_=>⟨t',R,⟨(V.old wb (Zp O.w) (show ¬wb=sz h by omega)).trans O.w,(O.o.congr λb S aj aK=>V.old b aj λe=>?_).base (by omega),O.l,λi v tk g1 g2=>?_,?_,O.n⟩,hn⟩
   ·have e':b=sz h:=e;have:sz h1<=b:=aK;omega
   ·have D:=O.e i v tk g1 g2
    have bk:∀{b o:Nat} {vv:Value},Bx A (sz h1) wb t' b o vv->Bx J (sz h) wb t' b o vv:=λ{b o vv} D=>by
      obtain⟨x1,x2,x3,x4,x5⟩:=D;exact⟨by rw[show obj J b=obj A b from V.old b x3 (show ¬b=sz h by omega)];exact x1,by omega,Aqq x3 V.size,x4,x5⟩
    cases tk with
    | hot i s=>
      obtain⟨D,wx,vx,hb,e,a1,a2,a3,a4⟩:=D;exact⟨D,wx,vx,hb,e,bk a1,bk a2,bk a3,a4⟩
    | warm i past sum=>
      obtain⟨a,b,d,f,g,p,e,a1,a2,a3,a4,a5,a6⟩:=D;exact⟨a,b,d,f,g,p,e,bk a1,bk a2,bk a3,bk a4,bk a5,a6⟩
    | pace i=>
      obtain⟨a,b,f,p,e,a1,a2,a3,a4⟩:=D;exact⟨a,b,f,p,e,bk a1,bk a2,bk a3,a4⟩
    | wp i past aQ=>
      obtain⟨a,b,d,f,g,p,e,a1,a2,a3,a4,a5,a6,a7⟩:=D;exact⟨a,b,d,f,g,p,e,bk a1,bk a2,bk a3,bk a4,bk a5,bk a6,a7⟩
    | brk i=>
      obtain⟨a,b,hb,id,e,a1,a2,a3,a4⟩:=D;exact⟨a,b,hb,id,e,bk a1,bk a2,bk a3,a4⟩
   ·have:sz A<=sz J:=V.size;omega
end
structure LS(L L':Lay):Prop where
  eb:L'.eb=L.eb
  f:L'.fs.map (·.1)=L.fs.map (·.1)
  b:L'.bs.map (λx=>(x.1,x.2.2))=L.bs.map λx=>(x.1,x.2.2)
  h:L'.hs.map (·.1)=L.hs.map (·.1)
theorem LS.refl{L:Lay}:LS L L:=⟨rfl,rfl,rfl,rfl⟩
theorem LS.trans{L L' L'':Lay}(a:LS L L')(b:LS L' L''):LS L L'':=⟨b.eb.trans a.eb,b.f.trans a.f,b.b.trans a.b,b.h.trans a.h⟩
theorem ZfU{α β:Type}{g:α->β}{l:List α}{i:Nat}{x y:α}(hi:l[i]?=some x)(a:g y=g x):(l.set i y).map g=l.map g:=by
  induction l generalizing i with
  |nil=>cases hi
  | cons b l c=>
    cases i with
    |zero=>cases hi;simp[a]
    |succ i=>simp[c (by simpa using hi)]
theorem Zh8{α β:Type}{g:α->β}{l a:List α}(h:a.map g=l.map g){i:Nat}{y:β}(hi:(l[i]?).map g=some y):∃x,a[i]?=some x/\g x=y:=by
  rw[<-Awy,<-h,Awy]at hi
  cases q:a[i]? with
  |none=>rw[q]at hi;cases hi
  |some x=>rw[q]at hi;exact⟨x,rfl,Option.some.inj hi⟩
structure ZoA(hS:Zf)(T:TgM)(L:Lay)(wb:Nat)(c:PC)(sl:Sl)(gr:Bool)(t:Sl)(wt:Int)(m:Nat)(hh:Zf)(T':TgM)(L':Lay)(G:GS)(pr:List Int)(prS:Sl):Prop where
  E:Zb1 hh T' L' G
  u:Upd (λj=>T j≠none\/j=wb) hS hh
  s:Zdi T T'
  n:∀j,T' j≠none->T j≠none\/sz hS<=j
  w:obj hh wb=some (Zu2 L.eb (cl c sl) gr t prS wt)
  lw:wb<sz hS
  tw:T wb=none
  o:Own hh (sz hS) prS 1 (pr.map iv)
  ot:∀b,prS.blk=some b->T' b=none
  ls:LS L L'
  pl:pr.length<=m
section
variable{hS hh h':Zf}{T T' T'':TgM}{L L' L'':Lay}{base wb m:Nat}{c:PC}{sl t prS:Sl}{gr:Bool}{wt:Int}{G G':GS}{pr:List Int}
theorem ZoA.tw'(R:ZoA hS T L wb c sl gr t wt m hh T' L' G pr prS):T' wb=none:=by
  cases q:T' wb with
  |none=>rfl
  | some x=>
    rcases R.n wb (Y9 q)with g|g
    ·exact absurd R.tw g
    ·have:=R.lw;omega
theorem ZoA.step(R:ZoA hS T L wb c sl gr t wt m hh T' L' G pr prS)(E:Zb1 h' T'' L'' G')(g:GrG T' T'' hh h')(ls:LS L' L''):ZoA hS T L wb c sl gr t wt (m+1) h' T'' L'' G' pr prS:=by
  have ws:sz hS<=sz hh:=R.u.size;refine⟨E,⟨Aqp R.u.size g.u.size,λk f i=>?_⟩,R.s.trans g.s,λj l=>?_,(g.u.old wb (Zp R.w) λe=>e R.tw').trans R.w,R.lw,R.tw,R.o.congr λb a h _=>g.u.old b h λe=>e (R.ot b a),λb a=>?_,R.ls.trans ls,Nat.le_succ_of_le R.pl⟩
  ·refine (g.u.old k (Aqq f ws) λe=>?_).trans (R.u.old k f i)
   rcases R.n k e with d|d
   ·exact i (.inl d)
   ·have:k<sz hS:=f;omega
  ·rcases g.n j l with d|d
   ·exact R.n j d
   ·exact .inr (by omega)
  ·cases q:T'' b with
   |none=>rfl
   | some x=>
     rcases g.n b (Y9 q)with d|d
     ·exact absurd (R.ot b a) d
     ·have:=(R.o.lt a).2;have:b<sz hh:=this;omega
theorem ZoA.box(R:ZoA hS T L wb c sl gr t wt m hh T' L' G pr prS)(a:∀j,T j≠none->j<base){b o:Nat}{v:Value}(x:Bx hS base wb t b o v):ZA o (obj hh b)=some v:=by
  obtain⟨d,h,f,g,i⟩:=x;rw[show obj hh b=obj hS b from R.u.old b f λe=>?_]
  ·exact d
  ·rcases e with e|e
   ·have:=a b e;omega
   ·exact g e
theorem ZGi{i:Nat}{x:ByteArray}{a0 p q:Nat}{b:Nat}(R:ZoA hS T L wb c sl gr t wt m hh T' L' G pr prS)(d:∀j,T j≠none->j<base)(u:Bx hS base wb t a0 0 (pB b))(b1:Bx hS base wb t p 0 (pB wb))(b2:Bx hS base wb t q 0 (.string x))(v:(L.hs[i]?).map (·.1)=some b)
    {K:Zf->Prop} (r:∀h' T'' L'' f,ZoA hS T L wb c sl gr t wt (m+1) h' T'' L'' (Zc1 c (G,pr) (.hot i x)).1 (Zc1 c (G,pr) (.hot i x)).2 f->K h'):Xh (some ⟨a0,0,none⟩) (some ⟨p,0,none⟩) (some ⟨q,0,none⟩) K hh:=by
  unfold Xh ZcO;obtain⟨⟨k,H⟩,a,y⟩:=Zh8 R.ls.h v;have l:k=b:=y;subst l;have z:G.ho[i]?=some H:=by rw[<-R.E.lh,Awy,a];rfl
  have A:Zc1 c (G,pr) (.hot i x)=({G with ho:=G.ho.set i (H.take c.1 x c.2.2.2.2.2)},pr):=by
    unfold Zc1;dsimp only;rw[z]
  rw[A]at r;refine Zg (rP (R.box d u) (Zg (rP (R.box d b1) (Zg (rI (Zb R.w rfl) (Zg (rS (R.box d b2) (Zg (rP (R.box d b1) (Zg (rI (Zb R.w rfl) ?_)))))))))));obtain⟨I,n,s⟩:=R.E.ho.e i _ a;refine Classical.choose_spec (Classical.choose_spec (Classical.choose_spec (ZuB H c.1 x c.2.2.2.2.2))) n λh1 B C g=>?_;have D:=R.E.setH a s C g;have o:=R.step D (GrG.tag R.E.hT g.upd (λj F=>Y9 (s j F)) (Aqo _)) ⟨rfl,rfl,rfl,ZfU a rfl⟩;exact⟨⟨o.box d b1,trivial⟩,⟨o.box d b1,trivial⟩,r h1 _ _ prS o⟩
theorem ZEg{p:ShP}{b1 b2:Nat}(h:(hdP p).Nodup)(h1:p.1=some ⟨b1,0,none⟩)(a:p.2=some ⟨b2,0,none⟩):b1≠b2:=by unfold hdP at h;rw[h1,a]at h;simpa[Ztl]using h
theorem ZxV{h h':Zf}{O:Nat->Prop}{p:Option Addr}{x:Option Pc}(a:ZxW h O p x)(k:∀b,p=some ⟨b,0,none⟩->obj h' b=obj h b):ZxW h' O p x:=by
  cases x with
  |none=>exact a
  |some x=>obtain⟨b,e,c,o⟩:=a;exact⟨b,e,(k b e).trans c,o⟩
theorem ZEk{h:Zf}{O:Nat->Prop}{p:Option Addr}{x:Pc}(a:ZxW h O p (some x)):∃b,p=some ⟨b,0,none⟩/\b<sz h:=by obtain⟨b,e,c,_⟩:=a;exact⟨b,e,Zp c⟩
theorem ZDB{i:Nat}{past sum:Int}{a b d e f:Nat}{p:ShP}(R:ZoA hS T L wb c sl gr t wt m hh T' L' G pr prS)(ok:GOK G)(o:∀j,T j≠none->j<base)(hs:∀s,G.fl[i]?=some s->s.2≠none)(C:Bx hS base wb t a 1 (.pointer p.2))(b1:Bx hS base wb t b 0 (iv c.1))(b2:Bx hS base wb t d 0 (iv past))(M:Bx hS base wb t e 0 (iv sum))(b4:Bx hS base wb t f 0 (iv c.2.2.2.2.2))(N:(L.fs[i]?).map (·.1)=some p)
    {K:Zf->Prop} (D:∀h' T'' L'' r,ZoA hS T L wb c sl gr t wt (m+1) h' T'' L'' (Zc1 c (G,pr) (.warm i past sum)).1 (Zc1 c (G,pr) (.warm i past sum)).2 r->K h'):XF (some ⟨a,0,none⟩) (some ⟨b,0,none⟩) (some ⟨d,0,none⟩) (some ⟨e,0,none⟩) (some ⟨f,0,none⟩) K hh:=by
  unfold XF Zd6;obtain⟨⟨u,s⟩,l,v⟩:=Zh8 R.ls.f N;have x:u=p:=v;subst x;have F:G.fl[i]?=some s:=R.E.ge l;obtain⟨s1,s2⟩:=s;have h:=R.E.fl.e i _ l;have y:=(Zpd h).1
  cases s2 with
  |none=>exact absurd rfl (hs _ F)
  |some w=>
  obtain⟨k,O,P,tw⟩:=h.2
  have Q:Zc1 c (G,pr) (.warm i past sum)=({G with fl:=G.fl.set i (s1,some (w.take c.1 past sum c.2.2.2.2.2))},pr):=by
    unfold Zc1;dsimp only;rw[F]
  rw[Q]at D;have n:u.2=some ⟨k,0,none⟩:=O;rw[n]at C;refine Zg (rP (R.box o C) (Zg (rI (R.box o b1) (Zg (rI (R.box o b2) (Zg (rI (R.box o M) (Zg (rI (R.box o b4) ?_)))))))));refine Classical.choose_spec (Classical.choose_spec (Classical.choose_spec (ZqM w c.1 past sum c.2.2.2.2.2))) P λh1 c1 H=>?_;have hm:k∈hdP u:=by unfold hdP;rw[n];simp[Ztl]
  have I:Upd (λj=>∃d,d∈hdP u/\T' j=some (.p d)) hh h1:=H.mono λj _ z=>⟨k,hm,by rw[show j=k from z];exact tw⟩
  have A:ZxW h1 (hdT T') u.1 s1:=by
    cases s1 with
    |none=>exact h.1
    | some q=>
      refine ZxV h.1 λb g=>?_;obtain⟨J,v,S⟩:=ZEk h.1;have B:b=J:=by rw[v]at g;injection g with g;injection g with g _ _;exact g.symm
      rw[B];exact H.old J S λU=>ZEg y v n U
  have V:=R.E.setF (s':=(s1,some (w.take c.1 past sum c.2.2.2.2.2))) l ⟨A,⟨k,n,c1,tw⟩⟩ I;exact D h1 _ _ prS (R.step V ⟨I.mono λj _ ⟨d,_,hd⟩=>Y9 hd,Zdi.refl _,λj z=>.inl z⟩ ⟨rfl,ZfU l rfl,rfl,rfl⟩)
theorem ZDE{i:Nat}{a b f:Nat}{p:ShP}(R:ZoA hS T L wb c sl gr t wt m hh T' L' G pr prS)(u:∀j,T j≠none->j<base)(hs:∀s,G.fl[i]?=some s->s.1≠none)(B:Bx hS base wb t a 0 (.pointer p.1))(b1:Bx hS base wb t b 0 (iv c.1))(b4:Bx hS base wb t f 0 (iv c.2.2.2.2.2))(J:(L.fs[i]?).map (·.1)=some p)
    {K:Zf->Prop} (C:∀h' T'' L'' n,ZoA hS T L wb c sl gr t wt (m+1) h' T'' L'' (Zc1 c (G,pr) (.pace i)).1 (Zc1 c (G,pr) (.pace i)).2 n->K h'):XE (some ⟨a,0,none⟩) (some ⟨b,0,none⟩) (some ⟨f,0,none⟩) K hh:=by
  unfold XE Zd5;obtain⟨⟨o,s⟩,h,r⟩:=Zh8 R.ls.f J;have v:o=p:=r;subst v;have D:G.fl[i]?=some s:=R.E.ge h;obtain⟨s1,s2⟩:=s;have k:=R.E.fl.e i _ h;have x:=(Zpd k).1
  cases s1 with
  |none=>exact absurd rfl (hs _ D)
  |some w=>
  obtain⟨g,M,N,tw⟩:=k.1
  have O:Zc1 c (G,pr) (.pace i)=({G with fl:=G.fl.set i (some (w.go c.1 c.2.2.2.2.2),s2)},pr):=by
    unfold Zc1;dsimp only;rw[D]
  rw[O]at C;have l:o.1=some ⟨g,0,none⟩:=M;rw[l]at B;refine Zg (rP (R.box u B) (Zg (rI (R.box u b1) (Zg (rI (R.box u b4) ?_)))));refine Classical.choose_spec (ZBT w c.1 c.2.2.2.2.2) N λh1 U V W c1 F=>?_;have hm:g∈hdP o:=by unfold hdP;rw[l];simp[Ztl]
  have H:Upd (λj=>∃d,d∈hdP o/\T' j=some (.p d)) hh h1:=F.mono λj _ y=>⟨g,hm,by rw[show j=g from y];exact tw⟩
  have z:ZBI h1 (hdT T') o.2 s2:=by
    cases s2 with
    |none=>exact k.2
    | some q=>
      obtain⟨A,r,I,P⟩:=k.2;exact⟨A,r,(F.old A (Zp I) λQ=>ZEg x l r (by rw[show A=g from Q])).trans I,P⟩
  have S:=R.E.setF (s':=(some (w.go c.1 c.2.2.2.2.2),s2)) h ⟨⟨g,l,c1,tw⟩,z⟩ H;exact C h1 _ _ prS (R.step S ⟨H.mono λj _ ⟨d,_,hd⟩=>Y9 hd,Zdi.refl _,λj y=>.inl y⟩ ⟨rfl,ZfU h rfl,rfl,rfl⟩)
theorem ZNx{i:Nat}{past h:Int}{a b d f g:Nat}{p:ShP}(R:ZoA hS T L wb c sl gr t wt m hh T' L' G pr prS)(A:∀j,T j≠none->j<base)(hs:∀s,G.fl[i]?=some s->s.1≠none/\s.2≠none)(S:Bx hS base wb t a 0 (.pointer p.1))(B:Bx hS base wb t a 1 (.pointer p.2))(b1:Bx hS base wb t b 0 (iv c.1))(b2:Bx hS base wb t d 0 (iv past))(b4:Bx hS base wb t f 0 (iv c.2.2.2.2.2))(b5:Bx hS base wb t g 0 (iv h))(hL:(L.fs[i]?).map (·.1)=some p)
    {K:Zf->Prop} (U:∀h' T'' L'' C,ZoA hS T L wb c sl gr t wt (m+1) h' T'' L'' (Zc1 c (G,pr) (.wp i past h)).1 (Zc1 c (G,pr) (.wp i past h)).2 C->K h'):XD (some ⟨a,0,none⟩) (some ⟨b,0,none⟩) (some ⟨d,0,none⟩) (some ⟨f,0,none⟩) (some ⟨g,0,none⟩) K hh:=by
  unfold XD Zd4;obtain⟨⟨z,s⟩,k,e8⟩:=Zh8 R.ls.f hL;have H:z=p:=e8;subst H;have I:G.fl[i]?=some s:=R.E.ge k;obtain⟨s1,s2⟩:=s;have y:=R.E.fl.e i _ k;have J:=(Zpd y).1
  cases s1 with
  |none=>exact absurd rfl (hs _ I).1
  |some w1=>
  cases s2 with
  |none=>exact absurd rfl (hs _ I).2
  |some M=>
  obtain⟨r,ep,cp,V⟩:=y.1;obtain⟨w,ew,cw,tw⟩:=y.2
  have rk:Zc1 c (G,pr) (.wp i past h)=({G with fl:=G.fl.set i (some (w1.at' c.1 c.2.2.2.2.2 h),some (M.fill c.1 past))},pr):=by
    unfold Zc1;dsimp only;rw[I]
  rw[rk]at U;have l:z.1=some ⟨r,0,none⟩:=ep;have q:z.2=some ⟨w,0,none⟩:=ew;rw[l]at S;rw[q]at B;have D:r≠w:=ZEg J l q;refine Zg (rP (R.box A B) (Zg (rI (R.box A b1) (Zg (rI (R.box A b2) ?_)))));refine Classical.choose_spec (Classical.choose_spec (Classical.choose_spec (ZmJ M c.1 past))) cw λh1 c1 N=>?_
  have bk:∀{b o:Nat} {v:Value},Bx hS base wb t b o v->ZA o (obj h1 b)=some v:=λ{b o v} x=>by
    have hx:=R.box A x;obtain⟨x1,x2,x3,x4,x5⟩:=x
    have:b≠w:=λe=>by
      subst e
      rcases R.n b (Y9 tw)with W|W
      ·have:=A b W;omega
      ·omega
    rw[show obj h1 b=obj hh b from N.old b (Aqq x3 R.u.size) this];exact hx
  refine Zg (rP (bk S) (Zg (rI (bk b1) (Zg (rI (bk b4) (Zg (rI (bk b5) ?_)))))));have O:obj h1 r=some (pcO w1):=(N.old r (Zp cp) D).trans cp;refine Classical.choose_spec (Classical.choose_spec (Zuy w1 c.1 c.2.2.2.2.2 h)) O λX c2 Y=>?_;have P:r∈hdP z:=by unfold hdP;rw[l];simp[Ztl]
  have Q:w∈hdP z:=by unfold hdP;rw[q];simp[Ztl]
  have Z:Upd (λj=>∃d,d∈hdP z/\T' j=some (.p d)) hh X:=(N.mono λj _ F=>⟨w,Q,by rw[show j=w from F];exact tw⟩).trans (Y.mono λj _ F=>⟨r,P,by rw[show j=r from F];exact V⟩);have E1:=R.E.setF (s':=(some (w1.at' c.1 c.2.2.2.2.2 h),some (M.fill c.1 past))) k ⟨⟨r,l,c2,V⟩,⟨w,q,(Y.old w (Zp c1) (Ne.symm D)).trans c1,tw⟩⟩ Z;exact U X _ _ prS (R.step E1 ⟨Z.mono λj _ ⟨d,_,hd⟩=>Y9 hd,Zdi.refl _,λj F=>.inl F⟩ ⟨rfl,ZfU k rfl,rfl,rfl⟩)
theorem Zyf{B:BkS}{at_:Int}(hw:WOK B.r)(a:WOK (B.enter at_).r){h:Zf}{wn mb:Nat}(w:Zj8 (ZcY _ hw) h wn mb B.w):Zj8 (ZcY _ a) h wn mb (B.enter at_).w:=by
  revert a
  unfold BkS.enter;split<;>(intro _;exact w)
theorem ZGj{i:Nat}{a b h:Nat}{id:Int}(R:ZoA hS T L wb c sl gr t wt m hh T' L' G pr prS)(hm:m<=2000)(C:∀j,T j≠none->j<base)(b0:Bx hS base wb t a 0 (pB h))(X:Bx hS base wb t a 1 (iv id))(b1:Bx hS base wb t b 0 (pB wb))(hL:(L.bs[i]?).map (λx=>(x.1,x.2.2))=some (h,id))
    {K:Zf->Prop} (I:∀h' T'' L'' J,ZoA hS T L wb c sl gr t wt (m+1) h' T'' L'' (Zc1 c (G,pr) (.brk i)).1 (Zc1 c (G,pr) (.brk i)).2 J->K h'):YZ (some ⟨a,0,none⟩) (some ⟨b,0,none⟩) K hh:=by
  unfold YZ ZbH;obtain⟨⟨g,B,v⟩,z,e8⟩:=Zh8 R.ls.b hL;have Y:g=h/\v=id:=by injection e8 with Z y;exact⟨Z,y⟩
  obtain⟨Z,y⟩:=Y;subst Z;subst y;have hG:G.br[i]?=some (B,v):=by rw[<-R.E.lb,Awy,z];rfl
  have l:WOK (B.1.enter c.1).r:=by have:=B.2;unfold BkS.enter;split<;>exact this
  have rk:Zc1 c (G,pr) (.brk i)=({G with br:=G.br.set i (⟨B.1.enter c.1,l⟩,v)},if Zpe B.1 c.1=true then pr++[v]else pr):=by
    unfold Zc1;dsimp only;rw[hG]
  rw[rk]at I;refine Zg (rP (R.box C b0) (Zg (rP (R.box C b1) (Zg (rI (Zb R.w rfl) ?_)))));obtain⟨⟨wn,mb,cB,M,o1,o2,o3⟩,N⟩:=id (R.E.br.e i _ z);refine Ztw cB λh1 p9 e9 c1 u1 z1=>?_
  have O:g≠wn/\g≠mb:=by
    constructor
    ·intro e;have P:=M.cells;rw[<-e,cB]at P;simp[b7L]at P
    ·intro e;obtain⟨f,n,⟨es,c9,hq,_⟩,_⟩:=M.map;have P:obj hh mb=_:=hq;rw[<-e,cB]at P;cases P
  have Q:(B.1.enter c.1).w.last<=(B.1.enter c.1).la:=by
    unfold BkS.enter;split
    ·rename_i q;unfold ZO at q;have:B.1.w.last<=B.1.la:=N;show B.1.w.last<=c.1;split at q
     ·cases q
     ·split at q
      ·cases q
      ·split at q
       ·cases q
       ·omega
    ·exact N
  have aB:(B.1.enter c.1).w=B.1.w:=by unfold BkS.enter;split<;>rfl
  have aC:(B.1.enter c.1).r=B.1.r:=by unfold BkS.enter;split<;>rfl
  have uT:Upd (inT T' g) hh h1:=u1.mono λj _ p=>by rw[show j=g from p];exact o1
  have bR:BkR h1 g (inT T' g) (B.1.enter c.1) l:=⟨⟨wn,mb,c1,Zyf B.2 l (M.congr (u1.old wn (Zp M.cells) λe=>O.1 (show wn=g from e).symm) (u1.old mb M.mlt λe=>O.2 (show mb=g from e).symm)),o1,o2,o3⟩,Q⟩
  ·have E1:=R.E.setB (B':=⟨B.1.enter c.1,l⟩) z bR uT ⟨λj p=>.inl p,λj p=>p⟩;have d:=R.step E1 (GrG.tag R.E.hT uT (λj p=>Y9 p) (Aqo _)) (L'':={L' with bs:=L'.bs.set i (g,⟨B.1.enter c.1,l⟩,v)}) ⟨rfl,rfl,ZfU z rfl,rfl⟩;refine⟨⟨d.box C b1,trivial⟩,Zd (Zd (Za ⟨λq=>?_,λq=>?_⟩))⟩
   ·have q':Zpe B.1 c.1=true:=q
    rw[if_pos q']at I;refine Zg (Zg (rP (d.box C b1) (Zg (rP (d.box C b1) (Zg (rL (s:=prS) (Zb d.w rfl) (rI (d.box C X) (ZH λA c2 y z2=>?_))))))));have bk:∀{h3:Zf},(∀{j:Nat} {x:Obj},obj h1 j=some x->prS.blk≠some j->obj h3 j=some x)->True:=λ_=>trivial;have nb:prS.blk≠some b:=λe=>by have:=(d.o.lt e).1;have:=b1.2.2.1;omega
    have nw:prS.blk≠some wb:=λe=>by have:=(d.o.lt e).1;have:=d.lw;omega
    have B1:=d.box C b1
    have D:ZA 0 (obj A b)=some (pB wb):=by
      rw[show obj A b=obj h1 b from y.old b (Aqq b1.2.2.1 d.u.size)];exact B1
    have w2:=Zj d.w y;refine⟨ZR (Zb w2 rfl),⟨D,trivial⟩,⟨D,trivial⟩,(Zje c2 rfl).rd ?_⟩;have pl:=d.pl;have ol:=d.o.len;simp only[Ayt,Aqv]at ol;refine(d.o.congr (h':=A) λb _ hl _=>y.old b hl).app (n:=1) rfl rfl rfl (by omega) (by omega) (Aqp d.u.size y.size) λs' h3 ag l3 V ah=>?_
    have S:ZA 0 (obj h3 b)=some (pB wb):=by
      rw[show obj h3 b=obj A b from V.old b (Aqq b1.2.2.1 (Aqp d.u.size y.size)) nb];exact D
    have w3:obj h3 wb=_:=(V.old wb (Zp w2) nw).trans w2;refine⟨⟨S,trivial⟩,⟨S,trivial⟩,Zg (Zbs w3 (show 0+10<12 by decide) rfl λW c4 u4 z4=>?_)⟩;have aN:sz h1<sz A:=by have:sz A=sz h1+1:=z2;omega
    have aO:sz A<=sz h3:=V.size;have aP:sz h3<=sz W:=u4.size;have Tw:=d.tw';have F:Upd (λj=>j=wb\/prS.blk=some j) h1 W:=((y.upd _).trans (V.mono λj _ p=>.inr p)).trans (u4.mono λj _ p=>.inl p)
    have E4:=d.E.frame F λj p=>by
      rcases p with e|e
      ·rw[e];exact Tw
      ·exact d.ot j e
    refine I W _ _ s' ⟨E4,⟨Aqp d.u.size F.size,λk H hn=>?_⟩,d.s,d.n,c4,d.lw,d.tw,?_,λU h=>?_,d.ls,by simp;have:=R.pl;omega⟩
    ·refine (F.old k (Aqq H d.u.size) λh9=>?_).trans (d.u.old k H hn)
     rcases h9 with e|e
     ·exact hn (.inr e)
     ·have:=(d.o.lt e).1;have:k<sz hS:=H;omega
    ·rw[Ayu];refine(ag.congr (h':=W) λU h aj g=>u4.old U aj λe=>?_);have e':U=wb:=e;have:sz hS<=U:=g;have:=d.lw;omega
    ·rcases ah with e|e
     ·exact d.ot U (e▸h)
     ·rw[e]at h;cases h;refine Classical.byContradiction λak=>?_;have h9:sz A<sz h1:=d.E.hT _ ak;omega
   ·rw[if_neg (by rw[show Zpe B.1 c.1=false from q];decide)]at I;exact I h1 _ _ prS d
end
theorem Zr2{h:Zf}{s:Sl}{al:List ByteArray}(hs:Row h s 1 (al.map .string)){K:Bool->Zf->Prop}(d:K (ZkQ al) h)(hl:al.length<=8):ZE s K h:=by
  unfold ZE ZX Z9 Yf;have k:s.len=al.length:=by have:=hs.len;simp at this;omega
  refine Za (ZaE (λp j=>∃i:Nat,p=((i:Int),())/\i<=al.length/\j=h/\ZkQ (al.take i)=false) (λp _=>al.length- p.1.toNat) ⟨0,rfl,Aye _,rfl,rfl⟩ ?_);rintro _ j ⟨i,rfl,l,g,e⟩ Q m;subst g;dsimp only;refine Zo (λq=>?_) λq=>?_
  ·have a:i<al.length:=by omega
   have f:al[i]?=some al[i]:=Axy a;generalize al[i]=x at f;refine Za (hs.idx (n:=i) (v:=.string x) rfl (by rw[Awy,f];rfl) λb o _ r=>⟨x,r,?_⟩);unfold Zb8 Zca;refine Zd (Zo (λt=>Za (Zd ?_)) λt=>?_)
   ·have:decide ((i:Int)>=0)=true:=by simp
    rw[this];have:ZkQ al=true:=List.any_eq_true.2 ⟨x,Axo f,by simp;omega⟩;rw[this]at d;exact d
   ·rw[wrS a (by omega)];refine m _ _ ⟨i+1,rfl,a,rfl,?_⟩ (by show al.length- ((i+1:Nat):Int).toNat<al.length- ((i:Nat):Int).toNat;omega);unfold ZkQ at e⊢;rw[Ayk,f,List.any_append,e];simp;omega
  ·have c:al.take i=al:=Awd (by omega);rw[c]at e;rw[e]at d;exact Za (Zd d)
theorem ZDl{h:Zf}{T:TgM}{L:Lay}{G:GS}(E:Zb1 h T L G){c:PC}{sl:Sl}(hz:Zic (cl c nl)){al:List ByteArray}(F:Row h sl 1 (al.map .string)){K:Int->Zf->Prop}
    (w:∀h' T',Zb1 h' T' L (if ZfO G c al=0 then {G with t:=G.t.touched (cl c nl)}else G)->GrG T T' h h'->K (ZfO G c al) h'):X6 (some ⟨L.eb,0,none⟩) (cl c sl) K h:=by
  have no:∀e (d:Zf),Ext h d->e≠0->ZfO G c al=e->K e d:=λe d H h1 i=>by
    have:=w d T (by rw[if_neg (by rw[i];exact h1)];exact E.ext H) (GrG.ext H);rwa[i]at this
  unfold X6 Zds;have P:sl.len=al.length:=by have:=F.len;simp at this;omega
  refine ZH λh1 c1 I z1=>Za (rI (Zb c1 rfl) (rS (Zb c1 rfl) (rS (Zb c1 rfl) (rS (Zb c1 rfl) (rB (Zb c1 rfl) (rI (Zb c1 rfl) (rL (s:=sl) (Zb c1 rfl) ?_)))))));refine Zlr (c:=cl c sl) (show Zic (cl c sl)from⟨hz.a,hz.b,hz.c⟩) λs i x o2=>Za (ZbG (λ(m:ZgZ (cl c nl)≠0)=>Za (no (ZgZ (cl c nl)) i (I.trans x) m (by unfold ZfO;rw[if_pos m]))) λ(m:ZgZ (cl c nl)=0)=>?_);have f:=I.trans x;have g:=Zj c1 x;have J:∀{a:Int},¬(0<=c.1/\c.1<=1152921504606846976)->K 2 i:=λq=>no 2 i f (by decide) (by unfold ZfO;rw[if_neg (λd=>d m),if_pos q]);refine rI (Zb g rfl) (Zo (λ(Q:c.1<0)=>Za (J (a:=0) (by omega))) λ(Q:¬c.1<0)=>rI (Zb g rfl) (Zo (λ(R:c.1>1152921504606846976)=>Za (J (a:=0) (by omega))) λ(R:¬c.1>1152921504606846976)=>?_));have k:0<=c.1/\c.1<=1152921504606846976:=by omega
  have M:¬(1<=c.2.2.2.2.2/\c.2.2.2.2.2<=1099511627776)->K 2 i:=λq=>no 2 i f (by decide) (by unfold ZfO;rw[if_neg (λd=>d m),if_neg (λd=>d k),if_pos q]);refine rI (Zb g rfl) (Zo (λ(S:c.2.2.2.2.2<1)=>Za (M (by omega))) λ(S:¬c.2.2.2.2.2<1)=>rI (Zb g rfl) (Zd (Zo (λ(U:c.2.2.2.2.2>1099511627776)=>Za (M (by omega))) λ(U:¬c.2.2.2.2.2>1099511627776)=>?_)));have l:1<=c.2.2.2.2.2/\c.2.2.2.2.2<=1099511627776:=by omega
  refine rL (s:=sl) (Zb g rfl) (Zo (λV=>Za (no 5 i f (by decide) ?_)) λV=>?_)
  ·unfold ZfO;rw[if_neg (λd=>d m),if_neg (λd=>d k),if_neg (λd=>d l),if_pos (by omega)]
  have n:¬ 8<al.length:=by omega
  refine rL (s:=sl) (Zb g rfl) (Zr2 (F.ext f) (Zd ⟨λy=>Za (no 5 i f (by decide) ?_),λy=>?_⟩) (by omega))
  ·unfold ZfO;rw[if_neg (λd=>d m),if_neg (λd=>d k),if_neg (λd=>d l),if_neg n,if_pos y]
  have o:¬ZkQ al=true:=by rw[y];decide
  have r:=E.ext f;refine rI (Zb g rfl) (Zg (rI (Zb r.cells rfl) (Zd (Zo (λ(u:c.1<G.la)=>Za (no 7 i f (by decide) ?_)) λ(u:¬c.1<G.la)=>?_))))
  ·unfold ZfO;rw[if_neg (λd=>d m),if_neg (λd=>d k),if_neg (λd=>d l),if_neg n,if_neg o,if_pos u]
  refine Zg (rI (Zb r.cells rfl) (Zd (Zo (λz=>Za (no 3 i f (by decide) ?_)) λz=>?_)))
  ·unfold ZfO;rw[if_neg (λd=>d m),if_neg (λd=>d k),if_neg (λd=>d l),if_neg n,if_neg o,if_neg u,if_pos (show 4096<=G.op from z)]
  have W:ZfO G c al=G.t.touchE (cl c nl):=by unfold ZfO;rw[if_neg (λd=>d m),if_neg (λd=>d k),if_neg (λd=>d l),if_neg n,if_neg o,if_neg u,if_neg (show ¬ 4096<=G.op from z)]
  rw[W]at w;refine Zg (rP (Zb r.cells rfl) (rI (Zb g rfl) (rS (Zb g rfl) (rS (Zb g rfl) (rS (Zb g rfl) (rB (Zb g rfl) (rI (Zb g rfl) (rL (s:=sl) (Zb g rfl) (ZH λh3 X A z3=>⟨ZR (Zb (r.ext A).cells rfl),?_⟩)))))))));have v:=r.ext A;have B:=f.trans A;refine ZvU (c:=cl c sl) v.tree (λj C=>ZbX v.hT C) (show Zic (cl c sl)from⟨hz.a,hz.b,hz.c⟩) (Zje X rfl) (λb q d=>?_) λN O' t4 O Y=>Za (w N (ZhZ T (.p L.tb) (sz h3) (sz N)) ?_ (GrG.pre B (GrG.tag v.hT O (λj C=>Y9 C) (Aqo _))))
  ·simp[Sl.blk]at q;subst q;have Z:T (sz i)=some (.p L.tb):=d;have:=ZbX r.hT Z;omega
  ·have:(if G.t.touchE (cl c nl)=0 then {G with t:=G.t.touched (cl c nl)}else G)={G with t:=G.t.touched (cl c nl)}:=by
     split
     ·rfl
     ·rename_i D;unfold Tree.touched;rw[if_neg D]
   rw[this];exact v.tree' t4 O Y
def ZNX(r:RulesP):Tk->Prop
  | .warm i _ _=>∃f,r.fl[i]?=some f/\f.shape=1
  | .pace i=>∃f,r.fl[i]?=some f/\f.shape=2
  | .wp i _ _=>∃f,r.fl[i]?=some f/\f.shape=3
  |_=>True
theorem Zjg{P:Tk->Prop}{f:Int->Lk}(c:∀i tk,tk∈(f i).tk->P tk):∀{l:List Int} {x:List Tk×Int},(∀tk,tk∈x.1->P tk)->∀tk,tk∈(ZgL f l x).2.1->P tk
  |[],x,a,tk,h=>a tk h
  | i::l,x,a,tk,h=>by
    have d:∀tk,tk∈x.1++(f i).tk->P tk:=λtk h=>(Axx.1 h).elim (a tk) (c i tk);have e:ZgL f (i::l) x=if(f i).b=true then(some i,x.1++(f i).tk,wtV x.2 (f i).wt)else ZgL f l (x.1++(f i).tk,wtV x.2 (f i).wt):=rfl
    rw[e]at h;split at h
    ·exact d tk h
    ·exact Zjg c (l:=l) (x:=(x.1++(f i).tk,wtV x.2 (f i).wt)) d tk h
theorem Zrt{P:Tk->Prop}{st:Nat->List Tk×Int->Option Int×List Tk×Int}(a:∀j x,(∀tk,tk∈x.1->P tk)->∀tk,tk∈(st j x).2.1->P tk):∀{n j:Nat} {x:List Tk×Int},(∀tk,tk∈x.1->P tk)->∀tk,tk∈(Zoq st n j x).2.1->P tk
  | 0,_,x,b,tk,h=>b tk h
  | n+1,j,x,b,tk,h=>by
    have e:Zoq st (n+1) j x=match (st j x).1 with
      |some i=>(some (((j+1:Nat):Int),i),(st j x).2)
      |none=>Zoq st n (j+1) (st j x).2:=rfl
    rw[e]at h;split at h
    ·exact a j x b tk h
    ·exact Zrt a (n:=n) (j:=j+1) (x:=(st j x).2) (a j x b) tk h
theorem ZDX{G:GS}{c:PC}{al:List ByteArray}{gr:Bool}:∀tk,tk∈(Znr G c al gr).2.1->ZNX G.r tk:=by
  refine Zrt (λj x a tk h=>?_) λtk h=>by cases h
  have no:∀{f:Int->Lk} {l:List Int},(∀i,(f i).tk=[])->tk∈(ZgL f l x).2.1->ZNX G.r tk:=λ{f l} b h=>Zjg (λi tk h=>by rw[b i]at h;cases h) a tk h
  match j,h with
  | 0,h=>exact no (λi=>rfl) h
  | 1,h=>
    have h':tk∈(ZE5 G c x).2.1:=h;unfold ZE5 at h';split at h'
    ·exact no (λi=>rfl) h'
    ·exact a tk h'
  | 2,h=>
    refine Zjg (λi tk h=>?_) a tk h;unfold Zos at h;split at h
    ·split at h
     ·simp only[Awr,Ayi,or_false]at h;subst h;trivial
     ·cases h
    ·cases h
  | 3,h =>
    refine Zjg (λi tk h=>?_) a tk h;unfold Zkh at h;split at h
    ·rename_i f s b hs;split at h
     ·cases h
     ·unfold ZkK at h;split at h
      ·rename_i q;split at h
       ·simp only[Awr,Ayi,or_false]at h;subst h;exact⟨f,b,q⟩
       ·cases h
      ·split at h
       ·rename_i q;split at h
        ·simp only[Awr,Ayi,or_false]at h;subst h;exact⟨f,b,q⟩
        ·cases h
       ·split at h
        ·rename_i q;split at h
         ·simp only[Awr,Ayi,or_false]at h;subst h;exact⟨f,b,q⟩
         ·cases h
        ·cases h
    ·cases h
  | n+4,h=>
    refine Zjg (λi tk h=>?_) a tk h;unfold Zot at h;split at h
    ·simp only[Awr,Ayi,or_false]at h;subst h;trivial
    ·cases h
theorem ZDD{c:PC}{x:GS×List Int}(tk:Tk):(Zc1 c x tk).1.r=x.1.r:=by unfold Zc1;cases tk<;>dsimp only<;>split<;>rfl
section
variable{h h8 hh h12:Zf}{T T3 T':TgM}{L L':Lay}{G:GS}
theorem GrG.run{wb m:Nat}{c:PC}{sl t b:Sl}{gr:Bool}{wt:Int}{pr:List Int}(a:GrG T T3 h h8)(R:ZoA h8 T3 L wb c sl gr t wt m hh T' L' G pr b)(hT:∀j,T j≠none->j<sz h)(hw:sz h<=wb):GrG T T' h hh:=by
  refine⟨⟨Aqp a.u.size R.u.size,λk d f=>?_⟩,a.s.trans R.s,λj i=>?_⟩
  ·have l:k<sz h:=d;refine(R.u.old k (Aqq d a.u.size) λo=>?_).trans (a.u.old k d f)
   rcases o with e|e
   ·rcases a.n k e with g|g
    ·exact f g
    ·omega
   ·omega
  ·rcases R.n j i with g|g
   ·exact a.n j g
   ·exact .inr (Aqp a.u.size g)
theorem GrG.tagS{s:Sl}(a:GrG T T' h h12)(hs:∀b,s.blk=some b->T' b=none/\sz h<=b):GrG T (tagS T' s) h h12:=
  ⟨a.u,a.s.trans (Zij λb c=>(hs b c).1),λj d=>(Zik d).elim (a.n j) λe=>.inr (hs j e).2⟩
theorem ZDp{base wb:Nat}{c:PC}{sl t:Sl}{gr:Bool}{wt:Int}{tks:List Tk}{vs:List Value}(hE:Zb1 h8 T L G)(ok:GOK G)(hb:∀j,T j≠none->j<base/\j≠wb)(W:WkR h8 base wb L c sl gr tks wt t vs)(hn:tks.length<=2000)(ai:∀tk,tk∈tks->ZNX G.r tk){K:Zf->Prop}
    (hk:∀h' T' L' J,ZoA h8 T L wb c sl gr t wt tks.length h' T' L' (ZfS c (G,[]) tks).1 (ZfS c (G,[]) tks).2 J->K h'):
    Yl (σ:=Int×Unit) (λM s z=>(λ(A:Int)=>Zl (decide (A<(t.len:Int))) (YI t.ptr t.len A 1 λaj ak=>ldV z aj ak λt74=>
 (exG t74 (λB:Option Addr×Option Addr×Option Addr×Unit=>.func (.func 122) #[] ⟨[.pointer B.1,.pointer B.2.1,.pointer B.2.2.1]⟩) λB=>Xh B.1 B.2.1 B.2.2.1 (λy=>M (IntKind.wrap .i64 (A+1),()) y) z)\/(
 (exG t74 (λh:Option Addr×Option Addr×Option Addr×Option Addr×Option Addr×Unit=>.func (.func 182) #[] ⟨[.pointer h.1,.pointer h.2.1,.pointer h.2.2.1,.pointer h.2.2.2.1,.pointer h.2.2.2.2.1]⟩) λh=>XF h.1 h.2.1 h.2.2.1 h.2.2.2.1 h.2.2.2.2.1 (λy=>M (IntKind.wrap .i64 (A+1),()) y) z)\/(
 (exG t74 (λC:Option Addr×Option Addr×Option Addr×Unit=>.func (.func 185) #[] ⟨[.pointer C.1,.pointer C.2.1,.pointer C.2.2.1]⟩) λC=>XE C.1 C.2.1 C.2.2.1 (λy=>M (IntKind.wrap .i64 (A+1),()) y) z)\/(
 (exG t74 (λk:Option Addr×Option Addr×Option Addr×Option Addr×Option Addr×Unit=>.func (.func 190) #[] ⟨[.pointer k.1,.pointer k.2.1,.pointer k.2.2.1,.pointer k.2.2.2.1,.pointer k.2.2.2.2.1]⟩) λk=>XD k.1 k.2.1 k.2.2.1 k.2.2.2.1 k.2.2.2.2.1 (λy=>M (IntKind.wrap .i64 (A+1),()) y) z)\/(
 (exG t74 (λN:Option Addr×Option Addr×Unit=>.func (.func 128) #[] ⟨[.pointer N.1,.pointer N.2.1]⟩) λN=>YZ N.1 N.2.1 (λy=>M (IntKind.wrap .i64 (A+1),()) y) z)\/False))))) (K z)) s.1) (0,()) h8:=by
  have E:∀j,T j≠none->j<base:=λj hj=>(hb j hj).1;have tw:T wb=none:=Classical.byContradiction λh9=>(hb wb h9).2 rfl;have tl:t.len=tks.length:=by have:=W.o.len;have:=W.l;omega
  refine ZaE (λ(p:Int×Unit) hh=>∃(m:Nat) (T':TgM) (L':Lay) (X:GS) (pr:List Int) (J:Sl),p=((m:Int),())/\m<=tks.length/\ZoA h8 T L wb c sl gr t wt m hh T' L' X pr J/\GOK X/\X.r=G.r/\ZfS c (X,pr) (tks.drop m)=ZfS c (G,[]) tks) (λp _=>((tks.length:Int)- p.1).toNat)
    ⟨0,T,L,G,[],nl,rfl,Aye _,⟨hE,Upd.refl _ _,Zdi.refl T,λj hj=>.inl hj,W.w,Zp W.w,tw,Own.nil _ _ _,(λb hb=>by cases hb),LS.refl,Aqo _⟩,ok,rfl,rfl⟩ ?_
  rintro _ hh ⟨m,T',L',X,pr,J,rfl,hm,R,F,hr,D⟩ Q hQ;dsimp only;refine Zo (λq=>?_) λq=>?_
  ·have O:m<tks.length:=by omega
   obtain⟨tk,P⟩:∃tk,tks[m]?=some tk:=⟨_,Axy O⟩;obtain⟨v,ag⟩:∃v,vs[m]?=some v:=⟨_,Axy (by rw[W.l];exact O)⟩
   have row:Row hh t 1 vs:=(W.o.congr λb aa an ao=>R.u.old b an λe=>by
     rcases e with e|e
     ·have:base<=b:=ao;have:=E b e;omega
     ·exact W.n (by rw[aa,show b=wb from e])).row
   have hd:tks.drop m=tk::tks.drop (m+1):=by
     rw[Aym O];congr 1;exact(Ayf.1 P).2
   rw[hd]at D;have S:=ai tk (Axo P)
   have next:∀h' T'' L'' U,ZoA h8 T L wb c sl gr t wt (m+1) h' T'' L'' (Zc1 c (X,pr) tk).1 (Zc1 c (X,pr) tk).2 U->Q (IntKind.wrap .i64 ((m:Int)+1),()) h':=λh' T'' L'' U R'=>by
     rw[wrS O (by omega)];exact hQ _ _ ⟨m+1,T'',L'',_,_,U,rfl,O,R',F.run1 (x:=(X,pr)) tk,(ZDD (x:=(X,pr)) tk).trans hr,D⟩ (by show((tks.length:Int)- ((m+1:Nat):Int)).toNat<((tks.length:Int)- ((m:Nat):Int)).toNat;omega)
   refine row.idx (i:=(m:Int)) (n:=m) rfl ag λb o _ hc=>⟨v,hc,?_⟩;have V:=W.e m v tk ag P
   cases tk with
   | hot i x=>
     obtain⟨a0,a1,a2,aa,e,Y,b1,b2,Z⟩:=V;subst e;exact .inl ⟨(some ⟨a0,0,none⟩,some ⟨a1,0,none⟩,some ⟨a2,0,none⟩,()),rfl,ZGi R E Y b1 b2 Z next⟩
   | warm i past sum=>
     obtain⟨a,b,d,e,f,p,ev,Y,b1,b2,b3,b4,Z⟩:=V;subst ev;obtain⟨f9,H,I⟩:=S;exact .inr (.inl ⟨(some ⟨a,0,none⟩,some ⟨b,0,none⟩,some ⟨d,0,none⟩,some ⟨e,0,none⟩,some ⟨f,0,none⟩,()),rfl,ZDB R F E (λs hs=>(F.sh i f9 s (by rw[hr];exact H) hs).2 (.inl I)) Y b1 b2 b3 b4 Z next⟩)
   | pace i=>
     obtain⟨a,b,f,p,ev,Y,b1,b4,Z⟩:=V;subst ev;obtain⟨f9,H,I⟩:=S;exact .inr (.inr (.inl ⟨(some ⟨a,0,none⟩,some ⟨b,0,none⟩,some ⟨f,0,none⟩,()),rfl,ZDE R E (λs hs=>(F.sh i f9 s (by rw[hr];exact H) hs).1 (.inl I)) Y b1 b4 Z next⟩))
   | wp i past aq=>
     obtain⟨a,b,d,f,g,p,ev,Y,ae,b1,b2,b4,b5,Z⟩:=V;subst ev;obtain⟨f9,H,I⟩:=S;exact .inr (.inr (.inr (.inl ⟨(some ⟨a,0,none⟩,some ⟨b,0,none⟩,some ⟨d,0,none⟩,some ⟨f,0,none⟩,some ⟨g,0,none⟩,()),rfl,ZNx R E (λs hs=>⟨(F.sh i f9 s (by rw[hr];exact H) hs).1 (.inr I),(F.sh i f9 s (by rw[hr];exact H) hs).2 (.inr I)⟩) Y ae b1 b2 b4 b5 Z next⟩)))
   | brk i=>
     obtain⟨a,b,aa,id,ev,Y,ae,b1,Z⟩:=V;subst ev;exact .inr (.inr (.inr (.inr (.inl ⟨(some ⟨a,0,none⟩,some ⟨b,0,none⟩,()),rfl,ZGj R (by omega) E Y ae b1 Z next⟩))))
  ·have:m=tks.length:=by omega
   subst this;rw[Ayo (Aqo _)]at D;have e:(X,pr)=ZfS c (G,[]) tks:=D;refine hk hh T' L' J ?_;rw[<-e];exact R
end
end Go.Proofs.YtonbfpnngkemiaaGreat
