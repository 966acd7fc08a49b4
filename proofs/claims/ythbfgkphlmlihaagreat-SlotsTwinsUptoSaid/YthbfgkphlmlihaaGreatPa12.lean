/- A sketch of any width: Add in whole, New. -/
import Derived.Test.YthbfgkphlmlihaaGreatPa11
set_option linter.unusedVariables false
set_option linter.unusedSimpArgs false
namespace Go.Proofs.YthbfgkphlmlihaaGreat
open Go Go.Fw
open Nat renaming reduceAdd->Nqa,reduceLT->Nqb,reduceLeDiff->Nqc,reduceEqDiff->Nqd,reduceMul->Nqe
theorem Zvx {l:List Bk} {b:Bk} (h:l.getLast?=some b) (f:Bk->Bk):Zs7 l f=l.set (l.length - 1) (f b):=by unfold Zs7;rw [h]
theorem ZGs {sl:Sl} {n:Nat} {h:Zf} {lb:List B3} (ho:Own h n sl 3 (lb.flatMap b3L)):sl.len=lb.length:=Zan ZfF ho.row (by decide)
theorem Zvf {h h0:Zf} {O0 O:Nat->Prop} {wb b nb:Nat} {sl:Sl} {lb:List B3} {s:Sk} (hs:SkR h O wb sl lb s) (hg:GrO O0 O h0 h) {bk:Bk} (hl:s.bs.getLast?=some bk) {x:Int} (hx:0<=x/\x<=1099511627776) {key:ByteArray} (Y:key.size<9223372036854775808) {T1 T2:TypeId}
    (cb:obj h b=some (.cells [.pointer (some ⟨wb,0,none⟩)].toArray T1 (0,0))) (cn:obj h nb=some (.cells [iv x].toArray T2 (0,0))) (tb:¬ O b) (tn:¬ O nb) {K:Int->Zf->Prop}
    (B:∀ h',SkR h' O wb sl (lb.set (lb.length - 1) (ZqS bk s.seed x key 4,(lb[lb.length - 1]?.map (·.2)).getD 0)) ⟨s.d,s.seed,s.last,s.bs.set (s.bs.length - 1) (ZqS bk s.seed x key 4)⟩->GrO O0 O h0 h'->K 0 h') :
    ldP h b 0 fun t88=>Ze t88 fun aC aD=>ldL h aC (aD+5) fun t91=>ldP h b 0 fun t92=>Ze t92 fun aE aF=>ldL h aE (aF+5) fun t95 =>
      YR t91.ptr t91.len (IntKind.wrap .i64 ((t95.len:Int) - 1)) 3 fun C D =>
      Yj (σ:=Int × Unit) (fun aG aH A=>(fun (E:Int) =>
       Zm (decide (E<((1:Nat):Int))) (YR (some ⟨nb,0,none⟩) 1 E 1 fun Z aa=>ldI A Z aa .i64 fun t103=>Zd t103 fun P=>ldI A C (D+1) .i64 fun t105 =>
        ZbL t105 P (fun t106 ae=>st ae C (D+1) (iv t106) fun F=>ldP F b 0 fun t109=>Ze t109 fun af ag=>ldI F af (ag+2) .i64 fun t112 =>
         Yj (σ:=Int × Unit) (fun ah ai l=>(fun (G:Int) =>
          Zm (decide (G<t112)) (Zd G fun row=>ldP l b 0 fun t116=>Ze t116 fun t u =>
           ldI l t u .i64 fun t119=>ldI l t (u+1) .i64 fun t120=>ldI l t (u+2) .i64 fun t121=>ldI l t (u+3) .i64 fun t122=>ldI l t (u+4) .u64 fun t123 =>
           Xp (t119,t120,t121,t122,t123,()) row key (fun t124 aj =>
            newC aj [iv 0,iv 0] 332 fun g ak=>sts ak g 0 [iv row,iv t124] fun f =>
            ldM f C (D+2) fun t129=>ldI f g 0 .i64 fun t130=>ldI f g (0+1) .i64 fun t131=>ldM f C (D+2) fun t132=>ldI f g 0 .i64 fun t133=>ldI f g (0+1) .i64 fun t134 =>
            Zcf [(.int .i64),(.int .i64)] f t132 [iv t133,iv t134] fun r=>asI (r.getD (iv 0)) .i64 fun t135 =>
            Zu (Zo f [(g,0,iv t130),(g,0+1,iv t131)]) <| Zu (Zo f [(C,D+2,Value.map t129)]) <|
            ZbL t135 P (fun t136 H =>
             Zu (Zo H [(g,0,iv t130),(g,0+1,iv t131)]) <| Zu (Zo H [(C,D+2,Value.map t129)]) <|
             ZhL [(.int .i64),(.int .i64)] H t129 [iv t130,iv t131] (iv t136) fun an=>ah (IntKind.wrap .i64 (G+1),()) an) f) l)
           (aG (IntKind.wrap .i64 (E+1),()) l)) ai.1) (0,()) F) A)
       (Zd 0 fun t139=>K t139 A)) aH.1) (0,()) h:=by
  have hlen:=ZGs hs.own;have bl:lb.length=s.bs.length:=by rw [<- hs.bs,Ayv]
  have aY:0<s.bs.length:=by
    rcases Aqw s.bs.length with h0 | h0
    ·rw [Aqr h0] at hl;cases hl
    ·exact h0
  have aZ:=hs.own.big;have ba:=hs.own.cap;have few:=hs.ok.few;obtain ⟨y,S⟩:∃ y,lb[lb.length - 1]?=some y:=⟨_,Axy (by omega)⟩
  have aI:y.1=bk:=by
    rw [List.getLast?_eq_getElem?,<- hs.bs,Awy,Ayv,S] at hl;exact Option.some.inj hl
  have T:=(hs.ok.bs bk (List.mem_of_getLast? hl)).1;subst aI;obtain ⟨y1,mb⟩:=y;dsimp only at hl T;rw [S] at B;dsimp only [Option.map_some,Option.getD_some] at B;refine rP (Zb cb rfl) (Zg (rL (Zb hs.cells rfl) (rP (Zb cb rfl) (Zg (rL (Zb hs.cells rfl) ?_)))));obtain ⟨bb,hp,U⟩:=Own.ptr_ hs.own (o:=(lb.length - 1)*3) (by rw [YV ZfF];omega);have aJ:=hs.ts bb U;have aK:∀ {k},¬ O k->k≠bb:=fun B e=>B (e▸aJ);have aL:∀ {k},¬ O k->k≠mb:=fun B e=>B (e▸(hs.maps _ (Axo S)).2);refine ⟨bb,0,hp,by rw [Yr (by omega) (by omega)];omega,by rw [Yr (by omega) (by omega)];omega,?_⟩;have ho:0+(IntKind.wrap .i64 ((sl.len:Int) - 1)).toNat*3=(lb.length - 1)*3:=by rw [Yr (by omega) (by omega)];omega
  rw [ho];clear ho;generalize hm:lb.length - 1=m at S B ⊢;have aM:s.bs.length - 1=m:=by omega
  rw [aM] at B
  have elem:∀ {w:Zf} {L:List B3} {s':Sk} {z:B3},SkR w O wb sl L s'->L[m]?=some z->∀ j v,(b3L z)[j]?=some v->ZA (m*3+j) (obj w bb)=some v:=fun {w L s' z} ar hz j v hv=>by
    rcases ar.own.row.at_ with h9 | ⟨b9,o9,aN,aO⟩
    ·have:=ZGs ar.own
     have:=Zbw hz;omega
    ·have au:=hp
     rw [aN] at au;cases au;have hj:j<3:=by rw [<- ZfF z];exact Zbw hv
     have:=ZiC aO (i:=m*3+j) (v:=v) (by rw [ZqK ZfF L m j z hz hj];exact hv);rw [Yo,Awb] at this;exact this
  have bd:∀ (z:B3),lb.set m z=lb.set m z:=fun _=>rfl;have M:∀ (a c:B3),(lb.set m a).set m c=lb.set m c:=fun a c=>List.set_set _;have I:∀ (a c:Bk),(s.bs.set m a).set m c=s.bs.set m c:=fun a c=>List.set_set _;have p:∀ (a:B3),(lb.set m a)[m]?=some a:=fun a=>Ayu (Zbw S);refine Zbd (fun st w=>(st=(0,())/\w=h)\/(st=(1,())/\SkR w O wb sl (lb.set m (ZqS y1 s.seed x key 4,mb)) ⟨s.d,s.seed,s.last,s.bs.set m (ZqS y1 s.seed x key 4)⟩/\GrO O0 O h0 w)) (fun st _=>(1 - st.1).toNat) (.inl ⟨rfl,rfl⟩) ?_;rintro _ w (⟨rfl,rfl⟩ | ⟨rfl,aP,aQ⟩) Q hQ
  case inr=>exact Zi (by decide) (B w aP aQ)
  dsimp only;refine Zl (by decide) ?_;refine ⟨nb,0,rfl,by decide,by decide,rI (Zb cn rfl) ?_⟩;rw [Zbo];have v1:=elem hs S 1 _ rfl;refine rI v1 (ZlO T.total (by omega) ?_);refine hs.setTot S (ZsO T.total (by omega)) U rfl fun h2 V u2 z2=>?_;dsimp only at V;have av:=YZ cb u2 fun e=>by rw [U] at e;cases e;exact aK tb rfl
  have aR:=hg.put u2 fun k B=>hs.ts k B;refine rP (Zb av rfl) (Zg (rI (Zb V.cells rfl) ?_))
  refine Zbd (fun st w=>∃ i:Nat,st=((i:Int),())/\i<=4/\SkR w O wb sl (lb.set m (ZqS y1 s.seed x key i,mb)) ⟨s.d,s.seed,s.last,s.bs.set m (ZqS y1 s.seed x key i)⟩/\GrO O0 O h0 w/\obj w b=some (.cells [.pointer (some ⟨wb,0,none⟩)].toArray T1 (0,0))) (fun st _=>(4 - st.1).toNat)
    ⟨0,rfl,by omega,V,aR,av⟩ ?_
  rintro _ bo ⟨i,rfl,hi,W,aw,ax⟩ Q2 aS;dsimp only;refine Zn (fun q=>?_) fun q=>?_
  ·rw [Zbo]
   have cw:=W.cells;refine rP (Zb ax rfl) (Zg (rI (Zb cw rfl) (rI (Zb cw rfl) (rI (Zb cw rfl) (rI (Zb cw rfl) (rI (Zb cw rfl) ?_))))));refine Zob Y fun h3 e3 z3=>?_;have aU:=W.ext e3;rw [Ziv,ZoW (by simp (maxDischargeDepth:=60) only [ZO,ZN,evC,Nqa,Nqb,Nqc,Nqd,Nqe,reduceCtorEq]) (by simp (maxDischargeDepth:=60) only [ZO,ZN,evC,Nqa,Nqb,Nqc,Nqd,Nqe,reduceCtorEq])];have e4:Ext h3 (Zf.puts (h3.push (.cells [iv 0,iv 0].toArray 332 (0,0))) (sz h3) 0 [iv i,iv (Zsm s.seed i key)]):=ZbU (X4 (Ext.refl _)) (Aqo _);have a4:obj (Zf.puts (h3.push (.cells [iv 0,iv 0].toArray 332 (0,0))) (sz h3) 0 [iv i,iv (Zsm s.seed i key)]) (sz h3)=some (.cells [iv i,iv (Zsm s.seed i key)].toArray 332 (0,0)):=by simp (maxDischargeDepth:=60) only [ZO,ZN,evC,Nqa,Nqb,Nqc,Nqd,Nqe,reduceCtorEq]
   dsimp only;generalize Zf.puts (h3.push (.cells [iv 0,iv 0].toArray 332 (0,0))) (sz h3) 0 [iv i,iv (Zsm s.seed i key)]=h4 at e4 a4 ⊢;have N:=aU.ext e4;have w2:=elem N (p _) 2 _ rfl;refine rM w2 (rI (Zb a4 rfl) (rI (Zb a4 rfl) (rM w2 (rI (Zb a4 rfl) (rI (Zb a4 rfl) ?_)))));obtain ⟨m1,m2⟩:=N.maps _ (Axo (p _));have R:=(N.ok.bs (ZqS y1 s.seed x key i) (Axo (i:=m) (Ayu (by omega)))).1
   have ZZ:∀ {w:Zf},obj w (sz h3)=some (.cells [iv i,iv (Zsm s.seed i key)].toArray 332 (0,0))->Zo w [(sz h3,0,iv i),(sz h3,0+1,iv (Zsm s.seed i key))]:=fun hc=>by
     rw [ZaX,ZaX,Zg9];exact ⟨Zb hc rfl,Zb hc rfl,trivial⟩
   have J:Zo h4 [(bb,m*3+2,Value.map (some mb))]:=by rw [ZaX,Zg9];exact ⟨w2,trivial⟩
   refine m1.get i (Zsm s.seed i key) ⟨ZZ a4,J,ZlO (R.n _ _) (by omega) ⟨ZZ a4,J,?_⟩⟩;refine N.setMap (p _) (ZsO (R.n _ _) (by omega)) fun h5 X u5 z5=>?_;have aW:IntKind.wrap .i64 ((i:Int)+1)=((i+1:Nat):Int):=by rw [Yr (by omega) (by omega)];rfl
   dsimp only at X;rw [M,I] at X;have aX:=YZ (Zj (Zj ax e3) e4) u5 (aL tb);rw [aW];exact aS _ _ ⟨i+1,rfl,by omega,X,((aw.ext e3).ext e4).put u5 fun k B=>by rw [B];exact m2,aX⟩ (by dsimp only;omega)
  ·have:i=4:=by omega
   subst this;exact hQ _ _ (.inr ⟨rfl,W,aw⟩) (by decide)
theorem Zxa {h:Zf} {O:Nat->Prop} {wb z:Nat} {sl:Sl} {lb:List B3} {s:Sk} (hs:SkR h O wb sl lb s) {at_ x:Int} (hx:0<=x/\x<=1099511627776) {key:ByteArray} (B:key.size<9223372036854775808) {T2:TypeId}
    (cn:obj h z=some (.cells [iv x].toArray T2 (0,0))) (tn:¬ O z) {K:Int->Zf->Prop} (a:∀ h' O' g c,SkR h' O' wb g c (s.took at_ x key)->GrO O O' h h'->K (ZW s.last at_) h') :
    ZbM (some ⟨wb,0,none⟩) at_ key ⟨some ⟨z,0,none⟩,1,1⟩ K h:=by
  unfold ZbM Zej;rw [Ziv,Zbo];have C:Ext h (h.push (.cells [Value.pointer (some ⟨wb,0,none⟩)].toArray 216 (0,0))):=Ext.push _ _;have cb:obj (h.push (.cells [Value.pointer (some ⟨wb,0,none⟩)].toArray 216 (0,0))) (sz h)=some (.cells [Value.pointer (some ⟨wb,0,none⟩)].toArray 216 (0,0)):=by simp (maxDischargeDepth:=60) only [ZO,ZN,evC,Nqa,Nqb,Nqc,Nqd,Nqe,reduceCtorEq]
  have z1:sz (h.push (.cells [Value.pointer (some ⟨wb,0,none⟩)].toArray 216 (0,0)))=sz h+1:=ZbE;generalize h.push (.cells [Value.pointer (some ⟨wb,0,none⟩)].toArray 216 (0,0))=h1 at C cb z1 ⊢;have i:=hs.ext C;have V:=Zj cn C;have D:GrO O O h h1:=GrO.refl.ext C;refine rP (Zb cb rfl) (ZtS i.cells ?_);unfold Sk.took at a;rw [Zbo]
  have j:(ZW s.last at_ ==1)=false:=by rcases Zrc s.last at_ with e | e | e<;>rw [e]<;>decide
  refine Zi j ?_;refine ⟨fun q=>?_,fun q=>?_⟩
  ·have q2:ZW s.last at_=2:=by simpa using q
   rw [if_neg (by omega)] at a;exact a h1 O sl lb i D
  have q2:ZW s.last at_≠2:=by simpa using q
  refine Zbd (fun st l=>(st=(0,())\/st=(1,()))/\l=h1) (fun st _=>(1 - st.1).toNat) ⟨.inl rfl,rfl⟩ ?_;rintro _ l ⟨rfl | rfl,rfl⟩ Q P
  ·dsimp only
   refine Zl (by simp) ⟨z,0,rfl,by decide,by decide,rI (Zb V rfl) ?_⟩;rw [Zbo];exact Zi (decide_eq_false (by omega)) (Zi (decide_eq_false (by omega)) (P _ _ ⟨.inr rfl,rfl⟩ (by decide)))
  dsimp only;refine Zi (by simp) ?_;refine ⟨fun R=>?_,fun R=>?_⟩
  ·have q4:ZW s.last at_≠0:=by simpa using R
   rw [if_neg q4] at a;exact a l O sl lb i D
  have hw:ZW s.last at_=0:=by simpa using R
  clear q q2 R j P Q;rw [if_pos hw,hw] at a;obtain ⟨a0,W,a2⟩:=Zew hw;have lw:=Zp i.cells;have aK:=Zp cb;have m:∀ k,sl.blk=some k->k<sz h:=fun k a=>hs.lt k (hs.ts k a);have aL:wb<sz h:=hs.lt wb hs.tw;have n:sl.blk≠some wb:=hs.ne;refine rP (Zb cb rfl) (Zg (Zbf i.cells (by simp) Zd4 fun h2 E u2 z2=>?_));have F:=YZ cb u2 (by omega);have f:obj h2 wb=some (.cells [iv (s.d*10),iv 10,iv 4,iv 256,.int .u64 s.seed,slV sl,iv at_].toArray 293 (0,0)):=E;clear E;refine rP (Zb F rfl) (Zg (rI (Zb f rfl) (rI (Zb f rfl) (rI (Zb f rfl) (rI (Zb f rfl) (rI (Zb f rfl) ?_))))));refine ZpI hs.ok.d a0 W fun h3 X z3=>?_;have Y:=Zj F X;have Z:=Zj f X;rw [Ziv];have S:Ext h3 (h3.push (.cells [iv 0].toArray 3 (0,0))):=Ext.push _ _;have c4:obj (h3.push (.cells [iv 0].toArray 3 (0,0))) (sz h3)=some (.cells [iv 0].toArray 3 (0,0)):=by simp (maxDischargeDepth:=60) only [ZO,ZN,evC,Nqa,Nqb,Nqc,Nqd,Nqe,reduceCtorEq]
  have z4:sz (h3.push (.cells [iv 0].toArray 3 (0,0)))=sz h3+1:=ZbE;generalize h3.push (.cells [iv 0].toArray 3 (0,0))=h4 at S c4 z4 ⊢;refine Zbf c4 (by decide) Zd4 fun T c5 u5 z5=>?_;have G:obj T (sz h3)=some (.cells [iv (bgn s.d at_)].toArray 3 (0,0)):=c5;clear c5;have p:=YZ (Zj Y S) u5 (by omega);have r:=YZ (Zj Z S) u5 (by omega);have ae:=Zp r;have af:0<=bgn s.d at_/\bgn s.d at_<=at_:=by have:=ZqV hs.ok.d.1 a0;omega
  have H:Upd (fun k=>k=wb) l T:=by
    refine ⟨by rw [YO,YO];omega,fun k a hn=>?_⟩;have aO:k<sz l:=a;rw [u5.old k (by rw [YO];omega) (by omega),S.old k (by rw [YO];omega),X.old k (by rw [YO];omega),u2.old k a hn]
  have ag:Own T 0 sl 3 (lb.flatMap b3L):=i.own.congr fun k a hl _=>H.old k hl fun e=>n (e▸a);refine rP (Zb p rfl) (rP (Zb p rfl) (Zg (rL (Zb r rfl) ?_)));refine Zw9 hs.ok.d ⟨af.1,by omega⟩ G p (Zb r rfl) ae ag (fun e=>by have:=m _ e;omega) (fun e=>by have:=m _ e;omega) n fun t h6 ah I J=>?_;have w:=YZ p J (fun e=>by have:=m _ e;omega);have ai:=YZ G J (fun e=>by have:=m _ e;omega);have aj:=YZ r J n;have held:∀ {l:Zf} {b o:Nat} {v:Value},ZA o (obj l b)=some v->Zo l [(b,o,v)]:=fun hc=>by rw [ZaX,Zg9];exact ⟨hc,trivial⟩
  refine ⟨held (Zb w rfl),held (Zb w rfl),Zg (Zbf aj (by simp) Zbp fun h7 L U z7=>?_)⟩;have M:obj h7 wb=some (.cells [iv (s.d*10),iv 10,iv 4,iv 256,.int .u64 s.seed,slV t,iv at_].toArray 293 (0,0)):=L;clear L;have z6:sz T<=sz h6:=J.size;have an:=YZ w U (by omega);have c7:=YZ ai U (by omega)
  have ao:t.blk≠some wb:=fun e=>by
    rcases I with u | u
    ·exact n (u▸e)
    ·rw [u] at e;cases e
  have aq:=ah.congr (h':=h7) fun k a hl _=>U.old k hl fun e=>ao (e▸a);have ar:Upd (fun k=>k=wb\/sl.blk=some k) l h7:=(((H.mono fun k _ a=> .inl a).trans (J.mono fun k _ a=> .inr a))).trans (U.mono fun k _ a=> .inl a);refine Zls (fun _ A=>∃ O' g c,SkR A O' wb g c (s.opened at_)/\GrO O O' h A/\¬ O' (sz h)/\obj A (sz h)=some (.cells [.pointer (some ⟨wb,0,none⟩)].toArray 216 (0,0))) ?_ ?_
  ·rintro _ A ⟨O',g,c,au,y,av,aw⟩
   obtain ⟨bk,N,_⟩:=Zvp s.d at_ s.bs
   have ax:¬ O' z:=fun A=>by
     rcases y.new z A with u | u
     ·exact tn u
     ·have:=Zp cn;omega
   have ay:=YZ cn y.upd tn;refine Zvf au y (bk:=bk) N hx B aw ay av ax fun u az aA=>a u O' g (c.set (c.length - 1) (ZqS bk s.seed x key 4,(c[c.length - 1]?.map (·.2)).getD 0)) ?_ aA;unfold Sk.add;rw [Zvx N];exact az
  ·intro Q P
   exact Zve hs hw an c7 M (by omega) aq I ((C.upd _).trans ar) fun h' O' g c W a2 a3 a4=>P _ _ ⟨O',g,c,W,a2,a3,a4⟩
def Sk.new (d seed:Int):Sk:=⟨d,seed,0,[]⟩
theorem Zvs {h:Zf} {d seed:Int} (hd:1<=d/\d<=360000000) {K:Option Addr->Int->Zf->Prop} (a:∀ h',SkR h' (· = sz h) (sz h) ⟨none,0,0⟩ [] (Sk.new d seed)->Ext h h'->sz h'=sz h+1->K (some ⟨sz h,0,none⟩) 0 h') :
    Zhx (d*10) 10 4 256 seed K h:=by
  unfold Zhx ZjH
  have c:∀ {n most:Int} {K:Bool->Zf->Prop} {h:Zf},1<=n/\n<=most->K true h->ZfL n most K h:=fun {n most K h} i a=>by
    unfold ZfL ZhN;refine Zl (decide_eq_true (by omega)) ?_;rw [Zlx,decide_eq_true i.2];exact a
  refine Za (c (by omega) (Zt (c (by decide) (Zt (c (by decide) (Zt (c (by decide) ?_)))))));rw [Zlx];refine Zt ⟨by decide,?_⟩;rw [Zlx];refine Zi (by rw [Int.mul_tmod_left];decide) (ZJ fun h1 c1 j g=>Za (a h1 ⟨⟨hd,Int.le_refl _,(by decide:(0:Int)<=1152921504606846976),(fun b l=>by cases l),List.Pairwise.nil,Ayg _⟩,c1,Own.nil _ _ _,rfl,List.nodup_nil,(fun x f=>by cases f),rfl,(fun k a=>by cases a),(fun e=>by cases e),(fun x f=>by cases f),fun k a=>?_⟩ j g));have:sz h1=sz h+1:=g;omega
theorem Zq4 {h:Zf} {O:Nat->Prop} {wb:Nat} {sl:Sl} {lb:List B3} {s:Sk} (hs:SkR h O wb sl lb s) {at_:Int} {key:ByteArray} (a:key.size<9223372036854775808) {K:Int->Int->Zf->Prop} (b:∀ h' e,Ext h h'->K (s.used at_ key) e h'):X2 (some ⟨wb,0,none⟩) at_ key K h:=by
  unfold X2 Zby;refine Za (Za (ZtS hs.cells (Za ?_)));unfold Sk.used at b
  rcases Decidable.em (ZW s.last at_=0) with q | q
  ·rw [q]
   rw [if_pos q] at b;obtain ⟨a0,c,f⟩:=Zew q;exact Zi (by decide) (Zw3 hs a0 c a fun h' d=>Za (Za (b h' _ d)))
  ·rw [if_neg q] at b
   exact Zl (by simpa using q) (Za (Za (b _ _ (Ext.refl _))))
def Zrg {α:Type} (f:ByteArray->Option α) (k:ByteArray) (v:Option α):ByteArray->Option α:=fun j=>if j=k then v else f j
theorem Zjm {α:Type} (f:ByteArray->Option α) (k:ByteArray) (v:Option α):Zrg f k v k=v:=if_pos rfl
theorem ZhJ {α:Type} (f:ByteArray->Option α) {k j:ByteArray} (v:Option α) (h:j≠k):Zrg f k v j=f j:=if_neg h
structure Zv7 (es:Array MapEntry) (f:ByteArray->Option Value):Prop where
  to_:∀ e,e∈es.toList->∃ k,e.key = .string k/\f k=some e.val
  of:∀ k v,f k=some v->∃ e,e∈es.toList/\e.key = .string k
def ZmW (h:Zf) (mb:Nat) (f:ByteArray->Option Value) (n:Nat):Prop :=
  ∃ es c,h[mb]?=some (.map es c)/\MapKept.Stamped es c/\es.size=n/\Zv7 es f
theorem ZwV {a b:ByteArray} (h:(Value.string a) = .string b):a=b:=by injection h
theorem Zv7.key {es:Array MapEntry} {f:ByteArray->Option Value} (he:Zv7 es f):∀ x,x∈es.toList->MapKept.IsKey .string x.key:=fun x a=>by
  obtain ⟨k,b,_⟩:=he.to_ x a;rw [b];trivial
theorem Zv7.val {es:Array MapEntry} {f:ByteArray->Option Value} (he:Zv7 es f) {e:MapEntry} (hm:e∈es.toList) {k:ByteArray} (b:e.key = .string k):f k=some e.val:=by
  obtain ⟨j,a,hv⟩:=he.to_ e hm;rw [b] at a;rw [ZwV a];exact hv
theorem Zv7.find {es:Array MapEntry} {f:ByteArray->Option Value} (he:Zv7 es f) (k:ByteArray) :
    (Instr.findNow .string (.string k) es.toList 0=some none/\f k=none)\/∃ j e,Instr.findNow .string (.string k) es.toList 0=some (some (j,e.val))/\es.toList[j]?=some e/\e.key = .string k/\f k=some e.val:=by
  rcases MapKept.findNow_spec (d:= .string) (k:= .string k) trivial es.toList 0 he.key with ⟨h1,a⟩ | ⟨j,e,h1,a,h3⟩
  ·refine .inl ⟨h1,?_⟩
   cases b:f k with
   | none=>rfl
   | some v =>
     obtain ⟨e,hm,c⟩:=he.of k v b;exact absurd c (a e hm)
  ·rw [Awb] at h1
   exact .inr ⟨j,e,h1,a,h3,he.val (Axo a) h3⟩
theorem ZmW.congr {h h':Zf} {mb:Nat} {f:ByteArray->Option Value} {n:Nat} (hm:ZmW h mb f n) (he:h'[mb]?=h[mb]?):ZmW h' mb f n:=by
  obtain ⟨es,c,a,r⟩:=hm;exact ⟨es,c,he.trans a,r⟩
theorem ZmW.lt {h:Zf} {mb:Nat} {f:ByteArray->Option Value} {n:Nat} (hm:ZmW h mb f n):mb<h.size:=by
  obtain ⟨es,c,a,r⟩:=hm;exact Zr7 a
theorem ZmW.new {h:Zf} {K:Nat->Zf->Prop} (a:∀ h1,ZmW h1 h.size (fun _=>none) 0->Ext h h1->h1.size=h.size+1->K h.size h1):Zfk h K :=
  a _ ⟨#[],0,Zc6,MapKept.stamped_empty 0,rfl,⟨fun e he=>by simp at he,fun k v hv=>by cases hv⟩⟩ (Ext.push _ _) (by simp)
theorem ZmW.get {h:Zf} {mb:Nat} {f:ByteArray->Option Value} {n:Nat} (hm:ZmW h mb f n) (k:ByteArray) {K:Option Value->Prop} (a:K (f k)):Zg5 .string h (some mb) (.string k) K:=by
  obtain ⟨es,c,d,hs,l,he⟩:=hm;refine ⟨(fun e=>by cases e),fun b e=>?_⟩;cases e
  rcases he.find k with ⟨h1,g⟩ | ⟨j,e,h1,g,h3,i⟩
  ·exact ⟨es,c,none,d,h1,by rw [g] at a;exact a⟩
  ·exact ⟨es,c,_,d,h1,by rw [i] at a;exact a⟩
theorem ZmW.len {h:Zf} {mb:Nat} {f:ByteArray->Option Value} {n:Nat} (hm:ZmW h mb f n) {K:Int->Prop} (a:K (n:Int)):ZGT h (some mb) K:=by
  obtain ⟨es,c,d,hs,g,he⟩:=hm;refine ⟨(fun e=>by cases e),fun b e=>?_⟩;cases e;exact ⟨es,c,d,by rw [g];exact a⟩
theorem Zv7.modify {es:Array MapEntry} {f:ByteArray->Option Value} (he:Zv7 es f) {c:Nat} (hs:MapKept.Stamped es c) {j:Nat} {e:MapEntry} {k:ByteArray} (n:es.toList[j]?=some e) (o:e.key = .string k) (v:Value) :
    Zv7 (es.modify j fun x=>{ x with key:= .string k,val:=v }) (Zrg f k (some v))/\MapKept.Stamped (es.modify j fun x=>{ x with key:= .string k,val:=v }) c:=by
  have b:es[j]?=some e:=by simpa using n
  have uniq:∀ i x,es.toList[i]?=some x->x.key = .string k->i=j:=by
    intro i x hi a;have p:=hs.2.2;have h1:(es.toList.map (·.key))[i]?=some (.string k):=by rw [Awy,hi];simp [a]
    have q:(es.toList.map (·.key))[j]?=some (.string k):=by rw [Awy,n];simp [o]
    obtain ⟨t,h1⟩:=Ayh.1 h1;obtain ⟨w,q⟩:=Ayh.1 q;exact (List.getElem_inj p).1 (h1.trans q.symm)
  refine ⟨⟨fun x a=>?_,fun i u hu=>?_⟩,?_⟩
  ·obtain ⟨i,hi⟩:=Ayi a
   rw [Axp,Aqi] at hi
   by_cases d:j=i
   ·subst d
    rw [if_pos rfl,b] at hi;simp only [Aqx,Awh] at hi;subst hi;exact ⟨k,rfl,Zjm _ _ _⟩
   ·rw [if_neg d] at hi
    have h:es.toList[i]?=some x:=by simpa using hi
    obtain ⟨m,hm,hv⟩:=he.to_ x (Axo h);refine ⟨m,hm,?_⟩;rw [ZhJ]
    ·exact hv
    ·intro r
     subst r;exact d (uniq i x h hm).symm
  ·by_cases g:i=k
   ·subst g
    refine ⟨{ e with key:= .string i,val:=v },?_,rfl⟩;refine Axo (i:=j) ?_;rw [Axp,Aqi,if_pos rfl,b];rfl
   ·rw [ZhJ f _ g] at hu
    obtain ⟨x,a,l⟩:=he.of i u hu;obtain ⟨m,hm⟩:=Ayi a;refine ⟨x,Axo (i:=m) ?_,l⟩;rw [Axp,Aqi,if_neg]
    ·simpa using hm
    ·intro s
     subst s;rw [n] at hm;cases hm;exact g (ZwV (l.symm.trans o))
  ·refine MapKept.stamped_modify hs j _ (fun x _=>rfl) fun x _ a=>?_
   rw [b] at a;cases a;exact o.symm
theorem ZmW.put {h:Zf} {mb:Nat} {f:ByteArray->Option Value} {n:Nat} (hm:ZmW h mb f n) (k:ByteArray) (v:Value) {K:Zf->Prop}
    (p:∀ h',ZmW h' mb (Zrg f k (some v)) (if (f k).isSome then n else n+1)->Upd (· = mb) h h'->h'.size=h.size->K h'):Zjz .string h (some mb) (.string k) v K:=by
  have d:=hm.lt;obtain ⟨es,c,q,hs,r,he⟩:=hm
  rcases he.find k with ⟨h1,g⟩ | ⟨j,e,h1,g,h3,s⟩
  ·refine ⟨mb,es,c,none,rfl,q,he.key,h1,p _ ⟨es.push { key:= .string k,val:=v,born:=c },c+1,Zjo d,MapKept.stamped_push hs fun x a b=>?_,by simp [g,r],⟨fun x a=>?_,fun i u hu=>?_⟩⟩ Zg0 (by simp)⟩
   ·have:=he.val a b
    rw [g] at this;cases this
   ·simp only [Array.toList_push,Axx,Axs] at a
    rcases a with a | rfl
    ·obtain ⟨m,hm,hv⟩:=he.to_ x a
     refine ⟨m,hm,?_⟩;rw [ZhJ]
     ·exact hv
     ·intro o
      subst o;rw [g] at hv;cases hv
    ·exact ⟨k,rfl,Zjm _ _ _⟩
   ·simp only [Array.toList_push,Axx,Axs]
    by_cases l:i=k
    ·subst l
     exact ⟨_,.inr rfl,rfl⟩
    ·rw [ZhJ f _ l] at hu
     obtain ⟨x,a,b⟩:=he.of i u hu;exact ⟨x,.inl a,b⟩
  ·obtain ⟨t,w⟩:=he.modify hs g h3 v
   exact ⟨mb,es,c,_,rfl,q,he.key,h1,p _ ⟨_,c,Zjo d,w,by simp [s,r],t⟩ Zg0 (by simp)⟩
theorem Zv7.erase {es:Array MapEntry} {f:ByteArray->Option Value} (he:Zv7 es f) {c:Nat} (hs:MapKept.Stamped es c) {j:Nat} {e:MapEntry} {k:ByteArray} (n:es.toList[j]?=some e) (t:e.key = .string k) :
    Zv7 (es.eraseIdxIfInBounds j) (Zrg f k none)/\MapKept.Stamped (es.eraseIdxIfInBounds j) c/\(es.eraseIdxIfInBounds j).toList=es.toList.eraseIdx j/\(es.eraseIdxIfInBounds j).size=es.size - 1:=by
  obtain ⟨g,v⟩:=Ayh.1 n;have l:j<es.size:=by simpa using g
  have hl:(es.eraseIdxIfInBounds j).toList=es.toList.eraseIdx j:=by
    unfold Array.eraseIdxIfInBounds;rw [dif_pos l,Array.toList_eraseIdx]
  have o:=hs.2.2
  have mem:∀ x,x∈es.toList.eraseIdx j↔x∈es.toList/\x.key≠ .string k:=fun x=>by
    constructor
    ·intro b
     obtain ⟨i,p,hi⟩:=List.mem_eraseIdx_iff_getElem?.1 b;refine ⟨Axo hi,fun a=>p ?_⟩;have h1:(es.toList.map (·.key))[i]?=some (.string k):=by rw [Awy,hi];simp [a]
     have q:(es.toList.map (·.key))[j]?=some (.string k):=by rw [Awy,n];simp [t]
     obtain ⟨w,h1⟩:=Ayh.1 h1;obtain ⟨g,q⟩:=Ayh.1 q;exact (List.getElem_inj o).1 (h1.trans q.symm)
    ·rintro ⟨b,a⟩
     obtain ⟨i,hi⟩:=Ayi b;refine List.mem_eraseIdx_iff_getElem?.2 ⟨i,fun r=>?_,hi⟩;subst r;rw [n] at hi;cases hi;exact a t
  refine ⟨⟨fun x b=>?_,fun i u hu=>?_⟩,MapKept.stamped_erase hs j,hl,?_⟩
  ·rw [hl] at b
   obtain ⟨b,a⟩:=(mem x).1 b;obtain ⟨m,hm,hv⟩:=he.to_ x b;refine ⟨m,hm,?_⟩;rw [ZhJ]
   ·exact hv
   ·intro s
    subst s;exact a hm
  ·by_cases d:i=k
   ·subst d
    rw [Zjm] at hu;cases hu
   ·rw [ZhJ f _ d] at hu
    obtain ⟨x,b,a⟩:=he.of i u hu;exact ⟨x,by rw [hl];exact (mem x).2 ⟨b,fun h=>d (ZwV (a.symm.trans h))⟩,a⟩
  ·unfold Array.eraseIdxIfInBounds
   rw [dif_pos l];simp
theorem ZmW.del {h:Zf} {mb:Nat} {f:ByteArray->Option Value} {n:Nat} (hm:ZmW h mb f n) (k:ByteArray) {K:Zf->Prop}
    (g:∀ h',ZmW h' mb (Zrg f k none) (if (f k).isSome then n - 1 else n)->Upd (· = mb) h h'->h'.size=h.size->K h'):ZnC .string h (some mb) (.string k) K:=by
  have a:=hm.lt;obtain ⟨es,c,i,hs,l,he⟩:=hm;refine ⟨(fun e=>by cases e),fun b e=>?_⟩;cases e
  rcases he.find k with ⟨h1,d⟩ | ⟨j,e,h1,d,h3,m⟩
  ·have hu:Zrg f k none=f:=by
     funext j
     unfold Zrg;split
     ·rename_i o;rw [o,d]
     ·rfl
   refine ⟨es,c,none,i,h1,g _ ⟨es,c,Zjo a,hs,by simp [d,l],by rw [hu];exact he⟩ Zg0 (by simp)⟩
  ·obtain ⟨p,q,s,r⟩:=he.erase hs d h3
   exact ⟨es,c,_,i,h1,g _ ⟨_,c,Zjo a,q,by simp [m,r,l],p⟩ Zg0 (by simp)⟩
def Ch (pv nx:Nat->Nat):Nat->List Nat->Nat->Prop
  | x,[],z=>nx x=z/\pv z=x
  | x,y::l,z=>nx x=y/\pv y=x/\Ch pv nx y l z
def ZmD (f:Nat->Nat) (k v:Nat):Nat->Nat:=fun j=>if j=k then v else f j
theorem X8 {f:Nat->Nat} {k v:Nat}:ZmD f k v k=v:=if_pos rfl
theorem Zce {f:Nat->Nat} {k v j:Nat} (h:j≠k):ZmD f k v j=f j:=if_neg h
theorem Ch.congr {pv nx b c:Nat->Nat}:∀ {l:List Nat} {x z:Nat},Ch pv nx x l z->(∀ a,a∈x::l->c a=nx a)->(∀ a,a∈l++[z]->b a=pv a)->Ch b c x l z
  | [],x,z,h,h1,d=>⟨(h1 x (by simp)).trans h.1,(d z (by simp)).trans h.2⟩
  | y::l,x,z,h,h1,d=>⟨(h1 x (by simp)).trans h.1,(d y (by simp)).trans h.2.1,h.2.2.congr (fun a e=>h1 a (Aws _ e)) fun a e=>d a (Aws _ e)⟩
theorem Ch.split {pv nx:Nat->Nat} {y:Nat} {B:List Nat}:∀ {A:List Nat} {x z:Nat},Ch pv nx x (A++y::B) z↔Ch pv nx x A y/\Ch pv nx y B z
  | [],x,z=>⟨fun h=>⟨⟨h.1,h.2.1⟩,h.2.2⟩,fun h=>⟨h.1.1,h.1.2,h.2⟩⟩
  | a::A,x,z=>⟨fun h=>⟨⟨h.1,h.2.1,(Ch.split.1 h.2.2).1⟩,(Ch.split.1 h.2.2).2⟩,fun h=>⟨h.1.1,h.1.2.1,Ch.split.2 ⟨h.1.2.2,h.2⟩⟩⟩
theorem Ch.pvIn {pv nx:Nat->Nat}:∀ {l:List Nat} {x z:Nat},Ch pv nx x l z->pv z∈x::l
  | [],x,z,h=>by rw [h.2];simp
  | y::l,x,z,h=>Aws _ h.2.2.pvIn
theorem Ch.nxIn {pv nx:Nat->Nat}:∀ {l:List Nat} {x z:Nat},Ch pv nx x l z->nx x∈l++[z]
  | [],x,z,h=>by rw [h.1];simp
  | y::l,x,z,h=>by rw [h.1];simp
theorem Ch.out {pv nx:Nat->Nat} {b:Nat} {B:List Nat} {z:Nat}:∀ {A:List Nat} {x:Nat},Ch pv nx x (A++b::B) z->(x::(A++b::B)).Nodup->z∉A++b::B->Ch (ZmD pv (nx b) (pv b)) (ZmD nx (pv b) (nx b)) x (A++B) z
  | [],x,h,d,hz=>by
    obtain ⟨h1,j,h3⟩:=h;rw [j]
    cases B with
    | nil =>
      obtain ⟨k,l⟩:=h3;rw [k];exact ⟨X8,X8⟩
    | cons y B =>
      obtain ⟨k,l,m⟩:=h3;rw [k];simp only [Ayj,Ayp,Awr,not_or] at d hz;refine ⟨X8,X8,m.congr (fun a c=>Zce ?_) fun a c=>Zce ?_⟩
      ·rintro rfl
       rcases Awr.1 c with rfl | c
       ·exact d.1.2.1 rfl
       ·exact d.1.2.2 c
      ·rintro rfl
       rcases Axx.1 c with c | c
       ·exact d.2.2.1 c
       ·simp at c
        exact hz.2.1 c.symm
  | y::A,x,h,d,hz=>by
    obtain ⟨h1,j,h3⟩:=h;have g:=(Ch.split.1 h3).1.pvIn;have f:=(Ch.split.1 h3).2.nxIn;have i:=(Ayp.1 d).2;refine ⟨(Zce ?_).trans h1,(Zce ?_).trans j,h3.out i fun n=>hz (Aws _ n)⟩
    ·intro e
     refine (Ayp.1 d).1 ?_;rw [<- e] at g
     rcases Awr.1 g with g | g
     ·rw [g];simp
     ·simp [g]
    ·intro e
     rw [<- e] at f
     rcases Axx.1 f with f | f
     ·exact (Ayp.1 i).1 (by simp [f])
     ·simp at f
      exact hz (by simp [f])
theorem Ch.touch {pv nx:Nat->Nat} {b z:Nat} (a:b≠z):∀ {L:List Nat} {x:Nat},Ch pv nx x L z->(x::L).Nodup->z∉L->b∉x::L->Ch (ZmD (ZmD pv b (pv z)) z b) (ZmD (ZmD nx b z) (pv z) b) x L b
  | [],x,h,d,hz,c=>by
    obtain ⟨h1,f⟩:=h;rw [f];exact ⟨X8,(Zce a).trans X8⟩
  | y::L,x,h,d,hz,c=>by
    obtain ⟨h1,f,h3⟩:=h;have g:=h3.pvIn;simp only [Awr,not_or] at hz c;refine ⟨(Zce fun e=>?_).trans ((Zce fun e=>c.1 e.symm).trans h1),(Zce fun e=>hz.1 e.symm).trans ((Zce fun e=>c.2.1 e.symm).trans f),h3.touch a (Ayp.1 d).2 (fun i=>hz.2 i) (by simp only [Awr,not_or];exact c.2)⟩;exact (Ayp.1 d).1 (e▸g)
theorem Ch.touched {pv nx:Nat->Nat} {b z:Nat} {L:List Nat} (h:Ch pv nx z L z) (d:(z::L).Nodup) (a:b∉z::L):Ch (ZmD (ZmD pv b (pv z)) z b) (ZmD (ZmD nx b z) (pv z) b) z (L++[b]) z:=by
  have c:b≠z:=fun e=>a (by simp [e]);refine Ch.split.2 ⟨h.touch c d (Ayp.1 d).1 a,(Zce fun e=>a ?_).trans X8,X8⟩;rw [e];exact h.pvIn
def off (S b:Nat):Nat:=if b=S then 2 else 0
theorem ZsY {S:Nat}:off S S=2:=if_pos rfl
theorem ZsZ {S b:Nat} (h:b≠S):off S b=0:=if_neg h
abbrev ad (S b:Nat):Addr:=⟨b,off S b,none⟩
abbrev ZOF (most:Int) (mb:Nat) (a c:Addr):Obj:= .cells [iv most,.map (some mb),.string (ByteArray.mk #[]),iv 0,.pointer (some a),.pointer (some c)].toArray 287 (0,0)
abbrev lkO (k:ByteArray) (a c:Addr):Obj:= .cells [.string k,iv 0,.pointer (some a),.pointer (some c)].toArray 285 (0,0)
abbrev KB:=ByteArray × Nat
structure Zop (h:Zf) (S mb:Nat) (most:Int) (nd:List KB) (pv nx:Nat->Nat):Prop where
  s:obj h S=some (ZOF most mb (ad S (pv S)) (ad S (nx S)))
  l:∀ x,x∈nd->obj h x.2=some (lkO x.1 (ad S (pv x.2)) (ad S (nx x.2)))
  nd:(S::nd.map (·.2)).Nodup
theorem Zop.ne {h:Zf} {S mb:Nat} {most:Int} {nd:List KB} {pv nx:Nat->Nat} (ho:Zop h S mb most nd pv nx) {x:KB} (a:x∈nd):x.2≠S:=fun e=>(Ayp.1 ho.nd).1 (e▸List.mem_map_of_mem a)
theorem ZBD {nd:List KB} (b:(nd.map (·.2)).Nodup) {x y:KB} (c:x∈nd) (d:y∈nd) (e:x.2=y.2):x=y:=by
  obtain ⟨i,hi⟩:=Ayi c;obtain ⟨j,a⟩:=Ayi d;have h1:(nd.map (·.2))[i]?=some x.2:=by rw [Awy,hi];rfl
  have f:(nd.map (·.2))[j]?=some x.2:=by rw [Awy,a,e];rfl
  obtain ⟨k,g⟩:=Ayh.1 h1;obtain ⟨l,h⟩:=Ayh.1 f;have:=(List.getElem_inj b).1 (g.trans h.symm);subst this;rw [hi] at a;exact Option.some.inj a
theorem Zop.upd {h h':Zf} {S mb:Nat} {most:Int} {nd:List KB} {pv nx a c:Nat->Nat} (ho:Zop h S mb most nd pv nx) {b:Nat} (u:Upd (· = b) h h') (h1:b=S->obj h' S=some (ZOF most mb (ad S (a S)) (ad S (c S))))
    (k:∀ x,x∈nd->x.2=b->obj h' x.2=some (lkO x.1 (ad S (a x.2)) (ad S (c x.2)))) (f:∀ j,j≠b->a j=pv j) (g:∀ j,j≠b->c j=nx j):Zop h' S mb most nd a c:=by
  refine ⟨?_,fun x i=>?_,ho.nd⟩
  ·by_cases e:b=S
   ·exact h1 e
   ·rw [f S fun d=>e d.symm,g S fun d=>e d.symm]
    exact YZ ho.s u fun d=>e d.symm
  ·by_cases e:x.2=b
   ·exact k x i e
   ·rw [f _ e,g _ e]
    exact YZ (ho.l x i) u e
section
variable {h:Zf} {S mb:Nat} {most:Int} {nd:List KB} {pv nx:Nat->Nat}
theorem Zop.stN (ho:Zop h S mb most nd pv nx) {b c o:Nat} (f:b∈S::nd.map (·.2)) (a:o=off S b+3) {v:Value} (hv:v = .pointer (some (ad S c))) {K:Zf->Prop} (k:∀ h',Zop h' S mb most nd pv (ZmD nx b c)->Upd (· = b) h h'->sz h'=sz h->K h'):st h b o v K:=by
  subst hv
  rcases Awr.1 f with rfl | f
  ·rw [ZsY] at a
   subst a;refine Zbf ho.s (show 2+3<6 by decide) rfl fun h' g u z=>k h' (ho.upd u (fun _=>?_) (fun x d e=>(ho.ne d e).elim) (fun _ _=>rfl) fun j i=>Zce i) u z;rw [X8];exact g
  ·obtain ⟨x,d,rfl⟩:=Axz.1 f
   rw [ZsZ (ho.ne d)] at a;subst a;refine Zbf (ho.l x d) (show 0+3<4 by decide) rfl fun h' g u z=>k h' (ho.upd u (fun e=>(ho.ne d e).elim) (fun y m e=>?_) (fun _ _=>rfl) fun j i=>Zce i) u z;rw [ZBD (Ayp.1 ho.nd).2 m d e,X8];exact g
theorem Zop.stP (ho:Zop h S mb most nd pv nx) {b c o:Nat} (f:b∈S::nd.map (·.2)) (a:o=off S b+2) {v:Value} (hv:v = .pointer (some (ad S c))) {K:Zf->Prop} (k:∀ h',Zop h' S mb most nd (ZmD pv b c) nx->Upd (· = b) h h'->sz h'=sz h->K h'):st h b o v K:=by
  subst hv
  rcases Awr.1 f with rfl | f
  ·rw [ZsY] at a
   subst a;refine Zbf ho.s (show 2+2<6 by decide) rfl fun h' g u z=>k h' (ho.upd u (fun _=>?_) (fun x d e=>(ho.ne d e).elim) (fun j i=>Zce i) fun _ _=>rfl) u z;rw [X8];exact g
  ·obtain ⟨x,d,rfl⟩:=Axz.1 f
   rw [ZsZ (ho.ne d)] at a;subst a;refine Zbf (ho.l x d) (show 0+2<4 by decide) rfl fun h' g u z=>k h' (ho.upd u (fun e=>(ho.ne d e).elim) (fun y m e=>?_) (fun j i=>Zce i) fun _ _=>rfl) u z;rw [ZBD (Ayp.1 ho.nd).2 m d e,X8];exact g
abbrev inR (S:Nat) (nd:List KB) (k:Nat):Prop:=k∈S::nd.map (·.2)
theorem ZAC (ho:Zop h S mb most nd pv nx) {b:KB} (e:b∈nd) (h1:inR S nd (pv b.2)) (d:inR S nd (nx b.2)) {K:Zf->Prop}
    (a:∀ h',Zop h' S mb most nd (ZmD pv (nx b.2) (pv b.2)) (ZmD nx (pv b.2) (nx b.2))->Upd (inR S nd) h h'->sz h'=sz h->K h'):Zbb (some ⟨b.2,0,none⟩) K h:=by
  unfold Zbb ZhY;have c:=ho.l b e;refine Zg (Zg (Zg (Zg (rP (Zb c rfl) (rP (Zb c rfl) (rP (Zb c rfl) (rP (Zb c rfl) (Zg (ho.stN h1 rfl rfl fun h3 f g z3=>Zg (f.stP d rfl rfl fun i j m z4=>a i j ?_ (z4.trans z3)))))))))));exact (g.mono fun k _ a=>by rw [a];exact h1).trans (m.mono fun k _ a=>by rw [a];exact d)
theorem Zu5 (ho:Zop h S mb most nd pv nx) {b:KB} (f:b∈nd) (h1:inR S nd (pv S)) {K:Zf->Prop}
    (a:∀ h',Zop h' S mb most nd (ZmD (ZmD pv b.2 (pv S)) S b.2) (ZmD (ZmD nx b.2 S) (pv S) b.2)->Upd (inR S nd) h h'->sz h'=sz h->K h'):Zaz (some ⟨S,0,none⟩) (some ⟨b.2,0,none⟩) K h:=by
  unfold Zaz Zfe;have d:=ho.ne f;have c:inR S nd b.2:=Aws _ (List.mem_map_of_mem f);have e:inR S nd S:=List.mem_cons_self ..;have eb:(⟨b.2,0,none⟩:Addr)=ad S b.2:=by show _=(⟨_,_,_⟩:Addr);rw [ZsZ d]
  have es:(⟨S,0+2,none⟩:Addr)=ad S S:=by show _=(⟨_,_,_⟩:Addr);rw [ZsY]
  refine Zg (Zg (rP (Zb ho.s rfl) (Zg (ho.stP c (by rw [ZsZ d]) rfl fun h3 i j z3=>Zg (i.stN c (by rw [ZsZ d]) (by rw [es]) fun t g m z4=>Zg (rP (Zb (g.l b f) rfl) ?_))))));rw [X8];refine Zg (g.stN h1 rfl (by rw [eb]) fun u n o z5=>Zg (n.stP e (by rw [ZsY]) (by rw [eb]) fun p q r z6=>a p q ?_ (z6.trans (z5.trans (z4.trans z3)))));exact ((j.mono fun k _ a=>by rw [a];exact c).trans (m.mono fun k _ a=>by rw [a];exact c)).trans ((o.mono fun k _ a=>by rw [a];exact h1).trans (r.mono fun k _ a=>by rw [a];exact e))
end
abbrev pN (b:Nat):Value:= .pointer (some ⟨b,0,none⟩)
def Keys (f:ByteArray->Option Value) (nd:List KB):Prop:=∀ k v,f k=some v↔∃ b,(k,b)∈nd/\v=pN b
structure ZuE (h:Zf) (O:Nat->Prop) (S mb:Nat) (most:Int) (nd:List KB) (pv nx:Nat->Nat) (f:ByteArray->Option Value):Prop where
  ob:Zop h S mb most nd pv nx
  ch:Ch pv nx S (nd.map (·.2)) S
  m:ZmW h mb f nd.length
  k:Keys f nd
  kd:(nd.map (·.1)).Nodup
  os:O S
  om:O mb
  ol:∀ x,x∈nd->O x.2
  lt:∀ j,O j->j<sz h
structure Ztz (h:Zf) (O:Nat->Prop) (S:Nat) (most:Int) (ks:List ByteArray):Prop where
  ex:∃ nd mb pv nx f,nd.map (·.1)=ks/\ZuE h O S mb most nd pv nx f
  m:1<=most/\most<=4096
  len:(ks.length:Int)<=most
theorem Zop.congr {h h':Zf} {S mb:Nat} {most:Int} {nd:List KB} {pv nx:Nat->Nat} (ho:Zop h S mb most nd pv nx) (h1:obj h' S=obj h S) (b:∀ x,x∈nd->obj h' x.2=obj h x.2):Zop h' S mb most nd pv nx :=
  ⟨h1.trans ho.s,fun x a=>(b x a).trans (ho.l x a),ho.nd⟩
theorem ZuE.congr {h h':Zf} {O O':Nat->Prop} {S mb:Nat} {most:Int} {nd:List KB} {pv nx:Nat->Nat} {f:ByteArray->Option Value} (hm:ZuE h O S mb most nd pv nx f) (a:∀ j,O j->O' j) (hl:∀ j,O' j->j<sz h') (he:∀ j,O j->obj h' j=obj h j):ZuE h' O' S mb most nd pv nx f :=
  ⟨hm.ob.congr (he _ hm.os) fun x b=>he _ (hm.ol x b),hm.ch,hm.m.congr (he _ hm.om),hm.k,hm.kd,a _ hm.os,a _ hm.om,fun x b=>a _ (hm.ol x b),hl⟩
theorem Ztz.congr {h h':Zf} {O O':Nat->Prop} {S:Nat} {most:Int} {ks:List ByteArray} (hm:Ztz h O S most ks) (a:∀ j,O j->O' j) (hl:∀ j,O' j->j<sz h') (he:∀ j,O j->obj h' j=obj h j):Ztz h' O' S most ks:=by
  obtain ⟨nd,mb,pv,nx,f,h1,b⟩:=hm.ex;exact ⟨⟨nd,mb,pv,nx,f,h1,b.congr a hl he⟩,hm.m,hm.len⟩
theorem ZuE.mb {h:Zf} {O:Nat->Prop} {S mb:Nat} {most:Int} {nd:List KB} {pv nx:Nat->Nat} {f:ByteArray->Option Value} (hm:ZuE h O S mb most nd pv nx f):¬ inR S nd mb:=fun hi=>by
  obtain ⟨es,c,a,_⟩:=hm.m
  rcases Awr.1 hi with e | hi
  ·have:=hm.ob.s
   rw [<- e,show obj h mb=h[mb]? from rfl,a] at this;cases this
  ·obtain ⟨x,b,e⟩:=Axz.1 hi
   have:=hm.ob.l x b;rw [e,show obj h mb=h[mb]? from rfl,a] at this;cases this
theorem ZuE.no {h:Zf} {O:Nat->Prop} {S mb:Nat} {most:Int} {nd:List KB} {pv nx:Nat->Nat} {f:ByteArray->Option Value} (hm:ZuE h O S mb most nd pv nx f) {key:ByteArray} (a:key∉nd.map (·.1)):f key=none:=by
  cases e:f key with
  | none=>rfl
  | some v =>
    obtain ⟨b,c,_⟩:=(hm.k key v).1 e;exact (a (List.mem_map_of_mem (f:=(·.1)) c)).elim
theorem ZyL {most:Int} (hm:1<=most/\most<=4096) {K:Option Addr->Int->Zf->Prop} {h:Zf} (c:∀ h',Ztz h' (fun j=>j=sz h\/j=sz h+1) (sz h+1) most []->Ext h h'->K (some ⟨sz h+1,0,none⟩) 0 h'):Zlj most K h:=by
  unfold Zlj ZnX;refine Za (Zi (decide_eq_false (by omega)) (Zi (decide_eq_false (by omega)) (ZmW.new fun h1 d m n=>ZJ fun i o e p=>Zbf o (show 0+2+2<6 by decide) rfl fun h3 q r z3=>Zbf q (show 0+2+3<6 by decide) rfl fun f l s z4=>Za ?_)));have hz:h1.size=sz h+1:=n;have u:Upd (· = h1.size) i f:=r.trans s;have t:=(d.congr (e.old _ d.lt)).congr (u.old _ (Aqq d.lt e.size) (by show ¬ sz h=_;omega))
  have zz:sz f=sz h+2:=by
    have a:sz i=h1.size+1:=p;omega
  rw [hz] at l u;rw [hz];refine c f ⟨⟨[],sz h,fun _=>sz h+1,fun _=>sz h+1,_,rfl,⟨?_,fun x g=>(by cases g),by simp⟩,⟨rfl,rfl⟩,t,fun k v=>⟨fun a=>(by cases a),fun ⟨b,a,_⟩=>(by cases a)⟩,List.nodup_nil,.inr rfl,.inl rfl,fun x g=>(by cases g),fun j w=>by omega⟩,hm,by simp;omega⟩ ((m.trans e).then u fun k c=>by rw [c];show h.size<=sz h+1;exact Nat.le_succ _);have:ad (sz h+1) (sz h+1)=⟨sz h+1,0+2,none⟩:=by show (⟨_,_,_⟩:Addr)=_;rw [ZsY]
  rw [this];exact l
section
variable {h:Zf} {O:Nat->Prop} {S mb:Nat} {most:Int} {nd:List KB} {pv nx:Nat->Nat} {f:ByteArray->Option Value}
theorem ZOk (hm:ZuE h O S mb most nd pv nx f) {key:ByteArray} (a:key∉nd.map (·.1)) {K:Int->Bool->Zf->Prop} (b:K 0 false h):Zbc (some ⟨S,0,none⟩) key K h:=by
  unfold Zbc ZfS;exact Za (Zi rfl (Zg (rM (Zb hm.ob.s rfl) (hm.m.get key (by rw [hm.no a];exact ⟨none,rfl,Zl rfl (Za b)⟩)))))
theorem ZHs (hm:ZuE h O S mb most nd pv nx f) {key:ByteArray} {b:Nat} (a:(key,b)∈nd) {K:Int->Bool->Zf->Prop} (d:K 0 true h):Zbc (some ⟨S,0,none⟩) key K h:=by
  unfold Zbc ZfS;have c:f key=some (pN b):=(hm.k _ _).2 ⟨b,a,rfl⟩;exact Za (Zi rfl (Zg (rM (Zb hm.ob.s rfl) (hm.m.get key (by rw [c];exact ⟨some ⟨b,0,none⟩,rfl,Zi rfl (Zg (rM (Zb hm.ob.s rfl) (hm.m.get key (by rw [c];exact ⟨some ⟨b,0,none⟩,rfl,Zg (rI (Zb (hm.ob.l _ a) rfl) (Za d))⟩))))⟩)))))
theorem ZOD (hm:ZuE h O S mb most nd pv nx f) {A B:List KB} {x:KB} (g:nd=A++x::B) {K:Zf->Prop}
    (k:∀ h' a b,Zop h' S mb most nd a b->Ch a b S ((A++B).map (·.2)) S->ZmW h' mb f nd.length->Upd (inR S nd) h h'->sz h'=sz h->K h'):Zbb (some ⟨x.2,0,none⟩) K h:=by
  have c:x∈nd:=by rw [g];simp
  have d:=hm.ch;have i:=hm.ob.nd;rw [g,Ayw,Awo] at d i;have sub:∀ j,j∈(A.map (·.2))++x.2::B.map (·.2)->j∈nd.map (·.2):=fun j l=>by rw [g,Ayw,Awo];exact l
  refine ZAC hm.ob c ?_ ?_ fun h' n u z=>k h' _ _ n ?_ (hm.m.congr (u.old _ hm.m.lt hm.mb)) u z
  ·rcases Awr.1 (Ch.split.1 d).1.pvIn with e | e
   ·rw [e];exact List.mem_cons_self ..
   ·exact Aws _ (sub _ (by simp [e]))
  ·rcases Axx.1 (Ch.split.1 d).2.nxIn with e | e
   ·exact Aws _ (sub _ (by simp [e]))
   ·simp at e
    rw [e];exact List.mem_cons_self ..
  ·rw [Ayw]
   exact d.out i (Ayp.1 i).1
end
theorem ZEU (ks:List ByteArray) (key:ByteArray):∃ (t:List ByteArray) (there:Bool),(there=true↔key∈ks)/\(∀ k,k∈t↔k∈ks)/\∀ {h:Zf} {O:Nat->Prop} {S:Nat} {most:Int} {K:Int->Bool->Zf->Prop},Ztz h O S most ks->(∀ h',Ztz h' O S most t->Upd O h h'->sz h'=sz h->K 0 there h')->ZeL (some ⟨S,0,none⟩) key K h:=by
  by_cases i:key∈ks
  case neg =>
    refine ⟨ks,false,⟨fun h=>(by cases h),fun h=>(i h).elim⟩,fun _=>Iff.rfl,fun {h O S most K} hl y=>?_⟩;obtain ⟨nd,mb,pv,nx,f,h1,c⟩:=hl.ex;unfold ZeL ZgO;exact Za (ZOk c (by rw [h1];exact i) (Za (Zc (Zi rfl (Za (Zc (y h hl (Upd.refl _ _) rfl)))))))
  obtain ⟨A,B,e⟩:=List.append_of_mem i;refine ⟨A++B++[key],true,⟨fun _=>i,fun _=>rfl⟩,fun k=>by rw [e];simp;constructor<;>(rintro (h | h | h)<;>simp [h]),fun {h O S most K} hl y=>?_⟩;obtain ⟨nd,mb,pv,nx,f,h1,c⟩:=hl.ex;rw [e] at h1;obtain ⟨n,C,rfl,rfl,L⟩:=List.map_eq_append_iff.1 h1;obtain ⟨⟨d,b⟩,B',rfl,u,rfl⟩:=List.map_eq_cons_iff.1 L;dsimp only at u;subst u;have g:((d,b):KB)∈n++(d,b)::B':=by simp
  unfold ZeL ZgO;have M:f d=some (pN b):=(c.k _ _).2 ⟨b,g,rfl⟩
  refine Za (ZHs c g (Za (Zc (Zl rfl (Zg (rM (Zb c.ob.s rfl) (c.m.get d (by
    rw [M];refine ⟨some ⟨b,0,none⟩,rfl,ZOD c (x:=(d,b)) rfl fun h3 N P G H I Q z3=>?_⟩;have r:=G.nd;have z:(S::(n++B').map (·.2)).Nodup:=r.sublist (List.Sublist.cons_cons _ ((List.Sublist.append_left (List.sublist_cons_self _ _) _).map _))
    have D:b∉S::(n++B').map (·.2):=fun a=>by
      rw [Ayw,Awo] at r;simp only [Ayp,List.nodup_append,Axx,Awr,not_or] at r
      rcases Awr.1 a with a | a
      ·exact r.1.2.1 a.symm
      ·rw [Ayw] at a
       rcases Axx.1 a with a | a
       ·exact r.2.2.2 b a b (.inl rfl) rfl
       ·exact r.2.2.1.1 a
    have E:=H.pvIn;refine Zu5 G (b:=(d,b)) g ?_ fun R F J z4=>Za (Zc (y R ?_ ?_ (z4.trans z3)))
    ·rcases Awr.1 E with o | o
     ·rw [o];exact List.mem_cons_self ..
     ·refine Aws _ ?_
      rw [Ayw] at o ⊢;rw [Awo];simp only [Axx,Awr] at o ⊢
      rcases o with o | o
      ·exact .inl o
      ·exact .inr (.inr o)
    ·have perm:∀ x:KB,x∈n++B'++[(d,b)]↔x∈n++(d,b)::B':=fun x=>by
       simp only [Axx,Awr,Ayk,or_false];constructor
       ·rintro ((a | a) | a)
        ·exact .inl a
        ·exact .inr (.inr a)
        ·exact .inr (.inl a)
       ·rintro (a | a | a)
        ·exact .inl (.inl a)
        ·exact .inr a
        ·exact .inl (.inr a)
     have pp:(n++(d,b)::B').Perm (n++B'++[(d,b)]):=by
       rw [Ayx];exact List.Perm.append_left _ (List.perm_append_singleton _ _).symm
     refine ⟨⟨n++B'++[(d,b)],mb,_,_,f,by simp,⟨F.s,fun x w=>F.l x ((perm x).1 w),(List.Perm.cons _ (pp.map _)).nodup F.nd⟩,?_,?_,fun k v=>?_,(pp.map _).nodup c.kd,c.os,c.om,fun x w=>c.ol x ((perm x).1 w),fun j p=>by have:=c.lt j p;omega⟩,hl.m,?_⟩
     ·rw [Ayw]
      exact H.touched z D
     ·rw [<- pp.length_eq]
      refine I.congr (J.old _ I.lt fun a=>?_);exact c.mb a
     ·rw [c.k k v]
      constructor<;>(rintro ⟨T,a,U⟩;exact ⟨T,by first | exact (perm _).2 a | exact (perm _).1 a,U⟩)
     ·have:=hl.len
      rw [e] at this;simp at this ⊢;omega
    ·have q:∀ j,inR S (n++(d,b)::B') j->O j:=fun j p=>by
       rcases Awr.1 p with rfl | p
       ·exact c.os
       ·obtain ⟨x,w,rfl⟩:=Axz.1 p
        exact c.ol x w
     exact (Q.mono fun j _ p=>q j p).trans (J.mono fun j _ p=>q j p)))))))))
theorem ZBA {h:Zf} {O:Nat->Prop} {S:Nat} {most:Int} {ks:List ByteArray} {key:ByteArray} (hl:Ztz h O S most ks) (p:key∉ks) (hlen:(ks.length:Int)<most) {J:Zf->Prop} (hJ:∀ h' O',Ztz h' O' S most (ks++[key])->GrO O O' h h'->(∀ j,O' j->j<sz h')->J h') :
    newC h [.string key,iv 0,.pointer none,.pointer none] 285 fun y z=>Ze (some ⟨S,0,none⟩) fun H I=>ldM z H (I+1) fun t33=>Zjz .string z t33 (.string key) (.pointer (some ⟨y,0,none⟩)) fun K=>Zaz (some ⟨S,0,none⟩) (some ⟨y,0,none⟩) (fun L=>J L) K:=by
  obtain ⟨nd,mb,D,nx,f,rfl,hm⟩:=hl.ex;refine ZJ fun h1 c1 M z1=>Zg (rM (Zb (Zj hm.ob.s M) rfl) ?_);have ak:sz h1=sz h+1:=z1;have o:=hm.congr (h':=h1) (fun _ h=>h) (fun j n=>by have:=hm.lt j n;omega) fun j n=>ZG M (hm.lt j n);refine o.m.put key _ fun N P E z2=>?_;have ao:sz N=sz h1:=z2;rw [o.no p] at P;have A:∀ j,O j->j≠sz h:=fun j n e=>by have:=hm.lt j n;omega
  have Q:h.size=sz h:=rfl;rw [Q] at c1 ⊢;have c2:=YZ (show obj h1 (sz h)=some (.cells [.string key,iv 0,.pointer none,.pointer none].toArray 285 (0,0)) from c1) E fun e=>A _ hm.om e.symm;have F:Zop N S mb most nd D nx:=o.ob.congr (Zag E (Zp o.ob.s) fun e=>o.mb (e▸List.mem_cons_self ..)) fun x i=>Zag E (Zp (o.ob.l x i)) fun e=>o.mb (e▸Aws _ (List.mem_map_of_mem i));have q:sz h≠S:=fun e=>A S hm.os e.symm
  have Z:sz h∉S::nd.map (·.2):=fun d=>by
    rcases Awr.1 d with d | d
    ·exact q d
    ·obtain ⟨x,i,e⟩:=Axz.1 d
     exact A _ (hm.ol x i) e
  unfold Zaz Zfe;have eb:(⟨sz h,0,none⟩:Addr)=ad S (sz h):=by show _=(⟨_,_,_⟩:Addr);rw [ZsZ q]
  have es:(⟨S,0+2,none⟩:Addr)=ad S S:=by show _=(⟨_,_,_⟩:Addr);rw [ZsY]
  refine Zg (Zg (rP (Zb F.s rfl) (Zg (Zbf c2 (show 0+2<4 by decide) rfl fun h3 c3 u3 z3=>Zg (Zbf c3 (show 0+3<4 by decide) rfl fun R c4 u4 z4=>?_)))));have r:Upd (· = sz h) N R:=u3.trans u4;have T:obj R (sz h)=some (lkO key (ad S (D S)) (ad S S)):=by rw [<- es];exact c4
  have o4:Zop R S mb most (nd++[(key,sz h)]) (ZmD D (sz h) (D S)) (ZmD nx (sz h) S):=by
    refine ⟨?_,fun x i=>?_,?_⟩
    ·rw [Zce q.symm,Zce q.symm]
     exact YZ F.s r fun e=>q e.symm
    ·rcases Axx.1 i with i | i
     ·have u:x.2≠sz h:=A _ (hm.ol x i)
      rw [Zce u,Zce u];exact YZ (F.l x i) r u
     ·simp at i
      subst i;rw [X8,X8];exact T
    ·rw [Ayw,<- List.cons_append,List.nodup_append]
     refine ⟨F.nd,by simp,fun a U c B=>?_⟩;simp at B;rw [B];rintro rfl;exact Z U
  have t:((key,sz h):KB)∈nd++[(key,sz h)]:=by simp
  have up:∀ j,inR S nd j->inR S (nd++[(key,sz h)]) j:=fun j n=>by
    rcases Awr.1 n with e | e
    ·rw [e];exact List.mem_cons_self ..
    ·exact Aws _ (by rw [Ayw];exact List.mem_append_left _ e)
  have V:=up _ hm.ch.pvIn;have W:inR S (nd++[(key,sz h)]) S:=List.mem_cons_self ..;refine Zg (rP (Zb (o4.l _ t) rfl) ?_);rw [X8];refine Zg (o4.stN V rfl (by rw [eb]) fun h5 o5 u5 z5=>Zg (o5.stP W (by rw [ZsY]) (by rw [eb]) fun G o6 u6 z6=>?_))
  have X:∀ j,inR S nd j->O j:=fun j n=>by
    rcases Awr.1 n with e | e
    ·rw [e];exact hm.os
    ·obtain ⟨x,i,rfl⟩:=Axz.1 e
     exact hm.ol x i
  have g:GrO O (fun j=>O j\/j=sz h) h G:=by
    have g0:GrO O (fun j=>O j\/j=sz h) h h1:=⟨M.upd _,fun j n=> .inl n,fun j n=>n.elim .inl fun e=> .inr (by omega)⟩;exact (((g0.put E fun k w=> .inl (w▸hm.om)).put r fun k w=> .inr w).put u5 fun k w=> .inl (w▸X _ hm.ch.pvIn)).put u6 fun k w=> .inl (w▸hm.os)
  have zz:sz G=sz h+1:=by omega
  have C:∀ j,(O j\/j=sz h)->j<sz G:=fun j n=>by
    rcases n with n | n
    ·have:=hm.lt j n;omega
    ·omega
  refine hJ G _ ⟨⟨nd++[(key,sz h)],mb,_,_,Zrg f key (some (pN (sz h))),by simp,o6,?_,?_,fun k v=>?_,?_,.inl hm.os,.inl hm.om,fun x i=>?_,C⟩,hl.m,?_⟩ g C
  ·rw [Ayw]
   exact hm.ch.touched hm.ob.nd Z
  ·have m3:=(P.congr (r.old _ P.lt fun e=>A _ hm.om e))
   have m5:=m3.congr (u5.old _ m3.lt fun e=>hm.mb (e▸hm.ch.pvIn));have m6:=m5.congr (u6.old _ m5.lt fun e=>hm.mb (e▸List.mem_cons_self ..));rw [Awe];exact m6
  ·unfold Zrg
   by_cases e:k=key
   ·subst e
    rw [if_pos rfl];constructor
    ·intro d
     cases d;exact ⟨sz h,t,rfl⟩
    ·rintro ⟨b,d,rfl⟩
     rcases Axx.1 d with d | d
     ·exact (p (List.mem_map_of_mem (f:=(·.1)) d)).elim
     ·simp at d
      rw [d]
   ·rw [if_neg e,hm.k k v]
    constructor
    ·rintro ⟨b,d,Y⟩
     exact ⟨b,List.mem_append_left _ d,Y⟩
    ·rintro ⟨b,d,Y⟩
     rcases Axx.1 d with d | d
     ·exact ⟨b,d,Y⟩
     ·simp at d
      exact (e d.1).elim
  ·rw [Ayw,List.nodup_append]
   refine ⟨hm.kd,by simp,fun a U c B=>?_⟩;simp at B;rw [B];rintro rfl;exact p U
  ·rcases Axx.1 i with i | i
   ·exact .inl (hm.ol x i)
   ·simp at i
    exact .inr (by rw [i])
  ·simp at hlen ⊢
   omega
theorem ZOa {h:Zf} {O:Nat->Prop} {S mb:Nat} {most:Int} {g:ByteArray} {b:Nat} {nd:List KB} {J nx:Nat->Nat} {f:ByteArray->Option Value} (hm:ZuE h O S mb most ((g,b)::nd) J nx f) {kb:Nat} {T1:TypeId} (L:obj h kb=some (.cells [.string g].toArray T1 (0,0))) {K:Int->Zf->Prop}
    (M:∀ h' a c t n,ZuE h' O S mb most nd a c t->Upd O h h'->sz h'=sz h->K n h'):ZfM (some ⟨S,0,none⟩) ⟨some ⟨kb,0,none⟩,1,1⟩ K h:=by
  unfold ZfM ZhZ;have p:((g,b):KB)∈(g,b)::nd:=List.mem_cons_self ..;have F:f g=some (pN b):=(hm.k _ _).2 ⟨b,p,rfl⟩
  have z:∀ j,inR S ((g,b)::nd) j->O j:=fun j i=>by
    rcases Awr.1 i with e | e
    ·rw [e];exact hm.os
    ·obtain ⟨x,q,rfl⟩:=Axz.1 e
     exact hm.ol x q
  refine Za (Za (Zbd (fun (st:Int × Int × Unit) r=>(st=(0,0,())/\r=h)\/(st.2.1=1/\∃ a c t,ZuE r O S mb most nd a c t/\Upd O h r/\sz r=sz h)) (fun st _=>(1 - st.2.1).toNat) (.inl ⟨rfl,rfl⟩) ?_));rintro ⟨n9,i9,_⟩ r (⟨o,rfl⟩ | ⟨o,a,c,t,B,N,z'⟩) Q P
  case inr =>
    dsimp only at o ⊢;subst o;exact Zi rfl (Za (M r a c t _ B N z'))
  injection o with R C;injection C with C W;subst R C;dsimp only;refine Zl rfl ⟨kb,0,rfl,by decide,by decide,rS (Zb L rfl) (ZHs hm p (Za (Zc (Zl rfl (Zg (rM (Zb hm.ob.s rfl) (hm.m.get g ?_)))))))⟩;rw [F];refine ⟨some ⟨b,0,none⟩,rfl,ZOD hm (A:=[]) (x:=(g,b)) rfl fun h3 a c w T U V z3=>Zg (rM (Zb w.s rfl) (U.del g fun G H D z4=>Za (P _ _ (.inr ⟨rfl,a,c,Zrg f g none,⟨?_,T,?_,fun k v=>?_,(Ayp.1 hm.kd).2,hm.os,hm.om,fun x q=>hm.ol x (Aws _ q),fun j i=>?_⟩,?_,?_⟩) ?_)))⟩
  ·have I:∀ j,inR S ((g,b)::nd) j->j≠mb:=fun j i e=>hm.mb (e▸i)
   refine ⟨YZ w.s D (I _ (List.mem_cons_self ..)),fun x q=>YZ (w.l x (Aws _ q)) D (I _ (Aws _ (List.mem_map_of_mem (Aws _ q)))),w.nd.sublist (List.Sublist.cons_cons _ (List.sublist_cons_self _ _))⟩
  ·rw [F] at H
   exact H
  ·unfold Zrg
   have E:=(Ayp.1 hm.kd).1
   by_cases e:k=g
   ·subst e
    rw [if_pos rfl];constructor
    ·intro d;cases d
    ·rintro ⟨y,d,_⟩
     exact (E (List.mem_map_of_mem (f:=(·.1)) d)).elim
   ·rw [if_neg e,hm.k k v]
    constructor
    ·rintro ⟨y,d,u⟩
     rcases Awr.1 d with d | d
     ·cases d;exact (e rfl).elim
     ·exact ⟨y,d,u⟩
    ·rintro ⟨y,d,u⟩
     exact ⟨y,Aws _ d,u⟩
  ·have d:=hm.lt j i
   have u:sz G=sz h3:=z4;omega
  ·exact (V.mono fun j _ i=>z j i).trans (D.mono fun j _ i=>by rw [i];exact hm.om)
  ·have u:sz G=sz h3:=z4
   omega
  ·show (1 - (1:Int)).toNat<(1 - (0:Int)).toNat
   decide
theorem ZyK {h:Zf} {O:Nat->Prop} {S:Nat} {most:Int} {ks:List ByteArray} {key:ByteArray} (hl:Ztz h O S most ks) (c:key∉ks) {K:ByteArray->Bool->Int->Zf->Prop}
    (v:(ks.length:Int)≠most->∀ h' O',Ztz h' O' S most (ks++[key])->GrO O O' h h'->(∀ j,O' j->j<sz h')->K (ByteArray.mk #[]) false 0 h')
    (w:∀ g I,ks=g::I->(ks.length:Int)=most->∀ h' O',Ztz h' O' S most (I++[key])->GrO O O' h h'->(∀ j,O' j->j<sz h')->K g true 0 h'):ZgJ (some ⟨S,0,none⟩) key 0 K h:=by
  obtain ⟨nd,mb,U,nx,f,d,hm⟩:=hl.ex;unfold ZgJ ZiV;refine Za (Zi rfl (Zg (rM (Zb hm.ob.s rfl) (hm.m.get key ?_))));rw [hm.no (by rw [d];exact c)];refine ⟨none,rfl,Zi rfl ?_⟩;have hlen:nd.length=ks.length:=by rw [<- d,Ayv]
  refine Zls (fun (s:ByteArray × Bool × Unit) y=>∃ a,Ztz y O S most a/\key∉a/\(a.length:Int)<most/\Upd O h y/\((s=(ByteArray.mk #[],false,())/\a=ks/\(ks.length:Int)≠most)\/∃ g,s=(g,true,())/\ks=g::a/\(ks.length:Int)=most)) ?_ fun Q J=>?_
  ·rintro _ y ⟨a,o,p,e,u,⟨rfl,rfl,r⟩ | ⟨g,rfl,M,heq⟩⟩
   ·refine ZBA o p e fun h' O' i g' z=>Zc (Za (v r h' O' i ⟨u.trans ?_,g'.keep,fun k A=>(g'.new k A).imp id fun t=>?_⟩ z))
    ·exact g'.upd
    ·exact Aqp u.size t
   ·refine ZBA o p e fun h' O' i g' z=>Zc (Za (w g a M heq h' O' i ⟨u.trans ?_,g'.keep,fun k A=>(g'.new k A).imp id fun t=>?_⟩ z))
    ·exact g'.upd
    ·exact Aqp u.size t
  refine Zg (Zg (rM (Zb hm.ob.s rfl) (rI (Zb hm.ob.s rfl) (hm.m.len ⟨ZZ (Zb hm.ob.s rfl),Zc ⟨fun q=>?_,fun q=>?_⟩⟩))))
  ·have heq:(nd.length:Int)=most:=by simpa using q
   cases nd with
   | nil=>have:=hl.m;simp at heq;omega
   | cons x nd =>
     obtain ⟨g,b⟩:=x;have B:nx S=b:=hm.ch.1;have C:b≠S:=hm.ob.ne (x:=(g,b)) (List.mem_cons_self ..);refine Zg (rP (Zb hm.ob.s rfl) (Zg ?_));rw [B,ZsZ C];refine rS (Zb (hm.ob.l (g,b) (List.mem_cons_self ..)) rfl) (ZJ fun h1 c1 L N=>?_);have P:sz h1=sz h+1:=N;have D:=hm.congr (h':=h1) (fun _ h=>h) (fun j E=>by have:=hm.lt j E;omega) fun j E=>ZG L (hm.lt j E);refine ZOa D (T1:=9) c1 fun V F G R n H T W=>?_;refine J _ _ ⟨nd.map (·.1),⟨⟨nd,mb,F,G,R,rfl,H⟩,hl.m,?_⟩,fun t=>c ?_,?_,(L.upd _).trans T,.inr ⟨g,?_,by rw [<- d];rfl,by omega⟩⟩
     ·simp at heq ⊢;omega
     ·rw [<- d];exact Aws _ t
     ·simp at heq ⊢;omega
     ·rw [show (((g,b)::nd).length:Int) ==most from q]
  ·have r:(nd.length:Int)≠most:=by simpa using q
   refine J _ _ ⟨ks,hl,c,?_,Upd.refl _ _,.inl ⟨?_,rfl,by omega⟩⟩
   ·have:=hl.len;omega
   ·rw [q]
abbrev KI:=ByteArray × Int
def kiL (x:KI):List Value:=[.string x.1,iv x.2]
theorem Zqz (x:KI):(kiL x).length=2:=rfl
theorem ZD6 (x:KI):(kiL x).all Zr=true:=by simp [kiL,Zd4,ZkF]
def Zf7 (se:Int):Wid:=if h:1<=se/\se<=60 then ⟨se*1000000,10,se*100000,by rw [show se*1000000=se*100000*10 by omega,Int.mul_tdiv_cancel _ (by decide)];exact Yr (by omega) (by omega),by decide,by decide,by omega,by omega⟩ else Wid.sec
theorem Zl6 {se:Int} (h:1<=se/\se<=60):(Zf7 se).len=se*1000000:=by unfold Zf7;rw [dif_pos h]
theorem Zpp {se:Int}:(Zf7 se).cnt=10:=by unfold Zf7;split<;>rfl
structure HtS where
  nm:ByteArray
  ix:Int
  cn:Int
  se:Int
  it:List KI
  most:Int
  ks:List ByteArray
  ws:ByteArray->Win
  sk:Sk
  last:Int
inductive HTag
  | me | map | items | lru | sk
  | win (k:ByteArray)
abbrev htO (H:HtS) (si:Sl) (S wm kb:Nat):Obj:= .cells [.string H.nm,iv H.ix,iv H.cn,iv H.se,slV si,.pointer (some ⟨S,0,none⟩),.map (some wm),.pointer (some ⟨kb,0,none⟩),iv H.last].toArray 218 (0,0)
abbrev WT:=ByteArray->Nat × Nat
structure HtM (h:Zf) (hb:Nat) (T:Nat->Option HTag) (H:HtS) (D:ByteArray->Prop) (si:Sl) (S wm kb:Nat) (f:ByteArray->Option Value) (n:Nat) (wt:WT) (sl:Sl) (lb:List B3):Prop where
  c:obj h hb=some (htO H si S wm kb)
  me:T hb=some .me
  se:1<=H.se/\H.se<=60
  it:Own h 0 si 2 (H.it.flatMap kiL)
  ib:∀ b,si.blk=some b->T b=some .items
  l:Ztz h (fun j=>T j=some .lru) S H.most H.ks
  m:ZmW h wm f n
  mt:T wm=some .map
  w:∀ k,D k->f k=some (pN (wt k).1)/\Zke (Zf7 H.se) h (wt k).1 (wt k).2 (H.ws k)/\T (wt k).1=some (.win k)/\T (wt k).2=some (.win k)
  no:∀ k,¬ D k->f k=none
  s:SkR h (fun j=>T j=some .sk) kb sl lb H.sk
  lt:∀ j,T j≠none->j<sz h
structure HtW (h:Zf) (hb:Nat) (T:Nat->Option HTag) (H:HtS) (D:ByteArray->Prop):Prop where
  ex:∃ si S wm kb f n wt sl lb,HtM h hb T H D si S wm kb f n wt sl lb
abbrev HtR (h:Zf) (hb:Nat) (T:Nat->Option HTag) (H:HtS):Prop:=HtW h hb T H (· ∈ H.ks)
section
variable {h h':Zf} {hb:Nat} {T T':Nat->Option HTag} {H:HtS} {D:ByteArray->Prop} {si:Sl} {S wm kb:Nat} {f:ByteArray->Option Value} {n:Nat} {wt:WT} {sl:Sl} {lb:List B3}
theorem HtM.lw (hm:HtM h hb T H D si S wm kb f n wt sl lb) {j:Nat} {t:HTag} (a:T j=some t):j<sz h:=hm.lt j (by rw [a];exact fun e=>by cases e)
theorem HtM.congr (hm:HtM h hb T H D si S wm kb f n wt sl lb) (h1:∀ j,T j≠none->obj h' j=obj h j) (hz:sz h<=sz h'):HtM h' hb T H D si S wm kb f n wt sl lb:=by
  have q:∀ {j:Nat} {t:HTag},T j=some t->obj h' j=obj h j:=fun {j t} e=>h1 j (by rw [e];exact fun e=>by cases e);have i:∀ j,T j≠none->j<sz h':=fun j g=>Aqq (hm.lt j g) hz
  exact ⟨(q hm.me).trans hm.c,hm.me,hm.se,hm.it.congr fun b o _ _=>q (hm.ib b o),hm.ib,hm.l.congr (fun _ h=>h) (fun j g=>i j (by rw [g];exact fun e=>by cases e)) fun j g=>q g,hm.m.congr (q hm.mt),hm.mt,
    fun k p=>by
      obtain ⟨a,b,c,d⟩:=hm.w k p
      exact ⟨a,b.congr (q c) (q d),c,d⟩,hm.no,hm.s.congr (fun _ h=>h) (fun j g=>i j (by rw [g];exact fun e=>by cases e)) fun j g=>q g,i⟩
theorem HtM.ext (hm:HtM h hb T H D si S wm kb f n wt sl lb) (e:Ext h h'):HtM h' hb T H D si S wm kb f n wt sl lb:=hm.congr (fun j a=>ZG e (hm.lt j a)) e.size
theorem HtW.ext (hw:HtW h hb T H D) (e:Ext h h'):HtW h' hb T H D:=by
  obtain ⟨si,S,wm,kb,f,n,wt,sl,lb,hm⟩:=hw.ex;exact ⟨si,S,wm,kb,f,n,wt,sl,lb,hm.ext e⟩
end
def ZNY (it:List KI) (cn:Int) (v:ByteArray):Int:=match it.findIdx? (fun x=>Yp x.1 v) with
  | some i=>(it[i]?.map (·.2)).getD 0
  | none=>cn
theorem Zvw {h:Zf} {nm v:ByteArray} {ix cn se:Int} {si:Sl} {it:List KI} (m:Row h si 2 (it.flatMap kiL)) {K:Int->Zf->Prop} (e:∀ h',Ext h h'->K (ZNY it cn v) h'):ZdZ (nm,ix,cn,se,si,()) v K h:=by
  unfold ZdZ Zgv;refine ZJ fun h1 c1 t A=>ZJ fun B u k C=>Za (rL (Zb (Zj c1 k) rfl) ?_);have d:=t.trans k;unfold Z9 Yf;refine Zj9 Zqz (m.ext d) (by decide) (p:=fun x=>Yp x.1 v) (tst:=fun Q b o h3=>ldS h3 b o fun t4=>ldI h3 b (o+1) .i64 fun t5=>ZcE (t4,t5,()) (some ⟨h1.size,0,none⟩) Q h3) ?_ ?_
  ·intro i a b o D Q E he c w
   refine rS (c 0 _ rfl) (rI (c 1 _ rfl) ?_);unfold ZcE Zff;exact ZJ fun y z n z4=>rS (Zb z rfl) (Zg (rS (Zb (Zj (Zj u he) n) rfl) (Zc (w y (he.trans n)))))
  ·intro q j
   have r:=Zj (Zj c1 k) j;refine Za ?_;unfold ZNY at e
   cases f:it.findIdx? (fun x=>Yp x.1 v) with
   | none =>
     rw [f] at e;rw [ZqC f];exact Zi (by decide) (rI (Zb r rfl) (Za (e q (d.trans j))))
   | some i =>
     rw [f] at e;rw [ZqB f];obtain ⟨l,_,_⟩:=List.findIdx?_eq_some_iff_getElem.1 f;obtain ⟨x,s⟩:∃ x,it[i]?=some x:=⟨_,Axy l⟩;obtain ⟨b,o,_,_,g,c⟩:=ZbB Zqz (m.ext (d.trans j)) s (by decide);refine Zl (by simp) (rL (Zb r rfl) (g rfl (rI (c 1 _ rfl) (Za ?_))));have:=e q (d.trans j);dsimp only at this;rw [s] at this;exact this
theorem ZDC {k:Wid} {w:Win} (ok:w.OK) {at_:Int} (h0:0<=at_) (h1:at_<=1152921504606846976):Rt (w.sum k at_):=by
  unfold Win.sum;have:=k.c0;have:=ZkU (k:=k) h0 h1;exact ZoV ok.p (by unfold loW;omega)
theorem Zui {s:Sk} (ok:s.OK) (at_:Int) (key:ByteArray):∀ n,0<=ZE8 s at_ key n/\ZE8 s at_ key n<=4611686018427387904
  | 0=>⟨by show (0:Int)<=4611686018427387904;decide,Int.le_refl _⟩
  | n+1=>by
    have h1:=Zui ok at_ key n;have a:=ZtP s.d at_ n (Zsm s.seed n key) s.bs fun b hb=>(ok.bs b hb).1;unfold ZE8 Zpg;split<;>omega
theorem Zu9 {s:Sk} (ok:s.OK) (at_:Int) (key:ByteArray):0<=s.used at_ key/\s.used at_ key<=4611686018427387904:=by
  unfold Sk.used;split
  ·exact Zui ok at_ key 4
  ·omega
theorem ZwM (H:HtS) (D:ByteArray->Prop) (at_:Int) (v:ByteArray):∃ n:Int,∀ {h:Zf} {hb:Nat} {T:Nat->Option HTag} {K:Int->Zf->Prop},HtW h hb T H D->v.size<=64->(∀ h',Ext h h'->0<=n->n<=4611686018427387904->K n h')->Zca (some ⟨hb,0,none⟩) at_ v K h:=by
  by_cases a:D v
  ·refine ⟨(if ZW (H.ws v).last at_=0 then (H.ws v).sum (Zf7 H.se) at_ else z6).1,fun {h hb T K} hw hv b=>?_⟩
   obtain ⟨si,S,wm,kb,f,n,wt,sl,lb,hm⟩:=hw.ex;obtain ⟨w1,i,_,_⟩:=hm.w v a;unfold Zca ZfT;refine Za (Zg (rM (Zb hm.c rfl) (hm.m.get v ?_)));rw [w1]
   have d:Rt (if ZW (H.ws v).last at_=0 then (H.ws v).sum (Zf7 H.se) at_ else z6):=by
     split
     ·rename_i q
      obtain ⟨a0,j,_⟩:=Zew q;exact ZDC i.ok a0 j
     ·exact Rt.zero
   refine ⟨some ⟨(wt v).1,0,none⟩,rfl,Zc (Zl rfl (Zq0 i fun h1 g=>ZJ fun t l o u=>Zbe l fun h3 p r z3=>Za (rI (Zb p rfl) (Za (b h3 ?_ d.1.1 d.1.2)))))⟩;exact (g.trans o).then r fun k b=>by subst b;exact g.size
  ·refine ⟨H.sk.used at_ v,fun {h hb T K} hw hv b=>?_⟩
   obtain ⟨si,S,wm,kb,f,n,wt,sl,lb,hm⟩:=hw.ex;unfold Zca ZfT;refine Za (Zg (rM (Zb hm.c rfl) (hm.m.get v ?_)));rw [hm.no v a];have d:=Zu9 hm.s.ok at_ v;exact ⟨none,rfl,Zc (Zi rfl (Zg (rP (Zb hm.c rfl) (Zq4 hm.s (by omega) fun h1 e g=>Za (Za (Za (b h1 g d.1 d.2)))))))⟩
def ZEi (H:HtS) (at_:Int) (v:ByteArray):Int:=if at_<0 then 2 else if at_>1152921504606846976 then 2 else if (v.size:Int)>64 then 5 else if at_<H.last then 7 else 0
theorem ZxV {H:HtS} {at_:Int} {v:ByteArray} (h:ZEi H at_ v=0):0<=at_/\at_<=1152921504606846976/\v.size<=64:=by
  unfold ZEi at h;split at h
  ·cases h
  ·split at h
   ·cases h
   ·split at h
    ·cases h
    ·omega
theorem ZnR {h:Zf} {hb:Nat} {T:Nat->Option HTag} {H:HtS} {D:ByteArray->Prop} (hw:HtW h hb T H D) {at_:Int} {v:ByteArray} {K:Int->Zf->Prop} (a:K (ZEi H at_ v) h):ZeM (some ⟨hb,0,none⟩) at_ v K h:=by
  obtain ⟨si,S,wm,kb,f,n,wt,sl,lb,hm⟩:=hw.ex;unfold ZeM Zhl;unfold ZEi at a;refine Za (Zc (Zi rfl (Zn (fun q=>Za ?_) fun q=>Zc (Zn (fun b=>Za ?_) fun b=>Zc (Zn (fun d=>Za ?_) fun d=>Zg (rI (Zb hm.c rfl) (Zc (Zn (fun e=>Za ?_) fun e=>Za ?_))))))))
  ·rw [if_pos q] at a;exact a
  ·rw [if_neg q,if_pos b] at a;exact a
  ·rw [if_neg q,if_neg b,if_pos d] at a;exact a
  ·rw [if_neg q,if_neg b,if_neg d,if_pos e] at a;exact a
  ·rw [if_neg q,if_neg b,if_neg d,if_neg e] at a;exact a
theorem Zq3 (H:HtS) (at_:Int) (v:ByteArray) (c:Int):∃ (ok:Bool) (e:Int),(e=0->(1<=c/\c<=1099511627776)/\ZEi H at_ v=0)/\∀ {h:Zf} {hb:Nat} {T:Nat->Option HTag} {K:Bool->Int->Zf->Prop},HtR h hb T H->(∀ h',Ext h h'->K ok e h')->Zap (some ⟨hb,0,none⟩) at_ v c K h:=by
  by_cases i:c<1
  ·refine ⟨false,2,fun h=>(by cases h),fun {h hb T K} hw a=>?_⟩
   unfold Zap Zcc;exact Za (Zls (fun _ _=>False) (fun _ _ h=>h.elim) fun Q d=>Zl rfl (Zl (decide_eq_true i) (Za (a h (Ext.refl _)))))
  by_cases j:c>1099511627776
  ·refine ⟨false,2,fun h=>(by cases h),fun {h hb T K} hw a=>?_⟩
   unfold Zap Zcc;exact Za (Zls (fun _ _=>False) (fun _ _ h=>h.elim) fun Q d=>Zl rfl (Zi (decide_eq_false i) (Zl (decide_eq_true j) (Za (a h (Ext.refl _))))))
  by_cases g:ZEi H at_ v=0
  ·obtain ⟨n,l⟩:=ZwM H (· ∈ H.ks) at_ v
   refine ⟨decide (n<=IntKind.wrap .i64 (ZNY H.it H.cn v - c)),0,fun _=>⟨by omega,g⟩,fun {h hb T K} hw a=>?_⟩;unfold Zap Zcc;refine Za (Zls (fun _ b=>b=h) ?_ fun Q d=>Zl rfl (Zi (decide_eq_false i) (Zi (decide_eq_false j) (d _ _ rfl))));rintro _ b rfl;obtain ⟨si,S,wm,kb,f,m,wt,sl,lb,hm⟩:=hw.ex;refine ZnR hw (Za (Zi (by rw [g];rfl) (Zg (rS (Zb hm.c rfl) (rI (Zb hm.c rfl) (rI (Zb hm.c rfl) (rI (Zb hm.c rfl) (rL (Zb hm.c rfl) (l hw (ZxV g).2.2 fun h1 k _ _=>?_)))))))));have c1:=Zj hm.c k;refine ⟨?_,Zvw (hm.it.row.ext k) fun o p=>Zc (Za (a o (k.trans p)))⟩;rw [ZaX,ZaX,ZaX,ZaX,ZaX,Zg9];exact ⟨Zb c1 rfl,Zb c1 rfl,Zb c1 rfl,Zb c1 rfl,Zb c1 rfl,trivial⟩
  ·refine ⟨false,ZEi H at_ v,fun h=>(g h).elim,fun {h hb T K} hw a=>?_⟩
   unfold Zap Zcc;refine Za (Zls (fun _ b=>b=h) ?_ fun Q d=>Zl rfl (Zi (decide_eq_false i) (Zi (decide_eq_false j) (d _ _ rfl))));rintro _ b rfl;exact ZnR hw (Za (Zl (by simpa using g) (Za (a b (Ext.refl _)))))
end Go.Proofs.YthbfgkphlmlihaaGreat
namespace Go.Proofs.YthbfgkphlmlihaaGreat
open Go Go.Fw
open Nat renaming reduceAdd->Nqa,reduceLT->Nqb,reduceLeDiff->Nqc,reduceEqDiff->Nqd,reduceMul->Nqe
open Classical in
theorem ZDz {h h':Zf} {T:Nat->Option HTag} {t:HTag} {O':Nat->Prop} (d:∀ j,T j≠none->j<sz h) (g:GrO (fun j=>T j=some t) O' h h') (hl:∀ j,O' j->j<sz h') :
    ∃ T':Nat->Option HTag,(∀ j x,T j=some x->T' j=some x)/\(∀ j,T' j=some t↔O' j)/\(∀ j,T' j≠none->j<sz h')/\(∀ j x,T j=some x->x≠t->obj h' j=obj h j)/\(∀ j x,T' j=some x->x≠t->T j=some x)/\GrO (fun j=>T j≠none) (fun j=>T' j≠none) h h':=by
  have some_:∀ {j:Nat} {x:HTag},T j=some x->T j≠none:=fun e b=>by rw [e] at b;cases b
  have i:∀ j x,T j=some x->(if O' j then some t else T j)=some x:=fun j x a=>by
    split
    ·rename_i ho
     rcases g.new j ho with b | b
     ·rw [<- b,a]
     ·have:=d j (some_ a);omega
    ·exact a
  refine ⟨fun j=>if O' j then some t else T j,i,fun j=>⟨fun b=>?_,fun b=>if_pos b⟩,fun j c=>?_,fun j x a f=>Zag g.upd (d j (some_ a)) fun b=>f (by have k:T j=some t:=b;rw [a] at k;exact Option.some.inj k),fun j x a f=>?_,g.upd.mono fun j _ c=>some_ c,fun j c=>?_,fun j c=>?_⟩
  ·dsimp only at b
   split at b
   ·assumption
   ·exact g.keep j b
  ·dsimp only at c
   split at c
   ·exact hl j (by assumption)
   ·exact Aqq (d j c) g.upd.size
  ·dsimp only at a
   split at a
   ·exact (f (Option.some.inj a).symm).elim
   ·exact a
  ·cases a:T j with
   | none=>exact (c a).elim
   | some x =>
     show (if O' j then some t else T j)≠none;rw [i j x a];exact fun e=>by cases e
  ·dsimp only at c
   split at c
   ·rename_i ho
    exact (g.new j ho).imp some_ id
   ·exact .inl c
section
variable {h h':Zf} {hb:Nat} {T:Nat->Option HTag} {H:HtS} {D:ByteArray->Prop} {si:Sl} {S wm kb:Nat} {f:ByteArray->Option Value} {n:Nat} {wt:WT} {sl:Sl} {lb:List B3}
abbrev GrT (T T':Nat->Option HTag) (h h':Zf):Prop:=GrO (fun j=>T j≠none) (fun j=>T' j≠none) h h'
theorem HtM.lru (hm:HtM h hb T H D si S wm kb f n wt sl lb) {O':Nat->Prop} {ks:List ByteArray} (hl:Ztz h' O' S H.most ks) (g:GrO (fun j=>T j=some .lru) O' h h') (lt:∀ j,O' j->j<sz h'):∃ T',HtM h' hb T' { H with ks:=ks } D si S wm kb f n wt sl lb/\GrT T T' h h':=by
  obtain ⟨T',l,p,r,t,y,u⟩:=ZDz hm.lt g lt;have q:∀ {j:Nat} {x:HTag},T j=some x->x≠ .lru->obj h' j=obj h j:=fun {j x} a b=>t j x a b
  refine ⟨T',⟨(q hm.me (by simp)).trans hm.c,l _ _ hm.me,hm.se,hm.it.congr fun b o _ _=>q (hm.ib b o) (by simp),fun b e=>l _ _ (hm.ib b e),hl.congr (fun j i=>(p j).2 i) (fun j i=>lt j ((p j).1 i)) fun _ _=>rfl,hm.m.congr (q hm.mt (by simp)),l _ _ hm.mt,
    fun k v=>by
      obtain ⟨a,b,c,d⟩:=hm.w k v
      exact ⟨a,b.congr (q c (by simp)) (q d (by simp)),l _ _ c,l _ _ d⟩,hm.no,hm.s.congr (fun j i=>l _ _ i) (fun j i=>r j (by rw [i];exact fun e=>by cases e)) fun j i=>q i (by simp),r⟩,u⟩
theorem HtM.sk (hm:HtM h hb T H D si S wm kb f n wt sl lb) {O':Nat->Prop} {sk:Sk} {p:Sl} {r:List B3} (hs:SkR h' O' kb p r sk) (g:GrO (fun j=>T j=some .sk) O' h h'):∃ T',HtM h' hb T' { H with sk:=sk } D si S wm kb f n wt p r/\GrT T T' h h':=by
  obtain ⟨T',o,t,u,v,A,y⟩:=ZDz hm.lt g hs.lt;have q:∀ {j:Nat} {x:HTag},T j=some x->x≠ .sk->obj h' j=obj h j:=fun {j x} a b=>v j x a b
  refine ⟨T',⟨(q hm.me (by simp)).trans hm.c,o _ _ hm.me,hm.se,hm.it.congr fun b s _ _=>q (hm.ib b s) (by simp),fun b e=>o _ _ (hm.ib b e),hm.l.congr (fun j i=>o _ _ i) (fun j i=>u j (by rw [i];exact fun e=>by cases e)) (fun j i=>q i (by simp)),hm.m.congr (q hm.mt (by simp)),o _ _ hm.mt,
    fun k z=>by
      obtain ⟨a,b,c,d⟩:=hm.w k z
      exact ⟨a,b.congr (q c (by simp)) (q d (by simp)),o _ _ c,o _ _ d⟩,hm.no,hs.congr (fun j i=>(t j).2 i) (fun j i=>hs.lt j ((t j).1 i)) fun _ _=>rfl,u⟩,y⟩
theorem HtM.last (hm:HtM h hb T H D si S wm kb f n wt sl lb) {at_:Int} (c:obj h' hb=some (htO { H with last:=at_ } si S wm kb)) (u:Upd (· = hb) h h'):HtM h' hb T { H with last:=at_ } D si S wm kb f n wt sl lb:=by
  have q:∀ {j:Nat} {x:HTag},T j=some x->x≠ .me->obj h' j=obj h j:=fun {j x} a b=>Zag u (hm.lw a) fun e=>b (by rw [e,hm.me] at a;exact (Option.some.inj a).symm);have i:∀ j,T j≠none->j<sz h':=fun j g=>Aqq (hm.lt j g) u.size
  exact ⟨c,hm.me,hm.se,hm.it.congr fun b o _ _=>q (hm.ib b o) (by simp),hm.ib,hm.l.congr (fun _ h=>h) (fun j g=>i j (by rw [g];exact fun e=>by cases e)) (fun j g=>q g (by simp)),hm.m.congr (q hm.mt (by simp)),hm.mt,
    fun k p=>by
      obtain ⟨a,b,c,d⟩:=hm.w k p
      exact ⟨a,b.congr (q c (by simp)) (q d (by simp)),c,d⟩,hm.no,hm.s.congr (fun _ h=>h) (fun j g=>i j (by rw [g];exact fun e=>by cases e)) (fun j g=>q g (by simp)),i⟩
open Classical in
noncomputable def Zwd (ws:ByteArray->Win) (v:ByteArray) (w:Win):ByteArray->Win:=fun k=>if k=v then w else ws k
open Classical in
theorem HtM.win (hm:HtM h hb T H D si S wm kb f n wt sl lb) {v:ByteArray} {w:Win} (hv:D v) (hw:Zke (Zf7 H.se) h' (wt v).1 (wt v).2 w) (u:Upd (fun j=>j=(wt v).1\/j=(wt v).2) h h'):HtM h' hb T { H with ws:=Zwd H.ws v w } D si S wm kb f n wt sl lb:=by
  obtain ⟨_,_,t1,t2⟩:=hm.w v hv
  have q:∀ {j:Nat} {x:HTag},T j=some x->x≠ .win v->obj h' j=obj h j:=fun {j x} a b=>Zag u (hm.lw a) fun e=>b (by
    rcases e with e | e
    ·rw [e,t1] at a;exact (Option.some.inj a).symm
    ·rw [e,t2] at a;exact (Option.some.inj a).symm)
  have i:∀ j,T j≠none->j<sz h':=fun j g=>Aqq (hm.lt j g) u.size
  exact ⟨(q hm.me (by simp)).trans hm.c,hm.me,hm.se,hm.it.congr fun b o _ _=>q (hm.ib b o) (by simp),hm.ib,hm.l.congr (fun _ h=>h) (fun j g=>i j (by rw [g];exact fun e=>by cases e)) (fun j g=>q g (by simp)),hm.m.congr (q hm.mt (by simp)),hm.mt,
    fun k p=>by
      obtain ⟨a,b,c,d⟩:=hm.w k p
      by_cases e:k=v
      ·subst e
       exact ⟨a,by show Zke _ _ _ _ (Zwd _ _ _ _);unfold Zwd;rw [if_pos rfl];exact hw,c,d⟩
      ·refine ⟨a,?_,c,d⟩
       show Zke _ _ _ _ (Zwd _ _ _ _);unfold Zwd;rw [if_neg e]
       exact b.congr (q c (by simpa using e)) (q d (by simpa using e)),hm.no,hm.s.congr (fun _ h=>h) (fun j g=>i j (by rw [g];exact fun e=>by cases e)) (fun j g=>q g (by simp)),i⟩
theorem HtM.del (hm:HtM h hb T H D si S wm kb f n wt sl lb) {v:ByteArray} {r:Nat} (m:ZmW h' wm (Zrg f v none) r) (u:Upd (· = wm) h h'):HtM h' hb T H (fun k=>D k/\k≠v) si S wm kb (Zrg f v none) r wt sl lb:=by
  have q:∀ {j:Nat} {x:HTag},T j=some x->x≠ .map->obj h' j=obj h j:=fun {j x} a b=>Zag u (hm.lw a) fun e=>b (by rw [e,hm.mt] at a;exact (Option.some.inj a).symm);have i:∀ j,T j≠none->j<sz h':=fun j g=>Aqq (hm.lt j g) u.size
  exact ⟨(q hm.me (by simp)).trans hm.c,hm.me,hm.se,hm.it.congr fun b p _ _=>q (hm.ib b p) (by simp),hm.ib,hm.l.congr (fun _ h=>h) (fun j g=>i j (by rw [g];exact fun e=>by cases e)) (fun j g=>q g (by simp)),m,hm.mt,
    fun k o=>by
      obtain ⟨a,b,c,d⟩:=hm.w k o.1
      exact ⟨(ZhJ _ _ o.2).trans a,b.congr (q c (by simp)) (q d (by simp)),c,d⟩,fun k o=>by
      by_cases e:k=v
      ·subst e;exact Zjm _ _ _
      ·exact (ZhJ _ _ e).trans (hm.no k fun t=>o ⟨t,e⟩),hm.s.congr (fun _ h=>h) (fun j g=>i j (by rw [g];exact fun e=>by cases e)) (fun j g=>q g (by simp)),i⟩
open Classical in
theorem HtM.put (hm:HtM h hb T H D si S wm kb f n wt sl lb) {v:ByteArray} {z wb mb:Nat} {w:Win} (hv:¬ D v) (m:ZmW h' wm (Zrg f v (some (pN wb))) z) (u:Upd (· = wm) h h') (hw:Zke (Zf7 H.se) h' wb mb w) (hT:T wb=none/\T mb=none) (base:Nat) (A:base<=wb/\base<=mb) (B:wb<sz h/\mb<sz h) :
    ∃ T' wt',HtM h' hb T' { H with ws:=Zwd H.ws v w } (fun k=>D k\/k=v) si S wm kb (Zrg f v (some (pN wb))) z wt' sl lb/\Upd (fun j=>T j≠none) h h'/\(∀ j,T j≠none->T' j≠none)/\(∀ j,T' j≠none->T j≠none\/base<=j):=by
  have some_:∀ {j:Nat} {x:HTag},T j=some x->T j≠none:=fun e r=>by rw [e] at r;cases r
  have q:∀ {j:Nat} {x:HTag},T j=some x->x≠ .map->obj h' j=obj h j:=fun {j x} a b=>Zag u (hm.lw a) fun e=>b (by rw [e,hm.mt] at a;exact (Option.some.inj a).symm);have hz:sz h<=sz h':=u.size
  have o:∀ j x,T j=some x->(if j=wb\/j=mb then some (.win v) else T j)=some x:=fun j x i=>by
    rw [if_neg]
    ·exact i
    ·rintro (e | e)
     ·rw [e,hT.1] at i;cases i
     ·rw [e,hT.2] at i;cases i
  have E:∀ j x,x≠ .win v->(if j=wb\/j=mb then some (.win v) else T j)=some x->T j=some x:=fun j x C i=>by
    split at i
    ·exact (C (Option.some.inj i).symm).elim
    ·exact i
  have p:∀ j,(if j=wb\/j=mb then some (.win v) else T j)≠none->j<sz h':=fun j g=>by
    split at g
    ·rename_i e
     rcases e with e | e<;>omega
    ·have:=hm.lt j g;omega
  refine ⟨fun j=>if j=wb\/j=mb then some (.win v) else T j,fun k=>if k=v then (wb,mb) else wt k,⟨(q hm.me (by simp)).trans hm.c,o _ _ hm.me,hm.se,hm.it.congr fun b y _ _=>q (hm.ib b y) (by simp),fun b e=>o _ _ (hm.ib b e),hm.l.congr (fun j g=>o _ _ g) (fun j g=>p j (by rw [g];exact fun e=>by cases e)) (fun j g=>q g (by simp)),m,o _ _ hm.mt,fun k t=>?_,fun k t=>?_,hm.s.congr (fun j g=>o _ _ g) (fun j g=>p j (by rw [g];exact fun e=>by cases e)) (fun j g=>q g (by simp)),p⟩,?_,fun j g=>?_,fun j g=>?_⟩
  ·by_cases e:k=v
   ·subst e
    dsimp only;rw [if_pos rfl];refine ⟨Zjm _ _ _,?_,if_pos (.inl rfl),if_pos (.inr rfl)⟩;show Zke _ _ _ _ (Zwd _ _ _ _);unfold Zwd;rw [if_pos rfl];exact hw
   ·obtain ⟨a,b,c,d⟩:=hm.w k (t.resolve_right e)
    dsimp only;rw [if_neg e];refine ⟨(ZhJ _ _ e).trans a,?_,o _ _ c,o _ _ d⟩;show Zke _ _ _ _ (Zwd _ _ _ _);unfold Zwd;rw [if_neg e];exact b.congr (q c (by simp)) (q d (by simp))
  ·have e:k≠v:=fun e=>t (.inr e)
   exact (ZhJ _ _ e).trans (hm.no k fun r=>t (.inl r))
  ·exact u.mono fun j _ g=>by rw [g];exact some_ hm.mt
  ·cases i:T j with
   | none=>exact (g i).elim
   | some x =>
     dsimp only;rw [o j x i];exact fun e=>by cases e
  ·dsimp only at g
   split at g
   ·rename_i e
    right
    rcases e with e | e<;>omega
   ·exact .inl g
end
end Go.Proofs.YthbfgkphlmlihaaGreat
namespace Go.Proofs.YthbfgkphlmlihaaGreat
open Go Go.Fw
open Nat renaming reduceAdd->Nqa,reduceLT->Nqb,reduceLeDiff->Nqc,reduceEqDiff->Nqd,reduceMul->Nqe
theorem ZoR {nm:ByteArray} {ix cn se:Int} {a:Sl} (hs:1<=se/\se<=60) {K:Int->Zf->Prop} {h:Zf} (b:∀ h',Ext h h'->K (se*1000000) h'):Zb5 (nm,ix,cn,se,a,()) K h:=by
  unfold Zb5 Zgu;refine ZJ fun h1 c1 c d=>Za (rI (n:=se) (Zb c1 rfl) (Za ?_));rw [Yr (by omega) (by omega)];exact b h1 c
theorem GrO.up {O O':Nat->Prop} {h h1 h':Zf} (e:Ext h h1) (g:GrO O O' h1 h'):GrO O O' h h':=⟨(e.upd _).trans g.upd,g.keep,fun k a=>(g.new k a).imp id fun b=>Aqp e.size b⟩
theorem GrO.upd_ {O:Nat->Prop} {h h':Zf} (u:Upd O h h'):GrO O O h h':=⟨u,fun _ h=>h,fun _ h=> .inl h⟩
theorem Rt.used {n:Int} (h0:0<=n) (h1:n<=4611686018427387904):Rt (n,0,0,0,0,0,()):=⟨⟨h0,h1⟩,by simp,by simp,by simp,by simp,by simp,.inr rfl⟩
theorem ZvC {se:Int} (hs:1<=se/\se<=60) {h:Zf} {K:Option Addr->Int->Zf->Prop} (a:∀ h',Zke (Zf7 se) h' (sz h+1) (sz h) ⟨0,fun _=>z6⟩->Ext h h'->sz h'=sz h+2->K (some ⟨sz h+1,0,none⟩) 0 h'):ZcL (se*1000000) 10 K h:=by
  have:=Zg4 (k:=Zf7 se) (by rw [Zl6 hs,Zpp,show se*1000000=se*100000*10 by omega];exact Int.mul_tmod_left _ _) (by rw [Zl6 hs];omega) a;rwa [Zl6 hs,Zpp] at this
theorem ZEa (H:HtS) (at_:Int) (v:ByteArray) (hv:v.size<=64):∃ H':HtS,v∈H'.ks/\H'.last=H.last/\∀ {h:Zf} {F:Nat} {T:Nat->Option HTag} {K:Zf->Prop},HtR h F T H->(∀ h' T',HtR h' F T' H'->GrT T T' h h'->K h')->ZdP (some ⟨F,0,none⟩) at_ v K h:=by
  obtain ⟨p,there,ht,D,R⟩:=ZEU H.ks v
  by_cases L:v∈H.ks
  ·have:there=true:=ht.2 L
   subst this;refine ⟨{ H with ks:=p },(D v).2 L,rfl,fun {h F T K} hw G=>?_⟩;obtain ⟨X,S,M,kb,f,n,wt,sl,lb,hm⟩:=hw.ex;unfold ZdP ZfU;refine Zg (rP (Zb hm.c rfl) (R hm.l fun h1 l1 u1 z1=>Za (Zc (Zl rfl ?_))));obtain ⟨T',B,g'⟩:=hm.lru l1 (GrO.upd_ u1) fun j t=>by have:=hm.lw t;omega
   exact G h1 T' ⟨⟨X,S,M,kb,f,n,wt,sl,lb,{ B with w:=fun k C=>B.w k ((D k).1 C),no:=fun k C=>B.no k fun u=>C ((D k).2 u)}⟩⟩ g'
  have:there=false:=by
    cases u:there with
    | false=>rfl
    | true=>exact (L (ht.1 u)).elim
  subst this;have I:v∉p:=fun u=>L ((D v).1 u);obtain ⟨n,hn⟩:=ZwM { H with ks:=p } (· ∈ H.ks) at_ v;let w1:Win:=if ZW (0:Int) at_=0 then (⟨0,fun _=>z6⟩:Win).add (Zf7 H.se) at_ (n,0,0,0,0,0,()) else ⟨0,fun _=>z6⟩
  refine ⟨{ H with ks:=(if (p.length:Int)=H.most then p.tail else p)++[v],ws:=Zwd H.ws v w1 },by simp,rfl,fun {h F T K} hw G=>?_⟩;obtain ⟨X,S,M,kb,f,m,wt,sl,lb,hm⟩:=hw.ex;unfold ZdP ZfU;refine Zg (rP (Zb hm.c rfl) (R hm.l fun h1 l1 u1 z1=>Za (Zc (Zi rfl ?_))));obtain ⟨T1,z,g1⟩:=hm.lru l1 (GrO.upd_ u1) fun j t=>by have:=hm.lw t;omega
  refine Zg (rS (Zb z.c rfl) (rI (Zb z.c rfl) (rI (Zb z.c rfl) (rI (Zb z.c rfl) (rL (Zb z.c rfl) (ZoR hm.se fun y e2=>ZvC hm.se fun h3 w3 e3 z3=>Za ?_))))));have ay:=(z.ext e2).ext e3;have b2:sz h1<=sz y:=e2.size;refine hn ⟨⟨X,S,M,kb,f,m,wt,sl,lb,ay⟩⟩ hv fun h4 e4 n0 n1=>ZJ fun h5 c5 e5 z5=>?_;have Y:=e4.trans e5;have w5:=w3.congr (ZG Y (Zp w3.cells)) (ZG Y w3.mlt);have b3:sz h3=sz y+2:=z3;have b4:sz h3<=h4.size:=e4.size;have b5:sz h5=h4.size+1:=z5;refine ZlC w5 (x:=(n,0,0,0,0,0,())) (Rt.used n0 n1) (Zj1 c5 rfl) (fun b F=>?_) fun Z w6 u6=>?_
  ·simp [Sl.blk] at F
   omega
  have aj:Ext h1 Z:=(e2.trans (e3.trans Y)).then u6 fun k G=>by
    have b9:h1.size<=sz y:=e2.size
    rcases G with e | e<;>omega
  have i:=z.ext aj;have b6:sz h5<=sz Z:=u6.size;have aa:Zke (Zf7 H.se) Z (sz y+1) (sz y) w1:=w6;have b1:sz h1=sz h:=z1
  have fin:∀ {A:Zf} {r:Nat->Option HTag} {f7:ByteArray->Option Value} {m7:Nat} {o:List ByteArray} {U:ByteArray->Prop},HtM A F r { H with ks:=o++[v]} U X S M kb f7 m7 wt sl lb->Zke (Zf7 H.se) A (sz y+1) (sz y) w1->r (sz y+1)=none/\r (sz y)=none->GrT T r h A->(∀ k,U k↔k∈o)->v∉o->o=(if (p.length:Int)=H.most then p.tail else p) ->
      Ze (some ⟨F,0,none⟩) fun az aA=>ldM A az (aA+6) fun t40=>Zjz .string A t40 (.string v) (.pointer (some ⟨sz y+1,0,none⟩)) fun aB=>K aB:=by
    intro A r f7 m7 o U N w7 t7 O hD aC aD;refine Zg (rM (Zb N.c rfl) (N.m.put v _ fun h8 m8 u8 z8=>?_));have J:∀ j,r j=none->j≠M:=fun j t e=>by rw [e,N.mt] at t;cases t
    have w8:=w7.congr (Zag u8 (Zp w7.cells) (J _ t7.1)) (Zag u8 w7.mlt (J _ t7.2));obtain ⟨T',wt',B,q1,q2,q3⟩:=N.put (fun u=>aC ((hD v).1 u)) m8 u8 w8 t7 (sz h) ⟨by omega,by omega⟩ ⟨Zp w7.cells,w7.mlt⟩;refine G h8 T' ⟨⟨X,S,M,kb,Zrg f7 v (some (pN (sz y+1))),if (f7 v).isSome then m7 else m7+1,wt',sl,lb,?_⟩⟩ ⟨(O.put q1 fun k G=>G).upd,fun j t=>q2 j (O.keep j t),fun j t=>(q3 j t).elim (O.new j) .inr⟩;rw [<- aD];have iff:∀ k,k∈o++[v]↔U k\/k=v:=fun k=>by rw [Axx,Axs,hD k]
    exact { B with w:=fun k C=>B.w k ((iff k).1 C),no:=fun k C=>B.no k fun u=>C ((iff k).2 u)}
  have kd:p.Nodup:=by
    obtain ⟨nd,mb,pv,nx,f9,e9,hM⟩:=l1.ex;rw [<- e9];exact hM.kd
  refine Zls (fun (_:Unit) V=>∃ (r:Nat->Option HTag) (f7:ByteArray->Option Value) (m7:Nat) (o:List ByteArray) (U:ByteArray->Prop),HtM V F r { H with ks:=o++[v]} U X S M kb f7 m7 wt sl lb/\Zke (Zf7 H.se) V (sz y+1) (sz y) w1/\(r (sz y+1)=none/\r (sz y)=none)/\GrT T r h V/\(∀ k,U k↔k∈o)/\v∉o/\o=(if (p.length:Int)=H.most then p.tail else p)) ?_ fun Q hQ=>?_
  ·rintro _ V ⟨r,f7,m7,o,U,P,a2,a3,a4,a5,a6,a7⟩
   exact fin P a2 a3 a4 a5 a6 a7
  have step:∀ {A:Zf} {O7:Nat->Prop} {o:List ByteArray},Ztz A O7 S H.most (o++[v])->GrO (fun j=>T1 j=some .lru) O7 Z A->(∀ j,O7 j->j<sz A)->∃ r,HtM A F r { H with ks:=o++[v]} (· ∈ H.ks) X S M kb f m wt sl lb/\Zke (Zf7 H.se) A (sz y+1) (sz y) w1/\(r (sz y+1)=none/\r (sz y)=none)/\GrT T r h A:=by
    intro A O7 o l7 O E;obtain ⟨r,W,k2,k3,k4,k5,k6⟩:=ZDz i.lt O E;have q:∀ {j:Nat} {x:HTag},T1 j=some x->x≠ .lru->obj A j=obj Z j:=fun {j x} a b=>k4 j x a b
    have nn:∀ j,sz h1<=j->j<sz Z->T1 j=none:=fun j a b=>by
      cases V:T1 j with
      | none=>rfl
      | some x=>have:=z.lt j (by rw [V];exact fun e=>by cases e);omega
    have n7:∀ j,sz h1<=j->j<sz Z->r j=none:=fun j a b=>by
      cases V:r j with
      | none=>rfl
      | some x =>
        rcases k6.new j (by rw [V];exact fun e=>by cases e) with u | u
        ·exact (u (nn j a b)).elim
        ·omega
    have ag:=Zp aa.cells;have ah:=aa.mlt
    refine ⟨r,⟨(q i.me (by simp)).trans i.c,W _ _ i.me,i.se,i.it.congr fun b aH _ _=>q (i.ib b aH) (by simp),fun b e=>W _ _ (i.ib b e),l7.congr (fun j t=>(k2 j).2 t) (fun j t=>E j ((k2 j).1 t)) (fun _ _=>rfl),i.m.congr (q i.mt (by simp)),W _ _ i.mt,
      fun k G=>by
        obtain ⟨a,b,c,d⟩:=i.w k G
        exact ⟨a,b.congr (q c (by simp)) (q d (by simp)),W _ _ c,W _ _ d⟩,i.no,i.s.congr (fun j t=>W _ _ t) (fun j t=>k3 j (by rw [t];exact fun e=>by cases e)) (fun j t=>q t (by simp)),k3⟩,aa.congr (Zag k6.upd ag fun u=>u (nn _ (by omega) ag)) (Zag k6.upd ah fun u=>u (nn _ (by omega) ah)),⟨n7 _ (by omega) ag,n7 _ (by omega) ah⟩,?_⟩
    exact g1.trans (k6.up aj)
  refine Zg (rP (Zb i.c rfl) (ZyK i.l I (fun aI A O7 l7 O E=>?_) fun g tl hg heq A O7 l7 O E=>?_))
  ·obtain ⟨r,P,a2,a3,a4⟩:=step l7 O E
   exact Zc (Za (Zi rfl (hQ _ _ ⟨r,f,m,p,_,P,a2,a3,a4,fun k=>(D k).symm,I,by rw [if_neg aI]⟩)))
  ·subst hg
   obtain ⟨r,P,a2,a3,a4⟩:=step l7 O E;refine Zc (Za (Zl rfl (Zg (rM (Zb P.c rfl) (P.m.del g fun h8 m8 u8 z8=>?_)))));have J:∀ j,r j=none->j≠M:=fun j t e=>by rw [e,P.mt] at t;cases t
   refine hQ _ _ ⟨r,_,_,tl,_,P.del m8 u8,a2.congr (Zag u8 (Zp a2.cells) (J _ a3.1)) (Zag u8 a2.mlt (J _ a3.2)),a3,a4.put u8 (fun k G=>by rw [G,P.mt];exact fun e=>by cases e),fun k=>?_,fun u=>I (Aws _ u),by rw [if_pos heq];rfl⟩;obtain ⟨W,k2⟩:=Ayp.1 kd;rw [<- D k,Awr];constructor
   ·rintro ⟨u,h8⟩
    exact u.resolve_left h8
   ·intro u
    exact ⟨.inr u,fun e=>W (e▸u)⟩
theorem ZuG (H:HtS) (at_:Int) (v:ByteArray) (c:Int):∃ (ok:Bool) (e:Int) (Q:HtS),∀ {h:Zf} {i:Nat} {T:Nat->Option HTag} {K:Bool->Int->Zf->Prop},HtR h i T H->(∀ h' T',HtR h' i T' Q->GrT T T' h h'->K ok e h')->Zcb (some ⟨i,0,none⟩) at_ v c K h:=by
  obtain ⟨ok,e,he,a⟩:=Zq3 H at_ v c
  by_cases q:e=0
  case neg =>
    refine ⟨false,e,H,fun {h i T K} hw d=>?_⟩;unfold Zcb ZdQ;exact Za (a hw fun h1 j=>Zc (Za (Zl (by simpa using q) (Za (d h1 T (hw.ext j) (GrO.refl.ext j))))))
  subst q;obtain ⟨hc,R⟩:=he rfl;have hv:=(ZxV R).2.2
  cases ok with
  | false =>
    refine ⟨false,0,{ H with last:=at_ },fun {h i T K} hw d=>?_⟩;unfold Zcb ZdQ;refine Za (a hw fun h1 j=>Zc (Za (Zi rfl ?_)));obtain ⟨r,S,t,kb,f,m,wt,sl,lb,hm⟩:=(hw.ext j).ex;refine Zg (Zbf hm.c (show 0+8<9 by decide) rfl fun G A u U=>Zi rfl (Zc (Za (d G T ⟨⟨r,S,t,kb,f,m,wt,sl,lb,hm.last A u⟩⟩ ?_))));exact (GrO.refl.ext j).put u fun k d=>by rw [d,hm.me];exact fun e=>by cases e
  | true =>
    obtain ⟨p,l,V,n⟩:=ZEa { H with last:=at_ } at_ v hv;let I:HtS:={ p with ws:=Zwd p.ws v (if ZW (p.ws v).last at_=0 then (p.ws v).add (Zf7 p.se) at_ (c,0,0,0,0,0,()) else p.ws v)};refine ⟨true,0,{ I with sk:=I.sk.took at_ c v },fun {h i T K} hw d=>?_⟩;unfold Zcb ZdQ;refine Za (a hw fun h1 j=>Zc (Za (Zi rfl ?_)));obtain ⟨r,S,t,kb,f,m,wt,sl,lb,hm⟩:=(hw.ext j).ex;refine Zg (Zbf hm.c (show 0+8<9 by decide) rfl fun G A u U=>Zl rfl (n ⟨⟨r,S,t,kb,f,m,wt,sl,lb,hm.last A u⟩⟩ fun h3 J B L=>?_));have C:GrT T J h h3:=((GrO.refl.ext j).put u fun k d=>by rw [d,hm.me];exact fun e=>by cases e).trans L;clear L;obtain ⟨r,S,t,kb,f,m,wt,sl,lb,g⟩:=B.ex;obtain ⟨f3,M,t31,t32⟩:=g.w v l;refine Zg (rM (Zb g.c rfl) (g.m.get v ?_));rw [f3];refine ⟨some ⟨(wt v).1,0,none⟩,rfl,ZJ fun h4 W N z4=>?_⟩;have y:=g.ext N;obtain ⟨_,X,_,_⟩:=y.w v l;refine ZlC X (x:=(c,0,0,0,0,0,())) (Rt.used (by omega) (by omega)) (Zj1 W rfl) (fun b i=>?_) fun Y Z O=>?_
    ·simp [Sl.blk] at i
     have b1:=Zp M.cells;have b2:=M.mlt;have b3:sz h3=h3.size:=rfl;omega
    have o:=y.win l Z O
    have g5:GrT T J h Y:=(C.ext N).put O fun k d=>by
      rcases d with e | e
      ·rw [e,t31];exact fun e=>by cases e
      ·rw [e,t32];exact fun e=>by cases e
    refine Zg (rP (Zb o.c rfl) (ZJ fun h6 c6 P z6=>?_));have z:=o.ext P;refine Zxa z.s (x:=c) (by omega) (by omega) c6 (fun h9=>?_) fun h7 O7 D E s7 g7=>?_
    ·have:=o.lw h9
     exact absurd this (Nat.lt_irrefl _)
    obtain ⟨T7,F,g8⟩:=z.sk s7 g7;exact Zc (Za (d h7 T7 ⟨⟨r,S,t,kb,f,m,wt,D,E,F⟩⟩ ((g5.ext P).trans g8)))
end Go.Proofs.YthbfgkphlmlihaaGreat
