/- The states of rules that begin: flows. -/
import Derived.Test.YtonbfpnngkemiaaGreatPa16
set_option linter.unusedVariables false
set_option linter.unusedSimpArgs false
namespace Go.Proofs.YtonbfpnngkemiaaGreat
open Go Go.Fw Go.Js
abbrev ZHP(eb b8 b12:Nat):Int->Int->Zf->(Zf->Prop)->Prop:=λp t25 a Q=>Zc p λk=>  Zc t25 λi=>  Zk (decide (i>=0)) ( ldL a b12 0 λt26=>  ldL a b8 0 λt27=>  Yk t27.ptr t27.len i 2 λl m=>  ldP a l m λt30=>ldP a l (m+1) λt31=>  newC a [.pointer t30,.pointer t31] 162 λq d=>  Zx (Zo d [(b8,0,.slice t27.ptr t27.len t27.cap)])<|Zx (Zo d [(b12,0,.slice t26.ptr t26.len t26.cap)])<|rdS ⟨some ⟨q,0,none⟩,1,1⟩ 2 d λnew=>app 162 2 16 [.pointer none,.pointer none] t26 1 new d λt34 n=>  Zx (Zo n [(b8,0,.slice t27.ptr t27.len t27.cap)])<|st n b12 0 (.slice t34.ptr t34.len t34.cap) λr=>  Q r) ( Ze (some ⟨eb,0,none⟩) λe f=>  ldL a b12 0 λt39=>  ldL a e (f+3) λt40=>  Yk t40.ptr t40.len k 12 λb c=>  ldS a b c λt43=>ldS a b (c+1) λt44=>ldB a b (c+2) λt45=>ldI a b (c+3) .i64 λt46=>ldI a b (c+4) .u8 λt47=>ldS a b (c+5) λt48=>ldI a b (c+6) .u8 λt49=>ldI a b (c+7) .i64 λt50=>ldI a b (c+8) .i64 λt51=>ldB a b (c+9) λt52=>ldI a b (c+10) .i64 λt53=>ldB a b (c+11) λt54=>  ZbF (t43,t44,t45,t46,t47,t48,t49,t50,t51,t52,t53,t54,()) (λt55 h=>Zx (Zo h [(e,f+3,.slice t40.ptr t40.len t40.cap)])<|Zx (Zo h [(b12,0,.slice t39.ptr t39.len t39.cap)])<|newC h [.pointer t55.1,.pointer t55.2.1] 162 λs g=>  Zx (Zo g [(e,f+3,.slice t40.ptr t40.len t40.cap)])<|Zx (Zo g [(b12,0,.slice t39.ptr t39.len t39.cap)])<|rdS ⟨some ⟨s,0,none⟩,1,1⟩ 2 g λj=>app 162 2 16 [.pointer none,.pointer none] t39 1 j g λt59 o=>  Zx (Zo o [(e,f+3,.slice t40.ptr t40.len t40.cap)])<|st o b12 0 (.slice t59.ptr t59.len t59.cap) λt=>  Q t) a)
abbrev mkF(g:Int)(s:Sl):Obj:=.cells [slV s,slV nl,slV nl,iv g].toArray 91 (0,0)
abbrev PF(h:Zf)(T:TgM)(x:ShP×ShS):Prop:=ShR h (hdT T) x.1 x.2
theorem Zys:Zqa PF:=λa k s _=>Znr k s a λ_ _=>id
abbrev ZIH(hA:Zf)(b12:Nat)(g:Int):=ZsV hA b12 (mkF g) 2 (λx:ShP×ShS=>shL x.1) (λx=>hdP x.1) PF
def ZFv(T:TgM)(lo hi:Nat):TgM:=λj=>if lo<=j/\j<hi then some (.p j)else T j
theorem ZAN{T:TgM}{lo hi:Nat}(hT:∀j,T j≠none->j<lo):ZdW T (ZFv T lo hi):=λj a=>if_neg λh=>by have:=hT j a;omega
theorem ZDW{T:TgM}{lo hi j:Nat}(h:ZFv T lo hi j≠none):T j≠none\/(lo<=j/\j<hi):=by
  unfold ZFv at h;split at h
  ·rename_i q;exact .inr q
  ·exact .inl h
theorem ZpK{h:Zf}{O:Nat->Prop}{p:ShP}{x:ShS}(s:ShR h O p x):(hdP p).Nodup/\∀b,b∈hdP p->O b:=by
  obtain⟨n,g⟩:=p;obtain⟨t,o⟩:=x;obtain⟨a,b⟩:=s
  cases t with
  | none=>
    have i:n=none:=a;subst i
    cases o with
    | none=>
      have d:g=none:=b;subst d;exact⟨List.nodup_nil,λb c=>by cases c⟩
    | some w=>
      obtain⟨b2,d,j,k⟩:=b;have f:g=some ⟨b2,0,none⟩:=d;subst f;exact⟨by simp[hdP,ZtS],λb c=>by simp[hdP,ZtS]at c;subst c;exact k⟩
  | some q=>
    obtain⟨b1,i,c1,r⟩:=a;have l:n=some ⟨b1,0,none⟩:=i;subst l
    cases o with
    | none=>
      have d:g=none:=b;subst d;exact⟨by simp[hdP,ZtS],λb c=>by simp[hdP,ZtS]at c;subst c;exact r⟩
    | some w=>
      obtain⟨b2,d,j,k⟩:=b;have f:g=some ⟨b2,0,none⟩:=d;subst f
      have m:b1≠b2:=λe=>by
        subst e;rw[c1]at j;simp[pcL,wmL]at j
      exact ⟨by simpa[hdP,ZtS]using m,λb c=>by
        simp[hdP,ZtS]at c
        rcases c with rfl|rfl
        ·exact r
        ·exact k⟩
section
variable{hA hh:Zf}{eb sb tb fm b8 b12 m:Nat}{G:GS}{z:Rw.VTR}{f1 b1 h1 s:Sl}{g0 g k:Int}{T T':TgM}{old done:List (ShP×ShS)}{KL:List Int}{A:List FlowP}{f:FlowP}
theorem ZOK
    (ce:obj hA eb=some (geO G sb tb fm z f1 b1 h1)) (c8:obj hA b8=some (.cells [slV f1,slV b1,slV h1,iv g0].toArray 91 (0,0))) (n8:b8≠b12) (ne:eb≠b12) (hb:b12<sz hA) (hT:∀j,T j≠none->j<sz hA) (ho:(old.flatMap λx=>hdP x.1).Nodup) (J:∀b,b∈(old.flatMap λx=>hdP x.1)->b<sz hA)
    (hK:∀{i j k:Nat},KL[i]?=some (k:Int)->KL[j]?=some (k:Int)->i=j) (ar:KL.length<=256) (hk:KL[m]?=some k) (R:k= -1\/∃(j:Nat) (x:ShP×ShS),k=(j:Int)/\old[j]?=some x)
    (hz:Row hA z.1 12 (A.flatMap Rw.ZcR)) (S:z.1.len≠0->z.1.blk≠some b12) (U:Row hA f1 2 (old.flatMap λx=>shL x.1)) (V:f1.len≠0->f1.blk≠some b12) (X:∀(i:Nat) x,old[i]?=some x->PF hA T x) (he:f.err=0) (hf:A[m]?=some f)
    (I:ZIH hA b12 g old T KL m hh s done T') {Q:Zf->Prop} (hQ:∀h' s' x T'',ZIH hA b12 g old T KL (m+1) h' s' (done++[x]) T''->x.2=Zk2 ShS.new (old.map (·.2)) k f->Q h'):ZHP eb b8 b12 m k hh Q:=by
  have w0:sz hA<=sz hh:=I.u.size;have ml:m<KL.length:=ZbP hk;have sl:s.len=m:=by have:=Y2 (g:=λx:ShP×ShS=>shL x.1) (λ_=>rfl) I.o.row (by decide);rw[I.l]at this;exact this
  have y:=Y0 ce I.u ne;have C:=Y0 c8 I.u n8
  have fin:∀{h1 d:Zf} {p:ShP} {x:ShS} {T'':TgM},Upd (· = b12) hh h1->Ext h1 d->Sel (λx:ShP×ShS=>hdP x.1) old KL (sz hA) (sz h1) (done++[(p,x)])->ZdW T' T''->(∀j,T'' j≠none->T' j≠none\/(sz hh<=j/\j<sz h1))->(∀b,s.blk=some b->T'' b=none)->T'' b12=none->PF h1 T'' (p,x)->x=Zk2 ShS.new (old.map (·.2)) k f->sz d=sz h1+1->obj d b12=some (mkF g s)->
      ∀{W:Sl->Zf->Prop},(∀s' h3,(∀{vs},obj d b8=some vs->obj h3 b8=some vs)->(∀{vs},obj d eb=some vs->obj h3 eb=some vs)->st h3 b12 0 (.slice s'.ptr s'.len s'.cap) Q->W s' h3)->app 162 2 16 [.pointer none,.pointer none] s 1 (shL p) d W:=λ{h1 d p x T''} Y h K sub new nb Z D hp P L {W} hW=>by
    have w1:sz hh<=sz h1:=Y.size;have o2:Own d (sz hA) s 2 (done.flatMap λx=>shL x.1):=(I.o.congr (h':=h1) λb q E aa=>Y.old b E (by have:sz hA<=b:=aa;show ¬b=b12;omega)).congr λb q E _=>h.old b E;refine o2.app (n:=1) rfl rfl rfl (by omega) (by omega) (by show sz hA<=sz d;omega) λs' h3 o3 l3 u3 b3=>?_;have keep:∀{j:Nat} {vs:Obj},j<sz hA->obj d j=some vs->obj h3 j=some vs:=λ{j vs} r hv=>(u3.old j (Zp hv) λe=>by have:=(I.o.lt e).1;omega).trans hv;refine hW s' h3 (λhv=>keep (Zp c8) hv) (λhv=>keep (Zp ce) hv) (ZcS (keep hb L) (show 0<4 by decide) rfl λh4 c4 u4 z4=>hQ h4 s' (p,x) T'' ?_ hp);have w2:sz h1<=sz d:=h.size;refine(show ZIH hA b12 g old T KL (m+1) h4 s' (done++[(p,x)]) T'' from ?_);refine ZsV.add (h1:=d) I Zys hT hb (Y.trans (h.upd _)) o3 u3 c4 u4 (b3.imp id id) (K.top w2) sub (λj r=>(new j r).imp id λh9=>⟨h9.1,by omega⟩) nb Z (Znr (x:=x) (λj t ht _=>h.old j ?_) (ZdW.refl T'') D λ_ _=>id)
    rcases new j (XI ht)with w|w
    ·rcases I.new j w with w|w
     ·have:=hT j w;show j<sz h1;omega
     ·show j<sz h1;omega
    ·exact w.2
  refine Za (Za ?_)
  rcases R with F|⟨j,x,F,D⟩
  ·subst F;obtain⟨bb,oo,_,_,v,a⟩:=Zab Zgw (ZcU hz S I.u) hf (by decide);refine Zh rfl (Zi (rL (s:=s) (Zb I.c rfl) (rL (s:=z.1) (Zb y rfl) (v rfl (rS (a 0 _ rfl) (rS (a 1 _ rfl) (rB (a 2 _ rfl) (rI (a 3 _ rfl) (rI (a 4 _ rfl) (rS (a 5 _ rfl) (rI (a 6 _ rfl) (rI (a 7 _ rfl) (rI (a 8 _ rfl) (rB (a 9 _ rfl) (rI (a 10 _ rfl) (rB (a 11 _ rfl) (Zty he λh1 p O H hO M=>?_)))))))))))))))));have w1:sz hh<=sz h1:=M.size;refine⟨Yj (Zb (Zj y M) rfl),Yj (Zb (Zj I.c M) rfl),ZF λd L h P=>?_⟩;have B:=M.trans h
   have af:∀j,T' j≠none->j<sz hh:=λj r=>by
     rcases I.new j r with w|w
     ·have:=hT j w;omega
     ·exact w.2
   obtain⟨nd,ag⟩:=ZpK H;refine⟨Yj (Zb (Zj y B) rfl),Yj (Zb (Zj I.c B) rfl),(ZkO L rfl).rd ?_⟩;refine fin (p:=p) (x:=ShS.new f) (T'':=ZFv T' (sz hh) (sz h1)) (M.upd _) h (I.sel.new J (by show sz hA<=sz hh;exact w0) w1 nd λb q=>hO b (ag b q)) (ZAN af) (λj r=>ZDW r) (λb q=>?_) ?_ ⟨H.1.congr (λj r hl=>?_) (λ_ _ _=>rfl),H.2.congr (λj r hl=>?_) (λ_ _ _=>rfl)⟩ ?_ P (Zj I.c B) λs' h3 k1 k2 hs=>⟨Yj (Zb (k2 (Zj y B)) rfl),hs⟩
   ·have h9:=(I.o.lt q).2;have:b<sz hh:=h9;unfold ZFv;rw[if_neg (by omega)];exact I.sb b q
   ·unfold ZFv;rw[if_neg (by omega)];exact I.b
   ·exact if_pos (hO j r)
   ·exact if_pos (hO j r)
   ·unfold Zk2;rw[if_neg (by decide)]
  ·subst F;have N:=ZcU U V I.u;obtain⟨bb,oo,_,_,v,a⟩:=Zab (g:=λx:ShP×ShS=>shL x.1) (n:=2) (λ_=>rfl) N D (by decide);refine Zm (by simp) (rL (s:=s) (Zb I.c rfl) (rL (s:=f1) (Zb C rfl) (v rfl (rP (a 0 _ rfl) (rP (a 1 _ rfl) (ZF λd L h P=>⟨Yj (Zb (Zj C h) rfl),Yj (Zb (Zj I.c h) rfl),(ZkO L rfl).rd ?_⟩))))));refine fin (p:=x.1) (x:=x.2) (T'':=T') (Upd.refl _ _) h (I.sel.keep ho J hK (by rw[I.l];exact hk) D) (ZdW.refl T') (λj r=>.inl r) I.sb I.b (ZsV.keepOld I Zys hT D (X j x D)) ?_ P (Zj I.c h) λs' h3 k1 k2 hs=>⟨Yj (Zb (k1 (Zj C h)) rfl),hs⟩;unfold Zk2;rw[if_pos (by omega),Aqu,Awy,D];rfl
end
abbrev ZHQ(eb b8 b12:Nat):Int->Int->Zf->(Zf->Prop)->Prop:=λp t74 a Q=>Zc p λq=>Zc t74 λi76=>Zk (decide (i76>=0)) ( ldL a b12 (0+1) λt77=>ldL a b8 (0+1) λt78=>Yk t78.ptr t78.len i76 2 λj k=>ldP a j k λt81=>ldI a j (k+1) .i64 λt82=>newC a [.pointer t81,iv t82] 123 λr e=>Zx (Zo e [(b8,0+1,.slice t78.ptr t78.len t78.cap)])<|Zx (Zo e [(b12,0+1,.slice t77.ptr t77.len t77.cap)])<|rdS ⟨some ⟨r,0,none⟩,1,1⟩ 2 e λi=>app 123 2 16 [.pointer none,iv 0] t77 1 i e λt85 l=>Zx (Zo l [(b8,0+1,.slice t78.ptr t78.len t78.cap)])<|st l b12 (0+1) (.slice t85.ptr t85.len t85.cap) λs=>Q s) ( Ze (some ⟨eb,0,none⟩) λt u=>ldL a t (u+3+1) λt91=>Yk t91.ptr t91.len q 7 λb c=>ldS a b c λt94=>ldI a b (c+1) .u8 λt95=>ldI a b (c+2) .i64 λt96=>ldI a b (c+3) .i64 λt97=>ldI a b (c+4) .i64 λt98=>ldI a b (c+5) .i64 λt99=>ldI a b (c+6) .i64 λt100=>Ze6 (t94,t95,t96,t97,t98,t99,t100,()) (λt101 t102 g=>Zc t102 λx=>ldI g b12 (0+3) .i64 λt104=>st g b12 (0+3) (iv (IntKind.wrap .i64 (t104+1))) λd=>ldL d b12 (0+1) λt106=>ldI d b12 (0+3) .i64 λt107=>newC d [.pointer t101,iv t107] 123 λm h=>rdS ⟨some ⟨m,0,none⟩,1,1⟩ 2 h λf=>app 123 2 16 [.pointer none,iv 0] t106 1 f h λt110 n=>st n b12 (0+1) (.slice t110.ptr t110.len t110.cap) λo=>Q o) a)
abbrev mkB(f:Sl)(g:Int)(s:Sl):Obj:=.cells [slV f,slV s,slV nl,iv g].toArray 91 (0,0)
abbrev PB(h:Zf)(T:TgM)(x:Nat×BkW):Prop:=BrP h T x.1 x.2
theorem Zyt:Zqa PB:=λa k s _=>Zot k s a id
abbrev ZII(hA:Zf)(b12:Nat)(f:Sl)(g:Int):=ZsV hA b12 (mkB f g) 2 (λx:Nat×BkW=>bkL x.1 x.2.2) (λx=>[x.1]) PB
theorem ZFa{f:YK}(he:f.err=0):WOK (bkZ f):=by
  unfold YK.err at he;split at he
  ·split at he
   ·rename_i _ a;unfold YK.good Js.inJ at a;simp only[Awn,decide_eq_true_eq]at a;exact a.1.2.2
   ·cases he
  ·cases he
section
variable{hA hh:Zf}{eb sb tb fm b8 b12 m:Nat}{G:GS}{z:Rw.VTR}{f1 b1 h1 s fx:Sl}{g0 g k:Int}{T T':TgM}{old done:List (Nat×BkW)}{KL:List Int}{A:List YK}{f:YK}
theorem ZOL
    (ce:obj hA eb=some (geO G sb tb fm z f1 b1 h1)) (c8:obj hA b8=some (.cells [slV f1,slV b1,slV h1,iv g0].toArray 91 (0,0))) (n8:b8≠b12) (ne:eb≠b12) (hb:b12<sz hA) (hT:∀j,T j≠none->j<sz hA) (ho:(old.flatMap λx=>[x.1]).Nodup) (L:∀b,b∈(old.flatMap λx=>[x.1])->b<sz hA)
    (hK:∀{i j k:Nat},KL[i]?=some (k:Int)->KL[j]?=some (k:Int)->i=j) (ay:KL.length<=256) (hk:KL[m]?=some k) (X:k= -1\/∃(j:Nat) (x:Nat×BkW),k=(j:Int)/\old[j]?=some x)
    (hz:Row hA z.2.1 7 (A.flatMap Rw.ZbN)) (Y:z.2.1.len≠0->z.2.1.blk≠some b12) (Z:Row hA b1 2 (old.flatMap λx=>bkL x.1 x.2.2)) (aa:b1.len≠0->b1.blk≠some b12) (ab:∀(i:Nat) x,old[i]?=some x->PB hA T x) (he:f.err=0) (hl:f.res.length<9223372036854775807) (hf:A[m]?=some f)
    (I:ZII hA b12 fx g old T KL m hh s done T') {Q:Zf->Prop} (hQ:∀h' s' x g' T'',ZII hA b12 fx g' old T KL (m+1) h' s' (done++[x]) T''->(∀C E,ZlY (old.map (·.2)) (k::C) (f::E) g=(x.2::(ZlY (old.map (·.2)) C E g').1,(ZlY (old.map (·.2)) C E g').2))->Q h'):ZHQ eb b8 b12 m k hh Q:=by
  have w0:sz hA<=sz hh:=I.u.size;have ml:m<KL.length:=ZbP hk;have sl:s.len=m:=by have:=Y2 (g:=λx:Nat×BkW=>bkL x.1 x.2.2) (λ_=>rfl) I.o.row (by decide);rw[I.l]at this;exact this
  have ae:=Y0 ce I.u ne;have F:=Y0 c8 I.u n8
  have fin:∀{h1 a:Zf} {x:Nat×BkW} {g':Int} {T'':TgM},Upd (· = b12) hh h1->Ext h1 a->Sel (λx:Nat×BkW=>[x.1]) old KL (sz hA) (sz h1) (done++[x])->ZdW T' T''->(∀j,T'' j≠none->T' j≠none\/(sz hh<=j/\j<sz h1))->(∀b,s.blk=some b->T'' b=none)->T'' b12=none->PB h1 T'' x->(∀C E,ZlY (old.map (·.2)) (k::C) (f::E) g=(x.2::(ZlY (old.map (·.2)) C E g').1,(ZlY (old.map (·.2)) C E g').2))->sz a=sz h1+1->obj a b12=some (mkB fx g' s)->
      ∀{W:Sl->Zf->Prop},(∀s' h3,(∀{vs},obj a b8=some vs->obj h3 b8=some vs)->st h3 b12 (0+1) (.slice s'.ptr s'.len s'.cap) Q->W s' h3)->app 123 2 16 [.pointer none,iv 0] s 1 (bkL x.1 x.2.2) a W:=λ{h1 a x g' T''} u1 w M sub new nb ag H hp R J {W} hW=>by
    have w1:sz hh<=sz h1:=u1.size;have o2:Own a (sz hA) s 2 (done.flatMap λx=>bkL x.1 x.2.2):=(I.o.congr (h':=h1) λb d q ah=>u1.old b q (by have:sz hA<=b:=ah;show ¬b=b12;omega)).congr λb d q _=>w.old b q;refine o2.app (n:=1) rfl rfl rfl (by omega) (by omega) (by show sz hA<=sz a;omega) λs' h3 o3 l3 u3 b3=>?_;have keep:∀{j:Nat} {vs:Obj},j<sz hA->obj a j=some vs->obj h3 j=some vs:=λ{j vs} h hv=>(u3.old j (Zp hv) λe=>by have:=(I.o.lt e).1;omega).trans hv;refine hW s' h3 (λhv=>keep (Zp c8) hv) (ZcS (keep hb J) (show 0+1<4 by decide) rfl λh4 c4 u4 z4=>hQ h4 s' x g' T'' ?_ hp);have w2:sz h1<=sz a:=w.size;refine(show ZII hA b12 fx g' old T KL (m+1) h4 s' (done++[x]) T'' from ?_);refine ZsV.add (h1:=a) I Zyt hT hb (u1.trans (w.upd _)) o3 u3 c4 u4 (b3.imp id id) (M.top w2) sub (λj h=>(new j h).imp id λS=>⟨S.1,by omega⟩) nb ag (Zot (D:=λ_=>False) (λj t ht _=>w.old j ?_) (ZdW.refl T'') H id)
    rcases new j (XI ht)with y|y
    ·rcases I.new j y with y|y
     ·have:=hT j y;show j<sz h1;omega
     ·show j<sz h1;omega
    ·exact y.2
  refine Za (Za ?_)
  rcases X with K|⟨j,x,K,H⟩
  ·subst K;obtain⟨U,oo,_,_,v,B⟩:=Zab (g:=Rw.ZbN) (n:=7) (λ_=>rfl) (ZcU hz Y I.u) hf (by decide);have hw:=ZFa he;refine Zh rfl (Zi (rL (s:=z.2.1) (Zb ae rfl) (v rfl (rS (B 0 _ rfl) (rI (B 1 _ rfl) (rI (B 2 _ rfl) (rI (B 3 _ rfl) (rI (B 4 _ rfl) (rI (B 5 _ rfl) (rI (B 6 _ rfl) (Zze (r:=bkZ f) hw (λS K9 aj=>Rw.ZlS (f:=f) hl λh8 e8=>by rw[he];exact aj h8 e8) λh1 U O N V hO=>?_)))))))))));have w1:sz hh<=sz h1:=V.size;have bR:=N.ex;obtain⟨wb,mb,cb,_,ob,_,_⟩:=bR
   have al:∀j,T' j≠none->j<sz hh:=λj h=>by
     rcases I.new j h with y|y
     ·have:=hT j y;omega
     ·exact y.2
   refine Za (rI (Zb (Zj I.c V) rfl) (ZcS (Zj I.c V) (show 0+3<4 by decide) rfl λa J u2 R=>rL (s:=s) (Zb J rfl) (rI (Zb J rfl) (ZF λh3 c3 e3 z3=>(ZkO c3 rfl).rd ?_))));have s2:sz a=sz h1:=R;refine fin (x:=(U,⟨⟨bkZ f,1,0,0,0,⟨0,λ_=>Go.Proofs.YtonbfpnngkemiaaGreat.z6⟩⟩,hw⟩,IntKind.wrap .i64 (g+1))) (T'':=Zjv T' (.p U) (sz hh) (sz h1)) (g':=IntKind.wrap .i64 (g+1)) ((V.upd _).trans u2) e3 ((I.sel.new L (by show sz hA<=sz hh;exact w0) w1 (by simp) λb d=>by simp at d;subst d;exact hO _ ob).top (by omega)) (ZhO al) (λj h=>?_) (λb d=>?_) ?_ ?_ ?_ z3 (Zj J e3) λs' h4 k1 hs=>hs
   ·unfold Zjv at h;split at h
    ·exact .inr (by omega)
    ·exact .inl h
   ·have S:=(I.o.lt d).2;have:b<sz hh:=S;unfold Zjv;rw[if_neg (by omega)];exact I.sb b d
   ·unfold Zjv;rw[if_neg (by omega)];exact I.b
   ·refine(N.congr (h':=a) λj h q=>u2.old j q (by have:=hO j h;show ¬j=b12;omega)).mono λj h=>ZiM (hO j h)
   ·intro C E;rw[ZAT (by decide)];unfold BkW.new;rw[dif_pos hw]
  ·subst K;have P:=ZcU Z aa I.u;obtain⟨U,oo,_,_,v,B⟩:=Zab (g:=λx:Nat×BkW=>bkL x.1 x.2.2) (n:=2) (λ_=>rfl) P H (by decide);refine Zm (by simp) (rL (s:=s) (Zb I.c rfl) (rL (s:=b1) (Zb F rfl) (v rfl (rP (B 0 _ rfl) (rI (B 1 _ rfl) (ZF λa J w R=>⟨Yj (Zb (Zj F w) rfl),Yj (Zb (Zj I.c w) rfl),(ZkO J rfl).rd ?_⟩))))));refine fin (x:=x) (g':=g) (T'':=T') (Upd.refl _ _) w (I.sel.keep ho L hK (by rw[I.l];exact hk) H) (ZdW.refl T') (λj h=>.inl h) I.sb I.b (ZsV.keepOld I Zyt hT H (ab j x H)) (λC E=>?_) R (Zj I.c w) λs' h3 k1 hs=>⟨Yj (Zb (k1 (Zj F w)) rfl),hs⟩;rw[Zxs (by omega),Aqu,Awy,H];rfl
end
abbrev ZHO(eb b8 b12:Nat):Int->Int->Zf->(Zf->Prop)->Prop:=λl t125 a Q=>Zc l λm=>Zc t125 λi127=>Zk (decide (i127>=0)) ( ldL a b12 (0+2) λt128=>ldL a b8 (0+2) λt129=>Yk t129.ptr t129.len i127 1 λn o=>ldP a n o λt132=>newC a [.pointer t132] 166 λp d=>Zx (Zo d [(b8,0+2,.slice t129.ptr t129.len t129.cap)])<|Zx (Zo d [(b12,0+2,.slice t128.ptr t128.len t128.cap)])<|rdS ⟨some ⟨p,0,none⟩,1,1⟩ 1 d λf=>app 166 1 8 [.pointer none] t128 1 f d λt135 h=>Zx (Zo h [(b8,0+2,.slice t129.ptr t129.len t129.cap)])<|st h b12 (0+2) (.slice t135.ptr t135.len t135.cap) λq=>Q q) ( Ze (some ⟨eb,0,none⟩) λi j=>Ze (some ⟨eb,0,none⟩) λr s=>Ze (some ⟨eb,0,none⟩) λt u=>ldL a i (j+3+2) λt145=>Yk t145.ptr t145.len m 5 λb c=>ldS a b c λt148=>ldI a b (c+1) .i64 λt149=>ldI a b (c+2) .i64 λt150=>ldI a b (c+3) .i64 λt151=>ldL a b (c+4) λt152=>ldI a r s .i64 λt153=>ldI a t (u+1) .u64 λt154=>Zj4 (t148,t149,t150,t151,t152,()) t153 t154 (λt155 t156 e=>Zx (Zo e [(i,j+3+2,.slice t145.ptr t145.len t145.cap)])<|Zc t156 λy=>ldL e b12 (0+2) λt159=>newC e [.pointer t155] 166 λv k=>rdS ⟨some ⟨v,0,none⟩,1,1⟩ 1 k λg=>app 166 1 8 [.pointer none] t159 1 g k λt162 w=>st w b12 (0+2) (.slice t162.ptr t162.len t162.cap) λx=>Q x) a)
abbrev mkH(f b:Sl)(g:Int)(s:Sl):Obj:=.cells [slV f,slV b,slV s,iv g].toArray 91 (0,0)
abbrev PH(h:Zf)(T:TgM)(x:Nat×HtS):Prop:=HoP h T x.1 x.2
theorem Zyr:Zqa PH:=λa k s hz=>Zn8 k s hz a id
abbrev ZIG(hA:Zf)(b12:Nat)(f b:Sl)(g:Int):=ZsV hA b12 (mkH f b g) 1 (λx:Nat×HtS=>[pN x.1]) (λx=>[x.1]) PH
section
variable{hA hh:Zf}{eb sb tb fm b8 b12 m:Nat}{G:GS}{z:Rw.VTR}{f1 b1 h1 s fx bx:Sl}{g0 g k:Int}{T T':TgM}{old done:List (Nat×HtS)}{KL:List Int}{A:List (Sl×ZdX)}{f:Sl×ZdX}
theorem ZOJ
    (ce:obj hA eb=some (geO G sb tb fm z f1 b1 h1)) (c8:obj hA b8=some (.cells [slV f1,slV b1,slV h1,iv g0].toArray 91 (0,0))) (n8:b8≠b12) (ne:eb≠b12) (hb:b12<sz hA) (hT:∀j,T j≠none->j<sz hA) (ho:(old.flatMap λx=>[x.1]).Nodup) (K:∀b,b∈(old.flatMap λx=>[x.1])->b<sz hA)
    (hK:∀{i j k:Nat},KL[i]?=some (k:Int)->KL[j]?=some (k:Int)->i=j) (aA:KL.length<=256) (hk:KL[m]?=some k) (U:k= -1\/∃(j:Nat) (x:Nat×HtS),k=(j:Int)/\old[j]?=some x)
    (hz:Row hA z.2.2.1 5 (A.flatMap Rw.ZjI)) (V:z.2.2.1.len≠0->z.2.2.1.blk≠some b12) (hi:Row hA f.1 2 (Rw.Zds f.2.items)) (X:f.1.len≠0->f.1.blk≠some b12) (Y:Row hA h1 1 (old.flatMap λx=>[pN x.1])) (Z:h1.len≠0->h1.blk≠some b12) (aa:∀(i:Nat) x,old[i]?=some x->PH hA T x) (he:f.2.err=0) (hl:f.2.res.length<9223372036854775807) (hm:1<=G.keys/\G.keys<=4096) (hf:A[m]?=some f)
    (I:ZIG hA b12 fx bx g old T KL m hh s done T') {Q:Zf->Prop} (hQ:∀h' s' x T'',ZIG hA b12 fx bx g old T KL (m+1) h' s' (done++[x]) T''->x.2=Zk2 (λf:ZdX=>HtS.new f G.keys G.seed) (old.map (·.2)) k f.2->Q h'):ZHO eb b8 b12 m k hh Q:=by
  have w0:sz hA<=sz hh:=I.u.size;have ml:m<KL.length:=ZbP hk;have sl:s.len=m:=by have:=Y2 (g:=λx:Nat×HtS=>[pN x.1]) (λ_=>rfl) I.o.row (by decide);rw[I.l]at this;exact this
  have w:=Y0 ce I.u ne;have y:=Y0 c8 I.u n8
  have fin:∀{h1 h:Zf} {x:Nat×HtS} {T'':TgM},Upd (· = b12) hh h1->Ext h1 h->Sel (λx:Nat×HtS=>[x.1]) old KL (sz hA) (sz h1) (done++[x])->ZdW T' T''->(∀j,T'' j≠none->T' j≠none\/(sz hh<=j/\j<sz h1))->(∀b,s.blk=some b->T'' b=none)->T'' b12=none->PH h1 T'' x->x.2=Zk2 (λf:ZdX=>HtS.new f G.keys G.seed) (old.map (·.2)) k f.2->sz h=sz h1+1->obj h b12=some (mkH fx bx g s)->
      ∀{W:Sl->Zf->Prop},(∀s' h3,(∀{vs},obj h b8=some vs->obj h3 b8=some vs)->st h3 b12 (0+2) (.slice s'.ptr s'.len s'.cap) Q->W s' h3)->app 166 1 8 [.pointer none] s 1 [pN x.1] h W:=λ{h1 h x T''} u1 r L sub new nb ae B hp z2 c2 {W} hW=>by
    have w1:sz hh<=sz h1:=u1.size;have o2:Own h (sz hA) s 1 (done.flatMap λx=>[pN x.1]):=(I.o.congr (h':=h1) λb a C ag=>u1.old b C (by have:sz hA<=b:=ag;show ¬b=b12;omega)).congr λb a C _=>r.old b C;refine o2.app (n:=1) rfl rfl rfl (by omega) (by omega) (by show sz hA<=sz h;omega) λs' h3 o3 l3 u3 b3=>?_;have keep:∀{j:Nat} {vs:Obj},j<sz hA->obj h j=some vs->obj h3 j=some vs:=λ{j vs} d hv=>(u3.old j (Zp hv) λe=>by have:=(I.o.lt e).1;omega).trans hv;refine hW s' h3 (λhv=>keep (Zp c8) hv) (ZcS (keep hb c2) (show 0+2<4 by decide) rfl λh4 c4 u4 z4=>hQ h4 s' x T'' ?_ hp);have w2:sz h1<=sz h:=r.size;refine(show ZIG hA b12 fx bx g old T KL (m+1) h4 s' (done++[x]) T'' from ?_);refine ZsV.add (h1:=h) I Zyr hT hb (u1.trans (r.upd _)) o3 u3 c4 u4 (b3.imp id id) (L.top w2) sub (λj d=>(new j d).imp id λh9=>⟨h9.1,by omega⟩) nb ae (Zn8 (D:=λ_=>False) (λj t ht _=>r.old j ?_) (ZdW.refl T'') w2 B id)
    rcases new j (XI ht)with v|v
    ·rcases I.new j v with v|v
     ·have:=hT j v;show j<sz h1;omega
     ·show j<sz h1;omega
    ·exact v.2
  refine Za (Za ?_)
  rcases U with E|⟨j,x,E,B⟩
  ·subst E;obtain⟨M,oo,_,_,q,F⟩:=Zab (g:=Rw.ZjI) (n:=5) (λ_=>rfl) (ZcU hz V I.u) hf (by decide);refine Zh rfl (Zi (Zi (Zi (rL (s:=z.2.2.1) (Zb w rfl) (q rfl (rS (F 0 _ rfl) (rI (F 1 _ rfl) (rI (F 2 _ rfl) (rI (F 3 _ rfl) (rL (s:=f.1) (F 4 _ rfl) (rI (Zb w rfl) (rI (Zb w rfl) (Zzd he hl hm (ZcU hi X I.u) λh1 M Th H hO N=>?_)))))))))))));have w1:sz hh<=sz h1:=N.size
   have O:∀j,Th j≠none->j<sz h1:=λj d=>by
     obtain⟨si,S,wm,kb,f9,n9,wt,ak,lb,J⟩:=H.ex;exact J.lt j d
   have P:Th M≠none:=by
     obtain⟨si,S,wm,kb,f9,n9,wt,ak,lb,J⟩:=H.ex;rw[J.me];exact λe=>by cases e
   have al:∀j,T' j≠none->j<sz hh:=λj d=>by
     rcases I.new j d with v|v
     ·have:=hT j v;omega
     ·exact v.2
   refine⟨Yj (Zb (Zj w N) rfl),Za (rL (s:=s) (Zb (Zj I.c N) rfl) (ZF λh3 c3 e3 z3=>(ZkO c3 rfl).rd ?_))⟩;refine fin (x:=(M,HtS.new f.2 G.keys G.seed)) (T'':=Zjv T' (.p M) (sz hh) (sz h1)) (N.upd _) e3 (I.sel.new K (by show sz hA<=sz hh;exact w0) w1 (by simp) λb a=>by simp at a;subst a;exact⟨hO _ P,O _ P⟩) (ZhO al) (λj d=>?_) (λb a=>?_) ?_ ⟨Th,H,λj d=>ZiM ⟨hO j d,O j d⟩⟩ ?_ z3 (Zj (Zj I.c N) e3) λs' h4 k1 hs=>hs
   ·unfold Zjv at d;split at d
    ·exact .inr (by omega)
    ·exact .inl d
   ·have h9:=(I.o.lt a).2;have:b<sz hh:=h9;unfold Zjv;rw[if_neg (by omega)];exact I.sb b a
   ·unfold Zjv;rw[if_neg (by omega)];exact I.b
   ·unfold Zk2;rw[if_neg (by decide)]
  ·subst E;have R:=ZcU Y Z I.u;obtain⟨M,oo,_,_,q,F⟩:=Zab (g:=λx:Nat×HtS=>[pN x.1]) (n:=1) (λ_=>rfl) R B (by decide);refine Zm (by simp) (rL (s:=s) (Zb I.c rfl) (rL (s:=h1) (Zb y rfl) (q rfl (rP (F 0 _ rfl) (ZF λh c2 r z2=>⟨Yj (Zb (Zj y r) rfl),Yj (Zb (Zj I.c r) rfl),(ZkO c2 rfl).rd ?_⟩)))));refine fin (x:=x) (T'':=T') (Upd.refl _ _) r (I.sel.keep ho K hK (by rw[I.l];exact hk) B) (ZdW.refl T') (λj d=>.inl d) I.sb I.b (ZsV.keepOld I Zyr hT B (aa j x B)) ?_ z2 (Zj I.c r) λs' h3 k1 hs=>⟨Yj (Zb (k1 (Zj y r)) rfl),hs⟩;unfold Zk2;rw[if_pos (by omega),Aqu,Awy,B];rfl
end
theorem ZsV.fin{σ:Type}{a d h:Zf}{c b2:Nat}{mk:Sl->Obj}{n:Nat}{q:σ->List Value}{hd:σ->List Nat}{P:Zf->TgM->σ->Prop}{old:List σ}{T T1 T':TgM}{KL:List Int}{m:Nat}{s:Sl}{done:List σ}(I:ZsV a c mk n q hd P old T KL m d s done T1)(r:Zqa P)(hT:∀j,T j≠none->j<sz a)(U:Upd (λj=>j=c\/j=b2) d h)(A:c<sz a)(v:b2<sz a)(y:T b2=none)(sub:ZdW T1 T'):
    Row h s n (done.flatMap q)/\(∀(i:Nat) x,done[i]?=some x->P h T' x)/\∀b,s.blk=some b->sz a<=b/\b<sz d:=by
  have w:=I.u.size;refine⟨(I.o.congr (h':=h) λb f l p=>U.old b l λe=>?_).row,λi x z=>r (I.e i x z) (λj t k _=>U.old j ?_ λe=>?_) sub U.size,λb f=>I.o.lt f⟩
  ·have:sz a<=b:=p
   rcases e with e|e<;>omega
  ·rcases I.new j (XI k)with g|g
   ·have:=hT j g;show j<sz d;have:sz a<=sz d:=w;omega
   ·exact g.2
  ·rcases e with e|e
   ·rw[e,I.b]at k;cases k
   ·rcases I.new j (XI k)with g|g
    ·rw[e]at g;exact g y
    ·omega
def tagS(T:TgM)(s:Sl):TgM:=λj=>if s.blk=some j then some .ro else T j
theorem ZiK{T:TgM}{s:Sl}(h:∀b,s.blk=some b->T b=none):ZdW T (tagS T s):=λj a=>if_neg λe=>a (h j e)
theorem Zqu{T:TgM}{s:Sl}:Rw.inS (roT (tagS T s)) s:=λ_ b a=>if_pos a
theorem ZiL{T:TgM}{s:Sl}{j:Nat}(h:tagS T s j≠none):T j≠none\/s.blk=some j:=by
  unfold tagS at h;split at h
  ·rename_i q;exact .inr q
  ·exact .inl h
theorem Zn3{h:Zf}{a b:Nat}{kt:Sl}{l:List Int}{c:Zf}(o:Own h a kt 1 (l.map iv))(d:b<a)(u:Upd (· = b) h c):Row c kt 1 (l.map iv):=(ZmG o u d).row
theorem ZnC{h:Zf}{T:TgM}{x:Sl}{b:Nat}(o:Rw.inS (roT T) x)(a:T b=none):x.len≠0->x.blk≠some b:=λhl e=>by
  have:=o hl b e;rw[show T b=some .ro from this]at a;cases a
theorem ZEr{α σ:Type}{same:α->α->Bool}{a now:List α}{old:List σ}(hl:old.length=a.length){i:Nat}{k:Int}(c:(ZfN same a now (List.replicate a.length false))[i]?=some k):k= -1\/∃(j:Nat) (x:σ),k=(j:Int)/\old[j]?=some x:=by
  rcases Zm5 (by simp) c with e|⟨j,w,b,h1,d,_⟩
  ·exact .inl e
  ·refine .inr ⟨j,?_⟩;have:=ZbP d;exact⟨_,h1,Axy (show j<old.length by omega)⟩
def hd3(fs:List (ShP×ShS))(bs:List (Nat×BkW))(hs:List (Nat×HtS)):List Nat:=fs.flatMap (λx=>hdP x.1)++(bs.flatMap (λx=>[x.1])++hs.flatMap (λx=>[x.1]))
theorem ZHC{fs:List (ShP×ShS)}{bs:List (Nat×BkW)}{hs:List (Nat×HtS)}(h:(hd3 fs bs hs).Nodup):(fs.flatMap (λx=>hdP x.1)).Nodup/\(bs.flatMap (λx=>[x.1])).Nodup/\(hs.flatMap (λx=>[x.1])).Nodup/\(∀b,b∈fs.flatMap (λx=>hdP x.1)->b∉bs.flatMap (λx=>[x.1])/\b∉hs.flatMap (λx=>[x.1]))/\∀b,b∈bs.flatMap (λx=>[x.1])->b∉hs.flatMap (λx=>[x.1]):=by unfold hd3 at h;rw[List.nodup_append]at h;obtain⟨f,d,e⟩:=h;rw[List.nodup_append]at d;obtain⟨g,i,j⟩:=d;exact⟨f,g,i,λb c=>⟨λa=>e b c b (Axx.2 (.inl a)) rfl,λa=>e b c b (Axx.2 (.inr a)) rfl⟩,λb c a=>j b c b a rfl⟩
theorem ZHe{fs:List (ShP×ShS)}{bs:List (Nat×BkW)}{hs:List (Nat×HtS)}(h1:(fs.flatMap (λx=>hdP x.1)).Nodup)(g:(bs.flatMap (λx=>[x.1])).Nodup)(h3:(hs.flatMap (λx=>[x.1])).Nodup)(f:∀b,b∈fs.flatMap (λx=>hdP x.1)->b∉bs.flatMap (λx=>[x.1])/\b∉hs.flatMap (λx=>[x.1]))(i:∀b,b∈bs.flatMap (λx=>[x.1])->b∉hs.flatMap (λx=>[x.1])):(hd3 fs bs hs).Nodup:=by
  unfold hd3;rw[List.nodup_append];refine⟨h1,?_,λa c b d e=>?_⟩
  ·rw[List.nodup_append];exact⟨g,h3,λa c b d e=>i a c (e▸d)⟩
  ·subst e
   rcases Axx.1 d with h|h
   ·exact(f a c).1 h
   ·exact(f a c).2 h
theorem Zuj{α:Type}{o:Option α}{t:α}(h:o=some t):o≠none:=by rw[h];exact λe=>by cases e
theorem ZFb{h:Zf}{T:TgM}{L:Lay}{G:GS}{r:RulesP}{W z':Rw.VTR}(c:obj h L.eb=some (geO G L.sb L.tb L.fm z' L.f1 L.b1 L.h1))(hW:Rw.Yn h (roT T) W G.r)(hz:Rw.Yn h (roT T) z' r)(fl:FlR h T L.f1 L.fs)(br:BsR h T L.b1 L.bs)(ho:HsR h T L.h1 L.hs)
    (lf:L.fs.map (·.2)=G.fl) (lb:L.bs.map (·.2)=G.br) (lh:L.hs.map (·.2)=G.ho) (ok:GOK G) (hr:r.whereE.2.2=0) (hf:Rw.RulesP.fit r) (nd:(hd3 L.fs L.bs L.hs).Nodup) (hT:∀j,T j≠none->j<sz h) {K:(Sl×Sl×Sl×Int×Unit)->Zf->Prop}
    (hk:∀h' T' ba bb bc av aw ax,FlR h' T' ba av->BsR h' T' bb aw->HsR h' T' bc ax->av.map (·.2)=(G.load r).fl->aw.map (·.2)=(G.load r).br->ax.map (·.2)=(G.load r).ho->(hd3 av aw ax).Nodup->(∀b,b∈hd3 av aw ax->b∈hd3 L.fs L.bs L.hs\/sz h<=b)->ZdW T T'->(∀j,T' j≠none->T j≠none\/(sz h<=j/\j<sz h'))->Ext h h'->K (ba,bb,bc,(G.load r).g,()) h'):Zbv (some ⟨L.eb,0,none⟩) W K h:=by
  have X:=Zq5 hr;have gw:=ok.good;obtain⟨bG,bH,bI,bd,bJ⟩:=ZHC nd;have cS:=Zp c;unfold Zbv ZdR;refine ZF λh1 c1 e1 z1=>ZF λE c2 e2 z2=>Zi ?_;have y2:=Zj c (e1.trans e2);refine rL (s:=L.f1) (Zb y2 rfl) (rL (s:=L.b1) (Zb y2 rfl) (rL (s:=L.h1) (Zb y2 rfl) (rI (Zb y2 rfl) (ZF λh3 c3 e3 z3=>ZaN c3 λd c4 u4 z4=>rI (Zb c4 rfl) (ZF λh5 c5 e5 z5=>ZaN c5 λh6 c6 u6 z6=>Zi ?_)))));have s1:sz h1=sz h+1:=z1;have s2:sz E=sz h1+1:=z2;have s3:sz h3=sz E+1:=z3;have s4:sz d=sz h3:=z4;have s5:sz h5=sz d+1:=z5;have s6:sz h6=sz h5:=z6;have bL:Ext E d:=e3.then u4 λk hk=>by subst hk;exact Aqo _
  have bh:Ext d h6:=e5.then u6 λk hk=>by subst hk;exact Aqo _
  have ay:=bL.trans bh;have aP:Ext h h6:=(e1.trans e2).trans ay;have y6:=Zj y2 ay;have k6:=Zj c1 (e2.trans ay);have x6:=Zj c2 ay;have d6:=Zj c4 bh
  have Tn:∀j,sz h<=j->T j=none:=λj D=>by
    cases q:T j with
    |none=>rfl
    |some t=>have:=ZeL hT q;omega
  have bN:=hz.ext aP;have bO:=hW.ext aP;refine rL (s:=z'.1) (Zb y6 rfl) (rL (s:=W.1) (Zb k6 rfl) (ZEv bN.fl.1 bO.fl.1 X.s.f gw.s.f λZ kt eA oA=>?_));have wA:sz h6<=sz Z:=eA.size;have Y:=aP.trans eA;have bj:∀j,T j≠none->j<sz Z:=λj D=>by have:=hT j D;omega
  have bP:(kpF G r).length=r.fl.length:=Zgs;have kA:Zdw (λ_=>False) T h Z:=λj t ht _=>Y.old j (ZeL hT ht)
  refine Zq2 (KL:=kpF G r) (kt:=kt) (body:=ZHP L.eb (sz E) (sz d)) (λm hh=>∃s done T1,ZIH Z (sz d) G.g L.fs T (kpF G r) m hh s done T1/\done.map (·.2)++Zun ShS.new G.fl ((kpF G r).drop m) (r.fl.drop m)=Zun ShS.new G.fl (kpF G r) r.fl) (by have:=X.s.f;omega)
    (λm hh ⟨s,done,T1,I,_⟩=>Zn3 oA (show sz d<sz h6 by omega) I.u) ⟨nl,[],T,⟨Upd.refl _ _,Zj c6 eA,Own.nil _ _ _,rfl,Sel.nil,ZdW.refl T,λj D=>.inl D,λb l=>(by cases l),Tn _ (by omega),λi x F=>(by cases F)⟩,rfl⟩ ?_ ?_
  ·rintro m k hh Q n ⟨s,done,T1,I,af⟩ hQ
   have N:m<r.fl.length:=by have:=ZbP n;omega
   obtain⟨f,B⟩:∃f,r.fl[m]?=some f:=⟨_,Axy N⟩;refine ZOK (z:=z') (f1:=L.f1) (b1:=L.b1) (h1:=L.h1) (sb:=L.sb) (tb:=L.tb) (fm:=L.fm) (G:=G) (g0:=G.g) (Zj y6 eA) (Zj d6 eA) (show sz E≠sz d by omega) (show L.eb≠sz d by omega) (show sz d<sz Z by omega) bj bG (λb l=>?_) (λh1 E=>ZlK (by simp) h1 E) (by rw[bP];exact X.s.f) n (ZEr (by rw[<-ok.lf,<-lf,Ayv]) n) (hz.ext Y).fl.1 (ZnC (h:=Z) hz.fl.2 (Tn _ (by omega))) (fl.r.ext Y) (ZnC (h:=Z) fl.o (Tn _ (by omega))) (λi x F=>Znr kA (ZdW.refl T) (fl.e i x F) λ_ _=>id) (X.f f (Axo B)) B I λh' s' x T'' I' F=>hQ h' ⟨s',done++[x],T'',I',?_⟩
   ·obtain⟨y,hy,v⟩:=List.mem_flatMap.1 l;obtain⟨i,hi⟩:=Ayi hy;have:=(ZpK (fl.e i y hi)).2 b v;have:=ZeL hT this;omega
   ·rw[<-af,Ayw,Ayx];congr 1;rw[Ayo (ZbP n),Ayo N];have a1:=(Ayh.1 n).2;have a2:=(Ayh.1 B).2;show [x.2]++_=Zk2 ShS.new G.fl (kpF G r)[m] r.fl[m]::_;rw[a1,a2,F,lf];rfl
  rintro hB ⟨w,done1,T1,O,aG⟩;rw[Ayq (Aqo _),show Zun ShS.new G.fl [] (r.fl.drop (kpF G r).length)=[]from rfl,Ayt]at aG;have wB:sz Z<=sz hB:=O.u.size;have uB:Upd (· = sz d) Z hB:=O.u;have yB:=Y0 (Zj y6 eA) uB (show ¬L.eb=sz d by omega);have kB:=Y0 (Zj k6 eA) uB (show ¬sz h=sz d by omega);have dB:=Y0 (Zj d6 eA) uB (show ¬sz E=sz d by omega);have xB:=Y0 (Zj x6 eA) uB (show ¬sz h1=sz d by omega);have bR:Rw.Yn hB (roT T) z' r:=(hz.ext Y).keep λb l P=>uB.old b P λe=>by have e':b=sz d:=e;have:=ZeL hT l;omega
  have bT:Rw.Yn hB (roT T) W G.r:=(hW.ext Y).keep λb l P=>uB.old b P λe=>by have e':b=sz d:=e;have:=ZeL hT l;omega
  have aH:∀b,w.blk=some b->T1 b=none:=O.sb;refine Zi (rL (s:=z'.2.1) (Zb yB rfl) (rL (s:=W.2.1) (Zb kB rfl) (ZEu bR.br.1 bT.br.1 X.s.b gw.s.b λhC bU eC oC=>?_)));have wC:sz hB<=sz hC:=eC.size;have bo:Upd (· = sz d) h hC:=(Y.upd _).trans (uB.trans (eC.upd _));have ah:Ext h hC:=bo.ext λk R e=>by have:k<sz h:=R;omega
  have bV:∀j,T1 j≠none->j<sz hB:=λj D=>by
    rcases O.new j D with g|g
    ·have:=hT j g;omega
    ·exact g.2
  have aR:∀j,tagS T1 w j≠none->j<sz hC:=λj D=>by
    rcases ZiL D with g|g
    ·have:=bV j g;omega
    ·have:=(O.o.lt g).2;have:j<sz hB:=this;omega
  have aS:ZdW T (tagS T1 w):=O.sub.trans (ZiK aH)
  have aT:∀j,sz h<=j->j<sz Z->tagS T1 w j=none:=λj h1 E=>by
    cases q:tagS T1 w j with
    |none=>rfl
    | some t=>
      rcases ZiL (XI q)with g|g
      ·rcases O.new j g with g|g
       ·rw[Tn j h1]at g;exact absurd rfl g
       ·omega
      ·have:=(O.o.lt g).1;have:sz Z<=j:=this;omega
  have kC:Zdw (λ_=>False) T h hC:=λj t ht _=>ah.old j (ZeL hT ht);have bW:(kpB G r).length=r.br.length:=Zgs
  refine Zq2 (KL:=kpB G r) (kt:=bU) (body:=ZHQ L.eb (sz E) (sz d)) (λm hh=>∃s done g' T2,ZII hC (sz d) w g' L.bs (tagS T1 w) (kpB G r) m hh s done T2/\ZlY G.br (kpB G r) r.br G.g=(done.map (·.2)++(ZlY G.br ((kpB G r).drop m) (r.br.drop m) g').1,(ZlY G.br ((kpB G r).drop m) (r.br.drop m) g').2)) (by have:=X.s.b;omega)
    (λm hh ⟨s,done,g',T2,I,_⟩=>Zn3 oC (show sz d<sz hB by omega) I.u) ⟨nl,[],G.g,tagS T1 w,⟨Upd.refl _ _,Zj O.c eC,Own.nil _ _ _,rfl,Sel.nil,ZdW.refl _,λj D=>.inl D,λb l=>(by cases l),aT _ (by omega) (by omega),λi x F=>(by cases F)⟩,rfl⟩ ?_ ?_
  ·rintro m k hh Q n ⟨s,done,g',T2,I,af⟩ hQ
   have N:m<r.br.length:=by have:=ZbP n;omega
   obtain⟨f,B⟩:∃f,r.br[m]?=some f:=⟨_,Axy N⟩;refine ZOL (z:=z') (f1:=L.f1) (b1:=L.b1) (h1:=L.h1) (sb:=L.sb) (tb:=L.tb) (fm:=L.fm) (G:=G) (g0:=G.g) (Zj yB eC) (Zj dB eC) (show sz E≠sz d by omega) (show L.eb≠sz d by omega) (show sz d<sz hC by omega) aR bH (λb l=>?_) (λh1 E=>ZlK (by simp) h1 E) (by rw[bW];exact X.s.b) n (ZEr (by rw[<-ok.lb,<-lb,Ayv]) n) (hz.ext ah).br.1 (ZnC (h:=hC) hz.br.2 (Tn _ (by omega))) (br.r.ext ah) (ZnC (h:=hC) br.o (Tn _ (by omega))) (λi x F=>Zot kC aS (br.e i x F) id) (X.b f (Axo B)) (hf.2.1 f (Axo B)) B I λh' s' x bX T'' I' F=>hQ h' ⟨s',done++[x],bX,T'',I',?_⟩
   ·obtain⟨y,hy,v⟩:=List.mem_flatMap.1 l;obtain⟨i,hi⟩:=Ayi hy;simp at v;subst v;obtain⟨wb,mb,cb,_⟩:=(br.e i y hi).ex;have:=Zp cb;omega
   ·rw[af,Ayo (ZbP n),Ayo N];have a1:=(Ayh.1 n).2;have a2:=(Ayh.1 B).2;rw[a1,a2,<-lb,F,Ayw,Ayx];rfl
  rintro hD ⟨C,ai,g2,T2,J,aj⟩;rw[Ayq (Aqo _),show ZlY G.br [] (r.br.drop (kpB G r).length) g2=([],g2)from(by cases r.br.drop (kpB G r).length<;>rfl),Ayt]at aj;have bY:ai.map (·.2)=(G.load r).br:=by show _=(ZlY G.br (kpB G r) r.br G.g).1;rw[aj]
  have pg:g2=(G.load r).g:=by show _=(ZlY G.br (kpB G r) r.br G.g).2;rw[aj]
  have wD:sz hC<=sz hD:=J.u.size;have uD:Upd (· = sz d) hC hD:=J.u;have yD:=Y0 (Zj yB eC) uD (show ¬L.eb=sz d by omega);have kD:=Y0 (Zj kB eC) uD (show ¬sz h=sz d by omega);have dD:=Y0 (Zj dB eC) uD (show ¬sz E=sz d by omega);have xD:=Y0 (Zj xB eC) uD (show ¬sz h1=sz d by omega);have bZ:Rw.Yn hD (roT T) z' r:=(hz.ext ah).keep λb l P=>uD.old b P λe=>by have e':b=sz d:=e;have:=ZeL hT l;omega
  have ca:Rw.Yn hD (roT T) W G.r:=(hW.ext ah).keep λb l P=>uD.old b P λe=>by have e':b=sz d:=e;have:=ZeL hT l;omega
  obtain⟨zp,aD,aV,bp⟩:=bZ.ho;obtain⟨wp,aW,cc,cd⟩:=ca.ho;have cf:zp.length=r.ho.length:=by rw[<-aD,Ayv]
  have bq:wp.length=G.r.ho.length:=by rw[<-aW,Ayv]
  have cg:∀p,p∈zp->p.2∈r.ho:=λp hp=>by rw[<-aD];exact Axz.2 ⟨p,hp,rfl⟩
  have cj:∀p,p∈wp->p.2∈G.r.ho:=λp hp=>by rw[<-aW];exact Axz.2 ⟨p,hp,rfl⟩
  refine Zi (rL (s:=z'.2.2.1) (Zb yD rfl) (rL (s:=W.2.2.1) (Zb kD rfl) (ZEt aV.1 cc.1 (λp hp=>?_) (by rw[cf];exact X.s.h) (by rw[bq];exact gw.s.h) λhE ck eE oE=>?_)))
  ·rcases hp with hp|hp
   ·exact⟨(bp p hp).1,X.s.hi _ (cg p hp)⟩
   ·exact⟨(cd p hp).1,gw.s.hi _ (cj p hp)⟩
  rw[aD,aW,bq]at oE;have wE:sz hD<=sz hE:=eE.size;have cm:Upd (· = sz d) h hE:=bo.trans (uD.trans (eE.upd _));have aF:Ext h hE:=cm.ext λk R e=>by have:k<sz h:=R;omega
  have aI:∀b,C.blk=some b->T2 b=none:=J.sb
  have cq:∀j,T2 j≠none->j<sz hD:=λj D=>by
    rcases J.new j D with g|g
    ·have:=aR j g;omega
    ·exact g.2
  have bt:∀j,tagS T2 C j≠none->j<sz hE:=λj D=>by
    rcases ZiL D with g|g
    ·have:=cq j g;omega
    ·have:=(J.o.lt g).2;have:j<sz hD:=this;omega
  have aJ:ZdW (tagS T1 w) (tagS T2 C):=J.sub.trans (ZiK aI)
  have bu:∀j,sz h<=j->j<sz Z->tagS T2 C j=none:=λj h1 E=>by
    cases q:tagS T2 C j with
    |none=>rfl
    | some t=>
      rcases ZiL (XI q)with g|g
      ·rcases J.new j g with g|g
       ·rw[aT j h1 E]at g;exact absurd rfl g
       ·omega
      ·have:=(J.o.lt g).1;have:sz hC<=j:=this;omega
  have kE:Zdw (λ_=>False) T h hE:=λj t ht _=>aF.old j (ZeL hT ht);have cr:(kpH G r).length=r.ho.length:=Zgs
  refine Zq2 (KL:=kpH G r) (kt:=ck) (body:=ZHO L.eb (sz E) (sz d)) (λm hh=>∃s done T3,ZIG hE (sz d) w C g2 L.hs (tagS T2 C) (kpH G r) m hh s done T3/\done.map (·.2)++Zun (λf=>HtS.new f G.keys G.seed) G.ho ((kpH G r).drop m) (r.ho.drop m)=Zun (λf=>HtS.new f G.keys G.seed) G.ho (kpH G r) r.ho) (by have:=X.s.h;omega)
    (λm hh ⟨s,done,T3,I,_⟩=>Zn3 oE (show sz d<sz hD by omega) I.u) ⟨nl,[],tagS T2 C,⟨Upd.refl _ _,Zj J.c eE,Own.nil _ _ _,rfl,Sel.nil,ZdW.refl _,λj D=>.inl D,λb l=>(by cases l),bu _ (by omega) (by omega),λi x F=>(by cases F)⟩,rfl⟩ ?_ ?_
  ·rintro m k hh Q n ⟨s,done,T3,I,af⟩ hQ
   have N:m<r.ho.length:=by have:=ZbP n;omega
   obtain⟨f,B⟩:∃f,zp[m]?=some f:=⟨_,Axy (by omega)⟩;have al:r.ho[m]?=some f.2:=by rw[<-aD,Awy,B];rfl
   have bw:=bp f (Axo B);refine ZOJ (z:=z') (f1:=L.f1) (b1:=L.b1) (h1:=L.h1) (sb:=L.sb) (tb:=L.tb) (fm:=L.fm) (G:=G) (g0:=G.g) (A:=zp) (Zj yD eE) (Zj dD eE) (show sz E≠sz d by omega) (show L.eb≠sz d by omega) (show sz d<sz hE by omega) bt bI (λb l=>?_) (λh1 E=>ZlK (by simp) h1 E) (by rw[cr];exact X.s.h) n (ZEr (by rw[<-ok.lh,<-lh,Ayv]) n) (aV.1.ext eE) (ZnC (h:=hE) aV.2 (Tn _ (by omega))) (bw.1.ext eE) (ZnC (h:=hE) bw.2 (Tn _ (by omega))) (ho.r.ext aF) (ZnC (h:=hE) ho.o (Tn _ (by omega))) (λi x F=>Zn8 kE (aS.trans aJ) aF.size (ho.e i x F) id) (X.h f.2 (Axo al)) (hf.2.2.1 f.2 (Axo al)).1 ok.keys B I λh' s' x T'' I' F=>hQ h' ⟨s',done++[x],T'',I',?_⟩
   ·obtain⟨y,hy,v⟩:=List.mem_flatMap.1 l;obtain⟨i,hi⟩:=Ayi hy;simp at v;subst v;obtain⟨Th,⟨si,S,wm,kb,f9,n9,wt,ct,cu,an⟩,ht⟩:=ho.e i y hi;have:=an.lw an.me;have:=ZeL hT (ht y.1 (Zuj an.me));omega
   ·rw[<-af,Ayw,Ayx];congr 1;rw[Ayo (ZbP n),Ayo N];have a1:=(Ayh.1 n).2;have a2:=(Ayh.1 al).2;show [x.2]++_=Zk2 (λf=>HtS.new f G.keys G.seed) G.ho (kpH G r)[m] r.ho[m]::_;rw[a1,a2,F,lh];rfl
  rintro hG ⟨H,aX,T3,M,aK⟩;rw[Ayq (Aqo _),show Zun (λf=>HtS.new f G.keys G.seed) G.ho [] (r.ho.drop (kpH G r).length)=[]from rfl,Ayt]at aK;have wG:sz hE<=sz hG:=M.u.size;have xG:=Y0 (Zj xD eE) M.u (show sz h1≠sz d by omega);refine rL (s:=w) (Zb M.c rfl) (rL (s:=C) (Zb M.c rfl) (rL (s:=H) (Zb M.c rfl) (rI (Zb M.c rfl) (ZaN xG λhF cF uF zF=>rL (s:=w) (Zb cF rfl) (rL (s:=C) (Zb cF rfl) (rL (s:=H) (Zb cF rfl) (rI (Zb cF rfl) ?_)))))));have wF:sz hG<=sz hF:=uF.size;have bx:∀{a b:Zf},Upd (· = sz d) a b->Upd (λj=>j=sz d\/j=sz h1) a b:=λu=>u.mono λj _ D=>.inl D;have UG:Upd (λj=>j=sz d\/j=sz h1) hG hF:=uF.mono λj _ D=>.inr D;have UE:Upd (λj=>j=sz d\/j=sz h1) hE hF:=(bx M.u).trans UG;have UD:Upd (λj=>j=sz d\/j=sz h1) hD hF:=(eE.upd _).trans UE;have UB:Upd (λj=>j=sz d\/j=sz h1) hB hF:=(eC.upd _).trans ((bx J.u).trans UD);have bz:∀b,H.blk=some b->T3 b=none:=M.sb;have aL:ZdW T3 (tagS T3 H):=ZiK bz;have U:ZdW (tagS T2 C) (tagS T3 H):=M.sub.trans aL;have V:ZdW (tagS T1 w) (tagS T3 H):=aJ.trans U;obtain⟨cx,cy,cz⟩:=O.fin (b2:=sz h1) Zys bj UB (by omega) (by omega) (Tn _ (by omega)) ((ZiK aH).trans V);obtain⟨cB,cC,cD⟩:=J.fin (b2:=sz h1) Zyt aR UD (by omega) (by omega) (aT _ (by omega) (by omega)) ((ZiK aI).trans U);obtain⟨cE,cG,cH⟩:=M.fin (b2:=sz h1) Zyr bt UG (by omega) (by omega) (bu _ (by omega) (by omega)) aL;have fin:=hk hF (tagS T3 H) w C H done1 ai aX ⟨cx,Zqu.mono λb l=>V.to l,cy⟩ ⟨cB,Zqu.mono λb l=>U.to l,cC⟩ ⟨cE,Zqu,cG⟩ aG bY aK ?_ ?_ (aS.trans V) ?_ ?_
  ·rw[<-pg]at fin;exact fin
  ·have aM:∀b,b∈L.fs.flatMap (λx=>hdP x.1)->b<sz h:=λb l=>by
     obtain⟨y,hy,v⟩:=List.mem_flatMap.1 l;obtain⟨i,hi⟩:=Ayi hy;exact ZeL hT ((ZpK (fl.e i y hi)).2 b v)
   have aN:∀b,b∈L.bs.flatMap (λx=>[x.1])->b<sz h:=λb l=>by
     obtain⟨y,hy,v⟩:=List.mem_flatMap.1 l;obtain⟨i,hi⟩:=Ayi hy;simp at v;subst v;obtain⟨wb,mb,cb,_⟩:=(br.e i y hi).ex;exact Zp cb
   have aO:∀b,b∈L.hs.flatMap (λx=>[x.1])->b<sz h:=λb l=>by
     obtain⟨y,hy,v⟩:=List.mem_flatMap.1 l;obtain⟨i,hi⟩:=Ayi hy;simp at v;subst v;obtain⟨Th,⟨si,S,wm,kb,f9,n9,wt,ct,cu,an⟩,ht⟩:=ho.e i y hi;exact ZeL hT (ht y.1 (Zuj an.me))
   refine ZHe O.sel.nd J.sel.nd M.sel.nd (λb l=>⟨λh9=>?_,λh9=>?_⟩) λb l h9=>?_
   ·rcases O.sel.heads l with g|g<;>rcases J.sel.heads h9 with g9|g9
    ·exact(bd b g).1 g9
    ·have:=aM b g;omega
    ·have:=aN b g9;omega
    ·omega
   ·rcases O.sel.heads l with g|g<;>rcases M.sel.heads h9 with g9|g9
    ·exact(bd b g).2 g9
    ·have:=aM b g;omega
    ·have:=aO b g9;omega
    ·omega
   ·rcases J.sel.heads l with g|g<;>rcases M.sel.heads h9 with g9|g9
    ·exact bJ b g g9
    ·have:=aN b g;omega
    ·have:=aO b g9;omega
    ·omega
  ·intro b l;unfold hd3 at l⊢
   rcases Axx.1 l with l|l
   ·rcases O.sel.heads l with g|g
    ·exact .inl (Axx.2 (.inl g))
    ·exact .inr (by omega)
   ·rcases Axx.1 l with l|l
    ·rcases J.sel.heads l with g|g
     ·exact .inl (Axx.2 (.inr (Axx.2 (.inl g))))
     ·exact .inr (by omega)
    ·rcases M.sel.heads l with g|g
     ·exact .inl (Axx.2 (.inr (Axx.2 (.inr g))))
     ·exact .inr (by omega)
  ·intro j D
   rcases ZiL D with g|g
   ·rcases M.new j g with g|g
    ·rcases ZiL g with g|g
     ·rcases J.new j g with g|g
      ·rcases ZiL g with g|g
       ·rcases O.new j g with g|g
        ·exact .inl g
        ·exact .inr ⟨by omega,by omega⟩
       ·have:=cz j g;exact .inr ⟨by omega,by omega⟩
      ·exact .inr ⟨by omega,by omega⟩
     ·have:=cD j g;exact .inr ⟨by omega,by omega⟩
    ·exact .inr ⟨by omega,by omega⟩
   ·have:=cH j g;exact .inr ⟨by omega,by omega⟩
  ·refine (aF.then M.u λk R=>?_).then uF λk R=>?_
   ·subst R;show sz h<=sz d;omega
   ·subst R;show sz h<=sz h1;omega
def ZjP(q:Nat):TgM:=λj=>if j=q then some (.p q)else if j=q+1\/j=q+2 then some (.p (q+2))else if j=q+3 then some (.p (q+3))else if j=q+4 then some (.p (q+4))else none
theorem ZHY{keys seed:Int}(y:1<=keys/\keys<=4096){h:Zf}{K:Option Addr->Int->Zf->Prop}(t:∀h' T L,ZcQ h' T L (GS.new keys seed)->(∀j,T j≠none->sz h<=j)->Ext h h'->K (some ⟨L.eb,0,none⟩) 0 h'):Zhl keys seed K h:=by
  unfold Zhl Zlc;refine Za (Zh (decide_eq_false (by omega)) (Zh (decide_eq_false (by omega)) (Zy3 λh1 c1 u f=>Zwo λz t2 r m=>ZlX.new λh3 g n z3=>ZF λo c l z4=>Za ?_)));simp only[YR]at g z3 c z4⊢;rw[f]at t2 c;rw[m,f]at g c;rw[z3,m,f]at c⊢;have v:sz h+1+2+1=sz h+4:=by omega
  have w:sz h+1+2=sz h+3:=by omega
  rw[v]at c⊢;rw[w]at c g;have A:sz o=sz h+5:=by rw[z4,z3,m,f]
  have t0:ZjP (sz h) (sz h)=some (.p (sz h)):=by unfold ZjP;rw[if_pos rfl]
  have t1:∀j,j=sz h+1\/j=sz h+1+1->ZjP (sz h) j=some (.p (sz h+2)):=λj a=>by unfold ZjP;rw[if_neg (by omega),if_pos (by omega)]
  have t3:ZjP (sz h) (sz h+3)=some (.p (sz h+3)):=by unfold ZjP;rw[if_neg (by omega),if_neg (by omega),if_pos rfl]
  have t4:ZjP (sz h) (sz h+4)=some (.p (sz h+4)):=by unfold ZjP;rw[if_neg (by omega),if_neg (by omega),if_neg (by omega),if_pos rfl]
  have hT:∀j,ZjP (sz h) j≠none->sz h<=j/\j<sz o:=λj a=>by
    unfold ZjP at a;split at a
    ·omega
    ·split at a
     ·omega
     ·split at a
      ·omega
      ·split at a
       ·omega
       ·exact absurd rfl a
  have b:∀{S:Nat->Prop},Rw.inS S nl:=λ{S} hl=>absurd rfl hl;have d:∀{s:Zf} {S:Nat->Prop},Rw.Yn s S (nl,nl,nl,nl,nl,()) ⟨[],[],[],[],[]⟩:=λ{s S}=>⟨⟨Row.nil _ _,b⟩,⟨Row.nil _ _,b⟩,⟨[],rfl,⟨Row.nil _ _,b⟩,λp q=>(by cases q)⟩,⟨Row.nil _ _,b⟩,⟨[],rfl,⟨Row.nil _ _,b⟩,λp q=>(by cases q)⟩⟩;refine t o (ZjP (sz h)) ⟨sz h+4,sz h,sz h+2,sz h+3,(nl,nl,nl,nl,nl,()),(nl,nl,nl,nl,nl,()),0,nl,nl,nl,[],[],[]⟩ ⟨c,t4,Zj c1 ((r.trans n).trans l),t0,d,d,(t2.ext (n.trans l)).mono λj a=>t1 j a,⟨λ_=>none,0,g.congr (ZQ l (by omega)),λk=>.inl ⟨rfl,rfl⟩⟩,t3,rfl,rfl,rfl,⟨Row.nil _ _,b,λi x e=>(by cases e)⟩,⟨Row.nil _ _,b,λi x e=>(by cases e)⟩,⟨Row.nil _ _,b,λi x e=>(by cases e)⟩,?_,λj a=>(hT j a).2⟩ (λj a=>(hT j a).1) (((u.trans r).trans n).trans l);simp[Lay.hds]
section
variable{h:Zf}{T:TgM}{L:Lay}{G:GS}
theorem Zu1(o:ZcQ h T L G)(ok:GOK G){K:Rw.VTR->Int->Zf->Prop}(p:∀h' z g,Rw.Yn h' (Rnw h' (sz h) (sz h')) z G.r->HoW h' (Rnw h' (sz h) (sz h')) z G.r->Ext h h'->K z g h'):Y9 (some ⟨L.eb,0,none⟩) K h:=by
  unfold Y9 Zbw;refine ZF λh1 c1 m q=>Za (Zh rfl (Zi ?_));have f:=o.ext m;have w1:sz h1=sz h+1:=q;refine rP (Zb f.cells rfl) (Zy2 f.store f.rs (λb a=>ZeL f.hT a) ok.good.s λc z t j l=>?_);have v:sz h1<=sz c:=l.size;refine ZaN (Zj c1 l) (vs:=[slV z.1,slV z.2.1,slV z.2.2.1,slV z.2.2.2.1,slV z.2.2.2.2.1]) (λh3 d i z3=>Za ?_) (hv:=by simp[Znq,XC]);have w:sz h3=sz c:=z3;refine rL (s:=z.1) (Zb d rfl) (rL (s:=z.2.1) (Zb d rfl) (rL (s:=z.2.2.1) (Zb d rfl) (rL (s:=z.2.2.2.1) (Zb d rfl) (rL (s:=z.2.2.2.2.1) (Zb d rfl) (p h3 z _ ?_ ?_ ?_)))))
  ·exact(t.keep (h':=h3) λb a e=>i.old b e (by show ¬b=sz h;have:=a.1.1;omega)).mono λb e a=>⟨⟨by have:=a.1.1;omega,by have:=a.1.2;omega⟩,a.2.keep (i.old b (by show b<sz c;omega) (by show ¬b=sz h;have:=a.1.1;omega))⟩
  ·have n:∀b,Rnw c (sz h1) (sz c) b->obj h3 b=obj c b:=λb a=>i.old b (show b<sz c from a.1.2) (by show ¬b=sz h;have:=a.1.1;omega);exact j.keep (λb a _=>n b a) λb a=>⟨⟨by have:=a.1.1;omega,by have:=a.1.2;omega⟩,a.2.keep (n b a)⟩
  ·exact(m.trans l).then i λk u=>by subst u;exact Aqo _
theorem ZFg(b:ZcQ h T L G)(ok:GOK G){K:Rw.VTR->Int->Zf->Prop}(c:∀h' z g,Rw.Yn h' (ZHW (sz h) (sz h')) z G.r->Ext h h'->K z g h'):Y9 (some ⟨L.eb,0,none⟩) K h:=Zu1 b ok λh' z g a _ e=>c h' z g (a.mono λ_ _ d=>d.1) e
theorem ZCk(c:ZcQ h T L G)(ok:GOK G){S:Nat->Prop}{w:Rw.VTR}{r:RulesP}(hr:Rw.Yn h S w r)(hS:∀b,S b->b<sz h)(hf:Rw.RulesP.fit r){K:Int->Zf->Prop}
    (h0:r.whereE.2.2=0->∀h' T' L',ZcQ h' T' L' (G.load r)->L'.eb=L.eb->GrG T T' h h'->K 0 h') (h1:∀e:Nat,r.whereE.2.2=e->e≠0->∀h',Ext h h'->K e h'):YY (some ⟨L.eb,0,none⟩) w K h:=by
  unfold YY Zb4;obtain⟨⟨q1,q2,q3,q4⟩,⟨r2,r3,r4⟩,⟨t3,t4⟩,f4,ao⟩:=Zse c.nd;refine ZF λv c1 e1 z1=>Za (Zh rfl (Zi ?_));have E1:=c.ext e1;have w1:sz v=sz h+1:=z1;refine rP (Zb E1.cells rfl) (rL (s:=w.1) (Zb c1 rfl) (rL (s:=w.2.1) (Zb c1 rfl) (rL (s:=w.2.2.1) (Zb c1 rfl) (rL (s:=w.2.2.2.1) (Zb c1 rfl) (rL (s:=w.2.2.2.2.1) (Zb c1 rfl) ?_)))));have aZ:=ZeL c.hT c.eT;have ba:=ZeL c.hT c.sT;refine ZFf E1.store (hr.ext e1) (λb a=>by have:=hS b a;omega) hf (λhq m z2 c2 U u2=>?_) λe he f m e2=>Za (Zm (by simpa using f) (Za (h1 e he f m (e1.trans e2))));have P:obj m L.eb=_:=(u2.old L.eb (show L.eb<sz v by omega) (show ¬L.eb=L.sb from Ne.symm q1)).trans E1.cells;refine Za (Zh rfl (Zi (rL (s:=L.z.1) (Zb P rfl) (rL (s:=L.z.2.1) (Zb P rfl) (rL (s:=L.z.2.2.1) (Zb P rfl) (rL (s:=L.z.2.2.2.1) (Zb P rfl) (rL (s:=L.z.2.2.2.2.1) (Zb P rfl) (ZF λg3 c3 e3 z3=>ZaN c3 (vs:=[slV L.z.1,slV L.z.2.1,slV L.z.2.2.1,slV L.z.2.2.2.1,slV L.z.2.2.2.2.1]) (λV c4 u4 z4=>Zi ?_) (hv:=by simp[Znq,XC])))))))));have n:Ext m V:=e3.then u4 λk hk=>by subst hk;exact Aqo _
  have w2:sz v<=sz m:=u2.size;have w3:sz g3=sz m+1:=z3;have w4:sz V=sz g3:=z4;have y4:=Zj P n;refine rP (Zb y4 rfl) (ZHU (Zj c2 n) (U.ext n) (λb a=>by have:=a.2;omega) (Zq5 hq).s λW z5 aw y=>Zi ?_);have y5:=Zj y4 y;have w5:sz V<=sz W:=y.size;refine ZGN y5 (geL G L.sb L.tb L.fm z5 L.f1 L.b1 L.h1) (λo y6 X z6=>Zi ?_) (hv:=by simp[Znq,XC]);have w6:sz o=sz W:=z6;have Y:obj o (sz m)=_:=(X.old (sz m) (Zp (Zj c4 y)) (by show ¬sz m=L.eb;omega)).trans (Zj c4 y);let B:TgM:=Zjv (Zjv T .ro (sz v) (sz m)) .ro (sz V) (sz W);have Z:∀j,Zjv T .ro (sz v) (sz m) j≠none->j<sz m:=Znn (λj d=>by have:=c.hT j d;omega) (Aqo _);have sA:ZdW T (Zjv T .ro (sz v) (sz m)):=ZhO λj d=>by have:=c.hT j d;omega
  have sB:ZdW (Zjv T .ro (sz v) (sz m)) B:=ZhO λj d=>by have:=Z j d;omega
  have Q:ZdW T B:=sA.trans sB;have aa:∀j,B j≠none->j<sz o:=Znn (λj d=>by have:=Z j d;omega) (by omega)
  have n6:∀j,B j≠none->T j≠none\/sz h<=j:=λj d=>by
    have:Zjv (Zjv T .ro (sz v) (sz m)) .ro (sz V) (sz W) j≠none:=d;unfold Zjv at this;split at this
    ·exact .inr (by omega)
    ·split at this
     ·exact .inr (by omega)
     ·exact .inl this
  let D:Nat->Prop:=λb=>b=L.sb\/b=L.eb;have p:Upd D h o:=((e1.upd D).trans (u2.mono λj _ d=>.inl d)).trans (((n.trans y).upd D).trans (X.mono λj _ d=>.inr d))
  have kD:∀{hh:Zf},Upd D h hh->Zdw D T h hh:=λ{hh} u j t ht hd=>u.old j (ZeL c.hT ht) λd=>by
    rcases d with e|e
    ·subst e;rw[c.sT]at ht;cases ht;exact hd _ (.inl rfl) rfl
    ·subst e;rw[c.eT]at ht;cases ht;exact hd _ (.inr rfl) rfl
  have k6:=kD p;have nD:∀b,b∈hd3 L.fs L.bs L.hs->¬D b:=λb a i=>i.elim (r4 b a) (q4 b a);have m1:∀b,b∈L.fs.flatMap (λx=>hdP x.1)->¬D b:=λb a=>nD b (Axx.2 (.inl a));have m2:∀b,b∈L.bs.flatMap (λx=>[x.1])->¬D b:=λb a=>nD b (Axx.2 (.inr (Axx.2 (.inl a))));have m3:∀b,b∈L.hs.flatMap (λx=>[x.1])->¬D b:=λb a=>nD b (Axx.2 (.inr (Axx.2 (.inr a))));have ae:Rw.Yn o (roT B) z5 r:=(aw.keep (h':=o) λb a l=>X.old b l (by show ¬b=L.eb;have:=a.1;omega)).mono λb _ a=>ZiM a;have az:Rw.Yn o (roT B) z2 r:=((U.ext (n.trans y)).keep (h':=o) λb a l=>X.old b l (by show ¬b=L.eb;have:=a.1;omega)).mono λb _ a=>sB.to (ZiM a);refine rL (s:=L.z.1) (Zb Y rfl) (rL (s:=L.z.2.1) (Zb Y rfl) (rL (s:=L.z.2.2.1) (Zb Y rfl) (rL (s:=L.z.2.2.2.1) (Zb Y rfl) (rL (s:=L.z.2.2.2.2.1) (Zb Y rfl) ?_))));refine ZFb (z':=z5) (L:=L) (G:=G) (r:=r) (T:=B) y6 (XJ k6 Q c.rz) ae (c.fl.keep k6 Q m1) (c.br.keep k6 Q m2) (c.ho.keep k6 Q p.size m3) c.lf c.lb c.lh ok hq hf ao aa λC R af ag ah E F H aA aB aC pf pb ph aD aE q n7 I=>Zi ?_;have y7:=Zj y6 I;refine ZGN y7 (geL (G.load r) L.sb L.tb L.fm z5 af ag ah) (λJ y8 u8 z8=>Za (h0 hq J R {L with z:=z5,zs:=z2,g:=IntKind.wrap .i64 (L.g+1),f1:=af,b1:=ag,h1:=ah,fs:=E,bs:=F,hs:=H} ?_ rfl ?_)) (hv:=by simp[Znq,XC,ZdD])
  case _=>
    have w7:sz o<=sz C:=I.size;have w8:sz J=sz C:=z8;have M:Upd D h J:=(p.trans (I.upd D)).trans (u8.mono λj _ d=>.inr d);have k8:=kD M;have s7:ZdW T R:=Q.trans q
    have ai:∀j,R j≠none->j<sz C:=λj d=>by
      rcases n7 j d with g|g
      ·have:=aa j g;omega
      ·exact g.2
    have c8:obj J L.sb=some (Znp z2 (IntKind.wrap .i64 (L.g+1))):=by
      refine(u8.old L.sb (show L.sb<sz C by omega) q1).trans (Zj ?_ I);exact(X.old L.sb (show L.sb<sz W by omega) q1).trans (Zj c2 (n.trans y))
    have N:=s7.to c.eT;have kE:Zdw (· = L.eb) R C J:=ZtG ai N u8;have O:=ZdW.refl R
    have f:∀b,b∈hd3 E F H->b≠L.eb/\b≠L.sb/\b≠L.tb/\b≠L.fm:=λb a=>by
      have bw:=ZeL c.hT c.fT;have bx:L.tb<sz h:=by obtain⟨mb,base,ks,A,hi,_⟩:=c.tree;exact Zp hi.cells
      rcases aE b a with g|g
      ·exact⟨q4 b g,r4 b g,t4 b g,f4 b g⟩
      ·exact⟨by omega,by omega,by omega,by omega⟩
    have aj:∀b,R b=some .ro->b<sz C->obj J b=obj C b:=λb a l=>u8.old b l λe=>by
      have e':b=L.eb:=e;rw[e',N]at a;cases a
    refine⟨y8,N,c8,s7.to c.sT,?_,?_,Zhd k8 s7 c.tree ?_,Zlf k8 s7 c.ent c.fT ?_,s7.to c.fT,pf,pb,ph,aA.keep kE O λb a i=>?_,aB.keep kE O λb a i=>?_,aC.keep kE O u8.size λb a i=>?_,?_,λj d=>by have:=ai j d;omega⟩
    ·exact((ae.ext I).mono λb _ a=>q.to a).keep λb a l=>aj b a l
    ·exact((az.ext I).mono λb _ a=>q.to a).keep λb a l=>aj b a l
    ·exact λi=>i.elim r2 q2
    ·exact λi=>i.elim r3 q3
    ·exact(f b (Axx.2 (.inl a))).1 i
    ·exact(f b (Axx.2 (.inr (Axx.2 (.inl a))))).1 i
    ·exact(f b (Axx.2 (.inr (Axx.2 (.inr a))))).1 i
    ·show(L.eb::L.sb::L.tb::L.fm::hd3 E F H).Nodup;simp only[Ayp,Awr,not_or];exact⟨⟨Ne.symm q1,Ne.symm q2,Ne.symm q3,λi=>(f _ i).1 rfl⟩,⟨Ne.symm r2,Ne.symm r3,λi=>(f _ i).2.1 rfl⟩,⟨Ne.symm t3,λi=>(f _ i).2.2.1 rfl⟩,λi=>(f _ i).2.2.2 rfl,aD⟩
  case _=>
    have M:Upd D h J:=(p.trans (I.upd D)).trans (u8.mono λj _ d=>.inr d);refine⟨M.mono λj _ d=>?_,Q.trans q,λj d=>?_⟩
    ·rcases d with e|e
     ·subst e;exact XI c.sT
     ·subst e;exact XI c.eT
    ·rcases n7 j d with g|g
     ·exact n6 j g
     ·exact .inr (by omega)
end
abbrev ZOC(eb:Nat)(c:C8)(gr:Bool)(tk bk:Sl)(wt:Int):List Value:=.pointer (some ⟨eb,0,none⟩)::iv c.1:: .string c.2.1:: .string c.2.2.1:: .string c.2.2.2.1:: .bool c.2.2.2.2.1::iv c.2.2.2.2.2.1::slV c.2.2.2.2.2.2.1::[.bool gr,slV tk,slV bk,iv wt]
abbrev ZvA(eb:Nat)(c:C8)(gr:Bool)(tk bk:Sl)(wt:Int):Obj:=.cells (ZOC eb c gr tk bk wt).toArray 107 (0,0)
def Bx(h:Zf)(base wb:Nat)(t:Sl)(b o:Nat)(v:Value):Prop:=Zy o (obj h b)=some v/\base<=b/\b<sz h/\b≠wb/\t.blk≠some b
abbrev pB(b:Nat):Value:=.pointer (some ⟨b,0,none⟩)
def TkR(h:Zf)(base wb:Nat)(t:Sl)(L:Lay)(c:PC)(v:Value):Tk->Prop
  | .hot i x=>∃l m n j,v= .func (.func 122) #[] #[pB l,pB m,pB n]/\Bx h base wb t l 0 (pB j)/\Bx h base wb t m 0 (pB wb)/\Bx h base wb t n 0 (.string x)/\(L.hs[i]?).map (·.1)=some j
  | .warm i past sum=>∃a b d e f p,v= .func (.func 182) #[] #[pB a,pB b,pB d,pB e,pB f]/\Bx h base wb t a 1 (.pointer p.2)/\Bx h base wb t b 0 (iv c.1)/\Bx h base wb t d 0 (iv past)/\Bx h base wb t e 0 (iv sum)/\Bx h base wb t f 0 (iv c.2.2.2.2.2)/\(L.fs[i]?).map (·.1)=some p
  | .pace i=>∃a b f p,v= .func (.func 185) #[] #[pB a,pB b,pB f]/\Bx h base wb t a 0 (.pointer p.1)/\Bx h base wb t b 0 (iv c.1)/\Bx h base wb t f 0 (iv c.2.2.2.2.2)/\(L.fs[i]?).map (·.1)=some p
  | .wp i past k=>∃a b d f g p,v= .func (.func 190) #[] #[pB a,pB b,pB d,pB f,pB g]/\Bx h base wb t a 0 (.pointer p.1)/\Bx h base wb t a 1 (.pointer p.2)/\Bx h base wb t b 0 (iv c.1)/\Bx h base wb t d 0 (iv past)/\Bx h base wb t f 0 (iv c.2.2.2.2.2)/\Bx h base wb t g 0 (iv k)/\(L.fs[i]?).map (·.1)=some p
  | .brk i=>∃a b j id,v= .func (.func 128) #[] #[pB a,pB b]/\Bx h base wb t a 0 (pB j)/\Bx h base wb t a 1 (iv id)/\Bx h base wb t b 0 (pB wb)/\(L.bs[i]?).map (λx=>(x.1,x.2.2))=some (j,id)
structure WkR(h:Zf)(base wb:Nat)(L:Lay)(c:PC)(sl:Sl)(gr:Bool)(tks:List Tk)(wt:Int)(t:Sl)(vs:List Value):Prop where
  w:obj h wb=some (ZvA L.eb (cl c sl) gr t nl wt)
  o:Own h base t 1 vs
  l:vs.length=tks.length
  e:∀(i:Nat) v tk,vs[i]?=some v->tks[i]?=some tk->TkR h base wb t L c v tk
  b:base<=sz h
  n:t.blk≠some wb
structure WS(wb:Nat)(t t':Sl)(h h':Zf):Prop where
  u:Upd (λj=>j=wb\/t.blk=some j) h h'
  n:t'.blk=t.blk\/∀b,t'.blk=some b->sz h<=b
section
variable{h h' h'':Zf}{base wb:Nat}{t t' t'':Sl}{L:Lay}{c:PC}{sl:Sl}{gr:Bool}{tks:List Tk}{wt:Int}{vs:List Value}
theorem WS.refl:WS wb t t h h:=⟨Upd.refl _ _,.inl rfl⟩
theorem WS.ext(e:Ext h h'):WS wb t t h h':=⟨e.upd _,.inl rfl⟩
theorem WS.trans(a:WS wb t t' h h')(b:WS wb t' t'' h' h''):WS wb t t'' h h'':=by
  refine⟨⟨Aqp a.u.size b.u.size,λk d e=>?_⟩,?_⟩
  ·refine (b.u.old k (Aqq d a.u.size) λc=>?_).trans (a.u.old k d e)
   rcases c with c|c
   ·exact e (.inl c)
   ·rcases a.n with g|g
    ·exact e (.inr (g▸c))
    ·have:=g k c;have:k<sz h:=d;omega
  ·rcases b.n with g|g
   ·rw[g];exact a.n
   ·exact .inr λb f=>Aqp a.u.size (g b f)
theorem WS.then(a:WS wb t t' h h')(e:Ext h' h''):WS wb t t' h h'':=a.trans (WS.ext e)
theorem WS.pre(e:Ext h h')(a:WS wb t t' h' h''):WS wb t t' h h'':=(WS.ext e).trans a
theorem Bx.keep{b o:Nat}{v:Value}(x:Bx h base wb t b o v)(u:Upd (λj=>j=wb\/t.blk=some j) h h')(f:t'.blk=t.blk\/∀b,t'.blk=some b->sz h<=b):Bx h' base wb t' b o v:=by
  obtain⟨i,k,a,c,d⟩:=x;refine⟨by rw[show obj h' b=obj h b from u.old b a λe=>e.elim c d];exact i,k,Aqq a u.size,c,λe=>?_⟩
  rcases f with g|g
  ·exact d (g▸e)
  ·have:=g b e;omega
theorem TkR.keep{v:Value}{tk:Tk}(x:TkR h base wb t L c v tk)(u:Upd (λj=>j=wb\/t.blk=some j) h h')(k:t'.blk=t.blk\/∀b,t'.blk=some b->sz h<=b):TkR h' base wb t' L c v tk:=by
  cases tk with
  | hot i s=>
    obtain⟨r,w,y,n,e,l,m,a3,a4⟩:=x;exact⟨r,w,y,n,e,l.keep u k,m.keep u k,a3.keep u k,a4⟩
  | warm i past sum=>
    obtain⟨a,b,d,f,g,p,e,l,m,a3,a4,a5,o⟩:=x;exact⟨a,b,d,f,g,p,e,l.keep u k,m.keep u k,a3.keep u k,a4.keep u k,a5.keep u k,o⟩
  | pace i=>
    obtain⟨a,b,f,p,e,l,m,a3,a4⟩:=x;exact⟨a,b,f,p,e,l.keep u k,m.keep u k,a3.keep u k,a4⟩
  | wp i past q=>
    obtain⟨a,b,d,f,g,p,e,l,m,a3,a4,a5,o,z⟩:=x;exact⟨a,b,d,f,g,p,e,l.keep u k,m.keep u k,a3.keep u k,a4.keep u k,a5.keep u k,o.keep u k,z⟩
  | brk i=>
    obtain⟨a,b,n,id,e,l,m,a3,a4⟩:=x;exact⟨a,b,n,id,e,l.keep u k,m.keep u k,a3.keep u k,a4⟩
theorem WkR.ext(W:WkR h base wb L c sl gr tks wt t vs)(e:Ext h h'):WkR h' base wb L c sl gr tks wt t vs:=
  ⟨Zj W.w e,W.o.congr λb _ hl _=>e.old b hl,W.l,λi v tk h1 a=>(W.e i v tk h1 a).keep (e.upd _) (.inl rfl),Aqp W.b e.size,W.n⟩
theorem WkR.add(W:WkR h base wb L c sl gr tks wt t vs){v:Value}{tk:Tk}(hv:TkR h base wb t L c v tk)(x:Own h' base t' 1 (vs++[v]))(y:Upd (λk=>t.blk=some k) h h')(a:t'.blk=t.blk\/t'.blk=some (sz h))(z:obj h'' wb=some (ZvA L.eb (cl c sl) gr t' nl wt))(r:Upd (· = wb) h' h''):
    WkR h'' base wb L c sl gr (tks++[tk]) wt t' (vs++[v])/\WS wb t t' h h'':=by
  have f:t'.blk=t.blk\/∀b,t'.blk=some b->sz h<=b:=a.imp id λe b a=>by rw[e]at a;cases a;exact Aqo _
  have u:Upd (λj=>j=wb\/t.blk=some j) h h'':=(y.mono λj _ m=>.inr m).trans (r.mono λj _ m=>.inl m);have lw:=Zp W.w
  have s:t'.blk≠some wb:=λe=>by
    rcases a with g|g
    ·exact W.n (g▸e)
    ·rw[g]at e;cases e;omega
  refine⟨⟨z,x.congr λb o p _=>r.old b p λe=>s (by rw[o,show b=wb from e]),by simp[W.l],λi A q h1 d=>?_,Aqp W.b u.size,s⟩,⟨u,f⟩⟩
  rcases Zrl h1 with g|⟨B,C⟩
  ·have hi:=ZbP g;rw[Awu (by rw[<-W.l];exact hi)]at d;exact(W.e i A q g d).keep u f
  ·subst B;subst C;rw[W.l,Awv (Aqo _),Nat.sub_self]at d;cases d;exact hv.keep u f
theorem WkR.wait(W:WkR h base wb L c sl gr tks wt t vs){wt':Int}(g:obj h' wb=some (ZvA L.eb (cl c sl) gr t nl wt'))(f:Upd (· = wb) h h'):WkR h' base wb L c sl gr tks wt' t vs/\WS wb t t h h':=by have u:Upd (λj=>j=wb\/t.blk=some j) h h':=f.mono λj _ k=>.inl k;exact⟨⟨g,W.o.congr λb a d _=>f.old b d λe=>W.n (by rw[a,show b=wb from e]),W.l,λi v tk h1 m=>(W.e i v tk h1 m).keep u (.inl rfl),Aqp W.b u.size,W.n⟩,⟨u,.inl rfl⟩⟩
theorem ZcQ.walk{T:TgM}{G:GS}(a:ZcQ h T L G)(b:∀j,T j≠none->j<base/\j≠wb)(W:WkR h base wb L c sl gr tks wt t vs)(u:WS wb t t' h h'):ZcQ h' T L G:=
  a.frame u.u λj d=>by
   cases q:T j with
   |none=>rfl
   | some x=>
     have:=b j (XI q)
     rcases d with e|e
     ·exact absurd e this.2
     ·have:=(W.o.lt e).1;omega
theorem Zub{T:TgM}{G:GS}{f:Int->Lk}{KL:List Int}{kt:Sl}{body:Int->Int->Zf->(Zf->Prop)->Prop}{K:Zf->Prop}{X:Int->Zf->Prop}{h0:Zf}(E:ZcQ h T L G)(F:∀j,T j≠none->j<base/\j≠wb)(W:WkR h base wb L c sl gr tks wt t vs)(hl:KL.length<=256)(P:tks.length<=2000)(v:Own h (sz h0) kt 1 (KL.map iv))(H:wb<sz h0)(w:∀b,t.blk=some b->b<sz h0)
    (hs:∀(m:Nat) k g a wt' t' d (Q:Zf->Prop),KL[m]?=some k->ZcQ g T L G->WkR g base wb L c sl gr a wt' t' d->WS wb t t' h g->a.length<=3000->(∀h' t'' l,WkR h' base wb L c sl gr (a++(f k).tk) (wtV wt' (f k).wt) t'' l->WS wb t' t'' g h'->if(f k).b=true then X k h' else Q h')->body m k g Q)
    (y:∀k,(f k).tk.length<=1)
    (I:∀k h' t' d x,ZfJ f KL (tks,wt)=(some k,x)->WkR h' base wb L c sl gr x.1 x.2 t' d->WS wb t t' h h'->x.1.length<=tks.length+256->X k h') (M:∀h' t' d x,ZfJ f KL (tks,wt)=(none,x)->WkR h' base wb L c sl gr x.1 x.2 t' d->WS wb t t' h h'->x.1.length<=tks.length+256->K h'):
    ZP (σ:=Int×Unit) (λJ s g=>(λ(i:Int)=>Zk (decide (i<(kt.len:Int))) (Yk kt.ptr kt.len i 1 λb o=>ldI g b o .i64 λt=>body i t g (λh'=>J (IntKind.wrap .i64 (i+1),()) h')) (K g)) s.1) (0,()) h:=by
  refine Zq2 (KL:=KL) (kt:=kt) (body:=body) (λm g=>∃a wt' t' d,WkR g base wb L c sl gr a wt' t' d/\WS wb t t' h g/\a.length<=tks.length+m/\ZfJ f KL (tks,wt)=ZfJ f (KL.drop m) (a,wt')) (by omega) (λm g ⟨a,wt',t',d,r,s,_⟩=>?_) ⟨tks,wt,t,vs,W,WS.refl,Aqo _,rfl⟩ ?_ ?_
  ·refine (v.congr λb N z A=>s.u.old b z λe=>?_).row;have:sz h0<=b:=A
   rcases e with e|e
   ·omega
   ·have:=w b e;omega
  ·rintro m k g Q B ⟨a,wt',t',d,r,s,C,hw⟩ O;have hm:=ZbP B
   have hd:KL.drop m=k::KL.drop (m+1):=by
     rw[Ayo hm];congr 1;exact(Ayh.1 B).2
   rw[hd]at hw;have D:ZfJ f (k::KL.drop (m+1)) (a,wt')=if(f k).b=true then(some k,a++(f k).tk,wtV wt' (f k).wt)else ZfJ f (KL.drop (m+1)) (a++(f k).tk,wtV wt' (f k).wt):=rfl
   rw[D]at hw;have h1:=y k;refine hs m k g a wt' t' d Q B (E.walk F W s) r s (by omega) λh' t'' l n s'=>?_;have p:=s.trans s';split
   ·rename_i q;rw[if_pos q]at hw;exact I k h' t'' l _ hw n p (by simp only[Awe];omega)
   ·rename_i q;rw[if_neg q]at hw;exact O h' ⟨_,_,t'',l,n,p,by simp only[Awe];omega,hw⟩
  ·rintro g ⟨a,wt',t',d,r,s,C,hw⟩;rw[Ayq (Aqo _),show ZfJ f [] (a,wt')=(none,(a,wt'))from rfl]at hw;exact M g t' d _ hw r s (by show a.length<=_;omega)
end
theorem Zmj{α:Type}{nm:α->ByteArray}{res:ByteArray}:∀{l:List α} {i:Nat} {k:Int},k∈ofL nm res l i->∃j a,k=((i+j:Nat):Int)/\l[j]?=some a
  |[],i,k,h=>by cases h
  | a::l,i,k,h=>by
    have e:ofL nm res (a::l) i=if Z2 (nm a) res=true then(i:Int)::ofL nm res l (i+1)else ofL nm res l (i+1):=rfl
    rw[e]at h;split at h
    ·rcases Awr.1 h with h|h
     ·exact⟨0,a,h,rfl⟩
     ·obtain⟨j,b,h1,c⟩:=Zmj h;exact⟨j+1,b,by rw[h1];congr 1;omega,by simpa using c⟩
    ·obtain⟨j,b,h1,c⟩:=Zmj h;exact⟨j+1,b,by rw[h1];congr 1;omega,by simpa using c⟩
theorem ZnK{α:Type}{nm:α->ByteArray}{res:ByteArray}:∀{l:List α} {i:Nat},(ofL nm res l i).length<=l.length
  |[],i=>Aqo _
  | a::l,i=>by
    have e:ofL nm res (a::l) i=if Z2 (nm a) res=true then(i:Int)::ofL nm res l (i+1)else ofL nm res l (i+1):=rfl
    rw[e];split
    ·simp only[Aqj];have:=ZnK (nm:=nm) (res:=res) (l:=l) (i:=i+1);omega
    ·simp only[Aqj];have:=ZnK (nm:=nm) (res:=res) (l:=l) (i:=i+1);omega
theorem ZG9{r:RulesP}(h:ZsF r)(kind:Int)(res:ByteArray):(ofK r kind res).length<=256:=by
  unfold ofK;split
  ·exact Aqp ZnK h.f
  ·split
   ·exact Aqp ZnK h.b
   ·split
    ·exact Aqp ZnK h.h
    ·split
     ·exact Aqp ZnK h.s
     ·split
      ·exact Aqp ZnK h.l
      ·exact Ayg _
section
variable{h:Zf}{T:TgM}{L:Lay}{G:GS}{base wb:Nat}{t:Sl}{c:PC}{sl:Sl}{gr:Bool}{tks:List Tk}{wt:Int}{vs:List Value}
theorem Zq9{f91:Int->Option Addr->(Bool->Zf->Prop)->Zf->Prop}{kind:Int}{bx:Nat}{x:Obj}{f:Int->Lk}(A:ZcQ h T L G)(ok:GOK G)(hb:∀j,T j≠none->j<base/\j≠wb)(W:WkR h base wb L c sl gr tks wt t vs)(hn:tks.length<=2000)(D:obj h bx=some x)(n1:bx≠wb)(Y:t.blk≠some bx){R:Zf->Prop}(hR:∀{l},(∀j,j<sz h->j≠wb->t.blk≠some j->obj l j=obj h j)->R l)(J:∀k,(f k).tk.length<=1)
    (hs:∀k,k∈ofK G.r kind c.2.1->∀{l:Zf} {d:List Tk} {wt':Int} {t':Sl} {a:List Value} {Q:Bool->Zf->Prop},ZcQ l T L G->WkR l base wb L c sl gr d wt' t' a->R l->d.length<=3000->obj l bx=some x->t'.blk≠some bx->(∀h' v p,WkR h' base wb L c sl gr (d++(f k).tk) (wtV wt' (f k).wt) v p->WS wb t' v l h'->Q (f k).b h')->f91 k (some ⟨bx,0,none⟩) Q l)
    {K:Int->Bool->Zf->Prop} (Z:∀h' t' a x,ZfJ f (ofK G.r kind c.2.1) (tks,wt)=x->WkR h' base wb L c sl gr x.2.1 x.2.2 t' a->WS wb t t' h h'->x.2.1.length<=tks.length+256->K (x.1.getD 0) x.1.isSome h'):
    ZC ZaZ f91 (some ⟨wb,0,none⟩) kind (some ⟨bx,0,none⟩,()) K h:=by
  unfold ZC;refine Za (Zi (Zi (rP (Zb W.w rfl) (Zi (rL (s:=L.z.1) (Zb A.cells rfl) (rL (s:=L.z.2.1) (Zb A.cells rfl) (rL (s:=L.z.2.2.1) (Zb A.cells rfl) (rL (s:=L.z.2.2.2.1) (Zb A.cells rfl) (rL (s:=L.z.2.2.2.2.1) (Zb A.cells rfl) (rS (Zb W.w rfl) ?_))))))))));refine ZSH A.rz (λb E=>ZeL A.hT E) ok.good.s λh2 kt B M=>⟨Yj (Zb (W.ext B).w rfl),?_⟩;have lw:=Zp W.w;have W2:=W.ext B;refine Zub (h0:=h) (f:=f) (KL:=ofK G.r kind c.2.1) (X:=λi h'=>K i true h') (body:=λaj t18 N Q=>Zc t18 λi=>f91 i (some ⟨bx,0,none⟩) (λt19 F=>Zk t19 (Zc i λt21=>K t21 true F) (Q F)) N) (A.ext B) hb W2 (ZG9 ok.good.s _ _) hn M lw (λb E=>(W.o.lt E).2) ?_ J ?_ ?_
  ·intro m k l d wt' t' a Q O E' H s hl I;have C:∀j,j<sz h->j≠wb->t.blk≠some j->obj l j=obj h j:=λj hj P S=>(s.u.old j (Aqq hj B.size) λe=>e.elim P S).trans (B.old j hj)
   have nt:t'.blk≠some bx:=λe=>by
     rcases s.n with g|g
     ·exact Y (g▸e)
     ·have:=g bx e;have:=Zp D;have:sz h<=sz h2:=B.size;omega
   refine Za (hs k (Axo O) E' H (hR C) hl ((C bx (Zp D) n1 Y).trans D) nt λh' v p U V=>?_);have:=I h' v p U V;refine⟨λq=>Za ?_,λq=>?_⟩
   ·rwa[if_pos q]at this
   ·rwa[if_neg (by rw[q];decide)]at this
  ·intro k h' t' a y hw H s hl;exact Z h' t' a (some k,y) hw H (WS.pre B s) hl
  ·intro h' t' a y hw H s hl;exact Za (Z h' t' a (none,y) hw H (WS.pre B s) hl)
theorem ZEp(M:ZcQ h T L G)(ok:GOK G)(N:∀j,T j≠none->j<base/\j≠wb)(W:WkR h base wb L c sl gr tks wt t vs)(O:tks.length<=2000)
    {K:Int->Bool->Zf->Prop} (P:∀h' t' a x,ZfJ (ZpF G c) (ofK G.r 5 c.2.1) (tks,wt)=x->WkR h' base wb L c sl gr x.2.1 x.2.2 t' a->WS wb t t' h h'->x.2.1.length<=tks.length+256->K (x.1.getD 0) x.1.isSome h'):Za6 (some ⟨wb,0,none⟩) K h:=by
  unfold Za6 Zfo;have lw:=Zp W.w;refine ZF λh1 c1 u U=>Za (rP (Zb c1 rfl) ?_);refine Zq9 (f91:=Zbu) (f:=ZpF G c) (R:=λ_=>True) (M.ext u) ok N (W.ext u) O c1 (show sz h≠wb by omega) (λe=>by have:sz h<sz h:=(W.o.lt e).2;omega) (λ_=>trivial) (λk=>Ayg _) ?_ λh' t' a x hw d s hl=>Za (Zd (P h' t' a x hw d (WS.pre u s) hl));intro k v V F wt' t' a Q y d _ hl cb X l;obtain⟨j,f,H,b⟩:=Zmj (show k∈ofL (λf:Zbi=>Zu f.res) c.2.1 G.r.li 0 from v);rw[Awb]at H;subst H;obtain⟨I,A,B,C⟩:=y.rz.li
  obtain ⟨p,J,D⟩:∃p,I[j]?=some p/\p.2=f:=by
    rw[<-A,Awy]at b
    cases q:I[j]? with
    |none=>rw[q]at b;cases b
    |some p=>rw[q]at b;exact⟨p,rfl,Option.some.inj b⟩
  subst D;have fit:=ok.fit.2.2.2 p.2 (Axo b);unfold Zbu ZdP;obtain⟨Y,Z,_,_,m,E⟩:=Zab (g:=Rw.Zhp) (n:=3) (λ_=>rfl) B.1 J (by decide);refine Zi (rP (Zb cb rfl) (Zi (rP (Zb d.w rfl) (Zi (rL (s:=L.z.2.2.2.2.1) (Zb y.cells rfl) (m rfl (rS (E 0 _ rfl) (rB (E 1 _ rfl) (rL (s:=p.1) (E 2 _ rfl) (Zi (rP (Zb cb rfl) (Zi (rS (Zb d.w rfl) ?_)))))))))))));refine Classical.choose_spec (Zu9 p.2 c.2.2.2.1) fit (C p (Axo J)).1 λS i=>⟨Yj (Zb (Zj cb i) rfl),Yj (Zb (y.ext i).cells rfl),Yj (Zb (d.ext i).w rfl),Yj (Zb (Zj cb i) rfl),Zd ?_⟩
  have e:ZpF G c (j:Int)=⟨!glV p.2 c.2.2.2.1,[],none⟩:=by
    unfold ZpF;rw[Aqu,b]
  have fin:=l S t' a (by rw[e,Ayt];exact d.ext i) (WS.ext i);rw[e]at fin;exact fin
end
def ZHc(w:N7):List Value:=[iv w.1,iv w.2.1,iv w.2.2.1,iv w.2.2.2.1,iv w.2.2.2.2.1,iv w.2.2.2.2.2.1,iv w.2.2.2.2.2.2.1]
section
variable{h:Zf}{T:TgM}{L:Lay}{G:GS}{base wb:Nat}{t:Sl}{c:PC}{sl:Sl}{gr:Bool}{tks:List Tk}{wt:Int}{vs:List Value}
theorem Zxi(hE:ZcQ h T L G)(ok:GOK G)(hb:∀j,T j≠none->j<base/\j≠wb)(W:WkR h base wb L c sl gr tks wt t vs)(hn:tks.length<=2000)
    {K:Int->Bool->Zf->Prop} (I:∀h' t' l x,ZFw G c (tks,wt)=x->WkR h' base wb L c sl gr x.2.1 x.2.2 t' l->WS wb t t' h h'->x.2.1.length<=tks.length+256->K (x.1.getD 0) x.1.isSome h'):Zae (some ⟨wb,0,none⟩) K h:=by
  unfold Zae ZdO;have lw:=Zp W.w;refine ZF λh1 c1 C z1=>Za (rP (Zb c1 rfl) (Zi (rB (Zb (W.ext C).w rfl) ⟨λq=>Za ?_,λq=>?_⟩)))
  ·have q':¬c.2.2.2.2.1=true:=λM=>by
     have A:(!c.2.2.2.2.1)=true:=q;rw[M]at A;cases A
   exact I h1 t vs (none,tks,wt) (by unfold ZFw;rw[if_neg q']) (W.ext C) (WS.ext C) (by show tks.length<=_;omega)
  have q':c.2.2.2.2.1=true:=by
    have A:(!c.2.2.2.2.1)=false:=q;simpa using A
  have ao:∀h' t' l x,ZfJ (ZxY G c) (ofK G.r 4 c.2.1) (tks,wt)=x->WkR h' base wb L c sl gr x.2.1 x.2.2 t' l->WS wb t t' h h'->x.2.1.length<=tks.length+256->K (x.1.getD 0) x.1.isSome h':=λh' t' l x hx=>I h' t' l x (by unfold ZFw;rw[if_pos q'];exact hx);have w1:=(W.ext C).w;have y1:=(hE.ext C).cells;refine rP (Zb c1 rfl) (Zi (rP (Zb w1 rfl) (Zi (rP (Zb y1 rfl) (Zp8 (hE.ext C).tree (k:=ZmI) λh2 p e2 f2=>?_)))));have N:∀{d:Zf},Ext h1 d->Zy 0 (obj d (sz h))=some (.pointer (some ⟨wb,0,none⟩))/\Zy 1 (obj d wb)=some (iv c.1)/\Zy 0 (obj d wb)=some (.pointer (some ⟨L.eb,0,none⟩)):=λ{d} e=>⟨Zb (Zj c1 e) rfl,Zb (Zj w1 e) rfl,Zb (Zj w1 e) rfl⟩;obtain⟨a2,b2,_⟩:=N e2;refine rP a2 (Zi (rI b2 (Zha f2 λh3 e3=>ZF λh4 c4 e4 z4=>ZaN c4 λh5 c5 u5 z5=>Za ?_)));have B:Ext h2 h5:=(e3.trans e4).then u5 λk I=>by subst I;exact e3.size
  obtain⟨a5,b5,_⟩:=N (e2.trans B);refine rP a5 (Zi (rI b5 (Classical.choose_spec (Zva (G.t.f ZmI) c.1) (f2.ext B) λx6 h6 e6=>Za (Za ?_))));obtain⟨a6,b6,_⟩:=N (e2.trans (B.trans e6));refine rP a6 (Zi (rI b6 (Zt5 (f2.ext (B.trans e6)) λx7 h7 e7=>Za (Za ?_))));have O:=(B.trans e6).trans e7;obtain⟨a7,b7,_⟩:=N (e2.trans O);refine rP a7 (Zi (rI b7 (ZsJ (f2.ext O) λx8 A e8=>Za (Za ?_))));have P:=O.trans e8;have v:=e2.trans P;have c8:=Zj c5 ((e6.trans e7).trans e8);refine ZoF (λ(s:Option Addr×Unit) d=>∃F,s.1=some ⟨F,0,none⟩/\obj d F=some (.cells (ZHc (ZHb G c)).toArray 243 (0,0))/\Ext A d/\sz A<=F) ?_ ?_
  ·rintro ⟨s,u⟩ M ⟨F,hs,cn,J,aY⟩;dsimp only at hs⊢;subst hs;have S:=v.trans J;have U:=C.trans S;obtain⟨a9,b9,_⟩:=N S;refine rP a9 ?_;show ZC ZaZ (λi a=>XF i a (some ⟨F,0,none⟩)) (some ⟨wb,0,none⟩) 4 (some ⟨sz h,0,none⟩,()) _ M;have ba:sz h<=sz A:=(C.trans v).size;have ah:∀b,t.blk=some b->b<sz h:=λb aq=>(W.o.lt aq).2;refine Zq9 (f:=ZxY G c) (R:=λd=>obj d F=some (.cells (ZHc (ZHb G c)).toArray 243 (0,0))) (hE.ext U) ok hb (W.ext U) hn (Zj c1 S) (show sz h≠wb by omega) (λe=>by have:sz h<sz h:=ah _ e;omega) (λhq=>(hq F (Zp cn) (show F≠wb by omega) (λe=>by have:=ah _ e;omega)).trans cn) (λk=>Ayg _) ?_ λh' t' l x hw Z s hl=>ao h' t' l x hw Z (WS.pre U s) hl;intro k ar d aB wt' t' l Q E' Z m hl cb bd ai;obtain⟨j,f,hj,hf⟩:=Zmj (show k∈ofL (λ_:Zas=>c.2.1) c.2.1 G.r.sy 0 from ar);rw[Awb]at hj;subst hj;show XF (j:Int) (some ⟨sz h,0,none⟩) (some ⟨F,0,none⟩) Q d;unfold XF Zcu;obtain⟨bb,oo,_,_,aj,hc⟩:=Zab (g:=Rw.ZdB) (n:=5) (λ_=>rfl) E'.rz.sy.1 hf (by decide);refine Zi (rP (Zb cb rfl) (Zi (rP (Zb Z.w rfl) (Zi (rL (s:=L.z.2.2.2.1) (Zb E'.cells rfl) (aj rfl (rI (hc 0 _ rfl) (rI (hc 1 _ rfl) (rI (hc 2 _ rfl) (rI (hc 3 _ rfl) (rI (hc 4 _ rfl) (Zi (rP (Zb cb rfl) (Zi (rI (Zb Z.w rfl) ?_)))))))))))))));refine Zi (rI (Zb m rfl) (rI (Zb m rfl) (rI (Zb m rfl) (rI (Zb m rfl) (rI (Zb m rfl) (rI (Zb m rfl) (rI (Zb m rfl) ?_)))))));refine Classical.choose_spec (Zp9 (Rw.Zqv f) c.2.2.2.2.2 (ZHb G c)) λV y=>⟨Yj (Zb (Zj cb y) rfl),Yj (Zb (E'.ext y).cells rfl),Yj (Zb (Z.ext y).w rfl),Yj (Zb (Zj cb y) rfl),Zd ?_⟩
   have e:ZxY G c (j:Int)=⟨!gsV (Rw.Zqv f) c.2.2.2.2.2 (ZHb G c),[],none⟩:=by
     unfold ZxY;rw[Aqu,hf]
   have fin:=ai V t' l (by rw[e,Ayt];exact Z.ext y) (WS.ext y);rw[e]at fin;exact fin
  ·intro Q hQ;obtain⟨a8,b8,d8⟩:=N v;have y8:=(hE.ext (C.trans v)).cells
   have H:∀d,Ext A d->Zo d [(L.eb,0+14,iv G.cp)]/\Zo d [(wb,0,.pointer (some ⟨L.eb,0,none⟩))]/\Zo d [(sz h,0,.pointer (some ⟨wb,0,none⟩))]/\Zo d [(L.eb,0+13,iv G.ld)]/\Zo d [(sz h3,0,iv (ZmY (G.t.f ZmI) c.1).1)]:=λd e=>by
     obtain⟨a9,b9,d9⟩:=N (v.trans e);have y9:=(hE.ext (C.trans (v.trans e))).cells;exact⟨Yj (Zb y9 rfl),Yj d9,Yj a9,Yj (Zb y9 rfl),Yj (Zb (Zj c8 e) rfl)⟩
   refine rI (Zb c8 rfl) (rP a8 (Zi (rP d8 (Zi (rI (Zb y8 rfl) (rP a8 (Zi (rP d8 (Zi (rI (Zb y8 rfl) ⟨?_,?_⟩))))))))))
   ·obtain⟨g1,D,E,g4,g5⟩:=H A (Ext.refl _);refine Zku (f2.ext P) ⟨g1,D,E,g4,D,E,g5,ZF λM c9 J z9=>?_⟩;obtain⟨g1,D,E,g4,g5⟩:=H M J;exact⟨g1,D,E,g4,D,E,g5,ZaN c9 λV X Y aw=>hQ _ _ ⟨sz A,rfl,X,J.then Y (λk I=>by subst I;exact Aqo _),Aqo _⟩⟩
   ·refine ZF λM c9 J z9=>?_;obtain⟨g1,D,E,g4,g5⟩:=H M J;exact⟨g1,D,E,g4,D,E,g5,Zku (f2.ext (P.trans J)) ⟨g1,D,E,g4,D,E,g5,ZaN c9 λV X Y aw=>hQ _ _ ⟨sz A,rfl,X,J.then Y (λk I=>by subst I;exact Aqo _),Aqo _⟩⟩⟩
end
theorem ZED{f:ZdX}(he:f.err=0):0<=f.index:=by
  unfold ZdX.err at he;split at he
  ·split at he
   ·rename_i _ a;unfold ZdX.good Js.inJ at a;simp only[Awn,decide_eq_true_eq]at a;omega
   ·cases he
  ·cases he
section
variable{h:Zf}{T:TgM}{L:Lay}{G:GS}{base wb:Nat}{t:Sl}{c:PC}{sl:Sl}{gr:Bool}{tks:List Tk}{wt:Int}{vs:List Value}
theorem ZlW{bx:Nat}(W:WkR h base wb L c sl gr tks wt t vs)(f:tks.length<=5000){v:Value}(hv:Zs v=true){K:Sl->Zf->Prop}(a:∀t' h',Own h' base t' 1 (vs++[v])->Upd (λk=>t.blk=some k) h h'->(t'.blk=t.blk\/t'.blk=some (sz h))->K t' h')(_:bx=bx):app 1 1 8 [.nilFunc] t 1 [v] h K:=by have hl:=W.o.len;simp only[Aqv]at hl;have d:=W.l;have lw:=Zp W.w;have e:=W.b;exact W.o.app (n:=1) rfl (by simp[hv]) rfl (by omega) (by omega) e λt' h' o _ u b=>a t' h' o u b
theorem ZEC{bx j:Nat}{f:ZdX}{H:HtS}{al:List ByteArray}(V:ZcQ h T L G)(ok:GOK G)(hb:∀j,T j≠none->j<base/\j≠wb)(W:WkR h base wb L c sl gr tks wt t vs)(hn:tks.length<=3000)(cb:obj h bx=some (.cells [.pointer (some ⟨wb,0,none⟩)].toArray 103 (0,0)))(n0:base<=bx)(n1:bx≠wb)(n2:t.blk≠some bx)
    (ha:Row h sl 1 (al.map .string)) (bI:al≠[]->∀b,sl.blk=some b->b<base/\b≠wb) (Y:G.r.ho[j]?=some f) (hH:G.ho[j]?=some H)
    {Q:Bool->Zf->Prop} (C:∀h' t' aQ,WkR h' base wb L c sl gr (tks++(ZnX G c al (j:Int)).tk) (wtV wt (ZnX G c al (j:Int)).wt) t' aQ->WS wb t t' h h'->Q (ZnX G c al (j:Int)).b h'):XL (j:Int) (some ⟨bx,0,none⟩) Q h:=by
  unfold XL Zeo;have lw:=Zp W.w;have lb:=W.b;have aR:=ZED (ok.good.h f (Axo Y));have aH:sl.len=al.length:=by have:=ha.len;simp at this;omega
  have aI:=ha.cap;have aJ:=ha.big;obtain⟨D,hL⟩:=V.gh hH;obtain⟨hp,aT,aU,bJ⟩:=V.rz.ho
  obtain ⟨p,aV,aW⟩:∃p,hp[j]?=some p/\p.2=f:=by
    rw[<-aT,Awy]at Y
    cases q:hp[j]? with
    |none=>rw[q]at Y;cases Y
    |some p=>rw[q]at Y;exact⟨p,rfl,Option.some.inj Y⟩
  subst aW
  have Z:ZnX G c al (j:Int)=(match al[p.2.index.toNat]? with
    |some v=>⟨!hlV H c.1 v c.2.2.2.2.2,[.hot j v],none⟩
    |none=>⟨false,[],none⟩):=by
    unfold ZnX;rw[Aqu,Y,hH];dsimp only;cases al[p.2.index.toNat]?<;>rfl
  refine ZoF (λ(s:Option Addr×Option Addr×Unit) a=>∃rb d,s.1=some ⟨rb,0,none⟩/\s.2.1=some ⟨d,0,none⟩/\obj a rb=some (.cells (Rw.ZjI p).toArray 72 (0,0))/\obj a d=some (.cells [pB D].toArray 166 (0,0))/\Ext h a/\sz h<=d) ?_ ?_
  ·rintro ⟨r,hq,u⟩ h1 ⟨rb,d,X,l,cr,ch,A,lx⟩;dsimp only at X l⊢;subst X;subst l;have W1:=W.ext A;have O:=Zj cb A;have aZ:=ha.ext A;have w1:sz h<=sz h1:=A.size;have bK:=Zp ch;refine Zi (rI (Zb cr rfl) (Zi (rP (Zb O rfl) (Zi (rL (s:=sl) (Zb W1.w rfl) (Zn (λq=>?_) λq=>?_))))))
   ·have aa:al[p.2.index.toNat]?=none:=Aqt (by omega);rw[aa]at Z;have fin:=C h1 t vs (by rw[Z,Ayt];exact W1) (WS.ext A);rw[Z]at fin;exact fin
   have ba:p.2.index.toNat<al.length:=by omega
   obtain⟨v,hv⟩:∃v,al[p.2.index.toNat]?=some v:=⟨_,Axy ba⟩;rw[hv]at Z;dsimp only at Z;refine Zi (Zi (rP (Zb O rfl) (Zi (rL (s:=sl) (Zb W1.w rfl) (rI (Zb cr rfl) (aZ.idx (i:=p.2.index) (n:=p.2.index.toNat) (by omega) (v:=.string v) (by rw[Awy,hv];rfl) λb o bL B=>⟨v,B,ZF λN c2 l z2=>?_⟩))))))
   have P:Zf.cell N b (o+p.2.index.toNat)=some (.string v):=by
     have bd:b<sz h1:=by
       rw[Yg]at B
       exact Classical.byContradiction λh9=>by
         rw[show obj h1 b=none from Aqe (by show h1.size<=b;have:¬b<h1.size:=h9;omega)]at B;cases B
     rw[Yg]at B⊢;rw[show obj N b=obj h1 b from l.old b bd];exact B
   have W2:=W1.ext l;have bf:=Zj O l;have w2:sz N=sz h1+1:=z2;refine⟨⟨P,trivial⟩,Yj (Zb (Zj cr l) rfl),Yj (Zb W2.w rfl),Yj (Zb bf rfl),ZcS c2 (show 0<1 by decide) rfl λh3 c3 u3 z3=>?_⟩;have w3:sz h3=sz N:=z3;have af:Ext h1 h3:=l.then u3 λk C=>by subst C;exact Aqo _
   have W3:=W1.ext af;have ag:=Zj O af;refine Zi (rP (Zb ag rfl) (Zi (rP (Zb ag rfl) (Zi (rL (s:=t) (Zb W3.w rfl) (ZF λR c4 e4 z4=>?_))))));have W4:=W3.ext e4;have E:=Zj ag e4;have w4:sz R=sz h3+1:=z4;have aw:=af.trans e4;have ax:=A.trans aw;refine⟨Yj (Zb W4.w rfl),Yj (Zb E rfl),Yj (Zb E rfl),(ZkO c4 rfl).rd ?_⟩;refine ZlW (bx:=0) W4 (by omega) rfl (λt' h5 o5 u5 b5=>?_) rfl;have E4:=V.ext ax;have ay:∀b,t.blk=some b->b<sz h:=λb hb=>(W.o.lt hb).2;have k5:∀{j:Nat} {x:Obj},obj R j=some x->t.blk≠some j->obj h5 j=some x:=λ{j x} d hn=>(u5.old j (Zp d) hn).trans d;have az:=k5 E n2;have w5:=k5 W4.w W.n;refine⟨Yj (Zb az rfl),Yj (Zb az rfl),Zi (ZcS w5 (show 0+9<12 by decide) rfl λh6 c6 u6 z6=>?_)⟩;have k6:∀{j:Nat} {x:Obj},obj R j=some x->t.blk≠some j->j≠wb->obj h6 j=some x:=λ{j x} d hn hw=>(u6.old j (Zp (k5 d hn)) hw).trans (k5 d hn);have ah:∀{b:Nat} {x:Obj} {o:Nat} {vv:Value},obj R b=some x->Zy o (some x)=some vv->base<=b->b≠wb->t.blk≠some b->Bx R base wb t b o vv:=λ{b x o vv} h1 N h3 R h5=>⟨by rw[h1];exact N,h3,Zp h1,R,h5⟩;have aA:=Zj ch aw;have aB:=Zj c3 e4;have aC:t.blk≠some d:=λe=>by have:=ay d e;omega
   have aD:t.blk≠some (sz h1):=λe=>by have:=ay _ e;omega
   obtain⟨W6,s6⟩:=W4.add (v:=.func (.func 122) #[] #[pB d,pB bx,pB (sz h1)]) (tk:=.hot j v) (t':=t') (h':=h5) (h'':=h6) ⟨d,bx,sz h1,D,rfl,ah aA rfl (by omega) (by omega) aC,ah E rfl n0 n1 n2,ah aB rfl (by omega) (by omega) aD,by rw[hL];rfl⟩ o5 u5 b5 c6 u6;have E6:=E4.walk hb W4 s6;have bk:=k6 aA aC (show d≠wb by omega);have S:=k6 E n2 n1;have bl:=k6 aB aD (show sz h1≠wb by omega);refine Zi (rP (Zb bk rfl) (Zi (rP (Zb S rfl) (Zi (rI (Zb W6.w rfl) (rS (Zb bl rfl) (Zi (rP (Zb S rfl) (Zi (rI (Zb W6.w rfl) ?_))))))))));obtain⟨Th,bm,_⟩:=E6.ho.e j (D,H) hL;obtain⟨er,_,hs⟩:=Classical.choose_spec (Zrq H c.1 v c.2.2.2.2.2);refine hs bm λh7 e7=>⟨Yj (Zb (Zj S e7) rfl),Yj (Zb (Zj S e7) rfl),Zd (Za (Zd ?_))⟩;have fin:=C h7 t' _ (by rw[Z];exact W6.ext e7) ((WS.pre ax s6).then e7);rw[Z]at fin;exact fin
  ·intro J hJ;obtain⟨U,oo,_,bn,aE,B⟩:=Zab (g:=Rw.ZjI) (n:=5) (λ_=>rfl) aU.1 aV (by decide);obtain⟨b2,o2,_,bo,ai,P⟩:=Zab (g:=λx:Nat×HtS=>[pN x.1]) (n:=1) (λ_=>rfl) V.ho.r hL (by decide);refine Zi (rP (Zb cb rfl) (Zi (rP (Zb W.w rfl) (Zi (rL (s:=L.z.2.2.1) (Zb V.cells rfl) (aE rfl (rS (B 0 _ rfl) (rI (B 1 _ rfl) (rI (B 2 _ rfl) (rI (B 3 _ rfl) (rL (s:=p.1) (B 4 _ rfl) (Zi (rP (Zb cb rfl) (Zi (rP (Zb W.w rfl) (Zi (rL (s:=L.h1) (Zb V.cells rfl) (ai rfl (rP (P 0 _ rfl) ?_)))))))))))))))))))
   have H:∀a,Ext h a->Zo a [(b2,o2,pB D)]/\Zo a [(L.eb,0+8+2,slV L.h1)]/\Zo a [(wb,0,.pointer (some ⟨L.eb,0,none⟩))]/\Zo a [(bx,0,.pointer (some ⟨wb,0,none⟩))]/\Zo a [(U,oo,.string (Zu p.2.res)),(U,oo+1,iv p.2.index),(U,oo+2,iv p.2.cnt),(U,oo+3,iv p.2.secs),(U,oo+4,slV p.1)]/\Zo a [(L.eb,0+3+2,slV L.z.2.2.1)]:=λa e=>by
     have kb:∀j v,(Rw.ZjI p)[j]?=some v->Zf.cell a U (oo+j)=some v:=λj v hj=>by
       rw[Yg,show obj a U=obj h U from e.old U bn];exact B j v hj
     have bp:Zf.cell a b2 o2=some (pB D):=by
       rw[Yg,show obj a b2=obj h b2 from e.old b2 bo];exact P 0 _ rfl
     exact⟨⟨bp,trivial⟩,Yj (Zb (V.ext e).cells rfl),Yj (Zb (W.ext e).w rfl),Yj (Zb (Zj cb e) rfl),⟨kb 0 _ rfl,kb 1 _ rfl,kb 2 _ rfl,kb 3 _ rfl,kb 4 _ rfl,trivial⟩,Yj (Zb (V.ext e).cells rfl)⟩
   refine⟨ZF λh1 c1 X z1=>?_,ZF λh1 c1 X z1=>?_⟩
   ·obtain ⟨F,I,m,y,g5,g6⟩:=H h1 X
    refine⟨F,I,m,y,g5,g6,m,y,ZF λN c2 l z2=>?_⟩;have K:=X.trans l;obtain⟨F,I,m,y,g5,g6⟩:=H N K;refine⟨F,I,m,y,g5,g6,m,y,ZaN (Zj c1 l) λh3 c3 u3 z3=>?_⟩;have w1:sz h1=sz h+1:=z1;have M:Ext h h3:=K.then u3 λk C=>by subst C;exact Aqo _
    obtain⟨F,I,m,y,_,_⟩:=H h3 M;have bt:obj h3 (sz h1)=_:=(u3.old (sz h1) (Zp c2) (show ¬sz h1=sz h by omega)).trans c2;refine⟨F,I,m,y,ZcS bt (show 0<1 by decide) rfl λR c4 u4 z4=>hJ _ _ ⟨sz h,sz h1,rfl,rfl,?_,c4,M.then u4 (λk C=>by subst C;show sz h<=sz h1;omega),by omega⟩⟩;exact(u4.old (sz h) (Zp c3) (show ¬sz h=sz h1 by omega)).trans c3
   ·obtain ⟨F,I,m,y,g5,g6⟩:=H h1 X
    refine⟨F,I,m,y,g5,g6,m,y,ZF λN c2 l z2=>?_⟩;have K:=X.trans l;obtain⟨F,I,m,y,g5,g6⟩:=H N K;refine⟨F,I,m,y,g5,g6,m,y,ZaN c2 λh3 c3 u3 z3=>?_⟩;have w1:sz h1=sz h+1:=z1;have M:Ext h h3:=K.then u3 λk C=>by subst C;show sz h<=sz h1;omega
    obtain⟨F,I,m,y,_,_⟩:=H h3 M;have bu:obj h3 (sz h)=_:=(u3.old (sz h) (Zp (Zj c1 l)) (show ¬sz h=sz h1 by omega)).trans (Zj c1 l);refine⟨F,I,m,y,ZcS bu (show 0<1 by decide) rfl λR c4 u4 z4=>hJ _ _ ⟨sz h1,sz h,rfl,rfl,?_,c4,M.then u4 (λk C=>by subst C;exact Aqo _),by omega⟩⟩;exact(u4.old (sz h1) (Zp c3) (show ¬sz h1=sz h by omega)).trans c3
theorem ZHB{al:List ByteArray}(C:ZcQ h T L G)(ok:GOK G)(v:∀j,T j≠none->j<base/\j≠wb)(W:WkR h base wb L c sl gr tks wt t vs)(D:tks.length<=2000)(E:Row h sl 1 (al.map .string))(d:al≠[]->∀b,sl.blk=some b->b<base/\b≠wb)
    {K:Int->Bool->Zf->Prop} (F:∀h' t' a x,ZfJ (ZnX G c al) (ofK G.r 3 c.2.1) (tks,wt)=x->WkR h' base wb L c sl gr x.2.1 x.2.2 t' a->WS wb t t' h h'->x.2.1.length<=tks.length+256->K (x.1.getD 0) x.1.isSome h'):ZbD (some ⟨wb,0,none⟩) K h:=by
  unfold ZbD ZfU;have lw:=Zp W.w;have lb:=W.b;refine ZF λh1 c1 m P=>Za (rP (Zb c1 rfl) ?_);show ZC ZaZ XL (some ⟨wb,0,none⟩) 3 (some ⟨sz h,0,none⟩,()) _ h1;have n:=E.ext m;refine Zq9 (f91:=XL) (f:=ZnX G c al) (R:=λy=>Row y sl 1 (al.map .string)) (C.ext m) ok v (W.ext m) D c1 (show sz h≠wb by omega) (λe=>by have:sz h<sz h:=(W.o.lt e).2;omega) (λI=>n.congr λb o g i hl=>I b hl ?_ ?_) (λk=>?_) ?_ λh' t' a x hw p s hl=>F h' t' a x hw p (WS.pre m s) hl
  ·exact(d (λq=>i (by rw[q];rfl)) b (by simp[Sl.blk,g])).2
  ·intro e;have:=(d (λq=>i (by rw[q];rfl)) b (by simp[Sl.blk,g])).1;have:=(W.o.lt e).1;omega
  ·unfold ZnX;split
   ·split
    ·exact Aqo _
    ·exact Ayg _
   ·exact Ayg _
  intro k u y z wt' t' a Q J p M hl cb N l;obtain⟨j,f,A,B⟩:=Zmj (show k∈ofL (λf:ZdX=>Zu f.res) c.2.1 G.r.ho 0 from u);rw[Awb]at A;subst A;obtain⟨H,O⟩:∃H,G.ho[j]?=some H:=⟨_,Axy (by rw[ok.lh];exact ZbP B)⟩;exact ZEC J ok v p hl cb (show base<=sz h by omega) (show sz h≠wb by omega) N M d B O l
end
section
variable{h:Zf}{T:TgM}{L:Lay}{G:GS}{base wb:Nat}{t:Sl}{c:PC}{sl:Sl}{gr:Bool}{tks:List Tk}{wt:Int}{vs:List Value}
theorem ZyL{bx j:Nat}{B:BkW}(E:ZcQ h T L G)(J:∀j,T j≠none->j<base/\j≠wb)(W:WkR h base wb L c sl gr tks wt t vs)(q:tks.length<=3000)(cb:obj h bx=some (.cells [.pointer (some ⟨wb,0,none⟩)].toArray 103 (0,0)))(n0:base<=bx)(V:bx≠wb)(K:t.blk≠some bx)(X:G.br[j]?=some B)
    {Q:Bool->Zf->Prop} (M:∀h' t' N,WkR h' base wb L c sl gr (tks++(ZnY G c (j:Int)).tk) (wtV wt (ZnY G c (j:Int)).wt) t' N->WS wb t t' h h'->Q (ZnY G c (j:Int)).b h'):Xq (j:Int) (some ⟨bx,0,none⟩) Q h:=by
  unfold Xq Zc7;have lw:=Zp W.w;have lb:=W.b;obtain⟨Y,O⟩:=E.gb X
  have Z:ZnY G c (j:Int)=⟨!ZuG B.1.1 c.1,[.brk j],none⟩:=by
    unfold ZnY;rw[Aqu,X]
  obtain⟨b,o,_,_,u,hc⟩:=Zab (g:=λx:Nat×BkW=>bkL x.1 x.2.2) (n:=2) (λ_=>rfl) E.br.r O (by decide);refine Zi (rP (Zb cb rfl) (Zi (rP (Zb W.w rfl) (Zi (rL (s:=L.b1) (Zb E.cells rfl) (u rfl (rP (hc 0 _ rfl) (rI (hc 1 _ rfl) (ZF λh1 c1 e1 z1=>ZaN c1 λh3 c3 u3 z3=>?_)))))))));have w1:sz h1=sz h+1:=z1;have w3:sz h3=sz h1:=z3;have d:Ext h h3:=e1.then u3 λk M=>by subst M;exact Aqo _
  have W3:=W.ext d;have f:=Zj cb d;refine Zi (rP (Zb f rfl) (Zi (rP (Zb f rfl) (Zi (rL (s:=t) (Zb W3.w rfl) (ZF λp c4 F z4=>?_))))));have y:=W3.ext F;have a:=Zj f F;have z:=d.trans F;refine⟨Yj (Zb y.w rfl),Yj (Zb a rfl),Yj (Zb a rfl),(ZkO c4 rfl).rd ?_⟩;refine ZlW (bx:=0) y (by omega) rfl (λt' H o5 u5 b5=>?_) rfl;have E4:=E.ext z;have P:∀b,t.blk=some b->b<sz h:=λb J=>(W.o.lt J).2;have I:∀{j:Nat} {x:Obj},obj p j=some x->t.blk≠some j->obj H j=some x:=λ{j x} A q=>(u5.old j (Zp A) q).trans A;have C:=I a K;have w5:=I y.w W.n;refine⟨Yj (Zb C rfl),Yj (Zb C rfl),Zi (ZcS w5 (show 0+9<12 by decide) rfl λR c6 u6 z6=>?_)⟩;have k6:∀{j:Nat} {x:Obj},obj p j=some x->t.blk≠some j->j≠wb->obj R j=some x:=λ{j x} A q hw=>(u6.old j (Zp (I A q)) hw).trans (I A q);have i:∀{b:Nat} {x:Obj} {o:Nat} {S:Value},obj p b=some x->Zy o (some x)=some S->base<=b->b≠wb->t.blk≠some b->Bx p base wb t b o S:=λ{b x o S} h1 h2 h3 p H=>⟨by rw[h1];exact h2,h3,Zp h1,p,H⟩;have l:=Zj c3 F;have m:t.blk≠some (sz h):=λe=>by have:sz h<sz h:=P _ e;omega
  obtain⟨W6,s6⟩:=y.add (v:=.func (.func 128) #[] #[pB (sz h),pB bx]) (tk:=.brk j) (t':=t') (h':=H) (h'':=R) ⟨sz h,bx,Y,B.2,rfl,i l rfl (by omega) (by omega) m,i l rfl (by omega) (by omega) m,i a rfl n0 V K,by rw[O];rfl⟩ o5 u5 b5 c6 u6;have E6:=E4.walk J y s6;have D:=k6 a K V;have U:=k6 l m (show sz h≠wb by omega);refine rP (Zb U rfl) (Zi (rP (Zb D rfl) (Zi (rI (Zb W6.w rfl) ?_))));obtain⟨wn,mb,cB,_⟩:=(E6.br.e j (Y,B) O).ex;refine Zwy cB λe9=>⟨Yj (Zb D rfl),Zd (Za (Zd ?_))⟩;have fin:=M R t' _ (by rw[Z];exact W6) (WS.pre z s6);rw[Z]at fin;exact fin
theorem ZBw(q:ZcQ h T L G)(ok:GOK G)(m:∀j,T j≠none->j<base/\j≠wb)(W:WkR h base wb L c sl gr tks wt t vs)(u:tks.length<=2000)
    {K:Int->Bool->Zf->Prop} (v:∀h' t' a x,ZfJ (ZnY G c) (ofK G.r 2 c.2.1) (tks,wt)=x->WkR h' base wb L c sl gr x.2.1 x.2.2 t' a->WS wb t t' h h'->x.2.1.length<=tks.length+256->K (x.1.getD 0) x.1.isSome h'):ZaB (some ⟨wb,0,none⟩) K h:=by
  unfold ZaB Zes;have lw:=Zp W.w;have lb:=W.b;refine ZF λh1 c1 g D=>Za (rP (Zb c1 rfl) ?_);show ZC ZaZ Xq (some ⟨wb,0,none⟩) 2 (some ⟨sz h,0,none⟩,()) _ h1;refine Zq9 (f91:=Xq) (f:=ZnY G c) (R:=λ_=>True) (q.ext g) ok m (W.ext g) u c1 (show sz h≠wb by omega) (λe=>by have:sz h<sz h:=(W.o.lt e).2;omega) (λ_=>trivial) (λk=>?_) ?_ λh' t' a x hw i s hl=>v h' t' a x hw i (WS.pre g s) hl
  ·unfold ZnY;split
   ·exact Aqo _
   ·exact Ayg _
  intro k l E n wt' t' a Q y i _ hl cb z d;obtain⟨j,f,p,A⟩:=Zmj (show k∈ofL (λf:YK=>Zu f.res) c.2.1 G.r.br 0 from l);rw[Awb]at p;subst p;obtain⟨B,C⟩:∃B,G.br[j]?=some B:=⟨_,Axy (by rw[ok.lb];exact ZbP A)⟩;exact ZyL y m i hl cb (show base<=sz h by omega) (show sz h≠wb by omega) z C d
end
end Go.Proofs.YtonbfpnngkemiaaGreat
