/- The states of rules that begin: breakers. -/
import Derived.Test.YthbfgkphlmlihaaGreatPa15
set_option linter.unusedVariables false
set_option linter.unusedSimpArgs false
namespace Go.Proofs.YthbfgkphlmlihaaGreat
open Go Go.Fw Go.Js
abbrev ZHz (eb b8 b12:Nat):Int->Int->Zf->(Zf->Prop)->Prop:=λp t74 a Q=>Zc p λq=>Zc t74 λi76=>Zm (decide (i76>=0)) ( ldL a b12 (0+1) λt77=>ldL a b8 (0+1) λt78=>YS t78.ptr t78.len i76 2 λj k=>ldP a j k λt81=>ldI a j (k+1) .i64 λt82=>newC a [.pointer t81,iv t82] 95 λr e=>Zu (Zo e [(b8,0+1,.slice t78.ptr t78.len t78.cap)]) <| Zu (Zo e [(b12,0+1,.slice t77.ptr t77.len t77.cap)]) <| rdS ⟨some ⟨r,0,none⟩,1,1⟩ 2 e λi=>app 95 2 16 [.pointer none,iv 0] t77 1 i e λt85 l=>Zu (Zo l [(b8,0+1,.slice t78.ptr t78.len t78.cap)]) <| st l b12 (0+1) (.slice t85.ptr t85.len t85.cap) λs=>Q s) ( Ze (some ⟨eb,0,none⟩) λt u=>ldL a t (u+3+1) λt91=>YS t91.ptr t91.len q 7 λb c=>ldS a b c λt94=>ldI a b (c+1) .u8 λt95=>ldI a b (c+2) .i64 λt96=>ldI a b (c+3) .i64 λt97=>ldI a b (c+4) .i64 λt98=>ldI a b (c+5) .i64 λt99=>ldI a b (c+6) .i64 λt100=>ZeR (t94,t95,t96,t97,t98,t99,t100,()) (λt101 t102 g=>Zc t102 λx=>ldI g b12 (0+3) .i64 λt104=>st g b12 (0+3) (iv (IntKind.wrap .i64 (t104+1))) λd=>ldL d b12 (0+1) λt106=>ldI d b12 (0+3) .i64 λt107=>newC d [.pointer t101,iv t107] 95 λm h=>rdS ⟨some ⟨m,0,none⟩,1,1⟩ 2 h λf=>app 95 2 16 [.pointer none,iv 0] t106 1 f h λt110 n=>st n b12 (0+1) (.slice t110.ptr t110.len t110.cap) λo=>Q o) a)
abbrev mkB (f:Sl) (g:Int) (s:Sl):Obj:= .cells [slV f,slV s,slV nl,iv g].toArray 78 (0,0)
abbrev PB (h:Zf) (T:TgM) (x:Nat × BkW):Prop:=BrP h T x.1 x.2
theorem Zyd:ZpX PB:=λa k s _=>Zok k s a id
abbrev ZIm (hA:Zf) (b12:Nat) (f:Sl) (g:Int):=ZsA hA b12 (mkB f g) 2 (λx:Nat × BkW=>bkL x.1 x.2.2) (λx=>[x.1]) PB
theorem ZEY {f:YK} (he:f.err=0):WOK (bkZ f):=by
  unfold YK.err at he;split at he
  ·split at he
   ·rename_i _ a
    unfold YK.good Js.inJ at a;simp only [Awn,decide_eq_true_eq] at a;exact a.1.2.2
   ·cases he
  ·cases he
section
variable {hA hh:Zf} {eb sb tb fm b8 b12 m:Nat} {G:GS} {z:Rw.VTR} {f1 b1 h1 s fx:Sl} {g0 g k:Int} {T T':TgM} {old done:List (Nat × BkW)} {KL:List Int} {A:List YK} {f:YK}
theorem ZNZ
    (ce:obj hA eb=some (geO G sb tb fm z f1 b1 h1)) (c8:obj hA b8=some (.cells [slV f1,slV b1,slV h1,iv g0].toArray 78 (0,0))) (n8:b8≠b12) (ne:eb≠b12) (hb:b12<sz hA) (hT:∀ j,T j≠none->j<sz hA) (ho:(old.flatMap λx=>[x.1]).Nodup) (L:∀ b,b∈(old.flatMap λx=>[x.1])->b<sz hA)
    (hK:∀ {i j k:Nat},KL[i]?=some (k:Int)->KL[j]?=some (k:Int)->i=j) (aA:KL.length<=256) (hk:KL[m]?=some k) (X:k = -1\/∃ (j:Nat) (x:Nat × BkW),k=(j:Int)/\old[j]?=some x)
    (hz:Row hA z.2.1 7 (A.flatMap Rw.Zdl)) (Y:z.2.1.len≠0->z.2.1.blk≠some b12) (Z:Row hA b1 2 (old.flatMap λx=>bkL x.1 x.2.2)) (aa:b1.len≠0->b1.blk≠some b12) (ae:∀ (i:Nat) x,old[i]?=some x->PB hA T x) (he:f.err=0) (hl:f.res.length<9223372036854775807) (hf:A[m]?=some f)
    (I:ZIm hA b12 fx g old T KL m hh s done T') {Q:Zf->Prop} (hQ:∀ h' s' x g' T'',ZIm hA b12 fx g' old T KL (m+1) h' s' (done++[x]) T''->(∀ C E,Zk2 (old.map (·.2)) (k::C) (f::E) g=(x.2::(Zk2 (old.map (·.2)) C E g').1,(Zk2 (old.map (·.2)) C E g').2))->Q h'):ZHz eb b8 b12 m k hh Q:=by
  have w0:sz hA<=sz hh:=I.u.size;have ml:m<KL.length:=Zbz hk;have sl:s.len=m:=by have:=Zao (g:=λx:Nat × BkW=>bkL x.1 x.2.2) (λ_=>rfl) I.o.row (by decide);rw [I.l] at this;exact this
  have af:=YZ ce I.u ne;have F:=YZ c8 I.u n8
  have fin:∀ {h1 a:Zf} {x:Nat × BkW} {g':Int} {T'':TgM},Upd (· = b12) hh h1->Ext h1 a->Sel (λx:Nat × BkW=>[x.1]) old KL (sz hA) (sz h1) (done++[x])->Zdm T' T''->(∀ j,T'' j≠none->T' j≠none\/(sz hh<=j/\j<sz h1))->(∀ b,s.blk=some b->T'' b=none)->T'' b12=none->PB h1 T'' x->(∀ C E,Zk2 (old.map (·.2)) (k::C) (f::E) g=(x.2::(Zk2 (old.map (·.2)) C E g').1,(Zk2 (old.map (·.2)) C E g').2))->sz a=sz h1+1->obj a b12=some (mkB fx g' s) ->
      ∀ {W:Sl->Zf->Prop},(∀ s' h3,(∀ {vs},obj a b8=some vs->obj h3 b8=some vs)->st h3 b12 (0+1) (.slice s'.ptr s'.len s'.cap) Q->W s' h3)->app 95 2 16 [.pointer none,iv 0] s 1 (bkL x.1 x.2.2) a W:=λ{h1 a x g' T''} u1 w M sub new nb ah H hp R J {W} hW=>by
    have w1:sz hh<=sz h1:=u1.size;have o2:Own a (sz hA) s 2 (done.flatMap λx=>bkL x.1 x.2.2):=(I.o.congr (h':=h1) λb d q ai=>u1.old b q (by have:sz hA<=b:=ai;show ¬ b=b12;omega)).congr λb d q _=>w.old b q;refine o2.app (n:=1) rfl rfl rfl (by omega) (by omega) (by show sz hA<=sz a;omega) λs' h3 o3 l3 u3 b3=>?_;have keep:∀ {j:Nat} {vs:Obj},j<sz hA->obj a j=some vs->obj h3 j=some vs:=λ{j vs} h hv=>(u3.old j (Zp hv) λe=>by have:=(I.o.lt e).1;omega).trans hv;refine hW s' h3 (λhv=>keep (Zp c8) hv) (Zbg (keep hb J) (show 0+1<4 by decide) rfl λh4 c4 u4 z4=>hQ h4 s' x g' T'' ?_ hp);have w2:sz h1<=sz a:=w.size;refine (show ZIm hA b12 fx g' old T KL (m+1) h4 s' (done++[x]) T'' from ?_);refine ZsA.add (h1:=a) I Zyd hT hb (u1.trans (w.upd _)) o3 u3 c4 u4 (b3.imp id id) (M.top w2) sub (λj h=>(new j h).imp id λS=>⟨S.1,by omega⟩) nb ah (Zok (D:=λ_=>False) (λj t ht _=>w.old j ?_) (Zdm.refl T'') H id)
    rcases new j (Xa ht) with y | y
    ·rcases I.new j y with y | y
     ·have:=hT j y;show j<sz h1;omega
     ·show j<sz h1;omega
    ·exact y.2
  refine Za (Za ?_)
  rcases X with K | ⟨j,x,K,H⟩
  ·subst K
   obtain ⟨U,oo,_,_,v,B⟩:=ZbD (g:=Rw.Zdl) (n:=7) (λ_=>rfl) (Zdo hz Y I.u) hf (by decide);have hw:=ZEY he;refine Zi rfl (Zg (rL (s:=z.2.1) (Zb af rfl) (v rfl (rS (B 0 _ rfl) (rI (B 1 _ rfl) (rI (B 2 _ rfl) (rI (B 3 _ rfl) (rI (B 4 _ rfl) (rI (B 5 _ rfl) (rI (B 6 _ rfl) (ZyW (r:=bkZ f) hw (λS K9 ak=>Rw.Zlz (f:=f) hl λh8 e8=>by rw [he];exact ak h8 e8) λh1 U O N V hO=>?_)))))))))));have w1:sz hh<=sz h1:=V.size;have bR:=N.ex;obtain ⟨wb,mb,cb,_,ob,_,_⟩:=bR
   have ao:∀ j,T' j≠none->j<sz hh:=λj h=>by
     rcases I.new j h with y | y
     ·have:=hT j y;omega
     ·exact y.2
   refine Za (rI (Zb (Zj I.c V) rfl) (Zbg (Zj I.c V) (show 0+3<4 by decide) rfl λa J u2 R=>rL (s:=s) (Zb J rfl) (rI (Zb J rfl) (ZI λh3 c3 e3 z3=>(Zj4 c3 rfl).rd ?_))));have s2:sz a=sz h1:=R;refine fin (x:=(U,⟨⟨bkZ f,1,0,0,0,⟨0,λ_=>Go.Proofs.YthbfgkphlmlihaaGreat.z6⟩⟩,hw⟩,IntKind.wrap .i64 (g+1))) (T'':=Zh5 T' (.p U) (sz hh) (sz h1)) (g':=IntKind.wrap .i64 (g+1)) ((V.upd _).trans u2) e3 ((I.sel.new L (by show sz hA<=sz hh;exact w0) w1 (by simp) λb d=>by simp at d;subst d;exact hO _ ob).top (by omega)) (ZgD ao) (λj h=>?_) (λb d=>?_) ?_ ?_ ?_ z3 (Zj J e3) λs' h4 k1 hs=>hs
   ·unfold Zh5 at h
    split at h
    ·exact .inr (by omega)
    ·exact .inl h
   ·have S:=(I.o.lt d).2
    have:b<sz hh:=S;unfold Zh5;rw [if_neg (by omega)];exact I.sb b d
   ·unfold Zh5
    rw [if_neg (by omega)];exact I.b
   ·refine (N.congr (h':=a) λj h q=>u2.old j q (by have:=hO j h;show ¬ j=b12;omega)).mono λj h=>Zir (hO j h)
   ·intro C E
    rw [ZAD (by decide)];unfold BkW.new;rw [dif_pos hw]
  ·subst K
   have P:=Zdo Z aa I.u;obtain ⟨U,oo,_,_,v,B⟩:=ZbD (g:=λx:Nat × BkW=>bkL x.1 x.2.2) (n:=2) (λ_=>rfl) P H (by decide);refine Zl (by simp) (rL (s:=s) (Zb I.c rfl) (rL (s:=b1) (Zb F rfl) (v rfl (rP (B 0 _ rfl) (rI (B 1 _ rfl) (ZI λa J w R=>⟨ZZ (Zb (Zj F w) rfl),ZZ (Zb (Zj I.c w) rfl),(Zj4 J rfl).rd ?_⟩))))));refine fin (x:=x) (g':=g) (T'':=T') (Upd.refl _ _) w (I.sel.keep ho L hK (by rw [I.l];exact hk) H) (Zdm.refl T') (λj h=> .inl h) I.sb I.b (ZsA.keepOld I Zyd hT H (ae j x H)) (λC E=>?_) R (Zj I.c w) λs' h3 k1 hs=>⟨ZZ (Zb (k1 (Zj F w)) rfl),hs⟩;rw [Zru (by omega),Aqu,Awy,H];rfl
end
abbrev ZHx (eb b8 b12:Nat):Int->Int->Zf->(Zf->Prop)->Prop:=λl t125 a Q=>Zc l λm=>Zc t125 λi127=>Zm (decide (i127>=0)) ( ldL a b12 (0+2) λt128=>ldL a b8 (0+2) λt129=>YS t129.ptr t129.len i127 1 λn o=>ldP a n o λt132=>newC a [.pointer t132] 138 λp d=>Zu (Zo d [(b8,0+2,.slice t129.ptr t129.len t129.cap)]) <| Zu (Zo d [(b12,0+2,.slice t128.ptr t128.len t128.cap)]) <| rdS ⟨some ⟨p,0,none⟩,1,1⟩ 1 d λf=>app 138 1 8 [.pointer none] t128 1 f d λt135 h=>Zu (Zo h [(b8,0+2,.slice t129.ptr t129.len t129.cap)]) <| st h b12 (0+2) (.slice t135.ptr t135.len t135.cap) λq=>Q q) ( Ze (some ⟨eb,0,none⟩) λi j=>Ze (some ⟨eb,0,none⟩) λr s=>Ze (some ⟨eb,0,none⟩) λt u=>ldL a i (j+3+2) λt145=>YS t145.ptr t145.len m 5 λb c=>ldS a b c λt148=>ldI a b (c+1) .i64 λt149=>ldI a b (c+2) .i64 λt150=>ldI a b (c+3) .i64 λt151=>ldL a b (c+4) λt152=>ldI a r s .i64 λt153=>ldI a t (u+1) .u64 λt154=>ZjE (t148,t149,t150,t151,t152,()) t153 t154 (λt155 t156 e=>Zu (Zo e [(i,j+3+2,.slice t145.ptr t145.len t145.cap)]) <| Zc t156 λy=>ldL e b12 (0+2) λt159=>newC e [.pointer t155] 138 λv k=>rdS ⟨some ⟨v,0,none⟩,1,1⟩ 1 k λg=>app 138 1 8 [.pointer none] t159 1 g k λt162 w=>st w b12 (0+2) (.slice t162.ptr t162.len t162.cap) λx=>Q x) a)
abbrev mkH (f b:Sl) (g:Int) (s:Sl):Obj:= .cells [slV f,slV b,slV s,iv g].toArray 78 (0,0)
abbrev PH (h:Zf) (T:TgM) (x:Nat × HtS):Prop:=HoP h T x.1 x.2
theorem Zyb:ZpX PH:=λa k s hz=>ZnZ k s hz a id
abbrev ZIk (hA:Zf) (b12:Nat) (f b:Sl) (g:Int):=ZsA hA b12 (mkH f b g) 1 (λx:Nat × HtS=>[pN x.1]) (λx=>[x.1]) PH
section
variable {hA hh:Zf} {eb sb tb fm b8 b12 m:Nat} {G:GS} {z:Rw.VTR} {f1 b1 h1 s fx bx:Sl} {g0 g k:Int} {T T':TgM} {old done:List (Nat × HtS)} {KL:List Int} {A:List (Sl × Zex)} {f:Sl × Zex}
theorem ZNX
    (ce:obj hA eb=some (geO G sb tb fm z f1 b1 h1)) (c8:obj hA b8=some (.cells [slV f1,slV b1,slV h1,iv g0].toArray 78 (0,0))) (n8:b8≠b12) (ne:eb≠b12) (hb:b12<sz hA) (hT:∀ j,T j≠none->j<sz hA) (ho:(old.flatMap λx=>[x.1]).Nodup) (K:∀ b,b∈(old.flatMap λx=>[x.1])->b<sz hA)
    (hK:∀ {i j k:Nat},KL[i]?=some (k:Int)->KL[j]?=some (k:Int)->i=j) (aC:KL.length<=256) (hk:KL[m]?=some k) (U:k = -1\/∃ (j:Nat) (x:Nat × HtS),k=(j:Int)/\old[j]?=some x)
    (hz:Row hA z.2.2.1 5 (A.flatMap Rw.Zlr)) (V:z.2.2.1.len≠0->z.2.2.1.blk≠some b12) (hi:Row hA f.1 2 (Rw.Zht f.2.items)) (X:f.1.len≠0->f.1.blk≠some b12) (Y:Row hA h1 1 (old.flatMap λx=>[pN x.1])) (Z:h1.len≠0->h1.blk≠some b12) (aa:∀ (i:Nat) x,old[i]?=some x->PH hA T x) (he:f.2.err=0) (hl:f.2.res.length<9223372036854775807) (hm:1<=G.keys/\G.keys<=4096) (hf:A[m]?=some f)
    (I:ZIk hA b12 fx bx g old T KL m hh s done T') {Q:Zf->Prop} (hQ:∀ h' s' x T'',ZIk hA b12 fx bx g old T KL (m+1) h' s' (done++[x]) T''->x.2=Zji (λf:Zex=>HtS.new f G.keys G.seed) (old.map (·.2)) k f.2->Q h'):ZHx eb b8 b12 m k hh Q:=by
  have w0:sz hA<=sz hh:=I.u.size;have ml:m<KL.length:=Zbz hk;have sl:s.len=m:=by have:=Zao (g:=λx:Nat × HtS=>[pN x.1]) (λ_=>rfl) I.o.row (by decide);rw [I.l] at this;exact this
  have w:=YZ ce I.u ne;have y:=YZ c8 I.u n8
  have fin:∀ {h1 h:Zf} {x:Nat × HtS} {T'':TgM},Upd (· = b12) hh h1->Ext h1 h->Sel (λx:Nat × HtS=>[x.1]) old KL (sz hA) (sz h1) (done++[x])->Zdm T' T''->(∀ j,T'' j≠none->T' j≠none\/(sz hh<=j/\j<sz h1))->(∀ b,s.blk=some b->T'' b=none)->T'' b12=none->PH h1 T'' x->x.2=Zji (λf:Zex=>HtS.new f G.keys G.seed) (old.map (·.2)) k f.2->sz h=sz h1+1->obj h b12=some (mkH fx bx g s) ->
      ∀ {W:Sl->Zf->Prop},(∀ s' h3,(∀ {vs},obj h b8=some vs->obj h3 b8=some vs)->st h3 b12 (0+2) (.slice s'.ptr s'.len s'.cap) Q->W s' h3)->app 138 1 8 [.pointer none] s 1 [pN x.1] h W:=λ{h1 h x T''} u1 r L sub new nb af B hp z2 c2 {W} hW=>by
    have w1:sz hh<=sz h1:=u1.size;have o2:Own h (sz hA) s 1 (done.flatMap λx=>[pN x.1]):=(I.o.congr (h':=h1) λb a C ah=>u1.old b C (by have:sz hA<=b:=ah;show ¬ b=b12;omega)).congr λb a C _=>r.old b C;refine o2.app (n:=1) rfl rfl rfl (by omega) (by omega) (by show sz hA<=sz h;omega) λs' h3 o3 l3 u3 b3=>?_;have keep:∀ {j:Nat} {vs:Obj},j<sz hA->obj h j=some vs->obj h3 j=some vs:=λ{j vs} d hv=>(u3.old j (Zp hv) λe=>by have:=(I.o.lt e).1;omega).trans hv;refine hW s' h3 (λhv=>keep (Zp c8) hv) (Zbg (keep hb c2) (show 0+2<4 by decide) rfl λh4 c4 u4 z4=>hQ h4 s' x T'' ?_ hp);have w2:sz h1<=sz h:=r.size;refine (show ZIk hA b12 fx bx g old T KL (m+1) h4 s' (done++[x]) T'' from ?_);refine ZsA.add (h1:=h) I Zyb hT hb (u1.trans (r.upd _)) o3 u3 c4 u4 (b3.imp id id) (L.top w2) sub (λj d=>(new j d).imp id λh9=>⟨h9.1,by omega⟩) nb af (ZnZ (D:=λ_=>False) (λj t ht _=>r.old j ?_) (Zdm.refl T'') w2 B id)
    rcases new j (Xa ht) with v | v
    ·rcases I.new j v with v | v
     ·have:=hT j v;show j<sz h1;omega
     ·show j<sz h1;omega
    ·exact v.2
  refine Za (Za ?_)
  rcases U with E | ⟨j,x,E,B⟩
  ·subst E
   obtain ⟨M,oo,_,_,q,F⟩:=ZbD (g:=Rw.Zlr) (n:=5) (λ_=>rfl) (Zdo hz V I.u) hf (by decide);refine Zi rfl (Zg (Zg (Zg (rL (s:=z.2.2.1) (Zb w rfl) (q rfl (rS (F 0 _ rfl) (rI (F 1 _ rfl) (rI (F 2 _ rfl) (rI (F 3 _ rfl) (rL (s:=f.1) (F 4 _ rfl) (rI (Zb w rfl) (rI (Zb w rfl) (ZyV he hl hm (Zdo hi X I.u) λh1 M Th H hO N=>?_)))))))))))));have w1:sz hh<=sz h1:=N.size
   have O:∀ j,Th j≠none->j<sz h1:=λj d=>by
     obtain ⟨si,S,wm,kb,f9,n9,wt,an,lb,J⟩:=H.ex;exact J.lt j d
   have P:Th M≠none:=by
     obtain ⟨si,S,wm,kb,f9,n9,wt,an,lb,J⟩:=H.ex;rw [J.me];exact λe=>by cases e
   have ao:∀ j,T' j≠none->j<sz hh:=λj d=>by
     rcases I.new j d with v | v
     ·have:=hT j v;omega
     ·exact v.2
   refine ⟨ZZ (Zb (Zj w N) rfl),Za (rL (s:=s) (Zb (Zj I.c N) rfl) (ZI λh3 c3 e3 z3=>(Zj4 c3 rfl).rd ?_))⟩;refine fin (x:=(M,HtS.new f.2 G.keys G.seed)) (T'':=Zh5 T' (.p M) (sz hh) (sz h1)) (N.upd _) e3 (I.sel.new K (by show sz hA<=sz hh;exact w0) w1 (by simp) λb a=>by simp at a;subst a;exact ⟨hO _ P,O _ P⟩) (ZgD ao) (λj d=>?_) (λb a=>?_) ?_ ⟨Th,H,λj d=>Zir ⟨hO j d,O j d⟩⟩ ?_ z3 (Zj (Zj I.c N) e3) λs' h4 k1 hs=>hs
   ·unfold Zh5 at d
    split at d
    ·exact .inr (by omega)
    ·exact .inl d
   ·have h9:=(I.o.lt a).2
    have:b<sz hh:=h9;unfold Zh5;rw [if_neg (by omega)];exact I.sb b a
   ·unfold Zh5
    rw [if_neg (by omega)];exact I.b
   ·unfold Zji
    rw [if_neg (by decide)]
  ·subst E
   have R:=Zdo Y Z I.u;obtain ⟨M,oo,_,_,q,F⟩:=ZbD (g:=λx:Nat × HtS=>[pN x.1]) (n:=1) (λ_=>rfl) R B (by decide);refine Zl (by simp) (rL (s:=s) (Zb I.c rfl) (rL (s:=h1) (Zb y rfl) (q rfl (rP (F 0 _ rfl) (ZI λh c2 r z2=>⟨ZZ (Zb (Zj y r) rfl),ZZ (Zb (Zj I.c r) rfl),(Zj4 c2 rfl).rd ?_⟩)))));refine fin (x:=x) (T'':=T') (Upd.refl _ _) r (I.sel.keep ho K hK (by rw [I.l];exact hk) B) (Zdm.refl T') (λj d=> .inl d) I.sb I.b (ZsA.keepOld I Zyb hT B (aa j x B)) ?_ z2 (Zj I.c r) λs' h3 k1 hs=>⟨ZZ (Zb (k1 (Zj y r)) rfl),hs⟩;unfold Zji;rw [if_pos (by omega),Aqu,Awy,B];rfl
end
theorem ZsA.fin {σ:Type} {a d h:Zf} {c b2:Nat} {mk:Sl->Obj} {n:Nat} {q:σ->List Value} {hd:σ->List Nat} {P:Zf->TgM->σ->Prop} {old:List σ} {T T1 T':TgM} {KL:List Int} {m:Nat} {s:Sl} {done:List σ} (I:ZsA a c mk n q hd P old T KL m d s done T1) (r:ZpX P) (hT:∀ j,T j≠none->j<sz a) (U:Upd (λj=>j=c\/j=b2) d h) (A:c<sz a) (v:b2<sz a) (y:T b2=none) (sub:Zdm T1 T') :
    Row h s n (done.flatMap q)/\(∀ (i:Nat) x,done[i]?=some x->P h T' x)/\∀ b,s.blk=some b->sz a<=b/\b<sz d:=by
  have w:=I.u.size;refine ⟨(I.o.congr (h':=h) λb f l p=>U.old b l λe=>?_).row,λi x z=>r (I.e i x z) (λj t k _=>U.old j ?_ λe=>?_) sub U.size,λb f=>I.o.lt f⟩
  ·have:sz a<=b:=p
   rcases e with e | e<;>omega
  ·rcases I.new j (Xa k) with g | g
   ·have:=hT j g;show j<sz d;have:sz a<=sz d:=w;omega
   ·exact g.2
  ·rcases e with e | e
   ·rw [e,I.b] at k;cases k
   ·rcases I.new j (Xa k) with g | g
    ·rw [e] at g;exact g y
    ·omega
def tagS (T:TgM) (s:Sl):TgM:=λj=>if s.blk=some j then some .ro else T j
theorem Zip {T:TgM} {s:Sl} (h:∀ b,s.blk=some b->T b=none):Zdm T (tagS T s):=λj a=>if_neg λe=>a (h j e)
theorem Zqe {T:TgM} {s:Sl}:Rw.inS (roT (tagS T s)) s:=λ_ b a=>if_pos a
theorem Ziq {T:TgM} {s:Sl} {j:Nat} (h:tagS T s j≠none):T j≠none\/s.blk=some j:=by
  unfold tagS at h;split at h
  ·rename_i q;exact .inr q
  ·exact .inl h
theorem ZnS {h:Zf} {a b:Nat} {kt:Sl} {l:List Int} {c:Zf} (o:Own h a kt 1 (l.map iv)) (d:b<a) (u:Upd (· = b) h c):Row c kt 1 (l.map iv):=(Zsu o u d).row
theorem Znr {h:Zf} {T:TgM} {x:Sl} {b:Nat} (o:Rw.inS (roT T) x) (a:T b=none):x.len≠0->x.blk≠some b:=λhl e=>by
  have:=o hl b e;rw [show T b=some .ro from this] at a;cases a
theorem ZEf {α σ:Type} {same:α->α->Bool} {a now:List α} {old:List σ} (hl:old.length=a.length) {i:Nat} {k:Int} (c:(Zew same a now (List.replicate a.length false))[i]?=some k):k = -1\/∃ (j:Nat) (x:σ),k=(j:Int)/\old[j]?=some x:=by
  rcases ZmV (by simp) c with e | ⟨j,w,b,h1,d,_⟩
  ·exact .inl e
  ·refine .inr ⟨j,?_⟩
   have:=Zbz d;exact ⟨_,h1,Axy (show j<old.length by omega)⟩
def hd3 (fs:List (ShP × ShS)) (bs:List (Nat × BkW)) (hs:List (Nat × HtS)):List Nat:=fs.flatMap (λx=>hdP x.1)++(bs.flatMap (λx=>[x.1])++hs.flatMap (λx=>[x.1]))
theorem ZHk {fs:List (ShP × ShS)} {bs:List (Nat × BkW)} {hs:List (Nat × HtS)} (h:(hd3 fs bs hs).Nodup):(fs.flatMap (λx=>hdP x.1)).Nodup/\(bs.flatMap (λx=>[x.1])).Nodup/\(hs.flatMap (λx=>[x.1])).Nodup/\(∀ b,b∈fs.flatMap (λx=>hdP x.1)->b∉bs.flatMap (λx=>[x.1])/\b∉hs.flatMap (λx=>[x.1]))/\∀ b,b∈bs.flatMap (λx=>[x.1])->b∉hs.flatMap (λx=>[x.1]):=by
  unfold hd3 at h;rw [List.nodup_append] at h;obtain ⟨f,d,e⟩:=h;rw [List.nodup_append] at d;obtain ⟨g,i,j⟩:=d;exact ⟨f,g,i,λb c=>⟨λa=>e b c b (Axx.2 (.inl a)) rfl,λa=>e b c b (Axx.2 (.inr a)) rfl⟩,λb c a=>j b c b a rfl⟩
theorem ZGX {fs:List (ShP × ShS)} {bs:List (Nat × BkW)} {hs:List (Nat × HtS)} (h1:(fs.flatMap (λx=>hdP x.1)).Nodup) (g:(bs.flatMap (λx=>[x.1])).Nodup) (h3:(hs.flatMap (λx=>[x.1])).Nodup) (f:∀ b,b∈fs.flatMap (λx=>hdP x.1)->b∉bs.flatMap (λx=>[x.1])/\b∉hs.flatMap (λx=>[x.1])) (i:∀ b,b∈bs.flatMap (λx=>[x.1])->b∉hs.flatMap (λx=>[x.1])):(hd3 fs bs hs).Nodup:=by
  unfold hd3;rw [List.nodup_append];refine ⟨h1,?_,λa c b d e=>?_⟩
  ·rw [List.nodup_append]
   exact ⟨g,h3,λa c b d e=>i a c (e▸d)⟩
  ·subst e
   rcases Axx.1 d with h | h
   ·exact (f a c).1 h
   ·exact (f a c).2 h
theorem Zt1 {α:Type} {o:Option α} {t:α} (h:o=some t):o≠none:=by rw [h];exact λe=>by cases e
theorem ZEZ {h:Zf} {T:TgM} {L:Lay} {G:GS} {r:RulesP} {W z':Rw.VTR} (c:obj h L.eb=some (geO G L.sb L.tb L.fm z' L.f1 L.b1 L.h1)) (hW:Rw.Y8 h (roT T) W G.r) (hz:Rw.Y8 h (roT T) z' r) (fl:FlR h T L.f1 L.fs) (br:BsR h T L.b1 L.bs) (ho:HsR h T L.h1 L.hs)
    (lf:L.fs.map (·.2)=G.fl) (lb:L.bs.map (·.2)=G.br) (lh:L.hs.map (·.2)=G.ho) (ok:GOK G) (hr:r.whereE.2.2=0) (hf:Rw.RulesP.fit r) (nd:(hd3 L.fs L.bs L.hs).Nodup) (hT:∀ j,T j≠none->j<sz h) {K:(Sl × Sl × Sl × Int × Unit)->Zf->Prop}
    (hk:∀ h' T' bc bd bf ax ay az,FlR h' T' bc ax->BsR h' T' bd ay->HsR h' T' bf az->ax.map (·.2)=(G.load r).fl->ay.map (·.2)=(G.load r).br->az.map (·.2)=(G.load r).ho->(hd3 ax ay az).Nodup->(∀ b,b∈hd3 ax ay az->b∈hd3 L.fs L.bs L.hs\/sz h<=b)->Zdm T T'->(∀ j,T' j≠none->T j≠none\/(sz h<=j/\j<sz h'))->Ext h h'->K (bc,bd,bf,(G.load r).g,()) h'):Zbm (some ⟨L.eb,0,none⟩) W K h:=by
  have X:=ZqN hr;have gw:=ok.good;obtain ⟨bI,bJ,bK,bg,bL⟩:=ZHk nd;have cU:=Zp c;unfold Zbm Zdz;refine ZI λh1 c1 e1 z1=>ZI λE c2 e2 z2=>Zg ?_;have y2:=Zj c (e1.trans e2);refine rL (s:=L.f1) (Zb y2 rfl) (rL (s:=L.b1) (Zb y2 rfl) (rL (s:=L.h1) (Zb y2 rfl) (rI (Zb y2 rfl) (ZI λh3 c3 e3 z3=>Zbb c3 λd c4 u4 z4=>rI (Zb c4 rfl) (ZI λh5 c5 e5 z5=>Zbb c5 λh6 c6 u6 z6=>Zg ?_)))));have s1:sz h1=sz h+1:=z1;have s2:sz E=sz h1+1:=z2;have s3:sz h3=sz E+1:=z3;have s4:sz d=sz h3:=z4;have s5:sz h5=sz d+1:=z5;have s6:sz h6=sz h5:=z6;have bN:Ext E d:=e3.then u4 λk hk=>by subst hk;exact Aqo _
  have bk:Ext d h6:=e5.then u6 λk hk=>by subst hk;exact Aqo _
  have aA:=bN.trans bk;have aR:Ext h h6:=(e1.trans e2).trans aA;have y6:=Zj y2 aA;have k6:=Zj c1 (e2.trans aA);have x6:=Zj c2 aA;have d6:=Zj c4 bk
  have Tn:∀ j,sz h<=j->T j=none:=λj D=>by
    cases q:T j with
    | none=>rfl
    | some t=>have:=Zby hT q;omega
  have bP:=hz.ext aR;have bQ:=hW.ext aR;refine rL (s:=z'.1) (Zb y6 rfl) (rL (s:=W.1) (Zb k6 rfl) (ZEj bP.fl.1 bQ.fl.1 X.s.f gw.s.f λZ kt eA oA=>?_));have wA:sz h6<=sz Z:=eA.size;have Y:=aR.trans eA;have bl:∀ j,T j≠none->j<sz Z:=λj D=>by have:=hT j D;omega
  have bR:(kpF G r).length=r.fl.length:=Zf8;have kA:Zdj (λ_=>False) T h Z:=λj t ht _=>Y.old j (Zby hT ht)
  refine ZnW (KL:=kpF G r) (kt:=kt) (body:=ZHy L.eb (sz E) (sz d)) (λm hh=>∃ s done T1,ZIl Z (sz d) G.g L.fs T (kpF G r) m hh s done T1/\done.map (·.2)++Zrt ShS.new G.fl ((kpF G r).drop m) (r.fl.drop m)=Zrt ShS.new G.fl (kpF G r) r.fl) (by have:=X.s.f;omega)
    (λm hh ⟨s,done,T1,I,_⟩=>ZnS oA (show sz d<sz h6 by omega) I.u) ⟨nl,[],T,⟨Upd.refl _ _,Zj c6 eA,Own.nil _ _ _,rfl,Sel.nil,Zdm.refl T,λj D=> .inl D,λb l=>(by cases l),Tn _ (by omega),λi x F=>(by cases F)⟩,rfl⟩ ?_ ?_
  ·rintro m k hh Q n ⟨s,done,T1,I,ag⟩ hQ
   have N:m<r.fl.length:=by have:=Zbz n;omega
   obtain ⟨f,B⟩:∃ f,r.fl[m]?=some f:=⟨_,Axy N⟩;refine ZNY (z:=z') (f1:=L.f1) (b1:=L.b1) (h1:=L.h1) (sb:=L.sb) (tb:=L.tb) (fm:=L.fm) (G:=G) (g0:=G.g) (Zj y6 eA) (Zj d6 eA) (show sz E≠sz d by omega) (show L.eb≠sz d by omega) (show sz d<sz Z by omega) bl bI (λb l=>?_) (λh1 E=>Zlp (by simp) h1 E) (by rw [bR];exact X.s.f) n (ZEf (by rw [<- ok.lf,<- lf,Ayv]) n) (hz.ext Y).fl.1 (Znr (h:=Z) hz.fl.2 (Tn _ (by omega))) (fl.r.ext Y) (Znr (h:=Z) fl.o (Tn _ (by omega))) (λi x F=>Znf kA (Zdm.refl T) (fl.e i x F) λ_ _=>id) (X.f f (Axo B)) B I λh' s' x T'' I' F=>hQ h' ⟨s',done++[x],T'',I',?_⟩
   ·obtain ⟨y,hy,v⟩:=List.mem_flatMap.1 l
    obtain ⟨i,hi⟩:=Ayi hy;have:=(Zpx (fl.e i y hi)).2 b v;have:=Zby hT this;omega
   ·rw [<- ag,Ayw,Ayx]
    congr 1;rw [Ayo (Zbz n),Ayo N];have a1:=(Ayh.1 n).2;have a2:=(Ayh.1 B).2;show [x.2]++_=Zji ShS.new G.fl (kpF G r)[m] r.fl[m]::_;rw [a1,a2,F,lf];rfl
  rintro hB ⟨w,done1,T1,O,aI⟩;rw [Ayq (Aqo _),show Zrt ShS.new G.fl [] (r.fl.drop (kpF G r).length)=[] from rfl,Ayt] at aI;have wB:sz Z<=sz hB:=O.u.size;have uB:Upd (· = sz d) Z hB:=O.u;have yB:=YZ (Zj y6 eA) uB (show ¬ L.eb=sz d by omega);have kB:=YZ (Zj k6 eA) uB (show ¬ sz h=sz d by omega);have dB:=YZ (Zj d6 eA) uB (show ¬ sz E=sz d by omega);have xB:=YZ (Zj x6 eA) uB (show ¬ sz h1=sz d by omega);have bT:Rw.Y8 hB (roT T) z' r:=(hz.ext Y).keep λb l P=>uB.old b P λe=>by have e':b=sz d:=e;have:=Zby hT l;omega
  have bV:Rw.Y8 hB (roT T) W G.r:=(hW.ext Y).keep λb l P=>uB.old b P λe=>by have e':b=sz d:=e;have:=Zby hT l;omega
  have aJ:∀ b,w.blk=some b->T1 b=none:=O.sb;refine Zg (rL (s:=z'.2.1) (Zb yB rfl) (rL (s:=W.2.1) (Zb kB rfl) (ZEi bT.br.1 bV.br.1 X.s.b gw.s.b λhC bW eC oC=>?_)));have wC:sz hB<=sz hC:=eC.size;have bq:Upd (· = sz d) h hC:=(Y.upd _).trans (uB.trans (eC.upd _));have ai:Ext h hC:=bq.ext λk R e=>by have:k<sz h:=R;omega
  have bX:∀ j,T1 j≠none->j<sz hB:=λj D=>by
    rcases O.new j D with g | g
    ·have:=hT j g;omega
    ·exact g.2
  have aT:∀ j,tagS T1 w j≠none->j<sz hC:=λj D=>by
    rcases Ziq D with g | g
    ·have:=bX j g;omega
    ·have:=(O.o.lt g).2;have:j<sz hB:=this;omega
  have aU:Zdm T (tagS T1 w):=O.sub.trans (Zip aJ)
  have aV:∀ j,sz h<=j->j<sz Z->tagS T1 w j=none:=λj h1 E=>by
    cases q:tagS T1 w j with
    | none=>rfl
    | some t =>
      rcases Ziq (Xa q) with g | g
      ·rcases O.new j g with g | g
       ·rw [Tn j h1] at g;exact absurd rfl g
       ·omega
      ·have:=(O.o.lt g).1;have:sz Z<=j:=this;omega
  have kC:Zdj (λ_=>False) T h hC:=λj t ht _=>ai.old j (Zby hT ht);have bY:(kpB G r).length=r.br.length:=Zf8
  refine ZnW (KL:=kpB G r) (kt:=bW) (body:=ZHz L.eb (sz E) (sz d)) (λm hh=>∃ s done g' T2,ZIm hC (sz d) w g' L.bs (tagS T1 w) (kpB G r) m hh s done T2/\Zk2 G.br (kpB G r) r.br G.g=(done.map (·.2)++(Zk2 G.br ((kpB G r).drop m) (r.br.drop m) g').1,(Zk2 G.br ((kpB G r).drop m) (r.br.drop m) g').2)) (by have:=X.s.b;omega)
    (λm hh ⟨s,done,g',T2,I,_⟩=>ZnS oC (show sz d<sz hB by omega) I.u) ⟨nl,[],G.g,tagS T1 w,⟨Upd.refl _ _,Zj O.c eC,Own.nil _ _ _,rfl,Sel.nil,Zdm.refl _,λj D=> .inl D,λb l=>(by cases l),aV _ (by omega) (by omega),λi x F=>(by cases F)⟩,rfl⟩ ?_ ?_
  ·rintro m k hh Q n ⟨s,done,g',T2,I,ag⟩ hQ
   have N:m<r.br.length:=by have:=Zbz n;omega
   obtain ⟨f,B⟩:∃ f,r.br[m]?=some f:=⟨_,Axy N⟩;refine ZNZ (z:=z') (f1:=L.f1) (b1:=L.b1) (h1:=L.h1) (sb:=L.sb) (tb:=L.tb) (fm:=L.fm) (G:=G) (g0:=G.g) (Zj yB eC) (Zj dB eC) (show sz E≠sz d by omega) (show L.eb≠sz d by omega) (show sz d<sz hC by omega) aT bJ (λb l=>?_) (λh1 E=>Zlp (by simp) h1 E) (by rw [bY];exact X.s.b) n (ZEf (by rw [<- ok.lb,<- lb,Ayv]) n) (hz.ext ai).br.1 (Znr (h:=hC) hz.br.2 (Tn _ (by omega))) (br.r.ext ai) (Znr (h:=hC) br.o (Tn _ (by omega))) (λi x F=>Zok kC aU (br.e i x F) id) (X.b f (Axo B)) (hf.2.1 f (Axo B)) B I λh' s' x bZ T'' I' F=>hQ h' ⟨s',done++[x],bZ,T'',I',?_⟩
   ·obtain ⟨y,hy,v⟩:=List.mem_flatMap.1 l
    obtain ⟨i,hi⟩:=Ayi hy;simp at v;subst v;obtain ⟨wb,mb,cb,_⟩:=(br.e i y hi).ex;have:=Zp cb;omega
   ·rw [ag,Ayo (Zbz n),Ayo N]
    have a1:=(Ayh.1 n).2;have a2:=(Ayh.1 B).2;rw [a1,a2,<- lb,F,Ayw,Ayx];rfl
  rintro hD ⟨C,aj,g2,T2,J,ak⟩;rw [Ayq (Aqo _),show Zk2 G.br [] (r.br.drop (kpB G r).length) g2=([],g2) from (by cases r.br.drop (kpB G r).length<;>rfl),Ayt] at ak;have ca:aj.map (·.2)=(G.load r).br:=by show _=(Zk2 G.br (kpB G r) r.br G.g).1;rw [ak]
  have pg:g2=(G.load r).g:=by show _=(Zk2 G.br (kpB G r) r.br G.g).2;rw [ak]
  have wD:sz hC<=sz hD:=J.u.size;have uD:Upd (· = sz d) hC hD:=J.u;have yD:=YZ (Zj yB eC) uD (show ¬ L.eb=sz d by omega);have kD:=YZ (Zj kB eC) uD (show ¬ sz h=sz d by omega);have dD:=YZ (Zj dB eC) uD (show ¬ sz E=sz d by omega);have xD:=YZ (Zj xB eC) uD (show ¬ sz h1=sz d by omega);have cc:Rw.Y8 hD (roT T) z' r:=(hz.ext ai).keep λb l P=>uD.old b P λe=>by have e':b=sz d:=e;have:=Zby hT l;omega
  have cd:Rw.Y8 hD (roT T) W G.r:=(hW.ext ai).keep λb l P=>uD.old b P λe=>by have e':b=sz d:=e;have:=Zby hT l;omega
  obtain ⟨zp,aF,aX,bt⟩:=cc.ho;obtain ⟨wp,aY,cf,cg⟩:=cd.ho;have cj:zp.length=r.ho.length:=by rw [<- aF,Ayv]
  have bu:wp.length=G.r.ho.length:=by rw [<- aY,Ayv]
  have ck:∀ p,p∈zp->p.2∈r.ho:=λp hp=>by rw [<- aF];exact Axz.2 ⟨p,hp,rfl⟩
  have cm:∀ p,p∈wp->p.2∈G.r.ho:=λp hp=>by rw [<- aY];exact Axz.2 ⟨p,hp,rfl⟩
  refine Zg (rL (s:=z'.2.2.1) (Zb yD rfl) (rL (s:=W.2.2.1) (Zb kD rfl) (ZEh aX.1 cf.1 (λp hp=>?_) (by rw [cj];exact X.s.h) (by rw [bu];exact gw.s.h) λhE cq eE oE=>?_)))
  ·rcases hp with hp | hp
   ·exact ⟨(bt p hp).1,X.s.hi _ (ck p hp)⟩
   ·exact ⟨(cg p hp).1,gw.s.hi _ (cm p hp)⟩
  rw [aF,aY,bu] at oE;have wE:sz hD<=sz hE:=eE.size;have cr:Upd (· = sz d) h hE:=bq.trans (uD.trans (eE.upd _));have aH:Ext h hE:=cr.ext λk R e=>by have:k<sz h:=R;omega
  have aK:∀ b,C.blk=some b->T2 b=none:=J.sb
  have ct:∀ j,T2 j≠none->j<sz hD:=λj D=>by
    rcases J.new j D with g | g
    ·have:=aT j g;omega
    ·exact g.2
  have bw:∀ j,tagS T2 C j≠none->j<sz hE:=λj D=>by
    rcases Ziq D with g | g
    ·have:=ct j g;omega
    ·have:=(J.o.lt g).2;have:j<sz hD:=this;omega
  have aL:Zdm (tagS T1 w) (tagS T2 C):=J.sub.trans (Zip aK)
  have bx:∀ j,sz h<=j->j<sz Z->tagS T2 C j=none:=λj h1 E=>by
    cases q:tagS T2 C j with
    | none=>rfl
    | some t =>
      rcases Ziq (Xa q) with g | g
      ·rcases J.new j g with g | g
       ·rw [aV j h1 E] at g;exact absurd rfl g
       ·omega
      ·have:=(J.o.lt g).1;have:sz hC<=j:=this;omega
  have kE:Zdj (λ_=>False) T h hE:=λj t ht _=>aH.old j (Zby hT ht);have cu:(kpH G r).length=r.ho.length:=Zf8
  refine ZnW (KL:=kpH G r) (kt:=cq) (body:=ZHx L.eb (sz E) (sz d)) (λm hh=>∃ s done T3,ZIk hE (sz d) w C g2 L.hs (tagS T2 C) (kpH G r) m hh s done T3/\done.map (·.2)++Zrt (λf=>HtS.new f G.keys G.seed) G.ho ((kpH G r).drop m) (r.ho.drop m)=Zrt (λf=>HtS.new f G.keys G.seed) G.ho (kpH G r) r.ho) (by have:=X.s.h;omega)
    (λm hh ⟨s,done,T3,I,_⟩=>ZnS oE (show sz d<sz hD by omega) I.u) ⟨nl,[],tagS T2 C,⟨Upd.refl _ _,Zj J.c eE,Own.nil _ _ _,rfl,Sel.nil,Zdm.refl _,λj D=> .inl D,λb l=>(by cases l),bx _ (by omega) (by omega),λi x F=>(by cases F)⟩,rfl⟩ ?_ ?_
  ·rintro m k hh Q n ⟨s,done,T3,I,ag⟩ hQ
   have N:m<r.ho.length:=by have:=Zbz n;omega
   obtain ⟨f,B⟩:∃ f,zp[m]?=some f:=⟨_,Axy (by omega)⟩;have ao:r.ho[m]?=some f.2:=by rw [<- aF,Awy,B];rfl
   have bz:=bt f (Axo B);refine ZNX (z:=z') (f1:=L.f1) (b1:=L.b1) (h1:=L.h1) (sb:=L.sb) (tb:=L.tb) (fm:=L.fm) (G:=G) (g0:=G.g) (A:=zp) (Zj yD eE) (Zj dD eE) (show sz E≠sz d by omega) (show L.eb≠sz d by omega) (show sz d<sz hE by omega) bw bK (λb l=>?_) (λh1 E=>Zlp (by simp) h1 E) (by rw [cu];exact X.s.h) n (ZEf (by rw [<- ok.lh,<- lh,Ayv]) n) (aX.1.ext eE) (Znr (h:=hE) aX.2 (Tn _ (by omega))) (bz.1.ext eE) (Znr (h:=hE) bz.2 (Tn _ (by omega))) (ho.r.ext aH) (Znr (h:=hE) ho.o (Tn _ (by omega))) (λi x F=>ZnZ kE (aU.trans aL) aH.size (ho.e i x F) id) (X.h f.2 (Axo ao)) (hf.2.2.1 f.2 (Axo ao)).1 ok.keys B I λh' s' x T'' I' F=>hQ h' ⟨s',done++[x],T'',I',?_⟩
   ·obtain ⟨y,hy,v⟩:=List.mem_flatMap.1 l
    obtain ⟨i,hi⟩:=Ayi hy;simp at v;subst v;obtain ⟨Th,⟨si,S,wm,kb,f9,n9,wt,cv,cw,aq⟩,ht⟩:=ho.e i y hi;have:=aq.lw aq.me;have:=Zby hT (ht y.1 (Zt1 aq.me));omega
   ·rw [<- ag,Ayw,Ayx]
    congr 1;rw [Ayo (Zbz n),Ayo N];have a1:=(Ayh.1 n).2;have a2:=(Ayh.1 ao).2;show [x.2]++_=Zji (λf=>HtS.new f G.keys G.seed) G.ho (kpH G r)[m] r.ho[m]::_;rw [a1,a2,F,lh];rfl
  rintro hG ⟨H,aZ,T3,M,aM⟩;rw [Ayq (Aqo _),show Zrt (λf=>HtS.new f G.keys G.seed) G.ho [] (r.ho.drop (kpH G r).length)=[] from rfl,Ayt] at aM;have wG:sz hE<=sz hG:=M.u.size;have xG:=YZ (Zj xD eE) M.u (show sz h1≠sz d by omega);refine rL (s:=w) (Zb M.c rfl) (rL (s:=C) (Zb M.c rfl) (rL (s:=H) (Zb M.c rfl) (rI (Zb M.c rfl) (Zbb xG λhF cF uF zF=>rL (s:=w) (Zb cF rfl) (rL (s:=C) (Zb cF rfl) (rL (s:=H) (Zb cF rfl) (rI (Zb cF rfl) ?_)))))));have wF:sz hG<=sz hF:=uF.size;have bA:∀ {a b:Zf},Upd (· = sz d) a b->Upd (λj=>j=sz d\/j=sz h1) a b:=λu=>u.mono λj _ D=> .inl D;have UG:Upd (λj=>j=sz d\/j=sz h1) hG hF:=uF.mono λj _ D=> .inr D;have UE:Upd (λj=>j=sz d\/j=sz h1) hE hF:=(bA M.u).trans UG;have UD:Upd (λj=>j=sz d\/j=sz h1) hD hF:=(eE.upd _).trans UE;have UB:Upd (λj=>j=sz d\/j=sz h1) hB hF:=(eC.upd _).trans ((bA J.u).trans UD);have bB:∀ b,H.blk=some b->T3 b=none:=M.sb;have aN:Zdm T3 (tagS T3 H):=Zip bB;have U:Zdm (tagS T2 C) (tagS T3 H):=M.sub.trans aN;have V:Zdm (tagS T1 w) (tagS T3 H):=aL.trans U;obtain ⟨cz,cB,cC⟩:=O.fin (b2:=sz h1) Zyc bl UB (by omega) (by omega) (Tn _ (by omega)) ((Zip aJ).trans V);obtain ⟨cD,cE,cG⟩:=J.fin (b2:=sz h1) Zyd aT UD (by omega) (by omega) (aV _ (by omega) (by omega)) ((Zip aK).trans U);obtain ⟨cH,cI,cJ⟩:=M.fin (b2:=sz h1) Zyb bw UG (by omega) (by omega) (bx _ (by omega) (by omega)) aN;have fin:=hk hF (tagS T3 H) w C H done1 aj aZ ⟨cz,Zqe.mono λb l=>V.to l,cB⟩ ⟨cD,Zqe.mono λb l=>U.to l,cE⟩ ⟨cH,Zqe,cI⟩ aI ca aM ?_ ?_ (aU.trans V) ?_ ?_
  ·rw [<- pg] at fin
   exact fin
  ·have aO:∀ b,b∈L.fs.flatMap (λx=>hdP x.1)->b<sz h:=λb l=>by
     obtain ⟨y,hy,v⟩:=List.mem_flatMap.1 l;obtain ⟨i,hi⟩:=Ayi hy;exact Zby hT ((Zpx (fl.e i y hi)).2 b v)
   have aP:∀ b,b∈L.bs.flatMap (λx=>[x.1])->b<sz h:=λb l=>by
     obtain ⟨y,hy,v⟩:=List.mem_flatMap.1 l;obtain ⟨i,hi⟩:=Ayi hy;simp at v;subst v;obtain ⟨wb,mb,cb,_⟩:=(br.e i y hi).ex;exact Zp cb
   have aQ:∀ b,b∈L.hs.flatMap (λx=>[x.1])->b<sz h:=λb l=>by
     obtain ⟨y,hy,v⟩:=List.mem_flatMap.1 l;obtain ⟨i,hi⟩:=Ayi hy;simp at v;subst v;obtain ⟨Th,⟨si,S,wm,kb,f9,n9,wt,cv,cw,aq⟩,ht⟩:=ho.e i y hi;exact Zby hT (ht y.1 (Zt1 aq.me))
   refine ZGX O.sel.nd J.sel.nd M.sel.nd (λb l=>⟨λh9=>?_,λh9=>?_⟩) λb l h9=>?_
   ·rcases O.sel.heads l with g | g<;>rcases J.sel.heads h9 with g9 | g9
    ·exact (bg b g).1 g9
    ·have:=aO b g;omega
    ·have:=aP b g9;omega
    ·omega
   ·rcases O.sel.heads l with g | g<;>rcases M.sel.heads h9 with g9 | g9
    ·exact (bg b g).2 g9
    ·have:=aO b g;omega
    ·have:=aQ b g9;omega
    ·omega
   ·rcases J.sel.heads l with g | g<;>rcases M.sel.heads h9 with g9 | g9
    ·exact bL b g g9
    ·have:=aP b g;omega
    ·have:=aQ b g9;omega
    ·omega
  ·intro b l
   unfold hd3 at l ⊢
   rcases Axx.1 l with l | l
   ·rcases O.sel.heads l with g | g
    ·exact .inl (Axx.2 (.inl g))
    ·exact .inr (by omega)
   ·rcases Axx.1 l with l | l
    ·rcases J.sel.heads l with g | g
     ·exact .inl (Axx.2 (.inr (Axx.2 (.inl g))))
     ·exact .inr (by omega)
    ·rcases M.sel.heads l with g | g
     ·exact .inl (Axx.2 (.inr (Axx.2 (.inr g))))
     ·exact .inr (by omega)
  ·intro j D
   rcases Ziq D with g | g
   ·rcases M.new j g with g | g
    ·rcases Ziq g with g | g
     ·rcases J.new j g with g | g
      ·rcases Ziq g with g | g
       ·rcases O.new j g with g | g
        ·exact .inl g
        ·exact .inr ⟨by omega,by omega⟩
       ·have:=cC j g;exact .inr ⟨by omega,by omega⟩
      ·exact .inr ⟨by omega,by omega⟩
     ·have:=cG j g;exact .inr ⟨by omega,by omega⟩
    ·exact .inr ⟨by omega,by omega⟩
   ·have:=cJ j g;exact .inr ⟨by omega,by omega⟩
  ·refine (aH.then M.u λk R=>?_).then uF λk R=>?_
   ·subst R;show sz h<=sz d;omega
   ·subst R;show sz h<=sz h1;omega
def Zjq (q:Nat):TgM:=λj=>if j=q then some (.p q) else if j=q+1\/j=q+2 then some (.p (q+2)) else if j=q+3 then some (.p (q+3)) else if j=q+4 then some (.p (q+4)) else none
theorem ZE4 {keys seed:Int} (y:1<=keys/\keys<=4096) {h:Zf} {K:Option Addr->Int->Zf->Prop} (t:∀ h' T L,Zba h' T L (GS.new keys seed)->(∀ j,T j≠none->sz h<=j)->Ext h h'->K (some ⟨L.eb,0,none⟩) 0 h'):Zg7 keys seed K h:=by
  unfold Zg7 ZkT;refine Za (Zi (decide_eq_false (by omega)) (Zi (decide_eq_false (by omega)) (ZyL λh1 c1 u f=>Zv2 λz t2 r m=>ZlE.new λh3 g n z3=>ZI λo c l z4=>Za ?_)));simp only [YP] at g z3 c z4 ⊢;rw [f] at t2 c;rw [m,f] at g c;rw [z3,m,f] at c ⊢;have v:sz h+1+2+1=sz h+4:=by omega
  have w:sz h+1+2=sz h+3:=by omega
  rw [v] at c ⊢;rw [w] at c g;have A:sz o=sz h+5:=by rw [z4,z3,m,f]
  have t0:Zjq (sz h) (sz h)=some (.p (sz h)):=by unfold Zjq;rw [if_pos rfl]
  have t1:∀ j,j=sz h+1\/j=sz h+1+1->Zjq (sz h) j=some (.p (sz h+2)):=λj a=>by unfold Zjq;rw [if_neg (by omega),if_pos (by omega)]
  have t3:Zjq (sz h) (sz h+3)=some (.p (sz h+3)):=by unfold Zjq;rw [if_neg (by omega),if_neg (by omega),if_pos rfl]
  have t4:Zjq (sz h) (sz h+4)=some (.p (sz h+4)):=by unfold Zjq;rw [if_neg (by omega),if_neg (by omega),if_neg (by omega),if_pos rfl]
  have hT:∀ j,Zjq (sz h) j≠none->sz h<=j/\j<sz o:=λj a=>by
    unfold Zjq at a;split at a
    ·omega
    ·split at a
     ·omega
     ·split at a
      ·omega
      ·split at a
       ·omega
       ·exact absurd rfl a
  have b:∀ {S:Nat->Prop},Rw.inS S nl:=λ{S} hl=>absurd rfl hl;have d:∀ {s:Zf} {S:Nat->Prop},Rw.Y8 s S (nl,nl,nl,nl,nl,()) ⟨[],[],[],[],[]⟩:=λ{s S}=>⟨⟨Row.nil _ _,b⟩,⟨Row.nil _ _,b⟩,⟨[],rfl,⟨Row.nil _ _,b⟩,λp q=>(by cases q)⟩,⟨Row.nil _ _,b⟩,⟨[],rfl,⟨Row.nil _ _,b⟩,λp q=>(by cases q)⟩⟩;refine t o (Zjq (sz h)) ⟨sz h+4,sz h,sz h+2,sz h+3,(nl,nl,nl,nl,nl,()),(nl,nl,nl,nl,nl,()),0,nl,nl,nl,[],[],[]⟩ ⟨c,t4,Zj c1 ((r.trans n).trans l),t0,d,d,(t2.ext (n.trans l)).mono λj a=>t1 j a,⟨λ_=>none,0,g.congr (ZG l (by omega)),λk=> .inl ⟨rfl,rfl⟩⟩,t3,rfl,rfl,rfl,⟨Row.nil _ _,b,λi x e=>(by cases e)⟩,⟨Row.nil _ _,b,λi x e=>(by cases e)⟩,⟨Row.nil _ _,b,λi x e=>(by cases e)⟩,?_,λj a=>(hT j a).2⟩ (λj a=>(hT j a).1) (((u.trans r).trans n).trans l);simp [Lay.hds]
section
variable {h:Zf} {T:TgM} {L:Lay} {G:GS}
theorem ZuG (a:Zba h T L G) {l c:Int} {K:Int->Zf->Prop} (b:∀ h',Zba h' T L (G.sample l c).2->GrG T T h h'->K (G.sample l c).1 h'):Za4 (some ⟨L.eb,0,none⟩) l c K h:=by
  unfold Za4 ZcZ
  have no:(l<0\/l>1099511627776\/c<0\/c>1099511627776)->K 2 h:=λq=>by
    have:=b h;unfold GS.sample at this;rw [if_pos q] at this;exact this a (GrG.refl T h)
  refine Za (Zd (Zi rfl (Zn (λq=>Za (no (.inl q))) λi=>Zn (λq=>Za (no (.inr (.inl q)))) λj=>Zn (λq=>Za (no (.inr (.inr (.inl q))))) λk=>Zd (Zn (λq=>Za (no (.inr (.inr (.inr q))))) λm=>?_))));refine Zg (Zbg a.cells (show 0+13<19 by decide) rfl λh1 c1 d n=>Zg (Zbg c1 (show 0+14<19 by decide) rfl λe f g o=>Za ?_));have u:=d.trans g;have:=b e;unfold GS.sample at this;rw [if_neg (by omega)] at this;exact this (a.set (ld:=l) (cp:=c) (op:=G.op) (nx:=G.nx) (la:=G.la) f u) (GrG.one (Xa a.eT) u)
theorem ZE3 (m:Zba h T L G) (ok:GOK G) {K:Rw.VTR->Int->Zf->Prop} (n:∀ h' z g,Rw.Y8 h' (ZBp (sz h) (sz h')) z G.r->Ext h h'->K z g h'):Zbn (some ⟨L.eb,0,none⟩) K h:=by
  unfold Zbn ZdA;refine ZI λh1 c1 i o=>Za (Zi rfl (Zg ?_));have e:=m.ext i;have w1:sz h1=sz h+1:=o;refine rP (Zb e.cells rfl) (ZB5 e.store e.rs (λb a=>Zby e.hT a) ok.good.s λj z p f=>?_);have t:sz h1<=sz j:=f.size;refine Zbb (Zj c1 f) (vs:=[slV z.1,slV z.2.1,slV z.2.2.1,slV z.2.2.2.1,slV z.2.2.2.2.1]) (λh3 c l z3=>Za ?_) (hv:=by simp [Zms,ZaM]);have u:sz h3=sz j:=z3;refine rL (s:=z.1) (Zb c rfl) (rL (s:=z.2.1) (Zb c rfl) (rL (s:=z.2.2.1) (Zb c rfl) (rL (s:=z.2.2.2.1) (Zb c rfl) (rL (s:=z.2.2.2.2.1) (Zb c rfl) (n h3 z _ ?_ ?_)))))
  ·exact (p.keep (h':=h3) λb a d=>l.old b d (by show ¬ b=sz h;have:=a.1;omega)).mono λb d a=>⟨by have:=a.1;omega,by have:=a.2;omega⟩
  ·exact (i.trans f).then l λk q=>by subst q;exact Aqo _
theorem Zsm (c:Zba h T L G) (ok:GOK G) {S:Nat->Prop} {w:Rw.VTR} {r:RulesP} (hr:Rw.Y8 h S w r) (hS:∀ b,S b->b<sz h) (hf:Rw.RulesP.fit r) {K:Int->Zf->Prop}
    (h0:r.whereE.2.2=0->∀ h' T' L',Zba h' T' L' (G.load r)->L'.eb=L.eb->GrG T T' h h'->K 0 h') (h1:∀ e:Nat,r.whereE.2.2=e->e≠0->∀ h',Ext h h'->K e h'):XO (some ⟨L.eb,0,none⟩) w K h:=by
  unfold XO Zei;obtain ⟨⟨q1,q2,q3,q4⟩,⟨r2,r3,r4⟩,⟨t3,t4⟩,f4,ar⟩:=ZrT c.nd;refine ZI λv c1 e1 z1=>Za (Zi rfl (Zg ?_));have E1:=c.ext e1;have w1:sz v=sz h+1:=z1;refine rP (Zb E1.cells rfl) (rL (s:=w.1) (Zb c1 rfl) (rL (s:=w.2.1) (Zb c1 rfl) (rL (s:=w.2.2.1) (Zb c1 rfl) (rL (s:=w.2.2.2.1) (Zb c1 rfl) (rL (s:=w.2.2.2.2.1) (Zb c1 rfl) ?_)))));have bb:=Zby c.hT c.eT;have bc:=Zby c.hT c.sT;refine ZE2 E1.store (hr.ext e1) (λb a=>by have:=hS b a;omega) hf (λhq m z2 c2 U u2=>?_) λe he f m e2=>Za (Zl (by simpa using f) (Za (h1 e he f m (e1.trans e2))));have P:obj m L.eb=_:=(u2.old L.eb (show L.eb<sz v by omega) (show ¬ L.eb=L.sb from Ne.symm q1)).trans E1.cells;refine Za (Zi rfl (Zg (rL (s:=L.z.1) (Zb P rfl) (rL (s:=L.z.2.1) (Zb P rfl) (rL (s:=L.z.2.2.1) (Zb P rfl) (rL (s:=L.z.2.2.2.1) (Zb P rfl) (rL (s:=L.z.2.2.2.2.1) (Zb P rfl) (ZI λg3 c3 e3 z3=>Zbb c3 (vs:=[slV L.z.1,slV L.z.2.1,slV L.z.2.2.1,slV L.z.2.2.2.1,slV L.z.2.2.2.2.1]) (λV c4 u4 z4=>Zg ?_) (hv:=by simp [Zms,ZaM])))))))));have n:Ext m V:=e3.then u4 λk hk=>by subst hk;exact Aqo _
  have w2:sz v<=sz m:=u2.size;have w3:sz g3=sz m+1:=z3;have w4:sz V=sz g3:=z4;have y4:=Zj P n;refine rP (Zb y4 rfl) (ZB5 (Zj c2 n) (U.ext n) (λb a=>by have:=a.2;omega) (ZqN hq).s λW z5 ay y=>Zg ?_);have y5:=Zj y4 y;have w5:sz V<=sz W:=y.size;refine ZGy y5 (geL G L.sb L.tb L.fm z5 L.f1 L.b1 L.h1) (λo y6 X z6=>Zg ?_) (hv:=by simp [Zms,ZaM]);have w6:sz o=sz W:=z6;have Y:obj o (sz m)=_:=(X.old (sz m) (Zp (Zj c4 y)) (by show ¬ sz m=L.eb;omega)).trans (Zj c4 y);let B:TgM:=Zh5 (Zh5 T .ro (sz v) (sz m)) .ro (sz V) (sz W);have Z:∀ j,Zh5 T .ro (sz v) (sz m) j≠none->j<sz m:=Zne (λj d=>by have:=c.hT j d;omega) (Aqo _);have sA:Zdm T (Zh5 T .ro (sz v) (sz m)):=ZgD λj d=>by have:=c.hT j d;omega
  have sB:Zdm (Zh5 T .ro (sz v) (sz m)) B:=ZgD λj d=>by have:=Z j d;omega
  have Q:Zdm T B:=sA.trans sB;have aa:∀ j,B j≠none->j<sz o:=Zne (λj d=>by have:=Z j d;omega) (by omega)
  have n6:∀ j,B j≠none->T j≠none\/sz h<=j:=λj d=>by
    have:Zh5 (Zh5 T .ro (sz v) (sz m)) .ro (sz V) (sz W) j≠none:=d;unfold Zh5 at this;split at this
    ·exact .inr (by omega)
    ·split at this
     ·exact .inr (by omega)
     ·exact .inl this
  let D:Nat->Prop:=λb=>b=L.sb\/b=L.eb;have p:Upd D h o:=((e1.upd D).trans (u2.mono λj _ d=> .inl d)).trans (((n.trans y).upd D).trans (X.mono λj _ d=> .inr d))
  have kD:∀ {hh:Zf},Upd D h hh->Zdj D T h hh:=λ{hh} u j t ht hd=>u.old j (Zby c.hT ht) λd=>by
    rcases d with e | e
    ·subst e;rw [c.sT] at ht;cases ht;exact hd _ (.inl rfl) rfl
    ·subst e;rw [c.eT] at ht;cases ht;exact hd _ (.inr rfl) rfl
  have k6:=kD p;have nD:∀ b,b∈hd3 L.fs L.bs L.hs->¬ D b:=λb a i=>i.elim (r4 b a) (q4 b a);have m1:∀ b,b∈L.fs.flatMap (λx=>hdP x.1)->¬ D b:=λb a=>nD b (Axx.2 (.inl a));have m2:∀ b,b∈L.bs.flatMap (λx=>[x.1])->¬ D b:=λb a=>nD b (Axx.2 (.inr (Axx.2 (.inl a))));have m3:∀ b,b∈L.hs.flatMap (λx=>[x.1])->¬ D b:=λb a=>nD b (Axx.2 (.inr (Axx.2 (.inr a))));have af:Rw.Y8 o (roT B) z5 r:=(ay.keep (h':=o) λb a l=>X.old b l (by show ¬ b=L.eb;have:=a.1;omega)).mono λb _ a=>Zir a;have aB:Rw.Y8 o (roT B) z2 r:=((U.ext (n.trans y)).keep (h':=o) λb a l=>X.old b l (by show ¬ b=L.eb;have:=a.1;omega)).mono λb _ a=>sB.to (Zir a);refine rL (s:=L.z.1) (Zb Y rfl) (rL (s:=L.z.2.1) (Zb Y rfl) (rL (s:=L.z.2.2.1) (Zb Y rfl) (rL (s:=L.z.2.2.2.1) (Zb Y rfl) (rL (s:=L.z.2.2.2.2.1) (Zb Y rfl) ?_))));refine ZEZ (z':=z5) (L:=L) (G:=G) (r:=r) (T:=B) y6 (XI k6 Q c.rz) af (c.fl.keep k6 Q m1) (c.br.keep k6 Q m2) (c.ho.keep k6 Q p.size m3) c.lf c.lb c.lh ok hq hf ar aa λC R ag ah ai E F H aC aD aE pf pb ph aF aG q n7 I=>Zg ?_;have y7:=Zj y6 I;refine ZGy y7 (geL (G.load r) L.sb L.tb L.fm z5 ag ah ai) (λJ y8 u8 z8=>Za (h0 hq J R { L with z:=z5,zs:=z2,g:=IntKind.wrap .i64 (L.g+1),f1:=ag,b1:=ah,h1:=ai,fs:=E,bs:=F,hs:=H } ?_ rfl ?_)) (hv:=by simp [Zms,ZaM,Zd6])
  case _ =>
    have w7:sz o<=sz C:=I.size;have w8:sz J=sz C:=z8;have M:Upd D h J:=(p.trans (I.upd D)).trans (u8.mono λj _ d=> .inr d);have k8:=kD M;have s7:Zdm T R:=Q.trans q
    have aj:∀ j,R j≠none->j<sz C:=λj d=>by
      rcases n7 j d with g | g
      ·have:=aa j g;omega
      ·exact g.2
    have c8:obj J L.sb=some (Zo2 z2 (IntKind.wrap .i64 (L.g+1))):=by
      refine (u8.old L.sb (show L.sb<sz C by omega) q1).trans (Zj ?_ I);exact (X.old L.sb (show L.sb<sz W by omega) q1).trans (Zj c2 (n.trans y))
    have N:=s7.to c.eT;have kE:Zdj (· = L.eb) R C J:=Ztk aj N u8;have O:=Zdm.refl R
    have f:∀ b,b∈hd3 E F H->b≠L.eb/\b≠L.sb/\b≠L.tb/\b≠L.fm:=λb a=>by
      have bz:=Zby c.hT c.fT;have bA:L.tb<sz h:=by obtain ⟨mb,base,ks,A,hi,_⟩:=c.tree;exact Zp hi.cells
      rcases aG b a with g | g
      ·exact ⟨q4 b g,r4 b g,t4 b g,f4 b g⟩
      ·exact ⟨by omega,by omega,by omega,by omega⟩
    have ak:∀ b,R b=some .ro->b<sz C->obj J b=obj C b:=λb a l=>u8.old b l λe=>by
      have e':b=L.eb:=e;rw [e',N] at a;cases a
    refine ⟨y8,N,c8,s7.to c.sT,?_,?_,ZgZ k8 s7 c.tree ?_,ZkW k8 s7 c.ent c.fT ?_,s7.to c.fT,pf,pb,ph,aC.keep kE O λb a i=>?_,aD.keep kE O λb a i=>?_,aE.keep kE O u8.size λb a i=>?_,?_,λj d=>by have:=aj j d;omega⟩
    ·exact ((af.ext I).mono λb _ a=>q.to a).keep λb a l=>ak b a l
    ·exact ((aB.ext I).mono λb _ a=>q.to a).keep λb a l=>ak b a l
    ·exact λi=>i.elim r2 q2
    ·exact λi=>i.elim r3 q3
    ·exact (f b (Axx.2 (.inl a))).1 i
    ·exact (f b (Axx.2 (.inr (Axx.2 (.inl a))))).1 i
    ·exact (f b (Axx.2 (.inr (Axx.2 (.inr a))))).1 i
    ·show (L.eb::L.sb::L.tb::L.fm::hd3 E F H).Nodup
     simp only [Ayp,Awr,not_or];exact ⟨⟨Ne.symm q1,Ne.symm q2,Ne.symm q3,λi=>(f _ i).1 rfl⟩,⟨Ne.symm r2,Ne.symm r3,λi=>(f _ i).2.1 rfl⟩,⟨Ne.symm t3,λi=>(f _ i).2.2.1 rfl⟩,λi=>(f _ i).2.2.2 rfl,aF⟩
  case _ =>
    have M:Upd D h J:=(p.trans (I.upd D)).trans (u8.mono λj _ d=> .inr d);refine ⟨M.mono λj _ d=>?_,Q.trans q,λj d=>?_⟩
    ·rcases d with e | e
     ·subst e;exact Xa c.sT
     ·subst e;exact Xa c.eT
    ·rcases n7 j d with g | g
     ·exact n6 j g
     ·exact .inr (by omega)
end
abbrev ZNQ (eb:Nat) (c:C8) (gr:Bool) (tk bk:Sl) (wt:Int):List Value:= .pointer (some ⟨eb,0,none⟩)::iv c.1 :: .string c.2.1 :: .string c.2.2.1 :: .string c.2.2.2.1 :: .bool c.2.2.2.2.1::iv c.2.2.2.2.2.1::slV c.2.2.2.2.2.2.1::[.bool gr,slV tk,slV bk,iv wt]
abbrev Zva (eb:Nat) (c:C8) (gr:Bool) (tk bk:Sl) (wt:Int):Obj:= .cells (ZNQ eb c gr tk bk wt).toArray 145 (0,0)
def Bx (h:Zf) (base wb:Nat) (t:Sl) (b o:Nat) (v:Value):Prop:=ZA o (obj h b)=some v/\base<=b/\b<sz h/\b≠wb/\t.blk≠some b
abbrev pB (b:Nat):Value:= .pointer (some ⟨b,0,none⟩)
def TkR (h:Zf) (base wb:Nat) (t:Sl) (L:Lay) (c:PC) (v:Value):Tk->Prop
  | .hot i x=>∃ l m n j,v = .func (.func 168) #[] #[pB l,pB m,pB n]/\Bx h base wb t l 0 (pB j)/\Bx h base wb t m 0 (pB wb)/\Bx h base wb t n 0 (.string x)/\(L.hs[i]?).map (·.1)=some j
  | .warm i past sum=>∃ a b d e f p,v = .func (.func 213) #[] #[pB a,pB b,pB d,pB e,pB f]/\Bx h base wb t a 1 (.pointer p.2)/\Bx h base wb t b 0 (iv c.1)/\Bx h base wb t d 0 (iv past)/\Bx h base wb t e 0 (iv sum)/\Bx h base wb t f 0 (iv c.2.2.2.2.2)/\(L.fs[i]?).map (·.1)=some p
  | .pace i=>∃ a b f p,v = .func (.func 216) #[] #[pB a,pB b,pB f]/\Bx h base wb t a 0 (.pointer p.1)/\Bx h base wb t b 0 (iv c.1)/\Bx h base wb t f 0 (iv c.2.2.2.2.2)/\(L.fs[i]?).map (·.1)=some p
  | .wp i past k=>∃ a b d f g p,v = .func (.func 221) #[] #[pB a,pB b,pB d,pB f,pB g]/\Bx h base wb t a 0 (.pointer p.1)/\Bx h base wb t a 1 (.pointer p.2)/\Bx h base wb t b 0 (iv c.1)/\Bx h base wb t d 0 (iv past)/\Bx h base wb t f 0 (iv c.2.2.2.2.2)/\Bx h base wb t g 0 (iv k)/\(L.fs[i]?).map (·.1)=some p
  | .brk i=>∃ a b j id,v = .func (.func 174) #[] #[pB a,pB b]/\Bx h base wb t a 0 (pB j)/\Bx h base wb t a 1 (iv id)/\Bx h base wb t b 0 (pB wb)/\(L.bs[i]?).map (λx=>(x.1,x.2.2))=some (j,id)
structure WkR (h:Zf) (base wb:Nat) (L:Lay) (c:PC) (sl:Sl) (gr:Bool) (tks:List Tk) (wt:Int) (t:Sl) (vs:List Value):Prop where
  w:obj h wb=some (Zva L.eb (cl c sl) gr t nl wt)
  o:Own h base t 1 vs
  l:vs.length=tks.length
  e:∀ (i:Nat) v tk,vs[i]?=some v->tks[i]?=some tk->TkR h base wb t L c v tk
  b:base<=sz h
  n:t.blk≠some wb
structure WS (wb:Nat) (t t':Sl) (h h':Zf):Prop where
  u:Upd (λj=>j=wb\/t.blk=some j) h h'
  n:t'.blk=t.blk\/∀ b,t'.blk=some b->sz h<=b
section
variable {h h' h'':Zf} {base wb:Nat} {t t' t'':Sl} {L:Lay} {c:PC} {sl:Sl} {gr:Bool} {tks:List Tk} {wt:Int} {vs:List Value}
theorem WS.refl:WS wb t t h h:=⟨Upd.refl _ _,.inl rfl⟩
theorem WS.ext (e:Ext h h'):WS wb t t h h':=⟨e.upd _,.inl rfl⟩
theorem WS.trans (a:WS wb t t' h h') (b:WS wb t' t'' h' h''):WS wb t t'' h h'':=by
  refine ⟨⟨Aqp a.u.size b.u.size,λk d e=>?_⟩,?_⟩
  ·refine (b.u.old k (Aqq d a.u.size) λc=>?_).trans (a.u.old k d e)
   rcases c with c | c
   ·exact e (.inl c)
   ·rcases a.n with g | g
    ·exact e (.inr (g▸c))
    ·have:=g k c;have:k<sz h:=d;omega
  ·rcases b.n with g | g
   ·rw [g];exact a.n
   ·exact .inr λb f=>Aqp a.u.size (g b f)
theorem WS.then (a:WS wb t t' h h') (e:Ext h' h''):WS wb t t' h h'':=a.trans (WS.ext e)
theorem WS.pre (e:Ext h h') (a:WS wb t t' h' h''):WS wb t t' h h'':=(WS.ext e).trans a
theorem Bx.keep {b o:Nat} {v:Value} (x:Bx h base wb t b o v) (u:Upd (λj=>j=wb\/t.blk=some j) h h') (f:t'.blk=t.blk\/∀ b,t'.blk=some b->sz h<=b):Bx h' base wb t' b o v:=by
  obtain ⟨i,k,a,c,d⟩:=x;refine ⟨by rw [show obj h' b=obj h b from u.old b a λe=>e.elim c d];exact i,k,Aqq a u.size,c,λe=>?_⟩
  rcases f with g | g
  ·exact d (g▸e)
  ·have:=g b e;omega
theorem TkR.keep {v:Value} {tk:Tk} (x:TkR h base wb t L c v tk) (u:Upd (λj=>j=wb\/t.blk=some j) h h') (k:t'.blk=t.blk\/∀ b,t'.blk=some b->sz h<=b):TkR h' base wb t' L c v tk:=by
  cases tk with
  | hot i s =>
    obtain ⟨r,w,y,n,e,l,m,a3,a4⟩:=x;exact ⟨r,w,y,n,e,l.keep u k,m.keep u k,a3.keep u k,a4⟩
  | warm i past sum =>
    obtain ⟨a,b,d,f,g,p,e,l,m,a3,a4,a5,o⟩:=x;exact ⟨a,b,d,f,g,p,e,l.keep u k,m.keep u k,a3.keep u k,a4.keep u k,a5.keep u k,o⟩
  | pace i =>
    obtain ⟨a,b,f,p,e,l,m,a3,a4⟩:=x;exact ⟨a,b,f,p,e,l.keep u k,m.keep u k,a3.keep u k,a4⟩
  | wp i past q =>
    obtain ⟨a,b,d,f,g,p,e,l,m,a3,a4,a5,o,z⟩:=x;exact ⟨a,b,d,f,g,p,e,l.keep u k,m.keep u k,a3.keep u k,a4.keep u k,a5.keep u k,o.keep u k,z⟩
  | brk i =>
    obtain ⟨a,b,n,id,e,l,m,a3,a4⟩:=x;exact ⟨a,b,n,id,e,l.keep u k,m.keep u k,a3.keep u k,a4⟩
theorem WkR.ext (W:WkR h base wb L c sl gr tks wt t vs) (e:Ext h h'):WkR h' base wb L c sl gr tks wt t vs :=
  ⟨Zj W.w e,W.o.congr λb _ hl _=>e.old b hl,W.l,λi v tk h1 a=>(W.e i v tk h1 a).keep (e.upd _) (.inl rfl),Aqp W.b e.size,W.n⟩
theorem WkR.add (W:WkR h base wb L c sl gr tks wt t vs) {v:Value} {tk:Tk} (hv:TkR h base wb t L c v tk) (x:Own h' base t' 1 (vs++[v])) (y:Upd (λk=>t.blk=some k) h h') (a:t'.blk=t.blk\/t'.blk=some (sz h)) (z:obj h'' wb=some (Zva L.eb (cl c sl) gr t' nl wt)) (r:Upd (· = wb) h' h'') :
    WkR h'' base wb L c sl gr (tks++[tk]) wt t' (vs++[v])/\WS wb t t' h h'':=by
  have f:t'.blk=t.blk\/∀ b,t'.blk=some b->sz h<=b:=a.imp id λe b a=>by rw [e] at a;cases a;exact Aqo _
  have u:Upd (λj=>j=wb\/t.blk=some j) h h'':=(y.mono λj _ m=> .inr m).trans (r.mono λj _ m=> .inl m);have lw:=Zp W.w
  have s:t'.blk≠some wb:=λe=>by
    rcases a with g | g
    ·exact W.n (g▸e)
    ·rw [g] at e;cases e;omega
  refine ⟨⟨z,x.congr λb o p _=>r.old b p λe=>s (by rw [o,show b=wb from e]),by simp [W.l],λi A q h1 d=>?_,Aqp W.b u.size,s⟩,⟨u,f⟩⟩
  rcases Zq2 h1 with g | ⟨B,C⟩
  ·have hi:=Zbz g
   rw [Awu (by rw [<- W.l];exact hi)] at d;exact (W.e i A q g d).keep u f
  ·subst B;subst C
   rw [W.l,Awv (Aqo _),Nat.sub_self] at d;cases d;exact hv.keep u f
theorem WkR.wait (W:WkR h base wb L c sl gr tks wt t vs) {wt':Int} (g:obj h' wb=some (Zva L.eb (cl c sl) gr t nl wt')) (f:Upd (· = wb) h h'):WkR h' base wb L c sl gr tks wt' t vs/\WS wb t t h h':=by
  have u:Upd (λj=>j=wb\/t.blk=some j) h h':=f.mono λj _ k=> .inl k;exact ⟨⟨g,W.o.congr λb a d _=>f.old b d λe=>W.n (by rw [a,show b=wb from e]),W.l,λi v tk h1 m=>(W.e i v tk h1 m).keep u (.inl rfl),Aqp W.b u.size,W.n⟩,⟨u,.inl rfl⟩⟩
theorem Zba.walk {T:TgM} {G:GS} (a:Zba h T L G) (b:∀ j,T j≠none->j<base/\j≠wb) (W:WkR h base wb L c sl gr tks wt t vs) (u:WS wb t t' h h'):Zba h' T L G :=
  a.frame u.u λj d=>by
   cases q:T j with
   | none=>rfl
   | some x =>
     have:=b j (Xa q)
     rcases d with e | e
     ·exact absurd e this.2
     ·have:=(W.o.lt e).1;omega
theorem ZtT {T:TgM} {G:GS} {f:Int->Lk} {KL:List Int} {kt:Sl} {body:Int->Int->Zf->(Zf->Prop)->Prop} {K:Zf->Prop} {X:Int->Zf->Prop} {h0:Zf} (E:Zba h T L G) (F:∀ j,T j≠none->j<base/\j≠wb) (W:WkR h base wb L c sl gr tks wt t vs) (hl:KL.length<=256) (P:tks.length<=2000) (v:Own h (sz h0) kt 1 (KL.map iv)) (H:wb<sz h0) (w:∀ b,t.blk=some b->b<sz h0)
    (hs:∀ (m:Nat) k g a wt' t' d (Q:Zf->Prop),KL[m]?=some k->Zba g T L G->WkR g base wb L c sl gr a wt' t' d->WS wb t t' h g->a.length<=3000->(∀ h' t'' l,WkR h' base wb L c sl gr (a++(f k).tk) (wtV wt' (f k).wt) t'' l->WS wb t' t'' g h'->if (f k).b=true then X k h' else Q h')->body m k g Q)
    (y:∀ k,(f k).tk.length<=1)
    (I:∀ k h' t' d x,Zfp f KL (tks,wt)=(some k,x)->WkR h' base wb L c sl gr x.1 x.2 t' d->WS wb t t' h h'->x.1.length<=tks.length+256->X k h') (M:∀ h' t' d x,Zfp f KL (tks,wt)=(none,x)->WkR h' base wb L c sl gr x.1 x.2 t' d->WS wb t t' h h'->x.1.length<=tks.length+256->K h') :
    Yj (σ:=Int × Unit) (λJ s g=>(λ(i:Int)=>Zm (decide (i<(kt.len:Int))) (YS kt.ptr kt.len i 1 λb o=>ldI g b o .i64 λt=>body i t g (λh'=>J (IntKind.wrap .i64 (i+1),()) h')) (K g)) s.1) (0,()) h:=by
  refine ZnW (KL:=KL) (kt:=kt) (body:=body) (λm g=>∃ a wt' t' d,WkR g base wb L c sl gr a wt' t' d/\WS wb t t' h g/\a.length<=tks.length+m/\Zfp f KL (tks,wt)=Zfp f (KL.drop m) (a,wt')) (by omega) (λm g ⟨a,wt',t',d,r,s,_⟩=>?_) ⟨tks,wt,t,vs,W,WS.refl,Aqo _,rfl⟩ ?_ ?_
  ·refine (v.congr λb N z A=>s.u.old b z λe=>?_).row
   have:sz h0<=b:=A
   rcases e with e | e
   ·omega
   ·have:=w b e;omega
  ·rintro m k g Q B ⟨a,wt',t',d,r,s,C,hw⟩ O
   have hm:=Zbz B
   have hd:KL.drop m=k::KL.drop (m+1):=by
     rw [Ayo hm];congr 1;exact (Ayh.1 B).2
   rw [hd] at hw;have D:Zfp f (k::KL.drop (m+1)) (a,wt')=if (f k).b=true then (some k,a++(f k).tk,wtV wt' (f k).wt) else Zfp f (KL.drop (m+1)) (a++(f k).tk,wtV wt' (f k).wt):=rfl
   rw [D] at hw;have h1:=y k;refine hs m k g a wt' t' d Q B (E.walk F W s) r s (by omega) λh' t'' l n s'=>?_;have p:=s.trans s';split
   ·rename_i q
    rw [if_pos q] at hw;exact I k h' t'' l _ hw n p (by simp only [Awe];omega)
   ·rename_i q
    rw [if_neg q] at hw;exact O h' ⟨_,_,t'',l,n,p,by simp only [Awe];omega,hw⟩
  ·rintro g ⟨a,wt',t',d,r,s,C,hw⟩
   rw [Ayq (Aqo _),show Zfp f [] (a,wt')=(none,(a,wt')) from rfl] at hw;exact M g t' d _ hw r s (by show a.length<=_;omega)
end
theorem ZkI {α:Type} {nm:α->ByteArray} {res:ByteArray}:∀ {l:List α} {i:Nat} {k:Int},k∈ofL nm res l i->∃ j a,k=((i+j:Nat):Int)/\l[j]?=some a
  | [],i,k,h=>by cases h
  | a::l,i,k,h=>by
    have e:ofL nm res (a::l) i=if Yp (nm a) res=true then (i:Int)::ofL nm res l (i+1) else ofL nm res l (i+1):=rfl
    rw [e] at h;split at h
    ·rcases Awr.1 h with h | h
     ·exact ⟨0,a,h,rfl⟩
     ·obtain ⟨j,b,h1,c⟩:=ZkI h
      exact ⟨j+1,b,by rw [h1];congr 1;omega,by simpa using c⟩
    ·obtain ⟨j,b,h1,c⟩:=ZkI h
     exact ⟨j+1,b,by rw [h1];congr 1;omega,by simpa using c⟩
theorem Znz {α:Type} {nm:α->ByteArray} {res:ByteArray}:∀ {l:List α} {i:Nat},(ofL nm res l i).length<=l.length
  | [],i=>Aqo _
  | a::l,i=>by
    have e:ofL nm res (a::l) i=if Yp (nm a) res=true then (i:Int)::ofL nm res l (i+1) else ofL nm res l (i+1):=rfl
    rw [e];split
    ·simp only [Aqj];have:=Znz (nm:=nm) (res:=res) (l:=l) (i:=i+1);omega
    ·simp only [Aqj];have:=Znz (nm:=nm) (res:=res) (l:=l) (i:=i+1);omega
theorem ZBM {r:RulesP} (h:Zv8 r) (kind:Int) (res:ByteArray):(ofK r kind res).length<=256:=by
  unfold ofK;split
  ·exact Aqp Znz h.f
  ·split
   ·exact Aqp Znz h.b
   ·split
    ·exact Aqp Znz h.h
    ·split
     ·exact Aqp Znz h.s
     ·split
      ·exact Aqp Znz h.l
      ·exact Ayg _
section
variable {h:Zf} {T:TgM} {L:Lay} {G:GS} {base wb:Nat} {t:Sl} {c:PC} {sl:Sl} {gr:Bool} {tks:List Tk} {wt:Int} {vs:List Value}
theorem ZqR {f91:Int->Option Addr->(Bool->Zf->Prop)->Zf->Prop} {kind:Int} {bx:Nat} {x:Obj} {f:Int->Lk} (A:Zba h T L G) (ok:GOK G) (hb:∀ j,T j≠none->j<base/\j≠wb) (W:WkR h base wb L c sl gr tks wt t vs) (hn:tks.length<=2000) (D:obj h bx=some x) (n1:bx≠wb) (Y:t.blk≠some bx) {R:Zf->Prop} (hR:∀ {l},(∀ j,j<sz h->j≠wb->t.blk≠some j->obj l j=obj h j)->R l) (J:∀ k,(f k).tk.length<=1)
    (hs:∀ k,k∈ofK G.r kind c.2.1->∀ {l:Zf} {d:List Tk} {wt':Int} {t':Sl} {a:List Value} {Q:Bool->Zf->Prop},Zba l T L G->WkR l base wb L c sl gr d wt' t' a->R l->d.length<=3000->obj l bx=some x->t'.blk≠some bx->(∀ h' v p,WkR h' base wb L c sl gr (d++(f k).tk) (wtV wt' (f k).wt) v p->WS wb t' v l h'->Q (f k).b h')->f91 k (some ⟨bx,0,none⟩) Q l)
    {K:Int->Bool->Zf->Prop} (Z:∀ h' t' a x,Zfp f (ofK G.r kind c.2.1) (tks,wt)=x->WkR h' base wb L c sl gr x.2.1 x.2.2 t' a->WS wb t t' h h'->x.2.1.length<=tks.length+256->K (x.1.getD 0) x.1.isSome h') :
    ZB ZaX f91 (some ⟨wb,0,none⟩) kind (some ⟨bx,0,none⟩,()) K h:=by
  unfold ZB;refine Za (Zg (Zg (rP (Zb W.w rfl) (Zg (rL (s:=L.z.1) (Zb A.cells rfl) (rL (s:=L.z.2.1) (Zb A.cells rfl) (rL (s:=L.z.2.2.1) (Zb A.cells rfl) (rL (s:=L.z.2.2.2.1) (Zb A.cells rfl) (rL (s:=L.z.2.2.2.2.1) (Zb A.cells rfl) (rS (Zb W.w rfl) ?_))))))))));refine ZOT A.rz (λb E=>Zby A.hT E) ok.good.s λh2 kt B M=>⟨ZZ (Zb (W.ext B).w rfl),?_⟩;have lw:=Zp W.w;have W2:=W.ext B;refine ZtT (h0:=h) (f:=f) (KL:=ofK G.r kind c.2.1) (X:=λi h'=>K i true h') (body:=λak t18 N Q=>Zc t18 λi=>f91 i (some ⟨bx,0,none⟩) (λt19 F=>Zm t19 (Zc i λt21=>K t21 true F) (Q F)) N) (A.ext B) hb W2 (ZBM ok.good.s _ _) hn M lw (λb E=>(W.o.lt E).2) ?_ J ?_ ?_
  ·intro m k l d wt' t' a Q O E' H s hl I
   have C:∀ j,j<sz h->j≠wb->t.blk≠some j->obj l j=obj h j:=λj hj P S=>(s.u.old j (Aqq hj B.size) λe=>e.elim P S).trans (B.old j hj)
   have nt:t'.blk≠some bx:=λe=>by
     rcases s.n with g | g
     ·exact Y (g▸e)
     ·have:=g bx e;have:=Zp D;have:sz h<=sz h2:=B.size;omega
   refine Za (hs k (Axo O) E' H (hR C) hl ((C bx (Zp D) n1 Y).trans D) nt λh' v p U V=>?_);have:=I h' v p U V;refine ⟨λq=>Za ?_,λq=>?_⟩
   ·rwa [if_pos q] at this
   ·rwa [if_neg (by rw [q];decide)] at this
  ·intro k h' t' a y hw H s hl
   exact Z h' t' a (some k,y) hw H (WS.pre B s) hl
  ·intro h' t' a y hw H s hl
   exact Za (Z h' t' a (none,y) hw H (WS.pre B s) hl)
theorem ZEc (M:Zba h T L G) (ok:GOK G) (N:∀ j,T j≠none->j<base/\j≠wb) (W:WkR h base wb L c sl gr tks wt t vs) (O:tks.length<=2000)
    {K:Int->Bool->Zf->Prop} (P:∀ h' t' a x,Zfp (Zpr G c) (ofK G.r 5 c.2.1) (tks,wt)=x->WkR h' base wb L c sl gr x.2.1 x.2.2 t' a->WS wb t t' h h'->x.2.1.length<=tks.length+256->K (x.1.getD 0) x.1.isSome h'):Za2 (some ⟨wb,0,none⟩) K h:=by
  unfold Za2 Ze8;have lw:=Zp W.w;refine ZI λh1 c1 u U=>Za (rP (Zb c1 rfl) ?_);refine ZqR (f91:=Zbl) (f:=Zpr G c) (R:=λ_=>True) (M.ext u) ok N (W.ext u) O c1 (show sz h≠wb by omega) (λe=>by have:sz h<sz h:=(W.o.lt e).2;omega) (λ_=>trivial) (λk=>Ayg _) ?_ λh' t' a x hw d s hl=>Za (Zd (P h' t' a x hw d (WS.pre u s) hl));intro k v V F wt' t' a Q y d _ hl cb X l;obtain ⟨j,f,H,b⟩:=ZkI (show k∈ofL (λf:ZbE=>Zx f.res) c.2.1 G.r.li 0 from v);rw [Awb] at H;subst H;obtain ⟨I,A,B,C⟩:=y.rz.li
  obtain ⟨p,J,D⟩:∃ p,I[j]?=some p/\p.2=f:=by
    rw [<- A,Awy] at b
    cases q:I[j]? with
    | none=>rw [q] at b;cases b
    | some p=>rw [q] at b;exact ⟨p,rfl,Option.some.inj b⟩
  subst D;have fit:=ok.fit.2.2.2 p.2 (Axo b);unfold Zbl Zdx;obtain ⟨Y,Z,_,_,m,E⟩:=ZbD (g:=Rw.ZiB) (n:=3) (λ_=>rfl) B.1 J (by decide);refine Zg (rP (Zb cb rfl) (Zg (rP (Zb d.w rfl) (Zg (rL (s:=L.z.2.2.2.2.1) (Zb y.cells rfl) (m rfl (rS (E 0 _ rfl) (rB (E 1 _ rfl) (rL (s:=p.1) (E 2 _ rfl) (Zg (rP (Zb cb rfl) (Zg (rS (Zb d.w rfl) ?_)))))))))))));refine Classical.choose_spec (ZuO p.2 c.2.2.2.1) fit (C p (Axo J)).1 λS i=>⟨ZZ (Zb (Zj cb i) rfl),ZZ (Zb (y.ext i).cells rfl),ZZ (Zb (d.ext i).w rfl),ZZ (Zb (Zj cb i) rfl),Zd ?_⟩
  have e:Zpr G c (j:Int)=⟨!glV p.2 c.2.2.2.1,[],none⟩:=by
    unfold Zpr;rw [Aqu,b]
  have fin:=l S t' a (by rw [e,Ayt];exact d.ext i) (WS.ext i);rw [e] at fin;exact fin
end
def ZGV (w:N7):List Value:=[iv w.1,iv w.2.1,iv w.2.2.1,iv w.2.2.2.1,iv w.2.2.2.2.1,iv w.2.2.2.2.2.1,iv w.2.2.2.2.2.2.1]
section
variable {h:Zf} {T:TgM} {L:Lay} {G:GS} {base wb:Nat} {t:Sl} {c:PC} {sl:Sl} {gr:Bool} {tks:List Tk} {wt:Int} {vs:List Value}
theorem Zw3 (hE:Zba h T L G) (ok:GOK G) (hb:∀ j,T j≠none->j<base/\j≠wb) (W:WkR h base wb L c sl gr tks wt t vs) (hn:tks.length<=2000)
    {K:Int->Bool->Zf->Prop} (I:∀ h' t' l x,ZFg G c (tks,wt)=x->WkR h' base wb L c sl gr x.2.1 x.2.2 t' l->WS wb t t' h h'->x.2.1.length<=tks.length+256->K (x.1.getD 0) x.1.isSome h'):Zab (some ⟨wb,0,none⟩) K h:=by
  unfold Zab Zdw;have lw:=Zp W.w;refine ZI λh1 c1 C z1=>Za (rP (Zb c1 rfl) (Zg (rB (Zb (W.ext C).w rfl) ⟨λq=>Za ?_,λq=>?_⟩)))
  ·have q':¬ c.2.2.2.2.1=true:=λM=>by
     have A:(!c.2.2.2.2.1)=true:=q;rw [M] at A;cases A
   exact I h1 t vs (none,tks,wt) (by unfold ZFg;rw [if_neg q']) (W.ext C) (WS.ext C) (by show tks.length<=_;omega)
  have q':c.2.2.2.2.1=true:=by
    have A:(!c.2.2.2.2.1)=false:=q;simpa using A
  have ar:∀ h' t' l x,Zfp (ZxI G c) (ofK G.r 4 c.2.1) (tks,wt)=x->WkR h' base wb L c sl gr x.2.1 x.2.2 t' l->WS wb t t' h h'->x.2.1.length<=tks.length+256->K (x.1.getD 0) x.1.isSome h':=λh' t' l x hx=>I h' t' l x (by unfold ZFg;rw [if_pos q'];exact hx);have w1:=(W.ext C).w;have y1:=(hE.ext C).cells;refine rP (Zb c1 rfl) (Zg (rP (Zb w1 rfl) (Zg (rP (Zb y1 rfl) (ZpV (hE.ext C).tree (k:=Zmv) λh2 p e2 f2=>?_)))));have N:∀ {d:Zf},Ext h1 d->ZA 0 (obj d (sz h))=some (.pointer (some ⟨wb,0,none⟩))/\ZA 1 (obj d wb)=some (iv c.1)/\ZA 0 (obj d wb)=some (.pointer (some ⟨L.eb,0,none⟩)):=λ{d} e=>⟨Zb (Zj c1 e) rfl,Zb (Zj w1 e) rfl,Zb (Zj w1 e) rfl⟩;obtain ⟨a2,b2,_⟩:=N e2;refine rP a2 (Zg (rI b2 (ZgV f2 λh3 e3=>ZI λh4 c4 e4 z4=>Zbb c4 λh5 c5 u5 z5=>Za ?_)));have B:Ext h2 h5:=(e3.trans e4).then u5 λk I=>by subst I;exact e3.size
  obtain ⟨a5,b5,_⟩:=N (e2.trans B);refine rP a5 (Zg (rI b5 (Classical.choose_spec (ZuP (G.t.f Zmv) c.1) (f2.ext B) λx6 h6 e6=>Za (Za ?_))));obtain ⟨a6,b6,_⟩:=N (e2.trans (B.trans e6));refine rP a6 (Zg (rI b6 (ZtM (f2.ext (B.trans e6)) λx7 h7 e7=>Za (Za ?_))));have O:=(B.trans e6).trans e7;obtain ⟨a7,b7,_⟩:=N (e2.trans O);refine rP a7 (Zg (rI b7 (Zso (f2.ext O) λx8 A e8=>Za (Za ?_))));have P:=O.trans e8;have v:=e2.trans P;have c8:=Zj c5 ((e6.trans e7).trans e8);refine Zlw (λ(s:Option Addr × Unit) d=>∃ F,s.1=some ⟨F,0,none⟩/\obj d F=some (.cells (ZGV (ZGU G c)).toArray 302 (0,0))/\Ext A d/\sz A<=F) ?_ ?_
  ·rintro ⟨s,u⟩ M ⟨F,hs,cn,J,ba⟩
   dsimp only at hs ⊢;subst hs;have S:=v.trans J;have U:=C.trans S;obtain ⟨a9,b9,_⟩:=N S;refine rP a9 ?_;show ZB ZaX (λi a=>XF i a (some ⟨F,0,none⟩)) (some ⟨wb,0,none⟩) 4 (some ⟨sz h,0,none⟩,()) _ M;have bd:sz h<=sz A:=(C.trans v).size;have ai:∀ b,t.blk=some b->b<sz h:=λb au=>(W.o.lt au).2;refine ZqR (f:=ZxI G c) (R:=λd=>obj d F=some (.cells (ZGV (ZGU G c)).toArray 302 (0,0))) (hE.ext U) ok hb (W.ext U) hn (Zj c1 S) (show sz h≠wb by omega) (λe=>by have:sz h<sz h:=ai _ e;omega) (λhq=>(hq F (Zp cn) (show F≠wb by omega) (λe=>by have:=ai _ e;omega)).trans cn) (λk=>Ayg _) ?_ λh' t' l x hw Z s hl=>ar h' t' l x hw Z (WS.pre U s) hl;intro k av d aD wt' t' l Q E' Z m hl cb bg aj;obtain ⟨j,f,hj,hf⟩:=ZkI (show k∈ofL (λ_:ZaE=>c.2.1) c.2.1 G.r.sy 0 from av);rw [Awb] at hj;subst hj;show XF (j:Int) (some ⟨sz h,0,none⟩) (some ⟨F,0,none⟩) Q d;unfold XF Zcl;obtain ⟨bb,oo,_,_,ak,hc⟩:=ZbD (g:=Rw.Zg0) (n:=5) (λ_=>rfl) E'.rz.sy.1 hf (by decide);refine Zg (rP (Zb cb rfl) (Zg (rP (Zb Z.w rfl) (Zg (rL (s:=L.z.2.2.2.1) (Zb E'.cells rfl) (ak rfl (rI (hc 0 _ rfl) (rI (hc 1 _ rfl) (rI (hc 2 _ rfl) (rI (hc 3 _ rfl) (rI (hc 4 _ rfl) (Zg (rP (Zb cb rfl) (Zg (rI (Zb Z.w rfl) ?_)))))))))))))));refine Zg (rI (Zb m rfl) (rI (Zb m rfl) (rI (Zb m rfl) (rI (Zb m rfl) (rI (Zb m rfl) (rI (Zb m rfl) (rI (Zb m rfl) ?_)))))));refine Classical.choose_spec (ZpW (Rw.Zqf f) c.2.2.2.2.2 (ZGU G c)) λV y=>⟨ZZ (Zb (Zj cb y) rfl),ZZ (Zb (E'.ext y).cells rfl),ZZ (Zb (Z.ext y).w rfl),ZZ (Zb (Zj cb y) rfl),Zd ?_⟩
   have e:ZxI G c (j:Int)=⟨!gsV (Rw.Zqf f) c.2.2.2.2.2 (ZGU G c),[],none⟩:=by
     unfold ZxI;rw [Aqu,hf]
   have fin:=aj V t' l (by rw [e,Ayt];exact Z.ext y) (WS.ext y);rw [e] at fin;exact fin
  ·intro Q hQ
   obtain ⟨a8,b8,d8⟩:=N v;have y8:=(hE.ext (C.trans v)).cells
   have H:∀ d,Ext A d->Zo d [(L.eb,0+14,iv G.cp)]/\Zo d [(wb,0,.pointer (some ⟨L.eb,0,none⟩))]/\Zo d [(sz h,0,.pointer (some ⟨wb,0,none⟩))]/\Zo d [(L.eb,0+13,iv G.ld)]/\Zo d [(sz h3,0,iv (ZmM (G.t.f Zmv) c.1).1)]:=λd e=>by
     obtain ⟨a9,b9,d9⟩:=N (v.trans e);have y9:=(hE.ext (C.trans (v.trans e))).cells;exact ⟨ZZ (Zb y9 rfl),ZZ d9,ZZ a9,ZZ (Zb y9 rfl),ZZ (Zb (Zj c8 e) rfl)⟩
   refine rI (Zb c8 rfl) (rP a8 (Zg (rP d8 (Zg (rI (Zb y8 rfl) (rP a8 (Zg (rP d8 (Zg (rI (Zb y8 rfl) ⟨?_,?_⟩))))))))))
   ·obtain ⟨g1,D,E,g4,g5⟩:=H A (Ext.refl _)
    refine Zj0 (f2.ext P) ⟨g1,D,E,g4,D,E,g5,ZI λM c9 J z9=>?_⟩;obtain ⟨g1,D,E,g4,g5⟩:=H M J;exact ⟨g1,D,E,g4,D,E,g5,Zbb c9 λV X Y ay=>hQ _ _ ⟨sz A,rfl,X,J.then Y (λk I=>by subst I;exact Aqo _),Aqo _⟩⟩
   ·refine ZI λM c9 J z9=>?_
    obtain ⟨g1,D,E,g4,g5⟩:=H M J;exact ⟨g1,D,E,g4,D,E,g5,Zj0 (f2.ext (P.trans J)) ⟨g1,D,E,g4,D,E,g5,Zbb c9 λV X Y ay=>hQ _ _ ⟨sz A,rfl,X,J.then Y (λk I=>by subst I;exact Aqo _),Aqo _⟩⟩⟩
end
theorem ZEr {f:Zex} (he:f.err=0):0<=f.index:=by
  unfold Zex.err at he;split at he
  ·split at he
   ·rename_i _ a
    unfold Zex.good Js.inJ at a;simp only [Awn,decide_eq_true_eq] at a;omega
   ·cases he
  ·cases he
section
variable {h:Zf} {T:TgM} {L:Lay} {G:GS} {base wb:Nat} {t:Sl} {c:PC} {sl:Sl} {gr:Bool} {tks:List Tk} {wt:Int} {vs:List Value}
theorem ZlD {bx:Nat} (W:WkR h base wb L c sl gr tks wt t vs) (f:tks.length<=5000) {v:Value} (hv:Zr v=true) {K:Sl->Zf->Prop} (a:∀ t' h',Own h' base t' 1 (vs++[v])->Upd (λk=>t.blk=some k) h h'->(t'.blk=t.blk\/t'.blk=some (sz h))->K t' h') (_:bx=bx):app 1 1 8 [.nilFunc] t 1 [v] h K:=by
  have hl:=W.o.len;simp only [Aqv] at hl;have d:=W.l;have lw:=Zp W.w;have e:=W.b;exact W.o.app (n:=1) rfl (by simp [hv]) rfl (by omega) (by omega) e λt' h' o _ u b=>a t' h' o u b
theorem ZEq {bx j:Nat} {f:Zex} {H:HtS} {al:List ByteArray} (V:Zba h T L G) (ok:GOK G) (hb:∀ j,T j≠none->j<base/\j≠wb) (W:WkR h base wb L c sl gr tks wt t vs) (hn:tks.length<=3000) (cb:obj h bx=some (.cells [.pointer (some ⟨wb,0,none⟩)].toArray 142 (0,0))) (n0:base<=bx) (n1:bx≠wb) (n2:t.blk≠some bx)
    (ha:Row h sl 1 (al.map .string)) (bJ:∀ b,sl.blk=some b->b<base/\b≠wb) (Y:G.r.ho[j]?=some f) (hH:G.ho[j]?=some H)
    {Q:Bool->Zf->Prop} (C:∀ h' t' aR,WkR h' base wb L c sl gr (tks++(ZnM G c al (j:Int)).tk) (wtV wt (ZnM G c al (j:Int)).wt) t' aR->WS wb t t' h h'->Q (ZnM G c al (j:Int)).b h'):XK (j:Int) (some ⟨bx,0,none⟩) Q h:=by
  unfold XK Zec;have lw:=Zp W.w;have lb:=W.b;have aS:=ZEr (ok.good.h f (Axo Y));have aI:sl.len=al.length:=by have:=ha.len;simp at this;omega
  have aJ:=ha.cap;have aK:=ha.big;obtain ⟨D,hL⟩:=V.gh hH;obtain ⟨hp,aU,aV,bK⟩:=V.rz.ho
  obtain ⟨p,aW,aX⟩:∃ p,hp[j]?=some p/\p.2=f:=by
    rw [<- aU,Awy] at Y
    cases q:hp[j]? with
    | none=>rw [q] at Y;cases Y
    | some p=>rw [q] at Y;exact ⟨p,rfl,Option.some.inj Y⟩
  subst aX
  have Z:ZnM G c al (j:Int)=(match al[p.2.index.toNat]? with
    | some v=>⟨!hlV H c.1 v c.2.2.2.2.2,[.hot j v],none⟩
    | none=>⟨false,[],none⟩):=by
    unfold ZnM;rw [Aqu,Y,hH];dsimp only;cases al[p.2.index.toNat]?<;>rfl
  refine Zlw (λ(s:Option Addr × Option Addr × Unit) a=>∃ rb d,s.1=some ⟨rb,0,none⟩/\s.2.1=some ⟨d,0,none⟩/\obj a rb=some (.cells (Rw.Zlr p).toArray 134 (0,0))/\obj a d=some (.cells [pB D].toArray 138 (0,0))/\Ext h a/\sz h<=d) ?_ ?_
  ·rintro ⟨r,hq,u⟩ h1 ⟨rb,d,X,l,cr,ch,A,lx⟩
   dsimp only at X l ⊢;subst X;subst l;have W1:=W.ext A;have O:=Zj cb A;have ba:=ha.ext A;have w1:sz h<=sz h1:=A.size;have bL:=Zp ch;refine Zg (rI (Zb cr rfl) (Zg (rP (Zb O rfl) (Zg (rL (s:=sl) (Zb W1.w rfl) (Zn (λq=>?_) λq=>?_))))))
   ·have aa:al[p.2.index.toNat]?=none:=Aqt (by omega)
    rw [aa] at Z;have fin:=C h1 t vs (by rw [Z,Ayt];exact W1) (WS.ext A);rw [Z] at fin;exact fin
   have bc:p.2.index.toNat<al.length:=by omega
   obtain ⟨v,hv⟩:∃ v,al[p.2.index.toNat]?=some v:=⟨_,Axy bc⟩;rw [hv] at Z;dsimp only at Z;refine Zg (Zg (rP (Zb O rfl) (Zg (rL (s:=sl) (Zb W1.w rfl) (rI (Zb cr rfl) (ba.idx (i:=p.2.index) (n:=p.2.index.toNat) (by omega) (v:= .string v) (by rw [Awy,hv];rfl) λb o bM B=>⟨v,B,ZI λN c2 l z2=>?_⟩))))))
   have P:Zf.cell N b (o+p.2.index.toNat)=some (.string v):=by
     have bf:b<sz h1:=by
       rw [Yo] at B
       exact Classical.byContradiction λh9=>by
         rw [show obj h1 b=none from Aqe (by show h1.size<=b;have:¬ b<h1.size:=h9;omega)] at B;cases B
     rw [Yo] at B ⊢;rw [show obj N b=obj h1 b from l.old b bf];exact B
   have W2:=W1.ext l;have bg:=Zj O l;have w2:sz N=sz h1+1:=z2;refine ⟨⟨P,trivial⟩,ZZ (Zb (Zj cr l) rfl),ZZ (Zb W2.w rfl),ZZ (Zb bg rfl),Zbg c2 (show 0<1 by decide) rfl λh3 c3 u3 z3=>?_⟩;have w3:sz h3=sz N:=z3;have ag:Ext h1 h3:=l.then u3 λk C=>by subst C;exact Aqo _
   have W3:=W1.ext ag;have ah:=Zj O ag;refine Zg (rP (Zb ah rfl) (Zg (rP (Zb ah rfl) (Zg (rL (s:=t) (Zb W3.w rfl) (ZI λR c4 e4 z4=>?_))))));have W4:=W3.ext e4;have E:=Zj ah e4;have w4:sz R=sz h3+1:=z4;have ax:=ag.trans e4;have ay:=A.trans ax;refine ⟨ZZ (Zb W4.w rfl),ZZ (Zb E rfl),ZZ (Zb E rfl),(Zj4 c4 rfl).rd ?_⟩;refine ZlD (bx:=0) W4 (by omega) rfl (λt' h5 o5 u5 b5=>?_) rfl;have E4:=V.ext ay;have az:∀ b,t.blk=some b->b<sz h:=λb hb=>(W.o.lt hb).2;have k5:∀ {j:Nat} {x:Obj},obj R j=some x->t.blk≠some j->obj h5 j=some x:=λ{j x} d hn=>(u5.old j (Zp d) hn).trans d;have aA:=k5 E n2;have w5:=k5 W4.w W.n;refine ⟨ZZ (Zb aA rfl),ZZ (Zb aA rfl),Zg (Zbg w5 (show 0+9<12 by decide) rfl λh6 c6 u6 z6=>?_)⟩;have k6:∀ {j:Nat} {x:Obj},obj R j=some x->t.blk≠some j->j≠wb->obj h6 j=some x:=λ{j x} d hn hw=>(u6.old j (Zp (k5 d hn)) hw).trans (k5 d hn);have ai:∀ {b:Nat} {x:Obj} {o:Nat} {vv:Value},obj R b=some x->ZA o (some x)=some vv->base<=b->b≠wb->t.blk≠some b->Bx R base wb t b o vv:=λ{b x o vv} h1 N h3 R h5=>⟨by rw [h1];exact N,h3,Zp h1,R,h5⟩;have aB:=Zj ch ax;have aC:=Zj c3 e4;have aD:t.blk≠some d:=λe=>by have:=az d e;omega
   have aE:t.blk≠some (sz h1):=λe=>by have:=az _ e;omega
   obtain ⟨W6,s6⟩:=W4.add (v:= .func (.func 168) #[] #[pB d,pB bx,pB (sz h1)]) (tk:= .hot j v) (t':=t') (h':=h5) (h'':=h6) ⟨d,bx,sz h1,D,rfl,ai aB rfl (by omega) (by omega) aD,ai E rfl n0 n1 n2,ai aC rfl (by omega) (by omega) aE,by rw [hL];rfl⟩ o5 u5 b5 c6 u6;have E6:=E4.walk hb W4 s6;have bl:=k6 aB aD (show d≠wb by omega);have S:=k6 E n2 n1;have bm:=k6 aC aE (show sz h1≠wb by omega);refine Zg (rP (Zb bl rfl) (Zg (rP (Zb S rfl) (Zg (rI (Zb W6.w rfl) (rS (Zb bm rfl) (Zg (rP (Zb S rfl) (Zg (rI (Zb W6.w rfl) ?_))))))))));obtain ⟨Th,bn,_⟩:=E6.ho.e j (D,H) hL;obtain ⟨er,_,hs⟩:=Classical.choose_spec (Zq9 H c.1 v c.2.2.2.2.2);refine hs bn λh7 e7=>⟨ZZ (Zb (Zj S e7) rfl),ZZ (Zb (Zj S e7) rfl),Zd (Za (Zd ?_))⟩;have fin:=C h7 t' _ (by rw [Z];exact W6.ext e7) ((WS.pre ay s6).then e7);rw [Z] at fin;exact fin
  ·intro J hJ
   obtain ⟨U,oo,_,bo,aF,B⟩:=ZbD (g:=Rw.Zlr) (n:=5) (λ_=>rfl) aV.1 aW (by decide);obtain ⟨b2,o2,_,bp,aj,P⟩:=ZbD (g:=λx:Nat × HtS=>[pN x.1]) (n:=1) (λ_=>rfl) V.ho.r hL (by decide);refine Zg (rP (Zb cb rfl) (Zg (rP (Zb W.w rfl) (Zg (rL (s:=L.z.2.2.1) (Zb V.cells rfl) (aF rfl (rS (B 0 _ rfl) (rI (B 1 _ rfl) (rI (B 2 _ rfl) (rI (B 3 _ rfl) (rL (s:=p.1) (B 4 _ rfl) (Zg (rP (Zb cb rfl) (Zg (rP (Zb W.w rfl) (Zg (rL (s:=L.h1) (Zb V.cells rfl) (aj rfl (rP (P 0 _ rfl) ?_)))))))))))))))))))
   have H:∀ a,Ext h a->Zo a [(b2,o2,pB D)]/\Zo a [(L.eb,0+8+2,slV L.h1)]/\Zo a [(wb,0,.pointer (some ⟨L.eb,0,none⟩))]/\Zo a [(bx,0,.pointer (some ⟨wb,0,none⟩))]/\Zo a [(U,oo,.string (Zx p.2.res)),(U,oo+1,iv p.2.index),(U,oo+2,iv p.2.cnt),(U,oo+3,iv p.2.secs),(U,oo+4,slV p.1)]/\Zo a [(L.eb,0+3+2,slV L.z.2.2.1)]:=λa e=>by
     have kb:∀ j v,(Rw.Zlr p)[j]?=some v->Zf.cell a U (oo+j)=some v:=λj v hj=>by
       rw [Yo,show obj a U=obj h U from e.old U bo];exact B j v hj
     have bq:Zf.cell a b2 o2=some (pB D):=by
       rw [Yo,show obj a b2=obj h b2 from e.old b2 bp];exact P 0 _ rfl
     exact ⟨⟨bq,trivial⟩,ZZ (Zb (V.ext e).cells rfl),ZZ (Zb (W.ext e).w rfl),ZZ (Zb (Zj cb e) rfl),⟨kb 0 _ rfl,kb 1 _ rfl,kb 2 _ rfl,kb 3 _ rfl,kb 4 _ rfl,trivial⟩,ZZ (Zb (V.ext e).cells rfl)⟩
   refine ⟨ZI λh1 c1 X z1=>?_,ZI λh1 c1 X z1=>?_⟩
   ·obtain ⟨F,I,m,y,g5,g6⟩:=H h1 X
    refine ⟨F,I,m,y,g5,g6,m,y,ZI λN c2 l z2=>?_⟩;have K:=X.trans l;obtain ⟨F,I,m,y,g5,g6⟩:=H N K;refine ⟨F,I,m,y,g5,g6,m,y,Zbb (Zj c1 l) λh3 c3 u3 z3=>?_⟩;have w1:sz h1=sz h+1:=z1;have M:Ext h h3:=K.then u3 λk C=>by subst C;exact Aqo _
    obtain ⟨F,I,m,y,_,_⟩:=H h3 M;have bu:obj h3 (sz h1)=_:=(u3.old (sz h1) (Zp c2) (show ¬ sz h1=sz h by omega)).trans c2;refine ⟨F,I,m,y,Zbg bu (show 0<1 by decide) rfl λR c4 u4 z4=>hJ _ _ ⟨sz h,sz h1,rfl,rfl,?_,c4,M.then u4 (λk C=>by subst C;show sz h<=sz h1;omega),by omega⟩⟩;exact (u4.old (sz h) (Zp c3) (show ¬ sz h=sz h1 by omega)).trans c3
   ·obtain ⟨F,I,m,y,g5,g6⟩:=H h1 X
    refine ⟨F,I,m,y,g5,g6,m,y,ZI λN c2 l z2=>?_⟩;have K:=X.trans l;obtain ⟨F,I,m,y,g5,g6⟩:=H N K;refine ⟨F,I,m,y,g5,g6,m,y,Zbb c2 λh3 c3 u3 z3=>?_⟩;have w1:sz h1=sz h+1:=z1;have M:Ext h h3:=K.then u3 λk C=>by subst C;show sz h<=sz h1;omega
    obtain ⟨F,I,m,y,_,_⟩:=H h3 M;have bw:obj h3 (sz h)=_:=(u3.old (sz h) (Zp (Zj c1 l)) (show ¬ sz h=sz h1 by omega)).trans (Zj c1 l);refine ⟨F,I,m,y,Zbg bw (show 0<1 by decide) rfl λR c4 u4 z4=>hJ _ _ ⟨sz h1,sz h,rfl,rfl,?_,c4,M.then u4 (λk C=>by subst C;exact Aqo _),by omega⟩⟩;exact (u4.old (sz h1) (Zp c3) (show ¬ sz h1=sz h by omega)).trans c3
theorem ZHj {al:List ByteArray} (A:Zba h T L G) (ok:GOK G) (q:∀ j,T j≠none->j<base/\j≠wb) (W:WkR h base wb L c sl gr tks wt t vs) (B:tks.length<=2000) (C:Row h sl 1 (al.map .string)) (d:∀ b,sl.blk=some b->b<base/\b≠wb)
    {K:Int->Bool->Zf->Prop} (D:∀ h' t' a x,Zfp (ZnM G c al) (ofK G.r 3 c.2.1) (tks,wt)=x->WkR h' base wb L c sl gr x.2.1 x.2.2 t' a->WS wb t t' h h'->x.2.1.length<=tks.length+256->K (x.1.getD 0) x.1.isSome h'):Zbt (some ⟨wb,0,none⟩) K h:=by
  unfold Zbt ZfA;have lw:=Zp W.w;have lb:=W.b;refine ZI λh1 c1 l N=>Za (rP (Zb c1 rfl) ?_);show ZB ZaX XK (some ⟨wb,0,none⟩) 3 (some ⟨sz h,0,none⟩,()) _ h1;have m:=C.ext l;refine ZqR (f91:=XK) (f:=ZnM G c al) (R:=λu=>Row u sl 1 (al.map .string)) (A.ext l) ok q (W.ext l) B c1 (show sz h≠wb by omega) (λe=>by have:sz h<sz h:=(W.o.lt e).2;omega) (λE=>m.congr λb o g _ hl=>E b hl ?_ ?_) (λk=>?_) ?_ λh' t' a x hw n s hl=>D h' t' a x hw n (WS.pre l s) hl
  ·exact (d b (by simp [Sl.blk,g])).2
  ·intro e
   have:=(d b (by simp [Sl.blk,g])).1;have:=(W.o.lt e).1;omega
  ·unfold ZnM
   split
   ·split
    ·exact Aqo _
    ·exact Ayg _
   ·exact Ayg _
  intro k p u v wt' t' a Q F n I hl cb J i;obtain ⟨j,f,y,z⟩:=ZkI (show k∈ofL (λf:Zex=>Zx f.res) c.2.1 G.r.ho 0 from p);rw [Awb] at y;subst y;obtain ⟨H,M⟩:∃ H,G.ho[j]?=some H:=⟨_,Axy (by rw [ok.lh];exact Zbz z)⟩;exact ZEq F ok q n hl cb (show base<=sz h by omega) (show sz h≠wb by omega) J I d z M i
end
section
variable {h:Zf} {T:TgM} {L:Lay} {G:GS} {base wb:Nat} {t:Sl} {c:PC} {sl:Sl} {gr:Bool} {tks:List Tk} {wt:Int} {vs:List Value}
theorem Zyu {bx j:Nat} {B:BkW} (E:Zba h T L G) (J:∀ j,T j≠none->j<base/\j≠wb) (W:WkR h base wb L c sl gr tks wt t vs) (q:tks.length<=3000) (cb:obj h bx=some (.cells [.pointer (some ⟨wb,0,none⟩)].toArray 142 (0,0))) (n0:base<=bx) (V:bx≠wb) (K:t.blk≠some bx) (X:G.br[j]?=some B)
    {Q:Bool->Zf->Prop} (M:∀ h' t' N,WkR h' base wb L c sl gr (tks++(ZnN G c (j:Int)).tk) (wtV wt (ZnN G c (j:Int)).wt) t' N->WS wb t t' h h'->Q (ZnN G c (j:Int)).b h'):Xo (j:Int) (some ⟨bx,0,none⟩) Q h:=by
  unfold Xo ZcY;have lw:=Zp W.w;have lb:=W.b;obtain ⟨Y,O⟩:=E.gb X
  have Z:ZnN G c (j:Int)=⟨!Zul B.1.1 c.1,[.brk j],none⟩:=by
    unfold ZnN;rw [Aqu,X]
  obtain ⟨b,o,_,_,u,hc⟩:=ZbD (g:=λx:Nat × BkW=>bkL x.1 x.2.2) (n:=2) (λ_=>rfl) E.br.r O (by decide);refine Zg (rP (Zb cb rfl) (Zg (rP (Zb W.w rfl) (Zg (rL (s:=L.b1) (Zb E.cells rfl) (u rfl (rP (hc 0 _ rfl) (rI (hc 1 _ rfl) (ZI λh1 c1 e1 z1=>Zbb c1 λh3 c3 u3 z3=>?_)))))))));have w1:sz h1=sz h+1:=z1;have w3:sz h3=sz h1:=z3;have d:Ext h h3:=e1.then u3 λk M=>by subst M;exact Aqo _
  have W3:=W.ext d;have f:=Zj cb d;refine Zg (rP (Zb f rfl) (Zg (rP (Zb f rfl) (Zg (rL (s:=t) (Zb W3.w rfl) (ZI λp c4 F z4=>?_))))));have y:=W3.ext F;have a:=Zj f F;have z:=d.trans F;refine ⟨ZZ (Zb y.w rfl),ZZ (Zb a rfl),ZZ (Zb a rfl),(Zj4 c4 rfl).rd ?_⟩;refine ZlD (bx:=0) y (by omega) rfl (λt' H o5 u5 b5=>?_) rfl;have E4:=E.ext z;have P:∀ b,t.blk=some b->b<sz h:=λb J=>(W.o.lt J).2;have I:∀ {j:Nat} {x:Obj},obj p j=some x->t.blk≠some j->obj H j=some x:=λ{j x} A q=>(u5.old j (Zp A) q).trans A;have C:=I a K;have w5:=I y.w W.n;refine ⟨ZZ (Zb C rfl),ZZ (Zb C rfl),Zg (Zbg w5 (show 0+9<12 by decide) rfl λR c6 u6 z6=>?_)⟩;have k6:∀ {j:Nat} {x:Obj},obj p j=some x->t.blk≠some j->j≠wb->obj R j=some x:=λ{j x} A q hw=>(u6.old j (Zp (I A q)) hw).trans (I A q);have i:∀ {b:Nat} {x:Obj} {o:Nat} {S:Value},obj p b=some x->ZA o (some x)=some S->base<=b->b≠wb->t.blk≠some b->Bx p base wb t b o S:=λ{b x o S} h1 h2 h3 p H=>⟨by rw [h1];exact h2,h3,Zp h1,p,H⟩;have l:=Zj c3 F;have m:t.blk≠some (sz h):=λe=>by have:sz h<sz h:=P _ e;omega
  obtain ⟨W6,s6⟩:=y.add (v:= .func (.func 174) #[] #[pB (sz h),pB bx]) (tk:= .brk j) (t':=t') (h':=H) (h'':=R) ⟨sz h,bx,Y,B.2,rfl,i l rfl (by omega) (by omega) m,i l rfl (by omega) (by omega) m,i a rfl n0 V K,by rw [O];rfl⟩ o5 u5 b5 c6 u6;have E6:=E4.walk J y s6;have D:=k6 a K V;have U:=k6 l m (show sz h≠wb by omega);refine rP (Zb U rfl) (Zg (rP (Zb D rfl) (Zg (rI (Zb W6.w rfl) ?_))));obtain ⟨wn,mb,cB,_⟩:=(E6.br.e j (Y,B) O).ex;refine Zwe cB λe9=>⟨ZZ (Zb D rfl),Zd (Za (Zd ?_))⟩;have fin:=M R t' _ (by rw [Z];exact W6) (WS.pre z s6);rw [Z] at fin;exact fin
theorem ZBg (q:Zba h T L G) (ok:GOK G) (m:∀ j,T j≠none->j<base/\j≠wb) (W:WkR h base wb L c sl gr tks wt t vs) (u:tks.length<=2000)
    {K:Int->Bool->Zf->Prop} (v:∀ h' t' a x,Zfp (ZnN G c) (ofK G.r 2 c.2.1) (tks,wt)=x->WkR h' base wb L c sl gr x.2.1 x.2.2 t' a->WS wb t t' h h'->x.2.1.length<=tks.length+256->K (x.1.getD 0) x.1.isSome h'):Zaw (some ⟨wb,0,none⟩) K h:=by
  unfold Zaw Zeg;have lw:=Zp W.w;have lb:=W.b;refine ZI λh1 c1 g D=>Za (rP (Zb c1 rfl) ?_);show ZB ZaX Xo (some ⟨wb,0,none⟩) 2 (some ⟨sz h,0,none⟩,()) _ h1;refine ZqR (f91:=Xo) (f:=ZnN G c) (R:=λ_=>True) (q.ext g) ok m (W.ext g) u c1 (show sz h≠wb by omega) (λe=>by have:sz h<sz h:=(W.o.lt e).2;omega) (λ_=>trivial) (λk=>?_) ?_ λh' t' a x hw i s hl=>v h' t' a x hw i (WS.pre g s) hl
  ·unfold ZnN
   split
   ·exact Aqo _
   ·exact Ayg _
  intro k l E n wt' t' a Q y i _ hl cb z d;obtain ⟨j,f,p,A⟩:=ZkI (show k∈ofL (λf:YK=>Zx f.res) c.2.1 G.r.br 0 from l);rw [Awb] at p;subst p;obtain ⟨B,C⟩:∃ B,G.br[j]?=some B:=⟨_,Axy (by rw [ok.lb];exact Zbz A)⟩;exact Zyu y m i hl cb (show base<=sz h by omega) (show sz h≠wb by omega) z C d
end
theorem Zsc {res:ByteArray} {h:Zf} {K:K4->Zf->Prop} (b:∀ h',Ext h h'->K (4,em,res,em,()) h'):ZeD res K h:=by
  unfold ZeD Zhc;refine ZI λh1 c1 c f=>Zbb c1 λd a e g=>?_;exact rI (Zb a rfl) (rS (Zb a rfl) (rS (Zb a rfl) (rS (Zb a rfl) (b d (c.then e λk b=>by subst b;exact Aqo _)))))
abbrev k4O (k:K4):Obj:= .cells (k4L k).toArray 102 (0,0)
section
variable {h:Zf} {T:TgM} {L:Lay} {G:GS} {base wb:Nat} {t:Sl} {c:PC} {sl:Sl} {gr:Bool} {tks:List Tk} {wt:Int} {vs:List Value}
theorem ZGW {f:FlowP} (I:Zba h T L G) (W:WkR h base wb L c sl gr tks wt t vs) {K:Option Addr->Zf->Prop} (d:∀ h' p,Ext h h'->Zor h' p (G.t.f (Ztj (Zat (Rw.ZaK f) (cl c nl))))->K p h'):Zdc (some ⟨wb,0,none⟩) (Rw.ZaK f) K h:=by
  have hw:Zat (Rw.ZaK f) (cl c sl)=Zat (Rw.ZaK f) (cl c nl):=rfl;rw [<- hw] at d;unfold Zdc Zfy;refine ZI λh1 c1 y z1=>Zlw (λs a=>∃ lb,s=(some ⟨lb,0,none⟩,())/\Ext h a/\obj a lb=some (.cells [.string (Zat (Rw.ZaK f) (cl c sl)).1,.string (Zat (Rw.ZaK f) (cl c sl)).2.1,.string (Zat (Rw.ZaK f) (cl c sl)).2.2.1,.bool (Zat (Rw.ZaK f) (cl c sl)).2.2.2.1].toArray 346 (0,0))) ?_ ?_
  ·generalize Zat (Rw.ZaK f) (cl c sl)=l at d ⊢
   rintro _ C ⟨lb,rfl,g,X⟩;dsimp only;refine Zg (rS (Zb X rfl) (Zsc λh3 n=>ZI λD z e4 z4=>Zbb z λE J u5 z5=>?_));have M:Ext h3 E:=e4.then u5 λk d=>by subst d;exact Aqo _
   have A:=n.trans M;have v:=Zj X A;have i:=g.trans A;have w5:=(W.ext i).w;have ag:=I.ext i;have lw:=Zp W.w;have ah:=Zp I.cells;have w3:sz h<=sz h3:=(g.trans n).size;have w4:sz D=sz h3+1:=z4;have aj:sz E=sz D:=z5;refine Zlw (λ(_:Unit) a=>obj a (sz h3)=some (k4O (Ztj l))/\Ext h a) ?_ ?_
   ·rintro _ F ⟨m,N⟩
    have Y:=(W.ext N).w;have B:=I.ext N;refine Zg (rP (Zb Y rfl) (Zg (rP (Zb B.cells rfl) (rI (Zb m rfl) (rS (Zb m rfl) (rS (Zb m rfl) (rS (Zb m rfl) ?_)))))));exact ZpV (k:=Ztj l) B.tree λh7 p Z f7=>⟨ZZ (Zb (Zj Y Z) rfl),d h7 p (N.trans Z) f7⟩
   ·intro Q x
    have up:∀ {a:Zf},Upd (· = sz h3) E a->Ext h a:=λ{a} u=>i.then u λk d=>by subst d;exact w3
    have O:∀ {b:Bool},b=true->¬ b=false:=λj h8=>by rw [j] at h8;cases h8
    refine Zg (rS (Zb v rfl) (Zd ⟨λq=>?_,λq=>?_⟩))
    ·have H:Yp l.2.2.1 em=false:=by
       have j:(!Yp l.2.2.1 em)=true:=q;simpa using j
     refine Zg (rS (Zb v rfl) (Zg (rS (Zb v rfl) (Zbb J λF m P z6=>x () F ⟨?_,up P⟩))));unfold Ztj;rw [if_pos H];exact m
    ·have H:Yp l.2.2.1 em=true:=by
       have j:(!Yp l.2.2.1 em)=false:=q;simpa using j
     refine Zg (rS (Zb v rfl) (Zd ⟨λR=>?_,λR=>?_⟩))
     ·have o:Yp l.2.1 em=false:=by
        have j:(!Yp l.2.1 em)=true:=R;simpa using j
      refine Zg (rS (Zb v rfl) (Zg (rS (Zb v rfl) (Zbb J λF m P z6=>x () F ⟨?_,up P⟩))));unfold Ztj;rw [if_neg (O H),if_pos o];exact m
     ·have o:Yp l.2.1 em=true:=by
        have j:(!Yp l.2.1 em)=false:=R;simpa using j
      refine x () E ⟨?_,i⟩;unfold Ztj;rw [if_neg (O H),if_neg (O o)];exact J
  ·intro Q x
   have w1:=(W.ext y).w
   have S:∀ a,Ext h1 a->Zo a [(wb,0+1,iv c.1),(wb,0+1+1,.string c.2.1),(wb,0+1+2,.string c.2.2.1),(wb,0+1+3,.string c.2.2.2.1),(wb,0+1+4,.bool c.2.2.2.2.1),(wb,0+1+5,iv c.2.2.2.2.2),(wb,0+1+6,slV sl)]:=λa e=>by
     have w:=Zj w1 e;exact ⟨Zb w rfl,Zb w rfl,Zb w rfl,Zb w rfl,Zb w rfl,Zb w rfl,Zb w rfl,trivial⟩
   have U:∀ a,Ext h1 a->Zo a [(sz h,0,.string (Zx f.res)),(sz h,0+1,.string (Zx f.org)),(sz h,0+2,.bool f.thr),(sz h,0+3,iv f.cnt),(sz h,0+4,.int .u8 f.strat),(sz h,0+5,.string (Zx f.ref)),(sz h,0+6,.int .u8 f.shape),(sz h,0+7,iv f.warm),(sz h,0+8,iv f.queue),(sz h,0+9,.bool f.clu),(sz h,0+10,iv f.id),(sz h,0+11,.bool f.fb)]:=λa e=>by
     have w:=Zj c1 e;exact ⟨Zb w rfl,Zb w rfl,Zb w rfl,Zb w rfl,Zb w rfl,Zb w rfl,Zb w rfl,Zb w rfl,Zb w rfl,Zb w rfl,Zb w rfl,Zb w rfl,trivial⟩
   refine Zg (rS (Zb c1 rfl) (rS (Zb c1 rfl) (rB (Zb c1 rfl) (rI (Zb c1 rfl) (rI (Zb c1 rfl) (rS (Zb c1 rfl) (rI (Zb c1 rfl) (rI (Zb c1 rfl) (rI (Zb c1 rfl) (rB (Zb c1 rfl) (rI (Zb c1 rfl) (rB (Zb c1 rfl) (rI (Zb w1 rfl) (rS (Zb w1 rfl) (rS (Zb w1 rfl) (rS (Zb w1 rfl) (rB (Zb w1 rfl) (rI (Zb w1 rfl) (rL (s:=sl) (Zb w1 rfl) ⟨?_,?_⟩)))))))))))))))))))
   ·refine ZtD (r:=Rw.ZaK f) (c:=cl c sl) λC g=>ZI λh3 c3 n z3=>Zbb c3 λD z V z4=>x _ _ ⟨_,rfl,?_,z⟩
    exact ((y.trans g).trans n).then V λk d=>by subst d;exact (y.trans g).size
   ·refine ZI λC c2 g z2=>⟨S C g,U C g,ZtD (r:=Rw.ZaK f) (c:=cl c sl) λh3 n=>Zbb (Zj c2 n) λD z V z4=>x _ _ ⟨_,rfl,?_,z⟩⟩
    exact ((y.trans g).trans n).then V λk d=>by subst d;exact y.size
end
end Go.Proofs.YthbfgkphlmlihaaGreat
