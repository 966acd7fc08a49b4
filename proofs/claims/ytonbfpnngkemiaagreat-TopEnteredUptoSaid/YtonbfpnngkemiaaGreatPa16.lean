/- What is kept: hot rules. -/
import Derived.Test.YtonbfpnngkemiaaGreatPa15
set_option linter.unusedVariables false
set_option linter.unusedSimpArgs false
namespace Go.Proofs.YtonbfpnngkemiaaGreat
open Go Go.Fw Go.Js
theorem ZDq{α:Type}{a b:List α}{i:Nat}{x:α}(h:a.take i=b.take i)(c:a[i]?=some x)(d:b[i]?=some x):a.take (i+1)=b.take (i+1):=by rw[Ayk,Ayk,h,c,d]
theorem ZxK{s t:Sl}{l m:List (BL×Int)}{h:Zf}(hs:Row h s 2 (Rw.Zhk l))(k:Row h t 2 (Rw.Zhk m))(hl:l.length<=1000000){K:Bool->Zf->Prop}(d:(l=m->K true h)/\(l≠m->K false h)):YS s t K h:=by
  unfold YS Xr;have la:=hs.len;have lb:=k.len;rw[Rw.Zny]at la lb;refine Rw.Zqt (λn=>d.2 λe=>n (by rw[e]at la;omega)) λq=>?_;have hlen:l.length=m.length:=by omega
  refine ZaE (λ(p:Int×Unit) o=>o=h/\∃i:Nat,p.1=(i:Int)/\i<=l.length/\l.take i=m.take i) (λp _=>((l.length:Int)- p.1).toNat) ⟨rfl,0,rfl,Aye _,rfl⟩ ?_;rintro⟨D,u⟩ o ⟨f,i,hi,v,g⟩ Q w;subst f;dsimp only at hi⊢;subst hi;refine Zo (λx=>Za ?_) λy=>?_
  ·have a:i<l.length:=by omega
   obtain⟨p,c⟩:∃p,l[i]?=some p:=⟨_,Axy a⟩;obtain⟨q,b⟩:∃q,m[i]?=some q:=⟨_,Axy (by omega)⟩;refine Rw.Zqs hs c rfl (Rw.Zqs k b rfl ?_);rw[Rw.ZgR]
   by_cases e:p=q
   ·subst e;refine Zi (by simp) ?_;rw[wrS a (by omega)];exact w _ _ ⟨rfl,i+1,rfl,a,ZDq g c b⟩ (by show((l.length:Int)- ((i+1:Nat):Int)).toNat<((l.length:Int)- ((i:Nat):Int)).toNat;omega)
   ·refine Zn ?_ (d.2 λj=>e (by rw[j,b]at c;exact(Option.some.inj c).symm));obtain⟨z,A⟩:=p;obtain⟨B,C⟩:=q
    by_cases r:z=B
    ·subst r;have j:¬A=C:=λf=>e (by rw[f]);simp[j]
    ·simp[r]
  ·have:i=l.length:=by omega
   subst this;rw[Awd (Aqo _),Awd (by omega)]at g;exact d.1 g
theorem ZtW{α β γ:Type}{f:α->β}{eq:β->Bool}:∀{ws:List α} {us:List Bool} {i:Nat},pick (λa=>eq (f a)) ws us i=pick eq (ws.map f) us i
  |[],us,i=>by cases us<;>rfl
  |w::ws,[],i=>rfl
  | w::ws,u::us,i=>by
    show(if u=false/\eq (f w)=true then _ else _)=(if u=false/\eq (f w)=true then _ else _);rw[ZtW (γ:=γ) (ws:=ws) (us:=us) (i:=i+1)]
theorem Zrz{α β:Type}{f:α->β}{same:β->β->Bool}{c:List α}:∀{now:List α} {us:List Bool},Zfi (λa b=>same (f a) (f b)) c now us=Zfi same (c.map f) (now.map f) us
  |[],_=>rfl
  | r::rs,us=>by
    show(pick (λb=>same (f r) (f b)) c us 0).1::Zfi (λa b=>same (f a) (f b)) c rs (pick (λb=>same (f r) (f b)) c us 0).2=(pick (same (f r)) (c.map f) us 0).1::Zfi same (c.map f) (rs.map f) (pick (same (f r)) (c.map f) us 0).2;rw[ZtW (γ:=β),Zrz]
theorem Zw2{a b:Zen}{x y:Sl}{h:Zf}(r:Row h x 2 (Rw.Zhk a.items))(t:Row h y 2 (Rw.Zhk b.items))(hl:a.items.length<=1000000){K:Bool->Zf->Prop}(o:∀h',Ext h h'->K (Zmt a b) h'):Zev (Rw.ZE8 x a) (Rw.ZE8 y b) K h:=by
  have tr:a=b->Zmt a b=true:=λe=>(Zrc a b).2 e;unfold Zev Zg3;refine ZH λh1 c1 u v=>ZH λg f p w=>?_;have c:=Zj c1 p;have d:=u.trans p
  have no:a≠b->K false g:=λe=>by
    have:=o g d
    cases q:Zmt a b with
    |false=>rwa[q]at this
    |true=>exact absurd ((Zrc a b).1 q) e
  have yes:a=b->K true g:=λe=>by
    have:=o g d;rwa[tr e]at this
  refine rS (n:=Zx a.res) (Zb c rfl) (rS (n:=Zx b.res) (Zb f rfl) ?_);rw[Rw.ZgR];refine Zo (λi=>?_) λi=>no λe=>i (by rw[e]);refine rI (n:=a.index) (Zb c rfl) (rI (n:=b.index) (Zb f rfl) (Z0 (λj=>?_) λj=>no λe=>j (by rw[e])));refine rI (n:=a.cnt) (Zb c rfl) (rI (n:=b.cnt) (Zb f rfl) (Z0 (λk=>?_) λk=>no λe=>k (by rw[e])));refine rI (n:=a.secs) (Zb c rfl) (rI (n:=b.secs) (Zb f rfl) (Z0 (λl=>?_) λl=>no λe=>l (by rw[e])));refine rL (s:=x) (Zb c rfl) (rL (s:=y) (Zb f rfl) (ZxK (r.ext d) (t.ext d) hl ⟨λm=>Zd (yes ?_),λm=>Zd (no λe=>m (by rw[e]))⟩));obtain⟨z,A,a3,a4,a5⟩:=a;obtain⟨b1,b2,B,b4,C⟩:=b;simp only at i j k l m;rw[i,j,k,l,m]
theorem Zvb{a b:Zen}{x y:Sl}{h:Zf}(ha:Row h x 2 (Rw.Zhk a.items))(hb:Row h y 2 (Rw.Zhk b.items))(hl:a.items.length<=1000000){K:Bool->Zf->Prop}(n:∀h',Ext h h'->K (Zmt a b) h'):Xy (Rw.ZE8 x a) (Rw.ZE8 y b) K h:=by
  unfold Xy Zcb;refine ZH λh1 c1 e1 z1=>ZH λh2 c2 U z2=>?_;have d:=Zj c1 U;refine rS (Zb d rfl) (rI (Zb d rfl) (rI (Zb d rfl) (rI (Zb d rfl) (rL (s:=x) (Zb d rfl) (ZH λh3 c3 V z3=>?_)))));have f:=Zj c2 V;refine rS (Zb f rfl) (rI (Zb f rfl) (rI (Zb f rfl) (rI (Zb f rfl) (rL (s:=y) (Zb f rfl) (ZH λh4 c4 W z4=>?_)))));have B:=Zj c3 W;unfold Zju ZjE;refine ZH λh5 c5 C z5=>ZH λh6 o w z6=>?_;have g:=Zj c5 w;have D:=(V.trans W).trans (C.trans w);have l:=(e1.trans U).trans D;refine rL (s:=nl) (Zb g rfl) (rL (s:=nl) (Zb o rfl) ?_);unfold Xq Xs;refine Zi rfl (ZaE (λp F=>p=(0,())/\F=h6) (λ_ _=>0) ⟨rfl,rfl⟩ ?_);rintro _ F ⟨rfl,G⟩ Q _;subst G;refine Zi rfl (Zn rfl (rL (s:=nl) (Zb g rfl) (rL (s:=nl) (Zb o rfl) ?_)));unfold Xd Xe;refine Zi rfl (ZaE (λp H=>p=(0,())/\H=F) (λ_ _=>0) ⟨rfl,rfl⟩ ?_);rintro _ H ⟨rfl,I⟩ Q _;subst I;refine Zi rfl (Zn rfl (rL (s:=nl) (Zb g rfl) (rL (s:=nl) (Zb o rfl) ?_)));unfold Y5 Y6;refine Zi rfl (ZaE (λp z=>p=(0,())/\z=H) (λ_ _=>0) ⟨rfl,rfl⟩ ?_);rintro _ z ⟨rfl,J⟩ Q _;subst J;have fin:∀(v:Bool) (r:Zf),v=Zmt a b->Ext h r->K v r:=λv r e L=>by rw[e];exact n r L
  refine Zi rfl (Zn rfl (rL (s:=⟨some ⟨sz h2,0,none⟩,1,1⟩) (Zb g rfl) (rL (s:=⟨some ⟨sz h3,0,none⟩,1,1⟩) (Zb o rfl) ?_)));unfold ZM ZN;have d3:=Zj B (C.trans w);have d4:=Zj c4 (C.trans w);refine Zi rfl (ZaE (λ(p:Int×Unit) hz=>(p.1=0/\hz=z)\/(p.1=1/\Ext z hz/\Zmt a b=true)) (λp _=>(1-p.1).toNat) (.inl ⟨rfl,rfl⟩) ?_);rintro⟨i,u⟩ hz (⟨m,M⟩ |⟨m,N,hs⟩) Q hQ
  ·dsimp only at m⊢
   subst m;subst M;have ix:∀{A:Nat} {P:Nat->Nat->Prop},P A 0->YI (some ⟨A,0,none⟩) 1 0 5 P:=λ{A P} m=>⟨A,0,rfl,by decide,by decide,m⟩;refine Zn rfl (ix (rS (Zb d3 rfl) (rI (Zb d3 rfl) (rI (Zb d3 rfl) (rI (Zb d3 rfl) (rL (s:=x) (Zb d3 rfl) (ZH λh7 c7 e7 z7=>Za (Zaw c7 λX c8 u8 z8=>ix ?_))))))));have Y:Ext hz X:=e7.then u8 λk n=>by subst n;exact Aqo _
   have d48:=Zj d4 Y;refine rS (Zb d48 rfl) (rI (Zb d48 rfl) (rI (Zb d48 rfl) (rI (Zb d48 rfl) (rL (s:=y) (Zb d48 rfl) (ZH λr c9 L z9=>Zaw c9 λO j R av=>?_)))));have t:Ext X O:=L.then R λk n=>by subst n;exact Aqo _
   have c:=Zj c8 t;refine rS (Zb c rfl) (rI (Zb c rfl) (rI (Zb c rfl) (rI (Zb c rfl) (rL (s:=x) (Zb c rfl) (rS (Zb j rfl) (rI (Zb j rfl) (rI (Zb j rfl) (rI (Zb j rfl) (rL (s:=y) (Zb j rfl) (?_))))))))));have E:=Y.trans t;refine Zw2 (ha.ext (l.trans E)) (hb.ext (l.trans E)) hl λaw S=>?_;have Z:=E.trans S
   cases q:Zmt a b with
   |true=>exact Zi rfl (hQ _ _ (.inr ⟨rfl,Z,q⟩) (show(1-IntKind.wrap .i64 (0+1)).toNat<(1-(0:Int)).toNat by decide))
   |false=>exact Zn rfl (Zi rfl (Zd (fin _ _ q.symm (l.trans Z))))
  ·dsimp only at m⊢;subst m;refine Zi rfl (Zn rfl (rL (s:=nl) (Zb (Zj g N) rfl) (rL (s:=nl) (Zb (Zj o N) rfl) ?_)));unfold Zv Zw;refine Zi rfl (ZaE (λp hw=>p=(0,())/\hw=hz) (λ_ _=>0) ⟨rfl,rfl⟩ ?_);rintro _ hw ⟨rfl,T⟩ Q _;subst T;exact Zi rfl (Zd (Zd (fin _ _ hs.symm (l.trans N))))
theorem ZD3{h:Zf}{s w:Sl}{A B:List (Sl×Zen)}(hs:Row h s 5 (A.flatMap Rw.Zlf))(hw:Row h w 5 (B.flatMap Rw.Zlf))(hi:∀p,p∈A\/p∈B->Row h p.1 2 (Rw.Zhk p.2.items)/\p.2.items.length<=1000000)(F:A.length<=256)(G:B.length<=256){K:Sl->Zf->Prop}(q:∀h' t,Ext h h'->Own h' (sz h) t 1 ((Zfi Zmt (B.map (·.2)) (A.map (·.2)) (List.replicate B.length false)).map iv)->K t h'):Yn s w K h:=by
  unfold Yn YL;rw[<-Zrz]at q
  refine ZxJ (g:=Rw.Zlf) (n:=5) (T:=72) (same:=λa b=>Zmt a.2 b.2) (λ_=>rfl) (by decide) hs hw F G
    (ld1:=λb o h3 Q=>ldS h3 b o λt0=>ldI h3 b (o+1) .i64 λt1=>ldI h3 b (o+2) .i64 λt2=>ldI h3 b (o+3) .i64 λt3=>ldL h3 b (o+4) λt4=>newC h3 [Value.string (ByteArray.mk #[]),iv 0,iv 0,iv 0,Value.slice none 0 0] 72 λj l=>sts l j 0 [Value.string t0,iv t1,iv t2,iv t3,Value.slice t4.ptr t4.len t4.cap] λm=>Q j m)
    (ld2:=λb o h3 u Q=>ldS h3 b o λt0=>ldI h3 b (o+1) .i64 λt1=>ldI h3 b (o+2) .i64 λt2=>ldI h3 b (o+3) .i64 λt3=>ldL h3 b (o+4) λt4=>newC h3 [Value.string (ByteArray.mk #[]),iv 0,iv 0,iv 0,Value.slice none 0 0] 72 λj l=>Zc u λi=>sts l j 0 [Value.string t0,iv t1,iv t2,iv t3,Value.slice t4.ptr t4.len t4.cap] λm=>Q j i m)
    (cmp:=λc d f Q=>ldS f c 0 λH=>ldI f c (0+1) .i64 λI=>ldI f c (0+2) .i64 λJ=>ldI f c (0+3) .i64 λL=>ldL f c (0+4) λM=>ldS f d 0 λN=>ldI f d (0+1) .i64 λO=>ldI f d (0+2) .i64 λP=>ldI f d (0+3) .i64 λR=>ldL f d (0+4) λS=>Xy (H,I,J,L,M,()) (N,O,P,R,S,()) Q f) ?_ ?_ ?_ q
  ·intro a U o f Q e r;exact rS (e 0 _ rfl) (rI (e 1 _ rfl) (rI (e 2 _ rfl) (rI (e 3 _ rfl) (rL (s:=a.1) (e 4 _ rfl) (ZH λh1 c1 v V=>Zaw c1 λz C D W=>r z _ (v.then D λk q=>by subst q;exact Aqo _) (Aqo _) C)))))
  ·intro a U o f i Q e r;exact rS (e 0 _ rfl) (rI (e 1 _ rfl) (rI (e 2 _ rfl) (rI (e 3 _ rfl) (rL (s:=a.1) (e 4 _ rfl) (ZH λh1 c1 v V=>Za (Zaw c1 λz C D W=>r z _ (v.then D λk q=>by subst q;exact Aqo _) C))))))
  ·intro a b c d f Q E X he e hd r;refine rS (Zb e rfl) (rI (Zb e rfl) (rI (Zb e rfl) (rI (Zb e rfl) (rL (s:=a.1) (Zb e rfl) (rS (Zb hd rfl) (rI (Zb hd rfl) (rI (Zb hd rfl) (rI (Zb hd rfl) (rL (s:=b.1) (Zb hd rfl) (Zvb (x:=a.1) (y:=b.1) ((hi a (.inl E)).1.ext he) ((hi b (.inr X)).1.ext he) (hi a (.inl E)).2 r))))))))))
theorem ZnB{KL:List Int}{kt:Sl}{body:Int->Int->Zf->(Zf->Prop)->Prop}{K:Zf->Prop}{h:Zf}(Inv:Nat->Zf->Prop)(hl:KL.length<=1000000)
    (e:∀m hh,Inv m hh->Row hh kt 1 (KL.map iv)) (h0:Inv 0 h) (hs:∀(m:Nat) k hh (Q:Zf->Prop),KL[m]?=some k->Inv m hh->(∀h',Inv (m+1) h'->Q h')->body m k hh Q) (he:∀hh,Inv KL.length hh->K hh):
    Yl (σ:=Int×Unit) (λJ s hh=>(λ(i:Int)=>Zl (decide (i<(kt.len:Int))) (YI kt.ptr kt.len i 1 λb o=>ldI hh b o .i64 λt=>body i t hh (λh'=>J (IntKind.wrap .i64 (i+1),()) h')) (K hh)) s.1) (0,()) h:=by
  refine ZaE (λ(p:Int×Unit) hh=>∃m:Nat,p=((m:Int),())/\m<=KL.length/\Inv m hh) (λp _=>((KL.length:Int)- p.1).toNat) ⟨0,rfl,Aye _,h0⟩ ?_;rintro _ hh ⟨m,rfl,hm,hi⟩ Q f;dsimp only;have r:=e m hh hi;have g:=r.len;simp only[Ayt,Aqv]at g;refine Zo (λq=>?_) λq=>?_
  ·have a:m<KL.length:=by omega
   have c:KL[m]?=some KL[m]:=Axy a;generalize KL[m]=k at c;refine r.idx (i:=(m:Int)) (n:=m) rfl (v:=iv k) (by rw[Awy,c];rfl) λb o _ j=>⟨k,j,?_⟩;refine hs m k hh _ c hi λh' d=>?_;rw[wrS a (by omega)];exact f _ _ ⟨m+1,rfl,a,d⟩ (by show((KL.length:Int)- ((m+1:Nat):Int)).toNat<((KL.length:Int)- ((m:Nat):Int)).toNat;omega)
  ·have:m=KL.length:=by omega
   subst this;exact he hh hi
structure Zsm{σ:Type}(hA:Zf)(b12:Nat)(mk:Sl->Obj)(n:Nat)(gV:σ->List Value)(hd:σ->List Nat)(P:Zf->TgM->σ->Prop)(old:List σ)(T:TgM)(KL:List Int)(m:Nat)(hh:Zf)(s:Sl)(done:List σ)(T':TgM):Prop where
  u:Upd (· = b12) hA hh
  c:obj hh b12=some (mk s)
  o:Own hh (sz hA) s n (done.flatMap gV)
  l:done.length=m
  sel:Sel hd old KL (sz hA) (sz hh) done
  sub:Zdi T T'
  new:∀j,T' j≠none->T j≠none\/(sz hA<=j/\j<sz hh)
  sb:∀b,s.blk=some b->T' b=none
  b:T' b12=none
  e:∀(i:Nat) (x:σ),done[i]?=some x->P hh T' x
def ZpD{σ:Type}(P:Zf->TgM->σ->Prop):Prop:=∀{a b:Zf} {U c:TgM} {x:σ},P a U x->Zde (λ_=>False) U a b->Zdi U c->sz a<=sz b->P b c x
section
variable{σ:Type}{hA hh:Zf}{b12:Nat}{mk:Sl->Obj}{n:Nat}{gV:σ->List Value}{hd:σ->List Nat}{P:Zf->TgM->σ->Prop}{old:List σ}{T T':TgM}{KL:List Int}{m:Nat}{s:Sl}{done:List σ}
theorem Zsm.add(I:Zsm hA b12 mk n gV hd P old T KL m hh s done T')(G:ZpD P)(hT:∀j,T j≠none->j<sz hA)(K:b12<sz hA){h1 d h3:Zf}{mk':Sl->Obj}{s':Sl}{x:σ}{T'':TgM}(B:Upd (· = b12) hh h1)(L:Own d (sz hA) s' n (done.flatMap gV++gV x))(C:Upd (λk=>s.blk=some k) h1 d)
    (M:obj h3 b12=some (mk' s')) (z:Upd (· = b12) d h3) (D:s'.blk=s.blk\/s'.blk=some (sz h1)) (p:Sel hd old KL (sz hA) (sz h1) (done++[x])) (sub:Zdi T' T'') (new:∀j,T'' j≠none->T' j≠none\/(sz hh<=j/\j<sz h1)) (H:∀b,s.blk=some b->T'' b=none) (r:T'' b12=none) (N:P h1 T'' x):
    Zsm hA b12 mk' n gV hd P old T KL (m+1) h3 s' (done++[x]) T'':=by
  have w0:sz hA<=sz hh:=I.u.size;have w1:sz hh<=sz h1:=B.size;have v:sz h1<=sz d:=C.size;have A:sz d<=sz h3:=z.size
  have w:Zde (λ_=>False) T'' h1 h3:=λj t a _=>by
    have f:j<sz h1:=by
      rcases new j (Y9 a)with g|g
      ·rcases I.new j g with g|g
       ·have:=hT j g;omega
       ·omega
      ·exact g.2
    have O:¬s.blk=some j:=λe=>by rw[H j e]at a;cases a
    have Q:¬j=b12:=λe=>by rw[e,r]at a;cases a
    exact(z.old j (Aqq f v) Q).trans (C.old j f O)
  have E:Zde (λ_=>False) T' hh h3:=λj t a hd=>by
    have f:j<sz hh:=by
      rcases I.new j (Y9 a)with g|g
      ·have:=hT j g;omega
      ·exact g.2
    exact(w j t (sub.to a) hd).trans (B.old j f λe=>by rw[e,I.b]at a;cases a)
  refine⟨?_,M,?_,by rw[Awe,I.l];rfl,p.top (Aqp v A),I.sub.trans sub,λj f=>?_,λb c=>?_,r,λi y R=>?_⟩
  ·refine⟨Aqp I.u.size (Aqp w1 (Aqp v A)),λk J F=>?_⟩;have S:k<sz hA:=J;refine(z.old k (show k<sz d by omega) F).trans ((C.old k (show k<sz h1 by omega) λe=>?_).trans ((B.old k (show k<sz hh by omega) F).trans (I.u.old k J F)));have:=(I.o.lt e).1;omega
  ·rw[Ayj];have:=ZtY L z K;simpa using this
  ·rcases new j f with g|g
   ·rcases I.new j g with g|g
    ·exact .inl g
    ·exact .inr ⟨g.1,by omega⟩
   ·exact .inr ⟨by omega,by omega⟩
  ·rcases D with e|e
   ·exact H b (e▸c)
   ·rw [e]at c;cases c
    cases q:T'' (sz h1)with
    |none=>rfl
    | some t=>
      rcases new _ (Y9 q)with g|g
      ·rcases I.new _ g with g|g
       ·have:=hT _ g;omega
       ·omega
      ·omega
  ·rcases ZqL R with h|⟨_,h⟩
   ·exact G (I.e i y h) E sub (Aqp w1 (Aqp v A))
   ·subst h;exact G N w (Zdi.refl _) (Aqp v A)
theorem Zsm.keepOld(I:Zsm hA b12 mk n gV hd P old T KL m hh s done T')(c:ZpD P)(hT:∀j,T j≠none->j<sz hA){k:Nat}{x:σ}(_:old[k]?=some x)(d:P hA T x):P hh T' x:=
  c d (λj t a _=>I.u.old j (ZbX hT a) λe=>by
   have:=I.sub.to a;rw[e,I.b]at this
   cases this) I.sub I.u.size
end
abbrev ZG7(eb b8 b12:Nat):Int->Int->Zf->(Zf->Prop)->Prop:=λp t25 a Q=>Zc p λk=>  Zc t25 λi=>  Zl (decide (i>=0)) ( ldL a b12 0 λt26=>  ldL a b8 0 λt27=>  YI t27.ptr t27.len i 2 λl m=>  ldP a l m λt30=>ldP a l (m+1) λt31=>  newC a [.pointer t30,.pointer t31] 162 λq d=>  Zu (Zm d [(b8,0,.slice t27.ptr t27.len t27.cap)])<|Zu (Zm d [(b12,0,.slice t26.ptr t26.len t26.cap)])<|rdS ⟨some ⟨q,0,none⟩,1,1⟩ 2 d λnew=>app 162 2 16 [.pointer none,.pointer none] t26 1 new d λt34 n=>  Zu (Zm n [(b8,0,.slice t27.ptr t27.len t27.cap)])<|st n b12 0 (.slice t34.ptr t34.len t34.cap) λr=>  Q r) ( Ze (some ⟨eb,0,none⟩) λe f=>  ldL a b12 0 λt39=>  ldL a e (f+3) λt40=>  YI t40.ptr t40.len k 12 λb c=>  ldS a b c λt43=>ldS a b (c+1) λt44=>ldB a b (c+2) λt45=>ldI a b (c+3) .i64 λt46=>ldI a b (c+4) .u8 λt47=>ldS a b (c+5) λt48=>ldI a b (c+6) .u8 λt49=>ldI a b (c+7) .i64 λt50=>ldI a b (c+8) .i64 λt51=>ldB a b (c+9) λt52=>ldI a b (c+10) .i64 λt53=>ldB a b (c+11) λt54=>  Zbk (t43,t44,t45,t46,t47,t48,t49,t50,t51,t52,t53,t54,()) (λt55 h=>Zu (Zm h [(e,f+3,.slice t40.ptr t40.len t40.cap)])<|Zu (Zm h [(b12,0,.slice t39.ptr t39.len t39.cap)])<|newC h [.pointer t55.1,.pointer t55.2.1] 162 λs g=>  Zu (Zm g [(e,f+3,.slice t40.ptr t40.len t40.cap)])<|Zu (Zm g [(b12,0,.slice t39.ptr t39.len t39.cap)])<|rdS ⟨some ⟨s,0,none⟩,1,1⟩ 2 g λj=>app 162 2 16 [.pointer none,.pointer none] t39 1 j g λt59 o=>  Zu (Zm o [(e,f+3,.slice t40.ptr t40.len t40.cap)])<|st o b12 0 (.slice t59.ptr t59.len t59.cap) λt=>  Q t) a)
abbrev mkF(g:Int)(s:Sl):Obj:=.cells [slV s,slV nl,slV nl,iv g].toArray 91 (0,0)
abbrev PF(h:Zf)(T:TgM)(x:ShP×ShS):Prop:=ShR h (hdT T) x.1 x.2
theorem Zx1:ZpD PF:=λa k s _=>ZmW k s a λ_ _=>id
abbrev ZHW(hA:Zf)(b12:Nat)(g:Int):=Zsm hA b12 (mkF g) 2 (λx:ShP×ShS=>shL x.1) (λx=>hdP x.1) PF
def ZE4(T:TgM)(lo hi:Nat):TgM:=λj=>if lo<=j/\j<hi then some (.p j)else T j
theorem ZAm{T:TgM}{lo hi:Nat}(hT:∀j,T j≠none->j<lo):Zdi T (ZE4 T lo hi):=λj a=>if_neg λh=>by have:=hT j a;omega
theorem ZDt{T:TgM}{lo hi j:Nat}(h:ZE4 T lo hi j≠none):T j≠none\/(lo<=j/\j<hi):=by
  unfold ZE4 at h;split at h
  ·rename_i q;exact .inr q
  ·exact .inl h
theorem Zpd{h:Zf}{O:Nat->Prop}{p:ShP}{x:ShS}(s:ShR h O p x):(hdP p).Nodup/\∀b,b∈hdP p->O b:=by
  obtain⟨n,g⟩:=p;obtain⟨t,o⟩:=x;obtain⟨a,b⟩:=s
  cases t with
  | none=>
    have i:n=none:=a;subst i
    cases o with
    | none=>
      have d:g=none:=b;subst d;exact⟨List.nodup_nil,λb c=>by cases c⟩
    | some w=>
      obtain⟨b2,d,j,k⟩:=b;have f:g=some ⟨b2,0,none⟩:=d;subst f;exact⟨by simp[hdP,Ztl],λb c=>by simp[hdP,Ztl]at c;subst c;exact k⟩
  | some q=>
    obtain⟨b1,i,c1,r⟩:=a;have l:n=some ⟨b1,0,none⟩:=i;subst l
    cases o with
    | none=>
      have d:g=none:=b;subst d;exact⟨by simp[hdP,Ztl],λb c=>by simp[hdP,Ztl]at c;subst c;exact r⟩
    | some w=>
      obtain⟨b2,d,j,k⟩:=b;have f:g=some ⟨b2,0,none⟩:=d;subst f
      have m:b1≠b2:=λe=>by
        subst e;rw[c1]at j;simp[pcL,wmL]at j
      exact ⟨by simpa[hdP,Ztl]using m,λb c=>by
        simp[hdP,Ztl]at c
        rcases c with rfl|rfl
        ·exact r
        ·exact k⟩
section
variable{hA hh:Zf}{eb sb tb fm b8 b12 m:Nat}{G:GS}{z:Rw.VTR}{f1 b1 h1 s:Sl}{g0 g k:Int}{T T':TgM}{old done:List (ShP×ShS)}{KL:List Int}{A:List FlowP}{f:FlowP}
theorem ZNu
    (ce:obj hA eb=some (geO G sb tb fm z f1 b1 h1)) (c8:obj hA b8=some (.cells [slV f1,slV b1,slV h1,iv g0].toArray 91 (0,0))) (n8:b8≠b12) (ne:eb≠b12) (hb:b12<sz hA) (hT:∀j,T j≠none->j<sz hA) (ho:(old.flatMap λx=>hdP x.1).Nodup) (J:∀b,b∈(old.flatMap λx=>hdP x.1)->b<sz hA)
    (hK:∀{i j k:Nat},KL[i]?=some (k:Int)->KL[j]?=some (k:Int)->i=j) (au:KL.length<=256) (hk:KL[m]?=some k) (R:k= -1\/∃(j:Nat) (x:ShP×ShS),k=(j:Int)/\old[j]?=some x)
    (hz:Row hA z.1 12 (A.flatMap Rw.Ze9)) (S:z.1.len≠0->z.1.blk≠some b12) (U:Row hA f1 2 (old.flatMap λx=>shL x.1)) (V:f1.len≠0->f1.blk≠some b12) (X:∀(i:Nat) x,old[i]?=some x->PF hA T x) (he:f.err=0) (hf:A[m]?=some f)
    (I:ZHW hA b12 g old T KL m hh s done T') {Q:Zf->Prop} (hQ:∀h' s' x T'',ZHW hA b12 g old T KL (m+1) h' s' (done++[x]) T''->x.2=Zkr ShS.new (old.map (·.2)) k f->Q h'):ZG7 eb b8 b12 m k hh Q:=by
  have w0:sz hA<=sz hh:=I.u.size;have ml:m<KL.length:=Zbn hk;have sl:s.len=m:=by have:=Zal (g:=λx:ShP×ShS=>shL x.1) (λ_=>rfl) I.o.row (by decide);rw[I.l]at this;exact this
  have y:=YW ce I.u ne;have C:=YW c8 I.u n8
  have fin:∀{h1 d:Zf} {p:ShP} {x:ShS} {T'':TgM},Upd (· = b12) hh h1->Ext h1 d->Sel (λx:ShP×ShS=>hdP x.1) old KL (sz hA) (sz h1) (done++[(p,x)])->Zdi T' T''->(∀j,T'' j≠none->T' j≠none\/(sz hh<=j/\j<sz h1))->(∀b,s.blk=some b->T'' b=none)->T'' b12=none->PF h1 T'' (p,x)->x=Zkr ShS.new (old.map (·.2)) k f->sz d=sz h1+1->obj d b12=some (mkF g s)->
      ∀{W:Sl->Zf->Prop},(∀s' h3,(∀{vs},obj d b8=some vs->obj h3 b8=some vs)->(∀{vs},obj d eb=some vs->obj h3 eb=some vs)->st h3 b12 0 (.slice s'.ptr s'.len s'.cap) Q->W s' h3)->app 162 2 16 [.pointer none,.pointer none] s 1 (shL p) d W:=λ{h1 d p x T''} Y h K sub new nb Z D hp P L {W} hW=>by
    have w1:sz hh<=sz h1:=Y.size;have o2:Own d (sz hA) s 2 (done.flatMap λx=>shL x.1):=(I.o.congr (h':=h1) λb q E aa=>Y.old b E (by have:sz hA<=b:=aa;show ¬b=b12;omega)).congr λb q E _=>h.old b E;refine o2.app (n:=1) rfl rfl rfl (by omega) (by omega) (by show sz hA<=sz d;omega) λs' h3 o3 l3 u3 b3=>?_;have keep:∀{j:Nat} {vs:Obj},j<sz hA->obj d j=some vs->obj h3 j=some vs:=λ{j vs} r hv=>(u3.old j (Zp hv) λe=>by have:=(I.o.lt e).1;omega).trans hv;refine hW s' h3 (λhv=>keep (Zp c8) hv) (λhv=>keep (Zp ce) hv) (Zbs (keep hb L) (show 0<4 by decide) rfl λh4 c4 u4 z4=>hQ h4 s' (p,x) T'' ?_ hp);have w2:sz h1<=sz d:=h.size;refine(show ZHW hA b12 g old T KL (m+1) h4 s' (done++[(p,x)]) T'' from ?_);refine Zsm.add (h1:=d) I Zx1 hT hb (Y.trans (h.upd _)) o3 u3 c4 u4 (b3.imp id id) (K.top w2) sub (λj r=>(new j r).imp id λh9=>⟨h9.1,by omega⟩) nb Z (ZmW (x:=x) (λj t ht _=>h.old j ?_) (Zdi.refl T'') D λ_ _=>id)
    rcases new j (Y9 ht)with w|w
    ·rcases I.new j w with w|w
     ·have:=hT j w;show j<sz h1;omega
     ·show j<sz h1;omega
    ·exact w.2
  refine Za (Za ?_)
  rcases R with F|⟨j,x,F,D⟩
  ·subst F;obtain⟨bb,oo,_,_,v,a⟩:=Za5 Zf4 (Zdj hz S I.u) hf (by decide);refine Zi rfl (Zg (rL (s:=s) (Zb I.c rfl) (rL (s:=z.1) (Zb y rfl) (v rfl (rS (a 0 _ rfl) (rS (a 1 _ rfl) (rB (a 2 _ rfl) (rI (a 3 _ rfl) (rI (a 4 _ rfl) (rS (a 5 _ rfl) (rI (a 6 _ rfl) (rI (a 7 _ rfl) (rI (a 8 _ rfl) (rB (a 9 _ rfl) (rI (a 10 _ rfl) (rB (a 11 _ rfl) (ZsY he λh1 p O H hO M=>?_)))))))))))))))));have w1:sz hh<=sz h1:=M.size;refine⟨ZR (Zb (Zj y M) rfl),ZR (Zb (Zj I.c M) rfl),ZH λd L h P=>?_⟩;have B:=M.trans h
   have ag:∀j,T' j≠none->j<sz hh:=λj r=>by
     rcases I.new j r with w|w
     ·have:=hT j w;omega
     ·exact w.2
   obtain⟨nd,ah⟩:=Zpd H;refine⟨ZR (Zb (Zj y B) rfl),ZR (Zb (Zj I.c B) rfl),(Zje L rfl).rd ?_⟩;refine fin (p:=p) (x:=ShS.new f) (T'':=ZE4 T' (sz hh) (sz h1)) (M.upd _) h (I.sel.new J (by show sz hA<=sz hh;exact w0) w1 nd λb q=>hO b (ah b q)) (ZAm ag) (λj r=>ZDt r) (λb q=>?_) ?_ ⟨H.1.congr (λj r hl=>?_) (λ_ _ _=>rfl),H.2.congr (λj r hl=>?_) (λ_ _ _=>rfl)⟩ ?_ P (Zj I.c B) λs' h3 k1 k2 hs=>⟨ZR (Zb (k2 (Zj y B)) rfl),hs⟩
   ·have h9:=(I.o.lt q).2;have:b<sz hh:=h9;unfold ZE4;rw[if_neg (by omega)];exact I.sb b q
   ·unfold ZE4;rw[if_neg (by omega)];exact I.b
   ·exact if_pos (hO j r)
   ·exact if_pos (hO j r)
   ·unfold Zkr;rw[if_neg (by decide)]
  ·subst F;have N:=Zdj U V I.u;obtain⟨bb,oo,_,_,v,a⟩:=Za5 (g:=λx:ShP×ShS=>shL x.1) (n:=2) (λ_=>rfl) N D (by decide);refine Zn (by simp) (rL (s:=s) (Zb I.c rfl) (rL (s:=f1) (Zb C rfl) (v rfl (rP (a 0 _ rfl) (rP (a 1 _ rfl) (ZH λd L h P=>⟨ZR (Zb (Zj C h) rfl),ZR (Zb (Zj I.c h) rfl),(Zje L rfl).rd ?_⟩))))));refine fin (p:=x.1) (x:=x.2) (T'':=T') (Upd.refl _ _) h (I.sel.keep ho J hK (by rw[I.l];exact hk) D) (Zdi.refl T') (λj r=>.inl r) I.sb I.b (Zsm.keepOld I Zx1 hT D (X j x D)) ?_ P (Zj I.c h) λs' h3 k1 k2 hs=>⟨ZR (Zb (k1 (Zj C h)) rfl),hs⟩;unfold Zkr;rw[if_pos (by omega),Aqu,Awy,D];rfl
end
abbrev ZG8(eb b8 b12:Nat):Int->Int->Zf->(Zf->Prop)->Prop:=λp t74 a Q=>Zc p λq=>Zc t74 λi76=>Zl (decide (i76>=0)) ( ldL a b12 (0+1) λt77=>ldL a b8 (0+1) λt78=>YI t78.ptr t78.len i76 2 λj k=>ldP a j k λt81=>ldI a j (k+1) .i64 λt82=>newC a [.pointer t81,iv t82] 123 λr e=>Zu (Zm e [(b8,0+1,.slice t78.ptr t78.len t78.cap)])<|Zu (Zm e [(b12,0+1,.slice t77.ptr t77.len t77.cap)])<|rdS ⟨some ⟨r,0,none⟩,1,1⟩ 2 e λi=>app 123 2 16 [.pointer none,iv 0] t77 1 i e λt85 l=>Zu (Zm l [(b8,0+1,.slice t78.ptr t78.len t78.cap)])<|st l b12 (0+1) (.slice t85.ptr t85.len t85.cap) λs=>Q s) ( Ze (some ⟨eb,0,none⟩) λt u=>ldL a t (u+3+1) λt91=>YI t91.ptr t91.len q 7 λb c=>ldS a b c λt94=>ldI a b (c+1) .u8 λt95=>ldI a b (c+2) .i64 λt96=>ldI a b (c+3) .i64 λt97=>ldI a b (c+4) .i64 λt98=>ldI a b (c+5) .i64 λt99=>ldI a b (c+6) .i64 λt100=>ZeH (t94,t95,t96,t97,t98,t99,t100,()) (λt101 t102 g=>Zc t102 λx=>ldI g b12 (0+3) .i64 λt104=>st g b12 (0+3) (iv (IntKind.wrap .i64 (t104+1))) λd=>ldL d b12 (0+1) λt106=>ldI d b12 (0+3) .i64 λt107=>newC d [.pointer t101,iv t107] 123 λm h=>rdS ⟨some ⟨m,0,none⟩,1,1⟩ 2 h λf=>app 123 2 16 [.pointer none,iv 0] t106 1 f h λt110 n=>st n b12 (0+1) (.slice t110.ptr t110.len t110.cap) λo=>Q o) a)
abbrev mkB(f:Sl)(g:Int)(s:Sl):Obj:=.cells [slV f,slV s,slV nl,iv g].toArray 91 (0,0)
abbrev PB(h:Zf)(T:TgM)(x:Nat×BkW):Prop:=BrP h T x.1 x.2
theorem Zx2:ZpD PB:=λa k s _=>Zn0 k s a id
abbrev ZHX(hA:Zf)(b12:Nat)(f:Sl)(g:Int):=Zsm hA b12 (mkB f g) 2 (λx:Nat×BkW=>bkL x.1 x.2.2) (λx=>[x.1]) PB
theorem ZEL{f:YN}(he:f.err=0):WOK (bkZ f):=by
  unfold YN.err at he;split at he
  ·split at he
   ·rename_i _ a;unfold YN.good Js.inJ at a;simp only[Awn,decide_eq_true_eq]at a;exact a.1.2.2
   ·cases he
  ·cases he
section
variable{hA hh:Zf}{eb sb tb fm b8 b12 m:Nat}{G:GS}{z:Rw.VTR}{f1 b1 h1 s fx:Sl}{g0 g k:Int}{T T':TgM}{old done:List (Nat×BkW)}{KL:List Int}{A:List YN}{f:YN}
theorem ZNv
    (ce:obj hA eb=some (geO G sb tb fm z f1 b1 h1)) (c8:obj hA b8=some (.cells [slV f1,slV b1,slV h1,iv g0].toArray 91 (0,0))) (n8:b8≠b12) (ne:eb≠b12) (hb:b12<sz hA) (hT:∀j,T j≠none->j<sz hA) (ho:(old.flatMap λx=>[x.1]).Nodup) (L:∀b,b∈(old.flatMap λx=>[x.1])->b<sz hA)
    (hK:∀{i j k:Nat},KL[i]?=some (k:Int)->KL[j]?=some (k:Int)->i=j) (az:KL.length<=256) (hk:KL[m]?=some k) (X:k= -1\/∃(j:Nat) (x:Nat×BkW),k=(j:Int)/\old[j]?=some x)
    (hz:Row hA z.2.1 7 (A.flatMap Rw.Zdh)) (Y:z.2.1.len≠0->z.2.1.blk≠some b12) (Z:Row hA b1 2 (old.flatMap λx=>bkL x.1 x.2.2)) (aa:b1.len≠0->b1.blk≠some b12) (ae:∀(i:Nat) x,old[i]?=some x->PB hA T x) (he:f.err=0) (hl:f.res.length<9223372036854775807) (hf:A[m]?=some f)
    (I:ZHX hA b12 fx g old T KL m hh s done T') {Q:Zf->Prop} (hQ:∀h' s' x g' T'',ZHX hA b12 fx g' old T KL (m+1) h' s' (done++[x]) T''->(∀C E,Zlu (old.map (·.2)) (k::C) (f::E) g=(x.2::(Zlu (old.map (·.2)) C E g').1,(Zlu (old.map (·.2)) C E g').2))->Q h'):ZG8 eb b8 b12 m k hh Q:=by
  have w0:sz hA<=sz hh:=I.u.size;have ml:m<KL.length:=Zbn hk;have sl:s.len=m:=by have:=Zal (g:=λx:Nat×BkW=>bkL x.1 x.2.2) (λ_=>rfl) I.o.row (by decide);rw[I.l]at this;exact this
  have af:=YW ce I.u ne;have F:=YW c8 I.u n8
  have fin:∀{h1 a:Zf} {x:Nat×BkW} {g':Int} {T'':TgM},Upd (· = b12) hh h1->Ext h1 a->Sel (λx:Nat×BkW=>[x.1]) old KL (sz hA) (sz h1) (done++[x])->Zdi T' T''->(∀j,T'' j≠none->T' j≠none\/(sz hh<=j/\j<sz h1))->(∀b,s.blk=some b->T'' b=none)->T'' b12=none->PB h1 T'' x->(∀C E,Zlu (old.map (·.2)) (k::C) (f::E) g=(x.2::(Zlu (old.map (·.2)) C E g').1,(Zlu (old.map (·.2)) C E g').2))->sz a=sz h1+1->obj a b12=some (mkB fx g' s)->
      ∀{W:Sl->Zf->Prop},(∀s' h3,(∀{vs},obj a b8=some vs->obj h3 b8=some vs)->st h3 b12 (0+1) (.slice s'.ptr s'.len s'.cap) Q->W s' h3)->app 123 2 16 [.pointer none,iv 0] s 1 (bkL x.1 x.2.2) a W:=λ{h1 a x g' T''} u1 w M sub new nb ah H hp R J {W} hW=>by
    have w1:sz hh<=sz h1:=u1.size;have o2:Own a (sz hA) s 2 (done.flatMap λx=>bkL x.1 x.2.2):=(I.o.congr (h':=h1) λb d q ai=>u1.old b q (by have:sz hA<=b:=ai;show ¬b=b12;omega)).congr λb d q _=>w.old b q;refine o2.app (n:=1) rfl rfl rfl (by omega) (by omega) (by show sz hA<=sz a;omega) λs' h3 o3 l3 u3 b3=>?_;have keep:∀{j:Nat} {vs:Obj},j<sz hA->obj a j=some vs->obj h3 j=some vs:=λ{j vs} h hv=>(u3.old j (Zp hv) λe=>by have:=(I.o.lt e).1;omega).trans hv;refine hW s' h3 (λhv=>keep (Zp c8) hv) (Zbs (keep hb J) (show 0+1<4 by decide) rfl λh4 c4 u4 z4=>hQ h4 s' x g' T'' ?_ hp);have w2:sz h1<=sz a:=w.size;refine(show ZHX hA b12 fx g' old T KL (m+1) h4 s' (done++[x]) T'' from ?_);refine Zsm.add (h1:=a) I Zx2 hT hb (u1.trans (w.upd _)) o3 u3 c4 u4 (b3.imp id id) (M.top w2) sub (λj h=>(new j h).imp id λS=>⟨S.1,by omega⟩) nb ah (Zn0 (D:=λ_=>False) (λj t ht _=>w.old j ?_) (Zdi.refl T'') H id)
    rcases new j (Y9 ht)with y|y
    ·rcases I.new j y with y|y
     ·have:=hT j y;show j<sz h1;omega
     ·show j<sz h1;omega
    ·exact y.2
  refine Za (Za ?_)
  rcases X with K|⟨j,x,K,H⟩
  ·subst K;obtain⟨U,oo,_,_,v,B⟩:=Za5 (g:=Rw.Zdh) (n:=7) (λ_=>rfl) (Zdj hz Y I.u) hf (by decide);have hw:=ZEL he;refine Zi rfl (Zg (rL (s:=z.2.1) (Zb af rfl) (v rfl (rS (B 0 _ rfl) (rI (B 1 _ rfl) (rI (B 2 _ rfl) (rI (B 3 _ rfl) (rI (B 4 _ rfl) (rI (B 5 _ rfl) (rI (B 6 _ rfl) (ZyL (r:=bkZ f) hw (λS K9 ak=>Rw.Zln (f:=f) hl λh8 e8=>by rw[he];exact ak h8 e8) λh1 U O N V hO=>?_)))))))))));have w1:sz hh<=sz h1:=V.size;have bR:=N.ex;obtain⟨wb,mb,cb,_,ob,_,_⟩:=bR
   have an:∀j,T' j≠none->j<sz hh:=λj h=>by
     rcases I.new j h with y|y
     ·have:=hT j y;omega
     ·exact y.2
   refine Za (rI (Zb (Zj I.c V) rfl) (Zbs (Zj I.c V) (show 0+3<4 by decide) rfl λa J u2 R=>rL (s:=s) (Zb J rfl) (rI (Zb J rfl) (ZH λh3 c3 e3 z3=>(Zje c3 rfl).rd ?_))));have s2:sz a=sz h1:=R;refine fin (x:=(U,⟨⟨bkZ f,1,0,0,0,⟨0,λ_=>Go.Proofs.YtonbfpnngkemiaaGreat.z6⟩⟩,hw⟩,IntKind.wrap .i64 (g+1))) (T'':=ZhZ T' (.p U) (sz hh) (sz h1)) (g':=IntKind.wrap .i64 (g+1)) ((V.upd _).trans u2) e3 ((I.sel.new L (by show sz hA<=sz hh;exact w0) w1 (by simp) λb d=>by simp at d;subst d;exact hO _ ob).top (by omega)) (Zgt an) (λj h=>?_) (λb d=>?_) ?_ ?_ ?_ z3 (Zj J e3) λs' h4 k1 hs=>hs
   ·unfold ZhZ at h;split at h
    ·exact .inr (by omega)
    ·exact .inl h
   ·have S:=(I.o.lt d).2;have:b<sz hh:=S;unfold ZhZ;rw[if_neg (by omega)];exact I.sb b d
   ·unfold ZhZ;rw[if_neg (by omega)];exact I.b
   ·refine(N.congr (h':=a) λj h q=>u2.old j q (by have:=hO j h;show ¬j=b12;omega)).mono λj h=>Zil (hO j h)
   ·intro C E;rw[ZAs (by decide)];unfold BkW.new;rw[dif_pos hw]
  ·subst K;have P:=Zdj Z aa I.u;obtain⟨U,oo,_,_,v,B⟩:=Za5 (g:=λx:Nat×BkW=>bkL x.1 x.2.2) (n:=2) (λ_=>rfl) P H (by decide);refine Zn (by simp) (rL (s:=s) (Zb I.c rfl) (rL (s:=b1) (Zb F rfl) (v rfl (rP (B 0 _ rfl) (rI (B 1 _ rfl) (ZH λa J w R=>⟨ZR (Zb (Zj F w) rfl),ZR (Zb (Zj I.c w) rfl),(Zje J rfl).rd ?_⟩))))));refine fin (x:=x) (g':=g) (T'':=T') (Upd.refl _ _) w (I.sel.keep ho L hK (by rw[I.l];exact hk) H) (Zdi.refl T') (λj h=>.inl h) I.sb I.b (Zsm.keepOld I Zx2 hT H (ae j x H)) (λC E=>?_) R (Zj I.c w) λs' h3 k1 hs=>⟨ZR (Zb (k1 (Zj F w)) rfl),hs⟩;rw[Zw1 (by omega),Aqu,Awy,H];rfl
end
abbrev ZG6(eb b8 b12:Nat):Int->Int->Zf->(Zf->Prop)->Prop:=λl t125 a Q=>Zc l λm=>Zc t125 λi127=>Zl (decide (i127>=0)) ( ldL a b12 (0+2) λt128=>ldL a b8 (0+2) λt129=>YI t129.ptr t129.len i127 1 λn o=>ldP a n o λt132=>newC a [.pointer t132] 166 λp d=>Zu (Zm d [(b8,0+2,.slice t129.ptr t129.len t129.cap)])<|Zu (Zm d [(b12,0+2,.slice t128.ptr t128.len t128.cap)])<|rdS ⟨some ⟨p,0,none⟩,1,1⟩ 1 d λf=>app 166 1 8 [.pointer none] t128 1 f d λt135 h=>Zu (Zm h [(b8,0+2,.slice t129.ptr t129.len t129.cap)])<|st h b12 (0+2) (.slice t135.ptr t135.len t135.cap) λq=>Q q) ( Ze (some ⟨eb,0,none⟩) λi j=>Ze (some ⟨eb,0,none⟩) λr s=>Ze (some ⟨eb,0,none⟩) λt u=>ldL a i (j+3+2) λt145=>YI t145.ptr t145.len m 5 λb c=>ldS a b c λt148=>ldI a b (c+1) .i64 λt149=>ldI a b (c+2) .i64 λt150=>ldI a b (c+3) .i64 λt151=>ldL a b (c+4) λt152=>ldI a r s .i64 λt153=>ldI a t (u+1) .u64 λt154=>Zjv (t148,t149,t150,t151,t152,()) t153 t154 (λt155 t156 e=>Zu (Zm e [(i,j+3+2,.slice t145.ptr t145.len t145.cap)])<|Zc t156 λy=>ldL e b12 (0+2) λt159=>newC e [.pointer t155] 166 λv k=>rdS ⟨some ⟨v,0,none⟩,1,1⟩ 1 k λg=>app 166 1 8 [.pointer none] t159 1 g k λt162 w=>st w b12 (0+2) (.slice t162.ptr t162.len t162.cap) λx=>Q x) a)
abbrev mkH(f b:Sl)(g:Int)(s:Sl):Obj:=.cells [slV f,slV b,slV s,iv g].toArray 91 (0,0)
abbrev PH(h:Zf)(T:TgM)(x:Nat×HtS):Prop:=HoP h T x.1 x.2
theorem Zx0:ZpD PH:=λa k s hz=>ZnE k s hz a id
abbrev ZHV(hA:Zf)(b12:Nat)(f b:Sl)(g:Int):=Zsm hA b12 (mkH f b g) 1 (λx:Nat×HtS=>[pN x.1]) (λx=>[x.1]) PH
section
variable{hA hh:Zf}{eb sb tb fm b8 b12 m:Nat}{G:GS}{z:Rw.VTR}{f1 b1 h1 s fx bx:Sl}{g0 g k:Int}{T T':TgM}{old done:List (Nat×HtS)}{KL:List Int}{A:List (Sl×Zen)}{f:Sl×Zen}
theorem ZNt
    (ce:obj hA eb=some (geO G sb tb fm z f1 b1 h1)) (c8:obj hA b8=some (.cells [slV f1,slV b1,slV h1,iv g0].toArray 91 (0,0))) (n8:b8≠b12) (ne:eb≠b12) (hb:b12<sz hA) (hT:∀j,T j≠none->j<sz hA) (ho:(old.flatMap λx=>[x.1]).Nodup) (K:∀b,b∈(old.flatMap λx=>[x.1])->b<sz hA)
    (hK:∀{i j k:Nat},KL[i]?=some (k:Int)->KL[j]?=some (k:Int)->i=j) (aB:KL.length<=256) (hk:KL[m]?=some k) (U:k= -1\/∃(j:Nat) (x:Nat×HtS),k=(j:Int)/\old[j]?=some x)
    (hz:Row hA z.2.2.1 5 (A.flatMap Rw.Zlf)) (V:z.2.2.1.len≠0->z.2.2.1.blk≠some b12) (hi:Row hA f.1 2 (Rw.Zhk f.2.items)) (X:f.1.len≠0->f.1.blk≠some b12) (Y:Row hA h1 1 (old.flatMap λx=>[pN x.1])) (Z:h1.len≠0->h1.blk≠some b12) (aa:∀(i:Nat) x,old[i]?=some x->PH hA T x) (he:f.2.err=0) (hl:f.2.res.length<9223372036854775807) (hm:1<=G.keys/\G.keys<=4096) (hf:A[m]?=some f)
    (I:ZHV hA b12 fx bx g old T KL m hh s done T') {Q:Zf->Prop} (hQ:∀h' s' x T'',ZHV hA b12 fx bx g old T KL (m+1) h' s' (done++[x]) T''->x.2=Zkr (λf:Zen=>HtS.new f G.keys G.seed) (old.map (·.2)) k f.2->Q h'):ZG6 eb b8 b12 m k hh Q:=by
  have w0:sz hA<=sz hh:=I.u.size;have ml:m<KL.length:=Zbn hk;have sl:s.len=m:=by have:=Zal (g:=λx:Nat×HtS=>[pN x.1]) (λ_=>rfl) I.o.row (by decide);rw[I.l]at this;exact this
  have w:=YW ce I.u ne;have y:=YW c8 I.u n8
  have fin:∀{h1 h:Zf} {x:Nat×HtS} {T'':TgM},Upd (· = b12) hh h1->Ext h1 h->Sel (λx:Nat×HtS=>[x.1]) old KL (sz hA) (sz h1) (done++[x])->Zdi T' T''->(∀j,T'' j≠none->T' j≠none\/(sz hh<=j/\j<sz h1))->(∀b,s.blk=some b->T'' b=none)->T'' b12=none->PH h1 T'' x->x.2=Zkr (λf:Zen=>HtS.new f G.keys G.seed) (old.map (·.2)) k f.2->sz h=sz h1+1->obj h b12=some (mkH fx bx g s)->
      ∀{W:Sl->Zf->Prop},(∀s' h3,(∀{vs},obj h b8=some vs->obj h3 b8=some vs)->st h3 b12 (0+2) (.slice s'.ptr s'.len s'.cap) Q->W s' h3)->app 166 1 8 [.pointer none] s 1 [pN x.1] h W:=λ{h1 h x T''} u1 r L sub new nb af B hp z2 c2 {W} hW=>by
    have w1:sz hh<=sz h1:=u1.size;have o2:Own h (sz hA) s 1 (done.flatMap λx=>[pN x.1]):=(I.o.congr (h':=h1) λb a C ah=>u1.old b C (by have:sz hA<=b:=ah;show ¬b=b12;omega)).congr λb a C _=>r.old b C;refine o2.app (n:=1) rfl rfl rfl (by omega) (by omega) (by show sz hA<=sz h;omega) λs' h3 o3 l3 u3 b3=>?_;have keep:∀{j:Nat} {vs:Obj},j<sz hA->obj h j=some vs->obj h3 j=some vs:=λ{j vs} d hv=>(u3.old j (Zp hv) λe=>by have:=(I.o.lt e).1;omega).trans hv;refine hW s' h3 (λhv=>keep (Zp c8) hv) (Zbs (keep hb c2) (show 0+2<4 by decide) rfl λh4 c4 u4 z4=>hQ h4 s' x T'' ?_ hp);have w2:sz h1<=sz h:=r.size;refine(show ZHV hA b12 fx bx g old T KL (m+1) h4 s' (done++[x]) T'' from ?_);refine Zsm.add (h1:=h) I Zx0 hT hb (u1.trans (r.upd _)) o3 u3 c4 u4 (b3.imp id id) (L.top w2) sub (λj d=>(new j d).imp id λh9=>⟨h9.1,by omega⟩) nb af (ZnE (D:=λ_=>False) (λj t ht _=>r.old j ?_) (Zdi.refl T'') w2 B id)
    rcases new j (Y9 ht)with v|v
    ·rcases I.new j v with v|v
     ·have:=hT j v;show j<sz h1;omega
     ·show j<sz h1;omega
    ·exact v.2
  refine Za (Za ?_)
  rcases U with E|⟨j,x,E,B⟩
  ·subst E;obtain⟨M,oo,_,_,q,F⟩:=Za5 (g:=Rw.Zlf) (n:=5) (λ_=>rfl) (Zdj hz V I.u) hf (by decide);refine Zi rfl (Zg (Zg (Zg (rL (s:=z.2.2.1) (Zb w rfl) (q rfl (rS (F 0 _ rfl) (rI (F 1 _ rfl) (rI (F 2 _ rfl) (rI (F 3 _ rfl) (rL (s:=f.1) (F 4 _ rfl) (rI (Zb w rfl) (rI (Zb w rfl) (ZyK he hl hm (Zdj hi X I.u) λh1 M Th H hO N=>?_)))))))))))));have w1:sz hh<=sz h1:=N.size
   have O:∀j,Th j≠none->j<sz h1:=λj d=>by
     obtain⟨si,S,wm,kb,f9,n9,wt,al,lb,J⟩:=H.ex;exact J.lt j d
   have P:Th M≠none:=by
     obtain⟨si,S,wm,kb,f9,n9,wt,al,lb,J⟩:=H.ex;rw[J.me];exact λe=>by cases e
   have an:∀j,T' j≠none->j<sz hh:=λj d=>by
     rcases I.new j d with v|v
     ·have:=hT j v;omega
     ·exact v.2
   refine⟨ZR (Zb (Zj w N) rfl),Za (rL (s:=s) (Zb (Zj I.c N) rfl) (ZH λh3 c3 e3 z3=>(Zje c3 rfl).rd ?_))⟩;refine fin (x:=(M,HtS.new f.2 G.keys G.seed)) (T'':=ZhZ T' (.p M) (sz hh) (sz h1)) (N.upd _) e3 (I.sel.new K (by show sz hA<=sz hh;exact w0) w1 (by simp) λb a=>by simp at a;subst a;exact⟨hO _ P,O _ P⟩) (Zgt an) (λj d=>?_) (λb a=>?_) ?_ ⟨Th,H,λj d=>Zil ⟨hO j d,O j d⟩⟩ ?_ z3 (Zj (Zj I.c N) e3) λs' h4 k1 hs=>hs
   ·unfold ZhZ at d;split at d
    ·exact .inr (by omega)
    ·exact .inl d
   ·have h9:=(I.o.lt a).2;have:b<sz hh:=h9;unfold ZhZ;rw[if_neg (by omega)];exact I.sb b a
   ·unfold ZhZ;rw[if_neg (by omega)];exact I.b
   ·unfold Zkr;rw[if_neg (by decide)]
  ·subst E;have R:=Zdj Y Z I.u;obtain⟨M,oo,_,_,q,F⟩:=Za5 (g:=λx:Nat×HtS=>[pN x.1]) (n:=1) (λ_=>rfl) R B (by decide);refine Zn (by simp) (rL (s:=s) (Zb I.c rfl) (rL (s:=h1) (Zb y rfl) (q rfl (rP (F 0 _ rfl) (ZH λh c2 r z2=>⟨ZR (Zb (Zj y r) rfl),ZR (Zb (Zj I.c r) rfl),(Zje c2 rfl).rd ?_⟩)))));refine fin (x:=x) (T'':=T') (Upd.refl _ _) r (I.sel.keep ho K hK (by rw[I.l];exact hk) B) (Zdi.refl T') (λj d=>.inl d) I.sb I.b (Zsm.keepOld I Zx0 hT B (aa j x B)) ?_ z2 (Zj I.c r) λs' h3 k1 hs=>⟨ZR (Zb (k1 (Zj y r)) rfl),hs⟩;unfold Zkr;rw[if_pos (by omega),Aqu,Awy,B];rfl
end
theorem Zsm.fin{σ:Type}{a d h:Zf}{c b2:Nat}{mk:Sl->Obj}{n:Nat}{q:σ->List Value}{hd:σ->List Nat}{P:Zf->TgM->σ->Prop}{old:List σ}{T T1 T':TgM}{KL:List Int}{m:Nat}{s:Sl}{done:List σ}(I:Zsm a c mk n q hd P old T KL m d s done T1)(r:ZpD P)(hT:∀j,T j≠none->j<sz a)(U:Upd (λj=>j=c\/j=b2) d h)(A:c<sz a)(v:b2<sz a)(y:T b2=none)(sub:Zdi T1 T'):
    Row h s n (done.flatMap q)/\(∀(i:Nat) x,done[i]?=some x->P h T' x)/\∀b,s.blk=some b->sz a<=b/\b<sz d:=by
  have w:=I.u.size;refine⟨(I.o.congr (h':=h) λb f l p=>U.old b l λe=>?_).row,λi x z=>r (I.e i x z) (λj t k _=>U.old j ?_ λe=>?_) sub U.size,λb f=>I.o.lt f⟩
  ·have:sz a<=b:=p
   rcases e with e|e<;>omega
  ·rcases I.new j (Y9 k)with g|g
   ·have:=hT j g;show j<sz d;have:sz a<=sz d:=w;omega
   ·exact g.2
  ·rcases e with e|e
   ·rw[e,I.b]at k;cases k
   ·rcases I.new j (Y9 k)with g|g
    ·rw[e]at g;exact g y
    ·omega
def tagS(T:TgM)(s:Sl):TgM:=λj=>if s.blk=some j then some .ro else T j
theorem Zij{T:TgM}{s:Sl}(h:∀b,s.blk=some b->T b=none):Zdi T (tagS T s):=λj a=>if_neg λe=>a (h j e)
theorem ZpW{T:TgM}{s:Sl}:Rw.inS (roT (tagS T s)) s:=λ_ b a=>if_pos a
theorem Zik{T:TgM}{s:Sl}{j:Nat}(h:tagS T s j≠none):T j≠none\/s.blk=some j:=by
  unfold tagS at h;split at h
  ·rename_i q;exact .inr q
  ·exact .inl h
theorem Znx{h:Zf}{a b:Nat}{kt:Sl}{l:List Int}{c:Zf}(o:Own h a kt 1 (l.map iv))(d:b<a)(u:Upd (· = b) h c):Row c kt 1 (l.map iv):=(ZtY o u d).row
theorem Zm8{h:Zf}{T:TgM}{x:Sl}{b:Nat}(o:Rw.inS (roT T) x)(a:T b=none):x.len≠0->x.blk≠some b:=λhl e=>by
  have:=o hl b e;rw[show T b=some .ro from this]at a;cases a
theorem ZD0{α σ:Type}{same:α->α->Bool}{a now:List α}{old:List σ}(hl:old.length=a.length){i:Nat}{k:Int}(c:(Zfi same a now (List.replicate a.length false))[i]?=some k):k= -1\/∃(j:Nat) (x:σ),k=(j:Int)/\old[j]?=some x:=by
  rcases ZmE (by simp) c with e|⟨j,w,b,h1,d,_⟩
  ·exact .inl e
  ·refine .inr ⟨j,?_⟩;have:=Zbn d;exact⟨_,h1,Axy (show j<old.length by omega)⟩
def hd3(fs:List (ShP×ShS))(bs:List (Nat×BkW))(hs:List (Nat×HtS)):List Nat:=fs.flatMap (λx=>hdP x.1)++(bs.flatMap (λx=>[x.1])++hs.flatMap (λx=>[x.1]))
theorem ZGT{fs:List (ShP×ShS)}{bs:List (Nat×BkW)}{hs:List (Nat×HtS)}(h:(hd3 fs bs hs).Nodup):(fs.flatMap (λx=>hdP x.1)).Nodup/\(bs.flatMap (λx=>[x.1])).Nodup/\(hs.flatMap (λx=>[x.1])).Nodup/\(∀b,b∈fs.flatMap (λx=>hdP x.1)->b∉bs.flatMap (λx=>[x.1])/\b∉hs.flatMap (λx=>[x.1]))/\∀b,b∈bs.flatMap (λx=>[x.1])->b∉hs.flatMap (λx=>[x.1]):=by unfold hd3 at h;rw[List.nodup_append]at h;obtain⟨f,d,e⟩:=h;rw[List.nodup_append]at d;obtain⟨g,i,j⟩:=d;exact⟨f,g,i,λb c=>⟨λa=>e b c b (Axx.2 (.inl a)) rfl,λa=>e b c b (Axx.2 (.inr a)) rfl⟩,λb c a=>j b c b a rfl⟩
theorem ZGx{fs:List (ShP×ShS)}{bs:List (Nat×BkW)}{hs:List (Nat×HtS)}(h1:(fs.flatMap (λx=>hdP x.1)).Nodup)(g:(bs.flatMap (λx=>[x.1])).Nodup)(h3:(hs.flatMap (λx=>[x.1])).Nodup)(f:∀b,b∈fs.flatMap (λx=>hdP x.1)->b∉bs.flatMap (λx=>[x.1])/\b∉hs.flatMap (λx=>[x.1]))(i:∀b,b∈bs.flatMap (λx=>[x.1])->b∉hs.flatMap (λx=>[x.1])):(hd3 fs bs hs).Nodup:=by
  unfold hd3;rw[List.nodup_append];refine⟨h1,?_,λa c b d e=>?_⟩
  ·rw[List.nodup_append];exact⟨g,h3,λa c b d e=>i a c (e▸d)⟩
  ·subst e
   rcases Axx.1 d with h|h
   ·exact(f a c).1 h
   ·exact(f a c).2 h
theorem ZtL{α:Type}{o:Option α}{t:α}(h:o=some t):o≠none:=by rw[h];exact λe=>by cases e
theorem ZEM{h:Zf}{T:TgM}{L:Lay}{G:GS}{r:RulesP}{W z':Rw.VTR}(c:obj h L.eb=some (geO G L.sb L.tb L.fm z' L.f1 L.b1 L.h1))(hW:Rw.YY h (roT T) W G.r)(hz:Rw.YY h (roT T) z' r)(fl:FlR h T L.f1 L.fs)(br:BsR h T L.b1 L.bs)(ho:HsR h T L.h1 L.hs)
    (lf:L.fs.map (·.2)=G.fl) (lb:L.bs.map (·.2)=G.br) (lh:L.hs.map (·.2)=G.ho) (ok:GOK G) (hr:r.whereE.2.2=0) (hf:Rw.RulesP.fit r) (nd:(hd3 L.fs L.bs L.hs).Nodup) (hT:∀j,T j≠none->j<sz h) {K:(Sl×Sl×Sl×Int×Unit)->Zf->Prop}
    (hk:∀h' T' bb bc bf aw ax ay,FlR h' T' bb aw->BsR h' T' bc ax->HsR h' T' bf ay->aw.map (·.2)=(G.load r).fl->ax.map (·.2)=(G.load r).br->ay.map (·.2)=(G.load r).ho->(hd3 aw ax ay).Nodup->(∀b,b∈hd3 aw ax ay->b∈hd3 L.fs L.bs L.hs\/sz h<=b)->Zdi T T'->(∀j,T' j≠none->T j≠none\/(sz h<=j/\j<sz h'))->Ext h h'->K (bb,bc,bf,(G.load r).g,()) h'):Za9 (some ⟨L.eb,0,none⟩) W K h:=by
  have X:=Zqw hr;have gw:=ok.good;obtain⟨bI,bJ,bK,bg,bL⟩:=ZGT nd;have cW:=Zp c;unfold Za9 Zdt;refine ZH λh1 c1 e1 z1=>ZH λE c2 e2 z2=>Zg ?_;have y2:=Zj c (e1.trans e2);refine rL (s:=L.f1) (Zb y2 rfl) (rL (s:=L.b1) (Zb y2 rfl) (rL (s:=L.h1) (Zb y2 rfl) (rI (Zb y2 rfl) (ZH λh3 c3 e3 z3=>Zaw c3 λd c4 u4 z4=>rI (Zb c4 rfl) (ZH λh5 c5 e5 z5=>Zaw c5 λh6 c6 u6 z6=>Zg ?_)))));have s1:sz h1=sz h+1:=z1;have s2:sz E=sz h1+1:=z2;have s3:sz h3=sz E+1:=z3;have s4:sz d=sz h3:=z4;have s5:sz h5=sz d+1:=z5;have s6:sz h6=sz h5:=z6;have bN:Ext E d:=e3.then u4 λk hk=>by subst hk;exact Aqo _
  have bk:Ext d h6:=e5.then u6 λk hk=>by subst hk;exact Aqo _
  have az:=bN.trans bk;have aQ:Ext h h6:=(e1.trans e2).trans az;have y6:=Zj y2 az;have k6:=Zj c1 (e2.trans az);have x6:=Zj c2 az;have d6:=Zj c4 bk
  have Tn:∀j,sz h<=j->T j=none:=λj D=>by
    cases q:T j with
    |none=>rfl
    |some t=>have:=ZbX hT q;omega
  have bP:=hz.ext aQ;have bQ:=hW.ext aQ;refine rL (s:=z'.1) (Zb y6 rfl) (rL (s:=W.1) (Zb k6 rfl) (ZD5 bP.fl.1 bQ.fl.1 X.s.f gw.s.f λZ kt eA oA=>?_));have wA:sz h6<=sz Z:=eA.size;have Y:=aQ.trans eA;have bl:∀j,T j≠none->j<sz Z:=λj D=>by have:=hT j D;omega
  have bR:(kpF G r).length=r.fl.length:=Zf0;have kA:Zde (λ_=>False) T h Z:=λj t ht _=>Y.old j (ZbX hT ht)
  refine ZnB (KL:=kpF G r) (kt:=kt) (body:=ZG7 L.eb (sz E) (sz d)) (λm hh=>∃s done T1,ZHW Z (sz d) G.g L.fs T (kpF G r) m hh s done T1/\done.map (·.2)++ZtP ShS.new G.fl ((kpF G r).drop m) (r.fl.drop m)=ZtP ShS.new G.fl (kpF G r) r.fl) (by have:=X.s.f;omega)
    (λm hh ⟨s,done,T1,I,_⟩=>Znx oA (show sz d<sz h6 by omega) I.u) ⟨nl,[],T,⟨Upd.refl _ _,Zj c6 eA,Own.nil _ _ _,rfl,Sel.nil,Zdi.refl T,λj D=>.inl D,λb l=>(by cases l),Tn _ (by omega),λi x F=>(by cases F)⟩,rfl⟩ ?_ ?_
  ·rintro m k hh Q n ⟨s,done,T1,I,ag⟩ hQ
   have N:m<r.fl.length:=by have:=Zbn n;omega
   obtain⟨f,B⟩:∃f,r.fl[m]?=some f:=⟨_,Axy N⟩;refine ZNu (z:=z') (f1:=L.f1) (b1:=L.b1) (h1:=L.h1) (sb:=L.sb) (tb:=L.tb) (fm:=L.fm) (G:=G) (g0:=G.g) (Zj y6 eA) (Zj d6 eA) (show sz E≠sz d by omega) (show L.eb≠sz d by omega) (show sz d<sz Z by omega) bl bI (λb l=>?_) (λh1 E=>Zld (by simp) h1 E) (by rw[bR];exact X.s.f) n (ZD0 (by rw[<-ok.lf,<-lf,Ayt]) n) (hz.ext Y).fl.1 (Zm8 (h:=Z) hz.fl.2 (Tn _ (by omega))) (fl.r.ext Y) (Zm8 (h:=Z) fl.o (Tn _ (by omega))) (λi x F=>ZmW kA (Zdi.refl T) (fl.e i x F) λ_ _=>id) (X.f f (Axo B)) B I λh' s' x T'' I' F=>hQ h' ⟨s',done++[x],T'',I',?_⟩
   ·obtain⟨y,hy,v⟩:=List.mem_flatMap.1 l;obtain⟨i,hi⟩:=Ayg hy;have:=(Zpd (fl.e i y hi)).2 b v;have:=ZbX hT this;omega
   ·rw[<-ag,Ayu,Ayw];congr 1;rw[Aym (Zbn n),Aym N];have a1:=(Ayf.1 n).2;have a2:=(Ayf.1 B).2;show [x.2]++_=Zkr ShS.new G.fl (kpF G r)[m] r.fl[m]::_;rw[a1,a2,F,lf];rfl
  rintro hB ⟨w,done1,T1,O,aH⟩;rw[Ayo (Aqo _),show ZtP ShS.new G.fl [] (r.fl.drop (kpF G r).length)=[]from rfl,Ayr]at aH;have wB:sz Z<=sz hB:=O.u.size;have uB:Upd (· = sz d) Z hB:=O.u;have yB:=YW (Zj y6 eA) uB (show ¬L.eb=sz d by omega);have kB:=YW (Zj k6 eA) uB (show ¬sz h=sz d by omega);have dB:=YW (Zj d6 eA) uB (show ¬sz E=sz d by omega);have xB:=YW (Zj x6 eA) uB (show ¬sz h1=sz d by omega);have bT:Rw.YY hB (roT T) z' r:=(hz.ext Y).keep λb l P=>uB.old b P λe=>by have e':b=sz d:=e;have:=ZbX hT l;omega
  have bV:Rw.YY hB (roT T) W G.r:=(hW.ext Y).keep λb l P=>uB.old b P λe=>by have e':b=sz d:=e;have:=ZbX hT l;omega
  have aI:∀b,w.blk=some b->T1 b=none:=O.sb;refine Zg (rL (s:=z'.2.1) (Zb yB rfl) (rL (s:=W.2.1) (Zb kB rfl) (ZD4 bT.br.1 bV.br.1 X.s.b gw.s.b λhC bW eC oC=>?_)));have wC:sz hB<=sz hC:=eC.size;have bq:Upd (· = sz d) h hC:=(Y.upd _).trans (uB.trans (eC.upd _));have ai:Ext h hC:=bq.ext λk R e=>by have:k<sz h:=R;omega
  have bX:∀j,T1 j≠none->j<sz hB:=λj D=>by
    rcases O.new j D with g|g
    ·have:=hT j g;omega
    ·exact g.2
  have aS:∀j,tagS T1 w j≠none->j<sz hC:=λj D=>by
    rcases Zik D with g|g
    ·have:=bX j g;omega
    ·have:=(O.o.lt g).2;have:j<sz hB:=this;omega
  have aT:Zdi T (tagS T1 w):=O.sub.trans (Zij aI)
  have aU:∀j,sz h<=j->j<sz Z->tagS T1 w j=none:=λj h1 E=>by
    cases q:tagS T1 w j with
    |none=>rfl
    | some t=>
      rcases Zik (Y9 q)with g|g
      ·rcases O.new j g with g|g
       ·rw[Tn j h1]at g;exact absurd rfl g
       ·omega
      ·have:=(O.o.lt g).1;have:sz Z<=j:=this;omega
  have kC:Zde (λ_=>False) T h hC:=λj t ht _=>ai.old j (ZbX hT ht);have bY:(kpB G r).length=r.br.length:=Zf0
  refine ZnB (KL:=kpB G r) (kt:=bW) (body:=ZG8 L.eb (sz E) (sz d)) (λm hh=>∃s done g' T2,ZHX hC (sz d) w g' L.bs (tagS T1 w) (kpB G r) m hh s done T2/\Zlu G.br (kpB G r) r.br G.g=(done.map (·.2)++(Zlu G.br ((kpB G r).drop m) (r.br.drop m) g').1,(Zlu G.br ((kpB G r).drop m) (r.br.drop m) g').2)) (by have:=X.s.b;omega)
    (λm hh ⟨s,done,g',T2,I,_⟩=>Znx oC (show sz d<sz hB by omega) I.u) ⟨nl,[],G.g,tagS T1 w,⟨Upd.refl _ _,Zj O.c eC,Own.nil _ _ _,rfl,Sel.nil,Zdi.refl _,λj D=>.inl D,λb l=>(by cases l),aU _ (by omega) (by omega),λi x F=>(by cases F)⟩,rfl⟩ ?_ ?_
  ·rintro m k hh Q n ⟨s,done,g',T2,I,ag⟩ hQ
   have N:m<r.br.length:=by have:=Zbn n;omega
   obtain⟨f,B⟩:∃f,r.br[m]?=some f:=⟨_,Axy N⟩;refine ZNv (z:=z') (f1:=L.f1) (b1:=L.b1) (h1:=L.h1) (sb:=L.sb) (tb:=L.tb) (fm:=L.fm) (G:=G) (g0:=G.g) (Zj yB eC) (Zj dB eC) (show sz E≠sz d by omega) (show L.eb≠sz d by omega) (show sz d<sz hC by omega) aS bJ (λb l=>?_) (λh1 E=>Zld (by simp) h1 E) (by rw[bY];exact X.s.b) n (ZD0 (by rw[<-ok.lb,<-lb,Ayt]) n) (hz.ext ai).br.1 (Zm8 (h:=hC) hz.br.2 (Tn _ (by omega))) (br.r.ext ai) (Zm8 (h:=hC) br.o (Tn _ (by omega))) (λi x F=>Zn0 kC aT (br.e i x F) id) (X.b f (Axo B)) (hf.2.1 f (Axo B)) B I λh' s' x bZ T'' I' F=>hQ h' ⟨s',done++[x],bZ,T'',I',?_⟩
   ·obtain⟨y,hy,v⟩:=List.mem_flatMap.1 l;obtain⟨i,hi⟩:=Ayg hy;simp at v;subst v;obtain⟨wb,mb,cb,_⟩:=(br.e i y hi).ex;have:=Zp cb;omega
   ·rw[ag,Aym (Zbn n),Aym N];have a1:=(Ayf.1 n).2;have a2:=(Ayf.1 B).2;rw[a1,a2,<-lb,F,Ayu,Ayw];rfl
  rintro hD ⟨C,aj,g2,T2,J,ak⟩;rw[Ayo (Aqo _),show Zlu G.br [] (r.br.drop (kpB G r).length) g2=([],g2)from(by cases r.br.drop (kpB G r).length<;>rfl),Ayr]at ak;have ca:aj.map (·.2)=(G.load r).br:=by show _=(Zlu G.br (kpB G r) r.br G.g).1;rw[ak]
  have pg:g2=(G.load r).g:=by show _=(Zlu G.br (kpB G r) r.br G.g).2;rw[ak]
  have wD:sz hC<=sz hD:=J.u.size;have uD:Upd (· = sz d) hC hD:=J.u;have yD:=YW (Zj yB eC) uD (show ¬L.eb=sz d by omega);have kD:=YW (Zj kB eC) uD (show ¬sz h=sz d by omega);have dD:=YW (Zj dB eC) uD (show ¬sz E=sz d by omega);have xD:=YW (Zj xB eC) uD (show ¬sz h1=sz d by omega);have cc:Rw.YY hD (roT T) z' r:=(hz.ext ai).keep λb l P=>uD.old b P λe=>by have e':b=sz d:=e;have:=ZbX hT l;omega
  have cd:Rw.YY hD (roT T) W G.r:=(hW.ext ai).keep λb l P=>uD.old b P λe=>by have e':b=sz d:=e;have:=ZbX hT l;omega
  obtain⟨zp,aE,aW,bt⟩:=cc.ho;obtain⟨wp,aX,cf,cg⟩:=cd.ho;have cj:zp.length=r.ho.length:=by rw[<-aE,Ayt]
  have bu:wp.length=G.r.ho.length:=by rw[<-aX,Ayt]
  have ck:∀p,p∈zp->p.2∈r.ho:=λp hp=>by rw[<-aE];exact Ayv.2 ⟨p,hp,rfl⟩
  have cq:∀p,p∈wp->p.2∈G.r.ho:=λp hp=>by rw[<-aX];exact Ayv.2 ⟨p,hp,rfl⟩
  refine Zg (rL (s:=z'.2.2.1) (Zb yD rfl) (rL (s:=W.2.2.1) (Zb kD rfl) (ZD3 aW.1 cf.1 (λp hp=>?_) (by rw[cj];exact X.s.h) (by rw[bu];exact gw.s.h) λhE cr eE oE=>?_)))
  ·rcases hp with hp|hp
   ·exact⟨(bt p hp).1,X.s.hi _ (ck p hp)⟩
   ·exact⟨(cg p hp).1,gw.s.hi _ (cq p hp)⟩
  rw[aE,aX,bu]at oE;have wE:sz hD<=sz hE:=eE.size;have ct:Upd (· = sz d) h hE:=bq.trans (uD.trans (eE.upd _));have aG:Ext h hE:=ct.ext λk R e=>by have:k<sz h:=R;omega
  have aJ:∀b,C.blk=some b->T2 b=none:=J.sb
  have cu:∀j,T2 j≠none->j<sz hD:=λj D=>by
    rcases J.new j D with g|g
    ·have:=aS j g;omega
    ·exact g.2
  have bw:∀j,tagS T2 C j≠none->j<sz hE:=λj D=>by
    rcases Zik D with g|g
    ·have:=cu j g;omega
    ·have:=(J.o.lt g).2;have:j<sz hD:=this;omega
  have aK:Zdi (tagS T1 w) (tagS T2 C):=J.sub.trans (Zij aJ)
  have bx:∀j,sz h<=j->j<sz Z->tagS T2 C j=none:=λj h1 E=>by
    cases q:tagS T2 C j with
    |none=>rfl
    | some t=>
      rcases Zik (Y9 q)with g|g
      ·rcases J.new j g with g|g
       ·rw[aU j h1 E]at g;exact absurd rfl g
       ·omega
      ·have:=(J.o.lt g).1;have:sz hC<=j:=this;omega
  have kE:Zde (λ_=>False) T h hE:=λj t ht _=>aG.old j (ZbX hT ht);have cv:(kpH G r).length=r.ho.length:=Zf0
  refine ZnB (KL:=kpH G r) (kt:=cr) (body:=ZG6 L.eb (sz E) (sz d)) (λm hh=>∃s done T3,ZHV hE (sz d) w C g2 L.hs (tagS T2 C) (kpH G r) m hh s done T3/\done.map (·.2)++ZtP (λf=>HtS.new f G.keys G.seed) G.ho ((kpH G r).drop m) (r.ho.drop m)=ZtP (λf=>HtS.new f G.keys G.seed) G.ho (kpH G r) r.ho) (by have:=X.s.h;omega)
    (λm hh ⟨s,done,T3,I,_⟩=>Znx oE (show sz d<sz hD by omega) I.u) ⟨nl,[],tagS T2 C,⟨Upd.refl _ _,Zj J.c eE,Own.nil _ _ _,rfl,Sel.nil,Zdi.refl _,λj D=>.inl D,λb l=>(by cases l),bx _ (by omega) (by omega),λi x F=>(by cases F)⟩,rfl⟩ ?_ ?_
  ·rintro m k hh Q n ⟨s,done,T3,I,ag⟩ hQ
   have N:m<r.ho.length:=by have:=Zbn n;omega
   obtain⟨f,B⟩:∃f,zp[m]?=some f:=⟨_,Axy (by omega)⟩;have an:r.ho[m]?=some f.2:=by rw[<-aE,Awy,B];rfl
   have bz:=bt f (Axo B);refine ZNt (z:=z') (f1:=L.f1) (b1:=L.b1) (h1:=L.h1) (sb:=L.sb) (tb:=L.tb) (fm:=L.fm) (G:=G) (g0:=G.g) (A:=zp) (Zj yD eE) (Zj dD eE) (show sz E≠sz d by omega) (show L.eb≠sz d by omega) (show sz d<sz hE by omega) bw bK (λb l=>?_) (λh1 E=>Zld (by simp) h1 E) (by rw[cv];exact X.s.h) n (ZD0 (by rw[<-ok.lh,<-lh,Ayt]) n) (aW.1.ext eE) (Zm8 (h:=hE) aW.2 (Tn _ (by omega))) (bz.1.ext eE) (Zm8 (h:=hE) bz.2 (Tn _ (by omega))) (ho.r.ext aG) (Zm8 (h:=hE) ho.o (Tn _ (by omega))) (λi x F=>ZnE kE (aT.trans aK) aG.size (ho.e i x F) id) (X.h f.2 (Axo an)) (hf.2.2.1 f.2 (Axo an)).1 ok.keys B I λh' s' x T'' I' F=>hQ h' ⟨s',done++[x],T'',I',?_⟩
   ·obtain⟨y,hy,v⟩:=List.mem_flatMap.1 l;obtain⟨i,hi⟩:=Ayg hy;simp at v;subst v;obtain⟨Th,⟨si,S,wm,kb,f9,n9,wt,cw,cx,ao⟩,ht⟩:=ho.e i y hi;have:=ao.lw ao.me;have:=ZbX hT (ht y.1 (ZtL ao.me));omega
   ·rw[<-ag,Ayu,Ayw];congr 1;rw[Aym (Zbn n),Aym N];have a1:=(Ayf.1 n).2;have a2:=(Ayf.1 an).2;show [x.2]++_=Zkr (λf=>HtS.new f G.keys G.seed) G.ho (kpH G r)[m] r.ho[m]::_;rw[a1,a2,F,lh];rfl
  rintro hG ⟨H,aY,T3,M,aL⟩;rw[Ayo (Aqo _),show ZtP (λf=>HtS.new f G.keys G.seed) G.ho [] (r.ho.drop (kpH G r).length)=[]from rfl,Ayr]at aL;have wG:sz hE<=sz hG:=M.u.size;have xG:=YW (Zj xD eE) M.u (show sz h1≠sz d by omega);refine rL (s:=w) (Zb M.c rfl) (rL (s:=C) (Zb M.c rfl) (rL (s:=H) (Zb M.c rfl) (rI (Zb M.c rfl) (Zaw xG λhF cF uF zF=>rL (s:=w) (Zb cF rfl) (rL (s:=C) (Zb cF rfl) (rL (s:=H) (Zb cF rfl) (rI (Zb cF rfl) ?_)))))));have wF:sz hG<=sz hF:=uF.size;have bA:∀{a b:Zf},Upd (· = sz d) a b->Upd (λj=>j=sz d\/j=sz h1) a b:=λu=>u.mono λj _ D=>.inl D;have UG:Upd (λj=>j=sz d\/j=sz h1) hG hF:=uF.mono λj _ D=>.inr D;have UE:Upd (λj=>j=sz d\/j=sz h1) hE hF:=(bA M.u).trans UG;have UD:Upd (λj=>j=sz d\/j=sz h1) hD hF:=(eE.upd _).trans UE;have UB:Upd (λj=>j=sz d\/j=sz h1) hB hF:=(eC.upd _).trans ((bA J.u).trans UD);have bB:∀b,H.blk=some b->T3 b=none:=M.sb;have aM:Zdi T3 (tagS T3 H):=Zij bB;have U:Zdi (tagS T2 C) (tagS T3 H):=M.sub.trans aM;have V:Zdi (tagS T1 w) (tagS T3 H):=aK.trans U;obtain⟨cB,cC,cD⟩:=O.fin (b2:=sz h1) Zx1 bl UB (by omega) (by omega) (Tn _ (by omega)) ((Zij aI).trans V);obtain⟨cE,cG,cH⟩:=J.fin (b2:=sz h1) Zx2 aS UD (by omega) (by omega) (aU _ (by omega) (by omega)) ((Zij aJ).trans U);obtain⟨cI,cJ,cK⟩:=M.fin (b2:=sz h1) Zx0 bw UG (by omega) (by omega) (bx _ (by omega) (by omega)) aM;have fin:=hk hF (tagS T3 H) w C H done1 aj aY ⟨cB,ZpW.mono λb l=>V.to l,cC⟩ ⟨cE,ZpW.mono λb l=>U.to l,cG⟩ ⟨cI,ZpW,cJ⟩ aH ca aL ?_ ?_ (aT.trans V) ?_ ?_
  ·rw[<-pg]at fin;exact fin
  ·have aN:∀b,b∈L.fs.flatMap (λx=>hdP x.1)->b<sz h:=λb l=>by
     obtain⟨y,hy,v⟩:=List.mem_flatMap.1 l;obtain⟨i,hi⟩:=Ayg hy;exact ZbX hT ((Zpd (fl.e i y hi)).2 b v)
   have aO:∀b,b∈L.bs.flatMap (λx=>[x.1])->b<sz h:=λb l=>by
     obtain⟨y,hy,v⟩:=List.mem_flatMap.1 l;obtain⟨i,hi⟩:=Ayg hy;simp at v;subst v;obtain⟨wb,mb,cb,_⟩:=(br.e i y hi).ex;exact Zp cb
   have aP:∀b,b∈L.hs.flatMap (λx=>[x.1])->b<sz h:=λb l=>by
     obtain⟨y,hy,v⟩:=List.mem_flatMap.1 l;obtain⟨i,hi⟩:=Ayg hy;simp at v;subst v;obtain⟨Th,⟨si,S,wm,kb,f9,n9,wt,cw,cx,ao⟩,ht⟩:=ho.e i y hi;exact ZbX hT (ht y.1 (ZtL ao.me))
   refine ZGx O.sel.nd J.sel.nd M.sel.nd (λb l=>⟨λh9=>?_,λh9=>?_⟩) λb l h9=>?_
   ·rcases O.sel.heads l with g|g<;>rcases J.sel.heads h9 with g9|g9
    ·exact(bg b g).1 g9
    ·have:=aN b g;omega
    ·have:=aO b g9;omega
    ·omega
   ·rcases O.sel.heads l with g|g<;>rcases M.sel.heads h9 with g9|g9
    ·exact(bg b g).2 g9
    ·have:=aN b g;omega
    ·have:=aP b g9;omega
    ·omega
   ·rcases J.sel.heads l with g|g<;>rcases M.sel.heads h9 with g9|g9
    ·exact bL b g g9
    ·have:=aO b g;omega
    ·have:=aP b g9;omega
    ·omega
  ·intro b l;unfold hd3 at l⊢
   rcases Axx.1 l with l|l
   ·rcases O.sel.heads l with g|g
    ·exact .inl (Axx.2 (.inl g))
    ·exact .inr (by omega)
   ·rcases Axx.1 l with l|l
    ·rcases J.sel.heads l with g|g
     ·exact .inl (Axx.2 (.inr (Axx.2 (.inl g))))
     ·exact .inr (by omega)
    ·rcases M.sel.heads l with g|g
     ·exact .inl (Axx.2 (.inr (Axx.2 (.inr g))))
     ·exact .inr (by omega)
  ·intro j D
   rcases Zik D with g|g
   ·rcases M.new j g with g|g
    ·rcases Zik g with g|g
     ·rcases J.new j g with g|g
      ·rcases Zik g with g|g
       ·rcases O.new j g with g|g
        ·exact .inl g
        ·exact .inr ⟨by omega,by omega⟩
       ·have:=cD j g;exact .inr ⟨by omega,by omega⟩
      ·exact .inr ⟨by omega,by omega⟩
     ·have:=cH j g;exact .inr ⟨by omega,by omega⟩
    ·exact .inr ⟨by omega,by omega⟩
   ·have:=cK j g;exact .inr ⟨by omega,by omega⟩
  ·refine (aG.then M.u λk R=>?_).then uF λk R=>?_
   ·subst R;show sz h<=sz d;omega
   ·subst R;show sz h<=sz h1;omega
def Zjk(q:Nat):TgM:=λj=>if j=q then some (.p q)else if j=q+1\/j=q+2 then some (.p (q+2))else if j=q+3 then some (.p (q+3))else if j=q+4 then some (.p (q+4))else none
theorem ZN0{keys seed:Int}(y:1<=keys/\keys<=4096){h:Zf}{K:Option Addr->Int->Zf->Prop}(t:∀h' T L,Zb1 h' T L (GS.new keys seed)->(∀j,T j≠none->sz h<=j)->Ext h h'->K (some ⟨L.eb,0,none⟩) 0 h'):Ziv keys seed K h:=by
  unfold Ziv ZkG;refine Za (Zi (decide_eq_false (by omega)) (Zi (decide_eq_false (by omega)) (ZyB λh1 c1 u f=>ZvT λz t2 r m=>Zlv.new λh3 g n z3=>ZH λo c l z4=>Za ?_)));simp only[YJ]at g z3 c z4⊢;rw[f]at t2 c;rw[m,f]at g c;rw[z3,m,f]at c⊢;have v:sz h+1+2+1=sz h+4:=by omega
  have w:sz h+1+2=sz h+3:=by omega
  rw[v]at c⊢;rw[w]at c g;have A:sz o=sz h+5:=by rw[z4,z3,m,f]
  have t0:Zjk (sz h) (sz h)=some (.p (sz h)):=by unfold Zjk;rw[if_pos rfl]
  have t1:∀j,j=sz h+1\/j=sz h+1+1->Zjk (sz h) j=some (.p (sz h+2)):=λj a=>by unfold Zjk;rw[if_neg (by omega),if_pos (by omega)]
  have t3:Zjk (sz h) (sz h+3)=some (.p (sz h+3)):=by unfold Zjk;rw[if_neg (by omega),if_neg (by omega),if_pos rfl]
  have t4:Zjk (sz h) (sz h+4)=some (.p (sz h+4)):=by unfold Zjk;rw[if_neg (by omega),if_neg (by omega),if_neg (by omega),if_pos rfl]
  have hT:∀j,Zjk (sz h) j≠none->sz h<=j/\j<sz o:=λj a=>by
    unfold Zjk at a;split at a
    ·omega
    ·split at a
     ·omega
     ·split at a
      ·omega
      ·split at a
       ·omega
       ·exact absurd rfl a
  have b:∀{S:Nat->Prop},Rw.inS S nl:=λ{S} hl=>absurd rfl hl;have d:∀{s:Zf} {S:Nat->Prop},Rw.YY s S (nl,nl,nl,nl,nl,()) ⟨[],[],[],[],[]⟩:=λ{s S}=>⟨⟨Row.nil _ _,b⟩,⟨Row.nil _ _,b⟩,⟨[],rfl,⟨Row.nil _ _,b⟩,λp q=>(by cases q)⟩,⟨Row.nil _ _,b⟩,⟨[],rfl,⟨Row.nil _ _,b⟩,λp q=>(by cases q)⟩⟩;refine t o (Zjk (sz h)) ⟨sz h+4,sz h,sz h+2,sz h+3,(nl,nl,nl,nl,nl,()),(nl,nl,nl,nl,nl,()),0,nl,nl,nl,[],[],[]⟩ ⟨c,t4,Zj c1 ((r.trans n).trans l),t0,d,d,(t2.ext (n.trans l)).mono λj a=>t1 j a,⟨λ_=>none,0,g.congr (ZB l (by omega)),λk=>.inl ⟨rfl,rfl⟩⟩,t3,rfl,rfl,rfl,⟨Row.nil _ _,b,λi x e=>(by cases e)⟩,⟨Row.nil _ _,b,λi x e=>(by cases e)⟩,⟨Row.nil _ _,b,λi x e=>(by cases e)⟩,?_,λj a=>(hT j a).2⟩ (λj a=>(hT j a).1) (((u.trans r).trans n).trans l);simp[Lay.hds]
section
variable{h:Zf}{T:TgM}{L:Lay}{G:GS}
theorem ZHg(c:Zb1 h T L G)(ok:GOK G){S:Nat->Prop}{w:Rw.VTR}{r:RulesP}(hr:Rw.YY h S w r)(hS:∀b,S b->b<sz h)(hf:Rw.RulesP.fit r){K:Int->Zf->Prop}
    (h0:r.whereE.2.2=0->∀h' T' L',Zb1 h' T' L' (G.load r)->L'.eb=L.eb->GrG T T' h h'->K 0 h') (h1:∀e:Nat,r.whereE.2.2=e->e≠0->∀h',Ext h h'->K e h'):Zap (some ⟨L.eb,0,none⟩) w K h:=by
  unfold Zap Zd8;obtain⟨⟨q1,q2,q3,q4⟩,⟨r2,r3,r4⟩,⟨t3,t4⟩,f4,aq⟩:=ZrC c.nd;refine ZH λv c1 e1 z1=>Za (Zi rfl (Zg ?_));have E1:=c.ext e1;have w1:sz v=sz h+1:=z1;refine rP (Zb E1.cells rfl) (rL (s:=w.1) (Zb c1 rfl) (rL (s:=w.2.1) (Zb c1 rfl) (rL (s:=w.2.2.1) (Zb c1 rfl) (rL (s:=w.2.2.2.1) (Zb c1 rfl) (rL (s:=w.2.2.2.2.1) (Zb c1 rfl) ?_)))));have ba:=ZbX c.hT c.eT;have bb:=ZbX c.hT c.sT;refine ZER E1.store (hr.ext e1) (λb a=>by have:=hS b a;omega) hf (λhq m z2 c2 U u2=>?_) λe he f m e2=>Za (Zn (by simpa using f) (Za (h1 e he f m (e1.trans e2))));have P:obj m L.eb=_:=(u2.old L.eb (show L.eb<sz v by omega) (show ¬L.eb=L.sb from Ne.symm q1)).trans E1.cells;refine Za (Zi rfl (Zg (rL (s:=L.z.1) (Zb P rfl) (rL (s:=L.z.2.1) (Zb P rfl) (rL (s:=L.z.2.2.1) (Zb P rfl) (rL (s:=L.z.2.2.2.1) (Zb P rfl) (rL (s:=L.z.2.2.2.2.1) (Zb P rfl) (ZH λg3 c3 e3 z3=>Zaw c3 (vs:=[slV L.z.1,slV L.z.2.1,slV L.z.2.2.1,slV L.z.2.2.2.1,slV L.z.2.2.2.2.1]) (λV c4 u4 z4=>Zg ?_) (hv:=by simp[ZoM,Zbf])))))))));have n:Ext m V:=e3.then u4 λk hk=>by subst hk;exact Aqo _
  have w2:sz v<=sz m:=u2.size;have w3:sz g3=sz m+1:=z3;have w4:sz V=sz g3:=z4;have y4:=Zj P n;refine rP (Zb y4 rfl) (ZHc (Zj c2 n) (U.ext n) (λb a=>by have:=a.2;omega) (Zqw hq).s λW z5 ax y=>Zg ?_);have y5:=Zj y4 y;have w5:sz V<=sz W:=y.size;refine ZGc y5 (geL G L.sb L.tb L.fm z5 L.f1 L.b1 L.h1) (λo y6 X z6=>Zg ?_) (hv:=by simp[ZoM,Zbf]);have w6:sz o=sz W:=z6;have Y:obj o (sz m)=_:=(X.old (sz m) (Zp (Zj c4 y)) (by show ¬sz m=L.eb;omega)).trans (Zj c4 y);let B:TgM:=ZhZ (ZhZ T .ro (sz v) (sz m)) .ro (sz V) (sz W);have Z:∀j,ZhZ T .ro (sz v) (sz m) j≠none->j<sz m:=ZmV (λj d=>by have:=c.hT j d;omega) (Aqo _);have sA:Zdi T (ZhZ T .ro (sz v) (sz m)):=Zgt λj d=>by have:=c.hT j d;omega
  have sB:Zdi (ZhZ T .ro (sz v) (sz m)) B:=Zgt λj d=>by have:=Z j d;omega
  have Q:Zdi T B:=sA.trans sB;have aa:∀j,B j≠none->j<sz o:=ZmV (λj d=>by have:=Z j d;omega) (by omega)
  have n6:∀j,B j≠none->T j≠none\/sz h<=j:=λj d=>by
    have:ZhZ (ZhZ T .ro (sz v) (sz m)) .ro (sz V) (sz W) j≠none:=d;unfold ZhZ at this;split at this
    ·exact .inr (by omega)
    ·split at this
     ·exact .inr (by omega)
     ·exact .inl this
  let D:Nat->Prop:=λb=>b=L.sb\/b=L.eb;have p:Upd D h o:=((e1.upd D).trans (u2.mono λj _ d=>.inl d)).trans (((n.trans y).upd D).trans (X.mono λj _ d=>.inr d))
  have kD:∀{hh:Zf},Upd D h hh->Zde D T h hh:=λ{hh} u j t ht hd=>u.old j (ZbX c.hT ht) λd=>by
    rcases d with e|e
    ·subst e;rw[c.sT]at ht;cases ht;exact hd _ (.inl rfl) rfl
    ·subst e;rw[c.eT]at ht;cases ht;exact hd _ (.inr rfl) rfl
  have k6:=kD p;have nD:∀b,b∈hd3 L.fs L.bs L.hs->¬D b:=λb a i=>i.elim (r4 b a) (q4 b a);have m1:∀b,b∈L.fs.flatMap (λx=>hdP x.1)->¬D b:=λb a=>nD b (Axx.2 (.inl a));have m2:∀b,b∈L.bs.flatMap (λx=>[x.1])->¬D b:=λb a=>nD b (Axx.2 (.inr (Axx.2 (.inl a))));have m3:∀b,b∈L.hs.flatMap (λx=>[x.1])->¬D b:=λb a=>nD b (Axx.2 (.inr (Axx.2 (.inr a))));have af:Rw.YY o (roT B) z5 r:=(ax.keep (h':=o) λb a l=>X.old b l (by show ¬b=L.eb;have:=a.1;omega)).mono λb _ a=>Zil a;have aA:Rw.YY o (roT B) z2 r:=((U.ext (n.trans y)).keep (h':=o) λb a l=>X.old b l (by show ¬b=L.eb;have:=a.1;omega)).mono λb _ a=>sB.to (Zil a);refine rL (s:=L.z.1) (Zb Y rfl) (rL (s:=L.z.2.1) (Zb Y rfl) (rL (s:=L.z.2.2.1) (Zb Y rfl) (rL (s:=L.z.2.2.2.1) (Zb Y rfl) (rL (s:=L.z.2.2.2.2.1) (Zb Y rfl) ?_))));refine ZEM (z':=z5) (L:=L) (G:=G) (r:=r) (T:=B) y6 (XA k6 Q c.rz) af (c.fl.keep k6 Q m1) (c.br.keep k6 Q m2) (c.ho.keep k6 Q p.size m3) c.lf c.lb c.lh ok hq hf aq aa λC R ag ah ai E F H aB aC aD pf pb ph aE aF q n7 I=>Zg ?_;have y7:=Zj y6 I;refine ZGc y7 (geL (G.load r) L.sb L.tb L.fm z5 ag ah ai) (λJ y8 u8 z8=>Za (h0 hq J R {L with z:=z5,zs:=z2,g:=IntKind.wrap .i64 (L.g+1),f1:=ag,b1:=ah,h1:=ai,fs:=E,bs:=F,hs:=H} ?_ rfl ?_)) (hv:=by simp[ZoM,Zbf,Zdl])
  case _=>
    have w7:sz o<=sz C:=I.size;have w8:sz J=sz C:=z8;have M:Upd D h J:=(p.trans (I.upd D)).trans (u8.mono λj _ d=>.inr d);have k8:=kD M;have s7:Zdi T R:=Q.trans q
    have aj:∀j,R j≠none->j<sz C:=λj d=>by
      rcases n7 j d with g|g
      ·have:=aa j g;omega
      ·exact g.2
    have c8:obj J L.sb=some (ZoK z2 (IntKind.wrap .i64 (L.g+1))):=by
      refine(u8.old L.sb (show L.sb<sz C by omega) q1).trans (Zj ?_ I);exact(X.old L.sb (show L.sb<sz W by omega) q1).trans (Zj c2 (n.trans y))
    have N:=s7.to c.eT;have kE:Zde (· = L.eb) R C J:=Zs6 aj N u8;have O:=Zdi.refl R
    have f:∀b,b∈hd3 E F H->b≠L.eb/\b≠L.sb/\b≠L.tb/\b≠L.fm:=λb a=>by
      have bz:=ZbX c.hT c.fT;have bA:L.tb<sz h:=by obtain⟨mb,base,ks,A,hi,_⟩:=c.tree;exact Zp hi.cells
      rcases aF b a with g|g
      ·exact⟨q4 b g,r4 b g,t4 b g,f4 b g⟩
      ·exact⟨by omega,by omega,by omega,by omega⟩
    have ak:∀b,R b=some .ro->b<sz C->obj J b=obj C b:=λb a l=>u8.old b l λe=>by
      have e':b=L.eb:=e;rw[e',N]at a;cases a
    refine⟨y8,N,c8,s7.to c.sT,?_,?_,ZgP k8 s7 c.tree ?_,ZkL k8 s7 c.ent c.fT ?_,s7.to c.fT,pf,pb,ph,aB.keep kE O λb a i=>?_,aC.keep kE O λb a i=>?_,aD.keep kE O u8.size λb a i=>?_,?_,λj d=>by have:=aj j d;omega⟩
    ·exact((af.ext I).mono λb _ a=>q.to a).keep λb a l=>ak b a l
    ·exact((aA.ext I).mono λb _ a=>q.to a).keep λb a l=>ak b a l
    ·exact λi=>i.elim r2 q2
    ·exact λi=>i.elim r3 q3
    ·exact(f b (Axx.2 (.inl a))).1 i
    ·exact(f b (Axx.2 (.inr (Axx.2 (.inl a))))).1 i
    ·exact(f b (Axx.2 (.inr (Axx.2 (.inr a))))).1 i
    ·show(L.eb::L.sb::L.tb::L.fm::hd3 E F H).Nodup;simp only[Ayn,Awr,not_or];exact⟨⟨Ne.symm q1,Ne.symm q2,Ne.symm q3,λi=>(f _ i).1 rfl⟩,⟨Ne.symm r2,Ne.symm r3,λi=>(f _ i).2.1 rfl⟩,⟨Ne.symm t3,λi=>(f _ i).2.2.1 rfl⟩,λi=>(f _ i).2.2.2 rfl,aE⟩
  case _=>
    have M:Upd D h J:=(p.trans (I.upd D)).trans (u8.mono λj _ d=>.inr d);refine⟨M.mono λj _ d=>?_,Q.trans q,λj d=>?_⟩
    ·rcases d with e|e
     ·subst e;exact Y9 c.sT
     ·subst e;exact Y9 c.eT
    ·rcases n7 j d with g|g
     ·exact n6 j g
     ·exact .inr (by omega)
end
abbrev ZNm(eb:Nat)(c:C8)(gr:Bool)(tk bk:Sl)(wt:Int):List Value:=.pointer (some ⟨eb,0,none⟩)::iv c.1:: .string c.2.1:: .string c.2.2.1:: .string c.2.2.2.1:: .bool c.2.2.2.2.1::iv c.2.2.2.2.2.1::slV c.2.2.2.2.2.2.1::[.bool gr,slV tk,slV bk,iv wt]
abbrev Zu2(eb:Nat)(c:C8)(gr:Bool)(tk bk:Sl)(wt:Int):Obj:=.cells (ZNm eb c gr tk bk wt).toArray 107 (0,0)
def Bx(h:Zf)(base wb:Nat)(t:Sl)(b o:Nat)(v:Value):Prop:=ZA o (obj h b)=some v/\base<=b/\b<sz h/\b≠wb/\t.blk≠some b
abbrev pB(b:Nat):Value:=.pointer (some ⟨b,0,none⟩)
def TkR(h:Zf)(base wb:Nat)(t:Sl)(L:Lay)(c:PC)(v:Value):Tk->Prop
  | .hot i x=>∃l m n j,v= .func (.func 122) #[] #[pB l,pB m,pB n]/\Bx h base wb t l 0 (pB j)/\Bx h base wb t m 0 (pB wb)/\Bx h base wb t n 0 (.string x)/\(L.hs[i]?).map (·.1)=some j
  | .warm i past sum=>∃a b d e f p,v= .func (.func 182) #[] #[pB a,pB b,pB d,pB e,pB f]/\Bx h base wb t a 1 (.pointer p.2)/\Bx h base wb t b 0 (iv c.1)/\Bx h base wb t d 0 (iv past)/\Bx h base wb t e 0 (iv sum)/\Bx h base wb t f 0 (iv c.2.2.2.2.2)/\(L.fs[i]?).map (·.1)=some p
  | .pace i=>∃a b f p,v= .func (.func 185) #[] #[pB a,pB b,pB f]/\Bx h base wb t a 0 (.pointer p.1)/\Bx h base wb t b 0 (iv c.1)/\Bx h base wb t f 0 (iv c.2.2.2.2.2)/\(L.fs[i]?).map (·.1)=some p
  | .wp i past k=>∃a b d f g p,v= .func (.func 190) #[] #[pB a,pB b,pB d,pB f,pB g]/\Bx h base wb t a 0 (.pointer p.1)/\Bx h base wb t a 1 (.pointer p.2)/\Bx h base wb t b 0 (iv c.1)/\Bx h base wb t d 0 (iv past)/\Bx h base wb t f 0 (iv c.2.2.2.2.2)/\Bx h base wb t g 0 (iv k)/\(L.fs[i]?).map (·.1)=some p
  | .brk i=>∃a b j id,v= .func (.func 128) #[] #[pB a,pB b]/\Bx h base wb t a 0 (pB j)/\Bx h base wb t a 1 (iv id)/\Bx h base wb t b 0 (pB wb)/\(L.bs[i]?).map (λx=>(x.1,x.2.2))=some (j,id)
structure WkR(h:Zf)(base wb:Nat)(L:Lay)(c:PC)(sl:Sl)(gr:Bool)(tks:List Tk)(wt:Int)(t:Sl)(vs:List Value):Prop where
  w:obj h wb=some (Zu2 L.eb (cl c sl) gr t nl wt)
  o:Own h base t 1 vs
  l:vs.length=tks.length
  e:∀(i:Nat) v tk,vs[i]?=some v->tks[i]?=some tk->TkR h base wb t L c v tk
  b:base<=sz h
  n:t.blk≠some wb
structure WS(wb:Nat)(t t':Sl)(h h':Zf):Prop where
  u:Upd (λj=>j=wb\/t.blk=some j) h h'
  n:t'.blk=t.blk\/∀b,t'.blk=some b->sz h<=b
section
variable{h h' h'':Zf}{base wb:Nat}{t t' t'':Sl}{L:Lay}{c:PC}{sl:Sl}{gr:Bool}{tks:List Tk}{wt:Int}{vs:List Value}
theorem WS.refl:WS wb t t h h:=⟨Upd.refl _ _,.inl rfl⟩
theorem WS.ext(e:Ext h h'):WS wb t t h h':=⟨e.upd _,.inl rfl⟩
theorem WS.trans(a:WS wb t t' h h')(b:WS wb t' t'' h' h''):WS wb t t'' h h'':=by
  refine⟨⟨Aqp a.u.size b.u.size,λk d e=>?_⟩,?_⟩
  ·refine (b.u.old k (Aqq d a.u.size) λc=>?_).trans (a.u.old k d e)
   rcases c with c|c
   ·exact e (.inl c)
   ·rcases a.n with g|g
    ·exact e (.inr (g▸c))
    ·have:=g k c;have:k<sz h:=d;omega
  ·rcases b.n with g|g
   ·rw[g];exact a.n
   ·exact .inr λb f=>Aqp a.u.size (g b f)
theorem WS.then(a:WS wb t t' h h')(e:Ext h' h''):WS wb t t' h h'':=a.trans (WS.ext e)
theorem WS.pre(e:Ext h h')(a:WS wb t t' h' h''):WS wb t t' h h'':=(WS.ext e).trans a
theorem Bx.keep{b o:Nat}{v:Value}(x:Bx h base wb t b o v)(u:Upd (λj=>j=wb\/t.blk=some j) h h')(f:t'.blk=t.blk\/∀b,t'.blk=some b->sz h<=b):Bx h' base wb t' b o v:=by
  obtain⟨i,k,a,c,d⟩:=x;refine⟨by rw[show obj h' b=obj h b from u.old b a λe=>e.elim c d];exact i,k,Aqq a u.size,c,λe=>?_⟩
  rcases f with g|g
  ·exact d (g▸e)
  ·have:=g b e;omega
theorem TkR.keep{v:Value}{tk:Tk}(x:TkR h base wb t L c v tk)(u:Upd (λj=>j=wb\/t.blk=some j) h h')(k:t'.blk=t.blk\/∀b,t'.blk=some b->sz h<=b):TkR h' base wb t' L c v tk:=by
  cases tk with
  | hot i s=>
    obtain⟨r,w,y,n,e,l,m,a3,a4⟩:=x;exact⟨r,w,y,n,e,l.keep u k,m.keep u k,a3.keep u k,a4⟩
  | warm i past sum=>
    obtain⟨a,b,d,f,g,p,e,l,m,a3,a4,a5,o⟩:=x;exact⟨a,b,d,f,g,p,e,l.keep u k,m.keep u k,a3.keep u k,a4.keep u k,a5.keep u k,o⟩
  | pace i=>
    obtain⟨a,b,f,p,e,l,m,a3,a4⟩:=x;exact⟨a,b,f,p,e,l.keep u k,m.keep u k,a3.keep u k,a4⟩
  | wp i past q=>
    obtain⟨a,b,d,f,g,p,e,l,m,a3,a4,a5,o,z⟩:=x;exact⟨a,b,d,f,g,p,e,l.keep u k,m.keep u k,a3.keep u k,a4.keep u k,a5.keep u k,o.keep u k,z⟩
  | brk i=>
    obtain⟨a,b,n,id,e,l,m,a3,a4⟩:=x;exact⟨a,b,n,id,e,l.keep u k,m.keep u k,a3.keep u k,a4⟩
theorem WkR.ext(W:WkR h base wb L c sl gr tks wt t vs)(e:Ext h h'):WkR h' base wb L c sl gr tks wt t vs:=
  ⟨Zj W.w e,W.o.congr λb _ hl _=>e.old b hl,W.l,λi v tk h1 a=>(W.e i v tk h1 a).keep (e.upd _) (.inl rfl),Aqp W.b e.size,W.n⟩
theorem WkR.add(W:WkR h base wb L c sl gr tks wt t vs){v:Value}{tk:Tk}(hv:TkR h base wb t L c v tk)(x:Own h' base t' 1 (vs++[v]))(y:Upd (λk=>t.blk=some k) h h')(a:t'.blk=t.blk\/t'.blk=some (sz h))(z:obj h'' wb=some (Zu2 L.eb (cl c sl) gr t' nl wt))(r:Upd (· = wb) h' h''):
    WkR h'' base wb L c sl gr (tks++[tk]) wt t' (vs++[v])/\WS wb t t' h h'':=by
  have f:t'.blk=t.blk\/∀b,t'.blk=some b->sz h<=b:=a.imp id λe b a=>by rw[e]at a;cases a;exact Aqo _
  have u:Upd (λj=>j=wb\/t.blk=some j) h h'':=(y.mono λj _ m=>.inr m).trans (r.mono λj _ m=>.inl m);have lw:=Zp W.w
  have s:t'.blk≠some wb:=λe=>by
    rcases a with g|g
    ·exact W.n (g▸e)
    ·rw[g]at e;cases e;omega
  refine⟨⟨z,x.congr λb o p _=>r.old b p λe=>s (by rw[o,show b=wb from e]),by simp[W.l],λi A q h1 d=>?_,Aqp W.b u.size,s⟩,⟨u,f⟩⟩
  rcases ZqL h1 with g|⟨B,C⟩
  ·have hi:=Zbn g;rw[Awu (by rw[<-W.l];exact hi)]at d;exact(W.e i A q g d).keep u f
  ·subst B;subst C;rw[W.l,Awv (Aqo _),Nat.sub_self]at d;cases d;exact hv.keep u f
theorem WkR.wait(W:WkR h base wb L c sl gr tks wt t vs){wt':Int}(g:obj h' wb=some (Zu2 L.eb (cl c sl) gr t nl wt'))(f:Upd (· = wb) h h'):WkR h' base wb L c sl gr tks wt' t vs/\WS wb t t h h':=by have u:Upd (λj=>j=wb\/t.blk=some j) h h':=f.mono λj _ k=>.inl k;exact⟨⟨g,W.o.congr λb a d _=>f.old b d λe=>W.n (by rw[a,show b=wb from e]),W.l,λi v tk h1 m=>(W.e i v tk h1 m).keep u (.inl rfl),Aqp W.b u.size,W.n⟩,⟨u,.inl rfl⟩⟩
theorem Zb1.walk{T:TgM}{G:GS}(a:Zb1 h T L G)(b:∀j,T j≠none->j<base/\j≠wb)(W:WkR h base wb L c sl gr tks wt t vs)(u:WS wb t t' h h'):Zb1 h' T L G:=
  a.frame u.u λj d=>by
   cases q:T j with
   |none=>rfl
   | some x=>
     have:=b j (Y9 q)
     rcases d with e|e
     ·exact absurd e this.2
     ·have:=(W.o.lt e).1;omega
theorem ZtF{T:TgM}{G:GS}{f:Int->Lk}{KL:List Int}{kt:Sl}{body:Int->Int->Zf->(Zf->Prop)->Prop}{K:Zf->Prop}{X:Int->Zf->Prop}{h0:Zf}(E:Zb1 h T L G)(F:∀j,T j≠none->j<base/\j≠wb)(W:WkR h base wb L c sl gr tks wt t vs)(hl:KL.length<=256)(P:tks.length<=2000)(v:Own h (sz h0) kt 1 (KL.map iv))(H:wb<sz h0)(w:∀b,t.blk=some b->b<sz h0)
    (hs:∀(m:Nat) k g a wt' t' d (Q:Zf->Prop),KL[m]?=some k->Zb1 g T L G->WkR g base wb L c sl gr a wt' t' d->WS wb t t' h g->a.length<=3000->(∀h' t'' l,WkR h' base wb L c sl gr (a++(f k).tk) (wtV wt' (f k).wt) t'' l->WS wb t' t'' g h'->if(f k).b=true then X k h' else Q h')->body m k g Q)
    (y:∀k,(f k).tk.length<=1)
    (I:∀k h' t' d x,ZgL f KL (tks,wt)=(some k,x)->WkR h' base wb L c sl gr x.1 x.2 t' d->WS wb t t' h h'->x.1.length<=tks.length+256->X k h') (M:∀h' t' d x,ZgL f KL (tks,wt)=(none,x)->WkR h' base wb L c sl gr x.1 x.2 t' d->WS wb t t' h h'->x.1.length<=tks.length+256->K h'):
    Yl (σ:=Int×Unit) (λJ s g=>(λ(i:Int)=>Zl (decide (i<(kt.len:Int))) (YI kt.ptr kt.len i 1 λb o=>ldI g b o .i64 λt=>body i t g (λh'=>J (IntKind.wrap .i64 (i+1),()) h')) (K g)) s.1) (0,()) h:=by
  refine ZnB (KL:=KL) (kt:=kt) (body:=body) (λm g=>∃a wt' t' d,WkR g base wb L c sl gr a wt' t' d/\WS wb t t' h g/\a.length<=tks.length+m/\ZgL f KL (tks,wt)=ZgL f (KL.drop m) (a,wt')) (by omega) (λm g ⟨a,wt',t',d,r,s,_⟩=>?_) ⟨tks,wt,t,vs,W,WS.refl,Aqo _,rfl⟩ ?_ ?_
  ·refine (v.congr λb N z A=>s.u.old b z λe=>?_).row;have:sz h0<=b:=A
   rcases e with e|e
   ·omega
   ·have:=w b e;omega
  ·rintro m k g Q B ⟨a,wt',t',d,r,s,C,hw⟩ O;have hm:=Zbn B
   have hd:KL.drop m=k::KL.drop (m+1):=by
     rw[Aym hm];congr 1;exact(Ayf.1 B).2
   rw[hd]at hw;have D:ZgL f (k::KL.drop (m+1)) (a,wt')=if(f k).b=true then(some k,a++(f k).tk,wtV wt' (f k).wt)else ZgL f (KL.drop (m+1)) (a++(f k).tk,wtV wt' (f k).wt):=rfl
   rw[D]at hw;have h1:=y k;refine hs m k g a wt' t' d Q B (E.walk F W s) r s (by omega) λh' t'' l n s'=>?_;have p:=s.trans s';split
   ·rename_i q;rw[if_pos q]at hw;exact I k h' t'' l _ hw n p (by simp only[Awe];omega)
   ·rename_i q;rw[if_neg q]at hw;exact O h' ⟨_,_,t'',l,n,p,by simp only[Awe];omega,hw⟩
  ·rintro g ⟨a,wt',t',d,r,s,C,hw⟩;rw[Ayo (Aqo _),show ZgL f [] (a,wt')=(none,(a,wt'))from rfl]at hw;exact M g t' d _ hw r s (by show a.length<=_;omega)
end
theorem Zku{α:Type}{nm:α->ByteArray}{res:ByteArray}:∀{l:List α} {i:Nat} {k:Int},k∈ofL nm res l i->∃j a,k=((i+j:Nat):Int)/\l[j]?=some a
  |[],i,k,h=>by cases h
  | a::l,i,k,h=>by
    have e:ofL nm res (a::l) i=if Yr (nm a) res=true then(i:Int)::ofL nm res l (i+1)else ofL nm res l (i+1):=rfl
    rw[e]at h;split at h
    ·rcases Awr.1 h with h|h
     ·exact⟨0,a,h,rfl⟩
     ·obtain⟨j,b,h1,c⟩:=Zku h;exact⟨j+1,b,by rw[h1];congr 1;omega,by simpa using c⟩
    ·obtain⟨j,b,h1,c⟩:=Zku h;exact⟨j+1,b,by rw[h1];congr 1;omega,by simpa using c⟩
theorem Zng{α:Type}{nm:α->ByteArray}{res:ByteArray}:∀{l:List α} {i:Nat},(ofL nm res l i).length<=l.length
  |[],i=>Aqo _
  | a::l,i=>by
    have e:ofL nm res (a::l) i=if Yr (nm a) res=true then(i:Int)::ofL nm res l (i+1)else ofL nm res l (i+1):=rfl
    rw[e];split
    ·simp only[Aqj];have:=Zng (nm:=nm) (res:=res) (l:=l) (i:=i+1);omega
    ·simp only[Aqj];have:=Zng (nm:=nm) (res:=res) (l:=l) (i:=i+1);omega
theorem ZBA{r:RulesP}(h:ZvZ r)(kind:Int)(res:ByteArray):(ofK r kind res).length<=256:=by
  unfold ofK;split
  ·exact Aqp Zng h.f
  ·split
   ·exact Aqp Zng h.b
   ·split
    ·exact Aqp Zng h.h
    ·split
     ·exact Aqp Zng h.s
     ·split
      ·exact Aqp Zng h.l
      ·exact Aye _
section
variable{h:Zf}{T:TgM}{L:Lay}{G:GS}{base wb:Nat}{t:Sl}{c:PC}{sl:Sl}{gr:Bool}{tks:List Tk}{wt:Int}{vs:List Value}
theorem ZqA{f91:Int->Option Addr->(Bool->Zf->Prop)->Zf->Prop}{kind:Int}{bx:Nat}{x:Obj}{f:Int->Lk}(A:Zb1 h T L G)(ok:GOK G)(hb:∀j,T j≠none->j<base/\j≠wb)(W:WkR h base wb L c sl gr tks wt t vs)(hn:tks.length<=2000)(D:obj h bx=some x)(n1:bx≠wb)(Y:t.blk≠some bx){R:Zf->Prop}(hR:∀{l},(∀j,j<sz h->j≠wb->t.blk≠some j->obj l j=obj h j)->R l)(J:∀k,(f k).tk.length<=1)
    (hs:∀k,k∈ofK G.r kind c.2.1->∀{l:Zf} {d:List Tk} {wt':Int} {t':Sl} {a:List Value} {Q:Bool->Zf->Prop},Zb1 l T L G->WkR l base wb L c sl gr d wt' t' a->R l->d.length<=3000->obj l bx=some x->t'.blk≠some bx->(∀h' v p,WkR h' base wb L c sl gr (d++(f k).tk) (wtV wt' (f k).wt) v p->WS wb t' v l h'->Q (f k).b h')->f91 k (some ⟨bx,0,none⟩) Q l)
    {K:Int->Bool->Zf->Prop} (Z:∀h' t' a x,ZgL f (ofK G.r kind c.2.1) (tks,wt)=x->WkR h' base wb L c sl gr x.2.1 x.2.2 t' a->WS wb t t' h h'->x.2.1.length<=tks.length+256->K (x.1.getD 0) x.1.isSome h'):
    ZC ZaO f91 (some ⟨wb,0,none⟩) kind (some ⟨bx,0,none⟩,()) K h:=by
  unfold ZC;refine Za (Zg (Zg (rP (Zb W.w rfl) (Zg (rL (s:=L.z.1) (Zb A.cells rfl) (rL (s:=L.z.2.1) (Zb A.cells rfl) (rL (s:=L.z.2.2.1) (Zb A.cells rfl) (rL (s:=L.z.2.2.2.1) (Zb A.cells rfl) (rL (s:=L.z.2.2.2.2.1) (Zb A.cells rfl) (rS (Zb W.w rfl) ?_))))))))));refine ZOu A.rz (λb E=>ZbX A.hT E) ok.good.s λh2 kt B M=>⟨ZR (Zb (W.ext B).w rfl),?_⟩;have lw:=Zp W.w;have W2:=W.ext B;refine ZtF (h0:=h) (f:=f) (KL:=ofK G.r kind c.2.1) (X:=λi h'=>K i true h') (body:=λak t18 N Q=>Zc t18 λi=>f91 i (some ⟨bx,0,none⟩) (λt19 F=>Zl t19 (Zc i λt21=>K t21 true F) (Q F)) N) (A.ext B) hb W2 (ZBA ok.good.s _ _) hn M lw (λb E=>(W.o.lt E).2) ?_ J ?_ ?_
  ·intro m k l d wt' t' a Q O E' H s hl I;have C:∀j,j<sz h->j≠wb->t.blk≠some j->obj l j=obj h j:=λj hj P S=>(s.u.old j (Aqq hj B.size) λe=>e.elim P S).trans (B.old j hj)
   have nt:t'.blk≠some bx:=λe=>by
     rcases s.n with g|g
     ·exact Y (g▸e)
     ·have:=g bx e;have:=Zp D;have:sz h<=sz h2:=B.size;omega
   refine Za (hs k (Axo O) E' H (hR C) hl ((C bx (Zp D) n1 Y).trans D) nt λh' v p U V=>?_);have:=I h' v p U V;refine⟨λq=>Za ?_,λq=>?_⟩
   ·rwa[if_pos q]at this
   ·rwa[if_neg (by rw[q];decide)]at this
  ·intro k h' t' a y hw H s hl;exact Z h' t' a (some k,y) hw H (WS.pre B s) hl
  ·intro h' t' a y hw H s hl;exact Za (Z h' t' a (none,y) hw H (WS.pre B s) hl)
theorem ZDY(M:Zb1 h T L G)(ok:GOK G)(N:∀j,T j≠none->j<base/\j≠wb)(W:WkR h base wb L c sl gr tks wt t vs)(O:tks.length<=2000)
    {K:Int->Bool->Zf->Prop} (P:∀h' t' a x,ZgL (Zrv G c) (ofK G.r 5 c.2.1) (tks,wt)=x->WkR h' base wb L c sl gr x.2.1 x.2.2 t' a->WS wb t t' h h'->x.2.1.length<=tks.length+256->K (x.1.getD 0) x.1.isSome h'):ZaT (some ⟨wb,0,none⟩) K h:=by
  unfold ZaT ZeY;have lw:=Zp W.w;refine ZH λh1 c1 u U=>Za (rP (Zb c1 rfl) ?_);refine ZqA (f91:=Za8) (f:=Zrv G c) (R:=λ_=>True) (M.ext u) ok N (W.ext u) O c1 (show sz h≠wb by omega) (λe=>by have:sz h<sz h:=(W.o.lt e).2;omega) (λ_=>trivial) (λk=>Aye _) ?_ λh' t' a x hw d s hl=>Za (Zd (P h' t' a x hw d (WS.pre u s) hl));intro k v V F wt' t' a Q y d _ hl cb X l;obtain⟨j,f,H,b⟩:=Zku (show k∈ofL (λf:Zbt=>Zx f.res) c.2.1 G.r.li 0 from v);rw[Awb]at H;subst H;obtain⟨I,A,B,C⟩:=y.rz.li
  obtain ⟨p,J,D⟩:∃p,I[j]?=some p/\p.2=f:=by
    rw[<-A,Awy]at b
    cases q:I[j]? with
    |none=>rw[q]at b;cases b
    |some p=>rw[q]at b;exact⟨p,rfl,Option.some.inj b⟩
  subst D;have fit:=ok.fit.2.2.2 p.2 (Axo b);unfold Za8 Zdr;obtain⟨Y,Z,_,_,m,E⟩:=Za5 (g:=Rw.Zix) (n:=3) (λ_=>rfl) B.1 J (by decide);refine Zg (rP (Zb cb rfl) (Zg (rP (Zb d.w rfl) (Zg (rL (s:=L.z.2.2.2.2.1) (Zb y.cells rfl) (m rfl (rS (E 0 _ rfl) (rB (E 1 _ rfl) (rL (s:=p.1) (E 2 _ rfl) (Zg (rP (Zb cb rfl) (Zg (rS (Zb d.w rfl) ?_)))))))))))));refine Classical.choose_spec (ZuC p.2 c.2.2.2.1) fit (C p (Axo J)).1 λS i=>⟨ZR (Zb (Zj cb i) rfl),ZR (Zb (y.ext i).cells rfl),ZR (Zb (d.ext i).w rfl),ZR (Zb (Zj cb i) rfl),Zd ?_⟩
  have e:Zrv G c (j:Int)=⟨!glV p.2 c.2.2.2.1,[],none⟩:=by
    unfold Zrv;rw[Aqu,b]
  have fin:=l S t' a (by rw[e,Ayr];exact d.ext i) (WS.ext i);rw[e]at fin;exact fin
end
def ZGv(w:N7):List Value:=[iv w.1,iv w.2.1,iv w.2.2.1,iv w.2.2.2.1,iv w.2.2.2.2.1,iv w.2.2.2.2.2.1,iv w.2.2.2.2.2.2.1]
section
variable{h:Zf}{T:TgM}{L:Lay}{G:GS}{base wb:Nat}{t:Sl}{c:PC}{sl:Sl}{gr:Bool}{tks:List Tk}{wt:Int}{vs:List Value}
theorem ZwR(hE:Zb1 h T L G)(ok:GOK G)(hb:∀j,T j≠none->j<base/\j≠wb)(W:WkR h base wb L c sl gr tks wt t vs)(hn:tks.length<=2000)
    {K:Int->Bool->Zf->Prop} (I:∀h' t' l x,ZE5 G c (tks,wt)=x->WkR h' base wb L c sl gr x.2.1 x.2.2 t' l->WS wb t t' h h'->x.2.1.length<=tks.length+256->K (x.1.getD 0) x.1.isSome h'):X4 (some ⟨wb,0,none⟩) K h:=by
  unfold X4 Zdq;have lw:=Zp W.w;refine ZH λh1 c1 C z1=>Za (rP (Zb c1 rfl) (Zg (rB (Zb (W.ext C).w rfl) ⟨λq=>Za ?_,λq=>?_⟩)))
  ·have q':¬c.2.2.2.2.1=true:=λM=>by
     have A:(!c.2.2.2.2.1)=true:=q;rw[M]at A;cases A
   exact I h1 t vs (none,tks,wt) (by unfold ZE5;rw[if_neg q']) (W.ext C) (WS.ext C) (by show tks.length<=_;omega)
  have q':c.2.2.2.2.1=true:=by
    have A:(!c.2.2.2.2.1)=false:=q;simpa using A
  have aq:∀h' t' l x,ZgL (Zxy G c) (ofK G.r 4 c.2.1) (tks,wt)=x->WkR h' base wb L c sl gr x.2.1 x.2.2 t' l->WS wb t t' h h'->x.2.1.length<=tks.length+256->K (x.1.getD 0) x.1.isSome h':=λh' t' l x hx=>I h' t' l x (by unfold ZE5;rw[if_pos q'];exact hx);have w1:=(W.ext C).w;have y1:=(hE.ext C).cells;refine rP (Zb c1 rfl) (Zg (rP (Zb w1 rfl) (Zg (rP (Zb y1 rfl) (Zma (hE.ext C).tree (k:=Zmh) λh2 p e2 f2=>?_)))));have N:∀{d:Zf},Ext h1 d->ZA 0 (obj d (sz h))=some (.pointer (some ⟨wb,0,none⟩))/\ZA 1 (obj d wb)=some (iv c.1)/\ZA 0 (obj d wb)=some (.pointer (some ⟨L.eb,0,none⟩)):=λ{d} e=>⟨Zb (Zj c1 e) rfl,Zb (Zj w1 e) rfl,Zb (Zj w1 e) rfl⟩;obtain⟨a2,b2,_⟩:=N e2;refine rP a2 (Zg (rI b2 (ZgK f2 λh3 e3=>ZH λh4 c4 e4 z4=>Zaw c4 λh5 c5 u5 z5=>Za ?_)));have B:Ext h2 h5:=(e3.trans e4).then u5 λk I=>by subst I;exact e3.size
  obtain⟨a5,b5,_⟩:=N (e2.trans B);refine rP a5 (Zg (rI b5 (Classical.choose_spec (ZuE (G.t.f Zmh) c.1) (f2.ext B) λx6 h6 e6=>Za (Za ?_))));obtain⟨a6,b6,_⟩:=N (e2.trans (B.trans e6));refine rP a6 (Zg (rI b6 (Zty (f2.ext (B.trans e6)) λx7 h7 e7=>Za (Za ?_))));have O:=(B.trans e6).trans e7;obtain⟨a7,b7,_⟩:=N (e2.trans O);refine rP a7 (Zg (rI b7 (Zr8 (f2.ext O) λx8 A e8=>Za (Za ?_))));have P:=O.trans e8;have v:=e2.trans P;have c8:=Zj c5 ((e6.trans e7).trans e8);refine ZkM (λ(s:Option Addr×Unit) d=>∃F,s.1=some ⟨F,0,none⟩/\obj d F=some (.cells (ZGv (ZGu G c)).toArray 243 (0,0))/\Ext A d/\sz A<=F) ?_ ?_
  ·rintro ⟨s,u⟩ M ⟨F,hs,cn,J,aZ⟩;dsimp only at hs⊢;subst hs;have S:=v.trans J;have U:=C.trans S;obtain⟨a9,b9,_⟩:=N S;refine rP a9 ?_;show ZC ZaO (λi a=>Xx i a (some ⟨F,0,none⟩)) (some ⟨wb,0,none⟩) 4 (some ⟨sz h,0,none⟩,()) _ M;have bc:sz h<=sz A:=(C.trans v).size;have ai:∀b,t.blk=some b->b<sz h:=λb ar=>(W.o.lt ar).2;refine ZqA (f:=Zxy G c) (R:=λd=>obj d F=some (.cells (ZGv (ZGu G c)).toArray 243 (0,0))) (hE.ext U) ok hb (W.ext U) hn (Zj c1 S) (show sz h≠wb by omega) (λe=>by have:sz h<sz h:=ai _ e;omega) (λhq=>(hq F (Zp cn) (show F≠wb by omega) (λe=>by have:=ai _ e;omega)).trans cn) (λk=>Aye _) ?_ λh' t' l x hw Z s hl=>aq h' t' l x hw Z (WS.pre U s) hl;intro k au d aC wt' t' l Q E' Z m hl cb bg aj;obtain⟨j,f,hj,hf⟩:=Zku (show k∈ofL (λ_:Zav=>c.2.1) c.2.1 G.r.sy 0 from au);rw[Awb]at hj;subst hj;show Xx (j:Int) (some ⟨sz h,0,none⟩) (some ⟨F,0,none⟩) Q d;unfold Xx Zb9;obtain⟨bb,oo,_,_,ak,hc⟩:=Za5 (g:=Rw.ZgQ) (n:=5) (λ_=>rfl) E'.rz.sy.1 hf (by decide);refine Zg (rP (Zb cb rfl) (Zg (rP (Zb Z.w rfl) (Zg (rL (s:=L.z.2.2.2.1) (Zb E'.cells rfl) (ak rfl (rI (hc 0 _ rfl) (rI (hc 1 _ rfl) (rI (hc 2 _ rfl) (rI (hc 3 _ rfl) (rI (hc 4 _ rfl) (Zg (rP (Zb cb rfl) (Zg (rI (Zb Z.w rfl) ?_)))))))))))))));refine Zg (rI (Zb m rfl) (rI (Zb m rfl) (rI (Zb m rfl) (rI (Zb m rfl) (rI (Zb m rfl) (rI (Zb m rfl) (rI (Zb m rfl) ?_)))))));refine Classical.choose_spec (ZpC (Rw.ZpX f) c.2.2.2.2.2 (ZGu G c)) λV y=>⟨ZR (Zb (Zj cb y) rfl),ZR (Zb (E'.ext y).cells rfl),ZR (Zb (Z.ext y).w rfl),ZR (Zb (Zj cb y) rfl),Zd ?_⟩
   have e:Zxy G c (j:Int)=⟨!gsV (Rw.ZpX f) c.2.2.2.2.2 (ZGu G c),[],none⟩:=by
     unfold Zxy;rw[Aqu,hf]
   have fin:=aj V t' l (by rw[e,Ayr];exact Z.ext y) (WS.ext y);rw[e]at fin;exact fin
  ·intro Q hQ;obtain⟨a8,b8,d8⟩:=N v;have y8:=(hE.ext (C.trans v)).cells
   have H:∀d,Ext A d->Zm d [(L.eb,0+14,iv G.cp)]/\Zm d [(wb,0,.pointer (some ⟨L.eb,0,none⟩))]/\Zm d [(sz h,0,.pointer (some ⟨wb,0,none⟩))]/\Zm d [(L.eb,0+13,iv G.ld)]/\Zm d [(sz h3,0,iv (Zsg (G.t.f Zmh) c.1).1)]:=λd e=>by
     obtain⟨a9,b9,d9⟩:=N (v.trans e);have y9:=(hE.ext (C.trans (v.trans e))).cells;exact⟨ZR (Zb y9 rfl),ZR d9,ZR a9,ZR (Zb y9 rfl),ZR (Zb (Zj c8 e) rfl)⟩
   refine rI (Zb c8 rfl) (rP a8 (Zg (rP d8 (Zg (rI (Zb y8 rfl) (rP a8 (Zg (rP d8 (Zg (rI (Zb y8 rfl) ⟨?_,?_⟩))))))))))
   ·obtain⟨g1,D,E,g4,g5⟩:=H A (Ext.refl _);refine ZhD (f2.ext P) ⟨g1,D,E,g4,D,E,g5,ZH λM c9 J z9=>?_⟩;obtain⟨g1,D,E,g4,g5⟩:=H M J;exact⟨g1,D,E,g4,D,E,g5,Zaw c9 λV X Y ax=>hQ _ _ ⟨sz A,rfl,X,J.then Y (λk I=>by subst I;exact Aqo _),Aqo _⟩⟩
   ·refine ZH λM c9 J z9=>?_;obtain⟨g1,D,E,g4,g5⟩:=H M J;exact⟨g1,D,E,g4,D,E,g5,ZhD (f2.ext (P.trans J)) ⟨g1,D,E,g4,D,E,g5,Zaw c9 λV X Y ax=>hQ _ _ ⟨sz A,rfl,X,J.then Y (λk I=>by subst I;exact Aqo _),Aqo _⟩⟩⟩
end
end Go.Proofs.YtonbfpnngkemiaaGreat
