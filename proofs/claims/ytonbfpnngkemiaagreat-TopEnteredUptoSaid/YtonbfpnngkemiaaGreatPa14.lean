/- Copies of rules: hots and lists, each with rows of its own. -/
import Derived.Test.YtonbfpnngkemiaaGreatPa13
set_option linter.unusedVariables false
set_option linter.unusedSimpArgs false
namespace Go.Proofs.YtonbfpnngkemiaaGreat
open Go Go.Fw Go.Js
abbrev R5o(a b c d e:Sl):Obj:=.cells [slV a,slV b,slV c,slV d,slV e].toArray 39 (0,0)
abbrev sl0:Sl:=⟨none,0,0⟩
theorem Zqu(p:Sl×Zen):(Rw.Zlf p).length=5:=rfl
theorem ZAS(p:Sl×Zen):(Rw.Zlf p).all Zr=true:=by simp[Rw.Zlf,Rw.i64,Rw.sV,Zdl,Zkt,Zbf]
theorem Zdj{h h':Zf}{x:Sl}{n:Nat}{vs:List Value}(r:Row h x n vs){B:Nat}(c:x.len≠0->x.blk≠some B)(u:Upd (· = B) h h'):Row h' x n vs:=
  Rw.Zhn (S:=(· ≠ B)) r (λa b e d=>c a (d▸e)) λb hs hl=>u.old b hl hs
theorem ZAR{h:Zf}{m:Nat}{x s5 s7 s9:Sl}{s:List (Sl×Zen)}(hr:Row h x 5 (s.flatMap Rw.Zlf))(hi:∀p,p∈s->Row h p.1 2 (Rw.Zhk p.2.items)/\p.2.items.length<=1000000/\(p.1.len≠0->p.1.blk≠some m))(hl:s.length<=1000000)(hx:x.len≠0->x.blk≠some m)
    (c:obj h m=some (R5o s5 s7 sl0 s9 sl0)) {J:Zf->Prop}
    (hJ:∀(h':Zf) (t:Sl) (a:List (Sl×Zen)),a.map (·.2)=s.map (·.2)->Row h' t 5 (a.flatMap Rw.Zlf)->(∀b,t.blk=some b->sz h<=b/\b<sz h')->(∀p,p∈a->Row h' p.1 2 (Rw.Zhk p.2.items)/\∀b,p.1.blk=some b->sz h<=b/\b<sz h')->obj h' m=some (R5o s5 s7 t s9 sl0)->Upd (· = m) h h'->J h'):
    Yl (σ:=Int×Unit) (λaa ae n=>(λ(C:Int)=>
     Zl (decide (C<(x.len:Int))) (
     YI x.ptr x.len C 5 λy z=>ldS n y z λt37=>ldI n y (z+1) .i64 λt38=>ldI n y (z+2) .i64 λt39=>ldI n y (z+3) .i64 λt40=>ldL n y (z+4) λt41=>
     newC n [.string (ByteArray.mk #[]),iv 0,iv 0,iv 0,.slice none 0 0] 72 λj af=>sts af j 0 [.string t37,iv t38,iv t39,iv t40,.slice t41.ptr t41.len t41.cap] λK=>
     ldL K j (0+4) λt45=>Z3 t45 (λt46 ag=>st ag j (0+4) (.slice t46.ptr t46.len t46.cap) λr=>ldL r m (0+2) λt49=>
     ldS r j 0 λt50=>ldI r j (0+1) .i64 λt51=>ldI r j (0+2) .i64 λt52=>ldI r j (0+3) .i64 λt53=>ldL r j (0+4) λt54=>
     newC r [.string t50,iv t51,iv t52,iv t53,.slice t54.ptr t54.len t54.cap] 72 λah L=>
     rdS ⟨some ⟨ah,0,none⟩,1,1⟩ 5 L λD=>app 72 5 64 [.string (ByteArray.mk #[]),iv 0,iv 0,iv 0,.slice none 0 0] t49 1 D L λt57 ai=>
     st ai m (0+2) (.slice t57.ptr t57.len t57.cap) λaj=>aa (IntKind.wrap .i64 (C+1),()) aj) K) (J n)) ae.1) (0,()) h:=by
  have aL:=Zal Zqu hr (by decide);have lB:=Zp c
  refine ZaE (λ(st:Int×Unit) f=>∃(i:Nat) (t:Sl) (a:List (Sl×Zen)),st=((i:Int),())/\i<=s.length/\a.map (·.2)=(s.take i).map (·.2)/\Own f (sz h) t 5 (a.flatMap Rw.Zlf)/\(∀p,p∈a->Row f p.1 2 (Rw.Zhk p.2.items)/\∀b,p.1.blk=some b->sz h<=b/\b<sz f/\t.blk≠some b)/\obj f m=some (R5o s5 s7 t s9 sl0)/\Upd (· = m) h f) (λst _=>(s.length- st.1).toNat)
    ⟨0,sl0,[],rfl,Aye _,rfl,Own.nil _ _ _,(λp s=>by cases s),c,Upd.refl _ _⟩ ?_
  rintro _ f ⟨i,t,a,rfl,aM,hm,ho,A,cB,u⟩ Q hQ;dsimp only;refine Zo (λq=>?_) λq=>?_
  ·obtain ⟨p,E⟩:∃p,s[i]?=some p:=⟨_,Axy (by omega)⟩
   obtain⟨r1,r2,r3⟩:=hi p (Axo E);have hlen:a.length=i:=by have:=congrArg List.length hm;simp at this;omega
   have aR:=Zal Zqu ho.row (by decide);have ak:sz h<=sz f:=u.size;obtain⟨b,o,_,_,M,d⟩:=Za5 Zqu (Zdj hr hx u) E (by decide);refine M rfl (rS (d 0 _ rfl) (rI (d 1 _ rfl) (rI (d 2 _ rfl) (rI (d 3 _ rfl) (rL (d 4 _ rfl) (ZH λh3 c3 e3 z3=>Zaw c3 λF c4 u4 z4=>rL (Zb c4 rfl) ?_))))));have e4:Ext f F:=e3.then u4 λk v=>by subst v;exact Aqo _
   have an:Upd (· = m) h F:=u.trans (e4.upd _);refine Zmj (l:=p.2.items.map ZHS) (by rw[Zqn];exact Zdj r1 r3 an) (by rw[Ayt];exact r2) λt5 V o5 W=>?_;rw[Zqn]at o5;have aV:sz h3=sz f+1:=z3;have aW:sz F=sz h3:=z4;have aX:sz F<=sz V:=W.size;have aY:f.size=sz f:=rfl;have aZ:F.size=sz F:=rfl;have ba:m<sz f:=Aqq lB ak;refine Zbs (Zj c4 W) (show 0+4<5 by decide) Zbf λX N u6 z6=>?_;have O:=YW (Zj (Zj cB e4) W) u6 (by show ¬m=f.size;omega);refine rL (Zb O rfl) (rS (Zb N rfl) (rI (Zb N rfl) (rI (Zb N rfl) (rI (Zb N rfl) (rL (Zb N rfl) (ZH λw c7 e7 z7=>?_))))));have bf:sz X=sz V:=z6;have bg:sz w=sz X+1:=z7;have G:Ext f w:=((e4.trans W).then u6 λk v=>by subst v;exact Aqo _).trans e7;have P:Row w ⟨some ⟨X.size,0,none⟩,1,1⟩ 5 (Rw.Zlf (t5,p.2)):=Zje c7 rfl;have au:=ho.congr (h':=w) λk v _ _=>G.old k (ho.lt v).2;refine P.rd (Own.app au rfl (ZAS _) rfl (by omega) (by omega) (by show sz h<=sz w;omega) λt8 Y o8 l8 u8 b8=>?_);have tB:t.blk≠some m:=λe=>by have:=(ho.lt e).1;omega
   have av:=YW (Zj O e7) u8 tB;refine Zbs av (show 0+2<5 by decide) Zbf λB c9 u9 z9=>?_;rw[wrS (show i<s.length by omega) (by omega)];have aE:w.size=sz w:=rfl
   have H:∀b,t8.blk=some b->t.blk=some b\/b=sz w:=λb hb=>by
     rcases b8 with e|e
     ·exact .inl (e▸hb)
     ·rw[e]at hb;cases hb;exact .inr rfl
   have ay:t8.blk≠some m:=λe=>by
     rcases H _ e with e|e
     ·exact tB e
     ·omega
   have o9:Own B (sz h) t8 5 ((a++[(t5,p.2)]).flatMap Rw.Zlf):=by
     rw[Ayj];have:=o8.congr (h':=B) λk v I _=>u9.old k I λe=>ay (e▸v);simpa using this
   have b8:sz w<=sz Y:=u8.size;have bm:sz B=sz Y:=z9;have aF:sz f<=sz w:=G.size
   have old:∀k,k<sz f->k≠m->t.blk≠some k->obj B k=obj f k:=λk v Z ht=>by
     show B[k]?=f[k]?;rw[u9.old k (by show k<sz Y;omega) Z,u8.old k (by show k<sz w;omega) ht,G.old k v]
   have R:Upd (· = m) h B:=⟨by show sz h<=sz B;omega,λk v Z=>by
     have bo:k<sz h:=v;have:=old k (by omega) Z λe=>by have:=(ho.lt e).1;omega
     rw[show B[k]?=f[k]? from this,u.old k v Z]⟩
   refine hQ _ _ ⟨i+1,t8,a++[(t5,p.2)],rfl,by omega,?_,o9,λp' g=>?_,c9,R⟩ (by show((s.length:Int)- ((i+1:Nat):Int)).toNat<((s.length:Int)- ((i:Nat):Int)).toNat;omega)
   ·rw[Ayk,E,Ayu,Ayu,hm];rfl
   ·rcases Axx.1 g with g|g
    ·obtain ⟨q1,q2⟩:=A p' g;refine⟨Rw.Zhn (S:=λb=>sz h<=b/\b<sz f/\t.blk≠some b) q1 (λ_ b e=>q2 b e) λb hs I=>old b I (by omega) hs.2.2,λb e=>?_⟩;obtain⟨w1,w2,w3⟩:=q2 b e;refine⟨w1,by omega,λT=>?_⟩
     rcases H _ T with U|U
     ·exact w3 U
     ·omega
    ·simp at g;subst g;dsimp only;have bl:∀b,t5.blk=some b->sz F<=b/\b<sz V:=λb e=>o5.lt e;have tn:∀b,t.blk=some b->b<sz f:=λb e=>(ho.lt e).2;refine⟨(o5.congr (h':=B) λb e _ _=>?_).row,λb e=>?_⟩
     ·have:=bl b e;rw[u9.old b (by show b<sz Y;omega) (by omega),u8.old b (by show b<sz w;omega) (λT=>by have:=tn b T;omega),e7.old b (by show b<sz X;omega),u6.old b (by show b<sz V;omega) (by omega)]
     ·have:=bl b e;refine⟨by omega,by omega,λT=>?_⟩
      rcases H _ T with U|U
      ·have:=tn b U;omega
      ·omega
  ·refine hJ f t a ?_ ho.row (λb e=>ho.lt e) (λp g=>⟨(A p g).1,λb e=>⟨((A p g).2 b e).1,((A p g).2 b e).2.1⟩⟩) cB u;rw[hm,Awd (by omega)]
theorem Znt(p:Sl×Zbt):(Rw.Zix p).length=3:=rfl
theorem ZxB(p:Sl×Zbt):(Rw.Zix p).all Zr=true:=by simp[Rw.Zix,Rw.sV,Zqh,Zkt,Zbf]
theorem ZpZ{h:Zf}{s:Sl}{l:List BL}(hs:Row h s 1 (l.map Rw.sV))(hl:l.length<=1000000){K:Sl->Zf->Prop}
    (i:∀t h',Own h' h.size t 1 (l.map Rw.sV)->Ext h h'->K t h'):YO s K h:=by
  unfold YO X1;have d:s.len=l.length:=by have:=hs.len;simp at this;omega
  refine⟨λq=>?_,λq=>?_⟩
  ·rcases hs.at_ with h0|⟨b,o,j,r⟩
   ·have:l=[]:=Aqr (by omega);subst this;exact i _ _ (Own.nil _ _ _) (Ext.refl h)
   ·rw[j]at q;cases q
  ·rw [Zir];have e:Ext h (h.push (.cells ([]:List Value).toArray 9 (0,0))):=Ext.push _ _;refine(hs.ext e).rd ?_;have ho:Own (h.push (.cells ([]:List Value).toArray 9 (0,0))) h.size ⟨some ⟨sz h,0,none⟩,0,0⟩ 1 []:=⟨rfl,Aqo _,(by show 0<9223372036854775808;decide),.inr ⟨sz h,#[],9,rfl,Aqo _,Zc2,rfl,rfl⟩⟩
   have a:(l.map Rw.sV).all Zr=true:=by
     rw[Axb];intro v hv;obtain⟨t,_,rfl⟩:=Ayv.1 hv;exact Zkt
   refine Own.app ho (by rw[Ayt,d];omega) a rfl (by show(0+s.len)*16<=140737488355328;omega) (by show 0+s.len<=140737488355328;omega) (show h.size<=_ from e.size) λt m f n g p=>?_;refine i t m ?_ (e.then g λk c=>?_)
   ·simpa using f
   ·simp[Sl.blk]at c;rw[YJ,<-c];exact Aqo _
theorem Zxz{h:Zf}{g:Nat}{x s5 s7 s8 s9:Sl}{m:List (Sl×Zbt)}(hr:Row h x 3 (m.flatMap Rw.Zix))(hi:∀p,p∈m->Row h p.1 1 (p.2.origins.map Rw.sV)/\p.2.origins.length<=1000000/\(p.1.len≠0->p.1.blk≠some g))(hl:m.length<=1000000)(hx:x.len≠0->x.blk≠some g)
    (c:obj h g=some (R5o s5 s7 s8 s9 sl0)) {J:Zf->Prop}
    (hJ:∀(h':Zf) (t:Sl) (a:List (Sl×Zbt)),a.map (·.2)=m.map (·.2)->Row h' t 3 (a.flatMap Rw.Zix)->(∀b,t.blk=some b->sz h<=b/\b<sz h')->(∀p,p∈a->Row h' p.1 1 (p.2.origins.map Rw.sV)/\∀b,p.1.blk=some b->sz h<=b/\b<sz h')->obj h' g=some (R5o s5 s7 s8 s9 t)->Upd (· = g) h h'->J h'):
    Yl (σ:=Int×Unit) (λZ aa v=>(λ(A:Int)=>
     Zl (decide (A<(x.len:Int))) (
     YI x.ptr x.len A 3 λB C=>ldS v B C λt67=>ldB v B (C+1) λt68=>ldL v B (C+2) λt69=>
     newC v [.string (ByteArray.mk #[]),.bool false,.slice none 0 0] 147 λn ae=>sts ae n 0 [.string t67,.bool t68,.slice t69.ptr t69.len t69.cap] λK=>
     ldL K n (0+2) λt73=>YO t73 (λt74 af=>st af n (0+2) (.slice t74.ptr t74.len t74.cap) λw=>ldL w g (0+4) λt77=>
     ldS w n 0 λt78=>ldB w n (0+1) λt79=>ldL w n (0+2) λt80=>
     newC w [.string t78,.bool t79,.slice t80.ptr t80.len t80.cap] 147 λag L=>
     rdS ⟨some ⟨ag,0,none⟩,1,1⟩ 3 L λD=>app 147 3 48 [.string (ByteArray.mk #[]),.bool false,.slice none 0 0] t77 1 D L λt83 ah=>
     st ah g (0+4) (.slice t83.ptr t83.len t83.cap) λai=>Z (IntKind.wrap .i64 (A+1),()) ai) K) (J v)) aa.1) (0,()) h:=by
  have aL:=Zal Znt hr (by decide);have lB:=Zp c
  refine ZaE (λ(st:Int×Unit) d=>∃(i:Nat) (t:Sl) (a:List (Sl×Zbt)),st=((i:Int),())/\i<=m.length/\a.map (·.2)=(m.take i).map (·.2)/\Own d (sz h) t 3 (a.flatMap Rw.Zix)/\(∀p,p∈a->Row d p.1 1 (p.2.origins.map Rw.sV)/\∀b,p.1.blk=some b->sz h<=b/\b<sz d/\t.blk≠some b)/\obj d g=some (R5o s5 s7 s8 s9 t)/\Upd (· = g) h d) (λst _=>(m.length- st.1).toNat)
    ⟨0,sl0,[],rfl,Aye _,rfl,Own.nil _ _ _,(λp m=>by cases m),c,Upd.refl _ _⟩ ?_
  rintro _ d ⟨i,t,a,rfl,aM,hm,ho,y,cB,u⟩ Q hQ;dsimp only;refine Zo (λq=>?_) λq=>?_
  ·obtain ⟨p,E⟩:∃p,m[i]?=some p:=⟨_,Axy (by omega)⟩
   obtain⟨r1,r2,r3⟩:=hi p (Axo E);have hlen:a.length=i:=by have:=congrArg List.length hm;simp at this;omega
   have aR:=Zal Znt ho.row (by decide);have aj:sz h<=sz d:=u.size;obtain⟨b,o,_,_,M,j⟩:=Za5 Znt (Zdj hr hx u) E (by decide);refine M rfl (rS (j 0 _ rfl) (rB (j 1 _ rfl) (rL (j 2 _ rfl) (ZH λh3 c3 e3 z3=>Zaw c3 λF c4 u4 z4=>rL (Zb c4 rfl) ?_))));have e4:Ext d F:=e3.then u4 λk r=>by subst r;exact Aqo _
   have al:Upd (· = g) h F:=u.trans (e4.upd _);refine ZpZ (l:=p.2.origins) (Zdj r1 r3 al) r2 λt5 U o5 V=>?_;have aV:sz h3=sz d+1:=z3;have aW:sz F=sz h3:=z4;have aX:sz F<=sz U:=V.size;have aY:d.size=sz d:=rfl;have aZ:F.size=sz F:=rfl;have ba:g<sz d:=Aqq lB aj;refine Zbs (Zj c4 V) (show 0+2<3 by decide) Zbf λW c6 u6 z6=>?_;have N:=YW (Zj (Zj cB e4) V) u6 (by show ¬g=d.size;omega);refine rL (Zb N rfl) (rS (Zb c6 rfl) (rB (Zb c6 rfl) (rL (Zb c6 rfl) (ZH λs c7 e7 z7=>?_))));have bf:sz W=sz U:=z6;have bg:sz s=sz W+1:=z7;have G:Ext d s:=((e4.trans V).then u6 λk r=>by subst r;exact Aqo _).trans e7;have O:Row s ⟨some ⟨W.size,0,none⟩,1,1⟩ 3 (Rw.Zix (t5,p.2)):=Zje c7 rfl;have ar:=ho.congr (h':=s) λk r _ _=>G.old k (ho.lt r).2;refine O.rd (Own.app ar rfl (ZxB _) rfl (by omega) (by omega) (by show sz h<=sz s;omega) λt8 X o8 l8 u8 b8=>?_);have tB:t.blk≠some g:=λe=>by have:=(ho.lt e).1;omega
   have au:=YW (Zj N e7) u8 tB;refine Zbs au (show 0+4<5 by decide) Zbf λz c9 u9 z9=>?_;rw[wrS (show i<m.length by omega) (by omega)];have aE:s.size=sz s:=rfl
   have H:∀b,t8.blk=some b->t.blk=some b\/b=sz s:=λb hb=>by
     rcases b8 with e|e
     ·exact .inl (e▸hb)
     ·rw[e]at hb;cases hb;exact .inr rfl
   have ax:t8.blk≠some g:=λe=>by
     rcases H _ e with e|e
     ·exact tB e
     ·omega
   have o9:Own z (sz h) t8 3 ((a++[(t5,p.2)]).flatMap Rw.Zix):=by
     rw[Ayj];have:=o8.congr (h':=z) λk r I _=>u9.old k I λe=>ax (e▸r);simpa using this
   have b8:sz s<=sz X:=u8.size;have bm:sz z=sz X:=z9;have aF:sz d<=sz s:=G.size
   have old:∀k,k<sz d->k≠g->t.blk≠some k->obj z k=obj d k:=λk r Y ht=>by
     show z[k]?=d[k]?;rw[u9.old k (by show k<sz X;omega) Y,u8.old k (by show k<sz s;omega) ht,G.old k r]
   have P:Upd (· = g) h z:=⟨by show sz h<=sz z;omega,λk r Y=>by
     have bo:k<sz h:=r;have:=old k (by omega) Y λe=>by have:=(ho.lt e).1;omega
     rw[show z[k]?=d[k]? from this,u.old k r Y]⟩
   refine hQ _ _ ⟨i+1,t8,a++[(t5,p.2)],rfl,by omega,?_,o9,λp' f=>?_,c9,P⟩ (by show((m.length:Int)- ((i+1:Nat):Int)).toNat<((m.length:Int)- ((i:Nat):Int)).toNat;omega)
   ·rw[Ayk,E,Ayu,Ayu,hm];rfl
   ·rcases Axx.1 f with f|f
    ·obtain ⟨q1,q2⟩:=y p' f;refine⟨Rw.Zhn (S:=λb=>sz h<=b/\b<sz d/\t.blk≠some b) q1 (λ_ b e=>q2 b e) λb hs I=>old b I (by omega) hs.2.2,λb e=>?_⟩;obtain⟨w1,w2,w3⟩:=q2 b e;refine⟨w1,by omega,λR=>?_⟩
     rcases H _ R with T|T
     ·exact w3 T
     ·omega
    ·simp at f;subst f;dsimp only;have bl:∀b,t5.blk=some b->sz F<=b/\b<sz U:=λb e=>o5.lt e;have tn:∀b,t.blk=some b->b<sz d:=λb e=>(ho.lt e).2;refine⟨(o5.congr (h':=z) λb e _ _=>?_).row,λb e=>?_⟩
     ·have:=bl b e;rw[u9.old b (by show b<sz X;omega) (by omega),u8.old b (by show b<sz s;omega) (λR=>by have:=tn b R;omega),e7.old b (by show b<sz W;omega),u6.old b (by show b<sz U;omega) (by omega)]
     ·have:=bl b e;refine⟨by omega,by omega,λR=>?_⟩
      rcases H _ R with T|T
      ·have:=tn b T;omega
      ·omega
  ·refine hJ d t a ?_ ho.row (λb e=>ho.lt e) (λp f=>⟨(y p f).1,λb e=>⟨((y p f).2 b e).1,((y p f).2 b e).2.1⟩⟩) cB u;rw[hm,Awd (by omega)]
abbrev ZBR(a b:Nat):Nat->Prop:=λj=>a<=j/\j<b
structure ZvZ(r:RulesP):Prop where
  f:r.fl.length<=256
  b:r.br.length<=256
  h:r.ho.length<=256
  s:r.sy.length<=256
  l:r.li.length<=256
  hi:∀f,f∈r.ho->f.items.length<=1000000
  lo:∀f,f∈r.li->f.origins.length<=1000000
theorem Zyw{α:Type}{g:α->List Value}(b:∀a,(g a).all Zr=true)(l:List α):(l.flatMap g).all Zr=true:=by rw[Axb];intro v hv;obtain⟨t,_,hv⟩:=List.mem_flatMap.1 hv;exact Axb.1 (b t) v hv
theorem Zx5(f:FlowP):(Rw.Ze9 f).all Zr=true:=by simp[Rw.Ze9,Rw.sV,Rw.i64,Rw.i8,Zqh,Zkt,Zdl]
theorem ZvP(f:YN):(Rw.Zdh f).all Zr=true:=by simp[Rw.Zdh,Rw.sV,Rw.i64,Rw.i8,Zkt,Zdl]
theorem ZsK(f:Zav):(Rw.ZgQ f).all Zr=true:=by simp[Rw.ZgQ,Rw.i64,Zdl]
theorem Zi7{h h':Zf}{S:Nat->Prop}{x:Sl}{n:Nat}{vs:List Value}(r:Row h x n vs/\Rw.inS S x)(a:∀b,S b->b<sz h)(e:Ext h h'):Row h' x n vs/\∀B,sz h<=B->x.len≠0->x.blk≠some B:=
  ⟨r.1.ext e,λB f c d=>by have:=a B (r.2 c B d);omega⟩
theorem ZHh{h:Zf}{S:Nat->Prop}{z:Rw.VTR}{r:RulesP}(G:Rw.YY h S z r)(M:∀b,S b->b<sz h)(hl:ZvZ r){s:Sl}(hs:Row h s 5 [slV z.1,slV z.2.1,slV z.2.2.1,slV z.2.2.2.1,slV z.2.2.2.2.1]){K:Rw.VTR->Zf->Prop}
    (a:∀h' z',Ext h h'->Rw.YY h' (ZBR (sz h) (sz h')) z' r->K z' h'):Zhr s K h:=by
  unfold Zhr ZjH;have N:s.len=1:=by have:=hs.len;simp at this;omega
  obtain⟨hp,O,ax,ay⟩:=G.ho;obtain⟨lp,P,az,aA⟩:=G.li;have n1:=Zal (g:=Rw.Ze9) (n:=12) (λ_=>rfl) G.fl.1 (by decide);have n2:=Zal (g:=Rw.Zdh) (n:=7) (λ_=>rfl) G.br.1 (by decide);have n4:=Zal (g:=Rw.ZgQ) (n:=5) (λ_=>rfl) G.sy.1 (by decide);have l1:=hl.f;have l2:=hl.b;have l4:=hl.s;refine ZH λh1 c1 e1 z1=>ZH λh2 c2 e2 z2=>?_;have R:=e1.trans e2;have w0:sz h1=sz h+1:=z1;have w2:sz h2=sz h1+1:=z2;refine ZaE (λ(p:Int×Unit) j=>Upd (· = sz h1) h1 j/\((p=(0,())/\j=h2)\/(p.1=1/\∃z':Rw.VTR,obj j (sz h1)=some (R5o z'.1 z'.2.1 z'.2.2.1 z'.2.2.2.1 z'.2.2.2.2.1)/\Rw.YY j (ZBR (sz h1+1) (sz j)) z' r))) (λp _=>(1-p.1).toNat) ⟨e2.upd _,.inl ⟨rfl,rfl⟩⟩ ?_;rintro⟨i,u⟩ j ⟨he,⟨A,aC⟩ |⟨A,z',cr,aD⟩⟩ Q hQ
  ·injection A with A _
   subst A;subst aC;dsimp only;rw[N];obtain⟨b,o,bz,bA,af,hc⟩:=Za5 (α:=Rw.VTR) (g:=λz=>[slV z.1,slV z.2.1,slV z.2.2.1,slV z.2.2.2.1,slV z.2.2.2.2.1]) (n:=5) (λ_=>rfl) (l:=[z]) (by simpa using hs.ext R) (i:=0) rfl (by decide);have T:∀{K:Nat->Nat->Prop},K b o->YI s.ptr 1 0 5 K:=λ{K} a=>by have:=af (K:=K) (m:=0) rfl a;rwa[N]at this
   refine Zn rfl (T (rL (hc 0 _ rfl) (rL (hc 1 _ rfl) (rL (hc 2 _ rfl) (rL (hc 3 _ rfl) (rL (hc 4 _ rfl) (ZH λh3 U e3 z3=>Zaw U λB c4 u4 z4=>?_)))))));have e4:Ext j B:=e3.then u4 λk a=>by subst a;exact Aqo _
   have w4:sz B=sz j+1:=by have:h3.size=j.size+1:=z3;simp only[YJ]at this;omega
   have x4:=Zj c2 e4;have F:¬sz j=sz h1:=by omega
   have c:sz h1<sz B:=by omega
   have aE:=(Zi7 G.fl M (R.trans e4));refine rL (s:=sl0) (Zb x4 rfl) (rL (s:=z.1) (Zb c4 rfl) (aE.1.rd ?_));refine(Own.nil B (sz B) 12).app (n:=z.1.len) (by rw[YM (n:=12) λ_=>rfl,n1]) (Zyw Zx5 _) rfl (show(0+z.1.len)*120<=140737488355328 by omega) (show 0+z.1.len<=140737488355328 by omega) (Aqo _) λs5 h5 o5 _ u5 _=>?_;have e5:Ext B h5:=u5.ext λk _ a=>by cases a
   refine Zbs (Zj x4 e5) (show 0<5 by decide) Zbf λH x6 u6 z6=>?_;have w5:sz B<=sz h5:=e5.size;have E6:Ext h H:=((R.trans e4).trans e5).then u6 λk a=>by subst a;exact e1.size
   have aF:Ext h1 H:=((e2.trans e4).trans e5).then u6 λk a=>by subst a;exact Aqo _
   have c6:obj H (sz j)=_:=(u6.old (sz j) (show sz j<sz h5 by omega) F).trans (Zj c4 e5);have o6:=ZtY o5 u6 c;refine rL (s:=sl0) (Zb x6 rfl) (rL (s:=z.2.1) (Zb c6 rfl) ((Zi7 G.br M E6).1.rd ?_));refine(Own.nil H (sz B) 7).app (n:=z.2.1.len) (by rw[YM (n:=7) λ_=>rfl,n2]) (Zyw ZvP _) rfl (show(0+z.2.1.len)*64<=140737488355328 by omega) (show 0+z.2.1.len<=140737488355328 by omega) (by show sz B<=sz H;omega) λs7 h7 o7 _ u7 _=>?_;have Z:Ext H h7:=u7.ext λk _ a=>by cases a
   refine Zbs (Zj x6 Z) (show 0+1<5 by decide) Zbf λI x8 u8 z8=>?_;have w7:sz H<=sz h7:=Z.size;have E8:Ext h I:=(E6.trans Z).then u8 λk a=>by subst a;exact e1.size
   have aG:Ext h1 I:=(aF.trans Z).then u8 λk a=>by subst a;exact Aqo _
   have c8:obj I (sz j)=_:=(u8.old (sz j) (show sz j<sz h7 by omega) F).trans (Zj c6 Z);have o8:=ZtY (Zxh o6 Z) u8 c;have aH:=ZtY o7 u8 c;refine rL (s:=sl0) (Zb x8 rfl) (rL (s:=z.2.2.2.1) (Zb c8 rfl) ((Zi7 G.sy M E8).1.rd ?_));refine(Own.nil I (sz B) 5).app (n:=z.2.2.2.1.len) (by rw[YM (n:=5) λ_=>rfl,n4]) (Zyw ZsK _) rfl (show(0+z.2.2.2.1.len)*40<=140737488355328 by omega) (show 0+z.2.2.2.1.len<=140737488355328 by omega) (by show sz B<=sz I;omega) λs9 V o9 _ u9 _=>?_;have W:Ext I V:=u9.ext λk _ a=>by cases a
   refine Zbs (Zj x8 W) (show 0+3<5 by decide) Zbf λq aI C aJ=>?_;have w9:sz I<=sz V:=W.size;have X:Ext h q:=(E8.trans W).then C λk a=>by subst a;exact e1.size
   have ai:Ext h1 q:=(aG.trans W).then C λk a=>by subst a;exact Aqo _
   have aj:obj q (sz j)=_:=(C.old (sz j) (show sz j<sz V by omega) F).trans (Zj c8 W);have p1:=ZtY (Zxh o8 W) C c;have p2:=ZtY (Zxh aH W) C c;have p3:=ZtY o9 C c;have w6:sz H=sz h5:=z6;have w8:sz I=sz h7:=z8;have bP:sz q=sz V:=aJ;have lh:=hl.h;have ll:=hl.l
   have aK:hp.length<=1000000:=by have:hp.length=r.ho.length:=by rw[<-O,Ayt]
                                  omega
   have aL:lp.length<=1000000:=by have:lp.length=r.li.length:=by rw[<-P,Ayt]
                                  omega
   have J:=Zi7 ax M X;refine rL (s:=z.2.2.1) (Zb aj rfl) (ZAR (s5:=s5) (s7:=s7) (s9:=s9) J.1 (λp d=>?_) aK (J.2 _ (by show sz h<=sz h1;omega)) aI λw t aM aN ht ak Y aO y=>?_)
   ·have:=Zi7 (ay p d) M X;exact⟨this.1,hl.hi _ (by rw[<-O];exact List.mem_map_of_mem d),this.2 _ (by show sz h<=sz h1;omega)⟩
   have bR:sz q<=sz w:=y.size;have al:=YW aj y F;have an:Ext h w:=X.then y λk a=>by rw[a];show sz h<=sz h1;omega
   have L:=Zi7 az M an;refine rL (s:=z.2.2.2.2.1) (Zb al rfl) (Zxz (s5:=s5) (s7:=s7) (s8:=t) (s9:=s9) L.1 (λp d=>?_) aL (L.2 _ (by show sz h<=sz h1;omega)) aO λv t12 aP aQ lt aR ao aS D=>?_)
   ·have:=Zi7 (aA p d) M an;exact⟨this.1,hl.lo _ (by rw[<-P];exact List.mem_map_of_mem d),this.2 _ (by show sz h<=sz h1;omega)⟩
   have bS:sz w<=sz v:=D.size;have q1:=ZtY (ZtY p1 y c) D c;have q2:=ZtY (ZtY p2 y c) D c;have q3:=ZtY (ZtY p3 y c) D c;have rk:∀{x:Sl} {n:Nat} {vs:List Value},Row w x n vs->(∀b,x.blk=some b->sz q<=b/\b<sz w)->Row v x n vs:=λ{x n vs} hx E=>Zdj hx (λ_ e=>by have V:sz q<=sz h1:=(E _ e).1;omega) D
   have iO:∀{x:Sl} {n:Nat} {vs:List Value},Own v (sz B) x n vs->Rw.inS (ZBR (sz h1+1) (sz v)) x:=λ{x n vs} hx _ b e=>by
     have V:sz B<=b/\b<sz v:=hx.lt e;exact⟨by omega,V.2⟩
   have i1:∀{x:Sl},(∀b,x.blk=some b->sz q<=b/\b<sz w)->Rw.inS (ZBR (sz h1+1) (sz v)) x:=λ{x} E _ b e=>by
     have:=E b e;exact⟨by omega,by omega⟩
   have i2:∀{x:Sl},(∀b,x.blk=some b->sz w<=b/\b<sz v)->Rw.inS (ZBR (sz h1+1) (sz v)) x:=λ{x} E _ b e=>by
     have:=E b e;exact⟨by omega,by omega⟩
   exact hQ _ _ ⟨((ai.upd _).trans y).trans D,.inr ⟨by decide,(s5,s7,t,s9,t12,()),aS,⟨⟨q1.row,iO q1⟩,⟨q2.row,iO q2⟩,⟨aM,by rw[aN,O],⟨rk ht ak,i1 ak⟩,λp d=>⟨rk (Y p d).1 (Y p d).2,i1 (Y p d).2⟩⟩,⟨q3.row,iO q3⟩,⟨aP,by rw[aQ,P],⟨lt,i2 aR⟩,λp d=>⟨(ao p d).1,i2 (ao p d).2⟩⟩⟩⟩⟩ (show(1-IntKind.wrap .i64 (0+1)).toNat<(1-(0:Int)).toNat by decide)
  ·dsimp only at A⊢;subst A;rw[N];have y1:obj j (sz h)=_:=(he.old (sz h) (show sz h<sz h1 by omega) (by show ¬sz h=sz h1;omega)).trans c1;have bU:sz h1<=sz j:=he.size;refine Zi rfl (rL (s:=z'.1) (Zb cr rfl) (rL (s:=z'.2.1) (Zb cr rfl) (rL (s:=z'.2.2.1) (Zb cr rfl) (rL (s:=z'.2.2.2.1) (Zb cr rfl) (rL (s:=z'.2.2.2.2.1) (Zb cr rfl) (Zaw y1 λh3 U u3 z3=>?_))))));have w3:sz h3=sz j:=z3
   have E3:Ext h h3:=⟨by show sz h<=sz h3;omega,λk a=>by
     have bW:k<sz h:=a
     rw[u3.old k (by show k<sz j;omega) (by show ¬k=sz h;omega),he.old k (by show k<sz h1;omega) (by show ¬k=sz h1;omega),e1.old k a]⟩
   refine rL (s:=z'.1) (Zb U rfl) (rL (s:=z'.2.1) (Zb U rfl) (rL (s:=z'.2.2.1) (Zb U rfl) (rL (s:=z'.2.2.2.1) (Zb U rfl) (rL (s:=z'.2.2.2.2.1) (Zb U rfl) (a h3 z' E3 ?_)))));refine(aD.keep (h':=h3) λb E aq=>u3.old b aq (by show ¬b=sz h;have:=E.1;omega)).mono λb aq E=>⟨by have:=E.1;omega,by have:=E.2;omega⟩
theorem ZBU{h:Zf}{S:Nat->Prop}{z:Rw.VTR}{r:RulesP}(u:Rw.YY h S z r)(v:∀b,S b->b<sz h)(hl:ZvZ r){K:Rw.VTR->Zf->Prop}
    (i:∀h' z',Ext h h'->Rw.YY h' (ZBR (sz h) (sz h')) z' r->K z' h'):ZfX z K h:=by
  unfold ZfX ZjJ;refine ZH λh1 c1 m w=>ZH λn x o y=>?_;have d:=Zj c1 o;refine rL (s:=z.1) (Zb d rfl) (rL (s:=z.2.1) (Zb d rfl) (rL (s:=z.2.2.1) (Zb d rfl) (rL (s:=z.2.2.2.1) (Zb d rfl) (rL (s:=z.2.2.2.2.1) (Zb d rfl) (ZH λh3 A p z3=>?_)))));have a:=(m.trans o).trans p;have B:sz h<=sz h3:=a.size;refine ZHh (u.ext a) (λb c=>by have:=v b c;omega) hl (Zje A rfl) λq z4 j l=>?_;have C:=Zj (Zj x p) j;have w1:sz h1=sz h+1:=w;have E:sz n=sz h1+1:=y;have F:sz h3=sz n+1:=z3;have G:sz h3<=sz q:=j.size;refine Zaw C λg e t z5=>?_;have H:sz g=sz q:=z5;have D:Ext h g:=(a.trans j).then t λk i=>by subst i;exact m.size
  refine rL (s:=z4.1) (Zb e rfl) (rL (s:=z4.2.1) (Zb e rfl) (rL (s:=z4.2.2.1) (Zb e rfl) (rL (s:=z4.2.2.2.1) (Zb e rfl) (rL (s:=z4.2.2.2.2.1) (Zb e rfl) (i g z4 D ?_)))));refine(l.keep (h':=g) λb c f=>t.old b f (by show ¬b=sz h1;have:=c.1;omega)).mono λb f c=>⟨by have:=c.1;omega,by have:=c.2;omega⟩
structure Good(r:RulesP):Prop where
  s:ZvZ r
  f:∀f,f∈r.fl->f.err=0
  b:∀f,f∈r.br->f.err=0
  h:∀f,f∈r.ho->f.err=0
  y:∀f,f∈r.sy->f.err=0
  l:∀f,f∈r.li->f.err=0
theorem ZcX{α:Type}{f:α->Nat}:∀{l:List α} {i:Nat},Za0 f l i=none->∀a,a∈l->f a=0
  |[],_,_,a,c=>by cases c
  | b::l,i,h,a,c=>by
    unfold Za0 at h;split at h
    ·rename_i h0
     rcases Awr.1 c with rfl|c
     ·exact h0
     ·exact ZcX h a c
    ·cases h
theorem Zh9{α:Type}{f:α->Nat}:∀{l:List α} {i k e:Nat},Za0 f l i=some (k,e)->e≠0
  |[],_,_,_,h=>by cases h
  | b::l,i,k,e,h=>by
    unfold Za0 at h;split at h
    ·exact Zh9 h
    ·rename_i h0;cases h;exact h0
theorem ZxA{f:Zbt}(he:f.err=0):f.origins.length<=32:=by
  unfold Zbt.err at he;split at he
  ·split at he
   ·rename_i _ a;simp only[Awn,decide_eq_true_eq]at a;omega
   ·cases he
  ·cases he
theorem Zqw{r:RulesP}(h:r.whereE.2.2=0):Good r:=by
  unfold RulesP.whereE at h;have no:∀{a b:Nat},((a,b,5):Nat×Nat×Nat).2.2=0->False:=λh=>by cases h
  by_cases k:256<r.fl.length
  ·rw[if_pos k]at h;exact(no h).elim
  rw[if_neg k]at h
  by_cases l:256<r.br.length
  ·rw[if_pos l]at h;exact(no h).elim
  rw[if_neg l]at h
  by_cases a3:256<r.ho.length
  ·rw[if_pos a3]at h;exact(no h).elim
  rw[if_neg a3]at h
  by_cases a4:256<r.sy.length
  ·rw[if_pos a4]at h;exact(no h).elim
  rw[if_neg a4]at h
  by_cases a5:256<r.li.length
  ·rw[if_pos a5]at h;exact(no h).elim
  rw[if_neg a5]at h
  cases d:Za0 FlowP.err r.fl 0 with
  |some p=>rw[d]at h;exact(Zh9 d h).elim
  |none=>
  rw[d]at h;dsimp only at h
  cases e:Za0 YN.err r.br 0 with
  |some p=>rw[e]at h;exact(Zh9 e h).elim
  |none=>
  rw[e]at h;dsimp only at h
  cases c:Za0 Zen.err r.ho 0 with
  |some p=>rw[c]at h;exact(Zh9 c h).elim
  |none=>
  rw[c]at h;dsimp only at h
  cases g:Za0 Zav.err r.sy 0 with
  |some p=>rw[g]at h;exact(Zh9 g h).elim
  |none=>
  rw[g]at h;dsimp only at h
  cases i:Za0 Zbt.err r.li 0 with
  |some p=>rw[i]at h;exact(Zh9 i h).elim
  |none=>
  exact⟨⟨by omega,by omega,by omega,by omega,by omega,λf j=>Aqp (Zt7 (ZcX c f j)).2 (by decide),λf j=>Aqp (ZxA (ZcX i f j)) (by decide)⟩,ZcX d,ZcX e,ZcX c,ZcX g,ZcX i⟩
theorem ZER{h:Zf}{S:Nat->Prop}{sb:Nat}{rs:R5}{g:Int}{z:Rw.VTR}{r:RulesP}(t:obj h sb=some (ZoK rs g))(u:Rw.YY h S z r)(x:∀b,S b->b<sz h)(y:Rw.RulesP.fit r)
    {K:Int->Zf->Prop} (h0:r.whereE.2.2=0->∀h' z',obj h' sb=some (ZoK z' (IntKind.wrap .i64 (g+1)))->Rw.YY h' (ZBR (sz h) (sz h')) z' r->Upd (· = sb) h h'->K 0 h') (h1:∀e:Nat,r.whereE.2.2=e->e≠0->∀h',Ext h h'->K e h'):Zct (some ⟨sb,0,none⟩) z K h:=by
  unfold Zct Ze0;have A:=Zp t;refine ZH λI c l J=>Za (Zi rfl (rL (s:=z.1) (Zb c rfl) (rL (s:=z.2.1) (Zb c rfl) (rL (s:=z.2.2.1) (Zb c rfl) (rL (s:=z.2.2.2.1) (Zb c rfl) (rL (s:=z.2.2.2.2.1) (Zb c rfl) ?_))))));refine Rw.Zu1 (u.ext l) y λh3 p B m=>Za (Za (Za ?_));subst B;have f:=Zj c m
  by_cases q:r.whereE.2.2=0
  ·have C:=Zqw q;rw[q];refine Zi rfl (rL (s:=z.1) (Zb f rfl) (rL (s:=z.2.1) (Zb f rfl) (rL (s:=z.2.2.1) (Zb f rfl) (rL (s:=z.2.2.2.1) (Zb f rfl) (rL (s:=z.2.2.2.2.1) (Zb f rfl) ?_)))));have a:=l.trans m;have L:sz h<=sz h3:=a.size;refine ZBU (u.ext a) (λb d=>by have:=x b d;omega) C.s λn z4 o D=>Zg ?_;have E:=Zj (Zj t a) o;have M:sz h3<=sz n:=o.size;refine ZGc E (ZBr z4 g) (λv w F z5=>Zg (rI (Zb w rfl) (Zg (Zbs w (show 0+5<6 by decide) rfl λk G H z6=>Za ?_)))) (hv:=by simp[ZoM,Zbf]);have i:Upd (· = sb) n k:=F.trans H;have N:sz v=sz n:=z5;have O:sz k=sz v:=z6;refine h0 q k z4 G ?_ (((a.trans o).upd _).trans i);exact(D.keep (h':=k) λb d j=>i.old b j (by show ¬b=sb;have:=d.1;omega)).mono λb j d=>⟨by have:=d.1;omega,by have:=d.2;omega⟩
  ·exact Zn (by simpa using q) (Za (h1 _ rfl q h3 (l.trans m)))
theorem ZHc{h:Zf}{S:Nat->Prop}{sb:Nat}{g:Int}{z:Rw.VTR}{r:RulesP}(n:obj h sb=some (ZoK z g))(p:Rw.YY h S z r)(q:∀b,S b->b<sz h)(hl:ZvZ r)
    {K:Rw.VTR->Int->Zf->Prop} (i:∀h' z',Rw.YY h' (ZBR (sz h) (sz h')) z' r->Ext h h'->K z' g h'):Zc7 (some ⟨sb,0,none⟩) K h:=by
  unfold Zc7 Zfs;refine ZH λh1 c1 j t=>Za (Zi rfl (Zg (Zg ?_)));have s1:=Zj n j;refine rL (s:=z.1) (Zb s1 rfl) (rL (s:=z.2.1) (Zb s1 rfl) (rL (s:=z.2.2.1) (Zb s1 rfl) (rL (s:=z.2.2.2.1) (Zb s1 rfl) (rL (s:=z.2.2.2.2.1) (Zb s1 rfl) (rI (Zb s1 rfl) ?_)))));have w1:sz h1=sz h+1:=t;refine ZBU (p.ext j) (λb c=>by have:=q b c;omega) hl λo a d l=>⟨ZR (Zb (Zj s1 d) rfl),?_⟩;have v:sz h1<=sz o:=d.size;refine Zaw (Zj c1 d) (vs:=[slV a.1,slV a.2.1,slV a.2.2.1,slV a.2.2.2.1,slV a.2.2.2.2.1]) (λh3 e m z3=>?_) (hv:=by simp[ZoM,Zbf]);have w:sz h3=sz o:=z3;have u:obj h3 sb=_:=(m.old sb (Zp (Zj s1 d)) (show ¬sb=sz h by have:=Zp n;omega)).trans (Zj s1 d);refine⟨ZR (Zb u rfl),Za ?_⟩;refine rL (s:=a.1) (Zb e rfl) (rL (s:=a.2.1) (Zb e rfl) (rL (s:=a.2.2.1) (Zb e rfl) (rL (s:=a.2.2.2.1) (Zb e rfl) (rL (s:=a.2.2.2.2.1) (Zb e rfl) (i h3 a ?_ ?_)))))
  ·exact(l.keep (h':=h3) λb c f=>m.old b f (by show ¬b=sz h;have:=c.1;omega)).mono λb f c=>⟨by have:=c.1;omega,by have:=c.2;omega⟩
  ·exact(j.trans d).then m λk i=>by subst i;exact Aqo _
def pick{β:Type}(eq:β->Bool):List β->List Bool->Nat->Int×List Bool
  |w::ws,u::us,i=>if u=false/\eq w=true then((i:Int),true::us)else((pick eq ws us (i+1)).1,u::(pick eq ws us (i+1)).2)
  |_,us,_=>(-1,us)
def Zfi{α β:Type}(same:α->β->Bool)(a:List β):List α->List Bool->List Int
  |[],_=>[]
  |r::rs,us=>(pick (same r) a us 0).1::Zfi same a rs (pick (same r) a us 0).2
theorem Zk3{β:Type}{eq:β->Bool}:∀{ws:List β} {us:List Bool} {i:Nat},(pick eq ws us i).2.length=us.length
  |[],us,i=>by cases us<;>rfl
  |w::ws,[],i=>rfl
  | w::ws,u::us,i=>by
    unfold pick;split
    ·rfl
    ·simp[Zk3]
theorem ZsT{β:Type}{eq:β->Bool}:∀{ws:List β} {us:List Bool} {i:Nat},ws.length=us.length->((pick eq ws us i).1= -1/\(pick eq ws us i).2=us)\/∃k w,(pick eq ws us i).1=((i+k:Nat):Int)/\ws[k]?=some w/\eq w=true/\us[k]?=some false/\(pick eq ws us i).2=us.set k true
  |[],us,i,h=>by cases us<;>exact .inl ⟨rfl,rfl⟩
  |w::ws,[],i,h=>by cases h
  | w::ws,u::us,i,h=>by
    unfold pick;split
    ·rename_i q;exact .inr ⟨0,w,rfl,rfl,q.2,by rw[q.1];rfl,rfl⟩
    ·rcases ZsT (eq:=eq) (ws:=ws) (us:=us) (i:=i+1) (by simpa using h)with⟨h1,a⟩ |⟨k,w',h1,a,h3,b,c⟩
     ·exact .inl ⟨h1,by rw[a]⟩
     ·exact .inr ⟨k+1,w',by rw[h1];congr 1;omega,a,h3,b,by rw[c];rfl⟩
theorem Zri{β:Type}{eq:β->Bool}:∀{ws:List β} {us:List Bool} {i:Nat},ws.length=us.length->(∀(j:Nat) (w:β),ws[j]?=some w->us[j]?=some false->eq w=false)->pick eq ws us i=(-1,us)
  |[],us,i,h,_=>by cases us<;>rfl
  |w::ws,[],i,h,_=>by cases h
  | w::ws,u::us,i,h,b=>by
    unfold pick
    have a:¬(u=false/\eq w=true):=λq=>by
      have:=b 0 w rfl (by rw[q.1];rfl);rw[q.2]at this;cases this
    rw[if_neg a,Zri (by simpa using h) λj w' h1 c=>b (j+1) w' h1 c]
theorem Zrh{β:Type}{eq:β->Bool}:∀{ws:List β} {us:List Bool} {i k:Nat} {w:β},ws.length=us.length->ws[k]?=some w->us[k]?=some false->eq w=true->(∀(j:Nat) (w':β),j<k->ws[j]?=some w'->us[j]?=some false->eq w'=false)->pick eq ws us i=(((i+k:Nat):Int),us.set k true)
  |[],us,i,k,w,h,h1,_,_,_=>by cases h1
  |v::ws,[],i,k,w,h,_,_,_,_=>by cases h
  | v::ws,u::us,i,0,w,h,h1,c,h3,_=>by
    cases h1;cases c;unfold pick;rw[if_pos ⟨rfl,h3⟩];rfl
  | v::ws,u::us,i,k+1,w,h,h1,c,h3,e=>by
    unfold pick
    have d:¬(u=false/\eq v=true):=λq=>by
      have:=e 0 v (by omega) rfl (by rw[q.1];rfl);rw[q.2]at this;cases this
    rw[if_neg d,Zrh (i:=i+1) (k:=k) (by simpa using h) h1 c h3 λj w' f a b=>e (j+1) w' (by omega) a b];refine Prod.ext ?_ rfl;show((i+1+k:Nat):Int)=((i+(k+1):Nat):Int);congr 1;omega
def boL(u:Bool):List Value:=[.bool u]
theorem ZqI(u:Bool):(boL u).length=1:=rfl
theorem Zzt(n:Nat):XI [.bool false] n=(List.replicate n false).flatMap boL:=by
  unfold XI
  induction n with
  |zero=>rfl
  |succ n a=>rw[List.replicate_succ,List.replicate_succ,List.flatten_cons,Ayc,a];rfl
section
variable{α:Type}{g:α->List Value}{n:Nat}{same:α->α->Bool}{T:TypeId}
theorem ZAw(hg:∀a,(g a).length=n)(hn:0<n){h:Zf}{base:Nat}{p t:Sl}{B:List α}{U:List Bool}(hb:Row h p n (B.flatMap g))(hB:B.length<=256)(hU:B.length=U.length)(ht:Own h base t 1 (U.flatMap boL))(ai:p.len≠0->∀b,p.blk=some b->b<base){a:α}{c0:Nat}(R:obj h c0=some (.cells (g a).toArray T (0,0)))(aj:t.blk≠some c0)
    {ld2:Nat->Nat->Zf->Int->(Nat->Int->Zf->Prop)->Prop} {cmp:Nat->Nat->Zf->(Bool->Zf->Prop)->Prop}
    (h2:∀b bb o m i Q,(∀j v,(g b)[j]?=some v->ZA (o+j) (obj m bb)=some v)->(∀h' c,Ext m h'->obj h' c=some (.cells (g b).toArray T (0,0))->Q c i h')->ld2 bb o m i Q)
    (h3:∀b c d m Q,b∈B->Upd (λk=>t.blk=some k) h m->obj m c=some (.cells (g a).toArray T (0,0))->obj m d=some (.cells (g b).toArray T (0,0))->(∀h',Ext m h'->Q (same a b) h')->cmp c d m Q)
    {J:Int->Zf->Prop} (hJ:∀h',Own h' base t 1 ((pick (same a) B U 0).2.flatMap boL)->Upd (λk=>t.blk=some k) h h'->J (pick (same a) B U 0).1 h'):
    Yl (σ:=Int×Int×Unit) (λC V W=>(λ(l:Int) (r:Int)=>
     Zl (decide (r<(p.len:Int))) (YI p.ptr p.len r n λal an=>ld2 al an W r λao i D=>
      Zl (decide (l<0)) (YI t.ptr t.len i 1 λaq ar=>ldB D aq ar λt42=>Zl (!t42) (cmp c0 ao D λt67 X=>
       Zl t67 (Zc i λz=>YI t.ptr t.len i 1 λau av=>st X au av (.bool true) λaw=>C (z,IntKind.wrap .i64 (r+1),()) aw) (C (l,IntKind.wrap .i64 (r+1),()) X)) (C (l,IntKind.wrap .i64 (r+1),()) D)) (C (l,IntKind.wrap .i64 (r+1),()) D)) (J l W)) V.1 V.2.1) (-1,0,()) h:=by
  have aQ:=Zal hg hb hn;have aR:=Zp R
  refine ZaE (λ(s:Int×Int×Unit) m=>∃(i:Nat) (us:List Bool),s.2.1=(i:Int)/\i<=B.length/\Own m base t 1 (us.flatMap boL)/\Upd (λk=>t.blk=some k) h m/\((s.1= -1/\us=U/\∀j w,j<i->B[j]?=some w->U[j]?=some false->same a w=false)\/(0<=s.1/\s.1=(pick (same a) B U 0).1/\us=(pick (same a) B U 0).2))) (λs _=>((B.length:Int)- s.2.1).toNat)
    ⟨0,U,rfl,Aye _,ht,Upd.refl _ _,.inl ⟨rfl,rfl,λj w O=>by omega⟩⟩ ?_
  rintro⟨f,_,_⟩ m ⟨i,us,rfl,aS,ho,u,hinv⟩ Q hQ;dsimp only at hinv⊢;have E:i<B.length->IntKind.wrap .i64 ((i:Int)+1)=((i+1:Nat):Int):=λhi=>wrS hi (by omega);have F:i<B.length->((B.length:Int)- ((i+1:Nat):Int)).toNat<((B.length:Int)- ((i:Nat):Int)).toNat:=λhi=>by omega
  refine Zo (λq=>?_) λq=>?_
  ·have hi:i<B.length:=by omega
   obtain⟨w,hw⟩:∃w,B[i]?=some w:=⟨_,Axy hi⟩;have ax:Row m p n (B.flatMap g):=Rw.Zhn (S:=λb=>b<base) hb (λay b e=>ai ay b e) λb hs hl=>u.old b hl λe=>by have:=(ht.lt e).1;omega
   obtain⟨b,o,_,_,Y,I⟩:=Za5 hg ax hw hn;refine Y rfl (h2 w b o m _ _ I λh5 c5 e5 aA=>?_);have y:=ho.congr (h':=h5) λk Z _ _=>e5.old k (ho.lt Z).2;have P:=u.trans (e5.upd _)
   rcases hinv with⟨rfl,rfl,A⟩ |⟨f0,f1,rfl⟩
   ·refine Zn rfl ?_;obtain⟨x,hx⟩:∃x,us[i]?=some x:=⟨_,Axy (by omega)⟩;obtain⟨b4,o4,_,_,K,G⟩:=Za5 ZqI y.row hx (by decide);refine K rfl (rB (G 0 _ rfl) ⟨λq1=>?_,λq1=>?_⟩)
    ·have aB:x=false:=by cases x<;>simp_all
     subst aB;have aC:obj h5 c0=some (.cells (g a).toArray T (0,0)):=YW R P aj;refine h3 w c0 c5 h5 _ (Axo hw) P aC aA λh6 e6=>⟨λq2=>?_,λq2=>?_⟩
     ·have hp:=Zrh (eq:=same a) (i:=0) hU hw hx q2 A;have L:=y.congr (h':=h6) λk Z _ _=>e6.old k (y.lt Z).2;have u6:=P.trans (e6.upd _);obtain⟨bb,aE,aF⟩:=Own.ptr_ L (o:=i*1) (by rw[YM ZqI];omega);have aV:=Zal ZqI L.row (by decide);refine Za ⟨bb,0,aE,by omega,by omega,?_⟩;refine ZtX ZqI L hx (j:=0) (a':=true) (by decide) rfl rfl aF (by omega) λh7 aG u7 z7=>?_;rw[E hi];refine hQ _ _ ⟨i+1,us.set i true,rfl,hi,aG,u6.trans u7,.inr ⟨by omega,?_,?_⟩⟩ (F hi)
      ·rw[hp];simp
      ·rw[hp]
     ·rw [E hi];refine hQ _ _ ⟨i+1,us,rfl,hi,y.congr (h':=h6) λk Z _ _=>e6.old k (y.lt Z).2,P.trans (e6.upd _),.inl ⟨rfl,rfl,λj w' O H M=>?_⟩⟩ (F hi)
      rcases(show j<i\/j=i by omega)with O|rfl
      ·exact A j w' O H M
      ·rw[hw]at H;cases H;exact q2
    ·rw [E hi];refine hQ _ _ ⟨i+1,us,rfl,hi,y,P,.inl ⟨rfl,rfl,λj w' O H M=>?_⟩⟩ (F hi)
     rcases(show j<i\/j=i by omega)with O|rfl
     ·exact A j w' O H M
     ·rw[hx]at M;cases M;cases q1
   ·rw[E hi];exact Zi (decide_eq_false (by omega)) (hQ _ _ ⟨i+1,_,rfl,hi,y,P,.inr ⟨f0,f1,rfl⟩⟩ (F hi))
  ·have N:i=B.length:=by omega
   rcases hinv with⟨rfl,rfl,A⟩ |⟨f0,f1,rfl⟩
   ·have hp:=Zri (eq:=same a) (i:=0) hU λj w H M=>A j w (by rw[N];exact Zbn H) H M;rw[hp]at hJ;exact hJ m ho u
   ·rw[f1];exact hJ m ho u
end
section
variable{α:Type}{g:α->List Value}{n:Nat}{same:α->α->Bool}{T:TypeId}
theorem ZxJ(hg:∀a,(g a).length=n)(R:0<n){h:Zf}{now w:Sl}{A B:List α}(ha:Row h now n (A.flatMap g))(S:Row h w n (B.flatMap g))(hA:A.length<=256)(hB:B.length<=256)
    {ld1:Nat->Nat->Zf->(Nat->Zf->Prop)->Prop} {ld2:Nat->Nat->Zf->Int->(Nat->Int->Zf->Prop)->Prop} {cmp:Nat->Nat->Zf->(Bool->Zf->Prop)->Prop}
    (h1:∀a U o m Q,(∀j v,(g a)[j]?=some v->ZA (o+j) (obj m U)=some v)->(∀h' c,Ext m h'->sz m<=c->obj h' c=some (.cells (g a).toArray T (0,0))->Q c h')->ld1 U o m Q)
    (h2:∀b U o m i Q,(∀j v,(g b)[j]?=some v->ZA (o+j) (obj m U)=some v)->(∀h' c,Ext m h'->obj h' c=some (.cells (g b).toArray T (0,0))->Q c i h')->ld2 U o m i Q)
    (h3:∀a b c d m Q,a∈A->b∈B->Ext h m->obj m c=some (.cells (g a).toArray T (0,0))->obj m d=some (.cells (g b).toArray T (0,0))->(∀h',Ext m h'->Q (same a b) h')->cmp c d m Q)
    {K:Sl->Zf->Prop} (hK:∀h' t,Ext h h'->Own h' (sz h) t 1 ((Zfi same B A (List.replicate B.length false)).map iv)->K t h'):
    mkS 4 1 [.bool false] (w.len:Int) (w.len:Int) h λt h1=>Yl (σ:=Sl×Int×Unit) (λJ2 s h3=>(λ(l:Sl) (G:Int)=>
      Zl (decide (G<(now.len:Int))) (YI now.ptr now.len G n λb o=>ld1 b o h3 λah ai=>Zc (-1) λfound=>
       Yl (σ:=Int×Int×Unit) (λD V E=>(λ(e:Int) (p:Int)=>
        Zl (decide (p<(w.len:Int))) (YI w.ptr w.len p n λaj ak=>ld2 aj ak E p λal i F=>
         Zl (decide (e<0)) (YI t.ptr t.len i 1 λan ao=>ldB F an ao λt42=>Zl (!t42) (cmp ah al F λt67 W=>
          Zl t67 (Zc i λy=>YI t.ptr t.len i 1 λaq ar=>st W aq ar (.bool true) λau=>D (y,IntKind.wrap .i64 (p+1),()) au) (D (e,IntKind.wrap .i64 (p+1),()) W)) (D (e,IntKind.wrap .i64 (p+1),()) F)) (D (e,IntKind.wrap .i64 (p+1),()) F))
         (newC E [iv e] 3 λH z=>rdS ⟨some ⟨H,0,none⟩,1,1⟩ 1 z λnew=>app 3 1 8 [iv 0] l 1 new z λt75 I=>J2 (t75,IntKind.wrap .i64 (G+1),()) I)) V.1 V.2.1) (found,0,()) ai) (K l h3)) s.1 s.2.1) (⟨none,0,0⟩,0,()) h1:=by
  have nl:=Zal hg ha R;have wl:=Zal hg S R;have wi:=Rw.Zk0 S (n:=n) R;refine⟨by omega,Int.le_refl _,by omega,by omega,?_⟩;rw[Aqu,wl];have e0:Ext h (h.push (.cells (XI [.bool false] B.length).toArray 4)):=Ext.push _ _;have z0:sz (h.push (.cells (XI [.bool false] B.length).toArray 4))=sz h+1:=Zbv
  have M:Own (h.push (.cells (XI [.bool false] B.length).toArray 4)) (sz h) ⟨some ⟨sz h,0,none⟩,B.length,B.length⟩ 1 ((List.replicate B.length false).flatMap boL):=by
    rw[<-Zzt];exact Own.newC (h:=h) (cells:=XI [.bool false] B.length) (t:=4) (size:=1) (n:=B.length) (by rw[Zfy];simp) (by omega)
  have r:(⟨some ⟨sz h,0,none⟩,B.length,B.length⟩:Sl).blk=some (sz h):=rfl;rw[show h.size=sz h from rfl];generalize (⟨some ⟨sz h,0,none⟩,B.length,B.length⟩:Sl)=t at M r⊢;generalize h.push (.cells (XI [.bool false] B.length).toArray 4)=h0 at e0 z0 M⊢;rw[<-wl]
  refine ZaE (λ(s:Sl×Int×Unit) m=>∃(i:Nat) (us:List Bool) (L:List Int),s.2.1=(i:Int)/\i<=A.length/\us.length=B.length/\L.length=i/\Own m (sz h) t 1 (us.flatMap boL)/\Own m (sz h) s.1 1 (L.map iv)/\(∀b,s.1.blk=some b->sz h<b)/\Ext h m/\L++Zfi same B (A.drop i) us=Zfi same B A (List.replicate B.length false)) (λs _=>((A.length:Int)- s.2.1).toNat)
    ⟨0,_,[],rfl,Aye _,by simp,rfl,M,Own.nil _ _ _,(λb S=>by cases S),e0,rfl⟩ ?_
  rintro⟨l,_,_⟩ m ⟨i,us,L,rfl,aM,X,av,ht,hl,C,he,Y⟩ Q hQ;dsimp only at hl C⊢;refine Zo (λq=>?_) λq=>?_
  ·have hi:i<A.length:=by omega
   have ga:A[i]?=some A[i]:=Axy hi;have dr:A.drop i=A[i]::A.drop (i+1):=Aym hi;rw[dr]at Y;generalize A[i]=a at ga Y;obtain⟨b,o,_,_,Z,N⟩:=Za5 hg (ha.ext he) ga R;refine Z rfl (h1 a b o m _ N λh5 c5 O aQ hc=>Za ?_);have w5:sz h<=sz m:=he.size;have aS:=(ht.lt r).2;have aT:m.size=sz m:=rfl;refine ZAw (a:=a) (same:=same) (J:=λe E=>newC E [iv e] 3 λH z=>rdS ⟨some ⟨H,0,none⟩,1,1⟩ 1 z λnew=>app 3 1 8 [iv 0] l 1 new z λt75 I=>Q (t75,IntKind.wrap .i64 ((i:Int)+1),()) I) hg R (S.ext (he.trans O)) hB X.symm (ht.congr (h':=h5) λk f _ _=>O.old k (ht.lt f).2) (λay b9 x=>wi ay b9 x) hc (by rw[r];intro x;cases x;omega) h2 (λb c d h6 Q9 az u6 x1 x2 x3=>h3 a b c d h6 Q9 (Axo ga) az ?_ x1 x2 x3) λh6 o6 u6=>ZH λh7 c7 e7 z7=>?_
   ·exact(he.trans O).then u6 λk f=>by rw[r]at f;cases f;exact Aqo _
   have E6:Ext h h6:=(he.trans O).then u6 λk f=>by rw[r]at f;cases f;exact Aqo _
   have aC:Own h7 (sz h) l 1 (L.map iv):=hl.congr λk f u _=>by
     have h9:=C k f;rw[e7.old k (Aqq (Aqq u O.size) u6.size),u6.old k (Aqq u O.size) (λx=>by rw[r]at x;cases x;omega),O.old k u]
   have bf:l.len=i:=by have:=hl.len;simp at this;omega
   have b7:h7.size=h6.size+1:=z7;refine(Zje c7 rfl).rd (aC.app (n:=1) rfl rfl rfl (by omega) (by omega) (by have:=E6.size;show sz h<=h7.size;have:h.size=sz h:=rfl;omega) λl8 h8 o8 _ u8 b8=>?_)
   have aD:∀b,l8.blk=some b->sz h<b:=λb x=>by
     rcases b8 with e8|e8
     ·exact C b (e8▸x)
     ·rw[e8]at x;cases x;have:=E6.size;have:h.size=sz h:=rfl;omega
   rw[wrS hi (by omega)];refine hQ _ _ ⟨i+1,(pick (same a) B us 0).2,L++[(pick (same a) B us 0).1],rfl,hi,(by rw[Zk3];exact X),(by simp[av]),?_,?_,aD,?_,?_⟩ (by show((A.length:Int)- ((i+1:Nat):Int)).toNat<((A.length:Int)- ((i:Nat):Int)).toNat;omega)
   ·exact(o6.congr (h':=h7) λk f u _=>e7.old k u).congr λk f u _=>u8.old k u λx=>by rw[r]at f;cases f;have:=C _ x;omega
   ·rw[Ayu];exact o8
   ·exact(E6.trans e7).then u8 λk f=>Nat.le_of_lt (C k f)
   ·rw[<-Y,Ayw];rfl
  ·have P:A.drop i=[]:=Ayo (by omega);rw[P,show Zfi same B [] us=[]from rfl,Ayr]at Y;rw[Y]at hl;exact hK m l he hl
end
def Zw4(a b:FlowP):Bool:=bif Yr (Zx a.res) (Zx b.res)then(bif Yr (Zx a.org) (Zx b.org)then(bif a.thr==b.thr then(bif a.cnt==b.cnt then(bif (a.strat:Int)==(b.strat:Int)then(bif Yr (Zx a.ref) (Zx b.ref)then(bif (a.shape:Int)==(b.shape:Int)then(bif a.warm==b.warm then(bif a.queue==b.queue then(bif a.clu==b.clu then(bif a.id==b.id then(bif a.fb==b.fb then true else false)else false)else false)else false)else false)else false)else false)else false)else false)else false)else false)else false
theorem ZD5{h:Zf}{s w:Sl}{A B:List FlowP}(hs:Row h s 12 (A.flatMap Rw.Ze9))(hw:Row h w 12 (B.flatMap Rw.Ze9))(J:A.length<=256)(L:B.length<=256){K:Sl->Zf->Prop}(r:∀h' t,Ext h h'->Own h' (sz h) t 1 ((Zfi Zw4 B A (List.replicate B.length false)).map iv)->K t h'):Yk s w K h:=by
  unfold Yk YG
  refine ZxJ (g:=Rw.Ze9) (n:=12) (T:=69) (same:=Zw4) (λ_=>rfl) (by decide) hs hw J L
    (ld1:=λb o h3 Q=>ldS h3 b o λt0=>ldS h3 b (o+1) λt1=>ldB h3 b (o+2) λt2=>ldI h3 b (o+3) .i64 λt3=>ldI h3 b (o+4) .u8 λt4=>ldS h3 b (o+5) λt5=>ldI h3 b (o+6) .u8 λt6=>ldI h3 b (o+7) .i64 λt7=>ldI h3 b (o+8) .i64 λt8=>ldB h3 b (o+9) λt9=>ldI h3 b (o+10) .i64 λt10=>ldB h3 b (o+11) λt11=>newC h3 [Value.string (ByteArray.mk #[]),Value.string (ByteArray.mk #[]),Value.bool false,iv 0,Value.int .u8 0,Value.string (ByteArray.mk #[]),Value.int .u8 0,iv 0,iv 0,Value.bool false,iv 0,Value.bool false] 69 λm p=>sts p m 0 [Value.string t0,Value.string t1,Value.bool t2,iv t3,Value.int .u8 t4,Value.string t5,Value.int .u8 t6,iv t7,iv t8,Value.bool t9,iv t10,Value.bool t11] λq=>Q m q)
    (ld2:=λb o h3 y Q=>ldS h3 b o λt0=>ldS h3 b (o+1) λt1=>ldB h3 b (o+2) λt2=>ldI h3 b (o+3) .i64 λt3=>ldI h3 b (o+4) .u8 λt4=>ldS h3 b (o+5) λt5=>ldI h3 b (o+6) .u8 λt6=>ldI h3 b (o+7) .i64 λt7=>ldI h3 b (o+8) .i64 λt8=>ldB h3 b (o+9) λt9=>ldI h3 b (o+10) .i64 λt10=>ldB h3 b (o+11) λt11=>newC h3 [Value.string (ByteArray.mk #[]),Value.string (ByteArray.mk #[]),Value.bool false,iv 0,Value.int .u8 0,Value.string (ByteArray.mk #[]),Value.int .u8 0,iv 0,iv 0,Value.bool false,iv 0,Value.bool false] 69 λm p=>Zc y λi=>sts p m 0 [Value.string t0,Value.string t1,Value.bool t2,iv t3,Value.int .u8 t4,Value.string t5,Value.int .u8 t6,iv t7,iv t8,Value.bool t9,iv t10,Value.bool t11] λq=>Q m i q)
    (cmp:=λc d f Q=>ldS f c 0 λM=>ldS f c (0+1) λN=>ldB f c (0+2) λO=>ldI f c (0+3) .i64 λP=>ldI f c (0+4) .u8 λR=>ldS f c (0+5) λS=>ldI f c (0+6) .u8 λU=>ldI f c (0+7) .i64 λV=>ldI f c (0+8) .i64 λW=>ldB f c (0+9) λX=>ldI f c (0+10) .i64 λz=>ldB f c (0+11) λC=>ldS f d 0 λY=>ldS f d (0+1) λZ=>ldB f d (0+2) λy2=>ldI f d (0+3) .i64 λy3=>ldI f d (0+4) .u8 λy4=>ldS f d (0+5) λy5=>ldI f d (0+6) .u8 λy6=>ldI f d (0+7) .i64 λy7=>ldI f d (0+8) .i64 λy8=>ldB f d (0+9) λy9=>ldI f d (0+10) .i64 λD=>ldB f d (0+11) λE=>Zay (M,N,O,P,R,S,U,V,W,X,z,C,()) (Y,Z,y2,y3,y4,y5,y6,y7,y8,y9,D,E,()) Q f) ?_ ?_ ?_ r
  ·intro a bb o f Q e u;exact rS (e 0 _ rfl) (rS (e 1 _ rfl) (rB (e 2 _ rfl) (rI (e 3 _ rfl) (rI (e 4 _ rfl) (rS (e 5 _ rfl) (rI (e 6 _ rfl) (rI (e 7 _ rfl) (rI (e 8 _ rfl) (rB (e 9 _ rfl) (rI (e 10 _ rfl) (rB (e 11 _ rfl) (ZH λh1 c1 v G=>Zaw c1 λx l F H=>u x _ (v.then F λk r=>by subst r;exact Aqo _) (Aqo _) l))))))))))))
  ·intro a bb o f i Q e u;exact rS (e 0 _ rfl) (rS (e 1 _ rfl) (rB (e 2 _ rfl) (rI (e 3 _ rfl) (rI (e 4 _ rfl) (rS (e 5 _ rfl) (rI (e 6 _ rfl) (rI (e 7 _ rfl) (rI (e 8 _ rfl) (rB (e 9 _ rfl) (rI (e 10 _ rfl) (rB (e 11 _ rfl) (ZH λh1 c1 v G=>Za (Zaw c1 λx l F H=>u x _ (v.then F λk r=>by subst r;exact Aqo _) l)))))))))))))
  ·intro a b c d f Q _ _ _ e hd u;refine rS (Zb e rfl) (rS (Zb e rfl) (rB (Zb e rfl) (rI (Zb e rfl) (rI (Zb e rfl) (rS (Zb e rfl) (rI (Zb e rfl) (rI (Zb e rfl) (rI (Zb e rfl) (rB (Zb e rfl) (rI (Zb e rfl) (rB (Zb e rfl) (rS (Zb hd rfl) (rS (Zb hd rfl) (rB (Zb hd rfl) (rI (Zb hd rfl) (rI (Zb hd rfl) (rS (Zb hd rfl) (rI (Zb hd rfl) (rI (Zb hd rfl) (rI (Zb hd rfl) (rB (Zb hd rfl) (rI (Zb hd rfl) (rB (Zb hd rfl) (?_))))))))))))))))))))))));unfold Zay Zcd;refine ZH λh1 c1 v G=>ZH λx l I H=>?_;have j:=Zj c1 I;exact rS (Zb j rfl) (rS (Zb j rfl) (rB (Zb j rfl) (rI (Zb j rfl) (rI (Zb j rfl) (rS (Zb j rfl) (rI (Zb j rfl) (rI (Zb j rfl) (rI (Zb j rfl) (rB (Zb j rfl) (rI (Zb j rfl) (rB (Zb j rfl) (rS (Zb l rfl) (rS (Zb l rfl) (rB (Zb l rfl) (rI (Zb l rfl) (rI (Zb l rfl) (rS (Zb l rfl) (rI (Zb l rfl) (rI (Zb l rfl) (rI (Zb l rfl) (rB (Zb l rfl) (rI (Zb l rfl) (rB (Zb l rfl) (Zd (u x (v.trans I))))))))))))))))))))))))))
def ZDx(a b:YN):Bool:=bif Yr (Zx a.res) (Zx b.res)then(bif (a.grade:Int)==(b.grade:Int)then(bif a.cnt==b.cnt then(bif a.slow==b.slow then(bif a.least==b.least then(bif a.window==b.window then(bif a.recover==b.recover then true else false)else false)else false)else false)else false)else false)else false
theorem ZD4{h:Zf}{s w:Sl}{A B:List YN}(hs:Row h s 7 (A.flatMap Rw.Zdh))(hw:Row h w 7 (B.flatMap Rw.Zdh))(F:A.length<=256)(G:B.length<=256){K:Sl->Zf->Prop}(r:∀h' t,Ext h h'->Own h' (sz h) t 1 ((Zfi ZDx B A (List.replicate B.length false)).map iv)->K t h'):Z2 s w K h:=by
  unfold Z2 YE
  refine ZxJ (g:=Rw.Zdh) (n:=7) (T:=141) (same:=ZDx) (λ_=>rfl) (by decide) hs hw F G
    (ld1:=λb o h3 Q=>ldS h3 b o λt0=>ldI h3 b (o+1) .u8 λt1=>ldI h3 b (o+2) .i64 λt2=>ldI h3 b (o+3) .i64 λt3=>ldI h3 b (o+4) .i64 λt4=>ldI h3 b (o+5) .i64 λt5=>ldI h3 b (o+6) .i64 λt6=>newC h3 [Value.string (ByteArray.mk #[]),Value.int .u8 0,iv 0,iv 0,iv 0,iv 0,iv 0] 141 λl p=>sts p l 0 [Value.string t0,Value.int .u8 t1,iv t2,iv t3,iv t4,iv t5,iv t6] λq=>Q l q)
    (ld2:=λb o h3 y Q=>ldS h3 b o λt0=>ldI h3 b (o+1) .u8 λt1=>ldI h3 b (o+2) .i64 λt2=>ldI h3 b (o+3) .i64 λt3=>ldI h3 b (o+4) .i64 λt4=>ldI h3 b (o+5) .i64 λt5=>ldI h3 b (o+6) .i64 λt6=>newC h3 [Value.string (ByteArray.mk #[]),Value.int .u8 0,iv 0,iv 0,iv 0,iv 0,iv 0] 141 λl p=>Zc y λi=>sts p l 0 [Value.string t0,Value.int .u8 t1,iv t2,iv t3,iv t4,iv t5,iv t6] λq=>Q l i q)
    (cmp:=λc d f Q=>ldS f c 0 λH=>ldI f c (0+1) .u8 λI=>ldI f c (0+2) .i64 λJ=>ldI f c (0+3) .i64 λL=>ldI f c (0+4) .i64 λM=>ldI f c (0+5) .i64 λN=>ldI f c (0+6) .i64 λO=>ldS f d 0 λP=>ldI f d (0+1) .u8 λR=>ldI f d (0+2) .i64 λS=>ldI f d (0+3) .i64 λU=>ldI f d (0+4) .i64 λV=>ldI f d (0+5) .i64 λW=>ldI f d (0+6) .i64 λX=>Zax (H,I,J,L,M,N,O,()) (P,R,S,U,V,W,X,()) Q f) ?_ ?_ ?_ r
  ·intro a Y o f Q e u;exact rS (e 0 _ rfl) (rI (e 1 _ rfl) (rI (e 2 _ rfl) (rI (e 3 _ rfl) (rI (e 4 _ rfl) (rI (e 5 _ rfl) (rI (e 6 _ rfl) (ZH λh1 c1 v C=>Zaw c1 λx m z D=>u x _ (v.then z λk r=>by subst r;exact Aqo _) (Aqo _) m)))))))
  ·intro a Y o f i Q e u;exact rS (e 0 _ rfl) (rI (e 1 _ rfl) (rI (e 2 _ rfl) (rI (e 3 _ rfl) (rI (e 4 _ rfl) (rI (e 5 _ rfl) (rI (e 6 _ rfl) (ZH λh1 c1 v C=>Za (Zaw c1 λx m z D=>u x _ (v.then z λk r=>by subst r;exact Aqo _) m))))))))
  ·intro a b c d f Q _ _ _ e hd u;refine rS (Zb e rfl) (rI (Zb e rfl) (rI (Zb e rfl) (rI (Zb e rfl) (rI (Zb e rfl) (rI (Zb e rfl) (rI (Zb e rfl) (rS (Zb hd rfl) (rI (Zb hd rfl) (rI (Zb hd rfl) (rI (Zb hd rfl) (rI (Zb hd rfl) (rI (Zb hd rfl) (rI (Zb hd rfl) (?_))))))))))))));unfold Zax Zcc;refine ZH λh1 c1 v C=>ZH λx m E D=>?_;have j:=Zj c1 E;exact rS (Zb j rfl) (rI (Zb j rfl) (rI (Zb j rfl) (rI (Zb j rfl) (rI (Zb j rfl) (rI (Zb j rfl) (rI (Zb j rfl) (rS (Zb m rfl) (rI (Zb m rfl) (rI (Zb m rfl) (rI (Zb m rfl) (rI (Zb m rfl) (rI (Zb m rfl) (rI (Zb m rfl) (Zd (u x (v.trans E))))))))))))))))
theorem ZkP{a b:Bool}:(bif a then b else false)=true↔a=true/\b=true:=by cases a<;>simp
theorem Zw3(a b:FlowP):Zw4 a b=true↔a=b:=by unfold Zw4;simp only[ZkP,Rw.ZgR,decide_eq_true_eq,beq_iff_eq,cond_true,Int.natCast_inj];cases a;cases b;simp[ZkP]
def ofL{α:Type}(nm:α->ByteArray)(res:ByteArray):List α->Nat->List Int
  |[],_=>[]
  |a::l,i=>if Yr (nm a) res=true then(i:Int)::ofL nm res l (i+1)else ofL nm res l (i+1)
theorem Zrl{α:Type}{A:List α}{nm:α->ByteArray}{res:ByteArray}{h:Zf}{b2 b4 J:Nat}(hx:J=A.length)(hA:A.length<=256){T2 M:TypeId}(T:obj h b2=some (.cells [.string res].toArray T2 (0,0)))(N:obj h b4=some (.cells [slV sl0].toArray M (0,0)))(y:b2≠b4)
    {body:(ByteArray->Zf->Prop)->Int->Zf->Prop} (U:∀(i:Nat) a d Q,A[i]?=some a->Upd (· = b4) h d->(∀h',Ext d h'->Q (nm a) h')->body Q i d)
    {K:Sl->Zf->Prop} (V:∀h' t,Upd (· = b4) h h'->Own h' (sz h) t 1 ((ofL nm res A 0).map iv)->K t h'):
    Yl (σ:=Int×Unit) (λW s o=>(λ(f:Int)=>Zl (decide (f<(J:Int))) (body (λt25 z=>Zhq f t25 (some ⟨b2,0,none⟩) (some ⟨b4,0,none⟩) (λB=>W (IntKind.wrap .i64 (f+1),()) B) z) f o) (ldL o b4 0 λt27=>K t27 o)) s.1) (0,()) h:=by
  have l4:=Zp N
  refine ZaE (λ(s:Int×Unit) d=>∃(i:Nat) (L:List Int) (t:Sl),s=((i:Int),())/\i<=A.length/\L.length<=i/\Upd (· = b4) h d/\obj d b4=some (.cells [slV t].toArray M (0,0))/\Own d (sz h) t 1 (L.map iv)/\L++ofL nm res (A.drop i) i=ofL nm res A 0) (λs _=>((A.length:Int)- s.1).toNat)
    ⟨0,[],sl0,rfl,Aye _,Aqo _,Upd.refl _ _,N,Own.nil _ _ _,rfl⟩ ?_
  rintro _ d ⟨i,L,t,rfl,X,hL,u,c,ho,g⟩ Q O;dsimp only;refine Zo (λq=>?_) λq=>?_
  ·have hi:i<A.length:=by omega
   have P:A[i]?=some A[i]:=Axy hi;have Y:A.drop i=A[i]::A.drop (i+1):=Aym hi;rw[Y]at g;generalize A[i]=a at P g;have C:IntKind.wrap .i64 ((i:Int)+1)=((i+1:Nat):Int):=wrS hi (by omega);have p:((A.length:Int)- ((i+1:Nat):Int)).toNat<((A.length:Int)- ((i:Nat):Int)).toNat:=by omega
   refine U i a d _ P u λv w=>?_;have D:=Zj c w;have Z:obj v b2=some (.cells [.string res].toArray T2 (0,0)):=Zj (YW T u y) w;have j:=u.trans (w.upd _);have E:=ho.congr (h':=v) λk b _ _=>w.old k (ho.lt b).2;unfold Zhq ZjF;rw[C];rw[show ofL nm res (a::A.drop (i+1)) i=if Yr (nm a) res=true then(i:Int)::ofL nm res (A.drop (i+1)) (i+1)else ofL nm res (A.drop (i+1)) (i+1)from rfl]at g;refine Zg (rS (Zb Z rfl) ⟨λF=>?_,λF=>?_⟩)
   ·rw [if_pos F]at g
    refine Zg (rL (Zb D rfl) (ZH λr c6 m z6=>(Zje c6 rfl).rd ?_));have o6:=E.congr (h':=r) λk b _ _=>m.old k (E.lt b).2;have tl:t.len=L.length:=by have:=ho.len;simp at this;omega
    have af:sz r=sz v+1:=z6;have w5:sz h<=sz v:=j.size;refine o6.app (n:=1) rfl rfl rfl (by omega) (by omega) (by show sz h<=sz r;omega) λt7 h7 o7 _ x b7=>Zg ?_;have R:t.blk≠some b4:=λe=>by have:=(ho.lt e).1;omega
    refine Zbs (YW (Zj D m) x R) (show 0<1 by decide) Zbf λo c8 u8 z8=>?_;have aj:r.size=sz r:=rfl
    have G:t7.blk≠some b4:=λe=>by
      rcases b7 with l|l
      ·exact R (l▸e)
      ·rw[l]at e;cases e;omega
    have H:Upd (· = b4) h o:=⟨Aqp j.size (Aqp m.size (Aqp x.size u8.size)),λk b S=>by
      have ak:k<sz h:=b
      rw[u8.old k (Aqq (Aqq (Aqq b j.size) m.size) x.size) S,x.old k (Aqq (Aqq b j.size) m.size) (λl=>by have:=(ho.lt l).1;omega),m.old k (Aqq b j.size),j.old k b S]⟩
    refine O _ _ ⟨i+1,L++[(i:Int)],t7,rfl,hi,by simp;omega,H,c8,?_,by rw[<-g,Ayw];rfl⟩ p;rw[Ayu];exact o7.congr λk b I _=>u8.old k I λl=>G (l▸b)
   ·rw[if_neg (by rw[F];decide)]at g;exact O _ _ ⟨i+1,L,t,rfl,hi,by omega,j,D,E,g⟩ p
  ·have hd:A.drop i=[]:=Ayo (by omega);rw[hd,show ofL nm res [] i=[]from rfl,Ayr]at g;rw[g]at ho;exact rL (Zb c rfl) (V d t u ho)
abbrev Zr0(x:Sl):(ByteArray->Zf->Prop)->Int->Zf->Prop:=λQ i a=>YI x.ptr x.len i 12 λb o=>ldS a b o λt0=>ldS a b (o+1) λt1=>ldB a b (o+2) λt2=>ldI a b (o+3) .i64 λt3=>ldI a b (o+4) .u8 λt4=>ldS a b (o+5) λt5=>ldI a b (o+6) .u8 λt6=>ldI a b (o+7) .i64 λt7=>ldI a b (o+8) .i64 λt8=>ldB a b (o+9) λt9=>ldI a b (o+10) .i64 λt10=>ldB a b (o+11) λt11=>newC a [Value.string (ByteArray.mk #[]),Value.string (ByteArray.mk #[]),Value.bool false,iv 0,Value.int .u8 0,Value.string (ByteArray.mk #[]),Value.int .u8 0,iv 0,iv 0,Value.bool false,iv 0,Value.bool false] 69 λc e=>Zc i λ_=>sts e c 0 [Value.string t0,Value.string t1,Value.bool t2,iv t3,Value.int .u8 t4,Value.string t5,Value.int .u8 t6,iv t7,iv t8,Value.bool t9,iv t10,Value.bool t11] λd=>ldS d c 0 λt25=>Q t25 d
theorem ZDQ{A:List FlowP}{x:Sl}{h0:Zf}{b4:Nat}(h:Row h0 x 12 (A.flatMap Rw.Ze9))(j:x.len≠0->x.blk≠some b4):∀(i:Nat) a e (Q:ByteArray->Zf->Prop),A[i]?=some a->Upd (· = b4) h0 e->(∀h',Ext e h'->Q ((λf=>Zx f.res) a) h')->
    Zr0 x Q i e:=by
  intro i a e Q l u m;obtain⟨b,o,_,_,d,c⟩:=Za5 (g:=Rw.Ze9) (n:=12) (λ_=>rfl) (Zdj h j u) l (by decide);exact d rfl (rS (c 0 _ rfl) (rS (c 1 _ rfl) (rB (c 2 _ rfl) (rI (c 3 _ rfl) (rI (c 4 _ rfl) (rS (c 5 _ rfl) (rI (c 6 _ rfl) (rI (c 7 _ rfl) (rI (c 8 _ rfl) (rB (c 9 _ rfl) (rI (c 10 _ rfl) (rB (c 11 _ rfl) (ZH λh1 c1 p v=>Za (Zaw c1 λq r s w=>rS (Zb r rfl) (m q (p.then s λk t=>by subst t;exact Aqo _))))))))))))))))
abbrev Zpt(x:Sl):(ByteArray->Zf->Prop)->Int->Zf->Prop:=λQ i a=>YI x.ptr x.len i 7 λb o=>ldS a b o λt0=>ldI a b (o+1) .u8 λt1=>ldI a b (o+2) .i64 λt2=>ldI a b (o+3) .i64 λt3=>ldI a b (o+4) .i64 λt4=>ldI a b (o+5) .i64 λt5=>ldI a b (o+6) .i64 λt6=>newC a [Value.string (ByteArray.mk #[]),Value.int .u8 0,iv 0,iv 0,iv 0,iv 0,iv 0] 141 λc e=>Zc i λ_=>sts e c 0 [Value.string t0,Value.int .u8 t1,iv t2,iv t3,iv t4,iv t5,iv t6] λd=>ldS d c 0 λt25=>Q t25 d
theorem ZAE{A:List YN}{x:Sl}{h0:Zf}{b4:Nat}(h:Row h0 x 7 (A.flatMap Rw.Zdh))(j:x.len≠0->x.blk≠some b4):∀(i:Nat) a e (Q:ByteArray->Zf->Prop),A[i]?=some a->Upd (· = b4) h0 e->(∀h',Ext e h'->Q ((λf=>Zx f.res) a) h')->
    Zpt x Q i e:=by
  intro i a e Q l u m;obtain⟨b,o,_,_,d,c⟩:=Za5 (g:=Rw.Zdh) (n:=7) (λ_=>rfl) (Zdj h j u) l (by decide);exact d rfl (rS (c 0 _ rfl) (rI (c 1 _ rfl) (rI (c 2 _ rfl) (rI (c 3 _ rfl) (rI (c 4 _ rfl) (rI (c 5 _ rfl) (rI (c 6 _ rfl) (ZH λh1 c1 p v=>Za (Zaw c1 λq r s w=>rS (Zb r rfl) (m q (p.then s λk t=>by subst t;exact Aqo _)))))))))))
abbrev Zun(x:Sl):(ByteArray->Zf->Prop)->Int->Zf->Prop:=λQ i a=>YI x.ptr x.len i 5 λb o=>ldS a b o λt0=>ldI a b (o+1) .i64 λt1=>ldI a b (o+2) .i64 λt2=>ldI a b (o+3) .i64 λt3=>ldL a b (o+4) λt4=>newC a [Value.string (ByteArray.mk #[]),iv 0,iv 0,iv 0,Value.slice none 0 0] 72 λc e=>Zc i λ_=>sts e c 0 [Value.string t0,iv t1,iv t2,iv t3,Value.slice t4.ptr t4.len t4.cap] λd=>ldS d c 0 λt25=>Q t25 d
theorem ZGs{A:List (Sl×Zen)}{x:Sl}{h0:Zf}{b4:Nat}(h:Row h0 x 5 (A.flatMap Rw.Zlf))(j:x.len≠0->x.blk≠some b4):∀(i:Nat) a e (Q:ByteArray->Zf->Prop),A[i]?=some a->Upd (· = b4) h0 e->(∀h',Ext e h'->Q ((λf=>Zx f.2.res) a) h')->
    Zun x Q i e:=by
  intro i a e Q l u m;obtain⟨b,o,_,_,c,d⟩:=Za5 (g:=Rw.Zlf) (n:=5) (λ_=>rfl) (Zdj h j u) l (by decide);exact c rfl (rS (d 0 _ rfl) (rI (d 1 _ rfl) (rI (d 2 _ rfl) (rI (d 3 _ rfl) (rL (d 4 _ rfl) (ZH λh1 c1 p v=>Za (Zaw c1 λq r s w=>rS (Zb r rfl) (m q (p.then s λk t=>by subst t;exact Aqo _)))))))))
abbrev ZrZ(x:Sl):(ByteArray->Zf->Prop)->Int->Zf->Prop:=λQ i d=>YI x.ptr x.len i 3 λb o=>ldS d b o λt0=>ldB d b (o+1) λt1=>ldL d b (o+2) λt2=>newC d [Value.string (ByteArray.mk #[]),Value.bool false,Value.slice none 0 0] 147 λa e=>Zc i λ_=>sts e a 0 [Value.string t0,Value.bool t1,Value.slice t2.ptr t2.len t2.cap] λc=>ldS c a 0 λt25=>Q t25 c
theorem ZDP{A:List (Sl×Zbt)}{x:Sl}{h0:Zf}{b4:Nat}(h:Row h0 x 3 (A.flatMap Rw.Zix))(j:x.len≠0->x.blk≠some b4):∀(i:Nat) a d (Q:ByteArray->Zf->Prop),A[i]?=some a->Upd (· = b4) h0 d->(∀h',Ext d h'->Q ((λf=>Zx f.2.res) a) h')->
    ZrZ x Q i d:=by
  intro i a d Q l u m;obtain⟨b,o,_,_,c,e⟩:=Za5 (g:=Rw.Zix) (n:=3) (λ_=>rfl) (Zdj h j u) l (by decide);exact c rfl (rS (e 0 _ rfl) (rB (e 1 _ rfl) (rL (e 2 _ rfl) (ZH λh1 c1 p v=>Za (Zaw c1 λq r s w=>rS (Zb r rfl) (m q (p.then s λk t=>by subst t;exact Aqo _)))))))
theorem ZsX{α β:Type}{nm:β->ByteArray}{res:ByteArray}{f:α->β}:∀(l:List α) (i:Nat),ofL (λa=>nm (f a)) res l i=ofL nm res (l.map f) i
  |[],_=>rfl
  | a::l,i=>by
    show(if _ then _ else _)=(if _ then _ else _);rw[ZsX l (i+1)]
def ofK(r:RulesP)(kind:Int)(res:ByteArray):List Int:=if kind=1 then ofL (λf:FlowP=>Zx f.res) res r.fl 0 else if kind=2 then ofL (λf:YN=>Zx f.res) res r.br 0 else if kind=3 then ofL (λf:Zen=>Zx f.res) res r.ho 0
  else if kind=4 then ofL (λ_:Zav=>res) res r.sy 0 else if kind=5 then ofL (λf:Zbt=>Zx f.res) res r.li 0 else []
theorem ZOu{h:Zf}{S:Nat->Prop}{z:Rw.VTR}{r:RulesP}(x:Rw.YY h S z r)(y:∀b,S b->b<sz h)(hl:ZvZ r){kind:Int}{res:ByteArray}{K:Sl->Zf->Prop}(W:∀h' t,Ext h h'->Own h' (sz h) t 1 ((ofK r kind res).map iv)->K t h'):ZaO z kind res K h:=by
  unfold ZaO Zl3;refine ZH λh1 c1 X Y=>ZH λj Z T z2=>ZH λh3 v G z3=>?_;have w1:sz h1=sz h+1:=Y;have w2:sz j=sz h1+1:=z2;have w3:sz h3=sz j+1:=z3;have c:=(X.trans T).trans G;have m:=Zj (Zj c1 T) G;have d:=Zj Z G;have ne:sz h1≠sz j:=by omega
  have fin:∀{h':Zf} {t:Sl} {L:List Int},Upd (· = sz j) h3 h'->Own h' (sz h3) t 1 (L.map iv)->L=ofK r kind res->K t h':=λ{h' t L} u o e=>by
    subst e;exact W h' t (c.then u λk H=>by rw[H];show sz h<=sz j;omega) (o.base (by omega))
  obtain⟨U,B,I,ae⟩:=x.ho;obtain⟨V,C,J,af⟩:=x.li;have M:=Zi7 x.fl y c;have N:=Zi7 x.br y c;have O:=Zi7 I y c;have rs:=Zi7 x.sy y c;have P:=Zi7 J y c;have lf:=hl.f;have lb:=hl.b;have lh:=hl.h;have ls:=hl.s;have ll:=hl.l;have ag:U.length=r.ho.length:=by rw[<-B,Ayt]
  have ah:V.length=r.li.length:=by rw[<-C,Ayt]
  have big:sz h<=sz j:=by omega
  refine Zd (Z0 (λq=>?_) λq=>Zd (Z0 (λw=>?_) λw=>Zd (Z0 (λD=>?_) λD=>Zd (Z0 (λE=>?_) λE=>Zd (Z0 (λR=>?_) λR=>?_)))))
  ·exact rL (s:=z.1) (Zb m rfl) (Zrl (body:=Zr0 z.1) (b2:=sz h1) (b4:=sz j) (Zal (g:=Rw.Ze9) (n:=12) (λ_=>rfl) M.1 (by decide)) lf d v ne (ZDQ M.1 (M.2 _ big)) λh' t u o=>fin u o (by unfold ofK;rw[if_pos q]))
  ·exact rL (s:=z.2.1) (Zb m rfl) (Zrl (body:=Zpt z.2.1) (b2:=sz h1) (b4:=sz j) (Zal (g:=Rw.Zdh) (n:=7) (λ_=>rfl) N.1 (by decide)) lb d v ne (ZAE N.1 (N.2 _ big)) λh' t u o=>fin u o (by unfold ofK;rw[if_neg q,if_pos w]))
  ·exact rL (s:=z.2.2.1) (Zb m rfl) (Zrl (body:=Zun z.2.2.1) (b2:=sz h1) (b4:=sz j) (Zal (g:=Rw.Zlf) (n:=5) (λ_=>rfl) O.1 (by decide)) (by omega) d v ne (ZGs O.1 (O.2 _ big)) λh' t u o=>fin u o (by unfold ofK;rw[if_neg q,if_neg w,if_pos D,<-B];exact ZsX (nm:=λf:Zen=>Zx f.res) (f:=λp:Sl×Zen=>p.2) U 0))
  ·exact rL (s:=z.2.2.2.1) (Zb m rfl) (Zrl (A:=r.sy) (nm:=λ_=>res) (b2:=sz h1) (b4:=sz j) (body:=λQ i F=>Zc i λ_=>ldS F (sz h1) 0 λt=>Q t F) (Zal (g:=Rw.ZgQ) (n:=5) (λ_=>rfl) rs.1 (by decide)) ls d v ne (λi a F Q _ u hq=>Za (rS (Zb (YW d u ne) rfl) (hq F (Ext.refl _)))) λh' t u o=>fin u o (by unfold ofK;rw[if_neg q,if_neg w,if_neg D,if_pos E]))
  ·exact rL (s:=z.2.2.2.2.1) (Zb m rfl) (Zrl (body:=ZrZ z.2.2.2.2.1) (b2:=sz h1) (b4:=sz j) (Zal (g:=Rw.Zix) (n:=3) (λ_=>rfl) P.1 (by decide)) (by omega) d v ne (ZDP P.1 (P.2 _ big)) λh' t u o=>fin u o (by unfold ofK;rw[if_neg q,if_neg w,if_neg D,if_neg E,if_pos R,<-C];exact ZsX (nm:=λf:Zbt=>Zx f.res) (f:=λp:Sl×Zbt=>p.2) V 0))
  ·exact rL (s:=sl0) (Zb v rfl) (fin (L:=[]) (Upd.refl _ _) (Own.nil _ _ _) (by unfold ofK;rw[if_neg q,if_neg w,if_neg D,if_neg E,if_neg R]))
abbrev P4:=ByteArray×ByteArray×ByteArray×Bool×Unit
def Zbe(r:F12)(c:C8):P4:=if r.2.2.2.2.1=1 then(r.2.2.2.2.2.1,ByteArray.mk #[],ByteArray.mk #[],false,())else if r.2.2.2.2.1=2 then(if Yr c.2.2.1 r.2.2.2.2.2.1=true then(c.2.1,c.2.2.1,ByteArray.mk #[],false,())else(ByteArray.mk #[],ByteArray.mk #[],ByteArray.mk #[],true,()))
  else if Yr r.2.1 (ByteArray.mk #[100,101,102,97,117,108,116])=true then(c.2.1,ByteArray.mk #[],ByteArray.mk #[],false,())else(c.2.1,ByteArray.mk #[],c.2.2.2.1,false,())
theorem Ztp{r:F12}{c:C8}{h:Zf}{K:P4->Zf->Prop}(y:∀h',Ext h h'->K (Zbe r c) h'):Zb2 r c K h:=by
  unfold Zb2 ZhT;refine ZH λh1 c1 v D=>ZH λm z p E=>ZH λh3 A q z3=>?_;have g:=Zj (Zj c1 p) q;have f:=Zj z q;have s:=(v.trans p).trans q
  have fin:∀{a b d:ByteArray} {e:Bool},Zbe r c=(a,b,d,e,())->sts h3 m.size 0 [.string a,.string b,.string d,.bool e] λi=>ldS i m.size 0 λt9=>ldS i m.size (0+1) λt10=>ldS i m.size (0+2) λt11=>ldB i m.size (0+3) λt12=>K (t9,t10,t11,t12,()) i:=λ{a b d e} hv=>
    Zaw A λB o C z4=>rS (Zb o rfl) (rS (Zb o rfl) (rS (Zb o rfl) (rB (Zb o rfl) (hv▸y B (s.then C λk t=>by subst t;exact(v.trans p).size)))))
  have w:∀{b:Bool},(!b)=true->¬b=true:=λu i=>by rw[i]at u;cases u
  have x:∀{b:Bool},(!b)=false->b=true:=λ{b} u=>by cases b<;>simp_all
  refine rI (Zb g rfl) (Zd (Z0 (λl=>rS (Zb g rfl) (fin (if_pos l))) λl=>Zd (Z0 (λn=>rS (Zb f rfl) (rS (Zb g rfl) ⟨λj=>?_,λj=>?_⟩)) λn=>rS (Zb g rfl) ⟨λj=>?_,λj=>?_⟩)))
  ·exact fin ((if_neg l).trans ((if_pos n).trans (if_neg (w j))))
  ·exact rS (Zb f rfl) (rS (Zb f rfl) (fin ((if_neg l).trans ((if_pos n).trans (if_pos (x j))))))
  ·exact rS (Zb f rfl) (rS (Zb f rfl) (fin ((if_neg l).trans ((if_neg n).trans (if_neg (w j))))))
  ·exact rS (Zb f rfl) (fin ((if_neg l).trans ((if_neg n).trans (if_pos (x j)))))
def ZAx(r:F12)(passed a count:Int):Bool:=if r.2.2.1=true then decide (a<r.2.2.2.1)else if passed<0/\IntKind.wrap .i64 (r.2.2.2.1-passed)<r.2.2.2.1 then true else if passed>=0/\IntKind.wrap .i64 (r.2.2.2.1-passed)>r.2.2.2.1 then false else decide (count<=IntKind.wrap .i64 (r.2.2.2.1-passed))
theorem ZBg{r:F12}{passed a count:Int}{h:Zf}{K:Bool->Zf->Prop}(f:∀h',Ext h h'->K (ZAx r passed a count) h'):ZeA r passed a count K h:=by
  unfold ZAx at f;unfold ZeA Zhb;refine ZH λh1 c1 g j=>rB (Zb c1 rfl) ⟨λq=>rI (Zb c1 rfl) (Zd ?_),λq=>rI (Zb c1 rfl) (Za ?_)⟩
  ·have:=f h1 g;rwa[if_pos (show r.2.2.1=true from q)]at this
  have e:=f h1 g;rw[if_neg (show ¬r.2.2.1=true from λb=>by rw[show r.2.2.1=false from q]at b;cases b)]at e
  have second:¬(passed<0/\IntKind.wrap .i64 (r.2.2.2.1-passed)<r.2.2.2.1)->Zl (decide (passed>=0)) (ldI h1 h.size (0+3) .i64 λt7=>Zq (decide (IntKind.wrap .i64 (r.2.2.2.1-passed)>t7)) λt8=>Zl t8 (K false h1) (Zq (decide (count<=IntKind.wrap .i64 (r.2.2.2.1-passed))) λt9=>K t9 h1)) (Zq (decide (count<=IntKind.wrap .i64 (r.2.2.2.1-passed))) λt10=>K t10 h1):=λi=>by
    rw[if_neg i]at e;refine Zo (λc=>rI (Zb c1 rfl) (Zd (Zo (λd=>?_) λd=>Zd ?_))) λc=>Zd ?_
    ·rwa[if_pos ⟨c,d⟩]at e
    ·rwa[if_neg λb=>d b.2]at e
    ·rwa[if_neg λb=>c b.1]at e
  refine Zo (λc=>rI (Zb c1 rfl) (Zd (Zo (λd=>?_) λd=>second λb=>d b.2))) λc=>second λb=>c b.1;rwa[if_pos ⟨c,d⟩]at e
theorem ZA4(b:ByteArray):∃t:BL,b=Zx t:=⟨b.data.toList,by
  cases b
  simp[Zx]⟩
theorem ZuC(f:Zbt)(origin:ByteArray):∃b:Bool,∀{h:Zf} {x:Sl} {K:Bool->Zf->Prop},(f.res.length<9223372036854775807/\∀n,n∈f.origins->n.length<9223372036854775807)->Row h x 1 (f.origins.map Rw.sV)->(∀h',Ext h h'->K b h')->Zej (Rw.ZGB x f) origin K h:=by
  obtain⟨t,rfl⟩:=ZA4 origin
  by_cases q:f.err=0
  case neg=>
    refine⟨false,λ{h x K} hl d e=>?_⟩;unfold Zej Zf3;refine ZH λh1 c1 a i=>rS (Zb c1 rfl) (rB (Zb c1 rfl) (rL (Zb c1 rfl) (Rw.Zhu (f:=f) (x:=x) hl (d.ext a) λg c=>Zn (by simpa using q) (e g (a.trans c)))))
  by_cases j:Yr (Zx t) (ByteArray.mk #[])=true
  ·refine⟨true,λ{h x K} hl d e=>?_⟩;unfold Zej Zf3;refine ZH λh1 c1 a i=>rS (Zb c1 rfl) (rB (Zb c1 rfl) (rL (Zb c1 rfl) (Rw.Zhu (f:=f) (x:=x) hl (d.ext a) λg c=>Zi (by rw[q];rfl) (Zn j (e g (a.trans c))))))
  ·refine ⟨decide (t∈f.origins)==f.white,λ{h x K} hl d e=>?_⟩
   unfold Zej Zf3;have k:Yr (Zx t) (ByteArray.mk #[])=false:=by simpa using j
   refine ZH λh1 c1 a i=>rS (Zb c1 rfl) (rB (Zb c1 rfl) (rL (Zb c1 rfl) (Rw.Zhu (f:=f) (x:=x) hl (d.ext a) λg c=>Zi (by rw[q];rfl) (Zi k (rL (s:=x) (Zb (Zj c1 c) rfl) ?_)))));exact⟨(decide (t∈f.origins),()),Rw.ZnU (d.ext (a.trans c)) ⟨rfl,rfl⟩,rB (Zb (Zj c1 c) rfl) (Zd (e g (a.trans c)))⟩
abbrev ZGb:ByteArray:=ByteArray.mk #[100,101,102,97,117,108,116]
abbrev ZOj:ByteArray:=ByteArray.mk #[111,116,104,101,114]
theorem Zf4(f:FlowP):(Rw.Ze9 f).length=12:=rfl
def ZtH(f:FlowP)(origin:ByteArray)(r:FlowP):Bool:=if Yr (Zx r.res) (Zx f.res)=true then(if Yr (Zx r.org) origin=true then(if Yr origin ZGb=true then false else !(Yr origin ZOj))else false)else false
theorem Zu5{A:List FlowP}{x:Sl}{h:Zf}{d1 d2 d3 i:Nat}{f:FlowP}{origin:ByteArray}{T1 T2 w:TypeId}(u:Row h x 12 (A.flatMap Rw.Ze9))(y:A[i]?=some f)(c1:obj h d1=some (.cells [slV x].toArray T1 (0,0)))(z:obj h d2=some (.cells [iv i].toArray T2 (0,0)))(B:obj h d3=some (.cells [.string origin].toArray w (0,0))){K:Bool->Zf->Prop}(C:∀h',Ext h h'->K (decide (ixV (ZtH f origin) A>=0)) h'):
    ZF x (some ⟨d1,0,none⟩,some ⟨d2,0,none⟩,some ⟨d3,0,none⟩,()) K h:=by
  unfold ZF ZY Yb Yh;refine Zj3 Zf4 u (by decide) (p:=ZtH f origin) (tst:=λQ b o h3=>ldS h3 b o λt0=>ldS h3 b (o+1) λt1=>ldB h3 b (o+2) λt2=>ldI h3 b (o+3) .i64 λt3=>ldI h3 b (o+4) .u8 λt4=>ldS h3 b (o+5) λt5=>ldI h3 b (o+6) .u8 λt6=>ldI h3 b (o+7) .i64 λt7=>ldI h3 b (o+8) .i64 λt8=>ldB h3 b (o+9) λt9=>ldI h3 b (o+10) .i64 λt10=>ldB h3 b (o+11) λt11=>Zcu (t0,t1,t2,t3,t4,t5,t6,t7,t8,t9,t10,t11,()) (some ⟨d1,0,none⟩) (some ⟨d2,0,none⟩) (some ⟨d3,0,none⟩) Q h3) ?_ λh3 D=>Zd (C h3 D);intro j a b o G Q H he c E;refine rS (c 0 _ rfl) (rS (c 1 _ rfl) (rB (c 2 _ rfl) (rI (c 3 _ rfl) (rI (c 4 _ rfl) (rS (c 5 _ rfl) (rI (c 6 _ rfl) (rI (c 7 _ rfl) (rI (c 8 _ rfl) (rB (c 9 _ rfl) (rI (c 10 _ rfl) (rB (c 11 _ rfl) (?_))))))))))));unfold Zcu Ze1;refine ZH λF v g z4=>rS (Zb v rfl) (Zg (rL (s:=x) (Zb (Zj (Zj c1 he) g) rfl) (Zg (rI (Zb (Zj (Zj z he) g) rfl) ?_))));obtain⟨I,J,_,_,k,r⟩:=Za5 Zf4 (u.ext (he.trans g)) y (by decide);have t:=Zj (Zj B he) g;have q:=E F (he.trans g);unfold ZtH at q;refine k rfl (rS (r 0 _ rfl) ⟨λl=>rS (Zb v rfl) (Zg (rS (Zb t rfl) ⟨λn=>Zg (rS (Zb t rfl) ⟨λm=>Zg (rS (Zb t rfl) (Zd ?_)),λm=>?_⟩),λn=>?_⟩)),λl=>?_⟩)
  ·have e:¬Yr origin ZGb=true:=λd=>by rw[d]at m;cases m
   rwa[if_pos l,if_pos n,if_neg e]at q
  ·have e:Yr origin ZGb=true:=by cases d:Yr origin ZGb with
     |true=>rfl
     |false=>rw[d]at m;cases m
   rwa[if_pos l,if_pos n,if_pos e]at q
  ·rwa[if_pos l,if_neg (λd=>by rw[show Yr (Zx a.org) origin=false from n]at d;cases d)]at q
  ·rwa[if_neg (λd=>by rw[show Yr (Zx a.res) (Zx f.res)=false from l]at d;cases d)]at q
def ZEF(A:List FlowP)(f:FlowP)(origin:ByteArray):Bool:=if Yr (Zx f.org) ZGb=true then true else if Yr (Zx f.org) origin=true then true else if Yr (Zx f.org) ZOj=true then !decide (ixV (ZtH f origin) A>=0)else false
theorem ZtA{A:List FlowP}{i:Nat}{f:FlowP}(k:A[i]?=some f)(D:A.length<=256)(origin:ByteArray){h:Zf}{x:Sl}{K:Bool->Zf->Prop}(l:Row h x 12 (A.flatMap Rw.Ze9))(m:∀h',Ext h h'->K (ZEF A f origin) h'):XZ x i origin K h:=by
  have v:=Zbn k;unfold ZEF at m;unfold XZ Zgk;have E:=Zal Zf4 l (by decide);refine ZH λh1 c1 w F=>ZH λG y r H=>ZH λh3 t n z3=>?_;have a:=Zj (Zj c1 r) n;have c:=Zj y n;have d:=(w.trans r).trans n;have o:=m h3 d;refine rI (Zb c rfl) (Zi (decide_eq_false (by omega)) (rI (Zb c rfl) (rL (s:=x) (Zb a rfl) (Zi (decide_eq_false (by omega)) (rL (s:=x) (Zb a rfl) (rI (Zb c rfl) ?_))))));obtain⟨I,J,_,_,j,p⟩:=Za5 Zf4 (l.ext d) k (by decide);have ff:∀{b:Bool},b=false->¬b=true:=λz u=>by rw[z]at u;cases u
  refine j rfl (rS (p 1 _ rfl) (Zd ⟨λe=>⟨λ_=>?_,λg=>?_⟩,λe=>rS (Zb t rfl) (Zd ⟨λg=>?_,λg=>Zd ⟨λq=>rL (s:=x) (Zb a rfl) (Zu5 (l.ext d) k a c t λB C=>Zd ?_),λq=>?_⟩⟩)⟩))
  ·rwa[if_pos e]at o
  ·exact(ff g e).elim
  ·rwa[if_neg (ff e),if_pos g]at o
  ·have:=m B (d.trans C);rwa[if_neg (ff e),if_neg (ff g),if_pos q]at this
  ·rwa[if_neg (ff e),if_neg (ff g),if_neg (ff q)]at o
theorem ZsS{n:Nat}{it:Yld->Nat->(Zf->Prop)->Zf->Prop}{body:Nat->Loop->List Value->Zf->(Option Code->Zf->Prop)->Prop}{h:Zf}{K:Option Code->Nat->Zf->Prop}
    (a:∀r h1,obj h1 (sz h)=some (.deferred (some []))->obj h1 (sz h+1)=some (Zdk r .ready none)->Ext h h1->sz h1=sz h+2 ->
      it (ZoD r (sz h+1) n (body (sz h+1) r)) (sz h+1) (λh'=>∃st p,st≠ .busy/\(obj h' (sz h+1)=some (Zdk r st p)/\K p (sz h) (ZmX h' (sz h+1) (Zdk r .exhausted p)))) h1):ZoS n it body h K:=by
  rw[Znb];intro r;refine a r _ ?_ ?_ (XW (XW (Ext.refl h))) ?_
  ·rw[ZmA,if_neg (by rw[Zbv];omega),ZmA,if_pos rfl]
  ·rw[ZmA,if_pos (by rw[Zbv])]
  ·rw[Zbv,Zbv]
theorem Zh3{h:Zf}{l:Nat}{x y:Obj}(a:obj h l=some x){K:Zf->Prop}(b:∀h1,obj h1 l=some y->Upd (· = l) h h1->sz h1=sz h->K h1):K (ZmX h l y):=
  b _ (by rw[YU (Zp a),if_pos rfl]) (Zhm (Upd.refl _ _) (.inr rfl)) Y3
theorem ZsG{r:Loop}{l n:Nat}{body:List Value->Zf->(Option Code->Zf->Prop)->Prop}{vs:List Value}{k:Bool->Zf->Prop}{h:Zf}(hl:vs.length=n)(a:obj h l=some (Zdk r .ready none))
    (b:body vs h λp h'=>(obj h' l=some (Zdk r .busy none)/\k p.isNone (ZmX h' l (Zdk r (if p.isNone then .ready else .done) p)))):ZoD r l n body l vs k h:=⟨rfl,hl,a,b⟩
theorem ZvO{r:Loop}{l:Nat}{h:Zf}{K:Zf->Prop}(a:obj h l=some (Zdk r .ready none))(b:∀h1,obj h1 l=some (Zdk r .busy none)->Upd (· = l) h h1->sz h1=sz h->K h1):Ztj r l h K:=by rw[ZqF];exact⟨a,Zh3 a b⟩
theorem Zu9{D:Nat}{h:Zf}{K:Zf->Prop}(hd:obj h D=some (.deferred (some [])))(a:∀h1,Upd (· = D) h h1->sz h1=sz h->K h1):ZkV D h K:=by rw[Zp2];exact⟨hd,Zh3 hd λh1 _ u z=>a h1 u z⟩
def Zgu(cb:Nat->Bool)(c:C8):List FlowP->Nat->List Int
  |[],_=>[]
  |f::l,i=>if Yr (Zx f.res) c.2.1=true/\cb i=true/\(Zbe (Rw.ZcW f) c).2.2.2.1=false then(i:Int)::Zgu cb c l (i+1)else Zgu cb c l (i+1)
def cbK(A:List FlowP)(c:C8)(i:Nat):Bool:=match A[i]? with
  |some f=>ZEF A f c.2.2.2.1
  |none=>false
def Zrp(A:List FlowP)(c:C8):List Int:=Zgu (cbK A c) c A 0
theorem ZHf{A:List FlowP}(hA:A.length<=256){c:C8}{h:Zf}{s:Sl}{K:Sl->Zf->Prop}(hs:Row h s 12 (A.flatMap Rw.Ze9))(hk:∀h' t,Ext h h'->Own h' (sz h) t 1 ((Zrp A c).map iv)->K t h'):Zgz s c K h:=by
  have ai:∀(i:Nat) f,A[i]?=some f->∀{h:Zf} {x:Sl} {K:Bool->Zf->Prop},Row h x 12 (A.flatMap Rw.Ze9)->(∀h',Ext h h'->K (cbK A c i) h')->XZ x i c.2.2.2.1 K h:=λi f hf {h x K} h1 P=>by
    unfold cbK at P;rw[hf]at P;exact ZtA hf hA c.2.2.2.1 h1 P
  unfold Zrp at hk;generalize cbK A c=cb at ai hk;unfold Zgz ZiM;have hl:=Zal Zf4 hs (by decide);refine ZH λh1 c1 e1 z1=>ZH λP c2 e2 z2=>?_;have R:=Zj c1 e2;refine rI (Zb R rfl) (rS (Zb R rfl) (rS (Zb R rfl) (rS (Zb R rfl) (rB (Zb R rfl) (rI (Zb R rfl) (rL (s:=c.2.2.2.2.2.2.1) (Zb R rfl) ?_))))));unfold Zgy ZiL;refine ZH λh3 c3 e3 z3=>ZH λg c4 e4 z4=>ZsS λr C d5 r5 e5 z5=>?_;have w1:sz h1=sz h+1:=z1;have w2:sz P=sz h1+1:=z2;have w3:sz h3=sz P+1:=z3;have w4:sz g=sz h3+1:=z4;have w5:sz C=sz g+2:=z5;have x5:=Zj R ((e3.trans e4).trans e5);have s5:=Zj c2 ((e3.trans e4).trans e5);have a5:=Zj c3 (e4.trans e5);have b5:=Zj c4 e5;have aL:Ext h C:=(((e1.trans e2).trans e3).trans e4).trans e5;unfold Zez Zha
  refine Zg (rL (s:=s) (Zb a5 rfl) (ZaE (λ(p:Int×Unit) I=>∃(i:Nat) (L:List Int) (t:Sl),p=((i:Int),())/\i<=A.length/\L.length<=i/\Upd (λk=>k=sz h1\/k=sz g+1) C I/\obj I (sz h1)=some (.cells [slV t].toArray 60 (0,0))/\obj I (sz g+1)=some (Zdk r .ready none)/\Own I (sz C) t 1 (L.map iv)/\L++Zgu cb c (A.drop i) i=Zgu cb c A 0) (λp _=>((A.length:Int)- p.1).toNat)
    ⟨0,[],sl0,rfl,Aye _,Aqo _,Upd.refl _ _,s5,r5,Own.nil _ _ _,rfl⟩ ?_))
  rintro _ I ⟨i,L,t,rfl,bG,hL,u,sh,rh,ho,hm⟩ Q hQ;dsimp only;have keep:∀{j:Nat} {x:Obj},obj C j=some x->j≠sz h1->j≠sz g+1->obj I j=some x:=λ{j x} hj n1 n2=>YW hj u λe=>e.elim n1 n2;have wh:sz C<=sz I:=u.size;have dh:=keep d5 (by omega) (by omega)
  have T:Ext h I:=aL.then u λk a=>by rcases a with e|e<;>(rw[e];show sz h<=_;omega)
  refine Zo (λq=>?_) λq=>?_
  case refine_2=>
    have hd:A.drop i=[]:=Ayo (by omega);rw[hd,show Zgu cb c [] i=[]from rfl,Ayr]at hm;rw[hm]at ho;refine⟨.ready,none,by decide,rh,?_⟩;rw[Znw];refine Zh3 rh (K:=λhx=>ldL hx (sz h1) 0 λt46=>ZkV (sz g) hx λaN=>K t46 aN) λh6 c6 u6 z6=>?_;have s6:obj h6 (sz h1)=_:=(u6.old _ (Zp sh) (show ¬sz h1=sz g+1 by omega)).trans sh;have d6:obj h6 (sz g)=_:=(u6.old _ (Zp dh) (show ¬sz g=sz g+1 by omega)).trans dh;refine rL (s:=t) (Zb s6 rfl) (Zu9 d6 λh7 u7 z7=>hk h7 t ?_ ?_)
    ·exact(T.then u6 λk a=>by subst a;show sz h<=sz g+1;omega).then u7 λk a=>by subst a;show sz h<=sz g;omega
    ·exact((ho.congr λb U d aQ=>u6.old b d (by show ¬b=sz g+1;omega)).congr λb U d aQ=>u7.old b d (by show ¬b=sz g;omega)).base (by omega)
  have hi:i<A.length:=by omega
  have ga:A[i]?=some A[i]:=Axy hi;have dr:A.drop i=A[i]::A.drop (i+1):=Aym hi;rw[dr]at hm;generalize A[i]=f at ga hm;rw[show Zgu cb c (f::A.drop (i+1)) i=if Yr (Zx f.res) c.2.1=true/\cb i=true/\(Zbe (Rw.ZcW f) c).2.2.2.1=false then(i:Int)::Zgu cb c (A.drop (i+1)) (i+1)else Zgu cb c (A.drop (i+1)) (i+1)from rfl]at hm;have V:IntKind.wrap .i64 ((i:Int)+1)=((i+1:Nat):Int):=wrS hi (by omega);have W:((A.length:Int)- ((i+1:Nat):Int)).toNat<((A.length:Int)- ((i:Nat):Int)).toNat:=by omega
  have skip:∀{w:Zf},Ext I w->¬(Yr (Zx f.res) c.2.1=true/\cb i=true/\(Zbe (Rw.ZcW f) c).2.2.2.1=false)->Q (IntKind.wrap .i64 ((i:Int)+1),()) w:=λ{w} e9 X=>by
    rw[if_neg X]at hm;rw[V];exact hQ _ _ ⟨i+1,L,t,rfl,hi,by omega,u.trans (e9.upd _),Zj sh e9,Zj rh e9,ho.congr (λk a d _=>e9.old k d),hm⟩ W
  obtain⟨b,o,hb,bM,al,G⟩:=Za5 Zf4 (hs.ext T) ga (by decide);refine al rfl (rS (G 0 _ rfl) (rS (G 1 _ rfl) (rB (G 2 _ rfl) (rI (G 3 _ rfl) (rI (G 4 _ rfl) (rS (G 5 _ rfl) (rI (G 6 _ rfl) (rI (G 7 _ rfl) (rI (G 8 _ rfl) (rB (G 9 _ rfl) (rI (G 10 _ rfl) (rB (G 11 _ rfl) (ZH λh6 c6 e6 z6=>Za (Zaw c6 λh7 c7 u7 z7=>?_))))))))))))));have e7:Ext I h7:=e6.then u7 λk a=>by subst a;exact Aqo _
  have bh:=keep b5 (by show sz h3≠sz h1;omega) (by show sz h3≠sz g+1;omega);have ah:=keep a5 (by show sz P≠sz h1;omega) (by show sz P≠sz g+1;omega);have xh:=keep x5 (by show sz h≠sz h1;omega) (by show sz h≠sz g+1;omega);have b7:=Zj bh e7;refine rS (Zb c7 rfl) (Zg (rS (Zb b7 rfl) ⟨λq1=>Zg (rL (s:=s) (Zb (Zj ah e7) rfl) (Zg (rS (Zb b7 rfl) (ai i f ga (hs.ext (T.trans e7)) λh8 e8=>⟨λq2=>?_,λq2=>skip (e7.trans e8) λw=>by rw[w.2.1]at q2;cases q2⟩)))),λq1=>skip e7 λw=>by rw[show Yr (Zx f.res) c.2.1=false from q1]at w;cases w.1⟩));have H:=Zj c7 e8;have Y:=e7.trans e8;refine rS (Zb H rfl) (rS (Zb H rfl) (rB (Zb H rfl) (rI (Zb H rfl) (rI (Zb H rfl) (rS (Zb H rfl) (rI (Zb H rfl) (rI (Zb H rfl) (rI (Zb H rfl) (rB (Zb H rfl) (rI (Zb H rfl) (rB (Zb H rfl) ?_)))))))))));refine ZsG rfl (Zj rh Y) ⟨(i,Rw.ZcW f,()),rfl,Za (ZH λw c9 e9 z9=>Zaw c9 λJ aU aV bS=>?_)⟩;have an:Ext h8 J:=e9.then aV λk a=>by subst a;exact Aqo _
  have v:=Y.trans an;refine ZvO (Zj rh v) λE ao Z aW=>?_;have nr:∀{j:Nat} {x:Obj},obj J j=some x->j≠sz g+1->obj E j=some x:=λ{j x} hj X=>(Z.old j (Zp hj) X).trans hj;have w8:sz I<=sz h8:=Y.size;have bT:sz h8<=sz J:=an.size;have bU:sz E=sz J:=aW;have m:=nr aU (by show sz h8≠sz g+1;omega);have z:=nr (Zj xh v) (by show sz h≠sz g+1;omega);have O:=nr (Zj sh v) (by show sz h1≠sz g+1;omega);have D:Upd (λk=>k=sz h1\/k=sz g+1) C E:=(u.trans (v.upd _)).trans (Z.mono λk _ a=>.inr a);refine rS (Zb m rfl) (rS (Zb m rfl) (rB (Zb m rfl) (rI (Zb m rfl) (rI (Zb m rfl) (rS (Zb m rfl) (rI (Zb m rfl) (rI (Zb m rfl) (rI (Zb m rfl) (rB (Zb m rfl) (rI (Zb m rfl) (rB (Zb m rfl) ?_)))))))))));refine rI (Zb z rfl) (rS (Zb z rfl) (rS (Zb z rfl) (rS (Zb z rfl) (rB (Zb z rfl) (rI (Zb z rfl) (rL (s:=c.2.2.2.2.2.2.1) (Zb z rfl) ?_))))));have S:Own E (sz C) t 1 (L.map iv):=(ho.congr (h':=J) λk a d _=>v.old k d).congr λk a d U=>Z.old k d (by show ¬k=sz g+1;omega);refine Ztp (r:=Rw.ZcW f) (c:=c) λaY B=>⟨λq3=>?_,λq3=>?_⟩
  ·have qw:(Zbe (Rw.ZcW f) c).2.2.2.1=false:=by
     cases w:(Zbe (Rw.ZcW f) c).2.2.2.1 with
     |false=>rfl
     |true=>rw[w]at q3;cases q3
   rw[if_pos ⟨q1,q2,qw⟩]at hm;refine rL (s:=t) (Zb (Zj O B) rfl) (ZH λF aZ ba bV=>(Zje aZ rfl).rd ?_);have l:=B.trans ba;have tl:t.len=L.length:=by have:=ho.len;simp at this;omega
   have bW:sz E<=sz F:=l.size;have ar:=S.congr (h':=F) λk a d _=>l.old k d;refine ar.app (n:=1) rfl rfl rfl (by omega) (by omega) (by show sz C<=sz F;omega) λt9 bb au _ M bX=>?_;have tn:∀{j:Nat},j<sz C->t.blk≠some j:=λ{j} hj e=>by have:=(ho.lt e).1;omega
   have bt:F.size=sz F:=rfl;have av:∀{j:Nat},j<sz C->t9.blk≠some j:=λ{j} hj e=>by have:=(au.lt e).1;omega
   refine Zbs (YW (Zj O l) M (tn (show sz h1<sz C by omega))) (show 0<1 by decide) Zbf λbf aw N bY=>?_;have ax:obj bf (sz g+1)=_:=YW (YW (Zj ao l) M (tn (show sz g+1<sz C by omega))) N (by show ¬sz g+1=sz h1;omega);refine⟨ax,Zh3 (y:=Zdk r .ready none) ax (K:=λhx=>Zl (!(none:Option Code).isNone) _ _) λbg aa u16 bj=>Zi rfl ?_⟩;rw[V];refine hQ _ _ ⟨i+1,L++[(i:Int)],t9,rfl,hi,by simp;omega,?_,(u16.old _ (Zp aw) (show ¬sz h1=sz g+1 by omega)).trans aw,aa,?_,by rw[<-hm,Ayw];rfl⟩ W
   ·refine⟨Aqp (Aqp D.size (Aqp l.size M.size)) (Aqp N.size u16.size),λk a X=>?_⟩;have bk:k<sz C:=a;have ay:k<E.size:=Aqq a D.size;have az:k<F.size:=Aqq ay l.size;have aA:k<bb.size:=Aqq az M.size;rw[u16.old k (Aqq aA N.size) (λe=>X (.inr e)),N.old k aA (λe=>X (.inl e)),M.old k az (tn bk),l.old k ay,D.old k a X]
   ·rw[Ayu];exact(au.congr λk a d _=>N.old k d λe=>av (j:=sz h1) (by omega) (by rw[<-show k=sz h1 from e];exact a)).congr λk a d _=>u16.old k d λe=>av (j:=sz g+1) (by omega) (by rw[<-show k=sz g+1 from e];exact a)
  ·have qw:(Zbe (Rw.ZcW f) c).2.2.2.1=true:=by
     cases w:(Zbe (Rw.ZcW f) c).2.2.2.1 with
     |true=>rfl
     |false=>rw[w]at q3;cases q3
   have aB:=Zj ao B;refine⟨aB,Zh3 (y:=Zdk r .ready none) aB (K:=λhx=>Zl (!(none:Option Code).isNone) _ _) λbg aa u16 bj=>Zi rfl ?_⟩;rw[if_neg λw=>by rw[w.2.2]at qw;cases qw]at hm;rw[V];exact hQ _ _ ⟨i+1,L,t,rfl,hi,by omega,(D.trans (B.upd _)).trans (u16.mono λk _ a=>.inr a),(u16.old _ (Zp (Zj O B)) (show ¬sz h1=sz g+1 by omega)).trans (Zj O B),aa,(S.congr (h':=aY) λk a d _=>B.old k d).congr (λk a d U=>u16.old k d (by show ¬k=sz g+1;omega)),hm⟩ W
end Go.Proofs.YtonbfpnngkemiaaGreat
