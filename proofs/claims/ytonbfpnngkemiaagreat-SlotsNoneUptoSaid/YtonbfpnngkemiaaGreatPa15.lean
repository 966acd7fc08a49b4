/- Copies of rules: hots and lists, each with rows of its own. -/
import Derived.Test.YtonbfpnngkemiaaGreatPa14
set_option linter.unusedVariables false
set_option linter.unusedSimpArgs false
namespace Go.Proofs.YtonbfpnngkemiaaGreat
open Go Go.Fw Go.Js
abbrev R5o(a b c d e:Sl):Obj:=.cells [slV a,slV b,slV c,slV d,slV e].toArray 39 (0,0)
abbrev sl0:Sl:=⟨none,0,0⟩
theorem Zq3(p:Sl×ZdX):(Rw.ZjI p).length=5:=rfl
theorem ZBi(p:Sl×ZdX):(Rw.ZjI p).all Zs=true:=by simp[Rw.ZjI,Rw.i64,Rw.sV,ZdD,ZiQ,XC]
theorem ZcU{h h':Zf}{x:Sl}{n:Nat}{vs:List Value}(r:Row h x n vs){B:Nat}(c:x.len≠0->x.blk≠some B)(u:Upd (· = B) h h'):Row h' x n vs:=
  Rw.ZiP (S:=(· ≠ B)) r (λa b e d=>c a (d▸e)) λb hs hl=>u.old b hl hs
def Wb(h:Zf)(j:Nat):Prop:=∃c e,obj h j=some (.cells c e (0,0))
theorem Wb.keep{h h':Zf}{j:Nat}(w:Wb h j)(e:obj h' j=obj h j):Wb h' j:=by obtain⟨c,t,a⟩:=w;exact⟨c,t,e.trans a⟩
theorem _root_.Go.Fw.Own.wb{h:Zf}{base:Nat}{s:Sl}{n:Nat}{vs:List Value}(o:Own h base s n vs){b:Nat}(e:s.blk=some b):Wb h b:=by
  rcases o.at_ with⟨h0,_⟩ |⟨a,c,t,d,_,f,_⟩
  ·simp[Sl.blk,h0]at e
  ·have:a=b:=by simpa[Sl.blk,d]using e
   subst this;exact⟨c,t,f⟩
theorem Zyb{h:Zf}{s:Sl}{l:List (BL×Int)}(hs:Row h s 2 (Rw.Zds l))(hl:l.length<=100000000){K:Sl->Zf->Prop}(a:∀t h',Own h' h.size t 2 (Rw.Zds l)->Ext h h'->K t h'):ZO s K h:=by rw[<-ZuC]at hs a;exact ZmJ hs (by rw[Ayv];exact hl) a
theorem ZuD{h:Zf}{m:Nat}{x s5 s7 s9:Sl}{v:List (Sl×ZdX)}{hd:Zf->(Sl->Prop)->Prop}{cln:Sl->(Sl->Zf->Prop)->Zf->Prop}(M:∀(a:Zf) (K:Sl->Prop),Upd (· = m) h a->K x->hd a K)
    (ah:∀{h:Zf} {s:Sl} {l:List (BL×Int)},Row h s 2 (Rw.Zds l)->l.length<=100000000->∀{K:Sl->Zf->Prop},(∀t h',Own h' h.size t 2 (Rw.Zds l)->Ext h h'->K t h')->cln s K h) (hr:Row h x 5 (v.flatMap Rw.ZjI)) (hi:∀p,p∈v->Row h p.1 2 (Rw.Zds p.2.items)/\p.2.items.length<=100000000/\(p.1.len≠0->p.1.blk≠some m)) (hl:v.length<=100000000) (hx:x.len≠0->x.blk≠some m)
    (c:obj h m=some (R5o s5 s7 sl0 s9 sl0)) {J:Zf->Prop}
    (hJ:∀(h':Zf) (t:Sl) (d:List (Sl×ZdX)),d.map (·.2)=v.map (·.2)->Row h' t 5 (d.flatMap Rw.ZjI)->(∀b,t.blk=some b->sz h<=b/\b<sz h'/\Wb h' b)->(∀p,p∈d->Row h' p.1 2 (Rw.Zds p.2.items)/\∀b,p.1.blk=some b->(sz h<=b/\b<sz h'/\Wb h' b)/\t.blk≠some b)->obj h' m=some (R5o s5 s7 t s9 sl0)->Upd (· = m) h h'->J h'):
    ZP (σ:=Int×Unit) (λai aj j=>(λ(E:Int)=>
     hd j λx1=>Zk (decide (E<(x1.len:Int))) (
     hd j λx2=>Yk x2.ptr x2.len E 5 λA B=>ldS j A B λt37=>ldI j A (B+1) .i64 λt38=>ldI j A (B+2) .i64 λt39=>ldI j A (B+3) .i64 λt40=>ldL j A (B+4) λt41=>
     newC j [.string (ByteArray.mk #[]),iv 0,iv 0,iv 0,.slice none 0 0] 72 λn ak=>sts ak n 0 [.string t37,iv t38,iv t39,iv t40,.slice t41.ptr t41.len t41.cap] λN=>
     ldL N n (0+4) λt45=>cln t45 (λt46 al=>st al n (0+4) (.slice t46.ptr t46.len t46.cap) λr=>ldL r m (0+2) λt49=>
     ldS r n 0 λt50=>ldI r n (0+1) .i64 λt51=>ldI r n (0+2) .i64 λt52=>ldI r n (0+3) .i64 λt53=>ldL r n (0+4) λt54=>
     newC r [.string t50,iv t51,iv t52,iv t53,.slice t54.ptr t54.len t54.cap] 72 λan O=>
     rdS ⟨some ⟨an,0,none⟩,1,1⟩ 5 O λF=>app 72 5 64 [.string (ByteArray.mk #[]),iv 0,iv 0,iv 0,.slice none 0 0] t49 1 F O λt57 ao=>
     st ao m (0+2) (.slice t57.ptr t57.len t57.cap) λaq=>ai (IntKind.wrap .i64 (E+1),()) aq) N) (J j)) aj.1) (0,()) h:=by
  have aS:=Y2 Zq3 hr (by decide);have lB:=Zp c
  refine Zaj (λ(st:Int×Unit) a=>∃(i:Nat) (t:Sl) (d:List (Sl×ZdX)),st=((i:Int),())/\i<=v.length/\d.map (·.2)=(v.take i).map (·.2)/\Own a (sz h) t 5 (d.flatMap Rw.ZjI)/\(∀p,p∈d->Row a p.1 2 (Rw.Zds p.2.items)/\∀b,p.1.blk=some b->sz h<=b/\b<sz a/\t.blk≠some b/\Wb a b)/\obj a m=some (R5o s5 s7 t s9 sl0)/\Upd (· = m) h a) (λst _=>(v.length- st.1).toNat)
    ⟨0,sl0,[],rfl,Ayg _,rfl,Own.nil _ _ _,(λp v=>by cases v),c,Upd.refl _ _⟩ ?_
  rintro _ a ⟨i,t,d,rfl,aT,hm,ho,w,cB,u⟩ Q hQ;dsimp only;refine M _ _ u (Zn (λq=>?_) λq=>?_)
  ·obtain ⟨p,G⟩:∃p,v[i]?=some p:=⟨_,Axy (by omega)⟩
   obtain⟨r1,r2,r3⟩:=hi p (Axo G);have hlen:d.length=i:=by have:=congrArg List.length hm;simp at this;omega
   have aY:=Y2 Zq3 ho.row (by decide);have ar:sz h<=sz a:=u.size;obtain⟨b,o,_,_,P,g⟩:=Zab Zq3 (ZcU hr hx u) G (by decide);refine M _ _ u (P rfl (rS (g 0 _ rfl) (rI (g 1 _ rfl) (rI (g 2 _ rfl) (rI (g 3 _ rfl) (rL (g 4 _ rfl) (ZF λh3 c3 e3 z3=>ZaN c3 λD c4 u4 z4=>rL (Zb c4 rfl) ?_)))))));have e4:Ext a D:=e3.then u4 λk y=>by subst y;exact Aqo _
   have av:Upd (· = m) h D:=u.trans (e4.upd _);refine ah (l:=p.2.items) (ZcU r1 r3 av) r2 λt5 Z o5 e5=>?_;have bc:sz h3=sz a+1:=z3;have bd:sz D=sz h3:=z4;have bf:sz D<=sz Z:=e5.size;have bg:a.size=sz a:=rfl;have bh:D.size=sz D:=rfl;have bj:m<sz a:=Aqq lB ar;refine ZcS (Zj c4 e5) (show 0+4<5 by decide) XC λh6 R u6 z6=>?_;have T:=Y0 (Zj (Zj cB e4) e5) u6 (by show ¬m=a.size;omega);refine rL (Zb T rfl) (rS (Zb R rfl) (rI (Zb R rfl) (rI (Zb R rfl) (rI (Zb R rfl) (rL (Zb R rfl) (ZF λz c7 e7 z7=>?_))))));have bn:sz h6=sz Z:=z6;have bo:sz z=sz h6+1:=z7;have H:Ext a z:=((e4.trans e5).then u6 λk y=>by subst y;exact Aqo _).trans e7;have U:Row z ⟨some ⟨h6.size,0,none⟩,1,1⟩ 5 (Rw.ZjI (t5,p.2)):=ZkO c7 rfl;have ay:=ho.congr (h':=z) λk y _ _=>H.old k (ho.lt y).2;refine U.rd (Own.app ay rfl (ZBi _) rfl (by omega) (by omega) (by show sz h<=sz z;omega) λt8 h8 o8 l8 u8 b8=>?_);have tB:t.blk≠some m:=λe=>by have:=(ho.lt e).1;omega
   have az:=Y0 (Zj T e7) u8 tB;refine ZcS az (show 0+2<5 by decide) XC λC c9 u9 z9=>?_;rw[wrS (show i<v.length by omega) (by omega)];have aK:z.size=sz z:=rfl
   have I:∀b,t8.blk=some b->t.blk=some b\/b=sz z:=λb hb=>by
     rcases b8 with e|e
     ·exact .inl (e▸hb)
     ·rw[e]at hb;cases hb;exact .inr rfl
   have aC:t8.blk≠some m:=λe=>by
     rcases I _ e with e|e
     ·exact tB e
     ·omega
   have o9:Own C (sz h) t8 5 ((d++[(t5,p.2)]).flatMap Rw.ZjI):=by
     rw[Ayl];have:=o8.congr (h':=C) λk y L _=>u9.old k L λe=>aC (e▸y);simpa using this
   have b8:sz z<=sz h8:=u8.size;have bu:sz C=sz h8:=z9;have aL:sz a<=sz z:=H.size
   have old:∀k,k<sz a->k≠m->t.blk≠some k->obj C k=obj a k:=λk y hn ht=>by
     show C[k]?=a[k]?;rw[u9.old k (by show k<sz h8;omega) hn,u8.old k (by show k<sz z;omega) ht,H.old k y]
   have V:Upd (· = m) h C:=⟨by show sz h<=sz C;omega,λk y hn=>by
     have bx:k<sz h:=y;have:=old k (by omega) hn λe=>by have:=(ho.lt e).1;omega
     rw[show C[k]?=a[k]? from this,u.old k y hn]⟩
   refine hQ _ _ ⟨i+1,t8,d++[(t5,p.2)],rfl,by omega,?_,o9,λp' f=>?_,c9,V⟩ (by show((v.length:Int)- ((i+1:Nat):Int)).toNat<((v.length:Int)- ((i:Nat):Int)).toNat;omega)
   ·rw[Aym,G,Ayw,Ayw,hm];rfl
   ·rcases Axx.1 f with f|f
    ·obtain ⟨q1,q2⟩:=w p' f;refine⟨Rw.ZiP (S:=λb=>sz h<=b/\b<sz a/\t.blk≠some b) q1 (λ_ b e=>⟨(q2 b e).1,(q2 b e).2.1,(q2 b e).2.2.1⟩) λb hs L=>old b L (by omega) hs.2.2,λb e=>?_⟩;obtain⟨w1,w2,w3,w4⟩:=q2 b e;refine⟨w1,by omega,λW=>?_,w4.keep (old b w2 (by omega) w3)⟩
     rcases I _ W with X|X
     ·exact w3 X
     ·omega
    ·simp at f;subst f;dsimp only;have bl:∀b,t5.blk=some b->sz D<=b/\b<sz Z:=λb e=>o5.lt e;have tn:∀b,t.blk=some b->b<sz a:=λb e=>(ho.lt e).2
     have Y:Own C D.size t5 2 (Rw.Zds p.2.items):=o5.congr (h':=C) λb e _ _=>by
       have:=bl b e;rw[u9.old b (by show b<sz h8;omega) (by omega),u8.old b (by show b<sz z;omega) (λW=>by have:=tn b W;omega),e7.old b (by show b<sz h6;omega),u6.old b (by show b<sz Z;omega) (by omega)]
     refine⟨Y.row,λb e=>?_⟩;have:=bl b e;refine⟨by omega,by omega,λW=>?_,Y.wb e⟩
     rcases I _ W with X|X
     ·have:=tn b X;omega
     ·omega
  ·refine hJ a t d ?_ ho.row (λb e=>⟨(ho.lt e).1,(ho.lt e).2,ho.wb e⟩) (λp f=>⟨(w p f).1,λb e=>⟨⟨((w p f).2 b e).1,((w p f).2 b e).2.1,((w p f).2 b e).2.2.2⟩,((w p f).2 b e).2.2.1⟩⟩) cB u;rw[hm,Awd (by omega)]
theorem ZnZ(p:Sl×Zbi):(Rw.Zhp p).length=3:=rfl
theorem Zx0(p:Sl×Zbi):(Rw.Zhp p).all Zs=true:=by simp[Rw.Zhp,Rw.sV,ZqO,ZiQ,XC]
theorem Zqw{h:Zf}{s:Sl}{l:List BL}(hs:Row h s 1 (l.map Rw.sV))(hl:l.length<=100000000){K:Sl->Zf->Prop}
    (i:∀t h',Own h' h.size t 1 (l.map Rw.sV)->Ext h h'->K t h'):YP s K h:=by
  unfold YP Zaa;have d:s.len=l.length:=by have:=hs.len;simp at this;omega
  refine⟨λq=>?_,λq=>?_⟩
  ·rcases hs.at_ with h0|⟨b,o,j,r⟩
   ·have:l=[]:=Aqr (by omega);subst this;exact i _ _ (Own.nil _ _ _) (Ext.refl h)
   ·rw[j]at q;cases q
  ·rw [ZiU];have e:Ext h (h.push (.cells ([]:List Value).toArray 9 (0,0))):=Ext.push _ _;refine(hs.ext e).rd ?_;have ho:Own (h.push (.cells ([]:List Value).toArray 9 (0,0))) h.size ⟨some ⟨sz h,0,none⟩,0,0⟩ 1 []:=⟨rfl,Aqo _,(by show 0<9223372036854775808;decide),.inr ⟨sz h,#[],9,rfl,Aqo _,Zdi,rfl,rfl⟩⟩
   have a:(l.map Rw.sV).all Zs=true:=by
     rw[Axb];intro v hv;obtain⟨t,_,rfl⟩:=Axz.1 hv;exact ZiQ
   refine Own.app ho (by rw[Ayv,d];omega) a rfl (by show(0+s.len)*16<=140737488355328;omega) (by show 0+s.len<=140737488355328;omega) (show h.size<=_ from e.size) λt m f n g p=>?_;refine i t m ?_ (e.then g λk c=>?_)
   ·simpa using f
   ·simp[Sl.blk]at c;rw[YR,<-c];exact Aqo _
theorem Zr7{h:Zf}{g:Nat}{x s5 s7 s8 s9:Sl}{n:List (Sl×Zbi)}{hd:Zf->(Sl->Prop)->Prop}{cln:Sl->(Sl->Zf->Prop)->Zf->Prop}(M:∀(a:Zf) (K:Sl->Prop),Upd (· = g) h a->K x->hd a K)
    (ag:∀{h:Zf} {s:Sl} {l:List BL},Row h s 1 (l.map Rw.sV)->l.length<=100000000->∀{K:Sl->Zf->Prop},(∀t h',Own h' h.size t 1 (l.map Rw.sV)->Ext h h'->K t h')->cln s K h) (hr:Row h x 3 (n.flatMap Rw.Zhp)) (hi:∀p,p∈n->Row h p.1 1 (p.2.origins.map Rw.sV)/\p.2.origins.length<=100000000/\(p.1.len≠0->p.1.blk≠some g)) (hl:n.length<=100000000) (hx:x.len≠0->x.blk≠some g)
    (c:obj h g=some (R5o s5 s7 s8 s9 sl0)) {J:Zf->Prop}
    (hJ:∀(h':Zf) (t:Sl) (d:List (Sl×Zbi)),d.map (·.2)=n.map (·.2)->Row h' t 3 (d.flatMap Rw.Zhp)->(∀b,t.blk=some b->sz h<=b/\b<sz h'/\Wb h' b)->(∀p,p∈d->Row h' p.1 1 (p.2.origins.map Rw.sV)/\∀b,p.1.blk=some b->sz h<=b/\b<sz h'/\Wb h' b)->obj h' g=some (R5o s5 s7 s8 s9 t)->Upd (· = g) h h'->J h'):
    ZP (σ:=Int×Unit) (λah ai j=>(λ(C:Int)=>
     hd j λx1=>Zk (decide (C<(x1.len:Int))) (
     hd j λx2=>Yk x2.ptr x2.len C 3 λD E=>ldS j D E λt67=>ldB j D (E+1) λt68=>ldL j D (E+2) λt69=>
     newC j [.string (ByteArray.mk #[]),.bool false,.slice none 0 0] 147 λr aj=>sts aj r 0 [.string t67,.bool t68,.slice t69.ptr t69.len t69.cap] λN=>
     ldL N r (0+2) λt73=>cln t73 (λt74 ak=>st ak r (0+2) (.slice t74.ptr t74.len t74.cap) λy=>ldL y g (0+4) λt77=>
     ldS y r 0 λt78=>ldB y r (0+1) λt79=>ldL y r (0+2) λt80=>
     newC y [.string t78,.bool t79,.slice t80.ptr t80.len t80.cap] 147 λal O=>
     rdS ⟨some ⟨al,0,none⟩,1,1⟩ 3 O λF=>app 147 3 48 [.string (ByteArray.mk #[]),.bool false,.slice none 0 0] t77 1 F O λt83 an=>
     st an g (0+4) (.slice t83.ptr t83.len t83.cap) λao=>ah (IntKind.wrap .i64 (C+1),()) ao) N) (J j)) ai.1) (0,()) h:=by
  have aS:=Y2 ZnZ hr (by decide);have lB:=Zp c
  refine Zaj (λ(st:Int×Unit) a=>∃(i:Nat) (t:Sl) (d:List (Sl×Zbi)),st=((i:Int),())/\i<=n.length/\d.map (·.2)=(n.take i).map (·.2)/\Own a (sz h) t 3 (d.flatMap Rw.Zhp)/\(∀p,p∈d->Row a p.1 1 (p.2.origins.map Rw.sV)/\∀b,p.1.blk=some b->sz h<=b/\b<sz a/\t.blk≠some b/\Wb a b)/\obj a g=some (R5o s5 s7 s8 s9 t)/\Upd (· = g) h a) (λst _=>(n.length- st.1).toNat)
    ⟨0,sl0,[],rfl,Ayg _,rfl,Own.nil _ _ _,(λp n=>by cases n),c,Upd.refl _ _⟩ ?_
  rintro _ a ⟨i,t,d,rfl,aT,hm,ho,z,cB,u⟩ Q hQ;dsimp only;refine M _ _ u (Zn (λq=>?_) λq=>?_)
  ·obtain ⟨p,G⟩:∃p,n[i]?=some p:=⟨_,Axy (by omega)⟩
   obtain⟨r1,r2,r3⟩:=hi p (Axo G);have hlen:d.length=i:=by have:=congrArg List.length hm;simp at this;omega
   have aY:=Y2 ZnZ ho.row (by decide);have aq:sz h<=sz a:=u.size;obtain⟨b,o,_,_,P,m⟩:=Zab ZnZ (ZcU hr hx u) G (by decide);refine M _ _ u (P rfl (rS (m 0 _ rfl) (rB (m 1 _ rfl) (rL (m 2 _ rfl) (ZF λh3 c3 e3 z3=>ZaN c3 λB c4 u4 z4=>rL (Zb c4 rfl) ?_)))));have e4:Ext a B:=e3.then u4 λk v=>by subst v;exact Aqo _
   have au:Upd (· = g) h B:=u.trans (e4.upd _);refine ag (l:=p.2.origins) (ZcU r1 r3 au) r2 λt5 Y o5 Z=>?_;have bc:sz h3=sz a+1:=z3;have bd:sz B=sz h3:=z4;have bf:sz B<=sz Y:=Z.size;have bg:a.size=sz a:=rfl;have bh:B.size=sz B:=rfl;have bj:g<sz a:=Aqq lB aq;refine ZcS (Zj c4 Z) (show 0+2<3 by decide) XC λh6 c6 u6 z6=>?_;have R:=Y0 (Zj (Zj cB e4) Z) u6 (by show ¬g=a.size;omega);refine rL (Zb R rfl) (rS (Zb c6 rfl) (rB (Zb c6 rfl) (rL (Zb c6 rfl) (ZF λw c7 e7 z7=>?_))));have bn:sz h6=sz Y:=z6;have bo:sz w=sz h6+1:=z7;have H:Ext a w:=((e4.trans Z).then u6 λk v=>by subst v;exact Aqo _).trans e7;have T:Row w ⟨some ⟨h6.size,0,none⟩,1,1⟩ 3 (Rw.Zhp (t5,p.2)):=ZkO c7 rfl;have ay:=ho.congr (h':=w) λk v _ _=>H.old k (ho.lt v).2;refine T.rd (Own.app ay rfl (Zx0 _) rfl (by omega) (by omega) (by show sz h<=sz w;omega) λt8 h8 o8 l8 u8 b8=>?_);have tB:t.blk≠some g:=λe=>by have:=(ho.lt e).1;omega
   have az:=Y0 (Zj R e7) u8 tB;refine ZcS az (show 0+4<5 by decide) XC λA c9 u9 z9=>?_;rw[wrS (show i<n.length by omega) (by omega)];have aK:w.size=sz w:=rfl
   have I:∀b,t8.blk=some b->t.blk=some b\/b=sz w:=λb hb=>by
     rcases b8 with e|e
     ·exact .inl (e▸hb)
     ·rw[e]at hb;cases hb;exact .inr rfl
   have aC:t8.blk≠some g:=λe=>by
     rcases I _ e with e|e
     ·exact tB e
     ·omega
   have o9:Own A (sz h) t8 3 ((d++[(t5,p.2)]).flatMap Rw.Zhp):=by
     rw[Ayl];have:=o8.congr (h':=A) λk v L _=>u9.old k L λe=>aC (e▸v);simpa using this
   have b8:sz w<=sz h8:=u8.size;have bu:sz A=sz h8:=z9;have aL:sz a<=sz w:=H.size
   have old:∀k,k<sz a->k≠g->t.blk≠some k->obj A k=obj a k:=λk v hn ht=>by
     show A[k]?=a[k]?;rw[u9.old k (by show k<sz h8;omega) hn,u8.old k (by show k<sz w;omega) ht,H.old k v]
   have U:Upd (· = g) h A:=⟨by show sz h<=sz A;omega,λk v hn=>by
     have bx:k<sz h:=v;have:=old k (by omega) hn λe=>by have:=(ho.lt e).1;omega
     rw[show A[k]?=a[k]? from this,u.old k v hn]⟩
   refine hQ _ _ ⟨i+1,t8,d++[(t5,p.2)],rfl,by omega,?_,o9,λp' f=>?_,c9,U⟩ (by show((n.length:Int)- ((i+1:Nat):Int)).toNat<((n.length:Int)- ((i:Nat):Int)).toNat;omega)
   ·rw[Aym,G,Ayw,Ayw,hm];rfl
   ·rcases Axx.1 f with f|f
    ·obtain ⟨q1,q2⟩:=z p' f;refine⟨Rw.ZiP (S:=λb=>sz h<=b/\b<sz a/\t.blk≠some b) q1 (λ_ b e=>⟨(q2 b e).1,(q2 b e).2.1,(q2 b e).2.2.1⟩) λb hs L=>old b L (by omega) hs.2.2,λb e=>?_⟩;obtain⟨w1,w2,w3,w4⟩:=q2 b e;refine⟨w1,by omega,λV=>?_,w4.keep (old b w2 (by omega) w3)⟩
     rcases I _ V with W|W
     ·exact w3 W
     ·omega
    ·simp at f;subst f;dsimp only;have bl:∀b,t5.blk=some b->sz B<=b/\b<sz Y:=λb e=>o5.lt e;have tn:∀b,t.blk=some b->b<sz a:=λb e=>(ho.lt e).2
     have X:Own A B.size t5 1 (p.2.origins.map Rw.sV):=o5.congr (h':=A) λb e _ _=>by
       have:=bl b e;rw[u9.old b (by show b<sz h8;omega) (by omega),u8.old b (by show b<sz w;omega) (λV=>by have:=tn b V;omega),e7.old b (by show b<sz h6;omega),u6.old b (by show b<sz Y;omega) (by omega)]
     refine⟨X.row,λb e=>?_⟩;have:=bl b e;refine⟨by omega,by omega,λV=>?_,X.wb e⟩
     rcases I _ V with W|W
     ·have:=tn b W;omega
     ·omega
  ·refine hJ a t d ?_ ho.row (λb e=>⟨(ho.lt e).1,(ho.lt e).2,ho.wb e⟩) (λp f=>⟨(z p f).1,λb e=>⟨((z p f).2 b e).1,((z p f).2 b e).2.1,((z p f).2 b e).2.2.2⟩⟩) cB u;rw[hm,Awd (by omega)]
abbrev ZHW(a b:Nat):Nat->Prop:=λj=>a<=j/\j<b
structure ZsF(r:RulesP):Prop where
  f:r.fl.length<=256
  b:r.br.length<=256
  h:r.ho.length<=256
  s:r.sy.length<=256
  l:r.li.length<=256
  hi:∀f,f∈r.ho->f.items.length<=1000000
  lo:∀f,f∈r.li->f.origins.length<=1000000
theorem Zox{α:Type}{g:α->List Value}(b:∀a,(g a).all Zs=true)(l:List α):(l.flatMap g).all Zs=true:=by rw[Axb];intro v hv;obtain⟨t,_,hv⟩:=List.mem_flatMap.1 hv;exact Axb.1 (b t) v hv
theorem Zsj(f:FlowP):(Rw.ZcR f).all Zs=true:=by simp[Rw.ZcR,Rw.sV,Rw.i64,Rw.i8,ZqO,ZiQ,ZdD]
theorem ZpY(f:YK):(Rw.ZbN f).all Zs=true:=by simp[Rw.ZbN,Rw.sV,Rw.i64,Rw.i8,ZiQ,ZdD]
theorem Zno(f:Zas):(Rw.ZdB f).all Zs=true:=by simp[Rw.ZdB,Rw.i64,ZdD]
theorem ZeN{h h':Zf}{S:Nat->Prop}{x:Sl}{n:Nat}{vs:List Value}(r:Row h x n vs/\Rw.inS S x)(a:∀b,S b->b<sz h)(e:Ext h h'):Row h' x n vs/\∀B,sz h<=B->x.len≠0->x.blk≠some B:=
  ⟨r.1.ext e,λB f c d=>by have:=a B (r.2 c B d);omega⟩
abbrev Rnw(h:Zf)(a b:Nat):Nat->Prop:=λj=>ZHW a b j/\Wb h j
def HoW(h:Zf)(S:Nat->Prop)(z:Rw.VTR)(r:RulesP):Prop:=∃a:List (Sl×ZdX),a.map (·.2)=r.ho/\(Row h z.2.2.1 5 (a.flatMap Rw.ZjI)/\Rw.inS S z.2.2.1)/\∀p,p∈a->Rw.ZIF h S p/\∀b,p.1.blk=some b->z.2.2.1.blk≠some b
theorem HoW.keep{h h':Zf}{S f:Nat->Prop}{z:Rw.VTR}{r:RulesP}(a:HoW h S z r)(he:∀b,S b->b<sz h->obj h' b=obj h b)(hs:∀b,S b->f b):HoW h' f z r:=by obtain⟨j,e,b,c⟩:=a;have g:=Rw.ZiZ b he;refine⟨j,e,⟨g.1,g.2.mono hs⟩,λp d=>⟨?_,(c p d).2⟩⟩;have i:=Rw.ZiZ (c p d).1 he;exact⟨i.1,i.2.mono hs⟩
theorem ZFi{h:Zf}{S:Nat->Prop}{z:Rw.VTR}{r:RulesP}(J:Rw.Yn h S z r)(P:∀b,S b->b<sz h)(hl:ZsF r){s:Sl}(hs:Row h s 5 [slV z.1,slV z.2.1,slV z.2.2.1,slV z.2.2.2.1,slV z.2.2.2.2.1]){K:Rw.VTR->Zf->Prop}
    (d:∀h' z',Ext h h'->Rw.Yn h' (Rnw h' (sz h) (sz h')) z' r->HoW h' (Rnw h' (sz h) (sz h')) z' r->K z' h'):ZhT s K h:=by
  unfold ZhT Zkj;have R:s.len=1:=by have:=hs.len;simp at this;omega
  obtain⟨hp,G,aB,aC⟩:=J.ho;obtain⟨lp,T,aD,aE⟩:=J.li;have n1:=Y2 (g:=Rw.ZcR) (n:=12) (λ_=>rfl) J.fl.1 (by decide);have n2:=Y2 (g:=Rw.ZbN) (n:=7) (λ_=>rfl) J.br.1 (by decide);have n4:=Y2 (g:=Rw.ZdB) (n:=5) (λ_=>rfl) J.sy.1 (by decide);have l1:=hl.f;have l2:=hl.b;have l4:=hl.s;refine ZF λh1 c1 e1 z1=>ZF λh2 c2 e2 z2=>?_;have U:=e1.trans e2;have w0:sz h1=sz h+1:=z1;have w2:sz h2=sz h1+1:=z2;refine Zaj (λ(p:Int×Unit) c=>Upd (· = sz h1) h1 c/\((p=(0,())/\c=h2)\/(p.1=1/\∃z':Rw.VTR,obj c (sz h1)=some (R5o z'.1 z'.2.1 z'.2.2.1 z'.2.2.2.1 z'.2.2.2.2.1)/\Rw.Yn c (Rnw c (sz h1+1) (sz c)) z' r/\HoW c (Rnw c (sz h1+1) (sz c)) z' r))) (λp _=>(1-p.1).toNat) ⟨e2.upd _,.inl ⟨rfl,rfl⟩⟩ ?_;rintro⟨i,u⟩ c ⟨he,⟨D,aG⟩ |⟨D,z',cr,aH,aI⟩⟩ Q hQ
  ·injection D with D _
   subst D;subst aG;dsimp only;rw[R];obtain⟨b,o,bA,bB,af,hc⟩:=Zab (α:=Rw.VTR) (g:=λz=>[slV z.1,slV z.2.1,slV z.2.2.1,slV z.2.2.2.1,slV z.2.2.2.2.1]) (n:=5) (λ_=>rfl) (l:=[z]) (by simpa using hs.ext U) (i:=0) rfl (by decide);have V:∀{K:Nat->Nat->Prop},K b o->Yk s.ptr 1 0 5 K:=λ{K} d=>by have:=af (K:=K) (m:=0) rfl d;rwa[R]at this
   refine Zm rfl (V (rL (hc 0 _ rfl) (rL (hc 1 _ rfl) (rL (hc 2 _ rfl) (rL (hc 3 _ rfl) (rL (hc 4 _ rfl) (ZF λh3 W e3 z3=>ZaN W λE c4 u4 z4=>?_)))))));have e4:Ext c E:=e3.then u4 λk d=>by subst d;exact Aqo _
   have w4:sz E=sz c+1:=by have:h3.size=c.size+1:=z3;simp only[YR]at this;omega
   have x4:=Zj c2 e4;have H:¬sz c=sz h1:=by omega
   have j:sz h1<sz E:=by omega
   have aJ:=(ZeN J.fl P (U.trans e4));refine rL (s:=sl0) (Zb x4 rfl) (rL (s:=z.1) (Zb c4 rfl) (aJ.1.rd ?_));refine(Own.nil E (sz E) 12).app (n:=z.1.len) (by rw[YN (n:=12) λ_=>rfl,n1]) (Zox Zsj _) rfl (show(0+z.1.len)*120<=140737488355328 by omega) (show 0+z.1.len<=140737488355328 by omega) (Aqo _) λs5 h5 o5 _ u5 _=>?_;have e5:Ext E h5:=u5.ext λk _ d=>by cases d
   refine ZcS (Zj x4 e5) (show 0<5 by decide) XC λL x6 u6 z6=>?_;have w5:sz E<=sz h5:=e5.size;have E6:Ext h L:=((U.trans e4).trans e5).then u6 λk d=>by subst d;exact e1.size
   have aK:Ext h1 L:=((e2.trans e4).trans e5).then u6 λk d=>by subst d;exact Aqo _
   have c6:obj L (sz c)=_:=(u6.old (sz c) (show sz c<sz h5 by omega) H).trans (Zj c4 e5);have o6:=ZmG o5 u6 j;refine rL (s:=sl0) (Zb x6 rfl) (rL (s:=z.2.1) (Zb c6 rfl) ((ZeN J.br P E6).1.rd ?_));refine(Own.nil L (sz E) 7).app (n:=z.2.1.len) (by rw[YN (n:=7) λ_=>rfl,n2]) (Zox ZpY _) rfl (show(0+z.2.1.len)*64<=140737488355328 by omega) (show 0+z.2.1.len<=140737488355328 by omega) (by show sz E<=sz L;omega) λs7 h7 o7 _ u7 _=>?_;have e7:Ext L h7:=u7.ext λk _ d=>by cases d
   refine ZcS (Zj x6 e7) (show 0+1<5 by decide) XC λM x8 u8 z8=>?_;have w7:sz L<=sz h7:=e7.size;have E8:Ext h M:=(E6.trans e7).then u8 λk d=>by subst d;exact e1.size
   have aL:Ext h1 M:=(aK.trans e7).then u8 λk d=>by subst d;exact Aqo _
   have c8:obj M (sz c)=_:=(u8.old (sz c) (show sz c<sz h7 by omega) H).trans (Zj c6 e7);have o8:=ZmG (Zps o6 e7) u8 j;have aM:=ZmG o7 u8 j;refine rL (s:=sl0) (Zb x8 rfl) (rL (s:=z.2.2.2.1) (Zb c8 rfl) ((ZeN J.sy P E8).1.rd ?_));refine(Own.nil M (sz E) 5).app (n:=z.2.2.2.1.len) (by rw[YN (n:=5) λ_=>rfl,n4]) (Zox Zno _) rfl (show(0+z.2.2.2.1.len)*40<=140737488355328 by omega) (show 0+z.2.2.2.1.len<=140737488355328 by omega) (by show sz E<=sz M;omega) λs9 X o9 _ u9 _=>?_;have Y:Ext M X:=u9.ext λk _ d=>by cases d
   refine ZcS (Zj x8 Y) (show 0+3<5 by decide) XC λy aN F aO=>?_;have w9:sz M<=sz X:=Y.size;have Z:Ext h y:=(E8.trans Y).then F λk d=>by subst d;exact e1.size
   have ai:Ext h1 y:=(aL.trans Y).then F λk d=>by subst d;exact Aqo _
   have aj:obj y (sz c)=_:=(F.old (sz c) (show sz c<sz X by omega) H).trans (Zj c8 Y);have p1:=ZmG (Zps o8 Y) F j;have p2:=ZmG (Zps aM Y) F j;have p3:=ZmG o9 F j;have w6:sz L=sz h5:=z6;have w8:sz M=sz h7:=z8;have bQ:sz y=sz X:=aO;have lh:=hl.h;have ll:=hl.l
   have aP:hp.length<=100000000:=by
     have:hp.length=r.ho.length:=by rw[<-G,Ayv]
     omega
   have aQ:lp.length<=100000000:=by
     have:lp.length=r.li.length:=by rw[<-T,Ayv]
     omega
   have N:=ZeN aB P Z;refine rL (s:=z.2.2.1) (Zb aj rfl) (ZuD (hd:=λ_ K=>K z.2.2.1) (cln:=ZO) (λ_ _ _ k=>k) Zyb (s5:=s5) (s7:=s7) (s9:=s9) N.1 (λp a=>?_) aP (N.2 _ (by show sz h<=sz h1;omega)) aN λw t ak al ht I A aR B=>?_)
   ·have:=ZeN (aC p a) P Z;exact⟨this.1,Aqp (hl.hi _ (by rw[<-G];exact List.mem_map_of_mem a)) (by decide),this.2 _ (by show sz h<=sz h1;omega)⟩
   have bR:sz y<=sz w:=B.size;have an:=Y0 aj B H;have ao:Ext h w:=Z.then B λk d=>by rw[d];show sz h<=sz h1;omega
   have O:=ZeN aD P ao;refine rL (s:=z.2.2.2.2.1) (Zb an rfl) (Zr7 (hd:=λ_ K=>K z.2.2.2.2.1) (cln:=YP) (λ_ _ _ k=>k) Zqw (s5:=s5) (s7:=s7) (s8:=t) (s9:=s9) O.1 (λp a=>?_) aQ (O.2 _ (by show sz h<=sz h1;omega)) aR λq t12 aS aT lt aU aq aV C=>?_)
   ·have:=ZeN (aE p a) P ao;exact⟨this.1,Aqp (hl.lo _ (by rw[<-T];exact List.mem_map_of_mem a)) (by decide),this.2 _ (by show sz h<=sz h1;omega)⟩
   have bS:sz w<=sz q:=C.size;have q1:=ZmG (ZmG p1 B j) C j;have q2:=ZmG (ZmG p2 B j) C j;have q3:=ZmG (ZmG p3 B j) C j;have rk:∀{x:Sl} {n:Nat} {vs:List Value},Row w x n vs->(∀b,x.blk=some b->sz y<=b/\b<sz w/\Wb w b)->Row q x n vs:=λ{x n vs} hx v=>ZcU hx (λ_ e=>by have X:sz y<=sz h1:=(v _ e).1;omega) C
   have iO:∀{x:Sl} {n:Nat} {vs:List Value},Own q (sz E) x n vs->Rw.inS (Rnw q (sz h1+1) (sz q)) x:=λ{x n vs} hx _ b e=>by
     have X:sz E<=b/\b<sz q:=hx.lt e;exact⟨⟨by omega,X.2⟩,hx.wb e⟩
   have i1:∀{x:Sl},(∀b,x.blk=some b->sz y<=b/\b<sz w/\Wb w b)->Rw.inS (Rnw q (sz h1+1) (sz q)) x:=λ{x} v _ b e=>by
     have:=v b e;exact⟨⟨by omega,by omega⟩,this.2.2.keep (C.old b this.2.1 (by show ¬b=sz h1;omega))⟩
   have i2:∀{x:Sl},(∀b,x.blk=some b->sz w<=b/\b<sz q/\Wb q b)->Rw.inS (Rnw q (sz h1+1) (sz q)) x:=λ{x} v _ b e=>by
     have:=v b e;exact⟨⟨by omega,by omega⟩,this.2.2⟩
   exact hQ _ _ ⟨((ai.upd _).trans B).trans C,.inr ⟨by decide,(s5,s7,t,s9,t12,()),aV,⟨⟨q1.row,iO q1⟩,⟨q2.row,iO q2⟩,⟨ak,by rw[al,G],⟨rk ht I,i1 I⟩,λp a=>⟨rk (A p a).1 λb e=>((A p a).2 b e).1,i1 λb e=>((A p a).2 b e).1⟩⟩,⟨q3.row,iO q3⟩,⟨aS,by rw[aT,T],⟨lt,i2 aU⟩,λp a=>⟨(aq p a).1,i2 (aq p a).2⟩⟩⟩,⟨ak,by rw[al,G],⟨rk ht I,i1 I⟩,λp a=>⟨⟨rk (A p a).1 λb e=>((A p a).2 b e).1,i1 λb e=>((A p a).2 b e).1⟩,λb e=>((A p a).2 b e).2⟩⟩⟩⟩ (show(1-IntKind.wrap .i64 (0+1)).toNat<(1-(0:Int)).toNat by decide)
  ·dsimp only at D⊢;subst D;rw[R];have y1:obj c (sz h)=_:=(he.old (sz h) (show sz h<sz h1 by omega) (by show ¬sz h=sz h1;omega)).trans c1;have bU:sz h1<=sz c:=he.size;refine Zh rfl (rL (s:=z'.1) (Zb cr rfl) (rL (s:=z'.2.1) (Zb cr rfl) (rL (s:=z'.2.2.1) (Zb cr rfl) (rL (s:=z'.2.2.2.1) (Zb cr rfl) (rL (s:=z'.2.2.2.2.1) (Zb cr rfl) (ZaN y1 λh3 W u3 z3=>?_))))));have w3:sz h3=sz c:=z3
   have E3:Ext h h3:=⟨by show sz h<=sz h3;omega,λk d=>by
     have bW:k<sz h:=d
     rw[u3.old k (by show k<sz c;omega) (by show ¬k=sz h;omega),he.old k (by show k<sz h1;omega) (by show ¬k=sz h1;omega),e1.old k d]⟩
   refine rL (s:=z'.1) (Zb W rfl) (rL (s:=z'.2.1) (Zb W rfl) (rL (s:=z'.2.2.1) (Zb W rfl) (rL (s:=z'.2.2.2.1) (Zb W rfl) (rL (s:=z'.2.2.2.2.1) (Zb W rfl) (d h3 z' E3 ?_ ?_)))))
   ·refine(aH.keep (h':=h3) λb v ar=>u3.old b ar (by show ¬b=sz h;have:=v.1.1;omega)).mono λb ar v=>⟨⟨by have:=v.1.1;omega,by have:=v.1.2;omega⟩,v.2.keep (u3.old b (by show b<sz c;omega) (by show ¬b=sz h;have:=v.1.1;omega))⟩
   ·have kk:∀b,Rnw c (sz h1+1) (sz c) b->obj h3 b=obj c b:=λb v=>u3.old b (show b<sz c from v.1.2) (by show ¬b=sz h;have:=v.1.1;omega);exact aI.keep (λb v _=>kk b v) λb v=>⟨⟨by have:=v.1.1;omega,by have:=v.1.2;omega⟩,v.2.keep (kk b v)⟩
theorem Zzh{h:Zf}{S:Nat->Prop}{z:Rw.VTR}{r:RulesP}(w:Rw.Yn h S z r)(x:∀b,S b->b<sz h)(hl:ZsF r){K:Rw.VTR->Zf->Prop}
    (l:∀h' z',Ext h h'->Rw.Yn h' (Rnw h' (sz h) (sz h')) z' r->HoW h' (Rnw h' (sz h) (sz h')) z' r->K z' h'):ZeE z K h:=by
  unfold ZeE Zkl;refine ZF λh1 c1 p y=>ZF λq A t B=>?_;have e:=Zj c1 t;refine rL (s:=z.1) (Zb e rfl) (rL (s:=z.2.1) (Zb e rfl) (rL (s:=z.2.2.1) (Zb e rfl) (rL (s:=z.2.2.2.1) (Zb e rfl) (rL (s:=z.2.2.2.2.1) (Zb e rfl) (ZF λh3 C u z3=>?_)))));have c:=(p.trans t).trans u;have D:sz h<=sz h3:=c.size;refine ZFi (w.ext c) (λb a=>by have:=x b a;omega) hl (ZkO C rfl) λd z4 m n o=>?_;have E:=Zj (Zj A u) m;have w1:sz h1=sz h+1:=y;have G:sz q=sz h1+1:=B;have H:sz h3=sz q+1:=z3;have I:sz h3<=sz d:=m.size;refine ZaN E λf g j z5=>?_;have J:sz f=sz d:=z5;have F:Ext h f:=(c.trans m).then j λk l=>by subst l;exact p.size
  refine rL (s:=z4.1) (Zb g rfl) (rL (s:=z4.2.1) (Zb g rfl) (rL (s:=z4.2.2.1) (Zb g rfl) (rL (s:=z4.2.2.2.1) (Zb g rfl) (rL (s:=z4.2.2.2.2.1) (Zb g rfl) (l f z4 F ?_ ?_)))))
  ·refine(n.keep (h':=f) λb a i=>j.old b i (by show ¬b=sz h1;have:=a.1.1;omega)).mono λb i a=>⟨⟨by have:=a.1.1;omega,by have:=a.1.2;omega⟩,a.2.keep (j.old b (by show b<sz d;omega) (by show ¬b=sz h1;have:=a.1.1;omega))⟩
  ·have v:∀b,Rnw d (sz h3) (sz d) b->obj f b=obj d b:=λb a=>j.old b (show b<sz d from a.1.2) (by show ¬b=sz h1;have:=a.1.1;omega);exact o.keep (λb a _=>v b a) λb a=>⟨⟨by have:=a.1.1;omega,by have:=a.1.2;omega⟩,a.2.keep (v b a)⟩
theorem ZH2{h:Zf}{S:Nat->Prop}{z:Rw.VTR}{r:RulesP}(c:Rw.Yn h S z r)(d:∀b,S b->b<sz h)(hl:ZsF r){K:Rw.VTR->Zf->Prop}
    (f:∀h' z',Ext h h'->Rw.Yn h' (ZHW (sz h) (sz h')) z' r->K z' h'):ZeE z K h:=Zzh c d hl λh' z' e a _=>f h' z' e (a.mono λ_ _ g=>g.1)
structure Good(r:RulesP):Prop where
  s:ZsF r
  f:∀f,f∈r.fl->f.err=0
  b:∀f,f∈r.br->f.err=0
  h:∀f,f∈r.ho->f.err=0
  y:∀f,f∈r.sy->f.err=0
  l:∀f,f∈r.li->f.err=0
theorem Zdg{α:Type}{f:α->Nat}:∀{l:List α} {i:Nat},Zbh f l i=none->∀a,a∈l->f a=0
  |[],_,_,a,c=>by cases c
  | b::l,i,h,a,c=>by
    unfold Zbh at h;split at h
    ·rename_i h0
     rcases Awr.1 c with rfl|c
     ·exact h0
     ·exact Zdg h a c
    ·cases h
theorem ZiB{α:Type}{f:α->Nat}:∀{l:List α} {i k e:Nat},Zbh f l i=some (k,e)->e≠0
  |[],_,_,_,h=>by cases h
  | b::l,i,k,e,h=>by
    unfold Zbh at h;split at h
    ·exact ZiB h
    ·rename_i h0;cases h;exact h0
theorem ZxZ{f:Zbi}(he:f.err=0):f.origins.length<=32:=by
  unfold Zbi.err at he;split at he
  ·split at he
   ·rename_i _ a;simp only[Awn,decide_eq_true_eq]at a;omega
   ·cases he
  ·cases he
theorem Zq5{r:RulesP}(h:r.whereE.2.2=0):Good r:=by
  unfold RulesP.whereE at h;have no:∀{a b:Nat},((a,b,5):Nat×Nat×Nat).2.2=0->False:=λh=>by cases h
  by_cases k:256<r.fl.length
  ·rw[if_pos k]at h;exact(no h).elim
  rw[if_neg k]at h
  by_cases l:256<r.br.length
  ·rw[if_pos l]at h;exact(no h).elim
  rw[if_neg l]at h
  by_cases a3:256<r.ho.length
  ·rw[if_pos a3]at h;exact(no h).elim
  rw[if_neg a3]at h
  by_cases a4:256<r.sy.length
  ·rw[if_pos a4]at h;exact(no h).elim
  rw[if_neg a4]at h
  by_cases a5:256<r.li.length
  ·rw[if_pos a5]at h;exact(no h).elim
  rw[if_neg a5]at h
  cases d:Zbh FlowP.err r.fl 0 with
  |some p=>rw[d]at h;exact(ZiB d h).elim
  |none=>
  rw[d]at h;dsimp only at h
  cases e:Zbh YK.err r.br 0 with
  |some p=>rw[e]at h;exact(ZiB e h).elim
  |none=>
  rw[e]at h;dsimp only at h
  cases c:Zbh ZdX.err r.ho 0 with
  |some p=>rw[c]at h;exact(ZiB c h).elim
  |none=>
  rw[c]at h;dsimp only at h
  cases g:Zbh Zas.err r.sy 0 with
  |some p=>rw[g]at h;exact(ZiB g h).elim
  |none=>
  rw[g]at h;dsimp only at h
  cases i:Zbh Zbi.err r.li 0 with
  |some p=>rw[i]at h;exact(ZiB i h).elim
  |none=>
  exact⟨⟨by omega,by omega,by omega,by omega,by omega,λf j=>Aqp (ZuE (Zdg c f j)).2 (by decide),λf j=>Aqp (ZxZ (Zdg i f j)) (by decide)⟩,Zdg d,Zdg e,Zdg c,Zdg g,Zdg i⟩
theorem ZFf{h:Zf}{S:Nat->Prop}{sb:Nat}{rs:R5}{g:Int}{z:Rw.VTR}{r:RulesP}(t:obj h sb=some (Znp rs g))(u:Rw.Yn h S z r)(x:∀b,S b->b<sz h)(y:Rw.RulesP.fit r)
    {K:Int->Zf->Prop} (h0:r.whereE.2.2=0->∀h' z',obj h' sb=some (Znp z' (IntKind.wrap .i64 (g+1)))->Rw.Yn h' (ZHW (sz h) (sz h')) z' r->Upd (· = sb) h h'->K 0 h') (h1:∀e:Nat,r.whereE.2.2=e->e≠0->∀h',Ext h h'->K e h'):ZcH (some ⟨sb,0,none⟩) z K h:=by
  unfold ZcH Zfr;have A:=Zp t;refine ZF λI c l J=>Za (Zh rfl (rL (s:=z.1) (Zb c rfl) (rL (s:=z.2.1) (Zb c rfl) (rL (s:=z.2.2.1) (Zb c rfl) (rL (s:=z.2.2.2.1) (Zb c rfl) (rL (s:=z.2.2.2.2.1) (Zb c rfl) ?_))))));refine Rw.Zvz (u.ext l) y λh3 p B m=>Za (Za (Za ?_));subst B;have f:=Zj c m
  by_cases q:r.whereE.2.2=0
  ·have C:=Zq5 q;rw[q];refine Zh rfl (rL (s:=z.1) (Zb f rfl) (rL (s:=z.2.1) (Zb f rfl) (rL (s:=z.2.2.1) (Zb f rfl) (rL (s:=z.2.2.2.1) (Zb f rfl) (rL (s:=z.2.2.2.2.1) (Zb f rfl) ?_)))));have a:=l.trans m;have L:sz h<=sz h3:=a.size;refine ZH2 (u.ext a) (λb d=>by have:=x b d;omega) C.s λn z4 o D=>Zi ?_;have E:=Zj (Zj t a) o;have M:sz h3<=sz n:=o.size;refine ZGN E (ZBT z4 g) (λv w F z5=>Zi (rI (Zb w rfl) (Zi (ZcS w (show 0+5<6 by decide) rfl λk G H z6=>Za ?_)))) (hv:=by simp[Znq,XC]);have i:Upd (· = sb) n k:=F.trans H;have N:sz v=sz n:=z5;have O:sz k=sz v:=z6;refine h0 q k z4 G ?_ (((a.trans o).upd _).trans i);exact(D.keep (h':=k) λb d j=>i.old b j (by show ¬b=sb;have:=d.1;omega)).mono λb j d=>⟨by have:=d.1;omega,by have:=d.2;omega⟩
  ·exact Zm (by simpa using q) (Za (h1 _ rfl q h3 (l.trans m)))
theorem Zy2{h:Zf}{S:Nat->Prop}{sb:Nat}{g:Int}{z:Rw.VTR}{r:RulesP}(p:obj h sb=some (Znp z g))(t:Rw.Yn h S z r)(u:∀b,S b->b<sz h)(hl:ZsF r)
    {K:Rw.VTR->Int->Zf->Prop} (l:∀h' z',Rw.Yn h' (Rnw h' (sz h) (sz h')) z' r->HoW h' (Rnw h' (sz h) (sz h')) z' r->Ext h h'->K z' g h'):Zav (some ⟨sb,0,none⟩) K h:=by
  unfold Zav ZfX;refine ZF λh1 c1 m v=>Za (Zh rfl (Zi (Zi ?_)));have s1:=Zj p m;refine rL (s:=z.1) (Zb s1 rfl) (rL (s:=z.2.1) (Zb s1 rfl) (rL (s:=z.2.2.1) (Zb s1 rfl) (rL (s:=z.2.2.2.1) (Zb s1 rfl) (rL (s:=z.2.2.2.2.1) (Zb s1 rfl) (rI (Zb s1 rfl) ?_)))));have w1:sz h1=sz h+1:=v;refine Zzh (t.ext m) (λb a=>by have:=u b a;omega) hl λd c e n o=>⟨Yj (Zb (Zj s1 e) rfl),?_⟩;have x:sz h1<=sz d:=e.size;refine ZaN (Zj c1 e) (vs:=[slV c.1,slV c.2.1,slV c.2.2.1,slV c.2.2.2.1,slV c.2.2.2.2.1]) (λh3 f i z3=>?_) (hv:=by simp[Znq,XC]);have y:sz h3=sz d:=z3;have w:obj h3 sb=_:=(i.old sb (Zp (Zj s1 e)) (show ¬sb=sz h by have:=Zp p;omega)).trans (Zj s1 e);refine⟨Yj (Zb w rfl),Za ?_⟩;refine rL (s:=c.1) (Zb f rfl) (rL (s:=c.2.1) (Zb f rfl) (rL (s:=c.2.2.1) (Zb f rfl) (rL (s:=c.2.2.2.1) (Zb f rfl) (rL (s:=c.2.2.2.2.1) (Zb f rfl) (l h3 c ?_ ?_ ?_)))))
  ·exact(n.keep (h':=h3) λb a j=>i.old b j (by show ¬b=sz h;have:=a.1.1;omega)).mono λb j a=>⟨⟨by have:=a.1.1;omega,by have:=a.1.2;omega⟩,a.2.keep (i.old b (by show b<sz d;omega) (by show ¬b=sz h;have:=a.1.1;omega))⟩
  ·have q:∀b,Rnw d (sz h1) (sz d) b->obj h3 b=obj d b:=λb a=>i.old b (show b<sz d from a.1.2) (by show ¬b=sz h;have:=a.1.1;omega);exact o.keep (λb a _=>q b a) λb a=>⟨⟨by have:=a.1.1;omega,by have:=a.1.2;omega⟩,a.2.keep (q b a)⟩
  ·exact(m.trans e).then i λk l=>by subst l;exact Aqo _
theorem ZHU{h:Zf}{S:Nat->Prop}{sb:Nat}{g:Int}{z:Rw.VTR}{r:RulesP}(c:obj h sb=some (Znp z g))(d:Rw.Yn h S z r)(f:∀b,S b->b<sz h)(hl:ZsF r)
    {K:Rw.VTR->Int->Zf->Prop} (i:∀h' z',Rw.Yn h' (ZHW (sz h) (sz h')) z' r->Ext h h'->K z' g h'):Zav (some ⟨sb,0,none⟩) K h:=Zy2 c d f hl λh' z' a _ e=>i h' z' (a.mono λ_ _ j=>j.1) e
abbrev r5(z:Rw.VTR):List Value:=[slV z.1,slV z.2.1,slV z.2.2.1,slV z.2.2.2.1,slV z.2.2.2.2.1]
theorem Zx9(l:List (BL×Int)):(Rw.Zds l).all Zs=true:=by unfold Rw.Zds;exact Zox (λp=>by simp[Rw.sV,ZiQ,ZdD]) l
theorem ZxH(l:List BL):(l.map Rw.sV).all Zs=true:=by rw[Axb];intro v hv;obtain⟨t,_,rfl⟩:=Axz.1 hv;exact ZiQ
theorem ZOX{h:Zf}{s:Sl}{l:List (BL×Int)}(hs:Row h s 2 (Rw.Zds l))(hl:l.length<=100000000){K:Sl->Zf->Prop}(c:∀t h',Own h' h.size t 2 (Rw.Zds l)->Ext h h'->K t h'):
    rdS s 2 h λnew=>app 74 2 24 [.string (ByteArray.mk #[]),iv 0] ⟨none,0,0⟩ s.len new h K:=by
  have a:=hs.len;rw[Rw.Zh8]at a;exact hs.rd ((Own.nil h h.size 2).app (n:=s.len) (by rw[Rw.Zh8];omega) (Zx9 l) rfl (by show(0+s.len)*24<=_;omega) (by show 0+s.len<=_;omega) (Aqo _) λt h' o _ u _=>c t h' o (u.ext λk _ b=>by cases b))
theorem ZOP{h:Zf}{s:Sl}{l:List BL}(hs:Row h s 1 (l.map Rw.sV))(hl:l.length<=100000000){K:Sl->Zf->Prop}(c:∀t h',Own h' h.size t 1 (l.map Rw.sV)->Ext h h'->K t h'):
    rdS s 1 h λnew=>app 9 1 16 [.string (ByteArray.mk #[])] ⟨none,0,0⟩ s.len new h K:=by
  have a:=hs.len;rw[Ayv]at a;exact hs.rd ((Own.nil h h.size 1).app (n:=s.len) (by rw[Ayv];omega) (ZxH l) rfl (by show(0+s.len)*16<=_;omega) (by show 0+s.len<=_;omega) (Aqo _) λt h' o _ u _=>c t h' o (u.ext λk _ b=>by cases b))
structure Mid(r:RulesP):Prop where
  f:r.fl.length<=100000000
  b:r.br.length<=100000000
  h:r.ho.length<=100000000
  s:r.sy.length<=100000000
  l:r.li.length<=100000000
  hi:∀f,f∈r.ho->f.items.length<=100000000
  lo:∀f,f∈r.li->f.origins.length<=100000000
theorem ZPm{h:Zf}{S:Nat->Prop}{z:Rw.VTR}{r:RulesP}(H:Rw.Yn h S z r)(M:∀b,S b->b<sz h)(hl:Mid r){s:Sl}(hs:Row h s 5 (r5 z))(an:∀b,s.blk=some b->b<sz h){K:Rw.VTR->Zf->Prop}
    (m:∀h' z',Ext h h'->Rw.Yn h' (Rnw h' (sz h) (sz h')) z' r->K z' h'):Zbr s K h:=by
  unfold Zbr ZdL;have X:s.len=1:=by have:=hs.len;simp at this;omega
  obtain⟨hp,N,ao,aq⟩:=H.ho;obtain⟨lp,O,ar,au⟩:=H.li;have n1:=Y2 (g:=Rw.ZcR) (n:=12) (λ_=>rfl) H.fl.1 (by decide);have n2:=Y2 (g:=Rw.ZbN) (n:=7) (λ_=>rfl) H.br.1 (by decide);have n4:=Y2 (g:=Rw.ZdB) (n:=5) (λ_=>rfl) H.sy.1 (by decide);have l1:=hl.f;have l2:=hl.b;have l4:=hl.s;refine ZF λh1 c1 Y z1=>ZF λh2 c2 e2 z2=>Za ?_;have P:=Y.trans e2;have w0:sz h1=sz h+1:=z1;have w2:sz h2=sz h1+1:=z2;refine Zaj (λ(p:Int×Unit) q=>Upd (· = sz h1) h1 q/\((p=(0,())/\q=h2)\/(p.1=1/\∃z':Rw.VTR,obj q (sz h1)=some (R5o z'.1 z'.2.1 z'.2.2.1 z'.2.2.2.1 z'.2.2.2.2.1)/\Rw.Yn q (Rnw q (sz h1+1) (sz q)) z' r))) (λp _=>(1-p.1).toNat) ⟨e2.upd _,.inl ⟨rfl,rfl⟩⟩ ?_;rintro⟨i,u⟩ q ⟨he,⟨C,aw⟩ |⟨C,z',Z,ax⟩⟩ Q hQ
  ·injection C with C _;subst C;subst aw;dsimp only;rw[X]
   obtain ⟨b,o,aa,ay⟩:∃b o,s.ptr=some ⟨b,o,none⟩/\h.has b o (r5 z):=by
     rcases hs.at_ with h0|x
     ·omega
     ·exact x
   have ab:b<sz h:=an b (by simp[Sl.blk,aa])
   have at_:∀{y:Zf},Upd (· = sz h1) h y->∀(j:Nat) v,(r5 z)[j]?=some v->Zy (o+j) (obj y b)=some v:=λ{y} ux j v hv=>by
     have I:obj y b=obj h b:=ux.old b ab (by show ¬b=sz h1;omega);rw[I];have:=Zh9 ay (i:=j) (v:=v) hv;rwa[Yg]at this
   have idx:∀{K:Nat->Nat->Prop},K b o->Yk s.ptr 1 0 5 K:=λ{K} az=>⟨b,o,aa,by decide,by decide,by simpa using az⟩;have U0:Upd (· = sz h1) h q:=P.upd _;have a:sz h1<sz q:=by omega
   refine Zm rfl (idx (rL (s:=sl0) (Zb c2 rfl) (rL (s:=z.1) (at_ U0 0 _ rfl) ((ZeN H.fl M P).1.rd ?_))));refine(Own.nil q (sz q) 12).app (n:=z.1.len) (by rw[YN (n:=12) λ_=>rfl,n1]) (Zox Zsj _) rfl (show(0+z.1.len)*120<=140737488355328 by omega) (show 0+z.1.len<=140737488355328 by omega) (Aqo _) λs5 h5 o5 _ u5 _=>?_;have e5:Ext q h5:=u5.ext λk _ m=>by cases m
   refine ZcS (Zj c2 e5) (show 0<5 by decide) XC λR x6 u6 z6=>?_;have w5:sz q<=sz h5:=e5.size;have E6:Ext h R:=(P.trans e5).then u6 λk m=>by subst m;exact Y.size
   have aD:Ext h1 R:=(e2.trans e5).then u6 λk m=>by subst m;exact Aqo _
   have o6:=ZmG o5 u6 a;refine idx (rL (s:=sl0) (Zb x6 rfl) (rL (s:=z.2.1) (at_ (E6.upd _) 1 _ rfl) ((ZeN H.br M E6).1.rd ?_)));refine(Own.nil R (sz q) 7).app (n:=z.2.1.len) (by rw[YN (n:=7) λ_=>rfl,n2]) (Zox ZpY _) rfl (show(0+z.2.1.len)*64<=140737488355328 by omega) (show 0+z.2.1.len<=140737488355328 by omega) (by show sz q<=sz R;omega) λs7 h7 o7 _ u7 _=>?_;have e7:Ext R h7:=u7.ext λk _ m=>by cases m
   refine ZcS (Zj x6 e7) (show 0+1<5 by decide) XC λT x8 u8 z8=>?_;have w7:sz R<=sz h7:=e7.size;have E8:Ext h T:=(E6.trans e7).then u8 λk m=>by subst m;exact Y.size
   have aG:Ext h1 T:=(aD.trans e7).then u8 λk m=>by subst m;exact Aqo _
   have o8:=ZmG (Zps o6 e7) u8 a;have aH:=ZmG o7 u8 a;refine idx (rL (s:=sl0) (Zb x8 rfl) (rL (s:=z.2.2.2.1) (at_ (E8.upd _) 3 _ rfl) ((ZeN H.sy M E8).1.rd ?_)));refine(Own.nil T (sz q) 5).app (n:=z.2.2.2.1.len) (by rw[YN (n:=5) λ_=>rfl,n4]) (Zox Zno _) rfl (show(0+z.2.2.2.1.len)*40<=140737488355328 by omega) (show 0+z.2.2.2.1.len<=140737488355328 by omega) (by show sz q<=sz T;omega) λs9 I o9 _ u9 _=>?_;have W:Ext T I:=u9.ext λk _ m=>by cases m
   refine ZcS (Zj x8 W) (show 0+3<5 by decide) XC λA aI F aJ=>?_;have w9:sz T<=sz I:=W.size;have G:Ext h A:=(E8.trans W).then F λk m=>by subst m;exact Y.size
   have ag:Ext h1 A:=(aG.trans W).then F λk m=>by subst m;exact Aqo _
   have p1:=ZmG (Zps o8 W) F a;have p2:=ZmG (Zps aH W) F a;have p3:=ZmG o9 F a;have w6:sz R=sz h5:=z6;have w8:sz T=sz h7:=z8;have bE:sz A=sz I:=aJ
   have aK:hp.length<=100000000:=by
     have:hp.length=r.ho.length:=by rw[<-N,Ayv]
     have:=hl.h;omega
   have aL:lp.length<=100000000:=by
     have:lp.length=r.li.length:=by rw[<-O,Ayv]
     have:=hl.l;omega
   have J:=ZeN ao M G
   refine Za (ZuD (hd:=λy K=>Yk s.ptr 1 0 5 λb o=>ldL y b (o+2) K) (cln:=λs K h=>rdS s 2 h λnew=>app 74 2 24 [.string (ByteArray.mk #[]),iv 0] ⟨none,0,0⟩ s.len new h K) (λy K ux k=>idx (rL (s:=z.2.2.1) (at_ ((G.upd _).trans ux) 2 _ rfl) k)) ZOX
     (s5:=s5) (s7:=s7) (s9:=s9) J.1 (λp c=>?_) aK (J.2 _ (by show sz h<=sz h1;omega)) aI λw t aM aN ht ah U aO D=>Za ?_)
   ·have:=ZeN (aq p c) M G;exact⟨this.1,hl.hi _ (by rw[<-N];exact List.mem_map_of_mem c),this.2 _ (by show sz h<=sz h1;omega)⟩
   have bG:sz A<=sz w:=D.size;have V:Ext h w:=G.then D λk m=>by rw[m];show sz h<=sz h1;omega
   have L:=ZeN ar M V
   refine Zr7 (hd:=λy K=>Yk s.ptr 1 0 5 λb o=>ldL y b (o+4) K) (cln:=λs K h=>rdS s 1 h λnew=>app 9 1 16 [.string (ByteArray.mk #[])] ⟨none,0,0⟩ s.len new h K) (λy K ux k=>idx (rL (s:=z.2.2.2.2.1) (at_ ((V.upd _).trans ux) 4 _ rfl) k)) ZOP
     (s5:=s5) (s7:=s7) (s8:=t) (s9:=s9) L.1 (λp c=>?_) aL (L.2 _ (by show sz h<=sz h1;omega)) aO λd t12 aP aQ lt aR ai aS B=>Za ?_
   ·have:=ZeN (au p c) M V;exact⟨this.1,hl.lo _ (by rw[<-O];exact List.mem_map_of_mem c),this.2 _ (by show sz h<=sz h1;omega)⟩
   have bH:sz w<=sz d:=B.size;have q1:=ZmG (ZmG p1 D a) B a;have q2:=ZmG (ZmG p2 D a) B a;have q3:=ZmG (ZmG p3 D a) B a;have rk:∀{x:Sl} {n:Nat} {vs:List Value},Row w x n vs->(∀b,x.blk=some b->sz A<=b/\b<sz w/\Wb w b)->Row d x n vs:=λ{x n vs} y E=>ZcU y (λ_ e=>by have I:sz A<=sz h1:=(E _ e).1;omega) B
   have iO:∀{x:Sl} {n:Nat} {vs:List Value},Own d (sz q) x n vs->Rw.inS (Rnw d (sz h1+1) (sz d)) x:=λ{x n vs} y _ b e=>by
     have I:sz q<=b/\b<sz d:=y.lt e;exact⟨⟨by omega,I.2⟩,y.wb e⟩
   have i1:∀{x:Sl},(∀b,x.blk=some b->sz A<=b/\b<sz w/\Wb w b)->Rw.inS (Rnw d (sz h1+1) (sz d)) x:=λ{x} E _ b e=>by
     have:=E b e;exact⟨⟨by omega,by omega⟩,this.2.2.keep (B.old b this.2.1 (by show ¬b=sz h1;omega))⟩
   have i2:∀{x:Sl},(∀b,x.blk=some b->sz w<=b/\b<sz d/\Wb d b)->Rw.inS (Rnw d (sz h1+1) (sz d)) x:=λ{x} E _ b e=>by
     have:=E b e;exact⟨⟨by omega,by omega⟩,this.2.2⟩
   exact hQ _ _ ⟨((ag.upd _).trans D).trans B,.inr ⟨by decide,(s5,s7,t,s9,t12,()),aS,⟨⟨q1.row,iO q1⟩,⟨q2.row,iO q2⟩,⟨aM,by rw[aN,N],⟨rk ht ah,i1 ah⟩,λp c=>⟨rk (U p c).1 λb e=>((U p c).2 b e).1,i1 λb e=>((U p c).2 b e).1⟩⟩,⟨q3.row,iO q3⟩,⟨aP,by rw[aQ,O],⟨lt,i2 aR⟩,λp c=>⟨(ai p c).1,i2 (ai p c).2⟩⟩⟩⟩⟩ (show(1-IntKind.wrap .i64 (0+1)).toNat<(1-(0:Int)).toNat by decide)
  ·dsimp only at C⊢;subst C;rw[X];have y1:obj q (sz h)=_:=(he.old (sz h) (show sz h<sz h1 by omega) (by show ¬sz h=sz h1;omega)).trans c1;have bJ:sz h1<=sz q:=he.size;refine Zh rfl (rL (s:=z'.1) (Zb Z rfl) (rL (s:=z'.2.1) (Zb Z rfl) (rL (s:=z'.2.2.1) (Zb Z rfl) (rL (s:=z'.2.2.2.1) (Zb Z rfl) (rL (s:=z'.2.2.2.2.1) (Zb Z rfl) (ZaN y1 λh3 c3 u3 z3=>?_))))));have w3:sz h3=sz q:=z3
   have E3:Ext h h3:=⟨by show sz h<=sz h3;omega,λk m=>by
     have bL:k<sz h:=m
     rw[u3.old k (by show k<sz q;omega) (by show ¬k=sz h;omega),he.old k (by show k<sz h1;omega) (by show ¬k=sz h1;omega),Y.old k m]⟩
   refine rL (s:=z'.1) (Zb c3 rfl) (rL (s:=z'.2.1) (Zb c3 rfl) (rL (s:=z'.2.2.1) (Zb c3 rfl) (rL (s:=z'.2.2.2.1) (Zb c3 rfl) (rL (s:=z'.2.2.2.2.1) (Zb c3 rfl) (m h3 z' E3 ?_)))));refine(ax.keep (h':=h3) λb E ak=>u3.old b ak (by show ¬b=sz h;have:=E.1.1;omega)).mono λb ak E=>⟨⟨by have:=E.1.1;omega,by have:=E.1.2;omega⟩,E.2.keep (u3.old b (by show b<sz q;omega) (by show ¬b=sz h;have:=E.1.1;omega))⟩
theorem ZPp{h:Zf}{S:Nat->Prop}{z:Rw.VTR}{r:RulesP}(v:Rw.Yn h S z r)(w:∀b,S b->b<sz h)(hl:Mid r){K:Rw.VTR->Zf->Prop}
    (j:∀h' z',Ext h h'->Rw.Yn h' (Rnw h' (sz h) (sz h')) z' r->K z' h'):Zbs z K h:=by
  unfold Zbs ZdM;refine ZF λh1 c1 q x=>ZF λd y t A=>?_;have e:=Zj c1 t;refine rL (s:=z.1) (Zb e rfl) (rL (s:=z.2.1) (Zb e rfl) (rL (s:=z.2.2.1) (Zb e rfl) (rL (s:=z.2.2.2.1) (Zb e rfl) (rL (s:=z.2.2.2.2.1) (Zb e rfl) (ZF λh3 B u z3=>?_)))));have c:=(q.trans t).trans u;have C:sz h<=sz h3:=c.size;have D:sz h3=sz d+1:=z3
  refine ZPm (v.ext c) (λb a=>by have:=w b a;omega) hl (ZkO B rfl) (λb a=>by
    have l:d.size=b:=by simpa[Sl.blk]using a
    have E:sz d=b:=l
    omega) λm z4 n o=>?_
  have F:=Zj (Zj y u) n;have w1:sz h1=sz h+1:=x;have H:sz d=sz h1+1:=A;have I:sz h3=sz d+1:=z3;have J:sz h3<=sz m:=n.size;refine ZaN F λi f p z5=>?_;have L:sz i=sz m:=z5;have G:Ext h i:=(c.trans n).then p λk j=>by subst j;exact q.size
  refine rL (s:=z4.1) (Zb f rfl) (rL (s:=z4.2.1) (Zb f rfl) (rL (s:=z4.2.2.1) (Zb f rfl) (rL (s:=z4.2.2.2.1) (Zb f rfl) (rL (s:=z4.2.2.2.2.1) (Zb f rfl) (j i z4 G ?_)))));refine(o.keep (h':=i) λb a g=>p.old b g (by show ¬b=sz h1;have:=a.1.1;omega)).mono λb g a=>⟨⟨by have:=a.1.1;omega,by have:=a.1.2;omega⟩,a.2.keep (p.old b (by show b<sz m;omega) (by show ¬b=sz h1;have:=a.1.1;omega))⟩
def ZHI(z:Rw.VTR)(k:Int):Int:=if k=1 then z.1.len else if k=2 then z.2.1.len else if k=3 then z.2.2.1.len else if k=4 then z.2.2.2.1.len else if k=5 then z.2.2.2.2.1.len else 0
theorem ZCd{h:Zf}{z:Rw.VTR}{k:Int}{K:Int->Zf->Prop}(b:∀h',Ext h h'->K (ZHI z k) h'):Za5 z k K h:=by
  unfold Za5 Zc5;refine ZF λh1 c1 c d=>Za ?_;have a:=b h1 c;unfold ZHI at a;refine Zd (Ym (λq=>?_) λq=>?_)
  ·rw[if_pos q]at a;exact rL (s:=z.1) (Zb c1 rfl) (Za a)
  rw[if_neg q]at a;refine Zd (Ym (λq=>?_) λq=>?_)
  ·rw[if_pos q]at a;exact rL (s:=z.2.1) (Zb c1 rfl) (Za a)
  rw[if_neg q]at a;refine Zd (Ym (λq=>?_) λq=>?_)
  ·rw[if_pos q]at a;exact rL (s:=z.2.2.1) (Zb c1 rfl) (Za a)
  rw[if_neg q]at a;refine Zd (Ym (λq=>?_) λq=>?_)
  ·rw[if_pos q]at a;exact rL (s:=z.2.2.2.1) (Zb c1 rfl) (Za a)
  rw[if_neg q]at a;refine Zd (Ym (λq=>?_) λq=>?_)
  ·rw[if_pos q]at a;exact rL (s:=z.2.2.2.2.1) (Zb c1 rfl) (Za a)
  rw[if_neg q]at a;exact Za a
theorem ZBG{h:Zf}{x y:Sl}{f:ZdX}(t:Row h x 2 (Rw.Zds f.items))(u:Row h y 2 (Rw.Zds f.items))(hl:f.items.length<=100000000){K:Bool->Zf->Prop}(z:∀h',Ext h h'->K true h'):
    Zan (Zu f.res,f.index,f.cnt,f.secs,x,()) (Zu f.res,f.index,f.cnt,f.secs,y,()) K h:=by
  unfold Zan Zb1;have A:x.len=f.items.length:=by have:=t.len;rw[Rw.Zh8]at this;omega
  have B:y.len=f.items.length:=by have:=u.len;rw[Rw.Zh8]at this;omega
  refine ZF λh1 c1 C G=>ZF λD j v H=>?_;have a:=Zj c1 v;have c:=C.trans v;refine rS (Zb a rfl) (rS (Zb j rfl) (Zh (by rw[Zg7];rfl) ?_));refine rI (Zb a rfl) (rI (Zb j rfl) (Zdt (λd=>absurd rfl d) λ_=>?_));refine rI (Zb a rfl) (rI (Zb j rfl) (Zdt (λd=>absurd rfl d) λ_=>?_));refine rI (Zb a rfl) (rI (Zb j rfl) (Zdt (λd=>absurd rfl d) λ_=>?_));refine rL (s:=x) (Zb a rfl) (rL (s:=y) (Zb j rfl) (Zdt (λd=>absurd (by rw[A,B]) d) λ_=>Za ?_));refine Zaj (λ(p:Int×Unit) m=>∃i:Nat,p=((i:Int),())/\i<=f.items.length/\m=D) (λp _=>((f.items.length:Int)- p.1).toNat) ⟨0,rfl,Ayg _,rfl⟩ ?_;rintro _ m ⟨i,rfl,E,rfl⟩ Q F;dsimp only;refine rL (s:=x) (Zb a rfl) (Zn (λq=>?_) λq=>z m c);have hi:i<f.items.length:=by omega
  have r:f.items[i]?=some f.items[i]:=Axy hi;generalize f.items[i]=p at r;obtain⟨b,o,_,_,k,w⟩:=Zab (α:=BL×Int) (g:=λp=>[Rw.sV p.1,iv p.2]) (n:=2) (λ_=>rfl) (t.ext c) r (by decide);obtain⟨I,J,_,_,e,l⟩:=Zab (α:=BL×Int) (g:=λp=>[Rw.sV p.1,iv p.2]) (n:=2) (λ_=>rfl) (u.ext c) r (by decide);refine rL (s:=x) (Zb a rfl) (k rfl (rS (w 0 _ rfl) (rI (w 1 _ rfl) (rL (s:=y) (Zb j rfl) (e rfl (rS (l 0 _ rfl) (rI (l 1 _ rfl) (Zh (by simp[Zg7]) (Za ?_)))))))));rw[wrS hi (by omega)];exact F _ _ ⟨i+1,rfl,hi,rfl⟩ (by show((f.items.length:Int)- ((i+1:Nat):Int)).toNat<((f.items.length:Int)- ((i:Nat):Int)).toNat;omega)
theorem Zy1{h:Zf}{x y:Sl}{f:Zbi}(k:Row h x 1 (f.origins.map Rw.sV))(l:Row h y 1 (f.origins.map Rw.sV))(hl:f.origins.length<=100000000){K:Bool->Zf->Prop}(r:∀h',Ext h h'->K true h'):
    X1 (Zu f.res,f.white,x,()) (Zu f.res,f.white,y,()) K h:=by
  unfold X1 ZbI;have t:x.len=f.origins.length:=by have:=k.len;rw[Ayv]at this;omega
  have u:y.len=f.origins.length:=by have:=l.len;rw[Ayv]at this;omega
  refine ZF λh1 c1 v D=>ZF λw d m E=>?_;have c:=Zj c1 m;have a:=v.trans m;refine rS (Zb c rfl) (rS (Zb d rfl) (Zh (by rw[Zg7];rfl) ?_));refine rB (Zb c rfl) (rB (Zb d rfl) (Zh (by simp) ?_));refine rL (s:=x) (Zb c rfl) (rL (s:=y) (Zb d rfl) (Zdt (λz=>absurd (by rw[t,u]) z) λ_=>Za ?_));refine Zaj (λ(p:Int×Unit) e=>∃i:Nat,p=((i:Int),())/\i<=f.origins.length/\e=w) (λp _=>((f.origins.length:Int)- p.1).toNat) ⟨0,rfl,Ayg _,rfl⟩ ?_;rintro _ e ⟨i,rfl,A,rfl⟩ Q B;dsimp only;refine rL (s:=x) (Zb c rfl) (Zn (λq=>?_) λq=>r e a);have hi:i<f.origins.length:=by omega
  have g:(f.origins.map Rw.sV)[i]?=some (Rw.sV f.origins[i]):=by rw[Awy,Axy hi];rfl
  generalize f.origins[i]=p at g;refine rL (s:=x) (Zb c rfl) ((k.ext a).idx (i:=(i:Int)) (n:=i) rfl g λb o _ C=>⟨_,C,rL (s:=y) (Zb d rfl) ((l.ext a).idx (i:=(i:Int)) (n:=i) rfl g λF G _ j=>⟨_,j,Zh (by rw[Zg7];rfl) (Za ?_)⟩)⟩);rw[wrS hi (by omega)];exact B _ _ ⟨i+1,rfl,hi,rfl⟩ (by show((f.origins.length:Int)- ((i+1:Nat):Int)).toNat<((f.origins.length:Int)- ((i:Nat):Int)).toNat;omega)
section
variable{h:Zf}{S S':Nat->Prop}{z z':Rw.VTR}{r:RulesP}
theorem ZHT(E:Rw.Yn h S z r)(t:Rw.Yn h S' z' r)(hl:Mid r){K:Bool->Zf->Prop}(hk:∀h',Ext h h'->K true h'):Zbq z z' K h:=by
  unfold Zbq ZdK;obtain⟨B,J,U,aj⟩:=E.ho;obtain⟨u,F,G,V⟩:=t.ho;obtain⟨C,L,W,ak⟩:=E.li;obtain⟨v,H,I,X⟩:=t.li;have n1:=Y2 (g:=Rw.ZcR) (n:=12) (λ_=>rfl) E.fl.1 (by decide);have n2:=Y2 (g:=Rw.ZbN) (n:=7) (λ_=>rfl) E.br.1 (by decide);have n3:=Y2 (g:=Rw.ZjI) (n:=5) (λ_=>rfl) U.1 (by decide);have n4:=Y2 (g:=Rw.ZdB) (n:=5) (λ_=>rfl) E.sy.1 (by decide);have n5:=Y2 (g:=Rw.Zhp) (n:=3) (λ_=>rfl) W.1 (by decide);have m1:=Y2 (g:=Rw.ZcR) (n:=12) (λ_=>rfl) t.fl.1 (by decide);have m2:=Y2 (g:=Rw.ZbN) (n:=7) (λ_=>rfl) t.br.1 (by decide);have m3:=Y2 (g:=Rw.ZjI) (n:=5) (λ_=>rfl) G.1 (by decide);have m4:=Y2 (g:=Rw.ZdB) (n:=5) (λ_=>rfl) t.sy.1 (by decide);have m5:=Y2 (g:=Rw.Zhp) (n:=3) (λ_=>rfl) I.1 (by decide);have k3:B.length=r.ho.length:=by rw[<-J,Ayv]
  have al:u.length=r.ho.length:=by rw[<-F,Ayv]
  have k5:C.length=r.li.length:=by rw[<-L,Ayv]
  have an:v.length=r.li.length:=by rw[<-H,Ayv]
  have l1:=hl.f;have l2:=hl.b;have l3:=hl.h;have l4:=hl.s;have l5:=hl.l;have Y:∀k:Int,ZHI z k=ZHI z' k:=λk=>by unfold ZHI;rw[n1,n2,n3,n4,n5,m1,m2,m3,m4,m5,k3,al,k5,an]
  refine ZF λh1 c1 e1 z1=>ZF λh2 c2 e2 z2=>Za ?_;have x2:=Zj c1 e2;have ao:=e1.trans e2;refine Zaj (λ(p:Int×Unit) hh=>∃i:Nat,p=(((i+1:Nat):Int),())/\i<=5/\Ext h2 hh) (λp _=>((6:Int)- p.1).toNat) ⟨0,rfl,Ayg _,Ext.refl _⟩ ?_;rintro _ hh ⟨i,rfl,aX,he⟩ Q hQ;dsimp only;have y:=Zj x2 he;have D:=Zj c2 he;refine Zn (λq=>?_) λq=>?_
  ·refine rL (s:=z.1) (Zb y rfl) (rL (s:=z.2.1) (Zb y rfl) (rL (s:=z.2.2.1) (Zb y rfl) (rL (s:=z.2.2.2.1) (Zb y rfl) (rL (s:=z.2.2.2.2.1) (Zb y rfl) ?_))));refine rL (s:=z'.1) (Zb D rfl) (rL (s:=z'.2.1) (Zb D rfl) (rL (s:=z'.2.2.1) (Zb D rfl) (rL (s:=z'.2.2.2.1) (Zb D rfl) (rL (s:=z'.2.2.2.2.1) (Zb D rfl) ?_))));refine ZCd (z:=z) λh4 e4=>?_;have A:=Zj D e4;refine⟨⟨Zb A rfl,Zb A rfl,Zb A rfl,Zb A rfl,Zb A rfl,trivial⟩,ZCd (z:=z') λh5 Z=>Zdt (λh9=>absurd (Y _) h9) λ_=>Za ?_⟩
   have hw:IntKind.wrap .u8 (((i+1:Nat):Int)+1)=((i+1+1:Nat):Int):=by
     rcases(show i=0\/i=1\/i=2\/i=3\/i=4 by omega)with rfl|rfl|rfl|rfl|rfl<;>decide
   rw[hw];exact hQ _ _ ⟨i+1,rfl,by omega,(he.trans e4).trans Z⟩ (by show((6:Int)- ((i+1+1:Nat):Int)).toNat<((6:Int)- ((i+1:Nat):Int)).toNat;omega)
  have E3:=ao.trans he;refine Za (Zaj (λ(p:Int×Unit) hx=>∃i:Nat,p=((i:Int),())/\i<=r.fl.length/\hx=hh) (λp _=>((r.fl.length:Int)- p.1).toNat) ⟨0,rfl,Ayg _,rfl⟩ ?_);rintro _ hx ⟨i1,rfl,bb,rfl⟩ Q1 au;dsimp only;refine rL (s:=z.1) (Zb y rfl) (Zn (λq=>?_) λq=>?_)
  ·have hi:i1<r.fl.length:=by omega
   have m:r.fl[i1]?=some r.fl[i1]:=Axy hi;generalize r.fl[i1]=f at m;obtain⟨b,o,_,_,e,d⟩:=Zab (g:=Rw.ZcR) (n:=12) (λ_=>rfl) (E.fl.1.ext E3) m (by decide);obtain⟨b',o',_,_,c,a⟩:=Zab (g:=Rw.ZcR) (n:=12) (λ_=>rfl) (t.fl.1.ext E3) m (by decide);refine rL (s:=z.1) (Zb y rfl) (e rfl (rS (d 0 _ rfl) (rS (d 1 _ rfl) (rB (d 2 _ rfl) (rI (d 3 _ rfl) (rI (d 4 _ rfl) (rS (d 5 _ rfl) (rI (d 6 _ rfl) (rI (d 7 _ rfl) (rI (d 8 _ rfl) (rB (d 9 _ rfl) (rI (d 10 _ rfl) (rB (d 11 _ rfl) ?_)))))))))))));refine rL (s:=z'.1) (Zb D rfl) (c rfl (rS (a 0 _ rfl) (rS (a 1 _ rfl) (rB (a 2 _ rfl) (rI (a 3 _ rfl) (rI (a 4 _ rfl) (rS (a 5 _ rfl) (rI (a 6 _ rfl) (rI (a 7 _ rfl) (rI (a 8 _ rfl) (rB (a 9 _ rfl) (rI (a 10 _ rfl) (rB (a 11 _ rfl) ?_)))))))))))));refine Zh (by simp[Zg7]) (Za ?_);rw[wrS hi (by omega)];exact au _ _ ⟨i1+1,rfl,hi,rfl⟩ (by show((r.fl.length:Int)- ((i1+1:Nat):Int)).toNat<((r.fl.length:Int)- ((i1:Nat):Int)).toNat;omega)
  refine Za (Zaj (λ(p:Int×Unit) hy=>∃i:Nat,p=((i:Int),())/\i<=r.br.length/\hy=hx) (λp _=>((r.br.length:Int)- p.1).toNat) ⟨0,rfl,Ayg _,rfl⟩ ?_);rintro _ hy ⟨i2,rfl,bc,rfl⟩ Q2 aw;dsimp only;refine rL (s:=z.2.1) (Zb y rfl) (Zn (λq=>?_) λq=>?_)
  ·have hi:i2<r.br.length:=by omega
   have m:r.br[i2]?=some r.br[i2]:=Axy hi;generalize r.br[i2]=f at m;obtain⟨b,o,_,_,e,d⟩:=Zab (g:=Rw.ZbN) (n:=7) (λ_=>rfl) (E.br.1.ext E3) m (by decide);obtain⟨b',o',_,_,c,a⟩:=Zab (g:=Rw.ZbN) (n:=7) (λ_=>rfl) (t.br.1.ext E3) m (by decide);refine rL (s:=z.2.1) (Zb y rfl) (e rfl (rS (d 0 _ rfl) (rI (d 1 _ rfl) (rI (d 2 _ rfl) (rI (d 3 _ rfl) (rI (d 4 _ rfl) (rI (d 5 _ rfl) (rI (d 6 _ rfl) ?_))))))));refine rL (s:=z'.2.1) (Zb D rfl) (c rfl (rS (a 0 _ rfl) (rI (a 1 _ rfl) (rI (a 2 _ rfl) (rI (a 3 _ rfl) (rI (a 4 _ rfl) (rI (a 5 _ rfl) (rI (a 6 _ rfl) ?_))))))));refine Zh (by simp[Zg7]) (Za ?_);rw[wrS hi (by omega)];exact aw _ _ ⟨i2+1,rfl,hi,rfl⟩ (by show((r.br.length:Int)- ((i2+1:Nat):Int)).toNat<((r.br.length:Int)- ((i2:Nat):Int)).toNat;omega)
  refine Za (Zaj (λ(p:Int×Unit) hw=>∃i:Nat,p=((i:Int),())/\i<=r.ho.length/\Ext hy hw) (λp _=>((r.ho.length:Int)- p.1).toNat) ⟨0,rfl,Ayg _,Ext.refl _⟩ ?_);rintro _ hw ⟨i3,rfl,bd,ew⟩ Q3 ax;dsimp only;have T:=Zj y ew;have A:=Zj D ew;have M:=E3.trans ew;refine rL (s:=z.2.2.1) (Zb T rfl) (Zn (λq=>?_) λq=>?_)
  ·have hi:i3<B.length:=by omega
   have x:i3<u.length:=by omega
   have m:B[i3]?=some B[i3]:=Axy hi;have w:u[i3]?=some u[i3]:=Axy x
   have heq:(B[i3]).2=(u[i3]).2:=by
     have a1:(B.map (·.2))[i3]?=some (B[i3]).2:=by rw[Awy,m];rfl
     have N:(u.map (·.2))[i3]?=some (u[i3]).2:=by rw[Awy,w];rfl
     rw[J]at a1;rw[F]at N;rw[a1]at N;exact Option.some.inj N
   have j:(B[i3]).2∈r.ho:=by rw[<-J];exact List.mem_map_of_mem (Ayy hi)
   have O:=(aj _ (Ayy hi)).1;have P:=(V _ (Ayy x)).1;generalize B[i3]=p at m heq j O;generalize u[i3]=p' at w heq P;obtain⟨ps,f⟩:=p;obtain⟨R,f'⟩:=p';dsimp only at heq j O P;subst heq;obtain⟨b,o,_,_,e,d⟩:=Zab (g:=Rw.ZjI) (n:=5) (λ_=>rfl) (U.1.ext M) m (by decide);obtain⟨b',o',_,_,c,a⟩:=Zab (g:=Rw.ZjI) (n:=5) (λ_=>rfl) (G.1.ext M) w (by decide);refine rL (s:=z.2.2.1) (Zb T rfl) (e rfl (rS (d 0 _ rfl) (rI (d 1 _ rfl) (rI (d 2 _ rfl) (rI (d 3 _ rfl) (rL (s:=ps) (d 4 _ rfl) ?_))))));refine rL (s:=z'.2.2.1) (Zb A rfl) (c rfl (rS (a 0 _ rfl) (rI (a 1 _ rfl) (rI (a 2 _ rfl) (rI (a 3 _ rfl) (rL (s:=R) (a 4 _ rfl) ?_))))));refine ZBG (f:=f) (O.ext M) (P.ext M) (hl.hi _ j) λh5 Z=>⟨Yj (Zb (Zj A Z) rfl),Yj (Zb (Zj T Z) rfl),Zh rfl (Za ?_)⟩;rw[wrS hi (by omega)];exact ax _ _ ⟨i3+1,rfl,by omega,ew.trans Z⟩ (by show((r.ho.length:Int)- ((i3+1:Nat):Int)).toNat<((r.ho.length:Int)- ((i3:Nat):Int)).toNat;omega)
  refine Za (Zaj (λ(p:Int×Unit) hv=>∃i:Nat,p=((i:Int),())/\i<=r.sy.length/\hv=hw) (λp _=>((r.sy.length:Int)- p.1).toNat) ⟨0,rfl,Ayg _,rfl⟩ ?_);rintro _ hv ⟨i4,rfl,bg,rfl⟩ Q4 aA;dsimp only;refine rL (s:=z.2.2.2.1) (Zb T rfl) (Zn (λq=>?_) λq=>?_)
  ·have hi:i4<r.sy.length:=by omega
   have m:r.sy[i4]?=some r.sy[i4]:=Axy hi;generalize r.sy[i4]=f at m;obtain⟨b,o,_,_,e,d⟩:=Zab (g:=Rw.ZdB) (n:=5) (λ_=>rfl) (E.sy.1.ext M) m (by decide);obtain⟨b',o',_,_,c,a⟩:=Zab (g:=Rw.ZdB) (n:=5) (λ_=>rfl) (t.sy.1.ext M) m (by decide);refine rL (s:=z.2.2.2.1) (Zb T rfl) (e rfl (rI (d 0 _ rfl) (rI (d 1 _ rfl) (rI (d 2 _ rfl) (rI (d 3 _ rfl) (rI (d 4 _ rfl) ?_))))));refine rL (s:=z'.2.2.2.1) (Zb A rfl) (c rfl (rI (a 0 _ rfl) (rI (a 1 _ rfl) (rI (a 2 _ rfl) (rI (a 3 _ rfl) (rI (a 4 _ rfl) ?_))))));refine Zh (by simp) (Za ?_);rw[wrS hi (by omega)];exact aA _ _ ⟨i4+1,rfl,hi,rfl⟩ (by show((r.sy.length:Int)- ((i4+1:Nat):Int)).toNat<((r.sy.length:Int)- ((i4:Nat):Int)).toNat;omega)
  refine Za (Zaj (λ(p:Int×Unit) hu=>∃i:Nat,p=((i:Int),())/\i<=r.li.length/\Ext hv hu) (λp _=>((r.li.length:Int)- p.1).toNat) ⟨0,rfl,Ayg _,Ext.refl _⟩ ?_);rintro _ hu ⟨i5,rfl,bh,eu⟩ Q5 aB;dsimp only;have x5:=Zj T eu;have c5:=Zj A eu;have E5:=M.trans eu;refine rL (s:=z.2.2.2.2.1) (Zb x5 rfl) (Zn (λq=>?_) λq=>hk hu E5);have hi:i5<C.length:=by omega
  have x:i5<v.length:=by omega
  have m:C[i5]?=some C[i5]:=Axy hi;have w:v[i5]?=some v[i5]:=Axy x
  have heq:(C[i5]).2=(v[i5]).2:=by
    have a1:(C.map (·.2))[i5]?=some (C[i5]).2:=by rw[Awy,m];rfl
    have N:(v.map (·.2))[i5]?=some (v[i5]).2:=by rw[Awy,w];rfl
    rw[L]at a1;rw[H]at N;rw[a1]at N;exact Option.some.inj N
  have j:(C[i5]).2∈r.li:=by rw[<-L];exact List.mem_map_of_mem (Ayy hi)
  have O:=(ak _ (Ayy hi)).1;have P:=(X _ (Ayy x)).1;generalize C[i5]=p at m heq j O;generalize v[i5]=p' at w heq P;obtain⟨ps,f⟩:=p;obtain⟨R,f'⟩:=p';dsimp only at heq j O P;subst heq;obtain⟨b,o,_,_,e,d⟩:=Zab (g:=Rw.Zhp) (n:=3) (λ_=>rfl) (W.1.ext E5) m (by decide);obtain⟨b',o',_,_,c,a⟩:=Zab (g:=Rw.Zhp) (n:=3) (λ_=>rfl) (I.1.ext E5) w (by decide);refine rL (s:=z.2.2.2.2.1) (Zb x5 rfl) (e rfl (rS (d 0 _ rfl) (rB (d 1 _ rfl) (rL (s:=ps) (d 2 _ rfl) ?_))));refine rL (s:=z'.2.2.2.2.1) (Zb c5 rfl) (c rfl (rS (a 0 _ rfl) (rB (a 1 _ rfl) (rL (s:=R) (a 2 _ rfl) ?_))));refine Zy1 (f:=f) (O.ext E5) (P.ext E5) (hl.lo _ j) λh6 e6=>⟨Yj (Zb (Zj c5 e6) rfl),Yj (Zb (Zj x5 e6) rfl),Zh rfl (Za ?_)⟩;rw[wrS hi (by omega)];exact aB _ _ ⟨i5+1,rfl,by omega,eu.trans e6⟩ (by show((r.li.length:Int)- ((i5+1:Nat):Int)).toNat<((r.li.length:Int)- ((i5:Nat):Int)).toNat;omega)
end
def pick{β:Type}(eq:β->Bool):List β->List Bool->Nat->Int×List Bool
  |w::ws,u::us,i=>if u=false/\eq w=true then((i:Int),true::us)else((pick eq ws us (i+1)).1,u::(pick eq ws us (i+1)).2)
  |_,us,_=>(-1,us)
def ZfN{α β:Type}(same:α->β->Bool)(a:List β):List α->List Bool->List Int
  |[],_=>[]
  |r::rs,us=>(pick (same r) a us 0).1::ZfN same a rs (pick (same r) a us 0).2
theorem Zly{β:Type}{eq:β->Bool}:∀{ws:List β} {us:List Bool} {i:Nat},(pick eq ws us i).2.length=us.length
  |[],us,i=>by cases us<;>rfl
  |w::ws,[],i=>rfl
  | w::ws,u::us,i=>by
    unfold pick;split
    ·rfl
    ·simp[Zly]
theorem Ztt{β:Type}{eq:β->Bool}:∀{ws:List β} {us:List Bool} {i:Nat},ws.length=us.length->((pick eq ws us i).1= -1/\(pick eq ws us i).2=us)\/∃k w,(pick eq ws us i).1=((i+k:Nat):Int)/\ws[k]?=some w/\eq w=true/\us[k]?=some false/\(pick eq ws us i).2=us.set k true
  |[],us,i,h=>by cases us<;>exact .inl ⟨rfl,rfl⟩
  |w::ws,[],i,h=>by cases h
  | w::ws,u::us,i,h=>by
    unfold pick;split
    ·rename_i q;exact .inr ⟨0,w,rfl,rfl,q.2,by rw[q.1];rfl,rfl⟩
    ·rcases Ztt (eq:=eq) (ws:=ws) (us:=us) (i:=i+1) (by simpa using h)with⟨h1,a⟩ |⟨k,w',h1,a,h3,b,c⟩
     ·exact .inl ⟨h1,by rw[a]⟩
     ·exact .inr ⟨k+1,w',by rw[h1];congr 1;omega,a,h3,b,by rw[c];rfl⟩
theorem ZrW{β:Type}{eq:β->Bool}:∀{ws:List β} {us:List Bool} {i:Nat},ws.length=us.length->(∀(j:Nat) (w:β),ws[j]?=some w->us[j]?=some false->eq w=false)->pick eq ws us i=(-1,us)
  |[],us,i,h,_=>by cases us<;>rfl
  |w::ws,[],i,h,_=>by cases h
  | w::ws,u::us,i,h,b=>by
    unfold pick
    have a:¬(u=false/\eq w=true):=λq=>by
      have:=b 0 w rfl (by rw[q.1];rfl);rw[q.2]at this;cases this
    rw[if_neg a,ZrW (by simpa using h) λj w' h1 c=>b (j+1) w' h1 c]
theorem ZrV{β:Type}{eq:β->Bool}:∀{ws:List β} {us:List Bool} {i k:Nat} {w:β},ws.length=us.length->ws[k]?=some w->us[k]?=some false->eq w=true->(∀(j:Nat) (w':β),j<k->ws[j]?=some w'->us[j]?=some false->eq w'=false)->pick eq ws us i=(((i+k:Nat):Int),us.set k true)
  |[],us,i,k,w,h,h1,_,_,_=>by cases h1
  |v::ws,[],i,k,w,h,_,_,_,_=>by cases h
  | v::ws,u::us,i,0,w,h,h1,c,h3,_=>by
    cases h1;cases c;unfold pick;rw[if_pos ⟨rfl,h3⟩];rfl
  | v::ws,u::us,i,k+1,w,h,h1,c,h3,e=>by
    unfold pick
    have d:¬(u=false/\eq v=true):=λq=>by
      have:=e 0 v (by omega) rfl (by rw[q.1];rfl);rw[q.2]at this;cases this
    rw[if_neg d,ZrV (i:=i+1) (k:=k) (by simpa using h) h1 c h3 λj w' f a b=>e (j+1) w' (by omega) a b];refine Prod.ext ?_ rfl;show((i+1+k:Nat):Int)=((i+(k+1):Nat):Int);congr 1;omega
def boL(u:Bool):List Value:=[.bool u]
theorem Zri(u:Bool):(boL u).length=1:=rfl
theorem ZzW(n:Nat):XR [.bool false] n=(List.replicate n false).flatMap boL:=by
  unfold XR
  induction n with
  |zero=>rfl
  |succ n a=>rw[List.replicate_succ,List.replicate_succ,List.flatten_cons,Aye,a];rfl
section
variable{α:Type}{g:α->List Value}{n:Nat}{same:α->α->Bool}{T:TypeId}
theorem ZAY(hg:∀a,(g a).length=n)(hn:0<n){h:Zf}{base:Nat}{p t:Sl}{B:List α}{U:List Bool}(hb:Row h p n (B.flatMap g))(hB:B.length<=256)(hU:B.length=U.length)(ht:Own h base t 1 (U.flatMap boL))(ah:p.len≠0->∀b,p.blk=some b->b<base){a:α}{c0:Nat}(R:obj h c0=some (.cells (g a).toArray T (0,0)))(ai:t.blk≠some c0)
    {ld2:Nat->Nat->Zf->Int->(Nat->Int->Zf->Prop)->Prop} {cmp:Nat->Nat->Zf->(Bool->Zf->Prop)->Prop}
    (h2:∀b bb o m i Q,(∀j v,(g b)[j]?=some v->Zy (o+j) (obj m bb)=some v)->(∀h' c,Ext m h'->obj h' c=some (.cells (g b).toArray T (0,0))->Q c i h')->ld2 bb o m i Q)
    (h3:∀b c d m Q,b∈B->Upd (λk=>t.blk=some k) h m->obj m c=some (.cells (g a).toArray T (0,0))->obj m d=some (.cells (g b).toArray T (0,0))->(∀h',Ext m h'->Q (same a b) h')->cmp c d m Q)
    {J:Int->Zf->Prop} (hJ:∀h',Own h' base t 1 ((pick (same a) B U 0).2.flatMap boL)->Upd (λk=>t.blk=some k) h h'->J (pick (same a) B U 0).1 h'):
    ZP (σ:=Int×Int×Unit) (λC V W=>(λ(l:Int) (r:Int)=>
     Zk (decide (r<(p.len:Int))) (Yk p.ptr p.len r n λak al=>ld2 ak al W r λan i D=>
      Zk (decide (l<0)) (Yk t.ptr t.len i 1 λao aq=>ldB D ao aq λt42=>Zk (!t42) (cmp c0 an D λt67 X=>
       Zk t67 (Zc i λz=>Yk t.ptr t.len i 1 λar au=>st X ar au (.bool true) λav=>C (z,IntKind.wrap .i64 (r+1),()) av) (C (l,IntKind.wrap .i64 (r+1),()) X)) (C (l,IntKind.wrap .i64 (r+1),()) D)) (C (l,IntKind.wrap .i64 (r+1),()) D)) (J l W)) V.1 V.2.1) (-1,0,()) h:=by
  have aP:=Y2 hg hb hn;have aQ:=Zp R
  refine Zaj (λ(s:Int×Int×Unit) m=>∃(i:Nat) (us:List Bool),s.2.1=(i:Int)/\i<=B.length/\Own m base t 1 (us.flatMap boL)/\Upd (λk=>t.blk=some k) h m/\((s.1= -1/\us=U/\∀j w,j<i->B[j]?=some w->U[j]?=some false->same a w=false)\/(0<=s.1/\s.1=(pick (same a) B U 0).1/\us=(pick (same a) B U 0).2))) (λs _=>((B.length:Int)- s.2.1).toNat)
    ⟨0,U,rfl,Ayg _,ht,Upd.refl _ _,.inl ⟨rfl,rfl,λj w O=>by omega⟩⟩ ?_
  rintro⟨f,_,_⟩ m ⟨i,us,rfl,aR,ho,u,hinv⟩ Q hQ;dsimp only at hinv⊢;have E:i<B.length->IntKind.wrap .i64 ((i:Int)+1)=((i+1:Nat):Int):=λhi=>wrS hi (by omega);have F:i<B.length->((B.length:Int)- ((i+1:Nat):Int)).toNat<((B.length:Int)- ((i:Nat):Int)).toNat:=λhi=>by omega
  refine Zn (λq=>?_) λq=>?_
  ·have hi:i<B.length:=by omega
   obtain⟨w,hw⟩:∃w,B[i]?=some w:=⟨_,Axy hi⟩;have aw:Row m p n (B.flatMap g):=Rw.ZiP (S:=λb=>b<base) hb (λax b e=>ah ax b e) λb hs hl=>u.old b hl λe=>by have:=(ht.lt e).1;omega
   obtain⟨b,o,_,_,Y,I⟩:=Zab hg aw hw hn;refine Y rfl (h2 w b o m _ _ I λh5 c5 e5 az=>?_);have y:=ho.congr (h':=h5) λk Z _ _=>e5.old k (ho.lt Z).2;have P:=u.trans (e5.upd _)
   rcases hinv with⟨rfl,rfl,A⟩ |⟨f0,f1,rfl⟩
   ·refine Zm rfl ?_;obtain⟨x,hx⟩:∃x,us[i]?=some x:=⟨_,Axy (by omega)⟩;obtain⟨b4,o4,_,_,K,G⟩:=Zab Zri y.row hx (by decide);refine K rfl (rB (G 0 _ rfl) ⟨λq1=>?_,λq1=>?_⟩)
    ·have aA:x=false:=by cases x<;>simp_all
     subst aA;have aB:obj h5 c0=some (.cells (g a).toArray T (0,0)):=Y0 R P ai;refine h3 w c0 c5 h5 _ (Axo hw) P aB az λh6 e6=>⟨λq2=>?_,λq2=>?_⟩
     ·have hp:=ZrV (eq:=same a) (i:=0) hU hw hx q2 A;have L:=y.congr (h':=h6) λk Z _ _=>e6.old k (y.lt Z).2;have u6:=P.trans (e6.upd _);obtain⟨bb,aD,aE⟩:=Own.ptr_ L (o:=i*1) (by rw[YN Zri];omega);have aU:=Y2 Zri L.row (by decide);refine Za ⟨bb,0,aD,by omega,by omega,?_⟩;refine Zuu Zri L hx (j:=0) (a':=true) (by decide) rfl rfl aE (by omega) λh7 aF u7 z7=>?_;rw[E hi];refine hQ _ _ ⟨i+1,us.set i true,rfl,hi,aF,u6.trans u7,.inr ⟨by omega,?_,?_⟩⟩ (F hi)
      ·rw[hp];simp
      ·rw[hp]
     ·rw [E hi];refine hQ _ _ ⟨i+1,us,rfl,hi,y.congr (h':=h6) λk Z _ _=>e6.old k (y.lt Z).2,P.trans (e6.upd _),.inl ⟨rfl,rfl,λj w' O H M=>?_⟩⟩ (F hi)
      rcases(show j<i\/j=i by omega)with O|rfl
      ·exact A j w' O H M
      ·rw[hw]at H;cases H;exact q2
    ·rw [E hi];refine hQ _ _ ⟨i+1,us,rfl,hi,y,P,.inl ⟨rfl,rfl,λj w' O H M=>?_⟩⟩ (F hi)
     rcases(show j<i\/j=i by omega)with O|rfl
     ·exact A j w' O H M
     ·rw[hx]at M;cases M;cases q1
   ·rw[E hi];exact Zh (decide_eq_false (by omega)) (hQ _ _ ⟨i+1,_,rfl,hi,y,P,.inr ⟨f0,f1,rfl⟩⟩ (F hi))
  ·have N:i=B.length:=by omega
   rcases hinv with⟨rfl,rfl,A⟩ |⟨f0,f1,rfl⟩
   ·have hp:=ZrW (eq:=same a) (i:=0) hU λj w H M=>A j w (by rw[N];exact ZbP H) H M;rw[hp]at hJ;exact hJ m ho u
   ·rw[f1];exact hJ m ho u
end
section
variable{α:Type}{g:α->List Value}{n:Nat}{same:α->α->Bool}{T:TypeId}
theorem Zx8(hg:∀a,(g a).length=n)(R:0<n){h:Zf}{now w:Sl}{A B:List α}(ha:Row h now n (A.flatMap g))(S:Row h w n (B.flatMap g))(hA:A.length<=256)(hB:B.length<=256)
    {ld1:Nat->Nat->Zf->(Nat->Zf->Prop)->Prop} {ld2:Nat->Nat->Zf->Int->(Nat->Int->Zf->Prop)->Prop} {cmp:Nat->Nat->Zf->(Bool->Zf->Prop)->Prop}
    (h1:∀a U o m Q,(∀j v,(g a)[j]?=some v->Zy (o+j) (obj m U)=some v)->(∀h' c,Ext m h'->sz m<=c->obj h' c=some (.cells (g a).toArray T (0,0))->Q c h')->ld1 U o m Q)
    (h2:∀b U o m i Q,(∀j v,(g b)[j]?=some v->Zy (o+j) (obj m U)=some v)->(∀h' c,Ext m h'->obj h' c=some (.cells (g b).toArray T (0,0))->Q c i h')->ld2 U o m i Q)
    (h3:∀a b c d m Q,a∈A->b∈B->Ext h m->obj m c=some (.cells (g a).toArray T (0,0))->obj m d=some (.cells (g b).toArray T (0,0))->(∀h',Ext m h'->Q (same a b) h')->cmp c d m Q)
    {K:Sl->Zf->Prop} (hK:∀h' t,Ext h h'->Own h' (sz h) t 1 ((ZfN same B A (List.replicate B.length false)).map iv)->K t h'):
    mkS 4 1 [.bool false] (w.len:Int) (w.len:Int) h λt h1=>ZP (σ:=Sl×Int×Unit) (λJ2 s h3=>(λ(l:Sl) (G:Int)=>
      Zk (decide (G<(now.len:Int))) (Yk now.ptr now.len G n λb o=>ld1 b o h3 λag ah=>Zc (-1) λfound=>
       ZP (σ:=Int×Int×Unit) (λD V E=>(λ(e:Int) (p:Int)=>
        Zk (decide (p<(w.len:Int))) (Yk w.ptr w.len p n λai aj=>ld2 ai aj E p λak i F=>
         Zk (decide (e<0)) (Yk t.ptr t.len i 1 λal an=>ldB F al an λt42=>Zk (!t42) (cmp ag ak F λt67 W=>
          Zk t67 (Zc i λy=>Yk t.ptr t.len i 1 λao aq=>st W ao aq (.bool true) λar=>D (y,IntKind.wrap .i64 (p+1),()) ar) (D (e,IntKind.wrap .i64 (p+1),()) W)) (D (e,IntKind.wrap .i64 (p+1),()) F)) (D (e,IntKind.wrap .i64 (p+1),()) F))
         (newC E [iv e] 3 λH z=>rdS ⟨some ⟨H,0,none⟩,1,1⟩ 1 z λnew=>app 3 1 8 [iv 0] l 1 new z λt75 I=>J2 (t75,IntKind.wrap .i64 (G+1),()) I)) V.1 V.2.1) (found,0,()) ah) (K l h3)) s.1 s.2.1) (⟨none,0,0⟩,0,()) h1:=by
  have nl:=Y2 hg ha R;have wl:=Y2 hg S R;have wi:=Rw.Zlv S (n:=n) R;refine⟨by omega,Int.le_refl _,by omega,by omega,?_⟩;rw[Aqu,wl];have e0:Ext h (h.push (.cells (XR [.bool false] B.length).toArray 4)):=Ext.push _ _;have z0:sz (h.push (.cells (XR [.bool false] B.length).toArray 4))=sz h+1:=ZbQ
  have M:Own (h.push (.cells (XR [.bool false] B.length).toArray 4)) (sz h) ⟨some ⟨sz h,0,none⟩,B.length,B.length⟩ 1 ((List.replicate B.length false).flatMap boL):=by
    rw[<-ZzW];exact Own.newC (h:=h) (cells:=XR [.bool false] B.length) (t:=4) (size:=1) (n:=B.length) (by rw[Zf3];simp) (by omega)
  have r:(⟨some ⟨sz h,0,none⟩,B.length,B.length⟩:Sl).blk=some (sz h):=rfl;rw[show h.size=sz h from rfl];generalize (⟨some ⟨sz h,0,none⟩,B.length,B.length⟩:Sl)=t at M r⊢;generalize h.push (.cells (XR [.bool false] B.length).toArray 4)=h0 at e0 z0 M⊢;rw[<-wl]
  refine Zaj (λ(s:Sl×Int×Unit) m=>∃(i:Nat) (us:List Bool) (L:List Int),s.2.1=(i:Int)/\i<=A.length/\us.length=B.length/\L.length=i/\Own m (sz h) t 1 (us.flatMap boL)/\Own m (sz h) s.1 1 (L.map iv)/\(∀b,s.1.blk=some b->sz h<b)/\Ext h m/\L++ZfN same B (A.drop i) us=ZfN same B A (List.replicate B.length false)) (λs _=>((A.length:Int)- s.2.1).toNat)
    ⟨0,_,[],rfl,Ayg _,by simp,rfl,M,Own.nil _ _ _,(λb S=>by cases S),e0,rfl⟩ ?_
  rintro⟨l,_,_⟩ m ⟨i,us,L,rfl,aL,X,au,ht,hl,C,he,Y⟩ Q hQ;dsimp only at hl C⊢;refine Zn (λq=>?_) λq=>?_
  ·have hi:i<A.length:=by omega
   have ga:A[i]?=some A[i]:=Axy hi;have dr:A.drop i=A[i]::A.drop (i+1):=Ayo hi;rw[dr]at Y;generalize A[i]=a at ga Y;obtain⟨b,o,_,_,Z,N⟩:=Zab hg (ha.ext he) ga R;refine Z rfl (h1 a b o m _ N λh5 c5 O aP hc=>Za ?_);have w5:sz h<=sz m:=he.size;have aR:=(ht.lt r).2;have aS:m.size=sz m:=rfl;refine ZAY (a:=a) (same:=same) (J:=λe E=>newC E [iv e] 3 λH z=>rdS ⟨some ⟨H,0,none⟩,1,1⟩ 1 z λnew=>app 3 1 8 [iv 0] l 1 new z λt75 I=>Q (t75,IntKind.wrap .i64 ((i:Int)+1),()) I) hg R (S.ext (he.trans O)) hB X.symm (ht.congr (h':=h5) λk f _ _=>O.old k (ht.lt f).2) (λax b9 x=>wi ax b9 x) hc (by rw[r];intro x;cases x;omega) h2 (λb c d h6 Q9 ay u6 x1 x2 x3=>h3 a b c d h6 Q9 (Axo ga) ay ?_ x1 x2 x3) λh6 o6 u6=>ZF λh7 c7 e7 z7=>?_
   ·exact(he.trans O).then u6 λk f=>by rw[r]at f;cases f;exact Aqo _
   have E6:Ext h h6:=(he.trans O).then u6 λk f=>by rw[r]at f;cases f;exact Aqo _
   have aB:Own h7 (sz h) l 1 (L.map iv):=hl.congr λk f u _=>by
     have h9:=C k f;rw[e7.old k (Aqq (Aqq u O.size) u6.size),u6.old k (Aqq u O.size) (λx=>by rw[r]at x;cases x;omega),O.old k u]
   have bc:l.len=i:=by have:=hl.len;simp at this;omega
   have b7:h7.size=h6.size+1:=z7;refine(ZkO c7 rfl).rd (aB.app (n:=1) rfl rfl rfl (by omega) (by omega) (by have:=E6.size;show sz h<=h7.size;have:h.size=sz h:=rfl;omega) λl8 h8 o8 _ u8 b8=>?_)
   have aC:∀b,l8.blk=some b->sz h<b:=λb x=>by
     rcases b8 with e8|e8
     ·exact C b (e8▸x)
     ·rw[e8]at x;cases x;have:=E6.size;have:h.size=sz h:=rfl;omega
   rw[wrS hi (by omega)];refine hQ _ _ ⟨i+1,(pick (same a) B us 0).2,L++[(pick (same a) B us 0).1],rfl,hi,(by rw[Zly];exact X),(by simp[au]),?_,?_,aC,?_,?_⟩ (by show((A.length:Int)- ((i+1:Nat):Int)).toNat<((A.length:Int)- ((i:Nat):Int)).toNat;omega)
   ·exact(o6.congr (h':=h7) λk f u _=>e7.old k u).congr λk f u _=>u8.old k u λx=>by rw[r]at f;cases f;have:=C _ x;omega
   ·rw[Ayw];exact o8
   ·exact(E6.trans e7).then u8 λk f=>Nat.le_of_lt (C k f)
   ·rw[<-Y,Ayx];rfl
  ·have P:A.drop i=[]:=Ayq (by omega);rw[P,show ZfN same B [] us=[]from rfl,Ayt]at Y;rw[Y]at hl;exact hK m l he hl
end
def Zxv(a b:FlowP):Bool:=bif Z2 (Zu a.res) (Zu b.res)then(bif Z2 (Zu a.org) (Zu b.org)then(bif a.thr==b.thr then(bif a.cnt==b.cnt then(bif (a.strat:Int)==(b.strat:Int)then(bif Z2 (Zu a.ref) (Zu b.ref)then(bif (a.shape:Int)==(b.shape:Int)then(bif a.warm==b.warm then(bif a.queue==b.queue then(bif a.clu==b.clu then(bif a.id==b.id then(bif a.fb==b.fb then true else false)else false)else false)else false)else false)else false)else false)else false)else false)else false)else false)else false
theorem ZEv{h:Zf}{s w:Sl}{A B:List FlowP}(hs:Row h s 12 (A.flatMap Rw.ZcR))(hw:Row h w 12 (B.flatMap Rw.ZcR))(J:A.length<=256)(L:B.length<=256){K:Sl->Zf->Prop}(r:∀h' t,Ext h h'->Own h' (sz h) t 1 ((ZfN Zxv B A (List.replicate B.length false)).map iv)->K t h'):Yd s w K h:=by
  unfold Yd YI
  refine Zx8 (g:=Rw.ZcR) (n:=12) (T:=69) (same:=Zxv) (λ_=>rfl) (by decide) hs hw J L
    (ld1:=λb o h3 Q=>ldS h3 b o λt0=>ldS h3 b (o+1) λt1=>ldB h3 b (o+2) λt2=>ldI h3 b (o+3) .i64 λt3=>ldI h3 b (o+4) .u8 λt4=>ldS h3 b (o+5) λt5=>ldI h3 b (o+6) .u8 λt6=>ldI h3 b (o+7) .i64 λt7=>ldI h3 b (o+8) .i64 λt8=>ldB h3 b (o+9) λt9=>ldI h3 b (o+10) .i64 λt10=>ldB h3 b (o+11) λt11=>newC h3 [Value.string (ByteArray.mk #[]),Value.string (ByteArray.mk #[]),Value.bool false,iv 0,Value.int .u8 0,Value.string (ByteArray.mk #[]),Value.int .u8 0,iv 0,iv 0,Value.bool false,iv 0,Value.bool false] 69 λm p=>sts p m 0 [Value.string t0,Value.string t1,Value.bool t2,iv t3,Value.int .u8 t4,Value.string t5,Value.int .u8 t6,iv t7,iv t8,Value.bool t9,iv t10,Value.bool t11] λq=>Q m q)
    (ld2:=λb o h3 y Q=>ldS h3 b o λt0=>ldS h3 b (o+1) λt1=>ldB h3 b (o+2) λt2=>ldI h3 b (o+3) .i64 λt3=>ldI h3 b (o+4) .u8 λt4=>ldS h3 b (o+5) λt5=>ldI h3 b (o+6) .u8 λt6=>ldI h3 b (o+7) .i64 λt7=>ldI h3 b (o+8) .i64 λt8=>ldB h3 b (o+9) λt9=>ldI h3 b (o+10) .i64 λt10=>ldB h3 b (o+11) λt11=>newC h3 [Value.string (ByteArray.mk #[]),Value.string (ByteArray.mk #[]),Value.bool false,iv 0,Value.int .u8 0,Value.string (ByteArray.mk #[]),Value.int .u8 0,iv 0,iv 0,Value.bool false,iv 0,Value.bool false] 69 λm p=>Zc y λi=>sts p m 0 [Value.string t0,Value.string t1,Value.bool t2,iv t3,Value.int .u8 t4,Value.string t5,Value.int .u8 t6,iv t7,iv t8,Value.bool t9,iv t10,Value.bool t11] λq=>Q m i q)
    (cmp:=λc d f Q=>ldS f c 0 λM=>ldS f c (0+1) λN=>ldB f c (0+2) λO=>ldI f c (0+3) .i64 λP=>ldI f c (0+4) .u8 λR=>ldS f c (0+5) λS=>ldI f c (0+6) .u8 λU=>ldI f c (0+7) .i64 λV=>ldI f c (0+8) .i64 λW=>ldB f c (0+9) λX=>ldI f c (0+10) .i64 λz=>ldB f c (0+11) λC=>ldS f d 0 λY=>ldS f d (0+1) λZ=>ldB f d (0+2) λy2=>ldI f d (0+3) .i64 λy3=>ldI f d (0+4) .u8 λy4=>ldS f d (0+5) λy5=>ldI f d (0+6) .u8 λy6=>ldI f d (0+7) .i64 λy7=>ldI f d (0+8) .i64 λy8=>ldB f d (0+9) λy9=>ldI f d (0+10) .i64 λD=>ldB f d (0+11) λE=>ZaI (M,N,O,P,R,S,U,V,W,X,z,C,()) (Y,Z,y2,y3,y4,y5,y6,y7,y8,y9,D,E,()) Q f) ?_ ?_ ?_ r
  ·intro a bb o f Q e u;exact rS (e 0 _ rfl) (rS (e 1 _ rfl) (rB (e 2 _ rfl) (rI (e 3 _ rfl) (rI (e 4 _ rfl) (rS (e 5 _ rfl) (rI (e 6 _ rfl) (rI (e 7 _ rfl) (rI (e 8 _ rfl) (rB (e 9 _ rfl) (rI (e 10 _ rfl) (rB (e 11 _ rfl) (ZF λh1 c1 v G=>ZaN c1 λx l F H=>u x _ (v.then F λk r=>by subst r;exact Aqo _) (Aqo _) l))))))))))))
  ·intro a bb o f i Q e u;exact rS (e 0 _ rfl) (rS (e 1 _ rfl) (rB (e 2 _ rfl) (rI (e 3 _ rfl) (rI (e 4 _ rfl) (rS (e 5 _ rfl) (rI (e 6 _ rfl) (rI (e 7 _ rfl) (rI (e 8 _ rfl) (rB (e 9 _ rfl) (rI (e 10 _ rfl) (rB (e 11 _ rfl) (ZF λh1 c1 v G=>Za (ZaN c1 λx l F H=>u x _ (v.then F λk r=>by subst r;exact Aqo _) l)))))))))))))
  ·intro a b c d f Q _ _ _ e hd u;refine rS (Zb e rfl) (rS (Zb e rfl) (rB (Zb e rfl) (rI (Zb e rfl) (rI (Zb e rfl) (rS (Zb e rfl) (rI (Zb e rfl) (rI (Zb e rfl) (rI (Zb e rfl) (rB (Zb e rfl) (rI (Zb e rfl) (rB (Zb e rfl) (rS (Zb hd rfl) (rS (Zb hd rfl) (rB (Zb hd rfl) (rI (Zb hd rfl) (rI (Zb hd rfl) (rS (Zb hd rfl) (rI (Zb hd rfl) (rI (Zb hd rfl) (rI (Zb hd rfl) (rB (Zb hd rfl) (rI (Zb hd rfl) (rB (Zb hd rfl) (?_))))))))))))))))))))))));unfold ZaI Zcy;refine ZF λh1 c1 v G=>ZF λx l I H=>?_;have j:=Zj c1 I;exact rS (Zb j rfl) (rS (Zb j rfl) (rB (Zb j rfl) (rI (Zb j rfl) (rI (Zb j rfl) (rS (Zb j rfl) (rI (Zb j rfl) (rI (Zb j rfl) (rI (Zb j rfl) (rB (Zb j rfl) (rI (Zb j rfl) (rB (Zb j rfl) (rS (Zb l rfl) (rS (Zb l rfl) (rB (Zb l rfl) (rI (Zb l rfl) (rI (Zb l rfl) (rS (Zb l rfl) (rI (Zb l rfl) (rI (Zb l rfl) (rI (Zb l rfl) (rB (Zb l rfl) (rI (Zb l rfl) (rB (Zb l rfl) (Zd (u x (v.trans I))))))))))))))))))))))))))
def ZD0(a b:YK):Bool:=bif Z2 (Zu a.res) (Zu b.res)then(bif (a.grade:Int)==(b.grade:Int)then(bif a.cnt==b.cnt then(bif a.slow==b.slow then(bif a.least==b.least then(bif a.window==b.window then(bif a.recover==b.recover then true else false)else false)else false)else false)else false)else false)else false
theorem ZEu{h:Zf}{s w:Sl}{A B:List YK}(hs:Row h s 7 (A.flatMap Rw.ZbN))(hw:Row h w 7 (B.flatMap Rw.ZbN))(F:A.length<=256)(G:B.length<=256){K:Sl->Zf->Prop}(r:∀h' t,Ext h h'->Own h' (sz h) t 1 ((ZfN ZD0 B A (List.replicate B.length false)).map iv)->K t h'):ZY s w K h:=by
  unfold ZY YE
  refine Zx8 (g:=Rw.ZbN) (n:=7) (T:=141) (same:=ZD0) (λ_=>rfl) (by decide) hs hw F G
    (ld1:=λb o h3 Q=>ldS h3 b o λt0=>ldI h3 b (o+1) .u8 λt1=>ldI h3 b (o+2) .i64 λt2=>ldI h3 b (o+3) .i64 λt3=>ldI h3 b (o+4) .i64 λt4=>ldI h3 b (o+5) .i64 λt5=>ldI h3 b (o+6) .i64 λt6=>newC h3 [Value.string (ByteArray.mk #[]),Value.int .u8 0,iv 0,iv 0,iv 0,iv 0,iv 0] 141 λl p=>sts p l 0 [Value.string t0,Value.int .u8 t1,iv t2,iv t3,iv t4,iv t5,iv t6] λq=>Q l q)
    (ld2:=λb o h3 y Q=>ldS h3 b o λt0=>ldI h3 b (o+1) .u8 λt1=>ldI h3 b (o+2) .i64 λt2=>ldI h3 b (o+3) .i64 λt3=>ldI h3 b (o+4) .i64 λt4=>ldI h3 b (o+5) .i64 λt5=>ldI h3 b (o+6) .i64 λt6=>newC h3 [Value.string (ByteArray.mk #[]),Value.int .u8 0,iv 0,iv 0,iv 0,iv 0,iv 0] 141 λl p=>Zc y λi=>sts p l 0 [Value.string t0,Value.int .u8 t1,iv t2,iv t3,iv t4,iv t5,iv t6] λq=>Q l i q)
    (cmp:=λc d f Q=>ldS f c 0 λH=>ldI f c (0+1) .u8 λI=>ldI f c (0+2) .i64 λJ=>ldI f c (0+3) .i64 λL=>ldI f c (0+4) .i64 λM=>ldI f c (0+5) .i64 λN=>ldI f c (0+6) .i64 λO=>ldS f d 0 λP=>ldI f d (0+1) .u8 λR=>ldI f d (0+2) .i64 λS=>ldI f d (0+3) .i64 λU=>ldI f d (0+4) .i64 λV=>ldI f d (0+5) .i64 λW=>ldI f d (0+6) .i64 λX=>ZaH (H,I,J,L,M,N,O,()) (P,R,S,U,V,W,X,()) Q f) ?_ ?_ ?_ r
  ·intro a Y o f Q e u;exact rS (e 0 _ rfl) (rI (e 1 _ rfl) (rI (e 2 _ rfl) (rI (e 3 _ rfl) (rI (e 4 _ rfl) (rI (e 5 _ rfl) (rI (e 6 _ rfl) (ZF λh1 c1 v C=>ZaN c1 λx m z D=>u x _ (v.then z λk r=>by subst r;exact Aqo _) (Aqo _) m)))))))
  ·intro a Y o f i Q e u;exact rS (e 0 _ rfl) (rI (e 1 _ rfl) (rI (e 2 _ rfl) (rI (e 3 _ rfl) (rI (e 4 _ rfl) (rI (e 5 _ rfl) (rI (e 6 _ rfl) (ZF λh1 c1 v C=>Za (ZaN c1 λx m z D=>u x _ (v.then z λk r=>by subst r;exact Aqo _) m))))))))
  ·intro a b c d f Q _ _ _ e hd u;refine rS (Zb e rfl) (rI (Zb e rfl) (rI (Zb e rfl) (rI (Zb e rfl) (rI (Zb e rfl) (rI (Zb e rfl) (rI (Zb e rfl) (rS (Zb hd rfl) (rI (Zb hd rfl) (rI (Zb hd rfl) (rI (Zb hd rfl) (rI (Zb hd rfl) (rI (Zb hd rfl) (rI (Zb hd rfl) (?_))))))))))))));unfold ZaH Zcx;refine ZF λh1 c1 v C=>ZF λx m E D=>?_;have j:=Zj c1 E;exact rS (Zb j rfl) (rI (Zb j rfl) (rI (Zb j rfl) (rI (Zb j rfl) (rI (Zb j rfl) (rI (Zb j rfl) (rI (Zb j rfl) (rS (Zb m rfl) (rI (Zb m rfl) (rI (Zb m rfl) (rI (Zb m rfl) (rI (Zb m rfl) (rI (Zb m rfl) (rI (Zb m rfl) (Zd (u x (v.trans E))))))))))))))))
theorem Zlj{a b:Bool}:(bif a then b else false)=true↔a=true/\b=true:=by cases a<;>simp
theorem Zxu(a b:FlowP):Zxv a b=true↔a=b:=by unfold Zxv;simp only[Zlj,Rw.Zhf,decide_eq_true_eq,beq_iff_eq,cond_true,Int.natCast_inj];cases a;cases b;simp[Zlj]
def ofL{α:Type}(nm:α->ByteArray)(res:ByteArray):List α->Nat->List Int
  |[],_=>[]
  |a::l,i=>if Z2 (nm a) res=true then(i:Int)::ofL nm res l (i+1)else ofL nm res l (i+1)
theorem ZrZ{α:Type}{A:List α}{nm:α->ByteArray}{res:ByteArray}{h:Zf}{b2 b4 J:Nat}(hx:J=A.length)(hA:A.length<=256){T2 M:TypeId}(T:obj h b2=some (.cells [.string res].toArray T2 (0,0)))(N:obj h b4=some (.cells [slV sl0].toArray M (0,0)))(y:b2≠b4)
    {body:(ByteArray->Zf->Prop)->Int->Zf->Prop} (U:∀(i:Nat) a d Q,A[i]?=some a->Upd (· = b4) h d->(∀h',Ext d h'->Q (nm a) h')->body Q i d)
    {K:Sl->Zf->Prop} (V:∀h' t,Upd (· = b4) h h'->Own h' (sz h) t 1 ((ofL nm res A 0).map iv)->K t h'):
    ZP (σ:=Int×Unit) (λW s o=>(λ(f:Int)=>Zk (decide (f<(J:Int))) (body (λt25 z=>ZhS f t25 (some ⟨b2,0,none⟩) (some ⟨b4,0,none⟩) (λB=>W (IntKind.wrap .i64 (f+1),()) B) z) f o) (ldL o b4 0 λt27=>K t27 o)) s.1) (0,()) h:=by
  have l4:=Zp N
  refine Zaj (λ(s:Int×Unit) d=>∃(i:Nat) (L:List Int) (t:Sl),s=((i:Int),())/\i<=A.length/\L.length<=i/\Upd (· = b4) h d/\obj d b4=some (.cells [slV t].toArray M (0,0))/\Own d (sz h) t 1 (L.map iv)/\L++ofL nm res (A.drop i) i=ofL nm res A 0) (λs _=>((A.length:Int)- s.1).toNat)
    ⟨0,[],sl0,rfl,Ayg _,Aqo _,Upd.refl _ _,N,Own.nil _ _ _,rfl⟩ ?_
  rintro _ d ⟨i,L,t,rfl,X,hL,u,c,ho,g⟩ Q O;dsimp only;refine Zn (λq=>?_) λq=>?_
  ·have hi:i<A.length:=by omega
   have P:A[i]?=some A[i]:=Axy hi;have Y:A.drop i=A[i]::A.drop (i+1):=Ayo hi;rw[Y]at g;generalize A[i]=a at P g;have C:IntKind.wrap .i64 ((i:Int)+1)=((i+1:Nat):Int):=wrS hi (by omega);have p:((A.length:Int)- ((i+1:Nat):Int)).toNat<((A.length:Int)- ((i:Nat):Int)).toNat:=by omega
   refine U i a d _ P u λv w=>?_;have D:=Zj c w;have r5:obj v b2=some (.cells [.string res].toArray T2 (0,0)):=Zj (Y0 T u y) w;have j:=u.trans (w.upd _);have E:=ho.congr (h':=v) λk b _ _=>w.old k (ho.lt b).2;unfold ZhS Zkh;rw[C];rw[show ofL nm res (a::A.drop (i+1)) i=if Z2 (nm a) res=true then(i:Int)::ofL nm res (A.drop (i+1)) (i+1)else ofL nm res (A.drop (i+1)) (i+1)from rfl]at g;refine Zi (rS (Zb r5 rfl) ⟨λF=>?_,λF=>?_⟩)
   ·rw [if_pos F]at g
    refine Zi (rL (Zb D rfl) (ZF λr Z m z6=>(ZkO Z rfl).rd ?_));have o6:=E.congr (h':=r) λk b _ _=>m.old k (E.lt b).2;have tl:t.len=L.length:=by have:=ho.len;simp at this;omega
    have ab:sz r=sz v+1:=z6;have w5:sz h<=sz v:=j.size;refine o6.app (n:=1) rfl rfl rfl (by omega) (by omega) (by show sz h<=sz r;omega) λt7 h7 o7 _ x b7=>Zi ?_;have R:t.blk≠some b4:=λe=>by have:=(ho.lt e).1;omega
    refine ZcS (Y0 (Zj D m) x R) (show 0<1 by decide) XC λo c8 u8 z8=>?_;have ah:r.size=sz r:=rfl
    have G:t7.blk≠some b4:=λe=>by
      rcases b7 with l|l
      ·exact R (l▸e)
      ·rw[l]at e;cases e;omega
    have H:Upd (· = b4) h o:=⟨Aqp j.size (Aqp m.size (Aqp x.size u8.size)),λk b S=>by
      have ai:k<sz h:=b
      rw[u8.old k (Aqq (Aqq (Aqq b j.size) m.size) x.size) S,x.old k (Aqq (Aqq b j.size) m.size) (λl=>by have:=(ho.lt l).1;omega),m.old k (Aqq b j.size),j.old k b S]⟩
    refine O _ _ ⟨i+1,L++[(i:Int)],t7,rfl,hi,by simp;omega,H,c8,?_,by rw[<-g,Ayx];rfl⟩ p;rw[Ayw];exact o7.congr λk b I _=>u8.old k I λl=>G (l▸b)
   ·rw[if_neg (by rw[F];decide)]at g;exact O _ _ ⟨i+1,L,t,rfl,hi,by omega,j,D,E,g⟩ p
  ·have hd:A.drop i=[]:=Ayq (by omega);rw[hd,show ofL nm res [] i=[]from rfl,Ayt]at g;rw[g]at ho;exact rL (Zb c rfl) (V d t u ho)
abbrev ZsB(x:Sl):(ByteArray->Zf->Prop)->Int->Zf->Prop:=λQ i a=>Yk x.ptr x.len i 12 λb o=>ldS a b o λt0=>ldS a b (o+1) λt1=>ldB a b (o+2) λt2=>ldI a b (o+3) .i64 λt3=>ldI a b (o+4) .u8 λt4=>ldS a b (o+5) λt5=>ldI a b (o+6) .u8 λt6=>ldI a b (o+7) .i64 λt7=>ldI a b (o+8) .i64 λt8=>ldB a b (o+9) λt9=>ldI a b (o+10) .i64 λt10=>ldB a b (o+11) λt11=>newC a [Value.string (ByteArray.mk #[]),Value.string (ByteArray.mk #[]),Value.bool false,iv 0,Value.int .u8 0,Value.string (ByteArray.mk #[]),Value.int .u8 0,iv 0,iv 0,Value.bool false,iv 0,Value.bool false] 69 λc e=>Zc i λ_=>sts e c 0 [Value.string t0,Value.string t1,Value.bool t2,iv t3,Value.int .u8 t4,Value.string t5,Value.int .u8 t6,iv t7,iv t8,Value.bool t9,iv t10,Value.bool t11] λd=>ldS d c 0 λt25=>Q t25 d
theorem ZEh{A:List FlowP}{x:Sl}{h0:Zf}{b4:Nat}(h:Row h0 x 12 (A.flatMap Rw.ZcR))(j:x.len≠0->x.blk≠some b4):∀(i:Nat) a e (Q:ByteArray->Zf->Prop),A[i]?=some a->Upd (· = b4) h0 e->(∀h',Ext e h'->Q ((λf=>Zu f.res) a) h')->
    ZsB x Q i e:=by
  intro i a e Q l u m;obtain⟨b,o,_,_,d,c⟩:=Zab (g:=Rw.ZcR) (n:=12) (λ_=>rfl) (ZcU h j u) l (by decide);exact d rfl (rS (c 0 _ rfl) (rS (c 1 _ rfl) (rB (c 2 _ rfl) (rI (c 3 _ rfl) (rI (c 4 _ rfl) (rS (c 5 _ rfl) (rI (c 6 _ rfl) (rI (c 7 _ rfl) (rI (c 8 _ rfl) (rB (c 9 _ rfl) (rI (c 10 _ rfl) (rB (c 11 _ rfl) (ZF λh1 c1 p v=>Za (ZaN c1 λq r s w=>rS (Zb r rfl) (m q (p.then s λk t=>by subst t;exact Aqo _))))))))))))))))
abbrev ZpZ(x:Sl):(ByteArray->Zf->Prop)->Int->Zf->Prop:=λQ i a=>Yk x.ptr x.len i 7 λb o=>ldS a b o λt0=>ldI a b (o+1) .u8 λt1=>ldI a b (o+2) .i64 λt2=>ldI a b (o+3) .i64 λt3=>ldI a b (o+4) .i64 λt4=>ldI a b (o+5) .i64 λt5=>ldI a b (o+6) .i64 λt6=>newC a [Value.string (ByteArray.mk #[]),Value.int .u8 0,iv 0,iv 0,iv 0,iv 0,iv 0] 141 λc e=>Zc i λ_=>sts e c 0 [Value.string t0,Value.int .u8 t1,iv t2,iv t3,iv t4,iv t5,iv t6] λd=>ldS d c 0 λt25=>Q t25 d
theorem ZA5{A:List YK}{x:Sl}{h0:Zf}{b4:Nat}(h:Row h0 x 7 (A.flatMap Rw.ZbN))(j:x.len≠0->x.blk≠some b4):∀(i:Nat) a e (Q:ByteArray->Zf->Prop),A[i]?=some a->Upd (· = b4) h0 e->(∀h',Ext e h'->Q ((λf=>Zu f.res) a) h')->
    ZpZ x Q i e:=by
  intro i a e Q l u m;obtain⟨b,o,_,_,d,c⟩:=Zab (g:=Rw.ZbN) (n:=7) (λ_=>rfl) (ZcU h j u) l (by decide);exact d rfl (rS (c 0 _ rfl) (rI (c 1 _ rfl) (rI (c 2 _ rfl) (rI (c 3 _ rfl) (rI (c 4 _ rfl) (rI (c 5 _ rfl) (rI (c 6 _ rfl) (ZF λh1 c1 p v=>Za (ZaN c1 λq r s w=>rS (Zb r rfl) (m q (p.then s λk t=>by subst t;exact Aqo _)))))))))))
abbrev ZuS(x:Sl):(ByteArray->Zf->Prop)->Int->Zf->Prop:=λQ i a=>Yk x.ptr x.len i 5 λb o=>ldS a b o λt0=>ldI a b (o+1) .i64 λt1=>ldI a b (o+2) .i64 λt2=>ldI a b (o+3) .i64 λt3=>ldL a b (o+4) λt4=>newC a [Value.string (ByteArray.mk #[]),iv 0,iv 0,iv 0,Value.slice none 0 0] 72 λc e=>Zc i λ_=>sts e c 0 [Value.string t0,iv t1,iv t2,iv t3,Value.slice t4.ptr t4.len t4.cap] λd=>ldS d c 0 λt25=>Q t25 d
theorem ZG8{A:List (Sl×ZdX)}{x:Sl}{h0:Zf}{b4:Nat}(h:Row h0 x 5 (A.flatMap Rw.ZjI))(j:x.len≠0->x.blk≠some b4):∀(i:Nat) a e (Q:ByteArray->Zf->Prop),A[i]?=some a->Upd (· = b4) h0 e->(∀h',Ext e h'->Q ((λf=>Zu f.2.res) a) h')->
    ZuS x Q i e:=by
  intro i a e Q l u m;obtain⟨b,o,_,_,c,d⟩:=Zab (g:=Rw.ZjI) (n:=5) (λ_=>rfl) (ZcU h j u) l (by decide);exact c rfl (rS (d 0 _ rfl) (rI (d 1 _ rfl) (rI (d 2 _ rfl) (rI (d 3 _ rfl) (rL (d 4 _ rfl) (ZF λh1 c1 p v=>Za (ZaN c1 λq r s w=>rS (Zb r rfl) (m q (p.then s λk t=>by subst t;exact Aqo _)))))))))
abbrev ZsA(x:Sl):(ByteArray->Zf->Prop)->Int->Zf->Prop:=λQ i d=>Yk x.ptr x.len i 3 λb o=>ldS d b o λt0=>ldB d b (o+1) λt1=>ldL d b (o+2) λt2=>newC d [Value.string (ByteArray.mk #[]),Value.bool false,Value.slice none 0 0] 147 λa e=>Zc i λ_=>sts e a 0 [Value.string t0,Value.bool t1,Value.slice t2.ptr t2.len t2.cap] λc=>ldS c a 0 λt25=>Q t25 c
theorem ZEg{A:List (Sl×Zbi)}{x:Sl}{h0:Zf}{b4:Nat}(h:Row h0 x 3 (A.flatMap Rw.Zhp))(j:x.len≠0->x.blk≠some b4):∀(i:Nat) a d (Q:ByteArray->Zf->Prop),A[i]?=some a->Upd (· = b4) h0 d->(∀h',Ext d h'->Q ((λf=>Zu f.2.res) a) h')->
    ZsA x Q i d:=by
  intro i a d Q l u m;obtain⟨b,o,_,_,c,e⟩:=Zab (g:=Rw.Zhp) (n:=3) (λ_=>rfl) (ZcU h j u) l (by decide);exact c rfl (rS (e 0 _ rfl) (rB (e 1 _ rfl) (rL (e 2 _ rfl) (ZF λh1 c1 p v=>Za (ZaN c1 λq r s w=>rS (Zb r rfl) (m q (p.then s λk t=>by subst t;exact Aqo _)))))))
end Go.Proofs.YtonbfpnngkemiaaGreat
