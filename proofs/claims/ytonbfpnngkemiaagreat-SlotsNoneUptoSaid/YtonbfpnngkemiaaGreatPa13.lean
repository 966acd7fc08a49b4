/- A bounded map: a ring of elements, in plain words and in memory. -/
import Derived.Test.YtonbfpnngkemiaaGreatPa12
set_option linter.unusedVariables false
set_option linter.unusedSimpArgs false
namespace Go.Proofs.YtonbfpnngkemiaaGreat
open Go Go.Fw
open Nat renaming reduceAdd->Nqa,reduceLT->Nqb,reduceLeDiff->Nqc,reduceEqDiff->Nqd,reduceMul->Nqe
def Ch(pv nx:Nat->Nat):Nat->List Nat->Nat->Prop
  |x,[],z=>nx x=z/\pv z=x
  |x,y::l,z=>nx x=y/\pv y=x/\Ch pv nx y l z
def ZmT(f:Nat->Nat)(k v:Nat):Nat->Nat:=λj=>if j=k then v else f j
theorem Zac{f:Nat->Nat}{k v:Nat}:ZmT f k v k=v:=if_pos rfl
theorem Zcs{f:Nat->Nat}{k v j:Nat}(h:j≠k):ZmT f k v j=f j:=if_neg h
theorem Ch.congr{pv nx b c:Nat->Nat}:∀{l:List Nat} {x z:Nat},Ch pv nx x l z->(∀a,a∈x::l->c a=nx a)->(∀a,a∈l++[z]->b a=pv a)->Ch b c x l z
  |[],x,z,h,h1,d=>⟨(h1 x (by simp)).trans h.1,(d z (by simp)).trans h.2⟩
  |y::l,x,z,h,h1,d=>⟨(h1 x (by simp)).trans h.1,(d y (by simp)).trans h.2.1,h.2.2.congr (λa e=>h1 a (Aws _ e)) λa e=>d a (Aws _ e)⟩
theorem Ch.split{pv nx:Nat->Nat}{y:Nat}{B:List Nat}:∀{A:List Nat} {x z:Nat},Ch pv nx x (A++y::B) z↔Ch pv nx x A y/\Ch pv nx y B z
  |[],x,z=>⟨λh=>⟨⟨h.1,h.2.1⟩,h.2.2⟩,λh=>⟨h.1.1,h.1.2,h.2⟩⟩
  |a::A,x,z=>⟨λh=>⟨⟨h.1,h.2.1,(Ch.split.1 h.2.2).1⟩,(Ch.split.1 h.2.2).2⟩,λh=>⟨h.1.1,h.1.2.1,Ch.split.2 ⟨h.1.2.2,h.2⟩⟩⟩
theorem Ch.pvIn{pv nx:Nat->Nat}:∀{l:List Nat} {x z:Nat},Ch pv nx x l z->pv z∈x::l
  |[],x,z,h=>by rw[h.2];simp
  |y::l,x,z,h=>Aws _ h.2.2.pvIn
theorem Ch.nxIn{pv nx:Nat->Nat}:∀{l:List Nat} {x z:Nat},Ch pv nx x l z->nx x∈l++[z]
  |[],x,z,h=>by rw[h.1];simp
  |y::l,x,z,h=>by rw[h.1];simp
theorem Ch.out{pv nx:Nat->Nat}{b:Nat}{B:List Nat}{z:Nat}:∀{A:List Nat} {x:Nat},Ch pv nx x (A++b::B) z->(x::(A++b::B)).Nodup->z∉A++b::B->Ch (ZmT pv (nx b) (pv b)) (ZmT nx (pv b) (nx b)) x (A++B) z
  | [],x,h,d,hz=>by
    obtain⟨h1,j,h3⟩:=h;rw[j]
    cases B with
    | nil=>
      obtain⟨k,l⟩:=h3;rw[k];exact⟨Zac,Zac⟩
    | cons y B=>
      obtain⟨k,l,m⟩:=h3;rw[k];simp only[Ayj,Ayp,Awr,not_or]at d hz;refine⟨Zac,Zac,m.congr (λa c=>Zcs ?_) λa c=>Zcs ?_⟩
      ·rintro rfl
       rcases Awr.1 c with rfl|c
       ·exact d.1.2.1 rfl
       ·exact d.1.2.2 c
      ·rintro rfl
       rcases Axx.1 c with c|c
       ·exact d.2.2.1 c
       ·simp at c;exact hz.2.1 c.symm
  | y::A,x,h,d,hz=>by
    obtain⟨h1,j,h3⟩:=h;have g:=(Ch.split.1 h3).1.pvIn;have f:=(Ch.split.1 h3).2.nxIn;have i:=(Ayp.1 d).2;refine⟨(Zcs ?_).trans h1,(Zcs ?_).trans j,h3.out i λn=>hz (Aws _ n)⟩
    ·intro e;refine(Ayp.1 d).1 ?_;rw[<-e]at g
     rcases Awr.1 g with g|g
     ·rw[g];simp
     ·simp[g]
    ·intro e;rw[<-e]at f
     rcases Axx.1 f with f|f
     ·exact(Ayp.1 i).1 (by simp[f])
     ·simp at f;exact hz (by simp[f])
theorem Ch.touch{pv nx:Nat->Nat}{b z:Nat}(a:b≠z):∀{L:List Nat} {x:Nat},Ch pv nx x L z->(x::L).Nodup->z∉L->b∉x::L->Ch (ZmT (ZmT pv b (pv z)) z b) (ZmT (ZmT nx b z) (pv z) b) x L b
  | [],x,h,d,hz,c=>by
    obtain⟨h1,f⟩:=h;rw[f];exact⟨Zac,(Zcs a).trans Zac⟩
  | y::L,x,h,d,hz,c=>by
    obtain⟨h1,f,h3⟩:=h;have g:=h3.pvIn;simp only[Awr,not_or]at hz c;refine⟨(Zcs λe=>?_).trans ((Zcs λe=>c.1 e.symm).trans h1),(Zcs λe=>hz.1 e.symm).trans ((Zcs λe=>c.2.1 e.symm).trans f),h3.touch a (Ayp.1 d).2 (λi=>hz.2 i) (by simp only[Awr,not_or];exact c.2)⟩;exact(Ayp.1 d).1 (e▸g)
theorem Ch.touched{pv nx:Nat->Nat}{b z:Nat}{L:List Nat}(h:Ch pv nx z L z)(d:(z::L).Nodup)(a:b∉z::L):Ch (ZmT (ZmT pv b (pv z)) z b) (ZmT (ZmT nx b z) (pv z) b) z (L++[b]) z:=by have c:b≠z:=λe=>a (by simp[e]);refine Ch.split.2 ⟨h.touch c d (Ayp.1 d).1 a,(Zcs λe=>a ?_).trans Zac,Zac⟩;rw[e];exact h.pvIn
def off(S b:Nat):Nat:=if b=S then 2 else 0
theorem Ztv{S:Nat}:off S S=2:=if_pos rfl
theorem Ztw{S b:Nat}(h:b≠S):off S b=0:=if_neg h
abbrev ad(S b:Nat):Addr:=⟨b,off S b,none⟩
abbrev ZPP(most:Int)(mb:Nat)(a c:Addr):Obj:=.cells [iv most,.map (some mb),.string (ByteArray.mk #[]),iv 0,.pointer (some a),.pointer (some c)].toArray 303 (0,0)
abbrev lkO(k:ByteArray)(a c:Addr):Obj:=.cells [.string k,iv 0,.pointer (some a),.pointer (some c)].toArray 301 (0,0)
abbrev KB:=ByteArray×Nat
structure ZoG(h:Zf)(S mb:Nat)(most:Int)(nd:List KB)(pv nx:Nat->Nat):Prop where
  s:obj h S=some (ZPP most mb (ad S (pv S)) (ad S (nx S)))
  l:∀x,x∈nd->obj h x.2=some (lkO x.1 (ad S (pv x.2)) (ad S (nx x.2)))
  nd:(S::nd.map (·.2)).Nodup
theorem ZoG.ne{h:Zf}{S mb:Nat}{most:Int}{nd:List KB}{pv nx:Nat->Nat}(ho:ZoG h S mb most nd pv nx){x:KB}(a:x∈nd):x.2≠S:=λe=>(Ayp.1 ho.nd).1 (e▸List.mem_map_of_mem a)
theorem ZB1{nd:List KB}(b:(nd.map (·.2)).Nodup){x y:KB}(c:x∈nd)(d:y∈nd)(e:x.2=y.2):x=y:=by
  obtain⟨i,hi⟩:=Ayi c;obtain⟨j,a⟩:=Ayi d;have h1:(nd.map (·.2))[i]?=some x.2:=by rw[Awy,hi];rfl
  have f:(nd.map (·.2))[j]?=some x.2:=by rw[Awy,a,e];rfl
  obtain⟨k,g⟩:=Ayh.1 h1;obtain⟨l,h⟩:=Ayh.1 f;have:=(List.getElem_inj b).1 (g.trans h.symm);subst this;rw[hi]at a;exact Option.some.inj a
theorem ZoG.upd{h h':Zf}{S mb:Nat}{most:Int}{nd:List KB}{pv nx a c:Nat->Nat}(ho:ZoG h S mb most nd pv nx){b:Nat}(u:Upd (· = b) h h')(h1:b=S->obj h' S=some (ZPP most mb (ad S (a S)) (ad S (c S))))
    (k:∀x,x∈nd->x.2=b->obj h' x.2=some (lkO x.1 (ad S (a x.2)) (ad S (c x.2)))) (f:∀j,j≠b->a j=pv j) (g:∀j,j≠b->c j=nx j):ZoG h' S mb most nd a c:=by
  refine⟨?_,λx i=>?_,ho.nd⟩
  ·by_cases e:b=S
   ·exact h1 e
   ·rw[f S λd=>e d.symm,g S λd=>e d.symm];exact Y0 ho.s u λd=>e d.symm
  ·by_cases e:x.2=b
   ·exact k x i e
   ·rw[f _ e,g _ e];exact Y0 (ho.l x i) u e
section
variable{h:Zf}{S mb:Nat}{most:Int}{nd:List KB}{pv nx:Nat->Nat}
theorem ZoG.stN(ho:ZoG h S mb most nd pv nx){b c o:Nat}(f:b∈S::nd.map (·.2))(a:o=off S b+3){v:Value}(hv:v= .pointer (some (ad S c))){K:Zf->Prop}(k:∀h',ZoG h' S mb most nd pv (ZmT nx b c)->Upd (· = b) h h'->sz h'=sz h->K h'):st h b o v K:=by
  subst hv
  rcases Awr.1 f with rfl|f
  ·rw[Ztv]at a;subst a;refine ZcS ho.s (show 2+3<6 by decide) rfl λh' g u z=>k h' (ho.upd u (λ_=>?_) (λx d e=>(ho.ne d e).elim) (λ_ _=>rfl) λj i=>Zcs i) u z;rw[Zac];exact g
  ·obtain⟨x,d,rfl⟩:=Axz.1 f;rw[Ztw (ho.ne d)]at a;subst a;refine ZcS (ho.l x d) (show 0+3<4 by decide) rfl λh' g u z=>k h' (ho.upd u (λe=>(ho.ne d e).elim) (λy m e=>?_) (λ_ _=>rfl) λj i=>Zcs i) u z;rw[ZB1 (Ayp.1 ho.nd).2 m d e,Zac];exact g
theorem ZoG.stP(ho:ZoG h S mb most nd pv nx){b c o:Nat}(f:b∈S::nd.map (·.2))(a:o=off S b+2){v:Value}(hv:v= .pointer (some (ad S c))){K:Zf->Prop}(k:∀h',ZoG h' S mb most nd (ZmT pv b c) nx->Upd (· = b) h h'->sz h'=sz h->K h'):st h b o v K:=by
  subst hv
  rcases Awr.1 f with rfl|f
  ·rw[Ztv]at a;subst a;refine ZcS ho.s (show 2+2<6 by decide) rfl λh' g u z=>k h' (ho.upd u (λ_=>?_) (λx d e=>(ho.ne d e).elim) (λj i=>Zcs i) λ_ _=>rfl) u z;rw[Zac];exact g
  ·obtain⟨x,d,rfl⟩:=Axz.1 f;rw[Ztw (ho.ne d)]at a;subst a;refine ZcS (ho.l x d) (show 0+2<4 by decide) rfl λh' g u z=>k h' (ho.upd u (λe=>(ho.ne d e).elim) (λy m e=>?_) (λj i=>Zcs i) λ_ _=>rfl) u z;rw[ZB1 (Ayp.1 ho.nd).2 m d e,Zac];exact g
abbrev inR(S:Nat)(nd:List KB)(k:Nat):Prop:=k∈S::nd.map (·.2)
theorem ZA0(ho:ZoG h S mb most nd pv nx){b:KB}(e:b∈nd)(h1:inR S nd (pv b.2))(d:inR S nd (nx b.2)){K:Zf->Prop}
    (a:∀h',ZoG h' S mb most nd (ZmT pv (nx b.2) (pv b.2)) (ZmT nx (pv b.2) (nx b.2))->Upd (inR S nd) h h'->sz h'=sz h->K h'):Zbk (some ⟨b.2,0,none⟩) K h:=by
  unfold Zbk Zim;have c:=ho.l b e;refine Zi (Zi (Zi (Zi (rP (Zb c rfl) (rP (Zb c rfl) (rP (Zb c rfl) (rP (Zb c rfl) (Zi (ho.stN h1 rfl rfl λh3 f g z3=>Zi (f.stP d rfl rfl λi j m z4=>a i j ?_ (z4.trans z3)))))))))));exact(g.mono λk _ a=>by rw[a];exact h1).trans (m.mono λk _ a=>by rw[a];exact d)
theorem ZvC(ho:ZoG h S mb most nd pv nx){b:KB}(f:b∈nd)(h1:inR S nd (pv S)){K:Zf->Prop}
    (a:∀h',ZoG h' S mb most nd (ZmT (ZmT pv b.2 (pv S)) S b.2) (ZmT (ZmT nx b.2 S) (pv S) b.2)->Upd (inR S nd) h h'->sz h'=sz h->K h'):ZaE (some ⟨S,0,none⟩) (some ⟨b.2,0,none⟩) K h:=by
  unfold ZaE Zfx;have d:=ho.ne f;have c:inR S nd b.2:=Aws _ (List.mem_map_of_mem f);have e:inR S nd S:=List.mem_cons_self ..;have eb:(⟨b.2,0,none⟩:Addr)=ad S b.2:=by show _=(⟨_,_,_⟩:Addr);rw[Ztw d]
  have es:(⟨S,0+2,none⟩:Addr)=ad S S:=by show _=(⟨_,_,_⟩:Addr);rw[Ztv]
  refine Zi (Zi (rP (Zb ho.s rfl) (Zi (ho.stP c (by rw[Ztw d]) rfl λh3 i j z3=>Zi (i.stN c (by rw[Ztw d]) (by rw[es]) λt g m z4=>Zi (rP (Zb (g.l b f) rfl) ?_))))));rw[Zac];refine Zi (g.stN h1 rfl (by rw[eb]) λu n o z5=>Zi (n.stP e (by rw[Ztv]) (by rw[eb]) λp q r z6=>a p q ?_ (z6.trans (z5.trans (z4.trans z3)))));exact((j.mono λk _ a=>by rw[a];exact c).trans (m.mono λk _ a=>by rw[a];exact c)).trans ((o.mono λk _ a=>by rw[a];exact h1).trans (r.mono λk _ a=>by rw[a];exact e))
end
abbrev pN(b:Nat):Value:=.pointer (some ⟨b,0,none⟩)
def Keys(f:ByteArray->Option Value)(nd:List KB):Prop:=∀k v,f k=some v↔∃b,(k,b)∈nd/\v=pN b
structure Zu7(h:Zf)(O:Nat->Prop)(S mb:Nat)(most:Int)(nd:List KB)(pv nx:Nat->Nat)(f:ByteArray->Option Value):Prop where
  ob:ZoG h S mb most nd pv nx
  ch:Ch pv nx S (nd.map (·.2)) S
  m:Zm9 h mb f nd.length
  k:Keys f nd
  kd:(nd.map (·.1)).Nodup
  os:O S
  om:O mb
  ol:∀x,x∈nd->O x.2
  lt:∀j,O j->j<sz h
structure Zt2(h:Zf)(O:Nat->Prop)(S:Nat)(most:Int)(ks:List ByteArray):Prop where
  ex:∃nd mb pv nx f,nd.map (·.1)=ks/\Zu7 h O S mb most nd pv nx f
  m:1<=most/\most<=4096
  len:(ks.length:Int)<=most
theorem ZoG.congr{h h':Zf}{S mb:Nat}{most:Int}{nd:List KB}{pv nx:Nat->Nat}(ho:ZoG h S mb most nd pv nx)(h1:obj h' S=obj h S)(b:∀x,x∈nd->obj h' x.2=obj h x.2):ZoG h' S mb most nd pv nx:=
  ⟨h1.trans ho.s,λx a=>(b x a).trans (ho.l x a),ho.nd⟩
theorem Zu7.congr{h h':Zf}{O O':Nat->Prop}{S mb:Nat}{most:Int}{nd:List KB}{pv nx:Nat->Nat}{f:ByteArray->Option Value}(hm:Zu7 h O S mb most nd pv nx f)(a:∀j,O j->O' j)(hl:∀j,O' j->j<sz h')(he:∀j,O j->obj h' j=obj h j):Zu7 h' O' S mb most nd pv nx f:=
  ⟨hm.ob.congr (he _ hm.os) λx b=>he _ (hm.ol x b),hm.ch,hm.m.congr (he _ hm.om),hm.k,hm.kd,a _ hm.os,a _ hm.om,λx b=>a _ (hm.ol x b),hl⟩
theorem Zt2.congr{h h':Zf}{O O':Nat->Prop}{S:Nat}{most:Int}{ks:List ByteArray}(hm:Zt2 h O S most ks)(a:∀j,O j->O' j)(hl:∀j,O' j->j<sz h')(he:∀j,O j->obj h' j=obj h j):Zt2 h' O' S most ks:=by obtain⟨nd,mb,pv,nx,f,h1,b⟩:=hm.ex;exact⟨⟨nd,mb,pv,nx,f,h1,b.congr a hl he⟩,hm.m,hm.len⟩
theorem Zu7.mb{h:Zf}{O:Nat->Prop}{S mb:Nat}{most:Int}{nd:List KB}{pv nx:Nat->Nat}{f:ByteArray->Option Value}(hm:Zu7 h O S mb most nd pv nx f):¬inR S nd mb:=λhi=>by
  obtain⟨es,c,a,_⟩:=hm.m
  rcases Awr.1 hi with e|hi
  ·have:=hm.ob.s;rw[<-e,show obj h mb=h[mb]? from rfl,a]at this;cases this
  ·obtain⟨x,b,e⟩:=Axz.1 hi;have:=hm.ob.l x b;rw[e,show obj h mb=h[mb]? from rfl,a]at this;cases this
theorem Zu7.no{h:Zf}{O:Nat->Prop}{S mb:Nat}{most:Int}{nd:List KB}{pv nx:Nat->Nat}{f:ByteArray->Option Value}(hm:Zu7 h O S mb most nd pv nx f){key:ByteArray}(a:key∉nd.map (·.1)):f key=none:=by
  cases e:f key with
  |none=>rfl
  | some v=>
    obtain⟨b,c,_⟩:=(hm.k key v).1 e;exact(a (List.mem_map_of_mem (f:=(·.1)) c)).elim
theorem Zza{most:Int}(hm:1<=most/\most<=4096){K:Option Addr->Int->Zf->Prop}{h:Zf}(c:∀h',Zt2 h' (λj=>j=sz h\/j=sz h+1) (sz h+1) most []->Ext h h'->K (some ⟨sz h+1,0,none⟩) 0 h'):ZlI most K h:=by
  unfold ZlI Zod;refine Za (Zh (decide_eq_false (by omega)) (Zh (decide_eq_false (by omega)) (Zm9.new λh1 d m n=>ZF λi o e p=>ZcS o (show 0+2+2<6 by decide) rfl λh3 q r z3=>ZcS q (show 0+2+3<6 by decide) rfl λf l s z4=>Za ?_)));have hz:h1.size=sz h+1:=n;have u:Upd (· = h1.size) i f:=r.trans s;have t:=(d.congr (e.old _ d.lt)).congr (u.old _ (Aqq d.lt e.size) (by show ¬sz h=_;omega))
  have w:sz f=sz h+2:=by
    have a:sz i=h1.size+1:=p;omega
  rw[hz]at l u;rw[hz];refine c f ⟨⟨[],sz h,λ_=>sz h+1,λ_=>sz h+1,_,rfl,⟨?_,λx g=>(by cases g),by simp⟩,⟨rfl,rfl⟩,t,λk v=>⟨λa=>(by cases a),λ⟨b,a,_⟩=>(by cases a)⟩,List.nodup_nil,.inr rfl,.inl rfl,λx g=>(by cases g),λj y=>by omega⟩,hm,by simp;omega⟩ ((m.trans e).then u λk c=>by rw[c];show h.size<=sz h+1;exact Nat.le_succ _);have:ad (sz h+1) (sz h+1)=⟨sz h+1,0+2,none⟩:=by show(⟨_,_,_⟩:Addr)=_;rw[Ztv]
  rw[this];exact l
section
variable{h:Zf}{O:Nat->Prop}{S mb:Nat}{most:Int}{nd:List KB}{pv nx:Nat->Nat}{f:ByteArray->Option Value}
theorem ZPi(hm:Zu7 h O S mb most nd pv nx f){key:ByteArray}(a:key∉nd.map (·.1)){K:Int->Bool->Zf->Prop}(b:K 0 false h):Zbl (some ⟨S,0,none⟩) key K h:=by unfold Zbl Zge;exact Za (Zh rfl (Zi (rM (Zb hm.ob.s rfl) (hm.m.get key (by rw[hm.no a];exact⟨none,rfl,Zm rfl (Za b)⟩)))))
theorem ZHX(hm:Zu7 h O S mb most nd pv nx f){key:ByteArray}{b:Nat}(a:(key,b)∈nd){K:Int->Bool->Zf->Prop}(d:K 0 true h):Zbl (some ⟨S,0,none⟩) key K h:=by unfold Zbl Zge;have c:f key=some (pN b):=(hm.k _ _).2 ⟨b,a,rfl⟩;exact Za (Zh rfl (Zi (rM (Zb hm.ob.s rfl) (hm.m.get key (by rw[c];exact⟨some ⟨b,0,none⟩,rfl,Zh rfl (Zi (rM (Zb hm.ob.s rfl) (hm.m.get key (by rw[c];exact⟨some ⟨b,0,none⟩,rfl,Zi (rI (Zb (hm.ob.l _ a) rfl) (Za d))⟩))))⟩)))))
theorem ZPN(hm:Zu7 h O S mb most nd pv nx f){A B:List KB}{x:KB}(g:nd=A++x::B){K:Zf->Prop}
    (k:∀h' a b,ZoG h' S mb most nd a b->Ch a b S ((A++B).map (·.2)) S->Zm9 h' mb f nd.length->Upd (inR S nd) h h'->sz h'=sz h->K h'):Zbk (some ⟨x.2,0,none⟩) K h:=by
  have c:x∈nd:=by rw[g];simp
  have d:=hm.ch;have i:=hm.ob.nd;rw[g,Ayw,Awo]at d i;have sub:∀j,j∈(A.map (·.2))++x.2::B.map (·.2)->j∈nd.map (·.2):=λj l=>by rw[g,Ayw,Awo];exact l
  refine ZA0 hm.ob c ?_ ?_ λh' n u z=>k h' _ _ n ?_ (hm.m.congr (u.old _ hm.m.lt hm.mb)) u z
  ·rcases Awr.1 (Ch.split.1 d).1.pvIn with e|e
   ·rw[e];exact List.mem_cons_self ..
   ·exact Aws _ (sub _ (by simp[e]))
  ·rcases Axx.1 (Ch.split.1 d).2.nxIn with e|e
   ·exact Aws _ (sub _ (by simp[e]))
   ·simp at e;rw[e];exact List.mem_cons_self ..
  ·rw[Ayw];exact d.out i (Ayp.1 i).1
end
theorem ZFh(ks:List ByteArray)(key:ByteArray):∃(t:List ByteArray) (there:Bool),(there=true↔key∈ks)/\(∀k,k∈t↔k∈ks)/\∀{h:Zf} {O:Nat->Prop} {S:Nat} {most:Int} {K:Int->Bool->Zf->Prop},Zt2 h O S most ks->(∀h',Zt2 h' O S most t->Upd O h h'->sz h'=sz h->K 0 there h')->Ze2 (some ⟨S,0,none⟩) key K h:=by
  by_cases i:key∈ks
  case neg=>
    refine⟨ks,false,⟨λh=>(by cases h),λh=>(i h).elim⟩,λ_=>Iff.rfl,λ{h O S most K} hl y=>?_⟩;obtain⟨nd,mb,pv,nx,f,h1,c⟩:=hl.ex;unfold Ze2 Zg5;exact Za (ZPi c (by rw[h1];exact i) (Za (Zd (Zh rfl (Za (Zd (y h hl (Upd.refl _ _) rfl)))))))
  obtain⟨A,B,e⟩:=List.append_of_mem i;refine⟨A++B++[key],true,⟨λ_=>i,λ_=>rfl⟩,λk=>by rw[e];simp;constructor<;>(rintro(h|h|h)<;>simp[h]),λ{h O S most K} hl y=>?_⟩;obtain⟨nd,mb,pv,nx,f,h1,c⟩:=hl.ex;rw[e]at h1;obtain⟨n,C,rfl,rfl,L⟩:=List.map_eq_append_iff.1 h1;obtain⟨⟨d,b⟩,B',rfl,u,rfl⟩:=List.map_eq_cons_iff.1 L;dsimp only at u;subst u;have g:((d,b):KB)∈n++(d,b)::B':=by simp
  unfold Ze2 Zg5;have M:f d=some (pN b):=(c.k _ _).2 ⟨b,g,rfl⟩
  refine Za (ZHX c g (Za (Zd (Zm rfl (Zi (rM (Zb c.ob.s rfl) (c.m.get d (by
    rw[M];refine⟨some ⟨b,0,none⟩,rfl,ZPN c (x:=(d,b)) rfl λh3 N P G H I Q z3=>?_⟩;have r:=G.nd;have z:(S::(n++B').map (·.2)).Nodup:=r.sublist (List.Sublist.cons_cons _ ((List.Sublist.append_left (List.sublist_cons_self _ _) _).map _))
    have D:b∉S::(n++B').map (·.2):=λa=>by
      rw[Ayw,Awo]at r;simp only[Ayp,List.nodup_append,Axx,Awr,not_or]at r
      rcases Awr.1 a with a|a
      ·exact r.1.2.1 a.symm
      ·rw [Ayw]at a
       rcases Axx.1 a with a|a
       ·exact r.2.2.2 b a b (.inl rfl) rfl
       ·exact r.2.2.1.1 a
    have E:=H.pvIn;refine ZvC G (b:=(d,b)) g ?_ λR F J z4=>Za (Zd (y R ?_ ?_ (z4.trans z3)))
    ·rcases Awr.1 E with o|o
     ·rw[o];exact List.mem_cons_self ..
     ·refine Aws _ ?_;rw[Ayw]at o⊢;rw[Awo];simp only[Axx,Awr]at o⊢
      rcases o with o|o
      ·exact .inl o
      ·exact .inr (.inr o)
    ·have perm:∀x:KB,x∈n++B'++[(d,b)]↔x∈n++(d,b)::B':=λx=>by
       simp only[Axx,Awr,Ayk,or_false];constructor
       ·rintro((a|a)|a)
        ·exact .inl a
        ·exact .inr (.inr a)
        ·exact .inr (.inl a)
       ·rintro(a|a|a)
        ·exact .inl (.inl a)
        ·exact .inr a
        ·exact .inl (.inr a)
     have pp:(n++(d,b)::B').Perm (n++B'++[(d,b)]):=by
       rw[Ayx];exact List.Perm.append_left _ (List.perm_append_singleton _ _).symm
     refine⟨⟨n++B'++[(d,b)],mb,_,_,f,by simp,⟨F.s,λx w=>F.l x ((perm x).1 w),(List.Perm.cons _ (pp.map _)).nodup F.nd⟩,?_,?_,λk v=>?_,(pp.map _).nodup c.kd,c.os,c.om,λx w=>c.ol x ((perm x).1 w),λj p=>by have:=c.lt j p;omega⟩,hl.m,?_⟩
     ·rw[Ayw];exact H.touched z D
     ·rw[<-pp.length_eq];refine I.congr (J.old _ I.lt λa=>?_);exact c.mb a
     ·rw[c.k k v];constructor<;>(rintro⟨T,a,U⟩;exact⟨T,by first|exact(perm _).2 a|exact(perm _).1 a,U⟩)
     ·have:=hl.len;rw[e]at this;simp at this⊢;omega
    ·have q:∀j,inR S (n++(d,b)::B') j->O j:=λj p=>by
       rcases Awr.1 p with rfl|p
       ·exact c.os
       ·obtain⟨x,w,rfl⟩:=Axz.1 p;exact c.ol x w
     exact(Q.mono λj _ p=>q j p).trans (J.mono λj _ p=>q j p)))))))))
theorem ZB0{h:Zf}{O:Nat->Prop}{S:Nat}{most:Int}{ks:List ByteArray}{key:ByteArray}(hl:Zt2 h O S most ks)(p:key∉ks)(hlen:(ks.length:Int)<most){J:Zf->Prop}(hJ:∀h' O',Zt2 h' O' S most (ks++[key])->GrO O O' h h'->(∀j,O' j->j<sz h')->J h'):
    newC h [.string key,iv 0,.pointer none,.pointer none] 301 λy z=>Ze (some ⟨S,0,none⟩) λH I=>ldM z H (I+1) λt33=>Zj0 .string z t33 (.string key) (.pointer (some ⟨y,0,none⟩)) λK=>ZaE (some ⟨S,0,none⟩) (some ⟨y,0,none⟩) (λL=>J L) K:=by
  obtain⟨nd,mb,D,nx,f,rfl,hm⟩:=hl.ex;refine ZF λh1 c1 M z1=>Zi (rM (Zb (Zj hm.ob.s M) rfl) ?_);have aj:sz h1=sz h+1:=z1;have o:=hm.congr (h':=h1) (λ_ h=>h) (λj n=>by have:=hm.lt j n;omega) λj n=>ZQ M (hm.lt j n);refine o.m.put key _ λN P E z2=>?_;have al:sz N=sz h1:=z2;rw[o.no p]at P;have A:∀j,O j->j≠sz h:=λj n e=>by have:=hm.lt j n;omega
  have Q:h.size=sz h:=rfl;rw[Q]at c1⊢;have c2:=Y0 (show obj h1 (sz h)=some (.cells [.string key,iv 0,.pointer none,.pointer none].toArray 301 (0,0))from c1) E λe=>A _ hm.om e.symm;have F:ZoG N S mb most nd D nx:=o.ob.congr (Zal E (Zp o.ob.s) λe=>o.mb (e▸List.mem_cons_self ..)) λx i=>Zal E (Zp (o.ob.l x i)) λe=>o.mb (e▸Aws _ (List.mem_map_of_mem i));have q:sz h≠S:=λe=>A S hm.os e.symm
  have Z:sz h∉S::nd.map (·.2):=λd=>by
    rcases Awr.1 d with d|d
    ·exact q d
    ·obtain⟨x,i,e⟩:=Axz.1 d;exact A _ (hm.ol x i) e
  unfold ZaE Zfx;have eb:(⟨sz h,0,none⟩:Addr)=ad S (sz h):=by show _=(⟨_,_,_⟩:Addr);rw[Ztw q]
  have es:(⟨S,0+2,none⟩:Addr)=ad S S:=by show _=(⟨_,_,_⟩:Addr);rw[Ztv]
  refine Zi (Zi (rP (Zb F.s rfl) (Zi (ZcS c2 (show 0+2<4 by decide) rfl λh3 c3 u3 z3=>Zi (ZcS c3 (show 0+3<4 by decide) rfl λR c4 u4 z4=>?_)))));have r:Upd (· = sz h) N R:=u3.trans u4;have T:obj R (sz h)=some (lkO key (ad S (D S)) (ad S S)):=by rw[<-es];exact c4
  have o4:ZoG R S mb most (nd++[(key,sz h)]) (ZmT D (sz h) (D S)) (ZmT nx (sz h) S):=by
    refine⟨?_,λx i=>?_,?_⟩
    ·rw[Zcs q.symm,Zcs q.symm];exact Y0 F.s r λe=>q e.symm
    ·rcases Axx.1 i with i|i
     ·have u:x.2≠sz h:=A _ (hm.ol x i);rw[Zcs u,Zcs u];exact Y0 (F.l x i) r u
     ·simp at i;subst i;rw[Zac,Zac];exact T
    ·rw[Ayw,<-List.cons_append,List.nodup_append];refine⟨F.nd,by simp,λa U c B=>?_⟩;simp at B;rw[B];rintro rfl;exact Z U
  have t:((key,sz h):KB)∈nd++[(key,sz h)]:=by simp
  have up:∀j,inR S nd j->inR S (nd++[(key,sz h)]) j:=λj n=>by
    rcases Awr.1 n with e|e
    ·rw[e];exact List.mem_cons_self ..
    ·exact Aws _ (by rw[Ayw];exact List.mem_append_left _ e)
  have V:=up _ hm.ch.pvIn;have W:inR S (nd++[(key,sz h)]) S:=List.mem_cons_self ..;refine Zi (rP (Zb (o4.l _ t) rfl) ?_);rw[Zac];refine Zi (o4.stN V rfl (by rw[eb]) λh5 o5 u5 z5=>Zi (o5.stP W (by rw[Ztv]) (by rw[eb]) λG o6 u6 z6=>?_))
  have X:∀j,inR S nd j->O j:=λj n=>by
    rcases Awr.1 n with e|e
    ·rw[e];exact hm.os
    ·obtain⟨x,i,rfl⟩:=Axz.1 e;exact hm.ol x i
  have g:GrO O (λj=>O j\/j=sz h) h G:=by
    have g0:GrO O (λj=>O j\/j=sz h) h h1:=⟨M.upd _,λj n=>.inl n,λj n=>n.elim .inl λe=>.inr (by omega)⟩;exact(((g0.put E λk w=>.inl (w▸hm.om)).put r λk w=>.inr w).put u5 λk w=>.inl (w▸X _ hm.ch.pvIn)).put u6 λk w=>.inl (w▸hm.os)
  have zz:sz G=sz h+1:=by omega
  have C:∀j,(O j\/j=sz h)->j<sz G:=λj n=>by
    rcases n with n|n
    ·have:=hm.lt j n;omega
    ·omega
  refine hJ G _ ⟨⟨nd++[(key,sz h)],mb,_,_,ZrJ f key (some (pN (sz h))),by simp,o6,?_,?_,λk v=>?_,?_,.inl hm.os,.inl hm.om,λx i=>?_,C⟩,hl.m,?_⟩ g C
  ·rw[Ayw];exact hm.ch.touched hm.ob.nd Z
  ·have m3:=(P.congr (r.old _ P.lt λe=>A _ hm.om e));have m5:=m3.congr (u5.old _ m3.lt λe=>hm.mb (e▸hm.ch.pvIn));have m6:=m5.congr (u6.old _ m5.lt λe=>hm.mb (e▸List.mem_cons_self ..));rw[Awe];exact m6
  ·unfold ZrJ
   by_cases e:k=key
   ·subst e;rw[if_pos rfl];constructor
    ·intro d;cases d;exact⟨sz h,t,rfl⟩
    ·rintro⟨b,d,rfl⟩
     rcases Axx.1 d with d|d
     ·exact(p (List.mem_map_of_mem (f:=(·.1)) d)).elim
     ·simp at d;rw[d]
   ·rw [if_neg e,hm.k k v];constructor
    ·rintro⟨b,d,Y⟩;exact⟨b,List.mem_append_left _ d,Y⟩
    ·rintro⟨b,d,Y⟩
     rcases Axx.1 d with d|d
     ·exact⟨b,d,Y⟩
     ·simp at d;exact(e d.1).elim
  ·rw[Ayw,List.nodup_append];refine⟨hm.kd,by simp,λa U c B=>?_⟩;simp at B;rw[B];rintro rfl;exact p U
  ·rcases Axx.1 i with i|i
   ·exact .inl (hm.ol x i)
   ·simp at i;exact .inr (by rw[i])
  ·simp at hlen⊢;omega
theorem ZO9{h:Zf}{O:Nat->Prop}{S mb:Nat}{most:Int}{g:ByteArray}{b:Nat}{nd:List KB}{J nx:Nat->Nat}{f:ByteArray->Option Value}(hm:Zu7 h O S mb most ((g,b)::nd) J nx f){kb:Nat}{T1:TypeId}(L:obj h kb=some (.cells [.string g].toArray T1 (0,0))){K:Int->Zf->Prop}
    (M:∀h' a c t n,Zu7 h' O S mb most nd a c t->Upd O h h'->sz h'=sz h->K n h'):Zf9 (some ⟨S,0,none⟩) ⟨some ⟨kb,0,none⟩,1,1⟩ K h:=by
  unfold Zf9 Zin;have p:((g,b):KB)∈(g,b)::nd:=List.mem_cons_self ..;have F:f g=some (pN b):=(hm.k _ _).2 ⟨b,p,rfl⟩
  have z:∀j,inR S ((g,b)::nd) j->O j:=λj i=>by
    rcases Awr.1 i with e|e
    ·rw[e];exact hm.os
    ·obtain⟨x,q,rfl⟩:=Axz.1 e;exact hm.ol x q
  refine Za (Za (Zaj (λ(st:Int×Int×Unit) r=>(st=(0,0,())/\r=h)\/(st.2.1=1/\∃a c t,Zu7 r O S mb most nd a c t/\Upd O h r/\sz r=sz h)) (λst _=>(1-st.2.1).toNat) (.inl ⟨rfl,rfl⟩) ?_));rintro⟨n9,i9,_⟩ r (⟨o,rfl⟩ |⟨o,a,c,t,B,N,z'⟩) Q P
  case inr=>
    dsimp only at o⊢;subst o;exact Zh rfl (Za (M r a c t _ B N z'))
  injection o with R C;injection C with C W;subst R C;dsimp only;refine Zm rfl ⟨kb,0,rfl,by decide,by decide,rS (Zb L rfl) (ZHX hm p (Za (Zd (Zm rfl (Zi (rM (Zb hm.ob.s rfl) (hm.m.get g ?_)))))))⟩;rw[F];refine⟨some ⟨b,0,none⟩,rfl,ZPN hm (A:=[]) (x:=(g,b)) rfl λh3 a c w T U V z3=>Zi (rM (Zb w.s rfl) (U.del g λG H D z4=>Za (P _ _ (.inr ⟨rfl,a,c,ZrJ f g none,⟨?_,T,?_,λk v=>?_,(Ayp.1 hm.kd).2,hm.os,hm.om,λx q=>hm.ol x (Aws _ q),λj i=>?_⟩,?_,?_⟩) ?_)))⟩
  ·have I:∀j,inR S ((g,b)::nd) j->j≠mb:=λj i e=>hm.mb (e▸i);refine⟨Y0 w.s D (I _ (List.mem_cons_self ..)),λx q=>Y0 (w.l x (Aws _ q)) D (I _ (Aws _ (List.mem_map_of_mem (Aws _ q)))),w.nd.sublist (List.Sublist.cons_cons _ (List.sublist_cons_self _ _))⟩
  ·rw[F]at H;exact H
  ·unfold ZrJ;have E:=(Ayp.1 hm.kd).1
   by_cases e:k=g
   ·subst e;rw[if_pos rfl];constructor
    ·intro d;cases d
    ·rintro⟨y,d,_⟩;exact(E (List.mem_map_of_mem (f:=(·.1)) d)).elim
   ·rw [if_neg e,hm.k k v];constructor
    ·rintro⟨y,d,u⟩
     rcases Awr.1 d with d|d
     ·cases d;exact(e rfl).elim
     ·exact⟨y,d,u⟩
    ·rintro⟨y,d,u⟩;exact⟨y,Aws _ d,u⟩
  ·have d:=hm.lt j i;have u:sz G=sz h3:=z4;omega
  ·exact(V.mono λj _ i=>z j i).trans (D.mono λj _ i=>by rw[i];exact hm.om)
  ·have u:sz G=sz h3:=z4;omega
  ·show(1-(1:Int)).toNat<(1-(0:Int)).toNat;decide
theorem Zy9{h:Zf}{O:Nat->Prop}{S:Nat}{most:Int}{ks:List ByteArray}{key:ByteArray}(hl:Zt2 h O S most ks)(c:key∉ks){K:ByteArray->Bool->Int->Zf->Prop}
    (v:(ks.length:Int)≠most->∀h' O',Zt2 h' O' S most (ks++[key])->GrO O O' h h'->(∀j,O' j->j<sz h')->K (ByteArray.mk #[]) false 0 h')
    (w:∀g I,ks=g::I->(ks.length:Int)=most->∀h' O',Zt2 h' O' S most (I++[key])->GrO O O' h h'->(∀j,O' j->j<sz h')->K g true 0 h'):Zg0 (some ⟨S,0,none⟩) key 0 K h:=by
  obtain⟨nd,mb,U,nx,f,d,hm⟩:=hl.ex;unfold Zg0 Zji;refine Za (Zh rfl (Zi (rM (Zb hm.ob.s rfl) (hm.m.get key ?_))));rw[hm.no (by rw[d];exact c)];refine⟨none,rfl,Zh rfl ?_⟩;have hlen:nd.length=ks.length:=by rw[<-d,Ayv]
  refine ZoF (λ(s:ByteArray×Bool×Unit) y=>∃a,Zt2 y O S most a/\key∉a/\(a.length:Int)<most/\Upd O h y/\((s=(ByteArray.mk #[],false,())/\a=ks/\(ks.length:Int)≠most)\/∃g,s=(g,true,())/\ks=g::a/\(ks.length:Int)=most)) ?_ λQ J=>?_
  ·rintro _ y ⟨a,o,p,e,u,⟨rfl,rfl,r⟩ |⟨g,rfl,M,heq⟩⟩
   ·refine ZB0 o p e λh' O' i g' z=>Zd (Za (v r h' O' i ⟨u.trans ?_,g'.keep,λk A=>(g'.new k A).imp id λt=>?_⟩ z))
    ·exact g'.upd
    ·exact Aqp u.size t
   ·refine ZB0 o p e λh' O' i g' z=>Zd (Za (w g a M heq h' O' i ⟨u.trans ?_,g'.keep,λk A=>(g'.new k A).imp id λt=>?_⟩ z))
    ·exact g'.upd
    ·exact Aqp u.size t
  refine Zi (Zi (rM (Zb hm.ob.s rfl) (rI (Zb hm.ob.s rfl) (hm.m.len ⟨Yj (Zb hm.ob.s rfl),Zd ⟨λq=>?_,λq=>?_⟩⟩))))
  ·have heq:(nd.length:Int)=most:=by simpa using q
   cases nd with
   |nil=>have:=hl.m;simp at heq;omega
   | cons x nd=>
     obtain⟨g,b⟩:=x;have B:nx S=b:=hm.ch.1;have C:b≠S:=hm.ob.ne (x:=(g,b)) (List.mem_cons_self ..);refine Zi (rP (Zb hm.ob.s rfl) (Zi ?_));rw[B,Ztw C];refine rS (Zb (hm.ob.l (g,b) (List.mem_cons_self ..)) rfl) (ZF λh1 c1 L N=>?_);have P:sz h1=sz h+1:=N;have D:=hm.congr (h':=h1) (λ_ h=>h) (λj E=>by have:=hm.lt j E;omega) λj E=>ZQ L (hm.lt j E);refine ZO9 D (T1:=9) c1 λV F G R n H T W=>?_;refine J _ _ ⟨nd.map (·.1),⟨⟨nd,mb,F,G,R,rfl,H⟩,hl.m,?_⟩,λt=>c ?_,?_,(L.upd _).trans T,.inr ⟨g,?_,by rw[<-d];rfl,by omega⟩⟩
     ·simp at heq⊢;omega
     ·rw[<-d];exact Aws _ t
     ·simp at heq⊢;omega
     ·rw[show(((g,b)::nd).length:Int)==most from q]
  ·have r:(nd.length:Int)≠most:=by simpa using q
   refine J _ _ ⟨ks,hl,c,?_,Upd.refl _ _,.inl ⟨?_,rfl,by omega⟩⟩
   ·have:=hl.len;omega
   ·rw[q]
abbrev KI:=ByteArray×Int
def kiL(x:KI):List Value:=[.string x.1,iv x.2]
theorem ZqV(x:KI):(kiL x).length=2:=rfl
theorem ZEs(x:KI):(kiL x).all Zs=true:=by simp[kiL,ZdD,ZiQ]
def Zgt(se:Int):Wid:=if h:1<=se/\se<=60 then⟨se*1000000,10,se*100000,by rw[show se*1000000=se*100000*10 by omega,Int.mul_tdiv_cancel _ (by decide)];exact Yw (by omega) (by omega),by decide,by decide,by omega,by omega⟩else Wid.sec
theorem Zmo{se:Int}(h:1<=se/\se<=60):(Zgt se).len=se*1000000:=by unfold Zgt;rw[dif_pos h]
theorem ZpI{se:Int}:(Zgt se).cnt=10:=by unfold Zgt;split<;>rfl
structure HtS where
  nm:ByteArray
  ix:Int
  cn:Int
  se:Int
  it:List KI
  most:Int
  ks:List ByteArray
  ws:ByteArray->Win
  sk:Sk
  last:Int
inductive HTag
  |me|map|items|lru|sk
  |win (k:ByteArray)
abbrev htO(H:HtS)(si:Sl)(S wm kb:Nat):Obj:=.cells [.string H.nm,iv H.ix,iv H.cn,iv H.se,slV si,.pointer (some ⟨S,0,none⟩),.map (some wm),.pointer (some ⟨kb,0,none⟩),iv H.last].toArray 232 (0,0)
abbrev WT:=ByteArray->Nat×Nat
structure HtM(h:Zf)(hb:Nat)(T:Nat->Option HTag)(H:HtS)(D:ByteArray->Prop)(si:Sl)(S wm kb:Nat)(f:ByteArray->Option Value)(n:Nat)(wt:WT)(sl:Sl)(lb:List B3):Prop where
  c:obj h hb=some (htO H si S wm kb)
  me:T hb=some .me
  se:1<=H.se/\H.se<=60
  it:Own h 0 si 2 (H.it.flatMap kiL)
  ib:∀b,si.blk=some b->T b=some .items
  l:Zt2 h (λj=>T j=some .lru) S H.most H.ks
  m:Zm9 h wm f n
  mt:T wm=some .map
  w:∀k,D k->f k=some (pN (wt k).1)/\Zll (Zgt H.se) h (wt k).1 (wt k).2 (H.ws k)/\T (wt k).1=some (.win k)/\T (wt k).2=some (.win k)
  no:∀k,¬D k->f k=none
  s:SkR h (λj=>T j=some .sk) kb sl lb H.sk
  lt:∀j,T j≠none->j<sz h
structure HtW(h:Zf)(hb:Nat)(T:Nat->Option HTag)(H:HtS)(D:ByteArray->Prop):Prop where
  ex:∃si S wm kb f n wt sl lb,HtM h hb T H D si S wm kb f n wt sl lb
abbrev HtR(h:Zf)(hb:Nat)(T:Nat->Option HTag)(H:HtS):Prop:=HtW h hb T H (· ∈ H.ks)
section
variable{h h':Zf}{hb:Nat}{T T':Nat->Option HTag}{H:HtS}{D:ByteArray->Prop}{si:Sl}{S wm kb:Nat}{f:ByteArray->Option Value}{n:Nat}{wt:WT}{sl:Sl}{lb:List B3}
theorem HtM.lw(hm:HtM h hb T H D si S wm kb f n wt sl lb){j:Nat}{t:HTag}(a:T j=some t):j<sz h:=hm.lt j (by rw[a];exact λe=>by cases e)
theorem HtM.congr(hm:HtM h hb T H D si S wm kb f n wt sl lb)(h1:∀j,T j≠none->obj h' j=obj h j)(hz:sz h<=sz h'):HtM h' hb T H D si S wm kb f n wt sl lb:=by
  have q:∀{j:Nat} {t:HTag},T j=some t->obj h' j=obj h j:=λ{j t} e=>h1 j (by rw[e];exact λe=>by cases e);have i:∀j,T j≠none->j<sz h':=λj g=>Aqq (hm.lt j g) hz
  exact ⟨(q hm.me).trans hm.c,hm.me,hm.se,hm.it.congr λb o _ _=>q (hm.ib b o),hm.ib,hm.l.congr (λ_ h=>h) (λj g=>i j (by rw[g];exact λe=>by cases e)) λj g=>q g,hm.m.congr (q hm.mt),hm.mt,
    λk p=>by
     obtain⟨a,b,c,d⟩:=hm.w k p
     exact⟨a,b.congr (q c) (q d),c,d⟩,hm.no,hm.s.congr (λ_ h=>h) (λj g=>i j (by rw[g];exact λe=>by cases e)) λj g=>q g,i⟩
theorem HtM.ext(hm:HtM h hb T H D si S wm kb f n wt sl lb)(e:Ext h h'):HtM h' hb T H D si S wm kb f n wt sl lb:=hm.congr (λj a=>ZQ e (hm.lt j a)) e.size
theorem HtW.ext(hw:HtW h hb T H D)(e:Ext h h'):HtW h' hb T H D:=by obtain⟨si,S,wm,kb,f,n,wt,sl,lb,hm⟩:=hw.ex;exact⟨si,S,wm,kb,f,n,wt,sl,lb,hm.ext e⟩
end
def ZOV(it:List KI)(cn:Int)(v:ByteArray):Int:=match it.findIdx? (λx=>Z2 x.1 v)with
  |some i=>(it[i]?.map (·.2)).getD 0
  |none=>cn
theorem Zv4{h:Zf}{nm v:ByteArray}{ix cn se:Int}{si:Sl}{it:List KI}(m:Row h si 2 (it.flatMap kiL)){K:Int->Zf->Prop}(e:∀h',Ext h h'->K (ZOV it cn v) h'):Zef (nm,ix,cn,se,si,()) v K h:=by
  unfold Zef ZgP;refine ZF λh1 c1 t A=>ZF λB u k C=>Za (rL (Zb (Zj c1 k) rfl) ?_);have d:=t.trans k;unfold Z5 Ya;refine ZkE ZqV (m.ext d) (by decide) (p:=λx=>Z2 x.1 v) (tst:=λQ b o h3=>ldS h3 b o λt4=>ldI h3 b (o+1) .i64 λt5=>ZcL (t4,t5,()) (some ⟨h1.size,0,none⟩) Q h3) ?_ ?_
  ·intro i a b o D Q E he c w;refine rS (c 0 _ rfl) (rI (c 1 _ rfl) ?_);unfold ZcL Zfy;exact ZF λy z n z4=>rS (Zb z rfl) (Zi (rS (Zb (Zj (Zj u he) n) rfl) (Zd (w y (he.trans n)))))
  ·intro q j;have r:=Zj (Zj c1 k) j;refine Za ?_;unfold ZOV at e
   cases f:it.findIdx? (λx=>Z2 x.1 v)with
   | none=>
     rw[f]at e;rw[ZqZ f];exact Zh (by decide) (rI (Zb r rfl) (Za (e q (d.trans j))))
   | some i=>
     rw[f]at e;rw[ZqY f];obtain⟨l,_,_⟩:=List.findIdx?_eq_some_iff_getElem.1 f;obtain⟨x,s⟩:∃x,it[i]?=some x:=⟨_,Axy l⟩;obtain⟨b,o,_,_,g,c⟩:=Zab ZqV (m.ext (d.trans j)) s (by decide);refine Zm (by simp) (rL (Zb r rfl) (g rfl (rI (c 1 _ rfl) (Za ?_))));have:=e q (d.trans j);dsimp only at this;rw[s]at this;exact this
theorem ZDY{k:Wid}{w:Win}(ok:w.OK){at_:Int}(h0:0<=at_)(h1:at_<=1152921504606846976):Rt (w.sum k at_):=by unfold Win.sum;have:=k.c0;have:=Zli (k:=k) h0 h1;exact Zpg ok.p (by unfold loW;omega)
theorem ZuL{s:Sk}(ok:s.OK)(at_:Int)(key:ByteArray):∀n,0<=ZFA s at_ key n/\ZFA s at_ key n<=4611686018427387904
  | 0=>⟨by show(0:Int)<=4611686018427387904;decide,Int.le_refl _⟩
  | n+1=>by
    have h1:=ZuL ok at_ key n;have a:=Zuh s.d at_ n (ZsT s.seed n key) s.bs λb hb=>(ok.bs b hb).1;unfold ZFA ZqT;split<;>omega
theorem ZvH{s:Sk}(ok:s.OK)(at_:Int)(key:ByteArray):0<=s.used at_ key/\s.used at_ key<=4611686018427387904:=by
  unfold Sk.used;split
  ·exact ZuL ok at_ key 4
  ·omega
theorem Zxb(H:HtS)(D:ByteArray->Prop)(at_:Int)(v:ByteArray):∃n:Int,∀{h:Zf} {hb:Nat} {T:Nat->Option HTag} {K:Int->Zf->Prop},HtW h hb T H D->v.size<=64->(∀h',Ext h h'->0<=n->n<=4611686018427387904->K n h')->Zco (some ⟨hb,0,none⟩) at_ v K h:=by
  by_cases a:D v
  ·refine ⟨(if YC (H.ws v).last at_=0 then(H.ws v).sum (Zgt H.se) at_ else z6).1,λ{h hb T K} hw hv b=>?_⟩;obtain⟨si,S,wm,kb,f,n,wt,sl,lb,hm⟩:=hw.ex;obtain⟨w1,i,_,_⟩:=hm.w v a;unfold Zco Zgf;refine Za (Zi (rM (Zb hm.c rfl) (hm.m.get v ?_)));rw[w1]
   have d:Rt (if YC (H.ws v).last at_=0 then(H.ws v).sum (Zgt H.se) at_ else z6):=by
     split
     ·rename_i q;obtain⟨a0,j,_⟩:=Zgi q;exact ZDY i.ok a0 j
     ·exact Rt.zero
   refine⟨some ⟨(wt v).1,0,none⟩,rfl,Zd (Zm rfl (Zu0 i λh1 g=>ZF λt l o u=>ZaN l λh3 p r z3=>Za (rI (Zb p rfl) (Za (b h3 ?_ d.1.1 d.1.2)))))⟩;exact(g.trans o).then r λk b=>by subst b;exact g.size
  ·refine⟨H.sk.used at_ v,λ{h hb T K} hw hv b=>?_⟩;obtain⟨si,S,wm,kb,f,n,wt,sl,lb,hm⟩:=hw.ex;unfold Zco Zgf;refine Za (Zi (rM (Zb hm.c rfl) (hm.m.get v ?_)));rw[hm.no v a];have d:=ZvH hm.s.ok at_ v;exact⟨none,rfl,Zd (Zh rfl (Zi (rP (Zb hm.c rfl) (Zrr hm.s (by omega) λh1 e g=>Za (Za (Za (b h1 g d.1 d.2)))))))⟩
def ZEE(H:HtS)(at_:Int)(v:ByteArray):Int:=if at_<0 then 2 else if at_>1152921504606846976 then 2 else if(v.size:Int)>64 then 5 else if at_<H.last then 7 else 0
theorem Zyk{H:HtS}{at_:Int}{v:ByteArray}(h:ZEE H at_ v=0):0<=at_/\at_<=1152921504606846976/\v.size<=64:=by
  unfold ZEE at h;split at h
  ·cases h
  ·split at h
   ·cases h
   ·split at h
    ·cases h
    ·omega
theorem Zn6{h:Zf}{hb:Nat}{T:Nat->Option HTag}{H:HtS}{D:ByteArray->Prop}(hw:HtW h hb T H D){at_:Int}{v:ByteArray}{K:Int->Zf->Prop}(a:K (ZEE H at_ v) h):Ze3 (some ⟨hb,0,none⟩) at_ v K h:=by
  obtain⟨si,S,wm,kb,f,n,wt,sl,lb,hm⟩:=hw.ex;unfold Ze3 ZhC;unfold ZEE at a;refine Za (Zd (Zh rfl (Zn (λq=>Za ?_) λq=>Zd (Zn (λb=>Za ?_) λb=>Zd (Zn (λd=>Za ?_) λd=>Zi (rI (Zb hm.c rfl) (Zd (Zn (λe=>Za ?_) λe=>Za ?_))))))))
  ·rw[if_pos q]at a;exact a
  ·rw[if_neg q,if_pos b]at a;exact a
  ·rw[if_neg q,if_neg b,if_pos d]at a;exact a
  ·rw[if_neg q,if_neg b,if_neg d,if_pos e]at a;exact a
  ·rw[if_neg q,if_neg b,if_neg d,if_neg e]at a;exact a
theorem Zrq(H:HtS)(at_:Int)(v:ByteArray)(c:Int):∃(ok:Bool) (e:Int),(e=0->(1<=c/\c<=1099511627776)/\ZEE H at_ v=0)/\∀{h:Zf} {hb:Nat} {T:Nat->Option HTag} {K:Bool->Int->Zf->Prop},HtR h hb T H->(∀h',Ext h h'->K ok e h')->Zau (some ⟨hb,0,none⟩) at_ v c K h:=by
  by_cases i:c<1
  ·refine⟨false,2,λh=>(by cases h),λ{h hb T K} hw a=>?_⟩;unfold Zau Zcq;exact Za (ZoF (λ_ _=>False) (λ_ _ h=>h.elim) λQ d=>Zm rfl (Zm (decide_eq_true i) (Za (a h (Ext.refl _)))))
  by_cases j:c>1099511627776
  ·refine⟨false,2,λh=>(by cases h),λ{h hb T K} hw a=>?_⟩;unfold Zau Zcq;exact Za (ZoF (λ_ _=>False) (λ_ _ h=>h.elim) λQ d=>Zm rfl (Zh (decide_eq_false i) (Zm (decide_eq_true j) (Za (a h (Ext.refl _))))))
  by_cases g:ZEE H at_ v=0
  ·obtain⟨n,l⟩:=Zxb H (· ∈ H.ks) at_ v;refine⟨decide (n<=IntKind.wrap .i64 (ZOV H.it H.cn v- c)),0,λ_=>⟨by omega,g⟩,λ{h hb T K} hw a=>?_⟩;unfold Zau Zcq;refine Za (ZoF (λ_ b=>b=h) ?_ λQ d=>Zm rfl (Zh (decide_eq_false i) (Zh (decide_eq_false j) (d _ _ rfl))));rintro _ b rfl;obtain⟨si,S,wm,kb,f,m,wt,sl,lb,hm⟩:=hw.ex;refine Zn6 hw (Za (Zh (by rw[g];rfl) (Zi (rS (Zb hm.c rfl) (rI (Zb hm.c rfl) (rI (Zb hm.c rfl) (rI (Zb hm.c rfl) (rL (Zb hm.c rfl) (l hw (Zyk g).2.2 λh1 k _ _=>?_)))))))));have c1:=Zj hm.c k;refine⟨?_,Zv4 (hm.it.row.ext k) λo p=>Zd (Za (a o (k.trans p)))⟩;rw[Za0,Za0,Za0,Za0,Za0,Zhq];exact⟨Zb c1 rfl,Zb c1 rfl,Zb c1 rfl,Zb c1 rfl,Zb c1 rfl,trivial⟩
  ·refine⟨false,ZEE H at_ v,λh=>(g h).elim,λ{h hb T K} hw a=>?_⟩;unfold Zau Zcq;refine Za (ZoF (λ_ b=>b=h) ?_ λQ d=>Zm rfl (Zh (decide_eq_false i) (Zh (decide_eq_false j) (d _ _ rfl))));rintro _ b rfl;exact Zn6 hw (Za (Zm (by simpa using g) (Za (a b (Ext.refl _)))))
end Go.Proofs.YtonbfpnngkemiaaGreat
namespace Go.Proofs.YtonbfpnngkemiaaGreat
open Go Go.Fw
open Nat renaming reduceAdd->Nqa,reduceLT->Nqb,reduceLeDiff->Nqc,reduceEqDiff->Nqd,reduceMul->Nqe
open Classical in
theorem ZDV{h h':Zf}{T:Nat->Option HTag}{t:HTag}{O':Nat->Prop}(d:∀j,T j≠none->j<sz h)(g:GrO (λj=>T j=some t) O' h h')(hl:∀j,O' j->j<sz h'):
    ∃T':Nat->Option HTag,(∀j x,T j=some x->T' j=some x)/\(∀j,T' j=some t↔O' j)/\(∀j,T' j≠none->j<sz h')/\(∀j x,T j=some x->x≠t->obj h' j=obj h j)/\(∀j x,T' j=some x->x≠t->T j=some x)/\GrO (λj=>T j≠none) (λj=>T' j≠none) h h':=by
  have some_:∀{j:Nat} {x:HTag},T j=some x->T j≠none:=λe b=>by rw[e]at b;cases b
  have i:∀j x,T j=some x->(if O' j then some t else T j)=some x:=λj x a=>by
    split
    ·rename_i ho
     rcases g.new j ho with b|b
     ·rw[<-b,a]
     ·have:=d j (some_ a);omega
    ·exact a
  refine⟨λj=>if O' j then some t else T j,i,λj=>⟨λb=>?_,λb=>if_pos b⟩,λj c=>?_,λj x a f=>Zal g.upd (d j (some_ a)) λb=>f (by have k:T j=some t:=b;rw[a]at k;exact Option.some.inj k),λj x a f=>?_,g.upd.mono λj _ c=>some_ c,λj c=>?_,λj c=>?_⟩
  ·dsimp only at b;split at b
   ·assumption
   ·exact g.keep j b
  ·dsimp only at c;split at c
   ·exact hl j (by assumption)
   ·exact Aqq (d j c) g.upd.size
  ·dsimp only at a;split at a
   ·exact(f (Option.some.inj a).symm).elim
   ·exact a
  ·cases a:T j with
   |none=>exact(c a).elim
   | some x=>
     show(if O' j then some t else T j)≠none;rw[i j x a];exact λe=>by cases e
  ·dsimp only at c;split at c
   ·rename_i ho;exact(g.new j ho).imp some_ id
   ·exact .inl c
section
variable{h h':Zf}{hb:Nat}{T:Nat->Option HTag}{H:HtS}{D:ByteArray->Prop}{si:Sl}{S wm kb:Nat}{f:ByteArray->Option Value}{n:Nat}{wt:WT}{sl:Sl}{lb:List B3}
abbrev GrT(T T':Nat->Option HTag)(h h':Zf):Prop:=GrO (λj=>T j≠none) (λj=>T' j≠none) h h'
theorem HtM.lru(hm:HtM h hb T H D si S wm kb f n wt sl lb){O':Nat->Prop}{ks:List ByteArray}(hl:Zt2 h' O' S H.most ks)(g:GrO (λj=>T j=some .lru) O' h h')(lt:∀j,O' j->j<sz h'):∃T',HtM h' hb T' {H with ks:=ks} D si S wm kb f n wt sl lb/\GrT T T' h h':=by
  obtain⟨T',l,p,r,t,y,u⟩:=ZDV hm.lt g lt;have q:∀{j:Nat} {x:HTag},T j=some x->x≠ .lru->obj h' j=obj h j:=λ{j x} a b=>t j x a b
  refine ⟨T',⟨(q hm.me (by simp)).trans hm.c,l _ _ hm.me,hm.se,hm.it.congr λb o _ _=>q (hm.ib b o) (by simp),λb e=>l _ _ (hm.ib b e),hl.congr (λj i=>(p j).2 i) (λj i=>lt j ((p j).1 i)) λ_ _=>rfl,hm.m.congr (q hm.mt (by simp)),l _ _ hm.mt,
    λk v=>by
     obtain⟨a,b,c,d⟩:=hm.w k v
     exact⟨a,b.congr (q c (by simp)) (q d (by simp)),l _ _ c,l _ _ d⟩,hm.no,hm.s.congr (λj i=>l _ _ i) (λj i=>r j (by rw[i];exact λe=>by cases e)) λj i=>q i (by simp),r⟩,u⟩
theorem HtM.sk(hm:HtM h hb T H D si S wm kb f n wt sl lb){O':Nat->Prop}{sk:Sk}{p:Sl}{r:List B3}(hs:SkR h' O' kb p r sk)(g:GrO (λj=>T j=some .sk) O' h h'):∃T',HtM h' hb T' {H with sk:=sk} D si S wm kb f n wt p r/\GrT T T' h h':=by
  obtain⟨T',o,t,u,v,A,y⟩:=ZDV hm.lt g hs.lt;have q:∀{j:Nat} {x:HTag},T j=some x->x≠ .sk->obj h' j=obj h j:=λ{j x} a b=>v j x a b
  refine ⟨T',⟨(q hm.me (by simp)).trans hm.c,o _ _ hm.me,hm.se,hm.it.congr λb s _ _=>q (hm.ib b s) (by simp),λb e=>o _ _ (hm.ib b e),hm.l.congr (λj i=>o _ _ i) (λj i=>u j (by rw[i];exact λe=>by cases e)) (λj i=>q i (by simp)),hm.m.congr (q hm.mt (by simp)),o _ _ hm.mt,
    λk z=>by
     obtain⟨a,b,c,d⟩:=hm.w k z
     exact⟨a,b.congr (q c (by simp)) (q d (by simp)),o _ _ c,o _ _ d⟩,hm.no,hs.congr (λj i=>(t j).2 i) (λj i=>hs.lt j ((t j).1 i)) λ_ _=>rfl,u⟩,y⟩
theorem HtM.last(hm:HtM h hb T H D si S wm kb f n wt sl lb){at_:Int}(c:obj h' hb=some (htO {H with last:=at_} si S wm kb))(u:Upd (· = hb) h h'):HtM h' hb T {H with last:=at_} D si S wm kb f n wt sl lb:=by
  have q:∀{j:Nat} {x:HTag},T j=some x->x≠ .me->obj h' j=obj h j:=λ{j x} a b=>Zal u (hm.lw a) λe=>b (by rw[e,hm.me]at a;exact(Option.some.inj a).symm);have i:∀j,T j≠none->j<sz h':=λj g=>Aqq (hm.lt j g) u.size
  exact ⟨c,hm.me,hm.se,hm.it.congr λb o _ _=>q (hm.ib b o) (by simp),hm.ib,hm.l.congr (λ_ h=>h) (λj g=>i j (by rw[g];exact λe=>by cases e)) (λj g=>q g (by simp)),hm.m.congr (q hm.mt (by simp)),hm.mt,
    λk p=>by
     obtain⟨a,b,c,d⟩:=hm.w k p
     exact⟨a,b.congr (q c (by simp)) (q d (by simp)),c,d⟩,hm.no,hm.s.congr (λ_ h=>h) (λj g=>i j (by rw[g];exact λe=>by cases e)) (λj g=>q g (by simp)),i⟩
open Classical in
noncomputable def ZwD(ws:ByteArray->Win)(v:ByteArray)(w:Win):ByteArray->Win:=λk=>if k=v then w else ws k
open Classical in
theorem HtM.win(hm:HtM h hb T H D si S wm kb f n wt sl lb){v:ByteArray}{w:Win}(hv:D v)(hw:Zll (Zgt H.se) h' (wt v).1 (wt v).2 w)(u:Upd (λj=>j=(wt v).1\/j=(wt v).2) h h'):HtM h' hb T {H with ws:=ZwD H.ws v w} D si S wm kb f n wt sl lb:=by
  obtain⟨_,_,t1,t2⟩:=hm.w v hv
  have q:∀{j:Nat} {x:HTag},T j=some x->x≠ .win v->obj h' j=obj h j:=λ{j x} a b=>Zal u (hm.lw a) λe=>b (by
    rcases e with e|e
    ·rw[e,t1]at a;exact(Option.some.inj a).symm
    ·rw[e,t2]at a;exact(Option.some.inj a).symm)
  have i:∀j,T j≠none->j<sz h':=λj g=>Aqq (hm.lt j g) u.size
  exact ⟨(q hm.me (by simp)).trans hm.c,hm.me,hm.se,hm.it.congr λb o _ _=>q (hm.ib b o) (by simp),hm.ib,hm.l.congr (λ_ h=>h) (λj g=>i j (by rw[g];exact λe=>by cases e)) (λj g=>q g (by simp)),hm.m.congr (q hm.mt (by simp)),hm.mt,
    λk p=>by
     obtain⟨a,b,c,d⟩:=hm.w k p
     by_cases e:k=v
     ·subst e;exact⟨a,by show Zll _ _ _ _ (ZwD _ _ _ _);unfold ZwD;rw[if_pos rfl];exact hw,c,d⟩
     ·refine ⟨a,?_,c,d⟩;show Zll _ _ _ _ (ZwD _ _ _ _);unfold ZwD;rw[if_neg e]
      exact b.congr (q c (by simpa using e)) (q d (by simpa using e)),hm.no,hm.s.congr (λ_ h=>h) (λj g=>i j (by rw[g];exact λe=>by cases e)) (λj g=>q g (by simp)),i⟩
theorem HtM.del(hm:HtM h hb T H D si S wm kb f n wt sl lb){v:ByteArray}{r:Nat}(m:Zm9 h' wm (ZrJ f v none) r)(u:Upd (· = wm) h h'):HtM h' hb T H (λk=>D k/\k≠v) si S wm kb (ZrJ f v none) r wt sl lb:=by
  have q:∀{j:Nat} {x:HTag},T j=some x->x≠ .map->obj h' j=obj h j:=λ{j x} a b=>Zal u (hm.lw a) λe=>b (by rw[e,hm.mt]at a;exact(Option.some.inj a).symm);have i:∀j,T j≠none->j<sz h':=λj g=>Aqq (hm.lt j g) u.size
  exact ⟨(q hm.me (by simp)).trans hm.c,hm.me,hm.se,hm.it.congr λb p _ _=>q (hm.ib b p) (by simp),hm.ib,hm.l.congr (λ_ h=>h) (λj g=>i j (by rw[g];exact λe=>by cases e)) (λj g=>q g (by simp)),m,hm.mt,
    λk o=>by
     obtain⟨a,b,c,d⟩:=hm.w k o.1
     exact⟨(Zh4 _ _ o.2).trans a,b.congr (q c (by simp)) (q d (by simp)),c,d⟩,λk o=>by
     by_cases e:k=v
     ·subst e;exact ZjN _ _ _
     ·exact(Zh4 _ _ e).trans (hm.no k λt=>o ⟨t,e⟩),hm.s.congr (λ_ h=>h) (λj g=>i j (by rw[g];exact λe=>by cases e)) (λj g=>q g (by simp)),i⟩
open Classical in
theorem HtM.put(hm:HtM h hb T H D si S wm kb f n wt sl lb){v:ByteArray}{z wb mb:Nat}{w:Win}(hv:¬D v)(m:Zm9 h' wm (ZrJ f v (some (pN wb))) z)(u:Upd (· = wm) h h')(hw:Zll (Zgt H.se) h' wb mb w)(hT:T wb=none/\T mb=none)(base:Nat)(A:base<=wb/\base<=mb)(B:wb<sz h/\mb<sz h):
    ∃T' wt',HtM h' hb T' {H with ws:=ZwD H.ws v w} (λk=>D k\/k=v) si S wm kb (ZrJ f v (some (pN wb))) z wt' sl lb/\Upd (λj=>T j≠none) h h'/\(∀j,T j≠none->T' j≠none)/\(∀j,T' j≠none->T j≠none\/base<=j):=by
  have some_:∀{j:Nat} {x:HTag},T j=some x->T j≠none:=λe r=>by rw[e]at r;cases r
  have q:∀{j:Nat} {x:HTag},T j=some x->x≠ .map->obj h' j=obj h j:=λ{j x} a b=>Zal u (hm.lw a) λe=>b (by rw[e,hm.mt]at a;exact(Option.some.inj a).symm);have hz:sz h<=sz h':=u.size
  have o:∀j x,T j=some x->(if j=wb\/j=mb then some (.win v)else T j)=some x:=λj x i=>by
    rw[if_neg]
    ·exact i
    ·rintro(e|e)
     ·rw[e,hT.1]at i;cases i
     ·rw[e,hT.2]at i;cases i
  have E:∀j x,x≠ .win v->(if j=wb\/j=mb then some (.win v)else T j)=some x->T j=some x:=λj x C i=>by
    split at i
    ·exact(C (Option.some.inj i).symm).elim
    ·exact i
  have p:∀j,(if j=wb\/j=mb then some (.win v)else T j)≠none->j<sz h':=λj g=>by
    split at g
    ·rename_i e
     rcases e with e|e<;>omega
    ·have:=hm.lt j g;omega
  refine⟨λj=>if j=wb\/j=mb then some (.win v)else T j,λk=>if k=v then(wb,mb)else wt k,⟨(q hm.me (by simp)).trans hm.c,o _ _ hm.me,hm.se,hm.it.congr λb y _ _=>q (hm.ib b y) (by simp),λb e=>o _ _ (hm.ib b e),hm.l.congr (λj g=>o _ _ g) (λj g=>p j (by rw[g];exact λe=>by cases e)) (λj g=>q g (by simp)),m,o _ _ hm.mt,λk t=>?_,λk t=>?_,hm.s.congr (λj g=>o _ _ g) (λj g=>p j (by rw[g];exact λe=>by cases e)) (λj g=>q g (by simp)),p⟩,?_,λj g=>?_,λj g=>?_⟩
  ·by_cases e:k=v
   ·subst e;dsimp only;rw[if_pos rfl];refine⟨ZjN _ _ _,?_,if_pos (.inl rfl),if_pos (.inr rfl)⟩;show Zll _ _ _ _ (ZwD _ _ _ _);unfold ZwD;rw[if_pos rfl];exact hw
   ·obtain⟨a,b,c,d⟩:=hm.w k (t.resolve_right e);dsimp only;rw[if_neg e];refine⟨(Zh4 _ _ e).trans a,?_,o _ _ c,o _ _ d⟩;show Zll _ _ _ _ (ZwD _ _ _ _);unfold ZwD;rw[if_neg e];exact b.congr (q c (by simp)) (q d (by simp))
  ·have e:k≠v:=λe=>t (.inr e);exact(Zh4 _ _ e).trans (hm.no k λr=>t (.inl r))
  ·exact u.mono λj _ g=>by rw[g];exact some_ hm.mt
  ·cases i:T j with
   |none=>exact(g i).elim
   | some x=>
     dsimp only;rw[o j x i];exact λe=>by cases e
  ·dsimp only at g;split at g
   ·rename_i e;right
    rcases e with e|e<;>omega
   ·exact .inl g
end
end Go.Proofs.YtonbfpnngkemiaaGreat
namespace Go.Proofs.YtonbfpnngkemiaaGreat
open Go Go.Fw
open Nat renaming reduceAdd->Nqa,reduceLT->Nqb,reduceLeDiff->Nqc,reduceEqDiff->Nqd,reduceMul->Nqe
theorem Zpc{nm:ByteArray}{ix cn se:Int}{a:Sl}(hs:1<=se/\se<=60){K:Int->Zf->Prop}{h:Zf}(b:∀h',Ext h h'->K (se*1000000) h'):Zcj (nm,ix,cn,se,a,()) K h:=by unfold Zcj ZgO;refine ZF λh1 c1 c d=>Za (rI (n:=se) (Zb c1 rfl) (Za ?_));rw[Yw (by omega) (by omega)];exact b h1 c
theorem GrO.up{O O':Nat->Prop}{h h1 h':Zf}(e:Ext h h1)(g:GrO O O' h1 h'):GrO O O' h h':=⟨(e.upd _).trans g.upd,g.keep,λk a=>(g.new k a).imp id λb=>Aqp e.size b⟩
theorem GrO.upd_{O:Nat->Prop}{h h':Zf}(u:Upd O h h'):GrO O O h h':=⟨u,λ_ h=>h,λ_ h=>.inl h⟩
theorem Rt.used{n:Int}(h0:0<=n)(h1:n<=4611686018427387904):Rt (n,0,0,0,0,0,()):=⟨⟨h0,h1⟩,by simp,by simp,by simp,by simp,by simp,.inr rfl⟩
theorem Zv9{se:Int}(hs:1<=se/\se<=60){h:Zf}{K:Option Addr->Int->Zf->Prop}(a:∀h',Zll (Zgt se) h' (sz h+1) (sz h) ⟨0,λ_=>z6⟩->Ext h h'->sz h'=sz h+2->K (some ⟨sz h+1,0,none⟩) 0 h'):ZcV (se*1000000) 10 K h:=by have:=ZiT (k:=Zgt se) (by rw[Zmo hs,ZpI,show se*1000000=se*100000*10 by omega];exact Int.mul_tmod_left _ _) (by rw[Zmo hs];omega) a;rwa[Zmo hs,ZpI]at this
theorem ZEw(H:HtS)(at_:Int)(v:ByteArray)(hv:v.size<=64):∃H':HtS,v∈H'.ks/\H'.last=H.last/\∀{h:Zf} {F:Nat} {T:Nat->Option HTag} {K:Zf->Prop},HtR h F T H->(∀h' T',HtR h' F T' H'->GrT T T' h h'->K h')->Zd8 (some ⟨F,0,none⟩) at_ v K h:=by
  obtain⟨p,there,ht,D,R⟩:=ZFh H.ks v
  by_cases L:v∈H.ks
  ·have:there=true:=ht.2 L
   subst this;refine⟨{H with ks:=p},(D v).2 L,rfl,λ{h F T K} hw G=>?_⟩;obtain⟨X,S,M,kb,f,n,wt,sl,lb,hm⟩:=hw.ex;unfold Zd8 Zgg;refine Zi (rP (Zb hm.c rfl) (R hm.l λh1 l1 u1 z1=>Za (Zd (Zm rfl ?_))));obtain⟨T',B,g'⟩:=hm.lru l1 (GrO.upd_ u1) λj t=>by have:=hm.lw t;omega
   exact G h1 T' ⟨⟨X,S,M,kb,f,n,wt,sl,lb,{B with w:=λk C=>B.w k ((D k).1 C),no:=λk C=>B.no k λu=>C ((D k).2 u)}⟩⟩ g'
  have:there=false:=by
    cases u:there with
    |false=>rfl
    |true=>exact(L (ht.1 u)).elim
  subst this;have I:v∉p:=λu=>L ((D v).1 u);obtain⟨n,hn⟩:=Zxb {H with ks:=p} (· ∈ H.ks) at_ v;let w1:Win:=if YC (0:Int) at_=0 then(⟨0,λ_=>z6⟩:Win).add (Zgt H.se) at_ (n,0,0,0,0,0,())else⟨0,λ_=>z6⟩
  refine⟨{H with ks:=(if(p.length:Int)=H.most then p.tail else p)++[v],ws:=ZwD H.ws v w1},by simp,rfl,λ{h F T K} hw G=>?_⟩;obtain⟨X,S,M,kb,f,m,wt,sl,lb,hm⟩:=hw.ex;unfold Zd8 Zgg;refine Zi (rP (Zb hm.c rfl) (R hm.l λh1 l1 u1 z1=>Za (Zd (Zh rfl ?_))));obtain⟨T1,z,g1⟩:=hm.lru l1 (GrO.upd_ u1) λj t=>by have:=hm.lw t;omega
  refine Zi (rS (Zb z.c rfl) (rI (Zb z.c rfl) (rI (Zb z.c rfl) (rI (Zb z.c rfl) (rL (Zb z.c rfl) (Zpc hm.se λy e2=>Zv9 hm.se λh3 w3 e3 z3=>Za ?_))))));have aw:=(z.ext e2).ext e3;have b2:sz h1<=sz y:=e2.size;refine hn ⟨⟨X,S,M,kb,f,m,wt,sl,lb,aw⟩⟩ hv λh4 e4 n0 n1=>ZF λh5 c5 e5 z5=>?_;have Y:=e4.trans e5;have w5:=w3.congr (ZQ Y (Zp w3.cells)) (ZQ Y w3.mlt);have b3:sz h3=sz y+2:=z3;have b4:sz h3<=h4.size:=e4.size;have b5:sz h5=h4.size+1:=z5;refine Zna w5 (x:=(n,0,0,0,0,0,())) (Rt.used n0 n1) (ZkO c5 rfl) (λb F=>?_) λZ w6 u6=>?_
  ·simp[Sl.blk]at F;omega
  have ai:Ext h1 Z:=(e2.trans (e3.trans Y)).then u6 λk G=>by
    have b9:h1.size<=sz y:=e2.size
    rcases G with e|e<;>omega
  have i:=z.ext ai;have b6:sz h5<=sz Z:=u6.size;have aa:Zll (Zgt H.se) Z (sz y+1) (sz y) w1:=w6;have b1:sz h1=sz h:=z1
  have fin:∀{A:Zf} {r:Nat->Option HTag} {f7:ByteArray->Option Value} {m7:Nat} {o:List ByteArray} {U:ByteArray->Prop},HtM A F r {H with ks:=o++[v]} U X S M kb f7 m7 wt sl lb->Zll (Zgt H.se) A (sz y+1) (sz y) w1->r (sz y+1)=none/\r (sz y)=none->GrT T r h A->(∀k,U k↔k∈o)->v∉o->o=(if(p.length:Int)=H.most then p.tail else p)->
      Ze (some ⟨F,0,none⟩) λax ay=>ldM A ax (ay+6) λt40=>Zj0 .string A t40 (.string v) (.pointer (some ⟨sz y+1,0,none⟩)) λaz=>K az:=by
    intro A r f7 m7 o U N w7 t7 O hD aA aB;refine Zi (rM (Zb N.c rfl) (N.m.put v _ λh8 m8 u8 z8=>?_));have J:∀j,r j=none->j≠M:=λj t e=>by rw[e,N.mt]at t;cases t
    have w8:=w7.congr (Zal u8 (Zp w7.cells) (J _ t7.1)) (Zal u8 w7.mlt (J _ t7.2));obtain⟨T',wt',B,q1,q2,q3⟩:=N.put (λu=>aA ((hD v).1 u)) m8 u8 w8 t7 (sz h) ⟨by omega,by omega⟩ ⟨Zp w7.cells,w7.mlt⟩;refine G h8 T' ⟨⟨X,S,M,kb,ZrJ f7 v (some (pN (sz y+1))),if(f7 v).isSome then m7 else m7+1,wt',sl,lb,?_⟩⟩ ⟨(O.put q1 λk G=>G).upd,λj t=>q2 j (O.keep j t),λj t=>(q3 j t).elim (O.new j) .inr⟩;rw[<-aB];have iff:∀k,k∈o++[v]↔U k\/k=v:=λk=>by rw[Axx,Axs,hD k]
    exact {B with w:=λk C=>B.w k ((iff k).1 C),no:=λk C=>B.no k λu=>C ((iff k).2 u)}
  have kd:p.Nodup:=by
    obtain⟨nd,mb,pv,nx,f9,e9,hM⟩:=l1.ex;rw[<-e9];exact hM.kd
  refine ZoF (λ(_:Unit) V=>∃(r:Nat->Option HTag) (f7:ByteArray->Option Value) (m7:Nat) (o:List ByteArray) (U:ByteArray->Prop),HtM V F r {H with ks:=o++[v]} U X S M kb f7 m7 wt sl lb/\Zll (Zgt H.se) V (sz y+1) (sz y) w1/\(r (sz y+1)=none/\r (sz y)=none)/\GrT T r h V/\(∀k,U k↔k∈o)/\v∉o/\o=(if(p.length:Int)=H.most then p.tail else p)) ?_ λQ hQ=>?_
  ·rintro _ V ⟨r,f7,m7,o,U,P,a2,a3,a4,a5,a6,a7⟩;exact fin P a2 a3 a4 a5 a6 a7
  have step:∀{A:Zf} {O7:Nat->Prop} {o:List ByteArray},Zt2 A O7 S H.most (o++[v])->GrO (λj=>T1 j=some .lru) O7 Z A->(∀j,O7 j->j<sz A)->∃r,HtM A F r {H with ks:=o++[v]} (· ∈ H.ks) X S M kb f m wt sl lb/\Zll (Zgt H.se) A (sz y+1) (sz y) w1/\(r (sz y+1)=none/\r (sz y)=none)/\GrT T r h A:=by
    intro A O7 o l7 O E;obtain⟨r,W,k2,k3,k4,k5,k6⟩:=ZDV i.lt O E;have q:∀{j:Nat} {x:HTag},T1 j=some x->x≠ .lru->obj A j=obj Z j:=λ{j x} a b=>k4 j x a b
    have nn:∀j,sz h1<=j->j<sz Z->T1 j=none:=λj a b=>by
      cases V:T1 j with
      |none=>rfl
      |some x=>have:=z.lt j (by rw[V];exact λe=>by cases e);omega
    have n7:∀j,sz h1<=j->j<sz Z->r j=none:=λj a b=>by
      cases V:r j with
      |none=>rfl
      | some x=>
        rcases k6.new j (by rw[V];exact λe=>by cases e)with u|u
        ·exact(u (nn j a b)).elim
        ·omega
    have af:=Zp aa.cells;have ag:=aa.mlt
    refine ⟨r,⟨(q i.me (by simp)).trans i.c,W _ _ i.me,i.se,i.it.congr λb aF _ _=>q (i.ib b aF) (by simp),λb e=>W _ _ (i.ib b e),l7.congr (λj t=>(k2 j).2 t) (λj t=>E j ((k2 j).1 t)) (λ_ _=>rfl),i.m.congr (q i.mt (by simp)),W _ _ i.mt,
      λk G=>by
       obtain⟨a,b,c,d⟩:=i.w k G
       exact⟨a,b.congr (q c (by simp)) (q d (by simp)),W _ _ c,W _ _ d⟩,i.no,i.s.congr (λj t=>W _ _ t) (λj t=>k3 j (by rw[t];exact λe=>by cases e)) (λj t=>q t (by simp)),k3⟩,aa.congr (Zal k6.upd af λu=>u (nn _ (by omega) af)) (Zal k6.upd ag λu=>u (nn _ (by omega) ag)),⟨n7 _ (by omega) af,n7 _ (by omega) ag⟩,?_⟩
    exact g1.trans (k6.up ai)
  refine Zi (rP (Zb i.c rfl) (Zy9 i.l I (λaG A O7 l7 O E=>?_) λg tl hg heq A O7 l7 O E=>?_))
  ·obtain⟨r,P,a2,a3,a4⟩:=step l7 O E;exact Zd (Za (Zh rfl (hQ _ _ ⟨r,f,m,p,_,P,a2,a3,a4,λk=>(D k).symm,I,by rw[if_neg aG]⟩)))
  ·subst hg
   obtain⟨r,P,a2,a3,a4⟩:=step l7 O E;refine Zd (Za (Zm rfl (Zi (rM (Zb P.c rfl) (P.m.del g λh8 m8 u8 z8=>?_)))));have J:∀j,r j=none->j≠M:=λj t e=>by rw[e,P.mt]at t;cases t
   refine hQ _ _ ⟨r,_,_,tl,_,P.del m8 u8,a2.congr (Zal u8 (Zp a2.cells) (J _ a3.1)) (Zal u8 a2.mlt (J _ a3.2)),a3,a4.put u8 (λk G=>by rw[G,P.mt];exact λe=>by cases e),λk=>?_,λu=>I (Aws _ u),by rw[if_pos heq];rfl⟩;obtain⟨W,k2⟩:=Ayp.1 kd;rw[<-D k,Awr];constructor
   ·rintro⟨u,h8⟩;exact u.resolve_left h8
   ·intro u;exact⟨.inr u,λe=>W (e▸u)⟩
theorem Zu8(H:HtS)(at_:Int)(v:ByteArray)(c:Int):∃(ok:Bool) (e:Int) (Q:HtS),∀{h:Zf} {i:Nat} {T:Nat->Option HTag} {K:Bool->Int->Zf->Prop},HtR h i T H->(∀h' T',HtR h' i T' Q->GrT T T' h h'->K ok e h')->Zcp (some ⟨i,0,none⟩) at_ v c K h:=by
  obtain⟨ok,e,he,a⟩:=Zrq H at_ v c
  by_cases q:e=0
  case neg=>
    refine⟨false,e,H,λ{h i T K} hw d=>?_⟩;unfold Zcp Zd9;exact Za (a hw λh1 j=>Zd (Za (Zm (by simpa using q) (Za (d h1 T (hw.ext j) (GrO.refl.ext j))))))
  subst q;obtain⟨hc,R⟩:=he rfl;have hv:=(Zyk R).2.2
  cases ok with
  | false=>
    refine⟨false,0,{H with last:=at_},λ{h i T K} hw d=>?_⟩;unfold Zcp Zd9;refine Za (a hw λh1 j=>Zd (Za (Zh rfl ?_)));obtain⟨r,S,t,kb,f,m,wt,sl,lb,hm⟩:=(hw.ext j).ex;refine Zi (ZcS hm.c (show 0+8<9 by decide) rfl λG A u U=>Zh rfl (Zd (Za (d G T ⟨⟨r,S,t,kb,f,m,wt,sl,lb,hm.last A u⟩⟩ ?_))));exact(GrO.refl.ext j).put u λk d=>by rw[d,hm.me];exact λe=>by cases e
  | true=>
    obtain⟨p,l,V,n⟩:=ZEw {H with last:=at_} at_ v hv;let I:HtS:={p with ws:=ZwD p.ws v (if YC (p.ws v).last at_=0 then(p.ws v).add (Zgt p.se) at_ (c,0,0,0,0,0,())else p.ws v)};refine⟨true,0,{I with sk:=I.sk.took at_ c v},λ{h i T K} hw d=>?_⟩;unfold Zcp Zd9;refine Za (a hw λh1 j=>Zd (Za (Zh rfl ?_)));obtain⟨r,S,t,kb,f,m,wt,sl,lb,hm⟩:=(hw.ext j).ex;refine Zi (ZcS hm.c (show 0+8<9 by decide) rfl λG A u U=>Zm rfl (n ⟨⟨r,S,t,kb,f,m,wt,sl,lb,hm.last A u⟩⟩ λh3 J B L=>?_));have C:GrT T J h h3:=((GrO.refl.ext j).put u λk d=>by rw[d,hm.me];exact λe=>by cases e).trans L;clear L;obtain⟨r,S,t,kb,f,m,wt,sl,lb,g⟩:=B.ex;obtain⟨f3,M,t31,t32⟩:=g.w v l;refine Zi (rM (Zb g.c rfl) (g.m.get v ?_));rw[f3];refine⟨some ⟨(wt v).1,0,none⟩,rfl,ZF λh4 W N z4=>?_⟩;have y:=g.ext N;obtain⟨_,X,_,_⟩:=y.w v l;refine Zna X (x:=(c,0,0,0,0,0,())) (Rt.used (by omega) (by omega)) (ZkO W rfl) (λb i=>?_) λY Z O=>?_
    ·simp[Sl.blk]at i;have b1:=Zp M.cells;have b2:=M.mlt;have b3:sz h3=h3.size:=rfl;omega
    have o:=y.win l Z O
    have g5:GrT T J h Y:=(C.ext N).put O λk d=>by
      rcases d with e|e
      ·rw[e,t31];exact λe=>by cases e
      ·rw[e,t32];exact λe=>by cases e
    refine Zi (rP (Zb o.c rfl) (ZF λh6 c6 P z6=>?_));have z:=o.ext P;refine Zxy z.s (x:=c) (by omega) (by omega) c6 (λh9=>?_) λh7 O7 D E s7 g7=>?_
    ·have:=o.lw h9;exact absurd this (Nat.lt_irrefl _)
    obtain⟨T7,F,g8⟩:=z.sk s7 g7;exact Zd (Za (d h7 T7 ⟨⟨r,S,t,kb,f,m,wt,D,E,F⟩⟩ ((g5.ext P).trans g8)))
abbrev S5:=Int×Int×Int×Int×Int×Unit
abbrev N7:=Int×Int×Int×Int×Int×Int×Int×Unit
theorem Zob(a b c:Int):∃w:Int×Int×Int×Unit,∀{K:Int×Int×Int×Unit->Zf->Prop} {h:Zf},(∀h',Ext h h'->K w h')->Ze4 a b c K h:=by obtain⟨p,q,_,_,h1⟩:=Zm3 a b;obtain⟨f,i,_,_,j⟩:=Zm3 q c;obtain⟨l,g,_,_,h3⟩:=Zm3 p c;refine⟨(IntKind.wrap .u64 (l+Zsu f g 0),ZsE f g 0,i,()),λ{K h} d=>?_⟩;unfold Ze4 ZhD;refine ZF λs m n z4=>h1 (Za (Za (j (Za (Za (h3 (Za (Za ⟨by decide,Za (Za (ZaN m λo e r z5=>rI (Zb e rfl) (rI (Zb e rfl) (rI (Zb e rfl) (d o (n.then r λk d=>by subst d;exact Aqo _))))))⟩))))))))
def ZCe:List Int->List Int->Int
  |x::l,y::m=>if x<y then -1 else if x>y then 1 else ZCe l m
  |_,_=>0
theorem Zwj{x y:Int}{K:Int->Zf->Prop}{h:Zf}(a:K (if x<y then -1 else if x>y then 1 else 0) h):Zbe x y K h:=by
  unfold Zbe Zdf Zej Zez;refine Za (Zd (Zd (Zd (Zd (Zh (by simp) (Zh (by simp) (Zn (λq=>Za ?_) λq=>Zn (λb=>Za ?_) λb=>Za ?_)))))))
  ·rw[if_pos q]at a;exact a
  ·rw[if_neg q,if_pos b]at a;exact a
  ·rw[if_neg q,if_neg b]at a;exact a
theorem ZsK{h:Zf}{s t:Sl}{l m:List Int}(hs:Row h s 1 (l.map (Value.int .u64)))(e:Row h t 1 (m.map (Value.int .u64)))(hl:l.length=m.length){K:Int->Zf->Prop}(b:K (ZCe l m) h):Y4 s t K h:=by
  unfold Y4 XP;have r:s.len=l.length:=by have:=hs.len;simp at this;omega
  have u:t.len=m.length:=by have:=e.len;simp at this;omega
  have f:=hs.big;have g:=hs.cap;refine Za (Zaj (λ(st:Int×Unit) j=>∃i:Nat,st=((i:Int),())/\i<=l.length/\j=h/\ZCe (l.drop i) (m.drop i)=ZCe l m) (λst _=>(l.length- st.1).toNat) ⟨0,rfl,Ayg _,rfl,rfl⟩ ?_);rintro _ j ⟨i,rfl,hi,rfl,a⟩ Q w;dsimp only;refine Zn (λq=>?_) λq=>?_
  ·have h1:l[i]?=some l[i]:=Axy (by omega)
   have k:m[i]?=some m[i]:=Axy (by omega);have d1:l.drop i=l[i]::l.drop (i+1):=Ayo (by omega);have d2:m.drop i=m[i]::m.drop (i+1):=Ayo (by omega);rw[d1,d2]at a;generalize l[i]=x at h1 a;generalize m[i]=y at k a;refine hs.idx (n:=i) (v:=Value.int .u64 x) rfl (by rw[Awy,h1];rfl) λz A _ c=>⟨x,c,Za (Za (Zh (decide_eq_false (by omega)) ?_))⟩;refine e.idx (n:=i) (v:=Value.int .u64 y) rfl (by rw[Awy,k];rfl) λB C _ d=>⟨y,d,Za (Zwj (Za ?_))⟩;have hd:ZCe (x::l.drop (i+1)) (y::m.drop (i+1))=if x<y then -1 else if x>y then 1 else ZCe (l.drop (i+1)) (m.drop (i+1)):=rfl
   rw[hd]at a
   by_cases o:x<y
   ·rw[if_pos o]at a⊢;rw[<-a]at b;exact Zm rfl (Za b)
   ·rw [if_neg o]at a⊢
    by_cases p:x>y
    ·rw[if_pos p]at a⊢;rw[<-a]at b;exact Zm rfl (Za b)
    ·rw[if_neg p]at a⊢;refine Zh rfl ?_;rw[wrS (show i<l.length by omega) (by omega)];exact w _ _ ⟨i+1,rfl,by omega,rfl,a⟩ (by show((l.length:Int)- ((i+1:Nat):Int)).toNat<((l.length:Int)- ((i:Nat):Int)).toNat;omega)
  ·have h1:l.drop i=[]:=Ayq (by omega);rw[h1]at a;rw[<-a]at b;exact Zh (decide_eq_false (by omega)) (Za b)
theorem Zmq{n:Int}{K:Int->Zf->Prop}{h:Zf}(a:K (IntKind.wrap .u64 (ZiE n 0)) h):ZhV n K h:=by unfold ZhV Zkn;exact Za (Za a)
theorem ZPJ{b:Nat}{K:Sl->Prop}(a:K ⟨some ⟨b,0,none⟩,3,3⟩):slc (some ⟨b,0,none⟩) 3 1 0 3 3 K:=⟨by decide,by decide,by decide,by decide,a⟩
theorem Zwq(threads most least:Int):∃r:Bool,∀{K:Bool->Zf->Prop} {h:Zf},(∀h',Ext h h'->K r h')->Zc3 threads most least K h:=by
  by_cases q:threads<=1
  ·refine⟨false,λ{K h} a=>?_⟩;unfold Zc3 Zfz;exact Zm (decide_eq_true q) (a h (Ext.refl _))
  obtain⟨w,hw⟩:=Zob (IntKind.wrap .u64 (ZiE threads 0)) 1000000 1;obtain⟨x,j⟩:=Zob (IntKind.wrap .u64 (ZiE most 0)) 10 (IntKind.wrap .u64 (ZiE least 0));refine⟨decide (ZCe [w.1,w.2.1,w.2.2.1] [x.1,x.2.1,x.2.2.1]>0),λ{K h} a=>?_⟩;unfold Zc3 Zfz;refine Zh (decide_eq_false q) (Zmq (hw λh1 d=>ZF λo p s B=>ZaN p λh3 e t z3=>Zmq (Zmq (j λu b=>ZF λC v f z5=>ZaN v λg y i z6=>ZPJ (ZPJ ?_)))));have z:Ext h h3:=(d.trans s).then t λk a=>by subst a;exact d.size
  have c:=Y0 (Zj (Zj e b) f) i (by have:=Zp e;have:sz h3<=u.size:=b.size;have:sz h3=sz o:=z3;omega);have A:Ext h g:=z.trans ((b.trans f).then i λk a=>by subst a;exact b.size);refine⟨(ZCe [w.1,w.2.1,w.2.2.1] [x.1,x.2.1,x.2.2.1],()),ZsK (l:=[w.1,w.2.1,w.2.2.1]) (m:=[x.1,x.2.1,x.2.2.1]) (ZBX (k:=3) (n:=1) c rfl (by decide)) (ZBX (k:=3) (n:=1) y rfl (by decide)) rfl ⟨rfl,rfl⟩,Zd (a g A)⟩
def ZmO(a b c:Int):Bool:=if c= -1 then false else decide (a>IntKind.wrap .i64 (c- b))
theorem ZiD{a b c:Int}{K:Bool->Zf->Prop}{h:Zf}(d:K (ZmO a b c) h):Ze5 a b c K h:=by
  unfold Ze5 Zjk;unfold ZmO at d;refine Zdt (λq=>Zd ?_) λq=>?_
  ·rw[if_neg q]at d;exact d
  ·rw[if_pos q]at d;exact d
def ZIz(r:S5):List Int:=[r.1,r.2.1,r.2.2.1,r.2.2.2.1,r.2.2.2.2.1]
def ZOH(r:S5):Int:=if(ZIz r).all (λn=>inB n (-1) 1099511627776)=true then 0 else 33
theorem ZrT{r:S5}{K:Int->Zf->Prop}{h:Zf}(a:∀h',Ext h h'->K (ZOH r) h'):Zbj r K h:=by
  unfold Zbj Zgc;unfold ZOH at a;refine ZF λh1 c1 f t=>Za (rI (Zb c1 rfl) (rI (Zb c1 rfl) (rI (Zb c1 rfl) (rI (Zb c1 rfl) (rI (Zb c1 rfl) (ZF λg o j u=>?_))))));have m:Row g ⟨some ⟨h1.size,0,none⟩,5,5⟩ 1 ((ZIz r).map iv):=ZBX (k:=5) (n:=1) o rfl (by decide);have hl:(ZIz r).length=5:=rfl;generalize ZIz r=l at a m hl;refine Zaj (λ(st:Int×Unit) b=>∃i:Nat,st=((i:Int),())/\i<=5/\b=g/\(l.take i).all (λn=>inB n (-1) 1099511627776)=true) (λst _=>(5-st.1).toNat) ⟨0,rfl,by decide,rfl,rfl⟩ ?_;rintro _ b ⟨i,rfl,hi,rfl,d⟩ Q p;dsimp only;refine Zn (λq=>?_) λq=>?_
  ·have h1:l[i]?=some l[i]:=Axy (by omega);generalize l[i]=x at h1;refine m.idx (n:=i) (v:=iv x) rfl (by rw[Awy,h1];rfl) λw y _ e=>⟨x,e,Za (YU ⟨λc=>Za ?_,λc=>?_⟩)⟩
   ·have:¬(l.all (λn=>inB n (-1) 1099511627776)=true):=λs=>by
      have:=Axb.1 s x (Axo h1);rw[this]at c;cases c
    rw[if_neg this]at a;exact a b (f.trans j)
   ·rw[wrS (show i<5 by omega) (by decide)];refine p _ _ ⟨i+1,rfl,by omega,rfl,?_⟩ (by show((5:Int)- ((i+1:Nat):Int)).toNat<((5:Int)- ((i:Nat):Int)).toNat;omega);rw[Aym,h1,Ayr,d];simpa using c
  ·rw[Awd (by omega)]at d;rw[if_pos d]at a;exact Za (a b (f.trans j))
def ZOQ(w:N7):List Int:=[w.1,w.2.1,w.2.2.1,w.2.2.2.1,w.2.2.2.2.1,w.2.2.2.2.2.1,w.2.2.2.2.2.2.1]
def ZIC(n:Int):Bool:=if n<0 then true else decide (n>4611686018427387904)
theorem ZEx(x:Int):[iv x].length=1:=rfl
theorem ZO7(l:List Int):l.flatMap (λx=>[iv x])=l.map iv:=by induction l with
  |nil=>rfl
  |cons a l b=>rw[Aye,b];rfl
theorem ZqR{w:N7}{K:Bool->Zf->Prop}{h:Zf}(d:∀h',Ext h h'->K (!decide (ixV ZIC (ZOQ w)>=0)) h'):Zdr w K h:=by
  unfold Zdr Zf0 Yp Yr YA YB;refine ZF λh1 c1 e t=>rI (Zb c1 rfl) (rI (Zb c1 rfl) (rI (Zb c1 rfl) (rI (Zb c1 rfl) (rI (Zb c1 rfl) (rI (Zb c1 rfl) (rI (Zb c1 rfl) (ZF λf g j u=>?_)))))));have l:Row f ⟨some ⟨h1.size,0,none⟩,7,7⟩ 1 ((ZOQ w).flatMap λx=>[iv x]):=by rw[ZO7];exact ZBX (k:=7) (n:=1) g rfl (by decide)
  refine ZkE ZEx l (by decide) (p:=ZIC) (tst:=λQ b o h3=>ldI h3 b o .i64 λt4=>ZbZ t4 Q h3) ?_ λh3 m=>Zd (Zd (d h3 ((e.trans j).trans m)));intro i a b o r Q v he c s;refine rI (c 0 _ rfl) ?_;have:=s r he;unfold ZIC at this;unfold ZbZ Zey;refine Zn (λq=>?_) λq=>Zd ?_
  ·rw[if_pos q]at this;exact this
  ·rw[if_neg q]at this;exact this
theorem ZER(r:S5)(n:Int)(w:N7):∃b:Bool,∀{K:Bool->Zf->Prop} {h:Zf},(∀h',Ext h h'->K b h')->ZiX r n w K h:=by
  refine⟨if ZOH r=0/\n>=1/\n<=1099511627776 then !decide (ixV ZIC (ZOQ w)>=0)else false,λ{K h} c=>?_⟩;unfold ZiX Zle;refine ZF λh1 c1 g o=>ZF λp k a s=>rI (Zb (Zj c1 a) rfl) (rI (Zb (Zj c1 a) rfl) (rI (Zb (Zj c1 a) rfl) (rI (Zb (Zj c1 a) rfl) (rI (Zb (Zj c1 a) rfl) (ZrT λh3 e=>Ym (λq=>Zn (λi=>Zn (λj=>?_) λj=>?_) λi=>?_) λq=>?_)))))
  ·have d:=Zj k e;rw[if_pos ⟨q,i,j⟩]at c;exact rI (Zb d rfl) (rI (Zb d rfl) (rI (Zb d rfl) (rI (Zb d rfl) (rI (Zb d rfl) (rI (Zb d rfl) (rI (Zb d rfl) (ZqR λl m=>Zd (c l (((g.trans a).trans e).trans m)))))))))
  ·rw[if_neg λf=>j f.2.2]at c;exact c h3 ((g.trans a).trans e)
  ·rw[if_neg λf=>i f.2.1]at c;exact c h3 ((g.trans a).trans e)
  ·rw[if_neg λf=>q f.1]at c;exact c h3 ((g.trans a).trans e)
def Zyz(r:S5)(n:Int)(w:N7)(a:Bool):ByteArray:=if ZmO w.1 n r.1=true then ByteArray.mk #[113,112,115]else if ZmO w.2.1 1 r.2.1=true then ByteArray.mk #[116,104,114,101,97,100,115]else if ZmO w.2.2.1 0 r.2.2.1=true then ByteArray.mk #[114,116]
  else if ZmO w.2.2.2.1 0 r.2.2.2.1=true/\a=true then ByteArray.mk #[108,111,97,100]else if ZmO w.2.2.2.2.1 0 r.2.2.2.2.1=true then ByteArray.mk #[99,112,117]else ByteArray.mk #[]
theorem Zyp(r:S5)(n:Int)(w:N7):∃b:ByteArray,∀{K:ByteArray->Zf->Prop} {h:Zf},(∀h',Ext h h'->K b h')->Zg1 r n w K h:=by
  obtain⟨l,m⟩:=Zwq w.2.1 w.2.2.2.2.2.1 w.2.2.2.2.2.2.1;refine⟨Zyz r n w l,λ{K h} y=>?_⟩;unfold Zg1 Zjj;refine ZF λh1 c1 z B=>ZF λs e t C=>?_;have d:=Zj c1 t;have fin:∀{a:Zf} {b:ByteArray},Ext s a->Zyz r n w l=b->K b a:=λ{a b} g A=>A▸y _ ((z.trans t).trans g);have c:∀{b:Bool},b=false->¬b=true:=λa u=>by rw[a]at u;cases u
  have tail:∀{a:Zf},Ext s a->(Zyz r n w l=if ZmO w.2.2.2.2.1 0 r.2.2.2.2.1=true then ByteArray.mk #[99,112,117]else ByteArray.mk #[])->ldI a h1.size (0+4) .i64 λt28=>ldI a h.size (0+4) .i64 λt29=>Ze5 t28 0 t29 (λt30 j=>Zq t30 λt32=>Zk t32 (K (ByteArray.mk #[99,112,117]) j) (K (ByteArray.mk #[]) j)) a:=
    λ{a} g v=>rI (Zb (Zj e g) rfl) (rI (Zb (Zj d g) rfl) (ZiD (Zd ⟨λq=>fin g (v.trans (if_pos q)),λq=>fin g (v.trans (if_neg (c q)))⟩)))
  refine rI (Zb e rfl) (rI (Zb d rfl) (ZiD (Zd ⟨λf=>fin (Ext.refl _) (if_pos f),λf=>?_⟩)));refine rI (Zb e rfl) (rI (Zb d rfl) (ZiD (Zd ⟨λi=>fin (Ext.refl _) ((if_neg (c f)).trans (if_pos i)),λi=>?_⟩)));refine rI (Zb e rfl) (rI (Zb d rfl) (ZiD (Zd ⟨λk=>fin (Ext.refl _) ((if_neg (c f)).trans ((if_neg (c i)).trans (if_pos k))),λk=>?_⟩)));refine rI (Zb e rfl) (rI (Zb d rfl) (ZiD ⟨λo=>?_,λo=>tail (Ext.refl _) ((if_neg (c f)).trans ((if_neg (c i)).trans ((if_neg (c k)).trans (if_neg λa=>c o a.1))))⟩));refine rI (Zb e rfl) (rI (Zb e rfl) (rI (Zb e rfl) (m λh3 x=>Zd ⟨λp=>fin x ((if_neg (c f)).trans ((if_neg (c i)).trans ((if_neg (c k)).trans (if_pos ⟨o,p⟩)))),λp=>tail x ((if_neg (c f)).trans ((if_neg (c i)).trans ((if_neg (c k)).trans (if_neg λa=>c p a.2))))⟩)))
theorem Zp9(r:S5)(n:Int)(w:N7):∃b:Bool,∀{K:Bool->Zf->Prop} {h:Zf},(∀h',Ext h h'->K b h')->Zga r n w K h:=by
  obtain⟨j,l⟩:=ZER r n w;obtain⟨fd,m⟩:=Zyp r n w
  have field:∃b:ByteArray,∀{K:ByteArray->Zf->Prop} {h:Zf},(∀h',Ext h h'->K b h')->Zg2 r n w K h:=by
    refine⟨if j=true then fd else ByteArray.mk #[102,111,114,109],λ{K h} f=>?_⟩;unfold Zg2 Zjl;refine ZF λh1 c1 k p=>ZF λs c g t=>?_;have a:=Zj c1 g;refine rI (Zb a rfl) (rI (Zb a rfl) (rI (Zb a rfl) (rI (Zb a rfl) (rI (Zb a rfl) (rI (Zb c rfl) (rI (Zb c rfl) (rI (Zb c rfl) (rI (Zb c rfl) (rI (Zb c rfl) (rI (Zb c rfl) (rI (Zb c rfl) (l λh3 i=>⟨λq=>?_,λq=>?_⟩))))))))))))
    ·have o:¬j=true:=λu=>by rw[u]at q;cases q
     rw[if_neg o]at f;exact f h3 ((k.trans g).trans i)
    ·have o:j=true:=by cases j<;>simp_all
     rw[if_pos o]at f;have d:=Zj a i;have e:=Zj c i;exact rI (Zb d rfl) (rI (Zb d rfl) (rI (Zb d rfl) (rI (Zb d rfl) (rI (Zb d rfl) (rI (Zb e rfl) (rI (Zb e rfl) (rI (Zb e rfl) (rI (Zb e rfl) (rI (Zb e rfl) (rI (Zb e rfl) (rI (Zb e rfl) (m λv x=>f v (((k.trans g).trans i).trans x)))))))))))))
  obtain⟨b,y⟩:=field;refine⟨Z2 b (ByteArray.mk #[]),λ{K h} f=>?_⟩;unfold Zga Zio;refine ZF λh1 c1 k p=>ZF λs c g t=>?_;have a:=Zj c1 g;exact rI (Zb a rfl) (rI (Zb a rfl) (rI (Zb a rfl) (rI (Zb a rfl) (rI (Zb a rfl) (rI (Zb c rfl) (rI (Zb c rfl) (rI (Zb c rfl) (rI (Zb c rfl) (rI (Zb c rfl) (rI (Zb c rfl) (rI (Zb c rfl) (y λh3 i=>Zd (f h3 ((k.trans g).trans i))))))))))))))
end Go.Proofs.YtonbfpnngkemiaaGreat
