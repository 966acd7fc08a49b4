/- A sketch of any width, in plain words and in memory; what is asked of it. -/
import Derived.Test.YtonbfpnngkemiaaGreatPa11
set_option linter.unusedVariables false
set_option linter.unusedSimpArgs false
namespace Go.Proofs.YtonbfpnngkemiaaGreat
open Go Go.Fw
open Nat renaming reduceAdd->Nqa,reduceLT->Nqb,reduceLeDiff->Nqc,reduceEqDiff->Nqd,reduceMul->Nqe
theorem Own.ptr_{h:Zf}{base:Nat}{s:Sl}{size:Nat}{vs:List Value}(ho:Own h base s size vs){o:Nat}(hl:o<vs.length):∃b,s.ptr=some ⟨b,0,none⟩/\s.blk=some b:=by
  rcases ho.at_ with⟨_,h0⟩ |⟨b,c,e,a,_⟩
  ·have h1:=ho.cap
   have d:=ho.len;have:s.len=0:=by omega
   rw[this,Aqs]at d;omega
  ·exact⟨b,a,by simp[Sl.blk,a]⟩
theorem Y2{α:Type}{g:α->List Value}{n:Nat}(b:∀a,(g a).length=n){h:Zf}{s:Sl}{l:List α}(c:Row h s n (l.flatMap g))(d:0<n):s.len=l.length:=by have hlen:=c.len;rw[YN b]at hlen;exact(Ayf d hlen).symm
theorem Zsl{α:Type}{g:α->List Value}{n:Nat}(b:∀a,(g a).length=n):∀(l:List α) (i:Nat) (a:α),i<l.length->
    (l.set i a).flatMap g=(l.flatMap g).take (i*n)++g a++(l.flatMap g).drop (i*n+n)
  |[],i,a,h=>by simp at h
  | x::l,0,a,_=>by
    rw[List.set_cons_zero,Aye,Aye,Aqs,List.take_zero,Ayj,Awb,<-b x,List.drop_left]
  | x::l,i+1,a,h=>by
    rw[List.set_cons_succ,Aye,Aye,Zsl b l i a (by simpa using h)];have c:(i+1)*n=(g x).length+i*n:=by rw[b,Aww];omega
    rw[c,List.take_length_add_append,Aqh,List.drop_length_add_append];simp
theorem ZqK{h:Zf}{base:Nat}{s:Sl}{size:Nat}{vs:List Value}(ho:Own h base s size vs){b:Nat}(n:s.blk=some b){o:Nat}{ws:List Value}(hl:o+ws.length<=vs.length)(hw:ws.all Zs=true){K:Zf->Prop}
    (q:∀h',Own h' base s size (vs.take o++ws++vs.drop (o+ws.length))->Upd (λk=>s.blk=some k) h h'->sz h'=sz h->K h'):h.free b o ws.length/\ws.all Zs=true/\K (h.puts b o ws):=by
  have hlen:=ho.len;have g:=ho.cap
  rcases ho.at_ with⟨p,_⟩ |⟨x,c,e,p,r,y,t,d⟩
  ·simp[Sl.blk,p]at n
  ·have u:=n;simp[Sl.blk,p]at n;subst n
   have j:o+ws.length<=c.size:=by
     have:=congrArg List.length d;simp at this;omega
   obtain⟨z,v,l⟩:=Zme (vs:=ws) (o:=o) y j;refine⟨Zmx y j,hw,q _ ⟨?_,g,ho.big,.inr ⟨x,z,e,p,r,v,?_,?_⟩⟩ ((Upd.puts h x _ ws).mono λk _ q=>by subst q;exact u) ZiN⟩
   ·simp;omega
   ·rw[<-t,<-Awa,l];simp;omega
   ·rw [l,d]
    have w:(c.toList.take (s.len*size)).length=s.len*size:=by rw[<-d];exact hlen
    apply Awx;intro i;simp only[List.getElem?_append,Aqf,Aqg,Awe,Ays,w,Awa];have h1:min o (s.len*size)=o:=by omega
    have A:min o c.size=o:=by omega
    rw[h1,A]
    by_cases f:i<o
    ·simp[f,show i<s.len*size from by omega,show i<o+ws.length from by omega]
    ·by_cases a:i<o+ws.length
     ·rw[if_pos a,if_neg f,if_pos (by omega),if_pos a,if_neg f]
     ·rw [if_neg a]
      by_cases m:i<s.len*size
      ·rw[if_pos (by omega),if_pos m,if_neg a]
      ·rw[if_neg (by omega),if_neg m]
theorem ZAZ{α:Type}{g:α->List Value}{n:Nat}(c:∀a,(g a).length=n){h:Zf}{base:Nat}{s:Sl}{l:List α}(ho:Own h base s n (l.flatMap g)){i:Nat}(hi:i<l.length)(f:0<n){a:α}{ws:List Value}(hw:ws=g a)(d:ws.all Zs=true){m:Int}(hm:m=(i:Int)){K:Zf->Prop}
    (j:∀h',Own h' base s n ((l.set i a).flatMap g)->Upd (λk=>s.blk=some k) h h'->sz h'=sz h->K h'):Yk s.ptr s.len m n λb o=>sts h b o ws K:=by
  subst hw hm;have hl:=Y2 c ho.row f;have hle:i*n+n<=l.length*n:=by rw[<-Aww];exact Aqz _ hi
  obtain⟨b,p,q⟩:=Own.ptr_ ho (o:=i*n) (by rw[YN c];omega);refine⟨b,0,p,by omega,by omega,?_⟩;rw[Awb,Aqu];refine ZqK ho q (by rw[YN c,c];omega) d λh' e hu hz=>j h' ?_ hu hz;rw[Zsl c l i a hi];rw[c]at e;exact e
theorem Zsm{α:Type}{g:α->List Value}{n:Nat}(b:∀a,(g a).length=n):∀(l:List α) (i:Nat) (a a':α) (j:Nat) (v:Value),l[i]?=some a->j<n->g a'=(g a).set j v->(l.flatMap g).set (i*n+j) v=(l.set i a').flatMap g
  |[],i,a,a',j,v,hi,_,_=>by simp at hi
  | x::l,0,a,a',j,v,hi,c,he=>by
    simp at hi;subst hi;rw[List.set_cons_zero,Aye,Aye,List.set_append,if_pos (by rw[b];omega),Aqs,Awb,he]
  | x::l,i+1,a,a',j,v,hi,c,he=>by
    rw[List.set_cons_succ,Aye,Aye,List.set_append,if_neg (by rw[b,Aww];omega),<-Zsm b l i a a' j v (by simpa using hi) c he];congr 2;rw[b,Aww];omega
theorem Zuu{α:Type}{g:α->List Value}{n:Nat}(p:∀a,(g a).length=n){h:Zf}{base:Nat}{s:Sl}{l:List α}(ho:Own h base s n (l.flatMap g)){i:Nat}{a a':α}(hi:l[i]?=some a){j:Nat}(q:j<n){v:Value}(hv:g a'=(g a).set j v)(c:Zs v=true){b:Nat}(r:s.blk=some b){o:Nat}(e:o=i*n+j){K:Zf->Prop}
    (t:∀h',Own h' base s n ((l.set i a').flatMap g)->Upd (λk=>s.blk=some k) h h'->sz h'=sz h->K h'):st h b o v K:=by
  subst e;have f:=ZbP hi;have hle:i*n+n<=l.length*n:=by rw[<-Aww];exact Aqz _ f
  have d:=YN p l
  obtain ⟨h1,u,h3⟩:=ZqK ho r (o:=i*n+j) (ws:=[v]) (by rw[d];simp only[Aqj,Ayd];omega) (by simp[c]) (K:=K) λh' m hu hz=>t h' (by
    rw[<-Zsm p l i a a' j v hi q hv,List.set_eq_take_append_cons_drop,if_pos (by rw[d];omega)]
    simpa using m) hu hz
  exact⟨h1.1.1,h1.1.2,c,h3⟩
def pk(r c:Int):Value:=.agg #[iv r,iv c]
theorem ZxG{r c b d:Int}(h:pk r c=pk b d):r=b/\c=d:=by unfold pk at h;injection h with h;injection h with h;injection h with h1 a;injection a with a _;exact⟨ZpH h1,ZpH a⟩
structure ZH1(es:Array MapEntry)(n:Int->Int->Int):Prop where
  to_:∀e,e∈es.toList->∃r c,e.key=pk r c/\e.val=iv (n r c)
  of:∀r c,n r c≠0->∃e,e∈es.toList/\e.key=pk r c
def Zrv(h:Zf)(mb:Nat)(n:Int->Int->Int):Prop:=∃es c,h[mb]?=some (.map es c)/\MapKept.Stamped es c/\ZH1 es n
def ZwC(n:Int->Int->Int)(r c x:Int):Int->Int->Int:=λa b=>if a=r/\b=c then x else n a b
theorem ZH1.key{es:Array MapEntry}{n:Int->Int->Int}(he:ZH1 es n):∀x,x∈es.toList->ZkJ [.int .i64,.int .i64] x.key:=λx a=>by
  obtain⟨r,c,b,_⟩:=he.to_ x a;exact⟨[iv r,iv c],b,rfl,rfl,trivial⟩
theorem ZBD(r c a b:Int):ZmA [iv r,iv c] (pk a b)=(decide (r=a)&&decide (c=b)):=by unfold ZmA pk;simp only[Zfa,ZjC];cases h1:decide (r=a)<;>cases d:decide (c=b)<;>simp_all
theorem ZiC(r c:Int):∀(l:List MapEntry) (i:Nat),(∀e,e∈l->∃r c,e.key=pk r c)->
    (ZhE [iv r,iv c] l i=none/\∀e,e∈l->e.key≠pk r c)\/∃j e,ZhE [iv r,iv c] l i=some (i+j,e.val)/\l[j]?=some e/\e.key=pk r c
  |[],i,_=>.inl ⟨rfl,λe he=>by cases he⟩
  | e::l,i,h=>by
    obtain⟨g,k,a⟩:=h e (List.mem_cons_self ..);unfold ZhE;rw[a,ZBD]
    rcases Decidable.em (r=g/\c=k)with⟨h1,n⟩ |m
    ·subst h1 n;right;refine⟨0,e,?_,rfl,a⟩;simp
    ·have:(decide (r=g)&&decide (c=k))=false:=by
       rw[<-Bool.decide_and];exact decide_eq_false m
     rw[this];simp only[cond_false]
     rcases ZiC r c l (i+1) (λe he=>h e (Aws _ he))with⟨b,d⟩ |⟨j,f,b,d,o⟩
     ·refine .inl ⟨b,λf he=>?_⟩
      rcases Awr.1 he with rfl|he
      ·rw[a];intro p;obtain⟨q,s⟩:=ZxG p;exact m ⟨q.symm,s.symm⟩
      ·exact d f he
     ·exact .inr ⟨j+1,f,by rw[b];congr 2;omega,d,o⟩
theorem ZH1.find{es:Array MapEntry}{n:Int->Int->Int}(he:ZH1 es n)(r c:Int):
    (ZhE [iv r,iv c] es.toList 0=none/\n r c=0/\∀e,e∈es.toList->e.key≠pk r c)\/∃j e,ZhE [iv r,iv c] es.toList 0=some (j,e.val)/\es.toList[j]?=some e/\e.key=pk r c/\e.val=iv (n r c):=by
  rcases ZiC r c es.toList 0 (λe hm=>by obtain⟨r,c,a,_⟩:=he.to_ e hm;exact⟨r,c,a⟩)with⟨h1,b⟩ |⟨j,e,h1,b,h3⟩
  ·refine .inl ⟨h1,?_,b⟩
   rcases Decidable.em (n r c=0)with h0|h0
   ·exact h0
   ·obtain⟨e,hm,a⟩:=he.of r c h0;exact absurd a (b e hm)
  ·obtain⟨d,f,a,hv⟩:=he.to_ e (Axo b);rw[h3]at a;obtain⟨rfl,rfl⟩:=ZxG a;rw[Awb]at h1;exact .inr ⟨j,e,h1,b,h3,hv⟩
theorem Zrv.congr{h h':Zf}{mb:Nat}{n:Int->Int->Int}(hm:Zrv h mb n)(he:h'[mb]?=h[mb]?):Zrv h' mb n:=by obtain⟨es,c,a,r⟩:=hm;exact⟨es,c,he.trans a,r⟩
theorem Zrv.lt{h:Zf}{mb:Nat}{n:Int->Int->Int}(hm:Zrv h mb n):mb<sz h:=by obtain⟨es,c,a,r⟩:=hm;exact ZsC a
theorem Zrv.new{h:Zf}:Zrv (h.push (.map #[] 0)) (sz h) (λ_ _=>0):=
  ⟨#[],0,Zdi,MapKept.stamped_empty 0,λe he=>by simp at he,λr c h=>(h rfl).elim⟩
theorem Zrv.get{h:Zf}{mb:Nat}{n:Int->Int->Int}(hm:Zrv h mb n)(r c:Int){K:Int->Prop}(a:K (n r c)):ZbA [(.int .i64),(.int .i64)] h (some mb) [iv r,iv c] λx=>asI (x.getD (iv 0)) .i64 K:=by
  obtain⟨es,cl,f,hs,he⟩:=hm;refine⟨(λe=>by cases e),λb e=>?_⟩;cases e;refine⟨es,cl,f,he.key,?_⟩
  rcases he.find r c with⟨h1,d,_⟩ |⟨j,e,h1,d,h3,g⟩
  ·rw[h1];exact⟨0,rfl,by rw[d]at a;exact a⟩
  ·rw[h1];exact⟨n r c,g,a⟩
theorem Zrv.put{h:Zf}{mb:Nat}{n:Int->Int->Int}(hm:Zrv h mb n)(r c x:Int){K:Zf->Prop}
    (B:∀h',Zrv h' mb (ZwC n r c x)->Upd (· = mb) h h'->sz h'=sz h->K h'):Zh7 [(.int .i64),(.int .i64)] h (some mb) [iv r,iv c] (iv x) K:=by
  have p:=hm.lt;obtain⟨es,cl,C,hs,he⟩:=hm;refine⟨mb,es,cl,rfl,C,he.key,?_⟩
  rcases he.find r c with⟨h1,u,h3⟩ |⟨j,e,h1,u,h3,F⟩
  ·rw [h1];refine B _ ⟨es.push {key:=pk r c,val:=iv x,born:=cl},cl+1,ZjQ p,MapKept.stamped_push hs λy a=>h3 y a,λy a=>?_,λf g k=>?_⟩ Zhg (by unfold sz;simp)
   ·simp only[Array.toList_push,Axx,Axs]at a
    rcases a with a|rfl
    ·obtain⟨f,g,b,hv⟩:=he.to_ y a;refine⟨f,g,b,?_⟩;rw[hv];unfold ZwC;rw[if_neg];rintro⟨rfl,rfl⟩;exact h3 y a b
    ·exact⟨r,c,rfl,by unfold ZwC;rw[if_pos ⟨rfl,rfl⟩]⟩
   ·simp only[Array.toList_push,Axx,Axs];unfold ZwC at k;split at k
    ·rename_i v;obtain⟨rfl,rfl⟩:=v;exact⟨_,.inr rfl,rfl⟩
    ·obtain⟨y,a,d⟩:=he.of f g k;exact⟨y,.inl a,d⟩
  ·rw [h1]
   have l:es[j]?=some e:=by simpa using u
   have uniq:∀i y,es.toList[i]?=some y->y.key=pk r c->i=j:=by
     intro i y hi a;have w:=hs.2.2;have q:(es.toList.map (·.key))[i]?=some (pk r c):=by rw[Awy,hi];simp[a]
     have s:(es.toList.map (·.key))[j]?=some (pk r c):=by rw[Awy,u];simp[h3]
     obtain⟨D,q⟩:=Ayh.1 q;obtain⟨E,s⟩:=Ayh.1 s;exact(List.getElem_inj w).1 (q.trans s.symm)
   refine B _ ⟨es.modify j λy=>{y with key:=pk r c,val:=iv x},cl,ZjQ p,MapKept.stamped_modify hs j _ (λy _=>rfl) (λy _ a=>?_),λy a=>?_,λf g k=>?_⟩ Zhg (by unfold sz;simp)
   ·rw[l]at a;cases a;exact h3.symm
   ·obtain ⟨i,hi⟩:=Ayi a;rw[Axp,Aqi]at hi
    by_cases o:j=i
    ·subst o;rw[if_pos rfl,l]at hi;simp only[Aqx,Awh]at hi;subst hi;exact⟨r,c,rfl,by unfold ZwC;rw[if_pos ⟨rfl,rfl⟩]⟩
    ·rw [if_neg o]at hi
     have t:es.toList[i]?=some y:=by simpa using hi
     obtain⟨f,g,b,hv⟩:=he.to_ y (Axo t);refine⟨f,g,b,?_⟩;rw[hv];unfold ZwC;rw[if_neg];rintro⟨rfl,rfl⟩;exact o (uniq i y t b).symm
   ·unfold ZwC at k;split at k
    ·rename_i v;obtain⟨rfl,rfl⟩:=v;refine⟨{e with key:=pk f g,val:=iv x},Axo (i:=j) ?_,rfl⟩;rw[Axp,Aqi,if_pos rfl,l];rfl
    ·rename_i z;obtain⟨y,a,d⟩:=he.of f g k;obtain⟨m,hm⟩:=Ayi a;refine⟨y,Axo (i:=m) ?_,d⟩;rw[Axp,Aqi,if_neg]
     ·simpa using hm
     ·intro A;subst A;rw[u]at hm;cases hm;rw[h3]at d;obtain⟨q,s⟩:=ZxG d;exact z ⟨q.symm,s.symm⟩
theorem Zsn{α:Type}{p:α->Bool}:∀{l:List α} {i:Nat} {a:α},l[i]?=some a->p a=true->(∀(j:Nat) (b:α),j<i->l[j]?=some b->p b=false)->l.findIdx? p=some i
  |[],i,a,h,_,_=>by simp at h
  | x::l,0,a,h,c,_=>by
    simp at h;subst h;simp[List.findIdx?_cons,c]
  | x::l,i+1,a,h,c,d=>by
    have e:=d 0 x (by omega) (by simp);rw[List.findIdx?_cons,e,Zsn (l:=l) (i:=i) (by simpa using h) c λj b g f=>d (j+1) b (by omega) (by simpa using f)];rfl
theorem Zyy{α:Type}{p:α->Bool}{l:List α}(a:∀(j:Nat) (b:α),l[j]?=some b->p b=false):l.findIdx? p=none:=by rw[List.findIdx?_eq_none_iff];intro x c;obtain⟨j,d⟩:=Ayi c;exact a j x d
def ixV{α:Type}(p:α->Bool)(l:List α):Int:=match l.findIdx? p with
  |some i=>i
  |none=> -1
theorem ZqY{α:Type}{p:α->Bool}{l:List α}{i:Nat}(h:l.findIdx? p=some i):ixV p l=i:=by unfold ixV;rw[h]
theorem ZqZ{α:Type}{p:α->Bool}{l:List α}(h:l.findIdx? p=none):ixV p l= -1:=by unfold ixV;rw[h]
theorem ZkE{α:Type}{g:α->List Value}{n:Nat}(x:∀a,(g a).length=n){h:Zf}{s:Sl}{l:List α}(r:Row h s n (l.flatMap g))(y:0<n){p:α->Bool}{K:Int->Zf->Prop}
    {tst:(Bool->Zf->Prop)->Nat->Nat->Zf->Prop}
    (D:∀(i:Nat) (a:α) (b o:Nat) (c:Zf) (Q:Bool->Zf->Prop),l[i]?=some a->Ext h c->(∀j v,(g a)[j]?=some v->Zy (o+j) (obj c b)=some v)->(∀h',Ext h h'->Q (p a) h')->tst Q b o c)
    (z:∀h',Ext h h'->K (ixV p l) h'):
    Zc 0 λ_=>ZP (σ:=Int×Unit) (λE s2 h3=>
     (λ(s8:Int)=>Zk (decide (s8<(s.len:Int))) (Zc s8 λi=>Yk s.ptr s.len i n λb o=>tst (λt6 A=>Zk t6 (Zc i λt8=>K t8 A) (E (IntKind.wrap .i64 (s8+1),()) A)) b o h3) (Zc (-1) λt9=>K t9 h3)) s2.1) (0,()) h:=by
  have hl:=Y2 x r y;have B:=r.big;have C:=r.cap;refine Za (YL (λst c=>∃i:Nat,st=((i:Int),())/\i<=l.length/\Ext h c/\∀(j:Nat) (b:α),j<i->l[j]?=some b->p b=false) (λst _=>(s.len- st.1).toNat) ⟨0,rfl,by omega,Ext.refl _,λj b F=>by omega⟩ ?_);rintro _ c ⟨i,rfl,hi,he,u⟩;dsimp only;refine Zn (λq=>?_) λq=>?_
  ·obtain ⟨a,t⟩:∃a,l[i]?=some a:=⟨_,Axy (by omega)⟩;obtain⟨b,o,d,_,f,e⟩:=Zab x (r.ext he) t y;refine Za (f rfl (D i a b o c _ t he e λh' k=>?_))
   cases m:p a with
   | true=>
     refine Xh (Za ?_);rw[<-ZqY (Zsn t m u)];exact z h' k
   | false=>
     refine ZB ⟨⟨i+1,?_,by omega,k,λj b F d=>?_⟩,?_⟩
     ·rw[Yw (by omega) (by omega)];rfl
     ·rcases(show j<i\/j=i by omega)with w|rfl
      ·exact u j b w d
      ·rw[t]at d;cases d;exact m
     ·rw[Yw (by omega) (by omega)];omega
  ·refine Za ?_;rw[<-ZqZ (Zyy (p:=p) (l:=l) λj b d=>u j b (by have:=ZbP d;omega) d)];exact z c he
theorem ZBU{b c n:Nat}:ZjH (some ⟨b,0,none⟩) 0 c n=some ⟨b,0,none⟩:=by
  unfold ZjH;split
  ·rfl
  ·simp[Addr.add]
theorem Zsk{α:Type}{g:α->List Value}{n:Nat}(b:∀a,(g a).length=n):∀(l:List α) (k:Nat),(l.take k).flatMap g=(l.flatMap g).take (k*n)
  |[],k=>by simp
  |x::l,0=>by simp
  | x::l,k+1=>by
    rw[List.take_succ_cons,Aye,Aye,Zsk b l k,show(k+1)*n=(g x).length+k*n from by rw[b,Aww];omega,List.take_length_add_append]
theorem Zxp{s:Sl}{h:Zf}{base n k:Nat}{vs:List Value}(ho:Own h base s n vs):(⟨ZjH s.ptr 0 s.cap n,k,s.cap⟩:Sl).blk=s.blk:=by
  rcases ho.at_ with⟨a,h0⟩ |⟨b,c,e,a,d,i,f,g⟩
  ·show(ZjH s.ptr 0 s.cap n).map (·.block)=s.ptr.map (·.block);rw[a];unfold ZjH;split<;>rfl
  ·show(ZjH s.ptr 0 s.cap n).map (·.block)=s.ptr.map (·.block);rw[a,ZBU]
theorem Zvq{zs:List Value}(h:zs.all Zs=true)(n:Nat):(XR zs n).all Zs=true:=by unfold XR;rw[List.all_flatten,Axb];intro x a;rw[List.eq_of_mem_replicate a];exact h
theorem ZEb{α:Type}{g:α->List Value}{n:Nat}(f:∀a,(g a).length=n){h:Zf}{base:Nat}{s:Sl}{l:List α}(ho:Own h base s n (l.flatMap g))(x:0<n){k:Nat}(y:k<=l.length){m:Int}(hm:m=(k:Int)){zs:List Value}(hz:zs.length=n)(j:zs.all Zs=true){K:Sl->Zf->Prop}
    (z:∀t h',Own h' base t n ((l.take k).flatMap g)->t.blk=s.blk->Upd (λk=>s.blk=some k) h h'->sz h'=sz h->K t h'):
    slc s.ptr s.cap n m s.len s.cap λt=>ZFB t zs h λh'=>slc s.ptr s.cap n 0 m s.cap λt'=>K t' h':=by
  subst hm;have hl:=Y2 f ho.row x;have A:=ho.cap;refine⟨by omega,by omega,by omega,Int.le_refl _,?_⟩;simp only[Aqu,Int.toNat_zero,Nat.sub_zero]
  have fin:∀h',Own h' base s n ((l.take k).flatMap g++(XR zs (s.len- k)))->Upd (λk=>s.blk=some k) h h'->sz h'=sz h->slc s.ptr s.cap n 0 k s.cap λt'=>K t' h':=λh' d hu i=>by
    refine⟨Int.le_refl _,by omega,by omega,Int.le_refl _,?_⟩;simp only[Aqu,Int.toNat_zero,Nat.sub_zero];refine z _ h' ?_ (Zxp ho) hu i;refine⟨?_,by show k<=s.cap;omega,ho.big,?_⟩
    ·rw[YN f,Ays,Nat.min_eq_left y]
    ·rcases d.at_ with⟨p,h0⟩ |⟨b,c,e,p,r,u,v,w⟩
     ·left;refine⟨?_,h0⟩;show ZjH s.ptr 0 s.cap n=none;rw[p];unfold ZjH;split<;>rfl
     ·right;refine⟨b,c,e,?_,r,u,v,?_⟩
      ·show ZjH s.ptr 0 s.cap n=_;rw[p];exact ZBU
      ·have:=congrArg (List.take (k*n)) w;rw[List.take_left' (by rw[YN f,Ays,Nat.min_eq_left y]),List.take_take,Nat.min_eq_left (Aqz _ (by omega))]at this;exact this
  by_cases q:k=s.len
  ·refine .inr (.inl ⟨by simp[q],fin h ?_ (Upd.refl _ _) rfl⟩);rw[q,Nat.sub_self,Awd (by omega)];simpa[XR]using ho
  ·obtain ⟨b,p,u⟩:=Own.ptr_ ho (o:=k*n) (by rw[YN f];exact Nat.mul_lt_mul_of_pos_right (by omega) x);refine .inr (.inr ⟨b,k*n,?_,?_⟩)
   ·show ZjH s.ptr k s.cap n=_;rw[p];unfold ZjH;rw[if_neg (by omega)];simp[Addr.add];exact λh=>h.symm
   ·refine ZqK ho u ?_ (Zvq j _) λh' d hu i=>fin h' ?_ hu i
    ·rw[YN f,Zf3,hz,<-Aqy];dsimp only;exact Aqz _ (by omega)
    ·dsimp only at d;rw[Zf3,hz,<-Aqy,show k+(s.len- k)=l.length from by omega,List.drop_of_length_le (by rw[YN f];exact Aqo _),Ayt,<-Zsk f]at d;exact d
theorem ZtN{α:Type}{g:α->List Value}{n:Nat}(P:∀a,(g a).length=n){h:Zf}{base:Nat}{s:Sl}{l:List α}(ho:Own h base s n (l.flatMap g))(S:0<n){p:α->Bool}{zs:List Value}(hz:zs.length=n)(I:zs.all Zs=true)(V:∀a,(g a).all Zs=true){i0:Nat}(W:i0<l.length)
    (X:∀(j:Nat) (a:α),j<i0->l[j]?=some a->p a=false) (Y:∀a,l[i0]?=some a->p a=true) {Good:Zf->Prop} (e:∀h1 h2,Good h1->Upd (λk=>s.blk=some k) h1 h2->Good h2)
    {tst:((Bool->Nat->Zf->Prop)->Nat->Nat->Zf->Prop)} {wr:Nat->(List Value->Prop)->Zf->Prop} {K:Sl->Zf->Prop}
    (ht:∀(a:α) (b o:Nat) (f:Zf) (Q:Bool->Nat->Zf->Prop),Good f->b<sz f->(∀j v,(g a)[j]?=some v->Zy (o+j) (obj f b)=some v)->
      (∀h' c,Good h'->Ext f h'->(∀R:List Value->Prop,R (g a)->wr c R h')->Q (p a) c h')->tst Q b o f)
    (Z:Good h) (aB:∀k,s.blk=some k->k<sz h)
    (hK:∀t h',Own h' base t n ((l.filter λa=> !p a).flatMap g)->(t.blk=s.blk\/t.blk=none)->Upd (λk=>s.blk=some k) h h'->Good h'->K t h'):
    ZP (σ:=Int×Int×Unit) (λJ4 s5 h6=>
     (λ(i2:Int) (T:Int)=>Zk (decide (T<(s.len:Int))) (Yk s.ptr s.len T n λb o=>tst (λt18 c C=>
       Zk (!t18) (wr c (λws=>Yk s.ptr s.len i2 n λaa ab=>sts C aa ab ws λae=>Zc (IntKind.wrap .i64 (i2+1)) λi27=>Zc (IntKind.wrap .i64 (T+1)) λD=>J4 (i27,D,()) ae) C)
        (Zc (IntKind.wrap .i64 (T+1)) λaf=>J4 (i2,af,()) C)) b o h6)
       (slc s.ptr s.cap n i2 s.len s.cap λt30=>ZFB t30 zs h6 λag=>slc s.ptr s.cap n 0 i2 s.cap λt32=>K t32 ag)) s5.1 s5.2.1) ((i0:Int),((i0+1:Nat):Int),()) h:=by
  have hl:=Y2 P ho.row S;have au:=ho.big;have av:=ho.cap
  refine Zaj (λst f=>∃(i j:Nat) (m:List α),st=((i:Int),(j:Int),())/\i<j/\j<=l.length/\m.length=l.length/\Own f base s n (m.flatMap g)/\Upd (λk=>s.blk=some k) h f/\Good f/\
      m.take i=(l.take j).filter (λa=> !p a)/\m.drop j=l.drop j) (λst _=>(s.len- st.2.1).toNat) ⟨i0,i0+1,l,rfl,by omega,by omega,rfl,ho,Upd.refl _ _,Z,?_,rfl⟩ ?_
  ·obtain ⟨a,J⟩:∃a,l[i0]?=some a:=⟨_,Axy W⟩;rw[Aym,J,List.filter_append]
   have e1:(l.take i0).filter (λa=> !p a)=l.take i0:=by
     rw[List.filter_eq_self];intro x hx;obtain⟨j,U⟩:=Ayi hx;rw[Aqf]at U;split at U
     ·rw[X j x (by assumption) U];rfl
     ·cases U
   have e2:(some a).toList.filter (λa=> !p a)=[]:=by simp[Y a J]
   rw[e1,e2,Ayt]
  rintro _ f ⟨i,j,m,rfl,aF,aG,L,u,hu,A,E,M⟩ Q hQ;dsimp only;refine Zn (λq=>?_) λq=>?_
  ·have w:IntKind.wrap .i64 ((j:Int)+1)=((j+1:Nat):Int):=by rw[Yw (by omega) (by omega)];rfl
   have ai:IntKind.wrap .i64 ((i:Int)+1)=((i+1:Nat):Int):=by rw[Yw (by omega) (by omega)];rfl
   obtain⟨a,J⟩:∃a,l[j]?=some a:=⟨_,Axy (by omega)⟩
   have aj:m[j]?=some a:=by
     have:=congrArg (λx=>x[0]?) M;simp only[Aqg,Axi]at this;rw[this,J]
   obtain⟨b,o,hb,ak,N,F⟩:=Zab P u.row aj S;refine N rfl (ht a b o f _ A ak F λh' c B G al=>?_);have O:=u.congr (h':=h') λb hb _ _=>G.old b (u.lt hb).2
   have step:(l.take (j+1)).filter (λa=> !p a)=(l.take j).filter (λa=> !p a)++(if p a then []else [a]):=by
     rw[Aym,J,List.filter_append];congr 1;cases y:p a<;>simp[y]
   have dr:m.drop (j+1)=l.drop (j+1):=by
     have:=congrArg (List.drop 1) M;simpa[Axn]using this
   cases y:p a with
   | false=>
     refine Xh ?_
     have fin:∀z,Own z base s n ((m.set i a).flatMap g)->Upd (λk=>s.blk=some k) h' z->sz z=sz h'->Zc (IntKind.wrap .i64 ((i:Int)+1)) λi27=>Zc (IntKind.wrap .i64 ((j:Int)+1)) λD=>Q (i27,D,()) z:=λz r d H=>by
       refine Za (Za (hQ _ _ ⟨i+1,j+1,m.set i a,?_,by omega,by omega,by simpa using L,r,(hu.trans (G.upd _)).trans d,e _ _ B d,?_,?_⟩ ?_))
       ·rw[ai,w]
       ·rw[step,y];simp only[Aqc,if_false];rw[<-E,Aym,Aqm (Aqo _),Ayu (by omega)];rfl
       ·rw[Aqn (by omega),dr]
       ·rw[w];dsimp only;omega
     exact al _ (ZAZ P O (i:=i) (by omega) S (a:=a) rfl (V a) rfl λz r d H=>fin z r d H)
   | true=>
     refine ZB (Za (hQ _ _ ⟨i,j+1,m,?_,by omega,by omega,L,O,hu.trans (G.upd _),B,?_,dr⟩ ?_))
     ·rw[w]
     ·rw[step,y,E];simp
     ·rw[w];dsimp only;omega
  ·have az:j=l.length:=by omega
   have e1:m.take i=l.filter (λa=> !p a):=by rw[E,Awd (by omega)]
   refine ZEb P u S (k:=i) (by omega) rfl hz I λt z r an d H=>hK t z ?_ (.inl an) (hu.trans d) (e _ _ A d);rw[<-e1];exact r
structure Bk where
  at_:Int
  total:Int
  n:Int->Int->Int
structure Sk where
  d:Int
  seed:Int
  last:Int
  bs:List Bk
structure Bk.OK(d:Int)(b:Bk):Prop where
  step:∃k:Int,0<=k/\b.at_=d*k
  total:0<=b.total/\b.total<=4611686018427387904
  n:∀r c,0<=b.n r c/\b.n r c<=4611686018427387904
structure Sk.OK(s:Sk):Prop where
  d:1<=s.d/\s.d<=360000000
  lo:0<=s.last
  hi:s.last<=1152921504606846976
  bs:∀b,b∈s.bs->b.OK s.d/\b.at_<=s.last
  up:s.bs.Pairwise λa b=>a.at_<b.at_
  few:s.bs.length<=12
abbrev B3:=Bk×Nat
def b3L(x:B3):List Value:=[iv x.1.at_,iv x.1.total,.map (some x.2)]
theorem Zf2(x:B3):(b3L x).length=3:=rfl
theorem ZyQ(x:B3):(b3L x).all Zs=true:=by simp[b3L,ZdD,Ztu]
abbrev skO(s:Sk)(sl:Sl):Obj:=.cells [iv (s.d*10),iv 10,iv 4,iv 256,.int .u64 s.seed,slV sl,iv s.last].toArray 312 (0,0)
structure SkR(h:Zf)(O:Nat->Prop)(wb:Nat)(sl:Sl)(lb:List B3)(s:Sk):Prop where
  ok:s.OK
  cells:obj h wb=some (skO s sl)
  own:Own h 0 sl 3 (lb.flatMap b3L)
  bs:lb.map (·.1)=s.bs
  nd:(lb.map (·.2)).Nodup
  maps:∀x,x∈lb->Zrv h x.2 x.1.n/\O x.2
  tw:O wb
  ts:∀k,sl.blk=some k->O k
  ne:sl.blk≠some wb
  mt:∀x,x∈lb->sl.blk≠some x.2
  lt:∀k,O k->k<sz h
theorem SkR.mw{h:Zf}{O:Nat->Prop}{wb:Nat}{sl:Sl}{lb:List B3}{s:Sk}(hs:SkR h O wb sl lb s){x:B3}(b:x∈lb):x.2≠wb:=λe=>by
  obtain⟨⟨es,c,hm,_⟩,_⟩:=hs.maps x b;have a:=hs.cells;rw[<-e,show obj h x.2=h[x.2]? from rfl,hm]at a;cases a
theorem SkR.congr{h h':Zf}{O O':Nat->Prop}{wb:Nat}{sl:Sl}{lb:List B3}{s:Sk}(hs:SkR h O wb sl lb s)(hT:∀k,O k->O' k)(hl:∀k,O' k->k<sz h')(he:∀k,O k->h'[k]?=h[k]?):SkR h' O' wb sl lb s:=
  ⟨hs.ok,(he wb hs.tw).trans hs.cells,hs.own.congr λb c _ _=>he b (hs.ts b c),hs.bs,hs.nd,λx a=>⟨(hs.maps x a).1.congr (he _ (hs.maps x a).2),hT _ (hs.maps x a).2⟩,hT _ hs.tw,λk d=>hT _ (hs.ts k d),hs.ne,hs.mt,hl⟩
theorem SkR.ext{h h':Zf}{O:Nat->Prop}{wb:Nat}{sl:Sl}{lb:List B3}{s:Sk}(hs:SkR h O wb sl lb s)(he:Ext h h'):SkR h' O wb sl lb s:=
  hs.congr (λ_ h=>h) (λk a=>Aqq (hs.lt k a) he.size) λk a=>he.old k (hs.lt k a)
theorem ZHR(s:ByteArray)(i:Nat):s[i]?=s.data.toList[i]?:=by
  have hs:s.size=s.data.size:=rfl
  by_cases h:i<s.size
  ·rw[getElem?_pos s i h,Axy (by simp;exact h)];rfl
  ·rw[getElem?_neg s i h,Aqt (by simp;omega)]
def ZHD(h:Int)(b:UInt8):Int:=IntKind.wrap .u64 ((ZAI .u64 h (IntKind.wrap .u64 (b.toNat:Int)))*1099511628211)
def ZEH(k:ByteArray):Int:=k.data.toList.foldl ZHD 14695981039346656037
theorem Zzc{k:ByteArray}(hs:k.size<9223372036854775808){K:Int->Zf->Prop}{h:Zf}(d:K (ZEH k) h):ZgW k K h:=by
  unfold ZgW Zi6;rw[Zbz,Zbz];have hl:k.data.toList.length=k.size:=by simp
  refine Zaj (λst e=>∃i:Nat,st=((k.data.toList.take i).foldl ZHD 14695981039346656037,(i:Int),())/\i<=k.size/\e=h) (λst _=>(k.size- st.2.1).toNat) ⟨0,rfl,by omega,rfl⟩ ?_;rintro _ _ ⟨i,rfl,hi,rfl⟩ Q f;dsimp only;refine Zn (λq=>?_) λq=>?_
  ·rw [Zbz]
   obtain⟨b,c⟩:∃b,k.data.toList[i]?=some b:=⟨_,Axy (by omega)⟩;refine⟨b,by omega,by rw[ZHR];exact c,?_⟩;dsimp only;rw[Zbz];have a:IntKind.wrap .i64 ((i:Int)+1)=((i+1:Nat):Int):=by rw[Yw (by omega) (by omega)];rfl
   refine f _ _ ⟨i+1,?_,by omega,rfl⟩ (by rw[a];dsimp only;omega);rw[a,Aym,c,List.foldl_append];rfl
  ·rw[Zbz,Awd (by omega)];exact d
def ZGR(x:Int):Int:=IntKind.wrap .u64 ((ZAI .u64 x (Zlr .u64 x 30))*13787848793156543929)
def ZGQ(x:Int):Int:=IntKind.wrap .u64 ((ZAI .u64 x (Zlr .u64 x 27))*10723151780598845931)
def ZGP(x:Int):Int:=ZAI .u64 (ZGQ (ZGR x)) (Zlr .u64 (ZGQ (ZGR x)) 31)
theorem Zxw{x:Int}{K:Int->Zf->Prop}{h:Zf}(a:K (ZGP x) h):ZiV x K h:=by unfold ZiV Zla;exact Za ⟨by decide,Za ⟨by decide,Za ⟨by decide,Za a⟩⟩⟩
def ZsT(seed row:Int)(key:ByteArray):Int:=IntKind.wrap .i64 (Int.tmod (ZGP (IntKind.wrap .u64 ((IntKind.wrap .u64 (ZEH key+seed))+(IntKind.wrap .u64 ((11400714819323198485:Int)*(IntKind.wrap .u64 (IntKind.wrap .i64 (row+1)))))))) (IntKind.wrap .u64 256))
theorem Zoq{w seed row:Int}{key:ByteArray}(hs:key.size<9223372036854775808){K:Int->Zf->Prop}{h:Zf}(a:∀h',Ext h h'->sz h'=sz h+1->K (ZsT seed row key) h'):Xr (w,10,4,256,seed,()) row key K h:=by unfold Xr Zdc;rw[ZiU,Zbz];refine⟨(ZEH key,()),Zzc hs ⟨rfl,rfl⟩,?_⟩;simp (maxDischargeDepth:=60) only[ZM,ZL,evC,Nqa,Nqb,Nqc,Nqd,Nqe,reduceCtorEq];refine⟨(_,()),Zxw ⟨rfl,rfl⟩,?_⟩;simp (maxDischargeDepth:=60) only[ZM,ZL,evC,Nqa,Nqb,Nqc,Nqd,Nqe,reduceCtorEq];exact⟨by decide,a _ (Ext.push _ _) ZbQ⟩
def bgn(d at_:Int):Int:=at_-at_ % d
theorem Zrk{d at_:Int}(hd:1<=d)(h0:0<=at_):0<=bgn d at_/\bgn d at_<=at_/\at_<bgn d at_+d/\bgn d at_=d*(at_ / d):=by unfold bgn;have h1:=Int.emod_nonneg at_ (show d≠0 by omega);have a:=Int.emod_lt_of_pos at_ (show 0<d by omega);have h3:=Int.mul_ediv_add_emod at_ d;have b:=Int.mul_nonneg (show 0<=d by omega) (Int.ediv_nonneg h0 (show 0<=d by omega));omega
theorem Zp1{d seed:Int}(hd:1<=d/\d<=360000000){at_:Int}(h0:0<=at_)(h1:at_<=1152921504606846976){K:Int->Zf->Prop}{h:Zf}(a:∀h',Ext h h'->sz h'=sz h+1->K (bgn d at_) h'):Zah (d*10,10,4,256,seed,()) at_ K h:=by
  unfold Zah ZdS;have b:(IntKind.wrap .i64 (Int.tdiv (d*10) 10))=d:=by rw[Int.mul_tdiv_cancel _ (by decide),Yw (by omega) (by omega)]
  have c:IntKind.wrap .i64 (at_-Int.tmod at_ d)=bgn d at_:=by
    have f:=Zrk hd.1 h0;have e:bgn d at_=at_-at_ % d:=rfl;rw[Int.tmod_eq_emod_of_nonneg h0,<-e,Yw (by omega) (by omega)]
  simp (maxDischargeDepth:=60) only[ZM,ZL,evC,Nqa,Nqb,Nqc,Nqd,Nqe,reduceCtorEq,b,c];exact⟨by decide,by omega,a _ (Ext.push _ _) ZbQ⟩
def spl(a b:Int):Int:=min (a+b) 4611686018427387904
theorem Zl7{a b:Int}(d:0<=a/\a<=4611686018427387904)(e:0<=b/\b<=4611686018427387904){K:Int->Zf->Prop}{h:Zf}(c:K (spl a b) h):ZbX a b K h:=by
  unfold ZbX Zi5;unfold spl at c;rw[Zbz,Yw (n:=4611686018427387904-b) (by omega) (by omega)];refine Zn (λq=>?_) λq=>?_
  ·rw[Zbz];rwa[show min (a+b) 4611686018427387904=4611686018427387904 from by omega]at c
  ·rw[Zbz,Yw (by omega) (by omega)];rwa[show min (a+b) 4611686018427387904=a+b from by omega]at c
theorem Ztl{a b:Int}(c:0<=a/\a<=4611686018427387904)(d:0<=b/\b<=4611686018427387904):0<=spl a b/\spl a b<=4611686018427387904:=by unfold spl;omega
theorem Zuk{h:Zf}{wb:Nat}{d e f g i j:Value}{l:Int}{r:List Value}(k:obj h wb=some (.cells (d::e::f::g::i::j::iv l::r).toArray 312 (0,0))){at_:Int}{K:Int->Zf->Prop}(a:K (YC l at_) h):Zai (some ⟨wb,0,none⟩) at_ K h:=by
  unfold Zai ZdT;unfold YC at a;simp (maxDischargeDepth:=60) only[ZM,ZL,evC,Nqa,Nqb,Nqc,Nqd,Nqe,reduceCtorEq,k];refine Zn (λq=>?_) λq=>Zn (λb=>?_) λb=>Zn (λc=>?_) λc=>?_
  ·rw[if_pos q]at a;exact a
  ·rw[if_neg q,if_pos b]at a;exact a
  ·rw[if_neg q,if_neg b,if_pos c]at a;exact a
  ·rw[if_neg q,if_neg b,if_neg c]at a;exact a
def ZvG(d at_ r c:Int)(l:List Bk):Int:=l.foldl (λn b=>if b.at_>bgn d at_-d*10 then spl n (b.n r c)else n) 0
theorem Zxm(d at_ r c:Int)(l:List Bk)(b:Bk):ZvG d at_ r c (l++[b])=if b.at_>bgn d at_-d*10 then spl (ZvG d at_ r c l) (b.n r c)else ZvG d at_ r c l:=by unfold ZvG;rw[List.foldl_append];rfl
theorem Zuh(d at_ r c:Int)(l:List Bk)(hl:∀b,b∈l->b.OK d):0<=ZvG d at_ r c l/\ZvG d at_ r c l<=4611686018427387904:=by
  unfold ZvG
  suffices ∀n:Int,0<=n/\n<=4611686018427387904->0<=l.foldl (λn b=>if b.at_>bgn d at_-d*10 then spl n (b.n r c)else n) n/\l.foldl (λn b=>if b.at_>bgn d at_-d*10 then spl n (b.n r c)else n) n<=4611686018427387904 from this 0 (by omega)
  induction l with
  |nil=>exact λn a=>a
  | cons b l e=>
    intro n a;rw[Awq];refine e (λb f=>hl b (Aws _ f)) _ ?_;split
    ·exact Ztl a ((hl b (List.mem_cons_self ..)).n r c)
    ·exact a
def ZFA(s:Sk)(at_:Int)(key:ByteArray):Nat->Int
  | 0=>4611686018427387904
  |n+1=>ZqT (ZFA s at_ key n) (ZvG s.d at_ n (ZsT s.seed n key) s.bs)
def Sk.est(s:Sk)(at_:Int)(key:ByteArray):Int:=ZFA s at_ key 4
theorem Zxn{h:Zf}{O:Nat->Prop}{wb:Nat}{sl:Sl}{lb:List B3}{s:Sk}(hs:SkR h O wb sl lb s){at_:Int}(h0:0<=at_)(h1:at_<=1152921504606846976){cb:Nat}{r c:Int}(B:obj h cb=some (.cells [iv r,iv c].toArray 317 (0,0)))
    {K:Int->Zf->Prop} (I:∀h',Ext h h'->K (ZvG s.d at_ r c s.bs) h'):ZZ (some ⟨wb,0,none⟩) at_ (some ⟨cb,0,none⟩,()) K h:=by
  unfold ZZ YF;have lw:=Zp hs.cells;have lc:=Zp B;have e:=hs.own.row;have hlen:=Y2 Zf2 e (by decide);have C:=e.big;have D:=e.cap;have J:lb.length=s.bs.length:=by rw[<-hs.bs,Ayv]
  simp (maxDischargeDepth:=60) only[ZM,ZL,evC,Nqa,Nqb,Nqc,Nqd,Nqe,reduceCtorEq,hs.cells];refine Zaj (λst f=>∃i:Nat,st=(ZvG s.d at_ r c (s.bs.take i),(i:Int),())/\i<=lb.length/\Ext h f) (λst _=>(sl.len- st.2.1).toNat) ⟨0,rfl,by omega,Ext.refl _⟩ ?_;rintro _ f ⟨i,rfl,hi,he⟩ Q E;dsimp only;refine Zn (λq=>?_) λq=>?_
  ·obtain ⟨x,j⟩:∃x,lb[i]?=some x:=⟨_,Axy (by omega)⟩
   have k:=hs.ext he;have u:s.bs[i]?=some x.1:=by rw[<-hs.bs,Awy,j];rfl
   obtain⟨b,o,F,_,l,a⟩:=Zab Zf2 (e.ext he) j (by decide);have v0:=a 0 _ rfl;have v1:=a 1 _ rfl;have v2:=a 2 _ rfl;simp only[Axi]at v0;refine l rfl ?_;have m:Ext f (Zf.puts (f.push (.cells [iv 0,iv 0,.map none].toArray 315 (0,0))) (sz f) 0 [iv x.1.at_,iv x.1.total,.map (some x.2)]):=Zb8 (X7 (Ext.refl _)) (Aqo _);have G:obj (Zf.puts (f.push (.cells [iv 0,iv 0,.map none].toArray 315 (0,0))) (sz f) 0 [iv x.1.at_,iv x.1.total,.map (some x.2)]) (sz f)=some (.cells [iv x.1.at_,iv x.1.total,.map (some x.2)].toArray 315 (0,0)):=by simp (maxDischargeDepth:=60) only[ZM,ZL,evC,Nqa,Nqb,Nqc,Nqd,Nqe,reduceCtorEq]
   have H:=k.cells;have v:=Zp H;simp (maxDischargeDepth:=60) only[ZM,ZL,evC,Nqa,Nqb,Nqc,Nqd,Nqe,reduceCtorEq,v0,v1,v2,H,Ze8 v];generalize Zf.puts (f.push (.cells [iv 0,iv 0,.map none].toArray 315 (0,0))) (sz f) 0 [iv x.1.at_,iv x.1.total,.map (some x.2)]=N at m G⊢;refine Zp1 hs.ok.d h0 h1 λh3 p z3=>?_;have a3:=Zj G p;have g:=(k.ext m).ext p;have L:=g.cells;have P:0<=bgn s.d at_/\bgn s.d at_<=at_:=by have:=Zrk hs.ok.d.1 h0;omega
   have w:IntKind.wrap .i64 ((i:Int)+1)=((i+1:Nat):Int):=by rw[Yw (by omega) (by omega)];rfl
   have st:ZvG s.d at_ r c (s.bs.take (i+1))=if x.1.at_>bgn s.d at_-s.d*10 then spl (ZvG s.d at_ r c (s.bs.take i)) (x.1.n r c)else ZvG s.d at_ r c (s.bs.take i):=by
     rw[Aym,u];exact Zxm _ _ _ _ _ _
   simp (maxDischargeDepth:=60) only[ZM,ZL,evC,Nqa,Nqb,Nqc,Nqd,Nqe,reduceCtorEq,a3,L,w,Yw (n:=bgn s.d at_-s.d*10) (by have:=hs.ok.d;omega) (by have:=hs.ok.d;omega)];have t:obj h3 cb=some (.cells [iv r,iv c].toArray 317 (0,0)):=Zj (Zj (Zj B he) m) p;have y:=Zp t;have M:=Zp a3;refine Zn (λz=>?_) λz=>?_
   ·unfold ZaP ZaQ;have hm:=((g.maps x (Axo j)).1).congr (h':=h3.push (.cells [iv x.1.at_,iv x.1.total,.map (some x.2)].toArray 315 (0,0))) (Zkz (g.maps x (Axo j)).1.lt);simp (maxDischargeDepth:=60) only[ZM,ZL,evC,Nqa,Nqb,Nqc,Nqd,Nqe,reduceCtorEq,t,Ze8 y];have A:=(hs.ok.bs x.1 (by rw[<-hs.bs];exact List.mem_map_of_mem (Axo j))).1;refine hm.get r c (Zl7 (Zuh _ _ _ _ _ λb F=>(hs.ok.bs b (List.mem_of_mem_take F)).1) (A.n r c) ?_);refine E _ _ ⟨i+1,?_,by omega,X7 ((he.trans m).trans p)⟩ (by dsimp only;omega);rw[st,if_pos z]
   ·refine E _ _ ⟨i+1,?_,by omega,(he.trans m).trans p⟩ (by dsimp only;omega);rw[st,if_neg z]
  ·rw[Awd (by omega)];exact I f he
theorem Zxr{h:Zf}{O:Nat->Prop}{wb:Nat}{sl:Sl}{lb:List B3}{s:Sk}(hs:SkR h O wb sl lb s){at_:Int}(h0:0<=at_)(h1:at_<=1152921504606846976){key:ByteArray}(b:key.size<9223372036854775808)
    {K:Int->Zf->Prop} (k:∀h',Ext h h'->K (s.est at_ key) h'):X4 (some ⟨wb,0,none⟩) at_ key K h:=by
  unfold X4 ZbK;simp (maxDischargeDepth:=60) only[ZM,ZL,evC,Nqa,Nqb,Nqc,Nqd,Nqe,reduceCtorEq,hs.cells];refine Zaj (λst d=>∃i:Nat,st=(ZFA s at_ key i,(i:Int),())/\i<=4/\Ext h d) (λst _=>(4-st.2.1).toNat) ⟨0,rfl,by omega,Ext.refl _⟩ ?_;rintro _ d ⟨i,rfl,hi,he⟩ Q l;dsimp only;refine Zn (λq=>?_) λq=>?_
  ·have c:=hs.ext he
   have m:=c.cells;simp (maxDischargeDepth:=60) only[ZM,ZL,evC,Nqa,Nqb,Nqc,Nqd,Nqe,reduceCtorEq,m];refine Zoq b λa j o=>?_;have e:=c.ext j;have f:Ext a (Zf.puts (a.push (.cells [iv 0,iv 0].toArray 317 (0,0))) (sz a) 0 [iv i,iv (ZsT s.seed i key)]):=Zb8 (X7 (Ext.refl _)) (Aqo _);have a3:obj (Zf.puts (a.push (.cells [iv 0,iv 0].toArray 317 (0,0))) (sz a) 0 [iv i,iv (ZsT s.seed i key)]) (sz a)=some (.cells [iv i,iv (ZsT s.seed i key)].toArray 317 (0,0)):=by simp (maxDischargeDepth:=60) only[ZM,ZL,evC,Nqa,Nqb,Nqc,Nqd,Nqe,reduceCtorEq]
   generalize Zf.puts (a.push (.cells [iv 0,iv 0].toArray 317 (0,0))) (sz a) 0 [iv i,iv (ZsT s.seed i key)]=h3 at f a3⊢;have g:IntKind.wrap .i64 ((i:Int)+1)=((i+1:Nat):Int):=by rw[Yw (by omega) (by omega)];rfl
   refine Zxn (e.ext f) h0 h1 a3 λp n=>?_;rw[g];exact l _ _ ⟨i+1,rfl,by omega,((he.trans j).trans f).trans n⟩ (by dsimp only;omega)
  ·have:i=4:=by omega
   subst this;exact k d he
def Sk.used(s:Sk)(at_:Int)(key:ByteArray):Int:=if YC s.last at_=0 then s.est at_ key else 0
theorem Zm1{α:Type}{l:List α}{i:Nat}{a:α}(h:l[i]?=some a):l.set i a=l:=by
  apply Awx;intro j;rw[List.getElem?_set];split
  ·rename_i e;subst e;rw[if_pos (ZbP h),h]
  ·rfl
theorem Sk.OK.set{s:Sk}(ok:s.OK){i:Nat}{b a:Bk}(hi:s.bs[i]?=some b)(he:a.at_=b.at_)(e:a.OK s.d):Sk.OK ⟨s.d,s.seed,s.last,s.bs.set i a⟩:=by
  refine⟨ok.d,ok.lo,ok.hi,λx c=>?_,?_,by show(s.bs.set i a).length<=12;rw[List.length_set];exact ok.few⟩
  ·rcases List.mem_or_eq_of_mem_set c with c|rfl
   ·exact ok.bs x c
   ·exact⟨e,he▸(ok.bs b (Axo hi)).2⟩
  ·have h1:(s.bs.map (·.at_)).Pairwise (· < ·):=List.pairwise_map.2 ok.up
   have f:((s.bs.set i a).map (·.at_)).Pairwise (· < ·):=by
     rw[List.map_set,he,Zm1 (by rw[Awy,hi];rfl)];exact h1
   exact List.pairwise_map.1 f
theorem SkR.setTot{h:Zf}{O:Nat->Prop}{wb:Nat}{sl:Sl}{lb:List B3}{s:Sk}(hs:SkR h O wb sl lb s){i:Nat}{x:B3}(hi:lb[i]?=some x){v:Int}(hv:0<=v/\v<=4611686018427387904){b o:Nat}(m:sl.blk=some b)(ho:o=i*3){K:Zf->Prop}
    (f:∀h',SkR h' O wb sl (lb.set i (⟨x.1.at_,v,x.1.n⟩,x.2)) ⟨s.d,s.seed,s.last,s.bs.set i ⟨x.1.at_,v,x.1.n⟩⟩->Upd (λk=>sl.blk=some k) h h'->sz h'=sz h->K h'):st h b (o+1) (iv v) K:=by
  have c:s.bs[i]?=some x.1:=by rw[<-hs.bs,Awy,hi];rfl
  have e:=(hs.ok.bs x.1 (Axo c)).1;refine Zuu Zf2 hs.own hi (j:=1) (a':=(⟨x.1.at_,v,x.1.n⟩,x.2)) (by decide) rfl ZdD m (by omega) λh' g hu hz=>f h' ⟨hs.ok.set c rfl ⟨e.step,hv,e.n⟩,?_,g,?_,?_,λy a=>(?_:_/\_),hs.tw,hs.ts,hs.ne,λy a=>?_,λk f=>by rw[hz];exact hs.lt k f⟩ hu hz
  ·exact Y0 hs.cells hu hs.ne
  ·rw[List.map_set,hs.bs]
  ·rw[List.map_set,Zm1 (by rw[Awy,hi];rfl)];exact hs.nd
  ·have hold:∀z:B3,z∈lb->Zrv h' z.2 z.1.n/\O z.2:=λz hz=>by
     obtain⟨l,p⟩:=hs.maps z hz;exact⟨l.congr (hu.old _ l.lt (hs.mt z hz)),p⟩
   rcases List.mem_or_eq_of_mem_set a with a|rfl
   ·exact hold y a
   ·exact hold x (Axo hi)
  ·rcases List.mem_or_eq_of_mem_set a with a|rfl
   ·exact hs.mt y a
   ·exact hs.mt x (Axo hi)
theorem SkR.setMap{h:Zf}{O:Nat->Prop}{wb:Nat}{sl:Sl}{lb:List B3}{s:Sk}(hs:SkR h O wb sl lb s){i:Nat}{x:B3}(hi:lb[i]?=some x){r c v:Int}(hv:0<=v/\v<=4611686018427387904){K:Zf->Prop}
    (p:∀h',SkR h' O wb sl (lb.set i (⟨x.1.at_,x.1.total,ZwC x.1.n r c v⟩,x.2)) ⟨s.d,s.seed,s.last,s.bs.set i ⟨x.1.at_,x.1.total,ZwC x.1.n r c v⟩⟩->Upd (· = x.2) h h'->sz h'=sz h->K h'):Zh7 [(.int .i64),(.int .i64)] h (some x.2) [iv r,iv c] (iv v) K:=by
  have g:s.bs[i]?=some x.1:=by rw[<-hs.bs,Awy,hi];rfl
  have a:=(hs.ok.bs x.1 (Axo g)).1;obtain⟨w,z⟩:=hs.maps x (Axo hi);refine w.put r c v λh' hm hu hz=>p h' ⟨hs.ok.set g rfl ⟨a.step,a.total,λl m=>?_⟩,?_,?_,?_,?_,λy o=>?_,hs.tw,hs.ts,hs.ne,λy o=>?_,λk p=>by rw[hz];exact hs.lt k p⟩ hu hz
  ·show 0<=(if l=r/\m=c then v else x.1.n l m)/\(if l=r/\m=c then v else x.1.n l m)<=4611686018427387904;split
   ·exact hv
   ·exact a.n l m
  ·exact Y0 hs.cells hu λe=>hs.mw (Axo hi) e.symm
  ·have:(lb.set i ((⟨x.1.at_,x.1.total,ZwC x.1.n r c v⟩,x.2):B3)).flatMap b3L=lb.flatMap b3L:=by
     have h1:(lb.set i ((⟨x.1.at_,x.1.total,ZwC x.1.n r c v⟩,x.2):B3)).map b3L=lb.map b3L:=by
       rw[List.map_set,Zm1 (by rw[Awy,hi];rfl)]
     rw[List.flatMap_def,h1,<-List.flatMap_def]
   rw[this];exact hs.own.congr λb t _ _=>hu.old b (hs.own.lt t).2 λe=>hs.mt x (Axo hi) (e▸t)
  ·rw[List.map_set,hs.bs]
  ·rw[List.map_set,Zm1 (by rw[Awy,hi];rfl)];exact hs.nd
  ·obtain ⟨j,f⟩:=Ayi o;rw[List.getElem?_set]at f;split at f
   ·split at f
    ·cases f;exact⟨hm,z⟩
    ·cases f
   ·rename_i q
    obtain⟨u,A⟩:=hs.maps y (Axo f);refine⟨u.congr (hu.old _ u.lt λe=>q ?_),A⟩;have B:(lb.map (·.2))[i]?=some x.2:=by rw[Awy,hi];rfl
    have C:(lb.map (·.2))[j]?=some x.2:=by rw[Awy,f,<-e];rfl
    obtain⟨F,D⟩:=Ayh.1 B;obtain⟨G,E⟩:=Ayh.1 C;exact(List.getElem_inj hs.nd).1 (D.trans E.symm)
  ·rcases List.mem_or_eq_of_mem_set o with o|rfl
   ·exact hs.mt y o
   ·exact hs.mt x (Axo hi)
def ZkP(d a:Int)(x:B3):Bool:=decide (x.1.at_<=a- d*10)
theorem Zuo{h:Zf}{x:B3}{c e wb:Nat}{d a:Int}(hd:1<=d/\d<=360000000){T1 T2:TypeId}(k:0<=a/\a<=1152921504606846976)(c1:obj h c=some (.cells [iv a].toArray T1 (0,0)))(f:obj h e=some (.cells [.pointer (some ⟨wb,0,none⟩)].toArray T2 (0,0)))(g:Zy 0 (obj h wb)=some (iv (d*10)))(lw:wb<sz h){K:Bool->Zf->Prop}
    (b:K (ZkP d a x) (h.push (.cells (b3L x).toArray 315 (0,0)))):YZ (x.1.at_,x.1.total,some x.2,()) (some ⟨c,0,none⟩) (some ⟨e,0,none⟩) K h:=by
  unfold YZ Zdd;have i:=Zp c1;have j:=Zp f;unfold ZkP at b;rw[<-Yw (n:=a- d*10) (by omega) (by omega)]at b;simp (maxDischargeDepth:=60) only[ZM,ZL,evC,Nqa,Nqb,Nqc,Nqd,Nqe,reduceCtorEq,c1,f,g,Ze8 i,Ze8 j,Ze8 lw];exact b
theorem Zxx{h:Zf}{q r wb:Nat}{d g:Int}(hd:1<=d/\d<=360000000){T1 T2:TypeId}(z:0<=g/\g<=1152921504606846976)(c1:obj h q=some (.cells [iv g].toArray T1 (0,0)))(Y:obj h r=some (.cells [.pointer (some ⟨wb,0,none⟩)].toArray T2 (0,0)))(Z:Zy 0 (obj h wb)=some (iv (d*10)))(lw:wb<sz h)
    {base:Nat} {s:Sl} {l:List B3} (ho:Own h base s 3 (l.flatMap b3L)) (n1:s.blk≠some q) (n2:s.blk≠some r) (n3:s.blk≠some wb) {K:Sl->Zf->Prop}
    (F:∀t h',Own h' base t 3 ((l.filter λx=> !ZkP d g x).flatMap b3L)->(t.blk=s.blk\/t.blk=none)->Upd (λk=>s.blk=some k) h h'->K t h'):Zz s (some ⟨q,0,none⟩,some ⟨r,0,none⟩,()) K h:=by
  unfold Zz ZG
  have M:∀(N:Int->Zf->Prop),(∀h',Ext h h'->N (ixV (ZkP d g) l) h')->ZA s (some ⟨q,0,none⟩,some ⟨r,0,none⟩,()) N h:=λN O=>by
    unfold ZA ZH;refine ZkE Zf2 ho.row (by decide) (p:=ZkP d g) (tst:=λQ b o h3=>ldI h3 b o .i64 λt4=>ldI h3 b (o+1) .i64 λt5=>ldM h3 b (o+2) λt6=>YZ (t4,t5,t6,()) (some ⟨q,0,none⟩) (some ⟨r,0,none⟩) Q h3) ?_ O;intro i a b o f Q n he c P;have v0:=c 0 _ rfl;have v1:=c 1 _ rfl;have v2:=c 2 _ rfl;simp only[Axi]at v0;refine rI v0 (rI v1 (rM v2 (Zuo hd z (Zj c1 he) (Zj Y he) (by rw[ZQ he lw];exact Z) (by have:=ZmL he;omega) (P _ (X7 he)))))
  refine M _ λh1 u=>Za ?_;have v:=ho.congr (h':=h1) λb hb _ _=>u.old b (ho.lt hb).2;have d1:=Zj c1 u;have d2:=Zj Y u;have d3:Zy 0 (obj h1 wb)=some (iv (d*10)):=by rw[ZQ u lw];exact Z
  have S:wb<sz h1:=by have:=ZmL u;omega
  have hlen:=Y2 Zf2 ho.row (by decide)
  cases G:l.findIdx? (ZkP d g)with
  | none=>
    rw[ZqZ G];refine Xh ?_
    have:(l.filter λx=> !ZkP d g x)=l:=by
      rw[List.filter_eq_self];intro a n;rw[List.findIdx?_eq_none_iff.1 G a n];rfl
    exact F s h1 (by rw[this];exact v) (.inl rfl) (u.upd _)
  | some i=>
    rw[ZqY G];obtain⟨A,T,U⟩:=List.findIdx?_eq_some_iff_getElem.1 G;have aa:=ho.big;have ab:=ho.cap;refine Zh (by simp) (Za ?_);rw[show IntKind.wrap .i64 ((i:Int)+1)=((i+1:Nat):Int)from by rw[Yw (by omega) (by omega)];rfl]
    refine ZtN Zf2 v (by decide) (p:=ZkP d g) (zs:=[iv 0,iv 0,.map none]) rfl (by simp[ZdD,Ztu]) ZyQ A (λj a hj n=>?_) (λa n=>?_)
      (Good:=λh=>obj h q=some (.cells [iv g].toArray T1 (0,0))/\obj h r=some (.cells [.pointer (some ⟨wb,0,none⟩)].toArray T2 (0,0))/\Zy 0 (obj h wb)=some (iv (d*10))/\wb<sz h)
      (tst:=λQ b o H=>ldI H b o .i64 λt7=>ldI H b (o+1) .i64 λt8=>ldM H b (o+2) λt9=>
        newC H [iv 0,iv 0,Value.map none] 315 λe V=>sts V e 0 [iv t7,iv t8,Value.map t9] λm=>
        ldI m e 0 .i64 λt13=>ldI m e (0+1) .i64 λt14=>ldM m e (0+2) λt15=>YZ (t13,t14,t15,()) (some ⟨q,0,none⟩) (some ⟨r,0,none⟩) (λb h=>Q b e h) m)
      (wr:=λe R w=>ldI w e 0 .i64 λt18=>ldI w e (0+1) .i64 λt19=>ldM w e (0+2) λt20=>R [iv t18,iv t19,Value.map t20])
      (λh1 I hg hu=>?_) ?_ ⟨d1,d2,d3,S⟩ (λk F=>(v.lt F).2) (λt h' W X hu _=>F t h' W X ((u.upd _).trans hu))
    ·have:=U j hj;rw[Axy (by omega)]at n;cases n;simpa using this
    ·rw[Axy A]at n;cases n;exact T
    ·obtain⟨B,C,J,L⟩:=hg;refine⟨Y0 B hu n1,Y0 C hu n2,by rw[Zal hu L n3];exact J,?_⟩;have:sz h1<=sz I:=hu.size;omega
    ·rintro a b o f Q ⟨B,C,J,L⟩ ak c P
     have v0:=c 0 _ rfl;have v1:=c 1 _ rfl;have v2:=c 2 _ rfl;simp only[Axi]at v0;have al:=Zp B;have an:=Zp C;have y:Ext f (Zf.puts (f.push (.cells [iv 0,iv 0,.map none].toArray 315 (0,0))) (sz f) 0 [iv a.1.at_,iv a.1.total,.map (some a.2)]):=Zb8 (X7 (Ext.refl _)) (Aqo _);have D:obj (Zf.puts (f.push (.cells [iv 0,iv 0,.map none].toArray 315 (0,0))) (sz f) 0 [iv a.1.at_,iv a.1.total,.map (some a.2)]) (sz f)=some (.cells (b3L a).toArray 315 (0,0)):=by simp (maxDischargeDepth:=60) only[ZM,ZL,evC,Nqa,Nqb,Nqc,Nqd,Nqe,reduceCtorEq,b3L]
     refine rI v0 (rI v1 (rM v2 ?_));rw[ZiU,Zph (by simp (maxDischargeDepth:=60) only[ZM,ZL,evC,Nqa,Nqb,Nqc,Nqd,Nqe,reduceCtorEq]) (by simp (maxDischargeDepth:=60) only[ZM,ZL,evC,Nqa,Nqb,Nqc,Nqd,Nqe,reduceCtorEq])];change ldI (Zf.puts (f.push (.cells [iv 0,iv 0,.map none].toArray 315 (0,0))) (sz f) 0 [iv a.1.at_,iv a.1.total,.map (some a.2)]) _ _ _ _;generalize Zf.puts (f.push (.cells [iv 0,iv 0,.map none].toArray 315 (0,0))) (sz f) 0 [iv a.1.at_,iv a.1.total,.map (some a.2)]=I at y D⊢;have z2:=ZmL y;refine rI (Zb D rfl) (rI (Zb D rfl) (rM (Zb D rfl) (Zuo hd z (Zj B y) (Zj C y) (by rw[ZQ y L];exact J) (by omega) ?_)));have E:Ext f (I.push (.cells (b3L a).toArray 315 (0,0))):=X7 y;have a3:=Zj D (Ext.push I (.cells (b3L a).toArray 315 (0,0)));refine P _ _ ⟨Zj B E,Zj C E,by rw[ZQ E L];exact J,by have:=ZmL E;omega⟩ E λR hR=>?_;exact rI (Zb a3 rfl) (rI (Zb a3 rfl) (rM (Zb a3 rfl) hR))
def Zk9(d at_:Int)(l:List Bk):List Bk:=l.filter λb=> !decide (b.at_<=bgn d at_-d*10)
def Zv2(d at_:Int)(l:List Bk):Bool:=match l.getLast? with
  |some b=>b.at_ !=bgn d at_
  |none=>true
def ZA7(d at_:Int):Bk:=⟨bgn d at_,0,λ_ _=>0⟩
def ZoZ(d at_:Int)(l:List Bk):List Bk:=if Zv2 d at_ (Zk9 d at_ l)then Zk9 d at_ l++[ZA7 d at_]else Zk9 d at_ l
def Sk.opened(s:Sk)(at_:Int):Sk:=⟨s.d,s.seed,at_,ZoZ s.d at_ s.bs⟩
theorem ZvY(d at_:Int)(l:List Bk):∃b,(ZoZ d at_ l).getLast?=some b/\b.at_=bgn d at_:=by
  unfold ZoZ;split
  ·exact⟨ZA7 d at_,by simp,rfl⟩
  ·rename_i a;unfold Zv2 at a;split at a
   ·rename_i b c;exact⟨b,c,by simpa using a⟩
   ·exact(a rfl).elim
theorem ZuQ{d:Int}(hd:1<=d):∀(l:List Bk) (lo hi:Int),(∀b,b∈l->∃k,b.at_=d*k/\lo<k/\k<=hi)->(l.Pairwise λa b=>a.at_<b.at_)->lo<=hi->(l.length:Int)<=hi- lo
  |[],lo,hi,_,_,h=>by simp;omega
  | b::l,lo,hi,e,j,h=>by
    obtain⟨n,o⟩:=List.pairwise_cons.1 j;obtain⟨k,p,s,q⟩:=e b (List.mem_cons_self ..)
    have:=ZuQ hd l k hi (λc f=>by
      obtain⟨m,g,t,r⟩:=e c (Aws _ f);have i:=n c f;rw[p,g]at i
      exact⟨m,g,Int.lt_of_mul_lt_mul_left i (by omega),r⟩) o q
    rw[Aqj];omega
theorem ZD9{l:List Bk}(c:l.Pairwise λa b=>a.at_<b.at_){a z:Bk}(d:a∈l)(hz:l.getLast?=some z):a.at_<=z.at_:=by
  obtain⟨e,rfl⟩:=List.getLast?_eq_some_iff.1 hz
  rcases Axx.1 d with h|h
  ·exact Int.le_of_lt ((List.pairwise_append.1 c).2.2 a h z (by simp))
  ·simp at h;rw[h];exact Int.le_refl _
theorem Zm6{d at_:Int}{l:List Bk}(h:l.Pairwise λa b=>a.at_<b.at_):(Zk9 d at_ l).Pairwise λa b=>a.at_<b.at_:=h.sublist List.filter_sublist
theorem Sk.opened_ok{s:Sk}(ok:s.OK){at_:Int}(hw:YC s.last at_=0):(s.opened at_).OK:=by
  obtain⟨a0,m,p⟩:=Zgi hw;obtain⟨d,seed,last,bs⟩:=s;have hd:1<=d/\d<=360000000:=ok.d;dsimp only at p;obtain⟨v,b1,b2,j⟩:=Zrk hd.1 a0
  have e:∀b,b∈Zk9 d at_ bs->b.OK d/\b.at_<=at_/\∃k,b.at_=d*k/\at_ / d- 10<k/\k<=at_ / d:=λb hm=>by
    obtain⟨h1,n⟩:=Axt.1 hm;obtain⟨o,q⟩:=ok.bs b h1;obtain⟨k,w,f⟩:=o.step;have h3:¬b.at_<=bgn d at_-d*10:=by simpa using n
    have t:b.at_<=last:=q;refine⟨o,by omega,k,f,?_,?_⟩
    ·refine Int.lt_of_mul_lt_mul_left (a:=d) ?_ (by omega);rw[Int.mul_sub,<-f,<-j];omega
    ·refine(Int.le_ediv_iff_mul_le (by omega)).2 ?_;rw[Int.mul_comm,<-f];omega
  have hle:∀b,b∈Zk9 d at_ bs->b.at_<=bgn d at_:=λb hm=>by
    obtain⟨_,_,k,f,_,u⟩:=e b hm;rw[f,j];exact Int.mul_le_mul_of_nonneg_left u (by omega)
  have g:(ZA7 d at_).OK d:=⟨⟨at_ / d,Int.ediv_nonneg a0 (by omega),j⟩,⟨Int.le_refl _,by show(0:Int)<=_;decide⟩,λr c=>⟨Int.le_refl _,by show(0:Int)<=_;decide⟩⟩
  have x:(Zk9 d at_ bs).length<=10:=by
    have:=ZuQ hd.1 (Zk9 d at_ bs) (at_ / d- 10) (at_ / d) (λb hm=>(e b hm).2.2) (Zm6 ok.up) (by omega);omega
  show Sk.OK ⟨d,seed,at_,ZoZ d at_ bs⟩;unfold ZoZ;split
  ·rename_i l;refine⟨hd,a0,m,λb hm=>?_,?_,?_⟩
   ·rcases Axx.1 hm with hm|hm
    ·exact⟨(e b hm).1,(e b hm).2.1⟩
    ·simp at hm;subst hm;exact⟨g,b1⟩
   ·refine List.pairwise_append.2 ⟨Zm6 ok.up,by simp,λa i b h=>?_⟩;simp at h;subst h;show a.at_<bgn d at_;have h1:=hle a i;unfold Zv2 at l;split at l
    ·rename_i z hz
     have n:=ZD9 (Zm6 ok.up) i hz;have h3:=hle z (List.mem_of_getLast? hz);have y:z.at_≠bgn d at_:=by simpa using l
     omega
    ·rename_i hz;rw[List.getLast?_eq_none_iff.1 hz]at i;cases i
   ·show(Zk9 d at_ bs++[ZA7 d at_]).length<=12;rw[Awe,List.length_singleton];omega
  ·exact⟨hd,a0,m,λb hm=>⟨(e b hm).1,(e b hm).2.1⟩,Zm6 ok.up,by show(Zk9 d at_ bs).length<=12;omega⟩
structure GrO(O O':Nat->Prop)(h h':Zf):Prop where
  upd:Upd O h h'
  keep:∀k,O k->O' k
  new:∀k,O' k->O k\/sz h<=k
theorem GrO.refl{O:Nat->Prop}{h:Zf}:GrO O O h h:=⟨Upd.refl _ _,λ_ h=>h,λ_ h=>.inl h⟩
theorem GrO.ext{O O':Nat->Prop}{h h' a:Zf}(g:GrO O O' h h')(e:Ext h' a):GrO O O' h a:=⟨g.upd.trans (e.upd _),g.keep,g.new⟩
theorem GrO.put{O O':Nat->Prop}{h h' b:Zf}(g:GrO O O' h h'){S:Nat->Prop}(u:Upd S h' b)(d:∀k,S k->O' k):GrO O O' h b:=by
  refine⟨⟨Aqp g.upd.size u.size,λk a c=>?_⟩,g.keep,g.new⟩;rw[u.old k (Aqq a g.upd.size) λhs=>?_,g.upd.old k a c]
  rcases g.new k (d k hs)with h1|h1
  ·exact c h1
  ·have:k<sz h:=a;omega
theorem GrO.trans{O c d:Nat->Prop}{h h1 e:Zf}(g:GrO O c h h1)(b:GrO c d h1 e):GrO O d h e:=by obtain⟨u,k,n⟩:=g.put b.upd λk a=>a;exact⟨u,λk a=>b.keep k (g.keep k a),λk a=>(b.new k a).elim (g.new k) λf=>.inr (by have:sz h<=sz h1:=g.upd.size;omega)⟩
theorem ZvM{h:Zf}{b a wb:Nat}{d j at_ seed:Int}{t:Sl}{lb:List B3}{T1 T2:TypeId}(cb:obj h b=some (.cells [.pointer (some ⟨wb,0,none⟩)].toArray T1 (0,0)))(r:obj h a=some (.cells [iv j].toArray T2 (0,0)))
    (I:obj h wb=some (.cells [iv (d*10),iv 10,iv 4,iv 256,.int .u64 seed,slV t,iv at_].toArray 312 (0,0))) (ho:Own h 0 t 3 (lb.flatMap b3L)) (few:lb.length<=12) (n1:t.blk≠some b) (n2:t.blk≠some a) (W:t.blk≠some wb) (n4:b≠wb) {J:Unit->Zf->Prop}
    (g:∀h' t',Own h' 0 t' 3 ((lb++[((⟨j,0,λ_ _=>0⟩:Bk),sz h)]).flatMap b3L)->obj h' wb=some (.cells [iv (d*10),iv 10,iv 4,iv 256,.int .u64 seed,slV t',iv at_].toArray 312 (0,0))->Zrv h' (sz h) (λ_ _=>0)->obj h' b=some (.cells [.pointer (some ⟨wb,0,none⟩)].toArray T1 (0,0))->
      Upd (λk=>k=wb\/t.blk=some k) h h'->sz h+2<=sz h'->(t'.blk=t.blk\/t'.blk=some (sz h+2))->J () h'):
    ldP h b 0 λt47=>ldP h b 0 λt48=>Ze t48 λs u=>ldL h s (u+5) λt51=>ldI h a 0 .i64 λt52=>ZfD h λK f=>
      Zx (Zo f [(a,0,iv t52)])<|Zx (Zo f [(s,u+5,Value.slice t51.ptr t51.len t51.cap)])<|Zx (Zo f [(b,0,Value.pointer t48)])<|Zx (Zo f [(b,0,Value.pointer t47)])<|
      newC f [iv t52,iv 0,Value.map (some K)] 315 λL c=>
      Zx (Zo c [(a,0,iv t52)])<|Zx (Zo c [(s,u+5,Value.slice t51.ptr t51.len t51.cap)])<|Zx (Zo c [(b,0,Value.pointer t48)])<|Zx (Zo c [(b,0,Value.pointer t47)])<|
      rdS ⟨some ⟨L,0,none⟩,1,1⟩ 3 c λnew=>app 315 3 24 [iv 0,iv 0,Value.map none] t51 1 new c λt57 i=>
      Zx (Zo i [(a,0,iv t52)])<|Zx (Zo i [(b,0,Value.pointer t48)])<|Zx (Zo i [(b,0,Value.pointer t47)])<|
      Ze t47 λM N=>st i M (N+5) (Value.slice t57.ptr t57.len t57.cap) λO=>J () O:=by
  have hl:=Y2 Zf2 ho.row (by decide);have lw:=Zp I;have ag:=Zp cb;have ah:=Zp r;refine rP (Zb cb rfl) (rP (Zb cb rfl) (Zi (rL (Zb I rfl) (rI (Zb r rfl) ?_))));rw[Zr3];have B:Ext h (h.push (.map #[] 0)):=Ext.push _ _;have P:Zrv (h.push (.map #[] 0)) (sz h) (λ_ _=>0):=Zrv.new;have X:sz (h.push (.map #[] 0))=sz h+1:=ZbQ;generalize h.push (.map #[] 0)=h1 at B P X⊢;have w:=Zj cb B;have l:=Zj r B;have C:=Zj I B;have held:∀{Y:Zf} {b o:Nat} {v:Value},Zy o (obj Y b)=some v->Zo Y [(b,o,v)]:=λhc=>by rw[Za0,Zhq];exact⟨hc,trivial⟩
  refine⟨held (Zb l rfl),held (Zb C rfl),held (Zb w rfl),held (Zb w rfl),?_⟩;rw[ZiU];have z:Ext h1 (h1.push (.cells [iv j,iv 0,Value.map (some (sz h))].toArray 315 (0,0))):=Ext.push _ _
  have m:Row (h1.push (.cells [iv j,iv 0,Value.map (some (sz h))].toArray 315 (0,0))) ⟨some ⟨sz h1,0,none⟩,1,1⟩ 3 (b3L ((⟨j,0,λ_ _=>0⟩:Bk),sz h)):=
    (Own.newC (h:=h1) (cells:=b3L ((⟨j,0,λ_ _=>0⟩:Bk),sz h)) (t:=315) (size:=3) (n:=1) rfl (by decide)).row
  have Z:sz (h1.push (.cells [iv j,iv 0,Value.map (some (sz h))].toArray 315 (0,0)))=sz h+2:=by rw[ZbQ,X]
  generalize h1.push (.cells [iv j,iv 0,Value.map (some (sz h))].toArray 315 (0,0))=Q at z m Z⊢;have D:=B.trans z;have x:=Zj w z;have p:=Zj l z;have E:=Zj C z;refine⟨held (Zb p rfl),held (Zb E rfl),held (Zb x rfl),held (Zb x rfl),m.rd ?_⟩;have R:=ho.congr (h':=Q) λk g _ _=>D.old k (ho.lt g).2;refine Own.app R rfl (ZyQ _) rfl (by omega) (by omega) (Ayg _) λt3 h3 F aj A S=>?_;have y:=Y0 x A n1;have G:=Y0 p A n2;have T:=Y0 E A W;refine⟨held (Zb G rfl),held (Zb y rfl),held (Zb y rfl),Zi ?_⟩;refine ZcS T (by simp) XC λh4 U H z4=>?_;have q:t3.blk=t.blk\/t3.blk=some (sz h+2):=S.imp id λe=>by rw[e,YR,Z]
  have n33:t3.blk≠some wb:=λe=>by
    rcases q with V|V
    ·exact W (V▸e)
    ·rw[V]at e;cases e;omega
  have z3:sz h+2<=sz h3:=by have:sz Q<=sz h3:=A.size;omega
  refine g h4 t3 ?_ U ?_ (Y0 y H n4) ?_ (by omega) q
  ·rw[Ayl];have:=F.congr (h':=h4) λk g _ _=>H.old k (F.lt g).2 λe=>n33 (e▸g);simpa using this
  ·refine((P.congr (z.old _ P.lt)).congr (A.old _ (by show sz h<sz Q;omega) λe=>?_)).congr (H.old _ (by show sz h<sz h3;omega) λe=>by omega);have:=(ho.lt e).2;rw[YR]at this;omega
  ·exact((D.upd _).trans (A.mono λk _ g=>.inr g)).trans (H.mono λk _ g=>.inl g)
def ZE9(n:Int->Int->Int)(seed x:Int)(key:ByteArray):Nat->Int->Int->Int
  | 0=>n
  |i+1=>ZwC (ZE9 n seed x key i) i (ZsT seed i key) (spl (ZE9 n seed x key i i (ZsT seed i key)) x)
def Zrg(b:Bk)(seed x:Int)(key:ByteArray)(k:Nat):Bk:=⟨b.at_,spl b.total x,ZE9 b.n seed x key k⟩
def ZtE(l:List Bk)(f:Bk->Bk):List Bk:=match l.getLast? with
  |some b=>l.set (l.length- 1) (f b)
  |none=>l
def Sk.add(s:Sk)(at_ x:Int)(key:ByteArray):Sk:=⟨s.d,s.seed,at_,ZtE (ZoZ s.d at_ s.bs) λb=>Zrg b s.seed x key 4⟩
def Sk.took(s:Sk)(at_ x:Int)(key:ByteArray):Sk:=if YC s.last at_=0 then s.add at_ x key else s
theorem ZrF(l a:Int):YC l a=0\/YC l a=2\/YC l a=7:=by
  unfold YC;split
  ·exact .inr (.inl rfl)
  ·split
   ·exact .inr (.inl rfl)
   ·split
    ·exact .inr (.inr rfl)
    ·exact .inl rfl
theorem ZvN{h h0:Zf}{O:Nat->Prop}{wb b i:Nat}{sl t:Sl}{lb:List B3}{s:Sk}(hs:SkR h0 O wb sl lb s){at_:Int}(hw:YC s.last at_=0){T1 T2:TypeId}
    (cb:obj h b=some (.cells [.pointer (some ⟨wb,0,none⟩)].toArray T1 (0,0))) (H:obj h i=some (.cells [iv (bgn s.d at_)].toArray T2 (0,0))) (Q:obj h wb=some (.cells [iv (s.d*10),iv 10,iv 4,iv 256,.int .u64 s.seed,slV t,iv at_].toArray 312 (0,0)))
    (R:sz h0<=b/\b<i/\i<sz h) (ho:Own h 0 t 3 ((lb.filter λx=> !ZkP s.d (bgn s.d at_) x).flatMap b3L)) (S:t.blk=sl.blk\/t.blk=none) (hu:Upd (λk=>k=wb\/sl.blk=some k) h0 h) {J:Unit->Zf->Prop}
    (f:∀h' O' T U,SkR h' O' wb T U (s.opened at_)->GrO O O' h0 h'->¬O' b->obj h' b=some (.cells [.pointer (some ⟨wb,0,none⟩)].toArray T1 (0,0))->J () h'):
    ldP h b 0 λt43=>Ze t43 λV W=>ldL h V (W+5) λt46=>Zc (t46.len:Int) λk=>
      Zk (k==0) (
      ldP h b 0 λt47=>ldP h b 0 λt48=>Ze t48 λu v=>ldL h u (v+5) λt51=>ldI h i 0 .i64 λt52=>ZfD h λA l=>
      Zx (Zo l [(i,0,iv t52)])<|Zx (Zo l [(u,v+5,Value.slice t51.ptr t51.len t51.cap)])<|Zx (Zo l [(b,0,Value.pointer t48)])<|Zx (Zo l [(b,0,Value.pointer t47)])<|
      newC l [iv t52,iv 0,Value.map (some A)] 315 λB j=>
      Zx (Zo j [(i,0,iv t52)])<|Zx (Zo j [(u,v+5,Value.slice t51.ptr t51.len t51.cap)])<|Zx (Zo j [(b,0,Value.pointer t48)])<|Zx (Zo j [(b,0,Value.pointer t47)])<|
      rdS ⟨some ⟨B,0,none⟩,1,1⟩ 3 j λnew=>app 315 3 24 [iv 0,iv 0,Value.map none] t51 1 new j λt57 p=>
      Zx (Zo p [(i,0,iv t52)])<|Zx (Zo p [(b,0,Value.pointer t48)])<|Zx (Zo p [(b,0,Value.pointer t47)])<|
      Ze t47 λC D=>st p C (D+5) (Value.slice t57.ptr t57.len t57.cap) λE=>J () E) (
      ldP h b 0 λt62=>Ze t62 λX Y=>ldL h X (Y+5) λt65=>Yk t65.ptr t65.len (IntKind.wrap .i64 (k- 1)) 3 λZ aa=>ldI h Z aa .i64 λt68=>ldI h i 0 .i64 λt69=>
      Zk (t68 !=t69) (
      ldP h b 0 λt47=>ldP h b 0 λt48=>Ze t48 λu v=>ldL h u (v+5) λt51=>ldI h i 0 .i64 λt52=>ZfD h λA l=>
      Zx (Zo l [(i,0,iv t52)])<|Zx (Zo l [(u,v+5,Value.slice t51.ptr t51.len t51.cap)])<|Zx (Zo l [(b,0,Value.pointer t48)])<|Zx (Zo l [(b,0,Value.pointer t47)])<|
      newC l [iv t52,iv 0,Value.map (some A)] 315 λB j=>
      Zx (Zo j [(i,0,iv t52)])<|Zx (Zo j [(u,v+5,Value.slice t51.ptr t51.len t51.cap)])<|Zx (Zo j [(b,0,Value.pointer t48)])<|Zx (Zo j [(b,0,Value.pointer t47)])<|
      rdS ⟨some ⟨B,0,none⟩,1,1⟩ 3 j λnew=>app 315 3 24 [iv 0,iv 0,Value.map none] t51 1 new j λt57 p=>
      Zx (Zo p [(i,0,iv t52)])<|Zx (Zo p [(b,0,Value.pointer t48)])<|Zx (Zo p [(b,0,Value.pointer t47)])<|
      Ze t47 λC D=>st p C (D+5) (Value.slice t57.ptr t57.len t57.cap) λE=>J () E) (J () h)):=by
  have ab:=hs.ok;have I:=Sk.opened_ok hs.ok hw;have hl:=Y2 Zf2 ho.row (by decide);have aw:=Zp hs.cells;have w:∀k,sz h0<=k->¬O k:=λk f m=>by have:=hs.lt k m;omega
  have y:∀k,t.blk=some k->O k:=λk f=>by
    rcases S with e|e
    ·exact hs.ts k (e▸f)
    ·rw[e]at f;cases f
  have n1:t.blk≠some b:=λe=>w _ R.1 (y _ e);have n2:t.blk≠some i:=λe=>w _ (by omega) (y _ e)
  have n3:t.blk≠some wb:=λe=>by
    rcases S with F|F
    ·exact hs.ne (F▸e)
    ·rw[F]at e;cases e
  have n5:∀x,x∈lb->t.blk≠some x.2:=λx g e=>by
    rcases S with F|F
    ·exact hs.mt x g (F▸e)
    ·rw[F]at e;cases e
  have fm:(lb.filter λx=> !ZkP s.d (bgn s.d at_) x).map (·.1)=Zk9 s.d at_ s.bs:=by
    unfold Zk9;rw[<-hs.bs,List.filter_map];rfl
  have few:(lb.filter λx=> !ZkP s.d (bgn s.d at_) x).length<=12:=by
    have h1:(lb.filter λx=> !ZkP s.d (bgn s.d at_) x).length<=lb.length:=List.length_filter_le _ _;have h2:lb.length=s.bs.length:=by rw[<-hs.bs,Ayv]
    have:=ab.few;omega
  have nd:((lb.filter λx=> !ZkP s.d (bgn s.d at_) x).map (·.2)).Nodup:=hs.nd.sublist (List.filter_sublist.map _)
  have mp:∀x,x∈lb.filter (λx=> !ZkP s.d (bgn s.d at_) x)->Zrv h x.2 x.1.n/\O x.2:=λx g=>by
    have z:=(Axt.1 g).1;obtain⟨K,m2⟩:=hs.maps x z;refine⟨K.congr (hu.old _ K.lt λe=>?_),m2⟩
    rcases e with e|e
    ·exact hs.mw z e
    ·exact hs.mt x z e
  have hz:sz h0<=sz h:=hu.size
  have g0:GrO O O h0 h:=GrO.refl.put hu λk f=>by
    rcases f with rfl|f
    ·exact hs.tw
    ·exact hs.ts k f
  have push:Zv2 s.d at_ (Zk9 s.d at_ s.bs)=true->_:=λhn=>ZvM (J:=J) cb H Q ho few n1 n2 n3 (by omega) λh' t' L ag ah ai M az aj=>by
    have r:∀k,t'.blk=some k->t.blk=some k\/k=sz h+2:=λk f=>by
      rcases aj with e|e
      ·exact .inl (e▸f)
      ·rw[e]at f;cases f;exact .inr rfl
    have ak:∀x,x∈lb->t'.blk≠some x.2:=λx g e=>by
      rcases r _ e with m|m
      ·exact n5 x g m
      ·have:=hs.lt _ (hs.maps x g).2;omega
    have g1:=g0.put M λk f=>by
      rcases f with rfl|f
      ·exact hs.tw
      ·exact y k f
    refine f h' (λk=>O k\/k=sz h\/t'.blk=some k) t' _ ⟨I,ag,L,?_,?_,λx g=>?_,.inl hs.tw,λk f=>.inr (.inr f),λe=>?_,λx g e=>?_,λk f=>?_⟩ ⟨g1.upd,λk f=>.inl f,λk f=>?_⟩ ?_ ai
    ·rw[Ayw,fm];show _=ZoZ s.d at_ s.bs;unfold ZoZ;rw[if_pos hn];rfl
    ·rw[Ayw,List.nodup_append];refine⟨nd,by simp,λa ha c hc=>?_⟩;simp at hc;subst hc;obtain⟨x,g,rfl⟩:=Axz.1 ha;intro e;exact w _ hz (e▸(mp x g).2)
    ·rcases Axx.1 g with g|g
     ·obtain ⟨K,m2⟩:=mp x g;have z:=(Axt.1 g).1;refine⟨K.congr (M.old _ K.lt λe=>?_),.inl m2⟩
      rcases e with e|e
      ·exact hs.mw z e
      ·exact n5 x z e
     ·simp at g;subst g;exact⟨ah,.inr (.inl rfl)⟩
    ·rcases r _ e with m|m
     ·exact n3 m
     ·omega
    ·rcases Axx.1 g with g|g
     ·exact ak x (Axt.1 g).1 e
     ·simp at g;subst g
      rcases r _ e with m|m
      ·exact w _ hz (y _ m)
      ·dsimp only at m;omega
    ·rcases f with f|f|f
     ·have:=hs.lt k f;omega
     ·omega
     ·exact(L.lt f).2
    ·rcases f with f|f|f
     ·exact .inl f
     ·right;omega
     ·rcases r _ f with m|m
      ·exact .inl (y _ m)
      ·right;omega
    ·rintro (m|m|m)
     ·exact w _ R.1 m
     ·omega
     ·rcases r _ m with h8|h8
      ·exact n1 h8
      ·omega
  refine rP (Zb cb rfl) (Zi (rL (Zb Q rfl) (Za ?_)));refine⟨λq=>?_,λq=>?_⟩
  ·have h0:(lb.filter λx=> !ZkP s.d (bgn s.d at_) x)=[]:=by
     have m:(t.len:Int)=0:=by simpa using q
     exact Aqr (by omega)
   exact push (by rw[<-fm,h0];rfl)
  ·have q0:t.len≠0:=by
     intro e;rw[e]at q;exact absurd q (by decide)
   have au:=ho.big;have av:=ho.cap;obtain⟨x,g⟩:∃x,(lb.filter λx=> !ZkP s.d (bgn s.d at_) x)[t.len- 1]?=some x:=⟨_,Axy (by omega)⟩;obtain⟨bb,o,_,_,N,G⟩:=Zab Zf2 ho.row g (by decide)
   have al:(Zk9 s.d at_ s.bs).getLast?=some x.1:=by
     rw[<-fm,List.getLast?_eq_getElem?,Awy,Ayv,<-hl,g];rfl
   refine rP (Zb cb rfl) (Zi (rL (Zb Q rfl) (N (by rw[Yw (by omega) (by omega)];omega) (rI (G 0 _ rfl) (rI (Zb H rfl) ?_)))));have P:Zv2 s.d at_ (Zk9 s.d at_ s.bs)=(x.1.at_ !=bgn s.d at_):=by unfold Zv2;rw[al]
   refine⟨λq1=>push (by rw[P];exact q1),λq1=>?_⟩;refine f h O t _ ⟨I,Q,ho,?_,nd,mp,hs.tw,y,n3,λx g=>n5 x (Axt.1 g).1,λk f=>by have:=hs.lt k f;omega⟩ g0 (w _ R.1) cb;rw[fm];show _=ZoZ s.d at_ s.bs;unfold ZoZ;rw[if_neg (by rw[P,q1];decide)]
theorem Zv5{l:List Bk}{b:Bk}(h:l.getLast?=some b)(f:Bk->Bk):ZtE l f=l.set (l.length- 1) (f b):=by unfold ZtE;rw[h]
theorem ZGS{sl:Sl}{n:Nat}{h:Zf}{lb:List B3}(ho:Own h n sl 3 (lb.flatMap b3L)):sl.len=lb.length:=Y2 Zf2 ho.row (by decide)
theorem ZvO{h h0:Zf}{O0 O:Nat->Prop}{wb b nb:Nat}{sl:Sl}{lb:List B3}{s:Sk}(hs:SkR h O wb sl lb s)(hg:GrO O0 O h0 h){bk:Bk}(hl:s.bs.getLast?=some bk){x:Int}(hx:0<=x/\x<=1099511627776){key:ByteArray}(Y:key.size<9223372036854775808){T1 T2:TypeId}
    (cb:obj h b=some (.cells [.pointer (some ⟨wb,0,none⟩)].toArray T1 (0,0))) (cn:obj h nb=some (.cells [iv x].toArray T2 (0,0))) (tb:¬O b) (tn:¬O nb) {K:Int->Zf->Prop}
    (B:∀h',SkR h' O wb sl (lb.set (lb.length- 1) (Zrg bk s.seed x key 4,(lb[lb.length- 1]?.map (·.2)).getD 0)) ⟨s.d,s.seed,s.last,s.bs.set (s.bs.length- 1) (Zrg bk s.seed x key 4)⟩->GrO O0 O h0 h'->K 0 h'):
    ldP h b 0 λt88=>Ze t88 λaA aB=>ldL h aA (aB+5) λt91=>ldP h b 0 λt92=>Ze t92 λaC aD=>ldL h aC (aD+5) λt95=>
      Yk t91.ptr t91.len (IntKind.wrap .i64 ((t95.len:Int)- 1)) 3 λC D=>
      ZP (σ:=Int×Unit) (λaE aF A=>(λ(E:Int)=>
       Zk (decide (E<((1:Nat):Int))) (Yk (some ⟨nb,0,none⟩) 1 E 1 λZ aa=>ldI A Z aa .i64 λt103=>Zc t103 λP=>ldI A C (D+1) .i64 λt105=>
        ZbX t105 P (λt106 ab=>st ab C (D+1) (iv t106) λF=>ldP F b 0 λt109=>Ze t109 λae af=>ldI F ae (af+2) .i64 λt112=>
         ZP (σ:=Int×Unit) (λag ah l=>(λ(G:Int)=>
          Zk (decide (G<t112)) (Zc G λrow=>ldP l b 0 λt116=>Ze t116 λt u=>
           ldI l t u .i64 λt119=>ldI l t (u+1) .i64 λt120=>ldI l t (u+2) .i64 λt121=>ldI l t (u+3) .i64 λt122=>ldI l t (u+4) .u64 λt123=>
           Xr (t119,t120,t121,t122,t123,()) row key (λt124 ai=>
            newC ai [iv 0,iv 0] 317 λg aj=>sts aj g 0 [iv row,iv t124] λf=>
            ldM f C (D+2) λt129=>ldI f g 0 .i64 λt130=>ldI f g (0+1) .i64 λt131=>ldM f C (D+2) λt132=>ldI f g 0 .i64 λt133=>ldI f g (0+1) .i64 λt134=>
            ZbA [(.int .i64),(.int .i64)] f t132 [iv t133,iv t134] λr=>asI (r.getD (iv 0)) .i64 λt135=>
            Zx (Zo f [(g,0,iv t130),(g,0+1,iv t131)])<|Zx (Zo f [(C,D+2,Value.map t129)])<|
            ZbX t135 P (λt136 H=>
             Zx (Zo H [(g,0,iv t130),(g,0+1,iv t131)])<|Zx (Zo H [(C,D+2,Value.map t129)])<|
             Zh7 [(.int .i64),(.int .i64)] H t129 [iv t130,iv t131] (iv t136) λak=>ag (IntKind.wrap .i64 (G+1),()) ak) f) l)
           (aE (IntKind.wrap .i64 (E+1),()) l)) ah.1) (0,()) F) A)
       (Zc 0 λt139=>K t139 A)) aF.1) (0,()) h:=by
  have hlen:=ZGS hs.own;have bh:lb.length=s.bs.length:=by rw[<-hs.bs,Ayv]
  have aW:0<s.bs.length:=by
    rcases Aqw s.bs.length with h0|h0
    ·rw[Aqr h0]at hl;cases hl
    ·exact h0
  have aX:=hs.own.big;have aY:=hs.own.cap;have few:=hs.ok.few;obtain⟨y,S⟩:∃y,lb[lb.length- 1]?=some y:=⟨_,Axy (by omega)⟩
  have aG:y.1=bk:=by
    rw[List.getLast?_eq_getElem?,<-hs.bs,Awy,Ayv,S]at hl;exact Option.some.inj hl
  have T:=(hs.ok.bs bk (List.mem_of_getLast? hl)).1;subst aG;obtain⟨y1,mb⟩:=y;dsimp only at hl T;rw[S]at B;dsimp only[Option.map_some,Option.getD_some]at B;refine rP (Zb cb rfl) (Zi (rL (Zb hs.cells rfl) (rP (Zb cb rfl) (Zi (rL (Zb hs.cells rfl) ?_)))));obtain⟨bb,hp,U⟩:=Own.ptr_ hs.own (o:=(lb.length- 1)*3) (by rw[YN Zf2];omega);have aH:=hs.ts bb U;have aI:∀{k},¬O k->k≠bb:=λB e=>B (e▸aH);have aJ:∀{k},¬O k->k≠mb:=λB e=>B (e▸(hs.maps _ (Axo S)).2);refine⟨bb,0,hp,by rw[Yw (by omega) (by omega)];omega,by rw[Yw (by omega) (by omega)];omega,?_⟩;have ho:0+(IntKind.wrap .i64 ((sl.len:Int)- 1)).toNat*3=(lb.length- 1)*3:=by rw[Yw (by omega) (by omega)];omega
  rw[ho];clear ho;generalize hm:lb.length- 1=m at S B⊢;have aK:s.bs.length- 1=m:=by omega
  rw[aK]at B
  have elem:∀{w:Zf} {L:List B3} {s':Sk} {z:B3},SkR w O wb sl L s'->L[m]?=some z->∀j v,(b3L z)[j]?=some v->Zy (m*3+j) (obj w bb)=some v:=λ{w L s' z} ao hz j v hv=>by
    rcases ao.own.row.at_ with h9|⟨b9,o9,aL,aM⟩
    ·have:=ZGS ao.own;have:=ZbP hz;omega
    ·have aq:=hp
     rw[aL]at aq;cases aq;have hj:j<3:=by rw[<-Zf2 z];exact ZbP hv
     have:=Zh9 aM (i:=m*3+j) (v:=v) (by rw[Zq8 Zf2 L m j z hz hj];exact hv);rw[Yg,Awb]at this;exact this
  have ba:∀(z:B3),lb.set m z=lb.set m z:=λ_=>rfl;have M:∀(a c:B3),(lb.set m a).set m c=lb.set m c:=λa c=>List.set_set _;have I:∀(a c:Bk),(s.bs.set m a).set m c=s.bs.set m c:=λa c=>List.set_set _;have p:∀(a:B3),(lb.set m a)[m]?=some a:=λa=>Ayu (ZbP S);refine Zaj (λst w=>(st=(0,())/\w=h)\/(st=(1,())/\SkR w O wb sl (lb.set m (Zrg y1 s.seed x key 4,mb)) ⟨s.d,s.seed,s.last,s.bs.set m (Zrg y1 s.seed x key 4)⟩/\GrO O0 O h0 w)) (λst _=>(1-st.1).toNat) (.inl ⟨rfl,rfl⟩) ?_;rintro _ w (⟨rfl,rfl⟩ |⟨rfl,aN,aO⟩) Q hQ
  case inr=>exact Zh (by decide) (B w aN aO)
  dsimp only;refine Zm (by decide) ?_;refine⟨nb,0,rfl,by decide,by decide,rI (Zb cn rfl) ?_⟩;rw[Zbz];have v1:=elem hs S 1 _ rfl;refine rI v1 (Zl7 T.total (by omega) ?_);refine hs.setTot S (Ztl T.total (by omega)) U rfl λh2 V u2 z2=>?_;dsimp only at V;have ar:=Y0 cb u2 λe=>by rw[U]at e;cases e;exact aI tb rfl
  have aP:=hg.put u2 λk B=>hs.ts k B;refine rP (Zb ar rfl) (Zi (rI (Zb V.cells rfl) ?_))
  refine Zaj (λst w=>∃i:Nat,st=((i:Int),())/\i<=4/\SkR w O wb sl (lb.set m (Zrg y1 s.seed x key i,mb)) ⟨s.d,s.seed,s.last,s.bs.set m (Zrg y1 s.seed x key i)⟩/\GrO O0 O h0 w/\obj w b=some (.cells [.pointer (some ⟨wb,0,none⟩)].toArray T1 (0,0))) (λst _=>(4-st.1).toNat)
    ⟨0,rfl,by omega,V,aP,ar⟩ ?_
  rintro _ bm ⟨i,rfl,hi,W,au,av⟩ Q2 aQ;dsimp only;refine Zn (λq=>?_) λq=>?_
  ·rw [Zbz]
   have cw:=W.cells;refine rP (Zb av rfl) (Zi (rI (Zb cw rfl) (rI (Zb cw rfl) (rI (Zb cw rfl) (rI (Zb cw rfl) (rI (Zb cw rfl) ?_))))));refine Zoq Y λh3 e3 z3=>?_;have aS:=W.ext e3;rw[ZiU,Zph (by simp (maxDischargeDepth:=60) only[ZM,ZL,evC,Nqa,Nqb,Nqc,Nqd,Nqe,reduceCtorEq]) (by simp (maxDischargeDepth:=60) only[ZM,ZL,evC,Nqa,Nqb,Nqc,Nqd,Nqe,reduceCtorEq])];have e4:Ext h3 (Zf.puts (h3.push (.cells [iv 0,iv 0].toArray 317 (0,0))) (sz h3) 0 [iv i,iv (ZsT s.seed i key)]):=Zb8 (X7 (Ext.refl _)) (Aqo _);have a4:obj (Zf.puts (h3.push (.cells [iv 0,iv 0].toArray 317 (0,0))) (sz h3) 0 [iv i,iv (ZsT s.seed i key)]) (sz h3)=some (.cells [iv i,iv (ZsT s.seed i key)].toArray 317 (0,0)):=by simp (maxDischargeDepth:=60) only[ZM,ZL,evC,Nqa,Nqb,Nqc,Nqd,Nqe,reduceCtorEq]
   dsimp only;generalize Zf.puts (h3.push (.cells [iv 0,iv 0].toArray 317 (0,0))) (sz h3) 0 [iv i,iv (ZsT s.seed i key)]=h4 at e4 a4⊢;have N:=aS.ext e4;have w2:=elem N (p _) 2 _ rfl;refine rM w2 (rI (Zb a4 rfl) (rI (Zb a4 rfl) (rM w2 (rI (Zb a4 rfl) (rI (Zb a4 rfl) ?_)))));obtain⟨m1,m2⟩:=N.maps _ (Axo (p _));have R:=(N.ok.bs (Zrg y1 s.seed x key i) (Axo (i:=m) (Ayu (by omega)))).1
   have Yj:∀{w:Zf},obj w (sz h3)=some (.cells [iv i,iv (ZsT s.seed i key)].toArray 317 (0,0))->Zo w [(sz h3,0,iv i),(sz h3,0+1,iv (ZsT s.seed i key))]:=λhc=>by
     rw[Za0,Za0,Zhq];exact⟨Zb hc rfl,Zb hc rfl,trivial⟩
   have J:Zo h4 [(bb,m*3+2,Value.map (some mb))]:=by rw[Za0,Zhq];exact⟨w2,trivial⟩
   refine m1.get i (ZsT s.seed i key) ⟨Yj a4,J,Zl7 (R.n _ _) (by omega) ⟨Yj a4,J,?_⟩⟩;refine N.setMap (p _) (Ztl (R.n _ _) (by omega)) λh5 X u5 z5=>?_;have aU:IntKind.wrap .i64 ((i:Int)+1)=((i+1:Nat):Int):=by rw[Yw (by omega) (by omega)];rfl
   dsimp only at X;rw[M,I]at X;have aV:=Y0 (Zj (Zj av e3) e4) u5 (aJ tb);rw[aU];exact aQ _ _ ⟨i+1,rfl,by omega,X,((au.ext e3).ext e4).put u5 λk B=>by rw[B];exact m2,aV⟩ (by dsimp only;omega)
  ·have:i=4:=by omega
   subst this;exact hQ _ _ (.inr ⟨rfl,W,au⟩) (by decide)
theorem Zxy{h:Zf}{O:Nat->Prop}{wb z:Nat}{sl:Sl}{lb:List B3}{s:Sk}(hs:SkR h O wb sl lb s){at_ x:Int}(hx:0<=x/\x<=1099511627776){key:ByteArray}(B:key.size<9223372036854775808){T2:TypeId}
    (cn:obj h z=some (.cells [iv x].toArray T2 (0,0))) (tn:¬O z) {K:Int->Zf->Prop} (a:∀h' O' g c,SkR h' O' wb g c (s.took at_ x key)->GrO O O' h h'->K (YC s.last at_) h'):
    ZbY (some ⟨wb,0,none⟩) at_ key ⟨some ⟨z,0,none⟩,1,1⟩ K h:=by
  unfold ZbY Zew;rw[ZiU,Zbz];have C:Ext h (h.push (.cells [Value.pointer (some ⟨wb,0,none⟩)].toArray 230 (0,0))):=Ext.push _ _;have cb:obj (h.push (.cells [Value.pointer (some ⟨wb,0,none⟩)].toArray 230 (0,0))) (sz h)=some (.cells [Value.pointer (some ⟨wb,0,none⟩)].toArray 230 (0,0)):=by simp (maxDischargeDepth:=60) only[ZM,ZL,evC,Nqa,Nqb,Nqc,Nqd,Nqe,reduceCtorEq]
  have z1:sz (h.push (.cells [Value.pointer (some ⟨wb,0,none⟩)].toArray 230 (0,0)))=sz h+1:=ZbQ;generalize h.push (.cells [Value.pointer (some ⟨wb,0,none⟩)].toArray 230 (0,0))=h1 at C cb z1⊢;have i:=hs.ext C;have V:=Zj cn C;have D:GrO O O h h1:=GrO.refl.ext C;refine rP (Zb cb rfl) (Zuk i.cells ?_);unfold Sk.took at a;rw[Zbz]
  have j:(YC s.last at_==1)=false:=by rcases ZrF s.last at_ with e|e|e<;>rw[e]<;>decide
  refine Zh j ?_;refine⟨λq=>?_,λq=>?_⟩
  ·have q2:YC s.last at_=2:=by simpa using q
   rw[if_neg (by omega)]at a;exact a h1 O sl lb i D
  have q2:YC s.last at_≠2:=by simpa using q
  refine Zaj (λst l=>(st=(0,())\/st=(1,()))/\l=h1) (λst _=>(1-st.1).toNat) ⟨.inl rfl,rfl⟩ ?_;rintro _ l ⟨rfl|rfl,rfl⟩ Q P
  ·dsimp only;refine Zm (by simp) ⟨z,0,rfl,by decide,by decide,rI (Zb V rfl) ?_⟩;rw[Zbz];exact Zh (decide_eq_false (by omega)) (Zh (decide_eq_false (by omega)) (P _ _ ⟨.inr rfl,rfl⟩ (by decide)))
  dsimp only;refine Zh (by simp) ?_;refine⟨λR=>?_,λR=>?_⟩
  ·have q4:YC s.last at_≠0:=by simpa using R
   rw[if_neg q4]at a;exact a l O sl lb i D
  have hw:YC s.last at_=0:=by simpa using R
  clear q q2 R j P Q;rw[if_pos hw,hw]at a;obtain⟨a0,W,a2⟩:=Zgi hw;have lw:=Zp i.cells;have aI:=Zp cb;have m:∀k,sl.blk=some k->k<sz h:=λk a=>hs.lt k (hs.ts k a);have aJ:wb<sz h:=hs.lt wb hs.tw;have n:sl.blk≠some wb:=hs.ne;refine rP (Zb cb rfl) (Zi (ZcS i.cells (by simp) ZdD λh2 E u2 z2=>?_));have F:=Y0 cb u2 (by omega);have f:obj h2 wb=some (.cells [iv (s.d*10),iv 10,iv 4,iv 256,.int .u64 s.seed,slV sl,iv at_].toArray 312 (0,0)):=E;clear E;refine rP (Zb F rfl) (Zi (rI (Zb f rfl) (rI (Zb f rfl) (rI (Zb f rfl) (rI (Zb f rfl) (rI (Zb f rfl) ?_))))));refine Zp1 hs.ok.d a0 W λh3 X z3=>?_;have Y:=Zj F X;have Z:=Zj f X;rw[ZiU];have S:Ext h3 (h3.push (.cells [iv 0].toArray 3 (0,0))):=Ext.push _ _;have c4:obj (h3.push (.cells [iv 0].toArray 3 (0,0))) (sz h3)=some (.cells [iv 0].toArray 3 (0,0)):=by simp (maxDischargeDepth:=60) only[ZM,ZL,evC,Nqa,Nqb,Nqc,Nqd,Nqe,reduceCtorEq]
  have z4:sz (h3.push (.cells [iv 0].toArray 3 (0,0)))=sz h3+1:=ZbQ;generalize h3.push (.cells [iv 0].toArray 3 (0,0))=h4 at S c4 z4⊢;refine ZcS c4 (by decide) ZdD λT c5 u5 z5=>?_;have G:obj T (sz h3)=some (.cells [iv (bgn s.d at_)].toArray 3 (0,0)):=c5;clear c5;have p:=Y0 (Zj Y S) u5 (by omega);have r:=Y0 (Zj Z S) u5 (by omega);have ab:=Zp r;have ae:0<=bgn s.d at_/\bgn s.d at_<=at_:=by have:=Zrk hs.ok.d.1 a0;omega
  have H:Upd (λk=>k=wb) l T:=by
    refine⟨by rw[YR,YR];omega,λk a hn=>?_⟩;have aM:k<sz l:=a;rw[u5.old k (by rw[YR];omega) (by omega),S.old k (by rw[YR];omega),X.old k (by rw[YR];omega),u2.old k a hn]
  have af:Own T 0 sl 3 (lb.flatMap b3L):=i.own.congr λk a hl _=>H.old k hl λe=>n (e▸a);refine rP (Zb p rfl) (rP (Zb p rfl) (Zi (rL (Zb r rfl) ?_)));refine Zxx hs.ok.d ⟨ae.1,by omega⟩ G p (Zb r rfl) ab af (λe=>by have:=m _ e;omega) (λe=>by have:=m _ e;omega) n λt h6 ag I J=>?_;have w:=Y0 p J (λe=>by have:=m _ e;omega);have ah:=Y0 G J (λe=>by have:=m _ e;omega);have ai:=Y0 r J n;have held:∀{l:Zf} {b o:Nat} {v:Value},Zy o (obj l b)=some v->Zo l [(b,o,v)]:=λhc=>by rw[Za0,Zhq];exact⟨hc,trivial⟩
  refine⟨held (Zb w rfl),held (Zb w rfl),Zi (ZcS ai (by simp) XC λh7 L U z7=>?_)⟩;have M:obj h7 wb=some (.cells [iv (s.d*10),iv 10,iv 4,iv 256,.int .u64 s.seed,slV t,iv at_].toArray 312 (0,0)):=L;clear L;have z6:sz T<=sz h6:=J.size;have ak:=Y0 w U (by omega);have c7:=Y0 ah U (by omega)
  have al:t.blk≠some wb:=λe=>by
    rcases I with u|u
    ·exact n (u▸e)
    ·rw[u]at e;cases e
  have an:=ag.congr (h':=h7) λk a hl _=>U.old k hl λe=>al (e▸a);have ao:Upd (λk=>k=wb\/sl.blk=some k) l h7:=(((H.mono λk _ a=>.inl a).trans (J.mono λk _ a=>.inr a))).trans (U.mono λk _ a=>.inl a);refine ZoF (λ_ A=>∃O' g c,SkR A O' wb g c (s.opened at_)/\GrO O O' h A/\¬O' (sz h)/\obj A (sz h)=some (.cells [.pointer (some ⟨wb,0,none⟩)].toArray 230 (0,0))) ?_ ?_
  ·rintro _ A ⟨O',g,c,aq,y,ar,au⟩;obtain⟨bk,N,_⟩:=ZvY s.d at_ s.bs
   have av:¬O' z:=λA=>by
     rcases y.new z A with u|u
     ·exact tn u
     ·have:=Zp cn;omega
   have aw:=Y0 cn y.upd tn;refine ZvO aq y (bk:=bk) N hx B au aw ar av λu ax ay=>a u O' g (c.set (c.length- 1) (Zrg bk s.seed x key 4,(c[c.length- 1]?.map (·.2)).getD 0)) ?_ ay;unfold Sk.add;rw[Zv5 N];exact ax
  ·intro Q P;exact ZvN hs hw ak c7 M (by omega) an I ((C.upd _).trans ao) λh' O' g c W a2 a3 a4=>P _ _ ⟨O',g,c,W,a2,a3,a4⟩
def Sk.new(d seed:Int):Sk:=⟨d,seed,0,[]⟩
theorem Zv1{h:Zf}{d seed:Int}(hd:1<=d/\d<=360000000){K:Option Addr->Int->Zf->Prop}(a:∀h',SkR h' (· = sz h) (sz h) ⟨none,0,0⟩ [] (Sk.new d seed)->Ext h h'->sz h'=sz h+1->K (some ⟨sz h,0,none⟩) 0 h'):
    ZhR (d*10) 10 4 256 seed K h:=by
  unfold ZhR Zke
  have c:∀{n most:Int} {K:Bool->Zf->Prop} {h:Zf},1<=n/\n<=most->K true h->Zf8 n most K h:=λ{n most K h} i a=>by
    unfold Zf8 Zib;refine Zm (decide_eq_true (by omega)) ?_;rw[ZlU,decide_eq_true i.2];exact a
  refine Za (c (by omega) (ZB (c (by decide) (ZB (c (by decide) (ZB (c (by decide) ?_)))))));rw[ZlU];refine ZB ⟨by decide,?_⟩;rw[ZlU];refine Zh (by rw[Int.mul_tmod_left];decide) (ZF λh1 c1 j g=>Za (a h1 ⟨⟨hd,Int.le_refl _,(by decide:(0:Int)<=1152921504606846976),(λb l=>by cases l),List.Pairwise.nil,Ayg _⟩,c1,Own.nil _ _ _,rfl,List.nodup_nil,(λx f=>by cases f),rfl,(λk a=>by cases a),(λe=>by cases e),(λx f=>by cases f),λk a=>?_⟩ j g));have:sz h1=sz h+1:=g;omega
theorem Zrr{h:Zf}{O:Nat->Prop}{wb:Nat}{sl:Sl}{lb:List B3}{s:Sk}(hs:SkR h O wb sl lb s){at_:Int}{key:ByteArray}(a:key.size<9223372036854775808){K:Int->Int->Zf->Prop}(b:∀h' e,Ext h h'->K (s.used at_ key) e h'):X5 (some ⟨wb,0,none⟩) at_ key K h:=by
  unfold X5 ZbL;refine Za (Za (Zuk hs.cells (Za ?_)));unfold Sk.used at b
  rcases Decidable.em (YC s.last at_=0)with q|q
  ·rw[q];rw[if_pos q]at b;obtain⟨a0,c,f⟩:=Zgi q;exact Zh (by decide) (Zxr hs a0 c a λh' d=>Za (Za (b h' _ d)))
  ·rw[if_neg q]at b;exact Zm (by simpa using q) (Za (Za (b _ _ (Ext.refl _))))
def ZrJ{α:Type}(f:ByteArray->Option α)(k:ByteArray)(v:Option α):ByteArray->Option α:=λj=>if j=k then v else f j
theorem ZjN{α:Type}(f:ByteArray->Option α)(k:ByteArray)(v:Option α):ZrJ f k v k=v:=if_pos rfl
theorem Zh4{α:Type}(f:ByteArray->Option α){k j:ByteArray}(v:Option α)(h:j≠k):ZrJ f k v j=f j:=if_neg h
structure Zwz(es:Array MapEntry)(f:ByteArray->Option Value):Prop where
  to_:∀e,e∈es.toList->∃k,e.key= .string k/\f k=some e.val
  of:∀k v,f k=some v->∃e,e∈es.toList/\e.key= .string k
def Zm9(h:Zf)(mb:Nat)(f:ByteArray->Option Value)(n:Nat):Prop:=
  ∃es c,h[mb]?=some (.map es c)/\MapKept.Stamped es c/\es.size=n/\Zwz es f
theorem Zxj{a b:ByteArray}(h:(Value.string a)= .string b):a=b:=by injection h
theorem Zwz.key{es:Array MapEntry}{f:ByteArray->Option Value}(he:Zwz es f):∀x,x∈es.toList->MapKept.IsKey .string x.key:=λx a=>by
  obtain⟨k,b,_⟩:=he.to_ x a;rw[b];trivial
theorem Zwz.val{es:Array MapEntry}{f:ByteArray->Option Value}(he:Zwz es f){e:MapEntry}(hm:e∈es.toList){k:ByteArray}(b:e.key= .string k):f k=some e.val:=by obtain⟨j,a,hv⟩:=he.to_ e hm;rw[b]at a;rw[Zxj a];exact hv
theorem Zwz.find{es:Array MapEntry}{f:ByteArray->Option Value}(he:Zwz es f)(k:ByteArray):
    (Instr.findNow .string (.string k) es.toList 0=some none/\f k=none)\/∃j e,Instr.findNow .string (.string k) es.toList 0=some (some (j,e.val))/\es.toList[j]?=some e/\e.key= .string k/\f k=some e.val:=by
  rcases MapKept.findNow_spec (d:=.string) (k:=.string k) trivial es.toList 0 he.key with⟨h1,a⟩ |⟨j,e,h1,a,h3⟩
  ·refine .inl ⟨h1,?_⟩
   cases b:f k with
   |none=>rfl
   | some v=>
     obtain⟨e,hm,c⟩:=he.of k v b;exact absurd c (a e hm)
  ·rw[Awb]at h1;exact .inr ⟨j,e,h1,a,h3,he.val (Axo a) h3⟩
theorem Zm9.congr{h h':Zf}{mb:Nat}{f:ByteArray->Option Value}{n:Nat}(hm:Zm9 h mb f n)(he:h'[mb]?=h[mb]?):Zm9 h' mb f n:=by obtain⟨es,c,a,r⟩:=hm;exact⟨es,c,he.trans a,r⟩
theorem Zm9.lt{h:Zf}{mb:Nat}{f:ByteArray->Option Value}{n:Nat}(hm:Zm9 h mb f n):mb<h.size:=by obtain⟨es,c,a,r⟩:=hm;exact ZsC a
theorem Zm9.new{h:Zf}{K:Nat->Zf->Prop}(a:∀h1,Zm9 h1 h.size (λ_=>none) 0->Ext h h1->h1.size=h.size+1->K h.size h1):ZfD h K:=
  a _ ⟨#[],0,Zdi,MapKept.stamped_empty 0,rfl,⟨λe he=>by simp at he,λk v hv=>by cases hv⟩⟩ (Ext.push _ _) (by simp)
theorem Zm9.get{h:Zf}{mb:Nat}{f:ByteArray->Option Value}{n:Nat}(hm:Zm9 h mb f n)(k:ByteArray){K:Option Value->Prop}(a:K (f k)):Zhj .string h (some mb) (.string k) K:=by
  obtain⟨es,c,d,hs,l,he⟩:=hm;refine⟨(λe=>by cases e),λb e=>?_⟩;cases e
  rcases he.find k with⟨h1,g⟩ |⟨j,e,h1,g,h3,i⟩
  ·exact⟨es,c,none,d,h1,by rw[g]at a;exact a⟩
  ·exact⟨es,c,_,d,h1,by rw[i]at a;exact a⟩
theorem Zm9.len{h:Zf}{mb:Nat}{f:ByteArray->Option Value}{n:Nat}(hm:Zm9 h mb f n){K:Int->Prop}(a:K (n:Int)):ZHm h (some mb) K:=by obtain⟨es,c,d,hs,g,he⟩:=hm;refine⟨(λe=>by cases e),λb e=>?_⟩;cases e;exact⟨es,c,d,by rw[g];exact a⟩
theorem Zwz.modify{es:Array MapEntry}{f:ByteArray->Option Value}(he:Zwz es f){c:Nat}(hs:MapKept.Stamped es c){j:Nat}{e:MapEntry}{k:ByteArray}(n:es.toList[j]?=some e)(o:e.key= .string k)(v:Value):
    Zwz (es.modify j λx=>{x with key:=.string k,val:=v}) (ZrJ f k (some v))/\MapKept.Stamped (es.modify j λx=>{x with key:=.string k,val:=v}) c:=by
  have b:es[j]?=some e:=by simpa using n
  have uniq:∀i x,es.toList[i]?=some x->x.key= .string k->i=j:=by
    intro i x hi a;have p:=hs.2.2;have h1:(es.toList.map (·.key))[i]?=some (.string k):=by rw[Awy,hi];simp[a]
    have q:(es.toList.map (·.key))[j]?=some (.string k):=by rw[Awy,n];simp[o]
    obtain⟨t,h1⟩:=Ayh.1 h1;obtain⟨w,q⟩:=Ayh.1 q;exact(List.getElem_inj p).1 (h1.trans q.symm)
  refine⟨⟨λx a=>?_,λi u hu=>?_⟩,?_⟩
  ·obtain ⟨i,hi⟩:=Ayi a;rw[Axp,Aqi]at hi
   by_cases d:j=i
   ·subst d;rw[if_pos rfl,b]at hi;simp only[Aqx,Awh]at hi;subst hi;exact⟨k,rfl,ZjN _ _ _⟩
   ·rw [if_neg d]at hi
    have h:es.toList[i]?=some x:=by simpa using hi
    obtain⟨m,hm,hv⟩:=he.to_ x (Axo h);refine⟨m,hm,?_⟩;rw[Zh4]
    ·exact hv
    ·intro r;subst r;exact d (uniq i x h hm).symm
  ·by_cases g:i=k
   ·subst g;refine⟨{e with key:=.string i,val:=v},?_,rfl⟩;refine Axo (i:=j) ?_;rw[Axp,Aqi,if_pos rfl,b];rfl
   ·rw [Zh4 f _ g]at hu;obtain⟨x,a,l⟩:=he.of i u hu;obtain⟨m,hm⟩:=Ayi a;refine⟨x,Axo (i:=m) ?_,l⟩;rw[Axp,Aqi,if_neg]
    ·simpa using hm
    ·intro s;subst s;rw[n]at hm;cases hm;exact g (Zxj (l.symm.trans o))
  ·refine MapKept.stamped_modify hs j _ (λx _=>rfl) λx _ a=>?_;rw[b]at a;cases a;exact o.symm
theorem Zm9.put{h:Zf}{mb:Nat}{f:ByteArray->Option Value}{n:Nat}(hm:Zm9 h mb f n)(k:ByteArray)(v:Value){K:Zf->Prop}
    (p:∀h',Zm9 h' mb (ZrJ f k (some v)) (if(f k).isSome then n else n+1)->Upd (· = mb) h h'->h'.size=h.size->K h'):Zj0 .string h (some mb) (.string k) v K:=by
  have d:=hm.lt;obtain⟨es,c,q,hs,r,he⟩:=hm
  rcases he.find k with⟨h1,g⟩ |⟨j,e,h1,g,h3,s⟩
  ·refine ⟨mb,es,c,none,rfl,q,he.key,h1,p _ ⟨es.push {key:=.string k,val:=v,born:=c},c+1,ZjQ d,MapKept.stamped_push hs λx a b=>?_,by simp[g,r],⟨λx a=>?_,λi u hu=>?_⟩⟩ Zhg (by simp)⟩
   ·have:=he.val a b;rw[g]at this;cases this
   ·simp only[Array.toList_push,Axx,Axs]at a
    rcases a with a|rfl
    ·obtain ⟨m,hm,hv⟩:=he.to_ x a;refine⟨m,hm,?_⟩;rw[Zh4]
     ·exact hv
     ·intro o;subst o;rw[g]at hv;cases hv
    ·exact⟨k,rfl,ZjN _ _ _⟩
   ·simp only[Array.toList_push,Axx,Axs]
    by_cases l:i=k
    ·subst l;exact⟨_,.inr rfl,rfl⟩
    ·rw[Zh4 f _ l]at hu;obtain⟨x,a,b⟩:=he.of i u hu;exact⟨x,.inl a,b⟩
  ·obtain⟨t,w⟩:=he.modify hs g h3 v;exact⟨mb,es,c,_,rfl,q,he.key,h1,p _ ⟨_,c,ZjQ d,w,by simp[s,r],t⟩ Zhg (by simp)⟩
theorem Zwz.erase{es:Array MapEntry}{f:ByteArray->Option Value}(he:Zwz es f){c:Nat}(hs:MapKept.Stamped es c){j:Nat}{e:MapEntry}{k:ByteArray}(n:es.toList[j]?=some e)(t:e.key= .string k):
    Zwz (es.eraseIdxIfInBounds j) (ZrJ f k none)/\MapKept.Stamped (es.eraseIdxIfInBounds j) c/\(es.eraseIdxIfInBounds j).toList=es.toList.eraseIdx j/\(es.eraseIdxIfInBounds j).size=es.size- 1:=by
  obtain⟨g,v⟩:=Ayh.1 n;have l:j<es.size:=by simpa using g
  have hl:(es.eraseIdxIfInBounds j).toList=es.toList.eraseIdx j:=by
    unfold Array.eraseIdxIfInBounds;rw[dif_pos l,Array.toList_eraseIdx]
  have o:=hs.2.2
  have mem:∀x,x∈es.toList.eraseIdx j↔x∈es.toList/\x.key≠ .string k:=λx=>by
    constructor
    ·intro b
     obtain⟨i,p,hi⟩:=List.mem_eraseIdx_iff_getElem?.1 b;refine⟨Axo hi,λa=>p ?_⟩;have h1:(es.toList.map (·.key))[i]?=some (.string k):=by rw[Awy,hi];simp[a]
     have q:(es.toList.map (·.key))[j]?=some (.string k):=by rw[Awy,n];simp[t]
     obtain⟨w,h1⟩:=Ayh.1 h1;obtain⟨g,q⟩:=Ayh.1 q;exact(List.getElem_inj o).1 (h1.trans q.symm)
    ·rintro⟨b,a⟩;obtain⟨i,hi⟩:=Ayi b;refine List.mem_eraseIdx_iff_getElem?.2 ⟨i,λr=>?_,hi⟩;subst r;rw[n]at hi;cases hi;exact a t
  refine⟨⟨λx b=>?_,λi u hu=>?_⟩,MapKept.stamped_erase hs j,hl,?_⟩
  ·rw [hl]at b;obtain⟨b,a⟩:=(mem x).1 b;obtain⟨m,hm,hv⟩:=he.to_ x b;refine⟨m,hm,?_⟩;rw[Zh4]
   ·exact hv
   ·intro s;subst s;exact a hm
  ·by_cases d:i=k
   ·subst d;rw[ZjN]at hu;cases hu
   ·rw[Zh4 f _ d]at hu;obtain⟨x,b,a⟩:=he.of i u hu;exact⟨x,by rw[hl];exact(mem x).2 ⟨b,λh=>d (Zxj (a.symm.trans h))⟩,a⟩
  ·unfold Array.eraseIdxIfInBounds;rw[dif_pos l];simp
theorem Zm9.del{h:Zf}{mb:Nat}{f:ByteArray->Option Value}{n:Nat}(hm:Zm9 h mb f n)(k:ByteArray){K:Zf->Prop}
    (g:∀h',Zm9 h' mb (ZrJ f k none) (if(f k).isSome then n- 1 else n)->Upd (· = mb) h h'->h'.size=h.size->K h'):ZnS .string h (some mb) (.string k) K:=by
  have a:=hm.lt;obtain⟨es,c,i,hs,l,he⟩:=hm;refine⟨(λe=>by cases e),λb e=>?_⟩;cases e
  rcases he.find k with⟨h1,d⟩ |⟨j,e,h1,d,h3,m⟩
  ·have hu:ZrJ f k none=f:=by
     funext j
     unfold ZrJ;split
     ·rename_i o;rw[o,d]
     ·rfl
   refine⟨es,c,none,i,h1,g _ ⟨es,c,ZjQ a,hs,by simp[d,l],by rw[hu];exact he⟩ Zhg (by simp)⟩
  ·obtain⟨p,q,s,r⟩:=he.erase hs d h3;exact⟨es,c,_,i,h1,g _ ⟨_,c,ZjQ a,q,by simp[m,r,l],p⟩ Zhg (by simp)⟩
end Go.Proofs.YtonbfpnngkemiaaGreat
