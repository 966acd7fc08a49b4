/- Why a reading is right: regions. -/
import Derived.Sort.LoopGhostIn
import Derived.KernelRfl
import Derived.Laws.Externs
import GoSem.Extern.MapsClone
import GoSem.Extern.MathBitsCarry
import Derived.Test.YtonbfpnngkemiaaGreatPa5
set_option linter.unusedVariables false
set_option linter.unusedSimpArgs false
namespace Go.Fw
open Go
structure XQ(D:List Nat)(a a':Act):Prop where
  tmps:∀j,j∉D->a'.tmps[j]?=a.tmps[j]?
  marks:mkN∉D->a'.defers=a.defers
theorem XQ.refl(D:List Nat)(a:Act):XQ D a a:=⟨λ_ _=>rfl,λ_=>rfl⟩
theorem XQ.trans{D:List Nat}{a b d:Act}(h:XQ D a b)(h':XQ D b d):XQ D a d:=⟨λj c=>(h'.1 j c).trans (h.1 j c),λc=>(h'.2 c).trans (h.2 c)⟩
theorem XQ.mono{D e:List Nat}{a b:Act}(h:XQ D a b)(hs:∀j,j∈D->j∈e):XQ e a b:=⟨λj d=>h.1 j λc=>d (hs j c),λd=>h.2 λc=>d (hs _ c)⟩
theorem put_defers(a:Act)(d:Option Tmp)(v:Value):(a.put d v).defers=a.defers:=by cases d<;>rfl
theorem XQ.put{D:List Nat}{a:Act}{d:Option Tmp}{v:Value}(h:∀x,d=some x->x∈D):XQ D a (a.put d v):=by
  refine⟨?_,λ_=>put_defers a d v⟩;intro j c
  cases d with
  |none=>rfl
  | some x=>
    have b:x≠j:=λhe=>c (he▸h x rfl);simp[Act.put,Awj b]
theorem Zpa{ops:Array Oper}{a:Act}{j t:Nat}(h:Xt ops.toList j=some t):yielded ops a.tmps j=match a.tmps[t]? with|some (.bool b)=>some b|_=>none:=by unfold Xt at h;unfold yielded;rw[show ops.toList[j]?=ops[j]? from by simp]at h;rw[h];rfl
theorem ZmD{ops:Array Oper}{a:Act}{j:Nat}(h:Xt ops.toList j=none):yielded ops a.tmps j=none:=by unfold Xt at h;unfold yielded;rw[show ops.toList[j]?=ops[j]? from by simp]at h;rw[h];rfl
inductive Step(c:Cfg)(one:Oper->Env->Zf->(Env->Zf->Prop)->Prop)(ops:Array Oper)(o:Oper)(a:Act)(h:Zf)(K:Env->Zf->Prop):Prop
  |does (e:Env) (ha:Agr c.n e a) (hw:Region.wanted o (yielded ops a.tmps)=true) (hk:one o e h K)
  |skips (e:Env) (ha:Agr c.n e a) (hw:Region.wanted o (yielded ops a.tmps)=false) (hk:Zpj c o e h K)
theorem ZnB{c:Cfg}{one:Oper->Env->Zf->(Env->Zf->Prop)->Prop}{ops:Array Oper}{o:Oper}{os:List Oper}{e:Env}{a:Act}{h:Zf}{K:Env->Zf->Prop}
    (d:Agr c.n e a) (f:ZgQ c one ops.toList (o::os) e h K):Step c one ops o a h (λr h'=>ZgQ c one ops.toList os r h' K):=by
  unfold ZgQ at f;split at f
  ·rename_i g;exact .does e d (by simp[Region.wanted,g]) f
  ·rename_i j want g;split at f
   ·rename_i hs;exact .skips e d (by simp[Region.wanted,g,ZmD hs]) f
   ·rename_i t hs;have i:=Zpa (a:=a) hs;split at f
    ·rename_i b m;have l:a.tmps[t]?=some (.bool b):=d.val t _ m;rw[l]at i;split at f
     ·exact .does e d (by simp[Region.wanted,g,i]) f
     ·exact .does e d (by simp[Region.wanted,g,i]) f
     ·exact .skips e d (by simp[Region.wanted,g,i]) f
     ·exact .skips e d (by simp[Region.wanted,g,i]) f
    ·rename_i b m;have l:a.tmps[t]?=some (.bool b):=d.val t _ m;rw[l]at i;split at f
     ·cases b with
      |true=>exact .does _ (d.tell m) (by simp[Region.wanted,g,i]) (f.1 rfl)
      |false=>exact .skips _ (d.tell m) (by simp[Region.wanted,g,i]) (f.2 rfl)
     ·cases b with
      |true=>exact .skips _ (d.tell m) (by simp[Region.wanted,g,i]) (f.1 rfl)
      |false=>exact .does _ (d.tell m) (by simp[Region.wanted,g,i]) (f.2 rfl)
    ·rename_i v p q m;have l:a.tmps[t]?=some v.v:=d.val t _ m;refine .skips e d ?_ f
     have:yielded ops a.tmps j=none:=by
       rw[i,l]
       cases v with
       |val u=>cases u<;>first|rfl|exact absurd rfl (q _)
       |lit b=>exact absurd rfl (p b)
       |adr b o=>rfl
       |itr t b=>rfl
       |more k v=>rfl
       |over=>rfl
     simp[Region.wanted,g,this]
    ·exact f.elim
theorem ZgV{ops:Array Oper}{k:Nat}{o:Oper}{x:Nat}(ho:ops[k]?=some o)(a:o.dst=some x):x∈ops.toList.filterMap (·.dst):=by refine List.mem_filterMap.2 ⟨o,?_,a⟩;exact Axo (i:=k) (by simpa using ho)
theorem ZnA{c:Cfg}(u:c.OK){ops:Array Oper}{Q:Exit->Act->World->Prop}:∀(l:List Oper) (k:Nat),(∀j,l[j]?=ops[k+j]?)->
    ∀{e:Env} {a:Act} {w:World} {K:Env->Zf->Prop},Agr c.n e a->ZgQ c (ZG6 c) ops.toList l e w.heap K->
    (∀s a' w',Agr c.n s a'->Same w w'->XQ (ops.toList.filterMap (·.dst)) a a'->K s w'.heap->Q .normal a' w')->
    (∀v a' w',Same w w'->XQ (ops.toList.filterMap (·.dst)) a a'->c.pan v w'.heap->Q (.panic [{v,recovered:=false}]) a' w')->wpOpsIn (fen c.rnd) 0 c.P ops Q (List.range' k l.length) a w
  |[],k,hl,e,a,w,K,b,h,t,_=>t e a w b (Same.refl w) (XQ.refl _ a) h
  | o::os,k,hl,e,a,w,K,b,h,t,y=>by
    have ho:ops[k]?=some o:=by have:=hl 0;simpa using this.symm
    have r:∀j,os[j]?=ops[k+1+j]?:=λj=>by have:=hl (j+1);rw[show k+1+j=k+(j+1)from by omega,<-this];rfl
    have g:∀v,XQ (ops.toList.filterMap (·.dst)) a (a.put o.dst v):=λv=>XQ.put λx z=>ZgV ho z;simp only[Aqj,List.range'_succ,wpOpsIn,ho]
    cases ZnB b h with
    | does e b hw h=>
      rw[if_pos hw];refine ZG3 u b (λv w' hs A=>y v a w' hs (XQ.refl _ a) A) h λv w' hs h=>?_;obtain⟨s,i,h⟩:=Zeb b h
      exact ZnA u os (k+1) r i h (λm d f h1 p h3 q=>t m d f h1 (hs.trans p) ((g _).trans h3) q)
        (λv d f p h3 q=>y v d f (hs.trans p) ((g _).trans h3) q)
    | skips e b hw h=>
      rw[if_neg (by simp[hw])];obtain⟨s,i,h⟩:=Zeb b h
      exact ⟨λ_ _=>trivial,ZnA u os (k+1) r i h (λm d f h1 p h3 q=>t m d f h1 p ((g _).trans h3) q)
        (λv d f p h3 q=>y v d f p ((g _).trans h3) q)⟩
def Cls(w0:World)(h:Zf)(w:World):Prop:=Same w0 w/\w.heap=h
theorem ZvV{c:Cfg}{o:Oper}{a:Act}{w0:World}{h:Zf}{v:EV}(b:∀w:World,w.heap=h->(execOp a.eval o).run c.P w= .ok (.value v.v) w):
    ∀w,Cls w0 h w->o.quietAtIn (fen none) 0 c.P a (Cls w0 h) w v.v:=by
  intro w hw;unfold Oper.quietAtIn;rw[b w hw.2];exact⟨rfl,rfl⟩
theorem XY{c:Cfg}{o:Oper}{a:Act}{w0:World}{h:Zf}{K:EV->Zf->Prop}{next:Act->Prop}(b:ZtZ c o a h K)(d:∀v,K v h->next (a.put o.dst v.v)):
    o.quietIn (fen none) 0 c.P a (Cls w0 h) next:=
  let⟨v,e,f⟩:=b
  ⟨v.v,ZvV e,d v f⟩
theorem ZrU{c:Cfg}(D:c.OK){e:Env}{a:Act}{w0:World}{h:Zf}{o:Oper}{K:EV->Zf->Prop}{next:Act->Prop}(b:Agr c.n e a)(g:Zur c o.op e h K)
    (i:∀v,K v h->next (a.put o.dst v.v)):o.quietIn (fen none) 0 c.P a (Cls w0 h) next:=by
  obtain⟨dst,op,type,pos,after,guard⟩:=o;cases op
  case move=>exact XY (Zqq b g).q i
  case assign=>exact XY (Zl4 b g).q i
  case pick=>exact XY (Zqp b g).q i
  case load=>exact XY (Zqs b g) i
  case nilCheck=>exact XY (ZjK b g).q i
  case binOp=>exact XY (Znk b g).q i
  case unOp=>exact XY (Zqo b g).q i
  case slice=>exact XY (Zng b g).q i
  case fieldAddr=>exact XY (ZiI b g).q i
  case field=>exact XY (Zni b g).q i
  case indexAddr=>exact XY (ZiH b g).q i
  case index=>exact XY (Znh b g).q i
  case extract=>exact XY (ZkY b g).q i
  case build=>exact XY (Znj b g).q i
  case makeFunc=>exact XY (ZjL b g).q i
  case convert s d x=>
    simp only[Zur]at g;split at g
    ·rename_i j k hs hd;exact XY (ZjM b hs hd g).q i
    ·exact g.elim
  case call cl=>
    unfold Zur at g
    split at g<;>first
      |exact g.elim
      |(rename_i ho;cases ho)
    ·exact XY (Zw8 b g) i
    ·exact XY (YD b (.inr (.inl rfl)) g).q i
    ·exact XY (YD b (.inr (.inr (.inl rfl))) g).q i
    ·exact XY (YD b (.inr (.inr (.inr rfl))) g).q i
    ·rename_i f args ts;split at g
     ·rename_i es he;split at g
      ·rename_i s t E;obtain⟨p,B⟩:=ZjX E;dsimp only at p B;obtain⟨r,hm,g⟩:=g;refine⟨(Zhc (Xn.evs s.res r)).v,λw hw=>?_,i _ g⟩;have u:=ZdV b he;obtain⟨⟨fn,F,y,z⟩,A⟩:=D.calls _ p
       have m:(execOp a.eval ⟨dst,.call ⟨.value (.func f),args,ts⟩,type,pos,after,guard⟩).run c.P w= .ok (.enter f (args.map a.eval)) w:=by
         simp only[execOp,resolve,Act.eval,Deferred.ofValue,Awk,Awp,Awl,invoke,callFunc,run_program,F,y,Aqc,if_false,z];simp
       unfold Oper.quietAtIn;rw[m];refine⟨rfl,λh=>(by cases h),Zjs.2 ?_⟩;rw[u,<-Zh5 B];refine(A t (λC h'=>C=r/\h'=h) (λ_ _=>False) w (by rw[hw.2];exact hm)).mono ?_;rintro ending w' (⟨C,rfl,l,rfl,G⟩ |⟨v,rfl,l,g⟩)
       ·exact⟨rfl,hw.1.trans l,G⟩
       ·exact g.elim
      ·exact g.elim
     ·exact g.elim
  all_goals exact g.elim
theorem ZqJ{c:Cfg}(s:c.OK){ops:Array Oper}{w0:World}{Q:Act->Prop}{h:Zf}:∀(l:List Oper) (k:Nat),(∀j,l[j]?=ops[k+j]?)->
    ∀{e:Env} {a:Act} {K:Env->Zf->Prop},Agr c.n e a->ZgQ c (ZxD c) ops.toList l e h K->
    (∀q a',Agr c.n q a'->XQ (ops.toList.filterMap (·.dst)) a a'->K q h->Q a')->wpQuietIn (fen none) 0 c.P ops (Cls w0 h) Q l a
  |[],k,hl,e,a,K,b,d,r=>r e a b (XQ.refl _ a) d
  | o::os,k,hl,e,a,K,b,d,r=>by
    have ho:ops[k]?=some o:=by have:=hl 0;simpa using this.symm
    have p:∀j,os[j]?=ops[k+1+j]?:=λj=>by have:=hl (j+1);rw[show k+1+j=k+(j+1)from by omega,<-this];rfl
    have g:∀v,XQ (ops.toList.filterMap (·.dst)) a (a.put o.dst v):=λv=>XQ.put λx u=>ZgV ho u;unfold wpQuietIn;refine⟨λ_ _ _ _=>trivial,?_⟩
    cases ZnB b d with
    | does e b hw d=>
      rw[if_pos hw];refine ZrU s b d λv d=>?_;obtain⟨q,f,d⟩:=Zeb b d;exact ZqJ s os (k+1) p f d λi m h1 h3 t=>r i m h1 ((g _).trans h3) t
    | skips e b hw d=>
      rw[if_neg (by simp[hw])];obtain⟨q,f,d⟩:=Zeb b d;exact ZqJ s os (k+1) p f d λi m h1 h3 t=>r i m h1 ((g _).trans h3) t
def Zgz(c:Cfg)(D:List Nat)(a:Act)(w:World)(Q:Ex->Env->Zf->Prop):Exit->Act->World->Prop
  | .normal,a',w'=>∃b,Agr c.n b a'/\Same w w'/\XQ D a a'/\Q .normal b w'.heap
  | .exit id,a',w'=>∃b,Agr c.n b a'/\Same w w'/\XQ D a a'/\Q (.exit id) b w'.heap
  | .ret,a',w'=>∃b,Agr c.n b a'/\Same w w'/\XQ D a a'/\Q .ret b w'.heap
  | .panic chain,a',w'=>∃v,chain=[{v,recovered:=false}]/\Same w w'/\XQ D a a'/\c.pan v w'.heap
  |_,_,_=>False
theorem Zgz.mono{c:Cfg}{D b:List Nat}{a g:Act}{w w1:World}{Q i:Ex->Env->Zf->Prop}(hs:Same w w1)(k:XQ b a g)(hd:∀j,j∈D->j∈b)(l:∀x e h,Q x e h->i x e h):
    ∀x a' w',Zgz c D g w1 Q x a' w'->Zgz c b a w i x a' w':=by
  intro x a' w' h
  cases x<;>first
    |exact h.elim
    | (obtain ⟨m,h1,d,h3,f⟩:=h
       exact⟨m,h1,hs.trans d,k.trans (h3.mono hd),l _ _ _ f⟩)
    | (obtain ⟨v,h1,d,h3,f⟩:=h
       exact⟨v,h1,hs.trans d,k.trans (h3.mono hd),f⟩)
theorem ZnH{c:Cfg}{D:List Nat}{a:Act}{w:World}{Q:Ex->Env->Zf->Prop}{ch:List PanicEntry}{a':Act}{d:Option Tmp}{v:Value}{w':World}(hd:∀x,d=some x->x∈D)(h:Zgz c D a w Q (.panic ch) (a'.put d v) w'):Zgz c D a w Q (.panic ch) a' w':=by obtain⟨f,h1,g,h3,i⟩:=h;have e:XQ D a' (a'.put d v):=XQ.put hd;exact⟨f,h1,g,⟨λj b=>(e.1 j b).symm.trans (h3.1 j b),λb=>(e.2 b).symm.trans (h3.2 b)⟩,i⟩
theorem Zi1{c:Cfg}{ops:Array Oper}{o:Oper}{e:Env}{a:Act}{A B:Env->Prop}(d:Agr c.n e a)(f:Zoa ops.toList o e A B):
    (∃m,Agr c.n m a/\Region.wanted o (yielded ops a.tmps)=true/\A m)\/(∃m,Agr c.n m a/\Region.wanted o (yielded ops a.tmps)=false/\B m):=by
  unfold Zoa at f;split at f
  ·rename_i g;exact .inl ⟨e,d,by simp[Region.wanted,g],f⟩
  ·rename_i j want g;split at f
   ·rename_i hs;exact .inr ⟨e,d,by simp[Region.wanted,g,ZmD hs],f⟩
   ·rename_i t hs;have h:=Zpa (a:=a) hs;split at f
    ·rename_i b l;have i:a.tmps[t]?=some (.bool b):=d.val t _ l;rw[i]at h;split at f
     ·exact .inl ⟨e,d,by simp[Region.wanted,g,h],f⟩
     ·exact .inl ⟨e,d,by simp[Region.wanted,g,h],f⟩
     ·exact .inr ⟨e,d,by simp[Region.wanted,g,h],f⟩
     ·exact .inr ⟨e,d,by simp[Region.wanted,g,h],f⟩
    ·rename_i b l;have i:a.tmps[t]?=some (.bool b):=d.val t _ l;rw[i]at h;split at f
     ·cases b with
      |true=>exact .inl ⟨_,d.tell l,by simp[Region.wanted,g,h],f.1 rfl⟩
      |false=>exact .inr ⟨_,d.tell l,by simp[Region.wanted,g,h],f.2 rfl⟩
     ·cases b with
      |true=>exact .inr ⟨_,d.tell l,by simp[Region.wanted,g,h],f.1 rfl⟩
      |false=>exact .inl ⟨_,d.tell l,by simp[Region.wanted,g,h],f.2 rfl⟩
    ·rename_i v p q l;have i:a.tmps[t]?=some v.v:=d.val t _ l;refine .inr ⟨e,d,?_,f⟩
     have:yielded ops a.tmps j=none:=by
       rw[h,i]
       cases v with
       |val u=>cases u<;>first|rfl|exact absurd rfl (q _)
       |lit b=>exact absurd rfl (p b)
       |adr b o=>rfl
       |itr t b=>rfl
       |more k v=>rfl
       |over=>rfl
     simp[Region.wanted,g,this]
    ·exact f.elim
theorem ZAX{c:Cfg}{e:Env}{a:Act}{h:Zf}{o:Oper}{K:EV->Zf->Prop}(f:Agr c.n e a)(g:ZgT c o.op= .pure)(i:opP c o.op e h K):ZfC c o a h K:=by
  obtain⟨dst,op,type,pos,after,guard⟩:=o;cases op
  case move=>exact Zqq f i
  case assign=>exact Zl4 f i
  case pick=>exact Zqp f i
  case nilCheck=>exact ZjK f i
  case binOp=>exact Znk f i
  case unOp=>exact Zqo f i
  case slice=>exact Zng f i
  case fieldAddr=>exact ZiI f i
  case field=>exact Zni f i
  case indexAddr=>exact ZiH f i
  case index=>exact Znh f i
  case extract=>exact ZkY f i
  case build=>exact Znj f i
  case makeFunc=>exact ZjL f i
  case convert s d x=>
    simp only[ZgT]at g;split at g
    ·rename_i j k hs hd;exact ZjM f hs hd i
    ·split at g<;>cases g
    ·cases g
  case call cl=>
    obtain⟨l,args,ts⟩:=cl
    cases l with
    | builtin b=>
      cases b<;>first
        |(simp only[ZgT]at g;done)
        | (cases hm:ZkT c.P ts with
            |true=>simp[ZgT,hm]at g
            |false=>exact YD f (.inl ⟨rfl,hm⟩) i)
        |exact YD f (.inr (.inl rfl)) i
        |exact YD f (.inr (.inr (.inl rfl))) i
        |exact YD f (.inr (.inr (.inr rfl))) i
        |(simp[ZgT]at g)
    |_=>simp[ZgT]at g
  all_goals simp[ZgT]at g
theorem ZxX{c:Cfg}{op:Op}{t:TypeId}{x:Operand}(h:ZgT c op= .load t x):op= .load t x:=by
  cases op<;>simp[ZgT]at h
  case load=>rw[h.1,h.2]
  case convert=>repeat' (first|(cases h;done)|split at h)
  case call cl=>
    obtain⟨a,args,ts⟩:=cl
    cases a with
    |builtin b=>cases b<;>simp at h<;>(cases hm:ZkT c.P ts<;>simp[hm]at h)
    |_=>simp at h
def ZpJ(h:Zf)(l:List (Nat×Nat×Value)):Prop:=∀q,q∈l->h.cell q.1 q.2.1=some q.2.2
theorem Zn9{h:Zf}{b o:Nat}:∀{vs:List Value} {i:Nat},ZpJ h (Zsy b o i vs)↔h.has b (o+i) vs
  |[],i=>⟨λ_=>trivial,λ_ q c=>(by simp[Zsy]at c)⟩
  | v::vs,i=>by
    have a:=Zn9 (h:=h) (b:=b) (o:=o) (vs:=vs) (i:=i+1);unfold ZpJ at a⊢;simp only[Zsy,Axq,ZtV,a];rfl
theorem ZBe{P:Program}{t:TypeId}{b o:Nat}{K:EV->List (Nat×Nat×Value)->Prop}{h:Zf}(a:ldH P t h b o K):
    ∃v cells,ZpJ h cells/\(∀w:World,ZpJ w.heap cells->(loadVar t ⟨b,o,none⟩).run P w= .ok v.v w)/\K v cells:=by
  unfold ldH at a
  cases hu:P.underlying t with
  |none=>rw[hu]at a;simp[Zck,Zn1]at a
  | some d=>
    obtain⟨i,hi⟩:=Zbf P hu;rw[hu]at a;unfold loadVar
    cases c:Zck (some d)with
    | true=>
      rw[c]at a;simp only[cond_true]at a
      cases hl:Nat.beq (Zg3 P 8 t).length (P.cellsOf t)with
      |false=>rw[hl]at a;exact a.elim
      | true=>
        rw[hl]at a;obtain⟨vs,hlen,f,a⟩:=Zmn a;have hs:i.size=vs.length:=by rw[hlen,Awg hl,Zcr P hi]
        refine⟨.val (.agg vs.toArray),_,Zn9.2 f,λw hw=>?_,a⟩;have hw:=Zn9.1 hw;simp only[Awk,Zgk P w t hu,c,Awl,if_true,Xo P w t hi,hs];rw[ZeM P w b o vs (by simpa using hw)];rfl
    | false=>
      rw[c]at a;simp only[cond_false]at a;obtain⟨v,g,a,_⟩:=Zk7 a;refine⟨v,_,?_,λw hw=>?_,a⟩
      ·intro q e;simp only[Axs]at e;subst e;exact g
      have hw:Zf.cell w.heap b o=some v.v:=hw _ (.head _);simp only[Awk,Zgk P w t hu,c,Awl,Aqc,if_false];exact ZiO P w hw _
theorem Zxh{c:Cfg}{op:Op}{x:Operand}(h:ZgT c op= .text x):∃s d e,op= .convert s d x/\c.P.underlying s=some (.slice e)/\c.P.underlying d=some .string/\c.P.underlying e=some (.int .u8):=by
  cases op<;>simp[ZgT]at h
  case convert s d y=>
    split at h
    ·cases h
    ·rename_i e hs hd;split at h
     ·rename_i he;cases h;exact⟨s,d,e,rfl,hs,hd,he⟩
     ·cases h
    ·cases h
  case call cl=>
    obtain⟨a,args,ts⟩:=cl
    cases a with
    |builtin b=>cases b<;>simp at h<;>(cases hm:ZkT c.P ts<;>simp[hm]at h)
    |_=>simp at h
theorem Zmp{h:Zf}:∀{l:List (Nat×Nat×Value)},Zo h l↔ZpJ h l
  |[]=>⟨λ_ q c=>(by cases c),λ_=>trivial⟩
  | (b,o,v)::r=>by
    have a:=Zmp (h:=h) (l:=r);unfold ZpJ at a⊢;simp only[Zo,Axq,a]
def ZeI(hd:ZhH):ZlZ:=hd.map λx=>(x.1,λw=>x.2 w.heap)
theorem ZkF{w:World}{K:Prop}:∀{hd:ZhH},Zsd w.heap hd K->(ZeI hd).all w/\K
  |[],a=>⟨λq b=>(by cases b),a⟩
  | x::r,a=>by
    obtain⟨h1,a⟩:=a;obtain⟨c,a⟩:=ZkF (hd:=r) a;refine⟨λq b=>?_,a⟩
    rcases Awr.1 b with rfl|b
    ·exact h1
    ·exact c q b
def nxt(ops:Array Oper)(L:ZlZ)(j:Nat):ZlZ:=
  match ops[j]? with
  |some o=>L.filter λp=> !Zhb p.1 o.after.toList
  |none=>L
theorem ZeP(ops:Array Oper):Next ops (nxt ops) where
  mem L j p a:=by
    unfold nxt at a;split at a
    ·exact(Axt.1 a).1
    ·exact a
  keep L j p a hw:=by
    unfold nxt;split
    ·rename_i o ho;refine Axt.2 ⟨a,?_⟩
     cases b:Zhb p.1 o.after.toList with
     |false=>rfl
     | true=>
       obtain⟨e,he,h1,c⟩:=Zkv.1 b;exact absurd ⟨o,ho,e,by simpa using he,h1,c⟩ hw
    ·exact a
  same L d j p a hl:=by
    unfold nxt at a⊢;split at a
    ·rename_i o ho;exact Axt.2 ⟨hl,(Axt.1 a).2⟩
    ·exact hl
theorem Zuw{ops:Array Oper}{j:Nat}{o:Oper}(ho:ops[j]?=some o)(hd:ZhH):nxt ops (ZeI hd) j=ZeI (Zsr o hd):=by
  unfold nxt;rw[ho];simp only
  induction hd with
  |nil=>rfl
  | cons x r a=>
    have e:ZeI (x::r)=(x.1,λw:World=>x.2 w.heap)::ZeI r:=rfl;rw[e,List.filter_cons];simp only[Zsr]
    cases b:Zhb x.1 o.after.toList with
    |true=>simp only[Bool.not_true,Aqc,if_false,cond_true];exact a
    |false=>simp only[Axj,if_true,cond_false];rw[a];rfl
theorem ZvZ{ops:Array Oper}{m:Nat}{listed:Array Bool}(b:Rel ops m listed)(h:ZxR m 0 ops.toList=true):Region.ready .any ops listed=[]:=by
  have key:∀(os:List Oper) (k:Nat),ZxR m k os=true->∀j o,os[j]?=some o->ZcB m (k+j) o=false:=by
    intro os
    induction os with
    |nil=>intro k _ j o ho;simp at ho
    | cons x os c=>
      intro k h j o ho;simp only[ZxR]at h
      cases a:ZcB m k x with
      |true=>rw[a]at h;cases h
      | false=>
        rw[a]at h
        cases j with
        |zero=>simp at ho;subst ho;exact a
        | succ j=>
          have:=c (k+1) h j o (by simpa using ho);rw[show k+(j+1)=k+1+j from by omega];exact this
  apply List.eq_nil_iff_forall_not_mem.2;intro j d;obtain⟨o,ho,e⟩:=b.ready.1 d;have:=key _ 0 h j o (by simpa using ho);rw[Awb,e]at this;cases this
section
variable{rn:Option Nat}{P:Program}{ops:Array Oper}{Q:Exit->Act->World->Prop}{i m:Nat}{o:Oper}{listed:Array Bool}{a:Act}{w:World}{L:ZlZ}{fuel:Nat}{v:Value}{S:World->Prop}
theorem ZkC(ho:ops[i]?=some o):i<ops.size:=by
  rcases Aqd i ops.size with h|h
  ·exact h
  ·rw[Aqe h]at ho;cases ho
theorem ZxL(b:Rel ops m listed)(h:ZlB m i 0 ops.toList=true):∀j,j∈Region.ready .any ops listed->j=i:=by intro j c;obtain⟨d,a,e⟩:=b.ready.1 c;have:=Zmi h j d (by simpa using a) (by rw[Awb];exact e);rw[Awb]at this;exact this
theorem ZEU(g:Rel ops m listed)(h:Zo1 ops o m i 0 ops.toList=true):
    ∀j a,ops[j]?=some a->j≠i->listed.getD j true=false->(∀e∈a.after,Region.binds .any e=true->e.on≠i)->o.apart ops a=true:=by
  intro j a f b hl c;have d:=ZkC f;refine ZpQ h j a (by simpa using f) (by rw[Awb];exact b) ?_ c;rw[Awb,<-g.bit' d];exact hl
theorem Zui(e:Zhi ops)(ho:ops[i]?=some o)(b:Region.noSelect ops=true)(g:∀c a v w,Q (.panic c) (a.put o.dst v) w->Q (.panic c) a w)(f:Rel ops m listed)(hm:ZcB m i o=true)(j:Zo1 ops o m i 0 ops.toList=true)
    (k:YieldsIf P ops S o v a) (l:S w) (d:ZlZ.all L w) (h:wpK rn P ops Q (nxt ops) ((i,S)::L) fuel (listed.setIfInBounds i true) (a.put o.dst v) w):
    wpK rn P ops Q (nxt ops) L (fuel+1) listed a w:=
  Zw4 e (ZeP ops) ho (Region.noSelect_spec b) (λc a w h=>g c a v w h) fuel L listed a w (ZEU f j) (f.ready.2 ⟨o,ho,hm⟩) k l d h
theorem Zqy(c:Zhi ops)(ho:ops[i]?=some o)(e:Rel ops m listed)(hm:ZcB m i o=true)(f:ZlB m i 0 ops.toList=true)
    (g:YieldsIf P ops S o v a) (j:S w) (b:ZlZ.all L w) (h:wpK rn P ops Q (nxt ops) L fuel (listed.setIfInBounds i true) (a.put o.dst v) w):
    wpK rn P ops Q (nxt ops) L (fuel+1) listed a w:=by
  refine Zua (ZxL e f) (e.ready.2 ⟨o,ho,hm⟩) (ZhL c ho g j ⟨λp d=>b p ((ZeP ops).mem _ _ _ d),?_⟩);exact ZiG (ZeP ops) _ _ _ _ _ _ (λp d=>.inl ((ZeP ops).mem _ _ _ d)) h
theorem Zqx(d:Zhi ops)(ho:ops[i]?=some o)(e:Region.noSelect ops=true)(l:∀c a v w,Q (.panic c) (a.put o.dst v) w->Q (.panic c) a w)(j:Rel ops m listed)(hm:ZcB m i o=true)
    (f:Zo1 ops o m i 0 ops.toList=true\/ZlB m i 0 ops.toList=true)
    (k:YieldsIf P ops (λ_=>True) o v a) (b:ZlZ.all L w) (h:wpK rn P ops Q (nxt ops) L fuel (listed.setIfInBounds i true) (a.put o.dst v) w):
    wpK rn P ops Q (nxt ops) L (fuel+1) listed a w:=by
  rcases f with f|f
  ·refine Zui d ho e l j hm f k trivial b ?_;refine ZiG (ZeP ops) _ _ _ _ _ _ (λp g=>?_) h
   rcases Awr.1 g with rfl|g
   ·exact .inr λ_=>trivial
   ·exact .inl g
  ·exact Zqy d ho j hm f k trivial b h
end
theorem ZA1{ops:Array Oper}{m i l:Nat}{listed:Array Bool}(b:Rel ops m listed)(h:Zpt m i l 0 ops.toList=true):∀j,j∈Region.ready .any ops listed->j=i\/j=l:=by intro j c;obtain⟨d,a,e⟩:=b.ready.1 c;have:=Zk3 h j d (by simpa using a) (by rw[Awb];exact e);rw[Awb]at this;exact this
section
variable{c:Cfg}{ops:Array Oper}{D:List Nat}{a0:Act}{w0:World}{Qx:Ex->Env->Zf->Prop}
def ZtY(c:Cfg)(ops:Array Oper)(D:List Nat)(a0:Act)(w0:World)(Qx:Ex->Env->Zf->Prop)(fuel m:Nat)(rest:ZhH->Env->Zf->Prop):Prop:=
  ∀ (listed:Array Bool) (hd:ZhH) (e:Env) (a:Act) (w:World),Rel ops m listed->Agr c.n e a->Same w0 w->XQ D a0 a->(ZeI hd).all w->
    rest hd e w.heap->wpK c.rnd c.P ops (Zgz c D a0 w0 Qx) (nxt ops) (ZeI hd) fuel listed a w
theorem ZtM(s:Zhi ops)(z:c.OK)(A:D=ops.toList.filterMap (·.dst)){i m fuel:Nat}{o:Oper}{hd:ZhH}{e:Env}{a:Act}{w:World}{listed:Array Bool}{rest:ZhH->Env->Zf->Prop}
    (ho:ops[i]?=some o) (B:Rel ops m listed) (t:Agr c.n e a) (hs:Same w0 w) (l:XQ D a0 a) (h:(ZeI hd).all w) (y:ZtY c ops D a0 w0 Qx fuel (ZqB m i) rest) (b:ZE2 c ops o hd e w.heap rest):
    wpOpIn (fen c.rnd) 0 c.P ops (Zgz c D a0 w0 Qx) i (λa' w'=>(nxt ops (ZeI hd) i).all w'/\wpK c.rnd c.P ops (Zgz c D a0 w0 Qx) (nxt ops) (nxt ops (ZeI hd) i) fuel (listed.setIfInBounds i true) a' w') a w:=by
  have q:=B.set (ZkC ho);have j:∀v,XQ D a0 (a.put o.dst v):=λv=>l.trans (XQ.put λx C=>A▸ZgV ho C);unfold ZE2 at b
  rcases Zi1 t b with⟨E,d,hw,b⟩ |⟨E,d,hw,b⟩
  ·rw[Zuw ho];unfold Go.wpOpIn;simp only[ho,hw,if_true];refine Zuv z d (λv w' k r=>⟨v,rfl,hs.trans k,l,r⟩) b λv w' k b=>?_;obtain⟨u,f,b⟩:=Zeb d b;obtain⟨g,b⟩:=ZkF b;exact⟨g,y _ _ u _ w' q f (hs.trans k) (j _) g b⟩
  ·obtain⟨u,f,b⟩:=Zeb d b;have F:YieldsIf c.P ops (λ_=>True) o undef a:=.inr ⟨hw,rfl⟩;refine ZhL s ho F trivial ⟨λp r=>h p ((ZeP ops).mem _ _ _ r),?_⟩;exact ZiG (ZeP ops) _ _ _ _ _ _ (λp r=>.inl ((ZeP ops).mem _ _ _ r)) (y _ hd u _ w q f hs (j _) h b)
theorem ZES(j:Zhi ops)(z:D=ops.toList.filterMap (·.dst)){i m fuel:Nat}{o:Oper}{hd:ZhH}{e:Env}{a:Act}{w:World}{listed:Array Bool}{rest:ZhH->Env->Zf->Prop}
    (ho:ops[i]?=some o) (p:Rel ops m listed) (q:Agr c.n e a) (hs:Same w0 w) (r:XQ D a0 a) (b:(ZeI hd).all w) (u:ZtY c ops D a0 w0 Qx fuel (ZqB m i) rest)
    (A:∀{e:Env} {K:EV->Zf->Prop},Agr c.n e a->opP c o.op e w.heap K->ZtZ c o a w.heap K) (hm:ZcB m i o=true) (y:ZlB m i 0 ops.toList=true)
    (f:ZHF c ops o hd e w.heap rest):wpK c.rnd c.P ops (Zgz c D a0 w0 Qx) (nxt ops) (ZeI hd) (fuel+1) listed a w:=by
  have k:=p.set (ZkC ho);have h:∀v,XQ D a0 (a.put o.dst v):=λv=>r.trans (XQ.put λx B=>z▸ZgV ho B);unfold ZHF at f
  rcases Zi1 q f with⟨C,d,hw,f⟩ |⟨C,d,hw,f⟩
  ·obtain⟨v,l,f⟩:=A d f;obtain⟨s,g,f⟩:=Zeb d f;exact Zqy j (S:=λw'=>w'.heap=w.heap) ho p hm y (v:=v.v) (.inl ⟨hw,λw' t=>l w' t⟩) rfl b (u _ hd s _ w k g hs (h _) b f)
  ·obtain⟨s,g,f⟩:=Zeb d f;exact Zqy j (S:=λ_=>True) ho p hm y (v:=undef) (.inr ⟨hw,rfl⟩) trivial b (u _ hd s _ w k g hs (h _) b f)
theorem Zuf(r:Zhi ops)(F:D=ops.toList.filterMap (·.dst))(j:Region.noSelect ops=true){i m fuel:Nat}{o:Oper}{hd:ZhH}{e:Env}{a:Act}{w:World}{listed:Array Bool}{rest:ZhH->Env->Zf->Prop}{A:Env->Prop}
    (ho:ops[i]?=some o) (u:Rel ops m listed) (y:Agr c.n e a) (hs:Same w0 w) (z:XQ D a0 a) (b:(ZeI hd).all w) (G:ZtY c ops D a0 w0 Qx fuel (ZqB m i) rest)
    (hm:ZcB m i o=true) (H:Zo1 ops o m i 0 ops.toList=true)
    (L:∀p,Agr c.n p a->A p->∃(v:EV) (S:Zf->Prop),S w.heap/\(∀w':World,S w'.heap->(execOp a.eval o).run c.P w'= .ok (.value v.v) w')/\ZsR c.n p o.dst v λl=>rest ((i,S)::hd) l w.heap)
    (f:Zoa ops.toList o e A (λe=>ZsR c.n e o.dst (.val undef) λl=>rest hd l w.heap)):wpK c.rnd c.P ops (Zgz c D a0 w0 Qx) (nxt ops) (ZeI hd) (fuel+1) listed a w:=by
  have s:=u.set (ZkC ho);have k:∀v,XQ D a0 (a.put o.dst v):=λv=>z.trans (XQ.put λx B=>F▸ZgV ho B);have I:∀J a' v w',Zgz c D a0 w0 Qx (.panic J) (a'.put o.dst v) w'->Zgz c D a0 w0 Qx (.panic J) a' w':=λ_ _ _ _ h=>ZnH (λx B=>by rw[F];exact ZgV ho B) h
  rcases Zi1 y f with⟨p,d,hw,f⟩ |⟨p,d,hw,f⟩
  ·obtain ⟨v,S,K,t,f⟩:=L p d f;obtain⟨l,g,f⟩:=Zeb d f;refine Zui r (S:=λw=>S w.heap) ho j I u hm H (v:=v.v) (.inl ⟨hw,λw' C=>t w' C⟩) K b ?_;refine G _ ((i,S)::hd) l _ w s g hs (k _) ?_ f;intro q E
   rcases Awr.1 E with rfl|E
   ·exact K
   ·exact b q E
  ·obtain⟨l,g,f⟩:=Zeb d f;exact Zqx r ho j I u hm (.inl H) (v:=undef) (.inr ⟨hw,rfl⟩) b (G _ hd l _ w s g hs (k _) b f)
end
theorem Zf7{j:Nat}:∀{l:List Nat},Zdx l j=true↔j∈l
  |[]=>by simp[Zdx]
  | x::xs=>by
    have b:=Zf7 (j:=j) (l:=xs);simp only[Zdx]
    cases a:Nat.beq j x with
    |true=>simp only[cond_true,true_iff];exact(Awg a) ▸ .head _
    |false=>simp only[cond_false,b,Awr];exact⟨.inr,λh=>h.resolve_left (Awi a)⟩
theorem ZmM{m:Nat}{E:List Nat}:∀{es:List Edge},Zkq m E es=true->∀x∈es,Region.binds .any x=true->Ziq m x.on=true\/Zdx E x.on=true
  |[],_,x,a,_=>by cases a
  | y::es,h,x,a,c=>by
    simp only[Zkq]at h
    rcases Awr.1 a with rfl|a
    ·rw [c]at h
     cases h1:Ziq m x.on with
     |true=>exact .inl rfl
     | false=>
       rw[h1]at h
       cases b:Zdx E x.on with
       |true=>exact .inr rfl
       |false=>rw[b]at h;cases h
    ·refine ZmM (es:=es) ?_ x a c
     cases h1:Region.binds .any y with
     |false=>rw[h1]at h;exact h
     | true=>
       cases b:Ziq m y.on with
       |true=>rw[h1,b]at h;exact h
       | false=>
         cases h3:Zdx E y.on with
         |true=>rw[h1,b,h3]at h;exact h
         |false=>rw[h1,b,h3]at h;cases h
theorem Zpf{ops:Array Oper}{m k:Nat}{E ks:List Nat}(h:ZrK ops m E (k::ks)=true):
    ∃o,ops[k]?=some o/\Ziq m k=false/\o.guard=none/\Zkq m E o.after.toList=true/\ZrK ops m (k::E) ks=true:=by
  simp only[ZrK]at h;split at h
  ·rename_i o ho
   cases h1:Ziq m k with
   |true=>rw[h1]at h;cases h
   | false =>
     rw[h1]at h
     cases b:Zdx E k with
     |true=>rw[b]at h;cases h
     | false=>
       rw[b]at h
       cases h3:o.guard.isNone with
       |false=>rw[h3]at h;cases h
       | true=>
         rw[h3]at h
         cases a:Zkq m E o.after.toList with
         |false=>rw[a]at h;cases h
         |true=>rw[a]at h;exact⟨o,ho,rfl,Axu.1 h3,a,h⟩
  ·cases h
theorem Zqt{ops:Array Oper}{m:Nat}:∀{L E:List Nat},ZrK ops m E L=true->∀k∈L,∃o,ops[k]?=some o/\Ziq m k=false/\o.guard=none
  |[],_,_,k,a=>by cases a
  | x::L,E,h,k,a=>by
    obtain⟨o,h1,b,h3,_,c⟩:=Zpf h
    rcases Awr.1 a with rfl|a
    ·exact⟨o,h1,b,h3⟩
    ·exact Zqt c k a
theorem Zpe{ops:Array Oper}{m:Nat}{d:Nat->Bool}{L0:List Nat}:∀{L E:List Nat},ZrK ops m E L=true->(∀k,Zdx E k=true->Zdx L0 k=true/\d k=true)->(∀k∈L,Zdx L0 k=true)->(∃k∈L,d k=false)->
    ∃k o,k∈L/\d k=false/\ops[k]?=some o/\∀x∈o.after.toList,Region.binds .any x=true->Ziq m x.on=true\/(Zdx L0 x.on=true/\d x.on=true)
  |[],_,_,_,_,⟨k,a,_⟩=>by cases a
  | x::L,E,h,c,e,f=>by
    obtain⟨o,h1,_,_,g,i⟩:=Zpf h
    cases hd:d x with
    |false=>exact⟨x,o,.head _,hd,h1,λy j l=>(ZmM g y j l).imp id (c _)⟩
    | true=>
      obtain ⟨k,n,a,p⟩:=Zpe (d:=d) (L0:=L0) i (λk a=>by
        rcases Awr.1 (Zf7.1 a)with rfl|a
        ·exact⟨e _ (.head _),hd⟩
        ·exact c k (Zf7.2 a)) (λk a=>e k (.tail _ a)) (by
        obtain⟨k,a,b⟩:=f
        rcases Awr.1 a with rfl|a
        ·rw[hd]at b;cases b
        ·exact⟨k,a,b⟩)
      exact⟨k,n,.tail _ a,p⟩
theorem Zlo{m:Nat}{L:List Nat}:∀{es:List Edge},Zf4 m L es=true->∃x,x∈es/\Region.binds .any x=true/\Ziq m x.on=false/\Zdx L x.on=false
  |[],h=>by cases h
  | y::es,h=>by
    have a:Zf4 m L es=true->∃x,x∈y::es/\Region.binds .any x=true/\Ziq m x.on=false/\Zdx L x.on=false:=λh=>
      let⟨x,c,b⟩:=Zlo h
      ⟨x,.tail _ c,b⟩
    simp only[Zf4]at h
    cases h1:Region.binds .any y with
    |false=>rw[h1]at h;exact a h
    | true=>
      rw[h1]at h
      cases b:Ziq m y.on with
      |true=>rw[b]at h;exact a h
      | false=>
        rw[b]at h
        cases h3:Zdx L y.on with
        |true=>rw[h3]at h;exact a h
        |false=>exact⟨y,.head _,h1,b,h3⟩
theorem Zlp{es:List Edge}:∀{L:List Nat},Zkw es L=true->∀k∈L,Zhb k es=true
  |[],_,k,a=>by cases a
  | x::L,h,k,a=>by
    simp only[Zkw]at h
    cases h1:Zhb x es with
    |false=>rw[h1]at h;cases h
    | true=>
      rw[h1]at h
      rcases Awr.1 a with rfl|a
      ·exact h1
      ·exact Zlp h k a
theorem ZrX{m:Nat}{L:List Nat}:∀{os:List Oper} {k:Nat},ZG1 m L k os=true->∀j o,os[j]?=some o->Ziq m (k+j)=true\/Zdx L (k+j)=true\/Zf4 m L o.after.toList=true\/Zkw o.after.toList L=true
  |[],k,_,j,o,ho=>by simp at ho
  | x::os,k,h,j,o,ho=>by
    simp only[ZG1]at h;generalize a:(bif Ziq m k then true else bif Zdx L k then true else bif Zf4 m L x.after.toList then true else Zkw x.after.toList L)=b at h
    cases b with
    |false=>cases h
    | true =>
      cases j with
      | succ j=>
        have:=ZrX (k:=k+1) h j o (by simpa using ho);rw[show k+(j+1)=k+1+j from by omega];exact this
      | zero =>
        simp at ho;subst ho
        cases h1:Ziq m k with
        |true=>exact .inl rfl
        | false=>
          rw[h1]at a
          cases c:Zdx L k with
          |true=>exact .inr (.inl rfl)
          | false=>
            rw[c]at a
            cases h3:Zf4 m L x.after.toList with
            |true=>exact .inr (.inr (.inl rfl))
            |false=>rw[h3]at a;exact .inr (.inr (.inr a))
theorem Zmh{j k:Nat}:∀{os:List Oper} {i:Nat},ZqN j k i os=true->∀l o,os[l]?=some o->o.dst=some j->i+l=k
  |[],i,_,l,o,ho,_=>by simp at ho
  | x::os,i,h,l,o,ho,hd=>by
    simp only[ZqN]at h
    cases b:Nat.beq i k with
    | true=>
      rw[b]at h
      cases l with
      |zero=>exact Awg b
      | succ l=>
        have:=Zmh (i:=i+1) h l o (by simpa using ho) hd;omega
    | false =>
      rw[b]at h;simp only[cond_false]at h
      cases l with
      | zero=>
        simp at ho;subst ho;rw[hd]at h;simp only[Axv,cond_true]at h;cases h
      | succ l=>
        have h':ZqN j k (i+1) os=true:=by
          split at h
          ·rename_i y c
           cases a:Nat.beq y j with
           |true=>rw[a]at h;cases h
           |false=>rw[a]at h;exact h
          ·exact h
        have:=Zmh (i:=i+1) h' l o (by simpa using ho) hd;omega
theorem Zsg{ops:Array Oper}{k:Nat}{o:Oper}(ho:ops[k]?=some o):Xt ops.toList k=o.dst:=by unfold Xt;rw[show ops.toList[k]?=ops[k]? from by simp,ho];rfl
theorem ZkU{ops:Array Oper}{k j:Nat}(h:Xt ops.toList k=some j):∃o,ops[k]?=some o/\o.dst=some j:=by
  unfold Xt at h;rw[show ops.toList[k]?=ops[k]? from by simp]at h
  cases ho:ops[k]? with
  |none=>rw[ho]at h;cases h
  |some o=>rw[ho]at h;exact⟨o,rfl,h⟩
theorem Zl5{ops:Array Oper}{a:List Nat}:∀{L:List Nat},Ztk ops.toList a L=true->∀k∈L,∀j,Xt ops.toList k=some j->Zdx a j=true/\∀i o,ops[i]?=some o->o.dst=some j->i=k
  |[],_,k,b,_,_=>by cases b
  | x::L,h,k,b,j,d=>by
    simp only[Ztk]at h
    rcases Awr.1 b with rfl|b
    ·rw [d]at h;simp only at h
     cases h1:Zdx a j with
     |false=>rw[h1]at h;cases h
     | true=>
       rw[h1]at h
       cases c:ZqN j k 0 ops.toList with
       |false=>rw[c]at h;cases h
       |true=>exact⟨rfl,λi o ho hd=>by have:=Zmh c i o (by simpa using ho) hd;omega⟩
    ·refine Zl5 (L:=L) ?_ k b j d;split at h
     ·rename_i y e
      cases h1:Zdx a y with
      |false=>rw[h1]at h;cases h
      | true=>
        rw[h1]at h
        cases c:ZqN y x 0 ops.toList with
        |false=>rw[c]at h;cases h
        |true=>rw[c]at h;exact h
     ·exact h
theorem ZpO{ops:List Oper}{j:Nat}:∀{L:List Nat},ZtJ ops j L=true->∃k,k∈L/\Xt ops k=some j
  |[],h=>by cases h
  | x::L,h=>by
    have a:ZtJ ops j L=true->∃k,k∈x::L/\Xt ops k=some j:=λh=>let⟨k,c,d⟩:=ZpO h;⟨k,.tail _ c,d⟩;simp only[ZtJ]at h;split at h
    ·rename_i y e
     cases b:Nat.beq y j with
     |true=>exact⟨x,.head _,by rw[e,Awg b]⟩
     |false=>rw[b]at h;exact a h
    ·exact a h
theorem ZkZ{ops:List Oper}{L:List Nat}:∀{l:List Nat},Zpi ops L l=true->∀j,Zdx l j=true->∃k,k∈L/\Xt ops k=some j
  |[],_,j,a=>by cases a
  | x::l,h,j,a=>by
    simp only[Zpi]at h
    cases h1:ZtJ ops x L with
    |false=>rw[h1]at h;cases h
    | true=>
      rw[h1]at h
      rcases Awr.1 (Zf7.1 a)with rfl|a
      ·exact ZpO h1
      ·exact ZkZ h j (Zf7.2 a)
theorem Zou{ops:List Oper}{j:Nat}:∀{es:List Edge},ZmN ops j es=true->∃x,x∈es/\Region.binds .any x=true/\Xt ops x.on=some j
  |[],h=>by cases h
  | y::es,h=>by
    have a:ZmN ops j es=true->∃x,x∈y::es/\Region.binds .any x=true/\Xt ops x.on=some j:=λh=>let⟨k,c,d⟩:=Zou h;⟨k,.tail _ c,d⟩;simp only[ZmN]at h
    cases h1:Region.binds .any y with
    |false=>rw[h1]at h;exact a h
    | true=>
      rw[h1]at h;simp only[cond_true]at h;split at h
      ·rename_i z hz
       cases b:Nat.beq z j with
       |true=>exact⟨y,.head _,h1,by rw[hz,Awg b]⟩
       |false=>rw[b]at h;exact a h
      ·exact a h
theorem ZnL{d:Nat->Bool}{K:Prop}:∀{l:List Nat},ZnM d l K->(∀i∈l,d i=true)->K
  |[],h,_=>h
  |i::l,h,hd=>ZnL (h (hd i (.head _))) λk a=>hd k (.tail _ a)
theorem Zss{L:List Nat}{i:Nat}:∀{es:List Edge},i∈Zst L es->Zdx L i=true/\∃x,x∈es/\Region.binds .any x=true/\x.on=i
  |[],h=>by cases h
  | y::es,h=>by
    have a:i∈Zst L es->Zdx L i=true/\∃x,x∈y::es/\Region.binds .any x=true/\x.on=i:=λh=>
      let⟨h1,k,c,b⟩:=Zss h
      ⟨h1,k,.tail _ c,b⟩
    simp only[Zst]at h
    cases h1:Region.binds .any y with
    |false=>rw[h1]at h;exact a h
    | true=>
      rw[h1]at h
      cases b:Zdx L y.on with
      |false=>rw[b]at h;exact a h
      | true=>
        rw[b]at h
        rcases Awr.1 h with rfl|h
        ·exact⟨b,y,.head _,h1,rfl⟩
        ·exact a h
theorem ZxK{ops:Array Oper}{L:List Nat}{d:Nat->Bool}{f:Nat->Oper->Prop}:∀{l:List Nat},ZIB ops L d f l->∀k∈l,∀o,ops[k]?=some o->d k=false->ZnM d (Zst L o.after.toList) (f k o)
  |[],_,k,a,_,_,_=>by cases a
  | x::l,h,k,a,o,ho,hd=>by
    obtain⟨h1,b⟩:=h
    rcases Awr.1 a with rfl|a
    ·rw[ho]at h1;exact h1 hd
    ·exact ZxK b k a o ho hd
theorem ZpU:∀{tys:List VT} {t:Xn tys},(Xn.evs tys t).length=tys.length
  |[],_=>rfl
  |_::vs,t=>congrArg (· + 1) (ZpU (tys:=vs) (t:=t.2))
theorem Zj5{j:Nat}{v:EV}:∀{a:List Nat} {xs:List EV},Zdx a j=true->a.length=xs.length->Zar a (ZBW a j v xs) j=some v
  |[],_,h,_=>by cases h
  |s::c,[],_,h=>by cases h
  | s::c,x::xs,h,hl=>by
    simp only[ZBW]
    cases b:Nat.beq j s with
    |true=>simp only[cond_true,Zar,b]
    | false=>
      simp only[cond_false,Zar,b];simp only[Zdx,b,cond_false]at h;exact Zj5 h (Nat.succ.inj hl)
theorem ZjB{j i:Nat}{v:EV}(b:i≠j):∀{a:List Nat} {xs:List EV},Zar a (ZBW a j v xs) i=Zar a xs i
  |[],_=>rfl
  |s::c,[]=>rfl
  | s::c,x::xs=>by
    simp only[ZBW]
    cases d:Nat.beq j s with
    | true=>
      have:=Awg d;subst this
      have e:Nat.beq i j=false:=by
        cases h:Nat.beq i j with
        |true=>exact absurd (Awg h) b
        |false=>rfl
      simp only[cond_true,Zar,e,cond_false]
    | false=>
      simp only[cond_false,Zar];rw[ZjB b]
theorem ZnW{j:Nat}{x:EV}:∀{a:List Nat} {vs us:List EV},us.map EV.v=vs.map EV.v->Zar a vs j=some x->∃y,Zar a us j=some y/\y.v=x.v
  |[],_,_,_,h=>by simp[Zar]at h
  |s::b,[],_,_,h=>by simp[Zar]at h
  |s::b,v::vs,[],hm,h=>by simp at hm
  | s::b,v::vs,u::us,hm,h=>by
    simp only[Awo,Axw]at hm;simp only[Zar]at h⊢
    cases c:Nat.beq j s with
    |true=>rw[c]at h;simp only[cond_true,Awh]at h;subst h;exact⟨u,rfl,hm.1⟩
    |false=>rw[c]at h;exact ZnW hm.2 h
theorem Zmm{j:Nat}:∀{a:List Nat} {vs:List EV},Zdx a j=false->Zar a vs j=none
  |[],_,_=>rfl
  |s::c,[],_=>rfl
  | s::c,v::vs,h=>by
    simp only[Zdx]at h
    cases b:Nat.beq j s with
    |true=>rw[b]at h;cases h
    | false=>
      rw[b]at h;simp only[Zar,b,cond_false];exact Zmm h
def Zlg(d:Nat->Bool):List Nat->Nat
  |[]=>0
  |k::ks=>bif d k then Zlg d ks else Zlg d ks+1
theorem ZuO{d:Nat->Bool}{k:Nat}:∀{l:List Nat},Zlg (setB d k) l<=Zlg d l
  |[]=>Aqo _
  | x::l=>by
    have a:=ZuO (d:=d) (k:=k) (l:=l);have e:setB d k x=(bif Nat.beq x k then true else d x):=rfl;simp only[Zlg,e];cases b:Nat.beq x k<;>cases hd:d x<;>simp only[cond_true,cond_false]<;>omega
theorem ZuN{d:Nat->Bool}{k:Nat}(hd:d k=false):∀{l:List Nat},k∈l->Zlg (setB d k) l<Zlg d l
  |[],h=>by cases h
  | x::l,h=>by
    have h1:=ZuO (d:=d) (k:=k) (l:=l)
    rcases Awr.1 h with rfl|h
    ·have e:setB d k k=true:=by show(bif Nat.beq k k then true else d k)=true;rw[Axv];rfl
     simp only[Zlg,e,cond_true,hd,cond_false];omega
    ·have c:=ZuN hd h;simp only[Zlg]
     cases a:setB d k x<;>cases b:d x<;>simp only[cond_true,cond_false]<;>first
       |omega
       |(simp only[setB,b]at a;cases h3:Nat.beq x k<;>rw[h3]at a<;>cases a)
theorem ZpW{d:Nat->Bool}:∀{l:List Nat},(∀k∈l,d k=true)\/(∃k∈l,d k=false)
  |[]=>.inl λk a=>by cases a
  | x::l=>by
    cases hd:d x with
    |false=>exact .inr ⟨x,.head _,hd⟩
    | true=>
      rcases ZpW (d:=d) (l:=l)with h|⟨k,a,h⟩
      ·refine .inl λk a=>?_
       rcases Awr.1 a with rfl|a
       ·exact hd
       ·exact h k a
      ·exact .inr ⟨k,.tail _ a,h⟩
theorem Zsv{d:Nat->Bool}{k:Nat}(hd:d k=false):∀{l:List Nat},k∈l->0<Zlg d l
  |[],h=>by cases h
  | x::l,h=>by
    simp only[Zlg]
    rcases Awr.1 h with rfl|h
    ·rw[hd];simp only[cond_false];omega
    ·have:=Zsv hd h;cases d x<;>simp only[cond_true,cond_false]<;>omega
theorem Zsw{d:Nat->Bool}:∀{l:List Nat},Zlg d l<=l.length
  |[]=>Aqo _
  | x::l=>by
    have:=Zsw (d:=d) (l:=l);simp only[Zlg,Aqj];cases d x<;>simp only[cond_true,cond_false]<;>omega
theorem Zp0{j:Nat}:∀{L:List Nat} {m:Nat},Ziq (L.foldl ZqB m) j=(Ziq m j||Zdx L j)
  |[],m=>by simp[Zdx]
  | x::L,m=>by
    simp only[Awq,Zdx];rw[Zp0,Zrj]
    cases a:Nat.beq j x with
    |true=>rw[Awg a];simp
    |false=>simp[Awi a]
theorem Zyg{c:Cfg}{ops:Array Oper}{D:List Nat}{a0:Act}{w0:World}{Qx:Ex->Env->Zf->Prop}{m N0:Nat}{L b:List Nat}{tys:List VT}{hd:ZhH}{e:Env}{rest:ZhH->Env->Zf->Prop}
    (J:∀f,N0<=f->ZtY c ops D a0 w0 Qx f (L.foldl ZqB m) rest) {I:(Nat->Bool)->Xn tys->Zf->Prop}
    (K:∀d t h',I d t h'->ZnM d L (Zsd h' hd (rest hd (Zo3 b (Xn.evs tys t) [] e) h'))) (A:Zpi ops.toList L b=true) (S:Ztk ops.toList b L=true)
    (fuel G:Nat) (d:Nat->Bool) (t:Xn tys) (listed:Array Bool) (a:Act) (w:World) (Lk:ZlZ) (M:N0<=fuel) (g:∀k∈L,d k=true) (H:Rel ops G listed) (u:∀j,Ziq G j=(Ziq m j||(Zdx L j&&d j)))
    (l:Agr c.n ⟨λj=>bif Zdx b j then none else e.f j,e.mD⟩ a) (hs:Same w0 w) (B:XQ D a0 a) (C:∀i o j,i∈L->ops[i]?=some o->d i=true->o.dst=some j->∃v,Zar b (Xn.evs tys t) j=some v/\a.tmps[j]?=some v.v)
    (N:I d t w.heap) (E:∀p,p∈Lk->p∈ZeI hd):wpK c.rnd c.P ops (Zgz c D a0 w0 Qx) (nxt ops) Lk fuel listed a w:=by
  obtain⟨q,z⟩:=ZkF (ZnL (K d t w.heap N) g)
  have r:∀j,Zdx b j=true->∃v,Zar b (Xn.evs tys t) j=some v/\a.tmps[j]?=some v.v:=λj h=>by
    obtain⟨k,z,O⟩:=ZkZ A j h;obtain⟨o,ho,y⟩:=ZkU O;exact C k o j z ho (g k z) y
  refine ZiG (ZeP ops) _ _ _ _ _ _ (λp Q=>.inl (E p Q)) (J fuel M listed hd (Zo3 b (Xn.evs tys t) [] e) a w ⟨H.size,λj=>?_⟩ ⟨l.size,l.defers,λj v h=>?_⟩ hs B q z)
  ·rw [H.bit,u,Zp0]
   cases hm:Zdx L j with
   |false=>simp
   |true=>rw[g j (Zf7.1 hm)];simp
  ·unfold Zo3 at h;dsimp only at h
   cases s:Zdx b j with
   | true=>
     obtain⟨x,R,F⟩:=r j s;rw[R]at h;cases h;exact F
   | false=>
     rw[Zmm s]at h;refine l.val j v ?_;show(bif Zdx b j then none else e.f j)=some v;rw[s];exact h
section
variable{c:Cfg}{ops:Array Oper}{D:List Nat}{a0:Act}{w0:World}{Qx:Ex->Env->Zf->Prop}
theorem ZHz(hc:c.OK)(hD:D=ops.toList.filterMap (·.dst)){m N0:Nat}{L b:List Nat}{tys:List VT}{hd:ZhH}{e:Env}{rest:ZhH->Env->Zf->Prop}
    (r:ZEA ops m L b=true) (hlen:b.length=tys.length) (ih:∀f,N0<=f->ZtY c ops D a0 w0 Qx f (L.foldl ZqB m) rest)
    {I:(Nat->Bool)->Xn tys->Zf->Prop}
    (hS:∀ d t h',I d t h'->ZIB ops L d (λk o=>opP c o.op (eAt ops.toList o.after.toList b (Xn.evs tys t) e) h' λv h''=>Zsd h'' (Zsr o hd) (match o.dst with
        |none=>I (setB d k) t h''
        | some j=>bif Nat.blt j c.n then(match Xn.un tys (ZBW b j v (Xn.evs tys t))with
          |some t'=>I (setB d k) t' h''
          |none=>False)else False)) L)
    (hF:∀d t h',I d t h'->ZnM d L (Zsd h' hd (rest hd (Zo3 b (Xn.evs tys t) [] e) h'))):
    ∀ (n fuel V:Nat) (d:Nat->Bool) (t:Xn tys) (listed:Array Bool) (a:Act) (w:World) (Lk:ZlZ),N0+n<=fuel->Zlg d L<=n->Rel ops V listed->(∀j,Ziq V j=(Ziq m j||(Zdx L j&&d j)))->
      Agr c.n ⟨λj=>bif Zdx b j then none else e.f j,e.mD⟩ a->Same w0 w->XQ D a0 a->(∀i o j,i∈L->ops[i]?=some o->d i=true->o.dst=some j->∃v,Zar b (Xn.evs tys t) j=some v/\a.tmps[j]?=some v.v)->
      I d t w.heap->(∀p,p∈Lk->p∈ZeI hd)->wpK c.rnd c.P ops (Zgz c D a0 w0 Qx) (nxt ops) Lk fuel listed a w:=by
  unfold ZEA at r
  cases hT:ZrK ops m [] L with
  |false=>rw[hT]at r;cases r
  |true=>
  rw[hT]at r
  cases hO:ZG1 m L 0 ops.toList with
  |false=>rw[hO]at r;cases r
  |true=>
  rw[hO]at r
  cases hU:Ztk ops.toList b L with
  |false=>rw[hU]at r;cases r
  |true=>
  rw[hU]at r;have aa:Zpi ops.toList L b=true:=r;have ab:∀k,k∈L->Ziq m k=false:=λk q=>(Zqt hT k q).choose_spec.2.1;intro n
  induction n with
  | zero=>
    intro fuel V d t listed a w Lk hf ax hr g s hs Q K hI W
    have R:∀k∈L,d k=true:=λk q=>by
      cases aQ:d k with
      |true=>rfl
      |false=>have:=Zsv aQ q;omega
    exact Zyg ih hF aa hU fuel V d t listed a w Lk (by omega) R hr g s hs Q K hI W
  | succ n ay =>
    intro fuel V d t listed a w Lk hf ax hr g s hs Q K hI W
    rcases ZpW (d:=d) (l:=L)with R|az
    ·exact Zyg ih hF aa hU fuel V d t listed a w Lk (by omega) R hr g s hs Q K hI W
    ·obtain ⟨k0,o0,ae,aB,aR,af⟩:=Zpe (d:=d) (L0:=L) hT (λk q=>by cases q) (λk q=>Zf7.2 q) az
     cases fuel with
     |zero=>omega
     | succ fuel =>
       refine⟨λh0=>?_,λi hi=>?_⟩
       ·have:k0∈Region.ready .any ops listed:=hr.ready.2 ⟨o0,aR,by
          unfold ZcB;rw[g k0,ab k0 ae,aB];simp only[Bool.and_false,Bool.or_false,cond_false]
          exact Zg9.2 λx F B=>by
            rw[g x.on]
            rcases af x F B with h|⟨h1,h2⟩
            ·rw[h];rfl
            ·rw[h1,h2];simp⟩
        rw[h0]at this;cases this
       ·obtain ⟨o,ho,M⟩:=hr.ready.1 hi;unfold ZcB at M
        cases ag:Ziq V i with
        |true=>rw[ag]at M;cases M
        |false=>
        rw[ag]at M;simp only[cond_false]at M;have G:=Zg9.1 M;have A:=g i;rw[ag]at A
        have aD:Ziq m i=false:=by cases h:Ziq m i with
          |false=>rfl
          |true=>rw[h]at A;simp at A
        have ah:Zdx L i=true:=by
          have:=ZrX hO i o (by simpa using ho);rw[Awb]at this
          rcases this with h|h|h|h
          ·rw[aD]at h;cases h
          ·exact h
          ·obtain⟨x,F,B,h1,h2⟩:=Zlo h;have:=G x F B;rw[g,h1,h2]at this;simp at this
          ·have:=Zlp h k0 ae;obtain⟨x,F,B,X⟩:=Zkv.1 this;have:=G x F B;rw[g,X,ab k0 ae,aB]at this;simp at this
        have Y:=Zf7.1 ah
        have aE:d i=false:=by
          rw[aD,ah]at A
          cases h:d i with
          |false=>rfl
          |true=>rw[h]at A;simp at A
        have X:∀x∈o.after.toList,Region.binds .any x=true->Zdx L x.on=true->d x.on=true:=λx F B hm=>by
          have:=G x F B;rw[g,ab _ (Zf7.1 hm),hm]at this;simpa using this
        have ai:=ZnL (ZxK (hS d t w.heap hI) i Y o ho aE) λk q=>by
          obtain⟨h1,x,F,B,rfl⟩:=Zss q;exact X x F B h1
        have aF:Agr c.n (eAt ops.toList o.after.toList b (Xn.evs tys t) e) a:=by
          refine⟨s.size,s.defers,λj v H=>?_⟩;unfold eAt at H;dsimp only at H;split at H
          ·rename_i u hu
           cases aj:ZmN ops.toList j o.after.toList with
           |false=>rw[aj]at H;cases H
           | true=>
             rw[aj]at H;simp only[cond_true,Awh]at H;subst H;obtain⟨x,F,B,hg⟩:=Zou aj;obtain⟨ox,aG,aH⟩:=ZkU hg
             have aT:Zdx b j=true:=by
               cases h:Zdx b j with
               |true=>rfl
               |false=>rw[Zmm h]at hu;cases hu
             obtain⟨k,q,aU⟩:=ZkZ aa j aT;have aI:x.on=k:=(Zl5 hU k q j aU).2 x.on ox aG aH;obtain⟨v',h1,h2⟩:=K x.on ox j (aI▸q) aG (X x F B (Zf7.2 (aI▸q))) aH;rw[hu]at h1;cases h1;exact h2
          ·rename_i hu
           cases N:Zdx b j with
           |true=>rw[N]at H;cases H
           | false=>
             rw[N]at H;refine s.val j v ?_;show(bif Zdx b j then none else e.f j)=some v;rw[N];exact H
        have aV:o.guard=none:=by
          obtain⟨o',aJ,_,hg⟩:=Zqt hT i Y;rw[ho]at aJ;cases aJ;exact hg
        have hw:Region.wanted o (yielded ops a.tmps)=true:=by simp[Region.wanted,aV]
        unfold Go.wpOpIn;simp only[ho,hw,if_true];refine Zuv hc aF (λv w' Z hp=>⟨v,rfl,hs.trans Z,Q,hp⟩) ai λv w' Z q=>?_;obtain⟨ak,q⟩:=ZkF q;have S:∀p,p∈nxt ops Lk i->p∈ZeI hd:=λp hp=>W p ((ZeP ops).mem _ _ _ hp);refine⟨λp hp=>ak p ?_,?_⟩
        ·rw[<-Zuw ho];exact(ZeP ops).same _ _ _ _ hp (S p hp)
        have aK:=hr.set (ZkC ho);have J:XQ D a0 (a.put o.dst v.v):=Q.trans (XQ.put λx F=>hD▸ZgV ho F)
        have T:∀j,Ziq (ZqB V i) j=(Ziq m j||(Zdx L j&&setB d i j)):=λj=>by
          rw[Zrj,g j];unfold setB
          cases B:Nat.beq j i with
          |true=>rw[Awg B,ah];simp
          |false=>simp[Awi B]
        have U:Zlg (setB d i) L<=n:=by have:=ZuN aE Y;omega
        have hold:∀k,setB d i k=true->k≠i->d k=true:=λk h O=>by
          unfold setB at h
          cases B:Nat.beq k i with
          |true=>exact absurd (Awg B) O
          |false=>rw[B]at h;exact h
        cases z:o.dst with
        | none=>
          rw[z]at q;have q:I (setB d i) t w'.heap:=q;rw[z]at J;refine ay fuel (ZqB V i) (setB d i) t _ (a.put none v.v) w' _ (by omega) U aK T s (hs.trans Z) J (λk ok j al C an E=>?_) q S;refine K k ok j al C (hold k an λhe=>?_) E;subst he;rw[ho]at C;cases C;rw[z]at E;cases E
        | some j0=>
          rw[z]at q;simp only at q;rw[z]at J;obtain⟨aL,q⟩:=Zgy q;split at q
          ·rename_i t' aW
           have hm:=Zh5 aW;have aX:Xt ops.toList i=some j0:=(Zsg ho).trans z;obtain⟨N,aY⟩:=Zl5 hU i Y j0 aX;have aM:j0<a.tmps.size:=by rw[s.size];rw[Nat.blt_eq]at aL;exact aL
           refine ay fuel (ZqB V i) (setB d i) t' _ (a.put (some j0) v.v) w' _ (by omega) U aK T ⟨?_,?_,λj u H=>?_⟩ (hs.trans Z) J (λk ok j al C an E=>?_) q S
           ·simp[Act.put,s.size]
           ·rw[put_defers];exact s.defers
           ·have aN:(bif Zdx b j then none else e.f j)=some u:=H
            have O:j0≠j:=λhe=>by rw[<-he,N]at aN;cases aN
            have:=s.val j u H;simp only[Act.put];rw[Awj O];exact this
           ·by_cases aq:k=i
            ·subst aq;rw[ho]at C;cases C;rw[z]at E;cases E;obtain⟨y,hy,ar⟩:=ZnW hm (Zj5 (v:=v) N (hlen.trans ZpU.symm));refine⟨y,hy,?_⟩;simp[Act.put,aM,ar]
            ·have O:j≠j0:=λhe=>aq (aY k ok C (by rw[E,he]));obtain⟨x,F,ba⟩:=K k ok j al C (hold k an aq) E;obtain⟨y,hy,ar⟩:=ZnW hm (show Zar b (ZBW b j0 v (Xn.evs tys t)) j=some x from by rw[ZjB O];exact F);refine⟨y,hy,?_⟩;simp only[Act.put];rw[Awj (Ne.symm O),ar];exact ba
          ·exact q.elim
end
section
variable{c:Cfg}{ops:Array Oper}{D:List Nat}{a0:Act}{w0:World}{Qx:Ex->Env->Zf->Prop}
theorem ZvE{i m:Nat}{o:Oper}{a:Bool}(h:ZDU c ops o m i a=true):ZcB m i o=true/\((ZgT c o.op= .other->ZlB m i 0 ops.toList=true)/\(ZgT c o.op≠ .other->a=true->Zo1 ops o m i 0 ops.toList=true)/\(a=false->ZlB m i 0 ops.toList=true)):=by
  unfold ZDU at h
  cases d:ZcB m i o with
  |false=>rw[d]at h;cases h
  | true=>
    rw[d]at h;simp only[cond_true]at h;refine⟨rfl,?_⟩
    cases b:ZgT c o.op with
    |other=>rw[b]at h;exact⟨λ_=>h,λf=>absurd rfl f,λ_=>h⟩
    | pure=>
      rw[b]at h
      cases a with
      |true=>exact⟨λe=>(by cases e),λ_ _=>h,λe=>(by cases e)⟩
      |false=>exact⟨λe=>(by cases e),λ_ e=>(by cases e),λ_=>h⟩
    | load t x=>
      rw[b]at h
      cases a with
      |true=>exact⟨λe=>(by cases e),λ_ _=>h,λe=>(by cases e)⟩
      |false=>exact⟨λe=>(by cases e),λ_ e=>(by cases e),λ_=>h⟩
    | text x=>
      rw[b]at h
      cases a with
      |true=>exact⟨λe=>(by cases e),λ_ _=>h,λe=>(by cases e)⟩
      |false=>exact⟨λe=>(by cases e),λ_ e=>(by cases e),λ_=>h⟩
theorem Zlj{a b:Bool}(h:(bif a then b else false)=true):a=true/\b=true:=by
  cases a with
  |false=>cases h
  |true=>exact⟨rfl,h⟩
theorem Ziy(C:Zhi ops)(X:c.OK)(N:D=ops.toList.filterMap (·.dst))(A:Region.noSelect ops=true){K:Env->Zf->Prop}(Q:∀Y h',K Y h'->Qx .normal Y h'):
    ∀(l:OrdT) (fuel m:Nat),l.depth<=fuel->ZqM c ops l m=true->ZtY c ops D a0 w0 Qx fuel m (ZqL c ops K l)
  | .done,fuel,m,R,k=>by
    intro listed hd e a w G u hs E q g;unfold ZqL at g;exact ZAL (ZvZ G k) ⟨e,u,hs,E,Q _ _ g⟩ fuel
  | .inv L S tys r,fuel,m,R,k=>by
    intro listed hd e a w G u hs E q g;unfold ZqL at g;unfold ZqM at k;obtain⟨k,T⟩:=Zlj k;simp only[Awn]at k;obtain⟨I,⟨t,hI⟩,hS,hF⟩:=g;have au:r.depth+L.length<=fuel:=R;refine ZHz X N k.1 (Awg k.2) (N0:=r.depth) (λf av=>Ziy C X N A Q r f _ av T) hS hF L.length fuel m (λ_=>false) t listed a w (ZeI hd) au Zsw G (λj=>by simp) ⟨u.size,u.defers,λj v hj=>?_⟩ hs E (λ_ _ _ _ _ h _=>by cases h) hI (λ_ h=>h);have hj:(bif Zdx S j then none else e.f j)=some v:=hj
    cases hm:Zdx S j with
    |true=>rw[hm]at hj;cases hj
    |false=>rw[hm]at hj;exact u.val j v hj
  | .fork i r j s,0,m,R,_=>by simp[OrdT.depth]at R
  | .take i fr r,0,m,R,_=>by simp[OrdT.depth]at R
  | .fork i r j s,fuel+1,m,R,k=>by
    have z:r.depth<=fuel:=by
      have h1:Nat.max r.depth s.depth+1<=fuel+1:=R;have Z:r.depth<=Nat.max r.depth s.depth:=Nat.le_max_left _ _;omega
    have aw:s.depth<=fuel:=by
      have h1:Nat.max r.depth s.depth+1<=fuel+1:=R;have Z:s.depth<=Nat.max r.depth s.depth:=Nat.le_max_right _ _;omega
    intro listed hd e a w G u hs E q g;unfold ZqL at g;unfold ZqM at k;split at g
    ·rename_i o p ho hp;rw[ho,hp]at k;obtain⟨hb,k⟩:=Zlj k;obtain⟨ai,T⟩:=Zlj k;simp only[Awn]at hb;have ax:=Ziy C X N A Q r fuel (ZqB m i) z ai;have ay:=Ziy C X N A Q s fuel (ZqB m j) aw T;exact ZDQ (ZA1 G hb.2.2) (G.ready.2 ⟨o,ho,hb.1⟩) (ZtM C X N ho G u hs E q ax g.1) (ZtM C X N hp G u hs E q ay g.2)
    ·exact g.elim
  | .take i fr r,fuel+1,m,R,k=>by
    have z:r.depth<=fuel:=Nat.le_of_succ_le_succ R;intro listed hd e a w G u hs E q g;unfold ZqL at g;unfold ZqM at k;split at g
    ·exact g.elim
    ·rename_i o ho;rw[ho]at k;obtain⟨hb,k⟩:=Zlj k;obtain⟨O,aj,H,U⟩:=ZvE hb;have ih:=Ziy C X N A Q r fuel (ZqB m i) z k
     have ak:ZlB m i 0 ops.toList=true->ZE2 c ops o hd e w.heap (ZqL c ops K r)->wpK c.rnd c.P ops (Zgz c D a0 w0 Qx) (nxt ops) (ZeI hd) (fuel+1) listed a w:=
       λZ g=>Zua (ZxL G Z) (G.ready.2 ⟨o,ho,O⟩) (ZtM C X N ho G u hs E q ih g)
     have al:=G.set (ZkC ho);have aa:∀v,XQ D a0 (a.put o.dst v):=λv=>E.trans (XQ.put λx hx=>N▸ZgV ho hx);have hQ:∀c' a' v w',Zgz c D a0 w0 Qx (.panic c') (a'.put o.dst v) w'->Zgz c D a0 w0 Qx (.panic c') a' w':=λ_ _ _ _ h=>ZnH (λx hx=>by rw[N];exact ZgV ho hx) h;split at g
     ·rename_i F
      have an:Zo1 ops o m i 0 ops.toList=true\/ZlB m i 0 ops.toList=true:=by
        cases fr with
        |true=>exact .inl (H (by rw[F];intro e;cases e) rfl)
        |false=>exact .inr (U rfl)
      unfold ZHF at g
      rcases Zi1 u g with⟨e1,B,hw,g⟩ |⟨e1,B,hw,g⟩
      ·obtain⟨v,M,g⟩:=ZAX B F g;obtain⟨Y,V,g⟩:=Zeb B g;exact Zqx C ho A hQ G O an (v:=v.v) (.inl ⟨hw,λw _=>M w trivial⟩) q (ih _ hd Y _ w al V hs (aa _) q g)
      ·obtain⟨Y,V,g⟩:=Zeb B g;exact Zqx C ho A hQ G O an (v:=undef) (.inr ⟨hw,rfl⟩) q (ih _ hd Y _ w al V hs (aa _) q g)
     ·rename_i t x F;have J:=ZxX F
      cases z:fr with
      | true=>
        rw[z]at g;simp only[cond_true]at g;refine Zuf C N A ho G u hs E q ih O (H (by rw[F];intro e;cases e) z) (λe1 B g=>?_) g;split at g
        ·rename_i y hy;obtain⟨b,p,hp,g⟩:=Zju g;obtain⟨v,cells,W,M,g⟩:=ZBe g;refine⟨v,λh'=>Zo h' cells,Zmp.2 W,λw' ab=>?_,g⟩;obtain⟨dst,op,type,pos,after,guard⟩:=o;simp only at J;subst J;refine Zxz (s:=Instr.loadAt t (a.eval x)) ?_;rw[B.ev hy,hp];exact Zpm (M w' (Zmp.1 ab))
        ·exact g.elim
      | false=>
        rw[z]at g;simp only[cond_false]at g;refine ZES C N ho G u hs E q ih (λ{e K} h1 Z=>?_) O (U z) g;obtain⟨dst,op,type,pos,after,guard⟩:=o;simp only at J;subst J;exact Zqs h1 Z
     ·rename_i x F;obtain⟨s,d,el,J,aB,aC,aD⟩:=Zxh F
      cases z:fr with
      | true =>
        rw[z]at g;simp only[cond_true]at g;refine Zuf C N A ho G u hs E q ih O (H (by rw[F];intro e;cases e) z) (λe1 B g=>?_) g;split at g
        ·rename_i p l n hy
         obtain ⟨str,M,g⟩:=Ztq (P:=c.P) (w:=w) (x:=⟨p,l,n⟩) (K:=λs=>b2s ⟨p,l,n⟩ w.heap (λs'=>s'=s)/\ZsR c.n e1 o.dst (.val (.string s)) λY=>ZqL c ops K r ((i,λh'=>b2s ⟨p,l,n⟩ h' λs'=>s'=s)::hd) Y w.heap) (by
           rcases g with⟨h0,g⟩ |⟨b,o2,s,h1,Z,h3,g⟩
           ·exact .inl ⟨h0,.inl ⟨h0,rfl⟩,g⟩
           ·exact .inr ⟨b,o2,s,h1,Z,h3,.inr ⟨b,o2,s,h1,Z,h3,rfl⟩,g⟩)
         refine⟨.val (.string str),λh'=>b2s ⟨p,l,n⟩ h' λs'=>s'=str,g.1,λw' ab=>?_,g.2⟩;obtain⟨s2,ae,rfl⟩:=Ztq (P:=c.P) (w:=w') ab;obtain⟨dst,op,type,pos,after,guard⟩:=o;simp only at J;subst J;refine Zxz (s:=convert s d (a.eval x)) ?_;rw[B.ev hy];exact(ZjU aB aC aD).trans ae
        ·exact g.elim
      | false=>
        rw[z]at g;simp only[cond_false]at g;exact ak (U z) g
     ·rename_i F;exact ak (aj F) g
end
theorem ZpC{e:Env}:∀{a:List Nat} {es:List EV} {vs:List EV} {j:Nat} {v:EV},ZvU e a=some es->es.map EV.v=vs.map EV.v->Zar a vs j=some v->∃u,e j=some u/\u.v=v.v
  |[],es,vs,j,v,_,_,h=>by simp[Zar]at h
  | s::f,es,vs,j,v,b,hm,h=>by
    simp only[ZvU]at b;split at b
    ·rename_i u us hu c;simp only[Awh]at b;subst b
     cases vs with
     |nil=>simp[Zar]at h
     | cons g vs=>
       simp only[Awo,Axw]at hm;simp only[Zar]at h
       cases d:Nat.beq j s with
       | true=>
         have:=Awg d;subst this;rw[d]at h;simp only[cond_true,Awh]at h;subst h;exact⟨u,hu,hm.1⟩
       | false=>
         rw[d]at h;exact ZpC c hm.2 h
    ·cases b
theorem Zra{c:Cfg}{b:List Nat}{tys:List VT}{kill:List (Nat×Nat)}{e y:Env}{a a':Act}{D:List Nat}{t:Xn tys}(i:Agr c.n e a)(g:Agr c.n y a')(f:XQ D a a')
    (k:D.all (λj=>bif Nat.beq j mkN then false else Zdx b j||Zsa kill j)=true) (q:Ztr b tys y=some t) (l:∀j,Zdx b j=true->∃v,Zar b (Xn.evs tys t) j=some v):
    Agr c.n (Zo3 b (Xn.evs tys t) kill e) a':=by
  have r:mkN∉D:=λh=>by
    have:=Axb.1 k mkN h;rw[show Nat.beq mkN mkN=true from Axv mkN]at this;cases this
  refine⟨g.size,(f.2 r).trans i.defers,λj v d=>?_⟩;unfold Zo3 at d;dsimp only at d;unfold Ztr at q;split at q
  ·rename_i es s;have hm:=Zh5 q
   cases hl:Zar b (Xn.evs tys t) j with
   | some u=>
     rw[hl]at d;simp only[Awh]at d;subst d;obtain⟨x,z,hv⟩:=ZpC s hm.symm hl;rw[<-hv];exact g.val j x z
   | none =>
     rw[hl]at d;simp only at d
     cases w:Zsa kill j with
     |true=>rw[w]at d;cases d
     | false=>
       rw[w]at d;simp only[cond_false]at d
       have m:j∉D:=by
         intro A;have:=Axb.1 k j A
         cases o:Nat.beq j mkN with
         |true=>rw[o]at this;cases this
         |false=>
         rw[o,w,cond_false,Bool.or_false]at this;obtain⟨B,p⟩:=l j this;rw[hl]at p;cases p
       rw[f.1 j m];exact i.val j v d
  ·cases q
theorem Zr6{e:Env}:∀{a:List Nat} {es vs:List EV} {j:Nat},ZvU e a=some es->es.map EV.v=vs.map EV.v->Zdx a j=true->∃v,Zar a vs j=some v
  |[],es,vs,j,_,_,h=>by simp[Zdx]at h
  | s::g,es,vs,j,b,hm,h=>by
    simp only[ZvU]at b;split at b
    ·rename_i u us hu c;simp only[Awh]at b;subst b
     cases vs with
     |nil=>simp at hm
     | cons d vs=>
       simp only[Awo,Axw]at hm;simp only[Zar];simp only[Zdx]at h
       cases f:Nat.beq j s with
       |true=>exact⟨d,rfl⟩
       | false=>
         rw[f]at h;exact Zr6 c hm.2 h
    ·cases b
theorem ZrS{a:List Nat}{tys:List VT}{e:Env}{t:Xn tys}(b:Ztr a tys e=some t):∀j,Zdx a j=true->∃v,Zar a (Xn.evs tys t) j=some v:=by
  intro j d;unfold Ztr at b;split at b
  ·rename_i es c;exact Zr6 c (Zh5 b).symm d
  ·cases b
theorem ZpG{a:List Nat}{tys:List VT}{e:Env}{J:Xn tys->Zf->Prop}{h:Zf}(b:Zx3 a tys e J h):∃t,Ztr a tys e=some t/\J t h:=by
  unfold Zx3 at b;split at b
  ·rename_i t c;exact⟨t,c,b⟩
  ·exact b.elim
theorem Zpk{n:Nat}:∀{d:List Tmp} {vs:List EV} {e c:Env} {a:Act},Agr n e a->Zpl n e d vs=some c->
    Agr n c {a with tmps:=(d.zip (vs.map EV.v)).foldl (λt x=>t.setIfInBounds x.1 x.2) a.tmps}
  | [],[],e,c,a,b,h=>by
    simp only[Zpl,Awh]at h;subst h;exact b
  | p::d,v::vs,e,c,a,b,h=>by
    simp only[Zpl]at h
    cases f:Nat.blt p n with
    |false=>rw[f]at h;cases h
    | true=>
      rw[f]at h;exact Zpk (a:=a.put (some p) v.v) (b.set f v) h
  |[],_::_,e,c,a,b,h=>by cases h
  |_::_,[],e,c,a,b,h=>by cases h
theorem ZxC(a:Array Tmp)(vs:List Value)(tmps:Array Value):(a.zip vs.toArray).foldl (λt x=>t.setIfInBounds x.1 x.2) tmps=(a.toList.zip vs).foldl (λt x=>t.setIfInBounds x.1 x.2) tmps:=by rw[<-Array.foldl_toList,Array.toList_zip]
theorem ZcT:∀(code:Code) (c:Cfg) (_:c.OK) (_:c.P.follows .mixedOrders=true) (G:Ann) (e:Env) (a:Act) (w:World) (Q:Ex->Env->Zf->Prop),
    Agr c.n e a->wpC c code G e w.heap Q->code.wpIn (fen c.rnd) 0 c.P (Zgz c (Zgx code) a w Q) a w
  | .skip,c,K,d,G,e,a,w,Q,m,i=>wpIn_skip ⟨e,m,Same.refl w,XQ.refl _ a,i⟩
  | .region id ops draw,c,K,d,G,e,a,w,Q,m,i=>by
    unfold wpC at i
    cases draw with
    | false=>
      refine wpIn_region ?_;rw[List.range_eq_range'];have:=ZnA K (ops:=ops) (Q:=Zgz c (Zgx (.region id ops false)) a w Q) ops.toList 0 (by simp) m i (λN a' w' h1 B h3 o=>⟨N,h1,B,h3,o⟩) (λv a' w' B h3 o=>⟨v,rfl,B,h3,o⟩);simpa using this
    | true=>
      simp only at i;split at i
      ·rename_i l;obtain⟨H,i⟩:=Zgy i;simp only[Awn]at H;refine wpIn_region_any d (Zw5 (nx:=nxt ops) _ (ZeI []) _ _ _ ?_);exact Ziy (Zv0 H.2.2.1) K (D:=Zgx (.region id ops true)) rfl H.1 (λ_ _ h=>h) l ops.size 0 (Awt H.2.1) H.2.2.2 _ [] e a {w with drawn:=w.drawn+1} (Rel.zero ops) m ⟨rfl,rfl,rfl⟩ (XQ.refl _ a) (λq hq=>(by cases hq)) i
      ·obtain⟨H,i⟩:=Zgy i;simp only[Awn]at H;have ai:c.rnd=none:=Axu.1 H.1;rw[ai];refine wpIn_region_quiet (C:=Cls w w.heap) rfl d H.2 ⟨⟨rfl,rfl,rfl⟩,rfl⟩ ?_;refine ZqJ K ops.toList 0 (by simp) m i λN a' h1 h3 o w' hw=>⟨N,h1,hw.1,h3,?_⟩;rw[hw.2];exact o
  | .seq x y,c,K,d,G,e,a,w,Q,m,i=>by
    have plain:∀u v:Ann,wpC c x u e w.heap (ZBr (λN h'=>wpC c y v N h' Q) Q)->(Code.seq x y).wpIn (fen c.rnd) 0 c.P (Zgz c (Zgx (.seq x y)) a w Q) a w:=by
      intro u v i;refine wpIn_seq (wpIn_mono (ZcT x c K d u e a w _ m i) ?_);intro ex a' w' L
      cases ex<;>first
        |exact L.elim
        |skip
      ·obtain⟨N,h1,B,h3,o⟩:=L;refine wpIn_mono (ZcT y c K d v N a' w' _ h1 o) ?_;exact Zgz.mono B (h3.mono λj E=>Axx.2 (.inl E)) (λj E=>Axx.2 (.inr E)) (λ_ _ _ h=>h)
      ·obtain⟨N,h1,B,h3,o⟩:=L;exact⟨N,h1,B,h3.mono λj E=>Axx.2 (.inl E),o⟩
      ·obtain⟨N,h1,B,h3,o⟩:=L;exact⟨N,h1,B,h3.mono λj E=>Axx.2 (.inl E),o⟩
      ·obtain⟨v,h1,B,h3,o⟩:=L;exact⟨v,h1,B,h3.mono λj E=>Axx.2 (.inl E),o⟩
    unfold wpC at i;split at i
    ·rename_i z tys kill u v
     cases O:ZuM z kill x with
     |false=>rw[O]at i;exact i.elim
     | true=>
       rw[O]at i;obtain⟨J,hJ,i⟩:=i;refine wpIn_seq (wpIn_mono (ZcT x c K d u e a w _ m i) ?_);intro ex a' w' L
       cases ex<;>first
         |exact L.elim
         |skip
       ·obtain⟨N,h1,B,h3,o⟩:=L;obtain⟨t,ht,E⟩:=ZpG o;have U:=Zra m h1 h3 O ht (ZrS ht);refine wpIn_mono (ZcT y c K d v _ a' w' _ U (hJ t w'.heap E)) ?_;exact Zgz.mono B (h3.mono λj E=>Axx.2 (.inl E)) (λj E=>Axx.2 (.inr E)) (λ_ _ _ h=>h)
       ·obtain⟨N,h1,B,h3,o⟩:=L;exact⟨N,h1,B,h3.mono λj E=>Axx.2 (.inl E),o⟩
       ·obtain⟨N,h1,B,h3,o⟩:=L;exact⟨N,h1,B,h3.mono λj E=>Axx.2 (.inl E),o⟩
       ·obtain⟨v,h1,B,h3,o⟩:=L;exact⟨v,h1,B,h3.mono λj E=>Axx.2 (.inl E),o⟩
    ·exact plain _ _ i
  | .cond x p q,c,K,d,G,e,a,w,Q,m,i=>by
    have yes:∀u,wpC c p u e w.heap Q->p.wpIn (fen c.rnd) 0 c.P (Zgz c (Zgx (.cond x p q)) a w Q) a w:=λu i=>
      wpIn_mono (ZcT p c K d u e a w Q m i) (Zgz.mono (Same.refl w) (XQ.refl _ a) (λj E=>Axx.2 (.inl E)) (λ_ _ _ h=>h))
    have no:∀u,wpC c q u e w.heap Q->q.wpIn (fen c.rnd) 0 c.P (Zgz c (Zgx (.cond x p q)) a w Q) a w:=λu i=>
      wpIn_mono (ZcT q c K d u e a w Q m i) (Zgz.mono (Same.refl w) (XQ.refl _ a) (λj E=>Axx.2 (.inr E)) (λ_ _ _ h=>h))
    unfold wpC at i;split at i
    ·rename_i hx;exact wpIn_cond_true (m.ev hx) (yes _ i)
    ·rename_i hx;exact wpIn_cond_false (m.ev hx) (no _ i)
    ·rename_i b hx;exact wpIn_cond_split (m.ev hx) (λH=>yes _ (i.1 H)) (λH=>no _ (i.2 H))
    ·exact i.elim
  | .block id x,c,K,d,G,e,a,w,Q,m,i=>by
    unfold wpC at i;refine wpIn_block (wpIn_mono (ZcT x c K d _ e a w _ m i) ?_);intro ex a' w' L
    cases ex<;>first
      |exact L.elim
      |skip
    ·exact L
    ·rename_i aL;obtain⟨N,h1,B,h3,o⟩:=L;simp only[Exit.inBlock];simp only[ZCg]at o
     cases H:Nat.beq aL id with
     | true=>
       rw[H]at o;rw[if_pos (Awg H)];exact⟨N,h1,B,h3,o⟩
     | false=>
       rw[H]at o;rw[if_neg (Awi H)];exact⟨N,h1,B,h3,o⟩
    ·exact L
    ·exact L
  | .loop x,c,K,d,G,e,a,w,Q,m,i=>by
    unfold wpC at i;split at i
    ·rename_i z tys kill u
     cases O:ZuM z kill x with
     |false=>rw[O]at i;exact i.elim
     | true =>
       rw[O]at i;simp only[cond_true]at i;split at i
       ·rename_i t0 ay;obtain⟨I,μ,h0,hr⟩:=i;have ab:=ZrS ay
        have aj:∀ (t:Xn tys) j,Zdx z j=true->∃v,Zar z (Xn.evs tys t) j=some v:=by
          intro t j E;obtain⟨v,hv⟩:=ab j E
          have len:∀(ts:List VT) (s s':Xn ts),(Xn.evs ts s).length=(Xn.evs ts s').length:=by
            intro ts
            induction ts with
            |nil=>intro s s';rfl
            |cons x xs ih=>intro s s';simp only[Xn.evs,Aqj];exact congrArg _ (ih _ _)
          have go:∀ (ss:List Nat) (us vs:List EV),us.length=vs.length->(∃v,Zar ss us j=some v)->∃v,Zar ss vs j=some v:=by
            intro ss
            induction ss with
            |nil=>intro us vs _ h;simp[Zar]at h
            | cons s ss ih=>
              intro us vs hlen h
              cases us with
              |nil=>simp[Zar]at h
              | cons u us=>
                cases vs with
                |nil=>simp at hlen
                | cons v' vs=>
                  simp only[Zar]at h⊢
                  cases H:Nat.beq j s with
                  |true=>exact⟨v',rfl⟩
                  | false=>
                    rw[H]at h;exact ih us vs (by simpa using hlen) h
          exact go z _ _ (len tys t0 t) ⟨v,hv⟩
        refine wpIn_loop_ghost (λn a' w'=>Same w w'/\XQ (Zgx x) a a'/\∃t,Agr c.n (Zo3 z (Xn.evs tys t) kill e) a'/\I t w'.heap/\n=μ t w'.heap)
          (μ t0 w.heap) ⟨Same.refl w,XQ.refl _ a,t0,Zra m m (XQ.refl _ a) O ay ab,h0,rfl⟩ ?_
        rintro n a' w' ⟨hs,M,t,aB,hI,rfl⟩;refine wpIn_mono (ZcT x c K d u _ a' w' _ aB (hr t w'.heap hI)) ?_;intro ex a2 w2 L
        cases ex<;>first
          |exact L.elim
          |skip
        ·obtain⟨Z,h1,B,h3,o⟩:=L;have h5:Zx3 z tys Z (λs' h'=>I s' h'/\μ s' h'<μ t w'.heap) w2.heap:=o;obtain⟨t2,aN,aO,hμ⟩:=ZpG h5;exact⟨_,hμ,hs.trans B,M.trans h3,t2,Zra m h1 (M.trans h3) O aN (aj t2),aO,rfl⟩
        ·obtain⟨Z,h1,B,h3,o⟩:=L;exact⟨Z,h1,hs.trans B,M.trans h3,o⟩
        ·obtain⟨Z,h1,B,h3,o⟩:=L;exact⟨Z,h1,hs.trans B,M.trans h3,o⟩
        ·obtain⟨v,h1,B,h3,o⟩:=L;exact⟨v,h1,hs.trans B,M.trans h3,o⟩
       ·exact i.elim
    ·exact i.elim
  | .exit id,c,K,d,G,e,a,w,Q,m,i=>wpIn_exit ⟨e,m,Same.refl w,XQ.refl _ a,i⟩
  | .ret,c,K,d,G,e,a,w,Q,m,i=>wpIn_ret ⟨e,m,Same.refl w,XQ.refl _ a,i⟩
  | .rangeFunc g ps assign body,c,K,d,G,e,a,w,Q,m,i=>by
    unfold wpC at i;split at i
    ·rename_i tys x y
     cases H:(c.rnd.isNone&&e.mD.isNo)with
     |false=>rw[H]at i;exact i.elim
     | true =>
       rw[H]at i;simp only[cond_true]at i;simp only[Awn]at H;have ai:c.rnd=none:=Axu.1 H.1
       have aP:e.mD= .no:=by
         cases h9:e.mD with
         |no=>rfl
         |at_ D9=>rw[h9]at H;cases H.2
         |raw d9=>rw[h9]at H;cases H.2
       have aQ:a.defers=[]:=by rw[m.defers,aP];rfl
       split at i
       ·rename_i f cs hg;split at i
        ·rename_i s t L
         obtain⟨ae,ht⟩:=ZnJ L;dsimp only at ae ht;have aC:=K.iters _ ae;dsimp only at aC;have aR:a.eval g=Value.func (.func f) #[] ⟨cs⟩:=m.ev hg;rw[ai];refine wpIn_rangeFunc ?_;intro fn aS;obtain⟨r,hr⟩:∃r:Loop,r={state:=.ready,pending:=none,fn,tmps:=a.tmps,params:=ps,assign,body,defers:=w.heap.size}:=⟨_,rfl⟩;have af:=i r;clear i;obtain⟨W1,al⟩:∃W1,(w.alloc (.deferred (some []))).alloc (ZdC r .ready none)=W1:=⟨_,rfl⟩;have aT:W1.heap=(w.heap.push (.deferred (some []))).push (ZdC r .ready none):=by rw[<-al];rfl
         have aU:Same w W1:=by rw[<-al];exact⟨rfl,rfl,rfl⟩
         rw[<-aT]at af
         have hY:YOK c.P (Zpb r (w.heap.size+1) ps.size (λvs h' k=>ZyS (λa:Xn tys=>(Xn.evs tys a).map EV.v) vs λa=>match Zpl c.n ⟨e.f,.no⟩ ps.toList (Xn.evs tys a)with
           | some e1=>wpC {c with rnd:=some (w.heap.size+1),pan:=λ_ _=>False} assign x e1 h' (ZBZ λZ B=>
               ZtQ r (w.heap.size+1) B λh3=>wpC {c with rnd:=some (w.heap.size+1),pan:=λ_ _=>False} body y Z h3 (ZBY k))
           |none=>False)):=by
           intro l vs k W hy;obtain⟨rfl,hlen,V,F⟩:=hy;obtain⟨ta,rfl,F⟩:=F;split at F
           ·rename_i e1 aW;have an:W.heap[w.heap.size+1]?=some (.loop {r with state:=.ready,pending:=none}):=V;have hy:=run_yield (P:=c.P) (args:=((Xn.evs tys ta).map EV.v).toArray) an (by rw[hr];simpa using hlen);refine⟨fn,(ps.zip ((Xn.evs tys ta).map EV.v).toArray).foldl (λt x=>t.setIfInBounds x.1 x.2) a.tmps,assign,body,by rw[hr]at hy;exact hy,?_⟩
            have ah:Agr c.n e1 {tmps:=(ps.toList.zip ((Xn.evs tys ta).map EV.v)).foldl (λt x=>t.setIfInBounds x.1 x.2) a.tmps,defers:=[]}:=
              Zpk (e:=⟨e.f,.no⟩) (a:={a with defers:=[]}) ⟨m.size,rfl,m.val⟩ aW
            have aD:=K.at (some (w.heap.size+1)) (λ_ _=>False);rw[<-ZxC]at ah;refine roundIn_of_wpIn aS ?_;refine wpIn_mono (ZcT assign _ aD d x e1 _ W _ ah F) ?_;intro ex a1 w1 S
            cases ex with
            | normal=>
              obtain⟨Z,U,aa,bo,ao,aX⟩:=S;have aE:w1.heap[w.heap.size+1]?=some (.loop {r with state:=.ready,pending:=none}):=ao;refine⟨_,run_beginRound aE rfl,?_⟩;refine wpIn_mono (ZcT body _ aD d y Z a1 (w1.putObj (w.heap.size+1) (.loop {r with state:=.busy,pending:=none})) _ U aX) ?_;have X:Same W (w1.putObj (w.heap.size+1) (.loop {r with state:=.busy,pending:=none})):=aa.trans ⟨rfl,rfl,rfl⟩
              have fin:∀(p:Option Code) (W3:World),Same (w1.putObj (w.heap.size+1) (.loop {r with state:=.busy,pending:=none})) W3 ->
                  Zv8 W3.heap (w.heap.size+1) r .busy none (k p.isNone (Zns W3.heap (w.heap.size+1) (ZdC r (if p.isNone then .ready else .done) p)))->
                  ∃v w',(Instr.endRound (w.heap.size+1) p).run c.P W3= .ok v w'/\∃b,Ending.returned v= .returned (.bool b)/\Same W w'/\k b w'.heap:=by
                intro p W3 R A;have aF:W3.heap[w.heap.size+1]?=some (.loop {r with state:=.busy,pending:=none}):=A.1;exact⟨_,_,run_endRound p aF,p.isNone,rfl,(X.trans R).trans ⟨rfl,rfl,rfl⟩,A.2⟩
              intro aY a3 w3 T
              cases aY with
              |normal=>obtain⟨e3,_,R,_,A⟩:=T;exact fin none w3 R A
              |ret=>obtain⟨e3,_,R,_,A⟩:=T;exact fin (some .ret) w3 R A
              |exit id=>obtain⟨e3,_,R,_,A⟩:=T;exact fin (some (.exit id)) w3 R A
              |goto t=>exact T.elim
              |panic ch=>obtain⟨_,_,_,_,A⟩:=T;exact A.elim
              |outgrown=>exact T.elim
            |ret=>obtain⟨_,_,_,_,A⟩:=S;exact A.elim
            |exit id=>obtain⟨_,_,_,_,A⟩:=S;exact A.elim
            |goto t=>exact S.elim
            |panic ch=>obtain⟨_,_,_,_,A⟩:=S;exact A.elim
            |outgrown=>exact S.elim
           ·exact F.elim
         have ba:=aC _ hY;obtain⟨⟨fd,hf,aq,ar⟩,au⟩:=ba
         have F:(#[Value.func (.yield (w.heap.size+1)) #[] #[]]:Array Value)++(⟨cs⟩:Array Value)=((Xn.evs (.yl::s.caps) (w.heap.size+1,t)).map EV.v).toArray:=by
           have h5:=Zh5 ht;have h6:(cs.map EV.val).map EV.v=cs:=by simp[Function.comp_def,EV.v]
           rw[h6]at h5;simp only[Xn.evs,Awo,h5];simp[VT.ev,EV.v]
         refine ⟨w.heap.size+1,[{target:=.collected w.heap.size,args:= #[]}],W1,{target:=.fn (.func f) ⟨cs⟩,args:= #[.func (.yield (w.heap.size+1)) #[] #[]]},W1,f,
           #[.func (.yield (w.heap.size+1)) #[] #[]]++(⟨cs⟩:Array Value),W1,?_,?_,?_,?_,λh=>(by cases h),Zjs.2 ?_⟩
         ·rw[<-al,hr];exact run_enterLoop_outer fn a.tmps ps assign body
         ·simp only[resolve,aR];simp[Deferred.ofValue,Act.eval]
         ·intro f' bt;exact trivial
         ·simp only[invoke,callFunc,Awk,run_program,Awl,hf,aq,Aqc,if_false,ar,Awp]
         ·rw [F]
          refine (au (w.heap.size+1,t) (λ_ h'=>∃st p,st≠ .busy/\Zv8 h' (w.heap.size+1) r st p (Zv7 p (Q .normal ⟨e.f,.at_ w.heap.size⟩ (Zns h' (w.heap.size+1) (ZdC r .exhausted p)))
            (λid=>Q (.exit id) ⟨e.f,.at_ w.heap.size⟩ (Zns h' (w.heap.size+1) (ZdC r .exhausted p))) (Q .ret ⟨e.f,.at_ w.heap.size⟩ (Zns h' (w.heap.size+1) (ZdC r .exhausted p))))) (λ_ _=>False) W1 af).mono ?_
          rintro ending w2 (⟨rr,rfl,aa,st,p,bb,V,E⟩ |⟨v,rfl,aa,i⟩)
          ·have an:w2.heap[w.heap.size+1]?=some (.loop {r with state:=st,pending:=p}):=V;have aG:=run_endLoop (P:=c.P) an (by exact bb);have X:Same w (w2.putObj (w.heap.size+1) (ZdC r .exhausted p)):=(aU.trans aa).trans ⟨rfl,rfl,rfl⟩;have Y:Agr c.n ⟨e.f,.at_ w.heap.size⟩ {a with defers:=[{target:=.collected w.heap.size,args:= #[]}]++a.defers}:=⟨m.size,by rw[aQ];rfl,m.val⟩;have av:XQ (Zgx (.rangeFunc g ps assign body)) a {a with defers:=[{target:=.collected w.heap.size,args:= #[]}]++a.defers}:=⟨λ_ _=>rfl,λh=>absurd (Axs.2 rfl) h⟩;refine⟨p,_,aG,?_⟩
           cases p with
           |none=>exact⟨_,Y,X,av,E⟩
           | some cj=>
             cases cj with
             |exit id=>exact wpIn_exit ⟨_,Y,X,av,E⟩
             |ret=>exact wpIn_ret ⟨_,Y,X,av,E⟩
             |_=>exact E.elim
          ·exact i.elim
        ·exact i.elim
       ·exact i.elim
    ·exact i.elim
  | .scope _,c,K,d,G,e,a,w,Q,m,i=>i.elim
  | .label _,c,K,d,G,e,a,w,Q,m,i=>i.elim
  | .goto _,c,K,d,G,e,a,w,Q,m,i=>i.elim
  | .refuse _,c,K,d,G,e,a,w,Q,m,i=>i.elim
theorem Zp2:∀(args:List EV) (i:Nat) (j:Nat) (v:EV),Zow.go args i j=some v->∃k,j=i+k/\args[k]?=some v
  |[],i,j,v,h=>by simp[Zow.go]at h
  | x::xs,i,j,v,h=>by
    simp only[Zow.go]at h
    cases a:Nat.beq j i with
    | true=>
      rw[a]at h;simp only[cond_true,Awh]at h;exact⟨0,Awg a,by simp[h]⟩
    | false=>
      rw[a]at h;obtain⟨k,b,hv⟩:=Zp2 xs (i+1) j v h;exact⟨k+1,by omega,by simpa using hv⟩
theorem ZnD{c:Cfg}{e:Env}{a:Act}{w:World}(g:Agr c.n e a){f:ResultVar->Sem Value}(h1:∀t,f (.tmp t)=pure (a.tmps.getD t undef))
    (h:∀x t,f (.cell x t)=(do loadVar t (<-asAddr (a.tmps.getD x undef)))):∀{rs:List ResultVar} {K:List EV->Prop},Zzp c e w.heap rs K->
    ∃vs,(rs.mapM f).run c.P w= .ok (vs.map EV.v) w/\K vs
  |[],K,d=>⟨[],rfl,d⟩
  | .tmp t::r,K,d=>by
    simp only[Zzp]at d;split at d
    ·rename_i v hv;obtain⟨vs,i,d⟩:=ZnD g h1 h d;refine⟨v::vs,?_,d⟩;have:=g.val t v hv;rw[Awz];simp only[h1,Awk,Awp,Awl,i,Awo];simp[this]
    ·exact d.elim
  | .cell x t::r,K,d=>by
    simp only[Zzp]at d;split at d
    ·rename_i b o hv;obtain⟨v,hl,d⟩:=ZuB d;obtain⟨vs,i,d⟩:=ZnD g h1 h d;refine⟨v::vs,?_,d⟩;have:=g.val x _ hv
     have j:(asAddr (a.tmps.getD x undef)).run c.P w= .ok ⟨b,o,none⟩ w:=by
       have:a.tmps.getD x undef= .pointer (some ⟨b,o,none⟩):=by simp[this,EV.v]
       rw[this];rfl
     rw[Awz];simp only[h,Awk,Awp,j,Awl,hl w rfl,i,Awo]
    ·exact d.elim
def ZOG(l:List Value):Value:=match l with
  |[v]=>v
  |l=>.tuple l.toArray
theorem Zxe:∀(vs:List EV),(Zhc vs).v=ZOG (vs.map EV.v)
  |[]=>rfl
  |[_]=>rfl
  |_::_::_=>rfl
theorem Zxg(l:List Value):(if h:l.toArray.size=1 then l.toArray[0]else Value.tuple l.toArray)=ZOG l:=by
  match l with
  |[]=>rfl
  |[x]=>rfl
  | x::y::r=>
    have:¬(x::y::r).toArray.size=1:=by simp
    rw[dif_neg this];rfl
theorem ZD7{res:List VT}{vs:List EV}{r:Xn res}(h:Xn.un res vs=some r):ZGW res r=ZOG (vs.map EV.v):=by unfold ZGW;rw[Zxe,Zh5 h]
theorem Zwa{c:Cfg}(E:c.OK)(g:c.P.follows .mixedOrders=true){f:FuncId}{fn:Func}{s:Ann}{args:List EV}{res:List VT}{K:Xn res->Zf->Prop}{m:Value->Zf->Prop}{w:World}
    (F:c.P.funcs[f]?=some fn) (G:c.n=fn.ntmps) (hlen:args.length<=fn.ntmps) (d:ZFz c fn s args res K m w.heap):
    Calls c.P f (args.map EV.v).toArray w (ZkK res w K m):=by
  unfold ZFz at d;split at d
  ·rename_i code p;refine Zjs (r:=none) (n:=0).1 (callsIn_of_wp_marks F p trivial ?_)
   have y:Agr c.n (Zow args) {tmps:=(args.map EV.v).toArray++Array.replicate (fn.ntmps- (args.map EV.v).toArray.size) undef,defers:=[]}:=by
     refine⟨by simp[G];omega,rfl,λj v H=>?_⟩;obtain⟨k,d,hv⟩:=Zp2 args 0 j v H
     have u:k<args.length:=by
       rcases Aqd k args.length with h|h
       ·exact h
       ·rw[Aqt h]at hv;cases hv
     simp only[Awb]at d;subst d;simp[u,Array.getElem?_append];have C:=Axy u;rw[hv]at C;exact congrArg EV.v (Option.some.inj C.symm)
   refine wpIn_mono (ZcT code _ (E.at none (bif ZEJ code then λ_ _=>False else m)) g s _ _ w _ y d) ?_
   have i:∀(a':Act) (w1:World) (b:Env),Agr c.n b a'->Same w w1->(Zzp c b w1.heap fn.results.toList λvs=>match Xn.un res vs with
       |some r=>K r w1.heap
       |none=>False)->∃v,(results fn a'.tmps).run c.P w1= .ok v w1/\ZkK res w K m (.returned v) w1:=by
     intro a' w1 b h1 e a
     obtain ⟨vs,I,d⟩:=ZnD (f:=λ
       | .tmp t=>pure (a'.tmps.getD t undef)
       | .cell x t=>do loadVar t (<-asAddr (a'.tmps.getD x undef))) h1 (λ_=>rfl) (λ_ _=>rfl) a
     split at d
     ·rename_i r z;refine⟨ZGW res r,?_,.inl ⟨r,rfl,e,d⟩⟩;unfold results;rw[Axa];simp only[Awk,Sem.run_map];have A:=I;refine(congrArg (λr=>(Result.andThen (Result.andThen r _) _)) A).trans ?_;simp only[Awl,Awp];rw[ZD7 z];exact congrArg (λv=>Result.ok v w1) (Zxg _)
     ·exact d.elim
   have fin:∀(a':Act) (w':World) (b:Env),Agr c.n b a'->Same w w'->(match b.mD with
       | .no=>Zzp c b w'.heap fn.results.toList λvs=>match Xn.un res vs with
         |some r=>K r w'.heap
         |none=>False
       | .at_ D=>Zlq D w'.heap λh'=>Zzp c b h' fn.results.toList λvs=>match Xn.un res vs with
         |some r=>K r h'
         |none=>False
       | .raw _=>False)->LeavesInM (fen none) 0 c.P fn a'.tmps (ZkK res w K m) a'.defers .returning w':=by
     intro a' w' b h1 e a;rw[h1.defers]
     cases hm:b.mD with
     |raw M=>rw[hm]at a;exact a.elim
     | no=>
       rw[hm]at a;exact i a' w' b h1 e a
     | at_ D=>
       rw[hm]at a;obtain⟨J,a⟩:=a;refine⟨by simp,.inl ⟨D,_,rfl,run_takeDeferred J,?_⟩⟩;exact i a' (w'.putObj D (.deferred none)) b h1 (e.trans ⟨rfl,rfl,rfl⟩) a
   intro ex a' w' q
   cases ex with
   |normal=>obtain⟨b,h1,e,h3,a⟩:=q;exact fin a' w' b h1 e a
   |ret=>obtain⟨b,h1,e,h3,a⟩:=q;exact fin a' w' b h1 e a
   |exit id=>obtain⟨b,h1,e,h3,a⟩:=q;exact a.elim
   |goto t=>exact q.elim
   |outgrown=>exact q.elim
   | panic ch =>
     obtain⟨v,rfl,e,h3,a⟩:=q
     cases o:ZEJ code with
     |true=>rw[o]at a;exact a.elim
     | false =>
       rw[o]at a
       have B:mkN∉Zgx code:=by
         have key:∀(l:List Nat),Zdx l mkN=false->mkN∉l:=by
           intro l
           induction l with
           |nil=>intro _ h;cases h
           | cons x xs L=>
             intro h hm;simp only[Zdx]at h
             cases p:Nat.beq mkN x with
             |true=>rw[p]at h;cases h
             | false=>
               rw[p]at h
               rcases Awr.1 hm with he|hm
               ·rw[<-he,Axv]at p;cases p
               ·exact L h hm
         exact key _ o
       rw[show bodyPostM (fen none) 0 c.P fn (ZkK res w K m) (.panic [{v,recovered:=false}]) a' w'=LeavesInM (fen none) 0 c.P fn a'.tmps (ZkK res w K m) a'.defers (.panicking [{v,recovered:=false}]) w' from rfl,h3.2 B];exact .inr ⟨v,rfl,e,a⟩
  ·exact d.elim
inductive AllOK(P:Program):List (FuncId×Zg)->Prop
  |nil:AllOK P []
  |cons {f:FuncId} {s:Zg} {l:List (FuncId×Zg)} (h:Zr P f s) (r:AllOK P l):AllOK P ((f,s)::l)
theorem Zp3{P:Program}:∀{l:List (FuncId×Zg)},AllOK P l->∀x,x∈l->Zr P x.1 x.2
  |[],_,x,h=>by cases h
  | _::_,.cons h0 a,x,h=>by
    cases h with
    |head=>exact h0
    |tail _ h=>exact Zp3 a x h
inductive AllExt(P:Program):List FuncId->Prop
  |nil:AllExt P []
  |cons {f:FuncId} {l:List FuncId} (h:Zzf P f) (r:AllExt P l):AllExt P (f::l)
theorem Zp4{P:Program}:∀{l:List FuncId},AllExt P l->∀f,f∈l->Zzf P f
  |[],_,x,h=>by cases h
  | _::_,.cons h0 a,x,h=>by
    cases h with
    |head=>exact h0
    |tail _ h=>exact Zp4 a x h
inductive AllDyn(P:Program):List (String×TypeId×FuncId)->Prop
  |nil:AllDyn P []
  |cons {n:String} {t:TypeId} {f:FuncId} {l:List (String×TypeId×FuncId)} (h:Zu6 P n t f) (r:AllDyn P l):AllDyn P ((n,t,f)::l)
theorem Zp5{P:Program}:∀{l:List (String×TypeId×FuncId)},AllDyn P l->∀x,x∈l->Zu6 P x.1 x.2.1 x.2.2
  |[],_,x,h=>by cases h
  | _::_,.cons h0 a,x,h=>by
    cases h with
    |head=>exact h0
    |tail _ h=>exact Zp5 a x h
inductive AllIter(P:Program):List (FuncId×ZcP)->Prop
  |nil:AllIter P []
  |cons {f:FuncId} {s:ZcP} {l:List (FuncId×ZcP)} (h:ZsI P f s) (r:AllIter P l):AllIter P ((f,s)::l)
theorem Zoy{P:Program}:∀{l:List (FuncId×ZcP)},AllIter P l->∀x,x∈l->ZsI P x.1 x.2
  |[],_,x,h=>by cases h
  | _::_,.cons h0 a,x,h=>by
    cases h with
    |head=>exact h0
    |tail _ h=>exact Zoy a x h
inductive AllAdd(P:Program):List FuncId->Prop
  |nil:AllAdd P []
  |cons {f:FuncId} {l:List FuncId} (h:Zzi P f) (r:AllAdd P l):AllAdd P (f::l)
theorem Zp6{P:Program}:∀{l:List FuncId},AllAdd P l->∀f,f∈l->Zzi P f
  |[],_,x,h=>by cases h
  | _::_,.cons h0 a,x,h=>by
    cases h with
    |head=>exact h0
    |tail _ h=>exact Zp6 a x h
theorem ZhG(c:Cfg)(h:AllOK c.P c.calls)(h':AllExt c.P c.ext)(h'':AllDyn c.P c.dyn)(h3:AllIter c.P c.iters)(a:YOK c.P c.yld)(b:AllAdd c.P c.adds:=by exact AllAdd.nil):c.OK:=⟨Zp3 h,Zp4 h',Zp5 h'',Zoy h3,a,Zp6 b⟩
theorem ZyB {P:Program} {f:FuncId} {fn:Func} (c:P.funcs[f]?=some fn) (a:(fn.name== "runtime.NumGoroutine")=false) (d:fn.body.isNone=true) (g:Extern.findNext fn=none)
    (he:Extern.find fn=some Extern.MapsClone.clone):Zzf P f:=by
  intro t b es cl w hw;refine⟨{w with heap:=w.heap.push (.map es cl)},?_,⟨rfl,rfl,rfl⟩,rfl⟩;rw[run_callFunc_extern c a d g he]
  have e:Extern.MapsClone.clone #[.iface t (.map (some b))]=(getObj b >>=λo=>match o with
      | .map entries clock=>(newObj (.map entries clock) >>=λn=>pure (.iface t (.map (some n))))
      |_=>stuck "maps.clone: a map expected"):=rfl
  rw[e];simp only[Awk,MapKept.run_getObj_map hw,Awl];rfl
theorem ZEX {P:Program} {f:FuncId} {fn:Func} (d:P.funcs[f]?=some fn) (a:(fn.name== "runtime.NumGoroutine")=false) (g:fn.body.isNone=true) (h:Extern.findNext fn=none)
    (he:Extern.find fn=some λargs=>(do let(x,y,c) <-Extern.MathBitsCarry.three "Add64" args;pure (Extern.MathBitsCarry.pair ((x+y+c) % Extern.MathBitsCarry.m64) ((x+y+c) / Extern.MathBitsCarry.m64)))):Zzi P f:=by
  intro x y z w hz;rw[run_callFunc_extern d a g h he]
  have e:Extern.MathBitsCarry.three "Add64" #[.int .u64 x,.int .u64 y,.int .u64 z]=(do
      let c:=(<-asInt (.int .u64 z)).toNat
      if c>1 then unsupported (.noEntry ("extern/math/bits." ++ "Add64" ++ ": a carry that is neither 0 nor 1"))
      pure ((<-asInt (.int .u64 x)).toNat,(<-asInt (.int .u64 y)).toNat,c)):=rfl
  have b:∀n:Int,(asInt (.int .u64 n)).run P w= .ok n w:=λ_=>rfl;simp only[e,Awk,b,Awl,if_neg (Nat.not_lt.2 hz)];simp only[Awk,b,Awl,Awp];rfl
theorem ZEf {c:Cfg} {f:FuncId} {fn:Func} {e:Ann} {s:Zg} (i:c.P.funcs[f]?=some fn) (b:(fn.name== "runtime.NumGoroutine")=false) (d:fn.body.isNone=false)
    (j:c.n=fn.ntmps) (hlen:s.args.length<=fn.ntmps) (k:c.OK) (a:c.P.follows .mixedOrders=true)
    (l:∀(t:Xn s.args) (K:Xn s.res->Zf->Prop) (g:Value->Zf->Prop) (h:Zf),ZFz c fn e (Xn.evs s.args t) s.res K g h=s.sem t K g h):Zr c.P f s where
  named:=⟨fn,i,b,d⟩
  calls t K g w m:=by
    have hl:(Xn.evs s.args t).length<=fn.ntmps:=by
      have:∀(vs:List VT) (x:Xn vs),(Xn.evs vs x).length=vs.length:=by
        intro vs
        induction vs with
        |nil=>intro x;rfl
        |cons v vs o=>intro x;simp only[Xn.evs,Aqj,o]
      rw[this];exact hlen
    exact Zwa k a i j hl (by rw[l];exact m)
def ZN(c:Cfg)(fn:Func)(a:Ann)(s:Zg):Prop:=∀(t:Xn s.args) (K:Xn s.res->Zf->Prop) (b:Value->Zf->Prop) (h:Zf),ZFz c fn a (Xn.evs s.args t) s.res K b h=s.sem t K b h
theorem okF{c:Cfg}{f:FuncId}{fn:Func}{d:Ann}{s:Zg}(e:ZN c fn d s)(g:c.P.funcs[f]?=some fn)(hm:c.P.follows .mixedOrders=true)(h:c.OK)
    (a:(fn.name== "runtime.NumGoroutine")=false:=by kernel_rfl) (b:fn.body.isNone=false:=by kernel_rfl) (i:c.n=fn.ntmps:=by rfl) (hlen:s.args.length<=fn.ntmps:=by decide):Zr c.P f s:=
  ZEf g a b i hlen h hm e
theorem ZxO {P:Program} {f:FuncId} {fn:Func} {s:Zg} (d:P.funcs[f]?=some fn) (a:(fn.name== "runtime.NumGoroutine")=false) (b:fn.body.isNone=false) (hs:∀t K c h,¬s.sem t K c h):Zr P f s where
  named:=⟨fn,d,a,b⟩
  calls t K c w e:=(hs _ _ _ _ e).elim
theorem ZA3{P:Program}{f:FuncId}{A R:List VT}{M:Xn A->(Xn R->Zf->Prop)->(Value->Zf->Prop)->Zf->Prop}(h:Zr P f ⟨A,R,M⟩):Zr P f ⟨A,R,λt K _ h=>M t K (λ_ _=>False) h⟩ where
  named:=h.named
  calls t K d w b:=(h.calls t K _ w b).mono λe w' a=>by
    rcases a with a|⟨v,_,_,c⟩
    ·exact .inl a
    ·exact c.elim
end Go.Fw
