/- Why a reading is right: regions. -/
import Derived.Sort.LoopGhostIn
import Derived.KernelRfl
import Derived.Laws.Externs
import GoSem.Extern.MapsClone
import GoSem.Extern.MathBitsCarry
import Derived.Shelf.SlIterI.Nil
import Derived.Shelf.SortM.Plain
import Derived.Shelf.SortM.SortNone
import Derived.Maps.OwnSet
import Derived.Test.YtonbfpnngkemiaaGreatProg
import Derived.Test.YtonbfpnngkemiaaGreatPa5
set_option linter.unusedVariables false
set_option linter.unusedSimpArgs false
namespace Go.Fw
open Go
structure XH(D:List Nat)(a a':Act):Prop where
  tmps:∀j,j∉D->a'.tmps[j]?=a.tmps[j]?
  marks:mkN∉D->a'.defers=a.defers
theorem XH.refl(D:List Nat)(a:Act):XH D a a:=⟨λ_ _=>rfl,λ_=>rfl⟩
theorem XH.trans{D:List Nat}{a b d:Act}(h:XH D a b)(h':XH D b d):XH D a d:=⟨λj c=>(h'.1 j c).trans (h.1 j c),λc=>(h'.2 c).trans (h.2 c)⟩
theorem XH.mono{D e:List Nat}{a b:Act}(h:XH D a b)(hs:∀j,j∈D->j∈e):XH e a b:=⟨λj d=>h.1 j λc=>d (hs j c),λd=>h.2 λc=>d (hs _ c)⟩
theorem put_defers(a:Act)(d:Option Tmp)(v:Value):(a.put d v).defers=a.defers:=by cases d<;>rfl
theorem XH.put{D:List Nat}{a:Act}{d:Option Tmp}{v:Value}(h:∀x,d=some x->x∈D):XH D a (a.put d v):=by
  refine⟨?_,λ_=>put_defers a d v⟩;intro j c
  cases d with
  |none=>rfl
  | some x=>
    have b:x≠j:=λhe=>c (he▸h x rfl);simp[Act.put,Awj b]
theorem ZoC{ops:Array Oper}{a:Act}{j t:Nat}(h:Xl ops.toList j=some t):yielded ops a.tmps j=match a.tmps[t]? with|some (.bool b)=>some b|_=>none:=by unfold Xl at h;unfold yielded;rw[show ops.toList[j]?=ops[j]? from by simp]at h;rw[h];rfl
theorem Zmd{ops:Array Oper}{a:Act}{j:Nat}(h:Xl ops.toList j=none):yielded ops a.tmps j=none:=by unfold Xl at h;unfold yielded;rw[show ops.toList[j]?=ops[j]? from by simp]at h;rw[h];rfl
inductive Step(c:Cfg)(one:Oper->Env->Zf->(Env->Zf->Prop)->Prop)(ops:Array Oper)(o:Oper)(a:Act)(h:Zf)(K:Env->Zf->Prop):Prop
  |does (e:Env) (ha:Agr c.n e a) (hw:Region.wanted o (yielded ops a.tmps)=true) (hk:one o e h K)
  |skips (e:Env) (ha:Agr c.n e a) (hw:Region.wanted o (yielded ops a.tmps)=false) (hk:ZoN c o e h K)
theorem Zm6{c:Cfg}{one:Oper->Env->Zf->(Env->Zf->Prop)->Prop}{ops:Array Oper}{o:Oper}{os:List Oper}{e:Env}{a:Act}{h:Zf}{K:Env->Zf->Prop}
    (d:Agr c.n e a) (f:Zgp c one ops.toList (o::os) e h K):Step c one ops o a h (λr h'=>Zgp c one ops.toList os r h' K):=by
  unfold Zgp at f;split at f
  ·rename_i g;exact .does e d (by simp[Region.wanted,g]) f
  ·rename_i j want g;split at f
   ·rename_i hs;exact .skips e d (by simp[Region.wanted,g,Zmd hs]) f
   ·rename_i t hs;have i:=ZoC (a:=a) hs;split at f
    ·rename_i b m;have l:a.tmps[t]?=some (.bool b):=d.val t _ m;rw[l]at i;split at f
     ·exact .does e d (by simp[Region.wanted,g,i]) f
     ·exact .does e d (by simp[Region.wanted,g,i]) f
     ·exact .skips e d (by simp[Region.wanted,g,i]) f
     ·exact .skips e d (by simp[Region.wanted,g,i]) f
    ·rename_i b m;have l:a.tmps[t]?=some (.bool b):=d.val t _ m;rw[l]at i;split at f
     ·cases b with
      |true=>exact .does _ (d.tell m) (by simp[Region.wanted,g,i]) (f.1 rfl)
      |false=>exact .skips _ (d.tell m) (by simp[Region.wanted,g,i]) (f.2 rfl)
     ·cases b with
      |true=>exact .skips _ (d.tell m) (by simp[Region.wanted,g,i]) (f.1 rfl)
      |false=>exact .does _ (d.tell m) (by simp[Region.wanted,g,i]) (f.2 rfl)
    ·rename_i v p q m;have l:a.tmps[t]?=some v.v:=d.val t _ m;refine .skips e d ?_ f
     have:yielded ops a.tmps j=none:=by
       rw[i,l]
       cases v with
       |val u=>cases u<;>first|rfl|exact absurd rfl (q _)
       |lit b=>exact absurd rfl (p b)
       |adr b o=>rfl
       |itr t b=>rfl
       |more k v=>rfl
       |over=>rfl
     simp[Region.wanted,g,this]
    ·exact f.elim
theorem Zgv{ops:Array Oper}{k:Nat}{o:Oper}{x:Nat}(ho:ops[k]?=some o)(a:o.dst=some x):x∈ops.toList.filterMap (·.dst):=by refine List.mem_filterMap.2 ⟨o,?_,a⟩;exact Axo (i:=k) (by simpa using ho)
theorem Zm5{c:Cfg}(u:c.OK){ops:Array Oper}{Q:Exit->Act->World->Prop}:∀(l:List Oper) (k:Nat),(∀j,l[j]?=ops[k+j]?)->
    ∀{e:Env} {a:Act} {w:World} {K:Env->Zf->Prop},Agr c.n e a->Zgp c (ZGr c) ops.toList l e w.heap K->
    (∀s a' w',Agr c.n s a'->Same w w'->XH (ops.toList.filterMap (·.dst)) a a'->K s w'.heap->Q .normal a' w')->
    (∀v a' w',Same w w'->XH (ops.toList.filterMap (·.dst)) a a'->c.pan v w'.heap->Q (.panic [{v,recovered:=false}]) a' w')->wpOpsIn (fen c.rnd) 0 c.P ops Q (List.range' k l.length) a w
  |[],k,hl,e,a,w,K,b,h,t,_=>t e a w b (Same.refl w) (XH.refl _ a) h
  | o::os,k,hl,e,a,w,K,b,h,t,y=>by
    have ho:ops[k]?=some o:=by have:=hl 0;simpa using this.symm
    have r:∀j,os[j]?=ops[k+1+j]?:=λj=>by have:=hl (j+1);rw[show k+1+j=k+(j+1)from by omega,<-this];rfl
    have g:∀v,XH (ops.toList.filterMap (·.dst)) a (a.put o.dst v):=λv=>XH.put λx z=>Zgv ho z;simp only[Aqj,List.range'_succ,wpOpsIn,ho]
    cases Zm6 b h with
    | does e b hw h=>
      rw[if_pos hw];refine ZGn u b (λv w' hs A=>y v a w' hs (XH.refl _ a) A) h λv w' hs h=>?_;obtain⟨s,i,h⟩:=ZdM b h
      exact Zm5 u os (k+1) r i h (λm d f h1 p h3 q=>t m d f h1 (hs.trans p) ((g _).trans h3) q)
        (λv d f p h3 q=>y v d f (hs.trans p) ((g _).trans h3) q)
    | skips e b hw h=>
      rw[if_neg (by simp[hw])];obtain⟨s,i,h⟩:=ZdM b h
      exact ⟨λ_ _=>trivial,Zm5 u os (k+1) r i h (λm d f h1 p h3 q=>t m d f h1 p ((g _).trans h3) q)
        (λv d f p h3 q=>y v d f p ((g _).trans h3) q)⟩
def Cls(w0:World)(h:Zf)(w:World):Prop:=Same w0 w/\w.heap=h
theorem Zvl{c:Cfg}{o:Oper}{a:Act}{w0:World}{h:Zf}{v:EV}(b:∀w:World,w.heap=h->(execOp a.eval o).run c.P w= .ok (.value v.v) w):
    ∀w,Cls w0 h w->o.quietAtIn (fen none) 0 c.P a (Cls w0 h) w v.v:=by
  intro w hw;unfold Oper.quietAtIn;rw[b w hw.2];exact⟨rfl,rfl⟩
theorem XO{c:Cfg}{o:Oper}{a:Act}{w0:World}{h:Zf}{K:EV->Zf->Prop}{next:Act->Prop}(b:Zts c o a h K)(d:∀v,K v h->next (a.put o.dst v.v)):
    o.quietIn (fen none) 0 c.P a (Cls w0 h) next:=
  let⟨v,e,f⟩:=b
  ⟨v.v,Zvl e,d v f⟩
theorem Zrg{c:Cfg}(D:c.OK){e:Env}{a:Act}{w0:World}{h:Zf}{o:Oper}{K:EV->Zf->Prop}{next:Act->Prop}(b:Agr c.n e a)(g:ZtU c o.op e h K)
    (i:∀v,K v h->next (a.put o.dst v.v)):o.quietIn (fen none) 0 c.P a (Cls w0 h) next:=by
  obtain⟨dst,op,type,pos,after,guard⟩:=o;cases op
  case move=>exact XO (ZpR b g).q i
  case assign=>exact XO (ZlC b g).q i
  case pick=>exact XO (ZpQ b g).q i
  case load=>exact XO (ZpT b g) i
  case nilCheck=>exact XO (Zjh b g).q i
  case binOp=>exact XO (ZmS b g).q i
  case unOp=>exact XO (ZpP b g).q i
  case slice=>exact XO (ZmO b g).q i
  case fieldAddr=>exact XO (Zih b g).q i
  case field=>exact XO (ZmQ b g).q i
  case indexAddr=>exact XO (Zig b g).q i
  case index=>exact XO (ZmP b g).q i
  case extract=>exact XO (Zko b g).q i
  case build=>exact XO (ZmR b g).q i
  case makeFunc=>exact XO (Zji b g).q i
  case convert s d x=>
    simp only[ZtU]at g;split at g
    ·rename_i j k hs hd;exact XO (Zjj b hs hd g).q i
    ·exact g.elim
  case call cl=>
    unfold ZtU at g
    split at g<;>first
      |exact g.elim
      |(rename_i ho;cases ho)
    ·exact XO (ZwH b g) i
    ·exact XO (YC b (.inr (.inl rfl)) g).q i
    ·exact XO (YC b (.inr (.inr (.inl rfl))) g).q i
    ·exact XO (YC b (.inr (.inr (.inr rfl))) g).q i
    ·rename_i f args ts;split at g
     ·rename_i es he;split at g
      ·rename_i s t E;obtain⟨p,B⟩:=Zjs E;dsimp only at p B;obtain⟨r,hm,g⟩:=g;refine⟨(ZgO (Xf.evs s.res r)).v,λw hw=>?_,i _ g⟩;have u:=Zdz b he;obtain⟨⟨fn,F,y,z⟩,A⟩:=D.calls _ p
       have m:(execOp a.eval ⟨dst,.call ⟨.value (.func f),args,ts⟩,type,pos,after,guard⟩).run c.P w= .ok (.enter f (args.map a.eval)) w:=by
         simp only[execOp,resolve,Act.eval,Deferred.ofValue,Awk,Awp,Awl,invoke,callFunc,run_program,F,y,Aqc,if_false,z];simp
       unfold Oper.quietAtIn;rw[m];refine⟨rfl,λh=>(by cases h),Zi0.2 ?_⟩;rw[u,<-ZhF B];refine(A t (λC h'=>C=r/\h'=h) (λ_ _=>False) w (by rw[hw.2];exact hm)).mono ?_;rintro ending w' (⟨C,rfl,l,rfl,G⟩ |⟨v,rfl,l,g⟩)
       ·exact⟨rfl,hw.1.trans l,G⟩
       ·exact g.elim
      ·exact g.elim
     ·exact g.elim
  all_goals exact g.elim
theorem Zqc{c:Cfg}(s:c.OK){ops:Array Oper}{w0:World}{Q:Act->Prop}{h:Zf}:∀(l:List Oper) (k:Nat),(∀j,l[j]?=ops[k+j]?)->
    ∀{e:Env} {a:Act} {K:Env->Zf->Prop},Agr c.n e a->Zgp c (Zxc c) ops.toList l e h K->
    (∀q a',Agr c.n q a'->XH (ops.toList.filterMap (·.dst)) a a'->K q h->Q a')->wpQuietIn (fen none) 0 c.P ops (Cls w0 h) Q l a
  |[],k,hl,e,a,K,b,d,r=>r e a b (XH.refl _ a) d
  | o::os,k,hl,e,a,K,b,d,r=>by
    have ho:ops[k]?=some o:=by have:=hl 0;simpa using this.symm
    have p:∀j,os[j]?=ops[k+1+j]?:=λj=>by have:=hl (j+1);rw[show k+1+j=k+(j+1)from by omega,<-this];rfl
    have g:∀v,XH (ops.toList.filterMap (·.dst)) a (a.put o.dst v):=λv=>XH.put λx u=>Zgv ho u;unfold wpQuietIn;refine⟨λ_ _ _ _=>trivial,?_⟩
    cases Zm6 b d with
    | does e b hw d=>
      rw[if_pos hw];refine Zrg s b d λv d=>?_;obtain⟨q,f,d⟩:=ZdM b d;exact Zqc s os (k+1) p f d λi m h1 h3 t=>r i m h1 ((g _).trans h3) t
    | skips e b hw d=>
      rw[if_neg (by simp[hw])];obtain⟨q,f,d⟩:=ZdM b d;exact Zqc s os (k+1) p f d λi m h1 h3 t=>r i m h1 ((g _).trans h3) t
def Zf7(c:Cfg)(D:List Nat)(a:Act)(w:World)(Q:Ex->Env->Zf->Prop):Exit->Act->World->Prop
  | .normal,a',w'=>∃b,Agr c.n b a'/\Same w w'/\XH D a a'/\Q .normal b w'.heap
  | .exit id,a',w'=>∃b,Agr c.n b a'/\Same w w'/\XH D a a'/\Q (.exit id) b w'.heap
  | .ret,a',w'=>∃b,Agr c.n b a'/\Same w w'/\XH D a a'/\Q .ret b w'.heap
  | .panic chain,a',w'=>∃v,chain=[{v,recovered:=false}]/\Same w w'/\XH D a a'/\c.pan v w'.heap
  |_,_,_=>False
theorem Zf7.mono{c:Cfg}{D b:List Nat}{a g:Act}{w w1:World}{Q i:Ex->Env->Zf->Prop}(hs:Same w w1)(k:XH b a g)(hd:∀j,j∈D->j∈b)(l:∀x e h,Q x e h->i x e h):
    ∀x a' w',Zf7 c D g w1 Q x a' w'->Zf7 c b a w i x a' w':=by
  intro x a' w' h
  cases x<;>first
    |exact h.elim
    | (obtain ⟨m,h1,d,h3,f⟩:=h
       exact⟨m,h1,hs.trans d,k.trans (h3.mono hd),l _ _ _ f⟩)
    | (obtain ⟨v,h1,d,h3,f⟩:=h
       exact⟨v,h1,hs.trans d,k.trans (h3.mono hd),f⟩)
theorem Znd{c:Cfg}{D:List Nat}{a:Act}{w:World}{Q:Ex->Env->Zf->Prop}{ch:List PanicEntry}{a':Act}{d:Option Tmp}{v:Value}{w':World}(hd:∀x,d=some x->x∈D)(h:Zf7 c D a w Q (.panic ch) (a'.put d v) w'):Zf7 c D a w Q (.panic ch) a' w':=by obtain⟨f,h1,g,h3,i⟩:=h;have e:XH D a' (a'.put d v):=XH.put hd;exact⟨f,h1,g,⟨λj b=>(e.1 j b).symm.trans (h3.1 j b),λb=>(e.2 b).symm.trans (h3.2 b)⟩,i⟩
theorem ZiA{c:Cfg}{ops:Array Oper}{o:Oper}{e:Env}{a:Act}{A B:Env->Prop}(d:Agr c.n e a)(f:ZnG ops.toList o e A B):
    (∃m,Agr c.n m a/\Region.wanted o (yielded ops a.tmps)=true/\A m)\/(∃m,Agr c.n m a/\Region.wanted o (yielded ops a.tmps)=false/\B m):=by
  unfold ZnG at f;split at f
  ·rename_i g;exact .inl ⟨e,d,by simp[Region.wanted,g],f⟩
  ·rename_i j want g;split at f
   ·rename_i hs;exact .inr ⟨e,d,by simp[Region.wanted,g,Zmd hs],f⟩
   ·rename_i t hs;have h:=ZoC (a:=a) hs;split at f
    ·rename_i b l;have i:a.tmps[t]?=some (.bool b):=d.val t _ l;rw[i]at h;split at f
     ·exact .inl ⟨e,d,by simp[Region.wanted,g,h],f⟩
     ·exact .inl ⟨e,d,by simp[Region.wanted,g,h],f⟩
     ·exact .inr ⟨e,d,by simp[Region.wanted,g,h],f⟩
     ·exact .inr ⟨e,d,by simp[Region.wanted,g,h],f⟩
    ·rename_i b l;have i:a.tmps[t]?=some (.bool b):=d.val t _ l;rw[i]at h;split at f
     ·cases b with
      |true=>exact .inl ⟨_,d.tell l,by simp[Region.wanted,g,h],f.1 rfl⟩
      |false=>exact .inr ⟨_,d.tell l,by simp[Region.wanted,g,h],f.2 rfl⟩
     ·cases b with
      |true=>exact .inr ⟨_,d.tell l,by simp[Region.wanted,g,h],f.1 rfl⟩
      |false=>exact .inl ⟨_,d.tell l,by simp[Region.wanted,g,h],f.2 rfl⟩
    ·rename_i v p q l;have i:a.tmps[t]?=some v.v:=d.val t _ l;refine .inr ⟨e,d,?_,f⟩
     have:yielded ops a.tmps j=none:=by
       rw[h,i]
       cases v with
       |val u=>cases u<;>first|rfl|exact absurd rfl (q _)
       |lit b=>exact absurd rfl (p b)
       |adr b o=>rfl
       |itr t b=>rfl
       |more k v=>rfl
       |over=>rfl
     simp[Region.wanted,g,this]
    ·exact f.elim
theorem ZAv{c:Cfg}{e:Env}{a:Act}{h:Zf}{o:Oper}{K:EV->Zf->Prop}(f:Agr c.n e a)(g:Zgr c o.op= .pure)(i:opP c o.op e h K):Zfc c o a h K:=by
  obtain⟨dst,op,type,pos,after,guard⟩:=o;cases op
  case move=>exact ZpR f i
  case assign=>exact ZlC f i
  case pick=>exact ZpQ f i
  case nilCheck=>exact Zjh f i
  case binOp=>exact ZmS f i
  case unOp=>exact ZpP f i
  case slice=>exact ZmO f i
  case fieldAddr=>exact Zih f i
  case field=>exact ZmQ f i
  case indexAddr=>exact Zig f i
  case index=>exact ZmP f i
  case extract=>exact Zko f i
  case build=>exact ZmR f i
  case makeFunc=>exact Zji f i
  case convert s d x=>
    simp only[Zgr]at g;split at g
    ·rename_i j k hs hd;exact Zjj f hs hd i
    ·split at g<;>cases g
    ·cases g
  case call cl=>
    obtain⟨l,args,ts⟩:=cl
    cases l with
    | builtin b=>
      cases b<;>first
        |(simp only[Zgr]at g;done)
        | (cases hm:Zki c.P ts with
            |true=>simp[Zgr,hm]at g
            |false=>exact YC f (.inl ⟨rfl,hm⟩) i)
        |exact YC f (.inr (.inl rfl)) i
        |exact YC f (.inr (.inr (.inl rfl))) i
        |exact YC f (.inr (.inr (.inr rfl))) i
        |(simp[Zgr]at g)
    |_=>simp[Zgr]at g
  all_goals simp[Zgr]at g
theorem Zxx{c:Cfg}{op:Op}{t:TypeId}{x:Operand}(h:Zgr c op= .load t x):op= .load t x:=by
  cases op<;>simp[Zgr]at h
  case load=>rw[h.1,h.2]
  case convert=>repeat' (first|(cases h;done)|split at h)
  case call cl=>
    obtain⟨a,args,ts⟩:=cl
    cases a with
    |builtin b=>cases b<;>simp at h<;>(cases hm:Zki c.P ts<;>simp[hm]at h)
    |_=>simp at h
def Zpc(h:Zf)(l:List (Nat×Nat×Value)):Prop:=∀q,q∈l->h.cell q.1 q.2.1=some q.2.2
theorem ZnF{h:Zf}{b o:Nat}:∀{vs:List Value} {i:Nat},Zpc h (ZrW b o i vs)↔h.has b (o+i) vs
  |[],i=>⟨λ_=>trivial,λ_ q c=>(by simp[ZrW]at c)⟩
  | v::vs,i=>by
    have a:=ZnF (h:=h) (b:=b) (o:=o) (vs:=vs) (i:=i+1);unfold Zpc at a⊢;simp only[ZrW,Axq,Zto,a];rfl
theorem ZAM{P:Program}{t:TypeId}{b o:Nat}{K:EV->List (Nat×Nat×Value)->Prop}{h:Zf}(a:ldH P t h b o K):
    ∃v cells,Zpc h cells/\(∀w:World,Zpc w.heap cells->(loadVar t ⟨b,o,none⟩).run P w= .ok v.v w)/\K v cells:=by
  unfold ldH at a
  cases hu:P.underlying t with
  |none=>rw[hu]at a;simp[ZbY,Znv]at a
  | some d=>
    obtain⟨i,hi⟩:=ZaZ P hu;rw[hu]at a;unfold loadVar
    cases c:ZbY (some d)with
    | true=>
      rw[c]at a;simp only[cond_true]at a
      cases hl:Nat.beq (ZgD P 8 t).length (P.cellsOf t)with
      |false=>rw[hl]at a;exact a.elim
      | true=>
        rw[hl]at a;obtain⟨vs,hlen,f,a⟩:=ZlV a;have hs:i.size=vs.length:=by rw[hlen,Awg hl,Zb6 P hi]
        refine⟨.val (.agg vs.toArray),_,ZnF.2 f,λw hw=>?_,a⟩;have hw:=ZnF.1 hw;simp only[Awk,ZfR P w t hu,c,Awl,if_true,Xg P w t hi,hs];rw[Zeq P w b o vs (by simpa using hw)];rfl
    | false=>
      rw[c]at a;simp only[cond_false]at a;obtain⟨v,g,a,_⟩:=Zkz a;refine⟨v,_,?_,λw hw=>?_,a⟩
      ·intro q e;simp only[Axs]at e;subst e;exact g
      have hw:Zf.cell w.heap b o=some v.v:=hw _ (.head _);simp only[Awk,ZfR P w t hu,c,Awl,Aqc,if_false];exact Zin P w hw _
theorem ZwQ{c:Cfg}{op:Op}{x:Operand}(h:Zgr c op= .text x):∃s d e,op= .convert s d x/\c.P.underlying s=some (.slice e)/\c.P.underlying d=some .string/\c.P.underlying e=some (.int .u8):=by
  cases op<;>simp[Zgr]at h
  case convert s d y=>
    split at h
    ·cases h
    ·rename_i e hs hd;split at h
     ·rename_i he;cases h;exact⟨s,d,e,rfl,hs,hd,he⟩
     ·cases h
    ·cases h
  case call cl=>
    obtain⟨a,args,ts⟩:=cl
    cases a with
    |builtin b=>cases b<;>simp at h<;>(cases hm:Zki c.P ts<;>simp[hm]at h)
    |_=>simp at h
theorem ZlX{h:Zf}:∀{l:List (Nat×Nat×Value)},Zm h l↔Zpc h l
  |[]=>⟨λ_ q c=>(by cases c),λ_=>trivial⟩
  | (b,o,v)::r=>by
    have a:=ZlX (h:=h) (l:=r);unfold Zpc at a⊢;simp only[Zm,Axq,a]
def Zek(hd:Zhh):Zlx:=hd.map λx=>(x.1,λw=>x.2 w.heap)
theorem Zj4{w:World}{K:Prop}:∀{hd:Zhh},ZrB w.heap hd K->(Zek hd).all w/\K
  |[],a=>⟨λq b=>(by cases b),a⟩
  | x::r,a=>by
    obtain⟨h1,a⟩:=a;obtain⟨c,a⟩:=Zj4 (hd:=r) a;refine⟨λq b=>?_,a⟩
    rcases Awr.1 b with rfl|b
    ·exact h1
    ·exact c q b
def nxt(ops:Array Oper)(L:Zlx)(j:Nat):Zlx:=
  match ops[j]? with
  |some o=>L.filter λp=> !ZgM p.1 o.after.toList
  |none=>L
theorem Zes(ops:Array Oper):Next ops (nxt ops) where
  mem L j p a:=by
    unfold nxt at a;split at a
    ·exact(Axt.1 a).1
    ·exact a
  keep L j p a hw:=by
    unfold nxt;split
    ·rename_i o ho;refine Axt.2 ⟨a,?_⟩
     cases b:ZgM p.1 o.after.toList with
     |false=>rfl
     | true=>
       obtain⟨e,he,h1,c⟩:=ZjT.1 b;exact absurd ⟨o,ho,e,by simpa using he,h1,c⟩ hw
    ·exact a
  same L d j p a hl:=by
    unfold nxt at a⊢;split at a
    ·rename_i o ho;exact Axt.2 ⟨hl,(Axt.1 a).2⟩
    ·exact hl
theorem Zt0{ops:Array Oper}{j:Nat}{o:Oper}(ho:ops[j]?=some o)(hd:Zhh):nxt ops (Zek hd) j=Zek (ZrO o hd):=by
  unfold nxt;rw[ho];simp only
  induction hd with
  |nil=>rfl
  | cons x r a=>
    have e:Zek (x::r)=(x.1,λw:World=>x.2 w.heap)::Zek r:=rfl;rw[e,List.filter_cons];simp only[ZrO]
    cases b:ZgM x.1 o.after.toList with
    |true=>simp only[Bool.not_true,Aqc,if_false,cond_true];exact a
    |false=>simp only[Axj,if_true,cond_false];rw[a];rfl
theorem Zvp{ops:Array Oper}{m:Nat}{listed:Array Bool}(b:Rel ops m listed)(h:Zxr m 0 ops.toList=true):Region.ready .any ops listed=[]:=by
  have key:∀(os:List Oper) (k:Nat),Zxr m k os=true->∀j o,os[j]?=some o->Zci m (k+j) o=false:=by
    intro os
    induction os with
    |nil=>intro k _ j o ho;simp at ho
    | cons x os c=>
      intro k h j o ho;simp only[Zxr]at h
      cases a:Zci m k x with
      |true=>rw[a]at h;cases h
      | false=>
        rw[a]at h
        cases j with
        |zero=>simp at ho;subst ho;exact a
        | succ j=>
          have:=c (k+1) h j o (by simpa using ho);rw[show k+(j+1)=k+1+j from by omega];exact this
  apply List.eq_nil_iff_forall_not_mem.2;intro j d;obtain⟨o,ho,e⟩:=b.ready.1 d;have:=key _ 0 h j o (by simpa using ho);rw[Awb,e]at this;cases this
section
variable{rn:Option Nat}{P:Program}{ops:Array Oper}{Q:Exit->Act->World->Prop}{i m:Nat}{o:Oper}{listed:Array Bool}{a:Act}{w:World}{L:Zlx}{fuel:Nat}{v:Value}{S:World->Prop}
theorem Zj2(ho:ops[i]?=some o):i<ops.size:=by
  rcases Aqd i ops.size with h|h
  ·exact h
  ·rw[Aqe h]at ho;cases ho
theorem Zxl(b:Rel ops m listed)(h:Zk6 m i 0 ops.toList=true):∀j,j∈Region.ready .any ops listed->j=i:=by intro j c;obtain⟨d,a,e⟩:=b.ready.1 c;have:=ZlQ h j d (by simpa using a) (by rw[Awb];exact e);rw[Awb]at this;exact this
theorem ZEu(g:Rel ops m listed)(h:Zou ops o m i 0 ops.toList=true):
    ∀j a,ops[j]?=some a->j≠i->listed.getD j true=false->(∀e∈a.after,Region.binds .any e=true->e.on≠i)->o.apart ops a=true:=by
  intro j a f b hl c;have d:=Zj2 f;refine Zpl h j a (by simpa using f) (by rw[Awb];exact b) ?_ c;rw[Awb,<-g.bit' d];exact hl
theorem ZtK(e:ZgU ops)(ho:ops[i]?=some o)(b:Region.noSelect ops=true)(g:∀c a v w,Q (.panic c) (a.put o.dst v) w->Q (.panic c) a w)(f:Rel ops m listed)(hm:Zci m i o=true)(j:Zou ops o m i 0 ops.toList=true)
    (k:YieldsIf P ops S o v a) (l:S w) (d:Zlx.all L w) (h:wpK rn P ops Q (nxt ops) ((i,S)::L) fuel (listed.setIfInBounds i true) (a.put o.dst v) w):
    wpK rn P ops Q (nxt ops) L (fuel+1) listed a w:=
  ZwD e (Zes ops) ho (Region.noSelect_spec b) (λc a w h=>g c a v w h) fuel L listed a w (ZEu f j) (f.ready.2 ⟨o,ho,hm⟩) k l d h
theorem Zp1(c:ZgU ops)(ho:ops[i]?=some o)(e:Rel ops m listed)(hm:Zci m i o=true)(f:Zk6 m i 0 ops.toList=true)
    (g:YieldsIf P ops S o v a) (j:S w) (b:Zlx.all L w) (h:wpK rn P ops Q (nxt ops) L fuel (listed.setIfInBounds i true) (a.put o.dst v) w):
    wpK rn P ops Q (nxt ops) L (fuel+1) listed a w:=by
  refine ZtE (Zxl e f) (e.ready.2 ⟨o,ho,hm⟩) (Zhl c ho g j ⟨λp d=>b p ((Zes ops).mem _ _ _ d),?_⟩);exact Zif (Zes ops) _ _ _ _ _ _ (λp d=>.inl ((Zes ops).mem _ _ _ d)) h
theorem Zp0(d:ZgU ops)(ho:ops[i]?=some o)(e:Region.noSelect ops=true)(l:∀c a v w,Q (.panic c) (a.put o.dst v) w->Q (.panic c) a w)(j:Rel ops m listed)(hm:Zci m i o=true)
    (f:Zou ops o m i 0 ops.toList=true\/Zk6 m i 0 ops.toList=true)
    (k:YieldsIf P ops (λ_=>True) o v a) (b:Zlx.all L w) (h:wpK rn P ops Q (nxt ops) L fuel (listed.setIfInBounds i true) (a.put o.dst v) w):
    wpK rn P ops Q (nxt ops) L (fuel+1) listed a w:=by
  rcases f with f|f
  ·refine ZtK d ho e l j hm f k trivial b ?_;refine Zif (Zes ops) _ _ _ _ _ _ (λp g=>?_) h
   rcases Awr.1 g with rfl|g
   ·exact .inr λ_=>trivial
   ·exact .inl g
  ·exact Zp1 d ho j hm f k trivial b h
end
theorem ZAA{ops:Array Oper}{m i l:Nat}{listed:Array Bool}(b:Rel ops m listed)(h:ZoV m i l 0 ops.toList=true):∀j,j∈Region.ready .any ops listed->j=i\/j=l:=by intro j c;obtain⟨d,a,e⟩:=b.ready.1 c;have:=Zks h j d (by simpa using a) (by rw[Awb];exact e);rw[Awb]at this;exact this
section
variable{c:Cfg}{ops:Array Oper}{D:List Nat}{a0:Act}{w0:World}{Qx:Ex->Env->Zf->Prop}
def Ztr(c:Cfg)(ops:Array Oper)(D:List Nat)(a0:Act)(w0:World)(Qx:Ex->Env->Zf->Prop)(fuel m:Nat)(rest:Zhh->Env->Zf->Prop):Prop:=
  ∀ (listed:Array Bool) (hd:Zhh) (e:Env) (a:Act) (w:World),Rel ops m listed->Agr c.n e a->Same w0 w->XH D a0 a->(Zek hd).all w->
    rest hd e w.heap->wpK c.rnd c.P ops (Zf7 c D a0 w0 Qx) (nxt ops) (Zek hd) fuel listed a w
theorem Zte(s:ZgU ops)(z:c.OK)(A:D=ops.toList.filterMap (·.dst)){i m fuel:Nat}{o:Oper}{hd:Zhh}{e:Env}{a:Act}{w:World}{listed:Array Bool}{rest:Zhh->Env->Zf->Prop}
    (ho:ops[i]?=some o) (B:Rel ops m listed) (t:Agr c.n e a) (hs:Same w0 w) (l:XH D a0 a) (h:(Zek hd).all w) (y:Ztr c ops D a0 w0 Qx fuel (Zp4 m i) rest) (b:ZEB c ops o hd e w.heap rest):
    wpOpIn (fen c.rnd) 0 c.P ops (Zf7 c D a0 w0 Qx) i (λa' w'=>(nxt ops (Zek hd) i).all w'/\wpK c.rnd c.P ops (Zf7 c D a0 w0 Qx) (nxt ops) (nxt ops (Zek hd) i) fuel (listed.setIfInBounds i true) a' w') a w:=by
  have q:=B.set (Zj2 ho);have j:∀v,XH D a0 (a.put o.dst v):=λv=>l.trans (XH.put λx C=>A▸Zgv ho C);unfold ZEB at b
  rcases ZiA t b with⟨E,d,hw,b⟩ |⟨E,d,hw,b⟩
  ·rw[Zt0 ho];unfold Go.wpOpIn;simp only[ho,hw,if_true];refine ZtZ z d (λv w' k r=>⟨v,rfl,hs.trans k,l,r⟩) b λv w' k b=>?_;obtain⟨u,f,b⟩:=ZdM d b;obtain⟨g,b⟩:=Zj4 b;exact⟨g,y _ _ u _ w' q f (hs.trans k) (j _) g b⟩
  ·obtain⟨u,f,b⟩:=ZdM d b;have F:YieldsIf c.P ops (λ_=>True) o undef a:=.inr ⟨hw,rfl⟩;refine Zhl s ho F trivial ⟨λp r=>h p ((Zes ops).mem _ _ _ r),?_⟩;exact Zif (Zes ops) _ _ _ _ _ _ (λp r=>.inl ((Zes ops).mem _ _ _ r)) (y _ hd u _ w q f hs (j _) h b)
theorem ZEs(j:ZgU ops)(z:D=ops.toList.filterMap (·.dst)){i m fuel:Nat}{o:Oper}{hd:Zhh}{e:Env}{a:Act}{w:World}{listed:Array Bool}{rest:Zhh->Env->Zf->Prop}
    (ho:ops[i]?=some o) (p:Rel ops m listed) (q:Agr c.n e a) (hs:Same w0 w) (r:XH D a0 a) (b:(Zek hd).all w) (u:Ztr c ops D a0 w0 Qx fuel (Zp4 m i) rest)
    (A:∀{e:Env} {K:EV->Zf->Prop},Agr c.n e a->opP c o.op e w.heap K->Zts c o a w.heap K) (hm:Zci m i o=true) (y:Zk6 m i 0 ops.toList=true)
    (f:ZGW c ops o hd e w.heap rest):wpK c.rnd c.P ops (Zf7 c D a0 w0 Qx) (nxt ops) (Zek hd) (fuel+1) listed a w:=by
  have k:=p.set (Zj2 ho);have h:∀v,XH D a0 (a.put o.dst v):=λv=>r.trans (XH.put λx B=>z▸Zgv ho B);unfold ZGW at f
  rcases ZiA q f with⟨C,d,hw,f⟩ |⟨C,d,hw,f⟩
  ·obtain⟨v,l,f⟩:=A d f;obtain⟨s,g,f⟩:=ZdM d f;exact Zp1 j (S:=λw'=>w'.heap=w.heap) ho p hm y (v:=v.v) (.inl ⟨hw,λw' t=>l w' t⟩) rfl b (u _ hd s _ w k g hs (h _) b f)
  ·obtain⟨s,g,f⟩:=ZdM d f;exact Zp1 j (S:=λ_=>True) ho p hm y (v:=undef) (.inr ⟨hw,rfl⟩) trivial b (u _ hd s _ w k g hs (h _) b f)
theorem ZtI(r:ZgU ops)(F:D=ops.toList.filterMap (·.dst))(j:Region.noSelect ops=true){i m fuel:Nat}{o:Oper}{hd:Zhh}{e:Env}{a:Act}{w:World}{listed:Array Bool}{rest:Zhh->Env->Zf->Prop}{A:Env->Prop}
    (ho:ops[i]?=some o) (u:Rel ops m listed) (y:Agr c.n e a) (hs:Same w0 w) (z:XH D a0 a) (b:(Zek hd).all w) (G:Ztr c ops D a0 w0 Qx fuel (Zp4 m i) rest)
    (hm:Zci m i o=true) (H:Zou ops o m i 0 ops.toList=true)
    (L:∀p,Agr c.n p a->A p->∃(v:EV) (S:Zf->Prop),S w.heap/\(∀w':World,S w'.heap->(execOp a.eval o).run c.P w'= .ok (.value v.v) w')/\Zsf c.n p o.dst v λl=>rest ((i,S)::hd) l w.heap)
    (f:ZnG ops.toList o e A (λe=>Zsf c.n e o.dst (.val undef) λl=>rest hd l w.heap)):wpK c.rnd c.P ops (Zf7 c D a0 w0 Qx) (nxt ops) (Zek hd) (fuel+1) listed a w:=by
  have s:=u.set (Zj2 ho);have k:∀v,XH D a0 (a.put o.dst v):=λv=>z.trans (XH.put λx B=>F▸Zgv ho B);have I:∀J a' v w',Zf7 c D a0 w0 Qx (.panic J) (a'.put o.dst v) w'->Zf7 c D a0 w0 Qx (.panic J) a' w':=λ_ _ _ _ h=>Znd (λx B=>by rw[F];exact Zgv ho B) h
  rcases ZiA y f with⟨p,d,hw,f⟩ |⟨p,d,hw,f⟩
  ·obtain ⟨v,S,K,t,f⟩:=L p d f;obtain⟨l,g,f⟩:=ZdM d f;refine ZtK r (S:=λw=>S w.heap) ho j I u hm H (v:=v.v) (.inl ⟨hw,λw' C=>t w' C⟩) K b ?_;refine G _ ((i,S)::hd) l _ w s g hs (k _) ?_ f;intro q E
   rcases Awr.1 E with rfl|E
   ·exact K
   ·exact b q E
  ·obtain⟨l,g,f⟩:=ZdM d f;exact Zp0 r ho j I u hm (.inl H) (v:=undef) (.inr ⟨hw,rfl⟩) b (G _ hd l _ w s g hs (k _) b f)
end
theorem ZfC{j:Nat}:∀{l:List Nat},Zdg l j=true↔j∈l
  |[]=>by simp[Zdg]
  | x::xs=>by
    have b:=ZfC (j:=j) (l:=xs);simp only[Zdg]
    cases a:Nat.beq j x with
    |true=>simp only[cond_true,true_iff];exact(Awg a) ▸ .head _
    |false=>simp only[cond_false,b,Awr];exact⟨.inr,λh=>h.resolve_left (Awi a)⟩
theorem Zmm{m:Nat}{E:List Nat}:∀{es:List Edge},ZjP m E es=true->∀x∈es,Region.binds .any x=true->ZhY m x.on=true\/Zdg E x.on=true
  |[],_,x,a,_=>by cases a
  | y::es,h,x,a,c=>by
    simp only[ZjP]at h
    rcases Awr.1 a with rfl|a
    ·rw [c]at h
     cases h1:ZhY m x.on with
     |true=>exact .inl rfl
     | false=>
       rw[h1]at h
       cases b:Zdg E x.on with
       |true=>exact .inr rfl
       |false=>rw[b]at h;cases h
    ·refine Zmm (es:=es) ?_ x a c
     cases h1:Region.binds .any y with
     |false=>rw[h1]at h;exact h
     | true=>
       cases b:ZhY m y.on with
       |true=>rw[h1,b]at h;exact h
       | false=>
         cases h3:Zdg E y.on with
         |true=>rw[h1,b,h3]at h;exact h
         |false=>rw[h1,b,h3]at h;cases h
theorem ZoH{ops:Array Oper}{m k:Nat}{E ks:List Nat}(h:Zq8 ops m E (k::ks)=true):
    ∃o,ops[k]?=some o/\ZhY m k=false/\o.guard=none/\ZjP m E o.after.toList=true/\Zq8 ops m (k::E) ks=true:=by
  simp only[Zq8]at h;split at h
  ·rename_i o ho
   cases h1:ZhY m k with
   |true=>rw[h1]at h;cases h
   | false =>
     rw[h1]at h
     cases b:Zdg E k with
     |true=>rw[b]at h;cases h
     | false=>
       rw[b]at h
       cases h3:o.guard.isNone with
       |false=>rw[h3]at h;cases h
       | true=>
         rw[h3]at h
         cases a:ZjP m E o.after.toList with
         |false=>rw[a]at h;cases h
         |true=>rw[a]at h;exact⟨o,ho,rfl,Axu.1 h3,a,h⟩
  ·cases h
theorem ZpV{ops:Array Oper}{m:Nat}:∀{L E:List Nat},Zq8 ops m E L=true->∀k∈L,∃o,ops[k]?=some o/\ZhY m k=false/\o.guard=none
  |[],_,_,k,a=>by cases a
  | x::L,E,h,k,a=>by
    obtain⟨o,h1,b,h3,_,c⟩:=ZoH h
    rcases Awr.1 a with rfl|a
    ·exact⟨o,h1,b,h3⟩
    ·exact ZpV c k a
theorem ZoG{ops:Array Oper}{m:Nat}{d:Nat->Bool}{L0:List Nat}:∀{L E:List Nat},Zq8 ops m E L=true->(∀k,Zdg E k=true->Zdg L0 k=true/\d k=true)->(∀k∈L,Zdg L0 k=true)->(∃k∈L,d k=false)->
    ∃k o,k∈L/\d k=false/\ops[k]?=some o/\∀x∈o.after.toList,Region.binds .any x=true->ZhY m x.on=true\/(Zdg L0 x.on=true/\d x.on=true)
  |[],_,_,_,_,⟨k,a,_⟩=>by cases a
  | x::L,E,h,c,e,f=>by
    obtain⟨o,h1,_,_,g,i⟩:=ZoH h
    cases hd:d x with
    |false=>exact⟨x,o,.head _,hd,h1,λy j l=>(Zmm g y j l).imp id (c _)⟩
    | true=>
      obtain ⟨k,n,a,p⟩:=ZoG (d:=d) (L0:=L0) i (λk a=>by
        rcases Awr.1 (ZfC.1 a)with rfl|a
        ·exact⟨e _ (.head _),hd⟩
        ·exact c k (ZfC.2 a)) (λk a=>e k (.tail _ a)) (by
        obtain⟨k,a,b⟩:=f
        rcases Awr.1 a with rfl|a
        ·rw[hd]at b;cases b
        ·exact⟨k,a,b⟩)
      exact⟨k,n,.tail _ a,p⟩
theorem ZkT{m:Nat}{L:List Nat}:∀{es:List Edge},Zfz m L es=true->∃x,x∈es/\Region.binds .any x=true/\ZhY m x.on=false/\Zdg L x.on=false
  |[],h=>by cases h
  | y::es,h=>by
    have a:Zfz m L es=true->∃x,x∈y::es/\Region.binds .any x=true/\ZhY m x.on=false/\Zdg L x.on=false:=λh=>
      let⟨x,c,b⟩:=ZkT h
      ⟨x,.tail _ c,b⟩
    simp only[Zfz]at h
    cases h1:Region.binds .any y with
    |false=>rw[h1]at h;exact a h
    | true=>
      rw[h1]at h
      cases b:ZhY m y.on with
      |true=>rw[b]at h;exact a h
      | false=>
        rw[b]at h
        cases h3:Zdg L y.on with
        |true=>rw[h3]at h;exact a h
        |false=>exact⟨y,.head _,h1,b,h3⟩
theorem ZkU{es:List Edge}:∀{L:List Nat},ZjU es L=true->∀k∈L,ZgM k es=true
  |[],_,k,a=>by cases a
  | x::L,h,k,a=>by
    simp only[ZjU]at h
    cases h1:ZgM x es with
    |false=>rw[h1]at h;cases h
    | true=>
      rw[h1]at h
      rcases Awr.1 a with rfl|a
      ·exact h1
      ·exact ZkU h k a
theorem Zrj{m:Nat}{L:List Nat}:∀{os:List Oper} {k:Nat},ZGm m L k os=true->∀j o,os[j]?=some o->ZhY m (k+j)=true\/Zdg L (k+j)=true\/Zfz m L o.after.toList=true\/ZjU o.after.toList L=true
  |[],k,_,j,o,ho=>by simp at ho
  | x::os,k,h,j,o,ho=>by
    simp only[ZGm]at h;generalize a:(bif ZhY m k then true else bif Zdg L k then true else bif Zfz m L x.after.toList then true else ZjU x.after.toList L)=b at h
    cases b with
    |false=>cases h
    | true =>
      cases j with
      | succ j=>
        have:=Zrj (k:=k+1) h j o (by simpa using ho);rw[show k+(j+1)=k+1+j from by omega];exact this
      | zero =>
        simp at ho;subst ho
        cases h1:ZhY m k with
        |true=>exact .inl rfl
        | false=>
          rw[h1]at a
          cases c:Zdg L k with
          |true=>exact .inr (.inl rfl)
          | false=>
            rw[c]at a
            cases h3:Zfz m L x.after.toList with
            |true=>exact .inr (.inr (.inl rfl))
            |false=>rw[h3]at a;exact .inr (.inr (.inr a))
theorem ZlP{j k:Nat}:∀{os:List Oper} {i:Nat},Zqg j k i os=true->∀l o,os[l]?=some o->o.dst=some j->i+l=k
  |[],i,_,l,o,ho,_=>by simp at ho
  | x::os,i,h,l,o,ho,hd=>by
    simp only[Zqg]at h
    cases b:Nat.beq i k with
    | true=>
      rw[b]at h
      cases l with
      |zero=>exact Awg b
      | succ l=>
        have:=ZlP (i:=i+1) h l o (by simpa using ho) hd;omega
    | false =>
      rw[b]at h;simp only[cond_false]at h
      cases l with
      | zero=>
        simp at ho;subst ho;rw[hd]at h;simp only[Axv,cond_true]at h;cases h
      | succ l=>
        have h':Zqg j k (i+1) os=true:=by
          split at h
          ·rename_i y c
           cases a:Nat.beq y j with
           |true=>rw[a]at h;cases h
           |false=>rw[a]at h;exact h
          ·exact h
        have:=ZlP (i:=i+1) h' l o (by simpa using ho) hd;omega
theorem ZrE{ops:Array Oper}{k:Nat}{o:Oper}(ho:ops[k]?=some o):Xl ops.toList k=o.dst:=by unfold Xl;rw[show ops.toList[k]?=ops[k]? from by simp,ho];rfl
theorem Zkj{ops:Array Oper}{k j:Nat}(h:Xl ops.toList k=some j):∃o,ops[k]?=some o/\o.dst=some j:=by
  unfold Xl at h;rw[show ops.toList[k]?=ops[k]? from by simp]at h
  cases ho:ops[k]? with
  |none=>rw[ho]at h;cases h
  |some o=>rw[ho]at h;exact⟨o,rfl,h⟩
theorem ZlD{ops:Array Oper}{a:List Nat}:∀{L:List Nat},ZsJ ops.toList a L=true->∀k∈L,∀j,Xl ops.toList k=some j->Zdg a j=true/\∀i o,ops[i]?=some o->o.dst=some j->i=k
  |[],_,k,b,_,_=>by cases b
  | x::L,h,k,b,j,d=>by
    simp only[ZsJ]at h
    rcases Awr.1 b with rfl|b
    ·rw [d]at h;simp only at h
     cases h1:Zdg a j with
     |false=>rw[h1]at h;cases h
     | true=>
       rw[h1]at h
       cases c:Zqg j k 0 ops.toList with
       |false=>rw[c]at h;cases h
       |true=>exact⟨rfl,λi o ho hd=>by have:=ZlP c i o (by simpa using ho) hd;omega⟩
    ·refine ZlD (L:=L) ?_ k b j d;split at h
     ·rename_i y e
      cases h1:Zdg a y with
      |false=>rw[h1]at h;cases h
      | true=>
        rw[h1]at h
        cases c:Zqg y x 0 ops.toList with
        |false=>rw[c]at h;cases h
        |true=>rw[c]at h;exact h
     ·exact h
theorem Zpi{ops:List Oper}{j:Nat}:∀{L:List Nat},Zta ops j L=true->∃k,k∈L/\Xl ops k=some j
  |[],h=>by cases h
  | x::L,h=>by
    have a:Zta ops j L=true->∃k,k∈x::L/\Xl ops k=some j:=λh=>let⟨k,c,d⟩:=Zpi h;⟨k,.tail _ c,d⟩;simp only[Zta]at h;split at h
    ·rename_i y e
     cases b:Nat.beq y j with
     |true=>exact⟨x,.head _,by rw[e,Awg b]⟩
     |false=>rw[b]at h;exact a h
    ·exact a h
theorem Zkp{ops:List Oper}{L:List Nat}:∀{l:List Nat},ZoL ops L l=true->∀j,Zdg l j=true->∃k,k∈L/\Xl ops k=some j
  |[],_,j,a=>by cases a
  | x::l,h,j,a=>by
    simp only[ZoL]at h
    cases h1:Zta ops x L with
    |false=>rw[h1]at h;cases h
    | true=>
      rw[h1]at h
      rcases Awr.1 (ZfC.1 a)with rfl|a
      ·exact Zpi h1
      ·exact Zkp h j (ZfC.2 a)
theorem Zn1{ops:List Oper}{j:Nat}:∀{es:List Edge},Zmn ops j es=true->∃x,x∈es/\Region.binds .any x=true/\Xl ops x.on=some j
  |[],h=>by cases h
  | y::es,h=>by
    have a:Zmn ops j es=true->∃x,x∈y::es/\Region.binds .any x=true/\Xl ops x.on=some j:=λh=>let⟨k,c,d⟩:=Zn1 h;⟨k,.tail _ c,d⟩;simp only[Zmn]at h
    cases h1:Region.binds .any y with
    |false=>rw[h1]at h;exact a h
    | true=>
      rw[h1]at h;simp only[cond_true]at h;split at h
      ·rename_i z hz
       cases b:Nat.beq z j with
       |true=>exact⟨y,.head _,h1,by rw[hz,Awg b]⟩
       |false=>rw[b]at h;exact a h
      ·exact a h
theorem Zni{d:Nat->Bool}{K:Prop}:∀{l:List Nat},Znj d l K->(∀i∈l,d i=true)->K
  |[],h,_=>h
  |i::l,h,hd=>Zni (h (hd i (.head _))) λk a=>hd k (.tail _ a)
theorem ZrQ{L:List Nat}{i:Nat}:∀{es:List Edge},i∈ZrR L es->Zdg L i=true/\∃x,x∈es/\Region.binds .any x=true/\x.on=i
  |[],h=>by cases h
  | y::es,h=>by
    have a:i∈ZrR L es->Zdg L i=true/\∃x,x∈y::es/\Region.binds .any x=true/\x.on=i:=λh=>
      let⟨h1,k,c,b⟩:=ZrQ h
      ⟨h1,k,.tail _ c,b⟩
    simp only[ZrR]at h
    cases h1:Region.binds .any y with
    |false=>rw[h1]at h;exact a h
    | true=>
      rw[h1]at h
      cases b:Zdg L y.on with
      |false=>rw[b]at h;exact a h
      | true=>
        rw[b]at h
        rcases Awr.1 h with rfl|h
        ·exact⟨b,y,.head _,h1,rfl⟩
        ·exact a h
theorem Zxk{ops:Array Oper}{L:List Nat}{d:Nat->Bool}{f:Nat->Oper->Prop}:∀{l:List Nat},ZHR ops L d f l->∀k∈l,∀o,ops[k]?=some o->d k=false->Znj d (ZrR L o.after.toList) (f k o)
  |[],_,k,a,_,_,_=>by cases a
  | x::l,h,k,a,o,ho,hd=>by
    obtain⟨h1,b⟩:=h
    rcases Awr.1 a with rfl|a
    ·rw[ho]at h1;exact h1 hd
    ·exact Zxk b k a o ho hd
theorem Zpp:∀{tys:List VT} {t:Xf tys},(Xf.evs tys t).length=tys.length
  |[],_=>rfl
  |_::vs,t=>congrArg (· + 1) (Zpp (tys:=vs) (t:=t.2))
theorem Zjw{j:Nat}{v:EV}:∀{a:List Nat} {xs:List EV},Zdg a j=true->a.length=xs.length->X0 a (ZBu a j v xs) j=some v
  |[],_,h,_=>by cases h
  |s::c,[],_,h=>by cases h
  | s::c,x::xs,h,hl=>by
    simp only[ZBu]
    cases b:Nat.beq j s with
    |true=>simp only[cond_true,X0,b]
    | false=>
      simp only[cond_false,X0,b];simp only[Zdg,b,cond_false]at h;exact Zjw h (Nat.succ.inj hl)
theorem Zi9{j i:Nat}{v:EV}(b:i≠j):∀{a:List Nat} {xs:List EV},X0 a (ZBu a j v xs) i=X0 a xs i
  |[],_=>rfl
  |s::c,[]=>rfl
  | s::c,x::xs=>by
    simp only[ZBu]
    cases d:Nat.beq j s with
    | true=>
      have:=Awg d;subst this
      have e:Nat.beq i j=false:=by
        cases h:Nat.beq i j with
        |true=>exact absurd (Awg h) b
        |false=>rfl
      simp only[cond_true,X0,e,cond_false]
    | false=>
      simp only[cond_false,X0];rw[Zi9 b]
theorem Zns{j:Nat}{x:EV}:∀{a:List Nat} {vs us:List EV},us.map EV.v=vs.map EV.v->X0 a vs j=some x->∃y,X0 a us j=some y/\y.v=x.v
  |[],_,_,_,h=>by simp[X0]at h
  |s::b,[],_,_,h=>by simp[X0]at h
  |s::b,v::vs,[],hm,h=>by simp at hm
  | s::b,v::vs,u::us,hm,h=>by
    simp only[Awo,Axw]at hm;simp only[X0]at h⊢
    cases c:Nat.beq j s with
    |true=>rw[c]at h;simp only[cond_true,Awh]at h;subst h;exact⟨u,rfl,hm.1⟩
    |false=>rw[c]at h;exact Zns hm.2 h
theorem ZlU{j:Nat}:∀{a:List Nat} {vs:List EV},Zdg a j=false->X0 a vs j=none
  |[],_,_=>rfl
  |s::c,[],_=>rfl
  | s::c,v::vs,h=>by
    simp only[Zdg]at h
    cases b:Nat.beq j s with
    |true=>rw[b]at h;cases h
    | false=>
      rw[b]at h;simp only[X0,b,cond_false];exact ZlU h
def ZkN(d:Nat->Bool):List Nat->Nat
  |[]=>0
  |k::ks=>bif d k then ZkN d ks else ZkN d ks+1
theorem Zuj{d:Nat->Bool}{k:Nat}:∀{l:List Nat},ZkN (setB d k) l<=ZkN d l
  |[]=>Aqo _
  | x::l=>by
    have a:=Zuj (d:=d) (k:=k) (l:=l);have e:setB d k x=(bif Nat.beq x k then true else d x):=rfl;simp only[ZkN,e];cases b:Nat.beq x k<;>cases hd:d x<;>simp only[cond_true,cond_false]<;>omega
theorem Zui{d:Nat->Bool}{k:Nat}(hd:d k=false):∀{l:List Nat},k∈l->ZkN (setB d k) l<ZkN d l
  |[],h=>by cases h
  | x::l,h=>by
    have h1:=Zuj (d:=d) (k:=k) (l:=l)
    rcases Awr.1 h with rfl|h
    ·have e:setB d k k=true:=by show(bif Nat.beq k k then true else d k)=true;rw[Axv];rfl
     simp only[ZkN,e,cond_true,hd,cond_false];omega
    ·have c:=Zui hd h;simp only[ZkN]
     cases a:setB d k x<;>cases b:d x<;>simp only[cond_true,cond_false]<;>first
       |omega
       |(simp only[setB,b]at a;cases h3:Nat.beq x k<;>rw[h3]at a<;>cases a)
theorem Zpr{d:Nat->Bool}:∀{l:List Nat},(∀k∈l,d k=true)\/(∃k∈l,d k=false)
  |[]=>.inl λk a=>by cases a
  | x::l=>by
    cases hd:d x with
    |false=>exact .inr ⟨x,.head _,hd⟩
    | true=>
      rcases Zpr (d:=d) (l:=l)with h|⟨k,a,h⟩
      ·refine .inl λk a=>?_
       rcases Awr.1 a with rfl|a
       ·exact hd
       ·exact h k a
      ·exact .inr ⟨k,.tail _ a,h⟩
theorem ZrT{d:Nat->Bool}{k:Nat}(hd:d k=false):∀{l:List Nat},k∈l->0<ZkN d l
  |[],h=>by cases h
  | x::l,h=>by
    simp only[ZkN]
    rcases Awr.1 h with rfl|h
    ·rw[hd];simp only[cond_false];omega
    ·have:=ZrT hd h;cases d x<;>simp only[cond_true,cond_false]<;>omega
theorem ZrU{d:Nat->Bool}:∀{l:List Nat},ZkN d l<=l.length
  |[]=>Aqo _
  | x::l=>by
    have:=ZrU (d:=d) (l:=l);simp only[ZkN,Aqj];cases d x<;>simp only[cond_true,cond_false]<;>omega
theorem Zpu{j:Nat}:∀{L:List Nat} {m:Nat},ZhY (L.foldl Zp4 m) j=(ZhY m j||Zdg L j)
  |[],m=>by simp[Zdg]
  | x::L,m=>by
    simp only[Awq,Zdg];rw[Zpu,ZqJ]
    cases a:Nat.beq j x with
    |true=>rw[Awg a];simp
    |false=>simp[Awi a]
theorem ZxP{c:Cfg}{ops:Array Oper}{D:List Nat}{a0:Act}{w0:World}{Qx:Ex->Env->Zf->Prop}{m N0:Nat}{L b:List Nat}{tys:List VT}{hd:Zhh}{e:Env}{rest:Zhh->Env->Zf->Prop}
    (J:∀f,N0<=f->Ztr c ops D a0 w0 Qx f (L.foldl Zp4 m) rest) {I:(Nat->Bool)->Xf tys->Zf->Prop}
    (K:∀d t h',I d t h'->Znj d L (ZrB h' hd (rest hd (Zow b (Xf.evs tys t) [] e) h'))) (A:ZoL ops.toList L b=true) (S:ZsJ ops.toList b L=true)
    (fuel G:Nat) (d:Nat->Bool) (t:Xf tys) (listed:Array Bool) (a:Act) (w:World) (Lk:Zlx) (M:N0<=fuel) (g:∀k∈L,d k=true) (H:Rel ops G listed) (u:∀j,ZhY G j=(ZhY m j||(Zdg L j&&d j)))
    (l:Agr c.n ⟨λj=>bif Zdg b j then none else e.f j,e.mD⟩ a) (hs:Same w0 w) (B:XH D a0 a) (C:∀i o j,i∈L->ops[i]?=some o->d i=true->o.dst=some j->∃v,X0 b (Xf.evs tys t) j=some v/\a.tmps[j]?=some v.v)
    (N:I d t w.heap) (E:∀p,p∈Lk->p∈Zek hd):wpK c.rnd c.P ops (Zf7 c D a0 w0 Qx) (nxt ops) Lk fuel listed a w:=by
  obtain⟨q,z⟩:=Zj4 (Zni (K d t w.heap N) g)
  have r:∀j,Zdg b j=true->∃v,X0 b (Xf.evs tys t) j=some v/\a.tmps[j]?=some v.v:=λj h=>by
    obtain⟨k,z,O⟩:=Zkp A j h;obtain⟨o,ho,y⟩:=Zkj O;exact C k o j z ho (g k z) y
  refine Zif (Zes ops) _ _ _ _ _ _ (λp Q=>.inl (E p Q)) (J fuel M listed hd (Zow b (Xf.evs tys t) [] e) a w ⟨H.size,λj=>?_⟩ ⟨l.size,l.defers,λj v h=>?_⟩ hs B q z)
  ·rw [H.bit,u,Zpu]
   cases hm:Zdg L j with
   |false=>simp
   |true=>rw[g j (ZfC.1 hm)];simp
  ·unfold Zow at h;dsimp only at h
   cases s:Zdg b j with
   | true=>
     obtain⟨x,R,F⟩:=r j s;rw[R]at h;cases h;exact F
   | false=>
     rw[ZlU s]at h;refine l.val j v ?_;show(bif Zdg b j then none else e.f j)=some v;rw[s];exact h
section
variable{c:Cfg}{ops:Array Oper}{D:List Nat}{a0:Act}{w0:World}{Qx:Ex->Env->Zf->Prop}
theorem ZGQ(hc:c.OK)(hD:D=ops.toList.filterMap (·.dst)){m N0:Nat}{L b:List Nat}{tys:List VT}{hd:Zhh}{e:Env}{rest:Zhh->Env->Zf->Prop}
    (r:ZEa ops m L b=true) (hlen:b.length=tys.length) (ih:∀f,N0<=f->Ztr c ops D a0 w0 Qx f (L.foldl Zp4 m) rest)
    {I:(Nat->Bool)->Xf tys->Zf->Prop}
    (hS:∀ d t h',I d t h'->ZHR ops L d (λk o=>opP c o.op (eAt ops.toList o.after.toList b (Xf.evs tys t) e) h' λv h''=>ZrB h'' (ZrO o hd) (match o.dst with
        |none=>I (setB d k) t h''
        | some j=>bif Nat.blt j c.n then(match Xf.un tys (ZBu b j v (Xf.evs tys t))with
          |some t'=>I (setB d k) t' h''
          |none=>False)else False)) L)
    (hF:∀d t h',I d t h'->Znj d L (ZrB h' hd (rest hd (Zow b (Xf.evs tys t) [] e) h'))):
    ∀ (n fuel V:Nat) (d:Nat->Bool) (t:Xf tys) (listed:Array Bool) (a:Act) (w:World) (Lk:Zlx),N0+n<=fuel->ZkN d L<=n->Rel ops V listed->(∀j,ZhY V j=(ZhY m j||(Zdg L j&&d j)))->
      Agr c.n ⟨λj=>bif Zdg b j then none else e.f j,e.mD⟩ a->Same w0 w->XH D a0 a->(∀i o j,i∈L->ops[i]?=some o->d i=true->o.dst=some j->∃v,X0 b (Xf.evs tys t) j=some v/\a.tmps[j]?=some v.v)->
      I d t w.heap->(∀p,p∈Lk->p∈Zek hd)->wpK c.rnd c.P ops (Zf7 c D a0 w0 Qx) (nxt ops) Lk fuel listed a w:=by
  unfold ZEa at r
  cases hT:Zq8 ops m [] L with
  |false=>rw[hT]at r;cases r
  |true=>
  rw[hT]at r
  cases hO:ZGm m L 0 ops.toList with
  |false=>rw[hO]at r;cases r
  |true=>
  rw[hO]at r
  cases hU:ZsJ ops.toList b L with
  |false=>rw[hU]at r;cases r
  |true=>
  rw[hU]at r;have aa:ZoL ops.toList L b=true:=r;have ae:∀k,k∈L->ZhY m k=false:=λk q=>(ZpV hT k q).choose_spec.2.1;intro n
  induction n with
  | zero=>
    intro fuel V d t listed a w Lk hf ay hr g s hs Q K hI W
    have R:∀k∈L,d k=true:=λk q=>by
      cases aR:d k with
      |true=>rfl
      |false=>have:=ZrT aR q;omega
    exact ZxP ih hF aa hU fuel V d t listed a w Lk (by omega) R hr g s hs Q K hI W
  | succ n az =>
    intro fuel V d t listed a w Lk hf ay hr g s hs Q K hI W
    rcases Zpr (d:=d) (l:=L)with R|aA
    ·exact ZxP ih hF aa hU fuel V d t listed a w Lk (by omega) R hr g s hs Q K hI W
    ·obtain ⟨k0,o0,af,aC,aS,ag⟩:=ZoG (d:=d) (L0:=L) hT (λk q=>by cases q) (λk q=>ZfC.2 q) aA
     cases fuel with
     |zero=>omega
     | succ fuel =>
       refine⟨λh0=>?_,λi hi=>?_⟩
       ·have:k0∈Region.ready .any ops listed:=hr.ready.2 ⟨o0,aS,by
          unfold Zci;rw[g k0,ae k0 af,aC];simp only[Bool.and_false,Bool.or_false,cond_false]
          exact ZgJ.2 λx F B=>by
            rw[g x.on]
            rcases ag x F B with h|⟨h1,h2⟩
            ·rw[h];rfl
            ·rw[h1,h2];simp⟩
        rw[h0]at this;cases this
       ·obtain ⟨o,ho,M⟩:=hr.ready.1 hi;unfold Zci at M
        cases ah:ZhY V i with
        |true=>rw[ah]at M;cases M
        |false=>
        rw[ah]at M;simp only[cond_false]at M;have G:=ZgJ.1 M;have A:=g i;rw[ah]at A
        have aE:ZhY m i=false:=by cases h:ZhY m i with
          |false=>rfl
          |true=>rw[h]at A;simp at A
        have ai:Zdg L i=true:=by
          have:=Zrj hO i o (by simpa using ho);rw[Awb]at this
          rcases this with h|h|h|h
          ·rw[aE]at h;cases h
          ·exact h
          ·obtain⟨x,F,B,h1,h2⟩:=ZkT h;have:=G x F B;rw[g,h1,h2]at this;simp at this
          ·have:=ZkU h k0 af;obtain⟨x,F,B,X⟩:=ZjT.1 this;have:=G x F B;rw[g,X,ae k0 af,aC]at this;simp at this
        have Y:=ZfC.1 ai
        have aF:d i=false:=by
          rw[aE,ai]at A
          cases h:d i with
          |false=>rfl
          |true=>rw[h]at A;simp at A
        have X:∀x∈o.after.toList,Region.binds .any x=true->Zdg L x.on=true->d x.on=true:=λx F B hm=>by
          have:=G x F B;rw[g,ae _ (ZfC.1 hm),hm]at this;simpa using this
        have aj:=Zni (Zxk (hS d t w.heap hI) i Y o ho aF) λk q=>by
          obtain⟨h1,x,F,B,rfl⟩:=ZrQ q;exact X x F B h1
        have aG:Agr c.n (eAt ops.toList o.after.toList b (Xf.evs tys t) e) a:=by
          refine⟨s.size,s.defers,λj v H=>?_⟩;unfold eAt at H;dsimp only at H;split at H
          ·rename_i u hu
           cases ak:Zmn ops.toList j o.after.toList with
           |false=>rw[ak]at H;cases H
           | true=>
             rw[ak]at H;simp only[cond_true,Awh]at H;subst H;obtain⟨x,F,B,hg⟩:=Zn1 ak;obtain⟨ox,aH,aI⟩:=Zkj hg
             have aU:Zdg b j=true:=by
               cases h:Zdg b j with
               |true=>rfl
               |false=>rw[ZlU h]at hu;cases hu
             obtain⟨k,q,aV⟩:=Zkp aa j aU;have aJ:x.on=k:=(ZlD hU k q j aV).2 x.on ox aH aI;obtain⟨v',h1,h2⟩:=K x.on ox j (aJ▸q) aH (X x F B (ZfC.2 (aJ▸q))) aI;rw[hu]at h1;cases h1;exact h2
          ·rename_i hu
           cases N:Zdg b j with
           |true=>rw[N]at H;cases H
           | false=>
             rw[N]at H;refine s.val j v ?_;show(bif Zdg b j then none else e.f j)=some v;rw[N];exact H
        have aW:o.guard=none:=by
          obtain⟨o',aK,_,hg⟩:=ZpV hT i Y;rw[ho]at aK;cases aK;exact hg
        have hw:Region.wanted o (yielded ops a.tmps)=true:=by simp[Region.wanted,aW]
        unfold Go.wpOpIn;simp only[ho,hw,if_true];refine ZtZ hc aG (λv w' Z hp=>⟨v,rfl,hs.trans Z,Q,hp⟩) aj λv w' Z q=>?_;obtain⟨al,q⟩:=Zj4 q;have S:∀p,p∈nxt ops Lk i->p∈Zek hd:=λp hp=>W p ((Zes ops).mem _ _ _ hp);refine⟨λp hp=>al p ?_,?_⟩
        ·rw[<-Zt0 ho];exact(Zes ops).same _ _ _ _ hp (S p hp)
        have aL:=hr.set (Zj2 ho);have J:XH D a0 (a.put o.dst v.v):=Q.trans (XH.put λx F=>hD▸Zgv ho F)
        have T:∀j,ZhY (Zp4 V i) j=(ZhY m j||(Zdg L j&&setB d i j)):=λj=>by
          rw[ZqJ,g j];unfold setB
          cases B:Nat.beq j i with
          |true=>rw[Awg B,ai];simp
          |false=>simp[Awi B]
        have U:ZkN (setB d i) L<=n:=by have:=Zui aF Y;omega
        have hold:∀k,setB d i k=true->k≠i->d k=true:=λk h O=>by
          unfold setB at h
          cases B:Nat.beq k i with
          |true=>exact absurd (Awg B) O
          |false=>rw[B]at h;exact h
        cases z:o.dst with
        | none=>
          rw[z]at q;have q:I (setB d i) t w'.heap:=q;rw[z]at J;refine az fuel (Zp4 V i) (setB d i) t _ (a.put none v.v) w' _ (by omega) U aL T s (hs.trans Z) J (λk ok j an C ao E=>?_) q S;refine K k ok j an C (hold k ao λhe=>?_) E;subst he;rw[ho]at C;cases C;rw[z]at E;cases E
        | some j0=>
          rw[z]at q;simp only at q;rw[z]at J;obtain⟨aM,q⟩:=Zf6 q;split at q
          ·rename_i t' aX
           have hm:=ZhF aX;have aY:Xl ops.toList i=some j0:=(ZrE ho).trans z;obtain⟨N,aZ⟩:=ZlD hU i Y j0 aY;have aN:j0<a.tmps.size:=by rw[s.size];rw[Nat.blt_eq]at aM;exact aM
           refine az fuel (Zp4 V i) (setB d i) t' _ (a.put (some j0) v.v) w' _ (by omega) U aL T ⟨?_,?_,λj u H=>?_⟩ (hs.trans Z) J (λk ok j an C ao E=>?_) q S
           ·simp[Act.put,s.size]
           ·rw[put_defers];exact s.defers
           ·have aO:(bif Zdg b j then none else e.f j)=some u:=H
            have O:j0≠j:=λhe=>by rw[<-he,N]at aO;cases aO
            have:=s.val j u H;simp only[Act.put];rw[Awj O];exact this
           ·by_cases ar:k=i
            ·subst ar;rw[ho]at C;cases C;rw[z]at E;cases E;obtain⟨y,hy,au⟩:=Zns hm (Zjw (v:=v) N (hlen.trans Zpp.symm));refine⟨y,hy,?_⟩;simp[Act.put,aN,au]
            ·have O:j≠j0:=λhe=>ar (aZ k ok C (by rw[E,he]));obtain⟨x,F,bb⟩:=K k ok j an C (hold k ao ar) E;obtain⟨y,hy,au⟩:=Zns hm (show X0 b (ZBu b j0 v (Xf.evs tys t)) j=some x from by rw[Zi9 O];exact F);refine⟨y,hy,?_⟩;simp only[Act.put];rw[Awj (Ne.symm O),au];exact bb
          ·exact q.elim
end
section
variable{c:Cfg}{ops:Array Oper}{D:List Nat}{a0:Act}{w0:World}{Qx:Ex->Env->Zf->Prop}
theorem Zu6{i m:Nat}{o:Oper}{a:Bool}(h:ZDr c ops o m i a=true):Zci m i o=true/\((Zgr c o.op= .other->Zk6 m i 0 ops.toList=true)/\(Zgr c o.op≠ .other->a=true->Zou ops o m i 0 ops.toList=true)/\(a=false->Zk6 m i 0 ops.toList=true)):=by
  unfold ZDr at h
  cases d:Zci m i o with
  |false=>rw[d]at h;cases h
  | true=>
    rw[d]at h;simp only[cond_true]at h;refine⟨rfl,?_⟩
    cases b:Zgr c o.op with
    |other=>rw[b]at h;exact⟨λ_=>h,λf=>absurd rfl f,λ_=>h⟩
    | pure=>
      rw[b]at h
      cases a with
      |true=>exact⟨λe=>(by cases e),λ_ _=>h,λe=>(by cases e)⟩
      |false=>exact⟨λe=>(by cases e),λ_ e=>(by cases e),λ_=>h⟩
    | load t x=>
      rw[b]at h
      cases a with
      |true=>exact⟨λe=>(by cases e),λ_ _=>h,λe=>(by cases e)⟩
      |false=>exact⟨λe=>(by cases e),λ_ e=>(by cases e),λ_=>h⟩
    | text x=>
      rw[b]at h
      cases a with
      |true=>exact⟨λe=>(by cases e),λ_ _=>h,λe=>(by cases e)⟩
      |false=>exact⟨λe=>(by cases e),λ_ e=>(by cases e),λ_=>h⟩
theorem ZkP{a b:Bool}(h:(bif a then b else false)=true):a=true/\b=true:=by
  cases a with
  |false=>cases h
  |true=>exact⟨rfl,h⟩
theorem Zh6(C:ZgU ops)(X:c.OK)(N:D=ops.toList.filterMap (·.dst))(A:Region.noSelect ops=true){K:Env->Zf->Prop}(Q:∀Y h',K Y h'->Qx .normal Y h'):
    ∀(l:OrdT) (fuel m:Nat),l.depth<=fuel->Zqf c ops l m=true->Ztr c ops D a0 w0 Qx fuel m (Zqe c ops K l)
  | .done,fuel,m,R,k=>by
    intro listed hd e a w G u hs E q g;unfold Zqe at g;exact ZAk (Zvp G k) ⟨e,u,hs,E,Q _ _ g⟩ fuel
  | .inv L S tys r,fuel,m,R,k=>by
    intro listed hd e a w G u hs E q g;unfold Zqe at g;unfold Zqf at k;obtain⟨k,T⟩:=ZkP k;simp only[Awn]at k;obtain⟨I,⟨t,hI⟩,hS,hF⟩:=g;have av:r.depth+L.length<=fuel:=R;refine ZGQ X N k.1 (Awg k.2) (N0:=r.depth) (λf aw=>Zh6 C X N A Q r f _ aw T) hS hF L.length fuel m (λ_=>false) t listed a w (Zek hd) av ZrU G (λj=>by simp) ⟨u.size,u.defers,λj v hj=>?_⟩ hs E (λ_ _ _ _ _ h _=>by cases h) hI (λ_ h=>h);have hj:(bif Zdg S j then none else e.f j)=some v:=hj
    cases hm:Zdg S j with
    |true=>rw[hm]at hj;cases hj
    |false=>rw[hm]at hj;exact u.val j v hj
  | .fork i r j s,0,m,R,_=>by simp[OrdT.depth]at R
  | .take i fr r,0,m,R,_=>by simp[OrdT.depth]at R
  | .fork i r j s,fuel+1,m,R,k=>by
    have z:r.depth<=fuel:=by
      have h1:Nat.max r.depth s.depth+1<=fuel+1:=R;have Z:r.depth<=Nat.max r.depth s.depth:=Nat.le_max_left _ _;omega
    have ax:s.depth<=fuel:=by
      have h1:Nat.max r.depth s.depth+1<=fuel+1:=R;have Z:s.depth<=Nat.max r.depth s.depth:=Nat.le_max_right _ _;omega
    intro listed hd e a w G u hs E q g;unfold Zqe at g;unfold Zqf at k;split at g
    ·rename_i o p ho hp;rw[ho,hp]at k;obtain⟨hb,k⟩:=ZkP k;obtain⟨aj,T⟩:=ZkP k;simp only[Awn]at hb;have ay:=Zh6 C X N A Q r fuel (Zp4 m i) z aj;have az:=Zh6 C X N A Q s fuel (Zp4 m j) ax T;exact ZDm (ZAA G hb.2.2) (G.ready.2 ⟨o,ho,hb.1⟩) (Zte C X N ho G u hs E q ay g.1) (Zte C X N hp G u hs E q az g.2)
    ·exact g.elim
  | .take i fr r,fuel+1,m,R,k=>by
    have z:r.depth<=fuel:=Nat.le_of_succ_le_succ R;intro listed hd e a w G u hs E q g;unfold Zqe at g;unfold Zqf at k;split at g
    ·exact g.elim
    ·rename_i o ho;rw[ho]at k;obtain⟨hb,k⟩:=ZkP k;obtain⟨O,ak,H,U⟩:=Zu6 hb;have ih:=Zh6 C X N A Q r fuel (Zp4 m i) z k
     have al:Zk6 m i 0 ops.toList=true->ZEB c ops o hd e w.heap (Zqe c ops K r)->wpK c.rnd c.P ops (Zf7 c D a0 w0 Qx) (nxt ops) (Zek hd) (fuel+1) listed a w:=
       λZ g=>ZtE (Zxl G Z) (G.ready.2 ⟨o,ho,O⟩) (Zte C X N ho G u hs E q ih g)
     have an:=G.set (Zj2 ho);have aa:∀v,XH D a0 (a.put o.dst v):=λv=>E.trans (XH.put λx hx=>N▸Zgv ho hx);have hQ:∀c' a' v w',Zf7 c D a0 w0 Qx (.panic c') (a'.put o.dst v) w'->Zf7 c D a0 w0 Qx (.panic c') a' w':=λ_ _ _ _ h=>Znd (λx hx=>by rw[N];exact Zgv ho hx) h;split at g
     ·rename_i F
      have ao:Zou ops o m i 0 ops.toList=true\/Zk6 m i 0 ops.toList=true:=by
        cases fr with
        |true=>exact .inl (H (by rw[F];intro e;cases e) rfl)
        |false=>exact .inr (U rfl)
      unfold ZGW at g
      rcases ZiA u g with⟨e1,B,hw,g⟩ |⟨e1,B,hw,g⟩
      ·obtain⟨v,M,g⟩:=ZAv B F g;obtain⟨Y,V,g⟩:=ZdM B g;exact Zp0 C ho A hQ G O ao (v:=v.v) (.inl ⟨hw,λw _=>M w trivial⟩) q (ih _ hd Y _ w an V hs (aa _) q g)
      ·obtain⟨Y,V,g⟩:=ZdM B g;exact Zp0 C ho A hQ G O ao (v:=undef) (.inr ⟨hw,rfl⟩) q (ih _ hd Y _ w an V hs (aa _) q g)
     ·rename_i t x F;have J:=Zxx F
      cases z:fr with
      | true=>
        rw[z]at g;simp only[cond_true]at g;refine ZtI C N A ho G u hs E q ih O (H (by rw[F];intro e;cases e) z) (λe1 B g=>?_) g;split at g
        ·rename_i y hy;obtain⟨b,p,hp,g⟩:=Zi3 g;obtain⟨v,cells,W,M,g⟩:=ZAM g;refine⟨v,λh'=>Zm h' cells,ZlX.2 W,λw' ae=>?_,g⟩;obtain⟨dst,op,type,pos,after,guard⟩:=o;simp only at J;subst J;refine Zw8 (s:=Instr.loadAt t (a.eval x)) ?_;rw[B.ev hy,hp];exact ZoQ (M w' (ZlX.1 ae))
        ·exact g.elim
      | false=>
        rw[z]at g;simp only[cond_false]at g;refine ZEs C N ho G u hs E q ih (λ{e K} h1 Z=>?_) O (U z) g;obtain⟨dst,op,type,pos,after,guard⟩:=o;simp only at J;subst J;exact ZpT h1 Z
     ·rename_i x F;obtain⟨s,d,el,J,aC,aD,aE⟩:=ZwQ F
      cases z:fr with
      | true =>
        rw[z]at g;simp only[cond_true]at g;refine ZtI C N A ho G u hs E q ih O (H (by rw[F];intro e;cases e) z) (λe1 B g=>?_) g;split at g
        ·rename_i p l n hy
         obtain ⟨str,M,g⟩:=ZsQ (P:=c.P) (w:=w) (x:=⟨p,l,n⟩) (K:=λs=>b2s ⟨p,l,n⟩ w.heap (λs'=>s'=s)/\Zsf c.n e1 o.dst (.val (.string s)) λY=>Zqe c ops K r ((i,λh'=>b2s ⟨p,l,n⟩ h' λs'=>s'=s)::hd) Y w.heap) (by
           rcases g with⟨h0,g⟩ |⟨b,o2,s,h1,Z,h3,g⟩
           ·exact .inl ⟨h0,.inl ⟨h0,rfl⟩,g⟩
           ·exact .inr ⟨b,o2,s,h1,Z,h3,.inr ⟨b,o2,s,h1,Z,h3,rfl⟩,g⟩)
         refine⟨.val (.string str),λh'=>b2s ⟨p,l,n⟩ h' λs'=>s'=str,g.1,λw' ae=>?_,g.2⟩;obtain⟨s2,af,rfl⟩:=ZsQ (P:=c.P) (w:=w') ae;obtain⟨dst,op,type,pos,after,guard⟩:=o;simp only at J;subst J;refine Zw8 (s:=convert s d (a.eval x)) ?_;rw[B.ev hy];exact(Zjq aC aD aE).trans af
        ·exact g.elim
      | false=>
        rw[z]at g;simp only[cond_false]at g;exact al (U z) g
     ·rename_i F;exact al (ak F) g
end
theorem Zo6{e:Env}:∀{a:List Nat} {es:List EV} {vs:List EV} {j:Nat} {v:EV},Zvk e a=some es->es.map EV.v=vs.map EV.v->X0 a vs j=some v->∃u,e j=some u/\u.v=v.v
  |[],es,vs,j,v,_,_,h=>by simp[X0]at h
  | s::f,es,vs,j,v,b,hm,h=>by
    simp only[Zvk]at b;split at b
    ·rename_i u us hu c;simp only[Awh]at b;subst b
     cases vs with
     |nil=>simp[X0]at h
     | cons g vs=>
       simp only[Awo,Axw]at hm;simp only[X0]at h
       cases d:Nat.beq j s with
       | true=>
         have:=Awg d;subst this;rw[d]at h;simp only[cond_true,Awh]at h;subst h;exact⟨u,hu,hm.1⟩
       | false=>
         rw[d]at h;exact Zo6 c hm.2 h
    ·cases b
theorem ZqB{c:Cfg}{b:List Nat}{tys:List VT}{kill:List (Nat×Nat)}{e y:Env}{a a':Act}{D:List Nat}{t:Xf tys}(i:Agr c.n e a)(g:Agr c.n y a')(f:XH D a a')
    (k:D.all (λj=>bif Nat.beq j mkN then false else Zdg b j||Zry kill j)=true) (q:ZsR b tys y=some t) (l:∀j,Zdg b j=true->∃v,X0 b (Xf.evs tys t) j=some v):
    Agr c.n (Zow b (Xf.evs tys t) kill e) a':=by
  have r:mkN∉D:=λh=>by
    have:=Axb.1 k mkN h;rw[show Nat.beq mkN mkN=true from Axv mkN]at this;cases this
  refine⟨g.size,(f.2 r).trans i.defers,λj v d=>?_⟩;unfold Zow at d;dsimp only at d;unfold ZsR at q;split at q
  ·rename_i es s;have hm:=ZhF q
   cases hl:X0 b (Xf.evs tys t) j with
   | some u=>
     rw[hl]at d;simp only[Awh]at d;subst d;obtain⟨x,z,hv⟩:=Zo6 s hm.symm hl;rw[<-hv];exact g.val j x z
   | none =>
     rw[hl]at d;simp only at d
     cases w:Zry kill j with
     |true=>rw[w]at d;cases d
     | false=>
       rw[w]at d;simp only[cond_false]at d
       have m:j∉D:=by
         intro A;have:=Axb.1 k j A
         cases o:Nat.beq j mkN with
         |true=>rw[o]at this;cases this
         |false=>
         rw[o,w,cond_false,Bool.or_false]at this;obtain⟨B,p⟩:=l j this;rw[hl]at p;cases p
       rw[f.1 j m];exact i.val j v d
  ·cases q
theorem Zru{e:Env}:∀{a:List Nat} {es vs:List EV} {j:Nat},Zvk e a=some es->es.map EV.v=vs.map EV.v->Zdg a j=true->∃v,X0 a vs j=some v
  |[],es,vs,j,_,_,h=>by simp[Zdg]at h
  | s::g,es,vs,j,b,hm,h=>by
    simp only[Zvk]at b;split at b
    ·rename_i u us hu c;simp only[Awh]at b;subst b
     cases vs with
     |nil=>simp at hm
     | cons d vs=>
       simp only[Awo,Axw]at hm;simp only[X0];simp only[Zdg]at h
       cases f:Nat.beq j s with
       |true=>exact⟨d,rfl⟩
       | false=>
         rw[f]at h;exact Zru c hm.2 h
    ·cases b
theorem Zre{a:List Nat}{tys:List VT}{e:Env}{t:Xf tys}(b:ZsR a tys e=some t):∀j,Zdg a j=true->∃v,X0 a (Xf.evs tys t) j=some v:=by
  intro j d;unfold ZsR at b;split at b
  ·rename_i es c;exact Zru c (ZhF b).symm d
  ·cases b
theorem Zo9{a:List Nat}{tys:List VT}{e:Env}{J:Xf tys->Zf->Prop}{h:Zf}(b:ZxF a tys e J h):∃t,ZsR a tys e=some t/\J t h:=by
  unfold ZxF at b;split at b
  ·rename_i t c;exact⟨t,c,b⟩
  ·exact b.elim
theorem ZoO{n:Nat}:∀{d:List Tmp} {vs:List EV} {e c:Env} {a:Act},Agr n e a->ZoP n e d vs=some c->
    Agr n c {a with tmps:=(d.zip (vs.map EV.v)).foldl (λt x=>t.setIfInBounds x.1 x.2) a.tmps}
  | [],[],e,c,a,b,h=>by
    simp only[ZoP,Awh]at h;subst h;exact b
  | p::d,v::vs,e,c,a,b,h=>by
    simp only[ZoP]at h
    cases f:Nat.blt p n with
    |false=>rw[f]at h;cases h
    | true=>
      rw[f]at h;exact ZoO (a:=a.put (some p) v.v) (b.set f v) h
  |[],_::_,e,c,a,b,h=>by cases h
  |_::_,[],e,c,a,b,h=>by cases h
theorem Zxb(a:Array Tmp)(vs:List Value)(tmps:Array Value):(a.zip vs.toArray).foldl (λt x=>t.setIfInBounds x.1 x.2) tmps=(a.toList.zip vs).foldl (λt x=>t.setIfInBounds x.1 x.2) tmps:=by rw[<-Array.foldl_toList,Array.toList_zip]
theorem ZcC:∀(code:Code) (c:Cfg) (_:c.OK) (_:c.P.follows .mixedOrders=true) (G:Ann) (e:Env) (a:Act) (w:World) (Q:Ex->Env->Zf->Prop),
    Agr c.n e a->wpC c code G e w.heap Q->code.wpIn (fen c.rnd) 0 c.P (Zf7 c (Zf5 code) a w Q) a w
  | .skip,c,K,d,G,e,a,w,Q,m,i=>wpIn_skip ⟨e,m,Same.refl w,XH.refl _ a,i⟩
  | .region id ops draw,c,K,d,G,e,a,w,Q,m,i=>by
    unfold wpC at i
    cases draw with
    | false=>
      refine wpIn_region ?_;rw[List.range_eq_range'];have:=Zm5 K (ops:=ops) (Q:=Zf7 c (Zf5 (.region id ops false)) a w Q) ops.toList 0 (by simp) m i (λN a' w' h1 B h3 o=>⟨N,h1,B,h3,o⟩) (λv a' w' B h3 o=>⟨v,rfl,B,h3,o⟩);simpa using this
    | true=>
      simp only at i;split at i
      ·rename_i l;obtain⟨H,i⟩:=Zf6 i;simp only[Awn]at H;refine wpIn_region_any d (ZwE (nx:=nxt ops) _ (Zek []) _ _ _ ?_);exact Zh6 (Zvq H.2.2.1) K (D:=Zf5 (.region id ops true)) rfl H.1 (λ_ _ h=>h) l ops.size 0 (Awt H.2.1) H.2.2.2 _ [] e a {w with drawn:=w.drawn+1} (Rel.zero ops) m ⟨rfl,rfl,rfl⟩ (XH.refl _ a) (λq hq=>(by cases hq)) i
      ·obtain⟨H,i⟩:=Zf6 i;simp only[Awn]at H;have aj:c.rnd=none:=Axu.1 H.1;rw[aj];refine wpIn_region_quiet (C:=Cls w w.heap) rfl d H.2 ⟨⟨rfl,rfl,rfl⟩,rfl⟩ ?_;refine Zqc K ops.toList 0 (by simp) m i λN a' h1 h3 o w' hw=>⟨N,h1,hw.1,h3,?_⟩;rw[hw.2];exact o
  | .seq x y,c,K,d,G,e,a,w,Q,m,i=>by
    have plain:∀u v:Ann,wpC c x u e w.heap (ZA3 (λN h'=>wpC c y v N h' Q) Q)->(Code.seq x y).wpIn (fen c.rnd) 0 c.P (Zf7 c (Zf5 (.seq x y)) a w Q) a w:=by
      intro u v i;refine wpIn_seq (wpIn_mono (ZcC x c K d u e a w _ m i) ?_);intro ex a' w' L
      cases ex<;>first
        |exact L.elim
        |skip
      ·obtain⟨N,h1,B,h3,o⟩:=L;refine wpIn_mono (ZcC y c K d v N a' w' _ h1 o) ?_;exact Zf7.mono B (h3.mono λj E=>Axx.2 (.inl E)) (λj E=>Axx.2 (.inr E)) (λ_ _ _ h=>h)
      ·obtain⟨N,h1,B,h3,o⟩:=L;exact⟨N,h1,B,h3.mono λj E=>Axx.2 (.inl E),o⟩
      ·obtain⟨N,h1,B,h3,o⟩:=L;exact⟨N,h1,B,h3.mono λj E=>Axx.2 (.inl E),o⟩
      ·obtain⟨v,h1,B,h3,o⟩:=L;exact⟨v,h1,B,h3.mono λj E=>Axx.2 (.inl E),o⟩
    unfold wpC at i;split at i
    ·rename_i z tys kill u v
     cases O:Zug z kill x with
     |false=>rw[O]at i;exact i.elim
     | true=>
       rw[O]at i;obtain⟨J,hJ,i⟩:=i;refine wpIn_seq (wpIn_mono (ZcC x c K d u e a w _ m i) ?_);intro ex a' w' L
       cases ex<;>first
         |exact L.elim
         |skip
       ·obtain⟨N,h1,B,h3,o⟩:=L;obtain⟨t,ht,E⟩:=Zo9 o;have U:=ZqB m h1 h3 O ht (Zre ht);refine wpIn_mono (ZcC y c K d v _ a' w' _ U (hJ t w'.heap E)) ?_;exact Zf7.mono B (h3.mono λj E=>Axx.2 (.inl E)) (λj E=>Axx.2 (.inr E)) (λ_ _ _ h=>h)
       ·obtain⟨N,h1,B,h3,o⟩:=L;exact⟨N,h1,B,h3.mono λj E=>Axx.2 (.inl E),o⟩
       ·obtain⟨N,h1,B,h3,o⟩:=L;exact⟨N,h1,B,h3.mono λj E=>Axx.2 (.inl E),o⟩
       ·obtain⟨v,h1,B,h3,o⟩:=L;exact⟨v,h1,B,h3.mono λj E=>Axx.2 (.inl E),o⟩
    ·exact plain _ _ i
  | .cond x p q,c,K,d,G,e,a,w,Q,m,i=>by
    have yes:∀u,wpC c p u e w.heap Q->p.wpIn (fen c.rnd) 0 c.P (Zf7 c (Zf5 (.cond x p q)) a w Q) a w:=λu i=>
      wpIn_mono (ZcC p c K d u e a w Q m i) (Zf7.mono (Same.refl w) (XH.refl _ a) (λj E=>Axx.2 (.inl E)) (λ_ _ _ h=>h))
    have no:∀u,wpC c q u e w.heap Q->q.wpIn (fen c.rnd) 0 c.P (Zf7 c (Zf5 (.cond x p q)) a w Q) a w:=λu i=>
      wpIn_mono (ZcC q c K d u e a w Q m i) (Zf7.mono (Same.refl w) (XH.refl _ a) (λj E=>Axx.2 (.inr E)) (λ_ _ _ h=>h))
    unfold wpC at i;split at i
    ·rename_i hx;exact wpIn_cond_true (m.ev hx) (yes _ i)
    ·rename_i hx;exact wpIn_cond_false (m.ev hx) (no _ i)
    ·rename_i b hx;exact wpIn_cond_split (m.ev hx) (λH=>yes _ (i.1 H)) (λH=>no _ (i.2 H))
    ·exact i.elim
  | .block id x,c,K,d,G,e,a,w,Q,m,i=>by
    unfold wpC at i;refine wpIn_block (wpIn_mono (ZcC x c K d _ e a w _ m i) ?_);intro ex a' w' L
    cases ex<;>first
      |exact L.elim
      |skip
    ·exact L
    ·rename_i aM;obtain⟨N,h1,B,h3,o⟩:=L;simp only[Exit.inBlock];simp only[ZBP]at o
     cases H:Nat.beq aM id with
     | true=>
       rw[H]at o;rw[if_pos (Awg H)];exact⟨N,h1,B,h3,o⟩
     | false=>
       rw[H]at o;rw[if_neg (Awi H)];exact⟨N,h1,B,h3,o⟩
    ·exact L
    ·exact L
  | .loop x,c,K,d,G,e,a,w,Q,m,i=>by
    unfold wpC at i;split at i
    ·rename_i z tys kill u
     cases O:Zug z kill x with
     |false=>rw[O]at i;exact i.elim
     | true =>
       rw[O]at i;simp only[cond_true]at i;split at i
       ·rename_i t0 az;obtain⟨I,μ,h0,hr⟩:=i;have ae:=Zre az
        have ak:∀ (t:Xf tys) j,Zdg z j=true->∃v,X0 z (Xf.evs tys t) j=some v:=by
          intro t j E;obtain⟨v,hv⟩:=ae j E
          have len:∀(ts:List VT) (s s':Xf ts),(Xf.evs ts s).length=(Xf.evs ts s').length:=by
            intro ts
            induction ts with
            |nil=>intro s s';rfl
            |cons x xs ih=>intro s s';simp only[Xf.evs,Aqj];exact congrArg _ (ih _ _)
          have go:∀ (ss:List Nat) (us vs:List EV),us.length=vs.length->(∃v,X0 ss us j=some v)->∃v,X0 ss vs j=some v:=by
            intro ss
            induction ss with
            |nil=>intro us vs _ h;simp[X0]at h
            | cons s ss ih=>
              intro us vs hlen h
              cases us with
              |nil=>simp[X0]at h
              | cons u us=>
                cases vs with
                |nil=>simp at hlen
                | cons v' vs=>
                  simp only[X0]at h⊢
                  cases H:Nat.beq j s with
                  |true=>exact⟨v',rfl⟩
                  | false=>
                    rw[H]at h;exact ih us vs (by simpa using hlen) h
          exact go z _ _ (len tys t0 t) ⟨v,hv⟩
        refine wpIn_loop_ghost (λn a' w'=>Same w w'/\XH (Zf5 x) a a'/\∃t,Agr c.n (Zow z (Xf.evs tys t) kill e) a'/\I t w'.heap/\n=μ t w'.heap)
          (μ t0 w.heap) ⟨Same.refl w,XH.refl _ a,t0,ZqB m m (XH.refl _ a) O az ae,h0,rfl⟩ ?_
        rintro n a' w' ⟨hs,M,t,aC,hI,rfl⟩;refine wpIn_mono (ZcC x c K d u _ a' w' _ aC (hr t w'.heap hI)) ?_;intro ex a2 w2 L
        cases ex<;>first
          |exact L.elim
          |skip
        ·obtain⟨Z,h1,B,h3,o⟩:=L;have h5:ZxF z tys Z (λs' h'=>I s' h'/\μ s' h'<μ t w'.heap) w2.heap:=o;obtain⟨t2,aO,aP,hμ⟩:=Zo9 h5;exact⟨_,hμ,hs.trans B,M.trans h3,t2,ZqB m h1 (M.trans h3) O aO (ak t2),aP,rfl⟩
        ·obtain⟨Z,h1,B,h3,o⟩:=L;exact⟨Z,h1,hs.trans B,M.trans h3,o⟩
        ·obtain⟨Z,h1,B,h3,o⟩:=L;exact⟨Z,h1,hs.trans B,M.trans h3,o⟩
        ·obtain⟨v,h1,B,h3,o⟩:=L;exact⟨v,h1,hs.trans B,M.trans h3,o⟩
       ·exact i.elim
    ·exact i.elim
  | .exit id,c,K,d,G,e,a,w,Q,m,i=>wpIn_exit ⟨e,m,Same.refl w,XH.refl _ a,i⟩
  | .ret,c,K,d,G,e,a,w,Q,m,i=>wpIn_ret ⟨e,m,Same.refl w,XH.refl _ a,i⟩
  | .rangeFunc g ps assign body,c,K,d,G,e,a,w,Q,m,i=>by
    unfold wpC at i;split at i
    ·rename_i tys x y
     cases H:(c.rnd.isNone&&e.mD.isNo)with
     |false=>rw[H]at i;exact i.elim
     | true =>
       rw[H]at i;simp only[cond_true]at i;simp only[Awn]at H;have aj:c.rnd=none:=Axu.1 H.1
       have aQ:e.mD= .no:=by
         cases h9:e.mD with
         |no=>rfl
         |at_ D9=>rw[h9]at H;cases H.2
         |raw d9=>rw[h9]at H;cases H.2
       have aR:a.defers=[]:=by rw[m.defers,aQ];rfl
       split at i
       ·rename_i f cs hg;split at i
        ·rename_i s t L
         obtain⟨af,ht⟩:=Znf L;dsimp only at af ht;have aD:=K.iters _ af;dsimp only at aD;have aS:a.eval g=Value.func (.func f) #[] ⟨cs⟩:=m.ev hg;rw[aj];refine wpIn_rangeFunc ?_;intro fn aT;obtain⟨r,hr⟩:∃r:Loop,r={state:=.ready,pending:=none,fn,tmps:=a.tmps,params:=ps,assign,body,defers:=w.heap.size}:=⟨_,rfl⟩;have ag:=i r;clear i;obtain⟨W1,an⟩:∃W1,(w.alloc (.deferred (some []))).alloc (Zdk r .ready none)=W1:=⟨_,rfl⟩;have aU:W1.heap=(w.heap.push (.deferred (some []))).push (Zdk r .ready none):=by rw[<-an];rfl
         have aV:Same w W1:=by rw[<-an];exact⟨rfl,rfl,rfl⟩
         rw[<-aU]at ag
         have hY:YOK c.P (ZoD r (w.heap.size+1) ps.size (λvs h' k=>Zyr (λa:Xf tys=>(Xf.evs tys a).map EV.v) vs λa=>match ZoP c.n ⟨e.f,.no⟩ ps.toList (Xf.evs tys a)with
           | some e1=>wpC {c with rnd:=some (w.heap.size+1),pan:=λ_ _=>False} assign x e1 h' (ZBx λZ B=>
               Ztj r (w.heap.size+1) B λh3=>wpC {c with rnd:=some (w.heap.size+1),pan:=λ_ _=>False} body y Z h3 (ZBw k))
           |none=>False)):=by
           intro l vs k W hy;obtain⟨rfl,hlen,V,F⟩:=hy;obtain⟨ta,rfl,F⟩:=F;split at F
           ·rename_i e1 aX;have ao:W.heap[w.heap.size+1]?=some (.loop {r with state:=.ready,pending:=none}):=V;have hy:=run_yield (P:=c.P) (args:=((Xf.evs tys ta).map EV.v).toArray) ao (by rw[hr];simpa using hlen);refine⟨fn,(ps.zip ((Xf.evs tys ta).map EV.v).toArray).foldl (λt x=>t.setIfInBounds x.1 x.2) a.tmps,assign,body,by rw[hr]at hy;exact hy,?_⟩
            have ai:Agr c.n e1 {tmps:=(ps.toList.zip ((Xf.evs tys ta).map EV.v)).foldl (λt x=>t.setIfInBounds x.1 x.2) a.tmps,defers:=[]}:=
              ZoO (e:=⟨e.f,.no⟩) (a:={a with defers:=[]}) ⟨m.size,rfl,m.val⟩ aX
            have aE:=K.at (some (w.heap.size+1)) (λ_ _=>False);rw[<-Zxb]at ai;refine roundIn_of_wpIn aT ?_;refine wpIn_mono (ZcC assign _ aE d x e1 _ W _ ai F) ?_;intro ex a1 w1 S
            cases ex with
            | normal=>
              obtain⟨Z,U,aa,bq,aq,aY⟩:=S;have aF:w1.heap[w.heap.size+1]?=some (.loop {r with state:=.ready,pending:=none}):=aq;refine⟨_,run_beginRound aF rfl,?_⟩;refine wpIn_mono (ZcC body _ aE d y Z a1 (w1.putObj (w.heap.size+1) (.loop {r with state:=.busy,pending:=none})) _ U aY) ?_;have X:Same W (w1.putObj (w.heap.size+1) (.loop {r with state:=.busy,pending:=none})):=aa.trans ⟨rfl,rfl,rfl⟩
              have fin:∀(p:Option Code) (W3:World),Same (w1.putObj (w.heap.size+1) (.loop {r with state:=.busy,pending:=none})) W3 ->
                  Zvz W3.heap (w.heap.size+1) r .busy none (k p.isNone (ZmX W3.heap (w.heap.size+1) (Zdk r (if p.isNone then .ready else .done) p)))->
                  ∃v w',(Instr.endRound (w.heap.size+1) p).run c.P W3= .ok v w'/\∃b,Ending.returned v= .returned (.bool b)/\Same W w'/\k b w'.heap:=by
                intro p W3 R A;have aG:W3.heap[w.heap.size+1]?=some (.loop {r with state:=.busy,pending:=none}):=A.1;exact⟨_,_,run_endRound p aG,p.isNone,rfl,(X.trans R).trans ⟨rfl,rfl,rfl⟩,A.2⟩
              intro aZ a3 w3 T
              cases aZ with
              |normal=>obtain⟨e3,_,R,_,A⟩:=T;exact fin none w3 R A
              |ret=>obtain⟨e3,_,R,_,A⟩:=T;exact fin (some .ret) w3 R A
              |exit id=>obtain⟨e3,_,R,_,A⟩:=T;exact fin (some (.exit id)) w3 R A
              |goto t=>exact T.elim
              |panic ch=>obtain⟨_,_,_,_,A⟩:=T;exact A.elim
              |outgrown=>exact T.elim
            |ret=>obtain⟨_,_,_,_,A⟩:=S;exact A.elim
            |exit id=>obtain⟨_,_,_,_,A⟩:=S;exact A.elim
            |goto t=>exact S.elim
            |panic ch=>obtain⟨_,_,_,_,A⟩:=S;exact A.elim
            |outgrown=>exact S.elim
           ·exact F.elim
         have bb:=aD _ hY;obtain⟨⟨fd,hf,ar,au⟩,av⟩:=bb
         have F:(#[Value.func (.yield (w.heap.size+1)) #[] #[]]:Array Value)++(⟨cs⟩:Array Value)=((Xf.evs (.yl::s.caps) (w.heap.size+1,t)).map EV.v).toArray:=by
           have h5:=ZhF ht;have h6:(cs.map EV.val).map EV.v=cs:=by simp[Function.comp_def,EV.v]
           rw[h6]at h5;simp only[Xf.evs,Awo,h5];simp[VT.ev,EV.v]
         refine ⟨w.heap.size+1,[{target:=.collected w.heap.size,args:= #[]}],W1,{target:=.fn (.func f) ⟨cs⟩,args:= #[.func (.yield (w.heap.size+1)) #[] #[]]},W1,f,
           #[.func (.yield (w.heap.size+1)) #[] #[]]++(⟨cs⟩:Array Value),W1,?_,?_,?_,?_,λh=>(by cases h),Zi0.2 ?_⟩
         ·rw[<-an,hr];exact run_enterLoop_outer fn a.tmps ps assign body
         ·simp only[resolve,aS];simp[Deferred.ofValue,Act.eval]
         ·intro f' bw;exact trivial
         ·simp only[invoke,callFunc,Awk,run_program,Awl,hf,ar,Aqc,if_false,au,Awp]
         ·rw [F]
          refine (av (w.heap.size+1,t) (λ_ h'=>∃st p,st≠ .busy/\Zvz h' (w.heap.size+1) r st p (Zvy p (Q .normal ⟨e.f,.at_ w.heap.size⟩ (ZmX h' (w.heap.size+1) (Zdk r .exhausted p)))
            (λid=>Q (.exit id) ⟨e.f,.at_ w.heap.size⟩ (ZmX h' (w.heap.size+1) (Zdk r .exhausted p))) (Q .ret ⟨e.f,.at_ w.heap.size⟩ (ZmX h' (w.heap.size+1) (Zdk r .exhausted p))))) (λ_ _=>False) W1 ag).mono ?_
          rintro ending w2 (⟨rr,rfl,aa,st,p,bc,V,E⟩ |⟨v,rfl,aa,i⟩)
          ·have ao:w2.heap[w.heap.size+1]?=some (.loop {r with state:=st,pending:=p}):=V;have aH:=run_endLoop (P:=c.P) ao (by exact bc);have X:Same w (w2.putObj (w.heap.size+1) (Zdk r .exhausted p)):=(aV.trans aa).trans ⟨rfl,rfl,rfl⟩;have Y:Agr c.n ⟨e.f,.at_ w.heap.size⟩ {a with defers:=[{target:=.collected w.heap.size,args:= #[]}]++a.defers}:=⟨m.size,by rw[aR];rfl,m.val⟩;have aw:XH (Zf5 (.rangeFunc g ps assign body)) a {a with defers:=[{target:=.collected w.heap.size,args:= #[]}]++a.defers}:=⟨λ_ _=>rfl,λh=>absurd (Axs.2 rfl) h⟩;refine⟨p,_,aH,?_⟩
           cases p with
           |none=>exact⟨_,Y,X,aw,E⟩
           | some cj=>
             cases cj with
             |exit id=>exact wpIn_exit ⟨_,Y,X,aw,E⟩
             |ret=>exact wpIn_ret ⟨_,Y,X,aw,E⟩
             |_=>exact E.elim
          ·exact i.elim
        ·exact i.elim
       ·exact i.elim
    ·exact i.elim
  | .scope _,c,K,d,G,e,a,w,Q,m,i=>i.elim
  | .label _,c,K,d,G,e,a,w,Q,m,i=>i.elim
  | .goto _,c,K,d,G,e,a,w,Q,m,i=>i.elim
  | .refuse _,c,K,d,G,e,a,w,Q,m,i=>i.elim
theorem Zpw:∀(args:List EV) (i:Nat) (j:Nat) (v:EV),Zn3.go args i j=some v->∃k,j=i+k/\args[k]?=some v
  |[],i,j,v,h=>by simp[Zn3.go]at h
  | x::xs,i,j,v,h=>by
    simp only[Zn3.go]at h
    cases a:Nat.beq j i with
    | true=>
      rw[a]at h;simp only[cond_true,Awh]at h;exact⟨0,Awg a,by simp[h]⟩
    | false=>
      rw[a]at h;obtain⟨k,b,hv⟩:=Zpw xs (i+1) j v h;exact⟨k+1,by omega,by simpa using hv⟩
theorem Zm9{c:Cfg}{e:Env}{a:Act}{w:World}(g:Agr c.n e a){f:ResultVar->Sem Value}(h1:∀t,f (.tmp t)=pure (a.tmps.getD t undef))
    (h:∀x t,f (.cell x t)=(do loadVar t (<-asAddr (a.tmps.getD x undef)))):∀{rs:List ResultVar} {K:List EV->Prop},ZyW c e w.heap rs K->
    ∃vs,(rs.mapM f).run c.P w= .ok (vs.map EV.v) w/\K vs
  |[],K,d=>⟨[],rfl,d⟩
  | .tmp t::r,K,d=>by
    simp only[ZyW]at d;split at d
    ·rename_i v hv;obtain⟨vs,i,d⟩:=Zm9 g h1 h d;refine⟨v::vs,?_,d⟩;have:=g.val t v hv;rw[Awz];simp only[h1,Awk,Awp,Awl,i,Awo];simp[this]
    ·exact d.elim
  | .cell x t::r,K,d=>by
    simp only[ZyW]at d;split at d
    ·rename_i b o hv;obtain⟨v,hl,d⟩:=Zt6 d;obtain⟨vs,i,d⟩:=Zm9 g h1 h d;refine⟨v::vs,?_,d⟩;have:=g.val x _ hv
     have j:(asAddr (a.tmps.getD x undef)).run c.P w= .ok ⟨b,o,none⟩ w:=by
       have:a.tmps.getD x undef= .pointer (some ⟨b,o,none⟩):=by simp[this,EV.v]
       rw[this];rfl
     rw[Awz];simp only[h,Awk,Awp,j,Awl,hl w rfl,i,Awo]
    ·exact d.elim
def ZNq(l:List Value):Value:=match l with
  |[v]=>v
  |l=>.tuple l.toArray
theorem ZwN:∀(vs:List EV),(ZgO vs).v=ZNq (vs.map EV.v)
  |[]=>rfl
  |[_]=>rfl
  |_::_::_=>rfl
theorem ZwP(l:List Value):(if h:l.toArray.size=1 then l.toArray[0]else Value.tuple l.toArray)=ZNq l:=by
  match l with
  |[]=>rfl
  |[x]=>rfl
  | x::y::r=>
    have:¬(x::y::r).toArray.size=1:=by simp
    rw[dif_neg this];rfl
theorem ZDF{res:List VT}{vs:List EV}{r:Xf res}(h:Xf.un res vs=some r):ZGk res r=ZNq (vs.map EV.v):=by unfold ZGk;rw[ZwN,ZhF h]
theorem ZvC{c:Cfg}(E:c.OK)(g:c.P.follows .mixedOrders=true){f:FuncId}{fn:Func}{s:Ann}{args:List EV}{res:List VT}{K:Xf res->Zf->Prop}{m:Value->Zf->Prop}{w:World}
    (F:c.P.funcs[f]?=some fn) (G:c.n=fn.ntmps) (hlen:args.length<=fn.ntmps) (d:ZE9 c fn s args res K m w.heap):
    Calls c.P f (args.map EV.v).toArray w (Zka res w K m):=by
  unfold ZE9 at d;split at d
  ·rename_i code p;refine Zi0 (r:=none) (n:=0).1 (callsIn_of_wp_marks F p trivial ?_)
   have y:Agr c.n (Zn3 args) {tmps:=(args.map EV.v).toArray++Array.replicate (fn.ntmps- (args.map EV.v).toArray.size) undef,defers:=[]}:=by
     refine⟨by simp[G];omega,rfl,λj v H=>?_⟩;obtain⟨k,d,hv⟩:=Zpw args 0 j v H
     have u:k<args.length:=by
       rcases Aqd k args.length with h|h
       ·exact h
       ·rw[Aqt h]at hv;cases hv
     simp only[Awb]at d;subst d;simp[u,Array.getElem?_append];have C:=Axy u;rw[hv]at C;exact congrArg EV.v (Option.some.inj C.symm)
   refine wpIn_mono (ZcC code _ (E.at none (bif ZEj code then λ_ _=>False else m)) g s _ _ w _ y d) ?_
   have i:∀(a':Act) (w1:World) (b:Env),Agr c.n b a'->Same w w1->(ZyW c b w1.heap fn.results.toList λvs=>match Xf.un res vs with
       |some r=>K r w1.heap
       |none=>False)->∃v,(results fn a'.tmps).run c.P w1= .ok v w1/\Zka res w K m (.returned v) w1:=by
     intro a' w1 b h1 e a
     obtain ⟨vs,I,d⟩:=Zm9 (f:=λ
       | .tmp t=>pure (a'.tmps.getD t undef)
       | .cell x t=>do loadVar t (<-asAddr (a'.tmps.getD x undef))) h1 (λ_=>rfl) (λ_ _=>rfl) a
     split at d
     ·rename_i r z;refine⟨ZGk res r,?_,.inl ⟨r,rfl,e,d⟩⟩;unfold results;rw[Axa];simp only[Awk,Sem.run_map];have A:=I;refine(congrArg (λr=>(Result.andThen (Result.andThen r _) _)) A).trans ?_;simp only[Awl,Awp];rw[ZDF z];exact congrArg (λv=>Result.ok v w1) (ZwP _)
     ·exact d.elim
   have fin:∀(a':Act) (w':World) (b:Env),Agr c.n b a'->Same w w'->(match b.mD with
       | .no=>ZyW c b w'.heap fn.results.toList λvs=>match Xf.un res vs with
         |some r=>K r w'.heap
         |none=>False
       | .at_ D=>ZkV D w'.heap λh'=>ZyW c b h' fn.results.toList λvs=>match Xf.un res vs with
         |some r=>K r h'
         |none=>False
       | .raw _=>False)->LeavesInM (fen none) 0 c.P fn a'.tmps (Zka res w K m) a'.defers .returning w':=by
     intro a' w' b h1 e a;rw[h1.defers]
     cases hm:b.mD with
     |raw M=>rw[hm]at a;exact a.elim
     | no=>
       rw[hm]at a;exact i a' w' b h1 e a
     | at_ D=>
       rw[hm]at a;obtain⟨J,a⟩:=a;refine⟨by simp,.inl ⟨D,_,rfl,run_takeDeferred J,?_⟩⟩;exact i a' (w'.putObj D (.deferred none)) b h1 (e.trans ⟨rfl,rfl,rfl⟩) a
   intro ex a' w' q
   cases ex with
   |normal=>obtain⟨b,h1,e,h3,a⟩:=q;exact fin a' w' b h1 e a
   |ret=>obtain⟨b,h1,e,h3,a⟩:=q;exact fin a' w' b h1 e a
   |exit id=>obtain⟨b,h1,e,h3,a⟩:=q;exact a.elim
   |goto t=>exact q.elim
   |outgrown=>exact q.elim
   | panic ch =>
     obtain⟨v,rfl,e,h3,a⟩:=q
     cases o:ZEj code with
     |true=>rw[o]at a;exact a.elim
     | false =>
       rw[o]at a
       have B:mkN∉Zf5 code:=by
         have key:∀(l:List Nat),Zdg l mkN=false->mkN∉l:=by
           intro l
           induction l with
           |nil=>intro _ h;cases h
           | cons x xs L=>
             intro h hm;simp only[Zdg]at h
             cases p:Nat.beq mkN x with
             |true=>rw[p]at h;cases h
             | false=>
               rw[p]at h
               rcases Awr.1 hm with he|hm
               ·rw[<-he,Axv]at p;cases p
               ·exact L h hm
         exact key _ o
       rw[show bodyPostM (fen none) 0 c.P fn (Zka res w K m) (.panic [{v,recovered:=false}]) a' w'=LeavesInM (fen none) 0 c.P fn a'.tmps (Zka res w K m) a'.defers (.panicking [{v,recovered:=false}]) w' from rfl,h3.2 B];exact .inr ⟨v,rfl,e,a⟩
  ·exact d.elim
inductive AllOK(P:Program):List (FuncId×Zh)->Prop
  |nil:AllOK P []
  |cons {f:FuncId} {s:Zh} {l:List (FuncId×Zh)} (h:ZG P f s) (r:AllOK P l):AllOK P ((f,s)::l)
theorem Zpx{P:Program}:∀{l:List (FuncId×Zh)},AllOK P l->∀x,x∈l->ZG P x.1 x.2
  |[],_,x,h=>by cases h
  | _::_,.cons h0 a,x,h=>by
    cases h with
    |head=>exact h0
    |tail _ h=>exact Zpx a x h
inductive AllExt(P:Program):List FuncId->Prop
  |nil:AllExt P []
  |cons {f:FuncId} {l:List FuncId} (h:ZyM P f) (r:AllExt P l):AllExt P (f::l)
theorem Zpy{P:Program}:∀{l:List FuncId},AllExt P l->∀f,f∈l->ZyM P f
  |[],_,x,h=>by cases h
  | _::_,.cons h0 a,x,h=>by
    cases h with
    |head=>exact h0
    |tail _ h=>exact Zpy a x h
inductive AllDyn(P:Program):List (String×TypeId×FuncId)->Prop
  |nil:AllDyn P []
  |cons {n:String} {t:TypeId} {f:FuncId} {l:List (String×TypeId×FuncId)} (h:Zuz P n t f) (r:AllDyn P l):AllDyn P ((n,t,f)::l)
theorem Zpz{P:Program}:∀{l:List (String×TypeId×FuncId)},AllDyn P l->∀x,x∈l->Zuz P x.1 x.2.1 x.2.2
  |[],_,x,h=>by cases h
  | _::_,.cons h0 a,x,h=>by
    cases h with
    |head=>exact h0
    |tail _ h=>exact Zpz a x h
inductive AllIter(P:Program):List (FuncId×ZcB)->Prop
  |nil:AllIter P []
  |cons {f:FuncId} {s:ZcB} {l:List (FuncId×ZcB)} (h:Zr7 P f s) (r:AllIter P l):AllIter P ((f,s)::l)
theorem Zn5{P:Program}:∀{l:List (FuncId×ZcB)},AllIter P l->∀x,x∈l->Zr7 P x.1 x.2
  |[],_,x,h=>by cases h
  | _::_,.cons h0 a,x,h=>by
    cases h with
    |head=>exact h0
    |tail _ h=>exact Zn5 a x h
inductive AllAdd(P:Program):List FuncId->Prop
  |nil:AllAdd P []
  |cons {f:FuncId} {l:List FuncId} (h:ZyO P f) (r:AllAdd P l):AllAdd P (f::l)
theorem ZpA{P:Program}:∀{l:List FuncId},AllAdd P l->∀f,f∈l->ZyO P f
  |[],_,x,h=>by cases h
  | _::_,.cons h0 a,x,h=>by
    cases h with
    |head=>exact h0
    |tail _ h=>exact ZpA a x h
theorem ZhA(c:Cfg)(h:AllOK c.P c.calls)(h':AllExt c.P c.ext)(h'':AllDyn c.P c.dyn)(h3:AllIter c.P c.iters)(a:YOK c.P c.yld)(b:AllAdd c.P c.adds:=by exact AllAdd.nil):c.OK:=⟨Zpx h,Zpy h',Zpz h'',Zn5 h3,a,ZpA b⟩
theorem Zyb {P:Program} {f:FuncId} {fn:Func} (c:P.funcs[f]?=some fn) (a:(fn.name== "runtime.NumGoroutine")=false) (d:fn.body.isNone=true) (g:Extern.findNext fn=none)
    (he:Extern.find fn=some Extern.MapsClone.clone):ZyM P f:=by
  intro t b es cl w hw;refine⟨{w with heap:=w.heap.push (.map es cl)},?_,⟨rfl,rfl,rfl⟩,rfl⟩;rw[run_callFunc_extern c a d g he]
  have e:Extern.MapsClone.clone #[.iface t (.map (some b))]=(getObj b >>=λo=>match o with
      | .map entries clock=>(newObj (.map entries clock) >>=λn=>pure (.iface t (.map (some n))))
      |_=>stuck "maps.clone: a map expected"):=rfl
  rw[e];simp only[Awk,MapKept.run_getObj_map hw,Awl];rfl
theorem ZEx {P:Program} {f:FuncId} {fn:Func} (d:P.funcs[f]?=some fn) (a:(fn.name== "runtime.NumGoroutine")=false) (g:fn.body.isNone=true) (h:Extern.findNext fn=none)
    (he:Extern.find fn=some λargs=>(do let(x,y,c) <-Extern.MathBitsCarry.three "Add64" args;pure (Extern.MathBitsCarry.pair ((x+y+c) % Extern.MathBitsCarry.m64) ((x+y+c) / Extern.MathBitsCarry.m64)))):ZyO P f:=by
  intro x y z w hz;rw[run_callFunc_extern d a g h he]
  have e:Extern.MathBitsCarry.three "Add64" #[.int .u64 x,.int .u64 y,.int .u64 z]=(do
      let c:=(<-asInt (.int .u64 z)).toNat
      if c>1 then unsupported (.noEntry ("extern/math/bits." ++ "Add64" ++ ": a carry that is neither 0 nor 1"))
      pure ((<-asInt (.int .u64 x)).toNat,(<-asInt (.int .u64 y)).toNat,c)):=rfl
  have b:∀n:Int,(asInt (.int .u64 n)).run P w= .ok n w:=λ_=>rfl;simp only[e,Awk,b,Awl,if_neg (Nat.not_lt.2 hz)];simp only[Awk,b,Awl,Awp];rfl
theorem ZDO {c:Cfg} {f:FuncId} {fn:Func} {e:Ann} {s:Zh} (i:c.P.funcs[f]?=some fn) (b:(fn.name== "runtime.NumGoroutine")=false) (d:fn.body.isNone=false)
    (j:c.n=fn.ntmps) (hlen:s.args.length<=fn.ntmps) (k:c.OK) (a:c.P.follows .mixedOrders=true)
    (l:∀(t:Xf s.args) (K:Xf s.res->Zf->Prop) (g:Value->Zf->Prop) (h:Zf),ZE9 c fn e (Xf.evs s.args t) s.res K g h=s.sem t K g h):ZG c.P f s where
  named:=⟨fn,i,b,d⟩
  calls t K g w m:=by
    have hl:(Xf.evs s.args t).length<=fn.ntmps:=by
      have:∀(vs:List VT) (x:Xf vs),(Xf.evs vs x).length=vs.length:=by
        intro vs
        induction vs with
        |nil=>intro x;rfl
        |cons v vs o=>intro x;simp only[Xf.evs,Aqj,o]
      rw[this];exact hlen
    exact ZvC k a i j hl (by rw[l];exact m)
def ZT(c:Cfg)(fn:Func)(a:Ann)(s:Zh):Prop:=∀(t:Xf s.args) (K:Xf s.res->Zf->Prop) (b:Value->Zf->Prop) (h:Zf),ZE9 c fn a (Xf.evs s.args t) s.res K b h=s.sem t K b h
theorem okF{c:Cfg}{f:FuncId}{fn:Func}{d:Ann}{s:Zh}(e:ZT c fn d s)(g:c.P.funcs[f]?=some fn)(hm:c.P.follows .mixedOrders=true)(h:c.OK)
    (a:(fn.name== "runtime.NumGoroutine")=false:=by kernel_rfl) (b:fn.body.isNone=false:=by kernel_rfl) (i:c.n=fn.ntmps:=by rfl) (hlen:s.args.length<=fn.ntmps:=by decide):ZG c.P f s:=
  ZDO g a b i hlen h hm e
theorem ZAC{P:Program}{f:FuncId}{A R:List VT}{M:Xf A->(Xf R->Zf->Prop)->(Value->Zf->Prop)->Zf->Prop}(h:ZG P f ⟨A,R,M⟩):ZG P f ⟨A,R,λt K _ h=>M t K (λ_ _=>False) h⟩ where
  named:=h.named
  calls t K d w b:=(h.calls t K _ w b).mono λe w' a=>by
    rcases a with a|⟨v,_,_,c⟩
    ·exact .inl a
    ·exact c.elim
end Go.Fw
namespace Go.Proofs.YtonbfpnngkemiaaGreat
open Go Go.Fw
open Go.RowKit Go.Maps Go.Sort Go.Shelf
end Go.Proofs.YtonbfpnngkemiaaGreat
