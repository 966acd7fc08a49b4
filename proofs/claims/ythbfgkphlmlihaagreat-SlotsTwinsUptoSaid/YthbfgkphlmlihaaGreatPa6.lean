/- Why a reading is right: regions. -/
import Derived.Sort.LoopGhostIn
import Derived.KernelRfl
import Derived.Laws.Externs
import GoSem.Extern.MapsClone
import GoSem.Extern.MathBitsCarry
import Derived.Test.YthbfgkphlmlihaaGreatPa5
set_option linter.unusedVariables false
set_option linter.unusedSimpArgs false
namespace Go.Fw
open Go
structure XP (D:List Nat) (a a':Act):Prop where
  tmps:∀ j,j∉D->a'.tmps[j]?=a.tmps[j]?
  marks:mkN∉D->a'.defers=a.defers
theorem XP.refl (D:List Nat) (a:Act):XP D a a:=⟨fun _ _=>rfl,fun _=>rfl⟩
theorem XP.trans {D:List Nat} {a b d:Act} (h:XP D a b) (h':XP D b d):XP D a d:=⟨fun j c=>(h'.1 j c).trans (h.1 j c),fun c=>(h'.2 c).trans (h.2 c)⟩
theorem XP.mono {D e:List Nat} {a b:Act} (h:XP D a b) (hs:∀ j,j∈D->j∈e):XP e a b:=⟨fun j d=>h.1 j fun c=>d (hs j c),fun d=>h.2 fun c=>d (hs _ c)⟩
theorem put_defers (a:Act) (d:Option Tmp) (v:Value):(a.put d v).defers=a.defers:=by cases d<;>rfl
theorem XP.put {D:List Nat} {a:Act} {d:Option Tmp} {v:Value} (h:∀ x,d=some x->x∈D):XP D a (a.put d v):=by
  refine ⟨?_,fun _=>put_defers a d v⟩;intro j c
  cases d with
  | none=>rfl
  | some x =>
    have b:x≠j:=fun he=>c (he▸h x rfl);simp [Act.put,Awj b]
theorem ZoP {ops:Array Oper} {a:Act} {j t:Nat} (h:Xr ops.toList j=some t):yielded ops a.tmps j=match a.tmps[t]? with | some (.bool b)=>some b | _=>none:=by
  unfold Xr at h;unfold yielded;rw [show ops.toList[j]?=ops[j]? from by simp] at h;rw [h];rfl
theorem Zmm {ops:Array Oper} {a:Act} {j:Nat} (h:Xr ops.toList j=none):yielded ops a.tmps j=none:=by
  unfold Xr at h;unfold yielded;rw [show ops.toList[j]?=ops[j]? from by simp] at h;rw [h];rfl
inductive Step (c:Cfg) (one:Oper->Env->Zf->(Env->Zf->Prop)->Prop) (ops:Array Oper) (o:Oper) (a:Act) (h:Zf) (K:Env->Zf->Prop):Prop
  | does (e:Env) (ha:Agr c.n e a) (hw:Region.wanted o (yielded ops a.tmps)=true) (hk:one o e h K)
  | skips (e:Env) (ha:Agr c.n e a) (hw:Region.wanted o (yielded ops a.tmps)=false) (hk:Zo0 c o e h K)
theorem Znk {c:Cfg} {one:Oper->Env->Zf->(Env->Zf->Prop)->Prop} {ops:Array Oper} {o:Oper} {os:List Oper} {e:Env} {a:Act} {h:Zf} {K:Env->Zf->Prop}
    (d:Agr c.n e a) (f:Zgw c one ops.toList (o::os) e h K):Step c one ops o a h (fun r h'=>Zgw c one ops.toList os r h' K):=by
  unfold Zgw at f;split at f
  ·rename_i g
   exact .does e d (by simp [Region.wanted,g]) f
  ·rename_i j want g
   split at f
   ·rename_i hs
    exact .skips e d (by simp [Region.wanted,g,Zmm hs]) f
   ·rename_i t hs
    have i:=ZoP (a:=a) hs;split at f
    ·rename_i b m
     have l:a.tmps[t]?=some (.bool b):=d.val t _ m;rw [l] at i;split at f
     ·exact .does e d (by simp [Region.wanted,g,i]) f
     ·exact .does e d (by simp [Region.wanted,g,i]) f
     ·exact .skips e d (by simp [Region.wanted,g,i]) f
     ·exact .skips e d (by simp [Region.wanted,g,i]) f
    ·rename_i b m
     have l:a.tmps[t]?=some (.bool b):=d.val t _ m;rw [l] at i;split at f
     ·cases b with
      | true=>exact .does _ (d.tell m) (by simp [Region.wanted,g,i]) (f.1 rfl)
      | false=>exact .skips _ (d.tell m) (by simp [Region.wanted,g,i]) (f.2 rfl)
     ·cases b with
      | true=>exact .skips _ (d.tell m) (by simp [Region.wanted,g,i]) (f.1 rfl)
      | false=>exact .does _ (d.tell m) (by simp [Region.wanted,g,i]) (f.2 rfl)
    ·rename_i v p q m
     have l:a.tmps[t]?=some v.v:=d.val t _ m;refine .skips e d ?_ f
     have:yielded ops a.tmps j=none:=by
       rw [i,l]
       cases v with
       | val u=>cases u<;>first | rfl | exact absurd rfl (q _)
       | lit b=>exact absurd rfl (p b)
       | adr b o=>rfl
       | itr t b=>rfl
       | more k v=>rfl
       | over=>rfl
     simp [Region.wanted,g,this]
    ·exact f.elim
theorem ZgD {ops:Array Oper} {k:Nat} {o:Oper} {x:Nat} (ho:ops[k]?=some o) (a:o.dst=some x):x∈ops.toList.filterMap (·.dst):=by
  refine List.mem_filterMap.2 ⟨o,?_,a⟩;exact Axo (i:=k) (by simpa using ho)
theorem Znj {c:Cfg} (u:c.OK) {ops:Array Oper} {Q:Exit->Act->World->Prop}:∀ (l:List Oper) (k:Nat),(∀ j,l[j]?=ops[k+j]?) ->
    ∀ {e:Env} {a:Act} {w:World} {K:Env->Zf->Prop},Agr c.n e a->Zgw c (ZGG c) ops.toList l e w.heap K ->
    (∀ s a' w',Agr c.n s a'->Same w w'->XP (ops.toList.filterMap (·.dst)) a a'->K s w'.heap->Q .normal a' w') ->
    (∀ v a' w',Same w w'->XP (ops.toList.filterMap (·.dst)) a a'->c.pan v w'.heap->Q (.panic [{ v,recovered:=false }]) a' w')->wpOpsIn (fen c.rnd) 0 c.P ops Q (List.range' k l.length) a w
  | [],k,hl,e,a,w,K,b,h,t,_=>t e a w b (Same.refl w) (XP.refl _ a) h
  | o::os,k,hl,e,a,w,K,b,h,t,y=>by
    have ho:ops[k]?=some o:=by have:=hl 0;simpa using this.symm
    have r:∀ j,os[j]?=ops[k+1+j]?:=fun j=>by have:=hl (j+1);rw [show k+1+j=k+(j+1) from by omega,<- this];rfl
    have g:∀ v,XP (ops.toList.filterMap (·.dst)) a (a.put o.dst v):=fun v=>XP.put fun x z=>ZgD ho z;simp only [Aqj,List.range'_succ,wpOpsIn,ho]
    cases Znk b h with
    | does e b hw h =>
      rw [if_pos hw];refine ZGD u b (fun v w' hs A=>y v a w' hs (XP.refl _ a) A) h fun v w' hs h=>?_;obtain ⟨s,i,h⟩:=ZdS b h
      exact Znj u os (k+1) r i h (fun m d f h1 p h3 q=>t m d f h1 (hs.trans p) ((g _).trans h3) q)
        (fun v d f p h3 q=>y v d f (hs.trans p) ((g _).trans h3) q)
    | skips e b hw h =>
      rw [if_neg (by simp [hw])];obtain ⟨s,i,h⟩:=ZdS b h
      exact ⟨fun _ _=>trivial,Znj u os (k+1) r i h (fun m d f h1 p h3 q=>t m d f h1 p ((g _).trans h3) q)
        (fun v d f p h3 q=>y v d f p ((g _).trans h3) q)⟩
def Cls (w0:World) (h:Zf) (w:World):Prop:=Same w0 w/\w.heap=h
theorem Zvm {c:Cfg} {o:Oper} {a:Act} {w0:World} {h:Zf} {v:EV} (b:∀ w:World,w.heap=h->(execOp a.eval o).run c.P w = .ok (.value v.v) w) :
    ∀ w,Cls w0 h w->o.quietAtIn (fen none) 0 c.P a (Cls w0 h) w v.v:=by
  intro w hw;unfold Oper.quietAtIn;rw [b w hw.2];exact ⟨rfl,rfl⟩
theorem XX {c:Cfg} {o:Oper} {a:Act} {w0:World} {h:Zf} {K:EV->Zf->Prop} {next:Act->Prop} (b:Ztw c o a h K) (d:∀ v,K v h->next (a.put o.dst v.v)) :
    o.quietIn (fen none) 0 c.P a (Cls w0 h) next :=
  let ⟨v,e,f⟩:=b
  ⟨v.v,Zvm e,d v f⟩
theorem Zrr {c:Cfg} (D:c.OK) {e:Env} {a:Act} {w0:World} {h:Zf} {o:Oper} {K:EV->Zf->Prop} {next:Act->Prop} (b:Agr c.n e a) (g:ZtZ c o.op e h K)
    (i:∀ v,K v h->next (a.put o.dst v.v)):o.quietIn (fen none) 0 c.P a (Cls w0 h) next:=by
  obtain ⟨dst,op,type,pos,after,guard⟩:=o;cases op
  case move=>exact XX (Zp4 b g).q i
  case assign=>exact XX (ZlK b g).q i
  case pick=>exact XX (Zp3 b g).q i
  case load=>exact XX (Zp6 b g) i
  case nilCheck=>exact XX (Zjj b g).q i
  case binOp=>exact XX (Zm6 b g).q i
  case unOp=>exact XX (Zp2 b g).q i
  case slice=>exact XX (Zm2 b g).q i
  case fieldAddr=>exact XX (Zil b g).q i
  case field=>exact XX (Zm4 b g).q i
  case indexAddr=>exact XX (Zik b g).q i
  case index=>exact XX (Zm3 b g).q i
  case extract=>exact XX (Zkz b g).q i
  case build=>exact XX (Zm5 b g).q i
  case makeFunc=>exact XX (Zjk b g).q i
  case convert s d x =>
    simp only [ZtZ] at g;split at g
    ·rename_i j k hs hd
     exact XX (Zjl b hs hd g).q i
    ·exact g.elim
  case call cl =>
    unfold ZtZ at g
    split at g<;>first
      | exact g.elim
      | (rename_i ho;cases ho)
    ·exact XX (ZwJ b g) i
    ·exact XX (YG b (.inr (.inl rfl)) g).q i
    ·exact XX (YG b (.inr (.inr (.inl rfl))) g).q i
    ·exact XX (YG b (.inr (.inr (.inr rfl))) g).q i
    ·rename_i f args ts
     split at g
     ·rename_i es he
      split at g
      ·rename_i s t E
       obtain ⟨p,B⟩:=Zjw E;dsimp only at p B;obtain ⟨r,hm,g⟩:=g;refine ⟨(ZgV (Xl.evs s.res r)).v,fun w hw=>?_,i _ g⟩;have u:=ZdE b he;obtain ⟨⟨fn,F,y,z⟩,A⟩:=D.calls _ p
       have m:(execOp a.eval ⟨dst,.call ⟨.value (.func f),args,ts⟩,type,pos,after,guard⟩).run c.P w = .ok (.enter f (args.map a.eval)) w:=by
         simp only [execOp,resolve,Act.eval,Deferred.ofValue,Awk,Awp,Awl,invoke,callFunc,run_program,F,y,Aqc,if_false,z];simp
       unfold Oper.quietAtIn;rw [m];refine ⟨rfl,fun h=>(by cases h),Zi5.2 ?_⟩;rw [u,<- ZhK B];refine (A t (fun C h'=>C=r/\h'=h) (fun _ _=>False) w (by rw [hw.2];exact hm)).mono ?_;rintro ending w' (⟨C,rfl,l,rfl,G⟩ | ⟨v,rfl,l,g⟩)
       ·exact ⟨rfl,hw.1.trans l,G⟩
       ·exact g.elim
      ·exact g.elim
     ·exact g.elim
  all_goals exact g.elim
theorem Zqn {c:Cfg} (s:c.OK) {ops:Array Oper} {w0:World} {Q:Act->Prop} {h:Zf}:∀ (l:List Oper) (k:Nat),(∀ j,l[j]?=ops[k+j]?) ->
    ∀ {e:Env} {a:Act} {K:Env->Zf->Prop},Agr c.n e a->Zgw c (Zxf c) ops.toList l e h K ->
    (∀ q a',Agr c.n q a'->XP (ops.toList.filterMap (·.dst)) a a'->K q h->Q a')->wpQuietIn (fen none) 0 c.P ops (Cls w0 h) Q l a
  | [],k,hl,e,a,K,b,d,r=>r e a b (XP.refl _ a) d
  | o::os,k,hl,e,a,K,b,d,r=>by
    have ho:ops[k]?=some o:=by have:=hl 0;simpa using this.symm
    have p:∀ j,os[j]?=ops[k+1+j]?:=fun j=>by have:=hl (j+1);rw [show k+1+j=k+(j+1) from by omega,<- this];rfl
    have g:∀ v,XP (ops.toList.filterMap (·.dst)) a (a.put o.dst v):=fun v=>XP.put fun x u=>ZgD ho u;unfold wpQuietIn;refine ⟨fun _ _ _ _=>trivial,?_⟩
    cases Znk b d with
    | does e b hw d =>
      rw [if_pos hw];refine Zrr s b d fun v d=>?_;obtain ⟨q,f,d⟩:=ZdS b d;exact Zqn s os (k+1) p f d fun i m h1 h3 t=>r i m h1 ((g _).trans h3) t
    | skips e b hw d =>
      rw [if_neg (by simp [hw])];obtain ⟨q,f,d⟩:=ZdS b d;exact Zqn s os (k+1) p f d fun i m h1 h3 t=>r i m h1 ((g _).trans h3) t
def Zgd (c:Cfg) (D:List Nat) (a:Act) (w:World) (Q:Ex->Env->Zf->Prop):Exit->Act->World->Prop
  | .normal,a',w'=>∃ b,Agr c.n b a'/\Same w w'/\XP D a a'/\Q .normal b w'.heap
  | .exit id,a',w'=>∃ b,Agr c.n b a'/\Same w w'/\XP D a a'/\Q (.exit id) b w'.heap
  | .ret,a',w'=>∃ b,Agr c.n b a'/\Same w w'/\XP D a a'/\Q .ret b w'.heap
  | .panic chain,a',w'=>∃ v,chain=[{ v,recovered:=false }]/\Same w w'/\XP D a a'/\c.pan v w'.heap
  | _,_,_=>False
theorem Zgd.mono {c:Cfg} {D b:List Nat} {a g:Act} {w w1:World} {Q i:Ex->Env->Zf->Prop} (hs:Same w w1) (k:XP b a g) (hd:∀ j,j∈D->j∈b) (l:∀ x e h,Q x e h->i x e h) :
    ∀ x a' w',Zgd c D g w1 Q x a' w'->Zgd c b a w i x a' w':=by
  intro x a' w' h
  cases x<;>first
    | exact h.elim
    | (obtain ⟨m,h1,d,h3,f⟩:=h
       exact ⟨m,h1,hs.trans d,k.trans (h3.mono hd),l _ _ _ f⟩)
    | (obtain ⟨v,h1,d,h3,f⟩:=h
       exact ⟨v,h1,hs.trans d,k.trans (h3.mono hd),f⟩)
theorem Znq {c:Cfg} {D:List Nat} {a:Act} {w:World} {Q:Ex->Env->Zf->Prop} {ch:List PanicEntry} {a':Act} {d:Option Tmp} {v:Value} {w':World} (hd:∀ x,d=some x->x∈D) (h:Zgd c D a w Q (.panic ch) (a'.put d v) w'):Zgd c D a w Q (.panic ch) a' w':=by
  obtain ⟨f,h1,g,h3,i⟩:=h;have e:XP D a' (a'.put d v):=XP.put hd;exact ⟨f,h1,g,⟨fun j b=>(e.1 j b).symm.trans (h3.1 j b),fun b=>(e.2 b).symm.trans (h3.2 b)⟩,i⟩
theorem ZiD {c:Cfg} {ops:Array Oper} {o:Oper} {e:Env} {a:Act} {A B:Env->Prop} (d:Agr c.n e a) (f:ZnV ops.toList o e A B) :
    (∃ m,Agr c.n m a/\Region.wanted o (yielded ops a.tmps)=true/\A m)\/(∃ m,Agr c.n m a/\Region.wanted o (yielded ops a.tmps)=false/\B m):=by
  unfold ZnV at f;split at f
  ·rename_i g
   exact .inl ⟨e,d,by simp [Region.wanted,g],f⟩
  ·rename_i j want g
   split at f
   ·rename_i hs
    exact .inr ⟨e,d,by simp [Region.wanted,g,Zmm hs],f⟩
   ·rename_i t hs
    have h:=ZoP (a:=a) hs;split at f
    ·rename_i b l
     have i:a.tmps[t]?=some (.bool b):=d.val t _ l;rw [i] at h;split at f
     ·exact .inl ⟨e,d,by simp [Region.wanted,g,h],f⟩
     ·exact .inl ⟨e,d,by simp [Region.wanted,g,h],f⟩
     ·exact .inr ⟨e,d,by simp [Region.wanted,g,h],f⟩
     ·exact .inr ⟨e,d,by simp [Region.wanted,g,h],f⟩
    ·rename_i b l
     have i:a.tmps[t]?=some (.bool b):=d.val t _ l;rw [i] at h;split at f
     ·cases b with
      | true=>exact .inl ⟨_,d.tell l,by simp [Region.wanted,g,h],f.1 rfl⟩
      | false=>exact .inr ⟨_,d.tell l,by simp [Region.wanted,g,h],f.2 rfl⟩
     ·cases b with
      | true=>exact .inr ⟨_,d.tell l,by simp [Region.wanted,g,h],f.1 rfl⟩
      | false=>exact .inl ⟨_,d.tell l,by simp [Region.wanted,g,h],f.2 rfl⟩
    ·rename_i v p q l
     have i:a.tmps[t]?=some v.v:=d.val t _ l;refine .inr ⟨e,d,?_,f⟩
     have:yielded ops a.tmps j=none:=by
       rw [h,i]
       cases v with
       | val u=>cases u<;>first | rfl | exact absurd rfl (q _)
       | lit b=>exact absurd rfl (p b)
       | adr b o=>rfl
       | itr t b=>rfl
       | more k v=>rfl
       | over=>rfl
     simp [Region.wanted,g,this]
    ·exact f.elim
theorem ZAz {c:Cfg} {e:Env} {a:Act} {h:Zf} {o:Oper} {K:EV->Zf->Prop} (f:Agr c.n e a) (g:Zgz c o.op = .pure) (i:opP c o.op e h K):Zfj c o a h K:=by
  obtain ⟨dst,op,type,pos,after,guard⟩:=o;cases op
  case move=>exact Zp4 f i
  case assign=>exact ZlK f i
  case pick=>exact Zp3 f i
  case nilCheck=>exact Zjj f i
  case binOp=>exact Zm6 f i
  case unOp=>exact Zp2 f i
  case slice=>exact Zm2 f i
  case fieldAddr=>exact Zil f i
  case field=>exact Zm4 f i
  case indexAddr=>exact Zik f i
  case index=>exact Zm3 f i
  case extract=>exact Zkz f i
  case build=>exact Zm5 f i
  case makeFunc=>exact Zjk f i
  case convert s d x =>
    simp only [Zgz] at g;split at g
    ·rename_i j k hs hd
     exact Zjl f hs hd i
    ·split at g<;>cases g
    ·cases g
  case call cl =>
    obtain ⟨l,args,ts⟩:=cl
    cases l with
    | builtin b =>
      cases b<;>first
        | (simp only [Zgz] at g;done)
        | (cases hm:Zks c.P ts with
            | true=>simp [Zgz,hm] at g
            | false=>exact YG f (.inl ⟨rfl,hm⟩) i)
        | exact YG f (.inr (.inl rfl)) i
        | exact YG f (.inr (.inr (.inl rfl))) i
        | exact YG f (.inr (.inr (.inr rfl))) i
        | (simp [Zgz] at g)
    | _=>simp [Zgz] at g
  all_goals simp [Zgz] at g
theorem Zxx {c:Cfg} {op:Op} {t:TypeId} {x:Operand} (h:Zgz c op = .load t x):op = .load t x:=by
  cases op<;>simp [Zgz] at h
  case load=>rw [h.1,h.2]
  case convert=>repeat' (first | (cases h;done) | split at h)
  case call cl =>
    obtain ⟨a,args,ts⟩:=cl
    cases a with
    | builtin b=>cases b<;>simp at h<;>(cases hm:Zks c.P ts<;>simp [hm] at h)
    | _=>simp at h
def Zpq (h:Zf) (l:List (Nat × Nat × Value)):Prop:=∀ q,q∈l->h.cell q.1 q.2.1=some q.2.2
theorem ZnU {h:Zf} {b o:Nat}:∀ {vs:List Value} {i:Nat},Zpq h (Zr3 b o i vs)↔h.has b (o+i) vs
  | [],i=>⟨fun _=>trivial,fun _ q c=>(by simp [Zr3] at c)⟩
  | v::vs,i=>by
    have a:=ZnU (h:=h) (b:=b) (o:=o) (vs:=vs) (i:=i+1);unfold Zpq at a ⊢;simp only [Zr3,Axq,Zts,a];rfl
theorem ZAP {P:Program} {t:TypeId} {b o:Nat} {K:EV->List (Nat × Nat × Value)->Prop} {h:Zf} (a:ldH P t h b o K) :
    ∃ v cells,Zpq h cells/\(∀ w:World,Zpq w.heap cells->(loadVar t ⟨b,o,none⟩).run P w = .ok v.v w)/\K v cells:=by
  unfold ldH at a
  cases hu:P.underlying t with
  | none=>rw [hu] at a;simp [Zb6,ZnK] at a
  | some d =>
    obtain ⟨i,hi⟩:=Za7 P hu;rw [hu] at a;unfold loadVar
    cases c:Zb6 (some d) with
    | true =>
      rw [c] at a;simp only [cond_true] at a
      cases hl:Nat.beq (ZgM P 8 t).length (P.cellsOf t) with
      | false=>rw [hl] at a;exact a.elim
      | true =>
        rw [hl] at a;obtain ⟨vs,hlen,f,a⟩:=Zl5 a;have hs:i.size=vs.length:=by rw [hlen,Awg hl,Zcd P hi]
        refine ⟨.val (.agg vs.toArray),_,ZnU.2 f,fun w hw=>?_,a⟩;have hw:=ZnU.1 hw;simp only [Awk,ZfX P w t hu,c,Awl,if_true,Xm P w t hi,hs];rw [Zex P w b o vs (by simpa using hw)];rfl
    | false =>
      rw [c] at a;simp only [cond_false] at a;obtain ⟨v,g,a,_⟩:=ZkK a;refine ⟨v,_,?_,fun w hw=>?_,a⟩
      ·intro q e
       simp only [Axs] at e;subst e;exact g
      have hw:Zf.cell w.heap b o=some v.v:=hw _ (.head _);simp only [Awk,ZfX P w t hu,c,Awl,Aqc,if_false];exact Zir P w hw _
theorem ZwT {c:Cfg} {op:Op} {x:Operand} (h:Zgz c op = .text x):∃ s d e,op = .convert s d x/\c.P.underlying s=some (.slice e)/\c.P.underlying d=some .string/\c.P.underlying e=some (.int .u8):=by
  cases op<;>simp [Zgz] at h
  case convert s d y =>
    split at h
    ·cases h
    ·rename_i e hs hd
     split at h
     ·rename_i he
      cases h;exact ⟨s,d,e,rfl,hs,hd,he⟩
     ·cases h
    ·cases h
  case call cl =>
    obtain ⟨a,args,ts⟩:=cl
    cases a with
    | builtin b=>cases b<;>simp at h<;>(cases hm:Zks c.P ts<;>simp [hm] at h)
    | _=>simp at h
theorem Zl7 {h:Zf}:∀ {l:List (Nat × Nat × Value)},Zo h l↔Zpq h l
  | []=>⟨fun _ q c=>(by cases c),fun _=>trivial⟩
  | (b,o,v)::r=>by
    have a:=Zl7 (h:=h) (l:=r);unfold Zpq at a ⊢;simp only [Zo,Axq,a]
def Zet (hd:Zhp):ZlE:=hd.map fun x=>(x.1,fun w=>x.2 w.heap)
theorem Zka {w:World} {K:Prop}:∀ {hd:Zhp},ZrI w.heap hd K->(Zet hd).all w/\K
  | [],a=>⟨fun q b=>(by cases b),a⟩
  | x::r,a=>by
    obtain ⟨h1,a⟩:=a;obtain ⟨c,a⟩:=Zka (hd:=r) a;refine ⟨fun q b=>?_,a⟩
    rcases Awr.1 b with rfl | b
    ·exact h1
    ·exact c q b
def nxt (ops:Array Oper) (L:ZlE) (j:Nat):ZlE :=
  match ops[j]? with
  | some o=>L.filter fun p=> !ZgU p.1 o.after.toList
  | none=>L
theorem Zez (ops:Array Oper):Next ops (nxt ops) where
  mem L j p a:=by
    unfold nxt at a;split at a
    ·exact (Axt.1 a).1
    ·exact a
  keep L j p a hw:=by
    unfold nxt;split
    ·rename_i o ho
     refine Axt.2 ⟨a,?_⟩
     cases b:ZgU p.1 o.after.toList with
     | false=>rfl
     | true =>
       obtain ⟨e,he,h1,c⟩:=ZjZ.1 b;exact absurd ⟨o,ho,e,by simpa using he,h1,c⟩ hw
    ·exact a
  same L d j p a hl:=by
    unfold nxt at a ⊢;split at a
    ·rename_i o ho
     exact Axt.2 ⟨hl,(Axt.1 a).2⟩
    ·exact hl
theorem Zt4 {ops:Array Oper} {j:Nat} {o:Oper} (ho:ops[j]?=some o) (hd:Zhp):nxt ops (Zet hd) j=Zet (ZrV o hd):=by
  unfold nxt;rw [ho];simp only
  induction hd with
  | nil=>rfl
  | cons x r a =>
    have e:Zet (x::r)=(x.1,fun w:World=>x.2 w.heap)::Zet r:=rfl;rw [e,List.filter_cons];simp only [ZrV]
    cases b:ZgU x.1 o.after.toList with
    | true=>simp only [Bool.not_true,Aqc,if_false,cond_true];exact a
    | false=>simp only [Axj,if_true,cond_false];rw [a];rfl
theorem Zvq {ops:Array Oper} {m:Nat} {listed:Array Bool} (b:Rel ops m listed) (h:Zxs m 0 ops.toList=true):Region.ready .any ops listed=[]:=by
  have key:∀ (os:List Oper) (k:Nat),Zxs m k os=true->∀ j o,os[j]?=some o->Zcs m (k+j) o=false:=by
    intro os
    induction os with
    | nil=>intro k _ j o ho;simp at ho
    | cons x os c =>
      intro k h j o ho;simp only [Zxs] at h
      cases a:Zcs m k x with
      | true=>rw [a] at h;cases h
      | false =>
        rw [a] at h
        cases j with
        | zero=>simp at ho;subst ho;exact a
        | succ j =>
          have:=c (k+1) h j o (by simpa using ho);rw [show k+(j+1)=k+1+j from by omega];exact this
  apply List.eq_nil_iff_forall_not_mem.2;intro j d;obtain ⟨o,ho,e⟩:=b.ready.1 d;have:=key _ 0 h j o (by simpa using ho);rw [Awb,e] at this;cases this
section
variable {rn:Option Nat} {P:Program} {ops:Array Oper} {Q:Exit->Act->World->Prop} {i m:Nat} {o:Oper} {listed:Array Bool} {a:Act} {w:World} {L:ZlE} {fuel:Nat} {v:Value} {S:World->Prop}
theorem Zj7 (ho:ops[i]?=some o):i<ops.size:=by
  rcases Aqd i ops.size with h | h
  ·exact h
  ·rw [Aqe h] at ho;cases ho
theorem Zxn (b:Rel ops m listed) (h:Zld m i 0 ops.toList=true):∀ j,j∈Region.ready .any ops listed->j=i:=by
  intro j c;obtain ⟨d,a,e⟩:=b.ready.1 c;have:=Zl0 h j d (by simpa using a) (by rw [Awb];exact e);rw [Awb] at this;exact this
theorem ZEy (g:Rel ops m listed) (h:ZoF ops o m i 0 ops.toList=true) :
    ∀ j a,ops[j]?=some a->j≠i->listed.getD j true=false->(∀ e∈a.after,Region.binds .any e=true->e.on≠i)->o.apart ops a=true:=by
  intro j a f b hl c;have d:=Zj7 f;refine Zpy h j a (by simpa using f) (by rw [Awb];exact b) ?_ c;rw [Awb,<- g.bit' d];exact hl
theorem ZtQ (e:Zg3 ops) (ho:ops[i]?=some o) (b:Region.noSelect ops=true) (g:∀ c a v w,Q (.panic c) (a.put o.dst v) w->Q (.panic c) a w) (f:Rel ops m listed) (hm:Zcs m i o=true) (j:ZoF ops o m i 0 ops.toList=true)
    (k:YieldsIf P ops S o v a) (l:S w) (d:ZlE.all L w) (h:wpK rn P ops Q (nxt ops) ((i,S)::L) fuel (listed.setIfInBounds i true) (a.put o.dst v) w) :
    wpK rn P ops Q (nxt ops) L (fuel+1) listed a w :=
  ZwF e (Zez ops) ho (Region.noSelect_spec b) (fun c a w h=>g c a v w h) fuel L listed a w (ZEy f j) (f.ready.2 ⟨o,ho,hm⟩) k l d h
theorem Zqc (c:Zg3 ops) (ho:ops[i]?=some o) (e:Rel ops m listed) (hm:Zcs m i o=true) (f:Zld m i 0 ops.toList=true)
    (g:YieldsIf P ops S o v a) (j:S w) (b:ZlE.all L w) (h:wpK rn P ops Q (nxt ops) L fuel (listed.setIfInBounds i true) (a.put o.dst v) w) :
    wpK rn P ops Q (nxt ops) L (fuel+1) listed a w:=by
  refine ZtI (Zxn e f) (e.ready.2 ⟨o,ho,hm⟩) (Zht c ho g j ⟨fun p d=>b p ((Zez ops).mem _ _ _ d),?_⟩);exact Zij (Zez ops) _ _ _ _ _ _ (fun p d=> .inl ((Zez ops).mem _ _ _ d)) h
theorem Zqb (d:Zg3 ops) (ho:ops[i]?=some o) (e:Region.noSelect ops=true) (l:∀ c a v w,Q (.panic c) (a.put o.dst v) w->Q (.panic c) a w) (j:Rel ops m listed) (hm:Zcs m i o=true)
    (f:ZoF ops o m i 0 ops.toList=true\/Zld m i 0 ops.toList=true)
    (k:YieldsIf P ops (fun _=>True) o v a) (b:ZlE.all L w) (h:wpK rn P ops Q (nxt ops) L fuel (listed.setIfInBounds i true) (a.put o.dst v) w) :
    wpK rn P ops Q (nxt ops) L (fuel+1) listed a w:=by
  rcases f with f | f
  ·refine ZtQ d ho e l j hm f k trivial b ?_
   refine Zij (Zez ops) _ _ _ _ _ _ (fun p g=>?_) h
   rcases Awr.1 g with rfl | g
   ·exact .inr fun _=>trivial
   ·exact .inl g
  ·exact Zqc d ho j hm f k trivial b h
end
theorem ZAD {ops:Array Oper} {m i l:Nat} {listed:Array Bool} (b:Rel ops m listed) (h:Zo9 m i l 0 ops.toList=true):∀ j,j∈Region.ready .any ops listed->j=i\/j=l:=by
  intro j c;obtain ⟨d,a,e⟩:=b.ready.1 c;have:=ZkE h j d (by simpa using a) (by rw [Awb];exact e);rw [Awb] at this;exact this
section
variable {c:Cfg} {ops:Array Oper} {D:List Nat} {a0:Act} {w0:World} {Qx:Ex->Env->Zf->Prop}
def Ztv (c:Cfg) (ops:Array Oper) (D:List Nat) (a0:Act) (w0:World) (Qx:Ex->Env->Zf->Prop) (fuel m:Nat) (rest:Zhp->Env->Zf->Prop):Prop :=
  ∀ (listed:Array Bool) (hd:Zhp) (e:Env) (a:Act) (w:World),Rel ops m listed->Agr c.n e a->Same w0 w->XP D a0 a->(Zet hd).all w ->
    rest hd e w.heap->wpK c.rnd c.P ops (Zgd c D a0 w0 Qx) (nxt ops) (Zet hd) fuel listed a w
theorem Zti (s:Zg3 ops) (z:c.OK) (A:D=ops.toList.filterMap (·.dst)) {i m fuel:Nat} {o:Oper} {hd:Zhp} {e:Env} {a:Act} {w:World} {listed:Array Bool} {rest:Zhp->Env->Zf->Prop}
    (ho:ops[i]?=some o) (B:Rel ops m listed) (t:Agr c.n e a) (hs:Same w0 w) (l:XP D a0 a) (h:(Zet hd).all w) (y:Ztv c ops D a0 w0 Qx fuel (Zqf m i) rest) (b:ZEG c ops o hd e w.heap rest) :
    wpOpIn (fen c.rnd) 0 c.P ops (Zgd c D a0 w0 Qx) i (fun a' w'=>(nxt ops (Zet hd) i).all w'/\wpK c.rnd c.P ops (Zgd c D a0 w0 Qx) (nxt ops) (nxt ops (Zet hd) i) fuel (listed.setIfInBounds i true) a' w') a w:=by
  have q:=B.set (Zj7 ho);have j:∀ v,XP D a0 (a.put o.dst v):=fun v=>l.trans (XP.put fun x C=>A▸ZgD ho C);unfold ZEG at b
  rcases ZiD t b with ⟨E,d,hw,b⟩ | ⟨E,d,hw,b⟩
  ·rw [Zt4 ho]
   unfold Go.wpOpIn;simp only [ho,hw,if_true];refine Zt3 z d (fun v w' k r=>⟨v,rfl,hs.trans k,l,r⟩) b fun v w' k b=>?_;obtain ⟨u,f,b⟩:=ZdS d b;obtain ⟨g,b⟩:=Zka b;exact ⟨g,y _ _ u _ w' q f (hs.trans k) (j _) g b⟩
  ·obtain ⟨u,f,b⟩:=ZdS d b
   have F:YieldsIf c.P ops (fun _=>True) o undef a:= .inr ⟨hw,rfl⟩;refine Zht s ho F trivial ⟨fun p r=>h p ((Zez ops).mem _ _ _ r),?_⟩;exact Zij (Zez ops) _ _ _ _ _ _ (fun p r=> .inl ((Zez ops).mem _ _ _ r)) (y _ hd u _ w q f hs (j _) h b)
theorem ZEw (j:Zg3 ops) (z:D=ops.toList.filterMap (·.dst)) {i m fuel:Nat} {o:Oper} {hd:Zhp} {e:Env} {a:Act} {w:World} {listed:Array Bool} {rest:Zhp->Env->Zf->Prop}
    (ho:ops[i]?=some o) (p:Rel ops m listed) (q:Agr c.n e a) (hs:Same w0 w) (r:XP D a0 a) (b:(Zet hd).all w) (u:Ztv c ops D a0 w0 Qx fuel (Zqf m i) rest)
    (A:∀ {e:Env} {K:EV->Zf->Prop},Agr c.n e a->opP c o.op e w.heap K->Ztw c o a w.heap K) (hm:Zcs m i o=true) (y:Zld m i 0 ops.toList=true)
    (f:ZHc c ops o hd e w.heap rest):wpK c.rnd c.P ops (Zgd c D a0 w0 Qx) (nxt ops) (Zet hd) (fuel+1) listed a w:=by
  have k:=p.set (Zj7 ho);have h:∀ v,XP D a0 (a.put o.dst v):=fun v=>r.trans (XP.put fun x B=>z▸ZgD ho B);unfold ZHc at f
  rcases ZiD q f with ⟨C,d,hw,f⟩ | ⟨C,d,hw,f⟩
  ·obtain ⟨v,l,f⟩:=A d f
   obtain ⟨s,g,f⟩:=ZdS d f;exact Zqc j (S:=fun w'=>w'.heap=w.heap) ho p hm y (v:=v.v) (.inl ⟨hw,fun w' t=>l w' t⟩) rfl b (u _ hd s _ w k g hs (h _) b f)
  ·obtain ⟨s,g,f⟩:=ZdS d f
   exact Zqc j (S:=fun _=>True) ho p hm y (v:=undef) (.inr ⟨hw,rfl⟩) trivial b (u _ hd s _ w k g hs (h _) b f)
theorem ZtN (r:Zg3 ops) (F:D=ops.toList.filterMap (·.dst)) (j:Region.noSelect ops=true) {i m fuel:Nat} {o:Oper} {hd:Zhp} {e:Env} {a:Act} {w:World} {listed:Array Bool} {rest:Zhp->Env->Zf->Prop} {A:Env->Prop}
    (ho:ops[i]?=some o) (u:Rel ops m listed) (y:Agr c.n e a) (hs:Same w0 w) (z:XP D a0 a) (b:(Zet hd).all w) (G:Ztv c ops D a0 w0 Qx fuel (Zqf m i) rest)
    (hm:Zcs m i o=true) (H:ZoF ops o m i 0 ops.toList=true)
    (L:∀ p,Agr c.n p a->A p->∃ (v:EV) (S:Zf->Prop),S w.heap/\(∀ w':World,S w'.heap->(execOp a.eval o).run c.P w' = .ok (.value v.v) w')/\Zsi c.n p o.dst v fun l=>rest ((i,S)::hd) l w.heap)
    (f:ZnV ops.toList o e A (fun e=>Zsi c.n e o.dst (.val undef) fun l=>rest hd l w.heap)):wpK c.rnd c.P ops (Zgd c D a0 w0 Qx) (nxt ops) (Zet hd) (fuel+1) listed a w:=by
  have s:=u.set (Zj7 ho);have k:∀ v,XP D a0 (a.put o.dst v):=fun v=>z.trans (XP.put fun x B=>F▸ZgD ho B);have I:∀ J a' v w',Zgd c D a0 w0 Qx (.panic J) (a'.put o.dst v) w'->Zgd c D a0 w0 Qx (.panic J) a' w':=fun _ _ _ _ h=>Znq (fun x B=>by rw [F];exact ZgD ho B) h
  rcases ZiD y f with ⟨p,d,hw,f⟩ | ⟨p,d,hw,f⟩
  ·obtain ⟨v,S,K,t,f⟩:=L p d f
   obtain ⟨l,g,f⟩:=ZdS d f;refine ZtQ r (S:=fun w=>S w.heap) ho j I u hm H (v:=v.v) (.inl ⟨hw,fun w' C=>t w' C⟩) K b ?_;refine G _ ((i,S)::hd) l _ w s g hs (k _) ?_ f;intro q E
   rcases Awr.1 E with rfl | E
   ·exact K
   ·exact b q E
  ·obtain ⟨l,g,f⟩:=ZdS d f
   exact Zqb r ho j I u hm (.inl H) (v:=undef) (.inr ⟨hw,rfl⟩) b (G _ hd l _ w s g hs (k _) b f)
end
theorem ZfK {j:Nat}:∀ {l:List Nat},Zdj l j=true↔j∈l
  | []=>by simp [Zdj]
  | x::xs=>by
    have b:=ZfK (j:=j) (l:=xs);simp only [Zdj]
    cases a:Nat.beq j x with
    | true=>simp only [cond_true,true_iff];exact (Awg a) ▸ .head _
    | false=>simp only [cond_false,b,Awr];exact ⟨.inr,fun h=>h.resolve_left (Awi a)⟩
theorem Zmx {m:Nat} {E:List Nat}:∀ {es:List Edge},ZjT m E es=true->∀ x∈es,Region.binds .any x=true->Zh2 m x.on=true\/Zdj E x.on=true
  | [],_,x,a,_=>by cases a
  | y::es,h,x,a,c=>by
    simp only [ZjT] at h
    rcases Awr.1 a with rfl | a
    ·rw [c] at h
     cases h1:Zh2 m x.on with
     | true=>exact .inl rfl
     | false =>
       rw [h1] at h
       cases b:Zdj E x.on with
       | true=>exact .inr rfl
       | false=>rw [b] at h;cases h
    ·refine Zmx (es:=es) ?_ x a c
     cases h1:Region.binds .any y with
     | false=>rw [h1] at h;exact h
     | true =>
       cases b:Zh2 m y.on with
       | true=>rw [h1,b] at h;exact h
       | false =>
         cases h3:Zdj E y.on with
         | true=>rw [h1,b,h3] at h;exact h
         | false=>rw [h1,b,h3] at h;cases h
theorem ZoU {ops:Array Oper} {m k:Nat} {E ks:List Nat} (h:Zrh ops m E (k::ks)=true) :
    ∃ o,ops[k]?=some o/\Zh2 m k=false/\o.guard=none/\ZjT m E o.after.toList=true/\Zrh ops m (k::E) ks=true:=by
  simp only [Zrh] at h;split at h
  ·rename_i o ho
   cases h1:Zh2 m k with
   | true=>rw [h1] at h;cases h
   | false =>
     rw [h1] at h
     cases b:Zdj E k with
     | true=>rw [b] at h;cases h
     | false =>
       rw [b] at h
       cases h3:o.guard.isNone with
       | false=>rw [h3] at h;cases h
       | true =>
         rw [h3] at h
         cases a:ZjT m E o.after.toList with
         | false=>rw [a] at h;cases h
         | true=>rw [a] at h;exact ⟨o,ho,rfl,Axu.1 h3,a,h⟩
  ·cases h
theorem Zp7 {ops:Array Oper} {m:Nat}:∀ {L E:List Nat},Zrh ops m E L=true->∀ k∈L,∃ o,ops[k]?=some o/\Zh2 m k=false/\o.guard=none
  | [],_,_,k,a=>by cases a
  | x::L,E,h,k,a=>by
    obtain ⟨o,h1,b,h3,_,c⟩:=ZoU h
    rcases Awr.1 a with rfl | a
    ·exact ⟨o,h1,b,h3⟩
    ·exact Zp7 c k a
theorem ZoT {ops:Array Oper} {m:Nat} {d:Nat->Bool} {L0:List Nat}:∀ {L E:List Nat},Zrh ops m E L=true->(∀ k,Zdj E k=true->Zdj L0 k=true/\d k=true)->(∀ k∈L,Zdj L0 k=true)->(∃ k∈L,d k=false) ->
    ∃ k o,k∈L/\d k=false/\ops[k]?=some o/\∀ x∈o.after.toList,Region.binds .any x=true->Zh2 m x.on=true\/(Zdj L0 x.on=true/\d x.on=true)
  | [],_,_,_,_,⟨k,a,_⟩=>by cases a
  | x::L,E,h,c,e,f=>by
    obtain ⟨o,h1,_,_,g,i⟩:=ZoU h
    cases hd:d x with
    | false=>exact ⟨x,o,.head _,hd,h1,fun y j l=>(Zmx g y j l).imp id (c _)⟩
    | true =>
      obtain ⟨k,n,a,p⟩:=ZoT (d:=d) (L0:=L0) i (fun k a=>by
        rcases Awr.1 (ZfK.1 a) with rfl | a
        ·exact ⟨e _ (.head _),hd⟩
        ·exact c k (ZfK.2 a)) (fun k a=>e k (.tail _ a)) (by
        obtain ⟨k,a,b⟩:=f
        rcases Awr.1 a with rfl | a
        ·rw [hd] at b;cases b
        ·exact ⟨k,a,b⟩)
      exact ⟨k,n,.tail _ a,p⟩
theorem Zk1 {m:Nat} {L:List Nat}:∀ {es:List Edge},ZfH m L es=true->∃ x,x∈es/\Region.binds .any x=true/\Zh2 m x.on=false/\Zdj L x.on=false
  | [],h=>by cases h
  | y::es,h=>by
    have a:ZfH m L es=true->∃ x,x∈y::es/\Region.binds .any x=true/\Zh2 m x.on=false/\Zdj L x.on=false:=fun h =>
      let ⟨x,c,b⟩:=Zk1 h
      ⟨x,.tail _ c,b⟩
    simp only [ZfH] at h
    cases h1:Region.binds .any y with
    | false=>rw [h1] at h;exact a h
    | true =>
      rw [h1] at h
      cases b:Zh2 m y.on with
      | true=>rw [b] at h;exact a h
      | false =>
        rw [b] at h
        cases h3:Zdj L y.on with
        | true=>rw [h3] at h;exact a h
        | false=>exact ⟨y,.head _,h1,b,h3⟩
theorem Zk2 {es:List Edge}:∀ {L:List Nat},Zj0 es L=true->∀ k∈L,ZgU k es=true
  | [],_,k,a=>by cases a
  | x::L,h,k,a=>by
    simp only [Zj0] at h
    cases h1:ZgU x es with
    | false=>rw [h1] at h;cases h
    | true =>
      rw [h1] at h
      rcases Awr.1 a with rfl | a
      ·exact h1
      ·exact Zk2 h k a
theorem Zru {m:Nat} {L:List Nat}:∀ {os:List Oper} {k:Nat},ZGB m L k os=true->∀ j o,os[j]?=some o->Zh2 m (k+j)=true\/Zdj L (k+j)=true\/ZfH m L o.after.toList=true\/Zj0 o.after.toList L=true
  | [],k,_,j,o,ho=>by simp at ho
  | x::os,k,h,j,o,ho=>by
    simp only [ZGB] at h;generalize a:(bif Zh2 m k then true else bif Zdj L k then true else bif ZfH m L x.after.toList then true else Zj0 x.after.toList L)=b at h
    cases b with
    | false=>cases h
    | true =>
      cases j with
      | succ j =>
        have:=Zru (k:=k+1) h j o (by simpa using ho);rw [show k+(j+1)=k+1+j from by omega];exact this
      | zero =>
        simp at ho;subst ho
        cases h1:Zh2 m k with
        | true=>exact .inl rfl
        | false =>
          rw [h1] at a
          cases c:Zdj L k with
          | true=>exact .inr (.inl rfl)
          | false =>
            rw [c] at a
            cases h3:ZfH m L x.after.toList with
            | true=>exact .inr (.inr (.inl rfl))
            | false=>rw [h3] at a;exact .inr (.inr (.inr a))
theorem ZlZ {j k:Nat}:∀ {os:List Oper} {i:Nat},Zqr j k i os=true->∀ l o,os[l]?=some o->o.dst=some j->i+l=k
  | [],i,_,l,o,ho,_=>by simp at ho
  | x::os,i,h,l,o,ho,hd=>by
    simp only [Zqr] at h
    cases b:Nat.beq i k with
    | true =>
      rw [b] at h
      cases l with
      | zero=>exact Awg b
      | succ l =>
        have:=ZlZ (i:=i+1) h l o (by simpa using ho) hd;omega
    | false =>
      rw [b] at h;simp only [cond_false] at h
      cases l with
      | zero =>
        simp at ho;subst ho;rw [hd] at h;simp only [Axv,cond_true] at h;cases h
      | succ l =>
        have h':Zqr j k (i+1) os=true:=by
          split at h
          ·rename_i y c
           cases a:Nat.beq y j with
           | true=>rw [a] at h;cases h
           | false=>rw [a] at h;exact h
          ·exact h
        have:=ZlZ (i:=i+1) h' l o (by simpa using ho) hd;omega
theorem ZrL {ops:Array Oper} {k:Nat} {o:Oper} (ho:ops[k]?=some o):Xr ops.toList k=o.dst:=by
  unfold Xr;rw [show ops.toList[k]?=ops[k]? from by simp,ho];rfl
theorem Zkt {ops:Array Oper} {k j:Nat} (h:Xr ops.toList k=some j):∃ o,ops[k]?=some o/\o.dst=some j:=by
  unfold Xr at h;rw [show ops.toList[k]?=ops[k]? from by simp] at h
  cases ho:ops[k]? with
  | none=>rw [ho] at h;cases h
  | some o=>rw [ho] at h;exact ⟨o,rfl,h⟩
theorem ZlL {ops:Array Oper} {a:List Nat}:∀ {L:List Nat},ZsM ops.toList a L=true->∀ k∈L,∀ j,Xr ops.toList k=some j->Zdj a j=true/\∀ i o,ops[i]?=some o->o.dst=some j->i=k
  | [],_,k,b,_,_=>by cases b
  | x::L,h,k,b,j,d=>by
    simp only [ZsM] at h
    rcases Awr.1 b with rfl | b
    ·rw [d] at h
     simp only at h
     cases h1:Zdj a j with
     | false=>rw [h1] at h;cases h
     | true =>
       rw [h1] at h
       cases c:Zqr j k 0 ops.toList with
       | false=>rw [c] at h;cases h
       | true=>exact ⟨rfl,fun i o ho hd=>by have:=ZlZ c i o (by simpa using ho) hd;omega⟩
    ·refine ZlL (L:=L) ?_ k b j d
     split at h
     ·rename_i y e
      cases h1:Zdj a y with
      | false=>rw [h1] at h;cases h
      | true =>
        rw [h1] at h
        cases c:Zqr y x 0 ops.toList with
        | false=>rw [c] at h;cases h
        | true=>rw [c] at h;exact h
     ·exact h
theorem Zpw {ops:List Oper} {j:Nat}:∀ {L:List Nat},Zte ops j L=true->∃ k,k∈L/\Xr ops k=some j
  | [],h=>by cases h
  | x::L,h=>by
    have a:Zte ops j L=true->∃ k,k∈x::L/\Xr ops k=some j:=fun h=>let ⟨k,c,d⟩:=Zpw h;⟨k,.tail _ c,d⟩;simp only [Zte] at h;split at h
    ·rename_i y e
     cases b:Nat.beq y j with
     | true=>exact ⟨x,.head _,by rw [e,Awg b]⟩
     | false=>rw [b] at h;exact a h
    ·exact a h
theorem ZkA {ops:List Oper} {L:List Nat}:∀ {l:List Nat},ZoY ops L l=true->∀ j,Zdj l j=true->∃ k,k∈L/\Xr ops k=some j
  | [],_,j,a=>by cases a
  | x::l,h,j,a=>by
    simp only [ZoY] at h
    cases h1:Zte ops x L with
    | false=>rw [h1] at h;cases h
    | true =>
      rw [h1] at h
      rcases Awr.1 (ZfK.1 a) with rfl | a
      ·exact Zpw h1
      ·exact ZkA h j (ZfK.2 a)
theorem Zof {ops:List Oper} {j:Nat}:∀ {es:List Edge},Zmy ops j es=true->∃ x,x∈es/\Region.binds .any x=true/\Xr ops x.on=some j
  | [],h=>by cases h
  | y::es,h=>by
    have a:Zmy ops j es=true->∃ x,x∈y::es/\Region.binds .any x=true/\Xr ops x.on=some j:=fun h=>let ⟨k,c,d⟩:=Zof h;⟨k,.tail _ c,d⟩;simp only [Zmy] at h
    cases h1:Region.binds .any y with
    | false=>rw [h1] at h;exact a h
    | true =>
      rw [h1] at h;simp only [cond_true] at h;split at h
      ·rename_i z hz
       cases b:Nat.beq z j with
       | true=>exact ⟨y,.head _,h1,by rw [hz,Awg b]⟩
       | false=>rw [b] at h;exact a h
      ·exact a h
theorem Znv {d:Nat->Bool} {K:Prop}:∀ {l:List Nat},Znw d l K->(∀ i∈l,d i=true)->K
  | [],h,_=>h
  | i::l,h,hd=>Znv (h (hd i (.head _))) fun k a=>hd k (.tail _ a)
theorem ZrW {L:List Nat} {i:Nat}:∀ {es:List Edge},i∈ZrX L es->Zdj L i=true/\∃ x,x∈es/\Region.binds .any x=true/\x.on=i
  | [],h=>by cases h
  | y::es,h=>by
    have a:i∈ZrX L es->Zdj L i=true/\∃ x,x∈y::es/\Region.binds .any x=true/\x.on=i:=fun h =>
      let ⟨h1,k,c,b⟩:=ZrW h
      ⟨h1,k,.tail _ c,b⟩
    simp only [ZrX] at h
    cases h1:Region.binds .any y with
    | false=>rw [h1] at h;exact a h
    | true =>
      rw [h1] at h
      cases b:Zdj L y.on with
      | false=>rw [b] at h;exact a h
      | true =>
        rw [b] at h
        rcases Awr.1 h with rfl | h
        ·exact ⟨b,y,.head _,h1,rfl⟩
        ·exact a h
theorem Zxm {ops:Array Oper} {L:List Nat} {d:Nat->Bool} {f:Nat->Oper->Prop}:∀ {l:List Nat},ZH7 ops L d f l->∀ k∈l,∀ o,ops[k]?=some o->d k=false->Znw d (ZrX L o.after.toList) (f k o)
  | [],_,k,a,_,_,_=>by cases a
  | x::l,h,k,a,o,ho,hd=>by
    obtain ⟨h1,b⟩:=h
    rcases Awr.1 a with rfl | a
    ·rw [ho] at h1
     exact h1 hd
    ·exact Zxm b k a o ho hd
theorem ZpC:∀ {tys:List VT} {t:Xl tys},(Xl.evs tys t).length=tys.length
  | [],_=>rfl
  | _::vs,t=>congrArg (· + 1) (ZpC (tys:=vs) (t:=t.2))
theorem ZjC {j:Nat} {v:EV}:∀ {a:List Nat} {xs:List EV},Zdj a j=true->a.length=xs.length->Zal a (ZBw a j v xs) j=some v
  | [],_,h,_=>by cases h
  | s::c,[],_,h=>by cases h
  | s::c,x::xs,h,hl=>by
    simp only [ZBw]
    cases b:Nat.beq j s with
    | true=>simp only [cond_true,Zal,b]
    | false =>
      simp only [cond_false,Zal,b];simp only [Zdj,b,cond_false] at h;exact ZjC h (Nat.succ.inj hl)
theorem Zjb {j i:Nat} {v:EV} (b:i≠j):∀ {a:List Nat} {xs:List EV},Zal a (ZBw a j v xs) i=Zal a xs i
  | [],_=>rfl
  | s::c,[]=>rfl
  | s::c,x::xs=>by
    simp only [ZBw]
    cases d:Nat.beq j s with
    | true =>
      have:=Awg d;subst this
      have e:Nat.beq i j=false:=by
        cases h:Nat.beq i j with
        | true=>exact absurd (Awg h) b
        | false=>rfl
      simp only [cond_true,Zal,e,cond_false]
    | false =>
      simp only [cond_false,Zal];rw [Zjb b]
theorem ZnF {j:Nat} {x:EV}:∀ {a:List Nat} {vs us:List EV},us.map EV.v=vs.map EV.v->Zal a vs j=some x->∃ y,Zal a us j=some y/\y.v=x.v
  | [],_,_,_,h=>by simp [Zal] at h
  | s::b,[],_,_,h=>by simp [Zal] at h
  | s::b,v::vs,[],hm,h=>by simp at hm
  | s::b,v::vs,u::us,hm,h=>by
    simp only [Awo,Axw] at hm;simp only [Zal] at h ⊢
    cases c:Nat.beq j s with
    | true=>rw [c] at h;simp only [cond_true,Awh] at h;subst h;exact ⟨u,rfl,hm.1⟩
    | false=>rw [c] at h;exact ZnF hm.2 h
theorem Zl4 {j:Nat}:∀ {a:List Nat} {vs:List EV},Zdj a j=false->Zal a vs j=none
  | [],_,_=>rfl
  | s::c,[],_=>rfl
  | s::c,v::vs,h=>by
    simp only [Zdj] at h
    cases b:Nat.beq j s with
    | true=>rw [b] at h;cases h
    | false =>
      rw [b] at h;simp only [Zal,b,cond_false];exact Zl4 h
def ZkT (d:Nat->Bool):List Nat->Nat
  | []=>0
  | k::ks=>bif d k then ZkT d ks else ZkT d ks+1
theorem Zun {d:Nat->Bool} {k:Nat}:∀ {l:List Nat},ZkT (setB d k) l<=ZkT d l
  | []=>Aqo _
  | x::l=>by
    have a:=Zun (d:=d) (k:=k) (l:=l);have e:setB d k x=(bif Nat.beq x k then true else d x):=rfl;simp only [ZkT,e];cases b:Nat.beq x k<;>cases hd:d x<;>simp only [cond_true,cond_false]<;>omega
theorem Zum {d:Nat->Bool} {k:Nat} (hd:d k=false):∀ {l:List Nat},k∈l->ZkT (setB d k) l<ZkT d l
  | [],h=>by cases h
  | x::l,h=>by
    have h1:=Zun (d:=d) (k:=k) (l:=l)
    rcases Awr.1 h with rfl | h
    ·have e:setB d k k=true:=by show (bif Nat.beq k k then true else d k)=true;rw [Axv];rfl
     simp only [ZkT,e,cond_true,hd,cond_false];omega
    ·have c:=Zum hd h
     simp only [ZkT]
     cases a:setB d k x<;>cases b:d x<;>simp only [cond_true,cond_false]<;>first
       | omega
       | (simp only [setB,b] at a;cases h3:Nat.beq x k<;>rw [h3] at a<;>cases a)
theorem ZpE {d:Nat->Bool}:∀ {l:List Nat},(∀ k∈l,d k=true)\/(∃ k∈l,d k=false)
  | []=> .inl fun k a=>by cases a
  | x::l=>by
    cases hd:d x with
    | false=>exact .inr ⟨x,.head _,hd⟩
    | true =>
      rcases ZpE (d:=d) (l:=l) with h | ⟨k,a,h⟩
      ·refine .inl fun k a=>?_
       rcases Awr.1 a with rfl | a
       ·exact hd
       ·exact h k a
      ·exact .inr ⟨k,.tail _ a,h⟩
theorem Zr0 {d:Nat->Bool} {k:Nat} (hd:d k=false):∀ {l:List Nat},k∈l->0<ZkT d l
  | [],h=>by cases h
  | x::l,h=>by
    simp only [ZkT]
    rcases Awr.1 h with rfl | h
    ·rw [hd];simp only [cond_false];omega
    ·have:=Zr0 hd h
     cases d x<;>simp only [cond_true,cond_false]<;>omega
theorem Zr1 {d:Nat->Bool}:∀ {l:List Nat},ZkT d l<=l.length
  | []=>Aqo _
  | x::l=>by
    have:=Zr1 (d:=d) (l:=l);simp only [ZkT,Aqj];cases d x<;>simp only [cond_true,cond_false]<;>omega
theorem ZpH {j:Nat}:∀ {L:List Nat} {m:Nat},Zh2 (L.foldl Zqf m) j=(Zh2 m j||Zdj L j)
  | [],m=>by simp [Zdj]
  | x::L,m=>by
    simp only [Awq,Zdj];rw [ZpH,ZqU]
    cases a:Nat.beq j x with
    | true=>rw [Awg a];simp
    | false=>simp [Awi a]
theorem ZxQ {c:Cfg} {ops:Array Oper} {D:List Nat} {a0:Act} {w0:World} {Qx:Ex->Env->Zf->Prop} {m N0:Nat} {L b:List Nat} {tys:List VT} {hd:Zhp} {e:Env} {rest:Zhp->Env->Zf->Prop}
    (J:∀ f,N0<=f->Ztv c ops D a0 w0 Qx f (L.foldl Zqf m) rest) {I:(Nat->Bool)->Xl tys->Zf->Prop}
    (K:∀ d t h',I d t h'->Znw d L (ZrI h' hd (rest hd (ZoH b (Xl.evs tys t) [] e) h'))) (A:ZoY ops.toList L b=true) (S:ZsM ops.toList b L=true)
    (fuel G:Nat) (d:Nat->Bool) (t:Xl tys) (listed:Array Bool) (a:Act) (w:World) (Lk:ZlE) (M:N0<=fuel) (g:∀ k∈L,d k=true) (H:Rel ops G listed) (u:∀ j,Zh2 G j=(Zh2 m j||(Zdj L j&&d j)))
    (l:Agr c.n ⟨fun j=>bif Zdj b j then none else e.f j,e.mD⟩ a) (hs:Same w0 w) (B:XP D a0 a) (C:∀ i o j,i∈L->ops[i]?=some o->d i=true->o.dst=some j->∃ v,Zal b (Xl.evs tys t) j=some v/\a.tmps[j]?=some v.v)
    (N:I d t w.heap) (E:∀ p,p∈Lk->p∈Zet hd):wpK c.rnd c.P ops (Zgd c D a0 w0 Qx) (nxt ops) Lk fuel listed a w:=by
  obtain ⟨q,z⟩:=Zka (Znv (K d t w.heap N) g)
  have r:∀ j,Zdj b j=true->∃ v,Zal b (Xl.evs tys t) j=some v/\a.tmps[j]?=some v.v:=fun j h=>by
    obtain ⟨k,z,O⟩:=ZkA A j h;obtain ⟨o,ho,y⟩:=Zkt O;exact C k o j z ho (g k z) y
  refine Zij (Zez ops) _ _ _ _ _ _ (fun p Q=> .inl (E p Q)) (J fuel M listed hd (ZoH b (Xl.evs tys t) [] e) a w ⟨H.size,fun j=>?_⟩ ⟨l.size,l.defers,fun j v h=>?_⟩ hs B q z)
  ·rw [H.bit,u,ZpH]
   cases hm:Zdj L j with
   | false=>simp
   | true=>rw [g j (ZfK.1 hm)];simp
  ·unfold ZoH at h
   dsimp only at h
   cases s:Zdj b j with
   | true =>
     obtain ⟨x,R,F⟩:=r j s;rw [R] at h;cases h;exact F
   | false =>
     rw [Zl4 s] at h;refine l.val j v ?_;show (bif Zdj b j then none else e.f j)=some v;rw [s];exact h
section
variable {c:Cfg} {ops:Array Oper} {D:List Nat} {a0:Act} {w0:World} {Qx:Ex->Env->Zf->Prop}
theorem ZG6 (hc:c.OK) (hD:D=ops.toList.filterMap (·.dst)) {m N0:Nat} {L b:List Nat} {tys:List VT} {hd:Zhp} {e:Env} {rest:Zhp->Env->Zf->Prop}
    (r:ZEe ops m L b=true) (hlen:b.length=tys.length) (ih:∀ f,N0<=f->Ztv c ops D a0 w0 Qx f (L.foldl Zqf m) rest)
    {I:(Nat->Bool)->Xl tys->Zf->Prop}
    (hS:∀ d t h',I d t h'->ZH7 ops L d (fun k o=>opP c o.op (eAt ops.toList o.after.toList b (Xl.evs tys t) e) h' fun v h''=>ZrI h'' (ZrV o hd) (match o.dst with
        | none=>I (setB d k) t h''
        | some j=>bif Nat.blt j c.n then (match Xl.un tys (ZBw b j v (Xl.evs tys t)) with
          | some t'=>I (setB d k) t' h''
          | none=>False) else False)) L)
    (hF:∀ d t h',I d t h'->Znw d L (ZrI h' hd (rest hd (ZoH b (Xl.evs tys t) [] e) h'))) :
    ∀ (n fuel V:Nat) (d:Nat->Bool) (t:Xl tys) (listed:Array Bool) (a:Act) (w:World) (Lk:ZlE),N0+n<=fuel->ZkT d L<=n->Rel ops V listed->(∀ j,Zh2 V j=(Zh2 m j||(Zdj L j&&d j))) ->
      Agr c.n ⟨fun j=>bif Zdj b j then none else e.f j,e.mD⟩ a->Same w0 w->XP D a0 a->(∀ i o j,i∈L->ops[i]?=some o->d i=true->o.dst=some j->∃ v,Zal b (Xl.evs tys t) j=some v/\a.tmps[j]?=some v.v) ->
      I d t w.heap->(∀ p,p∈Lk->p∈Zet hd)->wpK c.rnd c.P ops (Zgd c D a0 w0 Qx) (nxt ops) Lk fuel listed a w:=by
  unfold ZEe at r
  cases hT:Zrh ops m [] L with
  | false=>rw [hT] at r;cases r
  | true =>
  rw [hT] at r
  cases hO:ZGB m L 0 ops.toList with
  | false=>rw [hO] at r;cases r
  | true =>
  rw [hO] at r
  cases hU:ZsM ops.toList b L with
  | false=>rw [hU] at r;cases r
  | true =>
  rw [hU] at r;have aa:ZoY ops.toList L b=true:=r;have ae:∀ k,k∈L->Zh2 m k=false:=fun k q=>(Zp7 hT k q).choose_spec.2.1;intro n
  induction n with
  | zero =>
    intro fuel V d t listed a w Lk hf az hr g s hs Q K hI W
    have R:∀ k∈L,d k=true:=fun k q=>by
      cases aS:d k with
      | true=>rfl
      | false=>have:=Zr0 aS q;omega
    exact ZxQ ih hF aa hU fuel V d t listed a w Lk (by omega) R hr g s hs Q K hI W
  | succ n aA =>
    intro fuel V d t listed a w Lk hf az hr g s hs Q K hI W
    rcases ZpE (d:=d) (l:=L) with R | aB
    ·exact ZxQ ih hF aa hU fuel V d t listed a w Lk (by omega) R hr g s hs Q K hI W
    ·obtain ⟨k0,o0,af,aD,aT,ag⟩:=ZoT (d:=d) (L0:=L) hT (fun k q=>by cases q) (fun k q=>ZfK.2 q) aB
     cases fuel with
     | zero=>omega
     | succ fuel =>
       refine ⟨fun h0=>?_,fun i hi=>?_⟩
       ·have:k0∈Region.ready .any ops listed:=hr.ready.2 ⟨o0,aT,by
          unfold Zcs;rw [g k0,ae k0 af,aD];simp only [Bool.and_false,Bool.or_false,cond_false]
          exact ZgR.2 fun x F B=>by
            rw [g x.on]
            rcases ag x F B with h | ⟨h1,h2⟩
            ·rw [h];rfl
            ·rw [h1,h2];simp⟩
        rw [h0] at this;cases this
       ·obtain ⟨o,ho,M⟩:=hr.ready.1 hi
        unfold Zcs at M
        cases ah:Zh2 V i with
        | true=>rw [ah] at M;cases M
        | false =>
        rw [ah] at M;simp only [cond_false] at M;have G:=ZgR.1 M;have A:=g i;rw [ah] at A
        have aF:Zh2 m i=false:=by cases h:Zh2 m i with
          | false=>rfl
          | true=>rw [h] at A;simp at A
        have ai:Zdj L i=true:=by
          have:=Zru hO i o (by simpa using ho);rw [Awb] at this
          rcases this with h | h | h | h
          ·rw [aF] at h;cases h
          ·exact h
          ·obtain ⟨x,F,B,h1,h2⟩:=Zk1 h
           have:=G x F B;rw [g,h1,h2] at this;simp at this
          ·have:=Zk2 h k0 af
           obtain ⟨x,F,B,X⟩:=ZjZ.1 this;have:=G x F B;rw [g,X,ae k0 af,aD] at this;simp at this
        have Y:=ZfK.1 ai
        have aG:d i=false:=by
          rw [aF,ai] at A
          cases h:d i with
          | false=>rfl
          | true=>rw [h] at A;simp at A
        have X:∀ x∈o.after.toList,Region.binds .any x=true->Zdj L x.on=true->d x.on=true:=fun x F B hm=>by
          have:=G x F B;rw [g,ae _ (ZfK.1 hm),hm] at this;simpa using this
        have aj:=Znv (Zxm (hS d t w.heap hI) i Y o ho aG) fun k q=>by
          obtain ⟨h1,x,F,B,rfl⟩:=ZrW q;exact X x F B h1
        have aH:Agr c.n (eAt ops.toList o.after.toList b (Xl.evs tys t) e) a:=by
          refine ⟨s.size,s.defers,fun j v H=>?_⟩;unfold eAt at H;dsimp only at H;split at H
          ·rename_i u hu
           cases ak:Zmy ops.toList j o.after.toList with
           | false=>rw [ak] at H;cases H
           | true =>
             rw [ak] at H;simp only [cond_true,Awh] at H;subst H;obtain ⟨x,F,B,hg⟩:=Zof ak;obtain ⟨ox,aI,aJ⟩:=Zkt hg
             have aV:Zdj b j=true:=by
               cases h:Zdj b j with
               | true=>rfl
               | false=>rw [Zl4 h] at hu;cases hu
             obtain ⟨k,q,aW⟩:=ZkA aa j aV;have aK:x.on=k:=(ZlL hU k q j aW).2 x.on ox aI aJ;obtain ⟨v',h1,h2⟩:=K x.on ox j (aK▸q) aI (X x F B (ZfK.2 (aK▸q))) aJ;rw [hu] at h1;cases h1;exact h2
          ·rename_i hu
           cases N:Zdj b j with
           | true=>rw [N] at H;cases H
           | false =>
             rw [N] at H;refine s.val j v ?_;show (bif Zdj b j then none else e.f j)=some v;rw [N];exact H
        have aX:o.guard=none:=by
          obtain ⟨o',aL,_,hg⟩:=Zp7 hT i Y;rw [ho] at aL;cases aL;exact hg
        have hw:Region.wanted o (yielded ops a.tmps)=true:=by simp [Region.wanted,aX]
        unfold Go.wpOpIn;simp only [ho,hw,if_true];refine Zt3 hc aH (fun v w' Z hp=>⟨v,rfl,hs.trans Z,Q,hp⟩) aj fun v w' Z q=>?_;obtain ⟨an,q⟩:=Zka q;have S:∀ p,p∈nxt ops Lk i->p∈Zet hd:=fun p hp=>W p ((Zez ops).mem _ _ _ hp);refine ⟨fun p hp=>an p ?_,?_⟩
        ·rw [<- Zt4 ho]
         exact (Zez ops).same _ _ _ _ hp (S p hp)
        have aM:=hr.set (Zj7 ho);have J:XP D a0 (a.put o.dst v.v):=Q.trans (XP.put fun x F=>hD▸ZgD ho F)
        have T:∀ j,Zh2 (Zqf V i) j=(Zh2 m j||(Zdj L j&&setB d i j)):=fun j=>by
          rw [ZqU,g j];unfold setB
          cases B:Nat.beq j i with
          | true=>rw [Awg B,ai];simp
          | false=>simp [Awi B]
        have U:ZkT (setB d i) L<=n:=by have:=Zum aG Y;omega
        have hold:∀ k,setB d i k=true->k≠i->d k=true:=fun k h O=>by
          unfold setB at h
          cases B:Nat.beq k i with
          | true=>exact absurd (Awg B) O
          | false=>rw [B] at h;exact h
        cases z:o.dst with
        | none =>
          rw [z] at q;have q:I (setB d i) t w'.heap:=q;rw [z] at J;refine aA fuel (Zqf V i) (setB d i) t _ (a.put none v.v) w' _ (by omega) U aM T s (hs.trans Z) J (fun k ok j ao C aq E=>?_) q S;refine K k ok j ao C (hold k aq fun he=>?_) E;subst he;rw [ho] at C;cases C;rw [z] at E;cases E
        | some j0 =>
          rw [z] at q;simp only at q;rw [z] at J;obtain ⟨aN,q⟩:=Zgc q;split at q
          ·rename_i t' aY
           have hm:=ZhK aY;have aZ:Xr ops.toList i=some j0:=(ZrL ho).trans z;obtain ⟨N,ba⟩:=ZlL hU i Y j0 aZ;have aO:j0<a.tmps.size:=by rw [s.size];rw [Nat.blt_eq] at aN;exact aN
           refine aA fuel (Zqf V i) (setB d i) t' _ (a.put (some j0) v.v) w' _ (by omega) U aM T ⟨?_,?_,fun j u H=>?_⟩ (hs.trans Z) J (fun k ok j ao C aq E=>?_) q S
           ·simp [Act.put,s.size]
           ·rw [put_defers];exact s.defers
           ·have aP:(bif Zdj b j then none else e.f j)=some u:=H
            have O:j0≠j:=fun he=>by rw [<- he,N] at aP;cases aP
            have:=s.val j u H;simp only [Act.put];rw [Awj O];exact this
           ·by_cases au:k=i
            ·subst au
             rw [ho] at C;cases C;rw [z] at E;cases E;obtain ⟨y,hy,av⟩:=ZnF hm (ZjC (v:=v) N (hlen.trans ZpC.symm));refine ⟨y,hy,?_⟩;simp [Act.put,aO,av]
            ·have O:j≠j0:=fun he=>au (ba k ok C (by rw [E,he]))
             obtain ⟨x,F,bc⟩:=K k ok j ao C (hold k aq au) E;obtain ⟨y,hy,av⟩:=ZnF hm (show Zal b (ZBw b j0 v (Xl.evs tys t)) j=some x from by rw [Zjb O];exact F);refine ⟨y,hy,?_⟩;simp only [Act.put];rw [Awj (Ne.symm O),av];exact bc
          ·exact q.elim
end
section
variable {c:Cfg} {ops:Array Oper} {D:List Nat} {a0:Act} {w0:World} {Qx:Ex->Env->Zf->Prop}
theorem Zu7 {i m:Nat} {o:Oper} {a:Bool} (h:ZDy c ops o m i a=true):Zcs m i o=true/\((Zgz c o.op = .other->Zld m i 0 ops.toList=true)/\(Zgz c o.op≠ .other->a=true->ZoF ops o m i 0 ops.toList=true)/\(a=false->Zld m i 0 ops.toList=true)):=by
  unfold ZDy at h
  cases d:Zcs m i o with
  | false=>rw [d] at h;cases h
  | true =>
    rw [d] at h;simp only [cond_true] at h;refine ⟨rfl,?_⟩
    cases b:Zgz c o.op with
    | other=>rw [b] at h;exact ⟨fun _=>h,fun f=>absurd rfl f,fun _=>h⟩
    | pure =>
      rw [b] at h
      cases a with
      | true=>exact ⟨fun e=>(by cases e),fun _ _=>h,fun e=>(by cases e)⟩
      | false=>exact ⟨fun e=>(by cases e),fun _ e=>(by cases e),fun _=>h⟩
    | load t x =>
      rw [b] at h
      cases a with
      | true=>exact ⟨fun e=>(by cases e),fun _ _=>h,fun e=>(by cases e)⟩
      | false=>exact ⟨fun e=>(by cases e),fun _ e=>(by cases e),fun _=>h⟩
    | text x =>
      rw [b] at h
      cases a with
      | true=>exact ⟨fun e=>(by cases e),fun _ _=>h,fun e=>(by cases e)⟩
      | false=>exact ⟨fun e=>(by cases e),fun _ e=>(by cases e),fun _=>h⟩
theorem ZkV {a b:Bool} (h:(bif a then b else false)=true):a=true/\b=true:=by
  cases a with
  | false=>cases h
  | true=>exact ⟨rfl,h⟩
theorem Zia (C:Zg3 ops) (X:c.OK) (N:D=ops.toList.filterMap (·.dst)) (A:Region.noSelect ops=true) {K:Env->Zf->Prop} (Q:∀ Y h',K Y h'->Qx .normal Y h') :
    ∀ (l:OrdT) (fuel m:Nat),l.depth<=fuel->Zqq c ops l m=true->Ztv c ops D a0 w0 Qx fuel m (Zqp c ops K l)
  | .done,fuel,m,R,k=>by
    intro listed hd e a w G u hs E q g;unfold Zqp at g;exact ZAn (Zvq G k) ⟨e,u,hs,E,Q _ _ g⟩ fuel
  | .inv L S tys r,fuel,m,R,k=>by
    intro listed hd e a w G u hs E q g;unfold Zqp at g;unfold Zqq at k;obtain ⟨k,T⟩:=ZkV k;simp only [Awn] at k;obtain ⟨I,⟨t,hI⟩,hS,hF⟩:=g;have aw:r.depth+L.length<=fuel:=R;refine ZG6 X N k.1 (Awg k.2) (N0:=r.depth) (fun f ax=>Zia C X N A Q r f _ ax T) hS hF L.length fuel m (fun _=>false) t listed a w (Zet hd) aw Zr1 G (fun j=>by simp) ⟨u.size,u.defers,fun j v hj=>?_⟩ hs E (fun _ _ _ _ _ h _=>by cases h) hI (fun _ h=>h);have hj:(bif Zdj S j then none else e.f j)=some v:=hj
    cases hm:Zdj S j with
    | true=>rw [hm] at hj;cases hj
    | false=>rw [hm] at hj;exact u.val j v hj
  | .fork i r j s,0,m,R,_=>by simp [OrdT.depth] at R
  | .take i fr r,0,m,R,_=>by simp [OrdT.depth] at R
  | .fork i r j s,fuel+1,m,R,k=>by
    have z:r.depth<=fuel:=by
      have h1:Nat.max r.depth s.depth+1<=fuel+1:=R;have Z:r.depth<=Nat.max r.depth s.depth:=Nat.le_max_left _ _;omega
    have ay:s.depth<=fuel:=by
      have h1:Nat.max r.depth s.depth+1<=fuel+1:=R;have Z:s.depth<=Nat.max r.depth s.depth:=Nat.le_max_right _ _;omega
    intro listed hd e a w G u hs E q g;unfold Zqp at g;unfold Zqq at k;split at g
    ·rename_i o p ho hp
     rw [ho,hp] at k;obtain ⟨hb,k⟩:=ZkV k;obtain ⟨aj,T⟩:=ZkV k;simp only [Awn] at hb;have az:=Zia C X N A Q r fuel (Zqf m i) z aj;have aA:=Zia C X N A Q s fuel (Zqf m j) ay T;exact ZDu (ZAD G hb.2.2) (G.ready.2 ⟨o,ho,hb.1⟩) (Zti C X N ho G u hs E q az g.1) (Zti C X N hp G u hs E q aA g.2)
    ·exact g.elim
  | .take i fr r,fuel+1,m,R,k=>by
    have z:r.depth<=fuel:=Nat.le_of_succ_le_succ R;intro listed hd e a w G u hs E q g;unfold Zqp at g;unfold Zqq at k;split at g
    ·exact g.elim
    ·rename_i o ho
     rw [ho] at k;obtain ⟨hb,k⟩:=ZkV k;obtain ⟨O,ak,H,U⟩:=Zu7 hb;have ih:=Zia C X N A Q r fuel (Zqf m i) z k
     have an:Zld m i 0 ops.toList=true->ZEG c ops o hd e w.heap (Zqp c ops K r)->wpK c.rnd c.P ops (Zgd c D a0 w0 Qx) (nxt ops) (Zet hd) (fuel+1) listed a w :=
       fun Z g=>ZtI (Zxn G Z) (G.ready.2 ⟨o,ho,O⟩) (Zti C X N ho G u hs E q ih g)
     have ao:=G.set (Zj7 ho);have aa:∀ v,XP D a0 (a.put o.dst v):=fun v=>E.trans (XP.put fun x hx=>N▸ZgD ho hx);have hQ:∀ c' a' v w',Zgd c D a0 w0 Qx (.panic c') (a'.put o.dst v) w'->Zgd c D a0 w0 Qx (.panic c') a' w':=fun _ _ _ _ h=>Znq (fun x hx=>by rw [N];exact ZgD ho hx) h;split at g
     ·rename_i F
      have aq:ZoF ops o m i 0 ops.toList=true\/Zld m i 0 ops.toList=true:=by
        cases fr with
        | true=>exact .inl (H (by rw [F];intro e;cases e) rfl)
        | false=>exact .inr (U rfl)
      unfold ZHc at g
      rcases ZiD u g with ⟨e1,B,hw,g⟩ | ⟨e1,B,hw,g⟩
      ·obtain ⟨v,M,g⟩:=ZAz B F g
       obtain ⟨Y,V,g⟩:=ZdS B g;exact Zqb C ho A hQ G O aq (v:=v.v) (.inl ⟨hw,fun w _=>M w trivial⟩) q (ih _ hd Y _ w ao V hs (aa _) q g)
      ·obtain ⟨Y,V,g⟩:=ZdS B g
       exact Zqb C ho A hQ G O aq (v:=undef) (.inr ⟨hw,rfl⟩) q (ih _ hd Y _ w ao V hs (aa _) q g)
     ·rename_i t x F
      have J:=Zxx F
      cases z:fr with
      | true =>
        rw [z] at g;simp only [cond_true] at g;refine ZtN C N A ho G u hs E q ih O (H (by rw [F];intro e;cases e) z) (fun e1 B g=>?_) g;split at g
        ·rename_i y hy
         obtain ⟨b,p,hp,g⟩:=Zi7 g;obtain ⟨v,cells,W,M,g⟩:=ZAP g;refine ⟨v,fun h'=>Zo h' cells,Zl7.2 W,fun w' ae=>?_,g⟩;obtain ⟨dst,op,type,pos,after,guard⟩:=o;simp only at J;subst J;refine Zxb (s:=Instr.loadAt t (a.eval x)) ?_;rw [B.ev hy,hp];exact Zo3 (M w' (Zl7.1 ae))
        ·exact g.elim
      | false =>
        rw [z] at g;simp only [cond_false] at g;refine ZEw C N ho G u hs E q ih (fun {e K} h1 Z=>?_) O (U z) g;obtain ⟨dst,op,type,pos,after,guard⟩:=o;simp only at J;subst J;exact Zp6 h1 Z
     ·rename_i x F
      obtain ⟨s,d,el,J,aD,aE,aF⟩:=ZwT F
      cases z:fr with
      | true =>
        rw [z] at g;simp only [cond_true] at g;refine ZtN C N A ho G u hs E q ih O (H (by rw [F];intro e;cases e) z) (fun e1 B g=>?_) g;split at g
        ·rename_i p l n hy
         obtain ⟨str,M,g⟩:=ZsT (P:=c.P) (w:=w) (x:=⟨p,l,n⟩) (K:=fun s=>b2s ⟨p,l,n⟩ w.heap (fun s'=>s'=s)/\Zsi c.n e1 o.dst (.val (.string s)) fun Y=>Zqp c ops K r ((i,fun h'=>b2s ⟨p,l,n⟩ h' fun s'=>s'=s)::hd) Y w.heap) (by
           rcases g with ⟨h0,g⟩ | ⟨b,o2,s,h1,Z,h3,g⟩
           ·exact .inl ⟨h0,.inl ⟨h0,rfl⟩,g⟩
           ·exact .inr ⟨b,o2,s,h1,Z,h3,.inr ⟨b,o2,s,h1,Z,h3,rfl⟩,g⟩)
         refine ⟨.val (.string str),fun h'=>b2s ⟨p,l,n⟩ h' fun s'=>s'=str,g.1,fun w' ae=>?_,g.2⟩;obtain ⟨s2,af,rfl⟩:=ZsT (P:=c.P) (w:=w') ae;obtain ⟨dst,op,type,pos,after,guard⟩:=o;simp only at J;subst J;refine Zxb (s:=convert s d (a.eval x)) ?_;rw [B.ev hy];exact (Zjs aD aE aF).trans af
        ·exact g.elim
      | false =>
        rw [z] at g;simp only [cond_false] at g;exact an (U z) g
     ·rename_i F
      exact an (ak F) g
end
theorem Zpj {e:Env}:∀ {a:List Nat} {es:List EV} {vs:List EV} {j:Nat} {v:EV},Zvl e a=some es->es.map EV.v=vs.map EV.v->Zal a vs j=some v->∃ u,e j=some u/\u.v=v.v
  | [],es,vs,j,v,_,_,h=>by simp [Zal] at h
  | s::f,es,vs,j,v,b,hm,h=>by
    simp only [Zvl] at b;split at b
    ·rename_i u us hu c
     simp only [Awh] at b;subst b
     cases vs with
     | nil=>simp [Zal] at h
     | cons g vs =>
       simp only [Awo,Axw] at hm;simp only [Zal] at h
       cases d:Nat.beq j s with
       | true =>
         have:=Awg d;subst this;rw [d] at h;simp only [cond_true,Awh] at h;subst h;exact ⟨u,hu,hm.1⟩
       | false =>
         rw [d] at h;exact Zpj c hm.2 h
    ·cases b
theorem ZqM {c:Cfg} {b:List Nat} {tys:List VT} {kill:List (Nat × Nat)} {e y:Env} {a a':Act} {D:List Nat} {t:Xl tys} (i:Agr c.n e a) (g:Agr c.n y a') (f:XP D a a')
    (k:D.all (fun j=>bif Nat.beq j mkN then false else Zdj b j||ZrF kill j)=true) (q:ZsU b tys y=some t) (l:∀ j,Zdj b j=true->∃ v,Zal b (Xl.evs tys t) j=some v) :
    Agr c.n (ZoH b (Xl.evs tys t) kill e) a':=by
  have r:mkN∉D:=fun h=>by
    have:=Axb.1 k mkN h;rw [show Nat.beq mkN mkN=true from Axv mkN] at this;cases this
  refine ⟨g.size,(f.2 r).trans i.defers,fun j v d=>?_⟩;unfold ZoH at d;dsimp only at d;unfold ZsU at q;split at q
  ·rename_i es s
   have hm:=ZhK q
   cases hl:Zal b (Xl.evs tys t) j with
   | some u =>
     rw [hl] at d;simp only [Awh] at d;subst d;obtain ⟨x,z,hv⟩:=Zpj s hm.symm hl;rw [<- hv];exact g.val j x z
   | none =>
     rw [hl] at d;simp only at d
     cases w:ZrF kill j with
     | true=>rw [w] at d;cases d
     | false =>
       rw [w] at d;simp only [cond_false] at d
       have m:j∉D:=by
         intro A;have:=Axb.1 k j A
         cases o:Nat.beq j mkN with
         | true=>rw [o] at this;cases this
         | false =>
         rw [o,w,cond_false,Bool.or_false] at this;obtain ⟨B,p⟩:=l j this;rw [hl] at p;cases p
       rw [f.1 j m];exact i.val j v d
  ·cases q
theorem ZrC {e:Env}:∀ {a:List Nat} {es vs:List EV} {j:Nat},Zvl e a=some es->es.map EV.v=vs.map EV.v->Zdj a j=true->∃ v,Zal a vs j=some v
  | [],es,vs,j,_,_,h=>by simp [Zdj] at h
  | s::g,es,vs,j,b,hm,h=>by
    simp only [Zvl] at b;split at b
    ·rename_i u us hu c
     simp only [Awh] at b;subst b
     cases vs with
     | nil=>simp at hm
     | cons d vs =>
       simp only [Awo,Axw] at hm;simp only [Zal];simp only [Zdj] at h
       cases f:Nat.beq j s with
       | true=>exact ⟨d,rfl⟩
       | false =>
         rw [f] at h;exact ZrC c hm.2 h
    ·cases b
theorem Zrp {a:List Nat} {tys:List VT} {e:Env} {t:Xl tys} (b:ZsU a tys e=some t):∀ j,Zdj a j=true->∃ v,Zal a (Xl.evs tys t) j=some v:=by
  intro j d;unfold ZsU at b;split at b
  ·rename_i es c
   exact ZrC c (ZhK b).symm d
  ·cases b
theorem Zpn {a:List Nat} {tys:List VT} {e:Env} {J:Xl tys->Zf->Prop} {h:Zf} (b:ZxG a tys e J h):∃ t,ZsU a tys e=some t/\J t h:=by
  unfold ZxG at b;split at b
  ·rename_i t c
   exact ⟨t,c,b⟩
  ·exact b.elim
theorem Zo1 {n:Nat}:∀ {d:List Tmp} {vs:List EV} {e c:Env} {a:Act},Agr n e a->Zo2 n e d vs=some c ->
    Agr n c { a with tmps:=(d.zip (vs.map EV.v)).foldl (fun t x=>t.setIfInBounds x.1 x.2) a.tmps }
  | [],[],e,c,a,b,h=>by
    simp only [Zo2,Awh] at h;subst h;exact b
  | p::d,v::vs,e,c,a,b,h=>by
    simp only [Zo2] at h
    cases f:Nat.blt p n with
    | false=>rw [f] at h;cases h
    | true =>
      rw [f] at h;exact Zo1 (a:=a.put (some p) v.v) (b.set f v) h
  | [],_::_,e,c,a,b,h=>by cases h
  | _::_,[],e,c,a,b,h=>by cases h
theorem Zxe (a:Array Tmp) (vs:List Value) (tmps:Array Value):(a.zip vs.toArray).foldl (fun t x=>t.setIfInBounds x.1 x.2) tmps=(a.toList.zip vs).foldl (fun t x=>t.setIfInBounds x.1 x.2) tmps:=by
  rw [<- Array.foldl_toList,Array.toList_zip]
theorem ZcK:∀ (code:Code) (c:Cfg) (_:c.OK) (_:c.P.follows .mixedOrders=true) (G:Ann) (e:Env) (a:Act) (w:World) (Q:Ex->Env->Zf->Prop),
    Agr c.n e a->wpC c code G e w.heap Q->code.wpIn (fen c.rnd) 0 c.P (Zgd c (Zgb code) a w Q) a w
  | .skip,c,K,d,G,e,a,w,Q,m,i=>wpIn_skip ⟨e,m,Same.refl w,XP.refl _ a,i⟩
  | .region id ops draw,c,K,d,G,e,a,w,Q,m,i=>by
    unfold wpC at i
    cases draw with
    | false =>
      refine wpIn_region ?_;rw [List.range_eq_range'];have:=Znj K (ops:=ops) (Q:=Zgd c (Zgb (.region id ops false)) a w Q) ops.toList 0 (by simp) m i (fun N a' w' h1 B h3 o=>⟨N,h1,B,h3,o⟩) (fun v a' w' B h3 o=>⟨v,rfl,B,h3,o⟩);simpa using this
    | true =>
      simp only at i;split at i
      ·rename_i l
       obtain ⟨H,i⟩:=Zgc i;simp only [Awn] at H;refine wpIn_region_any d (ZwG (nx:=nxt ops) _ (Zet []) _ _ _ ?_);exact Zia (Zvr H.2.2.1) K (D:=Zgb (.region id ops true)) rfl H.1 (fun _ _ h=>h) l ops.size 0 (Awt H.2.1) H.2.2.2 _ [] e a { w with drawn:=w.drawn+1 } (Rel.zero ops) m ⟨rfl,rfl,rfl⟩ (XP.refl _ a) (fun q hq=>(by cases hq)) i
      ·obtain ⟨H,i⟩:=Zgc i
       simp only [Awn] at H;have aj:c.rnd=none:=Axu.1 H.1;rw [aj];refine wpIn_region_quiet (C:=Cls w w.heap) rfl d H.2 ⟨⟨rfl,rfl,rfl⟩,rfl⟩ ?_;refine Zqn K ops.toList 0 (by simp) m i fun N a' h1 h3 o w' hw=>⟨N,h1,hw.1,h3,?_⟩;rw [hw.2];exact o
  | .seq x y,c,K,d,G,e,a,w,Q,m,i=>by
    have plain:∀ u v:Ann,wpC c x u e w.heap (ZA3 (fun N h'=>wpC c y v N h' Q) Q)->(Code.seq x y).wpIn (fen c.rnd) 0 c.P (Zgd c (Zgb (.seq x y)) a w Q) a w:=by
      intro u v i;refine wpIn_seq (wpIn_mono (ZcK x c K d u e a w _ m i) ?_);intro ex a' w' L
      cases ex<;>first
        | exact L.elim
        | skip
      ·obtain ⟨N,h1,B,h3,o⟩:=L
       refine wpIn_mono (ZcK y c K d v N a' w' _ h1 o) ?_;exact Zgd.mono B (h3.mono fun j E=>Axx.2 (.inl E)) (fun j E=>Axx.2 (.inr E)) (fun _ _ _ h=>h)
      ·obtain ⟨N,h1,B,h3,o⟩:=L
       exact ⟨N,h1,B,h3.mono fun j E=>Axx.2 (.inl E),o⟩
      ·obtain ⟨N,h1,B,h3,o⟩:=L
       exact ⟨N,h1,B,h3.mono fun j E=>Axx.2 (.inl E),o⟩
      ·obtain ⟨v,h1,B,h3,o⟩:=L
       exact ⟨v,h1,B,h3.mono fun j E=>Axx.2 (.inl E),o⟩
    unfold wpC at i;split at i
    ·rename_i z tys kill u v
     cases O:Zuj z kill x with
     | false=>rw [O] at i;exact i.elim
     | true =>
       rw [O] at i;obtain ⟨J,hJ,i⟩:=i;refine wpIn_seq (wpIn_mono (ZcK x c K d u e a w _ m i) ?_);intro ex a' w' L
       cases ex<;>first
         | exact L.elim
         | skip
       ·obtain ⟨N,h1,B,h3,o⟩:=L
        obtain ⟨t,ht,E⟩:=Zpn o;have U:=ZqM m h1 h3 O ht (Zrp ht);refine wpIn_mono (ZcK y c K d v _ a' w' _ U (hJ t w'.heap E)) ?_;exact Zgd.mono B (h3.mono fun j E=>Axx.2 (.inl E)) (fun j E=>Axx.2 (.inr E)) (fun _ _ _ h=>h)
       ·obtain ⟨N,h1,B,h3,o⟩:=L
        exact ⟨N,h1,B,h3.mono fun j E=>Axx.2 (.inl E),o⟩
       ·obtain ⟨N,h1,B,h3,o⟩:=L
        exact ⟨N,h1,B,h3.mono fun j E=>Axx.2 (.inl E),o⟩
       ·obtain ⟨v,h1,B,h3,o⟩:=L
        exact ⟨v,h1,B,h3.mono fun j E=>Axx.2 (.inl E),o⟩
    ·exact plain _ _ i
  | .cond x p q,c,K,d,G,e,a,w,Q,m,i=>by
    have yes:∀ u,wpC c p u e w.heap Q->p.wpIn (fen c.rnd) 0 c.P (Zgd c (Zgb (.cond x p q)) a w Q) a w:=fun u i =>
      wpIn_mono (ZcK p c K d u e a w Q m i) (Zgd.mono (Same.refl w) (XP.refl _ a) (fun j E=>Axx.2 (.inl E)) (fun _ _ _ h=>h))
    have no:∀ u,wpC c q u e w.heap Q->q.wpIn (fen c.rnd) 0 c.P (Zgd c (Zgb (.cond x p q)) a w Q) a w:=fun u i =>
      wpIn_mono (ZcK q c K d u e a w Q m i) (Zgd.mono (Same.refl w) (XP.refl _ a) (fun j E=>Axx.2 (.inr E)) (fun _ _ _ h=>h))
    unfold wpC at i;split at i
    ·rename_i hx;exact wpIn_cond_true (m.ev hx) (yes _ i)
    ·rename_i hx;exact wpIn_cond_false (m.ev hx) (no _ i)
    ·rename_i b hx
     exact wpIn_cond_split (m.ev hx) (fun H=>yes _ (i.1 H)) (fun H=>no _ (i.2 H))
    ·exact i.elim
  | .block id x,c,K,d,G,e,a,w,Q,m,i=>by
    unfold wpC at i;refine wpIn_block (wpIn_mono (ZcK x c K d _ e a w _ m i) ?_);intro ex a' w' L
    cases ex<;>first
      | exact L.elim
      | skip
    ·exact L
    ·rename_i aN
     obtain ⟨N,h1,B,h3,o⟩:=L;simp only [Exit.inBlock];simp only [ZBS] at o
     cases H:Nat.beq aN id with
     | true =>
       rw [H] at o;rw [if_pos (Awg H)];exact ⟨N,h1,B,h3,o⟩
     | false =>
       rw [H] at o;rw [if_neg (Awi H)];exact ⟨N,h1,B,h3,o⟩
    ·exact L
    ·exact L
  | .loop x,c,K,d,G,e,a,w,Q,m,i=>by
    unfold wpC at i;split at i
    ·rename_i z tys kill u
     cases O:Zuj z kill x with
     | false=>rw [O] at i;exact i.elim
     | true =>
       rw [O] at i;simp only [cond_true] at i;split at i
       ·rename_i t0 aA
        obtain ⟨I,μ,h0,hr⟩:=i;have ae:=Zrp aA
        have ak:∀ (t:Xl tys) j,Zdj z j=true->∃ v,Zal z (Xl.evs tys t) j=some v:=by
          intro t j E;obtain ⟨v,hv⟩:=ae j E
          have len:∀ (ts:List VT) (s s':Xl ts),(Xl.evs ts s).length=(Xl.evs ts s').length:=by
            intro ts
            induction ts with
            | nil=>intro s s';rfl
            | cons x xs ih=>intro s s';simp only [Xl.evs,Aqj];exact congrArg _ (ih _ _)
          have go:∀ (ss:List Nat) (us vs:List EV),us.length=vs.length->(∃ v,Zal ss us j=some v)->∃ v,Zal ss vs j=some v:=by
            intro ss
            induction ss with
            | nil=>intro us vs _ h;simp [Zal] at h
            | cons s ss ih =>
              intro us vs hlen h
              cases us with
              | nil=>simp [Zal] at h
              | cons u us =>
                cases vs with
                | nil=>simp at hlen
                | cons v' vs =>
                  simp only [Zal] at h ⊢
                  cases H:Nat.beq j s with
                  | true=>exact ⟨v',rfl⟩
                  | false =>
                    rw [H] at h;exact ih us vs (by simpa using hlen) h
          exact go z _ _ (len tys t0 t) ⟨v,hv⟩
        refine wpIn_loop_ghost (fun n a' w'=>Same w w'/\XP (Zgb x) a a'/\∃ t,Agr c.n (ZoH z (Xl.evs tys t) kill e) a'/\I t w'.heap/\n=μ t w'.heap)
          (μ t0 w.heap) ⟨Same.refl w,XP.refl _ a,t0,ZqM m m (XP.refl _ a) O aA ae,h0,rfl⟩ ?_
        rintro n a' w' ⟨hs,M,t,aD,hI,rfl⟩;refine wpIn_mono (ZcK x c K d u _ a' w' _ aD (hr t w'.heap hI)) ?_;intro ex a2 w2 L
        cases ex<;>first
          | exact L.elim
          | skip
        ·obtain ⟨Z,h1,B,h3,o⟩:=L
         have h5:ZxG z tys Z (fun s' h'=>I s' h'/\μ s' h'<μ t w'.heap) w2.heap:=o;obtain ⟨t2,aP,aQ,hμ⟩:=Zpn h5;exact ⟨_,hμ,hs.trans B,M.trans h3,t2,ZqM m h1 (M.trans h3) O aP (ak t2),aQ,rfl⟩
        ·obtain ⟨Z,h1,B,h3,o⟩:=L
         exact ⟨Z,h1,hs.trans B,M.trans h3,o⟩
        ·obtain ⟨Z,h1,B,h3,o⟩:=L
         exact ⟨Z,h1,hs.trans B,M.trans h3,o⟩
        ·obtain ⟨v,h1,B,h3,o⟩:=L
         exact ⟨v,h1,hs.trans B,M.trans h3,o⟩
       ·exact i.elim
    ·exact i.elim
  | .exit id,c,K,d,G,e,a,w,Q,m,i=>wpIn_exit ⟨e,m,Same.refl w,XP.refl _ a,i⟩
  | .ret,c,K,d,G,e,a,w,Q,m,i=>wpIn_ret ⟨e,m,Same.refl w,XP.refl _ a,i⟩
  | .rangeFunc g ps assign body,c,K,d,G,e,a,w,Q,m,i=>by
    unfold wpC at i;split at i
    ·rename_i tys x y
     cases H:(c.rnd.isNone&&e.mD.isNo) with
     | false=>rw [H] at i;exact i.elim
     | true =>
       rw [H] at i;simp only [cond_true] at i;simp only [Awn] at H;have aj:c.rnd=none:=Axu.1 H.1
       have aR:e.mD = .no:=by
         cases h9:e.mD with
         | no=>rfl
         | at_ D9=>rw [h9] at H;cases H.2
         | raw d9=>rw [h9] at H;cases H.2
       have aS:a.defers=[]:=by rw [m.defers,aR];rfl
       split at i
       ·rename_i f cs hg
        split at i
        ·rename_i s t L
         obtain ⟨af,ht⟩:=Zns L;dsimp only at af ht;have aE:=K.iters _ af;dsimp only at aE;have aT:a.eval g=Value.func (.func f) #[] ⟨cs⟩:=m.ev hg;rw [aj];refine wpIn_rangeFunc ?_;intro fn aU;obtain ⟨r,hr⟩:∃ r:Loop,r={ state:= .ready,pending:=none,fn,tmps:=a.tmps,params:=ps,assign,body,defers:=w.heap.size }:=⟨_,rfl⟩;have ag:=i r;clear i;obtain ⟨W1,ao⟩:∃ W1,(w.alloc (.deferred (some []))).alloc (Zdo r .ready none)=W1:=⟨_,rfl⟩;have aV:W1.heap=(w.heap.push (.deferred (some []))).push (Zdo r .ready none):=by rw [<- ao];rfl
         have aW:Same w W1:=by rw [<- ao];exact ⟨rfl,rfl,rfl⟩
         rw [<- aV] at ag
         have hY:YOK c.P (ZoQ r (w.heap.size+1) ps.size (fun vs h' k=>Zys (fun a:Xl tys=>(Xl.evs tys a).map EV.v) vs fun a=>match Zo2 c.n ⟨e.f,.no⟩ ps.toList (Xl.evs tys a) with
           | some e1=>wpC { c with rnd:=some (w.heap.size+1),pan:=fun _ _=>False } assign x e1 h' (ZBz fun Z B =>
               Ztn r (w.heap.size+1) B fun h3=>wpC { c with rnd:=some (w.heap.size+1),pan:=fun _ _=>False } body y Z h3 (ZBy k))
           | none=>False)):=by
           intro l vs k W hy;obtain ⟨rfl,hlen,V,F⟩:=hy;obtain ⟨ta,rfl,F⟩:=F;split at F
           ·rename_i e1 aY
            have aq:W.heap[w.heap.size+1]?=some (.loop { r with state:= .ready,pending:=none }):=V;have hy:=run_yield (P:=c.P) (args:=((Xl.evs tys ta).map EV.v).toArray) aq (by rw [hr];simpa using hlen);refine ⟨fn,(ps.zip ((Xl.evs tys ta).map EV.v).toArray).foldl (fun t x=>t.setIfInBounds x.1 x.2) a.tmps,assign,body,by rw [hr] at hy;exact hy,?_⟩
            have ai:Agr c.n e1 { tmps:=(ps.toList.zip ((Xl.evs tys ta).map EV.v)).foldl (fun t x=>t.setIfInBounds x.1 x.2) a.tmps,defers:=[]} :=
              Zo1 (e:=⟨e.f,.no⟩) (a:={ a with defers:=[]}) ⟨m.size,rfl,m.val⟩ aY
            have aF:=K.at (some (w.heap.size+1)) (fun _ _=>False);rw [<- Zxe] at ai;refine roundIn_of_wpIn aU ?_;refine wpIn_mono (ZcK assign _ aF d x e1 _ W _ ai F) ?_;intro ex a1 w1 S
            cases ex with
            | normal =>
              obtain ⟨Z,U,aa,bq,ar,aZ⟩:=S;have aG:w1.heap[w.heap.size+1]?=some (.loop { r with state:= .ready,pending:=none }):=ar;refine ⟨_,run_beginRound aG rfl,?_⟩;refine wpIn_mono (ZcK body _ aF d y Z a1 (w1.putObj (w.heap.size+1) (.loop { r with state:= .busy,pending:=none })) _ U aZ) ?_;have X:Same W (w1.putObj (w.heap.size+1) (.loop { r with state:= .busy,pending:=none })):=aa.trans ⟨rfl,rfl,rfl⟩
              have fin:∀ (p:Option Code) (W3:World),Same (w1.putObj (w.heap.size+1) (.loop { r with state:= .busy,pending:=none })) W3 ->
                  ZvA W3.heap (w.heap.size+1) r .busy none (k p.isNone (Znb W3.heap (w.heap.size+1) (Zdo r (if p.isNone then .ready else .done) p))) ->
                  ∃ v w',(Instr.endRound (w.heap.size+1) p).run c.P W3 = .ok v w'/\∃ b,Ending.returned v = .returned (.bool b)/\Same W w'/\k b w'.heap:=by
                intro p W3 R A;have aH:W3.heap[w.heap.size+1]?=some (.loop { r with state:= .busy,pending:=none }):=A.1;exact ⟨_,_,run_endRound p aH,p.isNone,rfl,(X.trans R).trans ⟨rfl,rfl,rfl⟩,A.2⟩
              intro ba a3 w3 T
              cases ba with
              | normal=>obtain ⟨e3,_,R,_,A⟩:=T;exact fin none w3 R A
              | ret=>obtain ⟨e3,_,R,_,A⟩:=T;exact fin (some .ret) w3 R A
              | exit id=>obtain ⟨e3,_,R,_,A⟩:=T;exact fin (some (.exit id)) w3 R A
              | goto t=>exact T.elim
              | panic ch=>obtain ⟨_,_,_,_,A⟩:=T;exact A.elim
              | outgrown=>exact T.elim
            | ret=>obtain ⟨_,_,_,_,A⟩:=S;exact A.elim
            | exit id=>obtain ⟨_,_,_,_,A⟩:=S;exact A.elim
            | goto t=>exact S.elim
            | panic ch=>obtain ⟨_,_,_,_,A⟩:=S;exact A.elim
            | outgrown=>exact S.elim
           ·exact F.elim
         have bc:=aE _ hY;obtain ⟨⟨fd,hf,au,av⟩,aw⟩:=bc
         have F:(#[Value.func (.yield (w.heap.size+1)) #[] #[]]:Array Value)++(⟨cs⟩:Array Value)=((Xl.evs (.yl::s.caps) (w.heap.size+1,t)).map EV.v).toArray:=by
           have h5:=ZhK ht;have h6:(cs.map EV.val).map EV.v=cs:=by simp [Function.comp_def,EV.v]
           rw [h6] at h5;simp only [Xl.evs,Awo,h5];simp [VT.ev,EV.v]
         refine ⟨w.heap.size+1,[{ target:= .collected w.heap.size,args:= #[]}],W1,{ target:= .fn (.func f) ⟨cs⟩,args:= #[.func (.yield (w.heap.size+1)) #[] #[]]},W1,f,
           #[.func (.yield (w.heap.size+1)) #[] #[]]++(⟨cs⟩:Array Value),W1,?_,?_,?_,?_,fun h=>(by cases h),Zi5.2 ?_⟩
         ·rw [<- ao,hr]
          exact run_enterLoop_outer fn a.tmps ps assign body
         ·simp only [resolve,aT]
          simp [Deferred.ofValue,Act.eval]
         ·intro f' bw;exact trivial
         ·simp only [invoke,callFunc,Awk,run_program,Awl,hf,au,Aqc,if_false,av,Awp]
         ·rw [F]
          refine (aw (w.heap.size+1,t) (fun _ h'=>∃ st p,st≠ .busy/\ZvA h' (w.heap.size+1) r st p (Zvz p (Q .normal ⟨e.f,.at_ w.heap.size⟩ (Znb h' (w.heap.size+1) (Zdo r .exhausted p)))
            (fun id=>Q (.exit id) ⟨e.f,.at_ w.heap.size⟩ (Znb h' (w.heap.size+1) (Zdo r .exhausted p))) (Q .ret ⟨e.f,.at_ w.heap.size⟩ (Znb h' (w.heap.size+1) (Zdo r .exhausted p))))) (fun _ _=>False) W1 ag).mono ?_
          rintro ending w2 (⟨rr,rfl,aa,st,p,bd,V,E⟩ | ⟨v,rfl,aa,i⟩)
          ·have aq:w2.heap[w.heap.size+1]?=some (.loop { r with state:=st,pending:=p }):=V
           have aI:=run_endLoop (P:=c.P) aq (by exact bd);have X:Same w (w2.putObj (w.heap.size+1) (Zdo r .exhausted p)):=(aW.trans aa).trans ⟨rfl,rfl,rfl⟩;have Y:Agr c.n ⟨e.f,.at_ w.heap.size⟩ { a with defers:=[{ target:= .collected w.heap.size,args:= #[]}]++a.defers }:=⟨m.size,by rw [aS];rfl,m.val⟩;have ax:XP (Zgb (.rangeFunc g ps assign body)) a { a with defers:=[{ target:= .collected w.heap.size,args:= #[]}]++a.defers }:=⟨fun _ _=>rfl,fun h=>absurd (Axs.2 rfl) h⟩;refine ⟨p,_,aI,?_⟩
           cases p with
           | none=>exact ⟨_,Y,X,ax,E⟩
           | some cj =>
             cases cj with
             | exit id=>exact wpIn_exit ⟨_,Y,X,ax,E⟩
             | ret=>exact wpIn_ret ⟨_,Y,X,ax,E⟩
             | _=>exact E.elim
          ·exact i.elim
        ·exact i.elim
       ·exact i.elim
    ·exact i.elim
  | .scope _,c,K,d,G,e,a,w,Q,m,i=>i.elim
  | .label _,c,K,d,G,e,a,w,Q,m,i=>i.elim
  | .goto _,c,K,d,G,e,a,w,Q,m,i=>i.elim
  | .refuse _,c,K,d,G,e,a,w,Q,m,i=>i.elim
theorem ZpJ:∀ (args:List EV) (i:Nat) (j:Nat) (v:EV),Zoh.go args i j=some v->∃ k,j=i+k/\args[k]?=some v
  | [],i,j,v,h=>by simp [Zoh.go] at h
  | x::xs,i,j,v,h=>by
    simp only [Zoh.go] at h
    cases a:Nat.beq j i with
    | true =>
      rw [a] at h;simp only [cond_true,Awh] at h;exact ⟨0,Awg a,by simp [h]⟩
    | false =>
      rw [a] at h;obtain ⟨k,b,hv⟩:=ZpJ xs (i+1) j v h;exact ⟨k+1,by omega,by simpa using hv⟩
theorem Znm {c:Cfg} {e:Env} {a:Act} {w:World} (g:Agr c.n e a) {f:ResultVar->Sem Value} (h1:∀ t,f (.tmp t)=pure (a.tmps.getD t undef))
    (h:∀ x t,f (.cell x t)=(do loadVar t (<- asAddr (a.tmps.getD x undef)))):∀ {rs:List ResultVar} {K:List EV->Prop},ZyY c e w.heap rs K ->
    ∃ vs,(rs.mapM f).run c.P w = .ok (vs.map EV.v) w/\K vs
  | [],K,d=>⟨[],rfl,d⟩
  | .tmp t::r,K,d=>by
    simp only [ZyY] at d;split at d
    ·rename_i v hv
     obtain ⟨vs,i,d⟩:=Znm g h1 h d;refine ⟨v::vs,?_,d⟩;have:=g.val t v hv;rw [Awz];simp only [h1,Awk,Awp,Awl,i,Awo];simp [this]
    ·exact d.elim
  | .cell x t::r,K,d=>by
    simp only [ZyY] at d;split at d
    ·rename_i b o hv
     obtain ⟨v,hl,d⟩:=Zua d;obtain ⟨vs,i,d⟩:=Znm g h1 h d;refine ⟨v::vs,?_,d⟩;have:=g.val x _ hv
     have j:(asAddr (a.tmps.getD x undef)).run c.P w = .ok ⟨b,o,none⟩ w:=by
       have:a.tmps.getD x undef = .pointer (some ⟨b,o,none⟩):=by simp [this,EV.v]
       rw [this];rfl
     rw [Awz];simp only [h,Awk,Awp,j,Awl,hl w rfl,i,Awo]
    ·exact d.elim
def ZNK (l:List Value):Value:=match l with
  | [v]=>v
  | l=> .tuple l.toArray
theorem ZwQ:∀ (vs:List EV),(ZgV vs).v=ZNK (vs.map EV.v)
  | []=>rfl
  | [_]=>rfl
  | _::_::_=>rfl
theorem ZwS (l:List Value):(if h:l.toArray.size=1 then l.toArray[0] else Value.tuple l.toArray)=ZNK l:=by
  match l with
  | []=>rfl
  | [x]=>rfl
  | x::y::r =>
    have:¬ (x::y::r).toArray.size=1:=by simp
    rw [dif_neg this];rfl
theorem ZDL {res:List VT} {vs:List EV} {r:Xl res} (h:Xl.un res vs=some r):ZGw res r=ZNK (vs.map EV.v):=by
  unfold ZGw;rw [ZwQ,ZhK h]
theorem ZvD {c:Cfg} (E:c.OK) (g:c.P.follows .mixedOrders=true) {f:FuncId} {fn:Func} {s:Ann} {args:List EV} {res:List VT} {K:Xl res->Zf->Prop} {m:Value->Zf->Prop} {w:World}
    (F:c.P.funcs[f]?=some fn) (G:c.n=fn.ntmps) (hlen:args.length<=fn.ntmps) (d:ZE7 c fn s args res K m w.heap) :
    Calls c.P f (args.map EV.v).toArray w (Zkg res w K m):=by
  unfold ZE7 at d;split at d
  ·rename_i code p
   refine Zi5 (r:=none) (n:=0).1 (callsIn_of_wp_marks F p trivial ?_)
   have y:Agr c.n (Zoh args) { tmps:=(args.map EV.v).toArray++Array.replicate (fn.ntmps - (args.map EV.v).toArray.size) undef,defers:=[]}:=by
     refine ⟨by simp [G];omega,rfl,fun j v H=>?_⟩;obtain ⟨k,d,hv⟩:=ZpJ args 0 j v H
     have u:k<args.length:=by
       rcases Aqd k args.length with h | h
       ·exact h
       ·rw [Aqt h] at hv;cases hv
     simp only [Awb] at d;subst d;simp [u,Array.getElem?_append];have C:=Axy u;rw [hv] at C;exact congrArg EV.v (Option.some.inj C.symm)
   refine wpIn_mono (ZcK code _ (E.at none (bif ZEn code then fun _ _=>False else m)) g s _ _ w _ y d) ?_
   have i:∀ (a':Act) (w1:World) (b:Env),Agr c.n b a'->Same w w1->(ZyY c b w1.heap fn.results.toList fun vs=>match Xl.un res vs with
       | some r=>K r w1.heap
       | none=>False)->∃ v,(results fn a'.tmps).run c.P w1 = .ok v w1/\Zkg res w K m (.returned v) w1:=by
     intro a' w1 b h1 e a
     obtain ⟨vs,I,d⟩:=Znm (f:=fun
       | .tmp t=>pure (a'.tmps.getD t undef)
       | .cell x t=>do loadVar t (<- asAddr (a'.tmps.getD x undef))) h1 (fun _=>rfl) (fun _ _=>rfl) a
     split at d
     ·rename_i r z
      refine ⟨ZGw res r,?_,.inl ⟨r,rfl,e,d⟩⟩;unfold results;rw [Axa];simp only [Awk,Sem.run_map];have A:=I;refine (congrArg (fun r=>(Result.andThen (Result.andThen r _) _)) A).trans ?_;simp only [Awl,Awp];rw [ZDL z];exact congrArg (fun v=>Result.ok v w1) (ZwS _)
     ·exact d.elim
   have fin:∀ (a':Act) (w':World) (b:Env),Agr c.n b a'->Same w w'->(match b.mD with
       | .no=>ZyY c b w'.heap fn.results.toList fun vs=>match Xl.un res vs with
         | some r=>K r w'.heap
         | none=>False
       | .at_ D=>Zk3 D w'.heap fun h'=>ZyY c b h' fn.results.toList fun vs=>match Xl.un res vs with
         | some r=>K r h'
         | none=>False
       | .raw _=>False)->LeavesInM (fen none) 0 c.P fn a'.tmps (Zkg res w K m) a'.defers .returning w':=by
     intro a' w' b h1 e a;rw [h1.defers]
     cases hm:b.mD with
     | raw M=>rw [hm] at a;exact a.elim
     | no =>
       rw [hm] at a;exact i a' w' b h1 e a
     | at_ D =>
       rw [hm] at a;obtain ⟨J,a⟩:=a;refine ⟨by simp,.inl ⟨D,_,rfl,run_takeDeferred J,?_⟩⟩;exact i a' (w'.putObj D (.deferred none)) b h1 (e.trans ⟨rfl,rfl,rfl⟩) a
   intro ex a' w' q
   cases ex with
   | normal=>obtain ⟨b,h1,e,h3,a⟩:=q;exact fin a' w' b h1 e a
   | ret=>obtain ⟨b,h1,e,h3,a⟩:=q;exact fin a' w' b h1 e a
   | exit id=>obtain ⟨b,h1,e,h3,a⟩:=q;exact a.elim
   | goto t=>exact q.elim
   | outgrown=>exact q.elim
   | panic ch =>
     obtain ⟨v,rfl,e,h3,a⟩:=q
     cases o:ZEn code with
     | true=>rw [o] at a;exact a.elim
     | false =>
       rw [o] at a
       have B:mkN∉Zgb code:=by
         have key:∀ (l:List Nat),Zdj l mkN=false->mkN∉l:=by
           intro l
           induction l with
           | nil=>intro _ h;cases h
           | cons x xs L =>
             intro h hm;simp only [Zdj] at h
             cases p:Nat.beq mkN x with
             | true=>rw [p] at h;cases h
             | false =>
               rw [p] at h
               rcases Awr.1 hm with he | hm
               ·rw [<- he,Axv] at p;cases p
               ·exact L h hm
         exact key _ o
       rw [show bodyPostM (fen none) 0 c.P fn (Zkg res w K m) (.panic [{ v,recovered:=false }]) a' w'=LeavesInM (fen none) 0 c.P fn a'.tmps (Zkg res w K m) a'.defers (.panicking [{ v,recovered:=false }]) w' from rfl,h3.2 B];exact .inr ⟨v,rfl,e,a⟩
  ·exact d.elim
inductive AllOK (P:Program):List (FuncId × Zh)->Prop
  | nil:AllOK P []
  | cons {f:FuncId} {s:Zh} {l:List (FuncId × Zh)} (h:ZC P f s) (r:AllOK P l):AllOK P ((f,s)::l)
theorem ZpK {P:Program}:∀ {l:List (FuncId × Zh)},AllOK P l->∀ x,x∈l->ZC P x.1 x.2
  | [],_,x,h=>by cases h
  | _::_,.cons h0 a,x,h=>by
    cases h with
    | head=>exact h0
    | tail _ h=>exact ZpK a x h
inductive AllExt (P:Program):List FuncId->Prop
  | nil:AllExt P []
  | cons {f:FuncId} {l:List FuncId} (h:ZyQ P f) (r:AllExt P l):AllExt P (f::l)
theorem ZpL {P:Program}:∀ {l:List FuncId},AllExt P l->∀ f,f∈l->ZyQ P f
  | [],_,x,h=>by cases h
  | _::_,.cons h0 a,x,h=>by
    cases h with
    | head=>exact h0
    | tail _ h=>exact ZpL a x h
inductive AllDyn (P:Program):List (String × TypeId × FuncId)->Prop
  | nil:AllDyn P []
  | cons {n:String} {t:TypeId} {f:FuncId} {l:List (String × TypeId × FuncId)} (h:ZuD P n t f) (r:AllDyn P l):AllDyn P ((n,t,f)::l)
theorem ZpM {P:Program}:∀ {l:List (String × TypeId × FuncId)},AllDyn P l->∀ x,x∈l->ZuD P x.1 x.2.1 x.2.2
  | [],_,x,h=>by cases h
  | _::_,.cons h0 a,x,h=>by
    cases h with
    | head=>exact h0
    | tail _ h=>exact ZpM a x h
inductive AllIter (P:Program):List (FuncId × ZcI)->Prop
  | nil:AllIter P []
  | cons {f:FuncId} {s:ZcI} {l:List (FuncId × ZcI)} (h:Zsc P f s) (r:AllIter P l):AllIter P ((f,s)::l)
theorem Zoi {P:Program}:∀ {l:List (FuncId × ZcI)},AllIter P l->∀ x,x∈l->Zsc P x.1 x.2
  | [],_,x,h=>by cases h
  | _::_,.cons h0 a,x,h=>by
    cases h with
    | head=>exact h0
    | tail _ h=>exact Zoi a x h
inductive AllAdd (P:Program):List FuncId->Prop
  | nil:AllAdd P []
  | cons {f:FuncId} {l:List FuncId} (h:ZyT P f) (r:AllAdd P l):AllAdd P (f::l)
theorem ZpN {P:Program}:∀ {l:List FuncId},AllAdd P l->∀ f,f∈l->ZyT P f
  | [],_,x,h=>by cases h
  | _::_,.cons h0 a,x,h=>by
    cases h with
    | head=>exact h0
    | tail _ h=>exact ZpN a x h
theorem ZhG (c:Cfg) (h:AllOK c.P c.calls) (h':AllExt c.P c.ext) (h'':AllDyn c.P c.dyn) (h3:AllIter c.P c.iters) (a:YOK c.P c.yld) (b:AllAdd c.P c.adds:=by exact AllAdd.nil):c.OK:=⟨ZpK h,ZpL h',ZpM h'',Zoi h3,a,ZpN b⟩
theorem Zyc {P:Program} {f:FuncId} {fn:Func} (c:P.funcs[f]?=some fn) (a:(fn.name == "runtime.NumGoroutine")=false) (d:fn.body.isNone=true) (g:Extern.findNext fn=none)
    (he:Extern.find fn=some Extern.MapsClone.clone):ZyQ P f:=by
  intro t b es cl w hw;refine ⟨{ w with heap:=w.heap.push (.map es cl)},?_,⟨rfl,rfl,rfl⟩,rfl⟩;rw [run_callFunc_extern c a d g he]
  have e:Extern.MapsClone.clone #[.iface t (.map (some b))]=(getObj b >>=fun o=>match o with
      | .map entries clock=>(newObj (.map entries clock) >>=fun n=>pure (.iface t (.map (some n))))
      | _=>stuck "maps.clone: a map expected"):=rfl
  rw [e];simp only [Awk,MapKept.run_getObj_map hw,Awl];rfl
theorem ZEB {P:Program} {f:FuncId} {fn:Func} (d:P.funcs[f]?=some fn) (a:(fn.name == "runtime.NumGoroutine")=false) (g:fn.body.isNone=true) (h:Extern.findNext fn=none)
    (he:Extern.find fn=some fun args=>(do let (x,y,c) <- Extern.MathBitsCarry.three "Add64" args;pure (Extern.MathBitsCarry.pair ((x+y+c) % Extern.MathBitsCarry.m64) ((x+y+c) / Extern.MathBitsCarry.m64)))):ZyT P f:=by
  intro x y z w hz;rw [run_callFunc_extern d a g h he]
  have e:Extern.MathBitsCarry.three "Add64" #[.int .u64 x,.int .u64 y,.int .u64 z]=(do
      let c:=(<- asInt (.int .u64 z)).toNat
      if c>1 then unsupported (.noEntry ("extern/math/bits." ++ "Add64" ++ ": a carry that is neither 0 nor 1"))
      pure ((<- asInt (.int .u64 x)).toNat,(<- asInt (.int .u64 y)).toNat,c)):=rfl
  have b:∀ n:Int,(asInt (.int .u64 n)).run P w = .ok n w:=fun _=>rfl;simp only [e,Awk,b,Awl,if_neg (Nat.not_lt.2 hz)];simp only [Awk,b,Awl,Awp];rfl
theorem ZDT {c:Cfg} {f:FuncId} {fn:Func} {e:Ann} {s:Zh} (i:c.P.funcs[f]?=some fn) (b:(fn.name == "runtime.NumGoroutine")=false) (d:fn.body.isNone=false)
    (j:c.n=fn.ntmps) (hlen:s.args.length<=fn.ntmps) (k:c.OK) (a:c.P.follows .mixedOrders=true)
    (l:∀ (t:Xl s.args) (K:Xl s.res->Zf->Prop) (g:Value->Zf->Prop) (h:Zf),ZE7 c fn e (Xl.evs s.args t) s.res K g h=s.sem t K g h):ZC c.P f s where
  named:=⟨fn,i,b,d⟩
  calls t K g w m:=by
    have hl:(Xl.evs s.args t).length<=fn.ntmps:=by
      have:∀ (vs:List VT) (x:Xl vs),(Xl.evs vs x).length=vs.length:=by
        intro vs
        induction vs with
        | nil=>intro x;rfl
        | cons v vs o=>intro x;simp only [Xl.evs,Aqj,o]
      rw [this];exact hlen
    exact ZvD k a i j hl (by rw [l];exact m)
def ZQ (c:Cfg) (fn:Func) (a:Ann) (s:Zh):Prop:=∀ (t:Xl s.args) (K:Xl s.res->Zf->Prop) (b:Value->Zf->Prop) (h:Zf),ZE7 c fn a (Xl.evs s.args t) s.res K b h=s.sem t K b h
theorem okF {c:Cfg} {f:FuncId} {fn:Func} {d:Ann} {s:Zh} (e:ZQ c fn d s) (g:c.P.funcs[f]?=some fn) (hm:c.P.follows .mixedOrders=true) (h:c.OK)
    (a:(fn.name == "runtime.NumGoroutine")=false:=by kernel_rfl) (b:fn.body.isNone=false:=by kernel_rfl) (i:c.n=fn.ntmps:=by rfl) (hlen:s.args.length<=fn.ntmps:=by decide):ZC c.P f s :=
  ZDT g a b i hlen h hm e
theorem ZAF {P:Program} {f:FuncId} {A R:List VT} {M:Xl A->(Xl R->Zf->Prop)->(Value->Zf->Prop)->Zf->Prop} (h:ZC P f ⟨A,R,M⟩):ZC P f ⟨A,R,fun t K _ h=>M t K (fun _ _=>False) h⟩ where
  named:=h.named
  calls t K d w b:=(h.calls t K _ w b).mono fun e w' a=>by
    rcases a with a | ⟨v,_,_,c⟩
    ·exact .inl a
    ·exact c.elim
end Go.Fw
