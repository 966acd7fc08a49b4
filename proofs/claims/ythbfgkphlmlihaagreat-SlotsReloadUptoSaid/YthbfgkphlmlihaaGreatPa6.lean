/- Why a reading is right: regions. -/
import Derived.Sort.LoopGhostIn
import Derived.KernelRfl
import Derived.Laws.Externs
import GoSem.Extern.MapsClone
import GoSem.Extern.MathBitsCarry
import Derived.Test.YthbfgkphlmlihaaGreatPa5
set_option linter.unusedVariables false
set_option linter.unusedSimpArgs false
namespace Go.Fw
open Go
structure XQ (D:List Nat) (a a':Act):Prop where
  tmps:∀ j,j∉D->a'.tmps[j]?=a.tmps[j]?
  marks:mkN∉D->a'.defers=a.defers
theorem XQ.refl (D:List Nat) (a:Act):XQ D a a:=⟨λ_ _=>rfl,λ_=>rfl⟩
theorem XQ.trans {D:List Nat} {a b d:Act} (h:XQ D a b) (h':XQ D b d):XQ D a d:=⟨λj c=>(h'.1 j c).trans (h.1 j c),λc=>(h'.2 c).trans (h.2 c)⟩
theorem XQ.mono {D e:List Nat} {a b:Act} (h:XQ D a b) (hs:∀ j,j∈D->j∈e):XQ e a b:=⟨λj d=>h.1 j λc=>d (hs j c),λd=>h.2 λc=>d (hs _ c)⟩
theorem put_defers (a:Act) (d:Option Tmp) (v:Value):(a.put d v).defers=a.defers:=by cases d<;>rfl
theorem XQ.put {D:List Nat} {a:Act} {d:Option Tmp} {v:Value} (h:∀ x,d=some x->x∈D):XQ D a (a.put d v):=by
  refine ⟨?_,λ_=>put_defers a d v⟩;intro j c
  cases d with
  | none=>rfl
  | some x =>
    have b:x≠j:=λhe=>c (he▸h x rfl);simp [Act.put,Awj b]
theorem ZoU {ops:Array Oper} {a:Act} {j t:Nat} (h:Xr ops.toList j=some t):yielded ops a.tmps j=match a.tmps[t]? with | some (.bool b)=>some b | _=>none:=by
  unfold Xr at h;unfold yielded;rw [show ops.toList[j]?=ops[j]? from by simp] at h;rw [h];rfl
theorem Zmp {ops:Array Oper} {a:Act} {j:Nat} (h:Xr ops.toList j=none):yielded ops a.tmps j=none:=by
  unfold Xr at h;unfold yielded;rw [show ops.toList[j]?=ops[j]? from by simp] at h;rw [h];rfl
inductive Step (c:Cfg) (one:Oper->Env->Zf->(Env->Zf->Prop)->Prop) (ops:Array Oper) (o:Oper) (a:Act) (h:Zf) (K:Env->Zf->Prop):Prop
  | does (e:Env) (ha:Agr c.n e a) (hw:Region.wanted o (yielded ops a.tmps)=true) (hk:one o e h K)
  | skips (e:Env) (ha:Agr c.n e a) (hw:Region.wanted o (yielded ops a.tmps)=false) (hk:Zo4 c o e h K)
theorem Znq {c:Cfg} {one:Oper->Env->Zf->(Env->Zf->Prop)->Prop} {ops:Array Oper} {o:Oper} {os:List Oper} {e:Env} {a:Act} {h:Zf} {K:Env->Zf->Prop}
    (d:Agr c.n e a) (f:Zgy c one ops.toList (o::os) e h K):Step c one ops o a h (λr h'=>Zgy c one ops.toList os r h' K):=by
  unfold Zgy at f;split at f
  ·rename_i g
   exact .does e d (by simp [Region.wanted,g]) f
  ·rename_i j want g
   split at f
   ·rename_i hs
    exact .skips e d (by simp [Region.wanted,g,Zmp hs]) f
   ·rename_i t hs
    have i:=ZoU (a:=a) hs;split at f
    ·rename_i b m
     have l:a.tmps[t]?=some (.bool b):=d.val t _ m;rw [l] at i;split at f
     ·exact .does e d (by simp [Region.wanted,g,i]) f
     ·exact .does e d (by simp [Region.wanted,g,i]) f
     ·exact .skips e d (by simp [Region.wanted,g,i]) f
     ·exact .skips e d (by simp [Region.wanted,g,i]) f
    ·rename_i b m
     have l:a.tmps[t]?=some (.bool b):=d.val t _ m;rw [l] at i;split at f
     ·cases b with
      | true=>exact .does _ (d.tell m) (by simp [Region.wanted,g,i]) (f.1 rfl)
      | false=>exact .skips _ (d.tell m) (by simp [Region.wanted,g,i]) (f.2 rfl)
     ·cases b with
      | true=>exact .skips _ (d.tell m) (by simp [Region.wanted,g,i]) (f.1 rfl)
      | false=>exact .does _ (d.tell m) (by simp [Region.wanted,g,i]) (f.2 rfl)
    ·rename_i v p q m
     have l:a.tmps[t]?=some v.v:=d.val t _ m;refine .skips e d ?_ f
     have:yielded ops a.tmps j=none:=by
       rw [i,l]
       cases v with
       | val u=>cases u<;>first | rfl | exact absurd rfl (q _)
       | lit b=>exact absurd rfl (p b)
       | adr b o=>rfl
       | itr t b=>rfl
       | more k v=>rfl
       | over=>rfl
     simp [Region.wanted,g,this]
    ·exact f.elim
theorem ZgG {ops:Array Oper} {k:Nat} {o:Oper} {x:Nat} (ho:ops[k]?=some o) (a:o.dst=some x):x∈ops.toList.filterMap (·.dst):=by
  refine List.mem_filterMap.2 ⟨o,?_,a⟩;exact Axo (i:=k) (by simpa using ho)
theorem Znp {c:Cfg} (u:c.OK) {ops:Array Oper} {Q:Exit->Act->World->Prop}:∀ (l:List Oper) (k:Nat),(∀ j,l[j]?=ops[k+j]?) ->
    ∀ {e:Env} {a:Act} {w:World} {K:Env->Zf->Prop},Agr c.n e a->Zgy c (ZGR c) ops.toList l e w.heap K ->
    (∀ s a' w',Agr c.n s a'->Same w w'->XQ (ops.toList.filterMap (·.dst)) a a'->K s w'.heap->Q .normal a' w') ->
    (∀ v a' w',Same w w'->XQ (ops.toList.filterMap (·.dst)) a a'->c.pan v w'.heap->Q (.panic [{ v,recovered:=false }]) a' w')->wpOpsIn (fen c.rnd) 0 c.P ops Q (List.range' k l.length) a w
  | [],k,hl,e,a,w,K,b,h,t,_=>t e a w b (Same.refl w) (XQ.refl _ a) h
  | o::os,k,hl,e,a,w,K,b,h,t,y=>by
    have ho:ops[k]?=some o:=by have:=hl 0;simpa using this.symm
    have r:∀ j,os[j]?=ops[k+1+j]?:=λj=>by have:=hl (j+1);rw [show k+1+j=k+(j+1) from by omega,<- this];rfl
    have g:∀ v,XQ (ops.toList.filterMap (·.dst)) a (a.put o.dst v):=λv=>XQ.put λx z=>ZgG ho z;simp only [Aqj,List.range'_succ,wpOpsIn,ho]
    cases Znq b h with
    | does e b hw h =>
      rw [if_pos hw];refine ZGO u b (λv w' hs A=>y v a w' hs (XQ.refl _ a) A) h λv w' hs h=>?_;obtain ⟨s,i,h⟩:=ZdU b h
      exact Znp u os (k+1) r i h (λm d f h1 p h3 q=>t m d f h1 (hs.trans p) ((g _).trans h3) q)
        (λv d f p h3 q=>y v d f (hs.trans p) ((g _).trans h3) q)
    | skips e b hw h =>
      rw [if_neg (by simp [hw])];obtain ⟨s,i,h⟩:=ZdU b h
      exact ⟨λ_ _=>trivial,Znp u os (k+1) r i h (λm d f h1 p h3 q=>t m d f h1 p ((g _).trans h3) q)
        (λv d f p h3 q=>y v d f p ((g _).trans h3) q)⟩
def Cls (w0:World) (h:Zf) (w:World):Prop:=Same w0 w/\w.heap=h
theorem Zvv {c:Cfg} {o:Oper} {a:Act} {w0:World} {h:Zf} {v:EV} (b:∀ w:World,w.heap=h->(execOp a.eval o).run c.P w = .ok (.value v.v) w) :
    ∀ w,Cls w0 h w->o.quietAtIn (fen none) 0 c.P a (Cls w0 h) w v.v:=by
  intro w hw;unfold Oper.quietAtIn;rw [b w hw.2];exact ⟨rfl,rfl⟩
theorem XY {c:Cfg} {o:Oper} {a:Act} {w0:World} {h:Zf} {K:EV->Zf->Prop} {next:Act->Prop} (b:ZtG c o a h K) (d:∀ v,K v h->next (a.put o.dst v.v)) :
    o.quietIn (fen none) 0 c.P a (Cls w0 h) next :=
  let ⟨v,e,f⟩:=b
  ⟨v.v,Zvv e,d v f⟩
theorem ZrA {c:Cfg} (D:c.OK) {e:Env} {a:Act} {w0:World} {h:Zf} {o:Oper} {K:EV->Zf->Prop} {next:Act->Prop} (b:Agr c.n e a) (g:Zt8 c o.op e h K)
    (i:∀ v,K v h->next (a.put o.dst v.v)):o.quietIn (fen none) 0 c.P a (Cls w0 h) next:=by
  obtain ⟨dst,op,type,pos,after,guard⟩:=o;cases op
  case move=>exact XY (Zqa b g).q i
  case assign=>exact XY (ZlN b g).q i
  case pick=>exact XY (Zp9 b g).q i
  case load=>exact XY (Zqc b g) i
  case nilCheck=>exact XY (Zjm b g).q i
  case binOp=>exact XY (Znb b g).q i
  case unOp=>exact XY (Zp8 b g).q i
  case slice=>exact XY (Zm7 b g).q i
  case fieldAddr=>exact XY (Zin b g).q i
  case field=>exact XY (Zm9 b g).q i
  case indexAddr=>exact XY (Zim b g).q i
  case index=>exact XY (Zm8 b g).q i
  case extract=>exact XY (ZkC b g).q i
  case build=>exact XY (Zna b g).q i
  case makeFunc=>exact XY (Zjn b g).q i
  case convert s d x =>
    simp only [Zt8] at g;split at g
    ·rename_i j k hs hd
     exact XY (Zjo b hs hd g).q i
    ·exact g.elim
  case call cl =>
    unfold Zt8 at g
    split at g<;>first
      | exact g.elim
      | (rename_i ho;cases ho)
    ·exact XY (ZwT b g) i
    ·exact XY (YG b (.inr (.inl rfl)) g).q i
    ·exact XY (YG b (.inr (.inr (.inl rfl))) g).q i
    ·exact XY (YG b (.inr (.inr (.inr rfl))) g).q i
    ·rename_i f args ts
     split at g
     ·rename_i es he
      split at g
      ·rename_i s t E
       obtain ⟨p,B⟩:=Zjz E;dsimp only at p B;obtain ⟨r,hm,g⟩:=g;refine ⟨(ZgY (Xl.evs s.res r)).v,λw hw=>?_,i _ g⟩;have u:=ZdG b he;obtain ⟨⟨fn,F,y,z⟩,A⟩:=D.calls _ p
       have m:(execOp a.eval ⟨dst,.call ⟨.value (.func f),args,ts⟩,type,pos,after,guard⟩).run c.P w = .ok (.enter f (args.map a.eval)) w:=by
         simp only [execOp,resolve,Act.eval,Deferred.ofValue,Awk,Awp,Awl,invoke,callFunc,run_program,F,y,Aqc,if_false,z];simp
       unfold Oper.quietAtIn;rw [m];refine ⟨rfl,λh=>(by cases h),Zi6.2 ?_⟩;rw [u,<- ZhM B];refine (A t (λC h'=>C=r/\h'=h) (λ_ _=>False) w (by rw [hw.2];exact hm)).mono ?_;rintro ending w' (⟨C,rfl,l,rfl,G⟩ | ⟨v,rfl,l,g⟩)
       ·exact ⟨rfl,hw.1.trans l,G⟩
       ·exact g.elim
      ·exact g.elim
     ·exact g.elim
  all_goals exact g.elim
theorem Zqt {c:Cfg} (s:c.OK) {ops:Array Oper} {w0:World} {Q:Act->Prop} {h:Zf}:∀ (l:List Oper) (k:Nat),(∀ j,l[j]?=ops[k+j]?) ->
    ∀ {e:Env} {a:Act} {K:Env->Zf->Prop},Agr c.n e a->Zgy c (Zxp c) ops.toList l e h K ->
    (∀ q a',Agr c.n q a'->XQ (ops.toList.filterMap (·.dst)) a a'->K q h->Q a')->wpQuietIn (fen none) 0 c.P ops (Cls w0 h) Q l a
  | [],k,hl,e,a,K,b,d,r=>r e a b (XQ.refl _ a) d
  | o::os,k,hl,e,a,K,b,d,r=>by
    have ho:ops[k]?=some o:=by have:=hl 0;simpa using this.symm
    have p:∀ j,os[j]?=ops[k+1+j]?:=λj=>by have:=hl (j+1);rw [show k+1+j=k+(j+1) from by omega,<- this];rfl
    have g:∀ v,XQ (ops.toList.filterMap (·.dst)) a (a.put o.dst v):=λv=>XQ.put λx u=>ZgG ho u;unfold wpQuietIn;refine ⟨λ_ _ _ _=>trivial,?_⟩
    cases Znq b d with
    | does e b hw d =>
      rw [if_pos hw];refine ZrA s b d λv d=>?_;obtain ⟨q,f,d⟩:=ZdU b d;exact Zqt s os (k+1) p f d λi m h1 h3 t=>r i m h1 ((g _).trans h3) t
    | skips e b hw d =>
      rw [if_neg (by simp [hw])];obtain ⟨q,f,d⟩:=ZdU b d;exact Zqt s os (k+1) p f d λi m h1 h3 t=>r i m h1 ((g _).trans h3) t
def Zgf (c:Cfg) (D:List Nat) (a:Act) (w:World) (Q:Ex->Env->Zf->Prop):Exit->Act->World->Prop
  | .normal,a',w'=>∃ b,Agr c.n b a'/\Same w w'/\XQ D a a'/\Q .normal b w'.heap
  | .exit id,a',w'=>∃ b,Agr c.n b a'/\Same w w'/\XQ D a a'/\Q (.exit id) b w'.heap
  | .ret,a',w'=>∃ b,Agr c.n b a'/\Same w w'/\XQ D a a'/\Q .ret b w'.heap
  | .panic chain,a',w'=>∃ v,chain=[{ v,recovered:=false }]/\Same w w'/\XQ D a a'/\c.pan v w'.heap
  | _,_,_=>False
theorem Zgf.mono {c:Cfg} {D b:List Nat} {a g:Act} {w w1:World} {Q i:Ex->Env->Zf->Prop} (hs:Same w w1) (k:XQ b a g) (hd:∀ j,j∈D->j∈b) (l:∀ x e h,Q x e h->i x e h) :
    ∀ x a' w',Zgf c D g w1 Q x a' w'->Zgf c b a w i x a' w':=by
  intro x a' w' h
  cases x<;>first
    | exact h.elim
    | (obtain ⟨m,h1,d,h3,f⟩:=h
       exact ⟨m,h1,hs.trans d,k.trans (h3.mono hd),l _ _ _ f⟩)
    | (obtain ⟨v,h1,d,h3,f⟩:=h
       exact ⟨v,h1,hs.trans d,k.trans (h3.mono hd),f⟩)
theorem Znw {c:Cfg} {D:List Nat} {a:Act} {w:World} {Q:Ex->Env->Zf->Prop} {ch:List PanicEntry} {a':Act} {d:Option Tmp} {v:Value} {w':World} (hd:∀ x,d=some x->x∈D) (h:Zgf c D a w Q (.panic ch) (a'.put d v) w'):Zgf c D a w Q (.panic ch) a' w':=by
  obtain ⟨f,h1,g,h3,i⟩:=h;have e:XQ D a' (a'.put d v):=XQ.put hd;exact ⟨f,h1,g,⟨λj b=>(e.1 j b).symm.trans (h3.1 j b),λb=>(e.2 b).symm.trans (h3.2 b)⟩,i⟩
theorem ZiF {c:Cfg} {ops:Array Oper} {o:Oper} {e:Env} {a:Act} {A B:Env->Prop} (d:Agr c.n e a) (f:Zn1 ops.toList o e A B) :
    (∃ m,Agr c.n m a/\Region.wanted o (yielded ops a.tmps)=true/\A m)\/(∃ m,Agr c.n m a/\Region.wanted o (yielded ops a.tmps)=false/\B m):=by
  unfold Zn1 at f;split at f
  ·rename_i g
   exact .inl ⟨e,d,by simp [Region.wanted,g],f⟩
  ·rename_i j want g
   split at f
   ·rename_i hs
    exact .inr ⟨e,d,by simp [Region.wanted,g,Zmp hs],f⟩
   ·rename_i t hs
    have h:=ZoU (a:=a) hs;split at f
    ·rename_i b l
     have i:a.tmps[t]?=some (.bool b):=d.val t _ l;rw [i] at h;split at f
     ·exact .inl ⟨e,d,by simp [Region.wanted,g,h],f⟩
     ·exact .inl ⟨e,d,by simp [Region.wanted,g,h],f⟩
     ·exact .inr ⟨e,d,by simp [Region.wanted,g,h],f⟩
     ·exact .inr ⟨e,d,by simp [Region.wanted,g,h],f⟩
    ·rename_i b l
     have i:a.tmps[t]?=some (.bool b):=d.val t _ l;rw [i] at h;split at f
     ·cases b with
      | true=>exact .inl ⟨_,d.tell l,by simp [Region.wanted,g,h],f.1 rfl⟩
      | false=>exact .inr ⟨_,d.tell l,by simp [Region.wanted,g,h],f.2 rfl⟩
     ·cases b with
      | true=>exact .inr ⟨_,d.tell l,by simp [Region.wanted,g,h],f.1 rfl⟩
      | false=>exact .inl ⟨_,d.tell l,by simp [Region.wanted,g,h],f.2 rfl⟩
    ·rename_i v p q l
     have i:a.tmps[t]?=some v.v:=d.val t _ l;refine .inr ⟨e,d,?_,f⟩
     have:yielded ops a.tmps j=none:=by
       rw [h,i]
       cases v with
       | val u=>cases u<;>first | rfl | exact absurd rfl (q _)
       | lit b=>exact absurd rfl (p b)
       | adr b o=>rfl
       | itr t b=>rfl
       | more k v=>rfl
       | over=>rfl
     simp [Region.wanted,g,this]
    ·exact f.elim
theorem ZAH {c:Cfg} {e:Env} {a:Act} {h:Zf} {o:Oper} {K:EV->Zf->Prop} (f:Agr c.n e a) (g:ZgB c o.op = .pure) (i:opP c o.op e h K):Zfl c o a h K:=by
  obtain ⟨dst,op,type,pos,after,guard⟩:=o;cases op
  case move=>exact Zqa f i
  case assign=>exact ZlN f i
  case pick=>exact Zp9 f i
  case nilCheck=>exact Zjm f i
  case binOp=>exact Znb f i
  case unOp=>exact Zp8 f i
  case slice=>exact Zm7 f i
  case fieldAddr=>exact Zin f i
  case field=>exact Zm9 f i
  case indexAddr=>exact Zim f i
  case index=>exact Zm8 f i
  case extract=>exact ZkC f i
  case build=>exact Zna f i
  case makeFunc=>exact Zjn f i
  case convert s d x =>
    simp only [ZgB] at g;split at g
    ·rename_i j k hs hd
     exact Zjo f hs hd i
    ·split at g<;>cases g
    ·cases g
  case call cl =>
    obtain ⟨l,args,ts⟩:=cl
    cases l with
    | builtin b =>
      cases b<;>first
        | (simp only [ZgB] at g;done)
        | (cases hm:Zkv c.P ts with
            | true=>simp [ZgB,hm] at g
            | false=>exact YG f (.inl ⟨rfl,hm⟩) i)
        | exact YG f (.inr (.inl rfl)) i
        | exact YG f (.inr (.inr (.inl rfl))) i
        | exact YG f (.inr (.inr (.inr rfl))) i
        | (simp [ZgB] at g)
    | _=>simp [ZgB] at g
  all_goals simp [ZgB] at g
theorem ZxH {c:Cfg} {op:Op} {t:TypeId} {x:Operand} (h:ZgB c op = .load t x):op = .load t x:=by
  cases op<;>simp [ZgB] at h
  case load=>rw [h.1,h.2]
  case convert=>repeat' (first | (cases h;done) | split at h)
  case call cl =>
    obtain ⟨a,args,ts⟩:=cl
    cases a with
    | builtin b=>cases b<;>simp at h<;>(cases hm:Zkv c.P ts<;>simp [hm] at h)
    | _=>simp at h
def Zpw (h:Zf) (l:List (Nat × Nat × Value)):Prop:=∀ q,q∈l->h.cell q.1 q.2.1=some q.2.2
theorem Zn0 {h:Zf} {b o:Nat}:∀ {vs:List Value} {i:Nat},Zpw h (Zsd b o i vs)↔h.has b (o+i) vs
  | [],i=>⟨λ_=>trivial,λ_ q c=>(by simp [Zsd] at c)⟩
  | v::vs,i=>by
    have a:=Zn0 (h:=h) (b:=b) (o:=o) (vs:=vs) (i:=i+1);unfold Zpw at a ⊢;simp only [Zsd,Axq,ZtC,a];rfl
theorem ZAX {P:Program} {t:TypeId} {b o:Nat} {K:EV->List (Nat × Nat × Value)->Prop} {h:Zf} (a:ldH P t h b o K) :
    ∃ v cells,Zpw h cells/\(∀ w:World,Zpw w.heap cells->(loadVar t ⟨b,o,none⟩).run P w = .ok v.v w)/\K v cells:=by
  unfold ldH at a
  cases hu:P.underlying t with
  | none=>rw [hu] at a;simp [Zb8,ZnQ] at a
  | some d =>
    obtain ⟨i,hi⟩:=Za8 P hu;rw [hu] at a;unfold loadVar
    cases c:Zb8 (some d) with
    | true =>
      rw [c] at a;simp only [cond_true] at a
      cases hl:Nat.beq (ZgP P 8 t).length (P.cellsOf t) with
      | false=>rw [hl] at a;exact a.elim
      | true =>
        rw [hl] at a;obtain ⟨vs,hlen,f,a⟩:=Zl8 a;have hs:i.size=vs.length:=by rw [hlen,Awg hl,Zcf P hi]
        refine ⟨.val (.agg vs.toArray),_,Zn0.2 f,λw hw=>?_,a⟩;have hw:=Zn0.1 hw;simp only [Awk,ZfZ P w t hu,c,Awl,if_true,Xm P w t hi,hs];rw [Zez P w b o vs (by simpa using hw)];rfl
    | false =>
      rw [c] at a;simp only [cond_false] at a;obtain ⟨v,g,a,_⟩:=ZkM a;refine ⟨v,_,?_,λw hw=>?_,a⟩
      ·intro q e
       simp only [Axs] at e;subst e;exact g
      have hw:Zf.cell w.heap b o=some v.v:=hw _ (.head _);simp only [Awk,ZfZ P w t hu,c,Awl,Aqc,if_false];exact Zit P w hw _
theorem Zw2 {c:Cfg} {op:Op} {x:Operand} (h:ZgB c op = .text x):∃ s d e,op = .convert s d x/\c.P.underlying s=some (.slice e)/\c.P.underlying d=some .string/\c.P.underlying e=some (.int .u8):=by
  cases op<;>simp [ZgB] at h
  case convert s d y =>
    split at h
    ·cases h
    ·rename_i e hs hd
     split at h
     ·rename_i he
      cases h;exact ⟨s,d,e,rfl,hs,hd,he⟩
     ·cases h
    ·cases h
  case call cl =>
    obtain ⟨a,args,ts⟩:=cl
    cases a with
    | builtin b=>cases b<;>simp at h<;>(cases hm:Zkv c.P ts<;>simp [hm] at h)
    | _=>simp at h
theorem Zma {h:Zf}:∀ {l:List (Nat × Nat × Value)},Zo h l↔Zpw h l
  | []=>⟨λ_ q c=>(by cases c),λ_=>trivial⟩
  | (b,o,v)::r=>by
    have a:=Zma (h:=h) (l:=r);unfold Zpw at a ⊢;simp only [Zo,Axq,a]
def Zeu (hd:Zhr):ZlH:=hd.map λx=>(x.1,λw=>x.2 w.heap)
theorem Zkd {w:World} {K:Prop}:∀ {hd:Zhr},ZrS w.heap hd K->(Zeu hd).all w/\K
  | [],a=>⟨λq b=>(by cases b),a⟩
  | x::r,a=>by
    obtain ⟨h1,a⟩:=a;obtain ⟨c,a⟩:=Zkd (hd:=r) a;refine ⟨λq b=>?_,a⟩
    rcases Awr.1 b with rfl | b
    ·exact h1
    ·exact c q b
def nxt (ops:Array Oper) (L:ZlH) (j:Nat):ZlH :=
  match ops[j]? with
  | some o=>L.filter λp=> !ZgX p.1 o.after.toList
  | none=>L
theorem ZeB (ops:Array Oper):Next ops (nxt ops) where
  mem L j p a:=by
    unfold nxt at a;split at a
    ·exact (Axt.1 a).1
    ·exact a
  keep L j p a hw:=by
    unfold nxt;split
    ·rename_i o ho
     refine Axt.2 ⟨a,?_⟩
     cases b:ZgX p.1 o.after.toList with
     | false=>rfl
     | true =>
       obtain ⟨e,he,h1,c⟩:=Zj2.1 b;exact absurd ⟨o,ho,e,by simpa using he,h1,c⟩ hw
    ·exact a
  same L d j p a hl:=by
    unfold nxt at a ⊢;split at a
    ·rename_i o ho
     exact Axt.2 ⟨hl,(Axt.1 a).2⟩
    ·exact hl
theorem Zud {ops:Array Oper} {j:Nat} {o:Oper} (ho:ops[j]?=some o) (hd:Zhr):nxt ops (Zeu hd) j=Zeu (Zr5 o hd):=by
  unfold nxt;rw [ho];simp only
  induction hd with
  | nil=>rfl
  | cons x r a =>
    have e:Zeu (x::r)=(x.1,λw:World=>x.2 w.heap)::Zeu r:=rfl;rw [e,List.filter_cons];simp only [Zr5]
    cases b:ZgX x.1 o.after.toList with
    | true=>simp only [Bool.not_true,Aqc,if_false,cond_true];exact a
    | false=>simp only [Axj,if_true,cond_false];rw [a];rfl
theorem Zvz {ops:Array Oper} {m:Nat} {listed:Array Bool} (b:Rel ops m listed) (h:ZxC m 0 ops.toList=true):Region.ready .any ops listed=[]:=by
  have key:∀ (os:List Oper) (k:Nat),ZxC m k os=true->∀ j o,os[j]?=some o->Zcu m (k+j) o=false:=by
    intro os
    induction os with
    | nil=>intro k _ j o ho;simp at ho
    | cons x os c =>
      intro k h j o ho;simp only [ZxC] at h
      cases a:Zcu m k x with
      | true=>rw [a] at h;cases h
      | false =>
        rw [a] at h
        cases j with
        | zero=>simp at ho;subst ho;exact a
        | succ j =>
          have:=c (k+1) h j o (by simpa using ho);rw [show k+(j+1)=k+1+j from by omega];exact this
  apply List.eq_nil_iff_forall_not_mem.2;intro j d;obtain ⟨o,ho,e⟩:=b.ready.1 d;have:=key _ 0 h j o (by simpa using ho);rw [Awb,e] at this;cases this
section
variable {rn:Option Nat} {P:Program} {ops:Array Oper} {Q:Exit->Act->World->Prop} {i m:Nat} {o:Oper} {listed:Array Bool} {a:Act} {w:World} {L:ZlH} {fuel:Nat} {v:Value} {S:World->Prop}
theorem Zka (ho:ops[i]?=some o):i<ops.size:=by
  rcases Aqd i ops.size with h | h
  ·exact h
  ·rw [Aqe h] at ho;cases ho
theorem Zxx (b:Rel ops m listed) (h:Zlh m i 0 ops.toList=true):∀ j,j∈Region.ready .any ops listed->j=i:=by
  intro j c;obtain ⟨d,a,e⟩:=b.ready.1 c;have:=Zl3 h j d (by simpa using a) (by rw [Awb];exact e);rw [Awb] at this;exact this
theorem ZEI (g:Rel ops m listed) (h:ZoK ops o m i 0 ops.toList=true) :
    ∀ j a,ops[j]?=some a->j≠i->listed.getD j true=false->(∀ e∈a.after,Region.binds .any e=true->e.on≠i)->o.apart ops a=true:=by
  intro j a f b hl c;have d:=Zka f;refine ZpE h j a (by simpa using f) (by rw [Awb];exact b) ?_ c;rw [Awb,<- g.bit' d];exact hl
theorem Zt0 (e:Zg4 ops) (ho:ops[i]?=some o) (b:Region.noSelect ops=true) (g:∀ c a v w,Q (.panic c) (a.put o.dst v) w->Q (.panic c) a w) (f:Rel ops m listed) (hm:Zcu m i o=true) (j:ZoK ops o m i 0 ops.toList=true)
    (k:YieldsIf P ops S o v a) (l:S w) (d:ZlH.all L w) (h:wpK rn P ops Q (nxt ops) ((i,S)::L) fuel (listed.setIfInBounds i true) (a.put o.dst v) w) :
    wpK rn P ops Q (nxt ops) L (fuel+1) listed a w :=
  ZwP e (ZeB ops) ho (Region.noSelect_spec b) (λc a w h=>g c a v w h) fuel L listed a w (ZEI f j) (f.ready.2 ⟨o,ho,hm⟩) k l d h
theorem Zqi (c:Zg4 ops) (ho:ops[i]?=some o) (e:Rel ops m listed) (hm:Zcu m i o=true) (f:Zlh m i 0 ops.toList=true)
    (g:YieldsIf P ops S o v a) (j:S w) (b:ZlH.all L w) (h:wpK rn P ops Q (nxt ops) L fuel (listed.setIfInBounds i true) (a.put o.dst v) w) :
    wpK rn P ops Q (nxt ops) L (fuel+1) listed a w:=by
  refine ZtS (Zxx e f) (e.ready.2 ⟨o,ho,hm⟩) (Zhv c ho g j ⟨λp d=>b p ((ZeB ops).mem _ _ _ d),?_⟩);exact Zil (ZeB ops) _ _ _ _ _ _ (λp d=> .inl ((ZeB ops).mem _ _ _ d)) h
theorem Zqh (d:Zg4 ops) (ho:ops[i]?=some o) (e:Region.noSelect ops=true) (l:∀ c a v w,Q (.panic c) (a.put o.dst v) w->Q (.panic c) a w) (j:Rel ops m listed) (hm:Zcu m i o=true)
    (f:ZoK ops o m i 0 ops.toList=true\/Zlh m i 0 ops.toList=true)
    (k:YieldsIf P ops (λ_=>True) o v a) (b:ZlH.all L w) (h:wpK rn P ops Q (nxt ops) L fuel (listed.setIfInBounds i true) (a.put o.dst v) w) :
    wpK rn P ops Q (nxt ops) L (fuel+1) listed a w:=by
  rcases f with f | f
  ·refine Zt0 d ho e l j hm f k trivial b ?_
   refine Zil (ZeB ops) _ _ _ _ _ _ (λp g=>?_) h
   rcases Awr.1 g with rfl | g
   ·exact .inr λ_=>trivial
   ·exact .inl g
  ·exact Zqi d ho j hm f k trivial b h
end
theorem ZAL {ops:Array Oper} {m i l:Nat} {listed:Array Bool} (b:Rel ops m listed) (h:Zpe m i l 0 ops.toList=true):∀ j,j∈Region.ready .any ops listed->j=i\/j=l:=by
  intro j c;obtain ⟨d,a,e⟩:=b.ready.1 c;have:=ZkG h j d (by simpa using a) (by rw [Awb];exact e);rw [Awb] at this;exact this
section
variable {c:Cfg} {ops:Array Oper} {D:List Nat} {a0:Act} {w0:World} {Qx:Ex->Env->Zf->Prop}
def ZtF (c:Cfg) (ops:Array Oper) (D:List Nat) (a0:Act) (w0:World) (Qx:Ex->Env->Zf->Prop) (fuel m:Nat) (rest:Zhr->Env->Zf->Prop):Prop :=
  ∀ (listed:Array Bool) (hd:Zhr) (e:Env) (a:Act) (w:World),Rel ops m listed->Agr c.n e a->Same w0 w->XQ D a0 a->(Zeu hd).all w ->
    rest hd e w.heap->wpK c.rnd c.P ops (Zgf c D a0 w0 Qx) (nxt ops) (Zeu hd) fuel listed a w
theorem Zts (s:Zg4 ops) (z:c.OK) (A:D=ops.toList.filterMap (·.dst)) {i m fuel:Nat} {o:Oper} {hd:Zhr} {e:Env} {a:Act} {w:World} {listed:Array Bool} {rest:Zhr->Env->Zf->Prop}
    (ho:ops[i]?=some o) (B:Rel ops m listed) (t:Agr c.n e a) (hs:Same w0 w) (l:XQ D a0 a) (h:(Zeu hd).all w) (y:ZtF c ops D a0 w0 Qx fuel (Zql m i) rest) (b:ZEQ c ops o hd e w.heap rest) :
    wpOpIn (fen c.rnd) 0 c.P ops (Zgf c D a0 w0 Qx) i (λa' w'=>(nxt ops (Zeu hd) i).all w'/\wpK c.rnd c.P ops (Zgf c D a0 w0 Qx) (nxt ops) (nxt ops (Zeu hd) i) fuel (listed.setIfInBounds i true) a' w') a w:=by
  have q:=B.set (Zka ho);have j:∀ v,XQ D a0 (a.put o.dst v):=λv=>l.trans (XQ.put λx C=>A▸ZgG ho C);unfold ZEQ at b
  rcases ZiF t b with ⟨E,d,hw,b⟩ | ⟨E,d,hw,b⟩
  ·rw [Zud ho]
   unfold Go.wpOpIn;simp only [ho,hw,if_true];refine Zuc z d (λv w' k r=>⟨v,rfl,hs.trans k,l,r⟩) b λv w' k b=>?_;obtain ⟨u,f,b⟩:=ZdU d b;obtain ⟨g,b⟩:=Zkd b;exact ⟨g,y _ _ u _ w' q f (hs.trans k) (j _) g b⟩
  ·obtain ⟨u,f,b⟩:=ZdU d b
   have F:YieldsIf c.P ops (λ_=>True) o undef a:= .inr ⟨hw,rfl⟩;refine Zhv s ho F trivial ⟨λp r=>h p ((ZeB ops).mem _ _ _ r),?_⟩;exact Zil (ZeB ops) _ _ _ _ _ _ (λp r=> .inl ((ZeB ops).mem _ _ _ r)) (y _ hd u _ w q f hs (j _) h b)
theorem ZEG (j:Zg4 ops) (z:D=ops.toList.filterMap (·.dst)) {i m fuel:Nat} {o:Oper} {hd:Zhr} {e:Env} {a:Act} {w:World} {listed:Array Bool} {rest:Zhr->Env->Zf->Prop}
    (ho:ops[i]?=some o) (p:Rel ops m listed) (q:Agr c.n e a) (hs:Same w0 w) (r:XQ D a0 a) (b:(Zeu hd).all w) (u:ZtF c ops D a0 w0 Qx fuel (Zql m i) rest)
    (A:∀ {e:Env} {K:EV->Zf->Prop},Agr c.n e a->opP c o.op e w.heap K->ZtG c o a w.heap K) (hm:Zcu m i o=true) (y:Zlh m i 0 ops.toList=true)
    (f:ZHn c ops o hd e w.heap rest):wpK c.rnd c.P ops (Zgf c D a0 w0 Qx) (nxt ops) (Zeu hd) (fuel+1) listed a w:=by
  have k:=p.set (Zka ho);have h:∀ v,XQ D a0 (a.put o.dst v):=λv=>r.trans (XQ.put λx B=>z▸ZgG ho B);unfold ZHn at f
  rcases ZiF q f with ⟨C,d,hw,f⟩ | ⟨C,d,hw,f⟩
  ·obtain ⟨v,l,f⟩:=A d f
   obtain ⟨s,g,f⟩:=ZdU d f;exact Zqi j (S:=λw'=>w'.heap=w.heap) ho p hm y (v:=v.v) (.inl ⟨hw,λw' t=>l w' t⟩) rfl b (u _ hd s _ w k g hs (h _) b f)
  ·obtain ⟨s,g,f⟩:=ZdU d f
   exact Zqi j (S:=λ_=>True) ho p hm y (v:=undef) (.inr ⟨hw,rfl⟩) trivial b (u _ hd s _ w k g hs (h _) b f)
theorem ZtX (r:Zg4 ops) (F:D=ops.toList.filterMap (·.dst)) (j:Region.noSelect ops=true) {i m fuel:Nat} {o:Oper} {hd:Zhr} {e:Env} {a:Act} {w:World} {listed:Array Bool} {rest:Zhr->Env->Zf->Prop} {A:Env->Prop}
    (ho:ops[i]?=some o) (u:Rel ops m listed) (y:Agr c.n e a) (hs:Same w0 w) (z:XQ D a0 a) (b:(Zeu hd).all w) (G:ZtF c ops D a0 w0 Qx fuel (Zql m i) rest)
    (hm:Zcu m i o=true) (H:ZoK ops o m i 0 ops.toList=true)
    (L:∀ p,Agr c.n p a->A p->∃ (v:EV) (S:Zf->Prop),S w.heap/\(∀ w':World,S w'.heap->(execOp a.eval o).run c.P w' = .ok (.value v.v) w')/\Zst c.n p o.dst v λl=>rest ((i,S)::hd) l w.heap)
    (f:Zn1 ops.toList o e A (λe=>Zst c.n e o.dst (.val undef) λl=>rest hd l w.heap)):wpK c.rnd c.P ops (Zgf c D a0 w0 Qx) (nxt ops) (Zeu hd) (fuel+1) listed a w:=by
  have s:=u.set (Zka ho);have k:∀ v,XQ D a0 (a.put o.dst v):=λv=>z.trans (XQ.put λx B=>F▸ZgG ho B);have I:∀ J a' v w',Zgf c D a0 w0 Qx (.panic J) (a'.put o.dst v) w'->Zgf c D a0 w0 Qx (.panic J) a' w':=λ_ _ _ _ h=>Znw (λx B=>by rw [F];exact ZgG ho B) h
  rcases ZiF y f with ⟨p,d,hw,f⟩ | ⟨p,d,hw,f⟩
  ·obtain ⟨v,S,K,t,f⟩:=L p d f
   obtain ⟨l,g,f⟩:=ZdU d f;refine Zt0 r (S:=λw=>S w.heap) ho j I u hm H (v:=v.v) (.inl ⟨hw,λw' C=>t w' C⟩) K b ?_;refine G _ ((i,S)::hd) l _ w s g hs (k _) ?_ f;intro q E
   rcases Awr.1 E with rfl | E
   ·exact K
   ·exact b q E
  ·obtain ⟨l,g,f⟩:=ZdU d f
   exact Zqh r ho j I u hm (.inl H) (v:=undef) (.inr ⟨hw,rfl⟩) b (G _ hd l _ w s g hs (k _) b f)
end
theorem ZfM {j:Nat}:∀ {l:List Nat},Zdk l j=true↔j∈l
  | []=>by simp [Zdk]
  | x::xs=>by
    have b:=ZfM (j:=j) (l:=xs);simp only [Zdk]
    cases a:Nat.beq j x with
    | true=>simp only [cond_true,true_iff];exact (Awg a) ▸ .head _
    | false=>simp only [cond_false,b,Awr];exact ⟨.inr,λh=>h.resolve_left (Awi a)⟩
theorem ZmB {m:Nat} {E:List Nat}:∀ {es:List Edge},ZjW m E es=true->∀ x∈es,Region.binds .any x=true->Zh4 m x.on=true\/Zdk E x.on=true
  | [],_,x,a,_=>by cases a
  | y::es,h,x,a,c=>by
    simp only [ZjW] at h
    rcases Awr.1 a with rfl | a
    ·rw [c] at h
     cases h1:Zh4 m x.on with
     | true=>exact .inl rfl
     | false =>
       rw [h1] at h
       cases b:Zdk E x.on with
       | true=>exact .inr rfl
       | false=>rw [b] at h;cases h
    ·refine ZmB (es:=es) ?_ x a c
     cases h1:Region.binds .any y with
     | false=>rw [h1] at h;exact h
     | true =>
       cases b:Zh4 m y.on with
       | true=>rw [h1,b] at h;exact h
       | false =>
         cases h3:Zdk E y.on with
         | true=>rw [h1,b,h3] at h;exact h
         | false=>rw [h1,b,h3] at h;cases h
theorem ZoZ {ops:Array Oper} {m k:Nat} {E ks:List Nat} (h:Zrn ops m E (k::ks)=true) :
    ∃ o,ops[k]?=some o/\Zh4 m k=false/\o.guard=none/\ZjW m E o.after.toList=true/\Zrn ops m (k::E) ks=true:=by
  simp only [Zrn] at h;split at h
  ·rename_i o ho
   cases h1:Zh4 m k with
   | true=>rw [h1] at h;cases h
   | false =>
     rw [h1] at h
     cases b:Zdk E k with
     | true=>rw [b] at h;cases h
     | false =>
       rw [b] at h
       cases h3:o.guard.isNone with
       | false=>rw [h3] at h;cases h
       | true =>
         rw [h3] at h
         cases a:ZjW m E o.after.toList with
         | false=>rw [a] at h;cases h
         | true=>rw [a] at h;exact ⟨o,ho,rfl,Axu.1 h3,a,h⟩
  ·cases h
theorem Zqd {ops:Array Oper} {m:Nat}:∀ {L E:List Nat},Zrn ops m E L=true->∀ k∈L,∃ o,ops[k]?=some o/\Zh4 m k=false/\o.guard=none
  | [],_,_,k,a=>by cases a
  | x::L,E,h,k,a=>by
    obtain ⟨o,h1,b,h3,_,c⟩:=ZoZ h
    rcases Awr.1 a with rfl | a
    ·exact ⟨o,h1,b,h3⟩
    ·exact Zqd c k a
theorem ZoY {ops:Array Oper} {m:Nat} {d:Nat->Bool} {L0:List Nat}:∀ {L E:List Nat},Zrn ops m E L=true->(∀ k,Zdk E k=true->Zdk L0 k=true/\d k=true)->(∀ k∈L,Zdk L0 k=true)->(∃ k∈L,d k=false) ->
    ∃ k o,k∈L/\d k=false/\ops[k]?=some o/\∀ x∈o.after.toList,Region.binds .any x=true->Zh4 m x.on=true\/(Zdk L0 x.on=true/\d x.on=true)
  | [],_,_,_,_,⟨k,a,_⟩=>by cases a
  | x::L,E,h,c,e,f=>by
    obtain ⟨o,h1,_,_,g,i⟩:=ZoZ h
    cases hd:d x with
    | false=>exact ⟨x,o,.head _,hd,h1,λy j l=>(ZmB g y j l).imp id (c _)⟩
    | true =>
      obtain ⟨k,n,a,p⟩:=ZoY (d:=d) (L0:=L0) i (λk a=>by
        rcases Awr.1 (ZfM.1 a) with rfl | a
        ·exact ⟨e _ (.head _),hd⟩
        ·exact c k (ZfM.2 a)) (λk a=>e k (.tail _ a)) (by
        obtain ⟨k,a,b⟩:=f
        rcases Awr.1 a with rfl | a
        ·rw [hd] at b;cases b
        ·exact ⟨k,a,b⟩)
      exact ⟨k,n,.tail _ a,p⟩
theorem Zk5 {m:Nat} {L:List Nat}:∀ {es:List Edge},ZfJ m L es=true->∃ x,x∈es/\Region.binds .any x=true/\Zh4 m x.on=false/\Zdk L x.on=false
  | [],h=>by cases h
  | y::es,h=>by
    have a:ZfJ m L es=true->∃ x,x∈y::es/\Region.binds .any x=true/\Zh4 m x.on=false/\Zdk L x.on=false:=λh =>
      let ⟨x,c,b⟩:=Zk5 h
      ⟨x,.tail _ c,b⟩
    simp only [ZfJ] at h
    cases h1:Region.binds .any y with
    | false=>rw [h1] at h;exact a h
    | true =>
      rw [h1] at h
      cases b:Zh4 m y.on with
      | true=>rw [b] at h;exact a h
      | false =>
        rw [b] at h
        cases h3:Zdk L y.on with
        | true=>rw [h3] at h;exact a h
        | false=>exact ⟨y,.head _,h1,b,h3⟩
theorem Zk6 {es:List Edge}:∀ {L:List Nat},Zj3 es L=true->∀ k∈L,ZgX k es=true
  | [],_,k,a=>by cases a
  | x::L,h,k,a=>by
    simp only [Zj3] at h
    cases h1:ZgX x es with
    | false=>rw [h1] at h;cases h
    | true =>
      rw [h1] at h
      rcases Awr.1 a with rfl | a
      ·exact h1
      ·exact Zk6 h k a
theorem ZrD {m:Nat} {L:List Nat}:∀ {os:List Oper} {k:Nat},ZGM m L k os=true->∀ j o,os[j]?=some o->Zh4 m (k+j)=true\/Zdk L (k+j)=true\/ZfJ m L o.after.toList=true\/Zj3 o.after.toList L=true
  | [],k,_,j,o,ho=>by simp at ho
  | x::os,k,h,j,o,ho=>by
    simp only [ZGM] at h;generalize a:(bif Zh4 m k then true else bif Zdk L k then true else bif ZfJ m L x.after.toList then true else Zj3 x.after.toList L)=b at h
    cases b with
    | false=>cases h
    | true =>
      cases j with
      | succ j =>
        have:=ZrD (k:=k+1) h j o (by simpa using ho);rw [show k+(j+1)=k+1+j from by omega];exact this
      | zero =>
        simp at ho;subst ho
        cases h1:Zh4 m k with
        | true=>exact .inl rfl
        | false =>
          rw [h1] at a
          cases c:Zdk L k with
          | true=>exact .inr (.inl rfl)
          | false =>
            rw [c] at a
            cases h3:ZfJ m L x.after.toList with
            | true=>exact .inr (.inr (.inl rfl))
            | false=>rw [h3] at a;exact .inr (.inr (.inr a))
theorem Zl2 {j k:Nat}:∀ {os:List Oper} {i:Nat},Zqx j k i os=true->∀ l o,os[l]?=some o->o.dst=some j->i+l=k
  | [],i,_,l,o,ho,_=>by simp at ho
  | x::os,i,h,l,o,ho,hd=>by
    simp only [Zqx] at h
    cases b:Nat.beq i k with
    | true =>
      rw [b] at h
      cases l with
      | zero=>exact Awg b
      | succ l =>
        have:=Zl2 (i:=i+1) h l o (by simpa using ho) hd;omega
    | false =>
      rw [b] at h;simp only [cond_false] at h
      cases l with
      | zero =>
        simp at ho;subst ho;rw [hd] at h;simp only [Axv,cond_true] at h;cases h
      | succ l =>
        have h':Zqx j k (i+1) os=true:=by
          split at h
          ·rename_i y c
           cases a:Nat.beq y j with
           | true=>rw [a] at h;cases h
           | false=>rw [a] at h;exact h
          ·exact h
        have:=Zl2 (i:=i+1) h' l o (by simpa using ho) hd;omega
theorem ZrV {ops:Array Oper} {k:Nat} {o:Oper} (ho:ops[k]?=some o):Xr ops.toList k=o.dst:=by
  unfold Xr;rw [show ops.toList[k]?=ops[k]? from by simp,ho];rfl
theorem Zkw {ops:Array Oper} {k j:Nat} (h:Xr ops.toList k=some j):∃ o,ops[k]?=some o/\o.dst=some j:=by
  unfold Xr at h;rw [show ops.toList[k]?=ops[k]? from by simp] at h
  cases ho:ops[k]? with
  | none=>rw [ho] at h;cases h
  | some o=>rw [ho] at h;exact ⟨o,rfl,h⟩
theorem ZlO {ops:Array Oper} {a:List Nat}:∀ {L:List Nat},ZsX ops.toList a L=true->∀ k∈L,∀ j,Xr ops.toList k=some j->Zdk a j=true/\∀ i o,ops[i]?=some o->o.dst=some j->i=k
  | [],_,k,b,_,_=>by cases b
  | x::L,h,k,b,j,d=>by
    simp only [ZsX] at h
    rcases Awr.1 b with rfl | b
    ·rw [d] at h
     simp only at h
     cases h1:Zdk a j with
     | false=>rw [h1] at h;cases h
     | true =>
       rw [h1] at h
       cases c:Zqx j k 0 ops.toList with
       | false=>rw [c] at h;cases h
       | true=>exact ⟨rfl,λi o ho hd=>by have:=Zl2 c i o (by simpa using ho) hd;omega⟩
    ·refine ZlO (L:=L) ?_ k b j d
     split at h
     ·rename_i y e
      cases h1:Zdk a y with
      | false=>rw [h1] at h;cases h
      | true =>
        rw [h1] at h
        cases c:Zqx y x 0 ops.toList with
        | false=>rw [c] at h;cases h
        | true=>rw [c] at h;exact h
     ·exact h
theorem ZpC {ops:List Oper} {j:Nat}:∀ {L:List Nat},Zto ops j L=true->∃ k,k∈L/\Xr ops k=some j
  | [],h=>by cases h
  | x::L,h=>by
    have a:Zto ops j L=true->∃ k,k∈x::L/\Xr ops k=some j:=λh=>let ⟨k,c,d⟩:=ZpC h;⟨k,.tail _ c,d⟩;simp only [Zto] at h;split at h
    ·rename_i y e
     cases b:Nat.beq y j with
     | true=>exact ⟨x,.head _,by rw [e,Awg b]⟩
     | false=>rw [b] at h;exact a h
    ·exact a h
theorem ZkD {ops:List Oper} {L:List Nat}:∀ {l:List Nat},Zo3 ops L l=true->∀ j,Zdk l j=true->∃ k,k∈L/\Xr ops k=some j
  | [],_,j,a=>by cases a
  | x::l,h,j,a=>by
    simp only [Zo3] at h
    cases h1:Zto ops x L with
    | false=>rw [h1] at h;cases h
    | true =>
      rw [h1] at h
      rcases Awr.1 (ZfM.1 a) with rfl | a
      ·exact ZpC h1
      ·exact ZkD h j (ZfM.2 a)
theorem Zol {ops:List Oper} {j:Nat}:∀ {es:List Edge},ZmC ops j es=true->∃ x,x∈es/\Region.binds .any x=true/\Xr ops x.on=some j
  | [],h=>by cases h
  | y::es,h=>by
    have a:ZmC ops j es=true->∃ x,x∈y::es/\Region.binds .any x=true/\Xr ops x.on=some j:=λh=>let ⟨k,c,d⟩:=Zol h;⟨k,.tail _ c,d⟩;simp only [ZmC] at h
    cases h1:Region.binds .any y with
    | false=>rw [h1] at h;exact a h
    | true =>
      rw [h1] at h;simp only [cond_true] at h;split at h
      ·rename_i z hz
       cases b:Nat.beq z j with
       | true=>exact ⟨y,.head _,h1,by rw [hz,Awg b]⟩
       | false=>rw [b] at h;exact a h
      ·exact a h
theorem ZnB {d:Nat->Bool} {K:Prop}:∀ {l:List Nat},ZnC d l K->(∀ i∈l,d i=true)->K
  | [],h,_=>h
  | i::l,h,hd=>ZnB (h (hd i (.head _))) λk a=>hd k (.tail _ a)
theorem Zr6 {L:List Nat} {i:Nat}:∀ {es:List Edge},i∈Zr7 L es->Zdk L i=true/\∃ x,x∈es/\Region.binds .any x=true/\x.on=i
  | [],h=>by cases h
  | y::es,h=>by
    have a:i∈Zr7 L es->Zdk L i=true/\∃ x,x∈y::es/\Region.binds .any x=true/\x.on=i:=λh =>
      let ⟨h1,k,c,b⟩:=Zr6 h
      ⟨h1,k,.tail _ c,b⟩
    simp only [Zr7] at h
    cases h1:Region.binds .any y with
    | false=>rw [h1] at h;exact a h
    | true =>
      rw [h1] at h
      cases b:Zdk L y.on with
      | false=>rw [b] at h;exact a h
      | true =>
        rw [b] at h
        rcases Awr.1 h with rfl | h
        ·exact ⟨b,y,.head _,h1,rfl⟩
        ·exact a h
theorem Zxw {ops:Array Oper} {L:List Nat} {d:Nat->Bool} {f:Nat->Oper->Prop}:∀ {l:List Nat},ZIf ops L d f l->∀ k∈l,∀ o,ops[k]?=some o->d k=false->ZnC d (Zr7 L o.after.toList) (f k o)
  | [],_,k,a,_,_,_=>by cases a
  | x::l,h,k,a,o,ho,hd=>by
    obtain ⟨h1,b⟩:=h
    rcases Awr.1 a with rfl | a
    ·rw [ho] at h1
     exact h1 hd
    ·exact Zxw b k a o ho hd
theorem ZpI:∀ {tys:List VT} {t:Xl tys},(Xl.evs tys t).length=tys.length
  | [],_=>rfl
  | _::vs,t=>congrArg (· + 1) (ZpI (tys:=vs) (t:=t.2))
theorem ZjF {j:Nat} {v:EV}:∀ {a:List Nat} {xs:List EV},Zdk a j=true->a.length=xs.length->Zam a (ZBG a j v xs) j=some v
  | [],_,h,_=>by cases h
  | s::c,[],_,h=>by cases h
  | s::c,x::xs,h,hl=>by
    simp only [ZBG]
    cases b:Nat.beq j s with
    | true=>simp only [cond_true,Zam,b]
    | false =>
      simp only [cond_false,Zam,b];simp only [Zdk,b,cond_false] at h;exact ZjF h (Nat.succ.inj hl)
theorem Zjd {j i:Nat} {v:EV} (b:i≠j):∀ {a:List Nat} {xs:List EV},Zam a (ZBG a j v xs) i=Zam a xs i
  | [],_=>rfl
  | s::c,[]=>rfl
  | s::c,x::xs=>by
    simp only [ZBG]
    cases d:Nat.beq j s with
    | true =>
      have:=Awg d;subst this
      have e:Nat.beq i j=false:=by
        cases h:Nat.beq i j with
        | true=>exact absurd (Awg h) b
        | false=>rfl
      simp only [cond_true,Zam,e,cond_false]
    | false =>
      simp only [cond_false,Zam];rw [Zjd b]
theorem ZnL {j:Nat} {x:EV}:∀ {a:List Nat} {vs us:List EV},us.map EV.v=vs.map EV.v->Zam a vs j=some x->∃ y,Zam a us j=some y/\y.v=x.v
  | [],_,_,_,h=>by simp [Zam] at h
  | s::b,[],_,_,h=>by simp [Zam] at h
  | s::b,v::vs,[],hm,h=>by simp at hm
  | s::b,v::vs,u::us,hm,h=>by
    simp only [Awo,Axw] at hm;simp only [Zam] at h ⊢
    cases c:Nat.beq j s with
    | true=>rw [c] at h;simp only [cond_true,Awh] at h;subst h;exact ⟨u,rfl,hm.1⟩
    | false=>rw [c] at h;exact ZnL hm.2 h
theorem Zl7 {j:Nat}:∀ {a:List Nat} {vs:List EV},Zdk a j=false->Zam a vs j=none
  | [],_,_=>rfl
  | s::c,[],_=>rfl
  | s::c,v::vs,h=>by
    simp only [Zdk] at h
    cases b:Nat.beq j s with
    | true=>rw [b] at h;cases h
    | false =>
      rw [b] at h;simp only [Zam,b,cond_false];exact Zl7 h
def ZkX (d:Nat->Bool):List Nat->Nat
  | []=>0
  | k::ks=>bif d k then ZkX d ks else ZkX d ks+1
theorem Zuv {d:Nat->Bool} {k:Nat}:∀ {l:List Nat},ZkX (setB d k) l<=ZkX d l
  | []=>Aqo _
  | x::l=>by
    have a:=Zuv (d:=d) (k:=k) (l:=l);have e:setB d k x=(bif Nat.beq x k then true else d x):=rfl;simp only [ZkX,e];cases b:Nat.beq x k<;>cases hd:d x<;>simp only [cond_true,cond_false]<;>omega
theorem Zuu {d:Nat->Bool} {k:Nat} (hd:d k=false):∀ {l:List Nat},k∈l->ZkX (setB d k) l<ZkX d l
  | [],h=>by cases h
  | x::l,h=>by
    have h1:=Zuv (d:=d) (k:=k) (l:=l)
    rcases Awr.1 h with rfl | h
    ·have e:setB d k k=true:=by show (bif Nat.beq k k then true else d k)=true;rw [Axv];rfl
     simp only [ZkX,e,cond_true,hd,cond_false];omega
    ·have c:=Zuu hd h
     simp only [ZkX]
     cases a:setB d k x<;>cases b:d x<;>simp only [cond_true,cond_false]<;>first
       | omega
       | (simp only [setB,b] at a;cases h3:Nat.beq x k<;>rw [h3] at a<;>cases a)
theorem ZpK {d:Nat->Bool}:∀ {l:List Nat},(∀ k∈l,d k=true)\/(∃ k∈l,d k=false)
  | []=> .inl λk a=>by cases a
  | x::l=>by
    cases hd:d x with
    | false=>exact .inr ⟨x,.head _,hd⟩
    | true =>
      rcases ZpK (d:=d) (l:=l) with h | ⟨k,a,h⟩
      ·refine .inl λk a=>?_
       rcases Awr.1 a with rfl | a
       ·exact hd
       ·exact h k a
      ·exact .inr ⟨k,.tail _ a,h⟩
theorem Zsa {d:Nat->Bool} {k:Nat} (hd:d k=false):∀ {l:List Nat},k∈l->0<ZkX d l
  | [],h=>by cases h
  | x::l,h=>by
    simp only [ZkX]
    rcases Awr.1 h with rfl | h
    ·rw [hd];simp only [cond_false];omega
    ·have:=Zsa hd h
     cases d x<;>simp only [cond_true,cond_false]<;>omega
theorem Zsb {d:Nat->Bool}:∀ {l:List Nat},ZkX d l<=l.length
  | []=>Aqo _
  | x::l=>by
    have:=Zsb (d:=d) (l:=l);simp only [ZkX,Aqj];cases d x<;>simp only [cond_true,cond_false]<;>omega
theorem ZpN {j:Nat}:∀ {L:List Nat} {m:Nat},Zh4 (L.foldl Zql m) j=(Zh4 m j||Zdk L j)
  | [],m=>by simp [Zdk]
  | x::L,m=>by
    simp only [Awq,Zdk];rw [ZpN,Zq0]
    cases a:Nat.beq j x with
    | true=>rw [Awg a];simp
    | false=>simp [Awi a]
theorem ZxZ {c:Cfg} {ops:Array Oper} {D:List Nat} {a0:Act} {w0:World} {Qx:Ex->Env->Zf->Prop} {m N0:Nat} {L b:List Nat} {tys:List VT} {hd:Zhr} {e:Env} {rest:Zhr->Env->Zf->Prop}
    (J:∀ f,N0<=f->ZtF c ops D a0 w0 Qx f (L.foldl Zql m) rest) {I:(Nat->Bool)->Xl tys->Zf->Prop}
    (K:∀ d t h',I d t h'->ZnC d L (ZrS h' hd (rest hd (ZoM b (Xl.evs tys t) [] e) h'))) (A:Zo3 ops.toList L b=true) (S:ZsX ops.toList b L=true)
    (fuel G:Nat) (d:Nat->Bool) (t:Xl tys) (listed:Array Bool) (a:Act) (w:World) (Lk:ZlH) (M:N0<=fuel) (g:∀ k∈L,d k=true) (H:Rel ops G listed) (u:∀ j,Zh4 G j=(Zh4 m j||(Zdk L j&&d j)))
    (l:Agr c.n ⟨λj=>bif Zdk b j then none else e.f j,e.mD⟩ a) (hs:Same w0 w) (B:XQ D a0 a) (C:∀ i o j,i∈L->ops[i]?=some o->d i=true->o.dst=some j->∃ v,Zam b (Xl.evs tys t) j=some v/\a.tmps[j]?=some v.v)
    (N:I d t w.heap) (E:∀ p,p∈Lk->p∈Zeu hd):wpK c.rnd c.P ops (Zgf c D a0 w0 Qx) (nxt ops) Lk fuel listed a w:=by
  obtain ⟨q,z⟩:=Zkd (ZnB (K d t w.heap N) g)
  have r:∀ j,Zdk b j=true->∃ v,Zam b (Xl.evs tys t) j=some v/\a.tmps[j]?=some v.v:=λj h=>by
    obtain ⟨k,z,O⟩:=ZkD A j h;obtain ⟨o,ho,y⟩:=Zkw O;exact C k o j z ho (g k z) y
  refine Zil (ZeB ops) _ _ _ _ _ _ (λp Q=> .inl (E p Q)) (J fuel M listed hd (ZoM b (Xl.evs tys t) [] e) a w ⟨H.size,λj=>?_⟩ ⟨l.size,l.defers,λj v h=>?_⟩ hs B q z)
  ·rw [H.bit,u,ZpN]
   cases hm:Zdk L j with
   | false=>simp
   | true=>rw [g j (ZfM.1 hm)];simp
  ·unfold ZoM at h
   dsimp only at h
   cases s:Zdk b j with
   | true =>
     obtain ⟨x,R,F⟩:=r j s;rw [R] at h;cases h;exact F
   | false =>
     rw [Zl7 s] at h;refine l.val j v ?_;show (bif Zdk b j then none else e.f j)=some v;rw [s];exact h
section
variable {c:Cfg} {ops:Array Oper} {D:List Nat} {a0:Act} {w0:World} {Qx:Ex->Env->Zf->Prop}
theorem ZHh (hc:c.OK) (hD:D=ops.toList.filterMap (·.dst)) {m N0:Nat} {L b:List Nat} {tys:List VT} {hd:Zhr} {e:Env} {rest:Zhr->Env->Zf->Prop}
    (r:ZEo ops m L b=true) (hlen:b.length=tys.length) (ih:∀ f,N0<=f->ZtF c ops D a0 w0 Qx f (L.foldl Zql m) rest)
    {I:(Nat->Bool)->Xl tys->Zf->Prop}
    (hS:∀ d t h',I d t h'->ZIf ops L d (λk o=>opP c o.op (eAt ops.toList o.after.toList b (Xl.evs tys t) e) h' λv h''=>ZrS h'' (Zr5 o hd) (match o.dst with
        | none=>I (setB d k) t h''
        | some j=>bif Nat.blt j c.n then (match Xl.un tys (ZBG b j v (Xl.evs tys t)) with
          | some t'=>I (setB d k) t' h''
          | none=>False) else False)) L)
    (hF:∀ d t h',I d t h'->ZnC d L (ZrS h' hd (rest hd (ZoM b (Xl.evs tys t) [] e) h'))) :
    ∀ (n fuel V:Nat) (d:Nat->Bool) (t:Xl tys) (listed:Array Bool) (a:Act) (w:World) (Lk:ZlH),N0+n<=fuel->ZkX d L<=n->Rel ops V listed->(∀ j,Zh4 V j=(Zh4 m j||(Zdk L j&&d j))) ->
      Agr c.n ⟨λj=>bif Zdk b j then none else e.f j,e.mD⟩ a->Same w0 w->XQ D a0 a->(∀ i o j,i∈L->ops[i]?=some o->d i=true->o.dst=some j->∃ v,Zam b (Xl.evs tys t) j=some v/\a.tmps[j]?=some v.v) ->
      I d t w.heap->(∀ p,p∈Lk->p∈Zeu hd)->wpK c.rnd c.P ops (Zgf c D a0 w0 Qx) (nxt ops) Lk fuel listed a w:=by
  unfold ZEo at r
  cases hT:Zrn ops m [] L with
  | false=>rw [hT] at r;cases r
  | true =>
  rw [hT] at r
  cases hO:ZGM m L 0 ops.toList with
  | false=>rw [hO] at r;cases r
  | true =>
  rw [hO] at r
  cases hU:ZsX ops.toList b L with
  | false=>rw [hU] at r;cases r
  | true =>
  rw [hU] at r;have aa:Zo3 ops.toList L b=true:=r;have ae:∀ k,k∈L->Zh4 m k=false:=λk q=>(Zqd hT k q).choose_spec.2.1;intro n
  induction n with
  | zero =>
    intro fuel V d t listed a w Lk hf az hr g s hs Q K hI W
    have R:∀ k∈L,d k=true:=λk q=>by
      cases aS:d k with
      | true=>rfl
      | false=>have:=Zsa aS q;omega
    exact ZxZ ih hF aa hU fuel V d t listed a w Lk (by omega) R hr g s hs Q K hI W
  | succ n aA =>
    intro fuel V d t listed a w Lk hf az hr g s hs Q K hI W
    rcases ZpK (d:=d) (l:=L) with R | aB
    ·exact ZxZ ih hF aa hU fuel V d t listed a w Lk (by omega) R hr g s hs Q K hI W
    ·obtain ⟨k0,o0,af,aD,aT,ag⟩:=ZoY (d:=d) (L0:=L) hT (λk q=>by cases q) (λk q=>ZfM.2 q) aB
     cases fuel with
     | zero=>omega
     | succ fuel =>
       refine ⟨λh0=>?_,λi hi=>?_⟩
       ·have:k0∈Region.ready .any ops listed:=hr.ready.2 ⟨o0,aT,by
          unfold Zcu;rw [g k0,ae k0 af,aD];simp only [Bool.and_false,Bool.or_false,cond_false]
          exact ZgU.2 λx F B=>by
            rw [g x.on]
            rcases ag x F B with h | ⟨h1,h2⟩
            ·rw [h];rfl
            ·rw [h1,h2];simp⟩
        rw [h0] at this;cases this
       ·obtain ⟨o,ho,M⟩:=hr.ready.1 hi
        unfold Zcu at M
        cases ah:Zh4 V i with
        | true=>rw [ah] at M;cases M
        | false =>
        rw [ah] at M;simp only [cond_false] at M;have G:=ZgU.1 M;have A:=g i;rw [ah] at A
        have aF:Zh4 m i=false:=by cases h:Zh4 m i with
          | false=>rfl
          | true=>rw [h] at A;simp at A
        have ai:Zdk L i=true:=by
          have:=ZrD hO i o (by simpa using ho);rw [Awb] at this
          rcases this with h | h | h | h
          ·rw [aF] at h;cases h
          ·exact h
          ·obtain ⟨x,F,B,h1,h2⟩:=Zk5 h
           have:=G x F B;rw [g,h1,h2] at this;simp at this
          ·have:=Zk6 h k0 af
           obtain ⟨x,F,B,X⟩:=Zj2.1 this;have:=G x F B;rw [g,X,ae k0 af,aD] at this;simp at this
        have Y:=ZfM.1 ai
        have aG:d i=false:=by
          rw [aF,ai] at A
          cases h:d i with
          | false=>rfl
          | true=>rw [h] at A;simp at A
        have X:∀ x∈o.after.toList,Region.binds .any x=true->Zdk L x.on=true->d x.on=true:=λx F B hm=>by
          have:=G x F B;rw [g,ae _ (ZfM.1 hm),hm] at this;simpa using this
        have aj:=ZnB (Zxw (hS d t w.heap hI) i Y o ho aG) λk q=>by
          obtain ⟨h1,x,F,B,rfl⟩:=Zr6 q;exact X x F B h1
        have aH:Agr c.n (eAt ops.toList o.after.toList b (Xl.evs tys t) e) a:=by
          refine ⟨s.size,s.defers,λj v H=>?_⟩;unfold eAt at H;dsimp only at H;split at H
          ·rename_i u hu
           cases ak:ZmC ops.toList j o.after.toList with
           | false=>rw [ak] at H;cases H
           | true =>
             rw [ak] at H;simp only [cond_true,Awh] at H;subst H;obtain ⟨x,F,B,hg⟩:=Zol ak;obtain ⟨ox,aI,aJ⟩:=Zkw hg
             have aV:Zdk b j=true:=by
               cases h:Zdk b j with
               | true=>rfl
               | false=>rw [Zl7 h] at hu;cases hu
             obtain ⟨k,q,aW⟩:=ZkD aa j aV;have aK:x.on=k:=(ZlO hU k q j aW).2 x.on ox aI aJ;obtain ⟨v',h1,h2⟩:=K x.on ox j (aK▸q) aI (X x F B (ZfM.2 (aK▸q))) aJ;rw [hu] at h1;cases h1;exact h2
          ·rename_i hu
           cases N:Zdk b j with
           | true=>rw [N] at H;cases H
           | false =>
             rw [N] at H;refine s.val j v ?_;show (bif Zdk b j then none else e.f j)=some v;rw [N];exact H
        have aX:o.guard=none:=by
          obtain ⟨o',aL,_,hg⟩:=Zqd hT i Y;rw [ho] at aL;cases aL;exact hg
        have hw:Region.wanted o (yielded ops a.tmps)=true:=by simp [Region.wanted,aX]
        unfold Go.wpOpIn;simp only [ho,hw,if_true];refine Zuc hc aH (λv w' Z hp=>⟨v,rfl,hs.trans Z,Q,hp⟩) aj λv w' Z q=>?_;obtain ⟨an,q⟩:=Zkd q;have S:∀ p,p∈nxt ops Lk i->p∈Zeu hd:=λp hp=>W p ((ZeB ops).mem _ _ _ hp);refine ⟨λp hp=>an p ?_,?_⟩
        ·rw [<- Zud ho]
         exact (ZeB ops).same _ _ _ _ hp (S p hp)
        have aM:=hr.set (Zka ho);have J:XQ D a0 (a.put o.dst v.v):=Q.trans (XQ.put λx F=>hD▸ZgG ho F)
        have T:∀ j,Zh4 (Zql V i) j=(Zh4 m j||(Zdk L j&&setB d i j)):=λj=>by
          rw [Zq0,g j];unfold setB
          cases B:Nat.beq j i with
          | true=>rw [Awg B,ai];simp
          | false=>simp [Awi B]
        have U:ZkX (setB d i) L<=n:=by have:=Zuu aG Y;omega
        have hold:∀ k,setB d i k=true->k≠i->d k=true:=λk h O=>by
          unfold setB at h
          cases B:Nat.beq k i with
          | true=>exact absurd (Awg B) O
          | false=>rw [B] at h;exact h
        cases z:o.dst with
        | none =>
          rw [z] at q;have q:I (setB d i) t w'.heap:=q;rw [z] at J;refine aA fuel (Zql V i) (setB d i) t _ (a.put none v.v) w' _ (by omega) U aM T s (hs.trans Z) J (λk ok j ao C aq E=>?_) q S;refine K k ok j ao C (hold k aq λhe=>?_) E;subst he;rw [ho] at C;cases C;rw [z] at E;cases E
        | some j0 =>
          rw [z] at q;simp only at q;rw [z] at J;obtain ⟨aN,q⟩:=Zge q;split at q
          ·rename_i t' aY
           have hm:=ZhM aY;have aZ:Xr ops.toList i=some j0:=(ZrV ho).trans z;obtain ⟨N,ba⟩:=ZlO hU i Y j0 aZ;have aO:j0<a.tmps.size:=by rw [s.size];rw [Nat.blt_eq] at aN;exact aN
           refine aA fuel (Zql V i) (setB d i) t' _ (a.put (some j0) v.v) w' _ (by omega) U aM T ⟨?_,?_,λj u H=>?_⟩ (hs.trans Z) J (λk ok j ao C aq E=>?_) q S
           ·simp [Act.put,s.size]
           ·rw [put_defers];exact s.defers
           ·have aP:(bif Zdk b j then none else e.f j)=some u:=H
            have O:j0≠j:=λhe=>by rw [<- he,N] at aP;cases aP
            have:=s.val j u H;simp only [Act.put];rw [Awj O];exact this
           ·by_cases au:k=i
            ·subst au
             rw [ho] at C;cases C;rw [z] at E;cases E;obtain ⟨y,hy,av⟩:=ZnL hm (ZjF (v:=v) N (hlen.trans ZpI.symm));refine ⟨y,hy,?_⟩;simp [Act.put,aO,av]
            ·have O:j≠j0:=λhe=>au (ba k ok C (by rw [E,he]))
             obtain ⟨x,F,bc⟩:=K k ok j ao C (hold k aq au) E;obtain ⟨y,hy,av⟩:=ZnL hm (show Zam b (ZBG b j0 v (Xl.evs tys t)) j=some x from by rw [Zjd O];exact F);refine ⟨y,hy,?_⟩;simp only [Act.put];rw [Awj (Ne.symm O),av];exact bc
          ·exact q.elim
end
section
variable {c:Cfg} {ops:Array Oper} {D:List Nat} {a0:Act} {w0:World} {Qx:Ex->Env->Zf->Prop}
theorem Zve {i m:Nat} {o:Oper} {a:Bool} (h:ZDI c ops o m i a=true):Zcu m i o=true/\((ZgB c o.op = .other->Zlh m i 0 ops.toList=true)/\(ZgB c o.op≠ .other->a=true->ZoK ops o m i 0 ops.toList=true)/\(a=false->Zlh m i 0 ops.toList=true)):=by
  unfold ZDI at h
  cases d:Zcu m i o with
  | false=>rw [d] at h;cases h
  | true =>
    rw [d] at h;simp only [cond_true] at h;refine ⟨rfl,?_⟩
    cases b:ZgB c o.op with
    | other=>rw [b] at h;exact ⟨λ_=>h,λf=>absurd rfl f,λ_=>h⟩
    | pure =>
      rw [b] at h
      cases a with
      | true=>exact ⟨λe=>(by cases e),λ_ _=>h,λe=>(by cases e)⟩
      | false=>exact ⟨λe=>(by cases e),λ_ e=>(by cases e),λ_=>h⟩
    | load t x =>
      rw [b] at h
      cases a with
      | true=>exact ⟨λe=>(by cases e),λ_ _=>h,λe=>(by cases e)⟩
      | false=>exact ⟨λe=>(by cases e),λ_ e=>(by cases e),λ_=>h⟩
    | text x =>
      rw [b] at h
      cases a with
      | true=>exact ⟨λe=>(by cases e),λ_ _=>h,λe=>(by cases e)⟩
      | false=>exact ⟨λe=>(by cases e),λ_ e=>(by cases e),λ_=>h⟩
theorem Zi8 {a b:Bool} (h:(bif a then b else false)=true):a=true/\b=true:=by
  cases a with
  | false=>cases h
  | true=>exact ⟨rfl,h⟩
theorem Zic (C:Zg4 ops) (X:c.OK) (N:D=ops.toList.filterMap (·.dst)) (A:Region.noSelect ops=true) {K:Env->Zf->Prop} (Q:∀ Y h',K Y h'->Qx .normal Y h') :
    ∀ (l:OrdT) (fuel m:Nat),l.depth<=fuel->Zqw c ops l m=true->ZtF c ops D a0 w0 Qx fuel m (Zqv c ops K l)
  | .done,fuel,m,R,k=>by
    intro listed hd e a w G u hs E q g;unfold Zqv at g;exact ZAv (Zvz G k) ⟨e,u,hs,E,Q _ _ g⟩ fuel
  | .inv L S tys r,fuel,m,R,k=>by
    intro listed hd e a w G u hs E q g;unfold Zqv at g;unfold Zqw at k;obtain ⟨k,T⟩:=Zi8 k;simp only [Awn] at k;obtain ⟨I,⟨t,hI⟩,hS,hF⟩:=g;have aw:r.depth+L.length<=fuel:=R;refine ZHh X N k.1 (Awg k.2) (N0:=r.depth) (λf ax=>Zic C X N A Q r f _ ax T) hS hF L.length fuel m (λ_=>false) t listed a w (Zeu hd) aw Zsb G (λj=>by simp) ⟨u.size,u.defers,λj v hj=>?_⟩ hs E (λ_ _ _ _ _ h _=>by cases h) hI (λ_ h=>h);have hj:(bif Zdk S j then none else e.f j)=some v:=hj
    cases hm:Zdk S j with
    | true=>rw [hm] at hj;cases hj
    | false=>rw [hm] at hj;exact u.val j v hj
  | .fork i r j s,0,m,R,_=>by simp [OrdT.depth] at R
  | .take i fr r,0,m,R,_=>by simp [OrdT.depth] at R
  | .fork i r j s,fuel+1,m,R,k=>by
    have z:r.depth<=fuel:=by
      have h1:Nat.max r.depth s.depth+1<=fuel+1:=R;have Z:r.depth<=Nat.max r.depth s.depth:=Nat.le_max_left _ _;omega
    have ay:s.depth<=fuel:=by
      have h1:Nat.max r.depth s.depth+1<=fuel+1:=R;have Z:s.depth<=Nat.max r.depth s.depth:=Nat.le_max_right _ _;omega
    intro listed hd e a w G u hs E q g;unfold Zqv at g;unfold Zqw at k;split at g
    ·rename_i o p ho hp
     rw [ho,hp] at k;obtain ⟨hb,k⟩:=Zi8 k;obtain ⟨aj,T⟩:=Zi8 k;simp only [Awn] at hb;have az:=Zic C X N A Q r fuel (Zql m i) z aj;have aA:=Zic C X N A Q s fuel (Zql m j) ay T;exact ZDE (ZAL G hb.2.2) (G.ready.2 ⟨o,ho,hb.1⟩) (Zts C X N ho G u hs E q az g.1) (Zts C X N hp G u hs E q aA g.2)
    ·exact g.elim
  | .take i fr r,fuel+1,m,R,k=>by
    have z:r.depth<=fuel:=Nat.le_of_succ_le_succ R;intro listed hd e a w G u hs E q g;unfold Zqv at g;unfold Zqw at k;split at g
    ·exact g.elim
    ·rename_i o ho
     rw [ho] at k;obtain ⟨hb,k⟩:=Zi8 k;obtain ⟨O,ak,H,U⟩:=Zve hb;have ih:=Zic C X N A Q r fuel (Zql m i) z k
     have an:Zlh m i 0 ops.toList=true->ZEQ c ops o hd e w.heap (Zqv c ops K r)->wpK c.rnd c.P ops (Zgf c D a0 w0 Qx) (nxt ops) (Zeu hd) (fuel+1) listed a w :=
       λZ g=>ZtS (Zxx G Z) (G.ready.2 ⟨o,ho,O⟩) (Zts C X N ho G u hs E q ih g)
     have ao:=G.set (Zka ho);have aa:∀ v,XQ D a0 (a.put o.dst v):=λv=>E.trans (XQ.put λx hx=>N▸ZgG ho hx);have hQ:∀ c' a' v w',Zgf c D a0 w0 Qx (.panic c') (a'.put o.dst v) w'->Zgf c D a0 w0 Qx (.panic c') a' w':=λ_ _ _ _ h=>Znw (λx hx=>by rw [N];exact ZgG ho hx) h;split at g
     ·rename_i F
      have aq:ZoK ops o m i 0 ops.toList=true\/Zlh m i 0 ops.toList=true:=by
        cases fr with
        | true=>exact .inl (H (by rw [F];intro e;cases e) rfl)
        | false=>exact .inr (U rfl)
      unfold ZHn at g
      rcases ZiF u g with ⟨e1,B,hw,g⟩ | ⟨e1,B,hw,g⟩
      ·obtain ⟨v,M,g⟩:=ZAH B F g
       obtain ⟨Y,V,g⟩:=ZdU B g;exact Zqh C ho A hQ G O aq (v:=v.v) (.inl ⟨hw,λw _=>M w trivial⟩) q (ih _ hd Y _ w ao V hs (aa _) q g)
      ·obtain ⟨Y,V,g⟩:=ZdU B g
       exact Zqh C ho A hQ G O aq (v:=undef) (.inr ⟨hw,rfl⟩) q (ih _ hd Y _ w ao V hs (aa _) q g)
     ·rename_i t x F
      have J:=ZxH F
      cases z:fr with
      | true =>
        rw [z] at g;simp only [cond_true] at g;refine ZtX C N A ho G u hs E q ih O (H (by rw [F];intro e;cases e) z) (λe1 B g=>?_) g;split at g
        ·rename_i y hy
         obtain ⟨b,p,hp,g⟩:=Zi9 g;obtain ⟨v,cells,W,M,g⟩:=ZAX g;refine ⟨v,λh'=>Zo h' cells,Zma.2 W,λw' ae=>?_,g⟩;obtain ⟨dst,op,type,pos,after,guard⟩:=o;simp only at J;subst J;refine Zxl (s:=Instr.loadAt t (a.eval x)) ?_;rw [B.ev hy,hp];exact Zo8 (M w' (Zma.1 ae))
        ·exact g.elim
      | false =>
        rw [z] at g;simp only [cond_false] at g;refine ZEG C N ho G u hs E q ih (λ{e K} h1 Z=>?_) O (U z) g;obtain ⟨dst,op,type,pos,after,guard⟩:=o;simp only at J;subst J;exact Zqc h1 Z
     ·rename_i x F
      obtain ⟨s,d,el,J,aD,aE,aF⟩:=Zw2 F
      cases z:fr with
      | true =>
        rw [z] at g;simp only [cond_true] at g;refine ZtX C N A ho G u hs E q ih O (H (by rw [F];intro e;cases e) z) (λe1 B g=>?_) g;split at g
        ·rename_i p l n hy
         obtain ⟨str,M,g⟩:=Zs4 (P:=c.P) (w:=w) (x:=⟨p,l,n⟩) (K:=λs=>b2s ⟨p,l,n⟩ w.heap (λs'=>s'=s)/\Zst c.n e1 o.dst (.val (.string s)) λY=>Zqv c ops K r ((i,λh'=>b2s ⟨p,l,n⟩ h' λs'=>s'=s)::hd) Y w.heap) (by
           rcases g with ⟨h0,g⟩ | ⟨b,o2,s,h1,Z,h3,g⟩
           ·exact .inl ⟨h0,.inl ⟨h0,rfl⟩,g⟩
           ·exact .inr ⟨b,o2,s,h1,Z,h3,.inr ⟨b,o2,s,h1,Z,h3,rfl⟩,g⟩)
         refine ⟨.val (.string str),λh'=>b2s ⟨p,l,n⟩ h' λs'=>s'=str,g.1,λw' ae=>?_,g.2⟩;obtain ⟨s2,af,rfl⟩:=Zs4 (P:=c.P) (w:=w') ae;obtain ⟨dst,op,type,pos,after,guard⟩:=o;simp only at J;subst J;refine Zxl (s:=convert s d (a.eval x)) ?_;rw [B.ev hy];exact (Zjv aD aE aF).trans af
        ·exact g.elim
      | false =>
        rw [z] at g;simp only [cond_false] at g;exact an (U z) g
     ·rename_i F
      exact an (ak F) g
end
theorem Zpo {e:Env}:∀ {a:List Nat} {es:List EV} {vs:List EV} {j:Nat} {v:EV},Zvu e a=some es->es.map EV.v=vs.map EV.v->Zam a vs j=some v->∃ u,e j=some u/\u.v=v.v
  | [],es,vs,j,v,_,_,h=>by simp [Zam] at h
  | s::f,es,vs,j,v,b,hm,h=>by
    simp only [Zvu] at b;split at b
    ·rename_i u us hu c
     simp only [Awh] at b;subst b
     cases vs with
     | nil=>simp [Zam] at h
     | cons g vs =>
       simp only [Awo,Axw] at hm;simp only [Zam] at h
       cases d:Nat.beq j s with
       | true =>
         have:=Awg d;subst this;rw [d] at h;simp only [cond_true,Awh] at h;subst h;exact ⟨u,hu,hm.1⟩
       | false =>
         rw [d] at h;exact Zpo c hm.2 h
    ·cases b
theorem ZqS {c:Cfg} {b:List Nat} {tys:List VT} {kill:List (Nat × Nat)} {e y:Env} {a a':Act} {D:List Nat} {t:Xl tys} (i:Agr c.n e a) (g:Agr c.n y a') (f:XQ D a a')
    (k:D.all (λj=>bif Nat.beq j mkN then false else Zdk b j||ZrP kill j)=true) (q:Zs5 b tys y=some t) (l:∀ j,Zdk b j=true->∃ v,Zam b (Xl.evs tys t) j=some v) :
    Agr c.n (ZoM b (Xl.evs tys t) kill e) a':=by
  have r:mkN∉D:=λh=>by
    have:=Axb.1 k mkN h;rw [show Nat.beq mkN mkN=true from Axv mkN] at this;cases this
  refine ⟨g.size,(f.2 r).trans i.defers,λj v d=>?_⟩;unfold ZoM at d;dsimp only at d;unfold Zs5 at q;split at q
  ·rename_i es s
   have hm:=ZhM q
   cases hl:Zam b (Xl.evs tys t) j with
   | some u =>
     rw [hl] at d;simp only [Awh] at d;subst d;obtain ⟨x,z,hv⟩:=Zpo s hm.symm hl;rw [<- hv];exact g.val j x z
   | none =>
     rw [hl] at d;simp only at d
     cases w:ZrP kill j with
     | true=>rw [w] at d;cases d
     | false =>
       rw [w] at d;simp only [cond_false] at d
       have m:j∉D:=by
         intro A;have:=Axb.1 k j A
         cases o:Nat.beq j mkN with
         | true=>rw [o] at this;cases this
         | false =>
         rw [o,w,cond_false,Bool.or_false] at this;obtain ⟨B,p⟩:=l j this;rw [hl] at p;cases p
       rw [f.1 j m];exact i.val j v d
  ·cases q
theorem ZrM {e:Env}:∀ {a:List Nat} {es vs:List EV} {j:Nat},Zvu e a=some es->es.map EV.v=vs.map EV.v->Zdk a j=true->∃ v,Zam a vs j=some v
  | [],es,vs,j,_,_,h=>by simp [Zdk] at h
  | s::g,es,vs,j,b,hm,h=>by
    simp only [Zvu] at b;split at b
    ·rename_i u us hu c
     simp only [Awh] at b;subst b
     cases vs with
     | nil=>simp at hm
     | cons d vs =>
       simp only [Awo,Axw] at hm;simp only [Zam];simp only [Zdk] at h
       cases f:Nat.beq j s with
       | true=>exact ⟨d,rfl⟩
       | false =>
         rw [f] at h;exact ZrM c hm.2 h
    ·cases b
theorem Zry {a:List Nat} {tys:List VT} {e:Env} {t:Xl tys} (b:Zs5 a tys e=some t):∀ j,Zdk a j=true->∃ v,Zam a (Xl.evs tys t) j=some v:=by
  intro j d;unfold Zs5 at b;split at b
  ·rename_i es c
   exact ZrM c (ZhM b).symm d
  ·cases b
theorem Zps {a:List Nat} {tys:List VT} {e:Env} {J:Xl tys->Zf->Prop} {h:Zf} (b:ZxP a tys e J h):∃ t,Zs5 a tys e=some t/\J t h:=by
  unfold ZxP at b;split at b
  ·rename_i t c
   exact ⟨t,c,b⟩
  ·exact b.elim
theorem Zo5 {n:Nat}:∀ {d:List Tmp} {vs:List EV} {e c:Env} {a:Act},Agr n e a->Zo6 n e d vs=some c ->
    Agr n c { a with tmps:=(d.zip (vs.map EV.v)).foldl (λt x=>t.setIfInBounds x.1 x.2) a.tmps }
  | [],[],e,c,a,b,h=>by
    simp only [Zo6,Awh] at h;subst h;exact b
  | p::d,v::vs,e,c,a,b,h=>by
    simp only [Zo6] at h
    cases f:Nat.blt p n with
    | false=>rw [f] at h;cases h
    | true =>
      rw [f] at h;exact Zo5 (a:=a.put (some p) v.v) (b.set f v) h
  | [],_::_,e,c,a,b,h=>by cases h
  | _::_,[],e,c,a,b,h=>by cases h
theorem Zxo (a:Array Tmp) (vs:List Value) (tmps:Array Value):(a.zip vs.toArray).foldl (λt x=>t.setIfInBounds x.1 x.2) tmps=(a.toList.zip vs).foldl (λt x=>t.setIfInBounds x.1 x.2) tmps:=by
  rw [<- Array.foldl_toList,Array.toList_zip]
theorem ZcM:∀ (code:Code) (c:Cfg) (_:c.OK) (_:c.P.follows .mixedOrders=true) (G:Ann) (e:Env) (a:Act) (w:World) (Q:Ex->Env->Zf->Prop),
    Agr c.n e a->wpC c code G e w.heap Q->code.wpIn (fen c.rnd) 0 c.P (Zgf c (Zgd code) a w Q) a w
  | .skip,c,K,d,G,e,a,w,Q,m,i=>wpIn_skip ⟨e,m,Same.refl w,XQ.refl _ a,i⟩
  | .region id ops draw,c,K,d,G,e,a,w,Q,m,i=>by
    unfold wpC at i
    cases draw with
    | false =>
      refine wpIn_region ?_;rw [List.range_eq_range'];have:=Znp K (ops:=ops) (Q:=Zgf c (Zgd (.region id ops false)) a w Q) ops.toList 0 (by simp) m i (λN a' w' h1 B h3 o=>⟨N,h1,B,h3,o⟩) (λv a' w' B h3 o=>⟨v,rfl,B,h3,o⟩);simpa using this
    | true =>
      simp only at i;split at i
      ·rename_i l
       obtain ⟨H,i⟩:=Zge i;simp only [Awn] at H;refine wpIn_region_any d (ZwQ (nx:=nxt ops) _ (Zeu []) _ _ _ ?_);exact Zic (ZvA H.2.2.1) K (D:=Zgd (.region id ops true)) rfl H.1 (λ_ _ h=>h) l ops.size 0 (Awt H.2.1) H.2.2.2 _ [] e a { w with drawn:=w.drawn+1 } (Rel.zero ops) m ⟨rfl,rfl,rfl⟩ (XQ.refl _ a) (λq hq=>(by cases hq)) i
      ·obtain ⟨H,i⟩:=Zge i
       simp only [Awn] at H;have aj:c.rnd=none:=Axu.1 H.1;rw [aj];refine wpIn_region_quiet (C:=Cls w w.heap) rfl d H.2 ⟨⟨rfl,rfl,rfl⟩,rfl⟩ ?_;refine Zqt K ops.toList 0 (by simp) m i λN a' h1 h3 o w' hw=>⟨N,h1,hw.1,h3,?_⟩;rw [hw.2];exact o
  | .seq x y,c,K,d,G,e,a,w,Q,m,i=>by
    have plain:∀ u v:Ann,wpC c x u e w.heap (ZBb (λN h'=>wpC c y v N h' Q) Q)->(Code.seq x y).wpIn (fen c.rnd) 0 c.P (Zgf c (Zgd (.seq x y)) a w Q) a w:=by
      intro u v i;refine wpIn_seq (wpIn_mono (ZcM x c K d u e a w _ m i) ?_);intro ex a' w' L
      cases ex<;>first
        | exact L.elim
        | skip
      ·obtain ⟨N,h1,B,h3,o⟩:=L
       refine wpIn_mono (ZcM y c K d v N a' w' _ h1 o) ?_;exact Zgf.mono B (h3.mono λj E=>Axx.2 (.inl E)) (λj E=>Axx.2 (.inr E)) (λ_ _ _ h=>h)
      ·obtain ⟨N,h1,B,h3,o⟩:=L
       exact ⟨N,h1,B,h3.mono λj E=>Axx.2 (.inl E),o⟩
      ·obtain ⟨N,h1,B,h3,o⟩:=L
       exact ⟨N,h1,B,h3.mono λj E=>Axx.2 (.inl E),o⟩
      ·obtain ⟨v,h1,B,h3,o⟩:=L
       exact ⟨v,h1,B,h3.mono λj E=>Axx.2 (.inl E),o⟩
    unfold wpC at i;split at i
    ·rename_i z tys kill u v
     cases O:Zur z kill x with
     | false=>rw [O] at i;exact i.elim
     | true =>
       rw [O] at i;obtain ⟨J,hJ,i⟩:=i;refine wpIn_seq (wpIn_mono (ZcM x c K d u e a w _ m i) ?_);intro ex a' w' L
       cases ex<;>first
         | exact L.elim
         | skip
       ·obtain ⟨N,h1,B,h3,o⟩:=L
        obtain ⟨t,ht,E⟩:=Zps o;have U:=ZqS m h1 h3 O ht (Zry ht);refine wpIn_mono (ZcM y c K d v _ a' w' _ U (hJ t w'.heap E)) ?_;exact Zgf.mono B (h3.mono λj E=>Axx.2 (.inl E)) (λj E=>Axx.2 (.inr E)) (λ_ _ _ h=>h)
       ·obtain ⟨N,h1,B,h3,o⟩:=L
        exact ⟨N,h1,B,h3.mono λj E=>Axx.2 (.inl E),o⟩
       ·obtain ⟨N,h1,B,h3,o⟩:=L
        exact ⟨N,h1,B,h3.mono λj E=>Axx.2 (.inl E),o⟩
       ·obtain ⟨v,h1,B,h3,o⟩:=L
        exact ⟨v,h1,B,h3.mono λj E=>Axx.2 (.inl E),o⟩
    ·exact plain _ _ i
  | .cond x p q,c,K,d,G,e,a,w,Q,m,i=>by
    have yes:∀ u,wpC c p u e w.heap Q->p.wpIn (fen c.rnd) 0 c.P (Zgf c (Zgd (.cond x p q)) a w Q) a w:=λu i =>
      wpIn_mono (ZcM p c K d u e a w Q m i) (Zgf.mono (Same.refl w) (XQ.refl _ a) (λj E=>Axx.2 (.inl E)) (λ_ _ _ h=>h))
    have no:∀ u,wpC c q u e w.heap Q->q.wpIn (fen c.rnd) 0 c.P (Zgf c (Zgd (.cond x p q)) a w Q) a w:=λu i =>
      wpIn_mono (ZcM q c K d u e a w Q m i) (Zgf.mono (Same.refl w) (XQ.refl _ a) (λj E=>Axx.2 (.inr E)) (λ_ _ _ h=>h))
    unfold wpC at i;split at i
    ·rename_i hx;exact wpIn_cond_true (m.ev hx) (yes _ i)
    ·rename_i hx;exact wpIn_cond_false (m.ev hx) (no _ i)
    ·rename_i b hx
     exact wpIn_cond_split (m.ev hx) (λH=>yes _ (i.1 H)) (λH=>no _ (i.2 H))
    ·exact i.elim
  | .block id x,c,K,d,G,e,a,w,Q,m,i=>by
    unfold wpC at i;refine wpIn_block (wpIn_mono (ZcM x c K d _ e a w _ m i) ?_);intro ex a' w' L
    cases ex<;>first
      | exact L.elim
      | skip
    ·exact L
    ·rename_i aN
     obtain ⟨N,h1,B,h3,o⟩:=L;simp only [Exit.inBlock];simp only [ZB3] at o
     cases H:Nat.beq aN id with
     | true =>
       rw [H] at o;rw [if_pos (Awg H)];exact ⟨N,h1,B,h3,o⟩
     | false =>
       rw [H] at o;rw [if_neg (Awi H)];exact ⟨N,h1,B,h3,o⟩
    ·exact L
    ·exact L
  | .loop x,c,K,d,G,e,a,w,Q,m,i=>by
    unfold wpC at i;split at i
    ·rename_i z tys kill u
     cases O:Zur z kill x with
     | false=>rw [O] at i;exact i.elim
     | true =>
       rw [O] at i;simp only [cond_true] at i;split at i
       ·rename_i t0 aA
        obtain ⟨I,μ,h0,hr⟩:=i;have ae:=Zry aA
        have ak:∀ (t:Xl tys) j,Zdk z j=true->∃ v,Zam z (Xl.evs tys t) j=some v:=by
          intro t j E;obtain ⟨v,hv⟩:=ae j E
          have len:∀ (ts:List VT) (s s':Xl ts),(Xl.evs ts s).length=(Xl.evs ts s').length:=by
            intro ts
            induction ts with
            | nil=>intro s s';rfl
            | cons x xs ih=>intro s s';simp only [Xl.evs,Aqj];exact congrArg _ (ih _ _)
          have go:∀ (ss:List Nat) (us vs:List EV),us.length=vs.length->(∃ v,Zam ss us j=some v)->∃ v,Zam ss vs j=some v:=by
            intro ss
            induction ss with
            | nil=>intro us vs _ h;simp [Zam] at h
            | cons s ss ih =>
              intro us vs hlen h
              cases us with
              | nil=>simp [Zam] at h
              | cons u us =>
                cases vs with
                | nil=>simp at hlen
                | cons v' vs =>
                  simp only [Zam] at h ⊢
                  cases H:Nat.beq j s with
                  | true=>exact ⟨v',rfl⟩
                  | false =>
                    rw [H] at h;exact ih us vs (by simpa using hlen) h
          exact go z _ _ (len tys t0 t) ⟨v,hv⟩
        refine wpIn_loop_ghost (λn a' w'=>Same w w'/\XQ (Zgd x) a a'/\∃ t,Agr c.n (ZoM z (Xl.evs tys t) kill e) a'/\I t w'.heap/\n=μ t w'.heap)
          (μ t0 w.heap) ⟨Same.refl w,XQ.refl _ a,t0,ZqS m m (XQ.refl _ a) O aA ae,h0,rfl⟩ ?_
        rintro n a' w' ⟨hs,M,t,aD,hI,rfl⟩;refine wpIn_mono (ZcM x c K d u _ a' w' _ aD (hr t w'.heap hI)) ?_;intro ex a2 w2 L
        cases ex<;>first
          | exact L.elim
          | skip
        ·obtain ⟨Z,h1,B,h3,o⟩:=L
         have h5:ZxP z tys Z (λs' h'=>I s' h'/\μ s' h'<μ t w'.heap) w2.heap:=o;obtain ⟨t2,aP,aQ,hμ⟩:=Zps h5;exact ⟨_,hμ,hs.trans B,M.trans h3,t2,ZqS m h1 (M.trans h3) O aP (ak t2),aQ,rfl⟩
        ·obtain ⟨Z,h1,B,h3,o⟩:=L
         exact ⟨Z,h1,hs.trans B,M.trans h3,o⟩
        ·obtain ⟨Z,h1,B,h3,o⟩:=L
         exact ⟨Z,h1,hs.trans B,M.trans h3,o⟩
        ·obtain ⟨v,h1,B,h3,o⟩:=L
         exact ⟨v,h1,hs.trans B,M.trans h3,o⟩
       ·exact i.elim
    ·exact i.elim
  | .exit id,c,K,d,G,e,a,w,Q,m,i=>wpIn_exit ⟨e,m,Same.refl w,XQ.refl _ a,i⟩
  | .ret,c,K,d,G,e,a,w,Q,m,i=>wpIn_ret ⟨e,m,Same.refl w,XQ.refl _ a,i⟩
  | .rangeFunc g ps assign body,c,K,d,G,e,a,w,Q,m,i=>by
    unfold wpC at i;split at i
    ·rename_i tys x y
     cases H:(c.rnd.isNone&&e.mD.isNo) with
     | false=>rw [H] at i;exact i.elim
     | true =>
       rw [H] at i;simp only [cond_true] at i;simp only [Awn] at H;have aj:c.rnd=none:=Axu.1 H.1
       have aR:e.mD = .no:=by
         cases h9:e.mD with
         | no=>rfl
         | at_ D9=>rw [h9] at H;cases H.2
         | raw d9=>rw [h9] at H;cases H.2
       have aS:a.defers=[]:=by rw [m.defers,aR];rfl
       split at i
       ·rename_i f cs hg
        split at i
        ·rename_i s t L
         obtain ⟨af,ht⟩:=Zny L;dsimp only at af ht;have aE:=K.iters _ af;dsimp only at aE;have aT:a.eval g=Value.func (.func f) #[] ⟨cs⟩:=m.ev hg;rw [aj];refine wpIn_rangeFunc ?_;intro fn aU;obtain ⟨r,hr⟩:∃ r:Loop,r={ state:= .ready,pending:=none,fn,tmps:=a.tmps,params:=ps,assign,body,defers:=w.heap.size }:=⟨_,rfl⟩;have ag:=i r;clear i;obtain ⟨W1,ao⟩:∃ W1,(w.alloc (.deferred (some []))).alloc (Zdp r .ready none)=W1:=⟨_,rfl⟩;have aV:W1.heap=(w.heap.push (.deferred (some []))).push (Zdp r .ready none):=by rw [<- ao];rfl
         have aW:Same w W1:=by rw [<- ao];exact ⟨rfl,rfl,rfl⟩
         rw [<- aV] at ag
         have hY:YOK c.P (ZoV r (w.heap.size+1) ps.size (λvs h' k=>ZyB (λa:Xl tys=>(Xl.evs tys a).map EV.v) vs λa=>match Zo6 c.n ⟨e.f,.no⟩ ps.toList (Xl.evs tys a) with
           | some e1=>wpC { c with rnd:=some (w.heap.size+1),pan:=λ_ _=>False } assign x e1 h' (ZBJ λZ B =>
               Ztx r (w.heap.size+1) B λh3=>wpC { c with rnd:=some (w.heap.size+1),pan:=λ_ _=>False } body y Z h3 (ZBI k))
           | none=>False)):=by
           intro l vs k W hy;obtain ⟨rfl,hlen,V,F⟩:=hy;obtain ⟨ta,rfl,F⟩:=F;split at F
           ·rename_i e1 aY
            have aq:W.heap[w.heap.size+1]?=some (.loop { r with state:= .ready,pending:=none }):=V;have hy:=run_yield (P:=c.P) (args:=((Xl.evs tys ta).map EV.v).toArray) aq (by rw [hr];simpa using hlen);refine ⟨fn,(ps.zip ((Xl.evs tys ta).map EV.v).toArray).foldl (λt x=>t.setIfInBounds x.1 x.2) a.tmps,assign,body,by rw [hr] at hy;exact hy,?_⟩
            have ai:Agr c.n e1 { tmps:=(ps.toList.zip ((Xl.evs tys ta).map EV.v)).foldl (λt x=>t.setIfInBounds x.1 x.2) a.tmps,defers:=[]} :=
              Zo5 (e:=⟨e.f,.no⟩) (a:={ a with defers:=[]}) ⟨m.size,rfl,m.val⟩ aY
            have aF:=K.at (some (w.heap.size+1)) (λ_ _=>False);rw [<- Zxo] at ai;refine roundIn_of_wpIn aU ?_;refine wpIn_mono (ZcM assign _ aF d x e1 _ W _ ai F) ?_;intro ex a1 w1 S
            cases ex with
            | normal =>
              obtain ⟨Z,U,aa,bq,ar,aZ⟩:=S;have aG:w1.heap[w.heap.size+1]?=some (.loop { r with state:= .ready,pending:=none }):=ar;refine ⟨_,run_beginRound aG rfl,?_⟩;refine wpIn_mono (ZcM body _ aF d y Z a1 (w1.putObj (w.heap.size+1) (.loop { r with state:= .busy,pending:=none })) _ U aZ) ?_;have X:Same W (w1.putObj (w.heap.size+1) (.loop { r with state:= .busy,pending:=none })):=aa.trans ⟨rfl,rfl,rfl⟩
              have fin:∀ (p:Option Code) (W3:World),Same (w1.putObj (w.heap.size+1) (.loop { r with state:= .busy,pending:=none })) W3 ->
                  ZvJ W3.heap (w.heap.size+1) r .busy none (k p.isNone (Zng W3.heap (w.heap.size+1) (Zdp r (if p.isNone then .ready else .done) p))) ->
                  ∃ v w',(Instr.endRound (w.heap.size+1) p).run c.P W3 = .ok v w'/\∃ b,Ending.returned v = .returned (.bool b)/\Same W w'/\k b w'.heap:=by
                intro p W3 R A;have aH:W3.heap[w.heap.size+1]?=some (.loop { r with state:= .busy,pending:=none }):=A.1;exact ⟨_,_,run_endRound p aH,p.isNone,rfl,(X.trans R).trans ⟨rfl,rfl,rfl⟩,A.2⟩
              intro ba a3 w3 T
              cases ba with
              | normal=>obtain ⟨e3,_,R,_,A⟩:=T;exact fin none w3 R A
              | ret=>obtain ⟨e3,_,R,_,A⟩:=T;exact fin (some .ret) w3 R A
              | exit id=>obtain ⟨e3,_,R,_,A⟩:=T;exact fin (some (.exit id)) w3 R A
              | goto t=>exact T.elim
              | panic ch=>obtain ⟨_,_,_,_,A⟩:=T;exact A.elim
              | outgrown=>exact T.elim
            | ret=>obtain ⟨_,_,_,_,A⟩:=S;exact A.elim
            | exit id=>obtain ⟨_,_,_,_,A⟩:=S;exact A.elim
            | goto t=>exact S.elim
            | panic ch=>obtain ⟨_,_,_,_,A⟩:=S;exact A.elim
            | outgrown=>exact S.elim
           ·exact F.elim
         have bc:=aE _ hY;obtain ⟨⟨fd,hf,au,av⟩,aw⟩:=bc
         have F:(#[Value.func (.yield (w.heap.size+1)) #[] #[]]:Array Value)++(⟨cs⟩:Array Value)=((Xl.evs (.yl::s.caps) (w.heap.size+1,t)).map EV.v).toArray:=by
           have h5:=ZhM ht;have h6:(cs.map EV.val).map EV.v=cs:=by simp [Function.comp_def,EV.v]
           rw [h6] at h5;simp only [Xl.evs,Awo,h5];simp [VT.ev,EV.v]
         refine ⟨w.heap.size+1,[{ target:= .collected w.heap.size,args:= #[]}],W1,{ target:= .fn (.func f) ⟨cs⟩,args:= #[.func (.yield (w.heap.size+1)) #[] #[]]},W1,f,
           #[.func (.yield (w.heap.size+1)) #[] #[]]++(⟨cs⟩:Array Value),W1,?_,?_,?_,?_,λh=>(by cases h),Zi6.2 ?_⟩
         ·rw [<- ao,hr]
          exact run_enterLoop_outer fn a.tmps ps assign body
         ·simp only [resolve,aT]
          simp [Deferred.ofValue,Act.eval]
         ·intro f' bw;exact trivial
         ·simp only [invoke,callFunc,Awk,run_program,Awl,hf,au,Aqc,if_false,av,Awp]
         ·rw [F]
          refine (aw (w.heap.size+1,t) (λ_ h'=>∃ st p,st≠ .busy/\ZvJ h' (w.heap.size+1) r st p (ZvI p (Q .normal ⟨e.f,.at_ w.heap.size⟩ (Zng h' (w.heap.size+1) (Zdp r .exhausted p)))
            (λid=>Q (.exit id) ⟨e.f,.at_ w.heap.size⟩ (Zng h' (w.heap.size+1) (Zdp r .exhausted p))) (Q .ret ⟨e.f,.at_ w.heap.size⟩ (Zng h' (w.heap.size+1) (Zdp r .exhausted p))))) (λ_ _=>False) W1 ag).mono ?_
          rintro ending w2 (⟨rr,rfl,aa,st,p,bd,V,E⟩ | ⟨v,rfl,aa,i⟩)
          ·have aq:w2.heap[w.heap.size+1]?=some (.loop { r with state:=st,pending:=p }):=V
           have aI:=run_endLoop (P:=c.P) aq (by exact bd);have X:Same w (w2.putObj (w.heap.size+1) (Zdp r .exhausted p)):=(aW.trans aa).trans ⟨rfl,rfl,rfl⟩;have Y:Agr c.n ⟨e.f,.at_ w.heap.size⟩ { a with defers:=[{ target:= .collected w.heap.size,args:= #[]}]++a.defers }:=⟨m.size,by rw [aS];rfl,m.val⟩;have ax:XQ (Zgd (.rangeFunc g ps assign body)) a { a with defers:=[{ target:= .collected w.heap.size,args:= #[]}]++a.defers }:=⟨λ_ _=>rfl,λh=>absurd (Axs.2 rfl) h⟩;refine ⟨p,_,aI,?_⟩
           cases p with
           | none=>exact ⟨_,Y,X,ax,E⟩
           | some cj =>
             cases cj with
             | exit id=>exact wpIn_exit ⟨_,Y,X,ax,E⟩
             | ret=>exact wpIn_ret ⟨_,Y,X,ax,E⟩
             | _=>exact E.elim
          ·exact i.elim
        ·exact i.elim
       ·exact i.elim
    ·exact i.elim
  | .scope _,c,K,d,G,e,a,w,Q,m,i=>i.elim
  | .label _,c,K,d,G,e,a,w,Q,m,i=>i.elim
  | .goto _,c,K,d,G,e,a,w,Q,m,i=>i.elim
  | .refuse _,c,K,d,G,e,a,w,Q,m,i=>i.elim
theorem ZpP:∀ (args:List EV) (i:Nat) (j:Nat) (v:EV),Zon.go args i j=some v->∃ k,j=i+k/\args[k]?=some v
  | [],i,j,v,h=>by simp [Zon.go] at h
  | x::xs,i,j,v,h=>by
    simp only [Zon.go] at h
    cases a:Nat.beq j i with
    | true =>
      rw [a] at h;simp only [cond_true,Awh] at h;exact ⟨0,Awg a,by simp [h]⟩
    | false =>
      rw [a] at h;obtain ⟨k,b,hv⟩:=ZpP xs (i+1) j v h;exact ⟨k+1,by omega,by simpa using hv⟩
theorem Zns {c:Cfg} {e:Env} {a:Act} {w:World} (g:Agr c.n e a) {f:ResultVar->Sem Value} (h1:∀ t,f (.tmp t)=pure (a.tmps.getD t undef))
    (h:∀ x t,f (.cell x t)=(do loadVar t (<- asAddr (a.tmps.getD x undef)))):∀ {rs:List ResultVar} {K:List EV->Prop},Zy5 c e w.heap rs K ->
    ∃ vs,(rs.mapM f).run c.P w = .ok (vs.map EV.v) w/\K vs
  | [],K,d=>⟨[],rfl,d⟩
  | .tmp t::r,K,d=>by
    simp only [Zy5] at d;split at d
    ·rename_i v hv
     obtain ⟨vs,i,d⟩:=Zns g h1 h d;refine ⟨v::vs,?_,d⟩;have:=g.val t v hv;rw [Awz];simp only [h1,Awk,Awp,Awl,i,Awo];simp [this]
    ·exact d.elim
  | .cell x t::r,K,d=>by
    simp only [Zy5] at d;split at d
    ·rename_i b o hv
     obtain ⟨v,hl,d⟩:=Zui d;obtain ⟨vs,i,d⟩:=Zns g h1 h d;refine ⟨v::vs,?_,d⟩;have:=g.val x _ hv
     have j:(asAddr (a.tmps.getD x undef)).run c.P w = .ok ⟨b,o,none⟩ w:=by
       have:a.tmps.getD x undef = .pointer (some ⟨b,o,none⟩):=by simp [this,EV.v]
       rw [this];rfl
     rw [Awz];simp only [h,Awk,Awp,j,Awl,hl w rfl,i,Awo]
    ·exact d.elim
def ZNU (l:List Value):Value:=match l with
  | [v]=>v
  | l=> .tuple l.toArray
theorem ZwZ:∀ (vs:List EV),(ZgY vs).v=ZNU (vs.map EV.v)
  | []=>rfl
  | [_]=>rfl
  | _::_::_=>rfl
theorem Zw1 (l:List Value):(if h:l.toArray.size=1 then l.toArray[0] else Value.tuple l.toArray)=ZNU l:=by
  match l with
  | []=>rfl
  | [x]=>rfl
  | x::y::r =>
    have:¬ (x::y::r).toArray.size=1:=by simp
    rw [dif_neg this];rfl
theorem ZDU {res:List VT} {vs:List EV} {r:Xl res} (h:Xl.un res vs=some r):ZGH res r=ZNU (vs.map EV.v):=by
  unfold ZGH;rw [ZwZ,ZhM h]
theorem ZvM {c:Cfg} (E:c.OK) (g:c.P.follows .mixedOrders=true) {f:FuncId} {fn:Func} {s:Ann} {args:List EV} {res:List VT} {K:Xl res->Zf->Prop} {m:Value->Zf->Prop} {w:World}
    (F:c.P.funcs[f]?=some fn) (G:c.n=fn.ntmps) (hlen:args.length<=fn.ntmps) (d:ZFj c fn s args res K m w.heap) :
    Calls c.P f (args.map EV.v).toArray w (Zkj res w K m):=by
  unfold ZFj at d;split at d
  ·rename_i code p
   refine Zi6 (r:=none) (n:=0).1 (callsIn_of_wp_marks F p trivial ?_)
   have y:Agr c.n (Zon args) { tmps:=(args.map EV.v).toArray++Array.replicate (fn.ntmps - (args.map EV.v).toArray.size) undef,defers:=[]}:=by
     refine ⟨by simp [G];omega,rfl,λj v H=>?_⟩;obtain ⟨k,d,hv⟩:=ZpP args 0 j v H
     have u:k<args.length:=by
       rcases Aqd k args.length with h | h
       ·exact h
       ·rw [Aqt h] at hv;cases hv
     simp only [Awb] at d;subst d;simp [u,Array.getElem?_append];have C:=Axy u;rw [hv] at C;exact congrArg EV.v (Option.some.inj C.symm)
   refine wpIn_mono (ZcM code _ (E.at none (bif ZEx code then λ_ _=>False else m)) g s _ _ w _ y d) ?_
   have i:∀ (a':Act) (w1:World) (b:Env),Agr c.n b a'->Same w w1->(Zy5 c b w1.heap fn.results.toList λvs=>match Xl.un res vs with
       | some r=>K r w1.heap
       | none=>False)->∃ v,(results fn a'.tmps).run c.P w1 = .ok v w1/\Zkj res w K m (.returned v) w1:=by
     intro a' w1 b h1 e a
     obtain ⟨vs,I,d⟩:=Zns (f:=λ
       | .tmp t=>pure (a'.tmps.getD t undef)
       | .cell x t=>do loadVar t (<- asAddr (a'.tmps.getD x undef))) h1 (λ_=>rfl) (λ_ _=>rfl) a
     split at d
     ·rename_i r z
      refine ⟨ZGH res r,?_,.inl ⟨r,rfl,e,d⟩⟩;unfold results;rw [Axa];simp only [Awk,Sem.run_map];have A:=I;refine (congrArg (λr=>(Result.andThen (Result.andThen r _) _)) A).trans ?_;simp only [Awl,Awp];rw [ZDU z];exact congrArg (λv=>Result.ok v w1) (Zw1 _)
     ·exact d.elim
   have fin:∀ (a':Act) (w':World) (b:Env),Agr c.n b a'->Same w w'->(match b.mD with
       | .no=>Zy5 c b w'.heap fn.results.toList λvs=>match Xl.un res vs with
         | some r=>K r w'.heap
         | none=>False
       | .at_ D=>Zk7 D w'.heap λh'=>Zy5 c b h' fn.results.toList λvs=>match Xl.un res vs with
         | some r=>K r h'
         | none=>False
       | .raw _=>False)->LeavesInM (fen none) 0 c.P fn a'.tmps (Zkj res w K m) a'.defers .returning w':=by
     intro a' w' b h1 e a;rw [h1.defers]
     cases hm:b.mD with
     | raw M=>rw [hm] at a;exact a.elim
     | no =>
       rw [hm] at a;exact i a' w' b h1 e a
     | at_ D =>
       rw [hm] at a;obtain ⟨J,a⟩:=a;refine ⟨by simp,.inl ⟨D,_,rfl,run_takeDeferred J,?_⟩⟩;exact i a' (w'.putObj D (.deferred none)) b h1 (e.trans ⟨rfl,rfl,rfl⟩) a
   intro ex a' w' q
   cases ex with
   | normal=>obtain ⟨b,h1,e,h3,a⟩:=q;exact fin a' w' b h1 e a
   | ret=>obtain ⟨b,h1,e,h3,a⟩:=q;exact fin a' w' b h1 e a
   | exit id=>obtain ⟨b,h1,e,h3,a⟩:=q;exact a.elim
   | goto t=>exact q.elim
   | outgrown=>exact q.elim
   | panic ch =>
     obtain ⟨v,rfl,e,h3,a⟩:=q
     cases o:ZEx code with
     | true=>rw [o] at a;exact a.elim
     | false =>
       rw [o] at a
       have B:mkN∉Zgd code:=by
         have key:∀ (l:List Nat),Zdk l mkN=false->mkN∉l:=by
           intro l
           induction l with
           | nil=>intro _ h;cases h
           | cons x xs L =>
             intro h hm;simp only [Zdk] at h
             cases p:Nat.beq mkN x with
             | true=>rw [p] at h;cases h
             | false =>
               rw [p] at h
               rcases Awr.1 hm with he | hm
               ·rw [<- he,Axv] at p;cases p
               ·exact L h hm
         exact key _ o
       rw [show bodyPostM (fen none) 0 c.P fn (Zkj res w K m) (.panic [{ v,recovered:=false }]) a' w'=LeavesInM (fen none) 0 c.P fn a'.tmps (Zkj res w K m) a'.defers (.panicking [{ v,recovered:=false }]) w' from rfl,h3.2 B];exact .inr ⟨v,rfl,e,a⟩
  ·exact d.elim
inductive AllOK (P:Program):List (FuncId × Zh)->Prop
  | nil:AllOK P []
  | cons {f:FuncId} {s:Zh} {l:List (FuncId × Zh)} (h:ZC P f s) (r:AllOK P l):AllOK P ((f,s)::l)
theorem ZpQ {P:Program}:∀ {l:List (FuncId × Zh)},AllOK P l->∀ x,x∈l->ZC P x.1 x.2
  | [],_,x,h=>by cases h
  | _::_,.cons h0 a,x,h=>by
    cases h with
    | head=>exact h0
    | tail _ h=>exact ZpQ a x h
inductive AllExt (P:Program):List FuncId->Prop
  | nil:AllExt P []
  | cons {f:FuncId} {l:List FuncId} (h:ZyX P f) (r:AllExt P l):AllExt P (f::l)
theorem ZpR {P:Program}:∀ {l:List FuncId},AllExt P l->∀ f,f∈l->ZyX P f
  | [],_,x,h=>by cases h
  | _::_,.cons h0 a,x,h=>by
    cases h with
    | head=>exact h0
    | tail _ h=>exact ZpR a x h
inductive AllDyn (P:Program):List (String × TypeId × FuncId)->Prop
  | nil:AllDyn P []
  | cons {n:String} {t:TypeId} {f:FuncId} {l:List (String × TypeId × FuncId)} (h:ZuL P n t f) (r:AllDyn P l):AllDyn P ((n,t,f)::l)
theorem ZpS {P:Program}:∀ {l:List (String × TypeId × FuncId)},AllDyn P l->∀ x,x∈l->ZuL P x.1 x.2.1 x.2.2
  | [],_,x,h=>by cases h
  | _::_,.cons h0 a,x,h=>by
    cases h with
    | head=>exact h0
    | tail _ h=>exact ZpS a x h
inductive AllIter (P:Program):List (FuncId × ZcK)->Prop
  | nil:AllIter P []
  | cons {f:FuncId} {s:ZcK} {l:List (FuncId × ZcK)} (h:Zsn P f s) (r:AllIter P l):AllIter P ((f,s)::l)
theorem Zoo {P:Program}:∀ {l:List (FuncId × ZcK)},AllIter P l->∀ x,x∈l->Zsn P x.1 x.2
  | [],_,x,h=>by cases h
  | _::_,.cons h0 a,x,h=>by
    cases h with
    | head=>exact h0
    | tail _ h=>exact Zoo a x h
inductive AllAdd (P:Program):List FuncId->Prop
  | nil:AllAdd P []
  | cons {f:FuncId} {l:List FuncId} (h:Zy0 P f) (r:AllAdd P l):AllAdd P (f::l)
theorem ZpT {P:Program}:∀ {l:List FuncId},AllAdd P l->∀ f,f∈l->Zy0 P f
  | [],_,x,h=>by cases h
  | _::_,.cons h0 a,x,h=>by
    cases h with
    | head=>exact h0
    | tail _ h=>exact ZpT a x h
theorem ZhI (c:Cfg) (h:AllOK c.P c.calls) (h':AllExt c.P c.ext) (h'':AllDyn c.P c.dyn) (h3:AllIter c.P c.iters) (a:YOK c.P c.yld) (b:AllAdd c.P c.adds:=by exact AllAdd.nil):c.OK:=⟨ZpQ h,ZpR h',ZpS h'',Zoo h3,a,ZpT b⟩
theorem Zyl {P:Program} {f:FuncId} {fn:Func} (c:P.funcs[f]?=some fn) (a:(fn.name == "runtime.NumGoroutine")=false) (d:fn.body.isNone=true) (g:Extern.findNext fn=none)
    (he:Extern.find fn=some Extern.MapsClone.clone):ZyX P f:=by
  intro t b es cl w hw;refine ⟨{ w with heap:=w.heap.push (.map es cl)},?_,⟨rfl,rfl,rfl⟩,rfl⟩;rw [run_callFunc_extern c a d g he]
  have e:Extern.MapsClone.clone #[.iface t (.map (some b))]=(getObj b >>=λo=>match o with
      | .map entries clock=>(newObj (.map entries clock) >>=λn=>pure (.iface t (.map (some n))))
      | _=>stuck "maps.clone: a map expected"):=rfl
  rw [e];simp only [Awk,MapKept.run_getObj_map hw,Awl];rfl
theorem ZEL {P:Program} {f:FuncId} {fn:Func} (d:P.funcs[f]?=some fn) (a:(fn.name == "runtime.NumGoroutine")=false) (g:fn.body.isNone=true) (h:Extern.findNext fn=none)
    (he:Extern.find fn=some λargs=>(do let (x,y,c) <- Extern.MathBitsCarry.three "Add64" args;pure (Extern.MathBitsCarry.pair ((x+y+c) % Extern.MathBitsCarry.m64) ((x+y+c) / Extern.MathBitsCarry.m64)))):Zy0 P f:=by
  intro x y z w hz;rw [run_callFunc_extern d a g h he]
  have e:Extern.MathBitsCarry.three "Add64" #[.int .u64 x,.int .u64 y,.int .u64 z]=(do
      let c:=(<- asInt (.int .u64 z)).toNat
      if c>1 then unsupported (.noEntry ("extern/math/bits." ++ "Add64" ++ ": a carry that is neither 0 nor 1"))
      pure ((<- asInt (.int .u64 x)).toNat,(<- asInt (.int .u64 y)).toNat,c)):=rfl
  have b:∀ n:Int,(asInt (.int .u64 n)).run P w = .ok n w:=λ_=>rfl;simp only [e,Awk,b,Awl,if_neg (Nat.not_lt.2 hz)];simp only [Awk,b,Awl,Awp];rfl
theorem ZD2 {c:Cfg} {f:FuncId} {fn:Func} {e:Ann} {s:Zh} (i:c.P.funcs[f]?=some fn) (b:(fn.name == "runtime.NumGoroutine")=false) (d:fn.body.isNone=false)
    (j:c.n=fn.ntmps) (hlen:s.args.length<=fn.ntmps) (k:c.OK) (a:c.P.follows .mixedOrders=true)
    (l:∀ (t:Xl s.args) (K:Xl s.res->Zf->Prop) (g:Value->Zf->Prop) (h:Zf),ZFj c fn e (Xl.evs s.args t) s.res K g h=s.sem t K g h):ZC c.P f s where
  named:=⟨fn,i,b,d⟩
  calls t K g w m:=by
    have hl:(Xl.evs s.args t).length<=fn.ntmps:=by
      have:∀ (vs:List VT) (x:Xl vs),(Xl.evs vs x).length=vs.length:=by
        intro vs
        induction vs with
        | nil=>intro x;rfl
        | cons v vs o=>intro x;simp only [Xl.evs,Aqj,o]
      rw [this];exact hlen
    exact ZvM k a i j hl (by rw [l];exact m)
def ZQ (c:Cfg) (fn:Func) (a:Ann) (s:Zh):Prop:=∀ (t:Xl s.args) (K:Xl s.res->Zf->Prop) (b:Value->Zf->Prop) (h:Zf),ZFj c fn a (Xl.evs s.args t) s.res K b h=s.sem t K b h
theorem okF {c:Cfg} {f:FuncId} {fn:Func} {d:Ann} {s:Zh} (e:ZQ c fn d s) (g:c.P.funcs[f]?=some fn) (hm:c.P.follows .mixedOrders=true) (h:c.OK)
    (a:(fn.name == "runtime.NumGoroutine")=false:=by kernel_rfl) (b:fn.body.isNone=false:=by kernel_rfl) (i:c.n=fn.ntmps:=by rfl) (hlen:s.args.length<=fn.ntmps:=by decide):ZC c.P f s :=
  ZD2 g a b i hlen h hm e
theorem ZAN {P:Program} {f:FuncId} {A R:List VT} {M:Xl A->(Xl R->Zf->Prop)->(Value->Zf->Prop)->Zf->Prop} (h:ZC P f ⟨A,R,M⟩):ZC P f ⟨A,R,λt K _ h=>M t K (λ_ _=>False) h⟩ where
  named:=h.named
  calls t K d w b:=(h.calls t K _ w b).mono λe w' a=>by
    rcases a with a | ⟨v,_,_,c⟩
    ·exact .inl a
    ·exact c.elim
end Go.Fw
