/- Why a reading is right: regions. -/
import Derived.Sort.LoopGhostIn
import Derived.KernelRfl
import Derived.Laws.Externs
import GoSem.Extern.MapsClone
import Derived.Test.YtpjbjdheeemdiaaGreatDoorPa5
set_option linter.unusedVariables false
set_option linter.unusedSimpArgs false
namespace Go.Fw
open Go
structure Zaf (D:List Nat) (a a':Act):Prop where
  tmps:∀ j,j∉D->a'.tmps[j]?=a.tmps[j]?
  marks:mkN∉D->a'.defers=a.defers
theorem Zaf.refl (D:List Nat) (a:Act):Zaf D a a:=⟨fun _ _=>rfl,fun _=>rfl⟩
theorem Zaf.trans {D:List Nat} {a b d:Act} (h:Zaf D a b) (h':Zaf D b d):Zaf D a d:=⟨fun j c=>(h'.1 j c).trans (h.1 j c),fun c=>(h'.2 c).trans (h.2 c)⟩
theorem Zaf.mono {D e:List Nat} {a b:Act} (h:Zaf D a b) (f:∀ j,j∈D->j∈e):Zaf e a b:=⟨fun j d=>h.1 j fun c=>d (f j c),fun d=>h.2 fun c=>d (f _ c)⟩
theorem put_defers (a:Act) (d:Option Tmp) (v:Value):(a.put d v).defers=a.defers:=by cases d<;>rfl
theorem Zaf.put {D:List Nat} {a:Act} {d:Option Tmp} {v:Value} (h:∀ x,d=some x->x∈D):Zaf D a (a.put d v):=by
  refine ⟨?_,fun _=>put_defers a d v⟩
  intro j c
  cases d with
  | none=>rfl
  | some x =>
    have b:x≠j:=fun he=>c (he▸h x rfl)
    simp [Act.put,Awj b]
theorem Zod {ops:Array Oper} {a:Act} {j t:Nat} (h:XM ops.toList j=some t):yielded ops a.tmps j=match a.tmps[t]? with | some (.bool b)=>some b | _=>none:=by
  unfold XM at h
  unfold yielded
  rw [show ops.toList[j]?=ops[j]? from by simp] at h
  rw [h]
  rfl
theorem Zlp {ops:Array Oper} {a:Act} {j:Nat} (h:XM ops.toList j=none):yielded ops a.tmps j=none:=by
  unfold XM at h
  unfold yielded
  rw [show ops.toList[j]?=ops[j]? from by simp] at h
  rw [h]
  rfl
inductive Step (c:Cfg) (one:Oper->Env->Zc->(Env->Zc->Prop)->Prop) (ops:Array Oper) (o:Oper) (a:Act) (h:Zc) (K:Env->Zc->Prop):Prop
  | does (e:Env) (ha:Agr c.n e a) (hw:Region.wanted o (yielded ops a.tmps)=true) (hk:one o e h K)
  | skips (e:Env) (ha:Agr c.n e a) (hw:Region.wanted o (yielded ops a.tmps)=false) (hk:Zoz c o e h K)
theorem ZmA {c:Cfg} {one:Oper->Env->Zc->(Env->Zc->Prop)->Prop} {ops:Array Oper} {o:Oper} {os:List Oper} {e:Env} {a:Act} {h:Zc} {K:Env->Zc->Prop}
    (d:Agr c.n e a) (f:Zfw c one ops.toList (o::os) e h K):Step c one ops o a h (fun r h'=>Zfw c one ops.toList os r h' K):=by
  unfold Zfw at f
  split at f
  ·rename_i g
   exact .does e d (by simp [Region.wanted,g]) f
  ·rename_i j want g
   split at f
   ·rename_i m
    exact .skips e d (by simp [Region.wanted,g,Zlp m]) f
   ·rename_i t m
    have i:=Zod (a:=a) m
    split at f
    ·rename_i b ht
     have l:a.tmps[t]?=some (.bool b):=d.val t _ ht
     rw [l] at i
     split at f
     ·exact .does e d (by simp [Region.wanted,g,i]) f
     ·exact .does e d (by simp [Region.wanted,g,i]) f
     ·exact .skips e d (by simp [Region.wanted,g,i]) f
     ·exact .skips e d (by simp [Region.wanted,g,i]) f
    ·rename_i b ht
     have l:a.tmps[t]?=some (.bool b):=d.val t _ ht
     rw [l] at i
     split at f
     ·cases b with
      | true=>exact .does _ (d.tell ht) (by simp [Region.wanted,g,i]) (f.1 rfl)
      | false=>exact .skips _ (d.tell ht) (by simp [Region.wanted,g,i]) (f.2 rfl)
     ·cases b with
      | true=>exact .skips _ (d.tell ht) (by simp [Region.wanted,g,i]) (f.1 rfl)
      | false=>exact .does _ (d.tell ht) (by simp [Region.wanted,g,i]) (f.2 rfl)
    ·rename_i v p q ht
     have l:a.tmps[t]?=some v.v:=d.val t _ ht
     refine .skips e d ?_ f
     have:yielded ops a.tmps j=none:=by
       rw [i,l]
       cases v with
       | val u=>cases u<;>first | rfl | exact absurd rfl (q _)
       | lit b=>exact absurd rfl (p b)
       | adr b o=>rfl
       | itr t b=>rfl
       | more k v=>rfl
       | over=>rfl
     simp [Region.wanted,g,this]
    ·exact f.elim
theorem ZfC {ops:Array Oper} {k:Nat} {o:Oper} {x:Nat} (ho:ops[k]?=some o) (a:o.dst=some x):x∈ops.toList.filterMap (·.dst):=by
  refine List.mem_filterMap.2 ⟨o,?_,a⟩
  exact Axq (i:=k) (by simpa using ho)
theorem Zmz {c:Cfg} (A:c.OK) {ops:Array Oper} {Q:Exit->Act->World->Prop}:∀ (l:List Oper) (k:Nat),(∀ j,l[j]?=ops[k+j]?) ->
    ∀ {e:Env} {a:Act} {w:World} {K:Env->Zc->Prop},Agr c.n e a->Zfw c (ZGH c) ops.toList l e w.heap K ->
    (∀ u s w',Agr c.n u s->Same w w'->Zaf (ops.toList.filterMap (·.dst)) a s->K u w'.heap->Q .normal s w') ->
    (∀ v s w',Same w w'->Zaf (ops.toList.filterMap (·.dst)) a s->c.pan v w'.heap->Q (.panic [{ v,recovered:=false }]) s w')->wpOpsIn (fen c.rnd) 0 c.P ops Q (List.range' k l.length) a w
  | [],k,B,e,a,w,K,b,h,y,_=>y e a w b (Same.refl w) (Zaf.refl _ a) h
  | o::os,k,B,e,a,w,K,b,h,y,C=>by
    have ho:ops[k]?=some o:=by have:=B 0;simpa using this.symm
    have t:∀ j,os[j]?=ops[k+1+j]?:=fun j=>by have:=B (j+1);rw [show k+1+j=k+(j+1) from by omega,<- this];rfl
    have g:∀ v,Zaf (ops.toList.filterMap (·.dst)) a (a.put o.dst v):=fun v=>Zaf.put fun x E=>ZfC ho E
    simp only [Aqj,List.range'_succ,wpOpsIn,ho]
    cases ZmA b h with
    | does e b hw h =>
      rw [if_pos hw]
      refine ZGG A b (fun v w' z hp=>C v a w' z (Zaf.refl _ a) hp) h fun v w' z h=>?_
      obtain ⟨u,i,h⟩:=ZdF b h
      exact Zmz A os (k+1) t i h (fun m d f D p q r=>y m d f D (z.trans p) ((g _).trans q) r)
        (fun v d f p q r=>C v d f (z.trans p) ((g _).trans q) r)
    | skips e b hw h =>
      rw [if_neg (by simp [hw])]
      obtain ⟨u,i,h⟩:=ZdF b h
      exact ⟨fun _ _=>trivial,Zmz A os (k+1) t i h (fun m d f D p q r=>y m d f D p ((g _).trans q) r)
        (fun v d f p q r=>C v d f p ((g _).trans q) r)⟩
def Cls (w0:World) (h:Zc) (w:World):Prop:=Same w0 w/\w.heap=h
theorem ZvW {c:Cfg} {o:Oper} {a:Act} {w0:World} {h:Zc} {v:EV} (b:∀ w:World,w.heap=h->(execOp a.eval o).run c.P w = .ok (.value v.v) w) :
    ∀ w,Cls w0 h w->o.quietAtIn (fen none) 0 c.P a (Cls w0 h) w v.v:=by
  intro w hw
  unfold Oper.quietAtIn
  rw [b w hw.2]
  exact ⟨rfl,rfl⟩
theorem Zaq {c:Cfg} {o:Oper} {a:Act} {w0:World} {h:Zc} {K:EV->Zc->Prop} {next:Act->Prop} (b:ZtT c o a h K) (d:∀ v,K v h->next (a.put o.dst v.v)) :
    o.quietIn (fen none) 0 c.P a (Cls w0 h) next :=
  let ⟨v,e,f⟩:=b
  ⟨v.v,ZvW e,d v f⟩
theorem ZrC {c:Cfg} (C:c.OK) {e:Env} {a:Act} {w0:World} {h:Zc} {o:Oper} {K:EV->Zc->Prop} {next:Act->Prop} (b:Agr c.n e a) (g:Zuq c o.op e h K)
    (i:∀ v,K v h->next (a.put o.dst v.v)):o.quietIn (fen none) 0 c.P a (Cls w0 h) next:=by
  obtain ⟨dst,op,type,pos,after,guard⟩:=o
  cases op
  case move=>exact Zaq (ZpH b g).q i
  case assign=>exact Zaq (ZkN b g).q i
  case pick=>exact Zaq (ZpG b g).q i
  case load=>exact Zaq (ZpJ b g) i
  case nilCheck=>exact Zaq (Zik b g).q i
  case binOp=>exact Zaq (Zmh b g).q i
  case unOp=>exact Zaq (ZpF b g).q i
  case slice=>exact Zaq (Zmd b g).q i
  case fieldAddr=>exact Zaq (ZhB b g).q i
  case field=>exact Zaq (Zmf b g).q i
  case indexAddr=>exact Zaq (ZhA b g).q i
  case index=>exact Zaq (Zme b g).q i
  case extract=>exact Zaq (Zjw b g).q i
  case build=>exact Zaq (Zmg b g).q i
  case makeFunc=>exact Zaq (Zil b g).q i
  case convert s d x =>
    simp only [Zuq] at g
    split at g
    ·rename_i j k D hd
     exact Zaq (Zim b D hd g).q i
    ·exact g.elim
  case call G =>
    unfold Zuq at g
    split at g<;>first
      | exact g.elim
      | (rename_i ho;cases ho)
    ·exact Zaq (Zxw b g) i
    ·exact Zaq (YT b (.inr (.inl rfl)) g).q i
    ·exact Zaq (YT b (.inr (.inr (.inl rfl))) g).q i
    ·exact Zaq (YT b (.inr (.inr (.inr rfl))) g).q i
    ·rename_i f args ts
     split at g
     ·rename_i es he
      split at g
      ·rename_i s t hp
       obtain ⟨p,ht⟩:=Ziw hp
       dsimp only at p ht
       obtain ⟨r,hm,g⟩:=g
       refine ⟨(ZfU (XB.evs s.res r)).v,fun w hw=>?_,i _ g⟩
       have u:=Zdj b he
       obtain ⟨⟨fn,E,y,z⟩,A⟩:=C.calls _ p
       have m:(execOp a.eval ⟨dst,.call ⟨.value (.func f),args,ts⟩,type,pos,after,guard⟩).run c.P w = .ok (.enter f (args.map a.eval)) w:=by
         simp only [execOp,resolve,Act.eval,Deferred.ofValue,Awk,Awp,Awl,invoke,callFunc,run_program,E,y,Aqc,if_false,z]
         simp
       unfold Oper.quietAtIn
       rw [m]
       refine ⟨rfl,fun h=>(by cases h),Zh6.2 ?_⟩
       rw [u,<- ZgM ht]
       refine (A t (fun B h'=>B=r/\h'=h) (fun _ _=>False) w (by rw [hw.2];exact hm)).mono ?_
       rintro ending w' (⟨B,rfl,l,rfl,F⟩ | ⟨v,rfl,l,g⟩)
       ·exact ⟨rfl,hw.1.trans l,F⟩
       ·exact g.elim
      ·exact g.elim
     ·exact g.elim
  all_goals exact g.elim
theorem Zqc {c:Cfg} (s:c.OK) {ops:Array Oper} {w0:World} {Q:Act->Prop} {h:Zc}:∀ (l:List Oper) (k:Nat),(∀ j,l[j]?=ops[k+j]?) ->
    ∀ {e:Env} {a:Act} {K:Env->Zc->Prop},Agr c.n e a->Zfw c (Zye c) ops.toList l e h K ->
    (∀ q t,Agr c.n q t->Zaf (ops.toList.filterMap (·.dst)) a t->K q h->Q t)->wpQuietIn (fen none) 0 c.P ops (Cls w0 h) Q l a
  | [],k,u,e,a,K,b,d,r=>r e a b (Zaf.refl _ a) d
  | o::os,k,u,e,a,K,b,d,r=>by
    have ho:ops[k]?=some o:=by have:=u 0;simpa using this.symm
    have p:∀ j,os[j]?=ops[k+1+j]?:=fun j=>by have:=u (j+1);rw [show k+1+j=k+(j+1) from by omega,<- this];rfl
    have g:∀ v,Zaf (ops.toList.filterMap (·.dst)) a (a.put o.dst v):=fun v=>Zaf.put fun x A=>ZfC ho A
    unfold wpQuietIn
    refine ⟨fun _ _ _ _=>trivial,?_⟩
    cases ZmA b d with
    | does e b hw d =>
      rw [if_pos hw]
      refine ZrC s b d fun v d=>?_
      obtain ⟨q,f,d⟩:=ZdF b d
      exact Zqc s os (k+1) p f d fun i m w y z=>r i m w ((g _).trans y) z
    | skips e b hw d =>
      rw [if_neg (by simp [hw])]
      obtain ⟨q,f,d⟩:=ZdF b d
      exact Zqc s os (k+1) p f d fun i m w y z=>r i m w ((g _).trans y) z
def Zff (c:Cfg) (D:List Nat) (a:Act) (w:World) (Q:Ex->Env->Zc->Prop):Exit->Act->World->Prop
  | .normal,b,w'=>∃ d,Agr c.n d b/\Same w w'/\Zaf D a b/\Q .normal d w'.heap
  | .exit id,b,w'=>∃ d,Agr c.n d b/\Same w w'/\Zaf D a b/\Q (.exit id) d w'.heap
  | .ret,b,w'=>∃ d,Agr c.n d b/\Same w w'/\Zaf D a b/\Q .ret d w'.heap
  | .panic chain,b,w'=>∃ v,chain=[{ v,recovered:=false }]/\Same w w'/\Zaf D a b/\c.pan v w'.heap
  | _,_,_=>False
theorem Zff.mono {c:Cfg} {D b:List Nat} {a l:Act} {w m:World} {Q n:Ex->Env->Zc->Prop} (o:Same w m) (p:Zaf b a l) (hd:∀ j,j∈D->j∈b) (q:∀ x e h,Q x e h->n x e h) :
    ∀ x d w',Zff c D l m Q x d w'->Zff c b a w n x d w':=by
  intro x d w' h
  cases x<;>first
    | exact h.elim
    | (obtain ⟨r,f,g,i,k⟩:=h
       exact ⟨r,f,o.trans g,p.trans (i.mono hd),q _ _ _ k⟩)
    | (obtain ⟨v,f,g,i,k⟩:=h
       exact ⟨v,f,o.trans g,p.trans (i.mono hd),k⟩)
theorem ZmI {c:Cfg} {D:List Nat} {a:Act} {w:World} {Q:Ex->Env->Zc->Prop} {ch:List PanicEntry} {e:Act} {d:Option Tmp} {v:Value} {w':World} (hd:∀ x,d=some x->x∈D) (h:Zff c D a w Q (.panic ch) (e.put d v) w'):Zff c D a w Q (.panic ch) e w':=by
  obtain ⟨v',g,i,f,k⟩:=h
  have hp:Zaf D e (e.put d v):=Zaf.put hd
  exact ⟨v',g,i,⟨fun j b=>(hp.1 j b).symm.trans (f.1 j b),fun b=>(hp.2 b).symm.trans (f.2 b)⟩,k⟩
theorem ZhQ {c:Cfg} {ops:Array Oper} {o:Oper} {e:Env} {a:Act} {A B:Env->Prop} (d:Agr c.n e a) (f:Znb ops.toList o e A B) :
    (∃ l,Agr c.n l a/\Region.wanted o (yielded ops a.tmps)=true/\A l)\/(∃ l,Agr c.n l a/\Region.wanted o (yielded ops a.tmps)=false/\B l):=by
  unfold Znb at f
  split at f
  ·rename_i g
   exact .inl ⟨e,d,by simp [Region.wanted,g],f⟩
  ·rename_i j want g
   split at f
   ·rename_i m
    exact .inr ⟨e,d,by simp [Region.wanted,g,Zlp m],f⟩
   ·rename_i t m
    have h:=Zod (a:=a) m
    split at f
    ·rename_i b ht
     have i:a.tmps[t]?=some (.bool b):=d.val t _ ht
     rw [i] at h
     split at f
     ·exact .inl ⟨e,d,by simp [Region.wanted,g,h],f⟩
     ·exact .inl ⟨e,d,by simp [Region.wanted,g,h],f⟩
     ·exact .inr ⟨e,d,by simp [Region.wanted,g,h],f⟩
     ·exact .inr ⟨e,d,by simp [Region.wanted,g,h],f⟩
    ·rename_i b ht
     have i:a.tmps[t]?=some (.bool b):=d.val t _ ht
     rw [i] at h
     split at f
     ·cases b with
      | true=>exact .inl ⟨_,d.tell ht,by simp [Region.wanted,g,h],f.1 rfl⟩
      | false=>exact .inr ⟨_,d.tell ht,by simp [Region.wanted,g,h],f.2 rfl⟩
     ·cases b with
      | true=>exact .inr ⟨_,d.tell ht,by simp [Region.wanted,g,h],f.1 rfl⟩
      | false=>exact .inl ⟨_,d.tell ht,by simp [Region.wanted,g,h],f.2 rfl⟩
    ·rename_i v p q ht
     have i:a.tmps[t]?=some v.v:=d.val t _ ht
     refine .inr ⟨e,d,?_,f⟩
     have:yielded ops a.tmps j=none:=by
       rw [h,i]
       cases v with
       | val u=>cases u<;>first | rfl | exact absurd rfl (q _)
       | lit b=>exact absurd rfl (p b)
       | adr b o=>rfl
       | itr t b=>rfl
       | more k v=>rfl
       | over=>rfl
     simp [Region.wanted,g,this]
    ·exact f.elim
theorem ZAX {c:Cfg} {e:Env} {a:Act} {h:Zc} {o:Oper} {K:EV->Zc->Prop} (f:Agr c.n e a) (g:Zfx c o.op = .pure) (i:opP c o.op e h K):Zev c o a h K:=by
  obtain ⟨dst,op,type,pos,after,guard⟩:=o
  cases op
  case move=>exact ZpH f i
  case assign=>exact ZkN f i
  case pick=>exact ZpG f i
  case nilCheck=>exact Zik f i
  case binOp=>exact Zmh f i
  case unOp=>exact ZpF f i
  case slice=>exact Zmd f i
  case fieldAddr=>exact ZhB f i
  case field=>exact Zmf f i
  case indexAddr=>exact ZhA f i
  case index=>exact Zme f i
  case extract=>exact Zjw f i
  case build=>exact Zmg f i
  case makeFunc=>exact Zil f i
  case convert s d x =>
    simp only [Zfx] at g
    split at g
    ·rename_i j k m hd
     exact Zim f m hd i
    ·split at g<;>cases g
    ·cases g
  case call p =>
    obtain ⟨l,args,ts⟩:=p
    cases l with
    | builtin b =>
      cases b<;>first
        | (simp only [Zfx] at g;done)
        | (cases hm:Zjp c.P ts with
            | true=>simp [Zfx,hm] at g
            | false=>exact YT f (.inl ⟨rfl,hm⟩) i)
        | exact YT f (.inr (.inl rfl)) i
        | exact YT f (.inr (.inr (.inl rfl))) i
        | exact YT f (.inr (.inr (.inr rfl))) i
        | (simp [Zfx] at g)
    | _=>simp [Zfx] at g
  all_goals simp [Zfx] at g
theorem ZyO {c:Cfg} {op:Op} {t:TypeId} {x:Operand} (h:Zfx c op = .load t x):op = .load t x:=by
  cases op<;>simp [Zfx] at h
  case load=>rw [h.1,h.2]
  case convert=>repeat' (first | (cases h;done) | split at h)
  case call d =>
    obtain ⟨a,args,ts⟩:=d
    cases a with
    | builtin b=>cases b<;>simp at h<;>(cases hm:Zjp c.P ts<;>simp [hm] at h)
    | _=>simp at h
def Zo4 (h:Zc) (l:List (Nat × Nat × Value)):Prop:=∀ q,q∈l->h.cell q.1 q.2.1=some q.2.2
theorem Zna {h:Zc} {b o:Nat}:∀ {vs:List Value} {i:Nat},Zo4 h (Zsv b o i vs)↔h.has b (o+i) vs
  | [],i=>⟨fun _=>trivial,fun _ q c=>(by simp [Zsv] at c)⟩
  | v::vs,i=>by
    have a:=Zna (h:=h) (b:=b) (o:=o) (vs:=vs) (i:=i+1)
    unfold Zo4 at a ⊢
    simp only [Zsv,Axs,ZtP,a]
    rfl
theorem ZBc {P:Program} {t:TypeId} {b o:Nat} {K:EV->List (Nat × Nat × Value)->Prop} {h:Zc} (a:ldH P t h b o K) :
    ∃ v cells,Zo4 h cells/\(∀ w:World,Zo4 w.heap cells->(loadVar t ⟨b,o,none⟩).run P w = .ok v.v w)/\K v cells:=by
  unfold ldH at a
  cases hu:P.underlying t with
  | none=>rw [hu] at a;simp [Zca,ZmZ] at a
  | some d =>
    obtain ⟨i,f⟩:=Zba P hu
    rw [hu] at a
    unfold loadVar
    cases c:Zca (some d) with
    | true =>
      rw [c] at a
      simp only [cond_true] at a
      cases e:Nat.beq (ZfE P 8 t).length (P.cellsOf t) with
      | false=>rw [e] at a;exact a.elim
      | true =>
        rw [e] at a
        obtain ⟨vs,hlen,j,a⟩:=Zlb a
        have k:i.size=vs.length:=by rw [hlen,Awg e,Zcb P f]
        refine ⟨.val (.agg vs.toArray),_,Zna.2 j,fun w hw=>?_,a⟩
        have hw:=Zna.1 hw
        simp only [Awk,Ze2 P w t hu,c,Awl,if_true,XV P w t f,k]
        rw [Zd8 P w b o vs (by simpa using hw)]
        rfl
    | false =>
      rw [c] at a
      simp only [cond_false] at a
      obtain ⟨v,l,a,_⟩:=ZjP a
      refine ⟨v,_,?_,fun w hw=>?_,a⟩
      ·intro q g
       simp only [Axu] at g
       subst g
       exact l
      have hw:Zc.cell w.heap b o=some v.v:=hw _ (.head _)
      simp only [Awk,Ze2 P w t hu,c,Awl,Aqc,if_false]
      exact ZhG P w hw _
theorem ZxN {c:Cfg} {op:Op} {x:Operand} (h:Zfx c op = .text x):∃ s d e,op = .convert s d x/\c.P.underlying s=some (.slice e)/\c.P.underlying d=some .string/\c.P.underlying e=some (.int .u8):=by
  cases op<;>simp [Zfx] at h
  case convert s d y =>
    split at h
    ·cases h
    ·rename_i e f hd
     split at h
     ·rename_i he
      cases h
      exact ⟨s,d,e,rfl,f,hd,he⟩
     ·cases h
    ·cases h
  case call g =>
    obtain ⟨a,args,ts⟩:=g
    cases a with
    | builtin b=>cases b<;>simp at h<;>(cases hm:Zjp c.P ts<;>simp [hm] at h)
    | _=>simp at h
theorem Zld {h:Zc}:∀ {l:List (Nat × Nat × Value)},Yb h l↔Zo4 h l
  | []=>⟨fun _ q c=>(by cases c),fun _=>trivial⟩
  | (b,o,v)::r=>by
    have a:=Zld (h:=h) (l:=r)
    unfold Zo4 at a ⊢
    simp only [Yb,Axs,a]
def ZdX (hd:Zgp):ZkI:=hd.map fun x=>(x.1,fun w=>x.2 w.heap)
theorem Zjc {w:World} {K:Prop}:∀ {hd:Zgp},Zr3 w.heap hd K->(ZdX hd).all w/\K
  | [],a=>⟨fun q b=>(by cases b),a⟩
  | x::r,a=>by
    obtain ⟨c,a⟩:=a
    obtain ⟨d,a⟩:=Zjc (hd:=r) a
    refine ⟨fun q b=>?_,a⟩
    rcases Awr.1 b with rfl | b
    ·exact c
    ·exact d q b
def nxt (ops:Array Oper) (L:ZkI) (j:Nat):ZkI :=
  match ops[j]? with
  | some o=>L.filter fun p=> !ZfT p.1 o.after.toList
  | none=>L
theorem Zed (ops:Array Oper):Next ops (nxt ops) where
  mem L j p hp:=by
    unfold nxt at hp
    split at hp
    ·exact (Axv.1 hp).1
    ·exact hp
  keep L j p hp hw:=by
    unfold nxt
    split
    ·rename_i o ho
     refine Axv.2 ⟨hp,?_⟩
     cases b:ZfT p.1 o.after.toList with
     | false=>rfl
     | true =>
       obtain ⟨e,he,c,d⟩:=ZiU.1 b
       exact absurd ⟨o,ho,e,by simpa using he,c,d⟩ hw
    ·exact hp
  same L f j p hp a:=by
    unfold nxt at hp ⊢
    split at hp
    ·rename_i o ho
     exact Axv.2 ⟨a,(Axv.1 hp).2⟩
    ·exact a
theorem Zuw {ops:Array Oper} {j:Nat} {o:Oper} (ho:ops[j]?=some o) (hd:Zgp):nxt ops (ZdX hd) j=ZdX (Zsi o hd):=by
  unfold nxt
  rw [ho]
  simp only
  induction hd with
  | nil=>rfl
  | cons x r a =>
    have e:ZdX (x::r)=(x.1,fun w:World=>x.2 w.heap)::ZdX r:=rfl
    rw [e,List.filter_cons]
    simp only [Zsi]
    cases b:ZfT x.1 o.after.toList with
    | true=>simp only [Bool.not_true,Aqc,if_false,cond_true];exact a
    | false=>simp only [Axl,if_true,cond_false];rw [a];rfl
theorem Zv6 {ops:Array Oper} {m:Nat} {listed:Array Bool} (b:Rel ops m listed) (h:ZyE m 0 ops.toList=true):Region.ready .any ops listed=[]:=by
  have key:∀ (os:List Oper) (k:Nat),ZyE m k os=true->∀ j o,os[j]?=some o->Zcq m (k+j) o=false:=by
    intro os
    induction os with
    | nil=>intro k _ j o ho;simp at ho
    | cons x os c =>
      intro k h j o ho
      simp only [ZyE] at h
      cases a:Zcq m k x with
      | true=>rw [a] at h;cases h
      | false =>
        rw [a] at h
        cases j with
        | zero=>simp at ho;subst ho;exact a
        | succ j =>
          have:=c (k+1) h j o (by simpa using ho)
          rw [show k+(j+1)=k+1+j from by omega]
          exact this
  apply List.eq_nil_iff_forall_not_mem.2
  intro j d
  obtain ⟨o,ho,e⟩:=b.ready.1 d
  have:=key _ 0 h j o (by simpa using ho)
  rw [Awb,e] at this
  cases this
section
variable {rn:Option Nat} {P:Program} {ops:Array Oper} {Q:Exit->Act->World->Prop} {i m:Nat} {o:Oper} {listed:Array Bool} {a:Act} {w:World} {L:ZkI} {fuel:Nat} {v:Value} {S:World->Prop}
theorem Zja (ho:ops[i]?=some o):i<ops.size:=by
  rcases Aqd i ops.size with h | h
  ·exact h
  ·rw [Aqe h] at ho;cases ho
theorem Zyo (b:Rel ops m listed) (h:Zks m i 0 ops.toList=true):∀ j,j∈Region.ready .any ops listed->j=i:=by
  intro j c
  obtain ⟨d,a,e⟩:=b.ready.1 c
  have:=Zk6 h j d (by simpa using a) (by rw [Awb];exact e)
  rw [Awb] at this
  exact this
theorem ZFa (g:Rel ops m listed) (h:Zn5 ops o m i 0 ops.toList=true) :
    ∀ j a,ops[j]?=some a->j≠i->listed.getD j true=false->(∀ e∈a.after,Region.binds .any e=true->e.on≠i)->o.apart ops a=true:=by
  intro j a f b k c
  have d:=Zja f
  refine Zo7 h j a (by simpa using f) (by rw [Awb];exact b) ?_ c
  rw [Awb,<- g.bit' d]
  exact k
theorem Zuf (e:Zf2 ops) (ho:ops[i]?=some o) (b:Region.noSelect ops=true) (g:∀ c a v w,Q (.panic c) (a.put o.dst v) w->Q (.panic c) a w) (f:Rel ops m listed) (hm:Zcq m i o=true) (j:Zn5 ops o m i 0 ops.toList=true)
    (k:YieldsIf P ops S o v a) (l:S w) (d:ZkI.all L w) (h:wpK rn P ops Q (nxt ops) ((i,S)::L) fuel (listed.setIfInBounds i true) (a.put o.dst v) w) :
    wpK rn P ops Q (nxt ops) L (fuel+1) listed a w :=
  Zxl e (Zed ops) ho (Region.noSelect_spec b) (fun c a w h=>g c a v w h) fuel L listed a w (ZFa f j) (f.ready.2 ⟨o,ho,hm⟩) k l d h
theorem ZpX (c:Zf2 ops) (ho:ops[i]?=some o) (d:Rel ops m listed) (hm:Zcq m i o=true) (e:Zks m i 0 ops.toList=true)
    (f:YieldsIf P ops S o v a) (g:S w) (b:ZkI.all L w) (h:wpK rn P ops Q (nxt ops) L fuel (listed.setIfInBounds i true) (a.put o.dst v) w) :
    wpK rn P ops Q (nxt ops) L (fuel+1) listed a w:=by
  refine ZtZ (Zyo d e) (d.ready.2 ⟨o,ho,hm⟩) (Zgv c ho f g ⟨fun p hp=>b p ((Zed ops).mem _ _ _ hp),?_⟩)
  exact Zhx (Zed ops) _ _ _ _ _ _ (fun p hp=> .inl ((Zed ops).mem _ _ _ hp)) h
theorem ZpW (d:Zf2 ops) (ho:ops[i]?=some o) (e:Region.noSelect ops=true) (k:∀ c a v w,Q (.panic c) (a.put o.dst v) w->Q (.panic c) a w) (g:Rel ops m listed) (hm:Zcq m i o=true)
    (f:Zn5 ops o m i 0 ops.toList=true\/Zks m i 0 ops.toList=true)
    (j:YieldsIf P ops (fun _=>True) o v a) (b:ZkI.all L w) (h:wpK rn P ops Q (nxt ops) L fuel (listed.setIfInBounds i true) (a.put o.dst v) w) :
    wpK rn P ops Q (nxt ops) L (fuel+1) listed a w:=by
  rcases f with f | f
  ·refine Zuf d ho e k g hm f j trivial b ?_
   refine Zhx (Zed ops) _ _ _ _ _ _ (fun p hp=>?_) h
   rcases Awr.1 hp with rfl | hp
   ·exact .inr fun _=>trivial
   ·exact .inl hp
  ·exact ZpX d ho g hm f j trivial b h
end
theorem ZA6 {ops:Array Oper} {m i l:Nat} {listed:Array Bool} (b:Rel ops m listed) (h:ZoQ m i l 0 ops.toList=true):∀ j,j∈Region.ready .any ops listed->j=i\/j=l:=by
  intro j c
  obtain ⟨d,a,e⟩:=b.ready.1 c
  have:=ZjK h j d (by simpa using a) (by rw [Awb];exact e)
  rw [Awb] at this
  exact this
section
variable {c:Cfg} {ops:Array Oper} {D:List Nat} {a0:Act} {w0:World} {Qx:Ex->Env->Zc->Prop}
def ZkE (c:Cfg) (ops:Array Oper) (D:List Nat) (a0:Act) (w0:World) (Qx:Ex->Env->Zc->Prop) (fuel m:Nat) (rest:Zgp->Env->Zc->Prop):Prop :=
  ∀ (listed:Array Bool) (hd:Zgp) (e:Env) (a:Act) (w:World),Rel ops m listed->Agr c.n e a->Same w0 w->Zaf D a0 a->(ZdX hd).all w ->
    rest hd e w.heap->wpK c.rnd c.P ops (Zff c D a0 w0 Qx) (nxt ops) (ZdX hd) fuel listed a w
theorem ZtD (r:Zf2 ops) (z:c.OK) (A:D=ops.toList.filterMap (·.dst)) {i m fuel:Nat} {o:Oper} {hd:Zgp} {e:Env} {a:Act} {w:World} {listed:Array Bool} {rest:Zgp->Env->Zc->Prop}
    (ho:ops[i]?=some o) (B:Rel ops m listed) (s:Agr c.n e a) (t:Same w0 w) (l:Zaf D a0 a) (h:(ZdX hd).all w) (y:ZkE c ops D a0 w0 Qx fuel (Zp0 m i) rest) (b:ZFl c ops o hd e w.heap rest) :
    wpOpIn (fen c.rnd) 0 c.P ops (Zff c D a0 w0 Qx) i (fun C w'=>(nxt ops (ZdX hd) i).all w'/\wpK c.rnd c.P ops (Zff c D a0 w0 Qx) (nxt ops) (nxt ops (ZdX hd) i) fuel (listed.setIfInBounds i true) C w') a w:=by
  have q:=B.set (Zja ho)
  have j:∀ v,Zaf D a0 (a.put o.dst v):=fun v=>l.trans (Zaf.put fun x E=>A▸ZfC ho E)
  unfold ZFl at b
  rcases ZhQ s b with ⟨F,d,hw,b⟩ | ⟨F,d,hw,b⟩
  ·rw [Zuw ho]
   unfold Go.wpOpIn
   simp only [ho,hw,if_true]
   refine Zus z d (fun v w' k hp=>⟨v,rfl,t.trans k,l,hp⟩) b fun v w' k b=>?_
   obtain ⟨u,f,b⟩:=ZdF d b
   obtain ⟨g,b⟩:=Zjc b
   exact ⟨g,y _ _ u _ w' q f (t.trans k) (j _) g b⟩
  ·obtain ⟨u,f,b⟩:=ZdF d b
   have G:YieldsIf c.P ops (fun _=>True) o undef a:= .inr ⟨hw,rfl⟩
   refine Zgv r ho G trivial ⟨fun p hp=>h p ((Zed ops).mem _ _ _ hp),?_⟩
   exact Zhx (Zed ops) _ _ _ _ _ _ (fun p hp=> .inl ((Zed ops).mem _ _ _ hp)) (y _ hd u _ w q f t (j _) h b)
theorem ZE6 (j:Zf2 ops) (A:D=ops.toList.filterMap (·.dst)) {i m fuel:Nat} {o:Oper} {hd:Zgp} {e:Env} {a:Act} {w:World} {listed:Array Bool} {rest:Zgp->Env->Zc->Prop}
    (ho:ops[i]?=some o) (p:Rel ops m listed) (q:Agr c.n e a) (u:Same w0 w) (r:Zaf D a0 a) (b:(ZdX hd).all w) (y:ZkE c ops D a0 w0 Qx fuel (Zp0 m i) rest)
    (B:∀ {e:Env} {K:EV->Zc->Prop},Agr c.n e a->opP c o.op e w.heap K->ZtT c o a w.heap K) (hm:Zcq m i o=true) (z:Zks m i 0 ops.toList=true)
    (f:ZG7 c ops o hd e w.heap rest):wpK c.rnd c.P ops (Zff c D a0 w0 Qx) (nxt ops) (ZdX hd) (fuel+1) listed a w:=by
  have k:=p.set (Zja ho)
  have h:∀ v,Zaf D a0 (a.put o.dst v):=fun v=>r.trans (Zaf.put fun x C=>A▸ZfC ho C)
  unfold ZG7 at f
  rcases ZhQ q f with ⟨E,d,hw,f⟩ | ⟨E,d,hw,f⟩
  ·obtain ⟨v,l,f⟩:=B d f
   obtain ⟨s,g,f⟩:=ZdF d f
   exact ZpX j (S:=fun w'=>w'.heap=w.heap) ho p hm z (v:=v.v) (.inl ⟨hw,fun w' t=>l w' t⟩) rfl b (y _ hd s _ w k g u (h _) b f)
  ·obtain ⟨s,g,f⟩:=ZdF d f
   exact ZpX j (S:=fun _=>True) ho p hm z (v:=undef) (.inr ⟨hw,rfl⟩) trivial b (y _ hd s _ w k g u (h _) b f)
theorem Zua (r:Zf2 ops) (F:D=ops.toList.filterMap (·.dst)) (j:Region.noSelect ops=true) {i m fuel:Nat} {o:Oper} {hd:Zgp} {e:Env} {a:Act} {w:World} {listed:Array Bool} {rest:Zgp->Env->Zc->Prop} {A:Env->Prop}
    (ho:ops[i]?=some o) (u:Rel ops m listed) (y:Agr c.n e a) (G:Same w0 w) (z:Zaf D a0 a) (b:(ZdX hd).all w) (H:ZkE c ops D a0 w0 Qx fuel (Zp0 m i) rest)
    (hm:Zcq m i o=true) (I:Zn5 ops o m i 0 ops.toList=true)
    (N:∀ p,Agr c.n p a->A p->∃ (v:EV) (S:Zc->Prop),S w.heap/\(∀ w':World,S w'.heap->(execOp a.eval o).run c.P w' = .ok (.value v.v) w')/\Zsy c.n p o.dst v fun l=>rest ((i,S)::hd) l w.heap)
    (f:Znb ops.toList o e A (fun e=>Zsy c.n e o.dst (.val undef) fun l=>rest hd l w.heap)):wpK c.rnd c.P ops (Zff c D a0 w0 Qx) (nxt ops) (ZdX hd) (fuel+1) listed a w:=by
  have s:=u.set (Zja ho)
  have k:∀ v,Zaf D a0 (a.put o.dst v):=fun v=>z.trans (Zaf.put fun x B=>F▸ZfC ho B)
  have J:∀ K L v w',Zff c D a0 w0 Qx (.panic K) (L.put o.dst v) w'->Zff c D a0 w0 Qx (.panic K) L w':=fun _ _ _ _ h=>ZmI (fun x B=>by rw [F];exact ZfC ho B) h
  rcases ZhQ y f with ⟨p,d,hw,f⟩ | ⟨p,d,hw,f⟩
  ·obtain ⟨v,S,M,t,f⟩:=N p d f
   obtain ⟨l,g,f⟩:=ZdF d f
   refine Zuf r (S:=fun w=>S w.heap) ho j J u hm I (v:=v.v) (.inl ⟨hw,fun w' C=>t w' C⟩) M b ?_
   refine H _ ((i,S)::hd) l _ w s g G (k _) ?_ f
   intro q E
   rcases Awr.1 E with rfl | E
   ·exact M
   ·exact b q E
  ·obtain ⟨l,g,f⟩:=ZdF d f
   exact ZpW r ho j J u hm (.inl I) (v:=undef) (.inr ⟨hw,rfl⟩) b (H _ hd l _ w s g G (k _) b f)
end
theorem ZeW {j:Nat}:∀ {l:List Nat},ZbY l j=true↔j∈l
  | []=>by simp [ZbY]
  | x::xs=>by
    have b:=ZeW (j:=j) (l:=xs)
    simp only [ZbY]
    cases a:Nat.beq j x with
    | true=>simp only [cond_true,true_iff];exact (Awg a) ▸ .head _
    | false=>simp only [cond_false,b,Awr];exact ⟨.inr,fun h=>h.resolve_left (Awi a)⟩
theorem Zlv {m:Nat} {E:List Nat}:∀ {es:List Edge},ZiP m E es=true->∀ x∈es,Region.binds .any x=true->Zg9 m x.on=true\/ZbY E x.on=true
  | [],_,x,b,_=>by cases b
  | y::es,h,x,b,d=>by
    simp only [ZiP] at h
    rcases Awr.1 b with rfl | b
    ·rw [d] at h
     cases a:Zg9 m x.on with
     | true=>exact .inl rfl
     | false =>
       rw [a] at h
       cases c:ZbY E x.on with
       | true=>exact .inr rfl
       | false=>rw [c] at h;cases h
    ·refine Zlv (es:=es) ?_ x b d
     cases a:Region.binds .any y with
     | false=>rw [a] at h;exact h
     | true =>
       cases c:Zg9 m y.on with
       | true=>rw [a,c] at h;exact h
       | false =>
         cases e:ZbY E y.on with
         | true=>rw [a,c,e] at h;exact h
         | false=>rw [a,c,e] at h;cases h
theorem Zos {ops:Array Oper} {m k:Nat} {E c:List Nat} (h:Zrj ops m E (k::c)=true) :
    ∃ o,ops[k]?=some o/\Zg9 m k=false/\o.guard=none/\ZiP m E o.after.toList=true/\Zrj ops m (k::E) c=true:=by
  simp only [Zrj] at h
  split at h
  ·rename_i o ho
   cases d:Zg9 m k with
   | true=>rw [d] at h;cases h
   | false =>
     rw [d] at h
     cases e:ZbY E k with
     | true=>rw [e] at h;cases h
     | false =>
       rw [e] at h
       cases a:o.guard.isNone with
       | false=>rw [a] at h;cases h
       | true =>
         rw [a] at h
         cases b:ZiP m E o.after.toList with
         | false=>rw [b] at h;cases h
         | true=>rw [b] at h;exact ⟨o,ho,rfl,Axw.1 a,b,h⟩
  ·cases h
theorem ZpT {ops:Array Oper} {m:Nat}:∀ {L E:List Nat},Zrj ops m E L=true->∀ k∈L,∃ o,ops[k]?=some o/\Zg9 m k=false/\o.guard=none
  | [],_,_,k,a=>by cases a
  | x::L,E,h,k,a=>by
    obtain ⟨o,b,c,d,_,e⟩:=Zos h
    rcases Awr.1 a with rfl | a
    ·exact ⟨o,b,c,d⟩
    ·exact ZpT e k a
theorem Zor {ops:Array Oper} {m:Nat} {d:Nat->Bool} {L0:List Nat}:∀ {L E:List Nat},Zrj ops m E L=true->(∀ k,ZbY E k=true->ZbY L0 k=true/\d k=true)->(∀ k∈L,ZbY L0 k=true)->(∃ k∈L,d k=false) ->
    ∃ k o,k∈L/\d k=false/\ops[k]?=some o/\∀ x∈o.after.toList,Region.binds .any x=true->Zg9 m x.on=true\/(ZbY L0 x.on=true/\d x.on=true)
  | [],_,_,_,_,⟨k,a,_⟩=>by cases a
  | x::L,E,h,c,e,f=>by
    obtain ⟨o,g,_,_,i,j⟩:=Zos h
    cases hd:d x with
    | false=>exact ⟨x,o,.head _,hd,g,fun y l n=>(Zlv i y l n).imp id (c _)⟩
    | true =>
      obtain ⟨k,p,a,q⟩:=Zor (d:=d) (L0:=L0) j (fun k a=>by
        rcases Awr.1 (ZeW.1 a) with rfl | a
        ·exact ⟨e _ (.head _),hd⟩
        ·exact c k (ZeW.2 a)) (fun k a=>e k (.tail _ a)) (by
        obtain ⟨k,a,b⟩:=f
        rcases Awr.1 a with rfl | a
        ·rw [hd] at b;cases b
        ·exact ⟨k,a,b⟩)
      exact ⟨k,p,.tail _ a,q⟩
theorem Zj9 {m:Nat} {L:List Nat}:∀ {es:List Edge},ZeS m L es=true->∃ x,x∈es/\Region.binds .any x=true/\Zg9 m x.on=false/\ZbY L x.on=false
  | [],h=>by cases h
  | y::es,h=>by
    have a:ZeS m L es=true->∃ x,x∈y::es/\Region.binds .any x=true/\Zg9 m x.on=false/\ZbY L x.on=false:=fun h =>
      let ⟨x,e,b⟩:=Zj9 h
      ⟨x,.tail _ e,b⟩
    simp only [ZeS] at h
    cases c:Region.binds .any y with
    | false=>rw [c] at h;exact a h
    | true =>
      rw [c] at h
      cases b:Zg9 m y.on with
      | true=>rw [b] at h;exact a h
      | false =>
        rw [b] at h
        cases d:ZbY L y.on with
        | true=>rw [d] at h;exact a h
        | false=>exact ⟨y,.head _,c,b,d⟩
theorem Zka {es:List Edge}:∀ {L:List Nat},ZiV es L=true->∀ k∈L,ZfT k es=true
  | [],_,k,a=>by cases a
  | x::L,h,k,a=>by
    simp only [ZiV] at h
    cases b:ZfT x es with
    | false=>rw [b] at h;cases h
    | true =>
      rw [b] at h
      rcases Awr.1 a with rfl | a
      ·exact b
      ·exact Zka h k a
theorem ZrF {m:Nat} {L:List Nat}:∀ {os:List Oper} {k:Nat},ZGF m L k os=true->∀ j o,os[j]?=some o->Zg9 m (k+j)=true\/ZbY L (k+j)=true\/ZeS m L o.after.toList=true\/ZiV o.after.toList L=true
  | [],k,_,j,o,ho=>by simp at ho
  | x::os,k,h,j,o,ho=>by
    simp only [ZGF] at h
    generalize a:(bif Zg9 m k then true else bif ZbY L k then true else bif ZeS m L x.after.toList then true else ZiV x.after.toList L)=b at h
    cases b with
    | false=>cases h
    | true =>
      cases j with
      | succ j =>
        have:=ZrF (k:=k+1) h j o (by simpa using ho)
        rw [show k+(j+1)=k+1+j from by omega]
        exact this
      | zero =>
        simp at ho
        subst ho
        cases c:Zg9 m k with
        | true=>exact .inl rfl
        | false =>
          rw [c] at a
          cases d:ZbY L k with
          | true=>exact .inr (.inl rfl)
          | false =>
            rw [d] at a
            cases e:ZeS m L x.after.toList with
            | true=>exact .inr (.inr (.inl rfl))
            | false=>rw [e] at a;exact .inr (.inr (.inr a))
theorem Zk5 {j k:Nat}:∀ {os:List Oper} {i:Nat},Zqj j k i os=true->∀ l o,os[l]?=some o->o.dst=some j->i+l=k
  | [],i,_,l,o,ho,_=>by simp at ho
  | x::os,i,h,l,o,ho,hd=>by
    simp only [Zqj] at h
    cases b:Nat.beq i k with
    | true =>
      rw [b] at h
      cases l with
      | zero=>exact Awg b
      | succ l =>
        have:=Zk5 (i:=i+1) h l o (by simpa using ho) hd
        omega
    | false =>
      rw [b] at h
      simp only [cond_false] at h
      cases l with
      | zero =>
        simp at ho
        subst ho
        rw [hd] at h
        simp only [Axx,cond_true] at h
        cases h
      | succ l =>
        have h':Zqj j k (i+1) os=true:=by
          split at h
          ·rename_i y c
           cases a:Nat.beq y j with
           | true=>rw [a] at h;cases h
           | false=>rw [a] at h;exact h
          ·exact h
        have:=Zk5 (i:=i+1) h' l o (by simpa using ho) hd
        omega
theorem Zr5 {ops:Array Oper} {k:Nat} {o:Oper} (ho:ops[k]?=some o):XM ops.toList k=o.dst:=by
  unfold XM
  rw [show ops.toList[k]?=ops[k]? from by simp,ho]
  rfl
theorem Zjq {ops:Array Oper} {k j:Nat} (h:XM ops.toList k=some j):∃ o,ops[k]?=some o/\o.dst=some j:=by
  unfold XM at h
  rw [show ops.toList[k]?=ops[k]? from by simp] at h
  cases ho:ops[k]? with
  | none=>rw [ho] at h;cases h
  | some o=>rw [ho] at h;exact ⟨o,rfl,h⟩
theorem ZkO {ops:Array Oper} {a:List Nat}:∀ {L:List Nat},ZsT ops.toList a L=true->∀ k∈L,∀ j,XM ops.toList k=some j->ZbY a j=true/\∀ i o,ops[i]?=some o->o.dst=some j->i=k
  | [],_,k,b,_,_=>by cases b
  | x::L,h,k,b,j,e=>by
    simp only [ZsT] at h
    rcases Awr.1 b with rfl | b
    ·rw [e] at h
     simp only at h
     cases c:ZbY a j with
     | false=>rw [c] at h;cases h
     | true =>
       rw [c] at h
       cases d:Zqj j k 0 ops.toList with
       | false=>rw [d] at h;cases h
       | true=>exact ⟨rfl,fun i o ho hd=>by have:=Zk5 d i o (by simpa using ho) hd;omega⟩
    ·refine ZkO (L:=L) ?_ k b j e
     split at h
     ·rename_i y f
      cases c:ZbY a y with
      | false=>rw [c] at h;cases h
      | true =>
        rw [c] at h
        cases d:Zqj y x 0 ops.toList with
        | false=>rw [d] at h;cases h
        | true=>rw [d] at h;exact h
     ·exact h
theorem Zo6 {ops:List Oper} {j:Nat}:∀ {L:List Nat},Ztx ops j L=true->∃ k,k∈L/\XM ops k=some j
  | [],h=>by cases h
  | x::L,h=>by
    have a:Ztx ops j L=true->∃ k,k∈x::L/\XM ops k=some j:=fun h=>let ⟨k,c,d⟩:=Zo6 h;⟨k,.tail _ c,d⟩
    simp only [Ztx] at h
    split at h
    ·rename_i y e
     cases b:Nat.beq y j with
     | true=>exact ⟨x,.head _,by rw [e,Awg b]⟩
     | false=>rw [b] at h;exact a h
    ·exact a h
theorem ZjB {ops:List Oper} {L:List Nat}:∀ {l:List Nat},Zoy ops L l=true->∀ j,ZbY l j=true->∃ k,k∈L/\XM ops k=some j
  | [],_,j,a=>by cases a
  | x::l,h,j,a=>by
    simp only [Zoy] at h
    cases b:Ztx ops x L with
    | false=>rw [b] at h;cases h
    | true =>
      rw [b] at h
      rcases Awr.1 (ZeW.1 a) with rfl | a
      ·exact Zo6 b
      ·exact ZjB h j (ZeW.2 a)
theorem ZnD {ops:List Oper} {j:Nat}:∀ {es:List Edge},Zlx ops j es=true->∃ x,x∈es/\Region.binds .any x=true/\XM ops x.on=some j
  | [],h=>by cases h
  | y::es,h=>by
    have a:Zlx ops j es=true->∃ x,x∈y::es/\Region.binds .any x=true/\XM ops x.on=some j:=fun h=>let ⟨k,d,e⟩:=ZnD h;⟨k,.tail _ d,e⟩
    simp only [Zlx] at h
    cases b:Region.binds .any y with
    | false=>rw [b] at h;exact a h
    | true =>
      rw [b] at h
      simp only [cond_true] at h
      split at h
      ·rename_i z f
       cases c:Nat.beq z j with
       | true=>exact ⟨y,.head _,b,by rw [f,Awg c]⟩
       | false=>rw [c] at h;exact a h
      ·exact a h
theorem ZmR {d:Nat->Bool} {K:Prop}:∀ {l:List Nat},ZmS d l K->(∀ i∈l,d i=true)->K
  | [],h,_=>h
  | i::l,h,hd=>ZmR (h (hd i (.head _))) fun k a=>hd k (.tail _ a)
theorem Zsj {L:List Nat} {i:Nat}:∀ {es:List Edge},i∈Zsk L es->ZbY L i=true/\∃ x,x∈es/\Region.binds .any x=true/\x.on=i
  | [],h=>by cases h
  | y::es,h=>by
    have a:i∈Zsk L es->ZbY L i=true/\∃ x,x∈y::es/\Region.binds .any x=true/\x.on=i:=fun h =>
      let ⟨b,k,d,c⟩:=Zsj h
      ⟨b,k,.tail _ d,c⟩
    simp only [Zsk] at h
    cases b:Region.binds .any y with
    | false=>rw [b] at h;exact a h
    | true =>
      rw [b] at h
      cases c:ZbY L y.on with
      | false=>rw [c] at h;exact a h
      | true =>
        rw [c] at h
        rcases Awr.1 h with rfl | h
        ·exact ⟨c,y,.head _,b,rfl⟩
        ·exact a h
theorem Zyn {ops:Array Oper} {L:List Nat} {d:Nat->Bool} {f:Nat->Oper->Prop}:∀ {l:List Nat},ZHv ops L d f l->∀ k∈l,∀ o,ops[k]?=some o->d k=false->ZmS d (Zsk L o.after.toList) (f k o)
  | [],_,k,a,_,_,_=>by cases a
  | x::l,h,k,a,o,ho,hd=>by
    obtain ⟨b,c⟩:=h
    rcases Awr.1 a with rfl | a
    ·rw [ho] at b
     exact b hd
    ·exact Zyn c k a o ho hd
theorem Zpe:∀ {tys:List VT} {t:XB tys},(XB.evs tys t).length=tys.length
  | [],_=>rfl
  | _::vs,t=>congrArg (· + 1) (Zpe (tys:=vs) (t:=t.2))
theorem ZiA {j:Nat} {v:EV}:∀ {a:List Nat} {xs:List EV},ZbY a j=true->a.length=xs.length->Zcy a (ZB9 a j v xs) j=some v
  | [],_,h,_=>by cases h
  | s::c,[],_,h=>by cases h
  | s::c,x::xs,h,d=>by
    simp only [ZB9]
    cases b:Nat.beq j s with
    | true=>simp only [cond_true,Zcy,b]
    | false =>
      simp only [cond_false,Zcy,b]
      simp only [ZbY,b,cond_false] at h
      exact ZiA h (Nat.succ.inj d)
theorem Zid {j i:Nat} {v:EV} (b:i≠j):∀ {a:List Nat} {xs:List EV},Zcy a (ZB9 a j v xs) i=Zcy a xs i
  | [],_=>rfl
  | s::c,[]=>rfl
  | s::c,x::xs=>by
    simp only [ZB9]
    cases d:Nat.beq j s with
    | true =>
      have:=Awg d
      subst this
      have e:Nat.beq i j=false:=by
        cases h:Nat.beq i j with
        | true=>exact absurd (Awg h) b
        | false=>rfl
      simp only [cond_true,Zcy,e,cond_false]
    | false =>
      simp only [cond_false,Zcy]
      rw [Zid b]
theorem ZmW {j:Nat} {x:EV}:∀ {a:List Nat} {vs us:List EV},us.map EV.v=vs.map EV.v->Zcy a vs j=some x->∃ y,Zcy a us j=some y/\y.v=x.v
  | [],_,_,_,h=>by simp [Zcy] at h
  | s::b,[],_,_,h=>by simp [Zcy] at h
  | s::b,v::vs,[],hm,h=>by simp at hm
  | s::b,v::vs,u::us,hm,h=>by
    simp only [Awo,Axy] at hm
    simp only [Zcy] at h ⊢
    cases c:Nat.beq j s with
    | true=>rw [c] at h;simp only [cond_true,Awh] at h;subst h;exact ⟨u,rfl,hm.1⟩
    | false=>rw [c] at h;exact ZmW hm.2 h
theorem Zk9 {j:Nat}:∀ {a:List Nat} {vs:List EV},ZbY a j=false->Zcy a vs j=none
  | [],_,_=>rfl
  | s::c,[],_=>rfl
  | s::c,v::vs,h=>by
    simp only [ZbY] at h
    cases b:Nat.beq j s with
    | true=>rw [b] at h;cases h
    | false =>
      rw [b] at h
      simp only [Zcy,b,cond_false]
      exact Zk9 h
def Zj1 (d:Nat->Bool):List Nat->Nat
  | []=>0
  | k::a=>bif d k then Zj1 d a else Zj1 d a+1
theorem Zvd {d:Nat->Bool} {k:Nat}:∀ {l:List Nat},Zj1 (XU d k) l<=Zj1 d l
  | []=>Aqo _
  | x::l=>by
    have a:=Zvd (d:=d) (k:=k) (l:=l)
    have e:XU d k x=(bif Nat.beq x k then true else d x):=rfl
    simp only [Zj1,e]
    cases b:Nat.beq x k<;>cases hd:d x<;>simp only [cond_true,cond_false]<;>omega
theorem Zvc {d:Nat->Bool} {k:Nat} (hd:d k=false):∀ {l:List Nat},k∈l->Zj1 (XU d k) l<Zj1 d l
  | [],h=>by cases h
  | x::l,h=>by
    have f:=Zvd (d:=d) (k:=k) (l:=l)
    rcases Awr.1 h with rfl | h
    ·have e:XU d k k=true:=by show (bif Nat.beq k k then true else d k)=true;rw [Axx];rfl
     simp only [Zj1,e,cond_true,hd,cond_false]
     omega
    ·have g:=Zvc hd h
     simp only [Zj1]
     cases a:XU d k x<;>cases b:d x<;>simp only [cond_true,cond_false]<;>first
       | omega
       | (simp only [XU,b] at a;cases c:Nat.beq x k<;>rw [c] at a<;>cases a)
theorem Zph {d:Nat->Bool}:∀ {l:List Nat},(∀ k∈l,d k=true)\/(∃ k∈l,d k=false)
  | []=> .inl fun k a=>by cases a
  | x::l=>by
    cases hd:d x with
    | false=>exact .inr ⟨x,.head _,hd⟩
    | true =>
      rcases Zph (d:=d) (l:=l) with h | ⟨k,a,h⟩
      ·refine .inl fun k a=>?_
       rcases Awr.1 a with rfl | a
       ·exact hd
       ·exact h k a
      ·exact .inr ⟨k,.tail _ a,h⟩
theorem Zsr {d:Nat->Bool} {k:Nat} (hd:d k=false):∀ {l:List Nat},k∈l->0<Zj1 d l
  | [],h=>by cases h
  | x::l,h=>by
    simp only [Zj1]
    rcases Awr.1 h with rfl | h
    ·rw [hd];simp only [cond_false];omega
    ·have:=Zsr hd h
     cases d x<;>simp only [cond_true,cond_false]<;>omega
theorem Zss {d:Nat->Bool}:∀ {l:List Nat},Zj1 d l<=l.length
  | []=>Aqo _
  | x::l=>by
    have:=Zss (d:=d) (l:=l)
    simp only [Zj1,Aqj]
    cases d x<;>simp only [cond_true,cond_false]<;>omega
theorem Zpm {j:Nat}:∀ {L:List Nat} {m:Nat},Zg9 (L.foldl Zp0 m) j=(Zg9 m j||ZbY L j)
  | [],m=>by simp [ZbY]
  | x::L,m=>by
    simp only [Awq,ZbY]
    rw [Zpm,ZqR]
    cases a:Nat.beq j x with
    | true=>rw [Awg a];simp
    | false=>simp [Awi a]
theorem Zy2 {c:Cfg} {ops:Array Oper} {D:List Nat} {a0:Act} {w0:World} {Qx:Ex->Env->Zc->Prop} {m N0:Nat} {L b:List Nat} {tys:List VT} {hd:Zgp} {e:Env} {rest:Zgp->Env->Zc->Prop}
    (K:∀ f,N0<=f->ZkE c ops D a0 w0 Qx f (L.foldl Zp0 m) rest) {I:(Nat->Bool)->XB tys->Zc->Prop}
    (M:∀ d t h',I d t h'->ZmS d L (Zr3 h' hd (rest hd (Zn8 b (XB.evs tys t) [] e) h'))) (A:Zoy ops.toList L b=true) (T:ZsT ops.toList b L=true)
    (fuel G:Nat) (d:Nat->Bool) (t:XB tys) (listed:Array Bool) (a:Act) (w:World) (H:ZkI) (N:N0<=fuel) (g:∀ k∈L,d k=true) (J:Rel ops G listed) (u:∀ j,Zg9 G j=(Zg9 m j||(ZbY L j&&d j)))
    (l:Agr c.n ⟨fun j=>bif ZbY b j then none else e.f j,e.mD⟩ a) (O:Same w0 w) (B:Zaf D a0 a) (C:∀ i o j,i∈L->ops[i]?=some o->d i=true->o.dst=some j->∃ v,Zcy b (XB.evs tys t) j=some v/\a.tmps[j]?=some v.v)
    (Q:I d t w.heap) (E:∀ p,p∈H->p∈ZdX hd):wpK c.rnd c.P ops (Zff c D a0 w0 Qx) (nxt ops) H fuel listed a w:=by
  obtain ⟨q,z⟩:=Zjc (ZmR (M d t w.heap Q) g)
  have r:∀ j,ZbY b j=true->∃ v,Zcy b (XB.evs tys t) j=some v/\a.tmps[j]?=some v.v:=fun j h=>by
    obtain ⟨k,z,R⟩:=ZjB A j h
    obtain ⟨o,ho,y⟩:=Zjq R
    exact C k o j z ho (g k z) y
  refine Zhx (Zed ops) _ _ _ _ _ _ (fun p hp=> .inl (E p hp)) (K fuel N listed hd (Zn8 b (XB.evs tys t) [] e) a w ⟨J.size,fun j=>?_⟩ ⟨l.size,l.defers,fun j v h=>?_⟩ O B q z)
  ·rw [J.bit,u,Zpm]
   cases hm:ZbY L j with
   | false=>simp
   | true=>rw [g j (ZeW.1 hm)];simp
  ·unfold Zn8 at h
   dsimp only at h
   cases s:ZbY b j with
   | true =>
     obtain ⟨x,S,F⟩:=r j s
     rw [S] at h
     cases h
     exact F
   | false =>
     rw [Zk9 s] at h
     refine l.val j v ?_
     show (bif ZbY b j then none else e.f j)=some v
     rw [s]
     exact h
section
variable {c:Cfg} {ops:Array Oper} {D:List Nat} {a0:Act} {w0:World} {Qx:Ex->Env->Zc->Prop}
theorem ZGZ (hc:c.OK) (hD:D=ops.toList.filterMap (·.dst)) {m N0:Nat} {L b:List Nat} {tys:List VT} {hd:Zgp} {e:Env} {rest:Zgp->Env->Zc->Prop}
    (r:ZET ops m L b=true) (hlen:b.length=tys.length) (ih:∀ f,N0<=f->ZkE c ops D a0 w0 Qx f (L.foldl Zp0 m) rest)
    {I:(Nat->Bool)->XB tys->Zc->Prop}
    (hS:∀ d t h',I d t h'->ZHv ops L d (fun k o=>opP c o.op (eAt ops.toList o.after.toList b (XB.evs tys t) e) h' fun v ab=>Zr3 ab (Zsi o hd) (match o.dst with
        | none=>I (XU d k) t ab
        | some j=>bif Nat.blt j c.n then (match XB.un tys (ZB9 b j v (XB.evs tys t)) with
          | some t'=>I (XU d k) t' ab
          | none=>False) else False)) L)
    (hF:∀ d t h',I d t h'->ZmS d L (Zr3 h' hd (rest hd (Zn8 b (XB.evs tys t) [] e) h'))) :
    ∀ (n fuel V:Nat) (d:Nat->Bool) (t:XB tys) (listed:Array Bool) (a:Act) (w:World) (Lk:ZkI),N0+n<=fuel->Zj1 d L<=n->Rel ops V listed->(∀ j,Zg9 V j=(Zg9 m j||(ZbY L j&&d j))) ->
      Agr c.n ⟨fun j=>bif ZbY b j then none else e.f j,e.mD⟩ a->Same w0 w->Zaf D a0 a->(∀ i o j,i∈L->ops[i]?=some o->d i=true->o.dst=some j->∃ v,Zcy b (XB.evs tys t) j=some v/\a.tmps[j]?=some v.v) ->
      I d t w.heap->(∀ p,p∈Lk->p∈ZdX hd)->wpK c.rnd c.P ops (Zff c D a0 w0 Qx) (nxt ops) Lk fuel listed a w:=by
  unfold ZET at r
  cases hT:Zrj ops m [] L with
  | false=>rw [hT] at r;cases r
  | true =>
  rw [hT] at r
  cases hO:ZGF m L 0 ops.toList with
  | false=>rw [hO] at r;cases r
  | true =>
  rw [hO] at r
  cases hU:ZsT ops.toList b L with
  | false=>rw [hU] at r;cases r
  | true =>
  rw [hU] at r
  have ae:Zoy ops.toList L b=true:=r
  have af:∀ k,k∈L->Zg9 m k=false:=fun k q=>(ZpT hT k q).choose_spec.2.1
  intro n
  induction n with
  | zero =>
    intro fuel V d t listed a w Lk hf aA hr g s hs Q K hI W
    have R:∀ k∈L,d k=true:=fun k q=>by
      cases aU:d k with
      | true=>rfl
      | false=>have:=Zsr aU q;omega
    exact Zy2 ih hF ae hU fuel V d t listed a w Lk (by omega) R hr g s hs Q K hI W
  | succ n aB =>
    intro fuel V d t listed a w Lk hf aA hr g s hs Q K hI W
    rcases Zph (d:=d) (l:=L) with R | aC
    ·exact Zy2 ih hF ae hU fuel V d t listed a w Lk (by omega) R hr g s hs Q K hI W
    ·obtain ⟨k0,o0,ag,aE,aV,ah⟩:=Zor (d:=d) (L0:=L) hT (fun k q=>by cases q) (fun k q=>ZeW.2 q) aC
     cases fuel with
     | zero=>omega
     | succ fuel =>
       refine ⟨fun h0=>?_,fun i hi=>?_⟩
       ·have:k0∈Region.ready .any ops listed:=hr.ready.2 ⟨o0,aV,by
          unfold Zcq
          rw [g k0,af k0 ag,aE]
          simp only [Bool.and_false,Bool.or_false,cond_false]
          exact ZfO.2 fun x F B=>by
            rw [g x.on]
            rcases ah x F B with h | ⟨h1,h2⟩
            ·rw [h];rfl
            ·rw [h1,h2];simp⟩
        rw [h0] at this
        cases this
       ·obtain ⟨o,ho,M⟩:=hr.ready.1 hi
        unfold Zcq at M
        cases ai:Zg9 V i with
        | true=>rw [ai] at M;cases M
        | false =>
        rw [ai] at M
        simp only [cond_false] at M
        have G:=ZfO.1 M
        have A:=g i
        rw [ai] at A
        have aG:Zg9 m i=false:=by cases h:Zg9 m i with
          | false=>rfl
          | true=>rw [h] at A;simp at A
        have aj:ZbY L i=true:=by
          have:=ZrF hO i o (by simpa using ho)
          rw [Awb] at this
          rcases this with h | h | h | h
          ·rw [aG] at h;cases h
          ·exact h
          ·obtain ⟨x,F,B,h1,h2⟩:=Zj9 h
           have:=G x F B
           rw [g,h1,h2] at this
           simp at this
          ·have:=Zka h k0 ag
           obtain ⟨x,F,B,X⟩:=ZiU.1 this
           have:=G x F B
           rw [g,X,af k0 ag,aE] at this
           simp at this
        have Y:=ZeW.1 aj
        have aH:d i=false:=by
          rw [aG,aj] at A
          cases h:d i with
          | false=>rfl
          | true=>rw [h] at A;simp at A
        have X:∀ x∈o.after.toList,Region.binds .any x=true->ZbY L x.on=true->d x.on=true:=fun x F B hm=>by
          have:=G x F B
          rw [g,af _ (ZeW.1 hm),hm] at this
          simpa using this
        have ak:=ZmR (Zyn (hS d t w.heap hI) i Y o ho aH) fun k q=>by
          obtain ⟨h1,x,F,B,rfl⟩:=Zsj q
          exact X x F B h1
        have aI:Agr c.n (eAt ops.toList o.after.toList b (XB.evs tys t) e) a:=by
          refine ⟨s.size,s.defers,fun j v H=>?_⟩
          unfold eAt at H
          dsimp only at H
          split at H
          ·rename_i u hu
           cases al:Zlx ops.toList j o.after.toList with
           | false=>rw [al] at H;cases H
           | true =>
             rw [al] at H
             simp only [cond_true,Awh] at H
             subst H
             obtain ⟨x,F,B,hg⟩:=ZnD al
             obtain ⟨ox,aJ,aK⟩:=Zjq hg
             have aX:ZbY b j=true:=by
               cases h:ZbY b j with
               | true=>rfl
               | false=>rw [Zk9 h] at hu;cases hu
             obtain ⟨k,q,aY⟩:=ZjB ae j aX
             have aL:x.on=k:=(ZkO hU k q j aY).2 x.on ox aJ aK
             obtain ⟨v',h1,h2⟩:=K x.on ox j (aL▸q) aJ (X x F B (ZeW.2 (aL▸q))) aK
             rw [hu] at h1
             cases h1
             exact h2
          ·rename_i hu
           cases N:ZbY b j with
           | true=>rw [N] at H;cases H
           | false =>
             rw [N] at H
             refine s.val j v ?_
             show (bif ZbY b j then none else e.f j)=some v
             rw [N]
             exact H
        have aZ:o.guard=none:=by
          obtain ⟨o',aM,_,hg⟩:=ZpT hT i Y
          rw [ho] at aM
          cases aM
          exact hg
        have hw:Region.wanted o (yielded ops a.tmps)=true:=by simp [Region.wanted,aZ]
        unfold Go.wpOpIn
        simp only [ho,hw,if_true]
        refine Zus hc aI (fun v w' Z hp=>⟨v,rfl,hs.trans Z,Q,hp⟩) ak fun v w' Z q=>?_
        obtain ⟨an,q⟩:=Zjc q
        have S:∀ p,p∈nxt ops Lk i->p∈ZdX hd:=fun p hp=>W p ((Zed ops).mem _ _ _ hp)
        refine ⟨fun p hp=>an p ?_,?_⟩
        ·rw [<- Zuw ho]
         exact (Zed ops).same _ _ _ _ hp (S p hp)
        have aN:=hr.set (Zja ho)
        have J:Zaf D a0 (a.put o.dst v.v):=Q.trans (Zaf.put fun x F=>hD▸ZfC ho F)
        have T:∀ j,Zg9 (Zp0 V i) j=(Zg9 m j||(ZbY L j&&XU d i j)):=fun j=>by
          rw [ZqR,g j]
          unfold XU
          cases B:Nat.beq j i with
          | true=>rw [Awg B,aj];simp
          | false=>simp [Awi B]
        have U:Zj1 (XU d i) L<=n:=by have:=Zvc aH Y;omega
        have hold:∀ k,XU d i k=true->k≠i->d k=true:=fun k h O=>by
          unfold XU at h
          cases B:Nat.beq k i with
          | true=>exact absurd (Awg B) O
          | false=>rw [B] at h;exact h
        cases z:o.dst with
        | none =>
          rw [z] at q
          have q:I (XU d i) t w'.heap:=q
          rw [z] at J
          refine aB fuel (Zp0 V i) (XU d i) t _ (a.put none v.v) w' _ (by omega) U aN T s (hs.trans Z) J (fun k ok j ao C aq E=>?_) q S
          refine K k ok j ao C (hold k aq fun he=>?_) E
          subst he
          rw [ho] at C
          cases C
          rw [z] at E
          cases E
        | some j0 =>
          rw [z] at q
          simp only at q
          rw [z] at J
          obtain ⟨aO,q⟩:=Zfd q
          split at q
          ·rename_i t' ba
           have hm:=ZgM ba
           have bc:XM ops.toList i=some j0:=(Zr5 ho).trans z
           obtain ⟨N,bd⟩:=ZkO hU i Y j0 bc
           have aP:j0<a.tmps.size:=by rw [s.size];rw [Nat.blt_eq] at aO;exact aO
           refine aB fuel (Zp0 V i) (XU d i) t' _ (a.put (some j0) v.v) w' _ (by omega) U aN T ⟨?_,?_,fun j u H=>?_⟩ (hs.trans Z) J (fun k ok j ao C aq E=>?_) q S
           ·simp [Act.put,s.size]
           ·rw [put_defers];exact s.defers
           ·have aQ:(bif ZbY b j then none else e.f j)=some u:=H
            have O:j0≠j:=fun he=>by rw [<- he,N] at aQ;cases aQ
            have:=s.val j u H
            simp only [Act.put]
            rw [Awj O]
            exact this
           ·by_cases au:k=i
            ·subst au
             rw [ho] at C
             cases C
             rw [z] at E
             cases E
             obtain ⟨y,hy,av⟩:=ZmW hm (ZiA (v:=v) N (hlen.trans Zpe.symm))
             refine ⟨y,hy,?_⟩
             simp [Act.put,aP,av]
            ·have O:j≠j0:=fun he=>au (bd k ok C (by rw [E,he]))
             obtain ⟨x,F,bg⟩:=K k ok j ao C (hold k aq au) E
             obtain ⟨y,hy,av⟩:=ZmW hm (show Zcy b (ZB9 b j0 v (XB.evs tys t)) j=some x from by rw [Zid O];exact F)
             refine ⟨y,hy,?_⟩
             simp only [Act.put]
             rw [Awj (Ne.symm O),av]
             exact bg
          ·exact q.elim
end
section
variable {c:Cfg} {ops:Array Oper} {D:List Nat} {a0:Act} {w0:World} {Qx:Ex->Env->Zc->Prop}
theorem ZvC {i m:Nat} {o:Oper} {fr:Bool} (h:ZEl c ops o m i fr=true):Zcq m i o=true/\((Zfx c o.op = .other->Zks m i 0 ops.toList=true)/\(Zfx c o.op≠ .other->fr=true->Zn5 ops o m i 0 ops.toList=true)/\(fr=false->Zks m i 0 ops.toList=true)):=by
  unfold ZEl at h
  cases b:Zcq m i o with
  | false=>rw [b] at h;cases h
  | true =>
    rw [b] at h
    simp only [cond_true] at h
    refine ⟨rfl,?_⟩
    cases a:Zfx c o.op with
    | other=>rw [a] at h;exact ⟨fun _=>h,fun d=>absurd rfl d,fun _=>h⟩
    | pure =>
      rw [a] at h
      cases fr with
      | true=>exact ⟨fun e=>(by cases e),fun _ _=>h,fun e=>(by cases e)⟩
      | false=>exact ⟨fun e=>(by cases e),fun _ e=>(by cases e),fun _=>h⟩
    | load t x =>
      rw [a] at h
      cases fr with
      | true=>exact ⟨fun e=>(by cases e),fun _ _=>h,fun e=>(by cases e)⟩
      | false=>exact ⟨fun e=>(by cases e),fun _ e=>(by cases e),fun _=>h⟩
    | text x =>
      rw [a] at h
      cases fr with
      | true=>exact ⟨fun e=>(by cases e),fun _ _=>h,fun e=>(by cases e)⟩
      | false=>exact ⟨fun e=>(by cases e),fun _ e=>(by cases e),fun _=>h⟩
theorem ZqS {a b:Bool} (h:(bif a then b else false)=true):a=true/\b=true:=by
  cases a with
  | false=>cases h
  | true=>exact ⟨rfl,h⟩
theorem Zhi (C:Zf2 ops) (Y:c.OK) (N:D=ops.toList.filterMap (·.dst)) (A:Region.noSelect ops=true) {K:Env->Zc->Prop} (R:∀ Z h',K Z h'->Qx .normal Z h') :
    ∀ (l:OrdT) (fuel m:Nat),l.depth<=fuel->Zqg c ops l m=true->ZkE c ops D a0 w0 Qx fuel m (Zqf c ops K l)
  | .done,fuel,m,S,k=>by
    intro listed hd e a w G u O E q g
    unfold Zqf at g
    exact ZAr (Zv6 G k) ⟨e,u,O,E,R _ _ g⟩ fuel
  | .inv L T tys r,fuel,m,S,k=>by
    intro listed hd e a w G u O E q g
    unfold Zqf at g
    unfold Zqg at k
    obtain ⟨k,U⟩:=ZqS k
    simp only [Awn] at k
    obtain ⟨I,⟨t,hI⟩,hS,hF⟩:=g
    have ar:r.depth+L.length<=fuel:=S
    refine ZGZ Y N k.1 (Awg k.2) (N0:=r.depth) (fun f au=>Zhi C Y N A R r f _ au U) hS hF L.length fuel m (fun _=>false) t listed a w (ZdX hd) ar Zss G (fun j=>by simp) ⟨u.size,u.defers,fun j v hj=>?_⟩ O E (fun _ _ _ _ _ h _=>by cases h) hI (fun _ h=>h)
    have hj:(bif ZbY T j then none else e.f j)=some v:=hj
    cases hm:ZbY T j with
    | true=>rw [hm] at hj;cases hj
    | false=>rw [hm] at hj;exact u.val j v hj
  | .fork i r j s,0,m,S,_=>by simp [OrdT.depth] at S
  | .take i fr r,0,m,S,_=>by simp [OrdT.depth] at S
  | .fork i r j s,fuel+1,m,S,k=>by
    have z:r.depth<=fuel:=by
      have h1:Nat.max r.depth s.depth+1<=fuel+1:=S
      have h2:r.depth<=Nat.max r.depth s.depth:=Nat.le_max_left _ _
      omega
    have av:s.depth<=fuel:=by
      have h1:Nat.max r.depth s.depth+1<=fuel+1:=S
      have h2:s.depth<=Nat.max r.depth s.depth:=Nat.le_max_right _ _
      omega
    intro listed hd e a w G u O E q g
    unfold Zqf at g
    unfold Zqg at k
    split at g
    ·rename_i o p ho hp
     rw [ho,hp] at k
     obtain ⟨hb,k⟩:=ZqS k
     obtain ⟨aj,U⟩:=ZqS k
     simp only [Awn] at hb
     have aw:=Zhi C Y N A R r fuel (Zp0 m i) z aj
     have ax:=Zhi C Y N A R s fuel (Zp0 m j) av U
     exact ZEb (ZA6 G hb.2.2) (G.ready.2 ⟨o,ho,hb.1⟩) (ZtD C Y N ho G u O E q aw g.1) (ZtD C Y N hp G u O E q ax g.2)
    ·exact g.elim
  | .take i fr r,fuel+1,m,S,k=>by
    have z:r.depth<=fuel:=Nat.le_of_succ_le_succ S
    intro listed hd e a w G u O E q g
    unfold Zqf at g
    unfold Zqg at k
    split at g
    ·exact g.elim
    ·rename_i o ho
     rw [ho] at k
     obtain ⟨hb,k⟩:=ZqS k
     obtain ⟨Q,ak,H,V⟩:=ZvC hb
     have ih:=Zhi C Y N A R r fuel (Zp0 m i) z k
     have al:Zks m i 0 ops.toList=true->ZFl c ops o hd e w.heap (Zqf c ops K r)->wpK c.rnd c.P ops (Zff c D a0 w0 Qx) (nxt ops) (ZdX hd) (fuel+1) listed a w :=
       fun h2 g=>ZtZ (Zyo G h2) (G.ready.2 ⟨o,ho,Q⟩) (ZtD C Y N ho G u O E q ih g)
     have an:=G.set (Zja ho)
     have ab:∀ v,Zaf D a0 (a.put o.dst v):=fun v=>E.trans (Zaf.put fun x hx=>N▸ZfC ho hx)
     have hQ:∀ c' a' v w',Zff c D a0 w0 Qx (.panic c') (a'.put o.dst v) w'->Zff c D a0 w0 Qx (.panic c') a' w':=fun _ _ _ _ h=>ZmI (fun x hx=>by rw [N];exact ZfC ho hx) h
     split at g
     ·rename_i F
      have ao:Zn5 ops o m i 0 ops.toList=true\/Zks m i 0 ops.toList=true:=by
        cases fr with
        | true=>exact .inl (H (by rw [F];intro e;cases e) rfl)
        | false=>exact .inr (V rfl)
      unfold ZG7 at g
      rcases ZhQ u g with ⟨e1,B,hw,g⟩ | ⟨e1,B,hw,g⟩
      ·obtain ⟨v,M,g⟩:=ZAX B F g
       obtain ⟨Z,W,g⟩:=ZdF B g
       exact ZpW C ho A hQ G Q ao (v:=v.v) (.inl ⟨hw,fun w _=>M w trivial⟩) q (ih _ hd Z _ w an W O (ab _) q g)
      ·obtain ⟨Z,W,g⟩:=ZdF B g
       exact ZpW C ho A hQ G Q ao (v:=undef) (.inr ⟨hw,rfl⟩) q (ih _ hd Z _ w an W O (ab _) q g)
     ·rename_i t x F
      have J:=ZyO F
      cases z:fr with
      | true =>
        rw [z] at g
        simp only [cond_true] at g
        refine Zua C N A ho G u O E q ih Q (H (by rw [F];intro e;cases e) z) (fun e1 B g=>?_) g
        split at g
        ·rename_i y hy
         obtain ⟨b,p,hp,g⟩:=Zjf g
         obtain ⟨v,cells,X,M,g⟩:=ZBc g
         refine ⟨v,fun h'=>Yb h' cells,Zld.2 X,fun w' ad=>?_,g⟩
         obtain ⟨dst,op,type,pos,after,guard⟩:=o
         simp only at J
         subst J
         refine Zx6 (s:=Instr.loadAt t (a.eval x)) ?_
         rw [B.ev hy,hp]
         exact ZoD (M w' (Zld.1 ad))
        ·exact g.elim
      | false =>
        rw [z] at g
        simp only [cond_false] at g
        refine ZE6 C N ho G u O E q ih (fun {e K} h1 h2=>?_) Q (V z) g
        obtain ⟨dst,op,type,pos,after,guard⟩:=o
        simp only at J
        subst J
        exact ZpJ h1 h2
     ·rename_i x F
      obtain ⟨s,d,el,J,aA,aB,aC⟩:=ZxN F
      cases z:fr with
      | true =>
        rw [z] at g
        simp only [cond_true] at g
        refine Zua C N A ho G u O E q ih Q (H (by rw [F];intro e;cases e) z) (fun e1 B g=>?_) g
        split at g
        ·rename_i p l n hy
         obtain ⟨str,M,g⟩:=Zs4 (P:=c.P) (w:=w) (x:=⟨p,l,n⟩) (K:=fun s=>b2s ⟨p,l,n⟩ w.heap (fun s'=>s'=s)/\Zsy c.n e1 o.dst (.val (.string s)) fun Z=>Zqf c ops K r ((i,fun h'=>b2s ⟨p,l,n⟩ h' fun s'=>s'=s)::hd) Z w.heap) (by
           rcases g with ⟨h0,g⟩ | ⟨b,o2,s,h1,h2,h3,g⟩
           ·exact .inl ⟨h0,.inl ⟨h0,rfl⟩,g⟩
           ·exact .inr ⟨b,o2,s,h1,h2,h3,.inr ⟨b,o2,s,h1,h2,h3,rfl⟩,g⟩)
         refine ⟨.val (.string str),fun h'=>b2s ⟨p,l,n⟩ h' fun s'=>s'=str,g.1,fun w' ad=>?_,g.2⟩
         obtain ⟨s2,ae,rfl⟩:=Zs4 (P:=c.P) (w:=w') ad
         obtain ⟨dst,op,type,pos,after,guard⟩:=o
         simp only at J
         subst J
         refine Zx6 (s:=convert s d (a.eval x)) ?_
         rw [B.ev hy]
         exact (Ziu aA aB aC).trans ae
        ·exact g.elim
      | false =>
        rw [z] at g
        simp only [cond_false] at g
        exact al (V z) g
     ·rename_i F
      exact al (ak F) g
end
theorem ZoX {e:Env}:∀ {a:List Nat} {es:List EV} {vs:List EV} {j:Nat} {v:EV},ZvS e a=some es->es.map EV.v=vs.map EV.v->Zcy a vs j=some v->∃ u,e j=some u/\u.v=v.v
  | [],es,vs,j,v,_,_,h=>by simp [Zcy] at h
  | s::f,es,vs,j,v,b,hm,h=>by
    simp only [ZvS] at b
    split at b
    ·rename_i u us hu c
     simp only [Awh] at b
     subst b
     cases vs with
     | nil=>simp [Zcy] at h
     | cons v' vs =>
       simp only [Awo,Axy] at hm
       simp only [Zcy] at h
       cases d:Nat.beq j s with
       | true =>
         have:=Awg d
         subst this
         rw [d] at h
         simp only [cond_true,Awh] at h
         subst h
         exact ⟨u,hu,hm.1⟩
       | false =>
         rw [d] at h
         exact ZoX c hm.2 h
    ·cases b
theorem ZqC {c:Cfg} {b:List Nat} {tys:List VT} {kill:List (Nat × Nat)} {e A:Env} {a s:Act} {D:List Nat} {t:XB tys} (i:Agr c.n e a) (g:Agr c.n A s) (f:Zaf D a s)
    (k:D.all (fun j=>bif Nat.beq j mkN then false else ZbY b j||ZrV kill j)=true) (q:Zs6 b tys A=some t) (l:∀ j,ZbY b j=true->∃ v,Zcy b (XB.evs tys t) j=some v) :
    Agr c.n (Zn8 b (XB.evs tys t) kill e) s:=by
  have w:mkN∉D:=fun h=>by
    have:=Axc.1 k mkN h
    rw [show Nat.beq mkN mkN=true from Axx mkN] at this
    cases this
  refine ⟨g.size,(f.2 w).trans i.defers,fun j v d=>?_⟩
  unfold Zn8 at d
  dsimp only at d
  unfold Zs6 at q
  split at q
  ·rename_i es y
   have hm:=ZgM q
   cases r:Zcy b (XB.evs tys t) j with
   | some u =>
     rw [r] at d
     simp only [Awh] at d
     subst d
     obtain ⟨x,B,C⟩:=ZoX y hm.symm r
     rw [<- C]
     exact g.val j x B
   | none =>
     rw [r] at d
     simp only at d
     cases z:ZrV kill j with
     | true=>rw [z] at d;cases d
     | false =>
       rw [z] at d
       simp only [cond_false] at d
       have m:j∉D:=by
         intro E
         have:=Axc.1 k j E
         cases o:Nat.beq j mkN with
         | true=>rw [o] at this;cases this
         | false =>
         rw [o,z,cond_false,Bool.or_false] at this
         obtain ⟨v',p⟩:=l j this
         rw [r] at p
         cases p
       rw [f.1 j m]
       exact i.val j v d
  ·cases q
theorem ZrR {e:Env}:∀ {a:List Nat} {es vs:List EV} {j:Nat},ZvS e a=some es->es.map EV.v=vs.map EV.v->ZbY a j=true->∃ v,Zcy a vs j=some v
  | [],es,vs,j,_,_,h=>by simp [ZbY] at h
  | s::f,es,vs,j,b,hm,h=>by
    simp only [ZvS] at b
    split at b
    ·rename_i u us hu c
     simp only [Awh] at b
     subst b
     cases vs with
     | nil=>simp at hm
     | cons v' vs =>
       simp only [Awo,Axy] at hm
       simp only [Zcy]
       simp only [ZbY] at h
       cases d:Nat.beq j s with
       | true=>exact ⟨v',rfl⟩
       | false =>
         rw [d] at h
         exact ZrR c hm.2 h
    ·cases b
theorem Zry {a:List Nat} {tys:List VT} {e:Env} {t:XB tys} (b:Zs6 a tys e=some t):∀ j,ZbY a j=true->∃ v,Zcy a (XB.evs tys t) j=some v:=by
  intro j d
  unfold Zs6 at b
  split at b
  ·rename_i es c
   exact ZrR c (ZgM b).symm d
  ·cases b
theorem Zo0 {a:List Nat} {tys:List VT} {e:Env} {J:XB tys->Zc->Prop} {h:Zc} (b:ZyT a tys e J h):∃ t,Zs6 a tys e=some t/\J t h:=by
  unfold ZyT at b
  split at b
  ·rename_i t ht
   exact ⟨t,ht,b⟩
  ·exact b.elim
theorem ZoB {n:Nat}:∀ {d:List Tmp} {vs:List EV} {e c:Env} {a:Act},Agr n e a->ZoC n e d vs=some c ->
    Agr n c { a with tmps:=(d.zip (vs.map EV.v)).foldl (fun t x=>t.setIfInBounds x.1 x.2) a.tmps }
  | [],[],e,c,a,b,h=>by
    simp only [ZoC,Awh] at h
    subst h
    exact b
  | p::d,v::vs,e,c,a,b,h=>by
    simp only [ZoC] at h
    cases f:Nat.blt p n with
    | false=>rw [f] at h;cases h
    | true =>
      rw [f] at h
      exact ZoB (a:=a.put (some p) v.v) (b.set f v) h
  | [],_::_,e,c,a,b,h=>by cases h
  | _::_,[],e,c,a,b,h=>by cases h
theorem Zya (a:Array Tmp) (vs:List Value) (tmps:Array Value):(a.zip vs.toArray).foldl (fun t x=>t.setIfInBounds x.1 x.2) tmps=(a.toList.zip vs).foldl (fun t x=>t.setIfInBounds x.1 x.2) tmps:=by
  rw [<- Array.foldl_toList,Array.toList_zip]
theorem Zaw:∀ (code:Code) (c:Cfg) (_:c.OK) (_:c.P.follows .mixedOrders=true) (K:Ann) (e:Env) (a:Act) (w:World) (Q:Ex->Env->Zc->Prop),
    Agr c.n e a->wpC c code K e w.heap Q->code.wpIn (fen c.rnd) 0 c.P (Zff c (dstsOf code) a w Q) a w
  | .skip,c,M,d,K,e,a,w,Q,m,i=>wpIn_skip ⟨e,m,Same.refl w,Zaf.refl _ a,i⟩
  | .region id ops draw,c,M,d,K,e,a,w,Q,m,i=>by
    unfold wpC at i
    cases draw with
    | false =>
      refine wpIn_region ?_
      rw [List.range_eq_range']
      have:=Zmz M (ops:=ops) (Q:=Zff c (dstsOf (.region id ops false)) a w Q) ops.toList 0 (by simp) m i (fun O V w' H E o z=>⟨O,H,E,o,z⟩) (fun v V w' E o z=>⟨v,rfl,E,o,z⟩)
      simpa using this
    | true =>
      simp only at i
      split at i
      ·rename_i l
       obtain ⟨L,i⟩:=Zfd i
       simp only [Awn] at L
       refine wpIn_region_any d (Zxm (nx:=nxt ops) _ (ZdX []) _ _ _ ?_)
       exact Zhi (Zv7 L.2.2.1) M (D:=dstsOf (.region id ops true)) rfl L.1 (fun _ _ h=>h) l ops.size 0 (Awt L.2.1) L.2.2.2 _ [] e a { w with drawn:=w.drawn+1 } (Rel.zero ops) m ⟨rfl,rfl,rfl⟩ (Zaf.refl _ a) (fun q hq=>(by cases hq)) i
      ·obtain ⟨L,i⟩:=Zfd i
       simp only [Awn] at L
       have aj:c.rnd=none:=Axw.1 L.1
       rw [aj]
       refine wpIn_region_quiet (C:=Cls w w.heap) rfl d L.2 ⟨⟨rfl,rfl,rfl⟩,rfl⟩ ?_
       refine Zqc M ops.toList 0 (by simp) m i fun O V H o z w' hw=>⟨O,H,hw.1,o,?_⟩
       rw [hw.2]
       exact z
  | .seq x y,c,M,d,K,e,a,w,Q,m,i=>by
    have plain:∀ u v:Ann,wpC c x u e w.heap (Zft (fun O h'=>wpC c y v O h' Q) Q)->(Code.seq x y).wpIn (fen c.rnd) 0 c.P (Zff c (dstsOf (.seq x y)) a w Q) a w:=by
      intro u v i
      refine wpIn_seq (wpIn_mono (Zaw x c M d u e a w _ m i) ?_)
      intro ex V w' hp
      cases ex<;>first
        | exact hp.elim
        | skip
      ·obtain ⟨O,H,E,o,z⟩:=hp
       refine wpIn_mono (Zaw y c M d v O V w' _ H z) ?_
       exact Zff.mono E (o.mono fun j F=>Axz.2 (.inl F)) (fun j F=>Axz.2 (.inr F)) (fun _ _ _ h=>h)
      ·obtain ⟨O,H,E,o,z⟩:=hp
       exact ⟨O,H,E,o.mono fun j F=>Axz.2 (.inl F),z⟩
      ·obtain ⟨O,H,E,o,z⟩:=hp
       exact ⟨O,H,E,o.mono fun j F=>Axz.2 (.inl F),z⟩
      ·obtain ⟨v,H,E,o,z⟩:=hp
       exact ⟨v,H,E,o.mono fun j F=>Axz.2 (.inl F),z⟩
    unfold wpC at i
    split at i
    ·rename_i A tys kill u v
     cases R:Zu4 A kill x with
     | false=>rw [R] at i;exact i.elim
     | true =>
       rw [R] at i
       obtain ⟨J,hJ,i⟩:=i
       refine wpIn_seq (wpIn_mono (Zaw x c M d u e a w _ m i) ?_)
       intro ex V w' hp
       cases ex<;>first
         | exact hp.elim
         | skip
       ·obtain ⟨O,H,E,o,z⟩:=hp
        obtain ⟨t,ht,F⟩:=Zo0 z
        have X:=ZqC m H o R ht (Zry ht)
        refine wpIn_mono (Zaw y c M d v _ V w' _ X (hJ t w'.heap F)) ?_
        exact Zff.mono E (o.mono fun j F=>Axz.2 (.inl F)) (fun j F=>Axz.2 (.inr F)) (fun _ _ _ h=>h)
       ·obtain ⟨O,H,E,o,z⟩:=hp
        exact ⟨O,H,E,o.mono fun j F=>Axz.2 (.inl F),z⟩
       ·obtain ⟨O,H,E,o,z⟩:=hp
        exact ⟨O,H,E,o.mono fun j F=>Axz.2 (.inl F),z⟩
       ·obtain ⟨v,H,E,o,z⟩:=hp
        exact ⟨v,H,E,o.mono fun j F=>Axz.2 (.inl F),z⟩
    ·exact plain _ _ i
  | .cond x p q,c,M,d,K,e,a,w,Q,m,i=>by
    have yes:∀ u,wpC c p u e w.heap Q->p.wpIn (fen c.rnd) 0 c.P (Zff c (dstsOf (.cond x p q)) a w Q) a w:=fun u i =>
      wpIn_mono (Zaw p c M d u e a w Q m i) (Zff.mono (Same.refl w) (Zaf.refl _ a) (fun j F=>Axz.2 (.inl F)) (fun _ _ _ h=>h))
    have no:∀ u,wpC c q u e w.heap Q->q.wpIn (fen c.rnd) 0 c.P (Zff c (dstsOf (.cond x p q)) a w Q) a w:=fun u i =>
      wpIn_mono (Zaw q c M d u e a w Q m i) (Zff.mono (Same.refl w) (Zaf.refl _ a) (fun j F=>Axz.2 (.inr F)) (fun _ _ _ h=>h))
    unfold wpC at i
    split at i
    ·rename_i hx;exact wpIn_cond_true (m.ev hx) (yes _ i)
    ·rename_i hx;exact wpIn_cond_false (m.ev hx) (no _ i)
    ·rename_i b hx
     exact wpIn_cond_split (m.ev hx) (fun L=>yes _ (i.1 L)) (fun L=>no _ (i.2 L))
    ·exact i.elim
  | .block id x,c,M,d,K,e,a,w,Q,m,i=>by
    unfold wpC at i
    refine wpIn_block (wpIn_mono (Zaw x c M d _ e a w _ m i) ?_)
    intro ex V w' hp
    cases ex<;>first
      | exact hp.elim
      | skip
    ·exact hp
    ·rename_i aN
     obtain ⟨O,H,E,o,z⟩:=hp
     simp only [Exit.inBlock]
     simp only [ZCz] at z
     cases L:Nat.beq aN id with
     | true =>
       rw [L] at z
       rw [if_pos (Awg L)]
       exact ⟨O,H,E,o,z⟩
     | false =>
       rw [L] at z
       rw [if_neg (Awi L)]
       exact ⟨O,H,E,o,z⟩
    ·exact hp
    ·exact hp
  | .loop x,c,M,d,K,e,a,w,Q,m,i=>by
    unfold wpC at i
    split at i
    ·rename_i A tys kill u
     cases R:Zu4 A kill x with
     | false=>rw [R] at i;exact i.elim
     | true =>
       rw [R] at i
       simp only [cond_true] at i
       split at i
       ·rename_i t0 az
        obtain ⟨I,μ,h0,hr⟩:=i
        have ae:=Zry az
        have ak:∀ (t:XB tys) j,ZbY A j=true->∃ v,Zcy A (XB.evs tys t) j=some v:=by
          intro t j F
          obtain ⟨v,hv⟩:=ae j F
          have len:∀ (ts:List VT) (s s':XB ts),(XB.evs ts s).length=(XB.evs ts s').length:=by
            intro ts
            induction ts with
            | nil=>intro s s';rfl
            | cons x xs ih=>intro s s';simp only [XB.evs,Aqj];exact congrArg _ (ih _ _)
          have go:∀ (ss:List Nat) (us vs:List EV),us.length=vs.length->(∃ v,Zcy ss us j=some v)->∃ v,Zcy ss vs j=some v:=by
            intro ss
            induction ss with
            | nil=>intro us vs _ h;simp [Zcy] at h
            | cons s ss ih =>
              intro us vs hlen h
              cases us with
              | nil=>simp [Zcy] at h
              | cons u us =>
                cases vs with
                | nil=>simp at hlen
                | cons v' vs =>
                  simp only [Zcy] at h ⊢
                  cases L:Nat.beq j s with
                  | true=>exact ⟨v',rfl⟩
                  | false =>
                    rw [L] at h
                    exact ih us vs (by simpa using hlen) h
          exact go A _ _ (len tys t0 t) ⟨v,hv⟩
        refine wpIn_loop_ghost (fun n V w'=>Same w w'/\Zaf (dstsOf x) a V/\∃ t,Agr c.n (Zn8 A (XB.evs tys t) kill e) V/\I t w'.heap/\n=μ t w'.heap)
          (μ t0 w.heap) ⟨Same.refl w,Zaf.refl _ a,t0,ZqC m m (Zaf.refl _ a) R az ae,h0,rfl⟩ ?_
        rintro n V w' ⟨hs,N,t,aC,hI,rfl⟩
        refine wpIn_mono (Zaw x c M d u _ V w' _ aC (hr t w'.heap hI)) ?_
        intro ex a2 w2 hp
        cases ex<;>first
          | exact hp.elim
          | skip
        ·obtain ⟨e2,H,E,o,z⟩:=hp
         have h5:ZyT A tys e2 (fun s' h'=>I s' h'/\μ s' h'<μ t w'.heap) w2.heap:=z
         obtain ⟨t2,aP,aQ,hμ⟩:=Zo0 h5
         exact ⟨_,hμ,hs.trans E,N.trans o,t2,ZqC m H (N.trans o) R aP (ak t2),aQ,rfl⟩
        ·obtain ⟨e2,H,E,o,z⟩:=hp
         exact ⟨e2,H,hs.trans E,N.trans o,z⟩
        ·obtain ⟨e2,H,E,o,z⟩:=hp
         exact ⟨e2,H,hs.trans E,N.trans o,z⟩
        ·obtain ⟨v,H,E,o,z⟩:=hp
         exact ⟨v,H,hs.trans E,N.trans o,z⟩
       ·exact i.elim
    ·exact i.elim
  | .exit id,c,M,d,K,e,a,w,Q,m,i=>wpIn_exit ⟨e,m,Same.refl w,Zaf.refl _ a,i⟩
  | .ret,c,M,d,K,e,a,w,Q,m,i=>wpIn_ret ⟨e,m,Same.refl w,Zaf.refl _ a,i⟩
  | .rangeFunc g ps assign body,c,M,d,K,e,a,w,Q,m,i=>by
    unfold wpC at i
    split at i
    ·rename_i tys x y
     cases L:(c.rnd.isNone&&e.mD.isNo) with
     | false=>rw [L] at i;exact i.elim
     | true =>
       rw [L] at i
       simp only [cond_true] at i
       simp only [Awn] at L
       have aj:c.rnd=none:=Axw.1 L.1
       have aR:e.mD = .no:=by
         cases h9:e.mD with
         | no=>rfl
         | at_ D9=>rw [h9] at L;cases L.2
         | raw d9=>rw [h9] at L;cases L.2
       have aS:a.defers=[]:=by rw [m.defers,aR];rfl
       split at i
       ·rename_i f cs hg
        split at i
        ·rename_i s t hp
         obtain ⟨af,ht⟩:=ZmK hp
         dsimp only at af ht
         have hit:=M.iters _ af
         dsimp only at hit
         have aT:a.eval g=Value.func (.func f) #[] ⟨cs⟩:=m.ev hg
         rw [aj]
         refine wpIn_rangeFunc ?_
         intro fn aU
         obtain ⟨r,hr⟩:∃ r:Loop,r={ state:= .ready,pending:=none,fn,tmps:=a.tmps,params:=ps,assign,body,defers:=w.heap.size }:=⟨_,rfl⟩
         have ag:=i r
         clear i
         obtain ⟨W1,an⟩:∃ W1,(w.alloc (.deferred (some []))).alloc (ZlD r .ready none)=W1:=⟨_,rfl⟩
         have aV:W1.heap=(w.heap.push (.deferred (some []))).push (ZlD r .ready none):=by rw [<- an];rfl
         have aW:Same w W1:=by rw [<- an];exact ⟨rfl,rfl,rfl⟩
         rw [<- aV] at ag
         have hY:YOK c.P (ZBX r (w.heap.size+1) ps.size (fun vs h' k=>ZHm (fun a:XB tys=>(XB.evs tys a).map EV.v) vs fun a=>match ZoC c.n ⟨e.f,.no⟩ ps.toList (XB.evs tys a) with
           | some e1=>wpC { c with rnd:=some (w.heap.size+1),pan:=fun _ _=>False } assign x e1 h' (ZCc fun e2 E =>
               ZHg r (w.heap.size+1) E fun o=>wpC { c with rnd:=some (w.heap.size+1),pan:=fun _ _=>False } body y e2 o (ZCb k))
           | none=>False)):=by
           intro l vs k W hy
           obtain ⟨rfl,hlen,Y,G⟩:=hy
           obtain ⟨ta,rfl,G⟩:=G
           split at G
           ·rename_i e1 aY
            have ao:W.heap[w.heap.size+1]?=some (.loop { r with state:= .ready,pending:=none }):=Y
            have hy:=run_yield (P:=c.P) (args:=((XB.evs tys ta).map EV.v).toArray) ao (by rw [hr];simpa using hlen)
            refine ⟨fn,(ps.zip ((XB.evs tys ta).map EV.v).toArray).foldl (fun t x=>t.setIfInBounds x.1 x.2) a.tmps,assign,body,by rw [hr] at hy;exact hy,?_⟩
            have ai:Agr c.n e1 { tmps:=(ps.toList.zip ((XB.evs tys ta).map EV.v)).foldl (fun t x=>t.setIfInBounds x.1 x.2) a.tmps,defers:=[]} :=
              ZoB (e:=⟨e.f,.no⟩) (a:={ a with defers:=[]}) ⟨m.size,rfl,m.val⟩ aY
            have aD:=M.at (some (w.heap.size+1)) (fun _ _=>False)
            rw [<- Zya] at ai
            refine roundIn_of_wpIn aU ?_
            refine wpIn_mono (Zaw assign _ aD d x e1 _ W _ ai G) ?_
            intro ex a1 w1 T
            cases ex with
            | normal =>
              obtain ⟨e2,X,ad,bx,aq,aZ⟩:=T
              have aE:w1.heap[w.heap.size+1]?=some (.loop { r with state:= .ready,pending:=none }):=aq
              refine ⟨_,run_beginRound aE rfl,?_⟩
              refine wpIn_mono (Zaw body _ aD d y e2 a1 (w1.putObj (w.heap.size+1) (.loop { r with state:= .busy,pending:=none })) _ X aZ) ?_
              have Z:Same W (w1.putObj (w.heap.size+1) (.loop { r with state:= .busy,pending:=none })):=ad.trans ⟨rfl,rfl,rfl⟩
              have fin:∀ (p:Option Code) (W3:World),Same (w1.putObj (w.heap.size+1) (.loop { r with state:= .busy,pending:=none })) W3 ->
                  Zwi W3.heap (w.heap.size+1) r .busy none (k p.isNone (ZB8 W3.heap (w.heap.size+1) (ZlD r (if p.isNone then .ready else .done) p))) ->
                  ∃ v w',(Instr.endRound (w.heap.size+1) p).run c.P W3 = .ok v w'/\∃ b,Ending.returned v = .returned (.bool b)/\Same W w'/\k b w'.heap:=by
                intro p W3 S B
                have aF:W3.heap[w.heap.size+1]?=some (.loop { r with state:= .busy,pending:=none }):=B.1
                exact ⟨_,_,run_endRound p aF,p.isNone,rfl,(Z.trans S).trans ⟨rfl,rfl,rfl⟩,B.2⟩
              intro ba a3 w3 U
              cases ba with
              | normal=>obtain ⟨e3,_,S,_,B⟩:=U;exact fin none w3 S B
              | ret=>obtain ⟨e3,_,S,_,B⟩:=U;exact fin (some .ret) w3 S B
              | exit id=>obtain ⟨e3,_,S,_,B⟩:=U;exact fin (some (.exit id)) w3 S B
              | goto t=>exact U.elim
              | panic ch=>obtain ⟨_,_,_,_,B⟩:=U;exact B.elim
              | outgrown=>exact U.elim
            | ret=>obtain ⟨_,_,_,_,B⟩:=T;exact B.elim
            | exit id=>obtain ⟨_,_,_,_,B⟩:=T;exact B.elim
            | goto t=>exact T.elim
            | panic ch=>obtain ⟨_,_,_,_,B⟩:=T;exact B.elim
            | outgrown=>exact T.elim
           ·exact G.elim
         have bd:=hit _ hY
         obtain ⟨⟨fd,hf,ar,au⟩,av⟩:=bd
         have G:(#[Value.func (.yield (w.heap.size+1)) #[] #[]]:Array Value)++(⟨cs⟩:Array Value)=((XB.evs (.yl::s.caps) (w.heap.size+1,t)).map EV.v).toArray:=by
           have h5:=ZgM ht
           have h6:(cs.map EV.val).map EV.v=cs:=by simp [Function.comp_def,EV.v]
           rw [h6] at h5
           simp only [XB.evs,Awo,h5]
           simp [VT.ev,EV.v]
         refine ⟨w.heap.size+1,[{ target:= .collected w.heap.size,args:= #[]}],W1,{ target:= .fn (.func f) ⟨cs⟩,args:= #[.func (.yield (w.heap.size+1)) #[] #[]]},W1,f,
           #[.func (.yield (w.heap.size+1)) #[] #[]]++(⟨cs⟩:Array Value),W1,?_,?_,?_,?_,fun h=>(by cases h),Zh6.2 ?_⟩
         ·rw [<- an,hr]
          exact run_enterLoop_outer fn a.tmps ps assign body
         ·simp only [resolve,aT]
          simp [Deferred.ofValue,Act.eval]
         ·intro f' bB;exact trivial
         ·simp only [invoke,callFunc,Awk,run_program,Awl,hf,ar,Aqc,if_false,au,Awp]
         ·rw [G]
          refine (av (w.heap.size+1,t) (fun _ h'=>∃ st p,st≠ .busy/\Zwi h' (w.heap.size+1) r st p (ZGY p (Q .normal ⟨e.f,.at_ w.heap.size⟩ (ZB8 h' (w.heap.size+1) (ZlD r .exhausted p)))
            (fun id=>Q (.exit id) ⟨e.f,.at_ w.heap.size⟩ (ZB8 h' (w.heap.size+1) (ZlD r .exhausted p))) (Q .ret ⟨e.f,.at_ w.heap.size⟩ (ZB8 h' (w.heap.size+1) (ZlD r .exhausted p))))) (fun _ _=>False) W1 ag).mono ?_
          rintro ending w2 (⟨rr,rfl,ad,st,p,bf,Y,F⟩ | ⟨v,rfl,ad,i⟩)
          ·have ao:w2.heap[w.heap.size+1]?=some (.loop { r with state:=st,pending:=p }):=Y
           have aG:=run_endLoop (P:=c.P) ao (by exact bf)
           have Z:Same w (w2.putObj (w.heap.size+1) (ZlD r .exhausted p)):=(aW.trans ad).trans ⟨rfl,rfl,rfl⟩
           have aa:Agr c.n ⟨e.f,.at_ w.heap.size⟩ { a with defers:=[{ target:= .collected w.heap.size,args:= #[]}]++a.defers }:=⟨m.size,by rw [aS];rfl,m.val⟩
           have aw:Zaf (dstsOf (.rangeFunc g ps assign body)) a { a with defers:=[{ target:= .collected w.heap.size,args:= #[]}]++a.defers }:=⟨fun _ _=>rfl,fun h=>absurd (Axu.2 rfl) h⟩
           refine ⟨p,_,aG,?_⟩
           cases p with
           | none=>exact ⟨_,aa,Z,aw,F⟩
           | some cj =>
             cases cj with
             | exit id=>exact wpIn_exit ⟨_,aa,Z,aw,F⟩
             | ret=>exact wpIn_ret ⟨_,aa,Z,aw,F⟩
             | _=>exact F.elim
          ·exact i.elim
        ·exact i.elim
       ·exact i.elim
    ·exact i.elim
  | .scope _,c,M,d,K,e,a,w,Q,m,i=>i.elim
  | .label _,c,M,d,K,e,a,w,Q,m,i=>i.elim
  | .goto _,c,M,d,K,e,a,w,Q,m,i=>i.elim
  | .refuse _,c,M,d,K,e,a,w,Q,m,i=>i.elim
theorem Zll:∀ (args:List EV) (i:Nat) (j:Nat) (v:EV),Zj5.go args i j=some v->∃ k,j=i+k/\args[k]?=some v
  | [],i,j,v,h=>by simp [Zj5.go] at h
  | x::xs,i,j,v,h=>by
    simp only [Zj5.go] at h
    cases a:Nat.beq j i with
    | true =>
      rw [a] at h
      simp only [cond_true,Awh] at h
      exact ⟨0,Awg a,by simp [h]⟩
    | false =>
      rw [a] at h
      obtain ⟨k,c,b⟩:=Zll xs (i+1) j v h
      exact ⟨k+1,by omega,by simpa using b⟩
theorem Zkn {c:Cfg} {e:Env} {a:Act} {w:World} (g:Agr c.n e a) {f:ResultVar->Sem Value} (h:∀ t,f (.tmp t)=pure (a.tmps.getD t undef))
    (i:∀ x t,f (.cell x t)=(do loadVar t (<- asAddr (a.tmps.getD x undef)))):∀ {rs:List ResultVar} {K:List EV->Prop},ZwD c e w.heap rs K ->
    ∃ vs,(rs.mapM f).run c.P w = .ok (vs.map EV.v) w/\K vs
  | [],K,d=>⟨[],rfl,d⟩
  | .tmp t::r,K,d=>by
    simp only [ZwD] at d
    split at d
    ·rename_i v j
     obtain ⟨vs,k,d⟩:=Zkn g h i d
     refine ⟨v::vs,?_,d⟩
     have:=g.val t v j
     rw [Axa]
     simp only [h,Awk,Awp,Awl,k,Awo]
     simp [this]
    ·exact d.elim
  | .cell x t::r,K,d=>by
    simp only [ZwD] at d
    split at d
    ·rename_i b o j
     obtain ⟨v,l,d⟩:=ZuG d
     obtain ⟨vs,k,d⟩:=Zkn g h i d
     refine ⟨v::vs,?_,d⟩
     have:=g.val x _ j
     have m:(asAddr (a.tmps.getD x undef)).run c.P w = .ok ⟨b,o,none⟩ w:=by
       have:a.tmps.getD x undef = .pointer (some ⟨b,o,none⟩):=by simp [this,EV.v]
       rw [this];rfl
     rw [Axa]
     simp only [i,Awk,Awp,m,Awl,l w rfl,k,Awo]
    ·exact d.elim
def ZNn (l:List Value):Value:=match l with
  | [v]=>v
  | l=> .tuple l.toArray
theorem ZxG:∀ (vs:List EV),(ZfU vs).v=ZNn (vs.map EV.v)
  | []=>rfl
  | [_]=>rfl
  | _::_::_=>rfl
theorem Zri (l:List Value):(if h:l.toArray.size=1 then l.toArray[0] else Value.tuple l.toArray)=ZNn l:=by
  match l with
  | []=>rfl
  | [x]=>rfl
  | x::y::r =>
    have:¬ (x::y::r).toArray.size=1:=by simp
    rw [dif_neg this]
    rfl
theorem Zyb {res:List VT} {vs:List EV} {r:XB res} (h:XB.un res vs=some r):ZCd res r=ZNn (vs.map EV.v):=by
  unfold ZCd
  rw [ZxG,ZgM h]
theorem Zwl {c:Cfg} (I:c.OK) (m:c.P.follows .mixedOrders=true) {f:FuncId} {fn:Func} {y:Ann} {args:List EV} {res:List VT} {K:XB res->Zc->Prop} {q:Value->Zc->Prop} {w:World}
    (J:c.P.funcs[f]?=some fn) (L:c.n=fn.ntmps) (hlen:args.length<=fn.ntmps) (e:ZHw c fn y args res K q w.heap) :
    Calls c.P f (args.map EV.v).toArray w (Ze0 res w K q):=by
  unfold ZHw at e
  split at e
  ·rename_i code u
   refine Zh6 (r:=none) (n:=0).1 (callsIn_of_wp_marks J u trivial ?_)
   have B:Agr c.n (Zj5 args) { tmps:=(args.map EV.v).toArray++Array.replicate (fn.ntmps - (args.map EV.v).toArray.size) undef,defers:=[]}:=by
     refine ⟨by simp [L];omega,rfl,fun j v M=>?_⟩
     obtain ⟨k,e,C⟩:=Zll args 0 j v M
     have z:k<args.length:=by
       rcases Aqd k args.length with h | h
       ·exact h
       ·rw [Aqt h] at C;cases C
     simp only [Awb] at e
     subst e
     simp [z,Aya]
     have H:=Ayb z
     rw [C] at H
     exact congrArg EV.v (Option.some.inj H.symm)
   refine wpIn_mono (Zaw code _ (I.at none (bif ZEY code then fun _ _=>False else q)) m y _ _ w _ B e) ?_
   have o:∀ (b:Act) (p:World) (d:Env),Agr c.n d b->Same w p->(ZwD c d p.heap fn.results.toList fun vs=>match XB.un res vs with
       | some r=>K r p.heap
       | none=>False)->∃ v,(results fn b.tmps).run c.P p = .ok v p/\Ze0 res w K q (.returned v) p:=by
     intro b p d i g a
     obtain ⟨vs,N,e⟩:=Zkn (f:=fun
       | .tmp t=>pure (b.tmps.getD t undef)
       | .cell x t=>do loadVar t (<- asAddr (b.tmps.getD x undef))) i (fun _=>rfl) (fun _ _=>rfl) a
     split at e
     ·rename_i r E
      refine ⟨ZCd res r,?_,.inl ⟨r,rfl,g,e⟩⟩
      unfold results
      rw [Axb]
      simp only [Awk,Sem.run_map]
      have F:=N
      refine (congrArg (fun r=>(Result.andThen (Result.andThen r _) _)) F).trans ?_
      simp only [Awl,Awp]
      rw [Zyb E]
      exact congrArg (fun v=>Result.ok v p) (Zri _)
     ·exact e.elim
   have fin:∀ (b:Act) (w':World) (d:Env),Agr c.n d b->Same w w'->(match d.mD with
       | .no=>ZwD c d w'.heap fn.results.toList fun vs=>match XB.un res vs with
         | some r=>K r w'.heap
         | none=>False
       | .at_ D=>ZGx D w'.heap fun h'=>ZwD c d h' fn.results.toList fun vs=>match XB.un res vs with
         | some r=>K r h'
         | none=>False
       | .raw _=>False)->LeavesInM (fen none) 0 c.P fn b.tmps (Ze0 res w K q) b.defers .returning w':=by
     intro b w' d i g a
     rw [i.defers]
     cases hm:d.mD with
     | raw R=>rw [hm] at a;exact a.elim
     | no =>
       rw [hm] at a
       exact o b w' d i g a
     | at_ D =>
       rw [hm] at a
       obtain ⟨O,a⟩:=a
       refine ⟨by simp,.inl ⟨D,_,rfl,run_takeDeferred O,?_⟩⟩
       exact o b (w'.putObj D (.deferred none)) d i (g.trans ⟨rfl,rfl,rfl⟩) a
   intro ex b w' hp
   cases ex with
   | normal=>obtain ⟨d,i,g,A,a⟩:=hp;exact fin b w' d i g a
   | ret=>obtain ⟨d,i,g,A,a⟩:=hp;exact fin b w' d i g a
   | exit id=>obtain ⟨d,i,g,A,a⟩:=hp;exact a.elim
   | goto t=>exact hp.elim
   | outgrown=>exact hp.elim
   | panic ch =>
     obtain ⟨v,rfl,g,A,a⟩:=hp
     cases s:ZEY code with
     | true=>rw [s] at a;exact a.elim
     | false =>
       rw [s] at a
       have G:mkN∉dstsOf code:=by
         have key:∀ (l:List Nat),ZbY l mkN=false->mkN∉l:=by
           intro l
           induction l with
           | nil=>intro _ h;cases h
           | cons x xs Q =>
             intro h hm
             simp only [ZbY] at h
             cases u:Nat.beq mkN x with
             | true=>rw [u] at h;cases h
             | false =>
               rw [u] at h
               rcases Awr.1 hm with he | hm
               ·rw [<- he,Axx] at u;cases u
               ·exact Q h hm
         exact key _ s
       rw [show bodyPostM (fen none) 0 c.P fn (Ze0 res w K q) (.panic [{ v,recovered:=false }]) b w'=LeavesInM (fen none) 0 c.P fn b.tmps (Ze0 res w K q) b.defers (.panicking [{ v,recovered:=false }]) w' from rfl,A.2 G]
       exact .inr ⟨v,rfl,g,a⟩
  ·exact e.elim
inductive AllOK (P:Program):List (FuncId × Zd)->Prop
  | nil:AllOK P []
  | cons {f:FuncId} {s:Zd} {l:List (FuncId × Zd)} (h:Zk P f s) (r:AllOK P l):AllOK P ((f,s)::l)
theorem Zpn {P:Program}:∀ {l:List (FuncId × Zd)},AllOK P l->∀ x,x∈l->Zk P x.1 x.2
  | [],_,x,h=>by cases h
  | _::_,.cons a b,x,h=>by
    cases h with
    | head=>exact a
    | tail _ h=>exact Zpn b x h
inductive AllExt (P:Program):List FuncId->Prop
  | nil:AllExt P []
  | cons {f:FuncId} {l:List FuncId} (h:ZFy P f) (r:AllExt P l):AllExt P (f::l)
theorem Zpo {P:Program}:∀ {l:List FuncId},AllExt P l->∀ f,f∈l->ZFy P f
  | [],_,x,h=>by cases h
  | _::_,.cons a b,x,h=>by
    cases h with
    | head=>exact a
    | tail _ h=>exact Zpo b x h
inductive AllDyn (P:Program):List (String × TypeId × FuncId)->Prop
  | nil:AllDyn P []
  | cons {n:String} {t:TypeId} {f:FuncId} {l:List (String × TypeId × FuncId)} (h:Zvo P n t f) (r:AllDyn P l):AllDyn P ((n,t,f)::l)
theorem Zpp {P:Program}:∀ {l:List (String × TypeId × FuncId)},AllDyn P l->∀ x,x∈l->Zvo P x.1 x.2.1 x.2.2
  | [],_,x,h=>by cases h
  | _::_,.cons a b,x,h=>by
    cases h with
    | head=>exact a
    | tail _ h=>exact Zpp b x h
inductive AllIter (P:Program):List (FuncId × ZdH)->Prop
  | nil:AllIter P []
  | cons {f:FuncId} {s:ZdH} {l:List (FuncId × ZdH)} (h:ZzY P f s) (r:AllIter P l):AllIter P ((f,s)::l)
theorem ZnH {P:Program}:∀ {l:List (FuncId × ZdH)},AllIter P l->∀ x,x∈l->ZzY P x.1 x.2
  | [],_,x,h=>by cases h
  | _::_,.cons a b,x,h=>by
    cases h with
    | head=>exact a
    | tail _ h=>exact ZnH b x h
theorem Zs (c:Cfg) (h:AllOK c.P c.calls) (h':AllExt c.P c.ext) (a:AllDyn c.P c.dyn) (b:AllIter c.P c.iters) (d:YOK c.P c.yld):c.OK:=⟨Zpn h,Zpo h',Zpp a,ZnH b,d⟩
theorem ZNv {c:Cfg} {f:FuncId} {fn:Func} {e:Ann} {s:Zd} (i:c.P.funcs[f]?=some fn) (b:(fn.name == "runtime.NumGoroutine")=false) (d:fn.body.isNone=false)
    (j:c.n=fn.ntmps) (hlen:s.args.length<=fn.ntmps) (k:c.OK) (a:c.P.follows .mixedOrders=true)
    (l:∀ (t:XB s.args) (K:XB s.res->Zc->Prop) (g:Value->Zc->Prop) (h:Zc),ZHw c fn e (XB.evs s.args t) s.res K g h=s.sem t K g h):Zk c.P f s where
  named:=⟨fn,i,b,d⟩
  calls t K g w m:=by
    have o:(XB.evs s.args t).length<=fn.ntmps:=by
      have:∀ (vs:List VT) (x:XB vs),(XB.evs vs x).length=vs.length:=by
        intro vs
        induction vs with
        | nil=>intro x;rfl
        | cons v vs p=>intro x;simp only [XB.evs,Aqj,p]
      rw [this]
      exact hlen
    exact Zwl k a i j o (by rw [l];exact m)
def ZI (c:Cfg) (fn:Func) (a:Ann) (s:Zd):Prop:=∀ (t:XB s.args) (K:XB s.res->Zc->Prop) (b:Value->Zc->Prop) (h:Zc),ZHw c fn a (XB.evs s.args t) s.res K b h=s.sem t K b h
theorem okF {c:Cfg} {f:FuncId} {fn:Func} {d:Ann} {s:Zd} (e:ZI c fn d s) (g:c.P.funcs[f]?=some fn) (hm:c.P.follows .mixedOrders=true) (h:c.OK)
    (a:(fn.name == "runtime.NumGoroutine")=false:=by kernel_rfl) (b:fn.body.isNone=false:=by kernel_rfl) (i:c.n=fn.ntmps:=by rfl) (hlen:s.args.length<=fn.ntmps:=by decide):Zk c.P f s :=
  ZNv g a b i hlen h hm e
theorem ZmN {P:Program} {f:FuncId} {fn:Func} {s:Zd} (d:P.funcs[f]?=some fn) (a:(fn.name == "runtime.NumGoroutine")=false) (b:fn.body.isNone=false) (e:∀ t K c h,¬ s.sem t K c h):Zk P f s where
  named:=⟨fn,d,a,b⟩
  calls t K c w g:=(e _ _ _ _ g).elim
theorem Zyr {P:Program} {f:FuncId} {A R:List VT} {M:Nat->XB A->(XB R->Zc->Prop)->(Value->Zc->Prop)->Zc->Prop} (h:∀ n,Zk P f ⟨A,R,M n⟩):Zk P f ⟨A,R,fun t K a h=>∃ n,M n t K a h⟩ where
  named:=(h 0).named
  calls t K a w b:=let ⟨n,c⟩:=b;(h n).calls t K a w c
end Go.Fw
