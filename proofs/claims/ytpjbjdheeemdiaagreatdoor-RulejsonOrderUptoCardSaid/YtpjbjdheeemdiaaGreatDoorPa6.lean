/- Why a reading is right: regions. -/
import Derived.Sort.LoopGhostIn
import Derived.Test.YtpjbjdheeemdiaaGreatDoorPa5
set_option linter.unusedVariables false
set_option linter.unusedSimpArgs false
namespace Go.Fw
open Go
structure X4 (D:List Nat) (a a':Act):Prop where
  tmps:∀ j,j∉D->a'.tmps[j]?=a.tmps[j]?
  marks:mkN∉D->a'.defers=a.defers
theorem X4.refl (D:List Nat) (a:Act):X4 D a a:=⟨fun _ _=>rfl,fun _=>rfl⟩
theorem X4.trans {D:List Nat} {a b d:Act} (h:X4 D a b) (h':X4 D b d):X4 D a d:=⟨fun j hj=>(h'.1 j hj).trans (h.1 j hj),fun hj=>(h'.2 hj).trans (h.2 hj)⟩
theorem X4.mono {D D':List Nat} {a b:Act} (h:X4 D a b) (hs:∀ j,j∈D->j∈D'):X4 D' a b:=⟨fun j hj=>h.1 j fun hj'=>hj (hs j hj'),fun hj=>h.2 fun hj'=>hj (hs _ hj')⟩
theorem put_defers (a:Act) (d:Option Tmp) (v:Value):(a.put d v).defers=a.defers:=by cases d<;>rfl
theorem X4.put {D:List Nat} {a:Act} {d:Option Tmp} {v:Value} (h:∀ x,d=some x->x∈D):X4 D a (a.put d v):=by
  refine ⟨?_,fun _=>put_defers a d v⟩
  intro j hj
  cases d with
  | none=>rfl
  | some x =>
    have hne:x≠j:=fun he=>hj (he▸h x rfl)
    simp [Act.put,Awj hne]
theorem Zmv {ops:Array Oper} {a:Act} {j t:Nat} (h:XE ops.toList j=some t):yielded ops a.tmps j=match a.tmps[t]? with | some (.bool b)=>some b | _=>none:=by
  unfold XE at h
  unfold yielded
  rw [show ops.toList[j]?=ops[j]? from by simp] at h
  rw [h]
  rfl
theorem Zj8 {ops:Array Oper} {a:Act} {j:Nat} (h:XE ops.toList j=none):yielded ops a.tmps j=none:=by
  unfold XE at h
  unfold yielded
  rw [show ops.toList[j]?=ops[j]? from by simp] at h
  rw [h]
  rfl
inductive Step (c:Cfg) (one:Oper->Env->Zc->(Env->Zc->Prop)->Prop) (ops:Array Oper) (o:Oper) (a:Act) (h:Zc) (K:Env->Zc->Prop):Prop
  | does (e:Env) (ha:Agr c.n e a) (hw:Region.wanted o (yielded ops a.tmps)=true) (hk:one o e h K)
  | skips (e:Env) (ha:Agr c.n e a) (hw:Region.wanted o (yielded ops a.tmps)=false) (hk:ZmL c o e h K)
theorem Zle {c:Cfg} {one:Oper->Env->Zc->(Env->Zc->Prop)->Prop} {ops:Array Oper} {o:Oper} {os:List Oper} {e:Env} {a:Act} {h:Zc} {K:Env->Zc->Prop}
    (hag:Agr c.n e a) (hk:ZeR c one ops.toList (o::os) e h K):Step c one ops o a h (fun e' h'=>ZeR c one ops.toList os e' h' K):=by
  unfold ZeR at hk
  split at hk
  ·rename_i hg
   exact .does e hag (by simp [Region.wanted,hg]) hk
  ·rename_i j want hg
   split at hk
   ·rename_i hs
    exact .skips e hag (by simp [Region.wanted,hg,Zj8 hs]) hk
   ·rename_i t hs
    have hy:=Zmv (a:=a) hs
    split at hk
    ·rename_i b ht
     have ht':a.tmps[t]?=some (.bool b):=hag.val t _ ht
     rw [ht'] at hy
     split at hk
     ·exact .does e hag (by simp [Region.wanted,hg,hy]) hk
     ·exact .does e hag (by simp [Region.wanted,hg,hy]) hk
     ·exact .skips e hag (by simp [Region.wanted,hg,hy]) hk
     ·exact .skips e hag (by simp [Region.wanted,hg,hy]) hk
    ·rename_i b ht
     have ht':a.tmps[t]?=some (.bool b):=hag.val t _ ht
     rw [ht'] at hy
     split at hk
     ·cases b with
      | true=>exact .does _ (hag.tell ht) (by simp [Region.wanted,hg,hy]) (hk.1 rfl)
      | false=>exact .skips _ (hag.tell ht) (by simp [Region.wanted,hg,hy]) (hk.2 rfl)
     ·cases b with
      | true=>exact .skips _ (hag.tell ht) (by simp [Region.wanted,hg,hy]) (hk.1 rfl)
      | false=>exact .does _ (hag.tell ht) (by simp [Region.wanted,hg,hy]) (hk.2 rfl)
    ·rename_i v hv1 hv2 ht
     have ht':a.tmps[t]?=some v.v:=hag.val t _ ht
     refine .skips e hag ?_ hk
     have:yielded ops a.tmps j=none:=by
       rw [hy,ht']
       cases v with
       | val u=>cases u<;>first | rfl | exact absurd rfl (hv2 _)
       | lit b=>exact absurd rfl (hv1 b)
       | adr b o=>rfl
       | itr t b=>rfl
       | more k v=>rfl
       | over=>rfl
     simp [Region.wanted,hg,this]
    ·exact hk.elim
theorem ZeY {ops:Array Oper} {k:Nat} {o:Oper} {x:Nat} (ho:ops[k]?=some o) (hx:o.dst=some x):x∈ops.toList.filterMap (·.dst):=by
  refine List.mem_filterMap.2 ⟨o,?_,hx⟩
  exact Axq (i:=k) (by simpa using ho)
theorem Zld {c:Cfg} (hc:c.OK) {ops:Array Oper} {Q:Exit->Act->World->Prop}:∀ (l:List Oper) (k:Nat),(∀ j,l[j]?=ops[k+j]?) ->
    ∀ {e:Env} {a:Act} {w:World} {K:Env->Zc->Prop},Agr c.n e a->ZeR c (ZE3 c) ops.toList l e w.heap K ->
    (∀ e' a' w',Agr c.n e' a'->Same w w'->X4 (ops.toList.filterMap (·.dst)) a a'->K e' w'.heap->Q .normal a' w') ->
    (∀ v a' w',Same w w'->X4 (ops.toList.filterMap (·.dst)) a a'->c.pan v w'.heap->Q (.panic [{ v,recovered:=false }]) a' w')->wpOpsIn (fen c.rnd) 0 c.P ops Q (List.range' k l.length) a w
  | [],k,hl,e,a,w,K,hag,hk,hQ,_=>hQ e a w hag (Same.refl w) (X4.refl _ a) hk
  | o::os,k,hl,e,a,w,K,hag,hk,hQ,hP=>by
    have ho:ops[k]?=some o:=by have:=hl 0;simpa using this.symm
    have hl':∀ j,os[j]?=ops[k+1+j]?:=fun j=>by have:=hl (j+1);rw [show k+1+j=k+(j+1) from by omega,<- this];rfl
    have hput:∀ v,X4 (ops.toList.filterMap (·.dst)) a (a.put o.dst v):=fun v=>X4.put fun x hx=>ZeY ho hx
    simp only [Aqj,List.range'_succ,wpOpsIn,ho]
    cases Zle hag hk with
    | does e hag hw hk =>
      rw [if_pos hw]
      refine ZE2 hc hag (fun v w' hs hp=>hP v a w' hs (X4.refl _ a) hp) hk fun v w' hs hk=>?_
      obtain ⟨e',hag',hk⟩:=Zdc hag hk
      exact Zld hc os (k+1) hl' hag' hk (fun e'' a'' w'' h1 h2 h3 h4=>hQ e'' a'' w'' h1 (hs.trans h2) ((hput _).trans h3) h4)
        (fun v a'' w'' h2 h3 h4=>hP v a'' w'' (hs.trans h2) ((hput _).trans h3) h4)
    | skips e hag hw hk =>
      rw [if_neg (by simp [hw])]
      obtain ⟨e',hag',hk⟩:=Zdc hag hk
      exact ⟨fun _ _=>trivial,Zld hc os (k+1) hl' hag' hk (fun e'' a'' w'' h1 h2 h3 h4=>hQ e'' a'' w'' h1 h2 ((hput _).trans h3) h4)
        (fun v a'' w'' h2 h3 h4=>hP v a'' w'' h2 ((hput _).trans h3) h4)⟩
def Cls (w0:World) (h:Zc) (w:World):Prop:=Same w0 w/\w.heap=h
theorem ZtK {c:Cfg} {o:Oper} {a:Act} {w0:World} {h:Zc} {v:EV} (hr:∀ w:World,w.heap=h->(execOp a.eval o).run c.P w = .ok (.value v.v) w) :
    ∀ w,Cls w0 h w->o.quietAtIn (fen none) 0 c.P a (Cls w0 h) w v.v:=by
  intro w hw
  unfold Oper.quietAtIn
  rw [hr w hw.2]
  exact ⟨rfl,rfl⟩
theorem Zad {c:Cfg} {o:Oper} {a:Act} {w0:World} {h:Zc} {K:EV->Zc->Prop} {next:Act->Prop} (hq:ZrP c o a h K) (hn:∀ v,K v h->next (a.put o.dst v.v)) :
    o.quietIn (fen none) 0 c.P a (Cls w0 h) next :=
  let ⟨v,hr,hk⟩:=hq
  ⟨v.v,ZtK hr,hn v hk⟩
theorem ZpE {c:Cfg} (hc:c.OK) {e:Env} {a:Act} {w0:World} {h:Zc} {o:Oper} {K:EV->Zc->Prop} {next:Act->Prop} (hag:Agr c.n e a) (hk:Zsm c o.op e h K)
    (hn:∀ v,K v h->next (a.put o.dst v.v)):o.quietIn (fen none) 0 c.P a (Cls w0 h) next:=by
  obtain ⟨dst,op,type,pos,after,guard⟩:=o
  cases op
  case move=>exact Zad (ZnL hag hk).q hn
  case assign=>exact Zad (ZjE hag hk).q hn
  case pick=>exact Zad (ZnK hag hk).q hn
  case load=>exact Zad (ZnN hag hk) hn
  case nilCheck=>exact Zad (Zho hag hk).q hn
  case binOp=>exact Zad (ZkW hag hk).q hn
  case unOp=>exact Zad (ZnJ hag hk).q hn
  case slice=>exact Zad (ZkS hag hk).q hn
  case fieldAddr=>exact Zad (ZgB hag hk).q hn
  case field=>exact Zad (ZkU hag hk).q hn
  case indexAddr=>exact Zad (ZgA hag hk).q hn
  case index=>exact Zad (ZkT hag hk).q hn
  case extract=>exact Zad (Zis hag hk).q hn
  case build=>exact Zad (ZkV hag hk).q hn
  case makeFunc=>exact Zad (Zhp hag hk).q hn
  case convert s d x =>
    simp only [Zsm] at hk
    split at hk
    ·rename_i j k hs hd
     exact Zad (Zhq hag hs hd hk).q hn
    ·exact hk.elim
  case call cl =>
    unfold Zsm at hk
    split at hk<;>first
      | exact hk.elim
      | (rename_i ho;cases ho)
    ·exact Zad (Zwd hag hk) hn
    ·exact Zad (YR hag (.inr (.inl rfl)) hk).q hn
    ·exact Zad (YR hag (.inr (.inr (.inl rfl))) hk).q hn
    ·exact Zad (YR hag (.inr (.inr (.inr rfl))) hk).q hn
    ·rename_i f args ts
     split at hk
     ·rename_i es he
      split at hk
      ·rename_i s t hp
       obtain ⟨hmem,ht⟩:=ZhA hp
       dsimp only at hmem ht
       obtain ⟨r,hm,hk⟩:=hk
       refine ⟨(Zfg (Xw.evs s.res r)).v,fun w hw=>?_,hn _ hk⟩
       have hargs:=ZcU hag he
       obtain ⟨⟨fn,hf,hname,hbody⟩,hcall⟩:=hc.calls _ hmem
       have henter:(execOp a.eval ⟨dst,.call ⟨.value (.func f),args,ts⟩,type,pos,after,guard⟩).run c.P w = .ok (.enter f (args.map a.eval)) w:=by
         simp only [execOp,resolve,Act.eval,Deferred.ofValue,Awk,Awp,Awl,invoke,callFunc,run_program,hf,hname,Aqc,if_false,hbody]
         simp
       unfold Oper.quietAtIn
       rw [henter]
       refine ⟨rfl,fun h=>(by cases h),Zg3.2 ?_⟩
       rw [hargs,<- ZfR ht]
       refine (hcall t (fun r' h'=>r'=r/\h'=h) (fun _ _=>False) w (by rw [hw.2];exact hm)).mono ?_
       rintro ending w' (⟨r',rfl,hsame,rfl,hh⟩ | ⟨v,rfl,hsame,hk⟩)
       ·exact ⟨rfl,hw.1.trans hsame,hh⟩
       ·exact hk.elim
      ·exact hk.elim
     ·exact hk.elim
  all_goals exact hk.elim
theorem Zod {c:Cfg} (hc:c.OK) {ops:Array Oper} {w0:World} {Q:Act->Prop} {h:Zc}:∀ (l:List Oper) (k:Nat),(∀ j,l[j]?=ops[k+j]?) ->
    ∀ {e:Env} {a:Act} {K:Env->Zc->Prop},Agr c.n e a->ZeR c (ZwP c) ops.toList l e h K ->
    (∀ e' a',Agr c.n e' a'->X4 (ops.toList.filterMap (·.dst)) a a'->K e' h->Q a')->wpQuietIn (fen none) 0 c.P ops (Cls w0 h) Q l a
  | [],k,hl,e,a,K,hag,hk,hQ=>hQ e a hag (X4.refl _ a) hk
  | o::os,k,hl,e,a,K,hag,hk,hQ=>by
    have ho:ops[k]?=some o:=by have:=hl 0;simpa using this.symm
    have hl':∀ j,os[j]?=ops[k+1+j]?:=fun j=>by have:=hl (j+1);rw [show k+1+j=k+(j+1) from by omega,<- this];rfl
    have hput:∀ v,X4 (ops.toList.filterMap (·.dst)) a (a.put o.dst v):=fun v=>X4.put fun x hx=>ZeY ho hx
    unfold wpQuietIn
    refine ⟨fun _ _ _ _=>trivial,?_⟩
    cases Zle hag hk with
    | does e hag hw hk =>
      rw [if_pos hw]
      refine ZpE hc hag hk fun v hk=>?_
      obtain ⟨e',hag',hk⟩:=Zdc hag hk
      exact Zod hc os (k+1) hl' hag' hk fun e'' a'' h1 h3 h4=>hQ e'' a'' h1 ((hput _).trans h3) h4
    | skips e hag hw hk =>
      rw [if_neg (by simp [hw])]
      obtain ⟨e',hag',hk⟩:=Zdc hag hk
      exact Zod hc os (k+1) hl' hag' hk fun e'' a'' h1 h3 h4=>hQ e'' a'' h1 ((hput _).trans h3) h4
def ZeD (c:Cfg) (D:List Nat) (a:Act) (w:World) (Q:Ex->Env->Zc->Prop):Exit->Act->World->Prop
  | .normal,a',w'=>∃ e',Agr c.n e' a'/\Same w w'/\X4 D a a'/\Q .normal e' w'.heap
  | .exit id,a',w'=>∃ e',Agr c.n e' a'/\Same w w'/\X4 D a a'/\Q (.exit id) e' w'.heap
  | .ret,a',w'=>∃ e',Agr c.n e' a'/\Same w w'/\X4 D a a'/\Q .ret e' w'.heap
  | .panic chain,a',w'=>∃ v,chain=[{ v,recovered:=false }]/\Same w w'/\X4 D a a'/\c.pan v w'.heap
  | _,_,_=>False
theorem ZeD.mono {c:Cfg} {D D':List Nat} {a a1:Act} {w w1:World} {Q Q':Ex->Env->Zc->Prop} (hs:Same w w1) (hk:X4 D' a a1) (hd:∀ j,j∈D->j∈D') (hq:∀ x e h,Q x e h->Q' x e h) :
    ∀ x a' w',ZeD c D a1 w1 Q x a' w'->ZeD c D' a w Q' x a' w':=by
  intro x a' w' h
  cases x<;>first
    | exact h.elim
    | (obtain ⟨e',h1,h2,h3,h4⟩:=h
       exact ⟨e',h1,hs.trans h2,hk.trans (h3.mono hd),hq _ _ _ h4⟩)
    | (obtain ⟨v,h1,h2,h3,h4⟩:=h
       exact ⟨v,h1,hs.trans h2,hk.trans (h3.mono hd),h4⟩)
theorem Zlk {c:Cfg} {D:List Nat} {a:Act} {w:World} {Q:Ex->Env->Zc->Prop} {ch:List PanicEntry} {a':Act} {d:Option Tmp} {v:Value} {w':World} (hd:∀ x,d=some x->x∈D) (h:ZeD c D a w Q (.panic ch) (a'.put d v) w'):ZeD c D a w Q (.panic ch) a' w':=by
  obtain ⟨v',h1,h2,h3,h4⟩:=h
  have hp:X4 D a' (a'.put d v):=X4.put hd
  exact ⟨v',h1,h2,⟨fun j hj=>(hp.1 j hj).symm.trans (h3.1 j hj),fun hj=>(hp.2 hj).symm.trans (h3.2 hj)⟩,h4⟩
theorem ZgO {c:Cfg} {ops:Array Oper} {o:Oper} {e:Env} {a:Act} {A B:Env->Prop} (hag:Agr c.n e a) (hk:ZlG ops.toList o e A B) :
    (∃ e',Agr c.n e' a/\Region.wanted o (yielded ops a.tmps)=true/\A e')\/(∃ e',Agr c.n e' a/\Region.wanted o (yielded ops a.tmps)=false/\B e'):=by
  unfold ZlG at hk
  split at hk
  ·rename_i hg
   exact .inl ⟨e,hag,by simp [Region.wanted,hg],hk⟩
  ·rename_i j want hg
   split at hk
   ·rename_i hs
    exact .inr ⟨e,hag,by simp [Region.wanted,hg,Zj8 hs],hk⟩
   ·rename_i t hs
    have hy:=Zmv (a:=a) hs
    split at hk
    ·rename_i b ht
     have ht':a.tmps[t]?=some (.bool b):=hag.val t _ ht
     rw [ht'] at hy
     split at hk
     ·exact .inl ⟨e,hag,by simp [Region.wanted,hg,hy],hk⟩
     ·exact .inl ⟨e,hag,by simp [Region.wanted,hg,hy],hk⟩
     ·exact .inr ⟨e,hag,by simp [Region.wanted,hg,hy],hk⟩
     ·exact .inr ⟨e,hag,by simp [Region.wanted,hg,hy],hk⟩
    ·rename_i b ht
     have ht':a.tmps[t]?=some (.bool b):=hag.val t _ ht
     rw [ht'] at hy
     split at hk
     ·cases b with
      | true=>exact .inl ⟨_,hag.tell ht,by simp [Region.wanted,hg,hy],hk.1 rfl⟩
      | false=>exact .inr ⟨_,hag.tell ht,by simp [Region.wanted,hg,hy],hk.2 rfl⟩
     ·cases b with
      | true=>exact .inr ⟨_,hag.tell ht,by simp [Region.wanted,hg,hy],hk.1 rfl⟩
      | false=>exact .inl ⟨_,hag.tell ht,by simp [Region.wanted,hg,hy],hk.2 rfl⟩
    ·rename_i v hv1 hv2 ht
     have ht':a.tmps[t]?=some v.v:=hag.val t _ ht
     refine .inr ⟨e,hag,?_,hk⟩
     have:yielded ops a.tmps j=none:=by
       rw [hy,ht']
       cases v with
       | val u=>cases u<;>first | rfl | exact absurd rfl (hv2 _)
       | lit b=>exact absurd rfl (hv1 b)
       | adr b o=>rfl
       | itr t b=>rfl
       | more k v=>rfl
       | over=>rfl
     simp [Region.wanted,hg,this]
    ·exact hk.elim
theorem Zzo {c:Cfg} {e:Env} {a:Act} {h:Zc} {o:Oper} {K:EV->Zc->Prop} (hag:Agr c.n e a) (hkd:ZeT c o.op = .pure) (hk:opP c o.op e h K):Zd1 c o a h K:=by
  obtain ⟨dst,op,type,pos,after,guard⟩:=o
  cases op
  case move=>exact ZnL hag hk
  case assign=>exact ZjE hag hk
  case pick=>exact ZnK hag hk
  case nilCheck=>exact Zho hag hk
  case binOp=>exact ZkW hag hk
  case unOp=>exact ZnJ hag hk
  case slice=>exact ZkS hag hk
  case fieldAddr=>exact ZgB hag hk
  case field=>exact ZkU hag hk
  case indexAddr=>exact ZgA hag hk
  case index=>exact ZkT hag hk
  case extract=>exact Zis hag hk
  case build=>exact ZkV hag hk
  case makeFunc=>exact Zhp hag hk
  case convert s d x =>
    simp only [ZeT] at hkd
    split at hkd
    ·rename_i j k hs hd
     exact Zhq hag hs hd hk
    ·split at hkd<;>cases hkd
    ·cases hkd
  case call cl =>
    obtain ⟨cal,args,ts⟩:=cl
    cases cal with
    | builtin b =>
      cases b<;>first
        | (simp only [ZeT] at hkd;done)
        | (cases hm:Zil c.P ts with
            | true=>simp [ZeT,hm] at hkd
            | false=>exact YR hag (.inl ⟨rfl,hm⟩) hk)
        | exact YR hag (.inr (.inl rfl)) hk
        | exact YR hag (.inr (.inr (.inl rfl))) hk
        | exact YR hag (.inr (.inr (.inr rfl))) hk
        | (simp [ZeT] at hkd)
    | _=>simp [ZeT] at hkd
  all_goals simp [ZeT] at hkd
theorem Zxm {c:Cfg} {op:Op} {t:TypeId} {x:Operand} (h:ZeT c op = .load t x):op = .load t x:=by
  cases op<;>simp [ZeT] at h
  case load=>rw [h.1,h.2]
  case convert=>repeat' (first | (cases h;done) | split at h)
  case call cl =>
    obtain ⟨cal,args,ts⟩:=cl
    cases cal with
    | builtin b=>cases b<;>simp at h<;>(cases hm:Zil c.P ts<;>simp [hm] at h)
    | _=>simp at h
def Znc (h:Zc) (l:List (Nat × Nat × Value)):Prop:=∀ q,q∈l->h.cell q.1 q.2.1=some q.2.2
theorem ZlF {h:Zc} {b o:Nat}:∀ {vs:List Value} {i:Nat},Znc h (Zqr b o i vs)↔h.has b (o+i) vs
  | [],i=>⟨fun _=>trivial,fun _ q hq=>(by simp [Zqr] at hq)⟩
  | v::vs,i=>by
    have ih:=ZlF (h:=h) (b:=b) (o:=o) (vs:=vs) (i:=i+1)
    unfold Znc at ih ⊢
    simp only [Zqr,Axs,ZrL,ih]
    rfl
theorem ZzC {P:Program} {t:TypeId} {b o:Nat} {K:EV->List (Nat × Nat × Value)->Prop} {h:Zc} (hk:ldH P t h b o K) :
    ∃ v cells,Znc h cells/\(∀ w:World,Znc w.heap cells->(loadVar t ⟨b,o,none⟩).run P w = .ok v.v w)/\K v cells:=by
  unfold ldH at hk
  cases hu:P.underlying t with
  | none=>rw [hu] at hk;simp [ZbV,Zlx] at hk
  | some d =>
    obtain ⟨i,hi⟩:=ZaZ P hu
    rw [hu] at hk
    unfold loadVar
    cases ha:ZbV (some d) with
    | true =>
      rw [ha] at hk
      simp only [cond_true] at hk
      cases hl:Nat.beq (ZeZ P 8 t).length (P.cellsOf t) with
      | false=>rw [hl] at hk;exact hk.elim
      | true =>
        rw [hl] at hk
        obtain ⟨vs,hlen,hh,hk⟩:=ZjY hk
        have hs:i.size=vs.length:=by rw [hlen,Awg hl,ZbW P hi]
        refine ⟨.val (.agg vs.toArray),_,ZlF.2 hh,fun w hw=>?_,hk⟩
        have hw:=ZlF.1 hw
        simp only [Awk,Zep P w t hu,ha,Awl,if_true,XM P w t hi,hs]
        rw [ZdC P w b o vs (by simpa using hw)]
        rfl
    | false =>
      rw [ha] at hk
      simp only [cond_false] at hk
      obtain ⟨v,hc,hk,_⟩:=ZiF hk
      refine ⟨v,_,?_,fun w hw=>?_,hk⟩
      ·intro q hq
       simp only [Axu] at hq
       subst hq
       exact hc
      have hw:Zc.cell w.heap b o=some v.v:=hw _ (.head _)
      simp only [Awk,Zep P w t hu,ha,Awl,Aqc,if_false]
      exact ZgG P w hw _
theorem Zws {c:Cfg} {op:Op} {x:Operand} (h:ZeT c op = .text x):∃ s d e,op = .convert s d x/\c.P.underlying s=some (.slice e)/\c.P.underlying d=some .string/\c.P.underlying e=some (.int .u8):=by
  cases op<;>simp [ZeT] at h
  case convert s d y =>
    split at h
    ·cases h
    ·rename_i e hs hd
     split at h
     ·rename_i he
      cases h
      exact ⟨s,d,e,rfl,hs,hd,he⟩
     ·cases h
    ·cases h
  case call cl =>
    obtain ⟨cal,args,ts⟩:=cl
    cases cal with
    | builtin b=>cases b<;>simp at h<;>(cases hm:Zil c.P ts<;>simp [hm] at h)
    | _=>simp at h
theorem ZjZ {h:Zc}:∀ {l:List (Nat × Nat × Value)},Z9 h l↔Znc h l
  | []=>⟨fun _ q hq=>(by cases hq),fun _=>trivial⟩
  | (b,o,v)::r=>by
    have ih:=ZjZ (h:=h) (l:=r)
    unfold Znc at ih ⊢
    simp only [Z9,Axs,ih]
def Zdr (hd:ZfC):Zjy:=hd.map fun x=>(x.1,fun w=>x.2 w.heap)
theorem Zh6 {w:World} {K:Prop}:∀ {hd:ZfC},ZpZ w.heap hd K->(Zdr hd).all w/\K
  | [],hk=>⟨fun q hq=>(by cases hq),hk⟩
  | x::r,hk=>by
    obtain ⟨h1,hk⟩:=hk
    obtain ⟨h2,hk⟩:=Zh6 (hd:=r) hk
    refine ⟨fun q hq=>?_,hk⟩
    rcases Awr.1 hq with rfl | hq
    ·exact h1
    ·exact h2 q hq
def nxt (ops:Array Oper) (L:Zjy) (j:Nat):Zjy :=
  match ops[j]? with
  | some o=>L.filter fun p=> !Zff p.1 o.after.toList
  | none=>L
theorem ZdF (ops:Array Oper):Next ops (nxt ops) where
  mem L j p hp:=by
    unfold nxt at hp
    split at hp
    ·exact (Axv.1 hp).1
    ·exact hp
  keep L j p hp hw:=by
    unfold nxt
    split
    ·rename_i o ho
     refine Axv.2 ⟨hp,?_⟩
     cases hb:Zff p.1 o.after.toList with
     | false=>rfl
     | true =>
       obtain ⟨e,he,h1,h2⟩:=ZhW.1 hb
       exact absurd ⟨o,ho,e,by simpa using he,h1,h2⟩ hw
    ·exact hp
  same L L' j p hp hl:=by
    unfold nxt at hp ⊢
    split at hp
    ·rename_i o ho
     exact Axv.2 ⟨hl,(Axv.1 hp).2⟩
    ·exact hl
theorem Zss {ops:Array Oper} {j:Nat} {o:Oper} (ho:ops[j]?=some o) (hd:ZfC):nxt ops (Zdr hd) j=Zdr (Zqf o hd):=by
  unfold nxt
  rw [ho]
  simp only
  induction hd with
  | nil=>rfl
  | cons x r ih =>
    have e:Zdr (x::r)=(x.1,fun w:World=>x.2 w.heap)::Zdr r:=rfl
    rw [e,List.filter_cons]
    simp only [Zqf]
    cases hb:Zff x.1 o.after.toList with
    | true=>simp only [Bool.not_true,Aqc,if_false,cond_true];exact ih
    | false=>simp only [Axl,if_true,cond_false];rw [ih];rfl
theorem ZtR {ops:Array Oper} {m:Nat} {listed:Array Bool} (hr:Rel ops m listed) (h:Zxc m 0 ops.toList=true):Region.ready .any ops listed=[]:=by
  have key:∀ (os:List Oper) (k:Nat),Zxc m k os=true->∀ j o,os[j]?=some o->Zca m (k+j) o=false:=by
    intro os
    induction os with
    | nil=>intro k _ j o ho;simp at ho
    | cons x os ih =>
      intro k h j o ho
      simp only [Zxc] at h
      cases hx:Zca m k x with
      | true=>rw [hx] at h;cases h
      | false =>
        rw [hx] at h
        cases j with
        | zero=>simp at ho;subst ho;exact hx
        | succ j =>
          have:=ih (k+1) h j o (by simpa using ho)
          rw [show k+(j+1)=k+1+j from by omega]
          exact this
  apply List.eq_nil_iff_forall_not_mem.2
  intro j hj
  obtain ⟨o,ho,hb⟩:=hr.ready.1 hj
  have:=key _ 0 h j o (by simpa using ho)
  rw [Awb,hb] at this
  cases this
section
variable {rn:Option Nat} {P:Program} {ops:Array Oper} {Q:Exit->Act->World->Prop} {i m:Nat} {o:Oper} {listed:Array Bool} {a:Act} {w:World} {L:Zjy} {fuel:Nat} {v:Value} {S:World->Prop}
theorem Zh4 (ho:ops[i]?=some o):i<ops.size:=by
  rcases Aqd i ops.size with h | h
  ·exact h
  ·rw [Aqe h] at ho;cases ho
theorem ZwX (hr:Rel ops m listed) (h:Zjf m i 0 ops.toList=true):∀ j,j∈Region.ready .any ops listed->j=i:=by
  intro j hj
  obtain ⟨o',ho',hb⟩:=hr.ready.1 hj
  have:=ZjS h j o' (by simpa using ho') (by rw [Awb];exact hb)
  rw [Awb] at this
  exact this
theorem ZDt (hr:Rel ops m listed) (h:Zmm ops o m i 0 ops.toList=true) :
    ∀ j oj,ops[j]?=some oj->j≠i->listed.getD j true=false->(∀ e∈oj.after,Region.binds .any e=true->e.on≠i)->o.apart ops oj=true:=by
  intro j oj hj hne hl hno
  have hlt:=Zh4 hj
  refine Znf h j oj (by simpa using hj) (by rw [Awb];exact hne) ?_ hno
  rw [Awb,<- hr.bit' hlt]
  exact hl
theorem Zsb (hnd:Zfl ops) (ho:ops[i]?=some o) (hsel:Region.noSelect ops=true) (hQ:∀ c a v w,Q (.panic c) (a.put o.dst v) w->Q (.panic c) a w) (hr:Rel ops m listed) (hm:Zca m i o=true) (hf:Zmm ops o m i 0 ops.toList=true)
    (hy:YieldsIf P ops S o v a) (hS:S w) (hall:Zjy.all L w) (h:wpK rn P ops Q (nxt ops) ((i,S)::L) fuel (listed.setIfInBounds i true) (a.put o.dst v) w) :
    wpK rn P ops Q (nxt ops) L (fuel+1) listed a w :=
  ZvX hnd (ZdF ops) ho (Region.noSelect_spec hsel) (fun c a w h=>hQ c a v w h) fuel L listed a w (ZDt hr hf) (hr.ready.2 ⟨o,ho,hm⟩) hy hS hall h
theorem ZnY (hnd:Zfl ops) (ho:ops[i]?=some o) (hr:Rel ops m listed) (hm:Zca m i o=true) (hf:Zjf m i 0 ops.toList=true)
    (hy:YieldsIf P ops S o v a) (hS:S w) (hall:Zjy.all L w) (h:wpK rn P ops Q (nxt ops) L fuel (listed.setIfInBounds i true) (a.put o.dst v) w) :
    wpK rn P ops Q (nxt ops) L (fuel+1) listed a w:=by
  refine ZrT (ZwX hr hf) (hr.ready.2 ⟨o,ho,hm⟩) (ZfG hnd ho hy hS ⟨fun p hp=>hall p ((ZdF ops).mem _ _ _ hp),?_⟩)
  exact Zgz (ZdF ops) _ _ _ _ _ _ (fun p hp=> .inl ((ZdF ops).mem _ _ _ hp)) h
theorem ZnX (hnd:Zfl ops) (ho:ops[i]?=some o) (hsel:Region.noSelect ops=true) (hQ:∀ c a v w,Q (.panic c) (a.put o.dst v) w->Q (.panic c) a w) (hr:Rel ops m listed) (hm:Zca m i o=true)
    (hf:Zmm ops o m i 0 ops.toList=true\/Zjf m i 0 ops.toList=true)
    (hy:YieldsIf P ops (fun _=>True) o v a) (hall:Zjy.all L w) (h:wpK rn P ops Q (nxt ops) L fuel (listed.setIfInBounds i true) (a.put o.dst v) w) :
    wpK rn P ops Q (nxt ops) L (fuel+1) listed a w:=by
  rcases hf with hf | hf
  ·refine Zsb hnd ho hsel hQ hr hm hf hy trivial hall ?_
   refine Zgz (ZdF ops) _ _ _ _ _ _ (fun p hp=>?_) h
   rcases Awr.1 hp with rfl | hp
   ·exact .inr fun _=>trivial
   ·exact .inl hp
  ·exact ZnY hnd ho hr hm hf hy trivial hall h
end
theorem Zzx {ops:Array Oper} {m i l:Nat} {listed:Array Bool} (hr:Rel ops m listed) (h:ZmZ m i l 0 ops.toList=true):∀ j,j∈Region.ready .any ops listed->j=i\/j=l:=by
  intro j hj
  obtain ⟨o',ho',hb⟩:=hr.ready.1 hj
  have:=ZiB h j o' (by simpa using ho') (by rw [Awb];exact hb)
  rw [Awb] at this
  exact this
section
variable {c:Cfg} {ops:Array Oper} {D:List Nat} {a0:Act} {w0:World} {Qx:Ex->Env->Zc->Prop}
def Zjt (c:Cfg) (ops:Array Oper) (D:List Nat) (a0:Act) (w0:World) (Qx:Ex->Env->Zc->Prop) (fuel m:Nat) (rest:ZfC->Env->Zc->Prop):Prop :=
  ∀ (listed:Array Bool) (hd:ZfC) (e:Env) (a:Act) (w:World),Rel ops m listed->Agr c.n e a->Same w0 w->X4 D a0 a->(Zdr hd).all w ->
    rest hd e w.heap->wpK c.rnd c.P ops (ZeD c D a0 w0 Qx) (nxt ops) (Zdr hd) fuel listed a w
theorem ZrD (hnd:Zfl ops) (hc:c.OK) (hD:D=ops.toList.filterMap (·.dst)) {i m fuel:Nat} {o:Oper} {hd:ZfC} {e:Env} {a:Act} {w:World} {listed:Array Bool} {rest:ZfC->Env->Zc->Prop}
    (ho:ops[i]?=some o) (hr:Rel ops m listed) (hag:Agr c.n e a) (hs:Same w0 w) (hkp:X4 D a0 a) (hall:(Zdr hd).all w) (ih:Zjt c ops D a0 w0 Qx fuel (Zn1 m i) rest) (hk:ZDA c ops o hd e w.heap rest) :
    wpOpIn (fen c.rnd) 0 c.P ops (ZeD c D a0 w0 Qx) i (fun a' w'=>(nxt ops (Zdr hd) i).all w'/\wpK c.rnd c.P ops (ZeD c D a0 w0 Qx) (nxt ops) (nxt ops (Zdr hd) i) fuel (listed.setIfInBounds i true) a' w') a w:=by
  have hr':=hr.set (Zh4 ho)
  have hput:∀ v,X4 D a0 (a.put o.dst v):=fun v=>hkp.trans (X4.put fun x hx=>hD▸ZeY ho hx)
  unfold ZDA at hk
  rcases ZgO hag hk with ⟨e1,hag1,hw,hk⟩ | ⟨e1,hag1,hw,hk⟩
  ·rw [Zss ho]
   unfold Go.wpOpIn
   simp only [ho,hw,if_true]
   refine Zso hc hag1 (fun v w' hs' hp=>⟨v,rfl,hs.trans hs',hkp,hp⟩) hk fun v w' hs' hk=>?_
   obtain ⟨e',hag',hk⟩:=Zdc hag1 hk
   obtain ⟨hall',hk⟩:=Zh6 hk
   exact ⟨hall',ih _ _ e' _ w' hr' hag' (hs.trans hs') (hput _) hall' hk⟩
  ·obtain ⟨e',hag',hk⟩:=Zdc hag1 hk
   have hy:YieldsIf c.P ops (fun _=>True) o undef a:= .inr ⟨hw,rfl⟩
   refine ZfG hnd ho hy trivial ⟨fun p hp=>hall p ((ZdF ops).mem _ _ _ hp),?_⟩
   exact Zgz (ZdF ops) _ _ _ _ _ _ (fun p hp=> .inl ((ZdF ops).mem _ _ _ hp)) (ih _ hd e' _ w hr' hag' hs (hput _) hall hk)
theorem ZDp (hnd:Zfl ops) (hD:D=ops.toList.filterMap (·.dst)) {i m fuel:Nat} {o:Oper} {hd:ZfC} {e:Env} {a:Act} {w:World} {listed:Array Bool} {rest:ZfC->Env->Zc->Prop}
    (ho:ops[i]?=some o) (hr:Rel ops m listed) (hag:Agr c.n e a) (hs:Same w0 w) (hkp:X4 D a0 a) (hall:(Zdr hd).all w) (ih:Zjt c ops D a0 w0 Qx fuel (Zn1 m i) rest)
    (hq:∀ {e:Env} {K:EV->Zc->Prop},Agr c.n e a->opP c o.op e w.heap K->ZrP c o a w.heap K) (hm:Zca m i o=true) (hf:Zjf m i 0 ops.toList=true)
    (hk:ZFu c ops o hd e w.heap rest):wpK c.rnd c.P ops (ZeD c D a0 w0 Qx) (nxt ops) (Zdr hd) (fuel+1) listed a w:=by
  have hr':=hr.set (Zh4 ho)
  have hput:∀ v,X4 D a0 (a.put o.dst v):=fun v=>hkp.trans (X4.put fun x hx=>hD▸ZeY ho hx)
  unfold ZFu at hk
  rcases ZgO hag hk with ⟨e1,hag1,hw,hk⟩ | ⟨e1,hag1,hw,hk⟩
  ·obtain ⟨v,hrun,hk⟩:=hq hag1 hk
   obtain ⟨e',hag',hk⟩:=Zdc hag1 hk
   exact ZnY hnd (S:=fun w'=>w'.heap=w.heap) ho hr hm hf (v:=v.v) (.inl ⟨hw,fun w' hw'=>hrun w' hw'⟩) rfl hall (ih _ hd e' _ w hr' hag' hs (hput _) hall hk)
  ·obtain ⟨e',hag',hk⟩:=Zdc hag1 hk
   exact ZnY hnd (S:=fun _=>True) ho hr hm hf (v:=undef) (.inr ⟨hw,rfl⟩) trivial hall (ih _ hd e' _ w hr' hag' hs (hput _) hall hk)
theorem Zr8 (hnd:Zfl ops) (hD:D=ops.toList.filterMap (·.dst)) (hsel:Region.noSelect ops=true) {i m fuel:Nat} {o:Oper} {hd:ZfC} {e:Env} {a:Act} {w:World} {listed:Array Bool} {rest:ZfC->Env->Zc->Prop} {A:Env->Prop}
    (ho:ops[i]?=some o) (hr:Rel ops m listed) (hag:Agr c.n e a) (hs:Same w0 w) (hkp:X4 D a0 a) (hall:(Zdr hd).all w) (ih:Zjt c ops D a0 w0 Qx fuel (Zn1 m i) rest)
    (hm:Zca m i o=true) (hf:Zmm ops o m i 0 ops.toList=true)
    (hA:∀ e1,Agr c.n e1 a->A e1->∃ (v:EV) (S:Zc->Prop),S w.heap/\(∀ w':World,S w'.heap->(execOp a.eval o).run c.P w' = .ok (.value v.v) w')/\Zqu c.n e1 o.dst v fun e'=>rest ((i,S)::hd) e' w.heap)
    (hk:ZlG ops.toList o e A (fun e=>Zqu c.n e o.dst (.val undef) fun e'=>rest hd e' w.heap)):wpK c.rnd c.P ops (ZeD c D a0 w0 Qx) (nxt ops) (Zdr hd) (fuel+1) listed a w:=by
  have hr':=hr.set (Zh4 ho)
  have hput:∀ v,X4 D a0 (a.put o.dst v):=fun v=>hkp.trans (X4.put fun x hx=>hD▸ZeY ho hx)
  have hQ:∀ c' a' v w',ZeD c D a0 w0 Qx (.panic c') (a'.put o.dst v) w'->ZeD c D a0 w0 Qx (.panic c') a' w':=fun _ _ _ _ h=>Zlk (fun x hx=>by rw [hD];exact ZeY ho hx) h
  rcases ZgO hag hk with ⟨e1,hag1,hw,hk⟩ | ⟨e1,hag1,hw,hk⟩
  ·obtain ⟨v,S,hS,hrun,hk⟩:=hA e1 hag1 hk
   obtain ⟨e',hag',hk⟩:=Zdc hag1 hk
   refine Zsb hnd (S:=fun w=>S w.heap) ho hsel hQ hr hm hf (v:=v.v) (.inl ⟨hw,fun w' hw'=>hrun w' hw'⟩) hS hall ?_
   refine ih _ ((i,S)::hd) e' _ w hr' hag' hs (hput _) ?_ hk
   intro q hq
   rcases Awr.1 hq with rfl | hq
   ·exact hS
   ·exact hall q hq
  ·obtain ⟨e',hag',hk⟩:=Zdc hag1 hk
   exact ZnX hnd ho hsel hQ hr hm (.inl hf) (v:=undef) (.inr ⟨hw,rfl⟩) hall (ih _ hd e' _ w hr' hag' hs (hput _) hall hk)
end
theorem Zej {j:Nat}:∀ {l:List Nat},ZbL l j=true↔j∈l
  | []=>by simp [ZbL]
  | x::xs=>by
    have ih:=Zej (j:=j) (l:=xs)
    simp only [ZbL]
    cases hb:Nat.beq j x with
    | true=>simp only [cond_true,true_iff];exact (Awg hb) ▸ .head _
    | false=>simp only [cond_false,ih,Awr];exact ⟨.inr,fun h=>h.resolve_left (Awi hb)⟩
theorem Zki {m:Nat} {E:List Nat}:∀ {es:List Edge},ZhS m E es=true->∀ x∈es,Region.binds .any x=true->Zgd m x.on=true\/ZbL E x.on=true
  | [],_,x,hx,_=>by cases hx
  | y::es,h,x,hx,hb=>by
    simp only [ZhS] at h
    rcases Awr.1 hx with rfl | hx
    ·rw [hb] at h
     cases h1:Zgd m x.on with
     | true=>exact .inl rfl
     | false =>
       rw [h1] at h
       cases h2:ZbL E x.on with
       | true=>exact .inr rfl
       | false=>rw [h2] at h;cases h
    ·refine Zki (es:=es) ?_ x hx hb
     cases h1:Region.binds .any y with
     | false=>rw [h1] at h;exact h
     | true =>
       cases h2:Zgd m y.on with
       | true=>rw [h1,h2] at h;exact h
       | false =>
         cases h3:ZbL E y.on with
         | true=>rw [h1,h2,h3] at h;exact h
         | false=>rw [h1,h2,h3] at h;cases h
theorem ZmH {ops:Array Oper} {m k:Nat} {E ks:List Nat} (h:Zpl ops m E (k::ks)=true) :
    ∃ o,ops[k]?=some o/\Zgd m k=false/\o.guard=none/\ZhS m E o.after.toList=true/\Zpl ops m (k::E) ks=true:=by
  simp only [Zpl] at h
  split at h
  ·rename_i o ho
   cases h1:Zgd m k with
   | true=>rw [h1] at h;cases h
   | false =>
     rw [h1] at h
     cases h2:ZbL E k with
     | true=>rw [h2] at h;cases h
     | false =>
       rw [h2] at h
       cases h3:o.guard.isNone with
       | false=>rw [h3] at h;cases h
       | true =>
         rw [h3] at h
         cases h4:ZhS m E o.after.toList with
         | false=>rw [h4] at h;cases h
         | true=>rw [h4] at h;exact ⟨o,ho,rfl,Axw.1 h3,h4,h⟩
  ·cases h
theorem ZnS {ops:Array Oper} {m:Nat}:∀ {L E:List Nat},Zpl ops m E L=true->∀ k∈L,∃ o,ops[k]?=some o/\Zgd m k=false/\o.guard=none
  | [],_,_,k,hk=>by cases hk
  | x::L,E,h,k,hk=>by
    obtain ⟨o,h1,h2,h3,_,h5⟩:=ZmH h
    rcases Awr.1 hk with rfl | hk
    ·exact ⟨o,h1,h2,h3⟩
    ·exact ZnS h5 k hk
theorem ZmG {ops:Array Oper} {m:Nat} {d:Nat->Bool} {L0:List Nat}:∀ {L E:List Nat},Zpl ops m E L=true->(∀ k,ZbL E k=true->ZbL L0 k=true/\d k=true)->(∀ k∈L,ZbL L0 k=true)->(∃ k∈L,d k=false) ->
    ∃ k o,k∈L/\d k=false/\ops[k]?=some o/\∀ x∈o.after.toList,Region.binds .any x=true->Zgd m x.on=true\/(ZbL L0 x.on=true/\d x.on=true)
  | [],_,_,_,_,⟨k,hk,_⟩=>by cases hk
  | x::L,E,h,hE,hL,hn=>by
    obtain ⟨o,h1,_,_,h4,h5⟩:=ZmH h
    cases hd:d x with
    | false=>exact ⟨x,o,.head _,hd,h1,fun y hy hb=>(Zki h4 y hy hb).imp id (hE _)⟩
    | true =>
      obtain ⟨k,o',hk,h6⟩:=ZmG (d:=d) (L0:=L0) h5 (fun k hk=>by
        rcases Awr.1 (Zej.1 hk) with rfl | hk
        ·exact ⟨hL _ (.head _),hd⟩
        ·exact hE k (Zej.2 hk)) (fun k hk=>hL k (.tail _ hk)) (by
        obtain ⟨k,hk,hk2⟩:=hn
        rcases Awr.1 hk with rfl | hk
        ·rw [hd] at hk2;cases hk2
        ·exact ⟨k,hk,hk2⟩)
      exact ⟨k,o',.tail _ hk,h6⟩
theorem ZiW {m:Nat} {L:List Nat}:∀ {es:List Edge},Zef m L es=true->∃ x,x∈es/\Region.binds .any x=true/\Zgd m x.on=false/\ZbL L x.on=false
  | [],h=>by cases h
  | y::es,h=>by
    have rec_:Zef m L es=true->∃ x,x∈y::es/\Region.binds .any x=true/\Zgd m x.on=false/\ZbL L x.on=false:=fun h =>
      let ⟨x,hx,h2⟩:=ZiW h
      ⟨x,.tail _ hx,h2⟩
    simp only [Zef] at h
    cases h1:Region.binds .any y with
    | false=>rw [h1] at h;exact rec_ h
    | true =>
      rw [h1] at h
      cases h2:Zgd m y.on with
      | true=>rw [h2] at h;exact rec_ h
      | false =>
        rw [h2] at h
        cases h3:ZbL L y.on with
        | true=>rw [h3] at h;exact rec_ h
        | false=>exact ⟨y,.head _,h1,h2,h3⟩
theorem ZiX {es:List Edge}:∀ {L:List Nat},ZhX es L=true->∀ k∈L,Zff k es=true
  | [],_,k,hk=>by cases hk
  | x::L,h,k,hk=>by
    simp only [ZhX] at h
    cases h1:Zff x es with
    | false=>rw [h1] at h;cases h
    | true =>
      rw [h1] at h
      rcases Awr.1 hk with rfl | hk
      ·exact h1
      ·exact ZiX h k hk
theorem ZpH {m:Nat} {L:List Nat}:∀ {os:List Oper} {k:Nat},ZE1 m L k os=true->∀ j o,os[j]?=some o->Zgd m (k+j)=true\/ZbL L (k+j)=true\/Zef m L o.after.toList=true\/ZhX o.after.toList L=true
  | [],k,_,j,o,ho=>by simp at ho
  | x::os,k,h,j,o,ho=>by
    simp only [ZE1] at h
    generalize hc:(bif Zgd m k then true else bif ZbL L k then true else bif Zef m L x.after.toList then true else ZhX x.after.toList L)=b at h
    cases b with
    | false=>cases h
    | true =>
      cases j with
      | succ j =>
        have:=ZpH (k:=k+1) h j o (by simpa using ho)
        rw [show k+(j+1)=k+1+j from by omega]
        exact this
      | zero =>
        simp at ho
        subst ho
        cases h1:Zgd m k with
        | true=>exact .inl rfl
        | false =>
          rw [h1] at hc
          cases h2:ZbL L k with
          | true=>exact .inr (.inl rfl)
          | false =>
            rw [h2] at hc
            cases h3:Zef m L x.after.toList with
            | true=>exact .inr (.inr (.inl rfl))
            | false=>rw [h3] at hc;exact .inr (.inr (.inr hc))
theorem ZjR {j k:Nat}:∀ {os:List Oper} {i:Nat},Zoj j k i os=true->∀ l o,os[l]?=some o->o.dst=some j->i+l=k
  | [],i,_,l,o,ho,_=>by simp at ho
  | x::os,i,h,l,o,ho,hd=>by
    simp only [Zoj] at h
    cases hb:Nat.beq i k with
    | true =>
      rw [hb] at h
      cases l with
      | zero=>exact Awg hb
      | succ l =>
        have:=ZjR (i:=i+1) h l o (by simpa using ho) hd
        omega
    | false =>
      rw [hb] at h
      simp only [cond_false] at h
      cases l with
      | zero =>
        simp at ho
        subst ho
        rw [hd] at h
        simp only [Axx,cond_true] at h
        cases h
      | succ l =>
        have h':Zoj j k (i+1) os=true:=by
          split at h
          ·rename_i y hy
           cases hb2:Nat.beq y j with
           | true=>rw [hb2] at h;cases h
           | false=>rw [hb2] at h;exact h
          ·exact h
        have:=ZjR (i:=i+1) h' l o (by simpa using ho) hd
        omega
theorem Zp1 {ops:Array Oper} {k:Nat} {o:Oper} (ho:ops[k]?=some o):XE ops.toList k=o.dst:=by
  unfold XE
  rw [show ops.toList[k]?=ops[k]? from by simp,ho]
  rfl
theorem Zio {ops:Array Oper} {k j:Nat} (h:XE ops.toList k=some j):∃ o,ops[k]?=some o/\o.dst=some j:=by
  unfold XE at h
  rw [show ops.toList[k]?=ops[k]? from by simp] at h
  cases ho:ops[k]? with
  | none=>rw [ho] at h;cases h
  | some o=>rw [ho] at h;exact ⟨o,rfl,h⟩
theorem ZjF {ops:Array Oper} {slots:List Nat}:∀ {L:List Nat},ZqO ops.toList slots L=true->∀ k∈L,∀ j,XE ops.toList k=some j->ZbL slots j=true/\∀ i o,ops[i]?=some o->o.dst=some j->i=k
  | [],_,k,hk,_,_=>by cases hk
  | x::L,h,k,hk,j,hj=>by
    simp only [ZqO] at h
    rcases Awr.1 hk with rfl | hk
    ·rw [hj] at h
     simp only at h
     cases h1:ZbL slots j with
     | false=>rw [h1] at h;cases h
     | true =>
       rw [h1] at h
       cases h2:Zoj j k 0 ops.toList with
       | false=>rw [h2] at h;cases h
       | true=>exact ⟨rfl,fun i o ho hd=>by have:=ZjR h2 i o (by simpa using ho) hd;omega⟩
    ·refine ZjF (L:=L) ?_ k hk j hj
     split at h
     ·rename_i y hy
      cases h1:ZbL slots y with
      | false=>rw [h1] at h;cases h
      | true =>
        rw [h1] at h
        cases h2:Zoj y x 0 ops.toList with
        | false=>rw [h2] at h;cases h
        | true=>rw [h2] at h;exact h
     ·exact h
theorem Zne {ops:List Oper} {j:Nat}:∀ {L:List Nat},Zrx ops j L=true->∃ k,k∈L/\XE ops k=some j
  | [],h=>by cases h
  | x::L,h=>by
    have rec_:Zrx ops j L=true->∃ k,k∈x::L/\XE ops k=some j:=fun h=>let ⟨k,hk,h2⟩:=Zne h;⟨k,.tail _ hk,h2⟩
    simp only [Zrx] at h
    split at h
    ·rename_i y hy
     cases hb:Nat.beq y j with
     | true=>exact ⟨x,.head _,by rw [hy,Awg hb]⟩
     | false=>rw [hb] at h;exact rec_ h
    ·exact rec_ h
theorem Zix {ops:List Oper} {L:List Nat}:∀ {l:List Nat},ZmK ops L l=true->∀ j,ZbL l j=true->∃ k,k∈L/\XE ops k=some j
  | [],_,j,hj=>by cases hj
  | x::l,h,j,hj=>by
    simp only [ZmK] at h
    cases h1:Zrx ops x L with
    | false=>rw [h1] at h;cases h
    | true =>
      rw [h1] at h
      rcases Awr.1 (Zej.1 hj) with rfl | hj
      ·exact Zne h1
      ·exact Zix h j (Zej.2 hj)
theorem Zl0 {ops:List Oper} {j:Nat}:∀ {es:List Edge},Zkk ops j es=true->∃ x,x∈es/\Region.binds .any x=true/\XE ops x.on=some j
  | [],h=>by cases h
  | y::es,h=>by
    have rec_:Zkk ops j es=true->∃ x,x∈y::es/\Region.binds .any x=true/\XE ops x.on=some j:=fun h=>let ⟨k,hk,h2⟩:=Zl0 h;⟨k,.tail _ hk,h2⟩
    simp only [Zkk] at h
    cases h1:Region.binds .any y with
    | false=>rw [h1] at h;exact rec_ h
    | true =>
      rw [h1] at h
      simp only [cond_true] at h
      split at h
      ·rename_i z hz
       cases hb:Nat.beq z j with
       | true=>exact ⟨y,.head _,h1,by rw [hz,Awg hb]⟩
       | false=>rw [hb] at h;exact rec_ h
      ·exact rec_ h
theorem Zlq {d:Nat->Bool} {K:Prop}:∀ {l:List Nat},Zlr d l K->(∀ i∈l,d i=true)->K
  | [],h,_=>h
  | i::l,h,hd=>Zlq (h (hd i (.head _))) fun k hk=>hd k (.tail _ hk)
theorem Zqg {L:List Nat} {i:Nat}:∀ {es:List Edge},i∈Zqh L es->ZbL L i=true/\∃ x,x∈es/\Region.binds .any x=true/\x.on=i
  | [],h=>by cases h
  | y::es,h=>by
    have rec_:i∈Zqh L es->ZbL L i=true/\∃ x,x∈y::es/\Region.binds .any x=true/\x.on=i:=fun h =>
      let ⟨h1,k,hk,h2⟩:=Zqg h
      ⟨h1,k,.tail _ hk,h2⟩
    simp only [Zqh] at h
    cases h1:Region.binds .any y with
    | false=>rw [h1] at h;exact rec_ h
    | true =>
      rw [h1] at h
      cases h2:ZbL L y.on with
      | false=>rw [h2] at h;exact rec_ h
      | true =>
        rw [h2] at h
        rcases Awr.1 h with rfl | h
        ·exact ⟨h2,y,.head _,h1,rfl⟩
        ·exact rec_ h
theorem ZwW {ops:Array Oper} {L:List Nat} {d:Nat->Bool} {f:Nat->Oper->Prop}:∀ {l:List Nat},ZFQ ops L d f l->∀ k∈l,∀ o,ops[k]?=some o->d k=false->Zlr d (Zqh L o.after.toList) (f k o)
  | [],_,k,hk,_,_,_=>by cases hk
  | x::l,h,k,hk,o,ho,hd=>by
    obtain ⟨h1,h2⟩:=h
    rcases Awr.1 hk with rfl | hk
    ·rw [ho] at h1
     exact h1 hd
    ·exact ZwW h2 k hk o ho hd
theorem Znl:∀ {tys:List VT} {t:Xw tys},(Xw.evs tys t).length=tys.length
  | [],_=>rfl
  | _::vs,t=>congrArg (· + 1) (Znl (tys:=vs) (t:=t.2))
theorem ZhD {j:Nat} {v:EV}:∀ {slots:List Nat} {xs:List EV},ZbL slots j=true->slots.length=xs.length->Zcd slots (ZAx slots j v xs) j=some v
  | [],_,h,_=>by cases h
  | s::ss,[],_,h=>by cases h
  | s::ss,x::xs,h,hl=>by
    simp only [ZAx]
    cases hb:Nat.beq j s with
    | true=>simp only [cond_true,Zcd,hb]
    | false =>
      simp only [cond_false,Zcd,hb]
      simp only [ZbL,hb,cond_false] at h
      exact ZhD h (Nat.succ.inj hl)
theorem Zhd {j i:Nat} {v:EV} (hne:i≠j):∀ {slots:List Nat} {xs:List EV},Zcd slots (ZAx slots j v xs) i=Zcd slots xs i
  | [],_=>rfl
  | s::ss,[]=>rfl
  | s::ss,x::xs=>by
    simp only [ZAx]
    cases hb:Nat.beq j s with
    | true =>
      have:=Awg hb
      subst this
      have h2:Nat.beq i j=false:=by
        cases h:Nat.beq i j with
        | true=>exact absurd (Awg h) hne
        | false=>rfl
      simp only [cond_true,Zcd,h2,cond_false]
    | false =>
      simp only [cond_false,Zcd]
      rw [Zhd hne]
theorem Zlu {j:Nat} {x:EV}:∀ {slots:List Nat} {vs us:List EV},us.map EV.v=vs.map EV.v->Zcd slots vs j=some x->∃ y,Zcd slots us j=some y/\y.v=x.v
  | [],_,_,_,h=>by simp [Zcd] at h
  | s::ss,[],_,_,h=>by simp [Zcd] at h
  | s::ss,v::vs,[],hm,h=>by simp at hm
  | s::ss,v::vs,u::us,hm,h=>by
    simp only [Awo,Axy] at hm
    simp only [Zcd] at h ⊢
    cases hb:Nat.beq j s with
    | true=>rw [hb] at h;simp only [cond_true,Awh] at h;subst h;exact ⟨u,rfl,hm.1⟩
    | false=>rw [hb] at h;exact Zlu hm.2 h
theorem ZjW {j:Nat}:∀ {slots:List Nat} {vs:List EV},ZbL slots j=false->Zcd slots vs j=none
  | [],_,_=>rfl
  | s::ss,[],_=>rfl
  | s::ss,v::vs,h=>by
    simp only [ZbL] at h
    cases hb:Nat.beq j s with
    | true=>rw [hb] at h;cases h
    | false =>
      rw [hb] at h
      simp only [Zcd,hb,cond_false]
      exact ZjW h
def ZoV (d:Nat->Bool):List Nat->Nat
  | []=>0
  | k::ks=>bif d k then ZoV d ks else ZoV d ks+1
theorem Zx5 {d:Nat->Bool} {k:Nat}:∀ {l:List Nat},ZoV (XL d k) l<=ZoV d l
  | []=>Aqo _
  | x::l=>by
    have ih:=Zx5 (d:=d) (k:=k) (l:=l)
    have e:XL d k x=(bif Nat.beq x k then true else d x):=rfl
    simp only [ZoV,e]
    cases hb:Nat.beq x k<;>cases hd:d x<;>simp only [cond_true,cond_false]<;>omega
theorem Zx4 {d:Nat->Bool} {k:Nat} (hd:d k=false):∀ {l:List Nat},k∈l->ZoV (XL d k) l<ZoV d l
  | [],h=>by cases h
  | x::l,h=>by
    have h1:=Zx5 (d:=d) (k:=k) (l:=l)
    rcases Awr.1 h with rfl | h
    ·have e:XL d k k=true:=by show (bif Nat.beq k k then true else d k)=true;rw [Axx];rfl
     simp only [ZoV,e,cond_true,hd,cond_false]
     omega
    ·have h2:=Zx4 hd h
     simp only [ZoV]
     cases hb:XL d k x<;>cases hd2:d x<;>simp only [cond_true,cond_false]<;>first
       | omega
       | (simp only [XL,hd2] at hb;cases h3:Nat.beq x k<;>rw [h3] at hb<;>cases hb)
theorem Zqo {d:Nat->Bool}:∀ {l:List Nat},(∀ k∈l,d k=true)\/(∃ k∈l,d k=false)
  | []=> .inl fun k hk=>by cases hk
  | x::l=>by
    cases hd:d x with
    | false=>exact .inr ⟨x,.head _,hd⟩
    | true =>
      rcases Zqo (d:=d) (l:=l) with h | ⟨k,hk,h⟩
      ·refine .inl fun k hk=>?_
       rcases Awr.1 hk with rfl | hk
       ·exact hd
       ·exact h k hk
      ·exact .inr ⟨k,.tail _ hk,h⟩
theorem Zs2 {d:Nat->Bool} {k:Nat} (hd:d k=false):∀ {l:List Nat},k∈l->0<ZoV d l
  | [],h=>by cases h
  | x::l,h=>by
    simp only [ZoV]
    rcases Awr.1 h with rfl | h
    ·rw [hd];simp only [cond_false];omega
    ·have:=Zs2 hd h
     cases d x<;>simp only [cond_true,cond_false]<;>omega
theorem Zs3 {d:Nat->Bool}:∀ {l:List Nat},ZoV d l<=l.length
  | []=>Aqo _
  | x::l=>by
    have:=Zs3 (d:=d) (l:=l)
    simp only [ZoV,Aqj]
    cases d x<;>simp only [cond_true,cond_false]<;>omega
theorem Znr {j:Nat}:∀ {L:List Nat} {m:Nat},Zgd (L.foldl Zn1 m) j=(Zgd m j||ZbL L j)
  | [],m=>by simp [ZbL]
  | x::L,m=>by
    simp only [Awq,ZbL]
    rw [Znr,ZoM]
    cases hb:Nat.beq j x with
    | true=>rw [Awg hb];simp
    | false=>simp [Awi hb]
theorem Zxz {c:Cfg} {ops:Array Oper} {D:List Nat} {a0:Act} {w0:World} {Qx:Ex->Env->Zc->Prop} {m N0:Nat} {L slots:List Nat} {tys:List VT} {hd:ZfC} {e:Env} {rest:ZfC->Env->Zc->Prop}
    (ih:∀ f,N0<=f->Zjt c ops D a0 w0 Qx f (L.foldl Zn1 m) rest) {I:(Nat->Bool)->Xw tys->Zc->Prop}
    (hF:∀ d t h',I d t h'->Zlr d L (ZpZ h' hd (rest hd (Zmq slots (Xw.evs tys t) [] e) h'))) (hSl:ZmK ops.toList L slots=true) (hU:ZqO ops.toList slots L=true)
    (fuel m':Nat) (d:Nat->Bool) (t:Xw tys) (listed:Array Bool) (a:Act) (w:World) (Lk:Zjy) (hf:N0<=fuel) (hall:∀ k∈L,d k=true) (hr:Rel ops m' listed) (hbit:∀ j,Zgd m' j=(Zgd m j||(ZbL L j&&d j)))
    (hag:Agr c.n ⟨fun j=>bif ZbL slots j then none else e.f j,e.mD⟩ a) (hs:Same w0 w) (hkp:X4 D a0 a) (hsl:∀ i o j,i∈L->ops[i]?=some o->d i=true->o.dst=some j->∃ v,Zcd slots (Xw.evs tys t) j=some v/\a.tmps[j]?=some v.v)
    (hI:I d t w.heap) (hLk:∀ p,p∈Lk->p∈Zdr hd):wpK c.rnd c.P ops (ZeD c D a0 w0 Qx) (nxt ops) Lk fuel listed a w:=by
  obtain ⟨hkept,hk⟩:=Zh6 (Zlq (hF d t w.heap hI) hall)
  have hsome:∀ j,ZbL slots j=true->∃ v,Zcd slots (Xw.evs tys t) j=some v/\a.tmps[j]?=some v.v:=fun j hj=>by
    obtain ⟨k,hk,hg⟩:=Zix hSl j hj
    obtain ⟨o,ho,hdst⟩:=Zio hg
    exact hsl k o j hk ho (hall k hk) hdst
  refine Zgz (ZdF ops) _ _ _ _ _ _ (fun p hp=> .inl (hLk p hp)) (ih fuel hf listed hd (Zmq slots (Xw.evs tys t) [] e) a w ⟨hr.size,fun j=>?_⟩ ⟨hag.size,hag.defers,fun j v hj=>?_⟩ hs hkp hkept hk)
  ·rw [hr.bit,hbit,Znr]
   cases hm:ZbL L j with
   | false=>simp
   | true=>rw [hall j (Zej.1 hm)];simp
  ·unfold Zmq at hj
   dsimp only at hj
   cases hms:ZbL slots j with
   | true =>
     obtain ⟨x,hx,hxv⟩:=hsome j hms
     rw [hx] at hj
     cases hj
     exact hxv
   | false =>
     rw [ZjW hms] at hj
     refine hag.val j v ?_
     show (bif ZbL slots j then none else e.f j)=some v
     rw [hms]
     exact hj
section
variable {c:Cfg} {ops:Array Oper} {D:List Nat} {a0:Act} {w0:World} {Qx:Ex->Env->Zc->Prop}
theorem ZFm (hc:c.OK) (hD:D=ops.toList.filterMap (·.dst)) {m N0:Nat} {L slots:List Nat} {tys:List VT} {hd:ZfC} {e:Env} {rest:ZfC->Env->Zc->Prop}
    (hok:ZDe ops m L slots=true) (hlen:slots.length=tys.length) (ih:∀ f,N0<=f->Zjt c ops D a0 w0 Qx f (L.foldl Zn1 m) rest)
    {I:(Nat->Bool)->Xw tys->Zc->Prop}
    (hS:∀ d t h',I d t h'->ZFQ ops L d (fun k o=>opP c o.op (eAt ops.toList o.after.toList slots (Xw.evs tys t) e) h' fun v h''=>ZpZ h'' (Zqf o hd) (match o.dst with
        | none=>I (XL d k) t h''
        | some j=>bif Nat.blt j c.n then (match Xw.un tys (ZAx slots j v (Xw.evs tys t)) with
          | some t'=>I (XL d k) t' h''
          | none=>False) else False)) L)
    (hF:∀ d t h',I d t h'->Zlr d L (ZpZ h' hd (rest hd (Zmq slots (Xw.evs tys t) [] e) h'))) :
    ∀ (n fuel m':Nat) (d:Nat->Bool) (t:Xw tys) (listed:Array Bool) (a:Act) (w:World) (Lk:Zjy),N0+n<=fuel->ZoV d L<=n->Rel ops m' listed->(∀ j,Zgd m' j=(Zgd m j||(ZbL L j&&d j))) ->
      Agr c.n ⟨fun j=>bif ZbL slots j then none else e.f j,e.mD⟩ a->Same w0 w->X4 D a0 a->(∀ i o j,i∈L->ops[i]?=some o->d i=true->o.dst=some j->∃ v,Zcd slots (Xw.evs tys t) j=some v/\a.tmps[j]?=some v.v) ->
      I d t w.heap->(∀ p,p∈Lk->p∈Zdr hd)->wpK c.rnd c.P ops (ZeD c D a0 w0 Qx) (nxt ops) Lk fuel listed a w:=by
  unfold ZDe at hok
  cases hT:Zpl ops m [] L with
  | false=>rw [hT] at hok;cases hok
  | true =>
  rw [hT] at hok
  cases hO:ZE1 m L 0 ops.toList with
  | false=>rw [hO] at hok;cases hok
  | true =>
  rw [hO] at hok
  cases hU:ZqO ops.toList slots L with
  | false=>rw [hU] at hok;cases hok
  | true =>
  rw [hU] at hok
  have hSl:ZmK ops.toList L slots=true:=hok
  have hbm:∀ k,k∈L->Zgd m k=false:=fun k hk=>(ZnS hT k hk).choose_spec.2.1
  intro n
  induction n with
  | zero =>
    intro fuel m' d t listed a w Lk hf hcnt hr hbit hag hs hkp hsl hI hLk
    have hall:∀ k∈L,d k=true:=fun k hk=>by
      cases hdk:d k with
      | true=>rfl
      | false=>have:=Zs2 hdk hk;omega
    exact Zxz ih hF hSl hU fuel m' d t listed a w Lk (by omega) hall hr hbit hag hs hkp hsl hI hLk
  | succ n ihn =>
    intro fuel m' d t listed a w Lk hf hcnt hr hbit hag hs hkp hsl hI hLk
    rcases Zqo (d:=d) (l:=L) with hall | hnot
    ·exact Zxz ih hF hSl hU fuel m' d t listed a w Lk (by omega) hall hr hbit hag hs hkp hsl hI hLk
    ·obtain ⟨k0,o0,hk0,hd0,ho0,hdep0⟩:=ZmG (d:=d) (L0:=L) hT (fun k hk=>by cases hk) (fun k hk=>Zej.2 hk) hnot
     cases fuel with
     | zero=>omega
     | succ fuel =>
       refine ⟨fun h0=>?_,fun i hi=>?_⟩
       ·have:k0∈Region.ready .any ops listed:=hr.ready.2 ⟨o0,ho0,by
          unfold Zca
          rw [hbit k0,hbm k0 hk0,hd0]
          simp only [Bool.and_false,Bool.or_false,cond_false]
          exact Ze9.2 fun x hx hb=>by
            rw [hbit x.on]
            rcases hdep0 x hx hb with h | ⟨h1,h2⟩
            ·rw [h];rfl
            ·rw [h1,h2];simp⟩
        rw [h0] at this
        cases this
       ·obtain ⟨o,ho,hrd⟩:=hr.ready.1 hi
        unfold Zca at hrd
        cases hbi:Zgd m' i with
        | true=>rw [hbi] at hrd;cases hrd
        | false =>
        rw [hbi] at hrd
        simp only [cond_false] at hrd
        have hdeps:=Ze9.1 hrd
        have hbi':=hbit i
        rw [hbi] at hbi'
        have hmi:Zgd m i=false:=by cases h:Zgd m i with
          | false=>rfl
          | true=>rw [h] at hbi';simp at hbi'
        have hiL:ZbL L i=true:=by
          have:=ZpH hO i o (by simpa using ho)
          rw [Awb] at this
          rcases this with h | h | h | h
          ·rw [hmi] at h;cases h
          ·exact h
          ·obtain ⟨x,hx,hb,h1,h2⟩:=ZiW h
           have:=hdeps x hx hb
           rw [hbit,h1,h2] at this
           simp at this
          ·have:=ZiX h k0 hk0
           obtain ⟨x,hx,hb,hon⟩:=ZhW.1 this
           have:=hdeps x hx hb
           rw [hbit,hon,hbm k0 hk0,hd0] at this
           simp at this
        have hiM:=Zej.1 hiL
        have hdi:d i=false:=by
          rw [hmi,hiL] at hbi'
          cases h:d i with
          | false=>rfl
          | true=>rw [h] at hbi';simp at hbi'
        have hon:∀ x∈o.after.toList,Region.binds .any x=true->ZbL L x.on=true->d x.on=true:=fun x hx hb hm=>by
          have:=hdeps x hx hb
          rw [hbit,hbm _ (Zej.1 hm),hm] at this
          simpa using this
        have hstep:=Zlq (ZwW (hS d t w.heap hI) i hiM o ho hdi) fun k hk=>by
          obtain ⟨h1,x,hx,hb,rfl⟩:=Zqg hk
          exact hon x hx hb h1
        have hagk:Agr c.n (eAt ops.toList o.after.toList slots (Xw.evs tys t) e) a:=by
          refine ⟨hag.size,hag.defers,fun j v hj=>?_⟩
          unfold eAt at hj
          dsimp only at hj
          split at hj
          ·rename_i u hu
           cases hbd:Zkk ops.toList j o.after.toList with
           | false=>rw [hbd] at hj;cases hj
           | true =>
             rw [hbd] at hj
             simp only [cond_true,Awh] at hj
             subst hj
             obtain ⟨x,hx,hb,hg⟩:=Zl0 hbd
             obtain ⟨ox,hox,hdx⟩:=Zio hg
             have hjs:ZbL slots j=true:=by
               cases h:ZbL slots j with
               | true=>rfl
               | false=>rw [ZjW h] at hu;cases hu
             obtain ⟨k,hk,hgk⟩:=Zix hSl j hjs
             have hxk:x.on=k:=(ZjF hU k hk j hgk).2 x.on ox hox hdx
             obtain ⟨v',h1,h2⟩:=hsl x.on ox j (hxk▸hk) hox (hon x hx hb (Zej.2 (hxk▸hk))) hdx
             rw [hu] at h1
             cases h1
             exact h2
          ·rename_i hu
           cases hms:ZbL slots j with
           | true=>rw [hms] at hj;cases hj
           | false =>
             rw [hms] at hj
             refine hag.val j v ?_
             show (bif ZbL slots j then none else e.f j)=some v
             rw [hms]
             exact hj
        have hg0:o.guard=none:=by
          obtain ⟨o',ho',_,hg⟩:=ZnS hT i hiM
          rw [ho] at ho'
          cases ho'
          exact hg
        have hw:Region.wanted o (yielded ops a.tmps)=true:=by simp [Region.wanted,hg0]
        unfold Go.wpOpIn
        simp only [ho,hw,if_true]
        refine Zso hc hagk (fun v w' hs' hp=>⟨v,rfl,hs.trans hs',hkp,hp⟩) hstep fun v w' hs' hk=>?_
        obtain ⟨hall',hk⟩:=Zh6 hk
        have hsub:∀ p,p∈nxt ops Lk i->p∈Zdr hd:=fun p hp=>hLk p ((ZdF ops).mem _ _ _ hp)
        refine ⟨fun p hp=>hall' p ?_,?_⟩
        ·rw [<- Zss ho]
         exact (ZdF ops).same _ _ _ _ hp (hsub p hp)
        have hr':=hr.set (Zh4 ho)
        have hput:X4 D a0 (a.put o.dst v.v):=hkp.trans (X4.put fun x hx=>hD▸ZeY ho hx)
        have hbit':∀ j,Zgd (Zn1 m' i) j=(Zgd m j||(ZbL L j&&XL d i j)):=fun j=>by
          rw [ZoM,hbit j]
          unfold XL
          cases hb:Nat.beq j i with
          | true=>rw [Awg hb,hiL];simp
          | false=>simp [Awi hb]
        have hcnt':ZoV (XL d i) L<=n:=by have:=Zx4 hdi hiM;omega
        have hold:∀ k,XL d i k=true->k≠i->d k=true:=fun k h hne=>by
          unfold XL at h
          cases hb:Nat.beq k i with
          | true=>exact absurd (Awg hb) hne
          | false=>rw [hb] at h;exact h
        cases hdst:o.dst with
        | none =>
          rw [hdst] at hk
          have hk:I (XL d i) t w'.heap:=hk
          rw [hdst] at hput
          refine ihn fuel (Zn1 m' i) (XL d i) t _ (a.put none v.v) w' _ (by omega) hcnt' hr' hbit' hag (hs.trans hs') hput (fun k ok j hk1 hk2 hk3 hk4=>?_) hk hsub
          refine hsl k ok j hk1 hk2 (hold k hk3 fun he=>?_) hk4
          subst he
          rw [ho] at hk2
          cases hk2
          rw [hdst] at hk4
          cases hk4
        | some j0 =>
          rw [hdst] at hk
          simp only at hk
          rw [hdst] at hput
          obtain ⟨hlt,hk⟩:=ZeB hk
          split at hk
          ·rename_i t' ht'
           have hm:=ZfR ht'
           have hgi:XE ops.toList i=some j0:=(Zp1 ho).trans hdst
           obtain ⟨hms,hun⟩:=ZjF hU i hiM j0 hgi
           have hlt':j0<a.tmps.size:=by rw [hag.size];rw [Nat.blt_eq] at hlt;exact hlt
           refine ihn fuel (Zn1 m' i) (XL d i) t' _ (a.put (some j0) v.v) w' _ (by omega) hcnt' hr' hbit' ⟨?_,?_,fun j u hj=>?_⟩ (hs.trans hs') hput (fun k ok j hk1 hk2 hk3 hk4=>?_) hk hsub
           ·simp [Act.put,hag.size]
           ·rw [put_defers];exact hag.defers
           ·have hj':(bif ZbL slots j then none else e.f j)=some u:=hj
            have hne:j0≠j:=fun he=>by rw [<- he,hms] at hj';cases hj'
            have:=hag.val j u hj
            simp only [Act.put]
            rw [Awj hne]
            exact this
           ·by_cases hki:k=i
            ·subst hki
             rw [ho] at hk2
             cases hk2
             rw [hdst] at hk4
             cases hk4
             obtain ⟨y,hy,hyv⟩:=Zlu hm (ZhD (v:=v) hms (hlen.trans Znl.symm))
             refine ⟨y,hy,?_⟩
             simp [Act.put,hlt',hyv]
            ·have hne:j≠j0:=fun he=>hki (hun k ok hk2 (by rw [hk4,he]))
             obtain ⟨x,hx,hxv⟩:=hsl k ok j hk1 hk2 (hold k hk3 hki) hk4
             obtain ⟨y,hy,hyv⟩:=Zlu hm (show Zcd slots (ZAx slots j0 v (Xw.evs tys t)) j=some x from by rw [Zhd hne];exact hx)
             refine ⟨y,hy,?_⟩
             simp only [Act.put]
             rw [Awj (Ne.symm hne),hyv]
             exact hxv
          ·exact hk.elim
end
section
variable {c:Cfg} {ops:Array Oper} {D:List Nat} {a0:Act} {w0:World} {Qx:Ex->Env->Zc->Prop}
theorem Zts {i m:Nat} {o:Oper} {fr:Bool} (h:ZCD c ops o m i fr=true):Zca m i o=true/\((ZeT c o.op = .other->Zjf m i 0 ops.toList=true)/\(ZeT c o.op≠ .other->fr=true->Zmm ops o m i 0 ops.toList=true)/\(fr=false->Zjf m i 0 ops.toList=true)):=by
  unfold ZCD at h
  cases hr:Zca m i o with
  | false=>rw [hr] at h;cases h
  | true =>
    rw [hr] at h
    simp only [cond_true] at h
    refine ⟨rfl,?_⟩
    cases hk:ZeT c o.op with
    | other=>rw [hk] at h;exact ⟨fun _=>h,fun hn=>absurd rfl hn,fun _=>h⟩
    | pure =>
      rw [hk] at h
      cases fr with
      | true=>exact ⟨fun e=>(by cases e),fun _ _=>h,fun e=>(by cases e)⟩
      | false=>exact ⟨fun e=>(by cases e),fun _ e=>(by cases e),fun _=>h⟩
    | load t x =>
      rw [hk] at h
      cases fr with
      | true=>exact ⟨fun e=>(by cases e),fun _ _=>h,fun e=>(by cases e)⟩
      | false=>exact ⟨fun e=>(by cases e),fun _ e=>(by cases e),fun _=>h⟩
    | text x =>
      rw [hk] at h
      cases fr with
      | true=>exact ⟨fun e=>(by cases e),fun _ _=>h,fun e=>(by cases e)⟩
      | false=>exact ⟨fun e=>(by cases e),fun _ e=>(by cases e),fun _=>h⟩
theorem ZoN {a b:Bool} (h:(bif a then b else false)=true):a=true/\b=true:=by
  cases a with
  | false=>cases h
  | true=>exact ⟨rfl,h⟩
theorem Zgp (hnd:Zfl ops) (hc:c.OK) (hD:D=ops.toList.filterMap (·.dst)) (hsel:Region.noSelect ops=true) {K:Env->Zc->Prop} (hKQ:∀ e' h',K e' h'->Qx .normal e' h') :
    ∀ (l:OrdT) (fuel m:Nat),l.depth<=fuel->Zoh c ops l m=true->Zjt c ops D a0 w0 Qx fuel m (Zog c ops K l)
  | .done,fuel,m,hf,hok=>by
    intro listed hd e a w hr hag hs hkp hall hk
    unfold Zog at hk
    exact ZyU (ZtR hr hok) ⟨e,hag,hs,hkp,hKQ _ _ hk⟩ fuel
  | .inv L slots tys r,fuel,m,hf,hok=>by
    intro listed hd e a w hr hag hs hkp hall hk
    unfold Zog at hk
    unfold Zoh at hok
    obtain ⟨hok,hok2⟩:=ZoN hok
    simp only [Awn] at hok
    obtain ⟨I,⟨t,hI⟩,hS,hF⟩:=hk
    have hd0:r.depth+L.length<=fuel:=hf
    refine ZFm hc hD hok.1 (Awg hok.2) (N0:=r.depth) (fun f hf'=>Zgp hnd hc hD hsel hKQ r f _ hf' hok2) hS hF L.length fuel m (fun _=>false) t listed a w (Zdr hd) hd0 Zs3 hr (fun j=>by simp) ⟨hag.size,hag.defers,fun j v hj=>?_⟩ hs hkp (fun _ _ _ _ _ h _=>by cases h) hI (fun _ h=>h)
    have hj:(bif ZbL slots j then none else e.f j)=some v:=hj
    cases hm:ZbL slots j with
    | true=>rw [hm] at hj;cases hj
    | false=>rw [hm] at hj;exact hag.val j v hj
  | .fork i r j s,0,m,hf,_=>by simp [OrdT.depth] at hf
  | .take i fr r,0,m,hf,_=>by simp [OrdT.depth] at hf
  | .fork i r j s,fuel+1,m,hf,hok=>by
    have hf1:r.depth<=fuel:=by
      have h1:Nat.max r.depth s.depth+1<=fuel+1:=hf
      have h2:r.depth<=Nat.max r.depth s.depth:=Nat.le_max_left _ _
      omega
    have hf2:s.depth<=fuel:=by
      have h1:Nat.max r.depth s.depth+1<=fuel+1:=hf
      have h2:s.depth<=Nat.max r.depth s.depth:=Nat.le_max_right _ _
      omega
    intro listed hd e a w hr hag hs hkp hall hk
    unfold Zog at hk
    unfold Zoh at hok
    split at hk
    ·rename_i o p ho hp
     rw [ho,hp] at hok
     obtain ⟨hb,hok⟩:=ZoN hok
     obtain ⟨hok1,hok2⟩:=ZoN hok
     simp only [Awn] at hb
     have ih1:=Zgp hnd hc hD hsel hKQ r fuel (Zn1 m i) hf1 hok1
     have ih2:=Zgp hnd hc hD hsel hKQ s fuel (Zn1 m j) hf2 hok2
     exact ZCt (Zzx hr hb.2.2) (hr.ready.2 ⟨o,ho,hb.1⟩) (ZrD hnd hc hD ho hr hag hs hkp hall ih1 hk.1) (ZrD hnd hc hD hp hr hag hs hkp hall ih2 hk.2)
    ·exact hk.elim
  | .take i fr r,fuel+1,m,hf,hok=>by
    have hf1:r.depth<=fuel:=Nat.le_of_succ_le_succ hf
    intro listed hd e a w hr hag hs hkp hall hk
    unfold Zog at hk
    unfold Zoh at hok
    split at hk
    ·exact hk.elim
    ·rename_i o ho
     rw [ho] at hok
     obtain ⟨hb,hok⟩:=ZoN hok
     obtain ⟨hrd,hoth,hfree,hnot⟩:=Zts hb
     have ih:=Zgp hnd hc hD hsel hKQ r fuel (Zn1 m i) hf1 hok
     have eff:Zjf m i 0 ops.toList=true->ZDA c ops o hd e w.heap (Zog c ops K r)->wpK c.rnd c.P ops (ZeD c D a0 w0 Qx) (nxt ops) (Zdr hd) (fuel+1) listed a w :=
       fun h2 hk=>ZrT (ZwX hr h2) (hr.ready.2 ⟨o,ho,hrd⟩) (ZrD hnd hc hD ho hr hag hs hkp hall ih hk)
     have hr':=hr.set (Zh4 ho)
     have hput:∀ v,X4 D a0 (a.put o.dst v):=fun v=>hkp.trans (X4.put fun x hx=>hD▸ZeY ho hx)
     have hQ:∀ c' a' v w',ZeD c D a0 w0 Qx (.panic c') (a'.put o.dst v) w'->ZeD c D a0 w0 Qx (.panic c') a' w':=fun _ _ _ _ h=>Zlk (fun x hx=>by rw [hD];exact ZeY ho hx) h
     split at hk
     ·rename_i hkd
      have hfo:Zmm ops o m i 0 ops.toList=true\/Zjf m i 0 ops.toList=true:=by
        cases fr with
        | true=>exact .inl (hfree (by rw [hkd];intro e;cases e) rfl)
        | false=>exact .inr (hnot rfl)
      unfold ZFu at hk
      rcases ZgO hag hk with ⟨e1,hag1,hw,hk⟩ | ⟨e1,hag1,hw,hk⟩
      ·obtain ⟨v,hrun,hk⟩:=Zzo hag1 hkd hk
       obtain ⟨e',hag',hk⟩:=Zdc hag1 hk
       exact ZnX hnd ho hsel hQ hr hrd hfo (v:=v.v) (.inl ⟨hw,fun w _=>hrun w trivial⟩) hall (ih _ hd e' _ w hr' hag' hs (hput _) hall hk)
      ·obtain ⟨e',hag',hk⟩:=Zdc hag1 hk
       exact ZnX hnd ho hsel hQ hr hrd hfo (v:=undef) (.inr ⟨hw,rfl⟩) hall (ih _ hd e' _ w hr' hag' hs (hput _) hall hk)
     ·rename_i t x hkd
      have hop:=Zxm hkd
      cases hf1:fr with
      | true =>
        rw [hf1] at hk
        simp only [cond_true] at hk
        refine Zr8 hnd hD hsel ho hr hag hs hkp hall ih hrd (hfree (by rw [hkd];intro e;cases e) hf1) (fun e1 hag1 hk=>?_) hk
        split at hk
        ·rename_i y hy
         obtain ⟨b,p,hp,hk⟩:=Zh8 hk
         obtain ⟨v,cells,hcells,hrun,hk⟩:=ZzC hk
         refine ⟨v,fun h'=>Z9 h' cells,ZjZ.2 hcells,fun w' hw'=>?_,hk⟩
         obtain ⟨dst,op,type,pos,after,guard⟩:=o
         simp only at hop
         subst hop
         refine ZwH (s:=Instr.loadAt t (a.eval x)) ?_
         rw [hag1.ev hy,hp]
         exact ZmP (hrun w' (ZjZ.1 hw'))
        ·exact hk.elim
      | false =>
        rw [hf1] at hk
        simp only [cond_false] at hk
        refine ZDp hnd hD ho hr hag hs hkp hall ih (fun {e K} h1 h2=>?_) hrd (hnot hf1) hk
        obtain ⟨dst,op,type,pos,after,guard⟩:=o
        simp only at hop
        subst hop
        exact ZnN h1 h2
     ·rename_i x hkd
      obtain ⟨s,d,el,hop,hus,hud,hue⟩:=Zws hkd
      cases hf1:fr with
      | true =>
        rw [hf1] at hk
        simp only [cond_true] at hk
        refine Zr8 hnd hD hsel ho hr hag hs hkp hall ih hrd (hfree (by rw [hkd];intro e;cases e) hf1) (fun e1 hag1 hk=>?_) hk
        split at hk
        ·rename_i p l n hy
         obtain ⟨str,hrun,hk⟩:=Zq0 (P:=c.P) (w:=w) (x:=⟨p,l,n⟩) (K:=fun s=>b2s ⟨p,l,n⟩ w.heap (fun s'=>s'=s)/\Zqu c.n e1 o.dst (.val (.string s)) fun e'=>Zog c ops K r ((i,fun h'=>b2s ⟨p,l,n⟩ h' fun s'=>s'=s)::hd) e' w.heap) (by
           rcases hk with ⟨h0,hk⟩ | ⟨b,o2,s,h1,h2,h3,hk⟩
           ·exact .inl ⟨h0,.inl ⟨h0,rfl⟩,hk⟩
           ·exact .inr ⟨b,o2,s,h1,h2,h3,.inr ⟨b,o2,s,h1,h2,h3,rfl⟩,hk⟩)
         refine ⟨.val (.string str),fun h'=>b2s ⟨p,l,n⟩ h' fun s'=>s'=str,hk.1,fun w' hw'=>?_,hk.2⟩
         obtain ⟨s2,hrun2,rfl⟩:=Zq0 (P:=c.P) (w:=w') hw'
         obtain ⟨dst,op,type,pos,after,guard⟩:=o
         simp only at hop
         subst hop
         refine ZwH (s:=convert s d (a.eval x)) ?_
         rw [hag1.ev hy]
         exact (Zhy hus hud hue).trans hrun2
        ·exact hk.elim
      | false =>
        rw [hf1] at hk
        simp only [cond_false] at hk
        exact eff (hnot hf1) hk
     ·rename_i hkd
      exact eff (hoth hkd) hk
end
theorem Zm6 {e:Env}:∀ {slots:List Nat} {es:List EV} {vs:List EV} {j:Nat} {v:EV},ZtG e slots=some es->es.map EV.v=vs.map EV.v->Zcd slots vs j=some v->∃ u,e j=some u/\u.v=v.v
  | [],es,vs,j,v,_,_,h=>by simp [Zcd] at h
  | s::ss,es,vs,j,v,hr,hm,h=>by
    simp only [ZtG] at hr
    split at hr
    ·rename_i u us hu hus
     simp only [Awh] at hr
     subst hr
     cases vs with
     | nil=>simp [Zcd] at h
     | cons v' vs =>
       simp only [Awo,Axy] at hm
       simp only [Zcd] at h
       cases hb:Nat.beq j s with
       | true =>
         have:=Awg hb
         subst this
         rw [hb] at h
         simp only [cond_true,Awh] at h
         subst h
         exact ⟨u,hu,hm.1⟩
       | false =>
         rw [hb] at h
         exact Zm6 hus hm.2 h
    ·cases hr
theorem ZoA {c:Cfg} {slots:List Nat} {tys:List VT} {kill:List (Nat × Nat)} {e e':Env} {a a':Act} {D:List Nat} {t:Xw tys} (hag:Agr c.n e a) (hag':Agr c.n e' a') (hkeep:X4 D a a')
    (hin:D.all (fun j=>bif Nat.beq j mkN then false else ZbL slots j||ZpR kill j)=true) (hr:Zq2 slots tys e'=some t) (hall:∀ j,ZbL slots j=true->∃ v,Zcd slots (Xw.evs tys t) j=some v) :
    Agr c.n (Zmq slots (Xw.evs tys t) kill e) a':=by
  have hmk:mkN∉D:=fun h=>by
    have:=Axc.1 hin mkN h
    rw [show Nat.beq mkN mkN=true from Axx mkN] at this
    cases this
  refine ⟨hag'.size,(hkeep.2 hmk).trans hag.defers,fun j v hj=>?_⟩
  unfold Zmq at hj
  dsimp only at hj
  unfold Zq2 at hr
  split at hr
  ·rename_i es hes
   have hm:=ZfR hr
   cases hl:Zcd slots (Xw.evs tys t) j with
   | some u =>
     rw [hl] at hj
     simp only [Awh] at hj
     subst hj
     obtain ⟨x,hx,hv⟩:=Zm6 hes hm.symm hl
     rw [<- hv]
     exact hag'.val j x hx
   | none =>
     rw [hl] at hj
     simp only at hj
     cases hk:ZpR kill j with
     | true=>rw [hk] at hj;cases hj
     | false =>
       rw [hk] at hj
       simp only [cond_false] at hj
       have hnot:j∉D:=by
         intro hD
         have:=Axc.1 hin j hD
         cases hb9:Nat.beq j mkN with
         | true=>rw [hb9] at this;cases this
         | false =>
         rw [hb9,hk,cond_false,Bool.or_false] at this
         obtain ⟨v',hv'⟩:=hall j this
         rw [hl] at hv'
         cases hv'
       rw [hkeep.1 j hnot]
       exact hag.val j v hj
  ·cases hr
theorem ZpN {e:Env}:∀ {slots:List Nat} {es vs:List EV} {j:Nat},ZtG e slots=some es->es.map EV.v=vs.map EV.v->ZbL slots j=true->∃ v,Zcd slots vs j=some v
  | [],es,vs,j,_,_,h=>by simp [ZbL] at h
  | s::ss,es,vs,j,hr,hm,h=>by
    simp only [ZtG] at hr
    split at hr
    ·rename_i u us hu hus
     simp only [Awh] at hr
     subst hr
     cases vs with
     | nil=>simp at hm
     | cons v' vs =>
       simp only [Awo,Axy] at hm
       simp only [Zcd]
       simp only [ZbL] at h
       cases hb:Nat.beq j s with
       | true=>exact ⟨v',rfl⟩
       | false =>
         rw [hb] at h
         exact ZpN hus hm.2 h
    ·cases hr
theorem ZpA {slots:List Nat} {tys:List VT} {e:Env} {t:Xw tys} (hr:Zq2 slots tys e=some t):∀ j,ZbL slots j=true->∃ v,Zcd slots (Xw.evs tys t) j=some v:=by
  intro j hj
  unfold Zq2 at hr
  split at hr
  ·rename_i es hes
   exact ZpN hes (ZfR hr).symm hj
  ·cases hr
theorem Zm9 {slots:List Nat} {tys:List VT} {e:Env} {J:Xw tys->Zc->Prop} {h:Zc} (hk:Zxq slots tys e J h):∃ t,Zq2 slots tys e=some t/\J t h:=by
  unfold Zxq at hk
  split at hk
  ·rename_i t ht
   exact ⟨t,ht,hk⟩
  ·exact hk.elim
theorem ZmN {n:Nat}:∀ {ps:List Tmp} {vs:List EV} {e e1:Env} {a:Act},Agr n e a->ZmO n e ps vs=some e1 ->
    Agr n e1 { a with tmps:=(ps.zip (vs.map EV.v)).foldl (fun t x=>t.setIfInBounds x.1 x.2) a.tmps }
  | [],[],e,e1,a,hag,h=>by
    simp only [ZmO,Awh] at h
    subst h
    exact hag
  | p::ps,v::vs,e,e1,a,hag,h=>by
    simp only [ZmO] at h
    cases hb:Nat.blt p n with
    | false=>rw [hb] at h;cases h
    | true =>
      rw [hb] at h
      exact ZmN (a:=a.put (some p) v.v) (hag.set hb v) h
  | [],_::_,e,e1,a,hag,h=>by cases h
  | _::_,[],e,e1,a,hag,h=>by cases h
theorem ZwK (ps:Array Tmp) (vs:List Value) (tmps:Array Value):(ps.zip vs.toArray).foldl (fun t x=>t.setIfInBounds x.1 x.2) tmps=(ps.toList.zip vs).foldl (fun t x=>t.setIfInBounds x.1 x.2) tmps:=by
  rw [<- Array.foldl_toList,Array.toList_zip]
theorem Zan:∀ (code:Code) (c:Cfg) (_:c.OK) (_:c.P.follows .mixedOrders=true) (ann:Ann) (e:Env) (a:Act) (w:World) (Q:Ex->Env->Zc->Prop),
    Agr c.n e a->wpC c code ann e w.heap Q->code.wpIn (fen c.rnd) 0 c.P (ZeD c (dstsOf code) a w Q) a w
  | .skip,c,hc,hmixed,ann,e,a,w,Q,hag,hk=>wpIn_skip ⟨e,hag,Same.refl w,X4.refl _ a,hk⟩
  | .region id ops draw,c,hc,hmixed,ann,e,a,w,Q,hag,hk=>by
    unfold wpC at hk
    cases draw with
    | false =>
      refine wpIn_region ?_
      rw [List.range_eq_range']
      have:=Zld hc (ops:=ops) (Q:=ZeD c (dstsOf (.region id ops false)) a w Q) ops.toList 0 (by simp) hag hk (fun e' a' w' h1 h2 h3 h4=>⟨e',h1,h2,h3,h4⟩) (fun v a' w' h2 h3 h4=>⟨v,rfl,h2,h3,h4⟩)
      simpa using this
    | true =>
      simp only at hk
      split at hk
      ·rename_i l
       obtain ⟨hb,hk⟩:=ZeB hk
       simp only [Awn] at hb
       refine wpIn_region_any hmixed (ZvY (nx:=nxt ops) _ (Zdr []) _ _ _ ?_)
       exact Zgp (ZtS hb.2.2.1) hc (D:=dstsOf (.region id ops true)) rfl hb.1 (fun _ _ h=>h) l ops.size 0 (Awt hb.2.1) hb.2.2.2 _ [] e a { w with drawn:=w.drawn+1 } (Rel.zero ops) hag ⟨rfl,rfl,rfl⟩ (X4.refl _ a) (fun q hq=>(by cases hq)) hk
      ·obtain ⟨hb,hk⟩:=ZeB hk
       simp only [Awn] at hb
       have hr0:c.rnd=none:=Axw.1 hb.1
       rw [hr0]
       refine wpIn_region_quiet (C:=Cls w w.heap) rfl hmixed hb.2 ⟨⟨rfl,rfl,rfl⟩,rfl⟩ ?_
       refine Zod hc ops.toList 0 (by simp) hag hk fun e' a' h1 h3 h4 w' hw=>⟨e',h1,hw.1,h3,?_⟩
       rw [hw.2]
       exact h4
  | .seq x y,c,hc,hmixed,ann,e,a,w,Q,hag,hk=>by
    have plain:∀ u v:Ann,wpC c x u e w.heap (ZeO (fun e' h'=>wpC c y v e' h' Q) Q)->(Code.seq x y).wpIn (fen c.rnd) 0 c.P (ZeD c (dstsOf (.seq x y)) a w Q) a w:=by
      intro u v hk
      refine wpIn_seq (wpIn_mono (Zan x c hc hmixed u e a w _ hag hk) ?_)
      intro ex a' w' hp
      cases ex<;>first
        | exact hp.elim
        | skip
      ·obtain ⟨e',h1,h2,h3,h4⟩:=hp
       refine wpIn_mono (Zan y c hc hmixed v e' a' w' _ h1 h4) ?_
       exact ZeD.mono h2 (h3.mono fun j hj=>Axz.2 (.inl hj)) (fun j hj=>Axz.2 (.inr hj)) (fun _ _ _ h=>h)
      ·obtain ⟨e',h1,h2,h3,h4⟩:=hp
       exact ⟨e',h1,h2,h3.mono fun j hj=>Axz.2 (.inl hj),h4⟩
      ·obtain ⟨e',h1,h2,h3,h4⟩:=hp
       exact ⟨e',h1,h2,h3.mono fun j hj=>Axz.2 (.inl hj),h4⟩
      ·obtain ⟨v,h1,h2,h3,h4⟩:=hp
       exact ⟨v,h1,h2,h3.mono fun j hj=>Axz.2 (.inl hj),h4⟩
    unfold wpC at hk
    split at hk
    ·rename_i slots tys kill u v
     cases hin:ZsX slots kill x with
     | false=>rw [hin] at hk;exact hk.elim
     | true =>
       rw [hin] at hk
       obtain ⟨J,hJ,hk⟩:=hk
       refine wpIn_seq (wpIn_mono (Zan x c hc hmixed u e a w _ hag hk) ?_)
       intro ex a' w' hp
       cases ex<;>first
         | exact hp.elim
         | skip
       ·obtain ⟨e',h1,h2,h3,h4⟩:=hp
        obtain ⟨t,ht,hj⟩:=Zm9 h4
        have hag2:=ZoA hag h1 h3 hin ht (ZpA ht)
        refine wpIn_mono (Zan y c hc hmixed v _ a' w' _ hag2 (hJ t w'.heap hj)) ?_
        exact ZeD.mono h2 (h3.mono fun j hj=>Axz.2 (.inl hj)) (fun j hj=>Axz.2 (.inr hj)) (fun _ _ _ h=>h)
       ·obtain ⟨e',h1,h2,h3,h4⟩:=hp
        exact ⟨e',h1,h2,h3.mono fun j hj=>Axz.2 (.inl hj),h4⟩
       ·obtain ⟨e',h1,h2,h3,h4⟩:=hp
        exact ⟨e',h1,h2,h3.mono fun j hj=>Axz.2 (.inl hj),h4⟩
       ·obtain ⟨v,h1,h2,h3,h4⟩:=hp
        exact ⟨v,h1,h2,h3.mono fun j hj=>Axz.2 (.inl hj),h4⟩
    ·exact plain _ _ hk
  | .cond x p q,c,hc,hmixed,ann,e,a,w,Q,hag,hk=>by
    have yes:∀ u,wpC c p u e w.heap Q->p.wpIn (fen c.rnd) 0 c.P (ZeD c (dstsOf (.cond x p q)) a w Q) a w:=fun u hk =>
      wpIn_mono (Zan p c hc hmixed u e a w Q hag hk) (ZeD.mono (Same.refl w) (X4.refl _ a) (fun j hj=>Axz.2 (.inl hj)) (fun _ _ _ h=>h))
    have no:∀ u,wpC c q u e w.heap Q->q.wpIn (fen c.rnd) 0 c.P (ZeD c (dstsOf (.cond x p q)) a w Q) a w:=fun u hk =>
      wpIn_mono (Zan q c hc hmixed u e a w Q hag hk) (ZeD.mono (Same.refl w) (X4.refl _ a) (fun j hj=>Axz.2 (.inr hj)) (fun _ _ _ h=>h))
    unfold wpC at hk
    split at hk
    ·rename_i hx;exact wpIn_cond_true (hag.ev hx) (yes _ hk)
    ·rename_i hx;exact wpIn_cond_false (hag.ev hx) (no _ hk)
    ·rename_i b hx
     exact wpIn_cond_split (hag.ev hx) (fun hb=>yes _ (hk.1 hb)) (fun hb=>no _ (hk.2 hb))
    ·exact hk.elim
  | .block id x,c,hc,hmixed,ann,e,a,w,Q,hag,hk=>by
    unfold wpC at hk
    refine wpIn_block (wpIn_mono (Zan x c hc hmixed _ e a w _ hag hk) ?_)
    intro ex a' w' hp
    cases ex<;>first
      | exact hp.elim
      | skip
    ·exact hp
    ·rename_i id'
     obtain ⟨e',h1,h2,h3,h4⟩:=hp
     simp only [Exit.inBlock]
     simp only [ZAS] at h4
     cases hb:Nat.beq id' id with
     | true =>
       rw [hb] at h4
       rw [if_pos (Awg hb)]
       exact ⟨e',h1,h2,h3,h4⟩
     | false =>
       rw [hb] at h4
       rw [if_neg (Awi hb)]
       exact ⟨e',h1,h2,h3,h4⟩
    ·exact hp
    ·exact hp
  | .loop x,c,hc,hmixed,ann,e,a,w,Q,hag,hk=>by
    unfold wpC at hk
    split at hk
    ·rename_i slots tys kill u
     cases hin:ZsX slots kill x with
     | false=>rw [hin] at hk;exact hk.elim
     | true =>
       rw [hin] at hk
       simp only [cond_true] at hk
       split at hk
       ·rename_i t0 ht0
        obtain ⟨I,μ,h0,hr⟩:=hk
        have hall:=ZpA ht0
        have hall':∀ (t:Xw tys) j,ZbL slots j=true->∃ v,Zcd slots (Xw.evs tys t) j=some v:=by
          intro t j hj
          obtain ⟨v,hv⟩:=hall j hj
          have len:∀ (ts:List VT) (s s':Xw ts),(Xw.evs ts s).length=(Xw.evs ts s').length:=by
            intro ts
            induction ts with
            | nil=>intro s s';rfl
            | cons x xs ih=>intro s s';simp only [Xw.evs,Aqj];exact congrArg _ (ih _ _)
          have go:∀ (ss:List Nat) (us vs:List EV),us.length=vs.length->(∃ v,Zcd ss us j=some v)->∃ v,Zcd ss vs j=some v:=by
            intro ss
            induction ss with
            | nil=>intro us vs _ h;simp [Zcd] at h
            | cons s ss ih =>
              intro us vs hlen h
              cases us with
              | nil=>simp [Zcd] at h
              | cons u us =>
                cases vs with
                | nil=>simp at hlen
                | cons v' vs =>
                  simp only [Zcd] at h ⊢
                  cases hb:Nat.beq j s with
                  | true=>exact ⟨v',rfl⟩
                  | false =>
                    rw [hb] at h
                    exact ih us vs (by simpa using hlen) h
          exact go slots _ _ (len tys t0 t) ⟨v,hv⟩
        refine wpIn_loop_ghost (fun n a' w'=>Same w w'/\X4 (dstsOf x) a a'/\∃ t,Agr c.n (Zmq slots (Xw.evs tys t) kill e) a'/\I t w'.heap/\n=μ t w'.heap)
          (μ t0 w.heap) ⟨Same.refl w,X4.refl _ a,t0,ZoA hag hag (X4.refl _ a) hin ht0 hall,h0,rfl⟩ ?_
        rintro n a' w' ⟨hs,hkeep,t,hagt,hI,rfl⟩
        refine wpIn_mono (Zan x c hc hmixed u _ a' w' _ hagt (hr t w'.heap hI)) ?_
        intro ex a2 w2 hp
        cases ex<;>first
          | exact hp.elim
          | skip
        ·obtain ⟨e2,h1,h2,h3,h4⟩:=hp
         have h5:Zxq slots tys e2 (fun s' h'=>I s' h'/\μ s' h'<μ t w'.heap) w2.heap:=h4
         obtain ⟨t2,ht2,hI2,hμ⟩:=Zm9 h5
         exact ⟨_,hμ,hs.trans h2,hkeep.trans h3,t2,ZoA hag h1 (hkeep.trans h3) hin ht2 (hall' t2),hI2,rfl⟩
        ·obtain ⟨e2,h1,h2,h3,h4⟩:=hp
         exact ⟨e2,h1,hs.trans h2,hkeep.trans h3,h4⟩
        ·obtain ⟨e2,h1,h2,h3,h4⟩:=hp
         exact ⟨e2,h1,hs.trans h2,hkeep.trans h3,h4⟩
        ·obtain ⟨v,h1,h2,h3,h4⟩:=hp
         exact ⟨v,h1,hs.trans h2,hkeep.trans h3,h4⟩
       ·exact hk.elim
    ·exact hk.elim
  | .exit id,c,hc,hmixed,ann,e,a,w,Q,hag,hk=>wpIn_exit ⟨e,hag,Same.refl w,X4.refl _ a,hk⟩
  | .ret,c,hc,hmixed,ann,e,a,w,Q,hag,hk=>wpIn_ret ⟨e,hag,Same.refl w,X4.refl _ a,hk⟩
  | .rangeFunc g ps assign body,c,hc,hmixed,ann,e,a,w,Q,hag,hk=>by
    unfold wpC at hk
    split at hk
    ·rename_i tys x y
     cases hb:(c.rnd.isNone&&e.mD.isNo) with
     | false=>rw [hb] at hk;exact hk.elim
     | true =>
       rw [hb] at hk
       simp only [cond_true] at hk
       simp only [Awn] at hb
       have hr0:c.rnd=none:=Axw.1 hb.1
       have hm0:e.mD = .no:=by
         cases h9:e.mD with
         | no=>rfl
         | at_ D9=>rw [h9] at hb;cases hb.2
         | raw d9=>rw [h9] at hb;cases hb.2
       have hd0:a.defers=[]:=by rw [hag.defers,hm0];rfl
       split at hk
       ·rename_i f cs hg
        split at hk
        ·rename_i s t hp
         obtain ⟨hmem,ht⟩:=Zlm hp
         dsimp only at hmem ht
         have hit:=hc.iters _ hmem
         dsimp only at hit
         have hg':a.eval g=Value.func (.func f) #[] ⟨cs⟩:=hag.ev hg
         rw [hr0]
         refine wpIn_rangeFunc ?_
         intro fn hfn
         obtain ⟨r,hr⟩:∃ r:Loop,r={ state:= .ready,pending:=none,fn,tmps:=a.tmps,params:=ps,assign,body,defers:=w.heap.size }:=⟨_,rfl⟩
         have hsem:=hk r
         clear hk
         obtain ⟨W1,hW1⟩:∃ W1,(w.alloc (.deferred (some []))).alloc (Zkt r .ready none)=W1:=⟨_,rfl⟩
         have hh1:W1.heap=(w.heap.push (.deferred (some []))).push (Zkt r .ready none):=by rw [<- hW1];rfl
         have hs1:Same w W1:=by rw [<- hW1];exact ⟨rfl,rfl,rfl⟩
         rw [<- hh1] at hsem
         have hY:YOK c.P (ZAk r (w.heap.size+1) ps.size (fun vs h' k=>ZFI (fun a:Xw tys=>(Xw.evs tys a).map EV.v) vs fun a=>match ZmO c.n ⟨e.f,.no⟩ ps.toList (Xw.evs tys a) with
           | some e1=>wpC { c with rnd:=some (w.heap.size+1),pan:=fun _ _=>False } assign x e1 h' (ZAA fun e2 h2 =>
               ZFC r (w.heap.size+1) h2 fun h3=>wpC { c with rnd:=some (w.heap.size+1),pan:=fun _ _=>False } body y e2 h3 (ZAz k))
           | none=>False)):=by
           intro l vs k W hy
           obtain ⟨rfl,hlen,hrec,hargs⟩:=hy
           obtain ⟨ta,rfl,hargs⟩:=hargs
           split at hargs
           ·rename_i e1 he1
            have hrl:W.heap[w.heap.size+1]?=some (.loop { r with state:= .ready,pending:=none }):=hrec
            have hy:=run_yield (P:=c.P) (args:=((Xw.evs tys ta).map EV.v).toArray) hrl (by rw [hr];simpa using hlen)
            refine ⟨fn,(ps.zip ((Xw.evs tys ta).map EV.v).toArray).foldl (fun t x=>t.setIfInBounds x.1 x.2) a.tmps,assign,body,by rw [hr] at hy;exact hy,?_⟩
            have hag1:Agr c.n e1 { tmps:=(ps.toList.zip ((Xw.evs tys ta).map EV.v)).foldl (fun t x=>t.setIfInBounds x.1 x.2) a.tmps,defers:=[]} :=
              ZmN (e:=⟨e.f,.no⟩) (a:={ a with defers:=[]}) ⟨hag.size,rfl,hag.val⟩ he1
            have hc1:=hc.at (some (w.heap.size+1)) (fun _ _=>False)
            rw [<- ZwK] at hag1
            refine roundIn_of_wpIn hfn ?_
            refine wpIn_mono (Zan assign _ hc1 hmixed x e1 _ W _ hag1 hargs) ?_
            intro ex a1 w1 hp1
            cases ex with
            | normal =>
              obtain ⟨e2,hag2,hs2,hk2,hrec2,hb2⟩:=hp1
              have hrl2:w1.heap[w.heap.size+1]?=some (.loop { r with state:= .ready,pending:=none }):=hrec2
              refine ⟨_,run_beginRound hrl2 rfl,?_⟩
              refine wpIn_mono (Zan body _ hc1 hmixed y e2 a1 (w1.putObj (w.heap.size+1) (.loop { r with state:= .busy,pending:=none })) _ hag2 hb2) ?_
              have hs3:Same W (w1.putObj (w.heap.size+1) (.loop { r with state:= .busy,pending:=none })):=hs2.trans ⟨rfl,rfl,rfl⟩
              have fin:∀ (p:Option Code) (W3:World),Same (w1.putObj (w.heap.size+1) (.loop { r with state:= .busy,pending:=none })) W3 ->
                  Zt2 W3.heap (w.heap.size+1) r .busy none (k p.isNone (ZAw W3.heap (w.heap.size+1) (Zkt r (if p.isNone then .ready else .done) p))) ->
                  ∃ v w',(Instr.endRound (w.heap.size+1) p).run c.P W3 = .ok v w'/\∃ b,Ending.returned v = .returned (.bool b)/\Same W w'/\k b w'.heap:=by
                intro p W3 hs4 hk4
                have hrl3:W3.heap[w.heap.size+1]?=some (.loop { r with state:= .busy,pending:=none }):=hk4.1
                exact ⟨_,_,run_endRound p hrl3,p.isNone,rfl,(hs3.trans hs4).trans ⟨rfl,rfl,rfl⟩,hk4.2⟩
              intro ex3 a3 w3 hp3
              cases ex3 with
              | normal=>obtain ⟨e3,_,hs4,_,hk4⟩:=hp3;exact fin none w3 hs4 hk4
              | ret=>obtain ⟨e3,_,hs4,_,hk4⟩:=hp3;exact fin (some .ret) w3 hs4 hk4
              | exit id=>obtain ⟨e3,_,hs4,_,hk4⟩:=hp3;exact fin (some (.exit id)) w3 hs4 hk4
              | goto t=>exact hp3.elim
              | panic ch=>obtain ⟨_,_,_,_,hk4⟩:=hp3;exact hk4.elim
              | outgrown=>exact hp3.elim
            | ret=>obtain ⟨_,_,_,_,hk4⟩:=hp1;exact hk4.elim
            | exit id=>obtain ⟨_,_,_,_,hk4⟩:=hp1;exact hk4.elim
            | goto t=>exact hp1.elim
            | panic ch=>obtain ⟨_,_,_,_,hk4⟩:=hp1;exact hk4.elim
            | outgrown=>exact hp1.elim
           ·exact hargs.elim
         have hok:=hit _ hY
         obtain ⟨⟨fd,hf,hname,hbody⟩,hcall⟩:=hok
         have hargs:(#[Value.func (.yield (w.heap.size+1)) #[] #[]]:Array Value)++(⟨cs⟩:Array Value)=((Xw.evs (.yl::s.caps) (w.heap.size+1,t)).map EV.v).toArray:=by
           have h5:=ZfR ht
           have h6:(cs.map EV.val).map EV.v=cs:=by simp [Function.comp_def,EV.v]
           rw [h6] at h5
           simp only [Xw.evs,Awo,h5]
           simp [VT.ev,EV.v]
         refine ⟨w.heap.size+1,[{ target:= .collected w.heap.size,args:= #[]}],W1,{ target:= .fn (.func f) ⟨cs⟩,args:= #[.func (.yield (w.heap.size+1)) #[] #[]]},W1,f,
           #[.func (.yield (w.heap.size+1)) #[] #[]]++(⟨cs⟩:Array Value),W1,?_,?_,?_,?_,fun h=>(by cases h),Zg3.2 ?_⟩
         ·rw [<- hW1,hr]
          exact run_enterLoop_outer fn a.tmps ps assign body
         ·simp only [resolve,hg']
          simp [Deferred.ofValue,Act.eval]
         ·intro f' hf';exact trivial
         ·simp only [invoke,callFunc,Awk,run_program,Awl,hf,hname,Aqc,if_false,hbody,Awp]
         ·rw [hargs]
          refine (hcall (w.heap.size+1,t) (fun _ h'=>∃ st p,st≠ .busy/\Zt2 h' (w.heap.size+1) r st p (ZFl p (Q .normal ⟨e.f,.at_ w.heap.size⟩ (ZAw h' (w.heap.size+1) (Zkt r .exhausted p)))
            (fun id=>Q (.exit id) ⟨e.f,.at_ w.heap.size⟩ (ZAw h' (w.heap.size+1) (Zkt r .exhausted p))) (Q .ret ⟨e.f,.at_ w.heap.size⟩ (ZAw h' (w.heap.size+1) (Zkt r .exhausted p))))) (fun _ _=>False) W1 hsem).mono ?_
          rintro ending w2 (⟨rr,rfl,hs2,st,p,hst,hrec,hj⟩ | ⟨v,rfl,hs2,hk⟩)
          ·have hrl:w2.heap[w.heap.size+1]?=some (.loop { r with state:=st,pending:=p }):=hrec
           have hend:=run_endLoop (P:=c.P) hrl (by exact hst)
           have hs3:Same w (w2.putObj (w.heap.size+1) (Zkt r .exhausted p)):=(hs1.trans hs2).trans ⟨rfl,rfl,rfl⟩
           have hag3:Agr c.n ⟨e.f,.at_ w.heap.size⟩ { a with defers:=[{ target:= .collected w.heap.size,args:= #[]}]++a.defers }:=⟨hag.size,by rw [hd0];rfl,hag.val⟩
           have hk3:X4 (dstsOf (.rangeFunc g ps assign body)) a { a with defers:=[{ target:= .collected w.heap.size,args:= #[]}]++a.defers }:=⟨fun _ _=>rfl,fun h=>absurd (Axu.2 rfl) h⟩
           refine ⟨p,_,hend,?_⟩
           cases p with
           | none=>exact ⟨_,hag3,hs3,hk3,hj⟩
           | some cj =>
             cases cj with
             | exit id=>exact wpIn_exit ⟨_,hag3,hs3,hk3,hj⟩
             | ret=>exact wpIn_ret ⟨_,hag3,hs3,hk3,hj⟩
             | _=>exact hj.elim
          ·exact hk.elim
        ·exact hk.elim
       ·exact hk.elim
    ·exact hk.elim
  | .scope _,c,hc,hmixed,ann,e,a,w,Q,hag,hk=>hk.elim
  | .label _,c,hc,hmixed,ann,e,a,w,Q,hag,hk=>hk.elim
  | .goto _,c,hc,hmixed,ann,e,a,w,Q,hag,hk=>hk.elim
  | .refuse _,c,hc,hmixed,ann,e,a,w,Q,hag,hk=>hk.elim
theorem Zj6:∀ (args:List EV) (i:Nat) (j:Nat) (v:EV),ZiS.go args i j=some v->∃ k,j=i+k/\args[k]?=some v
  | [],i,j,v,h=>by simp [ZiS.go] at h
  | x::xs,i,j,v,h=>by
    simp only [ZiS.go] at h
    cases hb:Nat.beq j i with
    | true =>
      rw [hb] at h
      simp only [cond_true,Awh] at h
      exact ⟨0,Awg hb,by simp [h]⟩
    | false =>
      rw [hb] at h
      obtain ⟨k,hk,hv⟩:=Zj6 xs (i+1) j v h
      exact ⟨k+1,by omega,by simpa using hv⟩
theorem Zi9 {c:Cfg} {e:Env} {a:Act} {w:World} (hag:Agr c.n e a) {f:ResultVar->Sem Value} (h1:∀ t,f (.tmp t)=pure (a.tmps.getD t undef))
    (h2:∀ x t,f (.cell x t)=(do loadVar t (<- asAddr (a.tmps.getD x undef)))):∀ {rs:List ResultVar} {K:List EV->Prop},Zuo c e w.heap rs K ->
    ∃ vs,(rs.mapM f).run c.P w = .ok (vs.map EV.v) w/\K vs
  | [],K,hk=>⟨[],rfl,hk⟩
  | .tmp t::r,K,hk=>by
    simp only [Zuo] at hk
    split at hk
    ·rename_i v hv
     obtain ⟨vs,hr,hk⟩:=Zi9 hag h1 h2 hk
     refine ⟨v::vs,?_,hk⟩
     have:=hag.val t v hv
     rw [Axa]
     simp only [h1,Awk,Awp,Awl,hr,Awo]
     simp [this]
    ·exact hk.elim
  | .cell x t::r,K,hk=>by
    simp only [Zuo] at hk
    split at hk
    ·rename_i b o hv
     obtain ⟨v,hl,hk⟩:=ZsD hk
     obtain ⟨vs,hr,hk⟩:=Zi9 hag h1 h2 hk
     refine ⟨v::vs,?_,hk⟩
     have:=hag.val x _ hv
     have hx:(asAddr (a.tmps.getD x undef)).run c.P w = .ok ⟨b,o,none⟩ w:=by
       have:a.tmps.getD x undef = .pointer (some ⟨b,o,none⟩):=by simp [this,EV.v]
       rw [this];rfl
     rw [Axa]
     simp only [h2,Awk,Awp,hx,Awl,hl w rfl,hr,Awo]
    ·exact hk.elim
def ZLG (l:List Value):Value:=match l with
  | [v]=>v
  | l=> .tuple l.toArray
theorem Zwo:∀ (vs:List EV),(Zfg vs).v=ZLG (vs.map EV.v)
  | []=>rfl
  | [_]=>rfl
  | _::_::_=>rfl
theorem Zpk (l:List Value):(if h:l.toArray.size=1 then l.toArray[0] else Value.tuple l.toArray)=ZLG l:=by
  match l with
  | []=>rfl
  | [x]=>rfl
  | x::y::r =>
    have:¬ (x::y::r).toArray.size=1:=by simp
    rw [dif_neg this]
    rfl
theorem ZwM {res:List VT} {vs:List EV} {r:Xw res} (h:Xw.un res vs=some r):ZAB res r=ZLG (vs.map EV.v):=by
  unfold ZAB
  rw [Zwo,ZfR h]
theorem Zt5 {c:Cfg} (hc:c.OK) (hmixed:c.P.follows .mixedOrders=true) {f:FuncId} {fn:Func} {ann:Ann} {args:List EV} {res:List VT} {K:Xw res->Zc->Prop} {Kp:Value->Zc->Prop} {w:World}
    (hf:c.P.funcs[f]?=some fn) (hn:c.n=fn.ntmps) (hlen:args.length<=fn.ntmps) (hk:ZFR c fn ann args res K Kp w.heap) :
    Calls c.P f (args.map EV.v).toArray w (Zen res w K Kp):=by
  unfold ZFR at hk
  split at hk
  ·rename_i code hb
   refine Zg3 (r:=none) (n:=0).1 (callsIn_of_wp_marks hf hb trivial ?_)
   have hag:Agr c.n (ZiS args) { tmps:=(args.map EV.v).toArray++Array.replicate (fn.ntmps - (args.map EV.v).toArray.size) undef,defers:=[]}:=by
     refine ⟨by simp [hn];omega,rfl,fun j v hj=>?_⟩
     obtain ⟨k,hk,hv⟩:=Zj6 args 0 j v hj
     have hlt:k<args.length:=by
       rcases Aqd k args.length with h | h
       ·exact h
       ·rw [Aqt h] at hv;cases hv
     simp only [Awb] at hk
     subst hk
     simp [hlt,Aya]
     have h5:=Ayb hlt
     rw [hv] at h5
     exact congrArg EV.v (Option.some.inj h5.symm)
   refine wpIn_mono (Zan code _ (hc.at none (bif ZDi code then fun _ _=>False else Kp)) hmixed ann _ _ w _ hag hk) ?_
   have res_:∀ (a':Act) (w1:World) (e':Env),Agr c.n e' a'->Same w w1->(Zuo c e' w1.heap fn.results.toList fun vs=>match Xw.un res vs with
       | some r=>K r w1.heap
       | none=>False)->∃ v,(results fn a'.tmps).run c.P w1 = .ok v w1/\Zen res w K Kp (.returned v) w1:=by
     intro a' w1 e' h1 h2 h4
     obtain ⟨vs,hr,hk⟩:=Zi9 (f:=fun
       | .tmp t=>pure (a'.tmps.getD t undef)
       | .cell x t=>do loadVar t (<- asAddr (a'.tmps.getD x undef))) h1 (fun _=>rfl) (fun _ _=>rfl) h4
     split at hk
     ·rename_i r hun
      refine ⟨ZAB res r,?_,.inl ⟨r,rfl,h2,hk⟩⟩
      unfold results
      rw [Axb]
      simp only [Awk,Sem.run_map]
      have hr':=hr
      refine (congrArg (fun r=>(Result.andThen (Result.andThen r _) _)) hr').trans ?_
      simp only [Awl,Awp]
      rw [ZwM hun]
      exact congrArg (fun v=>Result.ok v w1) (Zpk _)
     ·exact hk.elim
   have fin:∀ (a':Act) (w':World) (e':Env),Agr c.n e' a'->Same w w'->(match e'.mD with
       | .no=>Zuo c e' w'.heap fn.results.toList fun vs=>match Xw.un res vs with
         | some r=>K r w'.heap
         | none=>False
       | .at_ D=>ZEU D w'.heap fun h'=>Zuo c e' h' fn.results.toList fun vs=>match Xw.un res vs with
         | some r=>K r h'
         | none=>False
       | .raw _=>False)->LeavesInM (fen none) 0 c.P fn a'.tmps (Zen res w K Kp) a'.defers .returning w':=by
     intro a' w' e' h1 h2 h4
     rw [h1.defers]
     cases hm:e'.mD with
     | raw ds=>rw [hm] at h4;exact h4.elim
     | no =>
       rw [hm] at h4
       exact res_ a' w' e' h1 h2 h4
     | at_ D =>
       rw [hm] at h4
       obtain ⟨hD,h4⟩:=h4
       refine ⟨by simp,.inl ⟨D,_,rfl,run_takeDeferred hD,?_⟩⟩
       exact res_ a' (w'.putObj D (.deferred none)) e' h1 (h2.trans ⟨rfl,rfl,rfl⟩) h4
   intro ex a' w' hp
   cases ex with
   | normal=>obtain ⟨e',h1,h2,h3,h4⟩:=hp;exact fin a' w' e' h1 h2 h4
   | ret=>obtain ⟨e',h1,h2,h3,h4⟩:=hp;exact fin a' w' e' h1 h2 h4
   | exit id=>obtain ⟨e',h1,h2,h3,h4⟩:=hp;exact h4.elim
   | goto t=>exact hp.elim
   | outgrown=>exact hp.elim
   | panic ch =>
     obtain ⟨v,rfl,h2,h3,h4⟩:=hp
     cases hrf:ZDi code with
     | true=>rw [hrf] at h4;exact h4.elim
     | false =>
       rw [hrf] at h4
       have hmk:mkN∉dstsOf code:=by
         have key:∀ (l:List Nat),ZbL l mkN=false->mkN∉l:=by
           intro l
           induction l with
           | nil=>intro _ h;cases h
           | cons x xs ih =>
             intro h hm
             simp only [ZbL] at h
             cases hb:Nat.beq mkN x with
             | true=>rw [hb] at h;cases h
             | false =>
               rw [hb] at h
               rcases Awr.1 hm with he | hm
               ·rw [<- he,Axx] at hb;cases hb
               ·exact ih h hm
         exact key _ hrf
       rw [show bodyPostM (fen none) 0 c.P fn (Zen res w K Kp) (.panic [{ v,recovered:=false }]) a' w'=LeavesInM (fen none) 0 c.P fn a'.tmps (Zen res w K Kp) a'.defers (.panicking [{ v,recovered:=false }]) w' from rfl,h3.2 hmk]
       exact .inr ⟨v,rfl,h2,h4⟩
  ·exact hk.elim
end Go.Fw
