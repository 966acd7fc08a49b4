/- Why a reading is right: regions. -/
import Derived.Sort.LoopGhostIn
import Derived.KernelRfl
import Derived.Laws.Externs
import GoSem.Extern.MapsClone
import Derived.Shelf.SlIterI.Nil
import Derived.Shelf.SortM.Plain
import Derived.Shelf.SortM.SortNone
import Derived.Maps.OwnSet
import Derived.Test.YthbfgkphlmlihaaGreatProg
import Derived.Test.YthbfgkphlmlihaaGreatPa5
set_option linter.unusedVariables false
set_option linter.unusedSimpArgs false
namespace Go.Fw
open Go
structure Xx (D:List Nat) (a a':Act):Prop where
  tmps:∀ j,j∉D→a'.tmps[j]?=a.tmps[j]?
  marks:mkN∉D→a'.defers=a.defers
theorem Xx.refl (D:List Nat) (a:Act):Xx D a a:=⟨fun _ _=>rfl,fun _=>rfl⟩
theorem Xx.trans {D:List Nat} {a b d:Act} (h:Xx D a b) (h':Xx D b d):Xx D a d:=⟨fun j hj=>(h'.1 j hj).trans (h.1 j hj),fun hj=>(h'.2 hj).trans (h.2 hj)⟩
theorem Xx.mono {D D':List Nat} {a b:Act} (h:Xx D a b) (hs:∀ j,j∈D→j∈D'):Xx D' a b:=⟨fun j hj=>h.1 j fun hj'=>hj (hs j hj'),fun hj=>h.2 fun hj'=>hj (hs _ hj')⟩
theorem put_defers (a:Act) (d:Option Tmp) (v:Value):(a.put d v).defers=a.defers:=by cases d<;>rfl
theorem Xx.put {D:List Nat} {a:Act} {d:Option Tmp} {v:Value} (h:∀ x,d=some x→x∈D):Xx D a (a.put d v):=by
  refine ⟨?_,fun _=>put_defers a d v⟩
  intro j hj
  cases d with
  | none=>rfl
  | some x =>
    have hne:x≠j:=fun he=>hj (he▸h x rfl)
    simp [Act.put,Array.getElem?_setIfInBounds_ne hne]
theorem Ziu {ops:Array Oper} {a:Act} {j t:Nat} (h:Zd5 ops.toList j=some t):yielded ops a.tmps j=match a.tmps[t]? with | some (.bool b)=>some b | _=>none:=by
  unfold Zd5 at h
  unfold yielded
  rw [show ops.toList[j]?=ops[j]? from by simp] at h
  rw [h]
  rfl
theorem ZgX {ops:Array Oper} {a:Act} {j:Nat} (h:Zd5 ops.toList j=none):yielded ops a.tmps j=none:=by
  unfold Zd5 at h
  unfold yielded
  rw [show ops.toList[j]?=ops[j]? from by simp] at h
  rw [h]
  rfl
inductive Step (c:Cfg) (one:Oper→Env→Zc→(Env→Zc→Prop)→Prop) (ops:Array Oper) (o:Oper) (a:Act) (h:Zc) (K:Env→Zc→Prop):Prop
  | does (e:Env) (ha:Agr c.n e a) (hw:Region.wanted o (yielded ops a.tmps)=true) (hk:one o e h K)
  | skips (e:Env) (ha:Agr c.n e a) (hw:Region.wanted o (yielded ops a.tmps)=false) (hk:Zix c o e h K)
theorem ZhC {c:Cfg} {one:Oper→Env→Zc→(Env→Zc→Prop)→Prop} {ops:Array Oper} {o:Oper} {os:List Oper} {e:Env} {a:Act} {h:Zc} {K:Env→Zc→Prop}
    (hag:Agr c.n e a) (hk:Zc3 c one ops.toList (o::os) e h K):Step c one ops o a h (fun e' h'=>Zc3 c one ops.toList os e' h' K):=by
  unfold Zc3 at hk
  split at hk
  ·rename_i hg
   exact .does e hag (by simp [Region.wanted,hg]) hk
  ·rename_i j want hg
   split at hk
   ·rename_i hs
    exact .skips e hag (by simp [Region.wanted,hg,ZgX hs]) hk
   ·rename_i t hs
    have hy:=Ziu (a:=a) hs
    split at hk
    ·rename_i b ht
     have ht':a.tmps[t]?=some (.bool b):=hag.val t _ ht
     rw [ht'] at hy
     split at hk
     ·exact .does e hag (by simp [Region.wanted,hg,hy]) hk
     ·exact .does e hag (by simp [Region.wanted,hg,hy]) hk
     ·exact .skips e hag (by simp [Region.wanted,hg,hy]) hk
     ·exact .skips e hag (by simp [Region.wanted,hg,hy]) hk
    ·rename_i b ht
     have ht':a.tmps[t]?=some (.bool b):=hag.val t _ ht
     rw [ht'] at hy
     split at hk
     ·cases b with
      | true=>exact .does _ (hag.tell ht) (by simp [Region.wanted,hg,hy]) (hk.1 rfl)
      | false=>exact .skips _ (hag.tell ht) (by simp [Region.wanted,hg,hy]) (hk.2 rfl)
     ·cases b with
      | true=>exact .skips _ (hag.tell ht) (by simp [Region.wanted,hg,hy]) (hk.1 rfl)
      | false=>exact .does _ (hag.tell ht) (by simp [Region.wanted,hg,hy]) (hk.2 rfl)
    ·rename_i v hv1 hv2 ht
     have ht':a.tmps[t]?=some v.v:=hag.val t _ ht
     refine .skips e hag ?_ hk
     have:yielded ops a.tmps j=none:=by
       rw [hy,ht']
       cases v with
       | val u=>cases u<;>first | rfl | exact absurd rfl (hv2 _)
       | lit b=>exact absurd rfl (hv1 b)
       | adr b o=>rfl
       | itr t b=>rfl
       | more k v=>rfl
       | over=>rfl
     simp [Region.wanted,hg,this]
    ·exact hk.elim
theorem Zfp {ops:Array Oper} {k:Nat} {o:Oper} {x:Nat} (ho:ops[k]?=some o) (hx:o.dst=some x):x∈ops.toList.filterMap (·.dst):=by
  refine List.mem_filterMap.2 ⟨o,?_,hx⟩
  exact List.mem_of_getElem? (i:=k) (by simpa using ho)
theorem ZhB {c:Cfg} (hc:c.OK) {ops:Array Oper} {Q:Exit→Act→World→Prop}:∀ (l:List Oper) (k:Nat),(∀ j,l[j]?=ops[k+j]?) →
    ∀ {e:Env} {a:Act} {w:World} {K:Env→Zc→Prop},Agr c.n e a→Zc3 c (Zul c) ops.toList l e w.heap K →
    (∀ e' a' w',Agr c.n e' a'→Same w w'→Xx (ops.toList.filterMap (·.dst)) a a'→K e' w'.heap→Q .normal a' w') →
    (∀ v a' w',Same w w'→Xx (ops.toList.filterMap (·.dst)) a a'→c.pan v w'.heap→Q (.panic [{ v,recovered:=false }]) a' w')→wpOpsIn (fen c.rnd) 0 c.P ops Q (List.range' k l.length) a w
  | [],k,hl,e,a,w,K,hag,hk,hQ,_=>hQ e a w hag (Same.refl w) (Xx.refl _ a) hk
  | o::os,k,hl,e,a,w,K,hag,hk,hQ,hP=>by
    have ho:ops[k]?=some o:=by have:=hl 0;simpa using this.symm
    have hl':∀ j,os[j]?=ops[k+1+j]?:=fun j=>by have:=hl (j+1);rw [show k+1+j=k+(j+1) from by omega,← this];rfl
    have hput:∀ v,Xx (ops.toList.filterMap (·.dst)) a (a.put o.dst v):=fun v=>Xx.put fun x hx=>Zfp ho hx
    simp only [List.length_cons,List.range'_succ,wpOpsIn,ho]
    cases ZhC hag hk with
    | does e hag hw hk =>
      rw [if_pos hw]
      refine Zuh hc hag (fun v w' hs hp=>hP v a w' hs (Xx.refl _ a) hp) hk fun v w' hs hk=>?_
      obtain ⟨e',hag',hk⟩:=Zbj hag hk
      exact ZhB hc os (k+1) hl' hag' hk (fun e'' a'' w'' h1 h2 h3 h4=>hQ e'' a'' w'' h1 (hs.trans h2) ((hput _).trans h3) h4)
        (fun v a'' w'' h2 h3 h4=>hP v a'' w'' (hs.trans h2) ((hput _).trans h3) h4)
    | skips e hag hw hk =>
      rw [if_neg (by simp [hw])]
      obtain ⟨e',hag',hk⟩:=Zbj hag hk
      exact ⟨fun _ _=>trivial,ZhB hc os (k+1) hl' hag' hk (fun e'' a'' w'' h1 h2 h3 h4=>hQ e'' a'' w'' h1 h2 ((hput _).trans h3) h4)
        (fun v a'' w'' h2 h3 h4=>hP v a'' w'' h2 ((hput _).trans h3) h4)⟩
def Cls (w0:World) (h:Zc) (w:World):Prop:=Same w0 w∧w.heap=h
theorem Zl8 {c:Cfg} {o:Oper} {a:Act} {w0:World} {h:Zc} {v:EV} (hr:∀ w:World,w.heap=h→(execOp a.eval o).run c.P w = .ok (.value v.v) w) :
    ∀ w,Cls w0 h w→o.quietAtIn (fen none) 0 c.P a (Cls w0 h) w v.v:=by
  intro w hw
  unfold Oper.quietAtIn
  rw [hr w hw.2]
  exact ⟨rfl,rfl⟩
theorem Xa {c:Cfg} {o:Oper} {a:Act} {w0:World} {h:Zc} {K:EV→Zc→Prop} {next:Act→Prop} (hq:Zll c o a h K) (hn:∀ v,K v h→next (a.put o.dst v.v)) :
    o.quietIn (fen none) 0 c.P a (Cls w0 h) next :=
  let ⟨v,hr,hk⟩:=hq
  ⟨v.v,Zl8 hr,hn v hk⟩
theorem Zkd {c:Cfg} (hc:c.OK) {e:Env} {a:Act} {w0:World} {h:Zc} {o:Oper} {K:EV→Zc→Prop} {next:Act→Prop} (hag:Agr c.n e a) (hk:ZlA c o.op e h K)
    (hn:∀ v,K v h→next (a.put o.dst v.v)):o.quietIn (fen none) 0 c.P a (Cls w0 h) next:=by
  obtain ⟨dst,op,type,pos,after,guard⟩:=o
  cases op
  case move=>exact Xa (Zjj hag hk).q hn
  case assign=>exact Xa (Zgs hag hk).q hn
  case pick=>exact Xa (Zji hag hk).q hn
  case load=>exact Xa (Zjl hag hk) hn
  case nilCheck=>exact Xa (ZeG hag hk).q hn
  case binOp=>exact Xa (Zht hag hk).q hn
  case unOp=>exact Xa (Zjh hag hk).q hn
  case slice=>exact Xa (Zhp hag hk).q hn
  case fieldAddr=>exact Xa (Zec hag hk).q hn
  case field=>exact Xa (Zhr hag hk).q hn
  case indexAddr=>exact Xa (Zeb hag hk).q hn
  case index=>exact Xa (Zhq hag hk).q hn
  case extract=>exact Xa (ZfB hag hk).q hn
  case build=>exact Xa (Zhs hag hk).q hn
  case makeFunc=>exact Xa (ZeH hag hk).q hn
  case convert s d x =>
    simp only [ZlA] at hk
    split at hk
    ·rename_i j k hs hd
     exact Xa (ZeI hag hs hd hk).q hn
    ·exact hk.elim
  case call cl =>
    unfold ZlA at hk
    split at hk<;>first
      | exact hk.elim
      | (rename_i ho;cases ho)
    ·exact Xa (ZnZ hag hk) hn
    ·exact Xa (Yk hag (.inr (.inl rfl)) hk).q hn
    ·exact Xa (Yk hag (.inr (.inr (.inl rfl))) hk).q hn
    ·exact Xa (Yk hag (.inr (.inr (.inr rfl))) hk).q hn
    ·rename_i f args ts
     split at hk
     ·rename_i es he
      split at hk
      ·rename_i s t hp
       obtain ⟨hmem,ht⟩:=ZeS hp
       dsimp only at hmem ht
       obtain ⟨r,hm,hk⟩:=hk
       refine ⟨(Zde (Xi.evs s.res r)).v,fun w hw=>?_,hn _ hk⟩
       have hargs:=Zbh hag he
       obtain ⟨⟨fn,hf,hname,hbody⟩,hcall⟩:=hc.calls _ hmem
       have henter:(execOp a.eval ⟨dst,.call ⟨.value (.func f),args,ts⟩,type,pos,after,guard⟩).run c.P w = .ok (.enter f (args.map a.eval)) w:=by
         simp only [execOp,resolve,Act.eval,Deferred.ofValue,Sem.run_bind,Sem.run_pure,Result.andThen_ok,invoke,callFunc,run_program,hf,hname,Bool.false_eq_true,if_false,hbody]
         simp
       unfold Oper.quietAtIn
       rw [henter]
       refine ⟨rfl,fun h=>(by cases h),Zev.2 ?_⟩
       rw [hargs,← Zee ht]
       refine (hcall t (fun r' h'=>r'=r∧h'=h) (fun _ _=>False) w (by rw [hw.2];exact hm)).mono ?_
       rintro ending w' (⟨r',rfl,hsame,rfl,hh⟩ | ⟨v,rfl,hsame,hk⟩)
       ·exact ⟨rfl,hw.1.trans hsame,hh⟩
       ·exact hk.elim
      ·exact hk.elim
     ·exact hk.elim
  all_goals exact hk.elim
theorem Zjw {c:Cfg} (hc:c.OK) {ops:Array Oper} {w0:World} {Q:Act→Prop} {h:Zc}:∀ (l:List Oper) (k:Nat),(∀ j,l[j]?=ops[k+j]?) →
    ∀ {e:Env} {a:Act} {K:Env→Zc→Prop},Agr c.n e a→Zc3 c (Zoi c) ops.toList l e h K →
    (∀ e' a',Agr c.n e' a'→Xx (ops.toList.filterMap (·.dst)) a a'→K e' h→Q a')→wpQuietIn (fen none) 0 c.P ops (Cls w0 h) Q l a
  | [],k,hl,e,a,K,hag,hk,hQ=>hQ e a hag (Xx.refl _ a) hk
  | o::os,k,hl,e,a,K,hag,hk,hQ=>by
    have ho:ops[k]?=some o:=by have:=hl 0;simpa using this.symm
    have hl':∀ j,os[j]?=ops[k+1+j]?:=fun j=>by have:=hl (j+1);rw [show k+1+j=k+(j+1) from by omega,← this];rfl
    have hput:∀ v,Xx (ops.toList.filterMap (·.dst)) a (a.put o.dst v):=fun v=>Xx.put fun x hx=>Zfp ho hx
    unfold wpQuietIn
    refine ⟨fun _ _ _ _=>trivial,?_⟩
    cases ZhC hag hk with
    | does e hag hw hk =>
      rw [if_pos hw]
      refine Zkd hc hag hk fun v hk=>?_
      obtain ⟨e',hag',hk⟩:=Zbj hag hk
      exact Zjw hc os (k+1) hl' hag' hk fun e'' a'' h1 h3 h4=>hQ e'' a'' h1 ((hput _).trans h3) h4
    | skips e hag hw hk =>
      rw [if_neg (by simp [hw])]
      obtain ⟨e',hag',hk⟩:=Zbj hag hk
      exact Zjw hc os (k+1) hl' hag' hk fun e'' a'' h1 h3 h4=>hQ e'' a'' h1 ((hput _).trans h3) h4
def Zdb (c:Cfg) (D:List Nat) (a:Act) (w:World) (Q:Ex→Env→Zc→Prop):Exit→Act→World→Prop
  | .normal,a',w'=>∃ e',Agr c.n e' a'∧Same w w'∧Xx D a a'∧Q .normal e' w'.heap
  | .exit id,a',w'=>∃ e',Agr c.n e' a'∧Same w w'∧Xx D a a'∧Q (.exit id) e' w'.heap
  | .ret,a',w'=>∃ e',Agr c.n e' a'∧Same w w'∧Xx D a a'∧Q .ret e' w'.heap
  | .panic chain,a',w'=>∃ v,chain=[{ v,recovered:=false }]∧Same w w'∧(mkN∉D→a'.defers=a.defers)∧c.pan v w'.heap
  | _,_,_=>False
theorem Zdb.mono {c:Cfg} {D D':List Nat} {a a1:Act} {w w1:World} {Q Q':Ex→Env→Zc→Prop} (hs:Same w w1) (hk:Xx D' a a1) (hd:∀ j,j∈D→j∈D') (hq:∀ x e h,Q x e h→Q' x e h) :
    ∀ x a' w',Zdb c D a1 w1 Q x a' w'→Zdb c D' a w Q' x a' w':=by
  intro x a' w' h
  cases x<;>first
    | exact h.elim
    | (obtain ⟨e',h1,h2,h3,h4⟩:=h
       exact ⟨e',h1,hs.trans h2,hk.trans (h3.mono hd),hq _ _ _ h4⟩)
    | (obtain ⟨v,h1,h2,h3,h4⟩:=h
       exact ⟨v,h1,hs.trans h2,fun hj=>(h3 fun hj'=>hj (hd _ hj')).trans (hk.2 hj),h4⟩)
theorem ZhG {c:Cfg} {D:List Nat} {a:Act} {w:World} {Q:Ex→Env→Zc→Prop} {ch:List PanicEntry} {a':Act} {d:Option Tmp} {v:Value} {w':World} (h:Zdb c D a w Q (.panic ch) (a'.put d v) w'):Zdb c D a w Q (.panic ch) a' w':=by
  obtain ⟨v',h1,h2,h3,h4⟩:=h
  exact ⟨v',h1,h2,fun hj=>(put_defers a' d v).symm.trans (h3 hj),h4⟩
theorem Zek {c:Cfg} {ops:Array Oper} {o:Oper} {e:Env} {a:Act} {A B:Env→Prop} (hag:Agr c.n e a) (hk:ZhX ops.toList o e A B) :
    (∃ e',Agr c.n e' a∧Region.wanted o (yielded ops a.tmps)=true∧A e')∨(∃ e',Agr c.n e' a∧Region.wanted o (yielded ops a.tmps)=false∧B e'):=by
  unfold ZhX at hk
  split at hk
  ·rename_i hg
   exact .inl ⟨e,hag,by simp [Region.wanted,hg],hk⟩
  ·rename_i j want hg
   split at hk
   ·rename_i hs
    exact .inr ⟨e,hag,by simp [Region.wanted,hg,ZgX hs],hk⟩
   ·rename_i t hs
    have hy:=Ziu (a:=a) hs
    split at hk
    ·rename_i b ht
     have ht':a.tmps[t]?=some (.bool b):=hag.val t _ ht
     rw [ht'] at hy
     split at hk
     ·exact .inl ⟨e,hag,by simp [Region.wanted,hg,hy],hk⟩
     ·exact .inl ⟨e,hag,by simp [Region.wanted,hg,hy],hk⟩
     ·exact .inr ⟨e,hag,by simp [Region.wanted,hg,hy],hk⟩
     ·exact .inr ⟨e,hag,by simp [Region.wanted,hg,hy],hk⟩
    ·rename_i b ht
     have ht':a.tmps[t]?=some (.bool b):=hag.val t _ ht
     rw [ht'] at hy
     split at hk
     ·cases b with
      | true=>exact .inl ⟨_,hag.tell ht,by simp [Region.wanted,hg,hy],hk.1 rfl⟩
      | false=>exact .inr ⟨_,hag.tell ht,by simp [Region.wanted,hg,hy],hk.2 rfl⟩
     ·cases b with
      | true=>exact .inr ⟨_,hag.tell ht,by simp [Region.wanted,hg,hy],hk.1 rfl⟩
      | false=>exact .inl ⟨_,hag.tell ht,by simp [Region.wanted,hg,hy],hk.2 rfl⟩
    ·rename_i v hv1 hv2 ht
     have ht':a.tmps[t]?=some v.v:=hag.val t _ ht
     refine .inr ⟨e,hag,?_,hk⟩
     have:yielded ops a.tmps j=none:=by
       rw [hy,ht']
       cases v with
       | val u=>cases u<;>first | rfl | exact absurd rfl (hv2 _)
       | lit b=>exact absurd rfl (hv1 b)
       | adr b o=>rfl
       | itr t b=>rfl
       | more k v=>rfl
       | over=>rfl
     simp [Region.wanted,hg,this]
    ·exact hk.elim
theorem ZpK {c:Cfg} {e:Env} {a:Act} {h:Zc} {o:Oper} {K:EV→Zc→Prop} (hag:Agr c.n e a) (hkd:ZeC c o.op = .pure) (hk:opP c o.op e h K):Zc6 c o a h K:=by
  obtain ⟨dst,op,type,pos,after,guard⟩:=o
  cases op
  case move=>exact Zjj hag hk
  case assign=>exact Zgs hag hk
  case pick=>exact Zji hag hk
  case nilCheck=>exact ZeG hag hk
  case binOp=>exact Zht hag hk
  case unOp=>exact Zjh hag hk
  case slice=>exact Zhp hag hk
  case fieldAddr=>exact Zec hag hk
  case field=>exact Zhr hag hk
  case indexAddr=>exact Zeb hag hk
  case index=>exact Zhq hag hk
  case extract=>exact ZfB hag hk
  case build=>exact Zhs hag hk
  case makeFunc=>exact ZeH hag hk
  case convert s d x =>
    simp only [ZeC] at hkd
    split at hkd
    ·rename_i j k hs hd
     exact ZeI hag hs hd hk
    ·split at hkd<;>cases hkd
    ·cases hkd
  case call cl =>
    obtain ⟨cal,args,ts⟩:=cl
    cases cal with
    | builtin b =>
      cases b<;>first
        | (simp only [ZeC] at hkd;done)
        | (cases hm:Zfx c.P ts with
            | true=>simp [ZeC,hm] at hkd
            | false=>exact Yk hag (.inl ⟨rfl,hm⟩) hk)
        | exact Yk hag (.inr (.inl rfl)) hk
        | exact Yk hag (.inr (.inr (.inl rfl))) hk
        | exact Yk hag (.inr (.inr (.inr rfl))) hk
        | (simp [ZeC] at hkd)
    | _=>simp [ZeC] at hkd
  all_goals simp [ZeC] at hkd
theorem ZoD {c:Cfg} {op:Op} {t:TypeId} {x:Operand} (h:ZeC c op = .load t x):op = .load t x:=by
  cases op<;>simp [ZeC] at h
  case load=>rw [h.1,h.2]
  case convert=>repeat' (first | (cases h;done) | split at h)
  case call cl =>
    obtain ⟨cal,args,ts⟩:=cl
    cases cal with
    | builtin b=>cases b<;>simp at h<;>(cases hm:Zfx c.P ts<;>simp [hm] at h)
    | _=>simp at h
def ZiS (h:Zc) (l:List (Nat × Nat × Value)):Prop:=∀ q,q∈l→h.cell q.1 q.2.1=some q.2.2
theorem ZhV {h:Zc} {b o:Nat}:∀ {vs:List Value} {i:Nat},ZiS h (Zky b o i vs)↔h.has b (o+i) vs
  | [],i=>⟨fun _=>trivial,fun _ q hq=>(by simp [Zky] at hq)⟩
  | v::vs,i=>by
    have ih:=ZhV (h:=h) (b:=b) (o:=o) (vs:=vs) (i:=i+1)
    unfold ZiS at ih ⊢
    simp only [Zky,List.forall_mem_cons,Zlj,ih]
    rfl
theorem ZpU {P:Program} {t:TypeId} {b o:Nat} {K:EV→List (Nat × Nat × Value)→Prop} {h:Zc} (hk:ldH P t h b o K) :
    ∃ v cells,ZiS h cells∧(∀ w:World,ZiS w.heap cells→(loadVar t ⟨b,o,none⟩).run P w = .ok v.v w)∧K v cells:=by
  unfold ldH at hk
  cases hu:P.underlying t with
  | none=>rw [hu] at hk;simp [ZaC,ZhT] at hk
  | some d =>
    obtain ⟨i,hi⟩:=XX P hu
    rw [hu] at hk
    unfold loadVar
    cases ha:ZaC (some d) with
    | true =>
      rw [ha] at hk
      simp only [cond_true] at hk
      cases hl:Nat.beq (Zda P 8 t).length (P.cellsOf t) with
      | false=>rw [hl] at hk;exact hk.elim
      | true =>
        rw [hl] at hk
        obtain ⟨vs,hlen,hh,hk⟩:=ZgL hk
        have hs:i.size=vs.length:=by rw [hlen,Nat.eq_of_beq_eq_true hl,ZaF P hi]
        refine ⟨.val (.agg vs.toArray),_,ZhV.2 hh,fun w hw=>?_,hk⟩
        have hw:=ZhV.1 hw
        simp only [Sem.run_bind,ZcH P w t hu,ha,Result.andThen_ok,if_true,Y4 P w t hi,hs]
        rw [ZbC P w b o vs (by simpa using hw)]
        rfl
    | false =>
      rw [ha] at hk
      simp only [cond_false] at hk
      obtain ⟨v,hc,hk,_⟩:=ZfJ hk
      refine ⟨v,_,?_,fun w hw=>?_,hk⟩
      ·intro q hq
       simp only [List.mem_singleton] at hq
       subst hq
       exact hc
      have hw:Zc.cell w.heap b o=some v.v:=hw _ (.head _)
      simp only [Sem.run_bind,ZcH P w t hu,ha,Result.andThen_ok,Bool.false_eq_true,if_false]
      exact Zeg P w hw _
theorem Zn7 {c:Cfg} {op:Op} {x:Operand} (h:ZeC c op = .text x):∃ s d e,op = .convert s d x∧c.P.underlying s=some (.slice e)∧c.P.underlying d=some .string∧c.P.underlying e=some (.int .u8):=by
  cases op<;>simp [ZeC] at h
  case convert s d y =>
    split at h
    ·cases h
    ·rename_i e hs hd
     split at h
     ·rename_i he
      cases h
      exact ⟨s,d,e,rfl,hs,hd,he⟩
     ·cases h
    ·cases h
  case call cl =>
    obtain ⟨cal,args,ts⟩:=cl
    cases cal with
    | builtin b=>cases b<;>simp at h<;>(cases hm:Zfx c.P ts<;>simp [hm] at h)
    | _=>simp at h
theorem ZgM {h:Zc}:∀ {l:List (Nat × Nat × Value)},Zo h l↔ZiS h l
  | []=>⟨fun _ q hq=>(by cases hq),fun _=>trivial⟩
  | (b,o,v)::r=>by
    have ih:=ZgM (h:=h) (l:=r)
    unfold ZiS at ih ⊢
    simp only [Zo,List.forall_mem_cons,ih]
def Zc5 (hd:Zex):Zg8:=hd.map fun x=>(x.1,fun w=>x.2 w.heap)
theorem ZiT {w:World} {K:Prop}:∀ {hd:Zex},Zsa w.heap hd K→(Zc5 hd).all w∧K
  | [],hk=>⟨fun q hq=>(by cases hq),hk⟩
  | x::r,hk=>by
    obtain ⟨h1,hk⟩:=hk
    obtain ⟨h2,hk⟩:=ZiT (hd:=r) hk
    refine ⟨fun q hq=>?_,hk⟩
    rcases List.mem_cons.1 hq with rfl | hq
    ·exact h1
    ·exact h2 q hq
def nxt (ops:Array Oper) (L:Zg8) (j:Nat):Zg8 :=
  match ops[j]? with
  | some o=>L.filter fun p=> !ZeA p.1 o.after.toList
  | none=>L
theorem Zdz (ops:Array Oper):Next ops (nxt ops) where
  mem L j p hp:=by
    unfold nxt at hp
    split at hp
    ·exact (List.mem_filter.1 hp).1
    ·exact hp
  keep L j p hp hw:=by
    unfold nxt
    split
    ·rename_i o ho
     refine List.mem_filter.2 ⟨hp,?_⟩
     cases hb:ZeA p.1 o.after.toList with
     | false=>rfl
     | true =>
       obtain ⟨e,he,h1,h2⟩:=Zgq.1 hb
       exact absurd ⟨o,ho,e,by simpa using he,h1,h2⟩ hw
    ·exact hp
  same L L' j p hp hl:=by
    unfold nxt at hp ⊢
    split at hp
    ·rename_i o ho
     exact List.mem_filter.2 ⟨hl,(List.mem_filter.1 hp).2⟩
    ·exact hl
theorem ZpP {ops:Array Oper} {j:Nat} {o:Oper} (ho:ops[j]?=some o) (hd:Zex):nxt ops (Zc5 hd) j=Zc5 (Zmu o hd):=by
  unfold nxt
  rw [ho]
  simp only
  induction hd with
  | nil=>rfl
  | cons x r ih =>
    have e:Zc5 (x::r)=(x.1,fun w:World=>x.2 w.heap)::Zc5 r:=rfl
    rw [e,List.filter_cons]
    simp only [Zmu]
    cases hb:ZeA x.1 o.after.toList with
    | true=>simp only [Bool.not_true,Bool.false_eq_true,if_false,cond_true];exact ih
    | false=>simp only [Bool.not_false,if_true,cond_false];rw [ih];rfl
theorem Zmc {ops:Array Oper} {m:Nat} {listed:Array Bool} (hr:Rel ops m listed) (h:Zou m 0 ops.toList=true):Region.ready .any ops listed=[]:=by
  have key:∀ (os:List Oper) (k:Nat),Zou m k os=true→∀ j o,os[j]?=some o→X7 m (k+j) o=false:=by
    intro os
    induction os with
    | nil=>intro k _ j o ho;simp at ho
    | cons x os ih =>
      intro k h j o ho
      simp only [Zou] at h
      cases hx:X7 m k x with
      | true=>rw [hx] at h;cases h
      | false =>
        rw [hx] at h
        cases j with
        | zero=>simp at ho;subst ho;exact hx
        | succ j =>
          have:=ih (k+1) h j o (by simpa using ho)
          rw [show k+(j+1)=k+1+j from by omega]
          exact this
  apply List.eq_nil_iff_forall_not_mem.2
  intro j hj
  obtain ⟨o,ho,hb⟩:=hr.ready.1 hj
  have:=key _ 0 h j o (by simpa using ho)
  rw [Nat.zero_add,hb] at this
  cases this
section
variable {rn:Option Nat} {P:Program} {ops:Array Oper} {Q:Exit→Act→World→Prop} {i m:Nat} {o:Oper} {listed:Array Bool} {a:Act} {w:World} {L:Zg8} {fuel:Nat} {v:Value} {S:World→Prop}
theorem Zf7 (ho:ops[i]?=some o):i<ops.size:=by
  rcases Nat.lt_or_ge i ops.size with h | h
  ·exact h
  ·rw [Array.getElem?_eq_none h] at ho;cases ho
theorem Zoo (hr:Rel ops m listed) (h:ZgD m i 0 ops.toList=true):∀ j,j∈Region.ready .any ops listed→j=i:=by
  intro j hj
  obtain ⟨o',ho',hb⟩:=hr.ready.1 hj
  have:=ZgC h j o' (by simpa using ho') (by rw [Nat.zero_add];exact hb)
  rw [Nat.zero_add] at this
  exact this
theorem Zse (hr:Rel ops m listed) (h:Zhe ops o m i 0 ops.toList=true) :
    ∀ j oj,ops[j]?=some oj→j≠i→listed.getD j true=false→(∀ e∈oj.after,Region.binds .any e=true→e.on≠i)→o.apart ops oj=true:=by
  intro j oj hj hne hl hno
  have hlt:=Zf7 hj
  refine Zi0 h j oj (by simpa using hj) (by rw [Nat.zero_add];exact hne) ?_ hno
  rw [Nat.zero_add,← hr.bit' hlt]
  exact hl
theorem Zlx (hnd:Zdh ops) (ho:ops[i]?=some o) (hsel:Region.noSelect ops=true) (hQ:∀ c a v w,Q (.panic c) (a.put o.dst v) w→Q (.panic c) a w) (hr:Rel ops m listed) (hm:X7 m i o=true) (hf:Zhe ops o m i 0 ops.toList=true)
    (hy:YieldsIf P ops S o v a) (hS:S w) (hall:Zg8.all L w) (h:wpK rn P ops Q (nxt ops) ((i,S)::L) fuel (listed.setIfInBounds i true) (a.put o.dst v) w) :
    wpK rn P ops Q (nxt ops) L (fuel+1) listed a w :=
  ZnW hnd (Zdz ops) ho (Region.noSelect_spec hsel) (fun c a w h=>hQ c a v w h) fuel L listed a w (Zse hr hf) (hr.ready.2 ⟨o,ho,hm⟩) hy hS hall h
theorem Zjo (hnd:Zdh ops) (ho:ops[i]?=some o) (hr:Rel ops m listed) (hm:X7 m i o=true) (hf:ZgD m i 0 ops.toList=true)
    (hy:YieldsIf P ops S o v a) (hS:S w) (hall:Zg8.all L w) (h:wpK rn P ops Q (nxt ops) L fuel (listed.setIfInBounds i true) (a.put o.dst v) w) :
    wpK rn P ops Q (nxt ops) L (fuel+1) listed a w:=by
  refine Zlt (Zoo hr hf) (hr.ready.2 ⟨o,ho,hm⟩) (Zdv hnd ho hy hS ⟨fun p hp=>hall p ((Zdz ops).mem _ _ _ hp),?_⟩)
  exact Zfj (Zdz ops) _ _ _ _ _ _ (fun p hp=> .inl ((Zdz ops).mem _ _ _ hp)) h
theorem Zjn (hnd:Zdh ops) (ho:ops[i]?=some o) (hsel:Region.noSelect ops=true) (hQ:∀ c a v w,Q (.panic c) (a.put o.dst v) w→Q (.panic c) a w) (hr:Rel ops m listed) (hm:X7 m i o=true)
    (hf:Zhe ops o m i 0 ops.toList=true∨ZgD m i 0 ops.toList=true)
    (hy:YieldsIf P ops (fun _=>True) o v a) (hall:Zg8.all L w) (h:wpK rn P ops Q (nxt ops) L fuel (listed.setIfInBounds i true) (a.put o.dst v) w) :
    wpK rn P ops Q (nxt ops) L (fuel+1) listed a w:=by
  rcases hf with hf | hf
  ·refine Zlx hnd ho hsel hQ hr hm hf hy trivial hall ?_
   refine Zfj (Zdz ops) _ _ _ _ _ _ (fun p hp=>?_) h
   rcases List.mem_cons.1 hp with rfl | hp
   ·exact .inr fun _=>trivial
   ·exact .inl hp
  ·exact Zjo hnd ho hr hm hf hy trivial hall h
end
theorem ZpL {ops:Array Oper} {m i l:Nat} {listed:Array Bool} (hr:Rel ops m listed) (h:ZiF m i l 0 ops.toList=true):∀ j,j∈Region.ready .any ops listed→j=i∨j=l:=by
  intro j hj
  obtain ⟨o',ho',hb⟩:=hr.ready.1 hj
  have:=ZfD h j o' (by simpa using ho') (by rw [Nat.zero_add];exact hb)
  rw [Nat.zero_add] at this
  exact this
section
variable {c:Cfg} {ops:Array Oper} {D:List Nat} {a0:Act} {w0:World} {Qx:Ex→Env→Zc→Prop}
def ZuY (c:Cfg) (ops:Array Oper) (D:List Nat) (a0:Act) (w0:World) (Qx:Ex→Env→Zc→Prop) (fuel m:Nat) (rest:Zex→Env→Zc→Prop):Prop :=
  ∀ (listed:Array Bool) (hd:Zex) (e:Env) (a:Act) (w:World),Rel ops m listed→Agr c.n e a→Same w0 w→Xx D a0 a→(Zc5 hd).all w →
    rest hd e w.heap→wpK c.rnd c.P ops (Zdb c D a0 w0 Qx) (nxt ops) (Zc5 hd) fuel listed a w
theorem Zld (hnd:Zdh ops) (hc:c.OK) (hD:D=ops.toList.filterMap (·.dst)) {i m fuel:Nat} {o:Oper} {hd:Zex} {e:Env} {a:Act} {w:World} {listed:Array Bool} {rest:Zex→Env→Zc→Prop}
    (ho:ops[i]?=some o) (hr:Rel ops m listed) (hag:Agr c.n e a) (hs:Same w0 w) (hkp:Xx D a0 a) (hall:(Zc5 hd).all w) (ih:ZuY c ops D a0 w0 Qx fuel (Zil m i) rest) (hk:Zsh c ops o hd e w.heap rest) :
    wpOpIn (fen c.rnd) 0 c.P ops (Zdb c D a0 w0 Qx) i (fun a' w'=>(nxt ops (Zc5 hd) i).all w'∧wpK c.rnd c.P ops (Zdb c D a0 w0 Qx) (nxt ops) (nxt ops (Zc5 hd) i) fuel (listed.setIfInBounds i true) a' w') a w:=by
  have hr':=hr.set (Zf7 ho)
  have hput:∀ v,Xx D a0 (a.put o.dst v):=fun v=>hkp.trans (Xx.put fun x hx=>hD▸Zfp ho hx)
  unfold Zsh at hk
  rcases Zek hag hk with ⟨e1,hag1,hw,hk⟩ | ⟨e1,hag1,hw,hk⟩
  ·rw [ZpP ho]
   unfold Go.wpOpIn
   simp only [ho,hw,if_true]
   refine Zon hc hag1 (fun v w' hs' hp=>⟨v,rfl,hs.trans hs',hkp.2,hp⟩) hk fun v w' hs' hk=>?_
   obtain ⟨e',hag',hk⟩:=Zbj hag1 hk
   obtain ⟨hall',hk⟩:=ZiT hk
   exact ⟨hall',ih _ _ e' _ w' hr' hag' (hs.trans hs') (hput _) hall' hk⟩
  ·obtain ⟨e',hag',hk⟩:=Zbj hag1 hk
   have hy:YieldsIf c.P ops (fun _=>True) o undef a:= .inr ⟨hw,rfl⟩
   refine Zdv hnd ho hy trivial ⟨fun p hp=>hall p ((Zdz ops).mem _ _ _ hp),?_⟩
   exact Zfj (Zdz ops) _ _ _ _ _ _ (fun p hp=> .inl ((Zdz ops).mem _ _ _ hp)) (ih _ hd e' _ w hr' hag' hs (hput _) hall hk)
theorem Zsc (hnd:Zdh ops) (hD:D=ops.toList.filterMap (·.dst)) {i m fuel:Nat} {o:Oper} {hd:Zex} {e:Env} {a:Act} {w:World} {listed:Array Bool} {rest:Zex→Env→Zc→Prop}
    (ho:ops[i]?=some o) (hr:Rel ops m listed) (hag:Agr c.n e a) (hs:Same w0 w) (hkp:Xx D a0 a) (hall:(Zc5 hd).all w) (ih:ZuY c ops D a0 w0 Qx fuel (Zil m i) rest)
    (hq:∀ {e:Env} {K:EV→Zc→Prop},Agr c.n e a→opP c o.op e w.heap K→Zll c o a w.heap K) (hm:X7 m i o=true) (hf:ZgD m i 0 ops.toList=true)
    (hk:ZuC c ops o hd e w.heap rest):wpK c.rnd c.P ops (Zdb c D a0 w0 Qx) (nxt ops) (Zc5 hd) (fuel+1) listed a w:=by
  have hr':=hr.set (Zf7 ho)
  have hput:∀ v,Xx D a0 (a.put o.dst v):=fun v=>hkp.trans (Xx.put fun x hx=>hD▸Zfp ho hx)
  unfold ZuC at hk
  rcases Zek hag hk with ⟨e1,hag1,hw,hk⟩ | ⟨e1,hag1,hw,hk⟩
  ·obtain ⟨v,hrun,hk⟩:=hq hag1 hk
   obtain ⟨e',hag',hk⟩:=Zbj hag1 hk
   exact Zjo hnd (S:=fun w'=>w'.heap=w.heap) ho hr hm hf (v:=v.v) (.inl ⟨hw,fun w' hw'=>hrun w' hw'⟩) rfl hall (ih _ hd e' _ w hr' hag' hs (hput _) hall hk)
  ·obtain ⟨e',hag',hk⟩:=Zbj hag1 hk
   exact Zjo hnd (S:=fun _=>True) ho hr hm hf (v:=undef) (.inr ⟨hw,rfl⟩) trivial hall (ih _ hd e' _ w hr' hag' hs (hput _) hall hk)
theorem Zlw (hnd:Zdh ops) (hD:D=ops.toList.filterMap (·.dst)) (hsel:Region.noSelect ops=true) {i m fuel:Nat} {o:Oper} {hd:Zex} {e:Env} {a:Act} {w:World} {listed:Array Bool} {rest:Zex→Env→Zc→Prop} {A:Env→Prop}
    (ho:ops[i]?=some o) (hr:Rel ops m listed) (hag:Agr c.n e a) (hs:Same w0 w) (hkp:Xx D a0 a) (hall:(Zc5 hd).all w) (ih:ZuY c ops D a0 w0 Qx fuel (Zil m i) rest)
    (hm:X7 m i o=true) (hf:Zhe ops o m i 0 ops.toList=true)
    (hA:∀ e1,Agr c.n e1 a→A e1→∃ (v:EV) (S:Zc→Prop),S w.heap∧(∀ w':World,S w'.heap→(execOp a.eval o).run c.P w' = .ok (.value v.v) w')∧ZkI c.n e1 o.dst v fun e'=>rest ((i,S)::hd) e' w.heap)
    (hk:ZhX ops.toList o e A (fun e=>ZkI c.n e o.dst (.val undef) fun e'=>rest hd e' w.heap)):wpK c.rnd c.P ops (Zdb c D a0 w0 Qx) (nxt ops) (Zc5 hd) (fuel+1) listed a w:=by
  have hr':=hr.set (Zf7 ho)
  have hput:∀ v,Xx D a0 (a.put o.dst v):=fun v=>hkp.trans (Xx.put fun x hx=>hD▸Zfp ho hx)
  have hQ:∀ c' a' v w',Zdb c D a0 w0 Qx (.panic c') (a'.put o.dst v) w'→Zdb c D a0 w0 Qx (.panic c') a' w':=fun _ _ _ _ h=>ZhG h
  rcases Zek hag hk with ⟨e1,hag1,hw,hk⟩ | ⟨e1,hag1,hw,hk⟩
  ·obtain ⟨v,S,hS,hrun,hk⟩:=hA e1 hag1 hk
   obtain ⟨e',hag',hk⟩:=Zbj hag1 hk
   refine Zlx hnd (S:=fun w=>S w.heap) ho hsel hQ hr hm hf (v:=v.v) (.inl ⟨hw,fun w' hw'=>hrun w' hw'⟩) hS hall ?_
   refine ih _ ((i,S)::hd) e' _ w hr' hag' hs (hput _) ?_ hk
   intro q hq
   rcases List.mem_cons.1 hq with rfl | hq
   ·exact hS
   ·exact hall q hq
  ·obtain ⟨e',hag',hk⟩:=Zbj hag1 hk
   exact Zjn hnd ho hsel hQ hr hm (.inl hf) (v:=undef) (.inr ⟨hw,rfl⟩) hall (ih _ hd e' _ w hr' hag' hs (hput _) hall hk)
theorem Zfo (hnd:Zdh ops) (hc:c.OK) (hD:D=ops.toList.filterMap (·.dst)) (hsel:Region.noSelect ops=true) {K:Env→Zc→Prop} (hKQ:∀ e' h',K e' h'→Qx .normal e' h') :
    ∀ (l:OrdT) (fuel m:Nat),l.depth≤fuel→ZuY c ops D a0 w0 Qx fuel m (Zkf c ops K l m)
  | .done,fuel,m,hf=>by
    intro listed hd e a w hr hag hs hkp hall hk
    unfold Zkf at hk
    obtain ⟨h0,hk⟩:=Za4 hk
    exact ZpE (Zmc hr h0) ⟨e,hag,hs,hkp,hKQ _ _ hk⟩ fuel
  | .fork i r j s,0,m,hf=>by simp [OrdT.depth] at hf
  | .take i r,0,m,hf=>by simp [OrdT.depth] at hf
  | .fork i r j s,fuel+1,m,hf=>by
    have hf1:r.depth≤fuel:=by
      have h1:Nat.max r.depth s.depth+1≤fuel+1:=hf
      have h2:r.depth≤Nat.max r.depth s.depth:=Nat.le_max_left _ _
      omega
    have hf2:s.depth≤fuel:=by
      have h1:Nat.max r.depth s.depth+1≤fuel+1:=hf
      have h2:s.depth≤Nat.max r.depth s.depth:=Nat.le_max_right _ _
      omega
    have ih1:=Zfo hnd hc hD hsel hKQ r fuel (Zil m i) hf1
    have ih2:=Zfo hnd hc hD hsel hKQ s fuel (Zil m j) hf2
    intro listed hd e a w hr hag hs hkp hall hk
    unfold Zkf at hk
    split at hk
    ·rename_i o p ho hp
     obtain ⟨hb,hk1,hk2⟩:=Za4 hk
     simp only [Bool.and_eq_true] at hb
     exact ZrK (ZpL hr hb.2.2) (hr.ready.2 ⟨o,ho,hb.1⟩) (Zld hnd hc hD ho hr hag hs hkp hall ih1 hk1) (Zld hnd hc hD hp hr hag hs hkp hall ih2 hk2)
    ·exact hk.elim
  | .take i r,fuel+1,m,hf=>by
    have hf1:r.depth≤fuel:=Nat.le_of_succ_le_succ hf
    have ih:=Zfo hnd hc hD hsel hKQ r fuel (Zil m i) hf1
    intro listed hd e a w hr hag hs hkp hall hk
    unfold Zkf at hk
    split at hk
    ·exact hk.elim
    ·rename_i o ho
     have eff:X7 m i o=true→ZgD m i 0 ops.toList=true→Zsh c ops o hd e w.heap (Zkf c ops K r (Zil m i))→wpK c.rnd c.P ops (Zdb c D a0 w0 Qx) (nxt ops) (Zc5 hd) (fuel+1) listed a w :=
       fun h1 h2 hk=>Zlt (Zoo hr h2) (hr.ready.2 ⟨o,ho,h1⟩) (Zld hnd hc hD ho hr hag hs hkp hall ih hk)
     have hr':=hr.set (Zf7 ho)
     have hput:∀ v,Xx D a0 (a.put o.dst v):=fun v=>hkp.trans (Xx.put fun x hx=>hD▸Zfp ho hx)
     have hQ:∀ c' a' v w',Zdb c D a0 w0 Qx (.panic c') (a'.put o.dst v) w'→Zdb c D a0 w0 Qx (.panic c') a' w':=fun _ _ _ _ h=>ZhG h
     split at hk
     ·rename_i hkd
      obtain ⟨hb,hk⟩:=Za4 hk
      simp only [Bool.and_eq_true,Bool.or_eq_true] at hb
      unfold ZuC at hk
      rcases Zek hag hk with ⟨e1,hag1,hw,hk⟩ | ⟨e1,hag1,hw,hk⟩
      ·obtain ⟨v,hrun,hk⟩:=ZpK hag1 hkd hk
       obtain ⟨e',hag',hk⟩:=Zbj hag1 hk
       exact Zjn hnd ho hsel hQ hr hb.1 hb.2 (v:=v.v) (.inl ⟨hw,fun w _=>hrun w trivial⟩) hall (ih _ hd e' _ w hr' hag' hs (hput _) hall hk)
      ·obtain ⟨e',hag',hk⟩:=Zbj hag1 hk
       exact Zjn hnd ho hsel hQ hr hb.1 hb.2 (v:=undef) (.inr ⟨hw,rfl⟩) hall (ih _ hd e' _ w hr' hag' hs (hput _) hall hk)
     ·rename_i t x hkd
      have hop:=ZoD hkd
      cases hf1:(X7 m i o&&Zhe ops o m i 0 ops.toList) with
      | true =>
        rw [hf1] at hk
        simp only [Bool.and_eq_true] at hf1
        simp only [cond_true] at hk
        refine Zlw hnd hD hsel ho hr hag hs hkp hall ih hf1.1 hf1.2 (fun e1 hag1 hk=>?_) hk
        split at hk
        ·rename_i y hy
         obtain ⟨b,p,hp,hk⟩:=Zfs hk
         obtain ⟨v,cells,hcells,hrun,hk⟩:=ZpU hk
         refine ⟨v,fun h'=>Zo h' cells,ZgM.2 hcells,fun w' hw'=>?_,hk⟩
         obtain ⟨dst,op,type,pos,after,guard⟩:=o
         simp only at hop
         subst hop
         refine Zof (s:=Instr.loadAt t (a.eval x)) ?_
         rw [hag1.ev hy,hp]
         exact ZiA (hrun w' (ZgM.1 hw'))
        ·exact hk.elim
      | false =>
        rw [hf1] at hk
        simp only [cond_false] at hk
        obtain ⟨hb,hk⟩:=Za4 hk
        simp only [Bool.and_eq_true] at hb
        refine Zsc hnd hD ho hr hag hs hkp hall ih (fun {e K} h1 h2=>?_) hb.1 hb.2 hk
        obtain ⟨dst,op,type,pos,after,guard⟩:=o
        simp only at hop
        subst hop
        exact Zjl h1 h2
     ·rename_i x hkd
      obtain ⟨s,d,el,hop,hus,hud,hue⟩:=Zn7 hkd
      cases hf1:(X7 m i o&&Zhe ops o m i 0 ops.toList) with
      | true =>
        rw [hf1] at hk
        simp only [Bool.and_eq_true] at hf1
        simp only [cond_true] at hk
        refine Zlw hnd hD hsel ho hr hag hs hkp hall ih hf1.1 hf1.2 (fun e1 hag1 hk=>?_) hk
        split at hk
        ·rename_i p l n hy
         obtain ⟨str,hrun,hk⟩:=ZkW (P:=c.P) (w:=w) (x:=⟨p,l,n⟩) (K:=fun s=>b2s ⟨p,l,n⟩ w.heap (fun s'=>s'=s)∧ZkI c.n e1 o.dst (.val (.string s)) fun e'=>Zkf c ops K r (Zil m i) ((i,fun h'=>b2s ⟨p,l,n⟩ h' fun s'=>s'=s)::hd) e' w.heap) (by
           rcases hk with ⟨h0,hk⟩ | ⟨b,o2,s,h1,h2,h3,hk⟩
           ·exact .inl ⟨h0,.inl ⟨h0,rfl⟩,hk⟩
           ·exact .inr ⟨b,o2,s,h1,h2,h3,.inr ⟨b,o2,s,h1,h2,h3,rfl⟩,hk⟩)
         refine ⟨.val (.string str),fun h'=>b2s ⟨p,l,n⟩ h' fun s'=>s'=str,hk.1,fun w' hw'=>?_,hk.2⟩
         obtain ⟨s2,hrun2,rfl⟩:=ZkW (P:=c.P) (w:=w') hw'
         obtain ⟨dst,op,type,pos,after,guard⟩:=o
         simp only at hop
         subst hop
         refine Zof (s:=convert s d (a.eval x)) ?_
         rw [hag1.ev hy]
         exact (ZeP hus hud hue).trans hrun2
        ·exact hk.elim
      | false =>
        rw [hf1] at hk
        simp only [cond_false] at hk
        obtain ⟨hb,hk⟩:=Za4 hk
        simp only [Bool.and_eq_true] at hb
        exact eff hb.1 hb.2 hk
     ·obtain ⟨hb,hk⟩:=Za4 hk
      simp only [Bool.and_eq_true] at hb
      exact eff hb.1 hb.2 hk
end
theorem ZiP {e:Env}:∀ {slots:List Nat} {es:List EV} {vs:List EV} {j:Nat} {v:EV},Zl7 e slots=some es→es.map EV.v=vs.map EV.v→Za7 slots vs j=some v→∃ u,e j=some u∧u.v=v.v
  | [],es,vs,j,v,_,_,h=>by simp [Za7] at h
  | s::ss,es,vs,j,v,hr,hm,h=>by
    simp only [Zl7] at hr
    split at hr
    ·rename_i u us hu hus
     simp only [Option.some.injEq] at hr
     subst hr
     cases vs with
     | nil=>simp [Za7] at h
     | cons v' vs =>
       simp only [List.map_cons,List.cons.injEq] at hm
       simp only [Za7] at h
       cases hb:Nat.beq j s with
       | true =>
         have:=Nat.eq_of_beq_eq_true hb
         subst this
         rw [hb] at h
         simp only [cond_true,Option.some.injEq] at h
         subst h
         exact ⟨u,hu,hm.1⟩
       | false =>
         rw [hb] at h
         exact ZiP hus hm.2 h
    ·cases hr
theorem ZjG {c:Cfg} {slots:List Nat} {tys:List VT} {kill:List (Nat × Nat)} {e e':Env} {a a':Act} {D:List Nat} {t:Xi tys} (hag:Agr c.n e a) (hag':Agr c.n e' a') (hkeep:Xx D a a')
    (hin:D.all (fun j=>bif Nat.beq j mkN then false else ZmR slots j||Zkl kill j)=true) (hr:ZkX slots tys e'=some t) (hall:∀ j,ZmR slots j=true→∃ v,Za7 slots (Xi.evs tys t) j=some v) :
    Agr c.n (ZoT slots (Xi.evs tys t) kill e) a':=by
  have hmk:mkN∉D:=fun h=>by
    have:=List.all_eq_true.1 hin mkN h
    rw [show Nat.beq mkN mkN=true from Nat.beq_refl mkN] at this
    cases this
  refine ⟨hag'.size,(hkeep.2 hmk).trans hag.defers,fun j v hj=>?_⟩
  unfold ZoT at hj
  dsimp only at hj
  unfold ZkX at hr
  split at hr
  ·rename_i es hes
   have hm:=Zee hr
   cases hl:Za7 slots (Xi.evs tys t) j with
   | some u =>
     rw [hl] at hj
     simp only [Option.some.injEq] at hj
     subst hj
     obtain ⟨x,hx,hv⟩:=ZiP hes hm.symm hl
     rw [← hv]
     exact hag'.val j x hx
   | none =>
     rw [hl] at hj
     simp only at hj
     cases hk:Zkl kill j with
     | true=>rw [hk] at hj;cases hj
     | false =>
       rw [hk] at hj
       simp only [cond_false] at hj
       have hnot:j∉D:=by
         intro hD
         have:=List.all_eq_true.1 hin j hD
         cases hb9:Nat.beq j mkN with
         | true=>rw [hb9] at this;cases this
         | false =>
         rw [hb9,hk,cond_false,Bool.or_false] at this
         obtain ⟨v',hv'⟩:=hall j this
         rw [hl] at hv'
         cases hv'
       rw [hkeep.1 j hnot]
       exact hag.val j v hj
  ·cases hr
theorem Zkj {e:Env}:∀ {slots:List Nat} {es vs:List EV} {j:Nat},Zl7 e slots=some es→es.map EV.v=vs.map EV.v→ZmR slots j=true→∃ v,Za7 slots vs j=some v
  | [],es,vs,j,_,_,h=>by simp [ZmR] at h
  | s::ss,es,vs,j,hr,hm,h=>by
    simp only [Zl7] at hr
    split at hr
    ·rename_i u us hu hus
     simp only [Option.some.injEq] at hr
     subst hr
     cases vs with
     | nil=>simp at hm
     | cons v' vs =>
       simp only [List.map_cons,List.cons.injEq] at hm
       simp only [Za7]
       simp only [ZmR] at h
       cases hb:Nat.beq j s with
       | true=>exact ⟨v',rfl⟩
       | false =>
         rw [hb] at h
         exact Zkj hus hm.2 h
    ·cases hr
theorem Zkc {slots:List Nat} {tys:List VT} {e:Env} {t:Xi tys} (hr:ZkX slots tys e=some t):∀ j,ZmR slots j=true→∃ v,Za7 slots (Xi.evs tys t) j=some v:=by
  intro j hj
  unfold ZkX at hr
  split at hr
  ·rename_i es hes
   exact Zkj hes (Zee hr).symm hj
  ·cases hr
theorem ZiR {slots:List Nat} {tys:List VT} {e:Env} {J:Xi tys→Zc→Prop} {h:Zc} (hk:ZoG slots tys e J h):∃ t,ZkX slots tys e=some t∧J t h:=by
  unfold ZoG at hk
  split at hk
  ·rename_i t ht
   exact ⟨t,ht,hk⟩
  ·exact hk.elim
theorem Ziy {n:Nat}:∀ {ps:List Tmp} {vs:List EV} {e e1:Env} {a:Act},Agr n e a→Ziz n e ps vs=some e1 →
    Agr n e1 { a with tmps:=(ps.zip (vs.map EV.v)).foldl (fun t x=>t.setIfInBounds x.1 x.2) a.tmps }
  | [],[],e,e1,a,hag,h=>by
    simp only [Ziz,Option.some.injEq] at h
    subst h
    exact hag
  | p::ps,v::vs,e,e1,a,hag,h=>by
    simp only [Ziz] at h
    cases hb:Nat.blt p n with
    | false=>rw [hb] at h;cases h
    | true =>
      rw [hb] at h
      exact Ziy (a:=a.put (some p) v.v) (hag.set hb v) h
  | [],_::_,e,e1,a,hag,h=>by cases h
  | _::_,[],e,e1,a,hag,h=>by cases h
theorem Zoh (ps:Array Tmp) (vs:List Value) (tmps:Array Value):(ps.zip vs.toArray).foldl (fun t x=>t.setIfInBounds x.1 x.2) tmps=(ps.toList.zip vs).foldl (fun t x=>t.setIfInBounds x.1 x.2) tmps:=by
  rw [← Array.foldl_toList,Array.toList_zip]
theorem ZaS:∀ (code:Code) (c:Cfg) (_:c.OK) (_:c.P.follows .mixedOrders=true) (ann:Ann) (e:Env) (a:Act) (w:World) (Q:Ex→Env→Zc→Prop),
    Agr c.n e a→wpC c code ann e w.heap Q→code.wpIn (fen c.rnd) 0 c.P (Zdb c (ZcK code) a w Q) a w
  | .skip,c,hc,hmixed,ann,e,a,w,Q,hag,hk=>wpIn_skip ⟨e,hag,Same.refl w,Xx.refl _ a,hk⟩
  | .region id ops draw,c,hc,hmixed,ann,e,a,w,Q,hag,hk=>by
    unfold wpC at hk
    cases draw with
    | false =>
      refine wpIn_region ?_
      rw [List.range_eq_range']
      have:=ZhB hc (ops:=ops) (Q:=Zdb c (ZcK (.region id ops false)) a w Q) ops.toList 0 (by simp) hag hk (fun e' a' w' h1 h2 h3 h4=>⟨e',h1,h2,h3,h4⟩) (fun v a' w' h2 h3 h4=>⟨v,rfl,h2,h3.2,h4⟩)
      simpa using this
    | true =>
      simp only at hk
      split at hk
      ·rename_i l
       obtain ⟨hb,hk⟩:=Za4 hk
       simp only [Bool.and_eq_true] at hb
       refine wpIn_region_any hmixed (ZnX (nx:=nxt ops) _ (Zc5 []) _ _ _ ?_)
       exact Zfo (Zmd hb.2.2) hc (D:=ZcK (.region id ops true)) rfl hb.1 (fun _ _ h=>h) l ops.size 0 (Nat.le_of_ble_eq_true hb.2.1) _ [] e a { w with drawn:=w.drawn+1 } (Rel.zero ops) hag ⟨rfl,rfl,rfl⟩ (Xx.refl _ a) (fun q hq=>(by cases hq)) hk
      ·obtain ⟨hb,hk⟩:=Za4 hk
       simp only [Bool.and_eq_true] at hb
       have hr0:c.rnd=none:=Option.isNone_iff_eq_none.1 hb.1
       rw [hr0]
       refine wpIn_region_quiet (C:=Cls w w.heap) rfl hmixed hb.2 ⟨⟨rfl,rfl,rfl⟩,rfl⟩ ?_
       refine Zjw hc ops.toList 0 (by simp) hag hk fun e' a' h1 h3 h4 w' hw=>⟨e',h1,hw.1,h3,?_⟩
       rw [hw.2]
       exact h4
  | .seq x y,c,hc,hmixed,ann,e,a,w,Q,hag,hk=>by
    have plain:∀ u v:Ann,wpC c x u e w.heap (Zp6 (fun e' h'=>wpC c y v e' h' Q) Q)→(Code.seq x y).wpIn (fen c.rnd) 0 c.P (Zdb c (ZcK (.seq x y)) a w Q) a w:=by
      intro u v hk
      refine wpIn_seq (wpIn_mono (ZaS x c hc hmixed u e a w _ hag hk) ?_)
      intro ex a' w' hp
      cases ex<;>first
        | exact hp.elim
        | skip
      ·obtain ⟨e',h1,h2,h3,h4⟩:=hp
       refine wpIn_mono (ZaS y c hc hmixed v e' a' w' _ h1 h4) ?_
       exact Zdb.mono h2 (h3.mono fun j hj=>List.mem_append.2 (.inl hj)) (fun j hj=>List.mem_append.2 (.inr hj)) (fun _ _ _ h=>h)
      ·obtain ⟨e',h1,h2,h3,h4⟩:=hp
       exact ⟨e',h1,h2,h3.mono fun j hj=>List.mem_append.2 (.inl hj),h4⟩
      ·obtain ⟨e',h1,h2,h3,h4⟩:=hp
       exact ⟨e',h1,h2,h3.mono fun j hj=>List.mem_append.2 (.inl hj),h4⟩
      ·obtain ⟨v,h1,h2,h3,h4⟩:=hp
       exact ⟨v,h1,h2,fun hj=>h3 fun hj'=>hj (List.mem_append.2 (.inl hj')),h4⟩
    unfold wpC at hk
    split at hk
    ·rename_i slots tys kill u v
     cases hin:ZlK slots kill x with
     | false=>rw [hin] at hk;exact hk.elim
     | true =>
       rw [hin] at hk
       obtain ⟨J,hJ,hk⟩:=hk
       refine wpIn_seq (wpIn_mono (ZaS x c hc hmixed u e a w _ hag hk) ?_)
       intro ex a' w' hp
       cases ex<;>first
         | exact hp.elim
         | skip
       ·obtain ⟨e',h1,h2,h3,h4⟩:=hp
        obtain ⟨t,ht,hj⟩:=ZiR h4
        have hag2:=ZjG hag h1 h3 hin ht (Zkc ht)
        refine wpIn_mono (ZaS y c hc hmixed v _ a' w' _ hag2 (hJ t w'.heap hj)) ?_
        exact Zdb.mono h2 (h3.mono fun j hj=>List.mem_append.2 (.inl hj)) (fun j hj=>List.mem_append.2 (.inr hj)) (fun _ _ _ h=>h)
       ·obtain ⟨e',h1,h2,h3,h4⟩:=hp
        exact ⟨e',h1,h2,h3.mono fun j hj=>List.mem_append.2 (.inl hj),h4⟩
       ·obtain ⟨e',h1,h2,h3,h4⟩:=hp
        exact ⟨e',h1,h2,h3.mono fun j hj=>List.mem_append.2 (.inl hj),h4⟩
       ·obtain ⟨v,h1,h2,h3,h4⟩:=hp
        exact ⟨v,h1,h2,fun hj=>h3 fun hj'=>hj (List.mem_append.2 (.inl hj')),h4⟩
    ·exact plain _ _ hk
  | .cond x p q,c,hc,hmixed,ann,e,a,w,Q,hag,hk=>by
    have yes:∀ u,wpC c p u e w.heap Q→p.wpIn (fen c.rnd) 0 c.P (Zdb c (ZcK (.cond x p q)) a w Q) a w:=fun u hk =>
      wpIn_mono (ZaS p c hc hmixed u e a w Q hag hk) (Zdb.mono (Same.refl w) (Xx.refl _ a) (fun j hj=>List.mem_append.2 (.inl hj)) (fun _ _ _ h=>h))
    have no:∀ u,wpC c q u e w.heap Q→q.wpIn (fen c.rnd) 0 c.P (Zdb c (ZcK (.cond x p q)) a w Q) a w:=fun u hk =>
      wpIn_mono (ZaS q c hc hmixed u e a w Q hag hk) (Zdb.mono (Same.refl w) (Xx.refl _ a) (fun j hj=>List.mem_append.2 (.inr hj)) (fun _ _ _ h=>h))
    unfold wpC at hk
    split at hk
    ·rename_i hx;exact wpIn_cond_true (hag.ev hx) (yes _ hk)
    ·rename_i hx;exact wpIn_cond_false (hag.ev hx) (no _ hk)
    ·rename_i b hx
     exact wpIn_cond_split (hag.ev hx) (fun hb=>yes _ (hk.1 hb)) (fun hb=>no _ (hk.2 hb))
    ·exact hk.elim
  | .block id x,c,hc,hmixed,ann,e,a,w,Q,hag,hk=>by
    unfold wpC at hk
    refine wpIn_block (wpIn_mono (ZaS x c hc hmixed _ e a w _ hag hk) ?_)
    intro ex a' w' hp
    cases ex<;>first
      | exact hp.elim
      | skip
    ·exact hp
    ·rename_i id'
     obtain ⟨e',h1,h2,h3,h4⟩:=hp
     simp only [Exit.inBlock]
     simp only [ZqI] at h4
     cases hb:Nat.beq id' id with
     | true =>
       rw [hb] at h4
       rw [if_pos (Nat.eq_of_beq_eq_true hb)]
       exact ⟨e',h1,h2,h3,h4⟩
     | false =>
       rw [hb] at h4
       rw [if_neg (Nat.ne_of_beq_eq_false hb)]
       exact ⟨e',h1,h2,h3,h4⟩
    ·exact hp
    ·exact hp
  | .loop x,c,hc,hmixed,ann,e,a,w,Q,hag,hk=>by
    unfold wpC at hk
    split at hk
    ·rename_i slots tys kill u
     cases hin:ZlK slots kill x with
     | false=>rw [hin] at hk;exact hk.elim
     | true =>
       rw [hin] at hk
       simp only [cond_true] at hk
       split at hk
       ·rename_i t0 ht0
        obtain ⟨I,μ,h0,hr⟩:=hk
        have hall:=Zkc ht0
        have hall':∀ (t:Xi tys) j,ZmR slots j=true→∃ v,Za7 slots (Xi.evs tys t) j=some v:=by
          intro t j hj
          obtain ⟨v,hv⟩:=hall j hj
          have len:∀ (ts:List VT) (s s':Xi ts),(Xi.evs ts s).length=(Xi.evs ts s').length:=by
            intro ts
            induction ts with
            | nil=>intro s s';rfl
            | cons x xs ih=>intro s s';simp only [Xi.evs,List.length_cons];exact congrArg _ (ih _ _)
          have go:∀ (ss:List Nat) (us vs:List EV),us.length=vs.length→(∃ v,Za7 ss us j=some v)→∃ v,Za7 ss vs j=some v:=by
            intro ss
            induction ss with
            | nil=>intro us vs _ h;simp [Za7] at h
            | cons s ss ih =>
              intro us vs hlen h
              cases us with
              | nil=>simp [Za7] at h
              | cons u us =>
                cases vs with
                | nil=>simp at hlen
                | cons v' vs =>
                  simp only [Za7] at h ⊢
                  cases hb:Nat.beq j s with
                  | true=>exact ⟨v',rfl⟩
                  | false =>
                    rw [hb] at h
                    exact ih us vs (by simpa using hlen) h
          exact go slots _ _ (len tys t0 t) ⟨v,hv⟩
        refine wpIn_loop_ghost (fun n a' w'=>Same w w'∧Xx (ZcK x) a a'∧∃ t,Agr c.n (ZoT slots (Xi.evs tys t) kill e) a'∧I t w'.heap∧n=μ t w'.heap)
          (μ t0 w.heap) ⟨Same.refl w,Xx.refl _ a,t0,ZjG hag hag (Xx.refl _ a) hin ht0 hall,h0,rfl⟩ ?_
        rintro n a' w' ⟨hs,hkeep,t,hagt,hI,rfl⟩
        refine wpIn_mono (ZaS x c hc hmixed u _ a' w' _ hagt (hr t w'.heap hI)) ?_
        intro ex a2 w2 hp
        cases ex<;>first
          | exact hp.elim
          | skip
        ·obtain ⟨e2,h1,h2,h3,h4⟩:=hp
         have h5:ZoG slots tys e2 (fun s' h'=>I s' h'∧μ s' h'<μ t w'.heap) w2.heap:=h4
         obtain ⟨t2,ht2,hI2,hμ⟩:=ZiR h5
         exact ⟨_,hμ,hs.trans h2,hkeep.trans h3,t2,ZjG hag h1 (hkeep.trans h3) hin ht2 (hall' t2),hI2,rfl⟩
        ·obtain ⟨e2,h1,h2,h3,h4⟩:=hp
         exact ⟨e2,h1,hs.trans h2,hkeep.trans h3,h4⟩
        ·obtain ⟨e2,h1,h2,h3,h4⟩:=hp
         exact ⟨e2,h1,hs.trans h2,hkeep.trans h3,h4⟩
        ·obtain ⟨v,h1,h2,h3,h4⟩:=hp
         exact ⟨v,h1,hs.trans h2,fun hj=>(h3 hj).trans (hkeep.2 hj),h4⟩
       ·exact hk.elim
    ·exact hk.elim
  | .exit id,c,hc,hmixed,ann,e,a,w,Q,hag,hk=>wpIn_exit ⟨e,hag,Same.refl w,Xx.refl _ a,hk⟩
  | .ret,c,hc,hmixed,ann,e,a,w,Q,hag,hk=>wpIn_ret ⟨e,hag,Same.refl w,Xx.refl _ a,hk⟩
  | .rangeFunc g ps assign body,c,hc,hmixed,ann,e,a,w,Q,hag,hk=>by
    unfold wpC at hk
    split at hk
    ·rename_i tys x y
     cases hb:(c.rnd.isNone&&e.mD.isNone) with
     | false=>rw [hb] at hk;exact hk.elim
     | true =>
       rw [hb] at hk
       simp only [cond_true] at hk
       simp only [Bool.and_eq_true] at hb
       have hr0:c.rnd=none:=Option.isNone_iff_eq_none.1 hb.1
       have hm0:e.mD=none:=Option.isNone_iff_eq_none.1 hb.2
       have hd0:a.defers=[]:=by rw [hag.defers,hm0];rfl
       split at hk
       ·rename_i f cs hg
        split at hk
        ·rename_i s t hp
         obtain ⟨hmem,ht⟩:=ZhI hp
         dsimp only at hmem ht
         have hit:=hc.iters _ hmem
         dsimp only at hit
         have hg':a.eval g=Value.func (.func f) #[] ⟨cs⟩:=hag.ev hg
         rw [hr0]
         refine wpIn_rangeFunc ?_
         intro fn hfn
         obtain ⟨r,hr⟩:∃ r:Loop,r={ state:= .ready,pending:=none,fn,tmps:=a.tmps,params:=ps,assign,body,defers:=w.heap.size }:=⟨_,rfl⟩
         have hsem:=hk r
         clear hk
         obtain ⟨W1,hW1⟩:∃ W1,(w.alloc (.deferred (some []))).alloc (Zat r .ready none)=W1:=⟨_,rfl⟩
         have hh1:W1.heap=(w.heap.push (.deferred (some []))).push (Zat r .ready none):=by rw [← hW1];rfl
         have hs1:Same w W1:=by rw [← hW1];exact ⟨rfl,rfl,rfl⟩
         rw [← hh1] at hsem
         have hY:YOK c.P (Ziv r (w.heap.size+1) ps.size (fun vs h' k=>Zo7 (fun a:Xi tys=>(Xi.evs tys a).map EV.v) vs fun a=>match Ziz c.n ⟨e.f,none⟩ ps.toList (Xi.evs tys a) with
           | some e1=>wpC { c with rnd:=some (w.heap.size+1),pan:=fun _ _=>False } assign x e1 h' (Zqz fun e2 h2 =>
               Zlf r (w.heap.size+1) h2 fun h3=>wpC { c with rnd:=some (w.heap.size+1),pan:=fun _ _=>False } body y e2 h3 (Zqy k))
           | none=>False)):=by
           intro l vs k W hy
           obtain ⟨rfl,hlen,hrec,hargs⟩:=hy
           obtain ⟨ta,rfl,hargs⟩:=hargs
           split at hargs
           ·rename_i e1 he1
            have hrl:W.heap[w.heap.size+1]?=some (.loop { r with state:= .ready,pending:=none }):=hrec
            have hy:=run_yield (P:=c.P) (args:=((Xi.evs tys ta).map EV.v).toArray) hrl (by rw [hr];simpa using hlen)
            refine ⟨fn,(ps.zip ((Xi.evs tys ta).map EV.v).toArray).foldl (fun t x=>t.setIfInBounds x.1 x.2) a.tmps,assign,body,by rw [hr] at hy;exact hy,?_⟩
            have hag1:Agr c.n e1 { tmps:=(ps.toList.zip ((Xi.evs tys ta).map EV.v)).foldl (fun t x=>t.setIfInBounds x.1 x.2) a.tmps,defers:=[]} :=
              Ziy (e:=⟨e.f,none⟩) (a:={ a with defers:=[]}) ⟨hag.size,rfl,hag.val⟩ he1
            have hc1:=hc.at (some (w.heap.size+1)) (fun _ _=>False)
            rw [← Zoh] at hag1
            refine roundIn_of_wpIn hfn ?_
            refine wpIn_mono (ZaS assign _ hc1 hmixed x e1 _ W _ hag1 hargs) ?_
            intro ex a1 w1 hp1
            cases ex with
            | normal =>
              obtain ⟨e2,hag2,hs2,hk2,hrec2,hb2⟩:=hp1
              have hrl2:w1.heap[w.heap.size+1]?=some (.loop { r with state:= .ready,pending:=none }):=hrec2
              refine ⟨_,run_beginRound hrl2 rfl,?_⟩
              refine wpIn_mono (ZaS body _ hc1 hmixed y e2 a1 (w1.putObj (w.heap.size+1) (.loop { r with state:= .busy,pending:=none })) _ hag2 hb2) ?_
              have hs3:Same W (w1.putObj (w.heap.size+1) (.loop { r with state:= .busy,pending:=none })):=hs2.trans ⟨rfl,rfl,rfl⟩
              have fin:∀ (p:Option Code) (W3:World),Same (w1.putObj (w.heap.size+1) (.loop { r with state:= .busy,pending:=none })) W3 →
                  Zmk W3.heap (w.heap.size+1) r .busy none (k p.isNone (Zgm W3.heap (w.heap.size+1) (Zat r (if p.isNone then .ready else .done) p))) →
                  ∃ v w',(Instr.endRound (w.heap.size+1) p).run c.P W3 = .ok v w'∧∃ b,Ending.returned v = .returned (.bool b)∧Same W w'∧k b w'.heap:=by
                intro p W3 hs4 hk4
                have hrl3:W3.heap[w.heap.size+1]?=some (.loop { r with state:= .busy,pending:=none }):=hk4.1
                exact ⟨_,_,run_endRound p hrl3,p.isNone,rfl,(hs3.trans hs4).trans ⟨rfl,rfl,rfl⟩,hk4.2⟩
              intro ex3 a3 w3 hp3
              cases ex3 with
              | normal=>obtain ⟨e3,_,hs4,_,hk4⟩:=hp3;exact fin none w3 hs4 hk4
              | ret=>obtain ⟨e3,_,hs4,_,hk4⟩:=hp3;exact fin (some .ret) w3 hs4 hk4
              | exit id=>obtain ⟨e3,_,hs4,_,hk4⟩:=hp3;exact fin (some (.exit id)) w3 hs4 hk4
              | goto t=>exact hp3.elim
              | panic ch=>obtain ⟨_,_,_,_,hk4⟩:=hp3;exact hk4.elim
              | outgrown=>exact hp3.elim
            | ret=>obtain ⟨_,_,_,_,hk4⟩:=hp1;exact hk4.elim
            | exit id=>obtain ⟨_,_,_,_,hk4⟩:=hp1;exact hk4.elim
            | goto t=>exact hp1.elim
            | panic ch=>obtain ⟨_,_,_,_,hk4⟩:=hp1;exact hk4.elim
            | outgrown=>exact hp1.elim
           ·exact hargs.elim
         have hok:=hit _ hY
         obtain ⟨⟨fd,hf,hname,hbody⟩,hcall⟩:=hok
         have hargs:(#[Value.func (.yield (w.heap.size+1)) #[] #[]]:Array Value)++(⟨cs⟩:Array Value)=((Xi.evs (.yl::s.caps) (w.heap.size+1,t)).map EV.v).toArray:=by
           have h5:=Zee ht
           have h6:(cs.map EV.val).map EV.v=cs:=by simp [Function.comp_def,EV.v]
           rw [h6] at h5
           simp only [Xi.evs,List.map_cons,h5]
           simp [VT.ev,EV.v]
         refine ⟨w.heap.size+1,[{ target:= .collected w.heap.size,args:= #[]}],W1,{ target:= .fn (.func f) ⟨cs⟩,args:= #[.func (.yield (w.heap.size+1)) #[] #[]]},W1,f,
           #[.func (.yield (w.heap.size+1)) #[] #[]]++(⟨cs⟩:Array Value),W1,?_,?_,?_,?_,fun h=>(by cases h),Zev.2 ?_⟩
         ·rw [← hW1,hr]
          exact run_enterLoop_outer fn a.tmps ps assign body
         ·simp only [resolve,hg']
          simp [Deferred.ofValue,Act.eval]
         ·intro f' hf';exact trivial
         ·simp only [invoke,callFunc,Sem.run_bind,run_program,Result.andThen_ok,hf,hname,Bool.false_eq_true,if_false,hbody,Sem.run_pure]
         ·rw [hargs]
          refine (hcall (w.heap.size+1,t) (fun _ h'=>∃ st p,st≠ .busy∧Zmk h' (w.heap.size+1) r st p (Zk8 p (Q .normal ⟨e.f,some w.heap.size⟩ (Zgm h' (w.heap.size+1) (Zat r .exhausted p)))
            (fun id=>Q (.exit id) ⟨e.f,some w.heap.size⟩ (Zgm h' (w.heap.size+1) (Zat r .exhausted p))) (Q .ret ⟨e.f,some w.heap.size⟩ (Zgm h' (w.heap.size+1) (Zat r .exhausted p))))) (fun _ _=>False) W1 hsem).mono ?_
          rintro ending w2 (⟨rr,rfl,hs2,st,p,hst,hrec,hj⟩ | ⟨v,rfl,hs2,hk⟩)
          ·have hrl:w2.heap[w.heap.size+1]?=some (.loop { r with state:=st,pending:=p }):=hrec
           have hend:=run_endLoop (P:=c.P) hrl (by exact hst)
           have hs3:Same w (w2.putObj (w.heap.size+1) (Zat r .exhausted p)):=(hs1.trans hs2).trans ⟨rfl,rfl,rfl⟩
           have hag3:Agr c.n ⟨e.f,some w.heap.size⟩ { a with defers:=[{ target:= .collected w.heap.size,args:= #[]}]++a.defers }:=⟨hag.size,by rw [hd0];rfl,hag.val⟩
           have hk3:Xx (ZcK (.rangeFunc g ps assign body)) a { a with defers:=[{ target:= .collected w.heap.size,args:= #[]}]++a.defers }:=⟨fun _ _=>rfl,fun h=>absurd (List.mem_singleton.2 rfl) h⟩
           refine ⟨p,_,hend,?_⟩
           cases p with
           | none=>exact ⟨_,hag3,hs3,hk3,hj⟩
           | some cj =>
             cases cj with
             | exit id=>exact wpIn_exit ⟨_,hag3,hs3,hk3,hj⟩
             | ret=>exact wpIn_ret ⟨_,hag3,hs3,hk3,hj⟩
             | _=>exact hj.elim
          ·exact hk.elim
        ·exact hk.elim
       ·exact hk.elim
    ·exact hk.elim
  | .scope _,c,hc,hmixed,ann,e,a,w,Q,hag,hk=>hk.elim
  | .label _,c,hc,hmixed,ann,e,a,w,Q,hag,hk=>hk.elim
  | .goto _,c,hc,hmixed,ann,e,a,w,Q,hag,hk=>hk.elim
  | .refuse _,c,hc,hmixed,ann,e,a,w,Q,hag,hk=>hk.elim
theorem Zi9:∀ (args:List EV) (i:Nat) (j:Nat) (v:EV),Zib.go args i j=some v→∃ k,j=i+k∧args[k]?=some v
  | [],i,j,v,h=>by simp [Zib.go] at h
  | x::xs,i,j,v,h=>by
    simp only [Zib.go] at h
    cases hb:Nat.beq j i with
    | true =>
      rw [hb] at h
      simp only [cond_true,Option.some.injEq] at h
      exact ⟨0,Nat.eq_of_beq_eq_true hb,by simp [h]⟩
    | false =>
      rw [hb] at h
      obtain ⟨k,hk,hv⟩:=Zi9 xs (i+1) j v h
      exact ⟨k+1,by omega,by simpa using hv⟩
theorem ZhE {c:Cfg} {e:Env} {a:Act} {w:World} (hag:Agr c.n e a) {f:ResultVar→Sem Value} (h1:∀ t,f (.tmp t)=pure (a.tmps.getD t undef))
    (h2:∀ x t,f (.cell x t)=(do loadVar t (← asAddr (a.tmps.getD x undef)))):∀ {rs:List ResultVar} {K:List EV→Prop},Zpo c e w.heap rs K →
    ∃ vs,(rs.mapM f).run c.P w = .ok (vs.map EV.v) w∧K vs
  | [],K,hk=>⟨[],rfl,hk⟩
  | .tmp t::r,K,hk=>by
    simp only [Zpo] at hk
    split at hk
    ·rename_i v hv
     obtain ⟨vs,hr,hk⟩:=ZhE hag h1 h2 hk
     refine ⟨v::vs,?_,hk⟩
     have:=hag.val t v hv
     rw [List.mapM_cons]
     simp only [h1,Sem.run_bind,Sem.run_pure,Result.andThen_ok,hr,List.map_cons]
     simp [this]
    ·exact hk.elim
  | .cell x t::r,K,hk=>by
    simp only [Zpo] at hk
    split at hk
    ·rename_i b o hv
     obtain ⟨v,hl,hk⟩:=ZlD hk
     obtain ⟨vs,hr,hk⟩:=ZhE hag h1 h2 hk
     refine ⟨v::vs,?_,hk⟩
     have:=hag.val x _ hv
     have hx:(asAddr (a.tmps.getD x undef)).run c.P w = .ok ⟨b,o,none⟩ w:=by
       have:a.tmps.getD x undef = .pointer (some ⟨b,o,none⟩):=by simp [this,EV.v]
       rw [this];rfl
     rw [List.mapM_cons]
     simp only [h2,Sem.run_bind,Sem.run_pure,hx,Result.andThen_ok,hl w rfl,hr,List.map_cons]
    ·exact hk.elim
def Zze (l:List Value):Value:=match l with
  | [v]=>v
  | l=> .tuple l.toArray
theorem Zn4:∀ (vs:List EV),(Zde vs).v=Zze (vs.map EV.v)
  | []=>rfl
  | [_]=>rfl
  | _::_::_=>rfl
theorem Zn6 (l:List Value):(if h:l.toArray.size=1 then l.toArray[0] else Value.tuple l.toArray)=Zze l:=by
  match l with
  | []=>rfl
  | [x]=>rfl
  | x::y::r =>
    have:¬ (x::y::r).toArray.size=1:=by simp
    rw [dif_neg this]
    rfl
theorem ZrP {res:List VT} {vs:List EV} {r:Xi res} (h:Xi.un res vs=some r):Zug res r=Zze (vs.map EV.v):=by
  unfold Zug
  rw [Zn4,Zee h]
theorem Zmm {c:Cfg} (hc:c.OK) (hmixed:c.P.follows .mixedOrders=true) {f:FuncId} {fn:Func} {ann:Ann} {args:List EV} {res:List VT} {K:Xi res→Zc→Prop} {Kp:Value→Zc→Prop} {w:World}
    (hf:c.P.funcs[f]?=some fn) (hn:c.n=fn.ntmps) (hlen:args.length≤fn.ntmps) (hk:Zsw c fn ann args res K Kp w.heap) :
    Calls c.P f (args.map EV.v).toArray w (Zft res w K Kp):=by
  unfold Zsw at hk
  split at hk
  ·rename_i code hb
   refine Zev (r:=none) (n:=0).1 (callsIn_of_wp_marks hf hb trivial ?_)
   have hag:Agr c.n (Zib args) { tmps:=(args.map EV.v).toArray++Array.replicate (fn.ntmps - (args.map EV.v).toArray.size) undef,defers:=[]}:=by
     refine ⟨by simp [hn];omega,rfl,fun j v hj=>?_⟩
     obtain ⟨k,hk,hv⟩:=Zi9 args 0 j v hj
     have hlt:k<args.length:=by
       rcases Nat.lt_or_ge k args.length with h | h
       ·exact h
       ·rw [List.getElem?_eq_none h] at hv;cases hv
     simp only [Nat.zero_add] at hk
     subst hk
     simp [hlt,Array.getElem?_append]
     have h5:=List.getElem?_eq_getElem hlt
     rw [hv] at h5
     exact congrArg EV.v (Option.some.inj h5.symm)
   refine wpIn_mono (ZaS code _ (hc.at none (bif Zsb code then fun _ _=>False else Kp)) hmixed ann _ _ w _ hag hk) ?_
   have res_:∀ (a':Act) (w1:World) (e':Env),Agr c.n e' a'→Same w w1→(Zpo c e' w1.heap fn.results.toList fun vs=>match Xi.un res vs with
       | some r=>K r w1.heap
       | none=>False)→∃ v,(results fn a'.tmps).run c.P w1 = .ok v w1∧Zft res w K Kp (.returned v) w1:=by
     intro a' w1 e' h1 h2 h4
     obtain ⟨vs,hr,hk⟩:=ZhE (f:=fun
       | .tmp t=>pure (a'.tmps.getD t undef)
       | .cell x t=>do loadVar t (← asAddr (a'.tmps.getD x undef))) h1 (fun _=>rfl) (fun _ _=>rfl) h4
     split at hk
     ·rename_i r hun
      refine ⟨Zug res r,?_,.inl ⟨r,rfl,h2,hk⟩⟩
      unfold results
      rw [Array.mapM_eq_mapM_toList]
      simp only [Sem.run_bind,Sem.run_map]
      have hr':=hr
      refine (congrArg (fun r=>(Result.andThen (Result.andThen r _) _)) hr').trans ?_
      simp only [Result.andThen_ok,Sem.run_pure]
      rw [ZrP hun]
      exact congrArg (fun v=>Result.ok v w1) (Zn6 _)
     ·exact hk.elim
   have fin:∀ (a':Act) (w':World) (e':Env),Agr c.n e' a'→Same w w'→(match e'.mD with
       | none=>Zpo c e' w'.heap fn.results.toList fun vs=>match Xi.un res vs with
         | some r=>K r w'.heap
         | none=>False
       | some D=>ZeL D w'.heap fun h'=>Zpo c e' h' fn.results.toList fun vs=>match Xi.un res vs with
         | some r=>K r h'
         | none=>False)→LeavesInM (fen none) 0 c.P fn a'.tmps (Zft res w K Kp) a'.defers .returning w':=by
     intro a' w' e' h1 h2 h4
     rw [h1.defers]
     cases hm:e'.mD with
     | none =>
       rw [hm] at h4
       exact res_ a' w' e' h1 h2 h4
     | some D =>
       rw [hm] at h4
       obtain ⟨hD,h4⟩:=h4
       refine ⟨by simp,.inl ⟨D,_,rfl,run_takeDeferred hD,?_⟩⟩
       exact res_ a' (w'.putObj D (.deferred none)) e' h1 (h2.trans ⟨rfl,rfl,rfl⟩) h4
   intro ex a' w' hp
   cases ex with
   | normal=>obtain ⟨e',h1,h2,h3,h4⟩:=hp;exact fin a' w' e' h1 h2 h4
   | ret=>obtain ⟨e',h1,h2,h3,h4⟩:=hp;exact fin a' w' e' h1 h2 h4
   | exit id=>obtain ⟨e',h1,h2,h3,h4⟩:=hp;exact h4.elim
   | goto t=>exact hp.elim
   | outgrown=>exact hp.elim
   | panic ch =>
     obtain ⟨v,rfl,h2,h3,h4⟩:=hp
     cases hrf:Zsb code with
     | true=>rw [hrf] at h4;exact h4.elim
     | false =>
       rw [hrf] at h4
       have hmk:mkN∉ZcK code:=by
         have key:∀ (l:List Nat),ZmR l mkN=false→mkN∉l:=by
           intro l
           induction l with
           | nil=>intro _ h;cases h
           | cons x xs ih =>
             intro h hm
             simp only [ZmR] at h
             cases hb:Nat.beq mkN x with
             | true=>rw [hb] at h;cases h
             | false =>
               rw [hb] at h
               rcases List.mem_cons.1 hm with he | hm
               ·rw [← he,Nat.beq_refl] at hb;cases hb
               ·exact ih h hm
         exact key _ hrf
       rw [show bodyPostM (fen none) 0 c.P fn (Zft res w K Kp) (.panic [{ v,recovered:=false }]) a' w'=LeavesInM (fen none) 0 c.P fn a'.tmps (Zft res w K Kp) a'.defers (.panicking [{ v,recovered:=false }]) w' from rfl,h3 hmk]
       exact .inr ⟨v,rfl,h2,h4⟩
  ·exact hk.elim
inductive AllOK (P:Program):List (FuncId × Zd)→Prop
  | nil:AllOK P []
  | cons {f:FuncId} {s:Zd} {l:List (FuncId × Zd)} (h:Zj P f s) (r:AllOK P l):AllOK P ((f,s)::l)
theorem Zja {P:Program}:∀ {l:List (FuncId × Zd)},AllOK P l→∀ x,x∈l→Zj P x.1 x.2
  | [],_,x,h=>by cases h
  | _::_,.cons h0 hr,x,h=>by
    cases h with
    | head=>exact h0
    | tail _ h=>exact Zja hr x h
inductive AllExt (P:Program):List FuncId→Prop
  | nil:AllExt P []
  | cons {f:FuncId} {l:List FuncId} (h:Zpk P f) (r:AllExt P l):AllExt P (f::l)
theorem Zjb {P:Program}:∀ {l:List FuncId},AllExt P l→∀ f,f∈l→Zpk P f
  | [],_,x,h=>by cases h
  | _::_,.cons h0 hr,x,h=>by
    cases h with
    | head=>exact h0
    | tail _ h=>exact Zjb hr x h
inductive AllDyn (P:Program):List (String × TypeId × FuncId)→Prop
  | nil:AllDyn P []
  | cons {n:String} {t:TypeId} {f:FuncId} {l:List (String × TypeId × FuncId)} (h:ZlU P n t f) (r:AllDyn P l):AllDyn P ((n,t,f)::l)
theorem Zjc {P:Program}:∀ {l:List (String × TypeId × FuncId)},AllDyn P l→∀ x,x∈l→ZlU P x.1 x.2.1 x.2.2
  | [],_,x,h=>by cases h
  | _::_,.cons h0 hr,x,h=>by
    cases h with
    | head=>exact h0
    | tail _ h=>exact Zjc hr x h
inductive AllIter (P:Program):List (FuncId × ZaR)→Prop
  | nil:AllIter P []
  | cons {f:FuncId} {s:ZaR} {l:List (FuncId × ZaR)} (h:ZkE P f s) (r:AllIter P l):AllIter P ((f,s)::l)
theorem Zid {P:Program}:∀ {l:List (FuncId × ZaR)},AllIter P l→∀ x,x∈l→ZkE P x.1 x.2
  | [],_,x,h=>by cases h
  | _::_,.cons h0 hr,x,h=>by
    cases h with
    | head=>exact h0
    | tail _ h=>exact Zid hr x h
theorem Zm (c:Cfg) (h:AllOK c.P c.calls) (h':AllExt c.P c.ext) (h'':AllDyn c.P c.dyn) (h3:AllIter c.P c.iters) (h4:YOK c.P c.yld):c.OK:=⟨Zja h,Zjb h',Zjc h'',Zid h3,h4⟩
theorem ZoU {P:Program} {f:FuncId} {fn:Func} (hf:P.funcs[f]?=some fn) (hname:(fn.name == "runtime.NumGoroutine")=false) (hb:fn.body.isNone=true) (hn:Extern.findNext fn=none)
    (he:Extern.find fn=some Extern.MapsClone.clone):Zpk P f:=by
  intro t b es cl w hw
  refine ⟨{ w with heap:=w.heap.push (.map es cl)},?_,⟨rfl,rfl,rfl⟩,rfl⟩
  rw [run_callFunc_extern hf hname hb hn he]
  have e:Extern.MapsClone.clone #[.iface t (.map (some b))]=(getObj b >>=fun o=>match o with
      | .map entries clock=>(newObj (.map entries clock) >>=fun n=>pure (.iface t (.map (some n))))
      | _=>stuck "maps.clone: a map expected"):=rfl
  rw [e]
  simp only [Sem.run_bind,MapKept.run_getObj_map hw,Result.andThen_ok]
  rfl
theorem ZrX {c:Cfg} {f:FuncId} {fn:Func} {ann:Ann} {s:Zd} (hf:c.P.funcs[f]?=some fn) (hname:(fn.name == "runtime.NumGoroutine")=false) (hbody:fn.body.isNone=false)
    (hn:c.n=fn.ntmps) (hlen:s.args.length≤fn.ntmps) (hc:c.OK) (hmixed:c.P.follows .mixedOrders=true)
    (hr:∀ (t:Xi s.args) (K:Xi s.res→Zc→Prop) (Kp:Value→Zc→Prop) (h:Zc),Zsw c fn ann (Xi.evs s.args t) s.res K Kp h=s.sem t K Kp h):Zj c.P f s where
  named:=⟨fn,hf,hname,hbody⟩
  calls t K Kp w hk:=by
    have hl:(Xi.evs s.args t).length≤fn.ntmps:=by
      have:∀ (vs:List VT) (x:Xi vs),(Xi.evs vs x).length=vs.length:=by
        intro vs
        induction vs with
        | nil=>intro x;rfl
        | cons v vs ih=>intro x;simp only [Xi.evs,List.length_cons,ih]
      rw [this]
      exact hlen
    exact Zmm hc hmixed hf hn hl (by rw [hr];exact hk)
def Zx (c:Cfg) (fn:Func) (ann:Ann) (s:Zd):Prop:=∀ (t:Xi s.args) (K:Xi s.res→Zc→Prop) (Kp:Value→Zc→Prop) (h:Zc),Zsw c fn ann (Xi.evs s.args t) s.res K Kp h=s.sem t K Kp h
theorem okF {c:Cfg} {f:FuncId} {fn:Func} {ann:Ann} {s:Zd} (hr:Zx c fn ann s) (hf:c.P.funcs[f]?=some fn) (hm:c.P.follows .mixedOrders=true) (hc:c.OK)
    (hname:(fn.name == "runtime.NumGoroutine")=false:=by kernel_rfl) (hbody:fn.body.isNone=false:=by kernel_rfl) (hn:c.n=fn.ntmps:=by rfl) (hlen:s.args.length≤fn.ntmps:=by decide):Zj c.P f s :=
  ZrX hf hname hbody hn hlen hc hm hr
theorem Zdg {P:Program} {f:FuncId} {fn:Func} {s:Zd} (hf:P.funcs[f]?=some fn) (hname:(fn.name == "runtime.NumGoroutine")=false) (hbody:fn.body.isNone=false) (hs:∀ t K Kp h,¬ s.sem t K Kp h):Zj P f s where
  named:=⟨fn,hf,hname,hbody⟩
  calls t K Kp w hk:=(hs _ _ _ _ hk).elim
end Go.Fw
namespace Go.Proofs.YthbfgkphlmlihaaGreat
open Go Go.Fw
open Go.RowKit Go.Maps Go.Sort Go.Shelf
def Tryz.keysA_ren:Go.Shelf.Ren:=⟨fun | 7=>56 | 10=>113 | n=>n,fun | 23=>73 | 26=>3 | 3=>88 | 28=>151 | 0=>0 | 27=>150 | 33=>153 | 4=>4 | n=>n,fun | n=>n⟩
theorem Tryz.keysA:Go.Proofs.SlLaysZI.n7 Tryz.prog Tryz.keysA_ren:={
  mixed:=by kernel_rfl,
  f7:=⟨Tryz.f56.name,by decide,Tryz.func56.trans (congrArg some (by kernel_rfl))⟩,
  f10:=⟨Tryz.f113.name,by decide,Tryz.func113.trans (congrArg some (by kernel_rfl))⟩,
  t0:=Tryz.underlying0,
  a0:=Tryz.isAgg0,
  z0:=Tryz.sizeOf0,
  v0:=Tryz.zeroValue0,
  t4:=Tryz.underlying4,
  a4:=Tryz.isAgg4,
  z4:=Tryz.sizeOf4,
  v4:=Tryz.zeroValue4,
  t23:=Tryz.underlying73,
  a23:=Tryz.isAgg73,
  z23:=Tryz.sizeOf73,
  v23:=Tryz.zeroValue73,
  t26:=Tryz.underlying3,
  a26:=Tryz.isAgg3,
  z26:=Tryz.sizeOf3,
  v26:=Tryz.zeroValue3,
  t27:=Tryz.underlying150,
  a27:=Tryz.isAgg150,
  z27:=Tryz.sizeOf150,
  v27:=Tryz.zeroValue150,
  t28:=Tryz.underlying151,
  a28:=Tryz.isAgg151,
  z28:=Tryz.sizeOf151,
  v28:=Tryz.zeroValue151,
  t33:=Tryz.underlying153,
  a33:=Tryz.isAgg153,
  z33:=Tryz.sizeOf153,
  v33:=Tryz.zeroValue153 }
def Tryz.sortedA_ren:Go.Shelf.Ren:=⟨fun | 6=>55 | 8=>111 | 9=>112 | 11=>178 | 13=>180 | 12=>179 | 23=>235 | 24=>236 | 14=>226 | 15=>227 | 16=>228 | 17=>229 | 18=>230 | 19=>231 | 20=>232 | 21=>233 | 22=>234 | 25=>264 | 26=>265 | 27=>266 | 28=>267 | 29=>268 | 30=>269 | 31=>286 | n=>n,fun | 26=>3 | 28=>151 | 24=>85 | 0=>0 | 3=>3 | 37=>314 | 48=>364 | 50=>27 | 4=>4 | 40=>358 | 39=>357 | 45=>229 | 5=>5 | 9=>9 | 51=>385 | 55=>389 | 57=>398 | 58=>383 | 33=>153 | n=>n,fun | n=>n⟩
theorem Tryz.sortedA:Go.Proofs.SlLaysZI.n6 Tryz.prog Tryz.sortedA_ren:={
  mixed:=by kernel_rfl,
  f6:=⟨Tryz.f55.name,by decide,Tryz.func55.trans (congrArg some (by kernel_rfl))⟩,
  f8:=⟨Tryz.f111.name,by decide,Tryz.func111.trans (congrArg some (by kernel_rfl))⟩,
  f11:=⟨Tryz.f178.name,by decide,Tryz.func178.trans (congrArg some (by kernel_rfl))⟩,
  t0:=Tryz.underlying0,
  a0:=Tryz.isAgg0,
  z0:=Tryz.sizeOf0,
  v0:=Tryz.zeroValue0,
  t24:=Tryz.underlying85,
  a24:=Tryz.isAgg85,
  z24:=Tryz.sizeOf85,
  v24:=Tryz.zeroValue85,
  t26:=Tryz.underlying3,
  a26:=Tryz.isAgg3,
  z26:=Tryz.sizeOf3,
  v26:=Tryz.zeroValue3,
  t28:=Tryz.underlying151,
  a28:=Tryz.isAgg151,
  z28:=Tryz.sizeOf151,
  v28:=Tryz.zeroValue151,
  i26:=by kernel_rfl }
def Tryz.sortA_ren:Go.Shelf.Ren:=⟨fun | 5=>112 | 8=>180 | 7=>179 | 19=>235 | 20=>236 | 10=>226 | 11=>227 | 12=>228 | 13=>229 | 14=>230 | 15=>231 | 16=>232 | 17=>233 | 18=>234 | 30=>264 | 31=>265 | 32=>266 | 33=>267 | 34=>268 | 35=>269 | 40=>286 | n=>n,fun | 23=>85 | 25=>3 | 3=>3 | 32=>314 | 22=>85 | 0=>0 | 44=>364 | 46=>27 | 4=>4 | 36=>358 | 35=>357 | 41=>229 | 5=>5 | 9=>9 | 53=>385 | 57=>389 | 63=>398 | 64=>383 | n=>n,fun | n=>n⟩
theorem Tryz.sortA:Go.Proofs.SlLaysM.n5 Tryz.prog Tryz.sortA_ren:={
  mixed:=by kernel_rfl,
  f5:=⟨Tryz.f112.name,by decide,Tryz.func112.trans (congrArg some (by kernel_rfl))⟩,
  f7:=⟨Tryz.f179.name,by decide,Tryz.func179.trans (congrArg some (by kernel_rfl))⟩,
  f8:=Tryz.func180.trans (congrArg some (by kernel_rfl)),
  f10:=⟨Tryz.f226.name,by decide,Tryz.func226.trans (congrArg some (by kernel_rfl))⟩,
  f11:=⟨Tryz.f227.name,by decide,Tryz.func227.trans (congrArg some (by kernel_rfl))⟩,
  f12:=⟨Tryz.f228.name,by decide,Tryz.func228.trans (congrArg some (by kernel_rfl))⟩,
  f13:=⟨Tryz.f229.name,by decide,Tryz.func229.trans (congrArg some (by kernel_rfl))⟩,
  f14:=⟨Tryz.f230.name,by decide,Tryz.func230.trans (congrArg some (by kernel_rfl))⟩,
  f15:=⟨Tryz.f231.name,by decide,Tryz.func231.trans (congrArg some (by kernel_rfl))⟩,
  f16:=⟨Tryz.f232.name,by decide,Tryz.func232.trans (congrArg some (by kernel_rfl))⟩,
  f17:=⟨Tryz.f233.name,by decide,Tryz.func233.trans (congrArg some (by kernel_rfl))⟩,
  f18:=⟨Tryz.f234.name,by decide,Tryz.func234.trans (congrArg some (by kernel_rfl))⟩,
  f19:=Tryz.func235.trans (congrArg some (by kernel_rfl)),
  f20:=Tryz.func236.trans (congrArg some (by kernel_rfl)),
  f30:=⟨Tryz.f264.name,by decide,Tryz.func264.trans (congrArg some (by kernel_rfl))⟩,
  f31:=Tryz.func265.trans (congrArg some (by kernel_rfl)),
  f32:=Tryz.func266.trans (congrArg some (by kernel_rfl)),
  f33:=⟨Tryz.f267.name,by decide,Tryz.func267.trans (congrArg some (by kernel_rfl))⟩,
  f34:=⟨Tryz.f268.name,by decide,Tryz.func268.trans (congrArg some (by kernel_rfl))⟩,
  f35:=⟨Tryz.f269.name,by decide,Tryz.func269.trans (congrArg some (by kernel_rfl))⟩,
  f40:=⟨Tryz.f286.name,by decide,Tryz.func286.trans (congrArg some (by kernel_rfl))⟩,
  t0:=Tryz.underlying0,
  a0:=Tryz.isAgg0,
  z0:=Tryz.sizeOf0,
  v0:=Tryz.zeroValue0,
  t3:=Tryz.underlying3,
  a3:=Tryz.isAgg3,
  z3:=Tryz.sizeOf3,
  v3:=Tryz.zeroValue3,
  t4:=Tryz.underlying4,
  a4:=Tryz.isAgg4,
  z4:=Tryz.sizeOf4,
  v4:=Tryz.zeroValue4,
  t5:=Tryz.underlying5,
  a5:=Tryz.isAgg5,
  z5:=Tryz.sizeOf5,
  v5:=Tryz.zeroValue5,
  t9:=Tryz.underlying9,
  a9:=Tryz.isAgg9,
  z9:=Tryz.sizeOf9,
  v9:=Tryz.zeroValue9,
  t22:=Tryz.underlying85,
  a22:=Tryz.isAgg85,
  z22:=Tryz.sizeOf85,
  v22:=Tryz.zeroValue85,
  t23:=Tryz.underlying85,
  a23:=Tryz.isAgg85,
  z23:=Tryz.sizeOf85,
  v23:=Tryz.zeroValue85,
  t25:=Tryz.underlying3,
  a25:=Tryz.isAgg3,
  z25:=Tryz.sizeOf3,
  v25:=Tryz.zeroValue3,
  t32:=Tryz.underlying314,
  a32:=Tryz.isAgg314,
  z32:=Tryz.sizeOf314,
  v32:=Tryz.zeroValue314,
  t35:=Tryz.underlying357,
  a35:=Tryz.isAgg357,
  z35:=Tryz.sizeOf357,
  v35:=Tryz.zeroValue357,
  t36:=Tryz.underlying358,
  a36:=Tryz.isAgg358,
  z36:=Tryz.sizeOf358,
  v36:=Tryz.zeroValue358,
  t41:=Tryz.underlying229,
  a41:=Tryz.isAgg229,
  z41:=Tryz.sizeOf229,
  v41:=Tryz.zeroValue229,
  t44:=Tryz.underlying364,
  a44:=Tryz.isAgg364,
  z44:=Tryz.sizeOf364,
  v44:=Tryz.zeroValue364,
  t46:=Tryz.underlying27,
  a46:=Tryz.isAgg27,
  z46:=Tryz.sizeOf27,
  v46:=Tryz.zeroValue27,
  t53:=Tryz.underlying385,
  a53:=Tryz.isAgg385,
  z53:=Tryz.sizeOf385,
  v53:=Tryz.zeroValue385,
  t57:=Tryz.underlying389,
  a57:=Tryz.isAgg389,
  z57:=Tryz.sizeOf389,
  v57:=Tryz.zeroValue389,
  t63:=Tryz.underlying398,
  a63:=Tryz.isAgg398,
  z63:=Tryz.sizeOf398,
  v63:=Tryz.zeroValue398,
  t64:=Tryz.underlying383,
  a64:=Tryz.isAgg383,
  z64:=Tryz.sizeOf383,
  v64:=Tryz.zeroValue383 }
theorem Zua (m:Nat):AnyZI.SortsIn Tryz.prog Tryz.sortedA_ren Fence.wide m :=
  ⟨fun blk off cap ss W hH hblk hsz=>callsIn_wide.2 (AnyM.slices_Sort_int Tryz.sortA blk off cap ss W hH hblk hsz),
   fun p cap W=>callsIn_wide.2 (AnyM.slices_Sort_int_none Tryz.sortA p cap W)⟩
theorem Zmh (m:Option Nat) (w:World):Calls Tryz.prog 56 #[.map m] w fun e w'=>e = .returned (.func (.func 113) #[] #[.pointer (some ⟨w.heap.size,0,none⟩)])∧w'=w.alloc (.cells #[.map m] 73) :=
  (callsIn_wide (n:=5)).1 (AnyZI.keys_in Tryz.keysA Fence.wide 5 trivial rfl m w)
def ZuW (_:Value):Option (DataW Unit × List MemPlace):=some (.nil,[])
theorem ZpI {w:World} {m:Nat} {l:List Int} (hR:ZlT w.heap m l) (hlen:l.length*8≤140737488355328) :
    ∃ (n:Nat) (D:DataW Unit),w.ownsMap Tryz.prog 3 ZuW m n D∧Maps.size D=l.length∧(intKeys D).Perm l:=by
  obtain ⟨es,clk,hm,hst,hk,hp,hb⟩:=hR
  have hu:Tryz.prog.underlying 3=some (.int .i64):=Tryz.underlying3
  have hes:es.size=l.length:=by
    have:=congrArg List.length hk
    simpa using this
  have hkey:∀ x∈es.toList,∃ n:Int,x.key = .int .i64 n∧(Lit.int .i64 n).wf=true:=fun x hx=>by
    have:x.key∈l.map (Value.int .i64):=by rw [← hk];exact List.mem_map_of_mem hx
    obtain ⟨n,hn,hn'⟩:=List.mem_map.1 this
    refine ⟨n,hn'.symm,?_⟩
    have:=hb n hn
    simp only [Lit.wf,Bool.and_eq_true,decide_eq_true_eq]
    have h1:IntKind.i64.min = -9223372036854775808:=by decide
    have h2:IntKind.i64.max=9223372036854775807:=by decide
    omega
  have hrg:∀ x∈es.toList,∃ n:Int,x.key = .int .i64 n∧WideElems.rd Tryz.prog 3 ZuW x=some (.int .i64 n,.nil):=fun x hx=>by
    obtain ⟨n,hn,hw⟩:=hkey x hx
    refine ⟨n,hn,?_⟩
    unfold WideElems.rd
    rw [hn,keyOf_int_mk hu hw]
    rfl
  have F:WideElems.Fit Tryz.prog 3 ZuW es clk:=⟨by unfold maxLen;omega,hst,fun x hx=>by
    obtain ⟨n,_,h⟩:=hrg x hx
    exact ⟨_,h⟩⟩
  refine ⟨es.size,_,World.ownsMap_of_fit hm F fun _ _ _ h=>h,?_,?_⟩
  ·show (List.foldr DataW.insert [] _).length=_
   rw [(WideShapes.sorted_perm _).length_eq]
   simp [hes]
  ·show (List.map (fun p=>Go.intOf p.1) (List.foldr DataW.insert [] _)).Perm l
   refine ((WideShapes.sorted_perm _).map _).trans ?_
   have:(es.toList.map (WideElems.rg Tryz.prog 3 ZuW)).map (fun p=>Go.intOf p.1)=l:=by
     refine (List.map_inj_right (f:=Value.int .i64) (fun a b h=>by simpa using h)).1 ?_
     rw [← hk,List.map_map,List.map_map]
     refine List.map_congr_left fun x hx=>?_
     obtain ⟨n,hn,h⟩:=hrg x hx
     simp only [Function.comp_apply,WideElems.rg,h,hn]
     rfl
   rw [this]
theorem Zka {w:World} {b m:Nat} {l:List Int} (hc:Zc.cell w.heap b 0=some (.map (some m))) (hR:ZlT w.heap m l) (hlen:l.length*8≤140737488355328) :
    Calls Tryz.prog 55 #[.func (.func 113) #[] #[.pointer (some ⟨b,0,none⟩)]] w fun e w'=>∃ v,e = .returned v∧w'.ownsRow w.heap.size 3 1 v l.length (l.map encZ)∧Below w.heap.size w w':=by
  obtain ⟨n,D,hown,hsz,hperm⟩:=ZpI hR hlen
  have hbl:b<w.heap.size:=by
    rcases Nat.lt_or_ge b w.heap.size with h9 | h9
    ·exact h9
    ·unfold Zc.cell at hc
     rw [Array.getElem?_eq_none h9] at hc
     cases hc
  have hcell:w.cell? ⟨b,0,none⟩=some (.map (some m)):=by rw [ZjN];exact hc
  have hseq:SeqGives Fence.wide 2 Tryz.prog 113 #[.pointer (some ⟨b,0,none⟩)] encZ (fun ss=>ss.Perm (intKeys D)) (Maps.size D) w :=
    AnyZI.keys_gives (ρ:=Tryz.keysA_ren) { Tryz.keysA with } Fence.wide _ trivial rfl (by omega) b m n D w hbl hcell hown
  have cS:=AnyZI.sorted_in Tryz.sortedA Fence.wide 5 trivial trivial trivial trivial rfl (by omega) (Zua _) (enters_of Tryz.func112 (by kernel_rfl) rfl) 113 #[.pointer (some ⟨b,0,none⟩)] trivial (enters_of Tryz.func113 (by kernel_rfl) rfl) _ _ (by rw [hsz];unfold maxLen;omega) (by rw [hsz];exact hlen) _ hseq
  change CallsIn _ _ Tryz.prog 55 _ _ _ at cS
  refine ((callsIn_wide (n:=5)).1 cS).mono ?_
  rintro e w' ⟨v,ss,rfl,hS,hrow,_,hb⟩
  refine ⟨v,rfl,?_,hb⟩
  have hp:ss.Perm l:=hS.trans hperm
  rw [mergeSort_of_perm_i hp] at hrow
  have hsort:l.mergeSort leI=l:=List.mergeSort_of_pairwise (by
    obtain ⟨_,_,_,_,_,h,_⟩:=hR
    exact h.imp fun hab=>by simp;omega)
  rw [hsort,hp.length_eq] at hrow
  exact hrow
noncomputable def XN:Zd:=⟨[.one (.M)],[.one (.V)],fun t K _ h=>ZV t.1 (fun r0 h=>K (r0,()) h) h⟩
theorem XK:Zj Tryz.prog 56 XN where
  named:=⟨_,Tryz.func56,by kernel_rfl,by kernel_rfl⟩
  calls t K Kp w hk:=by
    refine (Zmh t.1 w).mono ?_
    rintro e w' ⟨rfl,rfl⟩
    exact .inl ⟨(_,()),rfl,⟨rfl,rfl,rfl⟩,hk⟩
noncomputable def Zfu:Zd:=⟨[.one (.V)],[.one (.L)],fun t K _ h=>Za6 t.1 (fun r0 h=>K (r0,()) h) h⟩
theorem ZeU:Zj Tryz.prog 55 Zfu where
  named:=⟨_,Tryz.func55,by kernel_rfl,by kernel_rfl⟩
  calls t K Kp w hk:=by
    obtain ⟨x,u⟩:=t
    obtain ⟨b,m,l,hx,hc,hR,hlen,hk⟩:=hk
    dsimp only at hx
    subst hx
    refine (Zka hc hR hlen).mono ?_
    rintro e w' ⟨v,rfl,hrow,hb⟩
    have hx:Ext w.heap w'.heap:=⟨hb.size,hb.block⟩
    have hs:Fw.Same w w':=⟨hb.tape,hb.os,hb.output⟩
    rcases hrow with ⟨h1,⟨rfl,h0⟩ | ⟨g,cap,cur,rfl,hg,hcur,hn,hcap,hsz,htk⟩⟩
    ·refine .inl ⟨(⟨none,0,0⟩,()),rfl,hs,hk _ _ ⟨?_,Nat.le_refl _,by decide,.inl ⟨rfl,rfl⟩⟩ hx⟩
     rw [h1,h0]
    ·refine .inl ⟨(⟨some ⟨g,0,none⟩,l.length,cap⟩,()),rfl,hs,hk _ _ ⟨h1,hn,?_,.inr ⟨g,cur,_,rfl,hg,hcur,hsz,htk.symm⟩⟩ hx⟩
     unfold maxLen at hcap
     show cap<_
     omega
end Go.Proofs.YthbfgkphlmlihaaGreat
