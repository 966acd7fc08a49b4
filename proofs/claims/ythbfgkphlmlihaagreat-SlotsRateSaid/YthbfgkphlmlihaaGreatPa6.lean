/- Why a reading is right: regions. -/
import Derived.Sort.LoopGhostIn
import Derived.KernelRfl
import Derived.Laws.Externs
import GoSem.Extern.MapsClone
import Derived.Shelf.SlIterI.Nil
import Derived.Shelf.SortM.Plain
import Derived.Shelf.SortM.SortNone
import Derived.Maps.OwnSet
import Derived.Test.YthbfgkphlmlihaaGreatProg
import Derived.Test.YthbfgkphlmlihaaGreatPa5
set_option linter.unusedVariables false
set_option linter.unusedSimpArgs false
namespace Go.Fw
open Go
structure Xh (D:List Nat) (a a':Act):Prop where
  tmps:∀ j,j∉D→a'.tmps[j]?=a.tmps[j]?
  marks:mkN∉D→a'.defers=a.defers
theorem Xh.refl (D:List Nat) (a:Act):Xh D a a:=⟨fun _ _=>rfl,fun _=>rfl⟩
theorem Xh.trans {D:List Nat} {a b d:Act} (h:Xh D a b) (h':Xh D b d):Xh D a d:=⟨fun j hj=>(h'.1 j hj).trans (h.1 j hj),fun hj=>(h'.2 hj).trans (h.2 hj)⟩
theorem Xh.mono {D D':List Nat} {a b:Act} (h:Xh D a b) (hs:∀ j,j∈D→j∈D'):Xh D' a b:=⟨fun j hj=>h.1 j fun hj'=>hj (hs j hj'),fun hj=>h.2 fun hj'=>hj (hs _ hj')⟩
theorem put_defers (a:Act) (d:Option Tmp) (v:Value):(a.put d v).defers=a.defers:=by cases d<;>rfl
theorem Xh.put {D:List Nat} {a:Act} {d:Option Tmp} {v:Value} (h:∀ x,d=some x→x∈D):Xh D a (a.put d v):=by
  refine ⟨?_,fun _=>put_defers a d v⟩
  intro j hj
  cases d with
  | none=>rfl
  | some x =>
    have hne:x≠j:=fun he=>hj (he▸h x rfl)
    simp [Act.put,Array.getElem?_setIfInBounds_ne hne]
theorem ZhC {ops:Array Oper} {a:Act} {j t:Nat} (h:Zdr ops.toList j=some t):yielded ops a.tmps j=match a.tmps[t]? with | some (.bool b)=>some b | _=>none:=by
  unfold Zdr at h
  unfold yielded
  rw [show ops.toList[j]?=ops[j]? from by simp] at h
  rw [h]
  rfl
theorem Zf8 {ops:Array Oper} {a:Act} {j:Nat} (h:Zdr ops.toList j=none):yielded ops a.tmps j=none:=by
  unfold Zdr at h
  unfold yielded
  rw [show ops.toList[j]?=ops[j]? from by simp] at h
  rw [h]
  rfl
inductive Step (c:Cfg) (one:Oper→Env→Zc→(Env→Zc→Prop)→Prop) (ops:Array Oper) (o:Oper) (a:Act) (h:Zc) (K:Env→Zc→Prop):Prop
  | does (e:Env) (ha:Agr c.n e a) (hw:Region.wanted o (yielded ops a.tmps)=true) (hk:one o e h K)
  | skips (e:Env) (ha:Agr c.n e a) (hw:Region.wanted o (yielded ops a.tmps)=false) (hk:ZhE c o e h K)
theorem ZgG {c:Cfg} {one:Oper→Env→Zc→(Env→Zc→Prop)→Prop} {ops:Array Oper} {o:Oper} {os:List Oper} {e:Env} {a:Act} {h:Zc} {K:Env→Zc→Prop}
    (hag:Agr c.n e a) (hk:Zct c one ops.toList (o::os) e h K):Step c one ops o a h (fun e' h'=>Zct c one ops.toList os e' h' K):=by
  unfold Zct at hk
  split at hk
  ·rename_i hg
   exact .does e hag (by simp [Region.wanted,hg]) hk
  ·rename_i j want hg
   split at hk
   ·rename_i hs
    exact .skips e hag (by simp [Region.wanted,hg,Zf8 hs]) hk
   ·rename_i t hs
    have hy:=ZhC (a:=a) hs
    split at hk
    ·rename_i b ht
     have ht':a.tmps[t]?=some (.bool b):=hag.val t _ ht
     rw [ht'] at hy
     split at hk
     ·exact .does e hag (by simp [Region.wanted,hg,hy]) hk
     ·exact .does e hag (by simp [Region.wanted,hg,hy]) hk
     ·exact .skips e hag (by simp [Region.wanted,hg,hy]) hk
     ·exact .skips e hag (by simp [Region.wanted,hg,hy]) hk
    ·rename_i b ht
     have ht':a.tmps[t]?=some (.bool b):=hag.val t _ ht
     rw [ht'] at hy
     split at hk
     ·cases b with
      | true=>exact .does _ (hag.tell ht) (by simp [Region.wanted,hg,hy]) (hk.1 rfl)
      | false=>exact .skips _ (hag.tell ht) (by simp [Region.wanted,hg,hy]) (hk.2 rfl)
     ·cases b with
      | true=>exact .skips _ (hag.tell ht) (by simp [Region.wanted,hg,hy]) (hk.1 rfl)
      | false=>exact .does _ (hag.tell ht) (by simp [Region.wanted,hg,hy]) (hk.2 rfl)
    ·rename_i v hv1 hv2 ht
     have ht':a.tmps[t]?=some v.v:=hag.val t _ ht
     refine .skips e hag ?_ hk
     have:yielded ops a.tmps j=none:=by
       rw [hy,ht']
       cases v with
       | val u=>cases u<;>first | rfl | exact absurd rfl (hv2 _)
       | lit b=>exact absurd rfl (hv1 b)
       | adr b o=>rfl
       | itr t b=>rfl
       | more k v=>rfl
       | over=>rfl
     simp [Region.wanted,hg,this]
    ·exact hk.elim
theorem ZeI {ops:Array Oper} {k:Nat} {o:Oper} {x:Nat} (ho:ops[k]?=some o) (hx:o.dst=some x):x∈ops.toList.filterMap (·.dst):=by
  refine List.mem_filterMap.2 ⟨o,?_,hx⟩
  exact List.mem_of_getElem? (i:=k) (by simpa using ho)
theorem ZgF {c:Cfg} (hc:c.OK) {ops:Array Oper} {Q:Exit→Act→World→Prop}:∀ (l:List Oper) (k:Nat),(∀ j,l[j]?=ops[k+j]?) →
    ∀ {e:Env} {a:Act} {w:World} {K:Env→Zc→Prop},Agr c.n e a→Zct c (Zst c) ops.toList l e w.heap K →
    (∀ e' a' w',Agr c.n e' a'→Same w w'→Xh (ops.toList.filterMap (·.dst)) a a'→K e' w'.heap→Q .normal a' w') →
    (∀ v a' w',Same w w'→Xh (ops.toList.filterMap (·.dst)) a a'→c.pan v w'.heap→Q (.panic [{ v,recovered:=false }]) a' w')→wpOpsIn (fen c.rnd) 0 c.P ops Q (List.range' k l.length) a w
  | [],k,hl,e,a,w,K,hag,hk,hQ,_=>hQ e a w hag (Same.refl w) (Xh.refl _ a) hk
  | o::os,k,hl,e,a,w,K,hag,hk,hQ,hP=>by
    have ho:ops[k]?=some o:=by have:=hl 0;simpa using this.symm
    have hl':∀ j,os[j]?=ops[k+1+j]?:=fun j=>by have:=hl (j+1);rw [show k+1+j=k+(j+1) from by omega,← this];rfl
    have hput:∀ v,Xh (ops.toList.filterMap (·.dst)) a (a.put o.dst v):=fun v=>Xh.put fun x hx=>ZeI ho hx
    simp only [List.length_cons,List.range'_succ,wpOpsIn,ho]
    cases ZgG hag hk with
    | does e hag hw hk =>
      rw [if_pos hw]
      refine Zsq hc hag (fun v w' hs hp=>hP v a w' hs (Xh.refl _ a) hp) hk fun v w' hs hk=>?_
      obtain ⟨e',hag',hk⟩:=Za0 hag hk
      exact ZgF hc os (k+1) hl' hag' hk (fun e'' a'' w'' h1 h2 h3 h4=>hQ e'' a'' w'' h1 (hs.trans h2) ((hput _).trans h3) h4)
        (fun v a'' w'' h2 h3 h4=>hP v a'' w'' (hs.trans h2) ((hput _).trans h3) h4)
    | skips e hag hw hk =>
      rw [if_neg (by simp [hw])]
      obtain ⟨e',hag',hk⟩:=Za0 hag hk
      exact ⟨fun _ _=>trivial,ZgF hc os (k+1) hl' hag' hk (fun e'' a'' w'' h1 h2 h3 h4=>hQ e'' a'' w'' h1 h2 ((hput _).trans h3) h4)
        (fun v a'' w'' h2 h3 h4=>hP v a'' w'' h2 ((hput _).trans h3) h4)⟩
def Cls (w0:World) (h:Zc) (w:World):Prop:=Same w0 w∧w.heap=h
theorem Zlf {c:Cfg} {o:Oper} {a:Act} {w0:World} {h:Zc} {v:EV} (hr:∀ w:World,w.heap=h→(execOp a.eval o).run c.P w = .ok (.value v.v) w) :
    ∀ w,Cls w0 h w→o.quietAtIn (fen none) 0 c.P a (Cls w0 h) w v.v:=by
  intro w hw
  unfold Oper.quietAtIn
  rw [hr w hw.2]
  exact ⟨rfl,rfl⟩
theorem YU {c:Cfg} {o:Oper} {a:Act} {w0:World} {h:Zc} {K:EV→Zc→Prop} {next:Act→Prop} (hq:Zkm c o a h K) (hn:∀ v,K v h→next (a.put o.dst v.v)) :
    o.quietIn (fen none) 0 c.P a (Cls w0 h) next :=
  let ⟨v,hr,hk⟩:=hq
  ⟨v.v,Zlf hr,hn v hk⟩
theorem Zji {c:Cfg} (hc:c.OK) {e:Env} {a:Act} {w0:World} {h:Zc} {o:Oper} {K:EV→Zc→Prop} {next:Act→Prop} (hag:Agr c.n e a) (hk:ZkD c o.op e h K)
    (hn:∀ v,K v h→next (a.put o.dst v.v)):o.quietIn (fen none) 0 c.P a (Cls w0 h) next:=by
  obtain ⟨dst,op,type,pos,after,guard⟩:=o
  cases op
  case move=>exact YU (Zit hag hk).q hn
  case assign=>exact YU (ZfH hag hk).q hn
  case pick=>exact YU (Zis hag hk).q hn
  case load=>exact YU (Ziv hag hk) hn
  case nilCheck=>exact YU (ZdZ hag hk).q hn
  case binOp=>exact YU (Zgy hag hk).q hn
  case unOp=>exact YU (Zir hag hk).q hn
  case slice=>exact YU (Zgu hag hk).q hn
  case fieldAddr=>exact YU (Zdx hag hk).q hn
  case field=>exact YU (Zgw hag hk).q hn
  case indexAddr=>exact YU (Zdw hag hk).q hn
  case index=>exact YU (Zgv hag hk).q hn
  case extract=>exact YU (ZeV hag hk).q hn
  case build=>exact YU (Zgx hag hk).q hn
  case makeFunc=>exact YU (Zd0 hag hk).q hn
  case convert s d x =>
    simp only [ZkD] at hk
    split at hk
    ·rename_i j k hs hd
     exact YU (Zd1 hag hs hd hk).q hn
    ·exact hk.elim
  case call cl =>
    unfold ZkD at hk
    split at hk<;>first
      | exact hk.elim
      | (rename_i ho;cases ho)
    ·exact YU (ZmF hag hk) hn
    ·exact YU (Yg hag (.inr (.inl rfl)) hk).q hn
    ·exact YU (Yg hag (.inr (.inr (.inl rfl))) hk).q hn
    ·exact YU (Yg hag (.inr (.inr (.inr rfl))) hk).q hn
    ·rename_i f args ts
     split at hk
     ·rename_i es he
      split at hk
      ·rename_i s t hp
       obtain ⟨hmem,ht⟩:=Zeb hp
       dsimp only at hmem ht
       obtain ⟨r,hm,hk⟩:=hk
       refine ⟨(ZcI (Y4.evs s.res r)).v,fun w hw=>?_,hn _ hk⟩
       have hargs:=ZaY hag he
       obtain ⟨⟨fn,hf,hname,hbody⟩,hcall⟩:=hc.calls _ hmem
       have henter:(execOp a.eval ⟨dst,.call ⟨.value (.func f),args,ts⟩,type,pos,after,guard⟩).run c.P w = .ok (.enter f (args.map a.eval)) w:=by
         simp only [execOp,resolve,Act.eval,Deferred.ofValue,Sem.run_bind,Sem.run_pure,Result.andThen_ok,invoke,callFunc,run_program,hf,hname,Bool.false_eq_true,if_false,hbody]
         simp
       unfold Oper.quietAtIn
       rw [henter]
       refine ⟨rfl,fun h=>(by cases h),ZdO.2 ?_⟩
       rw [hargs,← Zdz ht]
       refine (hcall t (fun r' h'=>r'=r∧h'=h) (fun _ _=>False) w (by rw [hw.2];exact hm)).mono ?_
       rintro ending w' (⟨r',rfl,hsame,rfl,hh⟩ | ⟨v,rfl,hsame,hk⟩)
       ·exact ⟨rfl,hw.1.trans hsame,hh⟩
       ·exact hk.elim
      ·exact hk.elim
     ·exact hk.elim
  all_goals exact hk.elim
theorem ZiF {c:Cfg} (hc:c.OK) {ops:Array Oper} {w0:World} {Q:Act→Prop} {h:Zc}:∀ (l:List Oper) (k:Nat),(∀ j,l[j]?=ops[k+j]?) →
    ∀ {e:Env} {a:Act} {K:Env→Zc→Prop},Agr c.n e a→Zct c (ZmX c) ops.toList l e h K →
    (∀ e' a',Agr c.n e' a'→Xh (ops.toList.filterMap (·.dst)) a a'→K e' h→Q a')→wpQuietIn (fen none) 0 c.P ops (Cls w0 h) Q l a
  | [],k,hl,e,a,K,hag,hk,hQ=>hQ e a hag (Xh.refl _ a) hk
  | o::os,k,hl,e,a,K,hag,hk,hQ=>by
    have ho:ops[k]?=some o:=by have:=hl 0;simpa using this.symm
    have hl':∀ j,os[j]?=ops[k+1+j]?:=fun j=>by have:=hl (j+1);rw [show k+1+j=k+(j+1) from by omega,← this];rfl
    have hput:∀ v,Xh (ops.toList.filterMap (·.dst)) a (a.put o.dst v):=fun v=>Xh.put fun x hx=>ZeI ho hx
    unfold wpQuietIn
    refine ⟨fun _ _ _ _=>trivial,?_⟩
    cases ZgG hag hk with
    | does e hag hw hk =>
      rw [if_pos hw]
      refine Zji hc hag hk fun v hk=>?_
      obtain ⟨e',hag',hk⟩:=Za0 hag hk
      exact ZiF hc os (k+1) hl' hag' hk fun e'' a'' h1 h3 h4=>hQ e'' a'' h1 ((hput _).trans h3) h4
    | skips e hag hw hk =>
      rw [if_neg (by simp [hw])]
      obtain ⟨e',hag',hk⟩:=Za0 hag hk
      exact ZiF hc os (k+1) hl' hag' hk fun e'' a'' h1 h3 h4=>hQ e'' a'' h1 ((hput _).trans h3) h4
def ZcC (c:Cfg) (D:List Nat) (a:Act) (w:World) (Q:Ex→Env→Zc→Prop):Exit→Act→World→Prop
  | .normal,a',w'=>∃ e',Agr c.n e' a'∧Same w w'∧Xh D a a'∧Q .normal e' w'.heap
  | .exit id,a',w'=>∃ e',Agr c.n e' a'∧Same w w'∧Xh D a a'∧Q (.exit id) e' w'.heap
  | .ret,a',w'=>∃ e',Agr c.n e' a'∧Same w w'∧Xh D a a'∧Q .ret e' w'.heap
  | .panic chain,a',w'=>∃ v,chain=[{ v,recovered:=false }]∧Same w w'∧(mkN∉D→a'.defers=a.defers)∧c.pan v w'.heap
  | _,_,_=>False
theorem ZcC.mono {c:Cfg} {D D':List Nat} {a a1:Act} {w w1:World} {Q Q':Ex→Env→Zc→Prop} (hs:Same w w1) (hk:Xh D' a a1) (hd:∀ j,j∈D→j∈D') (hq:∀ x e h,Q x e h→Q' x e h) :
    ∀ x a' w',ZcC c D a1 w1 Q x a' w'→ZcC c D' a w Q' x a' w':=by
  intro x a' w' h
  cases x<;>first
    | exact h.elim
    | (obtain ⟨e',h1,h2,h3,h4⟩:=h
       exact ⟨e',h1,hs.trans h2,hk.trans (h3.mono hd),hq _ _ _ h4⟩)
    | (obtain ⟨v,h1,h2,h3,h4⟩:=h
       exact ⟨v,h1,hs.trans h2,fun hj=>(h3 fun hj'=>hj (hd _ hj')).trans (hk.2 hj),h4⟩)
theorem ZgL {c:Cfg} {D:List Nat} {a:Act} {w:World} {Q:Ex→Env→Zc→Prop} {ch:List PanicEntry} {a':Act} {d:Option Tmp} {v:Value} {w':World} (h:ZcC c D a w Q (.panic ch) (a'.put d v) w'):ZcC c D a w Q (.panic ch) a' w':=by
  obtain ⟨v',h1,h2,h3,h4⟩:=h
  exact ⟨v',h1,h2,fun hj=>(put_defers a' d v).symm.trans (h3 hj),h4⟩
theorem ZdE {c:Cfg} {ops:Array Oper} {o:Oper} {e:Env} {a:Act} {A B:Env→Prop} (hag:Agr c.n e a) (hk:Zg3 ops.toList o e A B) :
    (∃ e',Agr c.n e' a∧Region.wanted o (yielded ops a.tmps)=true∧A e')∨(∃ e',Agr c.n e' a∧Region.wanted o (yielded ops a.tmps)=false∧B e'):=by
  unfold Zg3 at hk
  split at hk
  ·rename_i hg
   exact .inl ⟨e,hag,by simp [Region.wanted,hg],hk⟩
  ·rename_i j want hg
   split at hk
   ·rename_i hs
    exact .inr ⟨e,hag,by simp [Region.wanted,hg,Zf8 hs],hk⟩
   ·rename_i t hs
    have hy:=ZhC (a:=a) hs
    split at hk
    ·rename_i b ht
     have ht':a.tmps[t]?=some (.bool b):=hag.val t _ ht
     rw [ht'] at hy
     split at hk
     ·exact .inl ⟨e,hag,by simp [Region.wanted,hg,hy],hk⟩
     ·exact .inl ⟨e,hag,by simp [Region.wanted,hg,hy],hk⟩
     ·exact .inr ⟨e,hag,by simp [Region.wanted,hg,hy],hk⟩
     ·exact .inr ⟨e,hag,by simp [Region.wanted,hg,hy],hk⟩
    ·rename_i b ht
     have ht':a.tmps[t]?=some (.bool b):=hag.val t _ ht
     rw [ht'] at hy
     split at hk
     ·cases b with
      | true=>exact .inl ⟨_,hag.tell ht,by simp [Region.wanted,hg,hy],hk.1 rfl⟩
      | false=>exact .inr ⟨_,hag.tell ht,by simp [Region.wanted,hg,hy],hk.2 rfl⟩
     ·cases b with
      | true=>exact .inr ⟨_,hag.tell ht,by simp [Region.wanted,hg,hy],hk.1 rfl⟩
      | false=>exact .inl ⟨_,hag.tell ht,by simp [Region.wanted,hg,hy],hk.2 rfl⟩
    ·rename_i v hv1 hv2 ht
     have ht':a.tmps[t]?=some v.v:=hag.val t _ ht
     refine .inr ⟨e,hag,?_,hk⟩
     have:yielded ops a.tmps j=none:=by
       rw [hy,ht']
       cases v with
       | val u=>cases u<;>first | rfl | exact absurd rfl (hv2 _)
       | lit b=>exact absurd rfl (hv1 b)
       | adr b o=>rfl
       | itr t b=>rfl
       | more k v=>rfl
       | over=>rfl
     simp [Region.wanted,hg,this]
    ·exact hk.elim
theorem Zoh {c:Cfg} {e:Env} {a:Act} {h:Zc} {o:Oper} {K:EV→Zc→Prop} (hag:Agr c.n e a) (hkd:ZdT c o.op = .pure) (hk:opP c o.op e h K):Zcx c o a h K:=by
  obtain ⟨dst,op,type,pos,after,guard⟩:=o
  cases op
  case move=>exact Zit hag hk
  case assign=>exact ZfH hag hk
  case pick=>exact Zis hag hk
  case nilCheck=>exact ZdZ hag hk
  case binOp=>exact Zgy hag hk
  case unOp=>exact Zir hag hk
  case slice=>exact Zgu hag hk
  case fieldAddr=>exact Zdx hag hk
  case field=>exact Zgw hag hk
  case indexAddr=>exact Zdw hag hk
  case index=>exact Zgv hag hk
  case extract=>exact ZeV hag hk
  case build=>exact Zgx hag hk
  case makeFunc=>exact Zd0 hag hk
  case convert s d x =>
    simp only [ZdT] at hkd
    split at hkd
    ·rename_i j k hs hd
     exact Zd1 hag hs hd hk
    ·split at hkd<;>cases hkd
    ·cases hkd
  case call cl =>
    obtain ⟨cal,args,ts⟩:=cl
    cases cal with
    | builtin b =>
      cases b<;>first
        | (simp only [ZdT] at hkd;done)
        | (cases hm:ZeR c.P ts with
            | true=>simp [ZdT,hm] at hkd
            | false=>exact Yg hag (.inl ⟨rfl,hm⟩) hk)
        | exact Yg hag (.inr (.inl rfl)) hk
        | exact Yg hag (.inr (.inr (.inl rfl))) hk
        | exact Yg hag (.inr (.inr (.inr rfl))) hk
        | (simp [ZdT] at hkd)
    | _=>simp [ZdT] at hkd
  all_goals simp [ZdT] at hkd
theorem Zng {c:Cfg} {op:Op} {t:TypeId} {x:Operand} (h:ZdT c op = .load t x):op = .load t x:=by
  cases op<;>simp [ZdT] at h
  case load=>rw [h.1,h.2]
  case convert=>repeat' (first | (cases h;done) | split at h)
  case call cl =>
    obtain ⟨cal,args,ts⟩:=cl
    cases cal with
    | builtin b=>cases b<;>simp at h<;>(cases hm:ZeR c.P ts<;>simp [hm] at h)
    | _=>simp at h
def Zh3 (h:Zc) (l:List (Nat × Nat × Value)):Prop:=∀ q,q∈l→h.cell q.1 q.2.1=some q.2.2
theorem Zg1 {h:Zc} {b o:Nat}:∀ {vs:List Value} {i:Nat},Zh3 h (ZjF b o i vs)↔h.has b (o+i) vs
  | [],i=>⟨fun _=>trivial,fun _ q hq=>(by simp [ZjF] at hq)⟩
  | v::vs,i=>by
    have ih:=Zg1 (h:=h) (b:=b) (o:=o) (vs:=vs) (i:=i+1)
    unfold Zh3 at ih ⊢
    simp only [ZjF,List.forall_mem_cons,Zkk,ih]
    rfl
theorem Zor {P:Program} {t:TypeId} {b o:Nat} {K:EV→List (Nat × Nat × Value)→Prop} {h:Zc} (hk:ldH P t h b o K) :
    ∃ v cells,Zh3 h cells∧(∀ w:World,Zh3 w.heap cells→(loadVar t ⟨b,o,none⟩).run P w = .ok v.v w)∧K v cells:=by
  unfold ldH at hk
  cases hu:P.underlying t with
  | none=>rw [hu] at hk;simp [Zam,ZgY] at hk
  | some d =>
    obtain ⟨i,hi⟩:=XJ P hu
    rw [hu] at hk
    unfold loadVar
    cases ha:Zam (some d) with
    | true =>
      rw [ha] at hk
      simp only [cond_true] at hk
      cases hl:Nat.beq (ZcB P 8 t).length (P.cellsOf t) with
      | false=>rw [hl] at hk;exact hk.elim
      | true =>
        rw [hl] at hk
        obtain ⟨vs,hlen,hh,hk⟩:=ZfX hk
        have hs:i.size=vs.length:=by rw [hlen,Nat.eq_of_beq_eq_true hl,Zap P hi]
        refine ⟨.val (.agg vs.toArray),_,Zg1.2 hh,fun w hw=>?_,hk⟩
        have hw:=Zg1.1 hw
        simp only [Sem.run_bind,Zca P w t hu,ha,Result.andThen_ok,if_true,YP P w t hi,hs]
        rw [Zbg P w b o vs (by simpa using hw)]
        rfl
    | false =>
      rw [ha] at hk
      simp only [cond_false] at hk
      obtain ⟨v,hc,hk,_⟩:=Ze0 hk
      refine ⟨v,_,?_,fun w hw=>?_,hk⟩
      ·intro q hq
       simp only [List.mem_singleton] at hq
       subst hq
       exact hc
      have hw:Zc.cell w.heap b o=some v.v:=hw _ (.head _)
      simp only [Sem.run_bind,Zca P w t hu,ha,Result.andThen_ok,Bool.false_eq_true,if_false]
      exact ZdB P w hw _
theorem ZmN {c:Cfg} {op:Op} {x:Operand} (h:ZdT c op = .text x):∃ s d e,op = .convert s d x∧c.P.underlying s=some (.slice e)∧c.P.underlying d=some .string∧c.P.underlying e=some (.int .u8):=by
  cases op<;>simp [ZdT] at h
  case convert s d y =>
    split at h
    ·cases h
    ·rename_i e hs hd
     split at h
     ·rename_i he
      cases h
      exact ⟨s,d,e,rfl,hs,hd,he⟩
     ·cases h
    ·cases h
  case call cl =>
    obtain ⟨cal,args,ts⟩:=cl
    cases cal with
    | builtin b=>cases b<;>simp at h<;>(cases hm:ZeR c.P ts<;>simp [hm] at h)
    | _=>simp at h
theorem ZfY {h:Zc}:∀ {l:List (Nat × Nat × Value)},Zm h l↔Zh3 h l
  | []=>⟨fun _ q hq=>(by cases hq),fun _=>trivial⟩
  | (b,o,v)::r=>by
    have ih:=ZfY (h:=h) (l:=r)
    unfold Zh3 at ih ⊢
    simp only [Zm,List.forall_mem_cons,ih]
def Zcw (hd:ZdQ):Zgg:=hd.map fun x=>(x.1,fun w=>x.2 w.heap)
theorem Zh4 {w:World} {K:Prop}:∀ {hd:ZdQ},Zqj w.heap hd K→(Zcw hd).all w∧K
  | [],hk=>⟨fun q hq=>(by cases hq),hk⟩
  | x::r,hk=>by
    obtain ⟨h1,hk⟩:=hk
    obtain ⟨h2,hk⟩:=Zh4 (hd:=r) hk
    refine ⟨fun q hq=>?_,hk⟩
    rcases List.mem_cons.1 hq with rfl | hq
    ·exact h1
    ·exact h2 q hq
def nxt (ops:Array Oper) (L:Zgg) (j:Nat):Zgg :=
  match ops[j]? with
  | some o=>L.filter fun p=> !ZdR p.1 o.after.toList
  | none=>L
theorem Zc4 (ops:Array Oper):Next ops (nxt ops) where
  mem L j p hp:=by
    unfold nxt at hp
    split at hp
    ·exact (List.mem_filter.1 hp).1
    ·exact hp
  keep L j p hp hw:=by
    unfold nxt
    split
    ·rename_i o ho
     refine List.mem_filter.2 ⟨hp,?_⟩
     cases hb:ZdR p.1 o.after.toList with
     | false=>rfl
     | true =>
       obtain ⟨e,he,h1,h2⟩:=ZfF.1 hb
       exact absurd ⟨o,ho,e,by simpa using he,h1,h2⟩ hw
    ·exact hp
  same L L' j p hp hl:=by
    unfold nxt at hp ⊢
    split at hp
    ·rename_i o ho
     exact List.mem_filter.2 ⟨hl,(List.mem_filter.1 hp).2⟩
    ·exact hl
theorem Zom {ops:Array Oper} {j:Nat} {o:Oper} (ho:ops[j]?=some o) (hd:ZdQ):nxt ops (Zcw hd) j=Zcw (Zly o hd):=by
  unfold nxt
  rw [ho]
  simp only
  induction hd with
  | nil=>rfl
  | cons x r ih =>
    have e:Zcw (x::r)=(x.1,fun w:World=>x.2 w.heap)::Zcw r:=rfl
    rw [e,List.filter_cons]
    simp only [Zly]
    cases hb:ZdR x.1 o.after.toList with
    | true=>simp only [Bool.not_true,Bool.false_eq_true,if_false,cond_true];exact ih
    | false=>simp only [Bool.not_false,if_true,cond_false];rw [ih];rfl
theorem Zlj {ops:Array Oper} {m:Nat} {listed:Array Bool} (hr:Rel ops m listed) (h:Zm8 m 0 ops.toList=true):Region.ready .any ops listed=[]:=by
  have key:∀ (os:List Oper) (k:Nat),Zm8 m k os=true→∀ j o,os[j]?=some o→XT m (k+j) o=false:=by
    intro os
    induction os with
    | nil=>intro k _ j o ho;simp at ho
    | cons x os ih =>
      intro k h j o ho
      simp only [Zm8] at h
      cases hx:XT m k x with
      | true=>rw [hx] at h;cases h
      | false =>
        rw [hx] at h
        cases j with
        | zero=>simp at ho;subst ho;exact hx
        | succ j =>
          have:=ih (k+1) h j o (by simpa using ho)
          rw [show k+(j+1)=k+1+j from by omega]
          exact this
  apply List.eq_nil_iff_forall_not_mem.2
  intro j hj
  obtain ⟨o,ho,hb⟩:=hr.ready.1 hj
  have:=key _ 0 h j o (by simpa using ho)
  rw [Nat.zero_add,hb] at this
  cases this
section
variable {rn:Option Nat} {P:Program} {ops:Array Oper} {Q:Exit→Act→World→Prop} {i m:Nat} {o:Oper} {listed:Array Bool} {a:Act} {w:World} {L:Zgg} {fuel:Nat} {v:Value} {S:World→Prop}
theorem Zfo (ho:ops[i]?=some o):i<ops.size:=by
  rcases Nat.lt_or_ge i ops.size with h | h
  ·exact h
  ·rw [Array.getElem?_eq_none h] at ho;cases ho
theorem Zm3 (hr:Rel ops m listed) (h:ZfQ m i 0 ops.toList=true):∀ j,j∈Region.ready .any ops listed→j=i:=by
  intro j hj
  obtain ⟨o',ho',hb⟩:=hr.ready.1 hj
  have:=ZfP h j o' (by simpa using ho') (by rw [Nat.zero_add];exact hb)
  rw [Nat.zero_add] at this
  exact this
theorem Zqn (hr:Rel ops m listed) (h:Zgm ops o m i 0 ops.toList=true) :
    ∀ j oj,ops[j]?=some oj→j≠i→listed.getD j true=false→(∀ e∈oj.after,Region.binds .any e=true→e.on≠i)→o.apart ops oj=true:=by
  intro j oj hj hne hl hno
  have hlt:=Zfo hj
  refine Zh9 h j oj (by simpa using hj) (by rw [Nat.zero_add];exact hne) ?_ hno
  rw [Nat.zero_add,← hr.bit' hlt]
  exact hl
theorem ZkA (hnd:ZcL ops) (ho:ops[i]?=some o) (hsel:Region.noSelect ops=true) (hQ:∀ c a v w,Q (.panic c) (a.put o.dst v) w→Q (.panic c) a w) (hr:Rel ops m listed) (hm:XT m i o=true) (hf:Zgm ops o m i 0 ops.toList=true)
    (hy:YieldsIf P ops S o v a) (hS:S w) (hall:Zgg.all L w) (h:wpK rn P ops Q (nxt ops) ((i,S)::L) fuel (listed.setIfInBounds i true) (a.put o.dst v) w) :
    wpK rn P ops Q (nxt ops) L (fuel+1) listed a w :=
  ZmC hnd (Zc4 ops) ho (Region.noSelect_spec hsel) (fun c a w h=>hQ c a v w h) fuel L listed a w (Zqn hr hf) (hr.ready.2 ⟨o,ho,hm⟩) hy hS hall h
theorem Ziy (hnd:ZcL ops) (ho:ops[i]?=some o) (hr:Rel ops m listed) (hm:XT m i o=true) (hf:ZfQ m i 0 ops.toList=true)
    (hy:YieldsIf P ops S o v a) (hS:S w) (hall:Zgg.all L w) (h:wpK rn P ops Q (nxt ops) L fuel (listed.setIfInBounds i true) (a.put o.dst v) w) :
    wpK rn P ops Q (nxt ops) L (fuel+1) listed a w:=by
  refine Zkw (Zm3 hr hf) (hr.ready.2 ⟨o,ho,hm⟩) (Zc1 hnd ho hy hS ⟨fun p hp=>hall p ((Zc4 ops).mem _ _ _ hp),?_⟩)
  exact ZeA (Zc4 ops) _ _ _ _ _ _ (fun p hp=> .inl ((Zc4 ops).mem _ _ _ hp)) h
theorem Zix (hnd:ZcL ops) (ho:ops[i]?=some o) (hsel:Region.noSelect ops=true) (hQ:∀ c a v w,Q (.panic c) (a.put o.dst v) w→Q (.panic c) a w) (hr:Rel ops m listed) (hm:XT m i o=true)
    (hf:Zgm ops o m i 0 ops.toList=true∨ZfQ m i 0 ops.toList=true)
    (hy:YieldsIf P ops (fun _=>True) o v a) (hall:Zgg.all L w) (h:wpK rn P ops Q (nxt ops) L fuel (listed.setIfInBounds i true) (a.put o.dst v) w) :
    wpK rn P ops Q (nxt ops) L (fuel+1) listed a w:=by
  rcases hf with hf | hf
  ·refine ZkA hnd ho hsel hQ hr hm hf hy trivial hall ?_
   refine ZeA (Zc4 ops) _ _ _ _ _ _ (fun p hp=>?_) h
   rcases List.mem_cons.1 hp with rfl | hp
   ·exact .inr fun _=>trivial
   ·exact .inl hp
  ·exact Ziy hnd ho hr hm hf hy trivial hall h
end
theorem Zoi {ops:Array Oper} {m i l:Nat} {listed:Array Bool} (hr:Rel ops m listed) (h:ZhN m i l 0 ops.toList=true):∀ j,j∈Region.ready .any ops listed→j=i∨j=l:=by
  intro j hj
  obtain ⟨o',ho',hb⟩:=hr.ready.1 hj
  have:=ZeX h j o' (by simpa using ho') (by rw [Nat.zero_add];exact hb)
  rw [Nat.zero_add] at this
  exact this
section
variable {c:Cfg} {ops:Array Oper} {D:List Nat} {a0:Act} {w0:World} {Qx:Ex→Env→Zc→Prop}
def Zs8 (c:Cfg) (ops:Array Oper) (D:List Nat) (a0:Act) (w0:World) (Qx:Ex→Env→Zc→Prop) (fuel m:Nat) (rest:ZdQ→Env→Zc→Prop):Prop :=
  ∀ (listed:Array Bool) (hd:ZdQ) (e:Env) (a:Act) (w:World),Rel ops m listed→Agr c.n e a→Same w0 w→Xh D a0 a→(Zcw hd).all w →
    rest hd e w.heap→wpK c.rnd c.P ops (ZcC c D a0 w0 Qx) (nxt ops) (Zcw hd) fuel listed a w
theorem Zkf (hnd:ZcL ops) (hc:c.OK) (hD:D=ops.toList.filterMap (·.dst)) {i m fuel:Nat} {o:Oper} {hd:ZdQ} {e:Env} {a:Act} {w:World} {listed:Array Bool} {rest:ZdQ→Env→Zc→Prop}
    (ho:ops[i]?=some o) (hr:Rel ops m listed) (hag:Agr c.n e a) (hs:Same w0 w) (hkp:Xh D a0 a) (hall:(Zcw hd).all w) (ih:Zs8 c ops D a0 w0 Qx fuel (Zhq m i) rest) (hk:Zqq c ops o hd e w.heap rest) :
    wpOpIn (fen c.rnd) 0 c.P ops (ZcC c D a0 w0 Qx) i (fun a' w'=>(nxt ops (Zcw hd) i).all w'∧wpK c.rnd c.P ops (ZcC c D a0 w0 Qx) (nxt ops) (nxt ops (Zcw hd) i) fuel (listed.setIfInBounds i true) a' w') a w:=by
  have hr':=hr.set (Zfo ho)
  have hput:∀ v,Xh D a0 (a.put o.dst v):=fun v=>hkp.trans (Xh.put fun x hx=>hD▸ZeI ho hx)
  unfold Zqq at hk
  rcases ZdE hag hk with ⟨e1,hag1,hw,hk⟩ | ⟨e1,hag1,hw,hk⟩
  ·rw [Zom ho]
   unfold Go.wpOpIn
   simp only [ho,hw,if_true]
   refine Zm2 hc hag1 (fun v w' hs' hp=>⟨v,rfl,hs.trans hs',hkp.2,hp⟩) hk fun v w' hs' hk=>?_
   obtain ⟨e',hag',hk⟩:=Za0 hag1 hk
   obtain ⟨hall',hk⟩:=Zh4 hk
   exact ⟨hall',ih _ _ e' _ w' hr' hag' (hs.trans hs') (hput _) hall' hk⟩
  ·obtain ⟨e',hag',hk⟩:=Za0 hag1 hk
   have hy:YieldsIf c.P ops (fun _=>True) o undef a:= .inr ⟨hw,rfl⟩
   refine Zc1 hnd ho hy trivial ⟨fun p hp=>hall p ((Zc4 ops).mem _ _ _ hp),?_⟩
   exact ZeA (Zc4 ops) _ _ _ _ _ _ (fun p hp=> .inl ((Zc4 ops).mem _ _ _ hp)) (ih _ hd e' _ w hr' hag' hs (hput _) hall hk)
theorem Zql (hnd:ZcL ops) (hD:D=ops.toList.filterMap (·.dst)) {i m fuel:Nat} {o:Oper} {hd:ZdQ} {e:Env} {a:Act} {w:World} {listed:Array Bool} {rest:ZdQ→Env→Zc→Prop}
    (ho:ops[i]?=some o) (hr:Rel ops m listed) (hag:Agr c.n e a) (hs:Same w0 w) (hkp:Xh D a0 a) (hall:(Zcw hd).all w) (ih:Zs8 c ops D a0 w0 Qx fuel (Zhq m i) rest)
    (hq:∀ {e:Env} {K:EV→Zc→Prop},Agr c.n e a→opP c o.op e w.heap K→Zkm c o a w.heap K) (hm:XT m i o=true) (hf:ZfQ m i 0 ops.toList=true)
    (hk:ZsM c ops o hd e w.heap rest):wpK c.rnd c.P ops (ZcC c D a0 w0 Qx) (nxt ops) (Zcw hd) (fuel+1) listed a w:=by
  have hr':=hr.set (Zfo ho)
  have hput:∀ v,Xh D a0 (a.put o.dst v):=fun v=>hkp.trans (Xh.put fun x hx=>hD▸ZeI ho hx)
  unfold ZsM at hk
  rcases ZdE hag hk with ⟨e1,hag1,hw,hk⟩ | ⟨e1,hag1,hw,hk⟩
  ·obtain ⟨v,hrun,hk⟩:=hq hag1 hk
   obtain ⟨e',hag',hk⟩:=Za0 hag1 hk
   exact Ziy hnd (S:=fun w'=>w'.heap=w.heap) ho hr hm hf (v:=v.v) (.inl ⟨hw,fun w' hw'=>hrun w' hw'⟩) rfl hall (ih _ hd e' _ w hr' hag' hs (hput _) hall hk)
  ·obtain ⟨e',hag',hk⟩:=Za0 hag1 hk
   exact Ziy hnd (S:=fun _=>True) ho hr hm hf (v:=undef) (.inr ⟨hw,rfl⟩) trivial hall (ih _ hd e' _ w hr' hag' hs (hput _) hall hk)
theorem Zkz (hnd:ZcL ops) (hD:D=ops.toList.filterMap (·.dst)) (hsel:Region.noSelect ops=true) {i m fuel:Nat} {o:Oper} {hd:ZdQ} {e:Env} {a:Act} {w:World} {listed:Array Bool} {rest:ZdQ→Env→Zc→Prop} {A:Env→Prop}
    (ho:ops[i]?=some o) (hr:Rel ops m listed) (hag:Agr c.n e a) (hs:Same w0 w) (hkp:Xh D a0 a) (hall:(Zcw hd).all w) (ih:Zs8 c ops D a0 w0 Qx fuel (Zhq m i) rest)
    (hm:XT m i o=true) (hf:Zgm ops o m i 0 ops.toList=true)
    (hA:∀ e1,Agr c.n e1 a→A e1→∃ (v:EV) (S:Zc→Prop),S w.heap∧(∀ w':World,S w'.heap→(execOp a.eval o).run c.P w' = .ok (.value v.v) w')∧ZjM c.n e1 o.dst v fun e'=>rest ((i,S)::hd) e' w.heap)
    (hk:Zg3 ops.toList o e A (fun e=>ZjM c.n e o.dst (.val undef) fun e'=>rest hd e' w.heap)):wpK c.rnd c.P ops (ZcC c D a0 w0 Qx) (nxt ops) (Zcw hd) (fuel+1) listed a w:=by
  have hr':=hr.set (Zfo ho)
  have hput:∀ v,Xh D a0 (a.put o.dst v):=fun v=>hkp.trans (Xh.put fun x hx=>hD▸ZeI ho hx)
  have hQ:∀ c' a' v w',ZcC c D a0 w0 Qx (.panic c') (a'.put o.dst v) w'→ZcC c D a0 w0 Qx (.panic c') a' w':=fun _ _ _ _ h=>ZgL h
  rcases ZdE hag hk with ⟨e1,hag1,hw,hk⟩ | ⟨e1,hag1,hw,hk⟩
  ·obtain ⟨v,S,hS,hrun,hk⟩:=hA e1 hag1 hk
   obtain ⟨e',hag',hk⟩:=Za0 hag1 hk
   refine ZkA hnd (S:=fun w=>S w.heap) ho hsel hQ hr hm hf (v:=v.v) (.inl ⟨hw,fun w' hw'=>hrun w' hw'⟩) hS hall ?_
   refine ih _ ((i,S)::hd) e' _ w hr' hag' hs (hput _) ?_ hk
   intro q hq
   rcases List.mem_cons.1 hq with rfl | hq
   ·exact hS
   ·exact hall q hq
  ·obtain ⟨e',hag',hk⟩:=Za0 hag1 hk
   exact Zix hnd ho hsel hQ hr hm (.inl hf) (v:=undef) (.inr ⟨hw,rfl⟩) hall (ih _ hd e' _ w hr' hag' hs (hput _) hall hk)
theorem ZeH (hnd:ZcL ops) (hc:c.OK) (hD:D=ops.toList.filterMap (·.dst)) (hsel:Region.noSelect ops=true) {K:Env→Zc→Prop} (hKQ:∀ e' h',K e' h'→Qx .normal e' h') :
    ∀ (l:OrdT) (fuel m:Nat),l.depth≤fuel→Zs8 c ops D a0 w0 Qx fuel m (Zjk c ops K l m)
  | .done,fuel,m,hf=>by
    intro listed hd e a w hr hag hs hkp hall hk
    unfold Zjk at hk
    obtain ⟨h0,hk⟩:=ZaK hk
    exact Zoa (Zlj hr h0) ⟨e,hag,hs,hkp,hKQ _ _ hk⟩ fuel
  | .fork i r j s,0,m,hf=>by simp [OrdT.depth] at hf
  | .take i r,0,m,hf=>by simp [OrdT.depth] at hf
  | .fork i r j s,fuel+1,m,hf=>by
    have hf1:r.depth≤fuel:=by
      have h1:Nat.max r.depth s.depth+1≤fuel+1:=hf
      have h2:r.depth≤Nat.max r.depth s.depth:=Nat.le_max_left _ _
      omega
    have hf2:s.depth≤fuel:=by
      have h1:Nat.max r.depth s.depth+1≤fuel+1:=hf
      have h2:s.depth≤Nat.max r.depth s.depth:=Nat.le_max_right _ _
      omega
    have ih1:=ZeH hnd hc hD hsel hKQ r fuel (Zhq m i) hf1
    have ih2:=ZeH hnd hc hD hsel hKQ s fuel (Zhq m j) hf2
    intro listed hd e a w hr hag hs hkp hall hk
    unfold Zjk at hk
    split at hk
    ·rename_i o p ho hp
     obtain ⟨hb,hk1,hk2⟩:=ZaK hk
     simp only [Bool.and_eq_true] at hb
     exact ZpT (Zoi hr hb.2.2) (hr.ready.2 ⟨o,ho,hb.1⟩) (Zkf hnd hc hD ho hr hag hs hkp hall ih1 hk1) (Zkf hnd hc hD hp hr hag hs hkp hall ih2 hk2)
    ·exact hk.elim
  | .take i r,fuel+1,m,hf=>by
    have hf1:r.depth≤fuel:=Nat.le_of_succ_le_succ hf
    have ih:=ZeH hnd hc hD hsel hKQ r fuel (Zhq m i) hf1
    intro listed hd e a w hr hag hs hkp hall hk
    unfold Zjk at hk
    split at hk
    ·exact hk.elim
    ·rename_i o ho
     have eff:XT m i o=true→ZfQ m i 0 ops.toList=true→Zqq c ops o hd e w.heap (Zjk c ops K r (Zhq m i))→wpK c.rnd c.P ops (ZcC c D a0 w0 Qx) (nxt ops) (Zcw hd) (fuel+1) listed a w :=
       fun h1 h2 hk=>Zkw (Zm3 hr h2) (hr.ready.2 ⟨o,ho,h1⟩) (Zkf hnd hc hD ho hr hag hs hkp hall ih hk)
     have hr':=hr.set (Zfo ho)
     have hput:∀ v,Xh D a0 (a.put o.dst v):=fun v=>hkp.trans (Xh.put fun x hx=>hD▸ZeI ho hx)
     have hQ:∀ c' a' v w',ZcC c D a0 w0 Qx (.panic c') (a'.put o.dst v) w'→ZcC c D a0 w0 Qx (.panic c') a' w':=fun _ _ _ _ h=>ZgL h
     split at hk
     ·rename_i hkd
      obtain ⟨hb,hk⟩:=ZaK hk
      simp only [Bool.and_eq_true,Bool.or_eq_true] at hb
      unfold ZsM at hk
      rcases ZdE hag hk with ⟨e1,hag1,hw,hk⟩ | ⟨e1,hag1,hw,hk⟩
      ·obtain ⟨v,hrun,hk⟩:=Zoh hag1 hkd hk
       obtain ⟨e',hag',hk⟩:=Za0 hag1 hk
       exact Zix hnd ho hsel hQ hr hb.1 hb.2 (v:=v.v) (.inl ⟨hw,fun w _=>hrun w trivial⟩) hall (ih _ hd e' _ w hr' hag' hs (hput _) hall hk)
      ·obtain ⟨e',hag',hk⟩:=Za0 hag1 hk
       exact Zix hnd ho hsel hQ hr hb.1 hb.2 (v:=undef) (.inr ⟨hw,rfl⟩) hall (ih _ hd e' _ w hr' hag' hs (hput _) hall hk)
     ·rename_i t x hkd
      have hop:=Zng hkd
      cases hf1:(XT m i o&&Zgm ops o m i 0 ops.toList) with
      | true =>
        rw [hf1] at hk
        simp only [Bool.and_eq_true] at hf1
        simp only [cond_true] at hk
        refine Zkz hnd hD hsel ho hr hag hs hkp hall ih hf1.1 hf1.2 (fun e1 hag1 hk=>?_) hk
        split at hk
        ·rename_i y hy
         obtain ⟨b,p,hp,hk⟩:=ZeL hk
         obtain ⟨v,cells,hcells,hrun,hk⟩:=Zor hk
         refine ⟨v,fun h'=>Zm h' cells,ZfY.2 hcells,fun w' hw'=>?_,hk⟩
         obtain ⟨dst,op,type,pos,after,guard⟩:=o
         simp only at hop
         subst hop
         refine ZmU (s:=Instr.loadAt t (a.eval x)) ?_
         rw [hag1.ev hy,hp]
         exact ZhH (hrun w' (ZfY.1 hw'))
        ·exact hk.elim
      | false =>
        rw [hf1] at hk
        simp only [cond_false] at hk
        obtain ⟨hb,hk⟩:=ZaK hk
        simp only [Bool.and_eq_true] at hb
        refine Zql hnd hD ho hr hag hs hkp hall ih (fun {e K} h1 h2=>?_) hb.1 hb.2 hk
        obtain ⟨dst,op,type,pos,after,guard⟩:=o
        simp only at hop
        subst hop
        exact Ziv h1 h2
     ·rename_i x hkd
      obtain ⟨s,d,el,hop,hus,hud,hue⟩:=ZmN hkd
      cases hf1:(XT m i o&&Zgm ops o m i 0 ops.toList) with
      | true =>
        rw [hf1] at hk
        simp only [Bool.and_eq_true] at hf1
        simp only [cond_true] at hk
        refine Zkz hnd hD hsel ho hr hag hs hkp hall ih hf1.1 hf1.2 (fun e1 hag1 hk=>?_) hk
        split at hk
        ·rename_i p l n hy
         obtain ⟨str,hrun,hk⟩:=ZjY (P:=c.P) (w:=w) (x:=⟨p,l,n⟩) (K:=fun s=>b2s ⟨p,l,n⟩ w.heap (fun s'=>s'=s)∧ZjM c.n e1 o.dst (.val (.string s)) fun e'=>Zjk c ops K r (Zhq m i) ((i,fun h'=>b2s ⟨p,l,n⟩ h' fun s'=>s'=s)::hd) e' w.heap) (by
           rcases hk with ⟨h0,hk⟩ | ⟨b,o2,s,h1,h2,h3,hk⟩
           ·exact .inl ⟨h0,.inl ⟨h0,rfl⟩,hk⟩
           ·exact .inr ⟨b,o2,s,h1,h2,h3,.inr ⟨b,o2,s,h1,h2,h3,rfl⟩,hk⟩)
         refine ⟨.val (.string str),fun h'=>b2s ⟨p,l,n⟩ h' fun s'=>s'=str,hk.1,fun w' hw'=>?_,hk.2⟩
         obtain ⟨s2,hrun2,rfl⟩:=ZjY (P:=c.P) (w:=w') hw'
         obtain ⟨dst,op,type,pos,after,guard⟩:=o
         simp only at hop
         subst hop
         refine ZmU (s:=convert s d (a.eval x)) ?_
         rw [hag1.ev hy]
         exact (Zd8 hus hud hue).trans hrun2
        ·exact hk.elim
      | false =>
        rw [hf1] at hk
        simp only [cond_false] at hk
        obtain ⟨hb,hk⟩:=ZaK hk
        simp only [Bool.and_eq_true] at hb
        exact eff hb.1 hb.2 hk
     ·obtain ⟨hb,hk⟩:=ZaK hk
      simp only [Bool.and_eq_true] at hb
      exact eff hb.1 hb.2 hk
end
theorem Zh0 {e:Env}:∀ {slots:List Nat} {es:List EV} {vs:List EV} {j:Nat} {v:EV},Zle e slots=some es→es.map EV.v=vs.map EV.v→ZaN slots vs j=some v→∃ u,e j=some u∧u.v=v.v
  | [],es,vs,j,v,_,_,h=>by simp [ZaN] at h
  | s::ss,es,vs,j,v,hr,hm,h=>by
    simp only [Zle] at hr
    split at hr
    ·rename_i u us hu hus
     simp only [Option.some.injEq] at hr
     subst hr
     cases vs with
     | nil=>simp [ZaN] at h
     | cons v' vs =>
       simp only [List.map_cons,List.cons.injEq] at hm
       simp only [ZaN] at h
       cases hb:Nat.beq j s with
       | true =>
         have:=Nat.eq_of_beq_eq_true hb
         subst this
         rw [hb] at h
         simp only [cond_true,Option.some.injEq] at h
         subst h
         exact ⟨u,hu,hm.1⟩
       | false =>
         rw [hb] at h
         exact Zh0 hus hm.2 h
    ·cases hr
theorem ZiP {c:Cfg} {slots:List Nat} {tys:List VT} {kill:List (Nat × Nat)} {e e':Env} {a a':Act} {D:List Nat} {t:Y4 tys} (hag:Agr c.n e a) (hag':Agr c.n e' a') (hkeep:Xh D a a')
    (hin:D.all (fun j=>bif Nat.beq j mkN then false else ZlR slots j||Zjr kill j)=true) (hr:ZjZ slots tys e'=some t) (hall:∀ j,ZlR slots j=true→∃ v,ZaN slots (Y4.evs tys t) j=some v) :
    Agr c.n (Znu slots (Y4.evs tys t) kill e) a':=by
  have hmk:mkN∉D:=fun h=>by
    have:=List.all_eq_true.1 hin mkN h
    rw [show Nat.beq mkN mkN=true from Nat.beq_refl mkN] at this
    cases this
  refine ⟨hag'.size,(hkeep.2 hmk).trans hag.defers,fun j v hj=>?_⟩
  unfold Znu at hj
  dsimp only at hj
  unfold ZjZ at hr
  split at hr
  ·rename_i es hes
   have hm:=Zdz hr
   cases hl:ZaN slots (Y4.evs tys t) j with
   | some u =>
     rw [hl] at hj
     simp only [Option.some.injEq] at hj
     subst hj
     obtain ⟨x,hx,hv⟩:=Zh0 hes hm.symm hl
     rw [← hv]
     exact hag'.val j x hx
   | none =>
     rw [hl] at hj
     simp only at hj
     cases hk:Zjr kill j with
     | true=>rw [hk] at hj;cases hj
     | false =>
       rw [hk] at hj
       simp only [cond_false] at hj
       have hnot:j∉D:=by
         intro hD
         have:=List.all_eq_true.1 hin j hD
         cases hb9:Nat.beq j mkN with
         | true=>rw [hb9] at this;cases this
         | false =>
         rw [hb9,hk,cond_false,Bool.or_false] at this
         obtain ⟨v',hv'⟩:=hall j this
         rw [hl] at hv'
         cases hv'
       rw [hkeep.1 j hnot]
       exact hag.val j v hj
  ·cases hr
theorem Zjp {e:Env}:∀ {slots:List Nat} {es vs:List EV} {j:Nat},Zle e slots=some es→es.map EV.v=vs.map EV.v→ZlR slots j=true→∃ v,ZaN slots vs j=some v
  | [],es,vs,j,_,_,h=>by simp [ZlR] at h
  | s::ss,es,vs,j,hr,hm,h=>by
    simp only [Zle] at hr
    split at hr
    ·rename_i u us hu hus
     simp only [Option.some.injEq] at hr
     subst hr
     cases vs with
     | nil=>simp at hm
     | cons v' vs =>
       simp only [List.map_cons,List.cons.injEq] at hm
       simp only [ZaN]
       simp only [ZlR] at h
       cases hb:Nat.beq j s with
       | true=>exact ⟨v',rfl⟩
       | false =>
         rw [hb] at h
         exact Zjp hus hm.2 h
    ·cases hr
theorem Zjh {slots:List Nat} {tys:List VT} {e:Env} {t:Y4 tys} (hr:ZjZ slots tys e=some t):∀ j,ZlR slots j=true→∃ v,ZaN slots (Y4.evs tys t) j=some v:=by
  intro j hj
  unfold ZjZ at hr
  split at hr
  ·rename_i es hes
   exact Zjp hes (Zdz hr).symm hj
  ·cases hr
theorem Zh2 {slots:List Nat} {tys:List VT} {e:Env} {J:Y4 tys→Zc→Prop} {h:Zc} (hk:Zni slots tys e J h):∃ t,ZjZ slots tys e=some t∧J t h:=by
  unfold Zni at hk
  split at hk
  ·rename_i t ht
   exact ⟨t,ht,hk⟩
  ·exact hk.elim
theorem ZhF {n:Nat}:∀ {ps:List Tmp} {vs:List EV} {e e1:Env} {a:Act},Agr n e a→ZhG n e ps vs=some e1 →
    Agr n e1 { a with tmps:=(ps.zip (vs.map EV.v)).foldl (fun t x=>t.setIfInBounds x.1 x.2) a.tmps }
  | [],[],e,e1,a,hag,h=>by
    simp only [ZhG,Option.some.injEq] at h
    subst h
    exact hag
  | p::ps,v::vs,e,e1,a,hag,h=>by
    simp only [ZhG] at h
    cases hb:Nat.blt p n with
    | false=>rw [hb] at h;cases h
    | true =>
      rw [hb] at h
      exact ZhF (a:=a.put (some p) v.v) (hag.set hb v) h
  | [],_::_,e,e1,a,hag,h=>by cases h
  | _::_,[],e,e1,a,hag,h=>by cases h
theorem ZmW (ps:Array Tmp) (vs:List Value) (tmps:Array Value):(ps.zip vs.toArray).foldl (fun t x=>t.setIfInBounds x.1 x.2) tmps=(ps.toList.zip vs).foldl (fun t x=>t.setIfInBounds x.1 x.2) tmps:=by
  rw [← Array.foldl_toList,Array.toList_zip]
theorem Zaz:∀ (code:Code) (c:Cfg) (_:c.OK) (_:c.P.follows .mixedOrders=true) (ann:Ann) (e:Env) (a:Act) (w:World) (Q:Ex→Env→Zc→Prop),
    Agr c.n e a→wpC c code ann e w.heap Q→code.wpIn (fen c.rnd) 0 c.P (ZcC c (Zcd code) a w Q) a w
  | .skip,c,hc,hmixed,ann,e,a,w,Q,hag,hk=>wpIn_skip ⟨e,hag,Same.refl w,Xh.refl _ a,hk⟩
  | .region id ops draw,c,hc,hmixed,ann,e,a,w,Q,hag,hk=>by
    unfold wpC at hk
    cases draw with
    | false =>
      refine wpIn_region ?_
      rw [List.range_eq_range']
      have:=ZgF hc (ops:=ops) (Q:=ZcC c (Zcd (.region id ops false)) a w Q) ops.toList 0 (by simp) hag hk (fun e' a' w' h1 h2 h3 h4=>⟨e',h1,h2,h3,h4⟩) (fun v a' w' h2 h3 h4=>⟨v,rfl,h2,h3.2,h4⟩)
      simpa using this
    | true =>
      simp only at hk
      split at hk
      ·rename_i l
       obtain ⟨hb,hk⟩:=ZaK hk
       simp only [Bool.and_eq_true] at hb
       refine wpIn_region_any hmixed (ZmD (nx:=nxt ops) _ (Zcw []) _ _ _ ?_)
       exact ZeH (Zlk hb.2.2) hc (D:=Zcd (.region id ops true)) rfl hb.1 (fun _ _ h=>h) l ops.size 0 (Nat.le_of_ble_eq_true hb.2.1) _ [] e a { w with drawn:=w.drawn+1 } (Rel.zero ops) hag ⟨rfl,rfl,rfl⟩ (Xh.refl _ a) (fun q hq=>(by cases hq)) hk
      ·obtain ⟨hb,hk⟩:=ZaK hk
       simp only [Bool.and_eq_true] at hb
       have hr0:c.rnd=none:=Option.isNone_iff_eq_none.1 hb.1
       rw [hr0]
       refine wpIn_region_quiet (C:=Cls w w.heap) rfl hmixed hb.2 ⟨⟨rfl,rfl,rfl⟩,rfl⟩ ?_
       refine ZiF hc ops.toList 0 (by simp) hag hk fun e' a' h1 h3 h4 w' hw=>⟨e',h1,hw.1,h3,?_⟩
       rw [hw.2]
       exact h4
  | .seq x y,c,hc,hmixed,ann,e,a,w,Q,hag,hk=>by
    have plain:∀ u v:Ann,wpC c x u e w.heap (ZoD (fun e' h'=>wpC c y v e' h' Q) Q)→(Code.seq x y).wpIn (fen c.rnd) 0 c.P (ZcC c (Zcd (.seq x y)) a w Q) a w:=by
      intro u v hk
      refine wpIn_seq (wpIn_mono (Zaz x c hc hmixed u e a w _ hag hk) ?_)
      intro ex a' w' hp
      cases ex<;>first
        | exact hp.elim
        | skip
      ·obtain ⟨e',h1,h2,h3,h4⟩:=hp
       refine wpIn_mono (Zaz y c hc hmixed v e' a' w' _ h1 h4) ?_
       exact ZcC.mono h2 (h3.mono fun j hj=>List.mem_append.2 (.inl hj)) (fun j hj=>List.mem_append.2 (.inr hj)) (fun _ _ _ h=>h)
      ·obtain ⟨e',h1,h2,h3,h4⟩:=hp
       exact ⟨e',h1,h2,h3.mono fun j hj=>List.mem_append.2 (.inl hj),h4⟩
      ·obtain ⟨e',h1,h2,h3,h4⟩:=hp
       exact ⟨e',h1,h2,h3.mono fun j hj=>List.mem_append.2 (.inl hj),h4⟩
      ·obtain ⟨v,h1,h2,h3,h4⟩:=hp
       exact ⟨v,h1,h2,fun hj=>h3 fun hj'=>hj (List.mem_append.2 (.inl hj')),h4⟩
    unfold wpC at hk
    split at hk
    ·rename_i slots tys kill u v
     cases hin:ZkN slots kill x with
     | false=>rw [hin] at hk;exact hk.elim
     | true =>
       rw [hin] at hk
       obtain ⟨J,hJ,hk⟩:=hk
       refine wpIn_seq (wpIn_mono (Zaz x c hc hmixed u e a w _ hag hk) ?_)
       intro ex a' w' hp
       cases ex<;>first
         | exact hp.elim
         | skip
       ·obtain ⟨e',h1,h2,h3,h4⟩:=hp
        obtain ⟨t,ht,hj⟩:=Zh2 h4
        have hag2:=ZiP hag h1 h3 hin ht (Zjh ht)
        refine wpIn_mono (Zaz y c hc hmixed v _ a' w' _ hag2 (hJ t w'.heap hj)) ?_
        exact ZcC.mono h2 (h3.mono fun j hj=>List.mem_append.2 (.inl hj)) (fun j hj=>List.mem_append.2 (.inr hj)) (fun _ _ _ h=>h)
       ·obtain ⟨e',h1,h2,h3,h4⟩:=hp
        exact ⟨e',h1,h2,h3.mono fun j hj=>List.mem_append.2 (.inl hj),h4⟩
       ·obtain ⟨e',h1,h2,h3,h4⟩:=hp
        exact ⟨e',h1,h2,h3.mono fun j hj=>List.mem_append.2 (.inl hj),h4⟩
       ·obtain ⟨v,h1,h2,h3,h4⟩:=hp
        exact ⟨v,h1,h2,fun hj=>h3 fun hj'=>hj (List.mem_append.2 (.inl hj')),h4⟩
    ·exact plain _ _ hk
  | .cond x p q,c,hc,hmixed,ann,e,a,w,Q,hag,hk=>by
    have yes:∀ u,wpC c p u e w.heap Q→p.wpIn (fen c.rnd) 0 c.P (ZcC c (Zcd (.cond x p q)) a w Q) a w:=fun u hk =>
      wpIn_mono (Zaz p c hc hmixed u e a w Q hag hk) (ZcC.mono (Same.refl w) (Xh.refl _ a) (fun j hj=>List.mem_append.2 (.inl hj)) (fun _ _ _ h=>h))
    have no:∀ u,wpC c q u e w.heap Q→q.wpIn (fen c.rnd) 0 c.P (ZcC c (Zcd (.cond x p q)) a w Q) a w:=fun u hk =>
      wpIn_mono (Zaz q c hc hmixed u e a w Q hag hk) (ZcC.mono (Same.refl w) (Xh.refl _ a) (fun j hj=>List.mem_append.2 (.inr hj)) (fun _ _ _ h=>h))
    unfold wpC at hk
    split at hk
    ·rename_i hx;exact wpIn_cond_true (hag.ev hx) (yes _ hk)
    ·rename_i hx;exact wpIn_cond_false (hag.ev hx) (no _ hk)
    ·rename_i b hx
     exact wpIn_cond_split (hag.ev hx) (fun hb=>yes _ (hk.1 hb)) (fun hb=>no _ (hk.2 hb))
    ·exact hk.elim
  | .block id x,c,hc,hmixed,ann,e,a,w,Q,hag,hk=>by
    unfold wpC at hk
    refine wpIn_block (wpIn_mono (Zaz x c hc hmixed _ e a w _ hag hk) ?_)
    intro ex a' w' hp
    cases ex<;>first
      | exact hp.elim
      | skip
    ·exact hp
    ·rename_i id'
     obtain ⟨e',h1,h2,h3,h4⟩:=hp
     simp only [Exit.inBlock]
     simp only [Zpc] at h4
     cases hb:Nat.beq id' id with
     | true =>
       rw [hb] at h4
       rw [if_pos (Nat.eq_of_beq_eq_true hb)]
       exact ⟨e',h1,h2,h3,h4⟩
     | false =>
       rw [hb] at h4
       rw [if_neg (Nat.ne_of_beq_eq_false hb)]
       exact ⟨e',h1,h2,h3,h4⟩
    ·exact hp
    ·exact hp
  | .loop x,c,hc,hmixed,ann,e,a,w,Q,hag,hk=>by
    unfold wpC at hk
    split at hk
    ·rename_i slots tys kill u
     cases hin:ZkN slots kill x with
     | false=>rw [hin] at hk;exact hk.elim
     | true =>
       rw [hin] at hk
       simp only [cond_true] at hk
       split at hk
       ·rename_i t0 ht0
        obtain ⟨I,μ,h0,hr⟩:=hk
        have hall:=Zjh ht0
        have hall':∀ (t:Y4 tys) j,ZlR slots j=true→∃ v,ZaN slots (Y4.evs tys t) j=some v:=by
          intro t j hj
          obtain ⟨v,hv⟩:=hall j hj
          have len:∀ (ts:List VT) (s s':Y4 ts),(Y4.evs ts s).length=(Y4.evs ts s').length:=by
            intro ts
            induction ts with
            | nil=>intro s s';rfl
            | cons x xs ih=>intro s s';simp only [Y4.evs,List.length_cons];exact congrArg _ (ih _ _)
          have go:∀ (ss:List Nat) (us vs:List EV),us.length=vs.length→(∃ v,ZaN ss us j=some v)→∃ v,ZaN ss vs j=some v:=by
            intro ss
            induction ss with
            | nil=>intro us vs _ h;simp [ZaN] at h
            | cons s ss ih =>
              intro us vs hlen h
              cases us with
              | nil=>simp [ZaN] at h
              | cons u us =>
                cases vs with
                | nil=>simp at hlen
                | cons v' vs =>
                  simp only [ZaN] at h ⊢
                  cases hb:Nat.beq j s with
                  | true=>exact ⟨v',rfl⟩
                  | false =>
                    rw [hb] at h
                    exact ih us vs (by simpa using hlen) h
          exact go slots _ _ (len tys t0 t) ⟨v,hv⟩
        refine wpIn_loop_ghost (fun n a' w'=>Same w w'∧Xh (Zcd x) a a'∧∃ t,Agr c.n (Znu slots (Y4.evs tys t) kill e) a'∧I t w'.heap∧n=μ t w'.heap)
          (μ t0 w.heap) ⟨Same.refl w,Xh.refl _ a,t0,ZiP hag hag (Xh.refl _ a) hin ht0 hall,h0,rfl⟩ ?_
        rintro n a' w' ⟨hs,hkeep,t,hagt,hI,rfl⟩
        refine wpIn_mono (Zaz x c hc hmixed u _ a' w' _ hagt (hr t w'.heap hI)) ?_
        intro ex a2 w2 hp
        cases ex<;>first
          | exact hp.elim
          | skip
        ·obtain ⟨e2,h1,h2,h3,h4⟩:=hp
         have h5:Zni slots tys e2 (fun s' h'=>I s' h'∧μ s' h'<μ t w'.heap) w2.heap:=h4
         obtain ⟨t2,ht2,hI2,hμ⟩:=Zh2 h5
         exact ⟨_,hμ,hs.trans h2,hkeep.trans h3,t2,ZiP hag h1 (hkeep.trans h3) hin ht2 (hall' t2),hI2,rfl⟩
        ·obtain ⟨e2,h1,h2,h3,h4⟩:=hp
         exact ⟨e2,h1,hs.trans h2,hkeep.trans h3,h4⟩
        ·obtain ⟨e2,h1,h2,h3,h4⟩:=hp
         exact ⟨e2,h1,hs.trans h2,hkeep.trans h3,h4⟩
        ·obtain ⟨v,h1,h2,h3,h4⟩:=hp
         exact ⟨v,h1,hs.trans h2,fun hj=>(h3 hj).trans (hkeep.2 hj),h4⟩
       ·exact hk.elim
    ·exact hk.elim
  | .exit id,c,hc,hmixed,ann,e,a,w,Q,hag,hk=>wpIn_exit ⟨e,hag,Same.refl w,Xh.refl _ a,hk⟩
  | .ret,c,hc,hmixed,ann,e,a,w,Q,hag,hk=>wpIn_ret ⟨e,hag,Same.refl w,Xh.refl _ a,hk⟩
  | .rangeFunc g ps assign body,c,hc,hmixed,ann,e,a,w,Q,hag,hk=>by
    unfold wpC at hk
    split at hk
    ·rename_i tys x y
     cases hb:(c.rnd.isNone&&e.mD.isNone) with
     | false=>rw [hb] at hk;exact hk.elim
     | true =>
       rw [hb] at hk
       simp only [cond_true] at hk
       simp only [Bool.and_eq_true] at hb
       have hr0:c.rnd=none:=Option.isNone_iff_eq_none.1 hb.1
       have hm0:e.mD=none:=Option.isNone_iff_eq_none.1 hb.2
       have hd0:a.defers=[]:=by rw [hag.defers,hm0];rfl
       split at hk
       ·rename_i f cs hg
        split at hk
        ·rename_i s t hp
         obtain ⟨hmem,ht⟩:=ZgN hp
         dsimp only at hmem ht
         have hit:=hc.iters _ hmem
         dsimp only at hit
         have hg':a.eval g=Value.func (.func f) #[] ⟨cs⟩:=hag.ev hg
         rw [hr0]
         refine wpIn_rangeFunc ?_
         intro fn hfn
         obtain ⟨r,hr⟩:∃ r:Loop,r={ state:= .ready,pending:=none,fn,tmps:=a.tmps,params:=ps,assign,body,defers:=w.heap.size }:=⟨_,rfl⟩
         have hsem:=hk r
         clear hk
         obtain ⟨W1,hW1⟩:∃ W1,(w.alloc (.deferred (some []))).alloc (Zaf r .ready none)=W1:=⟨_,rfl⟩
         have hh1:W1.heap=(w.heap.push (.deferred (some []))).push (Zaf r .ready none):=by rw [← hW1];rfl
         have hs1:Same w W1:=by rw [← hW1];exact ⟨rfl,rfl,rfl⟩
         rw [← hh1] at hsem
         have hY:YOK c.P (ZhD r (w.heap.size+1) ps.size (fun vs h' k=>ZnF (fun a:Y4 tys=>(Y4.evs tys a).map EV.v) vs fun a=>match ZhG c.n ⟨e.f,none⟩ ps.toList (Y4.evs tys a) with
           | some e1=>wpC { c with rnd:=some (w.heap.size+1),pan:=fun _ _=>False } assign x e1 h' (Zo5 fun e2 h2 =>
               Zkh r (w.heap.size+1) h2 fun h3=>wpC { c with rnd:=some (w.heap.size+1),pan:=fun _ _=>False } body y e2 h3 (Zo4 k))
           | none=>False)):=by
           intro l vs k W hy
           obtain ⟨rfl,hlen,hrec,hargs⟩:=hy
           obtain ⟨ta,rfl,hargs⟩:=hargs
           split at hargs
           ·rename_i e1 he1
            have hrl:W.heap[w.heap.size+1]?=some (.loop { r with state:= .ready,pending:=none }):=hrec
            have hy:=run_yield (P:=c.P) (args:=((Y4.evs tys ta).map EV.v).toArray) hrl (by rw [hr];simpa using hlen)
            refine ⟨fn,(ps.zip ((Y4.evs tys ta).map EV.v).toArray).foldl (fun t x=>t.setIfInBounds x.1 x.2) a.tmps,assign,body,by rw [hr] at hy;exact hy,?_⟩
            have hag1:Agr c.n e1 { tmps:=(ps.toList.zip ((Y4.evs tys ta).map EV.v)).foldl (fun t x=>t.setIfInBounds x.1 x.2) a.tmps,defers:=[]} :=
              ZhF (e:=⟨e.f,none⟩) (a:={ a with defers:=[]}) ⟨hag.size,rfl,hag.val⟩ he1
            have hc1:=hc.at (some (w.heap.size+1)) (fun _ _=>False)
            rw [← ZmW] at hag1
            refine roundIn_of_wpIn hfn ?_
            refine wpIn_mono (Zaz assign _ hc1 hmixed x e1 _ W _ hag1 hargs) ?_
            intro ex a1 w1 hp1
            cases ex with
            | normal =>
              obtain ⟨e2,hag2,hs2,hk2,hrec2,hb2⟩:=hp1
              have hrl2:w1.heap[w.heap.size+1]?=some (.loop { r with state:= .ready,pending:=none }):=hrec2
              refine ⟨_,run_beginRound hrl2 rfl,?_⟩
              refine wpIn_mono (Zaz body _ hc1 hmixed y e2 a1 (w1.putObj (w.heap.size+1) (.loop { r with state:= .busy,pending:=none })) _ hag2 hb2) ?_
              have hs3:Same W (w1.putObj (w.heap.size+1) (.loop { r with state:= .busy,pending:=none })):=hs2.trans ⟨rfl,rfl,rfl⟩
              have fin:∀ (p:Option Code) (W3:World),Same (w1.putObj (w.heap.size+1) (.loop { r with state:= .busy,pending:=none })) W3 →
                  Zlq W3.heap (w.heap.size+1) r .busy none (k p.isNone (ZfC W3.heap (w.heap.size+1) (Zaf r (if p.isNone then .ready else .done) p))) →
                  ∃ v w',(Instr.endRound (w.heap.size+1) p).run c.P W3 = .ok v w'∧∃ b,Ending.returned v = .returned (.bool b)∧Same W w'∧k b w'.heap:=by
                intro p W3 hs4 hk4
                have hrl3:W3.heap[w.heap.size+1]?=some (.loop { r with state:= .busy,pending:=none }):=hk4.1
                exact ⟨_,_,run_endRound p hrl3,p.isNone,rfl,(hs3.trans hs4).trans ⟨rfl,rfl,rfl⟩,hk4.2⟩
              intro ex3 a3 w3 hp3
              cases ex3 with
              | normal=>obtain ⟨e3,_,hs4,_,hk4⟩:=hp3;exact fin none w3 hs4 hk4
              | ret=>obtain ⟨e3,_,hs4,_,hk4⟩:=hp3;exact fin (some .ret) w3 hs4 hk4
              | exit id=>obtain ⟨e3,_,hs4,_,hk4⟩:=hp3;exact fin (some (.exit id)) w3 hs4 hk4
              | goto t=>exact hp3.elim
              | panic ch=>obtain ⟨_,_,_,_,hk4⟩:=hp3;exact hk4.elim
              | outgrown=>exact hp3.elim
            | ret=>obtain ⟨_,_,_,_,hk4⟩:=hp1;exact hk4.elim
            | exit id=>obtain ⟨_,_,_,_,hk4⟩:=hp1;exact hk4.elim
            | goto t=>exact hp1.elim
            | panic ch=>obtain ⟨_,_,_,_,hk4⟩:=hp1;exact hk4.elim
            | outgrown=>exact hp1.elim
           ·exact hargs.elim
         have hok:=hit _ hY
         obtain ⟨⟨fd,hf,hname,hbody⟩,hcall⟩:=hok
         have hargs:(#[Value.func (.yield (w.heap.size+1)) #[] #[]]:Array Value)++(⟨cs⟩:Array Value)=((Y4.evs (.yl::s.caps) (w.heap.size+1,t)).map EV.v).toArray:=by
           have h5:=Zdz ht
           have h6:(cs.map EV.val).map EV.v=cs:=by simp [Function.comp_def,EV.v]
           rw [h6] at h5
           simp only [Y4.evs,List.map_cons,h5]
           simp [VT.ev,EV.v]
         refine ⟨w.heap.size+1,[{ target:= .collected w.heap.size,args:= #[]}],W1,{ target:= .fn (.func f) ⟨cs⟩,args:= #[.func (.yield (w.heap.size+1)) #[] #[]]},W1,f,
           #[.func (.yield (w.heap.size+1)) #[] #[]]++(⟨cs⟩:Array Value),W1,?_,?_,?_,?_,fun h=>(by cases h),ZdO.2 ?_⟩
         ·rw [← hW1,hr]
          exact run_enterLoop_outer fn a.tmps ps assign body
         ·simp only [resolve,hg']
          simp [Deferred.ofValue,Act.eval]
         ·intro f' hf';exact trivial
         ·simp only [invoke,callFunc,Sem.run_bind,run_program,Result.andThen_ok,hf,hname,Bool.false_eq_true,if_false,hbody,Sem.run_pure]
         ·rw [hargs]
          refine (hcall (w.heap.size+1,t) (fun _ h'=>∃ st p,st≠ .busy∧Zlq h' (w.heap.size+1) r st p (Zka p (Q .normal ⟨e.f,some w.heap.size⟩ (ZfC h' (w.heap.size+1) (Zaf r .exhausted p)))
            (fun id=>Q (.exit id) ⟨e.f,some w.heap.size⟩ (ZfC h' (w.heap.size+1) (Zaf r .exhausted p))) (Q .ret ⟨e.f,some w.heap.size⟩ (ZfC h' (w.heap.size+1) (Zaf r .exhausted p))))) (fun _ _=>False) W1 hsem).mono ?_
          rintro ending w2 (⟨rr,rfl,hs2,st,p,hst,hrec,hj⟩ | ⟨v,rfl,hs2,hk⟩)
          ·have hrl:w2.heap[w.heap.size+1]?=some (.loop { r with state:=st,pending:=p }):=hrec
           have hend:=run_endLoop (P:=c.P) hrl (by exact hst)
           have hs3:Same w (w2.putObj (w.heap.size+1) (Zaf r .exhausted p)):=(hs1.trans hs2).trans ⟨rfl,rfl,rfl⟩
           have hag3:Agr c.n ⟨e.f,some w.heap.size⟩ { a with defers:=[{ target:= .collected w.heap.size,args:= #[]}]++a.defers }:=⟨hag.size,by rw [hd0];rfl,hag.val⟩
           have hk3:Xh (Zcd (.rangeFunc g ps assign body)) a { a with defers:=[{ target:= .collected w.heap.size,args:= #[]}]++a.defers }:=⟨fun _ _=>rfl,fun h=>absurd (List.mem_singleton.2 rfl) h⟩
           refine ⟨p,_,hend,?_⟩
           cases p with
           | none=>exact ⟨_,hag3,hs3,hk3,hj⟩
           | some cj =>
             cases cj with
             | exit id=>exact wpIn_exit ⟨_,hag3,hs3,hk3,hj⟩
             | ret=>exact wpIn_ret ⟨_,hag3,hs3,hk3,hj⟩
             | _=>exact hj.elim
          ·exact hk.elim
        ·exact hk.elim
       ·exact hk.elim
    ·exact hk.elim
  | .scope _,c,hc,hmixed,ann,e,a,w,Q,hag,hk=>hk.elim
  | .label _,c,hc,hmixed,ann,e,a,w,Q,hag,hk=>hk.elim
  | .goto _,c,hc,hmixed,ann,e,a,w,Q,hag,hk=>hk.elim
  | .refuse _,c,hc,hmixed,ann,e,a,w,Q,hag,hk=>hk.elim
theorem Zii:∀ (args:List EV) (i:Nat) (j:Nat) (v:EV),Zhf.go args i j=some v→∃ k,j=i+k∧args[k]?=some v
  | [],i,j,v,h=>by simp [Zhf.go] at h
  | x::xs,i,j,v,h=>by
    simp only [Zhf.go] at h
    cases hb:Nat.beq j i with
    | true =>
      rw [hb] at h
      simp only [cond_true,Option.some.injEq] at h
      exact ⟨0,Nat.eq_of_beq_eq_true hb,by simp [h]⟩
    | false =>
      rw [hb] at h
      obtain ⟨k,hk,hv⟩:=Zii xs (i+1) j v h
      exact ⟨k+1,by omega,by simpa using hv⟩
theorem ZgI {c:Cfg} {e:Env} {a:Act} {w:World} (hag:Agr c.n e a) {f:ResultVar→Sem Value} (h1:∀ t,f (.tmp t)=pure (a.tmps.getD t undef))
    (h2:∀ x t,f (.cell x t)=(do loadVar t (← asAddr (a.tmps.getD x undef)))):∀ {rs:List ResultVar} {K:List EV→Prop},ZnU c e w.heap rs K →
    ∃ vs,(rs.mapM f).run c.P w = .ok (vs.map EV.v) w∧K vs
  | [],K,hk=>⟨[],rfl,hk⟩
  | .tmp t::r,K,hk=>by
    simp only [ZnU] at hk
    split at hk
    ·rename_i v hv
     obtain ⟨vs,hr,hk⟩:=ZgI hag h1 h2 hk
     refine ⟨v::vs,?_,hk⟩
     have:=hag.val t v hv
     rw [List.mapM_cons]
     simp only [h1,Sem.run_bind,Sem.run_pure,Result.andThen_ok,hr,List.map_cons]
     simp [this]
    ·exact hk.elim
  | .cell x t::r,K,hk=>by
    simp only [ZnU] at hk
    split at hk
    ·rename_i b o hv
     obtain ⟨v,hl,hk⟩:=ZkG hk
     obtain ⟨vs,hr,hk⟩:=ZgI hag h1 h2 hk
     refine ⟨v::vs,?_,hk⟩
     have:=hag.val x _ hv
     have hx:(asAddr (a.tmps.getD x undef)).run c.P w = .ok ⟨b,o,none⟩ w:=by
       have:a.tmps.getD x undef = .pointer (some ⟨b,o,none⟩):=by simp [this,EV.v]
       rw [this];rfl
     rw [List.mapM_cons]
     simp only [h2,Sem.run_bind,Sem.run_pure,hx,Result.andThen_ok,hl w rfl,hr,List.map_cons]
    ·exact hk.elim
def Zwz (l:List Value):Value:=match l with
  | [v]=>v
  | l=> .tuple l.toArray
theorem ZmK:∀ (vs:List EV),(ZcI vs).v=Zwz (vs.map EV.v)
  | []=>rfl
  | [_]=>rfl
  | _::_::_=>rfl
theorem ZmM (l:List Value):(if h:l.toArray.size=1 then l.toArray[0] else Value.tuple l.toArray)=Zwz l:=by
  match l with
  | []=>rfl
  | [x]=>rfl
  | x::y::r =>
    have:¬ (x::y::r).toArray.size=1:=by simp
    rw [dif_neg this]
    rfl
theorem ZpY {res:List VT} {vs:List EV} {r:Y4 res} (h:Y4.un res vs=some r):Zsp res r=Zwz (vs.map EV.v):=by
  unfold Zsp
  rw [ZmK,Zdz h]
theorem Zlr {c:Cfg} (hc:c.OK) (hmixed:c.P.follows .mixedOrders=true) {f:FuncId} {fn:Func} {ann:Ann} {args:List EV} {res:List VT} {K:Y4 res→Zc→Prop} {Kp:Value→Zc→Prop} {w:World}
    (hf:c.P.funcs[f]?=some fn) (hn:c.n=fn.ntmps) (hlen:args.length≤fn.ntmps) (hk:ZqG c fn ann args res K Kp w.heap) :
    Calls c.P f (args.map EV.v).toArray w (ZeM res w K Kp):=by
  unfold ZqG at hk
  split at hk
  ·rename_i code hb
   refine ZdO (r:=none) (n:=0).1 (callsIn_of_wp_marks hf hb trivial ?_)
   have hag:Agr c.n (Zhf args) { tmps:=(args.map EV.v).toArray++Array.replicate (fn.ntmps - (args.map EV.v).toArray.size) undef,defers:=[]}:=by
     refine ⟨by simp [hn];omega,rfl,fun j v hj=>?_⟩
     obtain ⟨k,hk,hv⟩:=Zii args 0 j v hj
     have hlt:k<args.length:=by
       rcases Nat.lt_or_ge k args.length with h | h
       ·exact h
       ·rw [List.getElem?_eq_none h] at hv;cases hv
     simp only [Nat.zero_add] at hk
     subst hk
     simp [hlt,Array.getElem?_append]
     have h5:=List.getElem?_eq_getElem hlt
     rw [hv] at h5
     exact congrArg EV.v (Option.some.inj h5.symm)
   refine wpIn_mono (Zaz code _ (hc.at none (bif Zqk code then fun _ _=>False else Kp)) hmixed ann _ _ w _ hag hk) ?_
   have res_:∀ (a':Act) (w1:World) (e':Env),Agr c.n e' a'→Same w w1→(ZnU c e' w1.heap fn.results.toList fun vs=>match Y4.un res vs with
       | some r=>K r w1.heap
       | none=>False)→∃ v,(results fn a'.tmps).run c.P w1 = .ok v w1∧ZeM res w K Kp (.returned v) w1:=by
     intro a' w1 e' h1 h2 h4
     obtain ⟨vs,hr,hk⟩:=ZgI (f:=fun
       | .tmp t=>pure (a'.tmps.getD t undef)
       | .cell x t=>do loadVar t (← asAddr (a'.tmps.getD x undef))) h1 (fun _=>rfl) (fun _ _=>rfl) h4
     split at hk
     ·rename_i r hun
      refine ⟨Zsp res r,?_,.inl ⟨r,rfl,h2,hk⟩⟩
      unfold results
      rw [Array.mapM_eq_mapM_toList]
      simp only [Sem.run_bind,Sem.run_map]
      have hr':=hr
      refine (congrArg (fun r=>(Result.andThen (Result.andThen r _) _)) hr').trans ?_
      simp only [Result.andThen_ok,Sem.run_pure]
      rw [ZpY hun]
      exact congrArg (fun v=>Result.ok v w1) (ZmM _)
     ·exact hk.elim
   have fin:∀ (a':Act) (w':World) (e':Env),Agr c.n e' a'→Same w w'→(match e'.mD with
       | none=>ZnU c e' w'.heap fn.results.toList fun vs=>match Y4.un res vs with
         | some r=>K r w'.heap
         | none=>False
       | some D=>Zd4 D w'.heap fun h'=>ZnU c e' h' fn.results.toList fun vs=>match Y4.un res vs with
         | some r=>K r h'
         | none=>False)→LeavesInM (fen none) 0 c.P fn a'.tmps (ZeM res w K Kp) a'.defers .returning w':=by
     intro a' w' e' h1 h2 h4
     rw [h1.defers]
     cases hm:e'.mD with
     | none =>
       rw [hm] at h4
       exact res_ a' w' e' h1 h2 h4
     | some D =>
       rw [hm] at h4
       obtain ⟨hD,h4⟩:=h4
       refine ⟨by simp,.inl ⟨D,_,rfl,run_takeDeferred hD,?_⟩⟩
       exact res_ a' (w'.putObj D (.deferred none)) e' h1 (h2.trans ⟨rfl,rfl,rfl⟩) h4
   intro ex a' w' hp
   cases ex with
   | normal=>obtain ⟨e',h1,h2,h3,h4⟩:=hp;exact fin a' w' e' h1 h2 h4
   | ret=>obtain ⟨e',h1,h2,h3,h4⟩:=hp;exact fin a' w' e' h1 h2 h4
   | exit id=>obtain ⟨e',h1,h2,h3,h4⟩:=hp;exact h4.elim
   | goto t=>exact hp.elim
   | outgrown=>exact hp.elim
   | panic ch =>
     obtain ⟨v,rfl,h2,h3,h4⟩:=hp
     cases hrf:Zqk code with
     | true=>rw [hrf] at h4;exact h4.elim
     | false =>
       rw [hrf] at h4
       have hmk:mkN∉Zcd code:=by
         have key:∀ (l:List Nat),ZlR l mkN=false→mkN∉l:=by
           intro l
           induction l with
           | nil=>intro _ h;cases h
           | cons x xs ih =>
             intro h hm
             simp only [ZlR] at h
             cases hb:Nat.beq mkN x with
             | true=>rw [hb] at h;cases h
             | false =>
               rw [hb] at h
               rcases List.mem_cons.1 hm with he | hm
               ·rw [← he,Nat.beq_refl] at hb;cases hb
               ·exact ih h hm
         exact key _ hrf
       rw [show bodyPostM (fen none) 0 c.P fn (ZeM res w K Kp) (.panic [{ v,recovered:=false }]) a' w'=LeavesInM (fen none) 0 c.P fn a'.tmps (ZeM res w K Kp) a'.defers (.panicking [{ v,recovered:=false }]) w' from rfl,h3 hmk]
       exact .inr ⟨v,rfl,h2,h4⟩
  ·exact hk.elim
inductive AllOK (P:Program):List (FuncId × Zd)→Prop
  | nil:AllOK P []
  | cons {f:FuncId} {s:Zd} {l:List (FuncId × Zd)} (h:Zk P f s) (r:AllOK P l):AllOK P ((f,s)::l)
theorem Zij {P:Program}:∀ {l:List (FuncId × Zd)},AllOK P l→∀ x,x∈l→Zk P x.1 x.2
  | [],_,x,h=>by cases h
  | _::_,.cons h0 hr,x,h=>by
    cases h with
    | head=>exact h0
    | tail _ h=>exact Zij hr x h
inductive AllExt (P:Program):List FuncId→Prop
  | nil:AllExt P []
  | cons {f:FuncId} {l:List FuncId} (h:ZnR P f) (r:AllExt P l):AllExt P (f::l)
theorem Zik {P:Program}:∀ {l:List FuncId},AllExt P l→∀ f,f∈l→ZnR P f
  | [],_,x,h=>by cases h
  | _::_,.cons h0 hr,x,h=>by
    cases h with
    | head=>exact h0
    | tail _ h=>exact Zik hr x h
inductive AllDyn (P:Program):List (String × TypeId × FuncId)→Prop
  | nil:AllDyn P []
  | cons {n:String} {t:TypeId} {f:FuncId} {l:List (String × TypeId × FuncId)} (h:ZkY P n t f) (r:AllDyn P l):AllDyn P ((n,t,f)::l)
theorem Zil {P:Program}:∀ {l:List (String × TypeId × FuncId)},AllDyn P l→∀ x,x∈l→ZkY P x.1 x.2.1 x.2.2
  | [],_,x,h=>by cases h
  | _::_,.cons h0 hr,x,h=>by
    cases h with
    | head=>exact h0
    | tail _ h=>exact Zil hr x h
inductive AllIter (P:Program):List (FuncId × Zay)→Prop
  | nil:AllIter P []
  | cons {f:FuncId} {s:Zay} {l:List (FuncId × Zay)} (h:ZjJ P f s) (r:AllIter P l):AllIter P ((f,s)::l)
theorem Zhh {P:Program}:∀ {l:List (FuncId × Zay)},AllIter P l→∀ x,x∈l→ZjJ P x.1 x.2
  | [],_,x,h=>by cases h
  | _::_,.cons h0 hr,x,h=>by
    cases h with
    | head=>exact h0
    | tail _ h=>exact Zhh hr x h
theorem Zn (c:Cfg) (h:AllOK c.P c.calls) (h':AllExt c.P c.ext) (h'':AllDyn c.P c.dyn) (h3:AllIter c.P c.iters) (h4:YOK c.P c.yld):c.OK:=⟨Zij h,Zik h',Zil h'',Zhh h3,h4⟩
theorem Znv {P:Program} {f:FuncId} {fn:Func} (hf:P.funcs[f]?=some fn) (hname:(fn.name == "runtime.NumGoroutine")=false) (hb:fn.body.isNone=true) (hn:Extern.findNext fn=none)
    (he:Extern.find fn=some Extern.MapsClone.clone):ZnR P f:=by
  intro t b es cl w hw
  refine ⟨{ w with heap:=w.heap.push (.map es cl)},?_,⟨rfl,rfl,rfl⟩,rfl⟩
  rw [run_callFunc_extern hf hname hb hn he]
  have e:Extern.MapsClone.clone #[.iface t (.map (some b))]=(getObj b >>=fun o=>match o with
      | .map entries clock=>(newObj (.map entries clock) >>=fun n=>pure (.iface t (.map (some n))))
      | _=>stuck "maps.clone: a map expected"):=rfl
  rw [e]
  simp only [Sem.run_bind,MapKept.run_getObj_map hw,Result.andThen_ok]
  rfl
theorem Zp6 {c:Cfg} {f:FuncId} {fn:Func} {ann:Ann} {s:Zd} (hf:c.P.funcs[f]?=some fn) (hname:(fn.name == "runtime.NumGoroutine")=false) (hbody:fn.body.isNone=false)
    (hn:c.n=fn.ntmps) (hlen:s.args.length≤fn.ntmps) (hc:c.OK) (hmixed:c.P.follows .mixedOrders=true)
    (hr:∀ (t:Y4 s.args) (K:Y4 s.res→Zc→Prop) (Kp:Value→Zc→Prop) (h:Zc),ZqG c fn ann (Y4.evs s.args t) s.res K Kp h=s.sem t K Kp h):Zk c.P f s where
  named:=⟨fn,hf,hname,hbody⟩
  calls t K Kp w hk:=by
    have hl:(Y4.evs s.args t).length≤fn.ntmps:=by
      have:∀ (vs:List VT) (x:Y4 vs),(Y4.evs vs x).length=vs.length:=by
        intro vs
        induction vs with
        | nil=>intro x;rfl
        | cons v vs ih=>intro x;simp only [Y4.evs,List.length_cons,ih]
      rw [this]
      exact hlen
    exact Zlr hc hmixed hf hn hl (by rw [hr];exact hk)
def Zw (c:Cfg) (fn:Func) (ann:Ann) (s:Zd):Prop:=∀ (t:Y4 s.args) (K:Y4 s.res→Zc→Prop) (Kp:Value→Zc→Prop) (h:Zc),ZqG c fn ann (Y4.evs s.args t) s.res K Kp h=s.sem t K Kp h
theorem okF {c:Cfg} {f:FuncId} {fn:Func} {ann:Ann} {s:Zd} (hr:Zw c fn ann s) (hf:c.P.funcs[f]?=some fn) (hm:c.P.follows .mixedOrders=true) (hc:c.OK)
    (hname:(fn.name == "runtime.NumGoroutine")=false:=by kernel_rfl) (hbody:fn.body.isNone=false:=by kernel_rfl) (hn:c.n=fn.ntmps:=by rfl) (hlen:s.args.length≤fn.ntmps:=by decide):Zk c.P f s :=
  Zp6 hf hname hbody hn hlen hc hm hr
theorem ZcK {P:Program} {f:FuncId} {fn:Func} {s:Zd} (hf:P.funcs[f]?=some fn) (hname:(fn.name == "runtime.NumGoroutine")=false) (hbody:fn.body.isNone=false) (hs:∀ t K Kp h,¬ s.sem t K Kp h):Zk P f s where
  named:=⟨fn,hf,hname,hbody⟩
  calls t K Kp w hk:=(hs _ _ _ _ hk).elim
end Go.Fw
namespace Go.Proofs.YthbfgkphlmlihaaGreat
open Go Go.Fw
open Go.RowKit Go.Maps Go.Sort Go.Shelf
def Tryz.keysA_ren:Go.Shelf.Ren:=⟨fun | 7=>56 | 10=>113 | n=>n,fun | 23=>73 | 26=>3 | 3=>88 | 28=>151 | 0=>0 | 27=>150 | 33=>153 | 4=>4 | n=>n,fun | n=>n⟩
theorem Tryz.keysA:Go.Proofs.SlLaysZI.n7 Tryz.prog Tryz.keysA_ren:={
  mixed:=by kernel_rfl,
  f7:=⟨Tryz.f56.name,by decide,Tryz.func56.trans (congrArg some (by kernel_rfl))⟩,
  f10:=⟨Tryz.f113.name,by decide,Tryz.func113.trans (congrArg some (by kernel_rfl))⟩,
  t0:=Tryz.underlying0,
  a0:=Tryz.isAgg0,
  z0:=Tryz.sizeOf0,
  v0:=Tryz.zeroValue0,
  t4:=Tryz.underlying4,
  a4:=Tryz.isAgg4,
  z4:=Tryz.sizeOf4,
  v4:=Tryz.zeroValue4,
  t23:=Tryz.underlying73,
  a23:=Tryz.isAgg73,
  z23:=Tryz.sizeOf73,
  v23:=Tryz.zeroValue73,
  t26:=Tryz.underlying3,
  a26:=Tryz.isAgg3,
  z26:=Tryz.sizeOf3,
  v26:=Tryz.zeroValue3,
  t27:=Tryz.underlying150,
  a27:=Tryz.isAgg150,
  z27:=Tryz.sizeOf150,
  v27:=Tryz.zeroValue150,
  t28:=Tryz.underlying151,
  a28:=Tryz.isAgg151,
  z28:=Tryz.sizeOf151,
  v28:=Tryz.zeroValue151,
  t33:=Tryz.underlying153,
  a33:=Tryz.isAgg153,
  z33:=Tryz.sizeOf153,
  v33:=Tryz.zeroValue153 }
def Tryz.sortedA_ren:Go.Shelf.Ren:=⟨fun | 6=>55 | 8=>111 | 9=>112 | 11=>178 | 13=>180 | 12=>179 | 23=>235 | 24=>236 | 14=>226 | 15=>227 | 16=>228 | 17=>229 | 18=>230 | 19=>231 | 20=>232 | 21=>233 | 22=>234 | 25=>264 | 26=>265 | 27=>266 | 28=>267 | 29=>268 | 30=>269 | 31=>286 | n=>n,fun | 26=>3 | 28=>151 | 24=>85 | 0=>0 | 3=>3 | 37=>314 | 48=>364 | 50=>27 | 4=>4 | 40=>358 | 39=>357 | 45=>229 | 5=>5 | 9=>9 | 51=>385 | 55=>389 | 57=>398 | 58=>383 | 33=>153 | n=>n,fun | n=>n⟩
theorem Tryz.sortedA:Go.Proofs.SlLaysZI.n6 Tryz.prog Tryz.sortedA_ren:={
  mixed:=by kernel_rfl,
  f6:=⟨Tryz.f55.name,by decide,Tryz.func55.trans (congrArg some (by kernel_rfl))⟩,
  f8:=⟨Tryz.f111.name,by decide,Tryz.func111.trans (congrArg some (by kernel_rfl))⟩,
  f11:=⟨Tryz.f178.name,by decide,Tryz.func178.trans (congrArg some (by kernel_rfl))⟩,
  t0:=Tryz.underlying0,
  a0:=Tryz.isAgg0,
  z0:=Tryz.sizeOf0,
  v0:=Tryz.zeroValue0,
  t24:=Tryz.underlying85,
  a24:=Tryz.isAgg85,
  z24:=Tryz.sizeOf85,
  v24:=Tryz.zeroValue85,
  t26:=Tryz.underlying3,
  a26:=Tryz.isAgg3,
  z26:=Tryz.sizeOf3,
  v26:=Tryz.zeroValue3,
  t28:=Tryz.underlying151,
  a28:=Tryz.isAgg151,
  z28:=Tryz.sizeOf151,
  v28:=Tryz.zeroValue151,
  i26:=by kernel_rfl }
def Tryz.sortA_ren:Go.Shelf.Ren:=⟨fun | 5=>112 | 8=>180 | 7=>179 | 19=>235 | 20=>236 | 10=>226 | 11=>227 | 12=>228 | 13=>229 | 14=>230 | 15=>231 | 16=>232 | 17=>233 | 18=>234 | 30=>264 | 31=>265 | 32=>266 | 33=>267 | 34=>268 | 35=>269 | 40=>286 | n=>n,fun | 23=>85 | 25=>3 | 3=>3 | 32=>314 | 22=>85 | 0=>0 | 44=>364 | 46=>27 | 4=>4 | 36=>358 | 35=>357 | 41=>229 | 5=>5 | 9=>9 | 53=>385 | 57=>389 | 63=>398 | 64=>383 | n=>n,fun | n=>n⟩
theorem Tryz.sortA:Go.Proofs.SlLaysM.n5 Tryz.prog Tryz.sortA_ren:={
  mixed:=by kernel_rfl,
  f5:=⟨Tryz.f112.name,by decide,Tryz.func112.trans (congrArg some (by kernel_rfl))⟩,
  f7:=⟨Tryz.f179.name,by decide,Tryz.func179.trans (congrArg some (by kernel_rfl))⟩,
  f8:=Tryz.func180.trans (congrArg some (by kernel_rfl)),
  f10:=⟨Tryz.f226.name,by decide,Tryz.func226.trans (congrArg some (by kernel_rfl))⟩,
  f11:=⟨Tryz.f227.name,by decide,Tryz.func227.trans (congrArg some (by kernel_rfl))⟩,
  f12:=⟨Tryz.f228.name,by decide,Tryz.func228.trans (congrArg some (by kernel_rfl))⟩,
  f13:=⟨Tryz.f229.name,by decide,Tryz.func229.trans (congrArg some (by kernel_rfl))⟩,
  f14:=⟨Tryz.f230.name,by decide,Tryz.func230.trans (congrArg some (by kernel_rfl))⟩,
  f15:=⟨Tryz.f231.name,by decide,Tryz.func231.trans (congrArg some (by kernel_rfl))⟩,
  f16:=⟨Tryz.f232.name,by decide,Tryz.func232.trans (congrArg some (by kernel_rfl))⟩,
  f17:=⟨Tryz.f233.name,by decide,Tryz.func233.trans (congrArg some (by kernel_rfl))⟩,
  f18:=⟨Tryz.f234.name,by decide,Tryz.func234.trans (congrArg some (by kernel_rfl))⟩,
  f19:=Tryz.func235.trans (congrArg some (by kernel_rfl)),
  f20:=Tryz.func236.trans (congrArg some (by kernel_rfl)),
  f30:=⟨Tryz.f264.name,by decide,Tryz.func264.trans (congrArg some (by kernel_rfl))⟩,
  f31:=Tryz.func265.trans (congrArg some (by kernel_rfl)),
  f32:=Tryz.func266.trans (congrArg some (by kernel_rfl)),
  f33:=⟨Tryz.f267.name,by decide,Tryz.func267.trans (congrArg some (by kernel_rfl))⟩,
  f34:=⟨Tryz.f268.name,by decide,Tryz.func268.trans (congrArg some (by kernel_rfl))⟩,
  f35:=⟨Tryz.f269.name,by decide,Tryz.func269.trans (congrArg some (by kernel_rfl))⟩,
  f40:=⟨Tryz.f286.name,by decide,Tryz.func286.trans (congrArg some (by kernel_rfl))⟩,
  t0:=Tryz.underlying0,
  a0:=Tryz.isAgg0,
  z0:=Tryz.sizeOf0,
  v0:=Tryz.zeroValue0,
  t3:=Tryz.underlying3,
  a3:=Tryz.isAgg3,
  z3:=Tryz.sizeOf3,
  v3:=Tryz.zeroValue3,
  t4:=Tryz.underlying4,
  a4:=Tryz.isAgg4,
  z4:=Tryz.sizeOf4,
  v4:=Tryz.zeroValue4,
  t5:=Tryz.underlying5,
  a5:=Tryz.isAgg5,
  z5:=Tryz.sizeOf5,
  v5:=Tryz.zeroValue5,
  t9:=Tryz.underlying9,
  a9:=Tryz.isAgg9,
  z9:=Tryz.sizeOf9,
  v9:=Tryz.zeroValue9,
  t22:=Tryz.underlying85,
  a22:=Tryz.isAgg85,
  z22:=Tryz.sizeOf85,
  v22:=Tryz.zeroValue85,
  t23:=Tryz.underlying85,
  a23:=Tryz.isAgg85,
  z23:=Tryz.sizeOf85,
  v23:=Tryz.zeroValue85,
  t25:=Tryz.underlying3,
  a25:=Tryz.isAgg3,
  z25:=Tryz.sizeOf3,
  v25:=Tryz.zeroValue3,
  t32:=Tryz.underlying314,
  a32:=Tryz.isAgg314,
  z32:=Tryz.sizeOf314,
  v32:=Tryz.zeroValue314,
  t35:=Tryz.underlying357,
  a35:=Tryz.isAgg357,
  z35:=Tryz.sizeOf357,
  v35:=Tryz.zeroValue357,
  t36:=Tryz.underlying358,
  a36:=Tryz.isAgg358,
  z36:=Tryz.sizeOf358,
  v36:=Tryz.zeroValue358,
  t41:=Tryz.underlying229,
  a41:=Tryz.isAgg229,
  z41:=Tryz.sizeOf229,
  v41:=Tryz.zeroValue229,
  t44:=Tryz.underlying364,
  a44:=Tryz.isAgg364,
  z44:=Tryz.sizeOf364,
  v44:=Tryz.zeroValue364,
  t46:=Tryz.underlying27,
  a46:=Tryz.isAgg27,
  z46:=Tryz.sizeOf27,
  v46:=Tryz.zeroValue27,
  t53:=Tryz.underlying385,
  a53:=Tryz.isAgg385,
  z53:=Tryz.sizeOf385,
  v53:=Tryz.zeroValue385,
  t57:=Tryz.underlying389,
  a57:=Tryz.isAgg389,
  z57:=Tryz.sizeOf389,
  v57:=Tryz.zeroValue389,
  t63:=Tryz.underlying398,
  a63:=Tryz.isAgg398,
  z63:=Tryz.sizeOf398,
  v63:=Tryz.zeroValue398,
  t64:=Tryz.underlying383,
  a64:=Tryz.isAgg383,
  z64:=Tryz.sizeOf383,
  v64:=Tryz.zeroValue383 }
theorem Zsj (m:Nat):AnyZI.SortsIn Tryz.prog Tryz.sortedA_ren Fence.wide m :=
  ⟨fun blk off cap ss W hH hblk hsz=>callsIn_wide.2 (AnyM.slices_Sort_int Tryz.sortA blk off cap ss W hH hblk hsz),
   fun p cap W=>callsIn_wide.2 (AnyM.slices_Sort_int_none Tryz.sortA p cap W)⟩
theorem Zln (m:Option Nat) (w:World):Calls Tryz.prog 56 #[.map m] w fun e w'=>e = .returned (.func (.func 113) #[] #[.pointer (some ⟨w.heap.size,0,none⟩)])∧w'=w.alloc (.cells #[.map m] 73) :=
  (callsIn_wide (n:=5)).1 (AnyZI.keys_in Tryz.keysA Fence.wide 5 trivial rfl m w)
def Zs7 (_:Value):Option (DataW Unit × List MemPlace):=some (.nil,[])
theorem Zoe {w:World} {m:Nat} {l:List Int} (hR:ZkW w.heap m l) (hlen:l.length*8≤140737488355328) :
    ∃ (n:Nat) (D:DataW Unit),w.ownsMap Tryz.prog 3 Zs7 m n D∧Maps.size D=l.length∧(intKeys D).Perm l:=by
  obtain ⟨es,clk,hm,hst,hk,hp,hb⟩:=hR
  have hu:Tryz.prog.underlying 3=some (.int .i64):=Tryz.underlying3
  have hes:es.size=l.length:=by
    have:=congrArg List.length hk
    simpa using this
  have hkey:∀ x∈es.toList,∃ n:Int,x.key = .int .i64 n∧(Lit.int .i64 n).wf=true:=fun x hx=>by
    have:x.key∈l.map (Value.int .i64):=by rw [← hk];exact List.mem_map_of_mem hx
    obtain ⟨n,hn,hn'⟩:=List.mem_map.1 this
    refine ⟨n,hn'.symm,?_⟩
    have:=hb n hn
    simp only [Lit.wf,Bool.and_eq_true,decide_eq_true_eq]
    have h1:IntKind.i64.min = -9223372036854775808:=by decide
    have h2:IntKind.i64.max=9223372036854775807:=by decide
    omega
  have hrg:∀ x∈es.toList,∃ n:Int,x.key = .int .i64 n∧WideElems.rd Tryz.prog 3 Zs7 x=some (.int .i64 n,.nil):=fun x hx=>by
    obtain ⟨n,hn,hw⟩:=hkey x hx
    refine ⟨n,hn,?_⟩
    unfold WideElems.rd
    rw [hn,keyOf_int_mk hu hw]
    rfl
  have F:WideElems.Fit Tryz.prog 3 Zs7 es clk:=⟨by unfold maxLen;omega,hst,fun x hx=>by
    obtain ⟨n,_,h⟩:=hrg x hx
    exact ⟨_,h⟩⟩
  refine ⟨es.size,_,World.ownsMap_of_fit hm F fun _ _ _ h=>h,?_,?_⟩
  ·show (List.foldr DataW.insert [] _).length=_
   rw [(WideShapes.sorted_perm _).length_eq]
   simp [hes]
  ·show (List.map (fun p=>Go.intOf p.1) (List.foldr DataW.insert [] _)).Perm l
   refine ((WideShapes.sorted_perm _).map _).trans ?_
   have:(es.toList.map (WideElems.rg Tryz.prog 3 Zs7)).map (fun p=>Go.intOf p.1)=l:=by
     refine (List.map_inj_right (f:=Value.int .i64) (fun a b h=>by simpa using h)).1 ?_
     rw [← hk,List.map_map,List.map_map]
     refine List.map_congr_left fun x hx=>?_
     obtain ⟨n,hn,h⟩:=hrg x hx
     simp only [Function.comp_apply,WideElems.rg,h,hn]
     rfl
   rw [this]
theorem Zje {w:World} {b m:Nat} {l:List Int} (hc:Zc.cell w.heap b 0=some (.map (some m))) (hR:ZkW w.heap m l) (hlen:l.length*8≤140737488355328) :
    Calls Tryz.prog 55 #[.func (.func 113) #[] #[.pointer (some ⟨b,0,none⟩)]] w fun e w'=>∃ v,e = .returned v∧w'.ownsRow w.heap.size 3 1 v l.length (l.map encZ)∧Below w.heap.size w w':=by
  obtain ⟨n,D,hown,hsz,hperm⟩:=Zoe hR hlen
  have hbl:b<w.heap.size:=by
    rcases Nat.lt_or_ge b w.heap.size with h9 | h9
    ·exact h9
    ·unfold Zc.cell at hc
     rw [Array.getElem?_eq_none h9] at hc
     cases hc
  have hcell:w.cell? ⟨b,0,none⟩=some (.map (some m)):=by rw [ZiT];exact hc
  have hseq:SeqGives Fence.wide 2 Tryz.prog 113 #[.pointer (some ⟨b,0,none⟩)] encZ (fun ss=>ss.Perm (intKeys D)) (Maps.size D) w :=
    AnyZI.keys_gives (ρ:=Tryz.keysA_ren) { Tryz.keysA with } Fence.wide _ trivial rfl (by omega) b m n D w hbl hcell hown
  have cS:=AnyZI.sorted_in Tryz.sortedA Fence.wide 5 trivial trivial trivial trivial rfl (by omega) (Zsj _) (enters_of Tryz.func112 (by kernel_rfl) rfl) 113 #[.pointer (some ⟨b,0,none⟩)] trivial (enters_of Tryz.func113 (by kernel_rfl) rfl) _ _ (by rw [hsz];unfold maxLen;omega) (by rw [hsz];exact hlen) _ hseq
  change CallsIn _ _ Tryz.prog 55 _ _ _ at cS
  refine ((callsIn_wide (n:=5)).1 cS).mono ?_
  rintro e w' ⟨v,ss,rfl,hS,hrow,_,hb⟩
  refine ⟨v,rfl,?_,hb⟩
  have hp:ss.Perm l:=hS.trans hperm
  rw [mergeSort_of_perm_i hp] at hrow
  have hsort:l.mergeSort leI=l:=List.mergeSort_of_pairwise (by
    obtain ⟨_,_,_,_,_,h,_⟩:=hR
    exact h.imp fun hab=>by simp;omega)
  rw [hsort,hp.length_eq] at hrow
  exact hrow
noncomputable def Xz:Zd:=⟨[.one (.M)],[.one (.V)],fun t K _ h=>ZQ t.1 (fun r0 h=>K (r0,()) h) h⟩
theorem Xw:Zk Tryz.prog 56 Xz where
  named:=⟨_,Tryz.func56,by kernel_rfl,by kernel_rfl⟩
  calls t K Kp w hk:=by
    refine (Zln t.1 w).mono ?_
    rintro e w' ⟨rfl,rfl⟩
    exact .inl ⟨(_,()),rfl,⟨rfl,rfl,rfl⟩,hk⟩
noncomputable def ZeN:Zd:=⟨[.one (.V)],[.one (.L)],fun t K _ h=>ZaM t.1 (fun r0 h=>K (r0,()) h) h⟩
theorem Zed:Zk Tryz.prog 55 ZeN where
  named:=⟨_,Tryz.func55,by kernel_rfl,by kernel_rfl⟩
  calls t K Kp w hk:=by
    obtain ⟨x,u⟩:=t
    obtain ⟨b,m,l,hx,hc,hR,hlen,hk⟩:=hk
    dsimp only at hx
    subst hx
    refine (Zje hc hR hlen).mono ?_
    rintro e w' ⟨v,rfl,hrow,hb⟩
    have hx:Ext w.heap w'.heap:=⟨hb.size,hb.block⟩
    have hs:Fw.Same w w':=⟨hb.tape,hb.os,hb.output⟩
    rcases hrow with ⟨h1,⟨rfl,h0⟩ | ⟨g,cap,cur,rfl,hg,hcur,hn,hcap,hsz,htk⟩⟩
    ·refine .inl ⟨(⟨none,0,0⟩,()),rfl,hs,hk _ _ ⟨?_,Nat.le_refl _,by decide,.inl ⟨rfl,rfl⟩⟩ hx⟩
     rw [h1,h0]
    ·refine .inl ⟨(⟨some ⟨g,0,none⟩,l.length,cap⟩,()),rfl,hs,hk _ _ ⟨h1,hn,?_,.inr ⟨g,cur,_,rfl,hg,hcur,hsz,htk.symm⟩⟩ hx⟩
     unfold maxLen at hcap
     show cap<_
     omega
end Go.Proofs.YthbfgkphlmlihaaGreat
