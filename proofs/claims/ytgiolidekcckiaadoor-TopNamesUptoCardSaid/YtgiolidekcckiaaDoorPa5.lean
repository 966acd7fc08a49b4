/- Why a reading is right: regions. -/
import Derived.Sort.LoopGhostIn
import Derived.KernelRfl
import Derived.Laws.Externs
import GoSem.Extern.MapsClone
import Derived.Shelf.Unicode.ValidAny
import Derived.Shelf.Strings.Builder1
import Derived.Shelf.Strings.OnBuilder
import Derived.Shelf.Strings.Trim
import Derived.Shelf.Strings.Cut
import Derived.Shelf.Strings.Repeat
import Derived.Shelf.Small.Strs
import Derived.Shelf.Utf8.RuneCount
import Derived.Shelf.Strconv.Itoa3
import Derived.Shelf.Strconv.AtoiAll
import Derived.Test.YtgiolidekcckiaaDoorProg
import Derived.Shelf.Strings.BuilderK
import Derived.Lib.SmallJoins
import Derived.Tactics2
import Derived.Test.YtgiolidekcckiaaDoorPa4
set_option linter.unusedVariables false
set_option linter.unusedSimpArgs false
namespace Go.Fw
open Go
structure Yt (D:List Nat) (a a':Act):Prop where
  tmps:∀ j,j∉D→a'.tmps[j]?=a.tmps[j]?
  marks:mkN∉D→a'.defers=a.defers
theorem Yt.refl (D:List Nat) (a:Act):Yt D a a:=⟨fun _ _=>rfl,fun _=>rfl⟩
theorem Yt.trans {D:List Nat} {a b d:Act} (h:Yt D a b) (h':Yt D b d):Yt D a d:=⟨fun j hj=>(h'.1 j hj).trans (h.1 j hj),fun hj=>(h'.2 hj).trans (h.2 hj)⟩
theorem Yt.mono {D D':List Nat} {a b:Act} (h:Yt D a b) (hs:∀ j,j∈D→j∈D'):Yt D' a b:=⟨fun j hj=>h.1 j fun hj'=>hj (hs j hj'),fun hj=>h.2 fun hj'=>hj (hs _ hj')⟩
theorem put_defers (a:Act) (d:Option Tmp) (v:Value):(a.put d v).defers=a.defers:=by cases d<;>rfl
theorem Yt.put {D:List Nat} {a:Act} {d:Option Tmp} {v:Value} (h:∀ x,d=some x→x∈D):Yt D a (a.put d v):=by
  refine ⟨?_,fun _=>put_defers a d v⟩
  intro j hj
  cases d with
  | none=>rfl
  | some x =>
    have hne:x≠j:=fun he=>hj (he▸h x rfl)
    simp [Act.put,Array.getElem?_setIfInBounds_ne hne]
theorem ZfK {ops:Array Oper} {a:Act} {j t:Nat} (h:Zbx ops.toList j=some t):yielded ops a.tmps j=match a.tmps[t]? with | some (.bool b)=>some b | _=>none:=by
  unfold Zbx at h
  unfold yielded
  rw [show ops.toList[j]?=ops[j]? from by simp] at h
  rw [h]
  rfl
theorem Zd6 {ops:Array Oper} {a:Act} {j:Nat} (h:Zbx ops.toList j=none):yielded ops a.tmps j=none:=by
  unfold Zbx at h
  unfold yielded
  rw [show ops.toList[j]?=ops[j]? from by simp] at h
  rw [h]
  rfl
inductive Step (c:Cfg) (one:Oper→Env→Zb→(Env→Zb→Prop)→Prop) (ops:Array Oper) (o:Oper) (a:Act) (h:Zb) (K:Env→Zb→Prop):Prop
  | does (e:Env) (ha:Agr c.n e a) (hw:Region.wanted o (yielded ops a.tmps)=true) (hk:one o e h K)
  | skips (e:Env) (ha:Agr c.n e a) (hw:Region.wanted o (yielded ops a.tmps)=false) (hk:ZfW c o e h K)
theorem ZeQ {c:Cfg} {one:Oper→Env→Zb→(Env→Zb→Prop)→Prop} {ops:Array Oper} {o:Oper} {os:List Oper} {e:Env} {a:Act} {h:Zb} {K:Env→Zb→Prop}
    (hag:Agr c.n e a) (hk:Zat c one ops.toList (o::os) e h K):Step c one ops o a h (fun e' h'=>Zat c one ops.toList os e' h' K):=by
  unfold Zat at hk
  split at hk
  ·rename_i hg
   exact .does e hag (by simp [Region.wanted,hg]) hk
  ·rename_i j want hg
   split at hk
   ·rename_i hs
    exact .skips e hag (by simp [Region.wanted,hg,Zd6 hs]) hk
   ·rename_i t hs
    have hy:=ZfK (a:=a) hs
    split at hk
    ·rename_i b ht
     have ht':a.tmps[t]?=some (.bool b):=hag.val t _ ht
     rw [ht'] at hy
     split at hk
     ·exact .does e hag (by simp [Region.wanted,hg,hy]) hk
     ·exact .does e hag (by simp [Region.wanted,hg,hy]) hk
     ·exact .skips e hag (by simp [Region.wanted,hg,hy]) hk
     ·exact .skips e hag (by simp [Region.wanted,hg,hy]) hk
    ·rename_i b ht
     have ht':a.tmps[t]?=some (.bool b):=hag.val t _ ht
     rw [ht'] at hy
     split at hk
     ·cases b with
      | true=>exact .does _ (hag.tell ht) (by simp [Region.wanted,hg,hy]) (hk.1 rfl)
      | false=>exact .skips _ (hag.tell ht) (by simp [Region.wanted,hg,hy]) (hk.2 rfl)
     ·cases b with
      | true=>exact .skips _ (hag.tell ht) (by simp [Region.wanted,hg,hy]) (hk.1 rfl)
      | false=>exact .does _ (hag.tell ht) (by simp [Region.wanted,hg,hy]) (hk.2 rfl)
    ·rename_i v hv1 hv2 ht
     have ht':a.tmps[t]?=some v.v:=hag.val t _ ht
     refine .skips e hag ?_ hk
     have:yielded ops a.tmps j=none:=by
       rw [hy,ht']
       cases v with
       | val u=>cases u<;>first | rfl | exact absurd rfl (hv2 _)
       | lit b=>exact absurd rfl (hv1 b)
       | adr b o=>rfl
       | itr t b=>rfl
       | more k v=>rfl
       | over=>rfl
     simp [Region.wanted,hg,this]
    ·exact hk.elim
theorem Za4 {ops:Array Oper} {k:Nat} {o:Oper} {x:Nat} (ho:ops[k]?=some o) (hx:o.dst=some x):x∈ops.toList.filterMap (·.dst):=by
  refine List.mem_filterMap.2 ⟨o,?_,hx⟩
  exact List.mem_of_getElem? (i:=k) (by simpa using ho)
theorem ZeP {c:Cfg} (hc:c.OK) {ops:Array Oper} {Q:Exit→Act→World→Prop}:∀ (l:List Oper) (k:Nat),(∀ j,l[j]?=ops[k+j]?) →
    ∀ {e:Env} {a:Act} {w:World} {K:Env→Zb→Prop},Agr c.n e a→Zat c (ZpH c) ops.toList l e w.heap K →
    (∀ e' a' w',Agr c.n e' a'→Same w w'→Yt (ops.toList.filterMap (·.dst)) a a'→K e' w'.heap→Q .normal a' w') →
    (∀ v a' w',Same w w'→Yt (ops.toList.filterMap (·.dst)) a a'→c.pan v w'.heap→Q (.panic [{ v,recovered:=false }]) a' w')→wpOpsIn (fen c.rnd) 0 c.P ops Q (List.range' k l.length) a w
  | [],k,hl,e,a,w,K,hag,hk,hQ,_=>hQ e a w hag (Same.refl w) (Yt.refl _ a) hk
  | o::os,k,hl,e,a,w,K,hag,hk,hQ,hP=>by
    have ho:ops[k]?=some o:=by have:=hl 0;simpa using this.symm
    have hl':∀ j,os[j]?=ops[k+1+j]?:=fun j=>by have:=hl (j+1);rw [show k+1+j=k+(j+1) from by omega,← this];rfl
    have hput:∀ v,Yt (ops.toList.filterMap (·.dst)) a (a.put o.dst v):=fun v=>Yt.put fun x hx=>Za4 ho hx
    simp only [List.length_cons,List.range'_succ,wpOpsIn,ho]
    cases ZeQ hag hk with
    | does e hag hw hk =>
      rw [if_pos hw]
      refine ZpG hc hag (fun v w' hs hp=>hP v a w' hs (Yt.refl _ a) hp) hk fun v w' hs hk=>?_
      obtain ⟨e',hag',hk⟩:=XA hag hk
      exact ZeP hc os (k+1) hl' hag' hk (fun e'' a'' w'' h1 h2 h3 h4=>hQ e'' a'' w'' h1 (hs.trans h2) ((hput _).trans h3) h4)
        (fun v a'' w'' h2 h3 h4=>hP v a'' w'' (hs.trans h2) ((hput _).trans h3) h4)
    | skips e hag hw hk =>
      rw [if_neg (by simp [hw])]
      obtain ⟨e',hag',hk⟩:=XA hag hk
      exact ⟨fun _ _=>trivial,ZeP hc os (k+1) hl' hag' hk (fun e'' a'' w'' h1 h2 h3 h4=>hQ e'' a'' w'' h1 h2 ((hput _).trans h3) h4)
        (fun v a'' w'' h2 h3 h4=>hP v a'' w'' h2 ((hput _).trans h3) h4)⟩
def Cls (w0:World) (h:Zb) (w:World):Prop:=Same w0 w∧w.heap=h
theorem Zj5 {c:Cfg} {o:Oper} {a:Act} {w0:World} {h:Zb} {v:EV} (hr:∀ w:World,w.heap=h→(execOp a.eval o).run c.P w = .ok (.value v.v) w) :
    ∀ w,Cls w0 h w→o.quietAtIn (fen none) 0 c.P a (Cls w0 h) w v.v:=by
  intro w hw
  unfold Oper.quietAtIn
  rw [hr w hw.2]
  exact ⟨rfl,rfl⟩
theorem Ys {c:Cfg} {o:Oper} {a:Act} {w0:World} {h:Zb} {K:EV→Zb→Prop} {next:Act→Prop} (hq:Zi0 c o a h K) (hn:∀ v,K v h→next (a.put o.dst v.v)) :
    o.quietIn (fen none) 0 c.P a (Cls w0 h) next :=
  let ⟨v,hr,hk⟩:=hq
  ⟨v.v,Zj5 hr,hn v hk⟩
theorem ZhJ {c:Cfg} (hc:c.OK) {e:Env} {a:Act} {w0:World} {h:Zb} {o:Oper} {K:EV→Zb→Prop} {next:Act→Prop} (hag:Agr c.n e a) (hk:Zje c o.op e h K)
    (hn:∀ v,K v h→next (a.put o.dst v.v)):o.quietIn (fen none) 0 c.P a (Cls w0 h) next:=by
  obtain ⟨dst,op,type,pos,after,guard⟩:=o
  cases op
  case move=>exact Ys (ZgE hag hk).q hn
  case assign=>exact Ys (ZdJ hag hk).q hn
  case pick=>exact Ys (ZgD hag hk).q hn
  case load=>exact Ys (ZgG hag hk) hn
  case nilCheck=>exact Ys (Zcb hag hk).q hn
  case binOp=>exact Ys (ZeF hag hk).q hn
  case unOp=>exact Ys (ZgC hag hk).q hn
  case slice=>exact Ys (ZeA hag hk).q hn
  case fieldAddr=>exact Ys (ZbE hag hk).q hn
  case field=>exact Ys (ZeC hag hk).q hn
  case indexAddr=>exact Ys (ZbD hag hk).q hn
  case index=>exact Ys (ZeB hag hk).q hn
  case extract=>exact Ys (Zc5 hag hk).q hn
  case build=>exact Ys (ZeE hag hk).q hn
  case makeFunc=>exact Ys (Zcc hag hk).q hn
  case convert s d x =>
    simp only [Zje] at hk
    split at hk
    ·rename_i j k hs hd
     exact Ys (Zcd hag hs hd hk).q hn
    ·exact hk.elim
  case call cl =>
    unfold Zje at hk
    split at hk<;>first
      | exact hk.elim
      | (rename_i ho;cases ho)
    ·exact Ys (ZkP hag hk) hn
    ·exact Ys (ZM hag (.inr (.inl rfl)) hk).q hn
    ·exact Ys (ZM hag (.inr (.inr (.inl rfl))) hk).q hn
    ·exact Ys (ZM hag (.inr (.inr (.inr rfl))) hk).q hn
    ·rename_i f args ts
     split at hk
     ·rename_i es he
      split at hk
      ·rename_i s t hp
       obtain ⟨hmem,ht⟩:=Zck hp
       dsimp only at hmem ht
       obtain ⟨r,hm,hk⟩:=hk
       refine ⟨(ZaI (Yp.evs s.res r)).v,fun w hw=>?_,hn _ hk⟩
       have hargs:=Xx hag he
       obtain ⟨⟨fn,hf,hname,hbody⟩,hcall⟩:=hc.calls _ hmem
       have henter:(execOp a.eval ⟨dst,.call ⟨.value (.func f),args,ts⟩,type,pos,after,guard⟩).run c.P w = .ok (.enter f (args.map a.eval)) w:=by
         simp only [execOp,resolve,Act.eval,Deferred.ofValue,Sem.run_bind,Sem.run_pure,Result.andThen_ok,invoke,callFunc,run_program,hf,hname,Bool.false_eq_true,if_false,hbody]
         simp
       unfold Oper.quietAtIn
       rw [henter]
       refine ⟨rfl,fun h=>(by cases h),Zb0.2 ?_⟩
       rw [hargs,← ZbG ht]
       refine (hcall t (fun r' h'=>r'=r∧h'=h) (fun _ _=>False) w (by rw [hw.2];exact hm)).mono ?_
       rintro ending w' (⟨r',rfl,hsame,rfl,hh⟩ | ⟨v,rfl,hsame,hk⟩)
       ·exact ⟨rfl,hw.1.trans hsame,hh⟩
       ·exact hk.elim
      ·exact hk.elim
     ·exact hk.elim
  all_goals exact hk.elim
theorem ZgU {c:Cfg} (hc:c.OK) {ops:Array Oper} {w0:World} {Q:Act→Prop} {h:Zb}:∀ (l:List Oper) (k:Nat),(∀ j,l[j]?=ops[k+j]?) →
    ∀ {e:Env} {a:Act} {K:Env→Zb→Prop},Agr c.n e a→Zat c (Zlf c) ops.toList l e h K →
    (∀ e' a',Agr c.n e' a'→Yt (ops.toList.filterMap (·.dst)) a a'→K e' h→Q a')→wpQuietIn (fen none) 0 c.P ops (Cls w0 h) Q l a
  | [],k,hl,e,a,K,hag,hk,hQ=>hQ e a hag (Yt.refl _ a) hk
  | o::os,k,hl,e,a,K,hag,hk,hQ=>by
    have ho:ops[k]?=some o:=by have:=hl 0;simpa using this.symm
    have hl':∀ j,os[j]?=ops[k+1+j]?:=fun j=>by have:=hl (j+1);rw [show k+1+j=k+(j+1) from by omega,← this];rfl
    have hput:∀ v,Yt (ops.toList.filterMap (·.dst)) a (a.put o.dst v):=fun v=>Yt.put fun x hx=>Za4 ho hx
    unfold wpQuietIn
    refine ⟨fun _ _ _ _=>trivial,?_⟩
    cases ZeQ hag hk with
    | does e hag hw hk =>
      rw [if_pos hw]
      refine ZhJ hc hag hk fun v hk=>?_
      obtain ⟨e',hag',hk⟩:=XA hag hk
      exact ZgU hc os (k+1) hl' hag' hk fun e'' a'' h1 h3 h4=>hQ e'' a'' h1 ((hput _).trans h3) h4
    | skips e hag hw hk =>
      rw [if_neg (by simp [hw])]
      obtain ⟨e',hag',hk⟩:=XA hag hk
      exact ZgU hc os (k+1) hl' hag' hk fun e'' a'' h1 h3 h4=>hQ e'' a'' h1 ((hput _).trans h3) h4
def ZaA (c:Cfg) (D:List Nat) (a:Act) (w:World) (Q:Ex→Env→Zb→Prop):Exit→Act→World→Prop
  | .normal,a',w'=>∃ e',Agr c.n e' a'∧Same w w'∧Yt D a a'∧Q .normal e' w'.heap
  | .exit id,a',w'=>∃ e',Agr c.n e' a'∧Same w w'∧Yt D a a'∧Q (.exit id) e' w'.heap
  | .ret,a',w'=>∃ e',Agr c.n e' a'∧Same w w'∧Yt D a a'∧Q .ret e' w'.heap
  | .panic chain,a',w'=>∃ v,chain=[{ v,recovered:=false }]∧Same w w'∧Yt D a a'∧c.pan v w'.heap
  | _,_,_=>False
theorem ZaA.mono {c:Cfg} {D D':List Nat} {a a1:Act} {w w1:World} {Q Q':Ex→Env→Zb→Prop} (hs:Same w w1) (hk:Yt D' a a1) (hd:∀ j,j∈D→j∈D') (hq:∀ x e h,Q x e h→Q' x e h) :
    ∀ x a' w',ZaA c D a1 w1 Q x a' w'→ZaA c D' a w Q' x a' w':=by
  intro x a' w' h
  cases x<;>first
    | exact h.elim
    | (obtain ⟨e',h1,h2,h3,h4⟩:=h
       exact ⟨e',h1,hs.trans h2,hk.trans (h3.mono hd),hq _ _ _ h4⟩)
    | (obtain ⟨v,h1,h2,h3,h4⟩:=h
       exact ⟨v,h1,hs.trans h2,hk.trans (h3.mono hd),h4⟩)
theorem ZeR {c:Cfg} {D:List Nat} {a:Act} {w:World} {Q:Ex→Env→Zb→Prop} {ch:List PanicEntry} {a':Act} {d:Option Tmp} {v:Value} {w':World} (hd:∀ x,d=some x→x∈D) (h:ZaA c D a w Q (.panic ch) (a'.put d v) w'):ZaA c D a w Q (.panic ch) a' w':=by
  obtain ⟨v',h1,h2,h3,h4⟩:=h
  have hp:Yt D a' (a'.put d v):=Yt.put hd
  exact ⟨v',h1,h2,⟨fun j hj=>(hp.1 j hj).symm.trans (h3.1 j hj),fun hj=>(hp.2 hj).symm.trans (h3.2 hj)⟩,h4⟩
theorem ZbQ {c:Cfg} {ops:Array Oper} {o:Oper} {e:Env} {a:Act} {A B:Env→Prop} (hag:Agr c.n e a) (hk:Zfa ops.toList o e A B) :
    (∃ e',Agr c.n e' a∧Region.wanted o (yielded ops a.tmps)=true∧A e')∨(∃ e',Agr c.n e' a∧Region.wanted o (yielded ops a.tmps)=false∧B e'):=by
  unfold Zfa at hk
  split at hk
  ·rename_i hg
   exact .inl ⟨e,hag,by simp [Region.wanted,hg],hk⟩
  ·rename_i j want hg
   split at hk
   ·rename_i hs
    exact .inr ⟨e,hag,by simp [Region.wanted,hg,Zd6 hs],hk⟩
   ·rename_i t hs
    have hy:=ZfK (a:=a) hs
    split at hk
    ·rename_i b ht
     have ht':a.tmps[t]?=some (.bool b):=hag.val t _ ht
     rw [ht'] at hy
     split at hk
     ·exact .inl ⟨e,hag,by simp [Region.wanted,hg,hy],hk⟩
     ·exact .inl ⟨e,hag,by simp [Region.wanted,hg,hy],hk⟩
     ·exact .inr ⟨e,hag,by simp [Region.wanted,hg,hy],hk⟩
     ·exact .inr ⟨e,hag,by simp [Region.wanted,hg,hy],hk⟩
    ·rename_i b ht
     have ht':a.tmps[t]?=some (.bool b):=hag.val t _ ht
     rw [ht'] at hy
     split at hk
     ·cases b with
      | true=>exact .inl ⟨_,hag.tell ht,by simp [Region.wanted,hg,hy],hk.1 rfl⟩
      | false=>exact .inr ⟨_,hag.tell ht,by simp [Region.wanted,hg,hy],hk.2 rfl⟩
     ·cases b with
      | true=>exact .inr ⟨_,hag.tell ht,by simp [Region.wanted,hg,hy],hk.1 rfl⟩
      | false=>exact .inl ⟨_,hag.tell ht,by simp [Region.wanted,hg,hy],hk.2 rfl⟩
    ·rename_i v hv1 hv2 ht
     have ht':a.tmps[t]?=some v.v:=hag.val t _ ht
     refine .inr ⟨e,hag,?_,hk⟩
     have:yielded ops a.tmps j=none:=by
       rw [hy,ht']
       cases v with
       | val u=>cases u<;>first | rfl | exact absurd rfl (hv2 _)
       | lit b=>exact absurd rfl (hv1 b)
       | adr b o=>rfl
       | itr t b=>rfl
       | more k v=>rfl
       | over=>rfl
     simp [Region.wanted,hg,this]
    ·exact hk.elim
theorem ZmH {c:Cfg} {e:Env} {a:Act} {h:Zb} {o:Oper} {K:EV→Zb→Prop} (hag:Agr c.n e a) (hkd:Zb7 c o.op = .pure) (hk:opP c o.op e h K):Zaa c o a h K:=by
  obtain ⟨dst,op,type,pos,after,guard⟩:=o
  cases op
  case move=>exact ZgE hag hk
  case assign=>exact ZdJ hag hk
  case pick=>exact ZgD hag hk
  case nilCheck=>exact Zcb hag hk
  case binOp=>exact ZeF hag hk
  case unOp=>exact ZgC hag hk
  case slice=>exact ZeA hag hk
  case fieldAddr=>exact ZbE hag hk
  case field=>exact ZeC hag hk
  case indexAddr=>exact ZbD hag hk
  case index=>exact ZeB hag hk
  case extract=>exact Zc5 hag hk
  case build=>exact ZeE hag hk
  case makeFunc=>exact Zcc hag hk
  case convert s d x =>
    simp only [Zb7] at hkd
    split at hkd
    ·rename_i j k hs hd
     exact Zcd hag hs hd hk
    ·split at hkd<;>cases hkd
    ·cases hkd
  case call cl =>
    obtain ⟨cal,args,ts⟩:=cl
    cases cal with
    | builtin b =>
      cases b<;>first
        | (simp only [Zb7] at hkd;done)
        | (cases hm:ZcV c.P ts with
            | true=>simp [Zb7,hm] at hkd
            | false=>exact ZM hag (.inl ⟨rfl,hm⟩) hk)
        | exact ZM hag (.inr (.inl rfl)) hk
        | exact ZM hag (.inr (.inr (.inl rfl))) hk
        | exact ZM hag (.inr (.inr (.inr rfl))) hk
        | (simp [Zb7] at hkd)
    | _=>simp [Zb7] at hkd
  all_goals simp [Zb7] at hkd
theorem Zlx {c:Cfg} {op:Op} {t:TypeId} {x:Operand} (h:Zb7 c op = .load t x):op = .load t x:=by
  cases op<;>simp [Zb7] at h
  case load=>rw [h.1,h.2]
  case convert=>repeat' (first | (cases h;done) | split at h)
  case call cl =>
    obtain ⟨cal,args,ts⟩:=cl
    cases cal with
    | builtin b=>cases b<;>simp at h<;>(cases hm:ZcV c.P ts<;>simp [hm] at h)
    | _=>simp at h
def Zgg (h:Zb) (l:List (Nat × Nat × Value)):Prop:=∀ q,q∈l→h.cell q.1 q.2.1=some q.2.2
theorem Ze9 {h:Zb} {b o:Nat}:∀ {vs:List Value} {i:Nat},Zgg h (Zid b o i vs)↔h.has b (o+i) vs
  | [],i=>⟨fun _=>trivial,fun _ q hq=>(by simp [Zid] at hq)⟩
  | v::vs,i=>by
    have ih:=Ze9 (h:=h) (b:=b) (o:=o) (vs:=vs) (i:=i+1)
    unfold Zgg at ih ⊢
    simp only [Zid,List.forall_mem_cons,ZiW,ih]
    rfl
theorem ZmU {P:Program} {t:TypeId} {b o:Nat} {K:EV→List (Nat × Nat × Value)→Prop} {h:Zb} (hk:ldH P t h b o K) :
    ∃ v cells,Zgg h cells∧(∀ w:World,Zgg w.heap cells→(loadVar t ⟨b,o,none⟩).run P w = .ok v.v w)∧K v cells:=by
  unfold ldH at hk
  cases hu:P.underlying t with
  | none=>rw [hu] at hk;simp [Y7,Ze3] at hk
  | some d =>
    obtain ⟨i,hi⟩:=YI P hu
    rw [hu] at hk
    unfold loadVar
    cases ha:Y7 (some d) with
    | true =>
      rw [ha] at hk
      simp only [cond_true] at hk
      cases hl:Nat.beq (Zaz P 8 t).length (P.cellsOf t) with
      | false=>rw [hl] at hk;exact hk.elim
      | true =>
        rw [hl] at hk
        obtain ⟨vs,hlen,hh,hk⟩:=ZdY hk
        have hs:i.size=vs.length:=by rw [hlen,Nat.eq_of_beq_eq_true hl,Y8 P hi]
        refine ⟨.val (.agg vs.toArray),_,Ze9.2 hh,fun w hw=>?_,hk⟩
        have hw:=Ze9.1 hw
        simp only [Sem.run_bind,Zal P w t hu,ha,Result.andThen_ok,if_true,Ye P w t hi,hs]
        rw [XU P w b o vs (by simpa using hw)]
        rfl
    | false =>
      rw [ha] at hk
      simp only [cond_false] at hk
      obtain ⟨v,hc,hk,_⟩:=Zdb hk
      refine ⟨v,_,?_,fun w hw=>?_,hk⟩
      ·intro q hq
       simp only [List.mem_singleton] at hq
       subst hq
       exact hc
      have hw:Zb.cell w.heap b o=some v.v:=hw _ (.head _)
      simp only [Sem.run_bind,Zal P w t hu,ha,Result.andThen_ok,Bool.false_eq_true,if_false]
      exact ZbI P w hw _
theorem ZkY {c:Cfg} {op:Op} {x:Operand} (h:Zb7 c op = .text x):∃ s d e,op = .convert s d x∧c.P.underlying s=some (.slice e)∧c.P.underlying d=some .string∧c.P.underlying e=some (.int .u8):=by
  cases op<;>simp [Zb7] at h
  case convert s d y =>
    split at h
    ·cases h
    ·rename_i e hs hd
     split at h
     ·rename_i he
      cases h
      exact ⟨s,d,e,rfl,hs,hd,he⟩
     ·cases h
    ·cases h
  case call cl =>
    obtain ⟨cal,args,ts⟩:=cl
    cases cal with
    | builtin b=>cases b<;>simp at h<;>(cases hm:ZcV c.P ts<;>simp [hm] at h)
    | _=>simp at h
theorem ZdZ {h:Zb}:∀ {l:List (Nat × Nat × Value)},Zdd h l↔Zgg h l
  | []=>⟨fun _ q hq=>(by cases hq),fun _=>trivial⟩
  | (b,o,v)::r=>by
    have ih:=ZdZ (h:=h) (l:=r)
    unfold Zgg at ih ⊢
    simp only [Zdd,List.forall_mem_cons,ih]
def Zaw (hd:Zb2):Zd9:=hd.map fun x=>(x.1,fun w=>x.2 w.heap)
theorem Zgh {w:World} {K:Prop}:∀ {hd:Zb2},Zon w.heap hd K→(Zaw hd).all w∧K
  | [],hk=>⟨fun q hq=>(by cases hq),hk⟩
  | x::r,hk=>by
    obtain ⟨h1,hk⟩:=hk
    obtain ⟨h2,hk⟩:=Zgh (hd:=r) hk
    refine ⟨fun q hq=>?_,hk⟩
    rcases List.mem_cons.1 hq with rfl | hq
    ·exact h1
    ·exact h2 q hq
def nxt (ops:Array Oper) (L:Zd9) (j:Nat):Zd9 :=
  match ops[j]? with
  | some o=>L.filter fun p=> !Zb3 p.1 o.after.toList
  | none=>L
theorem Za3 (ops:Array Oper):Next ops (nxt ops) where
  mem L j p hp:=by
    unfold nxt at hp
    split at hp
    ·exact (List.mem_filter.1 hp).1
    ·exact hp
  keep L j p hp hw:=by
    unfold nxt
    split
    ·rename_i o ho
     refine List.mem_filter.2 ⟨hp,?_⟩
     cases hb:Zb3 p.1 o.after.toList with
     | false=>rfl
     | true =>
       obtain ⟨e,he,h1,h2⟩:=ZdH.1 hb
       exact absurd ⟨o,ho,e,by simpa using he,h1,h2⟩ hw
    ·exact hp
  same L L' j p hp hl:=by
    unfold nxt at hp ⊢
    split at hp
    ·rename_i o ho
     exact List.mem_filter.2 ⟨hl,(List.mem_filter.1 hp).2⟩
    ·exact hl
theorem ZmQ {ops:Array Oper} {j:Nat} {o:Oper} (ho:ops[j]?=some o) (hd:Zb2):nxt ops (Zaw hd) j=Zaw (Zkt o hd):=by
  unfold nxt
  rw [ho]
  simp only
  induction hd with
  | nil=>rfl
  | cons x r ih =>
    have e:Zaw (x::r)=(x.1,fun w:World=>x.2 w.heap)::Zaw r:=rfl
    rw [e,List.filter_cons]
    simp only [Zkt]
    cases hb:Zb3 x.1 o.after.toList with
    | true=>simp only [Bool.not_true,Bool.false_eq_true,if_false,cond_true];exact ih
    | false=>simp only [Bool.not_false,if_true,cond_false];rw [ih];rfl
theorem Zkd {ops:Array Oper} {m:Nat} {listed:Array Bool} (hr:Rel ops m listed) (h:Zlu m 0 ops.toList=true):Region.ready .any ops listed=[]:=by
  have key:∀ (os:List Oper) (k:Nat),Zlu m k os=true→∀ j o,os[j]?=some o→YM m (k+j) o=false:=by
    intro os
    induction os with
    | nil=>intro k _ j o ho;simp at ho
    | cons x os ih =>
      intro k h j o ho
      simp only [Zlu] at h
      cases hx:YM m k x with
      | true=>rw [hx] at h;cases h
      | false =>
        rw [hx] at h
        cases j with
        | zero=>simp at ho;subst ho;exact hx
        | succ j =>
          have:=ih (k+1) h j o (by simpa using ho)
          rw [show k+(j+1)=k+1+j from by omega]
          exact this
  apply List.eq_nil_iff_forall_not_mem.2
  intro j hj
  obtain ⟨o,ho,hb⟩:=hr.ready.1 hj
  have:=key _ 0 h j o (by simpa using ho)
  rw [Nat.zero_add,hb] at this
  cases this
section
variable {rn:Option Nat} {P:Program} {ops:Array Oper} {Q:Exit→Act→World→Prop} {i m:Nat} {o:Oper} {listed:Array Bool} {a:Act} {w:World} {L:Zd9} {fuel:Nat} {v:Value} {S:World→Prop}
theorem Zdz (ho:ops[i]?=some o):i<ops.size:=by
  rcases Nat.lt_or_ge i ops.size with h | h
  ·exact h
  ·rw [Array.getElem?_eq_none h] at ho;cases ho
theorem Zll (hr:Rel ops m listed) (h:ZdW m i 0 ops.toList=true):∀ j,j∈Region.ready .any ops listed→j=i:=by
  intro j hj
  obtain ⟨o',ho',hb⟩:=hr.ready.1 hj
  have:=ZdV h j o' (by simpa using ho') (by rw [Nat.zero_add];exact hb)
  rw [Nat.zero_add] at this
  exact this
theorem Zou (hr:Rel ops m listed) (h:Zeh ops o m i 0 ops.toList=true) :
    ∀ j oj,ops[j]?=some oj→j≠i→listed.getD j true=false→(∀ e∈oj.after,Region.binds .any e=true→e.on≠i)→o.apart ops oj=true:=by
  intro j oj hj hne hl hno
  have hlt:=Zdz hj
  refine Zgj h j oj (by simpa using hj) (by rw [Nat.zero_add];exact hne) ?_ hno
  rw [Nat.zero_add,← hr.bit' hlt]
  exact hl
theorem Zi9 (hnd:ZaP ops) (ho:ops[i]?=some o) (hsel:Region.noSelect ops=true) (hQ:∀ c a v w,Q (.panic c) (a.put o.dst v) w→Q (.panic c) a w) (hr:Rel ops m listed) (hm:YM m i o=true) (hf:Zeh ops o m i 0 ops.toList=true)
    (hy:YieldsIf P ops S o v a) (hS:S w) (hall:Zd9.all L w) (h:wpK rn P ops Q (nxt ops) ((i,S)::L) fuel (listed.setIfInBounds i true) (a.put o.dst v) w) :
    wpK rn P ops Q (nxt ops) L (fuel+1) listed a w :=
  ZkJ hnd (Za3 ops) ho (Region.noSelect_spec hsel) (fun c a w h=>hQ c a v w h) fuel L listed a w (Zou hr hf) (hr.ready.2 ⟨o,ho,hm⟩) hy hS hall h
theorem ZgK (hnd:ZaP ops) (ho:ops[i]?=some o) (hr:Rel ops m listed) (hm:YM m i o=true) (hf:ZdW m i 0 ops.toList=true)
    (hy:YieldsIf P ops S o v a) (hS:S w) (hall:Zd9.all L w) (h:wpK rn P ops Q (nxt ops) L fuel (listed.setIfInBounds i true) (a.put o.dst v) w) :
    wpK rn P ops Q (nxt ops) L (fuel+1) listed a w:=by
  refine Zi3 (Zll hr hf) (hr.ready.2 ⟨o,ho,hm⟩) (Za0 hnd ho hy hS ⟨fun p hp=>hall p ((Za3 ops).mem _ _ _ hp),?_⟩)
  exact ZcA (Za3 ops) _ _ _ _ _ _ (fun p hp=> .inl ((Za3 ops).mem _ _ _ hp)) h
theorem ZgJ (hnd:ZaP ops) (ho:ops[i]?=some o) (hsel:Region.noSelect ops=true) (hQ:∀ c a v w,Q (.panic c) (a.put o.dst v) w→Q (.panic c) a w) (hr:Rel ops m listed) (hm:YM m i o=true)
    (hf:Zeh ops o m i 0 ops.toList=true∨ZdW m i 0 ops.toList=true)
    (hy:YieldsIf P ops (fun _=>True) o v a) (hall:Zd9.all L w) (h:wpK rn P ops Q (nxt ops) L fuel (listed.setIfInBounds i true) (a.put o.dst v) w) :
    wpK rn P ops Q (nxt ops) L (fuel+1) listed a w:=by
  rcases hf with hf | hf
  ·refine Zi9 hnd ho hsel hQ hr hm hf hy trivial hall ?_
   refine ZcA (Za3 ops) _ _ _ _ _ _ (fun p hp=>?_) h
   rcases List.mem_cons.1 hp with rfl | hp
   ·exact .inr fun _=>trivial
   ·exact .inl hp
  ·exact ZgK hnd ho hr hm hf hy trivial hall h
end
theorem ZmO {ops:Array Oper} {m i l:Nat} {listed:Array Bool} (hr:Rel ops m listed) (h:Zf9 m i l 0 ops.toList=true):∀ j,j∈Region.ready .any ops listed→j=i∨j=l:=by
  intro j hj
  obtain ⟨o',ho',hb⟩:=hr.ready.1 hj
  have:=Zc8 h j o' (by simpa using ho') (by rw [Nat.zero_add];exact hb)
  rw [Nat.zero_add] at this
  exact this
section
variable {c:Cfg} {ops:Array Oper} {D:List Nat} {a0:Act} {w0:World} {Qx:Ex→Env→Zb→Prop}
def Zd4 (c:Cfg) (ops:Array Oper) (D:List Nat) (a0:Act) (w0:World) (Qx:Ex→Env→Zb→Prop) (fuel m:Nat) (rest:Zb2→Env→Zb→Prop):Prop :=
  ∀ (listed:Array Bool) (hd:Zb2) (e:Env) (a:Act) (w:World),Rel ops m listed→Agr c.n e a→Same w0 w→Yt D a0 a→(Zaw hd).all w →
    rest hd e w.heap→wpK c.rnd c.P ops (ZaA c D a0 w0 Qx) (nxt ops) (Zaw hd) fuel listed a w
theorem ZiQ (hnd:ZaP ops) (hc:c.OK) (hD:D=ops.toList.filterMap (·.dst)) {i m fuel:Nat} {o:Oper} {hd:Zb2} {e:Env} {a:Act} {w:World} {listed:Array Bool} {rest:Zb2→Env→Zb→Prop}
    (ho:ops[i]?=some o) (hr:Rel ops m listed) (hag:Agr c.n e a) (hs:Same w0 w) (hkp:Yt D a0 a) (hall:(Zaw hd).all w) (ih:Zd4 c ops D a0 w0 Qx fuel (Zfy m i) rest) (hk:Zoz c ops o hd e w.heap rest) :
    wpOpIn (fen c.rnd) 0 c.P ops (ZaA c D a0 w0 Qx) i (fun a' w'=>(nxt ops (Zaw hd) i).all w'∧wpK c.rnd c.P ops (ZaA c D a0 w0 Qx) (nxt ops) (nxt ops (Zaw hd) i) fuel (listed.setIfInBounds i true) a' w') a w:=by
  have hr':=hr.set (Zdz ho)
  have hput:∀ v,Yt D a0 (a.put o.dst v):=fun v=>hkp.trans (Yt.put fun x hx=>hD▸Za4 ho hx)
  unfold Zoz at hk
  rcases ZbQ hag hk with ⟨e1,hag1,hw,hk⟩ | ⟨e1,hag1,hw,hk⟩
  ·rw [ZmQ ho]
   unfold Go.wpOpIn
   simp only [ho,hw,if_true]
   refine Zlk hc hag1 (fun v w' hs' hp=>⟨v,rfl,hs.trans hs',hkp,hp⟩) hk fun v w' hs' hk=>?_
   obtain ⟨e',hag',hk⟩:=XA hag1 hk
   obtain ⟨hall',hk⟩:=Zgh hk
   exact ⟨hall',ih _ _ e' _ w' hr' hag' (hs.trans hs') (hput _) hall' hk⟩
  ·obtain ⟨e',hag',hk⟩:=XA hag1 hk
   have hy:YieldsIf c.P ops (fun _=>True) o undef a:= .inr ⟨hw,rfl⟩
   refine Za0 hnd ho hy trivial ⟨fun p hp=>hall p ((Za3 ops).mem _ _ _ hp),?_⟩
   exact ZcA (Za3 ops) _ _ _ _ _ _ (fun p hp=> .inl ((Za3 ops).mem _ _ _ hp)) (ih _ hd e' _ w hr' hag' hs (hput _) hall hk)
theorem Zos (hnd:ZaP ops) (hD:D=ops.toList.filterMap (·.dst)) {i m fuel:Nat} {o:Oper} {hd:Zb2} {e:Env} {a:Act} {w:World} {listed:Array Bool} {rest:Zb2→Env→Zb→Prop}
    (ho:ops[i]?=some o) (hr:Rel ops m listed) (hag:Agr c.n e a) (hs:Same w0 w) (hkp:Yt D a0 a) (hall:(Zaw hd).all w) (ih:Zd4 c ops D a0 w0 Qx fuel (Zfy m i) rest)
    (hq:∀ {e:Env} {K:EV→Zb→Prop},Agr c.n e a→opP c o.op e w.heap K→Zi0 c o a w.heap K) (hm:YM m i o=true) (hf:ZdW m i 0 ops.toList=true)
    (hk:Zp0 c ops o hd e w.heap rest):wpK c.rnd c.P ops (ZaA c D a0 w0 Qx) (nxt ops) (Zaw hd) (fuel+1) listed a w:=by
  have hr':=hr.set (Zdz ho)
  have hput:∀ v,Yt D a0 (a.put o.dst v):=fun v=>hkp.trans (Yt.put fun x hx=>hD▸Za4 ho hx)
  unfold Zp0 at hk
  rcases ZbQ hag hk with ⟨e1,hag1,hw,hk⟩ | ⟨e1,hag1,hw,hk⟩
  ·obtain ⟨v,hrun,hk⟩:=hq hag1 hk
   obtain ⟨e',hag',hk⟩:=XA hag1 hk
   exact ZgK hnd (S:=fun w'=>w'.heap=w.heap) ho hr hm hf (v:=v.v) (.inl ⟨hw,fun w' hw'=>hrun w' hw'⟩) rfl hall (ih _ hd e' _ w hr' hag' hs (hput _) hall hk)
  ·obtain ⟨e',hag',hk⟩:=XA hag1 hk
   exact ZgK hnd (S:=fun _=>True) ho hr hm hf (v:=undef) (.inr ⟨hw,rfl⟩) trivial hall (ih _ hd e' _ w hr' hag' hs (hput _) hall hk)
theorem Zi6 (hnd:ZaP ops) (hD:D=ops.toList.filterMap (·.dst)) (hsel:Region.noSelect ops=true) {i m fuel:Nat} {o:Oper} {hd:Zb2} {e:Env} {a:Act} {w:World} {listed:Array Bool} {rest:Zb2→Env→Zb→Prop} {A:Env→Prop}
    (ho:ops[i]?=some o) (hr:Rel ops m listed) (hag:Agr c.n e a) (hs:Same w0 w) (hkp:Yt D a0 a) (hall:(Zaw hd).all w) (ih:Zd4 c ops D a0 w0 Qx fuel (Zfy m i) rest)
    (hm:YM m i o=true) (hf:Zeh ops o m i 0 ops.toList=true)
    (hA:∀ e1,Agr c.n e1 a→A e1→∃ (v:EV) (S:Zb→Prop),S w.heap∧(∀ w':World,S w'.heap→(execOp a.eval o).run c.P w' = .ok (.value v.v) w')∧Zie c.n e1 o.dst v fun e'=>rest ((i,S)::hd) e' w.heap)
    (hk:Zfa ops.toList o e A (fun e=>Zie c.n e o.dst (.val undef) fun e'=>rest hd e' w.heap)):wpK c.rnd c.P ops (ZaA c D a0 w0 Qx) (nxt ops) (Zaw hd) (fuel+1) listed a w:=by
  have hr':=hr.set (Zdz ho)
  have hput:∀ v,Yt D a0 (a.put o.dst v):=fun v=>hkp.trans (Yt.put fun x hx=>hD▸Za4 ho hx)
  have hQ:∀ c' a' v w',ZaA c D a0 w0 Qx (.panic c') (a'.put o.dst v) w'→ZaA c D a0 w0 Qx (.panic c') a' w':=fun _ _ _ _ h=>ZeR (fun x hx=>by rw [hD];exact Za4 ho hx) h
  rcases ZbQ hag hk with ⟨e1,hag1,hw,hk⟩ | ⟨e1,hag1,hw,hk⟩
  ·obtain ⟨v,S,hS,hrun,hk⟩:=hA e1 hag1 hk
   obtain ⟨e',hag',hk⟩:=XA hag1 hk
   refine Zi9 hnd (S:=fun w=>S w.heap) ho hsel hQ hr hm hf (v:=v.v) (.inl ⟨hw,fun w' hw'=>hrun w' hw'⟩) hS hall ?_
   refine ih _ ((i,S)::hd) e' _ w hr' hag' hs (hput _) ?_ hk
   intro q hq
   rcases List.mem_cons.1 hq with rfl | hq
   ·exact hS
   ·exact hall q hq
  ·obtain ⟨e',hag',hk⟩:=XA hag1 hk
   exact ZgJ hnd ho hsel hQ hr hm (.inl hf) (v:=undef) (.inr ⟨hw,rfl⟩) hall (ih _ hd e' _ w hr' hag' hs (hput _) hall hk)
theorem ZcF (hnd:ZaP ops) (hc:c.OK) (hD:D=ops.toList.filterMap (·.dst)) (hsel:Region.noSelect ops=true) {K:Env→Zb→Prop} (hKQ:∀ e' h',K e' h'→Qx .normal e' h') :
    ∀ (l:OrdT) (fuel m:Nat),l.depth≤fuel→Zd4 c ops D a0 w0 Qx fuel m (ZhM c ops K l m)
  | .done,fuel,m,hf=>by
    intro listed hd e a w hr hag hs hkp hall hk
    unfold ZhM at hk
    obtain ⟨h0,hk⟩:=Xr hk
    exact Zmt (Zkd hr h0) ⟨e,hag,hs,hkp,hKQ _ _ hk⟩ fuel
  | .fork i r j s,0,m,hf=>by simp [OrdT.depth] at hf
  | .take i r,0,m,hf=>by simp [OrdT.depth] at hf
  | .fork i r j s,fuel+1,m,hf=>by
    have hf1:r.depth≤fuel:=by
      have h1:Nat.max r.depth s.depth+1≤fuel+1:=hf
      have h2:r.depth≤Nat.max r.depth s.depth:=Nat.le_max_left _ _
      omega
    have hf2:s.depth≤fuel:=by
      have h1:Nat.max r.depth s.depth+1≤fuel+1:=hf
      have h2:s.depth≤Nat.max r.depth s.depth:=Nat.le_max_right _ _
      omega
    have ih1:=ZcF hnd hc hD hsel hKQ r fuel (Zfy m i) hf1
    have ih2:=ZcF hnd hc hD hsel hKQ s fuel (Zfy m j) hf2
    intro listed hd e a w hr hag hs hkp hall hk
    unfold ZhM at hk
    split at hk
    ·rename_i o p ho hp
     obtain ⟨hb,hk1,hk2⟩:=Xr hk
     simp only [Bool.and_eq_true] at hb
     exact ZnV (ZmO hr hb.2.2) (hr.ready.2 ⟨o,ho,hb.1⟩) (ZiQ hnd hc hD ho hr hag hs hkp hall ih1 hk1) (ZiQ hnd hc hD hp hr hag hs hkp hall ih2 hk2)
    ·exact hk.elim
  | .take i r,fuel+1,m,hf=>by
    have hf1:r.depth≤fuel:=Nat.le_of_succ_le_succ hf
    have ih:=ZcF hnd hc hD hsel hKQ r fuel (Zfy m i) hf1
    intro listed hd e a w hr hag hs hkp hall hk
    unfold ZhM at hk
    split at hk
    ·exact hk.elim
    ·rename_i o ho
     have eff:YM m i o=true→ZdW m i 0 ops.toList=true→Zoz c ops o hd e w.heap (ZhM c ops K r (Zfy m i))→wpK c.rnd c.P ops (ZaA c D a0 w0 Qx) (nxt ops) (Zaw hd) (fuel+1) listed a w :=
       fun h1 h2 hk=>Zi3 (Zll hr h2) (hr.ready.2 ⟨o,ho,h1⟩) (ZiQ hnd hc hD ho hr hag hs hkp hall ih hk)
     have hr':=hr.set (Zdz ho)
     have hput:∀ v,Yt D a0 (a.put o.dst v):=fun v=>hkp.trans (Yt.put fun x hx=>hD▸Za4 ho hx)
     have hQ:∀ c' a' v w',ZaA c D a0 w0 Qx (.panic c') (a'.put o.dst v) w'→ZaA c D a0 w0 Qx (.panic c') a' w':=fun _ _ _ _ h=>ZeR (fun x hx=>by rw [hD];exact Za4 ho hx) h
     split at hk
     ·rename_i hkd
      obtain ⟨hb,hk⟩:=Xr hk
      simp only [Bool.and_eq_true,Bool.or_eq_true] at hb
      unfold Zp0 at hk
      rcases ZbQ hag hk with ⟨e1,hag1,hw,hk⟩ | ⟨e1,hag1,hw,hk⟩
      ·obtain ⟨v,hrun,hk⟩:=ZmH hag1 hkd hk
       obtain ⟨e',hag',hk⟩:=XA hag1 hk
       exact ZgJ hnd ho hsel hQ hr hb.1 hb.2 (v:=v.v) (.inl ⟨hw,fun w _=>hrun w trivial⟩) hall (ih _ hd e' _ w hr' hag' hs (hput _) hall hk)
      ·obtain ⟨e',hag',hk⟩:=XA hag1 hk
       exact ZgJ hnd ho hsel hQ hr hb.1 hb.2 (v:=undef) (.inr ⟨hw,rfl⟩) hall (ih _ hd e' _ w hr' hag' hs (hput _) hall hk)
     ·rename_i t x hkd
      have hop:=Zlx hkd
      cases hf1:(YM m i o&&Zeh ops o m i 0 ops.toList) with
      | true =>
        rw [hf1] at hk
        simp only [Bool.and_eq_true] at hf1
        simp only [cond_true] at hk
        refine Zi6 hnd hD hsel ho hr hag hs hkp hall ih hf1.1 hf1.2 (fun e1 hag1 hk=>?_) hk
        split at hk
        ·rename_i y hy
         obtain ⟨b,p,hp,hk⟩:=ZcM hk
         obtain ⟨v,cells,hcells,hrun,hk⟩:=ZmU hk
         refine ⟨v,fun h'=>Zdd h' cells,ZdZ.2 hcells,fun w' hw'=>?_,hk⟩
         obtain ⟨dst,op,type,pos,after,guard⟩:=o
         simp only at hop
         subst hop
         refine Zk9 (s:=Instr.loadAt t (a.eval x)) ?_
         rw [hag1.ev hy,hp]
         exact Zf0 (hrun w' (ZdZ.1 hw'))
        ·exact hk.elim
      | false =>
        rw [hf1] at hk
        simp only [cond_false] at hk
        obtain ⟨hb,hk⟩:=Xr hk
        simp only [Bool.and_eq_true] at hb
        refine Zos hnd hD ho hr hag hs hkp hall ih (fun {e K} h1 h2=>?_) hb.1 hb.2 hk
        obtain ⟨dst,op,type,pos,after,guard⟩:=o
        simp only at hop
        subst hop
        exact ZgG h1 h2
     ·rename_i x hkd
      obtain ⟨s,d,el,hop,hus,hud,hue⟩:=ZkY hkd
      cases hf1:(YM m i o&&Zeh ops o m i 0 ops.toList) with
      | true =>
        rw [hf1] at hk
        simp only [Bool.and_eq_true] at hf1
        simp only [cond_true] at hk
        refine Zi6 hnd hD hsel ho hr hag hs hkp hall ih hf1.1 hf1.2 (fun e1 hag1 hk=>?_) hk
        split at hk
        ·rename_i p l n hy
         obtain ⟨str,hrun,hk⟩:=Zir (P:=c.P) (w:=w) (x:=⟨p,l,n⟩) (K:=fun s=>b2s ⟨p,l,n⟩ w.heap (fun s'=>s'=s)∧Zie c.n e1 o.dst (.val (.string s)) fun e'=>ZhM c ops K r (Zfy m i) ((i,fun h'=>b2s ⟨p,l,n⟩ h' fun s'=>s'=s)::hd) e' w.heap) (by
           rcases hk with ⟨h0,hk⟩ | ⟨b,o2,s,h1,h2,h3,hk⟩
           ·exact .inl ⟨h0,.inl ⟨h0,rfl⟩,hk⟩
           ·exact .inr ⟨b,o2,s,h1,h2,h3,.inr ⟨b,o2,s,h1,h2,h3,rfl⟩,hk⟩)
         refine ⟨.val (.string str),fun h'=>b2s ⟨p,l,n⟩ h' fun s'=>s'=str,hk.1,fun w' hw'=>?_,hk.2⟩
         obtain ⟨s2,hrun2,rfl⟩:=Zir (P:=c.P) (w:=w') hw'
         obtain ⟨dst,op,type,pos,after,guard⟩:=o
         simp only at hop
         subst hop
         refine Zk9 (s:=convert s d (a.eval x)) ?_
         rw [hag1.ev hy]
         exact (Zci hus hud hue).trans hrun2
        ·exact hk.elim
      | false =>
        rw [hf1] at hk
        simp only [cond_false] at hk
        obtain ⟨hb,hk⟩:=Xr hk
        simp only [Bool.and_eq_true] at hb
        exact eff hb.1 hb.2 hk
     ·obtain ⟨hb,hk⟩:=Xr hk
      simp only [Bool.and_eq_true] at hb
      exact eff hb.1 hb.2 hk
end
theorem Zge {e:Env}:∀ {slots:List Nat} {es:List EV} {vs:List EV} {j:Nat} {v:EV},Zj4 e slots=some es→es.map EV.v=vs.map EV.v→Zco slots vs j=some v→∃ u,e j=some u∧u.v=v.v
  | [],es,vs,j,v,_,_,h=>by simp [Zco] at h
  | s::ss,es,vs,j,v,hr,hm,h=>by
    simp only [Zj4] at hr
    split at hr
    ·rename_i u us hu hus
     simp only [Option.some.injEq] at hr
     subst hr
     cases vs with
     | nil=>simp [Zco] at h
     | cons v' vs =>
       simp only [List.map_cons,List.cons.injEq] at hm
       simp only [Zco] at h
       cases hb:Nat.beq j s with
       | true =>
         have:=Nat.eq_of_beq_eq_true hb
         subst this
         rw [hb] at h
         simp only [cond_true,Option.some.injEq] at h
         subst h
         exact ⟨u,hu,hm.1⟩
       | false =>
         rw [hb] at h
         exact Zge hus hm.2 h
    ·cases hr
theorem Zhb {c:Cfg} {slots:List Nat} {tys:List VT} {kill:List (Nat × Nat)} {e e':Env} {a a':Act} {D:List Nat} {t:Yp tys} (hag:Agr c.n e a) (hag':Agr c.n e' a') (hkeep:Yt D a a')
    (hin:D.all (fun j=>bif Nat.beq j mkN then false else Zft slots j||ZhX kill j)=true) (hr:Zit slots tys e'=some t) (hall:∀ j,Zft slots j=true→∃ v,Zco slots (Yp.evs tys t) j=some v) :
    Agr c.n (ZlR slots (Yp.evs tys t) kill e) a':=by
  have hmk:mkN∉D:=fun h=>by
    have:=List.all_eq_true.1 hin mkN h
    rw [show Nat.beq mkN mkN=true from Nat.beq_refl mkN] at this
    cases this
  refine ⟨hag'.size,(hkeep.2 hmk).trans hag.defers,fun j v hj=>?_⟩
  unfold ZlR at hj
  dsimp only at hj
  unfold Zit at hr
  split at hr
  ·rename_i es hes
   have hm:=ZbG hr
   cases hl:Zco slots (Yp.evs tys t) j with
   | some u =>
     rw [hl] at hj
     simp only [Option.some.injEq] at hj
     subst hj
     obtain ⟨x,hx,hv⟩:=Zge hes hm.symm hl
     rw [← hv]
     exact hag'.val j x hx
   | none =>
     rw [hl] at hj
     simp only at hj
     cases hk:ZhX kill j with
     | true=>rw [hk] at hj;cases hj
     | false =>
       rw [hk] at hj
       simp only [cond_false] at hj
       have hnot:j∉D:=by
         intro hD
         have:=List.all_eq_true.1 hin j hD
         cases hb9:Nat.beq j mkN with
         | true=>rw [hb9] at this;cases this
         | false =>
         rw [hb9,hk,cond_false,Bool.or_false] at this
         obtain ⟨v',hv'⟩:=hall j this
         rw [hl] at hv'
         cases hv'
       rw [hkeep.1 j hnot]
       exact hag.val j v hj
  ·cases hr
theorem ZhW {e:Env}:∀ {slots:List Nat} {es vs:List EV} {j:Nat},Zj4 e slots=some es→es.map EV.v=vs.map EV.v→Zft slots j=true→∃ v,Zco slots vs j=some v
  | [],es,vs,j,_,_,h=>by simp [Zft] at h
  | s::ss,es,vs,j,hr,hm,h=>by
    simp only [Zj4] at hr
    split at hr
    ·rename_i u us hu hus
     simp only [Option.some.injEq] at hr
     subst hr
     cases vs with
     | nil=>simp at hm
     | cons v' vs =>
       simp only [List.map_cons,List.cons.injEq] at hm
       simp only [Zco]
       simp only [Zft] at h
       cases hb:Nat.beq j s with
       | true=>exact ⟨v',rfl⟩
       | false =>
         rw [hb] at h
         exact ZhW hus hm.2 h
    ·cases hr
theorem ZhI {slots:List Nat} {tys:List VT} {e:Env} {t:Yp tys} (hr:Zit slots tys e=some t):∀ j,Zft slots j=true→∃ v,Zco slots (Yp.evs tys t) j=some v:=by
  intro j hj
  unfold Zit at hr
  split at hr
  ·rename_i es hes
   exact ZhW hes (ZbG hr).symm hj
  ·cases hr
theorem Zgf {slots:List Nat} {tys:List VT} {e:Env} {J:Yp tys→Zb→Prop} {h:Zb} (hk:ZlA slots tys e J h):∃ t,Zit slots tys e=some t∧J t h:=by
  unfold ZlA at hk
  split at hk
  ·rename_i t ht
   exact ⟨t,ht,hk⟩
  ·exact hk.elim
theorem ZfY {n:Nat}:∀ {ps:List Tmp} {vs:List EV} {e e1:Env} {a:Act},Agr n e a→ZfZ n e ps vs=some e1 →
    Agr n e1 { a with tmps:=(ps.zip (vs.map EV.v)).foldl (fun t x=>t.setIfInBounds x.1 x.2) a.tmps }
  | [],[],e,e1,a,hag,h=>by
    simp only [ZfZ,Option.some.injEq] at h
    subst h
    exact hag
  | p::ps,v::vs,e,e1,a,hag,h=>by
    simp only [ZfZ] at h
    cases hb:Nat.blt p n with
    | false=>rw [hb] at h;cases h
    | true =>
      rw [hb] at h
      exact ZfY (a:=a.put (some p) v.v) (hag.set hb v) h
  | [],_::_,e,e1,a,hag,h=>by cases h
  | _::_,[],e,e1,a,hag,h=>by cases h
theorem Zlb (ps:Array Tmp) (vs:List Value) (tmps:Array Value):(ps.zip vs.toArray).foldl (fun t x=>t.setIfInBounds x.1 x.2) tmps=(ps.toList.zip vs).foldl (fun t x=>t.setIfInBounds x.1 x.2) tmps:=by
  rw [← Array.foldl_toList,Array.toList_zip]
theorem Yu:∀ (code:Code) (c:Cfg) (_:c.OK) (_:c.P.follows .mixedOrders=true) (ann:Ann) (e:Env) (a:Act) (w:World) (Q:Ex→Env→Zb→Prop),
    Agr c.n e a→wpC c code ann e w.heap Q→code.wpIn (fen c.rnd) 0 c.P (ZaA c (dstsOf code) a w Q) a w
  | .skip,c,hc,hmixed,ann,e,a,w,Q,hag,hk=>wpIn_skip ⟨e,hag,Same.refl w,Yt.refl _ a,hk⟩
  | .region id ops draw,c,hc,hmixed,ann,e,a,w,Q,hag,hk=>by
    unfold wpC at hk
    cases draw with
    | false =>
      refine wpIn_region ?_
      rw [List.range_eq_range']
      have:=ZeP hc (ops:=ops) (Q:=ZaA c (dstsOf (.region id ops false)) a w Q) ops.toList 0 (by simp) hag hk (fun e' a' w' h1 h2 h3 h4=>⟨e',h1,h2,h3,h4⟩) (fun v a' w' h2 h3 h4=>⟨v,rfl,h2,h3,h4⟩)
      simpa using this
    | true =>
      simp only at hk
      split at hk
      ·rename_i l
       obtain ⟨hb,hk⟩:=Xr hk
       simp only [Bool.and_eq_true] at hb
       refine wpIn_region_any hmixed (ZkK (nx:=nxt ops) _ (Zaw []) _ _ _ ?_)
       exact ZcF (Zke hb.2.2) hc (D:=dstsOf (.region id ops true)) rfl hb.1 (fun _ _ h=>h) l ops.size 0 (Nat.le_of_ble_eq_true hb.2.1) _ [] e a { w with drawn:=w.drawn+1 } (Rel.zero ops) hag ⟨rfl,rfl,rfl⟩ (Yt.refl _ a) (fun q hq=>(by cases hq)) hk
      ·obtain ⟨hb,hk⟩:=Xr hk
       simp only [Bool.and_eq_true] at hb
       have hr0:c.rnd=none:=Option.isNone_iff_eq_none.1 hb.1
       rw [hr0]
       refine wpIn_region_quiet (C:=Cls w w.heap) rfl hmixed hb.2 ⟨⟨rfl,rfl,rfl⟩,rfl⟩ ?_
       refine ZgU hc ops.toList 0 (by simp) hag hk fun e' a' h1 h3 h4 w' hw=>⟨e',h1,hw.1,h3,?_⟩
       rw [hw.2]
       exact h4
  | .seq x y,c,hc,hmixed,ann,e,a,w,Q,hag,hk=>by
    have plain:∀ u v:Ann,wpC c x u e w.heap (Zas (fun e' h'=>wpC c y v e' h' Q) Q)→(Code.seq x y).wpIn (fen c.rnd) 0 c.P (ZaA c (dstsOf (.seq x y)) a w Q) a w:=by
      intro u v hk
      refine wpIn_seq (wpIn_mono (Yu x c hc hmixed u e a w _ hag hk) ?_)
      intro ex a' w' hp
      cases ex<;>first
        | exact hp.elim
        | skip
      ·obtain ⟨e',h1,h2,h3,h4⟩:=hp
       refine wpIn_mono (Yu y c hc hmixed v e' a' w' _ h1 h4) ?_
       exact ZaA.mono h2 (h3.mono fun j hj=>List.mem_append.2 (.inl hj)) (fun j hj=>List.mem_append.2 (.inr hj)) (fun _ _ _ h=>h)
      ·obtain ⟨e',h1,h2,h3,h4⟩:=hp
       exact ⟨e',h1,h2,h3.mono fun j hj=>List.mem_append.2 (.inl hj),h4⟩
      ·obtain ⟨e',h1,h2,h3,h4⟩:=hp
       exact ⟨e',h1,h2,h3.mono fun j hj=>List.mem_append.2 (.inl hj),h4⟩
      ·obtain ⟨v,h1,h2,h3,h4⟩:=hp
       exact ⟨v,h1,h2,h3.mono fun j hj=>List.mem_append.2 (.inl hj),h4⟩
    unfold wpC at hk
    split at hk
    ·rename_i slots tys kill u v
     cases hin:ZjC slots kill x with
     | false=>rw [hin] at hk;exact hk.elim
     | true =>
       rw [hin] at hk
       obtain ⟨J,hJ,hk⟩:=hk
       refine wpIn_seq (wpIn_mono (Yu x c hc hmixed u e a w _ hag hk) ?_)
       intro ex a' w' hp
       cases ex<;>first
         | exact hp.elim
         | skip
       ·obtain ⟨e',h1,h2,h3,h4⟩:=hp
        obtain ⟨t,ht,hj⟩:=Zgf h4
        have hag2:=Zhb hag h1 h3 hin ht (ZhI ht)
        refine wpIn_mono (Yu y c hc hmixed v _ a' w' _ hag2 (hJ t w'.heap hj)) ?_
        exact ZaA.mono h2 (h3.mono fun j hj=>List.mem_append.2 (.inl hj)) (fun j hj=>List.mem_append.2 (.inr hj)) (fun _ _ _ h=>h)
       ·obtain ⟨e',h1,h2,h3,h4⟩:=hp
        exact ⟨e',h1,h2,h3.mono fun j hj=>List.mem_append.2 (.inl hj),h4⟩
       ·obtain ⟨e',h1,h2,h3,h4⟩:=hp
        exact ⟨e',h1,h2,h3.mono fun j hj=>List.mem_append.2 (.inl hj),h4⟩
       ·obtain ⟨v,h1,h2,h3,h4⟩:=hp
        exact ⟨v,h1,h2,h3.mono fun j hj=>List.mem_append.2 (.inl hj),h4⟩
    ·exact plain _ _ hk
  | .cond x p q,c,hc,hmixed,ann,e,a,w,Q,hag,hk=>by
    have yes:∀ u,wpC c p u e w.heap Q→p.wpIn (fen c.rnd) 0 c.P (ZaA c (dstsOf (.cond x p q)) a w Q) a w:=fun u hk =>
      wpIn_mono (Yu p c hc hmixed u e a w Q hag hk) (ZaA.mono (Same.refl w) (Yt.refl _ a) (fun j hj=>List.mem_append.2 (.inl hj)) (fun _ _ _ h=>h))
    have no:∀ u,wpC c q u e w.heap Q→q.wpIn (fen c.rnd) 0 c.P (ZaA c (dstsOf (.cond x p q)) a w Q) a w:=fun u hk =>
      wpIn_mono (Yu q c hc hmixed u e a w Q hag hk) (ZaA.mono (Same.refl w) (Yt.refl _ a) (fun j hj=>List.mem_append.2 (.inr hj)) (fun _ _ _ h=>h))
    unfold wpC at hk
    split at hk
    ·rename_i hx;exact wpIn_cond_true (hag.ev hx) (yes _ hk)
    ·rename_i hx;exact wpIn_cond_false (hag.ev hx) (no _ hk)
    ·rename_i b hx
     exact wpIn_cond_split (hag.ev hx) (fun hb=>yes _ (hk.1 hb)) (fun hb=>no _ (hk.2 hb))
    ·exact hk.elim
  | .block id x,c,hc,hmixed,ann,e,a,w,Q,hag,hk=>by
    unfold wpC at hk
    refine wpIn_block (wpIn_mono (Yu x c hc hmixed _ e a w _ hag hk) ?_)
    intro ex a' w' hp
    cases ex<;>first
      | exact hp.elim
      | skip
    ·exact hp
    ·rename_i id'
     obtain ⟨e',h1,h2,h3,h4⟩:=hp
     simp only [Exit.inBlock]
     simp only [ZnO] at h4
     cases hb:Nat.beq id' id with
     | true =>
       rw [hb] at h4
       rw [if_pos (Nat.eq_of_beq_eq_true hb)]
       exact ⟨e',h1,h2,h3,h4⟩
     | false =>
       rw [hb] at h4
       rw [if_neg (Nat.ne_of_beq_eq_false hb)]
       exact ⟨e',h1,h2,h3,h4⟩
    ·exact hp
    ·exact hp
  | .loop x,c,hc,hmixed,ann,e,a,w,Q,hag,hk=>by
    unfold wpC at hk
    split at hk
    ·rename_i slots tys kill u
     cases hin:ZjC slots kill x with
     | false=>rw [hin] at hk;exact hk.elim
     | true =>
       rw [hin] at hk
       simp only [cond_true] at hk
       split at hk
       ·rename_i t0 ht0
        obtain ⟨I,μ,h0,hr⟩:=hk
        have hall:=ZhI ht0
        have hall':∀ (t:Yp tys) j,Zft slots j=true→∃ v,Zco slots (Yp.evs tys t) j=some v:=by
          intro t j hj
          obtain ⟨v,hv⟩:=hall j hj
          have len:∀ (ts:List VT) (s s':Yp ts),(Yp.evs ts s).length=(Yp.evs ts s').length:=by
            intro ts
            induction ts with
            | nil=>intro s s';rfl
            | cons x xs ih=>intro s s';simp only [Yp.evs,List.length_cons];exact congrArg _ (ih _ _)
          have go:∀ (ss:List Nat) (us vs:List EV),us.length=vs.length→(∃ v,Zco ss us j=some v)→∃ v,Zco ss vs j=some v:=by
            intro ss
            induction ss with
            | nil=>intro us vs _ h;simp [Zco] at h
            | cons s ss ih =>
              intro us vs hlen h
              cases us with
              | nil=>simp [Zco] at h
              | cons u us =>
                cases vs with
                | nil=>simp at hlen
                | cons v' vs =>
                  simp only [Zco] at h ⊢
                  cases hb:Nat.beq j s with
                  | true=>exact ⟨v',rfl⟩
                  | false =>
                    rw [hb] at h
                    exact ih us vs (by simpa using hlen) h
          exact go slots _ _ (len tys t0 t) ⟨v,hv⟩
        refine wpIn_loop_ghost (fun n a' w'=>Same w w'∧Yt (dstsOf x) a a'∧∃ t,Agr c.n (ZlR slots (Yp.evs tys t) kill e) a'∧I t w'.heap∧n=μ t w'.heap)
          (μ t0 w.heap) ⟨Same.refl w,Yt.refl _ a,t0,Zhb hag hag (Yt.refl _ a) hin ht0 hall,h0,rfl⟩ ?_
        rintro n a' w' ⟨hs,hkeep,t,hagt,hI,rfl⟩
        refine wpIn_mono (Yu x c hc hmixed u _ a' w' _ hagt (hr t w'.heap hI)) ?_
        intro ex a2 w2 hp
        cases ex<;>first
          | exact hp.elim
          | skip
        ·obtain ⟨e2,h1,h2,h3,h4⟩:=hp
         have h5:ZlA slots tys e2 (fun s' h'=>I s' h'∧μ s' h'<μ t w'.heap) w2.heap:=h4
         obtain ⟨t2,ht2,hI2,hμ⟩:=Zgf h5
         exact ⟨_,hμ,hs.trans h2,hkeep.trans h3,t2,Zhb hag h1 (hkeep.trans h3) hin ht2 (hall' t2),hI2,rfl⟩
        ·obtain ⟨e2,h1,h2,h3,h4⟩:=hp
         exact ⟨e2,h1,hs.trans h2,hkeep.trans h3,h4⟩
        ·obtain ⟨e2,h1,h2,h3,h4⟩:=hp
         exact ⟨e2,h1,hs.trans h2,hkeep.trans h3,h4⟩
        ·obtain ⟨v,h1,h2,h3,h4⟩:=hp
         exact ⟨v,h1,hs.trans h2,hkeep.trans h3,h4⟩
       ·exact hk.elim
    ·exact hk.elim
  | .exit id,c,hc,hmixed,ann,e,a,w,Q,hag,hk=>wpIn_exit ⟨e,hag,Same.refl w,Yt.refl _ a,hk⟩
  | .ret,c,hc,hmixed,ann,e,a,w,Q,hag,hk=>wpIn_ret ⟨e,hag,Same.refl w,Yt.refl _ a,hk⟩
  | .rangeFunc g ps assign body,c,hc,hmixed,ann,e,a,w,Q,hag,hk=>by
    unfold wpC at hk
    split at hk
    ·rename_i tys x y
     cases hb:(c.rnd.isNone&&e.mD.isNo) with
     | false=>rw [hb] at hk;exact hk.elim
     | true =>
       rw [hb] at hk
       simp only [cond_true] at hk
       simp only [Bool.and_eq_true] at hb
       have hr0:c.rnd=none:=Option.isNone_iff_eq_none.1 hb.1
       have hm0:e.mD = .no:=by
         cases h9:e.mD with
         | no=>rfl
         | at_ D9=>rw [h9] at hb;cases hb.2
         | raw d9=>rw [h9] at hb;cases hb.2
       have hd0:a.defers=[]:=by rw [hag.defers,hm0];rfl
       split at hk
       ·rename_i f cs hg
        split at hk
        ·rename_i s t hp
         obtain ⟨hmem,ht⟩:=ZeT hp
         dsimp only at hmem ht
         have hit:=hc.iters _ hmem
         dsimp only at hit
         have hg':a.eval g=Value.func (.func f) #[] ⟨cs⟩:=hag.ev hg
         rw [hr0]
         refine wpIn_rangeFunc ?_
         intro fn hfn
         obtain ⟨r,hr⟩:∃ r:Loop,r={ state:= .ready,pending:=none,fn,tmps:=a.tmps,params:=ps,assign,body,defers:=w.heap.size }:=⟨_,rfl⟩
         have hsem:=hk r
         clear hk
         obtain ⟨W1,hW1⟩:∃ W1,(w.alloc (.deferred (some []))).alloc (Zef r .ready none)=W1:=⟨_,rfl⟩
         have hh1:W1.heap=(w.heap.push (.deferred (some []))).push (Zef r .ready none):=by rw [← hW1];rfl
         have hs1:Same w W1:=by rw [← hW1];exact ⟨rfl,rfl,rfl⟩
         rw [← hh1] at hsem
         have hY:YOK c.P (Znq r (w.heap.size+1) ps.size (fun vs h' k=>Zp8 (fun a:Yp tys=>(Yp.evs tys a).map EV.v) vs fun a=>match ZfZ c.n ⟨e.f,.no⟩ ps.toList (Yp.evs tys a) with
           | some e1=>wpC { c with rnd:=some (w.heap.size+1),pan:=fun _ _=>False } assign x e1 h' (Znx fun e2 h2 =>
               Zp7 r (w.heap.size+1) h2 fun h3=>wpC { c with rnd:=some (w.heap.size+1),pan:=fun _ _=>False } body y e2 h3 (Znw k))
           | none=>False)):=by
           intro l vs k W hy
           obtain ⟨rfl,hlen,hrec,hargs⟩:=hy
           obtain ⟨ta,rfl,hargs⟩:=hargs
           split at hargs
           ·rename_i e1 he1
            have hrl:W.heap[w.heap.size+1]?=some (.loop { r with state:= .ready,pending:=none }):=hrec
            have hy:=run_yield (P:=c.P) (args:=((Yp.evs tys ta).map EV.v).toArray) hrl (by rw [hr];simpa using hlen)
            refine ⟨fn,(ps.zip ((Yp.evs tys ta).map EV.v).toArray).foldl (fun t x=>t.setIfInBounds x.1 x.2) a.tmps,assign,body,by rw [hr] at hy;exact hy,?_⟩
            have hag1:Agr c.n e1 { tmps:=(ps.toList.zip ((Yp.evs tys ta).map EV.v)).foldl (fun t x=>t.setIfInBounds x.1 x.2) a.tmps,defers:=[]} :=
              ZfY (e:=⟨e.f,.no⟩) (a:={ a with defers:=[]}) ⟨hag.size,rfl,hag.val⟩ he1
            have hc1:=hc.at (some (w.heap.size+1)) (fun _ _=>False)
            rw [← Zlb] at hag1
            refine roundIn_of_wpIn hfn ?_
            refine wpIn_mono (Yu assign _ hc1 hmixed x e1 _ W _ hag1 hargs) ?_
            intro ex a1 w1 hp1
            cases ex with
            | normal =>
              obtain ⟨e2,hag2,hs2,hk2,hrec2,hb2⟩:=hp1
              have hrl2:w1.heap[w.heap.size+1]?=some (.loop { r with state:= .ready,pending:=none }):=hrec2
              refine ⟨_,run_beginRound hrl2 rfl,?_⟩
              refine wpIn_mono (Yu body _ hc1 hmixed y e2 a1 (w1.putObj (w.heap.size+1) (.loop { r with state:= .busy,pending:=none })) _ hag2 hb2) ?_
              have hs3:Same W (w1.putObj (w.heap.size+1) (.loop { r with state:= .busy,pending:=none })):=hs2.trans ⟨rfl,rfl,rfl⟩
              have fin:∀ (p:Option Code) (W3:World),Same (w1.putObj (w.heap.size+1) (.loop { r with state:= .busy,pending:=none })) W3 →
                  Zkk W3.heap (w.heap.size+1) r .busy none (k p.isNone (Znv W3.heap (w.heap.size+1) (Zef r (if p.isNone then .ready else .done) p))) →
                  ∃ v w',(Instr.endRound (w.heap.size+1) p).run c.P W3 = .ok v w'∧∃ b,Ending.returned v = .returned (.bool b)∧Same W w'∧k b w'.heap:=by
                intro p W3 hs4 hk4
                have hrl3:W3.heap[w.heap.size+1]?=some (.loop { r with state:= .busy,pending:=none }):=hk4.1
                exact ⟨_,_,run_endRound p hrl3,p.isNone,rfl,(hs3.trans hs4).trans ⟨rfl,rfl,rfl⟩,hk4.2⟩
              intro ex3 a3 w3 hp3
              cases ex3 with
              | normal=>obtain ⟨e3,_,hs4,_,hk4⟩:=hp3;exact fin none w3 hs4 hk4
              | ret=>obtain ⟨e3,_,hs4,_,hk4⟩:=hp3;exact fin (some .ret) w3 hs4 hk4
              | exit id=>obtain ⟨e3,_,hs4,_,hk4⟩:=hp3;exact fin (some (.exit id)) w3 hs4 hk4
              | goto t=>exact hp3.elim
              | panic ch=>obtain ⟨_,_,_,_,hk4⟩:=hp3;exact hk4.elim
              | outgrown=>exact hp3.elim
            | ret=>obtain ⟨_,_,_,_,hk4⟩:=hp1;exact hk4.elim
            | exit id=>obtain ⟨_,_,_,_,hk4⟩:=hp1;exact hk4.elim
            | goto t=>exact hp1.elim
            | panic ch=>obtain ⟨_,_,_,_,hk4⟩:=hp1;exact hk4.elim
            | outgrown=>exact hp1.elim
           ·exact hargs.elim
         have hok:=hit _ hY
         obtain ⟨⟨fd,hf,hname,hbody⟩,hcall⟩:=hok
         have hargs:(#[Value.func (.yield (w.heap.size+1)) #[] #[]]:Array Value)++(⟨cs⟩:Array Value)=((Yp.evs (.yl::s.caps) (w.heap.size+1,t)).map EV.v).toArray:=by
           have h5:=ZbG ht
           have h6:(cs.map EV.val).map EV.v=cs:=by simp [Function.comp_def,EV.v]
           rw [h6] at h5
           simp only [Yp.evs,List.map_cons,h5]
           simp [VT.ev,EV.v]
         refine ⟨w.heap.size+1,[{ target:= .collected w.heap.size,args:= #[]}],W1,{ target:= .fn (.func f) ⟨cs⟩,args:= #[.func (.yield (w.heap.size+1)) #[] #[]]},W1,f,
           #[.func (.yield (w.heap.size+1)) #[] #[]]++(⟨cs⟩:Array Value),W1,?_,?_,?_,?_,fun h=>(by cases h),Zb0.2 ?_⟩
         ·rw [← hW1,hr]
          exact run_enterLoop_outer fn a.tmps ps assign body
         ·simp only [resolve,hg']
          simp [Deferred.ofValue,Act.eval]
         ·intro f' hf';exact trivial
         ·simp only [invoke,callFunc,Sem.run_bind,run_program,Result.andThen_ok,hf,hname,Bool.false_eq_true,if_false,hbody,Sem.run_pure]
         ·rw [hargs]
          refine (hcall (w.heap.size+1,t) (fun _ h'=>∃ st p,st≠ .busy∧Zkk h' (w.heap.size+1) r st p (ZpV p (Q .normal ⟨e.f,.at_ w.heap.size⟩ (Znv h' (w.heap.size+1) (Zef r .exhausted p)))
            (fun id=>Q (.exit id) ⟨e.f,.at_ w.heap.size⟩ (Znv h' (w.heap.size+1) (Zef r .exhausted p))) (Q .ret ⟨e.f,.at_ w.heap.size⟩ (Znv h' (w.heap.size+1) (Zef r .exhausted p))))) (fun _ _=>False) W1 hsem).mono ?_
          rintro ending w2 (⟨rr,rfl,hs2,st,p,hst,hrec,hj⟩ | ⟨v,rfl,hs2,hk⟩)
          ·have hrl:w2.heap[w.heap.size+1]?=some (.loop { r with state:=st,pending:=p }):=hrec
           have hend:=run_endLoop (P:=c.P) hrl (by exact hst)
           have hs3:Same w (w2.putObj (w.heap.size+1) (Zef r .exhausted p)):=(hs1.trans hs2).trans ⟨rfl,rfl,rfl⟩
           have hag3:Agr c.n ⟨e.f,.at_ w.heap.size⟩ { a with defers:=[{ target:= .collected w.heap.size,args:= #[]}]++a.defers }:=⟨hag.size,by rw [hd0];rfl,hag.val⟩
           have hk3:Yt (dstsOf (.rangeFunc g ps assign body)) a { a with defers:=[{ target:= .collected w.heap.size,args:= #[]}]++a.defers }:=⟨fun _ _=>rfl,fun h=>absurd (List.mem_singleton.2 rfl) h⟩
           refine ⟨p,_,hend,?_⟩
           cases p with
           | none=>exact ⟨_,hag3,hs3,hk3,hj⟩
           | some cj =>
             cases cj with
             | exit id=>exact wpIn_exit ⟨_,hag3,hs3,hk3,hj⟩
             | ret=>exact wpIn_ret ⟨_,hag3,hs3,hk3,hj⟩
             | _=>exact hj.elim
          ·exact hk.elim
        ·exact hk.elim
       ·exact hk.elim
    ·exact hk.elim
  | .scope _,c,hc,hmixed,ann,e,a,w,Q,hag,hk=>hk.elim
  | .label _,c,hc,hmixed,ann,e,a,w,Q,hag,hk=>hk.elim
  | .goto _,c,hc,hmixed,ann,e,a,w,Q,hag,hk=>hk.elim
  | .refuse _,c,hc,hmixed,ann,e,a,w,Q,hag,hk=>hk.elim
theorem Zd3:∀ (args:List EV) (i:Nat) (j:Nat) (v:EV),Zdj.go args i j=some v→∃ k,j=i+k∧args[k]?=some v
  | [],i,j,v,h=>by simp [Zdj.go] at h
  | x::xs,i,j,v,h=>by
    simp only [Zdj.go] at h
    cases hb:Nat.beq j i with
    | true =>
      rw [hb] at h
      simp only [cond_true,Option.some.injEq] at h
      exact ⟨0,Nat.eq_of_beq_eq_true hb,by simp [h]⟩
    | false =>
      rw [hb] at h
      obtain ⟨k,hk,hv⟩:=Zd3 xs (i+1) j v h
      exact ⟨k+1,by omega,by simpa using hv⟩
theorem Zds {c:Cfg} {e:Env} {a:Act} {w:World} (hag:Agr c.n e a) {f:ResultVar→Sem Value} (h1:∀ t,f (.tmp t)=pure (a.tmps.getD t undef))
    (h2:∀ x t,f (.cell x t)=(do loadVar t (← asAddr (a.tmps.getD x undef)))):∀ {rs:List ResultVar} {K:List EV→Prop},Zkz c e w.heap rs K →
    ∃ vs,(rs.mapM f).run c.P w = .ok (vs.map EV.v) w∧K vs
  | [],K,hk=>⟨[],rfl,hk⟩
  | .tmp t::r,K,hk=>by
    simp only [Zkz] at hk
    split at hk
    ·rename_i v hv
     obtain ⟨vs,hr,hk⟩:=Zds hag h1 h2 hk
     refine ⟨v::vs,?_,hk⟩
     have:=hag.val t v hv
     rw [List.mapM_cons]
     simp only [h1,Sem.run_bind,Sem.run_pure,Result.andThen_ok,hr,List.map_cons]
     simp [this]
    ·exact hk.elim
  | .cell x t::r,K,hk=>by
    simp only [Zkz] at hk
    split at hk
    ·rename_i b o hv
     obtain ⟨v,hl,hk⟩:=Zjn hk
     obtain ⟨vs,hr,hk⟩:=Zds hag h1 h2 hk
     refine ⟨v::vs,?_,hk⟩
     have:=hag.val x _ hv
     have hx:(asAddr (a.tmps.getD x undef)).run c.P w = .ok ⟨b,o,none⟩ w:=by
       have:a.tmps.getD x undef = .pointer (some ⟨b,o,none⟩):=by simp [this,EV.v]
       rw [this];rfl
     rw [List.mapM_cons]
     simp only [h2,Sem.run_bind,Sem.run_pure,hx,Result.andThen_ok,hl w rfl,hr,List.map_cons]
    ·exact hk.elim
def Zq5 (l:List Value):Value:=match l with
  | [v]=>v
  | l=> .tuple l.toArray
theorem ZkV:∀ (vs:List EV),(ZaI vs).v=Zq5 (vs.map EV.v)
  | []=>rfl
  | [_]=>rfl
  | _::_::_=>rfl
theorem Zhz (l:List Value):(if h:l.toArray.size=1 then l.toArray[0] else Value.tuple l.toArray)=Zq5 l:=by
  match l with
  | []=>rfl
  | [x]=>rfl
  | x::y::r =>
    have:¬ (x::y::r).toArray.size=1:=by simp
    rw [dif_neg this]
    rfl
theorem Zlc {res:List VT} {vs:List EV} {r:Yp res} (h:Yp.un res vs=some r):Zny res r=Zq5 (vs.map EV.v):=by
  unfold Zny
  rw [ZkV,ZbG h]
theorem Zkn {c:Cfg} (hc:c.OK) (hmixed:c.P.follows .mixedOrders=true) {f:FuncId} {fn:Func} {ann:Ann} {args:List EV} {res:List VT} {K:Yp res→Zb→Prop} {Kp:Value→Zb→Prop} {w:World}
    (hf:c.P.funcs[f]?=some fn) (hn:c.n=fn.ntmps) (hlen:args.length≤fn.ntmps) (hk:Zqj c fn ann args res K Kp w.heap) :
    Calls c.P f (args.map EV.v).toArray w (Zak res w K Kp):=by
  unfold Zqj at hk
  split at hk
  ·rename_i code hb
   refine Zb0 (r:=none) (n:=0).1 (callsIn_of_wp_marks hf hb trivial ?_)
   have hag:Agr c.n (Zdj args) { tmps:=(args.map EV.v).toArray++Array.replicate (fn.ntmps - (args.map EV.v).toArray.size) undef,defers:=[]}:=by
     refine ⟨by simp [hn];omega,rfl,fun j v hj=>?_⟩
     obtain ⟨k,hk,hv⟩:=Zd3 args 0 j v hj
     have hlt:k<args.length:=by
       rcases Nat.lt_or_ge k args.length with h | h
       ·exact h
       ·rw [List.getElem?_eq_none h] at hv;cases hv
     simp only [Nat.zero_add] at hk
     subst hk
     simp [hlt,Array.getElem?_append]
     have h5:=List.getElem?_eq_getElem hlt
     rw [hv] at h5
     exact congrArg EV.v (Option.some.inj h5.symm)
   refine wpIn_mono (Yu code _ (hc.at none (bif Zop code then fun _ _=>False else Kp)) hmixed ann _ _ w _ hag hk) ?_
   have res_:∀ (a':Act) (w1:World) (e':Env),Agr c.n e' a'→Same w w1→(Zkz c e' w1.heap fn.results.toList fun vs=>match Yp.un res vs with
       | some r=>K r w1.heap
       | none=>False)→∃ v,(results fn a'.tmps).run c.P w1 = .ok v w1∧Zak res w K Kp (.returned v) w1:=by
     intro a' w1 e' h1 h2 h4
     obtain ⟨vs,hr,hk⟩:=Zds (f:=fun
       | .tmp t=>pure (a'.tmps.getD t undef)
       | .cell x t=>do loadVar t (← asAddr (a'.tmps.getD x undef))) h1 (fun _=>rfl) (fun _ _=>rfl) h4
     split at hk
     ·rename_i r hun
      refine ⟨Zny res r,?_,.inl ⟨r,rfl,h2,hk⟩⟩
      unfold results
      rw [Array.mapM_eq_mapM_toList]
      simp only [Sem.run_bind,Sem.run_map]
      have hr':=hr
      refine (congrArg (fun r=>(Result.andThen (Result.andThen r _) _)) hr').trans ?_
      simp only [Result.andThen_ok,Sem.run_pure]
      rw [Zlc hun]
      exact congrArg (fun v=>Result.ok v w1) (Zhz _)
     ·exact hk.elim
   have fin:∀ (a':Act) (w':World) (e':Env),Agr c.n e' a'→Same w w'→(match e'.mD with
       | .no=>Zkz c e' w'.heap fn.results.toList fun vs=>match Yp.un res vs with
         | some r=>K r w'.heap
         | none=>False
       | .at_ D=>ZpB D w'.heap fun h'=>Zkz c e' h' fn.results.toList fun vs=>match Yp.un res vs with
         | some r=>K r h'
         | none=>False
       | .raw _=>False)→LeavesInM (fen none) 0 c.P fn a'.tmps (Zak res w K Kp) a'.defers .returning w':=by
     intro a' w' e' h1 h2 h4
     rw [h1.defers]
     cases hm:e'.mD with
     | raw ds=>rw [hm] at h4;exact h4.elim
     | no =>
       rw [hm] at h4
       exact res_ a' w' e' h1 h2 h4
     | at_ D =>
       rw [hm] at h4
       obtain ⟨hD,h4⟩:=h4
       refine ⟨by simp,.inl ⟨D,_,rfl,run_takeDeferred hD,?_⟩⟩
       exact res_ a' (w'.putObj D (.deferred none)) e' h1 (h2.trans ⟨rfl,rfl,rfl⟩) h4
   intro ex a' w' hp
   cases ex with
   | normal=>obtain ⟨e',h1,h2,h3,h4⟩:=hp;exact fin a' w' e' h1 h2 h4
   | ret=>obtain ⟨e',h1,h2,h3,h4⟩:=hp;exact fin a' w' e' h1 h2 h4
   | exit id=>obtain ⟨e',h1,h2,h3,h4⟩:=hp;exact h4.elim
   | goto t=>exact hp.elim
   | outgrown=>exact hp.elim
   | panic ch =>
     obtain ⟨v,rfl,h2,h3,h4⟩:=hp
     cases hrf:Zop code with
     | true=>rw [hrf] at h4;exact h4.elim
     | false =>
       rw [hrf] at h4
       have hmk:mkN∉dstsOf code:=by
         have key:∀ (l:List Nat),Zft l mkN=false→mkN∉l:=by
           intro l
           induction l with
           | nil=>intro _ h;cases h
           | cons x xs ih =>
             intro h hm
             simp only [Zft] at h
             cases hb:Nat.beq mkN x with
             | true=>rw [hb] at h;cases h
             | false =>
               rw [hb] at h
               rcases List.mem_cons.1 hm with he | hm
               ·rw [← he,Nat.beq_refl] at hb;cases hb
               ·exact ih h hm
         exact key _ hrf
       rw [show bodyPostM (fen none) 0 c.P fn (Zak res w K Kp) (.panic [{ v,recovered:=false }]) a' w'=LeavesInM (fen none) 0 c.P fn a'.tmps (Zak res w K Kp) a'.defers (.panicking [{ v,recovered:=false }]) w' from rfl,h3.2 hmk]
       exact .inr ⟨v,rfl,h2,h4⟩
  ·exact hk.elim
inductive AllOK (P:Program):List (FuncId × Zh)→Prop
  | nil:AllOK P []
  | cons {f:FuncId} {s:Zh} {l:List (FuncId × Zh)} (h:Zx P f s) (r:AllOK P l):AllOK P ((f,s)::l)
theorem Zgt {P:Program}:∀ {l:List (FuncId × Zh)},AllOK P l→∀ x,x∈l→Zx P x.1 x.2
  | [],_,x,h=>by cases h
  | _::_,.cons h0 hr,x,h=>by
    cases h with
    | head=>exact h0
    | tail _ h=>exact Zgt hr x h
inductive AllExt (P:Program):List FuncId→Prop
  | nil:AllExt P []
  | cons {f:FuncId} {l:List FuncId} (h:ZoJ P f) (r:AllExt P l):AllExt P (f::l)
theorem Zgu {P:Program}:∀ {l:List FuncId},AllExt P l→∀ f,f∈l→ZoJ P f
  | [],_,x,h=>by cases h
  | _::_,.cons h0 hr,x,h=>by
    cases h with
    | head=>exact h0
    | tail _ h=>exact Zgu hr x h
inductive AllDyn (P:Program):List (String × TypeId × FuncId)→Prop
  | nil:AllDyn P []
  | cons {n:String} {t:TypeId} {f:FuncId} {l:List (String × TypeId × FuncId)} (h:ZjO P n t f) (r:AllDyn P l):AllDyn P ((n,t,f)::l)
theorem Zgv {P:Program}:∀ {l:List (String × TypeId × FuncId)},AllDyn P l→∀ x,x∈l→ZjO P x.1 x.2.1 x.2.2
  | [],_,x,h=>by cases h
  | _::_,.cons h0 hr,x,h=>by
    cases h with
    | head=>exact h0
    | tail _ h=>exact Zgv hr x h
inductive AllIter (P:Program):List (FuncId × XC)→Prop
  | nil:AllIter P []
  | cons {f:FuncId} {s:XC} {l:List (FuncId × XC)} (h:Zmk P f s) (r:AllIter P l):AllIter P ((f,s)::l)
theorem Zfq {P:Program}:∀ {l:List (FuncId × XC)},AllIter P l→∀ x,x∈l→Zmk P x.1 x.2
  | [],_,x,h=>by cases h
  | _::_,.cons h0 hr,x,h=>by
    cases h with
    | head=>exact h0
    | tail _ h=>exact Zfq hr x h
theorem ZN (c:Cfg) (h:AllOK c.P c.calls) (h':AllExt c.P c.ext) (h'':AllDyn c.P c.dyn) (h3:AllIter c.P c.iters) (h4:YOK c.P c.yld):c.OK:=⟨Zgt h,Zgu h',Zgv h'',Zfq h3,h4⟩
theorem Zrd {c:Cfg} {f:FuncId} {fn:Func} {ann:Ann} {s:Zh} (hf:c.P.funcs[f]?=some fn) (hname:(fn.name == "runtime.NumGoroutine")=false) (hbody:fn.body.isNone=false)
    (hn:c.n=fn.ntmps) (hlen:s.args.length≤fn.ntmps) (hc:c.OK) (hmixed:c.P.follows .mixedOrders=true)
    (hr:∀ (t:Yp s.args) (K:Yp s.res→Zb→Prop) (Kp:Value→Zb→Prop) (h:Zb),Zqj c fn ann (Yp.evs s.args t) s.res K Kp h=s.sem t K Kp h):Zx c.P f s where
  named:=⟨fn,hf,hname,hbody⟩
  calls t K Kp w hk:=by
    have hl:(Yp.evs s.args t).length≤fn.ntmps:=by
      have:∀ (vs:List VT) (x:Yp vs),(Yp.evs vs x).length=vs.length:=by
        intro vs
        induction vs with
        | nil=>intro x;rfl
        | cons v vs ih=>intro x;simp only [Yp.evs,List.length_cons,ih]
      rw [this]
      exact hlen
    exact Zkn hc hmixed hf hn hl (by rw [hr];exact hk)
def Yo (c:Cfg) (fn:Func) (ann:Ann) (s:Zh):Prop:=∀ (t:Yp s.args) (K:Yp s.res→Zb→Prop) (Kp:Value→Zb→Prop) (h:Zb),Zqj c fn ann (Yp.evs s.args t) s.res K Kp h=s.sem t K Kp h
theorem okF {c:Cfg} {f:FuncId} {fn:Func} {ann:Ann} {s:Zh} (hr:Yo c fn ann s) (hf:c.P.funcs[f]?=some fn) (hm:c.P.follows .mixedOrders=true) (hc:c.OK)
    (hname:(fn.name == "runtime.NumGoroutine")=false:=by kernel_rfl) (hbody:fn.body.isNone=false:=by kernel_rfl) (hn:c.n=fn.ntmps:=by rfl) (hlen:s.args.length≤fn.ntmps:=by decide):Zx c.P f s :=
  Zrd hf hname hbody hn hlen hc hm hr
theorem ZiA {P:Program} {f:FuncId} {fn:Func} {s:Zh} (hf:P.funcs[f]?=some fn) (hname:(fn.name == "runtime.NumGoroutine")=false) (hbody:fn.body.isNone=false) (hs:∀ t K Kp h,¬ s.sem t K Kp h):Zx P f s where
  named:=⟨fn,hf,hname,hbody⟩
  calls t K Kp w hk:=(hs _ _ _ _ hk).elim
theorem Zob {P:Program} {f:FuncId} {A R:List VT} {M:Nat→Yp A→(Yp R→Zb→Prop)→(Value→Zb→Prop)→Zb→Prop} (h:∀ n,Zx P f ⟨A,R,M n⟩):Zx P f ⟨A,R,fun t K Kp h=>∃ n,M n t K Kp h⟩ where
  named:=(h 0).named
  calls t K Kp w hk:=let ⟨n,hn⟩:=hk;(h n).calls t K Kp w hn
end Go.Fw
namespace Go.Proofs
open Go.Shelf
def Tryd.lays137_ren:Go.Shelf.Ren:=⟨fun | 137=>43 | 217=>53 | 266=>60 | n=>n,fun | 9=>9 | 5=>5 | 3=>3 | n=>n,fun | n=>n⟩
theorem Tryd.lays137:Go.Proofs.Lays.n137 Tryd.prog Tryd.lays137_ren:={
  mixed:=by kernel_rfl
  f137:=Tryd.func43.trans (congrArg some (by kernel_rfl))
  f217:=Tryd.func53.trans (congrArg some (by kernel_rfl))
  f266:=Tryd.func60.trans (congrArg some (by kernel_rfl))
  t3:=Tryd.underlying3
  a3:=Tryd.isAgg3
  z3:=Tryd.sizeOf3
  v3:=Tryd.zeroValue3
  t5:=Tryd.underlying5
  a5:=Tryd.isAgg5
  z5:=Tryd.sizeOf5
  v5:=Tryd.zeroValue5
  t9:=Tryd.underlying9
  a9:=Tryd.isAgg9
  z9:=Tryd.sizeOf9
  v9:=Tryd.zeroValue9 }
open Go.RowKit in
theorem Tryd.strings_IndexByte (s:ByteArray) (c:Int) (w:World) :
    Calls Tryd.prog 43 #[.string s,.int .u8 c] w fun e w'=>e = .returned (.int .i64 (Lib.indexByte s.data.toList c.toNat.toUInt8))∧w'=w:=Any.strings_IndexByte Tryd.lays137 s c w
def Tryd.lays195_ren:Go.Shelf.Ren:=⟨fun | 195=>63 | n=>n,fun | 9=>9 | 3=>3 | 0=>0 | 4=>4 | n=>n,fun | n=>n⟩
theorem Tryd.lays195:Go.Proofs.Lays.n195 Tryd.prog Tryd.lays195_ren:={
  mixed:=by kernel_rfl
  f195:=Tryd.func63.trans (congrArg some (by kernel_rfl))
  t0:=Tryd.underlying0
  a0:=Tryd.isAgg0
  z0:=Tryd.sizeOf0
  v0:=Tryd.zeroValue0
  t3:=Tryd.underlying3
  a3:=Tryd.isAgg3
  z3:=Tryd.sizeOf3
  v3:=Tryd.zeroValue3
  t4:=Tryd.underlying4
  a4:=Tryd.isAgg4
  z4:=Tryd.sizeOf4
  v4:=Tryd.zeroValue4
  t9:=Tryd.underlying9
  a9:=Tryd.isAgg9
  z9:=Tryd.sizeOf9
  v9:=Tryd.zeroValue9 }
open Go.RowKit in
theorem Tryd.utf8_RuneCountInString (s:ByteArray) (w:World) (hs:s.size<9223372036854775807) :
    Calls Tryd.prog 63 #[.string s] w fun e w'=>e = .returned (.int .i64 (Lib.runeCount s))∧∃ pos,w'=w.iter s pos:=Any.utf8_RuneCountInString Tryd.lays195 s w hs
def Tryd.lays196_ren:Go.Shelf.Ren:=⟨fun | 196=>35 | 259=>47 | n=>n,fun | 9=>9 | 4=>4 | 3=>3 | 5=>5 | 12=>12 | 119=>87 | 0=>0 | 46=>84 | 139=>90 | 138=>89 | 53=>97 | n=>n,fun | 3=>0 | 4=>1 | n=>n⟩
theorem Tryd.lays196:Go.Proofs.Lays.n196 Tryd.prog Tryd.lays196_ren:={
  mixed:=by kernel_rfl
  f196:=Tryd.func35.trans (congrArg some (by kernel_rfl))
  f259:=Tryd.func47.trans (congrArg some (by kernel_rfl))
  t0:=Tryd.underlying0
  a0:=Tryd.isAgg0
  z0:=Tryd.sizeOf0
  v0:=Tryd.zeroValue0
  t3:=Tryd.underlying3
  a3:=Tryd.isAgg3
  z3:=Tryd.sizeOf3
  v3:=Tryd.zeroValue3
  t4:=Tryd.underlying4
  a4:=Tryd.isAgg4
  z4:=Tryd.sizeOf4
  v4:=Tryd.zeroValue4
  t5:=Tryd.underlying5
  a5:=Tryd.isAgg5
  z5:=Tryd.sizeOf5
  v5:=Tryd.zeroValue5
  t9:=Tryd.underlying9
  a9:=Tryd.isAgg9
  z9:=Tryd.sizeOf9
  v9:=Tryd.zeroValue9
  t12:=Tryd.underlying12
  a12:=Tryd.isAgg12
  z12:=Tryd.sizeOf12
  v12:=Tryd.zeroValue12
  t46:=Tryd.underlying84
  a46:=Tryd.isAgg84
  z46:=Tryd.sizeOf84
  v46:=Tryd.zeroValue84
  t53:=Tryd.underlying97
  a53:=Tryd.isAgg97
  z53:=Tryd.sizeOf97
  v53:=Tryd.zeroValue97
  t119:=Tryd.underlying87
  a119:=Tryd.isAgg87
  z119:=Tryd.sizeOf87
  t138:=Tryd.underlying89
  a138:=Tryd.isAgg89
  z138:=Tryd.sizeOf89
  v138:=Tryd.zeroValue89
  t139:=Tryd.underlying90
  a139:=Tryd.isAgg90
  z139:=Tryd.sizeOf90
  v139:=Tryd.zeroValue90
  g3:=by kernel_rfl
  g4:=by kernel_rfl }
end Go.Proofs
namespace Go.Proofs.YtgiolidekcckiaaDoor
open Go Go.Fw Go.RowKit
theorem Zn4 {w w':World} {n:Nat} (hb:Below n w w'):Fw.Same w w':=⟨hb.tape,hb.os,hb.output⟩
theorem Zp2 {w w':World} (hb:Below w.heap.size w w'):Ext w.heap w'.heap:=⟨hb.size,hb.block⟩
noncomputable def Zc7:Zh:=⟨[.one (.S),.one (.I .u8)],[.one (.I .i64)],fun t K _ h=>ZY t.1 t.2.1 (fun r0 h=>K (r0,()) h) h⟩
theorem Xs:Zx Tryd.prog 43 Zc7 where
  named:=⟨_,Tryd.func43,by kernel_rfl,by kernel_rfl⟩
  calls t K Kp w hk:=by
    refine (Tryd.strings_IndexByte t.1 t.2.1 w).mono ?_
    rintro e w' ⟨rfl,rfl⟩
    exact .inl ⟨(_,()),rfl,⟨rfl,rfl,rfl⟩,hk⟩
noncomputable def ZaX:Zh:=⟨[.one (.S)],[.one (.B)],fun t K _ h=>Zw t.1 (fun r0 h=>K (r0,()) h) h⟩
theorem Z9:Zx Tryd.prog 35 ZaX where
  named:=⟨_,Tryd.func35,by kernel_rfl,by kernel_rfl⟩
  calls t K Kp w hk:=by
    obtain ⟨hT,hs,hk⟩:=hk
    refine (Any.utf8_ValidString Tryd.lays196 t.1 w hs (hT.utf w rfl)).mono ?_
    rintro e w' ⟨rfl,hb⟩
    exact .inl ⟨(_,()),rfl,Zn4 hb,hk _ (Zp2 hb)⟩
noncomputable def X9:Zh:=⟨[.one (.S)],[.one (.I .i64)],fun t K _ h=>ZU t.1 (fun r0 h=>K (r0,()) h) h⟩
theorem XW:Zx Tryd.prog 63 X9 where
  named:=⟨_,Tryd.func63,by kernel_rfl,by kernel_rfl⟩
  calls t K Kp w hk:=by
    obtain ⟨hs,hk⟩:=hk
    refine (Tryd.utf8_RuneCountInString t.1 w hs).mono ?_
    rintro e w' ⟨rfl,pos,rfl⟩
    exact .inl ⟨(_,()),rfl,⟨rfl,rfl,rfl⟩,hk _ (Ext.push _ _)⟩
theorem Znu:(Tryd.prog.info? 43).map (·.size)=some 2:=by kernel_rfl
set_option maxHeartbeats 2000000 in
set_option maxRecDepth 100000 in
theorem ZlY {b:Nat} {w:World} (h0:w.cell? ⟨b,0,none⟩=some (.pointer (some ⟨b,0,none⟩))) :
    Calls Tryd.prog 45 #[.pointer (some ⟨b,0,none⟩)] w fun e w'=>e = .returned (.tuple #[])∧w'=w:=by
  obtain ⟨j,hj,_⟩:=Option.map_eq_some_iff.1 Znu
  go_enter Tryd.func45,Tryd.ntmps45
  go_wp2
  rw [Lib.run_neq_ptr_same w _ Tryd.underlying40 hj]
  go_wp2
  go_end0
  exact ⟨rfl,rfl⟩
set_option maxHeartbeats 2000000 in
set_option maxRecDepth 100000 in
theorem Zkv {b:Nat} {T:TypeId} {w:World} (hT:T=43∨T=45) (h0:w.cell? ⟨b,0,none⟩=some (.pointer none)) (hsh:w.shape? b=some (T,2)) (hfz:w.frozen? ⟨b,0,none⟩=false) :
    Calls Tryd.prog 45 #[.pointer (some ⟨b,0,none⟩)] w fun e w'=>e = .returned (.tuple #[])∧w'=w.setCell ⟨b,0,none⟩ (.pointer (some ⟨b,0,none⟩)):=by
  have hl:liesAt Tryd.prog Tryd.prog.depth T (2 / Tryd.prog.cellsOf T) 0 43 1=true:=by rcases hT with rfl | rfl<;>kernel_rfl
  obtain ⟨j,hj,hjs⟩:=Option.map_eq_some_iff.1 Znu
  go_enter Tryd.func45,Tryd.ntmps45
  go_wp2
  rw [Lib.run_to_unsafe w ⟨b,0,none⟩ Tryd.underlying40 Tryd.underlying95 hj (by rw [hjs];decide) hsh (Nat.zero_lt_succ 1)]
  simp only [Result.andThen]
  rw [Oper.upon_value]
  go_wp2
  rw [run_callFunc_extern Tryd.func55 (by kernel_rfl) (by kernel_rfl) (by kernel_rfl) (e:=Extern.AbiNoEscape.same) (by kernel_rfl)]
  rw [Lib.run_noEscape]
  simp only [Result.andThen]
  rw [Oper.upon_value]
  go_wp2
  rw [Lib.run_from_unsafe w ⟨b,0,none⟩ Tryd.underlying95 Tryd.underlying40 hj hsh hl]
  simp only [Result.andThen]
  rw [Oper.upon_value]
  go_wp2
  go_end0
  exact ⟨rfl,rfl⟩
noncomputable def ZaL:Zh:=⟨[.one (.P)],[],fun t K _ h=>Zz t.1 (fun h=>K (()) h) h⟩
theorem Yx:Zx Tryd.prog 45 ZaL where
  named:=⟨_,Tryd.func45,by kernel_rfl,by kernel_rfl⟩
  calls t K Kp w hk:=by
    obtain ⟨p,u⟩:=t
    obtain ⟨b,c,v,T,hp,hb,hT,hk⟩:=hk
    dsimp only at hp
    subst hp
    have h0:w.cell? ⟨b,0,none⟩=some c:=by rw [Zhl];unfold Zb.cell;rw [hb];rfl
    rcases hk with ⟨rfl,hk⟩ | ⟨rfl,hk⟩
    ·refine (Zkv hT h0 (by unfold World.shape?;rw [hb];rfl) (by unfold World.frozen?;rw [hb];rfl)).mono ?_
     rintro e w' ⟨rfl,rfl⟩
     rw [ZfX]
     exact .inl ⟨(),rfl,⟨rfl,rfl,rfl⟩,hk⟩
    ·refine (ZlY h0).mono ?_
     rintro e w' ⟨rfl,rfl⟩
     exact .inl ⟨(),rfl,⟨rfl,rfl,rfl⟩,hk⟩
set_option maxHeartbeats 2000000 in
set_option maxRecDepth 100000 in
theorem ZjT {b g cap:Nat} {p:Value} {T:TypeId} {cur:Array Value} {fz:Nat × Nat} {l:List UInt8} {w:World} (hbk:w.heap[b]?=some (.cells #[p,.slice (some ⟨g,0,none⟩) l.length cap] T (0,0)))
    (hg:w.heap[g]?=some (.cells cur 5 fz)) (h0:l≠[]) (hn:l.length≤cap) (hc:cap≤cur.size) (hm:cap<9223372036854775808) (hl:∀ j x,l[j]?=some x→w.cell? ((⟨g,0,none⟩:Addr).add j)=some (.int .u8 x.toNat)) :
    Calls Tryd.prog 12 #[.pointer (some ⟨b,0,none⟩)] w fun e w'=>e = .returned (.string ⟨l.toArray⟩)∧w'=w.drew.freeze ⟨g,0,none⟩ l.length:=by
  have hl0:l.length≠0:=by simpa using h0
  have c1:w.drew.cell? ⟨b,1,none⟩=some (.slice (some ⟨g,0,none⟩) l.length cap):=by
    have:w.drew.heap[b]?=some (.cells #[p,.slice (some ⟨g,0,none⟩) l.length cap] T (0,0)):=hbk
    rw [Lib.cell_of_heap this];rfl
  have hSD:(Builtin.unsafeSliceData_ #[41] 75 #[.slice (some ⟨g,0,none⟩) l.length cap]).run Tryd.prog w.drew = .ok (.pointer (some ⟨g,0,none⟩)) w.drew:=Lib.run_unsafeSliceData_row _ _ _ _ _ _ (by omega)
  have hUS:(Builtin.unsafeString_ #[75,3] 9 #[.pointer (some ⟨g,0,none⟩),.int .i64 l.length]).run Tryd.prog w.drew = .ok (.string ⟨l.toArray⟩) (w.drew.freeze ⟨g,0,none⟩ l.length) :=
    Lib.run_unsafeString_row w.drew 75 3 9 5 Tryd.underlying75 (by kernel_rfl) g cur.size (by have hg':w.drew.heap[g]?=some (.cells cur 5 fz):=hg;simp [World.shape?,hg']) l h0 (by omega) (by omega) hl
  go_enter Tryd.func12,Tryd.ntmps12
  go_wp2
  go_region
  all_goals (go_wp2;go_ret;exact ⟨rfl,rfl⟩)
set_option maxHeartbeats 2000000 in
set_option maxRecDepth 100000 in
theorem Zik {b:Nat} {p:Value} {T:TypeId} {w:World} (hbk:w.heap[b]?=some (.cells #[p,.slice none 0 0] T (0,0))) :
    Calls Tryd.prog 12 #[.pointer (some ⟨b,0,none⟩)] w fun e w'=>e = .returned (.string .empty)∧w'=w.drew:=by
  have c1:w.drew.cell? ⟨b,1,none⟩=some (.slice none 0 0):=by
    have:w.drew.heap[b]?=some (.cells #[p,.slice none 0 0] T (0,0)):=hbk
    rw [Lib.cell_of_heap this];rfl
  have hSD:(Builtin.unsafeSliceData_ #[41] 75 #[.slice none 0 0]).run Tryd.prog w.drew = .ok (.pointer none) w.drew:=rfl
  have hUS:(Builtin.unsafeString_ #[75,3] 9 #[.pointer none,.int .i64 0]).run Tryd.prog w.drew = .ok (.string .empty) w.drew:=rfl
  go_enter Tryd.func12,Tryd.ntmps12
  go_wp2
  go_region
  all_goals (go_wp2;go_ret;exact ⟨rfl,rfl⟩)
theorem Zim {w:World} {a:Addr} {n:Nat}:Fw.Same w (w.drew.freeze a n):=by
  unfold World.freeze
  split<;>exact ⟨rfl,rfl,rfl⟩
theorem ZjS {w:World} {g n:Nat}:Upd (· = g) w.heap (w.drew.freeze ⟨g,0,none⟩ n).heap:=by
  unfold World.freeze
  split
  ·exact Upd.refl _ _
  ·refine ⟨?_,fun j hj hn=>?_⟩
   ·show w.heap.size≤(w.heap.modify g _).size
    simp
   ·show (w.heap.modify g _)[j]?=w.heap[j]?
    rw [Array.getElem?_modify,if_neg (fun h=>hn h.symm)]
noncomputable def Zbn:Zh:=⟨[.one (.P)],[.one (.S)],fun t K _ h=>ZT t.1 (fun r0 h=>K (r0,()) h) h⟩
theorem Xy:Zx Tryd.prog 12 Zbn where
  named:=⟨_,Tryd.func12,by kernel_rfl,by kernel_rfl⟩
  calls t K Kp w hk:=by
    obtain ⟨p,u⟩:=t
    obtain ⟨b,c,x,T,hp,hb,hk⟩:=hk
    obtain ⟨xp,xl,xc⟩:=x
    dsimp only at hp hb hk
    subst hp
    rcases hk with ⟨rfl,rfl,rfl,hk⟩ | ⟨g,s,cur,fz,rfl,hne,rfl,h0,hn,hc,hm,hg,hs,hk⟩
    ·refine (Zik hb).mono ?_
     rintro e w' ⟨rfl,rfl⟩
     exact .inl ⟨(_,()),rfl,⟨rfl,rfl,rfl⟩,hk⟩
    ·have hlen:s.data.toList.length=s.size:=by simp
     rw [← hlen] at hb
     refine (ZjT hb hg (fun h9=>h0 (by rw [← hlen,h9];rfl)) (by omega) hc hm fun j x hx=>?_).mono ?_
     ·have:=Zg8 hs (i:=j) (v:= .int .u8 x.toNat) (by unfold YP;rw [List.getElem?_map,hx];rfl)
      have e:((⟨g,0,none⟩:Addr).add j)=⟨g,0+j,none⟩:=Zfr g 0 j
      rw [e,Zhl]
      exact this
     ·rintro e w' ⟨rfl,rfl⟩
      exact .inl ⟨(_,()),rfl,Zim,hk _ ZjS⟩
end Go.Proofs.YtgiolidekcckiaaDoor
