/- Why a reading is right: regions. -/
import Derived.Sort.LoopGhostIn
import Derived.KernelRfl
import Derived.Laws.Externs
import GoSem.Extern.MapsClone
import Derived.Test.YtpjbjdheeemdiaaGreatDoorPa5
set_option linter.unusedVariables false
set_option linter.unusedSimpArgs false
namespace Go.Fw
open Go
structure Xx (D:List Nat) (a a':Act):Prop where
  tmps:∀ j,j∉D→a'.tmps[j]?=a.tmps[j]?
  marks:mkN∉D→a'.defers=a.defers
theorem Xx.refl (D:List Nat) (a:Act):Xx D a a:=⟨fun _ _=>rfl,fun _=>rfl⟩
theorem Xx.trans {D:List Nat} {a b d:Act} (h:Xx D a b) (h':Xx D b d):Xx D a d:=⟨fun j hj=>(h'.1 j hj).trans (h.1 j hj),fun hj=>(h'.2 hj).trans (h.2 hj)⟩
theorem Xx.mono {D D':List Nat} {a b:Act} (h:Xx D a b) (hs:∀ j,j∈D→j∈D'):Xx D' a b:=⟨fun j hj=>h.1 j fun hj'=>hj (hs j hj'),fun hj=>h.2 fun hj'=>hj (hs _ hj')⟩
theorem put_defers (a:Act) (d:Option Tmp) (v:Value):(a.put d v).defers=a.defers:=by cases d<;>rfl
theorem Xx.put {D:List Nat} {a:Act} {d:Option Tmp} {v:Value} (h:∀ x,d=some x→x∈D):Xx D a (a.put d v):=by
  refine ⟨?_,fun _=>put_defers a d v⟩
  intro j hj
  cases d with
  | none=>rfl
  | some x =>
    have hne:x≠j:=fun he=>hj (he▸h x rfl)
    simp [Act.put,Array.getElem?_setIfInBounds_ne hne]
theorem Zjc {ops:Array Oper} {a:Act} {j t:Nat} (h:ZdR ops.toList j=some t):yielded ops a.tmps j=match a.tmps[t]? with | some (.bool b)=>some b | _=>none:=by
  unfold ZdR at h
  unfold yielded
  rw [show ops.toList[j]?=ops[j]? from by simp] at h
  rw [h]
  rfl
theorem ZgX {ops:Array Oper} {a:Act} {j:Nat} (h:ZdR ops.toList j=none):yielded ops a.tmps j=none:=by
  unfold ZdR at h
  unfold yielded
  rw [show ops.toList[j]?=ops[j]? from by simp] at h
  rw [h]
  rfl
inductive Step (c:Cfg) (one:Oper→Env→Zc→(Env→Zc→Prop)→Prop) (ops:Array Oper) (o:Oper) (a:Act) (h:Zc) (K:Env→Zc→Prop):Prop
  | does (e:Env) (ha:Agr c.n e a) (hw:Region.wanted o (yielded ops a.tmps)=true) (hk:one o e h K)
  | skips (e:Env) (ha:Agr c.n e a) (hw:Region.wanted o (yielded ops a.tmps)=false) (hk:Zjq c o e h K)
theorem ZhX {c:Cfg} {one:Oper→Env→Zc→(Env→Zc→Prop)→Prop} {ops:Array Oper} {o:Oper} {os:List Oper} {e:Env} {a:Act} {h:Zc} {K:Env→Zc→Prop}
    (hag:Agr c.n e a) (hk:Zc0 c one ops.toList (o::os) e h K):Step c one ops o a h (fun e' h'=>Zc0 c one ops.toList os e' h' K):=by
  unfold Zc0 at hk
  split at hk
  ·rename_i hg
   exact .does e hag (by simp [Region.wanted,hg]) hk
  ·rename_i j want hg
   split at hk
   ·rename_i hs
    exact .skips e hag (by simp [Region.wanted,hg,ZgX hs]) hk
   ·rename_i t hs
    have hy:=Zjc (a:=a) hs
    split at hk
    ·rename_i b ht
     have ht':a.tmps[t]?=some (.bool b):=hag.val t _ ht
     rw [ht'] at hy
     split at hk
     ·exact .does e hag (by simp [Region.wanted,hg,hy]) hk
     ·exact .does e hag (by simp [Region.wanted,hg,hy]) hk
     ·exact .skips e hag (by simp [Region.wanted,hg,hy]) hk
     ·exact .skips e hag (by simp [Region.wanted,hg,hy]) hk
    ·rename_i b ht
     have ht':a.tmps[t]?=some (.bool b):=hag.val t _ ht
     rw [ht'] at hy
     split at hk
     ·cases b with
      | true=>exact .does _ (hag.tell ht) (by simp [Region.wanted,hg,hy]) (hk.1 rfl)
      | false=>exact .skips _ (hag.tell ht) (by simp [Region.wanted,hg,hy]) (hk.2 rfl)
     ·cases b with
      | true=>exact .skips _ (hag.tell ht) (by simp [Region.wanted,hg,hy]) (hk.1 rfl)
      | false=>exact .does _ (hag.tell ht) (by simp [Region.wanted,hg,hy]) (hk.2 rfl)
    ·rename_i v hv1 hv2 ht
     have ht':a.tmps[t]?=some v.v:=hag.val t _ ht
     refine .skips e hag ?_ hk
     have:yielded ops a.tmps j=none:=by
       rw [hy,ht']
       cases v with
       | val u=>cases u<;>first | rfl | exact absurd rfl (hv2 _)
       | lit b=>exact absurd rfl (hv1 b)
       | adr b o=>rfl
       | itr t b=>rfl
       | more k v=>rfl
       | over=>rfl
     simp [Region.wanted,hg,this]
    ·exact hk.elim
theorem Zdy {ops:Array Oper} {k:Nat} {o:Oper} {x:Nat} (ho:ops[k]?=some o) (hx:o.dst=some x):x∈ops.toList.filterMap (·.dst):=by
  refine List.mem_filterMap.2 ⟨o,?_,hx⟩
  exact List.mem_of_getElem? (i:=k) (by simpa using ho)
theorem ZhW {c:Cfg} (hc:c.OK) {ops:Array Oper} {Q:Exit→Act→World→Prop}:∀ (l:List Oper) (k:Nat),(∀ j,l[j]?=ops[k+j]?) →
    ∀ {e:Env} {a:Act} {w:World} {K:Env→Zc→Prop},Agr c.n e a→Zc0 c (ZvP c) ops.toList l e w.heap K →
    (∀ e' a' w',Agr c.n e' a'→Same w w'→Xx (ops.toList.filterMap (·.dst)) a a'→K e' w'.heap→Q .normal a' w') →
    (∀ v a' w',Same w w'→Xx (ops.toList.filterMap (·.dst)) a a'→c.pan v w'.heap→Q (.panic [{ v,recovered:=false }]) a' w')→wpOpsIn (fen c.rnd) 0 c.P ops Q (List.range' k l.length) a w
  | [],k,hl,e,a,w,K,hag,hk,hQ,_=>hQ e a w hag (Same.refl w) (Xx.refl _ a) hk
  | o::os,k,hl,e,a,w,K,hag,hk,hQ,hP=>by
    have ho:ops[k]?=some o:=by have:=hl 0;simpa using this.symm
    have hl':∀ j,os[j]?=ops[k+1+j]?:=fun j=>by have:=hl (j+1);rw [show k+1+j=k+(j+1) from by omega,← this];rfl
    have hput:∀ v,Xx (ops.toList.filterMap (·.dst)) a (a.put o.dst v):=fun v=>Xx.put fun x hx=>Zdy ho hx
    simp only [List.length_cons,List.range'_succ,wpOpsIn,ho]
    cases ZhX hag hk with
    | does e hag hw hk =>
      rw [if_pos hw]
      refine ZvO hc hag (fun v w' hs hp=>hP v a w' hs (Xx.refl _ a) hp) hk fun v w' hs hk=>?_
      obtain ⟨e',hag',hk⟩:=ZbN hag hk
      exact ZhW hc os (k+1) hl' hag' hk (fun e'' a'' w'' h1 h2 h3 h4=>hQ e'' a'' w'' h1 (hs.trans h2) ((hput _).trans h3) h4)
        (fun v a'' w'' h2 h3 h4=>hP v a'' w'' (hs.trans h2) ((hput _).trans h3) h4)
    | skips e hag hw hk =>
      rw [if_neg (by simp [hw])]
      obtain ⟨e',hag',hk⟩:=ZbN hag hk
      exact ⟨fun _ _=>trivial,ZhW hc os (k+1) hl' hag' hk (fun e'' a'' w'' h1 h2 h3 h4=>hQ e'' a'' w'' h1 h2 ((hput _).trans h3) h4)
        (fun v a'' w'' h2 h3 h4=>hP v a'' w'' h2 ((hput _).trans h3) h4)⟩
def Cls (w0:World) (h:Zc) (w:World):Prop:=Same w0 w∧w.heap=h
theorem Zos {c:Cfg} {o:Oper} {a:Act} {w0:World} {h:Zc} {v:EV} (hr:∀ w:World,w.heap=h→(execOp a.eval o).run c.P w = .ok (.value v.v) w) :
    ∀ w,Cls w0 h w→o.quietAtIn (fen none) 0 c.P a (Cls w0 h) w v.v:=by
  intro w hw
  unfold Oper.quietAtIn
  rw [hr w hw.2]
  exact ⟨rfl,rfl⟩
theorem Xo {c:Cfg} {o:Oper} {a:Act} {w0:World} {h:Zc} {K:EV→Zc→Prop} {next:Act→Prop} (hq:Zm1 c o a h K) (hn:∀ v,K v h→next (a.put o.dst v.v)) :
    o.quietIn (fen none) 0 c.P a (Cls w0 h) next :=
  let ⟨v,hr,hk⟩:=hq
  ⟨v.v,Zos hr,hn v hk⟩
theorem Zlq {c:Cfg} (hc:c.OK) {e:Env} {a:Act} {w0:World} {h:Zc} {o:Oper} {K:EV→Zc→Prop} {next:Act→Prop} (hag:Agr c.n e a) (hk:Znq c o.op e h K)
    (hn:∀ v,K v h→next (a.put o.dst v.v)):o.quietIn (fen none) 0 c.P a (Cls w0 h) next:=by
  obtain ⟨dst,op,type,pos,after,guard⟩:=o
  cases op
  case move=>exact Xo (Zkc hag hk).q hn
  case assign=>exact Xo (Zgp hag hk).q hn
  case pick=>exact Xo (Zkb hag hk).q hn
  case load=>exact Xo (Zke hag hk) hn
  case nilCheck=>exact Xo (Zev hag hk).q hn
  case binOp=>exact Xo (ZhK hag hk).q hn
  case unOp=>exact Xo (Zka hag hk).q hn
  case slice=>exact Xo (ZhG hag hk).q hn
  case fieldAddr=>exact Xo (ZdY hag hk).q hn
  case field=>exact Xo (ZhI hag hk).q hn
  case indexAddr=>exact Xo (ZdX hag hk).q hn
  case index=>exact Xo (ZhH hag hk).q hn
  case extract=>exact Xo (Zfy hag hk).q hn
  case build=>exact Xo (ZhJ hag hk).q hn
  case makeFunc=>exact Xo (Zew hag hk).q hn
  case convert s d x =>
    simp only [Znq] at hk
    split at hk
    ·rename_i j k hs hd
     exact Xo (Zey hag hs hd hk).q hn
    ·exact hk.elim
  case call cl =>
    unfold Znq at hk
    split at hk<;>first
      | exact hk.elim
      | (rename_i ho;cases ho)
    ·exact Xo (Zpr hag hk) hn
    ·exact Xo (Yc hag (.inr (.inl rfl)) hk).q hn
    ·exact Xo (Yc hag (.inr (.inr (.inl rfl))) hk).q hn
    ·exact Xo (Yc hag (.inr (.inr (.inr rfl))) hk).q hn
    ·rename_i f args ts
     split at hk
     ·rename_i es he
      split at hk
      ·rename_i s t hp
       obtain ⟨hmem,ht⟩:=ZeH hp
       dsimp only at hmem ht
       obtain ⟨r,hm,hk⟩:=hk
       refine ⟨(Zdf (Xg.evs s.res r)).v,fun w hw=>?_,hn _ hk⟩
       have hargs:=ZbF hag he
       obtain ⟨⟨fn,hf,hname,hbody⟩,hcall⟩:=hc.calls _ hmem
       have henter:(execOp a.eval ⟨dst,.call ⟨.value (.func f),args,ts⟩,type,pos,after,guard⟩).run c.P w = .ok (.enter f (args.map a.eval)) w:=by
         simp only [execOp,resolve,Act.eval,Deferred.ofValue,Sem.run_bind,Sem.run_pure,Result.andThen_ok,invoke,callFunc,run_program,hf,hname,Bool.false_eq_true,if_false,hbody]
         simp
       unfold Oper.quietAtIn
       rw [henter]
       refine ⟨rfl,fun h=>(by cases h),Zeg.2 ?_⟩
       rw [hargs,← ZdZ ht]
       refine (hcall t (fun r' h'=>r'=r∧h'=h) (fun _ _=>False) w (by rw [hw.2];exact hm)).mono ?_
       rintro ending w' (⟨r',rfl,hsame,rfl,hh⟩ | ⟨v,rfl,hsame,hk⟩)
       ·exact ⟨rfl,hw.1.trans hsame,hh⟩
       ·exact hk.elim
      ·exact hk.elim
     ·exact hk.elim
  all_goals exact hk.elim
theorem Zkv {c:Cfg} (hc:c.OK) {ops:Array Oper} {w0:World} {Q:Act→Prop} {h:Zc}:∀ (l:List Oper) (k:Nat),(∀ j,l[j]?=ops[k+j]?) →
    ∀ {e:Env} {a:Act} {K:Env→Zc→Prop},Agr c.n e a→Zc0 c (ZpZ c) ops.toList l e h K →
    (∀ e' a',Agr c.n e' a'→Xx (ops.toList.filterMap (·.dst)) a a'→K e' h→Q a')→wpQuietIn (fen none) 0 c.P ops (Cls w0 h) Q l a
  | [],k,hl,e,a,K,hag,hk,hQ=>hQ e a hag (Xx.refl _ a) hk
  | o::os,k,hl,e,a,K,hag,hk,hQ=>by
    have ho:ops[k]?=some o:=by have:=hl 0;simpa using this.symm
    have hl':∀ j,os[j]?=ops[k+1+j]?:=fun j=>by have:=hl (j+1);rw [show k+1+j=k+(j+1) from by omega,← this];rfl
    have hput:∀ v,Xx (ops.toList.filterMap (·.dst)) a (a.put o.dst v):=fun v=>Xx.put fun x hx=>Zdy ho hx
    unfold wpQuietIn
    refine ⟨fun _ _ _ _=>trivial,?_⟩
    cases ZhX hag hk with
    | does e hag hw hk =>
      rw [if_pos hw]
      refine Zlq hc hag hk fun v hk=>?_
      obtain ⟨e',hag',hk⟩:=ZbN hag hk
      exact Zkv hc os (k+1) hl' hag' hk fun e'' a'' h1 h3 h4=>hQ e'' a'' h1 ((hput _).trans h3) h4
    | skips e hag hw hk =>
      rw [if_neg (by simp [hw])]
      obtain ⟨e',hag',hk⟩:=ZbN hag hk
      exact Zkv hc os (k+1) hl' hag' hk fun e'' a'' h1 h3 h4=>hQ e'' a'' h1 ((hput _).trans h3) h4
def Zc6 (c:Cfg) (D:List Nat) (a:Act) (w:World) (Q:Ex→Env→Zc→Prop):Exit→Act→World→Prop
  | .normal,a',w'=>∃ e',Agr c.n e' a'∧Same w w'∧Xx D a a'∧Q .normal e' w'.heap
  | .exit id,a',w'=>∃ e',Agr c.n e' a'∧Same w w'∧Xx D a a'∧Q (.exit id) e' w'.heap
  | .ret,a',w'=>∃ e',Agr c.n e' a'∧Same w w'∧Xx D a a'∧Q .ret e' w'.heap
  | .panic chain,a',w'=>∃ v,chain=[{ v,recovered:=false }]∧Same w w'∧Xx D a a'∧c.pan v w'.heap
  | _,_,_=>False
theorem Zc6.mono {c:Cfg} {D D':List Nat} {a a1:Act} {w w1:World} {Q Q':Ex→Env→Zc→Prop} (hs:Same w w1) (hk:Xx D' a a1) (hd:∀ j,j∈D→j∈D') (hq:∀ x e h,Q x e h→Q' x e h) :
    ∀ x a' w',Zc6 c D a1 w1 Q x a' w'→Zc6 c D' a w Q' x a' w':=by
  intro x a' w' h
  cases x<;>first
    | exact h.elim
    | (obtain ⟨e',h1,h2,h3,h4⟩:=h
       exact ⟨e',h1,hs.trans h2,hk.trans (h3.mono hd),hq _ _ _ h4⟩)
    | (obtain ⟨v,h1,h2,h3,h4⟩:=h
       exact ⟨v,h1,hs.trans h2,hk.trans (h3.mono hd),h4⟩)
theorem Zh0 {c:Cfg} {D:List Nat} {a:Act} {w:World} {Q:Ex→Env→Zc→Prop} {ch:List PanicEntry} {a':Act} {d:Option Tmp} {v:Value} {w':World} (hd:∀ x,d=some x→x∈D) (h:Zc6 c D a w Q (.panic ch) (a'.put d v) w'):Zc6 c D a w Q (.panic ch) a' w':=by
  obtain ⟨v',h1,h2,h3,h4⟩:=h
  have hp:Xx D a' (a'.put d v):=Xx.put hd
  exact ⟨v',h1,h2,⟨fun j hj=>(hp.1 j hj).symm.trans (h3.1 j hj),fun hj=>(hp.2 hj).symm.trans (h3.2 hj)⟩,h4⟩
theorem Zd7 {c:Cfg} {ops:Array Oper} {o:Oper} {e:Env} {a:Act} {A B:Env→Prop} (hag:Agr c.n e a) (hk:Zio ops.toList o e A B) :
    (∃ e',Agr c.n e' a∧Region.wanted o (yielded ops a.tmps)=true∧A e')∨(∃ e',Agr c.n e' a∧Region.wanted o (yielded ops a.tmps)=false∧B e'):=by
  unfold Zio at hk
  split at hk
  ·rename_i hg
   exact .inl ⟨e,hag,by simp [Region.wanted,hg],hk⟩
  ·rename_i j want hg
   split at hk
   ·rename_i hs
    exact .inr ⟨e,hag,by simp [Region.wanted,hg,ZgX hs],hk⟩
   ·rename_i t hs
    have hy:=Zjc (a:=a) hs
    split at hk
    ·rename_i b ht
     have ht':a.tmps[t]?=some (.bool b):=hag.val t _ ht
     rw [ht'] at hy
     split at hk
     ·exact .inl ⟨e,hag,by simp [Region.wanted,hg,hy],hk⟩
     ·exact .inl ⟨e,hag,by simp [Region.wanted,hg,hy],hk⟩
     ·exact .inr ⟨e,hag,by simp [Region.wanted,hg,hy],hk⟩
     ·exact .inr ⟨e,hag,by simp [Region.wanted,hg,hy],hk⟩
    ·rename_i b ht
     have ht':a.tmps[t]?=some (.bool b):=hag.val t _ ht
     rw [ht'] at hy
     split at hk
     ·cases b with
      | true=>exact .inl ⟨_,hag.tell ht,by simp [Region.wanted,hg,hy],hk.1 rfl⟩
      | false=>exact .inr ⟨_,hag.tell ht,by simp [Region.wanted,hg,hy],hk.2 rfl⟩
     ·cases b with
      | true=>exact .inr ⟨_,hag.tell ht,by simp [Region.wanted,hg,hy],hk.1 rfl⟩
      | false=>exact .inl ⟨_,hag.tell ht,by simp [Region.wanted,hg,hy],hk.2 rfl⟩
    ·rename_i v hv1 hv2 ht
     have ht':a.tmps[t]?=some v.v:=hag.val t _ ht
     refine .inr ⟨e,hag,?_,hk⟩
     have:yielded ops a.tmps j=none:=by
       rw [hy,ht']
       cases v with
       | val u=>cases u<;>first | rfl | exact absurd rfl (hv2 _)
       | lit b=>exact absurd rfl (hv1 b)
       | adr b o=>rfl
       | itr t b=>rfl
       | more k v=>rfl
       | over=>rfl
     simp [Region.wanted,hg,this]
    ·exact hk.elim
theorem ZrO {c:Cfg} {e:Env} {a:Act} {h:Zc} {o:Oper} {K:EV→Zc→Prop} (hag:Agr c.n e a) (hkd:Zeo c o.op = .pure) (hk:opP c o.op e h K):Zcx c o a h K:=by
  obtain ⟨dst,op,type,pos,after,guard⟩:=o
  cases op
  case move=>exact Zkc hag hk
  case assign=>exact Zgp hag hk
  case pick=>exact Zkb hag hk
  case nilCheck=>exact Zev hag hk
  case binOp=>exact ZhK hag hk
  case unOp=>exact Zka hag hk
  case slice=>exact ZhG hag hk
  case fieldAddr=>exact ZdY hag hk
  case field=>exact ZhI hag hk
  case indexAddr=>exact ZdX hag hk
  case index=>exact ZhH hag hk
  case extract=>exact Zfy hag hk
  case build=>exact ZhJ hag hk
  case makeFunc=>exact Zew hag hk
  case convert s d x =>
    simp only [Zeo] at hkd
    split at hkd
    ·rename_i j k hs hd
     exact Zey hag hs hd hk
    ·split at hkd<;>cases hkd
    ·cases hkd
  case call cl =>
    obtain ⟨cal,args,ts⟩:=cl
    cases cal with
    | builtin b =>
      cases b<;>first
        | (simp only [Zeo] at hkd;done)
        | (cases hm:Zfw c.P ts with
            | true=>simp [Zeo,hm] at hkd
            | false=>exact Yc hag (.inl ⟨rfl,hm⟩) hk)
        | exact Yc hag (.inr (.inl rfl)) hk
        | exact Yc hag (.inr (.inr (.inl rfl))) hk
        | exact Yc hag (.inr (.inr (.inr rfl))) hk
        | (simp [Zeo] at hkd)
    | _=>simp [Zeo] at hkd
  all_goals simp [Zeo] at hkd
theorem Zqr {c:Cfg} {op:Op} {t:TypeId} {x:Operand} (h:Zeo c op = .load t x):op = .load t x:=by
  cases op<;>simp [Zeo] at h
  case load=>rw [h.1,h.2]
  case convert=>repeat' (first | (cases h;done) | split at h)
  case call cl =>
    obtain ⟨cal,args,ts⟩:=cl
    cases cal with
    | builtin b=>cases b<;>simp at h<;>(cases hm:Zfw c.P ts<;>simp [hm] at h)
    | _=>simp at h
def ZjK (h:Zc) (l:List (Nat × Nat × Value)):Prop:=∀ q,q∈l→h.cell q.1 q.2.1=some q.2.2
theorem Zin {h:Zc} {b o:Nat}:∀ {vs:List Value} {i:Nat},ZjK h (Zl0 b o i vs)↔h.has b (o+i) vs
  | [],i=>⟨fun _=>trivial,fun _ q hq=>(by simp [Zl0] at hq)⟩
  | v::vs,i=>by
    have ih:=Zin (h:=h) (b:=b) (o:=o) (vs:=vs) (i:=i+1)
    unfold ZjK at ih ⊢
    simp only [Zl0,List.forall_mem_cons,ZmX,ih]
    rfl
theorem Zr9 {P:Program} {t:TypeId} {b o:Nat} {K:EV→List (Nat × Nat × Value)→Prop} {h:Zc} (hk:ldH P t h b o K) :
    ∃ v cells,ZjK h cells∧(∀ w:World,ZjK w.heap cells→(loadVar t ⟨b,o,none⟩).run P w = .ok v.v w)∧K v cells:=by
  unfold ldH at hk
  cases hu:P.underlying t with
  | none=>rw [hu] at hk;simp [ZaO,Zif] at hk
  | some d =>
    obtain ⟨i,hi⟩:=Zad P hu
    rw [hu] at hk
    unfold loadVar
    cases ha:ZaO (some d) with
    | true =>
      rw [ha] at hk
      simp only [cond_true] at hk
      cases hl:Nat.beq (Zc4 P 8 t).length (P.cellsOf t) with
      | false=>rw [hl] at hk;exact hk.elim
      | true =>
        rw [hl] at hk
        obtain ⟨vs,hlen,hh,hk⟩:=ZgL hk
        have hs:i.size=vs.length:=by rw [hlen,Nat.eq_of_beq_eq_true hl,ZaR P hi]
        refine ⟨.val (.agg vs.toArray),_,Zin.2 hh,fun w hw=>?_,hk⟩
        have hw:=Zin.1 hw
        simp only [Sem.run_bind,ZcR P w t hu,ha,Result.andThen_ok,if_true,Y5 P w t hi,hs]
        rw [Zce P w b o vs (by simpa using hw)]
        rfl
    | false =>
      rw [ha] at hk
      simp only [cond_false] at hk
      obtain ⟨v,hc,hk,_⟩:=ZfH hk
      refine ⟨v,_,?_,fun w hw=>?_,hk⟩
      ·intro q hq
       simp only [List.mem_singleton] at hq
       subst hq
       exact hc
      have hw:Zc.cell w.heap b o=some v.v:=hw _ (.head _)
      simp only [Sem.run_bind,ZcR P w t hu,ha,Result.andThen_ok,Bool.false_eq_true,if_false]
      exact Zd0 P w hw _
theorem ZpC {c:Cfg} {op:Op} {x:Operand} (h:Zeo c op = .text x):∃ s d e,op = .convert s d x∧c.P.underlying s=some (.slice e)∧c.P.underlying d=some .string∧c.P.underlying e=some (.int .u8):=by
  cases op<;>simp [Zeo] at h
  case convert s d y =>
    split at h
    ·cases h
    ·rename_i e hs hd
     split at h
     ·rename_i he
      cases h
      exact ⟨s,d,e,rfl,hs,hd,he⟩
     ·cases h
    ·cases h
  case call cl =>
    obtain ⟨cal,args,ts⟩:=cl
    cases cal with
    | builtin b=>cases b<;>simp at h<;>(cases hm:Zfw c.P ts<;>simp [hm] at h)
    | _=>simp at h
theorem ZgN {h:Zc}:∀ {l:List (Nat × Nat × Value)},Za1 h l↔ZjK h l
  | []=>⟨fun _ q hq=>(by cases hq),fun _=>trivial⟩
  | (b,o,v)::r=>by
    have ih:=ZgN (h:=h) (l:=r)
    unfold ZjK at ih ⊢
    simp only [Za1,List.forall_mem_cons,ih]
def Zc1 (hd:Zei):Zg4:=hd.map fun x=>(x.1,fun w=>x.2 w.heap)
theorem ZjL {w:World} {K:Prop}:∀ {hd:Zei},Zt1 w.heap hd K→(Zc1 hd).all w∧K
  | [],hk=>⟨fun q hq=>(by cases hq),hk⟩
  | x::r,hk=>by
    obtain ⟨h1,hk⟩:=hk
    obtain ⟨h2,hk⟩:=ZjL (hd:=r) hk
    refine ⟨fun q hq=>?_,hk⟩
    rcases List.mem_cons.1 hq with rfl | hq
    ·exact h1
    ·exact h2 q hq
def nxt (ops:Array Oper) (L:Zg4) (j:Nat):Zg4 :=
  match ops[j]? with
  | some o=>L.filter fun p=> !Zek p.1 o.after.toList
  | none=>L
theorem Zdw (ops:Array Oper):Next ops (nxt ops) where
  mem L j p hp:=by
    unfold nxt at hp
    split at hp
    ·exact (List.mem_filter.1 hp).1
    ·exact hp
  keep L j p hp hw:=by
    unfold nxt
    split
    ·rename_i o ho
     refine List.mem_filter.2 ⟨hp,?_⟩
     cases hb:Zek p.1 o.after.toList with
     | false=>rfl
     | true =>
       obtain ⟨e,he,h1,h2⟩:=Zgn.1 hb
       exact absurd ⟨o,ho,e,by simpa using he,h1,h2⟩ hw
    ·exact hp
  same L L' j p hp hl:=by
    unfold nxt at hp ⊢
    split at hp
    ·rename_i o ho
     exact List.mem_filter.2 ⟨hl,(List.mem_filter.1 hp).2⟩
    ·exact hl
theorem ZrZ {ops:Array Oper} {j:Nat} {o:Oper} (ho:ops[j]?=some o) (hd:Zei):nxt ops (Zc1 hd) j=Zc1 (ZoS o hd):=by
  unfold nxt
  rw [ho]
  simp only
  induction hd with
  | nil=>rfl
  | cons x r ih =>
    have e:Zc1 (x::r)=(x.1,fun w:World=>x.2 w.heap)::Zc1 r:=rfl
    rw [e,List.filter_cons]
    simp only [ZoS]
    cases hb:Zek x.1 o.after.toList with
    | true=>simp only [Bool.not_true,Bool.false_eq_true,if_false,cond_true];exact ih
    | false=>simp only [Bool.not_false,if_true,cond_false];rw [ih];rfl
theorem ZoA {ops:Array Oper} {m:Nat} {listed:Array Bool} (hr:Rel ops m listed) (h:Zqi m 0 ops.toList=true):Region.ready .any ops listed=[]:=by
  have key:∀ (os:List Oper) (k:Nat),Zqi m k os=true→∀ j o,os[j]?=some o→Zak m (k+j) o=false:=by
    intro os
    induction os with
    | nil=>intro k _ j o ho;simp at ho
    | cons x os ih =>
      intro k h j o ho
      simp only [Zqi] at h
      cases hx:Zak m k x with
      | true=>rw [hx] at h;cases h
      | false =>
        rw [hx] at h
        cases j with
        | zero=>simp at ho;subst ho;exact hx
        | succ j =>
          have:=ih (k+1) h j o (by simpa using ho)
          rw [show k+(j+1)=k+1+j from by omega]
          exact this
  apply List.eq_nil_iff_forall_not_mem.2
  intro j hj
  obtain ⟨o,ho,hb⟩:=hr.ready.1 hj
  have:=key _ 0 h j o (by simpa using ho)
  rw [Nat.zero_add,hb] at this
  cases this
section
variable {rn:Option Nat} {P:Program} {ops:Array Oper} {Q:Exit→Act→World→Prop} {i m:Nat} {o:Oper} {listed:Array Bool} {a:Act} {w:World} {L:Zg4} {fuel:Nat} {v:Value} {S:World→Prop}
theorem Zf8 (ho:ops[i]?=some o):i<ops.size:=by
  rcases Nat.lt_or_ge i ops.size with h | h
  ·exact h
  ·rw [Array.getElem?_eq_none h] at ho;cases ho
theorem Zp8 (hr:Rel ops m listed) (h:ZgG m i 0 ops.toList=true):∀ j,j∈Region.ready .any ops listed→j=i:=by
  intro j hj
  obtain ⟨o',ho',hb⟩:=hr.ready.1 hj
  have:=ZgF h j o' (by simpa using ho') (by rw [Nat.zero_add];exact hb)
  rw [Nat.zero_add] at this
  exact this
theorem Zt8 (hr:Rel ops m listed) (h:Zhe ops o m i 0 ops.toList=true) :
    ∀ j oj,ops[j]?=some oj→j≠i→listed.getD j true=false→(∀ e∈oj.after,Region.binds .any e=true→e.on≠i)→o.apart ops oj=true:=by
  intro j oj hj hne hl hno
  have hlt:=Zf8 hj
  refine ZjN h j oj (by simpa using hj) (by rw [Nat.zero_add];exact hne) ?_ hno
  rw [Nat.zero_add,← hr.bit' hlt]
  exact hl
theorem Znj (hnd:Zdk ops) (ho:ops[i]?=some o) (hsel:Region.noSelect ops=true) (hQ:∀ c a v w,Q (.panic c) (a.put o.dst v) w→Q (.panic c) a w) (hr:Rel ops m listed) (hm:Zak m i o=true) (hf:Zhe ops o m i 0 ops.toList=true)
    (hy:YieldsIf P ops S o v a) (hS:S w) (hall:Zg4.all L w) (h:wpK rn P ops Q (nxt ops) ((i,S)::L) fuel (listed.setIfInBounds i true) (a.put o.dst v) w) :
    wpK rn P ops Q (nxt ops) L (fuel+1) listed a w :=
  Zpl hnd (Zdw ops) ho (Region.noSelect_spec hsel) (fun c a w h=>hQ c a v w h) fuel L listed a w (Zt8 hr hf) (hr.ready.2 ⟨o,ho,hm⟩) hy hS hall h
theorem Zkg (hnd:Zdk ops) (ho:ops[i]?=some o) (hr:Rel ops m listed) (hm:Zak m i o=true) (hf:ZgG m i 0 ops.toList=true)
    (hy:YieldsIf P ops S o v a) (hS:S w) (hall:Zg4.all L w) (h:wpK rn P ops Q (nxt ops) L fuel (listed.setIfInBounds i true) (a.put o.dst v) w) :
    wpK rn P ops Q (nxt ops) L (fuel+1) listed a w:=by
  refine Znb (Zp8 hr hf) (hr.ready.2 ⟨o,ho,hm⟩) (Zdt hnd ho hy hS ⟨fun p hp=>hall p ((Zdw ops).mem _ _ _ hp),?_⟩)
  exact Ze4 (Zdw ops) _ _ _ _ _ _ (fun p hp=> .inl ((Zdw ops).mem _ _ _ hp)) h
theorem Zkf (hnd:Zdk ops) (ho:ops[i]?=some o) (hsel:Region.noSelect ops=true) (hQ:∀ c a v w,Q (.panic c) (a.put o.dst v) w→Q (.panic c) a w) (hr:Rel ops m listed) (hm:Zak m i o=true)
    (hf:Zhe ops o m i 0 ops.toList=true∨ZgG m i 0 ops.toList=true)
    (hy:YieldsIf P ops (fun _=>True) o v a) (hall:Zg4.all L w) (h:wpK rn P ops Q (nxt ops) L fuel (listed.setIfInBounds i true) (a.put o.dst v) w) :
    wpK rn P ops Q (nxt ops) L (fuel+1) listed a w:=by
  rcases hf with hf | hf
  ·refine Znj hnd ho hsel hQ hr hm hf hy trivial hall ?_
   refine Ze4 (Zdw ops) _ _ _ _ _ _ (fun p hp=>?_) h
   rcases List.mem_cons.1 hp with rfl | hp
   ·exact .inr fun _=>trivial
   ·exact .inl hp
  ·exact Zkg hnd ho hr hm hf hy trivial hall h
end
theorem ZrX {ops:Array Oper} {m i l:Nat} {listed:Array Bool} (hr:Rel ops m listed) (h:ZjB m i l 0 ops.toList=true):∀ j,j∈Region.ready .any ops listed→j=i∨j=l:=by
  intro j hj
  obtain ⟨o',ho',hb⟩:=hr.ready.1 hj
  have:=ZfD h j o' (by simpa using ho') (by rw [Nat.zero_add];exact hb)
  rw [Nat.zero_add] at this
  exact this
section
variable {c:Cfg} {ops:Array Oper} {D:List Nat} {a0:Act} {w0:World} {Qx:Ex→Env→Zc→Prop}
def Zer (c:Cfg) (ops:Array Oper) (D:List Nat) (a0:Act) (w0:World) (Qx:Ex→Env→Zc→Prop) (fuel m:Nat) (rest:Zei→Env→Zc→Prop):Prop :=
  ∀ (listed:Array Bool) (hd:Zei) (e:Env) (a:Act) (w:World),Rel ops m listed→Agr c.n e a→Same w0 w→Xx D a0 a→(Zc1 hd).all w →
    rest hd e w.heap→wpK c.rnd c.P ops (Zc6 c D a0 w0 Qx) (nxt ops) (Zc1 hd) fuel listed a w
theorem ZmQ (hnd:Zdk ops) (hc:c.OK) (hD:D=ops.toList.filterMap (·.dst)) {i m fuel:Nat} {o:Oper} {hd:Zei} {e:Env} {a:Act} {w:World} {listed:Array Bool} {rest:Zei→Env→Zc→Prop}
    (ho:ops[i]?=some o) (hr:Rel ops m listed) (hag:Agr c.n e a) (hs:Same w0 w) (hkp:Xx D a0 a) (hall:(Zc1 hd).all w) (ih:Zer c ops D a0 w0 Qx fuel (ZiS m i) rest) (hk:Zui c ops o hd e w.heap rest) :
    wpOpIn (fen c.rnd) 0 c.P ops (Zc6 c D a0 w0 Qx) i (fun a' w'=>(nxt ops (Zc1 hd) i).all w'∧wpK c.rnd c.P ops (Zc6 c D a0 w0 Qx) (nxt ops) (nxt ops (Zc1 hd) i) fuel (listed.setIfInBounds i true) a' w') a w:=by
  have hr':=hr.set (Zf8 ho)
  have hput:∀ v,Xx D a0 (a.put o.dst v):=fun v=>hkp.trans (Xx.put fun x hx=>hD▸Zdy ho hx)
  unfold Zui at hk
  rcases Zd7 hag hk with ⟨e1,hag1,hw,hk⟩ | ⟨e1,hag1,hw,hk⟩
  ·rw [ZrZ ho]
   unfold Go.wpOpIn
   simp only [ho,hw,if_true]
   refine Zp7 hc hag1 (fun v w' hs' hp=>⟨v,rfl,hs.trans hs',hkp,hp⟩) hk fun v w' hs' hk=>?_
   obtain ⟨e',hag',hk⟩:=ZbN hag1 hk
   obtain ⟨hall',hk⟩:=ZjL hk
   exact ⟨hall',ih _ _ e' _ w' hr' hag' (hs.trans hs') (hput _) hall' hk⟩
  ·obtain ⟨e',hag',hk⟩:=ZbN hag1 hk
   have hy:YieldsIf c.P ops (fun _=>True) o undef a:= .inr ⟨hw,rfl⟩
   refine Zdt hnd ho hy trivial ⟨fun p hp=>hall p ((Zdw ops).mem _ _ _ hp),?_⟩
   exact Ze4 (Zdw ops) _ _ _ _ _ _ (fun p hp=> .inl ((Zdw ops).mem _ _ _ hp)) (ih _ hd e' _ w hr' hag' hs (hput _) hall hk)
theorem Zt6 (hnd:Zdk ops) (hD:D=ops.toList.filterMap (·.dst)) {i m fuel:Nat} {o:Oper} {hd:Zei} {e:Env} {a:Act} {w:World} {listed:Array Bool} {rest:Zei→Env→Zc→Prop}
    (ho:ops[i]?=some o) (hr:Rel ops m listed) (hag:Agr c.n e a) (hs:Same w0 w) (hkp:Xx D a0 a) (hall:(Zc1 hd).all w) (ih:Zer c ops D a0 w0 Qx fuel (ZiS m i) rest)
    (hq:∀ {e:Env} {K:EV→Zc→Prop},Agr c.n e a→opP c o.op e w.heap K→Zm1 c o a w.heap K) (hm:Zak m i o=true) (hf:ZgG m i 0 ops.toList=true)
    (hk:Zwc c ops o hd e w.heap rest):wpK c.rnd c.P ops (Zc6 c D a0 w0 Qx) (nxt ops) (Zc1 hd) (fuel+1) listed a w:=by
  have hr':=hr.set (Zf8 ho)
  have hput:∀ v,Xx D a0 (a.put o.dst v):=fun v=>hkp.trans (Xx.put fun x hx=>hD▸Zdy ho hx)
  unfold Zwc at hk
  rcases Zd7 hag hk with ⟨e1,hag1,hw,hk⟩ | ⟨e1,hag1,hw,hk⟩
  ·obtain ⟨v,hrun,hk⟩:=hq hag1 hk
   obtain ⟨e',hag',hk⟩:=ZbN hag1 hk
   exact Zkg hnd (S:=fun w'=>w'.heap=w.heap) ho hr hm hf (v:=v.v) (.inl ⟨hw,fun w' hw'=>hrun w' hw'⟩) rfl hall (ih _ hd e' _ w hr' hag' hs (hput _) hall hk)
  ·obtain ⟨e',hag',hk⟩:=ZbN hag1 hk
   exact Zkg hnd (S:=fun _=>True) ho hr hm hf (v:=undef) (.inr ⟨hw,rfl⟩) trivial hall (ih _ hd e' _ w hr' hag' hs (hput _) hall hk)
theorem Zng (hnd:Zdk ops) (hD:D=ops.toList.filterMap (·.dst)) (hsel:Region.noSelect ops=true) {i m fuel:Nat} {o:Oper} {hd:Zei} {e:Env} {a:Act} {w:World} {listed:Array Bool} {rest:Zei→Env→Zc→Prop} {A:Env→Prop}
    (ho:ops[i]?=some o) (hr:Rel ops m listed) (hag:Agr c.n e a) (hs:Same w0 w) (hkp:Xx D a0 a) (hall:(Zc1 hd).all w) (ih:Zer c ops D a0 w0 Qx fuel (ZiS m i) rest)
    (hm:Zak m i o=true) (hf:Zhe ops o m i 0 ops.toList=true)
    (hA:∀ e1,Agr c.n e1 a→A e1→∃ (v:EV) (S:Zc→Prop),S w.heap∧(∀ w':World,S w'.heap→(execOp a.eval o).run c.P w' = .ok (.value v.v) w')∧Zl5 c.n e1 o.dst v fun e'=>rest ((i,S)::hd) e' w.heap)
    (hk:Zio ops.toList o e A (fun e=>Zl5 c.n e o.dst (.val undef) fun e'=>rest hd e' w.heap)):wpK c.rnd c.P ops (Zc6 c D a0 w0 Qx) (nxt ops) (Zc1 hd) (fuel+1) listed a w:=by
  have hr':=hr.set (Zf8 ho)
  have hput:∀ v,Xx D a0 (a.put o.dst v):=fun v=>hkp.trans (Xx.put fun x hx=>hD▸Zdy ho hx)
  have hQ:∀ c' a' v w',Zc6 c D a0 w0 Qx (.panic c') (a'.put o.dst v) w'→Zc6 c D a0 w0 Qx (.panic c') a' w':=fun _ _ _ _ h=>Zh0 (fun x hx=>by rw [hD];exact Zdy ho hx) h
  rcases Zd7 hag hk with ⟨e1,hag1,hw,hk⟩ | ⟨e1,hag1,hw,hk⟩
  ·obtain ⟨v,S,hS,hrun,hk⟩:=hA e1 hag1 hk
   obtain ⟨e',hag',hk⟩:=ZbN hag1 hk
   refine Znj hnd (S:=fun w=>S w.heap) ho hsel hQ hr hm hf (v:=v.v) (.inl ⟨hw,fun w' hw'=>hrun w' hw'⟩) hS hall ?_
   refine ih _ ((i,S)::hd) e' _ w hr' hag' hs (hput _) ?_ hk
   intro q hq
   rcases List.mem_cons.1 hq with rfl | hq
   ·exact hS
   ·exact hall q hq
  ·obtain ⟨e',hag',hk⟩:=ZbN hag1 hk
   exact Zkf hnd ho hsel hQ hr hm (.inl hf) (v:=undef) (.inr ⟨hw,rfl⟩) hall (ih _ hd e' _ w hr' hag' hs (hput _) hall hk)
theorem Zfd (hnd:Zdk ops) (hc:c.OK) (hD:D=ops.toList.filterMap (·.dst)) (hsel:Region.noSelect ops=true) {K:Env→Zc→Prop} (hKQ:∀ e' h',K e' h'→Qx .normal e' h') :
    ∀ (l:OrdT) (fuel m:Nat),l.depth≤fuel→Zer c ops D a0 w0 Qx fuel m (Zlu c ops K l m)
  | .done,fuel,m,hf=>by
    intro listed hd e a w hr hag hs hkp hall hk
    unfold Zlu at hk
    obtain ⟨h0,hk⟩:=Zbt hk
    exact Zrw (ZoA hr h0) ⟨e,hag,hs,hkp,hKQ _ _ hk⟩ fuel
  | .fork i r j s,0,m,hf=>by simp [OrdT.depth] at hf
  | .take i r,0,m,hf=>by simp [OrdT.depth] at hf
  | .fork i r j s,fuel+1,m,hf=>by
    have hf1:r.depth≤fuel:=by
      have h1:Nat.max r.depth s.depth+1≤fuel+1:=hf
      have h2:r.depth≤Nat.max r.depth s.depth:=Nat.le_max_left _ _
      omega
    have hf2:s.depth≤fuel:=by
      have h1:Nat.max r.depth s.depth+1≤fuel+1:=hf
      have h2:s.depth≤Nat.max r.depth s.depth:=Nat.le_max_right _ _
      omega
    have ih1:=Zfd hnd hc hD hsel hKQ r fuel (ZiS m i) hf1
    have ih2:=Zfd hnd hc hD hsel hKQ s fuel (ZiS m j) hf2
    intro listed hd e a w hr hag hs hkp hall hk
    unfold Zlu at hk
    split at hk
    ·rename_i o p ho hp
     obtain ⟨hb,hk1,hk2⟩:=Zbt hk
     simp only [Bool.and_eq_true] at hb
     exact Ztz (ZrX hr hb.2.2) (hr.ready.2 ⟨o,ho,hb.1⟩) (ZmQ hnd hc hD ho hr hag hs hkp hall ih1 hk1) (ZmQ hnd hc hD hp hr hag hs hkp hall ih2 hk2)
    ·exact hk.elim
  | .take i r,fuel+1,m,hf=>by
    have hf1:r.depth≤fuel:=Nat.le_of_succ_le_succ hf
    have ih:=Zfd hnd hc hD hsel hKQ r fuel (ZiS m i) hf1
    intro listed hd e a w hr hag hs hkp hall hk
    unfold Zlu at hk
    split at hk
    ·exact hk.elim
    ·rename_i o ho
     have eff:Zak m i o=true→ZgG m i 0 ops.toList=true→Zui c ops o hd e w.heap (Zlu c ops K r (ZiS m i))→wpK c.rnd c.P ops (Zc6 c D a0 w0 Qx) (nxt ops) (Zc1 hd) (fuel+1) listed a w :=
       fun h1 h2 hk=>Znb (Zp8 hr h2) (hr.ready.2 ⟨o,ho,h1⟩) (ZmQ hnd hc hD ho hr hag hs hkp hall ih hk)
     have hr':=hr.set (Zf8 ho)
     have hput:∀ v,Xx D a0 (a.put o.dst v):=fun v=>hkp.trans (Xx.put fun x hx=>hD▸Zdy ho hx)
     have hQ:∀ c' a' v w',Zc6 c D a0 w0 Qx (.panic c') (a'.put o.dst v) w'→Zc6 c D a0 w0 Qx (.panic c') a' w':=fun _ _ _ _ h=>Zh0 (fun x hx=>by rw [hD];exact Zdy ho hx) h
     split at hk
     ·rename_i hkd
      obtain ⟨hb,hk⟩:=Zbt hk
      simp only [Bool.and_eq_true,Bool.or_eq_true] at hb
      unfold Zwc at hk
      rcases Zd7 hag hk with ⟨e1,hag1,hw,hk⟩ | ⟨e1,hag1,hw,hk⟩
      ·obtain ⟨v,hrun,hk⟩:=ZrO hag1 hkd hk
       obtain ⟨e',hag',hk⟩:=ZbN hag1 hk
       exact Zkf hnd ho hsel hQ hr hb.1 hb.2 (v:=v.v) (.inl ⟨hw,fun w _=>hrun w trivial⟩) hall (ih _ hd e' _ w hr' hag' hs (hput _) hall hk)
      ·obtain ⟨e',hag',hk⟩:=ZbN hag1 hk
       exact Zkf hnd ho hsel hQ hr hb.1 hb.2 (v:=undef) (.inr ⟨hw,rfl⟩) hall (ih _ hd e' _ w hr' hag' hs (hput _) hall hk)
     ·rename_i t x hkd
      have hop:=Zqr hkd
      cases hf1:(Zak m i o&&Zhe ops o m i 0 ops.toList) with
      | true =>
        rw [hf1] at hk
        simp only [Bool.and_eq_true] at hf1
        simp only [cond_true] at hk
        refine Zng hnd hD hsel ho hr hag hs hkp hall ih hf1.1 hf1.2 (fun e1 hag1 hk=>?_) hk
        split at hk
        ·rename_i y hy
         obtain ⟨b,p,hp,hk⟩:=Zfl hk
         obtain ⟨v,cells,hcells,hrun,hk⟩:=Zr9 hk
         refine ⟨v,fun h'=>Za1 h' cells,ZgN.2 hcells,fun w' hw'=>?_,hk⟩
         obtain ⟨dst,op,type,pos,after,guard⟩:=o
         simp only at hop
         subst hop
         refine ZpR (s:=Instr.loadAt t (a.eval x)) ?_
         rw [hag1.ev hy,hp]
         exact Zju (hrun w' (ZgN.1 hw'))
        ·exact hk.elim
      | false =>
        rw [hf1] at hk
        simp only [cond_false] at hk
        obtain ⟨hb,hk⟩:=Zbt hk
        simp only [Bool.and_eq_true] at hb
        refine Zt6 hnd hD ho hr hag hs hkp hall ih (fun {e K} h1 h2=>?_) hb.1 hb.2 hk
        obtain ⟨dst,op,type,pos,after,guard⟩:=o
        simp only at hop
        subst hop
        exact Zke h1 h2
     ·rename_i x hkd
      obtain ⟨s,d,el,hop,hus,hud,hue⟩:=ZpC hkd
      cases hf1:(Zak m i o&&Zhe ops o m i 0 ops.toList) with
      | true =>
        rw [hf1] at hk
        simp only [Bool.and_eq_true] at hf1
        simp only [cond_true] at hk
        refine Zng hnd hD hsel ho hr hag hs hkp hall ih hf1.1 hf1.2 (fun e1 hag1 hk=>?_) hk
        split at hk
        ·rename_i p l n hy
         obtain ⟨str,hrun,hk⟩:=Zmo (P:=c.P) (w:=w) (x:=⟨p,l,n⟩) (K:=fun s=>b2s ⟨p,l,n⟩ w.heap (fun s'=>s'=s)∧Zl5 c.n e1 o.dst (.val (.string s)) fun e'=>Zlu c ops K r (ZiS m i) ((i,fun h'=>b2s ⟨p,l,n⟩ h' fun s'=>s'=s)::hd) e' w.heap) (by
           rcases hk with ⟨h0,hk⟩ | ⟨b,o2,s,h1,h2,h3,hk⟩
           ·exact .inl ⟨h0,.inl ⟨h0,rfl⟩,hk⟩
           ·exact .inr ⟨b,o2,s,h1,h2,h3,.inr ⟨b,o2,s,h1,h2,h3,rfl⟩,hk⟩)
         refine ⟨.val (.string str),fun h'=>b2s ⟨p,l,n⟩ h' fun s'=>s'=str,hk.1,fun w' hw'=>?_,hk.2⟩
         obtain ⟨s2,hrun2,rfl⟩:=Zmo (P:=c.P) (w:=w') hw'
         obtain ⟨dst,op,type,pos,after,guard⟩:=o
         simp only at hop
         subst hop
         refine ZpR (s:=convert s d (a.eval x)) ?_
         rw [hag1.ev hy]
         exact (ZeF hus hud hue).trans hrun2
        ·exact hk.elim
      | false =>
        rw [hf1] at hk
        simp only [cond_false] at hk
        obtain ⟨hb,hk⟩:=Zbt hk
        simp only [Bool.and_eq_true] at hb
        exact eff hb.1 hb.2 hk
     ·obtain ⟨hb,hk⟩:=Zbt hk
      simp only [Bool.and_eq_true] at hb
      exact eff hb.1 hb.2 hk
end
theorem ZjI {e:Env}:∀ {slots:List Nat} {es:List EV} {vs:List EV} {j:Nat} {v:EV},Zop e slots=some es→es.map EV.v=vs.map EV.v→ZeN slots vs j=some v→∃ u,e j=some u∧u.v=v.v
  | [],es,vs,j,v,_,_,h=>by simp [ZeN] at h
  | s::ss,es,vs,j,v,hr,hm,h=>by
    simp only [Zop] at hr
    split at hr
    ·rename_i u us hu hus
     simp only [Option.some.injEq] at hr
     subst hr
     cases vs with
     | nil=>simp [ZeN] at h
     | cons v' vs =>
       simp only [List.map_cons,List.cons.injEq] at hm
       simp only [ZeN] at h
       cases hb:Nat.beq j s with
       | true =>
         have:=Nat.eq_of_beq_eq_true hb
         subst this
         rw [hb] at h
         simp only [cond_true,Option.some.injEq] at h
         subst h
         exact ⟨u,hu,hm.1⟩
       | false =>
         rw [hb] at h
         exact ZjI hus hm.2 h
    ·cases hr
theorem ZkK {c:Cfg} {slots:List Nat} {tys:List VT} {kill:List (Nat × Nat)} {e e':Env} {a a':Act} {D:List Nat} {t:Xg tys} (hag:Agr c.n e a) (hag':Agr c.n e' a') (hkeep:Xx D a a')
    (hin:D.all (fun j=>bif Nat.beq j mkN then false else ZiN slots j||ZlF kill j)=true) (hr:Zms slots tys e'=some t) (hall:∀ j,ZiN slots j=true→∃ v,ZeN slots (Xg.evs tys t) j=some v) :
    Agr c.n (ZqR slots (Xg.evs tys t) kill e) a':=by
  have hmk:mkN∉D:=fun h=>by
    have:=List.all_eq_true.1 hin mkN h
    rw [show Nat.beq mkN mkN=true from Nat.beq_refl mkN] at this
    cases this
  refine ⟨hag'.size,(hkeep.2 hmk).trans hag.defers,fun j v hj=>?_⟩
  unfold ZqR at hj
  dsimp only at hj
  unfold Zms at hr
  split at hr
  ·rename_i es hes
   have hm:=ZdZ hr
   cases hl:ZeN slots (Xg.evs tys t) j with
   | some u =>
     rw [hl] at hj
     simp only [Option.some.injEq] at hj
     subst hj
     obtain ⟨x,hx,hv⟩:=ZjI hes hm.symm hl
     rw [← hv]
     exact hag'.val j x hx
   | none =>
     rw [hl] at hj
     simp only at hj
     cases hk:ZlF kill j with
     | true=>rw [hk] at hj;cases hj
     | false =>
       rw [hk] at hj
       simp only [cond_false] at hj
       have hnot:j∉D:=by
         intro hD
         have:=List.all_eq_true.1 hin j hD
         cases hb9:Nat.beq j mkN with
         | true=>rw [hb9] at this;cases this
         | false =>
         rw [hb9,hk,cond_false,Bool.or_false] at this
         obtain ⟨v',hv'⟩:=hall j this
         rw [hl] at hv'
         cases hv'
       rw [hkeep.1 j hnot]
       exact hag.val j v hj
  ·cases hr
theorem ZlD {e:Env}:∀ {slots:List Nat} {es vs:List EV} {j:Nat},Zop e slots=some es→es.map EV.v=vs.map EV.v→ZiN slots j=true→∃ v,ZeN slots vs j=some v
  | [],es,vs,j,_,_,h=>by simp [ZiN] at h
  | s::ss,es,vs,j,hr,hm,h=>by
    simp only [Zop] at hr
    split at hr
    ·rename_i u us hu hus
     simp only [Option.some.injEq] at hr
     subst hr
     cases vs with
     | nil=>simp at hm
     | cons v' vs =>
       simp only [List.map_cons,List.cons.injEq] at hm
       simp only [ZeN]
       simp only [ZiN] at h
       cases hb:Nat.beq j s with
       | true=>exact ⟨v',rfl⟩
       | false =>
         rw [hb] at h
         exact ZlD hus hm.2 h
    ·cases hr
theorem Zlo {slots:List Nat} {tys:List VT} {e:Env} {t:Xg tys} (hr:Zms slots tys e=some t):∀ j,ZiN slots j=true→∃ v,ZeN slots (Xg.evs tys t) j=some v:=by
  intro j hj
  unfold Zms at hr
  split at hr
  ·rename_i es hes
   exact ZlD hes (ZdZ hr).symm hj
  ·cases hr
theorem ZjJ {slots:List Nat} {tys:List VT} {e:Env} {J:Xg tys→Zc→Prop} {h:Zc} (hk:Zqu slots tys e J h):∃ t,Zms slots tys e=some t∧J t h:=by
  unfold Zqu at hk
  split at hk
  ·rename_i t ht
   exact ⟨t,ht,hk⟩
  ·exact hk.elim
theorem Zjs {n:Nat}:∀ {ps:List Tmp} {vs:List EV} {e e1:Env} {a:Act},Agr n e a→Zjt n e ps vs=some e1 →
    Agr n e1 { a with tmps:=(ps.zip (vs.map EV.v)).foldl (fun t x=>t.setIfInBounds x.1 x.2) a.tmps }
  | [],[],e,e1,a,hag,h=>by
    simp only [Zjt,Option.some.injEq] at h
    subst h
    exact hag
  | p::ps,v::vs,e,e1,a,hag,h=>by
    simp only [Zjt] at h
    cases hb:Nat.blt p n with
    | false=>rw [hb] at h;cases h
    | true =>
      rw [hb] at h
      exact Zjs (a:=a.put (some p) v.v) (hag.set hb v) h
  | [],_::_,e,e1,a,hag,h=>by cases h
  | _::_,[],e,e1,a,hag,h=>by cases h
theorem ZpU (ps:Array Tmp) (vs:List Value) (tmps:Array Value):(ps.zip vs.toArray).foldl (fun t x=>t.setIfInBounds x.1 x.2) tmps=(ps.toList.zip vs).foldl (fun t x=>t.setIfInBounds x.1 x.2) tmps:=by
  rw [← Array.foldl_toList,Array.toList_zip]
theorem Xy:∀ (code:Code) (c:Cfg) (_:c.OK) (_:c.P.follows .mixedOrders=true) (ann:Ann) (e:Env) (a:Act) (w:World) (Q:Ex→Env→Zc→Prop),
    Agr c.n e a→wpC c code ann e w.heap Q→code.wpIn (fen c.rnd) 0 c.P (Zc6 c (dstsOf code) a w Q) a w
  | .skip,c,hc,hmixed,ann,e,a,w,Q,hag,hk=>wpIn_skip ⟨e,hag,Same.refl w,Xx.refl _ a,hk⟩
  | .region id ops draw,c,hc,hmixed,ann,e,a,w,Q,hag,hk=>by
    unfold wpC at hk
    cases draw with
    | false =>
      refine wpIn_region ?_
      rw [List.range_eq_range']
      have:=ZhW hc (ops:=ops) (Q:=Zc6 c (dstsOf (.region id ops false)) a w Q) ops.toList 0 (by simp) hag hk (fun e' a' w' h1 h2 h3 h4=>⟨e',h1,h2,h3,h4⟩) (fun v a' w' h2 h3 h4=>⟨v,rfl,h2,h3,h4⟩)
      simpa using this
    | true =>
      simp only at hk
      split at hk
      ·rename_i l
       obtain ⟨hb,hk⟩:=Zbt hk
       simp only [Bool.and_eq_true] at hb
       refine wpIn_region_any hmixed (Zpm (nx:=nxt ops) _ (Zc1 []) _ _ _ ?_)
       exact Zfd (ZoB hb.2.2) hc (D:=dstsOf (.region id ops true)) rfl hb.1 (fun _ _ h=>h) l ops.size 0 (Nat.le_of_ble_eq_true hb.2.1) _ [] e a { w with drawn:=w.drawn+1 } (Rel.zero ops) hag ⟨rfl,rfl,rfl⟩ (Xx.refl _ a) (fun q hq=>(by cases hq)) hk
      ·obtain ⟨hb,hk⟩:=Zbt hk
       simp only [Bool.and_eq_true] at hb
       have hr0:c.rnd=none:=Option.isNone_iff_eq_none.1 hb.1
       rw [hr0]
       refine wpIn_region_quiet (C:=Cls w w.heap) rfl hmixed hb.2 ⟨⟨rfl,rfl,rfl⟩,rfl⟩ ?_
       refine Zkv hc ops.toList 0 (by simp) hag hk fun e' a' h1 h3 h4 w' hw=>⟨e',h1,hw.1,h3,?_⟩
       rw [hw.2]
       exact h4
  | .seq x y,c,hc,hmixed,ann,e,a,w,Q,hag,hk=>by
    have plain:∀ u v:Ann,wpC c x u e w.heap (Zcw (fun e' h'=>wpC c y v e' h' Q) Q)→(Code.seq x y).wpIn (fen c.rnd) 0 c.P (Zc6 c (dstsOf (.seq x y)) a w Q) a w:=by
      intro u v hk
      refine wpIn_seq (wpIn_mono (Xy x c hc hmixed u e a w _ hag hk) ?_)
      intro ex a' w' hp
      cases ex<;>first
        | exact hp.elim
        | skip
      ·obtain ⟨e',h1,h2,h3,h4⟩:=hp
       refine wpIn_mono (Xy y c hc hmixed v e' a' w' _ h1 h4) ?_
       exact Zc6.mono h2 (h3.mono fun j hj=>List.mem_append.2 (.inl hj)) (fun j hj=>List.mem_append.2 (.inr hj)) (fun _ _ _ h=>h)
      ·obtain ⟨e',h1,h2,h3,h4⟩:=hp
       exact ⟨e',h1,h2,h3.mono fun j hj=>List.mem_append.2 (.inl hj),h4⟩
      ·obtain ⟨e',h1,h2,h3,h4⟩:=hp
       exact ⟨e',h1,h2,h3.mono fun j hj=>List.mem_append.2 (.inl hj),h4⟩
      ·obtain ⟨v,h1,h2,h3,h4⟩:=hp
       exact ⟨v,h1,h2,h3.mono fun j hj=>List.mem_append.2 (.inl hj),h4⟩
    unfold wpC at hk
    split at hk
    ·rename_i slots tys kill u v
     cases hin:ZnO slots kill x with
     | false=>rw [hin] at hk;exact hk.elim
     | true =>
       rw [hin] at hk
       obtain ⟨J,hJ,hk⟩:=hk
       refine wpIn_seq (wpIn_mono (Xy x c hc hmixed u e a w _ hag hk) ?_)
       intro ex a' w' hp
       cases ex<;>first
         | exact hp.elim
         | skip
       ·obtain ⟨e',h1,h2,h3,h4⟩:=hp
        obtain ⟨t,ht,hj⟩:=ZjJ h4
        have hag2:=ZkK hag h1 h3 hin ht (Zlo ht)
        refine wpIn_mono (Xy y c hc hmixed v _ a' w' _ hag2 (hJ t w'.heap hj)) ?_
        exact Zc6.mono h2 (h3.mono fun j hj=>List.mem_append.2 (.inl hj)) (fun j hj=>List.mem_append.2 (.inr hj)) (fun _ _ _ h=>h)
       ·obtain ⟨e',h1,h2,h3,h4⟩:=hp
        exact ⟨e',h1,h2,h3.mono fun j hj=>List.mem_append.2 (.inl hj),h4⟩
       ·obtain ⟨e',h1,h2,h3,h4⟩:=hp
        exact ⟨e',h1,h2,h3.mono fun j hj=>List.mem_append.2 (.inl hj),h4⟩
       ·obtain ⟨v,h1,h2,h3,h4⟩:=hp
        exact ⟨v,h1,h2,h3.mono fun j hj=>List.mem_append.2 (.inl hj),h4⟩
    ·exact plain _ _ hk
  | .cond x p q,c,hc,hmixed,ann,e,a,w,Q,hag,hk=>by
    have yes:∀ u,wpC c p u e w.heap Q→p.wpIn (fen c.rnd) 0 c.P (Zc6 c (dstsOf (.cond x p q)) a w Q) a w:=fun u hk =>
      wpIn_mono (Xy p c hc hmixed u e a w Q hag hk) (Zc6.mono (Same.refl w) (Xx.refl _ a) (fun j hj=>List.mem_append.2 (.inl hj)) (fun _ _ _ h=>h))
    have no:∀ u,wpC c q u e w.heap Q→q.wpIn (fen c.rnd) 0 c.P (Zc6 c (dstsOf (.cond x p q)) a w Q) a w:=fun u hk =>
      wpIn_mono (Xy q c hc hmixed u e a w Q hag hk) (Zc6.mono (Same.refl w) (Xx.refl _ a) (fun j hj=>List.mem_append.2 (.inr hj)) (fun _ _ _ h=>h))
    unfold wpC at hk
    split at hk
    ·rename_i hx;exact wpIn_cond_true (hag.ev hx) (yes _ hk)
    ·rename_i hx;exact wpIn_cond_false (hag.ev hx) (no _ hk)
    ·rename_i b hx
     exact wpIn_cond_split (hag.ev hx) (fun hb=>yes _ (hk.1 hb)) (fun hb=>no _ (hk.2 hb))
    ·exact hk.elim
  | .block id x,c,hc,hmixed,ann,e,a,w,Q,hag,hk=>by
    unfold wpC at hk
    refine wpIn_block (wpIn_mono (Xy x c hc hmixed _ e a w _ hag hk) ?_)
    intro ex a' w' hp
    cases ex<;>first
      | exact hp.elim
      | skip
    ·exact hp
    ·rename_i id'
     obtain ⟨e',h1,h2,h3,h4⟩:=hp
     simp only [Exit.inBlock]
     simp only [Zth] at h4
     cases hb:Nat.beq id' id with
     | true =>
       rw [hb] at h4
       rw [if_pos (Nat.eq_of_beq_eq_true hb)]
       exact ⟨e',h1,h2,h3,h4⟩
     | false =>
       rw [hb] at h4
       rw [if_neg (Nat.ne_of_beq_eq_false hb)]
       exact ⟨e',h1,h2,h3,h4⟩
    ·exact hp
    ·exact hp
  | .loop x,c,hc,hmixed,ann,e,a,w,Q,hag,hk=>by
    unfold wpC at hk
    split at hk
    ·rename_i slots tys kill u
     cases hin:ZnO slots kill x with
     | false=>rw [hin] at hk;exact hk.elim
     | true =>
       rw [hin] at hk
       simp only [cond_true] at hk
       split at hk
       ·rename_i t0 ht0
        obtain ⟨I,μ,h0,hr⟩:=hk
        have hall:=Zlo ht0
        have hall':∀ (t:Xg tys) j,ZiN slots j=true→∃ v,ZeN slots (Xg.evs tys t) j=some v:=by
          intro t j hj
          obtain ⟨v,hv⟩:=hall j hj
          have len:∀ (ts:List VT) (s s':Xg ts),(Xg.evs ts s).length=(Xg.evs ts s').length:=by
            intro ts
            induction ts with
            | nil=>intro s s';rfl
            | cons x xs ih=>intro s s';simp only [Xg.evs,List.length_cons];exact congrArg _ (ih _ _)
          have go:∀ (ss:List Nat) (us vs:List EV),us.length=vs.length→(∃ v,ZeN ss us j=some v)→∃ v,ZeN ss vs j=some v:=by
            intro ss
            induction ss with
            | nil=>intro us vs _ h;simp [ZeN] at h
            | cons s ss ih =>
              intro us vs hlen h
              cases us with
              | nil=>simp [ZeN] at h
              | cons u us =>
                cases vs with
                | nil=>simp at hlen
                | cons v' vs =>
                  simp only [ZeN] at h ⊢
                  cases hb:Nat.beq j s with
                  | true=>exact ⟨v',rfl⟩
                  | false =>
                    rw [hb] at h
                    exact ih us vs (by simpa using hlen) h
          exact go slots _ _ (len tys t0 t) ⟨v,hv⟩
        refine wpIn_loop_ghost (fun n a' w'=>Same w w'∧Xx (dstsOf x) a a'∧∃ t,Agr c.n (ZqR slots (Xg.evs tys t) kill e) a'∧I t w'.heap∧n=μ t w'.heap)
          (μ t0 w.heap) ⟨Same.refl w,Xx.refl _ a,t0,ZkK hag hag (Xx.refl _ a) hin ht0 hall,h0,rfl⟩ ?_
        rintro n a' w' ⟨hs,hkeep,t,hagt,hI,rfl⟩
        refine wpIn_mono (Xy x c hc hmixed u _ a' w' _ hagt (hr t w'.heap hI)) ?_
        intro ex a2 w2 hp
        cases ex<;>first
          | exact hp.elim
          | skip
        ·obtain ⟨e2,h1,h2,h3,h4⟩:=hp
         have h5:Zqu slots tys e2 (fun s' h'=>I s' h'∧μ s' h'<μ t w'.heap) w2.heap:=h4
         obtain ⟨t2,ht2,hI2,hμ⟩:=ZjJ h5
         exact ⟨_,hμ,hs.trans h2,hkeep.trans h3,t2,ZkK hag h1 (hkeep.trans h3) hin ht2 (hall' t2),hI2,rfl⟩
        ·obtain ⟨e2,h1,h2,h3,h4⟩:=hp
         exact ⟨e2,h1,hs.trans h2,hkeep.trans h3,h4⟩
        ·obtain ⟨e2,h1,h2,h3,h4⟩:=hp
         exact ⟨e2,h1,hs.trans h2,hkeep.trans h3,h4⟩
        ·obtain ⟨v,h1,h2,h3,h4⟩:=hp
         exact ⟨v,h1,hs.trans h2,hkeep.trans h3,h4⟩
       ·exact hk.elim
    ·exact hk.elim
  | .exit id,c,hc,hmixed,ann,e,a,w,Q,hag,hk=>wpIn_exit ⟨e,hag,Same.refl w,Xx.refl _ a,hk⟩
  | .ret,c,hc,hmixed,ann,e,a,w,Q,hag,hk=>wpIn_ret ⟨e,hag,Same.refl w,Xx.refl _ a,hk⟩
  | .rangeFunc g ps assign body,c,hc,hmixed,ann,e,a,w,Q,hag,hk=>by
    unfold wpC at hk
    split at hk
    ·rename_i tys x y
     cases hb:(c.rnd.isNone&&e.mD.isNo) with
     | false=>rw [hb] at hk;exact hk.elim
     | true =>
       rw [hb] at hk
       simp only [cond_true] at hk
       simp only [Bool.and_eq_true] at hb
       have hr0:c.rnd=none:=Option.isNone_iff_eq_none.1 hb.1
       have hm0:e.mD = .no:=by
         cases h9:e.mD with
         | no=>rfl
         | at_ D9=>rw [h9] at hb;cases hb.2
         | raw d9=>rw [h9] at hb;cases hb.2
       have hd0:a.defers=[]:=by rw [hag.defers,hm0];rfl
       split at hk
       ·rename_i f cs hg
        split at hk
        ·rename_i s t hp
         obtain ⟨hmem,ht⟩:=Zh2 hp
         dsimp only at hmem ht
         have hit:=hc.iters _ hmem
         dsimp only at hit
         have hg':a.eval g=Value.func (.func f) #[] ⟨cs⟩:=hag.ev hg
         rw [hr0]
         refine wpIn_rangeFunc ?_
         intro fn hfn
         obtain ⟨r,hr⟩:∃ r:Loop,r={ state:= .ready,pending:=none,fn,tmps:=a.tmps,params:=ps,assign,body,defers:=w.heap.size }:=⟨_,rfl⟩
         have hsem:=hk r
         clear hk
         obtain ⟨W1,hW1⟩:∃ W1,(w.alloc (.deferred (some []))).alloc (Zhb r .ready none)=W1:=⟨_,rfl⟩
         have hh1:W1.heap=(w.heap.push (.deferred (some []))).push (Zhb r .ready none):=by rw [← hW1];rfl
         have hs1:Same w W1:=by rw [← hW1];exact ⟨rfl,rfl,rfl⟩
         rw [← hh1] at hsem
         have hY:YOK c.P (ZsR r (w.heap.size+1) ps.size (fun vs h' k=>Zwi (fun a:Xg tys=>(Xg.evs tys a).map EV.v) vs fun a=>match Zjt c.n ⟨e.f,.no⟩ ps.toList (Xg.evs tys a) with
           | some e1=>wpC { c with rnd:=some (w.heap.size+1),pan:=fun _ _=>False } assign x e1 h' (Zs0 fun e2 h2 =>
               Zwh r (w.heap.size+1) h2 fun h3=>wpC { c with rnd:=some (w.heap.size+1),pan:=fun _ _=>False } body y e2 h3 (ZsZ k))
           | none=>False)):=by
           intro l vs k W hy
           obtain ⟨rfl,hlen,hrec,hargs⟩:=hy
           obtain ⟨ta,rfl,hargs⟩:=hargs
           split at hargs
           ·rename_i e1 he1
            have hrl:W.heap[w.heap.size+1]?=some (.loop { r with state:= .ready,pending:=none }):=hrec
            have hy:=run_yield (P:=c.P) (args:=((Xg.evs tys ta).map EV.v).toArray) hrl (by rw [hr];simpa using hlen)
            refine ⟨fn,(ps.zip ((Xg.evs tys ta).map EV.v).toArray).foldl (fun t x=>t.setIfInBounds x.1 x.2) a.tmps,assign,body,by rw [hr] at hy;exact hy,?_⟩
            have hag1:Agr c.n e1 { tmps:=(ps.toList.zip ((Xg.evs tys ta).map EV.v)).foldl (fun t x=>t.setIfInBounds x.1 x.2) a.tmps,defers:=[]} :=
              Zjs (e:=⟨e.f,.no⟩) (a:={ a with defers:=[]}) ⟨hag.size,rfl,hag.val⟩ he1
            have hc1:=hc.at (some (w.heap.size+1)) (fun _ _=>False)
            rw [← ZpU] at hag1
            refine roundIn_of_wpIn hfn ?_
            refine wpIn_mono (Xy assign _ hc1 hmixed x e1 _ W _ hag1 hargs) ?_
            intro ex a1 w1 hp1
            cases ex with
            | normal =>
              obtain ⟨e2,hag2,hs2,hk2,hrec2,hb2⟩:=hp1
              have hrl2:w1.heap[w.heap.size+1]?=some (.loop { r with state:= .ready,pending:=none }):=hrec2
              refine ⟨_,run_beginRound hrl2 rfl,?_⟩
              refine wpIn_mono (Xy body _ hc1 hmixed y e2 a1 (w1.putObj (w.heap.size+1) (.loop { r with state:= .busy,pending:=none })) _ hag2 hb2) ?_
              have hs3:Same W (w1.putObj (w.heap.size+1) (.loop { r with state:= .busy,pending:=none })):=hs2.trans ⟨rfl,rfl,rfl⟩
              have fin:∀ (p:Option Code) (W3:World),Same (w1.putObj (w.heap.size+1) (.loop { r with state:= .busy,pending:=none })) W3 →
                  ZoG W3.heap (w.heap.size+1) r .busy none (k p.isNone (ZsX W3.heap (w.heap.size+1) (Zhb r (if p.isNone then .ready else .done) p))) →
                  ∃ v w',(Instr.endRound (w.heap.size+1) p).run c.P W3 = .ok v w'∧∃ b,Ending.returned v = .returned (.bool b)∧Same W w'∧k b w'.heap:=by
                intro p W3 hs4 hk4
                have hrl3:W3.heap[w.heap.size+1]?=some (.loop { r with state:= .busy,pending:=none }):=hk4.1
                exact ⟨_,_,run_endRound p hrl3,p.isNone,rfl,(hs3.trans hs4).trans ⟨rfl,rfl,rfl⟩,hk4.2⟩
              intro ex3 a3 w3 hp3
              cases ex3 with
              | normal=>obtain ⟨e3,_,hs4,_,hk4⟩:=hp3;exact fin none w3 hs4 hk4
              | ret=>obtain ⟨e3,_,hs4,_,hk4⟩:=hp3;exact fin (some .ret) w3 hs4 hk4
              | exit id=>obtain ⟨e3,_,hs4,_,hk4⟩:=hp3;exact fin (some (.exit id)) w3 hs4 hk4
              | goto t=>exact hp3.elim
              | panic ch=>obtain ⟨_,_,_,_,hk4⟩:=hp3;exact hk4.elim
              | outgrown=>exact hp3.elim
            | ret=>obtain ⟨_,_,_,_,hk4⟩:=hp1;exact hk4.elim
            | exit id=>obtain ⟨_,_,_,_,hk4⟩:=hp1;exact hk4.elim
            | goto t=>exact hp1.elim
            | panic ch=>obtain ⟨_,_,_,_,hk4⟩:=hp1;exact hk4.elim
            | outgrown=>exact hp1.elim
           ·exact hargs.elim
         have hok:=hit _ hY
         obtain ⟨⟨fd,hf,hname,hbody⟩,hcall⟩:=hok
         have hargs:(#[Value.func (.yield (w.heap.size+1)) #[] #[]]:Array Value)++(⟨cs⟩:Array Value)=((Xg.evs (.yl::s.caps) (w.heap.size+1,t)).map EV.v).toArray:=by
           have h5:=ZdZ ht
           have h6:(cs.map EV.val).map EV.v=cs:=by simp [Function.comp_def,EV.v]
           rw [h6] at h5
           simp only [Xg.evs,List.map_cons,h5]
           simp [VT.ev,EV.v]
         refine ⟨w.heap.size+1,[{ target:= .collected w.heap.size,args:= #[]}],W1,{ target:= .fn (.func f) ⟨cs⟩,args:= #[.func (.yield (w.heap.size+1)) #[] #[]]},W1,f,
           #[.func (.yield (w.heap.size+1)) #[] #[]]++(⟨cs⟩:Array Value),W1,?_,?_,?_,?_,fun h=>(by cases h),Zeg.2 ?_⟩
         ·rw [← hW1,hr]
          exact run_enterLoop_outer fn a.tmps ps assign body
         ·simp only [resolve,hg']
          simp [Deferred.ofValue,Act.eval]
         ·intro f' hf';exact trivial
         ·simp only [invoke,callFunc,Sem.run_bind,run_program,Result.andThen_ok,hf,hname,Bool.false_eq_true,if_false,hbody,Sem.run_pure]
         ·rw [hargs]
          refine (hcall (w.heap.size+1,t) (fun _ h'=>∃ st p,st≠ .busy∧ZoG h' (w.heap.size+1) r st p (Zv7 p (Q .normal ⟨e.f,.at_ w.heap.size⟩ (ZsX h' (w.heap.size+1) (Zhb r .exhausted p)))
            (fun id=>Q (.exit id) ⟨e.f,.at_ w.heap.size⟩ (ZsX h' (w.heap.size+1) (Zhb r .exhausted p))) (Q .ret ⟨e.f,.at_ w.heap.size⟩ (ZsX h' (w.heap.size+1) (Zhb r .exhausted p))))) (fun _ _=>False) W1 hsem).mono ?_
          rintro ending w2 (⟨rr,rfl,hs2,st,p,hst,hrec,hj⟩ | ⟨v,rfl,hs2,hk⟩)
          ·have hrl:w2.heap[w.heap.size+1]?=some (.loop { r with state:=st,pending:=p }):=hrec
           have hend:=run_endLoop (P:=c.P) hrl (by exact hst)
           have hs3:Same w (w2.putObj (w.heap.size+1) (Zhb r .exhausted p)):=(hs1.trans hs2).trans ⟨rfl,rfl,rfl⟩
           have hag3:Agr c.n ⟨e.f,.at_ w.heap.size⟩ { a with defers:=[{ target:= .collected w.heap.size,args:= #[]}]++a.defers }:=⟨hag.size,by rw [hd0];rfl,hag.val⟩
           have hk3:Xx (dstsOf (.rangeFunc g ps assign body)) a { a with defers:=[{ target:= .collected w.heap.size,args:= #[]}]++a.defers }:=⟨fun _ _=>rfl,fun h=>absurd (List.mem_singleton.2 rfl) h⟩
           refine ⟨p,_,hend,?_⟩
           cases p with
           | none=>exact ⟨_,hag3,hs3,hk3,hj⟩
           | some cj =>
             cases cj with
             | exit id=>exact wpIn_exit ⟨_,hag3,hs3,hk3,hj⟩
             | ret=>exact wpIn_ret ⟨_,hag3,hs3,hk3,hj⟩
             | _=>exact hj.elim
          ·exact hk.elim
        ·exact hk.elim
       ·exact hk.elim
    ·exact hk.elim
  | .scope _,c,hc,hmixed,ann,e,a,w,Q,hag,hk=>hk.elim
  | .label _,c,hc,hmixed,ann,e,a,w,Q,hag,hk=>hk.elim
  | .goto _,c,hc,hmixed,ann,e,a,w,Q,hag,hk=>hk.elim
  | .refuse _,c,hc,hmixed,ann,e,a,w,Q,hag,hk=>hk.elim
theorem ZgU:∀ (args:List EV) (i:Nat) (j:Nat) (v:EV),ZfP.go args i j=some v→∃ k,j=i+k∧args[k]?=some v
  | [],i,j,v,h=>by simp [ZfP.go] at h
  | x::xs,i,j,v,h=>by
    simp only [ZfP.go] at h
    cases hb:Nat.beq j i with
    | true =>
      rw [hb] at h
      simp only [cond_true,Option.some.injEq] at h
      exact ⟨0,Nat.eq_of_beq_eq_true hb,by simp [h]⟩
    | false =>
      rw [hb] at h
      obtain ⟨k,hk,hv⟩:=ZgU xs (i+1) j v h
      exact ⟨k+1,by omega,by simpa using hv⟩
theorem ZfY {c:Cfg} {e:Env} {a:Act} {w:World} (hag:Agr c.n e a) {f:ResultVar→Sem Value} (h1:∀ t,f (.tmp t)=pure (a.tmps.getD t undef))
    (h2:∀ x t,f (.cell x t)=(do loadVar t (← asAddr (a.tmps.getD x undef)))):∀ {rs:List ResultVar} {K:List EV→Prop},Zo5 c e w.heap rs K →
    ∃ vs,(rs.mapM f).run c.P w = .ok (vs.map EV.v) w∧K vs
  | [],K,hk=>⟨[],rfl,hk⟩
  | .tmp t::r,K,hk=>by
    simp only [Zo5] at hk
    split at hk
    ·rename_i v hv
     obtain ⟨vs,hr,hk⟩:=ZfY hag h1 h2 hk
     refine ⟨v::vs,?_,hk⟩
     have:=hag.val t v hv
     rw [List.mapM_cons]
     simp only [h1,Sem.run_bind,Sem.run_pure,Result.andThen_ok,hr,List.map_cons]
     simp [this]
    ·exact hk.elim
  | .cell x t::r,K,hk=>by
    simp only [Zo5] at hk
    split at hk
    ·rename_i b o hv
     obtain ⟨v,hl,hk⟩:=ZnB hk
     obtain ⟨vs,hr,hk⟩:=ZfY hag h1 h2 hk
     refine ⟨v::vs,?_,hk⟩
     have:=hag.val x _ hv
     have hx:(asAddr (a.tmps.getD x undef)).run c.P w = .ok ⟨b,o,none⟩ w:=by
       have:a.tmps.getD x undef = .pointer (some ⟨b,o,none⟩):=by simp [this,EV.v]
       rw [this];rfl
     rw [List.mapM_cons]
     simp only [h2,Sem.run_bind,Sem.run_pure,hx,Result.andThen_ok,hl w rfl,hr,List.map_cons]
    ·exact hk.elim
def Zye (l:List Value):Value:=match l with
  | [v]=>v
  | l=> .tuple l.toArray
theorem Zpx:∀ (vs:List EV),(Zdf vs).v=Zye (vs.map EV.v)
  | []=>rfl
  | [_]=>rfl
  | _::_::_=>rfl
theorem Zla (l:List Value):(if h:l.toArray.size=1 then l.toArray[0] else Value.tuple l.toArray)=Zye l:=by
  match l with
  | []=>rfl
  | [x]=>rfl
  | x::y::r =>
    have:¬ (x::y::r).toArray.size=1:=by simp
    rw [dif_neg this]
    rfl
theorem ZpY {res:List VT} {vs:List EV} {r:Xg res} (h:Xg.un res vs=some r):Zs1 res r=Zye (vs.map EV.v):=by
  unfold Zs1
  rw [Zpx,ZdZ h]
theorem ZoJ {c:Cfg} (hc:c.OK) (hmixed:c.P.follows .mixedOrders=true) {f:FuncId} {fn:Func} {ann:Ann} {args:List EV} {res:List VT} {K:Xg res→Zc→Prop} {Kp:Value→Zc→Prop} {w:World}
    (hf:c.P.funcs[f]?=some fn) (hn:c.n=fn.ntmps) (hlen:args.length≤fn.ntmps) (hk:ZwF c fn ann args res K Kp w.heap) :
    Calls c.P f (args.map EV.v).toArray w (ZcQ res w K Kp):=by
  unfold ZwF at hk
  split at hk
  ·rename_i code hb
   refine Zeg (r:=none) (n:=0).1 (callsIn_of_wp_marks hf hb trivial ?_)
   have hag:Agr c.n (ZfP args) { tmps:=(args.map EV.v).toArray++Array.replicate (fn.ntmps - (args.map EV.v).toArray.size) undef,defers:=[]}:=by
     refine ⟨by simp [hn];omega,rfl,fun j v hj=>?_⟩
     obtain ⟨k,hk,hv⟩:=ZgU args 0 j v hj
     have hlt:k<args.length:=by
       rcases Nat.lt_or_ge k args.length with h | h
       ·exact h
       ·rw [List.getElem?_eq_none h] at hv;cases hv
     simp only [Nat.zero_add] at hk
     subst hk
     simp [hlt,Array.getElem?_append]
     have h5:=List.getElem?_eq_getElem hlt
     rw [hv] at h5
     exact congrArg EV.v (Option.some.inj h5.symm)
   refine wpIn_mono (Xy code _ (hc.at none (bif Zt3 code then fun _ _=>False else Kp)) hmixed ann _ _ w _ hag hk) ?_
   have res_:∀ (a':Act) (w1:World) (e':Env),Agr c.n e' a'→Same w w1→(Zo5 c e' w1.heap fn.results.toList fun vs=>match Xg.un res vs with
       | some r=>K r w1.heap
       | none=>False)→∃ v,(results fn a'.tmps).run c.P w1 = .ok v w1∧ZcQ res w K Kp (.returned v) w1:=by
     intro a' w1 e' h1 h2 h4
     obtain ⟨vs,hr,hk⟩:=ZfY (f:=fun
       | .tmp t=>pure (a'.tmps.getD t undef)
       | .cell x t=>do loadVar t (← asAddr (a'.tmps.getD x undef))) h1 (fun _=>rfl) (fun _ _=>rfl) h4
     split at hk
     ·rename_i r hun
      refine ⟨Zs1 res r,?_,.inl ⟨r,rfl,h2,hk⟩⟩
      unfold results
      rw [Array.mapM_eq_mapM_toList]
      simp only [Sem.run_bind,Sem.run_map]
      have hr':=hr
      refine (congrArg (fun r=>(Result.andThen (Result.andThen r _) _)) hr').trans ?_
      simp only [Result.andThen_ok,Sem.run_pure]
      rw [ZpY hun]
      exact congrArg (fun v=>Result.ok v w1) (Zla _)
     ·exact hk.elim
   have fin:∀ (a':Act) (w':World) (e':Env),Agr c.n e' a'→Same w w'→(match e'.mD with
       | .no=>Zo5 c e' w'.heap fn.results.toList fun vs=>match Xg.un res vs with
         | some r=>K r w'.heap
         | none=>False
       | .at_ D=>ZvF D w'.heap fun h'=>Zo5 c e' h' fn.results.toList fun vs=>match Xg.un res vs with
         | some r=>K r h'
         | none=>False
       | .raw _=>False)→LeavesInM (fen none) 0 c.P fn a'.tmps (ZcQ res w K Kp) a'.defers .returning w':=by
     intro a' w' e' h1 h2 h4
     rw [h1.defers]
     cases hm:e'.mD with
     | raw ds=>rw [hm] at h4;exact h4.elim
     | no =>
       rw [hm] at h4
       exact res_ a' w' e' h1 h2 h4
     | at_ D =>
       rw [hm] at h4
       obtain ⟨hD,h4⟩:=h4
       refine ⟨by simp,.inl ⟨D,_,rfl,run_takeDeferred hD,?_⟩⟩
       exact res_ a' (w'.putObj D (.deferred none)) e' h1 (h2.trans ⟨rfl,rfl,rfl⟩) h4
   intro ex a' w' hp
   cases ex with
   | normal=>obtain ⟨e',h1,h2,h3,h4⟩:=hp;exact fin a' w' e' h1 h2 h4
   | ret=>obtain ⟨e',h1,h2,h3,h4⟩:=hp;exact fin a' w' e' h1 h2 h4
   | exit id=>obtain ⟨e',h1,h2,h3,h4⟩:=hp;exact h4.elim
   | goto t=>exact hp.elim
   | outgrown=>exact hp.elim
   | panic ch =>
     obtain ⟨v,rfl,h2,h3,h4⟩:=hp
     cases hrf:Zt3 code with
     | true=>rw [hrf] at h4;exact h4.elim
     | false =>
       rw [hrf] at h4
       have hmk:mkN∉dstsOf code:=by
         have key:∀ (l:List Nat),ZiN l mkN=false→mkN∉l:=by
           intro l
           induction l with
           | nil=>intro _ h;cases h
           | cons x xs ih =>
             intro h hm
             simp only [ZiN] at h
             cases hb:Nat.beq mkN x with
             | true=>rw [hb] at h;cases h
             | false =>
               rw [hb] at h
               rcases List.mem_cons.1 hm with he | hm
               ·rw [← he,Nat.beq_refl] at hb;cases hb
               ·exact ih h hm
         exact key _ hrf
       rw [show bodyPostM (fen none) 0 c.P fn (ZcQ res w K Kp) (.panic [{ v,recovered:=false }]) a' w'=LeavesInM (fen none) 0 c.P fn a'.tmps (ZcQ res w K Kp) a'.defers (.panicking [{ v,recovered:=false }]) w' from rfl,h3.2 hmk]
       exact .inr ⟨v,rfl,h2,h4⟩
  ·exact hk.elim
inductive AllOK (P:Program):List (FuncId × Zh)→Prop
  | nil:AllOK P []
  | cons {f:FuncId} {s:Zh} {l:List (FuncId × Zh)} (h:Zo P f s) (r:AllOK P l):AllOK P ((f,s)::l)
theorem Zj0 {P:Program}:∀ {l:List (FuncId × Zh)},AllOK P l→∀ x,x∈l→Zo P x.1 x.2
  | [],_,x,h=>by cases h
  | _::_,.cons h0 hr,x,h=>by
    cases h with
    | head=>exact h0
    | tail _ h=>exact Zj0 hr x h
inductive AllExt (P:Program):List FuncId→Prop
  | nil:AllExt P []
  | cons {f:FuncId} {l:List FuncId} (h:Zuu P f) (r:AllExt P l):AllExt P (f::l)
theorem Zj1 {P:Program}:∀ {l:List FuncId},AllExt P l→∀ f,f∈l→Zuu P f
  | [],_,x,h=>by cases h
  | _::_,.cons h0 hr,x,h=>by
    cases h with
    | head=>exact h0
    | tail _ h=>exact Zj1 hr x h
inductive AllDyn (P:Program):List (String × TypeId × FuncId)→Prop
  | nil:AllDyn P []
  | cons {n:String} {t:TypeId} {f:FuncId} {l:List (String × TypeId × FuncId)} (h:Zn5 P n t f) (r:AllDyn P l):AllDyn P ((n,t,f)::l)
theorem Zj2 {P:Program}:∀ {l:List (String × TypeId × FuncId)},AllDyn P l→∀ x,x∈l→Zn5 P x.1 x.2.1 x.2.2
  | [],_,x,h=>by cases h
  | _::_,.cons h0 hr,x,h=>by
    cases h with
    | head=>exact h0
    | tail _ h=>exact Zj2 hr x h
inductive AllIter (P:Program):List (FuncId × ZbP)→Prop
  | nil:AllIter P []
  | cons {f:FuncId} {s:ZbP} {l:List (FuncId × ZbP)} (h:Zrm P f s) (r:AllIter P l):AllIter P ((f,s)::l)
theorem ZiJ {P:Program}:∀ {l:List (FuncId × ZbP)},AllIter P l→∀ x,x∈l→Zrm P x.1 x.2
  | [],_,x,h=>by cases h
  | _::_,.cons h0 hr,x,h=>by
    cases h with
    | head=>exact h0
    | tail _ h=>exact ZiJ hr x h
theorem ZG (c:Cfg) (h:AllOK c.P c.calls) (h':AllExt c.P c.ext) (h'':AllDyn c.P c.dyn) (h3:AllIter c.P c.iters) (h4:YOK c.P c.yld):c.OK:=⟨Zj0 h,Zj1 h',Zj2 h'',ZiJ h3,h4⟩
theorem Zyn {c:Cfg} {f:FuncId} {fn:Func} {ann:Ann} {s:Zh} (hf:c.P.funcs[f]?=some fn) (hname:(fn.name == "runtime.NumGoroutine")=false) (hbody:fn.body.isNone=false)
    (hn:c.n=fn.ntmps) (hlen:s.args.length≤fn.ntmps) (hc:c.OK) (hmixed:c.P.follows .mixedOrders=true)
    (hr:∀ (t:Xg s.args) (K:Xg s.res→Zc→Prop) (Kp:Value→Zc→Prop) (h:Zc),ZwF c fn ann (Xg.evs s.args t) s.res K Kp h=s.sem t K Kp h):Zo c.P f s where
  named:=⟨fn,hf,hname,hbody⟩
  calls t K Kp w hk:=by
    have hl:(Xg.evs s.args t).length≤fn.ntmps:=by
      have:∀ (vs:List VT) (x:Xg vs),(Xg.evs vs x).length=vs.length:=by
        intro vs
        induction vs with
        | nil=>intro x;rfl
        | cons v vs ih=>intro x;simp only [Xg.evs,List.length_cons,ih]
      rw [this]
      exact hlen
    exact ZoJ hc hmixed hf hn hl (by rw [hr];exact hk)
def Z3 (c:Cfg) (fn:Func) (ann:Ann) (s:Zh):Prop:=∀ (t:Xg s.args) (K:Xg s.res→Zc→Prop) (Kp:Value→Zc→Prop) (h:Zc),ZwF c fn ann (Xg.evs s.args t) s.res K Kp h=s.sem t K Kp h
theorem okF {c:Cfg} {f:FuncId} {fn:Func} {ann:Ann} {s:Zh} (hr:Z3 c fn ann s) (hf:c.P.funcs[f]?=some fn) (hm:c.P.follows .mixedOrders=true) (hc:c.OK)
    (hname:(fn.name == "runtime.NumGoroutine")=false:=by kernel_rfl) (hbody:fn.body.isNone=false:=by kernel_rfl) (hn:c.n=fn.ntmps:=by rfl) (hlen:s.args.length≤fn.ntmps:=by decide):Zo c.P f s :=
  Zyn hf hname hbody hn hlen hc hm hr
theorem ZcC {P:Program} {f:FuncId} {fn:Func} {s:Zh} (hf:P.funcs[f]?=some fn) (hname:(fn.name == "runtime.NumGoroutine")=false) (hbody:fn.body.isNone=false) (hs:∀ t K Kp h,¬ s.sem t K Kp h):Zo P f s where
  named:=⟨fn,hf,hname,hbody⟩
  calls t K Kp w hk:=(hs _ _ _ _ hk).elim
theorem ZgI {P:Program} {f:FuncId} {A R:List VT} {M:Nat→Xg A→(Xg R→Zc→Prop)→(Value→Zc→Prop)→Zc→Prop} (h:∀ n,Zo P f ⟨A,R,M n⟩):Zo P f ⟨A,R,fun t K Kp h=>∃ n,M n t K Kp h⟩ where
  named:=(h 0).named
  calls t K Kp w hk:=let ⟨n,hn⟩:=hk;(h n).calls t K Kp w hn
end Go.Fw
