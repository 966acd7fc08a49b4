/- Why a reading is right: regions. -/
import Derived.Sort.LoopGhostIn
import Derived.Test.YthbfgkphlmlihaaGreatPa5
set_option linter.unusedVariables false
set_option linter.unusedSimpArgs false
namespace Go.Fw
open Go
structure Xr (D:List Nat) (a a':Act):Prop where
  tmps:∀ j,j∉D→a'.tmps[j]?=a.tmps[j]?
  marks:mkN∉D→a'.defers=a.defers
theorem Xr.refl (D:List Nat) (a:Act):Xr D a a:=⟨fun _ _=>rfl,fun _=>rfl⟩
theorem Xr.trans {D:List Nat} {a b d:Act} (h:Xr D a b) (h':Xr D b d):Xr D a d:=⟨fun j hj=>(h'.1 j hj).trans (h.1 j hj),fun hj=>(h'.2 hj).trans (h.2 hj)⟩
theorem Xr.mono {D D':List Nat} {a b:Act} (h:Xr D a b) (hs:∀ j,j∈D→j∈D'):Xr D' a b:=⟨fun j hj=>h.1 j fun hj'=>hj (hs j hj'),fun hj=>h.2 fun hj'=>hj (hs _ hj')⟩
theorem put_defers (a:Act) (d:Option Tmp) (v:Value):(a.put d v).defers=a.defers:=by cases d<;>rfl
theorem Xr.put {D:List Nat} {a:Act} {d:Option Tmp} {v:Value} (h:∀ x,d=some x→x∈D):Xr D a (a.put d v):=by
  refine ⟨?_,fun _=>put_defers a d v⟩
  intro j hj
  cases d with
  | none=>rfl
  | some x =>
    have hne:x≠j:=fun he=>hj (he▸h x rfl)
    simp [Act.put,Array.getElem?_setIfInBounds_ne hne]
theorem Zi2 {ops:Array Oper} {a:Act} {j t:Nat} (h:Y8 ops.toList j=some t):yielded ops a.tmps j=match a.tmps[t]? with | some (.bool b)=>some b | _=>none:=by
  unfold Y8 at h
  unfold yielded
  rw [show ops.toList[j]?=ops[j]? from by simp] at h
  rw [h]
  rfl
theorem Zhd {ops:Array Oper} {a:Act} {j:Nat} (h:Y8 ops.toList j=none):yielded ops a.tmps j=none:=by
  unfold Y8 at h
  unfold yielded
  rw [show ops.toList[j]?=ops[j]? from by simp] at h
  rw [h]
  rfl
inductive Step (c:Cfg) (one:Oper→Env→Zd→(Env→Zd→Prop)→Prop) (ops:Array Oper) (o:Oper) (a:Act) (h:Zd) (K:Env→Zd→Prop):Prop
  | does (e:Env) (ha:Agr c.n e a) (hw:Region.wanted o (yielded ops a.tmps)=true) (hk:one o e h K)
  | skips (e:Env) (ha:Agr c.n e a) (hw:Region.wanted o (yielded ops a.tmps)=false) (hk:Zi8 c o e h K)
theorem ZhU {c:Cfg} {one:Oper→Env→Zd→(Env→Zd→Prop)→Prop} {ops:Array Oper} {o:Oper} {os:List Oper} {e:Env} {a:Act} {h:Zd} {K:Env→Zd→Prop}
    (hag:Agr c.n e a) (hk:Zdk c one ops.toList (o::os) e h K):Step c one ops o a h (fun e' h'=>Zdk c one ops.toList os e' h' K):=by
  unfold Zdk at hk
  split at hk
  ·rename_i hg
   exact .does e hag (by simp [Region.wanted,hg]) hk
  ·rename_i j want hg
   split at hk
   ·rename_i hs
    exact .skips e hag (by simp [Region.wanted,hg,Zhd hs]) hk
   ·rename_i t hs
    have hy:=Zi2 (a:=a) hs
    split at hk
    ·rename_i b ht
     have ht':a.tmps[t]?=some (.bool b):=hag.val t _ ht
     rw [ht'] at hy
     split at hk
     ·exact .does e hag (by simp [Region.wanted,hg,hy]) hk
     ·exact .does e hag (by simp [Region.wanted,hg,hy]) hk
     ·exact .skips e hag (by simp [Region.wanted,hg,hy]) hk
     ·exact .skips e hag (by simp [Region.wanted,hg,hy]) hk
    ·rename_i b ht
     have ht':a.tmps[t]?=some (.bool b):=hag.val t _ ht
     rw [ht'] at hy
     split at hk
     ·cases b with
      | true=>exact .does _ (hag.tell ht) (by simp [Region.wanted,hg,hy]) (hk.1 rfl)
      | false=>exact .skips _ (hag.tell ht) (by simp [Region.wanted,hg,hy]) (hk.2 rfl)
     ·cases b with
      | true=>exact .skips _ (hag.tell ht) (by simp [Region.wanted,hg,hy]) (hk.1 rfl)
      | false=>exact .does _ (hag.tell ht) (by simp [Region.wanted,hg,hy]) (hk.2 rfl)
    ·rename_i v hv1 hv2 ht
     have ht':a.tmps[t]?=some v.v:=hag.val t _ ht
     refine .skips e hag ?_ hk
     have:yielded ops a.tmps j=none:=by
       rw [hy,ht']
       cases v with
       | val u=>cases u<;>first | rfl | exact absurd rfl (hv2 _)
       | lit b=>exact absurd rfl (hv1 b)
       | adr b o=>rfl
       | itr t b=>rfl
       | more k v=>rfl
       | over=>rfl
     simp [Region.wanted,hg,this]
    ·exact hk.elim
theorem Zdq {ops:Array Oper} {k:Nat} {o:Oper} {x:Nat} (ho:ops[k]?=some o) (hx:o.dst=some x):x∈ops.toList.filterMap (·.dst):=by
  refine List.mem_filterMap.2 ⟨o,?_,hx⟩
  exact List.mem_of_getElem? (i:=k) (by simpa using ho)
theorem ZhT {c:Cfg} (hc:c.OK) {ops:Array Oper} {Q:Exit→Act→World→Prop}:∀ (l:List Oper) (k:Nat),(∀ j,l[j]?=ops[k+j]?) →
    ∀ {e:Env} {a:Act} {w:World} {K:Env→Zd→Prop},Agr c.n e a→Zdk c (Zvx c) ops.toList l e w.heap K →
    (∀ e' a' w',Agr c.n e' a'→Same w w'→Xr (ops.toList.filterMap (·.dst)) a a'→K e' w'.heap→Q .normal a' w') →
    (∀ v a' w',Same w w'→Xr (ops.toList.filterMap (·.dst)) a a'→c.pan v w'.heap→Q (.panic [{ v,recovered:=false }]) a' w')→wpOpsIn (fen c.rnd) 0 c.P ops Q (List.range' k l.length) a w
  | [],k,hl,e,a,w,K,hag,hk,hQ,_=>hQ e a w hag (Same.refl w) (Xr.refl _ a) hk
  | o::os,k,hl,e,a,w,K,hag,hk,hQ,hP=>by
    have ho:ops[k]?=some o:=by have:=hl 0;simpa using this.symm
    have hl':∀ j,os[j]?=ops[k+1+j]?:=fun j=>by have:=hl (j+1);rw [show k+1+j=k+(j+1) from by omega,← this];rfl
    have hput:∀ v,Xr (ops.toList.filterMap (·.dst)) a (a.put o.dst v):=fun v=>Xr.put fun x hx=>Zdq ho hx
    simp only [List.length_cons,List.range'_succ,wpOpsIn,ho]
    cases ZhU hag hk with
    | does e hag hw hk =>
      rw [if_pos hw]
      refine Zvu hc hag (fun v w' hs hp=>hP v a w' hs (Xr.refl _ a) hp) hk fun v w' hs hk=>?_
      obtain ⟨e',hag',hk⟩:=ZbH hag hk
      exact ZhT hc os (k+1) hl' hag' hk (fun e'' a'' w'' h1 h2 h3 h4=>hQ e'' a'' w'' h1 (hs.trans h2) ((hput _).trans h3) h4)
        (fun v a'' w'' h2 h3 h4=>hP v a'' w'' (hs.trans h2) ((hput _).trans h3) h4)
    | skips e hag hw hk =>
      rw [if_neg (by simp [hw])]
      obtain ⟨e',hag',hk⟩:=ZbH hag hk
      exact ⟨fun _ _=>trivial,ZhT hc os (k+1) hl' hag' hk (fun e'' a'' w'' h1 h2 h3 h4=>hQ e'' a'' w'' h1 h2 ((hput _).trans h3) h4)
        (fun v a'' w'' h2 h3 h4=>hP v a'' w'' h2 ((hput _).trans h3) h4)⟩
def Cls (w0:World) (h:Zd) (w:World):Prop:=Same w0 w∧w.heap=h
theorem Zni {c:Cfg} {o:Oper} {a:Act} {w0:World} {h:Zd} {v:EV} (hr:∀ w:World,w.heap=h→(execOp a.eval o).run c.P w = .ok (.value v.v) w) :
    ∀ w,Cls w0 h w→o.quietAtIn (fen none) 0 c.P a (Cls w0 h) w v.v:=by
  intro w hw
  unfold Oper.quietAtIn
  rw [hr w hw.2]
  exact ⟨rfl,rfl⟩
theorem Xz {c:Cfg} {o:Oper} {a:Act} {w0:World} {h:Zd} {K:EV→Zd→Prop} {next:Act→Prop} (hq:Zmr c o a h K) (hn:∀ v,K v h→next (a.put o.dst v.v)) :
    o.quietIn (fen none) 0 c.P a (Cls w0 h) next :=
  let ⟨v,hr,hk⟩:=hq
  ⟨v.v,Zni hr,hn v hk⟩
theorem Zk9 {c:Cfg} (hc:c.OK) {e:Env} {a:Act} {w0:World} {h:Zd} {o:Oper} {K:EV→Zd→Prop} {next:Act→Prop} (hag:Agr c.n e a) (hk:ZmH c o.op e h K)
    (hn:∀ v,K v h→next (a.put o.dst v.v)):o.quietIn (fen none) 0 c.P a (Cls w0 h) next:=by
  obtain ⟨dst,op,type,pos,after,guard⟩:=o
  cases op
  case move=>exact Xz (Zj6 hag hk).q hn
  case assign=>exact Xz (ZgH hag hk).q hn
  case pick=>exact Xz (Zj5 hag hk).q hn
  case load=>exact Xz (Zj8 hag hk) hn
  case nilCheck=>exact Xz (Ze3 hag hk).q hn
  case binOp=>exact Xz (ZhJ hag hk).q hn
  case unOp=>exact Xz (Zj4 hag hk).q hn
  case slice=>exact Xz (ZhF hag hk).q hn
  case fieldAddr=>exact Xz (Zey hag hk).q hn
  case field=>exact Xz (ZhH hag hk).q hn
  case indexAddr=>exact Xz (Zex hag hk).q hn
  case index=>exact Xz (ZhG hag hk).q hn
  case extract=>exact Xz (ZfW hag hk).q hn
  case build=>exact Xz (ZhI hag hk).q hn
  case makeFunc=>exact Xz (Ze4 hag hk).q hn
  case convert s d x =>
    simp only [ZmH] at hk
    split at hk
    ·rename_i j k hs hd
     exact Xz (Ze5 hag hs hd hk).q hn
    ·exact hk.elim
  case call cl =>
    unfold ZmH at hk
    split at hk<;>first
      | exact hk.elim
      | (rename_i ho;cases ho)
    ·exact Xz (Zpa hag hk) hn
    ·exact Xz (Yt hag (.inr (.inl rfl)) hk).q hn
    ·exact Xz (Yt hag (.inr (.inr (.inl rfl))) hk).q hn
    ·exact Xz (Yt hag (.inr (.inr (.inr rfl))) hk).q hn
    ·rename_i f args ts
     split at hk
     ·rename_i es he
      split at hk
      ·rename_i s t hp
       obtain ⟨hmem,ht⟩:=Zfd hp
       dsimp only at hmem ht
       obtain ⟨r,hm,hk⟩:=hk
       refine ⟨(ZdB (Xa.evs s.res r)).v,fun w hw=>?_,hn _ hk⟩
       have hargs:=ZbF hag he
       obtain ⟨⟨fn,hf,hname,hbody⟩,hcall⟩:=hc.calls _ hmem
       have henter:(execOp a.eval ⟨dst,.call ⟨.value (.func f),args,ts⟩,type,pos,after,guard⟩).run c.P w = .ok (.enter f (args.map a.eval)) w:=by
         simp only [execOp,resolve,Act.eval,Deferred.ofValue,Sem.run_bind,Sem.run_pure,Result.andThen_ok,invoke,callFunc,run_program,hf,hname,Bool.false_eq_true,if_false,hbody]
         simp
       unfold Oper.quietAtIn
       rw [henter]
       refine ⟨rfl,fun h=>(by cases h),ZeS.2 ?_⟩
       rw [hargs,← Zd1 ht]
       refine (hcall t (fun r' h'=>r'=r∧h'=h) (fun _ _=>False) w (by rw [hw.2];exact hm)).mono ?_
       rintro ending w' (⟨r',rfl,hsame,rfl,hh⟩ | ⟨v,rfl,hsame,hk⟩)
       ·exact ⟨rfl,hw.1.trans hsame,hh⟩
       ·exact hk.elim
      ·exact hk.elim
     ·exact hk.elim
  all_goals exact hk.elim
theorem Zkk {c:Cfg} (hc:c.OK) {ops:Array Oper} {w0:World} {Q:Act→Prop} {h:Zd}:∀ (l:List Oper) (k:Nat),(∀ j,l[j]?=ops[k+j]?) →
    ∀ {e:Env} {a:Act} {K:Env→Zd→Prop},Agr c.n e a→Zdk c (Zpw c) ops.toList l e h K →
    (∀ e' a',Agr c.n e' a'→Xr (ops.toList.filterMap (·.dst)) a a'→K e' h→Q a')→wpQuietIn (fen none) 0 c.P ops (Cls w0 h) Q l a
  | [],k,hl,e,a,K,hag,hk,hQ=>hQ e a hag (Xr.refl _ a) hk
  | o::os,k,hl,e,a,K,hag,hk,hQ=>by
    have ho:ops[k]?=some o:=by have:=hl 0;simpa using this.symm
    have hl':∀ j,os[j]?=ops[k+1+j]?:=fun j=>by have:=hl (j+1);rw [show k+1+j=k+(j+1) from by omega,← this];rfl
    have hput:∀ v,Xr (ops.toList.filterMap (·.dst)) a (a.put o.dst v):=fun v=>Xr.put fun x hx=>Zdq ho hx
    unfold wpQuietIn
    refine ⟨fun _ _ _ _=>trivial,?_⟩
    cases ZhU hag hk with
    | does e hag hw hk =>
      rw [if_pos hw]
      refine Zk9 hc hag hk fun v hk=>?_
      obtain ⟨e',hag',hk⟩:=ZbH hag hk
      exact Zkk hc os (k+1) hl' hag' hk fun e'' a'' h1 h3 h4=>hQ e'' a'' h1 ((hput _).trans h3) h4
    | skips e hag hw hk =>
      rw [if_neg (by simp [hw])]
      obtain ⟨e',hag',hk⟩:=ZbH hag hk
      exact Zkk hc os (k+1) hl' hag' hk fun e'' a'' h1 h3 h4=>hQ e'' a'' h1 ((hput _).trans h3) h4
def Zc1 (c:Cfg) (D:List Nat) (a:Act) (w:World) (Q:Ex→Env→Zd→Prop):Exit→Act→World→Prop
  | .normal,a',w'=>∃ e',Agr c.n e' a'∧Same w w'∧Xr D a a'∧Q .normal e' w'.heap
  | .exit id,a',w'=>∃ e',Agr c.n e' a'∧Same w w'∧Xr D a a'∧Q (.exit id) e' w'.heap
  | .ret,a',w'=>∃ e',Agr c.n e' a'∧Same w w'∧Xr D a a'∧Q .ret e' w'.heap
  | .panic chain,a',w'=>∃ v,chain=[{ v,recovered:=false }]∧Same w w'∧Xr D a a'∧c.pan v w'.heap
  | _,_,_=>False
theorem Zc1.mono {c:Cfg} {D D':List Nat} {a a1:Act} {w w1:World} {Q Q':Ex→Env→Zd→Prop} (hs:Same w w1) (hk:Xr D' a a1) (hd:∀ j,j∈D→j∈D') (hq:∀ x e h,Q x e h→Q' x e h) :
    ∀ x a' w',Zc1 c D a1 w1 Q x a' w'→Zc1 c D' a w Q' x a' w':=by
  intro x a' w' h
  cases x<;>first
    | exact h.elim
    | (obtain ⟨e',h1,h2,h3,h4⟩:=h
       exact ⟨e',h1,hs.trans h2,hk.trans (h3.mono hd),hq _ _ _ h4⟩)
    | (obtain ⟨v,h1,h2,h3,h4⟩:=h
       exact ⟨v,h1,hs.trans h2,hk.trans (h3.mono hd),h4⟩)
theorem ZhZ {c:Cfg} {D:List Nat} {a:Act} {w:World} {Q:Ex→Env→Zd→Prop} {ch:List PanicEntry} {a':Act} {d:Option Tmp} {v:Value} {w':World} (hd:∀ x,d=some x→x∈D) (h:Zc1 c D a w Q (.panic ch) (a'.put d v) w'):Zc1 c D a w Q (.panic ch) a' w':=by
  obtain ⟨v',h1,h2,h3,h4⟩:=h
  have hp:Xr D a' (a'.put d v):=Xr.put hd
  exact ⟨v',h1,h2,⟨fun j hj=>(hp.1 j hj).symm.trans (h3.1 j hj),fun hj=>(hp.2 hj).symm.trans (h3.2 hj)⟩,h4⟩
theorem ZeG {c:Cfg} {ops:Array Oper} {o:Oper} {e:Env} {a:Act} {A B:Env→Prop} (hag:Agr c.n e a) (hk:Zim ops.toList o e A B) :
    (∃ e',Agr c.n e' a∧Region.wanted o (yielded ops a.tmps)=true∧A e')∨(∃ e',Agr c.n e' a∧Region.wanted o (yielded ops a.tmps)=false∧B e'):=by
  unfold Zim at hk
  split at hk
  ·rename_i hg
   exact .inl ⟨e,hag,by simp [Region.wanted,hg],hk⟩
  ·rename_i j want hg
   split at hk
   ·rename_i hs
    exact .inr ⟨e,hag,by simp [Region.wanted,hg,Zhd hs],hk⟩
   ·rename_i t hs
    have hy:=Zi2 (a:=a) hs
    split at hk
    ·rename_i b ht
     have ht':a.tmps[t]?=some (.bool b):=hag.val t _ ht
     rw [ht'] at hy
     split at hk
     ·exact .inl ⟨e,hag,by simp [Region.wanted,hg,hy],hk⟩
     ·exact .inl ⟨e,hag,by simp [Region.wanted,hg,hy],hk⟩
     ·exact .inr ⟨e,hag,by simp [Region.wanted,hg,hy],hk⟩
     ·exact .inr ⟨e,hag,by simp [Region.wanted,hg,hy],hk⟩
    ·rename_i b ht
     have ht':a.tmps[t]?=some (.bool b):=hag.val t _ ht
     rw [ht'] at hy
     split at hk
     ·cases b with
      | true=>exact .inl ⟨_,hag.tell ht,by simp [Region.wanted,hg,hy],hk.1 rfl⟩
      | false=>exact .inr ⟨_,hag.tell ht,by simp [Region.wanted,hg,hy],hk.2 rfl⟩
     ·cases b with
      | true=>exact .inr ⟨_,hag.tell ht,by simp [Region.wanted,hg,hy],hk.1 rfl⟩
      | false=>exact .inl ⟨_,hag.tell ht,by simp [Region.wanted,hg,hy],hk.2 rfl⟩
    ·rename_i v hv1 hv2 ht
     have ht':a.tmps[t]?=some v.v:=hag.val t _ ht
     refine .inr ⟨e,hag,?_,hk⟩
     have:yielded ops a.tmps j=none:=by
       rw [hy,ht']
       cases v with
       | val u=>cases u<;>first | rfl | exact absurd rfl (hv2 _)
       | lit b=>exact absurd rfl (hv1 b)
       | adr b o=>rfl
       | itr t b=>rfl
       | more k v=>rfl
       | over=>rfl
     simp [Region.wanted,hg,this]
    ·exact hk.elim
theorem ZqV {c:Cfg} {e:Env} {a:Act} {h:Zd} {o:Oper} {K:EV→Zd→Prop} (hag:Agr c.n e a) (hkd:Zdn c o.op = .pure) (hk:opP c o.op e h K):Zcr c o a h K:=by
  obtain ⟨dst,op,type,pos,after,guard⟩:=o
  cases op
  case move=>exact Zj6 hag hk
  case assign=>exact ZgH hag hk
  case pick=>exact Zj5 hag hk
  case nilCheck=>exact Ze3 hag hk
  case binOp=>exact ZhJ hag hk
  case unOp=>exact Zj4 hag hk
  case slice=>exact ZhF hag hk
  case fieldAddr=>exact Zey hag hk
  case field=>exact ZhH hag hk
  case indexAddr=>exact Zex hag hk
  case index=>exact ZhG hag hk
  case extract=>exact ZfW hag hk
  case build=>exact ZhI hag hk
  case makeFunc=>exact Ze4 hag hk
  case convert s d x =>
    simp only [Zdn] at hkd
    split at hkd
    ·rename_i j k hs hd
     exact Ze5 hag hs hd hk
    ·split at hkd<;>cases hkd
    ·cases hkd
  case call cl =>
    obtain ⟨cal,args,ts⟩:=cl
    cases cal with
    | builtin b =>
      cases b<;>first
        | (simp only [Zdn] at hkd;done)
        | (cases hm:ZfQ c.P ts with
            | true=>simp [Zdn,hm] at hkd
            | false=>exact Yt hag (.inl ⟨rfl,hm⟩) hk)
        | exact Yt hag (.inr (.inl rfl)) hk
        | exact Yt hag (.inr (.inr (.inl rfl))) hk
        | exact Yt hag (.inr (.inr (.inr rfl))) hk
        | (simp [Zdn] at hkd)
    | _=>simp [Zdn] at hkd
  all_goals simp [Zdn] at hkd
theorem ZpP {c:Cfg} {op:Op} {t:TypeId} {x:Operand} (h:Zdn c op = .load t x):op = .load t x:=by
  cases op<;>simp [Zdn] at h
  case load=>rw [h.1,h.2]
  case convert=>repeat' (first | (cases h;done) | split at h)
  case call cl =>
    obtain ⟨cal,args,ts⟩:=cl
    cases cal with
    | builtin b=>cases b<;>simp at h<;>(cases hm:ZfQ c.P ts<;>simp [hm] at h)
    | _=>simp at h
def Zjw (h:Zd) (l:List (Nat × Nat × Value)):Prop:=∀ q,q∈l→h.cell q.1 q.2.1=some q.2.2
theorem Zik {h:Zd} {b o:Nat}:∀ {vs:List Value} {i:Nat},Zjw h (ZlA b o i vs)↔h.has b (o+i) vs
  | [],i=>⟨fun _=>trivial,fun _ q hq=>(by simp [ZlA] at hq)⟩
  | v::vs,i=>by
    have ih:=Zik (h:=h) (b:=b) (o:=o) (vs:=vs) (i:=i+1)
    unfold Zjw at ih ⊢
    simp only [ZlA,List.forall_mem_cons,Zmq,ih]
    rfl
theorem Zq3 {P:Program} {t:TypeId} {b o:Nat} {K:EV→List (Nat × Nat × Value)→Prop} {h:Zd} (hk:ldH P t h b o K) :
    ∃ v cells,Zjw h cells∧(∀ w:World,Zjw w.heap cells→(loadVar t ⟨b,o,none⟩).run P w = .ok v.v w)∧K v cells:=by
  unfold ldH at hk
  cases hu:P.underlying t with
  | none=>rw [hu] at hk;simp [Za0,Zij] at hk
  | some d =>
    obtain ⟨i,hi⟩:=Zad P hu
    rw [hu] at hk
    unfold loadVar
    cases ha:Za0 (some d) with
    | true =>
      rw [ha] at hk
      simp only [cond_true] at hk
      cases hl:Nat.beq (Zds P 8 t).length (P.cellsOf t) with
      | false=>rw [hl] at hk;exact hk.elim
      | true =>
        rw [hl] at hk
        obtain ⟨vs,hlen,hh,hk⟩:=Zg2 hk
        have hs:i.size=vs.length:=by rw [hlen,Nat.eq_of_beq_eq_true hl,Za3 P hi]
        refine ⟨.val (.agg vs.toArray),_,Zik.2 hh,fun w hw=>?_,hk⟩
        have hw:=Zik.1 hw
        simp only [Sem.run_bind,ZcX P w t hu,ha,Result.andThen_ok,if_true,Xm P w t hi,hs]
        rw [ZbX P w b o vs (by simpa using hw)]
        rfl
    | false =>
      rw [ha] at hk
      simp only [cond_false] at hk
      obtain ⟨v,hc,hk,_⟩:=Zf4 hk
      refine ⟨v,_,?_,fun w hw=>?_,hk⟩
      ·intro q hq
       simp only [List.mem_singleton] at hq
       subst hq
       exact hc
      have hw:Zd.cell w.heap b o=some v.v:=hw _ (.head _)
      simp only [Sem.run_bind,ZcX P w t hu,ha,Result.andThen_ok,Bool.false_eq_true,if_false]
      exact ZeC P w hw _
theorem Zpj {c:Cfg} {op:Op} {x:Operand} (h:Zdn c op = .text x):∃ s d e,op = .convert s d x∧c.P.underlying s=some (.slice e)∧c.P.underlying d=some .string∧c.P.underlying e=some (.int .u8):=by
  cases op<;>simp [Zdn] at h
  case convert s d y =>
    split at h
    ·cases h
    ·rename_i e hs hd
     split at h
     ·rename_i he
      cases h
      exact ⟨s,d,e,rfl,hs,hd,he⟩
     ·cases h
    ·cases h
  case call cl =>
    obtain ⟨cal,args,ts⟩:=cl
    cases cal with
    | builtin b=>cases b<;>simp at h<;>(cases hm:ZfQ c.P ts<;>simp [hm] at h)
    | _=>simp at h
theorem Zg3 {h:Zd}:∀ {l:List (Nat × Nat × Value)},Zo h l↔Zjw h l
  | []=>⟨fun _ q hq=>(by cases hq),fun _=>trivial⟩
  | (b,o,v)::r=>by
    have ih:=Zg3 (h:=h) (l:=r)
    unfold Zjw at ih ⊢
    simp only [Zo,List.forall_mem_cons,ih]
def ZbV (hd:ZdR):ZgE:=hd.map fun x=>(x.1,fun w=>x.2 w.heap)
theorem ZfI {w:World} {K:Prop}:∀ {hd:ZdR},Zlj w.heap hd K→(ZbV hd).all w∧K
  | [],hk=>⟨fun q hq=>(by cases hq),hk⟩
  | x::r,hk=>by
    obtain ⟨h1,hk⟩:=hk
    obtain ⟨h2,hk⟩:=ZfI (hd:=r) hk
    refine ⟨fun q hq=>?_,hk⟩
    rcases List.mem_cons.1 hq with rfl | hq
    ·exact h1
    ·exact h2 q hq
def nxt (ops:Array Oper) (L:ZgE) (j:Nat):ZgE :=
  match ops[j]? with
  | some o=>L.filter fun p=> !ZdA p.1 o.after.toList
  | none=>L
theorem ZbY (ops:Array Oper):Next ops (nxt ops) where
  mem L j p hp:=by
    unfold nxt at hp
    split at hp
    ·exact (List.mem_filter.1 hp).1
    ·exact hp
  keep L j p hp hw:=by
    unfold nxt
    split
    ·rename_i o ho
     refine List.mem_filter.2 ⟨hp,?_⟩
     cases hb:ZdA p.1 o.after.toList with
     | false=>rfl
     | true =>
       obtain ⟨e,he,h1,h2⟩:=ZfC.1 hb
       exact absurd ⟨o,ho,e,by simpa using he,h1,h2⟩ hw
    ·exact hp
  same L L' j p hp hl:=by
    unfold nxt at hp ⊢
    split at hp
    ·rename_i o ho
     exact List.mem_filter.2 ⟨hl,(List.mem_filter.1 hp).2⟩
    ·exact hl
theorem ZmJ {ops:Array Oper} {j:Nat} {o:Oper} (ho:ops[j]?=some o) (hd:ZdR):nxt ops (ZbV hd) j=ZbV (Zlu o hd):=by
  unfold nxt
  rw [ho]
  simp only
  induction hd with
  | nil=>rfl
  | cons x r ih =>
    have e:ZbV (x::r)=(x.1,fun w:World=>x.2 w.heap)::ZbV r:=rfl
    rw [e,List.filter_cons]
    simp only [Zlu]
    cases hb:ZdA x.1 o.after.toList with
    | true=>simp only [Bool.not_true,Bool.false_eq_true,if_false,cond_true];exact ih
    | false=>simp only [Bool.not_false,if_true,cond_false];rw [ih];rfl
theorem Znm {ops:Array Oper} {m:Nat} {listed:Array Bool} (hr:Rel ops m listed) (h:ZpH m 0 ops.toList=true):Region.ready .any ops listed=[]:=by
  have key:∀ (os:List Oper) (k:Nat),ZpH m k os=true→∀ j o,os[j]?=some o→Zbe m (k+j) o=false:=by
    intro os
    induction os with
    | nil=>intro k _ j o ho;simp at ho
    | cons x os ih =>
      intro k h j o ho
      simp only [ZpH] at h
      cases hx:Zbe m k x with
      | true=>rw [hx] at h;cases h
      | false =>
        rw [hx] at h
        cases j with
        | zero=>simp at ho;subst ho;exact hx
        | succ j =>
          have:=ih (k+1) h j o (by simpa using ho)
          rw [show k+(j+1)=k+1+j from by omega]
          exact this
  apply List.eq_nil_iff_forall_not_mem.2
  intro j hj
  obtain ⟨o,ho,hb⟩:=hr.ready.1 hj
  have:=key _ 0 h j o (by simpa using ho)
  rw [Nat.zero_add,hb] at this
  cases this
section
variable {rn:Option Nat} {P:Program} {ops:Array Oper} {Q:Exit→Act→World→Prop} {i m:Nat} {o:Oper} {listed:Array Bool} {a:Act} {w:World} {L:ZgE} {fuel:Nat} {v:Value} {S:World→Prop}
theorem ZfH (ho:ops[i]?=some o):i<ops.size:=by
  rcases Nat.lt_or_ge i ops.size with h | h
  ·exact h
  ·rw [Array.getElem?_eq_none h] at ho;cases ho
theorem ZpC (hr:Rel ops m listed) (h:Zgn m i 0 ops.toList=true):∀ j,j∈Region.ready .any ops listed→j=i:=by
  intro j hj
  obtain ⟨o',ho',hb⟩:=hr.ready.1 hj
  have:=ZgT h j o' (by simpa using ho') (by rw [Nat.zero_add];exact hb)
  rw [Nat.zero_add] at this
  exact this
theorem Zts (hr:Rel ops m listed) (h:ZiV ops o m i 0 ops.toList=true) :
    ∀ j oj,ops[j]?=some oj→j≠i→listed.getD j true=false→(∀ e∈oj.after,Region.binds .any e=true→e.on≠i)→o.apart ops oj=true:=by
  intro j oj hj hne hl hno
  have hlt:=ZfH hj
  refine ZjE h j oj (by simpa using hj) (by rw [Nat.zero_add];exact hne) ?_ hno
  rw [Nat.zero_add,← hr.bit' hlt]
  exact hl
theorem ZmF (hnd:ZdG ops) (ho:ops[i]?=some o) (hsel:Region.noSelect ops=true) (hQ:∀ c a v w,Q (.panic c) (a.put o.dst v) w→Q (.panic c) a w) (hr:Rel ops m listed) (hm:Zbe m i o=true) (hf:ZiV ops o m i 0 ops.toList=true)
    (hy:YieldsIf P ops S o v a) (hS:S w) (hall:ZgE.all L w) (h:wpK rn P ops Q (nxt ops) ((i,S)::L) fuel (listed.setIfInBounds i true) (a.put o.dst v) w) :
    wpK rn P ops Q (nxt ops) L (fuel+1) listed a w :=
  Zo7 hnd (ZbY ops) ho (Region.noSelect_spec hsel) (fun c a w h=>hQ c a v w h) fuel L listed a w (Zts hr hf) (hr.ready.2 ⟨o,ho,hm⟩) hy hS hall h
theorem Zkb (hnd:ZdG ops) (ho:ops[i]?=some o) (hr:Rel ops m listed) (hm:Zbe m i o=true) (hf:Zgn m i 0 ops.toList=true)
    (hy:YieldsIf P ops S o v a) (hS:S w) (hall:ZgE.all L w) (h:wpK rn P ops Q (nxt ops) L fuel (listed.setIfInBounds i true) (a.put o.dst v) w) :
    wpK rn P ops Q (nxt ops) L (fuel+1) listed a w:=by
  refine ZmB (ZpC hr hf) (hr.ready.2 ⟨o,ho,hm⟩) (ZdS hnd ho hy hS ⟨fun p hp=>hall p ((ZbY ops).mem _ _ _ hp),?_⟩)
  exact Zev (ZbY ops) _ _ _ _ _ _ (fun p hp=> .inl ((ZbY ops).mem _ _ _ hp)) h
theorem Zka (hnd:ZdG ops) (ho:ops[i]?=some o) (hsel:Region.noSelect ops=true) (hQ:∀ c a v w,Q (.panic c) (a.put o.dst v) w→Q (.panic c) a w) (hr:Rel ops m listed) (hm:Zbe m i o=true)
    (hf:ZiV ops o m i 0 ops.toList=true∨Zgn m i 0 ops.toList=true)
    (hy:YieldsIf P ops (fun _=>True) o v a) (hall:ZgE.all L w) (h:wpK rn P ops Q (nxt ops) L fuel (listed.setIfInBounds i true) (a.put o.dst v) w) :
    wpK rn P ops Q (nxt ops) L (fuel+1) listed a w:=by
  rcases hf with hf | hf
  ·refine ZmF hnd ho hsel hQ hr hm hf hy trivial hall ?_
   refine Zev (ZbY ops) _ _ _ _ _ _ (fun p hp=>?_) h
   rcases List.mem_cons.1 hp with rfl | hp
   ·exact .inr fun _=>trivial
   ·exact .inl hp
  ·exact Zkb hnd ho hr hm hf hy trivial hall h
end
theorem ZqW {ops:Array Oper} {m i l:Nat} {listed:Array Bool} (hr:Rel ops m listed) (h:Zjh m i l 0 ops.toList=true):∀ j,j∈Region.ready .any ops listed→j=i∨j=l:=by
  intro j hj
  obtain ⟨o',ho',hb⟩:=hr.ready.1 hj
  have:=ZfZ h j o' (by simpa using ho') (by rw [Nat.zero_add];exact hb)
  rw [Nat.zero_add] at this
  exact this
section
variable {c:Cfg} {ops:Array Oper} {D:List Nat} {a0:Act} {w0:World} {Qx:Ex→Env→Zd→Prop}
def ZtM (c:Cfg) (ops:Array Oper) (D:List Nat) (a0:Act) (w0:World) (Qx:Ex→Env→Zd→Prop) (fuel m:Nat) (rest:ZdR→Env→Zd→Prop):Prop :=
  ∀ (listed:Array Bool) (hd:ZdR) (e:Env) (a:Act) (w:World),Rel ops m listed→Agr c.n e a→Same w0 w→Xr D a0 a→(ZbV hd).all w →
    rest hd e w.heap→wpK c.rnd c.P ops (Zc1 c D a0 w0 Qx) (nxt ops) (ZbV hd) fuel listed a w
theorem Zmh (hnd:ZdG ops) (hc:c.OK) (hD:D=ops.toList.filterMap (·.dst)) {i m fuel:Nat} {o:Oper} {hd:ZdR} {e:Env} {a:Act} {w:World} {listed:Array Bool} {rest:ZdR→Env→Zd→Prop}
    (ho:ops[i]?=some o) (hr:Rel ops m listed) (hag:Agr c.n e a) (hs:Same w0 w) (hkp:Xr D a0 a) (hall:(ZbV hd).all w) (ih:ZtM c ops D a0 w0 Qx fuel (Zke m i) rest) (hk:Ztw c ops o hd e w.heap rest) :
    wpOpIn (fen c.rnd) 0 c.P ops (Zc1 c D a0 w0 Qx) i (fun a' w'=>(nxt ops (ZbV hd) i).all w'∧wpK c.rnd c.P ops (Zc1 c D a0 w0 Qx) (nxt ops) (nxt ops (ZbV hd) i) fuel (listed.setIfInBounds i true) a' w') a w:=by
  have hr':=hr.set (ZfH ho)
  have hput:∀ v,Xr D a0 (a.put o.dst v):=fun v=>hkp.trans (Xr.put fun x hx=>hD▸Zdq ho hx)
  unfold Ztw at hk
  rcases ZeG hag hk with ⟨e1,hag1,hw,hk⟩ | ⟨e1,hag1,hw,hk⟩
  ·rw [ZmJ ho]
   unfold Go.wpOpIn
   simp only [ho,hw,if_true]
   refine ZmI hc hag1 (fun v w' hs' hp=>⟨v,rfl,hs.trans hs',hkp,hp⟩) hk fun v w' hs' hk=>?_
   obtain ⟨e',hag',hk⟩:=ZbH hag1 hk
   obtain ⟨hall',hk⟩:=ZfI hk
   exact ⟨hall',ih _ _ e' _ w' hr' hag' (hs.trans hs') (hput _) hall' hk⟩
  ·obtain ⟨e',hag',hk⟩:=ZbH hag1 hk
   have hy:YieldsIf c.P ops (fun _=>True) o undef a:= .inr ⟨hw,rfl⟩
   refine ZdS hnd ho hy trivial ⟨fun p hp=>hall p ((ZbY ops).mem _ _ _ hp),?_⟩
   exact Zev (ZbY ops) _ _ _ _ _ _ (fun p hp=> .inl ((ZbY ops).mem _ _ _ hp)) (ih _ hd e' _ w hr' hag' hs (hput _) hall hk)
theorem Ztq (hnd:ZdG ops) (hD:D=ops.toList.filterMap (·.dst)) {i m fuel:Nat} {o:Oper} {hd:ZdR} {e:Env} {a:Act} {w:World} {listed:Array Bool} {rest:ZdR→Env→Zd→Prop}
    (ho:ops[i]?=some o) (hr:Rel ops m listed) (hag:Agr c.n e a) (hs:Same w0 w) (hkp:Xr D a0 a) (hall:(ZbV hd).all w) (ih:ZtM c ops D a0 w0 Qx fuel (Zke m i) rest)
    (hq:∀ {e:Env} {K:EV→Zd→Prop},Agr c.n e a→opP c o.op e w.heap K→Zmr c o a w.heap K) (hm:Zbe m i o=true) (hf:Zgn m i 0 ops.toList=true)
    (hk:ZvR c ops o hd e w.heap rest):wpK c.rnd c.P ops (Zc1 c D a0 w0 Qx) (nxt ops) (ZbV hd) (fuel+1) listed a w:=by
  have hr':=hr.set (ZfH ho)
  have hput:∀ v,Xr D a0 (a.put o.dst v):=fun v=>hkp.trans (Xr.put fun x hx=>hD▸Zdq ho hx)
  unfold ZvR at hk
  rcases ZeG hag hk with ⟨e1,hag1,hw,hk⟩ | ⟨e1,hag1,hw,hk⟩
  ·obtain ⟨v,hrun,hk⟩:=hq hag1 hk
   obtain ⟨e',hag',hk⟩:=ZbH hag1 hk
   exact Zkb hnd (S:=fun w'=>w'.heap=w.heap) ho hr hm hf (v:=v.v) (.inl ⟨hw,fun w' hw'=>hrun w' hw'⟩) rfl hall (ih _ hd e' _ w hr' hag' hs (hput _) hall hk)
  ·obtain ⟨e',hag',hk⟩:=ZbH hag1 hk
   exact Zkb hnd (S:=fun _=>True) ho hr hm hf (v:=undef) (.inr ⟨hw,rfl⟩) trivial hall (ih _ hd e' _ w hr' hag' hs (hput _) hall hk)
theorem ZmE (hnd:ZdG ops) (hD:D=ops.toList.filterMap (·.dst)) (hsel:Region.noSelect ops=true) {i m fuel:Nat} {o:Oper} {hd:ZdR} {e:Env} {a:Act} {w:World} {listed:Array Bool} {rest:ZdR→Env→Zd→Prop} {A:Env→Prop}
    (ho:ops[i]?=some o) (hr:Rel ops m listed) (hag:Agr c.n e a) (hs:Same w0 w) (hkp:Xr D a0 a) (hall:(ZbV hd).all w) (ih:ZtM c ops D a0 w0 Qx fuel (Zke m i) rest)
    (hm:Zbe m i o=true) (hf:ZiV ops o m i 0 ops.toList=true)
    (hA:∀ e1,Agr c.n e1 a→A e1→∃ (v:EV) (S:Zd→Prop),S w.heap∧(∀ w':World,S w'.heap→(execOp a.eval o).run c.P w' = .ok (.value v.v) w')∧ZlL c.n e1 o.dst v fun e'=>rest ((i,S)::hd) e' w.heap)
    (hk:Zim ops.toList o e A (fun e=>ZlL c.n e o.dst (.val undef) fun e'=>rest hd e' w.heap)):wpK c.rnd c.P ops (Zc1 c D a0 w0 Qx) (nxt ops) (ZbV hd) (fuel+1) listed a w:=by
  have hr':=hr.set (ZfH ho)
  have hput:∀ v,Xr D a0 (a.put o.dst v):=fun v=>hkp.trans (Xr.put fun x hx=>hD▸Zdq ho hx)
  have hQ:∀ c' a' v w',Zc1 c D a0 w0 Qx (.panic c') (a'.put o.dst v) w'→Zc1 c D a0 w0 Qx (.panic c') a' w':=fun _ _ _ _ h=>ZhZ (fun x hx=>by rw [hD];exact Zdq ho hx) h
  rcases ZeG hag hk with ⟨e1,hag1,hw,hk⟩ | ⟨e1,hag1,hw,hk⟩
  ·obtain ⟨v,S,hS,hrun,hk⟩:=hA e1 hag1 hk
   obtain ⟨e',hag',hk⟩:=ZbH hag1 hk
   refine ZmF hnd (S:=fun w=>S w.heap) ho hsel hQ hr hm hf (v:=v.v) (.inl ⟨hw,fun w' hw'=>hrun w' hw'⟩) hS hall ?_
   refine ih _ ((i,S)::hd) e' _ w hr' hag' hs (hput _) ?_ hk
   intro q hq
   rcases List.mem_cons.1 hq with rfl | hq
   ·exact hS
   ·exact hall q hq
  ·obtain ⟨e',hag',hk⟩:=ZbH hag1 hk
   exact Zka hnd ho hsel hQ hr hm (.inl hf) (v:=undef) (.inr ⟨hw,rfl⟩) hall (ih _ hd e' _ w hr' hag' hs (hput _) hall hk)
end
theorem ZcN {j:Nat}:∀ {l:List Nat},Zby l j=true↔j∈l
  | []=>by simp [Zby]
  | x::xs=>by
    have ih:=ZcN (j:=j) (l:=xs)
    simp only [Zby]
    cases hb:Nat.beq j x with
    | true=>simp only [cond_true,true_iff];exact (Nat.eq_of_beq_eq_true hb) ▸ .head _
    | false=>simp only [cond_false,ih,List.mem_cons];exact ⟨.inr,fun h=>h.resolve_left (Nat.ne_of_beq_eq_false hb)⟩
theorem Zhl {m:Nat} {E:List Nat}:∀ {es:List Edge},Zfv m E es=true→∀ x∈es,Region.binds .any x=true→Zef m x.on=true∨Zby E x.on=true
  | [],_,x,hx,_=>by cases hx
  | y::es,h,x,hx,hb=>by
    simp only [Zfv] at h
    rcases List.mem_cons.1 hx with rfl | hx
    ·rw [hb] at h
     cases h1:Zef m x.on with
     | true=>exact .inl rfl
     | false =>
       rw [h1] at h
       cases h2:Zby E x.on with
       | true=>exact .inr rfl
       | false=>rw [h2] at h;cases h
    ·refine Zhl (es:=es) ?_ x hx hb
     cases h1:Region.binds .any y with
     | false=>rw [h1] at h;exact h
     | true =>
       cases h2:Zef m y.on with
       | true=>rw [h1,h2] at h;exact h
       | false =>
         cases h3:Zby E y.on with
         | true=>rw [h1,h2,h3] at h;exact h
         | false=>rw [h1,h2,h3] at h;cases h
theorem Zi5 {ops:Array Oper} {m k:Nat} {E ks:List Nat} (h:Zk1 ops m E (k::ks)=true) :
    ∃ o,ops[k]?=some o∧Zef m k=false∧o.guard=none∧Zfv m E o.after.toList=true∧Zk1 ops m (k::E) ks=true:=by
  simp only [Zk1] at h
  split at h
  ·rename_i o ho
   cases h1:Zef m k with
   | true=>rw [h1] at h;cases h
   | false =>
     rw [h1] at h
     cases h2:Zby E k with
     | true=>rw [h2] at h;cases h
     | false =>
       rw [h2] at h
       cases h3:o.guard.isNone with
       | false=>rw [h3] at h;cases h
       | true =>
         rw [h3] at h
         cases h4:Zfv m E o.after.toList with
         | false=>rw [h4] at h;cases h
         | true=>rw [h4] at h;exact ⟨o,ho,rfl,Option.isNone_iff_eq_none.1 h3,h4,h⟩
  ·cases h
theorem Zj9 {ops:Array Oper} {m:Nat}:∀ {L E:List Nat},Zk1 ops m E L=true→∀ k∈L,∃ o,ops[k]?=some o∧Zef m k=false∧o.guard=none
  | [],_,_,k,hk=>by cases hk
  | x::L,E,h,k,hk=>by
    obtain ⟨o,h1,h2,h3,_,h5⟩:=Zi5 h
    rcases List.mem_cons.1 hk with rfl | hk
    ·exact ⟨o,h1,h2,h3⟩
    ·exact Zj9 h5 k hk
theorem Zi4 {ops:Array Oper} {m:Nat} {d:Nat→Bool} {L0:List Nat}:∀ {L E:List Nat},Zk1 ops m E L=true→(∀ k,Zby E k=true→Zby L0 k=true∧d k=true)→(∀ k∈L,Zby L0 k=true)→(∃ k∈L,d k=false) →
    ∃ k o,k∈L∧d k=false∧ops[k]?=some o∧∀ x∈o.after.toList,Region.binds .any x=true→Zef m x.on=true∨(Zby L0 x.on=true∧d x.on=true)
  | [],_,_,_,_,⟨k,hk,_⟩=>by cases hk
  | x::L,E,h,hE,hL,hn=>by
    obtain ⟨o,h1,_,_,h4,h5⟩:=Zi5 h
    cases hd:d x with
    | false=>exact ⟨x,o,.head _,hd,h1,fun y hy hb=>(Zhl h4 y hy hb).imp id (hE _)⟩
    | true =>
      obtain ⟨k,o',hk,h6⟩:=Zi4 (d:=d) (L0:=L0) h5 (fun k hk=>by
        rcases List.mem_cons.1 (ZcN.1 hk) with rfl | hk
        ·exact ⟨hL _ (.head _),hd⟩
        ·exact hE k (ZcN.2 hk)) (fun k hk=>hL k (.tail _ hk)) (by
        obtain ⟨k,hk,hk2⟩:=hn
        rcases List.mem_cons.1 hk with rfl | hk
        ·rw [hd] at hk2;cases hk2
        ·exact ⟨k,hk,hk2⟩)
      exact ⟨k,o',.tail _ hk,h6⟩
theorem Zgc {m:Nat} {L:List Nat}:∀ {es:List Edge},ZcK m L es=true→∃ x,x∈es∧Region.binds .any x=true∧Zef m x.on=false∧Zby L x.on=false
  | [],h=>by cases h
  | y::es,h=>by
    have rec_:ZcK m L es=true→∃ x,x∈y::es∧Region.binds .any x=true∧Zef m x.on=false∧Zby L x.on=false:=fun h =>
      let ⟨x,hx,h2⟩:=Zgc h
      ⟨x,.tail _ hx,h2⟩
    simp only [ZcK] at h
    cases h1:Region.binds .any y with
    | false=>rw [h1] at h;exact rec_ h
    | true =>
      rw [h1] at h
      cases h2:Zef m y.on with
      | true=>rw [h2] at h;exact rec_ h
      | false =>
        rw [h2] at h
        cases h3:Zby L y.on with
        | true=>rw [h3] at h;exact rec_ h
        | false=>exact ⟨y,.head _,h1,h2,h3⟩
theorem Zgd {es:List Edge}:∀ {L:List Nat},ZfD es L=true→∀ k∈L,ZdA k es=true
  | [],_,k,hk=>by cases hk
  | x::L,h,k,hk=>by
    simp only [ZfD] at h
    cases h1:ZdA x es with
    | false=>rw [h1] at h;cases h
    | true =>
      rw [h1] at h
      rcases List.mem_cons.1 hk with rfl | hk
      ·exact h1
      ·exact Zgd h k hk
theorem Zlb {m:Nat} {L:List Nat}:∀ {os:List Oper} {k:Nat},Zvt m L k os=true→∀ j o,os[j]?=some o→Zef m (k+j)=true∨Zby L (k+j)=true∨ZcK m L o.after.toList=true∨ZfD o.after.toList L=true
  | [],k,_,j,o,ho=>by simp at ho
  | x::os,k,h,j,o,ho=>by
    simp only [Zvt] at h
    generalize hc:(bif Zef m k then true else bif Zby L k then true else bif ZcK m L x.after.toList then true else ZfD x.after.toList L)=b at h
    cases b with
    | false=>cases h
    | true =>
      cases j with
      | succ j =>
        have:=Zlb (k:=k+1) h j o (by simpa using ho)
        rw [show k+(j+1)=k+1+j from by omega]
        exact this
      | zero =>
        simp at ho
        subst ho
        cases h1:Zef m k with
        | true=>exact .inl rfl
        | false =>
          rw [h1] at hc
          cases h2:Zby L k with
          | true=>exact .inr (.inl rfl)
          | false =>
            rw [h2] at hc
            cases h3:ZcK m L x.after.toList with
            | true=>exact .inr (.inr (.inl rfl))
            | false=>rw [h3] at hc;exact .inr (.inr (.inr hc))
theorem ZgS {j k:Nat}:∀ {os:List Oper} {i:Nat},Zkn j k i os=true→∀ l o,os[l]?=some o→o.dst=some j→i+l=k
  | [],i,_,l,o,ho,_=>by simp at ho
  | x::os,i,h,l,o,ho,hd=>by
    simp only [Zkn] at h
    cases hb:Nat.beq i k with
    | true =>
      rw [hb] at h
      cases l with
      | zero=>exact Nat.eq_of_beq_eq_true hb
      | succ l =>
        have:=ZgS (i:=i+1) h l o (by simpa using ho) hd
        omega
    | false =>
      rw [hb] at h
      simp only [cond_false] at h
      cases l with
      | zero =>
        simp at ho
        subst ho
        rw [hd] at h
        simp only [Nat.beq_refl,cond_true] at h
        cases h
      | succ l =>
        have h':Zkn j k (i+1) os=true:=by
          split at h
          ·rename_i y hy
           cases hb2:Nat.beq y j with
           | true=>rw [hb2] at h;cases h
           | false=>rw [hb2] at h;exact h
          ·exact h
        have:=ZgS (i:=i+1) h' l o (by simpa using ho) hd
        omega
theorem Zlm {ops:Array Oper} {k:Nat} {o:Oper} (ho:ops[k]?=some o):Y8 ops.toList k=o.dst:=by
  unfold Y8
  rw [show ops.toList[k]?=ops[k]? from by simp,ho]
  rfl
theorem ZfR {ops:Array Oper} {k j:Nat} (h:Y8 ops.toList k=some j):∃ o,ops[k]?=some o∧o.dst=some j:=by
  unfold Y8 at h
  rw [show ops.toList[k]?=ops[k]? from by simp] at h
  cases ho:ops[k]? with
  | none=>rw [ho] at h;cases h
  | some o=>rw [ho] at h;exact ⟨o,rfl,h⟩
theorem ZgI {ops:Array Oper} {slots:List Nat}:∀ {L:List Nat},ZlR ops.toList slots L=true→∀ k∈L,∀ j,Y8 ops.toList k=some j→Zby slots j=true∧∀ i o,ops[i]?=some o→o.dst=some j→i=k
  | [],_,k,hk,_,_=>by cases hk
  | x::L,h,k,hk,j,hj=>by
    simp only [ZlR] at h
    rcases List.mem_cons.1 hk with rfl | hk
    ·rw [hj] at h
     simp only at h
     cases h1:Zby slots j with
     | false=>rw [h1] at h;cases h
     | true =>
       rw [h1] at h
       cases h2:Zkn j k 0 ops.toList with
       | false=>rw [h2] at h;cases h
       | true=>exact ⟨rfl,fun i o ho hd=>by have:=ZgS h2 i o (by simpa using ho) hd;omega⟩
    ·refine ZgI (L:=L) ?_ k hk j hj
     split at h
     ·rename_i y hy
      cases h1:Zby slots y with
      | false=>rw [h1] at h;cases h
      | true =>
        rw [h1] at h
        cases h2:Zkn y x 0 ops.toList with
        | false=>rw [h2] at h;cases h
        | true=>rw [h2] at h;exact h
     ·exact h
theorem ZjA {ops:List Oper} {j:Nat}:∀ {L:List Nat},Zmc ops j L=true→∃ k,k∈L∧Y8 ops k=some j
  | [],h=>by cases h
  | x::L,h=>by
    have rec_:Zmc ops j L=true→∃ k,k∈x::L∧Y8 ops k=some j:=fun h=>let ⟨k,hk,h2⟩:=ZjA h;⟨k,.tail _ hk,h2⟩
    simp only [Zmc] at h
    split at h
    ·rename_i y hy
     cases hb:Nat.beq y j with
     | true=>exact ⟨x,.head _,by rw [hy,Nat.eq_of_beq_eq_true hb]⟩
     | false=>rw [hb] at h;exact rec_ h
    ·exact rec_ h
theorem ZfY {ops:List Oper} {L:List Nat}:∀ {l:List Nat},Zi7 ops L l=true→∀ j,Zby l j=true→∃ k,k∈L∧Y8 ops k=some j
  | [],_,j,hj=>by cases hj
  | x::l,h,j,hj=>by
    simp only [Zi7] at h
    cases h1:Zmc ops x L with
    | false=>rw [h1] at h;cases h
    | true =>
      rw [h1] at h
      rcases List.mem_cons.1 (ZcN.1 hj) with rfl | hj
      ·exact ZjA h1
      ·exact ZfY h j (ZcN.2 hj)
theorem Ziy {ops:List Oper} {j:Nat}:∀ {es:List Edge},Zhm ops j es=true→∃ x,x∈es∧Region.binds .any x=true∧Y8 ops x.on=some j
  | [],h=>by cases h
  | y::es,h=>by
    have rec_:Zhm ops j es=true→∃ x,x∈y::es∧Region.binds .any x=true∧Y8 ops x.on=some j:=fun h=>let ⟨k,hk,h2⟩:=Ziy h;⟨k,.tail _ hk,h2⟩
    simp only [Zhm] at h
    cases h1:Region.binds .any y with
    | false=>rw [h1] at h;exact rec_ h
    | true =>
      rw [h1] at h
      simp only [cond_true] at h
      split at h
      ·rename_i z hz
       cases hb:Nat.beq z j with
       | true=>exact ⟨y,.head _,h1,by rw [hz,Nat.eq_of_beq_eq_true hb]⟩
       | false=>rw [hb] at h;exact rec_ h
      ·exact rec_ h
theorem Zh7 {d:Nat→Bool} {K:Prop}:∀ {l:List Nat},Zh8 d l K→(∀ i∈l,d i=true)→K
  | [],h,_=>h
  | i::l,h,hd=>Zh7 (h (hd i (.head _))) fun k hk=>hd k (.tail _ hk)
theorem Zlv {L:List Nat} {i:Nat}:∀ {es:List Edge},i∈Zlw L es→Zby L i=true∧∃ x,x∈es∧Region.binds .any x=true∧x.on=i
  | [],h=>by cases h
  | y::es,h=>by
    have rec_:i∈Zlw L es→Zby L i=true∧∃ x,x∈y::es∧Region.binds .any x=true∧x.on=i:=fun h =>
      let ⟨h1,k,hk,h2⟩:=Zlv h
      ⟨h1,k,.tail _ hk,h2⟩
    simp only [Zlw] at h
    cases h1:Region.binds .any y with
    | false=>rw [h1] at h;exact rec_ h
    | true =>
      rw [h1] at h
      cases h2:Zby L y.on with
      | false=>rw [h2] at h;exact rec_ h
      | true =>
        rw [h2] at h
        rcases List.mem_cons.1 h with rfl | h
        ·exact ⟨h2,y,.head _,h1,rfl⟩
        ·exact rec_ h
theorem ZpA {ops:Array Oper} {L:List Nat} {d:Nat→Bool} {f:Nat→Oper→Prop}:∀ {l:List Nat},Zwb ops L d f l→∀ k∈l,∀ o,ops[k]?=some o→d k=false→Zh8 d (Zlw L o.after.toList) (f k o)
  | [],_,k,hk,_,_,_=>by cases hk
  | x::l,h,k,hk,o,ho,hd=>by
    obtain ⟨h1,h2⟩:=h
    rcases List.mem_cons.1 hk with rfl | hk
    ·rw [ho] at h1
     exact h1 hd
    ·exact ZpA h2 k hk o ho hd
theorem ZjI:∀ {tys:List VT} {t:Xa tys},(Xa.evs tys t).length=tys.length
  | [],_=>rfl
  | _::vs,t=>congrArg (· + 1) (ZjI (tys:=vs) (t:=t.2))
theorem Zfk {j:Nat} {v:EV}:∀ {slots:List Nat} {xs:List EV},Zby slots j=true→slots.length=xs.length→Xx slots (ZrH slots j v xs) j=some v
  | [],_,h,_=>by cases h
  | s::ss,[],_,h=>by cases h
  | s::ss,x::xs,h,hl=>by
    simp only [ZrH]
    cases hb:Nat.beq j s with
    | true=>simp only [cond_true,Xx,hb]
    | false =>
      simp only [cond_false,Xx,hb]
      simp only [Zby,hb,cond_false] at h
      exact Zfk h (Nat.succ.inj hl)
theorem ZeV {j i:Nat} {v:EV} (hne:i≠j):∀ {slots:List Nat} {xs:List EV},Xx slots (ZrH slots j v xs) i=Xx slots xs i
  | [],_=>rfl
  | s::ss,[]=>rfl
  | s::ss,x::xs=>by
    simp only [ZrH]
    cases hb:Nat.beq j s with
    | true =>
      have:=Nat.eq_of_beq_eq_true hb
      subst this
      have h2:Nat.beq i j=false:=by
        cases h:Nat.beq i j with
        | true=>exact absurd (Nat.eq_of_beq_eq_true h) hne
        | false=>rfl
      simp only [cond_true,Xx,h2,cond_false]
    | false =>
      simp only [cond_false,Xx]
      rw [ZeV hne]
theorem Zih {j:Nat} {x:EV}:∀ {slots:List Nat} {vs us:List EV},us.map EV.v=vs.map EV.v→Xx slots vs j=some x→∃ y,Xx slots us j=some y∧y.v=x.v
  | [],_,_,_,h=>by simp [Xx] at h
  | s::ss,[],_,_,h=>by simp [Xx] at h
  | s::ss,v::vs,[],hm,h=>by simp at hm
  | s::ss,v::vs,u::us,hm,h=>by
    simp only [List.map_cons,List.cons.injEq] at hm
    simp only [Xx] at h ⊢
    cases hb:Nat.beq j s with
    | true=>rw [hb] at h;simp only [cond_true,Option.some.injEq] at h;subst h;exact ⟨u,rfl,hm.1⟩
    | false=>rw [hb] at h;exact Zih hm.2 h
theorem Zg1 {j:Nat}:∀ {slots:List Nat} {vs:List EV},Zby slots j=false→Xx slots vs j=none
  | [],_,_=>rfl
  | s::ss,[],_=>rfl
  | s::ss,v::vs,h=>by
    simp only [Zby] at h
    cases hb:Nat.beq j s with
    | true=>rw [hb] at h;cases h
    | false =>
      rw [hb] at h
      simp only [Xx,hb,cond_false]
      exact Zg1 h
def Zmi (d:Nat→Bool):List Nat→Nat
  | []=>0
  | k::ks=>bif d k then Zmi d ks else Zmi d ks+1
theorem Zqd {d:Nat→Bool} {k:Nat}:∀ {l:List Nat},Zmi (ZkN d k) l≤Zmi d l
  | []=>Nat.le_refl _
  | x::l=>by
    have ih:=Zqd (d:=d) (k:=k) (l:=l)
    have e:ZkN d k x=(bif Nat.beq x k then true else d x):=rfl
    simp only [Zmi,e]
    cases hb:Nat.beq x k<;>cases hd:d x<;>simp only [cond_true,cond_false]<;>omega
theorem Zqc {d:Nat→Bool} {k:Nat} (hd:d k=false):∀ {l:List Nat},k∈l→Zmi (ZkN d k) l<Zmi d l
  | [],h=>by cases h
  | x::l,h=>by
    have h1:=Zqd (d:=d) (k:=k) (l:=l)
    rcases List.mem_cons.1 h with rfl | h
    ·have e:ZkN d k k=true:=by show (bif Nat.beq k k then true else d k)=true;rw [Nat.beq_refl];rfl
     simp only [Zmi,e,cond_true,hd,cond_false]
     omega
    ·have h2:=Zqc hd h
     simp only [Zmi]
     cases hb:ZkN d k x<;>cases hd2:d x<;>simp only [cond_true,cond_false]<;>first
       | omega
       | (simp only [ZkN,hd2] at hb;cases h3:Nat.beq x k<;>rw [h3] at hb<;>cases hb)
theorem Zlx {d:Nat→Bool}:∀ {l:List Nat},(∀ k∈l,d k=true)∨(∃ k∈l,d k=false)
  | []=> .inl fun k hk=>by cases hk
  | x::l=>by
    cases hd:d x with
    | false=>exact .inr ⟨x,.head _,hd⟩
    | true =>
      rcases Zlx (d:=d) (l:=l) with h | ⟨k,hk,h⟩
      ·refine .inl fun k hk=>?_
       rcases List.mem_cons.1 hk with rfl | hk
       ·exact hd
       ·exact h k hk
      ·exact .inr ⟨k,.tail _ hk,h⟩
theorem ZmU {d:Nat→Bool} {k:Nat} (hd:d k=false):∀ {l:List Nat},k∈l→0<Zmi d l
  | [],h=>by cases h
  | x::l,h=>by
    simp only [Zmi]
    rcases List.mem_cons.1 h with rfl | h
    ·rw [hd];simp only [cond_false];omega
    ·have:=ZmU hd h
     cases d x<;>simp only [cond_true,cond_false]<;>omega
theorem ZmV {d:Nat→Bool}:∀ {l:List Nat},Zmi d l≤l.length
  | []=>Nat.le_refl _
  | x::l=>by
    have:=ZmV (d:=d) (l:=l)
    simp only [Zmi,List.length_cons]
    cases d x<;>simp only [cond_true,cond_false]<;>omega
theorem ZjN {j:Nat}:∀ {L:List Nat} {m:Nat},Zef (L.foldl Zke m) j=(Zef m j||Zby L j)
  | [],m=>by simp [Zby]
  | x::L,m=>by
    simp only [List.foldl_cons,Zby]
    rw [ZjN,ZkG]
    cases hb:Nat.beq j x with
    | true=>rw [Nat.eq_of_beq_eq_true hb];simp
    | false=>simp [Nat.ne_of_beq_eq_false hb]
theorem Zp1 {c:Cfg} {ops:Array Oper} {D:List Nat} {a0:Act} {w0:World} {Qx:Ex→Env→Zd→Prop} {m N0:Nat} {L slots:List Nat} {tys:List VT} {hd:ZdR} {e:Env} {rest:ZdR→Env→Zd→Prop}
    (ih:∀ f,N0≤f→ZtM c ops D a0 w0 Qx f (L.foldl Zke m) rest) {I:(Nat→Bool)→Xa tys→Zd→Prop}
    (hF:∀ d t h',I d t h'→Zh8 d L (Zlj h' hd (rest hd (ZiY slots (Xa.evs tys t) [] e) h'))) (hSl:Zi7 ops.toList L slots=true) (hU:ZlR ops.toList slots L=true)
    (fuel m':Nat) (d:Nat→Bool) (t:Xa tys) (listed:Array Bool) (a:Act) (w:World) (Lk:ZgE) (hf:N0≤fuel) (hall:∀ k∈L,d k=true) (hr:Rel ops m' listed) (hbit:∀ j,Zef m' j=(Zef m j||(Zby L j&&d j)))
    (hag:Agr c.n ⟨fun j=>bif Zby slots j then none else e.f j,e.mD⟩ a) (hs:Same w0 w) (hkp:Xr D a0 a) (hsl:∀ i o j,i∈L→ops[i]?=some o→d i=true→o.dst=some j→∃ v,Xx slots (Xa.evs tys t) j=some v∧a.tmps[j]?=some v.v)
    (hI:I d t w.heap) (hLk:∀ p,p∈Lk→p∈ZbV hd):wpK c.rnd c.P ops (Zc1 c D a0 w0 Qx) (nxt ops) Lk fuel listed a w:=by
  obtain ⟨hkept,hk⟩:=ZfI (Zh7 (hF d t w.heap hI) hall)
  have hsome:∀ j,Zby slots j=true→∃ v,Xx slots (Xa.evs tys t) j=some v∧a.tmps[j]?=some v.v:=fun j hj=>by
    obtain ⟨k,hk,hg⟩:=ZfY hSl j hj
    obtain ⟨o,ho,hdst⟩:=ZfR hg
    exact hsl k o j hk ho (hall k hk) hdst
  refine Zev (ZbY ops) _ _ _ _ _ _ (fun p hp=> .inl (hLk p hp)) (ih fuel hf listed hd (ZiY slots (Xa.evs tys t) [] e) a w ⟨hr.size,fun j=>?_⟩ ⟨hag.size,hag.defers,fun j v hj=>?_⟩ hs hkp hkept hk)
  ·rw [hr.bit,hbit,ZjN]
   cases hm:Zby L j with
   | false=>simp
   | true=>rw [hall j (ZcN.1 hm)];simp
  ·unfold ZiY at hj
   dsimp only at hj
   cases hms:Zby slots j with
   | true =>
     obtain ⟨x,hx,hxv⟩:=hsome j hms
     rw [hx] at hj
     cases hj
     exact hxv
   | false =>
     rw [Zg1 hms] at hj
     refine hag.val j v ?_
     show (bif Zby slots j then none else e.f j)=some v
     rw [hms]
     exact hj
section
variable {c:Cfg} {ops:Array Oper} {D:List Nat} {a0:Act} {w0:World} {Qx:Ex→Env→Zd→Prop}
theorem ZvQ (hc:c.OK) (hD:D=ops.toList.filterMap (·.dst)) {m N0:Nat} {L slots:List Nat} {tys:List VT} {hd:ZdR} {e:Env} {rest:ZdR→Env→Zd→Prop}
    (hok:Zto ops m L slots=true) (hlen:slots.length=tys.length) (ih:∀ f,N0≤f→ZtM c ops D a0 w0 Qx f (L.foldl Zke m) rest)
    {I:(Nat→Bool)→Xa tys→Zd→Prop}
    (hS:∀ d t h',I d t h'→Zwb ops L d (fun k o=>opP c o.op (eAt ops.toList o.after.toList slots (Xa.evs tys t) e) h' fun v h''=>Zlj h'' (Zlu o hd) (match o.dst with
        | none=>I (ZkN d k) t h''
        | some j=>bif Nat.blt j c.n then (match Xa.un tys (ZrH slots j v (Xa.evs tys t)) with
          | some t'=>I (ZkN d k) t' h''
          | none=>False) else False)) L)
    (hF:∀ d t h',I d t h'→Zh8 d L (Zlj h' hd (rest hd (ZiY slots (Xa.evs tys t) [] e) h'))) :
    ∀ (n fuel m':Nat) (d:Nat→Bool) (t:Xa tys) (listed:Array Bool) (a:Act) (w:World) (Lk:ZgE),N0+n≤fuel→Zmi d L≤n→Rel ops m' listed→(∀ j,Zef m' j=(Zef m j||(Zby L j&&d j))) →
      Agr c.n ⟨fun j=>bif Zby slots j then none else e.f j,e.mD⟩ a→Same w0 w→Xr D a0 a→(∀ i o j,i∈L→ops[i]?=some o→d i=true→o.dst=some j→∃ v,Xx slots (Xa.evs tys t) j=some v∧a.tmps[j]?=some v.v) →
      I d t w.heap→(∀ p,p∈Lk→p∈ZbV hd)→wpK c.rnd c.P ops (Zc1 c D a0 w0 Qx) (nxt ops) Lk fuel listed a w:=by
  unfold Zto at hok
  cases hT:Zk1 ops m [] L with
  | false=>rw [hT] at hok;cases hok
  | true =>
  rw [hT] at hok
  cases hO:Zvt m L 0 ops.toList with
  | false=>rw [hO] at hok;cases hok
  | true =>
  rw [hO] at hok
  cases hU:ZlR ops.toList slots L with
  | false=>rw [hU] at hok;cases hok
  | true =>
  rw [hU] at hok
  have hSl:Zi7 ops.toList L slots=true:=hok
  have hbm:∀ k,k∈L→Zef m k=false:=fun k hk=>(Zj9 hT k hk).choose_spec.2.1
  intro n
  induction n with
  | zero =>
    intro fuel m' d t listed a w Lk hf hcnt hr hbit hag hs hkp hsl hI hLk
    have hall:∀ k∈L,d k=true:=fun k hk=>by
      cases hdk:d k with
      | true=>rfl
      | false=>have:=ZmU hdk hk;omega
    exact Zp1 ih hF hSl hU fuel m' d t listed a w Lk (by omega) hall hr hbit hag hs hkp hsl hI hLk
  | succ n ihn =>
    intro fuel m' d t listed a w Lk hf hcnt hr hbit hag hs hkp hsl hI hLk
    rcases Zlx (d:=d) (l:=L) with hall | hnot
    ·exact Zp1 ih hF hSl hU fuel m' d t listed a w Lk (by omega) hall hr hbit hag hs hkp hsl hI hLk
    ·obtain ⟨k0,o0,hk0,hd0,ho0,hdep0⟩:=Zi4 (d:=d) (L0:=L) hT (fun k hk=>by cases hk) (fun k hk=>ZcN.2 hk) hnot
     cases fuel with
     | zero=>omega
     | succ fuel =>
       refine ⟨fun h0=>?_,fun i hi=>?_⟩
       ·have:k0∈Region.ready .any ops listed:=hr.ready.2 ⟨o0,ho0,by
          unfold Zbe
          rw [hbit k0,hbm k0 hk0,hd0]
          simp only [Bool.and_false,Bool.or_false,cond_false]
          exact Zdz.2 fun x hx hb=>by
            rw [hbit x.on]
            rcases hdep0 x hx hb with h | ⟨h1,h2⟩
            ·rw [h];rfl
            ·rw [h1,h2];simp⟩
        rw [h0] at this
        cases this
       ·obtain ⟨o,ho,hrd⟩:=hr.ready.1 hi
        unfold Zbe at hrd
        cases hbi:Zef m' i with
        | true=>rw [hbi] at hrd;cases hrd
        | false =>
        rw [hbi] at hrd
        simp only [cond_false] at hrd
        have hdeps:=Zdz.1 hrd
        have hbi':=hbit i
        rw [hbi] at hbi'
        have hmi:Zef m i=false:=by cases h:Zef m i with
          | false=>rfl
          | true=>rw [h] at hbi';simp at hbi'
        have hiL:Zby L i=true:=by
          have:=Zlb hO i o (by simpa using ho)
          rw [Nat.zero_add] at this
          rcases this with h | h | h | h
          ·rw [hmi] at h;cases h
          ·exact h
          ·obtain ⟨x,hx,hb,h1,h2⟩:=Zgc h
           have:=hdeps x hx hb
           rw [hbit,h1,h2] at this
           simp at this
          ·have:=Zgd h k0 hk0
           obtain ⟨x,hx,hb,hon⟩:=ZfC.1 this
           have:=hdeps x hx hb
           rw [hbit,hon,hbm k0 hk0,hd0] at this
           simp at this
        have hiM:=ZcN.1 hiL
        have hdi:d i=false:=by
          rw [hmi,hiL] at hbi'
          cases h:d i with
          | false=>rfl
          | true=>rw [h] at hbi';simp at hbi'
        have hon:∀ x∈o.after.toList,Region.binds .any x=true→Zby L x.on=true→d x.on=true:=fun x hx hb hm=>by
          have:=hdeps x hx hb
          rw [hbit,hbm _ (ZcN.1 hm),hm] at this
          simpa using this
        have hstep:=Zh7 (ZpA (hS d t w.heap hI) i hiM o ho hdi) fun k hk=>by
          obtain ⟨h1,x,hx,hb,rfl⟩:=Zlv hk
          exact hon x hx hb h1
        have hagk:Agr c.n (eAt ops.toList o.after.toList slots (Xa.evs tys t) e) a:=by
          refine ⟨hag.size,hag.defers,fun j v hj=>?_⟩
          unfold eAt at hj
          dsimp only at hj
          split at hj
          ·rename_i u hu
           cases hbd:Zhm ops.toList j o.after.toList with
           | false=>rw [hbd] at hj;cases hj
           | true =>
             rw [hbd] at hj
             simp only [cond_true,Option.some.injEq] at hj
             subst hj
             obtain ⟨x,hx,hb,hg⟩:=Ziy hbd
             obtain ⟨ox,hox,hdx⟩:=ZfR hg
             have hjs:Zby slots j=true:=by
               cases h:Zby slots j with
               | true=>rfl
               | false=>rw [Zg1 h] at hu;cases hu
             obtain ⟨k,hk,hgk⟩:=ZfY hSl j hjs
             have hxk:x.on=k:=(ZgI hU k hk j hgk).2 x.on ox hox hdx
             obtain ⟨v',h1,h2⟩:=hsl x.on ox j (hxk▸hk) hox (hon x hx hb (ZcN.2 (hxk▸hk))) hdx
             rw [hu] at h1
             cases h1
             exact h2
          ·rename_i hu
           cases hms:Zby slots j with
           | true=>rw [hms] at hj;cases hj
           | false =>
             rw [hms] at hj
             refine hag.val j v ?_
             show (bif Zby slots j then none else e.f j)=some v
             rw [hms]
             exact hj
        have hg0:o.guard=none:=by
          obtain ⟨o',ho',_,hg⟩:=Zj9 hT i hiM
          rw [ho] at ho'
          cases ho'
          exact hg
        have hw:Region.wanted o (yielded ops a.tmps)=true:=by simp [Region.wanted,hg0]
        unfold Go.wpOpIn
        simp only [ho,hw,if_true]
        refine ZmI hc hagk (fun v w' hs' hp=>⟨v,rfl,hs.trans hs',hkp,hp⟩) hstep fun v w' hs' hk=>?_
        obtain ⟨hall',hk⟩:=ZfI hk
        have hsub:∀ p,p∈nxt ops Lk i→p∈ZbV hd:=fun p hp=>hLk p ((ZbY ops).mem _ _ _ hp)
        refine ⟨fun p hp=>hall' p ?_,?_⟩
        ·rw [← ZmJ ho]
         exact (ZbY ops).same _ _ _ _ hp (hsub p hp)
        have hr':=hr.set (ZfH ho)
        have hput:Xr D a0 (a.put o.dst v.v):=hkp.trans (Xr.put fun x hx=>hD▸Zdq ho hx)
        have hbit':∀ j,Zef (Zke m' i) j=(Zef m j||(Zby L j&&ZkN d i j)):=fun j=>by
          rw [ZkG,hbit j]
          unfold ZkN
          cases hb:Nat.beq j i with
          | true=>rw [Nat.eq_of_beq_eq_true hb,hiL];simp
          | false=>simp [Nat.ne_of_beq_eq_false hb]
        have hcnt':Zmi (ZkN d i) L≤n:=by have:=Zqc hdi hiM;omega
        have hold:∀ k,ZkN d i k=true→k≠i→d k=true:=fun k h hne=>by
          unfold ZkN at h
          cases hb:Nat.beq k i with
          | true=>exact absurd (Nat.eq_of_beq_eq_true hb) hne
          | false=>rw [hb] at h;exact h
        cases hdst:o.dst with
        | none =>
          rw [hdst] at hk
          have hk:I (ZkN d i) t w'.heap:=hk
          rw [hdst] at hput
          refine ihn fuel (Zke m' i) (ZkN d i) t _ (a.put none v.v) w' _ (by omega) hcnt' hr' hbit' hag (hs.trans hs') hput (fun k ok j hk1 hk2 hk3 hk4=>?_) hk hsub
          refine hsl k ok j hk1 hk2 (hold k hk3 fun he=>?_) hk4
          subst he
          rw [ho] at hk2
          cases hk2
          rw [hdst] at hk4
          cases hk4
        | some j0 =>
          rw [hdst] at hk
          simp only at hk
          rw [hdst] at hput
          obtain ⟨hlt,hk⟩:=Zc0 hk
          split at hk
          ·rename_i t' ht'
           have hm:=Zd1 ht'
           have hgi:Y8 ops.toList i=some j0:=(Zlm ho).trans hdst
           obtain ⟨hms,hun⟩:=ZgI hU i hiM j0 hgi
           have hlt':j0<a.tmps.size:=by rw [hag.size];rw [Nat.blt_eq] at hlt;exact hlt
           refine ihn fuel (Zke m' i) (ZkN d i) t' _ (a.put (some j0) v.v) w' _ (by omega) hcnt' hr' hbit' ⟨?_,?_,fun j u hj=>?_⟩ (hs.trans hs') hput (fun k ok j hk1 hk2 hk3 hk4=>?_) hk hsub
           ·simp [Act.put,hag.size]
           ·rw [put_defers];exact hag.defers
           ·have hj':(bif Zby slots j then none else e.f j)=some u:=hj
            have hne:j0≠j:=fun he=>by rw [← he,hms] at hj';cases hj'
            have:=hag.val j u hj
            simp only [Act.put]
            rw [Array.getElem?_setIfInBounds_ne hne]
            exact this
           ·by_cases hki:k=i
            ·subst hki
             rw [ho] at hk2
             cases hk2
             rw [hdst] at hk4
             cases hk4
             obtain ⟨y,hy,hyv⟩:=Zih hm (Zfk (v:=v) hms (hlen.trans ZjI.symm))
             refine ⟨y,hy,?_⟩
             simp [Act.put,hlt',hyv]
            ·have hne:j≠j0:=fun he=>hki (hun k ok hk2 (by rw [hk4,he]))
             obtain ⟨x,hx,hxv⟩:=hsl k ok j hk1 hk2 (hold k hk3 hki) hk4
             obtain ⟨y,hy,hyv⟩:=Zih hm (show Xx slots (ZrH slots j0 v (Xa.evs tys t)) j=some x from by rw [ZeV hne];exact hx)
             refine ⟨y,hy,?_⟩
             simp only [Act.put]
             rw [Array.getElem?_setIfInBounds_ne (Ne.symm hne),hyv]
             exact hxv
          ·exact hk.elim
end
section
variable {c:Cfg} {ops:Array Oper} {D:List Nat} {a0:Act} {w0:World} {Qx:Ex→Env→Zd→Prop}
theorem Zm9 {i m:Nat} {o:Oper} {fr:Bool} (h:ZsY c ops o m i fr=true):Zbe m i o=true∧((Zdn c o.op = .other→Zgn m i 0 ops.toList=true)∧(Zdn c o.op≠ .other→fr=true→ZiV ops o m i 0 ops.toList=true)∧(fr=false→Zgn m i 0 ops.toList=true)):=by
  unfold ZsY at h
  cases hr:Zbe m i o with
  | false=>rw [hr] at h;cases h
  | true =>
    rw [hr] at h
    simp only [cond_true] at h
    refine ⟨rfl,?_⟩
    cases hk:Zdn c o.op with
    | other=>rw [hk] at h;exact ⟨fun _=>h,fun hn=>absurd rfl hn,fun _=>h⟩
    | pure =>
      rw [hk] at h
      cases fr with
      | true=>exact ⟨fun e=>(by cases e),fun _ _=>h,fun e=>(by cases e)⟩
      | false=>exact ⟨fun e=>(by cases e),fun _ e=>(by cases e),fun _=>h⟩
    | load t x =>
      rw [hk] at h
      cases fr with
      | true=>exact ⟨fun e=>(by cases e),fun _ _=>h,fun e=>(by cases e)⟩
      | false=>exact ⟨fun e=>(by cases e),fun _ e=>(by cases e),fun _=>h⟩
    | text x =>
      rw [hk] at h
      cases fr with
      | true=>exact ⟨fun e=>(by cases e),fun _ _=>h,fun e=>(by cases e)⟩
      | false=>exact ⟨fun e=>(by cases e),fun _ e=>(by cases e),fun _=>h⟩
theorem ZkH {a b:Bool} (h:(bif a then b else false)=true):a=true∧b=true:=by
  cases a with
  | false=>cases h
  | true=>exact ⟨rfl,h⟩
theorem Zek (hnd:ZdG ops) (hc:c.OK) (hD:D=ops.toList.filterMap (·.dst)) (hsel:Region.noSelect ops=true) {K:Env→Zd→Prop} (hKQ:∀ e' h',K e' h'→Qx .normal e' h') :
    ∀ (l:OrdT) (fuel m:Nat),l.depth≤fuel→Zkm c ops l m=true→ZtM c ops D a0 w0 Qx fuel m (Zkl c ops K l)
  | .done,fuel,m,hf,hok=>by
    intro listed hd e a w hr hag hs hkp hall hk
    unfold Zkl at hk
    exact ZqO (Znm hr hok) ⟨e,hag,hs,hkp,hKQ _ _ hk⟩ fuel
  | .inv L slots tys r,fuel,m,hf,hok=>by
    intro listed hd e a w hr hag hs hkp hall hk
    unfold Zkl at hk
    unfold Zkm at hok
    obtain ⟨hok,hok2⟩:=ZkH hok
    simp only [Bool.and_eq_true] at hok
    obtain ⟨I,⟨t,hI⟩,hS,hF⟩:=hk
    have hd0:r.depth+L.length≤fuel:=hf
    refine ZvQ hc hD hok.1 (Nat.eq_of_beq_eq_true hok.2) (N0:=r.depth) (fun f hf'=>Zek hnd hc hD hsel hKQ r f _ hf' hok2) hS hF L.length fuel m (fun _=>false) t listed a w (ZbV hd) hd0 ZmV hr (fun j=>by simp) ⟨hag.size,hag.defers,fun j v hj=>?_⟩ hs hkp (fun _ _ _ _ _ h _=>by cases h) hI (fun _ h=>h)
    have hj:(bif Zby slots j then none else e.f j)=some v:=hj
    cases hm:Zby slots j with
    | true=>rw [hm] at hj;cases hj
    | false=>rw [hm] at hj;exact hag.val j v hj
  | .fork i r j s,0,m,hf,_=>by simp [OrdT.depth] at hf
  | .take i fr r,0,m,hf,_=>by simp [OrdT.depth] at hf
  | .fork i r j s,fuel+1,m,hf,hok=>by
    have hf1:r.depth≤fuel:=by
      have h1:Nat.max r.depth s.depth+1≤fuel+1:=hf
      have h2:r.depth≤Nat.max r.depth s.depth:=Nat.le_max_left _ _
      omega
    have hf2:s.depth≤fuel:=by
      have h1:Nat.max r.depth s.depth+1≤fuel+1:=hf
      have h2:s.depth≤Nat.max r.depth s.depth:=Nat.le_max_right _ _
      omega
    intro listed hd e a w hr hag hs hkp hall hk
    unfold Zkl at hk
    unfold Zkm at hok
    split at hk
    ·rename_i o p ho hp
     rw [ho,hp] at hok
     obtain ⟨hb,hok⟩:=ZkH hok
     obtain ⟨hok1,hok2⟩:=ZkH hok
     simp only [Bool.and_eq_true] at hb
     have ih1:=Zek hnd hc hD hsel hKQ r fuel (Zke m i) hf1 hok1
     have ih2:=Zek hnd hc hD hsel hKQ s fuel (Zke m j) hf2 hok2
     exact ZsV (ZqW hr hb.2.2) (hr.ready.2 ⟨o,ho,hb.1⟩) (Zmh hnd hc hD ho hr hag hs hkp hall ih1 hk.1) (Zmh hnd hc hD hp hr hag hs hkp hall ih2 hk.2)
    ·exact hk.elim
  | .take i fr r,fuel+1,m,hf,hok=>by
    have hf1:r.depth≤fuel:=Nat.le_of_succ_le_succ hf
    intro listed hd e a w hr hag hs hkp hall hk
    unfold Zkl at hk
    unfold Zkm at hok
    split at hk
    ·exact hk.elim
    ·rename_i o ho
     rw [ho] at hok
     obtain ⟨hb,hok⟩:=ZkH hok
     obtain ⟨hrd,hoth,hfree,hnot⟩:=Zm9 hb
     have ih:=Zek hnd hc hD hsel hKQ r fuel (Zke m i) hf1 hok
     have eff:Zgn m i 0 ops.toList=true→Ztw c ops o hd e w.heap (Zkl c ops K r)→wpK c.rnd c.P ops (Zc1 c D a0 w0 Qx) (nxt ops) (ZbV hd) (fuel+1) listed a w :=
       fun h2 hk=>ZmB (ZpC hr h2) (hr.ready.2 ⟨o,ho,hrd⟩) (Zmh hnd hc hD ho hr hag hs hkp hall ih hk)
     have hr':=hr.set (ZfH ho)
     have hput:∀ v,Xr D a0 (a.put o.dst v):=fun v=>hkp.trans (Xr.put fun x hx=>hD▸Zdq ho hx)
     have hQ:∀ c' a' v w',Zc1 c D a0 w0 Qx (.panic c') (a'.put o.dst v) w'→Zc1 c D a0 w0 Qx (.panic c') a' w':=fun _ _ _ _ h=>ZhZ (fun x hx=>by rw [hD];exact Zdq ho hx) h
     split at hk
     ·rename_i hkd
      have hfo:ZiV ops o m i 0 ops.toList=true∨Zgn m i 0 ops.toList=true:=by
        cases fr with
        | true=>exact .inl (hfree (by rw [hkd];intro e;cases e) rfl)
        | false=>exact .inr (hnot rfl)
      unfold ZvR at hk
      rcases ZeG hag hk with ⟨e1,hag1,hw,hk⟩ | ⟨e1,hag1,hw,hk⟩
      ·obtain ⟨v,hrun,hk⟩:=ZqV hag1 hkd hk
       obtain ⟨e',hag',hk⟩:=ZbH hag1 hk
       exact Zka hnd ho hsel hQ hr hrd hfo (v:=v.v) (.inl ⟨hw,fun w _=>hrun w trivial⟩) hall (ih _ hd e' _ w hr' hag' hs (hput _) hall hk)
      ·obtain ⟨e',hag',hk⟩:=ZbH hag1 hk
       exact Zka hnd ho hsel hQ hr hrd hfo (v:=undef) (.inr ⟨hw,rfl⟩) hall (ih _ hd e' _ w hr' hag' hs (hput _) hall hk)
     ·rename_i t x hkd
      have hop:=ZpP hkd
      cases hf1:fr with
      | true =>
        rw [hf1] at hk
        simp only [cond_true] at hk
        refine ZmE hnd hD hsel ho hr hag hs hkp hall ih hrd (hfree (by rw [hkd];intro e;cases e) hf1) (fun e1 hag1 hk=>?_) hk
        split at hk
        ·rename_i y hy
         obtain ⟨b,p,hp,hk⟩:=ZfJ hk
         obtain ⟨v,cells,hcells,hrun,hk⟩:=Zq3 hk
         refine ⟨v,fun h'=>Zo h' cells,Zg3.2 hcells,fun w' hw'=>?_,hk⟩
         obtain ⟨dst,op,type,pos,after,guard⟩:=o
         simp only at hop
         subst hop
         refine Zpt (s:=Instr.loadAt t (a.eval x)) ?_
         rw [hag1.ev hy,hp]
         exact Zjc (hrun w' (Zg3.1 hw'))
        ·exact hk.elim
      | false =>
        rw [hf1] at hk
        simp only [cond_false] at hk
        refine Ztq hnd hD ho hr hag hs hkp hall ih (fun {e K} h1 h2=>?_) hrd (hnot hf1) hk
        obtain ⟨dst,op,type,pos,after,guard⟩:=o
        simp only at hop
        subst hop
        exact Zj8 h1 h2
     ·rename_i x hkd
      obtain ⟨s,d,el,hop,hus,hud,hue⟩:=Zpj hkd
      cases hf1:fr with
      | true =>
        rw [hf1] at hk
        simp only [cond_true] at hk
        refine ZmE hnd hD hsel ho hr hag hs hkp hall ih hrd (hfree (by rw [hkd];intro e;cases e) hf1) (fun e1 hag1 hk=>?_) hk
        split at hk
        ·rename_i p l n hy
         obtain ⟨str,hrun,hk⟩:=ZlX (P:=c.P) (w:=w) (x:=⟨p,l,n⟩) (K:=fun s=>b2s ⟨p,l,n⟩ w.heap (fun s'=>s'=s)∧ZlL c.n e1 o.dst (.val (.string s)) fun e'=>Zkl c ops K r ((i,fun h'=>b2s ⟨p,l,n⟩ h' fun s'=>s'=s)::hd) e' w.heap) (by
           rcases hk with ⟨h0,hk⟩ | ⟨b,o2,s,h1,h2,h3,hk⟩
           ·exact .inl ⟨h0,.inl ⟨h0,rfl⟩,hk⟩
           ·exact .inr ⟨b,o2,s,h1,h2,h3,.inr ⟨b,o2,s,h1,h2,h3,rfl⟩,hk⟩)
         refine ⟨.val (.string str),fun h'=>b2s ⟨p,l,n⟩ h' fun s'=>s'=str,hk.1,fun w' hw'=>?_,hk.2⟩
         obtain ⟨s2,hrun2,rfl⟩:=ZlX (P:=c.P) (w:=w') hw'
         obtain ⟨dst,op,type,pos,after,guard⟩:=o
         simp only at hop
         subst hop
         refine Zpt (s:=convert s d (a.eval x)) ?_
         rw [hag1.ev hy]
         exact (Zfa hus hud hue).trans hrun2
        ·exact hk.elim
      | false =>
        rw [hf1] at hk
        simp only [cond_false] at hk
        exact eff (hnot hf1) hk
     ·rename_i hkd
      exact eff (hoth hkd) hk
end
theorem Zjs {e:Env}:∀ {slots:List Nat} {es:List EV} {vs:List EV} {j:Nat} {v:EV},Znh e slots=some es→es.map EV.v=vs.map EV.v→Xx slots vs j=some v→∃ u,e j=some u∧u.v=v.v
  | [],es,vs,j,v,_,_,h=>by simp [Xx] at h
  | s::ss,es,vs,j,v,hr,hm,h=>by
    simp only [Znh] at hr
    split at hr
    ·rename_i u us hu hus
     simp only [Option.some.injEq] at hr
     subst hr
     cases vs with
     | nil=>simp [Xx] at h
     | cons v' vs =>
       simp only [List.map_cons,List.cons.injEq] at hm
       simp only [Xx] at h
       cases hb:Nat.beq j s with
       | true =>
         have:=Nat.eq_of_beq_eq_true hb
         subst this
         rw [hb] at h
         simp only [cond_true,Option.some.injEq] at h
         subst h
         exact ⟨u,hu,hm.1⟩
       | false =>
         rw [hb] at h
         exact Zjs hus hm.2 h
    ·cases hr
theorem Zkx {c:Cfg} {slots:List Nat} {tys:List VT} {kill:List (Nat × Nat)} {e e':Env} {a a':Act} {D:List Nat} {t:Xa tys} (hag:Agr c.n e a) (hag':Agr c.n e' a') (hkeep:Xr D a a')
    (hin:D.all (fun j=>bif Nat.beq j mkN then false else Zby slots j||Zlh kill j)=true) (hr:ZlY slots tys e'=some t) (hall:∀ j,Zby slots j=true→∃ v,Xx slots (Xa.evs tys t) j=some v) :
    Agr c.n (ZiY slots (Xa.evs tys t) kill e) a':=by
  have hmk:mkN∉D:=fun h=>by
    have:=List.all_eq_true.1 hin mkN h
    rw [show Nat.beq mkN mkN=true from Nat.beq_refl mkN] at this
    cases this
  refine ⟨hag'.size,(hkeep.2 hmk).trans hag.defers,fun j v hj=>?_⟩
  unfold ZiY at hj
  dsimp only at hj
  unfold ZlY at hr
  split at hr
  ·rename_i es hes
   have hm:=Zd1 hr
   cases hl:Xx slots (Xa.evs tys t) j with
   | some u =>
     rw [hl] at hj
     simp only [Option.some.injEq] at hj
     subst hj
     obtain ⟨x,hx,hv⟩:=Zjs hes hm.symm hl
     rw [← hv]
     exact hag'.val j x hx
   | none =>
     rw [hl] at hj
     simp only at hj
     cases hk:Zlh kill j with
     | true=>rw [hk] at hj;cases hj
     | false =>
       rw [hk] at hj
       simp only [cond_false] at hj
       have hnot:j∉D:=by
         intro hD
         have:=List.all_eq_true.1 hin j hD
         cases hb9:Nat.beq j mkN with
         | true=>rw [hb9] at this;cases this
         | false =>
         rw [hb9,hk,cond_false,Bool.or_false] at this
         obtain ⟨v',hv'⟩:=hall j this
         rw [hl] at hv'
         cases hv'
       rw [hkeep.1 j hnot]
       exact hag.val j v hj
  ·cases hr
theorem Zlf {e:Env}:∀ {slots:List Nat} {es vs:List EV} {j:Nat},Znh e slots=some es→es.map EV.v=vs.map EV.v→Zby slots j=true→∃ v,Xx slots vs j=some v
  | [],es,vs,j,_,_,h=>by simp [Zby] at h
  | s::ss,es,vs,j,hr,hm,h=>by
    simp only [Znh] at hr
    split at hr
    ·rename_i u us hu hus
     simp only [Option.some.injEq] at hr
     subst hr
     cases vs with
     | nil=>simp at hm
     | cons v' vs =>
       simp only [List.map_cons,List.cons.injEq] at hm
       simp only [Xx]
       simp only [Zby] at h
       cases hb:Nat.beq j s with
       | true=>exact ⟨v',rfl⟩
       | false =>
         rw [hb] at h
         exact Zlf hus hm.2 h
    ·cases hr
theorem Zk8 {slots:List Nat} {tys:List VT} {e:Env} {t:Xa tys} (hr:ZlY slots tys e=some t):∀ j,Zby slots j=true→∃ v,Xx slots (Xa.evs tys t) j=some v:=by
  intro j hj
  unfold ZlY at hr
  split at hr
  ·rename_i es hes
   exact Zlf hes (Zd1 hr).symm hj
  ·cases hr
theorem Zju {slots:List Nat} {tys:List VT} {e:Env} {J:Xa tys→Zd→Prop} {h:Zd} (hk:ZpR slots tys e J h):∃ t,ZlY slots tys e=some t∧J t h:=by
  unfold ZpR at hk
  split at hk
  ·rename_i t ht
   exact ⟨t,ht,hk⟩
  ·exact hk.elim
theorem Zja {n:Nat}:∀ {ps:List Tmp} {vs:List EV} {e e1:Env} {a:Act},Agr n e a→Zjb n e ps vs=some e1 →
    Agr n e1 { a with tmps:=(ps.zip (vs.map EV.v)).foldl (fun t x=>t.setIfInBounds x.1 x.2) a.tmps }
  | [],[],e,e1,a,hag,h=>by
    simp only [Zjb,Option.some.injEq] at h
    subst h
    exact hag
  | p::ps,v::vs,e,e1,a,hag,h=>by
    simp only [Zjb] at h
    cases hb:Nat.blt p n with
    | false=>rw [hb] at h;cases h
    | true =>
      rw [hb] at h
      exact Zja (a:=a.put (some p) v.v) (hag.set hb v) h
  | [],_::_,e,e1,a,hag,h=>by cases h
  | _::_,[],e,e1,a,hag,h=>by cases h
theorem Zpv (ps:Array Tmp) (vs:List Value) (tmps:Array Value):(ps.zip vs.toArray).foldl (fun t x=>t.setIfInBounds x.1 x.2) tmps=(ps.toList.zip vs).foldl (fun t x=>t.setIfInBounds x.1 x.2) tmps:=by
  rw [← Array.foldl_toList,Array.toList_zip]
theorem Zbk:∀ (code:Code) (c:Cfg) (_:c.OK) (_:c.P.follows .mixedOrders=true) (ann:Ann) (e:Env) (a:Act) (w:World) (Q:Ex→Env→Zd→Prop),
    Agr c.n e a→wpC c code ann e w.heap Q→code.wpIn (fen c.rnd) 0 c.P (Zc1 c (ZcZ code) a w Q) a w
  | .skip,c,hc,hmixed,ann,e,a,w,Q,hag,hk=>wpIn_skip ⟨e,hag,Same.refl w,Xr.refl _ a,hk⟩
  | .region id ops draw,c,hc,hmixed,ann,e,a,w,Q,hag,hk=>by
    unfold wpC at hk
    cases draw with
    | false =>
      refine wpIn_region ?_
      rw [List.range_eq_range']
      have:=ZhT hc (ops:=ops) (Q:=Zc1 c (ZcZ (.region id ops false)) a w Q) ops.toList 0 (by simp) hag hk (fun e' a' w' h1 h2 h3 h4=>⟨e',h1,h2,h3,h4⟩) (fun v a' w' h2 h3 h4=>⟨v,rfl,h2,h3,h4⟩)
      simpa using this
    | true =>
      simp only at hk
      split at hk
      ·rename_i l
       obtain ⟨hb,hk⟩:=Zc0 hk
       simp only [Bool.and_eq_true] at hb
       refine wpIn_region_any hmixed (Zo8 (nx:=nxt ops) _ (ZbV []) _ _ _ ?_)
       exact Zek (Znn hb.2.2.1) hc (D:=ZcZ (.region id ops true)) rfl hb.1 (fun _ _ h=>h) l ops.size 0 (Nat.le_of_ble_eq_true hb.2.1) hb.2.2.2 _ [] e a { w with drawn:=w.drawn+1 } (Rel.zero ops) hag ⟨rfl,rfl,rfl⟩ (Xr.refl _ a) (fun q hq=>(by cases hq)) hk
      ·obtain ⟨hb,hk⟩:=Zc0 hk
       simp only [Bool.and_eq_true] at hb
       have hr0:c.rnd=none:=Option.isNone_iff_eq_none.1 hb.1
       rw [hr0]
       refine wpIn_region_quiet (C:=Cls w w.heap) rfl hmixed hb.2 ⟨⟨rfl,rfl,rfl⟩,rfl⟩ ?_
       refine Zkk hc ops.toList 0 (by simp) hag hk fun e' a' h1 h3 h4 w' hw=>⟨e',h1,hw.1,h3,?_⟩
       rw [hw.2]
       exact h4
  | .seq x y,c,hc,hmixed,ann,e,a,w,Q,hag,hk=>by
    have plain:∀ u v:Ann,wpC c x u e w.heap (Zrf (fun e' h'=>wpC c y v e' h' Q) Q)→(Code.seq x y).wpIn (fen c.rnd) 0 c.P (Zc1 c (ZcZ (.seq x y)) a w Q) a w:=by
      intro u v hk
      refine wpIn_seq (wpIn_mono (Zbk x c hc hmixed u e a w _ hag hk) ?_)
      intro ex a' w' hp
      cases ex<;>first
        | exact hp.elim
        | skip
      ·obtain ⟨e',h1,h2,h3,h4⟩:=hp
       refine wpIn_mono (Zbk y c hc hmixed v e' a' w' _ h1 h4) ?_
       exact Zc1.mono h2 (h3.mono fun j hj=>List.mem_append.2 (.inl hj)) (fun j hj=>List.mem_append.2 (.inr hj)) (fun _ _ _ h=>h)
      ·obtain ⟨e',h1,h2,h3,h4⟩:=hp
       exact ⟨e',h1,h2,h3.mono fun j hj=>List.mem_append.2 (.inl hj),h4⟩
      ·obtain ⟨e',h1,h2,h3,h4⟩:=hp
       exact ⟨e',h1,h2,h3.mono fun j hj=>List.mem_append.2 (.inl hj),h4⟩
      ·obtain ⟨v,h1,h2,h3,h4⟩:=hp
       exact ⟨v,h1,h2,h3.mono fun j hj=>List.mem_append.2 (.inl hj),h4⟩
    unfold wpC at hk
    split at hk
    ·rename_i slots tys kill u v
     cases hin:ZmT slots kill x with
     | false=>rw [hin] at hk;exact hk.elim
     | true =>
       rw [hin] at hk
       obtain ⟨J,hJ,hk⟩:=hk
       refine wpIn_seq (wpIn_mono (Zbk x c hc hmixed u e a w _ hag hk) ?_)
       intro ex a' w' hp
       cases ex<;>first
         | exact hp.elim
         | skip
       ·obtain ⟨e',h1,h2,h3,h4⟩:=hp
        obtain ⟨t,ht,hj⟩:=Zju h4
        have hag2:=Zkx hag h1 h3 hin ht (Zk8 ht)
        refine wpIn_mono (Zbk y c hc hmixed v _ a' w' _ hag2 (hJ t w'.heap hj)) ?_
        exact Zc1.mono h2 (h3.mono fun j hj=>List.mem_append.2 (.inl hj)) (fun j hj=>List.mem_append.2 (.inr hj)) (fun _ _ _ h=>h)
       ·obtain ⟨e',h1,h2,h3,h4⟩:=hp
        exact ⟨e',h1,h2,h3.mono fun j hj=>List.mem_append.2 (.inl hj),h4⟩
       ·obtain ⟨e',h1,h2,h3,h4⟩:=hp
        exact ⟨e',h1,h2,h3.mono fun j hj=>List.mem_append.2 (.inl hj),h4⟩
       ·obtain ⟨v,h1,h2,h3,h4⟩:=hp
        exact ⟨v,h1,h2,h3.mono fun j hj=>List.mem_append.2 (.inl hj),h4⟩
    ·exact plain _ _ hk
  | .cond x p q,c,hc,hmixed,ann,e,a,w,Q,hag,hk=>by
    have yes:∀ u,wpC c p u e w.heap Q→p.wpIn (fen c.rnd) 0 c.P (Zc1 c (ZcZ (.cond x p q)) a w Q) a w:=fun u hk =>
      wpIn_mono (Zbk p c hc hmixed u e a w Q hag hk) (Zc1.mono (Same.refl w) (Xr.refl _ a) (fun j hj=>List.mem_append.2 (.inl hj)) (fun _ _ _ h=>h))
    have no:∀ u,wpC c q u e w.heap Q→q.wpIn (fen c.rnd) 0 c.P (Zc1 c (ZcZ (.cond x p q)) a w Q) a w:=fun u hk =>
      wpIn_mono (Zbk q c hc hmixed u e a w Q hag hk) (Zc1.mono (Same.refl w) (Xr.refl _ a) (fun j hj=>List.mem_append.2 (.inr hj)) (fun _ _ _ h=>h))
    unfold wpC at hk
    split at hk
    ·rename_i hx;exact wpIn_cond_true (hag.ev hx) (yes _ hk)
    ·rename_i hx;exact wpIn_cond_false (hag.ev hx) (no _ hk)
    ·rename_i b hx
     exact wpIn_cond_split (hag.ev hx) (fun hb=>yes _ (hk.1 hb)) (fun hb=>no _ (hk.2 hb))
    ·exact hk.elim
  | .block id x,c,hc,hmixed,ann,e,a,w,Q,hag,hk=>by
    unfold wpC at hk
    refine wpIn_block (wpIn_mono (Zbk x c hc hmixed _ e a w _ hag hk) ?_)
    intro ex a' w' hp
    cases ex<;>first
      | exact hp.elim
      | skip
    ·exact hp
    ·rename_i id'
     obtain ⟨e',h1,h2,h3,h4⟩:=hp
     simp only [Exit.inBlock]
     simp only [ZrS] at h4
     cases hb:Nat.beq id' id with
     | true =>
       rw [hb] at h4
       rw [if_pos (Nat.eq_of_beq_eq_true hb)]
       exact ⟨e',h1,h2,h3,h4⟩
     | false =>
       rw [hb] at h4
       rw [if_neg (Nat.ne_of_beq_eq_false hb)]
       exact ⟨e',h1,h2,h3,h4⟩
    ·exact hp
    ·exact hp
  | .loop x,c,hc,hmixed,ann,e,a,w,Q,hag,hk=>by
    unfold wpC at hk
    split at hk
    ·rename_i slots tys kill u
     cases hin:ZmT slots kill x with
     | false=>rw [hin] at hk;exact hk.elim
     | true =>
       rw [hin] at hk
       simp only [cond_true] at hk
       split at hk
       ·rename_i t0 ht0
        obtain ⟨I,μ,h0,hr⟩:=hk
        have hall:=Zk8 ht0
        have hall':∀ (t:Xa tys) j,Zby slots j=true→∃ v,Xx slots (Xa.evs tys t) j=some v:=by
          intro t j hj
          obtain ⟨v,hv⟩:=hall j hj
          have len:∀ (ts:List VT) (s s':Xa ts),(Xa.evs ts s).length=(Xa.evs ts s').length:=by
            intro ts
            induction ts with
            | nil=>intro s s';rfl
            | cons x xs ih=>intro s s';simp only [Xa.evs,List.length_cons];exact congrArg _ (ih _ _)
          have go:∀ (ss:List Nat) (us vs:List EV),us.length=vs.length→(∃ v,Xx ss us j=some v)→∃ v,Xx ss vs j=some v:=by
            intro ss
            induction ss with
            | nil=>intro us vs _ h;simp [Xx] at h
            | cons s ss ih =>
              intro us vs hlen h
              cases us with
              | nil=>simp [Xx] at h
              | cons u us =>
                cases vs with
                | nil=>simp at hlen
                | cons v' vs =>
                  simp only [Xx] at h ⊢
                  cases hb:Nat.beq j s with
                  | true=>exact ⟨v',rfl⟩
                  | false =>
                    rw [hb] at h
                    exact ih us vs (by simpa using hlen) h
          exact go slots _ _ (len tys t0 t) ⟨v,hv⟩
        refine wpIn_loop_ghost (fun n a' w'=>Same w w'∧Xr (ZcZ x) a a'∧∃ t,Agr c.n (ZiY slots (Xa.evs tys t) kill e) a'∧I t w'.heap∧n=μ t w'.heap)
          (μ t0 w.heap) ⟨Same.refl w,Xr.refl _ a,t0,Zkx hag hag (Xr.refl _ a) hin ht0 hall,h0,rfl⟩ ?_
        rintro n a' w' ⟨hs,hkeep,t,hagt,hI,rfl⟩
        refine wpIn_mono (Zbk x c hc hmixed u _ a' w' _ hagt (hr t w'.heap hI)) ?_
        intro ex a2 w2 hp
        cases ex<;>first
          | exact hp.elim
          | skip
        ·obtain ⟨e2,h1,h2,h3,h4⟩:=hp
         have h5:ZpR slots tys e2 (fun s' h'=>I s' h'∧μ s' h'<μ t w'.heap) w2.heap:=h4
         obtain ⟨t2,ht2,hI2,hμ⟩:=Zju h5
         exact ⟨_,hμ,hs.trans h2,hkeep.trans h3,t2,Zkx hag h1 (hkeep.trans h3) hin ht2 (hall' t2),hI2,rfl⟩
        ·obtain ⟨e2,h1,h2,h3,h4⟩:=hp
         exact ⟨e2,h1,hs.trans h2,hkeep.trans h3,h4⟩
        ·obtain ⟨e2,h1,h2,h3,h4⟩:=hp
         exact ⟨e2,h1,hs.trans h2,hkeep.trans h3,h4⟩
        ·obtain ⟨v,h1,h2,h3,h4⟩:=hp
         exact ⟨v,h1,hs.trans h2,hkeep.trans h3,h4⟩
       ·exact hk.elim
    ·exact hk.elim
  | .exit id,c,hc,hmixed,ann,e,a,w,Q,hag,hk=>wpIn_exit ⟨e,hag,Same.refl w,Xr.refl _ a,hk⟩
  | .ret,c,hc,hmixed,ann,e,a,w,Q,hag,hk=>wpIn_ret ⟨e,hag,Same.refl w,Xr.refl _ a,hk⟩
  | .rangeFunc g ps assign body,c,hc,hmixed,ann,e,a,w,Q,hag,hk=>by
    unfold wpC at hk
    split at hk
    ·rename_i tys x y
     cases hb:(c.rnd.isNone&&e.mD.isNo) with
     | false=>rw [hb] at hk;exact hk.elim
     | true =>
       rw [hb] at hk
       simp only [cond_true] at hk
       simp only [Bool.and_eq_true] at hb
       have hr0:c.rnd=none:=Option.isNone_iff_eq_none.1 hb.1
       have hm0:e.mD = .no:=by
         cases h9:e.mD with
         | no=>rfl
         | at_ D9=>rw [h9] at hb;cases hb.2
         | raw d9=>rw [h9] at hb;cases hb.2
       have hd0:a.defers=[]:=by rw [hag.defers,hm0];rfl
       split at hk
       ·rename_i f cs hg
        split at hk
        ·rename_i s t hp
         obtain ⟨hmem,ht⟩:=Zh1 hp
         dsimp only at hmem ht
         have hit:=hc.iters _ hmem
         dsimp only at hit
         have hg':a.eval g=Value.func (.func f) #[] ⟨cs⟩:=hag.ev hg
         rw [hr0]
         refine wpIn_rangeFunc ?_
         intro fn hfn
         obtain ⟨r,hr⟩:∃ r:Loop,r={ state:= .ready,pending:=none,fn,tmps:=a.tmps,params:=ps,assign,body,defers:=w.heap.size }:=⟨_,rfl⟩
         have hsem:=hk r
         clear hk
         obtain ⟨W1,hW1⟩:∃ W1,(w.alloc (.deferred (some []))).alloc (ZaR r .ready none)=W1:=⟨_,rfl⟩
         have hh1:W1.heap=(w.heap.push (.deferred (some []))).push (ZaR r .ready none):=by rw [← hW1];rfl
         have hs1:Same w W1:=by rw [← hW1];exact ⟨rfl,rfl,rfl⟩
         rw [← hh1] at hsem
         have hY:YOK c.P (Zi3 r (w.heap.size+1) ps.size (fun vs h' k=>Zqk (fun a:Xa tys=>(Xa.evs tys a).map EV.v) vs fun a=>match Zjb c.n ⟨e.f,.no⟩ ps.toList (Xa.evs tys a) with
           | some e1=>wpC { c with rnd:=some (w.heap.size+1),pan:=fun _ _=>False } assign x e1 h' (ZrJ fun e2 h2 =>
               Zmk r (w.heap.size+1) h2 fun h3=>wpC { c with rnd:=some (w.heap.size+1),pan:=fun _ _=>False } body y e2 h3 (ZrI k))
           | none=>False)):=by
           intro l vs k W hy
           obtain ⟨rfl,hlen,hrec,hargs⟩:=hy
           obtain ⟨ta,rfl,hargs⟩:=hargs
           split at hargs
           ·rename_i e1 he1
            have hrl:W.heap[w.heap.size+1]?=some (.loop { r with state:= .ready,pending:=none }):=hrec
            have hy:=run_yield (P:=c.P) (args:=((Xa.evs tys ta).map EV.v).toArray) hrl (by rw [hr];simpa using hlen)
            refine ⟨fn,(ps.zip ((Xa.evs tys ta).map EV.v).toArray).foldl (fun t x=>t.setIfInBounds x.1 x.2) a.tmps,assign,body,by rw [hr] at hy;exact hy,?_⟩
            have hag1:Agr c.n e1 { tmps:=(ps.toList.zip ((Xa.evs tys ta).map EV.v)).foldl (fun t x=>t.setIfInBounds x.1 x.2) a.tmps,defers:=[]} :=
              Zja (e:=⟨e.f,.no⟩) (a:={ a with defers:=[]}) ⟨hag.size,rfl,hag.val⟩ he1
            have hc1:=hc.at (some (w.heap.size+1)) (fun _ _=>False)
            rw [← Zpv] at hag1
            refine roundIn_of_wpIn hfn ?_
            refine wpIn_mono (Zbk assign _ hc1 hmixed x e1 _ W _ hag1 hargs) ?_
            intro ex a1 w1 hp1
            cases ex with
            | normal =>
              obtain ⟨e2,hag2,hs2,hk2,hrec2,hb2⟩:=hp1
              have hrl2:w1.heap[w.heap.size+1]?=some (.loop { r with state:= .ready,pending:=none }):=hrec2
              refine ⟨_,run_beginRound hrl2 rfl,?_⟩
              refine wpIn_mono (Zbk body _ hc1 hmixed y e2 a1 (w1.putObj (w.heap.size+1) (.loop { r with state:= .busy,pending:=none })) _ hag2 hb2) ?_
              have hs3:Same W (w1.putObj (w.heap.size+1) (.loop { r with state:= .busy,pending:=none })):=hs2.trans ⟨rfl,rfl,rfl⟩
              have fin:∀ (p:Option Code) (W3:World),Same (w1.putObj (w.heap.size+1) (.loop { r with state:= .busy,pending:=none })) W3 →
                  Znw W3.heap (w.heap.size+1) r .busy none (k p.isNone (ZgD W3.heap (w.heap.size+1) (ZaR r (if p.isNone then .ready else .done) p))) →
                  ∃ v w',(Instr.endRound (w.heap.size+1) p).run c.P W3 = .ok v w'∧∃ b,Ending.returned v = .returned (.bool b)∧Same W w'∧k b w'.heap:=by
                intro p W3 hs4 hk4
                have hrl3:W3.heap[w.heap.size+1]?=some (.loop { r with state:= .busy,pending:=none }):=hk4.1
                exact ⟨_,_,run_endRound p hrl3,p.isNone,rfl,(hs3.trans hs4).trans ⟨rfl,rfl,rfl⟩,hk4.2⟩
              intro ex3 a3 w3 hp3
              cases ex3 with
              | normal=>obtain ⟨e3,_,hs4,_,hk4⟩:=hp3;exact fin none w3 hs4 hk4
              | ret=>obtain ⟨e3,_,hs4,_,hk4⟩:=hp3;exact fin (some .ret) w3 hs4 hk4
              | exit id=>obtain ⟨e3,_,hs4,_,hk4⟩:=hp3;exact fin (some (.exit id)) w3 hs4 hk4
              | goto t=>exact hp3.elim
              | panic ch=>obtain ⟨_,_,_,_,hk4⟩:=hp3;exact hk4.elim
              | outgrown=>exact hp3.elim
            | ret=>obtain ⟨_,_,_,_,hk4⟩:=hp1;exact hk4.elim
            | exit id=>obtain ⟨_,_,_,_,hk4⟩:=hp1;exact hk4.elim
            | goto t=>exact hp1.elim
            | panic ch=>obtain ⟨_,_,_,_,hk4⟩:=hp1;exact hk4.elim
            | outgrown=>exact hp1.elim
           ·exact hargs.elim
         have hok:=hit _ hY
         obtain ⟨⟨fd,hf,hname,hbody⟩,hcall⟩:=hok
         have hargs:(#[Value.func (.yield (w.heap.size+1)) #[] #[]]:Array Value)++(⟨cs⟩:Array Value)=((Xa.evs (.yl::s.caps) (w.heap.size+1,t)).map EV.v).toArray:=by
           have h5:=Zd1 ht
           have h6:(cs.map EV.val).map EV.v=cs:=by simp [Function.comp_def,EV.v]
           rw [h6] at h5
           simp only [Xa.evs,List.map_cons,h5]
           simp [VT.ev,EV.v]
         refine ⟨w.heap.size+1,[{ target:= .collected w.heap.size,args:= #[]}],W1,{ target:= .fn (.func f) ⟨cs⟩,args:= #[.func (.yield (w.heap.size+1)) #[] #[]]},W1,f,
           #[.func (.yield (w.heap.size+1)) #[] #[]]++(⟨cs⟩:Array Value),W1,?_,?_,?_,?_,fun h=>(by cases h),ZeS.2 ?_⟩
         ·rw [← hW1,hr]
          exact run_enterLoop_outer fn a.tmps ps assign body
         ·simp only [resolve,hg']
          simp [Deferred.ofValue,Act.eval]
         ·intro f' hf';exact trivial
         ·simp only [invoke,callFunc,Sem.run_bind,run_program,Result.andThen_ok,hf,hname,Bool.false_eq_true,if_false,hbody,Sem.run_pure]
         ·rw [hargs]
          refine (hcall (w.heap.size+1,t) (fun _ h'=>∃ st p,st≠ .busy∧Znw h' (w.heap.size+1) r st p (Zma p (Q .normal ⟨e.f,.at_ w.heap.size⟩ (ZgD h' (w.heap.size+1) (ZaR r .exhausted p)))
            (fun id=>Q (.exit id) ⟨e.f,.at_ w.heap.size⟩ (ZgD h' (w.heap.size+1) (ZaR r .exhausted p))) (Q .ret ⟨e.f,.at_ w.heap.size⟩ (ZgD h' (w.heap.size+1) (ZaR r .exhausted p))))) (fun _ _=>False) W1 hsem).mono ?_
          rintro ending w2 (⟨rr,rfl,hs2,st,p,hst,hrec,hj⟩ | ⟨v,rfl,hs2,hk⟩)
          ·have hrl:w2.heap[w.heap.size+1]?=some (.loop { r with state:=st,pending:=p }):=hrec
           have hend:=run_endLoop (P:=c.P) hrl (by exact hst)
           have hs3:Same w (w2.putObj (w.heap.size+1) (ZaR r .exhausted p)):=(hs1.trans hs2).trans ⟨rfl,rfl,rfl⟩
           have hag3:Agr c.n ⟨e.f,.at_ w.heap.size⟩ { a with defers:=[{ target:= .collected w.heap.size,args:= #[]}]++a.defers }:=⟨hag.size,by rw [hd0];rfl,hag.val⟩
           have hk3:Xr (ZcZ (.rangeFunc g ps assign body)) a { a with defers:=[{ target:= .collected w.heap.size,args:= #[]}]++a.defers }:=⟨fun _ _=>rfl,fun h=>absurd (List.mem_singleton.2 rfl) h⟩
           refine ⟨p,_,hend,?_⟩
           cases p with
           | none=>exact ⟨_,hag3,hs3,hk3,hj⟩
           | some cj =>
             cases cj with
             | exit id=>exact wpIn_exit ⟨_,hag3,hs3,hk3,hj⟩
             | ret=>exact wpIn_ret ⟨_,hag3,hs3,hk3,hj⟩
             | _=>exact hj.elim
          ·exact hk.elim
        ·exact hk.elim
       ·exact hk.elim
    ·exact hk.elim
  | .scope _,c,hc,hmixed,ann,e,a,w,Q,hag,hk=>hk.elim
  | .label _,c,hc,hmixed,ann,e,a,w,Q,hag,hk=>hk.elim
  | .goto _,c,hc,hmixed,ann,e,a,w,Q,hag,hk=>hk.elim
  | .refuse _,c,hc,hmixed,ann,e,a,w,Q,hag,hk=>hk.elim
theorem ZjO:∀ (args:List EV) (i:Nat) (j:Nat) (v:EV),ZiC.go args i j=some v→∃ k,j=i+k∧args[k]?=some v
  | [],i,j,v,h=>by simp [ZiC.go] at h
  | x::xs,i,j,v,h=>by
    simp only [ZiC.go] at h
    cases hb:Nat.beq j i with
    | true =>
      rw [hb] at h
      simp only [cond_true,Option.some.injEq] at h
      exact ⟨0,Nat.eq_of_beq_eq_true hb,by simp [h]⟩
    | false =>
      rw [hb] at h
      obtain ⟨k,hk,hv⟩:=ZjO xs (i+1) j v h
      exact ⟨k+1,by omega,by simpa using hv⟩
theorem ZhW {c:Cfg} {e:Env} {a:Act} {w:World} (hag:Agr c.n e a) {f:ResultVar→Sem Value} (h1:∀ t,f (.tmp t)=pure (a.tmps.getD t undef))
    (h2:∀ x t,f (.cell x t)=(do loadVar t (← asAddr (a.tmps.getD x undef)))):∀ {rs:List ResultVar} {K:List EV→Prop},ZqA c e w.heap rs K →
    ∃ vs,(rs.mapM f).run c.P w = .ok (vs.map EV.v) w∧K vs
  | [],K,hk=>⟨[],rfl,hk⟩
  | .tmp t::r,K,hk=>by
    simp only [ZqA] at hk
    split at hk
    ·rename_i v hv
     obtain ⟨vs,hr,hk⟩:=ZhW hag h1 h2 hk
     refine ⟨v::vs,?_,hk⟩
     have:=hag.val t v hv
     rw [List.mapM_cons]
     simp only [h1,Sem.run_bind,Sem.run_pure,Result.andThen_ok,hr,List.map_cons]
     simp [this]
    ·exact hk.elim
  | .cell x t::r,K,hk=>by
    simp only [ZqA] at hk
    split at hk
    ·rename_i b o hv
     obtain ⟨v,hl,hk⟩:=ZmM hk
     obtain ⟨vs,hr,hk⟩:=ZhW hag h1 h2 hk
     refine ⟨v::vs,?_,hk⟩
     have:=hag.val x _ hv
     have hx:(asAddr (a.tmps.getD x undef)).run c.P w = .ok ⟨b,o,none⟩ w:=by
       have:a.tmps.getD x undef = .pointer (some ⟨b,o,none⟩):=by simp [this,EV.v]
       rw [this];rfl
     rw [List.mapM_cons]
     simp only [h2,Sem.run_bind,Sem.run_pure,hx,Result.andThen_ok,hl w rfl,hr,List.map_cons]
    ·exact hk.elim
def ZAr (l:List Value):Value:=match l with
  | [v]=>v
  | l=> .tuple l.toArray
theorem Zpg:∀ (vs:List EV),(ZdB vs).v=ZAr (vs.map EV.v)
  | []=>rfl
  | [_]=>rfl
  | _::_::_=>rfl
theorem Zpi (l:List Value):(if h:l.toArray.size=1 then l.toArray[0] else Value.tuple l.toArray)=ZAr l:=by
  match l with
  | []=>rfl
  | [x]=>rfl
  | x::y::r =>
    have:¬ (x::y::r).toArray.size=1:=by simp
    rw [dif_neg this]
    rfl
theorem Zs3 {res:List VT} {vs:List EV} {r:Xa res} (h:Xa.un res vs=some r):Zvr res r=ZAr (vs.map EV.v):=by
  unfold Zvr
  rw [Zpg,Zd1 h]
theorem Zny {c:Cfg} (hc:c.OK) (hmixed:c.P.follows .mixedOrders=true) {f:FuncId} {fn:Func} {ann:Ann} {args:List EV} {res:List VT} {K:Xa res→Zd→Prop} {Kp:Value→Zd→Prop} {w:World}
    (hf:c.P.funcs[f]?=some fn) (hn:c.n=fn.ntmps) (hlen:args.length≤fn.ntmps) (hk:ZtK c fn ann args res K Kp w.heap) :
    Calls c.P f (args.map EV.v).toArray w (ZfK res w K Kp):=by
  unfold ZtK at hk
  split at hk
  ·rename_i code hb
   refine ZeS (r:=none) (n:=0).1 (callsIn_of_wp_marks hf hb trivial ?_)
   have hag:Agr c.n (ZiC args) { tmps:=(args.map EV.v).toArray++Array.replicate (fn.ntmps - (args.map EV.v).toArray.size) undef,defers:=[]}:=by
     refine ⟨by simp [hn];omega,rfl,fun j v hj=>?_⟩
     obtain ⟨k,hk,hv⟩:=ZjO args 0 j v hj
     have hlt:k<args.length:=by
       rcases Nat.lt_or_ge k args.length with h | h
       ·exact h
       ·rw [List.getElem?_eq_none h] at hv;cases hv
     simp only [Nat.zero_add] at hk
     subst hk
     simp [hlt,Array.getElem?_append]
     have h5:=List.getElem?_eq_getElem hlt
     rw [hv] at h5
     exact congrArg EV.v (Option.some.inj h5.symm)
   refine wpIn_mono (Zbk code _ (hc.at none (bif Ztp code then fun _ _=>False else Kp)) hmixed ann _ _ w _ hag hk) ?_
   have res_:∀ (a':Act) (w1:World) (e':Env),Agr c.n e' a'→Same w w1→(ZqA c e' w1.heap fn.results.toList fun vs=>match Xa.un res vs with
       | some r=>K r w1.heap
       | none=>False)→∃ v,(results fn a'.tmps).run c.P w1 = .ok v w1∧ZfK res w K Kp (.returned v) w1:=by
     intro a' w1 e' h1 h2 h4
     obtain ⟨vs,hr,hk⟩:=ZhW (f:=fun
       | .tmp t=>pure (a'.tmps.getD t undef)
       | .cell x t=>do loadVar t (← asAddr (a'.tmps.getD x undef))) h1 (fun _=>rfl) (fun _ _=>rfl) h4
     split at hk
     ·rename_i r hun
      refine ⟨Zvr res r,?_,.inl ⟨r,rfl,h2,hk⟩⟩
      unfold results
      rw [Array.mapM_eq_mapM_toList]
      simp only [Sem.run_bind,Sem.run_map]
      have hr':=hr
      refine (congrArg (fun r=>(Result.andThen (Result.andThen r _) _)) hr').trans ?_
      simp only [Result.andThen_ok,Sem.run_pure]
      rw [Zs3 hun]
      exact congrArg (fun v=>Result.ok v w1) (Zpi _)
     ·exact hk.elim
   have fin:∀ (a':Act) (w':World) (e':Env),Agr c.n e' a'→Same w w'→(match e'.mD with
       | .no=>ZqA c e' w'.heap fn.results.toList fun vs=>match Xa.un res vs with
         | some r=>K r w'.heap
         | none=>False
       | .at_ D=>ZeY D w'.heap fun h'=>ZqA c e' h' fn.results.toList fun vs=>match Xa.un res vs with
         | some r=>K r h'
         | none=>False
       | .raw _=>False)→LeavesInM (fen none) 0 c.P fn a'.tmps (ZfK res w K Kp) a'.defers .returning w':=by
     intro a' w' e' h1 h2 h4
     rw [h1.defers]
     cases hm:e'.mD with
     | raw ds=>rw [hm] at h4;exact h4.elim
     | no =>
       rw [hm] at h4
       exact res_ a' w' e' h1 h2 h4
     | at_ D =>
       rw [hm] at h4
       obtain ⟨hD,h4⟩:=h4
       refine ⟨by simp,.inl ⟨D,_,rfl,run_takeDeferred hD,?_⟩⟩
       exact res_ a' (w'.putObj D (.deferred none)) e' h1 (h2.trans ⟨rfl,rfl,rfl⟩) h4
   intro ex a' w' hp
   cases ex with
   | normal=>obtain ⟨e',h1,h2,h3,h4⟩:=hp;exact fin a' w' e' h1 h2 h4
   | ret=>obtain ⟨e',h1,h2,h3,h4⟩:=hp;exact fin a' w' e' h1 h2 h4
   | exit id=>obtain ⟨e',h1,h2,h3,h4⟩:=hp;exact h4.elim
   | goto t=>exact hp.elim
   | outgrown=>exact hp.elim
   | panic ch =>
     obtain ⟨v,rfl,h2,h3,h4⟩:=hp
     cases hrf:Ztp code with
     | true=>rw [hrf] at h4;exact h4.elim
     | false =>
       rw [hrf] at h4
       have hmk:mkN∉ZcZ code:=by
         have key:∀ (l:List Nat),Zby l mkN=false→mkN∉l:=by
           intro l
           induction l with
           | nil=>intro _ h;cases h
           | cons x xs ih =>
             intro h hm
             simp only [Zby] at h
             cases hb:Nat.beq mkN x with
             | true=>rw [hb] at h;cases h
             | false =>
               rw [hb] at h
               rcases List.mem_cons.1 hm with he | hm
               ·rw [← he,Nat.beq_refl] at hb;cases hb
               ·exact ih h hm
         exact key _ hrf
       rw [show bodyPostM (fen none) 0 c.P fn (ZfK res w K Kp) (.panic [{ v,recovered:=false }]) a' w'=LeavesInM (fen none) 0 c.P fn a'.tmps (ZfK res w K Kp) a'.defers (.panicking [{ v,recovered:=false }]) w' from rfl,h3.2 hmk]
       exact .inr ⟨v,rfl,h2,h4⟩
  ·exact hk.elim
end Go.Fw
