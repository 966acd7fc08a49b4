/- The sketch: maps of pairs of numbers; a sketch in plain words, and in memory. -/
import Derived.Test.YtbppjmcinoffnaaGreatPa11
set_option linter.unusedVariables false
set_option linter.unusedSimpArgs false
namespace Go.Proofs.YtbppjmcinoffnaaGreat.Tk
open Go Go.Fw
open Nat renaming reduceAdd→Nqa,reduceLT→Nqb,reduceLeDiff→Nqc,reduceEqDiff→Nqd,reduceMul→Nqe
def pk (r c:Int):Value:= .agg #[iv r,iv c]
theorem ZrP {r c r' c':Int} (h:pk r c=pk r' c'):r=r'∧c=c':=by
  unfold pk at h
  injection h with h
  injection h with h
  injection h with h1 h2
  injection h2 with h2 _
  exact ⟨Zkw h1,Zkw h2⟩
structure ZzV (es:Array MapEntry) (n:Int→Int→Int):Prop where
  to:∀ e,e∈es.toList→∃ r c,e.key=pk r c∧e.val=iv (n r c)
  of:∀ r c,n r c≠0→∃ e,e∈es.toList∧e.key=pk r c
def ZlO (h:Zb) (mb:Nat) (n:Int→Int→Int):Prop:=∃ es c,h[mb]?=some (.map es c)∧MapKept.Stamped es c∧ZzV es n
def Zqd (n:Int→Int→Int) (r c x:Int):Int→Int→Int:=fun r' c'=>if r'=r∧c'=c then x else n r' c'
theorem ZzV.key {es:Array MapEntry} {n:Int→Int→Int} (he:ZzV es n):∀ x,x∈es.toList→ZgB [.int .i64,.int .i64] x.key:=fun x hx=>by
  obtain ⟨r,c,hk,_⟩:=he.to x hx
  exact ⟨[iv r,iv c],hk,rfl,rfl,trivial⟩
theorem ZuE (r c r' c':Int):Zh9 [iv r,iv c] (pk r' c')=(decide (r=r')&&decide (c=c')):=by
  unfold Zh9 pk
  simp only [Zdt,ZfR]
  cases h1:decide (r=r')<;>cases h2:decide (c=c')<;>simp_all
theorem Zff (r c:Int):∀ (l:List MapEntry) (i:Nat),(∀ e,e∈l→∃ r c,e.key=pk r c) →
    (ZeA [iv r,iv c] l i=none∧∀ e,e∈l→e.key≠pk r c)∨∃ j e,ZeA [iv r,iv c] l i=some (i+j,e.val)∧l[j]?=some e∧e.key=pk r c
  | [],i,_=> .inl ⟨rfl,fun e he=>by cases he⟩
  | e::l,i,h=>by
    obtain ⟨r',c',hk⟩:=h e (List.mem_cons_self ..)
    unfold ZeA
    rw [hk,ZuE]
    rcases Decidable.em (r=r'∧c=c') with ⟨h1,h2⟩ | hn
    ·subst h1 h2
     right
     refine ⟨0,e,?_,rfl,hk⟩
     simp
    ·have:(decide (r=r')&&decide (c=c'))=false:=by
       rw [← Bool.decide_and]
       exact decide_eq_false hn
     rw [this]
     simp only [cond_false]
     rcases Zff r c l (i+1) (fun e he=>h e (List.mem_cons_of_mem _ he)) with ⟨g1,g2⟩ | ⟨j,e',g1,g2,g3⟩
     ·refine .inl ⟨g1,fun e' he=>?_⟩
      rcases List.mem_cons.1 he with rfl | he
      ·rw [hk]
       intro e9
       obtain ⟨q1,q2⟩:=ZrP e9
       exact hn ⟨q1.symm,q2.symm⟩
      ·exact g2 e' he
     ·exact .inr ⟨j+1,e',by rw [g1];congr 2;omega,g2,g3⟩
theorem ZzV.find {es:Array MapEntry} {n:Int→Int→Int} (he:ZzV es n) (r c:Int) :
    (ZeA [iv r,iv c] es.toList 0=none∧n r c=0∧∀ e,e∈es.toList→e.key≠pk r c)∨∃ j e,ZeA [iv r,iv c] es.toList 0=some (j,e.val)∧es.toList[j]?=some e∧e.key=pk r c∧e.val=iv (n r c):=by
  rcases Zff r c es.toList 0 (fun e hm=>by obtain ⟨r,c,hk,_⟩:=he.to e hm;exact ⟨r,c,hk⟩) with ⟨h1,h2⟩ | ⟨j,e,h1,h2,h3⟩
  ·refine .inl ⟨h1,?_,h2⟩
   rcases Decidable.em (n r c=0) with h0 | h0
   ·exact h0
   ·obtain ⟨e,hm,hk⟩:=he.of r c h0
    exact absurd hk (h2 e hm)
  ·obtain ⟨r',c',hk,hv⟩:=he.to e (List.mem_of_getElem? h2)
   rw [h3] at hk
   obtain ⟨rfl,rfl⟩:=ZrP hk
   rw [Nat.zero_add] at h1
   exact .inr ⟨j,e,h1,h2,h3,hv⟩
theorem ZlO.congr {h h':Zb} {mb:Nat} {n:Int→Int→Int} (hm:ZlO h mb n) (he:h'[mb]?=h[mb]?):ZlO h' mb n:=by
  obtain ⟨es,c,hb,r⟩:=hm
  exact ⟨es,c,he.trans hb,r⟩
theorem ZlO.lt {h:Zb} {mb:Nat} {n:Int→Int→Int} (hm:ZlO h mb n):mb<sz h:=by
  obtain ⟨es,c,hb,r⟩:=hm
  exact Xl hb
theorem ZlO.new {h:Zb}:ZlO (h.push (.map #[] 0)) (sz h) (fun _ _=>0) :=
  ⟨#[],0,Zeg,MapKept.stamped_empty 0,fun e he=>by simp at he,fun r c h=>(h rfl).elim⟩
theorem ZlO.get {h:Zb} {mb:Nat} {n:Int→Int→Int} (hm:ZlO h mb n) (r c:Int) {K:Int→Prop} (hk:K (n r c)):Zfv [(.int .i64),(.int .i64)] h (some mb) [Value.int .i64 r,Value.int .i64 c] fun x=>asI (x.getD (Value.int .i64 0)) .i64 K:=by
  obtain ⟨es,cl,hb,hs,he⟩:=hm
  refine ⟨(fun e=>by cases e),fun b e=>?_⟩
  cases e
  refine ⟨es,cl,hb,he.key,?_⟩
  rcases he.find r c with ⟨h1,h2,_⟩ | ⟨j,e,h1,h2,h3,h4⟩
  ·rw [h1]
   exact ⟨0,rfl,by rw [h2] at hk;exact hk⟩
  ·rw [h1]
   exact ⟨n r c,h4,hk⟩
theorem ZlO.put {h:Zb} {mb:Nat} {n:Int→Int→Int} (hm:ZlO h mb n) (r c x:Int) {K:Zb→Prop}
    (hk:∀ h',ZlO h' mb (Zqd n r c x)→Upd (· = mb) h h'→sz h'=sz h→K h'):Zfu [(.int .i64),(.int .i64)] h (some mb) [Value.int .i64 r,Value.int .i64 c] (Value.int .i64 x) K:=by
  have hlt:=hm.lt
  obtain ⟨es,cl,hb,hs,he⟩:=hm
  refine ⟨mb,es,cl,rfl,hb,he.key,?_⟩
  rcases he.find r c with ⟨h1,h2,h3⟩ | ⟨j,e,h1,h2,h3,h4⟩
  ·rw [h1]
   refine hk _ ⟨es.push { key:=pk r c,val:=iv x,born:=cl },cl+1,ZgH hlt,MapKept.stamped_push hs fun y hy=>h3 y hy,fun y hy=>?_,fun r' c' hn=>?_⟩ ZeQ (by unfold sz;simp)
   ·simp only [Array.toList_push,List.mem_append,List.mem_singleton] at hy
    rcases hy with hy | rfl
    ·obtain ⟨r',c',hk',hv⟩:=he.to y hy
     refine ⟨r',c',hk',?_⟩
     rw [hv]
     unfold Zqd
     rw [if_neg]
     rintro ⟨rfl,rfl⟩
     exact h3 y hy hk'
    ·exact ⟨r,c,rfl,by unfold Zqd;rw [if_pos ⟨rfl,rfl⟩]⟩
   ·simp only [Array.toList_push,List.mem_append,List.mem_singleton]
    unfold Zqd at hn
    split at hn
    ·rename_i e9
     obtain ⟨rfl,rfl⟩:=e9
     exact ⟨_,.inr rfl,rfl⟩
    ·obtain ⟨y,hy,hyk⟩:=he.of r' c' hn
     exact ⟨y,.inl hy,hyk⟩
  ·rw [h1]
   have hj':es[j]?=some e:=by simpa using h2
   have uniq:∀ i y,es.toList[i]?=some y→y.key=pk r c→i=j:=by
     intro i y hi hy
     have hnd:=hs.2.2
     have q1:(es.toList.map (·.key))[i]?=some (pk r c):=by rw [List.getElem?_map,hi];simp [hy]
     have q2:(es.toList.map (·.key))[j]?=some (pk r c):=by rw [List.getElem?_map,h2];simp [h3]
     obtain ⟨hil,q1⟩:=List.getElem?_eq_some_iff.1 q1
     obtain ⟨hjl,q2⟩:=List.getElem?_eq_some_iff.1 q2
     exact (List.getElem_inj hnd).1 (q1.trans q2.symm)
   refine hk _ ⟨es.modify j fun y=>{ y with key:=pk r c,val:=iv x },cl,ZgH hlt,MapKept.stamped_modify hs j _ (fun y _=>rfl) (fun y _ hy=>?_),fun y hy=>?_,fun r' c' hn=>?_⟩ ZeQ (by unfold sz;simp)
   ·rw [hj'] at hy
    cases hy
    exact h3.symm
   ·obtain ⟨i,hi⟩:=List.getElem?_of_mem hy
    rw [Array.getElem?_toList,Array.getElem?_modify] at hi
    by_cases hij:j=i
    ·subst hij
     rw [if_pos rfl,hj'] at hi
     simp only [Option.map_some,Option.some.injEq] at hi
     subst hi
     exact ⟨r,c,rfl,by unfold Zqd;rw [if_pos ⟨rfl,rfl⟩]⟩
    ·rw [if_neg hij] at hi
     have hi':es.toList[i]?=some y:=by simpa using hi
     obtain ⟨r',c',hk',hv⟩:=he.to y (List.mem_of_getElem? hi')
     refine ⟨r',c',hk',?_⟩
     rw [hv]
     unfold Zqd
     rw [if_neg]
     rintro ⟨rfl,rfl⟩
     exact hij (uniq i y hi' hk').symm
   ·unfold Zqd at hn
    split at hn
    ·rename_i e9
     obtain ⟨rfl,rfl⟩:=e9
     refine ⟨{ e with key:=pk r' c',val:=iv x },List.mem_of_getElem? (i:=j) ?_,rfl⟩
     rw [Array.getElem?_toList,Array.getElem?_modify,if_pos rfl,hj']
     rfl
    ·rename_i hne
     obtain ⟨y,hy,hyk⟩:=he.of r' c' hn
     obtain ⟨m,hm⟩:=List.getElem?_of_mem hy
     refine ⟨y,List.mem_of_getElem? (i:=m) ?_,hyk⟩
     rw [Array.getElem?_toList,Array.getElem?_modify,if_neg]
     ·simpa using hm
     ·intro hjm
      subst hjm
      rw [h2] at hm
      cases hm
      rw [h3] at hyk
      obtain ⟨q1,q2⟩:=ZrP hyk
      exact hne ⟨q1.symm,q2.symm⟩
structure Bk where
  at_:Int
  total:Int
  n:Int→Int→Int
structure Sk where
  seed:Int
  last:Int
  bs:List Bk
structure Bk.OK (b:Bk):Prop where
  lo:0≤b.at_
  step:b.at_ % 100000=0
  total:0≤b.total∧b.total≤4611686018427387904
  n:∀ r c,0≤b.n r c∧b.n r c≤4611686018427387904
structure Sk.OK (s:Sk):Prop where
  lo:0≤s.last
  hi:s.last≤1152921504606846976
  bs:∀ b,b∈s.bs→b.OK∧b.at_≤s.last
  up:s.bs.Pairwise fun a b=>a.at_<b.at_
  few:s.bs.length≤12
def tg (id:Int) (j:Nat):Nat:=6+4*id.toNat+j
abbrev B3:=Bk × Nat
def b3L (x:B3):List Value:=[iv x.1.at_,iv x.1.total,.map (some x.2)]
theorem ZdV (x:B3):(b3L x).length=3:=rfl
theorem ZsR (x:B3):(b3L x).all Zv=true:=by simp [b3L,YW,ZnG]
structure SkR (h:Zb) (T:Nat→Option Nat) (id:Int) (wb:Nat) (sl:Sl) (lb:List B3) (s:Sk):Prop where
  ok:s.OK
  cells:obj h wb=some (.cells [iv 1000000,iv 10,iv 3,iv 256,.int .u64 s.seed,slV sl,iv s.last].toArray 220 (0,0))
  own:Own h 0 sl 3 (lb.flatMap b3L)
  bs:lb.map (·.1)=s.bs
  nd:(lb.map (·.2)).Nodup
  maps:∀ x,x∈lb→ZlO h x.2 x.1.n∧T x.2=some (tg id 2)
  tw:T wb=some (tg id 0)
  ts:∀ k,sl.blk=some k→T k=some (tg id 1)
theorem Ziq {id:Int} {i j:Nat} (h:i≠j):tg id i≠tg id j:=by unfold tg;omega
theorem SkR.congr {h h':Zb} {T T':Nat→Option Nat} {id:Int} {wb:Nat} {sl:Sl} {lb:List B3} {s:Sk} (hs:SkR h T id wb sl lb s) (hT:∀ k t,T k=some t→T' k=some t) (he:∀ k j,j<4→T k=some (tg id j)→h'[k]?=h[k]?):SkR h' T' id wb sl lb s :=
  ⟨hs.ok,(he wb 0 (by decide) hs.tw).trans hs.cells,hs.own.congr fun b hb _ _=>he b 1 (by decide) (hs.ts b hb),hs.bs,hs.nd,fun x hx=>⟨(hs.maps x hx).1.congr (he _ 2 (by decide) (hs.maps x hx).2),hT _ _ (hs.maps x hx).2⟩,hT _ _ hs.tw,fun k hk=>hT _ _ (hs.ts k hk)⟩
theorem SkR.ext {h h':Zb} {T:Nat→Option Nat} {id:Int} {wb:Nat} {sl:Sl} {lb:List B3} {s:Sk} (hs:SkR h T id wb sl lb s) (he:Ext h h'):SkR h' T id wb sl lb s :=
  ⟨hs.ok,Yh hs.cells he,hs.own.congr fun b hb _ _=>he.old b (hs.own.lt hb).2,hs.bs,hs.nd,fun x hx=>⟨(hs.maps x hx).1.congr (he.old _ (hs.maps x hx).1.lt),(hs.maps x hx).2⟩,hs.tw,hs.ts⟩
abbrev F4:=Int × Int × Int × Int × Unit
def f4L (f:F4):List Value:=[iv f.1,iv f.2.1,iv f.2.2.1,iv f.2.2.2.1]
theorem YU (f:F4):(f4L f).length=4:=rfl
theorem Zn1 (l:List F4):(l.flatMap f4L).all Zv=true:=by
  rw [List.all_eq_true]
  intro v hv
  obtain ⟨t,_,hv⟩:=List.mem_flatMap.1 hv
  simp only [f4L,List.mem_cons,List.not_mem_nil,or_false] at hv
  rcases hv with rfl | rfl | rfl | rfl<;>exact YW
def zF:F4:=(0,0,0,0,())
inductive Cnt where
  | rate (w:Win)
  | value (s:Sk)
  | leased
def Cnt.kind:Cnt→Int
  | .rate _=>1
  | .value _=>2
  | .leased=>3
structure Srv where
  begun:Int
  last:Int
  spaces:List (ByteArray × List F4)
  counts:Int→Option Cnt
  nc:Nat
  conns:Int→Option ByteArray
  nn:Nat
  out:List F4
  next:Int
abbrev Sp3:=ByteArray × Sl × List F4
def spL (x:Sp3):List Value:=[.string x.1,slV x.2.1]
theorem Zdj (x:Sp3):(spL x).length=2:=rfl
structure SpR (h:Zb) (T:Nat→Option Nat) (sp:Sl) (ls:List Sp3):Prop where
  own:Own h 0 sp 2 (ls.flatMap spL)
  tag:∀ k,sp.blk=some k→T k=some 1
  rows:∀ x,x∈ls→Row h x.2.1 4 (x.2.2.flatMap f4L)∧∀ k,x.2.1.blk=some k→T k=some 5
def Znm (h:Zb) (T:Nat→Option Nat) (id:Int) (v:Value):Cnt→Prop
  | .rate w=>∃ wb mb,v = .iface 184 (.agg #[.pointer (some ⟨wb,0,none⟩)])∧Zoj h wb mb w∧T wb=some (tg id 0)∧T mb=some (tg id 1)
  | .value s=>∃ wb sl lb,v = .iface 190 (.agg #[.pointer (some ⟨wb,0,none⟩)])∧SkR h T id wb sl lb s
  | .leased=>v = .iface 192 (.agg #[])
def Znh (h:Zb) (T:Nat→Option Nat) (cb:Nat) (cs:Int→Option Cnt) (nc:Nat):Prop :=
  ∃ f,Ze4 h cb f nc∧(∀ id,cs id=none→f id=none)∧∀ id c,cs id=some c→1≤id∧∃ v,f id=some (.agg #[v,iv c.kind])∧Znm h T id v c
structure ZdE (h:Zb) (T:Nat→Option Nat) (sb cb nb:Nat) (sp so:Sl) (ls:List Sp3) (S:Srv):Prop where
  cells:obj h sb=some (.cells [iv S.begun,iv S.last,slV sp,.map (some cb),.map (some nb),slV so,iv S.next].toArray 118 (0,0))
  spaces:SpR h T sp ls
  names:ls.map (fun x=>(x.1,x.2.2))=S.spaces
  counts:Znh h T cb S.counts S.nc
  conns:Ze4 h nb (fun i=>(S.conns i).map .string) S.nn
  out:Own h 0 so 4 (S.out.flatMap f4L)
  tsb:T sb=some 0
  tcb:T cb=some 2
  tnb:T nb=some 3
  tso:∀ k,so.blk=some k→T k=some 4
  lt:∀ k,T k≠none→k<sz h
def Server (h:Zb) (T:Nat→Option Nat) (sb:Nat) (S:Srv):Prop:=∃ cb nb sp so ls,ZdE h T sb cb nb sp so ls S
theorem SpR.congr {h h':Zb} {T T':Nat→Option Nat} {sp:Sl} {ls:List Sp3} (hs:SpR h T sp ls) (hT:∀ k t,T k=some t→T' k=some t) (he:∀ k,T k=some 1∨T k=some 5→h'[k]?=h[k]?):SpR h' T' sp ls :=
  ⟨hs.own.congr fun b hb _ _=>he b (.inl (hs.tag b hb)),fun k hk=>hT _ _ (hs.tag k hk),fun x hx=>⟨(hs.rows x hx).1.congr fun b o hp _ _=>he b (.inr ((hs.rows x hx).2 b (by simp [Sl.blk,hp]))),fun k hk=>hT _ _ ((hs.rows x hx).2 k hk)⟩⟩
theorem Znm.congr {h h':Zb} {T T':Nat→Option Nat} {id:Int} {v:Value} {c:Cnt} (hc:Znm h T id v c) (hT:∀ k t,T k=some t→T' k=some t) (he:∀ k j,j<4→T k=some (tg id j)→h'[k]?=h[k]?):Znm h' T' id v c:=by
  cases c with
  | rate w =>
    obtain ⟨wb,mb,hv,hw,t1,t2⟩:=hc
    exact ⟨wb,mb,hv,hw.congr (he wb 0 (by decide) t1) (he mb 1 (by decide) t2),hT _ _ t1,hT _ _ t2⟩
  | value s =>
    obtain ⟨wb,sl,lb,hv,hs⟩:=hc
    exact ⟨wb,sl,lb,hv,hs.congr hT he⟩
  | leased=>exact hc
theorem Znh.congr {h h':Zb} {T T':Nat→Option Nat} {cb:Nat} {cs:Int→Option Cnt} {nc:Nat} (hc:Znh h T cb cs nc) (hT:∀ k t,T k=some t→T' k=some t) (hcb:h'[cb]?=h[cb]?) (he:∀ k t,T k=some t→6≤t→h'[k]?=h[k]?):Znh h' T' cb cs nc:=by
  obtain ⟨f,hm,h1,h2⟩:=hc
  refine ⟨f,hm.congr hcb,h1,fun id c hid=>?_⟩
  obtain ⟨hi,v,hv,hr⟩:=h2 id c hid
  exact ⟨hi,v,hv,hr.congr hT fun k j _ hk=>he k _ hk (by unfold tg;omega)⟩
theorem ZdE.congr {h h':Zb} {T:Nat→Option Nat} {sb cb nb:Nat} {sp so:Sl} {ls:List Sp3} {S:Srv} (hR:ZdE h T sb cb nb sp so ls S) (hz:sz h≤sz h') (he:∀ k,T k≠none→h'[k]?=h[k]?):ZdE h' T sb cb nb sp so ls S:=by
  have q:∀ k t,T k=some t→h'[k]?=h[k]?:=fun k t hk=>he k (by rw [hk];exact fun e=>by cases e)
  exact ⟨(q sb 0 hR.tsb).trans hR.cells,hR.spaces.congr (fun _ _ h=>h) (fun k hk=>hk.elim (q k _) (q k _)),hR.names,hR.counts.congr (fun _ _ h=>h) (q cb _ hR.tcb) (fun k t hk _=>q k t hk),hR.conns.congr (q nb _ hR.tnb),
    hR.out.congr fun b hb _ _=>q b _ (hR.tso b hb),hR.tsb,hR.tcb,hR.tnb,hR.tso,fun k hk=>Nat.lt_of_lt_of_le (hR.lt k hk) hz⟩
theorem ZdE.ext {h h':Zb} {T:Nat→Option Nat} {sb cb nb:Nat} {sp so:Sl} {ls:List Sp3} {S:Srv} (hR:ZdE h T sb cb nb sp so ls S) (he:Ext h h'):ZdE h' T sb cb nb sp so ls S :=
  hR.congr he.size fun k hk=>he.old k (hR.lt k hk)
theorem ZdE.setB {h h':Zb} {T:Nat→Option Nat} {sb cb nb:Nat} {sp so:Sl} {ls:List Sp3} {S:Srv} (hR:ZdE h T sb cb nb sp so ls S) {b l n:Int} (hu:Upd (· = sb) h h')
    (hc:obj h' sb=some (.cells [iv b,iv l,slV sp,.map (some cb),.map (some nb),slV so,iv n].toArray 118 (0,0))):ZdE h' T sb cb nb sp so ls { S with begun:=b,last:=l,next:=n }:=by
  have q:∀ k t,T k=some t→t≠0→h'[k]?=h[k]?:=fun k t hk h0=>hu.old k (hR.lt k (by rw [hk];exact fun e=>by cases e)) fun e=>by
    subst e
    rw [hR.tsb] at hk
    cases hk
    exact h0 rfl
  exact ⟨hc,hR.spaces.congr (fun _ _ h=>h) (fun k hk=>hk.elim (fun h=>q k _ h (by decide)) (fun h=>q k _ h (by decide))),hR.names,hR.counts.congr (fun _ _ h=>h) (q cb _ hR.tcb (by decide)) (fun k t hk h6=>q k t hk (by omega)),hR.conns.congr (q nb _ hR.tnb (by decide)),
    hR.out.congr fun b hb _ _=>q b _ (hR.tso b hb) (by decide),hR.tsb,hR.tcb,hR.tnb,hR.tso,fun k hk=>Nat.lt_of_lt_of_le (hR.lt k hk) hu.size⟩
theorem ZdE.setN {h h':Zb} {T:Nat→Option Nat} {sb cb nb:Nat} {sp so:Sl} {ls:List Sp3} {S:Srv} (hR:ZdE h T sb cb nb sp so ls S) {cs:Int→Option ByteArray} {n:Nat} (hu:Upd (· = nb) h h')
    (hc:Ze4 h' nb (fun i=>(cs i).map .string) n):ZdE h' T sb cb nb sp so ls { S with conns:=cs,nn:=n }:=by
  have q:∀ k t,T k=some t→t≠3→h'[k]?=h[k]?:=fun k t hk h0=>hu.old k (hR.lt k (by rw [hk];exact fun e=>by cases e)) fun e=>by
    subst e
    rw [hR.tnb] at hk
    cases hk
    exact h0 rfl
  exact ⟨(q sb 0 hR.tsb (by decide)).trans hR.cells,hR.spaces.congr (fun _ _ h=>h) (fun k hk=>hk.elim (fun h=>q k _ h (by decide)) (fun h=>q k _ h (by decide))),hR.names,hR.counts.congr (fun _ _ h=>h) (q cb _ hR.tcb (by decide)) (fun k t hk h6=>q k t hk (by omega)),hc,
    hR.out.congr fun b hb _ _=>q b _ (hR.tso b hb) (by decide),hR.tsb,hR.tcb,hR.tnb,hR.tso,fun k hk=>Nat.lt_of_lt_of_le (hR.lt k hk) hu.size⟩
theorem ZdE.setO {h h':Zb} {T:Nat→Option Nat} {sb cb nb:Nat} {sp so so':Sl} {ls:List Sp3} {S:Srv} (hR:ZdE h T sb cb nb sp so ls S) {n:Int} {o:List F4} (hu:Upd (fun k=>k=sb∨T k=some 4∨T k=none) h h')
    (hc:obj h' sb=some (.cells [iv S.begun,iv S.last,slV sp,.map (some cb),.map (some nb),slV so',iv n].toArray 118 (0,0))) (ho:Own h' 0 so' 4 (o.flatMap f4L))
    (hn:∀ k,so'.blk=some k→T k=some 4∨T k=none):ZdE h' (fun k=>if so'.blk=some k then some 4 else T k) sb cb nb sp so' ls { S with out:=o,next:=n }:=by
  have hT:∀ k t,T k=some t→(fun k=>if so'.blk=some k then some 4 else T k) k=some t:=fun k t hk=>by
    dsimp only
    split
    ·rename_i hb
     rcases hn k hb with e | e
     ·rw [← hk,e]
     ·rw [e] at hk;cases hk
    ·exact hk
  have q:∀ k t,T k=some t→t≠0→t≠4→h'[k]?=h[k]?:=fun k t hk h0 h4=>hu.old k (hR.lt k (by rw [hk];exact fun e=>by cases e)) fun e=>by
    rcases e with e | e
    ·subst e
     rw [hR.tsb] at hk
     cases hk
     exact h0 rfl
    ·rw [hk] at e
     rcases e with e | e
     ·cases e
      exact h4 rfl
     ·cases e
  refine ⟨hc,hR.spaces.congr hT (fun k hk=>hk.elim (fun h=>q k _ h (by decide) (by decide)) (fun h=>q k _ h (by decide) (by decide))),hR.names,hR.counts.congr hT (q cb _ hR.tcb (by decide) (by decide)) (fun k t hk h6=>q k t hk (by omega) (by omega)),hR.conns.congr (q nb _ hR.tnb (by decide) (by decide)),
    ho,hT _ _ hR.tsb,hT _ _ hR.tcb,hT _ _ hR.tnb,fun k hk=>if_pos hk,fun k hk=>?_⟩
  split at hk
  ·rename_i hb
   exact (ho.lt hb).2
  ·exact Nat.lt_of_lt_of_le (hR.lt k hk) hu.size
theorem ZdE.setC {h h':Zb} {T T':Nat→Option Nat} {sb cb nb:Nat} {sp so:Sl} {ls:List Sp3} {S:Srv} (hR:ZdE h T sb cb nb sp so ls S) {id:Int} {c:Cnt} (hid:1≤id) (hu:Upd (fun k=>∃ j,j<4∧T k=some (tg id j)) h h')
    (hT:∀ k t,T k=some t→T' k=some t) (hlt:∀ k,T' k≠none→k<sz h') {f:Int→Option Value} (hm:Ze4 h cb f S.nc) (h1:∀ id,S.counts id=none→f id=none) (h2:∀ id c,S.counts id=some c→1≤id∧∃ v,f id=some (.agg #[v,iv c.kind])∧Znm h T id v c)
    {v:Value} (hf:f id=some (.agg #[v,iv c.kind])) (hc:Znm h' T' id v c):ZdE h' T' sb cb nb sp so ls { S with counts:=fun i=>if i=id then some c else S.counts i }:=by
  have q:∀ k t,T k=some t→t<6→h'[k]?=h[k]?:=fun k t hk h0=>hu.old k (hR.lt k (by rw [hk];exact fun e=>by cases e)) fun ⟨j,_,e⟩=>by
    rw [hk] at e
    cases e
    unfold tg at h0
    omega
  refine ⟨(q sb 0 hR.tsb (by decide)).trans hR.cells,hR.spaces.congr hT (fun k hk=>hk.elim (fun h=>q k _ h (by decide)) (fun h=>q k _ h (by decide))),hR.names,⟨f,hm.congr (q cb _ hR.tcb (by decide)),fun i hi=>?_,fun i d hi=>?_⟩,hR.conns.congr (q nb _ hR.tnb (by decide)),
    hR.out.congr fun b hb _ _=>q b _ (hR.tso b hb) (by decide),hT _ _ hR.tsb,hT _ _ hR.tcb,hT _ _ hR.tnb,fun k hk=>hT _ _ (hR.tso k hk),hlt⟩
  ·dsimp only at hi
   split at hi
   ·cases hi
   ·exact h1 i hi
  ·dsimp only at hi
   split at hi
   ·rename_i hii
    subst hii
    cases hi
    exact ⟨hid,v,hf,hc⟩
   ·rename_i hii
    obtain ⟨hi1,w,hw,hr⟩:=h2 i d hi
    refine ⟨hi1,w,hw,hr.congr hT fun k j hj hk=>hu.old k (hR.lt k (by rw [hk];exact fun e=>by cases e)) fun ⟨j',hj',e⟩=>?_⟩
    rw [hk] at e
    injection e with e
    unfold tg at e
    omega
def Zbm (last at_:Int):Int:=if 0≤at_∧at_≤1152921504606846976 then (if at_<last then 7 else 0) else 2
theorem ZmD {at_:Int} {K:Bool→Zb→Prop} {h:Zb}:ZaV at_ K h=K (decide (0≤at_∧at_≤1152921504606846976)) h:=by
  unfold ZaV ZeU
  rcases Decidable.em (0≤at_) with h0 | h0
  ·have e2:decide (0≤at_∧at_≤1152921504606846976)=decide (at_≤1152921504606846976):=decide_eq_decide.2 ⟨fun h=>h.2,fun h=>⟨h0,h⟩⟩
   rw [e2]
   exact propext ⟨fun hk=>hk.1 (by simpa using h0),fun hk=>ZaS (by simpa using h0) hk⟩
  ·have e2:decide (0≤at_∧at_≤1152921504606846976)=false:=by simp [h0]
   rw [e2]
   exact propext ⟨fun hk=>hk.2 (by simpa using h0),fun hk=>XE (by simpa using h0) hk⟩
theorem Zr4 {h:Zb} {sb:Nat} {b l:Int} {r:List Value} (hc:obj h sb=some (.cells (iv b::iv l::r).toArray 118 (0,0))) {at_:Int} {K:Int→Zb→Prop} :
    Xa (some ⟨sb,0,none⟩) at_ K h=K (Zbm l at_) h:=by
  unfold Xa Zc2 Zbm
  simp (maxDischargeDepth:=60) only [Zs,Zr,evC,Nqa,Nqb,Nqc,Nqd,Nqe,reduceCtorEq,ZmD]
  by_cases h1:0≤at_∧at_≤1152921504606846976
  ·simp (maxDischargeDepth:=60) only [Zs,Zr,evC,Nqa,Nqb,Nqc,Nqd,Nqe,reduceCtorEq,h1,hc]
   by_cases h2:at_<l
   ·simp only [h2,decide_true,ZnQ,if_true]
   ·simp only [h2,decide_false,ZnR,if_false]
  ·simp (maxDischargeDepth:=60) only [Zs,Zr,evC,Nqa,Nqb,Nqc,Nqd,Nqe,reduceCtorEq,h1]
theorem ZmO {α:Type} {p:α→Bool}:∀ {l:List α} {i:Nat} {a:α},l[i]?=some a→p a=true→(∀ (j:Nat) (b:α),j<i→l[j]?=some b→p b=false)→l.findIdx? p=some i
  | [],i,a,h,_,_=>by simp at h
  | x::l,0,a,h,hp,_=>by
    simp at h
    subst h
    simp [List.findIdx?_cons,hp]
  | x::l,i+1,a,h,hp,hn=>by
    have hx:=hn 0 x (by omega) (by simp)
    rw [List.findIdx?_cons,hx,ZmO (l:=l) (i:=i) (by simpa using h) hp fun j b hj hb=>hn (j+1) b (by omega) (by simpa using hb)]
    rfl
theorem Zsu {α:Type} {p:α→Bool} {l:List α} (hn:∀ (j:Nat) (b:α),l[j]?=some b→p b=false):l.findIdx? p=none:=by
  rw [List.findIdx?_eq_none_iff]
  intro x hx
  obtain ⟨j,hj⟩:=List.getElem?_of_mem hx
  exact hn j x hj
def ixV {α:Type} (p:α→Bool) (l:List α):Int:=match l.findIdx? p with
  | some i=>i
  | none=> -1
theorem Zgu {α:Type} {p:α→Bool} {l:List α} {i:Nat} (h:l.findIdx? p=some i):ixV p l=i:=by unfold ixV;rw [h]
theorem Zfw {α:Type} {p:α→Bool} {l:List α} (h:l.findIdx? p=none):ixV p l = -1:=by unfold ixV;rw [h]
theorem Zfc {α:Type} {g:α→List Value} {n:Nat} (hg:∀ a,(g a).length=n) {h:Zb} {s:Sl} {l:List α} (hr:Row h s n (l.flatMap g)) (hn:0<n) {p:α→Bool} {K:Int→Zb→Prop}
    {tst:(Bool→Zb→Prop)→Nat→Nat→Zb→Prop}
    (ht:∀ (i:Nat) (a:α) (b o:Nat) (hh:Zb) (Q:Bool→Zb→Prop),l[i]?=some a→Ext h hh→(∀ j v,(g a)[j]?=some v→ZL (o+j) (obj hh b)=some v)→(∀ h',Ext h h'→Q (p a) h')→tst Q b o hh)
    (hk:∀ h',Ext h h'→K (ixV p l) h') :
    Zc 0 fun _=>YI (σ:=Int × Unit) (fun J1 s2 h3 =>
     (fun (s8:Int)=>Zw (decide (s8<(s.len:Int))) (Zc s8 fun i=>Zap s.ptr s.len i n fun b o=>tst (fun t6 h7=>Zw t6 (Zc i fun t8=>K t8 h7) (J1 (IntKind.wrap .i64 (s8+1),()) h7)) b o h3) (Zc (-1) fun t9=>K t9 h3)) s2.1) (0,()) h:=by
  have hl:=Zas hg hr hn
  have hbig:=hr.big
  have hcap:=hr.cap
  refine Za (Yc (fun st hh=>∃ i:Nat,st=((i:Int),())∧i≤l.length∧Ext h hh∧∀ (j:Nat) (b:α),j<i→l[j]?=some b→p b=false) (fun st _=>(s.len - st.1).toNat) ⟨0,rfl,by omega,Ext.refl _,fun j b hj=>by omega⟩ ?_)
  rintro _ hh ⟨i,rfl,hi,he,hp⟩
  dsimp only
  refine Zj (fun q=>?_) fun q=>?_
  ·obtain ⟨a,ha⟩:∃ a,l[i]?=some a:=⟨_,List.getElem?_eq_getElem (by omega)⟩
   obtain ⟨b,o,hb,_,hidx,hcell⟩:=ZaI hg (hr.ext he) ha hn
   refine Za (hidx rfl (ht i a b o hh _ ha he hcell fun h' he'=>?_))
   cases hpa:p a with
   | true =>
     refine ZF (Za ?_)
     rw [← Zgu (ZmO ha hpa hp)]
     exact hk h' he'
   | false =>
     refine Zl ⟨⟨i+1,?_,by omega,he',fun j b hj hb=>?_⟩,?_⟩
     ·rw [ZR (by omega) (by omega)];rfl
     ·rcases (show j<i∨j=i by omega) with hji | rfl
      ·exact hp j b hji hb
      ·rw [ha] at hb;cases hb;exact hpa
     ·rw [ZR (by omega) (by omega)]
      omega
  ·refine Za ?_
   rw [← Zfw (Zsu (p:=p) (l:=l) fun j b hb=>hp j b (by have:=Xk hb;omega) hb)]
   exact hk hh he
theorem ZhK {h:Zb} {sb:Nat} {x0 x1:Value} {sp:Sl} {r:List Value} (hc:obj h sb=some (.cells (x0::x1::slV sp::r).toArray 118 (0,0))) {ls:List Sp3} (hs:Row h sp 2 (ls.flatMap spL)) {name:ByteArray} {K:Int→Zb→Prop}
    (hk:∀ h',Ext h h'→K (ixV (fun x=>ZaF x.1 name) ls) h'):Yu (some ⟨sb,0,none⟩) name K h:=by
  unfold Yu Zcn
  have l0:=ZS hc
  simp (maxDischargeDepth:=60) only [Zs,Zr,evC,Nqa,Nqb,Nqc,Nqd,Nqe,reduceCtorEq,hc,YH l0]
  unfold ZM ZZ
  have e1:=Ext.push h (.cells [Value.string name].toArray 9 (0,0))
  refine Zfc Zdj (hs.ext e1) (by decide) (p:=fun x=>ZaF x.1 name) (tst:=fun Q b o h3=>ldS h3 b o fun t4=>ldL h3 b (o+1) fun t5=>XG (t4,t5,()) (some ⟨sz h,0,none⟩) Q h3) ?_ ?_
  ·intro i a b o hh Q ha he hcell hQ
   have v0:=hcell 0 _ rfl
   have v1:=hcell 1 _ rfl
   simp only [Nat.add_zero] at v0
   have c0:obj hh (sz h)=some (.cells [Value.string name].toArray 9 (0,0)):=Yh (by simp (maxDischargeDepth:=60) only [Zs,Zr,evC,Nqa,Nqb,Nqc,Nqd,Nqe,reduceCtorEq]) he
   have l1:=ZS c0
   simp (maxDischargeDepth:=60) only [Zs,Zr,evC,Nqa,Nqb,Nqc,Nqd,Nqe,reduceCtorEq,v0,v1]
   unfold XG ZbD
   simp (maxDischargeDepth:=60) only [Zs,Zr,evC,Nqa,Nqb,Nqc,Nqd,Nqe,reduceCtorEq,c0,YH l1]
   exact hQ _ (ZO he)
  ·intro h' he
   exact hk h' (e1.trans he)
def ZlN (ns:ByteArray) (id:Int) (name:ByteArray) (f:F4):Bool:=f.1 ==id&&(ZaF ns (ByteArray.mk #[])||ZaF name ns)
def ZfI (l:List (ByteArray × List F4)) (ns:ByteArray) (id:Int):Option F4:=(l.flatMap fun x=>x.2.filter (ZlN ns id x.1)).head?
theorem Zss {l:List (ByteArray × List F4)} {ns:ByteArray} {id:Int} (h:∀ x,x∈l→∀ f,f∈x.2→ZlN ns id x.1 f=false):ZfI l ns id=none:=by
  unfold ZfI
  rw [List.head?_eq_none_iff,List.flatMap_eq_nil_iff]
  intro x hx
  rw [List.filter_eq_nil_iff]
  intro f hf
  rw [h x hx f hf]
  decide
theorem Zsr {l:List (ByteArray × List F4)} {ns:ByteArray} {id:Int} {i k:Nat} {x:ByteArray × List F4} {f:F4} (hx:l[i]?=some x) (hf:x.2[k]?=some f) (hh:ZlN ns id x.1 f=true)
    (h1:∀ (j:Nat) (y:ByteArray × List F4),j<i→l[j]?=some y→∀ f,f∈y.2→ZlN ns id y.1 f=false) (h2:∀ (j:Nat) (g:F4),j<k→x.2[j]?=some g→ZlN ns id x.1 g=false):ZfI l ns id=some f:=by
  have sp1:l=l.take i++x::l.drop (i+1):=by
    obtain ⟨hil,e⟩:=List.getElem?_eq_some_iff.1 hx
    rw [← e,List.getElem_cons_drop,List.take_append_drop]
  have sp2:x.2=x.2.take k++f::x.2.drop (k+1):=by
    obtain ⟨hil,e⟩:=List.getElem?_eq_some_iff.1 hf
    rw [← e,List.getElem_cons_drop,List.take_append_drop]
  have n1:(l.take i).flatMap (fun x=>x.2.filter (ZlN ns id x.1))=[]:=by
    rw [List.flatMap_eq_nil_iff]
    intro y hy
    obtain ⟨j,hj⟩:=List.getElem?_of_mem hy
    rw [List.getElem?_take] at hj
    split at hj
    ·rw [List.filter_eq_nil_iff]
     intro g hg
     rw [h1 j y (by assumption) hj g hg]
     decide
    ·cases hj
  have n2:(x.2.take k).filter (ZlN ns id x.1)=[]:=by
    rw [List.filter_eq_nil_iff]
    intro g hg
    obtain ⟨j,hj⟩:=List.getElem?_of_mem hg
    rw [List.getElem?_take] at hj
    split at hj
    ·rw [h2 j g (by assumption) hj]
     decide
    ·cases hj
  have n3:x.2.filter (ZlN ns id x.1)=f::(x.2.drop (k+1)).filter (ZlN ns id x.1):=by
    conv=>lhs;rw [sp2]
    rw [List.filter_append,n2,List.nil_append,List.filter_cons,hh]
    simp
  unfold ZfI
  rw [sp1,List.flatMap_append,n1,List.nil_append,List.flatMap_cons,n3]
  rfl
theorem ZmJ {h:Zb} {sb:Nat} {x0 x1:Value} {sp:Sl} {r:List Value} (hc:obj h sb=some (.cells (x0::x1::slV sp::r).toArray 118 (0,0))) {T:Nat→Option Nat} {ls:List Sp3} (hs:SpR h T sp ls) {l:List (ByteArray × List F4)} (hl:ls.map (fun x=>(x.1,x.2.2))=l) {ns:ByteArray} {id:Int} {K:F4→Bool→Zb→Prop}
    (hk:∀ h',Ext h h'→K ((ZfI l ns id).getD zF) (ZfI l ns id).isSome h'):Xb (some ⟨sb,0,none⟩) ns id K h:=by
  unfold Xb Zc4
  have l0:=ZS hc
  simp (maxDischargeDepth:=60) only [Zs,Zr,evC,Nqa,Nqb,Nqc,Nqd,Nqe,reduceCtorEq,hc,YH l0]
  have e1:Ext h (h.push (.cells [iv 0,iv 0,iv 0,iv 0].toArray 46 (0,0))):=Ext.push _ _
  have hrow:=hs.own.row
  have hlen:=Zas Zdj hrow (by decide)
  have hb1:=hrow.big
  have hb2:=hrow.cap
  have sub:∀ (i:Nat) (y:ByteArray × List F4),l[i]?=some y→∃ x,ls[i]?=some x∧(x.1,x.2.2)=y:=fun i y hy=>by
    rw [← hl,List.getElem?_map] at hy
    cases hx:ls[i]? with
    | none=>rw [hx] at hy;cases hy
    | some x=>rw [hx] at hy;exact ⟨x,rfl,Option.some.inj hy⟩
  refine Zds (fun st hh=>∃ i:Nat,st=((i:Int),())∧i≤ls.length∧Ext h hh∧obj hh (sz h)=some (.cells [iv 0,iv 0,iv 0,iv 0].toArray 46 (0,0))∧∀ (j:Nat) (y:ByteArray × List F4),j<i→l[j]?=some y→∀ f,f∈y.2→ZlN ns id y.1 f=false)
    (fun st _=>(sp.len - st.1).toNat) ⟨0,rfl,by omega,e1,by simp (maxDischargeDepth:=60) only [Zs,Zr,evC,Nqa,Nqb,Nqc,Nqd,Nqe,reduceCtorEq],fun j y hj=>by omega⟩ ?_
  rintro _ hh ⟨i,rfl,hi,he,hz0,hp⟩ Q hQ
  have g0:=ZS hz0
  dsimp only
  refine Zj (fun q=>?_) fun q=>?_
  ·obtain ⟨x,hx⟩:∃ x,ls[i]?=some x:=⟨_,List.getElem?_eq_getElem (by omega)⟩
   obtain ⟨b,o,hb,_,hidx,hcell⟩:=ZaI Zdj (hrow.ext he) hx (by decide)
   have hrf:=((hs.rows x (List.mem_of_getElem? hx)).1).ext he
   have hlx:l[i]?=some (x.1,x.2.2):=by rw [← hl,List.getElem?_map,hx];rfl
   have v0:=hcell 0 _ rfl
   have v1:=hcell 1 _ rfl
   simp only [Nat.add_zero] at v0
   refine hidx rfl ?_
   simp (maxDischargeDepth:=60) only [Zs,Zr,evC,Nqa,Nqb,Nqc,Nqd,Nqe,reduceCtorEq,v0,v1]
   have hlf:=Zas YU hrf (by decide)
   have hb3:=hrf.big
   have hb4:=hrf.cap
   refine Zds (fun st h2=>∃ k:Nat,st=((k:Int),())∧k≤x.2.2.length∧Ext hh h2∧obj h2 (sz hh)=some (.cells [.string x.1,slV x.2.1].toArray 137 (0,0))∧∀ (j:Nat) (g:F4),j<k→x.2.2[j]?=some g→ZlN ns id x.1 g=false)
     (fun st _=>(x.2.1.len - st.1).toNat) ⟨0,rfl,by omega,?_,?_,fun j y hj=>by omega⟩ ?_
   ·simp +arith (maxDischargeDepth:=60) only [Zs,Zr,evC,Nqa,Nqb,Nqc,Nqd,Nqe,reduceCtorEq,Z3,ZO]
   ·simp (maxDischargeDepth:=60) only [Zs,Zr,evC,Nqa,Nqb,Nqc,Nqd,Nqe,reduceCtorEq]
   rintro _ h2 ⟨k,rfl,hk2,he2,hsp,hp2⟩ Q2 hQ2
   have g1:=ZS hsp
   have z2:=X6 he2
   dsimp only
   refine Zj (fun q2=>?_) fun q2=>?_
   ·obtain ⟨f,hf⟩:∃ f,x.2.2[k]?=some f:=⟨_,List.getElem?_eq_getElem (by omega)⟩
    obtain ⟨b2,o2,_,_,hidx2,hcell2⟩:=ZaI YU (hrf.ext he2) hf (by decide)
    refine hidx2 rfl ?_
    have w0:=hcell2 0 _ rfl
    have w1:=hcell2 1 _ rfl
    have w2:=hcell2 2 _ rfl
    have w3:=hcell2 3 _ rfl
    simp only [Nat.add_zero] at w0
    have hz2:=Yh hz0 he2
    have g2:=ZS hz2
    have hwr:IntKind.wrap .i64 ((k:Int)+1)=((k+1:Nat):Int):=by rw [ZR (by omega) (by omega)];rfl
    have n01:(sz h=sz h2)=False:=eq_false (by omega)
    have n02:(sz h2=sz h)=False:=eq_false (by omega)
    have n03:(sz hh=sz h2)=False:=eq_false (by omega)
    have goF:ZlN ns id x.1 f=true→∀ h9,Ext h h9→K f true h9:=fun hh9 h9 he9=>by
      have:=hk h9 he9
      rw [Zsr hlx hf hh9 hp hp2] at this
      exact this
    have goN:∀ h9,Ext hh h9→obj h9 (sz hh)=some (.cells [.string x.1,slV x.2.1].toArray 137 (0,0))→ZlN ns id x.1 f=false→Q2 (((k+1:Nat):Int),()) h9:=fun h9 e9 o9 hn9 =>
      hQ2 _ _ ⟨k+1,rfl,by omega,e9,o9,fun j g hj hg=>by
        rcases (show j<k∨j=k by omega) with hjk | rfl
        ·exact hp2 j g hjk hg
        ·rw [hf] at hg;cases hg;exact hn9⟩ (by dsimp only;omega)
    have eN:Ext hh (Zb.puts (h2.push (.cells [iv 0,iv 0,iv 0,iv 0].toArray 46 (0,0))) (sz h2) 0 [iv f.1,iv f.2.1,iv f.2.2.1,iv f.2.2.2.1]):=Z3 (ZO he2) z2
    simp (maxDischargeDepth:=60) only [Zs,Zr,evC,Nqa,Nqb,Nqc,Nqd,Nqe,reduceCtorEq,w0,w1,w2,w3]
    refine ⟨fun c1=>⟨fun c2=>?_,fun c2=>?_⟩,fun c1=>?_⟩
    ·have hF:=goF (by unfold ZlN;rw [c1,c2];rfl)
     simp (maxDischargeDepth:=60) only [Zs,Zr,evC,Nqa,Nqb,Nqc,Nqd,Nqe,reduceCtorEq,hz2,n01,n02]
     exact hF _ (Z3 (he.trans eN) (by omega))
    ·simp (maxDischargeDepth:=60) only [Zs,Zr,evC,Nqa,Nqb,Nqc,Nqd,Nqe,reduceCtorEq,hsp,n03]
     refine ⟨fun c3=>?_,fun c3=>?_⟩
     ·have hF:=goF (by unfold ZlN;rw [c1,c2,c3];rfl)
      simp (maxDischargeDepth:=60) only [Zs,Zr,evC,Nqa,Nqb,Nqc,Nqd,Nqe,reduceCtorEq,hz2,n01,n02]
      exact hF _ (Z3 (he.trans eN) (by omega))
     ·rw [hwr]
      exact goN _ eN (by simp (maxDischargeDepth:=60) only [Zs,Zr,evC,Nqa,Nqb,Nqc,Nqd,Nqe,reduceCtorEq,hsp,n03]) (by unfold ZlN;rw [c1,c2,c3];rfl)
    ·rw [hwr]
     exact goN _ eN (by simp (maxDischargeDepth:=60) only [Zs,Zr,evC,Nqa,Nqb,Nqc,Nqd,Nqe,reduceCtorEq,hsp,n03]) (by unfold ZlN;rw [c1];rfl)
   ·have hwr:IntKind.wrap .i64 ((i:Int)+1)=((i+1:Nat):Int):=by rw [ZR (by omega) (by omega)];rfl
    rw [hwr]
    refine hQ _ _ ⟨i+1,rfl,by omega,he.trans he2,Yh hz0 he2,fun j y hj hy f hf=>?_⟩ (by dsimp only;omega)
    rcases (show j<i∨j=i by omega) with hji | rfl
    ·exact hp j y hji hy f hf
    ·rw [hlx] at hy
     cases hy
     obtain ⟨m,hm⟩:=List.getElem?_of_mem hf
     exact hp2 m f (by have:=Xk hm;dsimp only at this;omega) hm
  ·have hn:ZfI l ns id=none:=Zss fun x hx f hf=>by
     obtain ⟨j,hj⟩:=List.getElem?_of_mem hx
     obtain ⟨y,hy,_⟩:=sub j x hj
     exact hp j x (by have:=Xk hy;omega) hj f hf
   rw [hn] at hk
   simp (maxDischargeDepth:=60) only [Zs,Zr,evC,Nqa,Nqb,Nqc,Nqd,Nqe,reduceCtorEq,hz0]
   exact hk _ (Z3 he (by omega))
theorem ZjA {α:Type} {g:α→List Value} {n:Nat} (hg:∀ a,(g a).length=n) {h:Zb} {base:Nat} {s:Sl} {l:List α} (ho:Own h base s n (l.flatMap g)) (hn:0<n) {p:α→Bool} {zs:List Value} (hz:zs.length=n) (hone:zs.all Zv=true) (hga:∀ a,(g a).all Zv=true) {i0:Nat} (hi0:i0<l.length)
    (hp0:∀ (j:Nat) (a:α),j<i0→l[j]?=some a→p a=false) (hp1:∀ a,l[i0]?=some a→p a=true) {Good:Zb→Prop} (hgood:∀ h1 h2,Good h1→Upd (fun k=>s.blk=some k) h1 h2→Good h2)
    {tst:((Bool→Nat→Zb→Prop)→Nat→Nat→Zb→Prop)} {wr:Nat→(List Value→Prop)→Zb→Prop} {K:Sl→Zb→Prop}
    (ht:∀ (a:α) (b o:Nat) (hh:Zb) (Q:Bool→Nat→Zb→Prop),Good hh→b<sz hh→(∀ j v,(g a)[j]?=some v→ZL (o+j) (obj hh b)=some v) →
      (∀ h' c,Good h'→Ext hh h'→(∀ R:List Value→Prop,R (g a)→wr c R h')→Q (p a) c h')→tst Q b o hh)
    (hgd:Good h) (hbs:∀ k,s.blk=some k→k<sz h)
    (hK:∀ t h',Own h' base t n ((l.filter fun a=> !p a).flatMap g)→(t.blk=s.blk∨t.blk=none)→Upd (fun k=>s.blk=some k) h h'→Good h'→K t h') :
    YI (σ:=Int × Int × Unit) (fun J4 s5 h6 =>
     (fun (i2:Int) (j3:Int)=>Zw (decide (j3<(s.len:Int))) (Zap s.ptr s.len j3 n fun b o=>tst (fun t18 c h19 =>
         Zw (!t18) (wr c (fun ws=>Zap s.ptr s.len i2 n fun b24 o25=>sts h19 b24 o25 ws fun h26=>Zc (IntKind.wrap .i64 (i2+1)) fun i27=>Zc (IntKind.wrap .i64 (j3+1)) fun j28=>J4 (i27,j28,()) h26) h19)
          (Zc (IntKind.wrap .i64 (j3+1)) fun j29=>J4 (i2,j29,()) h19)) b o h6)
       (slc s.ptr s.cap n i2 s.len s.cap fun t30=>ZsF t30 zs h6 fun h31=>slc s.ptr s.cap n 0 i2 s.cap fun t32=>K t32 h31)) s5.1 s5.2.1) ((i0:Int),((i0+1:Nat):Int),()) h:=by
  have hl:=Zas hg ho.row hn
  have hbig:=ho.big
  have hcap:=ho.cap
  refine Zds (fun st hh=>∃ (i j:Nat) (l':List α),st=((i:Int),(j:Int),())∧i<j∧j≤l.length∧l'.length=l.length∧Own hh base s n (l'.flatMap g)∧Upd (fun k=>s.blk=some k) h hh∧Good hh ∧
      l'.take i=(l.take j).filter (fun a=> !p a)∧l'.drop j=l.drop j) (fun st _=>(s.len - st.2.1).toNat) ⟨i0,i0+1,l,rfl,by omega,by omega,rfl,ho,Upd.refl _ _,hgd,?_,rfl⟩ ?_
  ·obtain ⟨a,ha⟩:∃ a,l[i0]?=some a:=⟨_,List.getElem?_eq_getElem hi0⟩
   rw [List.take_add_one,ha,List.filter_append]
   have e1:(l.take i0).filter (fun a=> !p a)=l.take i0:=by
     rw [List.filter_eq_self]
     intro x hx
     obtain ⟨j,hj⟩:=List.getElem?_of_mem hx
     rw [List.getElem?_take] at hj
     split at hj
     ·rw [hp0 j x (by assumption) hj];rfl
     ·cases hj
   have e2:(some a).toList.filter (fun a=> !p a)=[]:=by simp [hp1 a ha]
   rw [e1,e2,List.append_nil]
  rintro _ hh ⟨i,j,l',rfl,hij,hjl,hll,ho',hu,hgd',ht1,ht2⟩ Q hQ
  dsimp only
  refine Zj (fun q=>?_) fun q=>?_
  ·have hwj:IntKind.wrap .i64 ((j:Int)+1)=((j+1:Nat):Int):=by rw [ZR (by omega) (by omega)];rfl
   have hwi:IntKind.wrap .i64 ((i:Int)+1)=((i+1:Nat):Int):=by rw [ZR (by omega) (by omega)];rfl
   obtain ⟨a,ha⟩:∃ a,l[j]?=some a:=⟨_,List.getElem?_eq_getElem (by omega)⟩
   have ha':l'[j]?=some a:=by
     have:=congrArg (fun x=>x[0]?) ht2
     simp only [List.getElem?_drop,Nat.add_zero] at this
     rw [this,ha]
   obtain ⟨b,o,hb,hbl,hidx,hcell⟩:=ZaI hg ho'.row ha' hn
   refine hidx rfl (ht a b o hh _ hgd' hbl hcell fun h' c hgd2 he2 hwr=>?_)
   have ho2:=ho'.congr (h':=h') fun b hb _ _=>he2.old b (ho'.lt hb).2
   have step:(l.take (j+1)).filter (fun a=> !p a)=(l.take j).filter (fun a=> !p a)++(if p a then [] else [a]):=by
     rw [List.take_add_one,ha,List.filter_append]
     congr 1
     cases hpa:p a<;>simp [hpa]
   have dr:l'.drop (j+1)=l.drop (j+1):=by
     have:=congrArg (List.drop 1) ht2
     simpa [List.drop_drop] using this
   cases hpa:p a with
   | false =>
     refine ZF ?_
     have fin:∀ h9,Own h9 base s n ((l'.set i a).flatMap g)→Upd (fun k=>s.blk=some k) h' h9→sz h9=sz h'→Zc (IntKind.wrap .i64 ((i:Int)+1)) fun i27=>Zc (IntKind.wrap .i64 ((j:Int)+1)) fun j28=>Q (i27,j28,()) h9:=fun h9 ho9 hu9 hz9=>by
       refine Za (Za (hQ _ _ ⟨i+1,j+1,l'.set i a,?_,by omega,by omega,by simpa using hll,ho9,(hu.trans (he2.upd _)).trans hu9,hgood _ _ hgd2 hu9,?_,?_⟩ ?_))
       ·rw [hwi,hwj]
       ·rw [step,hpa]
        simp only [Bool.false_eq_true,if_false]
        rw [← ht1,List.take_add_one,List.take_set_of_le (Nat.le_refl _),List.getElem?_set_self (by omega)]
        rfl
       ·rw [List.drop_set_of_lt (by omega),dr]
       ·rw [hwj];dsimp only;omega
     exact hwr _ (ZtV hg ho2 (i:=i) (by omega) hn (a:=a) rfl (hga a) rfl fun h9 ho9 hu9 hz9=>fin h9 ho9 hu9 hz9)
   | true =>
     refine Zl (Za (hQ _ _ ⟨i,j+1,l',?_,by omega,by omega,hll,ho2,hu.trans (he2.upd _),hgd2,?_,dr⟩ ?_))
     ·rw [hwj]
     ·rw [step,hpa,ht1];simp
     ·rw [hwj];dsimp only;omega
  ·have hjl':j=l.length:=by omega
   have e1:l'.take i=l.filter (fun a=> !p a):=by rw [ht1,List.take_of_length_le (by omega)]
   refine ZrR hg ho' hn (k:=i) (by omega) rfl hz hone fun t h9 ho9 hb9 hu9 hz9=>hK t h9 ?_ (.inl hb9) (hu.trans hu9) (hgood _ _ hgd' hu9)
   rw [← e1]
   exact ho9
def Zn5 (at_:Int) (t:F4):Bool:=decide (at_≥t.2.2.2.1)
def XT (at_:Int) (l:List F4):List F4:=l.filter fun t=> !Zn5 at_ t
theorem Zm4 {t:F4} {ab:Nat} {at_:Int} {T:TypeId} {h:Zb} (hc:obj h ab=some (.cells [iv at_].toArray T (0,0))) {K:Bool→Zb→Prop} :
    Ye t (some ⟨ab,0,none⟩) K h=K (Zn5 at_ t) (h.push (.cells [iv t.1,iv t.2.1,iv t.2.2.1,iv t.2.2.2.1].toArray 167 (0,0))):=by
  unfold Ye ZbF Zn5
  have l0:=ZS hc
  simp (maxDischargeDepth:=60) only [Zs,Zr,evC,Nqa,Nqb,Nqc,Nqd,Nqe,reduceCtorEq,hc,YH l0]
theorem Zm3 {ab:Nat} {at_:Int} {h:Zb} {T:TypeId} (hc:obj h ab=some (.cells [iv at_].toArray T (0,0))) {s:Sl} {l:List F4} (hr:Row h s 4 (l.flatMap f4L)) {K:Int→Zb→Prop}
    (hk:∀ h',Ext h h'→K (ixV (Zn5 at_) l) h'):ZC s (some ⟨ab,0,none⟩,()) K h:=by
  unfold ZC Z0
  refine Zfc YU hr (by decide) (p:=Zn5 at_) (tst:=fun Q b o h3=>ldI h3 b o .i64 fun t4=>ldI h3 b (o+1) .i64 fun t5=>ldI h3 b (o+2) .i64 fun t6=>ldI h3 b (o+3) .i64 fun t7=>Ye (t4,t5,t6,t7,()) (some ⟨ab,0,none⟩) Q h3) ?_ hk
  intro i a b o hh Q ha he hcell hQ
  have v0:=hcell 0 _ rfl
  have v1:=hcell 1 _ rfl
  have v2:=hcell 2 _ rfl
  have v3:=hcell 3 _ rfl
  simp only [Nat.add_zero] at v0
  simp (maxDischargeDepth:=60) only [Zs,Zr,evC,Nqa,Nqb,Nqc,Nqd,Nqe,reduceCtorEq,v0,v1,v2,v3,Zm4 (Yh hc he)]
  exact hQ _ (ZO he)
theorem ZlJ {ab:Nat} {at_:Int} {h:Zb} {T:TypeId} (hc:obj h ab=some (.cells [iv at_].toArray T (0,0))) {s:Sl} {base:Nat} {l:List F4} (ho:Own h base s 4 (l.flatMap f4L)) (hb:ab<base) {K:Sl→Zb→Prop}
    (hk:∀ t h',Own h' base t 4 ((XT at_ l).flatMap f4L)→Upd (fun k=>base≤k) h h'→K t h'):ZB s (some ⟨ab,0,none⟩,()) K h:=by
  unfold ZB ZX
  refine Zm3 hc ho.row fun h1 e1=>Za ?_
  have ho1:=ho.congr (h':=h1) fun b hb _ _=>e1.old b (ho.lt hb).2
  have hc1:=Yh hc e1
  have hlen:=Zas YU ho.row (by decide)
  cases hf:l.findIdx? (Zn5 at_) with
  | none =>
    rw [Zfw hf]
    refine ZF ?_
    have:XT at_ l=l:=by
      unfold XT
      rw [List.filter_eq_self]
      intro a ha
      rw [List.findIdx?_eq_none_iff.1 hf a ha]
      rfl
    exact hk s h1 (by rw [this];exact ho1) (e1.upd _)
  | some i =>
    rw [Zgu hf]
    have hi:=List.findIdx?_eq_some_iff_getElem.1 hf
    obtain ⟨hil,hpi,hpj⟩:=hi
    have hbig:=ho.big
    have hcap:=ho.cap
    refine XE (by simp) (Za ?_)
    rw [show IntKind.wrap .i64 ((i:Int)+1)=((i+1:Nat):Int) from by rw [ZR (by omega) (by omega)];rfl]
    refine ZjA YU ho1 (by decide) (p:=Zn5 at_) (zs:=[.int .i64 0,.int .i64 0,.int .i64 0,.int .i64 0]) rfl (by simp [YW]) (fun a=>by simp [f4L,YW]) hil (fun j a hj ha=>?_) (fun a ha=>?_) (Good:=fun h=>obj h ab=some (.cells [iv at_].toArray T (0,0)))
      (tst:=fun Q b o h6=>ldI h6 b o .i64 fun t7=>ldI h6 b (o+1) .i64 fun t8=>ldI h6 b (o+2) .i64 fun t9=>ldI h6 b (o+3) .i64 fun t10 =>
        newC h6 [Value.int .i64 0,Value.int .i64 0,Value.int .i64 0,Value.int .i64 0] 167 fun b11 h12=>sts h12 b11 0 [Value.int .i64 t7,Value.int .i64 t8,Value.int .i64 t9,Value.int .i64 t10] fun h13 =>
        ldI h13 b11 0 .i64 fun t14=>ldI h13 b11 (0+1) .i64 fun t15=>ldI h13 b11 (0+2) .i64 fun t16=>ldI h13 b11 (0+3) .i64 fun t17=>Ye (t14,t15,t16,t17,()) (some ⟨ab,0,none⟩) (fun b h=>Q b b11 h) h13)
      (wr:=fun b11 R h19=>ldI h19 b11 0 .i64 fun t20=>ldI h19 b11 (0+1) .i64 fun t21=>ldI h19 b11 (0+2) .i64 fun t22=>ldI h19 b11 (0+3) .i64 fun t23=>R [Value.int .i64 t20,Value.int .i64 t21,Value.int .i64 t22,Value.int .i64 t23])
      (fun h1 h2 hg hu=>?_) ?_ hc1 (fun k hk=>(ho1.lt hk).2) (fun t h' ho' _ hu _=>hk t h' ho' ((e1.upd _).trans (hu.mono fun k _ hk=>(ho1.lt hk).1)))
    ·have:=hpj j hj
     rw [List.getElem?_eq_getElem (by omega)] at ha
     cases ha
     simpa using this
    ·rw [List.getElem?_eq_getElem hil] at ha
     cases ha
     exact hpi
    ·exact XM hg hu fun e=>by have:=(ho1.lt e).1;omega
    ·intro a b o hh Q hg hbl hcell hQ
     have v0:=hcell 0 _ rfl
     have v1:=hcell 1 _ rfl
     have v2:=hcell 2 _ rfl
     have v3:=hcell 3 _ rfl
     simp only [Nat.add_zero] at v0
     have lg:=ZS hg
     simp (maxDischargeDepth:=60) only [Zs,Zr,evC,Nqa,Nqb,Nqc,Nqd,Nqe,reduceCtorEq,v0,v1,v2,v3]
     rw [Zm4 (at_:=at_) (T:=T) (by simp (maxDischargeDepth:=60) only [Zs,Zr,evC,Nqa,Nqb,Nqc,Nqd,Nqe,reduceCtorEq,hg,YH lg])]
     refine hQ _ _ ?_ ?_ fun R hR=>?_
     ·have n1:(ab=sz hh+1)=False:=eq_false (by omega)
      simp (maxDischargeDepth:=60) only [Zs,Zr,evC,Nqa,Nqb,Nqc,Nqd,Nqe,reduceCtorEq,hg,YH lg,n1]
     ·exact ZO (Z3 (ZO (Ext.refl _)) (by omega))
     ·simp (maxDischargeDepth:=60) only [Zs,Zr,evC,Nqa,Nqb,Nqc,Nqd,Nqe,reduceCtorEq]
      exact hR
theorem Zk1 {h:Zb} {s:Sl} {l:List F4} (hr:Row h s 4 (l.flatMap f4L)) (hl:l.length≤1099511627776) {K:Sl→Zb→Prop}
    (hk:∀ t h',Own h' h.size t 4 (l.flatMap f4L)→Ext h h'→K t h'):Z6 s K h:=by
  unfold Z6 YT
  have hlen:=Zas YU hr (by decide)
  exact ZmW (bytes:=32) (zs:=[.int .i64 0,.int .i64 0,.int .i64 0,.int .i64 0]) hr (Zn1 l) rfl (by omega) (by omega) fun t h' ho he _=>hk t h' ho he
theorem Zh8 {h:Zb} {sb:Nat} {x0 x1 x2 x3 x4:Value} {so:Sl} {r:List Value} (hc:obj h sb=some (.cells (x0::x1::x2::x3::x4::slV so::r).toArray 118 (0,0))) {base:Nat} {l:List F4} (ho:Own h base so 4 (l.flatMap f4L)) (hl:l.length≤4096) {at_:Int} {K:Sl→Zb→Prop}
    (hk:∀ t h',Own h' h.size t 4 ((XT at_ l).flatMap f4L)→Ext h h'→K t h'):Yv (some ⟨sb,0,none⟩) at_ K h:=by
  unfold Yv Zcp
  have l0:=ZS hc
  have hlen:=Zas YU ho.row (by decide)
  simp (maxDischargeDepth:=60) only [Zs,Zr,evC,Nqa,Nqb,Nqc,Nqd,Nqe,reduceCtorEq,hc,YH l0]
  have e1:=Ext.push h (.cells [iv at_].toArray 3 (0,0))
  refine Zk1 (ho.row.ext e1) (by omega) fun t h2 ho2 he2=>?_
  have c2:obj h2 (sz h)=some (.cells [iv at_].toArray 3 (0,0)):=Yh (by simp (maxDischargeDepth:=60) only [Zs,Zr,evC,Nqa,Nqb,Nqc,Nqd,Nqe,reduceCtorEq]) he2
  refine ZlJ c2 ho2 (by rw [ZE,XB];omega) fun t3 h3 ho3 hu3=>hk t3 h3 (ho3.base (by rw [ZE,ZE,XB];omega)) (e1.trans (he2.then hu3 fun k hk=>hk))
theorem ZpF {h:Zb} {sb:Nat} {b:Int} {r:List Value} (hc:obj h sb=some (.cells (iv b::r).toArray 118 (0,0))) {at_:Int} {f:F4} {K:Bool→Zb→Prop}
    (hk:∀ h',Ext h h'→K (decide (at_<IntKind.wrap .i64 (b+Zqf 1000000 f.2.2.2.1))) h'):XH (some ⟨sb,0,none⟩) at_ f K h:=by
  unfold XH ZbE
  have l0:=ZS hc
  simp (maxDischargeDepth:=60) only [Zs,Zr,evC,Nqa,Nqb,Nqc,Nqd,Nqe,reduceCtorEq,hc,YH l0]
  exact hk _ (Ext.push _ _)
theorem ZsE {s:Sl} {zs:List Value} {h:Zb} {K K':Zb→Prop} (hc:ZsF s zs h K) (hk:∀ h',K h'→K' h'):ZsF s zs h K':=by
  rcases hc with ⟨h1,h2⟩ | ⟨h1,h2⟩ | ⟨b,o,h1,h2,h3,h4⟩
  ·exact .inl ⟨h1,hk _ h2⟩
  ·exact .inr (.inl ⟨h1,hk _ h2⟩)
  ·exact .inr (.inr ⟨b,o,h1,h2,h3,hk _ h4⟩)
theorem Zhs {α:Type} {g:α→List Value} {n:Nat} (hg:∀ a,(g a).length=n):∀ (l:List α) (k:Nat),(l.drop k).flatMap g=(l.flatMap g).drop (k*n)
  | [],k=>by simp
  | x::l,0=>by simp
  | x::l,k+1=>by
    rw [List.drop_succ_cons,List.flatMap_cons,Zhs hg l k,show (k+1)*n=(g x).length+k*n from by rw [hg,Nat.succ_mul];omega,List.drop_length_add_append]
theorem Zn2 {α:Type} (l:List α) (i:Nat):l.eraseIdx i=l.take i++l.drop (i+1):=List.eraseIdx_eq_take_drop_succ l i
theorem ZpK {α:Type} {g:α→List Value} {n bytes:Nat} (hg:∀ a,(g a).length=n) {h:Zb} {base:Nat} {s:Sl} {l:List α} (ho:Own h base s n (l.flatMap g)) (hn:0<n) {i:Nat} (hi:i<l.length) {zs:List Value} (hz:zs.length=n) (hone:zs.all Zv=true) (hga:(l.flatMap g).all Zv=true) {elem:TypeId} {K:Sl→Zb→Prop}
    (hK:∀ t h',Own h' base t n ((l.eraseIdx i).flatMap g)→t.blk=s.blk→Upd (fun k=>s.blk=some k) h h'→K t h') :
    slc s.ptr s.cap n (i:Int) ((i+1:Nat):Int) (s.len:Int) fun _=>Zw ((i:Int) ==((i+1:Nat):Int)) (K s h) (Zc (s.len:Int) fun oldlen=>slc s.ptr s.cap n 0 (i:Int) s.cap fun t1=>slc s.ptr s.cap n ((i+1:Nat):Int) s.len s.cap fun t2 =>
      rdS t2 n h fun new=>app elem n bytes zs t1 t2.len new h fun t3 h4=>slc t3.ptr t3.cap n (t3.len:Int) oldlen t3.cap fun t5=>ZsF t5 zs h4 fun h6=>K t3 h6):=by
  have hl:=Zas hg ho.row hn
  have hc:=ho.cap
  have hflat:=Z7 hg l
  obtain ⟨b,hp,hb⟩:=Own.ptr_ ho (o:=i*n) (by rw [hflat];exact Nat.mul_lt_mul_of_pos_right hi hn)
  have hp0:Zef s.ptr 0 s.cap n=s.ptr:=by rw [hp];exact ZoB
  refine ⟨by omega,by omega,by omega,by omega,XE (by rw [beq_eq_false_iff_ne];omega) (Za ⟨by omega,by omega,by omega,by omega,⟨by omega,by omega,by omega,by omega,?_⟩⟩)⟩
  simp only [Int.toNat_natCast,Int.toNat_zero,Nat.sub_zero,hp0]
  have hrest:∀ (R:List Value→Prop),R ((l.drop (i+1)).flatMap g)→rdS ⟨Zef s.ptr (i+1) s.cap n,s.len - (i+1),s.cap - (i+1)⟩ n h R:=fun R hR=>by
    by_cases h0:s.len - (i+1)=0
    ·refine .inl ⟨h0,?_⟩
     rw [List.drop_of_length_le (by omega)] at hR
     simpa using hR
    ·refine .inr ⟨b,(i+1)*n,_,?_,?_,?_,hR⟩
     ·show Zef s.ptr (i+1) s.cap n=_
      rw [hp]
      unfold Zef
      rw [if_neg (by omega)]
      simp [Addr.add]
      exact fun h=>h.symm
     ·rw [Z7 hg,List.length_drop,hl]
     ·rw [Zhs hg]
      have hhas:h.has b 0 (l.flatMap g):=by
        rcases ho.row.at_ with h1 | ⟨b',o',hp',hh⟩
        ·omega
        ·rw [hp] at hp'
         cases hp'
         exact hh
      have:=Zsi hhas ((i+1)*n) ((l.flatMap g).drop ((i+1)*n)).length
      rw [List.take_length,Nat.zero_add] at this
      exact this
  refine hrest _ ?_
  have hws:((l.drop (i+1)).flatMap g).length=(l.length - (i+1))*n:=by rw [Z7 hg,List.length_drop]
  have hle:i*n+((l.drop (i+1)).flatMap g).length≤(l.flatMap g).length:=by
    rw [hws,hflat,← Nat.add_mul]
    exact Nat.mul_le_mul_right _ (by omega)
  have hwa:((l.drop (i+1)).flatMap g).all Zv=true:=by
    rw [List.all_eq_true] at hga ⊢
    intro x hx
    rw [Zhs hg] at hx
    exact hga x (List.mem_of_mem_drop hx)
  refine ⟨fun _=> .inr ⟨b,0,hp,?_⟩,fun hgt=>by dsimp only at hgt;omega⟩
  rw [Nat.zero_add]
  refine ZiB (K:=fun h4=>slc s.ptr s.cap n ((i+(s.len - (i+1)):Nat):Int) (s.len:Int) (s.cap:Int) fun t5=>ZsF t5 zs h4 fun h6=>K ⟨s.ptr,i+(s.len - (i+1)),s.cap⟩ h6) ho hb (o:=i*n) hle hwa fun h4 ho4 hu4 hz4=>?_
  have e1:(l.flatMap g).take (i*n)++(l.drop (i+1)).flatMap g++(l.flatMap g).drop (i*n+((l.drop (i+1)).flatMap g).length)=(l.eraseIdx i++l.drop (l.length - 1)).flatMap g:=by
    rw [hws,← Nat.add_mul,show i+(l.length - (i+1))=l.length - 1 from by omega,← Zhr hg,← Zhs hg,Zn2,List.flatMap_append,List.flatMap_append]
  rw [e1] at ho4
  have hlen2:(l.eraseIdx i++l.drop (l.length - 1)).length=l.length:=by
    rw [List.length_append,List.length_eraseIdx_of_lt hi,List.length_drop]
    omega
  have hm:i+(s.len - (i+1))=l.length - 1:=by omega
  have:=ZrR hg ho4 hn (k:=l.length - 1) (by omega) (m:=((i+(s.len - (i+1)):Nat):Int)) (by rw [hm]) hz hone (K:=K) fun t h' ho' hb' hu' hz'=>hK t h' (by
    rw [List.take_left' (by rw [List.length_eraseIdx_of_lt hi])] at ho'
    exact ho') hb' (hu4.trans hu')
  obtain ⟨q1,q2,q3,q4,q5⟩:=this
  refine ⟨q1,q2,q3,q4,ZsE q5 fun h6 ⟨_,_,_,_,q⟩=>?_⟩
  simp only [Int.toNat_natCast,Int.toNat_zero,Nat.sub_zero,hp0] at q
  exact q
def ZwK (number:Int) (t:F4):Bool:=t.1 ==number
theorem ZnU {ab:Nat} {number:Int} {h:Zb} {T:TypeId} (hc:obj h ab=some (.cells [iv number].toArray T (0,0))) {s:Sl} {l:List F4} (hr:Row h s 4 (l.flatMap f4L)) {K:Int→Zb→Prop}
    (hk:∀ h',Ext h h'→K (ixV (ZwK number) l) h'):Zz s (some ⟨ab,0,none⟩,()) K h:=by
  unfold Zz ZU
  refine Zfc YU hr (by decide) (p:=ZwK number) (tst:=fun Q b o h3=>ldI h3 b o .i64 fun t4=>ldI h3 b (o+1) .i64 fun t5=>ldI h3 b (o+2) .i64 fun t6=>ldI h3 b (o+3) .i64 fun t7=>Y6 (t4,t5,t6,t7,()) (some ⟨ab,0,none⟩) Q h3) ?_ hk
  intro i a b o hh Q ha he hcell hQ
  have v0:=hcell 0 _ rfl
  have v1:=hcell 1 _ rfl
  have v2:=hcell 2 _ rfl
  have v3:=hcell 3 _ rfl
  simp only [Nat.add_zero] at v0
  have c1:=Yh hc he
  have l1:=ZS c1
  unfold Y6 ZaW
  simp (maxDischargeDepth:=60) only [Zs,Zr,evC,Nqa,Nqb,Nqc,Nqd,Nqe,reduceCtorEq,v0,v1,v2,v3,c1,YH l1]
  exact hQ _ (ZO he)
theorem ZjW {h:Zb} {base:Nat} {s:Sl} {l:List F4} (ho:Own h base s 4 (l.flatMap f4L)) {i:Nat} (hi:i<l.length) {m:Int} (hm:m=((i+1:Nat):Int)) {K:Sl→Zb→Prop}
    (hK:∀ t h',Own h' base t 4 ((l.eraseIdx i).flatMap f4L)→t.blk=s.blk→Upd (fun k=>s.blk=some k) h h'→K t h'):Z5 s (i:Int) m K h:=by
  subst hm
  unfold Z5 YJ
  exact ZpK YU ho (by decide) hi (zs:=[.int .i64 0,.int .i64 0,.int .i64 0,.int .i64 0]) rfl (by simp [YW]) (Zn1 _) hK
def ZgY (S:Srv) (at_:Int) (ns:ByteArray) (number:Int):Int × List F4 :=
  match (XT at_ S.out).findIdx? (ZwK number) with
  | none=>(4,S.out)
  | some i=>if (ZfI S.spaces ns ((XT at_ S.out)[i]?.getD zF).2.1).isSome then (8,(XT at_ S.out).eraseIdx i) else (4,S.out)
theorem ZpV {S:Srv} {at_ number:Int} {ns:ByteArray} (hf:(XT at_ S.out).findIdx? (ZwK number)=none):ZgY S at_ ns number=(4,S.out):=by unfold ZgY;rw [hf]
theorem ZpW {S:Srv} {at_ number:Int} {ns:ByteArray} {i:Nat} {a:F4} (hf:(XT at_ S.out).findIdx? (ZwK number)=some i) (ha:(XT at_ S.out)[i]?=some a) (hs:(ZfI S.spaces ns a.2.1).isSome=true):ZgY S at_ ns number=(8,(XT at_ S.out).eraseIdx i):=by
  unfold ZgY;rw [hf];dsimp only;rw [ha];exact if_pos hs
theorem Zsm {S:Srv} {at_ number:Int} {ns:ByteArray} {i:Nat} {a:F4} (hf:(XT at_ S.out).findIdx? (ZwK number)=some i) (ha:(XT at_ S.out)[i]?=some a) (hs:(ZfI S.spaces ns a.2.1).isSome=false):ZgY S at_ ns number=(4,S.out):=by
  unfold ZgY;rw [hf];dsimp only;rw [ha];exact if_neg (by rw [show (some a).getD zF=a from rfl,hs];decide)
theorem Zsk {h:Zb} {T:Nat→Option Nat} {sb cb nb:Nat} {sp so:Sl} {ls:List Sp3} {S:Srv} (hR:ZdE h T sb cb nb sp so ls S) (hl:S.out.length≤4096) {at_:Int} {ns:ByteArray} {number:Int} {K:Int→Zb→Prop}
    (hk:∀ h' T' so',ZdE h' T' sb cb nb sp so' ls { S with out:=(ZgY S at_ ns number).2 }→Stp T T' h h'→K (ZgY S at_ ns number).1 h'):Xn (some ⟨sb,0,none⟩) at_ ns number K h:=by
  unfold Xn Zbs
  have l0:=ZS hR.cells
  simp (maxDischargeDepth:=60) only [Zs,Zr,evC,Nqa,Nqb,Nqc,Nqd,Nqe,reduceCtorEq]
  have e1:=Ext.push h (.cells [iv number].toArray 3 (0,0))
  have hR1:=hR.ext e1
  refine Zh8 hR1.cells hR1.out hl fun t2 h2 ho2 e2=>?_
  have c2:obj h2 (sz h)=some (.cells [iv number].toArray 3 (0,0)):=Yh (by simp (maxDischargeDepth:=60) only [Zs,Zr,evC,Nqa,Nqb,Nqc,Nqd,Nqe,reduceCtorEq]) e2
  refine ZnU c2 ho2.row fun h5 e5=>?_
  have e15:=(e1.trans e2).trans e5
  have hR5:=hR.ext e15
  have ho5:=ho2.congr (h':=h5) fun b hb _ _=>e5.old b (ho2.lt hb).2
  have hlen:=Zas YU ho2.row (by decide)
  cases hf:(XT at_ S.out).findIdx? (ZwK number) with
  | none =>
    rw [ZpV hf] at hk
    rw [Zfw hf]
    exact ZF (hk h5 T so hR5 ⟨e15.upd _,fun _ h=> .inl h⟩)
  | some i =>
    rw [Zgu hf]
    obtain ⟨hil,_,_⟩:=List.findIdx?_eq_some_iff_getElem.1 hf
    obtain ⟨a,ha⟩:∃ a,(XT at_ S.out)[i]?=some a:=⟨_,List.getElem?_eq_getElem hil⟩
    have hbig:=ho2.big
    have hcap:=ho2.cap
    refine XE (by simp) ?_
    obtain ⟨b7,o,hb7,_,hidx,hcell⟩:=ZaI YU ho5.row ha (by decide)
    refine hidx rfl ?_
    have v1:=hcell 1 _ rfl
    simp (maxDischargeDepth:=60) only [Zs,Zr,evC,Nqa,Nqb,Nqc,Nqd,Nqe,reduceCtorEq,v1]
    refine ZmJ hR5.cells hR5.spaces hR5.names fun h11 e11=>?_
    have e12:Ext h11 (Zb.puts (h11.push (.cells [iv 0,iv 0,iv 0,iv 0].toArray 46 (0,0))) (sz h11) 0 (f4L ((ZfI S.spaces ns a.2.1).getD zF))):=Z3 (ZO (Ext.refl _)) (Nat.le_refl _)
    have ea:=e11.trans e12
    have hRa:=hR5.ext ea
    have hoa:=ho5.congr (fun b hb _ _=>ea.old b (ho5.lt hb).2)
    cases hs:(ZfI S.spaces ns a.2.1).isSome with
    | false =>
      rw [Zsm hf ha hs] at hk
      exact ZF (hk _ T so hRa ⟨(e15.trans ea).upd _,fun _ h=> .inl h⟩)
    | true =>
      rw [ZpW hf ha hs] at hk
      refine Zl ?_
      have hw:IntKind.wrap .i64 ((i:Int)+1)=((i+1:Nat):Int):=by rw [ZR (by omega) (by omega)];rfl
      have hzz:sz h≤h2.size:=(e1.trans e2).size
      refine ZjW hoa hil hw fun t16 h17 ho17 hb17 hu17=>?_
      have hn:∀ k,t16.blk=some k→T k=none:=fun k hk=>by
        rw [hb17] at hk
        have h9:=(ho2.lt hk).1
        cases hT:T k with
        | none=>rfl
        | some t =>
          have:=hR.lt k (by rw [hT];exact fun e=>by cases e)
          rw [ZE,XB] at h9
          omega
      have hu1:Ext h h17:=(e15.trans ea).then hu17 fun k hk=>by
        rw [← hb17] at hk
        rw [hb17] at hk
        have h9:=(ho2.lt hk).1
        rw [ZE,XB] at h9
        show sz h≤k
        omega
      have hR17:=hR.ext hu1
      have l17:=ZS hR17.cells
      simp (maxDischargeDepth:=60) only [Zs,Zr,evC,Nqa,Nqb,Nqc,Nqd,Nqe,reduceCtorEq,hR17.cells]
      have hsb:t16.blk≠some sb:=fun e=>by
        have:=hn sb e
        rw [hR.tsb] at this
        cases this
      have hub:Upd (· = sb) h17 (h17.put sb 5 (slV t16)):=Upd.put _ _ _ _
      refine hk _ _ t16 (hR17.setO (n:=S.next) (hub.mono fun k _ hk=> .inl hk) ?_ ((ho17.congr fun b hb _ _=>hub.old b (ho17.lt hb).2 fun e=>hsb (by rw [hb,e])).base (Nat.zero_le _)) fun k hk=> .inr (hn k hk)) ⟨(hu1.upd _).trans (hub.mono fun k _ hk=>by subst hk;rw [hR.tsb];exact fun e=>by cases e),fun k hk=>?_⟩
      ·simp (maxDischargeDepth:=60) only [Zs,Zr,evC,Nqa,Nqb,Nqc,Nqd,Nqe,reduceCtorEq,hR17.cells]
      ·split at hk
       ·rename_i hb
        right
        rw [hb17] at hb
        have h9:=(ho2.lt hb).1
        rw [ZE,XB] at h9
        rw [ZE]
        omega
       ·exact .inl hk
end Go.Proofs.YtbppjmcinoffnaaGreat.Tk
