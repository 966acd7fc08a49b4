/- Maps of numbers with whatever values: found, put, deleted, emptied, ranged over. Plain laws on memory. -/
import Derived.Test.YtbppjmcinoffnaaGreatPa10
set_option linter.unusedVariables false
set_option linter.unusedSimpArgs false
namespace Go.Proofs.YtbppjmcinoffnaaGreat.Tk
open Go Go.Fw
open Nat (reduceAdd reduceLT reduceLeDiff reduceEqDiff reduceMul)
def upd {α:Type} (f:Int→Option α) (k:Int) (v:Option α):Int→Option α:=fun j=>if j=k then v else f j
theorem ZiA {α:Type} (f:Int→Option α) (k:Int) (v:Option α):upd f k v k=v:=if_pos rfl
theorem Zif {α:Type} (f:Int→Option α) {k j:Int} (v:Option α) (h:j≠k):upd f k v j=f j:=if_neg h
structure ZlF (es:Array MapEntry) (f:Int→Option Value):Prop where
  to:∀ e,e∈es.toList→∃ k,e.key=iv k∧f k=some e.val
  of:∀ k v,f k=some v→∃ e,e∈es.toList∧e.key=iv k
def Zfe (h:Zb) (mb:Nat) (f:Int→Option Value) (n:Nat):Prop :=
  ∃ es c,h[mb]?=some (.map es c)∧MapKept.Stamped es c∧es.size=n∧ZlF es f
theorem Zkr {a b:Int} (h:iv a=iv b):a=b:=by injection h
theorem ZlF.key {es:Array MapEntry} {f:Int→Option Value} (he:ZlF es f):∀ x,x∈es.toList→MapKept.IsKey (.int .i64) x.key:=fun x hx=>by
  obtain ⟨k,hk,_⟩:=he.to x hx
  rw [hk]
  rfl
theorem ZlF.val {es:Array MapEntry} {f:Int→Option Value} (he:ZlF es f) {e:MapEntry} (hm:e∈es.toList) {k:Int} (hk:e.key=iv k):f k=some e.val:=by
  obtain ⟨j,hj,hv⟩:=he.to e hm
  rw [hk] at hj
  rw [Zkr hj]
  exact hv
theorem ZlF.find {es:Array MapEntry} {f:Int→Option Value} (he:ZlF es f) (k:Int) :
    (Instr.findNow (.int .i64) (iv k) es.toList 0=some none∧f k=none)∨∃ j e,Instr.findNow (.int .i64) (iv k) es.toList 0=some (some (j,e.val))∧es.toList[j]?=some e∧e.key=iv k∧f k=some e.val:=by
  rcases MapKept.findNow_spec (d:= .int .i64) (k:=iv k) rfl es.toList 0 he.key with ⟨h1,h2⟩ | ⟨j,e,h1,h2,h3⟩
  ·refine .inl ⟨h1,?_⟩
   cases hf:f k with
   | none=>rfl
   | some v =>
     obtain ⟨e,hm,hk⟩:=he.of k v hf
     exact absurd hk (h2 e hm)
  ·rw [Nat.zero_add] at h1
   exact .inr ⟨j,e,h1,h2,h3,he.val (List.mem_of_getElem? h2) h3⟩
theorem Zfe.congr {h h':Zb} {mb:Nat} {f:Int→Option Value} {n:Nat} (hm:Zfe h mb f n) (he:h'[mb]?=h[mb]?):Zfe h' mb f n:=by
  obtain ⟨es,c,hb,r⟩:=hm
  exact ⟨es,c,he.trans hb,r⟩
theorem Zfe.lt {h:Zb} {mb:Nat} {f:Int→Option Value} {n:Nat} (hm:Zfe h mb f n):mb<h.size:=by
  obtain ⟨es,c,hb,r⟩:=hm
  exact Xn hb
theorem Zfe.new {h:Zb} {K:Nat→Zb→Prop} (hk:∀ h1,Zfe h1 h.size (fun _=>none) 0→Ext h h1→h1.size=h.size+1→K h.size h1):Zdr h K :=
  hk _ ⟨#[],0,ZeT,MapKept.stamped_empty 0,rfl,⟨fun e he=>by simp at he,fun k v hv=>by cases hv⟩⟩ (Ext.push _ _) (by simp)
theorem Zfe.get {h:Zb} {mb:Nat} {f:Int→Option Value} {n:Nat} (hm:Zfe h mb f n) (k:Int) {K:Option Value→Prop} (hk:K (f k)):XS (.int .i64) h (some mb) (iv k) K:=by
  obtain ⟨es,c,hb,hs,hn,he⟩:=hm
  refine ⟨(fun e=>by cases e),fun b e=>?_⟩
  cases e
  rcases he.find k with ⟨h1,h2⟩ | ⟨j,e,h1,h2,h3,h4⟩
  ·exact ⟨es,c,none,hb,h1,by rw [h2] at hk;exact hk⟩
  ·exact ⟨es,c,_,hb,h1,by rw [h4] at hk;exact hk⟩
theorem Zfe.len {h:Zb} {mb:Nat} {f:Int→Option Value} {n:Nat} (hm:Zfe h mb f n) {K:Int→Prop} (hk:K (n:Int)):ZwC h (some mb) K:=by
  obtain ⟨es,c,hb,hs,hn,he⟩:=hm
  refine ⟨(fun e=>by cases e),fun b e=>?_⟩
  cases e
  exact ⟨es,c,hb,by rw [hn];exact hk⟩
theorem Ze0 {h:Zb} {b:Nat} {x:Obj}:Upd (· = b) h (h.setIfInBounds b x) :=
  ⟨by simp,fun k _ hk=>by rw [Array.getElem?_setIfInBounds_ne (fun e=>hk e.symm)]⟩
theorem ZgG {h:Zb} {b:Nat} {x:Obj} (hb:b<h.size):(h.setIfInBounds b x)[b]?=some x:=by simp [hb]
theorem ZlF.modify {es:Array MapEntry} {f:Int→Option Value} (he:ZlF es f) {c:Nat} (hs:MapKept.Stamped es c) {j:Nat} {e:MapEntry} {k:Int} (hj:es.toList[j]?=some e) (hk:e.key=iv k) (v:Value) :
    ZlF (es.modify j fun x=>{ x with key:=iv k,val:=v }) (upd f k (some v))∧MapKept.Stamped (es.modify j fun x=>{ x with key:=iv k,val:=v }) c:=by
  have hj':es[j]?=some e:=by simpa using hj
  have uniq:∀ i x,es.toList[i]?=some x→x.key=iv k→i=j:=by
    intro i x hi hx
    have hnd:=hs.2.2
    have h1:(es.toList.map (·.key))[i]?=some (iv k):=by rw [List.getElem?_map,hi];simp [hx]
    have h2:(es.toList.map (·.key))[j]?=some (iv k):=by rw [List.getElem?_map,hj];simp [hk]
    obtain ⟨hil,h1⟩:=List.getElem?_eq_some_iff.1 h1
    obtain ⟨hjl,h2⟩:=List.getElem?_eq_some_iff.1 h2
    exact (List.getElem_inj hnd).1 (h1.trans h2.symm)
  refine ⟨⟨fun x hx=>?_,fun i u hu=>?_⟩,?_⟩
  ·obtain ⟨i,hi⟩:=List.getElem?_of_mem hx
   rw [Array.getElem?_toList,Array.getElem?_modify] at hi
   by_cases hij:j=i
   ·subst hij
    rw [if_pos rfl,hj'] at hi
    simp only [Option.map_some,Option.some.injEq] at hi
    subst hi
    exact ⟨k,rfl,ZiA _ _ _⟩
   ·rw [if_neg hij] at hi
    have hi':es.toList[i]?=some x:=by simpa using hi
    obtain ⟨m,hm,hv⟩:=he.to x (List.mem_of_getElem? hi')
    refine ⟨m,hm,?_⟩
    rw [Zif]
    ·exact hv
    ·intro hmk
     subst hmk
     exact hij (uniq i x hi' hm).symm
  ·by_cases hik:i=k
   ·subst hik
    refine ⟨{ e with key:=iv i,val:=v },?_,rfl⟩
    refine List.mem_of_getElem? (i:=j) ?_
    rw [Array.getElem?_toList,Array.getElem?_modify,if_pos rfl,hj']
    rfl
   ·rw [Zif f _ hik] at hu
    obtain ⟨x,hx,hxk⟩:=he.of i u hu
    obtain ⟨m,hm⟩:=List.getElem?_of_mem hx
    refine ⟨x,List.mem_of_getElem? (i:=m) ?_,hxk⟩
    rw [Array.getElem?_toList,Array.getElem?_modify,if_neg]
    ·simpa using hm
    ·intro hjm
     subst hjm
     rw [hj] at hm
     cases hm
     exact hik (Zkr (hxk.symm.trans hk))
  ·refine MapKept.stamped_modify hs j _ (fun x _=>rfl) fun x _ hx=>?_
   rw [hj'] at hx
   cases hx
   exact hk.symm
theorem Zfe.put {h:Zb} {mb:Nat} {f:Int→Option Value} {n:Nat} (hm:Zfe h mb f n) (k:Int) (v:Value) {K:Zb→Prop}
    (hk:∀ h',Zfe h' mb (upd f k (some v)) (if (f k).isSome then n else n+1)→Upd (· = mb) h h'→h'.size=h.size→K h'):ZaJ (.int .i64) h (some mb) (iv k) v K:=by
  have hlt:=hm.lt
  obtain ⟨es,c,hb,hs,hn,he⟩:=hm
  rcases he.find k with ⟨h1,h2⟩ | ⟨j,e,h1,h2,h3,h4⟩
  ·refine ⟨mb,es,c,none,rfl,hb,he.key,h1,hk _ ⟨es.push { key:=iv k,val:=v,born:=c },c+1,ZgG hlt,MapKept.stamped_push hs fun x hx hxk=>?_,by simp [h2,hn],⟨fun x hx=>?_,fun i u hu=>?_⟩⟩ Ze0 (by simp)⟩
   ·have:=he.val hx hxk
    rw [h2] at this
    cases this
   ·simp only [Array.toList_push,List.mem_append,List.mem_singleton] at hx
    rcases hx with hx | rfl
    ·obtain ⟨m,hm,hv⟩:=he.to x hx
     refine ⟨m,hm,?_⟩
     rw [Zif]
     ·exact hv
     ·intro hmk
      subst hmk
      rw [h2] at hv
      cases hv
    ·exact ⟨k,rfl,ZiA _ _ _⟩
   ·simp only [Array.toList_push,List.mem_append,List.mem_singleton]
    by_cases hik:i=k
    ·subst hik
     exact ⟨_,.inr rfl,rfl⟩
    ·rw [Zif f _ hik] at hu
     obtain ⟨x,hx,hxk⟩:=he.of i u hu
     exact ⟨x,.inl hx,hxk⟩
  ·obtain ⟨g1,g2⟩:=he.modify hs h2 h3 v
   exact ⟨mb,es,c,_,rfl,hb,he.key,h1,hk _ ⟨_,c,ZgG hlt,g2,by simp [h4,hn],g1⟩ Ze0 (by simp)⟩
theorem ZlF.erase {es:Array MapEntry} {f:Int→Option Value} (he:ZlF es f) {c:Nat} (hs:MapKept.Stamped es c) {j:Nat} {e:MapEntry} {k:Int} (hj:es.toList[j]?=some e) (hk:e.key=iv k) :
    ZlF (es.eraseIdxIfInBounds j) (upd f k none)∧MapKept.Stamped (es.eraseIdxIfInBounds j) c∧(es.eraseIdxIfInBounds j).toList=es.toList.eraseIdx j∧(es.eraseIdxIfInBounds j).size=es.size - 1:=by
  obtain ⟨hjl,hje⟩:=List.getElem?_eq_some_iff.1 hj
  have hjs:j<es.size:=by simpa using hjl
  have hl:(es.eraseIdxIfInBounds j).toList=es.toList.eraseIdx j:=by
    unfold Array.eraseIdxIfInBounds
    rw [dif_pos hjs,Array.toList_eraseIdx]
  have hnd:=hs.2.2
  have mem:∀ x,x∈es.toList.eraseIdx j↔x∈es.toList∧x.key≠iv k:=fun x=>by
    constructor
    ·intro hx
     obtain ⟨i,hne,hi⟩:=List.mem_eraseIdx_iff_getElem?.1 hx
     refine ⟨List.mem_of_getElem? hi,fun hxk=>hne ?_⟩
     have h1:(es.toList.map (·.key))[i]?=some (iv k):=by rw [List.getElem?_map,hi];simp [hxk]
     have h2:(es.toList.map (·.key))[j]?=some (iv k):=by rw [List.getElem?_map,hj];simp [hk]
     obtain ⟨hil,h1⟩:=List.getElem?_eq_some_iff.1 h1
     obtain ⟨hjl,h2⟩:=List.getElem?_eq_some_iff.1 h2
     exact (List.getElem_inj hnd).1 (h1.trans h2.symm)
    ·rintro ⟨hx,hxk⟩
     obtain ⟨i,hi⟩:=List.getElem?_of_mem hx
     refine List.mem_eraseIdx_iff_getElem?.2 ⟨i,fun hij=>?_,hi⟩
     subst hij
     rw [hj] at hi
     cases hi
     exact hxk hk
  refine ⟨⟨fun x hx=>?_,fun i u hu=>?_⟩,MapKept.stamped_erase hs j,hl,?_⟩
  ·rw [hl] at hx
   obtain ⟨hx,hxk⟩:=(mem x).1 hx
   obtain ⟨m,hm,hv⟩:=he.to x hx
   refine ⟨m,hm,?_⟩
   rw [Zif]
   ·exact hv
   ·intro hmk
    subst hmk
    exact hxk hm
  ·by_cases hik:i=k
   ·subst hik
    rw [ZiA] at hu
    cases hu
   ·rw [Zif f _ hik] at hu
    obtain ⟨x,hx,hxk⟩:=he.of i u hu
    exact ⟨x,by rw [hl];exact (mem x).2 ⟨hx,fun h=>hik (Zkr (hxk.symm.trans h))⟩,hxk⟩
  ·unfold Array.eraseIdxIfInBounds
   rw [dif_pos hjs]
   simp
theorem Zfe.del {h:Zb} {mb:Nat} {f:Int→Option Value} {n:Nat} (hm:Zfe h mb f n) (k:Int) {K:Zb→Prop}
    (hk:∀ h',Zfe h' mb (upd f k none) (if (f k).isSome then n - 1 else n)→Upd (· = mb) h h'→h'.size=h.size→K h'):Zgg (.int .i64) h (some mb) (iv k) K:=by
  have hlt:=hm.lt
  obtain ⟨es,c,hb,hs,hn,he⟩:=hm
  refine ⟨(fun e=>by cases e),fun b e=>?_⟩
  cases e
  rcases he.find k with ⟨h1,h2⟩ | ⟨j,e,h1,h2,h3,h4⟩
  ·have hu:upd f k none=f:=by
     funext j
     unfold upd
     split
     ·rename_i hj;rw [hj,h2]
     ·rfl
   refine ⟨es,c,none,hb,h1,hk _ ⟨es,c,ZgG hlt,hs,by simp [h2,hn],by rw [hu];exact he⟩ Ze0 (by simp)⟩
  ·obtain ⟨g1,g2,g3,g4⟩:=he.erase hs h2 h3
   exact ⟨es,c,_,hb,h1,hk _ ⟨_,c,ZgG hlt,g2,by simp [h4,g4,hn],g1⟩ Ze0 (by simp)⟩
theorem Zfe.clear {h:Zb} {mb:Nat} {f:Int→Option Value} {n:Nat} (hm:Zfe h mb f n) {K:Zb→Prop}
    (hk:∀ h',Zfe h' mb (fun _=>none) 0→Upd (· = mb) h h'→h'.size=h.size→K h'):ZAb h (some mb) K:=by
  have hlt:=hm.lt
  obtain ⟨es,c,hb,hs,hn,he⟩:=hm
  refine ⟨(fun e=>by cases e),fun b e=>?_⟩
  cases e
  exact ⟨es,c,hb,hk _ ⟨#[],c,ZgG hlt,MapKept.stamped_empty c,rfl,⟨fun e he=>by simp at he,fun k v hv=>by cases hv⟩⟩ Ze0 (by simp)⟩
def Zer (h:Zb) (mb it:Nat) (f:Int→Option Value) (n:Nat) (rem:Int→Prop) (L:Nat):Prop :=
  ∃ (es:Array MapEntry) (c since:Nat) (seen:Array Nat) (c0:Nat),h[mb]?=some (.map es c)∧MapKept.Stamped es c∧es.size=n∧ZlF es f∧h[it]?=some (.mapIter (some mb) since seen c0)∧(∀ x,x∈es.toList→x.born<since)∧(since≤c0∧since≤c) ∧
    (leftOf es seen).size=L∧∀ k,rem k↔∃ e,e∈(leftOf es seen).toList∧e.key=iv k
def ZdT (h:Zb) (mb it:Nat) (f:Int→Option Value) (n:Nat) (rem:Int→Prop) (L:Nat) (k:Int):Prop :=
  ∃ (es:Array MapEntry) (c since:Nat) (seen:Array Nat) (e:MapEntry),h[mb]?=some (.map es c)∧MapKept.Stamped es c∧es.size=n∧ZlF es f∧h[it]?=some (.mapIter (some mb) since (seen.push e.born) c)∧(∀ x,x∈es.toList→x.born<since)∧since≤c ∧
    e∈es.toList∧e.key=iv k∧(leftOf es (seen.push e.born)).size=L∧∀ j,rem j↔∃ e',e'∈(leftOf es (seen.push e.born)).toList∧e'.key=iv j
theorem Zal (es:Array MapEntry) (seen:Array Nat):(leftOf es seen).toList=es.toList.filter fun e=> !seen.contains e.born:=by
  unfold leftOf;rw [Array.toList_filter]
theorem ZnG (es:Array MapEntry) (seen:Array Nat):(leftOf es seen).size=(es.toList.filter fun e=> !seen.contains e.born).length:=by
  rw [← Zal,Array.length_toList]
theorem Zmt {es:Array MapEntry} {seen:Array Nat} {b:Nat} {e:MapEntry}:e∈(leftOf es (seen.push b)).toList↔e∈(leftOf es seen).toList∧e.born≠b:=by
  rw [Zal,Zal,List.mem_filter,List.mem_filter,contains_push]
  cases seen.contains e.born<;>simp
theorem Zer.lt {h:Zb} {mb it:Nat} {f:Int→Option Value} {n:Nat} {rem:Int→Prop} {L:Nat} (hr:Zer h mb it f n rem L):mb<h.size∧it<h.size∧mb≠it:=by
  obtain ⟨es,c,since,seen,c0,hb,_,_,_,hi,_⟩:=hr
  refine ⟨Xn hb,Xn hi,fun e=>?_⟩
  subst e
  rw [hb] at hi
  cases hi
theorem Zer.map {h:Zb} {mb it:Nat} {f:Int→Option Value} {n:Nat} {rem:Int→Prop} {L:Nat} (hr:Zer h mb it f n rem L):Zfe h mb f n:=by
  obtain ⟨es,c,since,seen,c0,hb,hs,hn,he,_⟩:=hr
  exact ⟨es,c,hb,hs,hn,he⟩
theorem Zer.congr {h h':Zb} {mb it:Nat} {f:Int→Option Value} {n:Nat} {rem:Int→Prop} {L:Nat} (hr:Zer h mb it f n rem L) (h1:h'[mb]?=h[mb]?) (h2:h'[it]?=h[it]?):Zer h' mb it f n rem L:=by
  obtain ⟨es,c,since,seen,c0,hb,hs,hn,he,hi,r⟩:=hr
  exact ⟨es,c,since,seen,c0,h1.trans hb,hs,hn,he,h2.trans hi,r⟩
theorem ZdT.congr {h h':Zb} {mb it:Nat} {f:Int→Option Value} {n:Nat} {rem:Int→Prop} {L:Nat} {k:Int} (hr:ZdT h mb it f n rem L k) (h1:h'[mb]?=h[mb]?) (h2:h'[it]?=h[it]?):ZdT h' mb it f n rem L k:=by
  obtain ⟨es,c,since,seen,e,hb,hs,hn,he,hi,r⟩:=hr
  exact ⟨es,c,since,seen,e,h1.trans hb,hs,hn,he,h2.trans hi,r⟩
theorem Zfe.range {h:Zb} {mb:Nat} {f:Int→Option Value} {n:Nat} (hm:Zfe h mb f n) {K:Nat→Zb→Prop} (hk:∀ h1,Zer h1 mb h.size f n (fun k=>(f k).isSome=true) n→Ext h h1→h1.size=h.size+1→K h.size h1):rgM h (some mb) K:=by
  have hlt:=hm.lt
  obtain ⟨es,c,hb,hs,hn,he⟩:=hm
  have hl:(leftOf es #[]).toList=es.toList:=by
    rw [Zal]
    exact List.filter_eq_self.2 fun a _=>by simp
  refine ⟨(fun e=>by cases e),fun b e=>?_⟩
  cases e
  refine ⟨es,c,hb,hk _ ⟨es,c,c,#[],c,(ZfB hlt).trans hb,hs,hn,he,ZeT,hs.1,⟨Nat.le_refl _,Nat.le_refl _⟩,?_,fun k=>?_⟩ (Ext.push _ _) (by simp)⟩
  ·rw [← Array.length_toList,hl,Array.length_toList,hn]
  ·rw [hl]
   constructor
   ·intro hk
    obtain ⟨v,hv⟩:=Option.isSome_iff_exists.1 hk
    exact he.of k v hv
   ·rintro ⟨e,hm,hek⟩
    rw [he.val hm hek]
    rfl
theorem Zer.next {h:Zb} {mb it:Nat} {f:Int→Option Value} {n:Nat} {rem:Int→Prop} {L:Nat} (hr:Zer h mb it f n rem L) {T:Value→Value→Zb→Prop} {F:Prop}
    (hF:(∀ k,¬ rem k)→F) (hT:∀ k v h' L',rem k→f k=some v→ZdT h' mb it f n (fun j=>rem j∧j≠k) L' k→L'<L→Upd (· = it) h h'→h'.size=h.size→T (iv k) v h'):ZtP h it T F:=by
  obtain ⟨hl1,hl2,hne⟩:=hr.lt
  obtain ⟨es,c,since,seen,c0,hb,hs,hn,he,hi,hold,hsc,hL,hrem⟩:=hr
  refine .inr ⟨mb,since,seen,c0,es,c,hi,hb,hold,hsc.1,fun h0=>hF fun k hk=>?_,fun e hm=>?_⟩
  ·obtain ⟨e,hm,_⟩:=(hrem k).1 hk
   rw [Zal] at hm
   rw [ZnG] at h0
   rw [List.eq_nil_of_length_eq_zero h0] at hm
   cases hm
  ·obtain ⟨hme,hns⟩:=mem_left hm
   obtain ⟨k,hk,hv⟩:=he.to e hme
   rw [hk]
   refine hT k e.val _ (leftOf es (seen.push e.born)).size ((hrem k).2 ⟨e,hm,hk⟩) hv ⟨es,c,since,seen,e,?_,hs,hn,he,ZgG hl2,hold,hsc.2,hme,hk,rfl,fun j=>?_⟩ (by have:=left_shrinks es seen e hm;omega) Ze0 (by simp)
   ·rw [Array.getElem?_setIfInBounds_ne (Ne.symm hne)];exact hb
   ·constructor
    ·rintro ⟨hj,hjk⟩
     obtain ⟨e',hm',hk'⟩:=(hrem j).1 hj
     refine ⟨e',Zmt.2 ⟨hm',fun hb'=>hjk ?_⟩,hk'⟩
     have hnd:=hs.2.1
     obtain ⟨i,hi⟩:=List.getElem?_of_mem (mem_left hm').1
     obtain ⟨m,hm2⟩:=List.getElem?_of_mem hme
     have h1:(es.toList.map (·.born))[i]?=some e.born:=by rw [List.getElem?_map,hi];simp [hb']
     have h2:(es.toList.map (·.born))[m]?=some e.born:=by rw [List.getElem?_map,hm2];rfl
     obtain ⟨hil,h1⟩:=List.getElem?_eq_some_iff.1 h1
     obtain ⟨hjl,h2⟩:=List.getElem?_eq_some_iff.1 h2
     have:=(List.getElem_inj hnd).1 (h1.trans h2.symm)
     subst this
     rw [hi] at hm2
     cases hm2
     exact Zkr (hk'.symm.trans hk)
    ·rintro ⟨e',hm',hk'⟩
     obtain ⟨hm1,hb1⟩:=Zmt.1 hm'
     refine ⟨(hrem j).2 ⟨e',hm1,hk'⟩,fun hjk=>hb1 ?_⟩
     subst hjk
     have hnd:=hs.2.2
     obtain ⟨i,hi⟩:=List.getElem?_of_mem (mem_left hm1).1
     obtain ⟨m,hm2⟩:=List.getElem?_of_mem hme
     have h1:(es.toList.map (·.key))[i]?=some (iv j):=by rw [List.getElem?_map,hi];simp [hk']
     have h2:(es.toList.map (·.key))[m]?=some (iv j):=by rw [List.getElem?_map,hm2];simp [hk]
     obtain ⟨hil,h1⟩:=List.getElem?_eq_some_iff.1 h1
     obtain ⟨hjl,h2⟩:=List.getElem?_eq_some_iff.1 h2
     have:=(List.getElem_inj hnd).1 (h1.trans h2.symm)
     subst this
     rw [hi] at hm2
     cases hm2
     rfl
theorem ZdT.ent {h:Zb} {mb it:Nat} {f:Int→Option Value} {n:Nat} {rem:Int→Prop} {L:Nat} {k:Int} (hr:ZdT h mb it f n rem L k) {K:Value→Value→Prop} (hk:∀ v,f k=some v→K (iv k) v):Zz9 h it K:=by
  obtain ⟨es,c,since,seen,e,hb,hs,hn,he,hi,hold,hsc,hme,hek,hL,hrem⟩:=hr
  have:=hk e.val (he.val hme hek)
  rw [← hek] at this
  exact ⟨mb,since,seen,es,c,e,hi,hb,hme,hs.2.1,this⟩
theorem ZdT.go {h:Zb} {mb it:Nat} {f:Int→Option Value} {n:Nat} {rem:Int→Prop} {L:Nat} {k:Int} (hr:ZdT h mb it f n rem L k):Zer h mb it f n rem L:=by
  obtain ⟨es,c,since,seen,e,hb,hs,hn,he,hi,hold,hsc,hme,hek,hL,hrem⟩:=hr
  exact ⟨es,c,since,_,c,hb,hs,hn,he,hi,hold,⟨hsc,hsc⟩,hL,hrem⟩
theorem Zin {α:Type} (p:α→Bool):∀ (l:List α) (j:Nat) (x:α),l[j]?=some x→p x=false→(l.eraseIdx j).filter p=l.filter p
  | [],j,x,h,_=>by simp at h
  | y::l,0,x,h,hp=>by simp at h;subst h;simp [hp]
  | y::l,j+1,x,h,hp=>by
    have ih:=Zin p l j x (by simpa using h) hp
    simp only [List.eraseIdx_cons_succ,List.filter_cons,ih]
theorem ZdT.del {h:Zb} {mb it:Nat} {f:Int→Option Value} {n:Nat} {rem:Int→Prop} {L:Nat} {k:Int} (hr:ZdT h mb it f n rem L k) {K:Zb→Prop}
    (hk:∀ h' n',Zer h' mb it (upd f k none) n' rem L→Upd (· = mb) h h'→h'.size=h.size→K h'):Zgg (.int .i64) h (some mb) (iv k) K:=by
  obtain ⟨hl1,hl2,hne⟩:=hr.go.lt
  obtain ⟨es,c,since,seen,e,hb,hs,hn,he,hi,hold,hsc,hme,hek,hL,hrem⟩:=hr
  refine ⟨(fun e=>by cases e),fun b e=>?_⟩
  cases e
  rcases he.find k with ⟨h1,h2⟩ | ⟨j,e',h1,h2,h3,h4⟩
  ·rw [he.val hme hek] at h2;cases h2
  ·obtain ⟨g1,g2,g3,g4⟩:=he.erase hs h2 h3
   have hee:e'=e:=by
     have hnd:=hs.2.2
     obtain ⟨m,hm2⟩:=List.getElem?_of_mem hme
     have q1:(es.toList.map (·.key))[j]?=some (iv k):=by rw [List.getElem?_map,h2];simp [h3]
     have q2:(es.toList.map (·.key))[m]?=some (iv k):=by rw [List.getElem?_map,hm2];simp [hek]
     obtain ⟨hil,q1⟩:=List.getElem?_eq_some_iff.1 q1
     obtain ⟨hjl,q2⟩:=List.getElem?_eq_some_iff.1 q2
     have:=(List.getElem_inj hnd).1 (q1.trans q2.symm)
     subst this
     rw [h2] at hm2
     exact Option.some.inj hm2
   subst hee
   have hleft:(leftOf (es.eraseIdxIfInBounds j) (seen.push e'.born)).toList=(leftOf es (seen.push e'.born)).toList:=by
     rw [Zal,Zal,g3]
     exact Zin _ _ _ _ h2 (by rw [contains_push,beq_self_eq_true,Bool.or_true];rfl)
   exact ⟨es,c,_,hb,h1,hk _ _ ⟨_,c,since,_,c,ZgG hl1,g2,rfl,g1,by rw [Array.getElem?_setIfInBounds_ne hne];exact hi,fun x hx=>hold x ((by rw [g3] at hx;exact List.mem_of_mem_eraseIdx hx)),⟨hsc,hsc⟩,
     by rw [← Array.length_toList,hleft,Array.length_toList,hL],fun q=>by rw [hleft];exact hrem q⟩ Ze0 (by simp)⟩
theorem ZdT.put {h:Zb} {mb it:Nat} {f:Int→Option Value} {n:Nat} {rem:Int→Prop} {L:Nat} {k:Int} (hr:ZdT h mb it f n rem L k) (v:Value) {K:Zb→Prop}
    (hk:∀ h',Zer h' mb it (upd f k (some v)) n rem L→Upd (· = mb) h h'→h'.size=h.size→K h'):ZaJ (.int .i64) h (some mb) (iv k) v K:=by
  obtain ⟨hl1,hl2,hne⟩:=hr.go.lt
  obtain ⟨es,c,since,seen,e,hb,hs,hn,he,hi,hold,hsc,hme,hek,hL,hrem⟩:=hr
  rcases he.find k with ⟨h1,h2⟩ | ⟨j,e',h1,h2,h3,h4⟩
  ·rw [he.val hme hek] at h2;cases h2
  ·obtain ⟨g1,g2⟩:=he.modify hs h2 h3 v
   have hj':es[j]?=some e':=by simpa using h2
   have hl:(es.modify j fun x=>{ x with key:=iv k,val:=v }).toList=es.toList.set j { e' with key:=iv k,val:=v }:=by
     apply List.ext_getElem?
     intro i
     rw [Array.getElem?_toList,Array.getElem?_modify,List.getElem?_set]
     have hjl:j<es.toList.length:=(List.getElem?_eq_some_iff.1 h2).1
     by_cases hij:j=i
     ·subst hij
      rw [if_pos rfl,if_pos rfl,if_pos hjl,hj']
      rfl
     ·rw [if_neg hij,if_neg hij,Array.getElem?_toList]
   have hee:e'.born=e.born:=by
     have hnd:=hs.2.2
     obtain ⟨m,hm2⟩:=List.getElem?_of_mem hme
     have q1:(es.toList.map (·.key))[j]?=some (iv k):=by rw [List.getElem?_map,h2];simp [h3]
     have q2:(es.toList.map (·.key))[m]?=some (iv k):=by rw [List.getElem?_map,hm2];simp [hek]
     obtain ⟨hil,q1⟩:=List.getElem?_eq_some_iff.1 q1
     obtain ⟨hjl,q2⟩:=List.getElem?_eq_some_iff.1 q2
     have:=(List.getElem_inj hnd).1 (q1.trans q2.symm)
     subst this
     rw [h2] at hm2
     rw [Option.some.inj hm2]
   have hfs:∀ (l:List MapEntry) (j:Nat) (x y:MapEntry),l[j]?=some x→(!(seen.push e.born).contains x.born)=false→(!(seen.push e.born).contains y.born)=false →
       (l.set j y).filter (fun z=> !(seen.push e.born).contains z.born)=l.filter (fun z=> !(seen.push e.born).contains z.born):=by
     intro l
     induction l with
     | nil=>intro j x y h;simp at h
     | cons z l ih =>
       intro j x y h hx hy
       cases j with
       | zero=>simp at h;subst h;simp only [List.set_cons_zero,List.filter_cons,hx,hy];simp
       | succ j=>simp only [List.set_cons_succ,List.filter_cons,ih j x y (by simpa using h) hx hy]
   have hcon:(!(seen.push e.born).contains e'.born)=false:=by rw [hee,contains_push,beq_self_eq_true,Bool.or_true];rfl
   have hleft:(leftOf (es.modify j fun x=>{ x with key:=iv k,val:=v }) (seen.push e.born)).toList=(leftOf es (seen.push e.born)).toList:=by
     rw [Zal,Zal,hl]
     exact hfs _ _ _ _ h2 hcon hcon
   refine ⟨mb,es,c,_,rfl,hb,he.key,h1,hk _ ⟨_,c,since,_,c,ZgG hl1,g2,by simp [hn],g1,by rw [Array.getElem?_setIfInBounds_ne hne];exact hi,fun x hx=>?_,⟨hsc,hsc⟩,
     by rw [← Array.length_toList,hleft,Array.length_toList,hL],fun q=>by rw [hleft];exact hrem q⟩ Ze0 (by simp)⟩
   rw [hl] at hx
   rcases List.mem_or_eq_of_mem_set hx with hx | hx
   ·exact hold x hx
   ·subst hx
    exact hold e' (List.mem_of_getElem? h2)
end Go.Proofs.YtbppjmcinoffnaaGreat.Tk
namespace Go.Fw
open Go
def obj (h:Zb) (b:Nat):Option Obj:=h[b]?
def sz (h:Zb):Nat:=h.size
theorem ZJ {h:Zb}:Array.size h=sz h:=rfl
theorem XA {h:Zb} {x:Obj}:sz (h.push x)=sz h+1:=by unfold sz;simp
theorem Zj9 {h:Zb} {b o:Nat} {v:Value}:sz (h.put b o v)=sz h:=by unfold sz;exact ZeS
theorem ZtN {h:Zb} {x:Obj} {b:Nat}:obj (h.push x) b=if b=sz h then some x else obj h b:=by
  unfold obj sz;rw [Array.getElem?_push]
def Zkk (o:Nat) (v:Value):Option Obj→Option Obj
  | some (.cells c e f)=>some (.cells (c.setIfInBounds o v) e f)
  | x=>x
theorem Zik {o:Nat} {v:Value} {l:List Value} {e:TypeId} {f:Nat × Nat}:Zkk o v (some (.cells l.toArray e f))=some (.cells (l.set o v).toArray e f):=by
  simp [Zkk]
theorem ZrO {h:Zb} {b o k:Nat} {v:Value}:obj (h.put b o v) k=if k=b then Zkk o v (obj h k) else obj h k:=by
  unfold obj Zb.put
  rw [Array.getElem?_modify]
  by_cases hk:b=k
  ·subst hk
   rw [if_pos rfl,if_pos rfl]
   cases h[b]? with
   | none=>rfl
   | some x=>cases x<;>rfl
  ·rw [if_neg hk,if_neg (Ne.symm hk)]
def ZO (o:Nat):Option Obj→Option Value
  | some (.cells c _ _)=>c[o]?
  | _=>none
def ZfC (o:Nat):Option Obj→Bool
  | some (.cells c _ f)=>decide (o<c.size)&&(f.1 ==0&&f.2 ==0)
  | _=>false
theorem Zhl {o:Nat} {l:List Value} {e:TypeId} {f:Nat × Nat}:ZO o (some (.cells l.toArray e f))=l[o]?:=by simp [ZO]
theorem Zle {o:Nat} {l:List Value} {e:TypeId}:ZfC o (some (.cells l.toArray e (0,0)))=decide (o<l.length):=by simp [ZfC]
theorem YB {h:Zb} {b o:Nat}:h.cell b o=ZO o (obj h b):=by unfold Zb.cell obj ZO;rfl
theorem Zjq {h:Zb} {b o:Nat} (hf:ZfC o (obj h b)=true):(∃ u,h.cell b o=some u)∧h.froz b o=false:=by
  unfold ZfC at hf
  split at hf
  ·rename_i c e f hb
   simp only [Bool.and_eq_true,decide_eq_true_eq,beq_iff_eq] at hf
   obtain ⟨h1,h2,h3⟩:=hf
   have hb':h[b]?=some (.cells c e f):=hb
   refine ⟨⟨c[o],by unfold Zb.cell;rw [hb'];simp [h1]⟩,?_⟩
   unfold Zb.froz
   rw [hb']
   obtain ⟨lo,hi⟩:=f
   simp only at h2 h3
   subst h2 h3
   simp
  ·cases hf
theorem Xa {n:Int} {K:Int→Prop}:Zc n K=K n:=propext ⟨fun h=>h,fun h=>h⟩
theorem YH {n:Bool} {K:Bool→Prop}:ZL n K=K n:=propext ⟨fun h=>h,fun h=>h⟩
theorem ZdZ {h:Zb} {cells:List Value} {t:TypeId} {K:Nat→Zb→Prop}:newC h cells t K=K (sz h) (h.push (.cells cells.toArray t (0,0))):=propext ⟨fun h=>h,fun h=>h⟩
theorem Zmg {h:Zb} {K:Nat→Zb→Prop}:Zdr h K=K (sz h) (h.push (.map #[] 0)):=propext ⟨fun h=>h,fun h=>h⟩
theorem Zh1 {p K:Prop}:ZK p K=(p∧K):=propext ⟨fun h=>h,fun h=>h⟩
theorem Zlu {p K:Prop}:Zfd p K=(p∧K):=propext ⟨fun h=>h,fun h=>h⟩
theorem Zt8 {b o:Nat} {K:Nat→Nat→Prop}:Zd (some ⟨b,o,none⟩) K=K b o:=propext ⟨fun ⟨b',o',e,h⟩=>(by cases e;exact h),fun h=>⟨b,o,rfl,h⟩⟩
theorem ZnJ {A B:Prop}:Zw true A B=A:=propext ⟨fun h=>h.1 rfl,fun h=>Zs h⟩
theorem ZnK {A B:Prop}:Zw false A B=B:=propext ⟨fun h=>h.2 rfl,fun h=>Zm h⟩
theorem Zzj {h:Zb} {b o:Nat} {k:IntKind} {n:Int} {K:Int→Prop} (hc:ZO o (obj h b)=some (.int k n)):ldI h b o k K=K n :=
  propext ⟨fun ⟨m,e,hk⟩=>(by rw [YB,hc] at e;cases e;exact hk),fun hk=>⟨n,by rw [YB,hc],hk⟩⟩
theorem Zzl {h:Zb} {b o:Nat} {n:Bool} {K:Bool→Prop} (hc:ZO o (obj h b)=some (.bool n)):ldB h b o K=K n :=
  propext ⟨fun ⟨m,e,hk⟩=>(by rw [YB,hc] at e;cases e;exact hk),fun hk=>⟨n,by rw [YB,hc],hk⟩⟩
theorem Zu7 {h:Zb} {b o:Nat} {n:ByteArray} {K:ByteArray→Prop} (hc:ZO o (obj h b)=some (.string n)):ldS h b o K=K n :=
  propext ⟨fun ⟨m,e,hk⟩=>(by rw [YB,hc] at e;cases e;exact hk),fun hk=>⟨n,by rw [YB,hc],hk⟩⟩
theorem Zzg {h:Zb} {b o:Nat} {n:Option Addr} {K:Option Addr→Prop} (hc:ZO o (obj h b)=some (.pointer n)):ldP h b o K=K n :=
  propext ⟨fun ⟨m,e,hk⟩=>(by rw [YB,hc] at e;cases e;exact hk),fun hk=>⟨n,by rw [YB,hc],hk⟩⟩
theorem Zr4 {h:Zb} {b o:Nat} {n:Option Nat} {K:Option Nat→Prop} (hc:ZO o (obj h b)=some (.map n)):ldM h b o K=K n :=
  propext ⟨fun ⟨m,e,hk⟩=>(by rw [YB,hc] at e;cases e;exact hk),fun hk=>⟨n,by rw [YB,hc],hk⟩⟩
theorem Zzd {h:Zb} {b o:Nat} {n:Value} {K:Value→Prop} (hc:ZO o (obj h b)=some n):ldV h b o K=K n :=
  propext ⟨fun ⟨m,e,hk⟩=>(by rw [YB,hc] at e;cases e;exact hk),fun hk=>⟨n,by rw [YB,hc],hk⟩⟩
theorem Zu8 {h:Zb} {b o:Nat} {p:Option Addr} {l c:Nat} {K:Sl→Prop} (hc:ZO o (obj h b)=some (.slice p l c)):ldL h b o K=K ⟨p,l,c⟩ :=
  propext ⟨fun ⟨m,e,hk⟩=>(by rw [YB,hc] at e;cases e;exact hk),fun hk=>⟨⟨p,l,c⟩,by rw [YB,hc],hk⟩⟩
theorem ZED {h:Zb} {b o:Nat} {v:Value} {K:Zb→Prop} (hf:ZfC o (obj h b)=true) (hv:Zx v=true):st h b o v K=K (h.put b o v) :=
  propext ⟨fun hk=>hk.2.2.2,fun hk=>⟨(Zjq hf).1,(Zjq hf).2,hv,hk⟩⟩
theorem ZoE {h:Zb} {b:Nat}:∀ (n o:Nat),(∀ i,i<n→ZfC (o+i) (obj h b)=true)→h.free b o n
  | 0,_,_=>trivial
  | n+1,o,hf=>⟨Zjq (by have:=hf 0 (by omega);simpa using this),ZoE n (o+1) fun i hi=>by have:=hf (i+1) (by omega);rw [show o+1+i=o+(i+1) from by omega];exact this⟩
def ZnS (o n:Nat):Option Obj→Bool
  | some (.cells c _ f)=>decide (o+n≤c.size)&&(f.1 ==0&&f.2 ==0)
  | _=>false
theorem Zg2 {o n:Nat} {l:List Value} {e:TypeId}:ZnS o n (some (.cells l.toArray e (0,0)))=decide (o+n≤l.length):=by simp [ZnS]
theorem Zt3 {h:Zb} {b o n:Nat} (hf:ZnS o n (obj h b)=true):h.free b o n:=by
  refine ZoE n o fun i hi=>?_
  unfold ZnS at hf
  split at hf
  ·rename_i c e f hb
   rw [hb]
   simp only [Bool.and_eq_true,decide_eq_true_eq] at hf
   simp only [ZfC,Bool.and_eq_true,decide_eq_true_eq]
   exact ⟨by omega,hf.2⟩
  ·cases hf
theorem ZiX {h:Zb} {b o:Nat} {vs:List Value} {K:Zb→Prop} (hf:ZnS o vs.length (obj h b)=true) (hv:vs.all Zx=true):sts h b o vs K=K (h.puts b o vs) :=
  propext ⟨fun hk=>hk.2.2,fun hk=>⟨Zt3 hf,hv,hk⟩⟩
theorem Zdt {h:Zb} {b o:Nat} {vs:List Value}:sz (h.puts b o vs)=sz h:=Zfi
def ZgR:Nat→List Value→Option Obj→Option Obj
  | _,[],x=>x
  | o,v::vs,x=>ZgR (o+1) vs (Zkk o v x)
def ZeW:Nat→List Value→List Value→List Value
  | _,[],l=>l
  | o,v::vs,l=>ZeW (o+1) vs (l.set o v)
theorem Zev {e:TypeId} {f:Nat × Nat}:∀ {vs:List Value} {o:Nat} {l:List Value},ZgR o vs (some (.cells l.toArray e f))=some (.cells (ZeW o vs l).toArray e f)
  | [],_,_=>rfl
  | v::vs,o,l=>by unfold ZgR ZeW;rw [Zik,Zev]
theorem ZiG {b:Nat}:∀ {vs:List Value} {h:Zb} {o k:Nat},obj (h.puts b o vs) k=if k=b then ZgR o vs (obj h k) else obj h k
  | [],h,o,k=>by
    unfold Zb.puts ZgR
    split<;>rfl
  | v::vs,h,o,k=>by
    unfold Zb.puts
    rw [ZiG,ZrO]
    by_cases hk:k=b
    ·rw [if_pos hk,if_pos hk,if_pos hk];rfl
    ·rw [if_neg hk,if_neg hk,if_neg hk]
theorem ZdF {h:Zb}:Zj h []=True:=rfl
theorem ZbI {h:Zb} {b o:Nat} {v:Value} {r:List (Nat × Nat × Value)}:Zj h ((b,o,v)::r)=(ZO o (obj h b)=some v∧Zj h r):=by
  rw [← YB];rfl
theorem Zu9 {h:Zb} {b o:Nat} {k:IntKind} {K:Int→Prop}:ldI h b o k K=∃ n,ZO o (obj h b)=some (.int k n)∧K n:=by
  unfold ldI;exact propext ⟨fun ⟨n,e,hk⟩=>⟨n,YB▸e,hk⟩,fun ⟨n,e,hk⟩=>⟨n,YB.trans e,hk⟩⟩
theorem Zzk {h:Zb} {b o:Nat} {K:Bool→Prop}:ldB h b o K=∃ n,ZO o (obj h b)=some (.bool n)∧K n:=by
  unfold ldB;exact propext ⟨fun ⟨n,e,hk⟩=>⟨n,YB▸e,hk⟩,fun ⟨n,e,hk⟩=>⟨n,YB.trans e,hk⟩⟩
theorem Zze {h:Zb} {b o:Nat} {K:ByteArray→Prop}:ldS h b o K=∃ n,ZO o (obj h b)=some (.string n)∧K n:=by
  unfold ldS;exact propext ⟨fun ⟨n,e,hk⟩=>⟨n,YB▸e,hk⟩,fun ⟨n,e,hk⟩=>⟨n,YB.trans e,hk⟩⟩
theorem Zzf {h:Zb} {b o:Nat} {K:Option Addr→Prop}:ldP h b o K=∃ n,ZO o (obj h b)=some (.pointer n)∧K n:=by
  unfold ldP;exact propext ⟨fun ⟨n,e,hk⟩=>⟨n,YB▸e,hk⟩,fun ⟨n,e,hk⟩=>⟨n,YB.trans e,hk⟩⟩
theorem Zzh {h:Zb} {b o:Nat} {K:Option Nat→Prop}:ldM h b o K=∃ n,ZO o (obj h b)=some (.map n)∧K n:=by
  unfold ldM;exact propext ⟨fun ⟨n,e,hk⟩=>⟨n,YB▸e,hk⟩,fun ⟨n,e,hk⟩=>⟨n,YB.trans e,hk⟩⟩
theorem Zzc {h:Zb} {b o:Nat} {K:Value→Prop}:ldV h b o K=∃ n,ZO o (obj h b)=some n∧K n:=by
  unfold ldV;exact propext ⟨fun ⟨n,e,hk⟩=>⟨n,YB▸e,hk⟩,fun ⟨n,e,hk⟩=>⟨n,YB.trans e,hk⟩⟩
theorem Zzi {h:Zb} {b o:Nat} {K:Sl→Prop}:ldL h b o K=∃ s:Sl,ZO o (obj h b)=some (slV s)∧K s:=by
  unfold ldL;exact propext ⟨fun ⟨n,e,hk⟩=>⟨n,YB▸e,hk⟩,fun ⟨n,e,hk⟩=>⟨n,YB.trans e,hk⟩⟩
theorem ZyS {s t:Sl}:(slV s=slV t)=(s=t):=by
  refine propext ⟨fun h=>?_,fun h=>by rw [h]⟩
  cases s;cases t
  unfold slV at h
  injection h with h1 h2 h3
  subst h1 h2 h3
  rfl
theorem Zei {σ:Type} {body:(σ→Zb→Prop)→σ→Zb→Prop} {s:σ} {h:Zb} (I:σ→Zb→Prop) (μ:σ→Zb→Nat)
    (h0:I s h) (hr:∀ s h,I s h→∀ Q:σ→Zb→Prop,(∀ s' h',I s' h'→μ s' h'<μ s h→Q s' h')→body Q s h):YU body s h:=⟨I,μ,h0,fun s h hs=>hr s h hs _ fun _ _ a b=>⟨a,b⟩⟩
theorem ZpM {σ:Type} {rest:σ→Zb→Prop} {pre:(σ→Zb→Prop)→Prop} (J:σ→Zb→Prop)
    (h1:∀ s h,J s h→rest s h) (h2:∀ Q:σ→Zb→Prop,(∀ s h,J s h→Q s h)→pre Q):ZgF rest pre:=⟨J,h1,h2 _ fun _ _ h=>h⟩
theorem Zrt {s:Sl}:Value.slice s.ptr s.len s.cap=slV s:=rfl
theorem YP {k:IntKind} {n:Int}:Zx (.int k n)=true:=by simp [Zx]
theorem Zec {b:Bool}:Zx (.bool b)=true:=by simp [Zx]
theorem Zgd {b:ByteArray}:Zx (.string b)=true:=by simp [Zx]
theorem ZhZ {b:Option Addr}:Zx (.pointer b)=true:=by simp [Zx]
theorem ZyY {b:Option Addr} {l c:Nat}:Zx (.slice b l c)=true:=by simp [Zx]
theorem ZgP {s:Sl}:Zx (slV s)=true:=by simp [Zx,slV]
theorem Zny {b:Option Nat}:Zx (.map b)=true:=by simp [Zx]
theorem Zhk {t:TypeId} {v:Value}:Zx (.iface t v)=true:=by simp [Zx]
theorem ZtL:Zx .nilIface=true:=by simp [Zx]
theorem Zy0 {f:Fn} {a b:Array Value}:Zx (.func f a b)=true:=by simp [Zx]
theorem ZgS {h:Zb} {b:Nat} (hb:b<sz h) (k:Nat):(b=sz h+k)=False:=eq_false (by omega)
theorem YK {h:Zb} {b:Nat} (hb:b<sz h):(b=sz h)=False:=eq_false (by omega)
theorem Zpz {h:Zb} {b:Nat} (hb:b<sz h) (k:Nat):(sz h+k=b)=False:=eq_false (by omega)
theorem Zim {h:Zb} {b:Nat} (hb:b<sz h):(sz h=b)=False:=eq_false (by omega)
theorem Zdo {h h':Zb} (e:Ext h h') {b:Nat} (hb:b<sz h):obj h' b=obj h b:=e.old b hb
theorem Zfy {S:Nat→Prop} {h h':Zb} (e:Upd S h h') {b:Nat} (hb:b<sz h) (hs:¬ S b):obj h' b=obj h b:=e.old b hb hs
theorem X8 {h h':Zb} (e:Ext h h'):sz h≤sz h':=e.size
theorem ZP {h h1:Zb} {x:Obj} (he:Ext h h1):Ext h (h1.push x):=he.trans (Ext.push _ _)
theorem Zso {h h1:Zb} {b o:Nat} {v:Value} (he:Ext h h1) (hb:sz h≤b):Ext h (h1.put b o v) :=
  he.then (Upd.put _ _ _ _) fun k hk=>by subst hk;exact hb
theorem Z5 {h h1:Zb} {b o:Nat} {vs:List Value} (he:Ext h h1) (hb:sz h≤b):Ext h (h1.puts b o vs) :=
  he.then (Upd.puts _ _ _ _) fun k hk=>by subst hk;exact hb
theorem Zgq {S:Nat→Prop} {h h1:Zb} {x:Obj} (he:Upd S h h1):Upd S h (h1.push x):=⟨Nat.le_trans he.size (by simp),fun k hk hs=>(ZfB (Nat.lt_of_lt_of_le hk he.size)).trans (he.old k hk hs)⟩
theorem Zrd {S:Nat→Prop} {h h1:Zb} {b o:Nat} {v:Value} (he:Upd S h h1) (hb:sz h≤b∨S b):Upd S h (h1.put b o v) :=
  ⟨by rw [ZeS];exact he.size,fun k hk hs=>(Zdy fun e=>by subst e;exact hb.elim (fun h9=>by unfold sz at h9;omega) hs).trans (he.old k hk hs)⟩
theorem Zcl {S:Nat→Prop} {h h1:Zb} {b o:Nat} {vs:List Value} (he:Upd S h h1) (hb:sz h≤b∨S b):Upd S h (h1.puts b o vs) :=
  ⟨by rw [Zfi];exact he.size,fun k hk hs=>(Zcm fun e=>by subst e;exact hb.elim (fun h9=>by unfold sz at h9;omega) hs).trans (he.old k hk hs)⟩
theorem ZV {h:Zb} {b:Nat} {x:Obj} (hb:obj h b=some x):b<sz h:=by
  unfold obj at hb
  rcases Nat.lt_or_ge b h.size with hl | hl
  ·exact hl
  ·rw [Array.getElem?_eq_none hl] at hb;cases hb
theorem Yg {h h':Zb} {b:Nat} {x:Obj} (hb:obj h b=some x) (e:Ext h h'):obj h' b=some x:=(Zdo e (ZV hb)).trans hb
theorem XI {S:Nat→Prop} {h h':Zb} {b:Nat} {x:Obj} (hb:obj h b=some x) (e:Upd S h h') (hs:¬ S b):obj h' b=some x:=(Zfy e (ZV hb) hs).trans hb
theorem ZdX {h:Zb} {l:Nat} {o:Obj}:sz (setO h l o)=sz h:=by unfold sz setO;simp
theorem ZeU {h:Zb} {l k:Nat} {o:Obj} (hl:l<sz h):obj (setO h l o) k=if k=l then some o else obj h k:=by
  unfold obj setO
  by_cases hk:k=l
  ·subst hk
   rw [if_pos rfl,Array.getElem?_setIfInBounds_self_of_lt hl]
  ·rw [if_neg hk,Array.getElem?_setIfInBounds_ne (Ne.symm hk)]
theorem ZkR {S:Nat→Prop} {h h1:Zb} {l:Nat} {o:Obj} (he:Upd S h h1) (hb:sz h≤l∨S l):Upd S h (setO h1 l o) :=
  ⟨by unfold setO;simp;exact he.size,fun k hk hs=>by
    unfold setO
    rw [Array.getElem?_setIfInBounds_ne (fun e=>by subst e;exact hb.elim (fun h9=>by unfold sz at h9;omega) hs)]
    exact he.old k hk hs⟩
theorem ZiK {h h1:Zb} {l:Nat} {o:Obj} (he:Ext h h1) (hb:sz h≤l):Ext h (setO h1 l o) :=
  (ZkR (S:=fun _=>False) (he.upd _) (.inl hb)).ext fun _ _ h=>h
theorem Zuc {r:Loop} {l:Nat} {h:Zb} {K:Zb→Prop}:Zud r l h K=(obj h l=some (Ze1 r .ready none)∧K (setO h l (Ze1 r .busy none))):=propext ⟨fun h=>h,fun h=>h⟩
theorem Ztx {D:Nat} {h:Zb} {K:Zb→Prop}:Zpa D h K=(obj h D=some (.deferred (some []))∧K (setO h D (.deferred none))):=propext ⟨fun h=>h,fun h=>h⟩
theorem ZrC {n:Nat} {it:Yld→Nat→(Zb→Prop)→Zb→Prop} {body:Nat→Loop→List Value→Zb→(Option Code→Zb→Prop)→Prop} {h:Zb} {K:Option Code→Nat→Zb→Prop} :
    ZrD n it body h K=∀ r:Loop,it (Zok r (sz h+1) n (body (sz h+1) r)) (sz h+1)
     (fun h'=>∃ st p,st≠ .busy∧(obj h' (sz h+1)=some (Ze1 r st p)∧K p (sz h) (setO h' (sz h+1) (Ze1 r .exhausted p)))) ((h.push (.deferred (some []))).push (Ze1 r .ready none)):=propext ⟨fun h=>h,fun h=>h⟩
theorem Zq3 {r:Loop} {l n:Nat} {body:List Value→Zb→(Option Code→Zb→Prop)→Prop} {l':Nat} {vs:List Value} {k:Bool→Zb→Prop} {h:Zb} :
    Zok r l n body l' vs k h=(l'=l∧vs.length=n∧(obj h l=some (Ze1 r .ready none)∧body vs h fun p h'=>(obj h' l=some (Ze1 r .busy none)∧k p.isNone (setO h' l (Ze1 r (if p.isNone then .ready else .done) p))))):=propext ⟨fun h=>h,fun h=>h⟩
theorem Zr8 {N:Prop} {X:Nat→Prop} {R:Prop}:ZtY none N X R=N:=rfl
theorem Zu:(∀ {h:Zb} {cells:List Value} {t:TypeId} {K:Nat→Zb→Prop},newC h cells t K=K (sz h) (h.push (.cells cells.toArray t (0,0)))) ∧
  (∀ {h:Zb} {K:Nat→Zb→Prop},Zdr h K=K (sz h) (h.push (.map #[] 0))) ∧
  (∀ {n:Int} {K:Int→Prop},Zc n K=K n) ∧
  (∀ {n:Bool} {K:Bool→Prop},ZL n K=K n) ∧
  (∀ {p K:Prop},ZK p K=(p∧K)) ∧
  (∀ {p K:Prop},Zfd p K=(p∧K)) ∧
  (∀ {b o:Nat} {K:Nat→Nat→Prop},Zd (some ⟨b,o,none⟩) K=K b o) ∧
  (∀ {A B:Prop},Zw true A B=A) ∧
  (∀ {A B:Prop},Zw false A B=B) ∧
  (∀ {h:Zb} {b o:Nat} {k:IntKind} {K:Int→Prop},ldI h b o k K=∃ n,ZO o (obj h b)=some (.int k n)∧K n) ∧
  (∀ {h:Zb} {b o:Nat} {K:Bool→Prop},ldB h b o K=∃ n,ZO o (obj h b)=some (.bool n)∧K n) ∧
  (∀ {h:Zb} {b o:Nat} {K:ByteArray→Prop},ldS h b o K=∃ n,ZO o (obj h b)=some (.string n)∧K n) ∧
  (∀ {h:Zb} {b o:Nat} {K:Option Addr→Prop},ldP h b o K=∃ n,ZO o (obj h b)=some (.pointer n)∧K n) ∧
  (∀ {h:Zb} {b o:Nat} {K:Option Nat→Prop},ldM h b o K=∃ n,ZO o (obj h b)=some (.map n)∧K n) ∧
  (∀ {h:Zb} {b o:Nat} {K:Value→Prop},ldV h b o K=∃ n,ZO o (obj h b)=some n∧K n) ∧
  (∀ {h:Zb} {b o:Nat} {K:Sl→Prop},ldL h b o K=∃ s:Sl,ZO o (obj h b)=some (slV s)∧K s) ∧
  (∀ {h:Zb} {b o:Nat} {v:Value} {K:Zb→Prop} (hf:ZfC o (obj h b)=true) (hv:Zx v=true),st h b o v K=K (h.put b o v)) ∧
  (∀ {h:Zb} {b o:Nat} {vs:List Value} {K:Zb→Prop} (hf:ZnS o vs.length (obj h b)=true) (hv:vs.all Zx=true),sts h b o vs K=K (h.puts b o vs)) ∧
  (∀ {h:Zb} {x:Obj},sz (h.push x)=sz h+1) ∧
  (∀ {h:Zb} {b o:Nat} {v:Value},sz (h.put b o v)=sz h) ∧
  (∀ {h:Zb} {b o:Nat} {vs:List Value},sz (h.puts b o vs)=sz h) ∧
  (∀ {h:Zb} {x:Obj} {b:Nat},obj (h.push x) b=if b=sz h then some x else obj h b) ∧
  (∀ {h:Zb} {b o k:Nat} {v:Value},obj (h.put b o v) k=if k=b then Zkk o v (obj h k) else obj h k) ∧
  (∀ {b:Nat} {vs:List Value} {h:Zb} {o k:Nat},obj (h.puts b o vs) k=if k=b then ZgR o vs (obj h k) else obj h k) ∧
  (∀ {o:Nat} {v:Value} {l:List Value} {e:TypeId} {f:Nat × Nat},Zkk o v (some (.cells l.toArray e f))=some (.cells (l.set o v).toArray e f)) ∧
  (∀ {e:TypeId} {f:Nat × Nat},(∀ {vs:List Value} {o:Nat} {l:List Value},ZgR o vs (some (.cells l.toArray e f))=some (.cells (ZeW o vs l).toArray e f))) ∧
  (∀ {o:Nat} {l:List Value} {e:TypeId} {f:Nat × Nat},ZO o (some (.cells l.toArray e f))=l[o]?) ∧
  (∀ {o:Nat} {l:List Value} {e:TypeId},ZfC o (some (.cells l.toArray e (0,0)))=decide (o<l.length)) ∧
  (∀ {o n:Nat} {l:List Value} {e:TypeId},ZnS o n (some (.cells l.toArray e (0,0)))=decide (o+n≤l.length)) ∧
  (∀ {h:Zb},Zj h []=True) ∧
  (∀ {h:Zb} {b o:Nat} {v:Value} {r:List (Nat × Nat × Value)},Zj h ((b,o,v)::r)=(ZO o (obj h b)=some v∧Zj h r)) ∧
  (∀ {h:Zb},Array.size h=sz h) ∧
  (∀ {s t:Sl},(slV s=slV t)=(s=t)) ∧
  (∀ {s:Sl},Value.slice s.ptr s.len s.cap=slV s) ∧
  (∀ {k:IntKind} {n:Int},Zx (.int k n)=true) ∧
  (∀ {b:Bool},Zx (.bool b)=true) ∧
  (∀ {b:ByteArray},Zx (.string b)=true) ∧
  (∀ {b:Option Addr},Zx (.pointer b)=true) ∧
  (∀ {b:Option Addr} {l c:Nat},Zx (.slice b l c)=true) ∧
  (∀ {s:Sl},Zx (slV s)=true) ∧
  (∀ {b:Option Nat},Zx (.map b)=true) ∧
  (∀ {t:TypeId} {v:Value},Zx (.iface t v)=true) ∧
  (Zx .nilIface=true) ∧
  (∀ {f:Fn} {a b:Array Value},Zx (.func f a b)=true) ∧
  (∀ (h:Zb),Ext h h) ∧
  (∀ {h h1:Zb} {x:Obj} (he:Ext h h1),Ext h (h1.push x)) ∧
  (∀ {h h1:Zb} {b o:Nat} {v:Value} (he:Ext h h1) (hb:sz h≤b),Ext h (h1.put b o v)) ∧
  (∀ {h h1:Zb} {b o:Nat} {vs:List Value} (he:Ext h h1) (hb:sz h≤b),Ext h (h1.puts b o vs)) ∧
  (∀ (p:Prop),(p∧p)=p) ∧
  (∀ (p:Prop),(True∧p)=p) ∧
  (∀ (p:Prop),(p∧True)=p) ∧
  (∀ (b:Bool),(b&&b)=b) ∧
  (∀ (b:Bool),(true&&b)=b) ∧
  (∀ (b:Bool),(b&&true)=b) ∧
  ((!true)=false) ∧
  ((!false)=true) ∧
  (∀ {p:Prop} [Decidable p],(decide p=true)=p) ∧
  (∀ (n:Nat),0+n=n) ∧
  (∀ (n:Nat),n+0=n) ∧
  (∀ (n m k:Nat),n+m+k=n+(m+k)) ∧
  (∀ {m k n:Nat},n+m=n+k↔m=k) ∧
  (∀ {a b:Nat},a+b=a↔b=0) ∧
  (∀ {a b:Nat},a=a+b↔b=0) ∧
  (∀ {m k n:Nat},n+m≤n+k↔m≤k) ∧
  (∀ (n k:Nat),n≤n+k) ∧
  (∀ (n:Nat),n≤n) ∧
  ((1:Nat)≠0) ∧
  (∀ {k n m:Nat},k+n<k+m↔n<m) ∧
  (∀ {n k:Nat},n<n+k↔0<k) :=
  ⟨@ZdZ,@Zmg,@Xa,@YH,@Zh1,@Zlu,@Zt8,@ZnJ,@ZnK,@Zu9,@Zzk,@Zze,@Zzf,@Zzh,@Zzc,@Zzi,@ZED,@ZiX,@XA,@Zj9,@Zdt,@ZtN,@ZrO,@ZiG,@Zik,@Zev,@Zhl,@Zle,@Zg2,@ZdF,@ZbI,@ZJ,@ZyS,@Zrt,@YP,@Zec,@Zgd,@ZhZ,@ZyY,@ZgP,@Zny,@Zhk,@ZtL,@Zy0,@Ext.refl,@ZP,@Zso,@Z5,@and_self,@true_and,@and_true,@Bool.and_self,@Bool.true_and,@Bool.and_true,Bool.not_true,Bool.not_false,@decide_eq_true_eq,@Nat.zero_add,@Nat.add_zero,@Nat.add_assoc,@Nat.add_left_cancel_iff,@Nat.add_eq_left,@Nat.left_eq_add,@Nat.add_le_add_iff_left,@Nat.le_add_right,@Nat.le_refl,Nat.one_ne_zero,@Nat.add_lt_add_iff_left,@Nat.lt_add_right_iff_pos⟩
theorem Zt:(∀ (b o:Nat) (s:Option Nat) (b' o':Nat) (s':Option Nat),(Addr.mk b o s=Addr.mk b' o' s')=(b=b'∧o=o'∧s=s')) ∧
  (∀ (k:IntKind) (n:Int) (k':IntKind) (n':Int),(Value.int k n=Value.int k' n')=(k=k'∧n=n')) ∧
  (∀ (b b':Bool),(Value.bool b=Value.bool b')=(b=b')) ∧
  (∀ (s s':ByteArray),(Value.string s=Value.string s')=(s=s')) ∧
  (∀ (a a':Option Addr),(Value.pointer a=Value.pointer a')=(a=a')) ∧
  (∀ (r r':Option Nat),(Value.map r=Value.map r')=(r=r')) ∧
  (∀ {α β:Type} (a:α) (f:α→β),Option.map f (some a)=some (f a)) ∧
  (∀ {α:Type} {a b:α},Option.getD (some a) b=a) ∧
  (∀ {α:Type} {a:α},Option.getD none a=a) ∧
  (∀ {α:Type} {a:α},Option.isSome (some a)=true) ∧
  (∀ {α:Type},Option.isSome (none:Option α)=false) ∧
  (∀ {α:Type} {a:α},Option.isNone (some a)=false) ∧
  (∀ {α:Type},Option.isNone (none:Option α)=true) ∧
  (∀ {α:Type} (a a':α),(some a=some a')=(a=a')) ∧
  (∀ {α:Type} {a:α} {l:List α} {f:α→Bool},List.all (a::l) f=(f a&&List.all l f)) ∧
  (∀ {α:Type} {f:α→Bool},List.all [] f=true) ∧
  (∀ {α:Type} {a:α} {l:List α},List.length (a::l)=List.length l+1) ∧
  (∀ {α:Type},List.length ([]:List α)=0) ∧
  (∀ {α:Type} {x:α} {xs:List α} {a:α},List.set (x::xs) 0 a=a::xs) ∧
  (∀ {α:Type} {x:α} {xs:List α} {i:Nat} {a:α},List.set (x::xs) (i+1) a=x::List.set xs i a) ∧
  (∀ {α:Type} {a:α} {l:List α},(a::l)[0]?=some a) ∧
  (∀ {α:Type} {a:α} {i:Nat} {l:List α},(a::l)[i+1]?=l[i]?) ∧
  (∀ {α:Type} {i:Nat},([]:List α)[i]?=none) ∧
  (∀ {α β:Type} (a:α) (b:β) (a':α) (b':β),((a,b)=(a',b'))=(a=a'∧b=b')) ∧
  (∀ {α:Type} {p:α→Prop} {a':α},(∃ a,a=a'∧p a)↔p a') ∧
  (∀ {α:Type} {p:α→Prop} {a':α},(∃ a,a'=a∧p a)↔p a') ∧
  (∀ (h:Decidable True),@decide True h=true) ∧
  (∀ (h:Decidable False),@decide False h=false) :=
  ⟨@Addr.mk.injEq,@Value.int.injEq,@Value.bool.injEq,@Value.string.injEq,@Value.pointer.injEq,@Value.map.injEq,@Option.map_some,@Option.getD_some,@Option.getD_none,@Option.isSome_some,@Option.isSome_none,@Option.isNone_some,@Option.isNone_none,@Option.some.injEq,@List.all_cons,@List.all_nil,@List.length_cons,@List.length_nil,@List.set_cons_zero,@List.set_cons_succ,@List.getElem?_cons_zero,@List.getElem?_cons_succ,@List.getElem?_nil,@Prod.mk.injEq,@exists_eq_left,@exists_eq_left',@decide_true,@decide_false⟩
theorem evC:(∀ {α:Type} {i:Decidable True} (t e:α),@ite α True i t e=t)∧(∀ {α:Type} {i:Decidable False} (t e:α),@ite α False i t e=e) ∧
    (∀ (o:Nat) (l:List Value),ZeW o [] l=l)∧(∀ (o:Nat) (v:Value) (vs l:List Value),ZeW o (v::vs) l=ZeW (o+1) vs (l.set o v))∧(∀ a:Nat,(a ==a)=true) :=
  ⟨fun _ _=>if_pos trivial,fun _ _=>if_neg id,fun _ _=>rfl,fun _ _ _ _=>rfl,fun a=>beq_self_eq_true a⟩
end Go.Fw
namespace Go.Proofs.YtbppjmcinoffnaaGreat.Tk
open Go Go.Fw
open Nat (reduceAdd reduceLT reduceLeDiff reduceEqDiff reduceMul)
abbrev C6:=Int × Int × Int × Int × Int × Int × Unit
def Zcn (a b:Int):Int:=IntKind.wrap .i64 (Zjd a (IntKind.wrap .i64 (4611686018427387904 - b))+b)
theorem ZrH {a b:Int} {K:Int→Zb→Prop} {h:Zb}:Zew a b K h=K (Zcn a b) h:=propext ⟨fun h=>h,fun h=>h⟩
def ZyK (a b:C6):C6:=(Zcn a.1 b.1,Zcn a.2.1 b.2.1,Zcn a.2.2.1 b.2.2.1,Zcn a.2.2.2.1 b.2.2.2.1,Zcn a.2.2.2.2.1 b.2.2.2.2.1,
  (if a.2.2.1=0 then b.2.2.2.2.2.1 else if b.2.2.1=0 then a.2.2.2.2.2.1 else Zjd a.2.2.2.2.2.1 b.2.2.2.2.2.1),())
def c6L (c:C6):List Value:=[iv c.1,iv c.2.1,iv c.2.2.1,iv c.2.2.2.1,iv c.2.2.2.2.1,iv c.2.2.2.2.2.1]
theorem Zmx {a b:Int} {A B:Prop} (h1:a=b→A) (h2:a≠b→B):Zw (a ==b) A B:=⟨fun h=>h1 (by simpa using h),fun h=>h2 (by simpa using h)⟩
theorem Zon {a b:C6} {K:C6→Zb→Prop} {h:Zb} (hk:∀ h',Ext h h'→K (ZyK a b) h'):Zb0 a b K h:=by
  unfold Zb0 Zgh
  refine ZbJ (fun t h'=>∃ q,t=(some ⟨q,0,none⟩,())∧Ext h h'∧sz h+3≤q∧q<sz h'∧obj h' (sz h)=some (.cells (c6L a).toArray 305 (0,0))∧obj h' (sz h+1)=some (.cells (c6L b).toArray 305 (0,0))∧obj h' (sz h+2)=some (.cells [iv 0,iv 0,iv 0,iv 0,iv 0,iv 0].toArray 305 (0,0)) ∧
      obj h' q=some (.cells [iv (Zcn a.1 b.1),iv (Zcn a.2.1 b.2.1),iv (Zcn a.2.2.1 b.2.2.1),iv (Zcn a.2.2.2.1 b.2.2.2.1),iv (Zcn a.2.2.2.2.1 b.2.2.2.2.1),iv 0].toArray 305 (0,0))) ?_ ?_
  ·rintro _ h' ⟨q,rfl,he,hq,hq2,h0,h1,h2,h3⟩
   dsimp only
   have n0:(sz h=q)=False:=eq_false (by omega)
   have n1:(sz h+1=q)=False:=eq_false (by omega)
   have n2:(sz h+2=q)=False:=eq_false (by omega)
   have n3:(q=sz h+2)=False:=eq_false (by omega)
   have sh:sz h≤q:=by omega
   have fin:∀ (r:C6) (h9:Zb),r=ZyK a b→Ext h h9→K r h9:=fun r h9 e1 e2=>by subst e1;exact hk h9 e2
   simp (maxDischargeDepth:=60) only [Zu,Zt,evC,reduceAdd,reduceLT,reduceLeDiff,reduceEqDiff,reduceMul,reduceCtorEq,h0,h1,h2,h3,c6L,n0,n1,n2,n3,sh,he,if_false]
   refine Zmx (fun q1=>?_) fun q1=>Zmx (fun q2=>?_) fun q2=>?_
   all_goals
     refine fin _ _ ?_ ?_
     ·simp [ZyK,q1];try simp [q2]
     ·simp +arith (maxDischargeDepth:=60) only [Z5,Zso,he,sh]
  ·simp (maxDischargeDepth:=60) only [Zu,Zt,evC,reduceAdd,reduceLT,reduceLeDiff,reduceEqDiff,reduceMul,reduceCtorEq,ZrH,c6L]
theorem ZnB (a b:Int):Zjd a b=min a b:=by unfold Zjd;split<;>omega
theorem Zwx (a b:Int):ZpY a b=max a b:=by unfold ZpY;split<;>omega
theorem ZiD {a b:Int} (ha:0≤a∧a≤4611686018427387904) (hb:0≤b∧b≤4611686018427387904):Zcn a b=min a (4611686018427387904 - b)+b:=by
  unfold Zcn
  rw [ZU (n:=4611686018427387904 - b) (by omega) (by omega),ZnB,ZU (by omega) (by omega)]
theorem Zi7 {a b:Int} (ha:0≤a∧a≤4611686018427387904) (hb:0≤b∧b≤4611686018427387904):0≤Zcn a b∧Zcn a b≤4611686018427387904:=by
  rw [ZiD ha hb];omega
theorem Zpq {a:Int} (ha:0≤a∧a≤4611686018427387904):Zcn a 0=a:=by
  rw [ZiD ha (by omega)];omega
def c6 (x:Int):C6:=(x,0,0,0,0,0,())
def c6V (x:Int):Value:= .agg (c6L (c6 x)).toArray
theorem ZuV (a b:Int):ZyK (c6 a) (c6 b)=c6 (Zcn a b):=by
  have:Zcn 0 0=0:=by decide
  simp [ZyK,c6,this]
def bkt (t:Int):Int:=t / 100000
theorem Ztr {t:Int} (h0:0≤t) (h1:t≤1152921504606846976):IntKind.wrap .i64 (Int.tdiv t 100000)=bkt t:=by
  unfold bkt
  rw [Int.tdiv_eq_ediv_of_nonneg h0,ZU (by omega) (by omega)]
theorem Zn4 {t:Int} (h0:0≤t) (h1:t≤1152921504606846976):0≤bkt t∧bkt t≤11529215046069:=by unfold bkt;omega
theorem ZoP {s t:Int} (h:s≤t):bkt s≤bkt t:=by unfold bkt;omega
structure Win where
  last:Int
  p:Int→Int
structure Win.OK (w:Win):Prop where
  lo:0≤w.last
  hi:w.last≤1152921504606846976
  p:∀ i,0≤w.p i∧w.p i≤4611686018427387904
structure Zob (h:Zb) (wb mb:Nat) (w:Win):Prop where
  ok:w.OK
  cells:obj h wb=some (.cells [iv 1000000,iv 10,iv w.last,.map (some mb)].toArray 214 (0,0))
  map:∃ f n,Zfe h mb f n∧(∀ i v,f i=some v→∃ x,v=c6V x∧0≤x∧x≤4611686018427387904)∧∀ i,bkt w.last - 10<i→f i=some (c6V (w.p i))∨(f i=none∧w.p i=0)
theorem Zob.mlt {h:Zb} {wb mb:Nat} {w:Win} (hw:Zob h wb mb w):mb<sz h:=by
  obtain ⟨f,n,hm,_⟩:=hw.map
  exact hm.lt
theorem Zob.congr {h h':Zb} {wb mb:Nat} {w:Win} (hw:Zob h wb mb w) (h1:obj h' wb=obj h wb) (h2:obj h' mb=obj h mb):Zob h' wb mb w:=by
  obtain ⟨f,n,hm,r⟩:=hw.map
  exact ⟨hw.ok,h1.trans hw.cells,f,n,hm.congr h2,r⟩
def Zap (last at_:Int):Int:=if at_<0 then 2 else if at_>1152921504606846976 then 2 else if at_<last then 7 else 0
theorem Zff {last at_:Int} (h:Zap last at_=0):0≤at_∧at_≤1152921504606846976∧last≤at_:=by
  unfold Zap at h
  split at h
  ·cases h
  ·split at h
   ·cases h
   ·split at h
    ·cases h
    ·omega
theorem Zj7 {h:Zb} {wb mb:Nat} {w:Win} (hw:Zob h wb mb w) {at_:Int} {K:Int→Zb→Prop} (hk:K (Zap w.last at_) h):YQ (some ⟨wb,0,none⟩) at_ K h:=by
  unfold YQ Zb4
  unfold Zap at hk
  simp (maxDischargeDepth:=60) only [Zu,Zt,evC,reduceAdd,reduceLT,reduceLeDiff,reduceEqDiff,reduceMul,reduceCtorEq,hw.cells]
  refine Zl (fun q=>?_) fun q=>Zl (fun q2=>?_) fun q2=>Zl (fun q3=>?_) fun q3=>?_
  ·rw [if_pos q] at hk;exact hk
  ·rw [if_neg q,if_pos q2] at hk;exact hk
  ·rw [if_neg q,if_neg q2,if_pos q3] at hk;exact hk
  ·rw [if_neg q,if_neg q2,if_neg q3] at hk;exact hk
theorem ZmS {h:Zb} {wb:Nat} {r:List Value} (hc:obj h wb=some (.cells (iv 1000000::iv 10::r).toArray 214 (0,0))) {at_:Int} (h0:0≤at_) (h1:at_≤1152921504606846976) {K:Int→Zb→Prop} :
    Yv (some ⟨wb,0,none⟩) at_ K h=K (bkt at_) h:=by
  unfold Yv ZbL
  have e1:(IntKind.wrap .i64 (Int.tdiv 1000000 10))=100000:=by decide
  simp (maxDischargeDepth:=60) only [Zu,Zt,evC,reduceAdd,reduceLT,reduceLeDiff,reduceEqDiff,reduceMul,reduceCtorEq,hc,e1,Ztr h0 h1]
  simp
def loW (at_:Int):Int:=max 0 (bkt at_ - 9)
theorem ZdR {h:Zb} {w:Option Addr} {at_:Int} {K:(Option Addr × Option Addr × Unit)→Zb→Prop}:ZaQ w at_ K h=K (some ⟨sz h,0,none⟩,some ⟨sz h+1,0,none⟩,()) ((h.push (.cells [.pointer w].toArray 180 (0,0))).push (.cells [iv at_].toArray 3 (0,0))):=by
  unfold ZaQ ZdG
  simp (maxDischargeDepth:=60) only [Zu,Zt,evC,reduceAdd,reduceLT,reduceLeDiff,reduceEqDiff,reduceMul,reduceCtorEq]
theorem Zui {Y:Yld} {y:Nat} {b1 b2 wb mb:Nat} {w:Win} {at_:Int} {h0:Zb} {T1 T2:TypeId} (hw:Zob h0 wb mb w) (hb1:obj h0 b1=some (.cells [.pointer (some ⟨wb,0,none⟩)].toArray T1 (0,0)))
    (hb2:obj h0 b2=some (.cells [iv at_].toArray T2 (0,0))) (ha:Zap w.last at_=0) {S:Nat→Prop} (hS:∀ k,S k→k<sz h0) (s1:¬ S b1) (s2:¬ S b2) (s3:¬ S wb) (s4:¬ S mb)
    (J:Int→Zb→Prop) (hJe:∀ i h h',J i h→Ext h h'→J i h')
    (hN:∀ i h,J i h→w.p i=0→J (i+1) h)
    (hY:∀ i h (K:Bool→Zb→Prop),J i h→Upd S h0 h→(∀ h',J (i+1) h'→Upd S h h'→K true h')→Y y [.agg (iv (IntKind.wrap .i64 (i*100000))::c6L (c6 (w.p i))).toArray] K h)
    {K:Zb→Prop} (hJ:J (loW at_) h0) (hk:∀ h,J (bkt at_+1) h→Upd S h0 h→K h):X9 Y y (some ⟨b1,0,none⟩) (some ⟨b2,0,none⟩) K h0:=by
  obtain ⟨a0,a1,a2⟩:=Zff ha
  have hbk:=Zn4 a0 a1
  have hbm:=ZoP a2
  unfold X9 Zcv
  have e1:(IntKind.wrap .i64 (Int.tdiv 1000000 10))=100000:=by decide
  have e2:ZpY 0 (IntKind.wrap .i64 ((IntKind.wrap .i64 (bkt at_ - 10))+1))=loW at_:=by
    rw [ZU (n:=bkt at_ - 10) (by omega) (by omega),ZU (by omega) (by omega),Zwx]
    unfold loW
    congr 1
    omega
  simp (maxDischargeDepth:=60) only [Zu,Zt,evC,reduceAdd,reduceLT,reduceLeDiff,reduceEqDiff,reduceMul,reduceCtorEq,hb1,hb2,hw.cells,ZmS hw.cells a0 a1,e2]
  refine Yc (fun s h=>∃ i,s=(i,())∧loW at_≤i∧i≤bkt at_+1∧J i h∧Upd S h0 h) (fun s _=>(bkt at_+1 - s.1).toNat) ⟨_,rfl,Int.le_refl _,by unfold loW;omega,hJ,Upd.refl _ _⟩ ?_
  rintro _ h ⟨i,rfl,hi0,hi1,hJi,hu⟩
  dsimp only
  have hi2:bkt at_ - 9≤i∧0≤i:=by unfold loW at hi0;omega
  refine Zl (fun q=>?_) fun q=>hk h (by rw [show bkt at_+1=i from by omega];exact hJi) hu
  have l1:=ZV hb1
  have l3:=ZV hw.cells
  have c1:obj h b1=some (.cells [.pointer (some ⟨wb,0,none⟩)].toArray T1 (0,0)):=(Zfy hu l1 s1).trans hb1
  have c3:obj h wb=some (.cells [iv 1000000,iv 10,iv w.last,.map (some mb)].toArray 214 (0,0)):=(Zfy hu l3 s3).trans hw.cells
  have hsz:sz h0≤sz h:=hu.size
  have n1:b1<sz h:=by omega
  have n3:wb<sz h:=by omega
  have hwr:IntKind.wrap .i64 (i+1)=i+1:=ZU (by omega) (by omega)
  obtain ⟨f,n,hm,hfv,hfp⟩:=(hw.congr (h':=h) (Zfy hu l3 s3) (Zfy hu hw.mlt s4)).map
  simp (maxDischargeDepth:=60) only [Zu,Zt,evC,reduceAdd,reduceLT,reduceLeDiff,reduceEqDiff,reduceMul,reduceCtorEq,c1,c3]
  refine hm.get i ?_
  rcases hfp i (by omega) with hf | ⟨hf,hp⟩
  ·rw [hf]
   refine ⟨c6 (w.p i),rfl,?_⟩
   simp (maxDischargeDepth:=60) only [Zu,Zt,evC,reduceAdd,reduceLT,reduceLeDiff,reduceEqDiff,reduceMul,reduceCtorEq,c6,c1,c3,ZgS n1,YK n1,ZgS n3,YK n3,Zpz n1,Zim n1,Zpz n3,Zim n3,e1]
   refine ⟨by decide,hY i _ _ (hJe _ _ _ hJi ?_) ?_ fun h' hJ' hu'=>?_⟩
   ·simp (maxDischargeDepth:=60) only [Zu,Zt,evC,reduceAdd,reduceLT,reduceLeDiff,reduceEqDiff,reduceMul,reduceCtorEq]
   ·exact Zcl (Zgq hu) (.inl (by omega))
   ·have hsz':sz h+1≤sz h':=by have:=hu'.size;simp only [ZJ,XA,Zdt] at this;exact this
    have ns:∀ k,sz h0≤k→¬ S k:=fun k hk hs=>by have:=hS k hs;omega
    have g0:=Zfy hu' (b:=sz h) (by simp only [XA,Zdt];omega) (ns _ hsz)
    have g1:=Zfy hu' (b:=b1) (by simp only [XA,Zdt];omega) s1
    have g3:=Zfy hu' (b:=wb) (by simp only [XA,Zdt];omega) s3
    simp (maxDischargeDepth:=60) only [Zu,Zt,evC,reduceAdd,reduceLT,reduceLeDiff,reduceEqDiff,reduceMul,reduceCtorEq,g0,g1,g3,c1,c3,ZgS n1,YK n1,ZgS n3,YK n3,c6,hwr]
    refine ⟨⟨by omega,by omega,hJ',?_⟩,by omega⟩
    ·refine (Upd.then (T:=S) (Zcl (Zgq hu) (.inl hsz)) hu' fun k hk hs=>hs)
  ·rw [hf]
   refine ⟨c6 0,rfl,?_⟩
   simp (maxDischargeDepth:=60) only [Zu,Zt,evC,reduceAdd,reduceLT,reduceLeDiff,reduceEqDiff,reduceMul,reduceCtorEq,c6,hwr]
   refine ⟨⟨by omega,by omega,hN i _ (hJe _ _ _ hJi ?_) hp,?_⟩,by omega⟩
   ·simp (maxDischargeDepth:=60) only [Zu,Zt,evC,reduceAdd,reduceLT,reduceLeDiff,reduceEqDiff,reduceMul,reduceCtorEq]
   ·exact Zcl (Zgq hu) (.inl (by omega))
def ZuZ (p:Int→Int):Nat→Int→Int→Int
  | 0,_,acc=>acc
  | n+1,i,acc=>ZuZ p n (i+1) (Zcn acc (p i))
def Zis (p:Int→Int) (lo i:Int):Int:=ZuZ p (i - lo).toNat lo 0
theorem Zl7 (p:Int→Int):∀ (n:Nat) (i acc:Int),ZuZ p (n+1) i acc=Zcn (ZuZ p n i acc) (p (i+n))
  | 0,i,acc=>by simp [ZuZ]
  | n+1,i,acc=>by
    have:=Zl7 p n (i+1) (Zcn acc (p i))
    show ZuZ p (n+1) (i+1) (Zcn acc (p i))=_
    rw [this]
    show Zcn _ _=Zcn (ZuZ p n (i+1) (Zcn acc (p i))) _
    congr 2
    omega
theorem ZhN (p:Int→Int) {lo i:Int} (h:lo≤i):Zis p lo (i+1)=Zcn (Zis p lo i) (p i):=by
  unfold Zis
  rw [show (i+1 - lo).toNat=(i - lo).toNat+1 from by omega,Zl7]
  congr 2
  omega
theorem Zor (p:Int→Int) (lo:Int):Zis p lo lo=0:=by unfold Zis;simp [ZuZ]
theorem Zro {p:Int→Int} (hp:∀ i,0≤p i∧p i≤4611686018427387904) (lo:Int) (n:Nat):0≤Zis p lo (lo+n)∧Zis p lo (lo+n)≤4611686018427387904:=by
  induction n with
  | zero=>rw [show lo+((0:Nat):Int)=lo from by omega,Zor];omega
  | succ n ih =>
    rw [show lo+((n+1:Nat):Int)=lo+n+1 from by omega,ZhN p (by omega)]
    exact Zi7 ih (hp _)
def Win.sum (w:Win) (at_:Int):Int:=Zis w.p (loW at_) (bkt at_+1)
theorem Zo7 {p:Int→Int} (hp:∀ i,0≤p i∧p i≤4611686018427387904) {lo i:Int} (h:lo≤i):0≤Zis p lo i∧Zis p lo i≤4611686018427387904:=by
  have:=Zro hp lo (i - lo).toNat
  rwa [show lo+((i - lo).toNat:Int)=i from by omega] at this
theorem Zuq {h:Zb} {wb mb:Nat} {w:Win} (hw:Zob h wb mb w) {at_:Int} {K:C6→Int→Zb→Prop}
    (hk:∀ h',Ext h h'→K (c6 (if Zap w.last at_=0 then w.sum at_ else 0)) (Zap w.last at_) h'):Zas (some ⟨wb,0,none⟩) at_ K h:=by
  unfold Zas Zc6
  have l3:=ZV hw.cells
  have l4:=hw.mlt
  simp (maxDischargeDepth:=60) only [Zu,Zt,evC,reduceAdd,reduceLT,reduceLeDiff,reduceEqDiff,reduceMul,reduceCtorEq]
  refine Zj7 (hw.congr (by simp (maxDischargeDepth:=60) only [Zu,Zt,evC,reduceAdd,reduceLT,reduceLeDiff,reduceEqDiff,reduceMul,reduceCtorEq,YK l3]) (by simp (maxDischargeDepth:=60) only [Zu,Zt,evC,reduceAdd,reduceLT,reduceLeDiff,reduceEqDiff,reduceMul,reduceCtorEq,YK l4])) ?_
  rcases Decidable.em (Zap w.last at_=0) with he | he
  ·rw [if_pos he] at hk
   rw [he] at hk ⊢
   obtain ⟨a0,a1,a2⟩:=Zff he
   have hbk:=Zn4 a0 a1
   simp (maxDischargeDepth:=60) only [Zu,Zt,evC,reduceAdd,reduceLT,reduceLeDiff,reduceEqDiff,reduceMul,reduceCtorEq,bne_self_eq_false,ZdR,ZrC]
   intro r
   have hlo:loW at_≤bkt at_+1:=by unfold loW;omega
   have n3:=ZgS l3
   have n30:=YK l3
   have n4:=ZgS l4
   have n40:=YK l4
   refine Zui (w:=w) (at_:=at_) (wb:=wb) (mb:=mb) (hw.congr ?_ ?_) ?_ ?_ he (S:=fun k=>k=sz h+1∨k=sz h+5) ?_ ?_ ?_ ?_ ?_
     (fun i hh=>obj hh (sz h+5)=some (Ze1 r .ready none)∧obj hh (sz h+4)=some (.deferred (some []))∧obj hh (sz h+1)=some (.cells (c6L (c6 (Zis w.p (loW at_) i))).toArray 305 (0,0)) ∧
       obj hh (sz h)=some (.cells [iv 0,iv 0,iv 0,iv 0,iv 0,iv 0].toArray 305 (0,0))∧Ext h hh∧loW at_≤i) (T1:=180) (T2:=3) ?_ ?_ ?_ ?_ ?_
   ·simp (maxDischargeDepth:=60) only [Zu,Zt,evC,reduceAdd,reduceLT,reduceLeDiff,reduceEqDiff,reduceMul,reduceCtorEq,n3,n30]
   ·simp (maxDischargeDepth:=60) only [Zu,Zt,evC,reduceAdd,reduceLT,reduceLeDiff,reduceEqDiff,reduceMul,reduceCtorEq,n4,n40]
   ·simp (maxDischargeDepth:=60) only [Zu,Zt,evC,reduceAdd,reduceLT,reduceLeDiff,reduceEqDiff,reduceMul,reduceCtorEq]
   ·simp (maxDischargeDepth:=60) only [Zu,Zt,evC,reduceAdd,reduceLT,reduceLeDiff,reduceEqDiff,reduceMul,reduceCtorEq]
   ·intro k hk9
    simp (maxDischargeDepth:=60) only [Zu,Zt,evC,reduceAdd,reduceLT,reduceLeDiff,reduceEqDiff,reduceMul,reduceCtorEq]
    omega
   ·omega
   ·omega
   ·omega
   ·omega
   ·rintro i hh h' ⟨j1,j2,j3,j4,j5,j6⟩ e
    exact ⟨Yg j1 e,Yg j2 e,Yg j3 e,Yg j4 e,j5.trans e,j6⟩
   ·rintro i hh ⟨j1,j2,j3,j4,j5,j6⟩ hp
    rw [ZhN _ j6,hp,Zpq (Zo7 hw.ok.p j6)]
    exact ⟨j1,j2,j3,j4,j5,by omega⟩
   ·rintro i hh K9 ⟨j1,j2,j3,j4,j5,j6⟩ hu hK9
    rw [Zq3]
    refine ⟨rfl,rfl,j1,⟨((IntKind.wrap .i64 (i*100000),w.p i,0,0,0,0,0,()),()),rfl,?_⟩⟩
    have g1:=ZV j1
    have g2:=ZV j2
    have g3:=ZV j3
    have g4:=ZV j4
    have g5:sz h+5<sz hh+1:=by omega
    have nn:∀ k,k≤5→(sz h+k=sz hh)=False∧(sz hh=sz h+k)=False:=fun k hk=>⟨eq_false (by omega),eq_false (by omega)⟩
    have m1:=nn 1 (by omega)
    have m5:=nn 5 (by omega)
    simp (maxDischargeDepth:=60) only [Zu,Zt,evC,reduceAdd,reduceLT,reduceLeDiff,reduceEqDiff,reduceMul,reduceCtorEq,Zuc,ZeU,ZdX,j1,j3,m1.1,m1.2,m5.1,m5.2,c6L,c6,g5]
    refine Zon (a:=c6 (Zis w.p (loW at_) i)) (b:=c6 (w.p i)) fun h' e'=>?_
    have z':=X8 e'
    simp (maxDischargeDepth:=60) only [Zu,Zt,evC,reduceAdd,reduceLT,reduceLeDiff,reduceEqDiff,reduceMul,reduceCtorEq,ZdX] at z'
    have g6:sz h+5<sz h':=by omega
    have o1:=Zdo e' (b:=sz h+1) (by simp (maxDischargeDepth:=60) only [Zu,Zt,evC,reduceAdd,reduceLT,reduceLeDiff,reduceEqDiff,reduceMul,reduceCtorEq,ZdX];omega)
    have o5:=Zdo e' (b:=sz h+5) (by simp (maxDischargeDepth:=60) only [Zu,Zt,evC,reduceAdd,reduceLT,reduceLeDiff,reduceEqDiff,reduceMul,reduceCtorEq,ZdX];omega)
    have o4:=Zdo e' (b:=sz h+4) (by simp (maxDischargeDepth:=60) only [Zu,Zt,evC,reduceAdd,reduceLT,reduceLeDiff,reduceEqDiff,reduceMul,reduceCtorEq,ZdX];omega)
    have o0:=Zdo e' (b:=sz h) (by simp (maxDischargeDepth:=60) only [Zu,Zt,evC,reduceAdd,reduceLT,reduceLeDiff,reduceEqDiff,reduceMul,reduceCtorEq,ZdX];omega)
    have m4:=nn 4 (by omega)
    have m0:(sz h=sz hh)=False:=eq_false (by omega)
    simp (maxDischargeDepth:=60) only [Zu,Zt,evC,reduceAdd,reduceLT,reduceLeDiff,reduceEqDiff,reduceMul,reduceCtorEq,ZeU,ZdX,j1,j2,j3,j4,m0,m1.1,m4.1,m5.1,m1.2,m4.2,m5.2,g5] at o1 o5 o4 o0
    rw [ZuV,← ZhN _ j6]
    simp (maxDischargeDepth:=60) only [Zu,Zt,evC,reduceAdd,reduceLT,reduceLeDiff,reduceEqDiff,reduceMul,reduceCtorEq,ZeU,ZdX,o1,o5,g6,c6L,c6]
    refine hK9 _ ⟨?_,?_,?_,?_,?_,by omega⟩ ?_
    ·simp (maxDischargeDepth:=60) only [Zu,Zt,evC,reduceAdd,reduceLT,reduceLeDiff,reduceEqDiff,reduceMul,reduceCtorEq,ZeU,ZdX,g6]
    ·simp (maxDischargeDepth:=60) only [Zu,Zt,evC,reduceAdd,reduceLT,reduceLeDiff,reduceEqDiff,reduceMul,reduceCtorEq,ZeU,ZdX,g6,o4]
    ·simp (maxDischargeDepth:=60) only [Zu,Zt,evC,reduceAdd,reduceLT,reduceLeDiff,reduceEqDiff,reduceMul,reduceCtorEq,ZeU,ZdX,g6,o1,c6L,c6]
    ·simp (maxDischargeDepth:=60) only [Zu,Zt,evC,reduceAdd,reduceLT,reduceLeDiff,reduceEqDiff,reduceMul,reduceCtorEq,ZeU,ZdX,g6,o0]
    ·exact ZiK (Z5 ((ZiK (Z5 (ZP j5) (by omega)) (by omega)).trans e') (by omega)) (by omega)
    ·exact ZkR (Zcl ((ZkR (Zcl (Zgq (Upd.refl _ _)) (.inl (by omega))) (.inr (.inr rfl))).trans (e'.upd _)) (.inr (.inl rfl))) (.inr (.inr rfl))
   ·simp (maxDischargeDepth:=60) only [Zu,Zt,evC,reduceAdd,reduceLT,reduceLeDiff,reduceEqDiff,reduceMul,reduceCtorEq,Zor,c6L,c6,Int.le_refl]
   ·rintro hh ⟨j1,j2,j3,j4,j5,j6⟩ hu
    refine ⟨.ready,none,by decide,j1,?_⟩
    have g1:=ZV j1
    have g2:=ZV j2
    rw [Zr8]
    simp (maxDischargeDepth:=60) only [Zu,Zt,evC,reduceAdd,reduceLT,reduceLeDiff,reduceEqDiff,reduceMul,reduceCtorEq,ZeU,ZdX,Ztx,j1,j2,j3,j4,g1,g2,c6L,c6]
    exact hk _ (ZiK (Z5 (ZiK j5 (by omega)) (by omega)) (by omega))
  ·have:(Zap w.last at_ !=0)=true:=by simpa using he
   rw [this]
   rw [if_neg he] at hk
   simp (maxDischargeDepth:=60) only [Zu,Zt,evC,reduceAdd,reduceLT,reduceLeDiff,reduceEqDiff,reduceMul,reduceCtorEq]
   exact hk _ (by simp (maxDischargeDepth:=60) only [Zu,Zt,evC,reduceAdd,reduceLT,reduceLeDiff,reduceEqDiff,reduceMul,reduceCtorEq])
theorem Zow {h:Zb} {s:Sl} {size:Nat} {vs:List Value} (hr:Row h s size vs) {i:Nat} (hi:i<s.len):∃ b o,(∀ {K:Nat→Nat→Prop} {n:Int},n=(i:Int)→K b o→ZaZ s.ptr s.len n size K)∧∀ j v,j<size→vs[i*size+j]?=some v→ZO (o+j) (obj h b)=some v:=by
  rcases hr.at_ with h0 | ⟨b,o,hp,hh⟩
  ·omega
  ·refine ⟨b,o+i*size,fun {K n} hn hk=>?_,fun j v hj hv=>?_⟩
   ·subst hn
    exact ⟨b,o,hp,by omega,by omega,by simpa using hk⟩
   ·have:=Zh7 hh hv
    rw [YB,← Nat.add_assoc] at this
    exact this
theorem Zkg {x:Int} (hx:0≤x∧x≤4611686018427387904) {K:Bool→Zb→Prop} {h:Zb} (hk:∀ h',Ext h h'→K true h'):Za2 (c6 x) K h:=by
  unfold Za2 Ze3
  simp (maxDischargeDepth:=60) only [Zu,Zt,evC,reduceAdd,reduceLT,reduceLeDiff,reduceEqDiff,reduceMul,reduceCtorEq,c6]
  refine Yc (fun s hh=>∃ i:Int,s=(i,())∧0≤i∧i≤6∧hh=((h.push (.cells [iv x,iv 0,iv 0,iv 0,iv 0,iv 0].toArray 305 (0,0))).push (.cells [iv x,iv 0,iv 0,iv 0,iv 0,iv 0].toArray 3 (0,0)))) (fun s _=>(6 - s.1).toNat) ⟨0,rfl,by omega,by omega,rfl⟩ ?_
  rintro _ _ ⟨i,rfl,hi0,hi,rfl⟩
  dsimp only
  refine Zl (fun q=>?_) fun q=>?_
  ·refine ⟨_,_,rfl,by omega,by omega,?_⟩
   have hwr:IntKind.wrap .i64 (i+1)=i+1:=ZU (by omega) (by omega)
   have h6:i=0∨i=1∨i=2∨i=3∨i=4∨i=5:=by omega
   have d1:decide (x<0)=false:=by simp;omega
   have d2:decide (x>4611686018427387904)=false:=by simp;omega
   have d3:decide ((0:Int)<0)=false:=by decide
   have d4:decide ((0:Int)>4611686018427387904)=false:=by decide
   rcases h6 with rfl | rfl | rfl | rfl | rfl | rfl<;>simp (maxDischargeDepth:=60) only [Zu,Zt,evC,reduceAdd,reduceLT,reduceLeDiff,reduceEqDiff,reduceMul,reduceCtorEq,Nat.mul_one,d1,d2,d3,d4,hwr,Int.toNat_zero,Int.reduceToNat]<;>exact ⟨⟨by omega,by omega⟩,by omega⟩
  ·simp (maxDischargeDepth:=60) only [Zu,Zt,evC,reduceAdd,reduceLT,reduceLeDiff,reduceEqDiff,reduceMul,reduceCtorEq]
   simp [ZnJ,ZnK]
   exact hk _ (ZP (ZP (Ext.refl _)))
theorem ZtG {a:Int} (ha:0≤a∧a≤4611686018427387904):Zcn 0 a=a:=by
  rw [ZiD (by omega) ha];omega
theorem ZsU {h:Zb} {s:Sl} {a b:Int} (hr:Row h s 6 (c6L (c6 a)++c6L (c6 b))) (ha:0≤a∧a≤4611686018427387904) (hb:0≤b∧b≤4611686018427387904) {K:C6→Zb→Prop} (hk:∀ h',Ext h h'→K (c6 (Zcn a b)) h'):ZdA s K h:=by
  have hl:s.len=2:=by have:=hr.len;simp [c6L] at this;omega
  unfold ZdA ZfG
  simp (maxDischargeDepth:=60) only [Zu,Zt,evC,reduceAdd,reduceLT,reduceLeDiff,reduceEqDiff,reduceMul,reduceCtorEq]
  refine Yc (fun st hh=>∃ i:Nat,st=((i:Int),())∧i≤2∧Ext h hh∧obj hh (sz h)=some (.cells [iv 0,iv 0,iv 0,iv 0,iv 0,iv 0].toArray 305 (0,0))∧obj hh (sz h+1)=some (.cells (c6L (c6 (if i=0 then 0 else if i=1 then a else Zcn a b))).toArray 305 (0,0)))
    (fun s _=>(2 - s.1).toNat) ⟨0,rfl,by omega,by simp (maxDischargeDepth:=60) only [Zu,Zt,evC,reduceAdd,reduceLT,reduceLeDiff,reduceEqDiff,reduceMul,reduceCtorEq],by simp (maxDischargeDepth:=60) only [Zu,Zt,evC,reduceAdd,reduceLT,reduceLeDiff,reduceEqDiff,reduceMul,reduceCtorEq],by simp (maxDischargeDepth:=60) only [Zu,Zt,evC,reduceAdd,reduceLT,reduceLeDiff,reduceEqDiff,reduceMul,reduceCtorEq,c6,c6L]⟩ ?_
  rintro _ hh ⟨i,rfl,hi,he,o0,o1⟩
  dsimp only
  have g1:=ZV o1
  have g0:=ZV o0
  refine Zl (fun q=>?_) fun q=>?_
  ·have hi2:i<s.len:=by omega
   obtain ⟨bb,o,hidx,hcell⟩:=Zow (hr.ext he) hi2
   refine hidx rfl ?_
   have hv:∀ j,j<6→ZO (o+j) (obj hh bb)=(c6L (c6 (if i=0 then a else b)))[j]?:=fun j hj=>by
     rcases (show i=0∨i=1 by omega) with rfl | rfl
     ·rw [if_pos rfl]
      obtain ⟨v,hv⟩:∃ v,(c6L (c6 a))[j]?=some v:=⟨_,List.getElem?_eq_getElem (by simpa [c6L] using hj)⟩
      rw [hv]
      exact hcell j v hj (by rw [Nat.zero_mul,Nat.zero_add,List.getElem?_append_left (by simpa [c6L] using hj)];exact hv)
     ·rw [if_neg (by omega)]
      obtain ⟨v,hv⟩:∃ v,(c6L (c6 b))[j]?=some v:=⟨_,List.getElem?_eq_getElem (by simpa [c6L] using hj)⟩
      rw [hv]
      exact hcell j v hj (by rw [Nat.one_mul,List.getElem?_append_right (by simp [c6L])];simpa [c6L] using hv)
   have v0:=hv 0 (by omega)
   have v1:=hv 1 (by omega)
   have v2:=hv 2 (by omega)
   have v3:=hv 3 (by omega)
   have v4:=hv 4 (by omega)
   have v5:=hv 5 (by omega)
   have hc:0≤(if i=0 then a else b)∧(if i=0 then a else b)≤4611686018427387904:=by split<;>assumption
   generalize hcc:(if i=0 then a else b)=cc at v0 v1 v2 v3 v4 v5 hc
   generalize hac:(if i=0 then (0:Int) else if i=1 then a else Zcn a b)=ac at o1
   simp only [c6L,c6,List.getElem?_cons_zero,List.getElem?_cons_succ,Nat.add_zero] at v0 v1 v2 v3 v4 v5
   have m1:(sz h+1=sz hh)=False:=eq_false (by omega)
   have m0:(sz h=sz hh)=False:=eq_false (by omega)
   simp (maxDischargeDepth:=60) only [Zu,Zt,evC,reduceAdd,reduceLT,reduceLeDiff,reduceEqDiff,reduceMul,reduceCtorEq,v0,v1,v2,v3,v4,v5]
   refine Zkg hc fun h1 e1=>?_
   have z1:=X8 e1
   simp (maxDischargeDepth:=60) only [Zu,Zt,evC,reduceAdd,reduceLT,reduceLeDiff,reduceEqDiff,reduceMul,reduceCtorEq] at z1
   have p0:=Zdo e1 (b:=sz hh) (by simp (maxDischargeDepth:=60) only [Zu,Zt,evC,reduceAdd,reduceLT,reduceLeDiff,reduceEqDiff,reduceMul,reduceCtorEq]<;>omega)
   have p1:=Zdo e1 (b:=sz h+1) (by simp (maxDischargeDepth:=60) only [Zu,Zt,evC,reduceAdd,reduceLT,reduceLeDiff,reduceEqDiff,reduceMul,reduceCtorEq]<;>omega)
   have p2:=Zdo e1 (b:=sz h) (by simp (maxDischargeDepth:=60) only [Zu,Zt,evC,reduceAdd,reduceLT,reduceLeDiff,reduceEqDiff,reduceMul,reduceCtorEq]<;>omega)
   simp (maxDischargeDepth:=60) only [Zu,Zt,evC,reduceAdd,reduceLT,reduceLeDiff,reduceEqDiff,reduceMul,reduceCtorEq,m1,m0,o1,o0] at p0 p1 p2
   simp (maxDischargeDepth:=60) only [Zu,Zt,evC,reduceAdd,reduceLT,reduceLeDiff,reduceEqDiff,reduceMul,reduceCtorEq,p0,p1,c6L,c6]
   refine Zon (a:=c6 ac) (b:=c6 cc) fun h2 e2=>?_
   have z2:=X8 e2
   have q1:=Yg p1 e2
   have q2:=Yg p2 e2
   rw [ZuV]
   have hwr:IntKind.wrap .i64 ((i:Int)+1)=((i+1:Nat):Int):=by rw [ZU (by omega) (by omega)];omega
   have n01:(sz h=sz h+1)=False:=eq_false (by omega)
   simp (maxDischargeDepth:=60) only [Zu,Zt,evC,reduceAdd,reduceLT,reduceLeDiff,reduceEqDiff,reduceMul,reduceCtorEq,q1,c6L,c6,hwr]
   refine ⟨⟨i+1,rfl,by omega,Z5 (((Z5 (ZP he) (by omega)).trans e1).trans e2) (by omega),?_,?_⟩,by omega⟩
   ·simp (maxDischargeDepth:=60) only [Zu,Zt,evC,reduceAdd,reduceLT,reduceLeDiff,reduceEqDiff,reduceMul,reduceCtorEq,q2,n01]
   ·have:Zcn ac cc=(if i+1=0 then (0:Int) else if i+1=1 then a else Zcn a b):=by
      rw [← hac,← hcc]
      rcases (show i=0∨i=1 by omega) with rfl | rfl
      ·simp [ZtG ha]
      ·simp
    rw [← this]
  ·have hi2:i=2:=by omega
   subst hi2
   simp (maxDischargeDepth:=60) only [Zu,Zt,evC,reduceAdd,reduceLT,reduceLeDiff,reduceEqDiff,reduceMul,reduceCtorEq,o0,o1,c6L,c6]
   exact hk _ (Z5 he (by omega))
def ZtT (h:Zb) (mb it:Nat):Nat:=match h[it]?,h[mb]? with
  | some (.mapIter _ _ seen _),some (.map es _)=>(leftOf es seen).size
  | _,_=>0
theorem Zgu {h:Zb} {mb it:Nat} {f:Int→Option Value} {n:Nat} {rem:Int→Prop} {L:Nat} (hr:Zer h mb it f n rem L):ZtT h mb it=L:=by
  obtain ⟨es,c,since,seen,c0,hb,hs,hn,he,hi,hold,hsc,hL,hrem⟩:=hr
  unfold ZtT
  rw [hi,hb]
  exact hL
def Win.add (w:Win) (at_ x:Int):Win:=⟨at_,fun i=>if i=bkt at_ then Zcn (w.p i) x else w.p i⟩
theorem Znz {h:Zb} {K:Option Addr→Int→Zb→Prop} (hk:∀ h',Zob h' (sz h+1) (sz h) ⟨0,fun _=>0⟩→Ext h h'→sz h'=sz h+2→K (some ⟨sz h+1,0,none⟩) 0 h'):Zee 1000000 10 K h:=by
  unfold Zee Zgi
  have e1:((Int.tmod 1000000 10) !=0)=false:=by decide
  simp (maxDischargeDepth:=60) only [Xa,YH,Zh1,e1]
  refine Zm (Zm (Zm (Zm ⟨by decide,Zm ?_⟩)))
  refine Zfe.new fun h1 hm e1 z1=>?_
  simp (maxDischargeDepth:=60) only [Zu,Zt,evC,reduceAdd,reduceLT,reduceLeDiff,reduceEqDiff,reduceMul,reduceCtorEq]
  simp only [ZJ] at hm z1
  rw [z1]
  refine hk _ ⟨⟨by decide,by decide,fun i=>⟨by simp,by simp⟩⟩,?_,?_⟩ (ZP e1) ?_
  ·simp (maxDischargeDepth:=60) only [Zu,Zt,evC,reduceAdd,reduceLT,reduceLeDiff,reduceEqDiff,reduceMul,reduceCtorEq,z1]
  ·exact ⟨_,_,hm.congr (ZfB hm.lt),(fun i v hv=>by cases hv),fun i _=> .inr ⟨rfl,rfl⟩⟩
  ·simp (maxDischargeDepth:=60) only [Zu,Zt,evC,reduceAdd,reduceLT,reduceLeDiff,reduceEqDiff,reduceMul,reduceCtorEq,z1]
theorem Zuw {h:Zb} {wb mb:Nat} {w:Win} (hw:Zob h wb mb w) {at_ x:Int} (hx:0≤x∧x≤4611686018427387904) {s:Sl} (hs:Row h s 6 (c6L (c6 x))) (hsb:∀ b,s.blk=some b→b≠wb∧b≠mb) {K:Int→Zb→Prop}
    (hk:∀ h',Zob h' wb mb (if Zap w.last at_=0 then w.add at_ x else w)→Upd (fun k=>k=wb∨k=mb) h h'→K (Zap w.last at_) h'):Zat (some ⟨wb,0,none⟩) at_ s K h:=by
  have hl:s.len=1:=by have:=hs.len;simp [c6L] at this;omega
  have l3:=ZV hw.cells
  have l4:=hw.mlt
  have hne:wb≠mb:=fun e=>by
    obtain ⟨f,n,⟨es,c,hb,_⟩,_⟩:=hw.map
    have:=hw.cells
    rw [e] at this
    rw [show obj h mb=h[mb]? from rfl,hb] at this
    cases this
  unfold Zat Zc7
  simp (maxDischargeDepth:=60) only [Zu,Zt,evC,reduceAdd,reduceLT,reduceLeDiff,reduceEqDiff,reduceMul,reduceCtorEq]
  refine Zj7 hw ?_
  rcases Decidable.em (Zap w.last at_=0) with he | he
  case inr =>
    have:(Zap w.last at_ !=0)=true:=by simpa using he
    rw [this]
    rw [if_neg he] at hk
    exact Zs (hk _ hw (Upd.refl _ _))
  rw [if_pos he] at hk
  rw [he] at hk ⊢
  obtain ⟨a0,a1,a2⟩:=Zff he
  have hbk:=Zn4 a0 a1
  have hbm:=ZoP a2
  refine Zm ?_
  refine Yc (fun st hh=>∃ i:Nat,st=((i:Int),())∧i≤1∧Ext h hh) (fun s _=>(1 - s.1).toNat) ⟨0,rfl,by omega,Ext.refl _⟩ ?_
  rintro _ hh ⟨i,rfl,hi,hee⟩
  dsimp only
  have zz:=X8 hee
  refine Zl (fun q=>?_) fun q=>?_
  ·have hi0:i=0:=by omega
   subst hi0
   obtain ⟨bb,o,hidx,hcell⟩:=Zow (i:=0) (hs.ext hee) (by omega)
   refine hidx rfl ?_
   have v0:=hcell 0 _ (by omega) (show (c6L (c6 x))[0]?=some (iv x) from rfl)
   have v1:=hcell 1 _ (by omega) (show (c6L (c6 x))[1]?=some (iv 0) from rfl)
   have v2:=hcell 2 _ (by omega) (show (c6L (c6 x))[2]?=some (iv 0) from rfl)
   have v3:=hcell 3 _ (by omega) (show (c6L (c6 x))[3]?=some (iv 0) from rfl)
   have v4:=hcell 4 _ (by omega) (show (c6L (c6 x))[4]?=some (iv 0) from rfl)
   have v5:=hcell 5 _ (by omega) (show (c6L (c6 x))[5]?=some (iv 0) from rfl)
   simp only [Nat.add_zero] at v0
   simp (maxDischargeDepth:=60) only [Zu,Zt,evC,reduceAdd,reduceLT,reduceLeDiff,reduceEqDiff,reduceMul,reduceCtorEq,v0,v1,v2,v3,v4,v5]
   refine Zkg hx fun h1 e1=>?_
   have hwr:IntKind.wrap .i64 (((0:Nat):Int)+1)=((1:Nat):Int):=by decide
   simp (maxDischargeDepth:=60) only [Zu,Zt,evC,reduceAdd,reduceLT,reduceLeDiff,reduceEqDiff,reduceMul,reduceCtorEq,hwr]
   exact ⟨⟨1,rfl,by omega,(Z5 (ZP hee) (by omega)).trans e1⟩,by decide⟩
  ·clear q
   have c3:=Yg hw.cells hee
   have n3:wb<sz hh:=by omega
   have n4:mb<sz hh:=by omega
   have hne':mb≠wb:=fun e=>hne e.symm
   have c3':obj (Zb.put hh wb 2 (iv at_)) wb=some (.cells [iv 1000000,iv 10,iv at_,.map (some mb)].toArray 214 (0,0)):=by
     simp (maxDischargeDepth:=60) only [Zu,Zt,evC,reduceAdd,reduceLT,reduceLeDiff,reduceEqDiff,reduceMul,reduceCtorEq,c3]
   have u1:Upd (fun k=>k=wb∨k=mb) h (Zb.put hh wb 2 (iv at_)):=Zrd (hee.upd _) (.inr (.inl rfl))
   have hm1:=(hw.congr (h':=hh) (Zdo hee l3) (Zdo hee l4)).map
   simp (maxDischargeDepth:=60) only [Zu,Zt,evC,reduceAdd,reduceLT,reduceLeDiff,reduceEqDiff,reduceMul,reduceCtorEq,c3,ZmS c3' a0 a1]
   obtain ⟨f,n,hm,hfv,hfp⟩:=hm1
   have hm2:Zfe (Zb.put hh wb 2 (iv at_)) mb f n:=hm.congr (Zdy hne')
   have zz2:sz (Zb.put hh wb 2 (iv at_))=sz hh:=Zj9
   generalize Zb.put hh wb 2 (iv at_)=h2 at c3' u1 hm2 zz2 ⊢
   refine ZbJ (fun _ h9=>∃ f' n',Zfe h9 mb f' n'∧(∀ i v,f' i=some v→∃ x,v=c6V x∧0≤x∧x≤4611686018427387904)∧(∀ i,bkt at_ - 10<i→f' i=some (c6V ((w.add at_ x).p i))∨(f' i=none∧(w.add at_ x).p i=0)) ∧
     obj h9 wb=some (.cells [iv 1000000,iv 10,iv at_,.map (some mb)].toArray 214 (0,0))∧Upd (fun k=>k=wb∨k=mb) h h9) ?_ ?_
   ·rintro _ h9 ⟨f',n',hm9,hfv9,hfp9,c9,u9⟩
    have l9:=ZV c9
    have g9:=hm9.lt
    simp (maxDischargeDepth:=60) only [Zu,Zt,evC,reduceAdd,reduceLT,reduceLeDiff,reduceEqDiff,reduceMul,reduceCtorEq,c9]
    refine hm9.range fun h10 hr10 e10 z10=>?_
    simp only [ZJ] at hr10 z10 ⊢
    have okw:(w.add at_ x).OK:=⟨a0,a1,fun i=>by
      have:=hw.ok.p i
      unfold Win.add
      dsimp only
      split
      ·exact Zi7 this hx
      ·exact this⟩
    refine Yc (fun _ hh=>∃ f'' n'' rem L,Zer hh mb (sz h9) f'' n'' rem L∧(∀ i,bkt at_ - 10<i→f'' i=f' i)∧(∀ i v,f'' i=some v→f' i=some v)∧obj hh wb=some (.cells [iv 1000000,iv 10,iv at_,.map (some mb)].toArray 214 (0,0))∧Upd (fun k=>k=wb∨k=mb) h hh)
      (fun _ hh=>ZtT hh mb (sz h9)) ⟨f',n',_,_,hr10,fun _ _=>rfl,fun _ _ hv=>hv,Yg c9 e10,u9.trans (e10.upd _)⟩ ?_
    rintro _ h11 ⟨f'',n'',rem,L,hr,hf1,hf2,c11,u11⟩
    have hsz9:sz h≤sz h9:=u9.size
    refine ZbJ (fun s h12=>(s.1=true∧∃ k rem' L',ZdT h12 mb (sz h9) f'' n'' rem' L' k∧L'<L∧obj h12 wb=some (.cells [iv 1000000,iv 10,iv at_,.map (some mb)].toArray 214 (0,0))∧Upd (fun k=>k=wb∨k=mb) h h12)∨(s.1=false∧h12=h11)) ?_ ?_
    ·rintro ⟨b,_⟩ h12 (⟨hb,k,rem',L',hra,hL,c12,u12⟩ | ⟨hb,rfl⟩)
     ·simp only at hb
      subst hb
      refine Zs (hra.ent fun v hv=>⟨k,rfl,?_⟩)
      obtain ⟨y,rfl,hy⟩:=hfv9 _ _ (hf2 _ _ hv)
      refine ⟨c6 y,rfl,?_⟩
      simp (maxDischargeDepth:=60) only [Zu,Zt,evC,reduceAdd,reduceLT,reduceLeDiff,reduceEqDiff,reduceMul,reduceCtorEq,c12]
      refine Zl (fun q=>?_) fun q=>?_
      ·refine hra.del fun h13 n13 hr13 u13 z13=>⟨⟨_,_,_,_,hr13,fun i hi=>?_,fun i v hv=>?_,XI c12 u13 hne,u12.trans (u13.mono fun k _ hk=> .inr hk)⟩,?_⟩
       ·rw [ZU (by omega) (by omega)] at q
        rw [Zif _ _ (by omega)]
        exact hf1 i hi
       ·unfold upd at hv
        split at hv
        ·cases hv
        ·exact hf2 i v hv
       ·rw [Zgu hr13,Zgu hr];exact hL
      ·exact ⟨⟨_,_,_,_,hra.go,hf1,hf2,u12⟩,by rw [Zgu hra.go,Zgu hr];exact hL⟩
     ·simp only at hb
      subst hb
      refine Zm ?_
      refine hk _ ⟨okw,c11,f'',n'',hr.map,fun i v hv=>hfv9 i v (hf2 i v hv),fun i hi=>?_⟩ u11
      rw [hf1 i hi]
      exact hfp9 i hi
    ·refine hr.next (fun _=>?_) fun k v h12 L' hk1 hv hra hL u12 z12=>?_
     ·exact .inr ⟨rfl,rfl⟩
     ·have hwi:wb≠sz h9:=by omega
      exact .inl ⟨rfl,k,_,L',hra,hL,XI c11 u12 hwi,⟨Nat.le_trans u11.size u12.size,fun j hj hn=>(u12.old j (Nat.lt_of_lt_of_le hj u11.size) (fun e=>by have:j<sz h:=hj;omega)).trans (u11.old j hj hn)⟩⟩
   ·have ck:ZO 3 (obj h2 wb)=some (.map (some mb)):=by rw [c3'];rfl
    have l2:=ZV c3'
    simp (maxDischargeDepth:=60) only [Zu,Zt,evC,reduceAdd,reduceLT,reduceLeDiff,reduceEqDiff,reduceMul,reduceCtorEq,c3']
    have hfk:(f (bkt at_)).getD (.agg #[iv 0,iv 0,iv 0,iv 0,iv 0,iv 0])=c6V (w.p (bkt at_)):=by
      rcases hfp (bkt at_) (by omega) with e | ⟨e,ep⟩
      ·rw [e];rfl
      ·rw [e,ep];rfl
    have hpk:=hw.ok.p (bkt at_)
    refine hm2.get (bkt at_) ⟨c6 (w.p (bkt at_)),hfk,?_⟩
    rw [← zz2]
    have ho:Own (h2.push (.cells [iv (c6 (w.p (bkt at_))).1,iv (c6 (w.p (bkt at_))).2.1,iv (c6 (w.p (bkt at_))).2.2.1,iv (c6 (w.p (bkt at_))).2.2.2.1,iv (c6 (w.p (bkt at_))).2.2.2.2.1,iv (c6 (w.p (bkt at_))).2.2.2.2.2.1].toArray 305 (0,0))) (sz h2) ⟨some ⟨sz h2,0,none⟩,1,1⟩ 6 (c6L (c6 (w.p (bkt at_)))) :=
      Own.newC (h:=h2) (cells:=c6L (c6 (w.p (bkt at_)))) (t:=305) (size:=6) (n:=1) rfl (by decide)
    have hs2:Row h2 s 6 (c6L (c6 x)):=(hs.congr fun b o hb _ hlb=>u1.old b hlb fun e=>by
      have:=hsb b (by simp [Sl.blk,hb])
      omega)
    refine (hs2.ext (Ext.push _ _)).rd (Own.app ho (by rw [hl];rfl) (by simp [c6L,c6,YP]) rfl (by rw [hl];show (1+1)*48≤140737488355328;decide) (by rw [hl];show 1+1≤140737488355328;decide) (by rw [ZJ,XA];omega) fun t h4 ho4 hl4 hu4 hblk=>?_)
    have e4:Ext h2 h4:=(Ext.push h2 _).then hu4 fun k hk=>by
      simp [Sl.blk] at hk
      subst hk
      exact Nat.le_refl _
    refine ZsU ho4.row hpk hx fun h5 e5=>?_
    have e25:=e4.trans e5
    have c5:=Yg c3' e25
    have u5:Upd (fun k=>k=wb∨k=mb) h h5:=u1.trans (e25.upd _)
    have hm5:Zfe h5 mb f n:=hm2.congr (Zdo e25 hm2.lt)
    have pr:=Zi7 hpk hx
    have l5:=ZV c5
    have lm5:=hm5.lt
    generalize hpv:Zcn (w.p (bkt at_)) x=pv at pr ⊢
    have old:∀ i,bkt at_ - 10<i→i≠bkt at_→f i=some (c6V ((w.add at_ x).p i))∨(f i=none∧(w.add at_ x).p i=0):=fun i hi hne=>by
      have:(w.add at_ x).p i=w.p i:=if_neg hne
      rw [this]
      exact hfp i (by omega)
    have new:(w.add at_ x).p (bkt at_)=pv:=(if_pos rfl).trans hpv
    simp (maxDischargeDepth:=60) only [Zu,Zt,evC,reduceAdd,reduceLT,reduceLeDiff,reduceEqDiff,reduceMul,reduceCtorEq,c6,c6L,c5,ZgS l5,YK l5,Zpz l5,Zim l5]
    have u6:Upd (fun k=>k=wb∨k=mb) h (Zb.puts (h5.push (.cells [iv 0,iv 0,iv 0,iv 0,iv 0,iv 0].toArray 305 (0,0))) (sz h5) 0 [iv pv,iv 0,iv 0,iv 0,iv 0,iv 0]) :=
      Zcl (Zgq u5) (.inl (by have:sz h≤sz h5:=u5.size;omega))
    have hm6:Zfe (Zb.puts (h5.push (.cells [iv 0,iv 0,iv 0,iv 0,iv 0,iv 0].toArray 305 (0,0))) (sz h5) 0 [iv pv,iv 0,iv 0,iv 0,iv 0,iv 0]) mb f n :=
      hm5.congr ((Zcm (by have:=lm5;simp only [ZJ] at this;omega)).trans (ZfB lm5))
    have c6_:obj (Zb.puts (h5.push (.cells [iv 0,iv 0,iv 0,iv 0,iv 0,iv 0].toArray 305 (0,0))) (sz h5) 0 [iv pv,iv 0,iv 0,iv 0,iv 0,iv 0]) wb=some (.cells [iv 1000000,iv 10,iv at_,.map (some mb)].toArray 214 (0,0)):=by
      simp (maxDischargeDepth:=60) only [Zu,Zt,evC,reduceAdd,reduceLT,reduceLeDiff,reduceEqDiff,reduceMul,reduceCtorEq,c5,YK l5]
    rcases Decidable.em (pv=0) with h0 | h0
    ·have:(!(bif pv ==0 then (bif (0:Int) ==0 then (bif (0:Int) ==0 then (bif (0:Int) ==0 then (bif (0:Int) ==0 then (bif (0:Int) ==0 then true else false) else false) else false) else false) else false) else false))=false:=by rw [h0];decide
     refine Zam this ?_
     refine ⟨f,n,hm6,hfv,fun i hi=>?_,u6⟩
     by_cases hik:i=bkt at_
     ·subst hik
      rw [new,h0]
      rcases hfp (bkt at_) (by omega) with e | ⟨e,ep⟩
      ·have:w.p (bkt at_)=0:=by
         rw [ZiD hpk hx] at hpv
         omega
       rw [this] at e
       exact .inl e
      ·exact .inr ⟨e,rfl⟩
     ·exact old i hi hik
    ·have:(!(bif pv ==0 then (bif (0:Int) ==0 then (bif (0:Int) ==0 then (bif (0:Int) ==0 then (bif (0:Int) ==0 then (bif (0:Int) ==0 then true else false) else false) else false) else false) else false) else false))=true:=by
       have:(pv ==0)=false:=by simpa using h0
       rw [this];rfl
     refine ZaY this ?_
     refine hm6.put (bkt at_) (c6V pv) fun h7 hm7 u7 z7=>⟨_,_,hm7,fun i v hv=>?_,fun i hi=>?_,XI c6_ u7 hne,u6.trans (u7.mono fun k _ hk=> .inr hk)⟩
     ·unfold upd at hv
      split at hv
      ·cases hv;exact ⟨pv,rfl,pr⟩
      ·exact hfv i v hv
     ·by_cases hik:i=bkt at_
      ·subst hik
       rw [ZiA,new]
       exact .inl rfl
      ·rw [Zif _ _ hik]
       exact old i hi hik
end Go.Proofs.YtbppjmcinoffnaaGreat.Tk
