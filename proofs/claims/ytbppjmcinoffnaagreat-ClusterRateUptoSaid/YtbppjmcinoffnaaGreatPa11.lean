/- Maps of numbers with whatever values: found, put, deleted, emptied, ranged over. Plain laws on memory. -/
import Derived.Test.YtbppjmcinoffnaaGreatPa10
set_option linter.unusedVariables false
set_option linter.unusedSimpArgs false
namespace Go.Proofs.YtbppjmcinoffnaaGreat.Tk
open Go Go.Fw
open Nat (reduceAdd reduceLT reduceLeDiff reduceEqDiff reduceMul)
def upd {α:Type} (f:Int→Option α) (k:Int) (v:Option α):Int→Option α:=fun j=>if j=k then v else f j
theorem ZiA {α:Type} (f:Int→Option α) (k:Int) (v:Option α):upd f k v k=v:=if_pos rfl
theorem Zic {α:Type} (f:Int→Option α) {k j:Int} (v:Option α) (h:j≠k):upd f k v j=f j:=if_neg h
structure Zl3 (es:Array MapEntry) (f:Int→Option Value):Prop where
  to:∀ e,e∈es.toList→∃ k,e.key=iv k∧f k=some e.val
  of:∀ k v,f k=some v→∃ e,e∈es.toList∧e.key=iv k
def ZeU (h:Zb) (mb:Nat) (f:Int→Option Value) (n:Nat):Prop :=
  ∃ es c,h[mb]?=some (.map es c)∧MapKept.Stamped es c∧es.size=n∧Zl3 es f
theorem ZkH {a b:Int} (h:iv a=iv b):a=b:=by injection h
theorem Zl3.key {es:Array MapEntry} {f:Int→Option Value} (he:Zl3 es f):∀ x,x∈es.toList→MapKept.IsKey (.int .i64) x.key:=fun x hx=>by
  obtain ⟨k,hk,_⟩:=he.to x hx
  rw [hk]
  rfl
theorem Zl3.val {es:Array MapEntry} {f:Int→Option Value} (he:Zl3 es f) {e:MapEntry} (hm:e∈es.toList) {k:Int} (hk:e.key=iv k):f k=some e.val:=by
  obtain ⟨j,hj,hv⟩:=he.to e hm
  rw [hk] at hj
  rw [ZkH hj]
  exact hv
theorem Zl3.find {es:Array MapEntry} {f:Int→Option Value} (he:Zl3 es f) (k:Int) :
    (Instr.findNow (.int .i64) (iv k) es.toList 0=some none∧f k=none)∨∃ j e,Instr.findNow (.int .i64) (iv k) es.toList 0=some (some (j,e.val))∧es.toList[j]?=some e∧e.key=iv k∧f k=some e.val:=by
  rcases MapKept.findNow_spec (d:= .int .i64) (k:=iv k) rfl es.toList 0 he.key with ⟨h1,h2⟩ | ⟨j,e,h1,h2,h3⟩
  ·refine .inl ⟨h1,?_⟩
   cases hf:f k with
   | none=>rfl
   | some v =>
     obtain ⟨e,hm,hk⟩:=he.of k v hf
     exact absurd hk (h2 e hm)
  ·rw [Nat.zero_add] at h1
   exact .inr ⟨j,e,h1,h2,h3,he.val (List.mem_of_getElem? h2) h3⟩
theorem ZeU.congr {h h':Zb} {mb:Nat} {f:Int→Option Value} {n:Nat} (hm:ZeU h mb f n) (he:h'[mb]?=h[mb]?):ZeU h' mb f n:=by
  obtain ⟨es,c,hb,r⟩:=hm
  exact ⟨es,c,he.trans hb,r⟩
theorem ZeU.lt {h:Zb} {mb:Nat} {f:Int→Option Value} {n:Nat} (hm:ZeU h mb f n):mb<h.size:=by
  obtain ⟨es,c,hb,r⟩:=hm
  exact Xi hb
theorem ZeU.new {h:Zb} {K:Nat→Zb→Prop} (hk:∀ h1,ZeU h1 h.size (fun _=>none) 0→Ext h h1→h1.size=h.size+1→K h.size h1):Zc7 h K :=
  hk _ ⟨#[],0,Zez,MapKept.stamped_empty 0,rfl,⟨fun e he=>by simp at he,fun k v hv=>by cases hv⟩⟩ (Ext.push _ _) (by simp)
theorem ZeU.get {h:Zb} {mb:Nat} {f:Int→Option Value} {n:Nat} (hm:ZeU h mb f n) (k:Int) {K:Option Value→Prop} (hk:K (f k)):XL (.int .i64) h (some mb) (iv k) K:=by
  obtain ⟨es,c,hb,hs,hn,he⟩:=hm
  refine ⟨(fun e=>by cases e),fun b e=>?_⟩
  cases e
  rcases he.find k with ⟨h1,h2⟩ | ⟨j,e,h1,h2,h3,h4⟩
  ·exact ⟨es,c,none,hb,h1,by rw [h2] at hk;exact hk⟩
  ·exact ⟨es,c,_,hb,h1,by rw [h4] at hk;exact hk⟩
theorem ZeU.len {h:Zb} {mb:Nat} {f:Int→Option Value} {n:Nat} (hm:ZeU h mb f n) {K:Int→Prop} (hk:K (n:Int)):ZwM h (some mb) K:=by
  obtain ⟨es,c,hb,hs,hn,he⟩:=hm
  refine ⟨(fun e=>by cases e),fun b e=>?_⟩
  cases e
  exact ⟨es,c,hb,by rw [hn];exact hk⟩
theorem ZeH {h:Zb} {b:Nat} {x:Obj}:Upd (· = b) h (h.setIfInBounds b x) :=
  ⟨by simp,fun k _ hk=>by rw [Array.getElem?_setIfInBounds_ne (fun e=>hk e.symm)]⟩
theorem Zgs {h:Zb} {b:Nat} {x:Obj} (hb:b<h.size):(h.setIfInBounds b x)[b]?=some x:=by simp [hb]
theorem Zl3.modify {es:Array MapEntry} {f:Int→Option Value} (he:Zl3 es f) {c:Nat} (hs:MapKept.Stamped es c) {j:Nat} {e:MapEntry} {k:Int} (hj:es.toList[j]?=some e) (hk:e.key=iv k) (v:Value) :
    Zl3 (es.modify j fun x=>{ x with key:=iv k,val:=v }) (upd f k (some v))∧MapKept.Stamped (es.modify j fun x=>{ x with key:=iv k,val:=v }) c:=by
  have hj':es[j]?=some e:=by simpa using hj
  have uniq:∀ i x,es.toList[i]?=some x→x.key=iv k→i=j:=by
    intro i x hi hx
    have hnd:=hs.2.2
    have h1:(es.toList.map (·.key))[i]?=some (iv k):=by rw [List.getElem?_map,hi];simp [hx]
    have h2:(es.toList.map (·.key))[j]?=some (iv k):=by rw [List.getElem?_map,hj];simp [hk]
    obtain ⟨hil,h1⟩:=List.getElem?_eq_some_iff.1 h1
    obtain ⟨hjl,h2⟩:=List.getElem?_eq_some_iff.1 h2
    exact (List.getElem_inj hnd).1 (h1.trans h2.symm)
  refine ⟨⟨fun x hx=>?_,fun i u hu=>?_⟩,?_⟩
  ·obtain ⟨i,hi⟩:=List.getElem?_of_mem hx
   rw [Array.getElem?_toList,Array.getElem?_modify] at hi
   by_cases hij:j=i
   ·subst hij
    rw [if_pos rfl,hj'] at hi
    simp only [Option.map_some,Option.some.injEq] at hi
    subst hi
    exact ⟨k,rfl,ZiA _ _ _⟩
   ·rw [if_neg hij] at hi
    have hi':es.toList[i]?=some x:=by simpa using hi
    obtain ⟨m,hm,hv⟩:=he.to x (List.mem_of_getElem? hi')
    refine ⟨m,hm,?_⟩
    rw [Zic]
    ·exact hv
    ·intro hmk
     subst hmk
     exact hij (uniq i x hi' hm).symm
  ·by_cases hik:i=k
   ·subst hik
    refine ⟨{ e with key:=iv i,val:=v },?_,rfl⟩
    refine List.mem_of_getElem? (i:=j) ?_
    rw [Array.getElem?_toList,Array.getElem?_modify,if_pos rfl,hj']
    rfl
   ·rw [Zic f _ hik] at hu
    obtain ⟨x,hx,hxk⟩:=he.of i u hu
    obtain ⟨m,hm⟩:=List.getElem?_of_mem hx
    refine ⟨x,List.mem_of_getElem? (i:=m) ?_,hxk⟩
    rw [Array.getElem?_toList,Array.getElem?_modify,if_neg]
    ·simpa using hm
    ·intro hjm
     subst hjm
     rw [hj] at hm
     cases hm
     exact hik (ZkH (hxk.symm.trans hk))
  ·refine MapKept.stamped_modify hs j _ (fun x _=>rfl) fun x _ hx=>?_
   rw [hj'] at hx
   cases hx
   exact hk.symm
theorem ZeU.put {h:Zb} {mb:Nat} {f:Int→Option Value} {n:Nat} (hm:ZeU h mb f n) (k:Int) (v:Value) {K:Zb→Prop}
    (hk:∀ h',ZeU h' mb (upd f k (some v)) (if (f k).isSome then n else n+1)→Upd (· = mb) h h'→h'.size=h.size→K h'):Zax (.int .i64) h (some mb) (iv k) v K:=by
  have hlt:=hm.lt
  obtain ⟨es,c,hb,hs,hn,he⟩:=hm
  rcases he.find k with ⟨h1,h2⟩ | ⟨j,e,h1,h2,h3,h4⟩
  ·refine ⟨mb,es,c,none,rfl,hb,he.key,h1,hk _ ⟨es.push { key:=iv k,val:=v,born:=c },c+1,Zgs hlt,MapKept.stamped_push hs fun x hx hxk=>?_,by simp [h2,hn],⟨fun x hx=>?_,fun i u hu=>?_⟩⟩ ZeH (by simp)⟩
   ·have:=he.val hx hxk
    rw [h2] at this
    cases this
   ·simp only [Array.toList_push,List.mem_append,List.mem_singleton] at hx
    rcases hx with hx | rfl
    ·obtain ⟨m,hm,hv⟩:=he.to x hx
     refine ⟨m,hm,?_⟩
     rw [Zic]
     ·exact hv
     ·intro hmk
      subst hmk
      rw [h2] at hv
      cases hv
    ·exact ⟨k,rfl,ZiA _ _ _⟩
   ·simp only [Array.toList_push,List.mem_append,List.mem_singleton]
    by_cases hik:i=k
    ·subst hik
     exact ⟨_,.inr rfl,rfl⟩
    ·rw [Zic f _ hik] at hu
     obtain ⟨x,hx,hxk⟩:=he.of i u hu
     exact ⟨x,.inl hx,hxk⟩
  ·obtain ⟨g1,g2⟩:=he.modify hs h2 h3 v
   exact ⟨mb,es,c,_,rfl,hb,he.key,h1,hk _ ⟨_,c,Zgs hlt,g2,by simp [h4,hn],g1⟩ ZeH (by simp)⟩
theorem Zl3.erase {es:Array MapEntry} {f:Int→Option Value} (he:Zl3 es f) {c:Nat} (hs:MapKept.Stamped es c) {j:Nat} {e:MapEntry} {k:Int} (hj:es.toList[j]?=some e) (hk:e.key=iv k) :
    Zl3 (es.eraseIdxIfInBounds j) (upd f k none)∧MapKept.Stamped (es.eraseIdxIfInBounds j) c∧(es.eraseIdxIfInBounds j).toList=es.toList.eraseIdx j∧(es.eraseIdxIfInBounds j).size=es.size - 1:=by
  obtain ⟨hjl,hje⟩:=List.getElem?_eq_some_iff.1 hj
  have hjs:j<es.size:=by simpa using hjl
  have hl:(es.eraseIdxIfInBounds j).toList=es.toList.eraseIdx j:=by
    unfold Array.eraseIdxIfInBounds
    rw [dif_pos hjs,Array.toList_eraseIdx]
  have hnd:=hs.2.2
  have mem:∀ x,x∈es.toList.eraseIdx j↔x∈es.toList∧x.key≠iv k:=fun x=>by
    constructor
    ·intro hx
     obtain ⟨i,hne,hi⟩:=List.mem_eraseIdx_iff_getElem?.1 hx
     refine ⟨List.mem_of_getElem? hi,fun hxk=>hne ?_⟩
     have h1:(es.toList.map (·.key))[i]?=some (iv k):=by rw [List.getElem?_map,hi];simp [hxk]
     have h2:(es.toList.map (·.key))[j]?=some (iv k):=by rw [List.getElem?_map,hj];simp [hk]
     obtain ⟨hil,h1⟩:=List.getElem?_eq_some_iff.1 h1
     obtain ⟨hjl,h2⟩:=List.getElem?_eq_some_iff.1 h2
     exact (List.getElem_inj hnd).1 (h1.trans h2.symm)
    ·rintro ⟨hx,hxk⟩
     obtain ⟨i,hi⟩:=List.getElem?_of_mem hx
     refine List.mem_eraseIdx_iff_getElem?.2 ⟨i,fun hij=>?_,hi⟩
     subst hij
     rw [hj] at hi
     cases hi
     exact hxk hk
  refine ⟨⟨fun x hx=>?_,fun i u hu=>?_⟩,MapKept.stamped_erase hs j,hl,?_⟩
  ·rw [hl] at hx
   obtain ⟨hx,hxk⟩:=(mem x).1 hx
   obtain ⟨m,hm,hv⟩:=he.to x hx
   refine ⟨m,hm,?_⟩
   rw [Zic]
   ·exact hv
   ·intro hmk
    subst hmk
    exact hxk hm
  ·by_cases hik:i=k
   ·subst hik
    rw [ZiA] at hu
    cases hu
   ·rw [Zic f _ hik] at hu
    obtain ⟨x,hx,hxk⟩:=he.of i u hu
    exact ⟨x,by rw [hl];exact (mem x).2 ⟨hx,fun h=>hik (ZkH (hxk.symm.trans h))⟩,hxk⟩
  ·unfold Array.eraseIdxIfInBounds
   rw [dif_pos hjs]
   simp
theorem ZeU.del {h:Zb} {mb:Nat} {f:Int→Option Value} {n:Nat} (hm:ZeU h mb f n) (k:Int) {K:Zb→Prop}
    (hk:∀ h',ZeU h' mb (upd f k none) (if (f k).isSome then n - 1 else n)→Upd (· = mb) h h'→h'.size=h.size→K h'):Zf0 (.int .i64) h (some mb) (iv k) K:=by
  have hlt:=hm.lt
  obtain ⟨es,c,hb,hs,hn,he⟩:=hm
  refine ⟨(fun e=>by cases e),fun b e=>?_⟩
  cases e
  rcases he.find k with ⟨h1,h2⟩ | ⟨j,e,h1,h2,h3,h4⟩
  ·have hu:upd f k none=f:=by
     funext j
     unfold upd
     split
     ·rename_i hj;rw [hj,h2]
     ·rfl
   refine ⟨es,c,none,hb,h1,hk _ ⟨es,c,Zgs hlt,hs,by simp [h2,hn],by rw [hu];exact he⟩ ZeH (by simp)⟩
  ·obtain ⟨g1,g2,g3,g4⟩:=he.erase hs h2 h3
   exact ⟨es,c,_,hb,h1,hk _ ⟨_,c,Zgs hlt,g2,by simp [h4,g4,hn],g1⟩ ZeH (by simp)⟩
theorem ZeU.clear {h:Zb} {mb:Nat} {f:Int→Option Value} {n:Nat} (hm:ZeU h mb f n) {K:Zb→Prop}
    (hk:∀ h',ZeU h' mb (fun _=>none) 0→Upd (· = mb) h h'→h'.size=h.size→K h'):ZAg h (some mb) K:=by
  have hlt:=hm.lt
  obtain ⟨es,c,hb,hs,hn,he⟩:=hm
  refine ⟨(fun e=>by cases e),fun b e=>?_⟩
  cases e
  exact ⟨es,c,hb,hk _ ⟨#[],c,Zgs hlt,MapKept.stamped_empty c,rfl,⟨fun e he=>by simp at he,fun k v hv=>by cases hv⟩⟩ ZeH (by simp)⟩
def Zd6 (h:Zb) (mb it:Nat) (f:Int→Option Value) (n:Nat) (rem:Int→Prop) (L:Nat):Prop :=
  ∃ (es:Array MapEntry) (c since:Nat) (seen:Array Nat) (c0:Nat),h[mb]?=some (.map es c)∧MapKept.Stamped es c∧es.size=n∧Zl3 es f∧h[it]?=some (.mapIter (some mb) since seen c0)∧(∀ x,x∈es.toList→x.born<since)∧(since≤c0∧since≤c) ∧
    (leftOf es seen).size=L∧∀ k,rem k↔∃ e,e∈(leftOf es seen).toList∧e.key=iv k
def Zdw (h:Zb) (mb it:Nat) (f:Int→Option Value) (n:Nat) (rem:Int→Prop) (L:Nat) (k:Int):Prop :=
  ∃ (es:Array MapEntry) (c since:Nat) (seen:Array Nat) (e:MapEntry),h[mb]?=some (.map es c)∧MapKept.Stamped es c∧es.size=n∧Zl3 es f∧h[it]?=some (.mapIter (some mb) since (seen.push e.born) c)∧(∀ x,x∈es.toList→x.born<since)∧since≤c ∧
    e∈es.toList∧e.key=iv k∧(leftOf es (seen.push e.born)).size=L∧∀ j,rem j↔∃ e',e'∈(leftOf es (seen.push e.born)).toList∧e'.key=iv j
theorem Zac (es:Array MapEntry) (seen:Array Nat):(leftOf es seen).toList=es.toList.filter fun e=> !seen.contains e.born:=by
  unfold leftOf;rw [Array.toList_filter]
theorem Zoa (es:Array MapEntry) (seen:Array Nat):(leftOf es seen).size=(es.toList.filter fun e=> !seen.contains e.born).length:=by
  rw [← Zac,Array.length_toList]
theorem ZmS {es:Array MapEntry} {seen:Array Nat} {b:Nat} {e:MapEntry}:e∈(leftOf es (seen.push b)).toList↔e∈(leftOf es seen).toList∧e.born≠b:=by
  rw [Zac,Zac,List.mem_filter,List.mem_filter,contains_push]
  cases seen.contains e.born<;>simp
theorem Zd6.lt {h:Zb} {mb it:Nat} {f:Int→Option Value} {n:Nat} {rem:Int→Prop} {L:Nat} (hr:Zd6 h mb it f n rem L):mb<h.size∧it<h.size∧mb≠it:=by
  obtain ⟨es,c,since,seen,c0,hb,_,_,_,hi,_⟩:=hr
  refine ⟨Xi hb,Xi hi,fun e=>?_⟩
  subst e
  rw [hb] at hi
  cases hi
theorem Zd6.map {h:Zb} {mb it:Nat} {f:Int→Option Value} {n:Nat} {rem:Int→Prop} {L:Nat} (hr:Zd6 h mb it f n rem L):ZeU h mb f n:=by
  obtain ⟨es,c,since,seen,c0,hb,hs,hn,he,_⟩:=hr
  exact ⟨es,c,hb,hs,hn,he⟩
theorem Zd6.congr {h h':Zb} {mb it:Nat} {f:Int→Option Value} {n:Nat} {rem:Int→Prop} {L:Nat} (hr:Zd6 h mb it f n rem L) (h1:h'[mb]?=h[mb]?) (h2:h'[it]?=h[it]?):Zd6 h' mb it f n rem L:=by
  obtain ⟨es,c,since,seen,c0,hb,hs,hn,he,hi,r⟩:=hr
  exact ⟨es,c,since,seen,c0,h1.trans hb,hs,hn,he,h2.trans hi,r⟩
theorem Zdw.congr {h h':Zb} {mb it:Nat} {f:Int→Option Value} {n:Nat} {rem:Int→Prop} {L:Nat} {k:Int} (hr:Zdw h mb it f n rem L k) (h1:h'[mb]?=h[mb]?) (h2:h'[it]?=h[it]?):Zdw h' mb it f n rem L k:=by
  obtain ⟨es,c,since,seen,e,hb,hs,hn,he,hi,r⟩:=hr
  exact ⟨es,c,since,seen,e,h1.trans hb,hs,hn,he,h2.trans hi,r⟩
theorem ZeU.range {h:Zb} {mb:Nat} {f:Int→Option Value} {n:Nat} (hm:ZeU h mb f n) {K:Nat→Zb→Prop} (hk:∀ h1,Zd6 h1 mb h.size f n (fun k=>(f k).isSome=true) n→Ext h h1→h1.size=h.size+1→K h.size h1):rgM h (some mb) K:=by
  have hlt:=hm.lt
  obtain ⟨es,c,hb,hs,hn,he⟩:=hm
  have hl:(leftOf es #[]).toList=es.toList:=by
    rw [Zac]
    exact List.filter_eq_self.2 fun a _=>by simp
  refine ⟨(fun e=>by cases e),fun b e=>?_⟩
  cases e
  refine ⟨es,c,hb,hk _ ⟨es,c,c,#[],c,(Zfj hlt).trans hb,hs,hn,he,Zez,hs.1,⟨Nat.le_refl _,Nat.le_refl _⟩,?_,fun k=>?_⟩ (Ext.push _ _) (by simp)⟩
  ·rw [← Array.length_toList,hl,Array.length_toList,hn]
  ·rw [hl]
   constructor
   ·intro hk
    obtain ⟨v,hv⟩:=Option.isSome_iff_exists.1 hk
    exact he.of k v hv
   ·rintro ⟨e,hm,hek⟩
    rw [he.val hm hek]
    rfl
theorem Zd6.next {h:Zb} {mb it:Nat} {f:Int→Option Value} {n:Nat} {rem:Int→Prop} {L:Nat} (hr:Zd6 h mb it f n rem L) {T:Value→Value→Zb→Prop} {F:Prop}
    (hF:(∀ k,¬ rem k)→F) (hT:∀ k v h' L',rem k→f k=some v→Zdw h' mb it f n (fun j=>rem j∧j≠k) L' k→L'<L→Upd (· = it) h h'→h'.size=h.size→T (iv k) v h'):Zt2 h it T F:=by
  obtain ⟨hl1,hl2,hne⟩:=hr.lt
  obtain ⟨es,c,since,seen,c0,hb,hs,hn,he,hi,hold,hsc,hL,hrem⟩:=hr
  refine .inr ⟨mb,since,seen,c0,es,c,hi,hb,hold,hsc.1,fun h0=>hF fun k hk=>?_,fun e hm=>?_⟩
  ·obtain ⟨e,hm,_⟩:=(hrem k).1 hk
   rw [Zac] at hm
   rw [Zoa] at h0
   rw [List.eq_nil_of_length_eq_zero h0] at hm
   cases hm
  ·obtain ⟨hme,hns⟩:=mem_left hm
   obtain ⟨k,hk,hv⟩:=he.to e hme
   rw [hk]
   refine hT k e.val _ (leftOf es (seen.push e.born)).size ((hrem k).2 ⟨e,hm,hk⟩) hv ⟨es,c,since,seen,e,?_,hs,hn,he,Zgs hl2,hold,hsc.2,hme,hk,rfl,fun j=>?_⟩ (by have:=left_shrinks es seen e hm;omega) ZeH (by simp)
   ·rw [Array.getElem?_setIfInBounds_ne (Ne.symm hne)];exact hb
   ·constructor
    ·rintro ⟨hj,hjk⟩
     obtain ⟨e',hm',hk'⟩:=(hrem j).1 hj
     refine ⟨e',ZmS.2 ⟨hm',fun hb'=>hjk ?_⟩,hk'⟩
     have hnd:=hs.2.1
     obtain ⟨i,hi⟩:=List.getElem?_of_mem (mem_left hm').1
     obtain ⟨m,hm2⟩:=List.getElem?_of_mem hme
     have h1:(es.toList.map (·.born))[i]?=some e.born:=by rw [List.getElem?_map,hi];simp [hb']
     have h2:(es.toList.map (·.born))[m]?=some e.born:=by rw [List.getElem?_map,hm2];rfl
     obtain ⟨hil,h1⟩:=List.getElem?_eq_some_iff.1 h1
     obtain ⟨hjl,h2⟩:=List.getElem?_eq_some_iff.1 h2
     have:=(List.getElem_inj hnd).1 (h1.trans h2.symm)
     subst this
     rw [hi] at hm2
     cases hm2
     exact ZkH (hk'.symm.trans hk)
    ·rintro ⟨e',hm',hk'⟩
     obtain ⟨hm1,hb1⟩:=ZmS.1 hm'
     refine ⟨(hrem j).2 ⟨e',hm1,hk'⟩,fun hjk=>hb1 ?_⟩
     subst hjk
     have hnd:=hs.2.2
     obtain ⟨i,hi⟩:=List.getElem?_of_mem (mem_left hm1).1
     obtain ⟨m,hm2⟩:=List.getElem?_of_mem hme
     have h1:(es.toList.map (·.key))[i]?=some (iv j):=by rw [List.getElem?_map,hi];simp [hk']
     have h2:(es.toList.map (·.key))[m]?=some (iv j):=by rw [List.getElem?_map,hm2];simp [hk]
     obtain ⟨hil,h1⟩:=List.getElem?_eq_some_iff.1 h1
     obtain ⟨hjl,h2⟩:=List.getElem?_eq_some_iff.1 h2
     have:=(List.getElem_inj hnd).1 (h1.trans h2.symm)
     subst this
     rw [hi] at hm2
     cases hm2
     rfl
theorem Zdw.ent {h:Zb} {mb it:Nat} {f:Int→Option Value} {n:Nat} {rem:Int→Prop} {L:Nat} {k:Int} (hr:Zdw h mb it f n rem L k) {K:Value→Value→Prop} (hk:∀ v,f k=some v→K (iv k) v):ZAe h it K:=by
  obtain ⟨es,c,since,seen,e,hb,hs,hn,he,hi,hold,hsc,hme,hek,hL,hrem⟩:=hr
  have:=hk e.val (he.val hme hek)
  rw [← hek] at this
  exact ⟨mb,since,seen,es,c,e,hi,hb,hme,hs.2.1,this⟩
theorem Zdw.go {h:Zb} {mb it:Nat} {f:Int→Option Value} {n:Nat} {rem:Int→Prop} {L:Nat} {k:Int} (hr:Zdw h mb it f n rem L k):Zd6 h mb it f n rem L:=by
  obtain ⟨es,c,since,seen,e,hb,hs,hn,he,hi,hold,hsc,hme,hek,hL,hrem⟩:=hr
  exact ⟨es,c,since,_,c,hb,hs,hn,he,hi,hold,⟨hsc,hsc⟩,hL,hrem⟩
theorem Zim {α:Type} (p:α→Bool):∀ (l:List α) (j:Nat) (x:α),l[j]?=some x→p x=false→(l.eraseIdx j).filter p=l.filter p
  | [],j,x,h,_=>by simp at h
  | y::l,0,x,h,hp=>by simp at h;subst h;simp [hp]
  | y::l,j+1,x,h,hp=>by
    have ih:=Zim p l j x (by simpa using h) hp
    simp only [List.eraseIdx_cons_succ,List.filter_cons,ih]
theorem Zdw.del {h:Zb} {mb it:Nat} {f:Int→Option Value} {n:Nat} {rem:Int→Prop} {L:Nat} {k:Int} (hr:Zdw h mb it f n rem L k) {K:Zb→Prop}
    (hk:∀ h' n',Zd6 h' mb it (upd f k none) n' rem L→Upd (· = mb) h h'→h'.size=h.size→K h'):Zf0 (.int .i64) h (some mb) (iv k) K:=by
  obtain ⟨hl1,hl2,hne⟩:=hr.go.lt
  obtain ⟨es,c,since,seen,e,hb,hs,hn,he,hi,hold,hsc,hme,hek,hL,hrem⟩:=hr
  refine ⟨(fun e=>by cases e),fun b e=>?_⟩
  cases e
  rcases he.find k with ⟨h1,h2⟩ | ⟨j,e',h1,h2,h3,h4⟩
  ·rw [he.val hme hek] at h2;cases h2
  ·obtain ⟨g1,g2,g3,g4⟩:=he.erase hs h2 h3
   have hee:e'=e:=by
     have hnd:=hs.2.2
     obtain ⟨m,hm2⟩:=List.getElem?_of_mem hme
     have q1:(es.toList.map (·.key))[j]?=some (iv k):=by rw [List.getElem?_map,h2];simp [h3]
     have q2:(es.toList.map (·.key))[m]?=some (iv k):=by rw [List.getElem?_map,hm2];simp [hek]
     obtain ⟨hil,q1⟩:=List.getElem?_eq_some_iff.1 q1
     obtain ⟨hjl,q2⟩:=List.getElem?_eq_some_iff.1 q2
     have:=(List.getElem_inj hnd).1 (q1.trans q2.symm)
     subst this
     rw [h2] at hm2
     exact Option.some.inj hm2
   subst hee
   have hleft:(leftOf (es.eraseIdxIfInBounds j) (seen.push e'.born)).toList=(leftOf es (seen.push e'.born)).toList:=by
     rw [Zac,Zac,g3]
     exact Zim _ _ _ _ h2 (by rw [contains_push,beq_self_eq_true,Bool.or_true];rfl)
   exact ⟨es,c,_,hb,h1,hk _ _ ⟨_,c,since,_,c,Zgs hl1,g2,rfl,g1,by rw [Array.getElem?_setIfInBounds_ne hne];exact hi,fun x hx=>hold x ((by rw [g3] at hx;exact List.mem_of_mem_eraseIdx hx)),⟨hsc,hsc⟩,
     by rw [← Array.length_toList,hleft,Array.length_toList,hL],fun q=>by rw [hleft];exact hrem q⟩ ZeH (by simp)⟩
theorem Zdw.put {h:Zb} {mb it:Nat} {f:Int→Option Value} {n:Nat} {rem:Int→Prop} {L:Nat} {k:Int} (hr:Zdw h mb it f n rem L k) (v:Value) {K:Zb→Prop}
    (hk:∀ h',Zd6 h' mb it (upd f k (some v)) n rem L→Upd (· = mb) h h'→h'.size=h.size→K h'):Zax (.int .i64) h (some mb) (iv k) v K:=by
  obtain ⟨hl1,hl2,hne⟩:=hr.go.lt
  obtain ⟨es,c,since,seen,e,hb,hs,hn,he,hi,hold,hsc,hme,hek,hL,hrem⟩:=hr
  rcases he.find k with ⟨h1,h2⟩ | ⟨j,e',h1,h2,h3,h4⟩
  ·rw [he.val hme hek] at h2;cases h2
  ·obtain ⟨g1,g2⟩:=he.modify hs h2 h3 v
   have hj':es[j]?=some e':=by simpa using h2
   have hl:(es.modify j fun x=>{ x with key:=iv k,val:=v }).toList=es.toList.set j { e' with key:=iv k,val:=v }:=by
     apply List.ext_getElem?
     intro i
     rw [Array.getElem?_toList,Array.getElem?_modify,List.getElem?_set]
     have hjl:j<es.toList.length:=(List.getElem?_eq_some_iff.1 h2).1
     by_cases hij:j=i
     ·subst hij
      rw [if_pos rfl,if_pos rfl,if_pos hjl,hj']
      rfl
     ·rw [if_neg hij,if_neg hij,Array.getElem?_toList]
   have hee:e'.born=e.born:=by
     have hnd:=hs.2.2
     obtain ⟨m,hm2⟩:=List.getElem?_of_mem hme
     have q1:(es.toList.map (·.key))[j]?=some (iv k):=by rw [List.getElem?_map,h2];simp [h3]
     have q2:(es.toList.map (·.key))[m]?=some (iv k):=by rw [List.getElem?_map,hm2];simp [hek]
     obtain ⟨hil,q1⟩:=List.getElem?_eq_some_iff.1 q1
     obtain ⟨hjl,q2⟩:=List.getElem?_eq_some_iff.1 q2
     have:=(List.getElem_inj hnd).1 (q1.trans q2.symm)
     subst this
     rw [h2] at hm2
     rw [Option.some.inj hm2]
   have hfs:∀ (l:List MapEntry) (j:Nat) (x y:MapEntry),l[j]?=some x→(!(seen.push e.born).contains x.born)=false→(!(seen.push e.born).contains y.born)=false →
       (l.set j y).filter (fun z=> !(seen.push e.born).contains z.born)=l.filter (fun z=> !(seen.push e.born).contains z.born):=by
     intro l
     induction l with
     | nil=>intro j x y h;simp at h
     | cons z l ih =>
       intro j x y h hx hy
       cases j with
       | zero=>simp at h;subst h;simp only [List.set_cons_zero,List.filter_cons,hx,hy];simp
       | succ j=>simp only [List.set_cons_succ,List.filter_cons,ih j x y (by simpa using h) hx hy]
   have hcon:(!(seen.push e.born).contains e'.born)=false:=by rw [hee,contains_push,beq_self_eq_true,Bool.or_true];rfl
   have hleft:(leftOf (es.modify j fun x=>{ x with key:=iv k,val:=v }) (seen.push e.born)).toList=(leftOf es (seen.push e.born)).toList:=by
     rw [Zac,Zac,hl]
     exact hfs _ _ _ _ h2 hcon hcon
   refine ⟨mb,es,c,_,rfl,hb,he.key,h1,hk _ ⟨_,c,since,_,c,Zgs hl1,g2,by simp [hn],g1,by rw [Array.getElem?_setIfInBounds_ne hne];exact hi,fun x hx=>?_,⟨hsc,hsc⟩,
     by rw [← Array.length_toList,hleft,Array.length_toList,hL],fun q=>by rw [hleft];exact hrem q⟩ ZeH (by simp)⟩
   rw [hl] at hx
   rcases List.mem_or_eq_of_mem_set hx with hx | hx
   ·exact hold x hx
   ·subst hx
    exact hold e' (List.mem_of_getElem? h2)
end Go.Proofs.YtbppjmcinoffnaaGreat.Tk
namespace Go.Fw
open Go
def obj (h:Zb) (b:Nat):Option Obj:=h[b]?
def sz (h:Zb):Nat:=h.size
theorem ZE {h:Zb}:Array.size h=sz h:=rfl
theorem Xx {h:Zb} {x:Obj}:sz (h.push x)=sz h+1:=by unfold sz;simp
theorem Zkm {h:Zb} {b o:Nat} {v:Value}:sz (h.put b o v)=sz h:=by unfold sz;exact Zey
theorem ZtZ {h:Zb} {x:Obj} {b:Nat}:obj (h.push x) b=if b=sz h then some x else obj h b:=by
  unfold obj sz;rw [Array.getElem?_push]
def Zkw (o:Nat) (v:Value):Option Obj→Option Obj
  | some (.cells c e f)=>some (.cells (c.setIfInBounds o v) e f)
  | x=>x
theorem Zii {o:Nat} {v:Value} {l:List Value} {e:TypeId} {f:Nat × Nat}:Zkw o v (some (.cells l.toArray e f))=some (.cells (l.set o v).toArray e f):=by
  simp [Zkw]
theorem Zr0 {h:Zb} {b o k:Nat} {v:Value}:obj (h.put b o v) k=if k=b then Zkw o v (obj h k) else obj h k:=by
  unfold obj Zb.put
  rw [Array.getElem?_modify]
  by_cases hk:b=k
  ·subst hk
   rw [if_pos rfl,if_pos rfl]
   cases h[b]? with
   | none=>rfl
   | some x=>cases x<;>rfl
  ·rw [if_neg hk,if_neg (Ne.symm hk)]
def ZN (o:Nat):Option Obj→Option Value
  | some (.cells c _ _)=>c[o]?
  | _=>none
def Zfl (o:Nat):Option Obj→Bool
  | some (.cells c _ f)=>decide (o<c.size)&&(f.1 ==0&&f.2 ==0)
  | _=>false
theorem Zhe {o:Nat} {l:List Value} {e:TypeId} {f:Nat × Nat}:ZN o (some (.cells l.toArray e f))=l[o]?:=by simp [ZN]
theorem Zlw {o:Nat} {l:List Value} {e:TypeId}:Zfl o (some (.cells l.toArray e (0,0)))=decide (o<l.length):=by simp [Zfl]
theorem Yw {h:Zb} {b o:Nat}:h.cell b o=ZN o (obj h b):=by unfold Zb.cell obj ZN;rfl
theorem ZjA {h:Zb} {b o:Nat} (hf:Zfl o (obj h b)=true):(∃ u,h.cell b o=some u)∧h.froz b o=false:=by
  unfold Zfl at hf
  split at hf
  ·rename_i c e f hb
   simp only [Bool.and_eq_true,decide_eq_true_eq,beq_iff_eq] at hf
   obtain ⟨h1,h2,h3⟩:=hf
   have hb':h[b]?=some (.cells c e f):=hb
   refine ⟨⟨c[o],by unfold Zb.cell;rw [hb'];simp [h1]⟩,?_⟩
   unfold Zb.froz
   rw [hb']
   obtain ⟨lo,hi⟩:=f
   simp only at h2 h3
   subst h2 h3
   simp
  ·cases hf
theorem Y8 {n:Int} {K:Int→Prop}:Zc n K=K n:=propext ⟨fun h=>h,fun h=>h⟩
theorem YM {n:Bool} {K:Bool→Prop}:ZG n K=K n:=propext ⟨fun h=>h,fun h=>h⟩
theorem ZdD {h:Zb} {cells:List Value} {t:TypeId} {K:Nat→Zb→Prop}:newC h cells t K=K (sz h) (h.push (.cells cells.toArray t (0,0))):=propext ⟨fun h=>h,fun h=>h⟩
theorem ZmD {h:Zb} {K:Nat→Zb→Prop}:Zc7 h K=K (sz h) (h.push (.map #[] 0)):=propext ⟨fun h=>h,fun h=>h⟩
theorem ZhV {p K:Prop}:ZK p K=(p∧K):=propext ⟨fun h=>h,fun h=>h⟩
theorem ZlR {p K:Prop}:Zfb p K=(p∧K):=propext ⟨fun h=>h,fun h=>h⟩
theorem Zul {b o:Nat} {K:Nat→Nat→Prop}:Zd (some ⟨b,o,none⟩) K=K b o:=propext ⟨fun ⟨b',o',e,h⟩=>(by cases e;exact h),fun h=>⟨b,o,rfl,h⟩⟩
theorem Zob {A B:Prop}:Zw true A B=A:=propext ⟨fun h=>h.1 rfl,fun h=>ZJ h⟩
theorem Zoc {A B:Prop}:Zw false A B=B:=propext ⟨fun h=>h.2 rfl,fun h=>Zl h⟩
theorem Zzj {h:Zb} {b o:Nat} {k:IntKind} {n:Int} {K:Int→Prop} (hc:ZN o (obj h b)=some (.int k n)):ldI h b o k K=K n :=
  propext ⟨fun ⟨m,e,hk⟩=>(by rw [Yw,hc] at e;cases e;exact hk),fun hk=>⟨n,by rw [Yw,hc],hk⟩⟩
theorem Zzl {h:Zb} {b o:Nat} {n:Bool} {K:Bool→Prop} (hc:ZN o (obj h b)=some (.bool n)):ldB h b o K=K n :=
  propext ⟨fun ⟨m,e,hk⟩=>(by rw [Yw,hc] at e;cases e;exact hk),fun hk=>⟨n,by rw [Yw,hc],hk⟩⟩
theorem Zvj {h:Zb} {b o:Nat} {n:ByteArray} {K:ByteArray→Prop} (hc:ZN o (obj h b)=some (.string n)):ldS h b o K=K n :=
  propext ⟨fun ⟨m,e,hk⟩=>(by rw [Yw,hc] at e;cases e;exact hk),fun hk=>⟨n,by rw [Yw,hc],hk⟩⟩
theorem Zzg {h:Zb} {b o:Nat} {n:Option Addr} {K:Option Addr→Prop} (hc:ZN o (obj h b)=some (.pointer n)):ldP h b o K=K n :=
  propext ⟨fun ⟨m,e,hk⟩=>(by rw [Yw,hc] at e;cases e;exact hk),fun hk=>⟨n,by rw [Yw,hc],hk⟩⟩
theorem Zsg {h:Zb} {b o:Nat} {n:Option Nat} {K:Option Nat→Prop} (hc:ZN o (obj h b)=some (.map n)):ldM h b o K=K n :=
  propext ⟨fun ⟨m,e,hk⟩=>(by rw [Yw,hc] at e;cases e;exact hk),fun hk=>⟨n,by rw [Yw,hc],hk⟩⟩
theorem Zzd {h:Zb} {b o:Nat} {n:Value} {K:Value→Prop} (hc:ZN o (obj h b)=some n):ldV h b o K=K n :=
  propext ⟨fun ⟨m,e,hk⟩=>(by rw [Yw,hc] at e;cases e;exact hk),fun hk=>⟨n,by rw [Yw,hc],hk⟩⟩
theorem Zvk {h:Zb} {b o:Nat} {p:Option Addr} {l c:Nat} {K:Sl→Prop} (hc:ZN o (obj h b)=some (.slice p l c)):ldL h b o K=K ⟨p,l,c⟩ :=
  propext ⟨fun ⟨m,e,hk⟩=>(by rw [Yw,hc] at e;cases e;exact hk),fun hk=>⟨⟨p,l,c⟩,by rw [Yw,hc],hk⟩⟩
theorem ZEc {h:Zb} {b o:Nat} {v:Value} {K:Zb→Prop} (hf:Zfl o (obj h b)=true) (hv:Zv v=true):st h b o v K=K (h.put b o v) :=
  propext ⟨fun hk=>hk.2.2.2,fun hk=>⟨(ZjA hf).1,(ZjA hf).2,hv,hk⟩⟩
theorem Zo5 {h:Zb} {b:Nat}:∀ (n o:Nat),(∀ i,i<n→Zfl (o+i) (obj h b)=true)→h.free b o n
  | 0,_,_=>trivial
  | n+1,o,hf=>⟨ZjA (by have:=hf 0 (by omega);simpa using this),Zo5 n (o+1) fun i hi=>by have:=hf (i+1) (by omega);rw [show o+1+i=o+(i+1) from by omega];exact this⟩
def Zoi (o n:Nat):Option Obj→Bool
  | some (.cells c _ f)=>decide (o+n≤c.size)&&(f.1 ==0&&f.2 ==0)
  | _=>false
theorem ZgU {o n:Nat} {l:List Value} {e:TypeId}:Zoi o n (some (.cells l.toArray e (0,0)))=decide (o+n≤l.length):=by simp [Zoi]
theorem Zug {h:Zb} {b o n:Nat} (hf:Zoi o n (obj h b)=true):h.free b o n:=by
  refine Zo5 n o fun i hi=>?_
  unfold Zoi at hf
  split at hf
  ·rename_i c e f hb
   rw [hb]
   simp only [Bool.and_eq_true,decide_eq_true_eq] at hf
   simp only [Zfl,Bool.and_eq_true,decide_eq_true_eq]
   exact ⟨by omega,hf.2⟩
  ·cases hf
theorem Zi2 {h:Zb} {b o:Nat} {vs:List Value} {K:Zb→Prop} (hf:Zoi o vs.length (obj h b)=true) (hv:vs.all Zv=true):sts h b o vs K=K (h.puts b o vs) :=
  propext ⟨fun hk=>hk.2.2,fun hk=>⟨Zug hf,hv,hk⟩⟩
theorem Zc8 {h:Zb} {b o:Nat} {vs:List Value}:sz (h.puts b o vs)=sz h:=ZeZ
def ZgE:Nat→List Value→Option Obj→Option Obj
  | _,[],x=>x
  | o,v::vs,x=>ZgE (o+1) vs (Zkw o v x)
def ZeC:Nat→List Value→List Value→List Value
  | _,[],l=>l
  | o,v::vs,l=>ZeC (o+1) vs (l.set o v)
theorem Zeb {e:TypeId} {f:Nat × Nat}:∀ {vs:List Value} {o:Nat} {l:List Value},ZgE o vs (some (.cells l.toArray e f))=some (.cells (ZeC o vs l).toArray e f)
  | [],_,_=>rfl
  | v::vs,o,l=>by unfold ZgE ZeC;rw [Zii,Zeb]
theorem ZiK {b:Nat}:∀ {vs:List Value} {h:Zb} {o k:Nat},obj (h.puts b o vs) k=if k=b then ZgE o vs (obj h k) else obj h k
  | [],h,o,k=>by
    unfold Zb.puts ZgE
    split<;>rfl
  | v::vs,h,o,k=>by
    unfold Zb.puts
    rw [ZiK,Zr0]
    by_cases hk:k=b
    ·rw [if_pos hk,if_pos hk,if_pos hk];rfl
    ·rw [if_neg hk,if_neg hk,if_neg hk]
theorem Zdj {h:Zb}:Zk h []=True:=rfl
theorem Zbp {h:Zb} {b o:Nat} {v:Value} {r:List (Nat × Nat × Value)}:Zk h ((b,o,v)::r)=(ZN o (obj h b)=some v∧Zk h r):=by
  rw [← Yw];rfl
theorem Zvl {h:Zb} {b o:Nat} {k:IntKind} {K:Int→Prop}:ldI h b o k K=∃ n,ZN o (obj h b)=some (.int k n)∧K n:=by
  unfold ldI;exact propext ⟨fun ⟨n,e,hk⟩=>⟨n,Yw▸e,hk⟩,fun ⟨n,e,hk⟩=>⟨n,Yw.trans e,hk⟩⟩
theorem Zzk {h:Zb} {b o:Nat} {K:Bool→Prop}:ldB h b o K=∃ n,ZN o (obj h b)=some (.bool n)∧K n:=by
  unfold ldB;exact propext ⟨fun ⟨n,e,hk⟩=>⟨n,Yw▸e,hk⟩,fun ⟨n,e,hk⟩=>⟨n,Yw.trans e,hk⟩⟩
theorem Zze {h:Zb} {b o:Nat} {K:ByteArray→Prop}:ldS h b o K=∃ n,ZN o (obj h b)=some (.string n)∧K n:=by
  unfold ldS;exact propext ⟨fun ⟨n,e,hk⟩=>⟨n,Yw▸e,hk⟩,fun ⟨n,e,hk⟩=>⟨n,Yw.trans e,hk⟩⟩
theorem Zzf {h:Zb} {b o:Nat} {K:Option Addr→Prop}:ldP h b o K=∃ n,ZN o (obj h b)=some (.pointer n)∧K n:=by
  unfold ldP;exact propext ⟨fun ⟨n,e,hk⟩=>⟨n,Yw▸e,hk⟩,fun ⟨n,e,hk⟩=>⟨n,Yw.trans e,hk⟩⟩
theorem Zzh {h:Zb} {b o:Nat} {K:Option Nat→Prop}:ldM h b o K=∃ n,ZN o (obj h b)=some (.map n)∧K n:=by
  unfold ldM;exact propext ⟨fun ⟨n,e,hk⟩=>⟨n,Yw▸e,hk⟩,fun ⟨n,e,hk⟩=>⟨n,Yw.trans e,hk⟩⟩
theorem Zzc {h:Zb} {b o:Nat} {K:Value→Prop}:ldV h b o K=∃ n,ZN o (obj h b)=some n∧K n:=by
  unfold ldV;exact propext ⟨fun ⟨n,e,hk⟩=>⟨n,Yw▸e,hk⟩,fun ⟨n,e,hk⟩=>⟨n,Yw.trans e,hk⟩⟩
theorem Zzi {h:Zb} {b o:Nat} {K:Sl→Prop}:ldL h b o K=∃ s:Sl,ZN o (obj h b)=some (slV s)∧K s:=by
  unfold ldL;exact propext ⟨fun ⟨n,e,hk⟩=>⟨n,Yw▸e,hk⟩,fun ⟨n,e,hk⟩=>⟨n,Yw.trans e,hk⟩⟩
theorem ZyT {s t:Sl}:(slV s=slV t)=(s=t):=by
  refine propext ⟨fun h=>?_,fun h=>by rw [h]⟩
  cases s;cases t
  unfold slV at h
  injection h with h1 h2 h3
  subst h1 h2 h3
  rfl
theorem Zdi {σ:Type} {body:(σ→Zb→Prop)→σ→Zb→Prop} {s:σ} {h:Zb} (I:σ→Zb→Prop) (μ:σ→Zb→Nat)
    (h0:I s h) (hr:∀ s h,I s h→∀ Q:σ→Zb→Prop,(∀ s' h',I s' h'→μ s' h'<μ s h→Q s' h')→body Q s h):YH body s h:=⟨I,μ,h0,fun s h hs=>hr s h hs _ fun _ _ a b=>⟨a,b⟩⟩
theorem Zpc {σ:Type} {rest:σ→Zb→Prop} {pre:(σ→Zb→Prop)→Prop} (J:σ→Zb→Prop)
    (h1:∀ s h,J s h→rest s h) (h2:∀ Q:σ→Zb→Prop,(∀ s h,J s h→Q s h)→pre Q):ZgY rest pre:=⟨J,h1,h2 _ fun _ _ h=>h⟩
theorem ZrF {s:Sl}:Value.slice s.ptr s.len s.cap=slV s:=rfl
theorem Y4 {k:IntKind} {n:Int}:Zv (.int k n)=true:=by simp [Zv]
theorem ZdN {b:Bool}:Zv (.bool b)=true:=by simp [Zv]
theorem ZgB {b:ByteArray}:Zv (.string b)=true:=by simp [Zv]
theorem ZhT {b:Option Addr}:Zv (.pointer b)=true:=by simp [Zv]
theorem ZyY {b:Option Addr} {l c:Nat}:Zv (.slice b l c)=true:=by simp [Zv]
theorem ZgC {s:Sl}:Zv (slV s)=true:=by simp [Zv,slV]
theorem ZnZ {b:Option Nat}:Zv (.map b)=true:=by simp [Zv]
theorem Zhd {t:TypeId} {v:Value}:Zv (.iface t v)=true:=by simp [Zv]
theorem ZtX:Zv .nilIface=true:=by simp [Zv]
theorem Zy0 {f:Fn} {a b:Array Value}:Zv (.func f a b)=true:=by simp [Zv]
theorem ZgF {h:Zb} {b:Nat} (hb:b<sz h) (k:Nat):(b=sz h+k)=False:=eq_false (by omega)
theorem YG {h:Zb} {b:Nat} (hb:b<sz h):(b=sz h)=False:=eq_false (by omega)
theorem Zp0 {h:Zb} {b:Nat} (hb:b<sz h) (k:Nat):(sz h+k=b)=False:=eq_false (by omega)
theorem Zil {h:Zb} {b:Nat} (hb:b<sz h):(sz h=b)=False:=eq_false (by omega)
theorem Zc4 {h h':Zb} (e:Ext h h') {b:Nat} (hb:b<sz h):obj h' b=obj h b:=e.old b hb
theorem Zfg {S:Nat→Prop} {h h':Zb} (e:Upd S h h') {b:Nat} (hb:b<sz h) (hs:¬ S b):obj h' b=obj h b:=e.old b hb hs
theorem X0 {h h':Zb} (e:Ext h h'):sz h≤sz h':=e.size
theorem ZO {h h1:Zb} {x:Obj} (he:Ext h h1):Ext h (h1.push x):=he.trans (Ext.push _ _)
theorem ZsD {h h1:Zb} {b o:Nat} {v:Value} (he:Ext h h1) (hb:sz h≤b):Ext h (h1.put b o v) :=
  he.then (Upd.put _ _ _ _) fun k hk=>by subst hk;exact hb
theorem Z3 {h h1:Zb} {b o:Nat} {vs:List Value} (he:Ext h h1) (hb:sz h≤b):Ext h (h1.puts b o vs) :=
  he.then (Upd.puts _ _ _ _) fun k hk=>by subst hk;exact hb
theorem Zga {S:Nat→Prop} {h h1:Zb} {x:Obj} (he:Upd S h h1):Upd S h (h1.push x):=⟨Nat.le_trans he.size (by simp),fun k hk hs=>(Zfj (Nat.lt_of_lt_of_le hk he.size)).trans (he.old k hk hs)⟩
theorem Zrm {S:Nat→Prop} {h h1:Zb} {b o:Nat} {v:Value} (he:Upd S h h1) (hb:sz h≤b∨S b):Upd S h (h1.put b o v) :=
  ⟨by rw [Zey];exact he.size,fun k hk hs=>(Zdc fun e=>by subst e;exact hb.elim (fun h9=>by unfold sz at h9;omega) hs).trans (he.old k hk hs)⟩
theorem Zb4 {S:Nat→Prop} {h h1:Zb} {b o:Nat} {vs:List Value} (he:Upd S h h1) (hb:sz h≤b∨S b):Upd S h (h1.puts b o vs) :=
  ⟨by rw [ZeZ];exact he.size,fun k hk hs=>(Zb5 fun e=>by subst e;exact hb.elim (fun h9=>by unfold sz at h9;omega) hs).trans (he.old k hk hs)⟩
theorem ZT {h:Zb} {b:Nat} {x:Obj} (hb:obj h b=some x):b<sz h:=by
  unfold obj at hb
  rcases Nat.lt_or_ge b h.size with hl | hl
  ·exact hl
  ·rw [Array.getElem?_eq_none hl] at hb;cases hb
theorem Yf {h h':Zb} {b:Nat} {x:Obj} (hb:obj h b=some x) (e:Ext h h'):obj h' b=some x:=(Zc4 e (ZT hb)).trans hb
theorem XG {S:Nat→Prop} {h h':Zb} {b:Nat} {x:Obj} (hb:obj h b=some x) (e:Upd S h h') (hs:¬ S b):obj h' b=some x:=(Zfg e (ZT hb) hs).trans hb
theorem ZdA {h:Zb} {l:Nat} {o:Obj}:sz (setO h l o)=sz h:=by unfold sz setO;simp
theorem ZeA {h:Zb} {l k:Nat} {o:Obj} (hl:l<sz h):obj (setO h l o) k=if k=l then some o else obj h k:=by
  unfold obj setO
  by_cases hk:k=l
  ·subst hk
   rw [if_pos rfl,Array.getElem?_setIfInBounds_self_of_lt hl]
  ·rw [if_neg hk,Array.getElem?_setIfInBounds_ne (Ne.symm hk)]
theorem Zk8 {S:Nat→Prop} {h h1:Zb} {l:Nat} {o:Obj} (he:Upd S h h1) (hb:sz h≤l∨S l):Upd S h (setO h1 l o) :=
  ⟨by unfold setO;simp;exact he.size,fun k hk hs=>by
    unfold setO
    rw [Array.getElem?_setIfInBounds_ne (fun e=>by subst e;exact hb.elim (fun h9=>by unfold sz at h9;omega) hs)]
    exact he.old k hk hs⟩
theorem ZiP {h h1:Zb} {l:Nat} {o:Obj} (he:Ext h h1) (hb:sz h≤l):Ext h (setO h1 l o) :=
  (Zk8 (S:=fun _=>False) (he.upd _) (.inl hb)).ext fun _ _ h=>h
theorem Zup {r:Loop} {l:Nat} {h:Zb} {K:Zb→Prop}:Zuq r l h K=(obj h l=some (ZeI r .ready none)∧K (setO h l (ZeI r .busy none))):=propext ⟨fun h=>h,fun h=>h⟩
theorem ZtJ {D:Nat} {h:Zb} {K:Zb→Prop}:ZpC D h K=(obj h D=some (.deferred (some []))∧K (setO h D (.deferred none))):=propext ⟨fun h=>h,fun h=>h⟩
theorem ZrO {n:Nat} {it:Yld→Nat→(Zb→Prop)→Zb→Prop} {body:Nat→Loop→List Value→Zb→(Option Code→Zb→Prop)→Prop} {h:Zb} {K:Option Code→Nat→Zb→Prop} :
    ZrP n it body h K=∀ r:Loop,it (ZoI r (sz h+1) n (body (sz h+1) r)) (sz h+1)
     (fun h'=>∃ st p,st≠ .busy∧(obj h' (sz h+1)=some (ZeI r st p)∧K p (sz h) (setO h' (sz h+1) (ZeI r .exhausted p)))) ((h.push (.deferred (some []))).push (ZeI r .ready none)):=propext ⟨fun h=>h,fun h=>h⟩
theorem Zrc {r:Loop} {l n:Nat} {body:List Value→Zb→(Option Code→Zb→Prop)→Prop} {l':Nat} {vs:List Value} {k:Bool→Zb→Prop} {h:Zb} :
    ZoI r l n body l' vs k h=(l'=l∧vs.length=n∧(obj h l=some (ZeI r .ready none)∧body vs h fun p h'=>(obj h' l=some (ZeI r .busy none)∧k p.isNone (setO h' l (ZeI r (if p.isNone then .ready else .done) p))))):=propext ⟨fun h=>h,fun h=>h⟩
theorem Zsl {N:Prop} {X:Nat→Prop} {R:Prop}:Zua none N X R=N:=rfl
theorem Zs:(∀ {h:Zb} {cells:List Value} {t:TypeId} {K:Nat→Zb→Prop},newC h cells t K=K (sz h) (h.push (.cells cells.toArray t (0,0)))) ∧
  (∀ {h:Zb} {K:Nat→Zb→Prop},Zc7 h K=K (sz h) (h.push (.map #[] 0))) ∧
  (∀ {n:Int} {K:Int→Prop},Zc n K=K n) ∧
  (∀ {n:Bool} {K:Bool→Prop},ZG n K=K n) ∧
  (∀ {p K:Prop},ZK p K=(p∧K)) ∧
  (∀ {p K:Prop},Zfb p K=(p∧K)) ∧
  (∀ {b o:Nat} {K:Nat→Nat→Prop},Zd (some ⟨b,o,none⟩) K=K b o) ∧
  (∀ {A B:Prop},Zw true A B=A) ∧
  (∀ {A B:Prop},Zw false A B=B) ∧
  (∀ {h:Zb} {b o:Nat} {k:IntKind} {K:Int→Prop},ldI h b o k K=∃ n,ZN o (obj h b)=some (.int k n)∧K n) ∧
  (∀ {h:Zb} {b o:Nat} {K:Bool→Prop},ldB h b o K=∃ n,ZN o (obj h b)=some (.bool n)∧K n) ∧
  (∀ {h:Zb} {b o:Nat} {K:ByteArray→Prop},ldS h b o K=∃ n,ZN o (obj h b)=some (.string n)∧K n) ∧
  (∀ {h:Zb} {b o:Nat} {K:Option Addr→Prop},ldP h b o K=∃ n,ZN o (obj h b)=some (.pointer n)∧K n) ∧
  (∀ {h:Zb} {b o:Nat} {K:Option Nat→Prop},ldM h b o K=∃ n,ZN o (obj h b)=some (.map n)∧K n) ∧
  (∀ {h:Zb} {b o:Nat} {K:Value→Prop},ldV h b o K=∃ n,ZN o (obj h b)=some n∧K n) ∧
  (∀ {h:Zb} {b o:Nat} {K:Sl→Prop},ldL h b o K=∃ s:Sl,ZN o (obj h b)=some (slV s)∧K s) ∧
  (∀ {h:Zb} {b o:Nat} {v:Value} {K:Zb→Prop} (hf:Zfl o (obj h b)=true) (hv:Zv v=true),st h b o v K=K (h.put b o v)) ∧
  (∀ {h:Zb} {b o:Nat} {vs:List Value} {K:Zb→Prop} (hf:Zoi o vs.length (obj h b)=true) (hv:vs.all Zv=true),sts h b o vs K=K (h.puts b o vs)) ∧
  (∀ {h:Zb} {x:Obj},sz (h.push x)=sz h+1) ∧
  (∀ {h:Zb} {b o:Nat} {v:Value},sz (h.put b o v)=sz h) ∧
  (∀ {h:Zb} {b o:Nat} {vs:List Value},sz (h.puts b o vs)=sz h) ∧
  (∀ {h:Zb} {x:Obj} {b:Nat},obj (h.push x) b=if b=sz h then some x else obj h b) ∧
  (∀ {h:Zb} {b o k:Nat} {v:Value},obj (h.put b o v) k=if k=b then Zkw o v (obj h k) else obj h k) ∧
  (∀ {b:Nat} {vs:List Value} {h:Zb} {o k:Nat},obj (h.puts b o vs) k=if k=b then ZgE o vs (obj h k) else obj h k) ∧
  (∀ {o:Nat} {v:Value} {l:List Value} {e:TypeId} {f:Nat × Nat},Zkw o v (some (.cells l.toArray e f))=some (.cells (l.set o v).toArray e f)) ∧
  (∀ {e:TypeId} {f:Nat × Nat},(∀ {vs:List Value} {o:Nat} {l:List Value},ZgE o vs (some (.cells l.toArray e f))=some (.cells (ZeC o vs l).toArray e f))) ∧
  (∀ {o:Nat} {l:List Value} {e:TypeId} {f:Nat × Nat},ZN o (some (.cells l.toArray e f))=l[o]?) ∧
  (∀ {o:Nat} {l:List Value} {e:TypeId},Zfl o (some (.cells l.toArray e (0,0)))=decide (o<l.length)) ∧
  (∀ {o n:Nat} {l:List Value} {e:TypeId},Zoi o n (some (.cells l.toArray e (0,0)))=decide (o+n≤l.length)) ∧
  (∀ {h:Zb},Zk h []=True) ∧
  (∀ {h:Zb} {b o:Nat} {v:Value} {r:List (Nat × Nat × Value)},Zk h ((b,o,v)::r)=(ZN o (obj h b)=some v∧Zk h r)) ∧
  (∀ {h:Zb},Array.size h=sz h) ∧
  (∀ {s t:Sl},(slV s=slV t)=(s=t)) ∧
  (∀ {s:Sl},Value.slice s.ptr s.len s.cap=slV s) ∧
  (∀ {k:IntKind} {n:Int},Zv (.int k n)=true) ∧
  (∀ {b:Bool},Zv (.bool b)=true) ∧
  (∀ {b:ByteArray},Zv (.string b)=true) ∧
  (∀ {b:Option Addr},Zv (.pointer b)=true) ∧
  (∀ {b:Option Addr} {l c:Nat},Zv (.slice b l c)=true) ∧
  (∀ {s:Sl},Zv (slV s)=true) ∧
  (∀ {b:Option Nat},Zv (.map b)=true) ∧
  (∀ {t:TypeId} {v:Value},Zv (.iface t v)=true) ∧
  (Zv .nilIface=true) ∧
  (∀ {f:Fn} {a b:Array Value},Zv (.func f a b)=true) ∧
  (∀ (h:Zb),Ext h h) ∧
  (∀ {h h1:Zb} {x:Obj} (he:Ext h h1),Ext h (h1.push x)) ∧
  (∀ {h h1:Zb} {b o:Nat} {v:Value} (he:Ext h h1) (hb:sz h≤b),Ext h (h1.put b o v)) ∧
  (∀ {h h1:Zb} {b o:Nat} {vs:List Value} (he:Ext h h1) (hb:sz h≤b),Ext h (h1.puts b o vs)) ∧
  (∀ (p:Prop),(p∧p)=p) ∧
  (∀ (p:Prop),(True∧p)=p) ∧
  (∀ (p:Prop),(p∧True)=p) ∧
  (∀ (b:Bool),(b&&b)=b) ∧
  (∀ (b:Bool),(true&&b)=b) ∧
  (∀ (b:Bool),(b&&true)=b) ∧
  ((!true)=false) ∧
  ((!false)=true) ∧
  (∀ {p:Prop} [Decidable p],(decide p=true)=p) ∧
  (∀ (n:Nat),0+n=n) ∧
  (∀ (n:Nat),n+0=n) ∧
  (∀ (n m k:Nat),n+m+k=n+(m+k)) ∧
  (∀ {m k n:Nat},n+m=n+k↔m=k) ∧
  (∀ {a b:Nat},a+b=a↔b=0) ∧
  (∀ {a b:Nat},a=a+b↔b=0) ∧
  (∀ {m k n:Nat},n+m≤n+k↔m≤k) ∧
  (∀ (n k:Nat),n≤n+k) ∧
  (∀ (n:Nat),n≤n) ∧
  ((1:Nat)≠0) ∧
  (∀ {k n m:Nat},k+n<k+m↔n<m) ∧
  (∀ {n k:Nat},n<n+k↔0<k) :=
  ⟨@ZdD,@ZmD,@Y8,@YM,@ZhV,@ZlR,@Zul,@Zob,@Zoc,@Zvl,@Zzk,@Zze,@Zzf,@Zzh,@Zzc,@Zzi,@ZEc,@Zi2,@Xx,@Zkm,@Zc8,@ZtZ,@Zr0,@ZiK,@Zii,@Zeb,@Zhe,@Zlw,@ZgU,@Zdj,@Zbp,@ZE,@ZyT,@ZrF,@Y4,@ZdN,@ZgB,@ZhT,@ZyY,@ZgC,@ZnZ,@Zhd,@ZtX,@Zy0,@Ext.refl,@ZO,@ZsD,@Z3,@and_self,@true_and,@and_true,@Bool.and_self,@Bool.true_and,@Bool.and_true,Bool.not_true,Bool.not_false,@decide_eq_true_eq,@Nat.zero_add,@Nat.add_zero,@Nat.add_assoc,@Nat.add_left_cancel_iff,@Nat.add_eq_left,@Nat.left_eq_add,@Nat.add_le_add_iff_left,@Nat.le_add_right,@Nat.le_refl,Nat.one_ne_zero,@Nat.add_lt_add_iff_left,@Nat.lt_add_right_iff_pos⟩
theorem Zr:(∀ (b o:Nat) (s:Option Nat) (b' o':Nat) (s':Option Nat),(Addr.mk b o s=Addr.mk b' o' s')=(b=b'∧o=o'∧s=s')) ∧
  (∀ (k:IntKind) (n:Int) (k':IntKind) (n':Int),(Value.int k n=Value.int k' n')=(k=k'∧n=n')) ∧
  (∀ (b b':Bool),(Value.bool b=Value.bool b')=(b=b')) ∧
  (∀ (s s':ByteArray),(Value.string s=Value.string s')=(s=s')) ∧
  (∀ (a a':Option Addr),(Value.pointer a=Value.pointer a')=(a=a')) ∧
  (∀ (r r':Option Nat),(Value.map r=Value.map r')=(r=r')) ∧
  (∀ {α β:Type} (a:α) (f:α→β),Option.map f (some a)=some (f a)) ∧
  (∀ {α:Type} {a b:α},Option.getD (some a) b=a) ∧
  (∀ {α:Type} {a:α},Option.getD none a=a) ∧
  (∀ {α:Type} {a:α},Option.isSome (some a)=true) ∧
  (∀ {α:Type},Option.isSome (none:Option α)=false) ∧
  (∀ {α:Type} {a:α},Option.isNone (some a)=false) ∧
  (∀ {α:Type},Option.isNone (none:Option α)=true) ∧
  (∀ {α:Type} (a a':α),(some a=some a')=(a=a')) ∧
  (∀ {α:Type} {a:α} {l:List α} {f:α→Bool},List.all (a::l) f=(f a&&List.all l f)) ∧
  (∀ {α:Type} {f:α→Bool},List.all [] f=true) ∧
  (∀ {α:Type} {a:α} {l:List α},List.length (a::l)=List.length l+1) ∧
  (∀ {α:Type},List.length ([]:List α)=0) ∧
  (∀ {α:Type} {x:α} {xs:List α} {a:α},List.set (x::xs) 0 a=a::xs) ∧
  (∀ {α:Type} {x:α} {xs:List α} {i:Nat} {a:α},List.set (x::xs) (i+1) a=x::List.set xs i a) ∧
  (∀ {α:Type} {a:α} {l:List α},(a::l)[0]?=some a) ∧
  (∀ {α:Type} {a:α} {i:Nat} {l:List α},(a::l)[i+1]?=l[i]?) ∧
  (∀ {α:Type} {i:Nat},([]:List α)[i]?=none) ∧
  (∀ {α β:Type} (a:α) (b:β) (a':α) (b':β),((a,b)=(a',b'))=(a=a'∧b=b')) ∧
  (∀ {α:Type} {p:α→Prop} {a':α},(∃ a,a=a'∧p a)↔p a') ∧
  (∀ {α:Type} {p:α→Prop} {a':α},(∃ a,a'=a∧p a)↔p a') ∧
  (∀ (h:Decidable True),@decide True h=true) ∧
  (∀ (h:Decidable False),@decide False h=false) :=
  ⟨@Addr.mk.injEq,@Value.int.injEq,@Value.bool.injEq,@Value.string.injEq,@Value.pointer.injEq,@Value.map.injEq,@Option.map_some,@Option.getD_some,@Option.getD_none,@Option.isSome_some,@Option.isSome_none,@Option.isNone_some,@Option.isNone_none,@Option.some.injEq,@List.all_cons,@List.all_nil,@List.length_cons,@List.length_nil,@List.set_cons_zero,@List.set_cons_succ,@List.getElem?_cons_zero,@List.getElem?_cons_succ,@List.getElem?_nil,@Prod.mk.injEq,@exists_eq_left,@exists_eq_left',@decide_true,@decide_false⟩
theorem evC:(∀ {α:Type} {i:Decidable True} (t e:α),@ite α True i t e=t)∧(∀ {α:Type} {i:Decidable False} (t e:α),@ite α False i t e=e) ∧
    (∀ (o:Nat) (l:List Value),ZeC o [] l=l)∧(∀ (o:Nat) (v:Value) (vs l:List Value),ZeC o (v::vs) l=ZeC (o+1) vs (l.set o v))∧(∀ a:Nat,(a ==a)=true) :=
  ⟨fun _ _=>if_pos trivial,fun _ _=>if_neg id,fun _ _=>rfl,fun _ _ _ _=>rfl,fun a=>beq_self_eq_true a⟩
end Go.Fw
namespace Go.Proofs.YtbppjmcinoffnaaGreat.Tk
open Go Go.Fw
open Nat (reduceAdd reduceLT reduceLeDiff reduceEqDiff reduceMul)
abbrev C6:=Int × Int × Int × Int × Int × Int × Unit
def Zbn (a b:Int):Int:=IntKind.wrap .i64 (Zik a (IntKind.wrap .i64 (4611686018427387904 - b))+b)
theorem ZrS {a b:Int} {K:Int→Zb→Prop} {h:Zb}:Zec a b K h=K (Zbn a b) h:=propext ⟨fun h=>h,fun h=>h⟩
def ZyL (a b:C6):C6:=(Zbn a.1 b.1,Zbn a.2.1 b.2.1,Zbn a.2.2.1 b.2.2.1,Zbn a.2.2.2.1 b.2.2.2.1,Zbn a.2.2.2.2.1 b.2.2.2.2.1,
  (if a.2.2.1=0 then b.2.2.2.2.2.1 else if b.2.2.1=0 then a.2.2.2.2.2.1 else Zik a.2.2.2.2.2.1 b.2.2.2.2.2.1),())
def c6L (c:C6):List Value:=[iv c.1,iv c.2.1,iv c.2.2.1,iv c.2.2.2.1,iv c.2.2.2.2.1,iv c.2.2.2.2.2.1]
theorem ZmW {a b:Int} {A B:Prop} (h1:a=b→A) (h2:a≠b→B):Zw (a ==b) A B:=⟨fun h=>h1 (by simpa using h),fun h=>h2 (by simpa using h)⟩
theorem ZoL {a b:C6} {K:C6→Zb→Prop} {h:Zb} (hk:∀ h',Ext h h'→K (ZyL a b) h'):ZbL a b K h:=by
  unfold ZbL Zf1
  refine Zbq (fun t h'=>∃ q,t=(some ⟨q,0,none⟩,())∧Ext h h'∧sz h+3≤q∧q<sz h'∧obj h' (sz h)=some (.cells (c6L a).toArray 305 (0,0))∧obj h' (sz h+1)=some (.cells (c6L b).toArray 305 (0,0))∧obj h' (sz h+2)=some (.cells [iv 0,iv 0,iv 0,iv 0,iv 0,iv 0].toArray 305 (0,0)) ∧
      obj h' q=some (.cells [iv (Zbn a.1 b.1),iv (Zbn a.2.1 b.2.1),iv (Zbn a.2.2.1 b.2.2.1),iv (Zbn a.2.2.2.1 b.2.2.2.1),iv (Zbn a.2.2.2.2.1 b.2.2.2.2.1),iv 0].toArray 305 (0,0))) ?_ ?_
  ·rintro _ h' ⟨q,rfl,he,hq,hq2,h0,h1,h2,h3⟩
   dsimp only
   have n0:(sz h=q)=False:=eq_false (by omega)
   have n1:(sz h+1=q)=False:=eq_false (by omega)
   have n2:(sz h+2=q)=False:=eq_false (by omega)
   have n3:(q=sz h+2)=False:=eq_false (by omega)
   have sh:sz h≤q:=by omega
   have fin:∀ (r:C6) (h9:Zb),r=ZyL a b→Ext h h9→K r h9:=fun r h9 e1 e2=>by subst e1;exact hk h9 e2
   simp (maxDischargeDepth:=60) only [Zs,Zr,evC,reduceAdd,reduceLT,reduceLeDiff,reduceEqDiff,reduceMul,reduceCtorEq,h0,h1,h2,h3,c6L,n0,n1,n2,n3,sh,he,if_false]
   refine ZmW (fun q1=>?_) fun q1=>ZmW (fun q2=>?_) fun q2=>?_
   all_goals
     refine fin _ _ ?_ ?_
     ·simp [ZyL,q1];try simp [q2]
     ·simp +arith (maxDischargeDepth:=60) only [Z3,ZsD,he,sh]
  ·simp (maxDischargeDepth:=60) only [Zs,Zr,evC,reduceAdd,reduceLT,reduceLeDiff,reduceEqDiff,reduceMul,reduceCtorEq,ZrS,c6L]
theorem ZhW (a b:Int):Zik a b=min a b:=by unfold Zik;split<;>omega
theorem Zr6 (a b:Int):Zqk a b=max a b:=by unfold Zqk;split<;>omega
theorem Zfk {a b:Int} (ha:0≤a∧a≤4611686018427387904) (hb:0≤b∧b≤4611686018427387904):Zbn a b=min a (4611686018427387904 - b)+b:=by
  unfold Zbn
  rw [ZR (n:=4611686018427387904 - b) (by omega) (by omega),ZhW,ZR (by omega) (by omega)]
theorem Zje {a b:Int} (ha:0≤a∧a≤4611686018427387904) (hb:0≤b∧b≤4611686018427387904):0≤Zbn a b∧Zbn a b≤4611686018427387904:=by
  rw [Zfk ha hb];omega
theorem ZpS {a:Int} (ha:0≤a∧a≤4611686018427387904):Zbn a 0=a:=by
  rw [Zfk ha (by omega)];omega
def c6 (x:Int):C6:=(x,0,0,0,0,0,())
def c6V (x:Int):Value:= .agg (c6L (c6 x)).toArray
theorem Zu7 (a b:Int):ZyL (c6 a) (c6 b)=c6 (Zbn a b):=by
  have:Zbn 0 0=0:=by decide
  simp [ZyL,c6,this]
def bkt (t:Int):Int:=t / 100000
theorem ZtC {t:Int} (h0:0≤t) (h1:t≤1152921504606846976):IntKind.wrap .i64 (Int.tdiv t 100000)=bkt t:=by
  unfold bkt
  rw [Int.tdiv_eq_ediv_of_nonneg h0,ZR (by omega) (by omega)]
theorem Zou {t:Int} (h0:0≤t) (h1:t≤1152921504606846976):0≤bkt t∧bkt t≤11529215046069:=by unfold bkt;omega
theorem ZlS {s t:Int} (h:s≤t):bkt s≤bkt t:=by unfold bkt;omega
structure Win where
  last:Int
  p:Int→Int
structure Win.OK (w:Win):Prop where
  lo:0≤w.last
  hi:w.last≤1152921504606846976
  p:∀ i,0≤w.p i∧w.p i≤4611686018427387904
structure ZoB (h:Zb) (wb mb:Nat) (w:Win):Prop where
  ok:w.OK
  cells:obj h wb=some (.cells [iv 1000000,iv 10,iv w.last,.map (some mb)].toArray 214 (0,0))
  map:∃ f n,ZeU h mb f n∧(∀ i v,f i=some v→∃ x,v=c6V x∧0≤x∧x≤4611686018427387904)∧∀ i,bkt w.last - 10<i→f i=some (c6V (w.p i))∨(f i=none∧w.p i=0)
theorem ZoB.mlt {h:Zb} {wb mb:Nat} {w:Win} (hw:ZoB h wb mb w):mb<sz h:=by
  obtain ⟨f,n,hm,_⟩:=hw.map
  exact hm.lt
theorem ZoB.congr {h h':Zb} {wb mb:Nat} {w:Win} (hw:ZoB h wb mb w) (h1:obj h' wb=obj h wb) (h2:obj h' mb=obj h mb):ZoB h' wb mb w:=by
  obtain ⟨f,n,hm,r⟩:=hw.map
  exact ⟨hw.ok,h1.trans hw.cells,f,n,hm.congr h2,r⟩
def Xv (last at_:Int):Int:=if at_<0 then 2 else if at_>1152921504606846976 then 2 else if at_<last then 7 else 0
theorem ZeV {last at_:Int} (h:Xv last at_=0):0≤at_∧at_≤1152921504606846976∧last≤at_:=by
  unfold Xv at h
  split at h
  ·cases h
  ·split at h
   ·cases h
   ·split at h
    ·cases h
    ·omega
theorem Zkk {h:Zb} {wb mb:Nat} {w:Win} (hw:ZoB h wb mb w) {at_:Int} {K:Int→Zb→Prop} (hk:K (Xv w.last at_) h):YN (some ⟨wb,0,none⟩) at_ K h:=by
  unfold YN ZbP
  unfold Xv at hk
  simp (maxDischargeDepth:=60) only [Zs,Zr,evC,reduceAdd,reduceLT,reduceLeDiff,reduceEqDiff,reduceMul,reduceCtorEq,hw.cells]
  refine Zi (fun q=>?_) fun q=>Zi (fun q2=>?_) fun q2=>Zi (fun q3=>?_) fun q3=>?_
  ·rw [if_pos q] at hk;exact hk
  ·rw [if_neg q,if_pos q2] at hk;exact hk
  ·rw [if_neg q,if_neg q2,if_pos q3] at hk;exact hk
  ·rw [if_neg q,if_neg q2,if_neg q3] at hk;exact hk
theorem Zni {h:Zb} {wb:Nat} {r:List Value} (hc:obj h wb=some (.cells (iv 1000000::iv 10::r).toArray 214 (0,0))) {at_:Int} (h0:0≤at_) (h1:at_≤1152921504606846976) {K:Int→Zb→Prop} :
    Ys (some ⟨wb,0,none⟩) at_ K h=K (bkt at_) h:=by
  unfold Ys Zbs
  have e1:(IntKind.wrap .i64 (Int.tdiv 1000000 10))=100000:=by decide
  simp (maxDischargeDepth:=60) only [Zs,Zr,evC,reduceAdd,reduceLT,reduceLeDiff,reduceEqDiff,reduceMul,reduceCtorEq,hc,e1,ZtC h0 h1]
  simp
def loW (at_:Int):Int:=max 0 (bkt at_ - 9)
theorem Zdu {h:Zb} {w:Option Addr} {at_:Int} {K:(Option Addr × Option Addr × Unit)→Zb→Prop}:ZaC w at_ K h=K (some ⟨sz h,0,none⟩,some ⟨sz h+1,0,none⟩,()) ((h.push (.cells [.pointer w].toArray 180 (0,0))).push (.cells [iv at_].toArray 3 (0,0))):=by
  unfold ZaC Zdk
  simp (maxDischargeDepth:=60) only [Zs,Zr,evC,reduceAdd,reduceLT,reduceLeDiff,reduceEqDiff,reduceMul,reduceCtorEq]
theorem Zuv {Y:Yld} {y:Nat} {b1 b2 wb mb:Nat} {w:Win} {at_:Int} {h0:Zb} {T1 T2:TypeId} (hw:ZoB h0 wb mb w) (hb1:obj h0 b1=some (.cells [.pointer (some ⟨wb,0,none⟩)].toArray T1 (0,0)))
    (hb2:obj h0 b2=some (.cells [iv at_].toArray T2 (0,0))) (ha:Xv w.last at_=0) {S:Nat→Prop} (hS:∀ k,S k→k<sz h0) (s1:¬ S b1) (s2:¬ S b2) (s3:¬ S wb) (s4:¬ S mb)
    (J:Int→Zb→Prop) (hJe:∀ i h h',J i h→Ext h h'→J i h')
    (hN:∀ i h,J i h→w.p i=0→J (i+1) h)
    (hY:∀ i h (K:Bool→Zb→Prop),J i h→Upd S h0 h→(∀ h',J (i+1) h'→Upd S h h'→K true h')→Y y [.agg (iv (IntKind.wrap .i64 (i*100000))::c6L (c6 (w.p i))).toArray] K h)
    {K:Zb→Prop} (hJ:J (loW at_) h0) (hk:∀ h,J (bkt at_+1) h→Upd S h0 h→K h):X1 Y y (some ⟨b1,0,none⟩) (some ⟨b2,0,none⟩) K h0:=by
  obtain ⟨a0,a1,a2⟩:=ZeV ha
  have hbk:=Zou a0 a1
  have hbm:=ZlS a2
  unfold X1 Zcb
  have e1:(IntKind.wrap .i64 (Int.tdiv 1000000 10))=100000:=by decide
  have e2:Zqk 0 (IntKind.wrap .i64 ((IntKind.wrap .i64 (bkt at_ - 10))+1))=loW at_:=by
    rw [ZR (n:=bkt at_ - 10) (by omega) (by omega),ZR (by omega) (by omega),Zr6]
    unfold loW
    congr 1
    omega
  simp (maxDischargeDepth:=60) only [Zs,Zr,evC,reduceAdd,reduceLT,reduceLeDiff,reduceEqDiff,reduceMul,reduceCtorEq,hb1,hb2,hw.cells,Zni hw.cells a0 a1,e2]
  refine Yb (fun s h=>∃ i,s=(i,())∧loW at_≤i∧i≤bkt at_+1∧J i h∧Upd S h0 h) (fun s _=>(bkt at_+1 - s.1).toNat) ⟨_,rfl,Int.le_refl _,by unfold loW;omega,hJ,Upd.refl _ _⟩ ?_
  rintro _ h ⟨i,rfl,hi0,hi1,hJi,hu⟩
  dsimp only
  have hi2:bkt at_ - 9≤i∧0≤i:=by unfold loW at hi0;omega
  refine Zi (fun q=>?_) fun q=>hk h (by rw [show bkt at_+1=i from by omega];exact hJi) hu
  have l1:=ZT hb1
  have l3:=ZT hw.cells
  have c1:obj h b1=some (.cells [.pointer (some ⟨wb,0,none⟩)].toArray T1 (0,0)):=(Zfg hu l1 s1).trans hb1
  have c3:obj h wb=some (.cells [iv 1000000,iv 10,iv w.last,.map (some mb)].toArray 214 (0,0)):=(Zfg hu l3 s3).trans hw.cells
  have hsz:sz h0≤sz h:=hu.size
  have n1:b1<sz h:=by omega
  have n3:wb<sz h:=by omega
  have hwr:IntKind.wrap .i64 (i+1)=i+1:=ZR (by omega) (by omega)
  obtain ⟨f,n,hm,hfv,hfp⟩:=(hw.congr (h':=h) (Zfg hu l3 s3) (Zfg hu hw.mlt s4)).map
  simp (maxDischargeDepth:=60) only [Zs,Zr,evC,reduceAdd,reduceLT,reduceLeDiff,reduceEqDiff,reduceMul,reduceCtorEq,c1,c3]
  refine hm.get i ?_
  rcases hfp i (by omega) with hf | ⟨hf,hp⟩
  ·rw [hf]
   refine ⟨c6 (w.p i),rfl,?_⟩
   simp (maxDischargeDepth:=60) only [Zs,Zr,evC,reduceAdd,reduceLT,reduceLeDiff,reduceEqDiff,reduceMul,reduceCtorEq,c6,c1,c3,ZgF n1,YG n1,ZgF n3,YG n3,Zp0 n1,Zil n1,Zp0 n3,Zil n3,e1]
   refine ⟨by decide,hY i _ _ (hJe _ _ _ hJi ?_) ?_ fun h' hJ' hu'=>?_⟩
   ·simp (maxDischargeDepth:=60) only [Zs,Zr,evC,reduceAdd,reduceLT,reduceLeDiff,reduceEqDiff,reduceMul,reduceCtorEq]
   ·exact Zb4 (Zga hu) (.inl (by omega))
   ·have hsz':sz h+1≤sz h':=by have:=hu'.size;simp only [ZE,Xx,Zc8] at this;exact this
    have ns:∀ k,sz h0≤k→¬ S k:=fun k hk hs=>by have:=hS k hs;omega
    have g0:=Zfg hu' (b:=sz h) (by simp only [Xx,Zc8];omega) (ns _ hsz)
    have g1:=Zfg hu' (b:=b1) (by simp only [Xx,Zc8];omega) s1
    have g3:=Zfg hu' (b:=wb) (by simp only [Xx,Zc8];omega) s3
    simp (maxDischargeDepth:=60) only [Zs,Zr,evC,reduceAdd,reduceLT,reduceLeDiff,reduceEqDiff,reduceMul,reduceCtorEq,g0,g1,g3,c1,c3,ZgF n1,YG n1,ZgF n3,YG n3,c6,hwr]
    refine ⟨⟨by omega,by omega,hJ',?_⟩,by omega⟩
    ·refine (Upd.then (T:=S) (Zb4 (Zga hu) (.inl hsz)) hu' fun k hk hs=>hs)
  ·rw [hf]
   refine ⟨c6 0,rfl,?_⟩
   simp (maxDischargeDepth:=60) only [Zs,Zr,evC,reduceAdd,reduceLT,reduceLeDiff,reduceEqDiff,reduceMul,reduceCtorEq,c6,hwr]
   refine ⟨⟨by omega,by omega,hN i _ (hJe _ _ _ hJi ?_) hp,?_⟩,by omega⟩
   ·simp (maxDischargeDepth:=60) only [Zs,Zr,evC,reduceAdd,reduceLT,reduceLeDiff,reduceEqDiff,reduceMul,reduceCtorEq]
   ·exact Zb4 (Zga hu) (.inl (by omega))
def Zvb (p:Int→Int):Nat→Int→Int→Int
  | 0,_,acc=>acc
  | n+1,i,acc=>Zvb p n (i+1) (Zbn acc (p i))
def ZfJ (p:Int→Int) (lo i:Int):Int:=Zvb p (i - lo).toNat lo 0
theorem Zmr (p:Int→Int):∀ (n:Nat) (i acc:Int),Zvb p (n+1) i acc=Zbn (Zvb p n i acc) (p (i+n))
  | 0,i,acc=>by simp [Zvb]
  | n+1,i,acc=>by
    have:=Zmr p n (i+1) (Zbn acc (p i))
    show Zvb p (n+1) (i+1) (Zbn acc (p i))=_
    rw [this]
    show Zbn _ _=Zbn (Zvb p n (i+1) (Zbn acc (p i))) _
    congr 2
    omega
theorem ZeW (p:Int→Int) {lo i:Int} (h:lo≤i):ZfJ p lo (i+1)=Zbn (ZfJ p lo i) (p i):=by
  unfold ZfJ
  rw [show (i+1 - lo).toNat=(i - lo).toNat+1 from by omega,Zmr]
  congr 2
  omega
theorem ZiB (p:Int→Int) (lo:Int):ZfJ p lo lo=0:=by unfold ZfJ;simp [Zvb]
theorem Zry {p:Int→Int} (hp:∀ i,0≤p i∧p i≤4611686018427387904) (lo:Int) (n:Nat):0≤ZfJ p lo (lo+n)∧ZfJ p lo (lo+n)≤4611686018427387904:=by
  induction n with
  | zero=>rw [show lo+((0:Nat):Int)=lo from by omega,ZiB];omega
  | succ n ih =>
    rw [show lo+((n+1:Nat):Int)=lo+n+1 from by omega,ZeW p (by omega)]
    exact Zje ih (hp _)
def Win.sum (w:Win) (at_:Int):Int:=ZfJ w.p (loW at_) (bkt at_+1)
theorem Zpz {p:Int→Int} (hp:∀ i,0≤p i∧p i≤4611686018427387904) {lo i:Int} (h:lo≤i):0≤ZfJ p lo i∧ZfJ p lo i≤4611686018427387904:=by
  have:=Zry hp lo (i - lo).toNat
  rwa [show lo+((i - lo).toNat:Int)=i from by omega] at this
theorem ZuC {h:Zb} {wb mb:Nat} {w:Win} (hw:ZoB h wb mb w) {at_:Int} {K:C6→Int→Zb→Prop}
    (hk:∀ h',Ext h h'→K (c6 (if Xv w.last at_=0 then w.sum at_ else 0)) (Xv w.last at_) h'):Zai (some ⟨wb,0,none⟩) at_ K h:=by
  unfold Zai ZcM
  have l3:=ZT hw.cells
  have l4:=hw.mlt
  simp (maxDischargeDepth:=60) only [Zs,Zr,evC,reduceAdd,reduceLT,reduceLeDiff,reduceEqDiff,reduceMul,reduceCtorEq]
  refine Zkk (hw.congr (by simp (maxDischargeDepth:=60) only [Zs,Zr,evC,reduceAdd,reduceLT,reduceLeDiff,reduceEqDiff,reduceMul,reduceCtorEq,YG l3]) (by simp (maxDischargeDepth:=60) only [Zs,Zr,evC,reduceAdd,reduceLT,reduceLeDiff,reduceEqDiff,reduceMul,reduceCtorEq,YG l4])) ?_
  rcases Decidable.em (Xv w.last at_=0) with he | he
  ·rw [if_pos he] at hk
   rw [he] at hk ⊢
   obtain ⟨a0,a1,a2⟩:=ZeV he
   have hbk:=Zou a0 a1
   simp (maxDischargeDepth:=60) only [Zs,Zr,evC,reduceAdd,reduceLT,reduceLeDiff,reduceEqDiff,reduceMul,reduceCtorEq,bne_self_eq_false,Zdu,ZrO]
   intro r
   have hlo:loW at_≤bkt at_+1:=by unfold loW;omega
   have n3:=ZgF l3
   have n30:=YG l3
   have n4:=ZgF l4
   have n40:=YG l4
   refine Zuv (w:=w) (at_:=at_) (wb:=wb) (mb:=mb) (hw.congr ?_ ?_) ?_ ?_ he (S:=fun k=>k=sz h+1∨k=sz h+5) ?_ ?_ ?_ ?_ ?_
     (fun i hh=>obj hh (sz h+5)=some (ZeI r .ready none)∧obj hh (sz h+4)=some (.deferred (some []))∧obj hh (sz h+1)=some (.cells (c6L (c6 (ZfJ w.p (loW at_) i))).toArray 305 (0,0)) ∧
       obj hh (sz h)=some (.cells [iv 0,iv 0,iv 0,iv 0,iv 0,iv 0].toArray 305 (0,0))∧Ext h hh∧loW at_≤i) (T1:=180) (T2:=3) ?_ ?_ ?_ ?_ ?_
   ·simp (maxDischargeDepth:=60) only [Zs,Zr,evC,reduceAdd,reduceLT,reduceLeDiff,reduceEqDiff,reduceMul,reduceCtorEq,n3,n30]
   ·simp (maxDischargeDepth:=60) only [Zs,Zr,evC,reduceAdd,reduceLT,reduceLeDiff,reduceEqDiff,reduceMul,reduceCtorEq,n4,n40]
   ·simp (maxDischargeDepth:=60) only [Zs,Zr,evC,reduceAdd,reduceLT,reduceLeDiff,reduceEqDiff,reduceMul,reduceCtorEq]
   ·simp (maxDischargeDepth:=60) only [Zs,Zr,evC,reduceAdd,reduceLT,reduceLeDiff,reduceEqDiff,reduceMul,reduceCtorEq]
   ·intro k hk9
    simp (maxDischargeDepth:=60) only [Zs,Zr,evC,reduceAdd,reduceLT,reduceLeDiff,reduceEqDiff,reduceMul,reduceCtorEq]
    omega
   ·omega
   ·omega
   ·omega
   ·omega
   ·rintro i hh h' ⟨j1,j2,j3,j4,j5,j6⟩ e
    exact ⟨Yf j1 e,Yf j2 e,Yf j3 e,Yf j4 e,j5.trans e,j6⟩
   ·rintro i hh ⟨j1,j2,j3,j4,j5,j6⟩ hp
    rw [ZeW _ j6,hp,ZpS (Zpz hw.ok.p j6)]
    exact ⟨j1,j2,j3,j4,j5,by omega⟩
   ·rintro i hh K9 ⟨j1,j2,j3,j4,j5,j6⟩ hu hK9
    rw [Zrc]
    refine ⟨rfl,rfl,j1,⟨((IntKind.wrap .i64 (i*100000),w.p i,0,0,0,0,0,()),()),rfl,?_⟩⟩
    have g1:=ZT j1
    have g2:=ZT j2
    have g3:=ZT j3
    have g4:=ZT j4
    have g5:sz h+5<sz hh+1:=by omega
    have nn:∀ k,k≤5→(sz h+k=sz hh)=False∧(sz hh=sz h+k)=False:=fun k hk=>⟨eq_false (by omega),eq_false (by omega)⟩
    have m1:=nn 1 (by omega)
    have m5:=nn 5 (by omega)
    simp (maxDischargeDepth:=60) only [Zs,Zr,evC,reduceAdd,reduceLT,reduceLeDiff,reduceEqDiff,reduceMul,reduceCtorEq,Zup,ZeA,ZdA,j1,j3,m1.1,m1.2,m5.1,m5.2,c6L,c6,g5]
    refine ZoL (a:=c6 (ZfJ w.p (loW at_) i)) (b:=c6 (w.p i)) fun h' e'=>?_
    have z':=X0 e'
    simp (maxDischargeDepth:=60) only [Zs,Zr,evC,reduceAdd,reduceLT,reduceLeDiff,reduceEqDiff,reduceMul,reduceCtorEq,ZdA] at z'
    have g6:sz h+5<sz h':=by omega
    have o1:=Zc4 e' (b:=sz h+1) (by simp (maxDischargeDepth:=60) only [Zs,Zr,evC,reduceAdd,reduceLT,reduceLeDiff,reduceEqDiff,reduceMul,reduceCtorEq,ZdA];omega)
    have o5:=Zc4 e' (b:=sz h+5) (by simp (maxDischargeDepth:=60) only [Zs,Zr,evC,reduceAdd,reduceLT,reduceLeDiff,reduceEqDiff,reduceMul,reduceCtorEq,ZdA];omega)
    have o4:=Zc4 e' (b:=sz h+4) (by simp (maxDischargeDepth:=60) only [Zs,Zr,evC,reduceAdd,reduceLT,reduceLeDiff,reduceEqDiff,reduceMul,reduceCtorEq,ZdA];omega)
    have o0:=Zc4 e' (b:=sz h) (by simp (maxDischargeDepth:=60) only [Zs,Zr,evC,reduceAdd,reduceLT,reduceLeDiff,reduceEqDiff,reduceMul,reduceCtorEq,ZdA];omega)
    have m4:=nn 4 (by omega)
    have m0:(sz h=sz hh)=False:=eq_false (by omega)
    simp (maxDischargeDepth:=60) only [Zs,Zr,evC,reduceAdd,reduceLT,reduceLeDiff,reduceEqDiff,reduceMul,reduceCtorEq,ZeA,ZdA,j1,j2,j3,j4,m0,m1.1,m4.1,m5.1,m1.2,m4.2,m5.2,g5] at o1 o5 o4 o0
    rw [Zu7,← ZeW _ j6]
    simp (maxDischargeDepth:=60) only [Zs,Zr,evC,reduceAdd,reduceLT,reduceLeDiff,reduceEqDiff,reduceMul,reduceCtorEq,ZeA,ZdA,o1,o5,g6,c6L,c6]
    refine hK9 _ ⟨?_,?_,?_,?_,?_,by omega⟩ ?_
    ·simp (maxDischargeDepth:=60) only [Zs,Zr,evC,reduceAdd,reduceLT,reduceLeDiff,reduceEqDiff,reduceMul,reduceCtorEq,ZeA,ZdA,g6]
    ·simp (maxDischargeDepth:=60) only [Zs,Zr,evC,reduceAdd,reduceLT,reduceLeDiff,reduceEqDiff,reduceMul,reduceCtorEq,ZeA,ZdA,g6,o4]
    ·simp (maxDischargeDepth:=60) only [Zs,Zr,evC,reduceAdd,reduceLT,reduceLeDiff,reduceEqDiff,reduceMul,reduceCtorEq,ZeA,ZdA,g6,o1,c6L,c6]
    ·simp (maxDischargeDepth:=60) only [Zs,Zr,evC,reduceAdd,reduceLT,reduceLeDiff,reduceEqDiff,reduceMul,reduceCtorEq,ZeA,ZdA,g6,o0]
    ·exact ZiP (Z3 ((ZiP (Z3 (ZO j5) (by omega)) (by omega)).trans e') (by omega)) (by omega)
    ·exact Zk8 (Zb4 ((Zk8 (Zb4 (Zga (Upd.refl _ _)) (.inl (by omega))) (.inr (.inr rfl))).trans (e'.upd _)) (.inr (.inl rfl))) (.inr (.inr rfl))
   ·simp (maxDischargeDepth:=60) only [Zs,Zr,evC,reduceAdd,reduceLT,reduceLeDiff,reduceEqDiff,reduceMul,reduceCtorEq,ZiB,c6L,c6,Int.le_refl]
   ·rintro hh ⟨j1,j2,j3,j4,j5,j6⟩ hu
    refine ⟨.ready,none,by decide,j1,?_⟩
    have g1:=ZT j1
    have g2:=ZT j2
    rw [Zsl]
    simp (maxDischargeDepth:=60) only [Zs,Zr,evC,reduceAdd,reduceLT,reduceLeDiff,reduceEqDiff,reduceMul,reduceCtorEq,ZeA,ZdA,ZtJ,j1,j2,j3,j4,g1,g2,c6L,c6]
    exact hk _ (ZiP (Z3 (ZiP j5 (by omega)) (by omega)) (by omega))
  ·have:(Xv w.last at_ !=0)=true:=by simpa using he
   rw [this]
   rw [if_neg he] at hk
   simp (maxDischargeDepth:=60) only [Zs,Zr,evC,reduceAdd,reduceLT,reduceLeDiff,reduceEqDiff,reduceMul,reduceCtorEq]
   exact hk _ (by simp (maxDischargeDepth:=60) only [Zs,Zr,evC,reduceAdd,reduceLT,reduceLeDiff,reduceEqDiff,reduceMul,reduceCtorEq])
theorem ZoT {h:Zb} {s:Sl} {size:Nat} {vs:List Value} (hr:Row h s size vs) {i:Nat} (hi:i<s.len):∃ b o,(∀ {K:Nat→Nat→Prop} {n:Int},n=(i:Int)→K b o→Zau s.ptr s.len n size K)∧∀ j v,j<size→vs[i*size+j]?=some v→ZN (o+j) (obj h b)=some v:=by
  rcases hr.at_ with h0 | ⟨b,o,hp,hh⟩
  ·omega
  ·refine ⟨b,o+i*size,fun {K n} hn hk=>?_,fun j v hj hv=>?_⟩
   ·subst hn
    exact ⟨b,o,hp,by omega,by omega,by simpa using hk⟩
   ·have:=Zh3 hh hv
    rw [Yw,← Nat.add_assoc] at this
    exact this
theorem Zkt {x:Int} (hx:0≤x∧x≤4611686018427387904) {K:Bool→Zb→Prop} {h:Zb} (hk:∀ h',Ext h h'→K true h'):ZaJ (c6 x) K h:=by
  unfold ZaJ ZeK
  simp (maxDischargeDepth:=60) only [Zs,Zr,evC,reduceAdd,reduceLT,reduceLeDiff,reduceEqDiff,reduceMul,reduceCtorEq,c6]
  refine Yb (fun s hh=>∃ i:Int,s=(i,())∧0≤i∧i≤6∧hh=((h.push (.cells [iv x,iv 0,iv 0,iv 0,iv 0,iv 0].toArray 305 (0,0))).push (.cells [iv x,iv 0,iv 0,iv 0,iv 0,iv 0].toArray 3 (0,0)))) (fun s _=>(6 - s.1).toNat) ⟨0,rfl,by omega,by omega,rfl⟩ ?_
  rintro _ _ ⟨i,rfl,hi0,hi,rfl⟩
  dsimp only
  refine Zi (fun q=>?_) fun q=>?_
  ·refine ⟨_,_,rfl,by omega,by omega,?_⟩
   have hwr:IntKind.wrap .i64 (i+1)=i+1:=ZR (by omega) (by omega)
   have h6:i=0∨i=1∨i=2∨i=3∨i=4∨i=5:=by omega
   have d1:decide (x<0)=false:=by simp;omega
   have d2:decide (x>4611686018427387904)=false:=by simp;omega
   have d3:decide ((0:Int)<0)=false:=by decide
   have d4:decide ((0:Int)>4611686018427387904)=false:=by decide
   rcases h6 with rfl | rfl | rfl | rfl | rfl | rfl<;>simp (maxDischargeDepth:=60) only [Zs,Zr,evC,reduceAdd,reduceLT,reduceLeDiff,reduceEqDiff,reduceMul,reduceCtorEq,Nat.mul_one,d1,d2,d3,d4,hwr,Int.toNat_zero,Int.reduceToNat]<;>exact ⟨⟨by omega,by omega⟩,by omega⟩
  ·simp (maxDischargeDepth:=60) only [Zs,Zr,evC,reduceAdd,reduceLT,reduceLeDiff,reduceEqDiff,reduceMul,reduceCtorEq]
   simp [Zob,Zoc]
   exact hk _ (ZO (ZO (Ext.refl _)))
theorem ZtS {a:Int} (ha:0≤a∧a≤4611686018427387904):Zbn 0 a=a:=by
  rw [Zfk (by omega) ha];omega
theorem Zta {h:Zb} {s:Sl} {a b:Int} (hr:Row h s 6 (c6L (c6 a)++c6L (c6 b))) (ha:0≤a∧a≤4611686018427387904) (hb:0≤b∧b≤4611686018427387904) {K:C6→Zb→Prop} (hk:∀ h',Ext h h'→K (c6 (Zbn a b)) h'):Zde s K h:=by
  have hl:s.len=2:=by have:=hr.len;simp [c6L] at this;omega
  unfold Zde Zfp
  simp (maxDischargeDepth:=60) only [Zs,Zr,evC,reduceAdd,reduceLT,reduceLeDiff,reduceEqDiff,reduceMul,reduceCtorEq]
  refine Yb (fun st hh=>∃ i:Nat,st=((i:Int),())∧i≤2∧Ext h hh∧obj hh (sz h)=some (.cells [iv 0,iv 0,iv 0,iv 0,iv 0,iv 0].toArray 305 (0,0))∧obj hh (sz h+1)=some (.cells (c6L (c6 (if i=0 then 0 else if i=1 then a else Zbn a b))).toArray 305 (0,0)))
    (fun s _=>(2 - s.1).toNat) ⟨0,rfl,by omega,by simp (maxDischargeDepth:=60) only [Zs,Zr,evC,reduceAdd,reduceLT,reduceLeDiff,reduceEqDiff,reduceMul,reduceCtorEq],by simp (maxDischargeDepth:=60) only [Zs,Zr,evC,reduceAdd,reduceLT,reduceLeDiff,reduceEqDiff,reduceMul,reduceCtorEq],by simp (maxDischargeDepth:=60) only [Zs,Zr,evC,reduceAdd,reduceLT,reduceLeDiff,reduceEqDiff,reduceMul,reduceCtorEq,c6,c6L]⟩ ?_
  rintro _ hh ⟨i,rfl,hi,he,o0,o1⟩
  dsimp only
  have g1:=ZT o1
  have g0:=ZT o0
  refine Zi (fun q=>?_) fun q=>?_
  ·have hi2:i<s.len:=by omega
   obtain ⟨bb,o,hidx,hcell⟩:=ZoT (hr.ext he) hi2
   refine hidx rfl ?_
   have hv:∀ j,j<6→ZN (o+j) (obj hh bb)=(c6L (c6 (if i=0 then a else b)))[j]?:=fun j hj=>by
     rcases (show i=0∨i=1 by omega) with rfl | rfl
     ·rw [if_pos rfl]
      obtain ⟨v,hv⟩:∃ v,(c6L (c6 a))[j]?=some v:=⟨_,List.getElem?_eq_getElem (by simpa [c6L] using hj)⟩
      rw [hv]
      exact hcell j v hj (by rw [Nat.zero_mul,Nat.zero_add,List.getElem?_append_left (by simpa [c6L] using hj)];exact hv)
     ·rw [if_neg (by omega)]
      obtain ⟨v,hv⟩:∃ v,(c6L (c6 b))[j]?=some v:=⟨_,List.getElem?_eq_getElem (by simpa [c6L] using hj)⟩
      rw [hv]
      exact hcell j v hj (by rw [Nat.one_mul,List.getElem?_append_right (by simp [c6L])];simpa [c6L] using hv)
   have v0:=hv 0 (by omega)
   have v1:=hv 1 (by omega)
   have v2:=hv 2 (by omega)
   have v3:=hv 3 (by omega)
   have v4:=hv 4 (by omega)
   have v5:=hv 5 (by omega)
   have hc:0≤(if i=0 then a else b)∧(if i=0 then a else b)≤4611686018427387904:=by split<;>assumption
   generalize hcc:(if i=0 then a else b)=cc at v0 v1 v2 v3 v4 v5 hc
   generalize hac:(if i=0 then (0:Int) else if i=1 then a else Zbn a b)=ac at o1
   simp only [c6L,c6,List.getElem?_cons_zero,List.getElem?_cons_succ,Nat.add_zero] at v0 v1 v2 v3 v4 v5
   have m1:(sz h+1=sz hh)=False:=eq_false (by omega)
   have m0:(sz h=sz hh)=False:=eq_false (by omega)
   simp (maxDischargeDepth:=60) only [Zs,Zr,evC,reduceAdd,reduceLT,reduceLeDiff,reduceEqDiff,reduceMul,reduceCtorEq,v0,v1,v2,v3,v4,v5]
   refine Zkt hc fun h1 e1=>?_
   have z1:=X0 e1
   simp (maxDischargeDepth:=60) only [Zs,Zr,evC,reduceAdd,reduceLT,reduceLeDiff,reduceEqDiff,reduceMul,reduceCtorEq] at z1
   have p0:=Zc4 e1 (b:=sz hh) (by simp (maxDischargeDepth:=60) only [Zs,Zr,evC,reduceAdd,reduceLT,reduceLeDiff,reduceEqDiff,reduceMul,reduceCtorEq]<;>omega)
   have p1:=Zc4 e1 (b:=sz h+1) (by simp (maxDischargeDepth:=60) only [Zs,Zr,evC,reduceAdd,reduceLT,reduceLeDiff,reduceEqDiff,reduceMul,reduceCtorEq]<;>omega)
   have p2:=Zc4 e1 (b:=sz h) (by simp (maxDischargeDepth:=60) only [Zs,Zr,evC,reduceAdd,reduceLT,reduceLeDiff,reduceEqDiff,reduceMul,reduceCtorEq]<;>omega)
   simp (maxDischargeDepth:=60) only [Zs,Zr,evC,reduceAdd,reduceLT,reduceLeDiff,reduceEqDiff,reduceMul,reduceCtorEq,m1,m0,o1,o0] at p0 p1 p2
   simp (maxDischargeDepth:=60) only [Zs,Zr,evC,reduceAdd,reduceLT,reduceLeDiff,reduceEqDiff,reduceMul,reduceCtorEq,p0,p1,c6L,c6]
   refine ZoL (a:=c6 ac) (b:=c6 cc) fun h2 e2=>?_
   have z2:=X0 e2
   have q1:=Yf p1 e2
   have q2:=Yf p2 e2
   rw [Zu7]
   have hwr:IntKind.wrap .i64 ((i:Int)+1)=((i+1:Nat):Int):=by rw [ZR (by omega) (by omega)];omega
   have n01:(sz h=sz h+1)=False:=eq_false (by omega)
   simp (maxDischargeDepth:=60) only [Zs,Zr,evC,reduceAdd,reduceLT,reduceLeDiff,reduceEqDiff,reduceMul,reduceCtorEq,q1,c6L,c6,hwr]
   refine ⟨⟨i+1,rfl,by omega,Z3 (((Z3 (ZO he) (by omega)).trans e1).trans e2) (by omega),?_,?_⟩,by omega⟩
   ·simp (maxDischargeDepth:=60) only [Zs,Zr,evC,reduceAdd,reduceLT,reduceLeDiff,reduceEqDiff,reduceMul,reduceCtorEq,q2,n01]
   ·have:Zbn ac cc=(if i+1=0 then (0:Int) else if i+1=1 then a else Zbn a b):=by
      rw [← hac,← hcc]
      rcases (show i=0∨i=1 by omega) with rfl | rfl
      ·simp [ZtS ha]
      ·simp
    rw [← this]
  ·have hi2:i=2:=by omega
   subst hi2
   simp (maxDischargeDepth:=60) only [Zs,Zr,evC,reduceAdd,reduceLT,reduceLeDiff,reduceEqDiff,reduceMul,reduceCtorEq,o0,o1,c6L,c6]
   exact hk _ (Z3 he (by omega))
def Zt5 (h:Zb) (mb it:Nat):Nat:=match h[it]?,h[mb]? with
  | some (.mapIter _ _ seen _),some (.map es _)=>(leftOf es seen).size
  | _,_=>0
theorem Zgf {h:Zb} {mb it:Nat} {f:Int→Option Value} {n:Nat} {rem:Int→Prop} {L:Nat} (hr:Zd6 h mb it f n rem L):Zt5 h mb it=L:=by
  obtain ⟨es,c,since,seen,c0,hb,hs,hn,he,hi,hold,hsc,hL,hrem⟩:=hr
  unfold Zt5
  rw [hi,hb]
  exact hL
def Win.add (w:Win) (at_ x:Int):Win:=⟨at_,fun i=>if i=bkt at_ then Zbn (w.p i) x else w.p i⟩
theorem Zn4 {h:Zb} {K:Option Addr→Int→Zb→Prop} (hk:∀ h',ZoB h' (sz h+1) (sz h) ⟨0,fun _=>0⟩→Ext h h'→sz h'=sz h+2→K (some ⟨sz h+1,0,none⟩) 0 h'):ZdS 1000000 10 K h:=by
  unfold ZdS Zf2
  have e1:((Int.tmod 1000000 10) !=0)=false:=by decide
  simp (maxDischargeDepth:=60) only [Y8,YM,ZhV,e1]
  refine Zl (Zl (Zl (Zl ⟨by decide,Zl ?_⟩)))
  refine ZeU.new fun h1 hm e1 z1=>?_
  simp (maxDischargeDepth:=60) only [Zs,Zr,evC,reduceAdd,reduceLT,reduceLeDiff,reduceEqDiff,reduceMul,reduceCtorEq]
  simp only [ZE] at hm z1
  rw [z1]
  refine hk _ ⟨⟨by decide,by decide,fun i=>⟨by simp,by simp⟩⟩,?_,?_⟩ (ZO e1) ?_
  ·simp (maxDischargeDepth:=60) only [Zs,Zr,evC,reduceAdd,reduceLT,reduceLeDiff,reduceEqDiff,reduceMul,reduceCtorEq,z1]
  ·exact ⟨_,_,hm.congr (Zfj hm.lt),(fun i v hv=>by cases hv),fun i _=> .inr ⟨rfl,rfl⟩⟩
  ·simp (maxDischargeDepth:=60) only [Zs,Zr,evC,reduceAdd,reduceLT,reduceLeDiff,reduceEqDiff,reduceMul,reduceCtorEq,z1]
theorem ZuH {h:Zb} {wb mb:Nat} {w:Win} (hw:ZoB h wb mb w) {at_ x:Int} (hx:0≤x∧x≤4611686018427387904) {s:Sl} (hs:Row h s 6 (c6L (c6 x))) (hsb:∀ b,s.blk=some b→b≠wb∧b≠mb) {K:Int→Zb→Prop}
    (hk:∀ h',ZoB h' wb mb (if Xv w.last at_=0 then w.add at_ x else w)→Upd (fun k=>k=wb∨k=mb) h h'→K (Xv w.last at_) h'):Zaj (some ⟨wb,0,none⟩) at_ s K h:=by
  have hl:s.len=1:=by have:=hs.len;simp [c6L] at this;omega
  have l3:=ZT hw.cells
  have l4:=hw.mlt
  have hne:wb≠mb:=fun e=>by
    obtain ⟨f,n,⟨es,c,hb,_⟩,_⟩:=hw.map
    have:=hw.cells
    rw [e] at this
    rw [show obj h mb=h[mb]? from rfl,hb] at this
    cases this
  unfold Zaj ZcN
  simp (maxDischargeDepth:=60) only [Zs,Zr,evC,reduceAdd,reduceLT,reduceLeDiff,reduceEqDiff,reduceMul,reduceCtorEq]
  refine Zkk hw ?_
  rcases Decidable.em (Xv w.last at_=0) with he | he
  case inr =>
    have:(Xv w.last at_ !=0)=true:=by simpa using he
    rw [this]
    rw [if_neg he] at hk
    exact ZJ (hk _ hw (Upd.refl _ _))
  rw [if_pos he] at hk
  rw [he] at hk ⊢
  obtain ⟨a0,a1,a2⟩:=ZeV he
  have hbk:=Zou a0 a1
  have hbm:=ZlS a2
  refine Zl ?_
  refine Yb (fun st hh=>∃ i:Nat,st=((i:Int),())∧i≤1∧Ext h hh) (fun s _=>(1 - s.1).toNat) ⟨0,rfl,by omega,Ext.refl _⟩ ?_
  rintro _ hh ⟨i,rfl,hi,hee⟩
  dsimp only
  have zz:=X0 hee
  refine Zi (fun q=>?_) fun q=>?_
  ·have hi0:i=0:=by omega
   subst hi0
   obtain ⟨bb,o,hidx,hcell⟩:=ZoT (i:=0) (hs.ext hee) (by omega)
   refine hidx rfl ?_
   have v0:=hcell 0 _ (by omega) (show (c6L (c6 x))[0]?=some (iv x) from rfl)
   have v1:=hcell 1 _ (by omega) (show (c6L (c6 x))[1]?=some (iv 0) from rfl)
   have v2:=hcell 2 _ (by omega) (show (c6L (c6 x))[2]?=some (iv 0) from rfl)
   have v3:=hcell 3 _ (by omega) (show (c6L (c6 x))[3]?=some (iv 0) from rfl)
   have v4:=hcell 4 _ (by omega) (show (c6L (c6 x))[4]?=some (iv 0) from rfl)
   have v5:=hcell 5 _ (by omega) (show (c6L (c6 x))[5]?=some (iv 0) from rfl)
   simp only [Nat.add_zero] at v0
   simp (maxDischargeDepth:=60) only [Zs,Zr,evC,reduceAdd,reduceLT,reduceLeDiff,reduceEqDiff,reduceMul,reduceCtorEq,v0,v1,v2,v3,v4,v5]
   refine Zkt hx fun h1 e1=>?_
   have hwr:IntKind.wrap .i64 (((0:Nat):Int)+1)=((1:Nat):Int):=by decide
   simp (maxDischargeDepth:=60) only [Zs,Zr,evC,reduceAdd,reduceLT,reduceLeDiff,reduceEqDiff,reduceMul,reduceCtorEq,hwr]
   exact ⟨⟨1,rfl,by omega,(Z3 (ZO hee) (by omega)).trans e1⟩,by decide⟩
  ·clear q
   have c3:=Yf hw.cells hee
   have n3:wb<sz hh:=by omega
   have n4:mb<sz hh:=by omega
   have hne':mb≠wb:=fun e=>hne e.symm
   have c3':obj (Zb.put hh wb 2 (iv at_)) wb=some (.cells [iv 1000000,iv 10,iv at_,.map (some mb)].toArray 214 (0,0)):=by
     simp (maxDischargeDepth:=60) only [Zs,Zr,evC,reduceAdd,reduceLT,reduceLeDiff,reduceEqDiff,reduceMul,reduceCtorEq,c3]
   have u1:Upd (fun k=>k=wb∨k=mb) h (Zb.put hh wb 2 (iv at_)):=Zrm (hee.upd _) (.inr (.inl rfl))
   have hm1:=(hw.congr (h':=hh) (Zc4 hee l3) (Zc4 hee l4)).map
   simp (maxDischargeDepth:=60) only [Zs,Zr,evC,reduceAdd,reduceLT,reduceLeDiff,reduceEqDiff,reduceMul,reduceCtorEq,c3,Zni c3' a0 a1]
   obtain ⟨f,n,hm,hfv,hfp⟩:=hm1
   have hm2:ZeU (Zb.put hh wb 2 (iv at_)) mb f n:=hm.congr (Zdc hne')
   have zz2:sz (Zb.put hh wb 2 (iv at_))=sz hh:=Zkm
   generalize Zb.put hh wb 2 (iv at_)=h2 at c3' u1 hm2 zz2 ⊢
   refine Zbq (fun _ h9=>∃ f' n',ZeU h9 mb f' n'∧(∀ i v,f' i=some v→∃ x,v=c6V x∧0≤x∧x≤4611686018427387904)∧(∀ i,bkt at_ - 10<i→f' i=some (c6V ((w.add at_ x).p i))∨(f' i=none∧(w.add at_ x).p i=0)) ∧
     obj h9 wb=some (.cells [iv 1000000,iv 10,iv at_,.map (some mb)].toArray 214 (0,0))∧Upd (fun k=>k=wb∨k=mb) h h9) ?_ ?_
   ·rintro _ h9 ⟨f',n',hm9,hfv9,hfp9,c9,u9⟩
    have l9:=ZT c9
    have g9:=hm9.lt
    simp (maxDischargeDepth:=60) only [Zs,Zr,evC,reduceAdd,reduceLT,reduceLeDiff,reduceEqDiff,reduceMul,reduceCtorEq,c9]
    refine hm9.range fun h10 hr10 e10 z10=>?_
    simp only [ZE] at hr10 z10 ⊢
    have okw:(w.add at_ x).OK:=⟨a0,a1,fun i=>by
      have:=hw.ok.p i
      unfold Win.add
      dsimp only
      split
      ·exact Zje this hx
      ·exact this⟩
    refine Yb (fun _ hh=>∃ f'' n'' rem L,Zd6 hh mb (sz h9) f'' n'' rem L∧(∀ i,bkt at_ - 10<i→f'' i=f' i)∧(∀ i v,f'' i=some v→f' i=some v)∧obj hh wb=some (.cells [iv 1000000,iv 10,iv at_,.map (some mb)].toArray 214 (0,0))∧Upd (fun k=>k=wb∨k=mb) h hh)
      (fun _ hh=>Zt5 hh mb (sz h9)) ⟨f',n',_,_,hr10,fun _ _=>rfl,fun _ _ hv=>hv,Yf c9 e10,u9.trans (e10.upd _)⟩ ?_
    rintro _ h11 ⟨f'',n'',rem,L,hr,hf1,hf2,c11,u11⟩
    have hsz9:sz h≤sz h9:=u9.size
    refine Zbq (fun s h12=>(s.1=true∧∃ k rem' L',Zdw h12 mb (sz h9) f'' n'' rem' L' k∧L'<L∧obj h12 wb=some (.cells [iv 1000000,iv 10,iv at_,.map (some mb)].toArray 214 (0,0))∧Upd (fun k=>k=wb∨k=mb) h h12)∨(s.1=false∧h12=h11)) ?_ ?_
    ·rintro ⟨b,_⟩ h12 (⟨hb,k,rem',L',hra,hL,c12,u12⟩ | ⟨hb,rfl⟩)
     ·simp only at hb
      subst hb
      refine ZJ (hra.ent fun v hv=>⟨k,rfl,?_⟩)
      obtain ⟨y,rfl,hy⟩:=hfv9 _ _ (hf2 _ _ hv)
      refine ⟨c6 y,rfl,?_⟩
      simp (maxDischargeDepth:=60) only [Zs,Zr,evC,reduceAdd,reduceLT,reduceLeDiff,reduceEqDiff,reduceMul,reduceCtorEq,c12]
      refine Zi (fun q=>?_) fun q=>?_
      ·refine hra.del fun h13 n13 hr13 u13 z13=>⟨⟨_,_,_,_,hr13,fun i hi=>?_,fun i v hv=>?_,XG c12 u13 hne,u12.trans (u13.mono fun k _ hk=> .inr hk)⟩,?_⟩
       ·rw [ZR (by omega) (by omega)] at q
        rw [Zic _ _ (by omega)]
        exact hf1 i hi
       ·unfold upd at hv
        split at hv
        ·cases hv
        ·exact hf2 i v hv
       ·rw [Zgf hr13,Zgf hr];exact hL
      ·exact ⟨⟨_,_,_,_,hra.go,hf1,hf2,u12⟩,by rw [Zgf hra.go,Zgf hr];exact hL⟩
     ·simp only at hb
      subst hb
      refine Zl ?_
      refine hk _ ⟨okw,c11,f'',n'',hr.map,fun i v hv=>hfv9 i v (hf2 i v hv),fun i hi=>?_⟩ u11
      rw [hf1 i hi]
      exact hfp9 i hi
    ·refine hr.next (fun _=>?_) fun k v h12 L' hk1 hv hra hL u12 z12=>?_
     ·exact .inr ⟨rfl,rfl⟩
     ·have hwi:wb≠sz h9:=by omega
      exact .inl ⟨rfl,k,_,L',hra,hL,XG c11 u12 hwi,⟨Nat.le_trans u11.size u12.size,fun j hj hn=>(u12.old j (Nat.lt_of_lt_of_le hj u11.size) (fun e=>by have:j<sz h:=hj;omega)).trans (u11.old j hj hn)⟩⟩
   ·have ck:ZN 3 (obj h2 wb)=some (.map (some mb)):=by rw [c3'];rfl
    have l2:=ZT c3'
    simp (maxDischargeDepth:=60) only [Zs,Zr,evC,reduceAdd,reduceLT,reduceLeDiff,reduceEqDiff,reduceMul,reduceCtorEq,c3']
    have hfk:(f (bkt at_)).getD (.agg #[iv 0,iv 0,iv 0,iv 0,iv 0,iv 0])=c6V (w.p (bkt at_)):=by
      rcases hfp (bkt at_) (by omega) with e | ⟨e,ep⟩
      ·rw [e];rfl
      ·rw [e,ep];rfl
    have hpk:=hw.ok.p (bkt at_)
    refine hm2.get (bkt at_) ⟨c6 (w.p (bkt at_)),hfk,?_⟩
    rw [← zz2]
    have ho:Own (h2.push (.cells [iv (c6 (w.p (bkt at_))).1,iv (c6 (w.p (bkt at_))).2.1,iv (c6 (w.p (bkt at_))).2.2.1,iv (c6 (w.p (bkt at_))).2.2.2.1,iv (c6 (w.p (bkt at_))).2.2.2.2.1,iv (c6 (w.p (bkt at_))).2.2.2.2.2.1].toArray 305 (0,0))) (sz h2) ⟨some ⟨sz h2,0,none⟩,1,1⟩ 6 (c6L (c6 (w.p (bkt at_)))) :=
      Own.newC (h:=h2) (cells:=c6L (c6 (w.p (bkt at_)))) (t:=305) (size:=6) (n:=1) rfl (by decide)
    have hs2:Row h2 s 6 (c6L (c6 x)):=(hs.congr fun b o hb _ hlb=>u1.old b hlb fun e=>by
      have:=hsb b (by simp [Sl.blk,hb])
      omega)
    refine (hs2.ext (Ext.push _ _)).rd (Own.app ho (by rw [hl];rfl) (by simp [c6L,c6,Y4]) rfl (by rw [hl];show (1+1)*48≤140737488355328;decide) (by rw [hl];show 1+1≤140737488355328;decide) (by rw [ZE,Xx];omega) fun t h4 ho4 hl4 hu4 hblk=>?_)
    have e4:Ext h2 h4:=(Ext.push h2 _).then hu4 fun k hk=>by
      simp [Sl.blk] at hk
      subst hk
      exact Nat.le_refl _
    refine Zta ho4.row hpk hx fun h5 e5=>?_
    have e25:=e4.trans e5
    have c5:=Yf c3' e25
    have u5:Upd (fun k=>k=wb∨k=mb) h h5:=u1.trans (e25.upd _)
    have hm5:ZeU h5 mb f n:=hm2.congr (Zc4 e25 hm2.lt)
    have pr:=Zje hpk hx
    have l5:=ZT c5
    have lm5:=hm5.lt
    generalize hpv:Zbn (w.p (bkt at_)) x=pv at pr ⊢
    have old:∀ i,bkt at_ - 10<i→i≠bkt at_→f i=some (c6V ((w.add at_ x).p i))∨(f i=none∧(w.add at_ x).p i=0):=fun i hi hne=>by
      have:(w.add at_ x).p i=w.p i:=if_neg hne
      rw [this]
      exact hfp i (by omega)
    have new:(w.add at_ x).p (bkt at_)=pv:=(if_pos rfl).trans hpv
    simp (maxDischargeDepth:=60) only [Zs,Zr,evC,reduceAdd,reduceLT,reduceLeDiff,reduceEqDiff,reduceMul,reduceCtorEq,c6,c6L,c5,ZgF l5,YG l5,Zp0 l5,Zil l5]
    have u6:Upd (fun k=>k=wb∨k=mb) h (Zb.puts (h5.push (.cells [iv 0,iv 0,iv 0,iv 0,iv 0,iv 0].toArray 305 (0,0))) (sz h5) 0 [iv pv,iv 0,iv 0,iv 0,iv 0,iv 0]) :=
      Zb4 (Zga u5) (.inl (by have:sz h≤sz h5:=u5.size;omega))
    have hm6:ZeU (Zb.puts (h5.push (.cells [iv 0,iv 0,iv 0,iv 0,iv 0,iv 0].toArray 305 (0,0))) (sz h5) 0 [iv pv,iv 0,iv 0,iv 0,iv 0,iv 0]) mb f n :=
      hm5.congr ((Zb5 (by have:=lm5;simp only [ZE] at this;omega)).trans (Zfj lm5))
    have c6_:obj (Zb.puts (h5.push (.cells [iv 0,iv 0,iv 0,iv 0,iv 0,iv 0].toArray 305 (0,0))) (sz h5) 0 [iv pv,iv 0,iv 0,iv 0,iv 0,iv 0]) wb=some (.cells [iv 1000000,iv 10,iv at_,.map (some mb)].toArray 214 (0,0)):=by
      simp (maxDischargeDepth:=60) only [Zs,Zr,evC,reduceAdd,reduceLT,reduceLeDiff,reduceEqDiff,reduceMul,reduceCtorEq,c5,YG l5]
    rcases Decidable.em (pv=0) with h0 | h0
    ·have:(!(bif pv ==0 then (bif (0:Int) ==0 then (bif (0:Int) ==0 then (bif (0:Int) ==0 then (bif (0:Int) ==0 then (bif (0:Int) ==0 then true else false) else false) else false) else false) else false) else false))=false:=by rw [h0];decide
     refine Zad this ?_
     refine ⟨f,n,hm6,hfv,fun i hi=>?_,u6⟩
     by_cases hik:i=bkt at_
     ·subst hik
      rw [new,h0]
      rcases hfp (bkt at_) (by omega) with e | ⟨e,ep⟩
      ·have:w.p (bkt at_)=0:=by
         rw [Zfk hpk hx] at hpv
         omega
       rw [this] at e
       exact .inl e
      ·exact .inr ⟨e,rfl⟩
     ·exact old i hi hik
    ·have:(!(bif pv ==0 then (bif (0:Int) ==0 then (bif (0:Int) ==0 then (bif (0:Int) ==0 then (bif (0:Int) ==0 then (bif (0:Int) ==0 then true else false) else false) else false) else false) else false) else false))=true:=by
       have:(pv ==0)=false:=by simpa using h0
       rw [this];rfl
     refine Zbg this ?_
     refine hm6.put (bkt at_) (c6V pv) fun h7 hm7 u7 z7=>⟨_,_,hm7,fun i v hv=>?_,fun i hi=>?_,XG c6_ u7 hne,u6.trans (u7.mono fun k _ hk=> .inr hk)⟩
     ·unfold upd at hv
      split at hv
      ·cases hv;exact ⟨pv,rfl,pr⟩
      ·exact hfv i v hv
     ·by_cases hik:i=bkt at_
      ·subst hik
       rw [ZiA,new]
       exact .inl rfl
      ·rw [Zic _ _ hik]
       exact old i hi hik
end Go.Proofs.YtbppjmcinoffnaaGreat.Tk
