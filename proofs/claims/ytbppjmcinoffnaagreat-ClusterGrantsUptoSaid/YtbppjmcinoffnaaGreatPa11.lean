/- Maps of numbers with whatever values: found, put, deleted, emptied, ranged over. Plain laws on memory. -/
import Derived.Test.YtbppjmcinoffnaaGreatPa10
set_option linter.unusedVariables false
set_option linter.unusedSimpArgs false
namespace Go.Proofs.YtbppjmcinoffnaaGreat.Tk
open Go Go.Fw
open Nat renaming reduceAdd→Nqa,reduceLT→Nqb,reduceLeDiff→Nqc,reduceEqDiff→Nqd,reduceMul→Nqe
def upd {α:Type} (f:Int→Option α) (k:Int) (v:Option α):Int→Option α:=fun j=>if j=k then v else f j
theorem Ziy {α:Type} (f:Int→Option α) (k:Int) (v:Option α):upd f k v k=v:=if_pos rfl
theorem Zie {α:Type} (f:Int→Option α) {k j:Int} (v:Option α) (h:j≠k):upd f k v j=f j:=if_neg h
structure ZlP (es:Array MapEntry) (f:Int→Option Value):Prop where
  to:∀ e,e∈es.toList→∃ k,e.key=iv k∧f k=some e.val
  of:∀ k v,f k=some v→∃ e,e∈es.toList∧e.key=iv k
def Ze4 (h:Zb) (mb:Nat) (f:Int→Option Value) (n:Nat):Prop :=
  ∃ es c,h[mb]?=some (.map es c)∧MapKept.Stamped es c∧es.size=n∧ZlP es f
theorem Zkw {a b:Int} (h:iv a=iv b):a=b:=by injection h
theorem ZlP.key {es:Array MapEntry} {f:Int→Option Value} (he:ZlP es f):∀ x,x∈es.toList→MapKept.IsKey (.int .i64) x.key:=fun x hx=>by
  obtain ⟨k,hk,_⟩:=he.to x hx
  rw [hk]
  rfl
theorem ZlP.val {es:Array MapEntry} {f:Int→Option Value} (he:ZlP es f) {e:MapEntry} (hm:e∈es.toList) {k:Int} (hk:e.key=iv k):f k=some e.val:=by
  obtain ⟨j,hj,hv⟩:=he.to e hm
  rw [hk] at hj
  rw [Zkw hj]
  exact hv
theorem ZlP.find {es:Array MapEntry} {f:Int→Option Value} (he:ZlP es f) (k:Int) :
    (Instr.findNow (.int .i64) (iv k) es.toList 0=some none∧f k=none)∨∃ j e,Instr.findNow (.int .i64) (iv k) es.toList 0=some (some (j,e.val))∧es.toList[j]?=some e∧e.key=iv k∧f k=some e.val:=by
  rcases MapKept.findNow_spec (d:= .int .i64) (k:=iv k) rfl es.toList 0 he.key with ⟨h1,h2⟩ | ⟨j,e,h1,h2,h3⟩
  ·refine .inl ⟨h1,?_⟩
   cases hf:f k with
   | none=>rfl
   | some v =>
     obtain ⟨e,hm,hk⟩:=he.of k v hf
     exact absurd hk (h2 e hm)
  ·rw [Nat.zero_add] at h1
   exact .inr ⟨j,e,h1,h2,h3,he.val (List.mem_of_getElem? h2) h3⟩
theorem Ze4.congr {h h':Zb} {mb:Nat} {f:Int→Option Value} {n:Nat} (hm:Ze4 h mb f n) (he:h'[mb]?=h[mb]?):Ze4 h' mb f n:=by
  obtain ⟨es,c,hb,r⟩:=hm
  exact ⟨es,c,he.trans hb,r⟩
theorem Ze4.lt {h:Zb} {mb:Nat} {f:Int→Option Value} {n:Nat} (hm:Ze4 h mb f n):mb<h.size:=by
  obtain ⟨es,c,hb,r⟩:=hm
  exact Xl hb
theorem Ze4.new {h:Zb} {K:Nat→Zb→Prop} (hk:∀ h1,Ze4 h1 h.size (fun _=>none) 0→Ext h h1→h1.size=h.size+1→K h.size h1):Zci h K :=
  hk _ ⟨#[],0,Zeg,MapKept.stamped_empty 0,rfl,⟨fun e he=>by simp at he,fun k v hv=>by cases hv⟩⟩ (Ext.push _ _) (by simp)
theorem Ze4.get {h:Zb} {mb:Nat} {f:Int→Option Value} {n:Nat} (hm:Ze4 h mb f n) (k:Int) {K:Option Value→Prop} (hk:K (f k)):XF (.int .i64) h (some mb) (iv k) K:=by
  obtain ⟨es,c,hb,hs,hn,he⟩:=hm
  refine ⟨(fun e=>by cases e),fun b e=>?_⟩
  cases e
  rcases he.find k with ⟨h1,h2⟩ | ⟨j,e,h1,h2,h3,h4⟩
  ·exact ⟨es,c,none,hb,h1,by rw [h2] at hk;exact hk⟩
  ·exact ⟨es,c,_,hb,h1,by rw [h4] at hk;exact hk⟩
theorem Ze4.len {h:Zb} {mb:Nat} {f:Int→Option Value} {n:Nat} (hm:Ze4 h mb f n) {K:Int→Prop} (hk:K (n:Int)):ZwU h (some mb) K:=by
  obtain ⟨es,c,hb,hs,hn,he⟩:=hm
  refine ⟨(fun e=>by cases e),fun b e=>?_⟩
  cases e
  exact ⟨es,c,hb,by rw [hn];exact hk⟩
theorem ZeQ {h:Zb} {b:Nat} {x:Obj}:Upd (· = b) h (h.setIfInBounds b x) :=
  ⟨by simp,fun k _ hk=>by rw [Array.getElem?_setIfInBounds_ne (fun e=>hk e.symm)]⟩
theorem ZgH {h:Zb} {b:Nat} {x:Obj} (hb:b<h.size):(h.setIfInBounds b x)[b]?=some x:=by simp [hb]
theorem ZlP.modify {es:Array MapEntry} {f:Int→Option Value} (he:ZlP es f) {c:Nat} (hs:MapKept.Stamped es c) {j:Nat} {e:MapEntry} {k:Int} (hj:es.toList[j]?=some e) (hk:e.key=iv k) (v:Value) :
    ZlP (es.modify j fun x=>{ x with key:=iv k,val:=v }) (upd f k (some v))∧MapKept.Stamped (es.modify j fun x=>{ x with key:=iv k,val:=v }) c:=by
  have hj':es[j]?=some e:=by simpa using hj
  have uniq:∀ i x,es.toList[i]?=some x→x.key=iv k→i=j:=by
    intro i x hi hx
    have hnd:=hs.2.2
    have h1:(es.toList.map (·.key))[i]?=some (iv k):=by rw [List.getElem?_map,hi];simp [hx]
    have h2:(es.toList.map (·.key))[j]?=some (iv k):=by rw [List.getElem?_map,hj];simp [hk]
    obtain ⟨hil,h1⟩:=List.getElem?_eq_some_iff.1 h1
    obtain ⟨hjl,h2⟩:=List.getElem?_eq_some_iff.1 h2
    exact (List.getElem_inj hnd).1 (h1.trans h2.symm)
  refine ⟨⟨fun x hx=>?_,fun i u hu=>?_⟩,?_⟩
  ·obtain ⟨i,hi⟩:=List.getElem?_of_mem hx
   rw [Array.getElem?_toList,Array.getElem?_modify] at hi
   by_cases hij:j=i
   ·subst hij
    rw [if_pos rfl,hj'] at hi
    simp only [Option.map_some,Option.some.injEq] at hi
    subst hi
    exact ⟨k,rfl,Ziy _ _ _⟩
   ·rw [if_neg hij] at hi
    have hi':es.toList[i]?=some x:=by simpa using hi
    obtain ⟨m,hm,hv⟩:=he.to x (List.mem_of_getElem? hi')
    refine ⟨m,hm,?_⟩
    rw [Zie]
    ·exact hv
    ·intro hmk
     subst hmk
     exact hij (uniq i x hi' hm).symm
  ·by_cases hik:i=k
   ·subst hik
    refine ⟨{ e with key:=iv i,val:=v },?_,rfl⟩
    refine List.mem_of_getElem? (i:=j) ?_
    rw [Array.getElem?_toList,Array.getElem?_modify,if_pos rfl,hj']
    rfl
   ·rw [Zie f _ hik] at hu
    obtain ⟨x,hx,hxk⟩:=he.of i u hu
    obtain ⟨m,hm⟩:=List.getElem?_of_mem hx
    refine ⟨x,List.mem_of_getElem? (i:=m) ?_,hxk⟩
    rw [Array.getElem?_toList,Array.getElem?_modify,if_neg]
    ·simpa using hm
    ·intro hjm
     subst hjm
     rw [hj] at hm
     cases hm
     exact hik (Zkw (hxk.symm.trans hk))
  ·refine MapKept.stamped_modify hs j _ (fun x _=>rfl) fun x _ hx=>?_
   rw [hj'] at hx
   cases hx
   exact hk.symm
theorem Ze4.put {h:Zb} {mb:Nat} {f:Int→Option Value} {n:Nat} (hm:Ze4 h mb f n) (k:Int) (v:Value) {K:Zb→Prop}
    (hk:∀ h',Ze4 h' mb (upd f k (some v)) (if (f k).isSome then n else n+1)→Upd (· = mb) h h'→h'.size=h.size→K h'):X9 (.int .i64) h (some mb) (iv k) v K:=by
  have hlt:=hm.lt
  obtain ⟨es,c,hb,hs,hn,he⟩:=hm
  rcases he.find k with ⟨h1,h2⟩ | ⟨j,e,h1,h2,h3,h4⟩
  ·refine ⟨mb,es,c,none,rfl,hb,he.key,h1,hk _ ⟨es.push { key:=iv k,val:=v,born:=c },c+1,ZgH hlt,MapKept.stamped_push hs fun x hx hxk=>?_,by simp [h2,hn],⟨fun x hx=>?_,fun i u hu=>?_⟩⟩ ZeQ (by simp)⟩
   ·have:=he.val hx hxk
    rw [h2] at this
    cases this
   ·simp only [Array.toList_push,List.mem_append,List.mem_singleton] at hx
    rcases hx with hx | rfl
    ·obtain ⟨m,hm,hv⟩:=he.to x hx
     refine ⟨m,hm,?_⟩
     rw [Zie]
     ·exact hv
     ·intro hmk
      subst hmk
      rw [h2] at hv
      cases hv
    ·exact ⟨k,rfl,Ziy _ _ _⟩
   ·simp only [Array.toList_push,List.mem_append,List.mem_singleton]
    by_cases hik:i=k
    ·subst hik
     exact ⟨_,.inr rfl,rfl⟩
    ·rw [Zie f _ hik] at hu
     obtain ⟨x,hx,hxk⟩:=he.of i u hu
     exact ⟨x,.inl hx,hxk⟩
  ·obtain ⟨g1,g2⟩:=he.modify hs h2 h3 v
   exact ⟨mb,es,c,_,rfl,hb,he.key,h1,hk _ ⟨_,c,ZgH hlt,g2,by simp [h4,hn],g1⟩ ZeQ (by simp)⟩
theorem ZlP.erase {es:Array MapEntry} {f:Int→Option Value} (he:ZlP es f) {c:Nat} (hs:MapKept.Stamped es c) {j:Nat} {e:MapEntry} {k:Int} (hj:es.toList[j]?=some e) (hk:e.key=iv k) :
    ZlP (es.eraseIdxIfInBounds j) (upd f k none)∧MapKept.Stamped (es.eraseIdxIfInBounds j) c∧(es.eraseIdxIfInBounds j).toList=es.toList.eraseIdx j∧(es.eraseIdxIfInBounds j).size=es.size - 1:=by
  obtain ⟨hjl,hje⟩:=List.getElem?_eq_some_iff.1 hj
  have hjs:j<es.size:=by simpa using hjl
  have hl:(es.eraseIdxIfInBounds j).toList=es.toList.eraseIdx j:=by
    unfold Array.eraseIdxIfInBounds
    rw [dif_pos hjs,Array.toList_eraseIdx]
  have hnd:=hs.2.2
  have mem:∀ x,x∈es.toList.eraseIdx j↔x∈es.toList∧x.key≠iv k:=fun x=>by
    constructor
    ·intro hx
     obtain ⟨i,hne,hi⟩:=List.mem_eraseIdx_iff_getElem?.1 hx
     refine ⟨List.mem_of_getElem? hi,fun hxk=>hne ?_⟩
     have h1:(es.toList.map (·.key))[i]?=some (iv k):=by rw [List.getElem?_map,hi];simp [hxk]
     have h2:(es.toList.map (·.key))[j]?=some (iv k):=by rw [List.getElem?_map,hj];simp [hk]
     obtain ⟨hil,h1⟩:=List.getElem?_eq_some_iff.1 h1
     obtain ⟨hjl,h2⟩:=List.getElem?_eq_some_iff.1 h2
     exact (List.getElem_inj hnd).1 (h1.trans h2.symm)
    ·rintro ⟨hx,hxk⟩
     obtain ⟨i,hi⟩:=List.getElem?_of_mem hx
     refine List.mem_eraseIdx_iff_getElem?.2 ⟨i,fun hij=>?_,hi⟩
     subst hij
     rw [hj] at hi
     cases hi
     exact hxk hk
  refine ⟨⟨fun x hx=>?_,fun i u hu=>?_⟩,MapKept.stamped_erase hs j,hl,?_⟩
  ·rw [hl] at hx
   obtain ⟨hx,hxk⟩:=(mem x).1 hx
   obtain ⟨m,hm,hv⟩:=he.to x hx
   refine ⟨m,hm,?_⟩
   rw [Zie]
   ·exact hv
   ·intro hmk
    subst hmk
    exact hxk hm
  ·by_cases hik:i=k
   ·subst hik
    rw [Ziy] at hu
    cases hu
   ·rw [Zie f _ hik] at hu
    obtain ⟨x,hx,hxk⟩:=he.of i u hu
    exact ⟨x,by rw [hl];exact (mem x).2 ⟨hx,fun h=>hik (Zkw (hxk.symm.trans h))⟩,hxk⟩
  ·unfold Array.eraseIdxIfInBounds
   rw [dif_pos hjs]
   simp
theorem Ze4.del {h:Zb} {mb:Nat} {f:Int→Option Value} {n:Nat} (hm:Ze4 h mb f n) (k:Int) {K:Zb→Prop}
    (hk:∀ h',Ze4 h' mb (upd f k none) (if (f k).isSome then n - 1 else n)→Upd (· = mb) h h'→h'.size=h.size→K h'):Zgb (.int .i64) h (some mb) (iv k) K:=by
  have hlt:=hm.lt
  obtain ⟨es,c,hb,hs,hn,he⟩:=hm
  refine ⟨(fun e=>by cases e),fun b e=>?_⟩
  cases e
  rcases he.find k with ⟨h1,h2⟩ | ⟨j,e,h1,h2,h3,h4⟩
  ·have hu:upd f k none=f:=by
     funext j
     unfold upd
     split
     ·rename_i hj;rw [hj,h2]
     ·rfl
   refine ⟨es,c,none,hb,h1,hk _ ⟨es,c,ZgH hlt,hs,by simp [h2,hn],by rw [hu];exact he⟩ ZeQ (by simp)⟩
  ·obtain ⟨g1,g2,g3,g4⟩:=he.erase hs h2 h3
   exact ⟨es,c,_,hb,h1,hk _ ⟨_,c,ZgH hlt,g2,by simp [h4,g4,hn],g1⟩ ZeQ (by simp)⟩
theorem Ze4.clear {h:Zb} {mb:Nat} {f:Int→Option Value} {n:Nat} (hm:Ze4 h mb f n) {K:Zb→Prop}
    (hk:∀ h',Ze4 h' mb (fun _=>none) 0→Upd (· = mb) h h'→h'.size=h.size→K h'):ZAn h (some mb) K:=by
  have hlt:=hm.lt
  obtain ⟨es,c,hb,hs,hn,he⟩:=hm
  refine ⟨(fun e=>by cases e),fun b e=>?_⟩
  cases e
  exact ⟨es,c,hb,hk _ ⟨#[],c,ZgH hlt,MapKept.stamped_empty c,rfl,⟨fun e he=>by simp at he,fun k v hv=>by cases hv⟩⟩ ZeQ (by simp)⟩
def Zec (h:Zb) (mb it:Nat) (f:Int→Option Value) (n:Nat) (rem:Int→Prop) (L:Nat):Prop :=
  ∃ (es:Array MapEntry) (c since:Nat) (seen:Array Nat) (c0:Nat),h[mb]?=some (.map es c)∧MapKept.Stamped es c∧es.size=n∧ZlP es f∧h[it]?=some (.mapIter (some mb) since seen c0)∧(∀ x,x∈es.toList→x.born<since)∧(since≤c0∧since≤c) ∧
    (leftOf es seen).size=L∧∀ k,rem k↔∃ e,e∈(leftOf es seen).toList∧e.key=iv k
def ZdF (h:Zb) (mb it:Nat) (f:Int→Option Value) (n:Nat) (rem:Int→Prop) (L:Nat) (k:Int):Prop :=
  ∃ (es:Array MapEntry) (c since:Nat) (seen:Array Nat) (e:MapEntry),h[mb]?=some (.map es c)∧MapKept.Stamped es c∧es.size=n∧ZlP es f∧h[it]?=some (.mapIter (some mb) since (seen.push e.born) c)∧(∀ x,x∈es.toList→x.born<since)∧since≤c ∧
    e∈es.toList∧e.key=iv k∧(leftOf es (seen.push e.born)).size=L∧∀ j,rem j↔∃ e',e'∈(leftOf es (seen.push e.born)).toList∧e'.key=iv j
theorem Zal (es:Array MapEntry) (seen:Array Nat):(leftOf es seen).toList=es.toList.filter fun e=> !seen.contains e.born:=by
  unfold leftOf;rw [Array.toList_filter]
theorem ZnN (es:Array MapEntry) (seen:Array Nat):(leftOf es seen).size=(es.toList.filter fun e=> !seen.contains e.born).length:=by
  rw [← Zal,Array.length_toList]
theorem Zmz {es:Array MapEntry} {seen:Array Nat} {b:Nat} {e:MapEntry}:e∈(leftOf es (seen.push b)).toList↔e∈(leftOf es seen).toList∧e.born≠b:=by
  rw [Zal,Zal,List.mem_filter,List.mem_filter,contains_push]
  cases seen.contains e.born<;>simp
theorem Zec.lt {h:Zb} {mb it:Nat} {f:Int→Option Value} {n:Nat} {rem:Int→Prop} {L:Nat} (hr:Zec h mb it f n rem L):mb<h.size∧it<h.size∧mb≠it:=by
  obtain ⟨es,c,since,seen,c0,hb,_,_,_,hi,_⟩:=hr
  refine ⟨Xl hb,Xl hi,fun e=>?_⟩
  subst e
  rw [hb] at hi
  cases hi
theorem Zec.map {h:Zb} {mb it:Nat} {f:Int→Option Value} {n:Nat} {rem:Int→Prop} {L:Nat} (hr:Zec h mb it f n rem L):Ze4 h mb f n:=by
  obtain ⟨es,c,since,seen,c0,hb,hs,hn,he,_⟩:=hr
  exact ⟨es,c,hb,hs,hn,he⟩
theorem Zec.congr {h h':Zb} {mb it:Nat} {f:Int→Option Value} {n:Nat} {rem:Int→Prop} {L:Nat} (hr:Zec h mb it f n rem L) (h1:h'[mb]?=h[mb]?) (h2:h'[it]?=h[it]?):Zec h' mb it f n rem L:=by
  obtain ⟨es,c,since,seen,c0,hb,hs,hn,he,hi,r⟩:=hr
  exact ⟨es,c,since,seen,c0,h1.trans hb,hs,hn,he,h2.trans hi,r⟩
theorem ZdF.congr {h h':Zb} {mb it:Nat} {f:Int→Option Value} {n:Nat} {rem:Int→Prop} {L:Nat} {k:Int} (hr:ZdF h mb it f n rem L k) (h1:h'[mb]?=h[mb]?) (h2:h'[it]?=h[it]?):ZdF h' mb it f n rem L k:=by
  obtain ⟨es,c,since,seen,e,hb,hs,hn,he,hi,r⟩:=hr
  exact ⟨es,c,since,seen,e,h1.trans hb,hs,hn,he,h2.trans hi,r⟩
theorem Ze4.range {h:Zb} {mb:Nat} {f:Int→Option Value} {n:Nat} (hm:Ze4 h mb f n) {K:Nat→Zb→Prop} (hk:∀ h1,Zec h1 mb h.size f n (fun k=>(f k).isSome=true) n→Ext h h1→h1.size=h.size+1→K h.size h1):rgM h (some mb) K:=by
  have hlt:=hm.lt
  obtain ⟨es,c,hb,hs,hn,he⟩:=hm
  have hl:(leftOf es #[]).toList=es.toList:=by
    rw [Zal]
    exact List.filter_eq_self.2 fun a _=>by simp
  refine ⟨(fun e=>by cases e),fun b e=>?_⟩
  cases e
  refine ⟨es,c,hb,hk _ ⟨es,c,c,#[],c,(Zfs hlt).trans hb,hs,hn,he,Zeg,hs.1,⟨Nat.le_refl _,Nat.le_refl _⟩,?_,fun k=>?_⟩ (Ext.push _ _) (by simp)⟩
  ·rw [← Array.length_toList,hl,Array.length_toList,hn]
  ·rw [hl]
   constructor
   ·intro hk
    obtain ⟨v,hv⟩:=Option.isSome_iff_exists.1 hk
    exact he.of k v hv
   ·rintro ⟨e,hm,hek⟩
    rw [he.val hm hek]
    rfl
theorem Zec.next {h:Zb} {mb it:Nat} {f:Int→Option Value} {n:Nat} {rem:Int→Prop} {L:Nat} (hr:Zec h mb it f n rem L) {T:Value→Value→Zb→Prop} {F:Prop}
    (hF:(∀ k,¬ rem k)→F) (hT:∀ k v h' L',rem k→f k=some v→ZdF h' mb it f n (fun j=>rem j∧j≠k) L' k→L'<L→Upd (· = it) h h'→h'.size=h.size→T (iv k) v h'):Zt4 h it T F:=by
  obtain ⟨hl1,hl2,hne⟩:=hr.lt
  obtain ⟨es,c,since,seen,c0,hb,hs,hn,he,hi,hold,hsc,hL,hrem⟩:=hr
  refine .inr ⟨mb,since,seen,c0,es,c,hi,hb,hold,hsc.1,fun h0=>hF fun k hk=>?_,fun e hm=>?_⟩
  ·obtain ⟨e,hm,_⟩:=(hrem k).1 hk
   rw [Zal] at hm
   rw [ZnN] at h0
   rw [List.eq_nil_of_length_eq_zero h0] at hm
   cases hm
  ·obtain ⟨hme,hns⟩:=mem_left hm
   obtain ⟨k,hk,hv⟩:=he.to e hme
   rw [hk]
   refine hT k e.val _ (leftOf es (seen.push e.born)).size ((hrem k).2 ⟨e,hm,hk⟩) hv ⟨es,c,since,seen,e,?_,hs,hn,he,ZgH hl2,hold,hsc.2,hme,hk,rfl,fun j=>?_⟩ (by have:=left_shrinks es seen e hm;omega) ZeQ (by simp)
   ·rw [Array.getElem?_setIfInBounds_ne (Ne.symm hne)];exact hb
   ·constructor
    ·rintro ⟨hj,hjk⟩
     obtain ⟨e',hm',hk'⟩:=(hrem j).1 hj
     refine ⟨e',Zmz.2 ⟨hm',fun hb'=>hjk ?_⟩,hk'⟩
     have hnd:=hs.2.1
     obtain ⟨i,hi⟩:=List.getElem?_of_mem (mem_left hm').1
     obtain ⟨m,hm2⟩:=List.getElem?_of_mem hme
     have h1:(es.toList.map (·.born))[i]?=some e.born:=by rw [List.getElem?_map,hi];simp [hb']
     have h2:(es.toList.map (·.born))[m]?=some e.born:=by rw [List.getElem?_map,hm2];rfl
     obtain ⟨hil,h1⟩:=List.getElem?_eq_some_iff.1 h1
     obtain ⟨hjl,h2⟩:=List.getElem?_eq_some_iff.1 h2
     have:=(List.getElem_inj hnd).1 (h1.trans h2.symm)
     subst this
     rw [hi] at hm2
     cases hm2
     exact Zkw (hk'.symm.trans hk)
    ·rintro ⟨e',hm',hk'⟩
     obtain ⟨hm1,hb1⟩:=Zmz.1 hm'
     refine ⟨(hrem j).2 ⟨e',hm1,hk'⟩,fun hjk=>hb1 ?_⟩
     subst hjk
     have hnd:=hs.2.2
     obtain ⟨i,hi⟩:=List.getElem?_of_mem (mem_left hm1).1
     obtain ⟨m,hm2⟩:=List.getElem?_of_mem hme
     have h1:(es.toList.map (·.key))[i]?=some (iv j):=by rw [List.getElem?_map,hi];simp [hk']
     have h2:(es.toList.map (·.key))[m]?=some (iv j):=by rw [List.getElem?_map,hm2];simp [hk]
     obtain ⟨hil,h1⟩:=List.getElem?_eq_some_iff.1 h1
     obtain ⟨hjl,h2⟩:=List.getElem?_eq_some_iff.1 h2
     have:=(List.getElem_inj hnd).1 (h1.trans h2.symm)
     subst this
     rw [hi] at hm2
     cases hm2
     rfl
theorem ZdF.ent {h:Zb} {mb it:Nat} {f:Int→Option Value} {n:Nat} {rem:Int→Prop} {L:Nat} {k:Int} (hr:ZdF h mb it f n rem L k) {K:Value→Value→Prop} (hk:∀ v,f k=some v→K (iv k) v):ZAl h it K:=by
  obtain ⟨es,c,since,seen,e,hb,hs,hn,he,hi,hold,hsc,hme,hek,hL,hrem⟩:=hr
  have:=hk e.val (he.val hme hek)
  rw [← hek] at this
  exact ⟨mb,since,seen,es,c,e,hi,hb,hme,hs.2.1,this⟩
theorem ZdF.go {h:Zb} {mb it:Nat} {f:Int→Option Value} {n:Nat} {rem:Int→Prop} {L:Nat} {k:Int} (hr:ZdF h mb it f n rem L k):Zec h mb it f n rem L:=by
  obtain ⟨es,c,since,seen,e,hb,hs,hn,he,hi,hold,hsc,hme,hek,hL,hrem⟩:=hr
  exact ⟨es,c,since,_,c,hb,hs,hn,he,hi,hold,⟨hsc,hsc⟩,hL,hrem⟩
theorem Zim {α:Type} (p:α→Bool):∀ (l:List α) (j:Nat) (x:α),l[j]?=some x→p x=false→(l.eraseIdx j).filter p=l.filter p
  | [],j,x,h,_=>by simp at h
  | y::l,0,x,h,hp=>by simp at h;subst h;simp [hp]
  | y::l,j+1,x,h,hp=>by
    have ih:=Zim p l j x (by simpa using h) hp
    simp only [List.eraseIdx_cons_succ,List.filter_cons,ih]
theorem ZdF.del {h:Zb} {mb it:Nat} {f:Int→Option Value} {n:Nat} {rem:Int→Prop} {L:Nat} {k:Int} (hr:ZdF h mb it f n rem L k) {K:Zb→Prop}
    (hk:∀ h' n',Zec h' mb it (upd f k none) n' rem L→Upd (· = mb) h h'→h'.size=h.size→K h'):Zgb (.int .i64) h (some mb) (iv k) K:=by
  obtain ⟨hl1,hl2,hne⟩:=hr.go.lt
  obtain ⟨es,c,since,seen,e,hb,hs,hn,he,hi,hold,hsc,hme,hek,hL,hrem⟩:=hr
  refine ⟨(fun e=>by cases e),fun b e=>?_⟩
  cases e
  rcases he.find k with ⟨h1,h2⟩ | ⟨j,e',h1,h2,h3,h4⟩
  ·rw [he.val hme hek] at h2;cases h2
  ·obtain ⟨g1,g2,g3,g4⟩:=he.erase hs h2 h3
   have hee:e'=e:=by
     have hnd:=hs.2.2
     obtain ⟨m,hm2⟩:=List.getElem?_of_mem hme
     have q1:(es.toList.map (·.key))[j]?=some (iv k):=by rw [List.getElem?_map,h2];simp [h3]
     have q2:(es.toList.map (·.key))[m]?=some (iv k):=by rw [List.getElem?_map,hm2];simp [hek]
     obtain ⟨hil,q1⟩:=List.getElem?_eq_some_iff.1 q1
     obtain ⟨hjl,q2⟩:=List.getElem?_eq_some_iff.1 q2
     have:=(List.getElem_inj hnd).1 (q1.trans q2.symm)
     subst this
     rw [h2] at hm2
     exact Option.some.inj hm2
   subst hee
   have hleft:(leftOf (es.eraseIdxIfInBounds j) (seen.push e'.born)).toList=(leftOf es (seen.push e'.born)).toList:=by
     rw [Zal,Zal,g3]
     exact Zim _ _ _ _ h2 (by rw [contains_push,beq_self_eq_true,Bool.or_true];rfl)
   exact ⟨es,c,_,hb,h1,hk _ _ ⟨_,c,since,_,c,ZgH hl1,g2,rfl,g1,by rw [Array.getElem?_setIfInBounds_ne hne];exact hi,fun x hx=>hold x ((by rw [g3] at hx;exact List.mem_of_mem_eraseIdx hx)),⟨hsc,hsc⟩,
     by rw [← Array.length_toList,hleft,Array.length_toList,hL],fun q=>by rw [hleft];exact hrem q⟩ ZeQ (by simp)⟩
theorem ZdF.put {h:Zb} {mb it:Nat} {f:Int→Option Value} {n:Nat} {rem:Int→Prop} {L:Nat} {k:Int} (hr:ZdF h mb it f n rem L k) (v:Value) {K:Zb→Prop}
    (hk:∀ h',Zec h' mb it (upd f k (some v)) n rem L→Upd (· = mb) h h'→h'.size=h.size→K h'):X9 (.int .i64) h (some mb) (iv k) v K:=by
  obtain ⟨hl1,hl2,hne⟩:=hr.go.lt
  obtain ⟨es,c,since,seen,e,hb,hs,hn,he,hi,hold,hsc,hme,hek,hL,hrem⟩:=hr
  rcases he.find k with ⟨h1,h2⟩ | ⟨j,e',h1,h2,h3,h4⟩
  ·rw [he.val hme hek] at h2;cases h2
  ·obtain ⟨g1,g2⟩:=he.modify hs h2 h3 v
   have hj':es[j]?=some e':=by simpa using h2
   have hl:(es.modify j fun x=>{ x with key:=iv k,val:=v }).toList=es.toList.set j { e' with key:=iv k,val:=v }:=by
     apply List.ext_getElem?
     intro i
     rw [Array.getElem?_toList,Array.getElem?_modify,List.getElem?_set]
     have hjl:j<es.toList.length:=(List.getElem?_eq_some_iff.1 h2).1
     by_cases hij:j=i
     ·subst hij
      rw [if_pos rfl,if_pos rfl,if_pos hjl,hj']
      rfl
     ·rw [if_neg hij,if_neg hij,Array.getElem?_toList]
   have hee:e'.born=e.born:=by
     have hnd:=hs.2.2
     obtain ⟨m,hm2⟩:=List.getElem?_of_mem hme
     have q1:(es.toList.map (·.key))[j]?=some (iv k):=by rw [List.getElem?_map,h2];simp [h3]
     have q2:(es.toList.map (·.key))[m]?=some (iv k):=by rw [List.getElem?_map,hm2];simp [hek]
     obtain ⟨hil,q1⟩:=List.getElem?_eq_some_iff.1 q1
     obtain ⟨hjl,q2⟩:=List.getElem?_eq_some_iff.1 q2
     have:=(List.getElem_inj hnd).1 (q1.trans q2.symm)
     subst this
     rw [h2] at hm2
     rw [Option.some.inj hm2]
   have hfs:∀ (l:List MapEntry) (j:Nat) (x y:MapEntry),l[j]?=some x→(!(seen.push e.born).contains x.born)=false→(!(seen.push e.born).contains y.born)=false →
       (l.set j y).filter (fun z=> !(seen.push e.born).contains z.born)=l.filter (fun z=> !(seen.push e.born).contains z.born):=by
     intro l
     induction l with
     | nil=>intro j x y h;simp at h
     | cons z l ih =>
       intro j x y h hx hy
       cases j with
       | zero=>simp at h;subst h;simp only [List.set_cons_zero,List.filter_cons,hx,hy];simp
       | succ j=>simp only [List.set_cons_succ,List.filter_cons,ih j x y (by simpa using h) hx hy]
   have hcon:(!(seen.push e.born).contains e'.born)=false:=by rw [hee,contains_push,beq_self_eq_true,Bool.or_true];rfl
   have hleft:(leftOf (es.modify j fun x=>{ x with key:=iv k,val:=v }) (seen.push e.born)).toList=(leftOf es (seen.push e.born)).toList:=by
     rw [Zal,Zal,hl]
     exact hfs _ _ _ _ h2 hcon hcon
   refine ⟨mb,es,c,_,rfl,hb,he.key,h1,hk _ ⟨_,c,since,_,c,ZgH hl1,g2,by simp [hn],g1,by rw [Array.getElem?_setIfInBounds_ne hne];exact hi,fun x hx=>?_,⟨hsc,hsc⟩,
     by rw [← Array.length_toList,hleft,Array.length_toList,hL],fun q=>by rw [hleft];exact hrem q⟩ ZeQ (by simp)⟩
   rw [hl] at hx
   rcases List.mem_or_eq_of_mem_set hx with hx | hx
   ·exact hold x hx
   ·subst hx
    exact hold e' (List.mem_of_getElem? h2)
end Go.Proofs.YtbppjmcinoffnaaGreat.Tk
namespace Go.Fw
open Go
def obj (h:Zb) (b:Nat):Option Obj:=h[b]?
def sz (h:Zb):Nat:=h.size
theorem ZE {h:Zb}:Array.size h=sz h:=rfl
theorem XB {h:Zb} {x:Obj}:sz (h.push x)=sz h+1:=by unfold sz;simp
theorem Zkd {h:Zb} {b o:Nat} {v:Value}:sz (h.put b o v)=sz h:=by unfold sz;exact ZeH
theorem Zt1 {h:Zb} {x:Obj} {b:Nat}:obj (h.push x) b=if b=sz h then some x else obj h b:=by
  unfold obj sz;rw [Array.getElem?_push]
def Zkn (o:Nat) (v:Value):Option Obj→Option Obj
  | some (.cells c e f)=>some (.cells (c.setIfInBounds o v) e f)
  | x=>x
theorem Zii {o:Nat} {v:Value} {l:List Value} {e:TypeId} {f:Nat × Nat}:Zkn o v (some (.cells l.toArray e f))=some (.cells (l.set o v).toArray e f):=by
  simp [Zkn]
theorem ZrV {h:Zb} {b o k:Nat} {v:Value}:obj (h.put b o v) k=if k=b then Zkn o v (obj h k) else obj h k:=by
  unfold obj Zb.put
  rw [Array.getElem?_modify]
  by_cases hk:b=k
  ·subst hk
   rw [if_pos rfl,if_pos rfl]
   cases h[b]? with
   | none=>rfl
   | some x=>cases x<;>rfl
  ·rw [if_neg hk,if_neg (Ne.symm hk)]
def ZL (o:Nat):Option Obj→Option Value
  | some (.cells c _ _)=>c[o]?
  | _=>none
def Zft (o:Nat):Option Obj→Bool
  | some (.cells c _ f)=>decide (o<c.size)&&(f.1 ==0&&f.2 ==0)
  | _=>false
theorem Zhg {o:Nat} {l:List Value} {e:TypeId} {f:Nat × Nat}:ZL o (some (.cells l.toArray e f))=l[o]?:=by simp [ZL]
theorem Zlk {o:Nat} {l:List Value} {e:TypeId}:Zft o (some (.cells l.toArray e (0,0)))=decide (o<l.length):=by simp [Zft]
theorem Yw {h:Zb} {b o:Nat}:h.cell b o=ZL o (obj h b):=by unfold Zb.cell obj ZL;rfl
theorem Zjt {h:Zb} {b o:Nat} (hf:Zft o (obj h b)=true):(∃ u,h.cell b o=some u)∧h.froz b o=false:=by
  unfold Zft at hf
  split at hf
  ·rename_i c e f hb
   simp only [Bool.and_eq_true,decide_eq_true_eq,beq_iff_eq] at hf
   obtain ⟨h1,h2,h3⟩:=hf
   have hb':h[b]?=some (.cells c e f):=hb
   refine ⟨⟨c[o],by unfold Zb.cell;rw [hb'];simp [h1]⟩,?_⟩
   unfold Zb.froz
   rw [hb']
   obtain ⟨lo,hi⟩:=f
   simp only at h2 h3
   subst h2 h3
   simp
  ·cases hf
theorem Y9 {n:Int} {K:Int→Prop}:Zc n K=K n:=propext ⟨fun h=>h,fun h=>h⟩
theorem YN {n:Bool} {K:Bool→Prop}:ZG n K=K n:=propext ⟨fun h=>h,fun h=>h⟩
theorem ZdM {h:Zb} {cells:List Value} {t:TypeId} {K:Nat→Zb→Prop}:newC h cells t K=K (sz h) (h.push (.cells cells.toArray t (0,0))):=propext ⟨fun h=>h,fun h=>h⟩
theorem Zhj {h:Zb} {K:Nat→Zb→Prop}:Zci h K=K (sz h) (h.push (.map #[] 0)):=propext ⟨fun h=>h,fun h=>h⟩
theorem ZhX {p K:Prop}:ZH p K=(p∧K):=propext ⟨fun h=>h,fun h=>h⟩
theorem ZlE {p K:Prop}:Zfj p K=(p∧K):=propext ⟨fun h=>h,fun h=>h⟩
theorem Zuo {b o:Nat} {K:Nat→Nat→Prop}:Zd (some ⟨b,o,none⟩) K=K b o:=propext ⟨fun ⟨b',o',e,h⟩=>(by cases e;exact h),fun h=>⟨b,o,rfl,h⟩⟩
theorem ZnQ {A B:Prop}:Zw true A B=A:=propext ⟨fun h=>h.1 rfl,fun h=>ZF h⟩
theorem ZnR {A B:Prop}:Zw false A B=B:=propext ⟨fun h=>h.2 rfl,fun h=>Zl h⟩
theorem Zzx {h:Zb} {b o:Nat} {k:IntKind} {n:Int} {K:Int→Prop} (hc:ZL o (obj h b)=some (.int k n)):ldI h b o k K=K n :=
  propext ⟨fun ⟨m,e,hk⟩=>(by rw [Yw,hc] at e;cases e;exact hk),fun hk=>⟨n,by rw [Yw,hc],hk⟩⟩
theorem Zzz {h:Zb} {b o:Nat} {n:Bool} {K:Bool→Prop} (hc:ZL o (obj h b)=some (.bool n)):ldB h b o K=K n :=
  propext ⟨fun ⟨m,e,hk⟩=>(by rw [Yw,hc] at e;cases e;exact hk),fun hk=>⟨n,by rw [Yw,hc],hk⟩⟩
theorem Zvq {h:Zb} {b o:Nat} {n:ByteArray} {K:ByteArray→Prop} (hc:ZL o (obj h b)=some (.string n)):ldS h b o K=K n :=
  propext ⟨fun ⟨m,e,hk⟩=>(by rw [Yw,hc] at e;cases e;exact hk),fun hk=>⟨n,by rw [Yw,hc],hk⟩⟩
theorem Zzu {h:Zb} {b o:Nat} {n:Option Addr} {K:Option Addr→Prop} (hc:ZL o (obj h b)=some (.pointer n)):ldP h b o K=K n :=
  propext ⟨fun ⟨m,e,hk⟩=>(by rw [Yw,hc] at e;cases e;exact hk),fun hk=>⟨n,by rw [Yw,hc],hk⟩⟩
theorem Zsa {h:Zb} {b o:Nat} {n:Option Nat} {K:Option Nat→Prop} (hc:ZL o (obj h b)=some (.map n)):ldM h b o K=K n :=
  propext ⟨fun ⟨m,e,hk⟩=>(by rw [Yw,hc] at e;cases e;exact hk),fun hk=>⟨n,by rw [Yw,hc],hk⟩⟩
theorem Zzr {h:Zb} {b o:Nat} {n:Value} {K:Value→Prop} (hc:ZL o (obj h b)=some n):ldV h b o K=K n :=
  propext ⟨fun ⟨m,e,hk⟩=>(by rw [Yw,hc] at e;cases e;exact hk),fun hk=>⟨n,by rw [Yw,hc],hk⟩⟩
theorem Zvr {h:Zb} {b o:Nat} {p:Option Addr} {l c:Nat} {K:Sl→Prop} (hc:ZL o (obj h b)=some (.slice p l c)):ldL h b o K=K ⟨p,l,c⟩ :=
  propext ⟨fun ⟨m,e,hk⟩=>(by rw [Yw,hc] at e;cases e;exact hk),fun hk=>⟨⟨p,l,c⟩,by rw [Yw,hc],hk⟩⟩
theorem ZEo {h:Zb} {b o:Nat} {v:Value} {K:Zb→Prop} (hf:Zft o (obj h b)=true) (hv:Zv v=true):st h b o v K=K (h.put b o v) :=
  propext ⟨fun hk=>hk.2.2.2,fun hk=>⟨(Zjt hf).1,(Zjt hf).2,hv,hk⟩⟩
theorem ZoQ {h:Zb} {b:Nat}:∀ (n o:Nat),(∀ i,i<n→Zft (o+i) (obj h b)=true)→h.free b o n
  | 0,_,_=>trivial
  | n+1,o,hf=>⟨Zjt (by have:=hf 0 (by omega);simpa using this),ZoQ n (o+1) fun i hi=>by have:=hf (i+1) (by omega);rw [show o+1+i=o+(i+1) from by omega];exact this⟩
def ZnY (o n:Nat):Option Obj→Bool
  | some (.cells c _ f)=>decide (o+n≤c.size)&&(f.1 ==0&&f.2 ==0)
  | _=>false
theorem Zg3 {o n:Nat} {l:List Value} {e:TypeId}:ZnY o n (some (.cells l.toArray e (0,0)))=decide (o+n≤l.length):=by simp [ZnY]
theorem Zuh {h:Zb} {b o n:Nat} (hf:ZnY o n (obj h b)=true):h.free b o n:=by
  refine ZoQ n o fun i hi=>?_
  unfold ZnY at hf
  split at hf
  ·rename_i c e f hb
   rw [hb]
   simp only [Bool.and_eq_true,decide_eq_true_eq] at hf
   simp only [Zft,Bool.and_eq_true,decide_eq_true_eq]
   exact ⟨by omega,hf.2⟩
  ·cases hf
theorem ZiV {h:Zb} {b o:Nat} {vs:List Value} {K:Zb→Prop} (hf:ZnY o vs.length (obj h b)=true) (hv:vs.all Zv=true):sts h b o vs K=K (h.puts b o vs) :=
  propext ⟨fun hk=>hk.2.2,fun hk=>⟨Zuh hf,hv,hk⟩⟩
theorem Zdi {h:Zb} {b o:Nat} {vs:List Value}:sz (h.puts b o vs)=sz h:=Ze8
def ZgS:Nat→List Value→Option Obj→Option Obj
  | _,[],x=>x
  | o,v::vs,x=>ZgS (o+1) vs (Zkn o v x)
def ZeK:Nat→List Value→List Value→List Value
  | _,[],l=>l
  | o,v::vs,l=>ZeK (o+1) vs (l.set o v)
theorem Zeh {e:TypeId} {f:Nat × Nat}:∀ {vs:List Value} {o:Nat} {l:List Value},ZgS o vs (some (.cells l.toArray e f))=some (.cells (ZeK o vs l).toArray e f)
  | [],_,_=>rfl
  | v::vs,o,l=>by unfold ZgS ZeK;rw [Zii,Zeh]
theorem ZiF {b:Nat}:∀ {vs:List Value} {h:Zb} {o k:Nat},obj (h.puts b o vs) k=if k=b then ZgS o vs (obj h k) else obj h k
  | [],h,o,k=>by
    unfold Zb.puts ZgS
    split<;>rfl
  | v::vs,h,o,k=>by
    unfold Zb.puts
    rw [ZiF,ZrV]
    by_cases hk:k=b
    ·rw [if_pos hk,if_pos hk,if_pos hk];rfl
    ·rw [if_neg hk,if_neg hk,if_neg hk]
theorem ZcR {h:Zb}:Zi h []=True:=rfl
theorem Zbd {h:Zb} {b o:Nat} {v:Value} {r:List (Nat × Nat × Value)}:Zi h ((b,o,v)::r)=(ZL o (obj h b)=some v∧Zi h r):=by
  rw [← Yw];rfl
theorem Zvs {h:Zb} {b o:Nat} {k:IntKind} {K:Int→Prop}:ldI h b o k K=∃ n,ZL o (obj h b)=some (.int k n)∧K n:=by
  unfold ldI;exact propext ⟨fun ⟨n,e,hk⟩=>⟨n,Yw▸e,hk⟩,fun ⟨n,e,hk⟩=>⟨n,Yw.trans e,hk⟩⟩
theorem Zzy {h:Zb} {b o:Nat} {K:Bool→Prop}:ldB h b o K=∃ n,ZL o (obj h b)=some (.bool n)∧K n:=by
  unfold ldB;exact propext ⟨fun ⟨n,e,hk⟩=>⟨n,Yw▸e,hk⟩,fun ⟨n,e,hk⟩=>⟨n,Yw.trans e,hk⟩⟩
theorem Zzs {h:Zb} {b o:Nat} {K:ByteArray→Prop}:ldS h b o K=∃ n,ZL o (obj h b)=some (.string n)∧K n:=by
  unfold ldS;exact propext ⟨fun ⟨n,e,hk⟩=>⟨n,Yw▸e,hk⟩,fun ⟨n,e,hk⟩=>⟨n,Yw.trans e,hk⟩⟩
theorem Zzt {h:Zb} {b o:Nat} {K:Option Addr→Prop}:ldP h b o K=∃ n,ZL o (obj h b)=some (.pointer n)∧K n:=by
  unfold ldP;exact propext ⟨fun ⟨n,e,hk⟩=>⟨n,Yw▸e,hk⟩,fun ⟨n,e,hk⟩=>⟨n,Yw.trans e,hk⟩⟩
theorem Zzv {h:Zb} {b o:Nat} {K:Option Nat→Prop}:ldM h b o K=∃ n,ZL o (obj h b)=some (.map n)∧K n:=by
  unfold ldM;exact propext ⟨fun ⟨n,e,hk⟩=>⟨n,Yw▸e,hk⟩,fun ⟨n,e,hk⟩=>⟨n,Yw.trans e,hk⟩⟩
theorem Zzq {h:Zb} {b o:Nat} {K:Value→Prop}:ldV h b o K=∃ n,ZL o (obj h b)=some n∧K n:=by
  unfold ldV;exact propext ⟨fun ⟨n,e,hk⟩=>⟨n,Yw▸e,hk⟩,fun ⟨n,e,hk⟩=>⟨n,Yw.trans e,hk⟩⟩
theorem Zzw {h:Zb} {b o:Nat} {K:Sl→Prop}:ldL h b o K=∃ s:Sl,ZL o (obj h b)=some (slV s)∧K s:=by
  unfold ldL;exact propext ⟨fun ⟨n,e,hk⟩=>⟨n,Yw▸e,hk⟩,fun ⟨n,e,hk⟩=>⟨n,Yw.trans e,hk⟩⟩
theorem Zy7 {s t:Sl}:(slV s=slV t)=(s=t):=by
  refine propext ⟨fun h=>?_,fun h=>by rw [h]⟩
  cases s;cases t
  unfold slV at h
  injection h with h1 h2 h3
  subst h1 h2 h3
  rfl
theorem Zds {σ:Type} {body:(σ→Zb→Prop)→σ→Zb→Prop} {s:σ} {h:Zb} (I:σ→Zb→Prop) (μ:σ→Zb→Nat)
    (h0:I s h) (hr:∀ s h,I s h→∀ Q:σ→Zb→Prop,(∀ s' h',I s' h'→μ s' h'<μ s h→Q s' h')→body Q s h):YI body s h:=⟨I,μ,h0,fun s h hs=>hr s h hs _ fun _ _ a b=>⟨a,b⟩⟩
theorem ZoW {σ:Type} {rest:σ→Zb→Prop} {pre:(σ→Zb→Prop)→Prop} (J:σ→Zb→Prop)
    (h1:∀ s h,J s h→rest s h) (h2:∀ Q:σ→Zb→Prop,(∀ s h,J s h→Q s h)→pre Q):Zg5 rest pre:=⟨J,h1,h2 _ fun _ _ h=>h⟩
theorem Zrz {s:Sl}:Value.slice s.ptr s.len s.cap=slV s:=rfl
theorem YW {k:IntKind} {n:Int}:Zv (.int k n)=true:=by simp [Zv]
theorem ZdX {b:Bool}:Zv (.bool b)=true:=by simp [Zv]
theorem Zf8 {b:ByteArray}:Zv (.string b)=true:=by simp [Zv]
theorem ZhV {b:Option Addr}:Zv (.pointer b)=true:=by simp [Zv]
theorem Zzc {b:Option Addr} {l c:Nat}:Zv (.slice b l c)=true:=by simp [Zv]
theorem ZgR {s:Sl}:Zv (slV s)=true:=by simp [Zv,slV]
theorem ZnG {b:Option Nat}:Zv (.map b)=true:=by simp [Zv]
theorem Zhf {t:TypeId} {v:Value}:Zv (.iface t v)=true:=by simp [Zv]
theorem ZtZ:Zv .nilIface=true:=by simp [Zv]
theorem Zze {f:Fn} {a b:Array Value}:Zv (.func f a b)=true:=by simp [Zv]
theorem ZgT {h:Zb} {b:Nat} (hb:b<sz h) (k:Nat):(b=sz h+k)=False:=eq_false (by omega)
theorem YH {h:Zb} {b:Nat} (hb:b<sz h):(b=sz h)=False:=eq_false (by omega)
theorem ZpQ {h:Zb} {b:Nat} (hb:b<sz h) (k:Nat):(sz h+k=b)=False:=eq_false (by omega)
theorem Zik {h:Zb} {b:Nat} (hb:b<sz h):(sz h=b)=False:=eq_false (by omega)
theorem Zbk {h h':Zb} (e:Ext h h') {b:Nat} (hb:b<sz h):obj h' b=obj h b:=e.old b hb
theorem ZdJ {S:Nat→Prop} {h h':Zb} (e:Upd S h h') {b:Nat} (hb:b<sz h) (hs:¬ S b):obj h' b=obj h b:=e.old b hb hs
theorem X6 {h h':Zb} (e:Ext h h'):sz h≤sz h':=e.size
theorem ZO {h h1:Zb} {x:Obj} (he:Ext h h1):Ext h (h1.push x):=he.trans (Ext.push _ _)
theorem Zsw {h h1:Zb} {b o:Nat} {v:Value} (he:Ext h h1) (hb:sz h≤b):Ext h (h1.put b o v) :=
  he.then (Upd.put _ _ _ _) fun k hk=>by subst hk;exact hb
theorem Z3 {h h1:Zb} {b o:Nat} {vs:List Value} (he:Ext h h1) (hb:sz h≤b):Ext h (h1.puts b o vs) :=
  he.then (Upd.puts _ _ _ _) fun k hk=>by subst hk;exact hb
theorem Zgp {S:Nat→Prop} {h h1:Zb} {x:Obj} (he:Upd S h h1):Upd S h (h1.push x):=⟨Nat.le_trans he.size (by simp),fun k hk hs=>(Zfs (Nat.lt_of_lt_of_le hk he.size)).trans (he.old k hk hs)⟩
theorem Zrh {S:Nat→Prop} {h h1:Zb} {b o:Nat} {v:Value} (he:Upd S h h1) (hb:sz h≤b∨S b):Upd S h (h1.put b o v) :=
  ⟨by rw [ZeH];exact he.size,fun k hk hs=>(Zdm fun e=>by subst e;exact hb.elim (fun h9=>by unfold sz at h9;omega) hs).trans (he.old k hk hs)⟩
theorem Zcc {S:Nat→Prop} {h h1:Zb} {b o:Nat} {vs:List Value} (he:Upd S h h1) (hb:sz h≤b∨S b):Upd S h (h1.puts b o vs) :=
  ⟨by rw [Ze8];exact he.size,fun k hk hs=>(Zce fun e=>by subst e;exact hb.elim (fun h9=>by unfold sz at h9;omega) hs).trans (he.old k hk hs)⟩
theorem ZS {h:Zb} {b:Nat} {x:Obj} (hb:obj h b=some x):b<sz h:=by
  unfold obj at hb
  rcases Nat.lt_or_ge b h.size with hl | hl
  ·exact hl
  ·rw [Array.getElem?_eq_none hl] at hb;cases hb
theorem Yh {h h':Zb} {b:Nat} {x:Obj} (hb:obj h b=some x) (e:Ext h h'):obj h' b=some x:=(Zbk e (ZS hb)).trans hb
theorem XM {S:Nat→Prop} {h h':Zb} {b:Nat} {x:Obj} (hb:obj h b=some x) (e:Upd S h h') (hs:¬ S b):obj h' b=some x:=(ZdJ e (ZS hb) hs).trans hb
theorem ZdK {h:Zb} {l:Nat} {o:Obj}:sz (setO h l o)=sz h:=by unfold sz setO;simp
theorem ZeI {h:Zb} {l k:Nat} {o:Obj} (hl:l<sz h):obj (setO h l o) k=if k=l then some o else obj h k:=by
  unfold obj setO
  by_cases hk:k=l
  ·subst hk
   rw [if_pos rfl,Array.getElem?_setIfInBounds_self_of_lt hl]
  ·rw [if_neg hk,Array.getElem?_setIfInBounds_ne (Ne.symm hk)]
theorem ZkZ {S:Nat→Prop} {h h1:Zb} {l:Nat} {o:Obj} (he:Upd S h h1) (hb:sz h≤l∨S l):Upd S h (setO h1 l o) :=
  ⟨by unfold setO;simp;exact he.size,fun k hk hs=>by
    unfold setO
    rw [Array.getElem?_setIfInBounds_ne (fun e=>by subst e;exact hb.elim (fun h9=>by unfold sz at h9;omega) hs)]
    exact he.old k hk hs⟩
theorem ZiJ {h h1:Zb} {l:Nat} {o:Obj} (he:Ext h h1) (hb:sz h≤l):Ext h (setO h1 l o) :=
  (ZkZ (S:=fun _=>False) (he.upd _) (.inl hb)).ext fun _ _ h=>h
theorem Zut {r:Loop} {l:Nat} {h:Zb} {K:Zb→Prop}:Zuu r l h K=(obj h l=some (ZeR r .ready none)∧K (setO h l (ZeR r .busy none))):=propext ⟨fun h=>h,fun h=>h⟩
theorem ZtH {D:Nat} {h:Zb} {K:Zb→Prop}:Zps D h K=(obj h D=some (.deferred (some []))∧K (setO h D (.deferred none))):=propext ⟨fun h=>h,fun h=>h⟩
theorem ZrK {n:Nat} {it:Yld→Nat→(Zb→Prop)→Zb→Prop} {body:Nat→Loop→List Value→Zb→(Option Code→Zb→Prop)→Prop} {h:Zb} {K:Option Code→Nat→Zb→Prop} :
    ZrL n it body h K=∀ r:Loop,it (Zor r (sz h+1) n (body (sz h+1) r)) (sz h+1)
     (fun h'=>∃ st p,st≠ .busy∧(obj h' (sz h+1)=some (ZeR r st p)∧K p (sz h) (setO h' (sz h+1) (ZeR r .exhausted p)))) ((h.push (.deferred (some []))).push (ZeR r .ready none)):=propext ⟨fun h=>h,fun h=>h⟩
theorem Zq7 {r:Loop} {l n:Nat} {body:List Value→Zb→(Option Code→Zb→Prop)→Prop} {l':Nat} {vs:List Value} {k:Bool→Zb→Prop} {h:Zb} :
    Zor r l n body l' vs k h=(l'=l∧vs.length=n∧(obj h l=some (ZeR r .ready none)∧body vs h fun p h'=>(obj h' l=some (ZeR r .busy none)∧k p.isNone (setO h' l (ZeR r (if p.isNone then .ready else .done) p))))):=propext ⟨fun h=>h,fun h=>h⟩
theorem Zsg {N:Prop} {X:Nat→Prop} {R:Prop}:Zud none N X R=N:=rfl
theorem Zs:(∀ {h:Zb} {cells:List Value} {t:TypeId} {K:Nat→Zb→Prop},newC h cells t K=K (sz h) (h.push (.cells cells.toArray t (0,0)))) ∧
  (∀ {h:Zb} {K:Nat→Zb→Prop},Zci h K=K (sz h) (h.push (.map #[] 0))) ∧
  (∀ {n:Int} {K:Int→Prop},Zc n K=K n) ∧
  (∀ {n:Bool} {K:Bool→Prop},ZG n K=K n) ∧
  (∀ {p K:Prop},ZH p K=(p∧K)) ∧
  (∀ {p K:Prop},Zfj p K=(p∧K)) ∧
  (∀ {b o:Nat} {K:Nat→Nat→Prop},Zd (some ⟨b,o,none⟩) K=K b o) ∧
  (∀ {A B:Prop},Zw true A B=A) ∧
  (∀ {A B:Prop},Zw false A B=B) ∧
  (∀ {h:Zb} {b o:Nat} {k:IntKind} {K:Int→Prop},ldI h b o k K=∃ n,ZL o (obj h b)=some (.int k n)∧K n) ∧
  (∀ {h:Zb} {b o:Nat} {K:Bool→Prop},ldB h b o K=∃ n,ZL o (obj h b)=some (.bool n)∧K n) ∧
  (∀ {h:Zb} {b o:Nat} {K:ByteArray→Prop},ldS h b o K=∃ n,ZL o (obj h b)=some (.string n)∧K n) ∧
  (∀ {h:Zb} {b o:Nat} {K:Option Addr→Prop},ldP h b o K=∃ n,ZL o (obj h b)=some (.pointer n)∧K n) ∧
  (∀ {h:Zb} {b o:Nat} {K:Option Nat→Prop},ldM h b o K=∃ n,ZL o (obj h b)=some (.map n)∧K n) ∧
  (∀ {h:Zb} {b o:Nat} {K:Value→Prop},ldV h b o K=∃ n,ZL o (obj h b)=some n∧K n) ∧
  (∀ {h:Zb} {b o:Nat} {K:Sl→Prop},ldL h b o K=∃ s:Sl,ZL o (obj h b)=some (slV s)∧K s) ∧
  (∀ {h:Zb} {b o:Nat} {v:Value} {K:Zb→Prop} (hf:Zft o (obj h b)=true) (hv:Zv v=true),st h b o v K=K (h.put b o v)) ∧
  (∀ {h:Zb} {b o:Nat} {vs:List Value} {K:Zb→Prop} (hf:ZnY o vs.length (obj h b)=true) (hv:vs.all Zv=true),sts h b o vs K=K (h.puts b o vs)) ∧
  (∀ {h:Zb} {x:Obj},sz (h.push x)=sz h+1) ∧
  (∀ {h:Zb} {b o:Nat} {v:Value},sz (h.put b o v)=sz h) ∧
  (∀ {h:Zb} {b o:Nat} {vs:List Value},sz (h.puts b o vs)=sz h) ∧
  (∀ {h:Zb} {x:Obj} {b:Nat},obj (h.push x) b=if b=sz h then some x else obj h b) ∧
  (∀ {h:Zb} {b o k:Nat} {v:Value},obj (h.put b o v) k=if k=b then Zkn o v (obj h k) else obj h k) ∧
  (∀ {b:Nat} {vs:List Value} {h:Zb} {o k:Nat},obj (h.puts b o vs) k=if k=b then ZgS o vs (obj h k) else obj h k) ∧
  (∀ {o:Nat} {v:Value} {l:List Value} {e:TypeId} {f:Nat × Nat},Zkn o v (some (.cells l.toArray e f))=some (.cells (l.set o v).toArray e f)) ∧
  (∀ {e:TypeId} {f:Nat × Nat},(∀ {vs:List Value} {o:Nat} {l:List Value},ZgS o vs (some (.cells l.toArray e f))=some (.cells (ZeK o vs l).toArray e f))) ∧
  (∀ {o:Nat} {l:List Value} {e:TypeId} {f:Nat × Nat},ZL o (some (.cells l.toArray e f))=l[o]?) ∧
  (∀ {o:Nat} {l:List Value} {e:TypeId},Zft o (some (.cells l.toArray e (0,0)))=decide (o<l.length)) ∧
  (∀ {o n:Nat} {l:List Value} {e:TypeId},ZnY o n (some (.cells l.toArray e (0,0)))=decide (o+n≤l.length)) ∧
  (∀ {h:Zb},Zi h []=True) ∧
  (∀ {h:Zb} {b o:Nat} {v:Value} {r:List (Nat × Nat × Value)},Zi h ((b,o,v)::r)=(ZL o (obj h b)=some v∧Zi h r)) ∧
  (∀ {h:Zb},Array.size h=sz h) ∧
  (∀ {s t:Sl},(slV s=slV t)=(s=t)) ∧
  (∀ {s:Sl},Value.slice s.ptr s.len s.cap=slV s) ∧
  (∀ {k:IntKind} {n:Int},Zv (.int k n)=true) ∧
  (∀ {b:Bool},Zv (.bool b)=true) ∧
  (∀ {b:ByteArray},Zv (.string b)=true) ∧
  (∀ {b:Option Addr},Zv (.pointer b)=true) ∧
  (∀ {b:Option Addr} {l c:Nat},Zv (.slice b l c)=true) ∧
  (∀ {s:Sl},Zv (slV s)=true) ∧
  (∀ {b:Option Nat},Zv (.map b)=true) ∧
  (∀ {t:TypeId} {v:Value},Zv (.iface t v)=true) ∧
  (Zv .nilIface=true) ∧
  (∀ {f:Fn} {a b:Array Value},Zv (.func f a b)=true) ∧
  (∀ (h:Zb),Ext h h) ∧
  (∀ {h h1:Zb} {x:Obj} (he:Ext h h1),Ext h (h1.push x)) ∧
  (∀ {h h1:Zb} {b o:Nat} {v:Value} (he:Ext h h1) (hb:sz h≤b),Ext h (h1.put b o v)) ∧
  (∀ {h h1:Zb} {b o:Nat} {vs:List Value} (he:Ext h h1) (hb:sz h≤b),Ext h (h1.puts b o vs)) ∧
  (∀ (p:Prop),(p∧p)=p) ∧
  (∀ (p:Prop),(True∧p)=p) ∧
  (∀ (p:Prop),(p∧True)=p) ∧
  (∀ (b:Bool),(b&&b)=b) ∧
  (∀ (b:Bool),(true&&b)=b) ∧
  (∀ (b:Bool),(b&&true)=b) ∧
  ((!true)=false) ∧
  ((!false)=true) ∧
  (∀ {p:Prop} [Decidable p],(decide p=true)=p) ∧
  (∀ (n:Nat),0+n=n) ∧
  (∀ (n:Nat),n+0=n) ∧
  (∀ (n m k:Nat),n+m+k=n+(m+k)) ∧
  (∀ {m k n:Nat},n+m=n+k↔m=k) ∧
  (∀ {a b:Nat},a+b=a↔b=0) ∧
  (∀ {a b:Nat},a=a+b↔b=0) ∧
  (∀ {m k n:Nat},n+m≤n+k↔m≤k) ∧
  (∀ (n k:Nat),n≤n+k) ∧
  (∀ (n:Nat),n≤n) ∧
  ((1:Nat)≠0) ∧
  (∀ {k n m:Nat},k+n<k+m↔n<m) ∧
  (∀ {n k:Nat},n<n+k↔0<k) :=
  ⟨@ZdM,@Zhj,@Y9,@YN,@ZhX,@ZlE,@Zuo,@ZnQ,@ZnR,@Zvs,@Zzy,@Zzs,@Zzt,@Zzv,@Zzq,@Zzw,@ZEo,@ZiV,@XB,@Zkd,@Zdi,@Zt1,@ZrV,@ZiF,@Zii,@Zeh,@Zhg,@Zlk,@Zg3,@ZcR,@Zbd,@ZE,@Zy7,@Zrz,@YW,@ZdX,@Zf8,@ZhV,@Zzc,@ZgR,@ZnG,@Zhf,@ZtZ,@Zze,@Ext.refl,@ZO,@Zsw,@Z3,@and_self,@true_and,@and_true,@Bool.and_self,@Bool.true_and,@Bool.and_true,Bool.not_true,Bool.not_false,@decide_eq_true_eq,@Nat.zero_add,@Nat.add_zero,@Nat.add_assoc,@Nat.add_left_cancel_iff,@Nat.add_eq_left,@Nat.left_eq_add,@Nat.add_le_add_iff_left,@Nat.le_add_right,@Nat.le_refl,Nat.one_ne_zero,@Nat.add_lt_add_iff_left,@Nat.lt_add_right_iff_pos⟩
theorem Zr:(∀ (b o:Nat) (s:Option Nat) (b' o':Nat) (s':Option Nat),(Addr.mk b o s=Addr.mk b' o' s')=(b=b'∧o=o'∧s=s')) ∧
  (∀ (k:IntKind) (n:Int) (k':IntKind) (n':Int),(Value.int k n=Value.int k' n')=(k=k'∧n=n')) ∧
  (∀ (b b':Bool),(Value.bool b=Value.bool b')=(b=b')) ∧
  (∀ (s s':ByteArray),(Value.string s=Value.string s')=(s=s')) ∧
  (∀ (a a':Option Addr),(Value.pointer a=Value.pointer a')=(a=a')) ∧
  (∀ (r r':Option Nat),(Value.map r=Value.map r')=(r=r')) ∧
  (∀ {α β:Type} (a:α) (f:α→β),Option.map f (some a)=some (f a)) ∧
  (∀ {α:Type} {a b:α},Option.getD (some a) b=a) ∧
  (∀ {α:Type} {a:α},Option.getD none a=a) ∧
  (∀ {α:Type} {a:α},Option.isSome (some a)=true) ∧
  (∀ {α:Type},Option.isSome (none:Option α)=false) ∧
  (∀ {α:Type} {a:α},Option.isNone (some a)=false) ∧
  (∀ {α:Type},Option.isNone (none:Option α)=true) ∧
  (∀ {α:Type} (a a':α),(some a=some a')=(a=a')) ∧
  (∀ {α:Type} {a:α} {l:List α} {f:α→Bool},List.all (a::l) f=(f a&&List.all l f)) ∧
  (∀ {α:Type} {f:α→Bool},List.all [] f=true) ∧
  (∀ {α:Type} {a:α} {l:List α},List.length (a::l)=List.length l+1) ∧
  (∀ {α:Type},List.length ([]:List α)=0) ∧
  (∀ {α:Type} {x:α} {xs:List α} {a:α},List.set (x::xs) 0 a=a::xs) ∧
  (∀ {α:Type} {x:α} {xs:List α} {i:Nat} {a:α},List.set (x::xs) (i+1) a=x::List.set xs i a) ∧
  (∀ {α:Type} {a:α} {l:List α},(a::l)[0]?=some a) ∧
  (∀ {α:Type} {a:α} {i:Nat} {l:List α},(a::l)[i+1]?=l[i]?) ∧
  (∀ {α:Type} {i:Nat},([]:List α)[i]?=none) ∧
  (∀ {α β:Type} (a:α) (b:β) (a':α) (b':β),((a,b)=(a',b'))=(a=a'∧b=b')) ∧
  (∀ {α:Type} {p:α→Prop} {a':α},(∃ a,a=a'∧p a)↔p a') ∧
  (∀ {α:Type} {p:α→Prop} {a':α},(∃ a,a'=a∧p a)↔p a') ∧
  (∀ (h:Decidable True),@decide True h=true) ∧
  (∀ (h:Decidable False),@decide False h=false) :=
  ⟨@Addr.mk.injEq,@Value.int.injEq,@Value.bool.injEq,@Value.string.injEq,@Value.pointer.injEq,@Value.map.injEq,@Option.map_some,@Option.getD_some,@Option.getD_none,@Option.isSome_some,@Option.isSome_none,@Option.isNone_some,@Option.isNone_none,@Option.some.injEq,@List.all_cons,@List.all_nil,@List.length_cons,@List.length_nil,@List.set_cons_zero,@List.set_cons_succ,@List.getElem?_cons_zero,@List.getElem?_cons_succ,@List.getElem?_nil,@Prod.mk.injEq,@exists_eq_left,@exists_eq_left',@decide_true,@decide_false⟩
theorem evC:(∀ {α:Type} {i:Decidable True} (t e:α),@ite α True i t e=t)∧(∀ {α:Type} {i:Decidable False} (t e:α),@ite α False i t e=e) ∧
    (∀ (o:Nat) (l:List Value),ZeK o [] l=l)∧(∀ (o:Nat) (v:Value) (vs l:List Value),ZeK o (v::vs) l=ZeK (o+1) vs (l.set o v))∧(∀ a:Nat,(a ==a)=true) :=
  ⟨fun _ _=>if_pos trivial,fun _ _=>if_neg id,fun _ _=>rfl,fun _ _ _ _=>rfl,fun a=>beq_self_eq_true a⟩
end Go.Fw
namespace Go.Proofs.YtbppjmcinoffnaaGreat.Tk
open Go Go.Fw
open Nat renaming reduceAdd→Nqa,reduceLT→Nqb,reduceLeDiff→Nqc,reduceEqDiff→Nqd,reduceMul→Nqe
abbrev C6:=Int × Int × Int × Int × Int × Int × Unit
def Zcf (a b:Int):Int:=IntKind.wrap .i64 (Zjf a (IntKind.wrap .i64 (4611686018427387904 - b))+b)
theorem ZrO {a b:Int} {K:Int→Zb→Prop} {h:Zb}:Zei a b K h=K (Zcf a b) h:=propext ⟨fun h=>h,fun h=>h⟩
def ZyZ (a b:C6):C6:=(Zcf a.1 b.1,Zcf a.2.1 b.2.1,Zcf a.2.2.1 b.2.2.1,Zcf a.2.2.2.1 b.2.2.2.1,Zcf a.2.2.2.2.1 b.2.2.2.2.1,
  (if a.2.2.1=0 then b.2.2.2.2.2.1 else if b.2.2.1=0 then a.2.2.2.2.2.1 else Zjf a.2.2.2.2.2.1 b.2.2.2.2.2.1),())
def c6L (c:C6):List Value:=[iv c.1,iv c.2.1,iv c.2.2.1,iv c.2.2.2.1,iv c.2.2.2.2.1,iv c.2.2.2.2.2.1]
theorem ZmC {a b:Int} {A B:Prop} (h1:a=b→A) (h2:a≠b→B):Zw (a ==b) A B:=⟨fun h=>h1 (by simpa using h),fun h=>h2 (by simpa using h)⟩
theorem Zou {a b:C6} {K:C6→Zb→Prop} {h:Zb} (hk:∀ h',Ext h h'→K (ZyZ a b) h'):ZbS a b K h:=by
  unfold ZbS Zgc
  refine ZbA (fun t h'=>∃ q,t=(some ⟨q,0,none⟩,())∧Ext h h'∧sz h+3≤q∧q<sz h'∧obj h' (sz h)=some (.cells (c6L a).toArray 305 (0,0))∧obj h' (sz h+1)=some (.cells (c6L b).toArray 305 (0,0))∧obj h' (sz h+2)=some (.cells [iv 0,iv 0,iv 0,iv 0,iv 0,iv 0].toArray 305 (0,0)) ∧
      obj h' q=some (.cells [iv (Zcf a.1 b.1),iv (Zcf a.2.1 b.2.1),iv (Zcf a.2.2.1 b.2.2.1),iv (Zcf a.2.2.2.1 b.2.2.2.1),iv (Zcf a.2.2.2.2.1 b.2.2.2.2.1),iv 0].toArray 305 (0,0))) ?_ ?_
  ·rintro _ h' ⟨q,rfl,he,hq,hq2,h0,h1,h2,h3⟩
   dsimp only
   have n0:(sz h=q)=False:=eq_false (by omega)
   have n1:(sz h+1=q)=False:=eq_false (by omega)
   have n2:(sz h+2=q)=False:=eq_false (by omega)
   have n3:(q=sz h+2)=False:=eq_false (by omega)
   have sh:sz h≤q:=by omega
   have fin:∀ (r:C6) (h9:Zb),r=ZyZ a b→Ext h h9→K r h9:=fun r h9 e1 e2=>by subst e1;exact hk h9 e2
   simp (maxDischargeDepth:=60) only [Zs,Zr,evC,Nqa,Nqb,Nqc,Nqd,Nqe,reduceCtorEq,h0,h1,h2,h3,c6L,n0,n1,n2,n3,sh,he,if_false]
   refine ZmC (fun q1=>?_) fun q1=>ZmC (fun q2=>?_) fun q2=>?_
   all_goals
     refine fin _ _ ?_ ?_
     ·simp [ZyZ,q1];try simp [q2]
     ·simp +arith (maxDischargeDepth:=60) only [Z3,Zsw,he,sh]
  ·simp (maxDischargeDepth:=60) only [Zs,Zr,evC,Nqa,Nqb,Nqc,Nqd,Nqe,reduceCtorEq,ZrO,c6L]
theorem ZnI (a b:Int):Zjf a b=min a b:=by unfold Zjf;split<;>omega
theorem ZwO (a b:Int):Zqf a b=max a b:=by unfold Zqf;split<;>omega
theorem ZiC {a b:Int} (ha:0≤a∧a≤4611686018427387904) (hb:0≤b∧b≤4611686018427387904):Zcf a b=min a (4611686018427387904 - b)+b:=by
  unfold Zcf
  rw [ZR (n:=4611686018427387904 - b) (by omega) (by omega),ZnI,ZR (by omega) (by omega)]
theorem Zi8 {a b:Int} (ha:0≤a∧a≤4611686018427387904) (hb:0≤b∧b≤4611686018427387904):0≤Zcf a b∧Zcf a b≤4611686018427387904:=by
  rw [ZiC ha hb];omega
theorem ZpI {a:Int} (ha:0≤a∧a≤4611686018427387904):Zcf a 0=a:=by
  rw [ZiC ha (by omega)];omega
def c6 (x:Int):C6:=(x,0,0,0,0,0,())
def c6V (x:Int):Value:= .agg (c6L (c6 x)).toArray
theorem Zvd (a b:Int):ZyZ (c6 a) (c6 b)=c6 (Zcf a b):=by
  have:Zcf 0 0=0:=by decide
  simp [ZyZ,c6,this]
def bkt (t:Int):Int:=t / 100000
theorem ZtB {t:Int} (h0:0≤t) (h1:t≤1152921504606846976):IntKind.wrap .i64 (Int.tdiv t 100000)=bkt t:=by
  unfold bkt
  rw [Int.tdiv_eq_ediv_of_nonneg h0,ZR (by omega) (by omega)]
theorem Zob {t:Int} (h0:0≤t) (h1:t≤1152921504606846976):0≤bkt t∧bkt t≤11529215046069:=by unfold bkt;omega
theorem Zo3 {s t:Int} (h:s≤t):bkt s≤bkt t:=by unfold bkt;omega
structure Win where
  last:Int
  p:Int→Int
structure Win.OK (w:Win):Prop where
  lo:0≤w.last
  hi:w.last≤1152921504606846976
  p:∀ i,0≤w.p i∧w.p i≤4611686018427387904
structure Zoj (h:Zb) (wb mb:Nat) (w:Win):Prop where
  ok:w.OK
  cells:obj h wb=some (.cells [iv 1000000,iv 10,iv w.last,.map (some mb)].toArray 214 (0,0))
  map:∃ f n,Ze4 h mb f n∧(∀ i v,f i=some v→∃ x,v=c6V x∧0≤x∧x≤4611686018427387904)∧∀ i,bkt w.last - 10<i→f i=some (c6V (w.p i))∨(f i=none∧w.p i=0)
theorem Zoj.mlt {h:Zb} {wb mb:Nat} {w:Win} (hw:Zoj h wb mb w):mb<sz h:=by
  obtain ⟨f,n,hm,_⟩:=hw.map
  exact hm.lt
theorem Zoj.congr {h h':Zb} {wb mb:Nat} {w:Win} (hw:Zoj h wb mb w) (h1:obj h' wb=obj h wb) (h2:obj h' mb=obj h mb):Zoj h' wb mb w:=by
  obtain ⟨f,n,hm,r⟩:=hw.map
  exact ⟨hw.ok,h1.trans hw.cells,f,n,hm.congr h2,r⟩
def Zao (last at_:Int):Int:=if at_<0 then 2 else if at_>1152921504606846976 then 2 else if at_<last then 7 else 0
theorem Ze5 {last at_:Int} (h:Zao last at_=0):0≤at_∧at_≤1152921504606846976∧last≤at_:=by
  unfold Zao at h
  split at h
  ·cases h
  ·split at h
   ·cases h
   ·split at h
    ·cases h
    ·omega
theorem Zkb {h:Zb} {wb mb:Nat} {w:Win} (hw:Zoj h wb mb w) {at_:Int} {K:Int→Zb→Prop} (hk:K (Zao w.last at_) h):YO (some ⟨wb,0,none⟩) at_ K h:=by
  unfold YO ZbW
  unfold Zao at hk
  simp (maxDischargeDepth:=60) only [Zs,Zr,evC,Nqa,Nqb,Nqc,Nqd,Nqe,reduceCtorEq,hw.cells]
  refine Zj (fun q=>?_) fun q=>Zj (fun q2=>?_) fun q2=>Zj (fun q3=>?_) fun q3=>?_
  ·rw [if_pos q] at hk;exact hk
  ·rw [if_neg q,if_pos q2] at hk;exact hk
  ·rw [if_neg q,if_neg q2,if_pos q3] at hk;exact hk
  ·rw [if_neg q,if_neg q2,if_neg q3] at hk;exact hk
theorem ZmZ {h:Zb} {wb:Nat} {r:List Value} (hc:obj h wb=some (.cells (iv 1000000::iv 10::r).toArray 214 (0,0))) {at_:Int} (h0:0≤at_) (h1:at_≤1152921504606846976) {K:Int→Zb→Prop} :
    Yt (some ⟨wb,0,none⟩) at_ K h=K (bkt at_) h:=by
  unfold Yt ZbC
  have e1:(IntKind.wrap .i64 (Int.tdiv 1000000 10))=100000:=by decide
  simp (maxDischargeDepth:=60) only [Zs,Zr,evC,Nqa,Nqb,Nqc,Nqd,Nqe,reduceCtorEq,hc,e1,ZtB h0 h1]
  simp
def loW (at_:Int):Int:=max 0 (bkt at_ - 9)
theorem ZdD {h:Zb} {w:Option Addr} {at_:Int} {K:(Option Addr × Option Addr × Unit)→Zb→Prop}:ZaL w at_ K h=K (some ⟨sz h,0,none⟩,some ⟨sz h+1,0,none⟩,()) ((h.push (.cells [.pointer w].toArray 180 (0,0))).push (.cells [iv at_].toArray 3 (0,0))):=by
  unfold ZaL Zdu
  simp (maxDischargeDepth:=60) only [Zs,Zr,evC,Nqa,Nqb,Nqc,Nqd,Nqe,reduceCtorEq]
theorem Zuz {Y:Yld} {y:Nat} {b1 b2 wb mb:Nat} {w:Win} {at_:Int} {h0:Zb} {T1 T2:TypeId} (hw:Zoj h0 wb mb w) (hb1:obj h0 b1=some (.cells [.pointer (some ⟨wb,0,none⟩)].toArray T1 (0,0)))
    (hb2:obj h0 b2=some (.cells [iv at_].toArray T2 (0,0))) (ha:Zao w.last at_=0) {S:Nat→Prop} (hS:∀ k,S k→k<sz h0) (s1:¬ S b1) (s2:¬ S b2) (s3:¬ S wb) (s4:¬ S mb)
    (J:Int→Zb→Prop) (hJe:∀ i h h',J i h→Ext h h'→J i h')
    (hN:∀ i h,J i h→w.p i=0→J (i+1) h)
    (hY:∀ i h (K:Bool→Zb→Prop),J i h→Upd S h0 h→(∀ h',J (i+1) h'→Upd S h h'→K true h')→Y y [.agg (iv (IntKind.wrap .i64 (i*100000))::c6L (c6 (w.p i))).toArray] K h)
    {K:Zb→Prop} (hJ:J (loW at_) h0) (hk:∀ h,J (bkt at_+1) h→Upd S h0 h→K h):Zaa Y y (some ⟨b1,0,none⟩) (some ⟨b2,0,none⟩) K h0:=by
  obtain ⟨a0,a1,a2⟩:=Ze5 ha
  have hbk:=Zob a0 a1
  have hbm:=Zo3 a2
  unfold Zaa Zcl
  have e1:(IntKind.wrap .i64 (Int.tdiv 1000000 10))=100000:=by decide
  have e2:Zqf 0 (IntKind.wrap .i64 ((IntKind.wrap .i64 (bkt at_ - 10))+1))=loW at_:=by
    rw [ZR (n:=bkt at_ - 10) (by omega) (by omega),ZR (by omega) (by omega),ZwO]
    unfold loW
    congr 1
    omega
  simp (maxDischargeDepth:=60) only [Zs,Zr,evC,Nqa,Nqb,Nqc,Nqd,Nqe,reduceCtorEq,hb1,hb2,hw.cells,ZmZ hw.cells a0 a1,e2]
  refine Yc (fun s h=>∃ i,s=(i,())∧loW at_≤i∧i≤bkt at_+1∧J i h∧Upd S h0 h) (fun s _=>(bkt at_+1 - s.1).toNat) ⟨_,rfl,Int.le_refl _,by unfold loW;omega,hJ,Upd.refl _ _⟩ ?_
  rintro _ h ⟨i,rfl,hi0,hi1,hJi,hu⟩
  dsimp only
  have hi2:bkt at_ - 9≤i∧0≤i:=by unfold loW at hi0;omega
  refine Zj (fun q=>?_) fun q=>hk h (by rw [show bkt at_+1=i from by omega];exact hJi) hu
  have l1:=ZS hb1
  have l3:=ZS hw.cells
  have c1:obj h b1=some (.cells [.pointer (some ⟨wb,0,none⟩)].toArray T1 (0,0)):=(ZdJ hu l1 s1).trans hb1
  have c3:obj h wb=some (.cells [iv 1000000,iv 10,iv w.last,.map (some mb)].toArray 214 (0,0)):=(ZdJ hu l3 s3).trans hw.cells
  have hsz:sz h0≤sz h:=hu.size
  have n1:b1<sz h:=by omega
  have n3:wb<sz h:=by omega
  have hwr:IntKind.wrap .i64 (i+1)=i+1:=ZR (by omega) (by omega)
  obtain ⟨f,n,hm,hfv,hfp⟩:=(hw.congr (h':=h) (ZdJ hu l3 s3) (ZdJ hu hw.mlt s4)).map
  simp (maxDischargeDepth:=60) only [Zs,Zr,evC,Nqa,Nqb,Nqc,Nqd,Nqe,reduceCtorEq,c1,c3]
  refine hm.get i ?_
  rcases hfp i (by omega) with hf | ⟨hf,hp⟩
  ·rw [hf]
   refine ⟨c6 (w.p i),rfl,?_⟩
   simp (maxDischargeDepth:=60) only [Zs,Zr,evC,Nqa,Nqb,Nqc,Nqd,Nqe,reduceCtorEq,c6,c1,c3,ZgT n1,YH n1,ZgT n3,YH n3,ZpQ n1,Zik n1,ZpQ n3,Zik n3,e1]
   refine ⟨by decide,hY i _ _ (hJe _ _ _ hJi ?_) ?_ fun h' hJ' hu'=>?_⟩
   ·simp (maxDischargeDepth:=60) only [Zs,Zr,evC,Nqa,Nqb,Nqc,Nqd,Nqe,reduceCtorEq]
   ·exact Zcc (Zgp hu) (.inl (by omega))
   ·have hsz':sz h+1≤sz h':=by have:=hu'.size;simp only [ZE,XB,Zdi] at this;exact this
    have ns:∀ k,sz h0≤k→¬ S k:=fun k hk hs=>by have:=hS k hs;omega
    have g0:=ZdJ hu' (b:=sz h) (by simp only [XB,Zdi];omega) (ns _ hsz)
    have g1:=ZdJ hu' (b:=b1) (by simp only [XB,Zdi];omega) s1
    have g3:=ZdJ hu' (b:=wb) (by simp only [XB,Zdi];omega) s3
    simp (maxDischargeDepth:=60) only [Zs,Zr,evC,Nqa,Nqb,Nqc,Nqd,Nqe,reduceCtorEq,g0,g1,g3,c1,c3,ZgT n1,YH n1,ZgT n3,YH n3,c6,hwr]
    refine ⟨⟨by omega,by omega,hJ',?_⟩,by omega⟩
    ·refine (Upd.then (T:=S) (Zcc (Zgp hu) (.inl hsz)) hu' fun k hk hs=>hs)
  ·rw [hf]
   refine ⟨c6 0,rfl,?_⟩
   simp (maxDischargeDepth:=60) only [Zs,Zr,evC,Nqa,Nqb,Nqc,Nqd,Nqe,reduceCtorEq,c6,hwr]
   refine ⟨⟨by omega,by omega,hN i _ (hJe _ _ _ hJi ?_) hp,?_⟩,by omega⟩
   ·simp (maxDischargeDepth:=60) only [Zs,Zr,evC,Nqa,Nqb,Nqc,Nqd,Nqe,reduceCtorEq]
   ·exact Zcc (Zgp hu) (.inl (by omega))
def Zvh (p:Int→Int):Nat→Int→Int→Int
  | 0,_,acc=>acc
  | n+1,i,acc=>Zvh p n (i+1) (Zcf acc (p i))
def Zir (p:Int→Int) (lo i:Int):Int:=Zvh p (i - lo).toNat lo 0
theorem Zmc (p:Int→Int):∀ (n:Nat) (i acc:Int),Zvh p (n+1) i acc=Zcf (Zvh p n i acc) (p (i+n))
  | 0,i,acc=>by simp [Zvh]
  | n+1,i,acc=>by
    have:=Zmc p n (i+1) (Zcf acc (p i))
    show Zvh p (n+1) (i+1) (Zcf acc (p i))=_
    rw [this]
    show Zcf _ _=Zcf (Zvh p n (i+1) (Zcf acc (p i))) _
    congr 2
    omega
theorem ZhI (p:Int→Int) {lo i:Int} (h:lo≤i):Zir p lo (i+1)=Zcf (Zir p lo i) (p i):=by
  unfold Zir
  rw [show (i+1 - lo).toNat=(i - lo).toNat+1 from by omega,Zmc]
  congr 2
  omega
theorem Zoy (p:Int→Int) (lo:Int):Zir p lo lo=0:=by unfold Zir;simp [Zvh]
theorem Zrt {p:Int→Int} (hp:∀ i,0≤p i∧p i≤4611686018427387904) (lo:Int) (n:Nat):0≤Zir p lo (lo+n)∧Zir p lo (lo+n)≤4611686018427387904:=by
  induction n with
  | zero=>rw [show lo+((0:Nat):Int)=lo from by omega,Zoy];omega
  | succ n ih =>
    rw [show lo+((n+1:Nat):Int)=lo+n+1 from by omega,ZhI p (by omega)]
    exact Zi8 ih (hp _)
def Win.sum (w:Win) (at_:Int):Int:=Zir w.p (loW at_) (bkt at_+1)
theorem Zpo {p:Int→Int} (hp:∀ i,0≤p i∧p i≤4611686018427387904) {lo i:Int} (h:lo≤i):0≤Zir p lo i∧Zir p lo i≤4611686018427387904:=by
  have:=Zrt hp lo (i - lo).toNat
  rwa [show lo+((i - lo).toNat:Int)=i from by omega] at this
theorem ZuG {h:Zb} {wb mb:Nat} {w:Win} (hw:Zoj h wb mb w) {at_:Int} {K:C6→Int→Zb→Prop}
    (hk:∀ h',Ext h h'→K (c6 (if Zao w.last at_=0 then w.sum at_ else 0)) (Zao w.last at_) h'):Zat (some ⟨wb,0,none⟩) at_ K h:=by
  unfold Zat ZcX
  have l3:=ZS hw.cells
  have l4:=hw.mlt
  simp (maxDischargeDepth:=60) only [Zs,Zr,evC,Nqa,Nqb,Nqc,Nqd,Nqe,reduceCtorEq]
  refine Zkb (hw.congr (by simp (maxDischargeDepth:=60) only [Zs,Zr,evC,Nqa,Nqb,Nqc,Nqd,Nqe,reduceCtorEq,YH l3]) (by simp (maxDischargeDepth:=60) only [Zs,Zr,evC,Nqa,Nqb,Nqc,Nqd,Nqe,reduceCtorEq,YH l4])) ?_
  rcases Decidable.em (Zao w.last at_=0) with he | he
  ·rw [if_pos he] at hk
   rw [he] at hk ⊢
   obtain ⟨a0,a1,a2⟩:=Ze5 he
   have hbk:=Zob a0 a1
   simp (maxDischargeDepth:=60) only [Zs,Zr,evC,Nqa,Nqb,Nqc,Nqd,Nqe,reduceCtorEq,bne_self_eq_false,ZdD,ZrK]
   intro r
   have hlo:loW at_≤bkt at_+1:=by unfold loW;omega
   have n3:=ZgT l3
   have n30:=YH l3
   have n4:=ZgT l4
   have n40:=YH l4
   refine Zuz (w:=w) (at_:=at_) (wb:=wb) (mb:=mb) (hw.congr ?_ ?_) ?_ ?_ he (S:=fun k=>k=sz h+1∨k=sz h+5) ?_ ?_ ?_ ?_ ?_
     (fun i hh=>obj hh (sz h+5)=some (ZeR r .ready none)∧obj hh (sz h+4)=some (.deferred (some []))∧obj hh (sz h+1)=some (.cells (c6L (c6 (Zir w.p (loW at_) i))).toArray 305 (0,0)) ∧
       obj hh (sz h)=some (.cells [iv 0,iv 0,iv 0,iv 0,iv 0,iv 0].toArray 305 (0,0))∧Ext h hh∧loW at_≤i) (T1:=180) (T2:=3) ?_ ?_ ?_ ?_ ?_
   ·simp (maxDischargeDepth:=60) only [Zs,Zr,evC,Nqa,Nqb,Nqc,Nqd,Nqe,reduceCtorEq,n3,n30]
   ·simp (maxDischargeDepth:=60) only [Zs,Zr,evC,Nqa,Nqb,Nqc,Nqd,Nqe,reduceCtorEq,n4,n40]
   ·simp (maxDischargeDepth:=60) only [Zs,Zr,evC,Nqa,Nqb,Nqc,Nqd,Nqe,reduceCtorEq]
   ·simp (maxDischargeDepth:=60) only [Zs,Zr,evC,Nqa,Nqb,Nqc,Nqd,Nqe,reduceCtorEq]
   ·intro k hk9
    simp (maxDischargeDepth:=60) only [Zs,Zr,evC,Nqa,Nqb,Nqc,Nqd,Nqe,reduceCtorEq]
    omega
   ·omega
   ·omega
   ·omega
   ·omega
   ·rintro i hh h' ⟨j1,j2,j3,j4,j5,j6⟩ e
    exact ⟨Yh j1 e,Yh j2 e,Yh j3 e,Yh j4 e,j5.trans e,j6⟩
   ·rintro i hh ⟨j1,j2,j3,j4,j5,j6⟩ hp
    rw [ZhI _ j6,hp,ZpI (Zpo hw.ok.p j6)]
    exact ⟨j1,j2,j3,j4,j5,by omega⟩
   ·rintro i hh K9 ⟨j1,j2,j3,j4,j5,j6⟩ hu hK9
    rw [Zq7]
    refine ⟨rfl,rfl,j1,⟨((IntKind.wrap .i64 (i*100000),w.p i,0,0,0,0,0,()),()),rfl,?_⟩⟩
    have g1:=ZS j1
    have g2:=ZS j2
    have g3:=ZS j3
    have g4:=ZS j4
    have g5:sz h+5<sz hh+1:=by omega
    have nn:∀ k,k≤5→(sz h+k=sz hh)=False∧(sz hh=sz h+k)=False:=fun k hk=>⟨eq_false (by omega),eq_false (by omega)⟩
    have m1:=nn 1 (by omega)
    have m5:=nn 5 (by omega)
    simp (maxDischargeDepth:=60) only [Zs,Zr,evC,Nqa,Nqb,Nqc,Nqd,Nqe,reduceCtorEq,Zut,ZeI,ZdK,j1,j3,m1.1,m1.2,m5.1,m5.2,c6L,c6,g5]
    refine Zou (a:=c6 (Zir w.p (loW at_) i)) (b:=c6 (w.p i)) fun h' e'=>?_
    have z':=X6 e'
    simp (maxDischargeDepth:=60) only [Zs,Zr,evC,Nqa,Nqb,Nqc,Nqd,Nqe,reduceCtorEq,ZdK] at z'
    have g6:sz h+5<sz h':=by omega
    have o1:=Zbk e' (b:=sz h+1) (by simp (maxDischargeDepth:=60) only [Zs,Zr,evC,Nqa,Nqb,Nqc,Nqd,Nqe,reduceCtorEq,ZdK];omega)
    have o5:=Zbk e' (b:=sz h+5) (by simp (maxDischargeDepth:=60) only [Zs,Zr,evC,Nqa,Nqb,Nqc,Nqd,Nqe,reduceCtorEq,ZdK];omega)
    have o4:=Zbk e' (b:=sz h+4) (by simp (maxDischargeDepth:=60) only [Zs,Zr,evC,Nqa,Nqb,Nqc,Nqd,Nqe,reduceCtorEq,ZdK];omega)
    have o0:=Zbk e' (b:=sz h) (by simp (maxDischargeDepth:=60) only [Zs,Zr,evC,Nqa,Nqb,Nqc,Nqd,Nqe,reduceCtorEq,ZdK];omega)
    have m4:=nn 4 (by omega)
    have m0:(sz h=sz hh)=False:=eq_false (by omega)
    simp (maxDischargeDepth:=60) only [Zs,Zr,evC,Nqa,Nqb,Nqc,Nqd,Nqe,reduceCtorEq,ZeI,ZdK,j1,j2,j3,j4,m0,m1.1,m4.1,m5.1,m1.2,m4.2,m5.2,g5] at o1 o5 o4 o0
    rw [Zvd,← ZhI _ j6]
    simp (maxDischargeDepth:=60) only [Zs,Zr,evC,Nqa,Nqb,Nqc,Nqd,Nqe,reduceCtorEq,ZeI,ZdK,o1,o5,g6,c6L,c6]
    refine hK9 _ ⟨?_,?_,?_,?_,?_,by omega⟩ ?_
    ·simp (maxDischargeDepth:=60) only [Zs,Zr,evC,Nqa,Nqb,Nqc,Nqd,Nqe,reduceCtorEq,ZeI,ZdK,g6]
    ·simp (maxDischargeDepth:=60) only [Zs,Zr,evC,Nqa,Nqb,Nqc,Nqd,Nqe,reduceCtorEq,ZeI,ZdK,g6,o4]
    ·simp (maxDischargeDepth:=60) only [Zs,Zr,evC,Nqa,Nqb,Nqc,Nqd,Nqe,reduceCtorEq,ZeI,ZdK,g6,o1,c6L,c6]
    ·simp (maxDischargeDepth:=60) only [Zs,Zr,evC,Nqa,Nqb,Nqc,Nqd,Nqe,reduceCtorEq,ZeI,ZdK,g6,o0]
    ·exact ZiJ (Z3 ((ZiJ (Z3 (ZO j5) (by omega)) (by omega)).trans e') (by omega)) (by omega)
    ·exact ZkZ (Zcc ((ZkZ (Zcc (Zgp (Upd.refl _ _)) (.inl (by omega))) (.inr (.inr rfl))).trans (e'.upd _)) (.inr (.inl rfl))) (.inr (.inr rfl))
   ·simp (maxDischargeDepth:=60) only [Zs,Zr,evC,Nqa,Nqb,Nqc,Nqd,Nqe,reduceCtorEq,Zoy,c6L,c6,Int.le_refl]
   ·rintro hh ⟨j1,j2,j3,j4,j5,j6⟩ hu
    refine ⟨.ready,none,by decide,j1,?_⟩
    have g1:=ZS j1
    have g2:=ZS j2
    rw [Zsg]
    simp (maxDischargeDepth:=60) only [Zs,Zr,evC,Nqa,Nqb,Nqc,Nqd,Nqe,reduceCtorEq,ZeI,ZdK,ZtH,j1,j2,j3,j4,g1,g2,c6L,c6]
    exact hk _ (ZiJ (Z3 (ZiJ j5 (by omega)) (by omega)) (by omega))
  ·have:(Zao w.last at_ !=0)=true:=by simpa using he
   rw [this]
   rw [if_neg he] at hk
   simp (maxDischargeDepth:=60) only [Zs,Zr,evC,Nqa,Nqb,Nqc,Nqd,Nqe,reduceCtorEq]
   exact hk _ (by simp (maxDischargeDepth:=60) only [Zs,Zr,evC,Nqa,Nqb,Nqc,Nqd,Nqe,reduceCtorEq])
theorem ZoD {h:Zb} {s:Sl} {size:Nat} {vs:List Value} (hr:Row h s size vs) {i:Nat} (hi:i<s.len):∃ b o,(∀ {K:Nat→Nat→Prop} {n:Int},n=(i:Int)→K b o→Zap s.ptr s.len n size K)∧∀ j v,j<size→vs[i*size+j]?=some v→ZL (o+j) (obj h b)=some v:=by
  rcases hr.at_ with h0 | ⟨b,o,hp,hh⟩
  ·omega
  ·refine ⟨b,o+i*size,fun {K n} hn hk=>?_,fun j v hj hv=>?_⟩
   ·subst hn
    exact ⟨b,o,hp,by omega,by omega,by simpa using hk⟩
   ·have:=Zh1 hh hv
    rw [Yw,← Nat.add_assoc] at this
    exact this
theorem Zkj {x:Int} (hx:0≤x∧x≤4611686018427387904) {K:Bool→Zb→Prop} {h:Zb} (hk:∀ h',Ext h h'→K true h'):ZaU (c6 x) K h:=by
  unfold ZaU ZeT
  simp (maxDischargeDepth:=60) only [Zs,Zr,evC,Nqa,Nqb,Nqc,Nqd,Nqe,reduceCtorEq,c6]
  refine Yc (fun s hh=>∃ i:Int,s=(i,())∧0≤i∧i≤6∧hh=((h.push (.cells [iv x,iv 0,iv 0,iv 0,iv 0,iv 0].toArray 305 (0,0))).push (.cells [iv x,iv 0,iv 0,iv 0,iv 0,iv 0].toArray 3 (0,0)))) (fun s _=>(6 - s.1).toNat) ⟨0,rfl,by omega,by omega,rfl⟩ ?_
  rintro _ _ ⟨i,rfl,hi0,hi,rfl⟩
  dsimp only
  refine Zj (fun q=>?_) fun q=>?_
  ·refine ⟨_,_,rfl,by omega,by omega,?_⟩
   have hwr:IntKind.wrap .i64 (i+1)=i+1:=ZR (by omega) (by omega)
   have h6:i=0∨i=1∨i=2∨i=3∨i=4∨i=5:=by omega
   have d1:decide (x<0)=false:=by simp;omega
   have d2:decide (x>4611686018427387904)=false:=by simp;omega
   have d3:decide ((0:Int)<0)=false:=by decide
   have d4:decide ((0:Int)>4611686018427387904)=false:=by decide
   rcases h6 with rfl | rfl | rfl | rfl | rfl | rfl<;>simp (maxDischargeDepth:=60) only [Zs,Zr,evC,Nqa,Nqb,Nqc,Nqd,Nqe,reduceCtorEq,Nat.mul_one,d1,d2,d3,d4,hwr,Int.toNat_zero,Int.reduceToNat]<;>exact ⟨⟨by omega,by omega⟩,by omega⟩
  ·simp (maxDischargeDepth:=60) only [Zs,Zr,evC,Nqa,Nqb,Nqc,Nqd,Nqe,reduceCtorEq]
   simp [ZnQ,ZnR]
   exact hk _ (ZO (ZO (Ext.refl _)))
theorem ZtU {a:Int} (ha:0≤a∧a≤4611686018427387904):Zcf 0 a=a:=by
  rw [ZiC (by omega) ha];omega
theorem Zs7 {h:Zb} {s:Sl} {a b:Int} (hr:Row h s 6 (c6L (c6 a)++c6L (c6 b))) (ha:0≤a∧a≤4611686018427387904) (hb:0≤b∧b≤4611686018427387904) {K:C6→Zb→Prop} (hk:∀ h',Ext h h'→K (c6 (Zcf a b)) h'):Zdo s K h:=by
  have hl:s.len=2:=by have:=hr.len;simp [c6L] at this;omega
  unfold Zdo Zfy
  simp (maxDischargeDepth:=60) only [Zs,Zr,evC,Nqa,Nqb,Nqc,Nqd,Nqe,reduceCtorEq]
  refine Yc (fun st hh=>∃ i:Nat,st=((i:Int),())∧i≤2∧Ext h hh∧obj hh (sz h)=some (.cells [iv 0,iv 0,iv 0,iv 0,iv 0,iv 0].toArray 305 (0,0))∧obj hh (sz h+1)=some (.cells (c6L (c6 (if i=0 then 0 else if i=1 then a else Zcf a b))).toArray 305 (0,0)))
    (fun s _=>(2 - s.1).toNat) ⟨0,rfl,by omega,by simp (maxDischargeDepth:=60) only [Zs,Zr,evC,Nqa,Nqb,Nqc,Nqd,Nqe,reduceCtorEq],by simp (maxDischargeDepth:=60) only [Zs,Zr,evC,Nqa,Nqb,Nqc,Nqd,Nqe,reduceCtorEq],by simp (maxDischargeDepth:=60) only [Zs,Zr,evC,Nqa,Nqb,Nqc,Nqd,Nqe,reduceCtorEq,c6,c6L]⟩ ?_
  rintro _ hh ⟨i,rfl,hi,he,o0,o1⟩
  dsimp only
  have g1:=ZS o1
  have g0:=ZS o0
  refine Zj (fun q=>?_) fun q=>?_
  ·have hi2:i<s.len:=by omega
   obtain ⟨bb,o,hidx,hcell⟩:=ZoD (hr.ext he) hi2
   refine hidx rfl ?_
   have hv:∀ j,j<6→ZL (o+j) (obj hh bb)=(c6L (c6 (if i=0 then a else b)))[j]?:=fun j hj=>by
     rcases (show i=0∨i=1 by omega) with rfl | rfl
     ·rw [if_pos rfl]
      obtain ⟨v,hv⟩:∃ v,(c6L (c6 a))[j]?=some v:=⟨_,List.getElem?_eq_getElem (by simpa [c6L] using hj)⟩
      rw [hv]
      exact hcell j v hj (by rw [Nat.zero_mul,Nat.zero_add,List.getElem?_append_left (by simpa [c6L] using hj)];exact hv)
     ·rw [if_neg (by omega)]
      obtain ⟨v,hv⟩:∃ v,(c6L (c6 b))[j]?=some v:=⟨_,List.getElem?_eq_getElem (by simpa [c6L] using hj)⟩
      rw [hv]
      exact hcell j v hj (by rw [Nat.one_mul,List.getElem?_append_right (by simp [c6L])];simpa [c6L] using hv)
   have v0:=hv 0 (by omega)
   have v1:=hv 1 (by omega)
   have v2:=hv 2 (by omega)
   have v3:=hv 3 (by omega)
   have v4:=hv 4 (by omega)
   have v5:=hv 5 (by omega)
   have hc:0≤(if i=0 then a else b)∧(if i=0 then a else b)≤4611686018427387904:=by split<;>assumption
   generalize hcc:(if i=0 then a else b)=cc at v0 v1 v2 v3 v4 v5 hc
   generalize hac:(if i=0 then (0:Int) else if i=1 then a else Zcf a b)=ac at o1
   simp only [c6L,c6,List.getElem?_cons_zero,List.getElem?_cons_succ,Nat.add_zero] at v0 v1 v2 v3 v4 v5
   have m1:(sz h+1=sz hh)=False:=eq_false (by omega)
   have m0:(sz h=sz hh)=False:=eq_false (by omega)
   simp (maxDischargeDepth:=60) only [Zs,Zr,evC,Nqa,Nqb,Nqc,Nqd,Nqe,reduceCtorEq,v0,v1,v2,v3,v4,v5]
   refine Zkj hc fun h1 e1=>?_
   have z1:=X6 e1
   simp (maxDischargeDepth:=60) only [Zs,Zr,evC,Nqa,Nqb,Nqc,Nqd,Nqe,reduceCtorEq] at z1
   have p0:=Zbk e1 (b:=sz hh) (by simp (maxDischargeDepth:=60) only [Zs,Zr,evC,Nqa,Nqb,Nqc,Nqd,Nqe,reduceCtorEq]<;>omega)
   have p1:=Zbk e1 (b:=sz h+1) (by simp (maxDischargeDepth:=60) only [Zs,Zr,evC,Nqa,Nqb,Nqc,Nqd,Nqe,reduceCtorEq]<;>omega)
   have p2:=Zbk e1 (b:=sz h) (by simp (maxDischargeDepth:=60) only [Zs,Zr,evC,Nqa,Nqb,Nqc,Nqd,Nqe,reduceCtorEq]<;>omega)
   simp (maxDischargeDepth:=60) only [Zs,Zr,evC,Nqa,Nqb,Nqc,Nqd,Nqe,reduceCtorEq,m1,m0,o1,o0] at p0 p1 p2
   simp (maxDischargeDepth:=60) only [Zs,Zr,evC,Nqa,Nqb,Nqc,Nqd,Nqe,reduceCtorEq,p0,p1,c6L,c6]
   refine Zou (a:=c6 ac) (b:=c6 cc) fun h2 e2=>?_
   have z2:=X6 e2
   have q1:=Yh p1 e2
   have q2:=Yh p2 e2
   rw [Zvd]
   have hwr:IntKind.wrap .i64 ((i:Int)+1)=((i+1:Nat):Int):=by rw [ZR (by omega) (by omega)];omega
   have n01:(sz h=sz h+1)=False:=eq_false (by omega)
   simp (maxDischargeDepth:=60) only [Zs,Zr,evC,Nqa,Nqb,Nqc,Nqd,Nqe,reduceCtorEq,q1,c6L,c6,hwr]
   refine ⟨⟨i+1,rfl,by omega,Z3 (((Z3 (ZO he) (by omega)).trans e1).trans e2) (by omega),?_,?_⟩,by omega⟩
   ·simp (maxDischargeDepth:=60) only [Zs,Zr,evC,Nqa,Nqb,Nqc,Nqd,Nqe,reduceCtorEq,q2,n01]
   ·have:Zcf ac cc=(if i+1=0 then (0:Int) else if i+1=1 then a else Zcf a b):=by
      rw [← hac,← hcc]
      rcases (show i=0∨i=1 by omega) with rfl | rfl
      ·simp [ZtU ha]
      ·simp
    rw [← this]
  ·have hi2:i=2:=by omega
   subst hi2
   simp (maxDischargeDepth:=60) only [Zs,Zr,evC,Nqa,Nqb,Nqc,Nqd,Nqe,reduceCtorEq,o0,o1,c6L,c6]
   exact hk _ (Z3 he (by omega))
def Zt9 (h:Zb) (mb it:Nat):Nat:=match h[it]?,h[mb]? with
  | some (.mapIter _ _ seen _),some (.map es _)=>(leftOf es seen).size
  | _,_=>0
theorem Zgt {h:Zb} {mb it:Nat} {f:Int→Option Value} {n:Nat} {rem:Int→Prop} {L:Nat} (hr:Zec h mb it f n rem L):Zt9 h mb it=L:=by
  obtain ⟨es,c,since,seen,c0,hb,hs,hn,he,hi,hold,hsc,hL,hrem⟩:=hr
  unfold Zt9
  rw [hi,hb]
  exact hL
def Win.add (w:Win) (at_ x:Int):Win:=⟨at_,fun i=>if i=bkt at_ then Zcf (w.p i) x else w.p i⟩
theorem ZnH {h:Zb} {K:Option Addr→Int→Zb→Prop} (hk:∀ h',Zoj h' (sz h+1) (sz h) ⟨0,fun _=>0⟩→Ext h h'→sz h'=sz h+2→K (some ⟨sz h+1,0,none⟩) 0 h'):Zd2 1000000 10 K h:=by
  unfold Zd2 Zgd
  have e1:((Int.tmod 1000000 10) !=0)=false:=by decide
  simp (maxDischargeDepth:=60) only [Y9,YN,ZhX,e1]
  refine Zl (Zl (Zl (Zl ⟨by decide,Zl ?_⟩)))
  refine Ze4.new fun h1 hm e1 z1=>?_
  simp (maxDischargeDepth:=60) only [Zs,Zr,evC,Nqa,Nqb,Nqc,Nqd,Nqe,reduceCtorEq]
  simp only [ZE] at hm z1
  rw [z1]
  refine hk _ ⟨⟨by decide,by decide,fun i=>⟨by simp,by simp⟩⟩,?_,?_⟩ (ZO e1) ?_
  ·simp (maxDischargeDepth:=60) only [Zs,Zr,evC,Nqa,Nqb,Nqc,Nqd,Nqe,reduceCtorEq,z1]
  ·exact ⟨_,_,hm.congr (Zfs hm.lt),(fun i v hv=>by cases hv),fun i _=> .inr ⟨rfl,rfl⟩⟩
  ·simp (maxDischargeDepth:=60) only [Zs,Zr,evC,Nqa,Nqb,Nqc,Nqd,Nqe,reduceCtorEq,z1]
theorem ZuL {h:Zb} {wb mb:Nat} {w:Win} (hw:Zoj h wb mb w) {at_ x:Int} (hx:0≤x∧x≤4611686018427387904) {s:Sl} (hs:Row h s 6 (c6L (c6 x))) (hsb:∀ b,s.blk=some b→b≠wb∧b≠mb) {K:Int→Zb→Prop}
    (hk:∀ h',Zoj h' wb mb (if Zao w.last at_=0 then w.add at_ x else w)→Upd (fun k=>k=wb∨k=mb) h h'→K (Zao w.last at_) h'):Zau (some ⟨wb,0,none⟩) at_ s K h:=by
  have hl:s.len=1:=by have:=hs.len;simp [c6L] at this;omega
  have l3:=ZS hw.cells
  have l4:=hw.mlt
  have hne:wb≠mb:=fun e=>by
    obtain ⟨f,n,⟨es,c,hb,_⟩,_⟩:=hw.map
    have:=hw.cells
    rw [e] at this
    rw [show obj h mb=h[mb]? from rfl,hb] at this
    cases this
  unfold Zau ZcY
  simp (maxDischargeDepth:=60) only [Zs,Zr,evC,Nqa,Nqb,Nqc,Nqd,Nqe,reduceCtorEq]
  refine Zkb hw ?_
  rcases Decidable.em (Zao w.last at_=0) with he | he
  case inr =>
    have:(Zao w.last at_ !=0)=true:=by simpa using he
    rw [this]
    rw [if_neg he] at hk
    exact ZF (hk _ hw (Upd.refl _ _))
  rw [if_pos he] at hk
  rw [he] at hk ⊢
  obtain ⟨a0,a1,a2⟩:=Ze5 he
  have hbk:=Zob a0 a1
  have hbm:=Zo3 a2
  refine Zl ?_
  refine Yc (fun st hh=>∃ i:Nat,st=((i:Int),())∧i≤1∧Ext h hh) (fun s _=>(1 - s.1).toNat) ⟨0,rfl,by omega,Ext.refl _⟩ ?_
  rintro _ hh ⟨i,rfl,hi,hee⟩
  dsimp only
  have zz:=X6 hee
  refine Zj (fun q=>?_) fun q=>?_
  ·have hi0:i=0:=by omega
   subst hi0
   obtain ⟨bb,o,hidx,hcell⟩:=ZoD (i:=0) (hs.ext hee) (by omega)
   refine hidx rfl ?_
   have v0:=hcell 0 _ (by omega) (show (c6L (c6 x))[0]?=some (iv x) from rfl)
   have v1:=hcell 1 _ (by omega) (show (c6L (c6 x))[1]?=some (iv 0) from rfl)
   have v2:=hcell 2 _ (by omega) (show (c6L (c6 x))[2]?=some (iv 0) from rfl)
   have v3:=hcell 3 _ (by omega) (show (c6L (c6 x))[3]?=some (iv 0) from rfl)
   have v4:=hcell 4 _ (by omega) (show (c6L (c6 x))[4]?=some (iv 0) from rfl)
   have v5:=hcell 5 _ (by omega) (show (c6L (c6 x))[5]?=some (iv 0) from rfl)
   simp only [Nat.add_zero] at v0
   simp (maxDischargeDepth:=60) only [Zs,Zr,evC,Nqa,Nqb,Nqc,Nqd,Nqe,reduceCtorEq,v0,v1,v2,v3,v4,v5]
   refine Zkj hx fun h1 e1=>?_
   have hwr:IntKind.wrap .i64 (((0:Nat):Int)+1)=((1:Nat):Int):=by decide
   simp (maxDischargeDepth:=60) only [Zs,Zr,evC,Nqa,Nqb,Nqc,Nqd,Nqe,reduceCtorEq,hwr]
   exact ⟨⟨1,rfl,by omega,(Z3 (ZO hee) (by omega)).trans e1⟩,by decide⟩
  ·clear q
   have c3:=Yh hw.cells hee
   have n3:wb<sz hh:=by omega
   have n4:mb<sz hh:=by omega
   have hne':mb≠wb:=fun e=>hne e.symm
   have c3':obj (Zb.put hh wb 2 (iv at_)) wb=some (.cells [iv 1000000,iv 10,iv at_,.map (some mb)].toArray 214 (0,0)):=by
     simp (maxDischargeDepth:=60) only [Zs,Zr,evC,Nqa,Nqb,Nqc,Nqd,Nqe,reduceCtorEq,c3]
   have u1:Upd (fun k=>k=wb∨k=mb) h (Zb.put hh wb 2 (iv at_)):=Zrh (hee.upd _) (.inr (.inl rfl))
   have hm1:=(hw.congr (h':=hh) (Zbk hee l3) (Zbk hee l4)).map
   simp (maxDischargeDepth:=60) only [Zs,Zr,evC,Nqa,Nqb,Nqc,Nqd,Nqe,reduceCtorEq,c3,ZmZ c3' a0 a1]
   obtain ⟨f,n,hm,hfv,hfp⟩:=hm1
   have hm2:Ze4 (Zb.put hh wb 2 (iv at_)) mb f n:=hm.congr (Zdm hne')
   have zz2:sz (Zb.put hh wb 2 (iv at_))=sz hh:=Zkd
   generalize Zb.put hh wb 2 (iv at_)=h2 at c3' u1 hm2 zz2 ⊢
   refine ZbA (fun _ h9=>∃ f' n',Ze4 h9 mb f' n'∧(∀ i v,f' i=some v→∃ x,v=c6V x∧0≤x∧x≤4611686018427387904)∧(∀ i,bkt at_ - 10<i→f' i=some (c6V ((w.add at_ x).p i))∨(f' i=none∧(w.add at_ x).p i=0)) ∧
     obj h9 wb=some (.cells [iv 1000000,iv 10,iv at_,.map (some mb)].toArray 214 (0,0))∧Upd (fun k=>k=wb∨k=mb) h h9) ?_ ?_
   ·rintro _ h9 ⟨f',n',hm9,hfv9,hfp9,c9,u9⟩
    have l9:=ZS c9
    have g9:=hm9.lt
    simp (maxDischargeDepth:=60) only [Zs,Zr,evC,Nqa,Nqb,Nqc,Nqd,Nqe,reduceCtorEq,c9]
    refine hm9.range fun h10 hr10 e10 z10=>?_
    simp only [ZE] at hr10 z10 ⊢
    have okw:(w.add at_ x).OK:=⟨a0,a1,fun i=>by
      have:=hw.ok.p i
      unfold Win.add
      dsimp only
      split
      ·exact Zi8 this hx
      ·exact this⟩
    refine Yc (fun _ hh=>∃ f'' n'' rem L,Zec hh mb (sz h9) f'' n'' rem L∧(∀ i,bkt at_ - 10<i→f'' i=f' i)∧(∀ i v,f'' i=some v→f' i=some v)∧obj hh wb=some (.cells [iv 1000000,iv 10,iv at_,.map (some mb)].toArray 214 (0,0))∧Upd (fun k=>k=wb∨k=mb) h hh)
      (fun _ hh=>Zt9 hh mb (sz h9)) ⟨f',n',_,_,hr10,fun _ _=>rfl,fun _ _ hv=>hv,Yh c9 e10,u9.trans (e10.upd _)⟩ ?_
    rintro _ h11 ⟨f'',n'',rem,L,hr,hf1,hf2,c11,u11⟩
    have hsz9:sz h≤sz h9:=u9.size
    refine ZbA (fun s h12=>(s.1=true∧∃ k rem' L',ZdF h12 mb (sz h9) f'' n'' rem' L' k∧L'<L∧obj h12 wb=some (.cells [iv 1000000,iv 10,iv at_,.map (some mb)].toArray 214 (0,0))∧Upd (fun k=>k=wb∨k=mb) h h12)∨(s.1=false∧h12=h11)) ?_ ?_
    ·rintro ⟨b,_⟩ h12 (⟨hb,k,rem',L',hra,hL,c12,u12⟩ | ⟨hb,rfl⟩)
     ·simp only at hb
      subst hb
      refine ZF (hra.ent fun v hv=>⟨k,rfl,?_⟩)
      obtain ⟨y,rfl,hy⟩:=hfv9 _ _ (hf2 _ _ hv)
      refine ⟨c6 y,rfl,?_⟩
      simp (maxDischargeDepth:=60) only [Zs,Zr,evC,Nqa,Nqb,Nqc,Nqd,Nqe,reduceCtorEq,c12]
      refine Zj (fun q=>?_) fun q=>?_
      ·refine hra.del fun h13 n13 hr13 u13 z13=>⟨⟨_,_,_,_,hr13,fun i hi=>?_,fun i v hv=>?_,XM c12 u13 hne,u12.trans (u13.mono fun k _ hk=> .inr hk)⟩,?_⟩
       ·rw [ZR (by omega) (by omega)] at q
        rw [Zie _ _ (by omega)]
        exact hf1 i hi
       ·unfold upd at hv
        split at hv
        ·cases hv
        ·exact hf2 i v hv
       ·rw [Zgt hr13,Zgt hr];exact hL
      ·exact ⟨⟨_,_,_,_,hra.go,hf1,hf2,u12⟩,by rw [Zgt hra.go,Zgt hr];exact hL⟩
     ·simp only at hb
      subst hb
      refine Zl ?_
      refine hk _ ⟨okw,c11,f'',n'',hr.map,fun i v hv=>hfv9 i v (hf2 i v hv),fun i hi=>?_⟩ u11
      rw [hf1 i hi]
      exact hfp9 i hi
    ·refine hr.next (fun _=>?_) fun k v h12 L' hk1 hv hra hL u12 z12=>?_
     ·exact .inr ⟨rfl,rfl⟩
     ·have hwi:wb≠sz h9:=by omega
      exact .inl ⟨rfl,k,_,L',hra,hL,XM c11 u12 hwi,⟨Nat.le_trans u11.size u12.size,fun j hj hn=>(u12.old j (Nat.lt_of_lt_of_le hj u11.size) (fun e=>by have:j<sz h:=hj;omega)).trans (u11.old j hj hn)⟩⟩
   ·have ck:ZL 3 (obj h2 wb)=some (.map (some mb)):=by rw [c3'];rfl
    have l2:=ZS c3'
    simp (maxDischargeDepth:=60) only [Zs,Zr,evC,Nqa,Nqb,Nqc,Nqd,Nqe,reduceCtorEq,c3']
    have hfk:(f (bkt at_)).getD (.agg #[iv 0,iv 0,iv 0,iv 0,iv 0,iv 0])=c6V (w.p (bkt at_)):=by
      rcases hfp (bkt at_) (by omega) with e | ⟨e,ep⟩
      ·rw [e];rfl
      ·rw [e,ep];rfl
    have hpk:=hw.ok.p (bkt at_)
    refine hm2.get (bkt at_) ⟨c6 (w.p (bkt at_)),hfk,?_⟩
    rw [← zz2]
    have ho:Own (h2.push (.cells [iv (c6 (w.p (bkt at_))).1,iv (c6 (w.p (bkt at_))).2.1,iv (c6 (w.p (bkt at_))).2.2.1,iv (c6 (w.p (bkt at_))).2.2.2.1,iv (c6 (w.p (bkt at_))).2.2.2.2.1,iv (c6 (w.p (bkt at_))).2.2.2.2.2.1].toArray 305 (0,0))) (sz h2) ⟨some ⟨sz h2,0,none⟩,1,1⟩ 6 (c6L (c6 (w.p (bkt at_)))) :=
      Own.newC (h:=h2) (cells:=c6L (c6 (w.p (bkt at_)))) (t:=305) (size:=6) (n:=1) rfl (by decide)
    have hs2:Row h2 s 6 (c6L (c6 x)):=(hs.congr fun b o hb _ hlb=>u1.old b hlb fun e=>by
      have:=hsb b (by simp [Sl.blk,hb])
      omega)
    refine (hs2.ext (Ext.push _ _)).rd (Own.app ho (by rw [hl];rfl) (by simp [c6L,c6,YW]) rfl (by rw [hl];show (1+1)*48≤140737488355328;decide) (by rw [hl];show 1+1≤140737488355328;decide) (by rw [ZE,XB];omega) fun t h4 ho4 hl4 hu4 hblk=>?_)
    have e4:Ext h2 h4:=(Ext.push h2 _).then hu4 fun k hk=>by
      simp [Sl.blk] at hk
      subst hk
      exact Nat.le_refl _
    refine Zs7 ho4.row hpk hx fun h5 e5=>?_
    have e25:=e4.trans e5
    have c5:=Yh c3' e25
    have u5:Upd (fun k=>k=wb∨k=mb) h h5:=u1.trans (e25.upd _)
    have hm5:Ze4 h5 mb f n:=hm2.congr (Zbk e25 hm2.lt)
    have pr:=Zi8 hpk hx
    have l5:=ZS c5
    have lm5:=hm5.lt
    generalize hpv:Zcf (w.p (bkt at_)) x=pv at pr ⊢
    have old:∀ i,bkt at_ - 10<i→i≠bkt at_→f i=some (c6V ((w.add at_ x).p i))∨(f i=none∧(w.add at_ x).p i=0):=fun i hi hne=>by
      have:(w.add at_ x).p i=w.p i:=if_neg hne
      rw [this]
      exact hfp i (by omega)
    have new:(w.add at_ x).p (bkt at_)=pv:=(if_pos rfl).trans hpv
    simp (maxDischargeDepth:=60) only [Zs,Zr,evC,Nqa,Nqb,Nqc,Nqd,Nqe,reduceCtorEq,c6,c6L,c5,ZgT l5,YH l5,ZpQ l5,Zik l5]
    have u6:Upd (fun k=>k=wb∨k=mb) h (Zb.puts (h5.push (.cells [iv 0,iv 0,iv 0,iv 0,iv 0,iv 0].toArray 305 (0,0))) (sz h5) 0 [iv pv,iv 0,iv 0,iv 0,iv 0,iv 0]) :=
      Zcc (Zgp u5) (.inl (by have:sz h≤sz h5:=u5.size;omega))
    have hm6:Ze4 (Zb.puts (h5.push (.cells [iv 0,iv 0,iv 0,iv 0,iv 0,iv 0].toArray 305 (0,0))) (sz h5) 0 [iv pv,iv 0,iv 0,iv 0,iv 0,iv 0]) mb f n :=
      hm5.congr ((Zce (by have:=lm5;simp only [ZE] at this;omega)).trans (Zfs lm5))
    have c6_:obj (Zb.puts (h5.push (.cells [iv 0,iv 0,iv 0,iv 0,iv 0,iv 0].toArray 305 (0,0))) (sz h5) 0 [iv pv,iv 0,iv 0,iv 0,iv 0,iv 0]) wb=some (.cells [iv 1000000,iv 10,iv at_,.map (some mb)].toArray 214 (0,0)):=by
      simp (maxDischargeDepth:=60) only [Zs,Zr,evC,Nqa,Nqb,Nqc,Nqd,Nqe,reduceCtorEq,c5,YH l5]
    rcases Decidable.em (pv=0) with h0 | h0
    ·have:(!(bif pv ==0 then (bif (0:Int) ==0 then (bif (0:Int) ==0 then (bif (0:Int) ==0 then (bif (0:Int) ==0 then (bif (0:Int) ==0 then true else false) else false) else false) else false) else false) else false))=false:=by rw [h0];decide
     refine XE this ?_
     refine ⟨f,n,hm6,hfv,fun i hi=>?_,u6⟩
     by_cases hik:i=bkt at_
     ·subst hik
      rw [new,h0]
      rcases hfp (bkt at_) (by omega) with e | ⟨e,ep⟩
      ·have:w.p (bkt at_)=0:=by
         rw [ZiC hpk hx] at hpv
         omega
       rw [this] at e
       exact .inl e
      ·exact .inr ⟨e,rfl⟩
     ·exact old i hi hik
    ·have:(!(bif pv ==0 then (bif (0:Int) ==0 then (bif (0:Int) ==0 then (bif (0:Int) ==0 then (bif (0:Int) ==0 then (bif (0:Int) ==0 then true else false) else false) else false) else false) else false) else false))=true:=by
       have:(pv ==0)=false:=by simpa using h0
       rw [this];rfl
     refine ZaS this ?_
     refine hm6.put (bkt at_) (c6V pv) fun h7 hm7 u7 z7=>⟨_,_,hm7,fun i v hv=>?_,fun i hi=>?_,XM c6_ u7 hne,u6.trans (u7.mono fun k _ hk=> .inr hk)⟩
     ·unfold upd at hv
      split at hv
      ·cases hv;exact ⟨pv,rfl,pr⟩
      ·exact hfv i v hv
     ·by_cases hik:i=bkt at_
      ·subst hik
       rw [Ziy,new]
       exact .inl rfl
      ·rw [Zie _ _ hik]
       exact old i hi hik
theorem ZaI {α:Type} {g:α→List Value} {n:Nat} (hg:∀ a,(g a).length=n) {h:Zb} {s:Sl} {l:List α} (hr:Row h s n (l.flatMap g)) {i:Nat} {a:α} (hi:l[i]?=some a) (hn:0<n) :
    ∃ b o,s.blk=some b∧b<sz h∧(∀ {K:Nat→Nat→Prop} {m:Int},m=(i:Int)→K b o→Zap s.ptr s.len m n K)∧∀ j v,(g a)[j]?=some v→ZL (o+j) (obj h b)=some v:=by
  have hlen:=hr.len
  rw [Z7 hg] at hlen
  have hls:l.length=s.len:=Nat.eq_of_mul_eq_mul_right hn hlen
  have hil:=Xk hi
  rcases hr.at_ with h0 | ⟨b,o,hp,hh⟩
  ·omega
  ·have hne:l.flatMap g≠[]:=fun e=>by
     have:=Z7 hg l
     rw [e] at this
     have h9:0<l.length*n:=Nat.mul_pos (by omega) hn
     simp only [List.length_nil] at this
     omega
   refine ⟨b,o+i*n,by simp [Sl.blk,hp],Zkz hh hne,fun {K m} hm hk=>⟨b,o,hp,by omega,by omega,by subst hm;simpa using hk⟩,fun j v hv=>?_⟩
   have hj:j<n:=by rw [← hg a];exact Xk hv
   have:=Zh1 hh (i:=i*n+j) (v:=v) (by rw [Zgw hg l i j a hi hj];exact hv)
   rw [Yw,← Nat.add_assoc] at this
   exact this
theorem Zas {α:Type} {g:α→List Value} {n:Nat} (hg:∀ a,(g a).length=n) {h:Zb} {s:Sl} {l:List α} (hr:Row h s n (l.flatMap g)) (hn:0<n):s.len=l.length:=by
  have hlen:=hr.len
  rw [Z7 hg] at hlen
  exact (Nat.eq_of_mul_eq_mul_right hn hlen).symm
theorem ZmL {α:Type} {g:α→List Value} {n:Nat} (hg:∀ a,(g a).length=n):∀ (l:List α) (i:Nat) (a:α),i<l.length →
    (l.set i a).flatMap g=(l.flatMap g).take (i*n)++g a++(l.flatMap g).drop (i*n+n)
  | [],i,a,h=>by simp at h
  | x::l,0,a,_=>by
    rw [List.set_cons_zero,List.flatMap_cons,List.flatMap_cons,Nat.zero_mul,List.take_zero,List.nil_append,Nat.zero_add,← hg x,List.drop_left]
  | x::l,i+1,a,h=>by
    rw [List.set_cons_succ,List.flatMap_cons,List.flatMap_cons,ZmL hg l i a (by simpa using h)]
    have e1:(i+1)*n=(g x).length+i*n:=by rw [hg,Nat.succ_mul];omega
    rw [e1,List.take_length_add_append,Nat.add_assoc,List.drop_length_add_append]
    simp
theorem ZiB {h:Zb} {base:Nat} {s:Sl} {size:Nat} {vs:List Value} (ho:Own h base s size vs) {b:Nat} (hb:s.blk=some b) {o:Nat} {ws:List Value} (hl:o+ws.length≤vs.length) (hw:ws.all Zv=true) {K:Zb→Prop}
    (hk:∀ h',Own h' base s size (vs.take o++ws++vs.drop (o+ws.length))→Upd (fun k=>s.blk=some k) h h'→sz h'=sz h→K h'):h.free b o ws.length∧ws.all Zv=true∧K (h.puts b o ws):=by
  have hlen:=ho.len
  have hcap:=ho.cap
  rcases ho.at_ with ⟨hp,_⟩ | ⟨b',c,e,hp,hbb,hc,hcs,hvs⟩
  ·simp [Sl.blk,hp] at hb
  ·have hb':=hb
   simp [Sl.blk,hp] at hb
   subst hb
   have hlc:o+ws.length≤c.size:=by
     have:=congrArg List.length hvs
     simp at this
     omega
   obtain ⟨c',hc',hl'⟩:=Ze9 (vs:=ws) (o:=o) hc hlc
   refine ⟨Zfe hc hlc,hw,hk _ ⟨?_,hcap,ho.big,.inr ⟨b',c',e,hp,hbb,hc',?_,?_⟩⟩ ((Upd.puts h b' _ ws).mono fun k _ hk=>by subst hk;exact hb') Zdi⟩
   ·simp;omega
   ·rw [← hcs,← Array.length_toList,hl']
    simp
    omega
   ·rw [hl',hvs]
    have hvl:(c.toList.take (s.len*size)).length=s.len*size:=by rw [← hvs];exact hlen
    apply List.ext_getElem?
    intro i
    simp only [List.getElem?_append,List.getElem?_take,List.getElem?_drop,List.length_append,List.length_take,hvl,Array.length_toList]
    have h1:min o (s.len*size)=o:=by omega
    have h2:min o c.size=o:=by omega
    rw [h1,h2]
    by_cases hi1:i<o
    ·simp [hi1,show i<s.len*size from by omega,show i<o+ws.length from by omega]
    ·by_cases hi2:i<o+ws.length
     ·rw [if_pos hi2,if_neg hi1,if_pos (by omega),if_pos hi2,if_neg hi1]
     ·rw [if_neg hi2]
      by_cases hi3:i<s.len*size
      ·rw [if_pos (by omega),if_pos hi3,if_neg hi2]
      ·rw [if_neg (by omega),if_neg hi3]
theorem ZtV {α:Type} {g:α→List Value} {n:Nat} (hg:∀ a,(g a).length=n) {h:Zb} {base:Nat} {s:Sl} {l:List α} (ho:Own h base s n (l.flatMap g)) {i:Nat} (hi:i<l.length) (hn:0<n) {a:α} {ws:List Value} (hw:ws=g a) (hone:ws.all Zv=true) {m:Int} (hm:m=(i:Int)) {K:Zb→Prop}
    (hk:∀ h',Own h' base s n ((l.set i a).flatMap g)→Upd (fun k=>s.blk=some k) h h'→sz h'=sz h→K h'):Zap s.ptr s.len m n fun b o=>sts h b o ws K:=by
  subst hw hm
  have hl:=Zas hg ho.row hn
  have hle:i*n+n≤l.length*n:=by rw [← Nat.succ_mul];exact Nat.mul_le_mul_right _ hi
  obtain ⟨b,hp,hb⟩:=Own.ptr_ ho (o:=i*n) (by rw [Z7 hg];omega)
  refine ⟨b,0,hp,by omega,by omega,?_⟩
  rw [Nat.zero_add,Int.toNat_natCast]
  refine ZiB ho hb (by rw [Z7 hg,hg];omega) hone fun h' ho' hu hz=>hk h' ?_ hu hz
  rw [ZmL hg l i a hi]
  rw [hg] at ho'
  exact ho'
theorem ZoB {b c n:Nat}:Zef (some ⟨b,0,none⟩) 0 c n=some ⟨b,0,none⟩:=by
  unfold Zef
  split
  ·rfl
  ·simp [Addr.add]
theorem Zhr {α:Type} {g:α→List Value} {n:Nat} (hg:∀ a,(g a).length=n):∀ (l:List α) (k:Nat),(l.take k).flatMap g=(l.flatMap g).take (k*n)
  | [],k=>by simp
  | x::l,0=>by simp
  | x::l,k+1=>by
    rw [List.take_succ_cons,List.flatMap_cons,List.flatMap_cons,Zhr hg l k,show (k+1)*n=(g x).length+k*n from by rw [hg,Nat.succ_mul];omega,List.take_length_add_append]
theorem Own.pre {α:Type} {g:α→List Value} {n:Nat} (hg:∀ a,(g a).length=n) {h:Zb} {base:Nat} {s:Sl} {l:List α} (ho:Own h base s n (l.flatMap g)) (hn:0<n) {k:Nat} (hk:k≤l.length):Own h base ⟨Zef s.ptr 0 s.cap n,k,s.cap⟩ n ((l.take k).flatMap g):=by
  have hl:=Zas hg ho.row hn
  have hc:=ho.cap
  refine ⟨?_,by show k≤s.cap;omega,ho.big,?_⟩
  ·rw [Z7 hg,List.length_take,Nat.min_eq_left hk]
  ·rcases ho.at_ with ⟨hp,h0⟩ | ⟨b,c,e,hp,hbb,hb,hcs,hvs⟩
   ·left
    refine ⟨?_,h0⟩
    show Zef s.ptr 0 s.cap n=none
    rw [hp];unfold Zef;split<;>rfl
   ·right
    refine ⟨b,c,e,?_,hbb,hb,hcs,?_⟩
    ·show Zef s.ptr 0 s.cap n=_
     rw [hp]
     exact ZoB
    ·rw [Zhr hg,hvs,List.take_take]
     congr 1
     show min (k*n) (s.len*n)=k*n
     exact Nat.min_eq_left (Nat.mul_le_mul_right _ (by omega))
theorem ZrA {s:Sl} {h:Zb} {base n k:Nat} {vs:List Value} (ho:Own h base s n vs):(⟨Zef s.ptr 0 s.cap n,k,s.cap⟩:Sl).blk=s.blk:=by
  rcases ho.at_ with ⟨hp,h0⟩ | ⟨b,c,e,hp,hbb,hb,hcs,hvs⟩
  ·show (Zef s.ptr 0 s.cap n).map (·.block)=s.ptr.map (·.block)
   rw [hp];unfold Zef;split<;>rfl
  ·show (Zef s.ptr 0 s.cap n).map (·.block)=s.ptr.map (·.block)
   rw [hp,ZoB]
theorem Zpc {zs:List Value} (h:zs.all Zv=true) (n:Nat):(ZaJ zs n).all Zv=true:=by
  unfold ZaJ
  rw [List.all_flatten,List.all_eq_true]
  intro x hx
  rw [List.eq_of_mem_replicate hx]
  exact h
theorem ZrR {α:Type} {g:α→List Value} {n:Nat} (hg:∀ a,(g a).length=n) {h:Zb} {base:Nat} {s:Sl} {l:List α} (ho:Own h base s n (l.flatMap g)) (hn:0<n) {k:Nat} (hk:k≤l.length) {m:Int} (hm:m=(k:Int)) {zs:List Value} (hz:zs.length=n) (hone:zs.all Zv=true) {K:Sl→Zb→Prop}
    (hK:∀ t h',Own h' base t n ((l.take k).flatMap g)→t.blk=s.blk→Upd (fun k=>s.blk=some k) h h'→sz h'=sz h→K t h') :
    slc s.ptr s.cap n m s.len s.cap fun t=>ZsF t zs h fun h'=>slc s.ptr s.cap n 0 m s.cap fun t'=>K t' h':=by
  subst hm
  have hl:=Zas hg ho.row hn
  have hc:=ho.cap
  refine ⟨by omega,by omega,by omega,Int.le_refl _,?_⟩
  simp only [Int.toNat_natCast,Int.toNat_zero,Nat.sub_zero]
  have fin:∀ h',Own h' base s n ((l.take k).flatMap g++(ZaJ zs (s.len - k)))→Upd (fun k=>s.blk=some k) h h'→sz h'=sz h→slc s.ptr s.cap n 0 k s.cap fun t'=>K t' h':=fun h' ho' hu hz'=>by
    refine ⟨Int.le_refl _,by omega,by omega,Int.le_refl _,?_⟩
    simp only [Int.toNat_natCast,Int.toNat_zero,Nat.sub_zero]
    refine hK _ h' ?_ (ZrA ho) hu hz'
    refine ⟨?_,by show k≤s.cap;omega,ho.big,?_⟩
    ·rw [Z7 hg,List.length_take,Nat.min_eq_left hk]
    ·rcases ho'.at_ with ⟨hp,h0⟩ | ⟨b,c,e,hp,hbb,hb,hcs,hvs⟩
     ·left
      refine ⟨?_,h0⟩
      show Zef s.ptr 0 s.cap n=none
      rw [hp];unfold Zef;split<;>rfl
     ·right
      refine ⟨b,c,e,?_,hbb,hb,hcs,?_⟩
      ·show Zef s.ptr 0 s.cap n=_
       rw [hp]
       exact ZoB
      ·have:=congrArg (List.take (k*n)) hvs
       rw [List.take_left' (by rw [Z7 hg,List.length_take,Nat.min_eq_left hk]),List.take_take,Nat.min_eq_left (Nat.mul_le_mul_right _ (by omega))] at this
       exact this
  by_cases hkl:k=s.len
  ·refine .inr (.inl ⟨by simp [hkl],fin h ?_ (Upd.refl _ _) rfl⟩)
   rw [hkl,Nat.sub_self,List.take_of_length_le (by omega)]
   simpa [ZaJ] using ho
  ·obtain ⟨b,hp,hb⟩:=Own.ptr_ ho (o:=k*n) (by rw [Z7 hg];exact Nat.mul_lt_mul_of_pos_right (by omega) hn)
   refine .inr (.inr ⟨b,k*n,?_,?_⟩)
   ·show Zef s.ptr k s.cap n=_
    rw [hp]
    unfold Zef
    rw [if_neg (by omega)]
    simp [Addr.add]
    exact fun h=>h.symm
   ·refine ZiB ho hb ?_ (Zpc hone _) fun h' ho' hu hz'=>fin h' ?_ hu hz'
    ·rw [Z7 hg,ZeO,hz,← Nat.add_mul]
     dsimp only
     exact Nat.mul_le_mul_right _ (by omega)
    ·dsimp only at ho'
     rw [ZeO,hz,← Nat.add_mul,show k+(s.len - k)=l.length from by omega,List.drop_of_length_le (by rw [Z7 hg];exact Nat.le_refl _),List.append_nil,← Zhr hg] at ho'
     exact ho'
theorem ZmW {T:TypeId} {n bytes:Nat} {zs vs:List Value} {h:Zb} {s:Sl} (hr:Row h s n vs) (hv:vs.all Zv=true) (hz:zs.length=n) (hb:s.len*bytes≤140737488355328) (hl:s.len≤140737488355328) {K:Sl→Zb→Prop}
    (hk:∀ t h',Own h' h.size t n vs→Ext h h'→t.len=s.len→K t h') :
    Zw s.ptr.isNone (K ⟨none,0,0⟩ h) (newC h [] T fun b h1=>rdS s n h1 fun new=>app T n bytes zs ⟨some ⟨b,0,none⟩,0,0⟩ s.len new h1 fun t h2=>K t h2):=by
  cases hp:s.ptr with
  | none =>
    have h0:s.len=0:=by
      rcases hr.at_ with h0 | ⟨b,o,hp',_⟩
      ·exact h0
      ·rw [hp] at hp';cases hp'
    refine ZF (hk _ _ ?_ (Ext.refl _) h0.symm)
    rw [hr.nil_of h0]
    exact Own.nil _ _ _
  | some p =>
    refine Zl ?_
    have ho:Own (h.push (.cells #[] T (0,0))) h.size ⟨some ⟨h.size,0,none⟩,0,0⟩ n []:=Own.newC (cells:=[]) (by simp) (by decide)
    refine ZdL ?_
    refine Row.rd (vs:=vs) (hr.ext (Ext.push h (.cells #[] T (0,0)))) (Own.app ho (by rw [hr.len]) hv hz (by simpa using hb) (by simpa using hl) (by simp) fun t h' ho' hl' hu' hblk=>?_)
    refine hk t h' (by simpa using ho') ((Ext.push _ _).then hu' fun k hk=>?_) (by simpa using hl')
    simp [Sl.blk] at hk
    omega
end Go.Proofs.YtbppjmcinoffnaaGreat.Tk
