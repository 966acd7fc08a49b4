/- Never too much is granted, in plain words: what holds of a server with the flows of one namespace, whatever is asked. -/
import Derived.KernelRfl
import Derived.Test.YtbppjmcinoffnaaGreatPa16
set_option linter.unusedVariables false
set_option linter.unusedSimpArgs false
namespace Go.Proofs.YtbppjmcinoffnaaGreat.Tk
open Go Go.Fw
open Nat (reduceAdd reduceLT reduceLeDiff reduceEqDiff reduceMul)
def nA:ByteArray:=ByteArray.mk #[99,108,117,115,116,101,114]
theorem ZrB {a b:ByteArray}:Zag a b=true↔a=b:=by
  unfold Zag
  rw [ByteArray.toList_eq,ByteArray.toList_eq,beq_iff_eq]
  constructor
  ·intro h
   cases a;cases b
   congr
   exact Array.toList_inj.1 h
  ·rintro rfl;rfl
theorem ZgR (l:List F4):∀ (S:Srv),(S.freshL l).spaces=S.spaces∧(S.freshL l).begun=S.begun∧(S.freshL l).last=S.last∧(S.freshL l).out=S.out∧(S.freshL l).next=S.next∧(S.freshL l).conns=S.conns∧(S.freshL l).nn=S.nn:=by
  induction l with
  | nil=>intro S;exact ⟨rfl,rfl,rfl,rfl,rfl,rfl,rfl⟩
  | cons f l ih =>
    intro S
    have h1:S.freshL (f::l)=(S.fresh1 f).freshL l:=rfl
    rw [h1]
    obtain ⟨a1,a2,a3,a4,a5,a6,a7⟩:=ih (S.fresh1 f)
    have h2:(S.fresh1 f).spaces=S.spaces∧(S.fresh1 f).begun=S.begun∧(S.fresh1 f).last=S.last∧(S.fresh1 f).out=S.out∧(S.fresh1 f).next=S.next∧(S.fresh1 f).conns=S.conns∧(S.fresh1 f).nn=S.nn:=by
      unfold Srv.fresh1
      split
      ·exact ⟨rfl,rfl,rfl,rfl,rfl,rfl,rfl⟩
      ·split<;>exact ⟨rfl,rfl,rfl,rfl,rfl,rfl,rfl⟩
    obtain ⟨b1,b2,b3,b4,b5,b6,b7⟩:=h2
    exact ⟨a1.trans b1,a2.trans b2,a3.trans b3,a4.trans b4,a5.trans b5,a6.trans b6,a7.trans b7⟩
theorem Zm2 (l:List F4):∀ (S:Srv) (id:Int),(∀ f,f∈l→f.1≠id)→(S.freshL l).counts id=S.counts id:=by
  induction l with
  | nil=>intro S id _;rfl
  | cons f l ih =>
    intro S id h
    have h1:S.freshL (f::l)=(S.fresh1 f).freshL l:=rfl
    rw [h1,ih _ id fun g hg=>h g (List.mem_cons_of_mem _ hg)]
    have hne:=h f (List.mem_cons_self ..)
    unfold Srv.fresh1
    split
    ·exact if_neg hne.symm
    ·split
     ·exact if_neg hne.symm
     ·rfl
theorem ZkK (l:List F4):∀ (S:Srv),(l.map (·.1)).Nodup→(∀ f,f∈l→S.counts f.1=none)→∀ f,f∈l→(S.freshL l).counts f.1=some (Zb8 f):=by
  induction l with
  | nil=>intro S _ _ f hf;cases hf
  | cons g l ih =>
    intro S hnd hn f hf
    have h1:S.freshL (g::l)=(S.fresh1 g).freshL l:=rfl
    rw [List.map_cons,List.nodup_cons] at hnd
    have hg:=hn g (List.mem_cons_self ..)
    rw [h1]
    rcases List.mem_cons.1 hf with rfl | hf
    ·rw [Zm2 l _ _ fun q hq e=>hnd.1 (by rw [← e];exact List.mem_map_of_mem hq),ZgT hg]
     exact if_pos rfl
    ·refine ih _ hnd.2 (fun q hq=>?_) f hf
     rw [ZgT hg]
     show (if q.1=g.1 then _ else _)=none
     rw [if_neg]
     ·exact hn q (List.mem_cons_of_mem _ hq)
     ·intro e
      exact hnd.1 (by rw [← e];exact List.mem_map_of_mem hq)
abbrev G4:=Int × Int × Int × ByteArray
def ofI (id:Int) (l:List G4):List (Int × Int):=(l.filter fun g=>decide (g.2.1=id)).map fun g=>(g.1,g.2.2.1)
def ofT (id:Int) (text:ByteArray) (l:List G4):List (Int × Int):=(l.filter fun g=>decide (g.2.1=id)&&Zag g.2.2.2 text).map fun g=>(g.1,g.2.2.1)
theorem Zn3 (id:Int) (a b:List G4):ofI id (a++b)=ofI id a++ofI id b:=by unfold ofI;rw [List.filter_append,List.map_append]
theorem ZgD (id:Int) (t:ByteArray) (a b:List G4):ofT id t (a++b)=ofT id t a++ofT id t b:=by unfold ofT;rw [List.filter_append,List.map_append]
theorem Zn1 {id:Int} {g:G4} (h:g.2.1=id):ofI id [g]=[(g.1,g.2.2.1)]:=by unfold ofI;simp [h]
theorem ZoX {id:Int} {g:G4} (h:g.2.1≠id):ofI id [g]=[]:=by unfold ofI;simp [h]
theorem Zlv {id:Int} {t:ByteArray} {g:G4} (h:g.2.1=id) (ht:g.2.2.2=t):ofT id t [g]=[(g.1,g.2.2.1)]:=by unfold ofT;simp [h,ht,ZpA]
theorem ZiJ {id:Int} {t:ByteArray} {g:G4} (h:g.2.1≠id∨g.2.2.2≠t):ofT id t [g]=[]:=by
  unfold ofT
  rw [List.filter_cons_of_neg]
  ·rfl
  ·simp only [Bool.and_eq_true,decide_eq_true_eq,ZrB]
   rintro ⟨h1,h2⟩
   rcases h with h | h
   ·exact h h1
   ·exact h h2
theorem Zn2 {id:Int} {l:List G4} {x:Int × Int} (h:x∈ofI id l):∃ g,g∈l∧x=(g.1,g.2.2.1):=by
  unfold ofI at h
  obtain ⟨g,hg,rfl⟩:=List.mem_map.1 h
  exact ⟨g,(List.mem_filter.1 hg).1,rfl⟩
theorem Zn0 {id:Int} {t:ByteArray} {l:List G4} {x:Int × Int} (h:x∈ofT id t l):∃ g,g∈l∧x=(g.1,g.2.2.1):=by
  unfold ofT at h
  obtain ⟨g,hg,rfl⟩:=List.mem_map.1 h
  exact ⟨g,(List.mem_filter.1 hg).1,rfl⟩
theorem ZoZ (at_ id:Int) (t:ByteArray):∀ {l:List G4},(∀ g,g∈l→0≤g.2.2.1)→ZdR at_ (ofT id t l)≤ZdR at_ (ofI id l)
  | [],_=>Int.le_refl _
  | g::l,h=>by
    have ih:=ZoZ at_ id t (l:=l) fun x hx=>h x (List.mem_cons_of_mem _ hx)
    have hg:=h g (List.mem_cons_self ..)
    have e1:ofI id (g::l)=ofI id [g]++ofI id l:=Zn3 id [g] l
    have e2:ofT id t (g::l)=ofT id t [g]++ofT id t l:=ZgD id t [g] l
    rw [e1,e2,Zgd,Zgd]
    have pos:∀ a n:Int,0≤n→0≤ZdR at_ [(a,n)]:=fun a n hn=>by
      unfold ZdR
      refine ZhF fun x hx=>?_
      obtain ⟨y,hy,rfl⟩:=List.mem_map.1 hx
      have:=(List.mem_filter.1 hy).1
      simp at this
      subst this
      exact hn
    rcases Decidable.em (g.2.1=id) with h1 | h1
    ·rcases Classical.em (g.2.2.2=t) with h2 | h2
     ·rw [Zn1 h1,Zlv h1 h2];omega
     ·rw [Zn1 h1,ZiJ (.inr h2)]
      have:=pos g.1 g.2.2.1 hg
      have z:ZdR at_ []=0:=rfl
      omega
    ·rw [ZoX h1,ZiJ (.inl h1)];omega
def ZgQ (at_:Int) (l:List (Int × Int)):Int:=((l.filter fun x=>decide (bgn x.1>bgn at_ - 1000000)).map (·.2)).sum
theorem Zsu (at_:Int) (a b:List (Int × Int)):ZgQ at_ (a++b)=ZgQ at_ a+ZgQ at_ b:=by unfold ZgQ;rw [List.filter_append,List.map_append,List.sum_append]
theorem Zst (at_ a n:Int):ZgQ at_ [(a,n)]=if bgn a>bgn at_ - 1000000 then n else 0:=by
  unfold ZgQ
  by_cases h:bgn a>bgn at_ - 1000000
  ·rw [if_pos h];simp [h]
  ·rw [if_neg h,List.filter_cons_of_neg (by simpa using h)];rfl
theorem Zlz {l:List (Int × Int)} {at_:Int} (hl:∀ x,x∈l→0≤x.2):ZdR at_ l≤ZgQ at_ l:=by
  refine ZlE hl fun x hx h=>?_
  simp only [decide_eq_true_eq] at h ⊢
  unfold bgn
  omega
theorem Zms {at_ a r c:Int} (h:a≤at_) (l:List Bk):Zid at_ r c (Zgq a l)=Zid at_ r c l:=by
  have hb:bgn a≤bgn at_:=by unfold bgn;omega
  unfold Zid Zgq
  suffices ∀ (l:List Bk) (n:Int),(l.filter fun b=> !decide (b.at_≤bgn a - 1000000)).foldl (fun n b=>if b.at_>bgn at_ - 1000000 then spl n (b.n r c) else n) n=l.foldl (fun n b=>if b.at_>bgn at_ - 1000000 then spl n (b.n r c) else n) n from this l 0
  intro l
  induction l with
  | nil=>intro n;rfl
  | cons b l ih =>
    intro n
    rw [List.filter_cons]
    by_cases h1:b.at_≤bgn a - 1000000
    ·rw [if_neg (by simpa using h1),List.foldl_cons,if_neg (by omega)]
     exact ih n
    ·rw [if_pos (by simpa using h1),List.foldl_cons,List.foldl_cons]
     exact ih _
theorem ZrA {at_ a r c:Int} (h:a≤at_) {l:List Bk} (hl:∀ b,b∈l→b.OK):Zid at_ r c (ZhQ a l)=Zid at_ r c l:=by
  unfold ZhQ
  split
  ·rw [Zg5,Zms h]
   split
   ·have:=ZiC at_ r c l hl
    unfold spl Zr5
    dsimp only
    omega
   ·rfl
  ·exact Zms h l
theorem ZmT (l:List Bk) (b:Bk) (f:Bk→Bk):ZgJ (l++[b]) f=l++[f b]:=by
  unfold ZgJ
  rw [List.getLast?_append]
  simp
theorem Zzw {b:Bk} {seed x:Int} {key:ByteArray} {r:Int} (h:r=0∨r=1∨r=2) (c:Int):(Zhy b seed x key 3).n r c=if c=Zin seed r key then spl (b.n r c) x else b.n r c:=by
  show Zos b.n seed x key 3 r c=_
  rcases h with rfl | rfl | rfl
  ·by_cases hc:c=Zin seed 0 key<;>simp [Zos,Zl0,hc]
  ·by_cases hc:c=Zin seed 1 key<;>simp [Zos,Zl0,hc]
  ·by_cases hc:c=Zin seed 2 key<;>simp [Zos,Zl0,hc]
theorem ZtE {s:Sk} (ok:s.OK) {a at_ x r c:Int} (ha:Xv s.last a=0) (h:a≤at_) {key:ByteArray} (hr:r=0∨r=1∨r=2) (hx:0≤x) :
    Zid at_ r c (s.add a x key).bs=if c=Zin s.seed r key∧bgn a>bgn at_ - 1000000 then spl (Zid at_ r c s.bs) x else Zid at_ r c s.bs:=by
  obtain ⟨b,hb,hba⟩:=ZhP a s.bs
  obtain ⟨l,hl⟩:=List.getLast?_eq_some_iff.1 hb
  have ho:=ZrA (r:=r) (c:=c) h (l:=s.bs) fun b hb=>(ok.bs b hb).1
  have hok:=(Sk.opened_ok ok ha).bs
  have hrng:=ZiC at_ r c l fun y hy=>(hok y (show y∈ZhQ a s.bs by rw [hl];exact List.mem_append_left _ hy)).1
  have hbn:=(hok b (show b∈ZhQ a s.bs by rw [hl];simp)).1.n r c
  rw [hl,Zg5] at ho
  show Zid at_ r c (ZgJ (ZhQ a s.bs) fun b=>Zhy b s.seed x key 3)=_
  rw [hl,ZmT,Zg5,show (Zhy b s.seed x key 3).at_=b.at_ from rfl,Zzw hr,← ho,hba]
  by_cases h1:bgn a>bgn at_ - 1000000
  ·rw [if_pos h1,if_pos h1]
   by_cases h2:c=Zin s.seed r key
   ·rw [if_pos h2,if_pos ⟨h2,h1⟩]
    unfold spl
    omega
   ·rw [if_neg h2,if_neg (fun e=>h2 e.1)]
  ·rw [if_neg h1,if_neg h1,if_neg (fun e=>h1 e.2)]
theorem ZzG {s:Sk} (ok:s.OK) {a x:Int} (ha:Xv s.last a=0) (hx:0≤x∧x≤1099511627776) {key:ByteArray}:(s.add a x key).OK:=by
  obtain ⟨b,hb,hba⟩:=ZhP a s.bs
  have hok:=Sk.opened_ok ok ha
  have hm:(s.opened a).bs[(s.opened a).bs.length - 1]?=some b:=by
    rw [← List.getLast?_eq_getElem?];exact hb
  have okb:=(hok.bs b (List.mem_of_getElem? hm)).1
  have:=hok.set hm (b':=Zhy b s.seed x key 3) rfl ⟨okb.lo,okb.step,Zi3 okb.total (by omega),fun r c=>?_⟩
  ·show Sk.OK ⟨s.seed,a,ZgJ (ZhQ a s.bs) fun b=>Zhy b s.seed x key 3⟩
   rw [ZkG hb]
   exact this
  ·have step:∀ (n:Int→Int→Int),(∀ r c,0≤n r c∧n r c≤4611686018427387904)→∀ (r' c':Int) (r c:Int),0≤Zl0 n r' c' (spl (n r' c') x) r c∧Zl0 n r' c' (spl (n r' c') x) r c≤4611686018427387904:=fun n hn r' c' r c=>by
     unfold Zl0
     split
     ·exact Zi3 (hn _ _) (by omega)
     ·exact hn _ _
   exact step _ (step _ (step _ okb.n _ _) _ _) _ _ _ _
theorem ZdB {f:F4} (h:ZbK f=true):(1≤f.1∧f.1≤1099511627776)∧(0≤f.2.1∧f.2.1≤1099511627776)∧(f.2.2.1=1∨f.2.2.1=2∨f.2.2.1=3)∧(f.2.2.1≠3→f.2.2.2.1=0)∧(0≤f.2.2.2.1∧f.2.2.2.1≤3600000000):=by
  unfold ZbK at h
  rw [Bool.and_eq_true,Bool.and_eq_true,Bool.and_eq_true] at h
  obtain ⟨h1,h2,h3,h4⟩:=h
  have q1:=ZdO h1
  have q2:=ZdO h2
  have q3:=ZdO h3
  unfold ZkE at h4
  refine ⟨by omega,by omega,by omega,fun hn=>?_,?_⟩
  ·rw [if_neg hn] at h4
   simpa using h4
  ·split at h4
   ·have:=ZdO h4;omega
   ·have:f.2.2.2.1=0:=by simpa using h4
    omega
theorem ZiL {l:List F4} (h:(l.map (·.1)).Nodup) {f g:F4} (hf:f∈l) (hg:g∈l) (e:f.1=g.1):f=g:=by
  obtain ⟨i,hi⟩:=List.getElem?_of_mem hf
  obtain ⟨j,hj⟩:=List.getElem?_of_mem hg
  have h1:(l.map (·.1))[i]?=some f.1:=by rw [List.getElem?_map,hi];rfl
  have h2:(l.map (·.1))[j]?=some f.1:=by rw [List.getElem?_map,hj,e];rfl
  obtain ⟨l1,e1⟩:=List.getElem?_eq_some_iff.1 h1
  obtain ⟨l2,e2⟩:=List.getElem?_eq_some_iff.1 h2
  have:=(List.getElem_inj h).1 (e1.trans e2.symm)
  subst this
  rw [hi] at hj
  exact Option.some.inj hj
def Zvw (S:Srv) (l:List G4) (f:F4) (w:Win):Prop:=w.last≤S.last∧(∀ i,0≤w.p i∧w.p i≤f.2.1)∧∀ i,w.p i=Zti i (ofI f.1 l)
def ZzI (S:Srv) (l:List G4) (f:F4) (s:Sk):Prop:=s.OK∧s.last≤S.last∧∀ (t:ByteArray) (at_ r:Int),(r=0∨r=1∨r=2)→s.last≤at_→min (ZgQ at_ (ofT f.1 t l)) 4611686018427387904≤Zid at_ r (Zin s.seed r t) s.bs
structure Znu (fl:List F4) (S:Srv) (got old l:List G4):Prop where
  is:got=old++l
  old:∀ g,g∈old→g.1≤S.begun
  new:∀ g,g∈l→0≤g.1∧g.1≤S.last
  rate:∀ f,f∈fl→∀ w,S.counts f.1=some (.rate w)→Zvw S l f w
  val:∀ f,f∈fl→∀ s,S.counts f.1=some (.value s)→ZzI S l f s
structure Zcy (fl:List F4) (S:Srv) (got:List G4):Prop where
  right:∀ f,f∈fl→ZbK f=true
  nodup:(fl.map (·.1)).Nodup
  spaces:S.spaces=[(nA,fl)]
  times:0≤S.begun∧S.begun≤S.last∧S.last≤1152921504606846976
  cnts:∀ f,f∈fl→∃ c,S.counts f.1=some c∧c.kind=f.2.2.1
  out:S.out.length≤1024
  pos:∀ g,g∈got→0≤g.2.2.1
  parts:∃ old l,Znu fl S got old l
theorem Zwq {S:Srv} {at_:Int} {o:List F4} (h:Shr S at_ o):o.Sublist S.out:=by
  rcases h with rfl | rfl | ⟨i,rfl⟩
  ·exact List.Sublist.refl _
  ·exact List.filter_sublist
  ·exact (List.eraseIdx_sublist _ _).trans List.filter_sublist
theorem Zcy.ok {fl:List F4} {S:Srv} {got:List G4} (h:Zcy fl S got):S.OK:=by
  refine ⟨by have:=h.out;omega,fun x hx f hf=>?_⟩
  rw [h.spaces] at hx
  simp only [List.mem_cons,List.not_mem_nil,or_false] at hx
  subst hx
  exact h.cnts f hf
theorem Zcy.still {fl:List F4} {S:Srv} {got:List G4} (h:Zcy fl S got) {at_:Int} (ha:Zaw S.last at_=0) {o:List F4} (ho:o.length≤S.out.length) (cs:Int→Option ByteArray) (nn:Nat) (nx:Int):Zcy fl { S with last:=at_,out:=o,conns:=cs,nn:=nn,next:=nx } got:=by
  obtain ⟨a0,a1,a2⟩:=Zhl ha
  obtain ⟨t0,t1,t2⟩:=h.times
  obtain ⟨old,l,hp⟩:=h.parts
  exact ⟨h.right,h.nodup,h.spaces,⟨t0,Int.le_trans t1 a2,a1⟩,h.cnts,Nat.le_trans ho h.out,h.pos,old,l,hp.is,hp.old,fun g hg=>⟨(hp.new g hg).1,Int.le_trans (hp.new g hg).2 a2⟩,
    fun f hf w hw=>⟨Int.le_trans (hp.rate f hf w hw).1 a2,(hp.rate f hf w hw).2⟩,fun f hf s hs=>⟨(hp.val f hf s hs).1,Int.le_trans (hp.val f hf s hs).2.1 a2,(hp.val f hf s hs).2.2⟩⟩
theorem Zcy.conn {fl:List F4} {S:Srv} {got:List G4} (h:Zcy fl S got) (cs:Int→Option ByteArray) (nn:Nat):Zcy fl { S with conns:=cs,nn:=nn } got:=by
  obtain ⟨old,l,hp⟩:=h.parts
  exact ⟨h.right,h.nodup,h.spaces,h.times,h.cnts,h.out,h.pos,old,l,hp.is,hp.old,hp.new,hp.rate,hp.val⟩
theorem Zcy.flow {fl:List F4} {S:Srv} {got:List G4} (h:Zcy fl S got) {ns:ByteArray} {id:Int} {f:F4} (hf:Ze6 S.spaces ns id=some f):f∈fl∧f.1=id:=by
  obtain ⟨x,hx,hf,hh⟩:=Zo6 hf
  rw [h.spaces] at hx
  simp only [List.mem_cons,List.not_mem_nil,or_false] at hx
  subst hx
  refine ⟨hf,?_⟩
  unfold ZlB at hh
  rw [Bool.and_eq_true] at hh
  simpa using hh.1
theorem ZwE {used:Int} {f:F4} {r:Rq} (h:Zkc used f r=false) (hf:0≤f.2.1∧f.2.1≤1099511627776) (hr:1≤r.2.2.2.1∧r.2.2.2.1≤1099511627776):used+r.2.2.2.1≤f.2.1:=by
  unfold Zkc at h
  rw [decide_eq_false_iff_not,ZR (by omega) (by omega)] at h
  omega
theorem Zt1 {S:Srv} {at_:Int} {f:F4} (h:Zhb S at_ f=false) (hb:0≤S.begun∧S.begun≤1152921504606846976) (hf:0≤f.2.2.2.1∧f.2.2.2.1≤3600000000):S.begun+1000000≤at_:=by
  unfold Zhb at h
  rw [decide_eq_false_iff_not,Zr6,ZR (by omega) (by omega)] at h
  omega
def Srv.tookAt (S:Srv) (at_:Int) (f:F4) (c:Cnt):Srv:={ S with last:=at_,counts:=fun i=>if i=f.1 then some c else S.counts i }
theorem ZkA {S:Srv} {fl:List F4} {got old l:List G4} (hp:Znu fl S got old l) {at_ id n F C:Int} {t:ByteArray} (hb:S.begun+1000000≤at_) (hl:ZdR at_ (ofT id t l)≤F) (hF:F+n≤C):ZdR at_ (ofT id t (got++[(at_,id,n,t)]))≤C:=by
  rw [ZgD,hp.is,ZgD,Zgd,Zgd,Zlv (g:=(at_,id,n,t)) rfl rfl,ZoY _ _ _ (by omega)]
  have h0:ZdR at_ (ofT id t old)=0:=Zna fun x hx=>by
    obtain ⟨g,hg,rfl⟩:=Zn0 hx
    have:=hp.old g hg
    exact decide_eq_false (by show ¬ at_ - g.1<900000;omega)
  dsimp only
  omega
theorem Zcy.took {fl:List F4} {S:Srv} {got:List G4} (h:Zcy fl S got) {at_:Int} (ha:Zaw S.last at_=0) {f:F4} (hf:f∈fl) {n:Int} (hn:0≤n) (t:ByteArray) {c:Cnt} (hk:c.kind=f.2.2.1)
    (hr:∀ old l,Znu fl S got old l→(∀ w,c = .rate w→Zvw (S.tookAt at_ f c) (l++[(at_,f.1,n,t)]) f w)∧∀ s,c = .value s→ZzI (S.tookAt at_ f c) (l++[(at_,f.1,n,t)]) f s) :
    Zcy fl (S.tookAt at_ f c) (got++[(at_,f.1,n,t)]):=by
  obtain ⟨a0,a1,a2⟩:=Zhl ha
  obtain ⟨t0,t1,t2⟩:=h.times
  obtain ⟨old,l,hp⟩:=h.parts
  obtain ⟨hr1,hr2⟩:=hr old l hp
  have mine:∀ g,g∈fl→g.1=f.1→g=f:=fun g hg e=>ZiL h.nodup hg hf e
  have hc:∀ i,(S.tookAt at_ f c).counts i=if i=f.1 then some c else S.counts i:=fun _=>rfl
  refine ⟨h.right,h.nodup,h.spaces,⟨t0,Int.le_trans t1 a2,a1⟩,fun g hg=>?_,h.out,fun g hg=>?_,old,l++[(at_,f.1,n,t)],by rw [hp.is,List.append_assoc],hp.old,fun g hg=>?_,fun g hg w hw=>?_,fun g hg s hs=>?_⟩
  ·rw [hc]
   split
   ·rename_i e
    rw [mine g hg e]
    exact ⟨c,rfl,hk⟩
   ·exact h.cnts g hg
  ·rcases List.mem_append.1 hg with hg | hg
   ·exact h.pos g hg
   ·simp at hg;subst hg;exact hn
  ·rcases List.mem_append.1 hg with hg | hg
   ·exact ⟨(hp.new g hg).1,Int.le_trans (hp.new g hg).2 a2⟩
   ·simp at hg;subst hg;exact ⟨a0,Int.le_refl _⟩
  ·rw [hc] at hw
   split at hw
   ·rename_i e
    rw [mine g hg e]
    exact hr1 w (Option.some.inj hw)
   ·rename_i e
    obtain ⟨q1,q2,q3⟩:=hp.rate g hg w hw
    refine ⟨Int.le_trans q1 a2,q2,fun i=>?_⟩
    rw [Zn3,ZoX (g:=(at_,f.1,n,t)) (fun e'=>e e'.symm),List.append_nil]
    exact q3 i
  ·rw [hc] at hs
   split at hs
   ·rename_i e
    rw [mine g hg e]
    exact hr2 s (Option.some.inj hs)
   ·rename_i e
    obtain ⟨q1,q2,q3⟩:=hp.val g hg s hs
    refine ⟨q1,Int.le_trans q2 a2,fun t' at' r hr' hl=>?_⟩
    rw [ZgD,ZiJ (g:=(at_,f.1,n,t)) (.inl fun e'=>e e'.symm),List.append_nil]
    exact q3 t' at' r hr' hl
theorem Zcy.counted {fl:List F4} {S:Srv} {got:List G4} (h:Zcy fl S got) {at_:Int} (ha:Zaw S.last at_=0) {f:F4} (hf:f∈fl) (h3:f.2.2.1≠3) {r:Rq} (hc:1≤r.2.2.2.1∧r.2.2.2.1≤1099511627776) (hq:Zhb S at_ f=false) (ho:Zkc (ZfN S at_ f r.2.2.2.2.1) f r=false) :
    Zcy fl ((S.at at_).take at_ f r) (got++[(at_,f.1,r.2.2.2.1,r.2.2.2.2.1)])∧ZdR at_ (ofT f.1 r.2.2.2.2.1 (got++[(at_,f.1,r.2.2.2.1,r.2.2.2.2.1)]))≤f.2.1:=by
  obtain ⟨a0,a1,a2⟩:=Zhl ha
  obtain ⟨t0,t1,t2⟩:=h.times
  obtain ⟨⟨i0,i1⟩,hcnt,hkd,hls,hle⟩:=ZdB (h.right f hf)
  obtain ⟨c,hcc,hck⟩:=h.cnts f hf
  have hbq:=Zt1 hq (by omega) hle
  have hov:=ZwE ho hcnt hc
  have hS:(S.at at_).take at_ f r=S.tookAt at_ f (c.took at_ r.2.2.2.2.1 r.2.2.2.1):=by
    unfold Srv.take Srv.at Srv.tookAt
    dsimp only
    rw [hcc]
    rfl
  have hu:ZfN S at_ f r.2.2.2.2.1=c.used at_ r.2.2.2.2.1:=by
    unfold ZfN
    rw [if_neg h3,hcc]
  rw [hu] at hov
  rw [hS]
  generalize r.2.2.2.1=n at hc hov ⊢
  generalize r.2.2.2.2.1=t at hov ⊢
  have hpos:∀ old l,Znu fl S got old l→∀ g,g∈l→0≤g.2.2.1:=fun old l hp g hg=>h.pos g (by rw [hp.is];exact List.mem_append_right _ hg)
  cases c with
  | leased=>exact absurd hck.symm h3
  | rate w =>
    have hk1:f.2.2.1=1:=hck.symm
    have key:∀ old l,Znu fl S got old l→w.sum at_=ZlC (loW at_) (ofI f.1 l)∧Xv w.last at_=0:=fun old l hp=>by
      obtain ⟨q1,q2,q3⟩:=hp.rate f hf w hcc
      refine ⟨Zrx hcnt q2 q3 a0 fun x hx=>?_,by unfold Xv;rw [if_neg (by omega),if_neg (by omega),if_neg (by omega)]⟩
      obtain ⟨g,hg,rfl⟩:=Zn2 hx
      exact Int.le_trans (hp.new g hg).2 a2
    have usd:∀ old l,Znu fl S got old l→(Cnt.rate w).used at_ t=w.sum at_:=fun old l hp=>by
      show w.used at_=_
      unfold Win.used
      rw [if_pos (key old l hp).2]
    refine ⟨h.took ha hf (by omega) t (by rw [hk1];rfl) fun old l hp=>⟨fun w' hw'=>?_,fun s hs=>by cases hs⟩,?_⟩
    ·obtain ⟨q1,q2,q3⟩:=hp.rate f hf w hcc
     have hw9:w'=w.add at_ n:=by
       have:(Cnt.rate w).took at_ t n = .rate (w.add at_ n):=by
         show Cnt.rate (w.took at_ n)=_
         unfold Win.took
         rw [if_pos (key old l hp).2]
       rw [this] at hw'
       exact (Cnt.rate.inj hw').symm
     have hl:∀ x,x∈ofI f.1 l→0≤x.2:=fun x hx=>by
       obtain ⟨g,hg,rfl⟩:=Zn2 hx
       exact hpos old l hp g hg
     have hb:w.p (bkt at_)≤w.sum at_:=by
       rw [(key old l hp).1,q3]
       refine ZlE hl fun x hx h9=>?_
       simp only [decide_eq_true_eq] at h9 ⊢
       rw [h9]
       unfold loW
       have:0≤bkt at_:=by unfold bkt;omega
       omega
     rw [usd old l hp] at hov
     have q2b:=q2 (bkt at_)
     have hpl:Zbn (w.p (bkt at_)) n=w.p (bkt at_)+n:=by rw [Zfk (by omega) (by omega)];omega
     subst hw9
     refine ⟨Int.le_refl _,fun i=>?_,fun i=>?_⟩
     ·show 0≤(if i=bkt at_ then Zbn (w.p i) n else w.p i)∧(if i=bkt at_ then Zbn (w.p i) n else w.p i)≤f.2.1
      split
      ·rename_i e
       rw [e,hpl]
       omega
      ·exact q2 i
     ·show (if i=bkt at_ then Zbn (w.p i) n else w.p i)=_
      rw [Zn3,Zn1 (g:=(at_,f.1,n,t)) rfl,Zw6,Zw5,← q3]
      split
      ·rename_i e
       rw [e,hpl]
      ·omega
    ·obtain ⟨old,l,hp⟩:=h.parts
     rw [usd old l hp,(key old l hp).1] at hov
     refine ZkA hp hbq ?_ hov
     refine Int.le_trans (ZoZ _ _ _ (hpos old l hp)) (ZmF fun x hx=>?_)
     obtain ⟨g,hg,rfl⟩:=Zn2 hx
     exact ⟨(hp.new g hg).1,hpos old l hp g hg⟩
  | value s =>
    have hk1:f.2.2.1=2:=hck.symm
    have wr:∀ old l,Znu fl S got old l→Xv s.last at_=0:=fun old l hp=>by
      obtain ⟨q1,q2,q3⟩:=hp.val f hf s hcc
      unfold Xv
      rw [if_neg (by omega),if_neg (by omega),if_neg (by omega)]
    have usd:∀ old l,Znu fl S got old l→min (ZgQ at_ (ofT f.1 t l)) 4611686018427387904≤(Cnt.value s).used at_ t:=fun old l hp=>by
      obtain ⟨q1,q2,q3⟩:=hp.val f hf s hcc
      show _≤s.used at_ t
      unfold Sk.used
      rw [if_pos (wr old l hp)]
      have e0:=q3 t at_ 0 (.inl rfl) (by omega)
      have e1:=q3 t at_ 1 (.inr (.inl rfl)) (by omega)
      have e2:=q3 t at_ 2 (.inr (.inr rfl)) (by omega)
      show _≤Zik (Zik (Zik 4611686018427387904 (Zid at_ 0 (Zin s.seed 0 t) s.bs)) (Zid at_ 1 (Zin s.seed 1 t) s.bs)) (Zid at_ 2 (Zin s.seed 2 t) s.bs)
      rw [ZhW,ZhW,ZhW]
      omega
    refine ⟨h.took ha hf (by omega) t (by rw [hk1];rfl) fun old l hp=>⟨(fun w' hw'=>by cases hw'),fun s' hs'=>?_⟩,?_⟩
    ·obtain ⟨q1,q2,q3⟩:=hp.val f hf s hcc
     have hw:=wr old l hp
     have hs9:s'=s.add at_ n t:=by
       have:(Cnt.value s).took at_ t n = .value (s.add at_ n t):=by
         show Cnt.value (s.took at_ n t)=_
         unfold Sk.took
         rw [if_pos hw]
       rw [this] at hs'
       exact (Cnt.value.inj hs').symm
     subst hs9
     refine ⟨ZzG q1 hw (by omega),Int.le_refl _,fun t' at' r' hr' hl=>?_⟩
     have hl':at_≤at':=hl
     have hq3:=q3 t' at' r' hr' (by omega)
     rw [show (s.add at_ n t).seed=s.seed from rfl,ZtE q1 hw hl' hr' (by omega),ZgD,Zsu]
     have hrng:=ZiC at' r' (Zin s.seed r' t') s.bs fun b hb=>(q1.bs b hb).1
     rcases Classical.em (t=t') with e | e
     ·subst e
      rw [Zlv (g:=(at_,f.1,n,t)) rfl rfl,Zst]
      by_cases hb:bgn at_>bgn at' - 1000000
      ·rw [if_pos hb,if_pos ⟨rfl,hb⟩]
       unfold spl
       dsimp only
       omega
      ·rw [if_neg hb,if_neg (fun e=>hb e.2)]
       omega
     ·rw [ZiJ (g:=(at_,f.1,n,t)) (.inr e)]
      have:ZgQ at' []=0:=rfl
      split
      ·unfold spl;omega
      ·omega
    ·obtain ⟨old,l,hp⟩:=h.parts
     have hus:=usd old l hp
     refine ZkA hp hbq (F:=ZgQ at_ (ofT f.1 t l)) (Zlz fun x hx=>?_) (by omega)
     obtain ⟨g,hg,rfl⟩:=Zn0 hx
     exact hpos old l hp g hg
def Zuc (S:Srv) (at_ conn:Int) (r:Rq) (got:List G4):List G4 :=
  if (doV S at_ conn r).1.2=0∧(doV S at_ conn r).1.1.2.1=1∧(r.2.1=1∨r.2.1=2) then got++[(at_,r.2.2.1,r.2.2.2.1,r.2.2.2.2.1)] else got
theorem Zcy.do {fl:List F4} {S:Srv} {got:List G4} (h:Zcy fl S got) (at_ conn:Int) (r:Rq):Zcy fl (doV S at_ conn r).2 (Zuc S at_ conn r got) ∧
    ((doV S at_ conn r).1.2=0→(doV S at_ conn r).1.1.2.1=1→(r.2.1=1∨r.2.1=2)→(0≤at_∧at_≤1152921504606846976)∧1≤r.2.2.2.1∧∃ f,f∈fl∧f.1=r.2.2.1∧ZdR at_ (ofT r.2.2.1 r.2.2.2.2.1 (got++[(at_,r.2.2.1,r.2.2.2.1,r.2.2.2.2.1)]))≤f.2.1):=by
  unfold Zuc
  rcases Zhs S at_ conn r with ⟨h1,h2⟩ | ⟨h1,hl,hid,hS | ⟨ns,f,hc,hG⟩⟩
  ·rw [if_neg (fun e=>h1 e.1),h2]
   exact ⟨h,fun e=>(h1 e).elim⟩
  ·have hn:¬ ((doV S at_ conn r).1.2=0∧(doV S at_ conn r).1.1.2.1=1∧(r.2.1=1∨r.2.1=2)):=fun e=>by rcases hS.nope with q | q<;>omega
   rw [if_neg hn]
   obtain ⟨o,cs,ho,e⟩:=hS.is
   refine ⟨?_,fun q1 q2 q3=>(hn ⟨q1,q2,q3⟩).elim⟩
   rw [e]
   exact h.still hl (Zwq ho).length_le cs S.nn S.next
  ·obtain ⟨hf,hid⟩:=h.flow hG.flow
   rcases hG.is with ⟨h3,e⟩ | ⟨h3,hlen,e⟩
   ·have hk:r.2.1=1∨r.2.1=2:=by
      have:=(ZdB (h.right f hf)).2.2.1
      rw [hG.kind] at this h3
      omega
    have hc2:=Zi9 hG.right (by omega)
    obtain ⟨g1,g2⟩:=h.counted hl hf h3 hc2 hG.quiet hG.over
    rw [if_pos ⟨h1,hG.one,hk⟩,e,← hid]
    exact ⟨g1,fun _ _ _=>⟨by have:=Zhl hl;omega,hc2.1,f,hf,rfl,g2⟩⟩
   ·have hk:r.2.1=3:=by rw [← hG.kind];exact h3
    rw [if_neg (fun e=>by omega),e]
    refine ⟨?_,fun _ _ q=>by omega⟩
    have hst:=h.still hl (o:=Xw at_ S.out) (List.length_filter_le _ _) S.conns S.nn (IntKind.wrap .i64 (S.next+1))
    obtain ⟨old,l,hp⟩:=hst.parts
    refine ⟨hst.right,hst.nodup,hst.spaces,hst.times,hst.cnts,?_,hst.pos,old,l,hp.is,hp.old,hp.new,hp.rate,hp.val⟩
    show (Xw at_ S.out++[_]).length≤1024
    rw [List.length_append,List.length_singleton]
    omega
theorem Zcy.restart {fl:List F4} {S:Srv} {got:List G4} (h:Zcy fl S got) {at_:Int} (ha:Zaw S.last at_=0):Zcy fl (S.restarted at_) got:=by
  obtain ⟨a0,a1,a2⟩:=Zhl ha
  obtain ⟨t0,t1,t2⟩:=h.times
  obtain ⟨old,l,hp⟩:=h.parts
  have hc:∀ id,(S.restarted at_).counts id=(S.counts id).map fun c=>ZfG id c.kind:=fun _=>rfl
  refine ⟨h.right,h.nodup,h.spaces,⟨a0,Int.le_refl _,a1⟩,fun f hf=>?_,Nat.zero_le _,h.pos,got,[],by simp,fun g hg=>?_,(fun g hg=>by cases hg),fun f hf w hw=>?_,fun f hf s hs=>?_⟩
  ·obtain ⟨c,hc1,hk⟩:=h.cnts f hf
   rw [hc,hc1]
   exact ⟨_,rfl,by rw [Zet f.1 (Zh1 c)];exact hk⟩
  ·show g.1≤at_
   rw [hp.is] at hg
   rcases List.mem_append.1 hg with hg | hg
   ·have:=hp.old g hg;omega
   ·have:=(hp.new g hg).2;omega
  ·rw [hc] at hw
   obtain ⟨c,hc1,hk⟩:=h.cnts f hf
   rw [hc1] at hw
   have hw':ZfG f.1 c.kind = .rate w:=Option.some.inj hw
   have hkk:c.kind=1:=by
     rw [← Zet f.1 (Zh1 c),hw'];rfl
   rw [hkk] at hw'
   have:w=⟨0,fun _=>0⟩:=(Cnt.rate.inj hw').symm
   subst this
   have:=(ZdB (h.right f hf)).2.1
   exact ⟨a0,fun _=>⟨Int.le_refl _,this.1⟩,fun _=>rfl⟩
  ·rw [hc] at hs
   obtain ⟨c,hc1,hk⟩:=h.cnts f hf
   rw [hc1] at hs
   have hs':ZfG f.1 c.kind = .value s:=Option.some.inj hs
   have hkk:c.kind=2:=by
     rw [← Zet f.1 (Zh1 c),hs'];rfl
   rw [hkk] at hs'
   have:s=⟨IntKind.wrap .u64 f.1,0,[]⟩:=(Cnt.value.inj hs').symm
   subst this
   refine ⟨⟨Int.le_refl _,(by decide:(0:Int)≤1152921504606846976),(fun b hb=>by cases hb),List.Pairwise.nil,Nat.zero_le _⟩,a0,fun t at' r _ _=>?_⟩
   show min (ZgQ at' []) 4611686018427387904≤0
   have:ZgQ at' []=0:=rfl
   omega
theorem Zcy.opened {fl:List F4} {S:Srv} {got:List G4} (h:Zcy fl S got) (conn:Int):Zcy fl (S.opened conn) got:=by
  unfold Srv.opened
  split
  ·exact h.conn _ _
  ·exact h
theorem Zcy.begin {at_:Int} (ht:isT at_) {fl:List F4} (hl:Zd7 (Zgo at_) nA fl):Zcy fl ((Zgo at_).loaded nA fl) []:=by
  obtain ⟨hn,hr,⟨nd,_⟩,_⟩:=hl
  have hright:∀ f,f∈fl→ZbK f=true:=fun f hf=>by
    have:=List.any_eq_false.1 hr f hf
    simpa using this
  have hcs:=ZkK fl { Zgo at_ with spaces:=(Zgo at_).spaces++[(nA,fl)]} nd (fun f hf=>rfl)
  obtain ⟨b1,b2,b3,b4,b5,b6,b7⟩:=ZgR fl { Zgo at_ with spaces:=(Zgo at_).spaces++[(nA,fl)]}
  have hld:(Zgo at_).loaded nA fl={ Zgo at_ with spaces:=(Zgo at_).spaces++[(nA,fl)]}.freshL fl:=rfl
  rw [← hld] at hcs b1 b2 b3 b4
  generalize (Zgo at_).loaded nA fl=S at hcs b1 b2 b3 b4 ⊢
  have b2':S.begun=at_:=b2
  have b3':S.last=at_:=b3
  have b4':S.out=[]:=b4
  obtain ⟨i0,i1⟩:=ht
  refine ⟨hright,nd,b1,by omega,fun f hf=>⟨_,hcs f hf,ZgS (hright f hf)⟩,by rw [b4'];exact Nat.zero_le _,(fun g hg=>by cases hg),[],[],rfl,(fun g hg=>by cases hg),(fun g hg=>by cases hg),fun f hf w hw=>?_,fun f hf s hs=>?_⟩
  ·rw [hcs f hf] at hw
   have hw':=Option.some.inj hw
   unfold Zb8 at hw'
   split at hw'
   ·have:w=⟨0,fun _=>0⟩:=(Cnt.rate.inj hw').symm
    subst this
    have:=(ZdB (hright f hf)).2.1
    exact ⟨by show (0:Int)≤S.last;omega,fun _=>⟨Int.le_refl _,this.1⟩,fun _=>rfl⟩
   ·split at hw'<;>cases hw'
  ·rw [hcs f hf] at hs
   have hs':=Option.some.inj hs
   unfold Zb8 at hs'
   split at hs'
   ·cases hs'
   ·split at hs'
    ·have:s=⟨IntKind.wrap .u64 f.1,0,[]⟩:=(Cnt.value.inj hs').symm
     subst this
     refine ⟨⟨Int.le_refl _,(by decide:(0:Int)≤1152921504606846976),(fun b hb=>by cases hb),List.Pairwise.nil,Nat.zero_le _⟩,by show (0:Int)≤S.last;omega,fun t at' r _ _=>?_⟩
     show min (ZgQ at' []) 4611686018427387904≤0
     have:ZgQ at' []=0:=rfl
     omega
    ·cases hs'
end Go.Proofs.YtbppjmcinoffnaaGreat.Tk
namespace Go.Proofs.YtbppjmcinoffnaaGreat
open Go Go.Fw
open Nat (reduceAdd reduceLT reduceLeDiff reduceEqDiff reduceMul)
open Tk (Zu rI rB rS rP rM rL Ziv XV held1 ZaQ wrS nA)
abbrev nPm (cb:Nat) (c:Cl):Pm:=(cb,0,⟨c,0,none⟩)
def ZtD (Tn Ts:Nat→Option Nat) (wb:Nat):TT:=fun k=>match Tn k with
  | some t=>some (1,t)
  | none=>match Ts k with
    | some t=>some (2,t)
    | none=>if k=wb then some (0,0) else none
theorem Zu9 {Tn Ts:Nat→Option Nat} {wb k t:Nat} (h:Tn k=some t):ZtD Tn Ts wb k=some (1,t):=by unfold ZtD;rw [h]
theorem Zu8 {Tn Ts:Nat→Option Nat} {wb k t:Nat} (h:Tn k=none) (h2:Ts k=some t):ZtD Tn Ts wb k=some (2,t):=by unfold ZtD;rw [h,h2]
theorem Zi0 {Tn Ts:Nat→Option Nat} {wb k:Nat} (h:Tn k=none) (h2:Ts k=none):ZtD Tn Ts wb k=if k=wb then some (0,0) else none:=by unfold ZtD;rw [h,h2]
def ZAa (tmo least most:Int) (at_:Int):Pe:=⟨(ZhU tmo least most nA).atS at_,0,none⟩
def Zjm (at_ tmo least most:Int) (k:Nat):Cu:=⟨St.liP (fun _=>false) [1],[],Tk.Zgo at_,true,List.replicate k (ZAa tmo least most at_),at_,[]⟩
def ZmE (at_ clients tmo least most:Int):Int:=if at_<0 then 2 else if at_>1152921504606846976 then 2 else if clients<1 then 2 else if clients>8 then 2 else Zjl tmo least most nA
section
variable {h h':Zb} {T:TT} {wb nb sb:Nat} {sp sg:Sl} {pl:List Pm} {w:Cu}
theorem WR.tagC (hR:WR h T wb nb sb sp sg pl w) (e:Ext h h') {Tc:Nat→Option Nat} {cb:Nat} {c:Cl} (hC:Client h' Tc cb c) (hT:∀ k,Tc k≠none→sz h≤k) :
    WR h' (cmb (3+2*pl.length) T Tc) wb nb sb sp sg pl w∧Zav T (cmb (3+2*pl.length) T Tc) h h' :=
  hR.part (by omega) ⟨e.upd _,fun k hk=> .inr (hT k hk)⟩ hC.lt (w':=w) rfl rfl rfl rfl hR.pes (.inr ⟨by omega,rfl,rfl⟩) (.inr ⟨by omega,rfl⟩) (fun i x hx=> .inr ⟨by have:=Za3 hx;omega,x,hx,rfl,rfl⟩) fun i x l br hx hr=> .inr ⟨by omega,x,hx,rfl,hr⟩
theorem WR.addP (hR:WR h T wb nb sb sp sg pl w) {cb:Nat} {c:Cl} (hC:Client h (prj (3+2*pl.length) T) cb c) {s':Sl} (ho:Own h' 0 s' 3 ((pl++[nPm cb c]).flatMap peL)) (hu:Upd (fun k=>sp.blk=some k) h h') (hb:s'.blk=sp.blk∨s'.blk=some h.size) {K:Zb→Prop}
    (hk:∀ h2 T',WR h2 T' wb nb sb s' sg (pl++[nPm cb c]) { w with pes:=w.pes++[⟨c,0,none⟩]}→Zav T T' h h2→K h2):st h' wb 3 (slV s') K:=by
  have hw:¬ sp.blk=some wb:=fun e=>by
    have:=hR.tsp wb e
    rw [hR.twb] at this
    cases this
  have c1:=XG hR.cells hu hw
  refine Ziv c1 (by decide:3<6) ZgC fun h2 c2 u2 z2=>?_
  have lo:∀ k,s'.blk=some k→T k=some (0,1)∨h.size≤k:=fun k hk=>by
    rcases hb with e | e
    ·rw [e] at hk;exact .inl (hR.tsp k hk)
    ·rw [e] at hk;cases hk;exact .inr (Nat.le_refl _)
  have hu2:Upd (fun k=>∃ t,T k=some (0,t)) h h2:=Upd.then (hu.mono fun k _ hk=>⟨1,hR.tsp k hk⟩) u2 fun k _ hk=>⟨0,by rw [hk];exact hR.twb⟩
  have z2':sz h2=sz h':=z2
  have hT:∀ k,T k≠none→(if s'.blk=some k then some (0,1) else T k)=T k:=fun k hk=>by
    split
    ·rename_i e
     rcases lo k e with h1 | h1
     ·exact h1.symm
     ·exact (hk (hR.no h1)).elim
    ·rfl
  have hsg:∀ b,sg.blk=some b→h2[b]?=h[b]?:=fun b hb'=>by
    have tb:=hR.tsg b hb'
    have hl:b<sz h:=hR.lt b (by rw [tb];exact fun e=>by cases e)
    have n1:b≠wb:=fun e=>by rw [e,hR.twb] at tb;cases tb
    have n2:¬ sp.blk=some b:=fun e=>by rw [hR.tsp b e] at tb;cases tb
    exact (u2.old b (Nat.lt_of_lt_of_le hl hu.size) n1).trans (hu.old b hl n2)
  obtain ⟨h3,h4⟩:=hR.zero hu2 (T':=fun k=>if s'.blk=some k then some (0,1) else T k) hT (fun k hk=>by
      by_cases e:s'.blk=some k
      ·rcases lo k e with h1 | h1
       ·exact .inl (by rw [h1];exact fun e=>by cases e)
       ·exact .inr ⟨h1,(by rw [z2'];exact (ho.lt e).2),1,if_pos e⟩
      ·rw [if_neg e] at hk;exact .inl hk) (sp':=s') (sg':=sg) (pl':=pl++[nPm cb c]) (w':={ w with pes:=w.pes++[⟨c,0,none⟩]}) c2
    (ho.congr fun b hb' _ _=>u2.old b (ho.lt hb').2 fun e=>by
      rcases lo b hb' with h1 | h1
      ·rw [e,hR.twb] at h1;cases h1
      ·have:=hR.lt wb (by rw [hR.twb];exact fun e=>by cases e)
       rw [e] at h1
       have h1:sz h≤wb:=h1
       omega) (hR.grs.congr fun b hb' _ _=>hsg b hb') (fun k hk=>if_pos hk) (fun k hk=>(hT k (by rw [hR.tsg k hk];exact fun e=>by cases e)).trans (hR.tsg k hk)) (by rw [List.map_append,hR.pes];rfl) rfl rfl rfl
    (fun i x hx=>by
      rcases Nat.lt_or_ge i pl.length with hl | hl
      ·rw [List.getElem?_append_left hl] at hx
       exact hR.cls i x hx
      ·rw [List.getElem?_append_right hl] at hx
       have:i - pl.length=0:=by
         have:=Za3 hx
         simp only [List.length_cons,List.length_nil] at this
         omega
       rw [this] at hx
       cases Option.some.inj hx
       have e:i=pl.length:=by omega
       rw [e];exact hC)
    (fun i x l br hx hr=>by
      rcases Nat.lt_or_ge i pl.length with hl | hl
      ·rw [List.getElem?_append_left hl] at hx
       exact hR.rds i x l br hx hr
      ·rw [List.getElem?_append_right hl] at hx
       have:i - pl.length=0:=by
         have:=Za3 hx
         simp only [List.length_cons,List.length_nil] at this
         omega
       rw [this] at hx
       cases Option.some.inj hx
       cases hr)
  exact hk h2 _ h3 h4
theorem WR.none0 {hs hn h':Zb} {Ts Tn:Nat→Option Nat} {S:Tk.Srv} {ps:Int→Bool} {cs:List St.Cn} (h1:Tk.Server hs Ts sb S) (h2:St.Net hn Tn nb ps cs) (e1:Ext hs hn) (hTn:∀ k,Tn k≠none→sz hs≤k) (e2:Ext hn h') {now:Int} (hc:obj h' (sz hn)=some (.cells [.pointer (some ⟨nb,0,none⟩),.pointer (some ⟨sb,0,none⟩),.bool true,slV ⟨none,0,0⟩,iv now,slV ⟨none,0,0⟩].toArray 82 (0,0))) :
    ∃ T,WR h' T (sz hn) nb sb ⟨none,0,0⟩ ⟨none,0,0⟩ [] ⟨ps,cs,S,true,[],now,[]⟩∧∀ k,T k≠none→Tn k≠none∨Ts k≠none∨k=sz hn:=by
  have ls:=ZyN h1
  have ln:=h2.lt
  have p1:prj 1 (ZtD Tn Ts (sz hn))=Tn:=by
    funext k
    cases hk:Tn k with
    | some t=>exact ZoW (Zu9 hk)
    | none =>
      cases hk2:Ts k with
      | some t=>exact Zcz (Zu8 hk hk2) (by decide)
      | none =>
        by_cases e:k=sz hn
        ·exact Zcz ((Zi0 hk hk2).trans (if_pos e)) (by decide)
        ·exact ZaR ((Zi0 hk hk2).trans (if_neg e))
  have p2:prj 2 (ZtD Tn Ts (sz hn))=Ts:=by
    funext k
    cases hk:Tn k with
    | some t =>
      have l1:=hTn k (by rw [hk];exact fun e=>by cases e)
      cases hk2:Ts k with
      | none=>exact Zcz (Zu9 hk) (by decide)
      | some u =>
        have:=ls k (by rw [hk2];exact fun e=>by cases e)
        omega
    | none =>
      cases hk2:Ts k with
      | some t=>exact ZoW (Zu8 hk hk2)
      | none =>
        by_cases e:k=sz hn
        ·exact Zcz ((Zi0 hk hk2).trans (if_pos e)) (by decide)
        ·exact ZaR ((Zi0 hk hk2).trans (if_neg e))
  refine ⟨ZtD Tn Ts (sz hn),⟨hc,Own.nil h' 0 3,Own.nil h' 0 9,by rw [p1];exact h2.ext e2,by rw [p2];exact Tk.Zva (Tk.Zva h1 e1) e2,rfl,(fun i x hx=>by cases hx),(fun i x l br hx=>by cases hx),?_,(fun k hk=>by cases hk),(fun k hk=>by cases hk),fun k hk=>?_⟩,fun k hk=>?_⟩
  ·have a:Tn (sz hn)=none:=Classical.byContradiction fun e=>by
     have h9:sz hn<sz hn:=ln _ e
     omega
   have b:Ts (sz hn)=none:=Classical.byContradiction fun e=>by
     have h9:=ls _ e
     have:=e1.size
     have h8:sz hs≤sz hn:=this
     omega
   exact (Zi0 a b).trans (if_pos rfl)
  ·have z1:sz hs≤sz hn:=e1.size
   have z2:sz hn≤sz h':=e2.size
   have z3:=ZT hc
   cases hk1:Tn k with
   | some t =>
     have h9:k<sz hn:=ln k (by rw [hk1];exact fun e=>by cases e)
     omega
   | none =>
     cases hk2:Ts k with
     | some t =>
       have h9:=ls k (by rw [hk2];exact fun e=>by cases e)
       omega
     | none =>
       rw [Zi0 hk1 hk2] at hk
       by_cases e:k=sz hn
       ·omega
       ·rw [if_neg e] at hk;exact (hk rfl).elim
  ·cases hk1:Tn k with
   | some t=>exact .inl fun e=>by cases e
   | none =>
     cases hk2:Ts k with
     | some t=>exact .inr (.inl fun e=>by cases e)
     | none =>
       rw [Zi0 hk1 hk2] at hk
       by_cases e:k=sz hn
       ·exact .inr (.inr e)
       ·rw [if_neg e] at hk;exact (hk rfl).elim
end
theorem ZtN {α:Type} (k:Nat) (a:α):List.replicate k a++[a]=List.replicate (k+1) a:=by rw [List.replicate_succ']
theorem Znz {h:Zb} {at_ clients tmo least most:Int} {K:Option Addr→Int→Zb→Prop} (h1:ZmE at_ clients tmo least most≠0→∀ h',Ext h h'→K none (ZmE at_ clients tmo least most) h')
    (h2:ZmE at_ clients tmo least most=0→∀ h' T wb sp,Wld h' T wb sp (Zjm at_ tmo least most clients.toNat)→Ext h h'→(∀ k,T k≠none→sz h≤k)→K (some ⟨wb,0,none⟩) 0 h'):Zbf at_ clients (tmo,least,most,()) K h:=by
  unfold Zbf Zfw
  unfold ZmE at h1 h2
  refine ZaT fun ha ca ea za=>Za ?_
  have za:sz ha=sz h+1:=za
  refine Zi (fun c=>Za ?_) (fun c1=>?_)
  ·rw [if_pos c] at h1;exact h1 (by decide) ha ea
  rw [if_neg c1] at h1 h2
  refine Zi (fun c=>Za ?_) (fun c2=>?_)
  ·rw [if_pos c] at h1;exact h1 (by decide) ha ea
  rw [if_neg c2] at h1 h2
  refine Zi (fun c=>Za ?_) (fun c3=>?_)
  ·rw [if_pos c] at h1;exact h1 (by decide) ha ea
  rw [if_neg c3] at h1 h2
  refine Zi (fun c=>Za ?_) (fun c4=>?_)
  ·rw [if_pos c] at h1;exact h1 (by decide) ha ea
  rw [if_neg c4] at h1 h2
  refine Tk.Zs1 (fun e=>(e ⟨by omega,by omega⟩).elim) fun _ hb Tb sb hSb eb lb=>Za ?_
  refine St.ZlZ fun hc Tc hNc ec lc=>?_
  refine ZaT fun hd cd ed zd=>?_
  have leb:sz ha≤sz hb:=eb.size
  have lec:sz hb≤sz hc:=ec.size
  obtain ⟨T0,hR0,t0⟩:=WR.none0 hSb hNc ec lc ed cd
  have led:sz hc≤sz hd:=ed.size
  have low0:∀ k,T0 k≠none→sz ha≤k:=fun k hk=>by
    rcases t0 k hk with q | q | q
    ·have h9:sz hb≤k:=lc k q;omega
    ·exact lb k q
    ·omega
  refine rP (hR0.wc (j:=0) rfl) (ZaT fun he ce ee ze=>?_)
  have hRe:=hR0.ext ee
  refine St.ZjY hRe.net (St.Zji ce) (fun k hk=>ZaR (hR0.no (by cases hk;exact Nat.le_refl _))) fun hf hNf sf=>?_
  obtain ⟨hRf,sf⟩:=hRe.netS sf hNf
  have low1:∀ k,cmb 1 T0 (prj 1 T0) k≠none→sz ha≤k:=fun k hk=>by
    rcases sf.new k hk with q | q
    ·exact low0 k q
    ·have h9:sz he≤k:=q
     have h8:sz hd≤sz he:=ee.size
     omega
  have e0f:Ext ha hf:=(((eb.trans ec).trans ed).trans ee).then sf.upd fun k hk=>low0 k hk
  have caf:=Yf ca e0f
  have cl8:(clients.toNat:Int)=clients:=by omega
  refine Zdi (I:=fun s hh=>∃ (k:Nat) (T:TT) (sp':Sl) (pl:List Pm),s=((k:Int),())∧(k:Int)≤clients∧(k≠0→Zjl tmo least most nA=0)∧pl.length=k∧WR hh T (sz hc) _ sb sp' ⟨none,0,0⟩ pl (Zjm at_ tmo least most k)∧Ext ha hh∧∀ j,T j≠none→sz ha≤j) (fun s _=>(clients - s.1).toNat)
    ⟨0,_,⟨none,0,0⟩,[],rfl,by omega,fun e=>(e rfl).elim,rfl,hRf,e0f,low1⟩ ?_
  rintro _ hg ⟨k,T,sp',pl,rfl,hkc,hne,hpl,hR,eg,low⟩ Q hQ
  dsimp only
  have cag:=Yf ca eg
  refine Zi (fun c=>?_) (fun c=>Za ?_)
  ·refine rI (Zu cag rfl) (rI (Zu cag rfl) (rI (Zu cag rfl) ?_))
   refine ZlZ (by decide) (fun e hh eh=>Za (XY (fun _=>Za ?_) (fun e2=>(e e2).elim))) fun e hh Th cb hCh eh lh=>Za (XY (fun e2=>(e2 rfl).elim) fun _=>?_)
   ·exact h1 e hh ((ea.trans eg).trans eh)
   ·have W0:WOK (ZhU tmo least most nA):=WOK.new
    refine Znn hCh W0 fun hi Ti hCi si=>?_
    have ei:Ext hg hi:=eh.then si.upd fun j hj=>lh j hj
    have li:∀ j,Ti j≠none→sz hg≤j:=fun j hj=>by
      rcases si.new j hj with q | q
      ·exact lh j q
      ·have h9:sz hh≤j:=q
       have h8:sz hg≤sz hh:=eh.size
       omega
    obtain ⟨hRi,s2⟩:=hR.tagC ei hCi li
    refine rL (hRi.wc (j:=3) rfl) (ZaT fun hj cj ej zj=>?_)
    have hRj:=hRi.ext ej
    have hCj:=hCi.ext ej
    refine (Zz8 (n:=3) (l:=peL (cb,0,⟨(ZhU tmo least most nA).atS at_,0,none⟩)) cj rfl).rd ?_
    have hspl:=hRj.len
    have hpe:(Zjm at_ tmo least most k).pes.length=k:=List.length_replicate
    rw [hpe] at hspl
    refine Own.app hRj.row rfl (by simp only [peL,rdA,List.all_cons,List.all_nil,Y4,ZhT];rfl) rfl (by omega) (by omega) (Nat.zero_le _) fun s' hk ho' hl' hu' hblk=>?_
    refine hRj.addP (c:=(ZhU tmo least most nA).atS at_) (by rw [ZhN];exact hCj) (by rw [List.flatMap_append,List.flatMap_cons,List.flatMap_nil,List.append_nil];exact ho') hu' hblk fun hl Tl hRl sl=>?_
    have st:=(s2.ext ej).trans sl
    have ekk:IntKind.wrap .i64 ((k:Int)+1)=((k+1:Nat):Int):=wrS (n:=8) (by omega) (by decide)
    have hRl':WR hl Tl (sz hc) (Array.size hb+1) sb s' ⟨none,0,0⟩ (pl++[nPm cb ((ZhU tmo least most nA).atS at_)]) (Zjm at_ tmo least most (k+1)):=by
      have e:({ Zjm at_ tmo least most k with pes:=(Zjm at_ tmo least most k).pes++[⟨(ZhU tmo least most nA).atS at_,0,none⟩]}:Cu)=Zjm at_ tmo least most (k+1):=by unfold Zjm;simp only [ZAa];rw [ZtN]
      rw [← e];exact hRl
    rw [ekk]
    refine hQ _ _ ⟨k+1,Tl,s',_,rfl,by omega,fun _=>e,by rw [List.length_append,hpl];rfl,hRl',eg.then st.upd fun j hj=>low j hj,fun j hj=>?_⟩ (by dsimp only;omega)
    rcases st.new j hj with q | q
    ·exact low j q
    ·have h9:sz hg≤j:=q
     have h8:sz ha≤sz hg:=eg.size
     omega
  ·have ek:k=clients.toNat:=by omega
   rw [hne (by omega)] at h2
   rw [← ek] at h2
   exact h2 rfl hg T (sz hc) sp' ⟨_,sb,_,pl,hR⟩ (ea.trans eg) fun j hj=>by have:=low j hj;omega
end Go.Proofs.YtbppjmcinoffnaaGreat
namespace Go.Proofs.YtbppjmcinoffnaaGreat
open Go Go.Fw
open Nat (reduceAdd reduceLT reduceLeDiff reduceEqDiff reduceMul)
open Tk (Zu rI rB rS rP rM rL Ziv XV held1 ZaQ wrS nA F4 f4L YT Zd7)
theorem ZwF {tmo least most:Int} (h:Zjl tmo least most nA=0):On2 (ZhU tmo least most nA) 0 :=
  ⟨WOK.new,NOK.new h,rfl,List.Pairwise.nil,Int.le_refl _,Nat.zero_le _,Nat.zero_le _,Nat.zero_le _⟩
theorem Zky {at_ clients tmo least most:Int} (h:ZmE at_ clients tmo least most=0):(0≤at_∧at_≤1152921504606846976)∧(1≤clients∧clients≤8)∧Zjl tmo least most nA=0:=by
  unfold ZmE at h
  split at h
  ·cases h
  ·split at h
   ·cases h
   ·split at h
    ·cases h
    ·split at h
     ·cases h
     ·exact ⟨by omega,by omega,h⟩
theorem SOK.new (at_:Int):SOK (Tk.Zgo at_):=⟨Nat.zero_le _,fun x hx=>by cases hx⟩
theorem ZbI.new {at_ clients tmo least most:Int} (h:ZmE at_ clients tmo least most=0):ZbI tmo (Zjm at_ tmo least most clients.toNat) 0:=by
  obtain ⟨h1,h2,h3⟩:=Zky h
  refine ⟨(fun c j hc=>by cases hc),Nat.zero_le _,SOK.new at_,Nat.zero_le _,h1,?_,fun i p hp=>?_⟩
  ·show (List.replicate clients.toNat _).length≤8
   rw [List.length_replicate];omega
  ·have hp:(List.replicate clients.toNat (ZAa tmo least most at_))[i]?=some p:=hp
   have:p=ZAa tmo least most at_:=List.eq_of_mem_replicate (List.mem_of_getElem? hp)
   subst this
   exact ⟨(ZwF h3).atS at_,(ZmU _ _).2 h1.1,(ZmU _ _).1,fun e=>(e rfl).elim,fun _=>rfl,fun e=>(e rfl).elim⟩
theorem SOK.loaded {at_:Int} {fl:List F4} (hl:Zd7 (Tk.Zgo at_) nA fl):SOK ((Tk.Zgo at_).loaded nA fl):=by
  obtain ⟨hn,hr,⟨nd,_⟩,_⟩:=hl
  have hcs:=Tk.ZkK fl { Tk.Zgo at_ with spaces:=(Tk.Zgo at_).spaces++[(nA,fl)]} nd (fun f hf=>rfl)
  obtain ⟨b1,b2,b3,b4,b5,b6,b7⟩:=Tk.ZgR fl { Tk.Zgo at_ with spaces:=(Tk.Zgo at_).spaces++[(nA,fl)]}
  have hld:(Tk.Zgo at_).loaded nA fl={ Tk.Zgo at_ with spaces:=(Tk.Zgo at_).spaces++[(nA,fl)]}.freshL fl:=rfl
  rw [← hld] at hcs b1 b4
  refine ⟨by rw [b4];exact Nat.zero_le _,fun x hx f hf=>?_⟩
  rw [b1] at hx
  have:x=(nA,fl):=by simpa [Tk.Zgo] using hx
  subst this
  refine ⟨_,hcs f hf,Tk.ZgS ?_⟩
  have:=List.any_eq_false.1 hr f hf
  simpa using this
section
variable {h h':Zb} {T:TT} {wb:Nat} {sp:Sl} {w:Cu}
theorem ZkS (hW:Wld h T wb sp w) {at_:Int} (hw:w.srv=Tk.Zgo at_) {s:Sl} {fl:List F4} (hr:Row h s 4 (fl.flatMap f4L)) (hfl:fl.length≤1099511627776) (hsl:fl.flatMap f4L≠[]→∀ k,s.blk=some k→T k=none∧k<sz h) {K:Int→Zb→Prop}
    (hk1:∀ e h',e≠0→¬ Zd7 w.srv nA fl→Wld h' T wb sp w→Zav T T h h'→K e h') (hk2:Zd7 w.srv nA fl→∀ h' T',Wld h' T' wb sp { w with srv:=w.srv.loaded nA fl }→Zav T T' h h'→K 0 h'):Yt (some ⟨wb,0,none⟩) s K h:=by
  unfold Yt ZbA
  obtain ⟨nb,sb,sg,pl,hR⟩:=hW
  refine Za (Zl (Zg (rP (hR.wc (j:=1) rfl) ?_)))
  refine Tk.Zs9 hR.srv (name:=nA) (by decide) (by rw [hw];rfl) (by rw [hw];exact Nat.zero_le _) hr hfl (fun hne k hk=>⟨ZaR (hsl hne k hk).1,(hsl hne k hk).2⟩) (fun e h' he hl ex=>Za ?_) (fun hl h' T' hn st=>Za ?_)
  ·exact hk1 e h' he hl ⟨nb,sb,sg,pl,hR.ext ex⟩ ((Zav.refl T h).ext ex)
  ·obtain ⟨hR',s'⟩:=hR.srvS st hn
   exact hk2 hl h' _ (hR'.to rfl) s'
theorem Zrq (hW:Wld h T wb sp w) {i:Nat} {p:Pe} (hp:w.pes[i]?=some p) {K:Sl→Zb→Prop}
    (hk:∀ s h' T',Row h' s 7 (p.cl.told.flatMap tC)→Wld h' T' wb sp (w.setP i { p with cl:={ p.cl with told:=[]}})→Zav T T' h h'→K s h'):XC (some ⟨wb,0,none⟩) (i:Int) K h:=by
  unfold XC Zbz XX Za8
  have hlt:=Za3 hp
  refine Zmz hW (fun e=>by omega) (fun k q b hi hq hb=>ZJ (Zg ?_))
  have ek:k=i:=by omega
  subst ek
  rw [hp] at hq
  cases Option.some.inj hq
  obtain ⟨nb,sb,sg,pl,hR⟩:=hW
  obtain ⟨cb,rb,hx⟩:=hR.pe2 hp
  refine rP (hR.pc hx hb (j:=0) (by decide) rfl) ?_
  refine Zs0 (hR.cls k _ hx) fun s h' T' o _ hC st=>?_
  obtain ⟨hR',s'⟩:=hR.clS hx st hC
  exact hk s h' _ o.row (hR'.to rfl) s'
theorem Zjy (hW:Wld h T wb sp w) (hg:w.grs.length≤137438953472) {K:Sl→Zb→Prop} (hk:∀ s h',Own h' h.size s 9 (w.grs.flatMap gtL)→Ext h h'→K s h'):Yg (some ⟨wb,0,none⟩) K h:=by
  unfold Yg Za9
  obtain ⟨nb,sb,sg,pl,hR⟩:=hW
  refine Zl (Zg (rL (hR.wc (j:=5) rfl) ?_))
  unfold Z9 YA
  have hl:=hR.grs.len
  rw [Z7 ZgL] at hl
  cases hp:sg.ptr with
  | none =>
    refine ZJ ?_
    have h0:w.grs=[]:=by
      have hsl:sg.len=0:=by
        rcases hR.grs.at_ with ⟨_,h9⟩ | ⟨b,c,e,h9,_⟩
        ·have:=hR.grs.cap;omega
        ·rw [hp] at h9;cases h9
      exact List.eq_nil_of_length_eq_zero (by omega)
    rw [h0] at hk
    exact hk _ _ (Own.nil h h.size 9) (Ext.refl h)
  | some a =>
    refine Zl ?_
    refine ZIP 9 fun h1 o1 e1 z1=>?_
    refine (hR.grs.row.ext e1).rd ?_
    refine Own.app o1 (by rw [Z7 ZgL];omega) ?_ rfl (by show (0+sg.len)*80≤_;omega) (by show 0+sg.len≤_;omega) (by omega) fun s' h' o' l' u' b'=>?_
    ·rw [List.all_eq_true]
     intro v hv
     obtain ⟨g,_,hg⟩:=List.mem_flatMap.1 hv
     simp only [gtL,List.mem_cons,List.not_mem_nil,or_false] at hg
     rcases hg with rfl | rfl | rfl | rfl | rfl | rfl | rfl | rfl | rfl<;>first | exact Y4 | exact ZgB
    ·exact hk s' h' (by simpa using o') (e1.then u' fun k hk=>by cases hk;exact Nat.le_refl _)
end
end Go.Proofs.YtbppjmcinoffnaaGreat
namespace Go.Proofs.YtbppjmcinoffnaaGreat
open Go Go.Fw
open Nat (reduceAdd reduceLT reduceLeDiff reduceEqDiff reduceMul)
open Tk (Zu rI rB rS rP rM rL Ziv XV held1 ZaQ wrS nA F4 f4L Zd7)
def opL (o:Op):List Value:=[.int .u8 o.1,iv o.2.1,iv o.2.2.1,iv o.2.2.2.1,iv o.2.2.2.2.1,.int .u8 o.2.2.2.2.2.1,iv o.2.2.2.2.2.2.1,iv o.2.2.2.2.2.2.2.1,.string o.2.2.2.2.2.2.2.2.1,iv o.2.2.2.2.2.2.2.2.2.1]
theorem Zjh (o:Op):(opL o).length=10:=rfl
structure Zxf (o:Op):Prop where
  kind:0≤o.1∧o.1<256
  text:o.2.2.2.2.2.2.2.2.1.size<9223372036854775808
def Cu.runR (w:Cu):List Op→List Int × Cu
  | []=>([],w)
  | o::r=>((w.doR o).1.2.2::(Cu.runR (w.doR o).2 r).1,(Cu.runR (w.doR o).2 r).2)
theorem Zha:∀ (l:List Op) (w:Cu) (k:Nat) (o:Op),l[k]?=some o→w.runR (l.take (k+1))=((w.runR (l.take k)).1++[((w.runR (l.take k)).2.doR o).1.2.2],((w.runR (l.take k)).2.doR o).2)
  | [],_,_,_,h=>by cases h
  | a::l,w,0,o,h=>by
    cases Option.some.inj h
    rfl
  | a::l,w,k+1,o,h=>by
    have ih:=Zha l (w.doR a).2 k o h
    rw [List.take_succ_cons,List.take_succ_cons]
    show (_::(Cu.runR (w.doR a).2 (l.take (k+1))).1,(Cu.runR (w.doR a).2 (l.take (k+1))).2)=_
    rw [ih]
    rfl
theorem ZbI.run {tmo:Int}:∀ {l:List Op} {w:Cu} {n:Nat},ZbI tmo w n→n+l.length≤1000→ZbI tmo (w.runR l).2 (n+l.length)
  | [],_,_,h,_=>h
  | o::l,w,n,h,hn=>by
    rw [List.length_cons] at hn ⊢
    have:=ZbI.run (l:=l) (h.do (by omega) o) (by omega)
    have e:n+(l.length+1)=n+1+l.length:=by omega
    rw [e]
    exact this
section
variable {h h':Zb} {T:TT} {wb:Nat} {sp:Sl} {w:Cu}
theorem ZtK (hW:Wld h T wb sp w) {tmo:Int} {n:Nat} (hC:ZbI tmo w n) {s:Sl} {l:List Op} (hr:Row h s 10 (l.flatMap opL)) (hT:∀ k,s.blk=some k→T k=none∧k<sz h) (hok:∀ o,o∈l→Zxf o) (hl:l.length≤100) (hn:n+l.length≤1000) {K:Sl→Zb→Prop}
    (hk:∀ out h' T',Row h' out 1 ((w.runR l).1.map iv)→Wld h' T' wb sp (w.runR l).2→Zav T T' h h'→(∀ k,out.blk=some k→T' k=none)→K out h'):XP (some ⟨wb,0,none⟩) s K h:=by
  unfold XP Zb0
  have hsl:s.len=l.length:=by
    have:=hr.len
    rw [Z7 Zjh] at this
    omega
  refine Zdi (I:=fun st hh=>∃ (k:Nat) (T':TT) (out:Sl),st=(out,(k:Int),())∧k≤l.length∧Wld hh T' wb sp (w.runR (l.take k)).2∧Zav T T' h hh∧Own hh (sz h) out 1 ((w.runR (l.take k)).1.map iv)∧out.len=k∧∀ j,out.blk=some j→T' j=none) (fun st _=>l.length - st.2.1.toNat)
    ⟨0,T,⟨none,0,0⟩,rfl,Nat.zero_le _,hW,Zav.refl _ _,Own.nil h (sz h) 1,rfl,fun j hj=>by cases hj⟩ ?_
  rintro _ h2 ⟨k,T2,out,rfl,hkl,hW2,s2,o2,hol,n2⟩ Q hQ
  dsimp only
  refine Zi (fun c=>?_) (fun c=>?_)
  ·have hkl2:k<l.length:=by omega
   have ho:l[k]?=some l[k]:=List.getElem?_eq_getElem hkl2
   have hom:l[k]∈l:=List.getElem_mem hkl2
   generalize l[k]=o at ho hom
   obtain ⟨ok1,ok2⟩:=hok o hom
   have hr2:Row h2 s 10 (l.flatMap opL):=hr.congr fun b i hp _ _=>by
     have hb:s.blk=some b:=by simp [Sl.blk,hp]
     obtain ⟨t1,t2⟩:=hT b hb
     exact s2.upd.old b t2 fun e=>e t1
   obtain ⟨b,i,_,_,hidx,hc⟩:=ZaQ Zjh hr2 ho (by decide)
   refine hidx rfl ?_
   refine rI (hc 0 _ rfl) (rI (hc 1 _ rfl) (rI (hc 2 _ rfl) (rI (hc 3 _ rfl) (rI (hc 4 _ rfl) (rI (hc 5 _ rfl) (rI (hc 6 _ rfl) (rI (hc 7 _ rfl) (rS (hc 8 _ rfl) (rI (hc 9 _ rfl) ?_)))))))))
   refine ZaT fun h3 c3 e3 z3=>Za ?_
   refine ZtF (vs:=opL o) c3 rfl (by simp only [opL,List.all_cons,List.all_nil,Y4,ZgB];rfl) rfl fun h4 c4 u4 z4=>Za ?_
   have e4:Ext h2 h4:=e3.then u4 fun k hk=>by rw [hk];exact Nat.le_refl _
   refine Zbg (decide_eq_true (by omega)) ?_
   refine rI (Zu c4 rfl) (rI (Zu c4 rfl) (rI (Zu c4 rfl) (rI (Zu c4 rfl) (rI (Zu c4 rfl) (rI (Zu c4 rfl) (rI (Zu c4 rfl) (rI (Zu c4 rfl) (rS (Zu c4 rfl) (rI (Zu c4 rfl) ?_)))))))))
   have hC2:=hC.run (l:=l.take k) (by rw [List.length_take];omega)
   have hlt:(l.take k).length=k:=by rw [List.length_take];omega
   rw [hlt] at hC2
   refine ZsG (hW2.ext e4) hC2 (by omega) (o:=o) ok1 ok2 fun h5 T5 hW5 s5=>Za ?_
   refine ZaT fun h6 c6 e6 z6=>(Zz8 (n:=1) (l:=[iv _]) c6 rfl).rd ?_
   have es:=Zha l w k o ho
   have o5:Own h6 (sz h) out 1 ((w.runR (l.take k)).1.map iv):=o2.congr fun b hb hlt _=>(e6.old b (Nat.lt_of_lt_of_le hlt (Nat.le_trans e4.size s5.upd.size))).trans ((s5.upd.old b (Nat.lt_of_lt_of_le hlt e4.size) fun e=>e (n2 b hb)).trans (e4.old b hlt))
   have zle:sz h≤sz h6:=Nat.le_trans s2.upd.size (Nat.le_trans e4.size (Nat.le_trans s5.upd.size e6.size))
   refine Own.app o5 rfl rfl rfl (by omega) (by omega) zle fun out' h7 o7 l7 u7 b7=>?_
   have n5:∀ j,out.blk=some j→T5 j=none:=fun j hj=>s5.none_ (n2 j hj) (Nat.lt_of_lt_of_le (o2.lt hj).2 e4.size)
   rw [wrS hkl2 (by omega)]
   refine hQ _ _ ⟨k+1,T5,out',rfl,hkl2,?_,((s2.trans (Zav.pre e4 s5)).ext e6).also u7 fun j hj=>(o2.lt hj).1,?_,by omega,fun j hj=>?_⟩ (by dsimp only;omega)
   ·rw [es]
    exact (hW5.ext e6).upd u7 fun j hj=>n5 j hj
   ·rw [es,List.map_append]
    exact o7
   ·rcases b7 with e | e
    ·rw [e] at hj;exact n5 j hj
    ·rw [e] at hj
     cases hj
     exact hW5.no e6.size
  ·have e:k=l.length:=by omega
   subst e
   rw [List.take_length] at hW2 o2
   exact hk out h2 T2 o2.row hW2 s2 n2
end
end Go.Proofs.YtbppjmcinoffnaaGreat
namespace Go.Proofs.YtbppjmcinoffnaaGreat
open Go Go.Fw
open Nat (reduceAdd reduceLT reduceLeDiff reduceEqDiff reduceMul)
open Tk (nA F4 f4L Zd7)
def lvF:F4:=(1,2,1,0,())
def lvR:Rq:=(0,1,1,2,ByteArray.mk #[],0,())
def lv1:Op:=(1,0,2000000,0,0,0,0,0,ByteArray.mk #[],0,())
def lv2:Op:=(3,0,0,0,0,0,0,0,ByteArray.mk #[],0,())
def lv3:Op:=(2,0,0,0,lvR)
def lv5:Op:=(4,0,0,1000,0,0,0,0,ByteArray.mk #[],0,())
def lv6:Op:=(5,0,0,1000,0,0,0,0,ByteArray.mk #[],0,())
def lvW:Cu:={ Zjm 0 1000000 1 2 1 with srv:=(Tk.Zgo 0).loaded nA [lvF]}
def ZkC:Cu:=(lvW.runR [lv1,lv2,lv3,lv3]).2
theorem ZIQ:(lvW.runR [lv1,lv2,lv3,lv3]).1=[0,0,0,0]:=by kernel_rfl
def Zr9:List (List UInt8):=[Zlp (ZmZ nA),Zlp (Zli lvR 1),Zlp (Zli lvR 2)]
def Zql:List (List UInt8):=[ZzF (0,1,0,0,0,()),ZzF (1,1,0,0,0,()),ZzF (2,2,0,0,0,())]
def lvP (w:Cu):Pe:=match w.pes[0]? with
  | some p=>p
  | none=>⟨ZhU 0 0 0 nA,0,none⟩
theorem ZEk:ZkC.pes[0]?=some (lvP ZkC):=by kernel_rfl
theorem ZEm:ZkC.mvE (lvP ZkC) 1000=0:=by kernel_rfl
theorem ZEh:(lvP ZkC).rd=some ([],false):=by kernel_rfl
theorem ZEq:(ZkC.moved (lvP ZkC).conn 0 1000).1=fr Zr9:=by kernel_rfl
def Zt3:Cu:={ ZkC with cs:=(ZkC.moved (lvP ZkC).conn 0 1000).2,pes:=ZkC.pes.set 0 { lvP ZkC with rd:=some ([],false)}}
def ZhB:Cu:=(Zt3.serveL 0 (lvP ZkC).conn Zr9).2
theorem ZEg:(Zt3.serveL 0 (lvP ZkC).conn Zr9).1=true:=by kernel_rfl
theorem ZEX (l:List UInt8) (h:decide (1≤l.length)&&decide (l.length≤4096)=true):ZnD l:=by
  simp only [Bool.and_eq_true,decide_eq_true_eq] at h
  exact h
theorem Zy9:Zg4 (fr Zr9)=(Zr9,false,[]):=Zop Zr9 fun l hl=>by
  simp only [Zr9,List.mem_cons,List.not_mem_nil,or_false] at hl
  rcases hl with rfl | rfl | rfl<;>exact ZEX _ (by kernel_rfl)
theorem ZIS:ZkC.doR lv5=((0,false,0),ZhB):=by
  have e1:ZkC.doR lv5=res (ZkC.toSrvR 0 1000):=by
    unfold Cu.doR
    rw [if_neg (by decide),if_neg (by decide),if_pos (by decide),if_neg (by decide),if_neg (by decide)]
    rfl
  rw [e1]
  unfold Cu.toSrvR
  rw [ZEk]
  dsimp only
  rw [if_neg (fun h=>h ZEm),ZEh]
  dsimp only
  rw [ZEq]
  have e2:putS [] false (fr Zr9)=(Zr9,false,[]):=Zy9
  rw [e2]
  show res (0,if (Zt3.serveL 0 (lvP ZkC).conn Zr9).1=true∧false=false then (Zt3.serveL 0 (lvP ZkC).conn Zr9).2 else _)=_
  rw [if_pos ⟨ZEg,rfl⟩]
  rfl
theorem ZEj:ZhB.pes[0]?=some (lvP ZhB):=by kernel_rfl
theorem ZEl:ZhB.mvE (lvP ZhB) 1000=0:=by kernel_rfl
theorem ZEp:(ZhB.moved (lvP ZhB).conn 1 1000).1=fr Zql:=by kernel_rfl
theorem ZwL:Zg4 (fr Zql)=(Zql,false,[]):=Zop Zql fun l hl=>by
  simp only [Zql,List.mem_cons,List.not_mem_nil,or_false] at hl
  rcases hl with rfl | rfl | rfl<;>exact ZEX _ (by kernel_rfl)
def Zt4:Cl:={ (lvP ZhB).cl.tick ZhB.now with rb:=[],broken:=false }
def ZEY:Cl:=(Zt4.take Zql).1
theorem ZEf:(Zt4.take Zql).2=false:=by kernel_rfl
theorem ZEn:(lvP ZhB).cl.atE ZhB.now=0:=by kernel_rfl
theorem ZEe:(lvP ZhB).cl.up=true:=by kernel_rfl
theorem Zy7:((lvP ZhB).cl.tick ZhB.now).rb=[]∧((lvP ZhB).cl.tick ZhB.now).broken=false:=⟨by kernel_rfl,by kernel_rfl⟩
theorem ZEo:(lvP ZhB).cl.bytesR ZhB.now (fr Zql)=(ZEY,0):=by
  unfold Cl.bytesR
  rw [if_pos ZEn,if_pos ZEe]
  unfold Cl.putB
  rw [Zy7.1,Zy7.2]
  have e2:putS [] false (fr Zql)=(Zql,false,[]):=ZwL
  dsimp only
  rw [e2]
  show (if (if (Zt4.take Zql).2=true then 50 else if false=true then 50 else 0:Int)=0 then (Zt4.take Zql).1 else _,_)=_
  rw [ZEf]
  rfl
def ZEr:Cu:={ ZhB with cs:=(ZhB.moved (lvP ZhB).conn 1 1000).2,pes:=ZhB.pes.set 0 { lvP ZhB with cl:=ZEY }}
def Zr8:Cu:=ZEr.sends 0
theorem ZwK:ZhB.pes.length=1:=by kernel_rfl
theorem ZIR:ZhB.doR lv6=((0,false,0),Zr8):=by
  have e1:ZhB.doR lv6=res (ZhB.toClR 0 1000):=by
    unfold Cu.doR
    rw [ZwK,if_neg (by decide),if_neg (by decide),if_pos (by decide),if_neg (by decide),if_neg (by decide)]
    rfl
  rw [e1]
  unfold Cu.toClR
  rw [ZEj]
  dsimp only
  rw [if_neg (fun h=>h ZEl),ZEp,if_neg (by intro h;have:=congrArg List.length h;revert this;decide),ZEo]
  rfl
def lvT (i:Nat):Tld:=match (lvP Zr8).cl.told[i]? with
  | some t=>t
  | none=>ZgW 0
theorem ZEi:Zr8.pes[0]?=some (lvP Zr8):=by kernel_rfl
theorem ZwJ:(lvP Zr8).cl.told=[lvT 0,lvT 1]:=by kernel_rfl
theorem Zy5:(lvT 0).a.2.1=1∧(lvT 1).a.2.1=2:=⟨by kernel_rfl,by kernel_rfl⟩
theorem Zy8:Zr8.grs.length=1:=by kernel_rfl
def lvL:List Op:=[lv1,lv2,lv3,lv3,lv5,lv6]
theorem Zy6:lvW.runR lvL=([0,0,0,0,0,0],Zr8):=by
  have h1:=Zha lvL lvW 4 lv5 rfl
  have h2:=Zha lvL lvW 5 lv6 rfl
  have e0:lvW.runR (lvL.take 4)=([0,0,0,0],ZkC):=Prod.ext ZIQ rfl
  have h1:lvW.runR (lvL.take 5)=([0,0,0,0]++[0],ZhB):=by
    rw [h1,e0]
    dsimp only
    rw [ZIS]
  have h2:lvW.runR (lvL.take 6)=([0,0,0,0]++[0]++[0],Zr8):=by
    rw [h2,h1]
    dsimp only
    rw [ZIR]
  exact h2
theorem Zvi:ZmE 0 1 1000000 1 2=0:=by kernel_rfl
theorem Zr7:Zd7 (Tk.Zgo 0) nA [lvF]:=⟨by kernel_rfl,by kernel_rfl,⟨by decide,fun f hf ⟨x,hx,_⟩=>by cases hx⟩,by kernel_rfl⟩
end Go.Proofs.YtbppjmcinoffnaaGreat
namespace Go.Proofs.YtbppjmcinoffnaaGreat
open Go Go.Fw
open Nat (reduceAdd reduceLT reduceLeDiff reduceEqDiff reduceMul)
open Tk (Zu rI rB rS rP rM rL Ziv XV held1 ZaQ wrS nA F4 f4L Zd7)
theorem ZIO {h:Zb} {b k n:Nat} {l:List Value} {t:TypeId} {f:Nat × Nat} (c:obj h b=some (.cells l.toArray t f)) (hl:l.length=k*n) (hk:k<9223372036854775808):Row h ⟨some ⟨b,0,none⟩,k,k⟩ n l :=
  ⟨hl,Nat.le_refl _,hk,.inr ⟨b,0,rfl,Zas c fun i v hi=>by simpa using hi⟩⟩
theorem Zjr {h:Zb} {K:Bool→Zb→Prop} (hk:∀ h',Ext h h'→K true h'):X5 K h:=by
  unfold X5 Zch
  refine Znz (fun e=>(e Zvi).elim) fun _ h2 T wb sp hW e2 low=>Za (XY (fun e=>(e rfl).elim) fun _=>Zl ?_)
  have lz:=e2.size
  refine ZaT fun h3 c3 e3 z3=>?_
  have nf:∀ k,(⟨some ⟨h2.size,0,none⟩,1,1⟩:Sl).blk=some k→T k=none∧k<sz h3:=fun k hk=>by cases hk;exact ⟨hW.no (Nat.le_refl _),by have h9:sz h3=sz h2+1:=z3;show sz h2<sz h3;omega⟩
  refine ZkS (hW.ext e3) (at_:=0) rfl (fl:=[lvF]) (Zz8 (n:=4) c3 rfl) (by decide) (fun _=>nf) (fun e h' _ hn _ _=>(hn Zr7).elim) fun _ h5 T5 hW5 s5=>Za ?_
  have e5:Ext h h5:=(e2.trans e3).then s5.upd fun k hk=>low k hk
  have low5:∀ k,T5 k≠none→sz h≤k:=fun k hk=>by
    rcases s5.new k hk with q | q
    ·exact low k q
    ·have h9:sz h3≤k:=q
     have h8:sz h≤sz h3:=(e2.trans e3).size
     omega
  refine ZaT fun h7 c7 e7 z7=>ZtF (vs:=opL lv3) c7 rfl (by simp only [opL,List.all_cons,List.all_nil,Y4,ZgB];rfl) rfl fun h8 c8 u8 z8=>?_
  have e8:Ext h5 h8:=e7.then u8 fun k hk=>by rw [hk];exact Nat.le_refl _
  refine rI (Zu c8 rfl) (rI (Zu c8 rfl) (rI (Zu c8 rfl) (rI (Zu c8 rfl) (rI (Zu c8 rfl) (rI (Zu c8 rfl) (rI (Zu c8 rfl) (rI (Zu c8 rfl) (rS (Zu c8 rfl) (rI (Zu c8 rfl) ?_)))))))))
  refine rI (Zu c8 rfl) (rI (Zu c8 rfl) (rI (Zu c8 rfl) (rI (Zu c8 rfl) (rI (Zu c8 rfl) (rI (Zu c8 rfl) (rI (Zu c8 rfl) (rI (Zu c8 rfl) (rS (Zu c8 rfl) (rI (Zu c8 rfl) ?_)))))))))
  refine ZaT fun h9 c9 e9 z9=>?_
  have hW9:Wld h9 T5 wb sp lvW:=(hW5.ext e8).ext e9
  have hC9:ZbI 1000000 lvW 0:=((ZbI.new Zvi).srvs (SOK.loaded Zr7))
  have hr9:Row h9 ⟨some ⟨h8.size,0,none⟩,6,6⟩ 10 (lvL.flatMap opL):=ZIO c9 rfl (by decide)
  have e59:Ext h h9:=(e5.trans e8).trans e9
  refine ZtK hW9 hC9 hr9 (fun k hk=>by cases hk;exact ⟨hW5.no (by have h9:=e8.size;exact h9),by have q9:sz h9=sz h8+1:=z9;show sz h8<sz h9;omega⟩) (fun o ho=>by
    simp only [lvL,List.mem_cons,List.not_mem_nil,or_false] at ho
    rcases ho with rfl | rfl | rfl | rfl | rfl | rfl<;>exact ⟨by decide,by decide⟩) (by decide) (by decide) fun out h32 T32 o32 hW32 s32 n32=>?_
  rw [Zy6] at o32 hW32
  dsimp only at o32 hW32
  have e32:Ext h h32:=e59.then s32.upd fun k hk=>low5 k hk
  have low32:∀ k,T32 k≠none→sz h≤k:=fun k hk=>by
    rcases s32.new k hk with q | q
    ·exact low5 k q
    ·have h8:sz h9≤k:=q
     have h7:sz h≤sz h9:=e59.size
     omega
  have hol:out.len=6:=by
    have:=o32.len
    simpa using this.symm
  refine Za ?_
  refine Zdi (I:=fun s hh=>hh=h32∧∃ k:Nat,s=((k:Int),())∧k≤6) (fun s _=>6 - s.1.toNat) ⟨rfl,0,rfl,by decide⟩ ?_
  rintro _ h35 ⟨rfl,k,rfl,hk6⟩ Q hQ
  dsimp only
  refine Zi (fun c=>?_) (fun c=>?_)
  ·have hk5:k<6:=by omega
   have hv:([0,0,0,0,0,0].map iv)[k]?=some (iv 0):=by
     have:k=0∨k=1∨k=2∨k=3∨k=4∨k=5:=by omega
     rcases this with rfl | rfl | rfl | rfl | rfl | rfl<;>rfl
   refine o32.idx (n:=k) rfl hv fun b o _ hc=>?_
   refine ⟨0,hc,XY (fun e=>(e rfl).elim) fun _=>Za ?_⟩
   rw [wrS (n:=6) hk5 (by decide)]
   exact hQ _ _ ⟨rfl,k+1,rfl,hk5⟩ (by dsimp only;omega)
  ·refine Zrq hW32 (i:=0) ZEi fun s h40 T40 r40 hW40 s40=>?_
   rw [ZwJ] at r40
   have hsl:s.len=2:=by
     have:=r40.len
     rw [Z7 Zmq] at this
     simp only [List.length_cons,List.length_nil] at this
     omega
   have e40:Ext h h40:=e32.then s40.upd fun k hk=>low32 k hk
   refine Zi (fun _=>?_) (fun e=>(e rfl).elim)
   refine Zi (fun _=>?_) (fun e=>(e (by rw [hol];rfl)).elim)
   refine Zi (fun _=>?_) (fun e=>(e (by rw [hsl];rfl)).elim)
   obtain ⟨b0,o0,_,_,hi0,hc0⟩:=ZaQ Zmq r40 (i:=0) rfl (by decide)
   obtain ⟨b1,o1,_,_,hi1,hc1⟩:=ZaQ Zmq r40 (i:=1) rfl (by decide)
   refine hi0 rfl (rI (hc0 2 _ rfl) (Zi (fun _=>hi1 rfl (rI (hc1 2 _ rfl) (Zi (fun _=>?_) (fun e=>(e Zy5.2).elim)))) (fun e=>(e Zy5.1).elim)))
   have eg:(Zr8.setP 0 { lvP Zr8 with cl:={ (lvP Zr8).cl with told:=[]}}).grs.length=1:=Zy8
   refine Zjy hW40 (by rw [eg];decide) fun sg h48 og e48=>?_
   have hgl:sg.len=1:=by
     have:=og.len
     rw [Z7 ZgL,eg] at this
     omega
   rw [YM,hgl]
   exact hk h48 (e40.trans e48)
end Go.Proofs.YtbppjmcinoffnaaGreat
namespace Go.Proofs.YtbppjmcinoffnaaGreat
open Go Go.Fw
open Nat (reduceAdd reduceLT reduceLeDiff reduceEqDiff reduceMul)
open Tk (Zu rI rB rS rP rM rL Ziv XV held1 ZaQ wrS nA F4 f4L YT Zd7)
theorem ZlI {h0 h h':Zb} {T T':TT} (e:Ext h0 h) (low:∀ k,T k≠none→sz h0≤k) (st:Zav T T' h h'):Ext h0 h'∧∀ k,T' k≠none→sz h0≤k:=by
  refine ⟨e.then st.upd fun k hk=>low k hk,fun k hk=>?_⟩
  rcases st.new k hk with q | q
  ·exact low k q
  ·have h9:sz h≤k:=q
   have h8:sz h0≤sz h:=e.size
   omega
structure Go1 (tmo:Int) (h0:Zb) (wb:Nat) (sp:Sl) (hh:Zb) (T:TT) (w:Cu) (n:Nat):Prop where
  wd:Wld hh T wb sp w
  ok:ZbI tmo w n
  ext:Ext h0 hh
  low:∀ k,T k≠none→sz h0≤k
theorem Go1.do {tmo:Int} {h0 hh:Zb} {wb:Nat} {sp:Sl} {T:TT} {w:Cu} {n:Nat} (g:Go1 tmo h0 wb sp hh T w n) (hn:n≤1000) {o:Op} (ho:Zxf o) {K:Int→Bool→Int→Zb→Prop}
    (hk:∀ h' T',Go1 tmo h0 wb sp h' T' (w.doR o).2 (n+1)→K (w.doR o).1.1 (w.doR o).1.2.1 (w.doR o).1.2.2 h'):YC (some ⟨wb,0,none⟩) o K hh :=
  ZsG g.wd g.ok hn ho.kind ho.text fun h' T' hW st=>by
   obtain ⟨e,l⟩:=ZlI g.ext g.low st
   exact hk h' T' ⟨hW,g.ok.do hn o,e,l⟩
theorem Go1.load {tmo:Int} {h0 hh:Zb} {wb:Nat} {sp:Sl} {T:TT} {w:Cu} {n:Nat} (g:Go1 tmo h0 wb sp hh T w n) {at_:Int} (hw:w.srv=Tk.Zgo at_) {s:Sl} {fl:List F4} (hr:Row hh s 4 (fl.flatMap f4L)) (hfl:fl.length≤1099511627776) (hs:fl.flatMap f4L≠[]→∀ k,s.blk=some k→k<sz h0) {K:Int→Zb→Prop}
    (hk:∀ e h' T' w',Go1 tmo h0 wb sp h' T' w' n→(e=0→Zd7 (Tk.Zgo at_) nA fl∧w'={ w with srv:=w.srv.loaded nA fl })→K e h'):Yt (some ⟨wb,0,none⟩) s K hh:=by
  refine ZkS g.wd hw hr hfl (fun hne k hk=>⟨Classical.byContradiction fun h9=>by have:=g.low k h9;have:=hs hne k hk;omega,Nat.lt_of_lt_of_le (hs hne k hk) g.ext.size⟩) (fun e h' he _ hW st=>?_) (fun hl h' T' hW st=>?_)
  ·obtain ⟨e1,l1⟩:=ZlI g.ext g.low st
   exact hk e h' T w ⟨hW,g.ok,e1,l1⟩ fun h0=>(he h0).elim
  ·obtain ⟨e1,l1⟩:=ZlI g.ext g.low st
   rw [hw] at hl
   exact hk 0 h' T' _ ⟨hW,g.ok.srvs (by rw [hw];exact SOK.loaded hl),e1,l1⟩ fun _=>⟨hl,rfl⟩
theorem Zwu {h:Zb} {s:Sl} {fl:List F4} (hr:Row h s 4 (fl.flatMap f4L)) (hne:fl.flatMap f4L≠[]) {k:Nat} (hk:s.blk=some k):k<sz h:=by
  cases fl with
  | nil=>exact (hne rfl).elim
  | cons f l =>
    obtain ⟨b,o,h1,h2,_⟩:=ZaQ YT hr (i:=0) rfl (by decide)
    rw [hk] at h1
    cases h1
    exact h2
end Go.Proofs.YtbppjmcinoffnaaGreat
namespace Go.Proofs.YtbppjmcinoffnaaGreat
open Go Go.Fw
open Nat (reduceAdd reduceLT reduceLeDiff reduceEqDiff reduceMul)
def ZEs (S:Tk.Srv) (n:Int) (i:Nat) (conn:Int) (r:Rq) (g:List Gt):List Gt :=
  if (Tk.doV S n conn r).1.2≠0 then g else if (Tk.doV S n conn r).1.1.2.1=1 then (if r.2.1=5 then g else g++[(n,(i:Int),r.1,r)]) else g
structure Znv (I:Tk.Srv→List Gt→Int→Prop):Prop where
  closed:∀ {S g n},I S g n→∀ c,I (S.closed c) g n
  opened:∀ {S g n},I S g n→∀ c,I (S.opened c) g n
  again:∀ {S g n},I S g n→Tk.Zaw S.last n=0→I (S.restarted n) g n
  tick:∀ {S g n m},I S g n→n≤m→0≤m→m≤1152921504606846976→I S g m
  serve:∀ {S g n},I S g n→∀ i c r,I (Tk.doV S n c r).2 (ZEs S n i c r g) n
def At (I:Tk.Srv→List Gt→Int→Prop) (w:Cu):Prop:=I w.srv w.grs w.now
section
variable {I:Tk.Srv→List Gt→Int→Prop} (k:Znv I) {w:Cu}
include k
theorem Znv.cut (h:At I w) (i:Nat):At I (w.cut i):=by
  unfold Cu.cut
  split
  ·exact h
  ·split
   ·exact h
   ·exact k.closed h _
theorem Znv.sends (h:At I w) (i:Nat):At I (w.sends i):=by
  unfold Cu.sends
  split
  ·exact h
  ·split
   ·exact h
   ·split
    ·exact h
    ·split
     ·exact h
     ·split
      ·exact h
      ·refine k.cut ?_ _
       exact h
theorem Znv.cutK (h:At I w):∀ j,At I (w.cutK j)
  | 0=>h
  | j+1=>k.cut (Znv.cutK h j) j
theorem Znv.start (h:At I w):At I w.startR.2:=by
  unfold Cu.startR
  split
  ·exact h
  ·show I (if Tk.Zaw w.srv.last w.now=0 then w.srv.restarted w.now else w.srv) w.grs w.now
   split
   ·rename_i e;exact k.again h e
   ·exact h
theorem Znv.conn1 (h:At I w):At I w.conn1.2:=by
  unfold Cu.conn1
  split
  ·exact h
  ·split
   ·exact h
   ·split
    ·exact k.opened h _
    ·exact k.opened h _
theorem Znv.dial (h:At I w) (i:Nat):At I (w.dialR i).2:=by
  unfold Cu.dialR
  split
  ·exact h
  ·split
   ·exact h
   ·split
    ·exact h
    ·split
     ·exact k.conn1 h
     ·exact k.sends (w:=w.conn1.2.setP i _) (k.conn1 h) i
theorem Znv.ask (h:At I w) (i:Nat) (r:Rq):At I (w.askR i r).2:=by
  unfold Cu.askR
  split
  ·exact h
  ·exact k.sends (w:=w.setP i _) h i
theorem Znv.serveR (h:At I w) (i:Nat) (conn:Int) (lb:List UInt8):At I (w.serveR i conn lb).2:=by
  unfold Cu.serveR
  split
  ·exact h
  ·have hs:=k.serve h i conn (ZdQ lb).1
   unfold ZEs at hs
   split
   ·rename_i e
    rw [if_pos e] at hs
    exact hs
   ·rename_i e
    rw [if_neg e] at hs
    have hn:At I (Cu.noted { w with srv:=(Tk.doV w.srv w.now conn (ZdQ lb).1).2 } i (ZdQ lb).1 (Tk.doV w.srv w.now conn (ZdQ lb).1).1.1):=by
      unfold Cu.noted
      split
      ·rename_i e1
       rw [if_pos e1] at hs
       split
       ·rename_i e2
        rw [if_pos e2] at hs
        exact hs
       ·rename_i e2
        rw [if_neg e2] at hs
        exact hs
      ·rename_i e1
       rw [if_neg e1] at hs
       exact hs
    unfold Cu.said
    split
    ·exact hn
    ·exact hn
theorem Znv.serveL (i:Nat) (conn:Int):∀ (l:List (List UInt8)) {w:Cu},At I w→At I (w.serveL i conn l).2
  | [],_,h=>h
  | x::r,w,h=>by
    unfold Cu.serveL
    split
    ·exact Znv.serveL i conn r (k.serveR h i conn x)
    ·exact k.serveR h i conn x
theorem Znv.toSrv (h:At I w) (i:Nat) (most:Int):At I (w.toSrvR i most).2:=by
  unfold Cu.toSrvR
  split
  ·exact h
  ·split
   ·exact h
   ·split
    ·exact h
    ·dsimp only
     split
     ·refine k.serveL i _ _ ?_
      exact h
     ·refine k.cut (k.serveL i _ _ ?_) i
      exact h
theorem Znv.toCl (h:At I w) (i:Nat) (most:Int):At I (w.toClR i most).2:=by
  unfold Cu.toClR
  split
  ·exact h
  ·split
   ·exact h
   ·split
    ·exact h
    ·dsimp only
     split
     ·refine k.cut ?_ i
      exact h
     ·refine k.sends ?_ i
      exact h
theorem Znv.doK (h:At I w) (o:Op) (j:Nat):At I (w.doK o j).2:=by
  unfold Cu.doK
  split
  ·show At I (w.tickR o.2.2.1).2
   unfold Cu.tickR
   split
   ·rename_i he
    unfold Cu.tickE at he
    split at he
    ·cases he
    ·split at he
     ·cases he
     ·split at he
      ·cases he
      ·exact k.tick (m:=o.2.2.1) h (by omega) (by omega) (by omega)
   ·exact h
  ·exact k.ask h _ _
  ·exact k.dial h _
  ·exact k.toSrv h _ _
  ·exact k.toCl h _ _
  ·show At I (w.partR o.2.1.toNat).2
   unfold Cu.partR
   split
   ·exact h
   ·split
    ·exact k.cut h _
    ·exact h
  ·show At I w.stopR.2
   unfold Cu.stopR
   split
   ·exact k.cutK (w:=w.stopB) h _
   ·exact h
  ·exact k.start h
theorem Znv.do (h:At I w) (o:Op):At I (w.doR o).2:=by
  unfold Cu.doR
  split
  ·exact h
  ·split
   ·exact h
   ·split
    ·split
     ·exact h
     ·split
      ·exact h
      ·exact k.doK h o _
    ·exact k.doK h o _
end
open Tk (F4 G4 ZdR ofT ofI Zcy)
def n4 (g:Gt):G4:=(g.1,g.2.2.2.2.2.1,g.2.2.2.2.2.2.1,g.2.2.2.2.2.2.2.1)
def isN (g:Gt):Bool:=decide (g.2.2.2.2.1=1∨g.2.2.2.2.1=2)
def ZdY (l:List Gt):List G4:=(l.filter isN).map n4
theorem Zjk (a b:List Gt):ZdY (a++b)=ZdY a++ZdY b:=by unfold ZdY;rw [List.filter_append,List.map_append]
theorem ZmC {g:Gt} (h:isN g=true):ZdY [g]=[n4 g]:=by unfold ZdY;rw [List.filter_cons_of_pos h];rfl
theorem ZpV {g:Gt} (h:isN g=false):ZdY [g]=[]:=by unfold ZdY;rw [List.filter_cons_of_neg (by rw [h];decide)];rfl
structure ZEZ (fl:List F4) (g:Gt):Prop where
  count:1≤g.2.2.2.2.2.2.1∧g.2.2.2.2.2.2.1≤1099511627776
  flow:∃ f,f∈fl∧f.1=g.2.2.2.2.2.1∧f.2.2.1=g.2.2.2.2.1
  text:g.2.2.2.2.1=1→g.2.2.2.2.2.2.2.1.size=0
structure Ziy (fl:List F4) (S:Tk.Srv) (g:List Gt) (n:Int):Prop where
  nv:Zcy fl S (ZdY g)
  last:S.last≤n
  now:0≤n∧n≤1152921504606846976
  asc:g.Pairwise fun a b=>a.1≤b.1
  ats:∀ x,x∈g→0≤x.1∧x.1≤n
  each:∀ x,x∈g→ZEZ fl x
  near:∀ (j:Nat) (x:Gt) (f:F4),g[j]?=some x→f∈fl→f.1=x.2.2.2.2.2.1→f.2.2.1=1→ZdR x.1 (ofT f.1 x.2.2.2.2.2.2.2.1 (ZdY (g.take (j+1))))≤f.2.1
theorem Zoq (S:Tk.Srv) (c:Int):∃ cs nn,S.closed c={ S with conns:=cs,nn:=nn }:=by
  unfold Tk.Srv.closed
  split
  ·exact ⟨_,_,rfl⟩
  ·exact ⟨S.conns,S.nn,rfl⟩
theorem ZnY (S:Tk.Srv) (c:Int):(S.opened c).last=S.last:=by
  unfold Tk.Srv.opened
  split<;>rfl
theorem ZnW {r:Rq} (h:Xj r=true) (h1:r.2.1=1):r.2.2.2.2.1.size=0:=by
  unfold Xj at h
  rw [h1] at h
  simp only [Bool.and_eq_true] at h
  have h2:(ZjD r&&r.2.2.2.2.2.1 ==0&&r.2.2.2.2.1.size ==0)=true:=h.2
  simp only [Bool.and_eq_true,beq_iff_eq] at h2
  exact h2.2
theorem Zuk {S:Tk.Srv} {n c:Int} {r:Rq} (h:S.last≤n):(Tk.doV S n c r).2.last≤n:=by
  rcases Tk.Zhs S n c r with ⟨_,e⟩ | ⟨_,_,_,hS | ⟨ns,f,_,hG⟩⟩
  ·rw [e];exact h
  ·obtain ⟨o,cs,_,e⟩:=hS.is
   rw [e]
   exact Int.le_refl _
  ·rcases hG.is with ⟨_,e⟩ | ⟨_,_,e⟩<;>rw [e]<;>exact Int.le_refl _
theorem Ziy.keep (fl:List F4):Znv (Ziy fl) where
  closed h c:=by
    obtain ⟨cs,nn,e⟩:=Zoq _ c
    rw [e]
    exact ⟨h.nv.conn cs nn,h.last,h.now,h.asc,h.ats,h.each,h.near⟩
  opened h c:=⟨h.nv.opened c,by rw [ZnY];exact h.last,h.now,h.asc,h.ats,h.each,h.near⟩
  again h e:=⟨h.nv.restart e,Int.le_refl _,h.now,h.asc,h.ats,h.each,h.near⟩
  tick h h1 h2 h3:=⟨h.nv,Int.le_trans h.last h1,⟨h2,h3⟩,h.asc,fun x hx=>⟨(h.ats x hx).1,Int.le_trans (h.ats x hx).2 h1⟩,h.each,h.near⟩
  serve {S g n} h i c r:=by
    obtain ⟨d1,d2⟩:=h.nv.do n c r
    have hl:=Zuk (c:=c) (r:=r) h.last
    have same:∀ {got:List G4},got=Tk.Zuc S n c r (ZdY g)→ZdY g=got→Ziy fl (Tk.doV S n c r).2 g n:=fun e1 e2=>⟨by rw [e2,e1];exact d1,hl,h.now,h.asc,h.ats,h.each,h.near⟩
    unfold ZEs
    split
    ·rename_i e
     refine same rfl ?_
     unfold Tk.Zuc
     rw [if_neg (fun q=>e q.1)]
    rename_i e0
    split
    case isFalse =>
      rename_i e
      refine same rfl ?_
      unfold Tk.Zuc
      rw [if_neg (fun q=>e q.2.1)]
    rename_i e1
    split
    ·rename_i e5
     refine same rfl ?_
     unfold Tk.Zuc
     rw [if_neg (fun q=>by omega)]
    rename_i e5
    have e0:(Tk.doV S n c r).1.2=0:=Classical.byContradiction fun q=>e0 q
    have hE:ZEZ fl (n,(i:Int),r.1,r)∧(r.2.1=1∨r.2.1=2∨r.2.1=3):=by
      rcases Tk.Zhs S n c r with ⟨q,_⟩ | ⟨_,_,_,hS | ⟨ns,f,_,hG⟩⟩
      ·exact (q e0).elim
      ·rcases hS.nope with q | q
       ·exact (q e1).elim
       ·exact (e5 q).elim
      ·obtain ⟨hf,hid⟩:=h.nv.flow hG.flow
       have hk:=(Tk.ZdB (h.nv.right f hf)).2.2.1
       rw [hG.kind] at hk
       exact ⟨⟨Tk.Zi9 hG.right hk,⟨f,hf,hid,hG.kind⟩,fun q=>ZnW hG.right q⟩,hk⟩
    obtain ⟨hE,hk⟩:=hE
    have hnote:ZdY (g++[(n,(i:Int),r.1,r)])=Tk.Zuc S n c r (ZdY g):=by
      rw [Zjk]
      unfold Tk.Zuc
      by_cases q:r.2.1=1∨r.2.1=2
      ·rw [if_pos ⟨e0,e1,q⟩,ZmC (show isN (n,(i:Int),r.1,r)=true from decide_eq_true q)]
       rfl
      ·rw [if_neg (fun q'=>q q'.2.2),ZpV (show isN (n,(i:Int),r.1,r)=false from decide_eq_false q),List.append_nil]
    refine ⟨by rw [hnote];exact d1,hl,h.now,?_,fun x hx=>?_,fun x hx=>?_,fun j x f hj hf hx h1=>?_⟩
    ·rw [List.pairwise_append]
     exact ⟨h.asc,List.pairwise_singleton _ _,fun a ha b hb=>by simp at hb;subst hb;exact (h.ats a ha).2⟩
    ·rcases List.mem_append.1 hx with hx | hx
     ·exact h.ats x hx
     ·simp at hx;subst hx;exact ⟨h.now.1,Int.le_refl _⟩
    ·rcases List.mem_append.1 hx with hx | hx
     ·exact h.each x hx
     ·simp at hx;subst hx;exact hE
    ·rcases Nat.lt_or_ge j g.length with hlt | hge
     ·rw [List.getElem?_append_left hlt] at hj
      rw [List.take_append_of_le_length (by omega)]
      exact h.near j x f hj hf hx h1
     ·rw [List.getElem?_append_right hge] at hj
      have hj0:j=g.length:=by
        rcases Nat.eq_zero_or_pos (j - g.length) with q | q
        ·omega
        ·rw [List.getElem?_eq_none (by simp;omega)] at hj;cases hj
      subst hj0
      rw [Nat.sub_self] at hj
      cases Option.some.inj hj
      rw [List.take_of_length_le (by simp)]
      have hx:f.1=r.2.2.1:=hx
      have h12:r.2.1=1∨r.2.1=2:=by
        obtain ⟨f',hf',hid',hk'⟩:=hE.flow
        have:f=f':=Tk.ZiL h.nv.nodup hf hf' (by rw [hid'];exact hx)
        subst this
        have hk':f.2.2.1=r.2.1:=hk'
        omega
      obtain ⟨_,_,f',hf',hid',hb'⟩:=d2 e0 e1 h12
      have:f=f':=Tk.ZiL h.nv.nodup hf hf' (by rw [hid'];exact hx)
      subst this
      rw [hnote]
      unfold Tk.Zuc
      rw [if_pos ⟨e0,e1,h12⟩,hx]
      exact hb'
theorem Ziy.begin {at_:Int} (ht:Tk.isT at_) {fl:List F4} (hl:Tk.Zd7 (Tk.Zgo at_) Tk.nA fl):Ziy fl ((Tk.Zgo at_).loaded Tk.nA fl) [] at_:=by
  have hn:=Zcy.begin ht hl
  refine ⟨hn,?_,ht,List.Pairwise.nil,(fun x hx=>by cases hx),(fun x hx=>by cases hx),fun j x f hj=>by cases hj⟩
  obtain ⟨_,_,b3,_⟩:=Tk.ZgR fl { Tk.Zgo at_ with spaces:=(Tk.Zgo at_).spaces++[(Tk.nA,fl)]}
  have:((Tk.Zgo at_).loaded Tk.nA fl).last=at_:=b3
  omega
def cnt (g:Gt):Int:=g.2.2.2.2.2.2.1
def Zp3 (id at_:Int) (g:Gt):Bool:=decide (g.2.2.2.2.2.1=id)&&decide (g.1 - at_<900000)
def Zj9 (id at_:Int) (l:List Gt):Int:=((l.filter (Zp3 id at_)).map cnt).sum
theorem ZiF (id at_:Int) (a b:List Gt):Zj9 id at_ (a++b)=Zj9 id at_ a+Zj9 id at_ b:=by unfold Zj9;rw [List.filter_append,List.map_append,List.sum_append]
theorem ZiE (id at_:Int) (g:Gt):Zj9 id at_ [g]=if Zp3 id at_ g=true then cnt g else 0:=by
  unfold Zj9
  split
  ·rename_i h;rw [List.filter_cons_of_pos h];simp
  ·rename_i h;rw [List.filter_cons_of_neg h];rfl
theorem Zjn (at_:Int):∀ {l:List (Int × Int)},(∀ x,x∈l→0≤x.2)→0≤ZdR at_ l:=fun {l} h=>by
  unfold ZdR
  refine Tk.ZhF fun x hx=>?_
  obtain ⟨y,hy,rfl⟩:=List.mem_map.1 hx
  exact h y (List.mem_filter.1 hy).1
theorem ZrZ {id:Int} {t:ByteArray} {l:List Gt} (h:∀ g,g∈l→0≤cnt g):∀ x,x∈ofT id t (ZdY l)→0≤x.2:=fun x hx=>by
  obtain ⟨y,hy,rfl⟩:=Tk.Zn0 hx
  unfold ZdY at hy
  obtain ⟨g,hg,rfl⟩:=List.mem_map.1 hy
  exact h g (List.mem_filter.1 hg).1
theorem Zmx {id a b:Int} {t:ByteArray}:∀ {l:List Gt},(∀ g,g∈l→0≤cnt g)→(∀ g,g∈l→Zp3 id a g=true→isN g=true∧g.2.2.2.2.2.2.2.1=t∧b - g.1<900000)→Zj9 id a l≤ZdR b (ofT id t (ZdY l))
  | [],_,_=>Int.le_refl _
  | g::l,h,hq=>by
    have ih:=Zmx (id:=id) (a:=a) (b:=b) (t:=t) (l:=l) (fun x hx=>h x (List.mem_cons_of_mem _ hx)) fun x hx=>hq x (List.mem_cons_of_mem _ hx)
    have e1:Zj9 id a (g::l)=Zj9 id a [g]+Zj9 id a l:=ZiF id a [g] l
    have e2:ZdY (g::l)=ZdY [g]++ZdY l:=Zjk [g] l
    have hp:0≤ZdR b (ofT id t (ZdY [g])):=Zjn b (ZrZ fun x hx=>h x (by simp at hx;subst hx;exact List.mem_cons_self ..))
    rw [e1,e2,Tk.ZgD,Tk.Zgd,ZiE]
    split
    ·rename_i hh
     obtain ⟨q1,q2,q3⟩:=hq g (List.mem_cons_self ..) hh
     unfold Zp3 at hh
     simp only [Bool.and_eq_true,decide_eq_true_eq] at hh
     rw [ZmC q1,Tk.Zlv (g:=n4 g) hh.1 q2]
     have:ZdR b [((n4 g).1,(n4 g).2.2.1)]=cnt g:=Tk.ZoY b g.1 (cnt g) q3
     omega
    ·omega
theorem ZEy {a b:ByteArray} (ha:a.size=0) (hb:b.size=0):a=b:=by
  cases a;cases b
  congr
  exact (Array.eq_empty_of_size_eq_zero ha).trans (Array.eq_empty_of_size_eq_zero hb).symm
theorem Ziy.sum {fl:List F4} {S:Tk.Srv} {g:List Gt} {n:Int} (h:Ziy fl S g n) {f:F4} (hf:f∈fl) (h1:f.2.2.1=1) {i:Nat} {x:Gt} (hi:g[i]?=some x):∀ (m:Nat),i≤m→m≤g.length→0≤Zj9 f.1 x.1 ((g.take m).drop i)∧Zj9 f.1 x.1 ((g.take m).drop i)≤f.2.1:=by
  have hr:=(Tk.ZdB (h.nv.right f hf)).2.1
  have hpos:∀ y,y∈g→0≤cnt y:=fun y hy=>by have:=(h.each y hy).count;unfold cnt;omega
  intro m him
  induction m with
  | zero =>
    intro _
    have:Zj9 f.1 x.1 ((g.take 0).drop i)=0:=by rw [List.take_zero,List.drop_nil];rfl
    omega
  | succ m ih =>
    intro hm
    rcases Nat.lt_or_ge m i with hlt | hge
    ·have e:(g.take (m+1)).drop i=[]:=List.drop_eq_nil_of_le (by rw [List.length_take];omega)
     rw [e]
     have:Zj9 f.1 x.1 []=0:=rfl
     omega
    ·have ih:=ih hge (by omega)
     have hgm:g[m]?=some g[m]:=List.getElem?_eq_getElem (by omega)
     have ht:g.take (m+1)=g.take m++[g[m]]:=by rw [List.take_add_one,hgm];rfl
     have hd:(g.take (m+1)).drop i=(g.take m).drop i++[g[m]]:=by rw [ht,List.drop_append_of_le_length (by rw [List.length_take];omega)]
     have hlow:0≤Zj9 f.1 x.1 ((g.take (m+1)).drop i):=by
       rw [hd,ZiF,ZiE]
       have:=hpos _ (List.getElem_mem (show m<g.length by omega))
       split<;>omega
     refine ⟨hlow,?_⟩
     generalize g[m]=y at hgm ht hd
     rcases Bool.eq_false_or_eq_true (Zp3 f.1 x.1 y) with hh | hh
     case inr =>
       rw [hd,ZiF,ZiE,if_neg (by rw [hh];decide)]
       omega
     have hh':=hh
     unfold Zp3 at hh
     simp only [Bool.and_eq_true,decide_eq_true_eq] at hh
     refine Int.le_trans ?_ (h.near m y f hgm hf hh.1.symm h1)
     have hsp:ZdY (g.take (m+1))=ZdY ((g.take (m+1)).take i)++ZdY ((g.take (m+1)).drop i):=by rw [← Zjk,List.take_append_drop]
     rw [hsp,Tk.ZgD,Tk.Zgd]
     have hmem:∀ z,z∈g.take (m+1)→z∈g:=fun z hz=>List.mem_of_mem_take hz
     have hp0:0≤ZdR y.1 (ofT f.1 y.2.2.2.2.2.2.2.1 (ZdY ((g.take (m+1)).take i))):=Zjn _ (ZrZ fun z hz=>hpos z (hmem z (List.mem_of_mem_take hz)))
     have w1:∀ z,z∈g→z.2.2.2.2.2.1=f.1→z.2.2.2.2.1=1:=fun z hz e=>by
       obtain ⟨f',hf',hid',hk'⟩:=(h.each z hz).flow
       have:f=f':=Tk.ZiL h.nv.nodup hf hf' (by rw [hid',e])
       subst this
       omega
     have hle:=Zmx (id:=f.1) (a:=x.1) (b:=y.1) (t:=y.2.2.2.2.2.2.2.1) (l:=(g.take (m+1)).drop i) (fun z hz=>hpos z (hmem z (List.mem_of_mem_drop hz))) fun z hz hq=>by
       unfold Zp3 at hq
       simp only [Bool.and_eq_true,decide_eq_true_eq] at hq
       have hzg:=hmem z (List.mem_of_mem_drop hz)
       have z1:=w1 z hzg hq.1
       have y1:=w1 y (List.mem_of_getElem? hgm) hh.1
       have hxz:x.1≤z.1:=by
         obtain ⟨j,hj⟩:=List.getElem?_of_mem hz
         rw [List.getElem?_drop] at hj
         have hjm:i+j<m+1:=Classical.byContradiction fun q=>by rw [List.getElem?_eq_none (by rw [List.length_take];omega)] at hj;cases hj
         rw [List.getElem?_take_of_lt hjm] at hj
         rcases Nat.eq_zero_or_pos j with q | q
         ·subst q
          rw [Nat.add_zero,hi] at hj
          cases Option.some.inj hj
          exact Int.le_refl _
         ·obtain ⟨a1,a2⟩:=List.getElem?_eq_some_iff.1 hi
          obtain ⟨b1,b2⟩:=List.getElem?_eq_some_iff.1 hj
          have:=(List.pairwise_iff_getElem.1 h.asc) i (i+j) a1 b1 (by omega)
          rw [a2,b2] at this
          exact this
       refine ⟨decide_eq_true (.inl z1),ZEy ((h.each z hzg).text z1) ((h.each y (List.mem_of_getElem? hgm)).text y1),by omega⟩
     omega
end Go.Proofs.YtbppjmcinoffnaaGreat
namespace Go.Proofs.YtbppjmcinoffnaaGreat
open Go Go.Fw
open Nat (reduceAdd reduceLT reduceLeDiff reduceEqDiff reduceMul)
open Tk (Zu rI rB rS rP rM rL Ziv XV held1 ZaQ wrS nA F4 f4L YT Zd7)
theorem ZEt {tmo:Int} {h0 hh:Zb} {wb:Nat} {sp:Sl} {T:TT} {w:Cu} {n:Nat} (g:Go1 tmo h0 wb sp hh T w n) (hn:n≤1000) {K:Sl→Zb→Prop}
    (hk:∀ s h',Own h' hh.size s 9 (w.grs.flatMap gtL)→Ext hh h'→K s h'):Yg (some ⟨wb,0,none⟩) K hh :=
  Zjy g.wd (by have:=g.ok.grs;omega) hk
theorem Ziz {a0 a1 a2 a3 a4:Int} {s:Sl} {fl:List F4} {l:Sl} {ops:List Op} {h:Zb} {K:Bool→Zb→Prop} (h0:Row h s 4 (fl.flatMap f4L)∧(-9223372036854775808≤a1∧a1<9223372036854775808)) (hl:Row h l 10 (ops.flatMap opL)∧∀ o,o∈ops→Zxf o) (hb0:fl.length≤1048576) (hb1:ops.length≤1048576)
    (hk:∀ h',Ext h h'→K true h'):Zao (a0,a1,a2,a3,a4,s,()) l K h:=by
  obtain ⟨hr,h0⟩:=h0
  obtain ⟨hl,hok⟩:=hl
  unfold Zao Zat
  refine ZaT fun h1 c1 e1 z1=>?_
  have z1:sz h1=sz h+1:=z1
  refine rI (Zu c1 rfl) (rI (Zu c1 rfl) (rI (Zu c1 rfl) (rI (Zu c1 rfl) (rI (Zu c1 rfl) ?_))))
  refine Znz (fun e h8 e8=>Za (XY (fun _=>Zjr fun h10 e10=>ZJ (Zx ?_)) (fun e2=>(e e2).elim))) fun e h8 T wb sp hW e8 low=>Za (XY (fun e2=>(e2 rfl).elim) fun _=>?_)
  ·exact hk h10 ((e1.trans e8).trans e10)
  obtain ⟨q1,q2,q3⟩:=Zky e
  have q2:1≤a1∧a1≤8:=q2
  have g8:Go1 a2 h1 wb sp h8 T (Zjm a0 a2 a3 a4 a1.toNat) 0:=⟨hW,ZbI.new e,e8,low⟩
  refine rL (Zu (Yf c1 e8) rfl) ?_
  have e18:=e1.trans e8
  refine g8.load (at_:=a0) rfl (hr.ext e18) (by omega) (fun hne k hk=>by have:=Zwu hr hne hk;omega) fun ee h14 T14 w14 g14 hld=>XY (fun _=>Zjr fun h16 e16=>Zx (hk h16 ((e1.trans g14.ext).trans e16))) fun ez=>?_
  obtain ⟨hLO,hw14⟩:=hld ez
  have hI14:At (Ziy fl) w14:=by
    rw [hw14]
    exact Ziy.begin q1 hLO
  have hsl:l.len=ops.length:=by
    have:=hl.len
    rw [Z7 Zjh] at this
    omega
  have c1':obj h1 (sz h)=_:=c1
  have set:∀ {hh:Zb},Ext h1 hh→obj hh (sz h)=some (.cells [iv a0,iv a1,iv a2,iv a3,iv a4,slV s].toArray _ (0,0)):=fun e=>Yf c1' e
  refine Zpc (J:=fun _ hh=>∃ T w n,Go1 a2 h1 wb sp hh T w n∧n≤100∧At (Ziy fl) w) ?_ ?_
  ·rintro _ h40 ⟨T40,w,n,g,hn,hI⟩
   refine ZEt g (by omega) fun sg h42 og e42=>Za ?_
   have e142:=g.ext.trans e42
   have hfr:Row h42 s 4 (fl.flatMap f4L):=(hr.ext e1).ext e142
   have hrg:=og.row
   have hgl:sg.len=w.grs.length:=by
     have:=hrg.len
     rw [Z7 ZgL] at this
     omega
   have hsl4:s.len=fl.length:=by
     have:=hr.len
     rw [Z7 YT] at this
     omega
   have hgb:=g.ok.grs
   refine Zdi (I:=fun st hh=>∃ k:Nat,st=((k:Int),())∧k≤fl.length∧h42=hh) (fun st _=>fl.length - st.1.toNat) ⟨0,rfl,Nat.zero_le _,rfl⟩ ?_
   rintro _ _ ⟨kf,rfl,hkf,rfl⟩ Q hQ
   dsimp only
   refine rL (Zu (set e142) rfl) (Zi (fun c=>?_) (fun c=>Zjr fun h90 e90=>Zx (hk h90 ((e1.trans e142).trans e90))))
   have hkl:kf<fl.length:=by omega
   have hf:fl[kf]?=some fl[kf]:=List.getElem?_eq_getElem hkl
   have hfm:fl[kf]∈fl:=List.getElem_mem hkl
   generalize fl[kf]=f at hf hfm
   obtain ⟨fb,fo,_,_,hif,hcf⟩:=ZaQ YT hfr hf (by decide)
   have next:Q (IntKind.wrap .i64 ((kf:Int)+1),()) h42:=by
     rw [wrS hkl (by omega)]
     exact hQ _ _ ⟨kf+1,rfl,hkl,rfl⟩ (by dsimp only;omega)
   refine rL (Zu (set e142) rfl) (hif rfl (rI (hcf 2 _ rfl) (XY (fun _=>Za next) fun hk1=>Za ?_)))
   refine Zdi (I:=fun st hh=>∃ i:Nat,st=((i:Int),())∧i≤w.grs.length∧h42=hh) (fun st _=>w.grs.length - st.1.toNat) ⟨0,rfl,Nat.zero_le _,rfl⟩ ?_
   rintro _ _ ⟨i,rfl,hi,rfl⟩ Q2 hQ2
   dsimp only
   refine Zi (fun c2=>Za (Za ?_)) (fun c2=>Za next)
   have hil:i<w.grs.length:=by omega
   have hx:w.grs[i]?=some w.grs[i]:=List.getElem?_eq_getElem hil
   generalize w.grs[i]=x at hx
   obtain ⟨xb,xo,_,_,hix,hcx⟩:=ZaQ ZgL hrg hx (by decide)
   have key:=hI.sum hfm hk1 hx
   refine Zdi (I:=fun st hh=>∃ m:Nat,st=(Zj9 f.1 x.1 ((w.grs.take m).drop i),(m:Int),())∧i≤m∧m≤w.grs.length∧h42=hh) (fun st _=>w.grs.length - st.2.1.toNat)
     ⟨i,by rw [List.drop_eq_nil_of_le (by rw [List.length_take];omega)];rfl,Nat.le_refl _,hi,rfl⟩ ?_
   rintro _ _ ⟨m,rfl,him,hm,rfl⟩ Q3 hQ3
   dsimp only
   refine Zi (fun c3=>?_) (fun c3=>rL (Zu (set e142) rfl) (hif rfl (rI (hcf 1 _ rfl) (Zi (fun c4=>?_) fun _=>Za ?_))))
   ·have hml:m<w.grs.length:=by omega
    have hy:w.grs[m]?=some w.grs[m]:=List.getElem?_eq_getElem hml
    have hd:(w.grs.take (m+1)).drop i=(w.grs.take m).drop i++[w.grs[m]]:=by
      rw [List.take_add_one,hy,List.drop_append_of_le_length (by rw [List.length_take];omega)]
      rfl
    generalize w.grs[m]=y at hy hd
    obtain ⟨yb,yo,_,_,hiy,hcy⟩:=ZaQ ZgL hrg hy (by decide)
    have hkey:=key m him (by omega)
    have hkey2:=key (m+1) (by omega) hml
    have hfc:=(Tk.ZdB (hI.nv.right f hfm)).2.1
    have hats:=(hI.ats y (List.mem_of_getElem? hy))
    have hatx:=(hI.ats x (List.mem_of_getElem? hx))
    have hnow:=hI.now
    have hes:Zj9 f.1 x.1 ((w.grs.take (m+1)).drop i)=Zj9 f.1 x.1 ((w.grs.take m).drop i)+if Zp3 f.1 x.1 y=true then cnt y else 0:=by rw [hd,ZiF,ZiE]
    have stepF:Zp3 f.1 x.1 y=false→Q3 (Zj9 f.1 x.1 ((w.grs.take m).drop i),IntKind.wrap .i64 ((m:Int)+1),()) h42:=fun hh=>by
      rw [hh,if_neg (by decide),Int.add_zero] at hes
      rw [wrS hml (by omega),← hes]
      exact hQ3 _ _ ⟨m+1,rfl,by omega,hml,rfl⟩ (by dsimp only;omega)
    refine hiy rfl (rI (hcy 5 _ rfl) (rL (Zu (set e142) rfl) (hif rfl (rI (hcf 0 _ rfl) ?_))))
    refine ⟨fun ce=>?_,fun ce=>Za (stepF ?_)⟩
    ·have ce:y.2.2.2.2.2.1=f.1:=by simpa using ce
     refine hiy rfl (rI (hcy 0 _ rfl) (hix rfl (rI (hcx 0 _ rfl) ?_)))
     rw [ZR (n:=y.1 - x.1) (by omega) (by omega)]
     refine Zi (fun cd=>hiy rfl (rI (hcy 6 _ rfl) (Za (Za ?_)))) (fun cd=>Za (stepF ?_))
     ·have hh:Zp3 f.1 x.1 y=true:=by unfold Zp3;rw [decide_eq_true ce,decide_eq_true cd];rfl
      rw [if_pos hh] at hes
      have hes':Zj9 f.1 x.1 ((w.grs.take m).drop i)+y.2.2.2.2.2.2.1=Zj9 f.1 x.1 ((w.grs.take (m+1)).drop i):=hes.symm
      rw [hes',ZR (by omega) (by omega),wrS hml (by omega)]
      exact hQ3 _ _ ⟨m+1,rfl,by omega,hml,rfl⟩ (by dsimp only;omega)
     ·unfold Zp3;rw [decide_eq_true ce,decide_eq_false cd];rfl
    ·have ce:¬ y.2.2.2.2.2.1=f.1:=by simpa using ce
     unfold Zp3;rw [decide_eq_false ce];rfl
   ·have:=(key m him hm).2
    omega
   ·rw [wrS hil (by omega)]
    exact hQ2 _ _ ⟨i+1,rfl,hil,rfl⟩ (by dsimp only;omega)
  ·intro Q hQ
   refine Za ?_
   refine Zdi (I:=fun st hh=>∃ (k:Nat) (T:TT) (w:Cu),st=((k:Int),())∧k≤100∧Go1 a2 h1 wb sp hh T w k∧At (Ziy fl) w) (fun st _=>100 - st.1.toNat) ⟨0,T14,w14,rfl,by decide,g14,hI14⟩ ?_
   rintro _ h19 ⟨k,T19,w,rfl,hk1,g,hI⟩ Q2 hQ2
   dsimp only
   refine Zi (fun c=>?_) (fun c=>hQ _ _ ⟨T19,w,k,g,hk1,hI⟩)
   refine Zi (fun c2=>?_) (fun c2=>hQ _ _ ⟨T19,w,k,g,hk1,hI⟩)
   have hkl:k<ops.length:=by omega
   have ho:ops[k]?=some ops[k]:=List.getElem?_eq_getElem hkl
   have hom:ops[k]∈ops:=List.getElem_mem hkl
   generalize ops[k]=o at ho hom
   obtain ⟨b,i,_,_,hidx,hc⟩:=ZaQ Zjh (hl.ext (e1.trans g.ext)) ho (by decide)
   refine hidx rfl ?_
   refine rI (hc 0 _ rfl) (rI (hc 1 _ rfl) (rI (hc 2 _ rfl) (rI (hc 3 _ rfl) (rI (hc 4 _ rfl) (rI (hc 5 _ rfl) (rI (hc 6 _ rfl) (rI (hc 7 _ rfl) (rS (hc 8 _ rfl) (rI (hc 9 _ rfl) ?_)))))))))
   refine g.do (by omega) (hok o hom) fun h37 T37 g37=>Za ?_
   rw [wrS (n:=100) (by omega) (by decide)]
   exact hQ2 _ _ ⟨k+1,T37,_,rfl,by omega,g37,(Ziy.keep fl).do hI o⟩ (by dsimp only;omega)
end Go.Proofs.YtbppjmcinoffnaaGreat
