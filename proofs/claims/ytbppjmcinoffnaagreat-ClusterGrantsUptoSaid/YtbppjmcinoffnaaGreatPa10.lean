/- What a client keeps. (gathered by carve.py out of texts proved for other seats) -/
import Derived.KernelRfl
import Derived.Test.YtbppjmcinoffnaaGreatPa9
set_option linter.unusedVariables false
set_option linter.unusedSimpArgs false
namespace Go.Proofs.YtbppjmcinoffnaaGreat
open Go Go.Fw
def Mon (l:List (Int × Int)):Prop:=l.Pairwise (fun a b=>a.2≤b.2)
theorem WOK.new {tmo least most:Int} {name:ByteArray}:WOK (Zfb tmo least most name) :=
  ⟨List.Pairwise.nil,(fun p hp=>(by cases hp)),(fun p hp=>(by cases hp)),(by show (0:Int)≤0∧(0:Int)≤1152921504606846976;omega),(by show (1:Int)≤1∧(1:Int)≤4611686018427387904;omega),(by show 0+0≤1073741824;omega)⟩
theorem Zzi {tmo least most:Int} {name:ByteArray} (h:Ziv tmo least most name=0):(1≤tmo∧tmo≤60000000∧1≤least∧least≤most∧most≤3600000000)∧XA (Zil name)=true:=by
  unfold Ziv at h
  split at h
  ·cases h
  ·split at h
   ·cases h
   ·split at h
    ·cases h
    ·split at h
     ·cases h
     ·split at h
      ·cases h
      ·split at h
       ·rename_i hr
        exact ⟨by omega,hr⟩
       ·cases h
theorem NOK.new {tmo least most:Int} {name:ByteArray} (h:Ziv tmo least most name=0):NOK (Zfb tmo least most name):=by
  obtain ⟨hb,hr⟩:=Zzi h
  refine ⟨⟨hb.1,hb.2.1⟩,hb.2.2.1,⟨Int.le_refl _,hb.2.2.2.1⟩,hb.2.2.2.2,Zem hr⟩
theorem WOK.noup {c:Cl} (hW:WOK c) {u:Bool} {b d:Int} {o:List UInt8}:WOK { c with up:=u,backoff:=b,out:=o,dial:=d }:=⟨hW.asc,hW.ids,hW.ats,hW.last,hW.next,hW.sum⟩
theorem WOK.up {c:Cl} (hW:WOK c) (at_:Int):WOK (c.upS at_):=by
  unfold Cl.upS
  split
  ·rename_i he
   split
   ·exact hW.tick he
   ·exact ⟨(hW.tick he).asc,(hW.tick he).ids,(hW.tick he).ats,(hW.tick he).last,(hW.tick he).next,(hW.tick he).sum⟩
  ·exact hW
theorem WOK.atS {c:Cl} (hW:WOK c) (at_:Int):WOK (c.atS at_):=by
  unfold Cl.atS
  split
  ·rename_i he
   exact hW.tick he
  ·exact hW
theorem ZuB {l:List (Int × Int)} (ha:Asc l) {n v:Int} (hn:∀ p,p∈l→p.1<n):Asc (l++[(n,v)]):=by
  refine List.pairwise_append.2 ⟨ha,List.pairwise_singleton _ _,fun a ha b hb=>?_⟩
  have:b=(n,v):=List.mem_singleton.1 hb
  subst this
  exact hn a ha
theorem WOK.ask {c:Cl} (hW:WOK c) (hnx:c.next<4611686018427387904) (hsum:c.told.length+c.waits.length<1073741824) (at_:Int) (r:Rq):WOK (c.askR at_ r).2:=by
  unfold Cl.askR
  split
  ·rename_i he
   have ht:=hW.tick he
   have hz:=ZlF he
   split
   ·split
    ·have hs:(c.tick at_).told.length+(c.tick at_).waits.length<1073741824:=by
       show (c.told++List.map _ _).length+(List.filter _ c.waits).length<_
       rw [List.length_append,List.length_map]
       have h1:=List.length_eq_countP_add_countP (p:=Zbc c.tmo at_) (l:=c.waits)
       rw [List.countP_eq_length_filter,List.countP_eq_length_filter] at h1
       have h3:(List.filter (fun a=>decide ¬Zbc c.tmo at_ a=true) c.waits)=c.waits.filter fun p=> !Zbc c.tmo at_ p:=by
         congr 1;funext a;cases Zbc c.tmo at_ a<;>rfl
       rw [h3] at h1
       omega
     refine ⟨ZuB ht.asc fun p hp=>(ht.ids p hp).2,fun p hp=>?_,fun p hp=>?_,ht.last,?_,?_⟩
     ·rcases List.mem_append.1 hp with h9 | h9
      ·have:=ht.ids p h9
       have hn:(c.tick at_).next=c.next:=rfl
       show 1≤p.1∧p.1<c.next+1
       omega
      ·have:p=(c.next,at_):=List.mem_singleton.1 h9
       subst this
       have:=hW.next
       show 1≤c.next∧c.next<c.next+1
       omega
     ·rcases List.mem_append.1 hp with h9 | h9
      ·exact ht.ats p h9
      ·have:p=(c.next,at_):=List.mem_singleton.1 h9
       subst this
       show 0≤at_∧at_≤at_
       omega
     ·have:=hW.next
      show 1≤c.next+1∧c.next+1≤_
      omega
     ·show (c.tick at_).told.length+((c.tick at_).waits++[(c.next,at_)]).length≤_
      rw [List.length_append]
      show _+(_+1)≤_
      omega
    ·exact ht
   ·exact ht
  ·exact hW
def Zk0 (l:List Tld) (p:Int × Int):Bool:=l.any fun t=>t.id ==p.1
structure Rel (A:List (Int × Int)) (c:Cl):Prop where
  asc:Asc A
  rest:A.filter (fun p=> !Zk0 c.told p)=c.waits
  nodup:(c.told.map (·.id)).Nodup
  each:∀ t,t∈c.told→∃ p,p∈A∧p.1=t.id∧(t.fb=false→c.last - p.2<c.tmo)
def Zj8 (c:Cl):Prop:=∀ p,p∈c.waits→c.last - p.2<c.tmo
theorem Rel.congr {A:List (Int × Int)} {c c':Cl} (hr:Rel A c) (h1:c'.told=c.told) (h2:c'.waits=c.waits) (h3:c'.last=c.last) (h4:c'.tmo=c.tmo):Rel A c' :=
  ⟨hr.asc,by rw [h1,h2];exact hr.rest,by rw [h1];exact hr.nodup,by rw [h1,h3,h4];exact hr.each⟩
theorem Zj8.congr {c c':Cl} (hf:Zj8 c) (h2:c'.waits=c.waits) (h3:c'.last=c.last) (h4:c'.tmo=c.tmo):Zj8 c':=by
  unfold Zj8
  rw [h2,h3,h4]
  exact hf
theorem Zpk (l:List Tld) (t:Tld) (p:Int × Int):Zk0 (l++[t]) p=(Zk0 l p||t.id ==p.1):=by simp [Zk0,List.any_append]
theorem Rel.mem {A:List (Int × Int)} {c:Cl} (hr:Rel A c) {p:Int × Int} (hp:p∈c.waits):p∈A∧Zk0 c.told p=false:=by
  rw [← hr.rest] at hp
  obtain ⟨h1,h2⟩:=List.mem_filter.1 hp
  exact ⟨h1,by simpa using h2⟩
theorem Rel.move {A:List (Int × Int)} {c:Cl} (hr:Rel A c) {p:Int × Int} (hp:p∈c.waits) {t:Tld} (ht:t.id=p.1) (hf:t.fb=false→c.last - p.2<c.tmo):Rel A { c with waits:=c.waits.filter (fun q=>q.1 !=p.1),told:=c.told++[t]}:=by
  obtain ⟨hA,hn⟩:=hr.mem hp
  refine ⟨hr.asc,?_,?_,fun u hu=>?_⟩
  ·dsimp only
   rw [← hr.rest,List.filter_filter]
   refine List.filter_congr fun q _=>?_
   rw [Zpk,ht]
   cases Zk0 c.told q
   ·by_cases hq:q.1=p.1
    ·simp [hq]
    ·have h1:(q.1 !=p.1)=true:=by simpa using hq
     have h2:(p.1 ==q.1)=false:=by simpa using fun h=>hq h.symm
     rw [h1,h2];rfl
   ·simp
  ·dsimp only
   rw [List.map_append,List.nodup_append]
   refine ⟨hr.nodup,by simp,fun a ha b hb=>?_⟩
   have hb':b=p.1:=by simpa [ht] using hb
   subst hb'
   obtain ⟨u,hu,rfl⟩:=List.mem_map.1 ha
   intro he
   unfold Zk0 at hn
   rw [List.any_eq_false] at hn
   exact hn u hu (by simpa using he)
  ·rcases List.mem_append.1 hu with h9 | h9
   ·exact hr.each u h9
   ·have:u=t:=List.mem_singleton.1 h9
    subst this
    exact ⟨p,hA,ht.symm,hf⟩
theorem Rel.tick {c:Cl} (ha:Asc c.waits) (ht:c.told=[]) (at_:Int):Rel c.waits (c.tick at_):=by
  have hb:∀ p,p∈c.waits→Zk0 (c.tick at_).told p = !Zbc c.tmo at_ p:=fun p hp=>by
    unfold Zk0 Cl.tick
    rw [ht,List.nil_append]
    cases hk:Zbc c.tmo at_ p with
    | false =>
      refine List.any_eq_true.2 ⟨Zfg p.1,List.mem_map.2 ⟨p,List.mem_filter.2 ⟨hp,by rw [hk];rfl⟩,rfl⟩,by simp [Zfg]⟩
    | true =>
      rw [Bool.not_true]
      refine List.any_eq_false.2 fun t hT=>?_
      obtain ⟨q,hq,rfl⟩:=List.mem_map.1 hT
      obtain ⟨hq1,hq2⟩:=List.mem_filter.1 hq
      intro he
      have he:q.1=p.1:=by simpa [Zfg] using he
      obtain ⟨i,hi⟩:=List.getElem?_of_mem hp
      obtain ⟨j,hj⟩:=List.getElem?_of_mem hq1
      have:=Zof ha hj hi he
      subst this
      rw [hi] at hj
      cases hj
      rw [hk] at hq2
      cases hq2
  refine ⟨ha,?_,?_,fun t hT=>?_⟩
  ·show _=c.waits.filter (Zbc c.tmo at_)
   refine List.filter_congr fun p hp=>?_
   rw [hb p hp,Bool.not_not]
  ·show ((c.told++List.map _ _).map _).Nodup
   rw [ht,List.nil_append,List.map_map]
   have:(List.filter (fun p=> !Zbc c.tmo at_ p) c.waits).Pairwise (fun a b=>a.1<b.1):=Zfk ha _
   refine List.pairwise_map.2 (this.imp fun hab he=>?_)
   simp only [Function.comp_apply,Zfg] at he
   omega
  ·have hT:t∈c.told++(c.waits.filter fun p=> !Zbc c.tmo at_ p).map fun p=>Zfg p.1:=hT
   rw [ht,List.nil_append] at hT
   obtain ⟨q,hq,rfl⟩:=List.mem_map.1 hT
   exact ⟨q,(List.mem_filter.1 hq).1,rfl,fun h=>by cases h⟩
theorem Zj8.tick (c:Cl) (at_:Int):Zj8 (c.tick at_):=fun p hp=>by
  have h:=(List.mem_filter.1 hp).2
  unfold Zbc at h
  exact of_decide_eq_true h
theorem Rel.answ {A:List (Int × Int)} {c:Cl} (hr:Rel A c) (hf:Zj8 c) (a:An):Rel A (c.answ a)∧Zj8 (c.answ a):=by
  unfold Cl.answ
  split
  ·rename_i hany
   obtain ⟨p,hp,hpe⟩:=List.any_eq_true.1 hany
   have hpe:p.1=a.1:=by simpa using hpe
   refine ⟨?_,fun q hq=>hf q (List.mem_filter.1 hq).1⟩
   have:=hr.move hp (t:=⟨a.1,a,false⟩) hpe.symm fun _=>hf p hp
   rw [hpe] at this
   exact this
  ·exact ⟨hr,hf⟩
theorem Rel.take {A:List (Int × Int)}:∀ {l:List (List UInt8)} {c:Cl},Rel A c→Zj8 c→Rel A (c.take l).1∧Zj8 (c.take l).1
  | [],c,h,hf=>⟨h,hf⟩
  | p::ps,c,h,hf=>by
    unfold Cl.take
    split
    ·exact ⟨h,hf⟩
    ·have:=h.answ hf (ZbP p).1
     exact Rel.take this.1 this.2
theorem ZiS:∀ (l:List (List UInt8)) (c:Cl),(c.take l).1.last=c.last∧(c.take l).1.tmo=c.tmo∧(c.take l).1.next=c.next∧(c.take l).1.out=c.out∧(c.take l).1.rb=c.rb∧(c.take l).1.broken=c.broken∧(c.take l).1.told.length+(c.take l).1.waits.length≤c.told.length+c.waits.length
  | [],c=>⟨rfl,rfl,rfl,rfl,rfl,rfl,Nat.le_refl _⟩
  | p::ps,c=>by
    unfold Cl.take
    split
    ·exact ⟨rfl,rfl,rfl,rfl,rfl,rfl,Nat.le_refl _⟩
    ·obtain ⟨a1,a2,a3,a4,a5,a6,a7⟩:=ZiS ps (c.answ (ZbP p).1)
     have hb:(c.answ (ZbP p).1).last=c.last∧(c.answ (ZbP p).1).tmo=c.tmo∧(c.answ (ZbP p).1).next=c.next∧(c.answ (ZbP p).1).out=c.out∧(c.answ (ZbP p).1).rb=c.rb∧(c.answ (ZbP p).1).broken=c.broken∧(c.answ (ZbP p).1).told.length+(c.answ (ZbP p).1).waits.length≤c.told.length+c.waits.length:=by
       unfold Cl.answ
       split
       ·rename_i hany
        obtain ⟨q,hq,hqe⟩:=List.any_eq_true.1 hany
        refine ⟨rfl,rfl,rfl,rfl,rfl,rfl,?_⟩
        have:(c.waits.filter (fun p'=>p'.1 !=(ZbP p).1.1)).length<c.waits.length:=by
          refine List.length_filter_lt_length_iff_exists.2 ⟨q,hq,?_⟩
          simp at hqe
          simp [hqe]
        show (c.told++[_]).length+(c.waits.filter _).length≤_
        rw [List.length_append]
        simp only [List.length_cons,List.length_nil]
        omega
       ·exact ⟨rfl,rfl,rfl,rfl,rfl,rfl,Nat.le_refl _⟩
     refine ⟨a1.trans hb.1,a2.trans hb.2.1,a3.trans hb.2.2.1,a4.trans hb.2.2.2.1,a5.trans hb.2.2.2.2.1,a6.trans hb.2.2.2.2.2.1,Nat.le_trans a7 hb.2.2.2.2.2.2⟩
theorem ZoX:∀ (n:Nat) (all:List UInt8),all.length≤n→(Ze3 all).2.2.length≤all.length
  | 0,all,h=>by
    rw [ZdU (by omega)]
    exact Nat.le_refl _
  | n+1,all,h=>by
    by_cases h1:all.length<4
    ·rw [ZdU h1];exact Nat.le_refl _
    ·cases h2:ZfU all with
     | false=>rw [Zly h1 h2];exact Nat.zero_le _
     | true =>
       by_cases h3:all.length - 4<ZeS all
       ·rw [Zhx h1 h2 h3];exact Nat.le_refl _
       ·rw [Zhy h1 h2 h3]
        have:=ZoX n (all.drop (4+ZeS all)) (by rw [List.length_drop];omega)
        rw [List.length_drop] at this
        show (Ze3 _).2.2.length≤_
        omega
theorem Zov (c:Cl) (at_:Int):(c.tick at_).told.length+(c.tick at_).waits.length=c.told.length+c.waits.length:=by
  show (c.told++List.map _ _).length+(List.filter _ c.waits).length=_
  rw [List.length_append,List.length_map]
  have h1:=List.length_eq_countP_add_countP (p:=Zbc c.tmo at_) (l:=c.waits)
  rw [List.countP_eq_length_filter,List.countP_eq_length_filter] at h1
  have h3:(List.filter (fun a=>decide ¬Zbc c.tmo at_ a=true) c.waits)=c.waits.filter fun p=> !Zbc c.tmo at_ p:=by
    congr 1;funext a;cases Zbc c.tmo at_ a<;>rfl
  rw [h3] at h1
  omega
theorem WOK.down {c:Cl} (hW:WOK c):WOK c.down:=by
  refine ⟨List.Pairwise.nil,(fun p hp=>(by cases hp)),(fun p hp=>(by cases hp)),hW.last,hW.next,?_⟩
  have:=hW.sum
  show (c.told++List.map _ _).length+0≤_
  rw [List.length_append,List.length_map]
  omega
theorem NOK.down {c:Cl} (hN:NOK c):NOK c.down:=by
  have:=hN.back
  have:=hN.least
  refine ⟨hN.tmo,hN.least,?_,hN.most,hN.name⟩
  show c.least≤min (2*c.backoff) c.most∧min (2*c.backoff) c.most≤c.most
  omega
theorem Mon.filter {l:List (Int × Int)} (hM:Mon l) (f:Int × Int→Bool):Mon (l.filter f):=List.Pairwise.filter f hM
theorem Mon.sub {l l':List (Int × Int)} (hM:Mon l) (h:l'.Sublist l):Mon l':=List.Pairwise.sublist h hM
theorem ZuC (c:Cl) (a:An):(c.answ a).waits.Sublist c.waits:=by
  unfold Cl.answ
  split
  ·exact List.filter_sublist
  ·exact List.Sublist.refl _
theorem Zow:∀ (l:List (List UInt8)) (c:Cl),(c.take l).1.waits.Sublist c.waits
  | [],_=>List.Sublist.refl _
  | p::ps,c=>by
    unfold Cl.take
    split
    ·exact List.Sublist.refl _
    ·exact (Zow ps _).trans (ZuC c _)
structure On2 (c:Cl) (n:Nat):Prop where
  w:WOK c
  nk:NOK c
  br:c.broken=false
  mon:Mon c.waits
  next:c.next≤(n:Int)+1
  out:c.out.length≤1024*n
  rb:c.rb.length≤1048576*n
  sum:c.told.length+c.waits.length≤n
theorem On2.mono {c:Cl} {n n':Nat} (h:On2 c n) (hn:n≤n'):On2 c n' :=
  ⟨h.w,h.nk,h.br,h.mon,by have:=h.next;omega,by have:=h.out;omega,by have:=h.rb;omega,by have:=h.sum;omega⟩
theorem On2.succ {c:Cl} {n:Nat} (h:On2 c n):On2 c (n+1):=h.mono (Nat.le_succ n)
theorem On2.tick {c:Cl} {n:Nat} (h:On2 c n) {at_:Int} (he:c.atE at_=0):On2 (c.tick at_) n :=
  ⟨h.w.tick he,h.nk.tick at_,h.br,h.mon.filter _,h.next,h.out,h.rb,by rw [Zov];exact h.sum⟩
theorem On2.down {c:Cl} {n:Nat} (hw:WOK c) (hn:NOK c) (h1:c.next≤(n:Int)+1) (h2:c.told.length+c.waits.length≤n):On2 c.down n:=by
  refine ⟨hw.down,hn.down,rfl,List.Pairwise.nil,h1,Nat.zero_le _,Nat.zero_le _,?_⟩
  show (c.told++List.map _ _).length+0≤_
  rw [List.length_append,List.length_map]
  omega
theorem On2.atS {c:Cl} {n:Nat} (hI:On2 c n) (at_:Int):On2 (c.atS at_) n:=by
  unfold Cl.atS
  split
  ·rename_i he
   exact hI.tick he
  ·exact hI
theorem On2.upS {c:Cl} {n:Nat} (hI:On2 c n) (at_:Int):On2 (c.upS at_) (n+1):=by
  unfold Cl.upS
  split
  ·rename_i he
   have hD:=(hI.tick he).succ
   split
   ·exact hD
   ·have h1:=hI.nk.least
    have h2:=hI.nk.back
    have h3:=hI.out
    have h4:=ZlI (Zil c.name)
    refine ⟨(hI.w.tick he).noup (d:=c.dial),⟨hI.nk.tmo,h1,⟨Int.le_refl _,Int.le_trans h2.1 h2.2⟩,hI.nk.most,hI.nk.name⟩,hI.br,hD.mon,hD.next,?_,hD.rb,hD.sum⟩
    show (c.out++_).length≤_
    rw [List.length_append]
    omega
  ·exact hI.succ
theorem On2.refS {c:Cl} {n:Nat} (hI:On2 c n) (at_:Int):On2 (c.refS at_) n:=by
  unfold Cl.refS
  split
  ·rename_i he
   have hD:=hI.tick he
   split
   ·exact hD
   ·exact ⟨(hI.w.tick he).noup (u:=c.up) (o:=c.out),(hI.nk.tick at_).failed,hI.br,hD.mon,hD.next,hD.out,hD.rb,hD.sum⟩
  ·exact hI
theorem On2.lostS {c:Cl} {n:Nat} (hI:On2 c n) (at_:Int):On2 (c.lostS at_) n:=by
  unfold Cl.lostS
  split
  ·rename_i he
   have hD:=hI.tick he
   split
   ·exact On2.down hD.w hD.nk hD.next hD.sum
   ·exact hD
  ·exact hI
theorem On2.bytes {c:Cl} {n:Nat} {l:List UInt8} (hl:l.length≤1048576) (hI:On2 c n) (at_:Int):On2 (c.bytesR at_ l).1 (n+1):=by
  unfold Cl.bytesR
  split
  ·rename_i he
   have hD:=(hI.tick he).succ
   split
   ·show On2 ((c.tick at_).putB l).1 _
    unfold Cl.putB
    dsimp only
    have hq:putS (c.tick at_).rb (c.tick at_).broken l=Ze3 (c.rb++l):=by
      show putS c.rb c.broken l=_
      unfold putS
      rw [hI.br]
      rfl
    rw [hq]
    have hlen:=ZoX (c.rb++l).length (c.rb++l) (Nat.le_refl _)
    generalize Ze3 (c.rb++l)=q at hlen
    have hrb:=hI.rb
    rw [List.length_append] at hlen
    have w2:WOK { c.tick at_ with rb:=q.2.2,broken:=q.2.1 }:=hD.w.rbs
    have n2:NOK { c.tick at_ with rb:=q.2.2,broken:=q.2.1 }:=hD.nk.rbs
    have m2:Mon ({ c.tick at_ with rb:=q.2.2,broken:=q.2.1 }:Cl).waits:=hD.mon
    have hsm:({ c.tick at_ with rb:=q.2.2,broken:=q.2.1 }:Cl).told.length+({ c.tick at_ with rb:=q.2.2,broken:=q.2.1 }:Cl).waits.length≤n+1:=hD.sum
    have hnx:({ c.tick at_ with rb:=q.2.2,broken:=q.2.1 }:Cl).next≤((n+1:Nat):Int)+1:=hD.next
    have hou:({ c.tick at_ with rb:=q.2.2,broken:=q.2.1 }:Cl).out.length≤1024*(n+1):=hD.out
    have hr2:({ c.tick at_ with rb:=q.2.2,broken:=q.2.1 }:Cl).rb=q.2.2:=rfl
    have hb2:({ c.tick at_ with rb:=q.2.2,broken:=q.2.1 }:Cl).broken=q.2.1:=rfl
    generalize ({ c.tick at_ with rb:=q.2.2,broken:=q.2.1 }:Cl)=c2 at w2 n2 m2 hsm hnx hou hr2 hb2 ⊢
    obtain ⟨a1,a2,a3,a4,a5,a6,a7⟩:=ZiS q.1 c2
    by_cases hz:(if (c2.take q.1).2 then 50 else if q.2.1 then 50 else 0:Int)=0
    ·rw [if_pos hz]
     have hbr:q.2.1=false:=by
       cases hq9:q.2.1 with
       | false=>rfl
       | true =>
         rw [hq9] at hz
         cases hz9:(c2.take q.1).2<;>rw [hz9] at hz<;>simp at hz
     exact ⟨WOK.take w2,NOK.take n2,by rw [a6,hb2,hbr],m2.sub (Zow _ _),by rw [a3];exact hnx,by rw [a4];exact hou,by rw [a5,hr2];omega,Nat.le_trans a7 hsm⟩
    ·rw [if_neg hz]
     exact On2.down (WOK.take w2) (NOK.take n2) (by rw [a3];exact hnx) (Nat.le_trans a7 hsm)
   ·exact hD
  ·exact hI.succ
theorem On2.ask {c:Cl} {n:Nat} (hn:n≤1000) (hI:On2 c n) (at_:Int) (r:Rq):On2 (c.askR at_ r).2 (n+1):=by
  have hnx:=hI.next
  have hsm:=hI.sum
  have hW:=hI.w.ask (by omega) (by omega) at_ r
  unfold Cl.askR at hW ⊢
  by_cases he:c.atE at_=0
  ·rw [if_pos he] at hW ⊢
   have hT:=hI.tick he
   have hD:=hT.succ
   by_cases h1:XA (ZfT r 0)=true∧r.2.1≠5
   ·rw [if_pos h1] at hW ⊢
    by_cases h2:c.up=true∧(c.tick at_).waits.length<256
    ·rw [if_pos h2] at hW ⊢
     have h3:=hI.out
     have h4:=ZlI (ZfT r c.next)
     have hts:=Zov c at_
     refine ⟨hW,⟨hI.nk.tmo,hI.nk.least,hI.nk.back,hI.nk.most,hI.nk.name⟩,hI.br,?_,?_,?_,hD.rb,?_⟩
     ·show Mon ((c.tick at_).waits++[(c.next,at_)])
      unfold Mon
      rw [List.pairwise_append]
      refine ⟨hT.mon,List.pairwise_singleton _ _,fun a ha b hb=>?_⟩
      have:b=(c.next,at_):=List.mem_singleton.1 hb
      subst this
      exact (hT.w.ats a ha).2
     ·show c.next+1≤_
      omega
     ·show (c.out++_).length≤_
      rw [List.length_append]
      omega
     ·show (c.tick at_).told.length+((c.tick at_).waits++[_]).length≤_
      rw [List.length_append]
      simp only [List.length_cons,List.length_nil]
      omega
    ·rw [if_neg h2]
     exact hD
   ·rw [if_neg h1]
    exact hD
  ·rw [if_neg he]
   exact hI.succ
theorem On2.sent {c:Cl} {n:Nat} (hI:On2 c n):On2 { c with out:=[]} n :=
  ⟨hI.w.noup (u:=c.up) (b:=c.backoff) (d:=c.dial),⟨hI.nk.tmo,hI.nk.least,hI.nk.back,hI.nk.most,hI.nk.name⟩,hI.br,hI.mon,hI.next,Nat.zero_le _,hI.rb,hI.sum⟩
theorem On2.said {c:Cl} {n:Nat} (hI:On2 c n):On2 { c with told:=[]} n:=by
  have h1:=hI.sum
  have h2:=hI.w.sum
  exact ⟨⟨hI.w.asc,hI.w.ids,hI.w.ats,hI.w.last,hI.w.next,by show 0+c.waits.length≤_;omega⟩,⟨hI.nk.tmo,hI.nk.least,hI.nk.back,hI.nk.most,hI.nk.name⟩,hI.br,hI.mon,hI.next,hI.out,hI.rb,by show 0+c.waits.length≤_;omega⟩
end Go.Proofs.YtbppjmcinoffnaaGreat
namespace Go.Proofs.YtbppjmcinoffnaaGreat.St
open Go Go.Fw
structure ZjR where
  way:List UInt8
  come:List UInt8
  x:Bool
structure Cn where
  s0:ZjR
  s1:ZjR
  port:Int
  brk:Bool
structure Rw where
  w0:Sl
  c0:Sl
  w1:Sl
  c1:Sl
abbrev Q:=Rw × Cn
def qC (q:Q):List Value:=[slV q.1.w0,slV q.1.c0,.bool q.2.s0.x,slV q.1.w1,slV q.1.c1,.bool q.2.s1.x,.int .i64 q.2.port,.bool q.2.brk]
theorem ZdI (q:Q):(qC q).length=8:=rfl
structure ZgM (h:Zb) (T:Nat→Option Nat) (x:Sl) (tag:Nat) (l:List UInt8):Prop where
  own:Own h 0 x 1 (l.map bv)
  tag:∀ k,x.blk=some k→T k=some tag
structure QR (h:Zb) (T:Nat→Option Nat) (i:Nat) (q:Q):Prop where
  w0:ZgM h T q.1.w0 (4*i+3) q.2.s0.way
  c0:ZgM h T q.1.c0 (4*i+4) q.2.s0.come
  w1:ZgM h T q.1.w1 (4*i+5) q.2.s1.way
  c1:ZgM h T q.1.c1 (4*i+6) q.2.s1.come
structure Zg8 (es:Array MapEntry) (ps:Int→Bool):Prop where
  key:∀ x,x∈es.toList→∃ n,x.key=iv n∧x.val = .bool true
  apart:es.toList.Pairwise fun x y=>x.key≠y.key
  has:∀ n,ps n=true↔∃ x,x∈es.toList∧x.key=iv n
def Xu (h:Zb) (mb:Nat) (ps:Int→Bool):Prop :=
  ∃ es c,h[mb]?=some (.map es c)∧Zg8 es ps
structure ZeD (h:Zb) (T:Nat→Option Nat) (nb mb:Nat) (s:Sl) (ps:Int→Bool) (qs:List Q):Prop where
  cells:h[nb]?=some (.cells #[.map (some mb),slV s] 122 (0,0))
  tn:T nb=some 0
  ports:Xu h mb ps
  tm:T mb=some 1
  row:Own h 0 s 8 (qs.flatMap qC)
  tr:∀ k,s.blk=some k→T k=some 2
  each:∀ i q,qs[i]?=some q→QR h T i q
  lt:∀ k,T k≠none→k<h.size
def Net (h:Zb) (T:Nat→Option Nat) (nb:Nat) (ps:Int→Bool) (cs:List Cn):Prop:=∃ mb s qs,ZeD h T nb mb s ps qs∧qs.map (·.2)=cs
theorem ZgM.congr {h h':Zb} {T:Nat→Option Nat} {x:Sl} {tag:Nat} {l:List UInt8} (hr:ZgM h T x tag l) (he:∀ k,T k=some tag→k<h.size→h'[k]?=h[k]?):ZgM h' T x tag l :=
  ⟨hr.own.congr fun k hk hl _=>he k (hr.tag k hk) hl,hr.tag⟩
theorem ZgM.tags {h:Zb} {T T':Nat→Option Nat} {x:Sl} {tag:Nat} {l:List UInt8} (hr:ZgM h T x tag l) (he:∀ k,T k≠none→T' k=T k):ZgM h T' x tag l :=
  ⟨hr.own,fun k hk=>by have:=hr.tag k hk;rw [he k (by rw [this];simp),this]⟩
theorem ZeD.congr {h h':Zb} {T:Nat→Option Nat} {nb mb:Nat} {s:Sl} {ps:Int→Bool} {qs:List Q} (hn:ZeD h T nb mb s ps qs) (he:∀ k,T k≠none→k<h.size→h'[k]?=h[k]?) (hs:h.size≤h'.size):ZeD h' T nb mb s ps qs:=by
  have hm:=hn.ports
  refine ⟨?_,hn.tn,?_,hn.tm,?_,hn.tr,fun i q hq=>?_,fun k hk=>Nat.lt_of_lt_of_le (hn.lt k hk) hs⟩
  ·rw [he nb (by rw [hn.tn];simp) (Xl hn.cells)];exact hn.cells
  ·obtain ⟨es,c,hb,hr⟩:=hm
   exact ⟨es,c,by rw [he mb (by rw [hn.tm];simp) (Xl hb)];exact hb,hr⟩
  ·exact hn.row.congr fun k hk hl _=>he k (by rw [hn.tr k hk];simp) hl
  ·obtain ⟨a,b,c,d⟩:=hn.each i q hq
   exact ⟨a.congr fun k hk=>he k (by rw [hk];simp),b.congr fun k hk=>he k (by rw [hk];simp),c.congr fun k hk=>he k (by rw [hk];simp),d.congr fun k hk=>he k (by rw [hk];simp)⟩
theorem ZeD.upd {h h':Zb} {T:Nat→Option Nat} {nb mb:Nat} {s:Sl} {ps:Int→Bool} {qs:List Q} {S:Nat→Prop} (hn:ZeD h T nb mb s ps qs) (hu:Upd S h h') (hd:∀ k,k<h.size→S k→T k=none):ZeD h' T nb mb s ps qs :=
  hn.congr (fun k hk hl=>hu.old k hl fun hS=>hk (hd k hl hS)) hu.size
theorem ZeD.ext {h h':Zb} {T:Nat→Option Nat} {nb mb:Nat} {s:Sl} {ps:Int→Bool} {qs:List Q} (hn:ZeD h T nb mb s ps qs) (he:Ext h h'):ZeD h' T nb mb s ps qs :=
  hn.congr (fun k _ hl=>he.old k hl) he.size
theorem Net.upd {h h':Zb} {T:Nat→Option Nat} {nb:Nat} {ps:Int→Bool} {cs:List Cn} {S:Nat→Prop} (hn:Net h T nb ps cs) (hu:Upd S h h') (hd:∀ k,k<h.size→S k→T k=none):Net h' T nb ps cs:=by
  obtain ⟨mb,s,qs,hr,hc⟩:=hn
  exact ⟨mb,s,qs,hr.upd hu hd,hc⟩
theorem Net.ext {h h':Zb} {T:Nat→Option Nat} {nb:Nat} {ps:Int→Bool} {cs:List Cn} (hn:Net h T nb ps cs) (he:Ext h h'):Net h' T nb ps cs:=hn.upd (he.upd fun _=>False) fun _ _ h=>h.elim
def Rw.get (r:Rw) (e c:Nat):Sl:=if e=0 then (if c=0 then r.w0 else r.c0) else (if c=0 then r.w1 else r.c1)
def Rw.put (r:Rw) (e c:Nat) (x:Sl):Rw:=if e=0 then (if c=0 then { r with w0:=x } else { r with c0:=x }) else (if c=0 then { r with w1:=x } else { r with c1:=x })
def Cn.side (q:Cn) (e:Nat):ZjR:=if e=0 then q.s0 else q.s1
def Cn.putS (q:Cn) (e:Nat) (s:ZjR):Cn:=if e=0 then { q with s0:=s } else { q with s1:=s }
def ZjR.get (s:ZjR) (c:Nat):List UInt8:=if c=0 then s.way else s.come
def ZjR.put (s:ZjR) (c:Nat) (l:List UInt8):ZjR:=if c=0 then { s with way:=l } else { s with come:=l }
def Q.put (q:Q) (e c:Nat) (x:Sl) (l:List UInt8):Q:=(q.1.put e c x,q.2.putS e ((q.2.side e).put c l))
theorem two (e:Nat) (h:e<2):e=0∨e=1:=by omega
theorem QR.get {h:Zb} {T:Nat→Option Nat} {i:Nat} {q:Q} (hq:QR h T i q) {e c:Nat} (he:e<2) (hc:c<2):ZgM h T (q.1.get e c) (4*i+3+2*e+c) ((q.2.side e).get c):=by
  rcases two e he with rfl | rfl<;>rcases two c hc with rfl | rfl
  ·exact hq.w0
  ·exact hq.c0
  ·exact hq.w1
  ·exact hq.c1
theorem Zi5 (q:Q) {e c:Nat} (he:e<2) (hc:c<2):(qC q)[e*3+c]?=some (slV (q.1.get e c)):=by
  rcases two e he with rfl | rfl<;>rcases two c hc with rfl | rfl<;>rfl
theorem ZrN (q:Q) {e:Nat} (he:e<2):(qC q)[e*3+2]?=some (.bool (q.2.side e).x):=by
  rcases two e he with rfl | rfl<;>rfl
theorem Zza (q:Q) {e c:Nat} (he:e<2) (hc:c<2) (x:Sl) (l:List UInt8):qC (Q.put q e c x l)=(qC q).set (e*3+c) (slV x):=by
  rcases two e he with rfl | rfl<;>rcases two c hc with rfl | rfl<;>rfl
theorem QR.put {h:Zb} {T:Nat→Option Nat} {i:Nat} {q:Q} (hq:QR h T i q) {e c:Nat} (he:e<2) (hc:c<2) {x:Sl} {l:List UInt8} (hx:ZgM h T x (4*i+3+2*e+c) l):QR h T i (Q.put q e c x l):=by
  rcases two e he with rfl | rfl<;>rcases two c hc with rfl | rfl
  ·exact ⟨hx,hq.c0,hq.w1,hq.c1⟩
  ·exact ⟨hq.w0,hx,hq.w1,hq.c1⟩
  ·exact ⟨hq.w0,hq.c0,hx,hq.c1⟩
  ·exact ⟨hq.w0,hq.c0,hq.w1,hx⟩
theorem Zep {b:Sl} {l:List UInt8} {h:Zb} {K:Sl→Zb→Prop} (hb:Bytes h b l) (hsz:l.length≤1099511627776)
    (hk:∀ s h',Own h' h.size s 1 (l.map bv)→Ext h h'→K s h'):Yr b K h:=by
  unfold Yr ZaX
  have hlen:=Bytes.length hb
  cases hp:b.ptr with
  | none =>
    refine ZF ?_
    have:l=[]:=by
      rcases hb.at_ with h0 | ⟨bb,o,hp',_⟩
      ·exact List.eq_nil_of_length_eq_zero (by omega)
      ·rw [hp] at hp';cases hp'
    subst this
    exact hk _ _ (Own.nil h h.size 1) (Ext.refl h)
  | some a =>
    refine Zl ?_
    have hext:=Ext.push h (.cells #[] 5)
    refine ZdL ((hb.ext hext).rd ?_)
    have ho:=Own.newC (h:=h) (cells:=[]) (t:=5) (size:=1) (n:=0) rfl (by decide)
    refine Own.app ho (by simp [hlen]) (by simp [List.all_map,Function.comp_def,bv,Zv]) rfl (by simp [hlen];omega) (by simp [hlen];omega) (by simp) ?_
    intro s' h' ho' hl' hu hblk
    refine hk s' h' (by simpa using ho') (hext.then hu ?_)
    intro k hk
    simp [Sl.blk] at hk
    omega
theorem ZzB {h:Zb} {T:Nat→Option Nat} {nb mb:Nat} {s:Sl} {ps:Int→Bool} {qs:List Q} (hn:ZeD h T nb mb s ps qs) {i:Nat} {q:Q} (hq:qs[i]?=some q) {k:Int} (hi:k=(i:Int)) {K:Nat→Nat→Prop}
    (hk:∀ b,s.blk=some b→K b (i*8)):Zap s.ptr s.len k 8 K:=by
  subst hi
  have hl:=hn.row.len
  rw [Z7 ZdI] at hl
  have hlt:i<qs.length:=by
    rcases Nat.lt_or_ge i qs.length with h9 | h9
    ·exact h9
    ·rw [List.getElem?_eq_none h9] at hq;cases hq
  obtain ⟨b,hp,hb⟩:=Own.ptr_ hn.row (o:=0) (by rw [Z7 ZdI];omega)
  refine ⟨b,0,hp,by omega,by omega,?_⟩
  have e:0+(i:Int).toNat*8=i*8:=by omega
  rw [e]
  exact hk b hb
theorem ZeD.cell {h:Zb} {T:Nat→Option Nat} {nb mb:Nat} {s:Sl} {ps:Int→Bool} {qs:List Q} (hn:ZeD h T nb mb s ps qs) {i:Nat} {q:Q} (hq:qs[i]?=some q) {b m:Nat} (hb:s.blk=some b) {v:Value} (hm:m<8) (hv:(qC q)[m]?=some v):h.cell b (i*8+m)=some v :=
  Own.cell_ hn.row hb (by rw [Zgw ZdI qs i m q hq hm];exact hv)
theorem ZeD.length {h:Zb} {T:Nat→Option Nat} {nb mb:Nat} {s:Sl} {ps:Int→Bool} {qs:List Q} (hn:ZeD h T nb mb s ps qs):s.len=qs.length:=by
  have hl:=hn.row.len
  rw [Z7 ZdI] at hl
  omega
theorem ZeD.setRow {h h1:Zb} {T:Nat→Option Nat} {nb mb:Nat} {s:Sl} {ps:Int→Bool} {qs:List Q} (hn:ZeD h T nb mb s ps qs) {i:Nat} {q:Q} (hq:qs[i]?=some q) {e c:Nat} (he:e<2) (hc:c<2) {x:Sl} {l:List UInt8}
    (hx:Own h1 0 x 1 (l.map bv)) (hnew:∀ k,x.blk=some k→T k=some (4*i+3+2*e+c)∨h.size≤k) (hu:Upd (fun k=>T k=some (4*i+3+2*e+c)) h h1) {b:Nat} (hb:s.blk=some b) {K:Zb→Prop}
    (hfin:∀ h2 T',ZeD h2 T' nb mb s ps (qs.set i (Q.put q e c x l))→Stp T T' h h2→(∀ k,x.blk≠some k→T' k=T k)→Upd (· = b) h1 h2→K h2):st h1 b (i*8+(e*3+c)) (slV x) K:=by
  have hT0:∀ k,h.size≤k→T k=none:=fun k hk=>by
    rcases hT:T k with _ | t
    ·rfl
    ·have:=hn.lt k (by rw [hT];simp);omega
  have ne2:∀ {k:Nat},T k=some 2→¬ T k=some (4*i+3+2*e+c):=fun {k} h1 h2=>by
    rw [h1] at h2
    simp only [Option.some.injEq] at h2
    omega
  have hrow1:=hn.row.congr (h':=h1) fun k hk hl _=>hu.old k hl (ne2 (hn.tr k hk))
  have hlt:i<qs.length:=by
    rcases Nat.lt_or_ge i qs.length with h9 | h9
    ·exact h9
    ·rw [List.getElem?_eq_none h9] at hq;cases hq
  have hm:e*3+c<8:=by omega
  refine Own.stCell hrow1 hb (by rw [Z7 ZdI];omega) rfl fun h2 o2 u2 z2=>?_
  rw [ZiI ZdI qs i _ _ q (Q.put q e c x l) hq hm (Zza q he hc x l)] at o2
  have u2':Upd (· = b) h1 h2:=u2.mono fun k _ hk=>by rw [hb] at hk;exact (Option.some.inj hk).symm
  have hbT:T b=some 2:=hn.tr b hb
  have hblt:b<h.size:=hn.lt b (by rw [hbT];simp)
  have z1:=hu.size
  have old:∀ k,k<h.size→T k≠some (4*i+3+2*e+c)→k≠b→h2[k]?=h[k]?:=fun k hk h1 h2=>(u2'.old k (by omega) h2).trans (hu.old k hk h1)
  have hT':∀ k,T k≠none→(if x.blk=some k then some (4*i+3+2*e+c) else T k)=T k:=fun k hk=>by
    split
    ·rename_i hx1
     rcases hnew k hx1 with h9 | h9
     ·exact h9.symm
     ·exact absurd (hT0 k h9) hk
    ·rfl
  have move:∀ {y:Sl} {tag:Nat} {m:List UInt8},ZgM h T y tag m→tag≠4*i+3+2*e+c→2<tag→ZgM h2 (fun k=>if x.blk=some k then some (4*i+3+2*e+c) else T k) y tag m:=fun {y tag m} hy h1 h9 =>
    (hy.congr fun k hk hl=>old k hl (by rw [hk];simp only [ne_eq,Option.some.injEq];exact h1) (by rintro rfl;rw [hbT] at hk;have:=Option.some.inj hk;omega)).tags hT'
  have hxr:ZgM h2 (fun k=>if x.blk=some k then some (4*i+3+2*e+c) else T k) x (4*i+3+2*e+c) l :=
    ⟨hx.congr fun k hk hl _=>u2'.old k hl (by
      rintro rfl
      rcases hnew _ hk with h9 | h9
      ·exact ne2 hbT h9
      ·omega),fun k hk=>by simp only [hk,if_true]⟩
  refine hfin h2 (fun k=>if x.blk=some k then some (4*i+3+2*e+c) else T k) ⟨?_,by show (if _ then _ else _)=_;rw [hT' nb (by rw [hn.tn];simp)];exact hn.tn,?_,by show (if _ then _ else _)=_;rw [hT' mb (by rw [hn.tm];simp)];exact hn.tm,o2,fun k hk=>?_,fun i' q' hq'=>?_,fun k hk=>?_⟩ ⟨?_,fun k hk=>?_⟩ (fun k hk=>by simp only [hk,if_false]) u2'
  ·rw [old nb (Xl hn.cells) (by rw [hn.tn];simp only [ne_eq,Option.some.injEq];omega) (by rintro rfl;rw [hn.tn] at hbT;cases hbT)]
   exact hn.cells
  ·obtain ⟨es,cl,hp,hr⟩:=hn.ports
   exact ⟨es,cl,by rw [old mb (Xl hp) (by rw [hn.tm];simp only [ne_eq,Option.some.injEq];omega) (by rintro rfl;rw [hn.tm] at hbT;cases hbT)];exact hp,hr⟩
  ·show (if _ then _ else _)=_
   rw [hT' k (by rw [hn.tr k hk];simp)]
   exact hn.tr k hk
  ·by_cases hii:i'=i
   ·subst hii
    rw [List.getElem?_set_self hlt] at hq'
    cases hq'
    obtain ⟨a1,a2,a3,a4⟩:=hn.each i' q hq
    rcases two e he with rfl | rfl<;>rcases two c hc with rfl | rfl
    ·exact ⟨hxr,move a2 (by omega) (by omega),move a3 (by omega) (by omega),move a4 (by omega) (by omega)⟩
    ·exact ⟨move a1 (by omega) (by omega),hxr,move a3 (by omega) (by omega),move a4 (by omega) (by omega)⟩
    ·exact ⟨move a1 (by omega) (by omega),move a2 (by omega) (by omega),hxr,move a4 (by omega) (by omega)⟩
    ·exact ⟨move a1 (by omega) (by omega),move a2 (by omega) (by omega),move a3 (by omega) (by omega),hxr⟩
   ·rw [List.getElem?_set_ne (Ne.symm hii)] at hq'
    obtain ⟨a1,a2,a3,a4⟩:=hn.each i' q' hq'
    exact ⟨move a1 (by omega) (by omega),move a2 (by omega) (by omega),move a3 (by omega) (by omega),move a4 (by omega) (by omega)⟩
  ·have z2':h2.size=h1.size:=z2
   by_cases hx1:x.blk=some k
   ·have:=(hx.lt hx1).2;omega
   ·simp only [hx1,if_false] at hk
    have:=hn.lt k hk;omega
  ·exact Upd.then (hu.mono fun k _ hk=>by show T k≠none;rw [hk];simp) u2' fun k _ hk=>by subst hk;show T k≠none;rw [hbT];simp
  ·by_cases hx1:x.blk=some k
   ·rcases hnew k hx1 with h9 | h9
    ·exact .inl (by rw [h9];simp)
    ·exact .inr h9
   ·simp only [hx1,if_false] at hk
    exact .inl hk
def ZgL (cs:List Cn) (k e most:Int):Int :=
  if k<1 then 4 else if k>(cs.length:Int) then 4 else if e<0 then 2 else if e>1 then 2 else if most<0 then 2 else match cs[(k - 1).toNat]? with
    | some c=>if c.brk then 51 else 0
    | none=>0
abbrev ZkG (qs:List Q):List Cn:=qs.map (·.2)
theorem ZdD {h:Zb} {T:Nat→Option Nat} {nb mb:Nat} {s:Sl} {ps:Int→Bool} {qs:List Q} (hn:ZeD h T nb mb s ps qs) {k e most:Int} {K:Option Addr→Int→Zb→Prop}
    (h1:ZgL (ZkG qs) k e most≠0→K none (ZgL (ZkG qs) k e most) h)
    (h2:∀ (i j:Nat) (q:Q) (b:Nat),ZgL (ZkG qs) k e most=0→k=(i:Int)+1→e=(j:Int)→j<2→0≤most→qs[i]?=some q→s.blk=some b→K (some ⟨b,i*8,none⟩) 0 h) :
    YC (some ⟨nb,0,none⟩) k e most K h:=by
  unfold YC Zew
  have hl:=hn.length
  have hcap:=hn.row.cap
  have hbig:=hn.row.big
  unfold ZgL at h1 h2
  rw [List.length_map] at h1 h2
  refine Za (Zx (Zl (Zj (fun c1=>Za ?_) (fun c1=>Zh (Zjk hn.cells rfl (Zx ?_))))))
  ·rw [if_pos c1] at h1;exact h1 (by decide)
  refine Zj (fun c2=>Za ?_) (fun c2=>Zj (fun c3=>Za ?_) (fun c3=>Zj (fun c4=>Za ?_) (fun c4=>Zx (Zj (fun c5=>Za ?_) (fun c5=>?_)))))
  ·rw [if_neg c1,if_pos (by omega)] at h1;exact h1 (by decide)
  ·rw [if_neg c1,if_neg (by omega),if_pos c3] at h1;exact h1 (by decide)
  ·rw [if_neg c1,if_neg (by omega),if_neg c3,if_pos c4] at h1;exact h1 (by decide)
  ·rw [if_neg c1,if_neg (by omega),if_neg c3,if_neg c4,if_pos c5] at h1;exact h1 (by decide)
  ·rw [if_neg c1,if_neg (by omega),if_neg c3,if_neg c4,if_neg c5] at h1 h2
   obtain ⟨i,hi⟩:=Int.eq_ofNat_of_zero_le (show 0≤k - 1 by omega)
   obtain ⟨j,hj⟩:=Int.eq_ofNat_of_zero_le (show 0≤e by omega)
   have hlt:i<qs.length:=by omega
   have hq:qs[i]?=some qs[i]:=List.getElem?_eq_getElem hlt
   generalize qs[i]=q at hq
   have hcs:(qs.map (·.2))[(k - 1).toNat]?=some q.2:=by rw [hi,Int.toNat_natCast,List.getElem?_map,hq];rfl
   rw [hcs] at h1 h2
   dsimp only at h1 h2
   rw [ZR (n:=k - 1) (by omega) (by omega)]
   refine Zh (Zjk hn.cells rfl (ZzB hn hq hi fun b hb=>⟨_,hn.cell hq hb (m:=7) (by omega) rfl,Zx ⟨fun cb=>Za ?_,fun cb=>Zh (Zjk hn.cells rfl (ZzB hn hq hi fun b hb=>Za ?_))⟩⟩))
   ·rw [if_pos cb] at h1;exact h1 (by decide)
   ·rw [if_neg (by rw [cb];simp)] at h2
    exact h2 i j q b rfl (by omega) hj (by omega) (by omega) hq hb
theorem ZwW {j:Nat} {e:Int} (he:e=(j:Int)) (hj:j<2) {K:Nat→Prop} (hk:K j):Zxw 2 e K:=by
  subst he
  exact ⟨by omega,by omega,by simpa using hk⟩
def wrI (cs:List Cn) (i j:Nat) (b:List UInt8):Int × List Cn:=match cs[i]? with
  | none=>(0,cs)
  | some c=>if (c.side j).x then (51,cs) else if (c.side j).way.length+b.length>65536 then (3,cs) else (0,cs.set i (c.putS j ((c.side j).put 0 ((c.side j).way++b))))
def wrS (cs:List Cn) (k e:Int) (b:List UInt8):Int × List Cn:=if ZgL cs k e 0≠0 then (ZgL cs k e 0,cs) else wrI cs (k - 1).toNat e.toNat b
theorem Upd.of_blk {T:Nat→Option Nat} {h h':Zb} {x:Sl} {tag:Nat} {l:List UInt8} (hr:ZgM h T x tag l) (hu:Upd (fun k=>x.blk=some k) h h'):Upd (fun k=>T k=some tag) h h':=hu.mono fun k _ hk=>hr.tag k hk
theorem ZkP {h:Zb} {T:Nat→Option Nat} {nb:Nat} {ps:Int→Bool} {cs:List Cn} (hn:Net h T nb ps cs) {k e:Int} {b:Sl} {l:List UInt8} (hb:Bytes h b l) (hb2:l.length≤1099511627776) (hw:∀ c j,c∈cs→j<2→(c.side j).way.length≤65536) {K:Int→Zb→Prop}
    (hk:∀ h' T',Net h' T' nb ps (wrS cs k e l).2→Stp T T' h h'→K (wrS cs k e l).1 h'):Xp (some ⟨nb,0,none⟩) k e b K h:=by
  obtain ⟨mb,s,qs,hn,rfl⟩:=hn
  unfold Xp Zdx
  unfold wrS at hk
  have hbl:=Bytes.length hb
  have hbc:=hb.cap
  have hbb:=hb.big
  refine Za (ZdD hn (fun he=>Za (ZaS (by simpa using he) (Za ?_))) (fun i j q b' he hk' hj hj2 _ hq hb'=>Za (XE rfl ?_)))
  ·rw [if_pos he] at hk
   exact hk h T ⟨mb,s,qs,hn,rfl⟩ (Stp.refl _ _)
  ·rw [if_neg (by rw [he];simp)] at hk
   have ei:(k - 1).toNat=i:=by omega
   have ej:e.toNat=j:=by omega
   rw [ei,ej] at hk
   unfold wrI at hk
   have hcs:(qs.map (·.2))[i]?=some q.2:=by rw [List.getElem?_map,hq];rfl
   rw [hcs] at hk
   dsimp only at hk
   have hqr:=(hn.each i q hq).get hj2 (c:=0) (by omega)
   have hway:=hw q.2 j (List.mem_map.2 ⟨q,List.mem_of_getElem? hq,rfl⟩) hj2
   have hrl:(q.1.get j 0).len=(q.2.side j).way.length:=Bytes.length hqr.own.row
   refine Zh (ZwW hj hj2 ⟨_,by rw [Nat.add_assoc];exact hn.cell hq hb' (by omega) (ZrN q hj2),Zx ⟨fun cx=>Za ?_,fun cx=>?_⟩⟩)
   ·rw [if_pos cx] at hk
    exact hk h T ⟨mb,s,qs,hn,rfl⟩ (Stp.refl _ _)
   ·rw [if_neg (by rw [cx];simp)] at hk
    have hc0:=hn.cell hq hb' (m:=j*3+0) (by omega) (Zi5 q hj2 (by omega:0<2))
    refine ⟨q.1.get j 0,hc0,?_⟩
    dsimp only
    by_cases hbig2:(q.2.side j).way.length+l.length>65536
    ·rw [ZR (by omega) (by omega)]
     refine Zx (ZaS (decide_eq_true (by omega)) (Za ?_))
     rw [if_pos hbig2] at hk
     exact hk h T ⟨mb,s,qs,hn,rfl⟩ (Stp.refl _ _)
    ·rw [ZR (by omega) (by omega)]
     refine Zx (XE (decide_eq_false (by omega)) ⟨q.1.get j 0,hc0,?_⟩)
     rw [if_neg hbig2] at hk
     refine hb.rd (Own.app hqr.own (by simp [hbl]) (by simp [List.all_map,Function.comp_def,bv,Zv]) rfl (by omega) (by omega) (Nat.zero_le _) fun x h14 ho hl hu hblk=>?_)
     rw [← List.map_append] at ho
     refine hn.setRow hq hj2 (c:=0) (by omega) ho (fun k hk=>?_) (Upd.of_blk hqr hu) hb' fun h2 T' hn2 hst _ _=>Za ?_
     ·rcases hblk with e1 | e1
      ·rw [e1] at hk;exact .inl (hqr.tag k hk)
      ·rw [e1] at hk;exact .inr (by have:=Option.some.inj hk;omega)
     ·refine hk h2 T' ⟨mb,s,_,hn2,?_⟩ hst
      rw [List.map_set]
      rfl
theorem ZeD.setCell {h:Zb} {T:Nat→Option Nat} {nb mb:Nat} {s:Sl} {ps:Int→Bool} {qs:List Q} (hn:ZeD h T nb mb s ps qs) {i:Nat} {q q':Q} (hq:qs[i]?=some q) {m:Nat} (hm:m<8) {v:Value} (hv:Zv v=true)
    (hC:qC q'=(qC q).set m v) (hQ:QR h T i q') {b:Nat} (hb:s.blk=some b) {K:Zb→Prop}
    (hfin:∀ h2,ZeD h2 T nb mb s ps (qs.set i q')→Stp T T h h2→K h2):st h b (i*8+m) v K:=by
  have hlt:i<qs.length:=by
    rcases Nat.lt_or_ge i qs.length with h9 | h9
    ·exact h9
    ·rw [List.getElem?_eq_none h9] at hq;cases hq
  refine Own.stCell hn.row hb (by rw [Z7 ZdI];omega) hv fun h2 o2 u2 z2=>?_
  rw [ZiI ZdI qs i m v q q' hq hm hC] at o2
  have hbT:T b=some 2:=hn.tr b hb
  have u2':Upd (· = b) h h2:=u2.mono fun k _ hk=>by rw [hb] at hk;exact (Option.some.inj hk).symm
  have old:∀ k,k<h.size→k≠b→h2[k]?=h[k]?:=fun k hk h2=>u2'.old k hk h2
  have mv:∀ {i':Nat} {r:Q},QR h T i' r→QR h2 T i' r:=fun {i' r} hr=>by
    obtain ⟨a1,a2,a3,a4⟩:=hr
    have g:∀ {tag k:Nat},2<tag→T k=some tag→k≠b:=fun {tag k} ht hk he=>by
      subst he
      rw [hbT] at hk
      have:=Option.some.inj hk
      omega
    exact ⟨a1.congr fun k hk hl=>old k hl (g (by omega) hk),a2.congr fun k hk hl=>old k hl (g (by omega) hk),a3.congr fun k hk hl=>old k hl (g (by omega) hk),a4.congr fun k hk hl=>old k hl (g (by omega) hk)⟩
  refine hfin h2 ⟨?_,hn.tn,?_,hn.tm,o2,hn.tr,fun i' r hr=>?_,fun k hk=>by have:=hn.lt k hk;omega⟩ ⟨u2'.mono fun k _ hk=>by subst hk;show T k≠none;rw [hbT];simp,fun k hk=> .inl hk⟩
  ·rw [old nb (Xl hn.cells) (by rintro rfl;rw [hn.tn] at hbT;cases hbT)]
   exact hn.cells
  ·obtain ⟨es,cl,hp,hr⟩:=hn.ports
   exact ⟨es,cl,by rw [old mb (Xl hp) (by rintro rfl;rw [hn.tm] at hbT;cases hbT)];exact hp,hr⟩
  ·by_cases hii:i'=i
   ·subst hii
    rw [List.getElem?_set_self hlt] at hr
    cases hr
    exact mv hQ
   ·rw [List.getElem?_set_ne (Ne.symm hii)] at hr
    exact mv (hn.each i' r hr)
def mvI (cs:List Cn) (i j:Nat) (m:Nat):(Int × Int) × List Cn:=match cs[i]? with
  | none=>((0,0),cs)
  | some c=>(((min m (c.side j).way.length:Nat),0),cs.set i (c.putS j ⟨(c.side j).way.drop (min m (c.side j).way.length),(c.side j).come++(c.side j).way.take (min m (c.side j).way.length),(c.side j).x⟩))
def mvS (cs:List Cn) (k e most:Int):(Int × Int) × List Cn:=if ZgL cs k e most≠0 then ((0,ZgL cs k e most),cs) else mvI cs (k - 1).toNat e.toNat most.toNat
theorem ZwI (q:Q) {j:Nat} (hj:j<2) (x:Sl) (l:List UInt8):(Q.put q j 1 x l).1.get j 0=q.1.get j 0∧((Q.put q j 1 x l).2.side j).get 0=(q.2.side j).way:=by
  rcases two j hj with rfl | rfl<;>exact ⟨rfl,rfl⟩
theorem ZwG (q:Q) {j:Nat} (hj:j<2) (x y:Sl) (l m:List UInt8):(Q.put (Q.put q j 1 x l) j 0 y m).2=q.2.putS j ⟨m,l,(q.2.side j).x⟩:=by
  rcases two j hj with rfl | rfl<;>rfl
theorem ZwH (q:Q) {j:Nat} (hj:j<2) (x:Sl) (l:List UInt8):(Q.put q j 1 x l).2=q.2.putS j ⟨(q.2.side j).way,l,(q.2.side j).x⟩:=by
  rcases two j hj with rfl | rfl<;>rfl
theorem Zs4 {h:Zb} {T:Nat→Option Nat} {nb:Nat} {ps:Int→Bool} {cs:List Cn} (hn:Net h T nb ps cs) {k e most:Int} (hw:∀ c j,c∈cs→j<2→(c.side j).way.length≤65536∧(c.side j).come.length≤1099511627776) {K:Int→Int→Zb→Prop}
    (hk:∀ h' T',Net h' T' nb ps (mvS cs k e most).2→Stp T T' h h'→K (mvS cs k e most).1.1 (mvS cs k e most).1.2 h'):Zba (some ⟨nb,0,none⟩) k e most K h:=by
  obtain ⟨mb,s,qs,hn,rfl⟩:=hn
  unfold Zba ZdS
  unfold mvS at hk
  refine Za (Za (ZdD hn (fun he=>Za (ZaS (by simpa using he) (Za (Za ?_)))) (fun i j q b' he hk' hj hj2 hm0 hq hb'=>Za (XE rfl ?_))))
  ·rw [if_pos he] at hk
   exact hk h T ⟨mb,s,qs,hn,rfl⟩ (Stp.refl _ _)
  ·rw [if_neg (by rw [he];simp)] at hk
   have ei:(k - 1).toNat=i:=by omega
   have ej:e.toNat=j:=by omega
   rw [ei,ej] at hk
   unfold mvI at hk
   have hcs:(qs.map (·.2))[i]?=some q.2:=by rw [List.getElem?_map,hq];rfl
   rw [hcs] at hk
   dsimp only at hk
   have hlt:i<qs.length:=by
     rcases Nat.lt_or_ge i qs.length with h9 | h9
     ·exact h9
     ·rw [List.getElem?_eq_none h9] at hq;cases hq
   have hqw:=(hn.each i q hq).get hj2 (c:=0) (by omega)
   have hqc:=(hn.each i q hq).get hj2 (c:=1) (by omega)
   have hway:=hw q.2 j (List.mem_map.2 ⟨q,List.mem_of_getElem? hq,rfl⟩) hj2
   have hrl:(q.1.get j 0).len=(q.2.side j).way.length:=Bytes.length hqw.own.row
   have hcl:(q.1.get j 1).len=(q.2.side j).come.length:=Bytes.length hqc.own.row
   have hwc:=hqw.own.cap
   have hc0:=hn.cell hq hb' (m:=j*3+0) (by omega) (Zi5 q hj2 (by omega:0<2))
   have hc1:=hn.cell hq hb' (m:=j*3+1) (by omega) (Zi5 q hj2 (by omega:1<2))
   have hmin:Zjf most ((q.1.get j 0).len:Int)=((min most.toNat (q.2.side j).way.length:Nat):Int):=by
     unfold Zjf
     rw [hrl]
     split<;>omega
   generalize hmm:min most.toNat (q.2.side j).way.length=m at hk hmin
   have hm1:m≤(q.2.side j).way.length:=by omega
   refine Zh (ZwW hj hj2 ⟨q.1.get j 0,hc0,Za ?_⟩)
   rw [hmin]
   refine ⟨q.1.get j 1,by rw [Nat.add_assoc];exact hc1,q.1.get j 0,hc0,?_⟩
   refine Row.slc hqw.own.row (a:=0) (b:=m) (m:=(q.1.get j 0).cap) rfl rfl rfl (Nat.zero_le _) (by omega) (by omega) (Nat.le_refl _) fun t10 ht10 hl10 _ _=>?_
   rw [List.drop_zero,Nat.sub_zero,← List.map_take] at ht10
   have hnl:((q.2.side j).way.take m).length=m:=by rw [List.length_take];omega
   refine ht10.rd (Own.app hqc.own (by simp only [List.length_map];show ((q.2.side j).way.take m).length=_;omega) (Zvz _) rfl (by omega) (by omega) (Nat.zero_le _) fun x h12 ho hl hu hblk=>?_)
   rw [← List.map_append] at ho
   have hu':=Upd.of_blk hqc hu
   have hbT:T b'=some 2:=hn.tr b' hb'
   have hold:h12[b']?=h[b']?:=hu'.old b' (hn.lt b' (by rw [hbT];simp)) (by rw [hbT];simp only [Option.some.injEq];omega)
   refine ⟨⟨by rw [Zh5 hold];exact hc0,trivial⟩,?_⟩
   rw [Nat.add_assoc (i*8) (j*3) 1]
   refine hn.setRow hq hj2 (c:=1) (by omega) ho (fun k hk=>?_) hu' hb' fun h13 T1 hn1 hst1 _ _=>?_
   ·rcases hblk with e1 | e1
    ·rw [e1] at hk;exact .inl (hqc.tag k hk)
    ·rw [e1] at hk;exact .inr (by have:=Option.some.inj hk;omega)
   ·obtain ⟨g1,g2⟩:=ZwI q hj2 x ((q.2.side j).get 1++(q.2.side j).way.take m)
    have hq1:(qs.set i (Q.put q j 1 x ((q.2.side j).get 1++(q.2.side j).way.take m)))[i]?=some (Q.put q j 1 x ((q.2.side j).get 1++(q.2.side j).way.take m)):=List.getElem?_set_self hlt
    have hqw1:=(hn1.each i _ hq1).get hj2 (c:=0) (by omega)
    rw [g1,g2] at hqw1
    have hc01:=hn1.cell hq1 hb' (m:=j*3+0) (by omega) (Zi5 _ hj2 (by omega:0<2))
    rw [g1] at hc01
    refine ⟨q.1.get j 0,hc01,?_⟩
    refine Row.slc hqw1.own.row (a:=m) (b:=(q.1.get j 0).len) (m:=(q.1.get j 0).cap) rfl rfl rfl (by omega) (Nat.le_refl _) (by omega) (Nat.le_refl _) fun t15 ht15 hl15 _ _=>?_
    rw [← List.map_drop,← List.map_take,List.take_of_length_le (by rw [List.length_drop];omega)] at ht15
    refine Zep ht15 (by rw [List.length_drop];omega) fun t16 h17 ho16 e17=>?_
    refine hn1.setRow hq1 hj2 (c:=0) (by omega) (ho16.base (Nat.zero_le _)) (fun k hk=> .inr (ho16.lt hk).1) (e17.upd _) hb' fun h18 T2 hn2 hst2 _ _=>Za (Za ?_)
    refine hk h18 T2 ⟨mb,s,_,hn2,?_⟩ (hst1.trans hst2)
    rw [List.set_set,List.map_set,ZwG q hj2]
    rfl
def rdI (cs:List Cn) (i j:Nat) (m:Nat):(List UInt8 × Bool × Int) × List Cn:=match cs[i]? with
  | none=>(([],false,0),cs)
  | some c=>(((c.side j).come.take (min m (c.side j).come.length),((c.side j).x&&((c.side j).way.length ==0&&((c.side j).come.drop (min m (c.side j).come.length)).length ==0)),0),
      cs.set i (c.putS j ⟨(c.side j).way,(c.side j).come.drop (min m (c.side j).come.length),(c.side j).x⟩))
def ZrJ (cs:List Cn) (k e most:Int):(List UInt8 × Bool × Int) × List Cn:=if ZgL cs k e most≠0 then (([],false,ZgL cs k e most),cs) else rdI cs (k - 1).toNat (1 - e.toNat) most.toNat
theorem Zs1 {h:Zb} {T:Nat→Option Nat} {nb:Nat} {ps:Int→Bool} {cs:List Cn} (hn:Net h T nb ps cs) {k e most:Int} (hw:∀ c j,c∈cs→j<2→(c.side j).way.length≤65536∧(c.side j).come.length≤1099511627776) {K:Sl→Bool→Int→Zb→Prop}
    (hk:∀ out h' T',Net h' T' nb ps (ZrJ cs k e most).2→Stp T T' h h'→Own h' h.size out 1 ((ZrJ cs k e most).1.1.map bv)→(∀ k,out.blk=some k→T' k=none)→K out (ZrJ cs k e most).1.2.1 (ZrJ cs k e most).1.2.2 h'):Za9 (some ⟨nb,0,none⟩) k e most K h:=by
  obtain ⟨mb,s,qs,hn,rfl⟩:=hn
  unfold Za9 ZdR
  unfold ZrJ at hk
  refine Za (ZdD hn (fun he=>Za (ZaS (by simpa using he) (Za ?_))) (fun i j0 q b' he hk' hj hj2 hm0 hq hb'=>Za (XE rfl ?_)))
  ·rw [if_pos he] at hk
   exact hk ⟨none,0,0⟩ h T ⟨mb,s,qs,hn,rfl⟩ (Stp.refl _ _) (Own.nil _ _ 1) (fun k hk=>by simp [Sl.blk] at hk)
  ·rw [if_neg (by rw [he];simp)] at hk
   have ei:(k - 1).toNat=i:=by omega
   have ej:e.toNat=j0:=by omega
   rw [ei,ej] at hk
   have hwr:IntKind.wrap .i64 ((1:Int) - e)=((1 - j0:Nat):Int):=by rw [ZR (by omega) (by omega)];omega
   have hj3:1 - j0<2:=by omega
   generalize 1 - j0=j at hk hwr hj3
   unfold rdI at hk
   have hcs:(qs.map (·.2))[i]?=some q.2:=by rw [List.getElem?_map,hq];rfl
   rw [hcs] at hk
   dsimp only at hk
   have hlt:i<qs.length:=by
     rcases Nat.lt_or_ge i qs.length with h9 | h9
     ·exact h9
     ·rw [List.getElem?_eq_none h9] at hq;cases hq
   have hqc:=(hn.each i q hq).get hj3 (c:=1) (by omega)
   have hway:=hw q.2 j (List.mem_map.2 ⟨q,List.mem_of_getElem? hq,rfl⟩) hj3
   have hcl:(q.1.get j 1).len=(q.2.side j).come.length:=Bytes.length hqc.own.row
   have hwc:=hqc.own.cap
   have hc1:=hn.cell hq hb' (m:=j*3+1) (by omega) (Zi5 q hj3 (by omega:1<2))
   have hmin:Zjf most ((q.1.get j 1).len:Int)=((min most.toNat (q.2.side j).come.length:Nat):Int):=by
     unfold Zjf
     rw [hcl]
     split<;>omega
   generalize hmm:min most.toNat (q.2.side j).come.length=m at hk hmin
   have hm1:m≤(q.2.side j).come.length:=by omega
   have hqo:Bytes h (q.1.get j 1) (q.2.side j).come:=hqc.own.row
   refine Zh (ZwW hwr hj3 ⟨q.1.get j 1,by rw [Nat.add_assoc];exact hc1,Za ?_⟩)
   rw [hmin,Nat.add_assoc (i*8) (j*3) 1]
   refine ⟨q.1.get j 1,hc1,?_⟩
   refine Row.slc hqo (a:=0) (b:=m) (m:=(q.1.get j 1).cap) rfl rfl rfl (Nat.zero_le _) (by omega) (by omega) (Nat.le_refl _) fun t7 ht7 hl7 _ _=>?_
   rw [List.drop_zero,Nat.sub_zero,← List.map_take] at ht7
   refine Zep ht7 (by rw [List.length_take];omega) fun t8 h9 ho8 e9=>?_
   have hc19:h9.cell b' (i*8+(j*3+1))=some (slV (q.1.get j 1)):=by rw [Zh5 (e9.old b' (Zn9 hc1))];exact hc1
   refine ⟨q.1.get j 1,hc19,?_⟩
   refine Row.slc (hqo.ext e9) (a:=m) (b:=(q.1.get j 1).len) (m:=(q.1.get j 1).cap) rfl rfl rfl (by omega) (Nat.le_refl _) (by omega) (Nat.le_refl _) fun t11 ht11 hl11 _ _=>?_
   rw [← List.map_drop,← List.map_take,List.take_of_length_le (by rw [List.length_drop];omega)] at ht11
   refine Zep ht11 (by rw [List.length_drop];omega) fun t12 h13 ho12 e13=>?_
   have z9:=e9.size
   have z13:=e13.size
   refine hn.setRow hq hj3 (c:=1) (by omega) (ho12.base (Nat.zero_le _)) (fun k hk=> .inr (by have:=(ho12.lt hk).1;omega)) ((e9.trans e13).upd _) hb' fun h14 T' hn2 hst hT u14=>?_
   have hq1:(qs.set i (Q.put q j 1 t12 ((q.2.side j).come.drop m)))[i]?=some (Q.put q j 1 t12 ((q.2.side j).come.drop m)):=List.getElem?_set_self hlt
   have hcx:=hn2.cell hq1 hb' (m:=j*3+2) (by omega) (ZrN _ hj3)
   have hcw:=hn2.cell hq1 hb' (m:=j*3+0) (by omega) (Zi5 _ hj3 (by omega:0<2))
   have hcc:=hn2.cell hq1 hb' (m:=j*3+1) (by omega) (Zi5 _ hj3 (by omega:1<2))
   have hrw:=((hn2.each i _ hq1).get hj3 (c:=0) (by omega)).own.row
   have hrc:=((hn2.each i _ hq1).get hj3 (c:=1) (by omega)).own.row
   have p1:((Q.put q j 1 t12 ((q.2.side j).come.drop m)).2.side j)=⟨(q.2.side j).way,(q.2.side j).come.drop m,(q.2.side j).x⟩:=by
     rcases two j hj3 with rfl | rfl<;>rfl
   rw [p1] at hcx hrw hrc
   have lw:=Bytes.length hrw
   have lc:=Bytes.length hrc
   have hbT:T b'=some 2:=hn.tr b' hb'
   have hblt:=hn.lt b' (by rw [hbT];simp)
   have done:=hk t8 h14 T' ⟨mb,s,_,hn2,by rw [List.map_set,ZwH q hj3]⟩ hst ((ho8.congr fun k _ hl _=>e13.old k hl).congr fun k hk hl hge=>u14.old k hl (by omega)) (fun k hk=>by
     have a:=ho8.lt hk
     rw [hT k fun he=>by have:=(ho12.lt he).1;omega]
     rcases hTk:T k with _ | t
     ·rfl
     ·have:=hn.lt k (by rw [hTk];simp);omega)
   refine ⟨(q.2.side j).x,by rw [Nat.add_assoc];exact hcx,⟨fun cx=>?_,fun cx=>Za ?_⟩⟩
   ·refine ⟨_,hcw,⟨fun c0=>⟨_,hcc,Zx (Za ?_)⟩,fun c0=>Za ?_⟩⟩
    ·have e1:(q.2.side j).way.length=0:=by rw [lw] at c0;simpa [ZjR.get] using c0
     have e2:((((Q.put q j 1 t12 ((q.2.side j).come.drop m)).1.get j 1).len:Int) ==0)=(((q.2.side j).come.drop m).length ==0):=by
       rw [lc]
       show ((((q.2.side j).come.drop m).length:Int) ==0)=_
       rw [Bool.eq_iff_iff]
       simp only [beq_iff_eq]
       omega
     rw [e2]
     rw [cx,e1] at done
     simpa using done
    ·have e1:((q.2.side j).way.length ==0)=false:=by
       rw [lw] at c0
       have:((((q.2.side j).way.length:Nat):Int) ==0)=false:=c0
       rw [beq_eq_false_iff_ne] at this ⊢
       omega
     rw [e1] at done
     simpa using done
   ·rw [cx] at done
    simpa using done
abbrev ZuI:=Option (Nat × Value)
theorem Zg8.isKey {es:Array MapEntry} {ps:Int→Bool} (hk:Zg8 es ps):∀ x,x∈es.toList→MapKept.IsKey (.int .i64) x.key:=fun x hx=>by
  obtain ⟨n,e,_⟩:=hk.key x hx
  rw [e]
  rfl
theorem Zg8.find {es:Array MapEntry} {ps:Int→Bool} (hk:Zg8 es ps) (n:Int):∃ r:ZuI,Instr.findNow (.int .i64) (iv n) es.toList 0=some r ∧
    ((ps n=false∧r=none)∨(ps n=true∧∃ j e,r=some (j,.bool true)∧es.toList[j]?=some e∧e.key=iv n)):=by
  rcases MapKept.findNow_spec (d:= .int .i64) (k:=iv n) rfl es.toList 0 hk.isKey with ⟨h1,h2⟩ | ⟨j,e,h1,h2,h3⟩
  ·refine ⟨none,h1,.inl ⟨?_,rfl⟩⟩
   cases hp:ps n with
   | false=>rfl
   | true =>
     obtain ⟨x,hx,hxk⟩:=(hk.has n).1 hp
     exact absurd hxk (h2 x hx)
  ·have hm:=List.mem_of_getElem? h2
   obtain ⟨m,_,hv⟩:=hk.key e hm
   rw [Nat.zero_add,hv] at h1
   exact ⟨_,h1,.inr ⟨(hk.has n).2 ⟨e,hm,h3⟩,j,e,rfl,h2,h3⟩⟩
theorem Zg8.get {es:Array MapEntry} {ps:Int→Bool} (hk:Zg8 es ps) (n:Int):∃ r:ZuI,Instr.findNow (.int .i64) (iv n) es.toList 0=some r∧(r.map (·.2)).getD (.bool false) = .bool (ps n):=by
  obtain ⟨r,h,⟨hp,rfl⟩ | ⟨hp,j,e,rfl,_⟩⟩:=hk.find n
  ·exact ⟨_,h,by rw [hp];rfl⟩
  ·exact ⟨_,h,by rw [hp];rfl⟩
theorem Zg8.put {es:Array MapEntry} {ps:Int→Bool} (hk:Zg8 es ps) (n:Int) (c:Nat):∃ r:ZuI,Instr.findNow (.int .i64) (iv n) es.toList 0=some r∧∃ es' c',Zxt es c (iv n) (.bool true) r = .map es' c'∧Zg8 es' (fun m=>ps m||m ==n):=by
  obtain ⟨r,h,⟨hp,rfl⟩ | ⟨hp,j,e,rfl,hj,hje⟩⟩:=hk.find n
  ·refine ⟨_,h,_,_,rfl,⟨fun x hx=>?_,?_,fun m=>?_⟩⟩
   ·simp only [Array.toList_push,List.mem_append,List.mem_singleton] at hx
    rcases hx with hx | rfl
    ·exact hk.key x hx
    ·exact ⟨n,rfl,rfl⟩
   ·rw [Array.toList_push,List.pairwise_append]
    refine ⟨hk.apart,List.pairwise_singleton _ _,fun x hx y hy=>?_⟩
    have:y=_:=List.mem_singleton.1 hy
    subst this
    intro he
    have:ps n=true:=(hk.has n).2 ⟨x,hx,he⟩
    rw [hp] at this;cases this
   ·simp only [Array.toList_push,List.mem_append,List.mem_singleton,Bool.or_eq_true,beq_iff_eq,hk.has m]
    constructor
    ·rintro (⟨x,hx,hxk⟩ | rfl)
     ·exact ⟨x,.inl hx,hxk⟩
     ·exact ⟨_,.inr rfl,rfl⟩
    ·rintro ⟨x,hx | rfl,hxk⟩
     ·exact .inl ⟨x,hx,hxk⟩
     ·exact .inr (by cases hxk;rfl)
  ·have hm:=List.mem_of_getElem? hj
   obtain ⟨m0,_,hv⟩:=hk.key e hm
   have he:(es.modify j fun x=>{ x with key:=iv n,val:= .bool true })=es:=by
     apply Array.ext_getElem?
     intro i
     rw [Array.getElem?_modify]
     by_cases hi:j=i
     ·subst hi
      rw [if_pos rfl]
      have:es[j]?=some e:=by simpa using hj
      rw [this]
      show some _=some e
      obtain ⟨k0,v0,b0⟩:=e
      simp only at hje hv
      subst hje hv
      rfl
     ·rw [if_neg hi]
   refine ⟨_,h,es,c,by show Obj.map _ _=_;rw [he],⟨hk.key,hk.apart,fun m=>?_⟩⟩
   rw [← hk.has m]
   by_cases hmn:m=n
   ·subst hmn;simp [hp]
   ·simp [hmn]
theorem Zg8.del {es:Array MapEntry} {ps:Int→Bool} (hk:Zg8 es ps) (n:Int) (c:Nat):∃ r:ZuI,Instr.findNow (.int .i64) (iv n) es.toList 0=some r∧∃ es' c',ZAm es c r = .map es' c'∧Zg8 es' (fun m=>ps m&&m !=n):=by
  obtain ⟨r,h,⟨hp,rfl⟩ | ⟨hp,j,e,rfl,hj,hje⟩⟩:=hk.find n
  ·refine ⟨_,h,es,c,rfl,⟨hk.key,hk.apart,fun m=>?_⟩⟩
   rw [← hk.has m]
   by_cases hmn:m=n
   ·subst hmn;simp [hp]
   ·simp [hmn]
  ·have hlt:j<es.toList.length:=by
     rcases Nat.lt_or_ge j es.toList.length with h9 | h9
     ·exact h9
     ·rw [List.getElem?_eq_none h9] at hj;cases hj
   have he:(es.eraseIdxIfInBounds j).toList=es.toList.eraseIdx j:=by
     unfold Array.eraseIdxIfInBounds
     rw [dif_pos (by simpa using hlt)]
     simp
   have hs:(es.eraseIdxIfInBounds j).toList.Sublist es.toList:=by rw [he];exact List.eraseIdx_sublist _ _
   refine ⟨_,h,es.eraseIdxIfInBounds j,c,rfl,⟨fun x hx=>hk.key x (hs.subset hx),hk.apart.sublist hs,fun m=>?_⟩⟩
   have hj9:es.toList[j]=e:=by rw [List.getElem?_eq_getElem hlt] at hj;exact Option.some.inj hj
   have hap:=List.pairwise_iff_getElem.1 hk.apart
   have mem:∀ x,x∈es.toList.eraseIdx j↔x∈es.toList∧x.key≠iv n:=fun x=>by
     constructor
     ·intro hx
      obtain ⟨i,hne,hi⟩:=List.mem_eraseIdx_iff_getElem?.1 hx
      refine ⟨List.mem_of_getElem? hi,fun hxk=>?_⟩
      have hil:i<es.toList.length:=by
        rcases Nat.lt_or_ge i es.toList.length with h9 | h9
        ·exact h9
        ·rw [List.getElem?_eq_none h9] at hi;cases hi
      have hi9:es.toList[i]=x:=by rw [List.getElem?_eq_getElem hil] at hi;exact Option.some.inj hi
      rcases Nat.lt_or_ge i j with h9 | h9
      ·exact hap i j hil hlt h9 (by rw [hi9,hj9,hxk,hje])
      ·exact hap j i hlt hil (by omega) (by rw [hi9,hj9,hxk,hje])
     ·rintro ⟨hx,hxk⟩
      obtain ⟨i,hil,hi⟩:=List.mem_iff_getElem.1 hx
      refine List.mem_eraseIdx_iff_getElem?.2 ⟨i,fun hij=>?_,by rw [List.getElem?_eq_getElem hil,hi]⟩
      subst hij
      rw [hj9] at hi
      subst hi
      exact hxk hje
   rw [he]
   simp only [Bool.and_eq_true,bne_iff_ne,hk.has m]
   constructor
   ·rintro ⟨⟨x,hx,hxk⟩,hne⟩
    exact ⟨x,(mem x).2 ⟨hx,fun h9=>hne (by rw [hxk] at h9;cases h9;rfl)⟩,hxk⟩
   ·rintro ⟨x,hx,hxk⟩
    obtain ⟨h8,h9⟩:=(mem x).1 hx
    exact ⟨⟨x,h8,hxk⟩,fun he9=>h9 (by rw [hxk,he9])⟩
theorem setMap {h:Zb} {mb:Nat} {x y:Obj} (hb:h[mb]?=some x):(h.setIfInBounds mb y)[mb]?=some y∧Upd (· = mb) h (h.setIfInBounds mb y)∧(h.setIfInBounds mb y).size=h.size:=by
  have hl:=Xl hb
  refine ⟨by simp [hl],⟨by simp,fun k _ hk=>?_⟩,by simp⟩
  rw [Array.getElem?_setIfInBounds_ne (Ne.symm hk)]
theorem Xu.put {h:Zb} {mb:Nat} {ps:Int→Bool} (hp:Xu h mb ps) (n:Int) {K:Zb→Prop} (hk:∀ h',Xu h' mb (fun m=>ps m||m ==n)→Upd (· = mb) h h'→h'.size=h.size→K h'):X9 (.int .i64) h (some mb) (iv n) (.bool true) K:=by
  obtain ⟨es,c,hb,hks⟩:=hp
  obtain ⟨r,hr,es',c',ho,hks'⟩:=hks.put n c
  obtain ⟨a,b,d⟩:=setMap (y:=Zxt es c (iv n) (.bool true) r) hb
  exact ⟨mb,es,c,r,rfl,hb,hks.isKey,hr,hk _ ⟨es',c',by rw [a,ho],hks'⟩ b d⟩
theorem Xu.del {h:Zb} {mb:Nat} {ps:Int→Bool} (hp:Xu h mb ps) (n:Int) {K:Zb→Prop} (hk:∀ h',Xu h' mb (fun m=>ps m&&m !=n)→Upd (· = mb) h h'→h'.size=h.size→K h'):Zgb (.int .i64) h (some mb) (iv n) K:=by
  obtain ⟨es,c,hb,hks⟩:=hp
  obtain ⟨r,hr,es',c',ho,hks'⟩:=hks.del n c
  obtain ⟨a,b,d⟩:=setMap (y:=ZAm es c r) hb
  refine ⟨(fun h=>by cases h),fun m hm=>?_⟩
  cases hm
  exact ⟨es,c,r,hb,hr,hk _ ⟨es',c',by rw [a,ho],hks'⟩ b d⟩
theorem Xu.get {h:Zb} {mb:Nat} {ps:Int→Bool} (hp:Xu h mb ps) (n:Int) {K:Bool→Prop} (hk:K (ps n)):XF (.int .i64) h (some mb) (iv n) fun r=>asB (r.getD (.bool false)) K:=by
  obtain ⟨es,c,hb,hks⟩:=hp
  obtain ⟨r,hr,hv⟩:=hks.get n
  refine ⟨(fun h=>by cases h),fun m hm=>?_⟩
  cases hm
  exact ⟨es,c,r,hb,hr,ps n,hv,hk⟩
theorem Xu.new (h:Zb):Xu (h.push (.map #[] 0)) h.size (fun _=>false):=⟨#[],0,Zeg,⟨by simp,by simp,by simp⟩⟩
theorem ZlL {h:Zb} {K:Option Addr→Zb→Prop} (hk:∀ h' T,Net h' T (h.size+1) (fun _=>false) []→Ext h h'→(∀ k,T k≠none→h.size≤k)→K (some ⟨h.size+1,0,none⟩) h'):Zd3 K h:=by
  unfold Zd3 Zge
  have hp:=Xu.new h
  have e1:=Ext.push h (.map #[] 0)
  have z1:(h.push (.map #[] 0)).size=h.size+1:=by simp
  unfold Zci
  dsimp only
  generalize h.push (.map #[] 0)=h1 at hp e1 z1
  refine Za1 fun h2 c2 e2 z2=>?_
  rw [z1] at c2 ⊢
  refine hk h2 (fun k=>if k=h.size+1 then some 0 else if k=h.size then some 1 else none) ⟨h.size,⟨none,0,0⟩,[],⟨c2,by simp,?_,by simp,Own.nil _ _ 8,fun k hk=>by simp [Sl.blk] at hk,fun i q hq=>by simp at hq,fun k hk=>?_⟩,rfl⟩ (e1.trans e2) fun k hk=>?_
  ·obtain ⟨es,c,hb,hr⟩:=hp
   exact ⟨es,c,Xi hb e2,hr⟩
  ·by_cases q1:k=h.size+1
   ·omega
   ·by_cases q2:k=h.size
    ·omega
    ·rw [if_neg q1,if_neg q2] at hk;exact absurd rfl hk
  ·by_cases q1:k=h.size+1
   ·omega
   ·by_cases q2:k=h.size
    ·omega
    ·rw [if_neg q1,if_neg q2] at hk;exact absurd rfl hk
def Zux (p:Int):Bool:=decide (p<1)||decide (p>65535)
theorem Zp8 {p:Int} {K:Bool→Zb→Prop} {h:Zb} (hk:K (Zux p) h):Xo p K h:=by
  unfold Xo Zbt
  unfold Zux at hk
  refine ⟨fun e=>?_,fun e=>Zx ?_⟩
  ·rw [e] at hk;exact hk
  ·rw [e] at hk;exact hk
theorem Zon {s:Sl} {l:List Int} {h:Zb} {K:Int→Zb→Prop} (hs:ZiL h s l) (h1:l.any Zux=false→K (-1) h) (h2:∀ i:Nat,l.any Zux=true→K (i:Int) h):ZQ s K h:=by
  unfold ZQ Yi
  have hlen:=hs.length
  have hcap:=hs.cap
  have hbig:=hs.big
  refine Za (Yc (fun p h'=>h'=h∧∃ k:Nat,p.1=(k:Int)∧k≤l.length∧(l.take k).any Zux=false) (fun p _=>l.length - p.1.toNat) ⟨rfl,0,rfl,Nat.zero_le _,rfl⟩ ?_)
  rintro ⟨i,u⟩ h' ⟨rfl,k,hi,hkl,ht⟩
  dsimp only at hi
  subst hi
  dsimp only
  refine Zj (fun hlt=>Za ?_) (fun hge=>Za ?_)
  ·have hk1:k<l.length:=by omega
   have htk:l.take (k+1)=l.take k++[l[k]]:=List.take_succ_eq_append_getElem hk1
   refine ZiL.idx hs rfl (List.getElem?_eq_getElem hk1) (Zp8 ⟨fun e=>Za (h2 k ?_),fun e=>?_⟩)
   ·exact List.any_eq_true.2 ⟨l[k],List.getElem_mem hk1,e⟩
   ·rw [ZR (by omega) (by omega)]
    refine ⟨⟨rfl,k+1,by omega,by omega,?_⟩,by omega⟩
    rw [htk,List.any_append,ht]
    simpa using e
  ·rw [List.take_of_length_le (by omega)] at ht
   exact h1 ht
def Zj1 (l:List Int):Int:=if l.any Zux then 2 else 0
theorem ZjJ {nb:Nat} {s:Sl} {l:List Int} {h:Zb} {K:Int→Zb→Prop} (hs:ZiL h s l) (hk:K (Zj1 l) h):Ym (some ⟨nb,0,none⟩) s K h:=by
  unfold Ym ZbZ
  unfold Zj1 at hk
  refine Za (Zx (Zl ?_))
  unfold ZY Yd
  refine Zon hs (fun e=>Zx (Zx (XE (by decide) (Za ?_)))) (fun i e=>Zx (Zx (ZaS (decide_eq_true (by omega)) (Za ?_))))
  ·rw [if_neg (by rw [e];simp)] at hk;exact hk
  ·rw [if_pos e] at hk;exact hk
theorem ZeD.ports' {h h':Zb} {T:Nat→Option Nat} {nb mb:Nat} {s:Sl} {ps ps':Int→Bool} {qs:List Q} (hn:ZeD h T nb mb s ps qs) (hp:Xu h' mb ps') (hu:Upd (· = mb) h h'):ZeD h' T nb mb s ps' qs∧Stp T T h h':=by
  have g:∀ {k t:Nat},T k=some t→t≠1→k≠mb:=fun {k t} hk ht he=>by
    subst he
    rw [hn.tm] at hk
    exact ht (Option.some.inj hk).symm
  have mv:∀ {i':Nat} {r:Q},QR h T i' r→QR h' T i' r:=fun {i' r} hr=>by
    obtain ⟨a1,a2,a3,a4⟩:=hr
    exact ⟨a1.congr fun k hk hl=>hu.old k hl (g hk (by omega)),a2.congr fun k hk hl=>hu.old k hl (g hk (by omega)),a3.congr fun k hk hl=>hu.old k hl (g hk (by omega)),a4.congr fun k hk hl=>hu.old k hl (g hk (by omega))⟩
  refine ⟨⟨?_,hn.tn,hp,hn.tm,hn.row.congr fun k hk hl _=>hu.old k hl (g (hn.tr k hk) (by omega)),hn.tr,fun i q hq=>mv (hn.each i q hq),fun k hk=>Nat.lt_of_lt_of_le (hn.lt k hk) hu.size⟩,⟨hu.mono fun k _ hk=>by subst hk;show T k≠none;rw [hn.tm];simp,fun k hk=> .inl hk⟩⟩
  rw [hu.old nb (Xl hn.cells) (g hn.tn (by omega))]
  exact hn.cells
def addP (ps:Int→Bool) (l:List Int):Int→Bool:=l.foldl (fun ps n m=>ps m||m ==n) ps
def ZzI (ps:Int→Bool) (l:List Int):Int→Bool:=l.foldl (fun ps n m=>ps m&&m !=n) ps
def liP (ps:Int→Bool) (l:List Int):Int→Bool:=if Zj1 l=0 then addP ps l else ps
def spP (ps:Int→Bool) (l:List Int):Int→Bool:=if Zj1 l=0 then ZzI ps l else ps
theorem ZjP {h:Zb} {T:Nat→Option Nat} {nb:Nat} {ps:Int→Bool} {cs:List Cn} (hn:Net h T nb ps cs) {s:Sl} {l:List Int} (hs:ZiL h s l) (hd:∀ k,s.blk=some k→T k=none) {K:Int→Zb→Prop}
    (hk:∀ h',Net h' T nb (liP ps l) cs→Stp T T h h'→K (Zj1 l) h'):YP (some ⟨nb,0,none⟩) s K h:=by
  obtain ⟨mb,sc,qs,hn,rfl⟩:=hn
  unfold YP Zc7
  unfold liP at hk
  have hlen:=hs.length
  have hcap:=hs.cap
  have hbig:=hs.big
  refine Za (ZjJ hs (Za ⟨fun e=>Za ?_,fun e=>?_⟩))
  ·rw [if_neg (by simpa using e)] at hk
   exact hk h ⟨mb,sc,qs,hn,rfl⟩ (Stp.refl _ _)
  ·have e0:Zj1 l=0:=by simpa using e
   rw [if_pos e0,e0] at hk
   refine Yc (fun p h'=>∃ k:Nat,p.1=(k:Int)∧k≤l.length∧ZeD h' T nb mb sc (addP ps (l.take k)) qs∧Stp T T h h') (fun p _=>l.length - p.1.toNat) ⟨0,rfl,Nat.zero_le _,hn,Stp.refl _ _⟩ ?_
   rintro ⟨i,u⟩ h' ⟨k,hi,hkl,hn',hst⟩
   dsimp only at hi
   subst hi
   dsimp only
   refine Zj (fun hlt=>?_) (fun hge=>Za ?_)
   ·have hk1:k<l.length:=by omega
    have htk:l.take (k+1)=l.take k++[l[k]]:=List.take_succ_eq_append_getElem hk1
    have hs':ZiL h' s l:=Row.congr hs fun b o hp _ hl=>hst.upd.old b hl fun hb=>hb (hd b (by simp [Sl.blk,hp]))
    refine ZiL.idx hs' rfl (List.getElem?_eq_getElem hk1) (Za (Zh ⟨some mb,(Zn hn'.cells).trans rfl,hn'.ports.put l[k] fun h2 hp2 hu2 z2=>?_⟩))
    obtain ⟨hn2,hst2⟩:=hn'.ports' hp2 hu2
    rw [ZR (by omega) (by omega)]
    refine ⟨⟨k+1,by omega,by omega,?_,hst.trans hst2⟩,by omega⟩
    have e:addP ps (l.take (k+1))=fun m=>addP ps (l.take k) m||m ==l[k]:=by unfold addP;rw [htk,List.foldl_append];rfl
    rw [e]
    exact hn2
   ·rw [List.take_of_length_le (by omega)] at hn'
    exact hk h' ⟨mb,sc,qs,hn',rfl⟩ hst
theorem ZsZ {h:Zb} {T:Nat→Option Nat} {nb:Nat} {ps:Int→Bool} {cs:List Cn} (hn:Net h T nb ps cs) {s:Sl} {l:List Int} (hs:ZiL h s l) (hd:∀ k,s.blk=some k→T k=none) {K:Int→Zb→Prop}
    (hk:∀ h',Net h' T nb (spP ps l) cs→Stp T T h h'→K (Zj1 l) h'):Za8 (some ⟨nb,0,none⟩) s K h:=by
  obtain ⟨mb,sc,qs,hn,rfl⟩:=hn
  unfold Za8 ZdQ
  unfold spP at hk
  have hlen:=hs.length
  have hcap:=hs.cap
  have hbig:=hs.big
  refine Za (ZjJ hs (Za ⟨fun e=>Za ?_,fun e=>?_⟩))
  ·rw [if_neg (by simpa using e)] at hk
   exact hk h ⟨mb,sc,qs,hn,rfl⟩ (Stp.refl _ _)
  ·have e0:Zj1 l=0:=by simpa using e
   rw [if_pos e0,e0] at hk
   refine Yc (fun p h'=>∃ k:Nat,p.1=(k:Int)∧k≤l.length∧ZeD h' T nb mb sc (ZzI ps (l.take k)) qs∧Stp T T h h') (fun p _=>l.length - p.1.toNat) ⟨0,rfl,Nat.zero_le _,hn,Stp.refl _ _⟩ ?_
   rintro ⟨i,u⟩ h' ⟨k,hi,hkl,hn',hst⟩
   dsimp only at hi
   subst hi
   dsimp only
   refine Zj (fun hlt=>?_) (fun hge=>Za ?_)
   ·have hk1:k<l.length:=by omega
    have htk:l.take (k+1)=l.take k++[l[k]]:=List.take_succ_eq_append_getElem hk1
    have hs':ZiL h' s l:=Row.congr hs fun b o hp _ hl=>hst.upd.old b hl fun hb=>hb (hd b (by simp [Sl.blk,hp]))
    refine ZiL.idx hs' rfl (List.getElem?_eq_getElem hk1) (Za (Zh ⟨some mb,(Zn hn'.cells).trans rfl,hn'.ports.del l[k] fun h2 hp2 hu2 z2=>?_⟩))
    obtain ⟨hn2,hst2⟩:=hn'.ports' hp2 hu2
    rw [ZR (by omega) (by omega)]
    refine ⟨⟨k+1,by omega,by omega,?_,hst.trans hst2⟩,by omega⟩
    have e:ZzI ps (l.take (k+1))=fun m=>ZzI ps (l.take k) m&&m !=l[k]:=by unfold ZzI;rw [htk,List.foldl_append];rfl
    rw [e]
    exact hn2
   ·rw [List.take_of_length_le (by omega)] at hn'
    exact hk h' ⟨mb,sc,qs,hn',rfl⟩ hst
def Zfi:Nat→List Cn→List Int
  | _,[]=>[]
  | k,c::r=>if c.brk then Zfi (k+1) r else ((k:Int)+1)::Zfi (k+1) r
theorem Zg6 (c:Cn):∀ (l:List Cn) (k:Nat),Zfi k (l++[c])=Zfi k l++(if c.brk then [] else [((k+l.length:Nat):Int)+1])
  | [],k=>by
    simp only [List.nil_append,Zfi,List.length_nil,Nat.add_zero]
  | d::l,k=>by
    have e:k+1+l.length=k+(d::l).length:=by rw [List.length_cons];omega
    simp only [List.cons_append,Zfi,Zg6 c l (k+1),e]
    split<;>rfl
theorem ZkH:∀ (l:List Cn) (k:Nat),(Zfi k l).length≤l.length
  | [],_=>Nat.le_refl _
  | c::l,k=>by
    have:=ZkH l (k+1)
    simp only [Zfi,List.length_cons]
    split
    ·omega
    ·simp only [List.length_cons];omega
theorem Zqa {h:Zb} {T:Nat→Option Nat} {nb:Nat} {ps:Int→Bool} {cs:List Cn} (hn:Net h T nb ps cs) (hlen:cs.length≤1073741824) {K:Sl→Zb→Prop}
    (hk:∀ out h',Own h' h.size out 1 ((Zfi 0 cs).map iv)→Ext h h'→K out h'):ZaO (some ⟨nb,0,none⟩) K h:=by
  obtain ⟨mb,s,qs,hn,rfl⟩:=hn
  unfold ZaO Zdy
  rw [List.length_map] at hlen
  have hl:=hn.length
  refine Zl (Zh (Zjk hn.cells rfl ?_))
  refine Yc (fun p h'=>∃ k:Nat,p.2.1=(k:Int)∧k≤qs.length∧Ext h h'∧Own h' h.size p.1 1 ((Zfi 0 ((ZkG qs).take k)).map iv)) (fun p _=>qs.length - p.2.1.toNat) ⟨0,rfl,Nat.zero_le _,Ext.refl _,Own.nil _ _ 1⟩ ?_
  rintro ⟨l,i,u⟩ h' ⟨k,hi,hkl,e1,ho⟩
  dsimp only at hi ho
  subst hi
  dsimp only
  have z1:=e1.size
  have hol:=ho.len
  have hcl:=ZkH ((ZkG qs).take k) 0
  rw [List.length_take] at hcl
  simp only [List.length_map,Nat.mul_one] at hol
  refine Zj (fun hlt=>?_) (fun hge=>?_)
  ·have hk1:k<qs.length:=by omega
   have hq:qs[k]?=some qs[k]:=List.getElem?_eq_getElem hk1
   have htk:(ZkG qs).take (k+1)=(ZkG qs).take k++[qs[k].2]:=by
     rw [List.take_succ_eq_append_getElem (by simpa using hk1)]
     simp
   generalize qs[k]=q at hq htk
   have hn1:=hn.ext e1
   refine ZzB hn1 hq rfl fun b hb=>?_
   refine ⟨_,hn1.cell hq hb (m:=0) (by omega) rfl,_,hn1.cell hq hb (m:=1) (by omega) rfl,_,hn1.cell hq hb (m:=2) (by omega) rfl,_,hn1.cell hq hb (m:=3) (by omega) rfl,_,hn1.cell hq hb (m:=4) (by omega) rfl,
     _,hn1.cell hq hb (m:=5) (by omega) rfl,_,hn1.cell hq hb (m:=6) (by omega) rfl,_,hn1.cell hq hb (m:=7) (by omega) rfl,?_⟩
   refine Za1 fun h14 c14 e14 z14=>Za (ZfY c14 rfl rfl fun h15 c15 u15 z15=>Znl c15 rfl ?_)
   have e15:Ext h h15:=(e1.trans e14).then u15 fun k hk=>by omega
   have ho15:Own h15 h.size l 1 ((Zfi 0 ((ZkG qs).take k)).map iv):=ho.congr fun k hk hl _=>(u15.old k (by omega) (by omega)).trans (e14.old k hl)
   have hw:IntKind.wrap .i64 ((k:Int)+1)=(k:Int)+1:=ZR (by omega) (by omega)
   have hl0:((ZkG qs).take k).length=k:=by rw [List.length_take,List.length_map];omega
   refine ⟨fun hb0=>?_,fun hb1=>?_⟩
   ·have hb0':q.2.brk=false:=by simpa using hb0
    refine Za1 fun h18 c18 e18 z18=>?_
    have hrow:Row h18 ⟨some ⟨h15.size,0,none⟩,1,1⟩ 1 [iv (IntKind.wrap .i64 ((k:Int)+1))]:=⟨rfl,Nat.le_refl _,(show 1<9223372036854775808 by decide),.inr ⟨h15.size,0,rfl,ZaD c18 fun i v hi=>by simpa using hi⟩⟩
    refine hrow.rd ?_
    have ho18:=ho15.congr (h':=h18) fun k _ hl _=>e18.old k hl
    refine Own.app ho18 rfl rfl rfl (by omega) (by omega) (by omega) fun s' h20 ho' hl' hu _=>?_
    rw [hw] at ho' ⊢
    refine ⟨⟨k+1,by omega,by omega,(e15.trans e18).then hu fun k hk=>(ho15.lt hk).1,?_⟩,by omega⟩
    rw [htk,Zg6,hb0',hl0,Nat.zero_add,if_neg (by simp),List.map_append]
    exact ho'
   ·have hb1':q.2.brk=true:=by simpa using hb1
    rw [hw]
    refine ⟨⟨k+1,by omega,by omega,e15,?_⟩,by omega⟩
    rw [htk,Zg6,hb1',if_pos rfl,List.append_nil]
    exact ho15
  ·rw [List.take_of_length_le (by rw [List.length_map];omega)] at ho
   exact hk l h' ho e1
def Zje (port:Int):Cn:=⟨⟨[],[],false⟩,⟨[],[],false⟩,port,false⟩
def diS (ps:Int→Bool) (cs:List Cn) (port:Int):(Int × Int) × List Cn :=
  if Zux port then ((0,2),cs) else if ps port=false then ((0,51),cs) else if (Zfi 0 cs).length≥64 then ((0,3),cs) else (((cs.length:Int)+1,0),cs++[Zje port])
theorem ZeD.grow {h h1:Zb} {T:Nat→Option Nat} {nb mb:Nat} {s s':Sl} {ps:Int→Bool} {qs:List Q} (hn:ZeD h T nb mb s ps qs) {q:Q} (ho:Own h1 0 s' 8 ((qs++[q]).flatMap qC)) (hu:Upd (fun k=>s.blk=some k) h h1)
    (hnew:s'.blk=s.blk∨∀ k,s'.blk=some k→h.size≤k) (hq:QR h T qs.length q) {K:Zb→Prop} (hfin:∀ h2 T',ZeD h2 T' nb mb s' ps (qs++[q])→Stp T T' h h2→K h2):st h1 nb 1 (slV s') K:=by
  have hT0:∀ k,h.size≤k→T k=none:=fun k hk=>by
    rcases hT:T k with _ | t
    ·rfl
    ·have:=hn.lt k (by rw [hT];simp);omega
  have hu':Upd (fun k=>T k=some 2) h h1:=hu.mono fun k _ hk=>hn.tr k hk
  have hnbl:=Xl hn.cells
  have hc1:h1[nb]?=some (.cells #[.map (some mb),slV s] 122 (0,0)):=by
    rw [hu'.old nb hnbl (by rw [hn.tn];simp)];exact hn.cells
  have z1:=hu.size
  refine Zig hc1 (by simp) rfl fun h2 c2 u2 z2=>?_
  have hnew':∀ k,s'.blk=some k→T k=some 2∨h.size≤k:=fun k hk=>by
    rcases hnew with e | e
    ·rw [e] at hk;exact .inl (hn.tr k hk)
    ·exact .inr (e k hk)
  have hT':∀ k,T k≠none→(if s'.blk=some k then some 2 else T k)=T k:=fun k hk=>by
    split
    ·rename_i hx1
     rcases hnew' k hx1 with h9 | h9
     ·exact h9.symm
     ·exact absurd (hT0 k h9) hk
    ·rfl
  have old:∀ k t,T k=some t→t≠0→t≠2→k<h.size→h2[k]?=h[k]?:=fun k t hk h0 h9 hl =>
    (u2.old k (by omega) (by rintro rfl;rw [hn.tn] at hk;exact h0 (Option.some.inj hk).symm)).trans (hu'.old k hl (by rw [hk];simp only [Option.some.injEq];exact h9))
  have mv:∀ {y:Sl} {tag:Nat} {m:List UInt8},ZgM h T y tag m→2<tag→ZgM h2 (fun k=>if s'.blk=some k then some 2 else T k) y tag m:=fun {y tag m} hy h9 =>
    (hy.congr fun k hk hl=>old k tag hk (by omega) (by omega) hl).tags hT'
  refine hfin h2 (fun k=>if s'.blk=some k then some 2 else T k) ⟨c2,by show (if _ then _ else _)=_;rw [hT' nb (by rw [hn.tn];simp)];exact hn.tn,?_,by show (if _ then _ else _)=_;rw [hT' mb (by rw [hn.tm];simp)];exact hn.tm,
    ho.congr fun k hk hl _=>u2.old k hl ?_,fun k hk=>by simp only [hk,if_true],fun i r hr=>?_,fun k hk=>?_⟩ ⟨?_,fun k hk=>?_⟩
  ·obtain ⟨es,cl,hp,hr⟩:=hn.ports
   exact ⟨es,cl,by rw [old mb 1 hn.tm (by decide) (by decide) (Xl hp)];exact hp,hr⟩
  ·rintro rfl
   rcases hnew' _ hk with h9 | h9
   ·rw [hn.tn] at h9;cases h9
   ·omega
  ·rcases Nat.lt_or_ge i qs.length with hi | hi
   ·rw [List.getElem?_append_left hi] at hr
    obtain ⟨a1,a2,a3,a4⟩:=hn.each i r hr
    exact ⟨mv a1 (by omega),mv a2 (by omega),mv a3 (by omega),mv a4 (by omega)⟩
   ·rw [List.getElem?_append_right hi] at hr
    have:i - qs.length=0:=by
      rcases Nat.eq_zero_or_pos (i - qs.length) with h9 | h9
      ·exact h9
      ·rw [List.getElem?_eq_none (by simp;omega)] at hr;cases hr
    have hi':i=qs.length:=by omega
    subst hi'
    simp at hr
    subst hr
    obtain ⟨a1,a2,a3,a4⟩:=hq
    exact ⟨mv a1 (by omega),mv a2 (by omega),mv a3 (by omega),mv a4 (by omega)⟩
  ·by_cases hx1:s'.blk=some k
   ·have:=(ho.lt hx1).2;omega
   ·simp only [hx1,if_false] at hk
    have:=hn.lt k hk;omega
  ·exact Upd.then (hu'.mono fun k _ hk=>by show T k≠none;rw [hk];simp) u2 fun k _ hk=>by subst hk;show T k≠none;rw [hn.tn];simp
  ·by_cases hx1:s'.blk=some k
   ·rcases hnew' k hx1 with h9 | h9
    ·exact .inl (by rw [h9];simp)
    ·exact .inr h9
   ·simp only [hx1,if_false] at hk
    exact .inl hk
def Zhi:Rw:=⟨⟨none,0,0⟩,⟨none,0,0⟩,⟨none,0,0⟩,⟨none,0,0⟩⟩
theorem Zlm (h:Zb) (T:Nat→Option Nat) (tag:Nat):ZgM h T ⟨none,0,0⟩ tag []:=⟨Own.nil _ _ 1,fun k hk=>by simp [Sl.blk] at hk⟩
theorem Zzh (h:Zb) (T:Nat→Option Nat) (i:Nat) (p:Int) (b:Bool):QR h T i (Zhi,⟨⟨[],[],false⟩,⟨[],[],false⟩,p,b⟩):=⟨Zlm _ _ _,Zlm _ _ _,Zlm _ _ _,Zlm _ _ _⟩
theorem ZjQ {h:Zb} {T:Nat→Option Nat} {nb:Nat} {ps:Int→Bool} {cs:List Cn} (hn:Net h T nb ps cs) (hlen:cs.length≤1073741824) {port:Int} {K:Int→Int→Zb→Prop}
    (hk:∀ h' T',Net h' T' nb ps (diS ps cs port).2→Stp T T' h h'→K (diS ps cs port).1.1 (diS ps cs port).1.2 h'):Zbb (some ⟨nb,0,none⟩) port K h:=by
  unfold Zbb ZdT
  unfold diS at hk
  refine Za (Za (Za1 fun h2 c2 e2 z2=>?_))
  have hrow:ZiL h2 ⟨some ⟨h.size,0,none⟩,1,1⟩ [port]:=⟨rfl,Nat.le_refl _,(show 1<9223372036854775808 by decide),.inr ⟨h.size,0,rfl,ZaD c2 fun i v hi=>by simpa using hi⟩⟩
  have hn2:=hn.ext e2
  have st0:Stp T T h h2:=⟨e2.upd _,fun k hk=> .inl hk⟩
  refine ZjJ hrow (Za ?_)
  have hpe:Zj1 [port]=if Zux port then 2 else 0:=by
    unfold Zj1
    simp
  rw [hpe]
  cases hbad:Zux port with
  | true =>
    rw [hbad,if_pos rfl] at hk
    exact ZF (Za (Za (hk h2 T hn2 st0)))
  | false =>
    rw [hbad,if_neg (by simp)] at hk
    refine Zl ?_
    have hn2':=hn2
    obtain ⟨mb,s,qs,hnr,rfl⟩:=hn2'
    refine Zh ⟨some mb,(Zn hnr.cells).trans rfl,hnr.ports.get port (Zx ?_)⟩
    cases hps:ps port with
    | false =>
      rw [hps,if_pos rfl] at hk
      exact ZF (Za (Za (hk h2 T hn2 st0)))
    | true =>
      rw [hps,if_neg (by simp)] at hk
      refine Zl (Zqa hn2 hlen fun out h14 ho14 e14=>Zx ?_)
      have hol:out.len=(Zfi 0 (qs.map (·.2))).length:=ZiL.length ho14.row
      have st14:Stp T T h h14:=⟨(e2.trans e14).upd _,fun k hk=> .inl hk⟩
      rw [hol]
      refine Zj (fun hfull=>Za (Za ?_)) (fun hok=>?_)
      ·rw [if_pos (by omega)] at hk
       exact hk h14 T (hn2.ext e14) st14
      ·rw [if_neg (by omega)] at hk
       have hnr14:=hnr.ext e14
       refine Zh (Zjk hnr14.cells rfl (Za1 fun h22 c22 e22 z22=>?_))
       have hrow22:Row h22 ⟨some ⟨h14.size,0,none⟩,1,1⟩ 8 (qC (Zhi,Zje port)):=⟨rfl,Nat.le_refl _,(show 1<9223372036854775808 by decide),.inr ⟨h14.size,0,rfl,ZaD c22 fun i v hi=>by simpa [qC,Zhi,Zje,slV] using hi⟩⟩
       refine hrow22.rd ?_
       have hnr22:=hnr14.ext e22
       have hsl:=hnr.length
       rw [List.length_map] at hlen
       refine Own.app hnr22.row rfl rfl rfl (by omega) (by omega) (Nat.zero_le _) fun s' h24 ho' hl' hu hblk=>Zh ?_
       have e:qs.flatMap qC++qC (Zhi,Zje port)=(qs++[(Zhi,Zje port)]).flatMap qC:=by simp
       rw [e] at ho'
       refine hnr22.grow ho' hu (hblk.imp id fun h9 k hk=>by rw [h9] at hk;exact Nat.le_of_eq (Option.some.inj hk)) (Zzh _ _ _ _ _) fun h27 T' hn27 st27=>?_
       refine Zh (Zjk hn27.cells rfl (Za (Za ?_)))
       have hl27:=hn27.length
       rw [List.length_append,List.length_singleton] at hl27
       have:=hk h27 T' ⟨mb,s',_,hn27,by simp [Zje]⟩ ((st14.trans ⟨e22.upd _,fun k hk=> .inl hk⟩).trans st27)
       rw [List.length_map] at this
       rw [hl27]
       exact this
def brC (c:Cn):Cn:=⟨⟨[],[],false⟩,⟨[],[],false⟩,c.port,true⟩
def brF (cs:List Cn):List Int→(Int→Bool)→Bool→Option Bool
  | [],_,d=>some d
  | k::r,seen,d=>if ZgL cs k 0 0=4 then none else brF cs r (fun m=>seen m||m ==k) (d||(ZgL cs k 0 0 !=0||seen k))
def brA (cs:List Cn):List Int→List Cn
  | []=>cs
  | k::r=>brA (match cs[(k - 1).toNat]? with
    | some c=>cs.set (k - 1).toNat (brC c)
    | none=>cs) r
def brS (cs:List Cn) (l:List Int):Int × List Cn:=match brF cs l (fun _=>false) false with
  | none=>(4,cs)
  | some true=>(51,cs)
  | some false=>(0,brA cs l)
theorem Zw5 {cs:List Cn} {k:Int} (h:ZgL cs k 0 0≠4):1≤k∧k≤cs.length:=by
  unfold ZgL at h
  split at h
  ·exact absurd rfl h
  ·split at h
   ·exact absurd rfl h
   ·omega
theorem ZvA {cs:List Cn}:∀ {l:List Int} {seen:Int→Bool} {d b:Bool},brF cs l seen d=some b→∀ k,k∈l→1≤k∧k≤cs.length
  | [],_,_,_,_,k,hk=>by cases hk
  | x::r,seen,d,b,h,k,hk=>by
    unfold brF at h
    split at h
    ·cases h
    ·rename_i hx
     rcases List.mem_cons.1 hk with rfl | hk
     ·exact Zw5 hx
     ·exact ZvA h k hk
theorem ZeD.setConn {h:Zb} {T:Nat→Option Nat} {nb mb:Nat} {s:Sl} {ps:Int→Bool} {qs:List Q} (hn:ZeD h T nb mb s ps qs) {i:Nat} {q:Q} (hq:qs[i]?=some q) {b:Nat} (hb:s.blk=some b) {K:Zb→Prop}
    (hfin:∀ h2,ZeD h2 T nb mb s ps (qs.set i (Zhi,brC q.2))→Stp T T h h2→K h2):sts h b (i*8) (qC (Zhi,brC q.2)) K:=by
  have hlt:i<qs.length:=by
    rcases Nat.lt_or_ge i qs.length with h9 | h9
    ·exact h9
    ·rw [List.getElem?_eq_none h9] at hq;cases hq
  have hn0:=hn
  have hrow:=hn.row
  have hlen:=hrow.len
  have hfl:=Z7 ZdI qs
  rcases hrow.at_ with ⟨hp,_⟩ | ⟨b',c,e,hp,hbb,hc,hcs,hvs⟩
  ·simp [Sl.blk,hp] at hb
  ·simp [Sl.blk,hp] at hb
   subst hb
   have hcap:=hrow.cap
   have hfit:i*8+(qC (Zhi,brC q.2)).length≤c.size:=by
     rw [hcs,ZdI]
     omega
   obtain ⟨c',hc',hl'⟩:=Ze9 (vs:=qC (Zhi,brC q.2)) (o:=i*8) hc hfit
   have hflat:∀ (l:List Q) (i:Nat) (r:Q),i<l.length→(l.set i r).flatMap qC=(l.flatMap qC).take (i*8)++qC r++(l.flatMap qC).drop (i*8+8):=by
     intro l
     induction l with
     | nil=>intro i r h;simp at h
     | cons x l ih =>
       intro i r h
       cases i with
       | zero=>simp [ZdI,List.drop_append]
       | succ i =>
         rw [List.set_cons_succ,List.flatMap_cons,ih i r (by simpa using h),List.flatMap_cons]
         have e1:(i+1)*8=(qC x).length+i*8:=by rw [ZdI];omega
         have e2:(i+1)*8+8=(qC x).length+(i*8+8):=by rw [ZdI];omega
         rw [e2,e1,List.take_length_add_append,List.drop_length_add_append]
         simp [List.append_assoc]
   refine ⟨Zfe hc hfit,rfl,?_⟩
   have hT:T b'=some 2:=hn.tr b' (by simp [Sl.blk,hp])
   have u:Upd (· = b') h (h.puts b' (i*8) (qC (Zhi,brC q.2))):=Upd.puts h b' (i*8) _
   have old:∀ k t,T k=some t→t≠2→k<h.size→(h.puts b' (i*8) (qC (Zhi,brC q.2)))[k]?=h[k]?:=fun k t hk ht hl=>u.old k hl (by rintro rfl;rw [hT] at hk;exact ht (Option.some.inj hk).symm)
   have mv:∀ {i':Nat} {r:Q},QR h T i' r→QR (h.puts b' (i*8) (qC (Zhi,brC q.2))) T i' r:=fun {i' r} hr=>by
     obtain ⟨a1,a2,a3,a4⟩:=hr
     exact ⟨a1.congr fun k hk hl=>old k _ hk (by omega) hl,a2.congr fun k hk hl=>old k _ hk (by omega) hl,a3.congr fun k hk hl=>old k _ hk (by omega) hl,a4.congr fun k hk hl=>old k _ hk (by omega) hl⟩
   refine hfin _ ⟨?_,hn.tn,?_,hn.tm,⟨?_,hrow.cap,hrow.big,.inr ⟨b',c',e,hp,hbb,hc',?_,?_⟩⟩,hn.tr,fun i' r hr=>?_,fun k hk=>by rw [Ze8];exact hn.lt k hk⟩ ⟨u.mono fun k _ hk=>by subst hk;show T k≠none;rw [hT];simp,fun k hk=> .inl hk⟩
   ·rw [old nb 0 hn.tn (by decide) (Xl hn.cells)];exact hn.cells
   ·obtain ⟨es,cl,hp,hr⟩:=hn.ports
    exact ⟨es,cl,by rw [old mb 1 hn.tm (by decide) (Xl hp)];exact hp,hr⟩
   ·rw [Z7 ZdI,List.length_set,← hfl];exact hlen
   ·have:=congrArg List.length hl'
    simp only [List.length_append,List.length_take,List.length_drop,Array.length_toList,ZdI] at this
    rw [ZdI] at hfit
    omega
   ·rw [hl',hflat qs i _ hlt,hvs,ZdI]
    have hsl:s.len*8=qs.length*8:=by omega
    have hA:i*8+8≤s.len*8:=by omega
    have hcl:s.len*8≤c.toList.length:=by rw [Array.length_toList,hcs];omega
    have hlA:(c.toList.take (i*8)++qC (Zhi,brC q.2)).length=i*8+8:=by rw [List.length_append,List.length_take,ZdI];omega
    rw [List.take_take,Nat.min_eq_left (by omega),List.drop_take,List.take_append,List.take_of_length_le (Nat.le_trans (Nat.le_of_eq hlA) hA),hlA]
   ·by_cases hii:i'=i
    ·subst hii
     rw [List.getElem?_set_self hlt] at hr
     cases hr
     exact Zzh _ _ _ _ _
    ·rw [List.getElem?_set_ne (Ne.symm hii)] at hr
     exact mv (hn.each i' r hr)
theorem ZzP {h:Zb} {T:Nat→Option Nat} {nb mb:Nat} {s:Sl} {ps:Int→Bool} {qs:List Q} (hn:ZeD h T nb mb s ps qs) {k e most:Int} {K:Option Addr→Int→Zb→Prop}
    (hk:∀ p,K p (ZgL (ZkG qs) k e most) h):YC (some ⟨nb,0,none⟩) k e most K h :=
  ZdD hn (fun _=>hk none) fun i j q b he _ _ _ _ _ _=>by rw [he] at hk;exact hk _
theorem ZkR {h:Zb} {T:Nat→Option Nat} {nb:Nat} {ps:Int→Bool} {cs:List Cn} (hn:Net h T nb ps cs) {s:Sl} {l:List Int} (hs:ZiL h s l) (hd:∀ k,s.blk=some k→T k=none) {K:Int→Zb→Prop}
    (hk:∀ h',Net h' T nb ps (brS cs l).2→Stp T T h h'→K (brS cs l).1 h'):Xq (some ⟨nb,0,none⟩) s K h:=by
  obtain ⟨mb,sc,qs,hn,rfl⟩:=hn
  unfold Xq Zdz
  have hlen:=hs.length
  have hcap:=hs.cap
  have hbig:=hs.big
  refine Za (Zl ?_)
  have hp0:=Xu.new h
  have e0:=Ext.push h (.map #[] 0)
  unfold Zci
  dsimp only
  generalize h.push (.map #[] 0)=h2 at hp0 e0
  refine Yc (fun p h'=>∃ (k:Nat) (seen:Int→Bool),p.2.1=(k:Int)∧k≤l.length∧Ext h h'∧Xu h' h.size seen∧brF (ZkG qs) l (fun _=>false) false=brF (ZkG qs) (l.drop k) seen p.1) (fun p _=>l.length - p.2.1.toNat)
    ⟨0,fun _=>false,rfl,Nat.zero_le _,e0,hp0,rfl⟩ ?_
  rintro ⟨down,i,u⟩ h4 ⟨k,seen,hi,hkl,e4,hp4,hb4⟩
  dsimp only at hi hb4
  subst hi
  dsimp only
  refine Zj (fun hlt=>?_) (fun hge=>?_)
  ·have hk1:k<l.length:=by omega
   have hx:l[k]?=some l[k]:=List.getElem?_eq_getElem hk1
   have hdr:l.drop k=l[k]::l.drop (k+1):=List.drop_eq_getElem_cons hk1
   generalize l[k]=x at hx hdr
   rw [hdr] at hb4
   have hw:IntKind.wrap .i64 ((k:Int)+1)=((k+1:Nat):Int):=by rw [ZR (by omega) (by omega)];omega
   refine ZiL.idx (Row.ext hs e4) rfl hx (Za (ZzP (hn.ext e4) fun p=>Za ⟨fun h44=>?_,fun h44=>?_⟩))
   ·have h44':ZgL (ZkG qs) x 0 0=4:=by simpa using h44
    unfold brS at hk
    rw [hb4,brF,if_pos h44'] at hk
    rw [h44']
    exact Za (hk h4 ⟨mb,sc,qs,hn.ext e4,rfl⟩ ⟨e4.upd _,fun k hk=> .inl hk⟩)
   ·have h44':ZgL (ZkG qs) x 0 0≠4:=by simpa using h44
    rw [brF,if_neg h44'] at hb4
    rw [hw]
    have next:∀ (d:Bool) (h':Zb),d=(down||(ZgL (ZkG qs) x 0 0 !=0||seen x))→Xu h' h.size (fun m=>seen m||m ==x)→Upd (· = h.size) h4 h' →
        (∃ (k':Nat) (seen:Int→Bool),((k+1:Nat):Int)=(k':Int)∧k'≤l.length∧Ext h h'∧Xu h' h.size seen∧brF (ZkG qs) l (fun _=>false) false=brF (ZkG qs) (l.drop k') seen d)∧l.length - ((k+1:Nat):Int).toNat<l.length - ((k:Nat):Int).toNat:=fun d h' hd' hp' hu' =>
      ⟨⟨k+1,_,rfl,by omega,e4.then hu' fun j hj=>by omega,hp',by rw [hb4,hd']⟩,by omega⟩
    refine ⟨fun hdn=>hp4.put x fun h' hp' hu' z'=>next true h' (by rw [hdn];rfl) hp' hu',fun hdn=>⟨fun hee=>hp4.put x fun h' hp' hu' z'=>next true h' (by rw [hdn,hee];rfl) hp' hu',fun hee=>?_⟩⟩
    refine hp4.get x (Zx (hp4.put x fun h' hp' hu' z'=>next (seen x) h' (by rw [hdn,hee];rfl) hp' hu'))
  ·have hkl':k=l.length:=by omega
   subst hkl'
   rw [List.drop_length,brF] at hb4
   unfold brS at hk
   rw [hb4] at hk
   refine ⟨fun hdn=>Za ?_,fun hdn=>?_⟩
   ·subst hdn
    exact hk h4 ⟨mb,sc,qs,hn.ext e4,rfl⟩ ⟨e4.upd _,fun k hk=> .inl hk⟩
   ·subst hdn
    have hin:=ZvA hb4
    rw [List.length_map] at hin
    refine Yc (fun p h'=>∃ (k:Nat) (qs':List Q),p.1=(k:Int)∧k≤l.length∧ZeD h' T nb mb sc ps qs'∧qs'.length=qs.length∧Stp T T h h'∧brA (ZkG qs) l=brA (ZkG qs') (l.drop k)) (fun p _=>l.length - p.1.toNat)
      ⟨0,qs,rfl,Nat.zero_le _,hn.ext e4,rfl,⟨e4.upd _,fun k hk=> .inl hk⟩,rfl⟩ ?_
    rintro ⟨i,u⟩ h20 ⟨k,qs',hi,hkl2,hn',hql,hst,hbA⟩
    dsimp only at hi
    subst hi
    dsimp only
    refine Zj (fun hlt=>?_) (fun hge=>Za ?_)
    ·have hk1:k<l.length:=by omega
     have hx:l[k]?=some l[k]:=List.getElem?_eq_getElem hk1
     have hdr:l.drop k=l[k]::l.drop (k+1):=List.drop_eq_getElem_cons hk1
     have hxin:=hin l[k] (List.getElem_mem hk1)
     generalize l[k]=x at hx hdr hxin
     obtain ⟨j,hj⟩:=Int.eq_ofNat_of_zero_le (show 0≤x - 1 by omega)
     have hjl:j<qs'.length:=by omega
     have hq:qs'[j]?=some qs'[j]:=List.getElem?_eq_getElem hjl
     generalize qs'[j]=q at hq
     have hs':ZiL h20 s l:=Row.congr hs fun b o hp _ hl=>hst.upd.old b hl fun hb=>hb (hd b (by simp [Sl.blk,hp]))
     have hlen':=hn'.length
     have hcap':=hn'.row.cap
     have hbig':=hn'.row.big
     have hw:IntKind.wrap .i64 (x - 1)=(j:Int):=by rw [ZR (by omega) (by omega)];exact hj
     refine ZiL.idx hs' rfl hx (Za (Zh (Zh (Zjk hn'.cells rfl (Zjk hn'.cells rfl ?_)))))
     rw [hw]
     refine ZzB hn' hq rfl fun b hb=>⟨_,hn'.cell hq hb (m:=6) (by omega) rfl,ZzB hn' hq rfl fun b hb=>?_⟩
     refine hn'.setConn hq hb fun h36 hn36 hst36=>?_
     rw [ZR (n:=(k:Int)+1) (by omega) (by omega)]
     refine ⟨⟨k+1,_,by omega,by omega,hn36,by rw [List.length_set];exact hql,hst.trans hst36,?_⟩,by omega⟩
     have hcs:(ZkG qs')[(x - 1).toNat]?=some q.2:=by rw [hj,Int.toNat_natCast,List.getElem?_map,hq];rfl
     rw [hbA,hdr,brA,hcs]
     dsimp only
     rw [hj,Int.toNat_natCast]
     show brA ((qs'.map (·.2)).set j (brC q.2)) _=brA ((qs'.set j (Zhi,brC q.2)).map (·.2)) _
     rw [List.map_set]
    ·have hkl':k=l.length:=by omega
     subst hkl'
     rw [List.drop_length,brA] at hbA
     rw [hbA] at hk
     exact hk h20 ⟨mb,sc,qs',hn',rfl⟩ hst
theorem Zjc {h h':Zb} {n:Int} (c:h'[h.size]?=some (.cells #[iv n] 3 (0,0))):ZiL h' ⟨some ⟨h.size,0,none⟩,1,1⟩ [n] :=
  ⟨rfl,Nat.le_refl _,(show 1<9223372036854775808 by decide),.inr ⟨h.size,0,rfl,ZaD c fun i v hi=>by simpa using hi⟩⟩
theorem Net.lt {h:Zb} {T:Nat→Option Nat} {nb:Nat} {ps:Int→Bool} {cs:List Cn} (hn:Net h T nb ps cs):∀ k,T k≠none→k<h.size:=by
  obtain ⟨mb,s,qs,hn,_⟩:=hn
  exact hn.lt
theorem Ziz (c:Cn) {j i:Nat} (hj:j<2) (hi:i<2) (s:ZjR):(c.putS j s).side i=if i=j then s else c.side i:=by
  rcases two j hj with rfl | rfl<;>rcases two i hi with rfl | rfl<;>rfl
theorem ZsL (c:Cn) (j:Nat) (s:ZjR):(c.putS j s).brk=c.brk:=by
  unfold Cn.putS
  split<;>rfl
theorem Stp.none_ {T T':Nat→Option Nat} {h h':Zb} (st:Stp T T' h h') {k:Nat} (hk:T k=none) (hl:k<h.size):T' k=none:=by
  rcases hT:T' k with _ | t
  ·rfl
  ·rcases st.new k (by rw [hT];simp) with h1 | h1
   ·exact absurd hk h1
   ·omega
theorem Stp.keep {T T':Nat→Option Nat} {h h':Zb} (st:Stp T T' h h') {k:Nat} {x:Obj} (hk:T k=none) (hx:h[k]?=some x):h'[k]?=some x:=by
  rw [st.upd.old k (Xl hx) fun h9=>h9 hk];exact hx
end Go.Proofs.YtbppjmcinoffnaaGreat.St
