/- The tree of nodes: what is fresh; a new node. -/
import Derived.Test.YthbfgkphlmlihaaGreatPa10
set_option linter.unusedVariables false
set_option linter.unusedSimpArgs false
namespace Go.Proofs.YthbfgkphlmlihaaGreat
open Go Go.Fw
open Nat renaming reduceAdd→Nqa,reduceLT→Nqb,reduceLeDiff→Nqc,reduceEqDiff→Nqd,reduceMul→Nqe
def Tree.isNew (t:Tree) (k:K4):Bool:=(t.f k).isNone
def Tree.freshN (t:Tree) (l:List K4):Nat:=(l.filter t.isNew).length
theorem ZkI.isNone {h:Zd} {tb mb base:Nat} {ks:Sl} {A:K4→Option Nat} {t:Tree} (ht:ZkI h tb mb base ks A t) (k:K4):t.isNew k=(A k).isNone:=by
  unfold Tree.isNew
  rcases ht.node k with ⟨a,b⟩ | ⟨q,n,a,b,_⟩<;>rw [a,b]<;>rfl
theorem ZjB {h:Zd} {tb:Nat} {O:Nat→Prop} {t:Tree} (ht:XM h tb O t) {s:Sl} {l:List K4} (hs:Row h s 4 (l.flatMap k4L)) (hd:l.Nodup) (hl:l.length≤100000) {K:Int→Zd→Prop} (hk:∀ h',Ext h h'→K (t.freshN l:Int) h'):Yy (some ⟨tb,0,none⟩) s K h:=by
  obtain ⟨mb,base,ks,A,hi,ho⟩:=ht
  unfold Yy Zch ZfP
  have hlen:=hs.len
  rw [YZ Za8] at hlen
  have hsl:s.len=l.length:=(Nat.eq_of_mul_eq_mul_right (by decide) hlen).symm
  have c0:obj (h.push (.map #[] 0)) (sz h)=some (.map #[] 0):=ZdU
  have e0:Ext h (h.push (.map #[] 0)):=Zah (Ext.refl h)
  refine Za (YX (fun p hh=>∃ i:Nat,p=((i:Int),())∧i≤l.length∧Ext h hh∧∃ g,ZkK hh (sz h) g (t.freshN (l.take i))∧∀ k,k∉l.take i→g k=none) (fun p _=>l.length - p.1.toNat)
    ⟨0,rfl,Nat.zero_le _,e0,_,(ZkK.new c0).congr rfl,fun _ _=>rfl⟩ ?_)
  rintro _ hh ⟨i,rfl,hil,he,g,hm,hg0⟩ Q hQ
  dsimp only
  refine Zu (fun q=>?_) fun q=>?_
  ·have hi1:i<l.length:=by omega
   have hg:l[i]?=some l[i]:=List.getElem?_eq_getElem hi1
   generalize l[i]=k at hg
   obtain ⟨b,o,hb,hlt,hidx,hc⟩:=Zdj Za8 (hs.ext he) hg (by decide)
   have v0:=hc 0 _ rfl
   have v1:=hc 1 _ rfl
   have v2:=hc 2 _ rfl
   have v3:=hc 3 _ rfl
   have hwr:IntKind.wrap .i64 ((i:Int)+1)=((i+1:Nat):Int):=wrS hi1 (by omega)
   have htk:l.take (i+1)=l.take i++[k]:=by rw [List.take_add_one,hg];rfl
   have hnk:k∉l.take i:=fun hmem=>by
     have hd2:=hd
     rw [← List.take_append_drop i l,List.nodup_append] at hd2
     refine hd2.2.2 k hmem k ?_ rfl
     refine List.mem_of_getElem? (i:=0) ?_
     rw [List.getElem?_drop,Nat.add_zero];exact hg
   refine hidx rfl (rI v0 (rS v1 (rS v2 (rS v3 (Yg fun h1 c1 e1 z1=>ZaE c1 fun h2 c2 u2 z2=>Zj ?_)))))
   have e2:Ext hh h2:=e1.then u2 fun k hk=>by subst hk;exact Nat.le_refl _
   have e02:=he.trans e2
   have hi2:ZkI h2 tb mb base ks A t:=hi.congr fun j _ hj=>Z6 e02 hj
   obtain ⟨n,hmk⟩:=hi2.map
   have hm2:=hm.congr (Z6 e2 hm.lt)
   refine rM (Zb hi2.cells rfl) (rI (Zb c2 rfl) (rS (Zb c2 rfl) (rS (Zb c2 rfl) (rS (Zb c2 rfl) (hmk.get k ?_)))))
   have hnew:=hi.isNone k
   rcases hi.node k with ⟨a,b9⟩ | ⟨q9,n9,a,b9,_⟩
   ·rw [a] at hnew ⊢
    refine ⟨none,rfl,YL (rI (Zb c2 rfl) (rS (Zb c2 rfl) (rS (Zb c2 rfl) (rS (Zb c2 rfl) (hm2.put (k:=k) ?_ _ fun h3 hm3 u3 z3=>?_)))))⟩
    ·exact hg0 k hnk
    ·rw [hwr]
     refine hQ _ _ ⟨i+1,rfl,hi1,e02.then u3 fun k hk=>by subst hk;exact Nat.le_refl _,?_⟩ (by show l.length - ((i+1:Nat):Int).toNat<l.length - ((i:Nat):Int).toNat;omega)
     have h1:(l.take (i+1)).filter t.isNew=(l.take i).filter t.isNew++[k]:=by rw [htk,List.filter_append];congr 1;simp [hnew]
     have h2:t.freshN (l.take (i+1))=t.freshN (l.take i)+1:=by unfold Tree.freshN;rw [h1];simp
     refine ⟨_,by rw [h2];exact hm3,fun j hj=>?_⟩
     rw [htk] at hj
     have hjk:j≠k:=fun e=>hj (by rw [e];simp)
     exact (if_neg hjk).trans (hg0 j fun hmem=>hj (List.mem_append.2 (.inl hmem)))
   ·rw [a] at hnew ⊢
    refine ⟨_,rfl,Zz ?_⟩
    rw [hwr]
    have h1:(l.take (i+1)).filter t.isNew=(l.take i).filter t.isNew:=by rw [htk,List.filter_append];simp [hnew]
    have h2:t.freshN (l.take (i+1))=t.freshN (l.take i):=by unfold Tree.freshN;rw [h1]
    refine hQ _ _ ⟨i+1,rfl,hi1,e02,g,by rw [h2];exact hm2,fun j hj=>hg0 j fun hmem=>hj (by rw [htk];exact List.mem_append.2 (.inl hmem))⟩ (by show l.length - ((i+1:Nat):Int).toNat<l.length - ((i:Nat):Int).toNat;omega)
  ·have hfull:l.take i=l:=List.take_of_length_le (by omega)
   rw [hfull] at hm
   exact hm.len (Za (hk hh he))
theorem ZAA {h:Zd} {base:Nat} {s:Sl} {l m:List K4} (ho:Own h base s 4 (l.flatMap k4L)) {n:Nat} (hn:m.length=n) (hb:l.length+n≤100000) (hbase:base≤sz h) {K:Sl→Zd→Prop}
    (hk:∀ s' h',Own h' base s' 4 ((l++m).flatMap k4L)→Upd (fun k=>s.blk=some k) h h'→(s'.blk=s.blk∨s'.blk=some (sz h))→K s' h'):app 102 4 56 [.int .u8 0,.string (ByteArray.mk #[]),.string (ByteArray.mk #[]),.string (ByteArray.mk #[])] s n (m.flatMap k4L) h K:=by
  have hl:=ho.len
  rw [YZ Za8] at hl
  have hs:s.len=l.length:=(Nat.eq_of_mul_eq_mul_right (by decide) hl).symm
  refine ho.app (n:=n) (by rw [YZ Za8,hn]) (ZrM m) rfl (by omega) (by omega) hbase fun s' h' o' l' u' b'=>hk s' h' (by rw [List.flatMap_append];exact o') u' b'
def Tree.make (t:Tree) (k:K4):Tree:=match t.f k with
  | some _=>t
  | none=>⟨fun j=>if j=k then some Node.zero else t.f j,t.keys++[k],t.last⟩
theorem Zjr {h:Zd} {tb:Nat} {O:Nat→Prop} {t:Tree} (ht:XM h tb O t) {k:K4} (hl:t.isNew k=true→t.keys.length<512) {K:Zd→Prop}
    (hk:∀ h' O',XM h' tb O' (t.make k)→Upd O h h'→(∀ j,O' j→O j∨(sz h≤j∧j<sz h'))→(∀ j,O j→O' j)→K h'):Yx (some ⟨tb,0,none⟩) k K h:=by
  obtain ⟨mb,base,ks,A,hi,ho⟩:=ht
  unfold Yx Zcg
  refine Yg fun h1 c1 e1 z1=>Zj ?_
  have hi1:ZkI h1 tb mb base ks A t:=hi.congr fun j _ hj=>Z6 e1 hj
  obtain ⟨n,hmk⟩:=hi1.map
  refine rM (Zb hi1.cells rfl) (rI (Zb c1 rfl) (rS (Zb c1 rfl) (rS (Zb c1 rfl) (rS (Zb c1 rfl) (hmk.get k ?_)))))
  have hnew:=hi.isNone k
  rcases hi.node k with ⟨a,b9⟩ | ⟨q9,n9,a,b9,_⟩
  case inr =>
    rw [a]
    refine ⟨_,rfl,Zz (hk h1 O ?_ (e1.upd _) (fun j hj=> .inl hj) fun j hj=>hj)⟩
    have:t.make k=t:=by unfold Tree.make;rw [b9]
    rw [this]
    exact ⟨mb,base,ks,A,hi1,ho⟩
  rw [a] at hnew ⊢
  have hl9:=hl hnew
  refine ⟨none,rfl,YL (Zj (rM (Zb hi1.cells rfl) (rI (Zb c1 rfl) (rS (Zb c1 rfl) (rS (Zb c1 rfl) (rS (Zb c1 rfl) (ZnO fun h2 n2 e2 z2=>?_)))))))⟩
  have c2:=Zl c1 e2
  have hi2:ZkI h2 tb mb base ks A t:=hi1.congr fun j _ hj=>Z6 e2 hj
  refine ⟨⟨Zb c2 rfl,Zb c2 rfl,Zb c2 rfl,Zb c2 rfl,trivial⟩,YM (Zb hi2.cells rfl),?_⟩
  refine (hmk.congr (Z6 e2 hmk.lt)).put (k:=k) (by rw [a];rfl) _ fun h3 hm3 u3 z3=>?_
  have lt0:tb<sz h:=Zr hi.cells
  have lm0:mb<sz h:=by obtain ⟨n9,hm9⟩:=hi.map;exact hm9.lt
  have lk0:∀ b,ks.blk=some b→b<sz h:=fun b hb=>(hi.row.lt hb).2
  have s1:sz h≤sz h1:=e1.size
  have s2:sz h2=sz h1+5:=z2
  have s3:sz h3=sz h2:=z3
  have t3:obj h3 tb=_:=(u3.old tb (show tb<sz h2 by omega) (fun e=>hi.mt e.symm)).trans hi2.cells
  have c3:obj h3 (sz h)=_:=(u3.old (sz h) (show sz h<sz h2 by have:h1.size=h.size+1:=z1;simp only [YV] at this;omega) (by omega)).trans c2
  refine Zj (rL (Zb t3 rfl) (rI (Zb c3 rfl) (rS (Zb c3 rfl) (rS (Zb c3 rfl) (rS (Zb c3 rfl) (Yg fun h4 c4 e4 z4=>?_))))))
  have t4:=Zl t3 e4
  refine ⟨YM (Zb t4 rfl),(ZiR c4 rfl).rd ?_⟩
  have s4:sz h3≤sz h4:=e4.size
  have o4:Own h4 0 ks 4 (t.keys.flatMap k4L):=(hi.row.congr fun b hb hl _=>(e4.old b (show b<sz h3 by have:=lk0 b hb;omega)).trans ((u3.old b (show b<sz h2 by have:=lk0 b hb;omega) (hi.kb b hb).2).trans ((e2.old b (show b<sz h1 by have:=lk0 b hb;omega)).trans (e1.old b hl)))).base (Nat.zero_le _)
  refine ZAA o4 (m:=[k]) (n:=1) rfl (by omega) (Nat.zero_le _) fun s5 h5 o5 u5 b5=>?_
  have t5:obj h5 tb=_:=(u5.old tb (show tb<sz h4 by omega) (fun e=>(hi.kb tb e).1 rfl)).trans t4
  have s5':sz h4≤sz h5:=u5.size
  refine Zj (ZdD t5 (show 0+1<3 by decide) rfl fun h6 c6 u6 z6=>?_)
  let S:Nat→Prop:=fun j=>j=tb∨j=mb∨ks.blk=some j
  have U26:Upd S h2 h6:=(((u3.mono fun j _ hj=> .inr (.inl hj)).trans (e4.upd S)).trans (u5.mono fun j _ hj=> .inr (.inr hj))).trans (u6.mono fun j _ hj=> .inl hj)
  have U:Upd S h h6:=((e1.trans e2).upd S).trans U26
  have nS:∀ j,sz h≤j→¬ S j:=fun j hj hs=>by
    rcases hs with h9 | h9 | h9
    ·omega
    ·omega
    ·have:=lk0 j h9;omega
  have SO:∀ j,S j→O j:=fun j hs=>ho j (by
    rcases hs with h9 | h9 | h9
    ·exact .inl h9
    ·exact .inr (.inl h9)
    ·exact .inr (.inr (.inl h9)))
  have kb5:∀ b,s5.blk=some b→ks.blk=some b∨b=sz h4:=fun b hb=>by
    rcases b5 with h9 | h9
    ·exact .inl (h9▸hb)
    ·rw [h9] at hb;exact .inr (Option.some.inj hb).symm
  refine hk h6 (fun j=>O j∨(sz h≤j∧j<sz h6)) ⟨mb,0,s5,fun j=>if j=k then some (sz h1) else A j,⟨?_,⟨n+1,?_⟩,?_,?_,?_,?_,hi.mt,?_,?_⟩,?_⟩ (U.mono fun j _ hj=>SO j hj) (fun j hj=>hj) fun j hj=> .inl hj
  ·have e:t.make k=⟨fun j=>if j=k then some Node.zero else t.f j,t.keys++[k],t.last⟩:=by unfold Tree.make;rw [b9]
   rw [e]
   exact c6
  ·refine (show ZkK h6 mb _ (n+1) from ?_)
   have:(fun j=>Option.map (fun q=>Value.pointer (some ⟨q+4,0,none⟩)) (if j=k then some (sz h1) else A j))=fun j=>if j=k then some (Value.pointer (some ⟨sz h1+4,0,none⟩)) else Option.map (fun q=>Value.pointer (some ⟨q+4,0,none⟩)) (A j):=by
     funext j
     split<;>rfl
   rw [this]
   refine hm3.congr ?_
   exact (u6.old mb (show mb<sz h5 by omega) hi.mt).trans ((u5.old mb (show mb<sz h4 by omega) fun e=>(hi.kb mb e).2 rfl).trans (e4.old mb (show mb<sz h3 by omega)))
  ·have e:(t.make k).keys=t.keys++[k]:=by unfold Tree.make;rw [b9]
   rw [e]
   refine o5.congr fun b hb hl _=>u6.old b hl fun e9=>?_
   rcases kb5 b hb with h9 | h9
   ·exact (hi.kb b h9).1 e9
   ·omega
  ·have e:(t.make k).keys=t.keys++[k]:=by unfold Tree.make;rw [b9]
   rw [e];simp;omega
  ·intro j
   have e:(t.make k).f j=if j=k then some Node.zero else t.f j:=by unfold Tree.make;rw [b9]
   by_cases hjk:j=k
   ·refine .inr ⟨sz h1,Node.zero,if_pos hjk,by rw [e,if_pos hjk],n2.congr fun j2 g1 g2=>U26.old j2 (show j2<sz h2 by omega) (nS j2 (by omega))⟩
   ·rcases hi.node j with ⟨g1,g2⟩ | ⟨q,n9,g1,g2,g3⟩
    ·exact .inl ⟨(if_neg hjk).trans g1,by rw [e,if_neg hjk];exact g2⟩
    ·refine .inr ⟨q,n9,(if_neg hjk).trans g1,by rw [e,if_neg hjk];exact g2,g3.congr fun j2 g4 g5=>U.old j2 (show j2<sz h by have:=g3.lt;omega) fun hs=>?_⟩
     obtain ⟨o1,o2,o3⟩:=hi.out j q g1 j2 ⟨g4,g5⟩
     rcases hs with h9 | h9 | h9
     ·exact o1 h9
     ·exact o2 h9
     ·exact o3 h9
  ·have old:∀ j q,A j=some q→q+5≤sz h:=fun j q hj=>by
     rcases hi.node j with ⟨g1,_⟩ | ⟨q9,n9,g1,_,g3⟩
     ·rw [g1] at hj;cases hj
     ·rw [g1] at hj;cases hj;have:=g3.lt;omega
   intro j j' q q' hq hq' hne
   by_cases e1:j=k<;>by_cases e2:j'=k
   ·exact absurd (e1.trans e2.symm) hne
   ·rw [if_pos e1] at hq;rw [if_neg e2] at hq';cases hq;exact .inr (by have:=old _ _ hq';omega)
   ·rw [if_neg e1] at hq;rw [if_pos e2] at hq';cases hq';exact .inl (by have:=old _ _ hq;omega)
   ·rw [if_neg e1] at hq;rw [if_neg e2] at hq';exact hi.disj j j' q q' hq hq' hne
  ·intro b hb
   rcases kb5 b hb with h9 | h9
   ·exact hi.kb b h9
   ·omega
  ·intro j q hq j2 hj2
   obtain ⟨w1,w2⟩:=hj2
   by_cases e1:j=k
   ·rw [if_pos e1] at hq;cases hq
    refine ⟨by omega,by omega,fun e9=>?_⟩
    rcases kb5 j2 e9 with h9 | h9
    ·have:=lk0 j2 h9;omega
    ·have:h4.size=h3.size+1:=z4
     simp only [YV] at this
     omega
   ·rw [if_neg e1] at hq
    obtain ⟨o1,o2,o3⟩:=hi.out j q hq j2 ⟨w1,w2⟩
    refine ⟨o1,o2,fun e9=>?_⟩
    rcases kb5 j2 e9 with h9 | h9
    ·exact o3 h9
    ·rcases hi.node j with ⟨g1,_⟩ | ⟨q9,n9,g1,_,g3⟩
     ·rw [g1] at hq;cases hq
     ·rw [g1] at hq;cases hq;have:=g3.lt;omega
  ·rintro j (h9 | h9 | h9 | ⟨j2,q,h9,w1,w2⟩)
   ·exact .inl (ho j (.inl h9))
   ·exact .inl (ho j (.inr (.inl h9)))
   ·rcases kb5 j h9 with h8 | h8
    ·exact .inl (ho j (.inr (.inr (.inl h8))))
    ·have:sz h4<sz h5:=by have:=(o5.lt h9).2;rw [h8] at this;exact this
     exact .inr (by omega)
   ·dsimp only at h9
    by_cases e1:j2=k
    ·rw [if_pos e1] at h9;cases h9;exact .inr (by omega)
    ·rw [if_neg e1] at h9
     exact .inl (ho j (.inr (.inr (.inr ⟨j2,q,h9,w1,w2⟩))))
def Tree.put (t:Tree) (k:K4) (n:Node):Tree:=⟨fun j=>if j=k then some n else t.f j,t.keys,t.last⟩
theorem XM.lt {h:Zd} {tb:Nat} {O:Nat→Prop} {t:Tree} (ht:XM h tb O t):tb<sz h:=by
  obtain ⟨mb,base,ks,A,hi,ho⟩:=ht
  exact Zr hi.cells
theorem XM.own {h:Zd} {tb:Nat} {O:Nat→Prop} {t:Tree} (ht:XM h tb O t):O tb:=by
  obtain ⟨mb,base,ks,A,hi,ho⟩:=ht
  exact ho tb (.inl rfl)
theorem XM.last {h:Zd} {tb:Nat} {O:Nat→Prop} {t:Tree} (ht:XM h tb O t):Z7 2 (obj h tb)=some (iv t.last):=by
  obtain ⟨mb,base,ks,A,hi,ho⟩:=ht
  exact Zb hi.cells rfl
theorem XM.keys {h:Zd} {tb:Nat} {O:Nat→Prop} {t:Tree} (ht:XM h tb O t):∃ ks:Sl,Z7 1 (obj h tb)=some (slV ks)∧ks.len=t.keys.length∧t.keys.length≤512:=by
  obtain ⟨mb,base,ks,A,hi,ho⟩:=ht
  have hl:=hi.row.len
  rw [YZ Za8] at hl
  exact ⟨ks,Zb hi.cells rfl,(Nat.eq_of_mul_eq_mul_right (by decide) hl).symm,hi.len⟩
theorem XM.look {h:Zd} {tb:Nat} {O:Nat→Prop} {t:Tree} (ht:XM h tb O t) (k:K4) :
    ∃ mb,Z7 0 (obj h tb)=some (.map (some mb))∧((t.f k=none∧∀ K:Option Value→Prop,K none→ZbZ [(.int .u8),.string,.string,.string] h (some mb) (k4L k) K) ∨
      ∃ q n,t.f k=some n∧Zc2 h q n∧(∀ j,inN q j→O j∧j≠tb)∧(∀ K:Option Value→Prop,K (some (.pointer (some ⟨q+4,0,none⟩)))→ZbZ [(.int .u8),.string,.string,.string] h (some mb) (k4L k) K) ∧
        ∀ h' n',Zc2 h' q n'→Upd (inN q) h h'→XM h' tb O (t.put k n')):=by
  obtain ⟨mb,base,ks,A,hi,ho⟩:=ht
  obtain ⟨n,hm⟩:=hi.map
  refine ⟨mb,Zb hi.cells rfl,?_⟩
  rcases hi.node k with ⟨a,b⟩ | ⟨q,n,a,b,c⟩
  ·exact .inl ⟨b,fun K hK=>hm.get k (by rw [a];exact hK)⟩
  ·refine .inr ⟨q,n,b,c,fun j hj=>⟨ho j (.inr (.inr (.inr ⟨k,q,a,hj⟩))),(hi.out k q a j hj).1⟩,fun K hK=>hm.get k (by rw [a];exact hK),fun h' n' hn' u=>?_⟩
   have keep:∀ j,j<sz h→¬ inN q j→obj h' j=obj h j:=fun j hj hn=>u.old j hj hn
   refine ⟨mb,base,ks,A,⟨(keep tb (Zr hi.cells) fun hj=>(hi.out k q a _ hj).1 rfl).trans hi.cells,⟨_,hm.congr (keep mb hm.lt fun hj=>(hi.out k q a _ hj).2.1 rfl)⟩,
     hi.row.congr fun b hb hl _=>keep b hl fun hj=>(hi.out k q a _ hj).2.2 hb,hi.len,fun j=>?_,hi.disj,hi.mt,hi.kb,hi.out⟩,ho⟩
   by_cases e:j=k
   ·exact .inr ⟨q,n',by rw [e];exact a,if_pos e,hn'⟩
   ·rcases hi.node j with ⟨g1,g2⟩ | ⟨q2,n2,g1,g2,g3⟩
    ·exact .inl ⟨g1,(if_neg e).trans g2⟩
    ·refine .inr ⟨q2,n2,g1,(if_neg e).trans g2,g3.congr fun j2 w1 w2=>keep j2 (by have:=g3.lt;omega) fun hj=>?_⟩
     have:=hi.disj j k q2 q g1 a e
     obtain ⟨v1,v2⟩:=hj
     omega
theorem XM.setLast {h:Zd} {tb:Nat} {O:Nat→Prop} {t:Tree} (ht:XM h tb O t) {at_:Int} {K:Zd→Prop} (hk:∀ h',XM h' tb O ⟨t.f,t.keys,at_⟩→Upd O h h'→K h'):st h tb 2 (.int .i64 at_) K:=by
  obtain ⟨mb,base,ks,A,hi,ho⟩:=ht
  refine ZdD hi.cells (show 2<3 by decide) rfl fun h' c' u' z'=>hk h' ⟨mb,base,ks,A,⟨c',?_,?_,hi.len,fun j=>?_,hi.disj,hi.mt,hi.kb,hi.out⟩,ho⟩ (u'.mono fun j _ hj=>by rw [hj];exact ho tb (.inl rfl))
  ·obtain ⟨n,hm⟩:=hi.map
   exact ⟨n,hm.congr (u'.old _ hm.lt hi.mt)⟩
  ·exact hi.row.congr fun b hb hl _=>u'.old b hl (hi.kb b hb).1
  ·rcases hi.node j with g | ⟨q2,n2,g1,g2,g3⟩
   ·exact .inl g
   ·exact .inr ⟨q2,n2,g1,g2,g3.congr fun j2 w1 w2=>u'.old j2 (show j2<sz h by have:=g3.lt;omega) (hi.out j q2 g1 j2 ⟨w1,w2⟩).1⟩
def ZiI (h:Zd) (p:Option Addr) (o:Option Node):Prop:=(o=none∧p=none)∨∃ nb a ma b mb n,o=some n∧p=some ⟨nb,0,none⟩∧Zes h nb a ma b mb n
theorem ZiI.ext {h h':Zd} {p:Option Addr} {o:Option Node} (hf:ZiI h p o) (e:Ext h h'):ZiI h' p o:=by
  rcases hf with g | ⟨nb,a,ma,b,mb,n,h1,h2,h3⟩
  ·exact .inl g
  ·exact .inr ⟨nb,a,ma,b,mb,n,h1,h2,h3.ext e⟩
theorem Zha {h:Zd} {tb:Nat} {O:Nat→Prop} {t:Tree} (ht:XM h tb O t) {k:K4} {K:Option Addr→Zd→Prop} (hk:∀ h' p,Ext h h'→ZiI h' p (t.f k)→K p h'):XB (some ⟨tb,0,none⟩) k K h:=by
  unfold XB Zc9
  refine Yg fun h1 c1 e1 z1=>Zz (Zj ?_)
  obtain ⟨mb,hc,hg⟩:=(ht.ext e1).look k
  refine rM hc (rI (Zb c1 rfl) (rS (Zb c1 rfl) (rS (Zb c1 rfl) (rS (Zb c1 rfl) ?_))))
  rcases hg with ⟨hn,hg⟩ | ⟨q,n,hn,hr,_,hg,_⟩
  ·refine hg _ ⟨none,rfl,Zmu (hk h1 none e1 (.inl ⟨hn,rfl⟩))⟩
  ·refine hg _ ⟨_,rfl,ZnR hr fun h2 n2 e2 z2=>hk h2 _ (e1.trans e2) (.inr ⟨_,_,_,_,_,n,hn,rfl,n2⟩)⟩
theorem Zq0 {t:Tree} {k j:K4} (h:j≠k):(t.make k).isNew j=t.isNew j:=by
  unfold Tree.make Tree.isNew
  split
  ·rfl
  ·show (if j=k then some Node.zero else t.f j).isNone=_
   rw [if_neg h]
theorem Zjq {t:Tree} {k:K4}:∀ {l:List K4},k∉l→(t.make k).freshN l=t.freshN l
  | [],_=>rfl
  | x::l,h=>by
    have h1:x≠k:=fun e=>h (by rw [e];exact List.mem_cons_self ..)
    have ih:=Zjq (t:=t) (k:=k) (l:=l) fun hm=>h (List.mem_cons_of_mem _ hm)
    unfold Tree.freshN at ih ⊢
    rw [List.filter_cons,List.filter_cons,Zq0 h1]
    split<;>simp [ih]
theorem Zq1 (t:Tree) (k:K4):(t.make k).keys.length=t.keys.length+(if t.isNew k=true then 1 else 0):=by
  unfold Tree.make Tree.isNew
  cases h:t.f k with
  | none=>simp
  | some n=>simp
theorem ZjC (t:Tree) (k:K4) (l:List K4):t.freshN (k::l)=(if t.isNew k=true then 1 else 0)+t.freshN l:=by
  unfold Tree.freshN
  rw [List.filter_cons]
  split
  ·rw [List.length_cons];omega
  ·omega
def Tree.room (t:Tree) (l:List K4):Prop:=t.keys.length+t.freshN l≤512
instance (t:Tree) (l:List K4):Decidable (t.room l):=inferInstanceAs (Decidable (_≤_))
theorem ZhV {t:Tree} {k:K4} {l:List K4} (hr:t.room (k::l)) (hn:k∉l):(t.isNew k=true→t.keys.length<512)∧(t.make k).room l:=by
  unfold Tree.room at *
  rw [ZjC] at hr
  rw [Zq1,Zjq hn]
  refine ⟨fun e=>?_,?_⟩
  ·rw [if_pos e] at hr;omega
  ·omega
theorem Zdx (c:C8):(Z1 c).Nodup:=by
  unfold Z1 Znu ZtH
  split<;>split<;>simp
theorem Zgr (c:C8):(Z1 c).length≤5:=by
  unfold Z1 Znu ZtH
  split<;>split<;>simp
theorem Zai {S T:Nat→Prop} {a b c:Zd} (h:Upd S a b) (h':Upd T b c) (hs:∀ k,k<sz a→T k→S k):Upd S a c :=
  ⟨Nat.le_trans h.size h'.size,fun k hk hn=>(h'.old k (Nat.lt_of_lt_of_le hk h.size) fun hT=>hn (hs k hk hT)).trans (h.old k hk hn)⟩
theorem ZgJ {at_:Int} {K:Bool→Zd→Prop} {h:Zd} (hk:K (inB at_ 0 1152921504606846976) h):Xs at_ K h:=by
  unfold Xs ZeI
  unfold inB at hk
  exact ⟨fun e=>by rw [e] at hk;exact Zc hk,fun e=>by rw [e] at hk;exact hk⟩
def Tree.full (t:Tree) (k:K4):Bool:=match t.f k with
  | some n=>decide (n.fl≥4096)
  | none=>false
theorem Znz {h:Zd} {tb rb:Nat} {O:Nat→Prop} {t:Tree} {T:TypeId} (ht:XM h tb O t) (hb:obj h rb=some (.cells [.pointer (some ⟨tb,0,none⟩)].toArray T (0,0))) {k:K4} {K:Bool→Zd→Prop} (hk:∀ h',Ext h h'→K (t.full k) h'):X8 k (some ⟨rb,0,none⟩) K h:=by
  unfold X8 Zci
  refine Yg fun h1 c1 e1 z1=>Zj (rP (Zb (Zl hb e1) rfl) (Zj ?_))
  obtain ⟨mb,hc,hg⟩:=(ht.ext e1).look k
  have hd:Zo h1 [(rb,0,.pointer (some ⟨tb,0,none⟩))]:=YM (Zb (Zl hb e1) rfl)
  have hk1:=hk h1 e1
  unfold Tree.full at hk1
  refine rM hc (rI (Zb c1 rfl) (rS (Zb c1 rfl) (rS (Zb c1 rfl) (rS (Zb c1 rfl) ?_))))
  rcases hg with ⟨hn,hg⟩ | ⟨q,n,hn,hr,_,hg,_⟩
  ·rw [hn] at hk1
   exact hg _ ⟨none,rfl,hd,ZfA ⟨hd,Zc hk1⟩⟩
  ·rw [hn] at hk1
   exact hg _ ⟨_,rfl,hd,Zga hr ⟨hd,Zc hk1⟩⟩
theorem Zp7 {h:Zd} {tb rb:Nat} {O:Nat→Prop} {t:Tree} {T:TypeId} (ht:XM h tb O t) (hb:obj h rb=some (.cells [.pointer (some ⟨tb,0,none⟩)].toArray T (0,0))) {s:Sl} {l:List K4} (hs:Row h s 4 (l.flatMap k4L)) (hl:l.length≤100000)
    {K:Bool→Zd→Prop} (hk:∀ h',Ext h h'→K (l.any t.full) h'):Zn s (some ⟨rb,0,none⟩,()) K h:=by
  unfold Zn Z3 ZN Ya
  have hlen:=hs.len
  rw [YZ Za8] at hlen
  have hsl:s.len=l.length:=(Nat.eq_of_mul_eq_mul_right (by decide) hlen).symm
  refine Za (YX (fun p hh=>∃ i:Nat,p=((i:Int),())∧i≤l.length∧Ext h hh∧(l.take i).any t.full=false) (fun p _=>l.length - p.1.toNat) ⟨0,rfl,Nat.zero_le _,Ext.refl _,rfl⟩ ?_)
  rintro _ hh ⟨i,rfl,hil,he,ha⟩ Q hQ
  dsimp only
  refine Zu (fun q=>?_) fun q=>?_
  ·have hi1:i<l.length:=by omega
   have hg:l[i]?=some l[i]:=List.getElem?_eq_getElem hi1
   generalize l[i]=k at hg
   obtain ⟨b,o,hb9,hlt,hidx,hc⟩:=Zdj Za8 (hs.ext he) hg (by decide)
   have v0:=hc 0 _ rfl
   have v1:=hc 1 _ rfl
   have v2:=hc 2 _ rfl
   have v3:=hc 3 _ rfl
   have hwr:IntKind.wrap .i64 ((i:Int)+1)=((i+1:Nat):Int):=wrS hi1 (by omega)
   have htk:l.take (i+1)=l.take i++[k]:=by rw [List.take_add_one,hg];rfl
   refine Za (hidx rfl (rI v0 (rS v1 (rS v2 (rS v3 (Znz (ht.ext he) (Zl hb he) fun h1 e1=>⟨fun hf=>?_,fun hf=>?_⟩))))))
   ·have:l.any t.full=true:=List.any_eq_true.2 ⟨k,List.mem_of_getElem? hg,hf⟩
    rw [this] at hk
    refine Za (Zc ?_)
    have:decide ((i:Int)≥0)=true:=by simp
    rw [this]
    exact hk _ (he.trans e1)
   ·rw [hwr]
    refine hQ _ _ ⟨i+1,rfl,hi1,he.trans e1,?_⟩ (by show l.length - ((i+1:Nat):Int).toNat<l.length - ((i:Nat):Int).toNat;omega)
    have hf':t.full k=false:=hf
    rw [htk,List.any_append,ha];simp [hf']
  ·have hfull:l.take i=l:=List.take_of_length_le (by omega)
   rw [hfull] at ha
   rw [ha] at hk
   exact Za (Zc (hk _ he))
def Tree.on (t:Tree) (k:K4) (g:Node→Node):Tree:=match t.f k with
  | some n=>t.put k (g n)
  | none=>t
def Tree.steps (g:Node→Node):List K4→Tree→Tree
  | [],t=>t
  | k::l,t=>Tree.steps g l ((t.make k).on k g)
def Tree.noteE (t:Tree) (c:C8) (full:Bool):Int :=
  if Zen c≠0 then Zen c else if ¬ (0≤c.1∧c.1≤1152921504606846976) then 2 else if ¬ (1≤c.2.2.2.2.2.1∧c.2.2.2.2.2.1≤1099511627776) then 2 else if c.1<t.last then 7
  else if ¬ t.room (Z1 c) then 3 else if full=true∧(Z1 c).any t.full=true then 3 else 0
def Tree.noted (t:Tree) (c:C8) (full:Bool) (g:Node→Node):Tree:=if t.noteE c full=0 then (let t':=t.steps g (Z1 c);⟨t'.f,t'.keys,c.1⟩) else t
theorem Zq2 (t:Tree) (k:K4):∃ n,(t.make k).f k=some n:=by
  unfold Tree.make
  split
  ·rename_i n h;exact ⟨n,h⟩
  ·exact ⟨Node.zero,if_pos rfl⟩
theorem Ztb (t:Tree) (k:K4) (g:Node→Node):(t.on k g).keys=t.keys:=by unfold Tree.on;split<;>rfl
theorem ZrL (t:Tree) (k j:K4) (g:Node→Node):(t.on k g).isNew j=t.isNew j:=by
  unfold Tree.on
  split
  ·rename_i n h
   unfold Tree.isNew Tree.put
   dsimp only
   by_cases e:j=k
   ·rw [if_pos e,e,h];rfl
   ·rw [if_neg e]
  ·rfl
theorem Zta {t:Tree} {k:K4} {g:Node→Node} {l:List K4} (h:t.room l):(t.on k g).room l:=by
  unfold Tree.room Tree.freshN at *
  rw [Ztb]
  have:(t.on k g).isNew=t.isNew:=funext fun j=>ZrL t k j g
  rw [this];exact h
abbrev Zhy (O O':Nat→Prop) (h h':Zd):Prop:=(∀ j,O' j→O j∨(sz h≤j∧j<sz h'))∧∀ j,O j→O' j
theorem Zjk {f:Option Addr→Option Addr→(Int→Zd→Prop)→Zd→Prop} {g:Node→Node} {cb:Nat} {x:Obj} (hf:∀ (h:Zd) (q:Nat) (n:Node) (K:Int→Zd→Prop),Zc2 h q n→obj h cb=some x→(∀ e h',Zc2 h' q (g n)→Upd (inN q) h h'→K e h')→f (some ⟨q+4,0,none⟩) (some ⟨cb,0,none⟩) K h)
    {h:Zd} {tb:Nat} {O:Nat→Prop} {t:Tree} (ht:XM h tb O t) (hO:∀ j,O j→j<sz h) (hcb:obj h cb=some x) (hcO:¬ O cb) {c:C8} (hz:ZfM c) {full:Bool} {K:Int→Zd→Prop}
    (hk:∀ h' O',XM h' tb O' (t.noted c full g)→Upd O h h'→Zhy O O' h h'→K (t.noteE c full) h') :
    YG Xd Xs Yy Zn Yx f (some ⟨tb,0,none⟩) c full (some ⟨cb,0,none⟩,()) K h:=by
  have no:∀ e (h9:Zd),Ext h h9→e≠0→t.noteE c full=e→K e h9:=fun e h9 e9 h1 h2=>by
    have:=hk h9 O (by unfold Tree.noted;rw [if_neg (by rw [h2];exact h1)];exact ht.ext e9) (e9.upd _) ⟨fun j hj=> .inl hj,fun j hj=>hj⟩
    rwa [h2] at this
  unfold YG
  refine Yg fun h1 c1 e1 z1=>Yg fun h3 c3 e3 z3=>Za ?_
  have p3:=Zl c1 e3
  refine rP (Zb p3 rfl) (Zz (rI (Zb c3 rfl) (rS (Zb c3 rfl) (rS (Zb c3 rfl) (rS (Zb c3 rfl) (rB (Zb c3 rfl) (rI (Zb c3 rfl) (rL (Zb c3 rfl) ?_))))))))
  refine Zfz (c:=c) hz fun s h4 e4 o4=>Za (Zc (Zdt (fun q1=>Za ?_) fun q1=>?_))
  ·exact no _ h4 ((e1.trans e3).trans e4) q1 (by unfold Tree.noteE;rw [if_pos q1])
  rw [if_pos q1] at o4
  have e04:Ext h h4:=(e1.trans e3).trans e4
  have c4:=Zl c3 e4
  have p4:=Zl p3 e4
  have t4:=ht.ext e04
  refine rI (Zb c4 rfl) (ZgJ ?_)
  by_cases ha:0≤c.1∧c.1≤1152921504606846976
  case neg =>
    have:inB c.1 0 1152921504606846976=false:=by unfold inB;simp;omega
    rw [this]
    exact YL (Za (no 2 h4 e04 (by decide) (by unfold Tree.noteE;rw [if_neg (fun h9=>h9 q1),if_pos ha])))
  have:inB c.1 0 1152921504606846976=true:=by unfold inB;simp;omega
  rw [this]
  refine Zz (rI (Zb c4 rfl) ?_)
  by_cases hc:1≤c.2.2.2.2.2.1∧c.2.2.2.2.2.1≤1099511627776
  case neg =>
    have hE:t.noteE c full=2:=by unfold Tree.noteE;rw [if_neg (fun h9=>h9 q1),if_neg (fun h9=>h9 ha),if_pos hc]
    refine Zu (fun q2=>Za (no 2 h4 e04 (by decide) hE)) fun q2=>rI (Zb c4 rfl) (Zc (Zu (fun q3=>Za (no 2 h4 e04 (by decide) hE)) fun q3=>?_))
    exact absurd ⟨by omega,by omega⟩ hc
  refine Zu (fun q2=>by omega) fun q2=>rI (Zb c4 rfl) (Zc (Zu (fun q3=>by omega) fun q3=>?_))
  refine rI (Zb c4 rfl) (rP (Zb p4 rfl) (Zj (rI t4.last (Zc (Zu (fun q4=>Za (no 7 h4 e04 (by decide) ?_)) fun q4=>?_)))))
  ·unfold Tree.noteE;rw [if_neg (fun h9=>h9 q1),if_neg (fun h9=>h9 ha),if_neg (fun h9=>h9 hc),if_pos q4]
  obtain ⟨ks,hks,hkl,hk5⟩:=t4.keys
  refine rP (Zb p4 rfl) (Zj (rP (Zb p4 rfl) (Zj (rL hks ?_))))
  have hkn:=Zgr c
  refine ZjB t4 o4.row (Zdx c) (by omega) fun h5 e5=>?_
  have t5:=t4.ext e5
  have p5:=Zl p4 e5
  have c5:=Zl c4 e5
  have e05:=e04.trans e5
  have hks5:Z7 1 (obj h5 tb)=some (slV ks):=by rw [Z6 e5 t4.lt];exact hks
  refine ⟨YM hks5,YM (Zb p5 rfl),YM (Zb p5 rfl),Zc ?_⟩
  rw [hkl,XH (by omega) (by omega)]
  have hroom:((t.freshN (Z1 c):Int)>512 - (t.keys.length:Int))↔¬ t.room (Z1 c):=by unfold Tree.room;omega
  refine Zu (fun q5=>Za (no 3 h5 e05 (by decide) ?_)) fun q5=>?_
  ·unfold Tree.noteE;rw [if_neg (fun h9=>h9 q1),if_neg (fun h9=>h9 ha),if_neg (fun h9=>h9 hc),if_neg q4,if_pos (hroom.1 q5)]
  have hr:t.room (Z1 c):=Classical.byContradiction fun h9=>q5 (hroom.2 h9)
  refine ZrP (fun _ h6=>Ext h5 h6∧¬ (full=true∧(Z1 c).any t.full=true)) ?_ fun Q hQ=>?_
  case refine_2 =>
    refine ⟨fun hb=>Zp7 t5 p5 (o4.row.ext e5) (by omega) fun h6 e6=>⟨fun ha9=>Za (no 3 h6 (e05.trans e6) (by decide) ?_),fun ha9=>hQ _ _ ⟨e6,fun h9=>?_⟩⟩,fun hb=>hQ _ _ ⟨Ext.refl _,fun h9=>?_⟩⟩
    ·unfold Tree.noteE;rw [if_neg (fun h9=>h9 q1),if_neg (fun h9=>h9 ha),if_neg (fun h9=>h9 hc),if_neg q4,if_neg (fun h9=>h9 hr),if_pos ⟨hb,ha9⟩]
    ·rw [h9.2] at ha9;cases ha9
    ·rw [h9.1] at hb;cases hb
  rintro _ h6 ⟨e6,hnf⟩
  have hE:t.noteE c full=0:=by unfold Tree.noteE;rw [if_neg (fun h9=>h9 q1),if_neg (fun h9=>h9 ha),if_neg (fun h9=>h9 hc),if_neg q4,if_neg (fun h9=>h9 hr),if_neg hnf]
  have hN:t.noted c full g=⟨(t.steps g (Z1 c)).f,(t.steps g (Z1 c)).keys,c.1⟩:=by unfold Tree.noted;rw [if_pos hE]
  rw [hE,hN] at hk
  have hlen:=o4.row.len
  rw [YZ Za8] at hlen
  have hsl:s.len=(Z1 c).length:=(Nat.eq_of_mul_eq_mul_right (by decide) hlen).symm
  have e46:=e5.trans e6
  have e06:=e05.trans e6
  have zz:sz h≤sz h1:=e1.size
  have w1:sz h1=sz h+1:=z1
  have w3:sz h3=sz h1+1:=z3
  have w4:sz h3≤sz h4:=e4.size
  have w46:sz h4≤sz h6:=e46.size
  have rows:∀ b,s.blk=some b→sz h≤b∧b<sz h4:=fun b hb=>by have:sz h3≤b∧b<sz h4:=o4.lt hb;omega
  refine YX (fun p hh=>∃ (i:Nat) (l2:List K4) (t2:Tree) (O2:Nat→Prop),p=((i:Int),())∧i≤(Z1 c).length∧(Z1 c).drop i=l2∧Tree.steps g l2 t2=Tree.steps g (Z1 c) t∧XM hh tb O2 t2∧t2.room l2∧Upd O h6 hh∧Zhy O O2 h6 hh)
    (fun p _=>(Z1 c).length - p.1.toNat) ⟨0,_,t,O,rfl,Nat.zero_le _,rfl,rfl,t5.ext e6,hr,Upd.refl _ _,fun j hj=> .inl hj,fun j hj=>hj⟩ ?_
  rintro _ hh ⟨i,l2,t2,O2,rfl,hil,hdr,hst,ht2,hr2,hu,hg1,hg2⟩ Q hQ
  have nO:∀ j,sz h≤j→¬ O j:=fun j hj h9=>by have:=hO j h9;omega
  have old:∀ {j:Nat} {y:Obj},obj h6 j=some y→¬ O j→obj hh j=some y:=fun {j y} hj hn=>(hu.old j (Zr hj) hn).trans hj
  have p6:obj hh (sz h)=_:=old (Zl p5 e6) (nO _ (Nat.le_refl _))
  have c6:obj hh (sz h1)=_:=old (Zl c5 e6) (nO _ (by omega))
  have x6:obj hh cb=some x:=old (Zl hcb e06) hcO
  have w6:sz h6≤sz hh:=hu.size
  dsimp only
  refine Zu (fun q=>?_) fun q=>?_
  ·have hi1:i<(Z1 c).length:=by omega
   have hg:(Z1 c)[i]?=some (Z1 c)[i]:=List.getElem?_eq_getElem hi1
   have hdc:l2=(Z1 c)[i]::(Z1 c).drop (i+1):=by rw [← hdr];exact List.drop_eq_getElem_cons hi1
   generalize (Z1 c)[i]=k at hg hdc
   subst hdc
   have hnk:k∉(Z1 c).drop (i+1):=by
     have:=Zdx c
     rw [← List.take_append_drop i (Z1 c),List.nodup_append] at this
     rw [hdr] at this
     exact (List.nodup_cons.1 this.2.1).1
   obtain ⟨hm1,hm2⟩:=ZhV hr2 hnk
   have row6:Row hh s 4 ((Z1 c).flatMap k4L):=(o4.row.ext e46).congr fun b o hb _ hl=>hu.old b hl (nO _ (rows b (by simp [Sl.blk,hb])).1)
   obtain ⟨b,o,hb9,hlt,hidx,hcc⟩:=Zdj Za8 row6 hg (by decide)
   have v0:=hcc 0 _ rfl
   have v1:=hcc 1 _ rfl
   have v2:=hcc 2 _ rfl
   have v3:=hcc 3 _ rfl
   have hwr:IntKind.wrap .i64 ((i:Int)+1)=((i+1:Nat):Int):=wrS hi1 (by omega)
   refine hidx rfl (rI v0 (rS v1 (rS v2 (rS v3 (Yg fun h7 c7 e7 z7=>ZaE c7 fun h8 c8 u8 z8=>?_)))))
   have e8:Ext hh h8:=e7.then u8 fun k hk=>by subst hk;exact Nat.le_refl _
   refine rP (Zb (Zl p6 e8) rfl) (Zj (rI (Zb c8 rfl) (rS (Zb c8 rfl) (rS (Zb c8 rfl) (rS (Zb c8 rfl) ?_)))))
   refine Zjr (k:=k) (ht2.ext e8) hm1 fun h9 O9 t9 u9 g9 g9'=>?_
   have w8:sz hh≤sz h8:=e8.size
   have w9:sz h8≤sz h9:=u9.size
   have nO2:∀ j,j<sz h6→¬ O j→¬ O2 j:=fun j hj hn h99=>by
     rcases hg1 j h99 with g | g
     ·exact hn g
     ·omega
   have old9:∀ {j:Nat} {y:Obj},obj hh j=some y→j<sz h6→¬ O j→obj h9 j=some y:=fun {j y} hj hl hn=>(u9.old j (show j<sz h8 by omega) (nO2 j hl hn)).trans (Zl hj e8)
   have l0:sz h<sz h6:=by omega
   have l1:sz h1<sz h6:=by omega
   have p9:=old9 p6 l0 (nO _ (Nat.le_refl _))
   have x9:=old9 x6 (Zr (Zl hcb e06)) hcO
   have c9:obj h9 (sz hh)=_:=(u9.old (sz hh) (Zr c8) (fun h99=>by
     rcases hg1 _ h99 with g | g
     ·have:=hO _ g;omega
     ·omega)).trans c8
   refine ⟨YM (Zb p9 rfl),rP (Zb p9 rfl) (Zj ?_)⟩
   obtain ⟨mb,hc9,hg9⟩:=t9.look k
   refine rM hc9 (rI (Zb c9 rfl) (rS (Zb c9 rfl) (rS (Zb c9 rfl) (rS (Zb c9 rfl) ?_))))
   obtain ⟨n,hn⟩:=Zq2 t2 k
   rcases hg9 with ⟨hn',_⟩ | ⟨q9,n9,hn',hr9,hq9,hg9,hput⟩
   ·rw [hn] at hn';cases hn'
   rw [hn] at hn'
   cases hn'
   refine hg9 _ ⟨_,rfl,YM (Zb p9 rfl),hf h9 q9 n _ hr9 x9 fun e h10 n10 u10=>?_⟩
   have t10:=hput h10 _ n10 u10
   have hO9:∀ j,O9 j→O j∨sz h6≤j:=fun j hj=>by
     rcases g9 j hj with g | g
     ·rcases hg1 j g with g | g
      ·exact .inl g
      ·exact .inr g.1
     ·exact .inr (by omega)
   have p10:obj h10 (sz h)=_:=(u10.old (sz h) (Zr p9) (fun h99=>by
     rcases hO9 _ (hq9 _ h99).1 with g | g
     ·exact nO _ (Nat.le_refl _) g
     ·omega)).trans p9
   refine ⟨YM (Zb p10 rfl),?_⟩
   rw [hwr]
   have hon:(t2.make k).on k g=(t2.make k).put k (g n):=by unfold Tree.on;rw [hn]
   refine hQ _ _ ⟨i+1,(Z1 c).drop (i+1),(t2.make k).on k g,O9,rfl,hi1,rfl,hst,by rw [hon];exact t10,Zta hm2,?_,?_,?_⟩ (by show (Z1 c).length - ((i+1:Nat):Int).toNat<(Z1 c).length - ((i:Nat):Int).toNat;omega)
   ·refine Zai (Zai (hu.trans (e8.upd O)) u9 fun j hj hO2=>Classical.byContradiction fun h99=>nO2 j hj h99 hO2) u10 fun j hj hq=>?_
    rcases hO9 j (hq9 j hq).1 with g | g
    ·exact g
    ·omega
   ·intro j hj
    have w10:sz h9≤sz h10:=u10.size
    rcases g9 j hj with g | g
    ·rcases hg1 j g with g | g
     ·exact .inl g
     ·exact .inr (by omega)
    ·exact .inr (by omega)
   ·exact fun j hj=>g9' j (hg2 j hj)
  ·have hl2:l2=[]:=by rw [← hdr];exact List.drop_eq_nil_of_le (by omega)
   subst hl2
   refine rP (Zb p6 rfl) (rI (Zb c6 rfl) (Zj (ht2.setLast fun h7 t7 u7=>Za (hk h7 O2 ?_ ?_ ?_))))
   ·rw [← hst];exact t7
   ·refine Zai ((e06.upd O).trans hu) u7 fun j hj hO2=>?_
    have w06:sz h≤sz h6:=e06.size
    rcases hg1 j hO2 with g | g
    ·exact g
    ·omega
   ·have w7:sz hh≤sz h7:=u7.size
    have w06:sz h≤sz h6:=e06.size
    refine ⟨fun j hj=>?_,hg2⟩
    rcases hg1 j hj with g | g
    ·exact .inl g
    ·exact .inr (by omega)
abbrev Zrh (c:C8):Obj:= .cells (c8L c).toArray 47 (0,0)
theorem Znk {c:C8} {cb:Nat} (h:Zd) (q:Nat) (n:Node) (K:Int→Zd→Prop) (hn:Zc2 h q n) (hc:obj h cb=some (Zrh c)) (hk:∀ e h',Zc2 h' q (n.passed c.1 c.2.2.2.2.2.1)→Upd (inN q) h h'→K e h') :
    X9 (some ⟨q+4,0,none⟩) (some ⟨cb,0,none⟩) K h:=by
  unfold X9 Zcj
  refine Za (Zj (rI (Zb hc rfl) (Zj (rI (Zb hc rfl) (Yg fun h1 c1 e1 z1=>?_)))))
  exact ZnP (hn.ext e1) (ZiR c1 rfl) fun h2 n2 u2=>Za (hk _ h2 n2 (Zvi e1 u2))
theorem Zmn {c:C8} {cb:Nat} (h:Zd) (q:Nat) (n:Node) (K:Int→Zd→Prop) (hn:Zc2 h q n) (hc:obj h cb=some (Zrh c)) (hk:∀ e h',Zc2 h' q (n.blocked c.1 c.2.2.2.2.2.1)→Upd (inN q) h h'→K e h') :
    XT (some ⟨q+4,0,none⟩) (some ⟨cb,0,none⟩) K h:=by
  unfold XT ZbQ
  refine Za (Zj (rI (Zb hc rfl) (Zj (rI (Zb hc rfl) (Yg fun h1 c1 e1 z1=>?_)))))
  exact Zmv (hn.ext e1) (ZiR c1 rfl) fun h2 n2 u2=>Za (hk _ h2 n2 (Zvi e1 u2))
def Tree.passed (t:Tree) (c:C8):Tree:=t.noted c true fun n=>n.passed c.1 c.2.2.2.2.2.1
def Tree.blocked (t:Tree) (c:C8):Tree:=t.noted c false fun n=>n.blocked c.1 c.2.2.2.2.2.1
theorem ZdI {O O':Nat→Prop} {h h1 h':Zd} (e:Ext h h1) (g:Zhy O O' h1 h'):Zhy O O' h h':=by
  refine ⟨fun j hj=>?_,g.2⟩
  have:sz h≤sz h1:=e.size
  rcases g.1 j hj with g | g
  ·exact .inl g
  ·exact .inr (by omega)
theorem ZjU {h:Zd} {tb:Nat} {O:Nat→Prop} {t:Tree} (ht:XM h tb O t) (hO:∀ j,O j→j<sz h) {c:C8} (hz:ZfM c) {K:Int→Zd→Prop}
    (hk:∀ e h' O',XM h' tb O' (t.passed c)→Upd O h h'→Zhy O O' h h'→K e h'):ZaS (some ⟨tb,0,none⟩) c K h:=by
  unfold ZaS Zc8
  refine Yg fun h1 c1 e1 z1=>Za (rI (Zb c1 rfl) (rS (Zb c1 rfl) (rS (Zb c1 rfl) (rS (Zb c1 rfl) (rB (Zb c1 rfl) (rI (Zb c1 rfl) (rL (Zb c1 rfl) ?_)))))))
  exact Zjk (x:=Zrh c) (cb:=sz h) (g:=fun n=>n.passed c.1 c.2.2.2.2.2.1) (Znk (c:=c)) (ht.ext e1) (fun j hj=>by have:=hO j hj;have:sz h≤sz h1:=e1.size;omega) c1 (fun h9=>by have:=hO _ h9;omega) (c:=c) hz
    fun h2 O2 t2 u2 g2=>Za (hk _ h2 O2 t2 ((e1.upd O).trans u2) (ZdI e1 g2))
theorem ZiH {h:Zd} {tb:Nat} {O:Nat→Prop} {t:Tree} (ht:XM h tb O t) (hO:∀ j,O j→j<sz h) {c:C8} (hz:ZfM c) {K:Int→Zd→Prop}
    (hk:∀ e h' O',XM h' tb O' (t.blocked c)→Upd O h h'→Zhy O O' h h'→K e h'):Zau (some ⟨tb,0,none⟩) c K h:=by
  unfold Zau ZcB
  refine Yg fun h1 c1 e1 z1=>Za (rI (Zb c1 rfl) (rS (Zb c1 rfl) (rS (Zb c1 rfl) (rS (Zb c1 rfl) (rB (Zb c1 rfl) (rI (Zb c1 rfl) (rL (Zb c1 rfl) ?_)))))))
  exact Zjk (x:=Zrh c) (cb:=sz h) (g:=fun n=>n.blocked c.1 c.2.2.2.2.2.1) (Zmn (c:=c)) (ht.ext e1) (fun j hj=>by have:=hO j hj;have:sz h≤sz h1:=e1.size;omega) c1 (fun h9=>by have:=hO _ h9;omega) (c:=c) hz
    fun h2 O2 t2 u2 g2=>Za (hk _ h2 O2 t2 ((e1.upd O).trans u2) (ZdI e1 g2))
def Tree.makes:List K4→Tree→Tree
  | [],t=>t
  | k::l,t=>Tree.makes l (t.make k)
def Tree.touchE (t:Tree) (c:C8):Int:=if Zen c≠0 then Zen c else if ¬ t.room (Z1 c) then 3 else 0
def Tree.touched (t:Tree) (c:C8):Tree:=if t.touchE c=0 then t.makes (Z1 c) else t
theorem ZjT {h:Zd} {tb:Nat} {O:Nat→Prop} {t:Tree} (ht:XM h tb O t) (hO:∀ j,O j→j<sz h) {c:C8} (hz:ZfM c) {cs:Sl} (hcs:Row h cs 7 (c8L c)) (hcb:∀ b,cs.blk=some b→¬ O b) {K:Int→Zd→Prop}
    (hk:∀ h' O',XM h' tb O' (t.touched c)→Upd O h h'→Zhy O O' h h'→K (t.touchE c) h'):Zat (some ⟨tb,0,none⟩) cs K h:=by
  have hcl:cs.len=1:=by have:=hcs.len;simp [c8L] at this;omega
  have no:∀ e (h9:Zd),Ext h h9→e≠0→t.touchE c=e→K e h9:=fun e h9 e9 h1 h2=>by
    have:=hk h9 O (by unfold Tree.touched;rw [if_neg (by rw [h2];exact h1)];exact ht.ext e9) (e9.upd _) ⟨fun j hj=> .inl hj,fun j hj=>hj⟩
    rwa [h2] at this
  unfold Zat ZcA
  refine Za (Zz (YX (fun p hh=>Ext h hh∧((p=(⟨none,0,0⟩,0,())∧hh=h)∨(p.2.1=1∧Zen c=0∧Own hh (sz h) p.1 4 ((Z1 c).flatMap k4L)))) (fun p _=>(1 - p.2.1).toNat) ⟨Ext.refl _,.inl ⟨rfl,rfl⟩⟩ ?_))
  rintro ⟨al,i,u⟩ hh ⟨he,⟨hp,hh9⟩ | ⟨hp,hE,ho⟩⟩ Q hQ
  ·injection hp with p1 p2
   injection p2 with p2 p3
   subst p1
   subst p2
   subst hh9
   dsimp only
   rw [hcl]
   refine YL ?_
   obtain ⟨b,o,hb9,hlt,hidx,hcc⟩:=Zdj (α:=C8) (g:=c8L) (n:=7) (fun _=>rfl) (l:=[c]) (by simpa using hcs) (i:=0) rfl (by decide)
   have hidx':∀ {K:Nat→Nat→Prop},K b o→Xy cs.ptr 1 0 7 K:=fun {K} hk=>by have:=hidx (K:=K) (m:=0) rfl hk;rwa [hcl] at this
   refine hidx' (rI (hcc 0 _ rfl) (rS (hcc 1 _ rfl) (rS (hcc 2 _ rfl) (rS (hcc 3 _ rfl) (rB (hcc 4 _ rfl) (rI (hcc 5 _ rfl) (rL (hcc 6 _ rfl) (Yg fun h1 c1 e1 z1=>ZaE c1 fun h2 c2 u2 z2=>?_))))))))
   have e2:Ext hh h2:=e1.then u2 fun k hk=>by subst hk;exact Nat.le_refl _
   refine rI (Zb c2 rfl) (rS (Zb c2 rfl) (rS (Zb c2 rfl) (rS (Zb c2 rfl) (rB (Zb c2 rfl) (rI (Zb c2 rfl) (rL (Zb c2 rfl) ?_))))))
   refine Zfz (c:=c) hz fun s h4 e4 o4=>Za (Zdt (fun q1=>Za (no _ h4 (e2.trans e4) q1 (by unfold Tree.touchE;rw [if_pos q1]))) fun q1=>?_)
   rw [if_pos q1] at o4
   refine o4.row.rd ?_
   have hlen:=o4.len
   rw [YZ Za8] at hlen
   have hsl:(Z1 c).length=s.len:=Nat.eq_of_mul_eq_mul_right (by decide) hlen
   refine Zwd (l:=[]) (Own.nil h4 (sz hh) 4) hsl (by have:=Zgr c;simp only [List.length_nil];omega) (e2.trans e4).size fun s5 h5 o5 _ u5=>hQ _ _ ⟨(e2.trans e4).then u5 fun k hk=>(by cases hk),.inr ⟨rfl,q1,o5⟩⟩ (show (1 - IntKind.wrap .i64 (0+1)).toNat<(1 - (0:Int)).toNat by decide)
  dsimp only at hp ho ⊢
  subst hp
  rw [hcl]
  refine Zz (Zj (Zj ?_))
  have hkn:=Zgr c
  have t1:=ht.ext he
  obtain ⟨ks,hks,hkl,hk5⟩:=t1.keys
  refine rL hks (ZjB t1 ho.row (Zdx c) (by omega) fun h5 e5=>?_)
  have t5:=t1.ext e5
  have hks5:Z7 1 (obj h5 tb)=some (slV ks):=by rw [Z6 e5 t1.lt];exact hks
  refine ⟨YM hks5,?_⟩
  rw [hkl,XH (by omega) (by omega)]
  have hroom:((t.freshN (Z1 c):Int)>512 - (t.keys.length:Int))↔¬ t.room (Z1 c):=by unfold Tree.room;omega
  refine Zu (fun q5=>Za (no 3 h5 (he.trans e5) (by decide) ?_)) fun q5=>?_
  ·unfold Tree.touchE;rw [if_neg (fun h9=>h9 hE),if_pos (hroom.1 q5)]
  have hr:t.room (Z1 c):=Classical.byContradiction fun h9=>q5 (hroom.2 h9)
  have hE0:t.touchE c=0:=by unfold Tree.touchE;rw [if_neg (fun h9=>h9 hE),if_neg (fun h9=>h9 hr)]
  have hN:t.touched c=t.makes (Z1 c):=by unfold Tree.touched;rw [if_pos hE0]
  rw [hE0,hN] at hk
  have hlen:=ho.row.len
  rw [YZ Za8] at hlen
  have hsl:al.len=(Z1 c).length:=(Nat.eq_of_mul_eq_mul_right (by decide) hlen).symm
  have e05:=he.trans e5
  have w5:sz h≤sz h5:=e05.size
  have rows:∀ b,al.blk=some b→sz h≤b∧b<sz h5:=fun b hb=>by
    have h9:sz h≤b∧b<sz hh:=ho.lt hb
    have:sz hh≤sz h5:=e5.size
    omega
  refine YX (fun p hh=>∃ (i:Nat) (l2:List K4) (t2:Tree) (O2:Nat→Prop),p=((i:Int),())∧i≤(Z1 c).length∧(Z1 c).drop i=l2∧Tree.makes l2 t2=Tree.makes (Z1 c) t∧XM hh tb O2 t2∧t2.room l2∧Upd O h5 hh∧Zhy O O2 h5 hh)
    (fun p _=>(Z1 c).length - p.1.toNat) ⟨0,_,t,O,rfl,Nat.zero_le _,rfl,rfl,t5,hr,Upd.refl _ _,fun j hj=> .inl hj,fun j hj=>hj⟩ ?_
  rintro _ h6 ⟨i,l2,t2,O2,rfl,hil,hdr,hst,ht2,hr2,hu,hg1,hg2⟩ Q hQ
  have nO:∀ j,sz h≤j→¬ O j:=fun j hj h9=>by have:=hO j h9;omega
  have w6:sz h5≤sz h6:=hu.size
  dsimp only
  refine Zu (fun q=>?_) fun q=>?_
  ·have hi1:i<(Z1 c).length:=by omega
   have hg:(Z1 c)[i]?=some (Z1 c)[i]:=List.getElem?_eq_getElem hi1
   have hdc:l2=(Z1 c)[i]::(Z1 c).drop (i+1):=by rw [← hdr];exact List.drop_eq_getElem_cons hi1
   generalize (Z1 c)[i]=k at hg hdc
   subst hdc
   have hnk:k∉(Z1 c).drop (i+1):=by
     have:=Zdx c
     rw [← List.take_append_drop i (Z1 c),List.nodup_append] at this
     rw [hdr] at this
     exact (List.nodup_cons.1 this.2.1).1
   obtain ⟨hm1,hm2⟩:=ZhV hr2 hnk
   have row6:Row h6 al 4 ((Z1 c).flatMap k4L):=(ho.row.ext e5).congr fun b o hb _ hl=>hu.old b hl (nO _ (rows b (by simp [Sl.blk,hb])).1)
   obtain ⟨b,o,hb9,hlt,hidx,hcc⟩:=Zdj Za8 row6 hg (by decide)
   have hwr:IntKind.wrap .i64 ((i:Int)+1)=((i+1:Nat):Int):=wrS hi1 (by omega)
   refine hidx rfl (rI (hcc 0 _ rfl) (rS (hcc 1 _ rfl) (rS (hcc 2 _ rfl) (rS (hcc 3 _ rfl) (Yg fun h7 c7 e7 z7=>ZaE c7 fun h8 c8 u8 z8=>?_)))))
   have e8:Ext h6 h8:=e7.then u8 fun k hk=>by subst hk;exact Nat.le_refl _
   refine Zj (rI (Zb c8 rfl) (rS (Zb c8 rfl) (rS (Zb c8 rfl) (rS (Zb c8 rfl) ?_))))
   refine Zjr (k:=k) (ht2.ext e8) hm1 fun h9 O9 t9 u9 g9 g9'=>?_
   have w8:sz h6≤sz h8:=e8.size
   have w9:sz h8≤sz h9:=u9.size
   rw [hwr]
   refine hQ _ _ ⟨i+1,(Z1 c).drop (i+1),t2.make k,O9,rfl,hi1,rfl,hst,t9,hm2,Zai (hu.trans (e8.upd O)) u9 fun j hj hO2=>?_,?_,?_⟩ (by show (Z1 c).length - ((i+1:Nat):Int).toNat<(Z1 c).length - ((i:Nat):Int).toNat;omega)
   ·rcases hg1 j hO2 with g | g
    ·exact g
    ·omega
   ·intro j hj
    rcases g9 j hj with g | g
    ·rcases hg1 j g with g | g
     ·exact .inl g
     ·exact .inr (by omega)
    ·exact .inr (by omega)
   ·exact fun j hj=>g9' j (hg2 j hj)
  ·have hl2:l2=[]:=by rw [← hdr];exact List.drop_eq_nil_of_le (by omega)
   subst hl2
   have hst':t2=Tree.makes (Z1 c) t:=hst
   refine Za (hk h6 O2 (by rw [← hst'];exact ht2) ((e05.upd O).trans hu) (ZdI e05 ⟨hg1,hg2⟩))
abbrev sA:ByteArray:=ByteArray.mk #[97]
abbrev Zqz:ByteArray:=ByteArray.mk #[100,101,102,97,117,108,116]
abbrev F12:=ByteArray × ByteArray × Bool × Int × Int × ByteArray × Int × Int × Int × Bool × Int × Bool × Unit
def Zky (r:F12):List Value:=[.string r.1,.string r.2.1,.bool r.2.2.1,iv r.2.2.2.1,.int .u8 r.2.2.2.2.1,.string r.2.2.2.2.2.1,.int .u8 r.2.2.2.2.2.2.1,iv r.2.2.2.2.2.2.2.1,iv r.2.2.2.2.2.2.2.2.1,.bool r.2.2.2.2.2.2.2.2.2.1,iv r.2.2.2.2.2.2.2.2.2.2.1,.bool r.2.2.2.2.2.2.2.2.2.2.2.1]
def Zal (th:Bool) (n:Int):F12:=(sA,Zqz,th,n,0,em,0,0,0,false,0,false,())
theorem Zn2 {b L n:Nat} {i:Int} {K:Nat→Nat→Prop} (j:Nat) (hi:i=j) (hj:j<L) (hk:K b (0+j*n)):Xy (some ⟨b,0,none⟩) L i n K:=by
  subst hi
  exact ⟨b,0,rfl,by omega,by omega,by simpa using hk⟩
theorem Zvy:Zfg sA=true:=by decide
theorem Zl1 {h:Zd} {nb:Nat} {T:TypeId} (hn:obj h nb=some (.cells [.string Zqz].toArray T (0,0))) {K:Bool→Zd→Prop} (hk:∀ h',Ext h h'→K true h'):Y5 (sA,⟨some ⟨nb,0,none⟩,1,1⟩,()) K h:=by
  unfold Y5 ZaN
  refine Yg fun h1 c1 e1 z1=>rS (Zb c1 rfl) (ZcJ (show sA.size<9223372036854775808 by decide) (Zt Zvy (rL (s:=⟨some ⟨nb,0,none⟩,1,1⟩) (Zb c1 rfl) ?_)))
  unfold ZB ZK ZF ZQ
  have n1:=Zl hn e1
  refine Za (YX (fun p hh=>(p.1=0∨p.1=1)∧hh=h1) (fun p _=>(1 - p.1).toNat) ⟨.inl rfl,rfl⟩ ?_)
  rintro ⟨i,u⟩ hh ⟨hi,hh9⟩ Q hQ
  subst hh9
  dsimp only at hi ⊢
  rcases hi with hi | hi
  ·subst hi
   refine Zt rfl (Za (Zn2 0 rfl (by decide) (rS (Zb n1 rfl) ?_)))
   unfold Zab Zbu
   refine ZcJ (show Zqz.size<9223372036854775808 by decide) (Zc (Zi (show (!Zfg Zqz)=false by decide) (hQ _ _ ⟨.inr (by decide),rfl⟩ ?_)))
   show (1 - IntKind.wrap .i64 (0+1)).toNat<(1 - (0:Int)).toNat
   decide
  ·subst hi
   exact Zi rfl (Za (Zc (Zc (hk _ e1))))
theorem Znp {h:Zd} {rb ob wb pb nb cb:Nat} {th:Bool} {n:Int} (hn:0≤n∧n≤1099511627776) {T0 T1 T2 T3 T4 T5:TypeId}
    (cr:obj h rb=some (.cells (Zky (Zal th n)).toArray T0 (0,0))) (co:obj h ob=some (.cells [iv 0].toArray T1 (0,0))) (cw:obj h wb=some (.cells [.bool false].toArray T2 (0,0))) (cp:obj h pb=some (.cells [.bool false].toArray T3 (0,0)))
    (cn:obj h nb=some (.cells [.string Zqz].toArray T4 (0,0)))
    (cc:obj h cb=some (.cells [.func (.func 190) #[] #[.pointer (some ⟨rb,0,none⟩),.pointer (some ⟨ob,0,none⟩)],.func (.func 191) #[] #[.pointer (some ⟨rb,0,none⟩)],.func (.func 192) #[] #[.pointer (some ⟨rb,0,none⟩)],.func (.func 193) #[] #[.pointer (some ⟨rb,0,none⟩)],.func (.func 194) #[] #[.pointer (some ⟨wb,0,none⟩),.pointer (some ⟨rb,0,none⟩),.pointer (some ⟨pb,0,none⟩)],.func (.func 195) #[] #[.pointer (some ⟨rb,0,none⟩)],.func (.func 196) #[] #[.pointer (some ⟨rb,0,none⟩)]].toArray T5 (0,0)))
    {K:Int→Zd→Prop} (hk:∀ h',Ext h h'→K 0 h'):Xk (sA,⟨some ⟨nb,0,none⟩,1,1⟩,30,()) ⟨some ⟨cb,0,none⟩,7,7⟩ K h:=by
  unfold Xk Zcm
  refine Yg fun h1 c1 e1 z1=>Za (rS (Zb c1 rfl) (rL (s:=⟨some ⟨nb,0,none⟩,1,1⟩) (Zb c1 rfl) (Zl1 (Zl cn e1) fun h2 e2=>Zi rfl ?_)))
  have e02:=e1.trans e2
  have cr2:=Zl cr e02
  have co2:=Zl co e02
  have cw2:=Zl cw e02
  have cp2:=Zl cp e02
  have cc2:=Zl cc e02
  refine YX (fun p hh=>(0≤p.1∧p.1≤7)∧hh=h2) (fun p _=>(7 - p.1).toNat) ⟨⟨by decide,by decide⟩,rfl⟩ ?_
  rintro ⟨i,u⟩ hh ⟨hi,hh9⟩ Q hQ
  subst hh9
  dsimp only at hi ⊢
  have w0:∀ {a b c:Int},b≤a∧a≤c→∀ {K:Bool→Zd→Prop} {h:Zd},K true h→Yf a b c K h:=fun {a b c} hr {K h} hK=>Zew (by
    have:inB a b c=true:=by unfold inB;simp;omega
    rw [this];exact hK)
  have only0:∀ {a b:Int} {K:Bool→Zd→Prop} {h:Zd},K true h→Xw false 0 a b K h:=fun {a b K h} hK=>by
    unfold Xw ZdY
    exact Zz (Zt rfl (Zc hK))
  have nxt:∀ j:Int,0≤j→j<7→i=j→Q (IntKind.wrap .i64 (i+1),()) hh:=fun j h1 h2 h3=>by
    rw [XH (by omega) (by omega)]
    refine hQ _ _ ⟨⟨by show 0≤i+1;omega,by show i+1≤7;omega⟩,rfl⟩ ?_
    show (7 - (i+1)).toNat<(7 - i).toNat
    omega
  rcases (show i=0∨i=1∨i=2∨i=3∨i=4∨i=5∨i=6∨i=7 by omega) with q | q | q | q | q | q | q | q
  ·have nx:=nxt 0 (by decide) (by decide) q
   subst q
   refine Zt rfl (Zn2 0 rfl (by decide) (rV (Zb cc2 rfl) (.inl ⟨(some ⟨rb,0,none⟩,some ⟨ob,0,none⟩,()),rfl,?_⟩)))
   unfold ZcU Zec
   exact Zj (rI (Zb cr2 rfl) (Zj (rI (Zb co2 rfl) (w0 hn (Zc (Zi rfl nx))))))
  ·have nx:=nxt 1 (by decide) (by decide) q
   subst q
   refine Zt rfl (Zn2 1 rfl (by decide) (rV (Zb cc2 rfl) (.inr (.inl ⟨(some ⟨rb,0,none⟩,()),rfl,?_⟩))))
   unfold ZcT Zeb
   exact Zj (rI (Zb cr2 rfl) (Zt rfl (Zj (rI (Zb cr2 rfl) (Zc (Zi rfl nx))))))
  ·have nx:=nxt 2 (by decide) (by decide) q
   subst q
   refine Zt rfl (Zn2 2 rfl (by decide) (rV (Zb cc2 rfl) (.inr (.inr (.inl ⟨(some ⟨rb,0,none⟩,()),rfl,?_⟩)))))
   unfold ZcS Zea
   exact Zj (rI (Zb cr2 rfl) (Zi rfl (Zj (rS (Zb cr2 rfl) (Zc (Zi (show (!XN em em)=false by rw [ZfE];rfl) nx))))))
  ·have nx:=nxt 3 (by decide) (by decide) q
   subst q
   refine Zt rfl (Zn2 3 rfl (by decide) (rV (Zb cc2 rfl) (.inr (.inr (.inr (.inl ⟨(some ⟨rb,0,none⟩,()),rfl,?_⟩))))))
   unfold ZcR Zd9
   refine Zj (rB (Zb cr2 rfl) ⟨fun _=>Zi rfl nx,fun _=>Zj (rI (Zb cr2 rfl) (Zt rfl (Zj (rB (Zb cr2 rfl) (Zc (Zi rfl nx))))))⟩)
  ·have nx:=nxt 4 (by decide) (by decide) q
   subst q
   refine Zt rfl (Zn2 4 rfl (by decide) (rV (Zb cc2 rfl) (.inr (.inr (.inr (.inr (.inl ⟨(some ⟨wb,0,none⟩,some ⟨rb,0,none⟩,some ⟨pb,0,none⟩,()),rfl,?_⟩)))))))
   unfold ZcQ Zd8
   exact Zj (rB (Zb cw2 rfl) (Zj (rI (Zb cr2 rfl) (only0 (YL (Zj (rB (Zb cp2 rfl) (Zj (rI (Zb cr2 rfl) (only0 (Zc (Zi rfl nx))))))))))))
  ·have nx:=nxt 5 (by decide) (by decide) q
   subst q
   refine Zt rfl (Zn2 5 rfl (by decide) (rV (Zb cc2 rfl) (.inr (.inr (.inr (.inr (.inr (.inl ⟨(some ⟨rb,0,none⟩,()),rfl,?_⟩))))))))
   unfold ZcP Zd7
   exact Zj (rB (Zb cr2 rfl) (Zt rfl (Zi rfl nx)))
  ·have nx:=nxt 6 (by decide) (by decide) q
   subst q
   refine Zt rfl (Zn2 6 rfl (by decide) (rV (Zb cc2 rfl) (.inr (.inr (.inr (.inr (.inr (.inr (.inl ⟨(some ⟨rb,0,none⟩,()),rfl,?_⟩)))))))))
   unfold ZcO Zd6
   exact Zj (rB (Zb cr2 rfl) (Zj (rI (Zb cr2 rfl) (only0 (YL (Zj (rB (Zb cr2 rfl) (Zi rfl (Zj (rB (Zb cr2 rfl) (Zc (Zi rfl nx))))))))))))
  ·subst q
   exact Zi rfl (Za (hk _ e02))
theorem Zqv {h:Zd} {th:Bool} {n:Int} (hn:0≤n∧n≤1099511627776) {K:Int→Zd→Prop} (hk:∀ h',Ext h h'→K 0 h'):ZaG (Zal th n) K h:=by
  unfold ZaG Zfr
  refine Yg fun h1 c1 e1 z1=>Za (rS (Zb c1 rfl) (Yg fun h2 c2 e2 z2=>ZaD ?_))
  have r2:=Zl c1 e2
  refine rI (Zb r2 rfl) (Zi rfl (rI (Zb r2 rfl) (Zi rfl (ZaD ?_))))
  refine rI (Zb r2 rfl) (Zi rfl (rI (Zb r2 rfl) (Yg fun h3 c3 e3 z3=>ZdD c3 (show 0<1 by decide) rfl fun h4 c4 u4 z4=>ZaD ?_)))
  have e24:Ext h2 h4:=e3.then u4 fun k hk=>by subst hk;exact Nat.le_refl _
  have r4:=Zl r2 e24
  refine rI (Zb r4 rfl) (Zi rfl (rI (Zb r4 rfl) (Yg fun h5 c5 e5 z5=>ZdD c5 (show 0<1 by decide) rfl fun h6 c6 u6 z6=>?_)))
  have e46:Ext h4 h6:=e5.then u6 fun k hk=>by subst hk;exact Nat.le_refl _
  have r6:=Zl r4 e46
  refine Yg fun h7 c7 e7 z7=>ZdD c7 (show 0<1 by decide) rfl fun h8 c8 u8 z8=>ZaD ?_
  have e68:Ext h6 h8:=e7.then u8 fun k hk=>by subst hk;exact Nat.le_refl _
  have r8:=Zl r6 e68
  refine rI (Zb r8 rfl) (Zt rfl (ZdD c8 (show 0<1 by decide) rfl fun h9 c9 u9 z9=>?_))
  have e69:Ext h6 h9:=e68.then u9 fun k hk=>by subst hk;exact Nat.le_refl _
  have r9:=Zl r6 e69
  refine rS (Zb r9 rfl) (Yg fun h10 c10 e10 z10=>?_)
  have e610:=e69.trans e10
  refine Znp hn (Zl r6 e610) (Zl c9 e10) (Zl c4 (e46.trans e610)) (Zl c6 e610) (Zl c2 (e24.trans (e46.trans e610))) c10 fun h11 e11=>Za (hk h11 ?_)
  exact e1.trans (e2.trans (e24.trans (e46.trans (e610.trans e11))))
abbrev B7:=ByteArray × Int × Int × Int × Int × Int × Int × Unit
def b7L (r:B7):List Value:=[.string r.1,.int .u8 r.2.1,iv r.2.2.1,iv r.2.2.2.1,iv r.2.2.2.2.1,iv r.2.2.2.2.2.1,iv r.2.2.2.2.2.2.1]
abbrev R5:=Sl × Sl × Sl × Sl × Sl × Unit
def r5L (r:R5):List Value:=[slV r.1,slV r.2.1,slV r.2.2.1,slV r.2.2.2.1,slV r.2.2.2.2.1]
structure X2 (h:Zd) (base:Nat) (r:R5) (fl:List F12) (bl:List B7):Prop where
  f:Own h base r.1 12 (fl.flatMap Zky)
  b:Own h base r.2.1 7 (bl.flatMap b7L)
  h3:Own h base r.2.2.1 5 []
  s4:Own h base r.2.2.2.1 5 []
  a5:Own h base r.2.2.2.2.1 3 []
theorem Zcs {h h':Zd} {base:Nat} {s:Sl} {size:Nat} {vs:List Value} (ho:Own h base s size vs) (e:Ext h h'):Own h' base s size vs:=ho.congr fun b _ hl _=>e.old b hl
theorem X2.ext {h h':Zd} {base:Nat} {r:R5} {fl:List F12} {bl:List B7} (hr:X2 h base r fl bl) (e:Ext h h'):X2 h' base r fl bl :=
  ⟨Zcs hr.f e,Zcs hr.b e,Zcs hr.h3 e,Zcs hr.s4 e,Zcs hr.a5 e⟩
theorem X2.base {h:Zd} {base base':Nat} {r:R5} {fl:List F12} {bl:List B7} (hr:X2 h base r fl bl) (e:base'≤base):X2 h base' r fl bl :=
  ⟨hr.f.base e,hr.b.base e,hr.h3.base e,hr.s4.base e,hr.a5.base e⟩
theorem X2.len1 {h:Zd} {base:Nat} {r:R5} {fl:List F12} {bl:List B7} (hr:X2 h base r fl bl):r.1.len=fl.length:=by
  have:=hr.f.len
  rw [YZ (n:=12) fun _=>rfl] at this
  exact (Nat.eq_of_mul_eq_mul_right (by decide) this).symm
theorem X2.len2 {h:Zd} {base:Nat} {r:R5} {fl:List F12} {bl:List B7} (hr:X2 h base r fl bl):r.2.1.len=bl.length:=by
  have:=hr.b.len
  rw [YZ (n:=7) fun _=>rfl] at this
  exact (Nat.eq_of_mul_eq_mul_right (by decide) this).symm
theorem Zl0 {h:Zd} {base n:Nat} {s:Sl} (ho:Own h base s (n+1) []):s.len=0:=by
  have:=ho.len
  simp only [List.length_nil] at this
  rcases Nat.mul_eq_zero.1 this.symm with h | h
  ·exact h
  ·omega
theorem X2.lens {h:Zd} {base:Nat} {r:R5} {fl:List F12} {bl:List B7} (hr:X2 h base r fl bl):r.2.2.1.len=0∧r.2.2.2.1.len=0∧r.2.2.2.2.1.len=0:=⟨Zl0 hr.h3,Zl0 hr.s4,Zl0 hr.a5⟩
abbrev G3:=Int × Int × Value
def g3L (g:G3):List Value:=[.int .u8 g.1,iv g.2.1,g.2.2]
def fnV (f gb:Nat):Value:= .func (.func f) #[] #[.pointer (some ⟨gb,0,none⟩)]
def grp (gb:Nat) (r:R5):List G3:=[(1,r.1.len,fnV 130 gb),(2,r.2.1.len,fnV 132 gb),(3,r.2.2.1.len,fnV 133 gb),(4,r.2.2.2.1.len,fnV 134 gb),(5,r.2.2.2.2.1.len,fnV 136 gb)]
theorem Zmb {h:Zd} {r:R5} {K:Sl→Zd→Prop} (hk:∀ h' s gb,Ext h h'→obj h' gb=some (.cells (r5L r).toArray 39 (0,0))→Row h' s 3 ((grp gb r).flatMap g3L)→s.len=5→K s h'):ZbG r K h:=by
  unfold ZbG Zd4
  refine Yg fun h1 c1 e1 z1=>rL (Zb c1 rfl) ⟨rfl,rL (Zb c1 rfl) ⟨rfl,rL (Zb c1 rfl) ⟨rfl,rL (Zb c1 rfl) ⟨rfl,rL (Zb c1 rfl) ⟨rfl,Yg fun h2 c2 e2 z2=>hk h2 _ _ (e1.trans e2) (Zl c1 e2) (ZET c2 rfl (show 5<9223372036854775808 by decide)) rfl⟩⟩⟩⟩⟩
theorem Zlo {h:Zd} {base gb:Nat} {r:R5} {fl:List F12} {bl:List B7} (hr:X2 h base r fl bl) (hg:obj h gb=some (.cells (r5L r).toArray 39 (0,0))) (hF:∀ f∈fl,∀ h (K:Int→Zd→Prop),(∀ h',Ext h h'→K 0 h')→ZaG f K h)
    {i:Nat} (hi:i<fl.length) {K:Int→Zd→Prop} (hk:∀ h',Ext h h'→K 0 h'):ZaY (i:Int) (some ⟨gb,0,none⟩) K h:=by
  unfold ZaY Zdg
  have hg1:fl[i]?=some fl[i]:=List.getElem?_eq_getElem hi
  have hm:=List.getElem_mem hi
  generalize fl[i]=f at hg1 hm
  obtain ⟨b,o,hb,hlt,hidx,hc⟩:=Zdj (g:=Zky) (n:=12) (fun _=>rfl) hr.f.row hg1 (by decide)
  refine Za (Zj (rL (s:=r.1) (Zb hg rfl) (hidx rfl (rS (hc 0 _ rfl) (rS (hc 1 _ rfl) (rB (hc 2 _ rfl) (rI (hc 3 _ rfl) (rI (hc 4 _ rfl) (rS (hc 5 _ rfl) (rI (hc 6 _ rfl) (rI (hc 7 _ rfl) (rI (hc 8 _ rfl) (rB (hc 9 _ rfl) (rI (hc 10 _ rfl) (rB (hc 11 _ rfl) ?_)))))))))))))))
  exact hF f hm h _ fun h' e'=>Za (hk h' e')
theorem Zln {h:Zd} {base gb:Nat} {r:R5} {fl:List F12} {bl:List B7} (hr:X2 h base r fl bl) (hg:obj h gb=some (.cells (r5L r).toArray 39 (0,0))) (hB:∀ f∈bl,∀ h (K:Int→Zd→Prop),(∀ h',Ext h h'→K 0 h')→Xu f K h)
    {i:Nat} (hi:i<bl.length) {K:Int→Zd→Prop} (hk:∀ h',Ext h h'→K 0 h'):ZaX (i:Int) (some ⟨gb,0,none⟩) K h:=by
  unfold ZaX Zdf
  have hg1:bl[i]?=some bl[i]:=List.getElem?_eq_getElem hi
  have hm:=List.getElem_mem hi
  generalize bl[i]=f at hg1 hm
  obtain ⟨b,o,hb,hlt,hidx,hc⟩:=Zdj (g:=b7L) (n:=7) (fun _=>rfl) hr.b.row hg1 (by decide)
  refine Za (Zj (rL (s:=r.2.1) (Zb hg rfl) (hidx rfl (rS (hc 0 _ rfl) (rI (hc 1 _ rfl) (rI (hc 2 _ rfl) (rI (hc 3 _ rfl) (rI (hc 4 _ rfl) (rI (hc 5 _ rfl) (rI (hc 6 _ rfl) ?_))))))))))
  exact hB f hm h _ fun h' e'=>Za (hk h' e')
theorem ZnL {h:Zd} {base:Nat} {r:R5} {fl:List F12} {bl:List B7} (hr:X2 h base r fl bl) (hl1:fl.length≤256) (hl2:bl.length≤256)
    (hF:∀ f∈fl,∀ h (K:Int→Zd→Prop),(∀ h',Ext h h'→K 0 h')→ZaG f K h) (hB:∀ f∈bl,∀ h (K:Int→Zd→Prop),(∀ h',Ext h h'→K 0 h')→Xu f K h)
    {K:Int→Int→Int→Zd→Prop} (hk:∀ h',Ext h h'→K 0 0 0 h'):Zb4 r K h:=by
  unfold Zb4 ZeK
  refine Yg fun h1 c1 e1 z1=>Za (Za (Za (rL (Zb c1 rfl) (rL (Zb c1 rfl) (rL (Zb c1 rfl) (rL (Zb c1 rfl) (rL (Zb c1 rfl) (Zmb fun h2 s gb e2 g2 row2 hs5=>?_))))))))
  have e02:=e1.trans e2
  have hr2:=hr.ext e02
  obtain ⟨n3,n4,n5⟩:=hr.lens
  have n1:=hr.len1
  have n2:=hr.len2
  have gl:∀ j,j<5→∃ g,(grp gb r)[j]?=some g∧ZH g.2.2=true∧0≤g.2.1∧g.2.1≤256∧((g=(1,(fl.length:Int),fnV 130 gb))∨(g=(2,(bl.length:Int),fnV 132 gb))∨g.2.1=0):=fun j hj=>by
    rcases (show j=0∨j=1∨j=2∨j=3∨j=4 by omega) with q | q | q | q | q<;>subst q<;>refine ⟨_,rfl,rfl,?_,?_,?_⟩<;>dsimp only<;>simp only [n1,n2,n3,n4,n5]<;>first | omega | exact .inl trivial | exact .inr (.inl trivial) | exact .inr (.inr rfl)
  refine YX (fun p hh=>(∃ j:Nat,p=((j:Int),())∧j≤5)∧Ext h2 hh) (fun p _=>(5 - p.1).toNat) ⟨⟨0,rfl,by decide⟩,Ext.refl _⟩ ?_
  rintro _ hh ⟨⟨j,rfl,hj5⟩,he⟩ Q hQ
  dsimp only
  rw [hs5]
  refine Zu (fun q=>?_) fun q=>?_
  ·have hj:j<5:=by omega
   obtain ⟨g,hg,h1c,hlo,hhi,_⟩:=gl j hj
   obtain ⟨b,o,hb,hlt,hidx,hc⟩:=Zdj (g:=g3L) (n:=3) (fun _=>rfl) (row2.ext he) hg (by decide)
   have hidx':∀ {K:Nat→Nat→Prop},K b o→Xy s.ptr 5 (j:Int) 3 K:=fun {K} hk=>by have:=hidx (K:=K) (m:=j) rfl hk;rwa [hs5] at this
   refine hidx' (rI (hc 0 _ rfl) (rI (hc 1 _ rfl) (rV (hc 2 _ rfl) (Yg fun h3 c3 e3 z3=>ZaE c3 (hv:=by simp [h1c,ZgU]) fun h4 c4 u4 z4=>rI (Zb c4 rfl) (Zu (fun q9=>?_) fun _=>?_)))))
   ·exact absurd q9 (by omega)
   ·rw [XH (by omega) (by omega)]
    exact hQ _ _ ⟨⟨j+1,rfl,hj⟩,(he.trans e3).then u4 fun k hk=>by subst hk;exact he.size⟩ (by show (5 - ((j:Int)+1)).toNat<(5 - (j:Int)).toNat;omega)
  clear Q hQ q
  refine YX (fun p hh=>(∃ j:Nat,p=((j:Int),())∧j≤5)∧Ext h2 hh) (fun p _=>(5 - p.1).toNat) ⟨⟨0,rfl,by decide⟩,he⟩ ?_
  rintro _ hh ⟨⟨j,rfl,hj5⟩,he⟩ Q hQ
  dsimp only
  refine Zu (fun q=>?_) fun q=>Za (Za (Za (hk _ (e02.trans he))))
  have hj:j<5:=by omega
  obtain ⟨g,hg,h1c,hlo,hhi,hgg⟩:=gl j hj
  obtain ⟨b,o,hb,hlt,hidx,hc⟩:=Zdj (g:=g3L) (n:=3) (fun _=>rfl) (row2.ext he) hg (by decide)
  have hidx':∀ {K:Nat→Nat→Prop},K b o→Xy s.ptr 5 (j:Int) 3 K:=fun {K} hk=>by have:=hidx (K:=K) (m:=j) rfl hk;rwa [hs5] at this
  refine hidx' (rI (hc 0 _ rfl) (rI (hc 1 _ rfl) (rV (hc 2 _ rfl) (Yg fun h3 c3 e3 z3=>ZaE c3 (hv:=by simp [h1c,ZgU]) fun h4 c4 u4 z4=>rI (Zb c4 rfl) ?_))))
  have e4:Ext hh h4:=e3.then u4 fun k hk=>by subst hk;exact Nat.le_refl _
  refine YX (fun p hx=>(∃ i:Nat,p=((i:Int),())∧(i:Int)≤g.2.1)∧Ext h4 hx) (fun p _=>(g.2.1 - p.1).toNat) ⟨⟨0,rfl,hlo⟩,Ext.refl _⟩ ?_
  rintro _ hx ⟨⟨i,rfl,hi⟩,ex⟩ Q2 hQ2
  dsimp only
  have e2x:=(he.trans e4).trans ex
  refine Zu (fun q2=>Za (rV (Zb (Zl c4 ex) rfl) ?_)) fun q2=>?_
  ·have nx:∀ hy,Ext hx hy→Q2 (IntKind.wrap .i64 ((i:Int)+1),()) hy:=fun hy ey=>by
     rw [XH (by omega) (by omega)]
     exact hQ2 _ _ ⟨⟨i+1,rfl,by omega⟩,ex.trans ey⟩ (by show (g.2.1 - ((i:Int)+1)).toNat<(g.2.1 - (i:Int)).toNat;omega)
   rcases hgg with hgg | hgg | hgg
   ·subst hgg
    exact .inl ⟨(some ⟨gb,0,none⟩,()),rfl,Zlo (hr2.ext e2x) (Zl g2 e2x) hF (show i<fl.length by dsimp only at q2;omega) fun hy ey=>Za (Zi rfl (nx hy ey))⟩
   ·subst hgg
    exact .inr (.inl ⟨(some ⟨gb,0,none⟩,()),rfl,Zln (hr2.ext e2x) (Zl g2 e2x) hB (show i<bl.length by dsimp only at q2;omega) fun hy ey=>Za (Zi rfl (nx hy ey))⟩)
   ·omega
  ·rw [XH (by omega) (by omega)]
   exact hQ _ _ ⟨⟨j+1,rfl,hj⟩,e2x⟩ (by show (5 - ((j:Int)+1)).toNat<(5 - (j:Int)).toNat;omega)
theorem Zdl {h h':Zd} {base x:Nat} {s:Sl} {size:Nat} {vs:List Value} (ho:Own h base s size vs) (u:Upd (· = x) h h') (hx:x<base):Own h' base s size vs:=ho.congr fun b _ hl hb=>u.old b hl (by omega)
theorem Ztt (l:List F12):(l.flatMap Zky).all ZH=true:=by
  rw [List.all_eq_true]
  intro v hv
  obtain ⟨k,_,hk⟩:=List.mem_flatMap.1 hv
  simp only [Zky,List.mem_cons,List.not_mem_nil,or_false] at hk
  rcases hk with rfl | rfl | rfl | rfl | rfl | rfl | rfl | rfl | rfl | rfl | rfl | rfl<;>rfl
theorem ZvU (l:List B7):(l.flatMap b7L).all ZH=true:=by
  rw [List.all_eq_true]
  intro v hv
  obtain ⟨k,_,hk⟩:=List.mem_flatMap.1 hv
  simp only [b7L,List.mem_cons,List.not_mem_nil,or_false] at hk
  rcases hk with rfl | rfl | rfl | rfl | rfl | rfl | rfl<;>rfl
theorem ZnT {h:Zd} {base:Nat} {r:R5} {fl:List F12} {bl:List B7} (hr:X2 h base r fl bl) (hl1:fl.length≤256) (hl2:bl.length≤256) {s:Sl} (hs:Row h s 5 (r5L r)) {K:R5→Zd→Prop}
    (hk:∀ h' r',Ext h h'→X2 h' (sz h) r' fl bl→K r' h'):ZcY s K h:=by
  unfold ZcY Zfq
  have hsl:s.len=1:=by have:=hs.len;simp [r5L] at this;omega
  obtain ⟨n3,n4,n5⟩:=hr.lens
  have n1:=hr.len1
  have n2:=hr.len2
  refine Yg fun h1 c1 e1 z1=>Yg fun h2 c2 e2 z2=>?_
  have e02:=e1.trans e2
  have w1:sz h≤sz h1:=e1.size
  have w2:sz h2=sz h1+1:=z2
  refine YX (fun p hh=>Ext h1 hh∧((p=(0,())∧hh=h2)∨(p.1=1∧∃ r',obj hh (sz h1)=some (.cells (r5L r').toArray 39 (0,0))∧X2 hh (sz h1+1) r' fl bl))) (fun p _=>(1 - p.1).toNat) ⟨e2,.inl ⟨rfl,rfl⟩⟩ ?_
  rintro ⟨i,u⟩ hh ⟨he,⟨hp,hh9⟩ | ⟨hp,r',cr,hr'⟩⟩ Q hQ
  ·injection hp with hp _
   subst hp
   subst hh9
   dsimp only
   rw [hsl]
   obtain ⟨b,o,hb9,hlt,hidx,hc⟩:=Zdj (α:=R5) (g:=r5L) (n:=5) (fun _=>rfl) (l:=[r]) (by simpa using hs.ext e02) (i:=0) rfl (by decide)
   have hidx':∀ {K:Nat→Nat→Prop},K b o→Xy s.ptr 1 0 5 K:=fun {K} hk=>by have:=hidx (K:=K) (m:=0) rfl hk;rwa [hsl] at this
   refine Zt rfl (hidx' (rL (hc 0 _ rfl) (rL (hc 1 _ rfl) (rL (hc 2 _ rfl) (rL (hc 3 _ rfl) (rL (hc 4 _ rfl) (Yg fun h3 c3 e3 z3=>ZaE c3 fun h4 c4 u4 z4=>?_)))))))
   have e4:Ext hh h4:=e3.then u4 fun k hk=>by subst hk;exact Nat.le_refl _
   have w4:sz h4=sz hh+1:=by have:h3.size=hh.size+1:=z3;simp only [YV] at this;omega
   have x4:=Zl c2 e4
   have r4:=hr.ext (e02.trans e4)
   have w2':sz hh=sz h1+1:=w2
   have nx1:¬ sz hh=sz h1:=by omega
   have nx2:sz h1<sz h4:=by omega
   have nx3:sz hh<sz h4:=by omega
   refine rL (s:=⟨none,0,0⟩) (Zb x4 rfl) (rL (s:=r.1) (Zb c4 rfl) (r4.f.row.rd ?_))
   refine (Own.nil h4 (sz h4) 12).app (n:=r.1.len) (by rw [YZ (n:=12) fun _=>rfl,n1]) (Ztt fl) rfl (show (0+r.1.len)*120≤140737488355328 by omega) (show 0+r.1.len≤140737488355328 by omega) (Nat.le_refl _) fun s5 h5 o5 _ u5 _=>?_
   have e5:Ext h4 h5:=u5.ext fun k _ hk=>by cases hk
   refine ZdD (Zl x4 e5) (show 0<5 by decide) rfl fun h6 x6 u6 z6=>?_
   have w5:sz h4≤sz h5:=e5.size
   have E6:Ext h h6:=((e02.trans e4).trans e5).then u6 fun k hk=>by subst hk;exact w1
   have E6':Ext h1 h6:=((e2.trans e4).trans e5).then u6 fun k hk=>by subst hk;exact Nat.le_refl _
   have c6:obj h6 (sz hh)=_:=(u6.old (sz hh) (show sz hh<sz h5 by omega) nx1).trans (Zl c4 e5)
   have o6:=Zdl o5 u6 nx2
   have r6:=hr.ext E6
   refine rL (s:=⟨none,0,0⟩) (Zb x6 rfl) (rL (s:=r.2.1) (Zb c6 rfl) (r6.b.row.rd ?_))
   refine (Own.nil h6 (sz h4) 7).app (n:=r.2.1.len) (by rw [YZ (n:=7) fun _=>rfl,n2]) (ZvU bl) rfl (show (0+r.2.1.len)*64≤140737488355328 by omega) (show 0+r.2.1.len≤140737488355328 by omega) (by show sz h4≤sz h6;omega) fun s7 h7 o7 _ u7 _=>?_
   have e7:Ext h6 h7:=u7.ext fun k _ hk=>by cases hk
   refine ZdD (Zl x6 e7) (show 0+1<5 by decide) rfl fun h8 x8 u8 z8=>?_
   have w7:sz h6≤sz h7:=e7.size
   have E8:Ext h h8:=(E6.trans e7).then u8 fun k hk=>by subst hk;exact w1
   have E8':Ext h1 h8:=(E6'.trans e7).then u8 fun k hk=>by subst hk;exact Nat.le_refl _
   have c8:obj h8 (sz hh)=_:=(u8.old (sz hh) (show sz hh<sz h7 by omega) nx1).trans (Zl c6 e7)
   have o8:=Zdl (Zcs o6 e7) u8 nx2
   have o8':=Zdl o7 u8 nx2
   have r8:=hr.ext E8
   refine rL (s:=⟨none,0,0⟩) (Zb x8 rfl) (rL (s:=r.2.2.2.1) (Zb c8 rfl) (r8.s4.row.rd ?_))
   refine (Own.nil h8 (sz h4) 5).app (n:=r.2.2.2.1.len) (by rw [n4];rfl) rfl rfl (show (0+r.2.2.2.1.len)*40≤140737488355328 by omega) (show 0+r.2.2.2.1.len≤140737488355328 by omega) (by show sz h4≤sz h8;omega) fun s9 h9 o9 _ u9 _=>?_
   have e9:Ext h8 h9:=u9.ext fun k _ hk=>by cases hk
   refine ZdD (Zl x8 e9) (show 0+3<5 by decide) rfl fun h10 x10 u10 z10=>?_
   have w9:sz h8≤sz h9:=e9.size
   have E10':Ext h1 h10:=(E8'.trans e9).then u10 fun k hk=>by subst hk;exact Nat.le_refl _
   have c10:obj h10 (sz hh)=_:=(u10.old (sz hh) (show sz hh<sz h9 by omega) nx1).trans (Zl c8 e9)
   have p1:=Zdl (Zcs o8 e9) u10 nx2
   have p2:=Zdl (Zcs o8' e9) u10 nx2
   have p3:=Zdl o9 u10 nx2
   refine rL (s:=r.2.2.1) (Zb c10 rfl) (YX (fun p hx=>p=(0,())∧hx=h10) (fun _ _=>0) ⟨rfl,rfl⟩ ?_)
   rintro _ hx ⟨rfl,hx9⟩ Q2 _
   subst hx9
   dsimp only
   rw [n3]
   refine Zi rfl (rL (s:=r.2.2.2.2.1) (Zb c10 rfl) (YX (fun p hy=>p=(0,())∧hy=hx) (fun _ _=>0) ⟨rfl,rfl⟩ ?_))
   rintro _ hy ⟨rfl,hy9⟩ Q3 _
   subst hy9
   dsimp only
   rw [n5]
   refine Zi rfl (hQ _ _ ⟨E10',.inr ⟨by decide,(s5,s7,⟨none,0,0⟩,s9,⟨none,0,0⟩,()),x10,⟨p1.base (by omega),p2.base (by omega),Own.nil _ _ _,p3.base (by omega),Own.nil _ _ _⟩⟩⟩ (show (1 - IntKind.wrap .i64 (0+1)).toNat<(1 - (0:Int)).toNat by decide))
  ·dsimp only at hp ⊢
   subst hp
   rw [hsl]
   have y1:obj hh (sz h)=_:=Zl c1 he
   refine Zi rfl (rL (s:=r'.1) (Zb cr rfl) (rL (s:=r'.2.1) (Zb cr rfl) (rL (s:=r'.2.2.1) (Zb cr rfl) (rL (s:=r'.2.2.2.1) (Zb cr rfl) (rL (s:=r'.2.2.2.2.1) (Zb cr rfl) (ZaE y1 fun h3 c3 u3 z3=>?_))))))
   have E3:Ext h h3:=(e1.trans he).then u3 fun k hk=>by subst hk;exact Nat.le_refl _
   have w1':sz h1=sz h+1:=z1
   refine rL (s:=r'.1) (Zb c3 rfl) (rL (s:=r'.2.1) (Zb c3 rfl) (rL (s:=r'.2.2.1) (Zb c3 rfl) (rL (s:=r'.2.2.2.1) (Zb c3 rfl) (rL (s:=r'.2.2.2.2.1) (Zb c3 rfl) (hk h3 r' E3 ⟨?_,?_,?_,?_,?_⟩)))))
   ·exact (Zdl hr'.f u3 (by omega)).base (by omega)
   ·exact (Zdl hr'.b u3 (by omega)).base (by omega)
   ·exact (Zdl hr'.h3 u3 (by omega)).base (by omega)
   ·exact (Zdl hr'.s4 u3 (by omega)).base (by omega)
   ·exact (Zdl hr'.a5 u3 (by omega)).base (by omega)
theorem ZlJ {h:Zd} {base:Nat} {r:R5} {fl:List F12} {bl:List B7} (hr:X2 h base r fl bl) (hl1:fl.length≤256) (hl2:bl.length≤256) {K:R5→Zd→Prop}
    (hk:∀ h' r',Ext h h'→X2 h' (sz h) r' fl bl→K r' h'):Zbo r K h:=by
  unfold Zbo Zfs
  refine Yg fun h1 c1 e1 z1=>Yg fun h2 c2 e2 z2=>?_
  have y1:=Zl c1 e2
  refine rL (s:=r.1) (Zb y1 rfl) (rL (s:=r.2.1) (Zb y1 rfl) (rL (s:=r.2.2.1) (Zb y1 rfl) (rL (s:=r.2.2.2.1) (Zb y1 rfl) (rL (s:=r.2.2.2.2.1) (Zb y1 rfl) (Yg fun h3 c3 e3 z3=>?_)))))
  have e03:=(e1.trans e2).trans e3
  refine ZnT (hr.ext e03) hl1 hl2 (ZiR c3 rfl) fun h4 r4 e4 hr4=>?_
  have x4:=Zl (Zl c2 e3) e4
  have w1:sz h1=sz h+1:=z1
  have w2:sz h2=sz h1+1:=z2
  have w3:sz h3=sz h2+1:=z3
  refine ZaE x4 fun h5 c5 u5 z5=>?_
  have E5:Ext h h5:=(e03.trans e4).then u5 fun k hk=>by subst hk;exact e1.size
  refine rL (s:=r4.1) (Zb c5 rfl) (rL (s:=r4.2.1) (Zb c5 rfl) (rL (s:=r4.2.2.1) (Zb c5 rfl) (rL (s:=r4.2.2.2.1) (Zb c5 rfl) (rL (s:=r4.2.2.2.2.1) (Zb c5 rfl) (hk h5 r4 E5 ⟨?_,?_,?_,?_,?_⟩)))))
  ·exact (Zdl hr4.f u5 (by show sz h1<sz h3;omega)).base (by omega)
  ·exact (Zdl hr4.b u5 (by show sz h1<sz h3;omega)).base (by omega)
  ·exact (Zdl hr4.h3 u5 (by show sz h1<sz h3;omega)).base (by omega)
  ·exact (Zdl hr4.s4 u5 (by show sz h1<sz h3;omega)).base (by omega)
  ·exact (Zdl hr4.a5 u5 (by show sz h1<sz h3;omega)).base (by omega)
theorem Zvm {h:Zd} {b:Nat} {l:List Value} {t:TypeId} (hc:obj h b=some (.cells l.toArray t (0,0))) (l':List Value) {o:Nat} {vs:List Value} {K:Zd→Prop}
    (hk:∀ h',obj h' b=some (.cells l'.toArray t (0,0))→Upd (· = b) h h'→sz h'=sz h→K h') (ho:Nat.ble (o+vs.length) l.length=true:=by rfl) (hv:vs.all ZH=true:=by rfl) (hp:ZcV o vs l=l':=by rfl):sts h b o vs K:=by
  rw [Zpn (by rw [hc,Zf8,decide_eq_true_eq];exact Nat.le_of_ble_eq_true ho) hv]
  refine hk _ ?_ (ZcL (Upd.refl _ _) (.inr rfl)) ZfX
  rw [Zhv,if_pos rfl,hc,Zdp,hp]
abbrev ZrF (r:R5) (g:Int):List Value:=r5L r++[iv g]
abbrev Zk5 (r:R5) (g:Int):Obj:= .cells (ZrF r g).toArray 108 (0,0)
abbrev r0:R5:=(⟨none,0,0⟩,⟨none,0,0⟩,⟨none,0,0⟩,⟨none,0,0⟩,⟨none,0,0⟩,())
theorem Zqp {h:Zd} {K:Option Addr→Zd→Prop} (hk:∀ h',obj h' (sz h)=some (Zk5 r0 0)→Ext h h'→sz h'=sz h+1→K (some ⟨sz h,0,none⟩) h'):ZaZ K h:=by
  unfold ZaZ Zdh
  exact Yg fun h1 c1 e1 z1=>hk h1 c1 e1 z1
theorem ZjV {h:Zd} {base sb:Nat} {r rs:R5} {g:Int} {fl:List F12} {bl:List B7} (hc:obj h sb=some (Zk5 rs g)) (hr:X2 h base r fl bl) (hl1:fl.length≤256) (hl2:bl.length≤256)
    (hF:∀ f∈fl,∀ h (K:Int→Zd→Prop),(∀ h',Ext h h'→K 0 h')→ZaG f K h) (hB:∀ f∈bl,∀ h (K:Int→Zd→Prop),(∀ h',Ext h h'→K 0 h')→Xu f K h)
    {K:Int→Zd→Prop} (hk:∀ h' r' g',obj h' sb=some (Zk5 r' g')→X2 h' (sz h) r' fl bl→Upd (· = sb) h h'→K 0 h'):Zac (some ⟨sb,0,none⟩) r K h:=by
  unfold Zac Zcn
  refine Yg fun h1 c1 e1 z1=>Za (Zi rfl (rL (s:=r.1) (Zb c1 rfl) (rL (s:=r.2.1) (Zb c1 rfl) (rL (s:=r.2.2.1) (Zb c1 rfl) (rL (s:=r.2.2.2.1) (Zb c1 rfl) (rL (s:=r.2.2.2.2.1) (Zb c1 rfl) ?_))))))
  refine ZnL (hr.ext e1) hl1 hl2 hF hB fun h2 e2=>Za (Za (Za (Zi rfl ?_)))
  have c2:=Zl c1 e2
  refine rL (s:=r.1) (Zb c2 rfl) (rL (s:=r.2.1) (Zb c2 rfl) (rL (s:=r.2.2.1) (Zb c2 rfl) (rL (s:=r.2.2.2.1) (Zb c2 rfl) (rL (s:=r.2.2.2.2.1) (Zb c2 rfl) ?_))))
  have e02:=e1.trans e2
  refine ZlJ (hr.ext e02) hl1 hl2 fun h3 r' e3 hr'=>Zj ?_
  have e03:=e02.trans e3
  have c3:=Zl hc e03
  have lsb:sb<sz h:=Zr hc
  have w2:sz h≤sz h2:=e02.size
  refine Zvm c3 (ZrF r' g) fun h4 c4 u4 z4=>Zj (rI (Zb c4 rfl) (Zj (ZdD c4 (show 0+5<6 by decide) rfl fun h5 c5 u5 z5=>Za ?_)))
  have u45:Upd (· = sb) h3 h5:=u4.trans u5
  have nb:sb<sz h2:=by omega
  exact hk h5 r' (IntKind.wrap .i64 (g+1)) c5 ⟨(Zdl hr'.f u45 nb).base w2,(Zdl hr'.b u45 nb).base w2,(Zdl hr'.h3 u45 nb).base w2,(Zdl hr'.s4 u45 nb).base w2,(Zdl hr'.a5 u45 nb).base w2⟩ ((e03.upd _).trans u45)
theorem ZlE {h:Zd} {base sb:Nat} {r:R5} {g:Int} {fl:List F12} {bl:List B7} (hc:obj h sb=some (Zk5 r g)) (hr:X2 h base r fl bl) (hl1:fl.length≤256) (hl2:bl.length≤256)
    {K:R5→Int→Zd→Prop} (hk:∀ h' r',X2 h' (sz h) r' fl bl→Ext h h'→K r' g h'):ZaA (some ⟨sb,0,none⟩) K h:=by
  unfold ZaA ZcH
  refine Yg fun h1 c1 e1 z1=>Za (Zi rfl (Zj (Zj ?_)))
  have s1:=Zl hc e1
  refine rL (s:=r.1) (Zb s1 rfl) (rL (s:=r.2.1) (Zb s1 rfl) (rL (s:=r.2.2.1) (Zb s1 rfl) (rL (s:=r.2.2.2.1) (Zb s1 rfl) (rL (s:=r.2.2.2.2.1) (Zb s1 rfl) (rI (Zb s1 rfl) ?_)))))
  refine ZlJ (hr.ext e1) hl1 hl2 fun h2 r' e2 hr'=>⟨YM (Zb (Zl s1 e2) rfl),?_⟩
  have w1:sz h1=sz h+1:=z1
  refine ZaE (Zl c1 e2) fun h3 c3 u3 z3=>?_
  have nb:sz h<sz h1:=by omega
  have s3:obj h3 sb=_:=(u3.old sb (Zr (Zl s1 e2)) (show ¬ sb=sz h by have:=Zr hc;omega)).trans (Zl s1 e2)
  refine ⟨YM (Zb s3 rfl),Za ?_⟩
  have w:sz h≤sz h1:=by omega
  refine rL (s:=r'.1) (Zb c3 rfl) (rL (s:=r'.2.1) (Zb c3 rfl) (rL (s:=r'.2.2.1) (Zb c3 rfl) (rL (s:=r'.2.2.2.1) (Zb c3 rfl) (rL (s:=r'.2.2.2.2.1) (Zb c3 rfl) (hk h3 r' ⟨(Zdl hr'.f u3 nb).base w,(Zdl hr'.b u3 nb).base w,(Zdl hr'.h3 u3 nb).base w,(Zdl hr'.s4 u3 nb).base w,(Zdl hr'.a5 u3 nb).base w⟩ ?_)))))
  exact (e1.trans e2).then u3 fun k hk=>by subst hk;exact Nat.le_refl _
theorem Zjv {h:Zd} {fl:List F12} {s w:Sl} (hw:w.len=0) (hs:Row h s 12 (fl.flatMap Zky)) (hl:fl.length≤256) {K:Sl→Zd→Prop} (hk:∀ h' t,Ext h h'→Own h' (sz h) t 1 (fl.map fun _=>iv (-1))→K t h'):ZV s w K h:=by
  unfold ZV YB
  have hlen:=hs.len
  rw [YZ (n:=12) fun _=>rfl] at hlen
  have hsl:s.len=fl.length:=(Nat.eq_of_mul_eq_mul_right (by decide) hlen).symm
  rw [hw]
  refine ⟨by decide,by decide,by decide,by decide,?_⟩
  have e0:Ext h (h.push (.cells (X6 [.bool false] 0).toArray 4)):=Zah (Ext.refl h)
  refine YX (fun p hh=>∃ i:Nat,p.2.1=(i:Int)∧i≤fl.length∧Ext h hh∧Own hh (sz h) p.1 1 ((fl.take i).map fun _=>iv (-1))) (fun p _=>fl.length - p.2.1.toNat) ⟨0,rfl,Nat.zero_le _,e0,Own.nil _ _ _⟩ ?_
  rintro ⟨l,_,_⟩ hh ⟨i,rfl,hil,he,ho⟩ Q hQ
  dsimp only at ho ⊢
  refine Zu (fun q=>?_) fun q=>?_
  ·have hi1:i<fl.length:=by omega
   have hg:fl[i]?=some fl[i]:=List.getElem?_eq_getElem hi1
   generalize fl[i]=f at hg
   obtain ⟨b,o,hb,hlt,hidx,hc⟩:=Zdj (g:=Zky) (n:=12) (fun _=>rfl) (hs.ext he) hg (by decide)
   refine hidx rfl (rS (hc 0 _ rfl) (rS (hc 1 _ rfl) (rB (hc 2 _ rfl) (rI (hc 3 _ rfl) (rI (hc 4 _ rfl) (rS (hc 5 _ rfl) (rI (hc 6 _ rfl) (rI (hc 7 _ rfl) (rI (hc 8 _ rfl) (rB (hc 9 _ rfl) (rI (hc 10 _ rfl) (rB (hc 11 _ rfl) (Yg fun h1 c1 e1 z1=>ZaE c1 fun h2 c2 u2 z2=>Za ?_)))))))))))))
   have e2:Ext hh h2:=e1.then u2 fun k hk=>by subst hk;exact Nat.le_refl _
   refine YX (fun p hx=>p=(-1,0,())∧hx=h2) (fun _ _=>0) ⟨rfl,rfl⟩ ?_
   rintro _ hx ⟨rfl,hx9⟩ Q2 _
   subst hx9
   dsimp only
   refine Zi rfl (Yg fun h3 c3 e3 z3=>(ZiR c3 rfl).rd ?_)
   have e3':=(he.trans e2).trans e3
   have ho3:=Zcs ho (e2.trans e3)
   have hol:l.len=i:=by have:=ho.len;simp at this;omega
   refine ho3.app (n:=1) rfl rfl rfl (by rw [hol];omega) (by rw [hol];omega) e3'.size fun s4 h4 o4 _ u4 _=>hQ _ _ ⟨i+1,?_,hi1,e3'.then u4 fun k hk=>(ho3.lt hk).1,?_⟩ ?_
   ·exact wrS hi1 (by omega)
   ·rw [List.take_add_one,hg,List.map_append];exact o4
   ·show fl.length - (IntKind.wrap .i64 ((i:Int)+1)).toNat<fl.length - ((i:Nat):Int).toNat
    rw [wrS hi1 (by omega)]
    omega
  ·have hfull:fl.take i=fl:=List.take_of_length_le (by omega)
   rw [hfull] at ho
   exact hk hh l he ho
theorem ZpW {h:Zd} {s w:Sl} (hw:w.len=0) (hs:s.len=0) {K:Sl→Zd→Prop} (hk:∀ h',Ext h h'→K ⟨none,0,0⟩ h'):Zw s w K h:=by
  unfold Zw Z8
  rw [hw,hs]
  refine ⟨by decide,by decide,by decide,by decide,?_⟩
  have e0:Ext h (h.push (.cells (X6 [.bool false] 0).toArray 4)):=Zah (Ext.refl h)
  refine YX (fun p hh=>p=(⟨none,0,0⟩,0,())∧Ext h hh) (fun _ _=>0) ⟨rfl,e0⟩ ?_
  rintro _ hh ⟨rfl,he⟩ Q hQ
  exact Zi rfl (hk hh he)
theorem Zli {h:Zd} {s w:Sl} (hw:w.len=0) (hs:s.len=0) {K:Sl→Zd→Prop} (hk:∀ h',Ext h h'→K ⟨none,0,0⟩ h'):ZW s w K h:=by
  unfold ZW YD
  rw [hw,hs]
  refine ⟨by decide,by decide,by decide,by decide,?_⟩
  have e0:Ext h (h.push (.cells (X6 [.bool false] 0).toArray 4)):=Zah (Ext.refl h)
  refine YX (fun p hh=>p=(⟨none,0,0⟩,0,())∧Ext h hh) (fun _ _=>0) ⟨rfl,e0⟩ ?_
  rintro _ hh ⟨rfl,he⟩ Q hQ
  exact Zi rfl (hk hh he)
theorem ZiU {h:Zd} {th:Bool} {n:Int} {K:(Option Addr × Option Addr × Unit)→Zd→Prop} (hk:∀ h',Ext h h'→K (none,none,()) h'):Zaz (Zal th n) K h:=by
  unfold Zaz ZcG
  refine Yg fun h1 c1 e1 z1=>Yg fun h2 c2 e2 z2=>Yg fun h3 c3 e3 z3=>ZaD ?_
  have r3:=Zl c1 (e2.trans e3)
  have x3:=Zl c2 e3
  refine rI (Zb r3 rfl) (Zi rfl (rI (Zb r3 rfl) (Zi rfl (rI (Zb r3 rfl) (Zi rfl (rI (Zb r3 rfl) (Zi rfl (rP (Zb c3 rfl) (rP (Zb c3 rfl) (ZaE x3 fun h4 c4 u4 z4=>?_))))))))))
  exact rP (Zb c4 rfl) (rP (Zb c4 rfl) (hk h4 (((e1.trans e2).trans e3).then u4 fun k hk=>by subst hk;exact e1.size)))
abbrev nl:Sl:=⟨none,0,0⟩
abbrev ZvT (st tb fm:Nat) (r:R5) (sh bk hs:Sl) (g fl nx la:Int):List Value :=
  [iv 10,.int .u64 1,.pointer (some ⟨st,0,none⟩),slV r.1,slV r.2.1,slV r.2.2.1,slV r.2.2.2.1,slV r.2.2.2.2.1,slV sh,slV bk,slV hs,iv g,.pointer (some ⟨tb,0,none⟩),iv 0,iv 0,.map (some fm),iv fl,iv nx,iv la]
abbrev Ztv (st tb fm:Nat) (r:R5) (sh bk hs:Sl) (g fl nx la:Int):Obj:= .cells (ZvT st tb fm r sh bk hs g fl nx la).toArray 82 (0,0)
def ZgV:List Value:=[.pointer none,.pointer none]
theorem ZnK {h:Zd} {eb st tb fm base:Nat} {r W:R5} {sh bk hs:Sl} {g fl nx la:Int} {fs:List F12} (hc:obj h eb=some (Ztv st tb fm r sh bk hs g fl nx la)) (hr:X2 h base r fs []) (hl:fs.length≤256) (hp:∀ f∈fs,∃ th n,f=Zal th n)
    (w1:W.1.len=0) (w2:W.2.1.len=0) (w3:W.2.2.1.len=0) {K:(Sl × Sl × Sl × Int × Unit)→Zd→Prop} (hk:∀ h' t,Ext h h'→Own h' (sz h) t 2 (fs.flatMap fun _=>ZgV)→K (t,nl,nl,g,()) h'):YS (some ⟨eb,0,none⟩) W K h:=by
  unfold YS Zap
  obtain ⟨n3,n4,n5⟩:=hr.lens
  have n1:=hr.len1
  have n2:=hr.len2
  refine Yg fun h1 c1 e1 z1=>Yg fun h2 c2 e2 z2=>Zj ?_
  have y2:=Zl hc (e1.trans e2)
  refine rL (s:=sh) (Zb y2 rfl) (rL (s:=bk) (Zb y2 rfl) (rL (s:=hs) (Zb y2 rfl) (rI (Zb y2 rfl) (Yg fun h3 c3 e3 z3=>ZaE c3 fun h4 c4 u4 z4=>rI (Zb c4 rfl) ?_))))
  have e4:Ext h h4:=((e1.trans e2).trans e3).then u4 fun k hk=>by subst hk;exact (e1.trans e2).size
  have e14:Ext h1 h4:=(e2.trans e3).then u4 fun k hk=>by subst hk;exact e2.size
  have e24:Ext h2 h4:=e3.then u4 fun k hk=>by subst hk;exact Nat.le_refl _
  refine Yg fun h5 c5 e5 z5=>ZaE c5 fun h6 c6 u6 z6=>Zj ?_
  have e46:Ext h4 h6:=e5.then u6 fun k hk=>by subst hk;exact Nat.le_refl _
  have y6:=Zl hc (e4.trans e46)
  have k6:=Zl c1 (e14.trans e46)
  have s6:sz h6=sz h4+1:=by have:h5.size=h4.size+1:=z5;simp only [YV] at this;omega
  refine rL (s:=r.1) (Zb y6 rfl) (rL (s:=W.1) (Zb k6 rfl) (Zjv w1 (hr.ext (e4.trans e46)).f.row hl fun h7 kt e7 ok=>?_))
  have hkl:kt.len=fs.length:=by have:=ok.len;simp at this;omega
  have c7:=Zl c6 e7
  have s7:sz h6≤sz h7:=e7.size
  refine YX (fun p hh=>∃ (i:Nat) (t:Sl),p=((i:Int),())∧i≤fs.length∧Ext h4 hh∧obj hh (sz h4)=some (.cells [slV t,slV nl,slV nl,iv g].toArray 78 (0,0))∧sz h7≤sz hh∧Own hh (sz h7) t 2 ((fs.take i).flatMap fun _=>ZgV)∧Own hh (sz h6) kt 1 (fs.map fun _=>iv (-1)))
    (fun p _=>fs.length - p.1.toNat) ⟨0,nl,rfl,Nat.zero_le _,e46.trans e7,c7,Nat.le_refl _,Own.nil _ _ _,ok⟩ ?_
  rintro _ hh ⟨i,t,rfl,hil,he,hb,hsz,ho,hok⟩ Q hQ
  have e0h:=e4.trans he
  have yh:=Zl hc e0h
  dsimp only
  refine Zu (fun q=>?_) fun q=>?_
  ·have hi1:i<fs.length:=by omega
   have hg:fs[i]?=some fs[i]:=List.getElem?_eq_getElem hi1
   have hm:=List.getElem_mem hi1
   generalize fs[i]=f at hg hm
   obtain ⟨th,n,hf⟩:=hp f hm
   obtain ⟨b,o,hb9,hlt,hidx,hcc⟩:=Zdj (g:=Zky) (n:=12) (fun _=>rfl) (hr.ext e0h).f.row hg (by decide)
   refine hok.row.idx (n:=i) (v:=iv (-1)) rfl (by rw [List.getElem?_map,hg];rfl) fun b9 o9 _ hc9=>⟨_,hc9,Za (Za (Zi rfl (Zj ?_)))⟩
   refine rL (s:=t) (Zb hb rfl) (rL (s:=r.1) (Zb yh rfl) (hidx rfl (rS (hcc 0 _ rfl) (rS (hcc 1 _ rfl) (rB (hcc 2 _ rfl) (rI (hcc 3 _ rfl) (rI (hcc 4 _ rfl) (rS (hcc 5 _ rfl) (rI (hcc 6 _ rfl) (rI (hcc 7 _ rfl) (rI (hcc 8 _ rfl) (rB (hcc 9 _ rfl) (rI (hcc 10 _ rfl) (rB (hcc 11 _ rfl) ?_))))))))))))))
   subst hf
   refine ZiU fun h8 e8=>⟨YM (Zb (Zl yh e8) rfl),YM (Zb (Zl hb e8) rfl),Yg fun h9 c9 e9 z9=>?_⟩
   have e89:=e8.trans e9
   refine ⟨YM (Zb (Zl yh e89) rfl),YM (Zb (Zl hb e89) rfl),(ZiR c9 rfl).rd ?_⟩
   have ho9:=Zcs ho e89
   have htl:t.len=i:=by
     have:=ho.len
     rw [YZ (n:=2) fun _=>rfl,List.length_take] at this
     omega
   have s9:sz h7≤sz h9:=by have:sz hh≤sz h9:=e89.size;omega
   refine ho9.app (n:=1) rfl rfl rfl (by rw [htl];omega) (by rw [htl];omega) s9 fun s10 h10 o10 _ u10 _=>?_
   have b10:∀ k,t.blk=some k→sz h7≤k:=fun k hk=>(ho9.lt hk).1
   have e410:Ext h4 h10:=(he.trans e89).then u10 fun k hk=>by have:=b10 k hk;show sz h4≤k;omega
   have x10:obj h10 (sz h4)=_:=(u10.old (sz h4) (Zr (Zl hb e89)) (fun hk=>by have:=b10 _ hk;omega)).trans (Zl hb e89)
   have y10:=Zl hc (e4.trans e410)
   refine ⟨YM (Zb y10 rfl),ZdD x10 (show 0<4 by decide) rfl fun h11 c11 u11 z11=>?_⟩
   rw [wrS hi1 (by omega)]
   have nb:sz h4<sz h6:=by omega
   have nb7:sz h4<sz h7:=by omega
   have s11:sz h7≤sz h11:=by have:sz h9≤sz h10:=u10.size;omega
   refine hQ _ _ ⟨i+1,s10,rfl,hi1,e410.then u11 fun k hk=>by subst hk;exact Nat.le_refl _,c11,s11,?_,?_⟩ (by show fs.length - ((i+1:Nat):Int).toNat<fs.length - ((i:Nat):Int).toNat;omega)
   ·rw [List.take_add_one,hg,List.flatMap_append]
    exact Zdl o10 u11 nb7
   ·refine Zdl ((Zcs hok e89).congr fun b2 hb2 hl2 hge=>u10.old b2 hl2 fun hk=>?_) u11 nb
    have:=(ok.lt hb2).2
    have:=b10 b2 hk
    simp only [YV] at *
    omega
  have hfull:fs.take i=fs:=List.take_of_length_le (by omega)
  rw [hfull] at ho
  refine Zj (rL (s:=r.2.1) (Zb yh rfl) (rL (s:=W.2.1) (Zb (Zl c1 (e14.trans he)) rfl) (ZpW w2 (by rw [n2];rfl) fun h8 e8=>?_)))
  have e48:=he.trans e8
  have y8:=Zl hc (e4.trans e48)
  refine YX (fun p hx=>p=(0,())∧hx=h8) (fun _ _=>0) ⟨rfl,rfl⟩ ?_
  rintro _ hx ⟨rfl,hx9⟩ Q2 _
  subst hx9
  dsimp only
  refine Zi rfl (Zj (rL (s:=r.2.2.1) (Zb y8 rfl) (rL (s:=W.2.2.1) (Zb (Zl c1 (e14.trans e48)) rfl) (Zli w3 n3 fun h9 e9=>?_))))
  refine YX (fun p hy=>p=(0,())∧hy=h9) (fun _ _=>0) ⟨rfl,rfl⟩ ?_
  rintro _ hy ⟨rfl,hy9⟩ Q3 _
  subst hy9
  dsimp only
  have x9:=Zl (Zl hb e8) e9
  have e49:=e48.trans e9
  refine Zi rfl (rL (s:=t) (Zb x9 rfl) (rL (s:=nl) (Zb x9 rfl) (rL (s:=nl) (Zb x9 rfl) (rI (Zb x9 rfl) (ZaE (Zl c2 (e24.trans e49)) fun h10 c10 u10 z10=>?_)))))
  refine rL (s:=t) (Zb c10 rfl) (rL (s:=nl) (Zb c10 rfl) (rL (s:=nl) (Zb c10 rfl) (rI (Zb c10 rfl) (hk h10 t ?_ ?_))))
  ·exact (e4.trans e49).then u10 fun k hk=>by subst hk;exact e1.size
  ·have w6:sz h≤sz h6:=(e4.trans e46).size
   refine (Zdl (Zcs (Zcs ho e8) e9) u10 ?_).base (Nat.le_trans w6 s7)
   show sz h1<sz h7
   have:sz h1<sz h4:=Zr (Zl c2 e24)
   omega
def Tree.zero:Tree:=⟨fun _=>none,[],0⟩
structure ZlH (h:Zd) (eb q:Nat):Prop where
  e:eb=q+4
  cells:obj h eb=some (Ztv q (q+2) (q+3) r0 nl nl nl 0 0 1 0)
  store:obj h q=some (Zk5 r0 0)
  tree:XM h (q+2) (fun j=>j=q+1∨j=q+2) Tree.zero
  map:Zet h (q+3) (fun _=>none) 0
theorem ZlI {h:Zd} {K:Option Addr→Int→Zd→Prop} (hk:∀ h',ZlH h' (sz h+4) (sz h)→Ext h h'→K (some ⟨sz h+4,0,none⟩) 0 h'):ZbN 10 1 K h:=by
  unfold ZbN Zf7
  refine Za (Zi rfl (Zi rfl (Zqp fun h1 c1 e1 z1=>ZnM fun h2 t2 e2 z2=>Zet.new fun h3 m3 e3 z3=>Yg fun h4 c4 e4 z4=>Za ?_)))
  simp only [YV] at m3 z3 c4 z4 ⊢
  rw [z1] at t2 c4
  rw [z2,z1] at m3 c4
  rw [z3,z2,z1] at c4 ⊢
  have q4:sz h+1+2+1=sz h+4:=by omega
  have q2:sz h+1+2=sz h+3:=by omega
  rw [q4] at c4 ⊢
  rw [q2] at c4 m3
  refine hk h4 ⟨rfl,c4,Zl c1 ((e2.trans e3).trans e4),(t2.ext (e3.trans e4)),m3.congr (Z6 e4 (by omega))⟩ (((e1.trans e2).trans e3).trans e4)
structure Eng where
  fs:List F12
  t:Tree
  fl:Int
  nx:Int
  la:Int
  f:Int→Option Value
  n:Nat
structure Ze1 (h:Zd) (eb st tb fm:Nat) (r:R5) (sh:Sl) (g:Int) (O:Nat→Prop) (E:Eng):Prop where
  cells:obj h eb=some (Ztv st tb fm r sh nl nl g E.fl E.nx E.la)
  rules:Row h r.1 12 (E.fs.flatMap Zky)
  l2:r.2.1.len=0
  l3:r.2.2.1.len=0
  l4:r.2.2.2.1.len=0
  l5:r.2.2.2.2.1.len=0
  shp:Row h sh 2 (E.fs.flatMap fun _=>ZgV)
  tree:XM h tb O E.t
  map:Zet h fm E.f E.n
  hO:∀ j,O j→j<sz h
  se:¬ O eb
  sm:¬ O fm
  em:eb≠fm
  sr:∀ b,r.1.blk=some b∨sh.blk=some b→¬ O b∧b≠eb∧b≠fm
  lr:∀ b,r.1.blk=some b∨sh.blk=some b→b<sz h
theorem Ze1.ext {h h':Zd} {eb st tb fm:Nat} {r:R5} {sh:Sl} {g:Int} {O:Nat→Prop} {E:Eng} (hE:Ze1 h eb st tb fm r sh g O E) (e:Ext h h'):Ze1 h' eb st tb fm r sh g O E :=
  ⟨Zl hE.cells e,hE.rules.ext e,hE.l2,hE.l3,hE.l4,hE.l5,hE.shp.ext e,hE.tree.ext e,hE.map.congr (Z6 e hE.map.lt),fun j hj=>by have:=hE.hO j hj;have:sz h≤sz h':=e.size;omega,hE.se,hE.sm,hE.em,hE.sr,fun b hb=>Nat.lt_of_lt_of_le (hE.lr b hb) e.size⟩
theorem ZnX {h:Zd} {eb q base:Nat} {r:R5} {fs:List F12} (hE:ZlH h eb q) (hr:X2 h base r fs []) (hl:fs.length≤256) (hp:∀ f∈fs,∃ th n,f=Zal th n∧0≤n∧n≤1099511627776)
    {K:Int→Zd→Prop} (hk:∀ h' r' sh g,Ze1 h' eb q (q+2) (q+3) r' sh g (fun j=>j=q+1∨j=q+2) ⟨fs,Tree.zero,0,1,0,fun _=>none,0⟩→Upd (fun j=>q≤j∧j≤q+4) h h'→K 0 h'):YC (some ⟨eb,0,none⟩) r K h:=by
  unfold YC ZaL
  obtain ⟨he,hc,hs,ht,hm⟩:=hE
  subst he
  have leb:q+4<sz h:=Zr hc
  refine Yg fun h1 c1 e1 z1=>Za (Zi rfl (Zj (rP (Zb (Zl hc e1) rfl) ?_)))
  refine rL (s:=r.1) (Zb c1 rfl) (rL (s:=r.2.1) (Zb c1 rfl) (rL (s:=r.2.2.1) (Zb c1 rfl) (rL (s:=r.2.2.2.1) (Zb c1 rfl) (rL (s:=r.2.2.2.2.1) (Zb c1 rfl) ?_))))
  refine ZjV (Zl hs e1) (hr.ext e1) hl (by decide) (fun f hf=>?_) (fun f hf=>by cases hf) fun h2 rs g2 s2 rr2 u2=>Za (Zi rfl (Zj ?_))
  ·obtain ⟨th,n,e,hn⟩:=hp f hf
   subst e
   intro h9 K9 hk9
   exact Zqv hn hk9
  have k2:∀ j,j≤q+4→j≠q→obj h2 j=obj h j:=fun j hj hn=>(u2.old j (show j<sz h1 by have:sz h≤sz h1:=e1.size;omega) hn).trans (e1.old j (show j<sz h by omega))
  have y2:obj h2 (q+4)=_:=(k2 _ (Nat.le_refl _) (by omega)).trans hc
  have w2:sz h1≤sz h2:=u2.size
  have w1:sz h≤sz h1:=e1.size
  refine rL (s:=nl) (Zb y2 rfl) (rL (s:=nl) (Zb y2 rfl) (rL (s:=nl) (Zb y2 rfl) (rL (s:=nl) (Zb y2 rfl) (rL (s:=nl) (Zb y2 rfl) (Yg fun h3 c3 e3 z3=>ZaE c3 fun h4 c4 u4 z4=>Zj ?_)))))
  have e24:Ext h2 h4:=e3.then u4 fun k hk=>by subst hk;exact Nat.le_refl _
  have y4:=Zl y2 e24
  refine rP (Zb y4 rfl) (ZlE (Zl s2 e24) (rr2.ext e24) hl (by decide) fun h5 r5 rr5 e5=>Zj ?_)
  have y5:=Zl y4 e5
  have w4:sz h2≤sz h4:=e24.size
  have w5:sz h4≤sz h5:=e5.size
  refine Zvm y5 (ZvT q (q+2) (q+3) r5 nl nl nl 0 0 1 0) fun h6 y6 u6 z6=>Zj ?_
  have c5:obj h6 (sz h2)=_:=(u6.old (sz h2) (Zr (Zl c4 e5)) (by show ¬ sz h2=q+4;omega)).trans (Zl c4 e5)
  have nb:q+4<sz h4:=by omega
  have rr6:X2 h6 (sz h4) r5 fs []:=⟨Zdl rr5.f u6 nb,Zdl rr5.b u6 nb,Zdl rr5.h3 u6 nb,Zdl rr5.s4 u6 nb,Zdl rr5.a5 u6 nb⟩
  refine rL (s:=nl) (Zb c5 rfl) (rL (s:=nl) (Zb c5 rfl) (rL (s:=nl) (Zb c5 rfl) (rL (s:=nl) (Zb c5 rfl) (rL (s:=nl) (Zb c5 rfl) ?_))))
  refine ZnK (W:=r0) y6 rr6 hl (fun f hf=>by obtain ⟨th,n,e,_⟩:=hp f hf;exact ⟨th,n,e⟩) rfl rfl rfl fun h7 sh e7 osh=>Zj ?_
  have y7:=Zl y6 e7
  refine Zvm y7 (ZvT q (q+2) (q+3) r5 sh nl nl 0 0 1 0) fun h8 y8 u8 z8=>Za ?_
  have w7:sz h6≤sz h7:=e7.size
  have k8:∀ j,j<q+4→j≠q→obj h8 j=obj h j:=fun j hj hn =>
    (u8.old j (show j<sz h7 by omega) (by omega)).trans ((e7.old j (show j<sz h6 by omega)).trans ((u6.old j (show j<sz h5 by omega) (by omega)).trans (((e24.trans e5).old j (show j<sz h2 by omega)).trans (k2 j (by omega) hn))))
  obtain ⟨n3,n4,n5⟩:=rr6.lens
  have n2:=rr6.len2
  have r8:=Zdl (Zcs rr6.f e7) u8 nb
  have o8:=Zdl osh u8 (show q+4<sz h6 by omega)
  refine hk h8 r5 sh 0 ⟨y8,r8.row,n2,n3,n4,n5,o8.row,?_,hm.congr (k8 _ (by omega) (by omega)),fun j hj=>?_,by omega,by omega,by omega,fun b hb=>?_,fun b hb=>?_⟩ ?_
  ·exact ht.congr fun j hj _=>k8 j (by omega) (by omega)
  ·have:sz h≤sz h8:=by omega
   omega
  ·have:q+4<b:=by
     rcases hb with hb | hb
     ·have:sz h4≤b:=(r8.lt hb).1
      omega
     ·have:sz h6≤b:=(o8.lt hb).1
      omega
   omega
  ·rcases hb with hb | hb
   ·exact (r8.lt hb).2
   ·exact (o8.lt hb).2
  ·refine ((e1.upd _).trans (u2.mono fun j _ hj=>by omega)).trans (((e24.trans e5).upd _).trans ((u6.mono fun j _ hj=>by omega).trans ((e7.upd _).trans (u8.mono fun j _ hj=>by omega))))
end Go.Proofs.YthbfgkphlmlihaaGreat
