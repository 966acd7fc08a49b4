/- SlotsRate's walk, apart from its live part. -/
import Derived.ChangeArms
import Derived.Test.YthbfgkphlmlihaaGreatPa11
set_option linter.unusedVariables false
set_option linter.unusedSimpArgs false
namespace Go.Proofs.YthbfgkphlmlihaaGreat
open Go Go.Fw
open Nat renaming reduceAdd→Nqa,reduceLT→Nqb,reduceLeDiff→Nqc,reduceEqDiff→Nqd,reduceMul→Nqe
theorem Zdu.frameS {h h':Zc} {eb st tb fm:Nat} {r:R5} {sh:Sl} {g:Int} {O S:Nat→Prop} {E:Eng} (hE:Zdu h eb st tb fm r sh g O E) (u:Upd S h h') (h1:¬ S eb) (h2:¬ S fm) (hO:∀ j,O j→¬ S j) (h3:∀ b,r.1.blk=some b∨sh.blk=some b→¬ S b):Zdu h' eb st tb fm r sh g O E:=by
  have w:sz h≤sz h':=u.size
  exact ⟨(u.old eb (ZI hE.cells) h1).trans hE.cells,Zc9 hE.rules fun b hb hl=>u.old b hl (h3 b (.inl hb)),hE.l2,hE.l3,hE.l4,hE.l5,Zc9 hE.shp fun b hb hl=>u.old b hl (h3 b (.inr hb)),hE.tree.congr fun j hj hl=>u.old j hl (hO j hj),hE.map.congr (u.old fm hE.map.lt h2),fun j hj=>Nat.lt_of_lt_of_le (hE.hO j hj) w,hE.se,hE.sm,hE.em,hE.sr,fun b hb=>Nat.lt_of_lt_of_le (hE.lr b hb) w⟩
theorem Zey (c:C8):(c8L c).length=7:=rfl
def ZfA (h:Zc) (c:C8):Prop:=ZhB c∧∃ al:List ByteArray,Row h c.2.2.2.2.2.2.1 1 (al.map .string)
theorem ZfA.ext {h h':Zc} {c:C8} (hc:ZfA h c) (e:Ext h h'):ZfA h' c:=by
  obtain ⟨hz,al,ha⟩:=hc
  exact ⟨hz,al,ha.ext e⟩
abbrev pc (c:C8):Int × Int:=(c.1,c.2.2.2.2.2.1)
def Zpg:Prop:=∀ (h:Zc) (K:Bool→Zc→Prop),(∀ h',Ext h h'→K true h')→Y7 K h
structure In1 (h0 hh:Zc) (eb st tb fm:Nat) (r:R5) (sh:Sl) (g:Int) (O:Nat→Prop) (E:Eng) (n:Int) (i:Nat) (pl:Sl) (qs:List C8):Prop where
  e:Ext h0 hh
  eng:Zdu hh eb st tb fm r sh g O E
  fs:E.fs=[Y5 false n]
  ok:Zf6 E i
  cnt:ZcZ E n (qs.map pc)
  len:qs.length≤i
  own:∀ j,ZhM eb fm O j→sz h0≤j
  row:Own hh (sz h0) pl 7 (qs.flatMap c8L)
  sep:∀ b,pl.blk=some b→¬ ZhM eb fm O b∧r.1.blk≠some b∧sh.blk≠some b
theorem Zog {h:Zc} {count:Int} (hcount:0≤count∧count≤255) {l:Sl} {cs:List C8} (hl:Row h l 7 (cs.flatMap c8L)) (hcs:∀ c∈cs,ZfA h c) (hlive:Zpg) {K:Bool→Zc→Prop} (hk:∀ h',Ext h h'→K true h'):YS count l K h:=by
  unfold YS XQ
  have hwc:IntKind.wrap .i64 count=count:=Xy (by omega) (by omega)
  rw [hwc]
  have hlen:=hl.len
  rw [YI Zey] at hlen
  have hll:l.len=cs.length:=(Nat.eq_of_mul_eq_mul_right (by decide) hlen).symm
  have hbig:=hl.big
  have hcap:=hl.cap
  refine ZjK fun h1 hf e1=>Za (Zl rfl (YH fun h2 c2 e2 z2=>?_))
  have hf2:ZkZ h2 (sz h+4) (sz h):=⟨rfl,Zq hf.cells e2,Zq hf.store e2,hf.tree.ext e2,hf.map.congr (Yf e2 hf.map.lt)⟩
  have o2:Own h2 (sz h1) ⟨some ⟨h1.size,0,none⟩,1,1⟩ 12 (([Y5 false count]).flatMap Zid):=⟨rfl,Nat.le_refl _,(show 1<9223372036854775808 by decide),.inr ⟨h1.size,_,_,rfl,Nat.le_refl _,c2,rfl,rfl⟩⟩
  refine Zio hf2 (r:=(⟨some ⟨h1.size,0,none⟩,1,1⟩,nl,nl,nl,nl,())) (fs:=[Y5 false count]) ⟨o2,Own.nil _ _ _,Own.nil _ _ _,Own.nil _ _ _,Own.nil _ _ _⟩ (show 1≤256 by decide) (fun f hf9=>⟨false,count,by simpa using hf9,by omega⟩) fun h3 r sh g hE u3=>Zl rfl (Za ?_)
  have E03:Ext h h3:=(e1.trans e2).then u3 fun k hk=>hk.1
  have base:In1 h h3 (sz h+4) (sz h) (sz h+2) (sz h+3) r sh g (fun j=>j=sz h+1∨j=sz h+2) ⟨[Y5 false count],Tree.zero,0,1,0,fun _=>none,0⟩ count 0 nl [] :=
    ⟨E03,hE,rfl,⟨(show 0≤512 by decide),Int.le_refl _,Int.le_refl _,(fun k n hn=>by cases hn),(show (0:Int)≤0∧(0:Int)≤((0:Nat):Int) by decide),(show (1:Int)≤1∧(1:Int)≤((0:Nat):Int)+1 by decide)⟩,⟨fun i=>rfl,(fun p hp=>by cases hp),fun t _=>hcount.1⟩,Nat.le_refl _,(fun j hj=>by unfold ZhM at hj;omega),Own.nil _ _ _,fun b hb=>by cases hb⟩
  refine X8 (fun p hh=>∃ (i:Nat) (O:Nat→Prop) (E:Eng) (qs:List C8),p=(p.1,(i:Int),())∧i≤cs.length∧i≤200∧In1 h hh (sz h+4) (sz h) (sz h+2) (sz h+3) r sh g O E count i p.1 qs) (fun p _=>cs.length - p.2.1.toNat) ⟨0,_,_,[],rfl,Nat.zero_le _,Nat.zero_le _,base⟩ ?_
  rintro ⟨pl,_,_⟩ hh ⟨i,O,E,qs,hp,hil,hi2,hI⟩ Q hQ
  injection hp with _ hp
  injection hp with hp _
  subst hp
  dsimp only at hI ⊢
  rw [hll]
  refine ZG (fun q=>ZG (fun q2=>?_) fun q2=>hlive hh _ fun h9 e9=>Zi (hk h9 (hI.e.trans e9))) fun q=>hlive hh _ fun h9 e9=>Zi (hk h9 (hI.e.trans e9))
  have hi1:i<cs.length:=by omega
  have hg:cs[i]?=some cs[i]:=List.getElem?_eq_getElem hi1
  have hm:=List.getElem_mem hi1
  generalize cs[i]=c at hg hm
  obtain ⟨hz,al,ha⟩:=(hcs c hm).ext hI.e
  have R1:=hl.ext hI.e
  obtain ⟨b,o,hb,hlt,hidx,hc⟩:=Zds Zey R1 hg (by decide)
  have hidx':∀ {K:Nat→Nat→Prop},K b o→Xd l.ptr cs.length (i:Int) 7 K:=fun {K} hk=>by have:=hidx (K:=K) (m:=i) rfl hk;rwa [hll] at this
  refine hidx' (rI (hc 0 _ rfl) (rS (hc 1 _ rfl) (rS (hc 2 _ rfl) (rS (hc 3 _ rfl) (rB (hc 4 _ rfl) (rI (hc 5 _ rfl) (rL (s:=c.2.2.2.2.2.2.1) (hc 6 _ rfl) ?_)))))))
  have hsum:0≤(Zgq ((E.mid c).t.f (clK c.2.1)) c.1).1∧(Zgq ((E.mid c).t.f (clK c.2.1)) c.1).1≤4611686018427387904:=by
    have hz0:∀ n:Node,(∀ i,Rt (n.s i))→0≤(n.sum c.1).1∧(n.sum c.1).1≤4611686018427387904:=fun n hn=>by
      unfold Node.sum
      split
      ·unfold Win.sum
       by_cases h9:loW .sec c.1≤bkt .sec c.1+1
       ·exact (ZfI hn h9).p
       ·unfold Zfb
        rw [show (bkt .sec c.1+1 - loW .sec c.1).toNat=0 from by omega]
        show 0≤(0:Int)∧(0:Int)≤4611686018427387904
        decide
      ·decide
    cases hfm:(E.mid c).t.f (clK c.2.1) with
    | none=>exact ⟨Int.le_refl _,(show (0:Int)≤4611686018427387904 by decide)⟩
    | some nd =>
      refine hz0 nd fun j=>?_
      by_cases h9:E.t.touchE c=0
      ·have e:(E.mid c).t=E.t.makes (Yd c):=by show E.t.touched c=_;unfold Tree.touched;rw [if_pos h9]
       rw [e] at hfm
       rcases ZfW (Yd c) E.t (clK c.2.1) with ⟨_,_,q⟩ | ⟨_,_,q⟩ | ⟨n2,q1,q2⟩
       ·rw [q] at hfm;cases hfm
       ·rw [q] at hfm;cases hfm;exact Rt.zero
       ·rw [q2] at hfm;cases hfm;exact (hI.ok.nodes _ _ q1).rt j
      ·have e:(E.mid c).t=E.t:=by show E.t.touched c=_;unfold Tree.touched;rw [if_neg h9]
       rw [e] at hfm
       exact (hI.ok.nodes _ _ hfm).rt j
  refine Zf5 hI.eng hI.fs (by omega) (c:=c) hz ha hsum fun h4 O4 E4 m v e hent hE4 u4 g4=>YH fun h5 c5 e5 z5=>Za (Zcs c5 fun h6 c6 u6 z6=>Za ?_)
  have hEC:=Zex hI.ok (by omega) hI.cnt (by simpa using hI.len) hent
  have hOK:=Zie hI.ok (by omega) hent
  have hfs4:E4.fs=[Y5 false count]:=by cases hent<;>exact hI.fs
  have e46:Ext h4 h6:=e5.then u6 fun k hk=>by subst hk;exact Nat.le_refl _
  have w0:sz h≤sz hh:=hI.e.size
  have w4:sz hh≤sz h4:=u4.size
  have E04:Ext h h4:=hI.e.then u4 fun k hk=>hI.own k hk
  have own4:∀ j,ZhM (sz h+4) (sz h+3) O4 j→sz h≤j:=fun j hj=>by
    rcases hj with hj | hj | hj
    ·omega
    ·omega
    ·rcases g4.1 j hj with q9 | q9
     ·exact hI.own j (.inr (.inr q9))
     ·omega
  have next:∀ (hx:Zc),Ext h4 hx→ZcZ E4 count (qs.map pc)→In1 h hx (sz h+4) (sz h) (sz h+2) (sz h+3) r sh g O4 E4 count (i+1) pl qs:=fun hx ex hC=>by
    refine ⟨E04.trans ex,hE4.ext ex,hfs4,hOK,hC,Nat.le_succ_of_le hI.len,own4,Zcu (hI.row.congr fun b hb hl9 _=>u4.old b hl9 (hI.sep b hb).1) ex,fun b hb=>⟨fun h9=>?_,(hI.sep b hb).2⟩⟩
    rcases h9 with h9 | h9 | h9
    ·exact (hI.sep b hb).1 (.inl h9)
    ·exact (hI.sep b hb).1 (.inr (.inl h9))
    ·rcases g4.1 b h9 with q9 | q9
     ·exact (hI.sep b hb).1 (.inr (.inr q9))
     ·have:b<sz hh:=(hI.row.lt hb).2
      omega
  have hwr:IntKind.wrap .i64 ((i:Int)+1)=((i+1:Nat):Int):=wrS hi1 (by omega)
  have go:∀ (hx:Zc) (pl':Sl) (qs':List C8),In1 h hx (sz h+4) (sz h) (sz h+2) (sz h+3) r sh g O4 E4 count (i+1) pl' qs'→Q (pl',IntKind.wrap .i64 ((i:Int)+1),()) hx:=fun hx pl' qs' hI'=>by
    rw [hwr]
    exact hQ _ _ ⟨i+1,O4,E4,qs',rfl,hi1,by omega,hI'⟩ (by show cs.length - ((i+1:Nat):Int).toNat<cs.length - ((i:Nat):Int).toNat;omega)
  rcases hEC with ⟨he,hEE⟩ | ⟨he,hF,hla,hcase⟩
  ·exact ZK (by simpa using he) (Za (go h6 pl qs (next h6 e46 (hEE▸hI.cnt))))
  subst he
  refine Zl rfl ?_
  obtain ⟨b2,o2,hb2,hlt2,hidx2,hc2⟩:=Zds Zey (hl.ext (E04.trans e46)) hg (by decide)
  have hidx2':∀ {K:Nat→Nat→Prop},K b2 o2→Xd l.ptr cs.length (i:Int) 7 K:=fun {K} hk=>by have:=hidx2 (K:=K) (m:=i) rfl hk;rwa [hll] at this
  refine hidx2' (rS (hc2 1 _ rfl) ?_)
  rw [Zd3]
  by_cases hres:c.2.1=sA
  case neg =>
    rw [decide_eq_false hres]
    refine ZK rfl (Za (go h6 pl qs (next h6 e46 ?_)))
    rcases hcase with ⟨_,_,hC⟩ | ⟨_,_,h9,_⟩
    ·rw [if_neg (fun h9=>hres h9.symm)] at hC;exact hC
    ·exact absurd h9.symm hres
  rw [decide_eq_true hres]
  refine Zl rfl (rI (Zb c6 rfl) (Zl ?_ (Zqs (fun (s:Sl × Unit) hx=>∃ qs',In1 h hx (sz h+4) (sz h) (sz h+2) (sz h+3) r sh g O4 E4 count (i+1) s.1 qs') ?_ fun Q2 hQ2=>?_)))
  ·rcases hcase with ⟨h1,h2,_⟩ | ⟨h1,h2,_,_⟩
   ·rw [h2,decide_eq_true h1];rfl
   ·rw [h2,h1];rfl
  ·rintro ⟨pl',u⟩ hx ⟨qs',hI'⟩
   dsimp only at hI' ⊢
   have hpl:pl'.len=qs'.length:=by
     have:=hI'.row.len
     rw [YI Zey] at this
     exact (Nat.eq_of_mul_eq_mul_right (by decide) this).symm
   have hpos:∀ p∈qs'.map pc,0≤p.1∧p.1≤c.1∧1≤p.2∧p.2≤1099511627776:=fun p hp=>by have:=hI'.cnt.pos p hp;rw [hla] at this;exact this
   obtain ⟨b3,o3,hb3,hlt3,hidx3,hc3⟩:=Zds Zey (hl.ext hI'.e) hg (by decide)
   have hidx3':∀ {K:Nat→Nat→Prop},K b3 o3→Xd l.ptr cs.length (i:Int) 7 K:=fun {K} hk=>by have:=hidx3 (K:=K) (m:=i) rfl hk;rwa [hll] at this
   have hql:=hI'.len
   refine Za (Za (X8 (fun p hy=>hy=hx∧∃ k:Nat,p.2.1=(k:Int)∧k≤qs'.length∧p.1=sm (fun t=>decide (c.1 - t<900000)) ((qs'.take k).map pc)) (fun p _=>qs'.length - p.2.1.toNat) ⟨rfl,0,rfl,Nat.zero_le _,rfl⟩ ?_))
   rintro ⟨sum,_,_⟩ hy ⟨hy9,k,hkk,hkl,hs⟩ Q3 hQ3
   subst hy9
   dsimp only at hkk hs ⊢
   subst hkk
   subst hs
   have hat:=hF.at_
   have hb9:∀ kk:Nat,0≤sm (fun t=>decide (c.1 - t<900000)) ((qs'.take kk).map pc)∧sm (fun t=>decide (c.1 - t<900000)) ((qs'.take kk).map pc)≤1099511627776*1000:=fun kk=>by
     have hsub:∀ p∈(qs'.take kk).map pc,p∈qs'.map pc:=fun p hp=>by
       obtain ⟨y,hy,rfl⟩:=List.mem_map.1 hp
       exact List.mem_map_of_mem (List.mem_of_mem_take hy)
     have h1:=Zk4 (P:=fun t=>decide (c.1 - t<900000)) (ps:=(qs'.take kk).map pc) fun p hp=>by have:=(hpos p (hsub p hp)).2.2;omega
     have h2:=Zgn (P:=fun t=>decide (c.1 - t<900000)) (b:=1099511627776) (by decide) (ps:=(qs'.take kk).map pc) fun p hp=>by have:=(hpos p (hsub p hp)).2.2;omega
     have h3:((qs'.take kk).map pc).length≤1000:=by rw [List.length_map,List.length_take];omega
     omega
   rw [hpl]
   refine ZG (fun q3=>?_) fun q3=>?_
   ·have hk1:k<qs'.length:=by omega
    have hgk:qs'[k]?=some qs'[k]:=List.getElem?_eq_getElem hk1
    have hmk:=List.getElem_mem hk1
    generalize qs'[k]=x at hgk hmk
    obtain ⟨b4,o4,hb4,hlt4,hidx4,hc4⟩:=Zds Zey hI'.row.row hgk (by decide)
    have hidx4':∀ {K:Nat→Nat→Prop},K b4 o4→Xd pl'.ptr qs'.length (k:Int) 7 K:=fun {K} hk=>by have:=hidx4 (K:=K) (m:=k) rfl hk;rwa [hpl] at this
    have hx9:=hpos (pc x) (List.mem_map_of_mem hmk)
    have hxa:0≤x.1∧x.1≤c.1∧1≤x.2.2.2.2.2.1∧x.2.2.2.2.2.1≤1099511627776:=hx9
    have hwk:IntKind.wrap .i64 ((k:Int)+1)=((k+1:Nat):Int):=wrS hk1 (by omega)
    have htk:(qs'.take (k+1)).map pc=(qs'.take k).map pc++[pc x]:=by rw [List.take_add_one,hgk,List.map_append];rfl
    have hbk:=hb9 k
    refine hidx3' (rI (hc3 0 _ rfl) (hidx4' (rI (hc4 0 _ rfl) ?_)))
    rw [Xy (n:=c.1 - x.1) (by omega) (by omega)]
    refine ZG (fun q4=>hidx4' (rI (hc4 5 _ rfl) (Za (Za ?_)))) fun q4=>Za ?_
    ·rw [hwk,Xy (by omega) (by omega)]
     refine hQ3 _ _ ⟨rfl,k+1,rfl,hk1,?_⟩ (by show qs'.length - ((k+1:Nat):Int).toNat<qs'.length - ((k:Nat):Int).toNat;omega)
     rw [htk,Zjf]
     show _=_+(if decide (c.1 - x.1<900000)=true then x.2.2.2.2.2.1 else 0)
     rw [decide_eq_true q4,if_pos rfl]
    ·rw [hwk]
     refine hQ3 _ _ ⟨rfl,k+1,rfl,hk1,?_⟩ (by show qs'.length - ((k+1:Nat):Int).toNat<qs'.length - ((k:Nat):Int).toNat;omega)
     rw [htk,Zjf]
     show _=_+(if decide (c.1 - x.1<900000)=true then x.2.2.2.2.2.1 else 0)
     rw [decide_eq_false q4,if_neg (by decide)]
     omega
   ·have hfull:qs'.take k=qs':=List.take_of_length_le (by omega)
    rw [hfull]
    have h1:=ZfJ (P:=fun t=>decide (c.1 - t<900000)) (Q:=since c.1) (ps:=qs'.map pc) (fun p hp=>by have:=(hpos p hp).2.2;omega) fun p hp hy=>Zwu (hpos p hp).1 (by simpa using hy)
    have h2:=hI'.cnt.win c.1 (by rw [hla];exact Int.le_refl _)
    refine ZG (fun q4=>by omega) fun _=>Za (go hy pl' qs' hI')
  ·rcases hcase with ⟨h1,h2,hC⟩ | ⟨h1,h2,h3,hC⟩
   ·rw [if_pos hres.symm] at hC
    refine ZK (decide_eq_true h1) (hidx2' (rI (hc2 0 _ rfl) (rS (hc2 1 _ rfl) (rS (hc2 2 _ rfl) (rS (hc2 3 _ rfl) (rB (hc2 4 _ rfl) (rI (hc2 5 _ rfl) (rL (s:=c.2.2.2.2.2.2.1) (hc2 6 _ rfl) (YH fun h7 c7 e7 z7=>(ZkC c7 rfl).rd ?_)))))))))
    have e47:=e46.trans e7
    have hrow4:Own h7 (sz h) pl 7 (qs.flatMap c8L):=Zcu (hI.row.congr fun b hb hl9 _=>u4.old b hl9 (hI.sep b hb).1) e47
    have hpl:pl.len=qs.length:=by
      have:=hI.row.len
      rw [YI Zey] at this
      exact (Nat.eq_of_mul_eq_mul_right (by decide) this).symm
    have hql:=hI.len
    have w7:sz h4≤sz h7:=e47.size
    refine hrow4.app (n:=1) rfl rfl rfl (by rw [hpl];omega) (by rw [hpl];omega) (by show sz h≤sz h7;omega) fun s8 h8 o8 _ u8 b8=>hQ2 _ _ ⟨qs++[c],?_⟩
    have hsepx:∀ b,pl.blk=some b→¬ ZhM (sz h+4) (sz h+3) O4 b:=fun b hb h9=>by
      rcases h9 with h9 | h9 | h9
      ·exact (hI.sep b hb).1 (.inl h9)
      ·exact (hI.sep b hb).1 (.inr (.inl h9))
      ·rcases g4.1 b h9 with q9 | q9
       ·exact (hI.sep b hb).1 (.inr (.inr q9))
       ·have:b<sz hh:=(hI.row.lt hb).2
        omega
    have E7:=hE4.ext e47
    have hps:∀ j,pl.blk=some j→sz h≤j:=fun j hj=>(hI.row.lt hj).1
    have bb:∀ b,s8.blk=some b→pl.blk=some b∨b=sz h7:=fun b hb=>by
      rcases b8 with h9 | h9
      ·exact .inl (h9▸hb)
      ·rw [h9] at hb;exact .inr (Option.some.inj hb).symm
    refine ⟨(E04.trans e47).then u8 fun k hk=>hps k hk,E7.frameS u8 (fun h9=>hsepx _ h9 (.inl rfl)) (fun h9=>hsepx _ h9 (.inr (.inl rfl))) (fun j hj h9=>hsepx _ h9 (.inr (.inr hj))) (fun b hb h9=>?_),hfs4,hOK,?_,?_,own4,?_,fun b hb=>?_⟩
    ·rcases hb with hb | hb
     ·exact (hI.sep b h9).2.1 hb
     ·exact (hI.sep b h9).2.2 hb
    ·rw [List.map_append];exact hC
    ·rw [List.length_append];show qs.length+1≤i+1;omega
    ·rw [List.flatMap_append];exact o8
    ·rcases bb b hb with h9 | h9
     ·exact ⟨hsepx b h9,(hI.sep b h9).2⟩
     ·subst h9
      refine ⟨fun h9=>?_,fun h9=>?_,fun h9=>?_⟩
      ·rcases h9 with h9 | h9 | h9
       ·have:sz h+4<sz h7:=ZI E7.cells
        omega
       ·have:sz h+3<sz h7:=E7.map.lt
        omega
       ·have:=E7.hO _ h9
        omega
      ·have:=E7.lr _ (.inl h9)
       omega
      ·have:=E7.lr _ (.inr h9)
       omega
   ·exact Zl (by rw [h1];rfl) (hQ2 _ _ ⟨qs,next h6 e46 hC⟩)
abbrev Zsn:ByteArray:=ByteArray.mk #[109,97,105,110]
def c0:C8:=(0,sA,Zsn,em,false,1,nl,())
theorem Zf9 {E:Eng} {m:Nat} (h:Zf6 E m) (hm:m<4096) (hla:E.la=0) (hr:E.t.room (Yd c0)):XN E c0 []=0:=by
  have hk:Ze1 c0=0:=by decide
  have hfl:=h.fl
  unfold XN
  rw [if_neg (fun h9=>h9 hk),if_neg (fun h9=>h9 (show 0≤(0:Int)∧(0:Int)≤1152921504606846976 by decide)),if_neg (fun h9=>h9 (show 1≤(1:Int)∧(1:Int)≤1099511627776 by decide)),if_neg (by decide),if_neg (by decide),if_neg (show ¬ c0.1<E.la by rw [hla];decide),if_neg (by omega)]
  unfold Tree.touchE
  rw [if_neg (fun h9=>h9 hk),if_neg (fun h9=>h9 hr)]
theorem Zqb {h:Zc} {mb n:Nat} {v:Value} (hm:ZdX h mb (upd (fun _=>none) 1 (some v)) n):ZkW h mb [1]:=by
  obtain ⟨es,c,hb,hs,hn,he⟩:=hm
  refine ⟨es,c,hb,hs,?_,by simp,fun x hx=>by simp at hx;omega⟩
  have hd:=((MapKept.stamped_iff es c).1 hs).2.2
  have hall:∀ e∈es.toList,e.key=iv 1:=fun e hm=>by
    obtain ⟨k,hk,hv⟩:=he.to e hm
    unfold upd at hv
    split at hv
    ·rename_i hk1;rw [hk,hk1]
    ·cases hv
  obtain ⟨e,hm,_⟩:=he.of 1 v (ZeB _ _ _)
  cases hl:es.toList with
  | nil=>rw [hl] at hm;cases hm
  | cons x l =>
    rw [hl] at hall hd
    cases l with
    | nil=>simp [hall x (List.mem_cons_self ..)]
    | cons y l =>
      have h1:=List.pairwise_cons.1 hd
      exact absurd ((hall x (List.mem_cons_self ..)).trans (hall y (by simp)).symm) (h1.1 y (List.mem_cons_self ..))
theorem Zm1 {h:Zc} {eb st tb fm:Nat} {r:R5} {sh:Sl} {g:Int} {O:Nat→Prop} {E:Eng} (hE:Zdu h eb st tb fm r sh g O E) {c:C8} (hf:E.f=upd (fun _=>none) 1 (some (ZjB c))) {K:Sl→Zc→Prop} (hk:∀ h' s,Ext h h'→s.len=1→K s h'):Xn (some ⟨eb,0,none⟩) K h:=by
  unfold Xn Zba
  refine YH fun h1 c1 e1 z1=>rP (Zb c1 rfl) (Zl rfl (rP (Zb c1 rfl) (Zp (rM (Zb (hE.ext e1).cells rfl) ?_))))
  unfold ZQ
  refine YH fun h2 c2 e2 z2=>?_
  have E2:=(hE.ext e1).ext e2
  have hm2:ZdX h2 fm (upd (fun _=>none) 1 (some (ZjB c))) E.n:=by have:=E2.map;rwa [hf] at this
  refine ⟨_,fm,[1],rfl,by rw [Ym];exact Zb c2 rfl,Zqb hm2,by decide,fun s h3 o3 e3=>?_⟩
  have hl:s.len=1:=by have:=o3.len;simp at this;omega
  have E3:=E2.ext e3
  have hm3:ZdX h3 fm (upd (fun _=>none) 1 (some (ZjB c))) E.n:=by have:=E3.map;rwa [hf] at this
  have e03:=(e1.trans e2).trans e3
  have b3:=Zq (Zq c1 e2) e3
  unfold ZO Ya ZP Yc
  refine Za (X8 (fun p hh=>(p.1=0∨p.1=1)∧hh=h3) (fun p _=>(1 - p.1).toNat) ⟨.inl rfl,rfl⟩ ?_)
  rintro ⟨i,u⟩ hh ⟨hi,hh9⟩ Q hQ
  subst hh9
  dsimp only at hi ⊢
  rcases hi with hi | hi
  ·subst hi
   rw [hl]
   have hix:∀ {K:Nat→Nat→Prop},(∀ b o,Zc.cell hh b o=some (iv 1)→K b o)→Xd s.ptr 1 0 1 K:=fun {K} hk=>by
     have:=o3.row.idx (i:=0) (n:=0) (v:=iv 1) rfl rfl (K:=K) fun b o _ hc=>hk b (o+0) hc
     rwa [hl] at this
   refine ZK rfl (Za (hix fun b o hc=>⟨1,hc,?_⟩))
   unfold YF ZaH
   refine Zp (rP (Zb b3 rfl) (Zp (rM (Zb E3.cells rfl) (hm3.get 1 ⟨(c.1,c.2.1,c.2.2.1,c.2.2.2.1,c.2.2.2.2.1,c.2.2.2.2.2.1,nl,false,nl,()),?_,Zi (Zl rfl (hQ _ _ ⟨.inr (by decide),rfl⟩ (show (1 - IntKind.wrap .i64 (0+1)).toNat<(1 - (0:Int)).toNat by decide)))⟩))))
   rw [ZeB]
   rfl
  ·subst hi
   rw [hl]
   exact Zl rfl (Za (Za (ZK rfl (hk hh s e03 hl))))
theorem ZmO {E:Eng} {m:Nat} (hO:Zf6 E m) (c:C8):0≤(Zgq ((E.mid c).t.f (clK c.2.1)) c.1).1∧(Zgq ((E.mid c).t.f (clK c.2.1)) c.1).1≤4611686018427387904:=by
  have hz0:∀ n:Node,(∀ i,Rt (n.s i))→0≤(n.sum c.1).1∧(n.sum c.1).1≤4611686018427387904:=fun n hn=>by
    unfold Node.sum
    split
    ·unfold Win.sum
     by_cases h9:loW .sec c.1≤bkt .sec c.1+1
     ·exact (ZfI hn h9).p
     ·unfold Zfb
      rw [show (bkt .sec c.1+1 - loW .sec c.1).toNat=0 from by omega]
      show 0≤(0:Int)∧(0:Int)≤4611686018427387904
      decide
    ·decide
  cases hfm:(E.mid c).t.f (clK c.2.1) with
  | none=>exact ⟨Int.le_refl _,(show (0:Int)≤4611686018427387904 by decide)⟩
  | some nd =>
    refine hz0 nd fun j=>?_
    by_cases h9:E.t.touchE c=0
    ·have e:(E.mid c).t=E.t.makes (Yd c):=by show E.t.touched c=_;unfold Tree.touched;rw [if_pos h9]
     rw [e] at hfm
     rcases ZfW (Yd c) E.t (clK c.2.1) with ⟨_,_,q⟩ | ⟨_,_,q⟩ | ⟨n2,q1,q2⟩
     ·rw [q] at hfm;cases hfm
     ·rw [q] at hfm;cases hfm;exact Rt.zero
     ·rw [q2] at hfm;cases hfm;exact (hO.nodes _ _ q1).rt j
    ·have e:(E.mid c).t=E.t:=by show E.t.touched c=_;unfold Tree.touched;rw [if_neg h9]
     rw [e] at hfm
     exact (hO.nodes _ _ hfm).rt j
theorem ZkO {E:Eng} {m:Nat} {n:Int} {ps:Ps} {c:C8} (hs:sA=c.2.1) (hF:ZoO E c) (hO:Zf6 (E.mid c) m) (hC:ZcZ E n ps) (hl:ps.length≤4000):Zdt (E.mid c) false n c = !decide (c.2.2.2.2.2.1≤n - sm (since c.1) ps):=by
  unfold Zdt
  rw [decide_eq_true hs,Bool.true_and,← hs,ZhP hF hO hC hl]
  rfl
theorem Zqe:Zpg:=by
  intro h K hk
  unfold Y7 ZaS
  refine ZjK fun h1 hf e1=>Za (Zl rfl (Zl rfl (YH fun h2 c2 e2 z2=>?_)))
  have hf2:ZkZ h2 (sz h+4) (sz h):=⟨rfl,Zq hf.cells e2,Zq hf.store e2,hf.tree.ext e2,hf.map.congr (Yf e2 hf.map.lt)⟩
  have o2:Own h2 (sz h1) ⟨some ⟨h1.size,0,none⟩,1,1⟩ 12 (([Y5 false 1]).flatMap Zid):=⟨rfl,Nat.le_refl _,(show 1<9223372036854775808 by decide),.inr ⟨h1.size,_,_,rfl,Nat.le_refl _,c2,rfl,rfl⟩⟩
  refine Zio hf2 (r:=(⟨some ⟨h1.size,0,none⟩,1,1⟩,nl,nl,nl,nl,())) (fs:=[Y5 false 1]) ⟨o2,Own.nil _ _ _,Own.nil _ _ _,Own.nil _ _ _,Own.nil _ _ _⟩ (show 1≤256 by decide) (fun f hf9=>⟨false,1,by simpa using hf9,by decide⟩) fun h3 r sh g hE u3=>Za (YH fun h4 c4 e4 z4=>Zcs c4 fun h5 c5 u5 z5=>?_)
  have E03:Ext h h3:=(e1.trans e2).then u3 fun k hk=>hk.1
  have e35:Ext h3 h5:=e4.then u5 fun k hk=>by subst hk;exact Nat.le_refl _
  have E5:=hE.ext e35
  have ok0:Zf6 ⟨[Y5 false 1],Tree.zero,0,1,0,fun _=>none,0⟩ 0:=⟨(show 0≤512 by decide),Int.le_refl _,Int.le_refl _,(fun k n hn=>by cases hn),(show (0:Int)≤0∧(0:Int)≤((0:Nat):Int) by decide),(show (1:Int)≤1∧(1:Int)≤((0:Nat):Int)+1 by decide)⟩
  have hw0:XN ⟨[Y5 false 1],Tree.zero,0,1,0,fun _=>none,0⟩ c0 []=0:=Zf9 ok0 (by decide) rfl (by decide)
  have hC0:ZcZ ⟨[Y5 false 1],Tree.zero,0,1,0,fun _=>none,0⟩ 1 []:=⟨fun i=>rfl,(fun p hp=>by cases hp),fun t _=>(show (0:Int)≤1 by decide)⟩
  have hz:ZhB c0:=⟨(show sA.size<9223372036854775808 by decide),(show Zsn.size<9223372036854775808 by decide),(show em.size<9223372036854775808 by decide)⟩
  refine rI (Zb c5 rfl) (rS (Zb c5 rfl) (rS (Zb c5 rfl) (rS (Zb c5 rfl) (rB (Zb c5 rfl) (rI (Zb c5 rfl) (rL (s:=nl) (Zb c5 rfl) ?_))))))
  refine Zf5 E5 (th:=false) (n:=1) rfl (by decide) (c:=c0) hz (al:=[]) (Row.nil _ _) (ZmO ok0 c0) fun h6 O6 E6 m6 v6 e6 hent6 hE6 u6 g6=>?_
  have hF0:=Zf2 hw0
  have hEC:=Zex ok0 (by decide) hC0 (Nat.le_refl _) hent6
  have hOK:=Zie ok0 (by decide) hent6
  obtain ⟨hO,hkk⟩:=ZhU ok0 hF0
  have hbl0:=ZkO (c:=c0) rfl hF0 hO hC0 (by decide)
  cases hent6 with
  | bad q=>exact absurd hw0 q
  | block q qb=>rw [hbl0] at qb;exact absurd qb (by decide)
  | pass mm q qb =>
  rcases hEC with ⟨h9,_⟩ | ⟨_,_,hla,hcase⟩
  ·exact absurd rfl h9
  rcases hcase with ⟨_,_,hC1⟩ | ⟨h9,_⟩
  case inr=>exact absurd h9 (by decide)
  rw [if_pos (show sA=c0.2.1 from rfl)] at hC1
  obtain ⟨na,nb,nd⟩:=ZgQ hF0 hO hF0.fl hkk true fun n=>n.passed c0.1 c0.2.2.2.2.2.1
  have hex:∀ k∈Yd c0,∃ n,((⟨[Y5 false 1],Tree.zero,0,1,0,fun _=>none,0⟩:Eng).pass c0 mm).t.f k=some n:=fun k hk9=>by
    obtain ⟨n,hn⟩:=hkk k hk9
    have:=(nd k).1 hk9
    rw [hn] at this
    exact ⟨_,this⟩
  have hr1:((⟨[Y5 false 1],Tree.zero,0,1,0,fun _=>none,0⟩:Eng).pass c0 mm).t.room (Yd c0):=by unfold Tree.room;rw [Zhg hex];exact hOK.keys
  have hw1:=Zf9 hOK (by decide) hla hr1
  have hF1:=Zf2 hw1
  obtain ⟨hO1,_⟩:=ZhU hOK hF1
  have hbl1:=ZkO (c:=c0) rfl hF1 hO1 hC1 (by decide)
  have w5:sz h+4<sz h3:=ZI hE.cells
  have nown:∀ j,sz h3≤j→¬ ZhM (sz h+4) (sz h+3) (fun j=>j=sz h+1∨j=sz h+2) j:=fun j hj h9=>by unfold ZhM at h9;omega
  have c6:obj h6 (sz h3)=_:=(u6.old (sz h3) (ZI c5) (nown _ (Nat.le_refl _))).trans c5
  have w56:sz h5≤sz h6:=u6.size
  have w35:sz h3<sz h5:=ZI c5
  refine YH fun h7 c7 e7 z7=>Za (Zcs c7 fun h8 c8 u8 z8=>Za ?_)
  have e68:Ext h6 h8:=e7.then u8 fun k hk=>by subst hk;exact Nat.le_refl _
  have d8:=Zq c6 e68
  refine rI (Zb d8 rfl) (rS (Zb d8 rfl) (rS (Zb d8 rfl) (rS (Zb d8 rfl) (rB (Zb d8 rfl) (rI (Zb d8 rfl) (rL (s:=nl) (Zb d8 rfl) ?_))))))
  refine Zf5 (hE6.ext e68) (th:=false) (n:=1) rfl (by decide) (c:=c0) hz (al:=[]) (Row.nil _ _) (ZmO hOK c0) fun h9 O9 E9 m9 v9 e9 hent9 hE9 u9 g9=>?_
  have own6:∀ j,ZhM (sz h+4) (sz h+3) O6 j→sz h≤j∧j≠sz h6:=fun j hj=>by
    rcases hj with hj | hj | hj
    ·omega
    ·omega
    ·have hlt:=hE6.hO j hj
     rcases g6.1 j hj with q9 | q9
     ·omega
     ·have:sz h5≤j:=q9.1
      have:sz h≤sz h5:=by omega
      omega
  have b9:obj h9 (sz h6)=_:=(u9.old (sz h6) (ZI c8) (fun h99=>(own6 _ h99).2 rfl)).trans c8
  have E09:Ext h h9:=(((E03.trans e35).then u6 fun k hk=>by unfold ZhM at hk;show sz h≤k;omega).trans e68).then u9 fun k hk=>(own6 k hk).1
  cases hent9 with
  | bad q=>exact absurd hw1 q
  | pass _ q qb=>rw [hbl1] at qb;exact absurd qb (by decide)
  | block q qb =>
  refine YH fun h10 c10 e10 z10=>Za (Zcs c10 fun h11 c11 u11 z11=>Za ?_)
  have e911:Ext h9 h11:=e10.then u11 fun k hk=>by subst hk;exact Nat.le_refl _
  have b11:=Zq b9 e911
  refine ZK rfl (ZK rfl (rI (Zb b11 rfl) (ZK rfl (ZK rfl (ZK rfl (rI (Zb c11 rfl) (ZK rfl (ZK rfl ?_))))))))
  refine Zm1 (c:=c0) (hE9.ext e911) rfl fun h12 s e12 hs=>Zi ?_
  rw [hs]
  exact hk h12 ((E09.trans e911).trans e12)
end Go.Proofs.YthbfgkphlmlihaaGreat
namespace Go.Proofs.YthbfgkphlmlihaaGreat
open Go Go.Fw Go.ChangeShapes Go.WideShapes
theorem ZkL:∀ l:List ByteArray,l.flatMap (fun s=>[Value.string s])=l.map .string
  | []=>rfl
  | x::l=>by rw [List.flatMap_cons,ZkL l];rfl
theorem Zwv {n:Int} (h:(Lit.int .u8 n).wf=true):0≤n∧n<256:=by
  simp only [Lit.wf,Bool.and_eq_true,decide_eq_true_eq] at h
  have h1:IntKind.u8.min=0:=by decide
  have h2:IntKind.u8.max=255:=by decide
  omega
section
variable {H:Type} {enc:TypeId × Value→H} {P:Program} {w:World} {base:Nat} {spare:Nat→Bool} {held:Bool}
theorem Zqw {q:IntKind} {t:TypeId} {fuel:Nat} {n:Int} {x:DataW H × List MemPlace} (ht:P.underlying t=some (.int q)) (h:DataW.trod enc P w base spare held fuel t [.int q n]=some x):(Lit.int q n).wf=true:=by
  obtain ⟨m,hm,_,hw⟩:=DataW.trod_int ht h
  simp at hm
  subst hm
  exact hw
theorem ZoA {fs:Array Field} {l:List (TypeId × Nat)} (hf:fs.toList.map (fun f=>(f.type,f.offset))=l) {i:Nat} {p:TypeId × Nat} (hp:l[i]?=some p):∃ f,fs[i]?=some f∧f.type=p.1∧f.offset=p.2:=by
  subst hf
  rw [List.getElem?_map,Option.map_eq_some_iff] at hp
  obtain ⟨f,h1,rfl⟩:=hp
  exact ⟨f,by simpa using h1,rfl,rfl⟩
theorem Zhe {α:Type} [Inhabited α] {g:α→List Value} {n:Nat} (hg:∀ a,(g a).length=n) (hn:0<n) {Pa:α→Prop} {u t:TypeId} {fuel:Nat} {a:Option Addr} {len cap:Nat} {x:DataW H × List MemPlace} (hu:P.underlying u=some (.slice t)) (hc:P.cellsOf t=n)
    (elem:∀ {fuel:Nat} {cs:List Value} {x:DataW H × List MemPlace},DataW.trod enc P w base spare held fuel t cs=some x→∃ a:α,cs=g a∧Pa a)
    (h:DataW.trod enc P w base spare held fuel u [.slice a len cap]=some x):∃ l:List α,Row w.heap ⟨a,len,cap⟩ n (l.flatMap g)∧∀ a,a∈l→Pa a:=by
  rcases Deep.open_slice hu h with ⟨hcs,rfl⟩ | ⟨a',len',cap',m,n',D,Pl,hcs,_,hl,hm,hmm,rfl,hx⟩
  ·simp at hcs
   obtain ⟨rfl,rfl,rfl⟩:=hcs
   exact ⟨[],Row.nil _ n,by simp⟩
  ·simp at hcs
   obtain ⟨rfl,rfl,rfl⟩:=hcs
   have hlen:len≤m:=by rw [hmm];split<;>omega
   have hbig:cap<9223372036854775808:=Zfn hm
   have each:∀ i,i<len→∃ a:α,w.cells? base (a'.add (i*n)) n=some (g a)∧Pa a:=by
     intro i hi
     obtain ⟨cs',h1,h2⟩:=hx i (by omega)
     rw [hc] at h1
     obtain ⟨r,rfl,hp⟩:=elem h2
     exact ⟨r,h1,hp⟩
   obtain ⟨f,hf⟩:=Deep.choose_lt each
   have cell:∀ i,i<len→∀ k,k<n→w.cell? ((a'.add (i*n)).add k)=(g (f i))[k]?:=fun i hi k hk=>(World.cells?_some (hf i hi).1).2.2 k hk
   refine ⟨(List.range len).map f,⟨by rw [YI hg];simp,hl,hbig,?_⟩,fun a ha=>?_⟩
   ·rcases Nat.eq_zero_or_pos len with h0 | h0
    ·exact .inl h0
    ·right
     have hsp:a'=⟨a'.block,a'.off,none⟩:=by
       have h0:=cell 0 (by omega) 0 hn
       have e0:(a'.add (0*n)).add 0=a':=by rw [Nat.zero_mul];rfl
       rw [e0,List.getElem?_eq_getElem (by rw [hg];exact hn)] at h0
       exact ZmS h0
     refine ⟨a'.block,a'.off,by rw [← hsp],Znr fun k v hv=>?_⟩
     have hk:k<len*n:=by
       have:=Znq hv
       rw [YI hg] at this
       simpa using this
     have hdm:=Nat.div_add_mod k n
     have hi:k / n<len:=(Nat.div_lt_iff_lt_mul hn).2 hk
     have hj:k % n<n:=Nat.mod_lt _ hn
     have e1:=ZiN hg ((List.range len).map f) (k / n) (k % n) (f (k / n)) (by rw [List.getElem?_map,List.getElem?_range hi];rfl) hj
     have ek:k / n*n+k % n=k:=by rw [Nat.mul_comm];exact hdm
     rw [ek,hv] at e1
     have:=cell (k / n) hi (k % n) hj
     rw [hsp,ZkV,ZkV,ZiT,← e1] at this
     rw [← ek,← Nat.add_assoc]
     exact this
   ·obtain ⟨i,hi,rfl⟩:=List.mem_map.1 ha
    exact (hf i (by simpa using hi)).2
theorem ZoK {t:TypeId} {fs:Array Field} {cs:List Value} {fuel:Nat} {x:DataW H × List MemPlace} (ht:P.underlying t=some (.struct fs)) (hc:P.cellsOf t=7) {ti ts tb tl:TypeId} (hti:P.underlying ti=some (.int .i64)) (hts:P.underlying ts=some .string) (htb:P.underlying tb=some .bool) (htl:P.underlying tl=some (.slice ts))
    (ci:P.cellsOf ti=1) (csz:P.cellsOf ts=1) (cb:P.cellsOf tb=1) (cl:P.cellsOf tl=1) (hf:fs.toList.map (fun f=>(f.type,f.offset))=[(ti,0),(ts,1),(ts,2),(ts,3),(tb,4),(ti,5),(tl,6)])
    (h:DataW.trod enc P w base spare held fuel t cs=some x):∃ c:C8,cs=c8L c∧ZfA w.heap c:=by
  obtain ⟨xs,n,rfl,rfl,hl,hlen,hall⟩:=DataW.trod_struct ht h
  rw [hc] at hl
  have hfl:fs.size=7:=by
    have:=congrArg List.length hf
    simpa using this
  match cs,hl with
  | [c0,c1,c2,c3,c4,c5,c6],_ =>
    have fld:∀ {i:Nat} {p:TypeId × Nat} (hi:i<xs.length),([(ti,0),(ts,1),(ts,2),(ts,3),(tb,4),(ti,5),(tl,6)]:List (TypeId × Nat))[i]?=some p→DataW.trod enc P w base spare held n p.1 (([c0,c1,c2,c3,c4,c5,c6].drop p.2).take (P.cellsOf p.1))=some xs[i]:=fun {i p} hi hp=>by
      obtain ⟨f,g1,g2,g3⟩:=ZoA hf hp
      have:=hall i f g1
      rw [g2,g3,List.getElem?_eq_getElem hi] at this
      exact this
    have f0:=fld (i:=0) (by omega) rfl
    have f1:=fld (i:=1) (by omega) rfl
    have f2:=fld (i:=2) (by omega) rfl
    have f3:=fld (i:=3) (by omega) rfl
    have f4:=fld (i:=4) (by omega) rfl
    have f5:=fld (i:=5) (by omega) rfl
    have f6:=fld (i:=6) (by omega) rfl
    dsimp only at f0 f1 f2 f3 f4 f5 f6
    rw [ci] at f0 f5
    rw [csz] at f1 f2 f3
    rw [cb] at f4
    rw [cl] at f6
    obtain ⟨m0,h0,_⟩:=DataW.trod_int hti f0
    obtain ⟨s1,h1,_,z1⟩:=DataW.trod_string hts f1
    obtain ⟨s2,h2,_,z2⟩:=DataW.trod_string hts f2
    obtain ⟨s3,h3,_,z3⟩:=DataW.trod_string hts f3
    obtain ⟨b4,h4,_⟩:=DataW.trod_bool htb f4
    obtain ⟨m5,h5,_⟩:=DataW.trod_int hti f5
    simp at h0 h1 h2 h3 h4 h5
    subst h0 h1 h2 h3 h4 h5
    have h6:∃ (a:Option Addr) (len cap:Nat),c6 = .slice a len cap:=by
      rcases Deep.open_slice htl f6 with ⟨hcs,_⟩ | ⟨a',len',cap',m,n',D,Pl,hcs,_⟩
      ·simp at hcs;exact ⟨_,_,_,hcs⟩
      ·simp at hcs;exact ⟨_,_,_,hcs⟩
    obtain ⟨a,len,cap,rfl⟩:=h6
    obtain ⟨al,hal,_⟩:=Zhe (α:=ByteArray) (g:=fun s=>[.string s]) (n:=1) (Pa:=fun _=>True) (fun _=>rfl) (by decide) htl csz (fun {fuel cs x} h=>by
      obtain ⟨s,hs,_⟩:=DataW.trod_string hts h
      exact ⟨s,hs,trivial⟩) f6
    refine ⟨(m0,s1,s2,s3,b4,m5,⟨a,len,cap⟩,()),rfl,⟨Zfn z1,Zfn z2,Zfn z3⟩,al,?_⟩
    rw [← ZkL al]
    exact hal
theorem ZnG {u t:TypeId} {fs:Array Field} {fuel:Nat} {a:Option Addr} {len cap:Nat} {x:DataW H × List MemPlace} (hu:P.underlying u=some (.slice t)) (ht:P.underlying t=some (.struct fs)) (hc:P.cellsOf t=7) {ti ts tb tl:TypeId} (hti:P.underlying ti=some (.int .i64)) (hts:P.underlying ts=some .string) (htb:P.underlying tb=some .bool) (htl:P.underlying tl=some (.slice ts))
    (ci:P.cellsOf ti=1) (csz:P.cellsOf ts=1) (cb:P.cellsOf tb=1) (cl:P.cellsOf tl=1) (hf:fs.toList.map (fun f=>(f.type,f.offset))=[(ti,0),(ts,1),(ts,2),(ts,3),(tb,4),(ti,5),(tl,6)])
    (h:DataW.trod enc P w base spare held fuel u [.slice a len cap]=some x):∃ l:List C8,Row w.heap ⟨a,len,cap⟩ 7 (l.flatMap c8L)∧∀ c∈l,ZfA w.heap c :=
  haveI:Inhabited C8:=⟨c0⟩
  Zhe (Pa:=ZfA w.heap) Zey (by decide) hu hc (ZoK ht hc hti hts htb htl ci csz cb cl hf) h
end
theorem ZhA {h:Zc} {count:Int} {l:Sl} {cs:List C8} {K:Bool→Zc→Prop} (hcount:0≤count∧count<256) (hl:Row h l 7 (cs.flatMap c8L)∧∀ c∈cs,ZfA h c) (hk:∀ h',Ext h h'→K true h'):YS count l K h :=
  Zog (by omega) hl.1 hl.2 Zqe hk
end Go.Proofs.YthbfgkphlmlihaaGreat
