/- The live part of the laws of the slots: an engine, one flow, two entries, what is open. -/
import Derived.ChangeArms
import Derived.Test.YthbfgkphlmlihaaGreatPa12
set_option linter.unusedVariables false
set_option linter.unusedSimpArgs false
namespace Go.Proofs.YthbfgkphlmlihaaGreat
open Go Go.Fw
open Nat renaming reduceAdd→Nqa,reduceLT→Nqb,reduceLeDiff→Nqc,reduceEqDiff→Nqd,reduceMul→Nqe
abbrev ZqS:ByteArray:=ByteArray.mk #[109,97,105,110]
def c0:C8:=(0,sA,ZqS,em,false,1,nl,())
theorem Zhe {E:Eng} {m:Nat} (h:Zht E m) (hm:m<4096) (hla:E.la=0) (hr:E.t.room (Z1 c0)):Yq E c0 []=0:=by
  have hk:Zen c0=0:=by decide
  have hfl:=h.fl
  unfold Yq
  rw [if_neg (fun h9=>h9 hk),if_neg (fun h9=>h9 (show 0≤(0:Int)∧(0:Int)≤1152921504606846976 by decide)),if_neg (fun h9=>h9 (show 1≤(1:Int)∧(1:Int)≤1099511627776 by decide)),if_neg (by decide),if_neg (by decide),if_neg (show ¬ c0.1<E.la by rw [hla];decide),if_neg (by omega)]
  unfold Tree.touchE
  rw [if_neg (fun h9=>h9 hk),if_neg (fun h9=>h9 hr)]
theorem Zth {h:Zd} {mb n:Nat} {v:Value} (hm:Zet h mb (upd (fun _=>none) 1 (some v)) n):Zm4 h mb [1]:=by
  obtain ⟨es,c,hb,hs,hn,he⟩:=hm
  refine ⟨es,c,hb,hs,?_,by simp,fun x hx=>by simp at hx;omega⟩
  have hd:=((MapKept.stamped_iff es c).1 hs).2.2
  have hall:∀ e∈es.toList,e.key=iv 1:=fun e hm=>by
    obtain ⟨k,hk,hv⟩:=he.to_ e hm
    unfold upd at hv
    split at hv
    ·rename_i hk1;rw [hk,hk1]
    ·cases hv
  obtain ⟨e,hm,_⟩:=he.of 1 v (Zez _ _ _)
  cases hl:es.toList with
  | nil=>rw [hl] at hm;cases hm
  | cons x l =>
    rw [hl] at hall hd
    cases l with
    | nil=>simp [hall x (List.mem_cons_self ..)]
    | cons y l =>
      have h1:=List.pairwise_cons.1 hd
      exact absurd ((hall x (List.mem_cons_self ..)).trans (hall y (by simp)).symm) (h1.1 y (List.mem_cons_self ..))
theorem ZpB {h:Zd} {eb st tb fm:Nat} {r:R5} {sh:Sl} {g:Int} {O:Nat→Prop} {E:Eng} (hE:Ze1 h eb st tb fm r sh g O E) {c:C8} (hf:E.f=upd (fun _=>none) 1 (some (Zhk c))) {K:Sl→Zd→Prop} (hk:∀ h' s,Ext h h'→s.len=1→K s h'):XU (some ⟨eb,0,none⟩) K h:=by
  unfold XU ZbR
  refine Yg fun h1 c1 e1 z1=>rP (Zb c1 rfl) (Zi rfl (rP (Zb c1 rfl) (Zj (rM (Zb (hE.ext e1).cells rfl) ?_))))
  unfold Z0
  refine Yg fun h2 c2 e2 z2=>?_
  have E2:=(hE.ext e1).ext e2
  have hm2:Zet h2 fm (upd (fun _=>none) 1 (some (Zhk c))) E.n:=by have:=E2.map;rwa [hf] at this
  refine ⟨_,fm,[1],rfl,by rw [YA];exact Zb c2 rfl,Zth hm2,by decide,fun s h3 o3 e3=>?_⟩
  have hl:s.len=1:=by have:=o3.len;simp at this;omega
  have E3:=E2.ext e3
  have hm3:Zet h3 fm (upd (fun _=>none) 1 (some (Zhk c))) E.n:=by have:=E3.map;rwa [hf] at this
  have e03:=(e1.trans e2).trans e3
  have b3:=Zl (Zl c1 e2) e3
  unfold ZX Yk ZZ Yn
  refine Za (YX (fun p hh=>(p.1=0∨p.1=1)∧hh=h3) (fun p _=>(1 - p.1).toNat) ⟨.inl rfl,rfl⟩ ?_)
  rintro ⟨i,u⟩ hh ⟨hi,hh9⟩ Q hQ
  subst hh9
  dsimp only at hi ⊢
  rcases hi with hi | hi
  ·subst hi
   rw [hl]
   have hix:∀ {K:Nat→Nat→Prop},(∀ b o,Zd.cell hh b o=some (iv 1)→K b o)→Xy s.ptr 1 0 1 K:=fun {K} hk=>by
     have:=o3.row.idx (i:=0) (n:=0) (v:=iv 1) rfl rfl (K:=K) fun b o _ hc=>hk b (o+0) hc
     rwa [hl] at this
   refine Zt rfl (Za (hix fun b o hc=>⟨1,hc,?_⟩))
   unfold Y6 Zbt
   refine Zj (rP (Zb b3 rfl) (Zj (rM (Zb E3.cells rfl) (hm3.get 1 ⟨(c.1,c.2.1,c.2.2.1,c.2.2.2.1,c.2.2.2.2.1,c.2.2.2.2.2.1,nl,false,nl,()),?_,Zc (Zi rfl (hQ _ _ ⟨.inr (by decide),rfl⟩ (show (1 - IntKind.wrap .i64 (0+1)).toNat<(1 - (0:Int)).toNat by decide)))⟩))))
   rw [Zez]
   rfl
  ·subst hi
   rw [hl]
   exact Zi rfl (Za (Za (Zt rfl (hk hh s e03 hl))))
theorem Zpl {E:Eng} {m:Nat} (hO:Zht E m) (c:C8):0≤(Zh4 ((E.mid c).t.f (clK c.2.1)) c.1).1∧(Zh4 ((E.mid c).t.f (clK c.2.1)) c.1).1≤4611686018427387904:=by
  have hz0:∀ n:Node,(∀ i,Rt (n.s i))→0≤(n.sum c.1).1∧(n.sum c.1).1≤4611686018427387904:=fun n hn=>by
    unfold Node.sum
    split
    ·unfold Win.sum
     by_cases h9:loW .sec c.1≤bkt .sec c.1+1
     ·exact (Zi6 hn h9).p
     ·unfold ZgK
      rw [show (bkt .sec c.1+1 - loW .sec c.1).toNat=0 from by omega]
      show 0≤(0:Int)∧(0:Int)≤4611686018427387904
      decide
    ·decide
  cases hfm:(E.mid c).t.f (clK c.2.1) with
  | none=>exact ⟨Int.le_refl _,(show (0:Int)≤4611686018427387904 by decide)⟩
  | some nd =>
    refine hz0 nd fun j=>?_
    by_cases h9:E.t.touchE c=0
    ·have e:(E.mid c).t=E.t.makes (Z1 c):=by show E.t.touched c=_;unfold Tree.touched;rw [if_pos h9]
     rw [e] at hfm
     rcases Zie (Z1 c) E.t (clK c.2.1) with ⟨_,_,q⟩ | ⟨_,_,q⟩ | ⟨n2,q1,q2⟩
     ·rw [q] at hfm;cases hfm
     ·rw [q] at hfm;cases hfm;exact Rt.zero
     ·rw [q2] at hfm;cases hfm;exact (hO.nodes _ _ q1).rt j
    ·have e:(E.mid c).t=E.t:=by show E.t.touched c=_;unfold Tree.touched;rw [if_neg h9]
     rw [e] at hfm
     exact (hO.nodes _ _ hfm).rt j
theorem ZmW {E:Eng} {m:Nat} {n:Int} {ps:Ps} {c:C8} (hs:sA=c.2.1) (hF:Zrp E c) (hO:Zht (E.mid c) m) (hC:ZeU E n ps) (hl:ps.length≤4000):Zer (E.mid c) false n c = !decide (c.2.2.2.2.2.1≤n - sm (since c.1) ps):=by
  unfold Zer
  rw [decide_eq_true hs,Bool.true_and,← hs,Zjj hF hO hC hl]
  rfl
theorem Zkr:ZvW:=by
  intro h K hk
  unfold XK ZbE
  refine ZlI fun h1 hf e1=>Za (Zi rfl (Zi rfl (Yg fun h2 c2 e2 z2=>?_)))
  have hf2:ZlH h2 (sz h+4) (sz h):=⟨rfl,Zl hf.cells e2,Zl hf.store e2,hf.tree.ext e2,hf.map.congr (Z6 e2 hf.map.lt)⟩
  have o2:Own h2 (sz h1) ⟨some ⟨h1.size,0,none⟩,1,1⟩ 12 (([Zal false 1]).flatMap Zky):=⟨rfl,Nat.le_refl _,(show 1<9223372036854775808 by decide),.inr ⟨h1.size,_,_,rfl,Nat.le_refl _,c2,rfl,rfl⟩⟩
  refine ZnX hf2 (r:=(⟨some ⟨h1.size,0,none⟩,1,1⟩,nl,nl,nl,nl,())) (fs:=[Zal false 1]) ⟨o2,Own.nil _ _ _,Own.nil _ _ _,Own.nil _ _ _,Own.nil _ _ _⟩ (show 1≤256 by decide) (fun f hf9=>⟨false,1,by simpa using hf9,by decide⟩) fun h3 r sh g hE u3=>Za (Yg fun h4 c4 e4 z4=>ZaE c4 fun h5 c5 u5 z5=>?_)
  have E03:Ext h h3:=(e1.trans e2).then u3 fun k hk=>hk.1
  have e35:Ext h3 h5:=e4.then u5 fun k hk=>by subst hk;exact Nat.le_refl _
  have E5:=hE.ext e35
  have ok0:Zht ⟨[Zal false 1],Tree.zero,0,1,0,fun _=>none,0⟩ 0:=⟨(show 0≤512 by decide),Int.le_refl _,Int.le_refl _,(fun k n hn=>by cases hn),(show (0:Int)≤0∧(0:Int)≤((0:Nat):Int) by decide),(show (1:Int)≤1∧(1:Int)≤((0:Nat):Int)+1 by decide)⟩
  have hw0:Yq ⟨[Zal false 1],Tree.zero,0,1,0,fun _=>none,0⟩ c0 []=0:=Zhe ok0 (by decide) rfl (by decide)
  have hC0:ZeU ⟨[Zal false 1],Tree.zero,0,1,0,fun _=>none,0⟩ 1 []:=⟨fun i=>rfl,(fun p hp=>by cases hp),fun t _=>(show (0:Int)≤1 by decide)⟩
  have hz:ZfM c0:=⟨(show sA.size<9223372036854775808 by decide),(show ZqS.size<9223372036854775808 by decide),(show em.size<9223372036854775808 by decide)⟩
  refine rI (Zb c5 rfl) (rS (Zb c5 rfl) (rS (Zb c5 rfl) (rS (Zb c5 rfl) (rB (Zb c5 rfl) (rI (Zb c5 rfl) (rL (s:=nl) (Zb c5 rfl) ?_))))))
  refine ZjZ E5 (th:=false) (n:=1) rfl (by decide) (c:=c0) hz (al:=[]) (Row.nil _ _) (Zpl ok0 c0) fun h6 O6 E6 m6 v6 e6 hent6 hE6 u6 g6=>?_
  have hF0:=ZeN hw0
  have hEC:=Ziu ok0 (by decide) hC0 (Nat.le_refl _) hent6
  have hOK:=ZnG ok0 (by decide) hent6
  obtain ⟨hO,hkk⟩:=Zjo ok0 hF0
  have hbl0:=ZmW (c:=c0) rfl hF0 hO hC0 (by decide)
  cases hent6 with
  | bad q=>exact absurd hw0 q
  | block q qb=>rw [hbl0] at qb;exact absurd qb (by decide)
  | pass mm q qb =>
  rcases hEC with ⟨h9,_⟩ | ⟨_,_,hla,hcase⟩
  ·exact absurd rfl h9
  rcases hcase with ⟨_,_,hC1⟩ | ⟨h9,_⟩
  case inr=>exact absurd h9 (by decide)
  rw [if_pos (show sA=c0.2.1 from rfl)] at hC1
  obtain ⟨na,nb,nd⟩:=Zh5 hF0 hO hF0.fl hkk true fun n=>n.passed c0.1 c0.2.2.2.2.2.1
  have hex:∀ k∈Z1 c0,∃ n,((⟨[Zal false 1],Tree.zero,0,1,0,fun _=>none,0⟩:Eng).pass c0 mm).t.f k=some n:=fun k hk9=>by
    obtain ⟨n,hn⟩:=hkk k hk9
    have:=(nd k).1 hk9
    rw [hn] at this
    exact ⟨_,this⟩
  have hr1:((⟨[Zal false 1],Tree.zero,0,1,0,fun _=>none,0⟩:Eng).pass c0 mm).t.room (Z1 c0):=by unfold Tree.room;rw [ZiD hex];exact hOK.keys
  have hw1:=Zhe hOK (by decide) hla hr1
  have hF1:=ZeN hw1
  obtain ⟨hO1,_⟩:=Zjo hOK hF1
  have hbl1:=ZmW (c:=c0) rfl hF1 hO1 hC1 (by decide)
  have w5:sz h+4<sz h3:=Zr hE.cells
  have nown:∀ j,sz h3≤j→¬ ZlZ (sz h+4) (sz h+3) (fun j=>j=sz h+1∨j=sz h+2) j:=fun j hj h9=>by unfold ZlZ at h9;omega
  have c6:obj h6 (sz h3)=_:=(u6.old (sz h3) (Zr c5) (nown _ (Nat.le_refl _))).trans c5
  have w56:sz h5≤sz h6:=u6.size
  have w35:sz h3<sz h5:=Zr c5
  refine Yg fun h7 c7 e7 z7=>Za (ZaE c7 fun h8 c8 u8 z8=>Za ?_)
  have e68:Ext h6 h8:=e7.then u8 fun k hk=>by subst hk;exact Nat.le_refl _
  have d8:=Zl c6 e68
  refine rI (Zb d8 rfl) (rS (Zb d8 rfl) (rS (Zb d8 rfl) (rS (Zb d8 rfl) (rB (Zb d8 rfl) (rI (Zb d8 rfl) (rL (s:=nl) (Zb d8 rfl) ?_))))))
  refine ZjZ (hE6.ext e68) (th:=false) (n:=1) rfl (by decide) (c:=c0) hz (al:=[]) (Row.nil _ _) (Zpl hOK c0) fun h9 O9 E9 m9 v9 e9 hent9 hE9 u9 g9=>?_
  have own6:∀ j,ZlZ (sz h+4) (sz h+3) O6 j→sz h≤j∧j≠sz h6:=fun j hj=>by
    rcases hj with hj | hj | hj
    ·omega
    ·omega
    ·have hlt:=hE6.hO j hj
     rcases g6.1 j hj with q9 | q9
     ·omega
     ·have:sz h5≤j:=q9.1
      have:sz h≤sz h5:=by omega
      omega
  have b9:obj h9 (sz h6)=_:=(u9.old (sz h6) (Zr c8) (fun h99=>(own6 _ h99).2 rfl)).trans c8
  have E09:Ext h h9:=(((E03.trans e35).then u6 fun k hk=>by unfold ZlZ at hk;show sz h≤k;omega).trans e68).then u9 fun k hk=>(own6 k hk).1
  cases hent9 with
  | bad q=>exact absurd hw1 q
  | pass _ q qb=>rw [hbl1] at qb;exact absurd qb (by decide)
  | block q qb =>
  refine Yg fun h10 c10 e10 z10=>Za (ZaE c10 fun h11 c11 u11 z11=>Za ?_)
  have e911:Ext h9 h11:=e10.then u11 fun k hk=>by subst hk;exact Nat.le_refl _
  have b11:=Zl b9 e911
  refine Zt rfl (Zt rfl (rI (Zb b11 rfl) (Zt rfl (Zt rfl (Zt rfl (rI (Zb c11 rfl) (Zt rfl (Zt rfl ?_))))))))
  refine ZpB (c:=c0) (hE9.ext e911) rfl fun h12 s e12 hs=>Zc ?_
  rw [hs]
  exact hk h12 ((E09.trans e911).trans e12)
end Go.Proofs.YthbfgkphlmlihaaGreat
namespace Go.Proofs.YthbfgkphlmlihaaGreat
open Go Go.Fw Go.ChangeShapes Go.WideShapes
theorem ZmR:∀ l:List ByteArray,l.flatMap (fun s=>[Value.string s])=l.map .string
  | []=>rfl
  | x::l=>by rw [List.flatMap_cons,ZmR l];rfl
section
variable {H:Type} {enc:TypeId × Value→H} {P:Program} {w:World} {base:Nat} {spare:Nat→Bool} {held:Bool}
theorem Zrc {fs:Array Field} {l:List (TypeId × Nat)} (hf:fs.toList.map (fun f=>(f.type,f.offset))=l) {i:Nat} {p:TypeId × Nat} (hp:l[i]?=some p):∃ f,fs[i]?=some f∧f.type=p.1∧f.offset=p.2:=by
  subst hf
  rw [List.getElem?_map,Option.map_eq_some_iff] at hp
  obtain ⟨f,h1,rfl⟩:=hp
  exact ⟨f,by simpa using h1,rfl,rfl⟩
theorem ZiB {α:Type} [Inhabited α] {g:α→List Value} {n:Nat} (hg:∀ a,(g a).length=n) (hn:0<n) {Pa:α→Prop} {u t:TypeId} {fuel:Nat} {a:Option Addr} {len cap:Nat} {x:DataW H × List MemPlace} (hu:P.underlying u=some (.slice t)) (hc:P.cellsOf t=n)
    (elem:∀ {fuel:Nat} {cs:List Value} {x:DataW H × List MemPlace},DataW.trod enc P w base spare held fuel t cs=some x→∃ a:α,cs=g a∧Pa a)
    (h:DataW.trod enc P w base spare held fuel u [.slice a len cap]=some x):∃ l:List α,Row w.heap ⟨a,len,cap⟩ n (l.flatMap g)∧∀ a,a∈l→Pa a:=by
  rcases Deep.open_slice hu h with ⟨hcs,rfl⟩ | ⟨a',len',cap',m,n',D,Pl,hcs,_,hl,hm,hmm,rfl,hx⟩
  ·simp at hcs
   obtain ⟨rfl,rfl,rfl⟩:=hcs
   exact ⟨[],Row.nil _ n,by simp⟩
  ·simp at hcs
   obtain ⟨rfl,rfl,rfl⟩:=hcs
   have hlen:len≤m:=by rw [hmm];split<;>omega
   have hbig:cap<9223372036854775808:=Zgq hm
   have each:∀ i,i<len→∃ a:α,w.cells? base (a'.add (i*n)) n=some (g a)∧Pa a:=by
     intro i hi
     obtain ⟨cs',h1,h2⟩:=hx i (by omega)
     rw [hc] at h1
     obtain ⟨r,rfl,hp⟩:=elem h2
     exact ⟨r,h1,hp⟩
   obtain ⟨f,hf⟩:=Deep.choose_lt each
   have cell:∀ i,i<len→∀ k,k<n→w.cell? ((a'.add (i*n)).add k)=(g (f i))[k]?:=fun i hi k hk=>(World.cells?_some (hf i hi).1).2.2 k hk
   refine ⟨(List.range len).map f,⟨by rw [YZ hg];simp,hl,hbig,?_⟩,fun a ha=>?_⟩
   ·rcases Nat.eq_zero_or_pos len with h0 | h0
    ·exact .inl h0
    ·right
     have hsp:a'=⟨a'.block,a'.off,none⟩:=by
       have h0:=cell 0 (by omega) 0 hn
       have e0:(a'.add (0*n)).add 0=a':=by rw [Nat.zero_mul];rfl
       rw [e0,List.getElem?_eq_getElem (by rw [hg];exact hn)] at h0
       exact Zpp h0
     refine ⟨a'.block,a'.off,by rw [← hsp],Zp6 fun k v hv=>?_⟩
     have hk:k<len*n:=by
       have:=Zp3 hv
       rw [YZ hg] at this
       simpa using this
     have hdm:=Nat.div_add_mod k n
     have hi:k / n<len:=(Nat.div_lt_iff_lt_mul hn).2 hk
     have hj:k % n<n:=Nat.mod_lt _ hn
     have e1:=Zkv hg ((List.range len).map f) (k / n) (k % n) (f (k / n)) (by rw [List.getElem?_map,List.getElem?_range hi];rfl) hj
     have ek:k / n*n+k % n=k:=by rw [Nat.mul_comm];exact hdm
     rw [ek,hv] at e1
     have:=cell (k / n) hi (k % n) hj
     rw [hsp,Zm2,Zm2,ZkD,← e1] at this
     rw [← ek,← Nat.add_assoc]
     exact this
   ·obtain ⟨i,hi,rfl⟩:=List.mem_map.1 ha
    exact (hf i (by simpa using hi)).2
theorem Zrl {t:TypeId} {fs:Array Field} {cs:List Value} {fuel:Nat} {x:DataW H × List MemPlace} (ht:P.underlying t=some (.struct fs)) (hc:P.cellsOf t=7) {ti ts tb tl:TypeId} (hti:P.underlying ti=some (.int .i64)) (hts:P.underlying ts=some .string) (htb:P.underlying tb=some .bool) (htl:P.underlying tl=some (.slice ts))
    (ci:P.cellsOf ti=1) (csz:P.cellsOf ts=1) (cb:P.cellsOf tb=1) (cl:P.cellsOf tl=1) (hf:fs.toList.map (fun f=>(f.type,f.offset))=[(ti,0),(ts,1),(ts,2),(ts,3),(tb,4),(ti,5),(tl,6)])
    (h:DataW.trod enc P w base spare held fuel t cs=some x):∃ c:C8,cs=c8L c∧ZgC w.heap c:=by
  obtain ⟨xs,n,rfl,rfl,hl,hlen,hall⟩:=DataW.trod_struct ht h
  rw [hc] at hl
  have hfl:fs.size=7:=by
    have:=congrArg List.length hf
    simpa using this
  match cs,hl with
  | [c0,c1,c2,c3,c4,c5,c6],_ =>
    have fld:∀ {i:Nat} {p:TypeId × Nat} (hi:i<xs.length),([(ti,0),(ts,1),(ts,2),(ts,3),(tb,4),(ti,5),(tl,6)]:List (TypeId × Nat))[i]?=some p→DataW.trod enc P w base spare held n p.1 (([c0,c1,c2,c3,c4,c5,c6].drop p.2).take (P.cellsOf p.1))=some xs[i]:=fun {i p} hi hp=>by
      obtain ⟨f,g1,g2,g3⟩:=Zrc hf hp
      have:=hall i f g1
      rw [g2,g3,List.getElem?_eq_getElem hi] at this
      exact this
    have f0:=fld (i:=0) (by omega) rfl
    have f1:=fld (i:=1) (by omega) rfl
    have f2:=fld (i:=2) (by omega) rfl
    have f3:=fld (i:=3) (by omega) rfl
    have f4:=fld (i:=4) (by omega) rfl
    have f5:=fld (i:=5) (by omega) rfl
    have f6:=fld (i:=6) (by omega) rfl
    dsimp only at f0 f1 f2 f3 f4 f5 f6
    rw [ci] at f0 f5
    rw [csz] at f1 f2 f3
    rw [cb] at f4
    rw [cl] at f6
    obtain ⟨m0,h0,_⟩:=DataW.trod_int hti f0
    obtain ⟨s1,h1,_,z1⟩:=DataW.trod_string hts f1
    obtain ⟨s2,h2,_,z2⟩:=DataW.trod_string hts f2
    obtain ⟨s3,h3,_,z3⟩:=DataW.trod_string hts f3
    obtain ⟨b4,h4,_⟩:=DataW.trod_bool htb f4
    obtain ⟨m5,h5,_⟩:=DataW.trod_int hti f5
    simp at h0 h1 h2 h3 h4 h5
    subst h0 h1 h2 h3 h4 h5
    have h6:∃ (a:Option Addr) (len cap:Nat),c6 = .slice a len cap:=by
      rcases Deep.open_slice htl f6 with ⟨hcs,_⟩ | ⟨a',len',cap',m,n',D,Pl,hcs,_⟩
      ·simp at hcs;exact ⟨_,_,_,hcs⟩
      ·simp at hcs;exact ⟨_,_,_,hcs⟩
    obtain ⟨a,len,cap,rfl⟩:=h6
    obtain ⟨al,hal,_⟩:=ZiB (α:=ByteArray) (g:=fun s=>[.string s]) (n:=1) (Pa:=fun _=>True) (fun _=>rfl) (by decide) htl csz (fun {fuel cs x} h=>by
      obtain ⟨s,hs,_⟩:=DataW.trod_string hts h
      exact ⟨s,hs,trivial⟩) f6
    refine ⟨(m0,s1,s2,s3,b4,m5,⟨a,len,cap⟩,()),rfl,⟨Zgq z1,Zgq z2,Zgq z3⟩,al,?_⟩
    rw [← ZmR al]
    exact hal
theorem Zql {u t:TypeId} {fs:Array Field} {fuel:Nat} {a:Option Addr} {len cap:Nat} {x:DataW H × List MemPlace} (hu:P.underlying u=some (.slice t)) (ht:P.underlying t=some (.struct fs)) (hc:P.cellsOf t=7) {ti ts tb tl:TypeId} (hti:P.underlying ti=some (.int .i64)) (hts:P.underlying ts=some .string) (htb:P.underlying tb=some .bool) (htl:P.underlying tl=some (.slice ts))
    (ci:P.cellsOf ti=1) (csz:P.cellsOf ts=1) (cb:P.cellsOf tb=1) (cl:P.cellsOf tl=1) (hf:fs.toList.map (fun f=>(f.type,f.offset))=[(ti,0),(ts,1),(ts,2),(ts,3),(tb,4),(ti,5),(tl,6)])
    (h:DataW.trod enc P w base spare held fuel u [.slice a len cap]=some x):∃ l:List C8,Row w.heap ⟨a,len,cap⟩ 7 (l.flatMap c8L)∧∀ c∈l,ZgC w.heap c :=
  haveI:Inhabited C8:=⟨c0⟩
  ZiB (Pa:=ZgC w.heap) ZkE (by decide) hu hc (Zrl ht hc hti hts htb htl ci csz cb cl hf) h
end
end Go.Proofs.YthbfgkphlmlihaaGreat
namespace Go.Proofs.YthbfgkphlmlihaaGreat
open Go Go.Fw
open Nat renaming reduceAdd→Nqa,reduceLT→Nqb,reduceLeDiff→Nqc,reduceEqDiff→Nqd,reduceMul→Nqe
def Tree.idle (t:Tree) (k:K4):Bool:=match t.f k with
  | some n=>n.fl ==0
  | none=>true
theorem Znx {h:Zd} {tb rb:Nat} {O:Nat→Prop} {t:Tree} {T:TypeId} (ht:XM h tb O t) (hb:obj h rb=some (.cells [.pointer (some ⟨tb,0,none⟩)].toArray T (0,0))) {k:K4} {K:Bool→Zd→Prop} (hk:∀ h',Ext h h'→K (t.idle k) h'):Zaa k (some ⟨rb,0,none⟩) K h:=by
  unfold Zaa Zck
  refine Yg fun h1 c1 e1 z1=>Zj (rP (Zb (Zl hb e1) rfl) (Zj ?_))
  obtain ⟨mb,hc,hg⟩:=(ht.ext e1).look k
  have hd:Zo h1 [(rb,0,.pointer (some ⟨tb,0,none⟩))]:=YM (Zb (Zl hb e1) rfl)
  have hk1:=hk h1 e1
  unfold Tree.idle at hk1
  refine rM hc (rI (Zb c1 rfl) (rS (Zb c1 rfl) (rS (Zb c1 rfl) (rS (Zb c1 rfl) ?_))))
  rcases hg with ⟨hn,hg⟩ | ⟨q,n,hn,hr,_,hg,_⟩
  ·rw [hn] at hk1
   exact hg _ ⟨none,rfl,hd,ZfA ⟨hd,Zc hk1⟩⟩
  ·rw [hn] at hk1
   exact hg _ ⟨_,rfl,hd,Zga hr ⟨hd,Zc hk1⟩⟩
theorem Zp4 {h:Zd} {tb rb:Nat} {O:Nat→Prop} {t:Tree} {T:TypeId} (ht:XM h tb O t) (hb:obj h rb=some (.cells [.pointer (some ⟨tb,0,none⟩)].toArray T (0,0))) {s:Sl} {l:List K4} (hs:Row h s 4 (l.flatMap k4L)) (hl:l.length≤100000)
    {K:Bool→Zd→Prop} (hk:∀ h',Ext h h'→K (l.any t.idle) h'):Zx s (some ⟨rb,0,none⟩,()) K h:=by
  unfold Zx Z4 ZO Yb
  have hlen:=hs.len
  rw [YZ Za8] at hlen
  have hsl:s.len=l.length:=(Nat.eq_of_mul_eq_mul_right (by decide) hlen).symm
  refine Za (YX (fun p hh=>∃ i:Nat,p=((i:Int),())∧i≤l.length∧Ext h hh∧(l.take i).any t.idle=false) (fun p _=>l.length - p.1.toNat) ⟨0,rfl,Nat.zero_le _,Ext.refl _,rfl⟩ ?_)
  rintro _ hh ⟨i,rfl,hil,he,ha⟩ Q hQ
  dsimp only
  refine Zu (fun q=>?_) fun q=>?_
  ·have hi1:i<l.length:=by omega
   have hg:l[i]?=some l[i]:=List.getElem?_eq_getElem hi1
   generalize l[i]=k at hg
   obtain ⟨b,o,hb9,hlt,hidx,hc⟩:=Zdj Za8 (hs.ext he) hg (by decide)
   have v0:=hc 0 _ rfl
   have v1:=hc 1 _ rfl
   have v2:=hc 2 _ rfl
   have v3:=hc 3 _ rfl
   have hwr:IntKind.wrap .i64 ((i:Int)+1)=((i+1:Nat):Int):=wrS hi1 (by omega)
   have htk:l.take (i+1)=l.take i++[k]:=by rw [List.take_add_one,hg];rfl
   refine Za (hidx rfl (rI v0 (rS v1 (rS v2 (rS v3 (Znx (ht.ext he) (Zl hb he) fun h1 e1=>⟨fun hf=>?_,fun hf=>?_⟩))))))
   ·have:l.any t.idle=true:=List.any_eq_true.2 ⟨k,List.mem_of_getElem? hg,hf⟩
    rw [this] at hk
    refine Za (Zc ?_)
    have:decide ((i:Int)≥0)=true:=by simp
    rw [this]
    exact hk _ (he.trans e1)
   ·rw [hwr]
    refine hQ _ _ ⟨i+1,rfl,hi1,he.trans e1,?_⟩ (by show l.length - ((i+1:Nat):Int).toNat<l.length - ((i:Nat):Int).toNat;omega)
    have hf':t.idle k=false:=hf
    rw [htk,List.any_append,ha];simp [hf']
  ·have hfull:l.take i=l:=List.take_of_length_le (by omega)
   rw [hfull] at ha
   rw [ha] at hk
   exact Za (Zc (hk _ he))
def Tree.ons (g:Node→Node):List K4→Tree→Tree
  | [],t=>t
  | k::l,t=>Tree.ons g l (t.on k g)
def Tree.doneE (t:Tree) (c:C8) (rt:Int):Int :=
  if Zen c≠0 then Zen c else if ¬ (0≤c.1∧c.1≤1152921504606846976) then 2 else if ¬ (0≤rt∧rt≤1152921504606846976) then 2 else if c.1<t.last then 7 else if (Z1 c).any t.idle=true then 4 else 0
def Tree.dones (t:Tree) (c:C8) (rt:Int) (f:Bool):Tree:=if t.doneE c rt=0 then (let t':=Tree.ons (fun n=>n.done c.1 rt f) (Z1 c) t;⟨t'.f,t'.keys,c.1⟩) else t
theorem ZnN {h:Zd} {tb:Nat} {O:Nat→Prop} {t:Tree} (ht:XM h tb O t) (hO:∀ j,O j→j<sz h) {c:C8} (hz:ZfM c) {rt:Int} {f:Bool} {K:Int→Zd→Prop}
    (hk:∀ h',XM h' tb O (t.dones c rt f)→Upd O h h'→K (t.doneE c rt) h'):ZaT (some ⟨tb,0,none⟩) c rt f K h:=by
  have no:∀ e (h9:Zd),Ext h h9→e≠0→t.doneE c rt=e→K e h9:=fun e h9 e9 h1 h2=>by
    have:=hk h9 (by unfold Tree.dones;rw [if_neg (by rw [h2];exact h1)];exact ht.ext e9) (e9.upd _)
    rwa [h2] at this
  unfold ZaT Zda
  refine Yg fun h1 c1 e1 z1=>Yg fun h3 c3 e3 z3=>Za ?_
  have p3:=Zl c1 e3
  refine rP (Zb p3 rfl) (Zz (rI (Zb c3 rfl) (rS (Zb c3 rfl) (rS (Zb c3 rfl) (rS (Zb c3 rfl) (rB (Zb c3 rfl) (rI (Zb c3 rfl) (rL (Zb c3 rfl) ?_))))))))
  refine Zfz (c:=c) hz fun s h4 e4 o4=>Za (Zc (Zdt (fun q1=>Za ?_) fun q1=>?_))
  ·exact no _ h4 ((e1.trans e3).trans e4) q1 (by unfold Tree.doneE;rw [if_pos q1])
  rw [if_pos q1] at o4
  have e04:Ext h h4:=(e1.trans e3).trans e4
  have c4:=Zl c3 e4
  have p4:=Zl p3 e4
  have t4:=ht.ext e04
  refine rI (Zb c4 rfl) (ZgJ ?_)
  by_cases ha:0≤c.1∧c.1≤1152921504606846976
  case neg =>
    have:inB c.1 0 1152921504606846976=false:=by unfold inB;simp;omega
    rw [this]
    exact YL (Za (no 2 h4 e04 (by decide) (by unfold Tree.doneE;rw [if_neg (fun h9=>h9 q1),if_pos ha])))
  have:inB c.1 0 1152921504606846976=true:=by unfold inB;simp;omega
  rw [this]
  refine Zz (ZgJ ?_)
  by_cases hr:0≤rt∧rt≤1152921504606846976
  case neg =>
    have:inB rt 0 1152921504606846976=false:=by unfold inB;simp;omega
    rw [this]
    exact Zc (YL (Za (no 2 h4 e04 (by decide) (by unfold Tree.doneE;rw [if_neg (fun h9=>h9 q1),if_neg (fun h9=>h9 ha),if_pos hr]))))
  have:inB rt 0 1152921504606846976=true:=by unfold inB;simp;omega
  rw [this]
  refine Zc (Zz (rI (Zb c4 rfl) (rP (Zb p4 rfl) (Zj (rI t4.last (Zc (Zu (fun q4=>Za (no 7 h4 e04 (by decide) ?_)) fun q4=>?_)))))))
  ·unfold Tree.doneE;rw [if_neg (fun h9=>h9 q1),if_neg (fun h9=>h9 ha),if_neg (fun h9=>h9 hr),if_pos q4]
  have hkn:=Zgr c
  refine Zp4 t4 p4 o4.row (by omega) fun h5 e5=>Zc ⟨fun hi=>Za (no 4 h5 (e04.trans e5) (by decide) ?_),fun hi=>?_⟩
  ·unfold Tree.doneE;rw [if_neg (fun h9=>h9 q1),if_neg (fun h9=>h9 ha),if_neg (fun h9=>h9 hr),if_neg q4,if_pos hi]
  have hE:t.doneE c rt=0:=by unfold Tree.doneE;rw [if_neg (fun h9=>h9 q1),if_neg (fun h9=>h9 ha),if_neg (fun h9=>h9 hr),if_neg q4,if_neg (by rw [hi];decide)]
  have hN:t.dones c rt f=⟨(Tree.ons (fun n=>n.done c.1 rt f) (Z1 c) t).f,(Tree.ons (fun n=>n.done c.1 rt f) (Z1 c) t).keys,c.1⟩:=by unfold Tree.dones;rw [if_pos hE]
  rw [hE,hN] at hk
  have hlen:=o4.row.len
  rw [YZ Za8] at hlen
  have hsl:s.len=(Z1 c).length:=(Nat.eq_of_mul_eq_mul_right (by decide) hlen).symm
  have e05:=e04.trans e5
  have w1:sz h1=sz h+1:=z1
  have w3:sz h3=sz h1+1:=z3
  have w4:sz h3≤sz h4:=e4.size
  have w45:sz h4≤sz h5:=e5.size
  have rows:∀ b,s.blk=some b→sz h≤b∧b<sz h4:=fun b hb=>by have:sz h3≤b∧b<sz h4:=o4.lt hb;omega
  have hall:∀ k∈Z1 c,t.isNew k=false:=fun k hk9=>by
    have:=List.any_eq_false.1 hi k hk9
    unfold Tree.idle at this
    unfold Tree.isNew
    cases hf:t.f k with
    | none=>rw [hf] at this;exact absurd rfl this
    | some n=>rfl
  refine YX (fun p hh=>∃ (i:Nat) (l2:List K4) (t2:Tree),p=((i:Int),())∧i≤(Z1 c).length∧(Z1 c).drop i=l2∧Tree.ons (fun n=>n.done c.1 rt f) l2 t2=Tree.ons (fun n=>n.done c.1 rt f) (Z1 c) t∧XM hh tb O t2∧(∀ k∈Z1 c,t2.isNew k=false)∧Upd O h5 hh)
    (fun p _=>(Z1 c).length - p.1.toNat) ⟨0,_,t,rfl,Nat.zero_le _,rfl,rfl,t4.ext e5,hall,Upd.refl _ _⟩ ?_
  rintro _ hh ⟨i,l2,t2,rfl,hil,hdr,hst,ht2,hal2,hu⟩ Q hQ
  have nO:∀ j,sz h≤j→¬ O j:=fun j hj h9=>by have:=hO j h9;omega
  have old:∀ {j:Nat} {y:Obj},obj h5 j=some y→¬ O j→obj hh j=some y:=fun {j y} hj hn=>(hu.old j (Zr hj) hn).trans hj
  have p6:obj hh (sz h)=_:=old (Zl p4 e5) (nO _ (Nat.le_refl _))
  have c6:obj hh (sz h1)=_:=old (Zl c4 e5) (nO _ (by omega))
  have w6:sz h5≤sz hh:=hu.size
  dsimp only
  refine Zu (fun q=>?_) fun q=>?_
  ·have hi1:i<(Z1 c).length:=by omega
   have hg:(Z1 c)[i]?=some (Z1 c)[i]:=List.getElem?_eq_getElem hi1
   have hdc:l2=(Z1 c)[i]::(Z1 c).drop (i+1):=by rw [← hdr];exact List.drop_eq_getElem_cons hi1
   have hmk:=List.getElem_mem hi1
   generalize (Z1 c)[i]=k at hg hdc hmk
   subst hdc
   have row6:Row hh s 4 ((Z1 c).flatMap k4L):=(o4.row.ext e5).congr fun b o hb _ hl=>hu.old b hl (nO _ (rows b (by simp [Sl.blk,hb])).1)
   obtain ⟨b,o,hb9,hlt,hidx,hcc⟩:=Zdj Za8 row6 hg (by decide)
   have v0:=hcc 0 _ rfl
   have v1:=hcc 1 _ rfl
   have v2:=hcc 2 _ rfl
   have v3:=hcc 3 _ rfl
   have hwr:IntKind.wrap .i64 ((i:Int)+1)=((i+1:Nat):Int):=wrS hi1 (by omega)
   refine hidx rfl (rI v0 (rS v1 (rS v2 (rS v3 (Yg fun h7 c7 e7 z7=>ZaE c7 fun h8 c8 u8 z8=>?_)))))
   have e8:Ext hh h8:=e7.then u8 fun k hk=>by subst hk;exact Nat.le_refl _
   have p8:=Zl p6 e8
   have d8:=Zl c6 e8
   have t8:=ht2.ext e8
   obtain ⟨mb,hc8,hg8⟩:=t8.look k
   refine rP (Zb p8 rfl) (Zj (rM hc8 (rI (Zb c8 rfl) (rS (Zb c8 rfl) (rS (Zb c8 rfl) (rS (Zb c8 rfl) (rI (Zb d8 rfl) ?_)))))))
   rcases hg8 with ⟨hn',_⟩ | ⟨q9,n9,hn',hr9,hq9,hg9,hput⟩
   ·have:=hal2 k hmk;unfold Tree.isNew at this;rw [hn'] at this;cases this
   refine hg9 _ ⟨_,rfl,YM (Zb d8 rfl),YM (Zb p8 rfl),ZnS hr9 fun h10 n10 u10=>?_⟩
   have t10:=hput h10 _ n10 u10
   have p10:obj h10 (sz h)=_:=(u10.old (sz h) (Zr p8) (fun h99=>nO _ (Nat.le_refl _) (hq9 _ h99).1)).trans p8
   refine ⟨YM (Zb p10 rfl),?_⟩
   rw [hwr]
   have hon:t2.on k (fun n=>n.done c.1 rt f)=t2.put k (n9.done c.1 rt f):=by unfold Tree.on;rw [hn']
   refine hQ _ _ ⟨i+1,(Z1 c).drop (i+1),t2.on k (fun n=>n.done c.1 rt f),rfl,hi1,rfl,hst,by rw [hon];exact t10,fun j hj=>(ZrL _ _ _ _).trans (hal2 j hj),?_⟩ (by show (Z1 c).length - ((i+1:Nat):Int).toNat<(Z1 c).length - ((i:Nat):Int).toNat;omega)
   exact (hu.trans (e8.upd O)).trans (u10.mono fun j _ hq=>(hq9 j hq).1)
  ·have hl2:l2=[]:=by rw [← hdr];exact List.drop_eq_nil_of_le (by omega)
   subst hl2
   refine rP (Zb p6 rfl) (rI (Zb c6 rfl) (Zj (ht2.setLast fun h7 t7 u7=>Za (hk h7 ?_ ?_))))
   ·rw [← hst];exact t7
   ·exact ((e05.upd O).trans hu).trans u7
abbrev Zvs:Value:= .agg #[iv 0,.string em,.string em,.string em,.bool false,iv 0,slV nl,.bool true,slV nl]
def ZrR (c:C8) (at_:Int):C8:=(at_,c.2.1,c.2.2.1,c.2.2.2.1,c.2.2.2.2.1,c.2.2.2.2.2.1,nl,())
def Eng.exit (E:Eng) (number at_:Int) (failed:Bool) (c:C8) (m:Nat):Eng:={ E with la:=at_,f:=upd E.f number (some Zvs),fl:=IntKind.wrap .i64 (E.fl - 1),t:=E.t.dones (ZrR c at_) (IntKind.wrap .i64 (at_ - c.1)) failed,n:=m }
def Zn3:B7:=(sA,2,0,0,1,1000000,2000000,())
theorem Zl2 {h:Zd} {K:Bool→Zd→Prop} (hk:∀ h',Ext h h'→K true h'):Y5 (sA,⟨none,0,0⟩,()) K h:=by
  unfold Y5 ZaN
  refine Yg fun h1 c1 e1 z1=>rS (Zb c1 rfl) (ZcJ (show sA.size<9223372036854775808 by decide) (Zt Zvy (rL (s:=⟨none,0,0⟩) (Zb c1 rfl) ?_)))
  unfold ZB ZK ZF ZQ
  refine Za (YX (fun p hh=>p=(0,())∧hh=h1) (fun _ _=>0) ⟨rfl,rfl⟩ ?_)
  rintro _ hh ⟨rfl,hh9⟩ Q _
  subst hh9
  exact Zi rfl (Za (Zc (Zc (hk _ e1))))
theorem Znq {h:Zd} {rb ob cb:Nat} {T0 T1 T5:TypeId}
    (cr:obj h rb=some (.cells (b7L Zn3).toArray T0 (0,0))) (co:obj h ob=some (.cells [iv 1099511627776].toArray T1 (0,0)))
    (cc:obj h cb=some (.cells [.func (.func 140) #[] #[.pointer (some ⟨rb,0,none⟩),.pointer (some ⟨ob,0,none⟩)],.func (.func 142) #[] #[.pointer (some ⟨rb,0,none⟩)],.func (.func 144) #[] #[.pointer (some ⟨rb,0,none⟩)],.func (.func 145) #[] #[.pointer (some ⟨rb,0,none⟩)]].toArray T5 (0,0)))
    {K:Int→Zd→Prop} (hk:∀ h',Ext h h'→K 0 h'):Xk (sA,⟨none,0,0⟩,31,()) ⟨some ⟨cb,0,none⟩,4,4⟩ K h:=by
  unfold Xk Zcm
  refine Yg fun h1 c1 e1 z1=>Za (rS (Zb c1 rfl) (rL (s:=⟨none,0,0⟩) (Zb c1 rfl) (Zl2 fun h2 e2=>Zi rfl ?_)))
  have e02:=e1.trans e2
  have cr2:=Zl cr e02
  have co2:=Zl co e02
  have cc2:=Zl cc e02
  refine YX (fun p hh=>(0≤p.1∧p.1≤4)∧hh=h2) (fun p _=>(4 - p.1).toNat) ⟨⟨by decide,by decide⟩,rfl⟩ ?_
  rintro ⟨i,u⟩ hh ⟨hi,hh9⟩ Q hQ
  subst hh9
  dsimp only at hi ⊢
  have w0:∀ {a b c:Int},b≤a∧a≤c→∀ {K:Bool→Zd→Prop} {h:Zd},K true h→Yf a b c K h:=fun {a b c} hr {K h} hK=>Zew (by
    have:inB a b c=true:=by unfold inB;simp;omega
    rw [this];exact hK)
  have only0:∀ {a b:Int} {K:Bool→Zd→Prop} {h:Zd},K true h→Xw false 0 a b K h:=fun {a b K h} hK=>by
    unfold Xw ZdY
    exact Zz (Zt rfl (Zc hK))
  have nxt:∀ j:Int,0≤j→j<4→i=j→Q (IntKind.wrap .i64 (i+1),()) hh:=fun j h1 h2 h3=>by
    rw [XH (by omega) (by omega)]
    refine hQ _ _ ⟨⟨by show 0≤i+1;omega,by show i+1≤4;omega⟩,rfl⟩ ?_
    show (4 - (i+1)).toNat<(4 - i).toNat
    omega
  rcases (show i=0∨i=1∨i=2∨i=3∨i=4 by omega) with q | q | q | q | q
  ·have nx:=nxt 0 (by decide) (by decide) q
   subst q
   refine Zt rfl (Zn2 0 rfl (by decide) (rV (Zb cc2 rfl) (.inr (.inr (.inr (.inr (.inr (.inr (.inr (.inl ⟨(some ⟨rb,0,none⟩,some ⟨ob,0,none⟩,()),rfl,?_⟩))))))))))
   unfold Zb9 ZdN
   exact Zj (rI (Zb cr2 rfl) (Zt rfl (Zj (rI (Zb cr2 rfl) (Zj (rI (Zb co2 rfl) (w0 ⟨by decide,by decide⟩ (Zc (Zi rfl nx)))))))))
  ·have nx:=nxt 1 (by decide) (by decide) q
   subst q
   refine Zt rfl (Zn2 1 rfl (by decide) (rV (Zb cc2 rfl) (.inr (.inr (.inr (.inr (.inr (.inr (.inr (.inr (.inl ⟨(some ⟨rb,0,none⟩,()),rfl,?_⟩)))))))))))
   unfold Zb8 ZdM
   exact Zj (rI (Zb cr2 rfl) (Zj (rI (Zb cr2 rfl) (only0 (Zc (Zi rfl nx))))))
  ·have nx:=nxt 2 (by decide) (by decide) q
   subst q
   refine Zt rfl (Zn2 2 rfl (by decide) (rV (Zb cc2 rfl) (.inr (.inr (.inr (.inr (.inr (.inr (.inr (.inr (.inr (.inl ⟨(some ⟨rb,0,none⟩,()),rfl,?_⟩))))))))))))
   unfold Zb7 ZdL
   exact Zj (rI (Zb cr2 rfl) (w0 ⟨by decide,by decide⟩ (YL (Zj (rI (Zb cr2 rfl) (w0 ⟨by decide,by decide⟩ (Zc (Zi rfl nx))))))))
  ·have nx:=nxt 3 (by decide) (by decide) q
   subst q
   refine Zt rfl (Zn2 3 rfl (by decide) (rV (Zb cc2 rfl) (.inr (.inr (.inr (.inr (.inr (.inr (.inr (.inr (.inr (.inr (.inl ⟨(some ⟨rb,0,none⟩,()),rfl,?_⟩)))))))))))))
   unfold Zb6 ZdK
   exact Zj (rI (Zb cr2 rfl) (w0 ⟨by decide,by decide⟩ (Zc (Zi rfl nx))))
  ·subst q
   exact Zi rfl (Za (hk _ e02))
theorem Zj0 {h:Zd} {K:Int→Zd→Prop} (hk:∀ h',Ext h h'→K 0 h'):Xu Zn3 K h:=by
  unfold Xu ZeL
  refine Yg fun h1 c1 e1 z1=>Za (Yg fun h2 c2 e2 z2=>ZdD c2 (show 0<1 by decide) rfl fun h3 c3 u3 z3=>ZaD ?_)
  have e13:Ext h1 h3:=e2.then u3 fun k hk=>by subst hk;exact Nat.le_refl _
  have r3:=Zl c1 e13
  refine rI (Zb r3 rfl) (Zt rfl (ZdD c3 (show 0<1 by decide) rfl fun h4 c4 u4 z4=>?_))
  have e14:Ext h1 h4:=e13.then u4 fun k hk=>by subst hk;exact Nat.le_refl _
  have r4:=Zl c1 e14
  refine rS (Zb r4 rfl) (Yg fun h5 c5 e5 z5=>?_)
  exact Znq (Zl r4 e5) (Zl c4 e5) c5 fun h6 e6=>Za (hk h6 ((e1.trans e14).trans (e5.trans e6)))
def Wid.brk:Wid:=⟨1000000,1,1000000,by decide,by decide,by decide,by decide,by decide⟩
structure Brk where
  st:Int
  un:Int
  tr:Int
  la:Int
abbrev ZEX (wb:Nat) (B:Brk):List Value:=b7L Zn3++[.pointer (some ⟨wb,0,none⟩),.int .u8 B.st,iv B.un,iv B.tr,iv B.la]
abbrev ZkO (wb:Nat) (B:Brk):Obj:= .cells (ZEX wb B).toArray 165 (0,0)
theorem Zg9 {h:Zd} {bb wb:Nat} {B:Brk} (hc:obj h bb=some (ZkO wb B)) {at_:Int} {K:Int→Zd→Prop} (hk:K (Yw B.la at_) h):Yh (some ⟨bb,0,none⟩) at_ K h:=by
  unfold Yh Zbb
  unfold Yw at hk
  refine Za (Zc (Zi rfl (Zu (fun q=>Za ?_) fun q=>Zc (Zu (fun q2=>Za ?_) fun q2=>Zj (rI (Zb hc rfl) (Zc (Zu (fun q3=>Za ?_) fun q3=>Za ?_)))))))
  ·rw [if_pos q] at hk;exact hk
  ·rw [if_neg q,if_pos q2] at hk;exact hk
  ·rw [if_neg q,if_neg q2,if_pos q3] at hk;exact hk
  ·rw [if_neg q,if_neg q2,if_neg q3] at hk;exact hk
def Ze0 (B:Brk) (at_:Int):Bool:=decide (B.st=1)||(decide (B.st=2)&&decide (B.un≤at_))
theorem ZjL {h:Zd} {bb wb:Nat} {B:Brk} (hc:obj h bb=some (ZkO wb B)) {at_:Int} {K:Bool→Zd→Prop} (hk:K (Ze0 B at_) h):Yv (some ⟨bb,0,none⟩) at_ K h:=by
  unfold Yv ZaB
  unfold Ze0 at hk
  refine Zj (rI (Zb hc rfl) (Zce (fun q=>?_) fun q=>Zj (rI (Zb hc rfl) (Zce (fun q2=>Zj (rI (Zb hc rfl) (Zc ?_))) fun q2=>?_))))
  ·rw [decide_eq_true q] at hk;exact hk
  ·rw [decide_eq_false q,decide_eq_true q2] at hk;exact hk
  ·rw [decide_eq_false q,decide_eq_false q2] at hk;exact hk
theorem ZnY {h:Zd} {bb wb:Nat} {B:Brk} (hc:obj h bb=some (ZkO wb B)) {at_:Int} (he:Yw B.la at_=0) {K:Bool→Int→Zd→Prop} (hk:K (Ze0 B at_) 0 h):Xn (some ⟨bb,0,none⟩) at_ K h:=by
  unfold Xn Zbc
  refine Za (Zg9 hc (Za ?_))
  rw [he]
  exact Zi rfl (ZjL hc (Zc (Za hk)))
def Brk.enter (B:Brk) (at_:Int):Brk:={ B with la:=at_,st:=if Ze0 B at_=true∧B.st=2 then 3 else B.st }
theorem Zmy {h:Zd} {bb wb:Nat} {B:Brk} (hc:obj h bb=some (ZkO wb B)) {at_:Int} (he:Yw B.la at_=0) {K:Bool→Bool→Int→Zd→Prop}
    (hk:∀ h',obj h' bb=some (ZkO wb (B.enter at_))→Upd (· = bb) h h'→sz h'=sz h→K (Ze0 B at_) (Ze0 B at_&&decide (B.st=2)) 0 h'):Xl (some ⟨bb,0,none⟩) at_ K h:=by
  unfold Xl ZaQ
  refine Za (Zg9 hc (Za ?_))
  rw [he]
  refine Zi rfl (Zj (ZdD hc (show 0+11<12 by decide) rfl fun h1 c1 u1 z1=>?_))
  have hc1:obj h1 bb=some (ZkO wb { B with la:=at_ }):=c1
  refine ZjL hc1 (Zc ?_)
  have hb:Ze0 { B with la:=at_ } at_=Ze0 B at_:=rfl
  rw [hb]
  refine ⟨fun q=>Zj (rI (Zb hc1 rfl) (Zce (fun q2=>Zj (ZdD hc1 (show 0+8<12 by decide) rfl fun h2 c2 u2 z2=>Zc (Za ?_))) fun q2=>Zc (Za ?_))),fun q=>Zc (Za ?_)⟩
  ·have:=hk h2 (by unfold Brk.enter;rw [if_pos ⟨q,q2⟩];exact c2) (u1.trans u2) (z2.trans z1)
   rw [q,decide_eq_true (show B.st=2 from q2)] at this
   rw [q];exact this
  ·have:=hk h1 (by unfold Brk.enter;rw [if_neg fun h9=>q2 h9.2];exact hc1) u1 z1
   rw [q,decide_eq_false (show ¬ B.st=2 from q2)] at this
   rw [q];exact this
  ·have:=hk h1 (by unfold Brk.enter;rw [if_neg fun h9=>by rw [q] at h9;cases h9.1];exact hc1) u1 z1
   rw [q] at this
   rw [q];exact this
theorem Zqx {h:Zd} {K:Option Addr→Int→Zd→Prop} (hk:∀ h' bb wb mb,obj h' bb=some (ZkO wb ⟨1,0,0,0⟩)→Zhs Wid.brk h' wb mb ⟨0,fun _=>z6⟩→Ext h h'→sz h≤bb→sz h≤wb→sz h≤mb→K (some ⟨bb,0,none⟩) 0 h'):Zcd Zn3 K h:=by
  unfold Zcd ZeM
  refine Yg fun h1 c1 e1 z1=>Za (rS (Zb c1 rfl) (rI (Zb c1 rfl) (rI (Zb c1 rfl) (rI (Zb c1 rfl) (rI (Zb c1 rfl) (rI (Zb c1 rfl) (rI (Zb c1 rfl) ?_)))))))
  refine Zj0 fun h2 e2=>Za (Zi rfl ?_)
  have c2:=Zl c1 e2
  refine rS (Zb c2 rfl) (rI (Zb c2 rfl) (rI (Zb c2 rfl) (rI (Zb c2 rfl) (rI (Zb c2 rfl) (rI (Zb c2 rfl) (rI (Zb c2 rfl) (Yg fun h3 c3 e3 z3=>?_)))))))
  have w2:sz h≤sz h2:=(e1.trans e2).size
  unfold YJ ZaP
  have w3:sz h3=sz h2+1:=z3
  refine Zj (rI (Zb c3 rfl) (Zf1 (k:=Wid.brk) (by decide) ⟨by decide,by decide⟩ fun h4 w4 e4 z4=>Zj (ZdD (Zl c3 e4) (show 0+7<12 by decide) rfl fun h5 c5 u5 z5=>Za ?_)))
  refine hk h5 (sz h2) (sz h3+1) (sz h3) c5 (w4.congr ?_ ?_) ?_ w2 (by omega) (by omega)
  ·exact u5.old _ (Zr w4.cells) (by show ¬ sz h3+1=sz h2;omega)
  ·exact u5.old _ w4.mlt (by show ¬ sz h3=sz h2;omega)
  ·exact (((e1.trans e2).trans e3).trans e4).then u5 fun k hk=>by subst hk;exact w2
theorem Zn0 {h:Zd} {bb wb mb:Nat} {B:Brk} (hc:obj h bb=some (ZkO wb B)) (hw:Zhs Wid.brk h wb mb ⟨0,fun _=>z6⟩) (h1s:B.st=1) {at_ rt:Int} (he:Yw B.la at_=0) (hrt:0≤rt∧rt≤1152921504606846976) (hsep:bb≠wb∧bb≠mb) {K:Int→Zd→Prop}
    (hk:∀ h' B',obj h' bb=some (ZkO wb B')→B'.st=2→B'.un=at_+2000000→B'.la=at_→Upd (fun j=>j=bb∨j=wb∨j=mb) h h'→K 0 h'):Xo (some ⟨bb,0,none⟩) at_ rt true false K h:=by
  unfold Xo Zbd
  obtain ⟨a0,a1,a2⟩:=Ze2 he
  have hwe:Yw 0 at_=0:=by unfold Yw;rw [if_neg (by omega),if_neg (by omega),if_neg (by omega)]
  refine Za (ZaD (Zg9 hc (Za ?_)))
  rw [he]
  refine Zc (Zi rfl (Zi rfl (Zu (fun q=>by omega) fun _=>Zc (Zu (fun q=>by omega) fun _=>Zc (Zi rfl (Zz ?_))))))
  refine Zj (ZdD hc (show 0+11<12 by decide) rfl fun h1 c1 u1 z1=>?_)
  have hc1:obj h1 bb=some (ZkO wb { B with la:=at_ }):=c1
  unfold XQ ZaO
  refine Zj (rI (Zb hc1 rfl) (Zi rfl (Zc (Zc (ZaD (Zz (Zz (Zc (Zz (Zj (rI (Zb hc1 rfl) (Zc (Zt (by simpa using h1s) ?_)))))))))))))
  have lw:wb<sz h:=Zr hw.cells
  have lm:mb<sz h:=hw.mlt
  have lb:bb<sz h:=Zr hc
  have s1:sz h1=sz h:=z1
  have w1:Zhs Wid.brk h1 wb mb ⟨0,fun _=>z6⟩:=hw.congr (u1.old wb lw (Ne.symm hsep.1)) (u1.old mb lm (Ne.symm hsep.2))
  refine Yg fun h2 c2 e2 z2=>ZaE c2 fun h3 c3 u3 z3=>ZaD (YL (ZdD c3 (show 0+3<6 by decide) rfl fun h4 c4 u4 z4=>?_))
  have e14:Ext h1 h4:=(e2.then u3 fun k hk=>by subst hk;exact Nat.le_refl _).then u4 fun k hk=>by subst hk;exact Nat.le_refl _
  have hc4:=Zl hc1 e14
  have w4:Zhs Wid.brk h4 wb mb ⟨0,fun _=>z6⟩:=w1.congr (Z6 e14 (by omega)) (Z6 e14 (by omega))
  refine Zj (rP (Zb hc4 rfl) (rI (Zb c4 rfl) (rI (Zb c4 rfl) (rI (Zb c4 rfl) (rI (Zb c4 rfl) (rI (Zb c4 rfl) (rI (Zb c4 rfl) (Yg fun h5 c5 e5 z5=>⟨YM (Zb (Zl hc4 e5) rfl),?_⟩))))))))
  have e15:=e14.trans e5
  have w5:Zhs Wid.brk h5 wb mb ⟨0,fun _=>z6⟩:=w1.congr (Z6 e15 (by omega)) (Z6 e15 (by omega))
  have hx:Rt (0,0,1,1,0,0,()):=⟨by decide,by decide,by decide,by decide,by decide,by decide,.inl (by decide)⟩
  have g14:sz h1≤sz h4:=e14.size
  refine ZkM w5 (x:=(0,0,1,1,0,0,())) hx (ZiR c5 rfl) (fun b hb=>?_) fun h6 w6 u6=>?_
  ·have h9:h4.size=b:=by simpa [Sl.blk] using hb
   have:sz h4=b:=h9
   omega
  rw [if_pos hwe] at w6
  have hc6:obj h6 bb=some (ZkO wb { B with la:=at_ }):=(u6.old bb (Zr (Zl hc4 e5)) (by show ¬ (bb=wb∨bb=mb);exact fun h9=>h9.elim hsep.1 hsep.2)).trans (Zl hc4 e5)
  have hwe2:Yw at_ at_=0:=by unfold Yw;rw [if_neg (by omega),if_neg (by omega),if_neg (by omega)]
  refine Zj (rP (Zb hc6 rfl) (Zm3 w6 fun h7 e7=>Yg fun h8 c8 e8 z8=>?_))
  have hsum:(if Yw (Win.add Wid.brk ⟨0,fun _=>z6⟩ at_ (0,0,1,1,0,0,())).last at_=0 then Win.sum Wid.brk (Win.add Wid.brk ⟨0,fun _=>z6⟩ at_ (0,0,1,1,0,0,())) at_ else z6)=(0,0,1,1,0,0,()):=by
    have hq:Yw (Win.add Wid.brk ⟨0,fun _=>z6⟩ at_ (0,0,1,1,0,0,())).last at_=0:=hwe2
    rw [if_pos hq]
    have hlo:loW Wid.brk at_=bkt Wid.brk at_:=by
      have:=Zfx (k:=Wid.brk) a0 a1
      unfold loW
      show max 0 (bkt Wid.brk at_ - (1 - 1))=_
      omega
    unfold Win.sum
    rw [hlo,Zeg _ (Int.le_refl _),Zhu]
    show Zgb z6 (if bkt Wid.brk at_=bkt Wid.brk at_ then Zgb z6 (0,0,1,1,0,0,()) else z6)=_
    rw [if_pos rfl,Zpe hx,Zpe hx]
  rw [hsum]
  refine ZaE c8 fun h9 c9 u9 z9=>Za (rI (Zb c9 rfl) (rI (Zb c9 rfl) (rI (Zb c9 rfl) (rI (Zb c9 rfl) (rI (Zb c9 rfl) (rI (Zb c9 rfl) ?_))))))
  have e69:Ext h6 h9:=(e7.trans e8).then u9 fun k hk=>by subst hk;exact e7.size
  have hc9:=Zl hc6 e69
  unfold XA ZaC
  refine Yg fun h10 c10 e10 z10=>?_
  have hc10:=Zl hc9 e10
  refine rI (Zb c10 rfl) (Zj (rI (Zb hc10 rfl) (Zc (Zi rfl (Zj (rI (Zb hc10 rfl) (Zc (Zt rfl (rI (Zb c10 rfl) (Zj (rI (Zb hc10 rfl) (Zc (Zt rfl ?_)))))))))))))
  unfold X0 Zba
  refine Zj (ZdD hc10 (show 0+8<12 by decide) rfl fun h11 c11 u11 z11=>Zj (rI (Zb c11 rfl) (Zj (ZdD c11 (show 0+9<12 by decide) rfl fun h12 c12 u12 z12=>Zj (rI (Zb c12 rfl) (Zj (ZdD c12 (show 0+10<12 by decide) rfl fun h13 c13 u13 z13=>Za ?_)))))))
  refine hk h13 ⟨2,Zn1 (IntKind.wrap .i64 (at_+2000000)) 4611686018427387904,IntKind.wrap .i64 (B.tr+1),at_⟩ c13 rfl ?_ rfl ?_
  ·show Zn1 (IntKind.wrap .i64 (at_+2000000)) 4611686018427387904=_
   rw [XH (by omega) (by omega),Zl4]
   omega
  ·have U:Upd (fun j=>j=bb∨j=wb∨j=mb) h h6:=((u1.mono fun j _ hj=> .inl hj).trans (e15.upd _)).trans (u6.mono fun j _ hj=> .inr hj)
   exact ((U.trans ((e69.trans e10).upd _)).trans (u11.mono fun j _ hj=> .inl hj)).trans ((u12.mono fun j _ hj=> .inl hj).trans (u13.mono fun j _ hj=> .inl hj))
theorem Znv {h:Zd} {fl:List B7} {s w:Sl} (hw:w.len=0) (hs:Row h s 7 (fl.flatMap b7L)) (hl:fl.length≤256) {K:Sl→Zd→Prop} (hk:∀ h' t,Ext h h'→Own h' (sz h) t 1 (fl.map fun _=>iv (-1))→K t h'):Zw s w K h:=by
  unfold Zw Z8
  have hlen:=hs.len
  rw [YZ (n:=7) fun _=>rfl] at hlen
  have hsl:s.len=fl.length:=(Nat.eq_of_mul_eq_mul_right (by decide) hlen).symm
  rw [hw]
  refine ⟨by decide,by decide,by decide,by decide,?_⟩
  have e0:Ext h (h.push (.cells (X6 [.bool false] 0).toArray 4)):=Zah (Ext.refl h)
  refine YX (fun p hh=>∃ i:Nat,p.2.1=(i:Int)∧i≤fl.length∧Ext h hh∧Own hh (sz h) p.1 1 ((fl.take i).map fun _=>iv (-1))) (fun p _=>fl.length - p.2.1.toNat) ⟨0,rfl,Nat.zero_le _,e0,Own.nil _ _ _⟩ ?_
  rintro ⟨l,_,_⟩ hh ⟨i,rfl,hil,he,ho⟩ Q hQ
  dsimp only at ho ⊢
  refine Zu (fun q=>?_) fun q=>?_
  ·have hi1:i<fl.length:=by omega
   have hg:fl[i]?=some fl[i]:=List.getElem?_eq_getElem hi1
   generalize fl[i]=f at hg
   obtain ⟨b,o,hb,hlt,hidx,hc⟩:=Zdj (g:=b7L) (n:=7) (fun _=>rfl) (hs.ext he) hg (by decide)
   refine hidx rfl (rS (hc 0 _ rfl) (rI (hc 1 _ rfl) (rI (hc 2 _ rfl) (rI (hc 3 _ rfl) (rI (hc 4 _ rfl) (rI (hc 5 _ rfl) (rI (hc 6 _ rfl) (Yg fun h1 c1 e1 z1=>ZaE c1 fun h2 c2 u2 z2=>Za ?_))))))))
   have e2:Ext hh h2:=e1.then u2 fun k hk=>by subst hk;exact Nat.le_refl _
   refine YX (fun p hx=>p=(-1,0,())∧hx=h2) (fun _ _=>0) ⟨rfl,rfl⟩ ?_
   rintro _ hx ⟨rfl,hx9⟩ Q2 _
   subst hx9
   dsimp only
   refine Zi rfl (Yg fun h3 c3 e3 z3=>(ZiR c3 rfl).rd ?_)
   have e3':=(he.trans e2).trans e3
   have ho3:=Zcs ho (e2.trans e3)
   have hol:l.len=i:=by have:=ho.len;simp at this;omega
   refine ho3.app (n:=1) rfl rfl rfl (by rw [hol];omega) (by rw [hol];omega) e3'.size fun s4 h4 o4 _ u4 _=>hQ _ _ ⟨i+1,?_,hi1,e3'.then u4 fun k hk=>(ho3.lt hk).1,?_⟩ ?_
   ·exact wrS hi1 (by omega)
   ·rw [List.take_add_one,hg,List.map_append];exact o4
   ·show fl.length - (IntKind.wrap .i64 ((i:Int)+1)).toNat<fl.length - ((i:Nat):Int).toNat
    rw [wrS hi1 (by omega)]
    omega
  ·have hfull:fl.take i=fl:=List.take_of_length_le (by omega)
   rw [hfull] at ho
   exact hk hh l he ho
abbrev bkL (bb:Nat) (g:Int):List Value:=[.pointer (some ⟨bb,0,none⟩),iv g]
theorem Zmp {h:Zd} {eb st tb fm base:Nat} {r W:R5} {sh bk hs:Sl} {g fl nx la:Int} (hc:obj h eb=some (Ztv st tb fm r sh bk hs g fl nx la)) (hr:X2 h base r [] [Zn3])
    (w1:W.1.len=0) (w2:W.2.1.len=0) (w3:W.2.2.1.len=0) {K:(Sl × Sl × Sl × Int × Unit)→Zd→Prop}
    (hk:∀ h' t bb wb mb,Ext h h'→Own h' (sz h) t 2 (bkL bb (IntKind.wrap .i64 (g+1)))→obj h' bb=some (ZkO wb ⟨1,0,0,0⟩)→Zhs Wid.brk h' wb mb ⟨0,fun _=>z6⟩→sz h≤bb→sz h≤wb→sz h≤mb→(∀ b,t.blk=some b→b≠bb∧b≠wb∧b≠mb)→K (nl,t,nl,IntKind.wrap .i64 (g+1),()) h') :
    YS (some ⟨eb,0,none⟩) W K h:=by
  unfold YS Zap
  obtain ⟨n3,n4,n5⟩:=hr.lens
  have n1:=hr.len1
  have n2:=hr.len2
  refine Yg fun h1 c1 e1 z1=>Yg fun h2 c2 e2 z2=>Zj ?_
  have y2:=Zl hc (e1.trans e2)
  refine rL (s:=sh) (Zb y2 rfl) (rL (s:=bk) (Zb y2 rfl) (rL (s:=hs) (Zb y2 rfl) (rI (Zb y2 rfl) (Yg fun h3 c3 e3 z3=>ZaE c3 fun h4 c4 u4 z4=>rI (Zb c4 rfl) ?_))))
  have e4:Ext h h4:=((e1.trans e2).trans e3).then u4 fun k hk=>by subst hk;exact (e1.trans e2).size
  have e14:Ext h1 h4:=(e2.trans e3).then u4 fun k hk=>by subst hk;exact e2.size
  have e24:Ext h2 h4:=e3.then u4 fun k hk=>by subst hk;exact Nat.le_refl _
  refine Yg fun h5 c5 e5 z5=>ZaE c5 fun h6 c6 u6 z6=>Zj ?_
  have e46:Ext h4 h6:=e5.then u6 fun k hk=>by subst hk;exact Nat.le_refl _
  have y6:=Zl hc (e4.trans e46)
  have k6:=Zl c1 (e14.trans e46)
  have s6:sz h6=sz h4+1:=by have:h5.size=h4.size+1:=z5;simp only [YV] at this;omega
  refine rL (s:=r.1) (Zb y6 rfl) (rL (s:=W.1) (Zb k6 rfl) (Zjv w1 (hr.ext (e4.trans e46)).f.row (by decide) fun h7 kt e7 ok=>?_))
  have hkl:kt.len=0:=by have:=ok.len;simp at this;omega
  have c7:=Zl c6 e7
  have e47:=e46.trans e7
  have y7:=Zl hc (e4.trans e47)
  have k7:=Zl c1 (e14.trans e47)
  refine YX (fun p hx=>p=(0,())∧hx=h7) (fun _ _=>0) ⟨rfl,rfl⟩ ?_
  rintro _ hx ⟨rfl,hx9⟩ Q1 _
  subst hx9
  dsimp only
  rw [hkl]
  refine Zi rfl (Zj (rL (s:=r.2.1) (Zb y7 rfl) (rL (s:=W.2.1) (Zb k7 rfl) (Znv w2 (hr.ext (e4.trans e47)).b.row (by decide) fun h8 kt2 e8 ok2=>?_))))
  have hkl2:kt2.len=1:=by have:=ok2.len;simp at this;omega
  have e48:=e47.trans e8
  have c8:=Zl c7 e8
  have y8:=Zl hc (e4.trans e48)
  refine YX (fun p hh=>Ext h4 hh∧((p=(0,())∧hh=h8)∨(p.1=1∧∃ t bb wb mb,obj hh (sz h4)=some (.cells [slV nl,slV t,slV nl,iv (IntKind.wrap .i64 (g+1))].toArray 78 (0,0))∧Own hh (sz h6) t 2 (bkL bb (IntKind.wrap .i64 (g+1)))∧obj hh bb=some (ZkO wb ⟨1,0,0,0⟩)∧Zhs Wid.brk hh wb mb ⟨0,fun _=>Go.Proofs.YthbfgkphlmlihaaGreat.z6⟩∧sz h6≤bb∧sz h6≤wb∧sz h6≤mb∧∀ b,t.blk=some b→b≠bb∧b≠wb∧b≠mb)))
    (fun p _=>(1 - p.1).toNat) ⟨e48,.inl ⟨rfl,rfl⟩⟩ ?_
  rintro ⟨i,u⟩ hh ⟨he,⟨hp,hh9⟩ | ⟨hp,t,bb,wb,mb,hcs,ho,hbb,hwin,q1,q2,q3,q4⟩⟩ Q hQ
  ·injection hp with hp _
   subst hp
   subst hh9
   dsimp only
   rw [hkl2]
   have hix:∀ {K:Nat→Nat→Prop},(∀ b o,Zd.cell hh b o=some (iv (-1))→K b o)→Xy kt2.ptr 1 0 1 K:=fun {K} hk=>by
     have:=ok2.row.idx (i:=0) (n:=0) (v:=iv (-1)) rfl rfl (K:=K) fun b o _ hc=>hk b (o+0) hc
     rwa [hkl2] at this
   have rr:=hr.ext (e4.trans e48)
   obtain ⟨b,o,hb9,hlt,hidx,hcc⟩:=Zdj (α:=B7) (g:=b7L) (n:=7) (fun _=>rfl) rr.b.row (i:=0) (a:=Zn3) rfl (by decide)
   refine Zt rfl (hix fun b9 o9 hc9=>⟨-1,hc9,Za (Za (Zi rfl (Zj (rL (s:=r.2.1) (Zb y8 rfl) (hidx rfl (rS (hcc 0 _ rfl) (rI (hcc 1 _ rfl) (rI (hcc 2 _ rfl) (rI (hcc 3 _ rfl) (rI (hcc 4 _ rfl) (rI (hcc 5 _ rfl) (rI (hcc 6 _ rfl) ?_))))))))))))⟩)
   refine Zqx fun h9 bb wb mb hbb hwin e9 b1 b2 b3=>Za (rI (Zb (Zl c8 e9) rfl) (ZdD (Zl c8 e9) (show 0+3<4 by decide) rfl fun h10 c10 u10 z10=>?_))
   have w8:sz h6≤sz hh:=(e7.trans e8).size
   have w9:sz hh≤sz h9:=e9.size
   have w10:sz h10=sz h9:=z10
   refine rL (s:=nl) (Zb c10 rfl) (rI (Zb c10 rfl) (Yg fun h11 c11 e11 z11=>(ZiR c11 rfl).rd ?_))
   have w11:sz h11=sz h10+1:=z11
   refine (Own.nil h11 (sz h11) 2).app (n:=1) rfl rfl rfl (by decide) (by decide) (Nat.le_refl _) fun s12 h12 o12 _ u12 _=>?_
   have e1112:Ext h11 h12:=u12.ext fun k _ hk=>by cases hk
   have e1012:=e11.trans e1112
   refine ZdD (Zl c10 e1012) (show 0+1<4 by decide) rfl fun h13 c13 u13 z13=>?_
   have lb9:=Zr hbb
   have lw9:=Zr hwin.cells
   have lm9:=hwin.mlt
   have k13:∀ {j:Nat},sz hh≤j→j<sz h9→obj h13 j=obj h9 j:=fun {j} hj hl =>
     (u13.old j (show j<sz h12 by have:sz h10≤sz h12:=e1012.size;omega) (show ¬ j=sz h4 by omega)).trans ((e1012.old j (show j<sz h10 by omega)).trans (u10.old j hl (show ¬ j=sz h4 by omega)))
   have E13:Ext h4 h13:=(((he.trans e9).then u10 fun k hk=>by subst hk;exact Nat.le_refl _).trans e1012).then u13 fun k hk=>by subst hk;exact Nat.le_refl _
   refine hQ _ _ ⟨E13,.inr ⟨by decide,s12,bb,wb,mb,c13,?_,(k13 b1 lb9).trans hbb,hwin.congr (k13 b2 lw9) (k13 b3 lm9),by omega,by omega,by omega,fun b hb=>?_⟩⟩ (show (1 - IntKind.wrap .i64 (0+1)).toNat<(1 - (0:Int)).toNat by decide)
   ·exact (Zdl o12 u13 (show sz h4<sz h11 by omega)).base (by omega)
   ·have:sz h11≤b:=(o12.lt hb).1
    omega
  ·dsimp only at hp ⊢
   subst hp
   rw [hkl2]
   have yh:=Zl hc (e4.trans he)
   refine Zi rfl (Zj (rL (s:=r.2.2.1) (Zb yh rfl) (rL (s:=W.2.2.1) (Zb (Zl c1 (e14.trans he)) rfl) (Zli w3 n3 fun h9 e9=>?_))))
   refine YX (fun p hy=>p=(0,())∧hy=h9) (fun _ _=>0) ⟨rfl,rfl⟩ ?_
   rintro _ hy ⟨rfl,hy9⟩ Q3 _
   subst hy9
   dsimp only
   have x9:=Zl hcs e9
   have e49:=he.trans e9
   refine Zi rfl (rL (s:=nl) (Zb x9 rfl) (rL (s:=t) (Zb x9 rfl) (rL (s:=nl) (Zb x9 rfl) (rI (Zb x9 rfl) (ZaE (Zl c2 (e24.trans e49)) fun h10 c10 u10 z10=>?_)))))
   have w1:sz h1<sz h4:=Zr (Zl c2 e24)
   have w6:sz h≤sz h6:=(e4.trans e46).size
   have n10:∀ {j:Nat} {x:Obj},sz h6≤j→obj hh j=some x→obj h10 j=some x:=fun {j x} hj hx=>(u10.old j (Zr (Zl hx e9)) (show ¬ j=sz h1 by omega)).trans (Zl hx e9)
   refine rL (s:=nl) (Zb c10 rfl) (rL (s:=t) (Zb c10 rfl) (rL (s:=nl) (Zb c10 rfl) (rI (Zb c10 rfl) (hk h10 t bb wb mb ?_ ?_ (n10 q1 hbb) ?_ (by omega) (by omega) (by omega) q4))))
   ·exact (e4.trans e49).then u10 fun k hk=>by subst hk;exact e1.size
   ·exact (Zdl (Zcs ho e9) u10 (by show sz h1<sz h6;omega)).base w6
   ·exact hwin.congr ((u10.old wb (Zr (Zl hwin.cells e9)) (show ¬ wb=sz h1 by omega)).trans (Z6 e9 (Zr hwin.cells))) ((u10.old mb (Nat.lt_of_lt_of_le hwin.mlt e9.size) (show ¬ mb=sz h1 by omega)).trans (Z6 e9 hwin.mlt))
structure ZEZ (eb fm bb wb mb:Nat) (r:R5) (bk:Sl) (O:Nat→Prop):Prop where
  o:∀ j,j=eb∨j=fm∨j=bb∨j=wb∨j=mb→¬ O j
  e:eb≠fm∧eb≠bb∧eb≠wb∧eb≠mb
  f:fm≠bb∧fm≠wb∧fm≠mb
  b:bb≠wb∧bb≠mb
  r:∀ b,r.2.1.blk=some b∨bk.blk=some b→¬ O b∧b≠eb∧b≠fm∧b≠bb∧b≠wb∧b≠mb
structure Zdo (h:Zd) (eb st tb fm bb wb mb:Nat) (r:R5) (bk:Sl) (g:Int) (O:Nat→Prop) (E:Eng) (B:Brk):Prop where
  cells:obj h eb=some (Ztv st tb fm r nl bk nl g E.fl E.nx E.la)
  l1:r.1.len=0
  rules:Row h r.2.1 7 (b7L Zn3)
  l3:r.2.2.1.len=0
  l4:r.2.2.2.1.len=0
  l5:r.2.2.2.2.1.len=0
  bks:Row h bk 2 (bkL bb g)
  tree:XM h tb O E.t
  map:Zet h fm E.f E.n
  brk:obj h bb=some (ZkO wb B)
  win:B.st=1→Zhs Wid.brk h wb mb ⟨0,fun _=>z6⟩
  hO:∀ j,O j→j<sz h
  sep:ZEZ eb fm bb wb mb r bk O
  lr:∀ b,r.2.1.blk=some b∨bk.blk=some b→b<sz h
  lw:wb<sz h∧mb<sz h
section
variable {h h':Zd} {eb st tb fm bb wb mb:Nat} {r:R5} {bk:Sl} {g:Int} {O:Nat→Prop} {E:Eng} {B:Brk}
theorem Zdo.ext (hE:Zdo h eb st tb fm bb wb mb r bk g O E B) (e:Ext h h'):Zdo h' eb st tb fm bb wb mb r bk g O E B :=
  ⟨Zl hE.cells e,hE.l1,hE.rules.ext e,hE.l3,hE.l4,hE.l5,hE.bks.ext e,hE.tree.ext e,hE.map.congr (Z6 e hE.map.lt),Zl hE.brk e,fun q=>(hE.win q).congr (Z6 e (Zr (hE.win q).cells)) (Z6 e (hE.win q).mlt),
    fun j hj=>Nat.lt_of_lt_of_le (hE.hO j hj) e.size,hE.sep,fun b hb=>Nat.lt_of_lt_of_le (hE.lr b hb) e.size,⟨Nat.lt_of_lt_of_le hE.lw.1 e.size,Nat.lt_of_lt_of_le hE.lw.2 e.size⟩⟩
theorem Zdo.tree' {O':Nat→Prop} {t':Tree} (hE:Zdo h eb st tb fm bb wb mb r bk g O E B) (ht:XM h' tb O' t') (u:Upd O h h') (gr:Zhy O O' h h'):Zdo h' eb st tb fm bb wb mb r bk g O' { E with t:=t' } B:=by
  have w:sz h≤sz h':=u.size
  have nO:∀ j,j<sz h→¬ O j→¬ O' j:=fun j hj hn h9=>by
    rcases gr.1 j h9 with g | g
    ·exact hn g
    ·omega
  have leb:=Zr hE.cells
  have lfm:fm<sz h:=hE.map.lt
  have lbb:=Zr hE.brk
  have so:=hE.sep.o
  have keep:∀ b,b<sz h→¬ O b→obj h' b=obj h b:=fun b hb hn=>u.old b hb hn
  refine ⟨(keep eb leb (so eb (.inl rfl))).trans hE.cells,hE.l1,Zas hE.rules fun b hb hl=>keep b hl (hE.sep.r b (.inl hb)).1,hE.l3,hE.l4,hE.l5,Zas hE.bks fun b hb hl=>keep b hl (hE.sep.r b (.inr hb)).1,ht,hE.map.congr (keep fm lfm (so fm (.inr (.inl rfl)))),
    (keep bb lbb (so bb (.inr (.inr (.inl rfl))))).trans hE.brk,fun q=>(hE.win q).congr (keep wb hE.lw.1 (so wb (.inr (.inr (.inr (.inl rfl)))))) (keep mb hE.lw.2 (so mb (.inr (.inr (.inr (.inr rfl)))))),fun j hj=>?_,
    ⟨fun j hj=>nO j ?_ (so j hj),hE.sep.e,hE.sep.f,hE.sep.b,fun b hb=>⟨nO b (hE.lr b hb) (hE.sep.r b hb).1,(hE.sep.r b hb).2⟩⟩,fun b hb=>Nat.lt_of_lt_of_le (hE.lr b hb) w,⟨Nat.lt_of_lt_of_le hE.lw.1 w,Nat.lt_of_lt_of_le hE.lw.2 w⟩⟩
  ·rcases gr.1 j hj with g | g
   ·have:=hE.hO j g;omega
   ·exact g.2
  ·have l:=hE.lw
   rcases hj with q | q | q | q | q<;>omega
theorem Zdo.set (hE:Zdo h eb st tb fm bb wb mb r bk g O E B) {fl nx la:Int} (hc:obj h' eb=some (Ztv st tb fm r nl bk nl g fl nx la)) (u:Upd (· = eb) h h'):Zdo h' eb st tb fm bb wb mb r bk g O { E with fl:=fl,nx:=nx,la:=la } B:=by
  have w:sz h≤sz h':=u.size
  obtain ⟨se1,se2,se3,se4⟩:=hE.sep.e
  refine ⟨hc,hE.l1,Zas hE.rules fun b hb hl=>u.old b hl (hE.sep.r b (.inl hb)).2.1,hE.l3,hE.l4,hE.l5,Zas hE.bks fun b hb hl=>u.old b hl (hE.sep.r b (.inr hb)).2.1,hE.tree.congr fun j hj hl=>u.old j hl fun e=>hE.sep.o eb (.inl rfl) (e▸hj),hE.map.congr (u.old fm hE.map.lt (Ne.symm se1)),
    (u.old bb (Zr hE.brk) (Ne.symm se2)).trans hE.brk,fun q=>(hE.win q).congr (u.old wb hE.lw.1 (Ne.symm se3)) (u.old mb hE.lw.2 (Ne.symm se4)),fun j hj=>Nat.lt_of_lt_of_le (hE.hO j hj) w,hE.sep,fun b hb=>Nat.lt_of_lt_of_le (hE.lr b hb) w,⟨Nat.lt_of_lt_of_le hE.lw.1 w,Nat.lt_of_lt_of_le hE.lw.2 w⟩⟩
theorem Zdo.mapped (hE:Zdo h eb st tb fm bb wb mb r bk g O E B) {f:Int→Option Value} {n:Nat} (hm:Zet h' fm f n) (u:Upd (· = fm) h h'):Zdo h' eb st tb fm bb wb mb r bk g O { E with f:=f,n:=n } B:=by
  have w:sz h≤sz h':=u.size
  obtain ⟨sf1,sf2,sf3⟩:=hE.sep.f
  refine ⟨(u.old eb (Zr hE.cells) hE.sep.e.1).trans hE.cells,hE.l1,Zas hE.rules fun b hb hl=>u.old b hl (hE.sep.r b (.inl hb)).2.2.1,hE.l3,hE.l4,hE.l5,Zas hE.bks fun b hb hl=>u.old b hl (hE.sep.r b (.inr hb)).2.2.1,hE.tree.congr fun j hj hl=>u.old j hl fun e=>hE.sep.o fm (.inr (.inl rfl)) (e▸hj),hm,
    (u.old bb (Zr hE.brk) (Ne.symm sf1)).trans hE.brk,fun q=>(hE.win q).congr (u.old wb hE.lw.1 (Ne.symm sf2)) (u.old mb hE.lw.2 (Ne.symm sf3)),fun j hj=>Nat.lt_of_lt_of_le (hE.hO j hj) w,hE.sep,fun b hb=>Nat.lt_of_lt_of_le (hE.lr b hb) w,⟨Nat.lt_of_lt_of_le hE.lw.1 w,Nat.lt_of_lt_of_le hE.lw.2 w⟩⟩
theorem Zdo.broke (hE:Zdo h eb st tb fm bb wb mb r bk g O E B) {B':Brk} (hb:obj h' bb=some (ZkO wb B')) (u:Upd (fun j=>j=bb∨j=wb∨j=mb) h h') (hw:B'.st=1→Zhs Wid.brk h' wb mb ⟨0,fun _=>z6⟩):Zdo h' eb st tb fm bb wb mb r bk g O E B':=by
  have w:sz h≤sz h':=u.size
  obtain ⟨se1,se2,se3,se4⟩:=hE.sep.e
  obtain ⟨sf1,sf2,sf3⟩:=hE.sep.f
  have nn:∀ {b:Nat},b≠bb→b≠wb→b≠mb→¬ (b=bb∨b=wb∨b=mb):=fun {b} h1 h2 h3 h9=>h9.elim h1 fun h9=>h9.elim h2 h3
  have nr:∀ b,r.2.1.blk=some b∨bk.blk=some b→¬ (b=bb∨b=wb∨b=mb):=fun b hb=>by obtain ⟨_,_,_,a1,a2,a3⟩:=hE.sep.r b hb;exact nn a1 a2 a3
  refine ⟨(u.old eb (Zr hE.cells) (nn se2 se3 se4)).trans hE.cells,hE.l1,Zas hE.rules fun b hb hl=>u.old b hl (nr b (.inl hb)),hE.l3,hE.l4,hE.l5,Zas hE.bks fun b hb hl=>u.old b hl (nr b (.inr hb)),
    hE.tree.congr fun j hj hl=>u.old j hl fun e=>hE.sep.o j (by rcases e with e | e | e;exact .inr (.inr (.inl e));exact .inr (.inr (.inr (.inl e)));exact .inr (.inr (.inr (.inr e)))) hj,hE.map.congr (u.old fm hE.map.lt (nn sf1 sf2 sf3)),
    hb,hw,fun j hj=>Nat.lt_of_lt_of_le (hE.hO j hj) w,hE.sep,fun b hb=>Nat.lt_of_lt_of_le (hE.lr b hb) w,⟨Nat.lt_of_lt_of_le hE.lw.1 w,Nat.lt_of_lt_of_le hE.lw.2 w⟩⟩
theorem Zdo.brokeW (hE:Zdo h eb st tb fm bb wb mb r bk g O E B) {B':Brk} {x:Nat} (hb:obj h' bb=some (ZkO wb B')) (u:Upd (fun j=>j=bb∨j=x) h h') (hO:¬ O x)
    (hst:B'.st=1→B.st=1) (hl:∀ b,b=eb∨b=fm∨b=bb∨b=wb∨b=mb∨r.2.1.blk=some b∨bk.blk=some b→b≠x):Zdo h' eb st tb fm bb wb mb r bk g O E B':=by
  have w:sz h≤sz h':=u.size
  obtain ⟨se1,se2,se3,se4⟩:=hE.sep.e
  obtain ⟨sf1,sf2,sf3⟩:=hE.sep.f
  obtain ⟨sb1,sb2⟩:=hE.sep.b
  have nn:∀ {b:Nat},b≠bb→b≠x→¬ (b=bb∨b=x):=fun {b} h1 h2 h9=>h9.elim h1 h2
  have x1:=hl eb (.inl rfl)
  have x2:=hl fm (.inr (.inl rfl))
  have x4:=hl wb (.inr (.inr (.inr (.inl rfl))))
  have x5:=hl mb (.inr (.inr (.inr (.inr (.inl rfl)))))
  have nr:∀ b,r.2.1.blk=some b∨bk.blk=some b→¬ (b=bb∨b=x):=fun b hb=>by
    obtain ⟨_,_,_,a1,_,_⟩:=hE.sep.r b hb
    refine nn a1 (hl b ?_)
    rcases hb with q | q
    ·exact .inr (.inr (.inr (.inr (.inr (.inl q)))))
    ·exact .inr (.inr (.inr (.inr (.inr (.inr q)))))
  refine ⟨(u.old eb (Zr hE.cells) (nn se2 x1)).trans hE.cells,hE.l1,Zas hE.rules fun b hb hl=>u.old b hl (nr b (.inl hb)),hE.l3,hE.l4,hE.l5,Zas hE.bks fun b hb hl=>u.old b hl (nr b (.inr hb)),
    hE.tree.congr fun j hj hl=>u.old j hl fun e=>?_,hE.map.congr (u.old fm hE.map.lt (nn sf1 x2)),
    hb,fun q=>(hE.win (hst q)).congr (u.old wb hE.lw.1 (nn (Ne.symm sb1) x4)) (u.old mb hE.lw.2 (nn (Ne.symm sb2) x5)),fun j hj=>Nat.lt_of_lt_of_le (hE.hO j hj) w,hE.sep,fun b hb=>Nat.lt_of_lt_of_le (hE.lr b hb) w,⟨Nat.lt_of_lt_of_le hE.lw.1 w,Nat.lt_of_lt_of_le hE.lw.2 w⟩⟩
  rcases e with e | e
  ·exact hE.sep.o j (.inr (.inr (.inl e))) hj
  ·exact hO (e▸hj)
theorem Zdo.frame (hE:Zdo h eb st tb fm bb wb mb r bk g O E B) {x base:Nat} (u:Upd (· = x) h h') (hx:base≤x) (hO:¬ O x) (hbase:∀ b,b=eb∨b=fm∨b=bb∨b=wb∨b=mb∨r.2.1.blk=some b∨bk.blk=some b→b<base):Zdo h' eb st tb fm bb wb mb r bk g O E B:=by
  have w:sz h≤sz h':=u.size
  have nn:∀ b,b=eb∨b=fm∨b=bb∨b=wb∨b=mb∨r.2.1.blk=some b∨bk.blk=some b→¬ b=x:=fun b hb=>by have:=hbase b hb;omega
  have x1:=nn eb (.inl rfl)
  have x2:=nn fm (.inr (.inl rfl))
  have x3:=nn bb (.inr (.inr (.inl rfl)))
  have x4:=nn wb (.inr (.inr (.inr (.inl rfl))))
  have x5:=nn mb (.inr (.inr (.inr (.inr (.inl rfl)))))
  refine ⟨(u.old eb (Zr hE.cells) x1).trans hE.cells,hE.l1,Zas hE.rules fun b hb hl=>u.old b hl (nn b (.inr (.inr (.inr (.inr (.inr (.inl hb))))))),hE.l3,hE.l4,hE.l5,Zas hE.bks fun b hb hl=>u.old b hl (nn b (.inr (.inr (.inr (.inr (.inr (.inr hb))))))),
    hE.tree.congr fun j hj hl=>u.old j hl fun e=>hO (e▸hj),hE.map.congr (u.old fm hE.map.lt x2),(u.old bb (Zr hE.brk) x3).trans hE.brk,fun q=>(hE.win q).congr (u.old wb hE.lw.1 x4) (u.old mb hE.lw.2 x5),
    fun j hj=>Nat.lt_of_lt_of_le (hE.hO j hj) w,hE.sep,fun b hb=>Nat.lt_of_lt_of_le (hE.lr b hb) w,⟨Nat.lt_of_lt_of_le hE.lw.1 w,Nat.lt_of_lt_of_le hE.lw.2 w⟩⟩
end
theorem ZnZ {h:Zd} {eb q base:Nat} {r:R5} (hE:ZlH h eb q) (hr:X2 h base r [] [Zn3])
    {K:Int→Zd→Prop} (hk:∀ h' r' bk bb wb mb,Zdo h' eb q (q+2) (q+3) bb wb mb r' bk 1 (fun j=>j=q+1∨j=q+2) ⟨[],Tree.zero,0,1,0,fun _=>none,0⟩ ⟨1,0,0,0⟩→Upd (fun j=>q≤j∧j≤q+4) h h'→sz h≤bb→sz h≤wb→sz h≤mb→K 0 h'):YC (some ⟨eb,0,none⟩) r K h:=by
  unfold YC ZaL
  obtain ⟨he,hc,hs,ht,hm⟩:=hE
  subst he
  have leb:q+4<sz h:=Zr hc
  refine Yg fun h1 c1 e1 z1=>Za (Zi rfl (Zj (rP (Zb (Zl hc e1) rfl) ?_)))
  refine rL (s:=r.1) (Zb c1 rfl) (rL (s:=r.2.1) (Zb c1 rfl) (rL (s:=r.2.2.1) (Zb c1 rfl) (rL (s:=r.2.2.2.1) (Zb c1 rfl) (rL (s:=r.2.2.2.2.1) (Zb c1 rfl) ?_))))
  refine ZjV (Zl hs e1) (hr.ext e1) (by decide) (by decide) (fun f hf=>by cases hf) (fun f hf=>?_) fun h2 rs g2 s2 rr2 u2=>Za (Zi rfl (Zj ?_))
  ·have:f=Zn3:=by simpa using hf
   subst this
   intro h9 K9 hk9
   exact Zj0 hk9
  have k2:∀ j,j≤q+4→j≠q→obj h2 j=obj h j:=fun j hj hn=>(u2.old j (show j<sz h1 by have:sz h≤sz h1:=e1.size;omega) hn).trans (e1.old j (show j<sz h by omega))
  have y2:obj h2 (q+4)=_:=(k2 _ (Nat.le_refl _) (by omega)).trans hc
  have w2:sz h1≤sz h2:=u2.size
  have w1:sz h≤sz h1:=e1.size
  refine rL (s:=nl) (Zb y2 rfl) (rL (s:=nl) (Zb y2 rfl) (rL (s:=nl) (Zb y2 rfl) (rL (s:=nl) (Zb y2 rfl) (rL (s:=nl) (Zb y2 rfl) (Yg fun h3 c3 e3 z3=>ZaE c3 fun h4 c4 u4 z4=>Zj ?_)))))
  have e24:Ext h2 h4:=e3.then u4 fun k hk=>by subst hk;exact Nat.le_refl _
  have y4:=Zl y2 e24
  refine rP (Zb y4 rfl) (ZlE (Zl s2 e24) (rr2.ext e24) (by decide) (by decide) fun h5 r5 rr5 e5=>Zj ?_)
  have y5:=Zl y4 e5
  have w4:sz h2≤sz h4:=e24.size
  have w5:sz h4≤sz h5:=e5.size
  refine Zvm y5 (ZvT q (q+2) (q+3) r5 nl nl nl 0 0 1 0) fun h6 y6 u6 z6=>Zj ?_
  have c5:obj h6 (sz h2)=_:=(u6.old (sz h2) (Zr (Zl c4 e5)) (by show ¬ sz h2=q+4;omega)).trans (Zl c4 e5)
  have nb:q+4<sz h4:=by omega
  have rr6:X2 h6 (sz h4) r5 [] [Zn3]:=⟨Zdl rr5.f u6 nb,Zdl rr5.b u6 nb,Zdl rr5.h3 u6 nb,Zdl rr5.s4 u6 nb,Zdl rr5.a5 u6 nb⟩
  refine rL (s:=nl) (Zb c5 rfl) (rL (s:=nl) (Zb c5 rfl) (rL (s:=nl) (Zb c5 rfl) (rL (s:=nl) (Zb c5 rfl) (rL (s:=nl) (Zb c5 rfl) ?_))))
  refine Zmp (W:=r0) y6 rr6 rfl rfl rfl fun h7 bk bb wb mb e7 obk hbb hwin b1 b2 b3 b4=>Zj ?_
  have w6:sz h6=sz h5:=z6
  have y7:=Zl y6 e7
  have hg:IntKind.wrap .i64 ((0:Int)+1)=1:=by decide
  rw [hg] at obk ⊢
  refine Zvm y7 (ZvT q (q+2) (q+3) r5 nl bk nl 1 0 1 0) fun h8 y8 u8 z8=>Za ?_
  have w7:sz h6≤sz h7:=e7.size
  have k8:∀ j,j<q+4→j≠q→obj h8 j=obj h j:=fun j hj hn =>
    (u8.old j (show j<sz h7 by omega) (by omega)).trans ((e7.old j (show j<sz h6 by omega)).trans ((u6.old j (show j<sz h5 by omega) (by omega)).trans (((e24.trans e5).old j (show j<sz h2 by omega)).trans (k2 j (by omega) hn))))
  obtain ⟨n3,n4,n5⟩:=rr6.lens
  have n1:=rr6.len1
  have r8:=Zdl (Zcs rr6.b e7) u8 nb
  have o8:=Zdl obk u8 (show q+4<sz h6 by omega)
  have nb8:∀ {j:Nat},sz h6≤j→¬ j=q+4:=fun {j} hj=>by omega
  refine hk h8 r5 bk bb wb mb ⟨y8,n1,by simpa using r8.row,n3,n4,n5,o8.row,?_,hm.congr (k8 _ (by omega) (by omega)),(u8.old bb (Zr hbb) (nb8 b1)).trans hbb,fun _=>hwin.congr (u8.old wb (Zr hwin.cells) (nb8 b2)) (u8.old mb hwin.mlt (nb8 b3)),fun j hj=>?_,⟨fun j hj h9=>?_,?_,?_,?_,fun b hb=>?_⟩,fun b hb=>?_,?_⟩ ?_ (by omega) (by omega) (by omega)
  ·exact ht.congr fun j hj _=>k8 j (by omega) (by omega)
  ·have:sz h≤sz h8:=by omega
   omega
  ·omega
  ·omega
  ·omega
  ·constructor
   ·intro e
    have q1:=hwin.cells
    rw [← e,hbb] at q1
    simp [b7L] at q1
   ·intro e
    obtain ⟨f,n,⟨es,c,hq,_⟩,_⟩:=hwin.map
    have q1:obj h7 mb=_:=hq
    rw [← e,hbb] at q1
    cases q1
  ·rcases hb with hb | hb
   ·have h1:sz h4≤b∧b<sz h8:=r8.lt hb
    have h2:b<sz h6:=rr6.b.blk_lt hb
    omega
   ·have h1:sz h6≤b∧b<sz h8:=o8.lt hb
    have h2:=b4 b hb
    omega
  ·rcases hb with hb | hb
   ·exact (r8.lt hb).2
   ·exact (o8.lt hb).2
  ·have:=Zr hwin.cells
   have:=hwin.mlt
   have w8:sz h8=sz h7:=z8
   omega
  ·refine ((e1.upd _).trans (u2.mono fun j _ hj=>by omega)).trans (((e24.trans e5).upd _).trans ((u6.mono fun j _ hj=>by omega).trans ((e7.upd _).trans (u8.mono fun j _ hj=>by omega))))
theorem Zmt {h:Zd} {eb st tb fm:Nat} {r:R5} {bq:Sl} {bb wn mb:Nat} {B0:Brk} {g:Int} {O:Nat→Prop} {E:Eng} (hE:Zdo h eb st tb fm bb wn mb r bq g O E B0) {kind:Int} (hkd:kind=3∨kind=4∨kind=5) {res:ByteArray} {K:Sl→Zd→Prop} (hk:∀ h',Ext h h'→K nl h'):Y7 r kind res K h:=by
  unfold Y7 Zeo
  refine Yg fun h1 c1 e1 z1=>Yg fun h2 c2 e2 z2=>Yg fun h3 c3 e3 z3=>?_
  have c1':=Zl c1 (e2.trans e3)
  have e03:Ext h h3:=(e1.trans e2).trans e3
  rcases hkd with hq | hq | hq
  ·subst hq
   refine Zc (Zi rfl (Zc (Zi rfl (Zc (Zt rfl (rL (s:=r.2.2.1) (Zb c1' rfl) (YX (fun p hh=>p=(0,())∧hh=h3) (fun _ _=>0) ⟨rfl,rfl⟩ ?_)))))))
   rintro _ hh ⟨rfl,hh9⟩ Q _
   subst hh9
   dsimp only
   rw [hE.l3]
   exact Zi rfl (rL (s:=nl) (Zb c3 rfl) (hk hh e03))
  ·subst hq
   refine Zc (Zi rfl (Zc (Zi rfl (Zc (Zi rfl (Zc (Zt rfl (rL (s:=r.2.2.2.1) (Zb c1' rfl) (YX (fun p hh=>p=(0,())∧hh=h3) (fun _ _=>0) ⟨rfl,rfl⟩ ?_)))))))))
   rintro _ hh ⟨rfl,hh9⟩ Q _
   subst hh9
   dsimp only
   rw [hE.l4]
   exact Zi rfl (rL (s:=nl) (Zb c3 rfl) (hk hh e03))
  ·subst hq
   refine Zc (Zi rfl (Zc (Zi rfl (Zc (Zi rfl (Zc (Zi rfl (Zc (Zt rfl (rL (s:=r.2.2.2.2.1) (Zb c1' rfl) (YX (fun p hh=>p=(0,())∧hh=h3) (fun _ _=>0) ⟨rfl,rfl⟩ ?_)))))))))))
   rintro _ hh ⟨rfl,hh9⟩ Q _
   subst hh9
   dsimp only
   rw [hE.l5]
   exact Zi rfl (rL (s:=nl) (Zb c3 rfl) (hk hh e03))
theorem Zlr {h:Zd} {wb eb st tb fm:Nat} {r:R5} {bq:Sl} {bb wn mb:Nat} {B0:Brk} {g:Int} {O:Nat→Prop} {E:Eng} {c:C8} {gr:Bool} {tk bk:Sl} {wt:Int} (hE:Zdo h eb st tb fm bb wn mb r bq g O E B0) (hw:obj h wb=some (ZbW eb c gr tk bk wt)) {B:Option Addr × Unit} {kind:Int} (hkd:kind=3∨kind=4∨kind=5) {K:Int→Bool→Zd→Prop} (hk:∀ h',Ext h h'→K 0 false h'):ZI (some ⟨wb,0,none⟩) kind B K h:=by
  unfold ZI Yp
  refine Za (Zj (Zj (rP (Zb hw rfl) (Zj (rL (s:=r.1) (Zb hE.cells rfl) (rL (s:=r.2.1) (Zb hE.cells rfl) (rL (s:=r.2.2.1) (Zb hE.cells rfl) (rL (s:=r.2.2.2.1) (Zb hE.cells rfl) (rL (s:=r.2.2.2.2.1) (Zb hE.cells rfl) (rS (Zb hw rfl) ?_))))))))))
  refine Zmt hE hkd fun h1 e1=>⟨YM (Zb (Zl hw e1) rfl),YX (fun p hh=>p=(0,())∧hh=h1) (fun _ _=>0) ⟨rfl,rfl⟩ ?_⟩
  rintro _ hh ⟨rfl,hh9⟩ Q _
  subst hh9
  exact Zi rfl (Za (hk hh e1))
theorem ZiX {h:Zd} {wb eb st tb fm:Nat} {r:R5} {bq:Sl} {bb wn mb:Nat} {B0:Brk} {g:Int} {O:Nat→Prop} {E:Eng} {c:C8} {gr:Bool} {tk bk:Sl} {wt:Int} (hE:Zdo h eb st tb fm bb wn mb r bq g O E B0) (hw:obj h wb=some (ZbW eb c gr tk bk wt)) {B:Option Addr × Option Addr × Unit} {kind:Int} (hkd:kind=3∨kind=4∨kind=5) {K:Int→Bool→Zd→Prop} (hk:∀ h',Ext h h'→K 0 false h'):ZG (some ⟨wb,0,none⟩) kind B K h:=by
  unfold ZG Yj
  refine Za (Zj (Zj (rP (Zb hw rfl) (Zj (rL (s:=r.1) (Zb hE.cells rfl) (rL (s:=r.2.1) (Zb hE.cells rfl) (rL (s:=r.2.2.1) (Zb hE.cells rfl) (rL (s:=r.2.2.2.1) (Zb hE.cells rfl) (rL (s:=r.2.2.2.2.1) (Zb hE.cells rfl) (rS (Zb hw rfl) ?_))))))))))
  refine Zmt hE hkd fun h1 e1=>⟨YM (Zb (Zl hw e1) rfl),YX (fun p hh=>p=(0,())∧hh=h1) (fun _ _=>0) ⟨rfl,rfl⟩ ?_⟩
  rintro _ hh ⟨rfl,hh9⟩ Q _
  subst hh9
  exact Zi rfl (Za (hk hh e1))
theorem Zmf {h:Zd} {wb eb st tb fm:Nat} {r:R5} {bq:Sl} {bb wn mb:Nat} {B0:Brk} {g:Int} {O:Nat→Prop} {E:Eng} {c:C8} {gr:Bool} {tk bk:Sl} {wt:Int} (hE:Zdo h eb st tb fm bb wn mb r bq g O E B0) (hw:obj h wb=some (ZbW eb c gr tk bk wt)) {B:Option Addr × Unit} {kind:Int} (hkd:kind=3∨kind=4∨kind=5) {K:Int→Bool→Zd→Prop} (hk:∀ h',Ext h h'→K 0 false h'):ZJ (some ⟨wb,0,none⟩) kind B K h:=by
  unfold ZJ Ys
  refine Za (Zj (Zj (rP (Zb hw rfl) (Zj (rL (s:=r.1) (Zb hE.cells rfl) (rL (s:=r.2.1) (Zb hE.cells rfl) (rL (s:=r.2.2.1) (Zb hE.cells rfl) (rL (s:=r.2.2.2.1) (Zb hE.cells rfl) (rL (s:=r.2.2.2.2.1) (Zb hE.cells rfl) (rS (Zb hw rfl) ?_))))))))))
  refine Zmt hE hkd fun h1 e1=>⟨YM (Zb (Zl hw e1) rfl),YX (fun p hh=>p=(0,())∧hh=h1) (fun _ _=>0) ⟨rfl,rfl⟩ ?_⟩
  rintro _ hh ⟨rfl,hh9⟩ Q _
  subst hh9
  exact Zi rfl (Za (hk hh e1))
theorem Zns {h:Zd} {wb eb st tb fm:Nat} {r:R5} {bq:Sl} {bb wn mb:Nat} {B0:Brk} {g:Int} {O:Nat→Prop} {E:Eng} {c:C8} {gr:Bool} {tk bk:Sl} {wt:Int} (hE:Zdo h eb st tb fm bb wn mb r bq g O E B0) (hw:obj h wb=some (ZbW eb c gr tk bk wt)) {K:Int→Bool→Zd→Prop} (hk:∀ h',Ext h h'→K 0 false h'):Xe (some ⟨wb,0,none⟩) K h:=by
  unfold Xe Zbh
  refine Yg fun h1 c1 e1 z1=>Za (rP (Zb c1 rfl) (Zlr (hE.ext e1) (Zl hw e1) (.inr (.inr rfl)) fun h2 e2=>Za (Zc (hk h2 (e1.trans e2)))))
theorem Zp5 {h:Zd} {wb eb st tb fm:Nat} {r:R5} {bq:Sl} {bb wn mb:Nat} {B0:Brk} {g:Int} {O:Nat→Prop} {E:Eng} {c:C8} {gr:Bool} {tk bk:Sl} {wt:Int} (hE:Zdo h eb st tb fm bb wn mb r bq g O E B0) (hw:obj h wb=some (ZbW eb c gr tk bk wt)) {K:Int→Bool→Zd→Prop} (hk:∀ h',Ext h h'→K 0 false h'):Xq (some ⟨wb,0,none⟩) K h:=by
  unfold Xq Zbx
  refine Yg fun h1 c1 e1 z1=>Za (rP (Zb c1 rfl) (Zmf (hE.ext e1) (Zl hw e1) (.inl rfl) fun h2 e2=>Za (Zc (hk h2 (e1.trans e2)))))
theorem Zk2 {h:Zd} {wb eb st tb fm:Nat} {r:R5} {bq:Sl} {bb wn mb:Nat} {B0:Brk} {g:Int} {O:Nat→Prop} {E:Eng} {c:C8} {gr:Bool} {tk bk:Sl} {wt:Int} (hE:Zdo h eb st tb fm bb wn mb r bq g O E B0) (hw:obj h wb=some (ZbW eb c gr tk bk wt)) {K:Int→Bool→Zd→Prop} (hk:∀ h',Ext h h'→K 0 false h'):YQ (some ⟨wb,0,none⟩) K h:=by
  unfold YQ Zan
  refine Yg fun h1 c1 e1 z1=>Za (rP (Zb c1 rfl) (Zj (rB (Zb (Zl hw e1) rfl) ⟨fun _=>Za (hk h1 e1),fun _=>?_⟩)))
  have w1:=Zl hw e1
  have y1:=(hE.ext e1).cells
  refine rP (Zb c1 rfl) (Zj (rP (Zb w1 rfl) (Zj (rP (Zb y1 rfl) (Zha (hE.ext e1).tree fun h2 p e2 f2=>?_)))))
  have K1:∀ {hh:Zd},Ext h1 hh→Z7 0 (obj hh (sz h))=some (.pointer (some ⟨wb,0,none⟩))∧Z7 1 (obj hh wb)=some (iv c.1)∧Z7 0 (obj hh wb)=some (.pointer (some ⟨eb,0,none⟩)):=fun {hh} e=>⟨Zb (Zl c1 e) rfl,Zb (Zl w1 e) rfl,Zb (Zl w1 e) rfl⟩
  obtain ⟨a2,b2,_⟩:=K1 e2
  refine rP a2 (Zj (rI b2 (ZfB f2 fun x3 h3 e3=>Yg fun h4 c4 e4 z4=>ZaE c4 fun h5 c5 u5 z5=>Za ?_)))
  have e25:Ext h2 h5:=(e3.trans e4).then u5 fun k hk=>by subst hk;exact e3.size
  obtain ⟨a5,b5,_⟩:=K1 (e2.trans e25)
  refine rP a5 (Zj (rI b5 (ZjY (f2.ext e25) fun v6 x6 h6 e6=>Za (Za ?_))))
  obtain ⟨a6,b6,_⟩:=K1 (e2.trans (e25.trans e6))
  refine rP a6 (Zj (rI b6 (ZjX (f2.ext (e25.trans e6)) fun v7 x7 h7 e7=>Za (Za ?_))))
  have e27:=(e25.trans e6).trans e7
  obtain ⟨a7,b7,_⟩:=K1 (e2.trans e27)
  refine rP a7 (Zj (rI b7 (ZiJ (f2.ext e27) fun v8 x8 h8 e8=>Za (Za ?_))))
  have e28:=e27.trans e8
  have e18:=e2.trans e28
  have c8:=Zl c5 ((e6.trans e7).trans e8)
  refine ZrP (fun _ hh=>Ext h8 hh) ?_ ?_
  ·rintro s h9 e9
   obtain ⟨a9,b9,_⟩:=K1 (e18.trans e9)
   refine rP a9 (ZiX (hE.ext (e1.trans (e18.trans e9))) (Zl hw (e1.trans (e18.trans e9))) (.inr (.inl rfl)) fun h10 e10=>Za (Zc (hk h10 (e1.trans (e18.trans (e9.trans e10))))))
  ·intro Q hQ
   obtain ⟨a8,b8,d8⟩:=K1 e18
   have y8:=(hE.ext (e1.trans e18)).cells
   have H:∀ hh,Ext h8 hh→Zo hh [(eb,0+14,iv 0)]∧Zo hh [(wb,0,.pointer (some ⟨eb,0,none⟩))]∧Zo hh [(sz h,0,.pointer (some ⟨wb,0,none⟩))]∧Zo hh [(eb,0+13,iv 0)]∧Zo hh [(sz h3,0,iv (Zh4 (E.t.f (1,em,em,em,())) c.1).1)]:=fun hh e=>by
     obtain ⟨a9,b9,d9⟩:=K1 (e18.trans e)
     have y9:=(hE.ext (e1.trans (e18.trans e))).cells
     exact ⟨YM (Zb y9 rfl),YM d9,YM a9,YM (Zb y9 rfl),YM (Zb (Zl c8 e) rfl)⟩
   refine rI (Zb c8 rfl) (rP a8 (Zj (rP d8 (Zj (rI (Zb y8 rfl) (rP a8 (Zj (rP d8 (Zj (rI (Zb y8 rfl) ⟨?_,?_⟩))))))))))
   ·obtain ⟨g1,g2,g3,g4,g5⟩:=H h8 (Ext.refl _)
    refine Zc3 (f2.ext e28) ⟨g1,g2,g3,g4,g2,g3,g5,Yg fun h9 c9 e9 z9=>?_⟩
    obtain ⟨g1,g2,g3,g4,g5⟩:=H h9 e9
    exact ⟨g1,g2,g3,g4,g2,g3,g5,ZaE c9 fun h10 c10 u10 z10=>hQ _ _ (e9.then u10 fun k hk=>by subst hk;exact Nat.le_refl _)⟩
   ·refine Yg fun h9 c9 e9 z9=>?_
    obtain ⟨g1,g2,g3,g4,g5⟩:=H h9 e9
    exact ⟨g1,g2,g3,g4,g2,g3,g5,Zc3 (f2.ext (e28.trans e9)) ⟨g1,g2,g3,g4,g2,g3,g5,ZaE c9 fun h10 c10 u10 z10=>hQ _ _ (e9.then u10 fun k hk=>by subst hk;exact Nat.le_refl _)⟩⟩
theorem Zro {h:Zd} {s:Sl} (hl:s.len=0) {c:C8} {K:Sl→Zd→Prop} (hk:∀ h',Ext h h'→K nl h'):ZaI s c K h:=by
  unfold ZaI Zdv
  refine Yg fun h1 c1 e1 z1=>Yg fun h2 c2 e2 z2=>?_
  have x2:=Zl c1 e2
  refine rI (Zb x2 rfl) (rS (Zb x2 rfl) (rS (Zb x2 rfl) (rS (Zb x2 rfl) (rB (Zb x2 rfl) (rI (Zb x2 rfl) (rL (s:=c.2.2.2.2.2.2.1) (Zb x2 rfl) ?_))))))
  unfold Zca Zdu
  refine Yg fun h3 c3 e3 z3=>Yg fun h4 c4 e4 z4=>ZhX fun r h5 d5 r5 e5 z5=>?_
  have w1:sz h1=sz h+1:=z1
  have w2:sz h2=sz h1+1:=z2
  have w3:sz h3=sz h2+1:=z3
  have w4:sz h4=sz h3+1:=z4
  have s5:=Zl c2 ((e3.trans e4).trans e5)
  have a5:=Zl c3 (e4.trans e5)
  have e05:Ext h h5:=(((e1.trans e2).trans e3).trans e4).trans e5
  unfold Zbp Zco
  refine Zj (rL (s:=s) (Zb a5 rfl) (YX (fun p hh=>p=(0,())∧hh=h5) (fun _ _=>0) ⟨rfl,rfl⟩ ?_))
  rintro _ hh ⟨rfl,hh9⟩ Q _
  subst hh9
  dsimp only
  rw [hl]
  refine Zi rfl ⟨.ready,none,by decide,r5,?_⟩
  rw [Zgs]
  refine Zeh r5 (K:=fun hx=>ldL hx (sz h1) 0 fun t46=>ZeY (sz h4) hx fun h47=>K t46 h47) fun h6 c6 u6 z6=>?_
  have s6:obj h6 (sz h1)=_:=(u6.old _ (Zr s5) (show ¬ sz h1=sz h4+1 by omega)).trans s5
  have d6:obj h6 (sz h4)=_:=(u6.old _ (Zr d5) (show ¬ sz h4=sz h4+1 by omega)).trans d5
  refine rL (s:=nl) (Zb s6 rfl) (Zi9 d6 fun h7 u7 z7=>hk h7 ?_)
  exact (e05.then u6 fun k hk=>by subst hk;show sz h≤sz h4+1;omega).then u7 fun k hk=>by subst hk;show sz h≤sz h4;omega
section
variable {h:Zd} {wb eb st tb fm:Nat} {r:R5} {bq:Sl} {bb wn mb:Nat} {B0:Brk} {g:Int} {O:Nat→Prop} {E:Eng} {c:C8} {gr:Bool} {tk bk:Sl} {wt:Int}
theorem ZnC (hE:Zdo h eb st tb fm bb wn mb r bq g O E B0) (hw:obj h wb=some (ZbW eb c gr tk bk wt)) {K:Int→Bool→Zd→Prop} (hk:∀ h',Ext h h'→K 0 false h'):Xf (some ⟨wb,0,none⟩) K h:=by
  unfold Xf Zbi
  refine Za (Zj (Zj (rP (Zb hw rfl) (Zj (rL (s:=r.1) (Zb hE.cells rfl) (rI (Zb hw rfl) (rS (Zb hw rfl) (rS (Zb hw rfl) (rS (Zb hw rfl) (rB (Zb hw rfl) (rI (Zb hw rfl) (rL (s:=c.2.2.2.2.2.2.1) (Zb hw rfl) ?_))))))))))))
  refine Zro hE.l1 (c:=c) fun h1 e1=>⟨YM (Zb (Zl hw e1) rfl),YX (fun p hh=>p=(0,())∧hh=h1) (fun _ _=>0) ⟨rfl,rfl⟩ ?_⟩
  rintro _ hh ⟨rfl,hh9⟩ Q _
  subst hh9
  exact Zi rfl (Za (hk hh e1))
def Zml (res:ByteArray):List Value:=if sA=res then [iv 0] else []
theorem ZrW (hE:Zdo h eb st tb fm bb wn mb r bq g O E B0) {res:ByteArray} {K:Sl→Zd→Prop} (hk:∀ h' t,Ext h h'→Own h' (sz h) t 1 (Zml res)→K t h'):Y7 r 2 res K h:=by
  unfold Y7 Zeo
  refine Yg fun h1 c1 e1 z1=>Yg fun h2 c2 e2 z2=>Yg fun h3 c3 e3 z3=>?_
  have c1':=Zl c1 (e2.trans e3)
  have e03:Ext h h3:=(e1.trans e2).trans e3
  have w1:sz h1=sz h+1:=z1
  have w2:sz h2=sz h1+1:=z2
  have w3:sz h3=sz h2+1:=z3
  have hl:r.2.1.len=1:=by have:=hE.rules.len;simp [b7L] at this;omega
  refine Zc (Zi rfl (Zc (Zt rfl (rL (s:=r.2.1) (Zb c1' rfl) (YX (fun p hh=>(p=(0,())∧hh=h3)∨(p.1=1∧Ext h hh∧∃ t,obj hh (sz h2)=some (.cells [slV t].toArray 85 (0,0))∧Own hh (sz h) t 1 (Zml res))) (fun p _=>(1 - p.1).toNat) (.inl ⟨rfl,rfl⟩) ?_)))))
  rintro ⟨i,u⟩ hh (⟨hp,hh9⟩ | ⟨hp,he,t,ct,ot⟩) Q hQ
  case inr =>
    dsimp only at hp ⊢
    subst hp
    rw [hl]
    exact Zi rfl (rL (s:=t) (Zb ct rfl) (hk hh t he ot))
  injection hp with hp _
  subst hp
  subst hh9
  dsimp only
  rw [hl]
  obtain ⟨b,o,hb,hlt,hidx,hc⟩:=Zdj (α:=B7) (g:=b7L) (n:=7) (fun _=>rfl) (l:=[Zn3]) (by simpa using hE.rules.ext e03) (i:=0) rfl (by decide)
  have hidx':∀ {K:Nat→Nat→Prop},K b o→Xy r.2.1.ptr 1 0 7 K:=fun {K} hk=>by have:=hidx (K:=K) (m:=0) rfl hk;rwa [hl] at this
  refine Zt rfl (hidx' (rS (hc 0 _ rfl) (rI (hc 1 _ rfl) (rI (hc 2 _ rfl) (rI (hc 3 _ rfl) (rI (hc 4 _ rfl) (rI (hc 5 _ rfl) (rI (hc 6 _ rfl) (Yg fun h4 c4 e4 z4=>Za (ZaE c4 fun h5 c5 u5 z5=>rS (Zb c5 rfl) ?_))))))))))
  have e5:Ext hh h5:=e4.then u5 fun k hk=>by subst hk;exact Nat.le_refl _
  unfold ZdV Zfp
  refine Zj (rS (Zb (Zl (Zl c2 e3) e5) rfl) ?_)
  show Zs (XN sA res) _ _
  rw [ZdC]
  refine Zu (fun q=>?_) fun q=>?_
  ·have c3':=Zl c3 e5
   refine Zj (rL (s:=nl) (Zb c3' rfl) (Yg fun h6 c6 e6 z6=>(ZiR c6 rfl).rd ?_))
   refine (Own.nil h6 (sz h6) 1).app (n:=1) rfl rfl rfl (by decide) (by decide) (Nat.le_refl _) fun t h7 o7 _ u7 _=>?_
   have e7:Ext h6 h7:=u7.ext fun k _ hk=>by cases hk
   have e37:=(e5.trans e6).trans e7
   have w5:sz hh≤sz h6:=(e5.trans e6).size
   refine Zj (ZdD (Zl c3 e37) (show 0<1 by decide) rfl fun h8 c8 u8 z8=>hQ _ _ (.inr ⟨rfl,(e03.trans e37).then u8 (fun k hk=>by subst hk;show sz h≤sz h2;omega),t,c8,?_⟩) (show (1 - IntKind.wrap .i64 (0+1)).toNat<(1 - (0:Int)).toNat by decide))
   unfold Zml;rw [if_pos q]
   exact (Zdl o7 u8 (by show sz h2<sz h6;omega)).base (by show sz h≤sz h6;omega)
  ·refine hQ _ _ (.inr ⟨rfl,e03.trans e5,nl,Zl c3 e5,?_⟩) (show (1 - IntKind.wrap .i64 (0+1)).toNat<(1 - (0:Int)).toNat by decide)
   unfold Zml;rw [if_neg q];exact Own.nil _ _ _
abbrev ZsX (xb cb:Nat):Value:= .func (.func 174) #[] #[.pointer (some ⟨xb,0,none⟩),.pointer (some ⟨cb,0,none⟩)]
structure Zqo (h0 h':Zd) (wb eb bb:Nat) (c:C8) (gr:Bool) (g:Int) (t:Sl) (xb cb:Nat):Prop where
  walk:obj h' wb=some (ZbW eb c gr t nl 0)
  row:Own h' (sz h0) t 1 [ZsX xb cb]
  x:obj h' xb=some (.cells (bkL bb g).toArray 95 (0,0))
  c:obj h' cb=some (.cells [.pointer (some ⟨wb,0,none⟩)].toArray 142 (0,0))
  lx:sz h0≤xb
  lc:sz h0≤cb
theorem ZlD {h0:Zd} (hE:Zdo h eb st tb fm bb wn mb r bq g O E B0) (hw:obj h wb=some (ZbW eb c gr nl nl 0)) {cb:Nat} (hc:obj h cb=some (.cells [.pointer (some ⟨wb,0,none⟩)].toArray 142 (0,0))) (h0c:sz h0≤cb) (h0h:sz h0≤sz h) (hn:wb≠eb∧wb≠bb∧wb≠cb) (he:Yw B0.la c.1=0) {K:Bool→Zd→Prop}
    (hk:∀ h' t xb,Zqo h0 h' wb eb bb c gr g t xb cb→Upd (· = wb) h h'→K (!Ze0 B0 c.1) h'):Xv 0 (some ⟨cb,0,none⟩) K h:=by
  unfold Xv Zbs
  have lwb:=Zr hw
  have hl:bq.len=1:=by have:=hE.bks.len;simp at this;omega
  obtain ⟨b,o,hb,hlt,hidx,hcc⟩:=Zdj (α:=Unit) (g:=fun _=>bkL bb g) (n:=2) (fun _=>rfl) (l:=[()]) (by simpa using hE.bks) (i:=0) rfl (by decide)
  refine Zj (rP (Zb hc rfl) (Zj (rP (Zb hw rfl) (Zj (rL (s:=bq) (Zb hE.cells rfl) (hidx rfl (rP (hcc 0 _ rfl) (rI (hcc 1 _ rfl) (Yg fun h1 c1 e1 z1=>ZaE c1 fun h2 c2 u2 z2=>?_)))))))))
  have e2:Ext h h2:=e1.then u2 fun k hk=>by subst hk;exact Nat.le_refl _
  have w2:=Zl hw e2
  have k2:=Zl hc e2
  refine Zj (rP (Zb k2 rfl) (Zj (rP (Zb k2 rfl) (Zj (rL (s:=nl) (Zb w2 rfl) (Yg fun h3 c3 e3 z3=>?_))))))
  have w3:=Zl w2 e3
  have k3:=Zl k2 e3
  refine ⟨YM (Zb w3 rfl),YM (Zb k3 rfl),YM (Zb k3 rfl),(ZiR c3 rfl).rd ?_⟩
  refine (Own.nil h3 (sz h3) 1).app (n:=1) rfl rfl rfl (by decide) (by decide) (Nat.le_refl _) fun t h4 o4 _ u4 _=>?_
  have e4:Ext h3 h4:=u4.ext fun k _ hk=>by cases hk
  have k4:=Zl k3 e4
  have w4:=Zl w3 e4
  refine ⟨YM (Zb k4 rfl),YM (Zb k4 rfl),Zj (ZdD w4 (show 0+9<12 by decide) rfl fun h5 c5 u5 z5=>?_)⟩
  have E4:=((hE.ext e2).ext e3).ext e4
  have s1:sz h1=sz h+1:=z1
  have s3:sz h3=sz h2+1:=z3
  have s2:sz h2=sz h1:=z2
  have x5:obj h5 (sz h)=_:=(u5.old (sz h) (Zr (Zl (Zl c2 e3) e4)) (show ¬ sz h=wb by omega)).trans (Zl (Zl c2 e3) e4)
  have k5:obj h5 cb=_:=(u5.old cb (Zr k4) (show ¬ cb=wb from Ne.symm hn.2.2)).trans k4
  have b5:obj h5 bb=_:=(u5.old bb (Zr E4.brk) (show ¬ bb=wb from Ne.symm hn.2.1)).trans E4.brk
  refine rP (Zb x5 rfl) (Zj (rP (Zb k5 rfl) (Zj (rI (Zb c5 rfl) (ZnY b5 he ⟨YM (Zb k5 rfl),Zc (Za (Zc (hk h5 t (sz h) ⟨c5,?_,x5,k5,h0h,h0c⟩ ?_)))⟩)))))
  ·exact (Zdl o4 u5 (show wb<sz h3 by omega)).base (by show sz h0≤sz h3;omega)
  ·exact (((e2.trans e3).trans e4).upd _).trans u5
def Zfw (B0:Brk) (c:C8):Bool:=decide (sA=c.2.1) && !Ze0 B0 c.1
theorem ZlC {h0:Zd} (hE:Zdo h eb st tb fm bb wn mb r bq g O E B0) (hw:obj h wb=some (ZbW eb c gr nl nl 0)) (h0h:sz h0≤sz h) (hn:wb≠eb∧wb≠bb) (he:Yw B0.la c.1=0) {K:Int→Bool→Zd→Prop}
    (hk:∀ h',((sA≠c.2.1∧Ext h h')∨(sA=c.2.1∧Upd (· = wb) h h'∧∃ t xb cb,Zqo h0 h' wb eb bb c gr g t xb cb))→K 0 (Zfw B0 c) h'):Y3 (some ⟨wb,0,none⟩) K h:=by
  unfold Y3 ZaK
  have lwb:=Zr hw
  refine Yg fun h1 c1 e1 z1=>Za (rP (Zb c1 rfl) ?_)
  unfold ZS Ym
  have E1:=hE.ext e1
  have w1:=Zl hw e1
  refine Za (Zj (Zj (rP (Zb w1 rfl) (Zj (rL (s:=r.1) (Zb E1.cells rfl) (rL (s:=r.2.1) (Zb E1.cells rfl) (rL (s:=r.2.2.1) (Zb E1.cells rfl) (rL (s:=r.2.2.2.1) (Zb E1.cells rfl) (rL (s:=r.2.2.2.2.1) (Zb E1.cells rfl) (rS (Zb w1 rfl) ?_))))))))))
  refine ZrW E1 fun h2 t2 e2 o2=>⟨YM (Zb (Zl w1 e2) rfl),?_⟩
  have e02:=e1.trans e2
  unfold Zfw at hk
  by_cases hs:sA=c.2.1
  case neg =>
    have htl:t2.len=0:=by have:=o2.len;unfold Zml at this;rw [if_neg hs] at this;simp at this;omega
    rw [decide_eq_false hs] at hk
    refine YX (fun p hh=>p=(0,())∧hh=h2) (fun _ _=>0) ⟨rfl,rfl⟩ ?_
    rintro _ hh ⟨rfl,hh9⟩ Q _
    subst hh9
    dsimp only
    rw [htl]
    exact Zi rfl (Za (Za (Zc (hk hh (.inl ⟨hs,e02⟩)))))
  have om:Own h2 (sz h1) t2 1 [iv 0]:=by have:=o2;unfold Zml at this;rw [if_pos hs] at this;exact this
  have htl:t2.len=1:=by have:=om.len;simp at this;omega
  rw [decide_eq_true hs,Bool.true_and] at hk
  have s1:sz h1=sz h+1:=z1
  refine YX (fun p hh=>(p=(0,())∧hh=h2)∨(p.1=1∧Ze0 B0 c.1=true∧Upd (· = wb) h hh∧∃ t xb cb,Zqo h0 hh wb eb bb c gr g t xb cb)) (fun p _=>(1 - p.1).toNat) (.inl ⟨rfl,rfl⟩) ?_
  rintro ⟨i,u⟩ hh (⟨hq,hh9⟩ | ⟨hq,hpass,hex⟩) Q hQ
  case inr =>
    dsimp only at hq ⊢
    subst hq
    rw [htl]
    rw [hpass] at hk
    exact Zi rfl (Za (Za (Zc (hk hh (.inr ⟨hs,hex⟩)))))
  injection hq with hq _
  subst hq
  subst hh9
  dsimp only
  rw [htl]
  have hix:∀ {K:Nat→Nat→Prop},(∀ b o,Zd.cell hh b o=some (iv 0)→K b o)→Xy t2.ptr 1 0 1 K:=fun {K} hk=>by
    have:=om.row.idx (i:=0) (n:=0) (v:=iv 0) rfl rfl (K:=K) fun b o _ hc=>hk b (o+0) hc
    rwa [htl] at this
  have w02:sz h≤sz hh:=e02.size
  refine Zt rfl (hix fun b9 o9 hc9=>⟨0,hc9,Za (ZlD (h0:=h0) (E1.ext e2) (Zl w1 e2) (Zl c1 e2) h0h (by omega) ⟨hn.1,hn.2,by show wb≠sz h;omega⟩ he fun h3 t xb tk u3=>⟨fun q=>Za ?_,fun q=>?_⟩)⟩)
  ·have U3:Upd (· = wb) h h3:=(e02.upd _).trans u3
   have q':(!Ze0 B0 c.1)=true:=q
   rw [q'] at hk
   exact Za (Zc (hk h3 (.inr ⟨hs,U3,t,xb,_,tk⟩)))
  ·have U3:Upd (· = wb) h h3:=(e02.upd _).trans u3
   have q':(!Ze0 B0 c.1)=false:=q
   exact hQ _ _ (.inr ⟨rfl,by simpa using q',U3,t,xb,_,tk⟩) (show (1 - IntKind.wrap .i64 (0+1)).toNat<(1 - (0:Int)).toNat by decide)
end
end Go.Proofs.YthbfgkphlmlihaaGreat
