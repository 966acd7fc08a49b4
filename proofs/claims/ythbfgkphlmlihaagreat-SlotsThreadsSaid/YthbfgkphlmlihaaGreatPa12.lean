/- The live part of the laws of the slots: an engine, one flow, two entries, what is open. -/
import Derived.ChangeArms
import Derived.Test.YthbfgkphlmlihaaGreatPa11
set_option linter.unusedVariables false
set_option linter.unusedSimpArgs false
namespace Go.Proofs.YthbfgkphlmlihaaGreat
open Go Go.Fw
open Nat renaming reduceAdd→Nqa,reduceLT→Nqb,reduceLeDiff→Nqc,reduceEqDiff→Nqd,reduceMul→Nqe
abbrev Zue:ByteArray:=ByteArray.mk #[109,97,105,110]
def c0:C8:=(0,sA,Zue,em,false,1,nl,())
theorem ZgY {E:Eng} {m:Nat} (h:Zey E m) (hm:m<4096) (hla:E.la=0) (hr:E.t.room (ZD c0)):X2 E c0 []=0:=by
  have hk:ZdK c0=0:=by decide
  have hfl:=h.fl
  unfold X2
  rw [if_neg (fun h9=>h9 hk),if_neg (fun h9=>h9 (show 0≤(0:Int)∧(0:Int)≤1152921504606846976 by decide)),if_neg (fun h9=>h9 (show 1≤(1:Int)∧(1:Int)≤1099511627776 by decide)),if_neg (by decide),if_neg (by decide),if_neg (show ¬ c0.1<E.la by rw [hla];decide),if_neg (by omega)]
  unfold Tree.touchE
  rw [if_neg (fun h9=>h9 hk),if_neg (fun h9=>h9 hr)]
theorem Zr2 {h:Zc} {mb n:Nat} {v:Value} (hm:ZdZ h mb (upd (fun _=>none) 1 (some v)) n):ZlT h mb [1]:=by
  obtain ⟨es,c,hb,hs,hn,he⟩:=hm
  refine ⟨es,c,hb,hs,?_,by simp,fun x hx=>by simp at hx;omega⟩
  have hd:=((MapKept.stamped_iff es c).1 hs).2.2
  have hall:∀ e∈es.toList,e.key=iv 1:=fun e hm=>by
    obtain ⟨k,hk,hv⟩:=he.to e hm
    unfold upd at hv
    split at hv
    ·rename_i hk1;rw [hk,hk1]
    ·cases hv
  obtain ⟨e,hm,_⟩:=he.of 1 v (Zcv _ _ _)
  cases hl:es.toList with
  | nil=>rw [hl] at hm;cases hm
  | cons x l =>
    rw [hl] at hall hd
    cases l with
    | nil=>simp [hall x (List.mem_cons_self ..)]
    | cons y l =>
      have h1:=List.pairwise_cons.1 hd
      exact absurd ((hall x (List.mem_cons_self ..)).trans (hall y (by simp)).symm) (h1.1 y (List.mem_cons_self ..))
theorem Zom {h:Zc} {eb st tb fm:Nat} {r:R5} {sh:Sl} {g:Int} {O:Nat→Prop} {E:Eng} (hE:ZdI h eb st tb fm r sh g O E) {c:C8} (hf:E.f=upd (fun _=>none) 1 (some (Zb5 c))) {K:Sl→Zc→Prop} (hk:∀ h' s,Ext h h'→s.len=1→K s h'):XB (some ⟨eb,0,none⟩) K h:=by
  unfold XB Zbu
  refine YI fun h1 c1 e1 z1=>rP (Zb c1 rfl) (Zl rfl (rP (Zb c1 rfl) (Zp (rM (Zb (hE.ext e1).cells rfl) ?_))))
  unfold ZV
  refine YI fun h2 c2 e2 z2=>?_
  have E2:=(hE.ext e1).ext e2
  have hm2:ZdZ h2 fm (upd (fun _=>none) 1 (some (Zb5 c))) E.n:=by have:=E2.map;rwa [hf] at this
  refine ⟨_,fm,[1],rfl,by rw [Yq];exact Zb c2 rfl,Zr2 hm2,by decide,fun s h3 o3 e3=>?_⟩
  have hl:s.len=1:=by have:=o3.len;simp at this;omega
  have E3:=E2.ext e3
  have hm3:ZdZ h3 fm (upd (fun _=>none) 1 (some (Zb5 c))) E.n:=by have:=E3.map;rwa [hf] at this
  have e03:=(e1.trans e2).trans e3
  have b3:=Zq (Zq c1 e2) e3
  unfold ZT Yf ZU Yh
  refine Za (X5 (fun p hh=>(p.1=0∨p.1=1)∧hh=h3) (fun p _=>(1 - p.1).toNat) ⟨.inl rfl,rfl⟩ ?_)
  rintro ⟨i,u⟩ hh ⟨hi,hh9⟩ Q hQ
  subst hh9
  dsimp only at hi ⊢
  rcases hi with hi | hi
  ·subst hi
   rw [hl]
   have hix:∀ {K:Nat→Nat→Prop},(∀ b o,Zc.cell hh b o=some (iv 1)→K b o)→Xh s.ptr 1 0 1 K:=fun {K} hk=>by
     have:=o3.row.idx (i:=0) (n:=0) (v:=iv 1) rfl rfl (K:=K) fun b o _ hc=>hk b (o+0) hc
     rwa [hl] at this
   refine ZF rfl (Za (hix fun b o hc=>⟨1,hc,?_⟩))
   unfold YR ZaZ
   refine Zp (rP (Zb b3 rfl) (Zp (rM (Zb E3.cells rfl) (hm3.get 1 ⟨(c.1,c.2.1,c.2.2.1,c.2.2.2.1,c.2.2.2.2.1,c.2.2.2.2.2.1,nl,false,nl,()),?_,Zh (Zl rfl (hQ _ _ ⟨.inr (by decide),rfl⟩ (show (1 - IntKind.wrap .i64 (0+1)).toNat<(1 - (0:Int)).toNat by decide)))⟩))))
   rw [Zcv]
   rfl
  ·subst hi
   rw [hl]
   exact Zl rfl (Za (Za (ZF rfl (hk hh s e03 hl))))
theorem ZkQ {E:Eng} {m:Nat} (hO:Zey E m) (c:C8):0≤(ZhK ((E.mid c).t.f (clK c.2.1)) c.1).1∧(ZhK ((E.mid c).t.f (clK c.2.1)) c.1).1≤4611686018427387904:=by
  have hz0:∀ n:Node,(∀ i,Rt (n.s i))→0≤(n.sum c.1).1∧(n.sum c.1).1≤4611686018427387904:=fun n hn=>by
    unfold Node.sum
    split
    ·unfold Win.sum
     by_cases h9:loW .sec c.1≤bkt .sec c.1+1
     ·exact (Ziw hn h9).p
     ·unfold Zgu
      rw [show (bkt .sec c.1+1 - loW .sec c.1).toNat=0 from by omega]
      show 0≤(0:Int)∧(0:Int)≤4611686018427387904
      decide
    ·decide
  cases hfm:(E.mid c).t.f (clK c.2.1) with
  | none=>exact ⟨Int.le_refl _,(show (0:Int)≤4611686018427387904 by decide)⟩
  | some nd =>
    refine hz0 nd fun j=>?_
    by_cases h9:E.t.touchE c=0
    ·have e:(E.mid c).t=E.t.makes (ZD c):=by show E.t.touched c=_;unfold Tree.touched;rw [if_pos h9]
     rw [e] at hfm
     rcases ZfH (ZD c) E.t (clK c.2.1) with ⟨_,_,q⟩ | ⟨_,_,q⟩ | ⟨n2,q1,q2⟩
     ·rw [q] at hfm;cases hfm
     ·rw [q] at hfm;cases hfm;exact Rt.zero
     ·rw [q2] at hfm;cases hfm;exact (hO.nodes _ _ q1).rt j
    ·have e:(E.mid c).t=E.t:=by show E.t.touched c=_;unfold Tree.touched;rw [if_neg h9]
     rw [e] at hfm
     exact (hO.nodes _ _ hfm).rt j
theorem ZlL {E:Eng} {m:Nat} {n:Int} {ps:Ps} {c:C8} (hs:sA=c.2.1) (hF:Zpj E c) (hO:Zey (E.mid c) m) (hC:Zez E n ps) (hl:ps.length≤4000):ZdG (E.mid c) false n c = !decide (c.2.2.2.2.2.1≤n - sm (since c.1) ps):=by
  unfold ZdG
  rw [decide_eq_true hs,Bool.true_and,← hs,ZiH hF hO hC hl]
  rfl
theorem ZoE:ZuG:=by
  intro h K hk
  unfold Xl Zbb
  refine ZkF fun h1 hf e1=>Za (Zl rfl (Zl rfl (YI fun h2 c2 e2 z2=>?_)))
  have hf2:ZlV h2 (sz h+4) (sz h):=⟨rfl,Zq hf.cells e2,Zq hf.store e2,hf.tree.ext e2,hf.map.congr (Yi e2 hf.map.lt)⟩
  have o2:Own h2 (sz h1) ⟨some ⟨h1.size,0,none⟩,1,1⟩ 12 (([Xb false 1]).flatMap Zi4):=⟨rfl,Nat.le_refl _,(show 1<9223372036854775808 by decide),.inr ⟨h1.size,_,_,rfl,Nat.le_refl _,c2,rfl,rfl⟩⟩
  refine Zje hf2 (r:=(⟨some ⟨h1.size,0,none⟩,1,1⟩,nl,nl,nl,nl,())) (fs:=[Xb false 1]) ⟨o2,Own.nil _ _ _,Own.nil _ _ _,Own.nil _ _ _,Own.nil _ _ _⟩ (show 1≤256 by decide) (fun f hf9=>⟨false,1,by simpa using hf9,by decide⟩) fun h3 r sh g hE u3=>Za (YI fun h4 c4 e4 z4=>Zce c4 fun h5 c5 u5 z5=>?_)
  have E03:Ext h h3:=(e1.trans e2).then u3 fun k hk=>hk.1
  have e35:Ext h3 h5:=e4.then u5 fun k hk=>by subst hk;exact Nat.le_refl _
  have E5:=hE.ext e35
  have ok0:Zey ⟨[Xb false 1],Tree.zero,0,1,0,fun _=>none,0⟩ 0:=⟨(show 0≤512 by decide),Int.le_refl _,Int.le_refl _,(fun k n hn=>by cases hn),(show (0:Int)≤0∧(0:Int)≤((0:Nat):Int) by decide),(show (1:Int)≤1∧(1:Int)≤((0:Nat):Int)+1 by decide)⟩
  have hw0:X2 ⟨[Xb false 1],Tree.zero,0,1,0,fun _=>none,0⟩ c0 []=0:=ZgY ok0 (by decide) rfl (by decide)
  have hC0:Zez ⟨[Xb false 1],Tree.zero,0,1,0,fun _=>none,0⟩ 1 []:=⟨fun i=>rfl,(fun p hp=>by cases hp),fun t _=>(show (0:Int)≤1 by decide)⟩
  have hz:Zgh c0:=⟨(show sA.size<9223372036854775808 by decide),(show Zue.size<9223372036854775808 by decide),(show em.size<9223372036854775808 by decide)⟩
  refine rI (Zb c5 rfl) (rS (Zb c5 rfl) (rS (Zb c5 rfl) (rS (Zb c5 rfl) (rB (Zb c5 rfl) (rI (Zb c5 rfl) (rL (s:=nl) (Zb c5 rfl) ?_))))))
  refine ZgV E5 (th:=false) (n:=1) rfl (by decide) (c:=c0) hz (al:=[]) (Row.nil _ _) (ZkQ ok0 c0) fun h6 O6 E6 m6 v6 e6 hent6 hE6 u6 g6=>?_
  have hF0:=Zff hw0
  have hEC:=Zh4 ok0 (by decide) hC0 (Nat.le_refl _) hent6
  have hOK:=Zi5 ok0 (by decide) hent6
  obtain ⟨hO,hkk⟩:=Zg1 ok0 hF0
  have hbl0:=ZlL (c:=c0) rfl hF0 hO hC0 (by decide)
  cases hent6 with
  | bad q=>exact absurd hw0 q
  | block q qb=>rw [hbl0] at qb;exact absurd qb (by decide)
  | pass mm q qb =>
  rcases hEC with ⟨h9,_⟩ | ⟨_,_,hla,hcase⟩
  ·exact absurd rfl h9
  rcases hcase with ⟨_,_,hC1⟩ | ⟨h9,_⟩
  case inr=>exact absurd h9 (by decide)
  rw [if_pos (show sA=c0.2.1 from rfl)] at hC1
  obtain ⟨na,nb,nd⟩:=ZfF hF0 hO hF0.fl hkk true fun n=>n.passed c0.1 c0.2.2.2.2.2.1
  have hex:∀ k∈ZD c0,∃ n,((⟨[Xb false 1],Tree.zero,0,1,0,fun _=>none,0⟩:Eng).pass c0 mm).t.f k=some n:=fun k hk9=>by
    obtain ⟨n,hn⟩:=hkk k hk9
    have:=(nd k).1 hk9
    rw [hn] at this
    exact ⟨_,this⟩
  have hr1:((⟨[Xb false 1],Tree.zero,0,1,0,fun _=>none,0⟩:Eng).pass c0 mm).t.room (ZD c0):=by unfold Tree.room;rw [Zic hex];exact hOK.keys
  have hw1:=ZgY hOK (by decide) hla hr1
  have hF1:=Zff hw1
  obtain ⟨hO1,_⟩:=Zg1 hOK hF1
  have hbl1:=ZlL (c:=c0) rfl hF1 hO1 hC1 (by decide)
  have w5:sz h+4<sz h3:=ZE hE.cells
  have nown:∀ j,sz h3≤j→¬ Zhd (sz h+4) (sz h+3) (fun j=>j=sz h+1∨j=sz h+2) j:=fun j hj h9=>by unfold Zhd at h9;omega
  have c6:obj h6 (sz h3)=_:=(u6.old (sz h3) (ZE c5) (nown _ (Nat.le_refl _))).trans c5
  have w56:sz h5≤sz h6:=u6.size
  have w35:sz h3<sz h5:=ZE c5
  refine YI fun h7 c7 e7 z7=>Za (Zce c7 fun h8 c8 u8 z8=>Za ?_)
  have e68:Ext h6 h8:=e7.then u8 fun k hk=>by subst hk;exact Nat.le_refl _
  have d8:=Zq c6 e68
  refine rI (Zb d8 rfl) (rS (Zb d8 rfl) (rS (Zb d8 rfl) (rS (Zb d8 rfl) (rB (Zb d8 rfl) (rI (Zb d8 rfl) (rL (s:=nl) (Zb d8 rfl) ?_))))))
  refine ZgV (hE6.ext e68) (th:=false) (n:=1) rfl (by decide) (c:=c0) hz (al:=[]) (Row.nil _ _) (ZkQ hOK c0) fun h9 O9 E9 m9 v9 e9 hent9 hE9 u9 g9=>?_
  have own6:∀ j,Zhd (sz h+4) (sz h+3) O6 j→sz h≤j∧j≠sz h6:=fun j hj=>by
    rcases hj with hj | hj | hj
    ·omega
    ·omega
    ·have hlt:=hE6.hO j hj
     rcases g6.1 j hj with q9 | q9
     ·omega
     ·have:sz h5≤j:=q9.1
      have:sz h≤sz h5:=by omega
      omega
  have b9:obj h9 (sz h6)=_:=(u9.old (sz h6) (ZE c8) (fun h99=>(own6 _ h99).2 rfl)).trans c8
  have E09:Ext h h9:=(((E03.trans e35).then u6 fun k hk=>by unfold Zhd at hk;show sz h≤k;omega).trans e68).then u9 fun k hk=>(own6 k hk).1
  cases hent9 with
  | bad q=>exact absurd hw1 q
  | pass _ q qb=>rw [hbl1] at qb;exact absurd qb (by decide)
  | block q qb =>
  refine YI fun h10 c10 e10 z10=>Za (Zce c10 fun h11 c11 u11 z11=>Za ?_)
  have e911:Ext h9 h11:=e10.then u11 fun k hk=>by subst hk;exact Nat.le_refl _
  have b11:=Zq b9 e911
  refine ZF rfl (ZF rfl (rI (Zb b11 rfl) (ZF rfl (ZF rfl (ZF rfl (rI (Zb c11 rfl) (ZF rfl (ZF rfl ?_))))))))
  refine Zom (c:=c0) (hE9.ext e911) rfl fun h12 s e12 hs=>Zh ?_
  rw [hs]
  exact hk h12 ((E09.trans e911).trans e12)
end Go.Proofs.YthbfgkphlmlihaaGreat
namespace Go.Proofs.YthbfgkphlmlihaaGreat
open Go Go.Fw Go.ChangeShapes Go.WideShapes
theorem ZlI:∀ l:List ByteArray,l.flatMap (fun s=>[Value.string s])=l.map .string
  | []=>rfl
  | x::l=>by rw [List.flatMap_cons,ZlI l];rfl
theorem Zza {n:Int} (h:(Lit.int .u8 n).wf=true):0≤n∧n<256:=by
  simp only [Lit.wf,Bool.and_eq_true,decide_eq_true_eq] at h
  have h1:IntKind.u8.min=0:=by decide
  have h2:IntKind.u8.max=255:=by decide
  omega
section
variable {H:Type} {enc:TypeId × Value→H} {P:Program} {w:World} {base:Nat} {spare:Nat→Bool} {held:Bool}
theorem Zsn {q:IntKind} {t:TypeId} {fuel:Nat} {n:Int} {x:DataW H × List MemPlace} (ht:P.underlying t=some (.int q)) (h:DataW.trod enc P w base spare held fuel t [.int q n]=some x):(Lit.int q n).wf=true:=by
  obtain ⟨m,hm,_,hw⟩:=DataW.trod_int ht h
  simp at hm
  subst hm
  exact hw
theorem ZjH {fs:Array Field} {l:List (TypeId × Nat)} (hf:fs.toList.map (fun f=>(f.type,f.offset))=l) {i:Nat} {p:TypeId × Nat} (hp:l[i]?=some p):∃ f,fs[i]?=some f∧f.type=p.1∧f.offset=p.2:=by
  subst hf
  rw [List.getElem?_map,Option.map_eq_some_iff] at hp
  obtain ⟨f,h1,rfl⟩:=hp
  exact ⟨f,by simpa using h1,rfl,rfl⟩
theorem Zia {α:Type} [Inhabited α] {g:α→List Value} {n:Nat} (hg:∀ a,(g a).length=n) (hn:0<n) {Pa:α→Prop} {u t:TypeId} {fuel:Nat} {a:Option Addr} {len cap:Nat} {x:DataW H × List MemPlace} (hu:P.underlying u=some (.slice t)) (hc:P.cellsOf t=n)
    (elem:∀ {fuel:Nat} {cs:List Value} {x:DataW H × List MemPlace},DataW.trod enc P w base spare held fuel t cs=some x→∃ a:α,cs=g a∧Pa a)
    (h:DataW.trod enc P w base spare held fuel u [.slice a len cap]=some x):∃ l:List α,Row w.heap ⟨a,len,cap⟩ n (l.flatMap g)∧∀ a,a∈l→Pa a:=by
  rcases Deep.open_slice hu h with ⟨hcs,rfl⟩ | ⟨a',len',cap',m,n',D,Pl,hcs,_,hl,hm,hmm,rfl,hx⟩
  ·simp at hcs
   obtain ⟨rfl,rfl,rfl⟩:=hcs
   exact ⟨[],Row.nil _ n,by simp⟩
  ·simp at hcs
   obtain ⟨rfl,rfl,rfl⟩:=hcs
   have hlen:len≤m:=by rw [hmm];split<;>omega
   have hbig:cap<9223372036854775808:=Zf6 hm
   have each:∀ i,i<len→∃ a:α,w.cells? base (a'.add (i*n)) n=some (g a)∧Pa a:=by
     intro i hi
     obtain ⟨cs',h1,h2⟩:=hx i (by omega)
     rw [hc] at h1
     obtain ⟨r,rfl,hp⟩:=elem h2
     exact ⟨r,h1,hp⟩
   obtain ⟨f,hf⟩:=Deep.choose_lt each
   have cell:∀ i,i<len→∀ k,k<n→w.cell? ((a'.add (i*n)).add k)=(g (f i))[k]?:=fun i hi k hk=>(World.cells?_some (hf i hi).1).2.2 k hk
   refine ⟨(List.range len).map f,⟨by rw [YV hg];simp,hl,hbig,?_⟩,fun a ha=>?_⟩
   ·rcases Nat.eq_zero_or_pos len with h0 | h0
    ·exact .inl h0
    ·right
     have hsp:a'=⟨a'.block,a'.off,none⟩:=by
       have h0:=cell 0 (by omega) 0 hn
       have e0:(a'.add (0*n)).add 0=a':=by rw [Nat.zero_mul];rfl
       rw [e0,List.getElem?_eq_getElem (by rw [hg];exact hn)] at h0
       exact Zob h0
     refine ⟨a'.block,a'.off,by rw [← hsp],ZoQ fun k v hv=>?_⟩
     have hk:k<len*n:=by
       have:=ZoO hv
       rw [YV hg] at this
       simpa using this
     have hdm:=Nat.div_add_mod k n
     have hi:k / n<len:=(Nat.div_lt_iff_lt_mul hn).2 hk
     have hj:k % n<n:=Nat.mod_lt _ hn
     have e1:=ZjE hg ((List.range len).map f) (k / n) (k % n) (f (k / n)) (by rw [List.getElem?_map,List.getElem?_range hi];rfl) hj
     have ek:k / n*n+k % n=k:=by rw [Nat.mul_comm];exact hdm
     rw [ek,hv] at e1
     have:=cell (k / n) hi (k % n) hj
     rw [hsp,ZlS,ZlS,ZjN,← e1] at this
     rw [← ek,← Nat.add_assoc]
     exact this
   ·obtain ⟨i,hi,rfl⟩:=List.mem_map.1 ha
    exact (hf i (by simpa using hi)).2
theorem Zqe {t:TypeId} {fs:Array Field} {cs:List Value} {fuel:Nat} {x:DataW H × List MemPlace} (ht:P.underlying t=some (.struct fs)) (hc:P.cellsOf t=7) {ti ts tb tl:TypeId} (hti:P.underlying ti=some (.int .i64)) (hts:P.underlying ts=some .string) (htb:P.underlying tb=some .bool) (htl:P.underlying tl=some (.slice ts))
    (ci:P.cellsOf ti=1) (csz:P.cellsOf ts=1) (cb:P.cellsOf tb=1) (cl:P.cellsOf tl=1) (hf:fs.toList.map (fun f=>(f.type,f.offset))=[(ti,0),(ts,1),(ts,2),(ts,3),(tb,4),(ti,5),(tl,6)])
    (h:DataW.trod enc P w base spare held fuel t cs=some x):∃ c:C8,cs=c8L c∧Zfi w.heap c:=by
  obtain ⟨xs,n,rfl,rfl,hl,hlen,hall⟩:=DataW.trod_struct ht h
  rw [hc] at hl
  have hfl:fs.size=7:=by
    have:=congrArg List.length hf
    simpa using this
  match cs,hl with
  | [c0,c1,c2,c3,c4,c5,c6],_ =>
    have fld:∀ {i:Nat} {p:TypeId × Nat} (hi:i<xs.length),([(ti,0),(ts,1),(ts,2),(ts,3),(tb,4),(ti,5),(tl,6)]:List (TypeId × Nat))[i]?=some p→DataW.trod enc P w base spare held n p.1 (([c0,c1,c2,c3,c4,c5,c6].drop p.2).take (P.cellsOf p.1))=some xs[i]:=fun {i p} hi hp=>by
      obtain ⟨f,g1,g2,g3⟩:=ZjH hf hp
      have:=hall i f g1
      rw [g2,g3,List.getElem?_eq_getElem hi] at this
      exact this
    have f0:=fld (i:=0) (by omega) rfl
    have f1:=fld (i:=1) (by omega) rfl
    have f2:=fld (i:=2) (by omega) rfl
    have f3:=fld (i:=3) (by omega) rfl
    have f4:=fld (i:=4) (by omega) rfl
    have f5:=fld (i:=5) (by omega) rfl
    have f6:=fld (i:=6) (by omega) rfl
    dsimp only at f0 f1 f2 f3 f4 f5 f6
    rw [ci] at f0 f5
    rw [csz] at f1 f2 f3
    rw [cb] at f4
    rw [cl] at f6
    obtain ⟨m0,h0,_⟩:=DataW.trod_int hti f0
    obtain ⟨s1,h1,_,z1⟩:=DataW.trod_string hts f1
    obtain ⟨s2,h2,_,z2⟩:=DataW.trod_string hts f2
    obtain ⟨s3,h3,_,z3⟩:=DataW.trod_string hts f3
    obtain ⟨b4,h4,_⟩:=DataW.trod_bool htb f4
    obtain ⟨m5,h5,_⟩:=DataW.trod_int hti f5
    simp at h0 h1 h2 h3 h4 h5
    subst h0 h1 h2 h3 h4 h5
    have h6:∃ (a:Option Addr) (len cap:Nat),c6 = .slice a len cap:=by
      rcases Deep.open_slice htl f6 with ⟨hcs,_⟩ | ⟨a',len',cap',m,n',D,Pl,hcs,_⟩
      ·simp at hcs;exact ⟨_,_,_,hcs⟩
      ·simp at hcs;exact ⟨_,_,_,hcs⟩
    obtain ⟨a,len,cap,rfl⟩:=h6
    obtain ⟨al,hal,_⟩:=Zia (α:=ByteArray) (g:=fun s=>[.string s]) (n:=1) (Pa:=fun _=>True) (fun _=>rfl) (by decide) htl csz (fun {fuel cs x} h=>by
      obtain ⟨s,hs,_⟩:=DataW.trod_string hts h
      exact ⟨s,hs,trivial⟩) f6
    refine ⟨(m0,s1,s2,s3,b4,m5,⟨a,len,cap⟩,()),rfl,⟨Zf6 z1,Zf6 z2,Zf6 z3⟩,al,?_⟩
    rw [← ZlI al]
    exact hal
end
end Go.Proofs.YthbfgkphlmlihaaGreat
namespace Go.Proofs.YthbfgkphlmlihaaGreat
open Go Go.Fw
open Nat renaming reduceAdd→Nqa,reduceLT→Nqb,reduceLeDiff→Nqc,reduceEqDiff→Nqd,reduceMul→Nqe
def Tree.idle (t:Tree) (k:K4):Bool:=match t.f k with
  | some n=>n.fl ==0
  | none=>true
theorem Zml {h:Zc} {tb rb:Nat} {O:Nat→Prop} {t:Tree} {T:TypeId} (ht:Xw h tb O t) (hb:obj h rb=some (.cells [.pointer (some ⟨tb,0,none⟩)].toArray T (0,0))) {k:K4} {K:Bool→Zc→Prop} (hk:∀ h',Ext h h'→K (t.idle k) h'):XQ k (some ⟨rb,0,none⟩) K h:=by
  unfold XQ ZbU
  refine YI fun h1 c1 e1 z1=>Zp (rP (Zb (Zq hb e1) rfl) (Zp ?_))
  obtain ⟨mb,hc,hg⟩:=(ht.ext e1).look k
  have hd:Zo h1 [(rb,0,.pointer (some ⟨tb,0,none⟩))]:=XY (Zb (Zq hb e1) rfl)
  have hk1:=hk h1 e1
  unfold Tree.idle at hk1
  refine rM hc (rI (Zb c1 rfl) (rS (Zb c1 rfl) (rS (Zb c1 rfl) (rS (Zb c1 rfl) ?_))))
  rcases hg with ⟨hn,hg⟩ | ⟨q,n,hn,hr,_,hg,_⟩
  ·rw [hn] at hk1
   exact hg _ ⟨none,rfl,hd,Zfh ⟨hd,Zh hk1⟩⟩
  ·rw [hn] at hk1
   exact hg _ ⟨_,rfl,hd,ZfS hr ⟨hd,Zh hk1⟩⟩
theorem ZoP {h:Zc} {tb rb:Nat} {O:Nat→Prop} {t:Tree} {T:TypeId} (ht:Xw h tb O t) (hb:obj h rb=some (.cells [.pointer (some ⟨tb,0,none⟩)].toArray T (0,0))) {s:Sl} {l:List K4} (hs:Row h s 4 (l.flatMap k4L)) (hl:l.length≤100000)
    {K:Bool→Zc→Prop} (hk:∀ h',Ext h h'→K (l.any t.idle) h'):Zt s (some ⟨rb,0,none⟩,()) K h:=by
  unfold Zt ZZ ZJ Z6
  have hlen:=hs.len
  rw [YV ZaN] at hlen
  have hsl:s.len=l.length:=(Nat.eq_of_mul_eq_mul_right (by decide) hlen).symm
  refine Za (X5 (fun p hh=>∃ i:Nat,p=((i:Int),())∧i≤l.length∧Ext h hh∧(l.take i).any t.idle=false) (fun p _=>l.length - p.1.toNat) ⟨0,rfl,Nat.zero_le _,Ext.refl _,rfl⟩ ?_)
  rintro _ hh ⟨i,rfl,hil,he,ha⟩ Q hQ
  dsimp only
  refine ZB (fun q=>?_) fun q=>?_
  ·have hi1:i<l.length:=by omega
   have hg:l[i]?=some l[i]:=List.getElem?_eq_getElem hi1
   generalize l[i]=k at hg
   obtain ⟨b,o,hb9,hlt,hidx,hc⟩:=Zeu ZaN (hs.ext he) hg (by decide)
   have v0:=hc 0 _ rfl
   have v1:=hc 1 _ rfl
   have v2:=hc 2 _ rfl
   have v3:=hc 3 _ rfl
   have hwr:IntKind.wrap .i64 ((i:Int)+1)=((i+1:Nat):Int):=wrS hi1 (by omega)
   have htk:l.take (i+1)=l.take i++[k]:=by rw [List.take_add_one,hg];rfl
   refine Za (hidx rfl (rI v0 (rS v1 (rS v2 (rS v3 (Zml (ht.ext he) (Zq hb he) fun h1 e1=>⟨fun hf=>?_,fun hf=>?_⟩))))))
   ·have:l.any t.idle=true:=List.any_eq_true.2 ⟨k,List.mem_of_getElem? hg,hf⟩
    rw [this] at hk
    refine Za (Zh ?_)
    have:decide ((i:Int)≥0)=true:=by simp
    rw [this]
    exact hk _ (he.trans e1)
   ·rw [hwr]
    refine hQ _ _ ⟨i+1,rfl,hi1,he.trans e1,?_⟩ (by show l.length - ((i+1:Nat):Int).toNat<l.length - ((i:Nat):Int).toNat;omega)
    have hf':t.idle k=false:=hf
    rw [htk,List.any_append,ha];simp [hf']
  ·have hfull:l.take i=l:=List.take_of_length_le (by omega)
   rw [hfull] at ha
   rw [ha] at hk
   exact Za (Zh (hk _ he))
def Tree.ons (g:Node→Node):List K4→Tree→Tree
  | [],t=>t
  | k::l,t=>Tree.ons g l (t.on k g)
def Tree.doneE (t:Tree) (c:C8) (rt:Int):Int :=
  if ZdK c≠0 then ZdK c else if ¬ (0≤c.1∧c.1≤1152921504606846976) then 2 else if ¬ (0≤rt∧rt≤1152921504606846976) then 2 else if c.1<t.last then 7 else if (ZD c).any t.idle=true then 4 else 0
def Tree.dones (t:Tree) (c:C8) (rt:Int) (f:Bool):Tree:=if t.doneE c rt=0 then (let t':=Tree.ons (fun n=>n.done c.1 rt f) (ZD c) t;⟨t'.f,t'.keys,c.1⟩) else t
theorem ZmF {h:Zc} {tb:Nat} {O:Nat→Prop} {t:Tree} (ht:Xw h tb O t) (hO:∀ j,O j→j<sz h) {c:C8} (hz:Zgh c) {rt:Int} {f:Bool} {K:Int→Zc→Prop}
    (hk:∀ h',Xw h' tb O (t.dones c rt f)→Upd O h h'→K (t.doneE c rt) h'):Zav (some ⟨tb,0,none⟩) c rt f K h:=by
  have no:∀ e (h9:Zc),Ext h h9→e≠0→t.doneE c rt=e→K e h9:=fun e h9 e9 h1 h2=>by
    have:=hk h9 (by unfold Tree.dones;rw [if_neg (by rw [h2];exact h1)];exact ht.ext e9) (e9.upd _)
    rwa [h2] at this
  unfold Zav ZcT
  refine YI fun h1 c1 e1 z1=>YI fun h3 c3 e3 z3=>Za ?_
  have p3:=Zq c1 e3
  refine rP (Zb p3 rfl) (Zz (rI (Zb c3 rfl) (rS (Zb c3 rfl) (rS (Zb c3 rfl) (rS (Zb c3 rfl) (rB (Zb c3 rfl) (rI (Zb c3 rfl) (rL (Zb c3 rfl) ?_))))))))
  refine Zgi (c:=c) hz fun s h4 e4 o4=>Za (Zh (ZdB (fun q1=>Za ?_) fun q1=>?_))
  ·exact no _ h4 ((e1.trans e3).trans e4) q1 (by unfold Tree.doneE;rw [if_pos q1])
  rw [if_pos q1] at o4
  have e04:Ext h h4:=(e1.trans e3).trans e4
  have c4:=Zq c3 e4
  have p4:=Zq p3 e4
  have t4:=ht.ext e04
  refine rI (Zb c4 rfl) (Zgt ?_)
  by_cases ha:0≤c.1∧c.1≤1152921504606846976
  case neg =>
    have:inB c.1 0 1152921504606846976=false:=by unfold inB;simp;omega
    rw [this]
    exact YT (Za (no 2 h4 e04 (by decide) (by unfold Tree.doneE;rw [if_neg (fun h9=>h9 q1),if_pos ha])))
  have:inB c.1 0 1152921504606846976=true:=by unfold inB;simp;omega
  rw [this]
  refine Zz (Zgt ?_)
  by_cases hr:0≤rt∧rt≤1152921504606846976
  case neg =>
    have:inB rt 0 1152921504606846976=false:=by unfold inB;simp;omega
    rw [this]
    exact Zh (YT (Za (no 2 h4 e04 (by decide) (by unfold Tree.doneE;rw [if_neg (fun h9=>h9 q1),if_neg (fun h9=>h9 ha),if_pos hr]))))
  have:inB rt 0 1152921504606846976=true:=by unfold inB;simp;omega
  rw [this]
  refine Zh (Zz (rI (Zb c4 rfl) (rP (Zb p4 rfl) (Zp (rI t4.last (Zh (ZB (fun q4=>Za (no 7 h4 e04 (by decide) ?_)) fun q4=>?_)))))))
  ·unfold Tree.doneE;rw [if_neg (fun h9=>h9 q1),if_neg (fun h9=>h9 ha),if_neg (fun h9=>h9 hr),if_pos q4]
  have hkn:=Zhi c
  refine ZoP t4 p4 o4.row (by omega) fun h5 e5=>Zh ⟨fun hi=>Za (no 4 h5 (e04.trans e5) (by decide) ?_),fun hi=>?_⟩
  ·unfold Tree.doneE;rw [if_neg (fun h9=>h9 q1),if_neg (fun h9=>h9 ha),if_neg (fun h9=>h9 hr),if_neg q4,if_pos hi]
  have hE:t.doneE c rt=0:=by unfold Tree.doneE;rw [if_neg (fun h9=>h9 q1),if_neg (fun h9=>h9 ha),if_neg (fun h9=>h9 hr),if_neg q4,if_neg (by rw [hi];decide)]
  have hN:t.dones c rt f=⟨(Tree.ons (fun n=>n.done c.1 rt f) (ZD c) t).f,(Tree.ons (fun n=>n.done c.1 rt f) (ZD c) t).keys,c.1⟩:=by unfold Tree.dones;rw [if_pos hE]
  rw [hE,hN] at hk
  have hlen:=o4.row.len
  rw [YV ZaN] at hlen
  have hsl:s.len=(ZD c).length:=(Nat.eq_of_mul_eq_mul_right (by decide) hlen).symm
  have e05:=e04.trans e5
  have w1:sz h1=sz h+1:=z1
  have w3:sz h3=sz h1+1:=z3
  have w4:sz h3≤sz h4:=e4.size
  have w45:sz h4≤sz h5:=e5.size
  have rows:∀ b,s.blk=some b→sz h≤b∧b<sz h4:=fun b hb=>by have:sz h3≤b∧b<sz h4:=o4.lt hb;omega
  have hall:∀ k∈ZD c,t.isNew k=false:=fun k hk9=>by
    have:=List.any_eq_false.1 hi k hk9
    unfold Tree.idle at this
    unfold Tree.isNew
    cases hf:t.f k with
    | none=>rw [hf] at this;exact absurd rfl this
    | some n=>rfl
  refine X5 (fun p hh=>∃ (i:Nat) (l2:List K4) (t2:Tree),p=((i:Int),())∧i≤(ZD c).length∧(ZD c).drop i=l2∧Tree.ons (fun n=>n.done c.1 rt f) l2 t2=Tree.ons (fun n=>n.done c.1 rt f) (ZD c) t∧Xw hh tb O t2∧(∀ k∈ZD c,t2.isNew k=false)∧Upd O h5 hh)
    (fun p _=>(ZD c).length - p.1.toNat) ⟨0,_,t,rfl,Nat.zero_le _,rfl,rfl,t4.ext e5,hall,Upd.refl _ _⟩ ?_
  rintro _ hh ⟨i,l2,t2,rfl,hil,hdr,hst,ht2,hal2,hu⟩ Q hQ
  have nO:∀ j,sz h≤j→¬ O j:=fun j hj h9=>by have:=hO j h9;omega
  have old:∀ {j:Nat} {y:Obj},obj h5 j=some y→¬ O j→obj hh j=some y:=fun {j y} hj hn=>(hu.old j (ZE hj) hn).trans hj
  have p6:obj hh (sz h)=_:=old (Zq p4 e5) (nO _ (Nat.le_refl _))
  have c6:obj hh (sz h1)=_:=old (Zq c4 e5) (nO _ (by omega))
  have w6:sz h5≤sz hh:=hu.size
  dsimp only
  refine ZB (fun q=>?_) fun q=>?_
  ·have hi1:i<(ZD c).length:=by omega
   have hg:(ZD c)[i]?=some (ZD c)[i]:=List.getElem?_eq_getElem hi1
   have hdc:l2=(ZD c)[i]::(ZD c).drop (i+1):=by rw [← hdr];exact List.drop_eq_getElem_cons hi1
   have hmk:=List.getElem_mem hi1
   generalize (ZD c)[i]=k at hg hdc hmk
   subst hdc
   have row6:Row hh s 4 ((ZD c).flatMap k4L):=(o4.row.ext e5).congr fun b o hb _ hl=>hu.old b hl (nO _ (rows b (by simp [Sl.blk,hb])).1)
   obtain ⟨b,o,hb9,hlt,hidx,hcc⟩:=Zeu ZaN row6 hg (by decide)
   have v0:=hcc 0 _ rfl
   have v1:=hcc 1 _ rfl
   have v2:=hcc 2 _ rfl
   have v3:=hcc 3 _ rfl
   have hwr:IntKind.wrap .i64 ((i:Int)+1)=((i+1:Nat):Int):=wrS hi1 (by omega)
   refine hidx rfl (rI v0 (rS v1 (rS v2 (rS v3 (YI fun h7 c7 e7 z7=>Zce c7 fun h8 c8 u8 z8=>?_)))))
   have e8:Ext hh h8:=e7.then u8 fun k hk=>by subst hk;exact Nat.le_refl _
   have p8:=Zq p6 e8
   have d8:=Zq c6 e8
   have t8:=ht2.ext e8
   obtain ⟨mb,hc8,hg8⟩:=t8.look k
   refine rP (Zb p8 rfl) (Zp (rM hc8 (rI (Zb c8 rfl) (rS (Zb c8 rfl) (rS (Zb c8 rfl) (rS (Zb c8 rfl) (rI (Zb d8 rfl) ?_)))))))
   rcases hg8 with ⟨hn',_⟩ | ⟨q9,n9,hn',hr9,hq9,hg9,hput⟩
   ·have:=hal2 k hmk;unfold Tree.isNew at this;rw [hn'] at this;cases this
   refine hg9 _ ⟨_,rfl,XY (Zb d8 rfl),XY (Zb p8 rfl),ZmL hr9 fun h10 n10 u10=>?_⟩
   have t10:=hput h10 _ n10 u10
   have p10:obj h10 (sz h)=_:=(u10.old (sz h) (ZE p8) (fun h99=>nO _ (Nat.le_refl _) (hq9 _ h99).1)).trans p8
   refine ⟨XY (Zb p10 rfl),?_⟩
   rw [hwr]
   have hon:t2.on k (fun n=>n.done c.1 rt f)=t2.put k (n9.done c.1 rt f):=by unfold Tree.on;rw [hn']
   refine hQ _ _ ⟨i+1,(ZD c).drop (i+1),t2.on k (fun n=>n.done c.1 rt f),rfl,hi1,rfl,hst,by rw [hon];exact t10,fun j hj=>(ZqB _ _ _ _).trans (hal2 j hj),?_⟩ (by show (ZD c).length - ((i+1:Nat):Int).toNat<(ZD c).length - ((i:Nat):Int).toNat;omega)
   exact (hu.trans (e8.upd O)).trans (u10.mono fun j _ hq=>(hq9 j hq).1)
  ·have hl2:l2=[]:=by rw [← hdr];exact List.drop_eq_nil_of_le (by omega)
   subst hl2
   refine rP (Zb p6 rfl) (rI (Zb c6 rfl) (Zp (ht2.setLast fun h7 t7 u7=>Za (hk h7 ?_ ?_))))
   ·rw [← hst];exact t7
   ·exact ((e05.upd O).trans hu).trans u7
abbrev Zjx:Value:= .agg #[iv 0,.string em,.string em,.string em,.bool false,iv 0,slV nl,.bool true,slV nl]
def ZeE (c:C8) (at_:Int):C8:=(at_,c.2.1,c.2.2.1,c.2.2.2.1,c.2.2.2.2.1,c.2.2.2.2.2.1,nl,())
def Eng.exit (E:Eng) (number at_:Int) (failed:Bool) (c:C8) (m:Nat):Eng:={ E with la:=at_,f:=upd E.f number (some Zjx),fl:=IntKind.wrap .i64 (E.fl - 1),t:=E.t.dones (ZeE c at_) (IntKind.wrap .i64 (at_ - c.1)) failed,n:=m }
inductive Exited (E:Eng) (number at_:Int) (failed:Bool):Eng→Int→Prop
  | none:E.f number=none→Exited E number at_ failed E 40
  | over:E.f number=some Zjx→Exited E number at_ failed E 41
  | range (c:C8):E.f number=some (Zb5 c)→¬ (0≤at_∧at_≤1152921504606846976)→Exited E number at_ failed E 2
  | back (c:C8):E.f number=some (Zb5 c)→at_<E.la→Exited E number at_ failed E 7
  | done (c:C8) (m:Nat):E.f number=some (Zb5 c)→0≤at_∧at_≤1152921504606846976→E.la≤at_→Exited E number at_ failed (E.exit number at_ failed c m) 0
theorem Zpl {h:Zc} {eb st tb fm:Nat} {r:R5} {sh:Sl} {g:Int} {O:Nat→Prop} {E:Eng} (hE:ZdI h eb st tb fm r sh g O E) {number at_:Int} {failed:Bool} (hv:∀ v,E.f number=some v→v=Zjx∨∃ c,v=Zb5 c∧Zgh c)
    {K:Int→Zc→Prop} (hk:∀ h' E' e,Exited E number at_ failed E' e→ZdI h' eb st tb fm r sh g O E'→Upd (Zhd eb fm O) h h'→K e h'):XC (some ⟨eb,0,none⟩) number at_ failed K h:=by
  unfold XC Zbw
  refine Za (Zl rfl (Zp (rM (Zb hE.cells rfl) (hE.map.get number ?_))))
  cases hf:E.f number with
  | none =>
    refine ⟨(0,em,em,em,false,0,nl,false,nl,()),rfl,YI fun h1 c1 e1 z1=>Zce c1 fun h2 c2 u2 z2=>Zh (Zh (ZF rfl (Za ?_)))⟩
    have e2:Ext h h2:=e1.then u2 fun k hk=>by subst hk;exact Nat.le_refl _
    exact hk h2 E 40 (.none hf) (hE.ext e2) (e2.upd _)
  | some v =>
  rcases hv v hf with rfl | ⟨c,rfl,hz⟩
  ·refine ⟨(0,em,em,em,false,0,nl,true,nl,()),rfl,YI fun h1 c1 e1 z1=>Zce c1 fun h2 c2 u2 z2=>Zh (Zh (Zl rfl (rB (Zb c2 rfl) (Zh (ZF rfl (Za ?_))))))⟩
   have e2:Ext h h2:=e1.then u2 fun k hk=>by subst hk;exact Nat.le_refl _
   exact hk h2 E 41 (.over hf) (hE.ext e2) (e2.upd _)
  refine ⟨(c.1,c.2.1,c.2.2.1,c.2.2.2.1,c.2.2.2.2.1,c.2.2.2.2.2.1,nl,false,nl,()),rfl,YI fun h1 c1 e1 z1=>Zce c1 fun h2 c2 u2 z2=>Zh (Zh (Zl rfl (rB (Zb c2 rfl) (Zh (Zl rfl ?_)))))⟩
  have e2:Ext h h2:=e1.then u2 fun k hk=>by subst hk;exact Nat.le_refl _
  have E2:=hE.ext e2
  have U2:Upd (Zhd eb fm O) h h2:=e2.upd _
  refine ZB (fun q=>Za (hk h2 E 2 (.range c hf (by omega)) E2 U2)) fun q=>Zh (ZB (fun q2=>Za (hk h2 E 2 (.range c hf (by omega)) E2 U2)) fun q2=>?_)
  refine Zp (rI (Zb E2.cells rfl) (Zh (ZB (fun q3=>Za (hk h2 E 7 (.back c hf q3) E2 U2)) fun q3=>Zp (Zgn E2.cells (show 0+18<19 by decide) rfl fun h3 c3 u3 z3=>Zp (rM (Zb c3 rfl) ?_)))))
  have leb:eb<sz h:=ZE hE.cells
  have lfm:fm<sz h:=hE.map.lt
  have neb:∀ j,sz h≤j→¬ j=eb:=fun j hj=>by omega
  have nfm:∀ j,sz h≤j→¬ j=fm:=fun j hj=>by omega
  have nO:∀ j,sz h≤j→¬ O j:=fun j hj h9=>by have:=hE.hO j h9;omega
  have E3:=E2.set (fl:=E.fl) (nx:=E.nx) (la:=at_) c3 u3
  have x3:obj h3 (sz h)=_:=(u3.old (sz h) (ZE c2) (neb _ (Nat.le_refl _))).trans c2
  refine E3.map.put number Zjx fun h4 m4 u4 z4=>Zp ?_
  have E4:=E3.mapped m4 u4
  have x4:obj h4 (sz h)=_:=(u4.old (sz h) (ZE x3) (nfm _ (Nat.le_refl _))).trans x3
  refine rI (Zb E4.cells rfl) (Zp (Zgn E4.cells (show 0+16<19 by decide) rfl fun h5 c5 u5 z5=>?_))
  have E5:=E4.set (fl:=IntKind.wrap .i64 (E.fl - 1)) (nx:=E.nx) (la:=at_) c5 u5
  have x5:obj h5 (sz h)=_:=(u5.old (sz h) (ZE x4) (neb _ (Nat.le_refl _))).trans x4
  refine rI (Zb x5 rfl) (Za (Zgn x5 (show 0<9 by decide) rfl fun h6 x6 u6 z6=>Zp ?_))
  have E6:=E5.frame u6 (base:=sz h) (Nat.le_refl _) (nO _ (Nat.le_refl _)) leb lfm hE.lr
  refine rP (Zb E6.cells rfl) (rI (Zb x6 rfl) (rS (Zb x6 rfl) (rS (Zb x6 rfl) (rS (Zb x6 rfl) (rB (Zb x6 rfl) (rI (Zb x6 rfl) (rL (s:=nl) (Zb x6 rfl) ?_)))))))
  refine ZmF (c:=ZeE c at_) E6.tree E6.hO ⟨hz.a,hz.b,hz.c⟩ fun h7 t7 u7=>Zp ?_
  have E7:=E6.tree' t7 u7 ⟨fun j hj=> .inl hj,fun j hj=>hj⟩
  have x7:obj h7 (sz h)=_:=(u7.old (sz h) (ZE x6) (nO _ (Nat.le_refl _))).trans x6
  refine rL (s:=r.1) (Zb E7.cells rfl) (rL (s:=r.2.1) (Zb E7.cells rfl) (rL (s:=r.2.2.1) (Zb E7.cells rfl) (rL (s:=r.2.2.2.1) (Zb E7.cells rfl) (rL (s:=r.2.2.2.2.1) (Zb E7.cells rfl) (rS (Zb x7 rfl) ?_)))))
  have U5:Upd (Zhd eb fm O) h h5:=((U2.trans (u3.mono fun j _ hj=> .inl hj)).trans (u4.mono fun j _ hj=> .inr (.inl hj))).trans (u5.mono fun j _ hj=> .inl hj)
  have U7:Upd (Zhd eb fm O) h h7:=(ZcM U5 u6 fun j hj h9=>by have h98:j=sz h:=h9;omega).trans (u7.mono fun j _ hj=> .inr (.inr hj))
  refine ZkC E7 (.inl rfl) fun h8 e8=>X5 (fun p hh=>p=(0,())∧hh=h8) (fun _ _=>0) ⟨rfl,rfl⟩ ?_
  rintro _ hh ⟨rfl,hh9⟩ Q _
  subst hh9
  exact Zl rfl (Za (hk hh (E.exit number at_ failed c _) 0 (.done c _ hf (by omega) (by omega)) (E7.ext e8) (U7.trans (e8.upd _))))
theorem ZkG {h:Zc} {eb st tb fm:Nat} {r:R5} {sh:Sl} {g:Int} {O:Nat→Prop} {E:Eng} (hE:ZdI h eb st tb fm r sh g O E) {res:ByteArray} {K:Int→Zc→Prop} (hk:∀ h',Ext h h'→K (oFl (E.t.f (clK res))) h'):Y8 (some ⟨eb,0,none⟩) res K h:=by
  unfold Y8 Za0
  refine Za (Zl rfl (Zp (rP (Zb hE.cells rfl) (Zg7 fun h1 e1=>⟨XY (Zb (hE.ext e1).cells rfl),?_⟩))))
  exact ZgT (k:=clK res) (hE.ext e1).tree fun h2 p e2 f2=>ZdH f2 (Za (hk h2 (e1.trans e2)))
abbrev Ops:=List (Int × C8)
instance memK (k:K4) (l:List K4):Decidable (k∈l):=@List.instDecidableMemOfLawfulBEq K4 instBEqOfDecidableEq inferInstance k l
def ZdY:Ops→K4→Nat
  | [],_=>0
  | p::l,k=>(if k∈ZD p.2 then 1 else 0)+ZdY l k
theorem ZdF (k:K4):∀ a b:Ops,ZdY (a++b) k=ZdY a k+ZdY b k
  | [],b=>by simp [ZdY]
  | p::a,b=>by show _+ZdY (a++b) k=_+ZdY a k+_;rw [ZdF k a b];omega
theorem ZoZ (k:K4):∀ a:Ops,ZdY a k≤a.length
  | []=>Nat.le_refl _
  | p::a=>by have:=ZoZ k a;show (if _ then 1 else 0)+ZdY a k≤a.length+1;split<;>omega
theorem Zkx {k:K4}:∀ {a:Ops},(∀ p∈a,k∉ZD p.2)→ZdY a k=0
  | [],_=>rfl
  | p::a,h=>by
    show (if _ then 1 else 0)+ZdY a k=0
    rw [if_neg (h p (List.mem_cons_self ..)),Zkx fun q hq=>h q (List.mem_cons_of_mem _ hq)]
theorem Zp7 {k:K4} {p:Int × C8} {a:Ops} (hp:p∈a) (hk:k∈ZD p.2):1≤ZdY a k:=by
  obtain ⟨x,y,rfl⟩:=List.append_of_mem hp
  rw [ZdF]
  show 1≤ZdY x k+((if k∈ZD p.2 then 1 else 0)+ZdY y k)
  rw [if_pos hk];omega
structure Zig (E:Eng) (op:Ops):Prop where
  fl:E.fl=op.length
  nd:(op.map (·.1)).Nodup
  ent:∀ p∈op,E.f p.1=some (Zb5 p.2)
  out:∀ j v,E.f j=some v→v=Zjx∨∃ c,v=Zb5 c∧(j,c)∈op
  new:∀ j,E.nx≤j→E.f j=none
  ok:∀ p∈op,ZdK p.2=0∧0≤p.2.1∧p.2.1≤E.la∧Zgh p.2
  node:∀ k n,E.t.f k=some n→n.fl=ZdY op k
  has:∀ p∈op,∀ k∈ZD p.2,∃ n,E.t.f k=some n
theorem Zig.none {E:Eng} {op:Ops} (h:Zig E op) {k:K4} (hk:E.t.f k=none):ZdY op k=0:=Zkx fun p hp hm=>by
  obtain ⟨n,hn⟩:=h.has p hp k hm
  rw [hk] at hn;cases hn
theorem Zig.oFl {E:Eng} {op:Ops} (h:Zig E op) (k:K4):oFl (E.t.f k)=ZdY op k:=by
  cases hk:E.t.f k with
  | none=>show (0:Int)=_;rw [h.none hk];rfl
  | some n=>exact h.node k n hk
theorem ZoW {c d:C8} (h:Zb5 c=Zb5 d):(∀ t,ZeE c t=ZeE d t)∧c.1=d.1:=by
  unfold Zb5 at h
  simp only [Value.agg.injEq,Array.mk.injEq,List.cons.injEq,Value.int.injEq,Value.string.injEq,Value.bool.injEq,true_and,and_true] at h
  obtain ⟨h1,h2,h3,h4,h5,h6⟩:=h
  exact ⟨fun t=>by unfold ZeE;rw [h2,h3,h4,h5,h6],h1⟩
theorem Zmt {c:C8} (h:Zb5 c=Zjx):False:=by
  unfold Zb5 at h
  simp at h
theorem Zr6 (c:C8) (t:Int):ZD (ZeE c t)=ZD c:=rfl
theorem ZpW (c:C8) (t:Int):ZdK (ZeE c t)=ZdK c:=rfl
theorem Zui (g:Node→Node):∀ (l:List K4) (t:Tree),l.Nodup→(Tree.ons g l t).keys=t.keys∧∀ k,(k∈l→(Tree.ons g l t).f k=(t.f k).map g)∧(k∉l→(Tree.ons g l t).f k=t.f k)
  | [],t,_=>⟨rfl,fun k=>⟨fun h=>absurd h (by simp),fun _=>rfl⟩⟩
  | x::l,t,hd=>by
    have hx1:=List.nodup_cons.1 hd
    have hf:∀ k,(t.on x g).f k=if k=x then (t.f x).map g else t.f k:=fun k=>by
      unfold Tree.on
      cases h:t.f x with
      | none =>
        show t.f k=_
        by_cases e:k=x
        ·rw [if_pos e,e,h];rfl
        ·rw [if_neg e]
      | some n=>rfl
    obtain ⟨a,b⟩:=Zui g l (t.on x g) hx1.2
    refine ⟨a.trans (Zor ..),fun k=>⟨fun hk=>?_,fun hk=>?_⟩⟩
    ·by_cases e:k=x
     ·subst e
      exact ((b k).2 hx1.1).trans ((hf k).trans (if_pos rfl))
     ·have:k∈l:=by
        rcases List.mem_cons.1 hk with h | h
        ·exact absurd h e
        ·exact h
      refine ((b k).1 this).trans ?_
      rw [hf,if_neg e]
    ·have h1:k≠x:=fun e=>hk (by rw [e];exact List.mem_cons_self ..)
     have h2:k∉l:=fun h=>hk (List.mem_cons_of_mem _ h)
     exact ((b k).2 h2).trans ((hf k).trans (if_neg h1))
theorem ZoX {n:Node} {at_ rt la fl:Int} (h1:0≤at_∧at_≤1152921504606846976) (hr:0≤rt∧rt≤1152921504606846976) (hn:Zd8 la fl n) (hl:la≤at_) (hf:n.fl≠0):doneE n at_ rt=0:=by
  have:=hn.last
  have hw:Y7 n.last at_=0:=by unfold Y7;rw [if_neg (by omega),if_neg (by omega),if_neg (by omega)]
  unfold doneE
  rw [hw,if_neg (by decide),if_neg (fun h9=>h9 hr),if_neg (fun h9=>h9 rfl),if_neg hf]
theorem Zey.mono {E:Eng} {m m':Nat} (h:Zey E m) (hm:m≤m'):Zey E m':=⟨h.keys,h.tl,h.la,h.nodes,by have:=h.fl;omega,by have:=h.nx;omega⟩
theorem Zkv {E E':Eng} {m:Nat} (h:Zey E m) (hm:m≤4000) {op:Ops} (hO:Zig E op) {number at_:Int} {failed:Bool} {e:Int} (hE:Exited E number at_ failed E' e) :
    (e≠0∧E'=E)∨(e=0∧∃ a c b,op=a++(number,c)::b∧Zey E' m∧Zig E' (a++b)∧E'.nx=E.nx):=by
  cases hE with
  | none q=>exact .inl ⟨by decide,rfl⟩
  | over q=>exact .inl ⟨by decide,rfl⟩
  | range c q _=>exact .inl ⟨by decide,rfl⟩
  | back c q _=>exact .inl ⟨by decide,rfl⟩
  | done c mm q hat hla =>
    rcases hO.out number _ q with h9 | ⟨d,hd,hmem⟩
    ·exact (Zmt h9).elim
    obtain ⟨hcd,hc1⟩:=ZoW hd
    obtain ⟨a,b,rfl⟩:=List.append_of_mem hmem
    refine .inr ⟨rfl,a,d,b,rfl,?_⟩
    obtain ⟨hke,hd0,hdl,hds⟩:=hO.ok _ hmem
    dsimp only at hke hd0 hdl hds
    have hfl0:=h.fl
    have hlen:=hO.fl
    rw [List.length_append,List.length_cons] at hlen
    have hrt:IntKind.wrap .i64 (at_ - c.1)=at_ - c.1:=Y9 (by omega) (by omega)
    have hrr:0≤at_ - c.1∧at_ - c.1≤1152921504606846976:=by omega
    have hflw:IntKind.wrap .i64 (E.fl - 1)=(a++b).length:=by rw [Y9 (by omega) (by omega),List.length_append];omega
    have hnz:∀ k∈ZD d,∃ n,E.t.f k=some n∧n.fl≠0:=fun k hk=>by
      obtain ⟨n,hn⟩:=hO.has _ hmem k hk
      refine ⟨n,hn,?_⟩
      have h1:=hO.node k n hn
      have h2:=Zp7 hmem hk
      omega
    have hdE:E.t.doneE (ZeE c at_) (at_ - c.1)=0:=by
      unfold Tree.doneE
      have e1:ZdK (ZeE c at_)=0:=by rw [hcd,ZpW];exact hke
      have e2:(ZeE c at_).1=at_:=rfl
      have e3:(ZD (ZeE c at_)).any E.t.idle=false:=by
        rw [hcd,Zr6,List.any_eq_false]
        intro k hk
        obtain ⟨n,hn,hz⟩:=hnz k hk
        unfold Tree.idle
        rw [hn]
        simpa using hz
      have htl:=h.tl
      rw [e1,e2,e3,if_neg (by decide),if_neg (fun h9=>h9 hat),if_neg (fun h9=>h9 hrr),if_neg (by omega),if_neg (by decide)]
    obtain ⟨o1,o2⟩:=Zui (fun n=>n.done at_ (at_ - c.1) failed) (ZD d) E.t (Zcj d)
    have hT:(E.exit number at_ failed c mm).t=⟨(Tree.ons (fun n=>n.done at_ (at_ - c.1) failed) (ZD d) E.t).f,(Tree.ons (fun n=>n.done at_ (at_ - c.1) failed) (ZD d) E.t).keys,at_⟩:=by
      show E.t.dones (ZeE c at_) (IntKind.wrap .i64 (at_ - c.1)) failed=_
      rw [hrt]
      unfold Tree.dones
      rw [if_pos hdE,hcd]
      rfl
    have hcnt:∀ k,ZdY (a++(number,d)::b) k=ZdY (a++b) k+(if k∈ZD d then 1 else 0):=fun k=>by
      rw [ZdF,ZdF]
      show ZdY a k+((if k∈ZD d then 1 else 0)+ZdY b k)=_
      omega
    have hnode:∀ k n,(E.exit number at_ failed c mm).t.f k=some n→n.fl=ZdY (a++b) k∧n.last≤at_∧∀ i,Rt (n.s i):=fun k n hn=>by
      rw [hT] at hn
      have hn':(Tree.ons (fun n=>n.done at_ (at_ - c.1) failed) (ZD d) E.t).f k=some n:=hn
      by_cases hk:k∈ZD d
      ·obtain ⟨n0,hn0,hz⟩:=hnz k hk
       rw [(o2 k).1 hk,hn0] at hn'
       cases hn'
       have hno:=h.nodes k n0 hn0
       have h1:=hO.node k n0 hn0
       rw [hcnt,if_pos hk] at h1
       show (n0.done at_ (at_ - c.1) failed).fl=_∧(n0.done at_ (at_ - c.1) failed).last≤at_∧∀ i,Rt ((n0.done at_ (at_ - c.1) failed).s i)
       unfold Node.done
       rw [if_pos (ZoX hat hrr hno hla hz)]
       refine ⟨?_,Int.le_refl _,Zpa hno (Rt.done hrr)⟩
       show n0.fl - 1=_
       rw [h1];omega
      ·rw [(o2 k).2 hk] at hn'
       have hno:=h.nodes k n hn'
       have h1:=hO.node k n hn'
       rw [hcnt,if_neg hk] at h1
       exact ⟨h1,Int.le_trans hno.last hla,hno.rt⟩
    have hnd:=hO.nd
    rw [List.map_append,List.map_cons,List.nodup_append] at hnd
    obtain ⟨nd1,nd2,nd3⟩:=hnd
    obtain ⟨nd4,nd5⟩:=List.nodup_cons.1 nd2
    have hne:∀ p∈a++b,p.1≠number:=fun p hp h9=>by
      rcases List.mem_append.1 hp with hp | hp
      ·exact nd3 p.1 (List.mem_map_of_mem hp) number (List.mem_cons_self ..) h9
      ·have h8:p.1∈b.map (·.1):=List.mem_map_of_mem hp
       rw [h9] at h8
       exact nd4 h8
    have hsub:∀ p∈a++b,p∈a++(number,d)::b:=fun p hp=>by
      rcases List.mem_append.1 hp with hp | hp
      ·exact List.mem_append_left _ hp
      ·exact List.mem_append_right _ (List.mem_cons_of_mem _ hp)
    refine ⟨⟨?_,?_,hat.1,fun k n hn=>?_,?_,h.nx⟩,⟨hflw,?_,fun p hp=>?_,fun j v hv=>?_,fun j hj=>?_,fun p hp=>?_,fun k n hn=>(hnode k n hn).1,fun p hp k hk=>?_⟩,rfl⟩
    ·rw [hT];exact o1▸h.keys
    ·rw [hT];exact Int.le_refl _
    ·obtain ⟨g1,g2,g3⟩:=hnode k n hn
     refine ⟨g2,?_,g3⟩
     have:=ZoZ k (a++b)
     show 0≤n.fl∧n.fl≤IntKind.wrap .i64 (E.fl - 1)
     rw [hflw];omega
    ·show 0≤IntKind.wrap .i64 (E.fl - 1)∧IntKind.wrap .i64 (E.fl - 1)≤_
     rw [hflw,List.length_append];omega
    ·rw [List.map_append,List.nodup_append]
     exact ⟨nd1,nd5,fun x hx y hy=>nd3 x hx y (List.mem_cons_of_mem _ hy)⟩
    ·show upd E.f number (some Zjx) p.1=_
     rw [Zc2 _ _ (hne p hp)]
     exact hO.ent p (hsub p hp)
    ·have hv':upd E.f number (some Zjx) j=some v:=hv
     by_cases e:j=number
     ·subst e
      rw [Zcv] at hv'
      exact .inl (Option.some.inj hv').symm
     ·rw [Zc2 _ _ e] at hv'
      rcases hO.out j v hv' with h9 | ⟨x,hx,hxm⟩
      ·exact .inl h9
      ·refine .inr ⟨x,hx,?_⟩
       rcases List.mem_append.1 hxm with h9 | h9
       ·exact List.mem_append_left _ h9
       ·rcases List.mem_cons.1 h9 with h9 | h9
        ·exact absurd (congrArg Prod.fst h9) e
        ·exact List.mem_append_right _ h9
    ·have hj':E.nx≤j:=hj
     have:j≠number:=fun e=>by
       have:=hO.new j hj'
       rw [e,q] at this;cases this
     show upd E.f number (some Zjx) j=none
     rw [Zc2 _ _ this]
     exact hO.new j hj'
    ·obtain ⟨g1,g2,g3,g4⟩:=hO.ok p (hsub p hp)
     exact ⟨g1,g2,Int.le_trans g3 hla,g4⟩
    ·obtain ⟨n,hn⟩:=hO.has p (hsub p hp) k hk
     rw [hT]
     show ∃ n,(Tree.ons (fun n=>n.done at_ (at_ - c.1) failed) (ZD d) E.t).f k=some n
     by_cases hkd:k∈ZD d
     ·exact ⟨_,by rw [(o2 k).1 hkd,hn];rfl⟩
     ·exact ⟨n,by rw [(o2 k).2 hkd];exact hn⟩
theorem Zf5 {E:Eng} {op:Ops} (hO:Zig E op) {c:C8} (hF:Zpj E c) {k:K4} {n:Node} (hn:(E.mid c).t.f k=some n):n.fl=ZdY op k:=by
  rw [ZpQ hF] at hn
  rcases ZfH (ZD c) E.t k with ⟨_,_,q⟩ | ⟨q1,_,q⟩ | ⟨n2,q1,q2⟩
  ·rw [q] at hn;cases hn
  ·rw [q] at hn;cases hn;rw [hO.none q1];rfl
  ·rw [q2] at hn;cases hn;exact hO.node k _ q1
theorem ZoA {E:Eng} {c:C8} (hF:Zpj E c) {k:K4} {n:Node} (hn:E.t.f k=some n):(E.mid c).t.f k=some n:=by
  rw [ZpQ hF]
  rcases ZfH (ZD c) E.t k with ⟨q1,_,_⟩ | ⟨q1,_,_⟩ | ⟨n2,q1,q2⟩
  ·rw [q1] at hn;cases hn
  ·rw [q1] at hn;cases hn
  ·rw [q1] at hn;cases hn;exact q2
theorem ZjJ {E E':Eng} {m:Nat} (h:Zey E m) (hm:m≤4000) {op:Ops} (hO:Zig E op) {n:Int} {c:C8} (hz:Zgh c) {al:List ByteArray} {k:Int} {v:Int × Int × Int × Unit} {e:Int} (hE:Entered E true n c al E' k v e) :
    (k=0∧Zig E' op∧E'.nx=E.nx)∨(e=0∧k=E.nx∧0<k∧Zig E' (op++[(E.nx,c)])∧E'.nx=E.nx+1∧(sA=c.2.1→(ZdY op (clK sA):Int)<n)):=by
  have hfl:=h.fl
  have hnx:=h.nx
  cases hE with
  | bad q=>exact .inl ⟨rfl,hO,rfl⟩
  | block q qb =>
    have hF:=Zff q
    obtain ⟨hM,hk⟩:=Zg1 h hF
    have hl:(E.mid c).fl<4096:=hF.fl
    obtain ⟨a,b,d⟩:=ZfF hF hM hl hk false fun n=>n.blocked c.1 c.2.2.2.2.2.1
    refine .inl ⟨rfl,⟨hO.fl,hO.nd,hO.ent,hO.out,hO.new,fun p hp=>?_,fun k2 n2 hn2=>?_,fun p hp k2 hk2=>?_⟩,rfl⟩
    ·obtain ⟨g1,g2,g3,g4⟩:=hO.ok p hp
     exact ⟨g1,g2,Int.le_trans g3 hF.la,g4⟩
    ·have hn2':((E.mid c).t.noted c false fun n=>n.blocked c.1 c.2.2.2.2.2.1).f k2=some n2:=hn2
     by_cases hkm:k2∈ZD c
     ·rw [(d k2).1 hkm] at hn2'
      obtain ⟨n3,hn3⟩:=hk k2 hkm
      rw [hn3] at hn2'
      cases hn2'
      have:=Zf5 hO hF hn3
      show (n3.blocked c.1 c.2.2.2.2.2.1).fl=_
      unfold Node.blocked
      split<;>exact this
     ·rw [(d k2).2 hkm] at hn2'
      exact Zf5 hO hF hn2'
    ·obtain ⟨n3,hn3⟩:=hO.has p hp k2 hk2
     have hm3:=ZoA hF hn3
     show ∃ n,((E.mid c).t.noted c false fun n=>n.blocked c.1 c.2.2.2.2.2.1).f k2=some n
     by_cases hkm:k2∈ZD c
     ·exact ⟨_,by rw [(d k2).1 hkm,hm3];rfl⟩
     ·exact ⟨_,by rw [(d k2).2 hkm];exact hm3⟩
  | pass m2 q qb =>
    have hF:=Zff q
    obtain ⟨hM,hk⟩:=Zg1 h hF
    have hl:(E.mid c).fl<4096:=hF.fl
    obtain ⟨a,b,d⟩:=ZfF hF hM hl hk true fun n=>n.passed c.1 c.2.2.2.2.2.1
    have e1:IntKind.wrap .i64 (E.fl+1)=E.fl+1:=Y9 (by omega) (by omega)
    have e2:IntKind.wrap .i64 (E.nx+1)=E.nx+1:=Y9 (by omega) (by omega)
    have hcnt:∀ k,ZdY (op++[(E.nx,c)]) k=ZdY op k+(if k∈ZD c then 1 else 0):=fun k=>by rw [ZdF];rfl
    have hnn:∀ p∈op,p.1≠E.nx:=fun p hp h9=>by
      have h1:=hO.ent p hp
      rw [hO.new p.1 (by omega)] at h1;cases h1
    refine .inr ⟨rfl,rfl,by omega,⟨?_,?_,fun p hp=>?_,fun j v hv=>?_,fun j hj=>?_,fun p hp=>?_,fun k2 n2 hn2=>?_,fun p hp k2 hk2=>?_⟩,e2,fun hs=>?_⟩
    ·show IntKind.wrap .i64 (E.fl+1)=_
     rw [e1,List.length_append,hO.fl];rfl
    ·rw [List.map_append,List.nodup_append]
     refine ⟨hO.nd,by simp,fun x hx y hy=>?_⟩
     obtain ⟨p,hp,rfl⟩:=List.mem_map.1 hx
     simp at hy
     subst hy
     exact hnn p hp
    ·show upd E.f E.nx (some (Zb5 c)) p.1=_
     rcases List.mem_append.1 hp with hp | hp
     ·rw [Zc2 _ _ (hnn p hp)];exact hO.ent p hp
     ·simp at hp;subst hp;exact Zcv ..
    ·have hv':upd E.f E.nx (some (Zb5 c)) j=some v:=hv
     by_cases e:j=E.nx
     ·subst e
      rw [Zcv] at hv'
      exact .inr ⟨c,(Option.some.inj hv').symm,by simp⟩
     ·rw [Zc2 _ _ e] at hv'
      rcases hO.out j v hv' with h9 | ⟨x,hx,hxm⟩
      ·exact .inl h9
      ·exact .inr ⟨x,hx,List.mem_append_left _ hxm⟩
    ·have hj':IntKind.wrap .i64 (E.nx+1)≤j:=hj
     rw [e2] at hj'
     show upd E.f E.nx (some (Zb5 c)) j=none
     rw [Zc2 _ _ (by omega)]
     exact hO.new j (by omega)
    ·rcases List.mem_append.1 hp with hp | hp
     ·obtain ⟨g1,g2,g3,g4⟩:=hO.ok p hp
      exact ⟨g1,g2,Int.le_trans g3 hF.la,g4⟩
     ·simp at hp;subst hp;exact ⟨hF.k,hF.at_.1,Int.le_refl _,hz⟩
    ·have hn2':((E.mid c).t.noted c true fun n=>n.passed c.1 c.2.2.2.2.2.1).f k2=some n2:=hn2
     rw [hcnt]
     by_cases hkm:k2∈ZD c
     ·rw [(d k2).1 hkm] at hn2'
      obtain ⟨n3,hn3⟩:=hk k2 hkm
      rw [hn3] at hn2'
      cases hn2'
      have:=Zf5 hO hF hn3
      show (n3.passed c.1 c.2.2.2.2.2.1).fl=_
      unfold Node.passed
      rw [if_pos (Zd2 hF.at_ hF.cnt (hM.nodes k2 n3 hn3) hl).2,if_pos hkm]
      show n3.fl+1=_
      omega
     ·rw [(d k2).2 hkm] at hn2'
      rw [if_neg hkm]
      exact Zf5 hO hF hn2'
    ·show ∃ n,((E.mid c).t.noted c true fun n=>n.passed c.1 c.2.2.2.2.2.1).f k2=some n
     rcases List.mem_append.1 hp with hp | hp
     ·obtain ⟨n3,hn3⟩:=hO.has p hp k2 hk2
      have hm3:=ZoA hF hn3
      by_cases hkm:k2∈ZD c
      ·exact ⟨_,by rw [(d k2).1 hkm,hm3];rfl⟩
      ·exact ⟨_,by rw [(d k2).2 hkm];exact hm3⟩
     ·simp at hp;subst hp
      obtain ⟨n3,hn3⟩:=hk k2 hk2
      exact ⟨_,by rw [(d k2).1 hk2,hn3];rfl⟩
    ·obtain ⟨n3,hn3⟩:=hk (clK sA) (Zfg.2 hs)
     have h3:=Zf5 hO hF hn3
     unfold ZdG at qb
     rw [decide_eq_true hs,Bool.true_and] at qb
     have qb':ZgB true n (ZhK ((E.mid c).t.f (clK c.2.1)) c.1).1 (oFl ((E.mid c).t.f (clK c.2.1))) c.2.2.2.2.2.1=true:=by simpa using qb
     rw [← hs,hn3] at qb'
     unfold ZgB at qb'
     have:n3.fl<n:=of_decide_eq_true qb'
     omega
abbrev D17:=Int × C8 × Bool × Int × Int × Bool × Sl × Sl × Sl × Sl × Sl × Int × Int × Unit
def Zsj (d:D17):List Value:=[iv d.1,iv d.2.1.1,.string d.2.1.2.1,.string d.2.1.2.2.1,.string d.2.1.2.2.2.1,.bool d.2.1.2.2.2.2.1,iv d.2.1.2.2.2.2.2.1,slV d.2.1.2.2.2.2.2.2.1,.bool d.2.2.1,iv d.2.2.2.1,iv d.2.2.2.2.1,.bool d.2.2.2.2.2.1,
  slV d.2.2.2.2.2.2.1,slV d.2.2.2.2.2.2.2.1,slV d.2.2.2.2.2.2.2.2.1,slV d.2.2.2.2.2.2.2.2.2.1,slV d.2.2.2.2.2.2.2.2.2.2.1,iv d.2.2.2.2.2.2.2.2.2.2.2.1,iv d.2.2.2.2.2.2.2.2.2.2.2.2.1]
theorem ZjK (d:D17):(Zsj d).length=19:=rfl
structure In2 (h0 hh:Zc) (eb st tb fm:Nat) (r:R5) (sh:Sl) (g:Int) (O:Nat→Prop) (E:Eng) (n:Int) (i mb:Nat) (F:Int→Option Value) (m:Nat) (op:Ops):Prop where
  e:Ext h0 hh
  eng:ZdI hh eb st tb fm r sh g O E
  fs:E.fs=[Xb true n]
  ok:Zey E i
  ops:Zig E op
  own:∀ j,Zhd eb fm O j→sz h0≤j
  le:(ZdY op (clK sA):Int)≤n
  map:ZdZ hh mb F m
  mo:¬ Zhd eb fm O mb
  mr:r.1.blk≠some mb∧sh.blk≠some mb
  ml:sz h0≤mb
  f1:∀ p∈op,F p.1=if p.2.2.1=sA then some (.bool true) else none
  f2:∀ j,E.nx≤j→F j=none
theorem ZkO {h:Zc} {count:Int} (hcount:0≤count∧count≤255) {l:Sl} {ds:List D17} (hl:Row h l 19 (ds.flatMap Zsj)) (hds:∀ d∈ds,Zfi h d.2.1) {K:Bool→Zc→Prop} (hk:∀ h',Ext h h'→K true h'):YU count l K h:=by
  unfold YU Xt
  have hwc:IntKind.wrap .i64 count=count:=Y9 (by omega) (by omega)
  rw [hwc]
  have hlen:=hl.len
  rw [YV ZjK] at hlen
  have hll:l.len=ds.length:=(Nat.eq_of_mul_eq_mul_right (by decide) hlen).symm
  have hbig:=hl.big
  have hcap:=hl.cap
  refine ZkF fun h1 hf e1=>Za (Zl rfl (YI fun h2 c2 e2 z2=>?_))
  have hf2:ZlV h2 (sz h+4) (sz h):=⟨rfl,Zq hf.cells e2,Zq hf.store e2,hf.tree.ext e2,hf.map.congr (Yi e2 hf.map.lt)⟩
  have o2:Own h2 (sz h1) ⟨some ⟨h1.size,0,none⟩,1,1⟩ 12 (([Xb true count]).flatMap Zi4):=⟨rfl,Nat.le_refl _,(show 1<9223372036854775808 by decide),.inr ⟨h1.size,_,_,rfl,Nat.le_refl _,c2,rfl,rfl⟩⟩
  refine Zje hf2 (r:=(⟨some ⟨h1.size,0,none⟩,1,1⟩,nl,nl,nl,nl,())) (fs:=[Xb true count]) ⟨o2,Own.nil _ _ _,Own.nil _ _ _,Own.nil _ _ _,Own.nil _ _ _⟩ (show 1≤256 by decide) (fun f hf9=>⟨true,count,by simpa using hf9,by omega⟩) fun h3 r sh g hE u3=>Zl rfl (Za (ZdZ.new fun h4 m4 e4 z4=>Za ?_))
  have E03:Ext h h3:=(e1.trans e2).then u3 fun k hk=>hk.1
  have w3:sz h+4<sz h3:=ZE hE.cells
  have base:In2 h h4 (sz h+4) (sz h) (sz h+2) (sz h+3) r sh g (fun j=>j=sz h+1∨j=sz h+2) ⟨[Xb true count],Tree.zero,0,1,0,fun _=>none,0⟩ count 0 (sz h3) (fun _=>none) 0 [] :=
    ⟨E03.trans e4,hE.ext e4,rfl,⟨(show 0≤512 by decide),Int.le_refl _,Int.le_refl _,(fun k n hn=>by cases hn),(show (0:Int)≤0∧(0:Int)≤((0:Nat):Int) by decide),(show (1:Int)≤1∧(1:Int)≤((0:Nat):Int)+1 by decide)⟩,
      ⟨rfl,List.nodup_nil,(fun p hp=>by cases hp),(fun j v hv=>by cases hv),(fun j _=>rfl),(fun p hp=>by cases hp),(fun k n hn=>by cases hn),fun p hp=>by cases hp⟩,(fun j hj=>by unfold Zhd at hj;omega),hcount.1,m4,(fun h9=>by unfold Zhd at h9;omega),
      ⟨fun h9=>by have:=hE.lr _ (.inl h9);omega,fun h9=>by have:=hE.lr _ (.inr h9);omega⟩,by omega,(fun p hp=>by cases hp),fun j _=>rfl⟩
  refine X5 (fun p hh=>∃ (i:Nat) (O:Nat→Prop) (E:Eng) (F:Int→Option Value) (m:Nat) (op:Ops),p=((ZdY op (clK sA):Int),(i:Int),())∧i≤ds.length∧i≤200∧In2 h hh (sz h+4) (sz h) (sz h+2) (sz h+3) r sh g O E count i (sz h3) F m op) (fun p _=>ds.length - p.2.1.toNat) ⟨0,_,_,_,_,[],rfl,Nat.zero_le _,Nat.zero_le _,base⟩ ?_
  rintro _ hh ⟨i,O,E,F,m,op,rfl,hil,hi2,hI⟩ Q hQ
  dsimp only
  rw [hll]
  refine ZB (fun q=>ZB (fun q2=>?_) fun q2=>ZoE hh _ fun h9 e9=>Zh (hk h9 (hI.e.trans e9))) fun q=>ZoE hh _ fun h9 e9=>Zh (hk h9 (hI.e.trans e9))
  have hi1:i<ds.length:=by omega
  have hg:ds[i]?=some ds[i]:=List.getElem?_eq_getElem hi1
  have hm:=List.getElem_mem hi1
  generalize ds[i]=d at hg hm
  have hwr:IntKind.wrap .i64 ((i:Int)+1)=((i+1:Nat):Int):=wrS hi1 (by omega)
  refine ZqG (fun (s:Int × Unit) hx=>∃ O' E' F' m' op',s=((ZdY op' (clK sA):Int),())∧In2 h hx (sz h+4) (sz h) (sz h+2) (sz h+3) r sh g O' E' count (i+1) (sz h3) F' m' op') ?_ fun Q2 hQ2=>?_
  ·rintro _ hx ⟨O',E',F',m',op',rfl,hI'⟩
   dsimp only
   have hle:=hI'.le
   refine ZB (fun q3=>by omega) fun _=>ZkG hI'.eng (res:=sA) fun h9 e9=>ZdB (fun q3=>absurd (hI'.ops.oFl _) q3) fun _=>Za ?_
   rw [hwr]
   refine hQ _ _ ⟨i+1,O',E',F',m',op',rfl,hi1,by omega,⟨hI'.e.trans e9,hI'.eng.ext e9,hI'.fs,hI'.ok,hI'.ops,hI'.own,hI'.le,hI'.map.congr (Yi e9 hI'.map.lt),hI'.mo,hI'.mr,hI'.ml,hI'.f1,hI'.f2⟩⟩ (by show ds.length - ((i+1:Nat):Int).toNat<ds.length - ((i:Nat):Int).toNat;omega)
  obtain ⟨hz,al,ha⟩:=(hds d hm).ext hI.e
  have look:∀ {hx:Zc},Ext h hx→∃ b o,(∀ {K:Nat→Nat→Prop},K b o→Xh l.ptr ds.length (i:Int) 19 K)∧∀ j v,(Zsj d)[j]?=some v→Z8 (o+j) (obj hx b)=some v:=fun {hx} e=>by
    obtain ⟨b,o,hb,hlt,hidx,hc⟩:=Zeu ZjK (hl.ext e) hg (by decide)
    exact ⟨b,o,fun {K} hk=>by have:=hidx (K:=K) (m:=i) rfl hk;rwa [hll] at this,hc⟩
  obtain ⟨b,o,hidx,hc⟩:=look hI.e
  have w0:sz h≤sz hh:=hI.e.size
  have hmlt:=hI.map.lt
  have stay:In2 h hh (sz h+4) (sz h) (sz h+2) (sz h+3) r sh g O E count (i+1) (sz h3) F m op:=⟨hI.e,hI.eng,hI.fs,hI.ok.mono (Nat.le_succ _),hI.ops,hI.own,hI.le,hI.map,hI.mo,hI.mr,hI.ml,hI.f1,hI.f2⟩
  refine hidx (rI (hc 0 _ rfl) (Zh (ZbO (fun q3=>?_) fun q3=>Zh (ZbO (fun q4=>?_) fun q4=>hQ2 _ _ ⟨O,E,F,m,op,rfl,stay⟩))))
  ·
   refine hidx (rI (hc 1 _ rfl) (rS (hc 2 _ rfl) (rS (hc 3 _ rfl) (rS (hc 4 _ rfl) (rB (hc 5 _ rfl) (rI (hc 6 _ rfl) (rL (s:=d.2.1.2.2.2.2.2.2.1) (hc 7 _ rfl) ?_)))))))
   refine ZgV hI.eng hI.fs (by omega) (c:=d.2.1) hz ha (ZkQ hI.ok _) fun h4 O4 E4 k v e hent hE4 u4 g4=>YI fun h5 c5 e5 z5=>Za (Zce c5 fun h6 c6 u6 z6=>Za ?_)
   have hOK:=Zi5 hI.ok (by omega) hent
   have hEO:=ZjJ hI.ok (by omega) hI.ops hz hent
   have hfs4:E4.fs=[Xb true count]:=by cases hent<;>exact hI.fs
   have e46:Ext h4 h6:=e5.then u6 fun k hk=>by subst hk;exact Nat.le_refl _
   have w4:sz hh≤sz h4:=u4.size
   have E04:Ext h h4:=hI.e.then u4 fun k hk=>hI.own k hk
   have own4:∀ j,Zhd (sz h+4) (sz h+3) O4 j→sz h≤j:=fun j hj=>by
     rcases hj with hj | hj | hj
     ·omega
     ·omega
     ·rcases g4.1 j hj with q9 | q9
      ·exact hI.own j (.inr (.inr q9))
      ·omega
   have mo4:¬ Zhd (sz h+4) (sz h+3) O4 (sz h3):=fun h9=>by
     rcases h9 with h9 | h9 | h9
     ·exact hI.mo (.inl h9)
     ·exact hI.mo (.inr (.inl h9))
     ·rcases g4.1 _ h9 with q9 | q9
      ·exact hI.mo (.inr (.inr q9))
      ·have:sz h3<sz hh:=hmlt
       omega
   have map6:ZdZ h6 (sz h3) F m:=(hI.map.congr (u4.old _ hmlt hI.mo)).congr (Yi e46 (Nat.lt_of_lt_of_le hmlt w4))
   rcases hEO with ⟨rfl,hOp,hnx⟩ | ⟨rfl,rfl,hpos,hOp,hnx,hlt⟩
   ·have stay6:In2 h h6 (sz h+4) (sz h) (sz h+2) (sz h+3) r sh g O4 E4 count (i+1) (sz h3) F m op:=⟨E04.trans e46,hE4.ext e46,hfs4,hOK,hOp,own4,hI.le,map6,mo4,hI.mr,hI.ml,hI.f1,fun j hj=>hI.f2 j (by omega)⟩
    have fin:=hQ2 _ _ ⟨O4,E4,F,m,op,rfl,stay6⟩
    exact ZbO (fun _=>Zl rfl fin) fun _=>fin
   ·obtain ⟨b2,o2,hidx2,hc2⟩:=look (E04.trans e46)
    refine ZF rfl (ZF (decide_eq_true hpos) (hidx2 (rS (hc2 2 _ rfl) ?_)))
    rw [ZeK]
    have hnn:∀ p∈op,p.1≠E.nx:=fun p hp h9=>by
      have h1:=hI.ops.ent p hp
      rw [hI.ops.new p.1 (by omega)] at h1;cases h1
    have hcn:ZdY (op++[(E.nx,d.2.1)]) (clK sA)=ZdY op (clK sA)+(if clK sA∈ZD d.2.1 then 1 else 0):=by rw [ZdF];rfl
    by_cases hres:d.2.1.2.1=sA
    ·rw [decide_eq_true hres]
     refine ZF rfl (Za ?_)
     have hlt':=hlt hres.symm
     have hw1:IntKind.wrap .i64 ((ZdY op (clK sA):Int)+1)=(ZdY (op++[(E.nx,d.2.1)]) (clK sA):Int):=by
       rw [hcn,if_pos (Zfg.2 hres.symm),Y9 (by omega) (by omega)];rfl
     rw [hw1]
     refine map6.put E.nx (.bool true) fun h7 m7 u7 z7=>hQ2 _ _ ⟨O4,E4,upd F E.nx (some (.bool true)),(if (F E.nx).isSome then m else m+1),op++[(E.nx,d.2.1)],rfl,?_⟩
     have w6:sz h4≤sz h6:=e46.size
     refine ⟨(E04.trans e46).then u7 fun k hk=>by subst hk;exact hI.ml,(hE4.ext e46).frameS u7 (fun h9=>mo4 (.inl h9.symm)) (fun h9=>mo4 (.inr (.inl h9.symm))) (fun j hj h9=>mo4 (.inr (.inr (h9▸hj)))) (fun b hb h9=>?_),hfs4,hOK,hOp,own4,?_,m7,mo4,hI.mr,hI.ml,fun p hp=>?_,fun j hj=>?_⟩
     ·subst h9
      rcases hb with hb | hb
      ·exact hI.mr.1 hb
      ·exact hI.mr.2 hb
     ·rw [hcn,if_pos (Zfg.2 hres.symm)];omega
     ·rcases List.mem_append.1 hp with hp | hp
      ·rw [Zc2 _ _ (hnn p hp)];exact hI.f1 p hp
      ·simp at hp;subst hp;rw [Zcv,if_pos hres]
     ·rw [Zc2 _ _ (by omega)];exact hI.f2 j (by omega)
    ·rw [decide_eq_false hres]
     have hcn':ZdY (op++[(E.nx,d.2.1)]) (clK sA)=ZdY op (clK sA):=by rw [hcn,if_neg (fun h9=>hres (Zfg.1 h9).symm)];rfl
     refine Zl rfl (hQ2 _ _ ⟨O4,E4,F,m,op++[(E.nx,d.2.1)],by rw [hcn'],?_⟩)
     refine ⟨E04.trans e46,hE4.ext e46,hfs4,hOK,hOp,own4,by rw [hcn'];exact hI.le,map6,mo4,hI.mr,hI.ml,fun p hp=>?_,fun j hj=>hI.f2 j (by omega)⟩
     rcases List.mem_append.1 hp with hp | hp
     ·exact hI.f1 p hp
     ·simp at hp;subst hp;rw [if_neg hres];exact hI.f2 _ (Int.le_refl _)
  ·
   refine hidx (hidx (hidx (rI (hc 9 _ rfl) (rI (hc 10 _ rfl) (rB (hc 11 _ rfl) ?_)))))
   refine Zpl hI.eng (fun v hv=>?_) fun h4 E4 e hex hE4 u4=>?_
   ·rcases hI.ops.out _ v hv with h9 | ⟨c,h9,hc9⟩
    ·exact .inl h9
    ·exact .inr ⟨c,h9,(hI.ops.ok _ hc9).2.2.2⟩
   have E04:Ext h h4:=hI.e.then u4 fun k hk=>hI.own k hk
   have map4:ZdZ h4 (sz h3) F m:=hI.map.congr (u4.old _ hmlt hI.mo)
   have hfs4:E4.fs=[Xb true count]:=by cases hex<;>exact hI.fs
   rcases Zkv hI.ok (by omega) hI.ops hex with ⟨he,hEE⟩ | ⟨he,a,c,bb,hop,hOK,hOp,hnx⟩
   ·subst hEE
    exact ZbO (fun q9=>absurd q9 he) fun _=>hQ2 _ _ ⟨O,E4,F,m,op,rfl,⟨E04,hE4,hI.fs,hI.ok.mono (Nat.le_succ _),hI.ops,hI.own,hI.le,map4,hI.mo,hI.mr,hI.ml,hI.f1,hI.f2⟩⟩
   ·subst he
    obtain ⟨b2,o2,hidx2,hc2⟩:=look E04
    refine ZF rfl (hidx2 (rI (hc2 9 _ rfl) (map4.get _ ?_)))
    have hmem:(d.2.2.2.1,c)∈op:=by rw [hop];exact List.mem_append_right _ (List.mem_cons_self ..)
    have hFn:=hI.f1 _ hmem
    dsimp only at hFn
    have hcn:ZdY op (clK sA)=ZdY (a++bb) (clK sA)+(if clK sA∈ZD c then 1 else 0):=by
      rw [hop,ZdF,ZdF]
      show ZdY a _+((if clK sA∈ZD c then 1 else 0)+ZdY bb _)=_
      omega
    have hsub:∀ p∈a++bb,p∈op:=fun p hp=>by
      rw [hop]
      rcases List.mem_append.1 hp with hp | hp
      ·exact List.mem_append_left _ hp
      ·exact List.mem_append_right _ (List.mem_cons_of_mem _ hp)
    have next:In2 h h4 (sz h+4) (sz h) (sz h+2) (sz h+3) r sh g O E4 count (i+1) (sz h3) F m (a++bb):=⟨E04,hE4,hfs4,hOK.mono (Nat.le_succ _),hOp,hI.own,by have:=hI.le;omega,map4,hI.mo,hI.mr,hI.ml,fun p hp=>hI.f1 p (hsub p hp),fun j hj=>hI.f2 j (by omega)⟩
    have hle:=hI.le
    by_cases hres:c.2.1=sA
    ·rw [hFn,if_pos hres]
     refine ⟨true,rfl,ZF rfl (Za (hQ2 _ _ ⟨O,E4,F,m,a++bb,?_,next⟩))⟩
     have hcn1:ZdY op (clK sA)=ZdY (a++bb) (clK sA)+1:=by rw [hcn,if_pos (Zfg.2 hres.symm)]
     have hw:IntKind.wrap .i64 ((ZdY op (clK sA):Int) - 1)=(ZdY (a++bb) (clK sA):Int):=by rw [Y9 (by omega) (by omega)];omega
     rw [hw]
    ·rw [hFn,if_neg hres]
     refine ⟨false,rfl,Zl rfl (hQ2 _ _ ⟨O,E4,F,m,a++bb,?_,next⟩)⟩
     rw [hcn,if_neg (fun h9=>hres (Zfg.1 h9).symm)]
     rfl
end Go.Proofs.YthbfgkphlmlihaaGreat
namespace Go.Proofs.YthbfgkphlmlihaaGreat
open Go Go.Fw Go.ChangeShapes Go.WideShapes
section
variable {H:Type} {enc:TypeId × Value→H} {P:Program} {w:World} {base:Nat} {spare:Nat→Bool} {held:Bool}
theorem ZkB {u t:TypeId} {fuel:Nat} {v:Value} {x:DataW H × List MemPlace} (hu:P.underlying u=some (.slice t)) (h:DataW.trod enc P w base spare held fuel u [v]=some x):∃ s:Sl,v=slV s:=by
  rcases Deep.open_slice hu h with ⟨hcs,_⟩ | ⟨a',len',cap',m,n',D,Pl,hcs,_⟩
  ·simp at hcs;exact ⟨⟨_,_,_⟩,hcs⟩
  ·simp at hcs;exact ⟨⟨_,_,_⟩,hcs⟩
theorem Zmz {t:TypeId} {fs:Array Field} {cs:List Value} {fuel:Nat} {x:DataW H × List MemPlace} (ht:P.underlying t=some (.struct fs)) (hc:P.cellsOf t=5) {t1 t2 t3 t4 t5 e1 e2 e3 e4 e5:TypeId}
    (h1:P.underlying t1=some (.slice e1)) (h2:P.underlying t2=some (.slice e2)) (h3:P.underlying t3=some (.slice e3)) (h4:P.underlying t4=some (.slice e4)) (h5:P.underlying t5=some (.slice e5))
    (c1:P.cellsOf t1=1) (c2:P.cellsOf t2=1) (c3:P.cellsOf t3=1) (c4:P.cellsOf t4=1) (c5:P.cellsOf t5=1) (hf:fs.toList.map (fun f=>(f.type,f.offset))=[(t1,0),(t2,1),(t3,2),(t4,3),(t5,4)])
    (h:DataW.trod enc P w base spare held fuel t cs=some x):∃ a b c d e:Sl,cs=[slV a,slV b,slV c,slV d,slV e]:=by
  obtain ⟨xs,n,rfl,rfl,hl,hlen,hall⟩:=DataW.trod_struct ht h
  rw [hc] at hl
  have hfl:fs.size=5:=by
    have:=congrArg List.length hf
    simpa using this
  match cs,hl with
  | [a0,a1,a2,a3,a4],_ =>
    have fld:∀ {i:Nat} {p:TypeId × Nat} (hi:i<xs.length),([(t1,0),(t2,1),(t3,2),(t4,3),(t5,4)]:List (TypeId × Nat))[i]?=some p→DataW.trod enc P w base spare held n p.1 (([a0,a1,a2,a3,a4].drop p.2).take (P.cellsOf p.1))=some xs[i]:=fun {i p} hi hp=>by
      obtain ⟨f,g1,g2,g3⟩:=ZjH hf hp
      have:=hall i f g1
      rw [g2,g3,List.getElem?_eq_getElem hi] at this
      exact this
    have f0:=fld (i:=0) (by omega) rfl
    have f1:=fld (i:=1) (by omega) rfl
    have f2:=fld (i:=2) (by omega) rfl
    have f3:=fld (i:=3) (by omega) rfl
    have f4:=fld (i:=4) (by omega) rfl
    dsimp only at f0 f1 f2 f3 f4
    rw [c1] at f0
    rw [c2] at f1
    rw [c3] at f2
    rw [c4] at f3
    rw [c5] at f4
    obtain ⟨a,rfl⟩:=ZkB h1 f0
    obtain ⟨b,rfl⟩:=ZkB h2 f1
    obtain ⟨c,rfl⟩:=ZkB h3 f2
    obtain ⟨d,rfl⟩:=ZkB h4 f3
    obtain ⟨e,rfl⟩:=ZkB h5 f4
    exact ⟨a,b,c,d,e,rfl⟩
theorem ZmA {t:TypeId} {fs:Array Field} {cs:List Value} {fuel:Nat} {x:DataW H × List MemPlace} (ht:P.underlying t=some (.struct fs)) (hc:P.cellsOf t=19) {ti tc tb tr:TypeId} (hti:P.underlying ti=some (.int .i64)) (htb:P.underlying tb=some .bool)
    (ci:P.cellsOf ti=1) (cb:P.cellsOf tb=1) (cc:P.cellsOf tc=7) (cr:P.cellsOf tr=5) (hf:fs.toList.map (fun f=>(f.type,f.offset))=[(ti,0),(tc,1),(tb,8),(ti,9),(ti,10),(tb,11),(tr,12),(ti,17),(ti,18)])
    (hcall:∀ {fuel:Nat} {cs:List Value} {x:DataW H × List MemPlace},DataW.trod enc P w base spare held fuel tc cs=some x→∃ c:C8,cs=c8L c∧Zfi w.heap c)
    (hrules:∀ {fuel:Nat} {cs:List Value} {x:DataW H × List MemPlace},DataW.trod enc P w base spare held fuel tr cs=some x→∃ a b c d e:Sl,cs=[slV a,slV b,slV c,slV d,slV e])
    (h:DataW.trod enc P w base spare held fuel t cs=some x):∃ d:D17,cs=Zsj d∧Zfi w.heap d.2.1:=by
  obtain ⟨xs,n,rfl,rfl,hl,hlen,hall⟩:=DataW.trod_struct ht h
  rw [hc] at hl
  have hfl:fs.size=9:=by
    have:=congrArg List.length hf
    simpa using this
  match cs,hl with
  | [a0,a1,a2,a3,a4,a5,a6,a7,a8,a9,a10,a11,a12,a13,a14,a15,a16,a17,a18],_ =>
    have fld:∀ {i:Nat} {p:TypeId × Nat} (hi:i<xs.length),([(ti,0),(tc,1),(tb,8),(ti,9),(ti,10),(tb,11),(tr,12),(ti,17),(ti,18)]:List (TypeId × Nat))[i]?=some p→DataW.trod enc P w base spare held n p.1 (([a0,a1,a2,a3,a4,a5,a6,a7,a8,a9,a10,a11,a12,a13,a14,a15,a16,a17,a18].drop p.2).take (P.cellsOf p.1))=some xs[i]:=fun {i p} hi hp=>by
      obtain ⟨f,g1,g2,g3⟩:=ZjH hf hp
      have:=hall i f g1
      rw [g2,g3,List.getElem?_eq_getElem hi] at this
      exact this
    have f0:=fld (i:=0) (by omega) rfl
    have f1:=fld (i:=1) (by omega) rfl
    have f2:=fld (i:=2) (by omega) rfl
    have f3:=fld (i:=3) (by omega) rfl
    have f4:=fld (i:=4) (by omega) rfl
    have f5:=fld (i:=5) (by omega) rfl
    have f6:=fld (i:=6) (by omega) rfl
    have f7:=fld (i:=7) (by omega) rfl
    have f8:=fld (i:=8) (by omega) rfl
    dsimp only at f0 f1 f2 f3 f4 f5 f6 f7 f8
    rw [ci] at f0 f3 f4 f7 f8
    rw [cb] at f2 f5
    rw [cc] at f1
    rw [cr] at f6
    obtain ⟨n0,h0,_⟩:=DataW.trod_int hti f0
    obtain ⟨c,hcs,hin⟩:=hcall f1
    obtain ⟨b2,h2,_⟩:=DataW.trod_bool htb f2
    obtain ⟨n3,h3,_⟩:=DataW.trod_int hti f3
    obtain ⟨n4,h4,_⟩:=DataW.trod_int hti f4
    obtain ⟨b5,h5,_⟩:=DataW.trod_bool htb f5
    obtain ⟨ra,rb,rc,rd,re,hr⟩:=hrules f6
    obtain ⟨n7,h7,_⟩:=DataW.trod_int hti f7
    obtain ⟨n8,h8,_⟩:=DataW.trod_int hti f8
    simp at h0 h2 h3 h4 h5 h7 h8
    subst h0 h2 h3 h4 h5 h7 h8
    simp only [List.drop,List.take,c8L,List.cons.injEq,and_true] at hcs hr
    obtain ⟨rfl,rfl,rfl,rfl,rfl,rfl,rfl⟩:=hcs
    obtain ⟨rfl,rfl,rfl,rfl,rfl⟩:=hr
    exact ⟨(n0,c,b2,n3,n4,b5,ra,rb,rc,rd,re,n7,n8,()),rfl,hin⟩
theorem Zli {u t:TypeId} {fs:Array Field} {fuel:Nat} {a:Option Addr} {len cap:Nat} {x:DataW H × List MemPlace} (hu:P.underlying u=some (.slice t)) (ht:P.underlying t=some (.struct fs)) (hc:P.cellsOf t=19) {ti tc tb tr ts tl:TypeId} {fc fr:Array Field} {t1 t2 t3 t4 t5 e1 e2 e3 e4 e5:TypeId}
    (hti:P.underlying ti=some (.int .i64)) (htb:P.underlying tb=some .bool) (hts:P.underlying ts=some .string) (htl:P.underlying tl=some (.slice ts)) (htc:P.underlying tc=some (.struct fc)) (htr:P.underlying tr=some (.struct fr))
    (h1:P.underlying t1=some (.slice e1)) (h2:P.underlying t2=some (.slice e2)) (h3:P.underlying t3=some (.slice e3)) (h4:P.underlying t4=some (.slice e4)) (h5:P.underlying t5=some (.slice e5))
    (hcell:P.cellsOf ti=1∧P.cellsOf tb=1∧P.cellsOf ts=1∧P.cellsOf tl=1∧P.cellsOf tc=7∧P.cellsOf tr=5∧P.cellsOf t1=1∧P.cellsOf t2=1∧P.cellsOf t3=1∧P.cellsOf t4=1∧P.cellsOf t5=1)
    (hf:fs.toList.map (fun f=>(f.type,f.offset))=[(ti,0),(tc,1),(tb,8),(ti,9),(ti,10),(tb,11),(tr,12),(ti,17),(ti,18)])
    (hfc:fc.toList.map (fun f=>(f.type,f.offset))=[(ti,0),(ts,1),(ts,2),(ts,3),(tb,4),(ti,5),(tl,6)])
    (hfr:fr.toList.map (fun f=>(f.type,f.offset))=[(t1,0),(t2,1),(t3,2),(t4,3),(t5,4)])
    (h:DataW.trod enc P w base spare held fuel u [.slice a len cap]=some x):∃ l:List D17,Row w.heap ⟨a,len,cap⟩ 19 (l.flatMap Zsj)∧∀ d,d∈l→Zfi w.heap d.2.1:=by
  obtain ⟨ci,cb,csz,cl,cc,cr,c1,c2,c3,c4,c5⟩:=hcell
  haveI:Inhabited D17:=⟨(0,c0,false,0,0,false,nl,nl,nl,nl,nl,0,0,())⟩
  exact Zia (Pa:=fun d:D17=>Zfi w.heap d.2.1) ZjK (by decide) hu hc (ZmA ht hc hti htb ci cb cc cr hf (Zqe htc cc hti hts htb htl ci csz cb cl hfc) (Zmz htr cr h1 h2 h3 h4 h5 c1 c2 c3 c4 c5 hfr)) h
end
theorem ZgU {h:Zc} {count:Int} {l:Sl} {ds:List D17} {K:Bool→Zc→Prop} (hcount:0≤count∧count<256) (hl:Row h l 19 (ds.flatMap Zsj)∧∀ d,d∈ds→Zfi h d.2.1) (hk:∀ h',Ext h h'→K true h'):YU count l K h :=
  ZkO (by omega) hl.1 hl.2 hk
end Go.Proofs.YthbfgkphlmlihaaGreat
