/- The cluster, in plain words: what is under way and granted, through every operation. -/
import Derived.KernelRfl
import Derived.Test.YtbppjmcinoffnaaGreatPa16
set_option linter.unusedVariables false
set_option linter.unusedSimpArgs false
namespace Go.Proofs.YtbppjmcinoffnaaGreat
open Go Go.Fw
open Nat renaming reduceAdd→Nqa,reduceLT→Nqb,reduceLeDiff→Nqc,reduceEqDiff→Nqd,reduceMul→Nqe
section
variable {A:Zbl} {w:Cu}
theorem Zxm {a:An} (h:Zcj (Ztf a)=0):ZeG a=true∧Ztf a=ZgA a:=by
  unfold Ztf at h ⊢
  split
  ·rename_i e;exact ⟨e,rfl⟩
  ·rename_i e
   rw [if_neg e] at h
   exact absurd h (by decide)
theorem ZpZ {a:An}:Zez (ZgA a)=fr [ZgA a]:=by
  have hl:(ZgA a).length=33:=rfl
  unfold Zez
  rw [if_neg (by rw [hl];decide)]
  unfold fr
  simp
theorem GI.serve (h:GI A w) {i:Nat} {p:Pe} (hp:w.pes[i]?=some p) (hc0:p.conn≠0) {lb:List UInt8} (hr:Ztg A i lb) :
    GI A (w.serveR i p.conn lb).2∧(w.serveR i p.conn lb).2.pes=w.pes∧(w.serveR i p.conn lb).2.now=w.now:=by
  obtain ⟨r,hb,rfl,hq⟩:=hr
  unfold Cu.serveR
  rw [ZtN hb,if_neg (fun e=>e rfl)]
  dsimp only
  split
  ·exact ⟨⟨h.pes,h.uniq⟩,rfl,rfl⟩
  rename_i e0
  have e0:(Tk.doV w.srv w.now p.conn r).1.2=0:=Classical.byContradiction e0
  have hid:(Tk.doV w.srv w.now p.conn r).1.1.1=r.1:=by
    rcases Tk.ZmU w.srv w.now p.conn r with ⟨q,_⟩ | ⟨_,_,q,_⟩
    ·exact (q e0).elim
    ·exact q
  generalize (Tk.doV w.srv w.now p.conn r).1.1=a at hid
  generalize (Tk.doV w.srv w.now p.conn r).2=S
  have hn:∃ g',Cu.noted { w with srv:=S } i r a={ w with srv:=S,grs:=g' }∧(∀ x,x∈w.grs→x∈g')∧Zpb A g' w.now i a:=by
    unfold Cu.noted
    split
    ·rename_i e1
     split
     ·rename_i e5
      refine ⟨w.grs,rfl,fun _ q=>q,fun _ q=>?_⟩
      rcases hq with ⟨_,q0⟩ | ⟨q5,_⟩
      ·exact (q (hid.trans q0)).elim
      ·exact (q5 e5).elim
     ·rename_i e5
      refine ⟨w.grs++[(w.now,(i:Int),r.1,r)],rfl,fun _ q=>List.mem_append_left _ q,fun _ _=>⟨(w.now,(i:Int),r.1,r),by simp,rfl,hid.symm,?_,Int.le_refl _⟩⟩
      rcases hq with ⟨q5,_⟩ | ⟨_,q⟩
      ·exact (e5 q5).elim
      ·rw [hid];exact q
    ·rename_i e1
     exact ⟨w.grs,rfl,fun _ q=>q,fun q _=>(e1 q).elim⟩
  obtain ⟨g',e2,hg',ha⟩:=hn
  rw [e2]
  have ho:On3 A A w.grs g' w.now w.now:=⟨fun _ _ _ q=>q,hg',Int.le_refl _,rfl⟩
  have h2:GI A { w with srv:=S,grs:=g' }:=⟨fun j q hq=>(h.pes j q hq).on ho (h.pes j q hq).w.dom fun _ _ q=>q,h.uniq⟩
  unfold Cu.said
  split
  ·rename_i ef
   obtain ⟨hra,eb⟩:=Zxm ef
   rw [eb,ZpZ]
   have hg:=h2.pes i p hp
   obtain ⟨c,LL,AA,st,hl⟩:=hg.ln hc0
   have hk:1≤p.conn:=by have:=hg.w.pos;omega
   refine ⟨?_,rfl,rfl⟩
   rcases Zvb hk hl.at_ hl.brk (j:=1) (by decide) (fr [ZgA a]) with ⟨_,q2⟩ | ⟨_,q2⟩
   ·have q2:(St.wrS w.cs p.conn 1 (fr [ZgA a])).2=_:=q2
    show GI A { w with srv:=S,grs:=g',cs:=(St.wrS w.cs p.conn 1 (fr [ZgA a])).2 }
    rw [q2]
    refine ⟨fun j q hq9=>?_,h.uniq⟩
    by_cases hj:j=i
    ·subst hj
     rw [hp] at hq9
     cases Option.some.inj hq9
     refine ⟨hg.w,fun e=>(hc0 e).elim,fun _=>⟨_,LL,AA++[ZgA a],st,List.getElem?_set_self (Xk hl.at_),hl.brk,hl.rd,hl.req,hl.go,fun x hx=>?_,?_⟩⟩
     ·rcases List.mem_append.1 hx with hx | hx
      ·exact hl.ans x hx
      ·simp only [List.mem_cons,List.not_mem_nil,or_false] at hx
       subst hx
       exact ⟨a,hra,rfl,ha⟩
     ·show p.cl.rb++(c.s1.way++fr [ZgA a])=_
      rw [Zvx,← hl.back,List.append_assoc]
    ·exact (h2.x i).other hp hg.w.pos hq9 hj (fun m d hm hd=>Zmf (hm.resolve_right hc0) hd) (On3.refl _ _ _) fun n hn=>hn
   ·have q2:(St.wrS w.cs p.conn 1 (fr [ZgA a])).2=_:=q2
    show GI A { w with srv:=S,grs:=g',cs:=(St.wrS w.cs p.conn 1 (fr [ZgA a])).2 }
    rw [q2]
    exact h2
  ·exact ⟨h2,rfl,rfl⟩
theorem GI.serveL {i:Nat} {p:Pe} (hc0:p.conn≠0):∀ (l:List (List UInt8)) {w:Cu},GI A w→w.pes[i]?=some p→(∀ x,x∈l→Ztg A i x) →
    GI A (w.serveL i p.conn l).2∧(w.serveL i p.conn l).2.pes=w.pes∧(w.serveL i p.conn l).2.now=w.now
  | [],_,h,_,_=>⟨h,rfl,rfl⟩
  | x::l,w,h,hp,hr=>by
    obtain ⟨h1,h2,h3⟩:=h.serve hp hc0 (hr x (List.mem_cons_self ..))
    unfold Cu.serveL
    split
    ·obtain ⟨g1,g2,g3⟩:=GI.serveL hc0 l h1 (by rw [h2];exact hp) fun y hy=>hr y (List.mem_cons_of_mem _ hy)
     exact ⟨g1,g2.trans h2,g3.trans h3⟩
    ·exact ⟨h1,h2,h3⟩
theorem GI.toSrv {tmo:Int} {m:Nat} (h:GI A w) (hC:ZaT tmo w m) (i:Nat) (most:Int):GI A (w.toSrvR i most).2:=by
  unfold Cu.toSrvR
  split
  ·exact h
  rename_i p hp
  have hP:=hC.pes i p hp
  have hg:=h.pes i p hp
  split
  ·exact h
  rename_i hm
  obtain ⟨m1,m2,m3⟩:=ZoH hm
  obtain ⟨c,LL,AA,st,hl⟩:=hg.ln m2
  have hk:1≤p.conn:=by have:=hg.w.pos;omega
  rw [hl.rd]
  dsimp only
  obtain ⟨k,ek⟩:=ZoI hC.net hk hl.at_ hl.brk (j:=0) (by decide) m3
  rw [ek]
  dsimp only
  have hgo:(st++c.s0.way.take k)++(c.s0.way.drop k++p.cl.out)=fr LL:=by
    rw [← hl.go]
    simp only [List.append_assoc]
    rw [← List.append_assoc (c.s0.way.take k),List.take_append_drop]
  obtain ⟨l1,l2,q1,q2,q3⟩:=ZjB LL (fun x hx=>(hl.req x hx).good) _ _ hgo
  have hput:putS st false ((c.side 0).way.take k)=(l1,false,(Ze3 (st++c.s0.way.take k)).2.2):=q2
  rw [hput]
  dsimp only
  generalize (Ze3 (st++c.s0.way.take k)).2.2=rest at q3
  have h1:GI A { w with cs:=w.cs.set (p.conn - 1).toNat (c.putS 0 ⟨(c.side 0).way.drop k,[],(c.side 0).x⟩),pes:=w.pes.set i { p with rd:=some (rest,false)}}:=by
    refine ⟨fun j q hq=>?_,Zee h.uniq hp (.inl rfl)⟩
    rcases Xm hq with ⟨rfl,rfl,_⟩ | ⟨hj,hq⟩
    ·exact ⟨hg.w.cg (c':=p.cl) (CG.refl _ _) hg.w.pos _,fun e=>(m2 e).elim,fun _=>⟨_,l2,AA,rest,List.getElem?_set_self (Xk hl.at_),hl.brk,rfl,fun x hx=>hl.req x (by rw [q1];exact List.mem_append_right _ hx),q3,hl.ans,hl.back⟩⟩
    ·exact (h.x i).other hp hg.w.pos hq hj (fun m d hm hd=>Zmf (hm.resolve_right m2) hd) (On3.refl _ _ _) fun n hn=>hn
  have hp1:(w.pes.set i { p with rd:=some (rest,false)})[i]?=some { p with rd:=some (rest,false)}:=List.getElem?_set_self (Xk hp)
  obtain ⟨g1,g2,g3⟩:=GI.serveL (p:={ p with rd:=some (rest,false)}) m2 l1 h1 hp1 fun x hx=>hl.req x (by rw [q1];exact List.mem_append_left _ hx)
  have g1:GI A (Cu.serveL { w with cs:=w.cs.set (p.conn - 1).toNat (c.putS 0 ⟨(c.side 0).way.drop k,[],(c.side 0).x⟩),pes:=w.pes.set i { p with rd:=some (rest,false)}} i p.conn l1).2:=g1
  have g2:(Cu.serveL { w with cs:=w.cs.set (p.conn - 1).toNat (c.putS 0 ⟨(c.side 0).way.drop k,[],(c.side 0).x⟩),pes:=w.pes.set i { p with rd:=some (rest,false)}} i p.conn l1).2.pes=w.pes.set i { p with rd:=some (rest,false)}:=g2
  have g3:(Cu.serveL { w with cs:=w.cs.set (p.conn - 1).toNat (c.putS 0 ⟨(c.side 0).way.drop k,[],(c.side 0).x⟩),pes:=w.pes.set i { p with rd:=some (rest,false)}} i p.conn l1).2.now=w.now:=g3
  generalize Cu.serveL { w with cs:=w.cs.set (p.conn - 1).toNat (c.putS 0 ⟨(c.side 0).way.drop k,[],(c.side 0).x⟩),pes:=w.pes.set i { p with rd:=some (rest,false)}} i p.conn l1=r at g1 g2 g3 ⊢
  split
  ·exact g1
  ·refine (g1.x i).cut (by rw [g3];exact hC.now) fun q hq=>?_
   have hq':=hq
   rw [g2,hp1] at hq
   have e:q={ p with rd:=some (rest,false)}:=(Option.some.inj hq).symm
   refine ⟨?_,(g1.pes i q hq').w,fun _=>g1.pes i q hq'⟩
   rw [g3,e]
   exact ⟨hP.cl.w.asc,hP.last,fun _=> .inl m1,hP.cl.br⟩
theorem GI.toCl {tmo:Int} {m:Nat} (h:GI A w) (hC:ZaT tmo w m) (hm:m≤1000) (i:Nat) (most:Int):GI A (w.toClR i most).2:=by
  unfold Cu.toClR
  split
  ·exact h
  rename_i p hp
  have hP:=hC.pes i p hp
  have hg:=h.pes i p hp
  split
  ·exact h
  rename_i hmv
  obtain ⟨m1,m2,m3⟩:=ZoH hmv
  obtain ⟨c,LL,AA,st,hl⟩:=hg.ln m2
  have hk:1≤p.conn:=by have:=hg.w.pos;omega
  obtain ⟨k,ek⟩:=ZoI hC.net hk hl.at_ hl.brk (j:=1) (by decide) m3
  have hmo:=(Zgr hC.net (conn:=p.conn) (j:=1) (by decide) (most:=most) m3).2
  rw [ek] at hmo ⊢
  dsimp only at hmo ⊢
  have hother:∀ j q,w.pes[j]?=some q→j≠i→PG A (w.cs.set (p.conn - 1).toNat (c.putS 1 ⟨(c.side 1).way.drop k,[],(c.side 1).x⟩)) w.grs w.now j q:=fun j q hq hj =>
    (h.x i).other hp hg.w.pos hq hj (fun m d hm hd=>Zmf (hm.resolve_right m2) hd) (On3.refl _ _ _) fun n hn=>hn
  split
  ·rename_i et
   have et:c.s1.way.take k=[]:=et
   refine ⟨fun j q hq=>?_,h.uniq⟩
   by_cases hj:j=i
   ·subst hj
    rw [hp] at hq
    cases Option.some.inj hq
    refine ⟨hg.w,fun e=>(m2 e).elim,fun _=>⟨_,LL,AA,st,List.getElem?_set_self (Xk hl.at_),hl.brk,hl.rd,hl.req,hl.go,hl.ans,?_⟩⟩
    show p.cl.rb++c.s1.way.drop k=_
    have:=List.take_append_drop k c.s1.way
    rw [et,List.nil_append] at this
    rw [this]
    exact hl.back
   ·exact hother j q hq hj
  have hz:=Zh7 hC.now hP.last
  have hback:(p.cl.rb++c.s1.way.take k)++c.s1.way.drop k=fr AA:=by
    rw [← hl.back,List.append_assoc,List.take_append_drop]
  have hga:∀ x,x∈AA→good x:=fun x hx=>by
    obtain ⟨a,h1,rfl,_⟩:=hl.ans x hx
    exact ZuD h1
  obtain ⟨l1,l2,q1,q2,q3⟩:=ZjB AA hga _ _ hback
  have hrd:∀ x,x∈l1→(ZbP x).2.1=0∧Zpb A w.grs w.now i (ZbP x).1:=fun x hx=>by
    obtain ⟨a,h1,rfl,h2⟩:=hl.ans x (by rw [q1];exact List.mem_append_left _ hx)
    rw [ZtO h1]
    exact ⟨rfl,h2⟩
  generalize (Ze3 (p.cl.rb++c.s1.way.take k)).2.2=rest at q2 q3
  have hbr:p.cl.broken=false:=hP.cl.br
  have eb:p.cl.bytesR w.now ((c.side 1).way.take k)=((({ p.cl.tick w.now with rb:=rest,broken:=false }:Cl).take l1).1,0):=by
    unfold Cl.bytesR
    rw [if_pos hz,if_pos m1]
    unfold Cl.putB
    have e1:putS (p.cl.tick w.now).rb (p.cl.tick w.now).broken ((c.side 1).way.take k)=(l1,false,rest):=by
      show putS p.cl.rb p.cl.broken (c.s1.way.take k)=_
      rw [hbr]
      exact q2
    dsimp only
    rw [e1]
    dsimp only
    rw [(Znt l1 (c:={ p.cl.tick w.now with rb:=rest,broken:=false }) fun x hx=>(hrd x hx).1).1]
    rfl
  obtain ⟨t1,t2,t3,t4,t5⟩:=Znt l1 (c:={ p.cl.tick w.now with rb:=rest,broken:=false }) fun x hx=>(hrd x hx).1
  have hB:=hP.cl.bytes (l:=(c.side 1).way.take k) (by have:=hmo.2;omega) w.now
  obtain ⟨kb1,kb2⟩:=ZoL p.cl w.now ((c.side 1).way.take k)
  rw [eb] at hB kb1 kb2 ⊢
  have hcg:CG (Zpb A w.grs w.now i) p.cl (({ p.cl.tick w.now with rb:=rest,broken:=false }:Cl).take l1).1 :=
    ((ZeC _ p.cl w.now).as (d:={ p.cl.tick w.now with rb:=rest,broken:=false }) rfl rfl rfl).trans (ZsH l1 (Zfk hP.cl.w.asc _) fun x hx _=>(hrd x hx).2)
  generalize (({ p.cl.tick w.now with rb:=rest,broken:=false }:Cl).take l1).1=c' at t1 t2 t3 t4 t5 hB kb1 kb2 hcg ⊢
  dsimp only at hB kb1 kb2 ⊢
  rw [if_neg (fun e=>e rfl)]
  refine GI.sends (w:={ w with cs:=w.cs.set (p.conn - 1).toNat (c.putS 1 ⟨(c.side 1).way.drop k,[],(c.side 1).x⟩),pes:=w.pes.set i { p with cl:=c' }}) ⟨fun j q hq=>?_,Zee h.uniq hp (.inl rfl)⟩ ⟨hmo.1,hC.now,fun j q hq=>?_⟩ i
  ·rcases Xm hq with ⟨rfl,rfl,_⟩ | ⟨hj,hq⟩
   ·refine ⟨hg.w.cg hcg hg.w.pos p.rd,fun e=>(m2 e).elim,fun _=>⟨_,LL,l2,st,List.getElem?_set_self (Xk hl.at_),hl.brk,hl.rd,hl.req,?_,fun x hx=>hl.ans x (by rw [q1];exact List.mem_append_right _ hx),?_⟩⟩
    ·show st++(c.s0.way++c'.out)=_
     rw [t4];exact hl.go
    ·show c'.rb++c.s1.way.drop k=_
     rw [t2];exact q3
   ·exact hother j q hq hj
  ·rcases Xm hq with ⟨rfl,rfl,_⟩ | ⟨hj,hq⟩
   ·exact ⟨hB.w.asc,kb1.2 hP.last,fun _=> .inl ((kb2 rfl).trans m1),hB.br⟩
   ·exact hC.wt.pes j q hq
theorem GI.cutK {tmo:Int} {m:Nat} (h:GI A w) (hC:ZaT tmo w m):∀ k,GI A (w.cutK k)
  | 0=>h
  | k+1=>(GI.cutK h hC k).cut (hC.cutK k).wt k
theorem GI.start (h:GI A w):GI A w.startR.2:=by
  unfold Cu.startR
  split
  ·exact h
  ·exact ⟨h.pes,h.uniq⟩
theorem GI.stop {tmo:Int} {m:Nat} (h:GI A w) (hC:ZaT tmo w m):GI A w.stopR.2:=by
  unfold Cu.stopR
  split
  ·exact GI.cutK (w:=w.stopB) ⟨h.pes,h.uniq⟩ hC.stop _
  ·exact h
def ZkK (A:Zbl) (w:Cu) (o:Op):Zbl:=if o.1=2∧(w.doR o).1.2.2=0∧(w.doR o).1.2.1=false then upA A o.2.1 (w.doR o).1.1 (ZfT o.rq (w.doR o).1.1) else A
theorem GI.do {tmo:Int} {m:Nat} (h:GI A w) (hC:ZaT tmo w m) (hm:m≤1000) (o:Op):GI (ZkK A w o) (w.doR o).2:=by
  unfold ZkK
  by_cases h2:o.1=2
  ·have ed:w.doR o=if o.2.1<0 then ((0,false,2),w) else if o.2.1≥w.pes.length then ((0,false,2),w) else w.askR o.2.1.toNat o.rq:=by
     unfold Cu.doR
     rw [h2,if_neg (by decide),if_neg (by decide),if_pos (show ZgG (2:Int).toNat=false by decide)]
     rfl
   rw [ed]
   split
   ·rw [if_neg (fun e=>by cases e.2.1)];exact h
   rename_i n1
   split
   ·rw [if_neg (fun e=>by cases e.2.1)];exact h
   rename_i n2
   obtain ⟨i,hi⟩:=Int.eq_ofNat_of_zero_le (show 0≤o.2.1 by omega)
   rw [hi,Int.toNat_natCast]
   have hp:w.pes[i]?=some w.pes[i]:=List.getElem?_eq_getElem (by omega)
   have hk:=h.ask hC hm hp o.rq
   have er:(w.askR i o.rq).1=((w.pes[i]).cl.askR w.now o.rq).1:=by
     unfold Cu.askR
     rw [hp]
   rw [er]
   have:(o.1=2∧((w.pes[i]).cl.askR w.now o.rq).1.2.2=0∧((w.pes[i]).cl.askR w.now o.rq).1.2.1=false)↔(((w.pes[i]).cl.askR w.now o.rq).1.2.2=0∧((w.pes[i]).cl.askR w.now o.rq).1.2.1=false):=⟨fun e=>e.2,fun e=>⟨h2,e⟩⟩
   simp only [this]
   exact hk
  ·rw [if_neg (fun e=>h2 e.1)]
   have hK:∀ j,j≠2→GI A (w.doK o j).2:=fun j hj=>by
     unfold Cu.doK
     split
     ·show GI A (w.tickR o.2.2.1).2
      unfold Cu.tickR
      split
      ·rename_i he;exact h.tick hC.wt he
      ·exact h
     ·exact (hj rfl).elim
     ·exact h.dial hC _
     ·exact h.toSrv hC _ _
     ·exact h.toCl hC hm _ _
     ·show GI A (w.partR o.2.1.toNat).2
      unfold Cu.partR
      split
      ·exact h
      ·split
       ·exact h.cut hC.wt _
       ·exact h
     ·exact h.stop hC
     ·exact h.start
   unfold Cu.doR
   split
   ·exact h
   ·rename_i n1
    split
    ·exact h
    ·have hj:o.1.toNat≠2:=by omega
     split
     ·split
      ·exact h
      ·split
       ·exact h
       ·exact hK _ hj
     ·exact hK _ hj
end
end Go.Proofs.YtbppjmcinoffnaaGreat
namespace Go.Proofs.YtbppjmcinoffnaaGreat
open Go Go.Fw
open Nat renaming reduceAdd→Nqa,reduceLT→Nqb,reduceLeDiff→Nqc,reduceEqDiff→Nqd,reduceMul→Nqe
open Tk (Zt rI rB rS rP rM rL ZhD XC held1 ZaI wrS)
def fnK:Nat→Option Addr→Op→((Int × Bool × Int × Unit)→HP)→HP
  | 1=>Xw
  | 2=>XP
  | 3=>Xz
  | 4=>YK
  | 5=>YL
  | 6=>Xy
  | 7=>Xx
  | _=>Xf
abbrev r4 (r:Int × Bool × Int):Int × Bool × Int × Unit:=(r.1,r.2.1,r.2.2,())
section
variable {h h':Zb} {T:TT} {wb:Nat} {sp:Sl} {w:Cu}
theorem ZmY (hW:Wld h T wb sp w) {tmo:Int} {n:Nat} (hC:ZaT tmo w n) (hn:n≤1000) {o:Op} (hs:o.2.2.2.2.2.2.2.2.1.size<9223372036854775808) {k:Nat} (h1:1≤k) (h8:k≤8) (hcl:ZgG k=false→∃ (i:Nat) (p:Pe),o.2.1=(i:Int)∧w.pes[i]?=some p) {K:(Int × Bool × Int × Unit)→Zb→Prop}
    (hk:Zj9 T h wb sp (w.doK o k).2 (r4 (w.doK o k).1) K):fnK k (some ⟨wb,0,none⟩) o K h:=by
  have hway:∀ c j,c∈w.cs→j<2→(c.side j).way.length≤65536:=fun c j hc hj=>(hC.net c j hc hj).1
  have hfew:w.pes.length≤1099511627776:=by have:=hC.few;omega
  have out:∀ {c:Cl} {m:Nat},m≤1010→On2 c m→c.out.length≤1099511627776:=fun hm h=>by have:=h.out;omega
  have hj:k=1∨k=2∨k=3∨k=4∨k=5∨k=6∨k=7∨k=8:=by omega
  rcases hj with rfl | rfl | rfl | rfl | rfl | rfl | rfl | rfl
  ·have hk:Zj9 T h wb sp (w.tickR o.2.2.1).2 (0,false,(w.tickR o.2.2.1).1,()) K:=hk
   unfold Cu.tickR at hk
   refine Zro hW hfew (fun i p hp=>(hC.pes i p hp).cl.w) (fun e=>?_) (fun e=>?_)
   ·rw [if_neg e] at hk;exact hk
   ·rw [if_pos e] at hk;exact hk
  ·obtain ⟨i,p,hi,hp⟩:=hcl rfl
   have hP:=(hC.pes i p hp).cl
   have hA:=hP.ask hn w.now o.rq
   have e:o.2.1.toNat=i:=by rw [hi];rfl
   have hk:Zj9 T h wb sp (w.askR o.2.1.toNat o.rq).2 (r4 (w.askR o.2.1.toNat o.rq).1) K:=hk
   rw [e] at hk
   exact ZuA hW hi hp hP.w ⟨hA.w,hA.nk⟩ (by have:=hP.next;omega) (out (by omega) hP) (out (by omega) hA) hs hway hk
  ·obtain ⟨i,p,hi,hp⟩:=hcl rfl
   have hPe:=hC.pes i p hp
   have hP:=hPe.cl
   have hA:=hP.atS w.now
   have hU:=hA.upS w.now
   have e:o.2.1.toNat=i:=by rw [hi];rfl
   have hk:Zj9 T h wb sp (w.dialR o.2.1.toNat).2 (0,false,(w.dialR o.2.1.toNat).1,()) K:=hk
   rw [e] at hk
   exact Zsz hW hi hp ⟨hP.w,hP.nk⟩ ⟨hA.w,hA.nk⟩ ⟨hU.w,hU.nk⟩ (out (by omega) hA) (out (by omega) hU) (fun hu=>hPe.no (Classical.byContradiction fun h9=>by rw [hPe.up h9] at hu;cases hu)) (by have:=hC.csl;omega) (fun c j hc hj=>(hC.conn1.net c j hc hj).1) hk
  ·obtain ⟨i,p,hi,hp⟩:=hcl rfl
   have hPe:=hC.pes i p hp
   have hP:=hPe.cl
   have e:o.2.1.toNat=i:=by rw [hi];rfl
   have hk:Zj9 T h wb sp (w.toSrvR o.2.1.toNat o.2.2.2.1).2 (0,false,(w.toSrvR o.2.1.toNat o.2.2.2.1).1,()) K:=hk
   rw [e] at hk
   exact Zpl hW (n:=80000*n) ⟨hC.net,hC.srv,hC.grs⟩ (by omega) hi hp ⟨hP.w,hP.nk⟩ (fun hc=>by
     obtain ⟨st,e1,e2⟩:=hPe.rd hc
     exact ⟨st,false,e1,e2⟩) hk
  ·obtain ⟨i,p,hi,hp⟩:=hcl rfl
   have hPe:=hC.pes i p hp
   have hP:=hPe.cl
   have e:o.2.1.toNat=i:=by rw [hi];rfl
   have hk:Zj9 T h wb sp (w.toClR o.2.1.toNat o.2.2.2.1).2 (0,false,(w.toClR o.2.1.toNat o.2.2.2.1).1,()) K:=hk
   rw [e] at hk
   exact Zrn hW hC.net hi hp ⟨hP.w,hP.nk⟩ hP.br (by have:=hP.rb;omega) (fun l hl=>by
     have hB:=hP.bytes (l:=l) (by omega) w.now
     exact ⟨⟨hB.w,hB.nk⟩,out (by omega) hB⟩) hk
  ·obtain ⟨i,p,hi,hp⟩:=hcl rfl
   have hPe:=hC.pes i p hp
   have hP:=hPe.cl
   have e:o.2.1.toNat=i:=by rw [hi];rfl
   have hk:Zj9 T h wb sp (w.partR o.2.1.toNat).2 (0,false,(w.partR o.2.1.toNat).1,()) K:=hk
   rw [e] at hk
   unfold Cu.partR at hk
   rw [hp] at hk
   dsimp only at hk
   refine ZrQ hW hi hp ⟨hP.w,hP.nk⟩ (fun e=>?_) (fun e=>?_)
   ·rw [if_neg (by rw [e];exact fun e=>by cases e)] at hk;exact hk
   ·rw [if_pos e] at hk;exact hk
  ·have hk:Zj9 T h wb sp w.stopR.2 (0,false,w.stopR.1,()) K:=hk
   unfold Cu.stopR at hk
   refine Zrw hW hfew (fun i p hp=>⟨(hC.pes i p hp).cl.w,(hC.pes i p hp).cl.nk⟩) (fun e=>?_) (fun e=>?_)
   ·rw [if_neg (by rw [e];exact fun e=>by cases e)] at hk;exact hk
   ·rw [if_pos e] at hk;exact hk
  ·exact Zpr hW hC.srv.ok hk
theorem Zn4 (hW:Wld h T wb sp w) {tmo:Int} {n:Nat} (hC:ZaT tmo w n) (hn:n≤1000) {o:Op} (ho:0≤o.1∧o.1<256) (hs:o.2.2.2.2.2.2.2.2.1.size<9223372036854775808) {K:Int→Bool→Int→Zb→Prop}
    (hk:∀ h' T',Wld h' T' wb sp (w.doR o).2→Zaq T T' h h'→K (w.doR o).1.1 (w.doR o).1.2.1 (w.doR o).1.2.2 h'):YD (some ⟨wb,0,none⟩) o K h:=by
  unfold YD ZcA
  unfold Cu.doR at hk
  refine Za1 fun h1 c1 e1 z1=>Za (Za (Zl (rI (Zt c1 rfl) ?_)))
  have z1:sz h1=sz h+1:=z1
  refine ZsB ho (fun c h8 e8=>Za1 fun h10 c10 e10 z10=>Ztd (vs:=[.nilFunc,.bool false]) c10 rfl (by simp only [List.all_cons,List.all_nil,ZiE,ZdX];rfl) rfl fun h11 c11 u11 z11=>?_)
    (fun k ek k1 k8 h8 e8=>Za1 fun h10 c10 e10 z10=>Ztd (vs:=[dK k,.bool (ZgG k)]) c10 rfl (by simp only [List.all_cons,List.all_nil,Zf9,ZdX];rfl) rfl fun h11 c11 u11 z11=>?_)
  ·have e11:Ext h h11:=((e1.trans e8).trans e10).then u11 fun k hk=>by rw [hk];exact (e1.trans e8).size
   rw [YN]
   refine ZoW (J:=fun _ _=>False) (fun _ _ hf=>hf.elim) fun Q hQ=>?_
   rw [YN]
   refine ZF (Za (Za ?_))
   have hr:(if o.1<1 then ((0,false,6),w) else if o.1≥9 then ((0,false,6),w) else
       if ZgG o.1.toNat=false then (if o.2.1<0 then ((0,false,2),w) else if o.2.1≥w.pes.length then ((0,false,2),w) else w.doK o o.1.toNat) else w.doK o o.1.toNat:Res)=((0,false,6),w):=by
     rcases c with c | c
     ·rw [if_pos c]
     ·rw [if_neg (by omega),if_pos c]
   rw [hr] at hk
   exact hk h11 T (hW.ext e11) ((Zaq.refl T h).ext e11)
  have z8:sz h1≤sz h8:=e8.size
  have e11:Ext h h11:=((e1.trans e8).trans e10).then u11 fun k hk=>by rw [hk];exact (e1.trans e8).size
  have hW11:=hW.ext e11
  have b1:obj h11 (sz h)=_:=XM (Yh (Yh c1 e8) e10) u11 (by show ¬ sz h=sz h8;omega)
  have n0:T (sz h)=none:=hW.no (Nat.le_refl _)
  have n9:T (sz h8)=none:=hW.no (by omega)
  have ek2:o.1.toNat=k:=by rw [ek];rfl
  rw [ek2,if_neg (show ¬ o.1<1 by omega),if_neg (show ¬ o.1≥9 by omega)] at hk
  rw [YN]
  refine ZoW (J:=fun _ hh=>hh=h11∧(ZgG k=false→∃ (i:Nat) (p:Pe),o.2.1=(i:Int)∧w.pes[i]?=some p)∧∀ h' T',Wld h' T' wb sp (w.doK o k).2→Zaq T T' h h'→K (w.doK o k).1.1 (w.doK o k).1.2.1 (w.doK o k).1.2.2 h') ?_ ?_
  ·rintro _ h11 ⟨rfl,hcl,hk⟩
   refine ZoW (J:=fun s hh=>∃ T' b',s=(some ⟨b',0,none⟩,())∧(∃ t,obj hh b'=some (.cells [iv (w.doK o k).1.1,.bool (w.doK o k).1.2.1,iv (w.doK o k).1.2.2].toArray t (0,0)))∧Wld hh T' wb sp (w.doK o k).2∧Zaq T T' h hh) ?_ ?_
   ·rintro _ h50 ⟨T',b',rfl,⟨t,cb⟩,hW5,s5⟩
    exact Zh (rI (Zt cb rfl) (Zh (rB (Zt cb rfl) (Zh (rI (Zt cb rfl) (Za (by rw [YN];exact Za (hk h50 T' hW5 s5))))))))
   ·intro Q hQ
    refine Zh (rV (Zt c11 rfl) ?_)
    refine rI (Zt b1 rfl) (rI (Zt b1 rfl) (rI (Zt b1 rfl) (rI (Zt b1 rfl) (rI (Zt b1 rfl) (rI (Zt b1 rfl) (rI (Zt b1 rfl) (rI (Zt b1 rfl) (rS (Zt b1 rfl) (rI (Zt b1 rfl) ?_)))))))))
    rw [ZlE]
    refine ⟨?_,?_⟩
    ·have hA:=ZmY hW11 hC hn (o:=o) hs k1 k8 hcl (K:=fun t39 h38=>newC h38 [Value.int .i64 0,Value.bool false,Value.int .i64 0] 100 fun b40 h41=>sts h41 b40 0 [Value.int .i64 t39.1,Value.bool t39.2.1,Value.int .i64 t39.2.2.1] fun h42=>Q (some ⟨b40,0,none⟩,()) h42) (fun h38 T38 hW38 s38=>by
       refine Za1 fun h41 c41 e41 z41=>ZAi c41 rfl YW ZdX YW fun h42 c42 u42 z42=>?_
       have n38:T38 (sz h38)=none:=hW38.no (Nat.le_refl _)
       exact hQ _ _ ⟨T38,sz h38,rfl,⟨_,c42⟩,(hW38.ext e41).upd u42 fun k hk=>by rw [hk];exact n38,((Zaq.pre e11 s38).ext e41).also u42 fun k hk=>by rw [hk];exact Nat.le_trans e11.size s38.upd.size⟩)
     have hj:k=1∨k=2∨k=3∨k=4∨k=5∨k=6∨k=7∨k=8:=by omega
     rcases hj with rfl | rfl | rfl | rfl | rfl | rfl | rfl | rfl
     ·exact .inl ⟨rfl,hA⟩
     ·exact .inr (.inl ⟨rfl,hA⟩)
     ·exact .inr (.inr (.inl ⟨rfl,hA⟩))
     ·exact .inr (.inr (.inr (.inl ⟨rfl,hA⟩)))
     ·exact .inr (.inr (.inr (.inr (.inl ⟨rfl,hA⟩))))
     ·exact .inr (.inr (.inr (.inr (.inr (.inl ⟨rfl,hA⟩)))))
     ·exact .inr (.inr (.inr (.inr (.inr (.inr (.inl ⟨rfl,hA⟩))))))
     ·exact .inr (.inr (.inr (.inr (.inr (.inr (.inr (.inl ⟨rfl,hA⟩)))))))
    ·refine Za1 fun h44 c44 e44 z44=>?_
     have b1':=Yh b1 e44
     have c11':=Yh c11 e44
     have hW44:=hW11.ext e44
     have n11:T (sz h11)=none:=hW11.no (Nat.le_refl _)
     simp only [ZhX,Zbd,ZcR]
     refine ⟨⟨Zt b1' rfl,Zt b1' rfl,Zt b1' rfl,Zt b1' rfl,Zt b1' rfl,Zt b1' rfl,Zt b1' rfl,Zt b1' rfl,Zt b1' rfl,Zt b1' rfl,trivial⟩,⟨Zt c11' rfl,trivial⟩,?_⟩
     have hB:=ZmY hW44 hC hn (o:=o) hs k1 k8 hcl (K:=fun t46 h45=>sts h45 (sz h11) 0 [Value.int .i64 t46.1,Value.bool t46.2.1,Value.int .i64 t46.2.2.1] fun h47=>Q (some ⟨sz h11,0,none⟩,()) h47) (fun h45 T45 hW45 s45=>by
       have c45:=s45.keep c44 n11
       have n45:=s45.none_ n11 (ZS c44)
       refine ZAi c45 rfl YW ZdX YW fun h47 c47 u47 z47=>?_
       exact hQ _ _ ⟨T45,sz h11,rfl,⟨_,c47⟩,hW45.upd u47 fun k hk=>by rw [hk];exact n45,(Zaq.pre (e11.trans e44) s45).also u47 fun k hk=>by rw [hk];exact e11.size⟩)
     have hj:k=1∨k=2∨k=3∨k=4∨k=5∨k=6∨k=7∨k=8:=by omega
     rcases hj with rfl | rfl | rfl | rfl | rfl | rfl | rfl | rfl
     ·exact .inl ⟨rfl,hB⟩
     ·exact .inr (.inl ⟨rfl,hB⟩)
     ·exact .inr (.inr (.inl ⟨rfl,hB⟩))
     ·exact .inr (.inr (.inr (.inl ⟨rfl,hB⟩)))
     ·exact .inr (.inr (.inr (.inr (.inl ⟨rfl,hB⟩))))
     ·exact .inr (.inr (.inr (.inr (.inr (.inl ⟨rfl,hB⟩)))))
     ·exact .inr (.inr (.inr (.inr (.inr (.inr (.inl ⟨rfl,hB⟩))))))
     ·exact .inr (.inr (.inr (.inr (.inr (.inr (.inr (.inl ⟨rfl,hB⟩)))))))
  ·intro Q hQ
   rw [YN]
   refine Zl (rB (Zt c11 rfl) ⟨fun c=>rI (Zt b1 rfl) ?_,fun c=>?_⟩)
   ·have c:ZgG k=false:=by simpa using c
    rw [if_pos c] at hk
    refine Zjb hW11 (fun e=>?_) (fun i p b hi hp hb=>?_)
    ·rw [YN]
     refine ZF (Za (Za ?_))
     have hr:(if o.2.1<0 then ((0,false,2),w) else if o.2.1≥w.pes.length then ((0,false,2),w) else w.doK o k:Res)=((0,false,2),w):=by
       rcases e with c | c
       ·rw [if_pos c]
       ·rw [if_neg (by omega),if_pos c]
     rw [hr] at hk
     exact hk h11 T hW11 ((Zaq.refl T h).ext e11)
    ·rw [YN]
     have hlt:=Xk hp
     rw [if_neg (by omega),if_neg (by omega)] at hk
     exact Zl (hQ () h11 ⟨rfl,fun _=>⟨i,p,hi,hp⟩,hk⟩)
   ·have c:¬ ZgG k=false:=by simpa using c
    rw [if_neg c] at hk
    exact hQ () h11 ⟨rfl,fun e=>(c e).elim,hk⟩
end
end Go.Proofs.YtbppjmcinoffnaaGreat
namespace Go.Proofs.YtbppjmcinoffnaaGreat.Tk
open Go Go.Fw
open Nat renaming reduceAdd→Nqa,reduceLT→Nqb,reduceLeDiff→Nqc,reduceEqDiff→Nqd,reduceMul→Nqe
def nA:ByteArray:=ByteArray.mk #[99,108,117,115,116,101,114]
theorem ZnV (l:List F4):∀ (S:Srv),(S.freshL l).spaces=S.spaces∧(S.freshL l).begun=S.begun∧(S.freshL l).last=S.last∧(S.freshL l).out=S.out∧(S.freshL l).next=S.next∧(S.freshL l).conns=S.conns∧(S.freshL l).nn=S.nn:=by
  induction l with
  | nil=>intro S;exact ⟨rfl,rfl,rfl,rfl,rfl,rfl,rfl⟩
  | cons f l ih =>
    intro S
    have h1:S.freshL (f::l)=(S.fresh1 f).freshL l:=rfl
    rw [h1]
    obtain ⟨a1,a2,a3,a4,a5,a6,a7⟩:=ih (S.fresh1 f)
    have h2:(S.fresh1 f).spaces=S.spaces∧(S.fresh1 f).begun=S.begun∧(S.fresh1 f).last=S.last∧(S.fresh1 f).out=S.out∧(S.fresh1 f).next=S.next∧(S.fresh1 f).conns=S.conns∧(S.fresh1 f).nn=S.nn:=by
      unfold Srv.fresh1
      split
      ·exact ⟨rfl,rfl,rfl,rfl,rfl,rfl,rfl⟩
      ·split<;>exact ⟨rfl,rfl,rfl,rfl,rfl,rfl,rfl⟩
    obtain ⟨b1,b2,b3,b4,b5,b6,b7⟩:=h2
    exact ⟨a1.trans b1,a2.trans b2,a3.trans b3,a4.trans b4,a5.trans b5,a6.trans b6,a7.trans b7⟩
theorem ZmF (l:List F4):∀ (S:Srv) (id:Int),(∀ f,f∈l→f.1≠id)→(S.freshL l).counts id=S.counts id:=by
  induction l with
  | nil=>intro S id _;rfl
  | cons f l ih =>
    intro S id h
    have h1:S.freshL (f::l)=(S.fresh1 f).freshL l:=rfl
    rw [h1,ih _ id fun g hg=>h g (List.mem_cons_of_mem _ hg)]
    have hne:=h f (List.mem_cons_self ..)
    unfold Srv.fresh1
    split
    ·exact if_neg hne.symm
    ·split
     ·exact if_neg hne.symm
     ·rfl
theorem ZpY (l:List F4):∀ (S:Srv),(l.map (·.1)).Nodup→(∀ f,f∈l→S.counts f.1=none)→∀ f,f∈l→(S.freshL l).counts f.1=some (Zdh f):=by
  induction l with
  | nil=>intro S _ _ f hf;cases hf
  | cons g l ih =>
    intro S hnd hn f hf
    have h1:S.freshL (g::l)=(S.fresh1 g).freshL l:=rfl
    rw [List.map_cons,List.nodup_cons] at hnd
    have hg:=hn g (List.mem_cons_self ..)
    rw [h1]
    rcases List.mem_cons.1 hf with rfl | hf
    ·rw [ZmF l _ _ fun q hq e=>hnd.1 (by rw [← e];exact List.mem_map_of_mem hq),Zg2 hg]
     exact if_pos rfl
    ·refine ih _ hnd.2 (fun q hq=>?_) f hf
     rw [Zg2 hg]
     show (if q.1=g.1 then _ else _)=none
     rw [if_neg]
     ·exact hn q (List.mem_cons_of_mem _ hq)
     ·intro e
      exact hnd.1 (by rw [← e];exact List.mem_map_of_mem hq)
abbrev G4:=Int × Int × Int × ByteArray
end Go.Proofs.YtbppjmcinoffnaaGreat.Tk
namespace Go.Proofs.YtbppjmcinoffnaaGreat
open Go Go.Fw
open Nat renaming reduceAdd→Nqa,reduceLT→Nqb,reduceLeDiff→Nqc,reduceEqDiff→Nqd,reduceMul→Nqe
open Tk (Zt rI rB rS rP rM rL ZhD XC held1 ZaI wrS nA)
abbrev nPm (cb:Nat) (c:Cl):Pm:=(cb,0,⟨c,0,none⟩)
def ZtC (Tn Ts:Nat→Option Nat) (wb:Nat):TT:=fun k=>match Tn k with
  | some t=>some (1,t)
  | none=>match Ts k with
    | some t=>some (2,t)
    | none=>if k=wb then some (0,0) else none
theorem Zvf {Tn Ts:Nat→Option Nat} {wb k t:Nat} (h:Tn k=some t):ZtC Tn Ts wb k=some (1,t):=by unfold ZtC;rw [h]
theorem Zve {Tn Ts:Nat→Option Nat} {wb k t:Nat} (h:Tn k=none) (h2:Ts k=some t):ZtC Tn Ts wb k=some (2,t):=by unfold ZtC;rw [h,h2]
theorem ZiT {Tn Ts:Nat→Option Nat} {wb k:Nat} (h:Tn k=none) (h2:Ts k=none):ZtC Tn Ts wb k=if k=wb then some (0,0) else none:=by unfold ZtC;rw [h,h2]
def Zxu (tmo least most:Int) (at_:Int):Pe:=⟨(Zfb tmo least most nA).atS at_,0,none⟩
def ZhW (at_ tmo least most:Int) (k:Nat):Cu:=⟨St.liP (fun _=>false) [1],[],Tk.Zln at_,true,List.replicate k (Zxu tmo least most at_),at_,[]⟩
def Zml (at_ clients tmo least most:Int):Int:=if at_<0 then 2 else if at_>1152921504606846976 then 2 else if clients<1 then 2 else if clients>8 then 2 else Ziv tmo least most nA
section
variable {h h':Zb} {T:TT} {wb nb sb:Nat} {sp sg:Sl} {pl:List Pm} {w:Cu}
theorem WR.tagC (hR:WR h T wb nb sb sp sg pl w) (e:Ext h h') {Tc:Nat→Option Nat} {cb:Nat} {c:Cl} (hC:Client h' Tc cb c) (hT:∀ k,Tc k≠none→sz h≤k) :
    WR h' (cmb (3+2*pl.length) T Tc) wb nb sb sp sg pl w∧Zaq T (cmb (3+2*pl.length) T Tc) h h' :=
  hR.part (by omega) ⟨e.upd _,fun k hk=> .inr (hT k hk)⟩ hC.lt (w':=w) rfl rfl rfl rfl hR.pes (.inr ⟨by omega,rfl,rfl⟩) (.inr ⟨by omega,rfl⟩) (fun i x hx=> .inr ⟨by have:=Xk hx;omega,x,hx,rfl,rfl⟩) fun i x l br hx hr=> .inr ⟨by omega,x,hx,rfl,hr⟩
theorem WR.addP (hR:WR h T wb nb sb sp sg pl w) {cb:Nat} {c:Cl} (hC:Client h (prj (3+2*pl.length) T) cb c) {s':Sl} (ho:Own h' 0 s' 3 ((pl++[nPm cb c]).flatMap peL)) (hu:Upd (fun k=>sp.blk=some k) h h') (hb:s'.blk=sp.blk∨s'.blk=some h.size) {K:Zb→Prop}
    (hk:∀ h2 T',WR h2 T' wb nb sb s' sg (pl++[nPm cb c]) { w with pes:=w.pes++[⟨c,0,none⟩]}→Zaq T T' h h2→K h2):st h' wb 3 (slV s') K:=by
  have hw:¬ sp.blk=some wb:=fun e=>by
    have:=hR.tsp wb e
    rw [hR.twb] at this
    cases this
  have c1:=XM hR.cells hu hw
  refine ZhD c1 (by decide:3<6) ZgR fun h2 c2 u2 z2=>?_
  have lo:∀ k,s'.blk=some k→T k=some (0,1)∨h.size≤k:=fun k hk=>by
    rcases hb with e | e
    ·rw [e] at hk;exact .inl (hR.tsp k hk)
    ·rw [e] at hk;cases hk;exact .inr (Nat.le_refl _)
  have hu2:Upd (fun k=>∃ t,T k=some (0,t)) h h2:=Upd.then (hu.mono fun k _ hk=>⟨1,hR.tsp k hk⟩) u2 fun k _ hk=>⟨0,by rw [hk];exact hR.twb⟩
  have z2':sz h2=sz h':=z2
  have hT:∀ k,T k≠none→(if s'.blk=some k then some (0,1) else T k)=T k:=fun k hk=>by
    split
    ·rename_i e
     rcases lo k e with h1 | h1
     ·exact h1.symm
     ·exact (hk (hR.no h1)).elim
    ·rfl
  have hsg:∀ b,sg.blk=some b→h2[b]?=h[b]?:=fun b hb'=>by
    have tb:=hR.tsg b hb'
    have hl:b<sz h:=hR.lt b (by rw [tb];exact fun e=>by cases e)
    have n1:b≠wb:=fun e=>by rw [e,hR.twb] at tb;cases tb
    have n2:¬ sp.blk=some b:=fun e=>by rw [hR.tsp b e] at tb;cases tb
    exact (u2.old b (Nat.lt_of_lt_of_le hl hu.size) n1).trans (hu.old b hl n2)
  obtain ⟨h3,h4⟩:=hR.zero hu2 (T':=fun k=>if s'.blk=some k then some (0,1) else T k) hT (fun k hk=>by
      by_cases e:s'.blk=some k
      ·rcases lo k e with h1 | h1
       ·exact .inl (by rw [h1];exact fun e=>by cases e)
       ·exact .inr ⟨h1,(by rw [z2'];exact (ho.lt e).2),1,if_pos e⟩
      ·rw [if_neg e] at hk;exact .inl hk) (sp':=s') (sg':=sg) (pl':=pl++[nPm cb c]) (w':={ w with pes:=w.pes++[⟨c,0,none⟩]}) c2
    (ho.congr fun b hb' _ _=>u2.old b (ho.lt hb').2 fun e=>by
      rcases lo b hb' with h1 | h1
      ·rw [e,hR.twb] at h1;cases h1
      ·have:=hR.lt wb (by rw [hR.twb];exact fun e=>by cases e)
       rw [e] at h1
       have h1:sz h≤wb:=h1
       omega) (hR.grs.congr fun b hb' _ _=>hsg b hb') (fun k hk=>if_pos hk) (fun k hk=>(hT k (by rw [hR.tsg k hk];exact fun e=>by cases e)).trans (hR.tsg k hk)) (by rw [List.map_append,hR.pes];rfl) rfl rfl rfl
    (fun i x hx=>by
      rcases Nat.lt_or_ge i pl.length with hl | hl
      ·rw [List.getElem?_append_left hl] at hx
       exact hR.cls i x hx
      ·rw [List.getElem?_append_right hl] at hx
       have:i - pl.length=0:=by
         have:=Xk hx
         simp only [List.length_cons,List.length_nil] at this
         omega
       rw [this] at hx
       cases Option.some.inj hx
       have e:i=pl.length:=by omega
       rw [e];exact hC)
    (fun i x l br hx hr=>by
      rcases Nat.lt_or_ge i pl.length with hl | hl
      ·rw [List.getElem?_append_left hl] at hx
       exact hR.rds i x l br hx hr
      ·rw [List.getElem?_append_right hl] at hx
       have:i - pl.length=0:=by
         have:=Xk hx
         simp only [List.length_cons,List.length_nil] at this
         omega
       rw [this] at hx
       cases Option.some.inj hx
       cases hr)
  exact hk h2 _ h3 h4
theorem WR.none0 {hs hn h':Zb} {Ts Tn:Nat→Option Nat} {S:Tk.Srv} {ps:Int→Bool} {cs:List St.Cn} (h1:Tk.Server hs Ts sb S) (h2:St.Net hn Tn nb ps cs) (e1:Ext hs hn) (hTn:∀ k,Tn k≠none→sz hs≤k) (e2:Ext hn h') {now:Int} (hc:obj h' (sz hn)=some (.cells [.pointer (some ⟨nb,0,none⟩),.pointer (some ⟨sb,0,none⟩),.bool true,slV ⟨none,0,0⟩,iv now,slV ⟨none,0,0⟩].toArray 82 (0,0))) :
    ∃ T,WR h' T (sz hn) nb sb ⟨none,0,0⟩ ⟨none,0,0⟩ [] ⟨ps,cs,S,true,[],now,[]⟩∧∀ k,T k≠none→Tn k≠none∨Ts k≠none∨k=sz hn:=by
  have ls:=Zy1 h1
  have ln:=h2.lt
  have p1:prj 1 (ZtC Tn Ts (sz hn))=Tn:=by
    funext k
    cases hk:Tn k with
    | some t=>exact ZoG (Zvf hk)
    | none =>
      cases hk2:Ts k with
      | some t=>exact ZcJ (Zve hk hk2) (by decide)
      | none =>
        by_cases e:k=sz hn
        ·exact ZcJ ((ZiT hk hk2).trans (if_pos e)) (by decide)
        ·exact Za2 ((ZiT hk hk2).trans (if_neg e))
  have p2:prj 2 (ZtC Tn Ts (sz hn))=Ts:=by
    funext k
    cases hk:Tn k with
    | some t =>
      have l1:=hTn k (by rw [hk];exact fun e=>by cases e)
      cases hk2:Ts k with
      | none=>exact ZcJ (Zvf hk) (by decide)
      | some u =>
        have:=ls k (by rw [hk2];exact fun e=>by cases e)
        omega
    | none =>
      cases hk2:Ts k with
      | some t=>exact ZoG (Zve hk hk2)
      | none =>
        by_cases e:k=sz hn
        ·exact ZcJ ((ZiT hk hk2).trans (if_pos e)) (by decide)
        ·exact Za2 ((ZiT hk hk2).trans (if_neg e))
  refine ⟨ZtC Tn Ts (sz hn),⟨hc,Own.nil h' 0 3,Own.nil h' 0 9,by rw [p1];exact h2.ext e2,by rw [p2];exact Tk.Zvg (Tk.Zvg h1 e1) e2,rfl,(fun i x hx=>by cases hx),(fun i x l br hx=>by cases hx),?_,(fun k hk=>by cases hk),(fun k hk=>by cases hk),fun k hk=>?_⟩,fun k hk=>?_⟩
  ·have a:Tn (sz hn)=none:=Classical.byContradiction fun e=>by
     have h9:sz hn<sz hn:=ln _ e
     omega
   have b:Ts (sz hn)=none:=Classical.byContradiction fun e=>by
     have h9:=ls _ e
     have:=e1.size
     have h8:sz hs≤sz hn:=this
     omega
   exact (ZiT a b).trans (if_pos rfl)
  ·have z1:sz hs≤sz hn:=e1.size
   have z2:sz hn≤sz h':=e2.size
   have z3:=ZS hc
   cases hk1:Tn k with
   | some t =>
     have h9:k<sz hn:=ln k (by rw [hk1];exact fun e=>by cases e)
     omega
   | none =>
     cases hk2:Ts k with
     | some t =>
       have h9:=ls k (by rw [hk2];exact fun e=>by cases e)
       omega
     | none =>
       rw [ZiT hk1 hk2] at hk
       by_cases e:k=sz hn
       ·omega
       ·rw [if_neg e] at hk;exact (hk rfl).elim
  ·cases hk1:Tn k with
   | some t=>exact .inl fun e=>by cases e
   | none =>
     cases hk2:Ts k with
     | some t=>exact .inr (.inl fun e=>by cases e)
     | none =>
       rw [ZiT hk1 hk2] at hk
       by_cases e:k=sz hn
       ·exact .inr (.inr e)
       ·rw [if_neg e] at hk;exact (hk rfl).elim
end
theorem ZtM {α:Type} (k:Nat) (a:α):List.replicate k a++[a]=List.replicate (k+1) a:=by rw [List.replicate_succ']
theorem Zni {h:Zb} {at_ clients tmo least most:Int} {K:Option Addr→Int→Zb→Prop} (h1:Zml at_ clients tmo least most≠0→∀ h',Ext h h'→K none (Zml at_ clients tmo least most) h')
    (h2:Zml at_ clients tmo least most=0→∀ h' T wb sp,Wld h' T wb sp (ZhW at_ tmo least most clients.toNat)→Ext h h'→(∀ k,T k≠none→sz h≤k)→K (some ⟨wb,0,none⟩) 0 h'):Zbr at_ clients (tmo,least,most,()) K h:=by
  unfold Zbr ZfF
  unfold Zml at h1 h2
  refine Za1 fun ha ca ea za=>Za ?_
  have za:sz ha=sz h+1:=za
  refine Zj (fun c=>Za ?_) (fun c1=>?_)
  ·rw [if_pos c] at h1;exact h1 (by decide) ha ea
  rw [if_neg c1] at h1 h2
  refine Zj (fun c=>Za ?_) (fun c2=>?_)
  ·rw [if_pos c] at h1;exact h1 (by decide) ha ea
  rw [if_neg c2] at h1 h2
  refine Zj (fun c=>Za ?_) (fun c3=>?_)
  ·rw [if_pos c] at h1;exact h1 (by decide) ha ea
  rw [if_neg c3] at h1 h2
  refine Zj (fun c=>Za ?_) (fun c4=>?_)
  ·rw [if_pos c] at h1;exact h1 (by decide) ha ea
  rw [if_neg c4] at h1 h2
  refine Tk.ZsY (fun e=>(e ⟨by omega,by omega⟩).elim) fun _ hb Tb sb hSb eb lb=>Za ?_
  refine St.ZlL fun hc Tc hNc ec lc=>?_
  refine Za1 fun hd cd ed zd=>?_
  have leb:sz ha≤sz hb:=eb.size
  have lec:sz hb≤sz hc:=ec.size
  obtain ⟨T0,hR0,t0⟩:=WR.none0 hSb hNc ec lc ed cd
  have led:sz hc≤sz hd:=ed.size
  have low0:∀ k,T0 k≠none→sz ha≤k:=fun k hk=>by
    rcases t0 k hk with q | q | q
    ·have h9:sz hb≤k:=lc k q;omega
    ·exact lb k q
    ·omega
  refine rP (hR0.wc (j:=0) rfl) (Za1 fun he ce ee ze=>?_)
  have hRe:=hR0.ext ee
  refine St.ZjP hRe.net (St.Zjc ce) (fun k hk=>Za2 (hR0.no (by cases hk;exact Nat.le_refl _))) fun hf hNf sf=>?_
  obtain ⟨hRf,sf⟩:=hRe.netS sf hNf
  have low1:∀ k,cmb 1 T0 (prj 1 T0) k≠none→sz ha≤k:=fun k hk=>by
    rcases sf.new k hk with q | q
    ·exact low0 k q
    ·have h9:sz he≤k:=q
     have h8:sz hd≤sz he:=ee.size
     omega
  have e0f:Ext ha hf:=(((eb.trans ec).trans ed).trans ee).then sf.upd fun k hk=>low0 k hk
  have caf:=Yh ca e0f
  have cl8:(clients.toNat:Int)=clients:=by omega
  refine Zds (I:=fun s hh=>∃ (k:Nat) (T:TT) (sp':Sl) (pl:List Pm),s=((k:Int),())∧(k:Int)≤clients∧(k≠0→Ziv tmo least most nA=0)∧pl.length=k∧WR hh T (sz hc) _ sb sp' ⟨none,0,0⟩ pl (ZhW at_ tmo least most k)∧Ext ha hh∧∀ j,T j≠none→sz ha≤j) (fun s _=>(clients - s.1).toNat)
    ⟨0,_,⟨none,0,0⟩,[],rfl,by omega,fun e=>(e rfl).elim,rfl,hRf,e0f,low1⟩ ?_
  rintro _ hg ⟨k,T,sp',pl,rfl,hkc,hne,hpl,hR,eg,low⟩ Q hQ
  dsimp only
  have cag:=Yh ca eg
  refine Zj (fun c=>?_) (fun c=>Za ?_)
  ·refine rI (Zt cag rfl) (rI (Zt cag rfl) (rI (Zt cag rfl) ?_))
   refine ZlL (by decide) (fun e hh eh=>Za (Zam (fun _=>Za ?_) (fun e2=>(e e2).elim))) fun e hh Th cb hCh eh lh=>Za (Zam (fun e2=>(e2 rfl).elim) fun _=>?_)
   ·exact h1 e hh ((ea.trans eg).trans eh)
   ·have W0:WOK (Zfb tmo least most nA):=WOK.new
    refine Zm7 hCh W0 fun hi Ti hCi si=>?_
    have ei:Ext hg hi:=eh.then si.upd fun j hj=>lh j hj
    have li:∀ j,Ti j≠none→sz hg≤j:=fun j hj=>by
      rcases si.new j hj with q | q
      ·exact lh j q
      ·have h9:sz hh≤j:=q
       have h8:sz hg≤sz hh:=eh.size
       omega
    obtain ⟨hRi,s2⟩:=hR.tagC ei hCi li
    refine rL (hRi.wc (j:=3) rfl) (Za1 fun hj cj ej zj=>?_)
    have hRj:=hRi.ext ej
    have hCj:=hCi.ext ej
    refine (ZAj (n:=3) (l:=peL (cb,0,⟨(Zfb tmo least most nA).atS at_,0,none⟩)) cj rfl).rd ?_
    have hspl:=hRj.len
    have hpe:(ZhW at_ tmo least most k).pes.length=k:=List.length_replicate
    rw [hpe] at hspl
    refine Own.app hRj.row rfl (by simp only [peL,rdA,List.all_cons,List.all_nil,YW,ZhV];rfl) rfl (by omega) (by omega) (Nat.zero_le _) fun s' hk ho' hl' hu' hblk=>?_
    refine hRj.addP (c:=(Zfb tmo least most nA).atS at_) (by rw [ZhR];exact hCj) (by rw [List.flatMap_append,List.flatMap_cons,List.flatMap_nil,List.append_nil];exact ho') hu' hblk fun hl Tl hRl sl=>?_
    have st:=(s2.ext ej).trans sl
    have ekk:IntKind.wrap .i64 ((k:Int)+1)=((k+1:Nat):Int):=wrS (n:=8) (by omega) (by decide)
    have hRl':WR hl Tl (sz hc) (Array.size hb+1) sb s' ⟨none,0,0⟩ (pl++[nPm cb ((Zfb tmo least most nA).atS at_)]) (ZhW at_ tmo least most (k+1)):=by
      have e:({ ZhW at_ tmo least most k with pes:=(ZhW at_ tmo least most k).pes++[⟨(Zfb tmo least most nA).atS at_,0,none⟩]}:Cu)=ZhW at_ tmo least most (k+1):=by unfold ZhW;simp only [Zxu];rw [ZtM]
      rw [← e];exact hRl
    rw [ekk]
    refine hQ _ _ ⟨k+1,Tl,s',_,rfl,by omega,fun _=>e,by rw [List.length_append,hpl];rfl,hRl',eg.then st.upd fun j hj=>low j hj,fun j hj=>?_⟩ (by dsimp only;omega)
    rcases st.new j hj with q | q
    ·exact low j q
    ·have h9:sz hg≤j:=q
     have h8:sz ha≤sz hg:=eg.size
     omega
  ·have ek:k=clients.toNat:=by omega
   rw [hne (by omega)] at h2
   rw [← ek] at h2
   exact h2 rfl hg T (sz hc) sp' ⟨_,sb,_,pl,hR⟩ (ea.trans eg) fun j hj=>by have:=low j hj;omega
end Go.Proofs.YtbppjmcinoffnaaGreat
namespace Go.Proofs.YtbppjmcinoffnaaGreat
open Go Go.Fw
open Nat renaming reduceAdd→Nqa,reduceLT→Nqb,reduceLeDiff→Nqc,reduceEqDiff→Nqd,reduceMul→Nqe
open Tk (Zt rI rB rS rP rM rL ZhD XC held1 ZaI wrS nA F4 f4L YU Zed)
theorem ZwL {tmo least most:Int} (h:Ziv tmo least most nA=0):On2 (Zfb tmo least most nA) 0 :=
  ⟨WOK.new,NOK.new h,rfl,List.Pairwise.nil,Int.le_refl _,Nat.zero_le _,Nat.zero_le _,Nat.zero_le _⟩
theorem Zkp {at_ clients tmo least most:Int} (h:Zml at_ clients tmo least most=0):(0≤at_∧at_≤1152921504606846976)∧(1≤clients∧clients≤8)∧Ziv tmo least most nA=0:=by
  unfold Zml at h
  split at h
  ·cases h
  ·split at h
   ·cases h
   ·split at h
    ·cases h
    ·split at h
     ·cases h
     ·exact ⟨by omega,by omega,h⟩
theorem SOK.new (at_:Int):SOK (Tk.Zln at_):=⟨Nat.zero_le _,fun x hx=>by cases hx⟩
theorem ZaT.new {at_ clients tmo least most:Int} (h:Zml at_ clients tmo least most=0):ZaT tmo (ZhW at_ tmo least most clients.toNat) 0:=by
  obtain ⟨h1,h2,h3⟩:=Zkp h
  refine ⟨(fun c j hc=>by cases hc),Nat.zero_le _,SOK.new at_,Nat.zero_le _,h1,?_,fun i p hp=>?_⟩
  ·show (List.replicate clients.toNat _).length≤8
   rw [List.length_replicate];omega
  ·have hp:(List.replicate clients.toNat (Zxu tmo least most at_))[i]?=some p:=hp
   have:p=Zxu tmo least most at_:=List.eq_of_mem_replicate (List.mem_of_getElem? hp)
   subst this
   exact ⟨(ZwL h3).atS at_,(Zkv _ _).2 h1.1,(Zkv _ _).1,fun e=>(e rfl).elim,fun _=>rfl,fun e=>(e rfl).elim⟩
theorem SOK.loaded {at_:Int} {fl:List F4} (hl:Zed (Tk.Zln at_) nA fl):SOK ((Tk.Zln at_).loaded nA fl):=by
  obtain ⟨hn,hr,⟨nd,_⟩,_⟩:=hl
  have hcs:=Tk.ZpY fl { Tk.Zln at_ with spaces:=(Tk.Zln at_).spaces++[(nA,fl)]} nd (fun f hf=>rfl)
  obtain ⟨b1,b2,b3,b4,b5,b6,b7⟩:=Tk.ZnV fl { Tk.Zln at_ with spaces:=(Tk.Zln at_).spaces++[(nA,fl)]}
  have hld:(Tk.Zln at_).loaded nA fl={ Tk.Zln at_ with spaces:=(Tk.Zln at_).spaces++[(nA,fl)]}.freshL fl:=rfl
  rw [← hld] at hcs b1 b4
  refine ⟨by rw [b4];exact Nat.zero_le _,fun x hx f hf=>?_⟩
  rw [b1] at hx
  have:x=(nA,fl):=by simpa [Tk.Zln] using hx
  subst this
  refine ⟨_,hcs f hf,Tk.Zjs ?_⟩
  have:=List.any_eq_false.1 hr f hf
  simpa using this
section
variable {h h':Zb} {T:TT} {wb:Nat} {sp:Sl} {w:Cu}
theorem Zh6 (hW:Wld h T wb sp w) {at_:Int} (hw:w.srv=Tk.Zln at_) {s:Sl} {fl:List F4} (hr:Row h s 4 (fl.flatMap f4L)) (hfl:fl.length≤1099511627776) (hsl:fl.flatMap f4L≠[]→∀ k,s.blk=some k→T k=none∧k<sz h) {K:Int→Zb→Prop}
    (hk1:∀ e h',e≠0→¬ Zed w.srv nA fl→Wld h' T wb sp w→Zaq T T h h'→K e h') (hk2:Zed w.srv nA fl→∀ h' T',Wld h' T' wb sp { w with srv:=w.srv.loaded nA fl }→Zaq T T' h h'→K 0 h'):Yf (some ⟨wb,0,none⟩) s K h:=by
  unfold Yf ZbJ
  obtain ⟨nb,sb,sg,pl,hR⟩:=hW
  refine Za (Zl (Zh (rP (hR.wc (j:=1) rfl) ?_)))
  refine Tk.Zs6 hR.srv (name:=nA) (by decide) (by rw [hw];rfl) (by rw [hw];exact Nat.zero_le _) hr hfl (fun hne k hk=>⟨Za2 (hsl hne k hk).1,(hsl hne k hk).2⟩) (fun e h' he hl ex=>Za ?_) (fun hl h' T' hn st=>Za ?_)
  ·exact hk1 e h' he hl ⟨nb,sb,sg,pl,hR.ext ex⟩ ((Zaq.refl T h).ext ex)
  ·obtain ⟨hR',s'⟩:=hR.srvS st hn
   exact hk2 hl h' _ (hR'.to rfl) s'
theorem Zt3 (hW:Wld h T wb sp w) {K:Int→Zb→Prop} (hk:K w.now h):XY (some ⟨wb,0,none⟩) K h:=by
  unfold XY Zb8
  obtain ⟨nb,sb,sg,pl,hR⟩:=hW
  exact Za (Zl (Zh (rI (hR.wc (j:=4) rfl) (Za hk))))
theorem Zrm (hW:Wld h T wb sp w) {i:Nat} {p:Pe} (hp:w.pes[i]?=some p) {K:Sl→Zb→Prop}
    (hk:∀ s h' T',Row h' s 7 (p.cl.told.flatMap tC)→Wld h' T' wb sp (w.setP i { p with cl:={ p.cl with told:=[]}})→Zaq T T' h h'→K s h'):Z8 (some ⟨wb,0,none⟩) (i:Int) K h:=by
  unfold Z8 ZaE Xg X4
  have hlt:=Xk hp
  refine Zjb hW (fun e=>by omega) (fun k q b hi hq hb=>ZF (Zh ?_))
  have ek:k=i:=by omega
  subst ek
  rw [hp] at hq
  cases Option.some.inj hq
  obtain ⟨nb,sb,sg,pl,hR⟩:=hW
  obtain ⟨cb,rb,hx⟩:=hR.pe2 hp
  refine rP (hR.pc hx hb (j:=0) (by decide) rfl) ?_
  refine Zm6 (hR.cls k _ hx) fun s h' T' o _ hC st=>?_
  obtain ⟨hR',s'⟩:=hR.clS hx st hC
  exact hk s h' _ o.row (hR'.to rfl) s'
theorem Zjp (hW:Wld h T wb sp w) (hg:w.grs.length≤137438953472) {K:Sl→Zb→Prop} (hk:∀ s h',Own h' h.size s 9 (w.grs.flatMap gtL)→Ext h h'→K s h'):Yy (some ⟨wb,0,none⟩) K h:=by
  unfold Yy Zbi
  obtain ⟨nb,sb,sg,pl,hR⟩:=hW
  refine Zl (Zh (rL (hR.wc (j:=5) rfl) ?_))
  unfold Ya YB
  have hl:=hR.grs.len
  rw [Z7 ZgX] at hl
  cases hp:sg.ptr with
  | none =>
    refine ZF ?_
    have h0:w.grs=[]:=by
      have hsl:sg.len=0:=by
        rcases hR.grs.at_ with ⟨_,h9⟩ | ⟨b,c,e,h9,_⟩
        ·have:=hR.grs.cap;omega
        ·rw [hp] at h9;cases h9
      exact List.eq_nil_of_length_eq_zero (by omega)
    rw [h0] at hk
    exact hk _ _ (Own.nil h h.size 9) (Ext.refl h)
  | some a =>
    refine Zl ?_
    refine ZIZ 9 fun h1 o1 e1 z1=>?_
    refine (hR.grs.row.ext e1).rd ?_
    refine Own.app o1 (by rw [Z7 ZgX];omega) ?_ rfl (by show (0+sg.len)*80≤_;omega) (by show 0+sg.len≤_;omega) (by omega) fun s' h' o' l' u' b'=>?_
    ·rw [List.all_eq_true]
     intro v hv
     obtain ⟨g,_,hg⟩:=List.mem_flatMap.1 hv
     simp only [gtL,List.mem_cons,List.not_mem_nil,or_false] at hg
     rcases hg with rfl | rfl | rfl | rfl | rfl | rfl | rfl | rfl | rfl<;>first | exact YW | exact Zf8
    ·exact hk s' h' (by simpa using o') (e1.then u' fun k hk=>by cases hk;exact Nat.le_refl _)
end
end Go.Proofs.YtbppjmcinoffnaaGreat
namespace Go.Proofs.YtbppjmcinoffnaaGreat
open Go Go.Fw
open Nat renaming reduceAdd→Nqa,reduceLT→Nqb,reduceLeDiff→Nqc,reduceEqDiff→Nqd,reduceMul→Nqe
open Tk (Zt rI rB rS rP rM rL ZhD XC held1 ZaI wrS nA F4 f4L Zed)
def opL (o:Op):List Value:=[.int .u8 o.1,iv o.2.1,iv o.2.2.1,iv o.2.2.2.1,iv o.2.2.2.2.1,.int .u8 o.2.2.2.2.2.1,iv o.2.2.2.2.2.2.1,iv o.2.2.2.2.2.2.2.1,.string o.2.2.2.2.2.2.2.2.1,iv o.2.2.2.2.2.2.2.2.2.1]
theorem ZgP (o:Op):(opL o).length=10:=rfl
structure Zxo (o:Op):Prop where
  kind:0≤o.1∧o.1<256
  text:o.2.2.2.2.2.2.2.2.1.size<9223372036854775808
def Cu.runR (w:Cu):List Op→List Int × Cu
  | []=>([],w)
  | o::r=>((w.doR o).1.2.2::(Cu.runR (w.doR o).2 r).1,(Cu.runR (w.doR o).2 r).2)
theorem Zhd:∀ (l:List Op) (w:Cu) (k:Nat) (o:Op),l[k]?=some o→w.runR (l.take (k+1))=((w.runR (l.take k)).1++[((w.runR (l.take k)).2.doR o).1.2.2],((w.runR (l.take k)).2.doR o).2)
  | [],_,_,_,h=>by cases h
  | a::l,w,0,o,h=>by
    cases Option.some.inj h
    rfl
  | a::l,w,k+1,o,h=>by
    have ih:=Zhd l (w.doR a).2 k o h
    rw [List.take_succ_cons,List.take_succ_cons]
    show (_::(Cu.runR (w.doR a).2 (l.take (k+1))).1,(Cu.runR (w.doR a).2 (l.take (k+1))).2)=_
    rw [ih]
    rfl
theorem ZaT.run {tmo:Int}:∀ {l:List Op} {w:Cu} {n:Nat},ZaT tmo w n→n+l.length≤1000→ZaT tmo (w.runR l).2 (n+l.length)
  | [],_,_,h,_=>h
  | o::l,w,n,h,hn=>by
    rw [List.length_cons] at hn ⊢
    have:=ZaT.run (l:=l) (h.do (by omega) o) (by omega)
    have e:n+(l.length+1)=n+1+l.length:=by omega
    rw [e]
    exact this
section
variable {h h':Zb} {T:TT} {wb:Nat} {sp:Sl} {w:Cu}
theorem ZtI (hW:Wld h T wb sp w) {tmo:Int} {n:Nat} (hC:ZaT tmo w n) {s:Sl} {l:List Op} (hr:Row h s 10 (l.flatMap opL)) (hT:∀ k,s.blk=some k→T k=none∧k<sz h) (hok:∀ o,o∈l→Zxo o) (hl:l.length≤100) (hn:n+l.length≤1000) {K:Sl→Zb→Prop}
    (hk:∀ out h' T',Row h' out 1 ((w.runR l).1.map iv)→Wld h' T' wb sp (w.runR l).2→Zaq T T' h h'→(∀ k,out.blk=some k→T' k=none)→K out h'):XX (some ⟨wb,0,none⟩) s K h:=by
  unfold XX Zb7
  have hsl:s.len=l.length:=by
    have:=hr.len
    rw [Z7 ZgP] at this
    omega
  refine Zds (I:=fun st hh=>∃ (k:Nat) (T':TT) (out:Sl),st=(out,(k:Int),())∧k≤l.length∧Wld hh T' wb sp (w.runR (l.take k)).2∧Zaq T T' h hh∧Own hh (sz h) out 1 ((w.runR (l.take k)).1.map iv)∧out.len=k∧∀ j,out.blk=some j→T' j=none) (fun st _=>l.length - st.2.1.toNat)
    ⟨0,T,⟨none,0,0⟩,rfl,Nat.zero_le _,hW,Zaq.refl _ _,Own.nil h (sz h) 1,rfl,fun j hj=>by cases hj⟩ ?_
  rintro _ h2 ⟨k,T2,out,rfl,hkl,hW2,s2,o2,hol,n2⟩ Q hQ
  dsimp only
  refine Zj (fun c=>?_) (fun c=>?_)
  ·have hkl2:k<l.length:=by omega
   have ho:l[k]?=some l[k]:=List.getElem?_eq_getElem hkl2
   have hom:l[k]∈l:=List.getElem_mem hkl2
   generalize l[k]=o at ho hom
   obtain ⟨ok1,ok2⟩:=hok o hom
   have hr2:Row h2 s 10 (l.flatMap opL):=hr.congr fun b i hp _ _=>by
     have hb:s.blk=some b:=by simp [Sl.blk,hp]
     obtain ⟨t1,t2⟩:=hT b hb
     exact s2.upd.old b t2 fun e=>e t1
   obtain ⟨b,i,_,_,hidx,hc⟩:=ZaI ZgP hr2 ho (by decide)
   refine hidx rfl ?_
   refine rI (hc 0 _ rfl) (rI (hc 1 _ rfl) (rI (hc 2 _ rfl) (rI (hc 3 _ rfl) (rI (hc 4 _ rfl) (rI (hc 5 _ rfl) (rI (hc 6 _ rfl) (rI (hc 7 _ rfl) (rS (hc 8 _ rfl) (rI (hc 9 _ rfl) ?_)))))))))
   refine Za1 fun h3 c3 e3 z3=>Za ?_
   refine Ztd (vs:=opL o) c3 rfl (by simp only [opL,List.all_cons,List.all_nil,YW,Zf8];rfl) rfl fun h4 c4 u4 z4=>Za ?_
   have e4:Ext h2 h4:=e3.then u4 fun k hk=>by rw [hk];exact Nat.le_refl _
   refine ZaS (decide_eq_true (by omega)) ?_
   refine rI (Zt c4 rfl) (rI (Zt c4 rfl) (rI (Zt c4 rfl) (rI (Zt c4 rfl) (rI (Zt c4 rfl) (rI (Zt c4 rfl) (rI (Zt c4 rfl) (rI (Zt c4 rfl) (rS (Zt c4 rfl) (rI (Zt c4 rfl) ?_)))))))))
   have hC2:=hC.run (l:=l.take k) (by rw [List.length_take];omega)
   have hlt:(l.take k).length=k:=by rw [List.length_take];omega
   rw [hlt] at hC2
   refine Zn4 (hW2.ext e4) hC2 (by omega) (o:=o) ok1 ok2 fun h5 T5 hW5 s5=>Za ?_
   refine Za1 fun h6 c6 e6 z6=>(ZAj (n:=1) (l:=[iv _]) c6 rfl).rd ?_
   have es:=Zhd l w k o ho
   have o5:Own h6 (sz h) out 1 ((w.runR (l.take k)).1.map iv):=o2.congr fun b hb hlt _=>(e6.old b (Nat.lt_of_lt_of_le hlt (Nat.le_trans e4.size s5.upd.size))).trans ((s5.upd.old b (Nat.lt_of_lt_of_le hlt e4.size) fun e=>e (n2 b hb)).trans (e4.old b hlt))
   have zle:sz h≤sz h6:=Nat.le_trans s2.upd.size (Nat.le_trans e4.size (Nat.le_trans s5.upd.size e6.size))
   refine Own.app o5 rfl rfl rfl (by omega) (by omega) zle fun out' h7 o7 l7 u7 b7=>?_
   have n5:∀ j,out.blk=some j→T5 j=none:=fun j hj=>s5.none_ (n2 j hj) (Nat.lt_of_lt_of_le (o2.lt hj).2 e4.size)
   rw [wrS hkl2 (by omega)]
   refine hQ _ _ ⟨k+1,T5,out',rfl,hkl2,?_,((s2.trans (Zaq.pre e4 s5)).ext e6).also u7 fun j hj=>(o2.lt hj).1,?_,by omega,fun j hj=>?_⟩ (by dsimp only;omega)
   ·rw [es]
    exact (hW5.ext e6).upd u7 fun j hj=>n5 j hj
   ·rw [es,List.map_append]
    exact o7
   ·rcases b7 with e | e
    ·rw [e] at hj;exact n5 j hj
    ·rw [e] at hj
     cases hj
     exact hW5.no e6.size
  ·have e:k=l.length:=by omega
   subst e
   rw [List.take_length] at hW2 o2
   exact hk out h2 T2 o2.row hW2 s2 n2
end
end Go.Proofs.YtbppjmcinoffnaaGreat
namespace Go.Proofs.YtbppjmcinoffnaaGreat
open Go Go.Fw
open Nat renaming reduceAdd→Nqa,reduceLT→Nqb,reduceLeDiff→Nqc,reduceEqDiff→Nqd,reduceMul→Nqe
open Tk (nA F4 f4L Zed)
def lvF:F4:=(1,2,1,0,())
def lvR:Rq:=(0,1,1,2,ByteArray.mk #[],0,())
def lv1:Op:=(1,0,2000000,0,0,0,0,0,ByteArray.mk #[],0,())
def lv2:Op:=(3,0,0,0,0,0,0,0,ByteArray.mk #[],0,())
def lv3:Op:=(2,0,0,0,lvR)
def lv5:Op:=(4,0,0,1000,0,0,0,0,ByteArray.mk #[],0,())
def lv6:Op:=(5,0,0,1000,0,0,0,0,ByteArray.mk #[],0,())
def lvW:Cu:={ ZhW 0 1000000 1 2 1 with srv:=(Tk.Zln 0).loaded nA [lvF]}
def Zks:Cu:=(lvW.runR [lv1,lv2,lv3,lv3]).2
theorem ZI0:(lvW.runR [lv1,lv2,lv3,lv3]).1=[0,0,0,0]:=by kernel_rfl
def Zr3:List (List UInt8):=[Ze7 (Zil nA),Ze7 (ZfT lvR 1),Ze7 (ZfT lvR 2)]
def Zqg:List (List UInt8):=[ZgA (0,1,0,0,0,()),ZgA (1,1,0,0,0,()),ZgA (2,2,0,0,0,())]
def lvP (w:Cu):Pe:=match w.pes[0]? with
  | some p=>p
  | none=>⟨Zfb 0 0 0 nA,0,none⟩
theorem ZEw:Zks.pes[0]?=some (lvP Zks):=by kernel_rfl
theorem ZEy:Zks.mvE (lvP Zks) 1000=0:=by kernel_rfl
theorem ZEt:(lvP Zks).rd=some ([],false):=by kernel_rfl
theorem ZEC:(Zks.moved (lvP Zks).conn 0 1000).1=fr Zr3:=by kernel_rfl
def Zt6:Cu:={ Zks with cs:=(Zks.moved (lvP Zks).conn 0 1000).2,pes:=Zks.pes.set 0 { lvP Zks with rd:=some ([],false)}}
def ZhE:Cu:=(Zt6.serveL 0 (lvP Zks).conn Zr3).2
theorem ZEs:(Zt6.serveL 0 (lvP Zks).conn Zr3).1=true:=by kernel_rfl
theorem ZE8 (l:List UInt8) (h:decide (1≤l.length)&&decide (l.length≤4096)=true):good l:=by
  simp only [Bool.and_eq_true,decide_eq_true_eq] at h
  exact h
theorem Zzn:Ze3 (fr Zr3)=(Zr3,false,[]):=Zn6 Zr3 fun l hl=>by
  simp only [Zr3,List.mem_cons,List.not_mem_nil,or_false] at hl
  rcases hl with rfl | rfl | rfl<;>exact ZE8 _ (by kernel_rfl)
theorem ZI2:Zks.doR lv5=((0,false,0),ZhE):=by
  have e1:Zks.doR lv5=res (Zks.toSrvR 0 1000):=by
    unfold Cu.doR
    rw [if_neg (by decide),if_neg (by decide),if_pos (by decide),if_neg (by decide),if_neg (by decide)]
    rfl
  rw [e1]
  unfold Cu.toSrvR
  rw [ZEw]
  dsimp only
  rw [if_neg (fun h=>h ZEy),ZEt]
  dsimp only
  rw [ZEC]
  have e2:putS [] false (fr Zr3)=(Zr3,false,[]):=Zzn
  rw [e2]
  show res (0,if (Zt6.serveL 0 (lvP Zks).conn Zr3).1=true∧false=false then (Zt6.serveL 0 (lvP Zks).conn Zr3).2 else _)=_
  rw [if_pos ⟨ZEs,rfl⟩]
  rfl
theorem ZEv:ZhE.pes[0]?=some (lvP ZhE):=by kernel_rfl
theorem ZEx:ZhE.mvE (lvP ZhE) 1000=0:=by kernel_rfl
theorem ZEB:(ZhE.moved (lvP ZhE).conn 1 1000).1=fr Zqg:=by kernel_rfl
theorem ZwT:Ze3 (fr Zqg)=(Zqg,false,[]):=Zn6 Zqg fun l hl=>by
  simp only [Zqg,List.mem_cons,List.not_mem_nil,or_false] at hl
  rcases hl with rfl | rfl | rfl<;>exact ZE8 _ (by kernel_rfl)
def Zt7:Cl:={ (lvP ZhE).cl.tick ZhE.now with rb:=[],broken:=false }
def ZE9:Cl:=(Zt7.take Zqg).1
theorem ZEr:(Zt7.take Zqg).2=false:=by kernel_rfl
theorem ZEz:(lvP ZhE).cl.atE ZhE.now=0:=by kernel_rfl
theorem ZEq:(lvP ZhE).cl.up=true:=by kernel_rfl
theorem Zzl:((lvP ZhE).cl.tick ZhE.now).rb=[]∧((lvP ZhE).cl.tick ZhE.now).broken=false:=⟨by kernel_rfl,by kernel_rfl⟩
theorem ZEA:(lvP ZhE).cl.bytesR ZhE.now (fr Zqg)=(ZE9,0):=by
  unfold Cl.bytesR
  rw [if_pos ZEz,if_pos ZEq]
  unfold Cl.putB
  rw [Zzl.1,Zzl.2]
  have e2:putS [] false (fr Zqg)=(Zqg,false,[]):=ZwT
  dsimp only
  rw [e2]
  show (if (if (Zt7.take Zqg).2=true then 50 else if false=true then 50 else 0:Int)=0 then (Zt7.take Zqg).1 else _,_)=_
  rw [ZEr]
  rfl
def ZED:Cu:={ ZhE with cs:=(ZhE.moved (lvP ZhE).conn 1 1000).2,pes:=ZhE.pes.set 0 { lvP ZhE with cl:=ZE9 }}
def Zr2:Cu:=ZED.sends 0
theorem ZwS:ZhE.pes.length=1:=by kernel_rfl
theorem ZI1:ZhE.doR lv6=((0,false,0),Zr2):=by
  have e1:ZhE.doR lv6=res (ZhE.toClR 0 1000):=by
    unfold Cu.doR
    rw [ZwS,if_neg (by decide),if_neg (by decide),if_pos (by decide),if_neg (by decide),if_neg (by decide)]
    rfl
  rw [e1]
  unfold Cu.toClR
  rw [ZEv]
  dsimp only
  rw [if_neg (fun h=>h ZEx),ZEB,if_neg (by intro h;have:=congrArg List.length h;revert this;decide),ZEA]
  rfl
def lvT (i:Nat):Tld:=match (lvP Zr2).cl.told[i]? with
  | some t=>t
  | none=>Zfg 0
theorem ZEu:Zr2.pes[0]?=some (lvP Zr2):=by kernel_rfl
theorem ZwR:(lvP Zr2).cl.told=[lvT 0,lvT 1]:=by kernel_rfl
theorem Zzj:(lvT 0).a.2.1=1∧(lvT 1).a.2.1=2:=⟨by kernel_rfl,by kernel_rfl⟩
theorem Zzm:Zr2.grs.length=1:=by kernel_rfl
def lvL:List Op:=[lv1,lv2,lv3,lv3,lv5,lv6]
theorem Zzk:lvW.runR lvL=([0,0,0,0,0,0],Zr2):=by
  have h1:=Zhd lvL lvW 4 lv5 rfl
  have h2:=Zhd lvL lvW 5 lv6 rfl
  have e0:lvW.runR (lvL.take 4)=([0,0,0,0],Zks):=Prod.ext ZI0 rfl
  have h1:lvW.runR (lvL.take 5)=([0,0,0,0]++[0],ZhE):=by
    rw [h1,e0]
    dsimp only
    rw [ZI2]
  have h2:lvW.runR (lvL.take 6)=([0,0,0,0]++[0]++[0],Zr2):=by
    rw [h2,h1]
    dsimp only
    rw [ZI1]
  exact h2
theorem Zvp:Zml 0 1 1000000 1 2=0:=by kernel_rfl
theorem Zr1:Zed (Tk.Zln 0) nA [lvF]:=⟨by kernel_rfl,by kernel_rfl,⟨by decide,fun f hf ⟨x,hx,_⟩=>by cases hx⟩,by kernel_rfl⟩
end Go.Proofs.YtbppjmcinoffnaaGreat
namespace Go.Proofs.YtbppjmcinoffnaaGreat
open Go Go.Fw
open Nat renaming reduceAdd→Nqa,reduceLT→Nqb,reduceLeDiff→Nqc,reduceEqDiff→Nqd,reduceMul→Nqe
open Tk (Zt rI rB rS rP rM rL ZhD XC held1 ZaI wrS nA F4 f4L Zed)
theorem ZIY {h:Zb} {b k n:Nat} {l:List Value} {t:TypeId} {f:Nat × Nat} (c:obj h b=some (.cells l.toArray t f)) (hl:l.length=k*n) (hk:k<9223372036854775808):Row h ⟨some ⟨b,0,none⟩,k,k⟩ n l :=
  ⟨hl,Nat.le_refl _,hk,.inr ⟨b,0,rfl,ZaD c fun i v hi=>by simpa using hi⟩⟩
theorem Zmx {h:Zb} {K:Bool→Zb→Prop} (hk:∀ h',Ext h h'→K true h'):Xv K h:=by
  unfold Xv Zcr
  refine Zni (fun e=>(e Zvp).elim) fun _ h2 T wb sp hW e2 low=>Za (Zam (fun e=>(e rfl).elim) fun _=>Zl ?_)
  have lz:=e2.size
  refine Za1 fun h3 c3 e3 z3=>?_
  have nf:∀ k,(⟨some ⟨h2.size,0,none⟩,1,1⟩:Sl).blk=some k→T k=none∧k<sz h3:=fun k hk=>by cases hk;exact ⟨hW.no (Nat.le_refl _),by have h9:sz h3=sz h2+1:=z3;show sz h2<sz h3;omega⟩
  refine Zh6 (hW.ext e3) (at_:=0) rfl (fl:=[lvF]) (ZAj (n:=4) c3 rfl) (by decide) (fun _=>nf) (fun e h' _ hn _ _=>(hn Zr1).elim) fun _ h5 T5 hW5 s5=>Za ?_
  have e5:Ext h h5:=(e2.trans e3).then s5.upd fun k hk=>low k hk
  have low5:∀ k,T5 k≠none→sz h≤k:=fun k hk=>by
    rcases s5.new k hk with q | q
    ·exact low k q
    ·have h9:sz h3≤k:=q
     have h8:sz h≤sz h3:=(e2.trans e3).size
     omega
  refine Za1 fun h7 c7 e7 z7=>Ztd (vs:=opL lv3) c7 rfl (by simp only [opL,List.all_cons,List.all_nil,YW,Zf8];rfl) rfl fun h8 c8 u8 z8=>?_
  have e8:Ext h5 h8:=e7.then u8 fun k hk=>by rw [hk];exact Nat.le_refl _
  refine rI (Zt c8 rfl) (rI (Zt c8 rfl) (rI (Zt c8 rfl) (rI (Zt c8 rfl) (rI (Zt c8 rfl) (rI (Zt c8 rfl) (rI (Zt c8 rfl) (rI (Zt c8 rfl) (rS (Zt c8 rfl) (rI (Zt c8 rfl) ?_)))))))))
  refine rI (Zt c8 rfl) (rI (Zt c8 rfl) (rI (Zt c8 rfl) (rI (Zt c8 rfl) (rI (Zt c8 rfl) (rI (Zt c8 rfl) (rI (Zt c8 rfl) (rI (Zt c8 rfl) (rS (Zt c8 rfl) (rI (Zt c8 rfl) ?_)))))))))
  refine Za1 fun h9 c9 e9 z9=>?_
  have hW9:Wld h9 T5 wb sp lvW:=(hW5.ext e8).ext e9
  have hC9:ZaT 1000000 lvW 0:=((ZaT.new Zvp).srvs (SOK.loaded Zr1))
  have hr9:Row h9 ⟨some ⟨h8.size,0,none⟩,6,6⟩ 10 (lvL.flatMap opL):=ZIY c9 rfl (by decide)
  have e59:Ext h h9:=(e5.trans e8).trans e9
  refine ZtI hW9 hC9 hr9 (fun k hk=>by cases hk;exact ⟨hW5.no (by have h9:=e8.size;exact h9),by have q9:sz h9=sz h8+1:=z9;show sz h8<sz h9;omega⟩) (fun o ho=>by
    simp only [lvL,List.mem_cons,List.not_mem_nil,or_false] at ho
    rcases ho with rfl | rfl | rfl | rfl | rfl | rfl<;>exact ⟨by decide,by decide⟩) (by decide) (by decide) fun out h32 T32 o32 hW32 s32 n32=>?_
  rw [Zzk] at o32 hW32
  dsimp only at o32 hW32
  have e32:Ext h h32:=e59.then s32.upd fun k hk=>low5 k hk
  have low32:∀ k,T32 k≠none→sz h≤k:=fun k hk=>by
    rcases s32.new k hk with q | q
    ·exact low5 k q
    ·have h8:sz h9≤k:=q
     have h7:sz h≤sz h9:=e59.size
     omega
  have hol:out.len=6:=by
    have:=o32.len
    simpa using this.symm
  refine Za ?_
  refine Zds (I:=fun s hh=>hh=h32∧∃ k:Nat,s=((k:Int),())∧k≤6) (fun s _=>6 - s.1.toNat) ⟨rfl,0,rfl,by decide⟩ ?_
  rintro _ h35 ⟨rfl,k,rfl,hk6⟩ Q hQ
  dsimp only
  refine Zj (fun c=>?_) (fun c=>?_)
  ·have hk5:k<6:=by omega
   have hv:([0,0,0,0,0,0].map iv)[k]?=some (iv 0):=by
     have:k=0∨k=1∨k=2∨k=3∨k=4∨k=5:=by omega
     rcases this with rfl | rfl | rfl | rfl | rfl | rfl<;>rfl
   refine o32.idx (n:=k) rfl hv fun b o _ hc=>?_
   refine ⟨0,hc,Zam (fun e=>(e rfl).elim) fun _=>Za ?_⟩
   rw [wrS (n:=6) hk5 (by decide)]
   exact hQ _ _ ⟨rfl,k+1,rfl,hk5⟩ (by dsimp only;omega)
  ·refine Zrm hW32 (i:=0) ZEu fun s h40 T40 r40 hW40 s40=>?_
   rw [ZwR] at r40
   have hsl:s.len=2:=by
     have:=r40.len
     rw [Z7 ZiU] at this
     simp only [List.length_cons,List.length_nil] at this
     omega
   have e40:Ext h h40:=e32.then s40.upd fun k hk=>low32 k hk
   refine Zj (fun _=>?_) (fun e=>(e rfl).elim)
   refine Zj (fun _=>?_) (fun e=>(e (by rw [hol];rfl)).elim)
   refine Zj (fun _=>?_) (fun e=>(e (by rw [hsl];rfl)).elim)
   obtain ⟨b0,o0,_,_,hi0,hc0⟩:=ZaI ZiU r40 (i:=0) rfl (by decide)
   obtain ⟨b1,o1,_,_,hi1,hc1⟩:=ZaI ZiU r40 (i:=1) rfl (by decide)
   refine hi0 rfl (rI (hc0 2 _ rfl) (Zj (fun _=>hi1 rfl (rI (hc1 2 _ rfl) (Zj (fun _=>?_) (fun e=>(e Zzj.2).elim)))) (fun e=>(e Zzj.1).elim)))
   have eg:(Zr2.setP 0 { lvP Zr2 with cl:={ (lvP Zr2).cl with told:=[]}}).grs.length=1:=Zzm
   refine Zjp hW40 (by rw [eg];decide) fun sg h48 og e48=>?_
   have hgl:sg.len=1:=by
     have:=og.len
     rw [Z7 ZgX,eg] at this
     omega
   rw [YN,hgl]
   exact hk h48 (e40.trans e48)
end Go.Proofs.YtbppjmcinoffnaaGreat
namespace Go.Proofs.YtbppjmcinoffnaaGreat
open Go Go.Fw
open Nat renaming reduceAdd→Nqa,reduceLT→Nqb,reduceLeDiff→Nqc,reduceEqDiff→Nqd,reduceMul→Nqe
open Tk (Zt rI rB rS rP rM rL ZhD XC held1 ZaI wrS nA F4 f4L YU Zed)
theorem Zgx {h0 h h':Zb} {T T':TT} (e:Ext h0 h) (low:∀ k,T k≠none→sz h0≤k) (st:Zaq T T' h h'):Ext h0 h'∧∀ k,T' k≠none→sz h0≤k:=by
  refine ⟨e.then st.upd fun k hk=>low k hk,fun k hk=>?_⟩
  rcases st.new k hk with q | q
  ·exact low k q
  ·have h9:sz h≤k:=q
   have h8:sz h0≤sz h:=e.size
   omega
structure Go1 (tmo:Int) (h0:Zb) (wb:Nat) (sp:Sl) (hh:Zb) (T:TT) (w:Cu) (n:Nat):Prop where
  wd:Wld hh T wb sp w
  ok:ZaT tmo w n
  ext:Ext h0 hh
  low:∀ k,T k≠none→sz h0≤k
theorem Go1.do {tmo:Int} {h0 hh:Zb} {wb:Nat} {sp:Sl} {T:TT} {w:Cu} {n:Nat} (g:Go1 tmo h0 wb sp hh T w n) (hn:n≤1000) {o:Op} (ho:Zxo o) {K:Int→Bool→Int→Zb→Prop}
    (hk:∀ h' T',Go1 tmo h0 wb sp h' T' (w.doR o).2 (n+1)→K (w.doR o).1.1 (w.doR o).1.2.1 (w.doR o).1.2.2 h'):YD (some ⟨wb,0,none⟩) o K hh :=
  Zn4 g.wd g.ok hn ho.kind ho.text fun h' T' hW st=>by
   obtain ⟨e,l⟩:=Zgx g.ext g.low st
   exact hk h' T' ⟨hW,g.ok.do hn o,e,l⟩
theorem Go1.load {tmo:Int} {h0 hh:Zb} {wb:Nat} {sp:Sl} {T:TT} {w:Cu} {n:Nat} (g:Go1 tmo h0 wb sp hh T w n) {at_:Int} (hw:w.srv=Tk.Zln at_) {s:Sl} {fl:List F4} (hr:Row hh s 4 (fl.flatMap f4L)) (hfl:fl.length≤1099511627776) (hs:fl.flatMap f4L≠[]→∀ k,s.blk=some k→k<sz h0) {K:Int→Zb→Prop}
    (hk:∀ e h' T' w',Go1 tmo h0 wb sp h' T' w' n→(e=0→Zed (Tk.Zln at_) nA fl∧w'={ w with srv:=w.srv.loaded nA fl })→K e h'):Yf (some ⟨wb,0,none⟩) s K hh:=by
  refine Zh6 g.wd hw hr hfl (fun hne k hk=>⟨Classical.byContradiction fun h9=>by have:=g.low k h9;have:=hs hne k hk;omega,Nat.lt_of_lt_of_le (hs hne k hk) g.ext.size⟩) (fun e h' he _ hW st=>?_) (fun hl h' T' hW st=>?_)
  ·obtain ⟨e1,l1⟩:=Zgx g.ext g.low st
   exact hk e h' T w ⟨hW,g.ok,e1,l1⟩ fun h0=>(he h0).elim
  ·obtain ⟨e1,l1⟩:=Zgx g.ext g.low st
   rw [hw] at hl
   exact hk 0 h' T' _ ⟨hW,g.ok.srvs (by rw [hw];exact SOK.loaded hl),e1,l1⟩ fun _=>⟨hl,rfl⟩
theorem Go1.ext1 {tmo:Int} {h0 hh h':Zb} {wb:Nat} {sp:Sl} {T:TT} {w:Cu} {n:Nat} (g:Go1 tmo h0 wb sp hh T w n) (e:Ext hh h'):Go1 tmo h0 wb sp h' T w n:=⟨g.wd.ext e,g.ok,g.ext.trans e,g.low⟩
theorem ZwA {h:Zb} {s:Sl} {fl:List F4} (hr:Row h s 4 (fl.flatMap f4L)) (hne:fl.flatMap f4L≠[]) {k:Nat} (hk:s.blk=some k):k<sz h:=by
  cases fl with
  | nil=>exact (hne rfl).elim
  | cons f l =>
    obtain ⟨b,o,h1,h2,_⟩:=ZaI YU hr (i:=0) rfl (by decide)
    rw [hk] at h1
    cases h1
    exact h2
def rqV (r:Rq):Value:= .agg #[iv r.1,.int .u8 r.2.1,iv r.2.2.1,iv r.2.2.2.1,.string r.2.2.2.2.1,iv r.2.2.2.2.2.1]
structure Zoo (h:Zb) (mb:Nat) (f:Int→Int→Option Rq):Prop where
  is:∃ es clk,obj h mb=some (.map es clk)∧(∀ x,x∈es.toList→∃ k n:Int,x.key = .agg #[iv k,iv n])∧∀ k n,(ZeA [iv k,iv n] es.toList 0).map (·.2)=(f k n).map rqV
theorem Zoo.lt {h:Zb} {mb:Nat} {f:Int→Int→Option Rq} (hA:Zoo h mb f):mb<sz h:=by
  obtain ⟨es,clk,h1,_⟩:=hA.is
  exact ZS h1
theorem Zoo.congr {h h':Zb} {mb:Nat} {f:Int→Int→Option Rq} (hA:Zoo h mb f) (he:obj h' mb=obj h mb):Zoo h' mb f:=by
  obtain ⟨es,clk,h1,h2⟩:=hA.is
  exact ⟨es,clk,he.trans h1,h2⟩
theorem Zoo.new {h:Zb} {mb:Nat} {c:Nat} (hb:obj h mb=some (.map #[] c)):Zoo h mb (fun _ _=>none):=⟨#[],c,hb,(fun x hx=>by cases hx),fun _ _=>rfl⟩
theorem ZsV (k n:Int):ZgB [.int .i64,.int .i64] (.agg #[iv k,iv n]):=⟨[iv k,iv n],rfl,rfl,rfl,trivial⟩
theorem ZmP (k:List Value) (e:MapEntry):∀ (l:List MapEntry) (i:Nat),ZeA k (l++[e]) i=match ZeA k l i with
    | some x=>some x
    | none=>bif Zh9 k e.key then some (i+l.length,e.val) else none
  | [],i=>by simp only [List.nil_append,ZeA,List.length_nil,Nat.add_zero]
  | x::l,i=>by
    simp only [List.cons_append,ZeA,List.length_cons]
    cases Zh9 k x.key with
    | true=>rfl
    | false =>
      simp only [cond_false]
      rw [ZmP k e l (i+1),show i+1+l.length=i+(l.length+1) from by omega]
theorem Zm5 (k n k' n':Int):Zh9 [iv k,iv n] (.agg #[iv k',iv n'])=(k ==k'&&n ==n'):=by
  show Zdt [iv k,iv n] [iv k',iv n']=_
  simp only [Zdt,ZfR]
  cases (k ==k')<;>cases (n ==n')<;>rfl
theorem Zoo.get {h:Zb} {mb:Nat} {f:Int→Int→Option Rq} (hA:Zoo h mb f) (k n:Int) {K:Option Value→Prop} (hk:K ((f k n).map rqV)):Zfv [.int .i64,.int .i64] h (some mb) [iv k,iv n] K:=by
  obtain ⟨es,clk,h1,h2,h3⟩:=hA.is
  refine ⟨fun e=>(by cases e),fun b hb=>?_⟩
  cases hb
  refine ⟨es,clk,h1,fun x hx=>?_,by rw [h3];exact hk⟩
  obtain ⟨k',n',e⟩:=h2 x hx
  rw [e]
  exact ZsV k' n'
theorem Zoo.put {h:Zb} {mb:Nat} {f:Int→Int→Option Rq} (hA:Zoo h mb f) {k n:Int} (hf:f k n=none) (r:Rq) {K:Zb→Prop}
    (hk:∀ h',Zoo h' mb (fun a b=>if a=k∧b=n then some r else f a b)→Upd (· = mb) h h'→sz h'=sz h→K h'):Zfu [.int .i64,.int .i64] h (some mb) [iv k,iv n] (rqV r) K:=by
  obtain ⟨es,clk,h1,h2,h3⟩:=hA.is
  refine ⟨mb,es,clk,rfl,h1,fun x hx=>?_,?_⟩
  ·obtain ⟨k',n',e⟩:=h2 x hx
   rw [e]
   exact ZsV k' n'
  have h0:ZeA [iv k,iv n] es.toList 0=none:=by
    have:=h3 k n
    rw [hf] at this
    simpa using this
  rw [h0]
  obtain ⟨m1,m2,m3⟩:=St.setMap (y:= .map (es.push { key:= .agg #[iv k,iv n],val:=rqV r,born:=clk }) (clk+1)) h1
  refine hk _ ⟨_,_,m1,fun x hx=>?_,fun a b=>?_⟩ m2 m3
  ·rw [Array.toList_push] at hx
   rcases List.mem_append.1 hx with hx | hx
   ·exact h2 x hx
   ·simp only [List.mem_cons,List.not_mem_nil,or_false] at hx
    subst hx
    exact ⟨k,n,rfl⟩
  ·rw [Array.toList_push,ZmP]
   have hab:=h3 a b
   by_cases e:a=k∧b=n
   ·rw [if_pos e,e.1,e.2,h0]
    show (bif Zh9 [iv k,iv n] (.agg #[iv k,iv n]) then some (0+es.toList.length,rqV r) else none).map (·.2)=_
    rw [Zm5,beq_self_eq_true,beq_self_eq_true]
    rfl
   ·rw [if_neg e,← hab]
    cases ZeA [iv a,iv b] es.toList 0 with
    | some x=>rfl
    | none =>
      show (bif Zh9 [iv a,iv b] (.agg #[iv k,iv n]) then some (0+es.toList.length,rqV r) else none).map (·.2)=_
      rw [Zm5]
      have:(a ==k&&b ==n)=false:=by
        rw [Bool.and_eq_false_iff,beq_eq_false_iff_ne,beq_eq_false_iff_ne]
        by_cases q:a=k
        ·exact .inr fun q2=>e ⟨q,q2⟩
        ·exact .inl q
      rw [this]
      rfl
theorem ZrH {h h':Zb} {mb:Nat} {es:Array MapEntry} {c:Nat} (hb:obj h mb=some (.map es c)) (u:Upd (· = mb) h h') {s:Sl} {n:Nat} {vs:List Value} (hr:Row h s n vs):Row h' s n vs:=by
  refine ⟨hr.len,hr.cap,hr.big,?_⟩
  rcases hr.at_ with h0 | ⟨b,o,hp,hh⟩
  ·exact .inl h0
  ·refine .inr ⟨b,o,hp,?_⟩
   cases vs with
   | nil=>trivial
   | cons v vs =>
     have hne:b≠mb:=fun e=>by
       subst e
       have:=hh.1
       unfold Zb.cell at this
       have hb':h[b]?=some (.map es c):=hb
       rw [hb'] at this
       cases this
     exact Zho (u.old b (Zn9 hh.1) hne) hh
def noA:Zbl:=⟨fun _ _=>none,fun _ _=>False⟩
theorem GI.new (at_ tmo least most:Int) (k:Nat) (h:Ziv tmo least most nA=0):GI noA (ZhW at_ tmo least most k):=by
  have hp:∀ (i:Nat) (p:Pe),(ZhW at_ tmo least most k).pes[i]?=some p→p=Zxu tmo least most at_:=fun i p hp=>by
    have hp:(List.replicate k (Zxu tmo least most at_))[i]?=some p:=hp
    exact List.eq_of_mem_replicate (List.mem_of_getElem? hp)
  have hw:((Zfb tmo least most nA).atS at_).waits=[]∧((Zfb tmo least most nA).atS at_).told=[]:=by
    unfold Cl.atS
    split<;>exact ⟨rfl,rfl⟩
  obtain ⟨r1,r2,r3,_⟩:=Zoe (Zfb tmo least most nA) at_
  have hi:Zjm ((Zfb tmo least most nA).atS at_)=[]:=by unfold Zjm;rw [hw.1,hw.2];rfl
  refine ⟨fun i p hpi=>?_,fun i j p q hpi _ _ h0=>?_⟩
  ·rw [hp i p hpi]
   refine ⟨⟨?_,fun n hn=>?_,fun n hn=>(hn rfl).elim,fun t ht=>?_,Int.le_refl _,fun n hn=>hn.elim⟩,fun _=>⟨r1,r2,r3⟩,fun e=>(e rfl).elim⟩
   ·show (Zjm ((Zfb tmo least most nA).atS at_)).Nodup
    rw [hi];exact List.nodup_nil
   ·have hn:n∈Zjm ((Zfb tmo least most nA).atS at_):=hn
    rw [hi] at hn
    cases hn
   ·have ht:t∈((Zfb tmo least most nA).atS at_).told:=ht
    rw [hw.2] at ht
    cases ht
  ·rw [hp i p hpi] at h0
   exact (h0 rfl).elim
theorem GI.same {A:Zbl} {w w':Cu} (h:GI A w) (h1:w'.pes=w.pes) (h2:w'.cs=w.cs) (h3:w'.grs=w.grs) (h4:w'.now=w.now):GI A w':=⟨by rw [h1,h2,h3,h4];exact h.pes,by rw [h1];exact h.uniq⟩
theorem GI.took {A:Zbl} {w:Cu} (h:GI A w) {i:Nat} {p:Pe} (hp:w.pes[i]?=some p):GI A (w.setP i { p with cl:={ p.cl with told:=[]}}):=by
  have hg:=h.pes i p hp
  refine ⟨fun j q hq=>?_,Zee h.uniq hp (.inl rfl)⟩
  rcases Xm hq with ⟨rfl,rfl,_⟩ | ⟨hj,hq⟩
  ·have hs:∀ n,n∈Zjm { p.cl with told:=[]}→n∈Zjm p.cl:=fun n hn=>by
     have hn:n∈p.cl.waits.map (·.1)++([]:List Tld).map (·.id):=hn
     rw [List.map_nil,List.append_nil] at hn
     exact List.mem_append_left _ hn
   refine ⟨⟨?_,fun n hn=>hg.w.ids n (hs n hn),hg.w.dom,(fun t ht=>by cases ht),hg.w.pos,fun n hn=>⟨(hg.w.dn n hn).1,fun e=>(hg.w.dn n hn).2 (hs n e)⟩⟩,hg.off,fun e=>?_⟩
   ·have:=hg.w.nd
    unfold Zjm at this ⊢
    simp only [List.map_nil,List.append_nil]
    exact (List.nodup_append.1 this).1
   ·obtain ⟨c,LL,AA,st,hl⟩:=hg.ln e
    exact ⟨c,LL,AA,st,hl.at_,hl.brk,hl.rd,hl.req,hl.go,hl.ans,hl.back⟩
  ·exact h.pes j q hq
theorem GI.gone {A:Zbl} {w:Cu} (h:GI A w) {D:Int→Int→Prop} (hd:∀ (i:Nat) (p:Pe) (n:Int),w.pes[i]?=some p→D i n→n<p.cl.next∧n∉Zjm p.cl):GI ⟨A.f,D⟩ w :=
  ⟨fun i p hp=>by
    obtain ⟨w1,o1,l1⟩:=h.pes i p hp
    refine ⟨⟨w1.nd,w1.ids,w1.dom,w1.told,w1.pos,fun n hn=>hd i p n hp hn⟩,o1,fun e=>?_⟩
    obtain ⟨c,LL,AA,st,hl⟩:=l1 e
    exact ⟨c,LL,AA,st,hl.at_,hl.brk,hl.rd,hl.req,hl.go,hl.ans,hl.back⟩,h.uniq⟩
theorem GI.fresh {tmo:Int} {m:Nat} {A:Zbl} {w:Cu} (h:GI A w) (hC:ZaT tmo w m) {o:Op} (h2:o.1=2) (he:(w.doR o).1.2.2=0) (hf:(w.doR o).1.2.1=false):A o.2.1 (w.doR o).1.1=none:=by
  have ed:w.doR o=if o.2.1<0 then ((0,false,2),w) else if o.2.1≥w.pes.length then ((0,false,2),w) else w.askR o.2.1.toNat o.rq:=by
    unfold Cu.doR
    rw [h2,if_neg (by decide),if_neg (by decide),if_pos (show ZgG (2:Int).toNat=false by decide)]
    rfl
  rw [ed] at he hf ⊢
  split at he
  ·cases he
  rename_i n1
  split at he
  ·cases he
  rename_i n2
  rw [if_neg n1,if_neg n2] at hf ⊢
  obtain ⟨i,hi⟩:=Int.eq_ofNat_of_zero_le (show 0≤o.2.1 by omega)
  rw [hi,Int.toNat_natCast] at he hf ⊢
  have hp:w.pes[i]?=some w.pes[i]:=List.getElem?_eq_getElem (by omega)
  have er:(w.askR i o.rq).1=((w.pes[i]).cl.askR w.now o.rq).1:=by
    unfold Cu.askR
    rw [hp]
  rw [er] at he hf ⊢
  have hz:=Zh7 hC.now (hC.pes i _ hp).last
  have hg:=h.pes i _ hp
  generalize w.pes[i]=p at hp hz hg he hf ⊢
  unfold Cl.askR at he hf ⊢
  rw [if_pos hz] at he hf ⊢
  split at he
  case isFalse=>cases he
  rename_i q1
  rw [if_pos q1] at hf ⊢
  split at he
  case isFalse =>
    rename_i q2
    rw [if_neg q2] at hf
    cases hf
  rename_i q2
  rw [if_pos q2]
  show A i p.cl.next=none
  exact Classical.byContradiction fun e=>by have:=hg.w.dom _ e;omega
end Go.Proofs.YtbppjmcinoffnaaGreat
namespace Go.Proofs.YtbppjmcinoffnaaGreat
open Go Go.Fw
open Nat renaming reduceAdd→Nqa,reduceLT→Nqb,reduceLeDiff→Nqc,reduceEqDiff→Nqd,reduceMul→Nqe
def ZEE (S:Tk.Srv) (n:Int) (i:Nat) (conn:Int) (r:Rq) (g:List Gt):List Gt :=
  if (Tk.doV S n conn r).1.2≠0 then g else if (Tk.doV S n conn r).1.1.2.1=1 then (if r.2.1=5 then g else g++[(n,(i:Int),r.1,r)]) else g
structure Zne (I:Tk.Srv→List Gt→Int→Prop):Prop where
  closed:∀ {S g n},I S g n→∀ c,I (S.closed c) g n
  opened:∀ {S g n},I S g n→∀ c,I (S.opened c) g n
  again:∀ {S g n},I S g n→Tk.Zbm S.last n=0→I (S.restarted n) g n
  tick:∀ {S g n m},I S g n→n≤m→0≤m→m≤1152921504606846976→I S g m
  serve:∀ {S g n},I S g n→∀ i c r,I (Tk.doV S n c r).2 (ZEE S n i c r g) n
def At (I:Tk.Srv→List Gt→Int→Prop) (w:Cu):Prop:=I w.srv w.grs w.now
section
variable {I:Tk.Srv→List Gt→Int→Prop} (k:Zne I) {w:Cu}
include k
theorem Zne.cut (h:At I w) (i:Nat):At I (w.cut i):=by
  unfold Cu.cut
  split
  ·exact h
  ·split
   ·exact h
   ·exact k.closed h _
theorem Zne.sends (h:At I w) (i:Nat):At I (w.sends i):=by
  unfold Cu.sends
  split
  ·exact h
  ·split
   ·exact h
   ·split
    ·exact h
    ·split
     ·exact h
     ·split
      ·exact h
      ·refine k.cut ?_ _
       exact h
theorem Zne.cutK (h:At I w):∀ j,At I (w.cutK j)
  | 0=>h
  | j+1=>k.cut (Zne.cutK h j) j
theorem Zne.start (h:At I w):At I w.startR.2:=by
  unfold Cu.startR
  split
  ·exact h
  ·show I (if Tk.Zbm w.srv.last w.now=0 then w.srv.restarted w.now else w.srv) w.grs w.now
   split
   ·rename_i e;exact k.again h e
   ·exact h
theorem Zne.conn1 (h:At I w):At I w.conn1.2:=by
  unfold Cu.conn1
  split
  ·exact h
  ·split
   ·exact h
   ·split
    ·exact k.opened h _
    ·exact k.opened h _
theorem Zne.dial (h:At I w) (i:Nat):At I (w.dialR i).2:=by
  unfold Cu.dialR
  split
  ·exact h
  ·split
   ·exact h
   ·split
    ·exact h
    ·split
     ·exact k.conn1 h
     ·exact k.sends (w:=w.conn1.2.setP i _) (k.conn1 h) i
theorem Zne.ask (h:At I w) (i:Nat) (r:Rq):At I (w.askR i r).2:=by
  unfold Cu.askR
  split
  ·exact h
  ·exact k.sends (w:=w.setP i _) h i
theorem Zne.serveR (h:At I w) (i:Nat) (conn:Int) (lb:List UInt8):At I (w.serveR i conn lb).2:=by
  unfold Cu.serveR
  split
  ·exact h
  ·have hs:=k.serve h i conn (ZdH lb).1
   unfold ZEE at hs
   split
   ·rename_i e
    rw [if_pos e] at hs
    exact hs
   ·rename_i e
    rw [if_neg e] at hs
    have hn:At I (Cu.noted { w with srv:=(Tk.doV w.srv w.now conn (ZdH lb).1).2 } i (ZdH lb).1 (Tk.doV w.srv w.now conn (ZdH lb).1).1.1):=by
      unfold Cu.noted
      split
      ·rename_i e1
       rw [if_pos e1] at hs
       split
       ·rename_i e2
        rw [if_pos e2] at hs
        exact hs
       ·rename_i e2
        rw [if_neg e2] at hs
        exact hs
      ·rename_i e1
       rw [if_neg e1] at hs
       exact hs
    unfold Cu.said
    split
    ·exact hn
    ·exact hn
theorem Zne.serveL (i:Nat) (conn:Int):∀ (l:List (List UInt8)) {w:Cu},At I w→At I (w.serveL i conn l).2
  | [],_,h=>h
  | x::r,w,h=>by
    unfold Cu.serveL
    split
    ·exact Zne.serveL i conn r (k.serveR h i conn x)
    ·exact k.serveR h i conn x
theorem Zne.toSrv (h:At I w) (i:Nat) (most:Int):At I (w.toSrvR i most).2:=by
  unfold Cu.toSrvR
  split
  ·exact h
  ·split
   ·exact h
   ·split
    ·exact h
    ·dsimp only
     split
     ·refine k.serveL i _ _ ?_
      exact h
     ·refine k.cut (k.serveL i _ _ ?_) i
      exact h
theorem Zne.toCl (h:At I w) (i:Nat) (most:Int):At I (w.toClR i most).2:=by
  unfold Cu.toClR
  split
  ·exact h
  ·split
   ·exact h
   ·split
    ·exact h
    ·dsimp only
     split
     ·refine k.cut ?_ i
      exact h
     ·refine k.sends ?_ i
      exact h
theorem Zne.doK (h:At I w) (o:Op) (j:Nat):At I (w.doK o j).2:=by
  unfold Cu.doK
  split
  ·show At I (w.tickR o.2.2.1).2
   unfold Cu.tickR
   split
   ·rename_i he
    unfold Cu.tickE at he
    split at he
    ·cases he
    ·split at he
     ·cases he
     ·split at he
      ·cases he
      ·exact k.tick (m:=o.2.2.1) h (by omega) (by omega) (by omega)
   ·exact h
  ·exact k.ask h _ _
  ·exact k.dial h _
  ·exact k.toSrv h _ _
  ·exact k.toCl h _ _
  ·show At I (w.partR o.2.1.toNat).2
   unfold Cu.partR
   split
   ·exact h
   ·split
    ·exact k.cut h _
    ·exact h
  ·show At I w.stopR.2
   unfold Cu.stopR
   split
   ·exact k.cutK (w:=w.stopB) h _
   ·exact h
  ·exact k.start h
theorem Zne.do (h:At I w) (o:Op):At I (w.doR o).2:=by
  unfold Cu.doR
  split
  ·exact h
  ·split
   ·exact h
   ·split
    ·split
     ·exact h
     ·split
      ·exact h
      ·exact k.doK h o _
    ·exact k.doK h o _
end
open Tk (F4 G4)
def n4 (g:Gt):G4:=(g.1,g.2.2.2.2.2.1,g.2.2.2.2.2.2.1,g.2.2.2.2.2.2.2.1)
def cnt (g:Gt):Int:=g.2.2.2.2.2.2.1
end Go.Proofs.YtbppjmcinoffnaaGreat
namespace Go.Proofs.YtbppjmcinoffnaaGreat
open Go Go.Fw
open Nat renaming reduceAdd→Nqa,reduceLT→Nqb,reduceLeDiff→Nqc,reduceEqDiff→Nqd,reduceMul→Nqe
open Tk (Zt rI rB rS rP rM rL ZhD XC held1 ZaI wrS nA F4 f4L YU Zed)
theorem ZtT (g0:List Gt):Zne (fun _ g _=>g0 <+: g) where
  closed h _:=h
  opened h _:=h
  again h _:=h
  tick h _ _ _:=h
  serve h i c r:=by
    unfold ZEE
    split
    ·exact h
    ·split
     ·split
      ·exact h
      ·exact h.trans (List.prefix_append _ _)
     ·exact h
theorem Zp5 {h:Zb} {T:TT} {wb:Nat} {sp:Sl} {w:Cu} (hW:Wld h T wb sp w) {i:Int} {K:Sl→Zb→Prop} (h1:K ⟨none,0,0⟩ h)
    (h2:∀ (k:Nat) (p:Pe),i=(k:Int)→w.pes[k]?=some p→∀ s h' T',Row h' s 7 (p.cl.told.flatMap tC)→Wld h' T' wb sp (w.setP k { p with cl:={ p.cl with told:=[]}})→Zaq T T' h h'→K s h'):Z8 (some ⟨wb,0,none⟩) i K h:=by
  unfold Z8 ZaE Xg X4
  refine Zjb hW (fun _=>Zl ?_) (fun k q b hi hq hb=>ZF (Zh ?_))
  ·unfold Zag ZcE
   exact ZF h1
  obtain ⟨nb,sb,sg,pl,hR⟩:=hW
  obtain ⟨cb,rb,hx⟩:=hR.pe2 hq
  refine rP (hR.pc hx hb (j:=0) (by decide) rfl) ?_
  refine Zm6 (hR.cls k _ hx) fun s h' T' o _ hC st=>?_
  obtain ⟨hR',s'⟩:=hR.clS hx st hC
  exact h2 k q hi hq s h' _ o.row (hR'.to rfl) s'
theorem ZaT.took {tmo:Int} {w:Cu} {n:Nat} (h:ZaT tmo w n) {i:Nat} {p:Pe} (hp:w.pes[i]?=some p):ZaT tmo (w.setP i { p with cl:={ p.cl with told:=[]}}) n:=by
  have hP:=h.pes i p hp
  have c:=hP.cl
  refine h.set ⟨⟨⟨c.w.asc,c.w.ids,c.w.ats,c.w.last,c.w.next,?_⟩,⟨c.nk.tmo,c.nk.least,c.nk.back,c.nk.most,c.nk.name⟩,c.br,c.mon,c.next,c.out,c.rb,?_⟩,hP.last,hP.tmo,hP.rd,hP.no,hP.up⟩
  ·have:=c.w.sum
   show ([]:List Tld).length+p.cl.waits.length≤_
   rw [List.length_nil]
   omega
  ·have:=c.sum
   show ([]:List Tld).length+p.cl.waits.length≤_
   rw [List.length_nil]
   omega
theorem Go1.loadG {tmo:Int} {h0 hh:Zb} {wb:Nat} {sp:Sl} {T:TT} {w:Cu} {n:Nat} (g:Go1 tmo h0 wb sp hh T w n) {at_:Int} (hw:w.srv=Tk.Zln at_) {s:Sl} {fl:List F4} (hr:Row hh s 4 (fl.flatMap f4L)) (hfl:fl.length≤1099511627776) (hs:fl.flatMap f4L≠[]→∀ k,s.blk=some k→k<sz h0) {K:Int→Zb→Prop}
    (hk:∀ e h' T' w',Go1 tmo h0 wb sp h' T' w' n→w'.pes=w.pes→w'.cs=w.cs→w'.grs=w.grs→w'.now=w.now→K e h'):Yf (some ⟨wb,0,none⟩) s K hh:=by
  refine Zh6 g.wd hw hr hfl (fun hne k hk=>⟨Classical.byContradiction fun h9=>by have:=g.low k h9;have:=hs hne k hk;omega,Nat.lt_of_lt_of_le (hs hne k hk) g.ext.size⟩) (fun e h' he _ hW st=>?_) (fun hl h' T' hW st=>?_)
  ·obtain ⟨e1,l1⟩:=Zgx g.ext g.low st
   exact hk e h' T w ⟨hW,g.ok,e1,l1⟩ rfl rfl rfl rfl
  ·obtain ⟨e1,l1⟩:=Zgx g.ext g.low st
   rw [hw] at hl
   exact hk 0 h' T' _ ⟨hW,g.ok.srvs (by rw [hw];exact SOK.loaded hl),e1,l1⟩ rfl rfl rfl rfl
structure LG (tmo:Int) (h0:Zb) (wb:Nat) (sp:Sl) (bu ba:Nat) (hh:Zb) (T:TT) (w:Cu) (n:Nat) (A:Zbl) (U:Int→Bool):Prop where
  g:Go1 tmo h0 wb sp hh T w n
  i:GI A w
  am:Zoo hh ba A.f
  um:St.Xu hh bu U
  ta:T ba=none
  tu:T bu=none
  low:sz h0≤bu∧sz h0≤ba∧bu≠ba
  us:∀ y:Nat,U y=true→∃ x,w.grs[y]?=some x∧A.d x.2.1 x.2.2.1
theorem Xu.lt {h:Zb} {mb:Nat} {ps:Int→Bool} (hp:St.Xu h mb ps):mb<sz h:=by
  obtain ⟨es,c,h1,_⟩:=hp
  exact ZS h1
theorem Xu.congr {h h':Zb} {mb:Nat} {ps:Int→Bool} (hp:St.Xu h mb ps) (he:obj h' mb=obj h mb):St.Xu h' mb ps:=by
  obtain ⟨es,c,h1,h2⟩:=hp
  exact ⟨es,c,he.trans h1,h2⟩
section
variable {tmo:Int} {h0 hh h':Zb} {wb:Nat} {sp:Sl} {bu ba:Nat} {T T':TT} {w:Cu} {n:Nat} {A:Zbl} {U:Int→Bool}
theorem LG.ext (l:LG tmo h0 wb sp bu ba hh T w n A U) (e:Ext hh h'):LG tmo h0 wb sp bu ba h' T w n A U :=
  ⟨l.g.ext1 e,l.i,l.am.congr (Zbk e l.am.lt),Xu.congr l.um (Zbk e (Xu.lt l.um)),l.ta,l.tu,l.low,l.us⟩
theorem LG.step (l:LG tmo h0 wb sp bu ba hh T w n A U) (st:Zaq T T' hh h') {w':Cu} {n':Nat} (hW:Wld h' T' wb sp w') (hC:ZaT tmo w' n') {A':Zbl} (hi:GI A' w') (hf:A'.f=A.f∨True) (hd:A'.d=A.d) (hg:w.grs <+: w'.grs) :
    Go1 tmo h0 wb sp h' T' w' n'∧Zoo h' ba A.f∧St.Xu h' bu U∧T' ba=none∧T' bu=none∧∀ y:Nat,U y=true→∃ x,w'.grs[y]?=some x∧A'.d x.2.1 x.2.2.1:=by
  obtain ⟨e,lw⟩:=Zgx l.g.ext l.g.low st
  refine ⟨⟨hW,hC,e,lw⟩,l.am.congr ?_,Xu.congr l.um ?_,st.none_ l.ta l.am.lt,st.none_ l.tu (Xu.lt l.um),fun y hy=>?_⟩
  ·exact ZdJ st.upd l.am.lt fun q=>q l.ta
  ·exact ZdJ st.upd (Xu.lt l.um) fun q=>q l.tu
  ·obtain ⟨x,h1,h2⟩:=l.us y hy
   obtain ⟨t,ht⟩:=hg
   refine ⟨x,?_,by rw [hd];exact h2⟩
   rw [← ht,List.getElem?_append_left (Xk h1)]
   exact h1
theorem LG.use (l:LG tmo h0 wb sp bu ba hh T w n A U) {y:Nat} {x:Gt} (hy:w.grs[y]?=some x) (hd:∀ (i:Nat) (p:Pe),w.pes[i]?=some p→x.2.1=(i:Int)→x.2.2.1<p.cl.next∧x.2.2.1∉Zjm p.cl) {K:Zb→Prop}
    (hk:∀ h',LG tmo h0 wb sp bu ba h' T w n ⟨A.f,fun a b=>A.d a b∨(a=x.2.1∧b=x.2.2.1)⟩ (fun m=>U m||m ==(y:Int))→Upd (· = bu) hh h'→K h'):X9 (.int .i64) hh (some bu) (iv y) (.bool true) K:=by
  refine St.Xu.put l.um (y:Int) fun h' um u z=>hk h' ⟨⟨l.g.wd.upd u fun k hk=>by rw [hk];exact l.tu,l.g.ok,l.g.ext.then u fun k hk=>by rw [hk];exact l.low.1,l.g.low⟩,l.i.gone fun i p m hp hm=>?_,l.am.congr (ZdJ u l.am.lt fun e=>l.low.2.2 e.symm),um,l.ta,l.tu,l.low,fun j hj=>?_⟩ u
  ·rcases hm with hm | ⟨e1,e2⟩
   ·exact (l.i.pes i p hp).w.dn m hm
   ·rw [e2]
    exact hd i p hp e1.symm
  ·simp only [Bool.or_eq_true,beq_iff_eq] at hj
   rcases hj with hj | hj
   ·obtain ⟨x',h1,h2⟩:=l.us j hj
    exact ⟨x',h1,.inl h2⟩
   ·have:j=y:=by omega
    subst this
    exact ⟨x,hy,.inr ⟨rfl,rfl⟩⟩
end
def rqE (a b:Rq):Bool:=bif a.1 ==b.1 then (bif a.2.1 ==b.2.1 then (bif a.2.2.1 ==b.2.2.1 then (bif a.2.2.2.1 ==b.2.2.2.1 then (bif ZaF a.2.2.2.2.1 b.2.2.2.2.1 then (bif a.2.2.2.2.2.1 ==b.2.2.2.2.2.1 then true else false) else false) else false) else false) else false) else false
theorem ZtJ (r:Rq):rqE r r=true:=by
  unfold rqE
  simp only [beq_self_eq_true,Zpq,cond_true]
def ZmN (f:Int→Int→Option Rq) (now k id:Int) (x:Gt):Bool:=decide (x.2.1=k)&&(decide (x.2.2.1=id)&&(rqE x.2.2.2 ((f k id).getD zR)&&decide (x.1≤now)))
theorem Zu9 {y n:Nat} (h:y<n) (hn:n≤80000000):IntKind.wrap .i64 ((y:Int)+1)=((y+1:Nat):Int):=wrS h (by omega)
end Go.Proofs.YtbppjmcinoffnaaGreat
