/- The cluster: bytes moved; to the server, to the client. -/
import Derived.Test.YtbppjmcinoffnaaGreatPa15
set_option linter.unusedVariables false
set_option linter.unusedSimpArgs false
namespace Go.Proofs.YtbppjmcinoffnaaGreat
open Go Go.Fw
open Nat renaming reduceAdd→Nqa,reduceLT→Nqb,reduceLeDiff→Nqc,reduceEqDiff→Nqd,reduceMul→Nqe
open Tk (Zt rI rB rS rP rM rL ZhD XC held1 ZaI wrS)
def Zgm (cs:List St.Cn):Prop:=∀ c j,c∈cs→j<2→(c.side j).way.length≤65536∧(c.side j).come=[]
theorem ZmR {cs:List St.Cn} {k e m:Int} (he:e=0∨e=1) (hm:0≤m):St.ZgL cs k e m=St.ZgL cs k 0 0:=by
  unfold St.ZgL
  rw [if_neg (show ¬ e<0 by omega),if_neg (show ¬ e>1 by omega),if_neg (show ¬ m<0 by omega),if_neg (show ¬ (0:Int)<0 by omega),if_neg (show ¬ (0:Int)>1 by omega),if_neg (show ¬ (0:Int)<0 by omega)]
theorem Zsx {cs:List St.Cn} {k:Int} (h:St.ZgL cs k 0 0=0):1≤k∧∃ c,cs[(k - 1).toNat]?=some c∧c.brk=false:=by
  unfold St.ZgL at h
  split at h
  ·cases h
  ·split at h
   ·cases h
   ·rename_i h1 h2
    rw [if_neg (show ¬ (0:Int)<0 by omega),if_neg (show ¬ (0:Int)>1 by omega),if_neg (show ¬ (0:Int)<0 by omega)] at h
    have hl:(k - 1).toNat<cs.length:=by omega
    rw [List.getElem?_eq_getElem hl] at h ⊢
    refine ⟨by omega,_,rfl,?_⟩
    cases hb:cs[(k - 1).toNat].brk with
    | false=>rfl
    | true=>dsimp only at h;rw [hb,if_pos rfl] at h;cases h
theorem Zlt {cs:List St.Cn} {k:Int} (h0:1≤k) {c:St.Cn} (hc:cs[(k - 1).toNat]?=some c) (hb:c.brk=false):St.ZgL cs k 0 0=0:=by
  have hl:=Xk hc
  unfold St.ZgL
  rw [if_neg (by omega),if_neg (by omega),if_neg (show ¬ (0:Int)<0 by omega),if_neg (show ¬ (0:Int)>1 by omega),if_neg (show ¬ (0:Int)<0 by omega),hc]
  dsimp only
  rw [hb]
  rfl
theorem ZiG {α:Type} {l:List α} {i:Nat} {a b:α} (h:b∈l.set i a):b=a∨b∈l:=by
  rcases List.mem_or_eq_of_mem_set h with h1 | h1
  ·exact .inr h1
  ·exact .inl h1
theorem ZoY {j k:Nat} {T:TT} {S:Nat→Option Nat} (h1:S k=none) (h2:T k=none):cmb j T S k=none:=by unfold cmb;rw [h1,h2]
abbrev MX:Int:=9223372036854775807
def Cu.moved (w:Cu) (conn:Int) (j:Nat) (most:Int):List UInt8 × List St.Cn :=
  ((St.ZrJ (St.mvS w.cs conn j most).2 conn (1 - (j:Int)) MX).1.1,(St.ZrJ (St.mvS w.cs conn j most).2 conn (1 - (j:Int)) MX).2)
theorem Zgr {w:Cu} (hN:Zgm w.cs) {conn:Int} {j:Nat} (hj:j<2) {most:Int} (hm:0≤most) :
    (∀ c j',c∈(St.mvS w.cs conn j most).2→j'<2→(c.side j').way.length≤65536∧(c.side j').come.length≤65536)∧Zgm (w.moved conn j most).2∧(w.moved conn j most).1.length≤65536:=by
  have e1:St.ZgL w.cs conn (j:Int) most=St.ZgL w.cs conn 0 0:=ZmR (by omega) hm
  have e2:∀ cs,St.ZgL cs conn (1 - (j:Int)) MX=St.ZgL cs conn 0 0:=fun cs=>ZmR (by omega) (by decide)
  unfold Cu.moved St.ZrJ
  rw [e2]
  by_cases h0:St.ZgL w.cs conn 0 0=0
  ·obtain ⟨hk,c,hc,hb⟩:=Zsx h0
   have hmv:(St.mvS w.cs conn j most).2=w.cs.set (conn - 1).toNat (c.putS j ⟨(c.side j).way.drop (min most.toNat (c.side j).way.length),(c.side j).come++(c.side j).way.take (min most.toNat (c.side j).way.length),(c.side j).x⟩):=by
     unfold St.mvS
     rw [e1,h0,if_neg (fun h=>h rfl)]
     unfold St.mvI
     rw [Int.toNat_natCast,hc]
   rw [hmv]
   have hcm:=List.mem_of_getElem? hc
   obtain ⟨hw,hcome⟩:=hN c j hcm hj
   generalize hc2:c.putS j ⟨(c.side j).way.drop (min most.toNat (c.side j).way.length),(c.side j).come++(c.side j).way.take (min most.toNat (c.side j).way.length),(c.side j).x⟩=c2
   have hs2:∀ i,i<2→c2.side i=if i=j then ⟨(c.side j).way.drop (min most.toNat (c.side j).way.length),(c.side j).come++(c.side j).way.take (min most.toNat (c.side j).way.length),(c.side j).x⟩ else c.side i:=fun i hi=>by rw [← hc2];exact St.Ziz c hj hi _
   have hb2:c2.brk=false:=by rw [← hc2,St.ZsL,hb]
   have hc2':(w.cs.set (conn - 1).toNat c2)[(conn - 1).toNat]?=some c2:=List.getElem?_set_self (Xk hc)
   have hside:(c2.side j).way.length≤65536∧(c2.side j).come.length≤65536:=by
     rw [hs2 j hj,if_pos rfl]
     dsimp only
     rw [hcome,List.nil_append,List.length_drop,List.length_take]
     omega
   refine ⟨fun a j' ha hj'=>?_,?_⟩
   ·rcases ZiG ha with rfl | ha
    ·by_cases e:j'=j
     ·subst e;exact hside
     ·rw [hs2 j' hj',if_neg e]
      obtain ⟨h1,h2⟩:=hN c j' hcm hj'
      exact ⟨h1,by rw [h2];exact Nat.zero_le _⟩
    ·obtain ⟨h1,h2⟩:=hN a j' ha hj'
     exact ⟨h1,by rw [h2];exact Nat.zero_le _⟩
   ·rw [Zlt hk hc2' hb2,if_neg (fun h=>h rfl)]
    have ej:1 - (1 - (j:Int)).toNat=j:=by omega
    rw [ej]
    unfold St.rdI
    rw [hc2']
    dsimp only
    have em:min MX.toNat (c2.side j).come.length=(c2.side j).come.length:=by
      have:MX.toNat=9223372036854775807:=rfl
      omega
    rw [em,List.take_length,List.drop_length,List.set_set]
    refine ⟨fun a j' ha hj'=>?_,hside.2⟩
    rcases ZiG ha with rfl | ha
    ·rw [St.Ziz c2 hj hj']
     split
     ·exact ⟨hside.1,rfl⟩
     ·rename_i e
      rw [hs2 j' hj',if_neg e]
      exact hN c j' hcm hj'
    ·exact hN a j' ha hj'
  ·have hmv:(St.mvS w.cs conn j most).2=w.cs:=by
     unfold St.mvS
     rw [e1,if_pos h0]
   rw [hmv,if_pos h0]
   exact ⟨fun a j' ha hj'=>by
     obtain ⟨h1,h2⟩:=hN a j' ha hj'
     exact ⟨h1,by rw [h2];exact Nat.zero_le _⟩,hN,Nat.zero_le _⟩
def Cu.mvE (w:Cu) (p:Pe) (most:Int):Int:=if p.cl.up=false then 51 else if p.conn=0 then 51 else if most<0 then 2 else 0
section
variable {h h':Zb} {T:TT} {wb:Nat} {sp:Sl} {w:Cu}
theorem Zkr (hW:Wld h T wb sp w) (hN:Zgm w.cs) {i:Nat} {p:Pe} (hp:w.pes[i]?=some p) {b:Nat} (hb:sp.blk=some b) {j:Nat} (hj:j<2) {most:Int} {K:Sl→Int→Zb→Prop}
    (hk1:w.mvE p most≠0→K ⟨none,0,0⟩ (w.mvE p most) h)
    (hk2:w.mvE p most=0→∀ out h' T',Wld h' T' wb sp { w with cs:=(w.moved p.conn j most).2 }→Zaq T T' h h'→Bytes h' out (w.moved p.conn j most).1→(∀ k,out.blk=some k→T' k=none∧sz h≤k∧k<sz h')→K out 0 h') :
    YQ (some ⟨wb,0,none⟩) (some ⟨b,i*3,none⟩) (j:Int) most K h:=by
  obtain ⟨nb,sb,sg,pl,hR⟩:=hW
  obtain ⟨cb,rb,hx⟩:=hR.pe2 hp
  unfold YQ Zb6
  unfold Cu.mvE at hk1 hk2
  refine Za (Zh (rP (hR.pc hx hb (j:=0) (by decide) rfl) ?_))
  have hC:=hR.cls i _ hx
  refine ZcV hC ⟨fun cu=>Za ?_,fun cu=>Zh (rI (hR.pc hx hb (j:=1) (by decide) rfl) ?_)⟩
  ·have cu:p.cl.up=false:=by simpa using cu
   rw [if_pos cu] at hk1
   exact hk1 (by decide)
  have cu:¬ p.cl.up=false:=fun e=>by rw [show p.cl.up=true by simpa using cu] at e;cases e
  rw [if_neg cu] at hk1 hk2
  rw [YN]
  refine Zj (fun c=>Za ?_) (fun c=>?_)
  ·have c:p.conn=0:=c
   rw [if_pos c] at hk1
   exact hk1 (by decide)
  have c:¬ p.conn=0:=c
  rw [if_neg c] at hk1 hk2
  rw [YN]
  refine Zj (fun c=>Za ?_) (fun c=>?_)
  ·rw [if_pos c] at hk1
   exact hk1 (by decide)
  rw [if_neg c] at hk2
  obtain ⟨m1,m2,m3⟩:=Zgr hN (conn:=p.conn) hj (most:=most) (by omega)
  refine Zh ?_
  refine Zh (rP (hR.wc (j:=0) rfl) (rI (hR.pc hx hb (j:=1) (by decide) rfl) ?_))
  refine St.Zs4 hR.net (fun a j' ha hj'=>?_) fun h1 T1 hn1 s1=>?_
  ·obtain ⟨q1,q2⟩:=hN a j' ha hj'
   exact ⟨q1,by rw [q2];exact Nat.zero_le _⟩
  obtain ⟨hR1,s1⟩:=hR.netS s1 hn1
  refine Zh ?_
  refine Zh (rP (hR1.wc (j:=0) rfl) (rI (hR1.pc hx hb (j:=1) (by decide) rfl) ?_))
  rw [ZR (n:=1 - (j:Int)) (by omega) (by omega)]
  refine St.Zs1 hR1.net (fun a j' ha hj'=>?_) fun out h2 T2 hn2 s2 o2 n2=>?_
  ·obtain ⟨q1,q2⟩:=m1 a j' ha hj'
   exact ⟨q1,by omega⟩
  obtain ⟨hR2,s2⟩:=hR1.netS s2 hn2
  rw [YN]
  refine Za (Za ?_)
  refine hk2 rfl out h2 _ (hR2.to rfl) (s1.trans s2) (Own.row o2) fun k hk=>?_
  have hlt:=o2.lt hk
  have hlo:sz h1≤k:=hlt.1
  have n1:cmb 1 T T1 k=none:=hR1.no hlo
  refine ⟨?_,Nat.le_trans s1.upd.size hlo,hlt.2⟩
  exact ZoY (n2 k hk) n1
end
end Go.Proofs.YtbppjmcinoffnaaGreat
namespace Go.Proofs.YtbppjmcinoffnaaGreat.Tk
open Go Go.Fw
open Nat renaming reduceAdd→Nqa,reduceLT→Nqb,reduceLeDiff→Nqc,reduceEqDiff→Nqd,reduceMul→Nqe
def Srv.at (S:Srv) (t:Int):Srv:={ S with last:=t }
def Shr (S:Srv) (at_:Int) (o:List F4):Prop:=o=S.out∨o=XT at_ S.out∨∃ i,o=(XT at_ S.out).eraseIdx i
theorem Zsl (S:Srv) (at_:Int) (ns:ByteArray) (n:Int):Shr S at_ (ZgY S at_ ns n).2∧(ZgY S at_ ns n).1≠1:=by
  unfold ZgY
  split
  ·exact ⟨.inl rfl,show (4:Int)≠1 by decide⟩
  ·split
   ·exact ⟨.inr (.inr ⟨_,rfl⟩),show (8:Int)≠1 by decide⟩
   ·exact ⟨.inl rfl,show (4:Int)≠1 by decide⟩
structure ZzU (S:Srv) (at_:Int) (r:Rq) (st:Int) (S':Srv):Prop where
  nope:st≠1∨r.2.1=5
  bad:XA r=false→st=5
  is:∃ o cs,Shr S at_ o∧S'={ S with last:=at_,out:=o,conns:=cs }
structure Grant (S:Srv) (at_:Int) (ns:ByteArray) (r:Rq) (f:F4) (st:Int) (S':Srv):Prop where
  right:XA r=true
  one:st=1
  want:r.2.1≠5
  flow:ZfI S.spaces ns r.2.2.1=some f
  kind:f.2.2.1=r.2.1
  quiet:Zkk S at_ f=false
  over:ZnE (Zg9 S at_ f r.2.2.2.2.1) f r=false
  is:(f.2.2.1≠3∧S'=(S.at at_).take at_ f r)∨(f.2.2.1=3∧(XT at_ S.out).length<1024∧S'=(S.at at_).lease at_ f r)
theorem Zp9 (S:Srv) (at_ conn:Int) (ns:ByteArray) (r:Rq):ZzU S at_ r (ZlH (S.at at_) at_ conn ns r).1.2.1 (ZlH (S.at at_) at_ conn ns r).2∨∃ f,Grant S at_ ns r f (ZlH (S.at at_) at_ conn ns r).1.2.1 (ZlH (S.at at_) at_ conn ns r).2:=by
  unfold ZlH
  split
  ·exact .inl ⟨.inl (by show (5:Int)≠1;decide),fun _=>rfl,_,_,.inl rfl,rfl⟩
  rename_i hr
  have hr':XA r=true:=by simpa using hr
  have hbad:∀ {n:Int},XA r=false→n=5:=fun h=>by rw [hr'] at h;cases h
  split
  ·rename_i h5
   split
   ·exact .inl ⟨.inr h5,hbad,_,_,.inl rfl,rfl⟩
   ·exact .inl ⟨.inr h5,hbad,_,_,.inl rfl,rfl⟩
  rename_i h5
  split
  ·exact .inl ⟨.inl (by show (4:Int)≠1;decide),hbad,_,_,.inl rfl,rfl⟩
  split
  ·obtain ⟨g1,g2⟩:=Zsl (S.at at_) at_ ns r.2.2.2.2.2.1
   exact .inl ⟨.inl g2,hbad,_,_,g1,rfl⟩
  unfold Znq
  split
  ·exact .inl ⟨.inl (by show (4:Int)≠1;decide),hbad,_,_,.inl rfl,rfl⟩
  rename_i f hf
  split
  ·exact .inl ⟨.inl (by show (4:Int)≠1;decide),hbad,_,_,.inl rfl,rfl⟩
  rename_i hk
  split
  ·exact .inl ⟨.inl (by show (7:Int)≠1;decide),hbad,_,_,.inl rfl,rfl⟩
  rename_i hq
  have hk':f.2.2.1=r.2.1:=by simpa using hk
  have hq':Zkk S at_ f=false:=by
    have:Zkk (S.at at_) at_ f=false:=by simpa using hq
    exact this
  unfold Zjq
  split
  ·exact .inl ⟨.inl (by show (2:Int)≠1;decide),hbad,_,_,.inl rfl,rfl⟩
  rename_i ho
  have ho':ZnE (Zg9 S at_ f r.2.2.2.2.1) f r=false:=by
    have:ZnE (Zg9 (S.at at_) at_ f r.2.2.2.2.1) f r=false:=by simpa using ho
    exact this
  split
  ·rename_i h3
   exact .inr ⟨f,hr',rfl,h5,hf,hk',hq',ho',.inl ⟨h3,rfl⟩⟩
  rename_i h3
  have h3':f.2.2.1=3:=by simpa using h3
  split
  ·exact .inl ⟨.inl (by show (6:Int)≠1;decide),hbad,_,_,.inr (.inl rfl),rfl⟩
  ·rename_i hl
   exact .inr ⟨f,hr',rfl,h5,hf,hk',hq',ho',.inr ⟨h3',by have:¬ (XT at_ S.out).length≥1024:=hl;omega,rfl⟩⟩
theorem ZmU (S:Srv) (at_ conn:Int) (r:Rq) :
    ((doV S at_ conn r).1.2≠0∧(doV S at_ conn r).2=S) ∨
    ((doV S at_ conn r).1.2=0∧Zbm S.last at_=0∧(doV S at_ conn r).1.1.1=r.1∧(ZzU S at_ r (doV S at_ conn r).1.1.2.1 (doV S at_ conn r).2∨∃ ns f,S.conns conn=some ns∧Grant S at_ ns r f (doV S at_ conn r).1.1.2.1 (doV S at_ conn r).2)):=by
  rcases Decidable.em (Zbm S.last at_=0) with q | q
  case inr=>rw [ZoV q];exact .inl ⟨q,rfl⟩
  cases hc:S.conns conn with
  | none=>rw [ZoU (fun h=>h q) hc];exact .inl ⟨by show (4:Int)≠0;decide,rfl⟩
  | some ns =>
    rw [ZoT (fun h=>h q) hc rfl]
    refine .inr ⟨rfl,q,rfl,?_⟩
    rcases Zp9 S at_ conn ns r with h | ⟨f,h⟩
    ·exact .inl h
    ·exact .inr ⟨ns,f,rfl,h⟩
end Go.Proofs.YtbppjmcinoffnaaGreat.Tk
namespace Go.Proofs.YtbppjmcinoffnaaGreat
open Go Go.Fw
open Nat renaming reduceAdd→Nqa,reduceLT→Nqb,reduceLeDiff→Nqc,reduceEqDiff→Nqd,reduceMul→Nqe
open Tk (Zt rI rB rS rP rM rL ZhD XC held1 ZaI wrS)
structure SOK (S:Tk.Srv):Prop where
  out:S.out.length≤1024
  cnt:∀ x,x∈S.spaces→∀ f,f∈x.2→∃ c,S.counts f.1=some c∧c.kind=f.2.2.1
theorem SOK.ok {S:Tk.Srv} (h:SOK S):S.OK:=⟨by have:=h.out;omega,h.cnt⟩
theorem Zwx {S:Tk.Srv} {at_:Int} {o:List Tk.F4} (h:Tk.Shr S at_ o):o.length≤S.out.length:=by
  rcases h with rfl | rfl | ⟨i,rfl⟩
  ·exact Nat.le_refl _
  ·exact List.length_filter_le _ _
  ·exact Nat.le_trans (List.eraseIdx_sublist _ _).length_le (List.length_filter_le _ _)
theorem SOK.do {S:Tk.Srv} (h:SOK S) (at_ conn:Int) (r:Rq):SOK (Tk.doV S at_ conn r).2:=by
  rcases Tk.ZmU S at_ conn r with ⟨_,e⟩ | ⟨_,_,_,hS | ⟨ns,f,hc,hG⟩⟩
  ·rw [e];exact h
  ·obtain ⟨o,cs,ho,e⟩:=hS.is
   rw [e]
   exact ⟨Nat.le_trans (Zwx ho) h.out,h.cnt⟩
  ·rcases hG.is with ⟨_,e⟩ | ⟨_,hl,e⟩
   ·rw [e]
    refine ⟨h.out,fun x hx g hg=>?_⟩
    obtain ⟨c,h1,h2⟩:=h.cnt x hx g hg
    show ∃ c,(if g.1=f.1 then (S.counts f.1).map _ else S.counts g.1)=some c∧_
    split
    ·rename_i e2
     rw [e2] at h1
     rw [h1]
     exact ⟨_,rfl,by rw [Tk.Cnt.took_kind];exact h2⟩
    ·exact ⟨c,h1,h2⟩
   ·rw [e]
    refine ⟨?_,h.cnt⟩
    show (Tk.XT at_ S.out++[_]).length≤1024
    rw [List.length_append,List.length_singleton]
    omega
theorem SOK.opened {S:Tk.Srv} (h:SOK S) (conn:Int):SOK (S.opened conn):=by
  unfold Tk.Srv.opened
  split
  ·exact ⟨h.out,h.cnt⟩
  ·exact h
theorem SOK.closed {S:Tk.Srv} (h:SOK S) (conn:Int):SOK (S.closed conn):=by
  unfold Tk.Srv.closed
  split
  ·exact ⟨h.out,h.cnt⟩
  ·exact h
theorem SOK.restarted {S:Tk.Srv} (h:SOK S) (at_:Int):SOK (S.restarted at_):=by
  refine ⟨Nat.zero_le _,fun x hx f hf=>?_⟩
  obtain ⟨c,h1,h2⟩:=h.cnt x hx f hf
  show ∃ c,(S.counts f.1).map _=some c∧_
  rw [h1]
  exact ⟨_,rfl,by rw [Tk.Zjr f.1 (Tk.ZnP c)];exact h2⟩
theorem Zva {cs:List St.Cn} (hN:Zgm cs) (k:Int) {j:Nat} (hj:j<2) (l:List UInt8):Zgm (St.wrS cs k j l).2:=by
  unfold St.wrS
  split
  ·exact hN
  ·unfold St.wrI
   rw [Int.toNat_natCast]
   split
   ·exact hN
   ·rename_i c hc
    split
    ·exact hN
    ·split
     ·exact hN
     ·rename_i h1 h2
      intro a j' ha hj'
      rcases ZiG ha with rfl | ha
      ·rw [St.Ziz c hj hj']
       split
       ·obtain ⟨q1,q2⟩:=hN c j (List.mem_of_getElem? hc) hj
        refine ⟨?_,q2⟩
        show ((c.side j).way++l).length≤65536
        rw [List.length_append]
        omega
       ·exact hN c j' (List.mem_of_getElem? hc) hj'
      ·exact hN a j' ha hj'
theorem ZsM {cs:List St.Cn} (hN:Zgm cs) (l:List Int):Zgm (St.brS cs l).2:=by
  have h1:∀ (l:List Int) (cs:List St.Cn),Zgm cs→Zgm (St.brA cs l):=by
    intro l
    induction l with
    | nil=>exact fun cs h=>h
    | cons k r ih =>
      intro cs h
      refine ih _ ?_
      split
      ·rename_i c hc
       intro a j ha hj
       rcases ZiG ha with rfl | ha
       ·rcases St.two j hj with rfl | rfl<;>exact ⟨Nat.zero_le _,rfl⟩
       ·exact h a j ha hj
      ·exact h
  unfold St.brS
  split
  ·exact hN
  ·exact hN
  ·exact h1 l cs hN
theorem ZsA {ps:Int→Bool} {cs:List St.Cn} (hN:Zgm cs) (port:Int):Zgm (St.diS ps cs port).2:=by
  unfold St.diS
  split
  ·exact hN
  ·split
   ·exact hN
   ·split
    ·exact hN
    ·intro a j ha hj
     rcases List.mem_append.1 ha with ha | ha
     ·exact hN a j ha hj
     ·have:a=St.Zje port:=by simpa using ha
      subst this
      rcases St.two j hj with rfl | rfl<;>exact ⟨Nat.zero_le _,rfl⟩
structure SI (w:Cu) (n:Nat):Prop where
  net:Zgm w.cs
  srv:SOK w.srv
  grs:w.grs.length≤n
theorem SI.serve {w:Cu} {n:Nat} (h:SI w n) (i:Nat) (conn:Int) (lb:List UInt8):SI (w.serveR i conn lb).2 (n+1)∧(w.serveR i conn lb).2.pes=w.pes∧(w.serveR i conn lb).2.now=w.now∧(w.serveR i conn lb).2.cs.length=w.cs.length:=by
  unfold Cu.serveR
  have hS:=h.srv.do w.now conn (ZdH lb).1
  generalize Tk.doV w.srv w.now conn (ZdH lb).1=d at hS ⊢
  split
  ·exact ⟨⟨h.net,h.srv,Nat.le_succ_of_le h.grs⟩,rfl,rfl,rfl⟩
  ·split
   ·exact ⟨⟨h.net,hS,Nat.le_succ_of_le h.grs⟩,rfl,rfl,rfl⟩
   ·have hn:SI (Cu.noted { w with srv:=d.2 } i (ZdH lb).1 d.1.1) (n+1)∧(Cu.noted { w with srv:=d.2 } i (ZdH lb).1 d.1.1).pes=w.pes∧(Cu.noted { w with srv:=d.2 } i (ZdH lb).1 d.1.1).now=w.now∧(Cu.noted { w with srv:=d.2 } i (ZdH lb).1 d.1.1).cs=w.cs:=by
      unfold Cu.noted
      split
      ·split
       ·exact ⟨⟨h.net,hS,Nat.le_succ_of_le h.grs⟩,rfl,rfl,rfl⟩
       ·refine ⟨⟨h.net,hS,?_⟩,rfl,rfl,rfl⟩
        have:=h.grs
        show (w.grs++[_]).length≤n+1
        rw [List.length_append,List.length_singleton]
        omega
      ·exact ⟨⟨h.net,hS,Nat.le_succ_of_le h.grs⟩,rfl,rfl,rfl⟩
    obtain ⟨n1,n2,n3,n4⟩:=hn
    generalize Cu.noted { w with srv:=d.2 } i (ZdH lb).1 d.1.1=w2 at n1 n2 n3 n4 ⊢
    unfold Cu.said
    split
    ·refine ⟨⟨Zva (j:=1) n1.net conn (by decide) _,n1.srv,n1.grs⟩,n2,n3,?_⟩
     show (St.wrS w2.cs conn 1 _).2.length=_
     rw [← n4]
     unfold St.wrS
     split
     ·rfl
     ·unfold St.wrI
      split
      ·rfl
      ·split
       ·rfl
       ·split
        ·rfl
        ·exact List.length_set
    ·exact ⟨n1,n2,n3,by rw [n4]⟩
def Cu.serveL (w:Cu) (i:Nat) (conn:Int):List (List UInt8)→Bool × Cu
  | []=>(true,w)
  | x::r=>if (w.serveR i conn x).1=true then Cu.serveL (w.serveR i conn x).2 i conn r else (false,(w.serveR i conn x).2)
theorem SI.serveL {i:Nat} {conn:Int}:∀ {l:List (List UInt8)} {w:Cu} {n:Nat},SI w n→SI (w.serveL i conn l).2 (n+l.length)∧(w.serveL i conn l).2.pes=w.pes∧(w.serveL i conn l).2.now=w.now∧(w.serveL i conn l).2.cs.length=w.cs.length
  | [],w,n,h=>⟨h,rfl,rfl,rfl⟩
  | x::r,w,n,h=>by
    obtain ⟨a,b,c,d⟩:=h.serve i conn x
    unfold Cu.serveL
    split
    ·obtain ⟨a',b',c',d'⟩:=SI.serveL (i:=i) (conn:=conn) (l:=r) a
     refine ⟨?_,b'.trans b,c'.trans c,d'.trans d⟩
     rw [List.length_cons]
     have e:n+(r.length+1)=n+1+r.length:=by omega
     rw [e];exact a'
    ·refine ⟨⟨a.net,a.srv,?_⟩,b,c,d⟩
     have:=a.grs
     show (w.serveR i conn x).2.grs.length≤_
     rw [List.length_cons]
     omega
def Cu.toSrvR (w:Cu) (i:Nat) (most:Int):Int × Cu:=match w.pes[i]? with
  | none=>(0,w)
  | some p=>if w.mvE p most≠0 then (w.mvE p most,w) else match p.rd with
    | none=>(0,w)
    | some (st,br) =>
      let q:=putS st br (w.moved p.conn 0 most).1
      let r:=Cu.serveL { w with cs:=(w.moved p.conn 0 most).2,pes:=w.pes.set i { p with rd:=some (q.2.2,q.2.1)}} i p.conn q.1
      (0,if r.1=true∧q.2.1=false then r.2 else r.2.cut i)
def Cu.toClR (w:Cu) (i:Nat) (most:Int):Int × Cu:=match w.pes[i]? with
  | none=>(0,w)
  | some p=>if w.mvE p most≠0 then (w.mvE p most,w) else if (w.moved p.conn 1 most).1=[] then (0,{ w with cs:=(w.moved p.conn 1 most).2 }) else
    let r:=p.cl.bytesR w.now (w.moved p.conn 1 most).1
    let w2:Cu:={ w with cs:=(w.moved p.conn 1 most).2,pes:=w.pes.set i { p with cl:=r.1 }}
    (0,if r.2≠0 then w2.cut i else w2.sends i)
section
variable {h h':Zb} {T:TT} {wb:Nat} {sp:Sl} {w:Cu}
theorem Zrn (hW:Wld h T wb sp w) (hN:Zgm w.cs) {o:Op} {i:Nat} (hi:o.2.1=(i:Int)) {p:Pe} (hp:w.pes[i]?=some p) (hcl:WOK p.cl∧NOK p.cl) (hbr:p.cl.broken=false) (hrb:p.cl.rb.length≤549755813888)
    (hb1:∀ l:List UInt8,l.length≤65536→(WOK (p.cl.bytesR w.now l).1∧NOK (p.cl.bytesR w.now l).1)∧(p.cl.bytesR w.now l).1.out.length≤1099511627776) {K:(Int × Bool × Int × Unit)→Zb→Prop}
    (hk:Zj9 T h wb sp (w.toClR i o.2.2.2.1).2 (0,false,(w.toClR i o.2.2.2.1).1,()) K):YL (some ⟨wb,0,none⟩) o K h:=by
  unfold YL Zbh
  unfold Cu.toClR at hk
  rw [hp] at hk
  dsimp only at hk
  refine Zf7 hW fun h3 e3 hW3 d1 d2 z3=>Zh ?_
  have n2:T (sz h+1)=none:=hW.no (by omega)
  obtain ⟨nb,sb,sg,pl,hR⟩:=hW3
  refine rL (hR.wc (j:=3) rfl) (rI (Zt d1 rfl) (hR.idx hp hi fun b hb=>rI (Zt d1 rfl) ?_))
  refine Zkr (j:=1) ⟨nb,sb,sg,pl,hR⟩ hN hp hb (by decide) (fun e=>Za (Zam (fun _=>?_) (fun e2=>(e e2).elim))) (fun e out h4 T4 hW4 s4 hB4 n4=>Za (Zam (fun e2=>(e2 rfl).elim) fun _=>?_))
  ·rw [if_pos e] at hk
   exact ZeE rfl d2 ⟨nb,sb,sg,pl,hR⟩ ((Zaq.refl T h).ext e3) n2 hk
  rw [if_neg (fun h=>h e)] at hk
  have hm:=(Zgr hN (conn:=p.conn) (j:=1) (by decide) (most:=o.2.2.2.1) (by
    unfold Cu.mvE at e
    split at e
    ·cases e
    ·split at e
     ·cases e
     ·split at e
      ·cases e
      ·omega)).2
  have hlen:out.len=(w.moved p.conn 1 o.2.2.2.1).1.length:=Bytes.length hB4
  have d4:=s4.keep d2 n2
  have m4:=s4.none_ n2 (by omega)
  have s4':=Zaq.pre e3 s4
  refine Zj (fun c=>?_) (fun c=>Zh ?_)
  ·have c:(w.moved p.conn 1 o.2.2.2.1).1=[]:=List.eq_nil_of_length_eq_zero (by omega)
   rw [if_pos c] at hk
   exact ZeE rfl d4 hW4 s4' m4 hk
  have c:¬ (w.moved p.conn 1 o.2.2.2.1).1=[]:=fun e=>c (by rw [e] at hlen;rw [hlen];rfl)
  rw [if_neg c] at hk
  obtain ⟨nb4,sb4,sg4,pl4,hR4⟩:=hW4
  obtain ⟨cb,rb,hx⟩:=hR4.pe2 (p:=p) hp
  refine rP (hR4.pc hx hb (j:=0) (by decide) rfl) (rI (hR4.wc (j:=4) rfl) ?_)
  have hC:=hR4.cls i _ hx
  obtain ⟨hb2,hb3⟩:=hb1 (w.moved p.conn 1 o.2.2.2.1).1 hm.2
  generalize (w.moved p.conn 1 o.2.2.2.1).1=l at hk hB4 hm hlen c hb2 hb3
  refine Zqc hC hcl.1 hcl.2 hbr hB4 (fun _ k hk=>Za2 (n4 k hk).1) (by have:=hm.2;show p.cl.rb.length+_≤_;omega) fun h5 T5 hC5 s5=>?_
  obtain ⟨hR5,s5⟩:=hR4.clS hx s5 hC5
  have hp5:(Cu.setP { w with cs:=(w.moved p.conn 1 o.2.2.2.1).2 } i { p with cl:=(p.cl.bytesR w.now l).1 }).pes[i]?=some { p with cl:=(p.cl.bytesR w.now l).1 }:=Zfq hp
  have s45:=s4.trans s5
  refine Zam (fun e=>?_) (fun e=>?_)
  ·have e:(p.cl.bytesR w.now l).2≠0:=e
   rw [if_pos e] at hk
   refine Zhw ⟨nb4,sb4,sg4,_,hR5⟩ hp5 hb2 hb fun h6 T6 hW6 s6=>?_
   have s46:=s45.trans s6
   exact ZeE rfl (s46.keep d2 n2) hW6 (Zaq.pre e3 s46) (s46.none_ n2 (by omega)) hk
  ·have e:(p.cl.bytesR w.now l).2=0:=e
   rw [if_neg (fun h=>h e)] at hk
   refine ZhL ⟨nb4,sb4,sg4,_,hR5⟩ hp5 hb2 hb3 (fun c j hc hj=>(hm.1 c j hc hj).1) hb fun h6 T6 hW6 s6=>?_
   have s46:=s45.trans s6
   exact ZeE rfl (s46.keep d2 n2) hW6 (Zaq.pre e3 s46) (s46.none_ n2 (by omega)) hk
end
theorem ZiW {i:Nat} {conn:Int}:∀ (l:List (List UInt8)) (w:Cu) (k:Nat) (x:List UInt8),l[k]?=some x→∀ w1,w.serveL i conn (l.take k)=(true,w1) →
    w.serveL i conn (l.take (k+1))=((w1.serveR i conn x).1,(w1.serveR i conn x).2)∧((w1.serveR i conn x).1=false→w.serveL i conn l=(false,(w1.serveR i conn x).2))
  | [],_,_,_,h,_,_=>by cases h
  | y::l,w,0,x,h,w1,hw=>by
    cases Option.some.inj h
    have:w=w1:=by
      have e:w.serveL i conn []=(true,w1):=hw
      exact congrArg Prod.snd e
    subst this
    refine ⟨?_,fun hf=>?_⟩
    ·show Cu.serveL w i conn [y]=_
     unfold Cu.serveL
     split
     ·rename_i e;rw [e];rfl
     ·rename_i e
      have e:(w.serveR i conn y).1=false:=by simpa using e
      rw [e]
    ·unfold Cu.serveL
     rw [if_neg (by rw [hf];exact fun e=>by cases e)]
  | y::l,w,k+1,x,h,w1,hw=>by
    rw [List.take_succ_cons] at hw
    unfold Cu.serveL at hw
    split at hw
    ·rename_i e
     obtain ⟨a,b⟩:=ZiW l (w.serveR i conn y).2 k x h w1 hw
     refine ⟨?_,fun hf=>?_⟩
     ·rw [List.take_succ_cons]
      rw [Cu.serveL,if_pos e]
      exact a
     ·rw [Cu.serveL,if_pos e]
      exact b hf
    ·cases hw
section
variable {h h':Zb} {T:TT} {wb:Nat} {sp:Sl} {w:Cu}
theorem Zpl (hW:Wld h T wb sp w) {n:Nat} (hS:SI w n) (hn:n≤549755813888) {o:Op} {i:Nat} (hi:o.2.1=(i:Int)) {p:Pe} (hp:w.pes[i]?=some p) (hcl:WOK p.cl∧NOK p.cl) (hrd:p.conn≠0→∃ st br,p.rd=some (st,br)∧st.length≤4099) {K:(Int × Bool × Int × Unit)→Zb→Prop}
    (hk:Zj9 T h wb sp (w.toSrvR i o.2.2.2.1).2 (0,false,(w.toSrvR i o.2.2.2.1).1,()) K):YK (some ⟨wb,0,none⟩) o K h:=by
  unfold YK Zbg
  unfold Cu.toSrvR at hk
  rw [hp] at hk
  dsimp only at hk
  refine Zf7 hW fun h3 e3 hW3 d1 d2 z3=>Zh ?_
  have n1:T (sz h)=none:=hW.no (by omega)
  have n2:T (sz h+1)=none:=hW.no (by omega)
  obtain ⟨nb,sb,sg,pl,hR⟩:=hW3
  refine rL (hR.wc (j:=3) rfl) (rI (Zt d1 rfl) (hR.idx hp hi fun b hb=>rI (Zt d1 rfl) ?_))
  refine Zkr (j:=0) ⟨nb,sb,sg,pl,hR⟩ hS.net hp hb (by decide) (fun e=>Za (Zam (fun _=>?_) (fun e2=>(e e2).elim))) (fun e out h4 T4 hW4 s4 hB4 n4=>Za (Zam (fun e2=>(e2 rfl).elim) fun _=>?_))
  ·rw [if_pos e] at hk
   exact ZeE rfl d2 ⟨nb,sb,sg,pl,hR⟩ ((Zaq.refl T h).ext e3) n2 hk
  rw [if_neg (fun h=>h e)] at hk
  have hme:p.conn≠0∧0≤o.2.2.2.1:=by
    unfold Cu.mvE at e
    split at e
    ·cases e
    ·split at e
     ·cases e
     ·rename_i c
      split at e
      ·cases e
      ·exact ⟨c,by omega⟩
  obtain ⟨st,br,hrde,hst⟩:=hrd hme.1
  rw [hrde] at hk
  dsimp only at hk
  have hm:=(Zgr hS.net (conn:=p.conn) (j:=0) (by decide) hme.2).2
  have d4:=s4.keep d2 n2
  have m4:=s4.none_ n2 (by omega)
  have f4:=s4.keep d1 n1
  have m14:=s4.none_ n1 (by omega)
  obtain ⟨nb4,sb4,sg4,pl4,hR4⟩:=hW4
  obtain ⟨cb,rb,hx⟩:=hR4.pe2 (p:=p) hp
  refine rP (hR4.pc hx hb (j:=2) (by decide) rfl) ?_
  have era:rdA rb p.rd=some ⟨rb,0,none⟩:=by rw [hrde];rfl
  show Y5 (rdA rb p.rd) _ _ _
  rw [era]
  have hrr:=hR4.rds i _ st br hx hrde
  obtain ⟨s0,q1,q2,q3,q4⟩:=hrr.cells
  have hG:IsG 173 h4 rb (fun k=>k≠rb) st br:=⟨⟨s0,q1,q2,(fun k hk h9=>by have:=q3 k hk;rw [h9,hrr.trb] at this;cases this),q4⟩⟩
  generalize (w.moved p.conn 0 o.2.2.2.1).1=l at hk hB4 hm
  refine Znd hG hB4 (by have:=hm.2;omega) fun out5 h5 mid hm1 hm2 hout hG5 u5=>?_
  obtain ⟨s5,r1,r2,r3,r4⟩:=hG5.cells
  have rblt:rb<sz h4:=by
    have:T4 rb≠none:=by
      obtain ⟨t,ht⟩:=ZfQ (j:=4+2*i) (T:=T4) (k:=rb) (by rw [hrr.trb];exact fun e=>by cases e)
      rw [ht];exact fun e=>by cases e
    exact hR4.lt rb this
  have hSt:Stp (prj (4+2*i) T4) (fun k=>if k=rb then some 0 else if s5.blk=some k then some 1 else none) h4 h5:=by
    refine ⟨u5.mono fun k _ hk=>(by rw [hk,hrr.trb];exact fun e=>by cases e),fun k hk=>?_⟩
    by_cases e:k=rb
    ·rw [e,hrr.trb];exact .inl fun e=>by cases e
    ·rw [if_neg e] at hk
     by_cases e2:s5.blk=some k
     ·exact .inr (r3 k e2).1
     ·rw [if_neg e2] at hk;exact (hk rfl).elim
  have hq1:(putS st br l).1.length≤st.length+l.length:=by
    unfold putS
    split
    ·exact Nat.zero_le _
    ·have:=(Zlx _ (st++l) (Nat.le_refl _)).2.2.2
     rw [List.length_append] at this
     exact this
  have hl:=hm.2
  generalize putS st br l=q at hk hout r1 r2 r4 hq1 ⊢
  obtain ⟨hR5,s5'⟩:=hR4.rdS hx hSt (fun k hk=>by
    by_cases e:k=rb
    ·rw [e];exact Nat.lt_of_lt_of_le rblt u5.size
    ·rw [if_neg e] at hk
     by_cases e2:s5.blk=some k
     ·exact Nat.lt_of_lt_of_le (r3 k e2).2 hm2
     ·rw [if_neg e2] at hk;exact (hk rfl).elim) hrde (l:=q.2.2) (br:=q.2.1) ⟨⟨s5,r1,r2,fun k hk=>by
      have hne:k≠rb:=fun e=>by
        have h9:sz h4≤k:=(r3 k hk).1
        omega
      rw [if_neg hne,if_pos hk],r4⟩,if_pos rfl⟩
  have s45:=s4.trans s5'
  generalize hT5:cmb (4+2*i) T4 (fun k=>if k=rb then some 0 else if s5.blk=some k then some 1 else none)=T5 at hR5 s5' s45
  have hmid:∀ k,mid≤k→k<sz h5→T5 k=none:=fun k hk _=>by
    rw [← hT5]
    have h9:sz h4≤k:=Nat.le_trans hm1 hk
    refine ZoY ?_ (hR4.no h9)
    rw [if_neg (by omega),if_neg fun e=>by have:=(r3 k e).2;omega]
  have d5:=s45.keep d2 n2
  have f5:=s45.keep d1 n1
  have m5:=s45.none_ n2 (by omega)
  have m15:=s45.none_ n1 (by omega)
  generalize hw5:(Cu.setP { w with cs:=(w.moved p.conn 0 o.2.2.2.1).2 } i { (cb,rb,p).2.2 with rd:=some (q.2.2,q.2.1)})=w5 at hR5
  have hw5':({ w with cs:=(w.moved p.conn 0 o.2.2.2.1).2,pes:=w.pes.set i { p with rd:=some (q.2.2,q.2.1)}}:Cu)=w5:=hw5
  rw [hw5'] at hk
  have hp5:w5.pes[i]?=some { p with rd:=some (q.2.2,q.2.1)}:=by rw [← hw5];exact Zfq hp
  have hS5:SI w5 n:=by rw [← hw5];exact ⟨hm.1,hS.srv,hS.grs⟩
  have hol:out5.len=q.1.length:=Xj.len hout
  refine Za ?_
  refine ZoW (J:=fun s hh=>∃ T',s=((if (w5.serveL i p.conn q.1).1=false then 50 else if q.2.1=true then 50 else 0:Int),())∧Wld hh T' wb sp (w5.serveL i p.conn q.1).2∧Zaq T5 T' h5 hh) ?_ ?_
  ·rintro _ h6 ⟨T6,rfl,hW6,s6⟩
   have hp6:(w5.serveL i p.conn q.1).2.pes[i]?=some { p with rd:=some (q.2.2,q.2.1)}:=by rw [(hS5.serveL (i:=i) (conn:=p.conn) (l:=q.1)).2.1];exact hp5
   have s46:=s45.trans s6
   refine Zam (fun e=>?_) (fun e=>?_)
   ·refine Zhw hW6 hp6 hcl hb fun h7 T7 hW7 s7=>?_
    have s47:=s46.trans s7
    refine ZeE rfl (s47.keep d2 n2) hW7 (Zaq.pre e3 s47) (s47.none_ n2 (by omega)) ?_
    rw [if_neg fun h9=>e (by rw [h9.1,h9.2];rfl)] at hk
    exact hk
   ·refine ZeE rfl (s46.keep d2 n2) hW6 (Zaq.pre e3 s46) (s46.none_ n2 (by omega)) ?_
    rw [if_pos (by
      split at e
      ·cases e
      ·rename_i h1
       split at e
       ·cases e
       ·rename_i h2
        exact ⟨by simpa using h1,by simpa using h2⟩)] at hk
    exact hk
  ·intro Q hQ
   refine Zds (I:=fun s hh=>∃ (k:Nat) (T':TT) (w':Cu),s=((if q.2.1=true then 50 else 0:Int),(k:Int),())∧k≤q.1.length∧Wld hh T' wb sp w'∧Zaq T5 T' h5 hh∧w5.serveL i p.conn (q.1.take k)=(true,w')) (fun s _=>q.1.length - s.2.1.toNat)
     ⟨0,T5,w5,rfl,Nat.zero_le _,⟨nb4,sb4,sg4,_,hR5⟩,Zaq.refl _ _,rfl⟩ ?_
   rintro _ h6 ⟨k,T6,w6,rfl,hkl,hW6,s6,hsv⟩ Q2 hQ2
   dsimp only
   refine Zj (fun c=>?_) (fun c=>?_)
   ·have hkl2:k<q.1.length:=by omega
    have hx:q.1[k]?=some q.1[k]:=List.getElem?_eq_getElem hkl2
    generalize q.1[k]=x at hx
    obtain ⟨t1,t2⟩:=ZiW q.1 w5 k x hx w6 hsv
    have hout6:Xj h6 mid out5 q.1:=hout.congr fun k hk hge=>s6.upd.old k hk fun h9=>h9 (hmid k hge hk)
    have hsi:=hS5.serveL (i:=i) (conn:=p.conn) (l:=q.1.take k)
    rw [hsv] at hsi
    obtain ⟨i1,i2,i3,_⟩:=hsi
    have hp6:w6.pes[i]?=some { p with rd:=some (q.2.2,q.2.1)}:=by rw [i2];exact hp5
    have f6:=(s45.trans s6).keep d1 n1
    refine Xj.idx hout6 rfl hx fun y hy=>rI (Zt f6 rfl) ?_
    rw [hi]
    refine Zpu hW6 i1.srv.ok (by have h9:w6.grs.length≤_:=i1.grs;rw [List.length_take] at h9;omega) (fun c j hc hj=>(i1.net c j hc hj).1) hp6 hb hy fun h7 T7 hW7 s7=>?_
    refine ⟨fun e=>Za (hQ _ _ ⟨T7,?_,?_,s6.trans s7⟩),fun e=>?_⟩
    ·have e:(w6.serveR i p.conn x).1=false:=by simpa using e
     rw [t2 e];rfl
    ·have e:(w6.serveR i p.conn x).1=false:=by simpa using e
     rw [t2 e];exact hW7
    ·have e:(w6.serveR i p.conn x).1=true:=by simpa using e
     rw [wrS hkl2 (by omega)]
     refine hQ2 _ _ ⟨k+1,T7,_,rfl,hkl2,hW7,s6.trans s7,?_⟩ (by dsimp only;omega)
     rw [t1,e]
   ·have e:k=q.1.length:=by omega
    subst e
    rw [List.take_length] at hsv
    refine hQ _ _ ⟨T6,?_,?_,s6⟩
    ·rw [hsv];rfl
    ·rw [hsv];exact hW6
end
end Go.Proofs.YtbppjmcinoffnaaGreat
namespace Go.Proofs.YtbppjmcinoffnaaGreat
open Go Go.Fw
open Nat renaming reduceAdd→Nqa,reduceLT→Nqb,reduceLeDiff→Nqc,reduceEqDiff→Nqd,reduceMul→Nqe
structure ZuH (tmo now:Int) (p:Pe) (n:Nat):Prop where
  cl:On2 p.cl n
  last:p.cl.last≤now
  tmo:p.cl.tmo=tmo
  rd:p.conn≠0→∃ st,p.rd=some (st,false)∧st.length≤4099
  no:p.conn=0→p.rd=none
  up:p.conn≠0→p.cl.up=true
structure ZaT (tmo:Int) (w:Cu) (n:Nat):Prop where
  net:Zgm w.cs
  csl:w.cs.length≤n
  srv:SOK w.srv
  grs:w.grs.length≤80000*n
  now:0≤w.now∧w.now≤1152921504606846976
  few:w.pes.length≤8
  pes:∀ (i:Nat) (p:Pe),w.pes[i]?=some p→ZuH tmo w.now p n
theorem ZuH.mono {tmo now now':Int} {p:Pe} {n n':Nat} (h:ZuH tmo now p n) (hn:n≤n') (hw:now≤now'):ZuH tmo now' p n':=⟨h.cl.mono hn,by have:=h.last;omega,h.tmo,h.rd,h.no,h.up⟩
theorem ZaT.mono {tmo:Int} {w:Cu} {n n':Nat} (h:ZaT tmo w n) (hn:n≤n'):ZaT tmo w n':=⟨h.net,by have:=h.csl;omega,h.srv,by have:=h.grs;omega,h.now,h.few,fun i p hp=>(h.pes i p hp).mono hn (Int.le_refl _)⟩
theorem ZaT.set {tmo:Int} {w:Cu} {n:Nat} (h:ZaT tmo w n) {i:Nat} {p:Pe} (hp:ZuH tmo w.now p n):ZaT tmo (w.setP i p) n :=
  ⟨h.net,h.csl,h.srv,h.grs,h.now,by have:=h.few;show (w.pes.set i p).length≤8;rw [List.length_set];exact this,fun k q hq=>by
    have hq:(w.pes.set i p)[k]?=some q:=hq
    rcases Xm hq with ⟨_,rfl,_⟩ | ⟨_,h2⟩
    ·exact hp
    ·exact h.pes k q h2⟩
theorem ZaT.nets {tmo:Int} {w:Cu} {n:Nat} (h:ZaT tmo w n) {cs:List St.Cn} (h1:Zgm cs) (h2:cs.length≤n):ZaT tmo { w with cs:=cs } n:=⟨h1,h2,h.srv,h.grs,h.now,h.few,h.pes⟩
theorem ZaT.srvs {tmo:Int} {w:Cu} {n:Nat} (h:ZaT tmo w n) {S:Tk.Srv} (h1:SOK S):ZaT tmo { w with srv:=S } n:=⟨h.net,h.csl,h1,h.grs,h.now,h.few,h.pes⟩
def Kp (now:Int) (c c':Cl):Prop:=c'.tmo=c.tmo∧(c.last≤now→c'.last≤now)
theorem Zkv (c:Cl) (now:Int):Kp now c (c.atS now):=by
  unfold Cl.atS
  split
  ·exact ⟨rfl,fun _=>Int.le_refl _⟩
  ·exact ⟨rfl,id⟩
theorem Zlo (c:Cl) (now:Int):Kp now c (c.lostS now):=by
  unfold Cl.lostS
  split
  ·split
   ·exact ⟨rfl,fun _=>Int.le_refl _⟩
   ·exact ⟨rfl,fun _=>Int.le_refl _⟩
  ·exact ⟨rfl,id⟩
theorem Zuc (c:Cl) (now:Int):Kp now c (c.upS now):=by
  unfold Cl.upS
  split
  ·split
   ·exact ⟨rfl,fun _=>Int.le_refl _⟩
   ·exact ⟨rfl,fun _=>Int.le_refl _⟩
  ·exact ⟨rfl,id⟩
theorem Zvt (c:Cl) (now:Int):Kp now c (c.refS now):=by
  unfold Cl.refS
  split
  ·split
   ·exact ⟨rfl,fun _=>Int.le_refl _⟩
   ·exact ⟨rfl,fun _=>Int.le_refl _⟩
  ·exact ⟨rfl,id⟩
theorem Zvu (c:Cl) (now:Int) (r:Rq):Kp now c (c.askR now r).2∧(c.askR now r).2.up=c.up:=by
  unfold Cl.askR
  split
  ·split
   ·split
    ·exact ⟨⟨rfl,fun _=>Int.le_refl _⟩,rfl⟩
    ·exact ⟨⟨rfl,fun _=>Int.le_refl _⟩,rfl⟩
   ·exact ⟨⟨rfl,fun _=>Int.le_refl _⟩,rfl⟩
  ·exact ⟨⟨rfl,id⟩,rfl⟩
theorem Zrs:∀ (l:List (List UInt8)) (c:Cl),(c.take l).1.up=c.up
  | [],_=>rfl
  | p::ps,c=>by
    unfold Cl.take
    split
    ·rfl
    ·rw [Zrs ps]
     unfold Cl.answ
     split<;>rfl
theorem ZoL (c:Cl) (now:Int) (l:List UInt8):Kp now c (c.bytesR now l).1∧((c.bytesR now l).2=0→(c.bytesR now l).1.up=c.up):=by
  unfold Cl.bytesR
  split
  ·split
   ·unfold Cl.putB
    dsimp only
    have h1:=ZiS (putS (c.tick now).rb (c.tick now).broken l).1 { c.tick now with rb:=(putS (c.tick now).rb (c.tick now).broken l).2.2,broken:=(putS (c.tick now).rb (c.tick now).broken l).2.1 }
    have h2:=Zrs (putS (c.tick now).rb (c.tick now).broken l).1 { c.tick now with rb:=(putS (c.tick now).rb (c.tick now).broken l).2.2,broken:=(putS (c.tick now).rb (c.tick now).broken l).2.1 }
    generalize Cl.take { c.tick now with rb:=(putS (c.tick now).rb (c.tick now).broken l).2.2,broken:=(putS (c.tick now).rb (c.tick now).broken l).2.1 } (putS (c.tick now).rb (c.tick now).broken l).1=d at h1 h2 ⊢
    obtain ⟨a1,a2,_⟩:=h1
    generalize (if d.2=true then 50 else if (putS (c.tick now).rb (c.tick now).broken l).2.1=true then 50 else 0:Int)=e
    split
    ·exact ⟨⟨a2,fun _=>by rw [a1];exact Int.le_refl _⟩,fun _=>h2⟩
    ·rename_i he
     exact ⟨⟨a2,fun _=>by show d.1.last≤now;rw [a1];exact Int.le_refl _⟩,fun h=>(he h).elim⟩
   ·exact ⟨⟨rfl,fun _=>Int.le_refl _⟩,fun _=>rfl⟩
  ·exact ⟨⟨rfl,id⟩,fun _=>rfl⟩
theorem Zwu (cs:List St.Cn) (k e:Int) (l:List UInt8):(St.wrS cs k e l).2.length=cs.length:=by
  unfold St.wrS
  split
  ·rfl
  ·unfold St.wrI
   split
   ·rfl
   ·split
    ·rfl
    ·split
     ·rfl
     ·exact List.length_set
theorem Zoa (cs:List St.Cn) (l:List Int):(St.brS cs l).2.length=cs.length:=by
  have h1:∀ (l:List Int) (cs:List St.Cn),(St.brA cs l).length=cs.length:=by
    intro l
    induction l with
    | nil=>exact fun cs=>rfl
    | cons k r ih =>
      intro cs
      unfold St.brA
      rw [ih]
      split
      ·exact List.length_set
      ·rfl
  unfold St.brS
  split
  ·rfl
  ·rfl
  ·exact h1 l cs
theorem ZwN (cs:List St.Cn) (k e m:Int):(St.mvS cs k e m).2.length=cs.length:=by
  unfold St.mvS
  split
  ·rfl
  ·unfold St.mvI
   split
   ·rfl
   ·exact List.length_set
theorem ZwD (cs:List St.Cn) (k e m:Int):(St.ZrJ cs k e m).2.length=cs.length:=by
  unfold St.ZrJ
  split
  ·rfl
  ·unfold St.rdI
   split
   ·rfl
   ·exact List.length_set
theorem Zhl (w:Cu) (conn:Int) (j:Nat) (most:Int):(w.moved conn j most).2.length=w.cs.length:=by
  unfold Cu.moved
  rw [ZwD,ZwN]
theorem ZaT.cut {tmo:Int} {w:Cu} {n:Nat} (h:ZaT tmo w n) (i:Nat):ZaT tmo (w.cut i) n:=by
  unfold Cu.cut
  split
  ·exact h
  ·rename_i p hp
   split
   ·exact h
   ·have hP:=h.pes i p hp
    refine ((h.nets (ZsM h.net [p.conn]) (by rw [Zoa];exact h.csl)).srvs (h.srv.closed p.conn)).set (i:=i) (p:=⟨if p.cl.up then p.cl.lostS w.now else p.cl,0,none⟩) ⟨?_,?_,?_,fun e=>(e rfl).elim,fun _=>rfl,fun e=>(e rfl).elim⟩
    ·show On2 (if p.cl.up=true then p.cl.lostS w.now else p.cl) n
     split
     ·exact hP.cl.lostS _
     ·exact hP.cl
    ·show (if p.cl.up=true then p.cl.lostS w.now else p.cl).last≤w.now
     split
     ·exact (Zlo p.cl w.now).2 hP.last
     ·exact hP.last
    ·show (if p.cl.up=true then p.cl.lostS w.now else p.cl).tmo=tmo
     split
     ·rw [(Zlo p.cl w.now).1];exact hP.tmo
     ·exact hP.tmo
theorem ZuH.sent {tmo now:Int} {p:Pe} {n:Nat} (h:ZuH tmo now p n):ZuH tmo now { p with cl:={ p.cl with out:=[]}} n:=⟨h.cl.sent,h.last,h.tmo,h.rd,h.no,h.up⟩
theorem ZaT.sends {tmo:Int} {w:Cu} {n:Nat} (h:ZaT tmo w n) (i:Nat):ZaT tmo (w.sends i) n:=by
  unfold Cu.sends
  split
  ·exact h
  ·rename_i p hp
   have hP:=h.pes i p hp
   have h1:ZaT tmo { w with cs:=(St.wrS w.cs p.conn 0 p.cl.out).2,pes:=w.pes.set i { p with cl:={ p.cl with out:=[]}}} n :=
     (h.nets (Zva (j:=0) h.net p.conn (by decide) p.cl.out) (by show (St.wrS w.cs p.conn 0 p.cl.out).2.length≤n;rw [Zwu];exact h.csl)).set (i:=i) hP.sent
   split
   ·exact h
   ·split
    ·exact h
    ·split
     ·exact h.set hP.sent
     ·split
      ·exact h1
      ·exact h1.cut i
theorem ZaT.cutK {tmo:Int} {w:Cu} {n:Nat} (h:ZaT tmo w n):∀ k,ZaT tmo (w.cutK k) n
  | 0=>h
  | k+1=>(ZaT.cutK h k).cut k
theorem ZaT.tick {tmo:Int} {w:Cu} {n:Nat} (h:ZaT tmo w n) {at_:Int} (he:w.tickE at_=0):ZaT tmo (Cu.tickA { w with now:=at_ }) n:=by
  unfold Cu.tickE at he
  split at he
  ·cases he
  ·split at he
   ·cases he
   ·split at he
    ·cases he
    ·rename_i h1 h2 h3
     refine ⟨h.net,h.csl,h.srv,h.grs,⟨by show 0≤at_;omega,by show at_≤_;omega⟩,?_,fun i q hq=>?_⟩
     ·show (List.mapIdx _ _).length≤8
      rw [List.length_mapIdx];exact h.few
     ·have hq:(w.pes.mapIdx fun j p=>if j<w.pes.length then p.atP at_ else p)[i]?=some q:=hq
      rw [List.getElem?_mapIdx] at hq
      cases hp:w.pes[i]? with
      | none=>rw [hp] at hq;cases hq
      | some p =>
        rw [hp] at hq
        simp only [Option.map_some,if_pos (Xk hp),Option.some.injEq] at hq
        subst hq
        have hP:=h.pes i p hp
        have hl:p.cl.last≤at_:=by have:=hP.last;omega
        refine ⟨hP.cl.atS at_,(Zkv p.cl at_).2 hl,(Zkv p.cl at_).1.trans hP.tmo,hP.rd,hP.no,fun hc=>?_⟩
        have:=hP.up hc
        show (p.cl.atS at_).up=true
        unfold Cl.atS
        split
        ·exact this
        ·exact this
theorem ZaT.ask {tmo:Int} {w:Cu} {n:Nat} (h:ZaT tmo w n) (hn:n≤1000) (i:Nat) (r:Rq):ZaT tmo (w.askR i r).2 (n+1):=by
  unfold Cu.askR
  split
  ·exact h.mono (Nat.le_succ n)
  ·rename_i p hp
   have hP:=h.pes i p hp
   obtain ⟨k1,k2⟩:=Zvu p.cl w.now r
   exact ((h.mono (Nat.le_succ n)).set (i:=i) (p:={ p with cl:=(p.cl.askR w.now r).2 }) ⟨hP.cl.ask hn w.now r,k1.2 hP.last,k1.1.trans hP.tmo,hP.rd,hP.no,fun hc=>k2.trans (hP.up hc)⟩).sends i
theorem ZaT.start {tmo:Int} {w:Cu} {n:Nat} (h:ZaT tmo w n):ZaT tmo w.startR.2 n:=by
  unfold Cu.startR
  split
  ·exact h
  ·refine ⟨h.net,h.csl,?_,h.grs,h.now,h.few,h.pes⟩
   show SOK (if _ then _ else _)
   split
   ·exact h.srv.restarted _
   ·exact h.srv
theorem ZaT.stop {tmo:Int} {w:Cu} {n:Nat} (h:ZaT tmo w n):ZaT tmo w.stopB n:=⟨h.net,h.csl,h.srv,h.grs,h.now,h.few,h.pes⟩
theorem Zw9 (ps:Int→Bool) (cs:List St.Cn) (port:Int):(St.diS ps cs port).2.length≤cs.length+1:=by
  unfold St.diS
  split
  ·exact Nat.le_succ _
  ·split
   ·exact Nat.le_succ _
   ·split
    ·exact Nat.le_succ _
    ·rw [List.length_append];exact Nat.le_refl _
theorem ZaT.conn1 {tmo:Int} {w:Cu} {n:Nat} (h:ZaT tmo w n):ZaT tmo w.conn1.2 (n+1):=by
  have hl:(St.diS w.ps w.cs 1).2.length≤n+1:=Nat.le_trans (Zw9 _ _ _) (Nat.succ_le_succ h.csl)
  have h':=h.mono (Nat.le_succ n)
  unfold Cu.conn1
  split
  ·exact h'
  ·split
   ·exact h'.nets (ZsA h.net 1) hl
   ·split
    ·exact (h'.nets (ZsM (ZsA h.net 1) _) (by rw [Zoa];exact hl)).srvs (h.srv.opened _)
    ·exact (h'.nets (ZsA h.net 1) hl).srvs (h.srv.opened _)
theorem ZyX {c:Cl} {now:Int} (hl:c.last≤now) (hn:0≤now∧now≤1152921504606846976):(c.upS now).up=true:=by
  have he:c.atE now=0:=by
    unfold Cl.atE
    rw [if_neg (by omega),if_neg (by omega),if_neg (by omega)]
  unfold Cl.upS
  rw [if_pos he]
  split
  ·rename_i h;exact h
  ·rfl
theorem ZaT.dial {tmo:Int} {w:Cu} {n:Nat} (h:ZaT tmo w n) (i:Nat):ZaT tmo (w.dialR i).2 (n+1):=by
  unfold Cu.dialR
  have h':=h.mono (Nat.le_succ n)
  split
  ·exact h'
  ·rename_i p hp
   have hP:=h.pes i p hp
   have hA:=hP.cl.atS w.now
   have kA:=Zkv p.cl w.now
   have enow:w.conn1.2.now=w.now:=(Zgl w).2.1
   split
   ·exact h'
   ·rename_i hu
    have hc0:p.conn=0:=Classical.byContradiction fun e=>hu (hP.up e)
    split
    ·exact h'.set (i:=i) ⟨hA.succ,kA.2 hP.last,kA.1.trans hP.tmo,hP.rd,hP.no,fun hc=>(hc hc0).elim⟩
    ·split
     ·refine h.conn1.set (i:=i) ⟨(hA.refS w.now).succ,?_,(Zvt _ _).1.trans (kA.1.trans hP.tmo),fun e=>(e rfl).elim,fun _=>hP.no hc0,fun e=>(e rfl).elim⟩
      rw [enow]
      exact (Zvt _ _).2 (kA.2 hP.last)
     ·rename_i hc
      refine (h.conn1.set (i:=i) ⟨hA.upS w.now,?_,(Zuc _ _).1.trans (kA.1.trans hP.tmo),fun _=>⟨[],rfl,Nat.zero_le _⟩,fun e=>(hc e).elim,fun _=>ZyX (kA.2 hP.last) h.now⟩).sends i
      rw [enow]
      exact (Zuc _ _).2 (kA.2 hP.last)
theorem ZoH {w:Cu} {p:Pe} {most:Int} (h:¬ w.mvE p most≠0):p.cl.up=true∧p.conn≠0∧0≤most:=by
  have h:w.mvE p most=0:=Classical.byContradiction h
  unfold Cu.mvE at h
  split at h
  ·cases h
  ·rename_i h1
   split at h
   ·cases h
   ·rename_i h2
    split at h
    ·cases h
    ·exact ⟨by simpa using h1,h2,by omega⟩
theorem ZaT.toSrv {tmo:Int} {w:Cu} {n:Nat} (h:ZaT tmo w n) (i:Nat) (most:Int):ZaT tmo (w.toSrvR i most).2 (n+1):=by
  unfold Cu.toSrvR
  have h':=h.mono (Nat.le_succ n)
  split
  ·exact h'
  ·rename_i p hp
   have hP:=h'.pes i p hp
   split
   ·exact h'
   ·rename_i hm
    obtain ⟨m1,m2,m3⟩:=ZoH hm
    split
    ·exact h'
    ·rename_i st br hrd
     dsimp only
     obtain ⟨st',e1,e2⟩:=hP.rd m2
     rw [hrd] at e1
     injection e1 with e1
     injection e1 with e1 e3
     subst e1 e3
     obtain ⟨_,q2,q3⟩:=Zgr h.net (conn:=p.conn) (j:=0) (by decide) (most:=most) m3
     obtain ⟨_,g2,g3,_,g5⟩:=ZtQ st false (w.moved p.conn 0 most).1 e2 (fun e=>by cases e)
     generalize putS st false (w.moved p.conn 0 most).1=q at g2 g3 g5
     have hS:SI { w with cs:=(w.moved p.conn 0 most).2,pes:=w.pes.set i { p with rd:=some (q.2.2,q.2.1)}} (80000*n):=⟨q2,h.srv,h.grs⟩
     obtain ⟨s1,s2,s3,s4⟩:=hS.serveL (i:=i) (conn:=p.conn) (l:=q.1)
     generalize Cu.serveL { w with cs:=(w.moved p.conn 0 most).2,pes:=w.pes.set i { p with rd:=some (q.2.2,q.2.1)}} i p.conn q.1=r at s1 s2 s3 s4
     have s3:r.2.now=w.now:=s3
     have s4:r.2.cs.length=(w.moved p.conn 0 most).2.length:=s4
     have s2:r.2.pes=w.pes.set i { p with rd:=some (q.2.2,q.2.1)}:=s2
     have hb:q.2.1=false→ZaT tmo r.2 (n+1):=fun hq=>by
       refine ⟨s1.net,by rw [s4,Zhl];exact h'.csl,s1.srv,by have:=s1.grs;omega,by rw [s3];exact h.now,by rw [s2,List.length_set];exact h.few,fun k x hx=>?_⟩
       rw [s2] at hx
       rw [s3]
       rcases Xm hx with ⟨_,rfl,_⟩ | ⟨_,hx⟩
       ·exact ⟨hP.cl,hP.last,hP.tmo,fun _=>⟨q.2.2,by rw [hq],g2⟩,fun e=>(m2 e).elim,hP.up⟩
       ·exact h'.pes k x hx
     split
     ·rename_i hc
      exact hb hc.2
     ·rename_i hc
      cases hq:q.2.1 with
      | false=>exact (hb hq).cut i
      | true =>
        have hr:({ r.2 with pes:=w.pes.set i { p with rd:=some (q.2.2,false)}}:Cu).cut i=r.2.cut i:=by
          have l1:(w.pes.set i { p with rd:=some (q.2.2,false)})[i]?=some { p with rd:=some (q.2.2,false)}:=List.getElem?_set_self (Xk hp)
          have l2:r.2.pes[i]?=some { p with rd:=some (q.2.2,q.2.1)}:=by rw [s2];exact List.getElem?_set_self (Xk hp)
          unfold Cu.cut
          rw [l2]
          dsimp only
          rw [l1]
          dsimp only
          rw [if_neg m2,if_neg m2,s2,List.set_set,List.set_set]
        have hC:ZaT tmo ({ r.2 with pes:=w.pes.set i { p with rd:=some (q.2.2,false)}}:Cu) (n+1):=by
          refine ⟨s1.net,?_,s1.srv,?_,?_,?_,fun k x hx=>?_⟩
          ·show r.2.cs.length≤_
           rw [s4,Zhl];exact h'.csl
          ·show r.2.grs.length≤_
           have:=s1.grs;omega
          ·show 0≤r.2.now∧r.2.now≤_
           rw [s3];exact h.now
          ·show (w.pes.set i _).length≤8
           rw [List.length_set];exact h.few
          ·show ZuH tmo r.2.now x (n+1)
           rw [s3]
           have hx:(w.pes.set i { p with rd:=some (q.2.2,false)})[k]?=some x:=hx
           rcases Xm hx with ⟨_,rfl,_⟩ | ⟨_,hx⟩
           ·exact ⟨hP.cl,hP.last,hP.tmo,fun _=>⟨q.2.2,rfl,g2⟩,fun e=>(m2 e).elim,hP.up⟩
           ·exact h'.pes k x hx
        have hD:=hC.cut i
        rw [hr] at hD
        exact hD
theorem ZaT.toCl {tmo:Int} {w:Cu} {n:Nat} (h:ZaT tmo w n) (i:Nat) (most:Int):ZaT tmo (w.toClR i most).2 (n+1):=by
  unfold Cu.toClR
  have h':=h.mono (Nat.le_succ n)
  split
  ·exact h'
  ·rename_i p hp
   have hP:=h.pes i p hp
   split
   ·exact h'
   ·rename_i hm
    obtain ⟨m1,m2,m3⟩:=ZoH hm
    obtain ⟨_,q2,q3⟩:=Zgr h.net (conn:=p.conn) (j:=1) (by decide) (most:=most) m3
    have hN:ZaT tmo { w with cs:=(w.moved p.conn 1 most).2 } (n+1):=h'.nets q2 (by rw [Zhl];exact h'.csl)
    split
    ·exact hN
    ·dsimp only
     obtain ⟨k1,k2⟩:=ZoL p.cl w.now (w.moved p.conn 1 most).1
     have hB:=hP.cl.bytes (l:=(w.moved p.conn 1 most).1) (by omega) w.now
     generalize p.cl.bytesR w.now (w.moved p.conn 1 most).1=r at k1 k2 hB
     split
     ·rename_i he
      have hr:({ w with cs:=(w.moved p.conn 1 most).2,pes:=w.pes.set i { p with cl:=r.1 }}:Cu).cut i=({ w with cs:=(St.brS (w.moved p.conn 1 most).2 [p.conn]).2,srv:=w.srv.closed p.conn,pes:=w.pes.set i ⟨if r.1.up then r.1.lostS w.now else r.1,0,none⟩}:Cu):=by
        have l1:(w.pes.set i { p with cl:=r.1 })[i]?=some { p with cl:=r.1 }:=List.getElem?_set_self (Xk hp)
        unfold Cu.cut
        dsimp only
        rw [l1]
        dsimp only
        rw [if_neg m2,List.set_set]
      rw [hr]
      refine ((hN.nets (ZsM q2 [p.conn]) (by rw [Zoa,Zhl];exact h'.csl)).srvs (h.srv.closed p.conn)).set (i:=i) (p:=⟨if r.1.up then r.1.lostS w.now else r.1,0,none⟩) ⟨?_,?_,?_,fun e=>(e rfl).elim,fun _=>rfl,fun e=>(e rfl).elim⟩
      ·show On2 (if r.1.up=true then r.1.lostS w.now else r.1) _
       split
       ·exact hB.lostS _
       ·exact hB
      ·show (if r.1.up=true then r.1.lostS w.now else r.1).last≤w.now
       split
       ·exact (Zlo r.1 w.now).2 (k1.2 hP.last)
       ·exact k1.2 hP.last
      ·show (if r.1.up=true then r.1.lostS w.now else r.1).tmo=tmo
       split
       ·exact (Zlo r.1 w.now).1.trans (k1.1.trans hP.tmo)
       ·exact k1.1.trans hP.tmo
     ·rename_i he
      have he:r.2=0:=Classical.byContradiction he
      exact (hN.set (i:=i) (p:={ p with cl:=r.1 }) ⟨hB,k1.2 hP.last,k1.1.trans hP.tmo,hP.rd,hP.no,fun e=>(k2 he).trans (hP.up e)⟩).sends i
end Go.Proofs.YtbppjmcinoffnaaGreat
namespace Go.Proofs.YtbppjmcinoffnaaGreat
open Go Go.Fw
open Nat renaming reduceAdd→Nqa,reduceLT→Nqb,reduceLeDiff→Nqc,reduceEqDiff→Nqd,reduceMul→Nqe
open Tk (Zt rI rB rS rP rM rL ZhD XC held1 ZaI wrS)
def Cu.partR (w:Cu) (i:Nat):Int × Cu:=match w.pes[i]? with
  | none=>(0,w)
  | some p=>if p.cl.up=true then (0,w.cut i) else (51,w)
def Cu.stopR (w:Cu):Int × Cu:=if w.up=true then (0,w.stopB.cutK w.pes.length) else (51,w)
def Cu.tickR (w:Cu) (at_:Int):Int × Cu:=if w.tickE at_=0 then (0,Cu.tickA { w with now:=at_ }) else (w.tickE at_,w)
abbrev Res:=(Int × Bool × Int) × Cu
def res (x:Int × Cu):Res:=((0,false,x.1),x.2)
def Cu.doK (w:Cu) (o:Op):Nat→Res
  | 1=>res (w.tickR o.2.2.1)
  | 2=>w.askR o.2.1.toNat o.rq
  | 3=>res (w.dialR o.2.1.toNat)
  | 4=>res (w.toSrvR o.2.1.toNat o.2.2.2.1)
  | 5=>res (w.toClR o.2.1.toNat o.2.2.2.1)
  | 6=>res (w.partR o.2.1.toNat)
  | 7=>res w.stopR
  | _=>res w.startR
def ZgG (k:Nat):Bool:=k ==1||k ==7||k ==8
def Cu.doR (w:Cu) (o:Op):Res :=
  if o.1<1 then ((0,false,6),w) else if o.1≥9 then ((0,false,6),w) else
  if ZgG o.1.toNat=false then (if o.2.1<0 then ((0,false,2),w) else if o.2.1≥w.pes.length then ((0,false,2),w) else w.doK o o.1.toNat) else w.doK o o.1.toNat
theorem ZaT.doK {tmo:Int} {w:Cu} {n:Nat} (h:ZaT tmo w n) (hn:n≤1000) (o:Op) (k:Nat):ZaT tmo (w.doK o k).2 (n+1):=by
  have h':=h.mono (Nat.le_succ n)
  unfold Cu.doK
  split
  ·show ZaT tmo (w.tickR o.2.2.1).2 (n+1)
   unfold Cu.tickR
   split
   ·rename_i he;exact h'.tick he
   ·exact h'
  ·exact h.ask hn _ _
  ·exact h.dial _
  ·exact h.toSrv _ _
  ·exact h.toCl _ _
  ·show ZaT tmo (w.partR o.2.1.toNat).2 (n+1)
   unfold Cu.partR
   split
   ·exact h'
   ·split
    ·exact h'.cut _
    ·exact h'
  ·show ZaT tmo w.stopR.2 (n+1)
   unfold Cu.stopR
   split
   ·exact h'.stop.cutK _
   ·exact h'
  ·exact h'.start
theorem ZaT.do {tmo:Int} {w:Cu} {n:Nat} (h:ZaT tmo w n) (hn:n≤1000) (o:Op):ZaT tmo (w.doR o).2 (n+1):=by
  have h':=h.mono (Nat.le_succ n)
  unfold Cu.doR
  split
  ·exact h'
  ·split
   ·exact h'
   ·split
    ·split
     ·exact h'
     ·split
      ·exact h'
      ·exact h.doK hn o _
    ·exact h.doK hn o _
theorem rV {h:Zb} {b o:Nat} {n:Value} {K:Value→Prop} (hc:ZL o (obj h b)=some n) (hk:K n):ldV h b o K:=by rw [Zzr hc];exact hk
def dK (k:Nat):Value:= .func (.func (59+k)) #[] #[]
theorem Zf9 {k:Nat}:Zv (dK k)=true:=by simp [Zv,dK]
theorem ZiE:Zv .nilFunc=true:=by simp [Zv]
theorem ZsB {h:Zb} {k:Int} (hk0:0≤k∧k<256) {K:(Value × Bool × Unit)→Bool→Zb→Prop} (h1:k<1∨k≥9→∀ h',Ext h h'→K (.nilFunc,false,()) false h')
    (h2:∀ j:Nat,k=(j:Int)→1≤j→j≤8→∀ h',Ext h h'→K (dK j,ZgG j,()) true h'):Zby k K h:=by
  unfold Zby Zd7
  refine Za1 fun h1' c1 e1 z1=>?_
  simp only [ZhX]
  refine ⟨Zf9 (k:=1),Zf9 (k:=2),Zf9 (k:=3),Zf9 (k:=4),Zf9 (k:=5),Zf9 (k:=6),Zf9 (k:=7),Zf9 (k:=8),?_⟩
  refine Za1 fun h2' c2 e2 z2=>?_
  refine Ztd (vs:=[Value.nilFunc,Value.bool false,dK 1,Value.bool true,dK 2,Value.bool false,dK 3,Value.bool false,dK 4,Value.bool false,dK 5,Value.bool false,dK 6,Value.bool false,dK 7,Value.bool true,dK 8,Value.bool true]) c2 rfl
    (by simp only [List.all_cons,List.all_nil,Zf9,ZdX,ZiE];rfl) rfl fun h4 c4 u4 z4=>?_
  have lz1:sz h1'=sz h+1:=z1
  have c14:=XM (Yh c1 e2) u4 (by show ¬ sz h=sz h1';omega)
  have e4:Ext h h4:=(e1.trans e2).then u4 fun k hk=>by rw [hk];show sz h≤sz h1';omega
  have fin:∀ (v:Value) (b:Bool) (t:Bool),Zv v=true→(∀ h',Ext h h'→K (v,b,()) t h')→sts h4 (sz h) 0 [v,Value.bool b] fun h5=>ldV h5 (sz h) 0 fun t1=>ldB h5 (sz h) (0+1) fun t6=>K (t1,t6,()) t h5:=by
    intro v b t hv hK
    refine Ztd (vs:=[v,Value.bool b]) c14 rfl (by simp only [List.all_cons,List.all_nil,hv,ZdX];rfl) rfl fun h5 c5 u5 z5=>?_
    exact rV (Zt c5 rfl) (rB (Zt c5 rfl) (hK h5 (e4.then u5 fun k hk=>by rw [hk];exact Nat.le_refl _)))
  refine Zj (fun c=>fin _ _ _ ZiE (h1 (.inl c))) (fun c=>?_)
  rw [ZR (n:=k) (by omega) (by omega)]
  refine Zj (fun c=>fin _ _ _ ZiE (h1 (.inr c))) (fun c9=>?_)
  obtain ⟨j,rfl⟩:=Int.eq_ofNat_of_zero_le hk0.1
  have hj:j=1∨j=2∨j=3∨j=4∨j=5∨j=6∨j=7∨j=8:=by omega
  refine ⟨by omega,by omega,?_⟩
  rw [Int.toNat_natCast]
  rcases hj with rfl | rfl | rfl | rfl | rfl | rfl | rfl | rfl <;>
  ·exact rV (Zt c4 rfl) (rB (Zt c4 rfl) (fin _ _ _ Zf9 (h2 _ rfl (by decide) (by decide))))
section
variable {h h':Zb} {T:TT} {wb:Nat} {sp:Sl} {w:Cu}
theorem Zjb (hW:Wld h T wb sp w) {i:Int} {K:Option Addr→Zb→Prop} (h1:i<0∨i≥w.pes.length→K none h) (h2:∀ (k:Nat) (p:Pe) (b:Nat),i=(k:Int)→w.pes[k]?=some p→sp.blk=some b→K (some ⟨b,k*3,none⟩) h):YF (some ⟨wb,0,none⟩) i K h:=by
  unfold YF ZbI
  obtain ⟨nb,sb,sg,pl,hR⟩:=hW
  have hl:=hR.len
  refine Zl (Zj (fun c=>h1 (.inl c)) (fun c=>Zh (rL (hR.wc (j:=3) rfl) (Zj (fun c2=>h1 (.inr (by omega))) (fun c2=>Zh (rL (hR.wc (j:=3) rfl) ?_))))))
  obtain ⟨k,rfl⟩:=Int.eq_ofNat_of_zero_le (show 0≤i by omega)
  have hlt:k<w.pes.length:=by omega
  have hp:w.pes[k]?=some w.pes[k]:=List.getElem?_eq_getElem hlt
  exact hR.idx hp rfl fun b hb=>h2 k _ b rfl hp hb
end
end Go.Proofs.YtbppjmcinoffnaaGreat
namespace Go.Proofs.YtbppjmcinoffnaaGreat
open Go Go.Fw
open Nat renaming reduceAdd→Nqa,reduceLT→Nqb,reduceLeDiff→Nqc,reduceEqDiff→Nqd,reduceMul→Nqe
def Zjm (c:Cl):List Int:=c.waits.map (·.1)++c.told.map (·.id)
structure CG (G:An→Prop) (c c':Cl):Prop where
  ids:(Zjm c').Perm (Zjm c)
  next:c'.next=c.next
  told:∀ t,t∈c'.told→t∈c.told∨t.fb=true∨(t.id=t.a.1∧G t.a)
theorem CG.refl (G:An→Prop) (c:Cl):CG G c c:=⟨List.Perm.refl _,rfl,fun _ h=> .inl h⟩
theorem CG.trans {G:An→Prop} {a b c:Cl} (h:CG G a b) (h':CG G b c):CG G a c :=
  ⟨h'.ids.trans h.ids,h'.next.trans h.next,fun t ht=>by
    rcases h'.told t ht with q | q | q
    ·exact h.told t q
    ·exact .inr (.inl q)
    ·exact .inr (.inr q)⟩
theorem CG.as {G:An→Prop} {c c' d:Cl} (h:CG G c c') (h1:d.waits=c'.waits) (h2:d.told=c'.told) (h3:d.next=c'.next):CG G c d :=
  ⟨by unfold Zjm;rw [h1,h2];exact h.ids,h3.trans h.next,fun t ht=>h.told t (by rw [h2] at ht;exact ht)⟩
theorem ZoR (l:List (Int × Int)):(l.map fun p=>Zfg p.1).map (·.id)=l.map (·.1):=by rw [List.map_map];rfl
theorem ZeC (G:An→Prop) (c:Cl) (at_:Int):CG G c (c.tick at_):=by
  refine ⟨?_,rfl,fun t ht=>?_⟩
  ·show ((c.waits.filter (Zbc c.tmo at_)).map (·.1)++(c.told++(c.waits.filter fun p=> !Zbc c.tmo at_ p).map fun p=>Zfg p.1).map (·.id)).Perm _
   rw [List.map_append,ZoR]
   have h1:((c.waits.filter (Zbc c.tmo at_)).map (·.1)++(c.waits.filter fun p=> !Zbc c.tmo at_ p).map (·.1)).Perm (c.waits.map (·.1)):=by
     rw [← List.map_append]
     exact (List.filter_append_perm _ _).map _
   refine ((List.perm_append_comm (l₁:=c.told.map (·.id))).append_left _).trans ?_
   rw [← List.append_assoc]
   exact h1.append_right _
  ·have ht:t∈c.told++(c.waits.filter fun p=> !Zbc c.tmo at_ p).map fun p=>Zfg p.1:=ht
   rcases List.mem_append.1 ht with q | q
   ·exact .inl q
   ·obtain ⟨p,_,rfl⟩:=List.mem_map.1 q
    exact .inr (.inl rfl)
theorem Zxc (G:An→Prop) (c:Cl):CG G c c.down:=by
  refine ⟨?_,rfl,fun t ht=>?_⟩
  ·show (([]:List (Int × Int)).map (·.1)++(c.told++c.waits.map fun p=>Zfg p.1).map (·.id)).Perm _
   rw [List.map_append,ZoR,List.map_nil,List.nil_append]
   exact List.perm_append_comm
  ·have ht:t∈c.told++c.waits.map fun p=>Zfg p.1:=ht
   rcases List.mem_append.1 ht with q | q
   ·exact .inl q
   ·obtain ⟨p,_,rfl⟩:=List.mem_map.1 q
    exact .inr (.inl rfl)
theorem Zvn:∀ {l:List (Int × Int)} {a:Int},Asc l→l.any (fun p=>p.1 ==a)=true→(l.filter (fun p=> !(p.1 !=a))).map (·.1)=[a]
  | [],_,_,h=>by cases h
  | x::l,a,ha,h=>by
    obtain ⟨h1,h2⟩:=List.pairwise_cons.1 ha
    by_cases e:x.1=a
    ·have:l.filter (fun p=> !(p.1 !=a))=[]:=List.filter_eq_nil_iff.2 fun q hq=>by
       have:=h1 q hq
       have:q.1≠a:=by omega
       simp [this]
     rw [List.filter_cons_of_pos (by simp [e]),this]
     simp [e]
    ·rw [List.filter_cons_of_neg (by simp [e])]
     refine Zvn h2 ?_
     rw [List.any_cons] at h
     simpa [e] using h
theorem Zxd {G:An→Prop} {c:Cl} (hA:Asc c.waits) {a:An} (hG:G a):CG G c (c.answ a)∧Asc (c.answ a).waits:=by
  unfold Cl.answ
  split
  ·rename_i h
   refine ⟨⟨?_,rfl,fun t ht=>?_⟩,Zfk hA _⟩
   ·show ((c.waits.filter fun p=>p.1 !=a.1).map (·.1)++(c.told++[(⟨a.1,a,false⟩:Tld)]).map (·.id)).Perm _
    rw [List.map_append]
    have h1:((c.waits.filter fun p=>p.1 !=a.1).map (·.1)++[a.1]).Perm (c.waits.map (·.1)):=by
      rw [← Zvn hA h,← List.map_append]
      exact (List.filter_append_perm _ _).map _
    refine ((List.perm_append_comm (l₁:=c.told.map (·.id))).append_left _).trans ?_
    rw [← List.append_assoc]
    exact h1.append_right _
   ·have ht:t∈c.told++[(⟨a.1,a,false⟩:Tld)]:=ht
    rcases List.mem_append.1 ht with q | q
    ·exact .inl q
    ·simp at q
     subst q
     exact .inr (.inr ⟨rfl,hG⟩)
  ·exact ⟨CG.refl _ _,hA⟩
theorem ZsH {G:An→Prop}:∀ (l:List (List UInt8)) {c:Cl},Asc c.waits→(∀ x,x∈l→(ZbP x).2.1=0→G (ZbP x).1)→CG G c (c.take l).1
  | [],c,_,_=>CG.refl _ _
  | x::l,c,hA,hG=>by
    unfold Cl.take
    split
    ·exact CG.refl _ _
    ·rename_i e
     obtain ⟨h1,h2⟩:=Zxd hA (hG x (List.mem_cons_self ..) (Classical.byContradiction fun q=>e q))
     exact h1.trans (ZsH l h2 fun y hy=>hG y (List.mem_cons_of_mem _ hy))
theorem Znt:∀ (l:List (List UInt8)) {c:Cl},(∀ x,x∈l→(ZbP x).2.1=0)→(c.take l).2=false∧(c.take l).1.rb=c.rb∧(c.take l).1.broken=c.broken∧(c.take l).1.out=c.out∧(c.take l).1.up=c.up
  | [],c,_=>⟨rfl,rfl,rfl,rfl,rfl⟩
  | x::l,c,h=>by
    unfold Cl.take
    rw [if_neg (fun q=>q (h x (List.mem_cons_self ..)))]
    obtain ⟨h1,h2,h3,h4,h5⟩:=Znt l (c:=c.answ (ZbP x).1) fun y hy=>h y (List.mem_cons_of_mem _ hy)
    have e:(c.answ (ZbP x).1).rb=c.rb∧(c.answ (ZbP x).1).broken=c.broken∧(c.answ (ZbP x).1).out=c.out∧(c.answ (ZbP x).1).up=c.up:=by
      unfold Cl.answ
      split<;>exact ⟨rfl,rfl,rfl,rfl⟩
    exact ⟨h1,h2.trans e.1,h3.trans e.2.1,h4.trans e.2.2.1,h5.trans e.2.2.2⟩
theorem ZoZ (G:An→Prop) (c:Cl) (at_:Int):CG G c (c.atS at_):=by
  unfold Cl.atS
  split
  ·exact ZeC G c at_
  ·exact CG.refl _ _
theorem Zxb (G:An→Prop) (c:Cl) (at_:Int):CG G c (c.lostS at_):=by
  unfold Cl.lostS
  split
  ·split
   ·exact (ZeC G c at_).trans (Zxc G _)
   ·exact ZeC G c at_
  ·exact CG.refl _ _
theorem ZzK (G:An→Prop) (c:Cl) (at_:Int):CG G c (c.refS at_):=by
  unfold Cl.refS
  split
  ·split
   ·exact ZeC G c at_
   ·exact (ZeC G c at_).as rfl rfl rfl
  ·exact CG.refl _ _
theorem ZEJ (G:An→Prop) (c:Cl) (at_:Int):CG G c (c.upS at_):=by
  unfold Cl.upS
  split
  ·split
   ·exact ZeC G c at_
   ·exact (ZeC G c at_).as rfl rfl rfl
  ·exact CG.refl _ _
theorem Zt8 {c:Cl} {at_:Int} (he:c.atE at_=0) (hu:c.up=true):(c.lostS at_).out=[]∧(c.lostS at_).rb=[]∧(c.lostS at_).up=false:=by
  unfold Cl.lostS
  rw [if_pos he,if_pos hu]
  exact ⟨rfl,rfl,rfl⟩
theorem Zoe (c:Cl) (at_:Int):(c.atS at_).out=c.out∧(c.atS at_).rb=c.rb∧(c.atS at_).up=c.up∧(c.atS at_).broken=c.broken∧(c.atS at_).name=c.name:=by
  unfold Cl.atS
  split<;>exact ⟨rfl,rfl,rfl,rfl,rfl⟩
theorem ZwC (c:Cl) (at_:Int):(c.refS at_).out=c.out∧(c.refS at_).rb=c.rb∧(c.refS at_).up=c.up:=by
  unfold Cl.refS
  split
  ·split<;>exact ⟨rfl,rfl,rfl⟩
  ·exact ⟨rfl,rfl,rfl⟩
theorem ZjB:∀ (ll:List (List UInt8)) (_:∀ l,l∈ll→good l) (a y:List UInt8),a++y=fr ll→∃ l1 l2,ll=l1++l2∧Ze3 a=(l1,false,(Ze3 a).2.2)∧(Ze3 a).2.2++y=fr l2
  | [],_,a,y,h=>by
    have h:a++y=[]:=h
    obtain ⟨rfl,rfl⟩:=List.append_eq_nil_iff.1 h
    have e:Ze3 []=([],false,[]):=ZdU (by decide)
    exact ⟨[],[],rfl,by rw [e],by rw [e];rfl⟩
  | l::ll,hg,a,y,h=>by
    by_cases h1:a.length<4
    ·have e:Ze3 a=([],false,a):=ZdU h1
     exact ⟨[],l::ll,rfl,by rw [e],by rw [e];exact h⟩
    ·obtain ⟨g1,g2,g3,g4,g5,g6⟩:=Zsq (ll:=ll) (hg l (List.mem_cons_self ..))
     rw [← h] at g2 g3 g5 g6
     rw [ZoJ h1] at g2
     rw [Zr7 h1] at g3
     by_cases h3:a.length - 4<ZeS a
     ·have e:Ze3 a=([],false,a):=Zhx h1 g3 h3
      exact ⟨[],l::ll,rfl,by rw [e],by rw [e];exact h⟩
     ·rw [List.drop_append_of_le_length (by omega)] at g6
      rw [List.drop_append_of_le_length (by omega),List.take_append_of_le_length (by rw [List.length_drop];omega)] at g5
      obtain ⟨l1,l2,q1,q2,q3⟩:=ZjB ll (fun x hx=>hg x (List.mem_cons_of_mem _ hx)) _ y g6
      have e:Ze3 a=(l::(Ze3 (a.drop (4+l.length))).1,(Ze3 (a.drop (4+l.length))).2):=by
        rw [Zhy h1 g3 h3,g2,g5]
      refine ⟨l::l1,l2,by rw [q1];rfl,?_,?_⟩
      ·rw [e,q2]
      ·rw [e];exact q3
structure Zbl where
  f:Int→Int→Option Rq
  d:Int→Int→Prop
instance:CoeFun Zbl (fun _=>Int→Int→Option Rq):=⟨Zbl.f⟩
def Ztg (A:Zbl) (i:Nat) (lb:List UInt8):Prop:=∃ r:Rq,XA r=true∧lb=Ze7 r∧((r.2.1=5∧r.1=0)∨(r.2.1≠5∧A i r.1=some r))
def Zpb (A:Zbl) (grs:List Gt) (now:Int) (i:Nat) (a:An):Prop:=a.2.1=1→a.1≠0→∃ g,g∈grs∧g.2.1=(i:Int)∧g.2.2.1=a.1∧A i a.1=some g.2.2.2∧g.1≤now
def ZAt (A:Zbl) (grs:List Gt) (now:Int) (i:Nat) (lb:List UInt8):Prop:=∃ a:An,ZeG a=true∧lb=ZgA a∧Zpb A grs now i a
structure On3 (A A':Zbl) (grs grs':List Gt) (now now':Int):Prop where
  a:∀ i n r,A i n=some r→A' i n=some r
  g:∀ x,x∈grs→x∈grs'
  t:now≤now'
  d:A'.d=A.d
theorem On3.refl (A:Zbl) (grs:List Gt) (now:Int):On3 A A grs grs now now:=⟨fun _ _ _ h=>h,fun _ h=>h,Int.le_refl _,rfl⟩
theorem Ztg.on {A A':Zbl} {grs grs':List Gt} {now now':Int} (h:On3 A A' grs grs' now now') {i:Nat} {lb:List UInt8} (hr:Ztg A i lb):Ztg A' i lb:=by
  obtain ⟨r,h1,h2,h3⟩:=hr
  refine ⟨r,h1,h2,?_⟩
  rcases h3 with q | ⟨q1,q2⟩
  ·exact .inl q
  ·exact .inr ⟨q1,h.a _ _ _ q2⟩
theorem Zpb.on {A A':Zbl} {grs grs':List Gt} {now now':Int} (h:On3 A A' grs grs' now now') {i:Nat} {a:An} (hr:Zpb A grs now i a):Zpb A' grs' now' i a:=fun q1 q2=>by
  obtain ⟨g,h1,h2,h3,h4,h5⟩:=hr q1 q2
  exact ⟨g,h.g g h1,h2,h3,h.a _ _ _ h4,Int.le_trans h5 h.t⟩
theorem ZAt.on {A A':Zbl} {grs grs':List Gt} {now now':Int} (h:On3 A A' grs grs' now now') {i:Nat} {lb:List UInt8} (hr:ZAt A grs now i lb):ZAt A' grs' now' i lb:=by
  obtain ⟨a,h1,h2,h3⟩:=hr
  exact ⟨a,h1,h2,h3.on h⟩
theorem Ztg.good {A:Zbl} {i:Nat} {lb:List UInt8} (h:Ztg A i lb):good lb:=by
  obtain ⟨r,h1,rfl,_⟩:=h
  exact ZoO h1
theorem ZuD {a:An} (_:ZeG a=true):good (ZgA a):=by
  have:(ZgA a).length=33:=rfl
  unfold Go.Proofs.YtbppjmcinoffnaaGreat.good
  omega
structure ZAs (A:Zbl) (cs:List St.Cn) (grs:List Gt) (now:Int) (i:Nat) (p:Pe) (c:St.Cn) (LL AA:List (List UInt8)) (st:List UInt8):Prop where
  at_:cs[(p.conn - 1).toNat]?=some c
  brk:c.brk=false
  rd:p.rd=some (st,false)
  req:∀ x,x∈LL→Ztg A i x
  go:st++(c.s0.way++p.cl.out)=fr LL
  ans:∀ x,x∈AA→ZAt A grs now i x
  back:p.cl.rb++c.s1.way=fr AA
structure PW (A:Zbl) (grs:List Gt) (now:Int) (i:Nat) (p:Pe):Prop where
  nd:(Zjm p.cl).Nodup
  ids:∀ n,n∈Zjm p.cl→1≤n∧n<p.cl.next
  dom:∀ n,A i n≠none→n<p.cl.next
  told:∀ t,t∈p.cl.told→t.fb=false→t.id=t.a.1∧Zpb A grs now i t.a
  pos:0≤p.conn
  dn:∀ n,A.d i n→n<p.cl.next∧n∉Zjm p.cl
structure PG (A:Zbl) (cs:List St.Cn) (grs:List Gt) (now:Int) (i:Nat) (p:Pe):Prop where
  w:PW A grs now i p
  off:p.conn=0→p.cl.out=[]∧p.cl.rb=[]∧p.cl.up=false
  ln:p.conn≠0→∃ c LL AA st,ZAs A cs grs now i p c LL AA st
def ZAq (l:List Pe):Prop:=∀ (i j:Nat) (p q:Pe),l[i]?=some p→l[j]?=some q→p.conn=q.conn→p.conn≠0→i=j
structure GI (A:Zbl) (w:Cu):Prop where
  pes:∀ (i:Nat) (p:Pe),w.pes[i]?=some p→PG A w.cs w.grs w.now i p
  uniq:ZAq w.pes
structure GX (A:Zbl) (w:Cu) (i:Nat):Prop where
  pes:∀ (j:Nat) (p:Pe),w.pes[j]?=some p→j≠i→PG A w.cs w.grs w.now j p
  uniq:ZAq w.pes
theorem GI.x {A:Zbl} {w:Cu} (h:GI A w) (i:Nat):GX A w i:=⟨fun j p hp _=>h.pes j p hp,h.uniq⟩
theorem GX.all {A:Zbl} {w:Cu} {i:Nat} (h:GX A w i) (hi:∀ p,w.pes[i]?=some p→PG A w.cs w.grs w.now i p):GI A w :=
  ⟨fun j p hp=>by
    by_cases e:j=i
    ·subst e;exact hi p hp
    ·exact h.pes j p hp e,h.uniq⟩
theorem PW.cg {A:Zbl} {grs:List Gt} {now:Int} {i:Nat} {p:Pe} (h:PW A grs now i p) {c':Cl} (hc:CG (Zpb A grs now i) p.cl c') {k:Int} (hk:0≤k) (rd:Option (List UInt8 × Bool)):PW A grs now i ⟨c',k,rd⟩:=by
  refine ⟨hc.ids.nodup_iff.2 h.nd,fun n hn=>?_,fun n hn=>?_,fun t ht hf=>?_,hk,fun n hn=>?_⟩
  ·have:=h.ids n (hc.ids.mem_iff.1 hn)
   show 1≤n∧n<c'.next
   rw [hc.next];exact this
  ·have:=h.dom n hn
   show n<c'.next
   rw [hc.next];exact this
  ·rcases hc.told t ht with q | q | q
   ·exact h.told t q hf
   ·rw [hf] at q;cases q
   ·exact q
  ·have:=h.dn n hn
   refine ⟨?_,fun e=>this.2 (hc.ids.mem_iff.1 e)⟩
   show n<c'.next
   rw [hc.next];exact this.1
theorem PW.on {A A':Zbl} {grs grs':List Gt} {now now':Int} (h:On3 A A' grs grs' now now') {i:Nat} {p:Pe} (hp:PW A grs now i p) (hd:∀ n,A' i n≠none→n<p.cl.next):PW A' grs' now' i p :=
  ⟨hp.nd,hp.ids,hd,fun t ht hf=>⟨(hp.told t ht hf).1,(hp.told t ht hf).2.on h⟩,hp.pos,fun n hn=>hp.dn n (by rw [h.d] at hn;exact hn)⟩
theorem ZAs.on {A A':Zbl} {cs cs':List St.Cn} {grs grs':List Gt} {now now':Int} (h:On3 A A' grs grs' now now') {i:Nat} {p:Pe} {c:St.Cn} {LL AA:List (List UInt8)} {st:List UInt8} (hl:ZAs A cs grs now i p c LL AA st) (hc:cs'[(p.conn - 1).toNat]?=some c):ZAs A' cs' grs' now' i p c LL AA st :=
  ⟨hc,hl.brk,hl.rd,fun x hx=>(hl.req x hx).on h,hl.go,fun x hx=>(hl.ans x hx).on h,hl.back⟩
theorem PG.on {A A':Zbl} {cs cs':List St.Cn} {grs grs':List Gt} {now now':Int} (h:On3 A A' grs grs' now now') {i:Nat} {p:Pe} (hp:PG A cs grs now i p) (hd:∀ n,A' i n≠none→n<p.cl.next) (hc:p.conn≠0→∀ c,cs[(p.conn - 1).toNat]?=some c→cs'[(p.conn - 1).toNat]?=some c):PG A' cs' grs' now' i p:=by
  refine ⟨hp.w.on h hd,hp.off,fun q=>?_⟩
  obtain ⟨c,LL,AA,st,hl⟩:=hp.ln q
  exact ⟨c,LL,AA,st,hl.on h (hc q c hl.at_)⟩
theorem Zmf {α:Type} {l:List α} {i j:Nat} {x y:α} (hn:i≠j) (h:l[j]?=some y):(l.set i x)[j]?=some y:=by rw [List.getElem?_set_ne hn];exact h
theorem Zxa {k m:Int} (hk:0≤k) (hm:0≤m) (hk0:k≠0) (hm0:m≠0) (hn:k≠m):(k - 1).toNat≠(m - 1).toNat:=by omega
theorem Zo2 {cs:List St.Cn} {k:Int} {j:Nat} {c:St.Cn} (hn:(k - 1).toNat≠j) (h:cs[j]?=some c):(St.brS cs [k]).2[j]?=some c:=by
  unfold St.brS
  split
  ·exact h
  ·exact h
  ·show (match cs[(k - 1).toNat]? with | some c=>cs.set (k - 1).toNat (St.brC c) | none=>cs)[j]?=some c
   split
   ·exact Zmf hn h
   ·exact h
theorem Zvb {cs:List St.Cn} {k:Int} (hk:1≤k) {c:St.Cn} (hc:cs[(k - 1).toNat]?=some c) (hb:c.brk=false) {j:Nat} (hj:j<2) (l:List UInt8) :
    (St.wrS cs k j l).1=0∧(St.wrS cs k j l).2=cs.set (k - 1).toNat (c.putS j ⟨(c.side j).way++l,(c.side j).come,(c.side j).x⟩)∨(St.wrS cs k j l).1≠0∧(St.wrS cs k j l).2=cs:=by
  unfold St.wrS
  rw [ZmR (by omega) (Int.le_refl _),Zlt hk hc hb,if_neg (fun h=>h rfl)]
  unfold St.wrI
  rw [Int.toNat_natCast,hc]
  dsimp only
  split
  ·exact .inr ⟨by show (51:Int)≠0;decide,rfl⟩
  ·split
   ·exact .inr ⟨by show (3:Int)≠0;decide,rfl⟩
   ·exact .inl ⟨rfl,rfl⟩
theorem ZoI {w:Cu} (hN:Zgm w.cs) {k:Int} (hk:1≤k) {c:St.Cn} (hc:w.cs[(k - 1).toNat]?=some c) (hb:c.brk=false) {j:Nat} (hj:j<2) {most:Int} (hm:0≤most) :
    ∃ m,w.moved k j most=((c.side j).way.take m,w.cs.set (k - 1).toNat (c.putS j ⟨(c.side j).way.drop m,[],(c.side j).x⟩)):=by
  have e1:St.ZgL w.cs k (j:Int) most=0:=by rw [ZmR (by omega) hm];exact Zlt hk hc hb
  obtain ⟨hw,hcome⟩:=hN c j (List.mem_of_getElem? hc) hj
  refine ⟨min most.toNat (c.side j).way.length,?_⟩
  have hmv:(St.mvS w.cs k j most).2=w.cs.set (k - 1).toNat (c.putS j ⟨(c.side j).way.drop (min most.toNat (c.side j).way.length),(c.side j).come++(c.side j).way.take (min most.toNat (c.side j).way.length),(c.side j).x⟩):=by
    unfold St.mvS
    rw [e1,if_neg (fun h=>h rfl)]
    unfold St.mvI
    rw [Int.toNat_natCast,hc]
  unfold Cu.moved St.ZrJ
  rw [hmv,hcome,List.nil_append]
  generalize hml:min most.toNat (c.side j).way.length=m
  have hc2:(w.cs.set (k - 1).toNat (c.putS j ⟨(c.side j).way.drop m,(c.side j).way.take m,(c.side j).x⟩))[(k - 1).toNat]?=some _:=List.getElem?_set_self (Xk hc)
  have e2:St.ZgL (w.cs.set (k - 1).toNat (c.putS j ⟨(c.side j).way.drop m,(c.side j).way.take m,(c.side j).x⟩)) k (1 - (j:Int)) MX=0:=by
    rw [ZmR (by omega) (by decide)]
    exact Zlt hk hc2 (by rw [St.ZsL];exact hb)
  rw [e2,if_neg (fun h=>h rfl)]
  have ej:1 - (1 - (j:Int)).toNat=j:=by omega
  rw [ej]
  unfold St.rdI
  rw [hc2]
  dsimp only
  rw [St.Ziz c hj hj,if_pos rfl]
  dsimp only
  have em:min MX.toNat ((c.side j).way.take m).length=((c.side j).way.take m).length:=by
    have:MX.toNat=9223372036854775807:=rfl
    rw [List.length_take]
    omega
  rw [em,List.take_length,List.drop_length,List.set_set]
  congr 2
  unfold St.Cn.putS
  split<;>rfl
structure PT (now:Int) (p:Pe):Prop where
  asc:Asc p.cl.waits
  last:p.cl.last≤now
  up:p.conn≠0→p.cl.up=true∨(p.cl.out=[]∧p.cl.rb=[])
  br:p.cl.broken=false
structure WT (w:Cu):Prop where
  net:Zgm w.cs
  now:0≤w.now∧w.now≤1152921504606846976
  pes:∀ (i:Nat) (p:Pe),w.pes[i]?=some p→PT w.now p
theorem ZaT.wt {tmo:Int} {w:Cu} {n:Nat} (h:ZaT tmo w n):WT w:=⟨h.net,h.now,fun i p hp=>⟨(h.pes i p hp).cl.w.asc,(h.pes i p hp).last,fun q=> .inl ((h.pes i p hp).up q),(h.pes i p hp).cl.br⟩⟩
theorem Zh7 {c:Cl} {now:Int} (hn:0≤now∧now≤1152921504606846976) (hl:c.last≤now):c.atE now=0:=by
  unfold Cl.atE
  rw [if_neg (by omega),if_neg (by omega),if_neg (by omega)]
theorem Zee {l:List Pe} (h:ZAq l) {i:Nat} {p q:Pe} (hp:l[i]?=some p) (hq:q.conn=p.conn∨q.conn=0):ZAq (l.set i q):=by
  intro a b x y hx hy hxy h0
  rcases Xm hx with ⟨ea,ex,_⟩ | ⟨ha,hx2⟩
  ·rcases Xm hy with ⟨eb,ey,_⟩ | ⟨hb,hy2⟩
   ·omega
   ·rw [ex] at hxy h0
    rcases hq with e | e
    ·rw [ea]
     exact h i b p y hp hy2 (by rw [← e];exact hxy) (by rw [← e];exact h0)
    ·exact (h0 e).elim
  ·rcases Xm hy with ⟨eb,ey,_⟩ | ⟨hb,hy2⟩
   ·rw [ey] at hxy
    rcases hq with e | e
    ·rw [eb]
     exact h a i x p hx2 hp (by rw [← e];exact hxy) h0
    ·exact (h0 (hxy.trans e)).elim
   ·exact h a b x y hx2 hy2 hxy h0
section
variable {A:Zbl} {w:Cu}
theorem GX.other {i:Nat} (h:GX A w i) {p:Pe} (hp:w.pes[i]?=some p) (hp0:0≤p.conn) {j:Nat} {q:Pe} (hq:w.pes[j]?=some q) (hj:j≠i) {cs':List St.Cn} (hc:∀ m c,(p.conn - 1).toNat≠m∨p.conn=0→w.cs[m]?=some c→cs'[m]?=some c) {A':Zbl} {grs':List Gt} {now':Int} (ho:On3 A A' w.grs grs' w.now now') (hd:∀ n,A' j n≠none→A j n≠none):PG A' cs' grs' now' j q:=by
  have hg:=h.pes j q hq hj
  refine hg.on ho (fun n hn=>hg.w.dom n (hd n hn)) fun q0 c hc'=>hc _ c ?_ hc'
  by_cases e:p.conn=0
  ·exact .inr e
  ·refine .inl (Zxa hp0 hg.w.pos e q0 fun e2=>hj (h.uniq j i q p hq hp e2.symm q0))
theorem GX.cut {i:Nat} (h:GX A w i) (t:0≤w.now∧w.now≤1152921504606846976) (hi:∀ p,w.pes[i]?=some p→PT w.now p∧PW A w.grs w.now i p∧(p.conn=0→PG A w.cs w.grs w.now i p)):GI A (w.cut i):=by
  unfold Cu.cut
  split
  ·rename_i e
   exact h.all fun p hp=>by rw [e] at hp;cases hp
  ·rename_i p hp
   obtain ⟨ht,hw,h0⟩:=hi p hp
   split
   ·rename_i e
    exact h.all fun q hq=>by rw [hp] at hq;cases Option.some.inj hq;exact h0 e
   ·rename_i e
    refine ⟨fun j q hq=>?_,Zee h.uniq hp (.inr rfl)⟩
    rcases Xm hq with ⟨rfl,rfl,_⟩ | ⟨hj,hq⟩
    ·by_cases hu:p.cl.up=true
     ·have hz:=Zh7 t ht.last
      rw [if_pos hu]
      exact ⟨hw.cg (Zxb _ _ _) (Int.le_refl 0) none,fun _=>Zt8 hz hu,fun q=>(q rfl).elim⟩
     ·rw [if_neg hu]
      refine ⟨hw.cg (CG.refl _ _) (Int.le_refl 0) none,fun _=>?_,fun q=>(q rfl).elim⟩
      rcases ht.up e with q | ⟨q1,q2⟩
      ·exact (hu q).elim
      ·exact ⟨q1,q2,by simpa using hu⟩
    ·exact h.other hp hw.pos hq hj (fun m c hm hc=>Zo2 (hm.resolve_right e) hc) (On3.refl _ _ _) fun n hn=>hn
theorem GI.cut (h:GI A w) (t:WT w) (i:Nat):GI A (w.cut i):=(h.x i).cut t.now fun p hp=>⟨t.pes i p hp,(h.pes i p hp).w,fun _=>h.pes i p hp⟩
theorem GI.sends (h:GI A w) (t:WT w) (i:Nat):GI A (w.sends i):=by
  unfold Cu.sends
  split
  ·exact h
  rename_i p hp
  have hg:=h.pes i p hp
  split
  ·exact h
  rename_i e0
  split
  ·exact h
  split
  ·rename_i eo
   refine ⟨fun j q hq=>?_,Zee h.uniq hp (.inl rfl)⟩
   rcases Xm hq with ⟨rfl,rfl,_⟩ | ⟨hj,hq⟩
   ·have:({ p with cl:={ p.cl with out:=[]}}:Pe)=p:=by
      rw [← eo]
    rw [this]
    exact hg
   ·exact h.pes j q hq
  obtain ⟨c,LL,AA,st,hl⟩:=hg.ln e0
  have hk:1≤p.conn:=by have:=hg.w.pos;omega
  have hw':PW A w.grs w.now i { p with cl:={ p.cl with out:=[]}}:=hg.w.cg (c':={ p.cl with out:=[]}) ((CG.refl _ _).as rfl rfl rfl) hg.w.pos p.rd
  rcases Zvb hk hl.at_ hl.brk (j:=0) (by decide) p.cl.out with ⟨q1,q2⟩ | ⟨q1,q2⟩
  ·have q1:(St.wrS w.cs p.conn 0 p.cl.out).1=0:=q1
   have q2:(St.wrS w.cs p.conn 0 p.cl.out).2=_:=q2
   rw [if_pos q1,q2]
   refine ⟨fun j q hq=>?_,Zee h.uniq hp (.inl rfl)⟩
   rcases Xm hq with ⟨rfl,rfl,_⟩ | ⟨hj,hq⟩
   ·refine ⟨hw',fun e=>(e0 e).elim,fun _=>⟨_,LL,AA,st,List.getElem?_set_self (Xk hl.at_),hl.brk,hl.rd,hl.req,?_,hl.ans,hl.back⟩⟩
    have:=hl.go
    show st++((c.s0.way++p.cl.out)++[])=fr LL
    rw [List.append_nil]
    exact this
   ·exact (h.x i).other hp hg.w.pos hq hj (fun m d hm hd=>Zmf (hm.resolve_right e0) hd) (On3.refl _ _ _) fun n hn=>hn
  ·have q1:¬ (St.wrS w.cs p.conn 0 p.cl.out).1=0:=q1
   have q2:(St.wrS w.cs p.conn 0 p.cl.out).2=_:=q2
   rw [if_neg q1,q2]
   refine GX.cut (w:={ w with pes:=w.pes.set i { p with cl:={ p.cl with out:=[]}}}) ⟨fun j q hq hj=>?_,Zee h.uniq hp (.inl rfl)⟩ t.now fun q hq=>?_
   ·rcases Xm hq with ⟨rfl,_,_⟩ | ⟨_,hq⟩
    ·exact (hj rfl).elim
    ·exact h.pes j q hq
   ·rcases Xm hq with ⟨_,rfl,_⟩ | ⟨hj,_⟩
    ·have:=t.pes i p hp
     exact ⟨⟨this.asc,this.last,fun e=>(this.up e).imp id fun x=>⟨rfl,x.2⟩,this.br⟩,hw',fun e=>(e0 e).elim⟩
    ·exact (hj rfl).elim
theorem GI.own (h:GI A w) {i:Nat} {p:Pe} (hp:w.pes[i]?=some p) {c':Cl} (hc:CG (Zpb A w.grs w.now i) p.cl c') (h1:c'.out=p.cl.out) (h2:c'.rb=p.cl.rb) (h3:c'.up=p.cl.up):GI A (w.setP i { p with cl:=c' }):=by
  have hg:=h.pes i p hp
  refine ⟨fun j q hq=>?_,Zee h.uniq hp (.inl rfl)⟩
  rcases Xm hq with ⟨rfl,rfl,_⟩ | ⟨hj,hq⟩
  ·refine ⟨hg.w.cg hc hg.w.pos p.rd,fun e=>?_,fun e=>?_⟩
   ·show c'.out=[]∧c'.rb=[]∧c'.up=false
    rw [h1,h2,h3]
    exact hg.off e
   ·obtain ⟨c,LL,AA,st,hl⟩:=hg.ln e
    exact ⟨c,LL,AA,st,hl.at_,hl.brk,hl.rd,hl.req,by show st++(c.s0.way++c'.out)=_;rw [h1];exact hl.go,hl.ans,by show c'.rb++_=_;rw [h2];exact hl.back⟩
  ·exact h.pes j q hq
theorem GI.tick (h:GI A w) (t:WT w) {at_:Int} (he:w.tickE at_=0):GI A (Cu.tickA { w with now:=at_ }):=by
  have hle:w.now≤at_:=by
    unfold Cu.tickE at he
    split at he
    ·cases he
    ·split at he
     ·cases he
     ·split at he
      ·cases he
      ·omega
  have ho:On3 A A w.grs w.grs w.now at_:=⟨fun _ _ _ q=>q,fun _ q=>q,hle,rfl⟩
  have key:∀ (i:Nat) (q:Pe),(Cu.tickA { w with now:=at_ }).pes[i]?=some q→∃ p,w.pes[i]?=some p∧q=p.atP at_:=fun i q hq=>by
    have hq:(w.pes.mapIdx fun j p=>if j<w.pes.length then p.atP at_ else p)[i]?=some q:=hq
    rw [List.getElem?_mapIdx] at hq
    cases hp:w.pes[i]? with
    | none=>rw [hp] at hq;cases hq
    | some p =>
      rw [hp] at hq
      simp only [Option.map_some,if_pos (Xk hp),Option.some.injEq] at hq
      exact ⟨p,rfl,hq.symm⟩
  refine ⟨fun i q hq=>?_,fun i j p q hp hq=>?_⟩
  ·obtain ⟨p,hp,rfl⟩:=key i q hq
   have hg:=(h.pes i p hp).on (cs':=w.cs) ho (h.pes i p hp).w.dom fun _ _ q=>q
   obtain ⟨r1,r2,r3,_⟩:=Zoe p.cl at_
   refine ⟨hg.w.cg (ZoZ _ _ at_) hg.w.pos p.rd,fun e=>?_,fun e=>?_⟩
   ·show (p.cl.atS at_).out=[]∧(p.cl.atS at_).rb=[]∧(p.cl.atS at_).up=false
    rw [r1,r2,r3]
    exact hg.off e
   ·obtain ⟨c,LL,AA,st,hl⟩:=hg.ln e
    exact ⟨c,LL,AA,st,hl.at_,hl.brk,hl.rd,hl.req,by show st++(c.s0.way++(p.cl.atS at_).out)=_;rw [r1];exact hl.go,hl.ans,by show (p.cl.atS at_).rb++_=_;rw [r2];exact hl.back⟩
  ·obtain ⟨p',hp',rfl⟩:=key i p hp
   obtain ⟨q',hq',rfl⟩:=key j q hq
   exact h.uniq i j p' q' hp' hq'
end
def upA (A:Zbl) (k n:Int) (r:Rq):Zbl:=⟨fun a b=>if a=k∧b=n then some r else A a b,A.d⟩
theorem Zvx (a b:List (List UInt8)):fr (a++b)=fr a++fr b:=by unfold fr;rw [List.flatMap_append]
theorem Zo7 {r:Rq} {P:List UInt8→Prop} (h:XA r=true→P (Ze7 r)):∃ L:List (List UInt8),Zoh [r]=fr L∧∀ x,x∈L→P x:=by
  unfold Zoh
  split
  ·rename_i h1
   refine ⟨[Ze7 r],rfl,fun x hx=>?_⟩
   simp only [List.mem_cons,List.not_mem_nil,or_false] at hx
   subst hx
   refine h ?_
   simpa [Zm2] using h1
  ·exact ⟨[],rfl,fun x hx=>by cases hx⟩
section
variable {A:Zbl} {w:Cu}
theorem GI.ask {tmo:Int} {m:Nat} (h:GI A w) (hC:ZaT tmo w m) (hm:m≤1000) {i:Nat} {p:Pe} (hp:w.pes[i]?=some p) (r:Rq) :
    GI (if (p.cl.askR w.now r).1.2.2=0∧(p.cl.askR w.now r).1.2.1=false then upA A i (p.cl.askR w.now r).1.1 (ZfT r (p.cl.askR w.now r).1.1) else A) (w.askR i r).2:=by
  have hP:=hC.pes i p hp
  have hz:=Zh7 hC.now hP.last
  have hg:=h.pes i p hp
  obtain ⟨k1,k2⟩:=Zvu p.cl w.now r
  have hW:ZaT tmo (w.setP i { p with cl:=(p.cl.askR w.now r).2 }) (m+1):=(hC.mono (Nat.le_succ m)).set (i:=i) ⟨hP.cl.ask hm w.now r,k1.2 hP.last,k1.1.trans hP.tmo,hP.rd,hP.no,fun hc=>k2.trans (hP.up hc)⟩
  unfold Cu.askR
  rw [hp]
  refine GI.sends (w:=w.setP i { p with cl:=(p.cl.askR w.now r).2 }) ?_ hW.wt i
  clear hW k1 k2
  unfold Cl.askR
  rw [if_pos hz]
  split
  case isFalse=>rw [if_neg (fun e=>by cases e.1)];exact h.own hp (ZeC _ _ _) rfl rfl rfl
  rename_i hr
  split
  case isFalse=>rw [if_neg (fun e=>by cases e.2)];exact h.own hp (ZeC _ _ _) rfl rfl rfl
  rename_i hu
  rw [if_pos ⟨rfl,rfl⟩]
  dsimp only
  have ho:On3 A (upA A i p.cl.next (ZfT r p.cl.next)) w.grs w.grs w.now w.now:=⟨fun a b x hx=>by
    unfold upA
    dsimp only
    rw [if_neg]
    ·exact hx
    ·rintro ⟨rfl,rfl⟩
     have:=hg.w.dom _ (fun e=>by rw [hx] at e;cases e)
     omega,fun _ q=>q,Int.le_refl _,rfl⟩
  have hc0:p.conn≠0:=fun e=>by have:=(hg.off e).2.2;rw [hu.1] at this;cases this
  refine ⟨fun j q hq=>?_,Zee h.uniq hp (.inl rfl)⟩
  rcases Xm hq with ⟨rfl,rfl,_⟩ | ⟨hj,hq⟩
  ·have ht:=ZeC (Zpb A w.grs w.now j) p.cl w.now
   have hi:(Zjm { p.cl.tick w.now with next:=p.cl.next+1,waits:=(p.cl.tick w.now).waits++[(p.cl.next,w.now)],out:=p.cl.out++Zoh [ZfT r p.cl.next]}).Perm (p.cl.next::Zjm p.cl):=by
     show (((p.cl.tick w.now).waits++[(p.cl.next,w.now)]).map (·.1)++(p.cl.tick w.now).told.map (·.id)).Perm _
     rw [List.map_append,List.append_assoc]
     exact List.perm_middle.trans ((ht.ids).cons _)
   refine ⟨⟨?_,fun n hn=>?_,fun n hn=>?_,fun t ht' hf=>?_,hg.w.pos,fun n hn=>?_⟩,fun e=>(hc0 e).elim,fun _=>?_⟩
   ·rw [hi.nodup_iff,List.nodup_cons]
    exact ⟨fun e=>by have:=hg.w.ids _ e;omega,hg.w.nd⟩
   ·have hn:n=p.cl.next∨n∈Zjm p.cl:=by simpa using hi.mem_iff.1 hn
    have hnx:=hP.cl.w.next
    show 1≤n∧n<p.cl.next+1
    rcases hn with rfl | hn
    ·omega
    ·have:=hg.w.ids n hn;omega
   ·show n<p.cl.next+1
    unfold upA at hn
    dsimp only at hn
    split at hn
    ·rename_i e;omega
    ·have:=hg.w.dom n hn;omega
   ·rcases ht.told t ht' with q | q | q
    ·exact ⟨(hg.w.told t q hf).1,(hg.w.told t q hf).2.on ho⟩
    ·rw [hf] at q;cases q
    ·exact ⟨q.1,q.2.on ho⟩
   ·have:=hg.w.dn n hn
    refine ⟨by show n<p.cl.next+1;omega,fun e=>?_⟩
    have e:n=p.cl.next∨n∈Zjm p.cl:=by simpa using hi.mem_iff.1 e
    rcases e with rfl | e
    ·omega
    ·exact this.2 e
   ·obtain ⟨c,LL,AA,st,hl⟩:=hg.ln hc0
    obtain ⟨L,hL1,hL2⟩:=Zo7 (r:=ZfT r p.cl.next) (P:=Ztg (upA A j p.cl.next (ZfT r p.cl.next)) j) fun hb=>⟨_,hb,rfl,.inr ⟨hr.2,by show upA A j p.cl.next (ZfT r p.cl.next) j p.cl.next=_;unfold upA;dsimp only;exact if_pos ⟨rfl,rfl⟩⟩⟩
    refine ⟨c,LL++L,AA,st,hl.at_,hl.brk,hl.rd,fun x hx=>?_,?_,fun x hx=>(hl.ans x hx).on ho,hl.back⟩
    ·rcases List.mem_append.1 hx with hx | hx
     ·exact (hl.req x hx).on ho
     ·exact hL2 x hx
    ·show st++(c.s0.way++(p.cl.out++Zoh [ZfT r p.cl.next]))=_
     rw [Zvx,← hl.go,hL1]
     simp only [List.append_assoc]
  ·exact (h.pes j q hq).on ho (fun n hn=>by
     refine (h.pes j q hq).w.dom n ?_
     unfold upA at hn
     dsimp only at hn
     rw [if_neg (fun e=>hj (by have:=e.1;omega))] at hn
     exact hn) fun _ _ q=>q
theorem ZzH {ps:Int→Bool} {cs:List St.Cn} {port:Int} (h:(St.diS ps cs port).1.2=0):(St.diS ps cs port).1.1=(cs.length:Int)+1∧(St.diS ps cs port).2=cs++[St.Zje port]:=by
  unfold St.diS at h ⊢
  split at h
  ·cases h
  ·split at h
   ·cases h
   ·split at h
    ·cases h
    ·rename_i h1 h2 h3
     rw [if_neg h1,if_neg h2,if_neg h3]
     exact ⟨rfl,rfl⟩
theorem Zlw {ps:Int→Bool} {cs:List St.Cn} {port:Int} {m:Nat} {c:St.Cn} (h:cs[m]?=some c):(St.diS ps cs port).2[m]?=some c:=by
  unfold St.diS
  split
  ·exact h
  ·split
   ·exact h
   ·split
    ·exact h
    ·show (cs++[St.Zje port])[m]?=some c
     rw [List.getElem?_append_left (Xk h)]
     exact h
theorem Zur (w:Cu):(∀ (m:Nat) (c:St.Cn),w.cs[m]?=some c→w.conn1.2.cs[m]?=some c)∧(w.conn1.1≠0→w.conn1.1=(w.cs.length:Int)+1∧w.conn1.2.cs[w.cs.length]?=some (St.Zje 1)):=by
  unfold Cu.conn1
  split
  ·exact ⟨fun m c h=>h,fun e=>(e rfl).elim⟩
  ·split
   ·exact ⟨fun m c h=>Zlw h,fun e=>(e rfl).elim⟩
   ·rename_i e0
    have e0:(St.diS w.ps w.cs 1).1.2=0:=Classical.byContradiction e0
    obtain ⟨d1,d2⟩:=ZzH e0
    split
    ·refine ⟨fun m c h=>Zo2 ?_ (Zlw h),fun e=>(e rfl).elim⟩
     have:=Xk h
     rw [d1]
     omega
    ·refine ⟨fun m c h=>Zlw h,fun _=>⟨d1,?_⟩⟩
     show (St.diS w.ps w.cs 1).2[w.cs.length]?=_
     rw [d2,List.getElem?_append_right (Nat.le_refl _),Nat.sub_self]
     rfl
theorem GI.dial {tmo:Int} {m:Nat} (h:GI A w) (hC:ZaT tmo w m) (i:Nat):GI A (w.dialR i).2:=by
  unfold Cu.dialR
  split
  ·exact h
  rename_i p hp
  have hP:=hC.pes i p hp
  have hg:=h.pes i p hp
  have hz:=Zh7 hC.now hP.last
  split
  ·exact h
  rename_i hu
  have hu:p.cl.up=false:=by simpa using hu
  have hc0:p.conn=0:=Classical.byContradiction fun e=>by have:=hP.up e;rw [hu] at this;cases this
  obtain ⟨o1,o2,_⟩:=hg.off hc0
  obtain ⟨r1,r2,r3,r4,_⟩:=Zoe p.cl w.now
  have kA:=Zkv p.cl w.now
  have hzA:=Zh7 hC.now (kA.2 hP.last)
  split
  ·exact h.own hp (ZoZ _ _ _) r1 r2 r3
  obtain ⟨c1,c2⟩:=Zur w
  obtain ⟨p1,p2,_,p4,_⟩:=Zgl w
  have hp1:w.conn1.2.pes[i]?=some p:=by rw [p1];exact hp
  have hother:∀ j q,w.pes[j]?=some q→PG A w.conn1.2.cs w.conn1.2.grs w.conn1.2.now j q:=fun j q hq=>by
    rw [p2,p4]
    exact (h.pes j q hq).on (On3.refl _ _ _) (h.pes j q hq).w.dom fun _ c hc=>c1 _ c hc
  have h1:GI A w.conn1.2:=⟨fun j q hq=>hother j q (by rw [p1] at hq;exact hq),by rw [p1];exact h.uniq⟩
  split
  ·have hcg:CG (Zpb A w.conn1.2.grs w.conn1.2.now i) p.cl ((p.cl.atS w.now).refS w.now):=(ZoZ _ _ _).trans (ZzK _ _ _)
   obtain ⟨s1,s2,s3⟩:=ZwC (p.cl.atS w.now) w.now
   have:=h1.own hp1 hcg (s1.trans r1) (s2.trans r2) (s3.trans r3)
   rw [hc0] at this
   exact this
  ·rename_i hcn
   have hcn:w.conn1.1≠0:=hcn
   obtain ⟨d1,d2⟩:=c2 hcn
   have hup:(p.cl.atS w.now).upS w.now={ (p.cl.atS w.now).tick w.now with up:=true,backoff:=(p.cl.atS w.now).least,out:=(p.cl.atS w.now).out++Zoh [Zil (p.cl.atS w.now).name]}:=by
     unfold Cl.upS
     rw [if_pos hzA,if_neg (by rw [r3,hu];decide)]
   have hD:ZaT tmo (w.conn1.2.setP i ⟨(p.cl.atS w.now).upS w.now,w.conn1.1,some ([],false)⟩) (m+1):=by
     refine hC.conn1.set (i:=i) ⟨(hP.cl.atS w.now).upS w.now,?_,(Zuc _ _).1.trans (kA.1.trans hP.tmo),fun _=>⟨[],rfl,Nat.zero_le _⟩,fun e=>(hcn e).elim,fun _=>ZyX (kA.2 hP.last) hC.now⟩
     rw [p2]
     exact (Zuc _ _).2 (kA.2 hP.last)
   refine GI.sends (w:=w.conn1.2.setP i ⟨(p.cl.atS w.now).upS w.now,w.conn1.1,some ([],false)⟩) ?_ hD.wt i
   have hlow:∀ (j:Nat) (q:Pe),w.pes[j]?=some q→q.conn≠w.conn1.1:=fun j q hq e=>by
     have hgq:=h.pes j q hq
     obtain ⟨c,LL,AA,st,hl⟩:=hgq.ln (by rw [e];exact hcn)
     have:=Xk hl.at_
     rw [e,d1] at this
     omega
   refine ⟨fun j q hq=>?_,fun a b x y hx hy hxy hx0=>?_⟩
   ·rcases Xm hq with ⟨rfl,rfl,_⟩ | ⟨hj,hq⟩
    ·have hpw:PW A w.conn1.2.grs w.conn1.2.now j p:=(hother j p hp).w
     refine ⟨hpw.cg (c':=(p.cl.atS w.now).upS w.now) ((ZoZ _ _ _).trans (ZEJ _ _ _)) (by omega) _,fun e=>(hcn e).elim,fun _=>?_⟩
     obtain ⟨L,hL1,hL2⟩:=Zo7 (r:=Zil (p.cl.atS w.now).name) (P:=Ztg A j) fun hb=>⟨_,hb,rfl,.inl ⟨rfl,rfl⟩⟩
     refine ⟨St.Zje 1,L,[],[],?_,rfl,rfl,hL2,?_,(fun x hx=>by cases hx),?_⟩
     ·show w.conn1.2.cs[(w.conn1.1 - 1).toNat]?=_
      have:(w.conn1.1 - 1).toNat=w.cs.length:=by rw [d1];omega
      rw [this]
      exact d2
     ·show []++([]++((p.cl.atS w.now).upS w.now).out)=fr L
      rw [hup]
      show []++([]++((p.cl.atS w.now).out++Zoh [Zil (p.cl.atS w.now).name]))=fr L
      rw [r1,o1,hL1]
      rfl
     ·show ((p.cl.atS w.now).upS w.now).rb++[]=fr []
      rw [hup]
      show (p.cl.atS w.now).rb++[]=fr []
      rw [r2,o2]
      rfl
    ·rw [p1] at hq
     exact hother j q hq
   ·rcases Xm hx with ⟨ea,ex,_⟩ | ⟨ha,hx2⟩
    ·rcases Xm hy with ⟨eb,ey,_⟩ | ⟨hb,hy2⟩
     ·omega
     ·rw [p1] at hy2
      rw [ex] at hxy
      exact (hlow b y hy2 hxy.symm).elim
    ·rw [p1] at hx2
     rcases Xm hy with ⟨eb,ey,_⟩ | ⟨hb,hy2⟩
     ·rw [ey] at hxy
      exact (hlow a x hx2 hxy).elim
     ·rw [p1] at hy2
      exact h.uniq a b x y hx2 hy2 hxy hx0
end
end Go.Proofs.YtbppjmcinoffnaaGreat
