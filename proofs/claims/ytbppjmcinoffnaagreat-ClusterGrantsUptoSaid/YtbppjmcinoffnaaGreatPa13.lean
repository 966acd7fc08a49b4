/- The sketch: a key's columns, where buckets begin, sums, estimates. -/
import Derived.Test.YtbppjmcinoffnaaGreatPa12
set_option linter.unusedVariables false
set_option linter.unusedSimpArgs false
namespace Go.Proofs.YtbppjmcinoffnaaGreat.Tk
open Go Go.Fw
open Nat renaming reduceAdd→Nqa,reduceLT→Nqb,reduceLeDiff→Nqc,reduceEqDiff→Nqd,reduceMul→Nqe
theorem ZzN (s:ByteArray) (i:Nat):s[i]?=s.data.toList[i]?:=by
  have hs:s.size=s.data.size:=rfl
  by_cases h:i<s.size
  ·rw [getElem?_pos s i h,List.getElem?_eq_getElem (by simp;exact h)]
   rfl
  ·rw [getElem?_neg s i h,List.getElem?_eq_none (by simp;omega)]
def ZzD (h:Int) (b:UInt8):Int:=IntKind.wrap .u64 ((Ztv .u64 h (IntKind.wrap .u64 (b.toNat:Int)))*1099511628211)
def ZwY (k:ByteArray):Int:=k.data.toList.foldl ZzD 14695981039346656037
theorem Zs8 {k:ByteArray} (hs:k.size<9223372036854775808) {K:Int→Zb→Prop} {h:Zb} (hk:K (ZwY k) h):Zdq k K h:=by
  unfold Zdq ZfC
  rw [Y9,Y9]
  have hl:k.data.toList.length=k.size:=by simp
  refine Zds (fun st hh=>∃ i:Nat,st=((k.data.toList.take i).foldl ZzD 14695981039346656037,(i:Int),())∧i≤k.size∧hh=h) (fun st _=>(k.size - st.2.1).toNat) ⟨0,rfl,by omega,rfl⟩ ?_
  rintro _ _ ⟨i,rfl,hi,rfl⟩ Q hQ
  dsimp only
  refine Zj (fun q=>?_) fun q=>?_
  ·rw [Y9]
   obtain ⟨b,hb⟩:∃ b,k.data.toList[i]?=some b:=⟨_,List.getElem?_eq_getElem (by omega)⟩
   refine ⟨b,by omega,by rw [ZzN];exact hb,?_⟩
   dsimp only
   rw [Y9]
   have hwr:IntKind.wrap .i64 ((i:Int)+1)=((i+1:Nat):Int):=by rw [ZR (by omega) (by omega)];rfl
   refine hQ _ _ ⟨i+1,?_,by omega,rfl⟩ (by rw [hwr];dsimp only;omega)
   rw [hwr,List.take_add_one,hb,List.foldl_append]
   rfl
  ·rw [Y9,List.take_of_length_le (by omega)]
   exact hk
def Zy5 (x:Int):Int:=IntKind.wrap .u64 ((Ztv .u64 x (ZlM .u64 x 30))*13787848793156543929)
def Zy4 (x:Int):Int:=IntKind.wrap .u64 ((Ztv .u64 x (ZlM .u64 x 27))*10723151780598845931)
def Zy3 (x:Int):Int:=Ztv .u64 (Zy4 (Zy5 x)) (ZlM .u64 (Zy4 (Zy5 x)) 31)
theorem ZrC {x:Int} {K:Int→Zb→Prop} {h:Zb} (hk:K (Zy3 x) h):Zes x K h:=by
  unfold Zes ZgZ
  exact Za ⟨by decide,Za ⟨by decide,Za ⟨by decide,Za hk⟩⟩⟩
def Zn7 (seed row:Int) (key:ByteArray):Int:=IntKind.wrap .i64 (Int.tmod (Zy3 (IntKind.wrap .u64 ((IntKind.wrap .u64 (ZwY key+seed))+(IntKind.wrap .u64 ((11400714819323198485:Int)*(IntKind.wrap .u64 (IntKind.wrap .i64 (row+1)))))))) (IntKind.wrap .u64 256))
theorem ZjC {seed row:Int} {key:ByteArray} (hs:key.size<9223372036854775808) {K:Int→Zb→Prop} {h:Zb} (hk:∀ h',Ext h h'→sz h'=sz h+1→K (Zn7 seed row key) h'):YA (1000000,10,3,256,seed,()) row key K h:=by
  unfold YA Zb0
  rw [ZdM,Y9]
  refine ⟨(ZwY key,()),Zs8 hs ⟨rfl,rfl⟩,?_⟩
  simp (maxDischargeDepth:=60) only [Zs,Zr,evC,Nqa,Nqb,Nqc,Nqd,Nqe,reduceCtorEq]
  refine ⟨(_,()),ZrC ⟨rfl,rfl⟩,?_⟩
  simp (maxDischargeDepth:=60) only [Zs,Zr,evC,Nqa,Nqb,Nqc,Nqd,Nqe,reduceCtorEq]
  exact ⟨by decide,hk _ (Ext.push _ _) XB⟩
def bgn (at_:Int):Int:=at_ - at_ % 100000
theorem ZkJ {seed:Int} {at_:Int} (h0:0≤at_) (h1:at_≤1152921504606846976) {K:Int→Zb→Prop} {h:Zb} (hk:∀ h',Ext h h'→sz h'=sz h+1→K (bgn at_) h'):YZ (1000000,10,3,256,seed,()) at_ K h:=by
  unfold YZ Zcs
  have e1:(IntKind.wrap .i64 (Int.tdiv 1000000 10))=100000:=by decide
  have e2:IntKind.wrap .i64 (at_ - Int.tmod at_ 100000)=bgn at_:=by
    unfold bgn
    rw [Int.tmod_eq_emod_of_nonneg h0,ZR (by omega) (by omega)]
  simp (maxDischargeDepth:=60) only [Zs,Zr,evC,Nqa,Nqb,Nqc,Nqd,Nqe,reduceCtorEq,e1,e2]
  exact ⟨by decide,by decide,hk _ (Ext.push _ _) XB⟩
def spl (a b:Int):Int:=min (a+b) 4611686018427387904
theorem ZhJ {a b:Int} (ha:0≤a∧a≤4611686018427387904) (hb:0≤b∧b≤4611686018427387904) {K:Int→Zb→Prop} {h:Zb} (hk:K (spl a b) h):Zak a b K h:=by
  unfold Zak ZfB
  unfold spl at hk
  rw [Y9,ZR (n:=4611686018427387904 - b) (by omega) (by omega)]
  refine Zj (fun q=>?_) fun q=>?_
  ·rw [Y9]
   rwa [show min (a+b) 4611686018427387904=4611686018427387904 from by omega] at hk
  ·rw [Y9,ZR (by omega) (by omega)]
   rwa [show min (a+b) 4611686018427387904=a+b from by omega] at hk
theorem Znu {a b:Int} (ha:0≤a∧a≤4611686018427387904) (hb:0≤b∧b≤4611686018427387904):0≤spl a b∧spl a b≤4611686018427387904:=by unfold spl;omega
theorem ZoA {h:Zb} {wb:Nat} {x0 x1 x2 x3 x4 x5:Value} {l:Int} {r:List Value} (hc:obj h wb=some (.cells (x0::x1::x2::x3::x4::x5::iv l::r).toArray 220 (0,0))) {at_:Int} {K:Int→Zb→Prop} (hk:K (Zao l at_) h):Y0 (some ⟨wb,0,none⟩) at_ K h:=by
  unfold Y0 Zct
  unfold Zao at hk
  simp (maxDischargeDepth:=60) only [Zs,Zr,evC,Nqa,Nqb,Nqc,Nqd,Nqe,reduceCtorEq,hc]
  refine Zj (fun q=>?_) fun q=>Zj (fun q2=>?_) fun q2=>Zj (fun q3=>?_) fun q3=>?_
  ·rw [if_pos q] at hk;exact hk
  ·rw [if_neg q,if_pos q2] at hk;exact hk
  ·rw [if_neg q,if_neg q2,if_pos q3] at hk;exact hk
  ·rw [if_neg q,if_neg q2,if_neg q3] at hk;exact hk
def Zpp (at_ r c:Int) (l:List Bk):Int:=l.foldl (fun n b=>if b.at_>bgn at_ - 1000000 then spl n (b.n r c) else n) 0
theorem Zrv (at_ r c:Int) (l:List Bk) (b:Bk):Zpp at_ r c (l++[b])=if b.at_>bgn at_ - 1000000 then spl (Zpp at_ r c l) (b.n r c) else Zpp at_ r c l:=by unfold Zpp;rw [List.foldl_append];rfl
theorem ZtD (at_ r c:Int) (l:List Bk) (hl:∀ b,b∈l→b.OK):0≤Zpp at_ r c l∧Zpp at_ r c l≤4611686018427387904:=by
  unfold Zpp
  suffices ∀ n:Int,0≤n∧n≤4611686018427387904→0≤l.foldl (fun n b=>if b.at_>bgn at_ - 1000000 then spl n (b.n r c) else n) n∧l.foldl (fun n b=>if b.at_>bgn at_ - 1000000 then spl n (b.n r c) else n) n≤4611686018427387904 from this 0 (by omega)
  induction l with
  | nil=>exact fun n hn=>hn
  | cons b l ih =>
    intro n hn
    rw [List.foldl_cons]
    refine ih (fun b hb=>hl b (List.mem_cons_of_mem _ hb)) _ ?_
    split
    ·exact Znu hn ((hl b (List.mem_cons_self ..)).n r c)
    ·exact hn
def ZEG (s:Sk) (at_:Int) (key:ByteArray):Nat→Int
  | 0=>4611686018427387904
  | n+1=>Zjf (ZEG s at_ key n) (Zpp at_ n (Zn7 s.seed n key) s.bs)
def Sk.est (s:Sk) (at_:Int) (key:ByteArray):Int:=ZEG s at_ key 3
theorem Zrx {h:Zb} {T:Nat→Option Nat} {id:Int} {wb:Nat} {sl:Sl} {lb:List B3} {s:Sk} (hs:SkR h T id wb sl lb s) {at_:Int} (h0:0≤at_) (h1:at_≤1152921504606846976) {cb:Nat} {r c:Int} (hc:obj h cb=some (.cells [iv r,iv c].toArray 328 (0,0)))
    {K:Int→Zb→Prop} (hk:∀ h',Ext h h'→K (Zpp at_ r c s.bs) h'):ZW (some ⟨wb,0,none⟩) at_ (some ⟨cb,0,none⟩,()) K h:=by
  unfold ZW Yz
  have lw:=ZS hs.cells
  have lc:=ZS hc
  have hrow:=hs.own.row
  have hlen:=Zas ZdV hrow (by decide)
  have hbig:=hrow.big
  have hcap:=hrow.cap
  have hlb:lb.length=s.bs.length:=by rw [← hs.bs,List.length_map]
  simp (maxDischargeDepth:=60) only [Zs,Zr,evC,Nqa,Nqb,Nqc,Nqd,Nqe,reduceCtorEq,hs.cells]
  refine Zds (fun st hh=>∃ i:Nat,st=(Zpp at_ r c (s.bs.take i),(i:Int),())∧i≤lb.length∧Ext h hh) (fun st _=>(sl.len - st.2.1).toNat) ⟨0,rfl,by omega,Ext.refl _⟩ ?_
  rintro _ hh ⟨i,rfl,hi,he⟩ Q hQ
  dsimp only
  refine Zj (fun q=>?_) fun q=>?_
  ·obtain ⟨x,hx⟩:∃ x,lb[i]?=some x:=⟨_,List.getElem?_eq_getElem (by omega)⟩
   have hsh:=hs.ext he
   have hbx:s.bs[i]?=some x.1:=by rw [← hs.bs,List.getElem?_map,hx];rfl
   obtain ⟨b,o,hb,_,hidx,hcell⟩:=ZaI ZdV (hrow.ext he) hx (by decide)
   have v0:=hcell 0 _ rfl
   have v1:=hcell 1 _ rfl
   have v2:=hcell 2 _ rfl
   simp only [Nat.add_zero] at v0
   refine hidx rfl ?_
   have e2:Ext hh (Zb.puts (hh.push (.cells [iv 0,iv 0,.map none].toArray 326 (0,0))) (sz hh) 0 [iv x.1.at_,iv x.1.total,.map (some x.2)]):=Z3 (ZO (Ext.refl _)) (Nat.le_refl _)
   have a2:obj (Zb.puts (hh.push (.cells [iv 0,iv 0,.map none].toArray 326 (0,0))) (sz hh) 0 [iv x.1.at_,iv x.1.total,.map (some x.2)]) (sz hh)=some (.cells [iv x.1.at_,iv x.1.total,.map (some x.2)].toArray 326 (0,0)):=by simp (maxDischargeDepth:=60) only [Zs,Zr,evC,Nqa,Nqb,Nqc,Nqd,Nqe,reduceCtorEq]
   have cw:=hsh.cells
   have lw2:=ZS cw
   simp (maxDischargeDepth:=60) only [Zs,Zr,evC,Nqa,Nqb,Nqc,Nqd,Nqe,reduceCtorEq,v0,v1,v2,cw,YH lw2]
   generalize Zb.puts (hh.push (.cells [iv 0,iv 0,.map none].toArray 326 (0,0))) (sz hh) 0 [iv x.1.at_,iv x.1.total,.map (some x.2)]=h2 at e2 a2 ⊢
   refine ZkJ h0 h1 fun h3 e3 z3=>?_
   have a3:=Yh a2 e3
   have hs3:=(hsh.ext e2).ext e3
   have c3:=hs3.cells
   have b3:0≤bgn at_∧bgn at_≤at_:=by unfold bgn;omega
   have hwr:IntKind.wrap .i64 ((i:Int)+1)=((i+1:Nat):Int):=by rw [ZR (by omega) (by omega)];rfl
   have st:Zpp at_ r c (s.bs.take (i+1))=if x.1.at_>bgn at_ - 1000000 then spl (Zpp at_ r c (s.bs.take i)) (x.1.n r c) else Zpp at_ r c (s.bs.take i):=by
     rw [List.take_add_one,hbx]
     exact Zrv _ _ _ _ _
   simp (maxDischargeDepth:=60) only [Zs,Zr,evC,Nqa,Nqb,Nqc,Nqd,Nqe,reduceCtorEq,a3,c3,hwr,ZR (n:=bgn at_ - 1000000) (by omega) (by omega)]
   have hcc:obj h3 cb=some (.cells [iv r,iv c].toArray 328 (0,0)):=Yh (Yh (Yh hc he) e2) e3
   have lcc:=ZS hcc
   have la3:=ZS a3
   refine Zj (fun q2=>?_) fun q2=>?_
   ·unfold XD ZaH
    have hm:=((hs3.maps x (List.mem_of_getElem? hx)).1).congr (h':=h3.push (.cells [iv x.1.at_,iv x.1.total,.map (some x.2)].toArray 326 (0,0))) (Zfs (hs3.maps x (List.mem_of_getElem? hx)).1.lt)
    simp (maxDischargeDepth:=60) only [Zs,Zr,evC,Nqa,Nqb,Nqc,Nqd,Nqe,reduceCtorEq,hcc,YH lcc]
    have okx:=(hs.ok.bs x.1 (by rw [← hs.bs];exact List.mem_map_of_mem (List.mem_of_getElem? hx))).1
    refine hm.get r c (ZhJ (ZtD _ _ _ _ fun b hb=>(hs.ok.bs b (List.mem_of_mem_take hb)).1) (okx.n r c) ?_)
    refine hQ _ _ ⟨i+1,?_,by omega,ZO ((he.trans e2).trans e3)⟩ (by dsimp only;omega)
    rw [st,if_pos q2]
   ·refine hQ _ _ ⟨i+1,?_,by omega,(he.trans e2).trans e3⟩ (by dsimp only;omega)
    rw [st,if_neg q2]
  ·rw [List.take_of_length_le (by omega)]
   exact hk hh he
theorem ZrB {h:Zb} {T:Nat→Option Nat} {id:Int} {wb:Nat} {sl:Sl} {lb:List B3} {s:Sk} (hs:SkR h T id wb sl lb s) {at_:Int} (h0:0≤at_) (h1:at_≤1152921504606846976) {key:ByteArray} (hkey:key.size<9223372036854775808)
    {K:Int→Zb→Prop} (hk:∀ h',Ext h h'→K (s.est at_ key) h'):Xe (some ⟨wb,0,none⟩) at_ key K h:=by
  unfold Xe Zbe
  simp (maxDischargeDepth:=60) only [Zs,Zr,evC,Nqa,Nqb,Nqc,Nqd,Nqe,reduceCtorEq,hs.cells]
  refine Zds (fun st hh=>∃ i:Nat,st=(ZEG s at_ key i,(i:Int),())∧i≤3∧Ext h hh) (fun st _=>(3 - st.2.1).toNat) ⟨0,rfl,by omega,Ext.refl _⟩ ?_
  rintro _ hh ⟨i,rfl,hi,he⟩ Q hQ
  dsimp only
  refine Zj (fun q=>?_) fun q=>?_
  ·have hsh:=hs.ext he
   have cw:=hsh.cells
   simp (maxDischargeDepth:=60) only [Zs,Zr,evC,Nqa,Nqb,Nqc,Nqd,Nqe,reduceCtorEq,cw]
   refine ZjC hkey fun h2 e2 z2=>?_
   have hs2:=hsh.ext e2
   have e3:Ext h2 (Zb.puts (h2.push (.cells [iv 0,iv 0].toArray 328 (0,0))) (sz h2) 0 [iv i,iv (Zn7 s.seed i key)]):=Z3 (ZO (Ext.refl _)) (Nat.le_refl _)
   have a3:obj (Zb.puts (h2.push (.cells [iv 0,iv 0].toArray 328 (0,0))) (sz h2) 0 [iv i,iv (Zn7 s.seed i key)]) (sz h2)=some (.cells [iv i,iv (Zn7 s.seed i key)].toArray 328 (0,0)):=by simp (maxDischargeDepth:=60) only [Zs,Zr,evC,Nqa,Nqb,Nqc,Nqd,Nqe,reduceCtorEq]
   generalize Zb.puts (h2.push (.cells [iv 0,iv 0].toArray 328 (0,0))) (sz h2) 0 [iv i,iv (Zn7 s.seed i key)]=h3 at e3 a3 ⊢
   have hwr:IntKind.wrap .i64 ((i:Int)+1)=((i+1:Nat):Int):=by rw [ZR (by omega) (by omega)];rfl
   refine Zrx (hs2.ext e3) h0 h1 a3 fun h4 e4=>?_
   rw [hwr]
   exact hQ _ _ ⟨i+1,rfl,by omega,((he.trans e2).trans e3).trans e4⟩ (by dsimp only;omega)
  ·have:i=3:=by omega
   subst this
   exact hk hh he
def Sk.used (s:Sk) (at_:Int) (key:ByteArray):Int:=if Zao s.last at_=0 then s.est at_ key else 0
theorem ZjS {h:Zb} {T:Nat→Option Nat} {id:Int} {wb:Nat} {sl:Sl} {lb:List B3} {s:Sk} (hs:SkR h T id wb sl lb s) {at_:Int} {key:ByteArray} (hkey:key.size<9223372036854775808) {K:Int→Zb→Prop} (hk:∀ h',Ext h h'→K (s.used at_ key) h'):ZaM (some ⟨wb,0,none⟩,()) at_ key K h:=by
  unfold ZaM Zdv X3 Zbf
  have e1:Ext h (h.push (.cells [Value.pointer (some ⟨wb,0,none⟩)].toArray 190 (0,0))):=Ext.push _ _
  have hs1:=hs.ext e1
  simp (maxDischargeDepth:=60) only [Zs,Zr,evC,Nqa,Nqb,Nqc,Nqd,Nqe,reduceCtorEq]
  refine ZoA hs1.cells ?_
  unfold Sk.used at hk
  rcases Decidable.em (Zao s.last at_=0) with q | q
  ·rw [q]
   rw [if_pos q] at hk
   obtain ⟨a0,a1,a2⟩:=Ze5 q
   exact XE (by decide) (ZrB hs1 a0 a1 hkey fun h' e'=>hk h' (e1.trans e'))
  ·rw [if_neg q] at hk
   exact ZaS (by simpa using q) (hk _ e1)
theorem Zt {h:Zb} {b o:Nat} {l:List Value} {e:TypeId} {f:Nat × Nat} {v:Value} (hb:obj h b=some (.cells l.toArray e f)) (hv:l[o]?=some v):ZL o (obj h b)=some v:=by rw [hb,Zhg];exact hv
theorem rI {h:Zb} {b o:Nat} {k:IntKind} {n:Int} {K:Int→Prop} (hc:ZL o (obj h b)=some (.int k n)) (hk:K n):ldI h b o k K:=by rw [Zzx hc];exact hk
theorem rP {h:Zb} {b o:Nat} {n:Option Addr} {K:Option Addr→Prop} (hc:ZL o (obj h b)=some (.pointer n)) (hk:K n):ldP h b o K:=by rw [Zzu hc];exact hk
theorem rM {h:Zb} {b o:Nat} {n:Option Nat} {K:Option Nat→Prop} (hc:ZL o (obj h b)=some (.map n)) (hk:K n):ldM h b o K:=by rw [Zsa hc];exact hk
theorem rL {h:Zb} {b o:Nat} {s:Sl} {K:Sl→Prop} (hc:ZL o (obj h b)=some (slV s)) (hk:K s):ldL h b o K:=by cases s;exact (Zvr hc).mpr hk
theorem ZhD {h:Zb} {b o:Nat} {v:Value} {K:Zb→Prop} {l:List Value} {e:TypeId} (hb:obj h b=some (.cells l.toArray e (0,0))) (ho:o<l.length) (hv:Zv v=true)
    (hk:∀ h',obj h' b=some (.cells (l.set o v).toArray e (0,0))→Upd (· = b) h h'→sz h'=sz h→K h'):st h b o v K:=by
  refine Zig hb (by simpa using ho) hv fun h' c u z=>hk h' ?_ u z
  rw [show obj h' b=h'[b]? from rfl,c]
  simp
theorem ZmM {α:Type} {g:α→List Value} {n:Nat} (hg:∀ a,(g a).length=n):∀ (l:List α) (i:Nat) (a a':α) (j:Nat) (v:Value),l[i]?=some a→j<n→g a'=(g a).set j v→(l.flatMap g).set (i*n+j) v=(l.set i a').flatMap g
  | [],i,a,a',j,v,hi,_,_=>by simp at hi
  | x::l,0,a,a',j,v,hi,hj,he=>by
    simp at hi
    subst hi
    rw [List.set_cons_zero,List.flatMap_cons,List.flatMap_cons,List.set_append,if_pos (by rw [hg];omega),Nat.zero_mul,Nat.zero_add,he]
  | x::l,i+1,a,a',j,v,hi,hj,he=>by
    rw [List.set_cons_succ,List.flatMap_cons,List.flatMap_cons,List.set_append,if_neg (by rw [hg,Nat.succ_mul];omega),← ZmM hg l i a a' j v (by simpa using hi) hj he]
    congr 2
    rw [hg,Nat.succ_mul]
    omega
theorem XC {α:Type} {g:α→List Value} {n:Nat} (hg:∀ a,(g a).length=n) {h:Zb} {base:Nat} {s:Sl} {l:List α} (ho:Own h base s n (l.flatMap g)) {i:Nat} {a a':α} (hi:l[i]?=some a) {j:Nat} (hj:j<n) {v:Value} (hv:g a'=(g a).set j v) (hone:Zv v=true) {b:Nat} (hb:s.blk=some b) {o:Nat} (hoo:o=i*n+j) {K:Zb→Prop}
    (hk:∀ h',Own h' base s n ((l.set i a').flatMap g)→Upd (fun k=>s.blk=some k) h h'→sz h'=sz h→K h'):st h b o v K:=by
  subst hoo
  have hil:=Xk hi
  have hle:i*n+n≤l.length*n:=by rw [← Nat.succ_mul];exact Nat.mul_le_mul_right _ hil
  have hfl:=Z7 hg l
  obtain ⟨h1,h2,h3⟩:=ZiB ho hb (o:=i*n+j) (ws:=[v]) (by rw [hfl];simp only [List.length_cons,List.length_nil];omega) (by simp [hone]) (K:=K) fun h' ho' hu hz=>hk h' (by
    rw [← ZmM hg l i a a' j v hi hj hv,List.set_eq_take_append_cons_drop,if_pos (by rw [hfl];omega)]
    simpa using ho') hu hz
  exact ⟨h1.1.1,h1.1.2,hone,h3⟩
theorem ZiA {α:Type} {l:List α} {i:Nat} {a:α} (h:l[i]?=some a):l.set i a=l:=by
  apply List.ext_getElem?
  intro j
  rw [List.getElem?_set]
  split
  ·rename_i e
   subst e
   rw [if_pos (Xk h),h]
  ·rfl
theorem Sk.OK.set {s:Sk} (ok:s.OK) {i:Nat} {b b':Bk} (hi:s.bs[i]?=some b) (he:b'.at_=b.at_) (hb:b'.OK):Sk.OK ⟨s.seed,s.last,s.bs.set i b'⟩:=by
  refine ⟨ok.lo,ok.hi,fun x hx=>?_,?_,by show (s.bs.set i b').length≤12;rw [List.length_set];exact ok.few⟩
  ·rcases List.mem_or_eq_of_mem_set hx with hx | rfl
   ·exact ok.bs x hx
   ·exact ⟨hb,he▸(ok.bs b (List.mem_of_getElem? hi)).2⟩
  ·have h1:(s.bs.map (·.at_)).Pairwise (· < ·):=List.pairwise_map.2 ok.up
   have h2:((s.bs.set i b').map (·.at_)).Pairwise (· < ·):=by
     rw [List.map_set,he,ZiA (by rw [List.getElem?_map,hi];rfl)]
     exact h1
   exact List.pairwise_map.1 h2
theorem SkR.setTot {h:Zb} {T:Nat→Option Nat} {id:Int} {wb:Nat} {sl:Sl} {lb:List B3} {s:Sk} (hs:SkR h T id wb sl lb s) {i:Nat} {x:B3} (hi:lb[i]?=some x) {v:Int} (hv:0≤v∧v≤4611686018427387904) {b o:Nat} (hb:sl.blk=some b) (ho:o=i*3) {K:Zb→Prop}
    (hk:∀ h',SkR h' T id wb sl (lb.set i (⟨x.1.at_,v,x.1.n⟩,x.2)) ⟨s.seed,s.last,s.bs.set i ⟨x.1.at_,v,x.1.n⟩⟩→Upd (fun k=>sl.blk=some k) h h'→sz h'=sz h→K h'):st h b (o+1) (iv v) K:=by
  have hbi:s.bs[i]?=some x.1:=by rw [← hs.bs,List.getElem?_map,hi];rfl
  have okx:=(hs.ok.bs x.1 (List.mem_of_getElem? hbi)).1
  refine XC ZdV hs.own hi (j:=1) (a':=(⟨x.1.at_,v,x.1.n⟩,x.2)) (by decide) rfl YW hb (by omega) fun h' ho' hu hz=>hk h' ⟨hs.ok.set hbi rfl ⟨okx.lo,okx.step,hv,okx.n⟩,?_,ho',?_,?_,fun y hy=>?_,hs.tw,hs.ts⟩ hu hz
  ·exact XM hs.cells hu fun e=>by
     have h1:=hs.ts _ e
     rw [hs.tw] at h1
     exact Ziq (by decide) (Option.some.inj h1)
  ·rw [List.map_set,hs.bs]
  ·rw [List.map_set,ZiA (by rw [List.getElem?_map,hi];rfl)]
   exact hs.nd
  ·have hold:∀ z:B3,z∈lb→ZlO h' z.2 z.1.n∧T z.2=some (tg id 2):=fun z hz=>by
     obtain ⟨m1,m2⟩:=hs.maps z hz
     refine ⟨m1.congr (hu.old _ m1.lt fun e=>?_),m2⟩
     have h1:=hs.ts _ e
     rw [m2] at h1
     exact Ziq (by decide) (Option.some.inj h1)
   rcases List.mem_or_eq_of_mem_set hy with hy | rfl
   ·exact hold y hy
   ·exact hold x (List.mem_of_getElem? hi)
theorem SkR.setMap {h:Zb} {T:Nat→Option Nat} {id:Int} {wb:Nat} {sl:Sl} {lb:List B3} {s:Sk} (hs:SkR h T id wb sl lb s) {i:Nat} {x:B3} (hi:lb[i]?=some x) {r c v:Int} (hv:0≤v∧v≤4611686018427387904) {K:Zb→Prop}
    (hk:∀ h',SkR h' T id wb sl (lb.set i (⟨x.1.at_,x.1.total,Zqd x.1.n r c v⟩,x.2)) ⟨s.seed,s.last,s.bs.set i ⟨x.1.at_,x.1.total,Zqd x.1.n r c v⟩⟩→Upd (· = x.2) h h'→sz h'=sz h→K h'):Zfu [(.int .i64),(.int .i64)] h (some x.2) [Value.int .i64 r,Value.int .i64 c] (Value.int .i64 v) K:=by
  have hbi:s.bs[i]?=some x.1:=by rw [← hs.bs,List.getElem?_map,hi];rfl
  have okx:=(hs.ok.bs x.1 (List.mem_of_getElem? hbi)).1
  obtain ⟨m1,m2⟩:=hs.maps x (List.mem_of_getElem? hi)
  refine m1.put r c v fun h' hm hu hz=>hk h' ⟨hs.ok.set hbi rfl ⟨okx.lo,okx.step,okx.total,fun r' c'=>?_⟩,?_,?_,?_,?_,fun y hy=>?_,hs.tw,hs.ts⟩ hu hz
  ·show 0≤(if r'=r∧c'=c then v else x.1.n r' c')∧(if r'=r∧c'=c then v else x.1.n r' c')≤4611686018427387904
   split
   ·exact hv
   ·exact okx.n r' c'
  ·exact XM hs.cells hu fun e=>by
     rw [← e,hs.tw] at m2
     exact Ziq (by decide) (Option.some.inj m2)
  ·have:(lb.set i ((⟨x.1.at_,x.1.total,Zqd x.1.n r c v⟩,x.2):B3)).flatMap b3L=lb.flatMap b3L:=by
     have h1:(lb.set i ((⟨x.1.at_,x.1.total,Zqd x.1.n r c v⟩,x.2):B3)).map b3L=lb.map b3L:=by
       rw [List.map_set,ZiA (by rw [List.getElem?_map,hi];rfl)]
     rw [List.flatMap_def,h1,← List.flatMap_def]
   rw [this]
   exact hs.own.congr fun b hb _ _=>hu.old b (hs.own.lt hb).2 fun e=>by
     have h1:=hs.ts _ hb
     rw [e,m2] at h1
     exact Ziq (by decide) (Option.some.inj h1)
  ·rw [List.map_set,hs.bs]
  ·rw [List.map_set,ZiA (by rw [List.getElem?_map,hi];rfl)]
   exact hs.nd
  ·obtain ⟨j,hj⟩:=List.getElem?_of_mem hy
   rw [List.getElem?_set] at hj
   split at hj
   ·split at hj
    ·cases hj
     exact ⟨hm,m2⟩
    ·cases hj
   ·rename_i hne
    obtain ⟨q1,q2⟩:=hs.maps y (List.mem_of_getElem? hj)
    refine ⟨q1.congr (hu.old _ q1.lt fun e=>hne ?_),q2⟩
    have n1:(lb.map (·.2))[i]?=some x.2:=by rw [List.getElem?_map,hi];rfl
    have n2:(lb.map (·.2))[j]?=some x.2:=by rw [List.getElem?_map,hj,← e];rfl
    obtain ⟨l1,e1⟩:=List.getElem?_eq_some_iff.1 n1
    obtain ⟨l2,e2⟩:=List.getElem?_eq_some_iff.1 n2
    exact (List.getElem_inj hs.nd).1 (e1.trans e2.symm)
def ZgE (bg:Int) (x:B3):Bool:=decide (x.1.at_≤bg - 1000000)
theorem ZoC {h:Zb} {x:B3} {bb pb wb:Nat} {bg:Int} {T1 T2:TypeId} (hr:0≤bg∧bg≤1152921504606846976) (c1:obj h bb=some (.cells [iv bg].toArray T1 (0,0))) (c2:obj h pb=some (.cells [.pointer (some ⟨wb,0,none⟩)].toArray T2 (0,0))) (c3:ZL 0 (obj h wb)=some (iv 1000000)) (lw:wb<sz h) {K:Bool→Zb→Prop}
    (hk:K (ZgE bg x) (h.push (.cells (b3L x).toArray 326 (0,0)))):Yn (x.1.at_,x.1.total,some x.2,()) (some ⟨bb,0,none⟩) (some ⟨pb,0,none⟩) K h:=by
  unfold Yn Zb1
  have l1:=ZS c1
  have l2:=ZS c2
  unfold ZgE at hk
  rw [← ZR (n:=bg - 1000000) (by omega) (by omega)] at hk
  simp (maxDischargeDepth:=60) only [Zs,Zr,evC,Nqa,Nqb,Nqc,Nqd,Nqe,reduceCtorEq,c1,c2,c3,YH l1,YH l2,YH lw]
  exact hk
theorem ZrD {h:Zb} {bb pb wb:Nat} {bg:Int} {T1 T2:TypeId} (hrg:0≤bg∧bg≤1152921504606846976) (c1:obj h bb=some (.cells [iv bg].toArray T1 (0,0))) (c2:obj h pb=some (.cells [.pointer (some ⟨wb,0,none⟩)].toArray T2 (0,0))) (c3:ZL 0 (obj h wb)=some (iv 1000000)) (lw:wb<sz h)
    {base:Nat} {s:Sl} {l:List B3} (ho:Own h base s 3 (l.flatMap b3L)) (n1:s.blk≠some bb) (n2:s.blk≠some pb) (n3:s.blk≠some wb) {K:Sl→Zb→Prop}
    (hk:∀ t h',Own h' base t 3 ((l.filter fun x=> !ZgE bg x).flatMap b3L)→(t.blk=s.blk∨t.blk=none)→Upd (fun k=>s.blk=some k) h h'→K t h'):Zy s (some ⟨bb,0,none⟩,some ⟨pb,0,none⟩,()) K h:=by
  unfold Zy ZT
  have hix:∀ (K2:Int→Zb→Prop),(∀ h',Ext h h'→K2 (ixV (ZgE bg) l) h')→ZA s (some ⟨bb,0,none⟩,some ⟨pb,0,none⟩,()) K2 h:=fun K2 hk2=>by
    unfold ZA ZV
    refine Zfc ZdV ho.row (by decide) (p:=ZgE bg) (tst:=fun Q b o h3=>ldI h3 b o .i64 fun t4=>ldI h3 b (o+1) .i64 fun t5=>ldM h3 b (o+2) fun t6=>Yn (t4,t5,t6,()) (some ⟨bb,0,none⟩) (some ⟨pb,0,none⟩) Q h3) ?_ hk2
    intro i a b o hh Q ha he hcell hQ
    have v0:=hcell 0 _ rfl
    have v1:=hcell 1 _ rfl
    have v2:=hcell 2 _ rfl
    simp only [Nat.add_zero] at v0
    refine rI v0 (rI v1 (rM v2 (ZoC hrg (Yh c1 he) (Yh c2 he) (by rw [Zbk he lw];exact c3) (by have:=X6 he;omega) (hQ _ (ZO he)))))
  refine hix _ fun h1 e1=>Za ?_
  have ho1:=ho.congr (h':=h1) fun b hb _ _=>e1.old b (ho.lt hb).2
  have d1:=Yh c1 e1
  have d2:=Yh c2 e1
  have d3:ZL 0 (obj h1 wb)=some (iv 1000000):=by rw [Zbk e1 lw];exact c3
  have lw1:wb<sz h1:=by have:=X6 e1;omega
  have hlen:=Zas ZdV ho.row (by decide)
  cases hf:l.findIdx? (ZgE bg) with
  | none =>
    rw [Zfw hf]
    refine ZF ?_
    have:(l.filter fun x=> !ZgE bg x)=l:=by
      rw [List.filter_eq_self]
      intro a ha
      rw [List.findIdx?_eq_none_iff.1 hf a ha]
      rfl
    exact hk s h1 (by rw [this];exact ho1) (.inl rfl) (e1.upd _)
  | some i =>
    rw [Zgu hf]
    obtain ⟨hil,hpi,hpj⟩:=List.findIdx?_eq_some_iff_getElem.1 hf
    have hbig:=ho.big
    have hcap:=ho.cap
    refine XE (by simp) (Za ?_)
    rw [show IntKind.wrap .i64 ((i:Int)+1)=((i+1:Nat):Int) from by rw [ZR (by omega) (by omega)];rfl]
    refine ZjA ZdV ho1 (by decide) (p:=ZgE bg) (zs:=[.int .i64 0,.int .i64 0,.map none]) rfl (by simp [YW,ZnG]) ZsR hil (fun j a hj ha=>?_) (fun a ha=>?_)
      (Good:=fun h=>obj h bb=some (.cells [iv bg].toArray T1 (0,0))∧obj h pb=some (.cells [.pointer (some ⟨wb,0,none⟩)].toArray T2 (0,0))∧ZL 0 (obj h wb)=some (iv 1000000)∧wb<sz h)
      (tst:=fun Q b o h6=>ldI h6 b o .i64 fun t7=>ldI h6 b (o+1) .i64 fun t8=>ldM h6 b (o+2) fun t9 =>
        newC h6 [Value.int .i64 0,Value.int .i64 0,Value.map none] 326 fun b10 h11=>sts h11 b10 0 [Value.int .i64 t7,Value.int .i64 t8,Value.map t9] fun h12 =>
        ldI h12 b10 0 .i64 fun t13=>ldI h12 b10 (0+1) .i64 fun t14=>ldM h12 b10 (0+2) fun t15=>Yn (t13,t14,t15,()) (some ⟨bb,0,none⟩) (some ⟨pb,0,none⟩) (fun b h=>Q b b10 h) h12)
      (wr:=fun b10 R h17=>ldI h17 b10 0 .i64 fun t18=>ldI h17 b10 (0+1) .i64 fun t19=>ldM h17 b10 (0+2) fun t20=>R [Value.int .i64 t18,Value.int .i64 t19,Value.map t20])
      (fun h1 h2 hg hu=>?_) ?_ ⟨d1,d2,d3,lw1⟩ (fun k hk=>(ho1.lt hk).2) (fun t h' ho' hb' hu _=>hk t h' ho' hb' ((e1.upd _).trans hu))
    ·have:=hpj j hj
     rw [List.getElem?_eq_getElem (by omega)] at ha
     cases ha
     simpa using this
    ·rw [List.getElem?_eq_getElem hil] at ha
     cases ha
     exact hpi
    ·obtain ⟨g1,g2,g3,g4⟩:=hg
     refine ⟨XM g1 hu n1,XM g2 hu n2,by rw [ZdJ hu g4 n3];exact g3,?_⟩
     have:sz h1≤sz h2:=hu.size
     omega
    ·rintro a b o hh Q ⟨g1,g2,g3,g4⟩ hbl hcell hQ
     have v0:=hcell 0 _ rfl
     have v1:=hcell 1 _ rfl
     have v2:=hcell 2 _ rfl
     simp only [Nat.add_zero] at v0
     have lg1:=ZS g1
     have lg2:=ZS g2
     have e2:Ext hh (Zb.puts (hh.push (.cells [iv 0,iv 0,.map none].toArray 326 (0,0))) (sz hh) 0 [iv a.1.at_,iv a.1.total,.map (some a.2)]):=Z3 (ZO (Ext.refl _)) (Nat.le_refl _)
     have a2:obj (Zb.puts (hh.push (.cells [iv 0,iv 0,.map none].toArray 326 (0,0))) (sz hh) 0 [iv a.1.at_,iv a.1.total,.map (some a.2)]) (sz hh)=some (.cells (b3L a).toArray 326 (0,0)):=by simp (maxDischargeDepth:=60) only [Zs,Zr,evC,Nqa,Nqb,Nqc,Nqd,Nqe,reduceCtorEq,b3L]
     refine rI v0 (rI v1 (rM v2 ?_))
     rw [ZdM,ZiV (by simp (maxDischargeDepth:=60) only [Zs,Zr,evC,Nqa,Nqb,Nqc,Nqd,Nqe,reduceCtorEq]) (by simp (maxDischargeDepth:=60) only [Zs,Zr,evC,Nqa,Nqb,Nqc,Nqd,Nqe,reduceCtorEq])]
     change ldI (Zb.puts (hh.push (.cells [iv 0,iv 0,.map none].toArray 326 (0,0))) (sz hh) 0 [iv a.1.at_,iv a.1.total,.map (some a.2)]) _ _ _ _
     generalize Zb.puts (hh.push (.cells [iv 0,iv 0,.map none].toArray 326 (0,0))) (sz hh) 0 [iv a.1.at_,iv a.1.total,.map (some a.2)]=h2 at e2 a2 ⊢
     have z2:=X6 e2
     refine rI (Zt a2 rfl) (rI (Zt a2 rfl) (rM (Zt a2 rfl) (ZoC hrg (Yh g1 e2) (Yh g2 e2) (by rw [Zbk e2 g4];exact g3) (by omega) ?_)))
     have e3:Ext hh (h2.push (.cells (b3L a).toArray 326 (0,0))):=ZO e2
     have a3:=Yh a2 (Ext.push h2 (.cells (b3L a).toArray 326 (0,0)))
     refine hQ _ _ ⟨Yh g1 e3,Yh g2 e3,by rw [Zbk e3 g4];exact g3,by have:=X6 e3;omega⟩ e3 fun R hR=>?_
     exact rI (Zt a3 rfl) (rI (Zt a3 rfl) (rM (Zt a3 rfl) hR))
def Zhn (at_:Int) (l:List Bk):List Bk:=l.filter fun b=> !decide (b.at_≤bgn at_ - 1000000)
def ZpP (at_:Int) (l:List Bk):Bool:=match l.getLast? with
  | some b=>b.at_ !=bgn at_
  | none=>true
def Zt5 (at_:Int):Bk:=⟨bgn at_,0,fun _ _=>0⟩
def ZnF (at_:Int) (l:List Bk):List Bk:=if ZpP at_ (Zhn at_ l) then Zhn at_ l++[Zt5 at_] else Zhn at_ l
def Sk.opened (s:Sk) (at_:Int):Sk:=⟨s.seed,at_,ZnF at_ s.bs⟩
theorem ZpL (at_:Int) (l:List Bk):∃ b,(ZnF at_ l).getLast?=some b∧b.at_=bgn at_:=by
  unfold ZnF
  split
  ·exact ⟨Zt5 at_,by simp,rfl⟩
  ·rename_i hn
   unfold ZpP at hn
   split at hn
   ·rename_i b hb
    exact ⟨b,hb,by simpa using hn⟩
   ·exact (hn rfl).elim
theorem Zo1:∀ (l:List Bk) (lo hi:Int),lo % 100000=0→(∀ b,b∈l→lo<b.at_∧b.at_≤hi∧b.at_ % 100000=0)→(l.Pairwise fun a b=>a.at_<b.at_)→lo≤hi→(l.length:Int)*100000≤hi - lo
  | [],lo,hi,_,_,_,h=>by simp;omega
  | b::l,lo,hi,h0,hb,hp,h=>by
    obtain ⟨p1,p2⟩:=List.pairwise_cons.1 hp
    obtain ⟨q1,q2,q3⟩:=hb b (List.mem_cons_self ..)
    have:=Zo1 l b.at_ hi q3 (fun c hc=>⟨p1 c hc,(hb c (List.mem_cons_of_mem _ hc)).2⟩) p2 q2
    rw [List.length_cons]
    omega
theorem ZwF {l:List Bk} (hp:l.Pairwise fun a b=>a.at_<b.at_) {a z:Bk} (ha:a∈l) (hz:l.getLast?=some z):a.at_≤z.at_:=by
  obtain ⟨l',rfl⟩:=List.getLast?_eq_some_iff.1 hz
  rcases List.mem_append.1 ha with h | h
  ·exact Int.le_of_lt ((List.pairwise_append.1 hp).2.2 a h z (by simp))
  ·simp at h;rw [h];exact Int.le_refl _
theorem ZiH {at_:Int} {l:List Bk} (h:l.Pairwise fun a b=>a.at_<b.at_):(Zhn at_ l).Pairwise fun a b=>a.at_<b.at_:=h.sublist List.filter_sublist
theorem Sk.opened_ok {s:Sk} (ok:s.OK) {at_:Int} (hw:Zao s.last at_=0):(s.opened at_).OK:=by
  obtain ⟨a0,a1,a2⟩:=Ze5 hw
  have hb:0≤bgn at_∧bgn at_≤at_∧bgn at_ % 100000=0∧at_<bgn at_+100000:=by unfold bgn;omega
  have hk:∀ b,b∈Zhn at_ s.bs→b.OK∧b.at_≤bgn at_∧bgn at_ - 1000000<b.at_:=fun b hm=>by
    obtain ⟨h1,h2⟩:=List.mem_filter.1 hm
    obtain ⟨o1,o2⟩:=ok.bs b h1
    have:=o1.step
    have h3:¬ b.at_≤bgn at_ - 1000000:=by simpa using h2
    exact ⟨o1,by omega,by omega⟩
  have hnew:(Zt5 at_).OK:=⟨hb.1,hb.2.2.1,⟨Int.le_refl _,by show (0:Int)≤_;decide⟩,fun r c=>⟨Int.le_refl _,by show (0:Int)≤_;decide⟩⟩
  have hc:(Zhn at_ s.bs).length≤10:=by
    have:=Zo1 (Zhn at_ s.bs) (bgn at_ - 1000000) (bgn at_) (by omega) (fun b hm=>⟨(hk b hm).2.2,(hk b hm).2.1,(hk b hm).1.step⟩) (ZiH ok.up) (by omega)
    omega
  unfold Sk.opened ZnF
  split
  ·rename_i hn
   refine ⟨a0,a1,fun b hm=>?_,?_,?_⟩
   ·rcases List.mem_append.1 hm with hm | hm
    ·exact ⟨(hk b hm).1,by have:=(hk b hm).2.1;show b.at_≤at_;omega⟩
    ·simp at hm;subst hm;exact ⟨hnew,hb.2.1⟩
   ·refine List.pairwise_append.2 ⟨ZiH ok.up,by simp,fun a ha b hb'=>?_⟩
    simp at hb'
    subst hb'
    show a.at_<bgn at_
    have h1:=(hk a ha).2.1
    unfold ZpP at hn
    split at hn
    ·rename_i z hz
     have h2:=ZwF (ZiH ok.up) ha hz
     have h3:=(hk z (List.mem_of_getLast? hz)).2.1
     have h4:z.at_≠bgn at_:=by simpa using hn
     omega
    ·rename_i hz
     rw [List.getLast?_eq_none_iff.1 hz] at ha
     cases ha
   ·show (Zhn at_ s.bs++[Zt5 at_]).length≤12
    rw [List.length_append,List.length_singleton]
    omega
  ·exact ⟨a0,a1,fun b hm=>⟨(hk b hm).1,by have:=(hk b hm).2.1;show b.at_≤at_;omega⟩,ZiH ok.up,by show (Zhn at_ s.bs).length≤12;omega⟩
structure Gro (id:Int) (T T':Nat→Option Nat) (h h':Zb):Prop where
  upd:Upd (fun k=>∃ j,j<4∧T k=some (tg id j)) h h'
  keep:∀ k t,T k=some t→T' k=some t
  new:∀ k,T' k≠none→T k≠none∨sz h≤k
  lt:∀ k,T' k≠none→k<sz h'
theorem Gro.refl {id:Int} {T:Nat→Option Nat} {h:Zb} (hT:∀ k,T k≠none→k<sz h):Gro id T T h h:=⟨Upd.refl _ _,fun _ _ h=>h,fun _ h=> .inl h,hT⟩
theorem Gro.ext {id:Int} {T T':Nat→Option Nat} {h h' h2:Zb} (g:Gro id T T' h h') (e:Ext h' h2):Gro id T T' h h2:=⟨g.upd.trans (e.upd _),g.keep,g.new,fun k hk=>Nat.lt_of_lt_of_le (g.lt k hk) e.size⟩
theorem Gro.put {id:Int} {T T':Nat→Option Nat} {h h' h2:Zb} (g:Gro id T T' h h') {S:Nat→Prop} (u:Upd S h' h2) (hS:∀ k,S k→∃ j,j<4∧T' k=some (tg id j)):Gro id T T' h h2:=by
  refine ⟨⟨Nat.le_trans g.upd.size u.size,fun k hk hn=>?_⟩,g.keep,g.new,fun k hk=>Nat.lt_of_lt_of_le (g.lt k hk) u.size⟩
  rw [u.old k (Nat.lt_of_lt_of_le hk g.upd.size) fun hs=>?_,g.upd.old k hk hn]
  obtain ⟨j,hj,ht⟩:=hS k hs
  rcases g.new k (by rw [ht];exact fun e=>by cases e) with h1 | h1
  ·cases hx:T k with
   | none=>exact h1 hx
   | some t =>
     have h3:=g.keep k t hx
     rw [ht] at h3
     exact hn ⟨j,hj,by rw [hx,← h3]⟩
  ·have:k<sz h:=hk
   omega
theorem Zpv {h:Zb} {b b29 wb:Nat} {bg at_ seed:Int} {t:Sl} {lb:List B3} {T1 T2:TypeId} (cb:obj h b=some (.cells [.pointer (some ⟨wb,0,none⟩)].toArray T1 (0,0))) (c29:obj h b29=some (.cells [iv bg].toArray T2 (0,0)))
    (cw:obj h wb=some (.cells [iv 1000000,iv 10,iv 3,iv 256,.int .u64 seed,slV t,iv at_].toArray 220 (0,0))) (ho:Own h 0 t 3 (lb.flatMap b3L)) (few:lb.length≤12) (n1:t.blk≠some b) (n2:t.blk≠some b29) (n3:t.blk≠some wb) (n4:b≠wb) {J:Unit→Zb→Prop}
    (hk:∀ h' t',Own h' 0 t' 3 ((lb++[((⟨bg,0,fun _ _=>0⟩:Bk),sz h)]).flatMap b3L)→obj h' wb=some (.cells [iv 1000000,iv 10,iv 3,iv 256,.int .u64 seed,slV t',iv at_].toArray 220 (0,0))→ZlO h' (sz h) (fun _ _=>0)→obj h' b=some (.cells [.pointer (some ⟨wb,0,none⟩)].toArray T1 (0,0)) →
      Upd (fun k=>k=wb∨t.blk=some k) h h'→sz h+2≤sz h'→(t'.blk=t.blk∨t'.blk=some (sz h+2))→J () h') :
    ldP h b 0 fun t47=>ldP h b 0 fun t48=>Zd t48 fun b49 o50=>ldL h b49 (o50+5) fun t51=>ldI h b29 0 .i64 fun t52=>Zci h fun b53 h54 =>
      ZH (Zi h54 [(b29,0,Value.int .i64 t52)]) <| ZH (Zi h54 [(b49,o50+5,Value.slice t51.ptr t51.len t51.cap)]) <| ZH (Zi h54 [(b,0,Value.pointer t48)]) <| ZH (Zi h54 [(b,0,Value.pointer t47)]) <|
      newC h54 [Value.int .i64 t52,Value.int .i64 0,Value.map (some b53)] 326 fun b55 h56 =>
      ZH (Zi h56 [(b29,0,Value.int .i64 t52)]) <| ZH (Zi h56 [(b49,o50+5,Value.slice t51.ptr t51.len t51.cap)]) <| ZH (Zi h56 [(b,0,Value.pointer t48)]) <| ZH (Zi h56 [(b,0,Value.pointer t47)]) <|
      rdS ⟨some ⟨b55,0,none⟩,1,1⟩ 3 h56 fun new=>app 326 3 24 [Value.int .i64 0,Value.int .i64 0,Value.map none] t51 1 new h56 fun t57 h58 =>
      ZH (Zi h58 [(b29,0,Value.int .i64 t52)]) <| ZH (Zi h58 [(b,0,Value.pointer t48)]) <| ZH (Zi h58 [(b,0,Value.pointer t47)]) <|
      Zd t47 fun b59 o60=>st h58 b59 (o60+5) (Value.slice t57.ptr t57.len t57.cap) fun h61=>J () h61:=by
  have hl:=Zas ZdV ho.row (by decide)
  have lw:=ZS cw
  have lb_:=ZS cb
  have l29:=ZS c29
  refine rP (Zt cb rfl) (rP (Zt cb rfl) (Zh (rL (Zt cw rfl) (rI (Zt c29 rfl) ?_))))
  rw [Zhj]
  have e1:Ext h (h.push (.map #[] 0)):=Ext.push _ _
  have m1:ZlO (h.push (.map #[] 0)) (sz h) (fun _ _=>0):=ZlO.new
  have z1:sz (h.push (.map #[] 0))=sz h+1:=XB
  generalize h.push (.map #[] 0)=h1 at e1 m1 z1 ⊢
  have cb1:=Yh cb e1
  have c291:=Yh c29 e1
  have cw1:=Yh cw e1
  have held:∀ {hh:Zb} {b o:Nat} {v:Value},ZL o (obj hh b)=some v→Zi hh [(b,o,v)]:=fun hc=>by rw [Zbd,ZcR];exact ⟨hc,trivial⟩
  refine ⟨held (Zt c291 rfl),held (Zt cw1 rfl),held (Zt cb1 rfl),held (Zt cb1 rfl),?_⟩
  rw [ZdM]
  have e2:Ext h1 (h1.push (.cells [Value.int .i64 bg,Value.int .i64 0,Value.map (some (sz h))].toArray 326 (0,0))):=Ext.push _ _
  have hrow:Row (h1.push (.cells [Value.int .i64 bg,Value.int .i64 0,Value.map (some (sz h))].toArray 326 (0,0))) ⟨some ⟨sz h1,0,none⟩,1,1⟩ 3 (b3L ((⟨bg,0,fun _ _=>0⟩:Bk),sz h)) :=
    (Own.newC (h:=h1) (cells:=b3L ((⟨bg,0,fun _ _=>0⟩:Bk),sz h)) (t:=326) (size:=3) (n:=1) rfl (by decide)).row
  have z2:sz (h1.push (.cells [Value.int .i64 bg,Value.int .i64 0,Value.map (some (sz h))].toArray 326 (0,0)))=sz h+2:=by rw [XB,z1]
  generalize h1.push (.cells [Value.int .i64 bg,Value.int .i64 0,Value.map (some (sz h))].toArray 326 (0,0))=h2 at e2 hrow z2 ⊢
  have e12:=e1.trans e2
  have cb2:=Yh cb1 e2
  have c292:=Yh c291 e2
  have cw2:=Yh cw1 e2
  refine ⟨held (Zt c292 rfl),held (Zt cw2 rfl),held (Zt cb2 rfl),held (Zt cb2 rfl),hrow.rd ?_⟩
  have ho2:=ho.congr (h':=h2) fun k hk _ _=>e12.old k (ho.lt hk).2
  refine Own.app ho2 rfl (ZsR _) rfl (by omega) (by omega) (Nat.zero_le _) fun t3 h3 ho3 hl3 u3 hb3=>?_
  have cb3:=XM cb2 u3 n1
  have c293:=XM c292 u3 n2
  have cw3:=XM cw2 u3 n3
  refine ⟨held (Zt c293 rfl),held (Zt cb3 rfl),held (Zt cb3 rfl),Zh ?_⟩
  refine ZhD cw3 (by simp) (by rw [Zrz];exact ZgR) fun h4 cw4 u4 z4=>?_
  have hb3':t3.blk=t.blk∨t3.blk=some (sz h+2):=hb3.imp id fun e=>by rw [e,ZE,z2]
  have n33:t3.blk≠some wb:=fun e=>by
    rcases hb3' with h9 | h9
    ·exact n3 (h9▸e)
    ·rw [h9] at e;cases e;omega
  have z3:sz h+2≤sz h3:=by have:sz h2≤sz h3:=u3.size;omega
  refine hk h4 t3 ?_ cw4 ?_ (XM cb3 u4 n4) ?_ (by omega) hb3'
  ·rw [List.flatMap_append]
   have:=ho3.congr (h':=h4) fun k hk _ _=>u4.old k (ho3.lt hk).2 fun e=>n33 (e▸hk)
   simpa using this
  ·refine ((m1.congr (e2.old _ m1.lt)).congr (u3.old _ (by show sz h<sz h2;omega) fun e=>?_)).congr (u4.old _ (by show sz h<sz h3;omega) fun e=>by omega)
   have:=(ho.lt e).2
   rw [ZE] at this
   omega
  ·exact ((e12.upd _).trans (u3.mono fun k _ hk=> .inr hk)).trans (u4.mono fun k _ hk=> .inl hk)
def Zxf (n:Int→Int→Int) (seed x:Int) (key:ByteArray):Nat→Int→Int→Int
  | 0=>n
  | i+1=>Zqd (Zxf n seed x key i) i (Zn7 seed i key) (spl (Zxf n seed x key i i (Zn7 seed i key)) x)
def ZlC (b:Bk) (seed x:Int) (key:ByteArray) (k:Nat):Bk:=⟨b.at_,spl b.total x,Zxf b.n seed x key k⟩
def ZnO (l:List Bk) (f:Bk→Bk):List Bk:=match l.getLast? with
  | some b=>l.set (l.length - 1) (f b)
  | none=>l
def Sk.add (s:Sk) (at_ x:Int) (key:ByteArray):Sk:=⟨s.seed,at_,ZnO (ZnF at_ s.bs) fun b=>ZlC b s.seed x key 3⟩
def Sk.took (s:Sk) (at_ x:Int) (key:ByteArray):Sk:=if Zao s.last at_=0 then s.add at_ x key else s
theorem Zl6 (l a:Int):Zao l a=0∨Zao l a=2∨Zao l a=7:=by
  unfold Zao
  split
  ·exact .inr (.inl rfl)
  ·split
   ·exact .inr (.inl rfl)
   ·split
    ·exact .inr (.inr rfl)
    ·exact .inl rfl
theorem Zpw {h h0:Zb} {T:Nat→Option Nat} {id:Int} {wb b b29:Nat} {sl t:Sl} {lb:List B3} {s:Sk} (hs:SkR h0 T id wb sl lb s) (hT:∀ k,T k≠none→k<sz h0) {at_:Int} (hw:Zao s.last at_=0) {T1 T2:TypeId}
    (cb:obj h b=some (.cells [.pointer (some ⟨wb,0,none⟩)].toArray T1 (0,0))) (c29:obj h b29=some (.cells [iv (bgn at_)].toArray T2 (0,0))) (cw:obj h wb=some (.cells [iv 1000000,iv 10,iv 3,iv 256,.int .u64 s.seed,slV t,iv at_].toArray 220 (0,0)))
    (hb:sz h0≤b∧b<b29∧b29<sz h) (ho:Own h 0 t 3 ((lb.filter fun x=> !ZgE (bgn at_) x).flatMap b3L)) (ht:t.blk=sl.blk∨t.blk=none) (hu:Upd (fun k=>k=wb∨sl.blk=some k) h0 h) {J:Unit→Zb→Prop}
    (hk:∀ h' T' sl' lb',SkR h' T' id wb sl' lb' (s.opened at_)→Gro id T T' h0 h'→T' b=none→obj h' b=some (.cells [.pointer (some ⟨wb,0,none⟩)].toArray T1 (0,0))→J () h') :
    ldP h b 0 fun t43=>Zd t43 fun b44 o45=>ldL h b44 (o45+5) fun t46=>Zc (t46.len:Int) fun k =>
      Zw (k ==0) (
      ldP h b 0 fun t47=>ldP h b 0 fun t48=>Zd t48 fun b49 o50=>ldL h b49 (o50+5) fun t51=>ldI h b29 0 .i64 fun t52=>Zci h fun b53 h54 =>
      ZH (Zi h54 [(b29,0,Value.int .i64 t52)]) <| ZH (Zi h54 [(b49,o50+5,Value.slice t51.ptr t51.len t51.cap)]) <| ZH (Zi h54 [(b,0,Value.pointer t48)]) <| ZH (Zi h54 [(b,0,Value.pointer t47)]) <|
      newC h54 [Value.int .i64 t52,Value.int .i64 0,Value.map (some b53)] 326 fun b55 h56 =>
      ZH (Zi h56 [(b29,0,Value.int .i64 t52)]) <| ZH (Zi h56 [(b49,o50+5,Value.slice t51.ptr t51.len t51.cap)]) <| ZH (Zi h56 [(b,0,Value.pointer t48)]) <| ZH (Zi h56 [(b,0,Value.pointer t47)]) <|
      rdS ⟨some ⟨b55,0,none⟩,1,1⟩ 3 h56 fun new=>app 326 3 24 [Value.int .i64 0,Value.int .i64 0,Value.map none] t51 1 new h56 fun t57 h58 =>
      ZH (Zi h58 [(b29,0,Value.int .i64 t52)]) <| ZH (Zi h58 [(b,0,Value.pointer t48)]) <| ZH (Zi h58 [(b,0,Value.pointer t47)]) <|
      Zd t47 fun b59 o60=>st h58 b59 (o60+5) (Value.slice t57.ptr t57.len t57.cap) fun h61=>J () h61) (
      ldP h b 0 fun t62=>Zd t62 fun b63 o64=>ldL h b63 (o64+5) fun t65=>Zap t65.ptr t65.len (IntKind.wrap .i64 (k - 1)) 3 fun b66 o67=>ldI h b66 o67 .i64 fun t68=>ldI h b29 0 .i64 fun t69 =>
      Zw (t68 !=t69) (
      ldP h b 0 fun t47=>ldP h b 0 fun t48=>Zd t48 fun b49 o50=>ldL h b49 (o50+5) fun t51=>ldI h b29 0 .i64 fun t52=>Zci h fun b53 h54 =>
      ZH (Zi h54 [(b29,0,Value.int .i64 t52)]) <| ZH (Zi h54 [(b49,o50+5,Value.slice t51.ptr t51.len t51.cap)]) <| ZH (Zi h54 [(b,0,Value.pointer t48)]) <| ZH (Zi h54 [(b,0,Value.pointer t47)]) <|
      newC h54 [Value.int .i64 t52,Value.int .i64 0,Value.map (some b53)] 326 fun b55 h56 =>
      ZH (Zi h56 [(b29,0,Value.int .i64 t52)]) <| ZH (Zi h56 [(b49,o50+5,Value.slice t51.ptr t51.len t51.cap)]) <| ZH (Zi h56 [(b,0,Value.pointer t48)]) <| ZH (Zi h56 [(b,0,Value.pointer t47)]) <|
      rdS ⟨some ⟨b55,0,none⟩,1,1⟩ 3 h56 fun new=>app 326 3 24 [Value.int .i64 0,Value.int .i64 0,Value.map none] t51 1 new h56 fun t57 h58 =>
      ZH (Zi h58 [(b29,0,Value.int .i64 t52)]) <| ZH (Zi h58 [(b,0,Value.pointer t48)]) <| ZH (Zi h58 [(b,0,Value.pointer t47)]) <|
      Zd t47 fun b59 o60=>st h58 b59 (o60+5) (Value.slice t57.ptr t57.len t57.cap) fun h61=>J () h61) (J () h)):=by
  have okO:=hs.ok
  have okN:=Sk.opened_ok hs.ok hw
  have hl:=Zas ZdV ho.row (by decide)
  have lw0:=ZS hs.cells
  have htn:∀ k,sz h0≤k→T k=none:=fun k hk=>by
    cases hx:T k with
    | none=>rfl
    | some x=>have:=hT k (by rw [hx];exact fun e=>by cases e);omega
  have hsl:∀ k,sl.blk=some k→T k=some (tg id 1):=hs.ts
  have ht1:∀ k,t.blk=some k→T k=some (tg id 1):=fun k hk=>by
    rcases ht with e | e
    ·exact hsl k (e▸hk)
    ·rw [e] at hk;cases hk
  have n1:t.blk≠some b:=fun e=>by have:=ht1 _ e;rw [htn _ hb.1] at this;cases this
  have n2:t.blk≠some b29:=fun e=>by have:=ht1 _ e;rw [htn _ (by omega)] at this;cases this
  have n3:t.blk≠some wb:=fun e=>by
    have:=ht1 _ e
    rw [hs.tw] at this
    exact Ziq (by decide) (Option.some.inj this)
  have fm:(lb.filter fun x=> !ZgE (bgn at_) x).map (·.1)=Zhn at_ s.bs:=by
    unfold Zhn
    rw [← hs.bs,List.filter_map]
    rfl
  have few:(lb.filter fun x=> !ZgE (bgn at_) x).length≤12:=by
    have h1:(lb.filter fun x=> !ZgE (bgn at_) x).length≤lb.length:=List.length_filter_le _ _
    have h2:lb.length=s.bs.length:=by rw [← hs.bs,List.length_map]
    have:=okO.few
    omega
  have nd:((lb.filter fun x=> !ZgE (bgn at_) x).map (·.2)).Nodup:=hs.nd.sublist (List.filter_sublist.map _)
  have mp:∀ x,x∈lb.filter (fun x=> !ZgE (bgn at_) x)→ZlO h x.2 x.1.n∧T x.2=some (tg id 2):=fun x hx=>by
    obtain ⟨m1,m2⟩:=hs.maps x (List.mem_filter.1 hx).1
    refine ⟨m1.congr (hu.old _ m1.lt fun e=>?_),m2⟩
    rcases e with e | e
    ·rw [e,hs.tw] at m2
     exact Ziq (by decide) (Option.some.inj m2)
    ·have:=hsl _ e
     rw [m2] at this
     exact Ziq (by decide) (Option.some.inj this)
  have hz:sz h0≤sz h:=hu.size
  have g0:Gro id T T h0 h:=(Gro.refl hT).put hu fun k hk=>by
    rcases hk with rfl | hk
    ·exact ⟨0,by decide,hs.tw⟩
    ·exact ⟨1,by decide,hsl k hk⟩
  have push:ZpP at_ (Zhn at_ s.bs)=true→_:=fun hn=>Zpv (J:=J) cb c29 cw ho few n1 n2 n3 (by omega) fun h' t' ho' cw' mn' cb' hu' hz' hb'=>by
    have hnew:∀ k,t'.blk=some k→T k=some (tg id 1)∨k=sz h+2:=fun k hk=>by
      rcases hb' with e | e
      ·exact .inl (ht1 k (e▸hk))
      ·rw [e] at hk;cases hk;exact .inr rfl
    refine hk h' (fun k=>if t'.blk=some k then some (tg id 1) else if k=sz h then some (tg id 2) else T k) t' _ ⟨okN,cw',ho',?_,?_,fun x hx=>?_,?_,fun k hk=>if_pos hk⟩ ⟨(g0.put hu' fun k hk=>?_).upd,fun k x hx=>?_,fun k hk=>?_,fun k hk=>?_⟩ ?_ cb'
    ·rw [List.map_append,fm]
     unfold Sk.opened ZnF
     rw [if_pos hn]
     rfl
    ·rw [List.map_append,List.nodup_append]
     refine ⟨nd,by simp,fun a ha c hc=>?_⟩
     simp at hc
     subst hc
     obtain ⟨x,hx,rfl⟩:=List.mem_map.1 ha
     have h1:=(mp x hx).2
     intro e
     rw [e,htn _ hz] at h1
     cases h1
    ·rcases List.mem_append.1 hx with hx | hx
     ·obtain ⟨m1,m2⟩:=mp x hx
      have h1:t'.blk≠some x.2:=fun e=>by
        rcases hnew _ e with h9 | h9
        ·rw [m2] at h9
         exact Ziq (by decide) (Option.some.inj h9)
        ·rw [h9,htn _ (by omega)] at m2;cases m2
      have h2:x.2≠sz h:=fun e=>by rw [e,htn _ hz] at m2;cases m2
      refine ⟨m1.congr (hu'.old _ m1.lt fun e=>?_),by rw [if_neg h1,if_neg h2];exact m2⟩
      rcases e with e | e
      ·rw [e,hs.tw] at m2
       exact Ziq (by decide) (Option.some.inj m2)
      ·have:=ht1 _ e
       rw [m2] at this
       exact Ziq (by decide) (Option.some.inj this)
     ·simp at hx
      subst hx
      refine ⟨mn',?_⟩
      rw [if_neg,if_pos rfl]
      intro e
      rcases hnew _ e with h9 | h9
      ·rw [htn _ hz] at h9;cases h9
      ·omega
    ·rw [if_neg,if_neg,hs.tw]
     ·omega
     ·intro e
      rcases hnew _ e with h9 | h9
      ·rw [hs.tw] at h9
       exact Ziq (by decide) (Option.some.inj h9)
      ·omega
    ·rcases hk with rfl | hk
     ·exact ⟨0,by decide,hs.tw⟩
     ·exact ⟨1,by decide,ht1 k hk⟩
    ·split
     ·rename_i e
      rcases hnew _ e with h9 | h9
      ·rw [← hx,h9]
      ·rw [h9,htn _ (by omega)] at hx;cases hx
     ·split
      ·rename_i e
       rw [e,htn _ hz] at hx;cases hx
      ·exact hx
    ·split at hk
     ·rename_i e
      rcases hnew _ e with h9 | h9
      ·left;rw [h9];exact fun e=>by cases e
      ·right;omega
     ·split at hk
      ·right;omega
      ·exact .inl hk
    ·split at hk
     ·rename_i e
      exact (ho'.lt e).2
     ·split at hk
      ·omega
      ·have:=hT k hk;omega
    ·rw [if_neg,if_neg,htn _ hb.1]
     ·omega
     ·intro e
      rcases hnew _ e with h9 | h9
      ·rw [htn _ hb.1] at h9;cases h9
      ·omega
  refine rP (Zt cb rfl) (Zh (rL (Zt cw rfl) (Za ?_)))
  refine ⟨fun q=>?_,fun q=>?_⟩
  ·have h0:(lb.filter fun x=> !ZgE (bgn at_) x)=[]:=by
     have h9:(t.len:Int)=0:=by simpa using q
     exact List.eq_nil_of_length_eq_zero (by omega)
   exact push (by rw [← fm,h0];rfl)
  ·have q0:t.len≠0:=by
     intro e
     rw [e] at q
     exact absurd q (by decide)
   have hbig:=ho.big
   have hcap:=ho.cap
   obtain ⟨x,hx⟩:∃ x,(lb.filter fun x=> !ZgE (bgn at_) x)[t.len - 1]?=some x:=⟨_,List.getElem?_eq_getElem (by omega)⟩
   obtain ⟨bb,o,_,_,hidx,hcell⟩:=ZaI ZdV ho.row hx (by decide)
   have hgl:(Zhn at_ s.bs).getLast?=some x.1:=by
     rw [← fm,List.getLast?_eq_getElem?,List.getElem?_map,List.length_map,← hl,hx]
     rfl
   refine rP (Zt cb rfl) (Zh (rL (Zt cw rfl) (hidx (by rw [ZR (by omega) (by omega)];omega) (rI (hcell 0 _ rfl) (rI (Zt c29 rfl) ?_)))))
   have hnb:ZpP at_ (Zhn at_ s.bs)=(x.1.at_ !=bgn at_):=by unfold ZpP;rw [hgl]
   refine ⟨fun q1=>push (by rw [hnb];exact q1),fun q1=>?_⟩
   refine hk h T t _ ⟨okN,cw,ho,?_,nd,mp,hs.tw,ht1⟩ g0 (htn _ hb.1) cb
   rw [fm]
   unfold Sk.opened ZnF
   rw [if_neg (by rw [hnb,q1];decide)]
theorem ZpR {l:List Bk} {b:Bk} (h:l.getLast?=some b) (f:Bk→Bk):ZnO l f=l.set (l.length - 1) (f b):=by unfold ZnO;rw [h]
theorem Zy6 {sl:Sl} {n:Nat} {h:Zb} {lb:List B3} (ho:Own h n sl 3 (lb.flatMap b3L)):sl.len=lb.length:=Zas ZdV ho.row (by decide)
theorem Zpx {h h0:Zb} {T0 T:Nat→Option Nat} {id:Int} {wb b nb:Nat} {sl:Sl} {lb:List B3} {s:Sk} (hs:SkR h T id wb sl lb s) (hg:Gro id T0 T h0 h) {bk:Bk} (hl:s.bs.getLast?=some bk) {x:Int} (hx:0≤x∧x≤1099511627776) {key:ByteArray} (hkey:key.size<9223372036854775808) {T1 T2:TypeId}
    (cb:obj h b=some (.cells [.pointer (some ⟨wb,0,none⟩)].toArray T1 (0,0))) (cn:obj h nb=some (.cells [iv x].toArray T2 (0,0))) (tb:T b=none) (tn:T nb=none) {K:Int→Zb→Prop}
    (hk:∀ h',SkR h' T id wb sl (lb.set (lb.length - 1) (ZlC bk s.seed x key 3,(lb[lb.length - 1]?.map (·.2)).getD 0)) ⟨s.seed,s.last,s.bs.set (s.bs.length - 1) (ZlC bk s.seed x key 3)⟩→Gro id T0 T h0 h'→K 0 h') :
    ldP h b 0 fun t88=>Zd t88 fun b89 o90=>ldL h b89 (o90+5) fun t91=>ldP h b 0 fun t92=>Zd t92 fun b93 o94=>ldL h b93 (o94+5) fun t95 =>
      Zap t91.ptr t91.len (IntKind.wrap .i64 ((t95.len:Int) - 1)) 3 fun b96 o97 =>
      YI (σ:=Int × Unit) (fun J98 s99 h100=>(fun (s109:Int) =>
       Zw (decide (s109<((1:Nat):Int))) (Zap (some ⟨nb,0,none⟩) 1 s109 1 fun b101 o102=>ldI h100 b101 o102 .i64 fun t103=>Zc t103 fun x104=>ldI h100 b96 (o97+1) .i64 fun t105 =>
        Zak t105 x104 (fun t106 h107=>st h107 b96 (o97+1) (Value.int .i64 t106) fun h108=>ldP h108 b 0 fun t109=>Zd t109 fun b110 o111=>ldI h108 b110 (o111+2) .i64 fun t112 =>
         YI (σ:=Int × Unit) (fun J113 s114 h115=>(fun (s127:Int) =>
          Zw (decide (s127<t112)) (Zc s127 fun row=>ldP h115 b 0 fun t116=>Zd t116 fun b117 o118 =>
           ldI h115 b117 o118 .i64 fun t119=>ldI h115 b117 (o118+1) .i64 fun t120=>ldI h115 b117 (o118+2) .i64 fun t121=>ldI h115 b117 (o118+3) .i64 fun t122=>ldI h115 b117 (o118+4) .u64 fun t123 =>
           YA (t119,t120,t121,t122,t123,()) row key (fun t124 h125 =>
            newC h125 [Value.int .i64 0,Value.int .i64 0] 328 fun b126 h127=>sts h127 b126 0 [Value.int .i64 row,Value.int .i64 t124] fun h128 =>
            ldM h128 b96 (o97+2) fun t129=>ldI h128 b126 0 .i64 fun t130=>ldI h128 b126 (0+1) .i64 fun t131=>ldM h128 b96 (o97+2) fun t132=>ldI h128 b126 0 .i64 fun t133=>ldI h128 b126 (0+1) .i64 fun t134 =>
            Zfv [(.int .i64),(.int .i64)] h128 t132 [Value.int .i64 t133,Value.int .i64 t134] fun r=>asI (r.getD (Value.int .i64 0)) .i64 fun t135 =>
            ZH (Zi h128 [(b126,0,Value.int .i64 t130),(b126,0+1,Value.int .i64 t131)]) <| ZH (Zi h128 [(b96,o97+2,Value.map t129)]) <|
            Zak t135 x104 (fun t136 h137 =>
             ZH (Zi h137 [(b126,0,Value.int .i64 t130),(b126,0+1,Value.int .i64 t131)]) <| ZH (Zi h137 [(b96,o97+2,Value.map t129)]) <|
             Zfu [(.int .i64),(.int .i64)] h137 t129 [Value.int .i64 t130,Value.int .i64 t131] (Value.int .i64 t136) fun h138=>J113 (IntKind.wrap .i64 (s127+1),()) h138) h128) h115)
           (J98 (IntKind.wrap .i64 (s109+1),()) h115)) s114.1) (0,()) h108) h100)
       (Zc 0 fun t139=>K t139 h100)) s99.1) (0,()) h:=by
  have hlen:=Zy6 hs.own
  have hbl:lb.length=s.bs.length:=by rw [← hs.bs,List.length_map]
  have hpos:0<s.bs.length:=by
    rcases Nat.eq_zero_or_pos s.bs.length with h0 | h0
    ·rw [List.eq_nil_of_length_eq_zero h0] at hl;cases hl
    ·exact h0
  have hbig:=hs.own.big
  have hcap:=hs.own.cap
  have few:=hs.ok.few
  obtain ⟨y,hy⟩:∃ y,lb[lb.length - 1]?=some y:=⟨_,List.getElem?_eq_getElem (by omega)⟩
  have hyb:y.1=bk:=by
    rw [List.getLast?_eq_getElem?,← hs.bs,List.getElem?_map,List.length_map,hy] at hl
    exact Option.some.inj hl
  have okb:=(hs.ok.bs bk (List.mem_of_getLast? hl)).1
  subst hyb
  obtain ⟨y1,mb⟩:=y
  dsimp only at hl okb
  rw [hy] at hk
  dsimp only [Option.map_some,Option.getD_some] at hk
  refine rP (Zt cb rfl) (Zh (rL (Zt hs.cells rfl) (rP (Zt cb rfl) (Zh (rL (Zt hs.cells rfl) ?_)))))
  obtain ⟨bb,hp,hbb⟩:=Own.ptr_ hs.own (o:=(lb.length - 1)*3) (by rw [Z7 ZdV];omega)
  have tbb:=hs.ts bb hbb
  have nbb:∀ {k},T k=none→k≠bb:=fun hk e=>by rw [e,tbb] at hk;cases hk
  have nwb:∀ {k},T k=none→k≠wb:=fun hk e=>by rw [e,hs.tw] at hk;cases hk
  have nmb:∀ {k},T k=none→k≠mb:=fun hk e=>by rw [e,(hs.maps _ (List.mem_of_getElem? hy)).2] at hk;cases hk
  refine ⟨bb,0,hp,by rw [ZR (by omega) (by omega)];omega,by rw [ZR (by omega) (by omega)];omega,?_⟩
  have ho:0+(IntKind.wrap .i64 ((sl.len:Int) - 1)).toNat*3=(lb.length - 1)*3:=by rw [ZR (by omega) (by omega)];omega
  rw [ho]
  clear ho
  generalize hm:lb.length - 1=m at hy hk ⊢
  have hm2:s.bs.length - 1=m:=by omega
  rw [hm2] at hk
  have elem:∀ {hh:Zb} {lb':List B3} {s':Sk} {z:B3},SkR hh T id wb sl lb' s'→lb'[m]?=some z→∀ j v,(b3L z)[j]?=some v→ZL (m*3+j) (obj hh bb)=some v:=fun {hh lb' s' z} hs' hz j v hv=>by
    rcases hs'.own.row.at_ with h9 | ⟨b9,o9,hp9,hh9⟩
    ·have:=Zy6 hs'.own
     have:=Xk hz
     omega
    ·have hp0:=hp
     rw [hp9] at hp0
     cases hp0
     have hj:j<3:=by rw [← ZdV z];exact Xk hv
     have:=Zh1 hh9 (i:=m*3+j) (v:=v) (by rw [Zgw ZdV lb' m j z hz hj];exact hv)
     rw [Yw,Nat.zero_add] at this
     exact this
  have hset:∀ (z:B3),lb.set m z=lb.set m z:=fun _=>rfl
  have setset:∀ (a c:B3),(lb.set m a).set m c=lb.set m c:=fun a c=>List.set_set _
  have setset':∀ (a c:Bk),(s.bs.set m a).set m c=s.bs.set m c:=fun a c=>List.set_set _
  have getset:∀ (a:B3),(lb.set m a)[m]?=some a:=fun a=>List.getElem?_set_self (Xk hy)
  refine Zds (fun st hh=>(st=(0,())∧hh=h)∨(st=(1,())∧SkR hh T id wb sl (lb.set m (ZlC y1 s.seed x key 3,mb)) ⟨s.seed,s.last,s.bs.set m (ZlC y1 s.seed x key 3)⟩∧Gro id T0 T h0 hh)) (fun st _=>(1 - st.1).toNat) (.inl ⟨rfl,rfl⟩) ?_
  rintro _ hh (⟨rfl,rfl⟩ | ⟨rfl,hs9,hg9⟩) Q hQ
  case inr=>exact XE (by decide) (hk hh hs9 hg9)
  dsimp only
  refine ZaS (by decide) ?_
  refine ⟨nb,0,rfl,by decide,by decide,rI (Zt cn rfl) ?_⟩
  rw [Y9]
  have v1:=elem hs hy 1 _ rfl
  refine rI v1 (ZhJ okb.total (by omega) ?_)
  refine hs.setTot hy (Znu okb.total (by omega)) hbb rfl fun h2 hs2 u2 z2=>?_
  dsimp only at hs2
  have cb2:=XM cb u2 fun e=>by rw [hbb] at e;cases e;exact nbb tb rfl
  have hg2:=hg.put u2 fun k hk=>⟨1,by decide,hs.ts k hk⟩
  refine rP (Zt cb2 rfl) (Zh (rI (Zt hs2.cells rfl) ?_))
  refine Zds (fun st hh=>∃ i:Nat,st=((i:Int),())∧i≤3∧SkR hh T id wb sl (lb.set m (ZlC y1 s.seed x key i,mb)) ⟨s.seed,s.last,s.bs.set m (ZlC y1 s.seed x key i)⟩∧Gro id T0 T h0 hh∧obj hh b=some (.cells [.pointer (some ⟨wb,0,none⟩)].toArray T1 (0,0))) (fun st _=>(3 - st.1).toNat)
    ⟨0,rfl,by omega,hs2,hg2,cb2⟩ ?_
  rintro _ hh2 ⟨i,rfl,hi,hsi,hgi,cbi⟩ Q2 hQ2
  dsimp only
  refine Zj (fun q=>?_) fun q=>?_
  ·rw [Y9]
   have cw:=hsi.cells
   refine rP (Zt cbi rfl) (Zh (rI (Zt cw rfl) (rI (Zt cw rfl) (rI (Zt cw rfl) (rI (Zt cw rfl) (rI (Zt cw rfl) ?_))))))
   refine ZjC hkey fun h3 e3 z3=>?_
   have hs3:=hsi.ext e3
   rw [ZdM,ZiV (by simp (maxDischargeDepth:=60) only [Zs,Zr,evC,Nqa,Nqb,Nqc,Nqd,Nqe,reduceCtorEq]) (by simp (maxDischargeDepth:=60) only [Zs,Zr,evC,Nqa,Nqb,Nqc,Nqd,Nqe,reduceCtorEq])]
   have e4:Ext h3 (Zb.puts (h3.push (.cells [Value.int .i64 0,Value.int .i64 0].toArray 328 (0,0))) (sz h3) 0 [Value.int .i64 i,Value.int .i64 (Zn7 s.seed i key)]):=Z3 (ZO (Ext.refl _)) (Nat.le_refl _)
   have a4:obj (Zb.puts (h3.push (.cells [Value.int .i64 0,Value.int .i64 0].toArray 328 (0,0))) (sz h3) 0 [Value.int .i64 i,Value.int .i64 (Zn7 s.seed i key)]) (sz h3)=some (.cells [iv i,iv (Zn7 s.seed i key)].toArray 328 (0,0)):=by simp (maxDischargeDepth:=60) only [Zs,Zr,evC,Nqa,Nqb,Nqc,Nqd,Nqe,reduceCtorEq]
   dsimp only
   generalize Zb.puts (h3.push (.cells [Value.int .i64 0,Value.int .i64 0].toArray 328 (0,0))) (sz h3) 0 [Value.int .i64 i,Value.int .i64 (Zn7 s.seed i key)]=h4 at e4 a4 ⊢
   have hs4:=hs3.ext e4
   have w2:=elem hs4 (getset _) 2 _ rfl
   refine rM w2 (rI (Zt a4 rfl) (rI (Zt a4 rfl) (rM w2 (rI (Zt a4 rfl) (rI (Zt a4 rfl) ?_)))))
   obtain ⟨m1,m2⟩:=hs4.maps _ (List.mem_of_getElem? (getset _))
   have okbi:=(hs4.ok.bs (ZlC y1 s.seed x key i) (List.mem_of_getElem? (i:=m) (List.getElem?_set_self (by omega)))).1
   have held1:∀ {hh:Zb},obj hh (sz h3)=some (.cells [iv i,iv (Zn7 s.seed i key)].toArray 328 (0,0))→Zi hh [(sz h3,0,Value.int .i64 i),(sz h3,0+1,Value.int .i64 (Zn7 s.seed i key))]:=fun hc=>by
     rw [Zbd,Zbd,ZcR]
     exact ⟨Zt hc rfl,Zt hc rfl,trivial⟩
   have held2:Zi h4 [(bb,m*3+2,Value.map (some mb))]:=by rw [Zbd,ZcR];exact ⟨w2,trivial⟩
   refine m1.get i (Zn7 s.seed i key) ⟨held1 a4,held2,ZhJ (okbi.n _ _) (by omega) ⟨held1 a4,held2,?_⟩⟩
   refine hs4.setMap (getset _) (Znu (okbi.n _ _) (by omega)) fun h5 hs5 u5 z5=>?_
   have hwr:IntKind.wrap .i64 ((i:Int)+1)=((i+1:Nat):Int):=by rw [ZR (by omega) (by omega)];rfl
   dsimp only at hs5
   rw [setset,setset'] at hs5
   have cb5:=XM (Yh (Yh cbi e3) e4) u5 (nmb tb)
   rw [hwr]
   exact hQ2 _ _ ⟨i+1,rfl,by omega,hs5,((hgi.ext e3).ext e4).put u5 fun k hk=>⟨2,by decide,by rw [hk];exact m2⟩,cb5⟩ (by dsimp only;omega)
  ·have:i=3:=by omega
   subst this
   exact hQ _ _ (.inr ⟨rfl,hsi,hgi⟩) (by decide)
theorem ZrE {h:Zb} {T:Nat→Option Nat} {id:Int} {wb nb:Nat} {sl:Sl} {lb:List B3} {s:Sk} (hs:SkR h T id wb sl lb s) (hT:∀ k,T k≠none→k<sz h) {at_ x:Int} (hx:0≤x∧x≤1099511627776) {key:ByteArray} (hkey:key.size<9223372036854775808) {T2:TypeId}
    (cn:obj h nb=some (.cells [iv x].toArray T2 (0,0))) (tn:T nb=none) {K:Int→Zb→Prop} (hk:∀ h' T' sl' lb',SkR h' T' id wb sl' lb' (s.took at_ x key)→Gro id T T' h h'→K (Zao s.last at_) h') :
    Zaz (some ⟨wb,0,none⟩) at_ key ⟨some ⟨nb,0,none⟩,1,1⟩ K h:=by
  unfold Zaz Zc8
  rw [ZdM,Y9]
  have e1:Ext h (h.push (.cells [Value.pointer (some ⟨wb,0,none⟩)].toArray 185 (0,0))):=Ext.push _ _
  have cb:obj (h.push (.cells [Value.pointer (some ⟨wb,0,none⟩)].toArray 185 (0,0))) (sz h)=some (.cells [Value.pointer (some ⟨wb,0,none⟩)].toArray 185 (0,0)):=by simp (maxDischargeDepth:=60) only [Zs,Zr,evC,Nqa,Nqb,Nqc,Nqd,Nqe,reduceCtorEq]
  have z1:sz (h.push (.cells [Value.pointer (some ⟨wb,0,none⟩)].toArray 185 (0,0)))=sz h+1:=XB
  generalize h.push (.cells [Value.pointer (some ⟨wb,0,none⟩)].toArray 185 (0,0))=h1 at e1 cb z1 ⊢
  have hs1:=hs.ext e1
  have hT1:∀ k,T k≠none→k<sz h1:=fun k hk=>by have:=hT k hk;omega
  have cn1:=Yh cn e1
  have hg1:Gro id T T h h1:=(Gro.refl hT).ext e1
  have htn:∀ k,sz h≤k→T k=none:=fun k hk=>by
    cases hx:T k with
    | none=>rfl
    | some x=>have:=hT k (by rw [hx];exact fun e=>by cases e);omega
  refine rP (Zt cb rfl) (ZoA hs1.cells ?_)
  unfold Sk.took at hk
  rw [Y9]
  have hnot1:(Zao s.last at_ ==1)=false:=by rcases Zl6 s.last at_ with e | e | e<;>rw [e]<;>decide
  refine XE hnot1 ?_
  refine ⟨fun q=>?_,fun q=>?_⟩
  ·have q2:Zao s.last at_=2:=by simpa using q
   rw [if_neg (by omega)] at hk
   exact hk h1 T sl lb hs1 hg1
  have q2:Zao s.last at_≠2:=by simpa using q
  refine Zds (fun st hh=>(st=(0,())∨st=(1,()))∧hh=h1) (fun st _=>(1 - st.1).toNat) ⟨.inl rfl,rfl⟩ ?_
  rintro _ hh ⟨rfl | rfl,rfl⟩ Q hQ
  ·dsimp only
   refine ZaS (by simp) ⟨nb,0,rfl,by decide,by decide,rI (Zt cn1 rfl) ?_⟩
   rw [Y9]
   exact XE (decide_eq_false (by omega)) (XE (decide_eq_false (by omega)) (hQ _ _ ⟨.inr rfl,rfl⟩ (by decide)))
  dsimp only
  refine XE (by simp) ?_
  refine ⟨fun q3=>?_,fun q3=>?_⟩
  ·have q4:Zao s.last at_≠0:=by simpa using q3
   rw [if_neg q4] at hk
   exact hk hh T sl lb hs1 hg1
  have hw:Zao s.last at_=0:=by simpa using q3
  clear q q2 q3 hnot1 hQ Q
  rw [if_pos hw,hw] at hk
  obtain ⟨a0,a1,a2⟩:=Ze5 hw
  have lw:=ZS hs1.cells
  have lcb:=ZS cb
  have lsl:∀ k,sl.blk=some k→k<sz h:=fun k hk=>hT k (by rw [hs.ts k hk];exact fun e=>by cases e)
  have lwb:wb<sz h:=hT wb (by rw [hs.tw];exact fun e=>by cases e)
  have nsw:sl.blk≠some wb:=fun e=>by
    have:=hs.ts _ e
    rw [hs.tw] at this
    exact Ziq (by decide) (Option.some.inj this)
  refine rP (Zt cb rfl) (Zh (ZhD hs1.cells (by simp) YW fun h2 cw2 u2 z2=>?_))
  have cb2:=XM cb u2 (by omega)
  have cw2':obj h2 wb=some (.cells [iv 1000000,iv 10,iv 3,iv 256,.int .u64 s.seed,slV sl,iv at_].toArray 220 (0,0)):=cw2
  clear cw2
  refine rP (Zt cb2 rfl) (Zh (rI (Zt cw2' rfl) (rI (Zt cw2' rfl) (rI (Zt cw2' rfl) (rI (Zt cw2' rfl) (rI (Zt cw2' rfl) ?_))))))
  refine ZkJ a0 a1 fun h3 e3 z3=>?_
  have cb3:=Yh cb2 e3
  have cw3:=Yh cw2' e3
  rw [ZdM]
  have e4:Ext h3 (h3.push (.cells [Value.int .i64 0].toArray 3 (0,0))):=Ext.push _ _
  have c4:obj (h3.push (.cells [Value.int .i64 0].toArray 3 (0,0))) (sz h3)=some (.cells [Value.int .i64 0].toArray 3 (0,0)):=by simp (maxDischargeDepth:=60) only [Zs,Zr,evC,Nqa,Nqb,Nqc,Nqd,Nqe,reduceCtorEq]
  have z4:sz (h3.push (.cells [Value.int .i64 0].toArray 3 (0,0)))=sz h3+1:=XB
  generalize h3.push (.cells [Value.int .i64 0].toArray 3 (0,0))=h4 at e4 c4 z4 ⊢
  refine ZhD c4 (by decide) YW fun h5 c5 u5 z5=>?_
  have c5':obj h5 (sz h3)=some (.cells [iv (bgn at_)].toArray 3 (0,0)):=c5
  clear c5
  have cb5:=XM (Yh cb3 e4) u5 (by omega)
  have cw5:=XM (Yh cw3 e4) u5 (by omega)
  have lw5:=ZS cw5
  have hb0:0≤bgn at_∧bgn at_≤at_:=by unfold bgn;omega
  have u15:Upd (fun k=>k=wb) hh h5:=by
    refine ⟨by rw [ZE,ZE];omega,fun k hk hn=>?_⟩
    have hk':k<sz hh:=hk
    rw [u5.old k (by rw [ZE];omega) (by omega),e4.old k (by rw [ZE];omega),e3.old k (by rw [ZE];omega),u2.old k hk hn]
  have ho5:Own h5 0 sl 3 (lb.flatMap b3L):=hs1.own.congr fun k hk hl _=>u15.old k hl fun e=>nsw (e▸hk)
  refine rP (Zt cb5 rfl) (rP (Zt cb5 rfl) (Zh (rL (Zt cw5 rfl) ?_)))
  refine ZrD ⟨hb0.1,by omega⟩ c5' cb5 (Zt cw5 rfl) lw5 ho5 (fun e=>by have:=lsl _ e;omega) (fun e=>by have:=lsl _ e;omega) nsw fun t h6 ho6 hb6 u6=>?_
  have cb6:=XM cb5 u6 (fun e=>by have:=lsl _ e;omega)
  have c6_:=XM c5' u6 (fun e=>by have:=lsl _ e;omega)
  have cw6:=XM cw5 u6 nsw
  have held:∀ {hh:Zb} {b o:Nat} {v:Value},ZL o (obj hh b)=some v→Zi hh [(b,o,v)]:=fun hc=>by rw [Zbd,ZcR];exact ⟨hc,trivial⟩
  refine ⟨held (Zt cb6 rfl),held (Zt cb6 rfl),Zh (ZhD cw6 (by simp) (by rw [Zrz];exact ZgR) fun h7 cw7 u7 z7=>?_)⟩
  have cw7':obj h7 wb=some (.cells [iv 1000000,iv 10,iv 3,iv 256,.int .u64 s.seed,slV t,iv at_].toArray 220 (0,0)):=cw7
  clear cw7
  have z6:sz h5≤sz h6:=u6.size
  have cb7:=XM cb6 u7 (by omega)
  have c7:=XM c6_ u7 (by omega)
  have ntw:t.blk≠some wb:=fun e=>by
    rcases hb6 with h9 | h9
    ·exact nsw (h9▸e)
    ·rw [h9] at e;cases e
  have ho7:=ho6.congr (h':=h7) fun k hk hl _=>u7.old k hl fun e=>ntw (e▸hk)
  have u17:Upd (fun k=>k=wb∨sl.blk=some k) hh h7:=(((u15.mono fun k _ hk=> .inl hk).trans (u6.mono fun k _ hk=> .inr hk))).trans (u7.mono fun k _ hk=> .inl hk)
  refine ZoW (fun _ h8=>∃ T' sl' lb',SkR h8 T' id wb sl' lb' (s.opened at_)∧Gro id T T' h h8∧T' (sz h)=none∧obj h8 (sz h)=some (.cells [.pointer (some ⟨wb,0,none⟩)].toArray 185 (0,0))) ?_ ?_
  ·rintro _ h8 ⟨T',sl',lb',hs8,hg8,tb8,cb8⟩
   obtain ⟨bk,hbk,_⟩:=ZpL at_ s.bs
   have tn8:T' nb=none:=by
     cases hx:T' nb with
     | none=>rfl
     | some q =>
       rcases hg8.new nb (by rw [hx];exact fun e=>by cases e) with h9 | h9
       ·exact (h9 tn).elim
       ·have:=ZS cn;omega
   have cn8:=XM cn hg8.upd (fun ⟨j,_,e⟩=>by rw [tn] at e;cases e)
   refine Zpx hs8 hg8 (bk:=bk) hbk hx hkey cb8 cn8 tb8 tn8 fun h9 hs9 hg9=>hk h9 T' sl' (lb'.set (lb'.length - 1) (ZlC bk s.seed x key 3,(lb'[lb'.length - 1]?.map (·.2)).getD 0)) ?_ hg9
   unfold Sk.add
   rw [ZpR hbk]
   exact hs9
  ·intro Q hQ
   exact Zpw hs hT hw cb7 c7 cw7' (by omega) ho7 hb6 ((e1.upd _).trans u17) fun h' T' sl' lb' a1 a2 a3 a4=>hQ _ _ ⟨T',sl',lb',a1,a2,a3,a4⟩
theorem ZjT {h:Zb} {T:Nat→Option Nat} {id:Int} {wb:Nat} {sl:Sl} {lb:List B3} {s:Sk} (hs:SkR h T id wb sl lb s) (hT:∀ k,T k≠none→k<sz h) {at_ x:Int} (hx:0≤x∧x≤1099511627776) {key:ByteArray} (hkey:key.size<9223372036854775808)
    {K:Zb→Prop} (hk:∀ h' T' sl' lb',SkR h' T' id wb sl' lb' (s.took at_ x key)→Gro id T T' h h'→K h'):ZaN (some ⟨wb,0,none⟩,()) at_ key x K h:=by
  unfold ZaN Zdw
  simp (maxDischargeDepth:=60) only [Zs,Zr,evC,Nqa,Nqb,Nqc,Nqd,Nqe,reduceCtorEq]
  have e1:Ext h ((h.push (.cells [Value.pointer (some ⟨wb,0,none⟩)].toArray 190 (0,0))).push (.cells [iv x].toArray 3 (0,0))):=ZO (ZO (Ext.refl _))
  have c1:obj ((h.push (.cells [Value.pointer (some ⟨wb,0,none⟩)].toArray 190 (0,0))).push (.cells [iv x].toArray 3 (0,0))) (sz h+1)=some (.cells [iv x].toArray 3 (0,0)):=by simp (maxDischargeDepth:=60) only [Zs,Zr,evC,Nqa,Nqb,Nqc,Nqd,Nqe,reduceCtorEq]
  generalize (h.push (.cells [Value.pointer (some ⟨wb,0,none⟩)].toArray 190 (0,0))).push (.cells [iv x].toArray 3 (0,0))=h1 at e1 c1 ⊢
  have hT1:∀ k,T k≠none→k<sz h1:=fun k hk=>Nat.lt_of_lt_of_le (hT k hk) e1.size
  have tn:T (sz h+1)=none:=by
    cases hx:T (sz h+1) with
    | none=>rfl
    | some q=>have:=hT (sz h+1) (by rw [hx];exact fun e=>by cases e);omega
  refine ZrE (hs.ext e1) hT1 hx hkey c1 tn fun h' T' sl' lb' hs' hg=>hk h' T' sl' lb' hs' ?_
  exact ⟨(e1.upd _).trans hg.upd,hg.keep,fun k hk=>(hg.new k hk).imp (fun h=>h) fun h9=>Nat.le_trans e1.size h9,hg.lt⟩
theorem ZpO {h:Zb} {T:Nat→Option Nat} {id seed:Int} (hT:∀ k,T k≠none→k<sz h) {K:Option Addr→Int→Zb→Prop} (hk:∀ h' T',SkR h' T' id (sz h) ⟨none,0,0⟩ [] ⟨seed,0,[]⟩→Ext h h'→(∀ k t,T k=some t→T' k=some t)→(∀ k,T' k≠none→T k≠none∨sz h≤k)→(∀ k,T' k≠none→k<sz h')→K (some ⟨sz h,0,none⟩) 0 h') :
    Zd4 1000000 10 3 256 seed K h:=by
  unfold Zd4 Zgf
  have nv:∀ {n most:Int} {K:Bool→Zb→Prop} {h:Zb},1≤n∧n≤most→K true h→ZcK n most K h:=fun {n most K h} hn hk=>by
    unfold ZcK ZeV
    refine ZaS (decide_eq_true (by omega)) ?_
    rw [YN,decide_eq_true hn.2]
    exact hk
  refine Za (nv (by decide) (Zl (nv (by decide) (Zl (nv (by decide) (Zl (nv (by decide) ?_)))))))
  rw [YN]
  refine Zl ⟨by decide,?_⟩
  rw [YN]
  refine XE (by decide) ?_
  rw [ZdM,Y9]
  have htn:∀ k,sz h≤k→T k=none:=fun k hk=>by
    cases hx:T k with
    | none=>rfl
    | some x=>have:=hT k (by rw [hx];exact fun e=>by cases e);omega
  refine hk _ (fun k=>if k=sz h then some (tg id 0) else T k) ⟨⟨Int.le_refl _,(by decide:(0:Int)≤1152921504606846976),(fun b hb=>by cases hb),List.Pairwise.nil,Nat.zero_le _⟩,?_,Own.nil _ _ _,rfl,List.nodup_nil,(fun x hx=>by cases hx),if_pos rfl,(fun k hk=>by cases hk)⟩ (Ext.push _ _) (fun k t hk=>?_) (fun k hk=>?_) fun k hk=>?_
  ·simp (maxDischargeDepth:=60) only [Zs,Zr,evC,Nqa,Nqb,Nqc,Nqd,Nqe,reduceCtorEq]
   rfl
  ·rw [if_neg]
   ·exact hk
   ·intro e
    rw [e,htn _ (Nat.le_refl _)] at hk
    cases hk
  ·split at hk
   ·right;omega
   ·exact .inl hk
  ·rw [XB]
   split at hk
   ·omega
   ·have:=hT k hk;omega
def Win.used (w:Win) (at_:Int):Int:=if Zao w.last at_=0 then w.sum at_ else 0
def Win.took (w:Win) (at_ n:Int):Win:=if Zao w.last at_=0 then w.add at_ n else w
theorem Zlf {h:Zb} {wb mb:Nat} {w:Win} (hw:Zoj h wb mb w) {at_:Int} {x:ByteArray} {K:Int→Zb→Prop} (hk:∀ h',Ext h h'→K (w.used at_) h'):Za5 (some ⟨wb,0,none⟩,()) at_ x K h:=by
  unfold Za5 ZdN
  simp (maxDischargeDepth:=60) only [Zs,Zr,evC,Nqa,Nqb,Nqc,Nqd,Nqe,reduceCtorEq]
  have l3:=ZS hw.cells
  have l4:=hw.mlt
  refine ZuG (hw.congr (by simp (maxDischargeDepth:=60) only [Zs,Zr,evC,Nqa,Nqb,Nqc,Nqd,Nqe,reduceCtorEq,YH l3]) (by simp (maxDischargeDepth:=60) only [Zs,Zr,evC,Nqa,Nqb,Nqc,Nqd,Nqe,reduceCtorEq,YH l4])) fun h5 e5=>?_
  simp (maxDischargeDepth:=60) only [Zs,Zr,evC,Nqa,Nqb,Nqc,Nqd,Nqe,reduceCtorEq,c6]
  exact hk _ (((Ext.push _ _).trans e5).trans (Z3 (ZO (Ext.refl _)) (Nat.le_refl _)))
theorem Zlg {h:Zb} {wb mb:Nat} {w:Win} (hw:Zoj h wb mb w) {at_ n:Int} (hn:0≤n∧n≤4611686018427387904) {x:ByteArray} {K:Zb→Prop} (hk:∀ h',Zoj h' wb mb (w.took at_ n)→Upd (fun k=>k=wb∨k=mb) h h'→K h'):Za6 (some ⟨wb,0,none⟩,()) at_ x n K h:=by
  unfold Za6 ZdO
  simp (maxDischargeDepth:=60) only [Zs,Zr,evC,Nqa,Nqb,Nqc,Nqd,Nqe,reduceCtorEq]
  have l3:=ZS hw.cells
  have l4:=hw.mlt
  have e1:Ext h ((h.push (.cells [Value.pointer (some ⟨wb,0,none⟩)].toArray 184 (0,0))).push (.cells (c6L (c6 n)).toArray 305 (0,0))):=ZO (ZO (Ext.refl _))
  refine ZuL (hw.congr (e1.old wb l3) (e1.old mb l4)) hn (s:=⟨some ⟨sz h+1,0,none⟩,1,1⟩) ?_ ?_ fun h5 hw5 u5=>hk h5 hw5 ((e1.upd _).trans u5)
  ·have:=(Own.newC (h:=h.push (.cells [Value.pointer (some ⟨wb,0,none⟩)].toArray 184 (0,0))) (cells:=c6L (c6 n)) (t:=305) (size:=6) (n:=1) rfl (by decide)).row
   rw [ZE,XB] at this
   exact this
  ·intro b hb
   simp [Sl.blk] at hb
   omega
def Cnt.used (c:Cnt) (at_:Int) (text:ByteArray):Int:=match c with
  | .rate w=>w.used at_
  | .value s=>s.used at_ text
  | .leased=>0
def Cnt.took (c:Cnt) (at_:Int) (text:ByteArray) (n:Int):Cnt:=match c with
  | .rate w=> .rate (w.took at_ n)
  | .value s=> .value (s.took at_ n text)
  | .leased=> .leased
theorem Cnt.took_kind (c:Cnt) (at_:Int) (text:ByteArray) (n:Int):(c.took at_ text n).kind=c.kind:=by cases c<;>rfl
def Ztc (id:Int) (l:List F4):Int:=l.foldl (fun n t=>if t.2.1=id then IntKind.wrap .i64 (n+t.2.2.1) else n) 0
theorem Zru (id:Int) (l:List F4) (t:F4):Ztc id (l++[t])=if t.2.1=id then IntKind.wrap .i64 (Ztc id l+t.2.2.1) else Ztc id l:=by unfold Ztc;rw [List.foldl_append];rfl
def Zg9 (S:Srv) (at_:Int) (f:F4) (text:ByteArray):Int :=
  if f.2.2.1=3 then Ztc f.1 (XT at_ S.out) else match S.counts f.1 with
    | some c=>c.used at_ text
    | none=>0
theorem Zrf {h:Zb} {T:Nat→Option Nat} {sb cb nb:Nat} {sp so:Sl} {ls:List Sp3} {S:Srv} (hR:ZdE h T sb cb nb sp so ls S) (hl:S.out.length≤4096) {at_:Int} {f:F4} (hf:f.2.2.1≠3→∃ c,S.counts f.1=some c) {text:ByteArray} (ht:text.size<9223372036854775808) {K:Int→Zb→Prop}
    (hk:∀ h',Ext h h'→K (Zg9 S at_ f text) h'):Zav (some ⟨sb,0,none⟩) at_ f text K h:=by
  unfold Zav Zc1
  have l0:=ZS hR.cells
  have e1:Ext h (h.push (.cells (f4L f).toArray 46 (0,0))):=Ext.push _ _
  have hR1:=hR.ext e1
  have c1:obj (h.push (.cells (f4L f).toArray 46 (0,0))) (sz h)=some (.cells (f4L f).toArray 46 (0,0)):=by simp (maxDischargeDepth:=60) only [Zs,Zr,evC,Nqa,Nqb,Nqc,Nqd,Nqe,reduceCtorEq]
  have hk1:∀ h',Ext (h.push (.cells (f4L f).toArray 46 (0,0))) h'→K (Zg9 S at_ f text) h':=fun h' e=>hk h' (e1.trans e)
  rw [ZdM]
  change _ at c1
  generalize hh1:h.push (.cells (f4L f).toArray 46 (0,0))=h1 at c1 hk1 hR1
  rw [show h.push (.cells [Value.int .i64 f.1,Value.int .i64 f.2.1,Value.int .i64 f.2.2.1,Value.int .i64 f.2.2.2.1].toArray 46)=h1 from hh1]
  have cl:=hR1.cells
  simp only [f4L] at c1
  simp (maxDischargeDepth:=60) only [Zs,Zr,evC,Nqa,Nqb,Nqc,Nqd,Nqe,reduceCtorEq,c1]
  refine ⟨fun q=>?_,fun q=>?_⟩
  ·have q3:f.2.2.1≠3:=by simpa using q
   obtain ⟨c,hc⟩:=hf q3
   obtain ⟨m,hm,_,hcs⟩:=hR1.counts
   obtain ⟨hid,v,hv,hr⟩:=hcs f.1 c hc
   have hu:Zg9 S at_ f text=c.used at_ text:=by unfold Zg9;rw [if_neg q3,hc]
   rw [hu] at hk1
   simp (maxDischargeDepth:=60) only [Zs,Zr,evC,Nqa,Nqb,Nqc,Nqd,Nqe,reduceCtorEq,cl,c1]
   refine hm.get f.1 ?_
   rw [hv]
   refine ⟨(v,c.kind,()),rfl,?_⟩
   dsimp only
   cases c with
   | rate w =>
     obtain ⟨wb,mb,rfl,hw,_,_⟩:=hr
     exact .inl ⟨(some ⟨wb,0,none⟩,()),rfl,Zlf hw fun h7 e7=>hk1 h7 e7⟩
   | value s =>
     obtain ⟨wb,sl,lb,rfl,hs⟩:=hr
     exact .inr (.inl ⟨(some ⟨wb,0,none⟩,()),rfl,ZjS hs ht fun h7 e7=>hk1 h7 e7⟩)
   | leased =>
     cases hr
     refine .inr (.inr (.inl ⟨(),rfl,?_⟩))
     unfold Zbo ZcZ
     simp (maxDischargeDepth:=60) only [Zs,Zr,evC,Nqa,Nqb,Nqc,Nqd,Nqe,reduceCtorEq]
     exact hk1 _ (Ext.push _ _)
  ·have q3:f.2.2.1=3:=by simpa using q
   have hu:Zg9 S at_ f text=Ztc f.1 (XT at_ S.out):=by unfold Zg9;rw [if_pos q3]
   rw [hu] at hk1
   refine Zh8 cl hR1.out hl fun t h2 ho2 e2=>?_
   have hlen:=Zas YU ho2.row (by decide)
   have hbig:=ho2.big
   have hcap:=ho2.cap
   refine Zds (fun st hh=>∃ i:Nat,st=(Ztc f.1 ((XT at_ S.out).take i),(i:Int),())∧i≤(XT at_ S.out).length∧Ext h2 hh) (fun st _=>(t.len - st.2.1).toNat) ⟨0,rfl,by omega,Ext.refl _⟩ ?_
   rintro _ hh ⟨i,rfl,hi,he⟩ Q hQ
   dsimp only
   refine Zj (fun q=>?_) fun q=>?_
   ·obtain ⟨a,ha⟩:∃ a,(XT at_ S.out)[i]?=some a:=⟨_,List.getElem?_eq_getElem (by omega)⟩
    obtain ⟨b,o,_,_,hidx,hcell⟩:=ZaI YU (ho2.row.ext he) ha (by decide)
    refine hidx rfl ?_
    have v0:=hcell 0 _ rfl
    have v1:=hcell 1 _ rfl
    have v2:=hcell 2 _ rfl
    have v3:=hcell 3 _ rfl
    simp only [Nat.add_zero] at v0
    have cc:=Yh (Yh c1 e2) he
    have lc:=ZS cc
    have hwr:IntKind.wrap .i64 ((i:Int)+1)=((i+1:Nat):Int):=by rw [ZR (by omega) (by omega)];rfl
    have st:Ztc f.1 ((XT at_ S.out).take (i+1))=if a.2.1=f.1 then IntKind.wrap .i64 (Ztc f.1 ((XT at_ S.out).take i)+a.2.2.1) else Ztc f.1 ((XT at_ S.out).take i):=by
      rw [List.take_add_one,ha]
      exact Zru _ _ _
    simp (maxDischargeDepth:=60) only [Zs,Zr,evC,Nqa,Nqb,Nqc,Nqd,Nqe,reduceCtorEq,v0,v1,v2,v3,cc,YH lc]
    refine ⟨fun q1=>?_,fun q1=>?_⟩
    ·have q2:a.2.1=f.1:=by simpa using q1
     refine hQ _ _ ⟨i+1,?_,by omega,Z3 (ZO he) (by have:=X6 he;omega)⟩ (by rw [hwr];dsimp only;omega)
     rw [hwr,st,if_pos q2]
    ·have q2:¬ a.2.1=f.1:=by simpa using q1
     refine hQ _ _ ⟨i+1,?_,by omega,Z3 (ZO he) (by have:=X6 he;omega)⟩ (by rw [hwr];dsimp only;omega)
     rw [hwr,st,if_neg q2]
   ·rw [List.take_of_length_le (by omega)]
    exact hk1 hh (e2.trans he)
def ZnE (used:Int) (f:F4) (r:Rq):Bool:=decide (used>IntKind.wrap .i64 (f.2.1 - r.2.2.2.1))
def Zr8 (used:Int) (f:F4) (r:Rq):Int:=IntKind.wrap .i64 (IntKind.wrap .i64 (f.2.1 - used) - r.2.2.2.1)
def ZoE (used:Int) (f:F4):An:=(0,2,Zqf (IntKind.wrap .i64 (f.2.1 - used)) 0,0,0,())
def Srv.take (S:Srv) (at_:Int) (f:F4) (r:Rq):Srv:={ S with counts:=fun i=>if i=f.1 then (S.counts f.1).map (fun c=>c.took at_ r.2.2.2.2.1 r.2.2.2.1) else S.counts i }
def Srv.lease (S:Srv) (at_:Int) (f:F4) (r:Rq):Srv:={ S with out:=XT at_ S.out++[(S.next,f.1,r.2.2.2.1,IntKind.wrap .i64 (at_+f.2.2.2.1),())],next:=IntKind.wrap .i64 (S.next+1)}
def Zjq (S:Srv) (at_:Int) (f:F4) (r:Rq):An × Srv :=
  if ZnE (Zg9 S at_ f r.2.2.2.2.1) f r then (ZoE (Zg9 S at_ f r.2.2.2.2.1) f,S)
  else if f.2.2.1≠3 then ((0,1,Zr8 (Zg9 S at_ f r.2.2.2.2.1) f r,0,0,()),S.take at_ f r)
  else if (XT at_ S.out).length≥1024 then ((0,6,0,0,0,()),{ S with out:=XT at_ S.out })
  else ((0,1,Zr8 (Zg9 S at_ f r.2.2.2.2.1) f r,f.2.2.2.1,S.next,()),S.lease at_ f r)
theorem ZpU {h:Zb} {T:Nat→Option Nat} {sb cb nb:Nat} {sp so:Sl} {ls:List Sp3} {S:Srv} (hR:ZdE h T sb cb nb sp so ls S) (hl:S.out.length≤4096) {at_:Int} {f:F4} (hf:f.2.2.1≠3→∃ c,S.counts f.1=some c) {r:Rq} (hr:0≤r.2.2.2.1∧r.2.2.2.1≤1099511627776) (hrs:r.2.2.2.2.1.size<9223372036854775808) {K:An→Zb→Prop}
    (hk:∀ h' T' so',ZdE h' T' sb cb nb sp so' ls (Zjq S at_ f r).2→Stp T T' h h'→K (Zjq S at_ f r).1 h'):Zac (some ⟨sb,0,none⟩) at_ f r K h:=by
  unfold Zac Zco
  have l0:=ZS hR.cells
  obtain ⟨f1,f2,f3,f4,_⟩:=f
  obtain ⟨r1,r2,r3,r4,r5,r6,_⟩:=r
  dsimp only at hf hr hrs
  have e1:Ext h (((h.push (.cells [iv f1,iv f2,iv f3,iv f4].toArray 46 (0,0))).push (.cells [iv r1,.int .u8 r2,iv r3,iv r4,.string r5,iv r6].toArray 39 (0,0))).push (.cells [iv 0,.int .u8 0,iv 0,iv 0,iv 0].toArray 57 (0,0))) :=
    ZO (ZO (ZO (Ext.refl _)))
  simp (maxDischargeDepth:=60) only [Zs,Zr,evC,Nqa,Nqb,Nqc,Nqd,Nqe,reduceCtorEq]
  generalize hh1:(((h.push (.cells [iv f1,iv f2,iv f3,iv f4].toArray 46 (0,0))).push (.cells [iv r1,.int .u8 r2,iv r3,iv r4,.string r5,iv r6].toArray 39 (0,0))).push (.cells [iv 0,.int .u8 0,iv 0,iv 0,iv 0].toArray 57 (0,0)))=h1 at e1 ⊢
  have a1:obj h1 (sz h)=some (.cells [iv f1,iv f2,iv f3,iv f4].toArray 46 (0,0)):=by subst hh1;simp (maxDischargeDepth:=60) only [Zs,Zr,evC,Nqa,Nqb,Nqc,Nqd,Nqe,reduceCtorEq]
  have b1:obj h1 (sz h+1)=some (.cells [iv r1,.int .u8 r2,iv r3,iv r4,.string r5,iv r6].toArray 39 (0,0)):=by subst hh1;simp (maxDischargeDepth:=60) only [Zs,Zr,evC,Nqa,Nqb,Nqc,Nqd,Nqe,reduceCtorEq]
  have d1:obj h1 (sz h+2)=some (.cells [iv 0,.int .u8 0,iv 0,iv 0,iv 0].toArray 57 (0,0)):=by subst hh1;simp (maxDischargeDepth:=60) only [Zs,Zr,evC,Nqa,Nqb,Nqc,Nqd,Nqe,reduceCtorEq]
  have hR1:=hR.ext e1
  refine Zrf hR1 hl (f:=(f1,f2,f3,f4,())) hf hrs fun h2 e2=>?_
  have hR2:=hR1.ext e2
  have a2:=Yh a1 e2
  have b2:=Yh b1 e2
  have d2:=Yh d1 e2
  generalize hu:Zg9 S at_ (f1,f2,f3,f4,()) r5=u at hk ⊢
  have la:=ZS a2
  have lb:=ZS b2
  have ld:=ZS d2
  have e12:=e1.trans e2
  simp (maxDischargeDepth:=60) only [Zs,Zr,evC,Nqa,Nqb,Nqc,Nqd,Nqe,reduceCtorEq,a2,b2,d2,ZgT la,YH la,ZgT lb,YH lb,ZgT ld,YH ld,ZpQ la,Zik la,ZpQ lb,Zik lb,ZpQ ld,Zik ld]
  have gv:Zjq S at_ (f1,f2,f3,f4,()) (r1,r2,r3,r4,r5,r6,())=if ZnE u (f1,f2,f3,f4,()) (r1,r2,r3,r4,r5,r6,()) then (ZoE u (f1,f2,f3,f4,()),S)
    else if f3≠3 then ((0,1,Zr8 u (f1,f2,f3,f4,()) (r1,r2,r3,r4,r5,r6,()),0,0,()),S.take at_ (f1,f2,f3,f4,()) (r1,r2,r3,r4,r5,r6,()))
    else if (XT at_ S.out).length≥1024 then ((0,6,0,0,0,()),{ S with out:=XT at_ S.out })
    else ((0,1,Zr8 u (f1,f2,f3,f4,()) (r1,r2,r3,r4,r5,r6,()),f4,S.next,()),S.lease at_ (f1,f2,f3,f4,()) (r1,r2,r3,r4,r5,r6,())):=by unfold Zjq;rw [hu]
  rw [gv] at hk
  clear gv
  refine Zj (fun q=>?_) fun q=>?_
  ·rw [if_pos (by unfold ZnE;simpa using q)] at hk
   exact hk _ T so (hR.ext (Z3 e12 (by omega))) ⟨(Z3 e12 (by omega)).upd _,fun _ h=> .inl h⟩
  rw [if_neg (by unfold ZnE;simpa using q)] at hk
  have e3:Ext h2 (Zb.puts (h2.push (.cells [iv 0,.int .u8 0,iv 0,iv 0,iv 0].toArray 57 (0,0))) (sz h2) 0 [iv 0,.int .u8 1,iv (IntKind.wrap .i64 (IntKind.wrap .i64 (f2 - u) - r4)),iv 0,iv 0]):=Z3 (ZO (Ext.refl _)) (Nat.le_refl _)
  have g3:obj (Zb.puts (h2.push (.cells [iv 0,.int .u8 0,iv 0,iv 0,iv 0].toArray 57 (0,0))) (sz h2) 0 [iv 0,.int .u8 1,iv (IntKind.wrap .i64 (IntKind.wrap .i64 (f2 - u) - r4)),iv 0,iv 0]) (sz h2)=some (.cells [iv 0,.int .u8 1,iv (IntKind.wrap .i64 (IntKind.wrap .i64 (f2 - u) - r4)),iv 0,iv 0].toArray 57 (0,0)):=by
    simp (maxDischargeDepth:=60) only [Zs,Zr,evC,Nqa,Nqb,Nqc,Nqd,Nqe,reduceCtorEq]
  have hl3:Zr8 u (f1,f2,f3,f4,()) (r1,r2,r3,r4,r5,r6,())=IntKind.wrap .i64 (IntKind.wrap .i64 (f2 - u) - r4):=rfl
  rw [hl3] at hk
  have ls2:=ZS hR2.cells
  simp only [YH ls2,if_false]
  generalize IntKind.wrap .i64 (IntKind.wrap .i64 (f2 - u) - r4)=lft at hk e3 g3 ⊢
  generalize Zb.puts (h2.push (.cells [iv 0,.int .u8 0,iv 0,iv 0,iv 0].toArray 57 (0,0))) (sz h2) 0 [iv 0,.int .u8 1,iv lft,iv 0,iv 0]=h3 at e3 g3 ⊢
  have hR3:=hR2.ext e3
  have a3:=Yh a2 e3
  have b3:=Yh b2 e3
  have d3:=Yh d2 e3
  have e13:=e12.trans e3
  have c3:=hR3.cells
  have z2:=X6 e12
  have z3:=X6 e3
  have lgg:=ZS g3
  have ndg:(sz h2=sz h+2)=False:=eq_false (by omega)
  have ngd:(sz h+2=sz h2)=False:=eq_false (by omega)
  have sbh:=ZS hR.cells
  have hTn:∀ k,sz h≤k→T k=none:=fun k hk=>by
    cases hT:T k with
    | none=>rfl
    | some t =>
      have:=hR.lt k (by rw [hT];exact fun e=>by cases e)
      omega
  have fin:∀ (h9:Zb) (T9:Nat→Option Nat) (so9:Sl) (S9:Srv) (a:An) (vs:List Value),ZdE h9 T9 sb cb nb sp so9 ls S9→Upd (fun k=>T k≠none) h h9→((∀ k,T9 k≠none→T k≠none∨sz h≤k)∧T9 (sz h+2)=none) →
      (∀ h' T' so',ZdE h' T' sb cb nb sp so' ls S9→Stp T T' h h'→K a h')→K a (h9.puts (sz h+2) 0 vs):=fun h9 T9 so9 S9 a vs hR9 u9 ⟨t9,n9⟩ hk9=>by
    refine hk9 _ T9 so9 (hR9.congr (by rw [Zdi];exact Nat.le_refl _) fun k hk=>Zce fun e=>?_) ⟨Zcc u9 (.inl (by omega)),fun k hk=>(t9 k hk).imp id fun h=>h⟩
    subst e
    exact hk n9
  refine ⟨fun q1=>?_,fun q1=>?_⟩
  ·have q3:f3≠3:=by simpa using q1
   rw [if_pos q3] at hk
   obtain ⟨c,hc⟩:=hf q3
   obtain ⟨m,hm,hm1,hcs⟩:=hR3.counts
   obtain ⟨hid,v,hv,hr9⟩:=hcs f1 c hc
   simp (maxDischargeDepth:=60) only [Zs,Zr,evC,Nqa,Nqb,Nqc,Nqd,Nqe,reduceCtorEq,hR2.cells]
   refine hm.get f1 ?_
   rw [hv]
   refine ⟨(v,c.kind,()),rfl,?_⟩
   dsimp only
   have fin:∀ h4 T',ZdE h4 T' sb cb nb sp so ls (S.take at_ (f1,f2,f3,f4,()) (r1,r2,r3,r4,r5,r6,()))→Stp T T' h3 h4→Upd (fun k=>T k≠none) h3 h4→(∀ k,T' k=none→k<sz h4)→True:=fun _ _ _ _ _ _=>trivial
   have hS:∀ c',c.took at_ r5 r4=c'→S.take at_ (f1,f2,f3,f4,()) (r1,r2,r3,r4,r5,r6,())={ S with counts:=fun i=>if i=f1 then some c' else S.counts i }:=fun c' hc'=>by
     subst hc'
     unfold Srv.take
     dsimp only
     rw [hc]
     rfl
   have done:∀ h4 T',ZdE h4 T' sb cb nb sp so ls (S.take at_ (f1,f2,f3,f4,()) (r1,r2,r3,r4,r5,r6,()))→Upd (fun k=>T k≠none) h3 h4→(∀ k,T' k≠none→T k≠none∨sz h3≤k) →
       ∃ n,ZL 0 (obj h4 (sz h2))=some (Value.int .i64 n)∧∃ n_1,ZL 1 (obj h4 (sz h2))=some (Value.int .u8 n_1)∧∃ n_2,ZL 2 (obj h4 (sz h2))=some (Value.int .i64 n_2)∧∃ n_3,ZL 3 (obj h4 (sz h2))=some (Value.int .i64 n_3)∧∃ n_4,ZL 4 (obj h4 (sz h2))=some (Value.int .i64 n_4) ∧
         sts h4 (sz h+2) 0 [Value.int .i64 n,Value.int .u8 n_1,Value.int .i64 n_2,Value.int .i64 n_3,Value.int .i64 n_4] fun h15 =>
           ∃ n,ZL 0 (obj h15 (sz h+2))=some (Value.int .i64 n)∧∃ n_5,ZL 1 (obj h15 (sz h+2))=some (Value.int .u8 n_5)∧∃ n_6,ZL 2 (obj h15 (sz h+2))=some (Value.int .i64 n_6)∧∃ n_7,ZL 3 (obj h15 (sz h+2))=some (Value.int .i64 n_7)∧∃ n_8,ZL 4 (obj h15 (sz h+2))=some (Value.int .i64 n_8)∧K (n,n_5,n_6,n_7,n_8,()) h15:=fun h4 T' hR4 u4 hT4=>by
     have tn:∀ k,sz h≤k→¬ T k≠none:=fun k hk ht=>by have:=hR.lt k ht;omega
     have g4:=XM g3 u4 (tn _ (by omega))
     have d4:=XM d3 u4 (tn _ (by omega))
     simp (maxDischargeDepth:=60) only [Zs,Zr,evC,Nqa,Nqb,Nqc,Nqd,Nqe,reduceCtorEq,g4,d4]
     have eu:Upd (fun k=>T k≠none) h (h4.puts (sz h+2) 0 [iv 0,.int .u8 1,iv lft,iv 0,iv 0]):=Zcc ((e13.upd _).trans u4) (.inl (by omega))
     refine hk _ T' so (hR4.congr (by rw [Zdi];exact Nat.le_refl _) fun k hk=>Zce fun e=>?_) ⟨eu,fun k hk=>?_⟩
     ·subst e
      rcases hT4 _ hk with h9 | h9
      ·exact tn _ (by omega) h9
      ·omega
     ·rcases hT4 _ hk with h9 | h9
      ·exact .inl h9
      ·right;rw [ZE];omega
   cases c with
   | rate w =>
     obtain ⟨wb,mb,rfl,hw,t1,t2⟩:=hr9
     refine .inl ⟨(some ⟨wb,0,none⟩,()),rfl,Zlg hw (by omega) fun h4 hw4 u4=>done h4 T ?_ (u4.mono fun k _ hk=>?_) fun k hk=> .inl hk⟩
     ·rw [hS _ rfl]
      refine hR3.setC (c:= .rate (w.took at_ r4)) hid (u4.mono fun k _ hk=>?_) (fun _ _ h=>h) (fun k hk=>Nat.lt_of_lt_of_le (hR3.lt k hk) u4.size) hm hm1 hcs hv ⟨wb,mb,rfl,hw4,t1,t2⟩
      rcases hk with rfl | rfl
      ·exact ⟨0,by decide,t1⟩
      ·exact ⟨1,by decide,t2⟩
     ·rcases hk with rfl | rfl
      ·rw [t1];exact fun e=>by cases e
      ·rw [t2];exact fun e=>by cases e
   | value s =>
     obtain ⟨wb,sl,lb,rfl,hs⟩:=hr9
     refine .inr (.inl ⟨(some ⟨wb,0,none⟩,()),rfl,ZjT hs hR3.lt hr hrs fun h4 T4 sl4 lb4 hs4 hg4=>done h4 T4 ?_ (hg4.upd.mono fun k _ ⟨j,_,e⟩=>?_) hg4.new⟩)
     ·rw [hS _ rfl]
      exact hR3.setC (c:= .value (s.took at_ r4 r5)) hid hg4.upd hg4.keep hg4.lt hm hm1 hcs hv ⟨wb,sl4,lb4,rfl,hs4⟩
     ·rw [e];exact fun e=>by cases e
   | leased =>
     cases hr9
     refine .inr (.inr (.inl ⟨(),rfl,?_⟩))
     unfold Zbp Zc0
     simp only [ZdM]
     have e4:Ext h3 (h3.push (.cells [].toArray 192 (0,0))):=Ext.push _ _
     refine done _ T ?_ (e4.upd _) fun k hk=> .inl hk
     rw [hS _ rfl]
     exact hR3.setC (c:= .leased) hid (e4.upd _) (fun _ _ h=>h) (fun k hk=>Nat.lt_of_lt_of_le (hR3.lt k hk) e4.size) hm hm1 hcs hv rfl |>.ext (Ext.refl _)
  ·have q3:¬ f3≠3:=by simpa using q1
   rw [if_neg q3] at hk
   refine Zh8 c3 hR3.out hl fun t4 h4 ho4 e4=>?_
   have hR4:=hR3.ext e4
   have a4:=Yh a3 e4
   have b4:=Yh b3 e4
   have d4:=Yh d3 e4
   have g4:=Yh g3 e4
   have e14:=e13.trans e4
   have z4:=X6 e4
   have z14:=X6 e14
   have hlen:=Zas YU ho4.row (by decide)
   have hn4:∀ k,t4.blk=some k→sz h3≤k∧k<sz h4∧T k=none:=fun k hk=>by
     have h9:=ho4.lt hk
     refine ⟨h9.1,h9.2,?_⟩
     cases hT:T k with
     | none=>rfl
     | some t =>
       have:=hR.lt k (by rw [hT];exact fun e=>by cases e)
       have h10:sz h3≤k:=h9.1
       omega
   have ls4:=ZS hR4.cells
   have u5:Upd (· = sb) h4 (h4.put sb 5 (slV t4)):=Upd.put _ _ _ _
   have c5:obj (h4.put sb 5 (slV t4)) sb=some (.cells [iv S.begun,iv S.last,slV sp,.map (some cb),.map (some nb),slV t4,iv S.next].toArray 118 (0,0)):=by
     simp (maxDischargeDepth:=60) only [Zs,Zr,evC,Nqa,Nqb,Nqc,Nqd,Nqe,reduceCtorEq,hR4.cells]
   have hR5:=hR4.setO (n:=S.next) (u5.mono fun k _ hk=> .inl hk) c5 ((ho4.congr fun b hb _ _=>u5.old b (ho4.lt hb).2 fun e=>by
     have:=(hn4 b hb).1
     subst e
     omega).base (Nat.zero_le _)) fun k hk=> .inr (hn4 k hk).2.2
   have z5:sz (h4.put sb 5 (slV t4))=sz h4:=Zkd
   simp (maxDischargeDepth:=60) only [Zs,Zr,evC,Nqa,Nqb,Nqc,Nqd,Nqe,reduceCtorEq,hR4.cells]
   generalize h4.put sb 5 (slV t4)=h5 at u5 c5 hR5 z5 ⊢
   have ne:∀ k,sz h≤k→k≠sb:=fun k hk e=>by omega
   have a5:=XM a4 u5 (ne _ (Nat.le_refl _))
   have b5:=XM b4 u5 (ne _ (by omega))
   have d5:=XM d4 u5 (ne _ (by omega))
   have g5:=XM g4 u5 (ne _ (by omega))
   have u15:Upd (fun k=>T k≠none) h h5:=(e14.upd _).trans (u5.mono fun k _ hk=>by subst hk;rw [hR.tsb];exact fun e=>by cases e)
   have hT5:(∀ k,(fun k=>if t4.blk=some k then some 4 else T k) k≠none→T k≠none∨sz h≤k)∧(fun k=>if t4.blk=some k then some 4 else T k) (sz h+2)=none:=by
     refine ⟨fun k hk=>?_,?_⟩
     ·dsimp only at hk
      split at hk
      ·right;have:=(hn4 k (by assumption)).1;omega
      ·exact .inl hk
     ·dsimp only
      rw [if_neg (fun e=>by have:=(hn4 _ e).1;omega)]
      exact hTn _ (by omega)
   refine Zj (fun q5=>?_) fun q5=>?_
   ·rw [if_pos (by omega)] at hk
    simp (maxDischargeDepth:=60) only [Zs,Zr,evC,Nqa,Nqb,Nqc,Nqd,Nqe,reduceCtorEq,d5]
    exact fin h5 _ t4 _ _ _ hR5 u15 hT5 hk
   rw [if_neg (by omega)] at hk
   have n0b:(sz h=sb)=False:=eq_false (fun e=>by omega)
   have n1b:(sz h+1=sb)=False:=eq_false (fun e=>by omega)
   have n2b:(sz h2=sb)=False:=eq_false (fun e=>by omega)
   have nb0:(sb=sz h2)=False:=eq_false (fun e=>by omega)
   have n02:(sz h=sz h2)=False:=eq_false (fun e=>by omega)
   have n12:(sz h+1=sz h2)=False:=eq_false (fun e=>by omega)
   have la5:=ZS a5
   have lb5:=ZS b5
   have lc5:=ZS c5
   simp (maxDischargeDepth:=60) only [Zs,Zr,evC,Nqa,Nqb,Nqc,Nqd,Nqe,reduceCtorEq,n0b,n1b,n2b,nb0,n02,n12,a4,a5,b5,c5,g5,YH la5,YH lb5,YH lc5]
   have u6:Upd (fun k=>k=sz h2) h5 ((h5.put (sz h2) 4 (iv S.next)).put (sz h2) 3 (iv f4)):=(Upd.put _ _ _ _).trans (Upd.put _ _ _ _)
   have g6:obj ((h5.put (sz h2) 4 (iv S.next)).put (sz h2) 3 (iv f4)) (sz h2)=some (.cells [iv 0,.int .u8 1,iv lft,iv f4,iv S.next].toArray 57 (0,0)):=by
     simp (maxDischargeDepth:=60) only [Zs,Zr,evC,Nqa,Nqb,Nqc,Nqd,Nqe,reduceCtorEq,g5]
   have z6:sz ((h5.put (sz h2) 4 (iv S.next)).put (sz h2) 3 (iv f4))=sz h5:=by simp only [Zkd]
   generalize (h5.put (sz h2) 4 (iv S.next)).put (sz h2) 3 (iv f4)=h6 at u6 g6 z6 ⊢
   have hcap:=ho4.cap
   have ho6:Own h6 (sz h3) t4 4 ((XT at_ S.out).flatMap f4L):=ho4.congr fun b hb _ _=>by
     have:=hn4 b hb
     rw [u6.old b (by show b<sz h5;omega) (by omega),u5.old b this.2.1 (by omega)]
   have e7:Ext h6 (h6.push (.cells (f4L (S.next,f1,r4,IntKind.wrap .i64 (at_+f4),())).toArray 167 (0,0))):=Ext.push _ _
   have hrow:Row (h6.push (.cells (f4L (S.next,f1,r4,IntKind.wrap .i64 (at_+f4),())).toArray 167 (0,0))) ⟨some ⟨sz h5,0,none⟩,1,1⟩ 4 (f4L (S.next,f1,r4,IntKind.wrap .i64 (at_+f4),())):=by
     have:=(Own.newC (h:=h6) (cells:=f4L (S.next,f1,r4,IntKind.wrap .i64 (at_+f4),())) (t:=167) (size:=4) (n:=1) rfl (by decide)).row
     rw [ZE,z6] at this
     exact this
   have z7:sz (h6.push (.cells (f4L (S.next,f1,r4,IntKind.wrap .i64 (at_+f4),())).toArray 167 (0,0)))=sz h5+1:=by rw [XB,z6]
   refine hrow.rd ?_
   change app _ _ _ _ _ _ _ (h6.push (.cells (f4L (S.next,f1,r4,IntKind.wrap .i64 (at_+f4),())).toArray 167 (0,0))) _
   generalize h6.push (.cells (f4L (S.next,f1,r4,IntKind.wrap .i64 (at_+f4),())).toArray 167 (0,0))=h7 at e7 hrow z7 ⊢
   have ho7:=ho6.congr (h':=h7) fun b hb _ _=>e7.old b (ho6.lt hb).2
   refine Own.app ho7 (by rfl) (by simp [f4L,YW]) rfl (by omega) (by omega) (by show sz h3≤sz h7;omega) fun t8 h8 ho8 hl8 u8 hb8=>?_
   have nb8:∀ k,t4.blk=some k→sz h2<k:=fun k hk=>by have:=(hn4 k hk).1;omega
   have z8:sz h7≤sz h8:=u8.size
   have nx:∀ k,k≤sz h2→¬ t4.blk=some k:=fun k hk e=>by have:=nb8 k e;omega
   have a8:=XM (Yh (XM a5 u6 (by omega)) e7) u8 (nx _ (by omega))
   have b8:=XM (Yh (XM b5 u6 (by omega)) e7) u8 (nx _ (by omega))
   have d8:=XM (Yh (XM d5 u6 (by omega)) e7) u8 (nx _ (by omega))
   have c8:=XM (Yh (XM c5 u6 (by omega)) e7) u8 (nx _ (by omega))
   have g8:=XM (Yh g6 e7) u8 (nx _ (by omega))
   have ndb:(sz h+2=sb)=False:=eq_false (fun e=>by omega)
   simp (maxDischargeDepth:=60) only [Zs,Zr,evC,Nqa,Nqb,Nqc,Nqd,Nqe,reduceCtorEq,a8,b8,c8,d8,g8,n0b,n1b,n2b,ndb,ndg]
   have u9:Upd (· = sb) h8 ((h8.put sb 5 (slV t8)).put sb 6 (iv (IntKind.wrap .i64 (S.next+1)))):=(Upd.put _ _ _ _).trans (Upd.put _ _ _ _)
   have c9:obj ((h8.put sb 5 (slV t8)).put sb 6 (iv (IntKind.wrap .i64 (S.next+1)))) sb=some (.cells [iv S.begun,iv S.last,slV sp,.map (some cb),.map (some nb),slV t8,iv (IntKind.wrap .i64 (S.next+1))].toArray 118 (0,0)):=by
     simp (maxDischargeDepth:=60) only [Zs,Zr,evC,Nqa,Nqb,Nqc,Nqd,Nqe,reduceCtorEq,c8]
   generalize (h8.put sb 5 (slV t8)).put sb 6 (iv (IntKind.wrap .i64 (S.next+1)))=h9 at u9 c9 ⊢
   have h8n:∀ k,t8.blk=some k→sz h3≤k:=fun k hk=>by
     rcases hb8 with e | e
     ·rw [e] at hk;exact (hn4 k hk).1
     ·rw [e] at hk;cases hk;rw [ZE];omega
   have ua:Upd (fun k=>k=sb∨T k=some 4∨T k=none) h h9:=by
     refine ⟨by have:=u9.size;rw [ZE,ZE] at this;rw [ZE,ZE];omega,fun k hk hn=>?_⟩
     have hk':k<sz h:=hk
     rw [u9.old k (by rw [ZE];omega) (fun e=>hn (.inl e)),u8.old k (by rw [ZE];omega) (nx _ (by omega)),e7.old k (by rw [ZE];omega),u6.old k (by rw [ZE];omega) (by omega),u5.old k (by rw [ZE];omega) (fun e=>hn (.inl e)),e14.old k hk]
   have u19:Upd (fun k=>T k≠none) h h9:=by
     refine ⟨ua.size,fun k hk hn=>?_⟩
     have hk':k<sz h:=hk
     have hsbk:k≠sb:=fun e=>by subst e;exact hn (by rw [hR.tsb];exact fun e=>by cases e)
     rw [u9.old k (by rw [ZE];omega) hsbk,u8.old k (by rw [ZE];omega) (nx _ (by omega)),e7.old k (by rw [ZE];omega),u6.old k (by rw [ZE];omega) (by omega),u5.old k (by rw [ZE];omega) hsbk,e14.old k hk]
   have ho9:=(ho8.congr (h':=h9) fun b hb _ _=>u9.old b (ho8.lt hb).2 fun e=>by have:=h8n b hb;omega).base (Nat.zero_le _)
   have e9:(XT at_ S.out).flatMap f4L++f4L (S.next,f1,r4,IntKind.wrap .i64 (at_+f4),())=(XT at_ S.out++[((S.next,f1,r4,IntKind.wrap .i64 (at_+f4),()):F4)]).flatMap f4L:=by simp
   rw [e9] at ho9
   have hR9:=hR.setO ua c9 ho9 fun k hk=> .inr (hTn k (by have:=h8n k hk;omega))
   refine fin h9 _ t8 _ _ _ hR9 u19 ⟨fun k hk=>?_,?_⟩ hk
   ·split at hk
    ·right;have:=h8n k (by assumption);omega
    ·exact .inl hk
   ·rw [if_neg (fun e=>by have:=h8n _ e;omega)]
    exact hTn _ (by omega)
end Go.Proofs.YtbppjmcinoffnaaGreat.Tk
