/- Which whole number a number is: json.Whole. -/
import Derived.KernelRfl
import Derived.Test.YtpjbjdheeemdiaaGreatDoorRows
import Derived.Lib.LaidU8
import Derived.Stop.Joined
import Derived.MakeChecks
import Derived.ProofKit
import Derived.OpenShut
import Derived.Lay
import Derived.ChangeArms
import Derived.JoinedCond
import Derived.LaidLaws
import Derived.Lib.AtoiAllCases
import Derived.Test.YtpjbjdheeemdiaaGreatDoorPa13
set_option linter.unusedVariables false
set_option linter.unusedSimpArgs false
namespace Go.Js
open Go
def Asc (p:BL→Out Unit):Prop:=∀ l r,p l = .ok () r→∃ x,l=x++r∧∀ c∈x,c.toNat<128
theorem Zk1 {c:UInt8} (h:Yw c=true):c.toNat<128:=by
  unfold Yw at h
  simp only [Bool.and_eq_true,decide_eq_true_eq] at h
  omega
theorem Zkz:∀ (l:BL),∀ c∈l.takeWhile Yw,c.toNat<128
  | [],c,h=>by cases h
  | d::l,c,h=>by
    rw [List.takeWhile_cons] at h
    split at h
    ·rename_i hd
     rcases List.mem_cons.1 h with h | h
     ·rw [h];exact Zk1 hd
     ·exact Zkz l c h
    ·cases h
theorem Zfj:Asc Z0:=by
  intro l r h
  rcases l with _ | ⟨c,l⟩
  ·cases h
  ·dsimp only [Z0] at h
   split at h
   ·rename_i hd
    cases h
    refine ⟨c::l.takeWhile Yw,by simp,fun d hd2=>?_⟩
    rcases List.mem_cons.1 hd2 with h | h
    ·rw [h];exact Zk1 hd
    ·exact Zkz l d h
   ·cases h
theorem ZrB:Asc ZeS:=by
  intro l r h
  rcases l with _ | ⟨c,l⟩
  ·cases h
  ·dsimp only [ZeS] at h
   split at h
   ·rename_i hc
    have:l=r:=by
      rcases l with _ | ⟨d,l⟩
      ·cases h;rfl
      ·dsimp only [X9] at h
       split at h
       ·cases h
       ·cases h;rfl
    subst this
    exact ⟨[c],rfl,fun d hd=>by rw [List.mem_singleton] at hd;rw [hd,hc];decide⟩
   ·exact Zfj _ _ h
theorem Zp3:Asc ZcP:=by
  intro l r h
  rcases l with _ | ⟨c,l⟩
  ·cases h;exact ⟨[],rfl,fun _ h=>by cases h⟩
  ·dsimp only [ZcP] at h
   split at h
   ·rename_i hc
    obtain ⟨x,hx,ha⟩:=Zfj _ _ h
    refine ⟨c::x,by rw [hx];rfl,fun d hd=>?_⟩
    rcases List.mem_cons.1 hd with h | h
    ·rw [h,hc];decide
    ·exact ha d h
   ·cases h;exact ⟨[],rfl,fun _ h=>by cases h⟩
theorem ZrL:Asc Zfm:=by
  intro l r h
  rcases l with _ | ⟨c,l⟩
  ·cases h;exact ⟨[],rfl,fun _ h=>by cases h⟩
  ·dsimp only [Zfm] at h
   split at h
   ·rename_i hc
    have hc':c.toNat<128:=by rcases hc with hc | hc<;>rw [hc]<;>decide
    obtain ⟨x,hx,ha⟩:=Zfj _ _ h
    rcases l with _ | ⟨d,l⟩
    ·cases h
    ·dsimp only [Zdp] at hx
     split at hx
     ·rename_i hd
      have hd':d.toNat<128:=by rcases hd with hd | hd<;>rw [hd]<;>decide
      refine ⟨c::d::x,by rw [hx];rfl,fun e he=>?_⟩
      rcases List.mem_cons.1 he with h | h
      ·rw [h];exact hc'
      rcases List.mem_cons.1 h with h | h
      ·rw [h];exact hd'
      ·exact ha e h
     ·refine ⟨c::x,by rw [hx];rfl,fun e he=>?_⟩
      rcases List.mem_cons.1 he with h | h
      ·rw [h];exact hc'
      ·exact ha e h
   ·cases h;exact ⟨[],rfl,fun _ h=>by cases h⟩
theorem Zro:Asc ZcA:=by
  intro l r h
  obtain ⟨l1,l2,h1,h2,h3⟩:=ZfB h
  obtain ⟨x1,e1,a1⟩:=ZrB _ _ h1
  obtain ⟨x2,e2,a2⟩:=Zp3 _ _ h2
  obtain ⟨x3,e3,a3⟩:=ZrL _ _ h3
  have key:∀ c∈x1++(x2++x3),c.toNat<128:=fun c hc=>by
    rcases List.mem_append.1 hc with h | h
    ·exact a1 c h
    rcases List.mem_append.1 h with h | h
    ·exact a2 c h
    ·exact a3 c h
  rcases l with _ | ⟨c,l⟩
  ·cases h1
  ·dsimp only [Xb] at e1
   split at e1
   ·rename_i hc
    refine ⟨c::(x1++(x2++x3)),by rw [e1,e2,e3];simp,fun d hd=>?_⟩
    rcases List.mem_cons.1 hd with h | h
    ·rw [h,hc];decide
    ·exact key d h
   ·exact ⟨x1++(x2++x3),by rw [e1,e2,e3];simp,key⟩
def ZbU:BL→BL × Bool
  | c::l=>if c=45 then (l,true) else (c::l,false)
  | []=>([],false)
def Zeu:BL→BL
  | c::l=>if c=43 then l else c::l
  | []=>[]
def Zot (s:BL):Option Int:=if s=[] then some 0 else match Lib.atoiAll (Zeu s) with
  | .ok v=>if -1048576≤v∧v≤1048576 then some v else none
  | _=>none
def Zci (t:BL):Option Int :=
  let m:=ZbU t
  let a:=Lib.cut (Lib.toLowerA m.1) [101]
  let b:=Lib.cut a.1 [46]
  let d:=Lib.trimLeftB (b.1++b.2.1) 48
  let g:=Lib.trimRightB d 48
  if g=[] then some 0 else match Zot a.2.1 with
  | none=>none
  | some y =>
    let y:=y+((d.length:Int) - g.length - b.2.1.length)
    if y<0 then none else if 20<y then none else match Lib.atoiAll ((if m.2=true then [45] else [])++(g++Lib.repeatL [48] y.toNat)) with
    | .ok v=>some v
    | _=>none
theorem Zld:∀ l:BL,(ZbU l).1.length≤l.length
  | []=>Nat.le_refl _
  | c::l=>by dsimp only [ZbU];split<;>simp
theorem Zlc:∀ (l:BL) (c:UInt8),c∈(ZbU l).1→c∈l
  | [],c,h=>h
  | d::l,c,h=>by
    dsimp only [ZbU] at h
    split at h
    ·exact List.mem_cons_of_mem _ h
    ·exact h
theorem Zqi (s p:BL):(Lib.cut s p).1.length≤s.length∧(Lib.cut s p).2.1.length≤s.length:=by
  unfold Lib.cut
  split
  ·exact ⟨by rw [List.length_take];omega,by rw [List.length_drop];omega⟩
  ·exact ⟨Nat.le_refl _,Nat.zero_le _⟩
theorem ZhS (p:UInt8→Bool):∀ l:BL,(l.dropWhile p).length≤l.length
  | []=>Nat.le_refl _
  | c::l=>by
    rw [List.dropWhile_cons]
    split
    ·have:=ZhS p l;simp;omega
    ·exact Nat.le_refl _
theorem Zd1 (l:BL) (c:UInt8):(Lib.trimLeftB l c).length≤l.length:=ZhS _ l
theorem Zd0 (l:BL) (c:UInt8):(Lib.trimRightB l c).length≤l.length:=by
  unfold Lib.trimRightB
  rw [List.length_reverse]
  have:=ZhS (· ==c) l.reverse
  rw [List.length_reverse] at this
  exact this
end Go.Js
namespace Go.Proofs.YtpjbjdheeemdiaaGreatDoor
open Go Go.Fw Go.Js
theorem Zpi {l:BL} {c:UInt8} {K:Bool→HP} {h:Ze} (hk:K (match l with | d::_=>decide (d=c) | []=>false) h):ZA (Zc l) (ByteArray.mk #[c]) K h:=by
  unfold ZA Yo
  have h2:(ByteArray.mk #[c]).size=1:=rfl
  rw [h2,Yk]
  rcases l with _ | ⟨a,l⟩
  ·exact Zl (by simp) hk
  ·refine Zn (by simp;omega) ⟨by omega,by omega,by rw [Yk];simp;omega,?_⟩
   have e:(Zc (a::l)).extract 0 1=Zc [a]:=by
     apply ByteArray.ext;simp [Zc]
   show ZF (Za2 ((Zc (a::l)).extract 0 1) _) _
   rw [e]
   refine Zd ?_
   have e2:Za2 (Zc [a]) (ByteArray.mk #[c])=decide (a=c):=by
     rw [show ByteArray.mk #[c]=Zc [c] from rfl,XS]
     by_cases h:a=c
     ·rw [h];simp
     ·simp [h]
   rw [e2];exact hk
theorem Zxy {a:UInt8} {l:BL} {K:ByteArray→Prop} (hl:l.length<9223372036854775806) (hk:K (Zc l)):ZfW (Zc (a::l)) ((1:Nat):Int) (Zc (a::l)).size K:=by
  refine ⟨by omega,by rw [Yk];simp;omega,by rw [Yk];simp,?_⟩
  have e:(Zc (a::l)).extract 1 (l.length+1)=Zc l:=by
    apply ByteArray.ext;simp [Zc]
  show K ((Zc (a::l)).extract 1 (l.length+1))
  rw [e];exact hk
theorem Zkd {l:BL} (hl:l.length<9223372036854775806) {K:ByteArray→Bool→HP} {h:Ze} (hk:K (Zc (ZbU l).1) (ZbU l).2 h):Xr (Zc l) (ByteArray.mk #[45]) K h:=by
  unfold Xr Zbh Yn YR
  refine Zpi ?_
  rcases l with _ | ⟨a,l⟩
  ·exact Zn rfl (Zd hk)
  ·dsimp only
   dsimp only [ZbU] at hk
   by_cases ha:a=45
   ·rw [if_pos ha] at hk
    rw [decide_eq_true ha]
    exact Zl rfl (Zxy (by simp at hl;omega) (Zd hk))
   ·rw [if_neg ha] at hk
    rw [decide_eq_false ha]
    exact Zn rfl (Zd hk)
theorem Zlb {l:BL} (hl:l.length<9223372036854775806) {K:ByteArray→HP} {h:Ze} (hk:K (Zc (Zeu l)) h):Xc (Zc l) (ByteArray.mk #[43]) K h:=by
  unfold Xc ZaU Yi YL
  refine Zpi ?_
  rcases l with _ | ⟨a,l⟩
  ·exact Zl rfl hk
  ·dsimp only
   dsimp only [Zeu] at hk
   by_cases ha:a=43
   ·rw [if_pos ha] at hk
    rw [decide_eq_true ha]
    exact Zn rfl (Zxy (by simp at hl;omega) hk)
   ·rw [if_neg ha] at hk
    rw [decide_eq_false ha]
    exact Zl rfl hk
theorem Zln {l:BL} (hl:l.length≤281474976710656) {h:Ze} (ht:ZbA h) {K:Int→Value→HP}
    (h1:∀ v h',Lib.atoiAll l = .ok v→Ext h h'→K v .nilIface h') (h2:∀ n t p h',(∀ v,Lib.atoiAll l≠ .ok v)→Ext h h'→K n (.iface t p) h'):XU (Zc l) K h:=by
  refine ⟨ht,hl,?_⟩
  show match Lib.atoiAll l with
    | .ok v=>_
    | .range=>_
    | _=>_
  cases e:Lib.atoiAll l with
  | ok v=>exact fun h' e'=>h1 v h' e e'
  | _=>exact fun h' t p e'=>h2 _ t p h' (fun v h=>by rw [e] at h;cases h) e'
theorem ZpQ {x y:BL} {A B:Prop} (h1:x=y→A) (h2:x≠y→B):Zp (Za2 (Zc x) (Zc y)) A B:=by
  rw [XS];exact ⟨fun e=>h1 (of_decide_eq_true e),fun e=>h2 (of_decide_eq_false e)⟩
theorem Zj6 {l:BL} (hl:l.length≤65536) {h:Ze} (ht:ZbA h) {K:Int→Bool→HP} (hk:∀ n h',Ext h h'→(∀ v,Zot l=some v→n=v)→K n (Zot l).isSome h'):Zau (Zc l) K h:=by
  unfold Zau ZcO
  refine Za ?_
  rw [show ByteArray.mk #[]=Zc [] from rfl,XS]
  have key:=fun n h'=>hk n h'
  unfold Zot at key
  by_cases h0:l=[]
  ·rw [if_pos h0] at key
   exact Zn (by simp [h0]) (Za (key 0 h (Ext.refl _) fun v hv=>by cases hv;rfl))
  ·rw [if_neg h0] at key
   refine Zl (by simpa using h0) (Zlb (by omega) (Zln (by have:(Zeu l).length≤l.length:=(by unfold Zeu;split<;>(try split)<;>simp);omega) ht (fun v h' e x=>Za ?_) fun n t p h' e x=>Za ?_))
   ·rw [e] at key
    refine .inl ⟨rfl,Zn rfl (Zi (fun ha=>Za (Zd ?_)) fun ha=>Za ?_)⟩
    ·by_cases hb:v≤1048576
     ·simp only [if_pos (show -1048576≤v∧v≤1048576 from ⟨ha,hb⟩)] at key
      rw [decide_eq_true hb]
      exact key v h' x fun w hw=>by cases hw;rfl
     ·simp only [if_neg (show ¬ (-1048576≤v∧v≤1048576) from fun h=>hb h.2)] at key
      rw [decide_eq_false hb]
      exact key v h' x fun w hw=>by cases hw
    ·simp only [if_neg (show ¬ (-1048576≤v∧v≤1048576) from fun h=>ha h.1)] at key
     exact key v h' x fun w hw=>by cases hw
   ·refine .inr ⟨_,_,rfl,Zl rfl (Za ?_)⟩
    cases e9:Lib.atoiAll (Zeu l) with
    | ok v=>exact absurd e9 (e v)
    | _=>rw [e9] at key;exact key n h' x fun w hw=>by cases hw
theorem Zoc {l:BL} {v:Int} (h:Zot l=some v) : -1048576≤v∧v≤1048576:=by
  unfold Zot at h
  split at h
  ·cases h;omega
  ·split at h
   ·split at h
    ·cases h;assumption
    ·cases h
   ·cases h
theorem ZeN {h:Ze} {z:VT5} {v:JV} {S:Nat→Prop} {K:Int→Bool→HP} (hv:Zbo h S z v) (hS:∀ j,S j→j<sz h) (hfit:Zp5 v) (ht:ZbA h) (hh:9≤sz h)
    (hk:∀ n b h',Ext h h'→(v.k=4→Zbu v=true→b=(Zci v.t).isSome∧n=(Zci v.t).getD 0)→(¬ (v.k=4∧Zbu v=true)→n=0∧b=false)→K n b h'):Zav z K h:=by
  unfold Zav Zel
  have hs:sz h=h.size:=rfl
  refine ZbY fun h1 c1 e1 z1=>Za ?_
  have c1':obj h1 h.size=some (.cells (XX z).toArray 33 (0,0)):=c1
  have s1:sz h1=h1.size:=rfl
  refine rI (Zr c1' rfl) ?_
  have hz1:z.1=v.k:=hv.1
  rw [hz1]
  by_cases h4:¬ v.k=4
  ·exact Zn (by rw [bne_iff_ne];omega) (Za (hk _ _ h1 e1 (fun h=>absurd h h4) fun _=>⟨rfl,rfl⟩))
  replace h4:v.k=4:=Decidable.not_not.1 h4
  refine Zl (by rw [h4];rfl) (rI (Zr c1' rfl) (rS (Zr c1' rfl) (rL (s:=z.2.2.1) (Zr c1' rfl) (rL (s:=z.2.2.2.1) (Zr c1' rfl) ?_))))
  refine Zf3 (z:=z) (hv.ext hS e1) (fun j hj=>Nat.lt_of_lt_of_le (hS j hj) e1.size) hfit (ht.ext e1) (by have:=e1.size;omega) fun h2 e2=>?_
  have e12:=e1.trans e2
  have c2:=Y2 c1' e2
  cases hr:Zbu v with
  | false=>exact Zn rfl (Za (hk _ _ h2 e12 (fun _ h=>by rw [hr] at h;cases h) fun _=>⟨rfl,rfl⟩))
  | true =>
    have key:=fun n b h' (x:Ext h h') (y:b=(Zci v.t).isSome∧n=(Zci v.t).getD 0)=>hk n b h' x (fun _ _=>y) fun h=>absurd ⟨h4,hr⟩ h
    refine Zl rfl (rS (Zr c2 rfl) ?_)
    have hnum:ZcA v.t = .ok () []∧v.t.length≤65536:=by
      have:=(Zbt.1 hr).1.1
      rcases this with ⟨h,_⟩ | ⟨_,a,b,_⟩ | ⟨h,_⟩ | ⟨h,_⟩ | ⟨h,_⟩
      ·omega
      ·exact ⟨a,b⟩
      all_goals omega
    obtain ⟨hn,hl⟩:=hnum
    have hasc:∀ c∈v.t,c.toNat<128:=by
      obtain ⟨x,hx,ha⟩:=Zro _ _ hn
      rw [List.append_nil] at hx;rw [hx];exact ha
    have ht2:=ht.ext e12
    rw [show z.2.1=Zc v.t from hv.2.1]
    unfold Zci at key
    dsimp only at key
    refine Zkd (by omega) (Zd ?_)
    generalize hm:ZbU v.t=m at *
    have hml:m.1.length≤v.t.length∧∀ c∈m.1,c.toNat<128:=by
      rw [← hm];exact ⟨Zld _,fun c hc=>hasc c (Zlc _ c hc)⟩
    refine ⟨⟨by rw [Yk];omega,fun j b hb=>hml.2 b (List.mem_of_getElem? hb)⟩,fun h3 e3=>?_⟩
    have hll:(Lib.toLowerA m.1).length=m.1.length:=List.length_map ..
    have e13:=e12.trans e3
    have ht3:=ht.ext e13
    show ZbK (Zc (Lib.toLowerA m.1)) _ _ h3
    refine ⟨ht3,by rw [Yk];omega,Zd ?_⟩
    show ZbK (Zc (Lib.cut (Lib.toLowerA m.1) [101]).1) _ _ h3
    have hc1:=Zqi (Lib.toLowerA m.1) [101]
    generalize Lib.cut (Lib.toLowerA m.1) [101]=a at *
    refine ⟨ht3,by rw [Yk];omega,Zd ?_⟩
    show Zkg (Zc (Lib.cut a.1 [46]).1) (Zc (Lib.cut a.1 [46]).2.1) _
    have hc2:=Zqi a.1 [46]
    generalize Lib.cut a.1 [46]=b at *
    refine Zc3 (by omega) ⟨48,by decide,rfl,?_⟩
    show Zad (Zc (Lib.trimLeftB (b.1++b.2.1) 48)) _ _ h3
    have hd:=Zd1 (b.1++b.2.1) 48
    rw [List.length_append] at hd
    generalize Lib.trimLeftB (b.1++b.2.1) 48=d at *
    have hg:=Zd0 d 48
    refine ⟨48,by decide,rfl,by rw [Yk];omega,?_⟩
    refine ⟨48,by decide,rfl,by rw [Yk];omega,?_⟩
    show Zk (IntKind.wrap .i64 (((Zc d).size:Int) - ((Zc (Lib.trimRightB d 48)).size:Int))) _
    rw [Yk,Yk]
    generalize Lib.trimRightB d 48=g at *
    rw [ZG (by omega) (by omega)]
    refine Za ?_
    refine ZpQ (x:=g) (y:=[]) (fun h0=>?_) fun h0=>?_
    ·rw [if_pos h0] at key
     exact Za (key 0 true h3 e13 ⟨rfl,rfl⟩)
    rw [if_neg h0] at key
    refine Zj6 (l:=a.2.1) (by omega) ht3 fun n h4 e4 hv4=>Za (Zd ?_)
    have e14:=e13.trans e4
    have ht4:=ht.ext e14
    cases he:Zot a.2.1 with
    | none =>
      rw [he] at key
      exact Zn rfl (Za (key 0 false h4 e14 ⟨rfl,rfl⟩))
    | some y =>
      rw [he] at key
      have hy:=Zoc he
      have hny:=hv4 y he
      subst hny
      refine Zl rfl ?_
      show Zk (IntKind.wrap .i64 (n+IntKind.wrap .i64 ((((d.length:Int)) - ((g.length:Int))) - ((Zc b.2.1).size:Int)))) _
      rw [Yk,ZG (n:=(d.length:Int) - (g.length:Int) - (b.2.1.length:Int)) (by omega) (by omega),ZG (by omega) (by omega)]
      simp only at key
      generalize hY:n+((d.length:Int) - (g.length:Int) - (b.2.1.length:Int))=Y at *
      refine Za (Zi (fun hneg=>?_) fun hneg=>Zi (fun hbig=>?_) fun hbig=>?_)
      ·rw [if_pos hneg] at key
       exact Za (key 0 false h4 e14 ⟨rfl,rfl⟩)
      ·rw [if_neg hneg,if_pos (by omega)] at key
       exact Za (key 0 false h4 e14 ⟨rfl,rfl⟩)
      rw [if_neg hneg,if_neg (by omega)] at key
      refine ⟨Y.toNat,by omega,by omega,by show 1*_≤_;omega,fun h5 e5=>?_⟩
      have e15:=e14.trans e5
      have ht5:=ht.ext e15
      have hrep:(Lib.repeatL [48] Y.toNat).length=Y.toNat:=by rw [Lib.repeatL_length];simp
      show Zkg (Zc g) (Zc (Lib.repeatL [48] Y.toNat)) _
      generalize Lib.repeatL [48] Y.toNat=rp at *
      refine Zc3 (by omega) ?_
      have fin:∀ ds:BL,ds.length≤281474976710656→(if m.2=true then [45] else [])++(g++rp)=ds→XU (Zc ds) (fun t47 t48 h49 =>
         Zk t47 fun n =>
         Zgq t48 fun b50 =>
         Zp (!b50) (
         Zk 0 fun t51 =>
         K t51 false h49) (
         Zk n fun t52 =>
         K t52 true h49)) h5:=fun ds hlen hds=>by
        rw [hds] at key
        refine Zln hlen ht5 (fun w h' ew x=>Za (.inl ⟨rfl,Zl rfl (Za ?_)⟩)) fun w t p h' ew x=>Za (.inr ⟨_,_,rfl,Zn rfl (Za ?_)⟩)
        ·rw [ew] at key
         exact key w true h' (e15.trans x) ⟨rfl,rfl⟩
        ·cases e9:Lib.atoiAll ds with
         | ok v=>exact absurd e9 (ew v)
         | _=>rw [e9] at key;exact key 0 false h' (e15.trans x) ⟨rfl,rfl⟩
      refine ZfK ?_
      cases hm2:m.2 with
      | true =>
        refine Zn rfl (Zc3 (x:=[45]) (y:=g++rp) (by rw [List.length_append];simp;omega) ?_)
        exact fin _ (by simp;omega) (by rw [hm2];rfl)
      | false =>
        refine Zl rfl ?_
        exact fin _ (by simp;omega) (by rw [hm2];rfl)
end Go.Proofs.YtpjbjdheeemdiaaGreatDoor
namespace Go.Js
open Go
def lvT:BL:=[91,49,44,32,34,97,92,117,48,48,52,49,34,44,32,123,34,98,34,58,32,110,117,108,108,125,93]
def lvV:JV:=⟨6,[],[],.cons 4 [49] [] .nil (.cons 5 [97,65] [] .nil (.cons 7 [] [[98]] (.cons 1 [] [] .nil .nil) .nil))⟩
theorem ZmX:XE lvT = .ok lvV:=by kernel_rfl
theorem ZjS:Za4 lvV=[91,49,44,34,97,65,34,44,123,34,98,34,58,110,117,108,108,125,93]:=by kernel_rfl
theorem Zu8:XE [91,49,44,93] = .err 20 3:=by kernel_rfl
theorem Zu7:XE [45,55] = .ok ⟨4,[45,55],[],.nil⟩:=by kernel_rfl
theorem Zrr:Zci [45,55]=some (-7):=by kernel_rfl
theorem Ztc:Lib.itoa (-7)=[45,55]:=by kernel_rfl
theorem Zsr:Zp5 lvV:=by simp [Zp5,ZtL,lvV]
theorem ZeX {l:BL} {v:JV} (h:XE l = .ok v):Zd8 64 v∧ZfO v≤65536:=⟨(Ze5 h).1,(Ze5 h).2.1⟩
def Got.val:Got→JV
  | .ok v=>v
  | .err _ _=>⟨0,[],[],.nil⟩
end Go.Js
namespace Go.Proofs.YtpjbjdheeemdiaaGreatDoor
open Go Go.Fw Go.Js
theorem Zrs:Zqe lvV=2:=by kernel_rfl
theorem _root_.Go.Fw.Ext.szz {h h':Ze} (e:Ext h h'):sz h≤sz h':=e.size
theorem Zlq.val {h:Ze} {S:Nat→Prop} {g:Got} {z:VT5} {e n:Int} (r:Zlq h S g z e n):Zbo h S z g.val:=by
  cases g with
  | ok v=>exact r.1
  | err e k=>exact r.1
theorem Zlq.ext {h h':Ze} {S:Nat→Prop} {g:Got} {z:VT5} {e n:Int} (r:Zlq h S g z e n) (hS:∀ j,S j→j<sz h) (u:Ext h h'):Zlq h' S g z e n:=by
  cases g with
  | ok v=>exact ⟨r.1.ext hS u,r.2⟩
  | err e k=>exact ⟨r.1.ext hS u,r.2⟩
theorem Zlq.mono {h:Ze} {S S':Nat→Prop} {g:Got} {z:VT5} {e n:Int} (r:Zlq h S g z e n) (hs:∀ j,S j→S' j):Zlq h S' g z e n:=by
  cases g with
  | ok v=>exact ⟨r.1.keep (fun _ _ _=>rfl) hs,r.2⟩
  | err e k=>exact ⟨r.1.keep (fun _ _ _=>rfl) hs,r.2⟩
theorem Zlq.same {h h':Ze} {S S':Nat→Prop} {g:Got} {z z':VT5} {e n e' n':Int} (r:Zlq h S g z e n) (r':Zlq h' S' g z' e' n'):e=e'∧n=n':=by
  cases g with
  | ok v=>exact ⟨r.2.1.trans r'.2.1.symm,r.2.2.trans r'.2.2.symm⟩
  | err e k=>exact ⟨r.2.1.trans r'.2.1.symm,r.2.2.trans r'.2.2.symm⟩
theorem Zry {f:ZsK} {h:Ze} {s:ByteArray} {g:Got} {K:VT5→Int→Int→Nat→HP}
    (hf:∀ K':VT5→Int→Int→HP,(∀ z e n h',Ext h h'→Zlq h' (fun j=>sz h≤j∧j<sz h') g z e n→K' z e n h')→f s K' h)
    (hk:∀ z e n b h',Ext h h'→obj h' b=some (.cells (XX z).toArray 33 (0,0))→sz h≤b→b<sz h'→Zlq h' (fun j=>sz h≤j∧j<sz h') g z e n→K z e n b h') :
    f s (fun t t1 t2 h3=>newC h3 [.int .u8 0,.string (ByteArray.mk #[]),.slice none 0 0,.slice none 0 0] 33 fun b h4 =>
      sts h4 b 0 [.int .u8 t.1,.string t.2.1,.slice t.2.2.1.ptr t.2.2.1.len t.2.2.1.cap,.slice t.2.2.2.1.ptr t.2.2.2.1.len t.2.2.2.1.cap] fun h5=>K t t1 t2 b h5) h:=by
  refine hf _ fun z e n h1 e1 r=>ZbY fun h2 c2 e2 z2=>?_
  have c2':obj h2 h1.size=some (.cells zV.toArray 33 (0,0)):=c2
  have s1:sz h1=h1.size:=rfl
  have s2:sz h2=h2.size:=rfl
  have h01:=e1.szz
  refine Zly c2' (by simp) (Zb5 z) fun h3 c3 u3 z3=>?_
  have e3:Ext h1 h3:=e2.updS u3 fun j hj=>by omega
  refine hk z e n _ h3 (e1.trans e3) c3 (by omega) (by omega) ?_
  exact (r.ext (fun j hj=>hj.2) e3).mono fun j hj=>⟨hj.1,by have:=e3.szz;omega⟩
theorem ZkN {h:Ze} {s:ByteArray} (ht:ZbA h) (hh:9≤sz h) {K:VT5→Int→Int→Nat→HP}
    (hk:∀ z e n b h',Ext h h'→obj h' b=some (.cells (XX z).toArray 33 (0,0))→sz h≤b→b<sz h'→Zlq h' (fun j=>sz h≤j∧j<sz h') (XE s.data.toList) z e n→K z e n b h') :
    Xn s (fun t t1 t2 h3=>newC h3 [.int .u8 0,.string (ByteArray.mk #[]),.slice none 0 0,.slice none 0 0] 33 fun b h4 =>
     sts h4 b 0 [.int .u8 t.1,.string t.2.1,.slice t.2.2.1.ptr t.2.2.1.len t.2.2.1.cap,.slice t.2.2.2.1.ptr t.2.2.2.1.len t.2.2.2.1.cap] fun h5=>K t t1 t2 b h5) h :=
  Zry (fun _ hk'=>ZiP ht hh hk') hk
theorem ZpJ {h:Ze} (ht:ZbA h) (hh:9≤sz h) {K:Bool→HP} (hk:∀ h',Ext h h'→K true h'):Xd K h:=by
  unfold Xd ZaV
  refine ZkN ht hh fun z e n b h1 e1 c1 b1 b1' g1=>Za (Za ?_)
  have hp:(ByteArray.mk #[91,49,44,32,34,97,92,117,48,48,52,49,34,44,32,123,34,98,34,58,32,110,117,108,108,125,93]).data.toList=lvT:=rfl
  rw [hp,ZmX] at g1
  obtain ⟨v1,rfl,rfl⟩:=g1
  have h01:=e1.szz
  refine rI (Zr c1 rfl) (rS (Zr c1 rfl) (rL (s:=z.2.2.1) (Zr c1 rfl) (rL (s:=z.2.2.2.1) (Zr c1 rfl) ?_)))
  refine ZnP (z:=z) v1 (fun j hj=>hj.2) Zsr (by rw [ZjS];decide) (ht.ext e1) (by omega) fun s f h2 e2 _ _ hs=>Za ?_
  obtain ⟨rfl,rfl⟩:=hs (Zbt.2 (ZeX ZmX)) (by rw [ZjS];decide)
  have e02:=e1.trans e2
  have h12:=e2.szz
  refine ZkN (ht.ext e02) (by omega) fun z3 e3 n3 b3 h3 x3 c3 b3' b3'' g3=>Za (Za ?_)
  have hp3:(ByteArray.mk #[91,49,44,93]).data.toList=[91,49,44,93]:=rfl
  rw [hp3,Zu8] at g3
  obtain ⟨_,rfl,rfl⟩:=g3
  have e03:=e02.trans x3
  have h23:=x3.szz
  refine Zga (by omega) (ht.ext e03) fun h4 x4=>?_
  have e04:=e03.trans x4
  have h34:=x4.szz
  rw [Ztc]
  refine ZeN (z:=(4,Zc [45,55],⟨none,0,0⟩,⟨none,0,0⟩,())) (v:=⟨4,[45,55],[],.nil⟩) (S:=fun _=>False) (Zbo.plain _ _ 4 _) (fun _ h=>h.elim) (by simp [Zp5,ZtL]) (ht.ext e04) (by omega) fun n5 ok5 h5 x5 hw _=>Za (Zd ?_)
  have hw':=hw rfl (Zbt.2 (ZeX Zu7))
  simp only [Zrr] at hw'
  obtain ⟨rfl,rfl⟩:=hw'
  have e05:=e04.trans x5
  have h45:=x5.szz
  have x15:Ext h1 h5:=e2.trans (x3.trans (x4.trans x5))
  have c5:=Y2 c1 x15
  refine Zn rfl (Zn rfl (Zn ?_ (Zn rfl (Zn rfl (Zn rfl (Zn rfl ?_))))))
  ·rw [show ByteArray.mk #[91,49,44,34,97,65,34,44,123,34,98,34,58,110,117,108,108,125,93]=Zc [91,49,44,34,97,65,34,44,123,34,98,34,58,110,117,108,108,125,93] from rfl,XS,ZjS]
   exact decide_eq_true rfl
  refine rI (Zr c5 rfl) (rS (Zr c5 rfl) (rL (s:=z.2.2.1) (Zr c5 rfl) (rL (s:=z.2.2.2.1) (Zr c5 rfl) ?_)))
  refine Zog (z:=z) (v1.ext (fun j hj=>hj.2) x15) (fun j hj=>by omega) Zsr (ht.ext e05) (by omega) fun h6 x6=>Zd ?_
  rw [Zrs]
  exact hk h6 (e05.trans x6)
end Go.Proofs.YtpjbjdheeemdiaaGreatDoor
namespace Go.Proofs.YtpjbjdheeemdiaaGreatDoor
open Go Go.Fw Go.Js
end Go.Proofs.YtpjbjdheeemdiaaGreatDoor
namespace Go.Proofs.YtpjbjdheeemdiaaGreatDoor
open Go Go.Fw Go.Lib
theorem ZjX {P:Program} {w:World} {t:TypeId} {ms:Array (String × TypeId)} {cs:List Value} {nm:String} {d:DataW Unit} {p:List MemPlace} {fuel:Nat}
    (hu:P.underlying t=some (.interface ms)) (h:DataW.trod (fun _=>()) P w 0 (fun _=>true) false fuel t cs=some (.iface nm d,p)):∃ u v,cs=[.iface u v]:=by
  cases fuel with
  | zero=>simp [DataW.trod] at h
  | succ fuel =>
    unfold DataW.trod at h
    rw [hu] at h
    split at h<;>simp_all
abbrev ZgA:List (String × DataW Unit):=[("math/bits.deBruijn32tab", Rows.laid_math_bits_deBruijn32tab),("math/bits.deBruijn64tab", Rows.laid_math_bits_deBruijn64tab),("internal/strconv.uint64pow10", Rows.laid_internal_strconv_uint64pow10),("unicode/utf8.acceptRanges", Rows.laid_unicode_utf8_acceptRanges),("strconv.ErrRange", Rows.laid_strconv_ErrRange),("strconv.ErrSyntax", Rows.laid_strconv_ErrSyntax),("unicode.CaseRanges", Rows.laid_unicode_CaseRanges),("unicode/utf8.first", Rows.laid_unicode_utf8_first)]
theorem Zli {w:World} {n:String} {g:Nat} {t e:TypeId} {m:Nat} {k:IntKind} {zs:List Int} (hg:Tryz.prog.globalNamed n=some g) (hty:(Tryz.prog.globals[g]?).map (·.type)=some t)
    (ht:Tryz.prog.underlying t=some (.array m e)) (he:Tryz.prog.underlying e=some (.int k)) (hce:Tryz.prog.cellsOf e=1) (hct:Tryz.prog.cellsOf t=m) (h:VarReads Tryz.prog w n (tabData k zs)):TabIs Tryz.prog w n k zs:=by
  obtain ⟨g',t',cs,fuel,p,hg',ht',hvar,hd⟩:=h
  obtain rfl:=Option.some.inj (hg.symm.trans hg')
  obtain rfl:=Option.some.inj (hty.symm.trans ht')
  unfold TabIs
  rw [hvar,← cells_of_tab ht he hce hct hd]
theorem ZrH:Rows.laid_unicode_utf8_first=firstData:=by kernel_rfl
theorem Zqy:(Rows.laid_unicode_utf8_acceptRanges:DataW Unit)=acceptData:=by kernel_rfl
theorem ZuU:(Rows.laid_internal_strconv_uint64pow10:DataW Unit)=tabData .u64 pow10Tab:=by kernel_rfl
theorem Zi4:Tryz.prog.globalNamed "unicode/utf8.first" = some 0:=by kernel_rfl
theorem Zml:Tryz.prog.globalNamed "unicode/utf8.acceptRanges" = some 1:=by kernel_rfl
theorem Zrd:Tryz.prog.globalNamed "internal/strconv.uint64pow10" = some 6:=by kernel_rfl
theorem ZnM:Tryz.prog.globalNamed "strconv.ErrRange" = some 5:=by kernel_rfl
theorem ZqW:Tryz.prog.globalNamed "strconv.ErrSyntax" = some 4:=by kernel_rfl
theorem Zob:(Tryz.prog.globals[0]?).map (·.type)=some 271:=by kernel_rfl
theorem Zmk:(Tryz.prog.globals[1]?).map (·.type)=some 274:=by kernel_rfl
theorem Zrc:(Tryz.prog.globals[6]?).map (·.type)=some 332:=by kernel_rfl
theorem ZnL:(Tryz.prog.globals[5]?).map (·.type)=some 177:=by kernel_rfl
theorem ZqV:(Tryz.prog.globals[4]?).map (·.type)=some 177:=by kernel_rfl
theorem Zw7:Tryz.prog.cellsOf 5=1:=by kernel_rfl
theorem Ztx:Tryz.prog.cellsOf 271=256:=by kernel_rfl
theorem Zw8:Tryz.prog.cellsOf 182=1:=by kernel_rfl
theorem Zw9:Tryz.prog.cellsOf 332=20:=by kernel_rfl
theorem Zvt:Tryz.prog.cellsOf 273=2:=by kernel_rfl
theorem ZoP {w:World} (h3:VarReads Tryz.prog w "unicode/utf8.first" firstData) (h4:VarReads Tryz.prog w "unicode/utf8.acceptRanges" acceptData):Lib.Utf8Tabs 0 1 w:=by
  refine ⟨fun c hc=>?_,fun i hi=>?_⟩
  ·have hT:=Zli Zi4 Zob Tryz.underlying271 Tryz.underlying5 Zw7 Ztx h3
   rw [hT.cell Zi4 c (by simp [firstTab];omega)]
   simp [firstTab,List.getD,hc]
  ·obtain ⟨g,t,cs,fuel,p,hg,hty,hvar,hd⟩:=h4
   obtain rfl:=Option.some.inj (Zml.symm.trans hg)
   obtain rfl:=Option.some.inj (Zmk.symm.trans hty)
   obtain ⟨fuel',d,q,hdi,he⟩:=array_elem Tryz.underlying274 hd i hi
   simp only [List.getElem?_map,List.getElem?_range hi,Option.map_some,Option.some.injEq] at hdi
   subst hdi
   rw [Zvt] at he
   have hcs:=ints_of_struct Tryz.underlying273 (fun j f hj=>by
     match j,hj with
     | 0,hj=>simp at hj;subst hj;exact ⟨Tryz.underlying5,rfl,Zw7⟩
     | 1,hj=>simp at hj;subst hj;exact ⟨Tryz.underlying5,rfl,Zw7⟩
     | j+2,hj=>simp at hj) (by rw [Zvt];rfl) he
   have e0:=congrArg (·[0]?) hcs
   have e1:=congrArg (·[1]?) hcs
   simp only [List.getElem?_take,List.getElem?_drop] at e0 e1
   constructor
   ·rw [World.var?_cell hg hvar (2*i),← Array.getElem?_toList]
    simpa [Nat.mul_comm] using e0
   ·rw [World.var?_cell hg hvar (2*i+1),← Array.getElem?_toList]
    simpa [Nat.mul_comm] using e1
theorem Zk9 {w:World} {n nm:String} {g:Nat} {d:DataW Unit} (hg:Tryz.prog.globalNamed n=some g) (hty:(Tryz.prog.globals[g]?).map (·.type)=some 177) (h:VarReads Tryz.prog w n (.iface nm d)):∃ t p,w.cell? ⟨g,0,none⟩=some (.iface t p):=by
  obtain ⟨g',t',cs,fuel,p,hg',ht',hvar,hd⟩:=h
  obtain rfl:=Option.some.inj (hg.symm.trans hg')
  obtain rfl:=Option.some.inj (hty.symm.trans ht')
  obtain ⟨u,v,e⟩:=ZjX Tryz.underlying177 hd
  refine ⟨u,v,?_⟩
  rw [World.var?_cell hg hvar 0,← Array.getElem?_toList,e];rfl
theorem ZpC:((begin Tryz.prog (fun _ _=>0) default).world.heap[2]?).bind Obj.row?=some (#[.int .i64 0],3):=by kernel_rfl
theorem ZlY:Tryz.prog.buildable 3=true:=by kernel_rfl
theorem ZnZ:Tryz.prog.cellTypes Tryz.prog.depth 3=some [3]:=by kernel_rfl
theorem ZnB:(begin Tryz.prog (fun _ _=>0) default).world.heap.size=14:=by kernel_rfl
theorem Zgr:Tryz.prog.globals.size=9:=by kernel_rfl
theorem Zn1:(ZgA.all fun x=>x.2.handleName?.isNone)=true:=by kernel_rfl
set_option maxRecDepth 10000 in
theorem ZsR {W:World} (hL:laidMetH Tryz.prog ZgA W) (hS:W.ShapedOpen Tryz.prog):ZbA W.heap∧9≤sz W.heap:=by
  have hl:∀ w:World,w.heap=W.heap→laidMet Tryz.prog ZgA w:=fun w hw=>by
    have:=hL.of_heap hw.symm
    rw [MakeChecks.laidMetH_plain _ _ _ Zn1] at this
    exact this
  have hW:=hl W rfl
  refine ⟨⟨fun w hw=>?_,fun w hw=>?_,?_,?_,?_⟩,?_⟩
  ·have r1:=laidMet.reads (hl w hw) (n:= "unicode/utf8.first") (d:=Rows.laid_unicode_utf8_first) (by simp [ZgA])
   have r2:=laidMet.reads (hl w hw) (n:= "unicode/utf8.acceptRanges") (d:=Rows.laid_unicode_utf8_acceptRanges) (by simp [ZgA])
   rw [ZrH] at r1
   rw [Zqy] at r2
   exact ZoP r1 r2
  ·have r1:=laidMet.reads (hl w hw) (n:= "internal/strconv.uint64pow10") (d:=Rows.laid_internal_strconv_uint64pow10) (by simp [ZgA])
   rw [ZuU] at r1
   exact Zli Zrd Zrc Tryz.underlying332 Tryz.underlying182 Zw8 Zw9 r1
  ·exact Zk9 ZnM ZnL (laidMet.reads hW (n:= "strconv.ErrRange") (d:=Rows.laid_strconv_ErrRange) (by simp [ZgA]))
  ·exact Zk9 ZqW ZqV (laidMet.reads hW (n:= "strconv.ErrSyntax") (d:=Rows.laid_strconv_ErrSyntax) (by simp [ZgA]))
  ·obtain ⟨cs,hh,hs,hr⟩:=hS.1 _ _ _ (by rw [Zgr];decide) ZpC
   obtain ⟨ts,hts,_,hall⟩:=hr ZlY
   rw [ZnZ] at hts
   cases hts
   have h1:0<cs.size:=by rw [hs];decide
   obtain ⟨u,hu',hok⟩:=hall 0 cs[0] (by simp [h1])
   have:u=3:=by simpa using hu'.symm
   subst this
   have hcell:Ze.cell W.heap 2 0=some cs[0]:=by
     unfold Ze.cell;simp [hh,h1]
   rw [hcell]
   unfold Cell.ok at hok
   rw [Tryz.underlying3] at hok
   cases hv:cs[0]<;>rw [hv] at hok<;>first | exact ⟨_,by rw [hok.1]⟩ | simp at hok
  ·obtain ⟨o,o0,h1,_⟩:=hS.2 13 (by rw [Zgr];decide) (by rw [ZnB];decide)
   have:=(Array.getElem?_eq_some_iff.1 h1).1
   show 9≤W.heap.size
   omega
end Go.Proofs.YtpjbjdheeemdiaaGreatDoor
namespace Go.Proofs.YtpjbjdheeemdiaaGreatDoor
open Go Go.Fw
section
variable {H:Type} {enc:TypeId × Value→H}
theorem ZkG {a:Assume} {C:Checked} {os:Os} {f:FuncId} {fn:Func} {s:ChangeSpec} {conds:List PathCond} {apart fresh handsOn again:Bool} {X:World→Array Value→Prop}
    (hX:∀ (w w':World) (args:Array Value),w.heap=w'.heap→X w args→X w' args)
    (own:ownKnob C.prog.godebug=none) (started:os.Started) (noInit:C.prog.inits.idxOf? f=none) (hfn:C.prog.funcs[f]?=some fn)
    (witness:∃ (w:World) (tape:Tape) (i:Input),w.os=os∧(w.forCall tape i).Shaped C.prog∧i.vars=[]∧Input.okWide C.prog (w.forCall tape i) .any w.heap.size f i ∧
      ((s.pre enc C.prog fn conds apart (w.forCall tape i).memory i.args∧X (w.forCall tape i).memory i.args)∧sizedMet enc C.prog fn (OpenSpec.ofChange s) apart (w.forCall tape i).memory i.args)∧a.holds C.prog (lone (Frame.enter C.prog f i.args .normal) [] (w.forCall tape i)))
    (contract:∀ (W:World) (base:Nat) (args:Array Value) (ds gs:List (DataW H)) (before:List MemPlace),
      (∀ (j:Nat) t v,fn.params[j]?=some t→args[j]?=some v→Value.okWide C.prog W .any base t v) →
      DataW.Whole enc C.prog fn.params.toList s.vars apart W args.toList ds gs before →
      (DataW.weightsEach C.prog (fn.params.toList++s.plain.varTypes C.prog) (ds++gs)).all (· ≤ reachBytes)=true→X W args→W.ShapedOpen C.prog →
      Calls C.prog f args W fun e W'=>∃ v,e = .returned v∧s.post enc C.prog fn apart fresh handsOn again W args v W') :
    ReturnsInHanded a C os f .any (fun w args=>(s.pre enc C.prog fn conds apart w args∧X w args)∧sizedMet enc C.prog fn (OpenSpec.ofChange s) apart w args) (s.post enc C.prog fn apart fresh handsOn again):=by
  refine returnsInHanded_of_calls own started noInit witness ?_
  intro w tape i _ hsh _ hok hpre _
  obtain ⟨_,_,_,fn',hfn',_,_,_,_,hval⟩:=hok
  have e:fn'=fn:=Option.some.inj (hfn'.symm.trans hfn)
  subst e
  obtain ⟨⟨⟨ds,gs,before,hw,_⟩,hx⟩,hz⟩:=hpre
  have hw':=DataW.Whole.of_heap (w':=w.forCall tape i) (by rfl) hw
  refine (contract (w.forCall tape i) w.heap.size i.args ds gs before hval hw' (hz.weights hw) (hX _ _ _ (by rfl) hx) hsh).mono fun e W' ⟨v,he,hp⟩=>?_
  subst he
  exact ChangeSpec.post_blind hp
theorem Zkx {P:Program} {w:World} {base:Nat} {spare:Nat→Bool} {held:Bool} {t:TypeId} {fuel:Nat} {s:ByteArray} {d:DataW H} {p:List MemPlace} (ht:P.underlying t=some .string)
    (h:DataW.trod enc P w base spare held fuel t [.string s]=some (d,p)):d = .lit (.string s.data.toList):=by
  obtain ⟨s',hs,hx,_⟩:=DataW.trod_string ht h
  simp at hs
  subst hs
  exact (Prod.mk.inj hx).1
end
theorem ZuH {n:Int} (h:(Lit.int .i64 n).wf=true) : -9223372036854775808≤n∧n<9223372036854775808:=by
  simp only [Lit.wf,Bool.and_eq_true,decide_eq_true_eq] at h
  have h1:IntKind.i64.min = -9223372036854775808:=by decide
  have h2:IntKind.i64.max=9223372036854775807:=by decide
  omega
theorem ZtA {H:Type} {enc:TypeId × Value→H} {P:Program} {w:World} {base:Nat} {spare:Nat→Bool} {held:Bool} {q:IntKind} {t:TypeId} {fuel:Nat} {n:Int} {x:DataW H × List MemPlace} (ht:P.underlying t=some (.int q)) (h:DataW.trod enc P w base spare held fuel t [.int q n]=some x):(Lit.int q n).wf=true:=by
  obtain ⟨m,hm,_,hw⟩:=DataW.trod_int ht h
  simp at hm
  subst hm
  exact hw
end Go.Proofs.YtpjbjdheeemdiaaGreatDoor
namespace Go.Proofs.YtpjbjdheeemdiaaGreatDoor
open Go Go.Fw Go.Js
theorem Zma:∀ (m:Nat) {h:Ze} {z:VT5} {v:JV} {S:Nat→Prop} {most:Nat} {K:Int→HP},v.sub.hei≤m→Zbo h S z v→(∀ j,S j→j<sz h)→most≤65536→(∀ h',Ext h h'→K (ZbW most v.sub 1) h')→Yv (m+1) z most K h:=by
  have step:∀ {f85:Znt} {v:JV},(∀ i k t ns s r,v.sub.drop i = .cons k t ns s r→∀ {h:Ze} {z:VT5} {S:Nat→Prop} {most:Nat} {K:Int→HP},Zbo h S z ⟨k,t,ns,s⟩→(∀ j,S j→j<sz h)→most≤65536→(∀ h',Ext h h'→K (ZbW most s 1) h')→f85 z most K h) →
      ∀ {h:Ze} {z:VT5} {S:Nat→Prop} {most:Nat} {K:Int→HP},Zbo h S z v→(∀ j,S j→j<sz h)→most≤65536→(∀ h',Ext h h'→K (ZbW most v.sub 1) h')→XK f85 z most K h:=by
    intro f85 v hsub h z S most K hv hS hm hk
    unfold XK ZaB
    refine ZbY fun h1 c1 e1 z1=>Za (Za (Za ?_))
    have c1':obj h1 h.size=some (.cells (XX z).toArray 33 (0,0)):=c1
    obtain ⟨a1,a2,a3,a4,cx,a5,a6,a7⟩:=id hv
    have hlx:z.2.2.1.len=v.sub.len:=by have:=a5.len;have:=a7.len;omega
    have hbig:=a5.big
    have hcap:=a5.cap
    refine ZB (fun p h'=>∃ n i:Nat,p.1=n∧p.2.1=i∧n≤65537∧i≤v.sub.len∧Ext h1 h'∧ZbW most v.sub 1=ZbW most (v.sub.drop i) n) (fun p _=>(v.sub.len - p.2.1).toNat) ⟨1,0,rfl,rfl,by omega,Nat.zero_le _,Ext.refl _,rfl⟩ ?_
    rintro ⟨n0,i0,u⟩ h2 ⟨n,i,hn0,hi,hn,hle,e2,q2⟩
    dsimp only at hn0 hi ⊢
    subst hn0 hi
    have e02:=e1.trans e2
    have c2:=Y2 c1' e2
    refine rL (s:=z.2.2.1) (Zr c2 rfl) (Zi (fun hlt=>?_) fun hge=>Za ?_)
    ·have hia:i<v.sub.len:=by omega
     obtain ⟨k,t,ns,s,r,hd⟩:=JL.drop_cons hia
     rw [hd] at q2
     simp only [ZbW] at q2
     have keepS:∀ {a:Ze},Ext h a→∀ j,S j→j<sz h→obj a j=obj h j:=fun e j hj hl=>YB e hl
     refine Zi (fun hle2=>?_) fun hgt=>Za ?_
     ·rw [if_neg (by omega)] at q2
      refine rL (s:=z.2.2.1) (Zr c2 rfl) (Zhy (ZaK a5 a6 (keepS e02)) (a7.keep (keepS e02) fun j hj=>hj) hd rfl fun zi hzi=>?_)
      rw [ZG (n:=(most:Int) - n) (by omega) (by omega),show (most:Int) - n=((most - n:Nat):Int) by omega]
      have hvl:=ZdS s (most - n) 1
      refine hsub i k t ns s r hd (S:=S) hzi (fun j hj=>by have:=hS j hj;have:=e02.szz;omega) (by omega) fun h5 e5=>Za (Za ?_)
      rw [ZG (by omega) (by omega),ZG (by omega) (by omega)]
      exact ⟨⟨n+ZbW (most - n) s 1,i+1,rfl,rfl,by omega,by omega,e2.trans e5,by rw [q2,JL.drop_succ i _ hd]⟩,by omega⟩
     ·rw [if_pos (by omega)] at q2
      have:=hk h2 e02
      rw [q2] at this;exact this
    ·rw [JL.drop_nil (by omega)] at q2
     have:=hk h2 e02
     rw [q2] at this;exact this
  intro m
  induction m with
  | zero =>
    intro h z v S most K hm
    exact step (f85:=Yv 0) fun i k t ns s r hd=>by have:=JL.drop_hei i v.sub hd;omega
  | succ m ih =>
    intro h z v S most K hm
    exact step (f85:=Yv (m+1)) fun i k t ns s r hd=>fun a b c d=>ih (v:=⟨k,t,ns,s⟩) (by have:=JL.drop_hei i v.sub hd;show s.hei≤m;omega) a b c d
theorem Zn7 {h:Ze} {z:VT5} {v:JV} {S:Nat→Prop} {K:Bool→HP} (hv:Zbo h S z v) (hS:∀ j,S j→j<sz h) (hk:∀ h',Ext h h'→K (decide (65536<ZfO v)) h'):Y0 z K h:=by
  unfold Y0 ZaF
  refine ZbY fun h1 c1 e1 z1=>?_
  have c1':obj h1 h.size=some (.cells (XX z).toArray 33 (0,0)):=c1
  refine rI (Zr c1' rfl) (rS (Zr c1' rfl) (rL (s:=z.2.2.1) (Zr c1' rfl) (rL (s:=z.2.2.2.1) (Zr c1' rfl) ?_)))
  refine ⟨v.sub.hei+1,Zma _ (most:=65536) (z:=z) (Nat.le_refl _) (hv.ext hS e1) (fun j hj=>Nat.lt_of_lt_of_le (hS j hj) e1.size) (by omega) fun h2 e2=>Zd ?_⟩
  have:=hk h2 (e1.trans e2)
  have hc:=(ZgG v.sub 65536 1 (by omega)).1
  rw [show decide (((ZbW 65536 v.sub 1:Nat):Int)>65536)=decide (65536<ZfO v) by rw [decide_eq_decide];unfold ZfO;omega]
  exact this
end Go.Proofs.YtpjbjdheeemdiaaGreatDoor
namespace Go.Js
open Go
end Go.Js
namespace Go.Proofs.YtpjbjdheeemdiaaGreatDoor
open Go Go.Fw Go.Js
end Go.Proofs.YtpjbjdheeemdiaaGreatDoor
namespace Go.Js
open Go
def nsW:List BL→Nat
  | []=>0
  | n::l=>6*n.length+3+nsW l
def pw:JL→Nat
  | .nil=>0
  | .cons _ t ns sub rest=>9+6*t.length+nsW ns+pw sub+pw rest
def wV (v:JV):Nat:=9+6*v.t.length+nsW v.ns+pw v.sub
theorem Zpw {n:BL}:∀ {l:List BL},n∈l→n.length≤nsW l
  | [],h=>by cases h
  | m::l,h=>by
    rcases List.mem_cons.1 h with rfl | h
    ·simp only [nsW];omega
    ·have:=Zpw h;simp only [nsW];omega
theorem Zmc (c:UInt8):(Zc2 c).length≤6:=by
  unfold Zc2
  split
  ·simp
  split
  ·simp
  split
  ·simp
  split
  ·simp
  split
  ·simp
  split
  ·simp
  split<;>simp
end Go.Js
namespace Go.Proofs.YtpjbjdheeemdiaaGreatDoor
open Go Go.Fw Go.Js Go.ChangeShapes Go.WideShapes
section
variable {H:Type} {enc:TypeId × Value→H} {P:Program} {w:World} {base:Nat} {spare:Nat→Bool} {held:Bool}
end
section
variable {H:Type} {enc:TypeId × Value→H} {P:Program} {w:World} {base:Nat} {spare:Nat→Bool} {held:Bool}
end
end Go.Proofs.YtpjbjdheeemdiaaGreatDoor
namespace Go.Js
open Go
def Dg (l:BL):Prop:=∀ c∈l,Yw c=true
theorem Dg.nil:Dg []:=fun _ h=>by cases h
theorem Dg.cons {c:UInt8} {l:BL} (hc:Yw c=true) (h:Dg l):Dg (c::l):=fun d hd=>by
  rcases List.mem_cons.1 hd with rfl | hd
  ·exact hc
  ·exact h d hd
theorem Dg.app {a b:BL} (ha:Dg a) (hb:Dg b):Dg (a++b):=fun d hd=>by
  rcases List.mem_append.1 hd with hd | hd
  ·exact ha d hd
  ·exact hb d hd
theorem Xv {c:UInt8}:Yw c=true↔48≤c.toNat∧c.toNat≤57:=by unfold Yw;simp
theorem Dg.ne {l:BL} (h:Dg l) {x:UInt8} (hx:x.toNat<48∨57<x.toNat):x∉l:=fun hm=>by
  have:=Xv.1 (h x hm);omega
def mnB (neg:Bool):BL:=if neg then [45] else []
def Zow (I:BL):Prop:=I=[48]∨∃ c r,I=c::r∧c≠48∧Dg (c::r)
def ZeT (f:BL):Prop:=f=[]∨∃ F,f=46::F∧F≠[]∧Dg F
def Zoo (e:BL):Prop:=e=[]∨∃ c s E,e=c::(s++E)∧(c=101∨c=69)∧(s=[]∨s=[43]∨s=[45])∧E≠[]∧Dg E
theorem Zow.dg {I:BL} (h:Zow I):Dg I∧I≠[]:=by
  rcases h with rfl | ⟨c,r,rfl,_,h⟩
  ·exact ⟨Dg.cons rfl Dg.nil,by simp⟩
  ·exact ⟨h,by simp⟩
theorem ZeT.dg {f:BL} (h:ZeT f):Dg f.tail:=by
  rcases h with rfl | ⟨F,rfl,_,h⟩
  ·exact Dg.nil
  ·exact h
theorem Zfg {l r:BL} (h:Z0 l = .ok () r):∃ D,l=D++r∧D≠[]∧Dg D:=by
  rcases l with _ | ⟨c,l⟩
  ·cases h
  ·dsimp only [Z0] at h
   split at h
   ·rename_i hd
    cases h
    refine ⟨c::l.takeWhile Yw,by simp,by simp,Dg.cons hd fun d hm=>?_⟩
    have:=List.all_takeWhile (l:=l) (p:=Yw)
    rw [List.all_eq_true] at this
    exact this d hm
   ·cases h
def noDig (r:BL):Prop:=∀ c l,r=c::l→Yw c=false
theorem Zne:∀ {D r:BL},Dg D→noDig r→(D++r).dropWhile Yw=r
  | [],r,_,hr=>by
    rcases r with _ | ⟨c,r⟩
    ·rfl
    ·rw [List.nil_append,List.dropWhile_cons_of_neg (by simp [hr c r rfl])]
  | c::D,r,h,hr=>by
    rw [List.cons_append,List.dropWhile_cons_of_pos (h c (by simp))]
    exact Zne (fun d hd=>h d (List.mem_cons_of_mem _ hd)) hr
theorem Zfh {D r:BL} (h0:D≠[]) (h:Dg D) (hr:noDig r):Z0 (D++r) = .ok () r:=by
  rcases D with _ | ⟨c,D⟩
  ·exact absurd rfl h0
  ·show (if Yw c then Out.ok () ((D++r).dropWhile Yw) else _)=_
   rw [if_pos (h c (by simp)),Zne (fun d hd=>h d (List.mem_cons_of_mem _ hd)) hr]
theorem Zoo.noDig {e:BL} (h:Zoo e):noDig e:=by
  rintro c l rfl
  rcases h with h | ⟨d,s,E,h,hc,_⟩
  ·cases h
  ·cases h
   rcases hc with rfl | rfl<;>rfl
theorem ZeT.noDig {f e:BL} (h:ZeT f) (he:Zoo e):noDig (f++e):=by
  rcases h with rfl | ⟨F,rfl,_⟩
  ·exact he.noDig
  ·rintro c l hh
   cases hh;rfl
theorem ZmS {t:BL} (h:ZcA t = .ok () []):∃ neg I f e,t=mnB neg++(I++(f++e))∧Zow I∧ZeT f∧Zoo e:=by
  obtain ⟨l1,l2,h1,h2,h3⟩:=ZfB h
  have hI:∃ I,Xb t=I++l1∧Zow I:=by
    generalize Xb t=u at h1
    rcases u with _ | ⟨c,u⟩
    ·cases h1
    ·dsimp only [ZeS] at h1
     split at h1
     ·rename_i hc
      refine ⟨[48],?_,.inl rfl⟩
      rcases u with _ | ⟨d,u⟩
      ·cases h1;rw [hc];rfl
      ·dsimp only [X9] at h1
       split at h1
       ·cases h1
       ·cases h1;rw [hc];rfl
     ·rename_i hc
      obtain ⟨D,e,hD,hg⟩:=Zfg h1
      rcases D with _ | ⟨d,D⟩
      ·exact absurd rfl hD
      ·cases e
       exact ⟨c::D,rfl,.inr ⟨c,D,rfl,hc,hg⟩⟩
  have hF:∃ f,l1=f++l2∧ZeT f:=by
    rcases l1 with _ | ⟨c,l⟩
    ·cases h2;exact ⟨[],rfl,.inl rfl⟩
    ·dsimp only [ZcP] at h2
     split at h2
     ·rename_i hc
      obtain ⟨D,e,hD,hg⟩:=Zfg h2
      exact ⟨46::D,by rw [e,hc];rfl,.inr ⟨D,rfl,hD,hg⟩⟩
     ·cases h2;exact ⟨[],rfl,.inl rfl⟩
  have hE:Zoo l2:=by
    rcases l2 with _ | ⟨c,l⟩
    ·exact .inl rfl
    ·dsimp only [Zfm] at h3
     split at h3
     ·rename_i hc
      obtain ⟨D,e,hD,hg⟩:=Zfg h3
      rw [List.append_nil] at e
      refine .inr ?_
      rcases l with _ | ⟨d,l⟩
      ·rw [← e] at hD;exact absurd rfl hD
      ·dsimp only [Zdp] at e
       split at e
       ·rename_i hd
        refine ⟨c,[d],D,by rw [e];rfl,hc,?_,hD,hg⟩
        rcases hd with rfl | rfl
        ·exact .inr (.inl rfl)
        ·exact .inr (.inr rfl)
       ·exact ⟨c,[],D,by rw [← e];rfl,hc,.inl rfl,hD,hg⟩
     ·cases h3
  obtain ⟨I,i1,i2⟩:=hI
  obtain ⟨f,f1,f2⟩:=hF
  rcases t with _ | ⟨c,t⟩
  ·cases h1
  ·dsimp only [Xb] at i1
   split at i1
   ·rename_i hc
    exact ⟨true,I,f,l2,by rw [i1,f1,hc];rfl,i2,f2,hE⟩
   ·exact ⟨false,I,f,l2,by rw [i1,f1];rfl,i2,f2,hE⟩
theorem ZmT {neg:Bool} {I f e:BL} (hI:Zow I) (hf:ZeT f) (he:Zoo e):ZcA (mnB neg++(I++(f++e))) = .ok () []:=by
  have h1:Xb (mnB neg++(I++(f++e)))=I++(f++e):=by
    cases neg with
    | true=>rfl
    | false =>
      show Xb (I++(f++e))=_
      obtain ⟨hd,h0⟩:=hI.dg
      rcases I with _ | ⟨c,I⟩
      ·exact absurd rfl h0
      ·show (if c=45 then _ else _)=_
       rw [if_neg fun hc=>by have:=hd c (by simp);rw [hc] at this;cases this]
       rfl
  have h2:ZeS (I++(f++e)) = .ok () (f++e):=by
    rcases hI with rfl | ⟨c,r,rfl,hc,hd⟩
    ·show X9 (f++e)=_
     have hn:=hf.noDig he
     rcases hfe:f++e with _ | ⟨d,l⟩
     ·rfl
     ·show (if Yw d then _ else _)=_
      rw [if_neg (by simp [hn d l hfe])]
    ·show (if c=48 then _ else _)=_
     rw [if_neg hc]
     exact Zfh (D:=c::r) (by simp) hd (hf.noDig he)
  have h3:ZcP (f++e) = .ok () e:=by
    rcases hf with rfl | ⟨F,rfl,hF,hd⟩
    ·rcases he with rfl | ⟨c,s,E,rfl,hc,_⟩
     ·rfl
     ·show (if c=46 then _ else _)=_
      rw [if_neg (by rcases hc with rfl | rfl<;>decide)]
    ·show (if (46:UInt8)=46 then Z0 (F++e) else .ok () (46::(F++e)))=_
     rw [if_pos rfl,Zfh hF hd he.noDig]
  have h4:Zfm e = .ok () []:=by
    rcases he with rfl | ⟨c,s,E,rfl,hc,hs,hE,hd⟩
    ·rfl
    ·show (if c=101∨c=69 then Z0 (Zdp (s++E)) else _)=_
     have:Zdp (s++E)=E:=by
       rcases hs with rfl | rfl | rfl
       ·rcases E with _ | ⟨d,E⟩
        ·exact absurd rfl hE
        ·show (if d=43∨d=45 then _ else _)=_
         have:=hd d (by simp)
         rw [if_neg (by rintro (rfl | rfl)<;>cases this)]
       ·rfl
       ·rfl
     rw [if_pos hc,this]
     have:=Zfh (r:=[]) hE hd (fun c l h=>by cases h)
     rwa [List.append_nil] at this
  unfold ZcA
  rw [h1,h2]
  show (ZcP (f++e)).bind _=_
  rw [h3]
  exact h4
def ZaQ (a:Nat) (l:BL):Nat:=l.foldl (fun a c=>a*10+(c.toNat - 48)) a
theorem Zah (a:Nat) (c:UInt8) (l:BL):ZaQ a (c::l)=ZaQ (a*10+(c.toNat - 48)) l:=by
  unfold ZaQ
  rw [List.foldl_cons]
theorem Zey (a:Nat) (x y:BL):ZaQ a (x++y)=ZaQ (ZaQ a x) y:=by
  induction x generalizing a with
  | nil=>rfl
  | cons c x ih=>rw [List.cons_append,Zah,Zah];exact ih _
theorem Zg7 (l:BL) (a:Nat):a*10 ^ l.length≤ZaQ a l:=by
  induction l generalizing a with
  | nil=>exact Nat.le_of_eq (Nat.mul_one a)
  | cons c l ih =>
    have:=ih (a*10+(c.toNat - 48))
    rw [Zah,List.length_cons,Nat.pow_succ]
    generalize 10 ^ l.length=e at *
    refine Nat.le_trans ?_ this
    rw [Nat.mul_comm e 10,← Nat.mul_assoc]
    exact Nat.mul_le_mul_right _ (Nat.le_add_right _ _)
theorem ZsO (l:BL) (a:Nat):a≤ZaQ a l:=by
  have:=Zg7 l a
  have h:1≤10 ^ l.length:=Nat.pow_pos (by decide)
  have:=Nat.mul_le_mul_left a h
  omega
theorem ZfS (k a:Nat):ZaQ a (Lib.repeatL [48] k)=a*10 ^ k:=by
  induction k generalizing a with
  | zero=>exact (Nat.mul_one a).symm
  | succ k ih =>
    rw [show Lib.repeatL [48] (k+1)=48::Lib.repeatL [48] k from rfl,Zah,ih,Nat.pow_succ]
    rw [show a*10+((48:UInt8).toNat - 48)=a*10 from rfl,Nat.mul_assoc,Nat.mul_comm 10]
theorem Zs4 (l:BL) (a:Nat) (h:Dg l) (ha:a<18446744073709551616):Lib.parseUint10 a l=if ZaQ a l<18446744073709551616 then .ok (ZaQ a l) else .range:=by
  induction l generalizing a with
  | nil =>
    rw [show ZaQ a []=a from rfl,if_pos ha];rfl
  | cons c l ih =>
    have hc:=Xv.1 (h c (by simp))
    have hl:Dg l:=fun d hd=>h d (List.mem_cons_of_mem _ hd)
    have hv:=Zah a c l
    have hge:=ZsO l (a*10+(c.toNat - 48))
    rw [hv]
    show (if 48≤c.toNat∧c.toNat≤57 then _ else _)=_
    rw [if_pos hc]
    split
    ·rw [if_neg (by omega)]
    split
    ·rw [if_neg (by omega)]
    ·exact ih _ hl (by omega)
theorem Zu6 {l:BL} (h:Dg l) (h0:l≠[]):Lib.parseMag l=if ZaQ 0 l<18446744073709551616 then .ok (ZaQ 0 l) else .range:=by
  unfold Lib.parseMag
  rw [if_neg h0,Zs4 l 0 h (by decide)]
theorem Zjf {l:BL} (h:Dg l) (h0:l≠[]):Lib.atoiAll l=if ZaQ 0 l<9223372036854775808 then .ok (ZaQ 0 l:Int) else .range:=by
  rcases l with _ | ⟨c,l⟩
  ·exact absurd rfl h0
  have hc:=Xv.1 (h c (by simp))
  rw [Lib.atoiAll_plain c l (by omega) (by omega),Zu6 h h0]
  by_cases h1:ZaQ 0 (c::l)<18446744073709551616
  ·rw [if_pos h1]
   show (if 9223372036854775808≤ZaQ 0 (c::l) then _ else _)=_
   by_cases h2:ZaQ 0 (c::l)<9223372036854775808
   ·rw [if_pos h2,if_neg (by omega)]
   ·rw [if_neg h2,if_pos (by omega)]
  ·rw [if_neg h1,if_neg (by omega)];rfl
theorem Zjg {l:BL} (h:Dg l) (h0:l≠[]):Lib.atoiAll (45::l)=if ZaQ 0 l≤9223372036854775808 then .ok (-(ZaQ 0 l:Int)) else .range:=by
  rw [Lib.atoiAll_minus,Zu6 h h0]
  by_cases h1:ZaQ 0 l<18446744073709551616
  ·rw [if_pos h1]
   show (if 9223372036854775808<ZaQ 0 l then _ else _)=_
   by_cases h2:ZaQ 0 l≤9223372036854775808
   ·rw [if_pos h2,if_neg (by omega)]
   ·rw [if_neg h2,if_pos (by omega)]
  ·rw [if_neg h1,if_neg (by omega)];rfl
theorem Zk2 {c:UInt8}:∀ {a b:BL},c∉a→Lib.index (a++c::b) [c]=a.length
  | [],b,_=>by
    rw [List.nil_append]
    unfold Lib.index
    rw [if_pos (by simp)];rfl
  | d::a,b,h=>by
    have hd:c≠d:=fun e=>h (by rw [e];simp)
    rw [List.cons_append]
    unfold Lib.index
    rw [Zk2 (a:=a) (fun hm=>h (List.mem_cons_of_mem _ hm)),if_neg (by simp [hd])]
    simp
theorem ZiX {c:UInt8}:∀ {a:BL},c∉a→Lib.index a [c] = -1
  | [],_=>rfl
  | d::a,h=>by
    have hd:c≠d:=fun e=>h (by rw [e];simp)
    unfold Lib.index
    rw [ZiX (a:=a) (fun hm=>h (List.mem_cons_of_mem _ hm)),if_neg (by simp [hd])]
    rfl
theorem Zqh {c:UInt8} {a b:BL} (h:c∉a):Lib.cut (a++c::b) [c]=(a,b,true):=by
  unfold Lib.cut
  rw [Zk2 h,if_pos (by omega)]
  simp only [Int.toNat_natCast,List.length_singleton,Prod.mk.injEq,and_true]
  exact ⟨List.take_left,by rw [List.drop_append,List.drop_of_length_le (by omega)];simp⟩
theorem Zng {c:UInt8} {a:BL} (h:c∉a):Lib.cut a [c]=(a,[],false):=by
  unfold Lib.cut
  rw [ZiX h,if_neg (by decide)]
theorem ZgN:∀ {l:BL},Dg l→Lib.toLowerA l=l
  | [],_=>rfl
  | c::l,h=>by
    have hc:=Xv.1 (h c (by simp))
    have:=ZgN (l:=l) fun d hd=>h d (List.mem_cons_of_mem _ hd)
    unfold Lib.toLowerA at this ⊢
    rw [List.map_cons,this]
    congr 1
    unfold Lib.lowerB
    rw [if_neg]
    simp only [Lib.isUpperB,Bool.and_eq_true,decide_eq_true_eq,UInt8.le_iff_toNat_le]
    rintro ⟨h1,_⟩
    have:(65:UInt8).toNat=65:=rfl
    omega
def Zhb (neg:Bool) (D:BL) (p:Int):Option Int :=
  let d:=Lib.trimLeftB D 48
  let g:=Lib.trimRightB d 48
  if g=[] then some 0 else
    let y:=p+((d.length:Int) - g.length)
    if y<0∨20<y∨19<g.length+y then none
    else if neg then (if ZaQ 0 g*10 ^ y.toNat≤9223372036854775808 then some (-((ZaQ 0 g*10 ^ y.toNat:Nat):Int)) else none)
    else if ZaQ 0 g*10 ^ y.toNat<9223372036854775808 then some ((ZaQ 0 g*10 ^ y.toNat:Nat):Int) else none
theorem ZfU (d:BL):Lib.trimRightB (d++[48]) 48=Lib.trimRightB d 48:=by
  unfold Lib.trimRightB
  rw [List.reverse_append,List.reverse_singleton,List.singleton_append,List.dropWhile_cons_of_pos (by rfl)]
theorem Ziw:∀ D:BL,Lib.trimLeftB (D++[48]) 48=if Lib.trimLeftB D 48=[] then [] else Lib.trimLeftB D 48++[48]
  | []=>by
    rfl
  | c::D=>by
    have:=Ziw D
    unfold Lib.trimLeftB at this ⊢
    by_cases hc:c=48
    ·rw [List.cons_append,List.dropWhile_cons_of_pos (by simp [hc]),List.dropWhile_cons_of_pos (by simp [hc]),this]
    ·rw [List.cons_append,List.dropWhile_cons_of_neg (by simp [hc]),List.dropWhile_cons_of_neg (by simp [hc]),if_neg (by simp)]
     rfl
theorem Zo1 (neg:Bool) (D:BL) (p:Int):Zhb neg (D++[48]) (p - 1)=Zhb neg D p:=by
  unfold Zhb
  dsimp only
  rw [Ziw]
  by_cases h:Lib.trimLeftB D 48=[]
  ·rw [if_pos h,h]
   have:Lib.trimRightB [] 48=[]:=rfl
   rw [if_pos this,if_pos this]
  ·rw [if_neg h,ZfU]
   have:p - 1+(((Lib.trimLeftB D 48++[48]).length:Int) - (Lib.trimRightB (Lib.trimLeftB D 48) 48).length)=p+(((Lib.trimLeftB D 48).length:Int) - (Lib.trimRightB (Lib.trimLeftB D 48) 48).length):=by
     rw [List.length_append,List.length_singleton];omega
   rw [this]
def Zj7 (e:BL):Int:=match e with
  | []=>0
  | _::45::E=> -(ZaQ 0 E:Int)
  | _::43::E=>ZaQ 0 E
  | _::E=>ZaQ 0 E
theorem Zk7 (c:UInt8) (E:BL):Zj7 (c::43::E)=ZaQ 0 E:=rfl
theorem Zi7 (c:UInt8) (E:BL):Zj7 (c::45::E) = -(ZaQ 0 E:Int):=rfl
theorem Zp8 (c:UInt8) {E:BL} (h0:E≠[]) (h:Dg E):Zj7 (c::E)=ZaQ 0 E:=by
  rcases E with _ | ⟨d,E⟩
  ·exact absurd rfl h0
  ·have hd:=h d (by simp)
   unfold Zj7
   split
   ·rename_i h;cases h
   ·rename_i h;cases h;cases hd
   ·rename_i h;cases h;cases hd
   ·rename_i h;cases h;rfl
theorem Zvp {e:BL} (h:Zoo e):Zot e.tail=if -1048576≤Zj7 e∧Zj7 e≤1048576 then some (Zj7 e) else none:=by
  rcases h with rfl | ⟨c,s,E,rfl,hc,hs,hE,hd⟩
  ·rfl
  ·have hlt:∀ v:Nat,(-1048576:Int)≤v∧(v:Int)≤1048576→v<9223372036854775808:=fun v h=>by omega
   have hlt2:∀ v:Nat,(-1048576:Int)≤ -(v:Int)∧ -(v:Int)≤1048576→v≤9223372036854775808:=fun v h=>by omega
   have key:∀ s':BL,Zeu s'=E→s'≠[]→Zot s'=if -1048576≤(ZaQ 0 E:Int)∧(ZaQ 0 E:Int)≤1048576 then some (ZaQ 0 E:Int) else none:=fun s' h1 h2=>by
     unfold Zot
     rw [if_neg h2,h1,Zjf hd hE]
     by_cases hv:ZaQ 0 E<9223372036854775808
     ·rw [if_pos hv]
     ·rw [if_neg hv,if_neg fun h=>hv (hlt _ h)]
   rcases hs with rfl | rfl | rfl
   ·rw [List.nil_append,Zp8 c hE hd]
    refine key E ?_ hE
    rcases E with _ | ⟨d,E⟩
    ·rfl
    ·show (if d=43 then _ else _)=_
     rw [if_neg fun h=>by have:=hd d (by simp);rw [h] at this;cases this]
   ·rw [show c::([43]++E)=c::43::E from rfl,Zk7]
    exact key (43::E) rfl (by simp)
   ·rw [show c::([45]++E)=c::45::E from rfl,Zi7]
    show Zot (45::E)=_
    unfold Zot
    rw [if_neg (by simp),show Zeu (45::E)=45::E from rfl,Zjg hd hE]
    by_cases hv:ZaQ 0 E≤9223372036854775808
    ·rw [if_pos hv]
    ·rw [if_neg hv,if_neg fun h=>hv (hlt2 _ h)]
theorem ZmA {D:BL} (h:Dg D):Dg (Lib.trimLeftB D 48):=fun c hc=>h c ((List.dropWhile_suffix _).subset hc)
theorem Zkv (d:BL):Lib.trimRightB d 48 <+: d:=by
  unfold Lib.trimRightB
  have:=List.dropWhile_suffix (· ==(48:UInt8)) (l:=d.reverse)
  have:=List.reverse_prefix.2 this
  rwa [List.reverse_reverse] at this
theorem Zix:∀ {D:BL} {c:UInt8} {l:BL},Lib.trimLeftB D 48=c::l→c≠48
  | [],_,_,h=>by cases h
  | d::D,c,l,h=>by
    unfold Lib.trimLeftB at h
    by_cases hd:d=48
    ·rw [List.dropWhile_cons_of_pos (by simp [hd])] at h
     exact Zix (D:=D) h
    ·rw [List.dropWhile_cons_of_neg (by simp [hd])] at h
     cases h;exact hd
theorem Zew {neg:Bool} {I f e:BL} (hI:Zow I) (hf:ZeT f) (he:Zoo e) (hl:(mnB neg++(I++(f++e))).length≤65536) :
    Zci (mnB neg++(I++(f++e)))=Zhb neg (I++f.tail) (Zj7 e - f.tail.length):=by
  obtain ⟨hId,hI0⟩:=hI.dg
  have hFd:=hf.dg
  have h1:ZbU (mnB neg++(I++(f++e)))=(I++(f++e),neg):=by
    cases neg with
    | true=>rfl
    | false =>
      show ZbU (I++(f++e))=_
      rcases I with _ | ⟨c,I⟩
      ·exact absurd rfl hI0
      ·show (if c=45 then _ else _)=_
       rw [if_neg fun hc=>by have:=hId c (by simp);rw [hc] at this;cases this]
       rfl
  have hfe:f=[]∨f=46::f.tail:=by
    rcases hf with rfl | ⟨F,rfl,_⟩
    ·exact .inl rfl
    ·exact .inr rfl
  have hlf:Lib.toLowerA f=f:=by
    rcases hfe with h | h
    ·rw [h];rfl
    ·rw [h]
     show Lib.lowerB 46::Lib.toLowerA f.tail=_
     rw [ZgN hFd];rfl
  have hIf:(101:UInt8)∉I++f:=by
    intro hm
    rcases List.mem_append.1 hm with hm | hm
    ·exact hId.ne (.inr (by decide)) hm
    ·rcases hfe with h | h
     ·rw [h] at hm;cases hm
     ·rw [h] at hm
      rcases List.mem_cons.1 hm with h' | h'
      ·exact absurd h' (by decide)
      ·exact hFd.ne (.inr (by decide)) h'
  have h2:∃ b,Lib.cut (Lib.toLowerA (I++(f++e))) [101]=(I++f,e.tail,b):=by
    rw [show Lib.toLowerA (I++(f++e))=I++(f++Lib.toLowerA e) by
      have a:=ZgN hId
      unfold Lib.toLowerA at *
      rw [List.map_append,List.map_append,a,hlf]]
    rcases he with rfl | ⟨c,s,E,rfl,hc,hs,hE,hd⟩
    ·refine ⟨false,?_⟩
     rw [show Lib.toLowerA []=[] from rfl,List.append_nil]
     exact Zng hIf
    ·refine ⟨true,?_⟩
     have:Lib.toLowerA (c::(s++E))=101::(s++E):=by
       have a:=ZgN hd
       unfold Lib.toLowerA at *
       rw [List.map_cons,List.map_append,a]
       rw [show Lib.lowerB c=101 by rcases hc with rfl | rfl<;>rfl]
       rcases hs with rfl | rfl | rfl<;>rfl
     rw [this,← List.append_assoc]
     exact Zqh hIf
  obtain ⟨bb,h2⟩:=h2
  have h3:∃ b,Lib.cut (I++f) [46]=(I,f.tail,b):=by
    rcases hfe with h | h
    ·rw [h,List.append_nil];exact ⟨false,Zng (hId.ne (.inl (by decide)))⟩
    ·rw [h];exact ⟨true,Zqh (hId.ne (.inl (by decide)))⟩
  obtain ⟨bc,h3⟩:=h3
  have hlen:I.length+f.tail.length≤65536:=by
    have:f.tail.length≤f.length:=by rw [List.length_tail];omega
    simp only [List.length_append] at hl;omega
  have hdl:=Zd1 (I++f.tail) 48
  have hgl:=Zd0 (Lib.trimLeftB (I++f.tail) 48) 48
  have hdd:=ZmA (hId.app hFd)
  have hpre:=Zkv (Lib.trimLeftB (I++f.tail) 48)
  have hhead:∀ c l,Lib.trimRightB (Lib.trimLeftB (I++f.tail) 48) 48=c::l→c≠48:=fun c l h=>by
    obtain ⟨r,hr⟩:=hpre
    rw [h] at hr
    exact Zix hr.symm
  unfold Zci Zhb
  rw [h1]
  dsimp only
  rw [h2]
  dsimp only
  rw [h3]
  dsimp only
  rw [Zvp he]
  rw [List.length_append] at hdl
  generalize Lib.trimLeftB (I++f.tail) 48=d at *
  have hgd:Dg (Lib.trimRightB d 48):=fun c hc=>hdd c (hpre.subset hc)
  generalize Lib.trimRightB d 48=g at *
  by_cases h0:g=[]
  ·rw [if_pos h0,if_pos h0]
  rw [if_neg h0,if_neg h0]
  obtain ⟨c,gl,hgc⟩:=List.exists_cons_of_ne_nil h0
  have hgv:10 ^ gl.length≤ZaQ 0 g:=by
    have hc:=hhead c gl hgc
    have hcd:=Xv.1 (hgd c (by rw [hgc];simp))
    have hc':c.toNat≠48:=fun e=>hc (UInt8.toNat_inj.1 e)
    rw [hgc]
    rw [Zah]
    refine Nat.le_trans ?_ (Zg7 gl _)
    exact Nat.le_mul_of_pos_left _ (by omega)
  by_cases hX : -1048576≤Zj7 e∧Zj7 e≤1048576
  ·rw [if_pos hX]
   dsimp only
   have hy:Zj7 e+((d.length:Int) - g.length - f.tail.length)=Zj7 e - f.tail.length+((d.length:Int) - g.length):=by omega
   rw [hy]
   generalize Zj7 e - f.tail.length+((d.length:Int) - g.length)=y
   by_cases hy0:y<0
   ·rw [if_pos hy0,if_pos (.inl hy0)]
   by_cases hy1:20<y
   ·rw [if_neg hy0,if_pos hy1,if_pos (.inr (.inl hy1))]
   rw [if_neg hy0,if_neg hy1]
   obtain ⟨k,rfl⟩:∃ k:Nat,y=k:=⟨y.toNat,by omega⟩
   rw [Int.toNat_natCast]
   have hval:ZaQ 0 (g++Lib.repeatL [48] k)=ZaQ 0 g*10 ^ k:=by rw [Zey,ZfS]
   have hdz:Dg (g++Lib.repeatL [48] k):=by
     refine hgd.app ?_
     have:∀ n,Dg (Lib.repeatL [48] n):=fun n=>by
       induction n with
       | zero=>exact Dg.nil
       | succ n ih=>exact Dg.cons rfl ih
     exact this k
   have hnz:g++Lib.repeatL [48] k≠[]:=by rw [hgc];simp
   have hbig:19<(g.length:Int)+k→9223372036854775808<ZaQ 0 g*10 ^ k:=fun hh=>by
     have h9:g.length=gl.length+1:=by rw [hgc];rfl
     have a:=Nat.mul_le_mul_right (10 ^ k) hgv
     rw [← Nat.pow_add] at a
     have b:10 ^ 19≤10 ^ (gl.length+k):=Nat.pow_le_pow_right (by decide) (by omega)
     have c:(9223372036854775808:Nat)<10 ^ 19:=by decide
     omega
   cases neg with
   | true =>
     rw [show (if true=true then [45] else [])++(g++Lib.repeatL [48] k)=45::(g++Lib.repeatL [48] k) from rfl,Zjg hdz hnz,hval]
     generalize ZaQ 0 g*10 ^ k=w at *
     by_cases h19:19<(g.length:Int)+k
     ·have:=hbig h19
      rw [if_neg (show ¬ w≤9223372036854775808 by omega),if_pos (show ((k:Int)<0∨20<(k:Int)∨19<(g.length:Int)+k) by omega)]
     ·rw [if_neg (show ¬ ((k:Int)<0∨20<(k:Int)∨19<(g.length:Int)+k) by omega),if_pos rfl]
      by_cases hv:w≤9223372036854775808
      ·rw [if_pos hv,if_pos hv]
      ·rw [if_neg hv,if_neg hv]
   | false =>
     rw [show (if false=true then [45] else [])++(g++Lib.repeatL [48] k)=g++Lib.repeatL [48] k from rfl,Zjf hdz hnz,hval]
     generalize ZaQ 0 g*10 ^ k=w at *
     by_cases h19:19<(g.length:Int)+k
     ·have:=hbig h19
      rw [if_neg (show ¬ w<9223372036854775808 by omega),if_pos (show ((k:Int)<0∨20<(k:Int)∨19<(g.length:Int)+k) by omega)]
     ·rw [if_neg (show ¬ ((k:Int)<0∨20<(k:Int)∨19<(g.length:Int)+k) by omega),if_neg Bool.false_ne_true]
      by_cases hv:w<9223372036854775808
      ·rw [if_pos hv,if_pos hv]
      ·rw [if_neg hv,if_neg hv]
  ·rw [if_neg hX]
   dsimp only
   rw [if_pos (by omega)]
theorem ZpD {neg:Bool} {I f e:BL} (hI:Zow I) (hf:ZeT f) (he:Zoo e) (hl:(mnB neg++(I++(f++e))).length≤65536) :
    let f':=if f=[] then [46,48] else f++[48]
    ZeT f'∧((mnB neg++(I++(f'++e))).length≤65536→Zci (mnB neg++(I++(f'++e)))=Zci (mnB neg++(I++(f++e)))):=by
  dsimp only
  have hf':ZeT (if f=[] then [46,48] else f++[48]):=by
    rcases hf with rfl | ⟨F,rfl,h0,hd⟩
    ·exact .inr ⟨[48],rfl,by simp,Dg.cons rfl Dg.nil⟩
    ·exact .inr ⟨F++[48],rfl,by simp,hd.app (Dg.cons rfl Dg.nil)⟩
  refine ⟨hf',fun hl'=>?_⟩
  rw [Zew hI hf' he hl',Zew hI hf he hl]
  have:(if f=[] then [46,48] else f++[48]).tail=f.tail++[48]:=by
    rcases hf with rfl | ⟨F,rfl,h0,hd⟩<;>rfl
  rw [this,← List.append_assoc,← Zo1 neg (I++f.tail)]
  congr 1
  rw [List.length_append,List.length_singleton]
  omega
end Go.Js
namespace Go.Js
open Go
theorem Znx (c:UInt8) (r:BL):Lib.validD (c::r)=(Zak ((c::r).take (nRb c))&&Lib.validD ((c::r).drop (nRb c))):=by
  rw [Lib.validD_step _ (by simp)]
  by_cases hb:(Lib.decodeL (c::r)).1=65533∧(Lib.decodeL (c::r)).2=1
  ·rw [if_pos hb]
   cases ho:Zak ((c::r).take (nRb c)) with
   | false=>rfl
   | true=>exact absurd hb ((XW c r).2 ho)
  ·obtain ⟨e,ho⟩:=(XW c r).1 hb
   rw [if_neg hb,e,ho];rfl
def rrL:Nat→JL→Bool
  | _,.nil=>true
  | 0,.cons k t ns sub rest=>whB k t ns sub&&(decide (k≠6)&&(decide (k≠7)&&rrL 0 rest))
  | d+1,.cons k t ns sub rest=>whB k t ns sub&&(rrL d sub&&rrL (d+1) rest)
theorem ZjI:∀ (l:JL) (d:Nat),rrL d l=true↔ZbE d l
  | .nil,0=>⟨fun _=>trivial,fun _=>rfl⟩
  | .nil,_+1=>⟨fun _=>trivial,fun _=>rfl⟩
  | .cons k t ns sub rest,0=>by
    have:=ZjI rest 0
    simp only [rrL,ZbE,Bool.and_eq_true,decide_eq_true_eq,Zdl,this]
  | .cons k t ns sub rest,d+1=>by
    have h1:=ZjI rest (d+1)
    have h2:=ZjI sub d
    simp only [rrL,ZbE,Bool.and_eq_true,Zdl,h1,h2]
abbrev rrV (d:Nat) (v:JV):Bool:=rrL d (.cons v.k v.t v.ns v.sub .nil)
theorem Zq6 (d k:Nat) (t:BL) (ns:List BL) (sub rest:JL):rrL d (.cons k t ns sub rest)=(rrV d ⟨k,t,ns,sub⟩&&rrL d rest):=by
  cases d with
  | zero=>simp [rrV,rrL,Bool.and_assoc]
  | succ d=>simp [rrV,rrL,Bool.and_assoc]
theorem ZjG (v:JV):rrV 0 v=(whB v.k v.t v.ns v.sub&&(decide (v.k≠6)&&decide (v.k≠7))):=by simp [rrV,rrL]
theorem ZjH (d:Nat) (v:JV):rrV (d+1) v=(whB v.k v.t v.ns v.sub&&rrL d v.sub):=by simp [rrV,rrL]
end Go.Js
namespace Go.Proofs.YtpjbjdheeemdiaaGreatDoor
open Go Go.Fw Go.Js
theorem Zpd (v:JV):Zbu v=(decide (ZfO v≤65536)&&rrV 64 v):=by
  rw [Bool.eq_iff_iff,Zbt,Bool.and_eq_true,decide_eq_true_eq,ZjI]
  exact ⟨fun h=>⟨h.2,h.1⟩,fun h=>⟨h.2,h.1⟩⟩
end Go.Proofs.YtpjbjdheeemdiaaGreatDoor
namespace Go.Js
open Go
theorem ZoI:∀ (n:Nat) {l:JL} {k:Nat} {t:BL} {ns:List BL} {s r:JL},l.drop n = .cons k t ns s r→wV ⟨k,t,ns,s⟩≤pw l
  | 0,l,k,t,ns,s,r,e=>by rw [show l=_ from e];simp only [pw,wV];omega
  | n+1,.nil,_,_,_,_,_,e=>by cases e
  | n+1,.cons _ _ _ _ r',_,_,_,_,_,e=>by have:=ZoI n (l:=r') e;simp only [pw];omega
theorem ZwQ (v:JV):pw v.sub<wV v:=by unfold wV;omega
def ok1 (k:Nat) (t:BL) (ns:List BL) (sub:JL):Prop:=(k=4∨k=5∨t=[])∧(k=6∨k=7∨sub = .nil)∧(k=7∨ns=[])
theorem ZoG {k:Nat} {t:BL} {ns:List BL} {sub:JL} (h:¬ ok1 k t ns sub):whB k t ns sub=false:=by
  cases e:whB k t ns sub with
  | false=>rfl
  | true =>
    refine absurd ?_ h
    unfold ok1
    rcases Zdl.1 e with ⟨a,b,c,d⟩ | ⟨a,_,_,c,d⟩ | ⟨a,_,c,d⟩ | ⟨a,b,c⟩ | ⟨a,b,c,_⟩
    ·exact ⟨.inr (.inr b),.inr (.inr d),.inr c⟩
    ·exact ⟨.inl a,.inr (.inr d),.inr c⟩
    ·exact ⟨.inr (.inl a),.inr (.inr d),.inr c⟩
    ·exact ⟨.inr (.inr b),.inl a,.inr c⟩
    ·exact ⟨.inr (.inr b),.inr (.inl a),.inl a⟩
theorem Zpa {v:JV} (h6:v.k≠6) (h7:v.k≠7) (n:Nat):rrV n v=whB v.k v.t v.ns v.sub:=by
  cases n with
  | zero=>rw [ZjG];simp [h6,h7]
  | succ n =>
    rw [ZjH]
    cases e:whB v.k v.t v.ns v.sub with
    | false=>rfl
    | true =>
      rw [ZeC (Zdl.1 e) h6 h7]
      cases n<;>rfl
theorem Zq7 {d:Nat}:∀ (i:Nat) {l:JL} {k:Nat} {t:BL} {ns:List BL} {s r:JL},l.drop i = .cons k t ns s r→rrL d (l.drop i)=(rrV d ⟨k,t,ns,s⟩&&rrL d (l.drop (i+1)))
  | i,l,k,t,ns,s,r,e=>by rw [JL.drop_succ i l e,e,Zq6]
end Go.Js
namespace Go.Proofs.YtpjbjdheeemdiaaGreatDoor
open Go Go.Fw Go.Js
theorem ZpR {p:Prop} [Decidable p] {A B:Prop} (h1:¬ p→A) (h2:p→B):Zp (!decide p) A B:=⟨fun e=>h1 (by simpa using e),fun e=>h2 (by simpa using e)⟩
theorem ZgC {s:ByteArray} {n:Nat} {c:UInt8} {l:BL} (h:Zcb s n (c::l)) {i:Int} (hi:i=n) {K:Int→Prop} (hk:K (c.toNat:Int)):ZeH s i K :=
  ⟨c,by omega,by subst hi;rw [Int.toNat_natCast];exact h.head,hk⟩
theorem Zpf {s:ByteArray} {n:Nat} {l:BL} (h:Zcb s n l) {k:Nat} {c:UInt8} {r:BL} (hd:l.drop k=c::r):Zcb s (n+k) (c::r):=by
  have:k≤l.length:=by
    rcases Nat.lt_or_ge l.length k with hl | hl
    ·rw [List.drop_of_length_le (by omega)] at hd;cases hd
    ·exact hl
  rw [← hd];exact h.dropK this
theorem ZhC {l:BL} (hl:l.length≤4611686018427387904) {h:Ze} {K:Bool→HP} (hk:K (Lib.validD l) h):YW (Zc l) K h:=by
  unfold YW Zaz
  refine Za (ZB (fun p h'=>h'=h∧∃ (n:Nat) (r:BL),p.1=n∧Zcb (Zc l) n r∧Lib.validD r=Lib.validD l) (fun p _=>(Zc l).size - p.1.toNat) ⟨rfl,0,l,rfl,Zcb.start _,rfl⟩ ?_)
  rintro ⟨at_,u⟩ h2 ⟨rfl,n,r,hn,hr,hv⟩
  dsimp only at hn ⊢
  subst hn
  have hlen:=hr.len
  have hsz:(Zc l).size=l.length:=rfl
  refine Zi (fun hlt=>?_) fun hge=>?_
  ·rcases r with _ | ⟨c,r⟩
   ·simp at hlen;omega
   simp only [List.length_cons] at hlen
   refine ZgC hr rfl (ZmC rfl (Za (Za (Za ?_))))
   rw [Znx] at hv
   have no:Zak ((c::r).take (nRb c))=false→K false h2:=fun h=>by
     rw [h,Bool.false_and] at hv
     rw [← hv] at hk;exact hk
   have hc4:nRb c≤4:=by
     unfold nRb ZfV
     split
     ·omega
     split
     ·omega
     split
     ·omega
     split
     ·omega
     split
     ·omega
     split
     ·omega
     split
     ·omega
     split<;>omega
   refine Yj (fun h0=>no ?_) fun h0=>?_
   ·rw [show nRb c=0 by omega];rfl
   rw [ZG (by omega) (by omega)]
   refine Zi (fun hbig=>no ?_) fun hroom=>Za ?_
   ·obtain ⟨m,hm⟩:∃ m,nRb c=m+1:=⟨nRb c - 1,by omega⟩
    rw [hm,List.take_succ_cons]
    show (decide (nRb c≠0)&&decide ((r.take m).length+1=nRb c)&&okC (loR c) (hiR c) (r.take m))=_
    rw [hm,List.length_take]
    simp
    intro h
    omega
   obtain ⟨m,hm⟩:∃ m,nRb c=m+1:=⟨nRb c - 1,by omega⟩
   have hmr:m≤r.length:=by omega
   have hone:Zak ((c::r).take (nRb c))=okC (loR c) (hiR c) (r.take m):=by
     rw [hm,List.take_succ_cons]
     show (decide (nRb c≠0)&&decide ((r.take m).length+1=nRb c)&&okC (loR c) (hiR c) (r.take m))=_
     rw [hm,List.length_take,Nat.min_eq_left hmr]
     simp
   rw [hone] at no hv
   refine ZB (fun p h'=>h'=h2∧∃ (i lo hi:Nat),p.1=lo∧p.2.1=hi∧p.2.2.1=((i+1:Nat):Int)∧i≤m∧okC lo hi ((r.take m).drop i)=okC (loR c) (hiR c) (r.take m)) (fun p _=>m+1 - p.2.2.1.toNat)
     ⟨rfl,0,loR c,hiR c,rfl,rfl,rfl,Nat.zero_le _,rfl⟩ ?_
   rintro ⟨lo_,hi_,i_,u⟩ h3 ⟨rfl,i,lo,hi,h1,h2',h4,him,hok⟩
   dsimp only at h1 h2' h4 ⊢
   subst h1 h2' h4
   refine Zi (fun hlt2=>?_) fun hge2=>?_
   ·have hi':i<m:=by omega
    have hil:i<r.length:=by omega
    have hd:(r.take m).drop i=r[i]::(r.take m).drop (i+1):=by
      rw [List.drop_eq_getElem_cons (by rw [List.length_take];omega)]
      congr 1
      exact List.getElem_take
    have hrd:(c::r).drop (i+1)=r[i]::r.drop (i+1):=List.drop_eq_getElem_cons hil
    have hx:=Zpf hr hrd
    rw [hd] at hok
    simp only [okC] at hok
    have ei:IntKind.wrap .i64 ((n:Int)+((i+1:Nat):Int))=((n+(i+1):Nat):Int):=by rw [ZG (by omega) (by omega)];omega
    refine ZgC hx ei (Zi (fun hb=>no ?_) fun hb=>ZgC hx ei (Zi (fun hb2=>no ?_) fun hb2=>Za (Za (Za ?_))))
    ·rw [← hok,decide_eq_false (by omega)];rfl
    ·rw [← hok,decide_eq_false (p:=r[i].toNat≤hi) (by omega)];simp
    ·rw [decide_eq_true (by omega),decide_eq_true (by omega)] at hok
     rw [ZG (by omega) (by omega)]
     exact ⟨⟨rfl,i+1,128,191,rfl,rfl,rfl,by omega,by simpa using hok⟩,by omega⟩
   ·have:i=m:=by omega
    subst this
    rw [List.drop_of_length_le (by rw [List.length_take];omega)] at hok
    have h1:okC (loR c) (hiR c) (r.take i)=true:=by rw [← hok];rfl
    rw [h1,Bool.true_and] at hv
    refine Za ?_
    rw [show (n:Int)+((nRb c:Nat):Int)=((n+(nRb c):Nat):Int) by omega]
    exact ⟨⟨rfl,n+nRb c,(c::r).drop (nRb c),rfl,hr.dropK (by simp;omega),hv⟩,by omega⟩
  ·rcases r with _ | ⟨c,r⟩
   ·rw [← hv] at hk;exact hk
   ·simp at hlen;omega
theorem ZlI:∀ (m:Nat) {h:Ze} {z:VT5} {v:JV} {S:Nat→Prop} {d:Nat} {K:Bool→HP},v.sub.hei≤m→wV v≤4611686018427387904→Zbo h S z v→(∀ j,S j→j<sz h)→ZbA h→9≤sz h→d≤64 →
    (∀ h',Ext h h'→K (rrV (64 - d) v) h')→Yu (m+1) z d K h:=by
  have step:∀ {f88:Zns} {v:JV},(∀ i k t ns s r,v.sub.drop i = .cons k t ns s r→∀ {h:Ze} {z:VT5} {S:Nat→Prop} {d:Nat} {K:Bool→HP},wV ⟨k,t,ns,s⟩≤4611686018427387904→Zbo h S z ⟨k,t,ns,s⟩→(∀ j,S j→j<sz h)→ZbA h→9≤sz h→d≤64→(∀ h',Ext h h'→K (rrV (64 - d) ⟨k,t,ns,s⟩) h')→f88 z d K h) →
      ∀ {h:Ze} {z:VT5} {S:Nat→Prop} {d:Nat} {K:Bool→HP},wV v≤4611686018427387904→Zbo h S z v→(∀ j,S j→j<sz h)→ZbA h→9≤sz h→d≤64→(∀ h',Ext h h'→K (rrV (64 - d) v) h')→XJ f88 z d K h:=by
    intro f88 v hsub h z S d K hw hv hS ht hh hd hk
    unfold XJ Zay
    refine ZbY fun h1 c1 e1 z1=>?_
    have c1':obj h1 h.size=some (.cells (XX z).toArray 33 (0,0)):=c1
    obtain ⟨a1,a2,a3,a4,cx,a5,a6,a7⟩:=id hv
    have hlx:z.2.2.1.len=v.sub.len:=by have:=a5.len;have:=a7.len;omega
    have hlny:z.2.2.2.1.len=v.ns.length:=Zhu a3
    have hbig:=a5.big
    have hcap:=a5.cap
    have hbig2:=a3.big
    have hcap2:=a3.cap
    have key:=hk h1 e1
    have no:whB v.k v.t v.ns v.sub=false→K false h1:=fun hf=>by
      have:rrV (64 - d) v=false:=by
        cases 64 - d with
        | zero=>rw [ZjG,hf];rfl
        | succ n=>rw [ZjH,hf];rfl
      rw [this] at key;exact key
    have rk:∀ {x:Ze} {K':Int→Prop},Ext h1 x→K' v.k→ldI x h.size 0 .u8 K':=fun e hK=>by
      have c:=Y2 c1' e
      refine rI (Zr c rfl) ?_
      rw [a1];exact hK
    have rt:∀ {x:Ze} {K':ByteArray→Prop},Ext h1 x→K' (Zc v.t)→ldS x h.size (0+1) K':=fun e hK=>by
      have c:=Y2 c1' e
      refine rS (Zr c rfl) ?_
      rw [a2];exact hK
    have rx:∀ {x:Ze} {K':Sl→Prop},Ext h1 x→K' z.2.2.1→ldL x h.size (0+2) K':=fun e hK=>rL (s:=z.2.2.1) (Zr (Y2 c1' e) rfl) hK
    have ry:∀ {x:Ze} {K':Sl→Prop},Ext h1 x→K' z.2.2.2.1→ldL x h.size (0+3) K':=fun e hK=>rL (s:=z.2.2.2.1) (Zr (Y2 c1' e) rfl) hK
    have e0:=Ext.refl h1
    have nil_of:v.sub.len=0→v.sub = .nil:=JL.len_nil.1
    have hlsub:v.sub = .nil→v.sub.len=0:=JL.len_nil.2
    refine Zm (fun _ h'=>h'=h1∧ok1 v.k v.t v.ns v.sub) ?_ ?_
    case refine_2 =>
      have nsck:(v.k=4∨v.k=5∨v.t=[])∧(v.k=6∨v.k=7∨v.sub = .nil)→(ldI h1 h.size 0 .u8 fun t=>Zp (t !=7) (ldL h1 h.size (0+3) fun t13=>Zp (decide ((t13.len:Int)>0)) (K false h1) (h1=h1∧ok1 v.k v.t v.ns v.sub)) (h1=h1∧ok1 v.k v.t v.ns v.sub)):=by
        intro hp
        refine rk e0 (Xk (fun h7=>ry e0 (Zi (fun hp=>no (ZoG fun ho=>?_)) fun hp'=>⟨rfl,hp.1,hp.2,.inr (List.eq_nil_of_length_eq_zero (by omega))⟩)) fun h7=>⟨rfl,hp.1,hp.2,.inl (by omega)⟩)
        rcases ho.2.2 with h | h
        ·omega
        ·rw [h] at hlny;simp at hlny;omega
      have lsck:(v.k=4∨v.k=5∨v.t=[])→(ldI h1 h.size 0 .u8 fun t=>Zp (t !=6) (ldI h1 h.size 0 .u8 fun t6=>Zp (t6 !=7) (ldL h1 h.size (0+2) fun t7=>Zp (decide ((t7.len:Int)>0)) (K false h1) (ldI h1 h.size 0 .u8 fun t=>Zp (t !=7) (ldL h1 h.size (0+3) fun t13=>Zp (decide ((t13.len:Int)>0)) (K false h1) (h1=h1∧ok1 v.k v.t v.ns v.sub)) (h1=h1∧ok1 v.k v.t v.ns v.sub)))
          (ldI h1 h.size 0 .u8 fun t=>Zp (t !=7) (ldL h1 h.size (0+3) fun t13=>Zp (decide ((t13.len:Int)>0)) (K false h1) (h1=h1∧ok1 v.k v.t v.ns v.sub)) (h1=h1∧ok1 v.k v.t v.ns v.sub))) (ldI h1 h.size 0 .u8 fun t=>Zp (t !=7) (ldL h1 h.size (0+3) fun t13=>Zp (decide ((t13.len:Int)>0)) (K false h1) (h1=h1∧ok1 v.k v.t v.ns v.sub)) (h1=h1∧ok1 v.k v.t v.ns v.sub))):=by
        intro hp
        refine rk e0 (Xk (fun h6=>rk e0 (Xk (fun h7=>rx e0 (Zi (fun hp=>no (ZoG fun ho=>?_)) fun hp'=>nsck ⟨hp,.inr (.inr (nil_of (by omega)))⟩)) fun h7=>nsck ⟨hp,.inr (.inl (by omega))⟩)) fun h6=>nsck ⟨hp,.inl (by omega)⟩)
        rcases ho.2.1 with h | h | h
        ·omega
        ·omega
        ·have:=hlsub h;omega
      refine rk e0 (Xk (fun h4=>rk e0 (Xk (fun h5=>rt e0 ?_) fun h5=>lsck (.inr (.inl (by omega))))) fun h4=>lsck (.inl (by omega)))
      rw [show Za2 (Zc v.t) (ByteArray.mk #[])=decide (v.t=[]) from XS _ _]
      by_cases h0:v.t=[]
      ·rw [decide_eq_true h0];exact Zl rfl (lsck (.inr (.inr h0)))
      ·rw [decide_eq_false h0]
       exact Zn rfl (no (ZoG fun ho=>by rcases ho.1 with h | h | h;(omega);(omega);exact h0 h))
    rintro ⟨⟩ h2 ⟨rfl,ho⟩
    refine Zm (fun _ h'=>h'=h2∧(v.k=6∨v.k=7)) ?_ ?_
    case refine_1 =>
      rintro ⟨⟩ h3 ⟨rfl,h67⟩
      refine Zm (fun _ h'=>h'=h3∧d<64∧(v.k=7→v.ns.length=v.sub.len)) ?_ ?_
      case refine_2 =>
        refine Yj (fun hd64=>?_) fun hd64=>rk e0 (Yj (fun h7=>ry e0 (rx e0 (Xk (fun hne=>no ?_) fun heq=>⟨rfl,by omega,fun _=>by omega⟩))) fun h7=>⟨rfl,by omega,fun h=>absurd (by omega) h7⟩)
        ·rw [show 64 - d=0 by omega,ZjG] at key
         rcases h67 with h | h
         ·rw [h] at key;simpa using key
         ·rw [h] at key;simpa using key
        ·cases e:whB v.k v.t v.ns v.sub with
         | false=>rfl
         | true =>
           rcases Zdl.1 e with ⟨h,_⟩ | ⟨h,_⟩ | ⟨h,_⟩ | ⟨h,_⟩ | ⟨h,_,h',_⟩
           all_goals omega
      rintro ⟨⟩ h4 ⟨rfl,hd64,hnl⟩
      obtain ⟨n,hn⟩:∃ n,64 - d=n+1:=⟨63 - d,by omega⟩
      rw [hn] at hk
      rw [ZjH] at hk
      have hwh:whB v.k v.t v.ns v.sub=v.ns.all Lib.validD:=by
        rw [Bool.eq_iff_iff,Zdl,List.all_eq_true]
        rcases h67 with h6 | h7
        ·have hns:v.ns=[]:=by rcases ho.2.2 with h | h;omega;exact h
         have htt:v.t=[]:=by rcases ho.1 with h | h | h;omega;omega;exact h
         exact ⟨fun _ x hx=>(by rw [hns] at hx;cases hx),fun _=> .inr (.inr (.inr (.inl ⟨h6,htt,hns⟩)))⟩
        ·have htt:v.t=[]:=by rcases ho.1 with h | h | h;omega;omega;exact h
         refine ⟨fun h x hx=>?_,fun h=> .inr (.inr (.inr (.inr ⟨h7,htt,hnl h7,fun x hx=>(ZdT x).1 (h x hx)⟩)))⟩
         rcases h with ⟨h,_⟩ | ⟨h,_⟩ | ⟨h,_⟩ | ⟨h,_⟩ | ⟨h,_,_,h'⟩
         all_goals first | omega | exact (ZdT x).2 (h' x hx)
      refine Za (ZB (fun p h'=>h'=h4∧∃ i:Nat,p.1=i∧i≤v.ns.length∧(v.ns.take i).all Lib.validD=true) (fun p _=>(v.ns.length - p.1).toNat) ⟨rfl,0,rfl,Nat.zero_le _,rfl⟩ ?_)
      rintro ⟨i0,u⟩ h5 ⟨rfl,i,hi,hil,hall⟩
      dsimp only at hi ⊢
      subst hi
      refine ry e0 (Zi (fun hlt=>?_) fun hge=>?_)
      ·have hia:i<v.ns.length:=by omega
       refine ry e0 (ZlX (ZaK a3 a4 fun j hj hl=>YB e1 hl) (List.getElem?_eq_getElem hia) rfl (ZhC ?_ ?_))
       ·have:=Zpw (List.getElem_mem hia);unfold wV at hw;omega
       cases hu:Lib.validD v.ns[i] with
       | false =>
         refine Zn rfl (no ?_)
         rw [hwh]
         cases hq:v.ns.all Lib.validD with
         | false=>rfl
         | true=>rw [List.all_eq_true] at hq;have:=hq _ (List.getElem_mem hia);rw [hu] at this;cases this
       | true =>
         refine Zl rfl (Za ?_)
         rw [ZG (by omega) (by omega)]
         refine ⟨⟨rfl,i+1,rfl,by omega,?_⟩,by omega⟩
         rw [List.take_add_one,List.getElem?_eq_getElem hia,List.all_append,hall]
         simp [hu]
      ·rw [List.take_of_length_le (by omega)] at hall
       rw [hall] at hwh
       rw [hwh] at hk
       refine Za (ZB (fun p h'=>∃ i:Nat,p.1=i∧i≤v.sub.len∧Ext h5 h'∧rrL n (v.sub.drop i)=rrL n v.sub) (fun p _=>(v.sub.len - p.1).toNat) ⟨0,rfl,Nat.zero_le _,e0,rfl⟩ ?_)
       rintro ⟨i2,u⟩ h6 ⟨i,hi,hle,e6,q6⟩
       dsimp only at hi ⊢
       subst hi
       have e06:=e1.trans e6
       refine rx e6 (Zi (fun hlt=>?_) fun hge=>?_)
       ·have hia:i<v.sub.len:=by omega
        obtain ⟨k,t,ns,s,r,hdr⟩:=JL.drop_cons hia
        have keepS:∀ {a:Ze},Ext h a→∀ j,S j→j<sz h→obj a j=obj h j:=fun e j hj hl=>YB e hl
        rw [Zq7 i hdr] at q6
        refine rx e6 (Zhy (ZaK a5 a6 (keepS e06)) (a7.keep (keepS e06) fun j hj=>hj) hdr rfl fun zi hzi=>?_)
        rw [show (d:Int)+1=((d+1:Nat):Int) by omega,ZG (by omega) (by omega)]
        refine hsub i k t ns s r hdr (S:=S) (by have:=ZoI i hdr;have:=ZwQ v;omega) hzi (fun j hj=>by have:=hS j hj;have:=e06.szz;omega) (ht.ext e06) (by have:=e06.szz;omega) (by omega) fun h7 e7=>?_
        rw [show 64 - (d+1)=n by omega]
        cases hr:rrV n ⟨k,t,ns,s⟩ with
        | false =>
          rw [hr,Bool.false_and] at q6
          refine Zn rfl ?_
          have:=hk h7 (e06.trans e7)
          rw [← q6] at this;exact this
        | true =>
          rw [hr,Bool.true_and] at q6
          refine Zl rfl (Za ?_)
          rw [ZG (by omega) (by omega)]
          exact ⟨⟨i+1,rfl,by omega,e6.trans e7,q6⟩,by omega⟩
       ·rw [JL.drop_nil (by omega)] at q6
        have:=hk h6 e06
        rw [← q6] at this
        have e9:rrL n .nil=true:=by cases n<;>rfl
        rw [e9] at this
        exact this
    refine rk e0 (Zm (fun p h'=>h'=h2∧(p.1=true↔v.k=1∨v.k=2∨v.k=3)) ?_ ?_)
    case refine_2 =>
      refine Zd ?_
      by_cases h1':v.k=1
      ·rw [show ((v.k:Int) ==1)=true by rw [h1'];rfl];exact Zn rfl ⟨rfl,by simp [h1']⟩
      rw [show ((v.k:Int) ==1)=false by rw [beq_eq_false_iff_ne];omega]
      refine Zl rfl (Zd ?_)
      by_cases h2':v.k=2
      ·rw [show ((v.k:Int) ==2)=true by rw [h2'];rfl];exact Zn rfl ⟨rfl,by simp [h2']⟩
      rw [show ((v.k:Int) ==2)=false by rw [beq_eq_false_iff_ne];omega]
      refine Zl rfl (Zd ⟨rfl,?_⟩)
      dsimp only
      rw [beq_iff_eq]
      omega
    rintro ⟨pb,u⟩ h3 ⟨rfl,hpb⟩
    dsimp only at hpb ⊢
    have scal:v.k≠6→v.k≠7→v.sub = .nil∧v.ns=[]:=fun h6 h7=>⟨by rcases ho.2.1 with h | h | h;exact absurd h h6;exact absurd h h7;exact h,by rcases ho.2.2 with h | h;exact absurd h h7;exact h⟩
    have yes:v.k≠6→v.k≠7→∀ {h':Ze} {b:Bool},Ext h3 h'→whB v.k v.t v.ns v.sub=b→K b h':=fun h6 h7 h' b e hb=>by
      have:=hk h' (e1.trans e)
      rw [Zpa h6 h7,hb] at this;exact this
    cases hpbv:pb with
    | true =>
      have h123:=hpb.1 hpbv
      refine Zn rfl (yes (by omega) (by omega) e0 ?_)
      obtain ⟨s1,s2⟩:=scal (by omega) (by omega)
      exact Zdl.2 (.inl ⟨h123,by rcases ho.1 with h | h | h;omega;omega;exact h,s2,s1⟩)
    | false =>
      have h123:¬ (v.k=1∨v.k=2∨v.k=3):=fun h=>by have:=hpb.2 h;rw [hpbv] at this;cases this
      refine Zl rfl (Zd ?_)
      by_cases h4:v.k=4
      ·rw [show ((v.k:Int) ==4)=true by rw [h4];rfl]
       obtain ⟨s1,s2⟩:=scal (by omega) (by omega)
       have hwb:whB v.k v.t v.ns v.sub=Zrp v.t:=by
         unfold whB
         rw [if_neg h123,if_pos h4,s1,s2]
         simp [JL.isNil]
       refine Zn rfl (rt e0 (ZlR (by have:=e1.szz;omega) fun y e n h5 e5 g=>?_))
       refine ZbY fun h6 c6 e6 z6=>?_
       have c6':obj h6 h5.size=some (.cells zV.toArray 33 (0,0)):=c6
       refine Zly c6' (by simp) (Zb5 y) fun h7 c7 u7 z7=>Za (Za ?_)
       have c7':obj h7 h5.size=some (.cells (XX y).toArray 33 (0,0)):=c7
       have hs5:sz h5=h5.size:=rfl
       have e37:Ext h3 h7:=(e5.trans e6).updS u7 fun j hj=>by have:=e5.size;have:sz h3=h3.size:=rfl;omega
       have fin:∀ {b:Bool},Zrp v.t=b→K b h7:=fun hb=>yes (by omega) (by omega) e37 (by rw [hwb,hb])
       unfold Zrp at fin
       have hp:(Zc v.t).data.toList=v.t:=rfl
       rw [hp] at g
       cases hq:XE v.t with
       | err e' k =>
         rw [hq] at g fin
         obtain ⟨_,he,_⟩:=g
         have:=ZmN hq
         exact Zl (beq_eq_false_iff_ne.2 (by omega)) (fin rfl)
       | ok w =>
         rw [hq] at g fin
         obtain ⟨vr,he,_⟩:=g
         simp only at fin
         refine Zn (by rw [he];rfl) (rI (Zr c7' rfl) ?_)
         rw [vr.1]
         refine Yj (fun hk4=>?_) fun hk4=>fin (by rw [decide_eq_false (by omega)];rfl)
         refine rS (Zr c7' rfl) (rt e37 (Zd ?_))
         rw [vr.2.1,XS]
         exact fin (by rw [decide_eq_true (by omega)];rfl)
      rw [show ((v.k:Int) ==4)=false by rw [beq_eq_false_iff_ne];omega]
      refine Zl rfl (Zd ?_)
      by_cases h5:v.k=5
      ·rw [show ((v.k:Int) ==5)=true by rw [h5];rfl]
       obtain ⟨s1,s2⟩:=scal (by omega) (by omega)
       refine Zn rfl (rt e0 (ZhC (by unfold wV at hw;omega) (Zd (yes (by omega) (by omega) e0 ?_))))
       unfold whB
       rw [if_neg h123,if_neg h4,if_pos h5,s1,s2]
       simp [JL.isNil]
      rw [show ((v.k:Int) ==5)=false by rw [beq_eq_false_iff_ne];omega]
      refine Zl rfl (Zd ?_)
      by_cases h6:v.k=6
      ·rw [show ((v.k:Int) ==6)=true by rw [h6];rfl]
       exact Zn rfl (Zn rfl ⟨rfl,.inl h6⟩)
      rw [show ((v.k:Int) ==6)=false by rw [beq_eq_false_iff_ne];omega]
      refine Zl rfl (Zd ?_)
      by_cases h7:v.k=7
      ·rw [show ((v.k:Int) ==7)=true by rw [h7];rfl]
       exact Zn rfl ⟨rfl,.inr h7⟩
      rw [show ((v.k:Int) ==7)=false by rw [beq_eq_false_iff_ne];omega]
      refine Zl rfl (no ?_)
      unfold whB
      rw [if_neg h123,if_neg h4,if_neg h5,if_neg h6,if_neg h7]
  intro m
  induction m with
  | zero =>
    intro h z v S d K hm
    exact step (f88:=Yu 0) fun i k t ns s r hd=>by have:=JL.drop_hei i v.sub hd;omega
  | succ m ih =>
    intro h z v S d K hm
    exact step (f88:=Yu (m+1)) fun i k t ns s r hd=>fun a b c d e f g=>ih (v:=⟨k,t,ns,s⟩) (by have:=JL.drop_hei i v.sub hd;show s.hei≤m;omega) a b c d e f g
theorem Zmo {h:Ze} {z:VT5} {v:JV} {S:Nat→Prop} {K:Bool→HP} (hv:Zbo h S z v) (hS:∀ j,S j→j<sz h) (hw:wV v≤4611686018427387904) (ht:ZbA h) (hh:9≤sz h) (hk:∀ h',Ext h h'→K (Zbu v) h'):YY z K h:=by
  unfold YY ZaD
  refine ZbY fun h1 c1 e1 z1=>?_
  have c1':obj h1 h.size=some (.cells (XX z).toArray 33 (0,0)):=c1
  have ld:∀ {x:Ze} {K:Int→ByteArray→Sl→Sl→Prop},Ext h1 x→K z.1 z.2.1 z.2.2.1 z.2.2.2.1→ldI x h.size 0 .u8 fun a=>ldS x h.size (0+1) fun b=>ldL x h.size (0+2) fun c=>ldL x h.size (0+3) fun d=>K a b c d:=fun e hK=>by
    have c:=Y2 c1' e
    exact rI (Zr c rfl) (rS (Zr c rfl) (rL (s:=z.2.2.1) (Zr c rfl) (rL (s:=z.2.2.2.1) (Zr c rfl) hK)))
  refine ld (Ext.refl _) (Zn7 (z:=z) (hv.ext hS e1) (fun j hj=>by have:=hS j hj;have:=e1.szz;omega) fun h2 e2=>?_)
  have e02:=e1.trans e2
  have key:=fun h' e=>hk h' e
  rw [Zpd] at key
  refine ZpR (fun hg=>?_) fun hg=>?_
  ·rw [decide_eq_true (show ZfO v≤65536 by omega)] at key
   refine ld e2 ⟨v.sub.hei+1,ZlI _ (z:=z) (d:=0) (Nat.le_refl _) hw (hv.ext hS e02) (fun j hj=>by have:=hS j hj;have:=e02.szz;omega) (ht.ext e02) (by have:=e02.szz;omega) (by omega) fun h3 e3=>Zd (key h3 (e02.trans e3))⟩
  ·have:=key h2 e02
   rw [decide_eq_false (show ¬ ZfO v≤65536 by omega),Bool.false_and] at this
   exact this
end Go.Proofs.YtpjbjdheeemdiaaGreatDoor
