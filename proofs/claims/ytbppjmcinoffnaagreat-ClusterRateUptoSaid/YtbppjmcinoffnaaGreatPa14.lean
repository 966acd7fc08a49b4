/- The token server: a grant. -/
import Derived.Test.YtbppjmcinoffnaaGreatPa13
set_option linter.unusedVariables false
set_option linter.unusedSimpArgs false
namespace Go.Proofs.YtbppjmcinoffnaaGreat.Tk
open Go Go.Fw
open Nat (reduceAdd reduceLT reduceLeDiff reduceEqDiff reduceMul)
def Zkc (used:Int) (f:F4) (r:Rq):Bool:=decide (used>IntKind.wrap .i64 (f.2.1 - r.2.2.2.1))
def Zsd (used:Int) (f:F4) (r:Rq):Int:=IntKind.wrap .i64 (IntKind.wrap .i64 (f.2.1 - used) - r.2.2.2.1)
def ZoU (used:Int) (f:F4):An:=(0,2,Zqk (IntKind.wrap .i64 (f.2.1 - used)) 0,0,0,())
def Srv.take (S:Srv) (at_:Int) (f:F4) (r:Rq):Srv:={ S with counts:=fun i=>if i=f.1 then (S.counts f.1).map (fun c=>c.took at_ r.2.2.2.2.1 r.2.2.2.1) else S.counts i }
def Srv.lease (S:Srv) (at_:Int) (f:F4) (r:Rq):Srv:={ S with out:=Xw at_ S.out++[(S.next,f.1,r.2.2.2.1,IntKind.wrap .i64 (at_+f.2.2.2.1),())],next:=IntKind.wrap .i64 (S.next+1)}
def Zjz (S:Srv) (at_:Int) (f:F4) (r:Rq):An × Srv :=
  if Zkc (ZfN S at_ f r.2.2.2.2.1) f r then (ZoU (ZfN S at_ f r.2.2.2.2.1) f,S)
  else if f.2.2.1≠3 then ((0,1,Zsd (ZfN S at_ f r.2.2.2.2.1) f r,0,0,()),S.take at_ f r)
  else if (Xw at_ S.out).length≥1024 then ((0,6,0,0,0,()),{ S with out:=Xw at_ S.out })
  else ((0,1,Zsd (ZfN S at_ f r.2.2.2.2.1) f r,f.2.2.2.1,S.next,()),S.lease at_ f r)
theorem Zp4 {h:Zb} {T:Nat→Option Nat} {sb cb nb:Nat} {sp so:Sl} {ls:List Sp3} {S:Srv} (hR:Zdv h T sb cb nb sp so ls S) (hl:S.out.length≤4096) {at_:Int} {f:F4} (hf:f.2.2.1≠3→∃ c,S.counts f.1=some c) {r:Rq} (hr:0≤r.2.2.2.1∧r.2.2.2.1≤1099511627776) (hrs:r.2.2.2.2.1.size<9223372036854775808) {K:An→Zb→Prop}
    (hk:∀ h' T' so',Zdv h' T' sb cb nb sp so' ls (Zjz S at_ f r).2→Stp T T' h h'→K (Zjz S at_ f r).1 h'):X3 (some ⟨sb,0,none⟩) at_ f r K h:=by
  unfold X3 Zce
  have l0:=ZT hR.cells
  obtain ⟨f1,f2,f3,f4,_⟩:=f
  obtain ⟨r1,r2,r3,r4,r5,r6,_⟩:=r
  dsimp only at hf hr hrs
  have e1:Ext h (((h.push (.cells [iv f1,iv f2,iv f3,iv f4].toArray 46 (0,0))).push (.cells [iv r1,.int .u8 r2,iv r3,iv r4,.string r5,iv r6].toArray 39 (0,0))).push (.cells [iv 0,.int .u8 0,iv 0,iv 0,iv 0].toArray 57 (0,0))) :=
    ZO (ZO (ZO (Ext.refl _)))
  simp (maxDischargeDepth:=60) only [Zs,Zr,evC,reduceAdd,reduceLT,reduceLeDiff,reduceEqDiff,reduceMul,reduceCtorEq]
  generalize hh1:(((h.push (.cells [iv f1,iv f2,iv f3,iv f4].toArray 46 (0,0))).push (.cells [iv r1,.int .u8 r2,iv r3,iv r4,.string r5,iv r6].toArray 39 (0,0))).push (.cells [iv 0,.int .u8 0,iv 0,iv 0,iv 0].toArray 57 (0,0)))=h1 at e1 ⊢
  have a1:obj h1 (sz h)=some (.cells [iv f1,iv f2,iv f3,iv f4].toArray 46 (0,0)):=by subst hh1;simp (maxDischargeDepth:=60) only [Zs,Zr,evC,reduceAdd,reduceLT,reduceLeDiff,reduceEqDiff,reduceMul,reduceCtorEq]
  have b1:obj h1 (sz h+1)=some (.cells [iv r1,.int .u8 r2,iv r3,iv r4,.string r5,iv r6].toArray 39 (0,0)):=by subst hh1;simp (maxDischargeDepth:=60) only [Zs,Zr,evC,reduceAdd,reduceLT,reduceLeDiff,reduceEqDiff,reduceMul,reduceCtorEq]
  have d1:obj h1 (sz h+2)=some (.cells [iv 0,.int .u8 0,iv 0,iv 0,iv 0].toArray 57 (0,0)):=by subst hh1;simp (maxDischargeDepth:=60) only [Zs,Zr,evC,reduceAdd,reduceLT,reduceLeDiff,reduceEqDiff,reduceMul,reduceCtorEq]
  have hR1:=hR.ext e1
  refine Zrk hR1 hl (f:=(f1,f2,f3,f4,())) hf hrs fun h2 e2=>?_
  have hR2:=hR1.ext e2
  have a2:=Yf a1 e2
  have b2:=Yf b1 e2
  have d2:=Yf d1 e2
  generalize hu:ZfN S at_ (f1,f2,f3,f4,()) r5=u at hk ⊢
  have la:=ZT a2
  have lb:=ZT b2
  have ld:=ZT d2
  have e12:=e1.trans e2
  simp (maxDischargeDepth:=60) only [Zs,Zr,evC,reduceAdd,reduceLT,reduceLeDiff,reduceEqDiff,reduceMul,reduceCtorEq,a2,b2,d2,ZgF la,YG la,ZgF lb,YG lb,ZgF ld,YG ld,Zp0 la,Zil la,Zp0 lb,Zil lb,Zp0 ld,Zil ld]
  have gv:Zjz S at_ (f1,f2,f3,f4,()) (r1,r2,r3,r4,r5,r6,())=if Zkc u (f1,f2,f3,f4,()) (r1,r2,r3,r4,r5,r6,()) then (ZoU u (f1,f2,f3,f4,()),S)
    else if f3≠3 then ((0,1,Zsd u (f1,f2,f3,f4,()) (r1,r2,r3,r4,r5,r6,()),0,0,()),S.take at_ (f1,f2,f3,f4,()) (r1,r2,r3,r4,r5,r6,()))
    else if (Xw at_ S.out).length≥1024 then ((0,6,0,0,0,()),{ S with out:=Xw at_ S.out })
    else ((0,1,Zsd u (f1,f2,f3,f4,()) (r1,r2,r3,r4,r5,r6,()),f4,S.next,()),S.lease at_ (f1,f2,f3,f4,()) (r1,r2,r3,r4,r5,r6,())):=by unfold Zjz;rw [hu]
  rw [gv] at hk
  clear gv
  refine Zi (fun q=>?_) fun q=>?_
  ·rw [if_pos (by unfold Zkc;simpa using q)] at hk
   exact hk _ T so (hR.ext (Z3 e12 (by omega))) ⟨(Z3 e12 (by omega)).upd _,fun _ h=> .inl h⟩
  rw [if_neg (by unfold Zkc;simpa using q)] at hk
  have e3:Ext h2 (Zb.puts (h2.push (.cells [iv 0,.int .u8 0,iv 0,iv 0,iv 0].toArray 57 (0,0))) (sz h2) 0 [iv 0,.int .u8 1,iv (IntKind.wrap .i64 (IntKind.wrap .i64 (f2 - u) - r4)),iv 0,iv 0]):=Z3 (ZO (Ext.refl _)) (Nat.le_refl _)
  have g3:obj (Zb.puts (h2.push (.cells [iv 0,.int .u8 0,iv 0,iv 0,iv 0].toArray 57 (0,0))) (sz h2) 0 [iv 0,.int .u8 1,iv (IntKind.wrap .i64 (IntKind.wrap .i64 (f2 - u) - r4)),iv 0,iv 0]) (sz h2)=some (.cells [iv 0,.int .u8 1,iv (IntKind.wrap .i64 (IntKind.wrap .i64 (f2 - u) - r4)),iv 0,iv 0].toArray 57 (0,0)):=by
    simp (maxDischargeDepth:=60) only [Zs,Zr,evC,reduceAdd,reduceLT,reduceLeDiff,reduceEqDiff,reduceMul,reduceCtorEq]
  have hl3:Zsd u (f1,f2,f3,f4,()) (r1,r2,r3,r4,r5,r6,())=IntKind.wrap .i64 (IntKind.wrap .i64 (f2 - u) - r4):=rfl
  rw [hl3] at hk
  have ls2:=ZT hR2.cells
  simp only [YG ls2,if_false]
  generalize IntKind.wrap .i64 (IntKind.wrap .i64 (f2 - u) - r4)=lft at hk e3 g3 ⊢
  generalize Zb.puts (h2.push (.cells [iv 0,.int .u8 0,iv 0,iv 0,iv 0].toArray 57 (0,0))) (sz h2) 0 [iv 0,.int .u8 1,iv lft,iv 0,iv 0]=h3 at e3 g3 ⊢
  have hR3:=hR2.ext e3
  have a3:=Yf a2 e3
  have b3:=Yf b2 e3
  have d3:=Yf d2 e3
  have e13:=e12.trans e3
  have c3:=hR3.cells
  have z2:=X0 e12
  have z3:=X0 e3
  have lgg:=ZT g3
  have ndg:(sz h2=sz h+2)=False:=eq_false (by omega)
  have ngd:(sz h+2=sz h2)=False:=eq_false (by omega)
  have sbh:=ZT hR.cells
  have hTn:∀ k,sz h≤k→T k=none:=fun k hk=>by
    cases hT:T k with
    | none=>rfl
    | some t =>
      have:=hR.lt k (by rw [hT];exact fun e=>by cases e)
      omega
  have fin:∀ (h9:Zb) (T9:Nat→Option Nat) (so9:Sl) (S9:Srv) (a:An) (vs:List Value),Zdv h9 T9 sb cb nb sp so9 ls S9→Upd (fun k=>T k≠none) h h9→((∀ k,T9 k≠none→T k≠none∨sz h≤k)∧T9 (sz h+2)=none) →
      (∀ h' T' so',Zdv h' T' sb cb nb sp so' ls S9→Stp T T' h h'→K a h')→K a (h9.puts (sz h+2) 0 vs):=fun h9 T9 so9 S9 a vs hR9 u9 ⟨t9,n9⟩ hk9=>by
    refine hk9 _ T9 so9 (hR9.congr (by rw [Zc8];exact Nat.le_refl _) fun k hk=>Zb5 fun e=>?_) ⟨Zb4 u9 (.inl (by omega)),fun k hk=>(t9 k hk).imp id fun h=>h⟩
    subst e
    exact hk n9
  refine ⟨fun q1=>?_,fun q1=>?_⟩
  ·have q3:f3≠3:=by simpa using q1
   rw [if_pos q3] at hk
   obtain ⟨c,hc⟩:=hf q3
   obtain ⟨m,hm,hm1,hcs⟩:=hR3.counts
   obtain ⟨hid,v,hv,hr9⟩:=hcs f1 c hc
   simp (maxDischargeDepth:=60) only [Zs,Zr,evC,reduceAdd,reduceLT,reduceLeDiff,reduceEqDiff,reduceMul,reduceCtorEq,hR2.cells]
   refine hm.get f1 ?_
   rw [hv]
   refine ⟨(v,c.kind,()),rfl,?_⟩
   dsimp only
   have fin:∀ h4 T',Zdv h4 T' sb cb nb sp so ls (S.take at_ (f1,f2,f3,f4,()) (r1,r2,r3,r4,r5,r6,()))→Stp T T' h3 h4→Upd (fun k=>T k≠none) h3 h4→(∀ k,T' k=none→k<sz h4)→True:=fun _ _ _ _ _ _=>trivial
   have hS:∀ c',c.took at_ r5 r4=c'→S.take at_ (f1,f2,f3,f4,()) (r1,r2,r3,r4,r5,r6,())={ S with counts:=fun i=>if i=f1 then some c' else S.counts i }:=fun c' hc'=>by
     subst hc'
     unfold Srv.take
     dsimp only
     rw [hc]
     rfl
   have done:∀ h4 T',Zdv h4 T' sb cb nb sp so ls (S.take at_ (f1,f2,f3,f4,()) (r1,r2,r3,r4,r5,r6,()))→Upd (fun k=>T k≠none) h3 h4→(∀ k,T' k≠none→T k≠none∨sz h3≤k) →
       ∃ n,ZN 0 (obj h4 (sz h2))=some (Value.int .i64 n)∧∃ n_1,ZN 1 (obj h4 (sz h2))=some (Value.int .u8 n_1)∧∃ n_2,ZN 2 (obj h4 (sz h2))=some (Value.int .i64 n_2)∧∃ n_3,ZN 3 (obj h4 (sz h2))=some (Value.int .i64 n_3)∧∃ n_4,ZN 4 (obj h4 (sz h2))=some (Value.int .i64 n_4) ∧
         sts h4 (sz h+2) 0 [Value.int .i64 n,Value.int .u8 n_1,Value.int .i64 n_2,Value.int .i64 n_3,Value.int .i64 n_4] fun h15 =>
           ∃ n,ZN 0 (obj h15 (sz h+2))=some (Value.int .i64 n)∧∃ n_5,ZN 1 (obj h15 (sz h+2))=some (Value.int .u8 n_5)∧∃ n_6,ZN 2 (obj h15 (sz h+2))=some (Value.int .i64 n_6)∧∃ n_7,ZN 3 (obj h15 (sz h+2))=some (Value.int .i64 n_7)∧∃ n_8,ZN 4 (obj h15 (sz h+2))=some (Value.int .i64 n_8)∧K (n,n_5,n_6,n_7,n_8,()) h15:=fun h4 T' hR4 u4 hT4=>by
     have tn:∀ k,sz h≤k→¬ T k≠none:=fun k hk ht=>by have:=hR.lt k ht;omega
     have g4:=XG g3 u4 (tn _ (by omega))
     have d4:=XG d3 u4 (tn _ (by omega))
     simp (maxDischargeDepth:=60) only [Zs,Zr,evC,reduceAdd,reduceLT,reduceLeDiff,reduceEqDiff,reduceMul,reduceCtorEq,g4,d4]
     have eu:Upd (fun k=>T k≠none) h (h4.puts (sz h+2) 0 [iv 0,.int .u8 1,iv lft,iv 0,iv 0]):=Zb4 ((e13.upd _).trans u4) (.inl (by omega))
     refine hk _ T' so (hR4.congr (by rw [Zc8];exact Nat.le_refl _) fun k hk=>Zb5 fun e=>?_) ⟨eu,fun k hk=>?_⟩
     ·subst e
      rcases hT4 _ hk with h9 | h9
      ·exact tn _ (by omega) h9
      ·omega
     ·rcases hT4 _ hk with h9 | h9
      ·exact .inl h9
      ·right;rw [ZE];omega
   cases c with
   | rate w =>
     obtain ⟨wb,mb,rfl,hw,t1,t2⟩:=hr9
     refine .inl ⟨(some ⟨wb,0,none⟩,()),rfl,Zlr hw (by omega) fun h4 hw4 u4=>done h4 T ?_ (u4.mono fun k _ hk=>?_) fun k hk=> .inl hk⟩
     ·rw [hS _ rfl]
      refine hR3.setC (c:= .rate (w.took at_ r4)) hid (u4.mono fun k _ hk=>?_) (fun _ _ h=>h) (fun k hk=>Nat.lt_of_lt_of_le (hR3.lt k hk) u4.size) hm hm1 hcs hv ⟨wb,mb,rfl,hw4,t1,t2⟩
      rcases hk with rfl | rfl
      ·exact ⟨0,by decide,t1⟩
      ·exact ⟨1,by decide,t2⟩
     ·rcases hk with rfl | rfl
      ·rw [t1];exact fun e=>by cases e
      ·rw [t2];exact fun e=>by cases e
   | value s =>
     obtain ⟨wb,sl,lb,rfl,hs⟩:=hr9
     refine .inr (.inl ⟨(some ⟨wb,0,none⟩,()),rfl,Zj2 hs hR3.lt hr hrs fun h4 T4 sl4 lb4 hs4 hg4=>done h4 T4 ?_ (hg4.upd.mono fun k _ ⟨j,_,e⟩=>?_) hg4.new⟩)
     ·rw [hS _ rfl]
      exact hR3.setC (c:= .value (s.took at_ r4 r5)) hid hg4.upd hg4.keep hg4.lt hm hm1 hcs hv ⟨wb,sl4,lb4,rfl,hs4⟩
     ·rw [e];exact fun e=>by cases e
   | leased =>
     cases hr9
     refine .inr (.inr (.inl ⟨(),rfl,?_⟩))
     unfold Zbd ZcP
     simp only [ZdD]
     have e4:Ext h3 (h3.push (.cells [].toArray 192 (0,0))):=Ext.push _ _
     refine done _ T ?_ (e4.upd _) fun k hk=> .inl hk
     rw [hS _ rfl]
     exact hR3.setC (c:= .leased) hid (e4.upd _) (fun _ _ h=>h) (fun k hk=>Nat.lt_of_lt_of_le (hR3.lt k hk) e4.size) hm hm1 hcs hv rfl |>.ext (Ext.refl _)
  ·have q3:¬ f3≠3:=by simpa using q1
   rw [if_neg q3] at hk
   refine Zh7 c3 hR3.out hl fun t4 h4 ho4 e4=>?_
   have hR4:=hR3.ext e4
   have a4:=Yf a3 e4
   have b4:=Yf b3 e4
   have d4:=Yf d3 e4
   have g4:=Yf g3 e4
   have e14:=e13.trans e4
   have z4:=X0 e4
   have z14:=X0 e14
   have hlen:=Zah YT ho4.row (by decide)
   have hn4:∀ k,t4.blk=some k→sz h3≤k∧k<sz h4∧T k=none:=fun k hk=>by
     have h9:=ho4.lt hk
     refine ⟨h9.1,h9.2,?_⟩
     cases hT:T k with
     | none=>rfl
     | some t =>
       have:=hR.lt k (by rw [hT];exact fun e=>by cases e)
       have h10:sz h3≤k:=h9.1
       omega
   have ls4:=ZT hR4.cells
   have u5:Upd (· = sb) h4 (h4.put sb 5 (slV t4)):=Upd.put _ _ _ _
   have c5:obj (h4.put sb 5 (slV t4)) sb=some (.cells [iv S.begun,iv S.last,slV sp,.map (some cb),.map (some nb),slV t4,iv S.next].toArray 118 (0,0)):=by
     simp (maxDischargeDepth:=60) only [Zs,Zr,evC,reduceAdd,reduceLT,reduceLeDiff,reduceEqDiff,reduceMul,reduceCtorEq,hR4.cells]
   have hR5:=hR4.setO (n:=S.next) (u5.mono fun k _ hk=> .inl hk) c5 ((ho4.congr fun b hb _ _=>u5.old b (ho4.lt hb).2 fun e=>by
     have:=(hn4 b hb).1
     subst e
     omega).base (Nat.zero_le _)) fun k hk=> .inr (hn4 k hk).2.2
   have z5:sz (h4.put sb 5 (slV t4))=sz h4:=Zkm
   simp (maxDischargeDepth:=60) only [Zs,Zr,evC,reduceAdd,reduceLT,reduceLeDiff,reduceEqDiff,reduceMul,reduceCtorEq,hR4.cells]
   generalize h4.put sb 5 (slV t4)=h5 at u5 c5 hR5 z5 ⊢
   have ne:∀ k,sz h≤k→k≠sb:=fun k hk e=>by omega
   have a5:=XG a4 u5 (ne _ (Nat.le_refl _))
   have b5:=XG b4 u5 (ne _ (by omega))
   have d5:=XG d4 u5 (ne _ (by omega))
   have g5:=XG g4 u5 (ne _ (by omega))
   have u15:Upd (fun k=>T k≠none) h h5:=(e14.upd _).trans (u5.mono fun k _ hk=>by subst hk;rw [hR.tsb];exact fun e=>by cases e)
   have hT5:(∀ k,(fun k=>if t4.blk=some k then some 4 else T k) k≠none→T k≠none∨sz h≤k)∧(fun k=>if t4.blk=some k then some 4 else T k) (sz h+2)=none:=by
     refine ⟨fun k hk=>?_,?_⟩
     ·dsimp only at hk
      split at hk
      ·right;have:=(hn4 k (by assumption)).1;omega
      ·exact .inl hk
     ·dsimp only
      rw [if_neg (fun e=>by have:=(hn4 _ e).1;omega)]
      exact hTn _ (by omega)
   refine Zi (fun q5=>?_) fun q5=>?_
   ·rw [if_pos (by omega)] at hk
    simp (maxDischargeDepth:=60) only [Zs,Zr,evC,reduceAdd,reduceLT,reduceLeDiff,reduceEqDiff,reduceMul,reduceCtorEq,d5]
    exact fin h5 _ t4 _ _ _ hR5 u15 hT5 hk
   rw [if_neg (by omega)] at hk
   have n0b:(sz h=sb)=False:=eq_false (fun e=>by omega)
   have n1b:(sz h+1=sb)=False:=eq_false (fun e=>by omega)
   have n2b:(sz h2=sb)=False:=eq_false (fun e=>by omega)
   have nb0:(sb=sz h2)=False:=eq_false (fun e=>by omega)
   have n02:(sz h=sz h2)=False:=eq_false (fun e=>by omega)
   have n12:(sz h+1=sz h2)=False:=eq_false (fun e=>by omega)
   have la5:=ZT a5
   have lb5:=ZT b5
   have lc5:=ZT c5
   simp (maxDischargeDepth:=60) only [Zs,Zr,evC,reduceAdd,reduceLT,reduceLeDiff,reduceEqDiff,reduceMul,reduceCtorEq,n0b,n1b,n2b,nb0,n02,n12,a4,a5,b5,c5,g5,YG la5,YG lb5,YG lc5]
   have u6:Upd (fun k=>k=sz h2) h5 ((h5.put (sz h2) 4 (iv S.next)).put (sz h2) 3 (iv f4)):=(Upd.put _ _ _ _).trans (Upd.put _ _ _ _)
   have g6:obj ((h5.put (sz h2) 4 (iv S.next)).put (sz h2) 3 (iv f4)) (sz h2)=some (.cells [iv 0,.int .u8 1,iv lft,iv f4,iv S.next].toArray 57 (0,0)):=by
     simp (maxDischargeDepth:=60) only [Zs,Zr,evC,reduceAdd,reduceLT,reduceLeDiff,reduceEqDiff,reduceMul,reduceCtorEq,g5]
   have z6:sz ((h5.put (sz h2) 4 (iv S.next)).put (sz h2) 3 (iv f4))=sz h5:=by simp only [Zkm]
   generalize (h5.put (sz h2) 4 (iv S.next)).put (sz h2) 3 (iv f4)=h6 at u6 g6 z6 ⊢
   have hcap:=ho4.cap
   have ho6:Own h6 (sz h3) t4 4 ((Xw at_ S.out).flatMap f4L):=ho4.congr fun b hb _ _=>by
     have:=hn4 b hb
     rw [u6.old b (by show b<sz h5;omega) (by omega),u5.old b this.2.1 (by omega)]
   have e7:Ext h6 (h6.push (.cells (f4L (S.next,f1,r4,IntKind.wrap .i64 (at_+f4),())).toArray 167 (0,0))):=Ext.push _ _
   have hrow:Row (h6.push (.cells (f4L (S.next,f1,r4,IntKind.wrap .i64 (at_+f4),())).toArray 167 (0,0))) ⟨some ⟨sz h5,0,none⟩,1,1⟩ 4 (f4L (S.next,f1,r4,IntKind.wrap .i64 (at_+f4),())):=by
     have:=(Own.newC (h:=h6) (cells:=f4L (S.next,f1,r4,IntKind.wrap .i64 (at_+f4),())) (t:=167) (size:=4) (n:=1) rfl (by decide)).row
     rw [ZE,z6] at this
     exact this
   have z7:sz (h6.push (.cells (f4L (S.next,f1,r4,IntKind.wrap .i64 (at_+f4),())).toArray 167 (0,0)))=sz h5+1:=by rw [Xx,z6]
   refine hrow.rd ?_
   change app _ _ _ _ _ _ _ (h6.push (.cells (f4L (S.next,f1,r4,IntKind.wrap .i64 (at_+f4),())).toArray 167 (0,0))) _
   generalize h6.push (.cells (f4L (S.next,f1,r4,IntKind.wrap .i64 (at_+f4),())).toArray 167 (0,0))=h7 at e7 hrow z7 ⊢
   have ho7:=ho6.congr (h':=h7) fun b hb _ _=>e7.old b (ho6.lt hb).2
   refine Own.app ho7 (by rfl) (by simp [f4L,Y4]) rfl (by omega) (by omega) (by show sz h3≤sz h7;omega) fun t8 h8 ho8 hl8 u8 hb8=>?_
   have nb8:∀ k,t4.blk=some k→sz h2<k:=fun k hk=>by have:=(hn4 k hk).1;omega
   have z8:sz h7≤sz h8:=u8.size
   have nx:∀ k,k≤sz h2→¬ t4.blk=some k:=fun k hk e=>by have:=nb8 k e;omega
   have a8:=XG (Yf (XG a5 u6 (by omega)) e7) u8 (nx _ (by omega))
   have b8:=XG (Yf (XG b5 u6 (by omega)) e7) u8 (nx _ (by omega))
   have d8:=XG (Yf (XG d5 u6 (by omega)) e7) u8 (nx _ (by omega))
   have c8:=XG (Yf (XG c5 u6 (by omega)) e7) u8 (nx _ (by omega))
   have g8:=XG (Yf g6 e7) u8 (nx _ (by omega))
   have ndb:(sz h+2=sb)=False:=eq_false (fun e=>by omega)
   simp (maxDischargeDepth:=60) only [Zs,Zr,evC,reduceAdd,reduceLT,reduceLeDiff,reduceEqDiff,reduceMul,reduceCtorEq,a8,b8,c8,d8,g8,n0b,n1b,n2b,ndb,ndg]
   have u9:Upd (· = sb) h8 ((h8.put sb 5 (slV t8)).put sb 6 (iv (IntKind.wrap .i64 (S.next+1)))):=(Upd.put _ _ _ _).trans (Upd.put _ _ _ _)
   have c9:obj ((h8.put sb 5 (slV t8)).put sb 6 (iv (IntKind.wrap .i64 (S.next+1)))) sb=some (.cells [iv S.begun,iv S.last,slV sp,.map (some cb),.map (some nb),slV t8,iv (IntKind.wrap .i64 (S.next+1))].toArray 118 (0,0)):=by
     simp (maxDischargeDepth:=60) only [Zs,Zr,evC,reduceAdd,reduceLT,reduceLeDiff,reduceEqDiff,reduceMul,reduceCtorEq,c8]
   generalize (h8.put sb 5 (slV t8)).put sb 6 (iv (IntKind.wrap .i64 (S.next+1)))=h9 at u9 c9 ⊢
   have h8n:∀ k,t8.blk=some k→sz h3≤k:=fun k hk=>by
     rcases hb8 with e | e
     ·rw [e] at hk;exact (hn4 k hk).1
     ·rw [e] at hk;cases hk;rw [ZE];omega
   have ua:Upd (fun k=>k=sb∨T k=some 4∨T k=none) h h9:=by
     refine ⟨by have:=u9.size;rw [ZE,ZE] at this;rw [ZE,ZE];omega,fun k hk hn=>?_⟩
     have hk':k<sz h:=hk
     rw [u9.old k (by rw [ZE];omega) (fun e=>hn (.inl e)),u8.old k (by rw [ZE];omega) (nx _ (by omega)),e7.old k (by rw [ZE];omega),u6.old k (by rw [ZE];omega) (by omega),u5.old k (by rw [ZE];omega) (fun e=>hn (.inl e)),e14.old k hk]
   have u19:Upd (fun k=>T k≠none) h h9:=by
     refine ⟨ua.size,fun k hk hn=>?_⟩
     have hk':k<sz h:=hk
     have hsbk:k≠sb:=fun e=>by subst e;exact hn (by rw [hR.tsb];exact fun e=>by cases e)
     rw [u9.old k (by rw [ZE];omega) hsbk,u8.old k (by rw [ZE];omega) (nx _ (by omega)),e7.old k (by rw [ZE];omega),u6.old k (by rw [ZE];omega) (by omega),u5.old k (by rw [ZE];omega) hsbk,e14.old k hk]
   have ho9:=(ho8.congr (h':=h9) fun b hb _ _=>u9.old b (ho8.lt hb).2 fun e=>by have:=h8n b hb;omega).base (Nat.zero_le _)
   have e9:(Xw at_ S.out).flatMap f4L++f4L (S.next,f1,r4,IntKind.wrap .i64 (at_+f4),())=(Xw at_ S.out++[((S.next,f1,r4,IntKind.wrap .i64 (at_+f4),()):F4)]).flatMap f4L:=by simp
   rw [e9] at ho9
   have hR9:=hR.setO ua c9 ho9 fun k hk=> .inr (hTn k (by have:=h8n k hk;omega))
   refine fin h9 _ t8 _ _ _ hR9 u19 ⟨fun k hk=>?_,?_⟩ hk
   ·split at hk
    ·right;have:=h8n k (by assumption);omega
    ·exact .inl hk
   ·rw [if_neg (fun e=>by have:=h8n _ e;omega)]
    exact hTn _ (by omega)
structure Srv.OK (S:Srv):Prop where
  out:S.out.length≤4096
  cnt:∀ x,x∈S.spaces→∀ f,f∈x.2→∃ c,S.counts f.1=some c∧c.kind=f.2.2.1
theorem Zo6 {l:List (ByteArray × List F4)} {ns:ByteArray} {id:Int} {f:F4} (h:Ze6 l ns id=some f):∃ x,x∈l∧f∈x.2∧ZlB ns id x.1 f=true:=by
  unfold Ze6 at h
  have:=List.mem_of_mem_head? (Option.mem_def.2 h)
  obtain ⟨x,hx,hf⟩:=List.mem_flatMap.1 this
  rw [List.mem_filter] at hf
  exact ⟨x,hx,hf.1,hf.2⟩
def Zub (S:Srv) (name:ByteArray):Bool:=S.spaces.any fun x=>Zag x.1 name
theorem Zvn {ls:List Sp3} {l:List (ByteArray × List F4)} (hl:ls.map (fun x=>(x.1,x.2.2))=l) (name:ByteArray):decide (ixV (fun x=>Zag x.1 name) ls≥0)=l.any fun x=>Zag x.1 name:=by
  have e:(l.any fun x=>Zag x.1 name)=ls.any fun x=>Zag x.1 name:=by rw [← hl,List.any_map];rfl
  rw [e]
  cases hf:ls.findIdx? (fun x=>Zag x.1 name) with
  | none =>
    rw [Zfn hf]
    have:(ls.any fun x=>Zag x.1 name)=false:=by
      rw [List.any_eq_false]
      intro x hx
      rw [List.findIdx?_eq_none_iff.1 hf x hx]
      decide
    rw [this]
    rfl
  | some i =>
    rw [Zgg hf]
    obtain ⟨hil,hp,_⟩:=List.findIdx?_eq_some_iff_getElem.1 hf
    have:(ls.any fun x=>Zag x.1 name)=true:=List.any_eq_true.2 ⟨_,List.getElem_mem hil,hp⟩
    rw [this]
    simp
def Srv.conn (S:Srv) (k:Int) (t:ByteArray):Srv:={ S with conns:=fun i=>if i=k then some t else S.conns i }
def Zhb (S:Srv) (at_:Int) (f:F4):Bool:=decide (at_<IntKind.wrap .i64 (S.begun+Zqk 1000000 f.2.2.2.1))
def stA (n:Int):An:=(0,n,0,0,0,())
def ZnI (S:Srv) (at_:Int) (ns:ByteArray) (r:Rq):An × Srv:=match Ze6 S.spaces ns r.2.2.1 with
  | none=>(stA 4,S)
  | some f=>if f.2.2.1≠r.2.1 then (stA 4,S) else if Zhb S at_ f then (stA 7,S) else Zjz S at_ f r
def ZlV (S:Srv) (at_ conn:Int) (ns:ByteArray) (r:Rq):An × Srv :=
  if Xj r=false then (stA 5,S)
  else if r.2.1=5 then (if Zub S r.2.2.2.2.1 then (stA 1,S.conn conn r.2.2.2.2.1) else (stA 4,S.conn conn (ByteArray.mk #[])))
  else if Zag ns (ByteArray.mk #[]) then (stA 4,S)
  else if r.2.1=4 then (stA (ZgM S at_ ns r.2.2.2.2.2.1).1,{ S with out:=(ZgM S at_ ns r.2.2.2.2.2.1).2 })
  else ZnI S at_ ns r
theorem Zpq {S:Srv} {at_:Int} {ns:ByteArray} {r:Rq} (h:Ze6 S.spaces ns r.2.2.1=none):ZnI S at_ ns r=(stA 4,S):=by unfold ZnI;rw [h]
theorem Zpp {S:Srv} {at_:Int} {ns:ByteArray} {r:Rq} {f:F4} (h:Ze6 S.spaces ns r.2.2.1=some f):ZnI S at_ ns r=if f.2.2.1≠r.2.1 then (stA 4,S) else if Zhb S at_ f then (stA 7,S) else Zjz S at_ f r:=by unfold ZnI;rw [h]
theorem Zdv.connR {h h':Zb} {T:Nat→Option Nat} {sb cb nb:Nat} {sp so:Sl} {ls:List Sp3} {S:Srv} (hR:Zdv h T sb cb nb sp so ls S) {conn:Int} {ns t:ByteArray} (hc:S.conns conn=some ns) (hu:Upd (· = nb) h h')
    (hm:ZeU h' nb (upd (fun i=>(S.conns i).map .string) conn (some (.string t))) S.nn):Zdv h' T sb cb nb sp so ls (S.conn conn t):=by
  have e:upd (fun i=>(S.conns i).map Value.string) conn (some (.string t))=fun i=>(if i=conn then some t else S.conns i).map .string:=by
    funext i
    unfold upd
    split<;>rfl
  rw [e] at hm
  exact hR.setN hu hm
theorem Zoy {h:Zb} {T:Nat→Option Nat} {sb cb nb:Nat} {sp so:Sl} {ls:List Sp3} {S:Srv} (hR:Zdv h T sb cb nb sp so ls S) (hok:S.OK) {at_ conn:Int} {ns:ByteArray} (hc:S.conns conn=some ns) {r:Rq} (hs:r.2.2.2.2.1.size<9223372036854775808) {K:An→Zb→Prop}
    (hk:∀ h' T' so',Zdv h' T' sb cb nb sp so' ls (ZlV S at_ conn ns r).2→Stp T T' h h'→K (ZlV S at_ conn ns r).1 h'):XM (some ⟨sb,0,none⟩) at_ conn r K h:=by
  unfold XM ZbQ
  have l0:=ZT hR.cells
  obtain ⟨r1,r2,r3,r4,r5,r6,_⟩:=r
  dsimp only at hs
  have e1:Ext h ((h.push (.cells [iv r1,.int .u8 r2,iv r3,iv r4,.string r5,iv r6].toArray 39 (0,0))).push (.cells [iv 0,.int .u8 0,iv 0,iv 0,iv 0].toArray 57 (0,0))):=ZO (ZO (Ext.refl _))
  simp (maxDischargeDepth:=60) only [Zs,Zr,evC,reduceAdd,reduceLT,reduceLeDiff,reduceEqDiff,reduceMul,reduceCtorEq,hR.cells,YG l0,ZgF l0]
  have b1:obj ((h.push (.cells [iv r1,.int .u8 r2,iv r3,iv r4,.string r5,iv r6].toArray 39 (0,0))).push (.cells [iv 0,.int .u8 0,iv 0,iv 0,iv 0].toArray 57 (0,0))) (sz h)=some (.cells [iv r1,.int .u8 r2,iv r3,iv r4,.string r5,iv r6].toArray 39 (0,0)):=by simp (maxDischargeDepth:=60) only [Zs,Zr,evC,reduceAdd,reduceLT,reduceLeDiff,reduceEqDiff,reduceMul,reduceCtorEq]
  have d1:obj ((h.push (.cells [iv r1,.int .u8 r2,iv r3,iv r4,.string r5,iv r6].toArray 39 (0,0))).push (.cells [iv 0,.int .u8 0,iv 0,iv 0,iv 0].toArray 57 (0,0))) (sz h+1)=some (.cells [iv 0,.int .u8 0,iv 0,iv 0,iv 0].toArray 57 (0,0)):=by simp (maxDischargeDepth:=60) only [Zs,Zr,evC,reduceAdd,reduceLT,reduceLeDiff,reduceEqDiff,reduceMul,reduceCtorEq]
  have z1:sz ((h.push (.cells [iv r1,.int .u8 r2,iv r3,iv r4,.string r5,iv r6].toArray 39 (0,0))).push (.cells [iv 0,.int .u8 0,iv 0,iv 0,iv 0].toArray 57 (0,0)))=sz h+2:=by simp only [Xx]
  generalize (h.push (.cells [iv r1,.int .u8 r2,iv r3,iv r4,.string r5,iv r6].toArray 39 (0,0))).push (.cells [iv 0,.int .u8 0,iv 0,iv 0,iv 0].toArray 57 (0,0))=h1 at e1 b1 d1 z1 ⊢
  have hR1:=hR.ext e1
  refine hR1.conns.get conn ?_
  rw [hc]
  refine ⟨ns,rfl,?_⟩
  refine Zfc (r:=(r1,r2,r3,r4,r5,r6,())) hs fun h2 e2=>?_
  have hR2:=hR1.ext e2
  have b2:=Yf b1 e2
  have d2:=Yf d1 e2
  have e12:=e1.trans e2
  have z2:=X0 e2
  have sbh:=ZT hR.cells
  have hTn:∀ k,sz h≤k→T k=none:=fun k hk=>by
    cases hT:T k with
    | none=>rfl
    | some t =>
      have:=hR.lt k (by rw [hT];exact fun e=>by cases e)
      omega
  have fin:∀ (h9:Zb) (T9:Nat→Option Nat) (so9:Sl) (S9:Srv) (a:An) (vs:List Value),Zdv h9 T9 sb cb nb sp so9 ls S9→Upd (fun k=>T k≠none) h h9→((∀ k,T9 k≠none→T k≠none∨sz h≤k)∧T9 (sz h+1)=none) →
      (∀ h' T' so',Zdv h' T' sb cb nb sp so' ls S9→Stp T T' h h'→K a h')→K a (h9.puts (sz h+1) 0 vs):=fun h9 T9 so9 S9 a vs hR9 u9 ⟨t9,n9⟩ hk9=>by
    refine hk9 _ T9 so9 (hR9.congr (by rw [Zc8];exact Nat.le_refl _) fun k hk=>Zb5 fun e=>?_) ⟨Zb4 u9 (.inl (by omega)),fun k hk=>(t9 k hk).imp id fun h=>h⟩
    subst e
    exact hk n9
  have fin0:∀ (h9:Zb) (a:An) (vs:List Value),Ext h h9→(∀ h' T' so',Zdv h' T' sb cb nb sp so' ls S→Stp T T' h h'→K a h')→K a (h9.puts (sz h+1) 0 vs):=fun h9 a vs e9 hk9 =>
    fin h9 T so S a vs (hR.ext e9) (e9.upd _) ⟨fun k hk=> .inl hk,hTn _ (by omega)⟩ hk9
  cases hrb:Xj (r1,r2,r3,r4,r5,r6,()) with
  | false =>
    have gv:ZlV S at_ conn ns (r1,r2,r3,r4,r5,r6,())=(stA 5,S):=by unfold ZlV;rw [if_pos hrb]
    rw [gv] at hk
    simp (maxDischargeDepth:=60) only [Zs,Zr,evC,reduceAdd,reduceLT,reduceLeDiff,reduceEqDiff,reduceMul,reduceCtorEq,d2]
    exact fin0 h2 _ _ e12 hk
  | true =>
  have rw_:=Zks hrb
  have rr:=ZnU hrb
  dsimp only at rw_ rr
  simp (maxDischargeDepth:=60) only [Zs,Zr,evC,reduceAdd,reduceLT,reduceLeDiff,reduceEqDiff,reduceMul,reduceCtorEq,b2]
  have nT3:∀ k,T k=some 3→k≠sz h+1:=fun k hk e=>by subst e;rw [hTn _ (by omega)] at hk;cases hk
  refine Zpc (fun s h29=>s=(decide (r2=5∧Zub S r5=true),())∧Ext h2 h29) ?_ ?_
  ·rintro _ h3 ⟨rfl,e3⟩
   dsimp only
   have b3:=Yf b2 e3
   have d3:=Yf d2 e3
   have hR3:=hR2.ext e3
   have e13:=e12.trans e3
   have z3:=X0 e3
   have ln:=hR3.conns.lt
   have tn3:T nb≠none:=by rw [hR.tnb];exact fun e=>by cases e
   have c3:=hR3.cells
   have connPut:∀ t,Zax (.int .i64) h3 (some nb) (iv conn) (.string t)=Zax (.int .i64) h3 (some nb) (iv conn) (.string t):=fun _=>rfl
   refine Zi (fun q=>?_) fun q=>?_
   ·have gv:ZlV S at_ conn ns (r1,r2,r3,r4,r5,r6,())=(stA 1,S.conn conn r5):=by
      unfold ZlV;rw [if_neg (by rw [hrb];decide),if_pos q.1,if_pos q.2]
    rw [gv] at hk
    simp (maxDischargeDepth:=60) only [Zs,Zr,evC,reduceAdd,reduceLT,reduceLeDiff,reduceEqDiff,reduceMul,reduceCtorEq,c3,b3]
    refine hR3.conns.put conn (.string r5) fun h4 hm4 u4 z4=>?_
    rw [hc] at hm4
    have hR4:=hR3.connR hc u4 hm4
    have d4:=XG d3 u4 (nT3 _ hR.tnb).symm
    simp (maxDischargeDepth:=60) only [Zs,Zr,evC,reduceAdd,reduceLT,reduceLeDiff,reduceEqDiff,reduceMul,reduceCtorEq,d4]
    exact fin h4 T so _ _ _ hR4 ((e13.upd _).trans (u4.mono fun k _ hk=>by subst hk;exact tn3)) ⟨fun k hk=> .inl hk,hTn _ (by omega)⟩ hk
   simp (maxDischargeDepth:=60) only [Zs,Zr,evC,reduceAdd,reduceLT,reduceLeDiff,reduceEqDiff,reduceMul,reduceCtorEq,c3,b3]
   refine ⟨fun q1=>?_,fun q1=>?_⟩
   ·have q2:r2=5:=by simpa using q1
    have gv:ZlV S at_ conn ns (r1,r2,r3,r4,r5,r6,())=(stA 4,S.conn conn (ByteArray.mk #[])):=by
      unfold ZlV;rw [if_neg (by rw [hrb];decide),if_pos q2,if_neg (fun e=>q ⟨q2,e⟩)]
    rw [gv] at hk
    refine hR3.conns.put conn (.string (ByteArray.mk #[])) fun h4 hm4 u4 z4=>?_
    rw [hc] at hm4
    have hR4:=hR3.connR hc u4 hm4
    have d4:=XG d3 u4 (nT3 _ hR.tnb).symm
    simp (maxDischargeDepth:=60) only [Zs,Zr,evC,reduceAdd,reduceLT,reduceLeDiff,reduceEqDiff,reduceMul,reduceCtorEq,d4]
    exact fin h4 T so _ _ _ hR4 ((e13.upd _).trans (u4.mono fun k _ hk=>by subst hk;exact tn3)) ⟨fun k hk=> .inl hk,hTn _ (by omega)⟩ hk
   have q2:¬ r2=5:=by simpa using q1
   have gv5:ZlV S at_ conn ns (r1,r2,r3,r4,r5,r6,())=if Zag ns (ByteArray.mk #[]) then (stA 4,S)
       else if r2=4 then (stA (ZgM S at_ ns r6).1,{ S with out:=(ZgM S at_ ns r6).2 }) else ZnI S at_ ns (r1,r2,r3,r4,r5,r6,()):=by
     unfold ZlV;rw [if_neg (by rw [hrb];decide),if_neg q2]
   rw [gv5] at hk
   clear gv5
   refine ⟨fun q3=>?_,fun q3=>?_⟩
   ·rw [if_pos q3] at hk
    simp (maxDischargeDepth:=60) only [Zs,Zr,evC,reduceAdd,reduceLT,reduceLeDiff,reduceEqDiff,reduceMul,reduceCtorEq,d3]
    exact fin0 h3 _ _ e13 hk
   rw [if_neg (by rw [q3];decide)] at hk
   refine ⟨fun q4=>?_,fun q4=>?_⟩
   ·have q5:r2=4:=by simpa using q4
    rw [if_pos q5] at hk
    refine Zsp hR3 hok.out fun h4 T4 so4 hR4 st4=>?_
    have u4:Upd (fun k=>T k≠none) h h4:=(e13.upd _).trans st4.upd
    have d4:=XG d3 st4.upd (fun e=>e (hTn _ (by omega)))
    simp (maxDischargeDepth:=60) only [Zs,Zr,evC,reduceAdd,reduceLT,reduceLeDiff,reduceEqDiff,reduceMul,reduceCtorEq,d4]
    refine fin h4 T4 so4 _ _ _ hR4 u4 ⟨fun k hk=>(st4.new k hk).imp id fun h9=>Nat.le_trans (X0 e13) h9,?_⟩ hk
    cases h9:T4 (sz h+1) with
    | none=>rfl
    | some t =>
      rcases st4.new (sz h+1) (by rw [h9];exact fun e=>by cases e) with h8 | h8
      ·exact (h8 (hTn _ (by omega))).elim
      ·rw [ZE] at h8;omega
   have q5:¬ r2=4:=by simpa using q4
   rw [if_neg q5] at hk
   refine Zm6 hR3.cells hR3.spaces hR3.names fun h4 e4=>?_
   have d4:=Yf d3 e4
   have b4:=Yf b3 e4
   have e14:=e13.trans e4
   have ld4:=ZT d4
   have lb4:=ZT b4
   have hw:IntKind.wrap .i64 r2=r2:=ZR (by omega) (by omega)
   cases hfl:Ze6 S.spaces ns r3 with
   | none =>
     rw [Zpq hfl] at hk
     simp (maxDischargeDepth:=60) only [Zs,Zr,evC,reduceAdd,reduceLT,reduceLeDiff,reduceEqDiff,reduceMul,reduceCtorEq,b4,d4,ZgF lb4,YG lb4,ZgF ld4,YG ld4]
     exact fin0 _ _ _ (Z3 (ZO e14) (by have:=X0 e14;omega)) hk
   | some f =>
     rw [Zpp hfl] at hk
     obtain ⟨x,hx,hfx,_⟩:=Zo6 hfl
     obtain ⟨c,hcc,_⟩:=hok.cnt x hx f hfx
     obtain ⟨f1,f2,f3,f4,_⟩:=f
     have z4:=X0 e14
     have e45:Ext h4 (Zb.puts (h4.push (.cells [iv 0,iv 0,iv 0,iv 0].toArray 46 (0,0))) (sz h4) 0 [iv f1,iv f2,iv f3,iv f4]):=Z3 (ZO (Ext.refl _)) (Nat.le_refl _)
     have f5:obj (Zb.puts (h4.push (.cells [iv 0,iv 0,iv 0,iv 0].toArray 46 (0,0))) (sz h4) 0 [iv f1,iv f2,iv f3,iv f4]) (sz h4)=some (.cells [iv f1,iv f2,iv f3,iv f4].toArray 46 (0,0)):=by simp (maxDischargeDepth:=60) only [Zs,Zr,evC,reduceAdd,reduceLT,reduceLeDiff,reduceEqDiff,reduceMul,reduceCtorEq]
     simp (maxDischargeDepth:=60) only [Zs,Zr,evC,reduceAdd,reduceLT,reduceLeDiff,reduceEqDiff,reduceMul,reduceCtorEq,b4,d4,ZgF lb4,YG lb4,ZgF ld4,YG ld4,hw]
     generalize Zb.puts (h4.push (.cells [iv 0,iv 0,iv 0,iv 0].toArray 46 (0,0))) (sz h4) 0 [iv f1,iv f2,iv f3,iv f4]=h5 at e45 f5 ⊢
     have d5:=Yf d4 e45
     have b5:=Yf b4 e45
     have e15:=e14.trans e45
     have hR5:=(hR3.ext e4).ext e45
     refine ⟨fun q6=>?_,fun q6=>?_⟩
     ·have q7:f3≠r2:=by simpa using q6
      rw [if_pos q7] at hk
      exact fin0 _ _ _ e15 hk
     have q7:¬ f3≠r2:=by simpa using q6
     rw [if_neg q7] at hk
     refine ZpP hR5.cells (f:=(f1,f2,f3,f4,())) fun h6 e6=>?_
     have d6:=Yf d5 e6
     have b6:=Yf b5 e6
     have f6:=Yf f5 e6
     have e16:=e15.trans e6
     refine ⟨fun q8=>?_,fun q8=>?_⟩
     ·rw [if_pos (by exact q8)] at hk
      simp (maxDischargeDepth:=60) only [Zs,Zr,evC,reduceAdd,reduceLT,reduceLeDiff,reduceEqDiff,reduceMul,reduceCtorEq,d6]
      exact fin0 _ _ _ e16 hk
     rw [if_neg (by unfold Zhb;dsimp only;rw [q8];decide)] at hk
     simp (maxDischargeDepth:=60) only [Zs,Zr,evC,reduceAdd,reduceLT,reduceLeDiff,reduceEqDiff,reduceMul,reduceCtorEq,b6,f6]
     refine Zp4 (hR5.ext e6) hok.out (f:=(f1,f2,f3,f4,())) (r:=(r1,r2,r3,r4,r5,r6,())) (fun _=>⟨c,hcc⟩) rr.2.2.1 hs fun h7 T7 so7 hR7 st7=>?_
     have d7:=XG d6 st7.upd (fun e=>e (hTn _ (by omega)))
     have u7:Upd (fun k=>T k≠none) h h7:=(e16.upd _).trans st7.upd
     simp (maxDischargeDepth:=60) only [Zs,Zr,evC,reduceAdd,reduceLT,reduceLeDiff,reduceEqDiff,reduceMul,reduceCtorEq,d7]
     refine fin h7 T7 so7 _ _ _ hR7 u7 ⟨fun k hk=>(st7.new k hk).imp id fun h9=>Nat.le_trans (X0 e16) h9,?_⟩ hk
     cases h9:T7 (sz h+1) with
     | none=>rfl
     | some t =>
       rcases st7.new (sz h+1) (by rw [h9];exact fun e=>by cases e) with h8 | h8
       ·exact (h8 (hTn _ (by omega))).elim
       ·have:=X0 e6
        have:=X0 e45
        have:=X0 e4
        rw [ZE] at h8
        omega
  ·intro Q hQ
   refine ⟨fun q=>?_,fun q=>?_⟩
   ·have q2:r2=5:=by simpa using q
    refine ZhH hR2.cells hR2.spaces.own.row fun h3 e3=>?_
    rw [Zvn hR.names]
    refine hQ _ _ ⟨?_,e3⟩
    simp only [q2,true_and]
    unfold Zub
    cases (S.spaces.any fun x=>Zag x.1 r5)<;>rfl
   ·have q2:¬ r2=5:=by simpa using q
    refine hQ _ _ ⟨?_,Ext.refl _⟩
    simp [q2]
def Zgo (at_:Int):Srv:=⟨at_,at_,[],fun _=>none,0,fun _=>none,0,[],1⟩
def isT (at_:Int):Prop:=0≤at_∧at_≤1152921504606846976
theorem Zs1 {h:Zb} {at_:Int} {K:Option Addr→Int→Zb→Prop} (h1:¬ isT at_→K none 2 h)
    (h2:isT at_→∀ h' T sb,Server h' T sb (Zgo at_)→Ext h h'→(∀ k,T k≠none→sz h≤k)→K (some ⟨sb,0,none⟩) 0 h'):Zen at_ K h:=by
  unfold Zen ZgO
  rw [Y8,ZmX]
  rcases Classical.em (isT at_) with ht | ht
  ·have e:decide (0≤at_∧at_≤1152921504606846976)=true:=decide_eq_true ht
   rw [e]
   refine Zl ?_
   refine ZeU.new fun ha ma ea za=>ZeU.new fun hb mb eb zb=>?_
   simp only [ZE] at ma mb za zb ea eb ⊢
   rw [ZdD,Y8]
   have ec:Ext hb (hb.push (.cells [iv at_,iv at_,Value.slice none 0 0,.map (some (sz h)),.map (some (sz ha)),Value.slice none 0 0,iv 1].toArray 118 (0,0))):=Ext.push _ _
   refine h2 ht _ (fun k=>if k=sz hb then some 0 else if k=sz h then some 2 else if k=sz ha then some 3 else none) (sz hb) ⟨sz h,sz ha,⟨none,0,0⟩,⟨none,0,0⟩,[],?_⟩ ((ea.trans eb).trans ec) fun k hk=>?_
   ·refine ⟨by simp (maxDischargeDepth:=60) only [Zs,Zr,evC,reduceAdd,reduceLT,reduceLeDiff,reduceEqDiff,reduceMul,reduceCtorEq];rfl,⟨Own.nil _ _ _,fun k hk=>(by cases hk),fun x hx=>by cases hx⟩,rfl,⟨_,(ma.congr ((ec.old _ (by rw [ZE];omega)).trans (eb.old _ (by rw [ZE];omega)))),fun _ _=>rfl,fun _ _ hc=>by cases hc⟩,mb.congr (ec.old _ (by rw [ZE];omega)),Own.nil _ _ _,if_pos rfl,?_,?_,fun k hk=>(by cases hk),fun k hk=>?_⟩
    ·rw [if_neg (by omega),if_pos rfl]
    ·rw [if_neg (by omega),if_neg (by omega),if_pos rfl]
    ·simp only [Xx]
     split at hk
     ·omega
     ·split at hk
      ·omega
      ·split at hk
       ·omega
       ·exact (hk rfl).elim
   ·split at hk
    ·omega
    ·split at hk
     ·omega
     ·split at hk
      ·omega
      ·exact (hk rfl).elim
  ·have e:decide (0≤at_∧at_≤1152921504606846976)=false:=decide_eq_false ht
   rw [e]
   exact ZJ (h1 ht)
def ZfW (S:Srv) (conn:Int):Int:=if conn<1 then 2 else if conn>2147483647 then 2 else if (S.conns conn).isSome then 11 else if S.nn≥64 then 3 else 0
def Srv.opened (S:Srv) (conn:Int):Srv:=if ZfW S conn=0 then { S with conns:=fun i=>if i=conn then some (ByteArray.mk #[]) else S.conns i,nn:=S.nn+1 } else S
theorem Zs6 {h:Zb} {T:Nat→Option Nat} {sb:Nat} {S:Srv} (hS:Server h T sb S) {conn:Int} {K:Int→Zb→Prop}
    (hk:∀ h',Server h' T sb (S.opened conn)→Stp T T h h'→K (ZfW S conn) h'):Zam (some ⟨sb,0,none⟩) conn K h:=by
  obtain ⟨cb,nb,sp,so,ls,hR⟩:=hS
  unfold Zam ZcU
  have same:ZfW S conn≠0→K (ZfW S conn) h:=fun hne=>by
    have:=hk h
    rw [Srv.opened,if_neg hne] at this
    exact this ⟨cb,nb,sp,so,ls,hR⟩ (Stp.refl _ _)
  simp (maxDischargeDepth:=60) only [Zs,Zr,evC,reduceAdd,reduceLT,reduceLeDiff,reduceEqDiff,reduceMul,reduceCtorEq,hR.cells]
  refine Zi (fun q1=>?_) fun q1=>Zi (fun q2=>?_) fun q2=>?_
  ·have:ZfW S conn=2:=by unfold ZfW;rw [if_pos q1]
   rw [← this];exact same (by rw [this];decide)
  ·have:ZfW S conn=2:=by unfold ZfW;rw [if_neg q1,if_pos q2]
   rw [← this];exact same (by rw [this];decide)
  refine hR.conns.get conn ?_
  cases hc:S.conns conn with
  | some t =>
    refine ⟨t,rfl,ZJ ?_⟩
    have:ZfW S conn=11:=by unfold ZfW;rw [if_neg q1,if_neg q2,if_pos (by rw [hc];rfl)]
    rw [← this];exact same (by rw [this];decide)
  | none =>
    refine ⟨ByteArray.mk #[],rfl,Zl ?_⟩
    refine hR.conns.len ?_
    refine Zi (fun q3=>?_) fun q3=>?_
    ·have:ZfW S conn=3:=by unfold ZfW;rw [if_neg q1,if_neg q2,if_neg (by rw [hc];decide),if_pos (by omega)]
     rw [← this];exact same (by rw [this];decide)
    ·have he:ZfW S conn=0:=by unfold ZfW;rw [if_neg q1,if_neg q2,if_neg (by rw [hc];decide),if_neg (by omega)]
     rw [he,Srv.opened,if_pos he] at hk
     refine hR.conns.put conn (.string (ByteArray.mk #[])) fun h4 hm4 u4 z4=>?_
     refine hk h4 ⟨cb,nb,sp,so,ls,hR.setN u4 ?_⟩ ⟨u4.mono fun k _ hk=>(by subst hk;rw [hR.tnb];exact fun e=>by cases e),fun k hk=> .inl hk⟩
     rw [hc] at hm4
     have e:upd (fun i=>(S.conns i).map Value.string) conn (some (.string (ByteArray.mk #[])))=fun i=>(if i=conn then some (ByteArray.mk #[]) else S.conns i).map .string:=by
       funext i
       unfold upd
       split<;>rfl
     rw [e] at hm4
     exact hm4
def zA0:An:=(0,0,0,0,0,())
def doV (S:Srv) (at_ conn:Int) (r:Rq):(An × Int) × Srv :=
  if Zaw S.last at_≠0 then ((zA0,Zaw S.last at_),S) else match S.conns conn with
    | none=>((zA0,4),S)
    | some ns=>(((r.1,(ZlV { S with last:=at_ } at_ conn ns r).1.2),0),(ZlV { S with last:=at_ } at_ conn ns r).2)
theorem Zpb {S:Srv} {at_ conn:Int} {r:Rq} (h:Zaw S.last at_≠0):doV S at_ conn r=((zA0,Zaw S.last at_),S):=if_pos h
theorem Zpa {S:Srv} {at_ conn:Int} {r:Rq} (h:¬ Zaw S.last at_≠0) (hc:S.conns conn=none):doV S at_ conn r=((zA0,4),S):=by unfold doV;rw [if_neg h,hc]
theorem Zo9 {S:Srv} {at_ conn:Int} {r:Rq} {ns:ByteArray} (h:¬ Zaw S.last at_≠0) (hc:S.conns conn=some ns) {a:An × Srv} (ha:ZlV { S with last:=at_ } at_ conn ns r=a):doV S at_ conn r=(((r.1,a.1.2),0),a.2):=by subst ha;unfold doV;rw [if_neg h,hc]
theorem Ztc {h:Zb} {T:Nat→Option Nat} {sb:Nat} {S:Srv} (hS:Server h T sb S) (hok:S.OK) {at_ conn:Int} {r:Rq} (hs:r.2.2.2.2.1.size<9223372036854775808) {K:An→Int→Zb→Prop}
    (hk:∀ h' T',Server h' T' sb (doV S at_ conn r).2→Stp T T' h h'→K (doV S at_ conn r).1.1 (doV S at_ conn r).1.2 h'):ZaY (some ⟨sb,0,none⟩) at_ conn r K h:=by
  obtain ⟨cb,nb,sp,so,ls,hR⟩:=hS
  unfold ZaY ZdG
  obtain ⟨r1,r2,r3,r4,r5,r6,_⟩:=r
  dsimp only at hs
  have e1:Ext h ((h.push (.cells [iv r1,.int .u8 r2,iv r3,iv r4,.string r5,iv r6].toArray 39 (0,0))).push (.cells [iv 0,.int .u8 0,iv 0,iv 0,iv 0].toArray 57 (0,0))):=ZO (ZO (Ext.refl _))
  have b1:obj ((h.push (.cells [iv r1,.int .u8 r2,iv r3,iv r4,.string r5,iv r6].toArray 39 (0,0))).push (.cells [iv 0,.int .u8 0,iv 0,iv 0,iv 0].toArray 57 (0,0))) (sz h)=some (.cells [iv r1,.int .u8 r2,iv r3,iv r4,.string r5,iv r6].toArray 39 (0,0)):=by simp (maxDischargeDepth:=60) only [Zs,Zr,evC,reduceAdd,reduceLT,reduceLeDiff,reduceEqDiff,reduceMul,reduceCtorEq]
  have d1:obj ((h.push (.cells [iv r1,.int .u8 r2,iv r3,iv r4,.string r5,iv r6].toArray 39 (0,0))).push (.cells [iv 0,.int .u8 0,iv 0,iv 0,iv 0].toArray 57 (0,0))) (sz h+1)=some (.cells [iv 0,.int .u8 0,iv 0,iv 0,iv 0].toArray 57 (0,0)):=by simp (maxDischargeDepth:=60) only [Zs,Zr,evC,reduceAdd,reduceLT,reduceLeDiff,reduceEqDiff,reduceMul,reduceCtorEq]
  have z1:sz ((h.push (.cells [iv r1,.int .u8 r2,iv r3,iv r4,.string r5,iv r6].toArray 39 (0,0))).push (.cells [iv 0,.int .u8 0,iv 0,iv 0,iv 0].toArray 57 (0,0)))=sz h+2:=by simp only [Xx]
  simp (maxDischargeDepth:=60) only [Zs,Zr,evC,reduceAdd,reduceLT,reduceLeDiff,reduceEqDiff,reduceMul,reduceCtorEq]
  generalize (h.push (.cells [iv r1,.int .u8 r2,iv r3,iv r4,.string r5,iv r6].toArray 39 (0,0))).push (.cells [iv 0,.int .u8 0,iv 0,iv 0,iv 0].toArray 57 (0,0))=h1 at e1 b1 d1 z1 ⊢
  have hR1:=hR.ext e1
  have hTn:∀ k,sz h≤k→T k=none:=fun k hk=>by
    cases hT:T k with
    | none=>rfl
    | some t =>
      have:=hR.lt k (by rw [hT];exact fun e=>by cases e)
      omega
  have sbh:=ZT hR.cells
  have c1:=hR1.cells
  rw [Zsa c1]
  have same:∀ h',Ext h h'→(doV S at_ conn (r1,r2,r3,r4,r5,r6,())).2=S→K (doV S at_ conn (r1,r2,r3,r4,r5,r6,())).1.1 (doV S at_ conn (r1,r2,r3,r4,r5,r6,())).1.2 h':=fun h' e eS =>
    hk h' T (by rw [eS];exact ⟨cb,nb,sp,so,ls,hR.ext e⟩) ⟨e.upd _,fun k hk=> .inl hk⟩
  have ee:∀ (vs:List Value),Ext h (Zb.puts h1 (sz h+1) 0 vs):=fun vs=>Z3 e1 (by omega)
  simp (maxDischargeDepth:=60) only [Zs,Zr,evC,reduceAdd,reduceLT,reduceLeDiff,reduceEqDiff,reduceMul,reduceCtorEq,d1,c1]
  refine ⟨fun q=>?_,fun q=>?_⟩
  ·have q1:Zaw S.last at_≠0:=by simpa using q
   have gv:doV S at_ conn (r1,r2,r3,r4,r5,r6,())=((zA0,Zaw S.last at_),S):=Zpb q1
   rw [gv] at same
   exact same _ (ee _) rfl
  have q1:¬ Zaw S.last at_≠0:=by simpa using q
  refine hR1.conns.get conn ?_
  cases hc:S.conns conn with
  | none =>
    have gv:doV S at_ conn (r1,r2,r3,r4,r5,r6,())=((zA0,4),S):=Zpa q1 hc
    rw [gv] at same
    refine ⟨ByteArray.mk #[],rfl,ZJ ?_⟩
    exact same _ (ee _) rfl
  | some ns =>
    generalize hans:ZlV { S with last:=at_ } at_ conn ns (r1,r2,r3,r4,r5,r6,())=av at hk
    have gv:=Zo9 q1 hc hans
    rw [gv] at hk
    dsimp only at hk
    clear same gv
    refine ⟨ns,rfl,Zl ?_⟩
    have u2:Upd (· = sb) h1 (Zb.put h1 sb 1 (iv at_)):=Upd.put _ _ _ _
    have hR2:=hR1.setB (b:=S.begun) (l:=at_) (n:=S.next) u2 (by simp (maxDischargeDepth:=60) only [Zs,Zr,evC,reduceAdd,reduceLT,reduceLeDiff,reduceEqDiff,reduceMul,reduceCtorEq,c1])
    have b2:=XG b1 u2 (by omega)
    have d2:=XG d1 u2 (by omega)
    have z2:sz (Zb.put h1 sb 1 (iv at_))=sz h1:=Zkm
    have nsb:(sz h=sb)=False:=eq_false (by omega)
    simp (maxDischargeDepth:=60) only [Zs,Zr,evC,reduceAdd,reduceLT,reduceLeDiff,reduceEqDiff,reduceMul,reduceCtorEq,b1,nsb]
    generalize Zb.put h1 sb 1 (iv at_)=h2 at u2 hR2 b2 d2 z2 ⊢
    refine Zoy hR2 ⟨hok.out,hok.cnt⟩ (ns:=ns) hc hs fun h3 T3 so3 hR3 st3=>?_
    rw [hans] at hR3 ⊢
    clear hans
    have b3:=XG b2 st3.upd (fun e=>e (hTn _ (by omega)))
    have d3:=XG d2 st3.upd (fun e=>e (hTn _ (by omega)))
    have lb3:=ZT b3
    have ld3:=ZT d3
    have u13:Upd (fun k=>T k≠none) h h3:=((e1.upd _).trans (u2.mono fun k _ hk=>by subst hk;rw [hR.tsb];exact fun e=>by cases e)).trans st3.upd
    have t3n:∀ k,sz h≤k→k<sz h2→T3 k=none:=fun k h8 h9=>by
      cases h7:T3 k with
      | none=>rfl
      | some t =>
        rcases st3.new k (by rw [h7];exact fun e=>by cases e) with h6 | h6
        ·exact (h6 (hTn _ h8)).elim
        ·rw [ZE] at h6;omega
    have t3m:∀ k,sz h3≤k→T3 k=none:=fun k hk=>by
      cases h7:T3 k with
      | none=>rfl
      | some t =>
        have:=hR3.lt k (by rw [h7];exact fun e=>by cases e)
        omega
    simp (maxDischargeDepth:=60) only [Zs,Zr,evC,reduceAdd,reduceLT,reduceLeDiff,reduceEqDiff,reduceMul,reduceCtorEq,b3,d3,YG lb3,YG ld3,Zil lb3,Zil ld3]
    have nd3:(sz h3=sz h+1)=False:=eq_false (by omega)
    refine hk _ T3 ⟨cb,nb,sp,so3,ls,hR3.congr ?_ fun k hk=>?_⟩ ⟨?_,fun k hk=>(st3.new k hk).imp id fun h9=>?_⟩
    ·simp only [Zc8,Zkm,Xx];omega
    ·have hk3:k<sz h3:=hR3.lt k hk
     have hkn:k≠sz h+1:=fun e=>by subst e;exact hk (t3n _ (by omega) (by omega))
     rw [Zb5 hkn,Zdc (by omega),Zb5 (by omega),Zfj hk3]
    ·refine Zb4 (Zrm (Zb4 (Zga u13) (.inl ?_)) (.inl ?_)) (.inl (by omega))
     ·have:=u13.size;rw [ZE,ZE] at this;omega
     ·have:=u13.size;rw [ZE,ZE] at this;omega
    ·have h9':sz h2≤k:=h9
     show sz h≤k
     omega
theorem ZiT {n lo hi:Int} {K:Bool→Zb→Prop} {h:Zb} (hk:K (inB n lo hi) h):ZcB n lo hi K h:=by
  unfold ZcB ZeN
  unfold inB at hk
  refine ⟨fun e=>Zx ?_,fun e=>?_⟩
  ·rw [e] at hk;exact hk
  ·rw [e] at hk;exact hk
theorem ZpO {s:ByteArray} (hs:s.size<9223372036854775808) {K:Bool→Zb→Prop} {h:Zb} (hk:K (Zhh s) h):ZcC s K h:=by
  unfold ZcC ZeO
  refine Yb (fun p h'=>h'=h∧∃ k:Nat,p.1=(k:Int)∧k≤s.size∧(s.data.toList.take k).all Zgp=true) (fun p _=>s.size - p.1.toNat) ⟨rfl,0,rfl,Nat.zero_le _,by simp⟩ ?_
  rintro ⟨i,u⟩ h' ⟨rfl,k,hi,hkl,hall⟩
  dsimp only at hi
  subst hi
  dsimp only
  refine Zi (fun hlt=>Za ?_) (fun hge=>?_)
  ·have hk1:k<s.size:=by omega
   obtain ⟨c,h1,h2⟩:=ZsR hk1
   have hc8:=c.toNat_lt
   refine ⟨c,by omega,by rw [Int.toNat_natCast];exact h1,ZiT ?_⟩
   rw [ZR (by omega) (by omega)]
   have e:inB (c.toNat:Int) 33 126=Zgp c:=by
     unfold inB Zgp
     congr 1
     ·exact decide_eq_decide.2 (by omega)
     ·exact decide_eq_decide.2 (by omega)
   rw [e]
   refine ⟨fun hb=>?_,fun hb=>?_⟩
   ·have hb':Zgp c=false:=by simpa using hb
    have:Zhh s=false:=by unfold Zhh;rw [ZsZ h2 hb',Bool.and_false]
    rw [this] at hk;exact hk
   ·have hb':Zgp c=true:=by simpa using hb
    rw [ZR (n:=(k:Int)+1) (by omega) (by omega)]
    exact ⟨⟨rfl,k+1,by omega,by omega,Zpj h2 hb' hall⟩,by omega⟩
  ·have hfull:s.data.toList.take k=s.data.toList:=List.take_of_length_le (by
     have:s.data.toList.length=s.size:=by simp
     omega)
   rw [hfull] at hall
   refine ZiT (Zx ?_)
   have:Zhh s=inB (s.size:Int) 1 64:=by
     unfold Zhh inB
     rw [hall,Bool.and_true]
     congr 1
     ·exact decide_eq_decide.2 (by omega)
     ·exact decide_eq_decide.2 (by omega)
   rw [← this]
   exact hk
theorem Zln {n lo hi:Int} {K:Bool→Zb→Prop} {h:Zb} (hk:K (inB n lo hi) h):ZbM n lo hi K h:=by
  unfold ZbM Zep
  unfold inB at hk
  refine ⟨fun e=>Zx ?_,fun e=>?_⟩
  ·rw [e] at hk;exact hk
  ·rw [e] at hk;exact hk
def ZkE (f:F4):Bool:=if f.2.2.1=3 then inB f.2.2.2.1 1000000 3600000000 else f.2.2.2.1 ==0
def ZbK (f:F4):Bool:=inB f.1 1 1099511627776&&(inB f.2.1 0 1099511627776&&(inB f.2.2.1 1 3&&ZkE f))
theorem ZnV {f:F4} {K:Bool→Zb→Prop} {h:Zb} (hk:∀ h',Ext h h'→K (ZbK f) h'):Zdf f K h:=by
  unfold Zdf Zfr
  obtain ⟨f1,f2,f3,f4,_⟩:=f
  have e1:Ext h (h.push (.cells [iv f1,iv f2,iv f3,iv f4].toArray 46 (0,0))):=Ext.push _ _
  have c1:obj (h.push (.cells [iv f1,iv f2,iv f3,iv f4].toArray 46 (0,0))) (sz h)=some (.cells [iv f1,iv f2,iv f3,iv f4].toArray 46 (0,0)):=by simp (maxDischargeDepth:=60) only [Zs,Zr,evC,reduceAdd,reduceLT,reduceLeDiff,reduceEqDiff,reduceMul,reduceCtorEq]
  simp (maxDischargeDepth:=60) only [Zs,Zr,evC,reduceAdd,reduceLT,reduceLeDiff,reduceEqDiff,reduceMul,reduceCtorEq]
  generalize h.push (.cells [iv f1,iv f2,iv f3,iv f4].toArray 46 (0,0))=h1 at e1 c1 ⊢
  have hk1:=hk h1 e1
  refine Zpc (fun s h9=>s=(ZkE (f1,f2,f3,f4,()),())∧h9=h1) ?_ ?_
  ·rintro _ _ ⟨rfl,rfl⟩
   dsimp only
   simp (maxDischargeDepth:=60) only [Zs,Zr,evC,reduceAdd,reduceLT,reduceLeDiff,reduceEqDiff,reduceMul,reduceCtorEq,c1]
   unfold ZbK at hk1
   dsimp only at hk1
   refine Zln ?_
   refine ⟨fun q=>?_,fun q=>?_⟩
   ·rw [q,Bool.true_and] at hk1
    simp (maxDischargeDepth:=60) only [Zs,Zr,evC,reduceAdd,reduceLT,reduceLeDiff,reduceEqDiff,reduceMul,reduceCtorEq,c1]
    refine Zln ?_
    refine ⟨fun q2=>?_,fun q2=>?_⟩
    ·rw [q2,Bool.true_and] at hk1
     unfold inB at hk1
     simp (maxDischargeDepth:=60) only [Zs,Zr,evC,reduceAdd,reduceLT,reduceLeDiff,reduceEqDiff,reduceMul,reduceCtorEq,c1]
     refine ⟨fun q3=>⟨fun q4=>?_,fun q4=>?_⟩,fun q3=>?_⟩
     ·rw [q3,q4,Bool.true_and,Bool.true_and] at hk1;exact hk1
     ·rw [q4,Bool.and_false,Bool.false_and] at hk1;exact hk1
     ·rw [q3,Bool.false_and,Bool.false_and] at hk1;exact hk1
    ·rw [q2,Bool.false_and] at hk1;exact hk1
   ·rw [q,Bool.false_and] at hk1;exact hk1
  ·intro Q hQ
   try simp (maxDischargeDepth:=60) only [Zs,Zr,evC,reduceAdd,reduceLT,reduceLeDiff,reduceEqDiff,reduceMul,reduceCtorEq,c1]
   refine ⟨fun q=>?_,fun q=>?_⟩
   ·have q1:f3=3:=by simpa using q
    have:ZkE (f1,f2,f3,f4,())=inB f4 1000000 3600000000:=by unfold ZkE;rw [if_pos q1]
    rw [this] at hQ
    exact Zln (hQ _ _ ⟨rfl,rfl⟩)
   ·have q1:¬ f3=3:=by simpa using q
    refine hQ _ _ ⟨?_,rfl⟩
    unfold ZkE
    rw [if_neg q1]
theorem ZlN {s:Sl} {l:List F4} {h:Zb} (hr:Row h s 4 (l.flatMap f4L)) {K:Bool→Zb→Prop} (hk:∀ h',Ext h h'→K (l.any fun f=> !ZbK f) h'):ZD s K h:=by
  unfold ZD Z1
  unfold ZM Z2
  refine Ze2 YT hr (by decide) (p:=fun f=> !ZbK f) (tst:=fun Q b o h3=>ldI h3 b o .i64 fun t4=>ldI h3 b (o+1) .i64 fun t5=>ldI h3 b (o+2) .i64 fun t6=>ldI h3 b (o+3) .i64 fun t7=>XN (t4,t5,t6,t7,()) Q h3) ?_ ?_
  ·intro i a b o hh Q ha he hcell hQ
   have v0:=hcell 0 _ rfl
   have v1:=hcell 1 _ rfl
   have v2:=hcell 2 _ rfl
   have v3:=hcell 3 _ rfl
   simp only [Nat.add_zero] at v0
   simp (maxDischargeDepth:=60) only [Zs,Zr,evC,reduceAdd,reduceLT,reduceLeDiff,reduceEqDiff,reduceMul,reduceCtorEq,v0,v1,v2,v3]
   unfold XN ZbR
   simp (maxDischargeDepth:=60) only [Zs,Zr,evC,reduceAdd,reduceLT,reduceLeDiff,reduceEqDiff,reduceMul,reduceCtorEq]
   exact ZnV fun h' e=>hQ h' ((ZO he).trans e)
  ·intro h' e
   refine Zx ?_
   have:decide (ixV (fun f=> !ZbK f) l≥0)=l.any fun f=> !ZbK f:=by
     cases hf:l.findIdx? (fun f=> !ZbK f) with
     | none =>
       rw [Zfn hf]
       have:(l.any fun f=> !ZbK f)=false:=by
         rw [List.any_eq_false]
         intro x hx
         rw [List.findIdx?_eq_none_iff.1 hf x hx]
         decide
       rw [this]
       rfl
     | some i =>
       rw [Zgg hf]
       obtain ⟨hil,hp,_⟩:=List.findIdx?_eq_some_iff_getElem.1 hf
       have:(l.any fun f=> !ZbK f)=true:=List.any_eq_true.2 ⟨_,List.getElem_mem hil,hp⟩
       rw [this]
       simp
   rw [this]
   exact hk h' e
def Zps (l:List (ByteArray × List F4)) (name:ByteArray) (i:Int):Prop:=∃ x,x∈l∧Zag x.1 name=false∧∃ g,g∈x.2∧g.1=i
def ZoE (l:List (ByteArray × List F4)) (name:ByteArray) (fl:List F4):Prop:=(fl.map (·.1)).Nodup∧∀ f,f∈fl→¬ Zps l name f.1
def Zno (h:Zb) (b:Nat) (P:Int→Prop):Prop:=∃ f n,ZeU h b f n∧(∀ i v,f i=some v→v = .bool true)∧∀ i,(f i).isSome=true↔P i
theorem Zno.put {h:Zb} {b:Nat} {P:Int→Prop} (hs:Zno h b P) (k:Int) {K:Zb→Prop} (hk:∀ h',Zno h' b (fun i=>i=k∨P i)→Upd (· = b) h h'→K h'):Zax (.int .i64) h (some b) (iv k) (.bool true) K:=by
  obtain ⟨f,n,hm,h1,h2⟩:=hs
  refine hm.put k (.bool true) fun h' hm' hu _=>hk h' ⟨_,_,hm',fun i v hv=>?_,fun i=>?_⟩ hu
  ·unfold upd at hv
   split at hv
   ·cases hv;rfl
   ·exact h1 i v hv
  ·unfold upd
   split
   ·rename_i e;simp [e]
   ·rename_i e;simp [e,h2 i]
theorem Zno.congr {h h':Zb} {b:Nat} {P:Int→Prop} (hs:Zno h b P) (he:h'[b]?=h[b]?):Zno h' b P:=by
  obtain ⟨f,n,hm,r⟩:=hs
  exact ⟨f,n,hm.congr he,r⟩
theorem Zno.iff {h:Zb} {b:Nat} {P P':Int→Prop} (hs:Zno h b P) (he:∀ i,P i↔P' i):Zno h b P':=by
  obtain ⟨f,n,hm,h1,h2⟩:=hs
  exact ⟨f,n,hm,h1,fun i=>(h2 i).trans (he i)⟩
theorem Zno.lt {h:Zb} {b:Nat} {P:Int→Prop} (hs:Zno h b P):b<sz h:=by
  obtain ⟨f,n,hm,_⟩:=hs
  exact hm.lt
theorem Zno.get {h:Zb} {b:Nat} {P:Int→Prop} (hs:Zno h b P) (k:Int) {K:Bool→Prop} (h1:P k→K true) (h2:¬ P k→K false):XL (.int .i64) h (some b) (iv k) fun r=>asB (r.getD (.bool false)) K:=by
  obtain ⟨f,n,hm,g1,g2⟩:=hs
  refine hm.get k ?_
  cases hf:f k with
  | none=>exact ⟨false,rfl,h2 fun hp=>by rw [← g2,hf] at hp;cases hp⟩
  | some v=>exact ⟨true,g1 k v hf,h1 ((g2 k).1 (by rw [hf];rfl))⟩
theorem Zpt {h:Zb} {sb:Nat} {x0 x1:Value} {sp:Sl} {r:List Value} (hc:obj h sb=some (.cells (x0::x1::slV sp::r).toArray 118 (0,0))) {T:Nat→Option Nat} {ls:List Sp3} (hs:SpR h T sp ls) {l:List (ByteArray × List F4)} (hl:ls.map (fun x=>(x.1,x.2.2))=l) {name:ByteArray} {s:Sl} {fl:List F4} (hr:Row h s 4 (fl.flatMap f4L)) {K:Bool→Zb→Prop}
    (hk:∀ b h',(b=false↔ZoE l name fl)→Ext h h'→K b h'):X2 (some ⟨sb,0,none⟩) name s K h:=by
  unfold X2 Zcc
  have l0:=ZT hc
  refine ZeU.new fun h1 hm1 e1 z1=>?_
  simp only [ZE] at hm1 z1 e1 ⊢
  have c1:=Yf hc e1
  simp (maxDischargeDepth:=60) only [Zs,Zr,evC,reduceAdd,reduceLT,reduceLeDiff,reduceEqDiff,reduceMul,reduceCtorEq,c1]
  have hrow:=hs.own.row
  have hlen:=Zah Zc9 hrow (by decide)
  have hb1:=hrow.big
  have hb2:=hrow.cap
  have hset:Zno h1 (sz h) (Zps (ls.take 0 |>.map fun x=>(x.1,x.2.2)) name):=⟨_,_,hm1,(fun _ _ hv=>by cases hv),fun i=>⟨(fun e=>by cases e),fun ⟨x,hx,_⟩=>(by cases hx)⟩⟩
  refine Zdi (fun st hh=>∃ i:Nat,st=((i:Int),())∧i≤ls.length∧Ext h hh∧Zno hh (sz h) (Zps ((ls.take i).map fun x=>(x.1,x.2.2)) name))
    (fun st _=>(sp.len - st.1).toNat) ⟨0,rfl,by omega,e1,hset⟩ ?_
  rintro _ hh ⟨i,rfl,hi,he,hset⟩ Q hQ
  dsimp only
  refine Zi (fun q=>?_) fun q=>?_
  ·obtain ⟨x,hx⟩:∃ x,ls[i]?=some x:=⟨_,List.getElem?_eq_getElem (by omega)⟩
   obtain ⟨b,o,hb,_,hidx,hcell⟩:=ZaQ Zc9 (hrow.ext he) hx (by decide)
   have hrf:=((hs.rows x (List.mem_of_getElem? hx)).1).ext he
   have v0:=hcell 0 _ rfl
   have v1:=hcell 1 _ rfl
   simp only [Nat.add_zero] at v0
   refine hidx rfl ?_
   have hsl:=hset.lt
   simp (maxDischargeDepth:=60) only [Zs,Zr,evC,reduceAdd,reduceLT,reduceLeDiff,reduceEqDiff,reduceMul,reduceCtorEq,v0,v1]
   have hlf:=Zah YT hrf (by decide)
   have hb3:=hrf.big
   have hb4:=hrf.cap
   have zhh:=X0 he
   have e2:Ext hh (Zb.puts (hh.push (.cells [.string (ByteArray.mk #[]),slV ⟨none,0,0⟩].toArray 137 (0,0))) (sz hh) 0 [.string x.1,slV x.2.1]):=Z3 (ZO (Ext.refl _)) (Nat.le_refl _)
   refine Zdi (fun st h2=>∃ k:Nat,st=((k:Int),())∧k≤x.2.2.length∧Ext h h2∧obj h2 (sz hh)=some (.cells [.string x.1,slV x.2.1].toArray 137 (0,0))∧Zno h2 (sz h) (fun j=>Zps ((ls.take i).map fun x=>(x.1,x.2.2)) name j∨(Zag x.1 name=false∧∃ g,g∈x.2.2.take k∧g.1=j)))
     (fun st _=>(x.2.1.len - st.1).toNat) ⟨0,rfl,by omega,he.trans e2,?_,(hset.congr (e2.old _ hsl)).iff fun j=>by simp⟩ ?_
   ·simp (maxDischargeDepth:=60) only [Zs,Zr,evC,reduceAdd,reduceLT,reduceLeDiff,reduceEqDiff,reduceMul,reduceCtorEq]
   rintro _ h2 ⟨k,rfl,hk2,he2,hsp,hset2⟩ Q2 hQ2
   have g1:=ZT hsp
   have z2:=X0 he2
   have hsl2:=hset2.lt
   dsimp only
   refine Zi (fun q2=>?_) fun q2=>?_
   ·obtain ⟨f,hf⟩:∃ f,x.2.2[k]?=some f:=⟨_,List.getElem?_eq_getElem (by omega)⟩
    obtain ⟨b2,o2,_,_,hidx2,hcell2⟩:=ZaQ YT (((hs.rows x (List.mem_of_getElem? hx)).1).ext he2) hf (by decide)
    refine hidx2 rfl ?_
    have w0:=hcell2 0 _ rfl
    have w1:=hcell2 1 _ rfl
    have w2:=hcell2 2 _ rfl
    have w3:=hcell2 3 _ rfl
    simp only [Nat.add_zero] at w0
    have hwr:IntKind.wrap .i64 ((k:Int)+1)=((k+1:Nat):Int):=by rw [ZR (by omega) (by omega)];rfl
    have tk:x.2.2.take (k+1)=x.2.2.take k++[f]:=by rw [List.take_add_one,hf];rfl
    have e3:Ext h2 (Zb.puts (h2.push (.cells [iv 0,iv 0,iv 0,iv 0].toArray 46 (0,0))) (sz h2) 0 [iv f.1,iv f.2.1,iv f.2.2.1,iv f.2.2.2.1]):=Z3 (ZO (Ext.refl _)) (Nat.le_refl _)
    have hsp3:=Yf hsp e3
    have set3:=hset2.congr (e3.old _ hsl2)
    simp (maxDischargeDepth:=60) only [Zs,Zr,evC,reduceAdd,reduceLT,reduceLeDiff,reduceEqDiff,reduceMul,reduceCtorEq,w0,w1,w2,w3,hsp,YG g1]
    refine ⟨fun q3=>?_,fun q3=>?_⟩
    ·have q4:Zag x.1 name=false:=by simpa using q3
     refine set3.put f.1 fun h4 set4 u4=>hQ2 _ _ ⟨k+1,by rw [hwr],by omega,?_,XG hsp3 u4 (by omega),set4.iff fun j=>?_⟩ (by rw [hwr];dsimp only;omega)
     ·exact (he2.trans e3).then u4 fun j hj=>by rw [hj,ZE];exact Nat.le_refl _
     ·rw [tk]
      constructor
      ·rintro (rfl | h9 | ⟨h9,g,hg,rfl⟩)
       ·exact .inr ⟨q4,f,by simp,rfl⟩
       ·exact .inl h9
       ·exact .inr ⟨q4,g,List.mem_append_left _ hg,rfl⟩
      ·rintro (h9 | ⟨h9,g,hg,rfl⟩)
       ·exact .inr (.inl h9)
       ·rcases List.mem_append.1 hg with hg | hg
        ·exact .inr (.inr ⟨q4,g,hg,rfl⟩)
        ·simp at hg;subst hg;exact .inl rfl
    ·have q4:Zag x.1 name=true:=by simpa using q3
     refine hQ2 _ _ ⟨k+1,by rw [hwr],by omega,he2.trans e3,hsp3,set3.iff fun j=>?_⟩ (by rw [hwr];dsimp only;omega)
     simp [q4]
   ·have hwr:IntKind.wrap .i64 ((i:Int)+1)=((i+1:Nat):Int):=by rw [ZR (by omega) (by omega)];rfl
    refine hQ _ _ ⟨i+1,by rw [hwr],by omega,he2,hset2.iff fun j=>?_⟩ (by rw [hwr];dsimp only;omega)
    have tk:ls.take (i+1)=ls.take i++[x]:=by rw [List.take_add_one,hx];rfl
    rw [tk,List.map_append,show x.2.2.take k=x.2.2 from List.take_of_length_le (by omega)]
    unfold Zps
    constructor
    ·rintro (⟨y,hy,h9⟩ | ⟨h9,g,hg,rfl⟩)
     ·exact ⟨y,List.mem_append_left _ hy,h9⟩
     ·exact ⟨(x.1,x.2.2),List.mem_append_right _ (by simp),h9,g,hg,rfl⟩
    ·rintro ⟨y,hy,h9,g,hg,rfl⟩
     rcases List.mem_append.1 hy with hy | hy
     ·exact .inl ⟨y,hy,h9,g,hg,rfl⟩
     ·simp at hy;subst hy;exact .inr ⟨h9,g,hg,rfl⟩
  ·rw [List.take_of_length_le (by omega),hl] at hset
   have hr1:=hr.ext he
   have hlf:=Zah YT hr (by decide)
   have hb3:=hr.big
   have hb4:=hr.cap
   refine Zdi (fun st h2=>∃ k:Nat,st=((k:Int),())∧k≤fl.length∧Ext h h2∧Zno h2 (sz h) (fun j=>Zps l name j∨∃ g,g∈fl.take k∧g.1=j)∧ZoE l name (fl.take k))
     (fun st _=>(s.len - st.1).toNat) ⟨0,rfl,by omega,he,hset.iff fun j=>by simp,by simp,fun f hf=>by simp at hf⟩ ?_
   rintro _ h2 ⟨k,rfl,hk2,he2,hset2,hnt⟩ Q2 hQ2
   have z2:=X0 he2
   have hsl2:=hset2.lt
   dsimp only
   refine Zi (fun q2=>?_) fun q2=>?_
   ·obtain ⟨f,hf⟩:∃ f,fl[k]?=some f:=⟨_,List.getElem?_eq_getElem (by omega)⟩
    obtain ⟨b2,o2,_,_,hidx2,hcell2⟩:=ZaQ YT (hr.ext he2) hf (by decide)
    refine hidx2 rfl ?_
    have w0:=hcell2 0 _ rfl
    have w1:=hcell2 1 _ rfl
    have w2:=hcell2 2 _ rfl
    have w3:=hcell2 3 _ rfl
    simp only [Nat.add_zero] at w0
    have hwr:IntKind.wrap .i64 ((k:Int)+1)=((k+1:Nat):Int):=by rw [ZR (by omega) (by omega)];rfl
    have tk:fl.take (k+1)=fl.take k++[f]:=by rw [List.take_add_one,hf];rfl
    have e3:Ext h2 (Zb.puts (h2.push (.cells [iv 0,iv 0,iv 0,iv 0].toArray 46 (0,0))) (sz h2) 0 [iv f.1,iv f.2.1,iv f.2.2.1,iv f.2.2.2.1]):=Z3 (ZO (Ext.refl _)) (Nat.le_refl _)
    have set3:=hset2.congr (e3.old _ hsl2)
    simp (maxDischargeDepth:=60) only [Zs,Zr,evC,reduceAdd,reduceLT,reduceLeDiff,reduceEqDiff,reduceMul,reduceCtorEq,w0,w1,w2,w3]
    refine set3.get f.1 (fun hp=>ZJ (hk true _ ⟨(fun e=>by cases e),fun hn=>?_⟩ (he2.trans e3))) fun hp=>Zl ?_
    ·rcases hp with hp | ⟨g,hg,hge⟩
     ·exact (hn.2 f (List.mem_of_getElem? hf) hp).elim
     ·have h9:(fl.take (k+1)).map (·.1) |>.Nodup:=(List.map_take▸(hn.1.sublist (List.take_sublist _ _)))
      rw [tk,List.map_append,List.nodup_append] at h9
      exact (h9.2.2 g.1 (List.mem_map_of_mem hg) f.1 (by simp) hge).elim
    ·refine set3.put f.1 fun h4 set4 u4=>hQ2 _ _ ⟨k+1,by rw [hwr],by omega,?_,set4.iff fun j=>?_,?_⟩ (by rw [hwr];dsimp only;omega)
     ·exact (he2.trans e3).then u4 fun j hj=>by rw [hj,ZE];exact Nat.le_refl _
     ·rw [tk]
      constructor
      ·rintro (rfl | h9 | ⟨g,hg,rfl⟩)
       ·exact .inr ⟨f,by simp,rfl⟩
       ·exact .inl h9
       ·exact .inr ⟨g,List.mem_append_left _ hg,rfl⟩
      ·rintro (h9 | ⟨g,hg,rfl⟩)
       ·exact .inr (.inl h9)
       ·rcases List.mem_append.1 hg with hg | hg
        ·exact .inr (.inr ⟨g,hg,rfl⟩)
        ·simp at hg;subst hg;exact .inl rfl
     ·rw [tk]
      refine ⟨?_,fun g hg=>?_⟩
      ·rw [List.map_append,List.nodup_append]
       refine ⟨hnt.1,by simp,fun a ha b hb hab=>hp (.inr ?_)⟩
       obtain ⟨g,hg,rfl⟩:=List.mem_map.1 ha
       simp at hb
       exact ⟨g,hg,hab.trans hb⟩
      ·rcases List.mem_append.1 hg with hg | hg
       ·exact hnt.2 g hg
       ·simp at hg;subst hg;exact fun h9=>hp (.inl h9)
   ·rw [List.take_of_length_le (by omega)] at hnt
    exact hk false h2 ⟨fun _=>hnt,fun _=>rfl⟩ he2
theorem ZnE.one {h:Zb} {T:Nat→Option Nat} {id:Int} {v:Value} {c:Cnt} (hc:ZnE h T id v c):Zv v=true:=by
  cases c with
  | rate w=>obtain ⟨wb,mb,rfl,_⟩:=hc;exact Zhd
  | value s=>obtain ⟨wb,sl,lb,rfl,_⟩:=hc;exact Zhd
  | leased=>cases hc;exact Zhd
def ZkM (l:List (ByteArray × List F4)) (name:ByteArray) (n:Int):Int:=l.foldl (fun n x=>if Zag x.1 name then n else IntKind.wrap .i64 (n+x.2.length)) n
def Zvo (cs:Int→Option Cnt) (fl:List F4) (n:Int):Int:=fl.foldl (fun n f=>if (cs f.1).isSome then n else IntKind.wrap .i64 (n+1)) n
def Zlg (S:Srv) (name:ByteArray):Int:=if Zub S name then (S.spaces.length:Int) else IntKind.wrap .i64 ((S.spaces.length:Int)+1)
def Zue (S:Srv) (name:ByteArray) (fl:List F4):Bool :=
  if ZkM S.spaces name fl.length>256 then true else if Zlg S name>8 then true else decide (Zvo S.counts fl S.nc>512)
theorem Zny.get {h:Zb} {T:Nat→Option Nat} {cb:Nat} {cs:Int→Option Cnt} {nc:Nat} (hc:Zny h T cb cs nc) (id:Int) {K:Option Value→Prop}
    (h1:cs id=none→K none) (h2:∀ c v,cs id=some c→ZnE h T id v c→K (some (.agg #[v,iv c.kind]))):XL (.int .i64) h (some cb) (iv id) K:=by
  obtain ⟨f,hm,g1,g2⟩:=hc
  refine hm.get id ?_
  cases hid:cs id with
  | none=>rw [g1 id hid];exact h1 hid
  | some c =>
    obtain ⟨_,v,hv,hr⟩:=g2 id c hid
    rw [hv]
    exact h2 c v hid hr
theorem Zny.len {h:Zb} {T:Nat→Option Nat} {cb:Nat} {cs:Int→Option Cnt} {nc:Nat} (hc:Zny h T cb cs nc) {K:Int→Prop} (hk:K nc):ZwM h (some cb) K:=by
  obtain ⟨f,hm,_⟩:=hc
  exact hm.len hk
theorem Zss {h:Zb} {T:Nat→Option Nat} {sb cb nb:Nat} {sp so:Sl} {ls:List Sp3} {S:Srv} (hR:Zdv h T sb cb nb sp so ls S) {name:ByteArray} {s:Sl} {fl:List F4} (hr:Row h s 4 (fl.flatMap f4L)) {K:Bool→Zb→Prop}
    (hk:∀ h',Ext h h'→K (Zue S name fl) h'):Zal (some ⟨sb,0,none⟩) name s K h:=by
  unfold Zal ZcS
  have c0:=hR.cells
  have l0:=ZT c0
  have hs:=hR.spaces
  have hrow:=hs.own.row
  have hlen:=Zah Zc9 hrow (by decide)
  have hb1:=hrow.big
  have hb2:=hrow.cap
  have hlf:=Zah YT hr (by decide)
  have hb3:=hr.big
  have hb4:=hr.cap
  have hsl:S.spaces.length=ls.length:=by rw [← hR.names,List.length_map]
  simp (maxDischargeDepth:=60) only [Zs,Zr,evC,reduceAdd,reduceLT,reduceLeDiff,reduceEqDiff,reduceMul,reduceCtorEq,c0]
  refine hR.counts.len ?_
  refine Zdi (fun st hh=>∃ i:Nat,st=(ZkM (S.spaces.take i) name fl.length,(i:Int),())∧i≤ls.length∧Ext h hh)
    (fun st _=>(sp.len - st.2.1).toNat) ⟨0,by rw [hlf];rfl,by omega,Ext.refl _⟩ ?_
  rintro _ hh ⟨i,rfl,hi,he⟩ Q hQ
  dsimp only
  have zhh:=X0 he
  refine Zi (fun q=>?_) fun q=>?_
  ·obtain ⟨x,hx⟩:∃ x,ls[i]?=some x:=⟨_,List.getElem?_eq_getElem (by omega)⟩
   obtain ⟨b,o,hb,_,hidx,hcell⟩:=ZaQ Zc9 (hrow.ext he) hx (by decide)
   have hrf:=(hs.rows x (List.mem_of_getElem? hx)).1
   have hrfl:=Zah YT hrf (by decide)
   have v0:=hcell 0 _ rfl
   have v1:=hcell 1 _ rfl
   simp only [Nat.add_zero] at v0
   have hsx:S.spaces[i]?=some (x.1,x.2.2):=by rw [← hR.names,List.getElem?_map,hx];rfl
   have st:ZkM (S.spaces.take (i+1)) name fl.length=if Zag x.1 name then ZkM (S.spaces.take i) name fl.length else IntKind.wrap .i64 (ZkM (S.spaces.take i) name fl.length+x.2.2.length):=by
     rw [List.take_add_one,hsx]
     unfold ZkM
     rw [List.foldl_append]
     rfl
   have hwr:IntKind.wrap .i64 ((i:Int)+1)=((i+1:Nat):Int):=by rw [ZR (by omega) (by omega)];rfl
   refine hidx rfl ?_
   simp (maxDischargeDepth:=60) only [Zs,Zr,evC,reduceAdd,reduceLT,reduceLeDiff,reduceEqDiff,reduceMul,reduceCtorEq,v0,v1]
   have e2:Ext h (Zb.puts (hh.push (.cells [.string (ByteArray.mk #[]),slV ⟨none,0,0⟩].toArray 137 (0,0))) (sz hh) 0 [.string x.1,slV x.2.1]):=Z3 (ZO he) zhh
   refine ⟨fun q3=>?_,fun q3=>?_⟩
   ·have q4:Zag x.1 name=false:=by simpa using q3
    refine hQ _ _ ⟨i+1,?_,by omega,e2⟩ (by rw [hwr];dsimp only;omega)
    rw [hwr,st,q4,hrfl]
    rfl
   ·have q4:Zag x.1 name=true:=by simpa using q3
    refine hQ _ _ ⟨i+1,?_,by omega,e2⟩ (by rw [hwr];dsimp only;omega)
    rw [hwr,st,q4]
    rfl
  ·rw [show S.spaces.take i=S.spaces from List.take_of_length_le (by omega)]
   refine Zpc (fun s h2=>s=(Zlg S name,())∧Ext h h2) ?_ ?_
   ·rintro _ h2 ⟨rfl,e2⟩
    dsimp only
    have hR2:=hR.ext e2
    refine Zdi (fun st h3=>∃ k:Nat,st=(Zvo S.counts (fl.take k) S.nc,(k:Int),())∧k≤fl.length∧Ext h h3) (fun st _=>(s.len - st.2.1).toNat) ⟨0,rfl,by omega,e2⟩ ?_
    rintro _ h3 ⟨k,rfl,hk3,he3⟩ Q2 hQ2
    dsimp only
    have z3:=X0 he3
    refine Zi (fun q2=>?_) fun q2=>?_
    ·obtain ⟨f,hf⟩:∃ f,fl[k]?=some f:=⟨_,List.getElem?_eq_getElem (by omega)⟩
     obtain ⟨b2,o2,_,_,hidx2,hcell2⟩:=ZaQ YT (hr.ext he3) hf (by decide)
     refine hidx2 rfl ?_
     have w0:=hcell2 0 _ rfl
     have w1:=hcell2 1 _ rfl
     have w2:=hcell2 2 _ rfl
     have w3:=hcell2 3 _ rfl
     simp only [Nat.add_zero] at w0
     have hwr:IntKind.wrap .i64 ((k:Int)+1)=((k+1:Nat):Int):=by rw [ZR (by omega) (by omega)];rfl
     have c3:=(hR.ext he3).cells
     have ls3:=ZT c3
     have e4:Ext h (Zb.puts (h3.push (.cells [iv 0,iv 0,iv 0,iv 0].toArray 46 (0,0))) (sz h3) 0 [iv f.1,iv f.2.1,iv f.2.2.1,iv f.2.2.2.1]):=Z3 (ZO he3) z3
     have f4:obj (Zb.puts (h3.push (.cells [iv 0,iv 0,iv 0,iv 0].toArray 46 (0,0))) (sz h3) 0 [iv f.1,iv f.2.1,iv f.2.2.1,iv f.2.2.2.1]) (sz h3)=some (.cells [iv f.1,iv f.2.1,iv f.2.2.1,iv f.2.2.2.1].toArray 46 (0,0)):=by simp (maxDischargeDepth:=60) only [Zs,Zr,evC,reduceAdd,reduceLT,reduceLeDiff,reduceEqDiff,reduceMul,reduceCtorEq]
     have st:Zvo S.counts (fl.take (k+1)) S.nc=if (S.counts f.1).isSome then Zvo S.counts (fl.take k) S.nc else IntKind.wrap .i64 (Zvo S.counts (fl.take k) S.nc+1):=by
       rw [List.take_add_one,hf]
       unfold Zvo
       rw [List.foldl_append]
       rfl
     simp (maxDischargeDepth:=60) only [Zs,Zr,evC,reduceAdd,reduceLT,reduceLeDiff,reduceEqDiff,reduceMul,reduceCtorEq,w0,w1,w2,w3,c3,YG ls3]
     have z34:sz h3+1=sz (Zb.puts (h3.push (.cells [iv 0,iv 0,iv 0,iv 0].toArray 46 (0,0))) (sz h3) 0 [iv f.1,iv f.2.1,iv f.2.2.1,iv f.2.2.2.1]):=by simp only [Zc8,Xx]
     generalize Zb.puts (h3.push (.cells [iv 0,iv 0,iv 0,iv 0].toArray 46 (0,0))) (sz h3) 0 [iv f.1,iv f.2.1,iv f.2.2.1,iv f.2.2.2.1]=h4 at e4 f4 z34 ⊢
     rw [z34]
     have hR4:=hR.ext e4
     have c4:=hR4.cells
     have z4:=X0 e4
     have goS:∀ h9,Ext h h9→(S.counts f.1).isSome=true→Q2 (Zvo S.counts (fl.take k) S.nc,((k+1:Nat):Int),()) h9:=fun h9 e9 hq=>hQ2 _ _ ⟨k+1,by rw [st,if_pos hq],by omega,e9⟩ (by dsimp only;omega)
     have goN:∀ h9,Ext h h9→S.counts f.1=none→Q2 (IntKind.wrap .i64 (Zvo S.counts (fl.take k) S.nc+1),((k+1:Nat):Int),()) h9:=fun h9 e9 hq=>hQ2 _ _ ⟨k+1,by rw [st,hq];rfl,by omega,e9⟩ (by dsimp only;omega)
     have lf4:=ZT f4
     have lc4:=ZT c4
     rw [hwr]
     refine ⟨?_,?_⟩
     ·refine hR4.counts.get f.1 (fun hn=>?_) fun c v hc9 hv=>?_
      ·refine ⟨(.nilIface,0,()),rfl,?_⟩
       simp (maxDischargeDepth:=60) only [Zs,Zr,evC,reduceAdd,reduceLT,reduceLeDiff,reduceEqDiff,reduceMul,reduceCtorEq]
       exact goN _ (Z3 (ZO e4) z4) hn
      ·refine ⟨(v,c.kind,()),rfl,?_⟩
       simp (maxDischargeDepth:=60) only [Zs,Zr,evC,reduceAdd,reduceLT,reduceLeDiff,reduceEqDiff,reduceMul,reduceCtorEq,hv.one]
       exact goS _ (Z3 (ZO e4) z4) (by rw [hc9];rfl)
     ·have hR5:=hR4.ext (Ext.push h4 (.cells [Value.nilIface,iv 0].toArray 142 (0,0)))
      try simp (maxDischargeDepth:=60) only [Zs,Zr,evC,reduceAdd,reduceLT,reduceLeDiff,reduceEqDiff,reduceMul,reduceCtorEq,f4,c4,YG lf4,YG lc4]
      refine hR5.counts.get f.1 (fun hn=>?_) fun c v hc9 hv=>?_
      ·refine ⟨(.nilIface,0,()),rfl,?_⟩
       simp (maxDischargeDepth:=60) only [Zs,Zr,evC,reduceAdd,reduceLT,reduceLeDiff,reduceEqDiff,reduceMul,reduceCtorEq]
       exact goN _ (Z3 (ZO e4) z4) hn
      ·refine ⟨(v,c.kind,()),rfl,?_⟩
       simp (maxDischargeDepth:=60) only [Zs,Zr,evC,reduceAdd,reduceLT,reduceLeDiff,reduceEqDiff,reduceMul,reduceCtorEq,hv.one]
       exact goS _ (Z3 (ZO e4) z4) (by rw [hc9];rfl)
    ·rw [show fl.take k=fl from List.take_of_length_le (by omega)]
     have:=hk h3 he3
     unfold Zue at this
     refine Zi (fun q3=>?_) fun q3=>Zi (fun q4=>?_) fun q4=>?_
     ·rw [if_pos q3] at this;exact this
     ·rw [if_neg q3,if_pos q4] at this;exact this
     ·rw [if_neg q3,if_neg q4] at this;exact this
   ·intro Q2 hQ2
    have hR2:=hR.ext he
    refine ZhH hR2.cells hR2.spaces.own.row fun h3 e3=>?_
    have hx:=Zvn hR.names name
    refine Zi (fun q3=>?_) fun q3=>?_
    ·have hh:Zub S name=false:=by
       unfold Zub
       rw [← hx]
       exact decide_eq_false (by omega)
     refine hQ2 _ _ ⟨?_,he.trans e3⟩
     unfold Zlg
     rw [hh,hsl,hlen]
     rfl
    ·have hh:Zub S name=true:=by
       unfold Zub
       rw [← hx]
       exact decide_eq_true (by omega)
     refine hQ2 _ _ ⟨?_,he.trans e3⟩
     unfold Zlg
     rw [hh,hsl,hlen]
     rfl
def Zb8 (f:F4):Cnt:=if f.2.2.1=1 then .rate ⟨0,fun _=>0⟩ else if f.2.2.1=2 then .value ⟨IntKind.wrap .u64 f.1,0,[]⟩ else .leased
theorem Zh4 {h:Zb} {T:Nat→Option Nat} (hT:∀ k,T k≠none→k<sz h) {f:F4} {K:Value→Zb→Prop}
    (hk:∀ v h' T',ZnE h' T' f.1 v (Zb8 f)→Ext h h'→(∀ k t,T k=some t→T' k=some t)→(∀ k,T' k≠none→T k≠none∨sz h≤k)→(∀ k,T' k≠none→k<sz h')→K v h'):YV f K h:=by
  unfold YV Zfq
  obtain ⟨f1,f2,f3,f4,_⟩:=f
  have e1:Ext h (h.push (.cells [iv f1,iv f2,iv f3,iv f4].toArray 46 (0,0))):=Ext.push _ _
  have z1:sz (h.push (.cells [iv f1,iv f2,iv f3,iv f4].toArray 46 (0,0)))=sz h+1:=Xx
  simp (maxDischargeDepth:=60) only [Zs,Zr,evC,reduceAdd,reduceLT,reduceLeDiff,reduceEqDiff,reduceMul,reduceCtorEq]
  refine ⟨fun q=>?_,fun q=>⟨fun q2=>?_,fun q2=>?_⟩⟩
  ·have q1:f3=1:=by simpa using q
   generalize h.push (.cells [iv f1,iv f2,iv f3,iv f4].toArray 46 (0,0))=h1 at e1 z1 ⊢
   refine Zn4 fun h3 hw e3 z3=>?_
   have nT:∀ k,sz h≤k→T k=none:=fun k h9=>by
     cases h8:T k with
     | none=>rfl
     | some t=>have:=hT k (by rw [h8];exact fun e=>by cases e);omega
   refine hk _ h3 (fun k=>if k=sz h1+1 then some (tg f1 0) else if k=sz h1 then some (tg f1 1) else T k) ?_ (e1.trans e3) (fun k t hk=>?_) (fun k hk=>?_) fun k hk=>?_
   ·have:Zb8 (f1,f2,f3,f4,()) = .rate ⟨0,fun _=>0⟩:=if_pos q1
    rw [this]
    refine ⟨sz h1+1,sz h1,rfl,hw,if_pos rfl,?_⟩
    dsimp only
    rw [if_neg (by omega),if_pos rfl]
   ·rw [if_neg,if_neg]
    ·exact hk
    ·intro e;subst e;rw [nT _ (by omega)] at hk;cases hk
    ·intro e;subst e;rw [nT _ (by omega)] at hk;cases hk
   ·split at hk
    ·right;omega
    ·split at hk
     ·right;omega
     ·exact .inl hk
   ·split at hk
    ·omega
    ·split at hk
     ·omega
     ·have:=hT k hk;omega
  ·have q1:f3≠1:=by simpa using q
   have q3:f3=2:=by simpa using q2
   have hT1:∀ k,T k≠none→k<sz (h.push (.cells [iv f1,iv f2,iv f3,iv f4].toArray 46 (0,0))):=fun k hk=>by have:=hT k hk;omega
   refine ZpY (id:=f1) hT1 fun h' T' hs e' hkeep hnew hlt=>?_
   refine hk _ h' T' ?_ (e1.trans e') hkeep (fun k hk=>(hnew k hk).imp (fun h=>h) fun h9=>by omega) hlt
   have:Zb8 (f1,f2,f3,f4,()) = .value ⟨IntKind.wrap .u64 f1,0,[]⟩:=by unfold Zb8;rw [if_neg q1,if_pos q3]
   rw [this]
   exact ⟨_,_,_,rfl,hs⟩
  ·have q1:¬ f3=1:=by simpa using q
   have h2:¬ f3=2:=by simpa using q2
   refine hk _ _ T ?_ e1 (fun _ _ h=>h) (fun _ h=> .inl h) fun k hk=>by have:=hT k hk;simp only [Xx];omega
   have:Zb8 (f1,f2,f3,f4,()) = .leased:=by unfold Zb8;rw [if_neg q1,if_neg h2]
   rw [this]
   rfl
theorem Zdv.no {h:Zb} {T:Nat→Option Nat} {sb cb nb:Nat} {sp so:Sl} {ls:List Sp3} {S:Srv} (hR:Zdv h T sb cb nb sp so ls S) {k:Nat} (hk:sz h≤k):T k=none:=by
  cases hT:T k with
  | none=>rfl
  | some t =>
    have:=hR.lt k (by rw [hT];exact fun e=>by cases e)
    omega
theorem Zdv.setP {h h':Zb} {T T':Nat→Option Nat} {sb cb nb:Nat} {sp sp' so:Sl} {ls ls':List Sp3} {S:Srv} (hR:Zdv h T sb cb nb sp so ls S) (hu:Upd (fun k=>k=sb∨T k=some 1∨T k=none) h h')
    (hc:obj h' sb=some (.cells [iv S.begun,iv S.last,slV sp',.map (some cb),.map (some nb),slV so,iv S.next].toArray 118 (0,0)))
    (hT:∀ k t,T k=some t→T' k=some t) (hlt:∀ k,T' k≠none→k<sz h') (hs:SpR h' T' sp' ls'):Zdv h' T' sb cb nb sp' so ls' { S with spaces:=ls'.map (fun x=>(x.1,x.2.2))}:=by
  have q:∀ k t,T k=some t→t≠0→t≠1→h'[k]?=h[k]?:=fun k t hk h0 h4=>hu.old k (hR.lt k (by rw [hk];exact fun e=>by cases e)) fun e=>by
    rcases e with e | e | e
    ·subst e
     rw [hR.tsb] at hk
     cases hk
     exact h0 rfl
    ·rw [hk] at e
     cases e
     exact h4 rfl
    ·rw [hk] at e
     cases e
  exact ⟨hc,hs,rfl,hR.counts.congr hT (q cb _ hR.tcb (by decide) (by decide)) (fun k t hk h6=>q k t hk (by omega) (by omega)),hR.conns.congr (q nb _ hR.tnb (by decide) (by decide)),
    hR.out.congr fun b hb _ _=>q b _ (hR.tso b hb) (by decide) (by decide),hT _ _ hR.tsb,hT _ _ hR.tcb,hT _ _ hR.tnb,fun k hk=>hT _ _ (hR.tso k hk),hlt⟩
theorem Zdv.putC {h h':Zb} {T T':Nat→Option Nat} {sb cb nb:Nat} {sp so:Sl} {ls:List Sp3} {S:Srv} (hR:Zdv h T sb cb nb sp so ls S) {id:Int} {c:Cnt} (hid:1≤id) (hu:Upd (fun k=>k=cb) h h')
    (hT:∀ k t,T k=some t→T' k=some t) (hlt:∀ k,T' k≠none→k<sz h') {f:Int→Option Value} {n:Nat} {v:Value} (hm:ZeU h' cb (upd f id (some (.agg #[v,iv c.kind]))) n) (h1:∀ id,S.counts id=none→f id=none) (h2:∀ id c,S.counts id=some c→1≤id∧∃ v,f id=some (.agg #[v,iv c.kind])∧ZnE h T id v c)
    (hc:ZnE h' T' id v c):Zdv h' T' sb cb nb sp so ls { S with counts:=fun i=>if i=id then some c else S.counts i,nc:=n }:=by
  have q:∀ k t,T k=some t→t≠2→h'[k]?=h[k]?:=fun k t hk h0=>hu.old k (hR.lt k (by rw [hk];exact fun e=>by cases e)) fun e=>by
    subst e
    rw [hR.tcb] at hk
    cases hk
    exact h0 rfl
  refine ⟨(q sb 0 hR.tsb (by decide)).trans hR.cells,hR.spaces.congr hT (fun k hk=>hk.elim (fun h=>q k _ h (by decide)) (fun h=>q k _ h (by decide))),hR.names,⟨_,hm,fun i hi=>?_,fun i d hi=>?_⟩,hR.conns.congr (q nb _ hR.tnb (by decide)),
    hR.out.congr fun b hb _ _=>q b _ (hR.tso b hb) (by decide),hT _ _ hR.tsb,hT _ _ hR.tcb,hT _ _ hR.tnb,fun k hk=>hT _ _ (hR.tso k hk),hlt⟩
  ·dsimp only at hi
   unfold upd
   split at hi
   ·cases hi
   ·rename_i hne
    rw [if_neg hne]
    exact h1 i hi
  ·dsimp only at hi
   unfold upd
   split at hi
   ·rename_i hii
    subst hii
    cases hi
    exact ⟨hid,v,if_pos rfl,hc⟩
   ·rename_i hii
    obtain ⟨hi1,w,hw,hr⟩:=h2 i d hi
    exact ⟨hi1,w,(if_neg hii).trans hw,hr.congr hT fun k j hj hk=>q k _ hk (by unfold tg;omega)⟩
def Srv.fresh1 (S:Srv) (f:F4):Srv:=match S.counts f.1 with
  | none=>{ S with counts:=fun i=>if i=f.1 then some (Zb8 f) else S.counts i,nc:=S.nc+1 }
  | some c=>if c.kind≠f.2.2.1 then { S with counts:=fun i=>if i=f.1 then some (Zb8 f) else S.counts i } else S
def Srv.freshL (S:Srv) (l:List F4):Srv:=l.foldl Srv.fresh1 S
def Srv.loaded (S:Srv) (name:ByteArray) (fl:List F4):Srv:={ S with spaces:=S.spaces++[(name,fl)]}.freshL fl
def Zd7 (S:Srv) (name:ByteArray) (fl:List F4):Prop:=Zhh name=true∧(fl.any fun f=> !ZbK f)=false∧ZoE S.spaces name fl∧Zue S name fl=false
theorem ZgT {S:Srv} {f:F4} (h:S.counts f.1=none):S.fresh1 f={ S with counts:=fun i=>if i=f.1 then some (Zb8 f) else S.counts i,nc:=S.nc+1 }:=by unfold Srv.fresh1;rw [h]
theorem Zog {S:Srv} {f:F4} {c:Cnt} (h:S.counts f.1=some c) (hc:c.kind≠f.2.2.1):S.fresh1 f={ S with counts:=fun i=>if i=f.1 then some (Zb8 f) else S.counts i }:=by unfold Srv.fresh1;rw [h];exact if_pos hc
theorem Zoh {S:Srv} {f:F4} {c:Cnt} (h:S.counts f.1=some c) (hc:¬ c.kind≠f.2.2.1):S.fresh1 f=S:=by unfold Srv.fresh1;rw [h];exact if_neg hc
theorem ZgS {f:F4} (h:ZbK f=true):(Zb8 f).kind=f.2.2.1:=by
  unfold ZbK at h
  rw [Bool.and_eq_true,Bool.and_eq_true,Bool.and_eq_true] at h
  have:=ZdO h.2.2.1
  unfold Zb8
  split
  ·rename_i e;exact e.symm
  ·split
   ·rename_i e;exact e.symm
   ·show (3:Int)=_;omega
theorem ZtM {f:F4} (h:ZbK f=true):1≤f.1:=by
  unfold ZbK at h
  rw [Bool.and_eq_true] at h
  exact (ZdO h.1).1
theorem Zkd {h:Zb} {s:Sl} {l:List F4} (hr:Row h s 4 (l.flatMap f4L)) (hl:l.length≤1099511627776) {K:Sl→Zb→Prop}
    (hk:∀ t h',Own h' h.size t 4 (l.flatMap f4L)→Ext h h'→K t h'):Z8 s K h:=by
  unfold Z8 Y2
  have hlen:=Zah YT hr (by decide)
  exact Znf (bytes:=32) (zs:=[.int .i64 0,.int .i64 0,.int .i64 0,.int .i64 0]) hr (Zol l) rfl (by omega) (by omega) fun t h' ho he _=>hk t h' ho he
theorem Zsv {h:Zb} {T:Nat→Option Nat} {sb cb nb:Nat} {sp so:Sl} {ls:List Sp3} {S:Srv} (hR:Zdv h T sb cb nb sp so ls S) {f:F4} (hf:ZbK f=true) {n:Nat} (hn:n=if (S.counts f.1).isSome then S.nc else S.nc+1) {K:Zb→Prop} {R:Value→Zb→Prop} (hX:∀ v h',Ext h h'→Zv v=true→Zax (.int .i64) h' (some cb) (iv f.1) (.agg #[v,iv f.2.2.1]) K→R v h')
    (hk:∀ h' T',Zdv h' T' sb cb nb sp so ls { S with counts:=fun i=>if i=f.1 then some (Zb8 f) else S.counts i,nc:=n }→Stp T T' h h'→K h') :
    YV f R h:=by
  refine Zh4 hR.lt fun v h' T' hc he hT hnew hlt=>hX v h' he hc.one ?_
  have hR1:=hR.ext he
  obtain ⟨g,hm,g1,g2⟩:=hR1.counts
  refine hm.put f.1 _ fun h3 hm3 u3 z3=>?_
  have hcb:T' cb=some 2:=hT _ _ hR.tcb
  have hc3:ZnE h3 T' f.1 v (Zb8 f):=hc.congr (fun _ _ h=>h) fun k j _ hkk=>by
    have hkl:k<sz h':=hlt k (by rw [hkk];exact fun e=>by cases e)
    refine u3.old k hkl fun e=>?_
    subst e
    rw [hcb] at hkk
    injection hkk with hkk
    unfold tg at hkk
    omega
  rw [← ZgS hf] at hm3
  have hnn:(if (g f.1).isSome then S.nc else S.nc+1)=n:=by
    rw [hn]
    cases hcs:S.counts f.1 with
    | none=>rw [g1 _ hcs];rfl
    | some c=>obtain ⟨_,v,hv,_⟩:=g2 _ c hcs;rw [hv];rfl
  rw [hnn] at hm3
  have z3':sz h3=sz h':=z3
  refine hk h3 T' (hR1.putC (ZtM hf) u3 hT (fun k hk=>by rw [z3'];exact hlt k hk) hm3 g1 g2 hc3) ⟨(he.upd _).trans (u3.mono fun k _ hk=>?_),fun k hk=>hnew k hk⟩
  subst hk
  rw [hR.tcb]
  exact fun e=>by cases e
theorem Zn8 {h:Zb} {T:Nat→Option Nat} {sb cb nb:Nat} {sp so:Sl} {ls:List Sp3} {S:Srv} (hR:Zdv h T sb cb nb sp so ls S) {s:Sl} {fl:List F4} (hr:Row h s 4 (fl.flatMap f4L)) (hsl:fl.flatMap f4L≠[]→∀ k,s.blk=some k→T k=none) (hf:∀ f,f∈fl→ZbK f=true)
    {body:((Int × Unit)→Zb→Prop)→Nat→Nat→Int→Zb→Prop} {K:Zb→Prop}
    (hb:∀ (i:Nat) (f:F4) (b o:Nat) (h1:Zb) (T1:Nat→Option Nat) (S1:Srv) (Q:(Int × Unit)→Zb→Prop),fl[i]?=some f→Zdv h1 T1 sb cb nb sp so ls S1→(∀ j v,(f4L f)[j]?=some v→ZN (o+j) (obj h1 b)=some v) →
      (∀ h2 T2,Zdv h2 T2 sb cb nb sp so ls (S1.fresh1 f)→Stp T1 T2 h1 h2→Q (IntKind.wrap .i64 ((i:Int)+1),()) h2)→body Q b o i h1)
    (hk:∀ h' T',Zdv h' T' sb cb nb sp so ls (S.freshL fl)→Stp T T' h h'→K h') :
    YH (σ:=Int × Unit) (fun J45 s46 h47=>(fun (s64:Int)=>Zw (decide (s64<(s.len:Int))) (Zau s.ptr s.len s64 4 fun b48 o49=>body J45 b48 o49 s64 h47) (K h47)) s46.1) (0,()) h:=by
  have hl:=Zah YT hr (by decide)
  have hbig:=hr.big
  have hcap:=hr.cap
  refine Zdi (fun st hh=>∃ (i:Nat) (T1:Nat→Option Nat),st=((i:Int),())∧i≤fl.length∧Zdv hh T1 sb cb nb sp so ls (S.freshL (fl.take i))∧Stp T T1 h hh) (fun st _=>(s.len - st.1).toNat) ⟨0,T,rfl,by omega,hR,Stp.refl _ _⟩ ?_
  rintro _ hh ⟨i,T1,rfl,hi,hR1,st1⟩ Q hQ
  dsimp only
  refine Zi (fun q=>?_) fun q=>?_
  ·obtain ⟨f,hfi⟩:∃ f,fl[i]?=some f:=⟨_,List.getElem?_eq_getElem (by omega)⟩
   have hr1:Row hh s 4 (fl.flatMap f4L):=hr.congr fun b o hp hne hb=>st1.upd.old b hb fun e=>e (hsl hne b (by simp [Sl.blk,hp]))
   obtain ⟨b,o,_,_,hidx,hcell⟩:=ZaQ YT hr1 hfi (by decide)
   have hwr:IntKind.wrap .i64 ((i:Int)+1)=((i+1:Nat):Int):=by rw [ZR (by omega) (by omega)];rfl
   refine hidx rfl (hb i f b o hh T1 _ Q hfi hR1 hcell fun h2 T2 hR2 st2=>hQ _ _ ⟨i+1,T2,by rw [hwr],by omega,?_,st1.trans st2⟩ (by rw [hwr];dsimp only;omega))
   rw [List.take_add_one,hfi]
   unfold Srv.freshL
   rw [List.foldl_append]
   exact hR2
  ·rw [List.take_of_length_le (by omega)] at hR1
   exact hk hh T1 hR1 st1
theorem Zsb {h:Zb} {T:Nat→Option Nat} {sb cb nb:Nat} {sp so:Sl} {ls:List Sp3} {S:Srv} (hR:Zdv h T sb cb nb sp so ls S) {f:F4} (hf:ZbK f=true) {b o:Nat} (hcell:∀ j v,(f4L f)[j]?=some v→ZN (o+j) (obj h b)=some v) {i:Int} {Q:(Int × Unit)→Zb→Prop}
    (hQ:∀ h2 T2,Zdv h2 T2 sb cb nb sp so ls (S.fresh1 f)→Stp T T2 h h2→Q (IntKind.wrap .i64 (i+1),()) h2) {kt ct:TypeId} (hkt:kt=46) (hct:ct=142) :
    ldI h b o .i64 fun t50=>ldI h b (o+1) .i64 fun t51=>ldI h b (o+2) .i64 fun t52=>ldI h b (o+3) .i64 fun t53 =>
    newC h [Value.int .i64 0,Value.int .i64 0,Value.int .i64 0,Value.int .i64 0] kt fun b54 h55=>sts h55 b54 0 [Value.int .i64 t50,Value.int .i64 t51,Value.int .i64 t52,Value.int .i64 t53] fun h56 =>
    ZgY (σ:=Option Addr × Bool × Unit) (fun s73 h74=>(fun (c:Option Addr) (there72:Bool) =>
     Zw (!there72) (Zd (some ⟨sb,0,none⟩) fun b75 o76=>ldM h74 b75 (o76+3) fun t77=>ldI h74 b54 0 .i64 fun t78=>ldI h74 b54 0 .i64 fun t79=>ldI h74 b54 (0+1) .i64 fun t80=>ldI h74 b54 (0+2) .i64 fun t81=>ldI h74 b54 (0+3) .i64 fun t82=>ldI h74 b54 (0+2) .i64 fun t83 =>
      YV (t79,t80,t81,t82,()) (fun t84 h85=>ZK (Zk h85 [(b54,0+2,Value.int .i64 t83)]) <| ZK (Zk h85 [(b54,0,Value.int .i64 t78)]) <| ZK (Zk h85 [(b75,o76+3,Value.map t77)]) <| ZK (Zv t84=true) <| Zax (.int .i64) h85 t77 (Value.int .i64 t78) (Value.agg #[t84,Value.int .i64 t83]) fun h86=>Q (IntKind.wrap .i64 (i+1),()) h86) h74)
      (Zd c fun b87 o88=>ldI h74 b87 (o88+1) .i64 fun t89=>ldI h74 b54 (0+2) .i64 fun t90=>Zw (t89 !=t90)
        (Zd (some ⟨sb,0,none⟩) fun b91 o92=>ldM h74 b91 (o92+3) fun t93=>ldI h74 b54 0 .i64 fun t94=>ldI h74 b54 0 .i64 fun t95=>ldI h74 b54 (0+1) .i64 fun t96=>ldI h74 b54 (0+2) .i64 fun t97=>ldI h74 b54 (0+3) .i64 fun t98=>ldI h74 b54 (0+2) .i64 fun t99 =>
          YV (t95,t96,t97,t98,()) (fun t100 h101=>ZK (Zk h101 [(b54,0+2,Value.int .i64 t99)]) <| ZK (Zk h101 [(b54,0,Value.int .i64 t94)]) <| ZK (Zk h101 [(b91,o92+3,Value.map t93)]) <| ZK (Zv t100=true) <| Zax (.int .i64) h101 t93 (Value.int .i64 t94) (Value.agg #[t100,Value.int .i64 t99]) fun h102=>Q (IntKind.wrap .i64 (i+1),()) h102) h74)
        (Q (IntKind.wrap .i64 (i+1),()) h74))) s73.1 s73.2.1) (fun J57 =>
     Zd (some ⟨sb,0,none⟩) fun b58 o59=>ldM h56 b58 (o59+3) fun t60=>ldI h56 b54 0 .i64 fun t61=>Zfb
      (XL (.int .i64) h56 t60 (Value.int .i64 t61) fun r=>exG (r.getD (Value.agg #[Value.nilIface,Value.int .i64 0])) (fun t62:Value × Int × Unit=>Value.agg #[t62.1,Value.int .i64 t62.2.1]) fun t62=>newC h56 [Value.nilIface,Value.int .i64 0] ct fun b63 h64=>sts h64 b63 0 [t62.1,Value.int .i64 t62.2.1] fun h65=>ZG r.isSome fun there=>J57 (some ⟨b63,0,none⟩,there,()) h65)
      (newC h56 [Value.nilIface,Value.int .i64 0] ct fun b66 h67=>ZK (Zk h67 [(b54,0,Value.int .i64 t61)]) <| ZK (Zk h67 [(b58,o59+3,Value.map t60)]) <| XL (.int .i64) h67 t60 (Value.int .i64 t61) fun r68=>exG (r68.getD (Value.agg #[Value.nilIface,Value.int .i64 0])) (fun t69:Value × Int × Unit=>Value.agg #[t69.1,Value.int .i64 t69.2.1]) fun t69=>sts h67 b66 0 [t69.1,Value.int .i64 t69.2.1] fun h70=>ZG r68.isSome fun there71=>J57 (some ⟨b66,0,none⟩,there71,()) h70)):=by
  subst hkt hct
  obtain ⟨f1,f2,f3,f4,_⟩:=f
  have w0:=hcell 0 _ rfl
  have w1:=hcell 1 _ rfl
  have w2:=hcell 2 _ rfl
  have w3:=hcell 3 _ rfl
  simp only [Nat.add_zero] at w0
  simp (maxDischargeDepth:=60) only [Zvl,w0,w1,w2,w3,Option.some.injEq,Value.int.injEq,true_and,exists_eq_left',exists_eq_left]
  rw [ZdD,Zi2 (by simp (maxDischargeDepth:=60) only [Zs,Zr,evC,reduceAdd,reduceLT,reduceLeDiff,reduceEqDiff,reduceMul,reduceCtorEq]) (by simp (maxDischargeDepth:=60) only [Zs,Zr,evC,reduceAdd,reduceLT,reduceLeDiff,reduceEqDiff,reduceMul,reduceCtorEq])]
  have e4:Ext h (Zb.puts (h.push (.cells [iv 0,iv 0,iv 0,iv 0].toArray 46 (0,0))) (sz h) 0 [iv f1,iv f2,iv f3,iv f4]):=Z3 (ZO (Ext.refl _)) (Nat.le_refl _)
  have a4:obj (Zb.puts (h.push (.cells [iv 0,iv 0,iv 0,iv 0].toArray 46 (0,0))) (sz h) 0 [iv f1,iv f2,iv f3,iv f4]) (sz h)=some (.cells [iv f1,iv f2,iv f3,iv f4].toArray 46 (0,0)):=by simp (maxDischargeDepth:=60) only [Zs,Zr,evC,reduceAdd,reduceLT,reduceLeDiff,reduceEqDiff,reduceMul,reduceCtorEq]
  have z4:sz (Zb.puts (h.push (.cells [iv 0,iv 0,iv 0,iv 0].toArray 46 (0,0))) (sz h) 0 [iv f1,iv f2,iv f3,iv f4])=sz h+1:=by simp only [Zc8,Xx]
  change ZgY _ _
  generalize Zb.puts (h.push (.cells [iv 0,iv 0,iv 0,iv 0].toArray 46 (0,0))) (sz h) 0 [iv f1,iv f2,iv f3,iv f4]=h4 at e4 a4 z4 ⊢
  have hR4:=hR.ext e4
  have c4:=hR4.cells
  refine Zpc (fun s h5=>∃ bc,s=(some ⟨bc,0,none⟩,(S.counts f1).isSome,())∧Ext h4 h5∧∀ c,S.counts f1=some c→ZN 1 (obj h5 bc)=some (iv c.kind)) ?_ ?_
  ·rintro _ h5 ⟨bc,rfl,e5,hbc⟩
   dsimp only
   have hR5:=hR4.ext e5
   have a5:=Yf a4 e5
   have c5:=hR5.cells
   have st5:∀ {T2 h6},Stp T T2 h5 h6→Stp T T2 h h6:=fun {T2 h6} st=>⟨((e4.trans e5).upd _).trans st.upd,fun k hk=>(st.new k hk).imp id fun h9=>Nat.le_trans (e4.trans e5).size h9⟩
   have put:∀ (n:Nat),n=(if (S.counts f1).isSome then S.nc else S.nc+1)→S.fresh1 (f1,f2,f3,f4,())={ S with counts:=fun i=>if i=f1 then some (Zb8 (f1,f2,f3,f4,())) else S.counts i,nc:=n } →
       YV (f1,f2,f3,f4,()) (fun t84 h85=>ZN 2 (obj h85 (sz h))=some (Value.int .i64 f3)∧ZN 0 (obj h85 (sz h))=some (Value.int .i64 f1)∧ZN 3 (obj h85 sb)=some (Value.map (some cb))∧Zv t84=true∧Zax (.int .i64) h85 (some cb) (Value.int .i64 f1) (Value.agg #[t84,Value.int .i64 f3]) fun h86=>Q (IntKind.wrap .i64 (i+1),()) h86) h5:=fun n hn hS=>by
     refine Zsv hR5 (f:=(f1,f2,f3,f4,())) hf hn (fun v h6 e6 hv hm=>?_) fun h6 T6 hR6 st6=>hQ h6 T6 (by rw [hS];exact hR6) (st5 st6)
     have a6:=Yf a5 e6
     have c6:=Yf c5 e6
     simp (maxDischargeDepth:=60) only [Zs,Zr,evC,reduceAdd,reduceLT,reduceLeDiff,reduceEqDiff,reduceMul,reduceCtorEq,a6,c6]
     exact ⟨hv,hm⟩
   cases hc:S.counts f1 with
   | none =>
     refine ZJ ?_
     simp (maxDischargeDepth:=60) only [Zs,Zr,evC,reduceAdd,reduceLT,reduceLeDiff,reduceEqDiff,reduceMul,reduceCtorEq,c5,a5]
     exact put (S.nc+1) (by rw [hc];rfl) (ZgT hc)
   | some c =>
     refine Zl ?_
     have hkc:=hbc c hc
     simp (maxDischargeDepth:=60) only [Zs,Zr,evC,reduceAdd,reduceLT,reduceLeDiff,reduceEqDiff,reduceMul,reduceCtorEq,c5,a5,hkc]
     refine ⟨fun q=>?_,fun q=>?_⟩
     ·have q1:c.kind≠f3:=by simpa using q
      have:=Zog (S:=S) (f:=(f1,f2,f3,f4,())) hc q1
      exact put S.nc (by rw [hc];rfl) this
     ·have q1:¬ c.kind≠f3:=by simpa using q
      have:=Zoh (S:=S) (f:=(f1,f2,f3,f4,())) hc q1
      exact hQ h5 T (by rw [this];exact hR5) (st5 (Stp.refl _ _))
  ·intro Q2 hQ2
   have lc4:=ZT c4
   have la4:=ZT a4
   simp (maxDischargeDepth:=60) only [Zs,Zr,evC,reduceAdd,reduceLT,reduceLeDiff,reduceEqDiff,reduceMul,reduceCtorEq,c4,a4,YG lc4,YG la4]
   refine ⟨?_,?_⟩
   ·refine hR4.counts.get f1 (fun hn=>?_) fun c v hc9 hv=>?_
    ·refine ⟨(.nilIface,0,()),rfl,?_⟩
     simp (maxDischargeDepth:=60) only [Zs,Zr,evC,reduceAdd,reduceLT,reduceLeDiff,reduceEqDiff,reduceMul,reduceCtorEq]
     exact hQ2 _ _ ⟨_,by rw [hn];rfl,Z3 (ZO (Ext.refl _)) (Nat.le_refl _),fun c hc9=>by rw [hn] at hc9;cases hc9⟩
    ·refine ⟨(v,c.kind,()),rfl,?_⟩
     simp (maxDischargeDepth:=60) only [Zs,Zr,evC,reduceAdd,reduceLT,reduceLeDiff,reduceEqDiff,reduceMul,reduceCtorEq,hv.one]
     refine hQ2 _ _ ⟨_,by rw [hc9];rfl,Z3 (ZO (Ext.refl _)) (Nat.le_refl _),fun c' hc'=>?_⟩
     rw [hc9] at hc'
     cases hc'
     simp (maxDischargeDepth:=60) only [Zs,Zr,evC,reduceAdd,reduceLT,reduceLeDiff,reduceEqDiff,reduceMul,reduceCtorEq]
   ·have hR5:=hR4.ext (Ext.push h4 (.cells [Value.nilIface,iv 0].toArray 142 (0,0)))
    refine hR5.counts.get f1 (fun hn=>?_) fun c v hc9 hv=>?_
    ·refine ⟨(.nilIface,0,()),rfl,?_⟩
     simp (maxDischargeDepth:=60) only [Zs,Zr,evC,reduceAdd,reduceLT,reduceLeDiff,reduceEqDiff,reduceMul,reduceCtorEq]
     exact hQ2 _ _ ⟨_,by rw [hn];rfl,Z3 (ZO (Ext.refl _)) (Nat.le_refl _),fun c hc9=>by rw [hn] at hc9;cases hc9⟩
    ·refine ⟨(v,c.kind,()),rfl,?_⟩
     simp (maxDischargeDepth:=60) only [Zs,Zr,evC,reduceAdd,reduceLT,reduceLeDiff,reduceEqDiff,reduceMul,reduceCtorEq,hv.one]
     refine hQ2 _ _ ⟨_,by rw [hc9];rfl,Z3 (ZO (Ext.refl _)) (Nat.le_refl _),fun c' hc'=>?_⟩
     rw [hc9] at hc'
     cases hc'
     simp (maxDischargeDepth:=60) only [Zs,Zr,evC,reduceAdd,reduceLT,reduceLeDiff,reduceEqDiff,reduceMul,reduceCtorEq]
end Go.Proofs.YtbppjmcinoffnaaGreat.Tk
