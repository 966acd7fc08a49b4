/- The token server: a request's answer. -/
import Derived.Test.YtbppjmcinoffnaaGreatPa13
set_option linter.unusedVariables false
set_option linter.unusedSimpArgs false
namespace Go.Proofs.YtbppjmcinoffnaaGreat.Tk
open Go Go.Fw
open Nat renaming reduceAdd→Nqa,reduceLT→Nqb,reduceLeDiff→Nqc,reduceEqDiff→Nqd,reduceMul→Nqe
structure Srv.OK (S:Srv):Prop where
  out:S.out.length≤4096
  cnt:∀ x,x∈S.spaces→∀ f,f∈x.2→∃ c,S.counts f.1=some c∧c.kind=f.2.2.1
theorem Zuk {l:List (ByteArray × List F4)} {ns:ByteArray} {id:Int} {f:F4} (h:ZfI l ns id=some f):∃ x,x∈l∧f∈x.2∧ZlN ns id x.1 f=true:=by
  unfold ZfI at h
  have:=List.mem_of_mem_head? (Option.mem_def.2 h)
  obtain ⟨x,hx,hf⟩:=List.mem_flatMap.1 this
  rw [List.mem_filter] at hf
  exact ⟨x,hx,hf.1,hf.2⟩
def Zue (S:Srv) (name:ByteArray):Bool:=S.spaces.any fun x=>ZaF x.1 name
theorem Zvv {ls:List Sp3} {l:List (ByteArray × List F4)} (hl:ls.map (fun x=>(x.1,x.2.2))=l) (name:ByteArray):decide (ixV (fun x=>ZaF x.1 name) ls≥0)=l.any fun x=>ZaF x.1 name:=by
  have e:(l.any fun x=>ZaF x.1 name)=ls.any fun x=>ZaF x.1 name:=by rw [← hl,List.any_map];rfl
  rw [e]
  cases hf:ls.findIdx? (fun x=>ZaF x.1 name) with
  | none =>
    rw [Zfw hf]
    have:(ls.any fun x=>ZaF x.1 name)=false:=by
      rw [List.any_eq_false]
      intro x hx
      rw [List.findIdx?_eq_none_iff.1 hf x hx]
      decide
    rw [this]
    rfl
  | some i =>
    rw [Zgu hf]
    obtain ⟨hil,hp,_⟩:=List.findIdx?_eq_some_iff_getElem.1 hf
    have:(ls.any fun x=>ZaF x.1 name)=true:=List.any_eq_true.2 ⟨_,List.getElem_mem hil,hp⟩
    rw [this]
    simp
def Srv.conn (S:Srv) (k:Int) (t:ByteArray):Srv:={ S with conns:=fun i=>if i=k then some t else S.conns i }
def Zkk (S:Srv) (at_:Int) (f:F4):Bool:=decide (at_<IntKind.wrap .i64 (S.begun+Zqf 1000000 f.2.2.2.1))
def stA (n:Int):An:=(0,n,0,0,0,())
def Znq (S:Srv) (at_:Int) (ns:ByteArray) (r:Rq):An × Srv:=match ZfI S.spaces ns r.2.2.1 with
  | none=>(stA 4,S)
  | some f=>if f.2.2.1≠r.2.1 then (stA 4,S) else if Zkk S at_ f then (stA 7,S) else Zjq S at_ f r
def ZlH (S:Srv) (at_ conn:Int) (ns:ByteArray) (r:Rq):An × Srv :=
  if XA r=false then (stA 5,S)
  else if r.2.1=5 then (if Zue S r.2.2.2.2.1 then (stA 1,S.conn conn r.2.2.2.2.1) else (stA 4,S.conn conn (ByteArray.mk #[])))
  else if ZaF ns (ByteArray.mk #[]) then (stA 4,S)
  else if r.2.1=4 then (stA (ZgY S at_ ns r.2.2.2.2.2.1).1,{ S with out:=(ZgY S at_ ns r.2.2.2.2.2.1).2 })
  else Znq S at_ ns r
theorem Zpf {S:Srv} {at_:Int} {ns:ByteArray} {r:Rq} (h:ZfI S.spaces ns r.2.2.1=none):Znq S at_ ns r=(stA 4,S):=by unfold Znq;rw [h]
theorem Zpe {S:Srv} {at_:Int} {ns:ByteArray} {r:Rq} {f:F4} (h:ZfI S.spaces ns r.2.2.1=some f):Znq S at_ ns r=if f.2.2.1≠r.2.1 then (stA 4,S) else if Zkk S at_ f then (stA 7,S) else Zjq S at_ f r:=by unfold Znq;rw [h]
theorem ZdE.connR {h h':Zb} {T:Nat→Option Nat} {sb cb nb:Nat} {sp so:Sl} {ls:List Sp3} {S:Srv} (hR:ZdE h T sb cb nb sp so ls S) {conn:Int} {ns t:ByteArray} (hc:S.conns conn=some ns) (hu:Upd (· = nb) h h')
    (hm:Ze4 h' nb (upd (fun i=>(S.conns i).map .string) conn (some (.string t))) S.nn):ZdE h' T sb cb nb sp so ls (S.conn conn t):=by
  have e:upd (fun i=>(S.conns i).map Value.string) conn (some (.string t))=fun i=>(if i=conn then some t else S.conns i).map .string:=by
    funext i
    unfold upd
    split<;>rfl
  rw [e] at hm
  exact hR.setN hu hm
theorem Zog {h:Zb} {T:Nat→Option Nat} {sb cb nb:Nat} {sp so:Sl} {ls:List Sp3} {S:Srv} (hR:ZdE h T sb cb nb sp so ls S) (hok:S.OK) {at_ conn:Int} {ns:ByteArray} (hc:S.conns conn=some ns) {r:Rq} (hs:r.2.2.2.2.1.size<9223372036854775808) {K:An→Zb→Prop}
    (hk:∀ h' T' so',ZdE h' T' sb cb nb sp so' ls (ZlH S at_ conn ns r).2→Stp T T' h h'→K (ZlH S at_ conn ns r).1 h'):XU (some ⟨sb,0,none⟩) at_ conn r K h:=by
  unfold XU ZbX
  have l0:=ZS hR.cells
  obtain ⟨r1,r2,r3,r4,r5,r6,_⟩:=r
  dsimp only at hs
  have e1:Ext h ((h.push (.cells [iv r1,.int .u8 r2,iv r3,iv r4,.string r5,iv r6].toArray 39 (0,0))).push (.cells [iv 0,.int .u8 0,iv 0,iv 0,iv 0].toArray 57 (0,0))):=ZO (ZO (Ext.refl _))
  simp (maxDischargeDepth:=60) only [Zs,Zr,evC,Nqa,Nqb,Nqc,Nqd,Nqe,reduceCtorEq,hR.cells,YH l0,ZgT l0]
  have b1:obj ((h.push (.cells [iv r1,.int .u8 r2,iv r3,iv r4,.string r5,iv r6].toArray 39 (0,0))).push (.cells [iv 0,.int .u8 0,iv 0,iv 0,iv 0].toArray 57 (0,0))) (sz h)=some (.cells [iv r1,.int .u8 r2,iv r3,iv r4,.string r5,iv r6].toArray 39 (0,0)):=by simp (maxDischargeDepth:=60) only [Zs,Zr,evC,Nqa,Nqb,Nqc,Nqd,Nqe,reduceCtorEq]
  have d1:obj ((h.push (.cells [iv r1,.int .u8 r2,iv r3,iv r4,.string r5,iv r6].toArray 39 (0,0))).push (.cells [iv 0,.int .u8 0,iv 0,iv 0,iv 0].toArray 57 (0,0))) (sz h+1)=some (.cells [iv 0,.int .u8 0,iv 0,iv 0,iv 0].toArray 57 (0,0)):=by simp (maxDischargeDepth:=60) only [Zs,Zr,evC,Nqa,Nqb,Nqc,Nqd,Nqe,reduceCtorEq]
  have z1:sz ((h.push (.cells [iv r1,.int .u8 r2,iv r3,iv r4,.string r5,iv r6].toArray 39 (0,0))).push (.cells [iv 0,.int .u8 0,iv 0,iv 0,iv 0].toArray 57 (0,0)))=sz h+2:=by simp only [XB]
  generalize (h.push (.cells [iv r1,.int .u8 r2,iv r3,iv r4,.string r5,iv r6].toArray 39 (0,0))).push (.cells [iv 0,.int .u8 0,iv 0,iv 0,iv 0].toArray 57 (0,0))=h1 at e1 b1 d1 z1 ⊢
  have hR1:=hR.ext e1
  refine hR1.conns.get conn ?_
  rw [hc]
  refine ⟨ns,rfl,?_⟩
  refine Zfl (r:=(r1,r2,r3,r4,r5,r6,())) hs fun h2 e2=>?_
  have hR2:=hR1.ext e2
  have b2:=Yh b1 e2
  have d2:=Yh d1 e2
  have e12:=e1.trans e2
  have z2:=X6 e2
  have sbh:=ZS hR.cells
  have hTn:∀ k,sz h≤k→T k=none:=fun k hk=>by
    cases hT:T k with
    | none=>rfl
    | some t =>
      have:=hR.lt k (by rw [hT];exact fun e=>by cases e)
      omega
  have fin:∀ (h9:Zb) (T9:Nat→Option Nat) (so9:Sl) (S9:Srv) (a:An) (vs:List Value),ZdE h9 T9 sb cb nb sp so9 ls S9→Upd (fun k=>T k≠none) h h9→((∀ k,T9 k≠none→T k≠none∨sz h≤k)∧T9 (sz h+1)=none) →
      (∀ h' T' so',ZdE h' T' sb cb nb sp so' ls S9→Stp T T' h h'→K a h')→K a (h9.puts (sz h+1) 0 vs):=fun h9 T9 so9 S9 a vs hR9 u9 ⟨t9,n9⟩ hk9=>by
    refine hk9 _ T9 so9 (hR9.congr (by rw [Zdi];exact Nat.le_refl _) fun k hk=>Zce fun e=>?_) ⟨Zcc u9 (.inl (by omega)),fun k hk=>(t9 k hk).imp id fun h=>h⟩
    subst e
    exact hk n9
  have fin0:∀ (h9:Zb) (a:An) (vs:List Value),Ext h h9→(∀ h' T' so',ZdE h' T' sb cb nb sp so' ls S→Stp T T' h h'→K a h')→K a (h9.puts (sz h+1) 0 vs):=fun h9 a vs e9 hk9 =>
    fin h9 T so S a vs (hR.ext e9) (e9.upd _) ⟨fun k hk=> .inl hk,hTn _ (by omega)⟩ hk9
  cases hrb:XA (r1,r2,r3,r4,r5,r6,()) with
  | false =>
    have gv:ZlH S at_ conn ns (r1,r2,r3,r4,r5,r6,())=(stA 5,S):=by unfold ZlH;rw [if_pos hrb]
    rw [gv] at hk
    simp (maxDischargeDepth:=60) only [Zs,Zr,evC,Nqa,Nqb,Nqc,Nqd,Nqe,reduceCtorEq,d2]
    exact fin0 h2 _ _ e12 hk
  | true =>
  have rw_:=ZhQ hrb
  have rr:=Zi3 hrb
  dsimp only at rw_ rr
  simp (maxDischargeDepth:=60) only [Zs,Zr,evC,Nqa,Nqb,Nqc,Nqd,Nqe,reduceCtorEq,b2]
  have nT3:∀ k,T k=some 3→k≠sz h+1:=fun k hk e=>by subst e;rw [hTn _ (by omega)] at hk;cases hk
  refine ZoW (fun s h29=>s=(decide (r2=5∧Zue S r5=true),())∧Ext h2 h29) ?_ ?_
  ·rintro _ h3 ⟨rfl,e3⟩
   dsimp only
   have b3:=Yh b2 e3
   have d3:=Yh d2 e3
   have hR3:=hR2.ext e3
   have e13:=e12.trans e3
   have z3:=X6 e3
   have ln:=hR3.conns.lt
   have tn3:T nb≠none:=by rw [hR.tnb];exact fun e=>by cases e
   have c3:=hR3.cells
   have connPut:∀ t,X9 (.int .i64) h3 (some nb) (iv conn) (.string t)=X9 (.int .i64) h3 (some nb) (iv conn) (.string t):=fun _=>rfl
   refine Zj (fun q=>?_) fun q=>?_
   ·have gv:ZlH S at_ conn ns (r1,r2,r3,r4,r5,r6,())=(stA 1,S.conn conn r5):=by
      unfold ZlH;rw [if_neg (by rw [hrb];decide),if_pos q.1,if_pos q.2]
    rw [gv] at hk
    simp (maxDischargeDepth:=60) only [Zs,Zr,evC,Nqa,Nqb,Nqc,Nqd,Nqe,reduceCtorEq,c3,b3]
    refine hR3.conns.put conn (.string r5) fun h4 hm4 u4 z4=>?_
    rw [hc] at hm4
    have hR4:=hR3.connR hc u4 hm4
    have d4:=XM d3 u4 (nT3 _ hR.tnb).symm
    simp (maxDischargeDepth:=60) only [Zs,Zr,evC,Nqa,Nqb,Nqc,Nqd,Nqe,reduceCtorEq,d4]
    exact fin h4 T so _ _ _ hR4 ((e13.upd _).trans (u4.mono fun k _ hk=>by subst hk;exact tn3)) ⟨fun k hk=> .inl hk,hTn _ (by omega)⟩ hk
   simp (maxDischargeDepth:=60) only [Zs,Zr,evC,Nqa,Nqb,Nqc,Nqd,Nqe,reduceCtorEq,c3,b3]
   refine ⟨fun q1=>?_,fun q1=>?_⟩
   ·have q2:r2=5:=by simpa using q1
    have gv:ZlH S at_ conn ns (r1,r2,r3,r4,r5,r6,())=(stA 4,S.conn conn (ByteArray.mk #[])):=by
      unfold ZlH;rw [if_neg (by rw [hrb];decide),if_pos q2,if_neg (fun e=>q ⟨q2,e⟩)]
    rw [gv] at hk
    refine hR3.conns.put conn (.string (ByteArray.mk #[])) fun h4 hm4 u4 z4=>?_
    rw [hc] at hm4
    have hR4:=hR3.connR hc u4 hm4
    have d4:=XM d3 u4 (nT3 _ hR.tnb).symm
    simp (maxDischargeDepth:=60) only [Zs,Zr,evC,Nqa,Nqb,Nqc,Nqd,Nqe,reduceCtorEq,d4]
    exact fin h4 T so _ _ _ hR4 ((e13.upd _).trans (u4.mono fun k _ hk=>by subst hk;exact tn3)) ⟨fun k hk=> .inl hk,hTn _ (by omega)⟩ hk
   have q2:¬ r2=5:=by simpa using q1
   have gv5:ZlH S at_ conn ns (r1,r2,r3,r4,r5,r6,())=if ZaF ns (ByteArray.mk #[]) then (stA 4,S)
       else if r2=4 then (stA (ZgY S at_ ns r6).1,{ S with out:=(ZgY S at_ ns r6).2 }) else Znq S at_ ns (r1,r2,r3,r4,r5,r6,()):=by
     unfold ZlH;rw [if_neg (by rw [hrb];decide),if_neg q2]
   rw [gv5] at hk
   clear gv5
   refine ⟨fun q3=>?_,fun q3=>?_⟩
   ·rw [if_pos q3] at hk
    simp (maxDischargeDepth:=60) only [Zs,Zr,evC,Nqa,Nqb,Nqc,Nqd,Nqe,reduceCtorEq,d3]
    exact fin0 h3 _ _ e13 hk
   rw [if_neg (by rw [q3];decide)] at hk
   refine ⟨fun q4=>?_,fun q4=>?_⟩
   ·have q5:r2=4:=by simpa using q4
    rw [if_pos q5] at hk
    refine Zsk hR3 hok.out fun h4 T4 so4 hR4 st4=>?_
    have u4:Upd (fun k=>T k≠none) h h4:=(e13.upd _).trans st4.upd
    have d4:=XM d3 st4.upd (fun e=>e (hTn _ (by omega)))
    simp (maxDischargeDepth:=60) only [Zs,Zr,evC,Nqa,Nqb,Nqc,Nqd,Nqe,reduceCtorEq,d4]
    refine fin h4 T4 so4 _ _ _ hR4 u4 ⟨fun k hk=>(st4.new k hk).imp id fun h9=>Nat.le_trans (X6 e13) h9,?_⟩ hk
    cases h9:T4 (sz h+1) with
    | none=>rfl
    | some t =>
      rcases st4.new (sz h+1) (by rw [h9];exact fun e=>by cases e) with h8 | h8
      ·exact (h8 (hTn _ (by omega))).elim
      ·rw [ZE] at h8;omega
   have q5:¬ r2=4:=by simpa using q4
   rw [if_neg q5] at hk
   refine ZmJ hR3.cells hR3.spaces hR3.names fun h4 e4=>?_
   have d4:=Yh d3 e4
   have b4:=Yh b3 e4
   have e14:=e13.trans e4
   have ld4:=ZS d4
   have lb4:=ZS b4
   have hw:IntKind.wrap .i64 r2=r2:=ZR (by omega) (by omega)
   cases hfl:ZfI S.spaces ns r3 with
   | none =>
     rw [Zpf hfl] at hk
     simp (maxDischargeDepth:=60) only [Zs,Zr,evC,Nqa,Nqb,Nqc,Nqd,Nqe,reduceCtorEq,b4,d4,ZgT lb4,YH lb4,ZgT ld4,YH ld4]
     exact fin0 _ _ _ (Z3 (ZO e14) (by have:=X6 e14;omega)) hk
   | some f =>
     rw [Zpe hfl] at hk
     obtain ⟨x,hx,hfx,_⟩:=Zuk hfl
     obtain ⟨c,hcc,_⟩:=hok.cnt x hx f hfx
     obtain ⟨f1,f2,f3,f4,_⟩:=f
     have z4:=X6 e14
     have e45:Ext h4 (Zb.puts (h4.push (.cells [iv 0,iv 0,iv 0,iv 0].toArray 46 (0,0))) (sz h4) 0 [iv f1,iv f2,iv f3,iv f4]):=Z3 (ZO (Ext.refl _)) (Nat.le_refl _)
     have f5:obj (Zb.puts (h4.push (.cells [iv 0,iv 0,iv 0,iv 0].toArray 46 (0,0))) (sz h4) 0 [iv f1,iv f2,iv f3,iv f4]) (sz h4)=some (.cells [iv f1,iv f2,iv f3,iv f4].toArray 46 (0,0)):=by simp (maxDischargeDepth:=60) only [Zs,Zr,evC,Nqa,Nqb,Nqc,Nqd,Nqe,reduceCtorEq]
     simp (maxDischargeDepth:=60) only [Zs,Zr,evC,Nqa,Nqb,Nqc,Nqd,Nqe,reduceCtorEq,b4,d4,ZgT lb4,YH lb4,ZgT ld4,YH ld4,hw]
     generalize Zb.puts (h4.push (.cells [iv 0,iv 0,iv 0,iv 0].toArray 46 (0,0))) (sz h4) 0 [iv f1,iv f2,iv f3,iv f4]=h5 at e45 f5 ⊢
     have d5:=Yh d4 e45
     have b5:=Yh b4 e45
     have e15:=e14.trans e45
     have hR5:=(hR3.ext e4).ext e45
     refine ⟨fun q6=>?_,fun q6=>?_⟩
     ·have q7:f3≠r2:=by simpa using q6
      rw [if_pos q7] at hk
      exact fin0 _ _ _ e15 hk
     have q7:¬ f3≠r2:=by simpa using q6
     rw [if_neg q7] at hk
     refine ZpF hR5.cells (f:=(f1,f2,f3,f4,())) fun h6 e6=>?_
     have d6:=Yh d5 e6
     have b6:=Yh b5 e6
     have f6:=Yh f5 e6
     have e16:=e15.trans e6
     refine ⟨fun q8=>?_,fun q8=>?_⟩
     ·rw [if_pos (by exact q8)] at hk
      simp (maxDischargeDepth:=60) only [Zs,Zr,evC,Nqa,Nqb,Nqc,Nqd,Nqe,reduceCtorEq,d6]
      exact fin0 _ _ _ e16 hk
     rw [if_neg (by unfold Zkk;dsimp only;rw [q8];decide)] at hk
     simp (maxDischargeDepth:=60) only [Zs,Zr,evC,Nqa,Nqb,Nqc,Nqd,Nqe,reduceCtorEq,b6,f6]
     refine ZpU (hR5.ext e6) hok.out (f:=(f1,f2,f3,f4,())) (r:=(r1,r2,r3,r4,r5,r6,())) (fun _=>⟨c,hcc⟩) rr.2.2.1 hs fun h7 T7 so7 hR7 st7=>?_
     have d7:=XM d6 st7.upd (fun e=>e (hTn _ (by omega)))
     have u7:Upd (fun k=>T k≠none) h h7:=(e16.upd _).trans st7.upd
     simp (maxDischargeDepth:=60) only [Zs,Zr,evC,Nqa,Nqb,Nqc,Nqd,Nqe,reduceCtorEq,d7]
     refine fin h7 T7 so7 _ _ _ hR7 u7 ⟨fun k hk=>(st7.new k hk).imp id fun h9=>Nat.le_trans (X6 e16) h9,?_⟩ hk
     cases h9:T7 (sz h+1) with
     | none=>rfl
     | some t =>
       rcases st7.new (sz h+1) (by rw [h9];exact fun e=>by cases e) with h8 | h8
       ·exact (h8 (hTn _ (by omega))).elim
       ·have:=X6 e6
        have:=X6 e45
        have:=X6 e4
        rw [ZE] at h8
        omega
  ·intro Q hQ
   refine ⟨fun q=>?_,fun q=>?_⟩
   ·have q2:r2=5:=by simpa using q
    refine ZhK hR2.cells hR2.spaces.own.row fun h3 e3=>?_
    rw [Zvv hR.names]
    refine hQ _ _ ⟨?_,e3⟩
    simp only [q2,true_and]
    unfold Zue
    cases (S.spaces.any fun x=>ZaF x.1 r5)<;>rfl
   ·have q2:¬ r2=5:=by simpa using q
    refine hQ _ _ ⟨?_,Ext.refl _⟩
    simp [q2]
def Zln (at_:Int):Srv:=⟨at_,at_,[],fun _=>none,0,fun _=>none,0,[],1⟩
def isT (at_:Int):Prop:=0≤at_∧at_≤1152921504606846976
theorem ZsY {h:Zb} {at_:Int} {K:Option Addr→Int→Zb→Prop} (h1:¬ isT at_→K none 2 h)
    (h2:isT at_→∀ h' T sb,Server h' T sb (Zln at_)→Ext h h'→(∀ k,T k≠none→sz h≤k)→K (some ⟨sb,0,none⟩) 0 h'):Zet at_ K h:=by
  unfold Zet Zg0
  rw [Y9,ZmD]
  rcases Classical.em (isT at_) with ht | ht
  ·have e:decide (0≤at_∧at_≤1152921504606846976)=true:=decide_eq_true ht
   rw [e]
   refine Zl ?_
   refine Ze4.new fun ha ma ea za=>Ze4.new fun hb mb eb zb=>?_
   simp only [ZE] at ma mb za zb ea eb ⊢
   rw [ZdM,Y9]
   have ec:Ext hb (hb.push (.cells [iv at_,iv at_,Value.slice none 0 0,.map (some (sz h)),.map (some (sz ha)),Value.slice none 0 0,iv 1].toArray 118 (0,0))):=Ext.push _ _
   refine h2 ht _ (fun k=>if k=sz hb then some 0 else if k=sz h then some 2 else if k=sz ha then some 3 else none) (sz hb) ⟨sz h,sz ha,⟨none,0,0⟩,⟨none,0,0⟩,[],?_⟩ ((ea.trans eb).trans ec) fun k hk=>?_
   ·refine ⟨by simp (maxDischargeDepth:=60) only [Zs,Zr,evC,Nqa,Nqb,Nqc,Nqd,Nqe,reduceCtorEq];rfl,⟨Own.nil _ _ _,fun k hk=>(by cases hk),fun x hx=>by cases hx⟩,rfl,⟨_,(ma.congr ((ec.old _ (by rw [ZE];omega)).trans (eb.old _ (by rw [ZE];omega)))),fun _ _=>rfl,fun _ _ hc=>by cases hc⟩,mb.congr (ec.old _ (by rw [ZE];omega)),Own.nil _ _ _,if_pos rfl,?_,?_,fun k hk=>(by cases hk),fun k hk=>?_⟩
    ·rw [if_neg (by omega),if_pos rfl]
    ·rw [if_neg (by omega),if_neg (by omega),if_pos rfl]
    ·simp only [XB]
     split at hk
     ·omega
     ·split at hk
      ·omega
      ·split at hk
       ·omega
       ·exact (hk rfl).elim
   ·split at hk
    ·omega
    ·split at hk
     ·omega
     ·split at hk
      ·omega
      ·exact (hk rfl).elim
  ·have e:decide (0≤at_∧at_≤1152921504606846976)=false:=decide_eq_false ht
   rw [e]
   exact ZF (h1 ht)
def Zf6 (S:Srv) (conn:Int):Int:=if conn<1 then 2 else if conn>2147483647 then 2 else if (S.conns conn).isSome then 11 else if S.nn≥64 then 3 else 0
def Srv.opened (S:Srv) (conn:Int):Srv:=if Zf6 S conn=0 then { S with conns:=fun i=>if i=conn then some (ByteArray.mk #[]) else S.conns i,nn:=S.nn+1 } else S
theorem Zs3 {h:Zb} {T:Nat→Option Nat} {sb:Nat} {S:Srv} (hS:Server h T sb S) {conn:Int} {K:Int→Zb→Prop}
    (hk:∀ h',Server h' T sb (S.opened conn)→Stp T T h h'→K (Zf6 S conn) h'):Zax (some ⟨sb,0,none⟩) conn K h:=by
  obtain ⟨cb,nb,sp,so,ls,hR⟩:=hS
  unfold Zax Zc5
  have same:Zf6 S conn≠0→K (Zf6 S conn) h:=fun hne=>by
    have:=hk h
    rw [Srv.opened,if_neg hne] at this
    exact this ⟨cb,nb,sp,so,ls,hR⟩ (Stp.refl _ _)
  simp (maxDischargeDepth:=60) only [Zs,Zr,evC,Nqa,Nqb,Nqc,Nqd,Nqe,reduceCtorEq,hR.cells]
  refine Zj (fun q1=>?_) fun q1=>Zj (fun q2=>?_) fun q2=>?_
  ·have:Zf6 S conn=2:=by unfold Zf6;rw [if_pos q1]
   rw [← this];exact same (by rw [this];decide)
  ·have:Zf6 S conn=2:=by unfold Zf6;rw [if_neg q1,if_pos q2]
   rw [← this];exact same (by rw [this];decide)
  refine hR.conns.get conn ?_
  cases hc:S.conns conn with
  | some t =>
    refine ⟨t,rfl,ZF ?_⟩
    have:Zf6 S conn=11:=by unfold Zf6;rw [if_neg q1,if_neg q2,if_pos (by rw [hc];rfl)]
    rw [← this];exact same (by rw [this];decide)
  | none =>
    refine ⟨ByteArray.mk #[],rfl,Zl ?_⟩
    refine hR.conns.len ?_
    refine Zj (fun q3=>?_) fun q3=>?_
    ·have:Zf6 S conn=3:=by unfold Zf6;rw [if_neg q1,if_neg q2,if_neg (by rw [hc];decide),if_pos (by omega)]
     rw [← this];exact same (by rw [this];decide)
    ·have he:Zf6 S conn=0:=by unfold Zf6;rw [if_neg q1,if_neg q2,if_neg (by rw [hc];decide),if_neg (by omega)]
     rw [he,Srv.opened,if_pos he] at hk
     refine hR.conns.put conn (.string (ByteArray.mk #[])) fun h4 hm4 u4 z4=>?_
     refine hk h4 ⟨cb,nb,sp,so,ls,hR.setN u4 ?_⟩ ⟨u4.mono fun k _ hk=>(by subst hk;rw [hR.tnb];exact fun e=>by cases e),fun k hk=> .inl hk⟩
     rw [hc] at hm4
     have e:upd (fun i=>(S.conns i).map Value.string) conn (some (.string (ByteArray.mk #[])))=fun i=>(if i=conn then some (ByteArray.mk #[]) else S.conns i).map .string:=by
       funext i
       unfold upd
       split<;>rfl
     rw [e] at hm4
     exact hm4
def zA0:An:=(0,0,0,0,0,())
def doV (S:Srv) (at_ conn:Int) (r:Rq):(An × Int) × Srv :=
  if Zbm S.last at_≠0 then ((zA0,Zbm S.last at_),S) else match S.conns conn with
    | none=>((zA0,4),S)
    | some ns=>(((r.1,(ZlH { S with last:=at_ } at_ conn ns r).1.2),0),(ZlH { S with last:=at_ } at_ conn ns r).2)
theorem ZoV {S:Srv} {at_ conn:Int} {r:Rq} (h:Zbm S.last at_≠0):doV S at_ conn r=((zA0,Zbm S.last at_),S):=if_pos h
theorem ZoU {S:Srv} {at_ conn:Int} {r:Rq} (h:¬ Zbm S.last at_≠0) (hc:S.conns conn=none):doV S at_ conn r=((zA0,4),S):=by unfold doV;rw [if_neg h,hc]
theorem ZoT {S:Srv} {at_ conn:Int} {r:Rq} {ns:ByteArray} (h:¬ Zbm S.last at_≠0) (hc:S.conns conn=some ns) {a:An × Srv} (ha:ZlH { S with last:=at_ } at_ conn ns r=a):doV S at_ conn r=(((r.1,a.1.2),0),a.2):=by subst ha;unfold doV;rw [if_neg h,hc]
theorem Zs9 {h:Zb} {T:Nat→Option Nat} {sb:Nat} {S:Srv} (hS:Server h T sb S) (hok:S.OK) {at_ conn:Int} {r:Rq} (hs:r.2.2.2.2.1.size<9223372036854775808) {K:An→Int→Zb→Prop}
    (hk:∀ h' T',Server h' T' sb (doV S at_ conn r).2→Stp T T' h h'→K (doV S at_ conn r).1.1 (doV S at_ conn r).1.2 h'):Za7 (some ⟨sb,0,none⟩) at_ conn r K h:=by
  obtain ⟨cb,nb,sp,so,ls,hR⟩:=hS
  unfold Za7 ZdP
  obtain ⟨r1,r2,r3,r4,r5,r6,_⟩:=r
  dsimp only at hs
  have e1:Ext h ((h.push (.cells [iv r1,.int .u8 r2,iv r3,iv r4,.string r5,iv r6].toArray 39 (0,0))).push (.cells [iv 0,.int .u8 0,iv 0,iv 0,iv 0].toArray 57 (0,0))):=ZO (ZO (Ext.refl _))
  have b1:obj ((h.push (.cells [iv r1,.int .u8 r2,iv r3,iv r4,.string r5,iv r6].toArray 39 (0,0))).push (.cells [iv 0,.int .u8 0,iv 0,iv 0,iv 0].toArray 57 (0,0))) (sz h)=some (.cells [iv r1,.int .u8 r2,iv r3,iv r4,.string r5,iv r6].toArray 39 (0,0)):=by simp (maxDischargeDepth:=60) only [Zs,Zr,evC,Nqa,Nqb,Nqc,Nqd,Nqe,reduceCtorEq]
  have d1:obj ((h.push (.cells [iv r1,.int .u8 r2,iv r3,iv r4,.string r5,iv r6].toArray 39 (0,0))).push (.cells [iv 0,.int .u8 0,iv 0,iv 0,iv 0].toArray 57 (0,0))) (sz h+1)=some (.cells [iv 0,.int .u8 0,iv 0,iv 0,iv 0].toArray 57 (0,0)):=by simp (maxDischargeDepth:=60) only [Zs,Zr,evC,Nqa,Nqb,Nqc,Nqd,Nqe,reduceCtorEq]
  have z1:sz ((h.push (.cells [iv r1,.int .u8 r2,iv r3,iv r4,.string r5,iv r6].toArray 39 (0,0))).push (.cells [iv 0,.int .u8 0,iv 0,iv 0,iv 0].toArray 57 (0,0)))=sz h+2:=by simp only [XB]
  simp (maxDischargeDepth:=60) only [Zs,Zr,evC,Nqa,Nqb,Nqc,Nqd,Nqe,reduceCtorEq]
  generalize (h.push (.cells [iv r1,.int .u8 r2,iv r3,iv r4,.string r5,iv r6].toArray 39 (0,0))).push (.cells [iv 0,.int .u8 0,iv 0,iv 0,iv 0].toArray 57 (0,0))=h1 at e1 b1 d1 z1 ⊢
  have hR1:=hR.ext e1
  have hTn:∀ k,sz h≤k→T k=none:=fun k hk=>by
    cases hT:T k with
    | none=>rfl
    | some t =>
      have:=hR.lt k (by rw [hT];exact fun e=>by cases e)
      omega
  have sbh:=ZS hR.cells
  have c1:=hR1.cells
  rw [Zr4 c1]
  have same:∀ h',Ext h h'→(doV S at_ conn (r1,r2,r3,r4,r5,r6,())).2=S→K (doV S at_ conn (r1,r2,r3,r4,r5,r6,())).1.1 (doV S at_ conn (r1,r2,r3,r4,r5,r6,())).1.2 h':=fun h' e eS =>
    hk h' T (by rw [eS];exact ⟨cb,nb,sp,so,ls,hR.ext e⟩) ⟨e.upd _,fun k hk=> .inl hk⟩
  have ee:∀ (vs:List Value),Ext h (Zb.puts h1 (sz h+1) 0 vs):=fun vs=>Z3 e1 (by omega)
  simp (maxDischargeDepth:=60) only [Zs,Zr,evC,Nqa,Nqb,Nqc,Nqd,Nqe,reduceCtorEq,d1,c1]
  refine ⟨fun q=>?_,fun q=>?_⟩
  ·have q1:Zbm S.last at_≠0:=by simpa using q
   have gv:doV S at_ conn (r1,r2,r3,r4,r5,r6,())=((zA0,Zbm S.last at_),S):=ZoV q1
   rw [gv] at same
   exact same _ (ee _) rfl
  have q1:¬ Zbm S.last at_≠0:=by simpa using q
  refine hR1.conns.get conn ?_
  cases hc:S.conns conn with
  | none =>
    have gv:doV S at_ conn (r1,r2,r3,r4,r5,r6,())=((zA0,4),S):=ZoU q1 hc
    rw [gv] at same
    refine ⟨ByteArray.mk #[],rfl,ZF ?_⟩
    exact same _ (ee _) rfl
  | some ns =>
    generalize hans:ZlH { S with last:=at_ } at_ conn ns (r1,r2,r3,r4,r5,r6,())=av at hk
    have gv:=ZoT q1 hc hans
    rw [gv] at hk
    dsimp only at hk
    clear same gv
    refine ⟨ns,rfl,Zl ?_⟩
    have u2:Upd (· = sb) h1 (Zb.put h1 sb 1 (iv at_)):=Upd.put _ _ _ _
    have hR2:=hR1.setB (b:=S.begun) (l:=at_) (n:=S.next) u2 (by simp (maxDischargeDepth:=60) only [Zs,Zr,evC,Nqa,Nqb,Nqc,Nqd,Nqe,reduceCtorEq,c1])
    have b2:=XM b1 u2 (by omega)
    have d2:=XM d1 u2 (by omega)
    have z2:sz (Zb.put h1 sb 1 (iv at_))=sz h1:=Zkd
    have nsb:(sz h=sb)=False:=eq_false (by omega)
    simp (maxDischargeDepth:=60) only [Zs,Zr,evC,Nqa,Nqb,Nqc,Nqd,Nqe,reduceCtorEq,b1,nsb]
    generalize Zb.put h1 sb 1 (iv at_)=h2 at u2 hR2 b2 d2 z2 ⊢
    refine Zog hR2 ⟨hok.out,hok.cnt⟩ (ns:=ns) hc hs fun h3 T3 so3 hR3 st3=>?_
    rw [hans] at hR3 ⊢
    clear hans
    have b3:=XM b2 st3.upd (fun e=>e (hTn _ (by omega)))
    have d3:=XM d2 st3.upd (fun e=>e (hTn _ (by omega)))
    have lb3:=ZS b3
    have ld3:=ZS d3
    have u13:Upd (fun k=>T k≠none) h h3:=((e1.upd _).trans (u2.mono fun k _ hk=>by subst hk;rw [hR.tsb];exact fun e=>by cases e)).trans st3.upd
    have t3n:∀ k,sz h≤k→k<sz h2→T3 k=none:=fun k h8 h9=>by
      cases h7:T3 k with
      | none=>rfl
      | some t =>
        rcases st3.new k (by rw [h7];exact fun e=>by cases e) with h6 | h6
        ·exact (h6 (hTn _ h8)).elim
        ·rw [ZE] at h6;omega
    have t3m:∀ k,sz h3≤k→T3 k=none:=fun k hk=>by
      cases h7:T3 k with
      | none=>rfl
      | some t =>
        have:=hR3.lt k (by rw [h7];exact fun e=>by cases e)
        omega
    simp (maxDischargeDepth:=60) only [Zs,Zr,evC,Nqa,Nqb,Nqc,Nqd,Nqe,reduceCtorEq,b3,d3,YH lb3,YH ld3,Zik lb3,Zik ld3]
    have nd3:(sz h3=sz h+1)=False:=eq_false (by omega)
    refine hk _ T3 ⟨cb,nb,sp,so3,ls,hR3.congr ?_ fun k hk=>?_⟩ ⟨?_,fun k hk=>(st3.new k hk).imp id fun h9=>?_⟩
    ·simp only [Zdi,Zkd,XB];omega
    ·have hk3:k<sz h3:=hR3.lt k hk
     have hkn:k≠sz h+1:=fun e=>by subst e;exact hk (t3n _ (by omega) (by omega))
     rw [Zce hkn,Zdm (by omega),Zce (by omega),Zfs hk3]
    ·refine Zcc (Zrh (Zcc (Zgp u13) (.inl ?_)) (.inl ?_)) (.inl (by omega))
     ·have:=u13.size;rw [ZE,ZE] at this;omega
     ·have:=u13.size;rw [ZE,ZE] at this;omega
    ·have h9':sz h2≤k:=h9
     show sz h≤k
     omega
theorem ZiM {n lo hi:Int} {K:Bool→Zb→Prop} {h:Zb} (hk:K (inB n lo hi) h):ZcL n lo hi K h:=by
  unfold ZcL ZeW
  unfold inB at hk
  refine ⟨fun e=>Zx ?_,fun e=>?_⟩
  ·rw [e] at hk;exact hk
  ·rw [e] at hk;exact hk
theorem ZpE {s:ByteArray} (hs:s.size<9223372036854775808) {K:Bool→Zb→Prop} {h:Zb} (hk:K (Zhk s) h):ZcM s K h:=by
  unfold ZcM ZeX
  refine Yc (fun p h'=>h'=h∧∃ k:Nat,p.1=(k:Int)∧k≤s.size∧(s.data.toList.take k).all ZgF=true) (fun p _=>s.size - p.1.toNat) ⟨rfl,0,rfl,Nat.zero_le _,by simp⟩ ?_
  rintro ⟨i,u⟩ h' ⟨rfl,k,hi,hkl,hall⟩
  dsimp only at hi
  subst hi
  dsimp only
  refine Zj (fun hlt=>Za ?_) (fun hge=>?_)
  ·have hk1:k<s.size:=by omega
   obtain ⟨c,h1,h2⟩:=ZsJ hk1
   have hc8:=c.toNat_lt
   refine ⟨c,by omega,by rw [Int.toNat_natCast];exact h1,ZiM ?_⟩
   rw [ZR (by omega) (by omega)]
   have e:inB (c.toNat:Int) 33 126=ZgF c:=by
     unfold inB ZgF
     congr 1
     ·exact decide_eq_decide.2 (by omega)
     ·exact decide_eq_decide.2 (by omega)
   rw [e]
   refine ⟨fun hb=>?_,fun hb=>?_⟩
   ·have hb':ZgF c=false:=by simpa using hb
    have:Zhk s=false:=by unfold Zhk;rw [ZsU h2 hb',Bool.and_false]
    rw [this] at hk;exact hk
   ·have hb':ZgF c=true:=by simpa using hb
    rw [ZR (n:=(k:Int)+1) (by omega) (by omega)]
    exact ⟨⟨rfl,k+1,by omega,by omega,Zo6 h2 hb' hall⟩,by omega⟩
  ·have hfull:s.data.toList.take k=s.data.toList:=List.take_of_length_le (by
     have:s.data.toList.length=s.size:=by simp
     omega)
   rw [hfull] at hall
   refine ZiM (Zx ?_)
   have:Zhk s=inB (s.size:Int) 1 64:=by
     unfold Zhk inB
     rw [hall,Bool.and_true]
     congr 1
     ·exact decide_eq_decide.2 (by omega)
     ·exact decide_eq_decide.2 (by omega)
   rw [← this]
   exact hk
theorem Zld {n lo hi:Int} {K:Bool→Zb→Prop} {h:Zb} (hk:K (inB n lo hi) h):ZbT n lo hi K h:=by
  unfold ZbT Zev
  unfold inB at hk
  refine ⟨fun e=>Zx ?_,fun e=>?_⟩
  ·rw [e] at hk;exact hk
  ·rw [e] at hk;exact hk
def ZmA (f:F4):Bool:=if f.2.2.1=3 then inB f.2.2.2.1 1000000 3600000000 else f.2.2.2.1 ==0
def Zdl (f:F4):Bool:=inB f.1 1 1099511627776&&(inB f.2.1 0 1099511627776&&(inB f.2.2.1 1 3&&ZmA f))
theorem ZnC {f:F4} {K:Bool→Zb→Prop} {h:Zb} (hk:∀ h',Ext h h'→K (Zdl f) h'):Zdp f K h:=by
  unfold Zdp ZfA
  obtain ⟨f1,f2,f3,f4,_⟩:=f
  have e1:Ext h (h.push (.cells [iv f1,iv f2,iv f3,iv f4].toArray 46 (0,0))):=Ext.push _ _
  have c1:obj (h.push (.cells [iv f1,iv f2,iv f3,iv f4].toArray 46 (0,0))) (sz h)=some (.cells [iv f1,iv f2,iv f3,iv f4].toArray 46 (0,0)):=by simp (maxDischargeDepth:=60) only [Zs,Zr,evC,Nqa,Nqb,Nqc,Nqd,Nqe,reduceCtorEq]
  simp (maxDischargeDepth:=60) only [Zs,Zr,evC,Nqa,Nqb,Nqc,Nqd,Nqe,reduceCtorEq]
  generalize h.push (.cells [iv f1,iv f2,iv f3,iv f4].toArray 46 (0,0))=h1 at e1 c1 ⊢
  have hk1:=hk h1 e1
  refine ZoW (fun s h9=>s=(ZmA (f1,f2,f3,f4,()),())∧h9=h1) ?_ ?_
  ·rintro _ _ ⟨rfl,rfl⟩
   dsimp only
   simp (maxDischargeDepth:=60) only [Zs,Zr,evC,Nqa,Nqb,Nqc,Nqd,Nqe,reduceCtorEq,c1]
   unfold Zdl at hk1
   dsimp only at hk1
   refine Zld ?_
   refine ⟨fun q=>?_,fun q=>?_⟩
   ·rw [q,Bool.true_and] at hk1
    simp (maxDischargeDepth:=60) only [Zs,Zr,evC,Nqa,Nqb,Nqc,Nqd,Nqe,reduceCtorEq,c1]
    refine Zld ?_
    refine ⟨fun q2=>?_,fun q2=>?_⟩
    ·rw [q2,Bool.true_and] at hk1
     unfold inB at hk1
     simp (maxDischargeDepth:=60) only [Zs,Zr,evC,Nqa,Nqb,Nqc,Nqd,Nqe,reduceCtorEq,c1]
     refine ⟨fun q3=>⟨fun q4=>?_,fun q4=>?_⟩,fun q3=>?_⟩
     ·rw [q3,q4,Bool.true_and,Bool.true_and] at hk1;exact hk1
     ·rw [q4,Bool.and_false,Bool.false_and] at hk1;exact hk1
     ·rw [q3,Bool.false_and,Bool.false_and] at hk1;exact hk1
    ·rw [q2,Bool.false_and] at hk1;exact hk1
   ·rw [q,Bool.false_and] at hk1;exact hk1
  ·intro Q hQ
   try simp (maxDischargeDepth:=60) only [Zs,Zr,evC,Nqa,Nqb,Nqc,Nqd,Nqe,reduceCtorEq,c1]
   refine ⟨fun q=>?_,fun q=>?_⟩
   ·have q1:f3=3:=by simpa using q
    have:ZmA (f1,f2,f3,f4,())=inB f4 1000000 3600000000:=by unfold ZmA;rw [if_pos q1]
    rw [this] at hQ
    exact Zld (hQ _ _ ⟨rfl,rfl⟩)
   ·have q1:¬ f3=3:=by simpa using q
    refine hQ _ _ ⟨?_,rfl⟩
    unfold ZmA
    rw [if_neg q1]
theorem Zlz {s:Sl} {l:List F4} {h:Zb} (hr:Row h s 4 (l.flatMap f4L)) {K:Bool→Zb→Prop} (hk:∀ h',Ext h h'→K (l.any fun f=> !Zdl f) h'):ZD s K h:=by
  unfold ZD Z1
  unfold ZN Z2
  refine Zfc YU hr (by decide) (p:=fun f=> !Zdl f) (tst:=fun Q b o h3=>ldI h3 b o .i64 fun t4=>ldI h3 b (o+1) .i64 fun t5=>ldI h3 b (o+2) .i64 fun t6=>ldI h3 b (o+3) .i64 fun t7=>XV (t4,t5,t6,t7,()) Q h3) ?_ ?_
  ·intro i a b o hh Q ha he hcell hQ
   have v0:=hcell 0 _ rfl
   have v1:=hcell 1 _ rfl
   have v2:=hcell 2 _ rfl
   have v3:=hcell 3 _ rfl
   simp only [Nat.add_zero] at v0
   simp (maxDischargeDepth:=60) only [Zs,Zr,evC,Nqa,Nqb,Nqc,Nqd,Nqe,reduceCtorEq,v0,v1,v2,v3]
   unfold XV ZbY
   simp (maxDischargeDepth:=60) only [Zs,Zr,evC,Nqa,Nqb,Nqc,Nqd,Nqe,reduceCtorEq]
   exact ZnC fun h' e=>hQ h' ((ZO he).trans e)
  ·intro h' e
   refine Zx ?_
   have:decide (ixV (fun f=> !Zdl f) l≥0)=l.any fun f=> !Zdl f:=by
     cases hf:l.findIdx? (fun f=> !Zdl f) with
     | none =>
       rw [Zfw hf]
       have:(l.any fun f=> !Zdl f)=false:=by
         rw [List.any_eq_false]
         intro x hx
         rw [List.findIdx?_eq_none_iff.1 hf x hx]
         decide
       rw [this]
       rfl
     | some i =>
       rw [Zgu hf]
       obtain ⟨hil,hp,_⟩:=List.findIdx?_eq_some_iff_getElem.1 hf
       have:(l.any fun f=> !Zdl f)=true:=List.any_eq_true.2 ⟨_,List.getElem_mem hil,hp⟩
       rw [this]
       simp
   rw [this]
   exact hk h' e
def Zph (l:List (ByteArray × List F4)) (name:ByteArray) (i:Int):Prop:=∃ x,x∈l∧ZaF x.1 name=false∧∃ g,g∈x.2∧g.1=i
def Zom (l:List (ByteArray × List F4)) (name:ByteArray) (fl:List F4):Prop:=(fl.map (·.1)).Nodup∧∀ f,f∈fl→¬ Zph l name f.1
def Zm8 (h:Zb) (b:Nat) (P:Int→Prop):Prop:=∃ f n,Ze4 h b f n∧(∀ i v,f i=some v→v = .bool true)∧∀ i,(f i).isSome=true↔P i
theorem Zm8.put {h:Zb} {b:Nat} {P:Int→Prop} (hs:Zm8 h b P) (k:Int) {K:Zb→Prop} (hk:∀ h',Zm8 h' b (fun i=>i=k∨P i)→Upd (· = b) h h'→K h'):X9 (.int .i64) h (some b) (iv k) (.bool true) K:=by
  obtain ⟨f,n,hm,h1,h2⟩:=hs
  refine hm.put k (.bool true) fun h' hm' hu _=>hk h' ⟨_,_,hm',fun i v hv=>?_,fun i=>?_⟩ hu
  ·unfold upd at hv
   split at hv
   ·cases hv;rfl
   ·exact h1 i v hv
  ·unfold upd
   split
   ·rename_i e;simp [e]
   ·rename_i e;simp [e,h2 i]
theorem Zm8.congr {h h':Zb} {b:Nat} {P:Int→Prop} (hs:Zm8 h b P) (he:h'[b]?=h[b]?):Zm8 h' b P:=by
  obtain ⟨f,n,hm,r⟩:=hs
  exact ⟨f,n,hm.congr he,r⟩
theorem Zm8.iff {h:Zb} {b:Nat} {P P':Int→Prop} (hs:Zm8 h b P) (he:∀ i,P i↔P' i):Zm8 h b P':=by
  obtain ⟨f,n,hm,h1,h2⟩:=hs
  exact ⟨f,n,hm,h1,fun i=>(h2 i).trans (he i)⟩
theorem Zm8.lt {h:Zb} {b:Nat} {P:Int→Prop} (hs:Zm8 h b P):b<sz h:=by
  obtain ⟨f,n,hm,_⟩:=hs
  exact hm.lt
theorem Zm8.get {h:Zb} {b:Nat} {P:Int→Prop} (hs:Zm8 h b P) (k:Int) {K:Bool→Prop} (h1:P k→K true) (h2:¬ P k→K false):XF (.int .i64) h (some b) (iv k) fun r=>asB (r.getD (.bool false)) K:=by
  obtain ⟨f,n,hm,g1,g2⟩:=hs
  refine hm.get k ?_
  cases hf:f k with
  | none=>exact ⟨false,rfl,h2 fun hp=>by rw [← g2,hf] at hp;cases hp⟩
  | some v=>exact ⟨true,g1 k v hf,h1 ((g2 k).1 (by rw [hf];rfl))⟩
theorem Zpi {h:Zb} {sb:Nat} {x0 x1:Value} {sp:Sl} {r:List Value} (hc:obj h sb=some (.cells (x0::x1::slV sp::r).toArray 118 (0,0))) {T:Nat→Option Nat} {ls:List Sp3} (hs:SpR h T sp ls) {l:List (ByteArray × List F4)} (hl:ls.map (fun x=>(x.1,x.2.2))=l) {name:ByteArray} {s:Sl} {fl:List F4} (hr:Row h s 4 (fl.flatMap f4L)) {K:Bool→Zb→Prop}
    (hk:∀ b h',(b=false↔Zom l name fl)→Ext h h'→K b h'):Zab (some ⟨sb,0,none⟩) name s K h:=by
  unfold Zab Zcm
  have l0:=ZS hc
  refine Ze4.new fun h1 hm1 e1 z1=>?_
  simp only [ZE] at hm1 z1 e1 ⊢
  have c1:=Yh hc e1
  simp (maxDischargeDepth:=60) only [Zs,Zr,evC,Nqa,Nqb,Nqc,Nqd,Nqe,reduceCtorEq,c1]
  have hrow:=hs.own.row
  have hlen:=Zas Zdj hrow (by decide)
  have hb1:=hrow.big
  have hb2:=hrow.cap
  have hset:Zm8 h1 (sz h) (Zph (ls.take 0 |>.map fun x=>(x.1,x.2.2)) name):=⟨_,_,hm1,(fun _ _ hv=>by cases hv),fun i=>⟨(fun e=>by cases e),fun ⟨x,hx,_⟩=>(by cases hx)⟩⟩
  refine Zds (fun st hh=>∃ i:Nat,st=((i:Int),())∧i≤ls.length∧Ext h hh∧Zm8 hh (sz h) (Zph ((ls.take i).map fun x=>(x.1,x.2.2)) name))
    (fun st _=>(sp.len - st.1).toNat) ⟨0,rfl,by omega,e1,hset⟩ ?_
  rintro _ hh ⟨i,rfl,hi,he,hset⟩ Q hQ
  dsimp only
  refine Zj (fun q=>?_) fun q=>?_
  ·obtain ⟨x,hx⟩:∃ x,ls[i]?=some x:=⟨_,List.getElem?_eq_getElem (by omega)⟩
   obtain ⟨b,o,hb,_,hidx,hcell⟩:=ZaI Zdj (hrow.ext he) hx (by decide)
   have hrf:=((hs.rows x (List.mem_of_getElem? hx)).1).ext he
   have v0:=hcell 0 _ rfl
   have v1:=hcell 1 _ rfl
   simp only [Nat.add_zero] at v0
   refine hidx rfl ?_
   have hsl:=hset.lt
   simp (maxDischargeDepth:=60) only [Zs,Zr,evC,Nqa,Nqb,Nqc,Nqd,Nqe,reduceCtorEq,v0,v1]
   have hlf:=Zas YU hrf (by decide)
   have hb3:=hrf.big
   have hb4:=hrf.cap
   have zhh:=X6 he
   have e2:Ext hh (Zb.puts (hh.push (.cells [.string (ByteArray.mk #[]),slV ⟨none,0,0⟩].toArray 137 (0,0))) (sz hh) 0 [.string x.1,slV x.2.1]):=Z3 (ZO (Ext.refl _)) (Nat.le_refl _)
   refine Zds (fun st h2=>∃ k:Nat,st=((k:Int),())∧k≤x.2.2.length∧Ext h h2∧obj h2 (sz hh)=some (.cells [.string x.1,slV x.2.1].toArray 137 (0,0))∧Zm8 h2 (sz h) (fun j=>Zph ((ls.take i).map fun x=>(x.1,x.2.2)) name j∨(ZaF x.1 name=false∧∃ g,g∈x.2.2.take k∧g.1=j)))
     (fun st _=>(x.2.1.len - st.1).toNat) ⟨0,rfl,by omega,he.trans e2,?_,(hset.congr (e2.old _ hsl)).iff fun j=>by simp⟩ ?_
   ·simp (maxDischargeDepth:=60) only [Zs,Zr,evC,Nqa,Nqb,Nqc,Nqd,Nqe,reduceCtorEq]
   rintro _ h2 ⟨k,rfl,hk2,he2,hsp,hset2⟩ Q2 hQ2
   have g1:=ZS hsp
   have z2:=X6 he2
   have hsl2:=hset2.lt
   dsimp only
   refine Zj (fun q2=>?_) fun q2=>?_
   ·obtain ⟨f,hf⟩:∃ f,x.2.2[k]?=some f:=⟨_,List.getElem?_eq_getElem (by omega)⟩
    obtain ⟨b2,o2,_,_,hidx2,hcell2⟩:=ZaI YU (((hs.rows x (List.mem_of_getElem? hx)).1).ext he2) hf (by decide)
    refine hidx2 rfl ?_
    have w0:=hcell2 0 _ rfl
    have w1:=hcell2 1 _ rfl
    have w2:=hcell2 2 _ rfl
    have w3:=hcell2 3 _ rfl
    simp only [Nat.add_zero] at w0
    have hwr:IntKind.wrap .i64 ((k:Int)+1)=((k+1:Nat):Int):=by rw [ZR (by omega) (by omega)];rfl
    have tk:x.2.2.take (k+1)=x.2.2.take k++[f]:=by rw [List.take_add_one,hf];rfl
    have e3:Ext h2 (Zb.puts (h2.push (.cells [iv 0,iv 0,iv 0,iv 0].toArray 46 (0,0))) (sz h2) 0 [iv f.1,iv f.2.1,iv f.2.2.1,iv f.2.2.2.1]):=Z3 (ZO (Ext.refl _)) (Nat.le_refl _)
    have hsp3:=Yh hsp e3
    have set3:=hset2.congr (e3.old _ hsl2)
    simp (maxDischargeDepth:=60) only [Zs,Zr,evC,Nqa,Nqb,Nqc,Nqd,Nqe,reduceCtorEq,w0,w1,w2,w3,hsp,YH g1]
    refine ⟨fun q3=>?_,fun q3=>?_⟩
    ·have q4:ZaF x.1 name=false:=by simpa using q3
     refine set3.put f.1 fun h4 set4 u4=>hQ2 _ _ ⟨k+1,by rw [hwr],by omega,?_,XM hsp3 u4 (by omega),set4.iff fun j=>?_⟩ (by rw [hwr];dsimp only;omega)
     ·exact (he2.trans e3).then u4 fun j hj=>by rw [hj,ZE];exact Nat.le_refl _
     ·rw [tk]
      constructor
      ·rintro (rfl | h9 | ⟨h9,g,hg,rfl⟩)
       ·exact .inr ⟨q4,f,by simp,rfl⟩
       ·exact .inl h9
       ·exact .inr ⟨q4,g,List.mem_append_left _ hg,rfl⟩
      ·rintro (h9 | ⟨h9,g,hg,rfl⟩)
       ·exact .inr (.inl h9)
       ·rcases List.mem_append.1 hg with hg | hg
        ·exact .inr (.inr ⟨q4,g,hg,rfl⟩)
        ·simp at hg;subst hg;exact .inl rfl
    ·have q4:ZaF x.1 name=true:=by simpa using q3
     refine hQ2 _ _ ⟨k+1,by rw [hwr],by omega,he2.trans e3,hsp3,set3.iff fun j=>?_⟩ (by rw [hwr];dsimp only;omega)
     simp [q4]
   ·have hwr:IntKind.wrap .i64 ((i:Int)+1)=((i+1:Nat):Int):=by rw [ZR (by omega) (by omega)];rfl
    refine hQ _ _ ⟨i+1,by rw [hwr],by omega,he2,hset2.iff fun j=>?_⟩ (by rw [hwr];dsimp only;omega)
    have tk:ls.take (i+1)=ls.take i++[x]:=by rw [List.take_add_one,hx];rfl
    rw [tk,List.map_append,show x.2.2.take k=x.2.2 from List.take_of_length_le (by omega)]
    unfold Zph
    constructor
    ·rintro (⟨y,hy,h9⟩ | ⟨h9,g,hg,rfl⟩)
     ·exact ⟨y,List.mem_append_left _ hy,h9⟩
     ·exact ⟨(x.1,x.2.2),List.mem_append_right _ (by simp),h9,g,hg,rfl⟩
    ·rintro ⟨y,hy,h9,g,hg,rfl⟩
     rcases List.mem_append.1 hy with hy | hy
     ·exact .inl ⟨y,hy,h9,g,hg,rfl⟩
     ·simp at hy;subst hy;exact .inr ⟨h9,g,hg,rfl⟩
  ·rw [List.take_of_length_le (by omega),hl] at hset
   have hr1:=hr.ext he
   have hlf:=Zas YU hr (by decide)
   have hb3:=hr.big
   have hb4:=hr.cap
   refine Zds (fun st h2=>∃ k:Nat,st=((k:Int),())∧k≤fl.length∧Ext h h2∧Zm8 h2 (sz h) (fun j=>Zph l name j∨∃ g,g∈fl.take k∧g.1=j)∧Zom l name (fl.take k))
     (fun st _=>(s.len - st.1).toNat) ⟨0,rfl,by omega,he,hset.iff fun j=>by simp,by simp,fun f hf=>by simp at hf⟩ ?_
   rintro _ h2 ⟨k,rfl,hk2,he2,hset2,hnt⟩ Q2 hQ2
   have z2:=X6 he2
   have hsl2:=hset2.lt
   dsimp only
   refine Zj (fun q2=>?_) fun q2=>?_
   ·obtain ⟨f,hf⟩:∃ f,fl[k]?=some f:=⟨_,List.getElem?_eq_getElem (by omega)⟩
    obtain ⟨b2,o2,_,_,hidx2,hcell2⟩:=ZaI YU (hr.ext he2) hf (by decide)
    refine hidx2 rfl ?_
    have w0:=hcell2 0 _ rfl
    have w1:=hcell2 1 _ rfl
    have w2:=hcell2 2 _ rfl
    have w3:=hcell2 3 _ rfl
    simp only [Nat.add_zero] at w0
    have hwr:IntKind.wrap .i64 ((k:Int)+1)=((k+1:Nat):Int):=by rw [ZR (by omega) (by omega)];rfl
    have tk:fl.take (k+1)=fl.take k++[f]:=by rw [List.take_add_one,hf];rfl
    have e3:Ext h2 (Zb.puts (h2.push (.cells [iv 0,iv 0,iv 0,iv 0].toArray 46 (0,0))) (sz h2) 0 [iv f.1,iv f.2.1,iv f.2.2.1,iv f.2.2.2.1]):=Z3 (ZO (Ext.refl _)) (Nat.le_refl _)
    have set3:=hset2.congr (e3.old _ hsl2)
    simp (maxDischargeDepth:=60) only [Zs,Zr,evC,Nqa,Nqb,Nqc,Nqd,Nqe,reduceCtorEq,w0,w1,w2,w3]
    refine set3.get f.1 (fun hp=>ZF (hk true _ ⟨(fun e=>by cases e),fun hn=>?_⟩ (he2.trans e3))) fun hp=>Zl ?_
    ·rcases hp with hp | ⟨g,hg,hge⟩
     ·exact (hn.2 f (List.mem_of_getElem? hf) hp).elim
     ·have h9:(fl.take (k+1)).map (·.1) |>.Nodup:=(List.map_take▸(hn.1.sublist (List.take_sublist _ _)))
      rw [tk,List.map_append,List.nodup_append] at h9
      exact (h9.2.2 g.1 (List.mem_map_of_mem hg) f.1 (by simp) hge).elim
    ·refine set3.put f.1 fun h4 set4 u4=>hQ2 _ _ ⟨k+1,by rw [hwr],by omega,?_,set4.iff fun j=>?_,?_⟩ (by rw [hwr];dsimp only;omega)
     ·exact (he2.trans e3).then u4 fun j hj=>by rw [hj,ZE];exact Nat.le_refl _
     ·rw [tk]
      constructor
      ·rintro (rfl | h9 | ⟨g,hg,rfl⟩)
       ·exact .inr ⟨f,by simp,rfl⟩
       ·exact .inl h9
       ·exact .inr ⟨g,List.mem_append_left _ hg,rfl⟩
      ·rintro (h9 | ⟨g,hg,rfl⟩)
       ·exact .inr (.inl h9)
       ·rcases List.mem_append.1 hg with hg | hg
        ·exact .inr (.inr ⟨g,hg,rfl⟩)
        ·simp at hg;subst hg;exact .inl rfl
     ·rw [tk]
      refine ⟨?_,fun g hg=>?_⟩
      ·rw [List.map_append,List.nodup_append]
       refine ⟨hnt.1,by simp,fun a ha b hb hab=>hp (.inr ?_)⟩
       obtain ⟨g,hg,rfl⟩:=List.mem_map.1 ha
       simp at hb
       exact ⟨g,hg,hab.trans hb⟩
      ·rcases List.mem_append.1 hg with hg | hg
       ·exact hnt.2 g hg
       ·simp at hg;subst hg;exact fun h9=>hp (.inl h9)
   ·rw [List.take_of_length_le (by omega)] at hnt
    exact hk false h2 ⟨fun _=>hnt,fun _=>rfl⟩ he2
theorem Znm.one {h:Zb} {T:Nat→Option Nat} {id:Int} {v:Value} {c:Cnt} (hc:Znm h T id v c):Zv v=true:=by
  cases c with
  | rate w=>obtain ⟨wb,mb,rfl,_⟩:=hc;exact Zhf
  | value s=>obtain ⟨wb,sl,lb,rfl,_⟩:=hc;exact Zhf
  | leased=>cases hc;exact Zhf
def ZkB (l:List (ByteArray × List F4)) (name:ByteArray) (n:Int):Int:=l.foldl (fun n x=>if ZaF x.1 name then n else IntKind.wrap .i64 (n+x.2.length)) n
def Zvw (cs:Int→Option Cnt) (fl:List F4) (n:Int):Int:=fl.foldl (fun n f=>if (cs f.1).isSome then n else IntKind.wrap .i64 (n+1)) n
def Zk7 (S:Srv) (name:ByteArray):Int:=if Zue S name then (S.spaces.length:Int) else IntKind.wrap .i64 ((S.spaces.length:Int)+1)
def Zuf (S:Srv) (name:ByteArray) (fl:List F4):Bool :=
  if ZkB S.spaces name fl.length>256 then true else if Zk7 S name>8 then true else decide (Zvw S.counts fl S.nc>512)
theorem Znh.get {h:Zb} {T:Nat→Option Nat} {cb:Nat} {cs:Int→Option Cnt} {nc:Nat} (hc:Znh h T cb cs nc) (id:Int) {K:Option Value→Prop}
    (h1:cs id=none→K none) (h2:∀ c v,cs id=some c→Znm h T id v c→K (some (.agg #[v,iv c.kind]))):XF (.int .i64) h (some cb) (iv id) K:=by
  obtain ⟨f,hm,g1,g2⟩:=hc
  refine hm.get id ?_
  cases hid:cs id with
  | none=>rw [g1 id hid];exact h1 hid
  | some c =>
    obtain ⟨_,v,hv,hr⟩:=g2 id c hid
    rw [hv]
    exact h2 c v hid hr
theorem Znh.len {h:Zb} {T:Nat→Option Nat} {cb:Nat} {cs:Int→Option Cnt} {nc:Nat} (hc:Znh h T cb cs nc) {K:Int→Prop} (hk:K nc):ZwU h (some cb) K:=by
  obtain ⟨f,hm,_⟩:=hc
  exact hm.len hk
theorem Zsn {h:Zb} {T:Nat→Option Nat} {sb cb nb:Nat} {sp so:Sl} {ls:List Sp3} {S:Srv} (hR:ZdE h T sb cb nb sp so ls S) {name:ByteArray} {s:Sl} {fl:List F4} (hr:Row h s 4 (fl.flatMap f4L)) {K:Bool→Zb→Prop}
    (hk:∀ h',Ext h h'→K (Zuf S name fl) h'):Zaw (some ⟨sb,0,none⟩) name s K h:=by
  unfold Zaw Zc3
  have c0:=hR.cells
  have l0:=ZS c0
  have hs:=hR.spaces
  have hrow:=hs.own.row
  have hlen:=Zas Zdj hrow (by decide)
  have hb1:=hrow.big
  have hb2:=hrow.cap
  have hlf:=Zas YU hr (by decide)
  have hb3:=hr.big
  have hb4:=hr.cap
  have hsl:S.spaces.length=ls.length:=by rw [← hR.names,List.length_map]
  simp (maxDischargeDepth:=60) only [Zs,Zr,evC,Nqa,Nqb,Nqc,Nqd,Nqe,reduceCtorEq,c0]
  refine hR.counts.len ?_
  refine Zds (fun st hh=>∃ i:Nat,st=(ZkB (S.spaces.take i) name fl.length,(i:Int),())∧i≤ls.length∧Ext h hh)
    (fun st _=>(sp.len - st.2.1).toNat) ⟨0,by rw [hlf];rfl,by omega,Ext.refl _⟩ ?_
  rintro _ hh ⟨i,rfl,hi,he⟩ Q hQ
  dsimp only
  have zhh:=X6 he
  refine Zj (fun q=>?_) fun q=>?_
  ·obtain ⟨x,hx⟩:∃ x,ls[i]?=some x:=⟨_,List.getElem?_eq_getElem (by omega)⟩
   obtain ⟨b,o,hb,_,hidx,hcell⟩:=ZaI Zdj (hrow.ext he) hx (by decide)
   have hrf:=(hs.rows x (List.mem_of_getElem? hx)).1
   have hrfl:=Zas YU hrf (by decide)
   have v0:=hcell 0 _ rfl
   have v1:=hcell 1 _ rfl
   simp only [Nat.add_zero] at v0
   have hsx:S.spaces[i]?=some (x.1,x.2.2):=by rw [← hR.names,List.getElem?_map,hx];rfl
   have st:ZkB (S.spaces.take (i+1)) name fl.length=if ZaF x.1 name then ZkB (S.spaces.take i) name fl.length else IntKind.wrap .i64 (ZkB (S.spaces.take i) name fl.length+x.2.2.length):=by
     rw [List.take_add_one,hsx]
     unfold ZkB
     rw [List.foldl_append]
     rfl
   have hwr:IntKind.wrap .i64 ((i:Int)+1)=((i+1:Nat):Int):=by rw [ZR (by omega) (by omega)];rfl
   refine hidx rfl ?_
   simp (maxDischargeDepth:=60) only [Zs,Zr,evC,Nqa,Nqb,Nqc,Nqd,Nqe,reduceCtorEq,v0,v1]
   have e2:Ext h (Zb.puts (hh.push (.cells [.string (ByteArray.mk #[]),slV ⟨none,0,0⟩].toArray 137 (0,0))) (sz hh) 0 [.string x.1,slV x.2.1]):=Z3 (ZO he) zhh
   refine ⟨fun q3=>?_,fun q3=>?_⟩
   ·have q4:ZaF x.1 name=false:=by simpa using q3
    refine hQ _ _ ⟨i+1,?_,by omega,e2⟩ (by rw [hwr];dsimp only;omega)
    rw [hwr,st,q4,hrfl]
    rfl
   ·have q4:ZaF x.1 name=true:=by simpa using q3
    refine hQ _ _ ⟨i+1,?_,by omega,e2⟩ (by rw [hwr];dsimp only;omega)
    rw [hwr,st,q4]
    rfl
  ·rw [show S.spaces.take i=S.spaces from List.take_of_length_le (by omega)]
   refine ZoW (fun s h2=>s=(Zk7 S name,())∧Ext h h2) ?_ ?_
   ·rintro _ h2 ⟨rfl,e2⟩
    dsimp only
    have hR2:=hR.ext e2
    refine Zds (fun st h3=>∃ k:Nat,st=(Zvw S.counts (fl.take k) S.nc,(k:Int),())∧k≤fl.length∧Ext h h3) (fun st _=>(s.len - st.2.1).toNat) ⟨0,rfl,by omega,e2⟩ ?_
    rintro _ h3 ⟨k,rfl,hk3,he3⟩ Q2 hQ2
    dsimp only
    have z3:=X6 he3
    refine Zj (fun q2=>?_) fun q2=>?_
    ·obtain ⟨f,hf⟩:∃ f,fl[k]?=some f:=⟨_,List.getElem?_eq_getElem (by omega)⟩
     obtain ⟨b2,o2,_,_,hidx2,hcell2⟩:=ZaI YU (hr.ext he3) hf (by decide)
     refine hidx2 rfl ?_
     have w0:=hcell2 0 _ rfl
     have w1:=hcell2 1 _ rfl
     have w2:=hcell2 2 _ rfl
     have w3:=hcell2 3 _ rfl
     simp only [Nat.add_zero] at w0
     have hwr:IntKind.wrap .i64 ((k:Int)+1)=((k+1:Nat):Int):=by rw [ZR (by omega) (by omega)];rfl
     have c3:=(hR.ext he3).cells
     have ls3:=ZS c3
     have e4:Ext h (Zb.puts (h3.push (.cells [iv 0,iv 0,iv 0,iv 0].toArray 46 (0,0))) (sz h3) 0 [iv f.1,iv f.2.1,iv f.2.2.1,iv f.2.2.2.1]):=Z3 (ZO he3) z3
     have f4:obj (Zb.puts (h3.push (.cells [iv 0,iv 0,iv 0,iv 0].toArray 46 (0,0))) (sz h3) 0 [iv f.1,iv f.2.1,iv f.2.2.1,iv f.2.2.2.1]) (sz h3)=some (.cells [iv f.1,iv f.2.1,iv f.2.2.1,iv f.2.2.2.1].toArray 46 (0,0)):=by simp (maxDischargeDepth:=60) only [Zs,Zr,evC,Nqa,Nqb,Nqc,Nqd,Nqe,reduceCtorEq]
     have st:Zvw S.counts (fl.take (k+1)) S.nc=if (S.counts f.1).isSome then Zvw S.counts (fl.take k) S.nc else IntKind.wrap .i64 (Zvw S.counts (fl.take k) S.nc+1):=by
       rw [List.take_add_one,hf]
       unfold Zvw
       rw [List.foldl_append]
       rfl
     simp (maxDischargeDepth:=60) only [Zs,Zr,evC,Nqa,Nqb,Nqc,Nqd,Nqe,reduceCtorEq,w0,w1,w2,w3,c3,YH ls3]
     have z34:sz h3+1=sz (Zb.puts (h3.push (.cells [iv 0,iv 0,iv 0,iv 0].toArray 46 (0,0))) (sz h3) 0 [iv f.1,iv f.2.1,iv f.2.2.1,iv f.2.2.2.1]):=by simp only [Zdi,XB]
     generalize Zb.puts (h3.push (.cells [iv 0,iv 0,iv 0,iv 0].toArray 46 (0,0))) (sz h3) 0 [iv f.1,iv f.2.1,iv f.2.2.1,iv f.2.2.2.1]=h4 at e4 f4 z34 ⊢
     rw [z34]
     have hR4:=hR.ext e4
     have c4:=hR4.cells
     have z4:=X6 e4
     have goS:∀ h9,Ext h h9→(S.counts f.1).isSome=true→Q2 (Zvw S.counts (fl.take k) S.nc,((k+1:Nat):Int),()) h9:=fun h9 e9 hq=>hQ2 _ _ ⟨k+1,by rw [st,if_pos hq],by omega,e9⟩ (by dsimp only;omega)
     have goN:∀ h9,Ext h h9→S.counts f.1=none→Q2 (IntKind.wrap .i64 (Zvw S.counts (fl.take k) S.nc+1),((k+1:Nat):Int),()) h9:=fun h9 e9 hq=>hQ2 _ _ ⟨k+1,by rw [st,hq];rfl,by omega,e9⟩ (by dsimp only;omega)
     have lf4:=ZS f4
     have lc4:=ZS c4
     rw [hwr]
     refine ⟨?_,?_⟩
     ·refine hR4.counts.get f.1 (fun hn=>?_) fun c v hc9 hv=>?_
      ·refine ⟨(.nilIface,0,()),rfl,?_⟩
       simp (maxDischargeDepth:=60) only [Zs,Zr,evC,Nqa,Nqb,Nqc,Nqd,Nqe,reduceCtorEq]
       exact goN _ (Z3 (ZO e4) z4) hn
      ·refine ⟨(v,c.kind,()),rfl,?_⟩
       simp (maxDischargeDepth:=60) only [Zs,Zr,evC,Nqa,Nqb,Nqc,Nqd,Nqe,reduceCtorEq,hv.one]
       exact goS _ (Z3 (ZO e4) z4) (by rw [hc9];rfl)
     ·have hR5:=hR4.ext (Ext.push h4 (.cells [Value.nilIface,iv 0].toArray 142 (0,0)))
      try simp (maxDischargeDepth:=60) only [Zs,Zr,evC,Nqa,Nqb,Nqc,Nqd,Nqe,reduceCtorEq,f4,c4,YH lf4,YH lc4]
      refine hR5.counts.get f.1 (fun hn=>?_) fun c v hc9 hv=>?_
      ·refine ⟨(.nilIface,0,()),rfl,?_⟩
       simp (maxDischargeDepth:=60) only [Zs,Zr,evC,Nqa,Nqb,Nqc,Nqd,Nqe,reduceCtorEq]
       exact goN _ (Z3 (ZO e4) z4) hn
      ·refine ⟨(v,c.kind,()),rfl,?_⟩
       simp (maxDischargeDepth:=60) only [Zs,Zr,evC,Nqa,Nqb,Nqc,Nqd,Nqe,reduceCtorEq,hv.one]
       exact goS _ (Z3 (ZO e4) z4) (by rw [hc9];rfl)
    ·rw [show fl.take k=fl from List.take_of_length_le (by omega)]
     have:=hk h3 he3
     unfold Zuf at this
     refine Zj (fun q3=>?_) fun q3=>Zj (fun q4=>?_) fun q4=>?_
     ·rw [if_pos q3] at this;exact this
     ·rw [if_neg q3,if_pos q4] at this;exact this
     ·rw [if_neg q3,if_neg q4] at this;exact this
   ·intro Q2 hQ2
    have hR2:=hR.ext he
    refine ZhK hR2.cells hR2.spaces.own.row fun h3 e3=>?_
    have hx:=Zvv hR.names name
    refine Zj (fun q3=>?_) fun q3=>?_
    ·have hh:Zue S name=false:=by
       unfold Zue
       rw [← hx]
       exact decide_eq_false (by omega)
     refine hQ2 _ _ ⟨?_,he.trans e3⟩
     unfold Zk7
     rw [hh,hsl,hlen]
     rfl
    ·have hh:Zue S name=true:=by
       unfold Zue
       rw [← hx]
       exact decide_eq_true (by omega)
     refine hQ2 _ _ ⟨?_,he.trans e3⟩
     unfold Zk7
     rw [hh,hsl,hlen]
     rfl
def Zdh (f:F4):Cnt:=if f.2.2.1=1 then .rate ⟨0,fun _=>0⟩ else if f.2.2.1=2 then .value ⟨IntKind.wrap .u64 f.1,0,[]⟩ else .leased
theorem Zh2 {h:Zb} {T:Nat→Option Nat} (hT:∀ k,T k≠none→k<sz h) {f:F4} {K:Value→Zb→Prop}
    (hk:∀ v h' T',Znm h' T' f.1 v (Zdh f)→Ext h h'→(∀ k t,T k=some t→T' k=some t)→(∀ k,T' k≠none→T k≠none∨sz h≤k)→(∀ k,T' k≠none→k<sz h')→K v h'):YX f K h:=by
  unfold YX Zfz
  obtain ⟨f1,f2,f3,f4,_⟩:=f
  have e1:Ext h (h.push (.cells [iv f1,iv f2,iv f3,iv f4].toArray 46 (0,0))):=Ext.push _ _
  have z1:sz (h.push (.cells [iv f1,iv f2,iv f3,iv f4].toArray 46 (0,0)))=sz h+1:=XB
  simp (maxDischargeDepth:=60) only [Zs,Zr,evC,Nqa,Nqb,Nqc,Nqd,Nqe,reduceCtorEq]
  refine ⟨fun q=>?_,fun q=>⟨fun q2=>?_,fun q2=>?_⟩⟩
  ·have q1:f3=1:=by simpa using q
   generalize h.push (.cells [iv f1,iv f2,iv f3,iv f4].toArray 46 (0,0))=h1 at e1 z1 ⊢
   refine ZnH fun h3 hw e3 z3=>?_
   have nT:∀ k,sz h≤k→T k=none:=fun k h9=>by
     cases h8:T k with
     | none=>rfl
     | some t=>have:=hT k (by rw [h8];exact fun e=>by cases e);omega
   refine hk _ h3 (fun k=>if k=sz h1+1 then some (tg f1 0) else if k=sz h1 then some (tg f1 1) else T k) ?_ (e1.trans e3) (fun k t hk=>?_) (fun k hk=>?_) fun k hk=>?_
   ·have:Zdh (f1,f2,f3,f4,()) = .rate ⟨0,fun _=>0⟩:=if_pos q1
    rw [this]
    refine ⟨sz h1+1,sz h1,rfl,hw,if_pos rfl,?_⟩
    dsimp only
    rw [if_neg (by omega),if_pos rfl]
   ·rw [if_neg,if_neg]
    ·exact hk
    ·intro e;subst e;rw [nT _ (by omega)] at hk;cases hk
    ·intro e;subst e;rw [nT _ (by omega)] at hk;cases hk
   ·split at hk
    ·right;omega
    ·split at hk
     ·right;omega
     ·exact .inl hk
   ·split at hk
    ·omega
    ·split at hk
     ·omega
     ·have:=hT k hk;omega
  ·have q1:f3≠1:=by simpa using q
   have q3:f3=2:=by simpa using q2
   have hT1:∀ k,T k≠none→k<sz (h.push (.cells [iv f1,iv f2,iv f3,iv f4].toArray 46 (0,0))):=fun k hk=>by have:=hT k hk;omega
   refine ZpO (id:=f1) hT1 fun h' T' hs e' hkeep hnew hlt=>?_
   refine hk _ h' T' ?_ (e1.trans e') hkeep (fun k hk=>(hnew k hk).imp (fun h=>h) fun h9=>by omega) hlt
   have:Zdh (f1,f2,f3,f4,()) = .value ⟨IntKind.wrap .u64 f1,0,[]⟩:=by unfold Zdh;rw [if_neg q1,if_pos q3]
   rw [this]
   exact ⟨_,_,_,rfl,hs⟩
  ·have q1:¬ f3=1:=by simpa using q
   have h2:¬ f3=2:=by simpa using q2
   refine hk _ _ T ?_ e1 (fun _ _ h=>h) (fun _ h=> .inl h) fun k hk=>by have:=hT k hk;simp only [XB];omega
   have:Zdh (f1,f2,f3,f4,()) = .leased:=by unfold Zdh;rw [if_neg q1,if_neg h2]
   rw [this]
   rfl
theorem ZdE.no {h:Zb} {T:Nat→Option Nat} {sb cb nb:Nat} {sp so:Sl} {ls:List Sp3} {S:Srv} (hR:ZdE h T sb cb nb sp so ls S) {k:Nat} (hk:sz h≤k):T k=none:=by
  cases hT:T k with
  | none=>rfl
  | some t =>
    have:=hR.lt k (by rw [hT];exact fun e=>by cases e)
    omega
theorem ZdE.setP {h h':Zb} {T T':Nat→Option Nat} {sb cb nb:Nat} {sp sp' so:Sl} {ls ls':List Sp3} {S:Srv} (hR:ZdE h T sb cb nb sp so ls S) (hu:Upd (fun k=>k=sb∨T k=some 1∨T k=none) h h')
    (hc:obj h' sb=some (.cells [iv S.begun,iv S.last,slV sp',.map (some cb),.map (some nb),slV so,iv S.next].toArray 118 (0,0)))
    (hT:∀ k t,T k=some t→T' k=some t) (hlt:∀ k,T' k≠none→k<sz h') (hs:SpR h' T' sp' ls'):ZdE h' T' sb cb nb sp' so ls' { S with spaces:=ls'.map (fun x=>(x.1,x.2.2))}:=by
  have q:∀ k t,T k=some t→t≠0→t≠1→h'[k]?=h[k]?:=fun k t hk h0 h4=>hu.old k (hR.lt k (by rw [hk];exact fun e=>by cases e)) fun e=>by
    rcases e with e | e | e
    ·subst e
     rw [hR.tsb] at hk
     cases hk
     exact h0 rfl
    ·rw [hk] at e
     cases e
     exact h4 rfl
    ·rw [hk] at e
     cases e
  exact ⟨hc,hs,rfl,hR.counts.congr hT (q cb _ hR.tcb (by decide) (by decide)) (fun k t hk h6=>q k t hk (by omega) (by omega)),hR.conns.congr (q nb _ hR.tnb (by decide) (by decide)),
    hR.out.congr fun b hb _ _=>q b _ (hR.tso b hb) (by decide) (by decide),hT _ _ hR.tsb,hT _ _ hR.tcb,hT _ _ hR.tnb,fun k hk=>hT _ _ (hR.tso k hk),hlt⟩
theorem ZdE.putC {h h':Zb} {T T':Nat→Option Nat} {sb cb nb:Nat} {sp so:Sl} {ls:List Sp3} {S:Srv} (hR:ZdE h T sb cb nb sp so ls S) {id:Int} {c:Cnt} (hid:1≤id) (hu:Upd (fun k=>k=cb) h h')
    (hT:∀ k t,T k=some t→T' k=some t) (hlt:∀ k,T' k≠none→k<sz h') {f:Int→Option Value} {n:Nat} {v:Value} (hm:Ze4 h' cb (upd f id (some (.agg #[v,iv c.kind]))) n) (h1:∀ id,S.counts id=none→f id=none) (h2:∀ id c,S.counts id=some c→1≤id∧∃ v,f id=some (.agg #[v,iv c.kind])∧Znm h T id v c)
    (hc:Znm h' T' id v c):ZdE h' T' sb cb nb sp so ls { S with counts:=fun i=>if i=id then some c else S.counts i,nc:=n }:=by
  have q:∀ k t,T k=some t→t≠2→h'[k]?=h[k]?:=fun k t hk h0=>hu.old k (hR.lt k (by rw [hk];exact fun e=>by cases e)) fun e=>by
    subst e
    rw [hR.tcb] at hk
    cases hk
    exact h0 rfl
  refine ⟨(q sb 0 hR.tsb (by decide)).trans hR.cells,hR.spaces.congr hT (fun k hk=>hk.elim (fun h=>q k _ h (by decide)) (fun h=>q k _ h (by decide))),hR.names,⟨_,hm,fun i hi=>?_,fun i d hi=>?_⟩,hR.conns.congr (q nb _ hR.tnb (by decide)),
    hR.out.congr fun b hb _ _=>q b _ (hR.tso b hb) (by decide),hT _ _ hR.tsb,hT _ _ hR.tcb,hT _ _ hR.tnb,fun k hk=>hT _ _ (hR.tso k hk),hlt⟩
  ·dsimp only at hi
   unfold upd
   split at hi
   ·cases hi
   ·rename_i hne
    rw [if_neg hne]
    exact h1 i hi
  ·dsimp only at hi
   unfold upd
   split at hi
   ·rename_i hii
    subst hii
    cases hi
    exact ⟨hid,v,if_pos rfl,hc⟩
   ·rename_i hii
    obtain ⟨hi1,w,hw,hr⟩:=h2 i d hi
    exact ⟨hi1,w,(if_neg hii).trans hw,hr.congr hT fun k j hj hk=>q k _ hk (by unfold tg;omega)⟩
def Srv.fresh1 (S:Srv) (f:F4):Srv:=match S.counts f.1 with
  | none=>{ S with counts:=fun i=>if i=f.1 then some (Zdh f) else S.counts i,nc:=S.nc+1 }
  | some c=>if c.kind≠f.2.2.1 then { S with counts:=fun i=>if i=f.1 then some (Zdh f) else S.counts i } else S
def Srv.freshL (S:Srv) (l:List F4):Srv:=l.foldl Srv.fresh1 S
def Srv.loaded (S:Srv) (name:ByteArray) (fl:List F4):Srv:={ S with spaces:=S.spaces++[(name,fl)]}.freshL fl
def Zed (S:Srv) (name:ByteArray) (fl:List F4):Prop:=Zhk name=true∧(fl.any fun f=> !Zdl f)=false∧Zom S.spaces name fl∧Zuf S name fl=false
theorem Zg2 {S:Srv} {f:F4} (h:S.counts f.1=none):S.fresh1 f={ S with counts:=fun i=>if i=f.1 then some (Zdh f) else S.counts i,nc:=S.nc+1 }:=by unfold Srv.fresh1;rw [h]
theorem ZnW {S:Srv} {f:F4} {c:Cnt} (h:S.counts f.1=some c) (hc:c.kind≠f.2.2.1):S.fresh1 f={ S with counts:=fun i=>if i=f.1 then some (Zdh f) else S.counts i }:=by unfold Srv.fresh1;rw [h];exact if_pos hc
theorem ZnX {S:Srv} {f:F4} {c:Cnt} (h:S.counts f.1=some c) (hc:¬ c.kind≠f.2.2.1):S.fresh1 f=S:=by unfold Srv.fresh1;rw [h];exact if_neg hc
theorem Zjs {f:F4} (h:Zdl f=true):(Zdh f).kind=f.2.2.1:=by
  unfold Zdl at h
  rw [Bool.and_eq_true,Bool.and_eq_true,Bool.and_eq_true] at h
  have:=ZdY h.2.2.1
  unfold Zdh
  split
  ·rename_i e;exact e.symm
  ·split
   ·rename_i e;exact e.symm
   ·show (3:Int)=_;omega
theorem ZtL {f:F4} (h:Zdl f=true):1≤f.1:=by
  unfold Zdl at h
  rw [Bool.and_eq_true] at h
  exact (ZdY h.1).1
theorem Zj3 {h:Zb} {s:Sl} {l:List F4} (hr:Row h s 4 (l.flatMap f4L)) (hl:l.length≤1099511627776) {K:Sl→Zb→Prop}
    (hk:∀ t h',Own h' h.size t 4 (l.flatMap f4L)→Ext h h'→K t h'):Z9 s K h:=by
  unfold Z9 Y4
  have hlen:=Zas YU hr (by decide)
  exact ZmW (bytes:=32) (zs:=[.int .i64 0,.int .i64 0,.int .i64 0,.int .i64 0]) hr (Zn1 l) rfl (by omega) (by omega) fun t h' ho he _=>hk t h' ho he
theorem Zso {h:Zb} {T:Nat→Option Nat} {sb cb nb:Nat} {sp so:Sl} {ls:List Sp3} {S:Srv} (hR:ZdE h T sb cb nb sp so ls S) {f:F4} (hf:Zdl f=true) {n:Nat} (hn:n=if (S.counts f.1).isSome then S.nc else S.nc+1) {K:Zb→Prop} {R:Value→Zb→Prop} (hX:∀ v h',Ext h h'→Zv v=true→X9 (.int .i64) h' (some cb) (iv f.1) (.agg #[v,iv f.2.2.1]) K→R v h')
    (hk:∀ h' T',ZdE h' T' sb cb nb sp so ls { S with counts:=fun i=>if i=f.1 then some (Zdh f) else S.counts i,nc:=n }→Stp T T' h h'→K h') :
    YX f R h:=by
  refine Zh2 hR.lt fun v h' T' hc he hT hnew hlt=>hX v h' he hc.one ?_
  have hR1:=hR.ext he
  obtain ⟨g,hm,g1,g2⟩:=hR1.counts
  refine hm.put f.1 _ fun h3 hm3 u3 z3=>?_
  have hcb:T' cb=some 2:=hT _ _ hR.tcb
  have hc3:Znm h3 T' f.1 v (Zdh f):=hc.congr (fun _ _ h=>h) fun k j _ hkk=>by
    have hkl:k<sz h':=hlt k (by rw [hkk];exact fun e=>by cases e)
    refine u3.old k hkl fun e=>?_
    subst e
    rw [hcb] at hkk
    injection hkk with hkk
    unfold tg at hkk
    omega
  rw [← Zjs hf] at hm3
  have hnn:(if (g f.1).isSome then S.nc else S.nc+1)=n:=by
    rw [hn]
    cases hcs:S.counts f.1 with
    | none=>rw [g1 _ hcs];rfl
    | some c=>obtain ⟨_,v,hv,_⟩:=g2 _ c hcs;rw [hv];rfl
  rw [hnn] at hm3
  have z3':sz h3=sz h':=z3
  refine hk h3 T' (hR1.putC (ZtL hf) u3 hT (fun k hk=>by rw [z3'];exact hlt k hk) hm3 g1 g2 hc3) ⟨(he.upd _).trans (u3.mono fun k _ hk=>?_),fun k hk=>hnew k hk⟩
  subst hk
  rw [hR.tcb]
  exact fun e=>by cases e
theorem ZnL {h:Zb} {T:Nat→Option Nat} {sb cb nb:Nat} {sp so:Sl} {ls:List Sp3} {S:Srv} (hR:ZdE h T sb cb nb sp so ls S) {s:Sl} {fl:List F4} (hr:Row h s 4 (fl.flatMap f4L)) (hsl:fl.flatMap f4L≠[]→∀ k,s.blk=some k→T k=none) (hf:∀ f,f∈fl→Zdl f=true)
    {body:((Int × Unit)→Zb→Prop)→Nat→Nat→Int→Zb→Prop} {K:Zb→Prop}
    (hb:∀ (i:Nat) (f:F4) (b o:Nat) (h1:Zb) (T1:Nat→Option Nat) (S1:Srv) (Q:(Int × Unit)→Zb→Prop),fl[i]?=some f→ZdE h1 T1 sb cb nb sp so ls S1→(∀ j v,(f4L f)[j]?=some v→ZL (o+j) (obj h1 b)=some v) →
      (∀ h2 T2,ZdE h2 T2 sb cb nb sp so ls (S1.fresh1 f)→Stp T1 T2 h1 h2→Q (IntKind.wrap .i64 ((i:Int)+1),()) h2)→body Q b o i h1)
    (hk:∀ h' T',ZdE h' T' sb cb nb sp so ls (S.freshL fl)→Stp T T' h h'→K h') :
    YI (σ:=Int × Unit) (fun J45 s46 h47=>(fun (s64:Int)=>Zw (decide (s64<(s.len:Int))) (Zap s.ptr s.len s64 4 fun b48 o49=>body J45 b48 o49 s64 h47) (K h47)) s46.1) (0,()) h:=by
  have hl:=Zas YU hr (by decide)
  have hbig:=hr.big
  have hcap:=hr.cap
  refine Zds (fun st hh=>∃ (i:Nat) (T1:Nat→Option Nat),st=((i:Int),())∧i≤fl.length∧ZdE hh T1 sb cb nb sp so ls (S.freshL (fl.take i))∧Stp T T1 h hh) (fun st _=>(s.len - st.1).toNat) ⟨0,T,rfl,by omega,hR,Stp.refl _ _⟩ ?_
  rintro _ hh ⟨i,T1,rfl,hi,hR1,st1⟩ Q hQ
  dsimp only
  refine Zj (fun q=>?_) fun q=>?_
  ·obtain ⟨f,hfi⟩:∃ f,fl[i]?=some f:=⟨_,List.getElem?_eq_getElem (by omega)⟩
   have hr1:Row hh s 4 (fl.flatMap f4L):=hr.congr fun b o hp hne hb=>st1.upd.old b hb fun e=>e (hsl hne b (by simp [Sl.blk,hp]))
   obtain ⟨b,o,_,_,hidx,hcell⟩:=ZaI YU hr1 hfi (by decide)
   have hwr:IntKind.wrap .i64 ((i:Int)+1)=((i+1:Nat):Int):=by rw [ZR (by omega) (by omega)];rfl
   refine hidx rfl (hb i f b o hh T1 _ Q hfi hR1 hcell fun h2 T2 hR2 st2=>hQ _ _ ⟨i+1,T2,by rw [hwr],by omega,?_,st1.trans st2⟩ (by rw [hwr];dsimp only;omega))
   rw [List.take_add_one,hfi]
   unfold Srv.freshL
   rw [List.foldl_append]
   exact hR2
  ·rw [List.take_of_length_le (by omega)] at hR1
   exact hk hh T1 hR1 st1
theorem Zr5 {h:Zb} {T:Nat→Option Nat} {sb cb nb:Nat} {sp so:Sl} {ls:List Sp3} {S:Srv} (hR:ZdE h T sb cb nb sp so ls S) {f:F4} (hf:Zdl f=true) {b o:Nat} (hcell:∀ j v,(f4L f)[j]?=some v→ZL (o+j) (obj h b)=some v) {i:Int} {Q:(Int × Unit)→Zb→Prop}
    (hQ:∀ h2 T2,ZdE h2 T2 sb cb nb sp so ls (S.fresh1 f)→Stp T T2 h h2→Q (IntKind.wrap .i64 (i+1),()) h2) {kt ct:TypeId} (hkt:kt=46) (hct:ct=142) :
    ldI h b o .i64 fun t50=>ldI h b (o+1) .i64 fun t51=>ldI h b (o+2) .i64 fun t52=>ldI h b (o+3) .i64 fun t53 =>
    newC h [Value.int .i64 0,Value.int .i64 0,Value.int .i64 0,Value.int .i64 0] kt fun b54 h55=>sts h55 b54 0 [Value.int .i64 t50,Value.int .i64 t51,Value.int .i64 t52,Value.int .i64 t53] fun h56 =>
    Zg5 (σ:=Option Addr × Bool × Unit) (fun s73 h74=>(fun (c:Option Addr) (there72:Bool) =>
     Zw (!there72) (Zd (some ⟨sb,0,none⟩) fun b75 o76=>ldM h74 b75 (o76+3) fun t77=>ldI h74 b54 0 .i64 fun t78=>ldI h74 b54 0 .i64 fun t79=>ldI h74 b54 (0+1) .i64 fun t80=>ldI h74 b54 (0+2) .i64 fun t81=>ldI h74 b54 (0+3) .i64 fun t82=>ldI h74 b54 (0+2) .i64 fun t83 =>
      YX (t79,t80,t81,t82,()) (fun t84 h85=>ZH (Zi h85 [(b54,0+2,Value.int .i64 t83)]) <| ZH (Zi h85 [(b54,0,Value.int .i64 t78)]) <| ZH (Zi h85 [(b75,o76+3,Value.map t77)]) <| ZH (Zv t84=true) <| X9 (.int .i64) h85 t77 (Value.int .i64 t78) (Value.agg #[t84,Value.int .i64 t83]) fun h86=>Q (IntKind.wrap .i64 (i+1),()) h86) h74)
      (Zd c fun b87 o88=>ldI h74 b87 (o88+1) .i64 fun t89=>ldI h74 b54 (0+2) .i64 fun t90=>Zw (t89 !=t90)
        (Zd (some ⟨sb,0,none⟩) fun b91 o92=>ldM h74 b91 (o92+3) fun t93=>ldI h74 b54 0 .i64 fun t94=>ldI h74 b54 0 .i64 fun t95=>ldI h74 b54 (0+1) .i64 fun t96=>ldI h74 b54 (0+2) .i64 fun t97=>ldI h74 b54 (0+3) .i64 fun t98=>ldI h74 b54 (0+2) .i64 fun t99 =>
          YX (t95,t96,t97,t98,()) (fun t100 h101=>ZH (Zi h101 [(b54,0+2,Value.int .i64 t99)]) <| ZH (Zi h101 [(b54,0,Value.int .i64 t94)]) <| ZH (Zi h101 [(b91,o92+3,Value.map t93)]) <| ZH (Zv t100=true) <| X9 (.int .i64) h101 t93 (Value.int .i64 t94) (Value.agg #[t100,Value.int .i64 t99]) fun h102=>Q (IntKind.wrap .i64 (i+1),()) h102) h74)
        (Q (IntKind.wrap .i64 (i+1),()) h74))) s73.1 s73.2.1) (fun J57 =>
     Zd (some ⟨sb,0,none⟩) fun b58 o59=>ldM h56 b58 (o59+3) fun t60=>ldI h56 b54 0 .i64 fun t61=>Zfj
      (XF (.int .i64) h56 t60 (Value.int .i64 t61) fun r=>exG (r.getD (Value.agg #[Value.nilIface,Value.int .i64 0])) (fun t62:Value × Int × Unit=>Value.agg #[t62.1,Value.int .i64 t62.2.1]) fun t62=>newC h56 [Value.nilIface,Value.int .i64 0] ct fun b63 h64=>sts h64 b63 0 [t62.1,Value.int .i64 t62.2.1] fun h65=>ZG r.isSome fun there=>J57 (some ⟨b63,0,none⟩,there,()) h65)
      (newC h56 [Value.nilIface,Value.int .i64 0] ct fun b66 h67=>ZH (Zi h67 [(b54,0,Value.int .i64 t61)]) <| ZH (Zi h67 [(b58,o59+3,Value.map t60)]) <| XF (.int .i64) h67 t60 (Value.int .i64 t61) fun r68=>exG (r68.getD (Value.agg #[Value.nilIface,Value.int .i64 0])) (fun t69:Value × Int × Unit=>Value.agg #[t69.1,Value.int .i64 t69.2.1]) fun t69=>sts h67 b66 0 [t69.1,Value.int .i64 t69.2.1] fun h70=>ZG r68.isSome fun there71=>J57 (some ⟨b66,0,none⟩,there71,()) h70)):=by
  subst hkt hct
  obtain ⟨f1,f2,f3,f4,_⟩:=f
  have w0:=hcell 0 _ rfl
  have w1:=hcell 1 _ rfl
  have w2:=hcell 2 _ rfl
  have w3:=hcell 3 _ rfl
  simp only [Nat.add_zero] at w0
  simp (maxDischargeDepth:=60) only [Zvs,w0,w1,w2,w3,Option.some.injEq,Value.int.injEq,true_and,exists_eq_left',exists_eq_left]
  rw [ZdM,ZiV (by simp (maxDischargeDepth:=60) only [Zs,Zr,evC,Nqa,Nqb,Nqc,Nqd,Nqe,reduceCtorEq]) (by simp (maxDischargeDepth:=60) only [Zs,Zr,evC,Nqa,Nqb,Nqc,Nqd,Nqe,reduceCtorEq])]
  have e4:Ext h (Zb.puts (h.push (.cells [iv 0,iv 0,iv 0,iv 0].toArray 46 (0,0))) (sz h) 0 [iv f1,iv f2,iv f3,iv f4]):=Z3 (ZO (Ext.refl _)) (Nat.le_refl _)
  have a4:obj (Zb.puts (h.push (.cells [iv 0,iv 0,iv 0,iv 0].toArray 46 (0,0))) (sz h) 0 [iv f1,iv f2,iv f3,iv f4]) (sz h)=some (.cells [iv f1,iv f2,iv f3,iv f4].toArray 46 (0,0)):=by simp (maxDischargeDepth:=60) only [Zs,Zr,evC,Nqa,Nqb,Nqc,Nqd,Nqe,reduceCtorEq]
  have z4:sz (Zb.puts (h.push (.cells [iv 0,iv 0,iv 0,iv 0].toArray 46 (0,0))) (sz h) 0 [iv f1,iv f2,iv f3,iv f4])=sz h+1:=by simp only [Zdi,XB]
  change Zg5 _ _
  generalize Zb.puts (h.push (.cells [iv 0,iv 0,iv 0,iv 0].toArray 46 (0,0))) (sz h) 0 [iv f1,iv f2,iv f3,iv f4]=h4 at e4 a4 z4 ⊢
  have hR4:=hR.ext e4
  have c4:=hR4.cells
  refine ZoW (fun s h5=>∃ bc,s=(some ⟨bc,0,none⟩,(S.counts f1).isSome,())∧Ext h4 h5∧∀ c,S.counts f1=some c→ZL 1 (obj h5 bc)=some (iv c.kind)) ?_ ?_
  ·rintro _ h5 ⟨bc,rfl,e5,hbc⟩
   dsimp only
   have hR5:=hR4.ext e5
   have a5:=Yh a4 e5
   have c5:=hR5.cells
   have st5:∀ {T2 h6},Stp T T2 h5 h6→Stp T T2 h h6:=fun {T2 h6} st=>⟨((e4.trans e5).upd _).trans st.upd,fun k hk=>(st.new k hk).imp id fun h9=>Nat.le_trans (e4.trans e5).size h9⟩
   have put:∀ (n:Nat),n=(if (S.counts f1).isSome then S.nc else S.nc+1)→S.fresh1 (f1,f2,f3,f4,())={ S with counts:=fun i=>if i=f1 then some (Zdh (f1,f2,f3,f4,())) else S.counts i,nc:=n } →
       YX (f1,f2,f3,f4,()) (fun t84 h85=>ZL 2 (obj h85 (sz h))=some (Value.int .i64 f3)∧ZL 0 (obj h85 (sz h))=some (Value.int .i64 f1)∧ZL 3 (obj h85 sb)=some (Value.map (some cb))∧Zv t84=true∧X9 (.int .i64) h85 (some cb) (Value.int .i64 f1) (Value.agg #[t84,Value.int .i64 f3]) fun h86=>Q (IntKind.wrap .i64 (i+1),()) h86) h5:=fun n hn hS=>by
     refine Zso hR5 (f:=(f1,f2,f3,f4,())) hf hn (fun v h6 e6 hv hm=>?_) fun h6 T6 hR6 st6=>hQ h6 T6 (by rw [hS];exact hR6) (st5 st6)
     have a6:=Yh a5 e6
     have c6:=Yh c5 e6
     simp (maxDischargeDepth:=60) only [Zs,Zr,evC,Nqa,Nqb,Nqc,Nqd,Nqe,reduceCtorEq,a6,c6]
     exact ⟨hv,hm⟩
   cases hc:S.counts f1 with
   | none =>
     refine ZF ?_
     simp (maxDischargeDepth:=60) only [Zs,Zr,evC,Nqa,Nqb,Nqc,Nqd,Nqe,reduceCtorEq,c5,a5]
     exact put (S.nc+1) (by rw [hc];rfl) (Zg2 hc)
   | some c =>
     refine Zl ?_
     have hkc:=hbc c hc
     simp (maxDischargeDepth:=60) only [Zs,Zr,evC,Nqa,Nqb,Nqc,Nqd,Nqe,reduceCtorEq,c5,a5,hkc]
     refine ⟨fun q=>?_,fun q=>?_⟩
     ·have q1:c.kind≠f3:=by simpa using q
      have:=ZnW (S:=S) (f:=(f1,f2,f3,f4,())) hc q1
      exact put S.nc (by rw [hc];rfl) this
     ·have q1:¬ c.kind≠f3:=by simpa using q
      have:=ZnX (S:=S) (f:=(f1,f2,f3,f4,())) hc q1
      exact hQ h5 T (by rw [this];exact hR5) (st5 (Stp.refl _ _))
  ·intro Q2 hQ2
   have lc4:=ZS c4
   have la4:=ZS a4
   simp (maxDischargeDepth:=60) only [Zs,Zr,evC,Nqa,Nqb,Nqc,Nqd,Nqe,reduceCtorEq,c4,a4,YH lc4,YH la4]
   refine ⟨?_,?_⟩
   ·refine hR4.counts.get f1 (fun hn=>?_) fun c v hc9 hv=>?_
    ·refine ⟨(.nilIface,0,()),rfl,?_⟩
     simp (maxDischargeDepth:=60) only [Zs,Zr,evC,Nqa,Nqb,Nqc,Nqd,Nqe,reduceCtorEq]
     exact hQ2 _ _ ⟨_,by rw [hn];rfl,Z3 (ZO (Ext.refl _)) (Nat.le_refl _),fun c hc9=>by rw [hn] at hc9;cases hc9⟩
    ·refine ⟨(v,c.kind,()),rfl,?_⟩
     simp (maxDischargeDepth:=60) only [Zs,Zr,evC,Nqa,Nqb,Nqc,Nqd,Nqe,reduceCtorEq,hv.one]
     refine hQ2 _ _ ⟨_,by rw [hc9];rfl,Z3 (ZO (Ext.refl _)) (Nat.le_refl _),fun c' hc'=>?_⟩
     rw [hc9] at hc'
     cases hc'
     simp (maxDischargeDepth:=60) only [Zs,Zr,evC,Nqa,Nqb,Nqc,Nqd,Nqe,reduceCtorEq]
   ·have hR5:=hR4.ext (Ext.push h4 (.cells [Value.nilIface,iv 0].toArray 142 (0,0)))
    refine hR5.counts.get f1 (fun hn=>?_) fun c v hc9 hv=>?_
    ·refine ⟨(.nilIface,0,()),rfl,?_⟩
     simp (maxDischargeDepth:=60) only [Zs,Zr,evC,Nqa,Nqb,Nqc,Nqd,Nqe,reduceCtorEq]
     exact hQ2 _ _ ⟨_,by rw [hn];rfl,Z3 (ZO (Ext.refl _)) (Nat.le_refl _),fun c hc9=>by rw [hn] at hc9;cases hc9⟩
    ·refine ⟨(v,c.kind,()),rfl,?_⟩
     simp (maxDischargeDepth:=60) only [Zs,Zr,evC,Nqa,Nqb,Nqc,Nqd,Nqe,reduceCtorEq,hv.one]
     refine hQ2 _ _ ⟨_,by rw [hc9];rfl,Z3 (ZO (Ext.refl _)) (Nat.le_refl _),fun c' hc'=>?_⟩
     rw [hc9] at hc'
     cases hc'
     simp (maxDischargeDepth:=60) only [Zs,Zr,evC,Nqa,Nqb,Nqc,Nqd,Nqe,reduceCtorEq]
theorem Zs6 {h:Zb} {T:Nat→Option Nat} {sb:Nat} {S:Srv} (hS:Server h T sb S) {name:ByteArray} (hname:name.size<9223372036854775808) (hnew:Zue S name=false) (hsp:S.spaces.length≤1099511627776) {s:Sl} {fl:List F4} (hr:Row h s 4 (fl.flatMap f4L)) (hfl:fl.length≤1099511627776) (hsl:fl.flatMap f4L≠[]→∀ k,s.blk=some k→T k=none∧k<sz h) {K:Int→Zb→Prop}
    (hk1:∀ e h',e≠0→¬ Zed S name fl→Ext h h'→K e h') (hk2:Zed S name fl→∀ h' T',Server h' T' sb (S.loaded name fl)→Stp T T' h h'→K 0 h'):Zay (some ⟨sb,0,none⟩) name s K h:=by
  obtain ⟨cb,nb,sp,so,ls,hR⟩:=hS
  unfold Zay Zc6
  rw [Y9,YN]
  refine Zl ?_
  refine ZpE hname ?_
  rw [YN]
  cases hnb:Zhk name with
  | false=>exact ZF (hk1 _ _ (by decide) (fun h=>by rw [h.1] at hnb;cases hnb) (Ext.refl _))
  | true =>
  refine Zl ?_
  refine Zlz hr fun h8 e8=>?_
  rw [YN]
  cases hcf:fl.any fun f=> !Zdl f with
  | true=>exact ZF (hk1 _ _ (by decide) (fun h=>by rw [h.2.1] at hcf;cases hcf) e8)
  | false =>
  refine Zl ?_
  have hR8:=hR.ext e8
  refine Zpi hR8.cells hR8.spaces hR8.names (hr.ext e8) fun b h12 hb e12=>?_
  rw [YN]
  have e012:=e8.trans e12
  cases b with
  | true=>exact ZF (hk1 _ _ (by decide) (fun h=>by have:=hb.2 h.2.2.1;cases this) e012)
  | false =>
  refine Zl ?_
  have hR12:=hR.ext e012
  refine Zsn hR12 (hr.ext e012) fun h16 e16=>?_
  rw [YN]
  have e016:=e012.trans e16
  cases hfull:Zuf S name fl with
  | true=>exact ZF (hk1 _ _ (by decide) (fun h=>by rw [h.2.2.2] at hfull;cases hfull) e016)
  | false =>
  have hok:Zed S name fl:=⟨hnb,hcf,hb.1 rfl,hfull⟩
  have hk:=hk2 hok
  refine Zl ?_
  have hR16:=hR.ext e016
  refine ZhK hR16.cells hR16.spaces.own.row fun h20 e20=>?_
  rw [Y9]
  have hixn:ixV (fun x=>ZaF x.1 name) ls = -1:=by
    refine Zfw ?_
    rw [List.findIdx?_eq_none_iff]
    intro x hx
    have h9:(S.spaces.any fun x=>ZaF x.1 name)=false:=hnew
    rw [← hR.names,List.any_map,List.any_eq_false] at h9
    have:=h9 x hx
    simpa using this
  rw [hixn]
  have e020:=e016.trans e20
  have hR20:=hR.ext e020
  have c20:=hR20.cells
  have sbh:=ZS hR.cells
  have hslen:ls.length≤1099511627776:=by
    have:S.spaces.length=ls.length:=by rw [← hR.names,List.length_map]
    omega
  have splen:=Zas Zdj hR.spaces.own.row (by decide)
  have hTn:∀ k,sz h≤k→T k=none:=fun k hk=>hR.no hk
  have hright:∀ f,f∈fl→Zdl f=true:=fun f hf=>by
    have:=List.any_eq_false.1 hcf f hf
    simpa using this
  refine ZoW (fun st h36=>∃ t29:Sl,st=((ls.length:Int),())∧Upd (fun k=>k=sb∨T k=some 1∨T k=none) h20 h36∧obj h36 sb=some (.cells [iv S.begun,iv S.last,slV t29,.map (some cb),.map (some nb),slV so,iv S.next].toArray 118 (0,0)) ∧
      Own h36 0 t29 2 ((ls++[((name,⟨none,0,0⟩,fl):Sp3)]).flatMap spL)∧(∀ k,t29.blk=some k→T k=some 1∨sz h20≤k)∧∀ k,k<sz h20→k≠sb→sp.blk≠some k→h36[k]?=h20[k]?) ?_ ?_
  ·rintro _ h36 ⟨t29,rfl,u36,c36,o36,b36,q36⟩
   dsimp only
   have z36:sz h20≤sz h36:=u36.size
   have z20:=X6 e020
   have hrow36:Row h36 s 4 (fl.flatMap f4L):=(hr.ext e020).congr fun b o hp hne hb=>q36 b hb (fun e=>by
     have:=(hsl hne b (by simp [Sl.blk,hp])).1;rw [e,hR.tsb] at this;cases this) fun e=>by
     have:=(hsl hne b (by simp [Sl.blk,hp])).1;rw [hR.spaces.tag b e] at this;cases this
   refine Zh (Zjk c36 rfl ?_)
   refine Zj3 hrow36 hfl fun t40 h41 ho41 e41=>?_
   have c41:=Yh c36 e41
   have o41:=o36.congr (h':=h41) fun b hb _ _=>e41.old b (o36.lt hb).2
   refine ⟨⟨(Zn c41).trans rfl,trivial⟩,?_⟩
   have hl9:(ls++[((name,⟨none,0,0⟩,fl):Sp3)]).length=ls.length+1:=by simp
   have t29l:=Zas Zdj o41.row (by decide)
   rw [hl9] at t29l
   have hgt:(ls++[((name,⟨none,0,0⟩,fl):Sp3)])[ls.length]?=some (name,⟨none,0,0⟩,fl):=by simp
   obtain ⟨bp,hbp,hbb⟩:=Own.ptr_ o41 (o:=ls.length*2+1) (by rw [Z7 Zdj,hl9];omega)
   refine ⟨bp,0,hbp,by omega,by omega,?_⟩
   rw [show 0+((ls.length:Int)).toNat*2=ls.length*2 from by simp]
   refine Own.stCell o41 hbb (by rw [Z7 Zdj,hl9];omega) ZgR fun h44 o44 u44 z44=>?_
   have hfs:=ZiI Zdj (ls++[((name,⟨none,0,0⟩,fl):Sp3)]) ls.length 1 (slV t40) _ (name,t40,fl) hgt (by decide) (by rfl)
   rw [hfs,List.set_append_right _ _ (Nat.le_refl _),Nat.sub_self,List.set_cons_zero] at o44
   have t29n:∀ k,t29.blk=some k→k≠sb:=fun k hkk e=>by
     subst e
     rcases b36 k hkk with h9 | h9
     ·rw [hR.tsb] at h9;cases h9
     ·omega
   have c44:obj h44 sb=_:=XM c41 u44 (fun e=>t29n sb e rfl)
   have t40n:∀ k,t40.blk=some k→sz h36≤k∧k<sz h41:=fun k hk=>ho41.lt hk
   have ho44:=ho41.congr (h':=h44) fun b hb _ _=>u44.old b (ho41.lt hb).2 fun e=>by
     have h8:=(o36.lt e).2
     have h7:=(ho41.lt hb).1
     omega
   have uall:Upd (fun k=>k=sb∨T k=some 1∨T k=none) h h44:=by
     refine ⟨?_,fun k hk hn=>?_⟩
     ·have h9:=e41.size
      have h8:=u44.size
      simp only [ZE] at *
      omega
     ·have hk':k<sz h:=hk
      have h3:k<sz h36:=by omega
      rw [u44.old k (by have:=e41.size;simp only [ZE] at *;omega) (fun e=>by
        rcases b36 k e with h9 | h9
        ·exact hn (.inr (.inl h9))
        ·omega),e41.old k h3,u36.old k (by rw [ZE];omega) hn,e020.old k hk]
   have z44':sz h44=sz h41:=z44
   have z41:=X6 e41
   let T2:Nat→Option Nat:=fun k=>if t40.blk=some k then some 5 else if t29.blk=some k then some 1 else T k
   have hT2:∀ k t,T k=some t→T2 k=some t:=fun k t hk=>by
     have hkl:=hR.lt k (by rw [hk];exact fun e=>by cases e)
     show (if t40.blk=some k then some 5 else if t29.blk=some k then some 1 else T k)=some t
     rw [if_neg (fun e=>by have:=(t40n k e).1;omega)]
     split
     ·rename_i e
      rcases b36 k e with h9 | h9
      ·rw [← h9,hk]
      ·omega
     ·exact hk
   have hT2n:∀ k,T2 k≠none→T k≠none∨sz h≤k:=fun k hk=>by
     change (if t40.blk=some k then some 5 else if t29.blk=some k then some 1 else T k)≠none at hk
     split at hk
     ·rename_i e;right;have:=(t40n k e).1;omega
     ·split at hk
      ·rename_i e
       rcases b36 k e with h9 | h9
       ·left;rw [h9];exact fun e=>by cases e
       ·right;omega
      ·exact .inl hk
   have hT2l:∀ k,T2 k≠none→k<sz h44:=fun k hk=>by
     change (if t40.blk=some k then some 5 else if t29.blk=some k then some 1 else T k)≠none at hk
     split at hk
     ·rename_i e;have:=(t40n k e).2;omega
     ·split at hk
      ·rename_i e
       have:=(o36.lt e).2
       simp only [ZE] at this
       omega
      ·have:=hR.lt k hk;omega
   have sp2:SpR h44 T2 t29 (ls++[(name,t40,fl)]):=by
     refine ⟨o44,fun k hk=>?_,fun x hx=>?_⟩
     ·show (if t40.blk=some k then some 5 else if t29.blk=some k then some 1 else T k)=some 1
      rw [if_neg (fun e=>?_),if_pos hk]
      have h8:=(o36.lt hk).2
      have h7:=(t40n k e).1
      simp only [ZE] at h8
      omega
     ·rcases List.mem_append.1 hx with hx | hx
      ·obtain ⟨hrx,htx⟩:=hR.spaces.rows x hx
       refine ⟨hrx.congr fun b o hp _ hb=>uall.old b hb fun e=>?_,fun k hk=>hT2 _ _ (htx k hk)⟩
       have h9:=htx b (by simp [Sl.blk,hp])
       rcases e with e | e | e
       ·subst e;rw [hR.tsb] at h9;cases h9
       ·rw [h9] at e;cases e
       ·rw [h9] at e;cases e
      ·simp at hx
       subst hx
       exact ⟨ho44.row,fun k hk=>if_pos hk⟩
   have hR44:=hR.setP uall c44 hT2 hT2l sp2
   have hnm:(ls++[((name,t40,fl):Sp3)]).map (fun x=>(x.1,x.2.2))=S.spaces++[(name,fl)]:=by rw [List.map_append,hR.names];rfl
   rw [hnm] at hR44
   have st44:Stp T T2 h h44:=⟨⟨uall.size,fun k hk hn=>by
     have hk':k<sz h:=hk
     have hTk:T k=none:=by
       cases h9:T k with
       | none=>rfl
       | some t=>exact (hn (by rw [h9];exact fun e=>by cases e)).elim
     rw [u44.old k (by have:=e41.size;simp only [ZE] at *;omega) (fun e=>by
         rcases b36 k e with h9 | h9
         ·rw [hTk] at h9;cases h9
         ·omega),e41.old k (by rw [ZE];omega),q36 k (by omega) (fun e=>by subst e;rw [hR.tsb] at hTk;cases hTk) (fun e=>by rw [hR.spaces.tag k e] at hTk;cases hTk),e020.old k hk]⟩,hT2n⟩
   have hr44:Row h44 s 4 (fl.flatMap f4L):=hr.congr fun b o hp hne hb=>by
     have hbl:s.blk=some b:=by simp [Sl.blk,hp]
     exact st44.upd.old b hb fun e=>e (hsl hne b hbl).1
   refine ZnL hR44 hr44 (fun hne k hk=>?_) (fun f hf=>?_) (K:=fun h9=>Zc 0 fun t103=>K t103 h9)
     (body:=fun J45 b48 o49 s64 h47=>ldI h47 b48 o49 .i64 fun t50=>ldI h47 b48 (o49+1) .i64 fun t51=>ldI h47 b48 (o49+2) .i64 fun t52=>ldI h47 b48 (o49+3) .i64 fun t53 =>
       newC h47 [Value.int .i64 0,Value.int .i64 0,Value.int .i64 0,Value.int .i64 0] 46 fun b54 h55=>sts h55 b54 0 [Value.int .i64 t50,Value.int .i64 t51,Value.int .i64 t52,Value.int .i64 t53] fun h56 =>
       Zg5 (σ:=Option Addr × Bool × Unit) (fun s73 h74=>(fun (c:Option Addr) (there72:Bool) =>
        Zw (!there72) (Zd (some ⟨sb,0,none⟩) fun b75 o76=>ldM h74 b75 (o76+3) fun t77=>ldI h74 b54 0 .i64 fun t78=>ldI h74 b54 0 .i64 fun t79=>ldI h74 b54 (0+1) .i64 fun t80=>ldI h74 b54 (0+2) .i64 fun t81=>ldI h74 b54 (0+3) .i64 fun t82=>ldI h74 b54 (0+2) .i64 fun t83 =>
         YX (t79,t80,t81,t82,()) (fun t84 h85=>ZH (Zi h85 [(b54,0+2,Value.int .i64 t83)]) <| ZH (Zi h85 [(b54,0,Value.int .i64 t78)]) <| ZH (Zi h85 [(b75,o76+3,Value.map t77)]) <| ZH (Zv t84=true) <| X9 (.int .i64) h85 t77 (Value.int .i64 t78) (Value.agg #[t84,Value.int .i64 t83]) fun h86=>J45 (IntKind.wrap .i64 (s64+1),()) h86) h74)
         (Zd c fun b87 o88=>ldI h74 b87 (o88+1) .i64 fun t89=>ldI h74 b54 (0+2) .i64 fun t90=>Zw (t89 !=t90)
           (Zd (some ⟨sb,0,none⟩) fun b91 o92=>ldM h74 b91 (o92+3) fun t93=>ldI h74 b54 0 .i64 fun t94=>ldI h74 b54 0 .i64 fun t95=>ldI h74 b54 (0+1) .i64 fun t96=>ldI h74 b54 (0+2) .i64 fun t97=>ldI h74 b54 (0+3) .i64 fun t98=>ldI h74 b54 (0+2) .i64 fun t99 =>
             YX (t95,t96,t97,t98,()) (fun t100 h101=>ZH (Zi h101 [(b54,0+2,Value.int .i64 t99)]) <| ZH (Zi h101 [(b54,0,Value.int .i64 t94)]) <| ZH (Zi h101 [(b91,o92+3,Value.map t93)]) <| ZH (Zv t100=true) <| X9 (.int .i64) h101 t93 (Value.int .i64 t94) (Value.agg #[t100,Value.int .i64 t99]) fun h102=>J45 (IntKind.wrap .i64 (s64+1),()) h102) h74)
           (J45 (IntKind.wrap .i64 (s64+1),()) h74))) s73.1 s73.2.1) (fun J57 =>
        Zd (some ⟨sb,0,none⟩) fun b58 o59=>ldM h56 b58 (o59+3) fun t60=>ldI h56 b54 0 .i64 fun t61=>Zfj
         (XF (.int .i64) h56 t60 (Value.int .i64 t61) fun r=>exG (r.getD (Value.agg #[Value.nilIface,Value.int .i64 0])) (fun t62:Value × Int × Unit=>Value.agg #[t62.1,Value.int .i64 t62.2.1]) fun t62=>newC h56 [Value.nilIface,Value.int .i64 0] 142 fun b63 h64=>sts h64 b63 0 [t62.1,Value.int .i64 t62.2.1] fun h65=>ZG r.isSome fun there=>J57 (some ⟨b63,0,none⟩,there,()) h65)
         (newC h56 [Value.nilIface,Value.int .i64 0] 142 fun b66 h67=>ZH (Zi h67 [(b54,0,Value.int .i64 t61)]) <| ZH (Zi h67 [(b58,o59+3,Value.map t60)]) <| XF (.int .i64) h67 t60 (Value.int .i64 t61) fun r68=>exG (r68.getD (Value.agg #[Value.nilIface,Value.int .i64 0])) (fun t69:Value × Int × Unit=>Value.agg #[t69.1,Value.int .i64 t69.2.1]) fun t69=>sts h67 b66 0 [t69.1,Value.int .i64 t69.2.1] fun h70=>ZG r68.isSome fun there71=>J57 (some ⟨b66,0,none⟩,there71,()) h70)))
     (fun i f b o h1 T1 S1 Q hfi hR1 hcell hQ=>Zr5 hR1 ?_ hcell hQ rfl rfl) (fun h9 T9 hR9 st9=>?_)
   ·show (if t40.blk=some k then some 5 else if t29.blk=some k then some 1 else T k)=none
    rw [if_neg,if_neg]
    ·exact (hsl hne k hk).1
    ·intro e
     rcases b36 k e with h9 | h9
     ·rw [(hsl hne k hk).1] at h9;cases h9
     ·have:=(hsl hne k hk).2
      omega
    ·intro e
     have:=(hsl hne k hk).2
     have:=(t40n k e).1
     omega
   ·exact hright f hf
   ·exact hright f (List.mem_of_getElem? hfi)
   ·rw [Y9]
    exact hk h9 T9 ⟨cb,nb,t29,so,_,hR9⟩ (st44.trans st9)
  ·intro Q hQ
   refine ZF ?_
   have z20:=X6 e020
   simp (maxDischargeDepth:=60) only [Zs,Zr,evC,Nqa,Nqb,Nqc,Nqd,Nqe,reduceCtorEq,c20]
   have hsl20:=hR20.spaces.own
   have hcap:=hsl20.cap
   have hrow:Row (h20.push (.cells (spL (name,⟨none,0,0⟩,fl)).toArray 137 (0,0))) ⟨some ⟨sz h20,0,none⟩,1,1⟩ 2 (spL (name,⟨none,0,0⟩,fl)) :=
     (Own.newC (h:=h20) (cells:=spL (name,⟨none,0,0⟩,fl)) (t:=137) (size:=2) (n:=1) rfl (by decide)).row
   have e28:Ext h20 (h20.push (.cells (spL (name,⟨none,0,0⟩,fl)).toArray 137 (0,0))):=Ext.push _ _
   refine hrow.rd ?_
   change app _ _ _ _ _ _ _ (h20.push (.cells (spL (name,⟨none,0,0⟩,fl)).toArray 137 (0,0))) _
   generalize h20.push (.cells (spL (name,⟨none,0,0⟩,fl)).toArray 137 (0,0))=h28 at e28 hrow ⊢
   have o28:=hsl20.congr (h':=h28) fun b hb _ _=>e28.old b (hsl20.lt hb).2
   refine Own.app o28 rfl (by simp [spL,Zf8,ZgR]) rfl (by omega) (by omega) (Nat.zero_le _) fun t29 h30 o30 l30 u30 b30=>?_
   have spn:∀ k,sp.blk=some k→T k=some 1:=hR.spaces.tag
   have nsb:¬ sp.blk=some sb:=fun e=>by have:=spn sb e;rw [hR.tsb] at this;cases this
   have c30:=XM (Yh c20 e28) u30 nsb
   simp (maxDischargeDepth:=60) only [Zs,Zr,evC,Nqa,Nqb,Nqc,Nqd,Nqe,reduceCtorEq,c30]
   have u33:Upd (· = sb) h30 (Zb.put h30 sb 2 (slV t29)):=Upd.put _ _ _ _
   have b29:∀ k,t29.blk=some k→T k=some 1∨sz h20≤k:=fun k hk=>by
     rcases b30 with e | e
     ·rw [e] at hk;exact .inl (spn k hk)
     ·rw [e] at hk;cases hk;right;have:=e28.size;simp only [ZE] at *;omega
   have t29n:∀ k,t29.blk=some k→k≠sb:=fun k hkk e=>by
     subst e
     rcases b29 k hkk with h9 | h9
     ·rw [hR.tsb] at h9;cases h9
     ·omega
   rw [splen]
   refine hQ _ _ ⟨t29,rfl,?_,?_,?_,b29,fun k h1 h2 h3=>?_⟩
   ·refine ⟨?_,fun k hk hn=>?_⟩
    ·have h9:=e28.size
     have h8:=u30.size
     have h7:=u33.size
     simp only [ZE] at *
     omega
    ·have h9:=e28.size
     rw [u33.old k (by have:=u30.size;simp only [ZE] at *;omega) (fun e=>hn (.inl e)),u30.old k (by simp only [ZE] at *;omega) (fun e=>hn (.inr (.inl (spn k e)))),e28.old k hk]
   ·simp (maxDischargeDepth:=60) only [Zs,Zr,evC,Nqa,Nqb,Nqc,Nqd,Nqe,reduceCtorEq,c30]
   ·rw [List.flatMap_append]
    have:[((name,⟨none,0,0⟩,fl):Sp3)].flatMap spL=spL (name,⟨none,0,0⟩,fl):=by simp
    rw [this]
    exact o30.congr fun b hb _ _=>u33.old b (o30.lt hb).2 (t29n b hb)
   ·have h9:=e28.size
    have h8:=u30.size
    rw [u33.old k (by simp only [ZE] at *;omega) h2,u30.old k (by simp only [ZE] at *;omega) h3,e28.old k (by simp only [ZE] at *;omega)]
theorem Zvg {h h':Zb} {T:Nat→Option Nat} {sb:Nat} {S:Srv} (hS:Server h T sb S) (he:Ext h h'):Server h' T sb S:=by
  obtain ⟨cb,nb,sp,so,ls,hR⟩:=hS
  exact ⟨cb,nb,sp,so,ls,hR.ext he⟩
theorem Zk2 {h h':Zb} {T:Nat→Option Nat} {sb:Nat} {S:Srv} (hS:Server h T sb S) (hz:sz h≤sz h') (he:∀ k,T k≠none→h'[k]?=h[k]?):Server h' T sb S:=by
  obtain ⟨cb,nb,sp,so,ls,hR⟩:=hS
  exact ⟨cb,nb,sp,so,ls,hR.congr hz he⟩
theorem rB {h:Zb} {b o:Nat} {n:Bool} {K:Bool→Prop} (hc:ZL o (obj h b)=some (.bool n)) (hk:K n):ldB h b o K:=by rw [Zzz hc];exact hk
theorem rS {h:Zb} {b o:Nat} {n:ByteArray} {K:ByteArray→Prop} (hc:ZL o (obj h b)=some (.string n)) (hk:K n):ldS h b o K:=by rw [Zvq hc];exact hk
theorem held1 {hh:Zb} {b o:Nat} {v:Value} (hc:ZL o (obj hh b)=some v):Zi hh [(b,o,v)]:=by rw [Zbd,ZcR];exact ⟨hc,trivial⟩
theorem wrS {i n:Nat} (h:i<n) (hn:n<9223372036854775808):IntKind.wrap .i64 ((i:Int)+1)=((i+1:Nat):Int):=by rw [ZR (by omega) (by omega)];rfl
def Zvy (S:Srv) (conn:Int):Int:=if (S.conns conn).isSome then 0 else 4
def Srv.closed (S:Srv) (conn:Int):Srv:=if (S.conns conn).isSome then { S with conns:=fun i=>if i=conn then none else S.conns i,nn:=S.nn - 1 } else S
theorem Zqb {h:Zb} {T:Nat→Option Nat} {sb:Nat} {S:Srv} (hS:Server h T sb S) {conn:Int} {K:Int→Zb→Prop}
    (hk:∀ h',Server h' T sb (S.closed conn)→Stp T T h h'→K (Zvy S conn) h'):Zad (some ⟨sb,0,none⟩) conn K h:=by
  obtain ⟨cb,nb,sp,so,ls,hR⟩:=hS
  unfold Zad Zcq
  unfold Srv.closed Zvy at hk
  refine Za (Zl (Zh (rM (Zt hR.cells rfl) ?_)))
  refine hR.conns.get conn ?_
  cases hc:S.conns conn with
  | none =>
    rw [hc] at hk
    refine ⟨ByteArray.mk #[],rfl,?_⟩
    rw [YN]
    exact ZF (Za (hk h ⟨cb,nb,sp,so,ls,hR⟩ (Stp.refl _ _)))
  | some ns =>
    rw [hc] at hk
    refine ⟨ns,rfl,?_⟩
    rw [YN]
    refine Zl (Zh (rM (Zt hR.cells rfl) ?_))
    refine hR.conns.del conn fun h' hm hu hz=>Za (hk h' ⟨cb,nb,sp,so,ls,?_⟩ ⟨hu.mono fun k _ hk=>by subst hk;rw [hR.tnb];exact (fun e=>by cases e),fun _ h=> .inl h⟩)
    have e:upd (fun i=>(S.conns i).map Value.string) conn none=fun i=>(if i=conn then none else S.conns i).map .string:=by
      funext i
      unfold upd
      split<;>rfl
    rw [e,hc] at hm
    exact hR.setN hu hm
end Go.Proofs.YtbppjmcinoffnaaGreat.Tk
