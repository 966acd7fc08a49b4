/- Proved here: 'ClusterGrants' returns true and leaves its arguments as they were, where what it reads is of bulk at most 1048576. -/
import Derived.Test.YtbppjmcinoffnaaGreatRows
import Derived.WalkKit
import Derived.ProofKit
import Derived.OpenShut
import Derived.ShutString
import Derived.ChangeOld
import Derived.JoinedCond
import Derived.Test.YtbppjmcinoffnaaGreatPa18
namespace Go.Proofs.YtbppjmcinoffnaaGreat.clusterGrants
open Go Go.Fw
open Nat renaming reduceAdd→Nqa,reduceLT→Nqb,reduceLeDiff→Nqc,reduceEqDiff→Nqd,reduceMul→Nqe
open Go.ChangeShapes Go.WideShapes Go.ChangeAt Go.RowKit
theorem own:ownKnob Tryz.prog.godebug=none:=by kernel_rfl
theorem Zsd:laidOutB Tryz.prog=true:=by kernel_rfl
theorem ZIW (a0 b0 c0 d0 e0:Int) (s0:Sl) (lb0:List Tk.F4) (a1:Option Addr) (len1 cap1:Nat) (lb1:List Op) (w:World) (hr0:Row w.heap s0 4 (lb0.flatMap Tk.f4L)∧(-9223372036854775808≤b0∧b0<9223372036854775808)) (hr1:Row w.heap ⟨a1,len1,cap1⟩ 10 (lb1.flatMap opL)∧∀ o,o∈lb1→Zxo o) (hb0:lb0.length≤1048576) (hb1:lb1.length≤1048576) :
    Calls Tryz.prog 4 #[.agg #[.int .i64 a0,.int .i64 b0,.int .i64 c0,.int .i64 d0,.int .i64 e0,slV s0],.slice a1 len1 cap1] w fun e w'=>e = .returned (.bool true)∧Below w.heap.size w w' :=
  Zsc Zd0 ((a0,b0,c0,d0,e0,s0,()),⟨a1,len1,cap1⟩,()) w rfl (ZhC (K:=fun r h'=>Value.bool r = .bool true∧Ext w.heap h') hr0 hr1 hb0 hb1 fun _ hx=>⟨rfl,hx⟩)
set_option maxRecDepth 100000 in
theorem Zzo (os:Os) (started:os.Started) (H:Type) (enc:TypeId × Value→H) (F:Stop.Interp) :
    ReturnsInHanded {} Tryz.checked os 4 .any ((Rows.OpenSpec.upto Rows.clusterGrantsSpec).pre6 enc Tryz.prog Tryz.f4 Rows.clusterGrantsUptoRow.domain false) (((Rows.OpenSpec.upto Rows.clusterGrantsSpec).at F).post enc Tryz.prog Tryz.f4 false true false false):=by
  refine returnsInHanded_of_cond (C:=Tryz.checked) (s:=Rows.OpenSpec.upto Rows.clusterGrantsSpec) (k:=Rows.uptoSmall) rfl own started (by kernel_rfl) Tryz.func4
    (OpenSpec.witness (enc:=enc) (C:=Tryz.checked) (s:=Rows.OpenSpec.upto Rows.clusterGrantsSpec) (k:=Rows.uptoSmall) rfl false ⟨#[],#[.agg #[.int .i64 0,.int .i64 0,.int .i64 0,.int .i64 0,.int .i64 0,.slice none 0 0],.slice none 0 0],[]⟩ 8 (by kernel_rfl) (by kernel_rfl) (by kernel_rfl)
      (x:=([.agg [.lit (.int .i64 0),.lit (.int .i64 0),.agg [.lit (.int .i64 0),.lit (.int .i64 0),.lit (.int .i64 0)],.nil],.nil],[],[])) (by kernel_rfl) rfl (by kernel_rfl)) ?_
  intro W base args ds gs before hval0 hW hcnd hk _
  have hval:∀ (j:Nat) t v,Tryz.f4.params[j]?=some t→args[j]?=some v→Value.okWide Tryz.prog W .any base t v:=hval0
  have hW':=hW
  obtain ⟨p,q,hA0,hV,rfl,hfz,hnd⟩:=hW
  have hA:DataW.TrodAll enc Tryz.prog W 0 (fun _=>true) true Tryz.f4.params.toList args.toList ds p:=hA0
  rw [Tryz.params4] at hA hval
  obtain ⟨v0,vs0,d0,ds0,p0,q0,hargs,rfl,rfl,h0,t0⟩:=trodAll_cons hA
  obtain ⟨v1,vs1,d1,ds1,p1,q1,rfl,rfl,rfl,h1,t1⟩:=trodAll_cons t0
  obtain ⟨rfl,rfl,rfl⟩:=trodAll_nil t1
  obtain rfl:args = #[v0,v1]:=by cases args;simp_all
  obtain ⟨rfl,rfl⟩:=trodVars_none hV
  obtain ⟨cs0,rfl,_⟩:=okWide_struct Tryz.underlying26 (hval 0 26 v0 rfl rfl)
  obtain ⟨a1,len1,cap1,rfl⟩:=okWide_slice Tryz.underlying27 (hval 1 27 v1 rfl rfl)
  have k0:=h0
  have lt0:∀ x∈p0,x.block<W.heap.size:=by obtain ⟨m,hm⟩:=k0;exact DataW.trod_lt m _ _ _ hm
  obtain ⟨fu0,hfu0⟩:=h0
  obtain ⟨a0,b0,c0,dd0,e0,s0,lb0,hc0,hlb0,hbulk0⟩:=ZsT Tryz.underlying26 (by kernel_rfl) Tryz.underlying3 Tryz.underlying23 Tryz.underlying24 Tryz.underlying46 Tryz.underlying44 (by kernel_rfl) (by kernel_rfl) (by kernel_rfl) (by kernel_rfl) (by kernel_rfl) (by kernel_rfl) (by kernel_rfl) (by kernel_rfl) hfu0
  obtain rfl:cs0 = #[.int .i64 a0,.int .i64 b0,.int .i64 c0,.int .i64 dd0,.int .i64 e0,slV s0]:=by apply Array.ext';exact hc0
  have k1:=h1
  have lt1:∀ x∈p1,x.block<W.heap.size:=by obtain ⟨m,hm⟩:=k1;exact DataW.trod_lt m _ _ _ hm
  obtain ⟨fu1,hfu1⟩:=h1
  obtain ⟨lb1,hlb1,hbulk1⟩:=Zxk Tryz.underlying27 Tryz.underlying41 (by kernel_rfl) Tryz.underlying3 Tryz.underlying39 Tryz.underlying37 Tryz.underlying9 Tryz.underlying36 (by kernel_rfl) (by kernel_rfl) (by kernel_rfl) (by kernel_rfl) (by kernel_rfl) (by kernel_rfl) (by kernel_rfl) hfu1
  have hsmall:lb0.length≤1048576∧lb1.length≤1048576:=by
    have h:Rows.uptoBulkAll ([d0,d1]++[])≤1048576:=of_decide_eq_true hk
    simp only [List.append_nil,Rows.uptoBulkAll] at h
    dsimp only at hbulk0 hbulk1
    omega
  clear hA0 hval0
  refine (ZIW a0 b0 c0 dd0 e0 s0 lb0 a1 len1 cap1 lb1 W hlb0 hlb1 hsmall.1 hsmall.2).mono fun e W' ⟨he,bel⟩=>?_
  subst he
  exact ⟨_,rfl,_,_,_,[],_,[],hW',trodAll_mk1 (shut_bool Tryz.underlying4 _),(trodAll_cons_mk (Below.trod Zsd (by kernel_rfl) (of_decide_eq_true (by kernel_rfl)) k0 bel lt0) (trodAll_cons_mk (Below.trod Zsd (by kernel_rfl) (of_decide_eq_true (by kernel_rfl)) k1 bel lt1) trodAll_mk0)),rfl,bel.frame _,fun h=>by cases h⟩
theorem proved:Rows.ClusterGrantsUptoSaid :=
  OpenClaim.holds_of_cond 4 Tryz.f4 rfl rfl rfl rfl rfl rfl rfl ⟨rfl,rfl,rfl,rfl,rfl⟩ rfl rfl rfl rfl rfl (by kernel_rfl) Tryz.func4 (by kernel_rfl)
    (of_decide_eq_true (by kernel_rfl)) (by unfold Func.isWrapper;first | (rw [if_pos (by decide +kernel)];kernel_rfl) | (rw [if_neg (by decide +kernel)];exact ⟨rfl,rfl⟩))
    (fun os started H enc _ F=>Zzo os started H enc F)
end Go.Proofs.YtbppjmcinoffnaaGreat.clusterGrants
