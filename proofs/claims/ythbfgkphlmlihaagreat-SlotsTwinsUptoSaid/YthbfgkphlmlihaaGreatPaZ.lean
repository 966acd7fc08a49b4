/- Proved here: 'SlotsTwins' returns true and leaves its arguments as they were, where what it reads is of bulk at most 1048576. -/
import Derived.Test.YthbfgkphlmlihaaGreatRows
import Derived.WalkKit
import Derived.ProofKit
import Derived.OpenShut
import Derived.ShutString
import Derived.ChangeOld
import Derived.JoinedCond
import Derived.Test.YthbfgkphlmlihaaGreatPa18
namespace Go.Proofs.YthbfgkphlmlihaaGreat.slotsTwins
open Go Go.Fw
open Nat renaming reduceAdd->Nqa,reduceLT->Nqb,reduceLeDiff->Nqc,reduceEqDiff->Nqd,reduceMul->Nqe
open Go.ChangeShapes Go.WideShapes Go.ChangeAt Go.RowKit
theorem own:ownKnob Tryz.prog.godebug=none:=by kernel_rfl
theorem Zs8:laidOutB Tryz.prog=true:=by kernel_rfl
theorem walk (f:Int) (g:Int) (c:Option Addr) (len2 a:Nat) (b:List Zse) (w:World) (d:Row w.heap ⟨c,len2,a⟩ 19 (b.flatMap ZrY)/\∀ y,y∈b->ZjY w.heap (sz w.heap) y.1 y.2.1 y.2.2) :
    Calls Tryz.prog 6 #[.int .i64 f,.int .u64 g,.slice c len2 a] w fun e w'=>e = .returned (.bool true)/\Below w.heap.size w w' :=
  ZxH Zg2 (f,g,⟨c,len2,a⟩,()) w rfl (Zol (K:=fun r h'=>Value.bool r = .bool true/\Ext w.heap h') d fun _ h=>⟨rfl,h⟩)
set_option maxRecDepth 100000 in
theorem ZGR (os:Os) (started:os.Started) (H:Type) (enc:TypeId × Value->H) (F:Stop.Interp) :
    ReturnsInHanded {} Tryz.checked os 6 .any ((Rows.OpenSpec.upto Rows.slotsTwinsSpec).pre6 enc Tryz.prog Tryz.f6 Rows.slotsTwinsUptoRow.domain false) (((Rows.OpenSpec.upto Rows.slotsTwinsSpec).at F).post enc Tryz.prog Tryz.f6 false true false false):=by
  refine returnsInHanded_of_cond (C:=Tryz.checked) (s:=Rows.OpenSpec.upto Rows.slotsTwinsSpec) (k:=Rows.uptoSmall) rfl own started (by kernel_rfl) Tryz.func6
    (OpenSpec.witness (enc:=enc) (C:=Tryz.checked) (s:=Rows.OpenSpec.upto Rows.slotsTwinsSpec) (k:=Rows.uptoSmall) rfl false ⟨#[],#[.int .i64 0,.int .u64 0,.slice none 0 0],[]⟩ 8 (by kernel_rfl) (by kernel_rfl) (by kernel_rfl)
      (x:=([.lit (.int .i64 0),.lit (.int .u64 0),.nil],[],[])) (by kernel_rfl) rfl (by kernel_rfl)) ?_
  intro W base args J gs before b z A K _;have a:∀ (j:Nat) t v,Tryz.f6.params[j]?=some t->args[j]?=some v->Value.okWide Tryz.prog W .any base t v:=b;have n:=z;obtain ⟨p,q,d,L,rfl,M,N⟩:=z;have B:DataW.TrodAll enc Tryz.prog W 0 (fun _=>true) true Tryz.f6.params.toList args.toList J p:=d;rw [Tryz.params6] at B a;obtain ⟨v0,O,d0,P,Q,q0,o,rfl,rfl,h0,t0⟩:=trodAll_cons B;obtain ⟨v1,R,d1,S,T,q1,rfl,rfl,rfl,h1,t1⟩:=trodAll_cons t0;obtain ⟨v2,U,d2,V,X,q2,rfl,rfl,rfl,D,t2⟩:=trodAll_cons t1;obtain ⟨rfl,rfl,rfl⟩:=trodAll_nil t2;obtain rfl:args = #[v0,v1,v2]:=by cases args;simp_all
  obtain ⟨rfl,rfl⟩:=trodVars_none L;obtain ⟨Y,rfl⟩:=okWide_int Tryz.underlying3 (a 0 3 v0 rfl rfl);obtain ⟨Z,rfl⟩:=okWide_int Tryz.underlying27 (a 1 27 v1 rfl rfl);obtain ⟨a2,len2,f,rfl⟩:=okWide_slice Tryz.underlying55 (a 2 55 v2 rfl rfl);have E:=h0;have r:∀ x∈Q,x.block<W.heap.size:=by obtain ⟨m,hm⟩:=E;exact DataW.trod_lt m _ _ _ hm
  have G:=h1;have u:∀ x∈T,x.block<W.heap.size:=by obtain ⟨m,hm⟩:=G;exact DataW.trod_lt m _ _ _ hm
  have I:=D;have w:∀ x∈X,x.block<W.heap.size:=by obtain ⟨m,hm⟩:=I;exact DataW.trod_lt m _ _ _ hm
  obtain ⟨ae,g⟩:=D
  have i:Rows.uptoBulk d2<=1048576:=by
    have h:Rows.uptoBulkAll ([d0,d1,d2]++[])<=1048576:=of_decide_eq_true K;simp only [Ayt,Rows.uptoBulkAll] at h;omega
  obtain ⟨y,l⟩:=ZvS (x:=(d2,_)) i g;clear d b;refine (walk Y Z a2 len2 f y W l).mono fun e W' ⟨he,c⟩=>?_;subst he;exact ⟨_,rfl,_,_,_,[],_,[],n,trodAll_mk1 (shut_bool Tryz.underlying4 _),(trodAll_cons_mk (Below.trod Zs8 (by kernel_rfl) (of_decide_eq_true (by kernel_rfl)) E c r) (trodAll_cons_mk (Below.trod Zs8 (by kernel_rfl) (of_decide_eq_true (by kernel_rfl)) G c u) (trodAll_cons_mk (Below.trod Zs8 (by kernel_rfl) (of_decide_eq_true (by kernel_rfl)) I c w) trodAll_mk0))),rfl,c.frame _,fun h=>by cases h⟩
theorem ZRw {a b:Bool} (c:a=true) (d:b=true):(a&&b)=true:=by rw [c,d];rfl
set_option maxHeartbeats 4000000 in
theorem proved:Rows.SlotsTwinsUptoSaid :=
  OpenClaim.holds_of_cond 6 Tryz.f6 rfl rfl rfl rfl rfl rfl rfl ⟨rfl,rfl,rfl,rfl,rfl⟩ rfl rfl rfl rfl rfl (by kernel_rfl) Tryz.func6 (by unfold joinedFacts;(repeat' with_reducible refine ZRw ?_ ?_);all_goals as_aux_lemma=>kernel_rfl)
    (of_decide_eq_true (by as_aux_lemma=>kernel_rfl)) (by unfold Func.isWrapper;first | (rw [if_pos (by decide +kernel)];kernel_rfl) | (rw [if_neg (by decide +kernel)];exact ⟨rfl,rfl⟩))
    (fun os started H enc _ F=>ZGR os started H enc F)
end Go.Proofs.YthbfgkphlmlihaaGreat.slotsTwins
