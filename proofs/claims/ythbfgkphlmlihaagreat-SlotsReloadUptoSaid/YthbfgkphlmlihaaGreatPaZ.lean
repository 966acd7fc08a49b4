/- Proved here: 'SlotsReload' returns true and leaves its arguments as they were, where what it reads is of bulk at most 1048576. -/
import Derived.Test.YthbfgkphlmlihaaGreatRows
import Derived.WalkKit
import Derived.ProofKit
import Derived.OpenShut
import Derived.ShutString
import Derived.ChangeOld
import Derived.JoinedCond
import Derived.Test.YthbfgkphlmlihaaGreatPa18
namespace Go.Proofs.YthbfgkphlmlihaaGreat.slotsReload
open Go Go.Fw
open Nat renaming reduceAdd->Nqa,reduceLT->Nqb,reduceLeDiff->Nqc,reduceEqDiff->Nqd,reduceMul->Nqe
open Go.ChangeShapes Go.WideShapes Go.ChangeAt Go.RowKit
theorem own:ownKnob Tryz.prog.godebug=none:=by kernel_rfl
theorem ZEe:laidOutB Tryz.prog=true:=by kernel_rfl
theorem walk (a0:Option Addr) (a b:Nat) (c:List Zsp) (w:World) (d:Row w.heap ⟨a0,a,b⟩ 19 (c.flatMap Zr8)/\∀ y,y∈c->Zj1 w.heap (sz w.heap) y.1 y.2.1 y.2.2) :
    Calls Tryz.prog 7 #[.slice a0 a b] w λe w'=>e = .returned (.bool true)/\Below w.heap.size w w' :=
  ZxQ ZgF (⟨a0,a,b⟩,()) w rfl (ZmO (K:=λr h'=>Value.bool r = .bool true/\Ext w.heap h') d λ_ f=>⟨rfl,f⟩)
set_option maxRecDepth 100000 in
theorem ZG2 (os:Os) (started:os.Started) (H:Type) (enc:TypeId × Value->H) (F:Stop.Interp) :
    ReturnsInHanded {} Tryz.checked os 7 .any ((Rows.OpenSpec.upto Rows.slotsReloadSpec).pre6 enc Tryz.prog Tryz.f7 Rows.slotsReloadUptoRow.domain false) (((Rows.OpenSpec.upto Rows.slotsReloadSpec).at F).post enc Tryz.prog Tryz.f7 false true false false):=by
  refine returnsInHanded_of_cond (C:=Tryz.checked) (s:=Rows.OpenSpec.upto Rows.slotsReloadSpec) (k:=Rows.uptoSmall) rfl own started (by kernel_rfl) Tryz.func7
    (OpenSpec.witness (enc:=enc) (C:=Tryz.checked) (s:=Rows.OpenSpec.upto Rows.slotsReloadSpec) (k:=Rows.uptoSmall) rfl false ⟨#[],#[.slice none 0 0],[]⟩ 8 (by kernel_rfl) (by kernel_rfl) (by kernel_rfl)
      (x:=([.nil],[],[])) (by kernel_rfl) rfl (by kernel_rfl)) ?_
  intro W base args D gs before a y z E _;have b:∀ (j:Nat) t v,Tryz.f7.params[j]?=some t->args[j]?=some v->Value.okWide Tryz.prog W .any base t v:=a;have o:=y;obtain ⟨p,q,c,G,rfl,I,J⟩:=y;have A:DataW.TrodAll enc Tryz.prog W 0 (λ_=>true) true Tryz.f7.params.toList args.toList D p:=c;rw [Tryz.params7] at A b;obtain ⟨v0,K,d0,L,M,O,r,rfl,rfl,h0,t0⟩:=trodAll_cons A;obtain ⟨rfl,rfl,rfl⟩:=trodAll_nil t0;obtain rfl:args = #[v0]:=by cases args;simp_all
  obtain ⟨rfl,rfl⟩:=trodVars_none G;obtain ⟨a0,d,f,rfl⟩:=okWide_slice Tryz.underlying55 (b 0 55 v0 rfl rfl);have B:=h0;have u:∀ x∈M,x.block<W.heap.size:=by obtain ⟨m,hm⟩:=B;exact DataW.trod_lt m _ _ _ hm
  obtain ⟨N,g⟩:=h0
  have i:Rows.uptoBulk d0<=1048576:=by
    have h:Rows.uptoBulkAll ([d0]++[])<=1048576:=of_decide_eq_true E;simp only [Ayt,Rows.uptoBulkAll] at h;omega
  obtain ⟨w,l⟩:=Zv1 (x:=(d0,_)) i g;clear c a;refine (walk a0 d f w W l).mono λe P ⟨he,n⟩=>?_;subst he;exact ⟨_,rfl,_,_,_,[],_,[],o,trodAll_mk1 (shut_bool Tryz.underlying4 _),(trodAll_cons_mk (Below.trod ZEe (by kernel_rfl) (of_decide_eq_true (by kernel_rfl)) B n u) trodAll_mk0),rfl,n.frame _,λh=>by cases h⟩
theorem ZRF {a b:Bool} (c:a=true) (d:b=true):(a&&b)=true:=by rw [c,d];rfl
set_option maxHeartbeats 4000000 in
theorem proved:Rows.SlotsReloadUptoSaid :=
  OpenClaim.holds_of_cond 7 Tryz.f7 rfl rfl rfl rfl rfl rfl rfl ⟨rfl,rfl,rfl,rfl,rfl⟩ rfl rfl rfl rfl rfl (by kernel_rfl) Tryz.func7 (by unfold joinedFacts;(repeat' with_reducible refine ZRF ?_ ?_);all_goals as_aux_lemma=>kernel_rfl)
    (of_decide_eq_true (by as_aux_lemma=>kernel_rfl)) (by unfold Func.isWrapper;first | (rw [if_pos (by decide +kernel)];kernel_rfl) | (rw [if_neg (by decide +kernel)];exact ⟨rfl,rfl⟩))
    (λos started H enc _ F=>ZG2 os started H enc F)
end Go.Proofs.YthbfgkphlmlihaaGreat.slotsReload
