/- Proved here: 'SlotsNone' returns true and leaves its arguments as they were, where what it reads is of bulk at most 1048576. -/
import Derived.Test.YtonbfpnngkemiaaGreatRows
import Derived.WalkKit
import Derived.ProofKit
import Derived.OpenShut
import Derived.ShutString
import Derived.ChangeOld
import Derived.JoinedCond
import Derived.Test.YtonbfpnngkemiaaGreatPa19
namespace Go.Proofs.YtonbfpnngkemiaaGreat.slotsNone
open Go Go.Fw
open Nat renaming reduceAdd->Nqa,reduceLT->Nqb,reduceLeDiff->Nqc,reduceEqDiff->Nqd,reduceMul->Nqe
open Go.ChangeShapes Go.WideShapes Go.ChangeAt Go.RowKit
theorem own:ownKnob Tryz.prog.godebug=none:=by kernel_rfl
theorem Zx5:laidOutB Tryz.prog=true:=by kernel_rfl
theorem walk(c0:PC)(f:Sl)(a:Rw.VTR)(c:Go.Js.RulesP)(w:World)(d:Rw.Yn w.heap (λb=>b<sz w.heap) a c/\c.rng/\c.wt<=16777216):
    Calls Tryz.prog 4 #[.agg (c8L (cl c0 f)).toArray,.agg (Rw.Zjw a).toArray] w λe w'=>e= .returned (.bool true)/\Below w.heap.size w w':=
  Zx4 ZhK (cl c0 f,a,()) w rfl (Zo7 (K:=λr h'=>Value.bool r= .bool true/\Ext w.heap h') d λ_ g=>⟨rfl,g⟩)
set_option maxRecDepth 100000 in
theorem ZHk(os:Os)(started:os.Started)(H:Type)(enc:TypeId×Value->H)(F:Stop.Interp):
    ReturnsInHanded {} Tryz.checked os 4 .any ((Rows.OpenSpec.upto Rows.slotsNoneSpec).pre6 enc Tryz.prog Tryz.f4 Rows.slotsNoneUptoRow.domain false) (((Rows.OpenSpec.upto Rows.slotsNoneSpec).at F).post enc Tryz.prog Tryz.f4 false true false false):=by
  refine returnsInHanded_of_cond (C:=Tryz.checked) (s:=Rows.OpenSpec.upto Rows.slotsNoneSpec) (k:=Rows.uptoSmall) rfl own started (by kernel_rfl) Tryz.func4
    (OpenSpec.witness (enc:=enc) (C:=Tryz.checked) (s:=Rows.OpenSpec.upto Rows.slotsNoneSpec) (k:=Rows.uptoSmall) rfl false ⟨#[],#[.agg #[.int .i64 0,.string ByteArray.empty,.string ByteArray.empty,.string ByteArray.empty,.bool false,.int .i64 0,.slice none 0 0],.agg #[.slice none 0 0,.slice none 0 0,.slice none 0 0,.slice none 0 0,.slice none 0 0]],[]⟩ 8 (by kernel_rfl) (by kernel_rfl) (by kernel_rfl)
      (x:=([.agg [.lit (.int .i64 0),.lit (.string []),.lit (.string []),.lit (.string []),.lit (.bool false),.lit (.int .i64 0),.nil],.agg [.nil,.nil,.nil,.nil,.nil]],[],[])) (by kernel_rfl) rfl (by kernel_rfl)) ?_
  intro W base args L gs before a B D M _;have b:∀(j:Nat) t v,Tryz.f4.params[j]?=some t->args[j]?=some v->Value.okWide Tryz.prog W .any base t v:=a;have n:=B;obtain⟨p,q,d,N,rfl,O,P⟩:=B;have E:DataW.TrodAll enc Tryz.prog W 0 (λ_=>true) true Tryz.f4.params.toList args.toList L p:=d;rw[Tryz.params4]at E b;obtain⟨v0,Q,d0,R,S,q0,o,rfl,rfl,h0,t0⟩:=trodAll_cons E;obtain⟨v1,T,d1,U,V,q1,rfl,rfl,rfl,h1,t1⟩:=trodAll_cons t0;obtain⟨rfl,rfl,rfl⟩:=trodAll_nil t1;obtain rfl:args= #[v0,v1]:=by cases args;simp_all
  obtain⟨rfl,rfl⟩:=trodVars_none N;obtain⟨r,rfl,_⟩:=okWide_struct Tryz.underlying25 (b 0 25 v0 rfl rfl);obtain⟨u,rfl,_⟩:=okWide_struct Tryz.underlying39 (b 1 39 v1 rfl rfl);have G:=h0;have w:∀x∈S,x.block<W.heap.size:=by obtain⟨m,hm⟩:=G;exact DataW.trod_lt m _ _ _ hm
  obtain⟨X,f⟩:=h0;obtain⟨c0,I,y⟩:=ZyV f;obtain rfl:r=(c8L (cl c0 I)).toArray:=by apply Axd;exact y
  have J:=h1;have z:∀x∈V,x.block<W.heap.size:=by obtain⟨m,hm⟩:=J;exact DataW.trod_lt m _ _ _ hm
  obtain⟨Y,g⟩:=h1
  have i:Rows.uptoBulk d1<=1048576:=by
    have h:Rows.uptoBulkAll ([d0,d1]++[])<=1048576:=of_decide_eq_true M;simp only[Ayt,Rows.uptoBulkAll]at h;omega
  obtain⟨K,Z,A,l⟩:=Zwn (x:=(d1,_)) i g;obtain rfl:u=(Rw.Zjw K).toArray:=by apply Axd;exact A
  clear d a;refine(walk c0 I K Z W l).mono λe W' ⟨he,c⟩=>?_;subst he;exact⟨_,rfl,_,_,_,[],_,[],n,trodAll_mk1 (shut_bool Tryz.underlying4 _),(trodAll_cons_mk (Below.trod Zx5 (by kernel_rfl) (of_decide_eq_true (by kernel_rfl)) G c w) (trodAll_cons_mk (Below.trod Zx5 (by kernel_rfl) (of_decide_eq_true (by kernel_rfl)) J c z) trodAll_mk0)),rfl,c.frame _,λh=>by cases h⟩
theorem ZSG{a b:Bool}(c:a=true)(d:b=true):(a&&b)=true:=by rw[c,d];rfl
set_option maxHeartbeats 4000000 in
theorem proved:Rows.SlotsNoneUptoSaid:=
  OpenClaim.holds_of_cond 4 Tryz.f4 rfl rfl rfl rfl rfl rfl rfl ⟨rfl,rfl,rfl,rfl,rfl⟩ rfl rfl rfl rfl rfl (by kernel_rfl) Tryz.func4 (by unfold joinedFacts;(repeat' with_reducible refine ZSG ?_ ?_);all_goals as_aux_lemma=>kernel_rfl)
    (of_decide_eq_true (by as_aux_lemma=>kernel_rfl)) (by unfold Func.isWrapper;first|(rw[if_pos (by decide +kernel)];kernel_rfl)|(rw[if_neg (by decide +kernel)];exact⟨rfl,rfl⟩))
    (λos started H enc _ F=>ZHk os started H enc F)
end Go.Proofs.YtonbfpnngkemiaaGreat.slotsNone
