/- Proved here: 'TopEntered' returns true and leaves its arguments as they were, where what it reads is of bulk at most 1048576. -/
import Derived.Test.YtonbfpnngkemiaaGreatRows
import Derived.WalkKit
import Derived.ProofKit
import Derived.OpenShut
import Derived.ShutString
import Derived.ChangeOld
import Derived.JoinedCond
import Derived.Test.YtonbfpnngkemiaaGreatPa18
namespace Go.Proofs.YtonbfpnngkemiaaGreat.topEntered
open Go Go.Fw
open Nat renaming reduceAdd->Nqa,reduceLT->Nqb,reduceLeDiff->Nqc,reduceEqDiff->Nqd,reduceMul->Nqe
open Go.ChangeShapes Go.WideShapes Go.ChangeAt Go.RowKit
theorem own:ownKnob Tryz.prog.godebug=none:=by kernel_rfl
theorem Zs5:laidOutB Tryz.prog=true:=by kernel_rfl
theorem walk(z0:Rw.VTR)(r0:Go.Js.RulesP)(f:Option Addr)(len1 a:Nat)(d:List ZqV)(g:Option Addr)(len2 c:Nat)(h:List Int)(w:World)(i:Rw.YY w.heap (λb=>b<sz w.heap) z0 r0/\r0.rng/\r0.wt<=16777216)(j:Row w.heap ⟨f,len1,a⟩ 7 (d.flatMap ZvN)/\∀y,y∈d->ZyN w.heap (sz w.heap) y)(k:Row w.heap ⟨g,len2,c⟩ 1 (h.map iv)):
    Calls Tryz.prog 5 #[.agg (Rw.Zi6 z0).toArray,.slice f len1 a,.slice g len2 c] w λe w'=>e= .returned (.bool true)/\Below w.heap.size w w':=
  ZxG ZhG (z0,⟨f,len1,a⟩,⟨g,len2,c⟩,()) w rfl (Zn8 (K:=λr h'=>Value.bool r= .bool true/\Ext w.heap h') i j k λ_ l=>⟨rfl,l⟩)
set_option maxRecDepth 100000 in
theorem ZGC(os:Os)(started:os.Started)(H:Type)(enc:TypeId×Value->H)(F:Stop.Interp):
    ReturnsInHanded {} Tryz.checked os 5 .any ((Rows.OpenSpec.upto Rows.topEnteredSpec).pre6 enc Tryz.prog Tryz.f5 Rows.topEnteredUptoRow.domain false) (((Rows.OpenSpec.upto Rows.topEnteredSpec).at F).post enc Tryz.prog Tryz.f5 false true false false):=by
  refine returnsInHanded_of_cond (C:=Tryz.checked) (s:=Rows.OpenSpec.upto Rows.topEnteredSpec) (k:=Rows.uptoSmall) rfl own started (by kernel_rfl) Tryz.func5
    (OpenSpec.witness (enc:=enc) (C:=Tryz.checked) (s:=Rows.OpenSpec.upto Rows.topEnteredSpec) (k:=Rows.uptoSmall) rfl false ⟨#[],#[.agg #[.slice none 0 0,.slice none 0 0,.slice none 0 0,.slice none 0 0,.slice none 0 0],.slice none 0 0,.slice none 0 0],[]⟩ 8 (by kernel_rfl) (by kernel_rfl) (by kernel_rfl)
      (x:=([.agg [.nil,.nil,.nil,.nil,.nil],.nil,.nil],[],[])) (by kernel_rfl) rfl (by kernel_rfl)) ?_
  intro W base args R gs before b K L S _;have a:∀(j:Nat) t v,Tryz.f5.params[j]?=some t->args[j]?=some v->Value.okWide Tryz.prog W .any base t v:=b;have y:=K;obtain⟨p,q,d,T,rfl,U,V⟩:=K;have M:DataW.TrodAll enc Tryz.prog W 0 (λ_=>true) true Tryz.f5.params.toList args.toList R p:=d;rw[Tryz.params5]at M a;obtain⟨v0,X,d0,Y,Z,q0,z,rfl,rfl,h0,t0⟩:=trodAll_cons M;obtain⟨v1,aa,d1,ae,p1,q1,rfl,rfl,rfl,h1,t1⟩:=trodAll_cons t0;obtain⟨v2,ag,d2,ah,p2,q2,rfl,rfl,rfl,N,t2⟩:=trodAll_cons t1;obtain⟨rfl,rfl,rfl⟩:=trodAll_nil t2;obtain rfl:args= #[v0,v1,v2]:=by cases args;simp_all
  obtain⟨rfl,rfl⟩:=trodVars_none T;obtain⟨A,rfl,_⟩:=okWide_struct Tryz.underlying39 (a 0 39 v0 rfl rfl);obtain⟨a1,len1,f,rfl⟩:=okWide_slice Tryz.underlying26 (a 1 26 v1 rfl rfl);obtain⟨a2,len2,g,rfl⟩:=okWide_slice Tryz.underlying60 (a 2 60 v2 rfl rfl);have O:=h0;have B:∀x∈Z,x.block<W.heap.size:=by obtain⟨m,hm⟩:=O;exact DataW.trod_lt m _ _ _ hm
  obtain⟨al,i⟩:=h0
  have l:Rows.uptoBulk d0<=1048576:=by
    have h:Rows.uptoBulkAll ([d0,d1,d2]++[])<=1048576:=of_decide_eq_true S;simp only[Ayr,Rows.uptoBulkAll]at h;omega
  obtain⟨z0,r0,D,n⟩:=ZvR (x:=(d0,_)) l i;obtain rfl:A=(Rw.Zi6 z0).toArray:=by apply Axd;exact D
  have P:=h1;have E:∀x∈p1,x.block<W.heap.size:=by obtain⟨m,hm⟩:=P;exact DataW.trod_lt m _ _ _ hm
  obtain⟨an,o⟩:=h1;obtain⟨G,r⟩:=ZvS o;have Q:=N;have I:∀x∈p2,x.block<W.heap.size:=by obtain⟨m,hm⟩:=Q;exact DataW.trod_lt m _ _ _ hm
  obtain⟨ao,u⟩:=N;obtain⟨J,w⟩:=Zyt u;clear d b;refine(walk z0 r0 a1 len1 f G a2 len2 g J W n r w).mono λe W' ⟨he,c⟩=>?_;subst he;exact⟨_,rfl,_,_,_,[],_,[],y,trodAll_mk1 (shut_bool Tryz.underlying4 _),(trodAll_cons_mk (Below.trod Zs5 (by kernel_rfl) (of_decide_eq_true (by kernel_rfl)) O c B) (trodAll_cons_mk (Below.trod Zs5 (by kernel_rfl) (of_decide_eq_true (by kernel_rfl)) P c E) (trodAll_cons_mk (Below.trod Zs5 (by kernel_rfl) (of_decide_eq_true (by kernel_rfl)) Q c I) trodAll_mk0))),rfl,c.frame _,λh=>by cases h⟩
theorem ZRi{a b:Bool}(c:a=true)(d:b=true):(a&&b)=true:=by rw[c,d];rfl
set_option maxHeartbeats 4000000 in
theorem proved:Rows.TopEnteredUptoSaid:=
  OpenClaim.holds_of_cond 5 Tryz.f5 rfl rfl rfl rfl rfl rfl rfl ⟨rfl,rfl,rfl,rfl,rfl⟩ rfl rfl rfl rfl rfl (by kernel_rfl) Tryz.func5 (by unfold joinedFacts;(repeat' with_reducible refine ZRi ?_ ?_);all_goals as_aux_lemma=>kernel_rfl)
    (of_decide_eq_true (by as_aux_lemma=>kernel_rfl)) (by unfold Func.isWrapper;first|(rw[if_pos (by decide +kernel)];kernel_rfl)|(rw[if_neg (by decide +kernel)];exact⟨rfl,rfl⟩))
    (λos started H enc _ F=>ZGC os started H enc F)
end Go.Proofs.YtonbfpnngkemiaaGreat.topEntered
