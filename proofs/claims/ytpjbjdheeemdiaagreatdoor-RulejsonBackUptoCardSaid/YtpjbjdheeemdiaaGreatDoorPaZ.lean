/- Proved here: 'RulejsonBack' returns true and leaves its arguments as they were, where what it reads is of bulk at most 1048576; and the card that ties what the row lists to the program's text. -/
import Derived.Test.YtpjbjdheeemdiaaGreatDoorCards
import Derived.Test.YtpjbjdheeemdiaaGreatDoorTie
import Derived.WalkKit
import Derived.ShutString
import Derived.ChangeOld
import Derived.SevenTiedAt
import Derived.Test.YtpjbjdheeemdiaaGreatDoorPa18
namespace Go.Proofs.YtpjbjdheeemdiaaGreatDoor.rulejsonBack
open Go Go.Fw Go.Js
open Go.ChangeShapes Go.WideShapes Go.ChangeAt Go.RowKit
theorem own:ownKnob Tryz.prog.godebug=none:=by kernel_rfl
theorem ZyV:laidOutB Tryz.prog=true:=by kernel_rfl
theorem walk (z0:VTR) (a:RulesP) (s1:ByteArray) (w:World) (c:ZaB w.heap (fun b=>b<sz w.heap) z0 a/\a.rng/\a.wt<=16777216) (d:s1.size<=140737488351232) (ht:ZaT w.heap) (f:9<=sz w.heap) :
    Calls Tryz.prog 5 #[.agg (Zak z0).toArray,.string s1] w fun e w'=>e = .returned (.bool true)/\Below w.heap.size w w' :=
  ZyU Zfj (z0,s1,()) w rfl (Zln (K:=fun r h'=>Value.bool r = .bool true/\Ext w.heap h') c d ht f fun _ g=>⟨rfl,g⟩)
set_option maxRecDepth 100000 in
theorem ZGR (os:Os) (started:os.Started) (H:Type) (enc:TypeId × Value->H) (F:Stop.Interp) :
    ReturnsInHanded {} Tryz.checked os 5 .any (fun w args=>((Rows.OpenSpec.upto Rows.rulejsonBackSpec).pre enc Tryz.prog Tryz.f5 Rows.rulejsonBackUptoRow.domain false w args/\laidMetH Tryz.prog ZlE w)/\sizedMet enc Tryz.prog Tryz.f5 (Rows.OpenSpec.upto Rows.rulejsonBackSpec) false w args) (((Rows.OpenSpec.upto Rows.rulejsonBackSpec).at F).post enc Tryz.prog Tryz.f5 false true false false):=by
  refine Zp8 (C:=Tryz.checked) (s:=Rows.OpenSpec.upto Rows.rulejsonBackSpec) (k:=Rows.uptoSmall) rfl (X:=fun w _=>laidMetH Tryz.prog ZlE w) (fun _ _ _ u h=>h.of_heap u) own started (by kernel_rfl) Tryz.func5
    (Zpz (enc:=enc) (C:=Tryz.checked) (os:=os) (s:=Rows.OpenSpec.upto Rows.rulejsonBackSpec) (k:=Rows.uptoSmall) rfl (X:=fun w _=>laidMetH Tryz.prog ZlE w) false (World.laidAll Tryz.prog os ZlE) #[.agg #[.slice none 0 0,.slice none 0 0,.slice none 0 0,.slice none 0 0,.slice none 0 0],.string ByteArray.empty] 8 (World.laidAll_os _ _ _)
      (World.shaped_of_ZipB (by kernel_rfl) (by kernel_rfl)) (by kernel_rfl) (x:=([.agg [.nil,.nil,.nil,.nil,.nil],.lit (.string [])],[],[])) (by kernel_rfl) rfl (by kernel_rfl) (by kernel_rfl)
      (by rw [MakeChecks.laidMetH_plain _ _ _ (by kernel_rfl)];exact laidMet_laidAll _ (by kernel_rfl) (by kernel_rfl))) ?_
  intro W base args R gs before a J y S T
  have b:∀ (j:Nat) t v,Tryz.f5.params[j]?=some t->args[j]?=some v->Value.okWide Tryz.prog W .any base t v:=a
  have z:=J
  obtain ⟨p,q,f,U,rfl,V,Y⟩:=J
  have K:DataW.TrodAll enc Tryz.prog W 0 (fun _=>true) true Tryz.f5.params.toList args.toList R p:=f
  rw [Tryz.params5] at K b
  obtain ⟨v0,Z,d0,aa,p0,q0,A,rfl,rfl,L,t0⟩:=trodAll_cons K
  obtain ⟨v1,ad,d1,ae,p1,q1,rfl,rfl,rfl,M,t1⟩:=trodAll_cons t0
  obtain ⟨rfl,rfl,rfl⟩:=trodAll_nil t1
  obtain rfl:args = #[v0,v1]:=by cases args;simp_all
  obtain ⟨rfl,rfl⟩:=trodVars_none U
  obtain ⟨B,rfl,_⟩:=okWide_struct Tryz.underlying28 (b 0 28 v0 rfl rfl)
  obtain ⟨s1,rfl⟩:=okWide_string Tryz.underlying9 (b 1 9 v1 rfl rfl)
  have N:=L
  have D:∀ x∈p0,x.block<W.heap.size:=by obtain ⟨m,hm⟩:=N;exact DataW.trod_lt m _ _ _ hm
  obtain ⟨ag,g⟩:=L
  obtain ⟨z0,O,E,i,l,c⟩:=ZzM tyR g
  obtain rfl:B=(Zak z0).toArray:=by apply Axe;exact E
  have P:=M
  have G:∀ x∈p1,x.block<W.heap.size:=by obtain ⟨m,hm⟩:=P;exact DataW.trod_lt m _ _ _ hm
  obtain ⟨ah,n⟩:=M
  obtain rfl:=ZxO Tryz.underlying9 n
  have I:Rows.uptoBulkAll ([d0,.lit (.string s1.data.toList)]++[])<=1048576:=of_decide_eq_true y
  simp only [Ayt,Rows.uptoBulkAll] at I
  have o:O.wt<=16777216:=by dsimp only at c;omega
  have Q:(Rows.uptoBulk (.lit (.string s1.data.toList):DataW H))=s1.size+1:=by simp [Rows.uptoBulk]
  have r:s1.size<=140737488351232:=by omega
  obtain ⟨ht,u⟩:=ZAE S T
  clear f a
  refine (walk z0 O s1 W ⟨i,l,o⟩ r ht u).mono fun e W' ⟨he,d⟩=>?_
  subst he
  exact ⟨_,rfl,_,_,_,[],_,[],z,trodAll_mk1 (shut_bool Tryz.underlying4 _),(trodAll_cons_mk (Below.trod ZyV (by kernel_rfl) (of_decide_eq_true (by kernel_rfl)) N d D) (trodAll_cons_mk (Below.trod ZyV (by kernel_rfl) (of_decide_eq_true (by kernel_rfl)) P d G) trodAll_mk0)),rfl,d.frame _,fun h=>by cases h⟩
theorem ZPP {a b:Bool} (c:a=true) (d:b=true):(a&&b)=true:=by rw [c,d];rfl
set_option maxHeartbeats 4000000 in
theorem over:Rows.RulejsonBackUptoSaid :=
  OpenClaim.holds_of_cond 5 Tryz.f5 rfl rfl rfl rfl rfl rfl rfl ⟨rfl,rfl,rfl,rfl,rfl⟩ rfl rfl rfl rfl rfl (by kernel_rfl) Tryz.func5 (by unfold joinedFacts;(repeat' with_reducible refine ZPP ?_ ?_);all_goals as_aux_lemma=>kernel_rfl)
    (of_decide_eq_true (by as_aux_lemma=>kernel_rfl)) (by unfold Func.isWrapper;first | (rw [if_pos (by decide +kernel)];kernel_rfl) | (rw [if_neg (by decide +kernel)];exact ⟨rfl,rfl⟩))
    (fun os started H enc _ F=>ZGR os started H enc F)
theorem named:Tryz.prog.funcNamed "spillway/spillwaylaw09.RulejsonBack" = some 5:=by kernel_rfl
theorem plain:([28,9].all fun u=> !Tryz.prog.wantsStandIn u)=true:=by kernel_rfl
set_option maxHeartbeats 4000000 in
theorem proved:Rows.RulejsonBackUptoCardSaid :=
  Claim7.holds_tied_plain_at .later [] [.data,.data,.data,.data,.sentinel,.sentinel,.pinned] true Rows.rulejsonBackUptoCard.stood.harness true over (fun _ h=>by cases h) (by kernel_rfl) (fun _ h=>by cases h) rulejsonBackUpto_row_tie rfl ⟨rfl,rfl⟩ (by kernel_rfl) rfl
    (fun f fn b a=>by
      obtain rfl:f=5:=Option.some.inj (named.symm.trans b) |>.symm
      obtain rfl:fn=Tryz.f5:=(Option.some.inj (Tryz.func5.symm.trans a)).symm
      exact ⟨by kernel_rfl,fun j t ht=>by
        rw [Tryz.params5] at ht
        have hm:t∈[28,9]:=by simpa using Array.mem_of_getElem? ht
        exact (show Tryz.prog.wantsStandIn t=false by simpa using Axc.1 plain t hm)⟩)
    (by kernel_rfl)
end Go.Proofs.YtpjbjdheeemdiaaGreatDoor.rulejsonBack
