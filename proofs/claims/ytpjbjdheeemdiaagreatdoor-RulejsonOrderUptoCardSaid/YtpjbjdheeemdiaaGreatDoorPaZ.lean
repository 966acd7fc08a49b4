/- Proved here: 'RulejsonOrder' returns true and leaves its arguments as they were, where what it reads is of bulk at most 1048576; and the card that ties what the row lists to the program's text. -/
import Derived.Test.YtpjbjdheeemdiaaGreatDoorCards
import Derived.Test.YtpjbjdheeemdiaaGreatDoorTie
import Derived.WalkKit
import Derived.ShutString
import Derived.ChangeOld
import Derived.SevenTiedAt
import Derived.Test.YtpjbjdheeemdiaaGreatDoorPa17
namespace Go.Proofs.YtpjbjdheeemdiaaGreatDoor.rulejsonOrder
open Go Go.Fw Go.Js
open Go.ChangeShapes Go.WideShapes Go.ChangeAt Go.RowKit
theorem own:ownKnob Tryz.prog.godebug=none:=by kernel_rfl
theorem ZC9:laidOutB Tryz.prog=true:=by kernel_rfl
theorem walk (z0:VTR) (r0:RulesP) (w:World) (hr0:Zat w.heap (fun b=>b<sz w.heap) z0 r0/\r0.rng/\r0.wt<=16777216) (ht:ZaN w.heap) (hh:9<=sz w.heap) :
    Calls Tryz.prog 4 #[.agg (Zac z0).toArray] w fun e w'=>e = .returned (.bool true)/\Below w.heap.size w w' :=
  Zxr Zes (z0,()) w rfl (Zjs (K:=fun r h'=>Value.bool r = .bool true/\Ext w.heap h') hr0 ht hh fun _ hx=>⟨rfl,hx⟩)
set_option maxRecDepth 100000 in
theorem ZFe (os:Os) (started:os.Started) (H:Type) (enc:TypeId × Value->H) (F:Stop.Interp) :
    ReturnsInHanded {} Tryz.checked os 4 .any (fun w args=>((Rows.OpenSpec.upto Rows.rulejsonOrderSpec).pre enc Tryz.prog Tryz.f4 Rows.rulejsonOrderUptoRow.domain false w args/\laidMetH Tryz.prog Zku w)/\sizedMet enc Tryz.prog Tryz.f4 (Rows.OpenSpec.upto Rows.rulejsonOrderSpec) false w args) (((Rows.OpenSpec.upto Rows.rulejsonOrderSpec).at F).post enc Tryz.prog Tryz.f4 false true false false):=by
  refine Zn9 (C:=Tryz.checked) (s:=Rows.OpenSpec.upto Rows.rulejsonOrderSpec) (k:=Rows.uptoSmall) rfl (X:=fun w _=>laidMetH Tryz.prog Zku w) (fun _ _ _ hh h=>h.of_heap hh) own started (by kernel_rfl) Tryz.func4
    (ZnF (enc:=enc) (C:=Tryz.checked) (os:=os) (s:=Rows.OpenSpec.upto Rows.rulejsonOrderSpec) (k:=Rows.uptoSmall) rfl (X:=fun w _=>laidMetH Tryz.prog Zku w) false (World.laidAll Tryz.prog os Zku) #[.agg #[.slice none 0 0,.slice none 0 0,.slice none 0 0,.slice none 0 0,.slice none 0 0]] 8 (World.laidAll_os _ _ _)
      (World.shaped_of_ZipB (by kernel_rfl) (by kernel_rfl)) (by kernel_rfl) (x:=([.agg [.nil,.nil,.nil,.nil,.nil]],[],[])) (by kernel_rfl) rfl (by kernel_rfl) (by kernel_rfl)
      (by rw [MakeChecks.laidMetH_plain _ _ _ (by kernel_rfl)];exact laidMet_laidAll _ (by kernel_rfl) (by kernel_rfl))) ?_
  intro W base args ds gs before hval0 hW hkk hL hS
  have hval:∀ (j:Nat) t v,Tryz.f4.params[j]?=some t->args[j]?=some v->Value.okWide Tryz.prog W .any base t v:=hval0
  have hW':=hW
  obtain ⟨p,q,hA0,hV,rfl,hfz,hnd⟩:=hW
  have hA:DataW.TrodAll enc Tryz.prog W 0 (fun _=>true) true Tryz.f4.params.toList args.toList ds p:=hA0
  rw [Tryz.params4] at hA hval
  obtain ⟨v0,vs0,d0,ds0,p0,q0,hargs,rfl,rfl,h0,t0⟩:=trodAll_cons hA
  obtain ⟨rfl,rfl,rfl⟩:=trodAll_nil t0
  obtain rfl:args = #[v0]:=by cases args;simp_all
  obtain ⟨rfl,rfl⟩:=trodVars_none hV
  obtain ⟨cs0,rfl,_⟩:=okWide_struct Tryz.underlying28 (hval 0 28 v0 rfl rfl)
  have k0:=h0
  have lt0:∀ x∈p0,x.block<W.heap.size:=by obtain ⟨m,hm⟩:=k0;exact DataW.trod_lt m _ _ _ hm
  obtain ⟨fu0,hfu0⟩:=h0
  obtain ⟨z0,r0,hc0,hlb0,hrg0,hbulk0⟩:=Zyi tyR hfu0
  obtain rfl:cs0=(Zac z0).toArray:=by apply Axe;exact hc0
  have hsm:Rows.uptoBulkAll ([d0]++[])<=1048576:=of_decide_eq_true hkk
  simp only [Ayt,Rows.uptoBulkAll] at hsm
  have hlc0:r0.wt<=16777216:=by dsimp only at hbulk0;omega
  obtain ⟨ht,hh⟩:=Zy6 hL hS
  clear hA0 hval0
  refine (walk z0 r0 W ⟨hlb0,hrg0,hlc0⟩ ht hh).mono fun e W' ⟨he,bel⟩=>?_
  subst he
  exact ⟨_,rfl,_,_,_,[],_,[],hW',trodAll_mk1 (shut_bool Tryz.underlying4 _),(trodAll_cons_mk (Below.trod ZC9 (by kernel_rfl) (of_decide_eq_true (by kernel_rfl)) k0 bel lt0) trodAll_mk0),rfl,bel.frame _,fun h=>by cases h⟩
theorem ZNZ {a b:Bool} (ha:a=true) (hb:b=true):(a&&b)=true:=by rw [ha,hb];rfl
set_option maxHeartbeats 4000000 in
theorem over:Rows.RulejsonOrderUptoSaid :=
  OpenClaim.holds_of_cond 4 Tryz.f4 rfl rfl rfl rfl rfl rfl rfl ⟨rfl,rfl,rfl,rfl,rfl⟩ rfl rfl rfl rfl rfl (by kernel_rfl) Tryz.func4 (by unfold joinedFacts;(repeat' with_reducible refine ZNZ ?_ ?_);all_goals as_aux_lemma=>kernel_rfl)
    (of_decide_eq_true (by as_aux_lemma=>kernel_rfl)) (by unfold Func.isWrapper;first | (rw [if_pos (by decide +kernel)];kernel_rfl) | (rw [if_neg (by decide +kernel)];exact ⟨rfl,rfl⟩))
    (fun os started H enc _ F=>ZFe os started H enc F)
theorem named:Tryz.prog.funcNamed "spillway/spillwaylaw09.RulejsonOrder" = some 4:=by kernel_rfl
theorem plain:([28].all fun u=> !Tryz.prog.wantsStandIn u)=true:=by kernel_rfl
set_option maxHeartbeats 4000000 in
theorem proved:Rows.RulejsonOrderUptoCardSaid :=
  Claim7.holds_tied_plain_at .later [] [.data,.data,.data,.data,.sentinel,.sentinel,.pinned] true Rows.rulejsonOrderUptoCard.stood.harness true over (fun _ h=>by cases h) (by kernel_rfl) (fun _ h=>by cases h) rulejsonOrderUpto_row_tie rfl ⟨rfl,rfl⟩ (by kernel_rfl) rfl
    (fun f fn hf hfn=>by
      obtain rfl:f=4:=Option.some.inj (named.symm.trans hf) |>.symm
      obtain rfl:fn=Tryz.f4:=(Option.some.inj (Tryz.func4.symm.trans hfn)).symm
      exact ⟨by kernel_rfl,fun j t ht=>by
        rw [Tryz.params4] at ht
        have hm:t∈[28]:=by simpa using Array.mem_of_getElem? ht
        exact (show Tryz.prog.wantsStandIn t=false by simpa using Axc.1 plain t hm)⟩)
    (by kernel_rfl)
end Go.Proofs.YtpjbjdheeemdiaaGreatDoor.rulejsonOrder
