/- Proved here: 'JsonReads' returns true and leaves its arguments as they were, for every input; and the card that ties what the row lists to the program's text. -/
import Derived.Test.YtpjbjdheeemdiaaGreatDoorCards
import Derived.Test.YtpjbjdheeemdiaaGreatDoorTie
import Derived.WalkKit
import Derived.ShutString
import Derived.ChangeOld
import Derived.SevenTiedAt
import Derived.Test.YtpjbjdheeemdiaaGreatDoorPa14
namespace Go.Proofs.YtpjbjdheeemdiaaGreatDoor.jsonReads
open Go Go.Fw
open Go.ChangeShapes Go.WideShapes Go.ChangeAt Go.RowKit
theorem own:ownKnob Tryz.prog.godebug=none:=by kernel_rfl
theorem Zry:laidOutB Tryz.prog=true:=by kernel_rfl
theorem walk (s0:ByteArray) (w:World) (hr0:s0.size≤140737488351232) (ht:ZbG w.heap) (hh:9≤sz w.heap) :
    Calls Tryz.prog 6 #[.string s0] w fun e w'=>e = .returned (.bool true)∧Below w.heap.size w w' :=
  Zoq Zcu (s0,()) w rfl (ZhJ (K:=fun r h'=>Value.bool r = .bool true∧Ext w.heap h') hr0 ht hh fun _ hx=>⟨rfl,hx⟩)
set_option maxRecDepth 100000 in
theorem Ztl (os:Os) (started:os.Started) (H:Type) (enc:TypeId × Value→H) :
    ReturnsInHanded {} Tryz.checked os 6 .any (fun w args=>(Rows.jsonReadsSpec.pre enc Tryz.prog Tryz.f6 Rows.jsonReadsRow.domain false w args∧laidMetH Tryz.prog ZfV w)∧sizedMet enc Tryz.prog Tryz.f6 (OpenSpec.ofChange Rows.jsonReadsSpec) false w args) (Rows.jsonReadsSpec.post enc Tryz.prog Tryz.f6 false true false false):=by
  refine ZjO (C:=Tryz.checked) (X:=fun w _=>laidMetH Tryz.prog ZfV w) (fun _ _ _ hh h=>h.of_heap hh) own started (by kernel_rfl) Tryz.func6
    (ChangeSpec.witness_shaped (enc:=enc) (C:=Tryz.checked) (os:=os) (X:=fun w _=>laidMetH Tryz.prog ZfV w) false (World.laidAll Tryz.prog os ZfV) #[.string ByteArray.empty] 8 (World.laidAll_os _ _ _)
      (World.shaped_of_ZipB (by kernel_rfl) (by kernel_rfl)) (by kernel_rfl) (by kernel_rfl) (by kernel_rfl)
      (by rw [MakeChecks.laidMetH_plain _ _ _ (by kernel_rfl)];exact laidMet_laidAll _ (by kernel_rfl) (by kernel_rfl))) ?_
  intro W base args ds gs before hval0 hW hwt hL hS
  have hval:∀ (j:Nat) t v,Tryz.f6.params[j]?=some t→args[j]?=some v→Value.okWide Tryz.prog W .any base t v:=hval0
  have hW':=hW
  obtain ⟨p,q,hA0,hV,rfl,hfz,hnd⟩:=hW
  have hA:DataW.TrodAll enc Tryz.prog W 0 (fun _=>true) true Tryz.f6.params.toList args.toList ds p:=hA0
  rw [Tryz.params6] at hA hval hwt
  obtain ⟨v0,vs0,d0,ds0,p0,q0,hargs,rfl,rfl,h0,t0⟩:=trodAll_cons hA
  obtain ⟨rfl,rfl,rfl⟩:=trodAll_nil t0
  obtain rfl:args = #[v0]:=by cases args;simp_all
  obtain ⟨rfl,rfl⟩:=trodVars_none hV
  obtain ⟨s0,rfl⟩:=okWide_string Tryz.underlying9 (hval 0 9 v0 rfl rfl)
  have k0:=h0
  have lt0:∀ x∈p0,x.block<W.heap.size:=by obtain ⟨m,hm⟩:=k0;exact DataW.trod_lt m _ _ _ hm
  obtain ⟨fu0,hfu0⟩:=h0
  obtain rfl:=ZnG Tryz.underlying9 hfu0
  have hlb0:s0.size≤140737488351232:=of_decide_eq_true (List.all_eq_true.1 hwt s0.data.toList.length (by simp [DataW.weightsEach,DataW.weights]))
  obtain ⟨ht,hh⟩:=Zrb hL hS
  clear hA0 hval0
  refine (walk s0 W hlb0 ht hh).mono fun e W' ⟨he,bel⟩=>?_
  subst he
  exact ⟨_,rfl,_,_,_,[],_,[],hW',trodAll_mk1 (shut_bool Tryz.underlying4 _),(trodAll_cons_mk (Below.trod Zry (by kernel_rfl) (of_decide_eq_true (by kernel_rfl)) k0 bel lt0) trodAll_mk0),rfl,bel.frame _,fun h=>by cases h⟩
theorem ZyM {a b:Bool} (ha:a=true) (hb:b=true):(a&&b)=true:=by rw [ha,hb];rfl
set_option maxHeartbeats 4000000 in
theorem over:Rows.JsonReadsSaid :=
  OpenClaim.holds_of_wide 6 Tryz.f6 rfl rfl rfl rfl rfl rfl rfl ⟨rfl,rfl,rfl,rfl,rfl⟩ rfl rfl rfl rfl rfl (by kernel_rfl) Tryz.func6 (by unfold joinedFacts;(repeat' with_reducible refine ZyM ?_ ?_);all_goals as_aux_lemma=>kernel_rfl)
    (of_decide_eq_true (by as_aux_lemma=>kernel_rfl)) (by unfold Func.isWrapper;first | (rw [if_pos (by decide +kernel)];kernel_rfl) | (rw [if_neg (by decide +kernel)];exact ⟨rfl,rfl⟩))
    (fun os started H enc _=>Ztl os started H enc)
theorem named:Tryz.prog.funcNamed "spillway/spillwaylaw08.JsonReads" = some 6:=by kernel_rfl
theorem plain:([9].all fun u=> !Tryz.prog.wantsStandIn u)=true:=by kernel_rfl
set_option maxHeartbeats 4000000 in
theorem proved:Rows.JsonReadsCardSaid :=
  Claim7.holds_tied_plain_at .later [] [.data,.data,.data,.data,.sentinel,.sentinel,.pinned,.pinned] true Rows.jsonReadsCard.stood.harness true over (fun _ h=>by cases h) (by kernel_rfl) (fun _ h=>by cases h) jsonReads_row_tie rfl ⟨rfl,rfl⟩ (by kernel_rfl) rfl
    (fun f fn hf hfn=>by
      obtain rfl:f=6:=Option.some.inj (named.symm.trans hf) |>.symm
      obtain rfl:fn=Tryz.f6:=(Option.some.inj (Tryz.func6.symm.trans hfn)).symm
      exact ⟨by kernel_rfl,fun j t ht=>by
        rw [Tryz.params6] at ht
        have hm:t∈[9]:=by simpa using Array.mem_of_getElem? ht
        exact (show Tryz.prog.wantsStandIn t=false by simpa using List.all_eq_true.1 plain t hm)⟩)
    (by kernel_rfl)
end Go.Proofs.YtpjbjdheeemdiaaGreatDoor.jsonReads
