/- Proved here: 'JsonPlaces' returns true and leaves its arguments as they were, for every input; and the card that ties what the row lists to the program's text. -/
import Derived.Test.YtpjbjdheeemdiaaGreatDoorCards
import Derived.Test.YtpjbjdheeemdiaaGreatDoorTie
import Derived.WalkKit
import Derived.ShutString
import Derived.ChangeOld
import Derived.SevenTiedAt
import Derived.Test.YtpjbjdheeemdiaaGreatDoorPa11
namespace Go.Proofs.YtpjbjdheeemdiaaGreatDoor.jsonPlaces
open Go Go.Fw
open Go.ChangeShapes Go.WideShapes Go.ChangeAt Go.RowKit
theorem own:ownKnob Tryz.prog.godebug=none:=by kernel_rfl
theorem Zmo:laidOutB Tryz.prog=true:=by kernel_rfl
theorem walk (s0:ByteArray) (s1:ByteArray) (w:World) (hr0:s0.size≤140737488351232) (hr1:s1.size≤140737488351232) (ht:Zai w.heap) (hh:9≤sz w.heap) :
    Calls Tryz.prog 8 #[.string s0,.string s1] w fun e w'=>e = .returned (.bool true)∧Below w.heap.size w w' :=
  Zmn Za3 (s0,s1,()) w rfl (ZfT (K:=fun r h'=>Value.bool r = .bool true∧Ext w.heap h') hr0 hr1 ht hh fun _ hx=>⟨rfl,hx⟩)
set_option maxRecDepth 100000 in
theorem ZqO (os:Os) (started:os.Started) (H:Type) (enc:TypeId × Value→H) :
    ReturnsInHanded {} Tryz.checked os 8 .any (fun w args=>(Rows.jsonPlacesSpec.pre enc Tryz.prog Tryz.f8 Rows.jsonPlacesRow.domain false w args∧laidMetH Tryz.prog Zey w)∧sizedMet enc Tryz.prog Tryz.f8 (OpenSpec.ofChange Rows.jsonPlacesSpec) false w args) (Rows.jsonPlacesSpec.post enc Tryz.prog Tryz.f8 false true false false):=by
  refine Zia (C:=Tryz.checked) (X:=fun w _=>laidMetH Tryz.prog Zey w) (fun _ _ _ hh h=>h.of_heap hh) own started (by kernel_rfl) Tryz.func8
    (ChangeSpec.witness_shaped (enc:=enc) (C:=Tryz.checked) (os:=os) (X:=fun w _=>laidMetH Tryz.prog Zey w) false (World.laidAll Tryz.prog os Zey) #[.string ByteArray.empty,.string ByteArray.empty] 8 (World.laidAll_os _ _ _)
      (World.shaped_of_ZipB (by kernel_rfl) (by kernel_rfl)) (by kernel_rfl) (by kernel_rfl) (by kernel_rfl)
      (by rw [MakeChecks.laidMetH_plain _ _ _ (by kernel_rfl)];exact laidMet_laidAll _ (by kernel_rfl) (by kernel_rfl))) ?_
  intro W base args ds gs before hval0 hW hwt hL hS
  have hval:∀ (j:Nat) t v,Tryz.f8.params[j]?=some t→args[j]?=some v→Value.okWide Tryz.prog W .any base t v:=hval0
  have hW':=hW
  obtain ⟨p,q,hA0,hV,rfl,hfz,hnd⟩:=hW
  have hA:DataW.TrodAll enc Tryz.prog W 0 (fun _=>true) true Tryz.f8.params.toList args.toList ds p:=hA0
  rw [Tryz.params8] at hA hval hwt
  obtain ⟨v0,vs0,d0,ds0,p0,q0,hargs,rfl,rfl,h0,t0⟩:=trodAll_cons hA
  obtain ⟨v1,vs1,d1,ds1,p1,q1,rfl,rfl,rfl,h1,t1⟩:=trodAll_cons t0
  obtain ⟨rfl,rfl,rfl⟩:=trodAll_nil t1
  obtain rfl:args = #[v0,v1]:=by cases args;simp_all
  obtain ⟨rfl,rfl⟩:=trodVars_none hV
  obtain ⟨s0,rfl⟩:=okWide_string Tryz.underlying9 (hval 0 9 v0 rfl rfl)
  obtain ⟨s1,rfl⟩:=okWide_string Tryz.underlying9 (hval 1 9 v1 rfl rfl)
  have k0:=h0
  have lt0:∀ x∈p0,x.block<W.heap.size:=by obtain ⟨m,hm⟩:=k0;exact DataW.trod_lt m _ _ _ hm
  obtain ⟨fu0,hfu0⟩:=h0
  obtain rfl:=Zh2 Tryz.underlying9 hfu0
  have k1:=h1
  have lt1:∀ x∈p1,x.block<W.heap.size:=by obtain ⟨m,hm⟩:=k1;exact DataW.trod_lt m _ _ _ hm
  obtain ⟨fu1,hfu1⟩:=h1
  obtain rfl:=Zh2 Tryz.underlying9 hfu1
  have hlb0:s0.size≤140737488351232:=of_decide_eq_true (List.all_eq_true.1 hwt s0.data.toList.length (by simp [DataW.weightsEach,DataW.weights]))
  have hlb1:s1.size≤140737488351232:=of_decide_eq_true (List.all_eq_true.1 hwt s1.data.toList.length (by simp [DataW.weightsEach,DataW.weights]))
  obtain ⟨ht,hh⟩:=Zo2 hL hS
  clear hA0 hval0
  refine (walk s0 s1 W hlb0 hlb1 ht hh).mono fun e W' ⟨he,bel⟩=>?_
  subst he
  exact ⟨_,rfl,_,_,_,[],_,[],hW',trodAll_mk1 (shut_bool Tryz.underlying4 _),(trodAll_cons_mk (Below.trod Zmo (by kernel_rfl) (of_decide_eq_true (by kernel_rfl)) k0 bel lt0) (trodAll_cons_mk (Below.trod Zmo (by kernel_rfl) (of_decide_eq_true (by kernel_rfl)) k1 bel lt1) trodAll_mk0)),rfl,bel.frame _,fun h=>by cases h⟩
theorem ZuS {a b:Bool} (ha:a=true) (hb:b=true):(a&&b)=true:=by rw [ha,hb];rfl
set_option maxHeartbeats 4000000 in
theorem over:Rows.JsonPlacesSaid :=
  OpenClaim.holds_of_wide 8 Tryz.f8 rfl rfl rfl rfl rfl rfl rfl ⟨rfl,rfl,rfl,rfl,rfl⟩ rfl rfl rfl rfl rfl (by kernel_rfl) Tryz.func8 (by unfold joinedFacts;(repeat' with_reducible refine ZuS ?_ ?_);all_goals as_aux_lemma=>kernel_rfl)
    (of_decide_eq_true (by as_aux_lemma=>kernel_rfl)) (by unfold Func.isWrapper;first | (rw [if_pos (by decide +kernel)];kernel_rfl) | (rw [if_neg (by decide +kernel)];exact ⟨rfl,rfl⟩))
    (fun os started H enc _=>ZqO os started H enc)
theorem named:Tryz.prog.funcNamed "spillway/spillwaylaw08.JsonPlaces" = some 8:=by kernel_rfl
theorem plain:([9,9].all fun u=> !Tryz.prog.wantsStandIn u)=true:=by kernel_rfl
set_option maxHeartbeats 4000000 in
theorem proved:Rows.JsonPlacesCardSaid :=
  Claim7.holds_tied_plain_at .later [] [.data,.data,.data,.data,.sentinel,.sentinel,.pinned,.pinned] true Rows.jsonPlacesCard.stood.harness true over (fun _ h=>by cases h) (by kernel_rfl) (fun _ h=>by cases h) jsonPlaces_row_tie rfl ⟨rfl,rfl⟩ (by kernel_rfl) rfl
    (fun f fn hf hfn=>by
      obtain rfl:f=8:=Option.some.inj (named.symm.trans hf) |>.symm
      obtain rfl:fn=Tryz.f8:=(Option.some.inj (Tryz.func8.symm.trans hfn)).symm
      exact ⟨by kernel_rfl,fun j t ht=>by
        rw [Tryz.params8] at ht
        have hm:t∈[9,9]:=by simpa using Array.mem_of_getElem? ht
        exact (show Tryz.prog.wantsStandIn t=false by simpa using List.all_eq_true.1 plain t hm)⟩)
    (by kernel_rfl)
end Go.Proofs.YtpjbjdheeemdiaaGreatDoor.jsonPlaces
