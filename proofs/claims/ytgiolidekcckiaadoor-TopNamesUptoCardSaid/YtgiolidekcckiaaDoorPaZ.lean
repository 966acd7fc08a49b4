/- Proved here: 'TopNames' returns true and leaves its arguments as they were, where what it reads is of bulk at most 1048576; and the card that ties what the row lists to the program's text. -/
import Derived.Test.YtgiolidekcckiaaDoorCards
import Derived.Test.YtgiolidekcckiaaDoorTie
import Derived.WalkKit
import Derived.ShutString
import Derived.ChangeOld
import Derived.SevenTiedAt
import Derived.Test.YtgiolidekcckiaaDoorPa10
namespace Go.Proofs.YtgiolidekcckiaaDoor.topNames
open Go Go.Fw Go.Js
open Go.ChangeShapes Go.WideShapes Go.ChangeAt Go.RowKit
theorem own:ownKnob Tryd.prog.godebug=none:=by kernel_rfl
theorem Zom:laidOutB Tryd.prog=true:=by kernel_rfl
theorem walk (s0:ByteArray) (w:World) (hr0:s0.size≤1048576) (ht:ZaZ w.heap) (hh:3≤sz w.heap) :
    Calls Tryd.prog 3 #[.string s0] w fun e w'=>e = .returned (.bool true)∧Below w.heap.size w w' :=
  ZlB ZbK (s0,()) w rfl (Zhp (K:=fun r h'=>Value.bool r = .bool true∧Ext w.heap h') hr0 ht hh fun _ hx=>⟨rfl,hx⟩)
set_option maxRecDepth 100000 in
theorem ZpO (os:Os) (started:os.Started) (H:Type) (enc:TypeId × Value→H) (F:Stop.Interp) :
    ReturnsInHanded {} Tryd.checked os 3 .any (fun w args=>((Rows.OpenSpec.upto Rows.topNamesSpec).pre enc Tryd.prog Tryd.f3 Rows.topNamesUptoRow.domain false w args∧laidMetH Tryd.prog Zg2 w)∧sizedMet enc Tryd.prog Tryd.f3 (Rows.OpenSpec.upto Rows.topNamesSpec) false w args) (((Rows.OpenSpec.upto Rows.topNamesSpec).at F).post enc Tryd.prog Tryd.f3 false true false false):=by
  refine ZgR (C:=Tryd.checked) (s:=Rows.OpenSpec.upto Rows.topNamesSpec) (k:=Rows.uptoSmall) rfl (X:=fun w _=>laidMetH Tryd.prog Zg2 w) (fun _ _ _ hh h=>h.of_heap hh) own started (by kernel_rfl) Tryd.func3
    (ZgA (enc:=enc) (C:=Tryd.checked) (os:=os) (s:=Rows.OpenSpec.upto Rows.topNamesSpec) (k:=Rows.uptoSmall) rfl (X:=fun w _=>laidMetH Tryd.prog Zg2 w) false (World.laidAll Tryd.prog os Zg2) #[.string ByteArray.empty] 8 (World.laidAll_os _ _ _)
      (World.shaped_of_ZipB (by kernel_rfl) (by kernel_rfl)) (by kernel_rfl) (x:=([.lit (.string [])],[],[])) (by kernel_rfl) rfl (by kernel_rfl) (by kernel_rfl)
      (by rw [MakeChecks.laidMetH_plain _ _ _ (by kernel_rfl)];exact laidMet_laidAll _ (by kernel_rfl) (by kernel_rfl))) ?_
  intro W base args ds gs before hval0 hW hkk hL hS
  have hval:∀ (j:Nat) t v,Tryd.f3.params[j]?=some t→args[j]?=some v→Value.okWide Tryd.prog W .any base t v:=hval0
  have hW':=hW
  obtain ⟨p,q,hA0,hV,rfl,hfz,hnd⟩:=hW
  have hA:DataW.TrodAll enc Tryd.prog W 0 (fun _=>true) true Tryd.f3.params.toList args.toList ds p:=hA0
  rw [Tryd.params3] at hA hval
  obtain ⟨v0,vs0,d0,ds0,p0,q0,hargs,rfl,rfl,h0,t0⟩:=trodAll_cons hA
  obtain ⟨rfl,rfl,rfl⟩:=trodAll_nil t0
  obtain rfl:args = #[v0]:=by cases args;simp_all
  obtain ⟨rfl,rfl⟩:=trodVars_none hV
  obtain ⟨s0,rfl⟩:=okWide_string Tryd.underlying9 (hval 0 9 v0 rfl rfl)
  have k0:=h0
  have lt0:∀ x∈p0,x.block<W.heap.size:=by obtain ⟨m,hm⟩:=k0;exact DataW.trod_lt m _ _ _ hm
  obtain ⟨fu0,hfu0⟩:=h0
  obtain rfl:=ZkZ Tryd.underlying9 hfu0
  have hsm:Rows.uptoBulkAll ([.lit (.string s0.data.toList)]++[])≤1048576:=of_decide_eq_true hkk
  simp only [List.append_nil,Rows.uptoBulkAll] at hsm
  have hbt0:(Rows.uptoBulk (.lit (.string s0.data.toList):DataW H))=s0.size+1:=by simp [Rows.uptoBulk]
  have hlb0:s0.size≤1048576:=by omega
  obtain ⟨ht,hh⟩:=ZnY hL hS
  clear hA0 hval0
  refine (walk s0 W hlb0 ht hh).mono fun e W' ⟨he,bel⟩=>?_
  subst he
  exact ⟨_,rfl,_,_,_,[],_,[],hW',trodAll_mk1 (shut_bool Tryd.underlying4 _),(trodAll_cons_mk (Below.trod Zom (by kernel_rfl) (of_decide_eq_true (by kernel_rfl)) k0 bel lt0) trodAll_mk0),rfl,bel.frame _,fun h=>by cases h⟩
theorem Zt2 {a b:Bool} (ha:a=true) (hb:b=true):(a&&b)=true:=by rw [ha,hb];rfl
set_option maxHeartbeats 4000000 in
theorem over:Rows.TopNamesUptoSaid :=
  OpenClaim.holds_of_cond 3 Tryd.f3 rfl rfl rfl rfl rfl rfl rfl ⟨rfl,rfl,rfl,rfl,rfl⟩ rfl rfl rfl rfl rfl (by kernel_rfl) Tryd.func3 (by unfold joinedFacts;(repeat' with_reducible refine Zt2 ?_ ?_);all_goals as_aux_lemma=>kernel_rfl)
    (of_decide_eq_true (by as_aux_lemma=>kernel_rfl)) (by unfold Func.isWrapper;first | (rw [if_pos (by decide +kernel)];kernel_rfl) | (rw [if_neg (by decide +kernel)];exact ⟨rfl,rfl⟩))
    (fun os started H enc _ F=>ZpO os started H enc F)
theorem named:Tryd.prog.funcNamed "spillway/spillwaytop.TopNames" = some 3:=by kernel_rfl
theorem plain:([9].all fun u=> !Tryd.prog.wantsStandIn u)=true:=by kernel_rfl
set_option maxHeartbeats 4000000 in
theorem proved:Rows.TopNamesUptoCardSaid :=
  Claim7.holds_tied_plain_at .later [] [.data,.pinned] true Rows.topNamesUptoCard.stood.harness true over (fun _ h=>by cases h) (by kernel_rfl) (fun _ h=>by cases h) topNamesUpto_row_tie rfl ⟨rfl,rfl⟩ (by kernel_rfl) rfl
    (fun f fn hf hfn=>by
      obtain rfl:f=3:=Option.some.inj (named.symm.trans hf) |>.symm
      obtain rfl:fn=Tryd.f3:=(Option.some.inj (Tryd.func3.symm.trans hfn)).symm
      exact ⟨by kernel_rfl,fun j t ht=>by
        rw [Tryd.params3] at ht
        have hm:t∈[9]:=by simpa using Array.mem_of_getElem? ht
        exact (show Tryd.prog.wantsStandIn t=false by simpa using List.all_eq_true.1 plain t hm)⟩)
    (by kernel_rfl)
end Go.Proofs.YtgiolidekcckiaaDoor.topNames
