/- Proved here: 'JsonBlanks' returns true and leaves its arguments as they were, for every input; and the card that ties what the row lists to the program's text. -/
import Derived.Test.YtpjbjdheeemdiaaGreatDoorCards
import Derived.Test.YtpjbjdheeemdiaaGreatDoorTie
import Derived.WalkKit
import Derived.ShutString
import Derived.ChangeOld
import Derived.SevenTiedAt
import Derived.Test.YtpjbjdheeemdiaaGreatDoorPa12
namespace Go.Proofs.YtpjbjdheeemdiaaGreatDoor.jsonBlanks
open Go Go.Fw
open Go.ChangeShapes Go.WideShapes Go.ChangeAt Go.RowKit
theorem own:ownKnob Tryz.prog.godebug=none:=by kernel_rfl
theorem Zjr:laidOutB Tryz.prog=true:=by kernel_rfl
theorem walk (s0:ByteArray) (n1:Int) (n2:Int) (w:World) (hr0:s0.size≤140737488351232) (hr1:0≤n1∧n1<256) (hr2:0≤n2∧n2<256) (ht:Zaq w.heap) (hh:9≤sz w.heap) :
    Calls Tryz.prog 7 #[.string s0,.int .u8 n1,.int .u8 n2] w fun e w'=>e = .returned (.bool true)∧Below w.heap.size w w' :=
  ZmD Zbb (s0,n1,n2,()) w rfl (Zf2 (K:=fun r h'=>Value.bool r = .bool true∧Ext w.heap h') hr0 hr1 hr2 ht hh fun _ hx=>⟨rfl,hx⟩)
set_option maxRecDepth 100000 in
theorem Zq3 (os:Os) (started:os.Started) (H:Type) (enc:TypeId × Value→H) :
    ReturnsInHanded {} Tryz.checked os 7 .any (fun w args=>(Rows.jsonBlanksSpec.pre enc Tryz.prog Tryz.f7 Rows.jsonBlanksRow.domain false w args∧laidMetH Tryz.prog ZeG w)∧sizedMet enc Tryz.prog Tryz.f7 (OpenSpec.ofChange Rows.jsonBlanksSpec) false w args) (Rows.jsonBlanksSpec.post enc Tryz.prog Tryz.f7 false true false false):=by
  refine Zim (C:=Tryz.checked) (X:=fun w _=>laidMetH Tryz.prog ZeG w) (fun _ _ _ hh h=>h.of_heap hh) own started (by kernel_rfl) Tryz.func7
    (ChangeSpec.witness_shaped (enc:=enc) (C:=Tryz.checked) (os:=os) (X:=fun w _=>laidMetH Tryz.prog ZeG w) false (World.laidAll Tryz.prog os ZeG) #[.string ByteArray.empty,.int .u8 0,.int .u8 0] 8 (World.laidAll_os _ _ _)
      (World.shaped_of_ZipB (by kernel_rfl) (by kernel_rfl)) (by kernel_rfl) (by kernel_rfl) (by kernel_rfl)
      (by rw [MakeChecks.laidMetH_plain _ _ _ (by kernel_rfl)];exact laidMet_laidAll _ (by kernel_rfl) (by kernel_rfl))) ?_
  intro W base args ds gs before hval0 hW hwt hL hS
  have hval:∀ (j:Nat) t v,Tryz.f7.params[j]?=some t→args[j]?=some v→Value.okWide Tryz.prog W .any base t v:=hval0
  have hW':=hW
  obtain ⟨p,q,hA0,hV,rfl,hfz,hnd⟩:=hW
  have hA:DataW.TrodAll enc Tryz.prog W 0 (fun _=>true) true Tryz.f7.params.toList args.toList ds p:=hA0
  rw [Tryz.params7] at hA hval hwt
  obtain ⟨v0,vs0,d0,ds0,p0,q0,hargs,rfl,rfl,h0,t0⟩:=trodAll_cons hA
  obtain ⟨v1,vs1,d1,ds1,p1,q1,rfl,rfl,rfl,h1,t1⟩:=trodAll_cons t0
  obtain ⟨v2,vs2,d2,ds2,p2,q2,rfl,rfl,rfl,h2,t2⟩:=trodAll_cons t1
  obtain ⟨rfl,rfl,rfl⟩:=trodAll_nil t2
  obtain rfl:args = #[v0,v1,v2]:=by cases args;simp_all
  obtain ⟨rfl,rfl⟩:=trodVars_none hV
  obtain ⟨s0,rfl⟩:=okWide_string Tryz.underlying9 (hval 0 9 v0 rfl rfl)
  obtain ⟨n1,rfl⟩:=okWide_int Tryz.underlying5 (hval 1 5 v1 rfl rfl)
  obtain ⟨n2,rfl⟩:=okWide_int Tryz.underlying5 (hval 2 5 v2 rfl rfl)
  have k0:=h0
  have lt0:∀ x∈p0,x.block<W.heap.size:=by obtain ⟨m,hm⟩:=k0;exact DataW.trod_lt m _ _ _ hm
  obtain ⟨fu0,hfu0⟩:=h0
  obtain rfl:=ZlZ Tryz.underlying9 hfu0
  have k1:=h1
  have lt1:∀ x∈p1,x.block<W.heap.size:=by obtain ⟨m,hm⟩:=k1;exact DataW.trod_lt m _ _ _ hm
  obtain ⟨fu1,hfu1⟩:=h1
  have hlb1:=ZqG (Zng Tryz.underlying5 hfu1)
  have k2:=h2
  have lt2:∀ x∈p2,x.block<W.heap.size:=by obtain ⟨m,hm⟩:=k2;exact DataW.trod_lt m _ _ _ hm
  obtain ⟨fu2,hfu2⟩:=h2
  have hlb2:=ZqG (Zng Tryz.underlying5 hfu2)
  have hlb0:s0.size≤140737488351232:=of_decide_eq_true (List.all_eq_true.1 hwt s0.data.toList.length (by simp [DataW.weightsEach,DataW.weights]))
  obtain ⟨ht,hh⟩:=Zpg hL hS
  clear hA0 hval0
  refine (walk s0 n1 n2 W hlb0 hlb1 hlb2 ht hh).mono fun e W' ⟨he,bel⟩=>?_
  subst he
  exact ⟨_,rfl,_,_,_,[],_,[],hW',trodAll_mk1 (shut_bool Tryz.underlying4 _),(trodAll_cons_mk (Below.trod Zjr (by kernel_rfl) (of_decide_eq_true (by kernel_rfl)) k0 bel lt0) (trodAll_cons_mk (Below.trod Zjr (by kernel_rfl) (of_decide_eq_true (by kernel_rfl)) k1 bel lt1) (trodAll_cons_mk (Below.trod Zjr (by kernel_rfl) (of_decide_eq_true (by kernel_rfl)) k2 bel lt2) trodAll_mk0))),rfl,bel.frame _,fun h=>by cases h⟩
theorem Zvg {a b:Bool} (ha:a=true) (hb:b=true):(a&&b)=true:=by rw [ha,hb];rfl
set_option maxHeartbeats 4000000 in
theorem over:Rows.JsonBlanksSaid :=
  OpenClaim.holds_of_wide 7 Tryz.f7 rfl rfl rfl rfl rfl rfl rfl ⟨rfl,rfl,rfl,rfl,rfl⟩ rfl rfl rfl rfl rfl (by kernel_rfl) Tryz.func7 (by unfold joinedFacts;(repeat' with_reducible refine Zvg ?_ ?_);all_goals as_aux_lemma=>kernel_rfl)
    (of_decide_eq_true (by as_aux_lemma=>kernel_rfl)) (by unfold Func.isWrapper;first | (rw [if_pos (by decide +kernel)];kernel_rfl) | (rw [if_neg (by decide +kernel)];exact ⟨rfl,rfl⟩))
    (fun os started H enc _=>Zq3 os started H enc)
theorem named:Tryz.prog.funcNamed "spillway/spillwaylaw08.JsonBlanks" = some 7:=by kernel_rfl
theorem plain:([9,5,5].all fun u=> !Tryz.prog.wantsStandIn u)=true:=by kernel_rfl
set_option maxHeartbeats 4000000 in
theorem proved:Rows.JsonBlanksCardSaid :=
  Claim7.holds_tied_plain_at .later [] [.data,.data,.data,.data,.sentinel,.sentinel,.pinned,.pinned] true Rows.jsonBlanksCard.stood.harness true over (fun _ h=>by cases h) (by kernel_rfl) (fun _ h=>by cases h) jsonBlanks_row_tie rfl ⟨rfl,rfl⟩ (by kernel_rfl) rfl
    (fun f fn hf hfn=>by
      obtain rfl:f=7:=Option.some.inj (named.symm.trans hf) |>.symm
      obtain rfl:fn=Tryz.f7:=(Option.some.inj (Tryz.func7.symm.trans hfn)).symm
      exact ⟨by kernel_rfl,fun j t ht=>by
        rw [Tryz.params7] at ht
        have hm:t∈[9,5,5]:=by simpa using Array.mem_of_getElem? ht
        exact (show Tryz.prog.wantsStandIn t=false by simpa using List.all_eq_true.1 plain t hm)⟩)
    (by kernel_rfl)
end Go.Proofs.YtpjbjdheeemdiaaGreatDoor.jsonBlanks
