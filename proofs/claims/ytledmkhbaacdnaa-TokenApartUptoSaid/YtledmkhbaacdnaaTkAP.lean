/- Proved here: 'TokenApart' returns true and leaves its arguments as they were, where what it reads is of bulk at most 1048576. -/
import Derived.Test.YtledmkhbaacdnaaRows
import Derived.Test.YtledmkhbaacdnaaC
import Derived.Test.YtledmkhbaacdnaaFwN
import Derived.Test.YtledmkhbaacdnaaTkPc
import Derived.Test.YtledmkhbaacdnaaTkArgT
import Derived.WalkKit
import Derived.ProofKit
import Derived.OpenShut
import Derived.ShutString
import Derived.ChangeOld
import Derived.JoinedCond
namespace Go.Proofs.Ytledmkhbaacdnaa.tokenApart
open Go Go.Fw
set_option linter.unusedSimpArgs false
set_option linter.unusedVariables false
open Go.ChangeShapes Go.WideShapes Go.ChangeAt Go.RowKit

theorem own : ownKnob Try.prog.godebug = none := by kernel_rfl
theorem laidOut : laidOutB Try.prog = true := by kernel_rfl

theorem walk (a0 : Option Addr) (len0 cap0 : Nat) (lb0 : List F4) (a1 : Option Addr) (len1 cap1 : Nat) (lb1 : List F4) (a2 : Option Addr) (len2 cap2 : Nat) (lb2 : List Dd) (w : World) (hr0 : Row w.heap ⟨a0, len0, cap0⟩ 4 (lb0.flatMap f4L)) (hr1 : Row w.heap ⟨a1, len1, cap1⟩ 4 (lb1.flatMap f4L)) (hr2 : Row w.heap ⟨a2, len2, cap2⟩ 11 (lb2.flatMap dL) ∧ ∀ d, d ∈ lb2 → d.2.2.2.1.2.2.2.2.1.size < 9223372036854775808) (hb0 : lb0.length ≤ 1048576) (hb1 : lb1.length ≤ 1048576) (hb2 : lb2.length ≤ 1048576) :
    Calls Try.prog 3 #[.slice a0 len0 cap0, .slice a1 len1 cap1, .slice a2 len2 cap2] w fun e w' => e = .returned (.bool true) ∧ Below w.heap.size w w' :=
  law_calls ok_spillwaylaw20_TokenApart (⟨a0, len0, cap0⟩, ⟨a1, len1, cap1⟩, ⟨a2, len2, cap2⟩, ()) w rfl (TokenApart_true (K := fun r h' => Value.bool r = .bool true ∧ Ext w.heap h') hr0 hr1 hr2 hb0 hb1 hb2 fun _ hx => ⟨rfl, hx⟩)

set_option maxRecDepth 100000 in
theorem lifted (os : Os) (started : os.Started) (H : Type) (enc : TypeId × Value → H) (F : Stop.Interp) :
    ReturnsInHanded {} Try.checked os 3 .any ((Rows.OpenSpec.upto Rows.tokenApartSpec).pre6 enc Try.prog Try.f3 Rows.tokenApartUptoRow.domain false) (((Rows.OpenSpec.upto Rows.tokenApartSpec).at F).post enc Try.prog Try.f3 false true false false) := by
  refine returnsInHanded_of_cond (C := Try.checked) (s := Rows.OpenSpec.upto Rows.tokenApartSpec) (k := Rows.uptoSmall) rfl own started (by kernel_rfl) Try.func3
    (OpenSpec.witness (enc := enc) (C := Try.checked) (s := Rows.OpenSpec.upto Rows.tokenApartSpec) (k := Rows.uptoSmall) rfl false ⟨#[], #[.slice none 0 0, .slice none 0 0, .slice none 0 0], []⟩ 8 (by kernel_rfl) (by kernel_rfl) (by kernel_rfl)
      (x := ([.nil, .nil, .nil], [], [])) (by kernel_rfl) rfl (by kernel_rfl)) ?_
  intro W base args ds gs before hval0 hW hcnd hk _
  have hval : ∀ (j : Nat) t v, Try.f3.params[j]? = some t → args[j]? = some v → Value.okWide Try.prog W .any base t v := hval0
  have hW' := hW
  obtain ⟨p, q, hA0, hV, rfl, hfz, hnd⟩ := hW
  have hA : DataW.TrodAll enc Try.prog W 0 (fun _ => true) true Try.f3.params.toList args.toList ds p := hA0
  rw [Try.params3] at hA hval
  obtain ⟨v0, vs0, d0, ds0, p0, q0, hargs, rfl, rfl, h0, t0⟩ := trodAll_cons hA
  obtain ⟨v1, vs1, d1, ds1, p1, q1, rfl, rfl, rfl, h1, t1⟩ := trodAll_cons t0
  obtain ⟨v2, vs2, d2, ds2, p2, q2, rfl, rfl, rfl, h2, t2⟩ := trodAll_cons t1
  obtain ⟨rfl, rfl, rfl⟩ := trodAll_nil t2
  obtain rfl : args = #[v0, v1, v2] := by cases args; simp_all
  obtain ⟨rfl, rfl⟩ := trodVars_none hV
  obtain ⟨a0, len0, cap0, rfl⟩ := okWide_slice Try.underlying22 (hval 0 22 v0 rfl rfl)
  obtain ⟨a1, len1, cap1, rfl⟩ := okWide_slice Try.underlying22 (hval 1 22 v1 rfl rfl)
  obtain ⟨a2, len2, cap2, rfl⟩ := okWide_slice Try.underlying23 (hval 2 23 v2 rfl rfl)
  have k0 := h0
  have lt0 : ∀ x ∈ p0, x.block < W.heap.size := by obtain ⟨m, hm⟩ := k0; exact DataW.trod_lt m _ _ _ hm
  obtain ⟨fu0, hfu0⟩ := h0
  obtain ⟨lb0, hlb0, hbulk0⟩ := arg_f4s Try.underlying22 Try.underlying62 (by kernel_rfl) Try.underlying3 (by kernel_rfl) (by kernel_rfl) hfu0
  have k1 := h1
  have lt1 : ∀ x ∈ p1, x.block < W.heap.size := by obtain ⟨m, hm⟩ := k1; exact DataW.trod_lt m _ _ _ hm
  obtain ⟨fu1, hfu1⟩ := h1
  obtain ⟨lb1, hlb1, hbulk1⟩ := arg_f4s Try.underlying22 Try.underlying62 (by kernel_rfl) Try.underlying3 (by kernel_rfl) (by kernel_rfl) hfu1
  have k2 := h2
  have lt2 : ∀ x ∈ p2, x.block < W.heap.size := by obtain ⟨m, hm⟩ := k2; exact DataW.trod_lt m _ _ _ hm
  obtain ⟨fu2, hfu2⟩ := h2
  obtain ⟨lb2, hlb2, hbulk2⟩ := arg_deeds20 Try.underlying23 Try.underlying43 (by kernel_rfl) Try.underlying3 Try.underlying41 Try.underlying39 Try.underlying9 Try.underlying22 (by kernel_rfl) (by kernel_rfl) (by kernel_rfl) (by kernel_rfl) (by kernel_rfl) (by kernel_rfl) (by kernel_rfl) hfu2
  have hsmall : lb0.length ≤ 1048576 ∧ lb1.length ≤ 1048576 ∧ lb2.length ≤ 1048576 := by
    have h : Rows.uptoBulkAll ([d0, d1, d2] ++ []) ≤ 1048576 := of_decide_eq_true hk
    simp only [List.append_nil, Rows.uptoBulkAll] at h
    dsimp only at hbulk0 hbulk1 hbulk2
    omega
  clear hA0 hval0
  refine (walk a0 len0 cap0 lb0 a1 len1 cap1 lb1 a2 len2 cap2 lb2 W hlb0 hlb1 hlb2 hsmall.1 hsmall.2.1 hsmall.2.2).mono fun e W' ⟨he, bel⟩ => ?_
  subst he
  exact ⟨_, rfl, _, _, _, [], _, [], hW', trodAll_mk1 (shut_bool Try.underlying4 _), (trodAll_cons_mk (Below.trod laidOut (by kernel_rfl) (of_decide_eq_true (by kernel_rfl)) k0 bel lt0) (trodAll_cons_mk (Below.trod laidOut (by kernel_rfl) (of_decide_eq_true (by kernel_rfl)) k1 bel lt1) (trodAll_cons_mk (Below.trod laidOut (by kernel_rfl) (of_decide_eq_true (by kernel_rfl)) k2 bel lt2) trodAll_mk0))), rfl, bel.frame _, fun h => by cases h⟩

theorem proved : Rows.TokenApartUptoSaid :=
  OpenClaim.holds_of_cond 3 Try.f3 rfl rfl rfl rfl rfl rfl rfl ⟨rfl, rfl, rfl, rfl, rfl⟩ rfl rfl rfl rfl rfl (by kernel_rfl) Try.func3 (by kernel_rfl)
    (of_decide_eq_true (by kernel_rfl)) (by unfold Func.isWrapper; first | (rw [if_pos (by decide +kernel)]; kernel_rfl) | (rw [if_neg (by decide +kernel)]; exact ⟨rfl, rfl⟩))
    (fun os started H enc _ F => lifted os started H enc F)

end Go.Proofs.Ytledmkhbaacdnaa.tokenApart
