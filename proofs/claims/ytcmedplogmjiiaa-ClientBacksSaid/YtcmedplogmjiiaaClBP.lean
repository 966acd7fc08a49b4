/- Proved here: 'ClientBacks' returns true and leaves its arguments as they were, for every input. No condition beyond the row's own. -/
import Derived.Test.YtcmedplogmjiiaaRows
import Derived.Test.YtcmedplogmjiiaaC
import Derived.Test.YtcmedplogmjiiaaFwN
import Derived.Test.YtcmedplogmjiiaaClF
import Derived.Test.YtcmedplogmjiiaaClArg
import Derived.WalkKit
import Derived.ProofKit
import Derived.OpenShut
import Derived.ShutString
import Derived.ChangeOld
import Derived.JoinedCond
namespace Go.Proofs.Ytcmedplogmjiiaa.clientBacks
open Go Go.Fw
open Go.ChangeShapes Go.WideShapes Go.ChangeAt Go.RowKit

theorem own : ownKnob Try.prog.godebug = none := by kernel_rfl
theorem laidOut : laidOutB Try.prog = true := by kernel_rfl

theorem walk (sa0 sb0 sc0 : Int) (n1 : Int) (w : World) (hr1 : 0 ≤ n1 ∧ n1 < 256) :
    Calls Try.prog 3 #[.agg #[.int .i64 sa0, .int .i64 sb0, .int .i64 sc0], .int .u8 n1] w fun e w' => e = .returned (.bool true) ∧ Below w.heap.size w w' :=
  law_calls ok_spillwaylaw21_ClientBacks ((sa0, sb0, sc0, ()), n1, ()) w rfl (ClientBacks_true (K := fun r h' => Value.bool r = .bool true ∧ Ext w.heap h') hr1 fun _ hx => ⟨rfl, hx⟩)

set_option maxRecDepth 100000 in
theorem lifted (os : Os) (started : os.Started) (H : Type) (enc : TypeId × Value → H) :
    ReturnsInHanded {} Try.checked os 3 .any (Rows.clientBacksSpec.pre6 enc Try.prog Try.f3 Rows.clientBacksRow.domain false) (Rows.clientBacksSpec.post enc Try.prog Try.f3 false true false false) := by
  refine returnsInHanded_of_change (C := Try.checked) own started (by kernel_rfl) Try.func3
    (ChangeSpec.witness6 (enc := enc) (C := Try.checked) false ⟨#[], #[.agg #[.int .i64 0, .int .i64 0, .int .i64 0], .int .u8 0], []⟩ 8 (by kernel_rfl) (by kernel_rfl) (by kernel_rfl) (by kernel_rfl)) ?_
  intro W base args ds gs before hval0 hW hcnd _
  have hval : ∀ (j : Nat) t v, Try.f3.params[j]? = some t → args[j]? = some v → Value.okWide Try.prog W .any base t v := hval0
  have hW' := hW
  obtain ⟨p, q, hA0, hV, rfl, hfz, hnd⟩ := hW
  have hA : DataW.TrodAll enc Try.prog W 0 (fun _ => true) true Try.f3.params.toList args.toList ds p := hA0
  rw [Try.params3] at hA hval
  obtain ⟨v0, vs0, d0, ds0, p0, q0, hargs, rfl, rfl, h0, t0⟩ := trodAll_cons hA
  obtain ⟨v1, vs1, d1, ds1, p1, q1, rfl, rfl, rfl, h1, t1⟩ := trodAll_cons t0
  obtain ⟨rfl, rfl, rfl⟩ := trodAll_nil t1
  obtain rfl : args = #[v0, v1] := by cases args; simp_all
  obtain ⟨rfl, rfl⟩ := trodVars_none hV
  obtain ⟨cs0, rfl, _⟩ := okWide_struct Try.underlying23 (hval 0 23 v0 rfl rfl)
  obtain ⟨n1, rfl⟩ := okWide_int Try.underlying5 (hval 1 5 v1 rfl rfl)
  have k0 := h0
  have lt0 : ∀ x ∈ p0, x.block < W.heap.size := by obtain ⟨m, hm⟩ := k0; exact DataW.trod_lt m _ _ _ hm
  obtain ⟨fu0, hfu0⟩ := h0
  obtain ⟨sa0, sb0, sc0, hc0⟩ := arg_setting Try.underlying23 (by kernel_rfl) Try.underlying3 (by kernel_rfl) (by kernel_rfl) hfu0
  obtain rfl : cs0 = #[.int .i64 sa0, .int .i64 sb0, .int .i64 sc0] := by apply Array.ext'; exact hc0
  have k1 := h1
  have lt1 : ∀ x ∈ p1, x.block < W.heap.size := by obtain ⟨m, hm⟩ := k1; exact DataW.trod_lt m _ _ _ hm
  obtain ⟨fu1, hfu1⟩ := h1
  have hlb1 := wf_u8 (arg_int Try.underlying5 hfu1)
  clear hA0 hval0
  refine (walk sa0 sb0 sc0 n1 W hlb1).mono fun e W' ⟨he, bel⟩ => ?_
  subst he
  exact ⟨_, rfl, _, _, _, [], _, [], hW', trodAll_mk1 (shut_bool Try.underlying4 _), (trodAll_cons_mk (Below.trod laidOut (by kernel_rfl) (of_decide_eq_true (by kernel_rfl)) k0 bel lt0) (trodAll_cons_mk (Below.trod laidOut (by kernel_rfl) (of_decide_eq_true (by kernel_rfl)) k1 bel lt1) trodAll_mk0)), rfl, bel.frame _, fun h => by cases h⟩

theorem over : Rows.clientBacksRow.holds Try.pinned (OpenSpec.ofChange Rows.clientBacksSpec) :=
  OpenClaim.holds_of_wide 3 Try.f3 rfl rfl rfl rfl rfl rfl rfl ⟨rfl, rfl, rfl, rfl, rfl⟩ rfl rfl rfl rfl rfl (by kernel_rfl) Try.func3 (by kernel_rfl)
    (of_decide_eq_true (by kernel_rfl)) (by unfold Func.isWrapper; first | (rw [if_pos (by decide +kernel)]; kernel_rfl) | (rw [if_neg (by decide +kernel)]; exact ⟨rfl, rfl⟩))
    (fun os started H enc _ => lifted os started H enc)

theorem proved : Rows.ClientBacksSaid := over

end Go.Proofs.Ytcmedplogmjiiaa.clientBacks
