/-
  No cell of these rows narrows 'for every input' (looked for: loops, veiled, ifaces, maps, wideKeys, modest, calm, conditions, laid).
  DERIVED. THE GIVEN ROWS OF THIS SEAT. 4 by the template 'for every input the law returns true; each argument reads behind the call as it read before'; 0 by the template 'total and deterministic' (their statements: YtbppjmcinoffnaaGreatTotals.lean).
  GIVEN WITH THE SEED: the statements are not yours to turn. If you find one false, say at which input.
  Laid BY PROGRAM, IN A SANDBOX (cutbox-rows.mjs): the forced cells as the released guide's own fill.sh prints them over the translation e5d7bd70c80eb5a2… (all of the seat's roots in one cut). By AI agents, Wed Nov 11 2026. No macro, syntax, notation, axiom, sorry.
-/
import Derived.Test.YtbppjmcinoffnaaGreatChecked
import GoSem.Claim
import GoSem.ClaimJoined
import GoSem.ClaimMapViews
import Derived.JoinedTies
import Derived.KernelRfl
namespace Go.Proofs.YtbppjmcinoffnaaGreat
/- THE CELL 'sum', in the pinned program and in every row, IS THE sha256 OF THE DUMP (.gsa) THAT YtbppjmcinoffnaaGreatProg.lean LOADS. Nothing in Lean hashes anything: it is a label: what it is worth is what the hold of that sum in a sandbox is worth. -/
noncomputable def Tryz.pinned : Pinned := { name := "ytbppjmcinoffnaagreat", sum := "e5d7bd70c80eb5a2b2c4d06108d5b22e3f71e395da24a475575f9f4e446784e2", checked := Tryz.checked }
namespace Rows
def none {H : Type} : Left H := { results := [], args := [] }

/-- 'spillwaylaw23.ClusterRate': WHATEVER THE INPUT: true; the input reads as it did. -/
def clusterRateSpec : ChangeSpec := { name := "clusterRate", fn := fun _ => fun
  | [d1, d2] => { results := [.lit (.bool true)], args := [d1, d2] }
  | _ => none }
def clusterRateRow : OpenClaim := { program := "ytbppjmcinoffnaagreat", sum := "e5d7bd70c80eb5a2b2c4d06108d5b22e3f71e395da24a475575f9f4e446784e2", func := "spillway/spillwaylaw23.ClusterRate", spec := "clusterRate", unfollowed := true, recurses := true, plainKeys := false, apart := false }
def ClusterRateSaid : Prop := clusterRateRow.holds Tryz.pinned (OpenSpec.ofChange clusterRateSpec)

/-- ITS FALSE NEIGHBOUR: 'it returns false'. Refute it at one input. -/
def clusterRateWrong : ChangeSpec := { name := "clusterRate", fn := fun _ => fun
  | [d1, d2] => { results := [.lit (.bool false)], args := [d1, d2] }
  | _ => none }
def ClusterRateWrongFalsely : Prop := clusterRateRow.holds Tryz.pinned (OpenSpec.ofChange clusterRateWrong)

/-- 'spillwaylaw23.ClusterGrants': WHATEVER THE INPUT: true; the input reads as it did. -/
def clusterGrantsSpec : ChangeSpec := { name := "clusterGrants", fn := fun _ => fun
  | [d1, d2] => { results := [.lit (.bool true)], args := [d1, d2] }
  | _ => none }
def clusterGrantsRow : OpenClaim := { program := "ytbppjmcinoffnaagreat", sum := "e5d7bd70c80eb5a2b2c4d06108d5b22e3f71e395da24a475575f9f4e446784e2", func := "spillway/spillwaylaw23.ClusterGrants", spec := "clusterGrants", unfollowed := true, recurses := true, plainKeys := false, apart := false }
def ClusterGrantsSaid : Prop := clusterGrantsRow.holds Tryz.pinned (OpenSpec.ofChange clusterGrantsSpec)

/-- ITS FALSE NEIGHBOUR: 'it returns false'. Refute it at one input. -/
def clusterGrantsWrong : ChangeSpec := { name := "clusterGrants", fn := fun _ => fun
  | [d1, d2] => { results := [.lit (.bool false)], args := [d1, d2] }
  | _ => none }
def ClusterGrantsWrongFalsely : Prop := clusterGrantsRow.holds Tryz.pinned (OpenSpec.ofChange clusterGrantsWrong)

/-- 'spillwaylaw23.ClusterTicks': WHATEVER THE INPUT: true; the input reads as it did. -/
def clusterTicksSpec : ChangeSpec := { name := "clusterTicks", fn := fun _ => fun
  | [d1, d2] => { results := [.lit (.bool true)], args := [d1, d2] }
  | _ => none }
def clusterTicksRow : OpenClaim := { program := "ytbppjmcinoffnaagreat", sum := "e5d7bd70c80eb5a2b2c4d06108d5b22e3f71e395da24a475575f9f4e446784e2", func := "spillway/spillwaylaw23.ClusterTicks", spec := "clusterTicks", unfollowed := true, recurses := true, plainKeys := false, apart := false }
def ClusterTicksSaid : Prop := clusterTicksRow.holds Tryz.pinned (OpenSpec.ofChange clusterTicksSpec)

/-- ITS FALSE NEIGHBOUR: 'it returns false'. Refute it at one input. -/
def clusterTicksWrong : ChangeSpec := { name := "clusterTicks", fn := fun _ => fun
  | [d1, d2] => { results := [.lit (.bool false)], args := [d1, d2] }
  | _ => none }
def ClusterTicksWrongFalsely : Prop := clusterTicksRow.holds Tryz.pinned (OpenSpec.ofChange clusterTicksWrong)

/-- 'spillwaylaw23.ClusterNone': WHATEVER THE INPUT: true; the input reads as it did. -/
def clusterNoneSpec : ChangeSpec := { name := "clusterNone", fn := fun _ => fun
  | [d] => { results := [.lit (.bool true)], args := [d] }
  | _ => none }
def clusterNoneRow : OpenClaim := { program := "ytbppjmcinoffnaagreat", sum := "e5d7bd70c80eb5a2b2c4d06108d5b22e3f71e395da24a475575f9f4e446784e2", func := "spillway/spillwaylaw23.ClusterNone", spec := "clusterNone", inPlace := ["maps.clone"], unfollowed := true, recurses := true, plainKeys := false, apart := false }
def ClusterNoneSaid : Prop := clusterNoneRow.holds Tryz.pinned (OpenSpec.ofChange clusterNoneSpec)

/-- ITS FALSE NEIGHBOUR: 'it returns false'. Refute it at one input. -/
def clusterNoneWrong : ChangeSpec := { name := "clusterNone", fn := fun _ => fun
  | [d] => { results := [.lit (.bool false)], args := [d] }
  | _ => none }
def ClusterNoneWrongFalsely : Prop := clusterNoneRow.holds Tryz.pinned (OpenSpec.ofChange clusterNoneWrong)

/- THE SECOND FORM. 'bulk': how many values and letters a reading holds, each counted each time it is reached (what is shared counts as often as it is met; a slice's spare places count too). A statement '..UptoSaid' is the law's where the arguments, and the package variables that the reading takes, are together of bulk at most 1048576: NARROWER than '..Said'. Prove '..Said' where nothing that the law and all that it calls make is longer than what came in: it says more and counts as full. Else prove '..UptoSaid'. A law counts once. -/
mutual
def uptoBulk {H : Type} : DataW H → Nat
  | .lit (.string bytes) => bytes.length + 1
  | .lit _ => 1
  | .nil => 1
  | .ptr d => uptoBulk d + 1
  | .slice elems spare => uptoBulkAll elems + uptoBulkAll spare + 1
  | .agg parts => uptoBulkAll parts + 1
  | .iface _ d => uptoBulk d + 1
  | .map entries => uptoBulkEntries entries + 1
  | .held _ => 1
def uptoBulkAll {H : Type} : List (DataW H) → Nat
  | [] => 0
  | d :: r => uptoBulk d + uptoBulkAll r
def uptoBulkEntries {H : Type} : List (Lit × DataW H) → Nat
  | [] => 0
  | x :: r => uptoBulkEntry x + uptoBulkEntries r
def uptoBulkEntry {H : Type} : Lit × DataW H → Nat
  | (.string bytes, d) => bytes.length + uptoBulk d + 1
  | (_, d) => uptoBulk d + 1
 end
def uptoSmall : (H : Type) → List (DataW H) → Bool := fun _ ds => decide (uptoBulkAll ds ≤ 1048576)
def OpenSpec.upto (s : _root_.Go.ChangeSpec) : _root_.Go.OpenSpec := { _root_.Go.OpenSpec.ofChange s with cond := some uptoSmall }

/-- 'spillwaylaw23.ClusterRate', WHERE WHAT IT READS IS OF BULK AT MOST 1048576: true; the input reads as it did. -/
def clusterRateUptoRow : OpenClaim := { program := "ytbppjmcinoffnaagreat", sum := "e5d7bd70c80eb5a2b2c4d06108d5b22e3f71e395da24a475575f9f4e446784e2", func := "spillway/spillwaylaw23.ClusterRate", spec := "clusterRate", unfollowed := true, recurses := true, plainKeys := false, apart := false, narrowed := true }
def ClusterRateUptoSaid : Prop := clusterRateUptoRow.holds Tryz.pinned (OpenSpec.upto clusterRateSpec)

/-- 'spillwaylaw23.ClusterGrants', WHERE WHAT IT READS IS OF BULK AT MOST 1048576: true; the input reads as it did. -/
def clusterGrantsUptoRow : OpenClaim := { program := "ytbppjmcinoffnaagreat", sum := "e5d7bd70c80eb5a2b2c4d06108d5b22e3f71e395da24a475575f9f4e446784e2", func := "spillway/spillwaylaw23.ClusterGrants", spec := "clusterGrants", unfollowed := true, recurses := true, plainKeys := false, apart := false, narrowed := true }
def ClusterGrantsUptoSaid : Prop := clusterGrantsUptoRow.holds Tryz.pinned (OpenSpec.upto clusterGrantsSpec)

/-- 'spillwaylaw23.ClusterTicks', WHERE WHAT IT READS IS OF BULK AT MOST 1048576: true; the input reads as it did. -/
def clusterTicksUptoRow : OpenClaim := { program := "ytbppjmcinoffnaagreat", sum := "e5d7bd70c80eb5a2b2c4d06108d5b22e3f71e395da24a475575f9f4e446784e2", func := "spillway/spillwaylaw23.ClusterTicks", spec := "clusterTicks", unfollowed := true, recurses := true, plainKeys := false, apart := false, narrowed := true }
def ClusterTicksUptoSaid : Prop := clusterTicksUptoRow.holds Tryz.pinned (OpenSpec.upto clusterTicksSpec)

/-- 'spillwaylaw23.ClusterNone', WHERE WHAT IT READS IS OF BULK AT MOST 1048576: true; the input reads as it did. -/
def clusterNoneUptoRow : OpenClaim := { program := "ytbppjmcinoffnaagreat", sum := "e5d7bd70c80eb5a2b2c4d06108d5b22e3f71e395da24a475575f9f4e446784e2", func := "spillway/spillwaylaw23.ClusterNone", spec := "clusterNone", inPlace := ["maps.clone"], unfollowed := true, recurses := true, plainKeys := false, apart := false, narrowed := true }
def ClusterNoneUptoSaid : Prop := clusterNoneUptoRow.holds Tryz.pinned (OpenSpec.upto clusterNoneSpec)

end Rows
end Go.Proofs.YtbppjmcinoffnaaGreat
