/-
  No cell of these rows narrows 'for every input' (looked for: loops, veiled, ifaces, maps, wideKeys, modest, calm, conditions, laid).
  DERIVED. THE GIVEN ROWS OF THIS SEAT. 6 by the template 'for every input the law returns true; each argument reads behind the call as it read before'; 0 by the template 'total and deterministic' (their statements: YthbfgkphlmlihaaGreatTotals.lean).
  GIVEN WITH THE SEED: the statements are not yours to turn. If you find one false, say at which input.
  Laid BY PROGRAM, IN A SANDBOX (cutbox-rows.mjs): the forced cells as the released guide's own fill.sh prints them over the translation 62597a8a3eb114db… (all of the seat's roots in one cut). By AI agents, Wed Nov 11 2026. No macro, syntax, notation, axiom, sorry.
-/
import Derived.Test.YthbfgkphlmlihaaGreatChecked
import GoSem.Claim
import GoSem.ClaimJoined
import GoSem.ClaimMapViews
import Derived.JoinedTies
import Derived.KernelRfl
namespace Go.Proofs.YthbfgkphlmlihaaGreat
/- THE CELL 'sum', in the pinned program and in every row, IS THE sha256 OF THE DUMP (.gsa) THAT YthbfgkphlmlihaaGreatProg.lean LOADS. Nothing in Lean hashes anything: it is a label: what it is worth is what the hold of that sum in a sandbox is worth. -/
noncomputable def Tryz.pinned : Pinned := { name := "ythbfgkphlmlihaagreat", sum := "62597a8a3eb114dbb03f39b9b0c2db60b4e2d6e9cbf4c28cc5f8dabab0cdbf5b", checked := Tryz.checked }
namespace Rows
def none {H : Type} : Left H := { results := [], args := [] }

/-- 'spillwaylaw17.SlotsRate': WHATEVER THE INPUT: true; the input reads as it did. -/
def slotsRateSpec : ChangeSpec := { name := "slotsRate", fn := fun _ => fun
  | [d1, d2] => { results := [.lit (.bool true)], args := [d1, d2] }
  | _ => none }
def slotsRateRow : OpenClaim := { program := "ythbfgkphlmlihaagreat", sum := "62597a8a3eb114dbb03f39b9b0c2db60b4e2d6e9cbf4c28cc5f8dabab0cdbf5b", func := "spillway/spillwaylaw17.SlotsRate", spec := "slotsRate", inPlace := ["maps.clone", "math/bits.Add64"], unfollowed := true, recurses := true, named := ["math/bits.divideError", "math/bits.overflowError"], plainKeys := false, apart := false }
def SlotsRateSaid : Prop := slotsRateRow.holds Tryz.pinned (OpenSpec.ofChange slotsRateSpec)

/-- ITS FALSE NEIGHBOUR: 'it returns false'. Refute it at one input. -/
def slotsRateWrong : ChangeSpec := { name := "slotsRate", fn := fun _ => fun
  | [d1, d2] => { results := [.lit (.bool false)], args := [d1, d2] }
  | _ => none }
def SlotsRateWrongFalsely : Prop := slotsRateRow.holds Tryz.pinned (OpenSpec.ofChange slotsRateWrong)

/-- 'spillwaylaw17.SlotsBreaker': WHATEVER THE INPUT: true; the input reads as it did. -/
def slotsBreakerSpec : ChangeSpec := { name := "slotsBreaker", fn := fun _ => fun
  | [d1, d2] => { results := [.lit (.bool true)], args := [d1, d2] }
  | _ => none }
def slotsBreakerRow : OpenClaim := { program := "ythbfgkphlmlihaagreat", sum := "62597a8a3eb114dbb03f39b9b0c2db60b4e2d6e9cbf4c28cc5f8dabab0cdbf5b", func := "spillway/spillwaylaw17.SlotsBreaker", spec := "slotsBreaker", inPlace := ["maps.clone", "math/bits.Add64"], unfollowed := true, recurses := true, named := ["math/bits.divideError", "math/bits.overflowError"], plainKeys := false, apart := false }
def SlotsBreakerSaid : Prop := slotsBreakerRow.holds Tryz.pinned (OpenSpec.ofChange slotsBreakerSpec)

/-- ITS FALSE NEIGHBOUR: 'it returns false'. Refute it at one input. -/
def slotsBreakerWrong : ChangeSpec := { name := "slotsBreaker", fn := fun _ => fun
  | [d1, d2] => { results := [.lit (.bool false)], args := [d1, d2] }
  | _ => none }
def SlotsBreakerWrongFalsely : Prop := slotsBreakerRow.holds Tryz.pinned (OpenSpec.ofChange slotsBreakerWrong)

/-- 'spillwaylaw17.SlotsThreads': WHATEVER THE INPUT: true; the input reads as it did. -/
def slotsThreadsSpec : ChangeSpec := { name := "slotsThreads", fn := fun _ => fun
  | [d1, d2] => { results := [.lit (.bool true)], args := [d1, d2] }
  | _ => none }
def slotsThreadsRow : OpenClaim := { program := "ythbfgkphlmlihaagreat", sum := "62597a8a3eb114dbb03f39b9b0c2db60b4e2d6e9cbf4c28cc5f8dabab0cdbf5b", func := "spillway/spillwaylaw17.SlotsThreads", spec := "slotsThreads", inPlace := ["maps.clone", "math/bits.Add64"], unfollowed := true, recurses := true, named := ["math/bits.divideError", "math/bits.overflowError"], plainKeys := false, apart := false }
def SlotsThreadsSaid : Prop := slotsThreadsRow.holds Tryz.pinned (OpenSpec.ofChange slotsThreadsSpec)

/-- ITS FALSE NEIGHBOUR: 'it returns false'. Refute it at one input. -/
def slotsThreadsWrong : ChangeSpec := { name := "slotsThreads", fn := fun _ => fun
  | [d1, d2] => { results := [.lit (.bool false)], args := [d1, d2] }
  | _ => none }
def SlotsThreadsWrongFalsely : Prop := slotsThreadsRow.holds Tryz.pinned (OpenSpec.ofChange slotsThreadsWrong)

/-- 'spillwaylaw17.SlotsTwins': WHATEVER THE INPUT: true; the input reads as it did. -/
def slotsTwinsSpec : ChangeSpec := { name := "slotsTwins", fn := fun _ => fun
  | [d1, d2, d3] => { results := [.lit (.bool true)], args := [d1, d2, d3] }
  | _ => none }
def slotsTwinsRow : OpenClaim := { program := "ythbfgkphlmlihaagreat", sum := "62597a8a3eb114dbb03f39b9b0c2db60b4e2d6e9cbf4c28cc5f8dabab0cdbf5b", func := "spillway/spillwaylaw17.SlotsTwins", spec := "slotsTwins", inPlace := ["maps.clone", "math/bits.Add64"], unfollowed := true, recurses := true, named := ["math/bits.divideError", "math/bits.overflowError"], plainKeys := false, apart := false }
def SlotsTwinsSaid : Prop := slotsTwinsRow.holds Tryz.pinned (OpenSpec.ofChange slotsTwinsSpec)

/-- ITS FALSE NEIGHBOUR: 'it returns false'. Refute it at one input. -/
def slotsTwinsWrong : ChangeSpec := { name := "slotsTwins", fn := fun _ => fun
  | [d1, d2, d3] => { results := [.lit (.bool false)], args := [d1, d2, d3] }
  | _ => none }
def SlotsTwinsWrongFalsely : Prop := slotsTwinsRow.holds Tryz.pinned (OpenSpec.ofChange slotsTwinsWrong)

/-- 'spillwaylaw17.SlotsReload': WHATEVER THE INPUT: true; the input reads as it did. -/
def slotsReloadSpec : ChangeSpec := { name := "slotsReload", fn := fun _ => fun
  | [d] => { results := [.lit (.bool true)], args := [d] }
  | _ => none }
def slotsReloadRow : OpenClaim := { program := "ythbfgkphlmlihaagreat", sum := "62597a8a3eb114dbb03f39b9b0c2db60b4e2d6e9cbf4c28cc5f8dabab0cdbf5b", func := "spillway/spillwaylaw17.SlotsReload", spec := "slotsReload", inPlace := ["maps.clone", "math/bits.Add64"], unfollowed := true, recurses := true, named := ["math/bits.divideError", "math/bits.overflowError"], plainKeys := false, apart := false }
def SlotsReloadSaid : Prop := slotsReloadRow.holds Tryz.pinned (OpenSpec.ofChange slotsReloadSpec)

/-- ITS FALSE NEIGHBOUR: 'it returns false'. Refute it at one input. -/
def slotsReloadWrong : ChangeSpec := { name := "slotsReload", fn := fun _ => fun
  | [d] => { results := [.lit (.bool false)], args := [d] }
  | _ => none }
def SlotsReloadWrongFalsely : Prop := slotsReloadRow.holds Tryz.pinned (OpenSpec.ofChange slotsReloadWrong)

/-- 'spillwaylaw17.SlotsBlocked': WHATEVER THE INPUT: true; the input reads as it did. -/
def slotsBlockedSpec : ChangeSpec := { name := "slotsBlocked", fn := fun _ => fun
  | [d1, d2, d3] => { results := [.lit (.bool true)], args := [d1, d2, d3] }
  | _ => none }
def slotsBlockedRow : OpenClaim := { program := "ythbfgkphlmlihaagreat", sum := "62597a8a3eb114dbb03f39b9b0c2db60b4e2d6e9cbf4c28cc5f8dabab0cdbf5b", func := "spillway/spillwaylaw17.SlotsBlocked", spec := "slotsBlocked", inPlace := ["maps.clone", "math/bits.Add64"], unfollowed := true, recurses := true, named := ["math/bits.divideError", "math/bits.overflowError"], plainKeys := false, apart := false }
def SlotsBlockedSaid : Prop := slotsBlockedRow.holds Tryz.pinned (OpenSpec.ofChange slotsBlockedSpec)

/-- ITS FALSE NEIGHBOUR: 'it returns false'. Refute it at one input. -/
def slotsBlockedWrong : ChangeSpec := { name := "slotsBlocked", fn := fun _ => fun
  | [d1, d2, d3] => { results := [.lit (.bool false)], args := [d1, d2, d3] }
  | _ => none }
def SlotsBlockedWrongFalsely : Prop := slotsBlockedRow.holds Tryz.pinned (OpenSpec.ofChange slotsBlockedWrong)

/- THE SECOND FORM. 'bulk': how many values and letters a reading holds, each counted each time it is reached (what is shared counts as often as it is met; a slice's spare places count too). A statement '..UptoSaid' is the law's where the arguments, and the package variables that the reading takes, are together of bulk at most 1048576: NARROWER than '..Said'. Prove '..Said' where nothing that the law and all that it calls make is longer than what came in: it says more and counts as full. Else prove '..UptoSaid'. A law counts once. -/
mutual
def uptoBulk {H : Type} : DataW H → Nat
  | .lit (.string bytes) => bytes.length + 1
  | .lit _ => 1
  | .nil => 1
  | .ptr d => uptoBulk d + 1
  | .slice elems spare => uptoBulkAll elems + uptoBulkAll spare + 1
  | .agg parts => uptoBulkAll parts + 1
  | .iface _ d => uptoBulk d + 1
  | .map entries => uptoBulkEntries entries + 1
  | .held _ => 1
def uptoBulkAll {H : Type} : List (DataW H) → Nat
  | [] => 0
  | d :: r => uptoBulk d + uptoBulkAll r
def uptoBulkEntries {H : Type} : List (Lit × DataW H) → Nat
  | [] => 0
  | x :: r => uptoBulkEntry x + uptoBulkEntries r
def uptoBulkEntry {H : Type} : Lit × DataW H → Nat
  | (.string bytes, d) => bytes.length + uptoBulk d + 1
  | (_, d) => uptoBulk d + 1
 end
def uptoSmall : (H : Type) → List (DataW H) → Bool := fun _ ds => decide (uptoBulkAll ds ≤ 1048576)
def OpenSpec.upto (s : _root_.Go.ChangeSpec) : _root_.Go.OpenSpec := { _root_.Go.OpenSpec.ofChange s with cond := some uptoSmall }

/-- 'spillwaylaw17.SlotsRate', WHERE WHAT IT READS IS OF BULK AT MOST 1048576: true; the input reads as it did. -/
def slotsRateUptoRow : OpenClaim := { program := "ythbfgkphlmlihaagreat", sum := "62597a8a3eb114dbb03f39b9b0c2db60b4e2d6e9cbf4c28cc5f8dabab0cdbf5b", func := "spillway/spillwaylaw17.SlotsRate", spec := "slotsRate", inPlace := ["maps.clone", "math/bits.Add64"], unfollowed := true, recurses := true, named := ["math/bits.divideError", "math/bits.overflowError"], plainKeys := false, apart := false, narrowed := true }
def SlotsRateUptoSaid : Prop := slotsRateUptoRow.holds Tryz.pinned (OpenSpec.upto slotsRateSpec)

/-- 'spillwaylaw17.SlotsBreaker', WHERE WHAT IT READS IS OF BULK AT MOST 1048576: true; the input reads as it did. -/
def slotsBreakerUptoRow : OpenClaim := { program := "ythbfgkphlmlihaagreat", sum := "62597a8a3eb114dbb03f39b9b0c2db60b4e2d6e9cbf4c28cc5f8dabab0cdbf5b", func := "spillway/spillwaylaw17.SlotsBreaker", spec := "slotsBreaker", inPlace := ["maps.clone", "math/bits.Add64"], unfollowed := true, recurses := true, named := ["math/bits.divideError", "math/bits.overflowError"], plainKeys := false, apart := false, narrowed := true }
def SlotsBreakerUptoSaid : Prop := slotsBreakerUptoRow.holds Tryz.pinned (OpenSpec.upto slotsBreakerSpec)

/-- 'spillwaylaw17.SlotsThreads', WHERE WHAT IT READS IS OF BULK AT MOST 1048576: true; the input reads as it did. -/
def slotsThreadsUptoRow : OpenClaim := { program := "ythbfgkphlmlihaagreat", sum := "62597a8a3eb114dbb03f39b9b0c2db60b4e2d6e9cbf4c28cc5f8dabab0cdbf5b", func := "spillway/spillwaylaw17.SlotsThreads", spec := "slotsThreads", inPlace := ["maps.clone", "math/bits.Add64"], unfollowed := true, recurses := true, named := ["math/bits.divideError", "math/bits.overflowError"], plainKeys := false, apart := false, narrowed := true }
def SlotsThreadsUptoSaid : Prop := slotsThreadsUptoRow.holds Tryz.pinned (OpenSpec.upto slotsThreadsSpec)

/-- 'spillwaylaw17.SlotsTwins', WHERE WHAT IT READS IS OF BULK AT MOST 1048576: true; the input reads as it did. -/
def slotsTwinsUptoRow : OpenClaim := { program := "ythbfgkphlmlihaagreat", sum := "62597a8a3eb114dbb03f39b9b0c2db60b4e2d6e9cbf4c28cc5f8dabab0cdbf5b", func := "spillway/spillwaylaw17.SlotsTwins", spec := "slotsTwins", inPlace := ["maps.clone", "math/bits.Add64"], unfollowed := true, recurses := true, named := ["math/bits.divideError", "math/bits.overflowError"], plainKeys := false, apart := false, narrowed := true }
def SlotsTwinsUptoSaid : Prop := slotsTwinsUptoRow.holds Tryz.pinned (OpenSpec.upto slotsTwinsSpec)

/-- 'spillwaylaw17.SlotsReload', WHERE WHAT IT READS IS OF BULK AT MOST 1048576: true; the input reads as it did. -/
def slotsReloadUptoRow : OpenClaim := { program := "ythbfgkphlmlihaagreat", sum := "62597a8a3eb114dbb03f39b9b0c2db60b4e2d6e9cbf4c28cc5f8dabab0cdbf5b", func := "spillway/spillwaylaw17.SlotsReload", spec := "slotsReload", inPlace := ["maps.clone", "math/bits.Add64"], unfollowed := true, recurses := true, named := ["math/bits.divideError", "math/bits.overflowError"], plainKeys := false, apart := false, narrowed := true }
def SlotsReloadUptoSaid : Prop := slotsReloadUptoRow.holds Tryz.pinned (OpenSpec.upto slotsReloadSpec)

/-- 'spillwaylaw17.SlotsBlocked', WHERE WHAT IT READS IS OF BULK AT MOST 1048576: true; the input reads as it did. -/
def slotsBlockedUptoRow : OpenClaim := { program := "ythbfgkphlmlihaagreat", sum := "62597a8a3eb114dbb03f39b9b0c2db60b4e2d6e9cbf4c28cc5f8dabab0cdbf5b", func := "spillway/spillwaylaw17.SlotsBlocked", spec := "slotsBlocked", inPlace := ["maps.clone", "math/bits.Add64"], unfollowed := true, recurses := true, named := ["math/bits.divideError", "math/bits.overflowError"], plainKeys := false, apart := false, narrowed := true }
def SlotsBlockedUptoSaid : Prop := slotsBlockedUptoRow.holds Tryz.pinned (OpenSpec.upto slotsBlockedSpec)

end Rows
end Go.Proofs.YthbfgkphlmlihaaGreat
