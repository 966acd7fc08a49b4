/-
  No cell of these rows narrows 'for every input' (looked for: loops, veiled, ifaces, maps, wideKeys, modest, calm, conditions, laid).
  DERIVED. THE GIVEN ROWS OF THIS SEAT. 6 by the template 'for every input the law returns true; each argument reads behind the call as it read before'; 0 by the template 'total and deterministic' (their statements: YtkcbkiognkkhlaaTotals.lean).
  GIVEN WITH THE SEED: the statements are not yours to turn. If you find one false, say at which input.
  Laid BY PROGRAM, IN A SANDBOX (cutbox-rows.mjs): the forced cells as the released guide's own fill.sh prints them over the translation 5d727308bb7032f8… (all of the seat's roots in one cut). By AI agents, Wed Nov 11 2026. No macro, syntax, notation, axiom, sorry.
-/
import Derived.Test.YtkcbkiognkkhlaaChecked
import GoSem.Claim
import GoSem.ClaimJoined
import GoSem.ClaimMapViews
import Derived.JoinedTies
import Derived.KernelRfl
namespace Go.Proofs.Ytkcbkiognkkhlaa
/- THE CELL 'sum', in the pinned program and in every row, IS THE sha256 OF THE DUMP (.gsa) THAT YtkcbkiognkkhlaaProg.lean LOADS. Nothing in Lean hashes anything: it is a label: what it is worth is what the hold of that sum in a sandbox is worth. -/
noncomputable def Try.pinned : Pinned := { name := "ytkcbkiognkkhlaa", sum := "5d727308bb7032f851010270ba3a598feb6b2738d49c1a75c0616eb8ced527f2", checked := Try.checked }
namespace Rows
def none {H : Type} : Left H := { results := [], args := [] }

/-- 'spillwaylaw02.WorldTicks': WHATEVER THE INPUT: true; the input reads as it did. -/
def worldTicksSpec : ChangeSpec := { name := "worldTicks", fn := fun _ => fun
  | [d1, d2] => { results := [.lit (.bool true)], args := [d1, d2] }
  | _ => none }
def worldTicksRow : OpenClaim := { program := "ytkcbkiognkkhlaa", sum := "5d727308bb7032f851010270ba3a598feb6b2738d49c1a75c0616eb8ced527f2", func := "spillway/spillwaylaw02.WorldTicks", spec := "worldTicks", unfollowed := true, recurses := true, apart := false }
def WorldTicksSaid : Prop := worldTicksRow.holds Try.pinned (OpenSpec.ofChange worldTicksSpec)

/-- ITS FALSE NEIGHBOUR: 'it returns false'. Refute it at one input. -/
def worldTicksWrong : ChangeSpec := { name := "worldTicks", fn := fun _ => fun
  | [d1, d2] => { results := [.lit (.bool false)], args := [d1, d2] }
  | _ => none }
def WorldTicksWrongFalsely : Prop := worldTicksRow.holds Try.pinned (OpenSpec.ofChange worldTicksWrong)

/-- 'spillwaylaw02.WorldClocks': WHATEVER THE INPUT: true; the input reads as it did. -/
def worldClocksSpec : ChangeSpec := { name := "worldClocks", fn := fun _ => fun
  | [d1, d2] => { results := [.lit (.bool true)], args := [d1, d2] }
  | _ => none }
def worldClocksRow : OpenClaim := { program := "ytkcbkiognkkhlaa", sum := "5d727308bb7032f851010270ba3a598feb6b2738d49c1a75c0616eb8ced527f2", func := "spillway/spillwaylaw02.WorldClocks", spec := "worldClocks", unfollowed := true, recurses := true, apart := false }
def WorldClocksSaid : Prop := worldClocksRow.holds Try.pinned (OpenSpec.ofChange worldClocksSpec)

/-- ITS FALSE NEIGHBOUR: 'it returns false'. Refute it at one input. -/
def worldClocksWrong : ChangeSpec := { name := "worldClocks", fn := fun _ => fun
  | [d1, d2] => { results := [.lit (.bool false)], args := [d1, d2] }
  | _ => none }
def WorldClocksWrongFalsely : Prop := worldClocksRow.holds Try.pinned (OpenSpec.ofChange worldClocksWrong)

/-- 'spillwaylaw02.WorldLoads': WHATEVER THE INPUT: true; the input reads as it did. -/
def worldLoadsSpec : ChangeSpec := { name := "worldLoads", fn := fun _ => fun
  | [d1, d2, d3] => { results := [.lit (.bool true)], args := [d1, d2, d3] }
  | _ => none }
def worldLoadsRow : OpenClaim := { program := "ytkcbkiognkkhlaa", sum := "5d727308bb7032f851010270ba3a598feb6b2738d49c1a75c0616eb8ced527f2", func := "spillway/spillwaylaw02.WorldLoads", spec := "worldLoads", unfollowed := true, recurses := true, apart := false }
def WorldLoadsSaid : Prop := worldLoadsRow.holds Try.pinned (OpenSpec.ofChange worldLoadsSpec)

/-- ITS FALSE NEIGHBOUR: 'it returns false'. Refute it at one input. -/
def worldLoadsWrong : ChangeSpec := { name := "worldLoads", fn := fun _ => fun
  | [d1, d2, d3] => { results := [.lit (.bool false)], args := [d1, d2, d3] }
  | _ => none }
def WorldLoadsWrongFalsely : Prop := worldLoadsRow.holds Try.pinned (OpenSpec.ofChange worldLoadsWrong)

/-- 'spillwaylaw02.WorldShuffles': WHATEVER THE INPUT: true; the input reads as it did. -/
def worldShufflesSpec : ChangeSpec := { name := "worldShuffles", fn := fun _ => fun
  | [d1, d2, d3] => { results := [.lit (.bool true)], args := [d1, d2, d3] }
  | _ => none }
def worldShufflesRow : OpenClaim := { program := "ytkcbkiognkkhlaa", sum := "5d727308bb7032f851010270ba3a598feb6b2738d49c1a75c0616eb8ced527f2", func := "spillway/spillwaylaw02.WorldShuffles", spec := "worldShuffles", unfollowed := true, recurses := true, apart := false }
def WorldShufflesSaid : Prop := worldShufflesRow.holds Try.pinned (OpenSpec.ofChange worldShufflesSpec)

/-- ITS FALSE NEIGHBOUR: 'it returns false'. Refute it at one input. -/
def worldShufflesWrong : ChangeSpec := { name := "worldShuffles", fn := fun _ => fun
  | [d1, d2, d3] => { results := [.lit (.bool false)], args := [d1, d2, d3] }
  | _ => none }
def WorldShufflesWrongFalsely : Prop := worldShufflesRow.holds Try.pinned (OpenSpec.ofChange worldShufflesWrong)

/-- 'spillwaylaw02.WorldChances': WHATEVER THE INPUT: true; the input reads as it did. -/
def worldChancesSpec : ChangeSpec := { name := "worldChances", fn := fun _ => fun
  | [d1, d2] => { results := [.lit (.bool true)], args := [d1, d2] }
  | _ => none }
def worldChancesRow : OpenClaim := { program := "ytkcbkiognkkhlaa", sum := "5d727308bb7032f851010270ba3a598feb6b2738d49c1a75c0616eb8ced527f2", func := "spillway/spillwaylaw02.WorldChances", spec := "worldChances", unfollowed := true, recurses := true, apart := false }
def WorldChancesSaid : Prop := worldChancesRow.holds Try.pinned (OpenSpec.ofChange worldChancesSpec)

/-- ITS FALSE NEIGHBOUR: 'it returns false'. Refute it at one input. -/
def worldChancesWrong : ChangeSpec := { name := "worldChances", fn := fun _ => fun
  | [d1, d2] => { results := [.lit (.bool false)], args := [d1, d2] }
  | _ => none }
def WorldChancesWrongFalsely : Prop := worldChancesRow.holds Try.pinned (OpenSpec.ofChange worldChancesWrong)

/-- 'spillwaylaw02.WorldNone': WHATEVER THE INPUT: true; the input reads as it did. -/
def worldNoneSpec : ChangeSpec := { name := "worldNone", fn := fun _ => fun
  | [d] => { results := [.lit (.bool true)], args := [d] }
  | _ => none }
def worldNoneRow : OpenClaim := { program := "ytkcbkiognkkhlaa", sum := "5d727308bb7032f851010270ba3a598feb6b2738d49c1a75c0616eb8ced527f2", func := "spillway/spillwaylaw02.WorldNone", spec := "worldNone", unfollowed := true, recurses := true, apart := false }
def WorldNoneSaid : Prop := worldNoneRow.holds Try.pinned (OpenSpec.ofChange worldNoneSpec)

/-- ITS FALSE NEIGHBOUR: 'it returns false'. Refute it at one input. -/
def worldNoneWrong : ChangeSpec := { name := "worldNone", fn := fun _ => fun
  | [d] => { results := [.lit (.bool false)], args := [d] }
  | _ => none }
def WorldNoneWrongFalsely : Prop := worldNoneRow.holds Try.pinned (OpenSpec.ofChange worldNoneWrong)

/- THE SECOND FORM. 'bulk': how many values and letters a reading holds, each counted each time it is reached (what is shared counts as often as it is met; a slice's spare places count too). A statement '..UptoSaid' is the law's where the arguments, and the package variables that the reading takes, are together of bulk at most 1048576: NARROWER than '..Said'. Prove '..Said' where nothing that the law and all that it calls make is longer than what came in: it says more and counts as full. Else prove '..UptoSaid'. A law counts once. -/
mutual
def uptoBulk {H : Type} : DataW H → Nat
  | .lit (.string bytes) => bytes.length + 1
  | .lit _ => 1
  | .nil => 1
  | .ptr d => uptoBulk d + 1
  | .slice elems spare => uptoBulkAll elems + uptoBulkAll spare + 1
  | .agg parts => uptoBulkAll parts + 1
  | .iface _ d => uptoBulk d + 1
  | .map entries => uptoBulkEntries entries + 1
  | .held _ => 1
def uptoBulkAll {H : Type} : List (DataW H) → Nat
  | [] => 0
  | d :: r => uptoBulk d + uptoBulkAll r
def uptoBulkEntries {H : Type} : List (Lit × DataW H) → Nat
  | [] => 0
  | x :: r => uptoBulkEntry x + uptoBulkEntries r
def uptoBulkEntry {H : Type} : Lit × DataW H → Nat
  | (.string bytes, d) => bytes.length + uptoBulk d + 1
  | (_, d) => uptoBulk d + 1
 end
def uptoSmall : (H : Type) → List (DataW H) → Bool := fun _ ds => decide (uptoBulkAll ds ≤ 1048576)
def OpenSpec.upto (s : _root_.Go.ChangeSpec) : _root_.Go.OpenSpec := { _root_.Go.OpenSpec.ofChange s with cond := some uptoSmall }

/-- 'spillwaylaw02.WorldTicks', WHERE WHAT IT READS IS OF BULK AT MOST 1048576: true; the input reads as it did. -/
def worldTicksUptoRow : OpenClaim := { program := "ytkcbkiognkkhlaa", sum := "5d727308bb7032f851010270ba3a598feb6b2738d49c1a75c0616eb8ced527f2", func := "spillway/spillwaylaw02.WorldTicks", spec := "worldTicks", unfollowed := true, recurses := true, apart := false, narrowed := true }
def WorldTicksUptoSaid : Prop := worldTicksUptoRow.holds Try.pinned (OpenSpec.upto worldTicksSpec)

/-- 'spillwaylaw02.WorldClocks', WHERE WHAT IT READS IS OF BULK AT MOST 1048576: true; the input reads as it did. -/
def worldClocksUptoRow : OpenClaim := { program := "ytkcbkiognkkhlaa", sum := "5d727308bb7032f851010270ba3a598feb6b2738d49c1a75c0616eb8ced527f2", func := "spillway/spillwaylaw02.WorldClocks", spec := "worldClocks", unfollowed := true, recurses := true, apart := false, narrowed := true }
def WorldClocksUptoSaid : Prop := worldClocksUptoRow.holds Try.pinned (OpenSpec.upto worldClocksSpec)

/-- 'spillwaylaw02.WorldLoads', WHERE WHAT IT READS IS OF BULK AT MOST 1048576: true; the input reads as it did. -/
def worldLoadsUptoRow : OpenClaim := { program := "ytkcbkiognkkhlaa", sum := "5d727308bb7032f851010270ba3a598feb6b2738d49c1a75c0616eb8ced527f2", func := "spillway/spillwaylaw02.WorldLoads", spec := "worldLoads", unfollowed := true, recurses := true, apart := false, narrowed := true }
def WorldLoadsUptoSaid : Prop := worldLoadsUptoRow.holds Try.pinned (OpenSpec.upto worldLoadsSpec)

/-- 'spillwaylaw02.WorldShuffles', WHERE WHAT IT READS IS OF BULK AT MOST 1048576: true; the input reads as it did. -/
def worldShufflesUptoRow : OpenClaim := { program := "ytkcbkiognkkhlaa", sum := "5d727308bb7032f851010270ba3a598feb6b2738d49c1a75c0616eb8ced527f2", func := "spillway/spillwaylaw02.WorldShuffles", spec := "worldShuffles", unfollowed := true, recurses := true, apart := false, narrowed := true }
def WorldShufflesUptoSaid : Prop := worldShufflesUptoRow.holds Try.pinned (OpenSpec.upto worldShufflesSpec)

/-- 'spillwaylaw02.WorldChances', WHERE WHAT IT READS IS OF BULK AT MOST 1048576: true; the input reads as it did. -/
def worldChancesUptoRow : OpenClaim := { program := "ytkcbkiognkkhlaa", sum := "5d727308bb7032f851010270ba3a598feb6b2738d49c1a75c0616eb8ced527f2", func := "spillway/spillwaylaw02.WorldChances", spec := "worldChances", unfollowed := true, recurses := true, apart := false, narrowed := true }
def WorldChancesUptoSaid : Prop := worldChancesUptoRow.holds Try.pinned (OpenSpec.upto worldChancesSpec)

/-- 'spillwaylaw02.WorldNone', WHERE WHAT IT READS IS OF BULK AT MOST 1048576: true; the input reads as it did. -/
def worldNoneUptoRow : OpenClaim := { program := "ytkcbkiognkkhlaa", sum := "5d727308bb7032f851010270ba3a598feb6b2738d49c1a75c0616eb8ced527f2", func := "spillway/spillwaylaw02.WorldNone", spec := "worldNone", unfollowed := true, recurses := true, apart := false, narrowed := true }
def WorldNoneUptoSaid : Prop := worldNoneUptoRow.holds Try.pinned (OpenSpec.upto worldNoneSpec)

end Rows
end Go.Proofs.Ytkcbkiognkkhlaa
