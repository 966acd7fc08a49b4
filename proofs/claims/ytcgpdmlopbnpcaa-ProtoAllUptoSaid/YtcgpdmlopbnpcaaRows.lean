/-
  No cell of these rows narrows 'for every input' (looked for: loops, veiled, ifaces, maps, wideKeys, modest, calm, conditions, laid).
  DERIVED. THE GIVEN ROWS OF THIS SEAT. 4 by the template 'for every input the law returns true; each argument reads behind the call as it read before'; 0 by the template 'total and deterministic' (their statements: YtcgpdmlopbnpcaaTotals.lean).
  GIVEN WITH THE SEED: the statements are not yours to turn. If you find one false, say at which input.
  Laid BY PROGRAM, IN A SANDBOX (cutbox-rows.mjs): the forced cells as the released guide's own fill.sh prints them over the translation f9ef8f6d42529bff… (all of the seat's roots in one cut). By AI agents, Wed Nov 11 2026. No macro, syntax, notation, axiom, sorry.
-/
import Derived.Test.YtcgpdmlopbnpcaaChecked
import GoSem.Claim
import GoSem.ClaimJoined
import GoSem.ClaimMapViews
import Derived.JoinedTies
import Derived.KernelRfl
namespace Go.Proofs.Ytcgpdmlopbnpcaa
/- THE CELL 'sum', in the pinned program and in every row, IS THE sha256 OF THE DUMP (.gsa) THAT YtcgpdmlopbnpcaaProg.lean LOADS. Nothing in Lean hashes anything: it is a label: what it is worth is what the hold of that sum in a sandbox is worth. -/
noncomputable def Try.pinned : Pinned := { name := "ytcgpdmlopbnpcaa", sum := "f9ef8f6d42529bffd3319daea03d214a5025c21895c41e7ddd8c8055aca54106", checked := Try.checked }
namespace Rows
def none {H : Type} : Left H := { results := [], args := [] }

/-- 'spillwaylaw19.ProtoReads': WHATEVER THE INPUT: true; the input reads as it did. -/
def protoReadsSpec : ChangeSpec := { name := "protoReads", fn := fun _ => fun
  | [d] => { results := [.lit (.bool true)], args := [d] }
  | _ => none }
def protoReadsRow : OpenClaim := { program := "ytcgpdmlopbnpcaa", sum := "f9ef8f6d42529bffd3319daea03d214a5025c21895c41e7ddd8c8055aca54106", func := "spillway/spillwaylaw19.ProtoReads", spec := "protoReads", apart := false }
def ProtoReadsSaid : Prop := protoReadsRow.holds Try.pinned (OpenSpec.ofChange protoReadsSpec)

/-- ITS FALSE NEIGHBOUR: 'it returns false'. Refute it at one input. -/
def protoReadsWrong : ChangeSpec := { name := "protoReads", fn := fun _ => fun
  | [d] => { results := [.lit (.bool false)], args := [d] }
  | _ => none }
def ProtoReadsWrongFalsely : Prop := protoReadsRow.holds Try.pinned (OpenSpec.ofChange protoReadsWrong)

/-- 'spillwaylaw19.ProtoBack': WHATEVER THE INPUT: true; the input reads as it did. -/
def protoBackSpec : ChangeSpec := { name := "protoBack", fn := fun _ => fun
  | [d1, d2, d3] => { results := [.lit (.bool true)], args := [d1, d2, d3] }
  | _ => none }
def protoBackRow : OpenClaim := { program := "ytcgpdmlopbnpcaa", sum := "f9ef8f6d42529bffd3319daea03d214a5025c21895c41e7ddd8c8055aca54106", func := "spillway/spillwaylaw19.ProtoBack", spec := "protoBack", apart := false }
def ProtoBackSaid : Prop := protoBackRow.holds Try.pinned (OpenSpec.ofChange protoBackSpec)

/-- ITS FALSE NEIGHBOUR: 'it returns false'. Refute it at one input. -/
def protoBackWrong : ChangeSpec := { name := "protoBack", fn := fun _ => fun
  | [d1, d2, d3] => { results := [.lit (.bool false)], args := [d1, d2, d3] }
  | _ => none }
def ProtoBackWrongFalsely : Prop := protoBackRow.holds Try.pinned (OpenSpec.ofChange protoBackWrong)

/-- 'spillwaylaw19.ProtoMessages': WHATEVER THE INPUT: true; the input reads as it did. -/
def protoMessagesSpec : ChangeSpec := { name := "protoMessages", fn := fun _ => fun
  | [d1, d2, d3] => { results := [.lit (.bool true)], args := [d1, d2, d3] }
  | _ => none }
def protoMessagesRow : OpenClaim := { program := "ytcgpdmlopbnpcaa", sum := "f9ef8f6d42529bffd3319daea03d214a5025c21895c41e7ddd8c8055aca54106", func := "spillway/spillwaylaw19.ProtoMessages", spec := "protoMessages", apart := false }
def ProtoMessagesSaid : Prop := protoMessagesRow.holds Try.pinned (OpenSpec.ofChange protoMessagesSpec)

/-- ITS FALSE NEIGHBOUR: 'it returns false'. Refute it at one input. -/
def protoMessagesWrong : ChangeSpec := { name := "protoMessages", fn := fun _ => fun
  | [d1, d2, d3] => { results := [.lit (.bool false)], args := [d1, d2, d3] }
  | _ => none }
def ProtoMessagesWrongFalsely : Prop := protoMessagesRow.holds Try.pinned (OpenSpec.ofChange protoMessagesWrong)

/-- 'spillwaylaw19.ProtoAll': WHATEVER THE INPUT: true; the input reads as it did. -/
def protoAllSpec : ChangeSpec := { name := "protoAll", fn := fun _ => fun
  | [d] => { results := [.lit (.bool true)], args := [d] }
  | _ => none }
def protoAllRow : OpenClaim := { program := "ytcgpdmlopbnpcaa", sum := "f9ef8f6d42529bffd3319daea03d214a5025c21895c41e7ddd8c8055aca54106", func := "spillway/spillwaylaw19.ProtoAll", spec := "protoAll", apart := false }
def ProtoAllSaid : Prop := protoAllRow.holds Try.pinned (OpenSpec.ofChange protoAllSpec)

/-- ITS FALSE NEIGHBOUR: 'it returns false'. Refute it at one input. -/
def protoAllWrong : ChangeSpec := { name := "protoAll", fn := fun _ => fun
  | [d] => { results := [.lit (.bool false)], args := [d] }
  | _ => none }
def ProtoAllWrongFalsely : Prop := protoAllRow.holds Try.pinned (OpenSpec.ofChange protoAllWrong)

/- THE SECOND FORM. 'bulk': how many values and letters a reading holds, each counted each time it is reached (what is shared counts as often as it is met; a slice's spare places count too). A statement '..UptoSaid' is the law's where the arguments, and the package variables that the reading takes, are together of bulk at most 1048576: NARROWER than '..Said'. Prove '..Said' where nothing that the law and all that it calls make is longer than what came in: it says more and counts as full. Else prove '..UptoSaid'. A law counts once. -/
mutual
def uptoBulk {H : Type} : DataW H → Nat
  | .lit (.string bytes) => bytes.length + 1
  | .lit _ => 1
  | .nil => 1
  | .ptr d => uptoBulk d + 1
  | .slice elems spare => uptoBulkAll elems + uptoBulkAll spare + 1
  | .agg parts => uptoBulkAll parts + 1
  | .iface _ d => uptoBulk d + 1
  | .map entries => uptoBulkEntries entries + 1
  | .held _ => 1
def uptoBulkAll {H : Type} : List (DataW H) → Nat
  | [] => 0
  | d :: r => uptoBulk d + uptoBulkAll r
def uptoBulkEntries {H : Type} : List (Lit × DataW H) → Nat
  | [] => 0
  | x :: r => uptoBulkEntry x + uptoBulkEntries r
def uptoBulkEntry {H : Type} : Lit × DataW H → Nat
  | (.string bytes, d) => bytes.length + uptoBulk d + 1
  | (_, d) => uptoBulk d + 1
 end
def uptoSmall : (H : Type) → List (DataW H) → Bool := fun _ ds => decide (uptoBulkAll ds ≤ 1048576)
def OpenSpec.upto (s : _root_.Go.ChangeSpec) : _root_.Go.OpenSpec := { _root_.Go.OpenSpec.ofChange s with cond := some uptoSmall }

/-- 'spillwaylaw19.ProtoReads', WHERE WHAT IT READS IS OF BULK AT MOST 1048576: true; the input reads as it did. -/
def protoReadsUptoRow : OpenClaim := { program := "ytcgpdmlopbnpcaa", sum := "f9ef8f6d42529bffd3319daea03d214a5025c21895c41e7ddd8c8055aca54106", func := "spillway/spillwaylaw19.ProtoReads", spec := "protoReads", apart := false, narrowed := true }
def ProtoReadsUptoSaid : Prop := protoReadsUptoRow.holds Try.pinned (OpenSpec.upto protoReadsSpec)

/-- 'spillwaylaw19.ProtoBack', WHERE WHAT IT READS IS OF BULK AT MOST 1048576: true; the input reads as it did. -/
def protoBackUptoRow : OpenClaim := { program := "ytcgpdmlopbnpcaa", sum := "f9ef8f6d42529bffd3319daea03d214a5025c21895c41e7ddd8c8055aca54106", func := "spillway/spillwaylaw19.ProtoBack", spec := "protoBack", apart := false, narrowed := true }
def ProtoBackUptoSaid : Prop := protoBackUptoRow.holds Try.pinned (OpenSpec.upto protoBackSpec)

/-- 'spillwaylaw19.ProtoMessages', WHERE WHAT IT READS IS OF BULK AT MOST 1048576: true; the input reads as it did. -/
def protoMessagesUptoRow : OpenClaim := { program := "ytcgpdmlopbnpcaa", sum := "f9ef8f6d42529bffd3319daea03d214a5025c21895c41e7ddd8c8055aca54106", func := "spillway/spillwaylaw19.ProtoMessages", spec := "protoMessages", apart := false, narrowed := true }
def ProtoMessagesUptoSaid : Prop := protoMessagesUptoRow.holds Try.pinned (OpenSpec.upto protoMessagesSpec)

/-- 'spillwaylaw19.ProtoAll', WHERE WHAT IT READS IS OF BULK AT MOST 1048576: true; the input reads as it did. -/
def protoAllUptoRow : OpenClaim := { program := "ytcgpdmlopbnpcaa", sum := "f9ef8f6d42529bffd3319daea03d214a5025c21895c41e7ddd8c8055aca54106", func := "spillway/spillwaylaw19.ProtoAll", spec := "protoAll", apart := false, narrowed := true }
def ProtoAllUptoSaid : Prop := protoAllUptoRow.holds Try.pinned (OpenSpec.upto protoAllSpec)

end Rows
end Go.Proofs.Ytcgpdmlopbnpcaa
