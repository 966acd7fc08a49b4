/-
  No cell of these rows narrows 'for every input' (looked for: loops, veiled, ifaces, maps, wideKeys, modest, calm, conditions, laid).
  DERIVED. THE GIVEN ROWS OF THIS SEAT. 3 by the template 'for every input the law returns true; each argument reads behind the call as it read before'; 0 by the template 'total and deterministic' (their statements: YtonbfpnngkemiaaGreatTotals.lean).
  GIVEN WITH THE SEED: the statements are not yours to turn. If you find one false, say at which input.
  Laid BY PROGRAM, IN A SANDBOX (cutbox-rows.mjs): the forced cells as the released guide's own fill.sh prints them over the translation de57363c3f337e66… (all of the seat's roots in one cut). By AI agents, Wed Nov 11 2026. No macro, syntax, notation, axiom, sorry.
-/
import Derived.Test.YtonbfpnngkemiaaGreatChecked
import GoSem.Claim
import GoSem.ClaimJoined
import GoSem.ClaimMapViews
import Derived.JoinedTies
import Derived.KernelRfl
namespace Go.Proofs.YtonbfpnngkemiaaGreat
/- THE CELL 'sum', in the pinned program and in every row, IS THE sha256 OF THE DUMP (.gsa) THAT YtonbfpnngkemiaaGreatProg.lean LOADS. Nothing in Lean hashes anything: it is a label: what it is worth is what the hold of that sum in a sandbox is worth. -/
noncomputable def Tryz.pinned : Pinned := { name := "ytonbfpnngkemiaagreat", sum := "de57363c3f337e66f5deae152c7158d16f2568ceac82f3d9c5fba24ba57c49cb", checked := Tryz.checked }
namespace Rows
def none {H : Type} : Left H := { results := [], args := [] }

/-- 'spillwaylaw17.SlotsBlocked': WHATEVER THE INPUT: true; the input reads as it did. -/
def slotsBlockedSpec : ChangeSpec := { name := "slotsBlocked", fn := fun _ => fun
  | [d1, d2, d3] => { results := [.lit (.bool true)], args := [d1, d2, d3] }
  | _ => none }
def slotsBlockedRow : OpenClaim := { program := "ytonbfpnngkemiaagreat", sum := "de57363c3f337e66f5deae152c7158d16f2568ceac82f3d9c5fba24ba57c49cb", func := "spillway/spillwaylaw17.SlotsBlocked", spec := "slotsBlocked", inPlace := ["maps.clone", "math/bits.Add64"], unfollowed := true, recurses := true, named := ["math/bits.divideError", "math/bits.overflowError"], plainKeys := false, apart := false }
def SlotsBlockedSaid : Prop := slotsBlockedRow.holds Tryz.pinned (OpenSpec.ofChange slotsBlockedSpec)

/-- ITS FALSE NEIGHBOUR: 'it returns false'. Refute it at one input. -/
def slotsBlockedWrong : ChangeSpec := { name := "slotsBlocked", fn := fun _ => fun
  | [d1, d2, d3] => { results := [.lit (.bool false)], args := [d1, d2, d3] }
  | _ => none }
def SlotsBlockedWrongFalsely : Prop := slotsBlockedRow.holds Tryz.pinned (OpenSpec.ofChange slotsBlockedWrong)

/-- 'spillwaylaw17.SlotsNone': WHATEVER THE INPUT: true; the input reads as it did. -/
def slotsNoneSpec : ChangeSpec := { name := "slotsNone", fn := fun _ => fun
  | [d1, d2] => { results := [.lit (.bool true)], args := [d1, d2] }
  | _ => none }
def slotsNoneRow : OpenClaim := { program := "ytonbfpnngkemiaagreat", sum := "de57363c3f337e66f5deae152c7158d16f2568ceac82f3d9c5fba24ba57c49cb", func := "spillway/spillwaylaw17.SlotsNone", spec := "slotsNone", inPlace := ["maps.clone", "math/bits.Add64"], unfollowed := true, recurses := true, named := ["math/bits.divideError", "math/bits.overflowError"], plainKeys := false, apart := false }
def SlotsNoneSaid : Prop := slotsNoneRow.holds Tryz.pinned (OpenSpec.ofChange slotsNoneSpec)

/-- ITS FALSE NEIGHBOUR: 'it returns false'. Refute it at one input. -/
def slotsNoneWrong : ChangeSpec := { name := "slotsNone", fn := fun _ => fun
  | [d1, d2] => { results := [.lit (.bool false)], args := [d1, d2] }
  | _ => none }
def SlotsNoneWrongFalsely : Prop := slotsNoneRow.holds Tryz.pinned (OpenSpec.ofChange slotsNoneWrong)

/-- 'spillwaytop.TopEntered': WHATEVER THE INPUT: true; the input reads as it did. -/
def topEnteredSpec : ChangeSpec := { name := "topEntered", fn := fun _ => fun
  | [d1, d2, d3] => { results := [.lit (.bool true)], args := [d1, d2, d3] }
  | _ => none }
def topEnteredRow : OpenClaim := { program := "ytonbfpnngkemiaagreat", sum := "de57363c3f337e66f5deae152c7158d16f2568ceac82f3d9c5fba24ba57c49cb", func := "spillway/spillwaytop.TopEntered", spec := "topEntered", inPlace := ["maps.clone", "math/bits.Add64"], unfollowed := true, recurses := true, named := ["math/bits.divideError", "math/bits.overflowError"], plainKeys := false, apart := false }
def TopEnteredSaid : Prop := topEnteredRow.holds Tryz.pinned (OpenSpec.ofChange topEnteredSpec)

/-- ITS FALSE NEIGHBOUR: 'it returns false'. Refute it at one input. -/
def topEnteredWrong : ChangeSpec := { name := "topEntered", fn := fun _ => fun
  | [d1, d2, d3] => { results := [.lit (.bool false)], args := [d1, d2, d3] }
  | _ => none }
def TopEnteredWrongFalsely : Prop := topEnteredRow.holds Tryz.pinned (OpenSpec.ofChange topEnteredWrong)

/- THE SECOND FORM. 'bulk': how many values and letters a reading holds, each counted each time it is reached (what is shared counts as often as it is met; a slice's spare places count too). A statement '..UptoSaid' is the law's where the arguments, and the package variables that the reading takes, are together of bulk at most 1048576: NARROWER than '..Said'. Prove '..Said' where nothing that the law and all that it calls make is longer than what came in: it says more and counts as full. Else prove '..UptoSaid'. A law counts once. -/
mutual
def uptoBulk {H : Type} : DataW H → Nat
  | .lit (.string bytes) => bytes.length + 1
  | .lit _ => 1
  | .nil => 1
  | .ptr d => uptoBulk d + 1
  | .slice elems spare => uptoBulkAll elems + uptoBulkAll spare + 1
  | .agg parts => uptoBulkAll parts + 1
  | .iface _ d => uptoBulk d + 1
  | .map entries => uptoBulkEntries entries + 1
  | .held _ => 1
def uptoBulkAll {H : Type} : List (DataW H) → Nat
  | [] => 0
  | d :: r => uptoBulk d + uptoBulkAll r
def uptoBulkEntries {H : Type} : List (Lit × DataW H) → Nat
  | [] => 0
  | x :: r => uptoBulkEntry x + uptoBulkEntries r
def uptoBulkEntry {H : Type} : Lit × DataW H → Nat
  | (.string bytes, d) => bytes.length + uptoBulk d + 1
  | (_, d) => uptoBulk d + 1
 end
def uptoSmall : (H : Type) → List (DataW H) → Bool := fun _ ds => decide (uptoBulkAll ds ≤ 1048576)
def OpenSpec.upto (s : _root_.Go.ChangeSpec) : _root_.Go.OpenSpec := { _root_.Go.OpenSpec.ofChange s with cond := some uptoSmall }

/-- 'spillwaylaw17.SlotsBlocked', WHERE WHAT IT READS IS OF BULK AT MOST 1048576: true; the input reads as it did. -/
def slotsBlockedUptoRow : OpenClaim := { program := "ytonbfpnngkemiaagreat", sum := "de57363c3f337e66f5deae152c7158d16f2568ceac82f3d9c5fba24ba57c49cb", func := "spillway/spillwaylaw17.SlotsBlocked", spec := "slotsBlocked", inPlace := ["maps.clone", "math/bits.Add64"], unfollowed := true, recurses := true, named := ["math/bits.divideError", "math/bits.overflowError"], plainKeys := false, apart := false, narrowed := true }
def SlotsBlockedUptoSaid : Prop := slotsBlockedUptoRow.holds Tryz.pinned (OpenSpec.upto slotsBlockedSpec)

/-- 'spillwaylaw17.SlotsNone', WHERE WHAT IT READS IS OF BULK AT MOST 1048576: true; the input reads as it did. -/
def slotsNoneUptoRow : OpenClaim := { program := "ytonbfpnngkemiaagreat", sum := "de57363c3f337e66f5deae152c7158d16f2568ceac82f3d9c5fba24ba57c49cb", func := "spillway/spillwaylaw17.SlotsNone", spec := "slotsNone", inPlace := ["maps.clone", "math/bits.Add64"], unfollowed := true, recurses := true, named := ["math/bits.divideError", "math/bits.overflowError"], plainKeys := false, apart := false, narrowed := true }
def SlotsNoneUptoSaid : Prop := slotsNoneUptoRow.holds Tryz.pinned (OpenSpec.upto slotsNoneSpec)

/-- 'spillwaytop.TopEntered', WHERE WHAT IT READS IS OF BULK AT MOST 1048576: true; the input reads as it did. -/
def topEnteredUptoRow : OpenClaim := { program := "ytonbfpnngkemiaagreat", sum := "de57363c3f337e66f5deae152c7158d16f2568ceac82f3d9c5fba24ba57c49cb", func := "spillway/spillwaytop.TopEntered", spec := "topEntered", inPlace := ["maps.clone", "math/bits.Add64"], unfollowed := true, recurses := true, named := ["math/bits.divideError", "math/bits.overflowError"], plainKeys := false, apart := false, narrowed := true }
def TopEnteredUptoSaid : Prop := topEnteredUptoRow.holds Tryz.pinned (OpenSpec.upto topEnteredSpec)

end Rows
end Go.Proofs.YtonbfpnngkemiaaGreat
