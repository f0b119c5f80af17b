/-
  No cell of these rows narrows 'for every input' (looked for: loops, veiled, ifaces, maps, wideKeys, modest, calm, conditions, laid).
  DERIVED. THE GIVEN ROWS OF THIS SEAT. 4 by the template 'for every input the law returns true; each argument reads behind the call as it read before'; 0 by the template 'total and deterministic' (their statements: YtleogddijlabdaaTotals.lean).
  GIVEN WITH THE SEED: the statements are not yours to turn. If you find one false, say at which input.
  Laid BY PROGRAM, IN A SANDBOX (cutbox-rows.mjs): the forced cells as the released guide's own fill.sh prints them over the translation b26d4080cd0dd787… (all of the seat's roots in one cut). By AI agents, Wed Nov 11 2026. No macro, syntax, notation, axiom, sorry.
-/
import Derived.Test.YtleogddijlabdaaChecked
import GoSem.Claim
import GoSem.ClaimJoined
import GoSem.ClaimMapViews
import Derived.JoinedTies
import Derived.KernelRfl
namespace Go.Proofs.Ytleogddijlabdaa
/- THE CELL 'sum', in the pinned program and in every row, IS THE sha256 OF THE DUMP (.gsa) THAT YtleogddijlabdaaProg.lean LOADS. Nothing in Lean hashes anything: it is a label: what it is worth is what the hold of that sum in a sandbox is worth. -/
noncomputable def Try.pinned : Pinned := { name := "ytleogddijlabdaa", sum := "b26d4080cd0dd787c8bdb16511dbc39e9768798b9c13ac8f379a226cc731860f", checked := Try.checked }
namespace Rows
def none {H : Type} : Left H := { results := [], args := [] }

/-- 'mosaiclaw17.PlaneNear': WHATEVER THE INPUT: true; the input reads as it did. -/
def planeNearSpec : ChangeSpec := { name := "planeNear", fn := fun _ => fun
  | [d1, d2] => { results := [.lit (.bool true)], args := [d1, d2] }
  | _ => none }
def planeNearRow : OpenClaim := { program := "ytleogddijlabdaa", sum := "b26d4080cd0dd787c8bdb16511dbc39e9768798b9c13ac8f379a226cc731860f", func := "mosaic/mosaiclaw17.PlaneNear", spec := "planeNear", unfollowed := true, recurses := true, apart := false }
def PlaneNearSaid : Prop := planeNearRow.holds Try.pinned (OpenSpec.ofChange planeNearSpec)

/-- ITS FALSE NEIGHBOUR: 'it returns false'. Refute it at one input. -/
def planeNearWrong : ChangeSpec := { name := "planeNear", fn := fun _ => fun
  | [d1, d2] => { results := [.lit (.bool false)], args := [d1, d2] }
  | _ => none }
def PlaneNearWrongFalsely : Prop := planeNearRow.holds Try.pinned (OpenSpec.ofChange planeNearWrong)

/-- 'mosaiclaw31.TrackerCounts': WHATEVER THE INPUT: true; the input reads as it did. -/
def trackerCountsSpec : ChangeSpec := { name := "trackerCounts", fn := fun _ => fun
  | [d1, d2, d3] => { results := [.lit (.bool true)], args := [d1, d2, d3] }
  | _ => none }
def trackerCountsRow : OpenClaim := { program := "ytleogddijlabdaa", sum := "b26d4080cd0dd787c8bdb16511dbc39e9768798b9c13ac8f379a226cc731860f", func := "mosaic/mosaiclaw31.TrackerCounts", spec := "trackerCounts", unfollowed := true, recurses := true, apart := false }
def TrackerCountsSaid : Prop := trackerCountsRow.holds Try.pinned (OpenSpec.ofChange trackerCountsSpec)

/-- ITS FALSE NEIGHBOUR: 'it returns false'. Refute it at one input. -/
def trackerCountsWrong : ChangeSpec := { name := "trackerCounts", fn := fun _ => fun
  | [d1, d2, d3] => { results := [.lit (.bool false)], args := [d1, d2, d3] }
  | _ => none }
def TrackerCountsWrongFalsely : Prop := trackerCountsRow.holds Try.pinned (OpenSpec.ofChange trackerCountsWrong)

/-- 'mosaiclaw31.TrackerFull': WHATEVER THE INPUT: true; the input reads as it did. -/
def trackerFullSpec : ChangeSpec := { name := "trackerFull", fn := fun _ => fun
  | [d] => { results := [.lit (.bool true)], args := [d] }
  | _ => none }
def trackerFullRow : OpenClaim := { program := "ytleogddijlabdaa", sum := "b26d4080cd0dd787c8bdb16511dbc39e9768798b9c13ac8f379a226cc731860f", func := "mosaic/mosaiclaw31.TrackerFull", spec := "trackerFull", unfollowed := true, recurses := true, apart := false }
def TrackerFullSaid : Prop := trackerFullRow.holds Try.pinned (OpenSpec.ofChange trackerFullSpec)

/-- ITS FALSE NEIGHBOUR: 'it returns false'. Refute it at one input. -/
def trackerFullWrong : ChangeSpec := { name := "trackerFull", fn := fun _ => fun
  | [d] => { results := [.lit (.bool false)], args := [d] }
  | _ => none }
def TrackerFullWrongFalsely : Prop := trackerFullRow.holds Try.pinned (OpenSpec.ofChange trackerFullWrong)

/-- 'mosaiclaw31.TrackerNear': WHATEVER THE INPUT: true; the input reads as it did. -/
def trackerNearSpec : ChangeSpec := { name := "trackerNear", fn := fun _ => fun
  | [d1, d2] => { results := [.lit (.bool true)], args := [d1, d2] }
  | _ => none }
def trackerNearRow : OpenClaim := { program := "ytleogddijlabdaa", sum := "b26d4080cd0dd787c8bdb16511dbc39e9768798b9c13ac8f379a226cc731860f", func := "mosaic/mosaiclaw31.TrackerNear", spec := "trackerNear", unfollowed := true, recurses := true, apart := false }
def TrackerNearSaid : Prop := trackerNearRow.holds Try.pinned (OpenSpec.ofChange trackerNearSpec)

/-- ITS FALSE NEIGHBOUR: 'it returns false'. Refute it at one input. -/
def trackerNearWrong : ChangeSpec := { name := "trackerNear", fn := fun _ => fun
  | [d1, d2] => { results := [.lit (.bool false)], args := [d1, d2] }
  | _ => none }
def TrackerNearWrongFalsely : Prop := trackerNearRow.holds Try.pinned (OpenSpec.ofChange trackerNearWrong)

/- THE SECOND FORM. 'bulk': how many values and letters a reading holds, each counted each time it is reached (what is shared counts as often as it is met; a slice's spare places count too). A statement '..UptoSaid' is the law's where the arguments, and the package variables that the reading takes, are together of bulk at most 1048576: NARROWER than '..Said'. Prove '..Said' where nothing that the law and all that it calls make is longer than what came in: it says more and counts as full. Else prove '..UptoSaid'. A law counts once. -/
mutual
def uptoBulk {H : Type} : DataW H → Nat
  | .lit (.string bytes) => bytes.length + 1
  | .lit _ => 1
  | .nil => 1
  | .ptr d => uptoBulk d + 1
  | .slice elems spare => uptoBulkAll elems + uptoBulkAll spare + 1
  | .agg parts => uptoBulkAll parts + 1
  | .iface _ d => uptoBulk d + 1
  | .map entries => uptoBulkEntries entries + 1
  | .held _ => 1
def uptoBulkAll {H : Type} : List (DataW H) → Nat
  | [] => 0
  | d :: r => uptoBulk d + uptoBulkAll r
def uptoBulkEntries {H : Type} : List (Lit × DataW H) → Nat
  | [] => 0
  | x :: r => uptoBulkEntry x + uptoBulkEntries r
def uptoBulkEntry {H : Type} : Lit × DataW H → Nat
  | (.string bytes, d) => bytes.length + uptoBulk d + 1
  | (_, d) => uptoBulk d + 1
 end
def uptoSmall : (H : Type) → List (DataW H) → Bool := fun _ ds => decide (uptoBulkAll ds ≤ 1048576)
def OpenSpec.upto (s : _root_.Go.ChangeSpec) : _root_.Go.OpenSpec := { _root_.Go.OpenSpec.ofChange s with cond := some uptoSmall }

/-- 'mosaiclaw17.PlaneNear', WHERE WHAT IT READS IS OF BULK AT MOST 1048576: true; the input reads as it did. -/
def planeNearUptoRow : OpenClaim := { program := "ytleogddijlabdaa", sum := "b26d4080cd0dd787c8bdb16511dbc39e9768798b9c13ac8f379a226cc731860f", func := "mosaic/mosaiclaw17.PlaneNear", spec := "planeNear", unfollowed := true, recurses := true, apart := false, narrowed := true }
def PlaneNearUptoSaid : Prop := planeNearUptoRow.holds Try.pinned (OpenSpec.upto planeNearSpec)

/-- 'mosaiclaw31.TrackerCounts', WHERE WHAT IT READS IS OF BULK AT MOST 1048576: true; the input reads as it did. -/
def trackerCountsUptoRow : OpenClaim := { program := "ytleogddijlabdaa", sum := "b26d4080cd0dd787c8bdb16511dbc39e9768798b9c13ac8f379a226cc731860f", func := "mosaic/mosaiclaw31.TrackerCounts", spec := "trackerCounts", unfollowed := true, recurses := true, apart := false, narrowed := true }
def TrackerCountsUptoSaid : Prop := trackerCountsUptoRow.holds Try.pinned (OpenSpec.upto trackerCountsSpec)

/-- 'mosaiclaw31.TrackerFull', WHERE WHAT IT READS IS OF BULK AT MOST 1048576: true; the input reads as it did. -/
def trackerFullUptoRow : OpenClaim := { program := "ytleogddijlabdaa", sum := "b26d4080cd0dd787c8bdb16511dbc39e9768798b9c13ac8f379a226cc731860f", func := "mosaic/mosaiclaw31.TrackerFull", spec := "trackerFull", unfollowed := true, recurses := true, apart := false, narrowed := true }
def TrackerFullUptoSaid : Prop := trackerFullUptoRow.holds Try.pinned (OpenSpec.upto trackerFullSpec)

/-- 'mosaiclaw31.TrackerNear', WHERE WHAT IT READS IS OF BULK AT MOST 1048576: true; the input reads as it did. -/
def trackerNearUptoRow : OpenClaim := { program := "ytleogddijlabdaa", sum := "b26d4080cd0dd787c8bdb16511dbc39e9768798b9c13ac8f379a226cc731860f", func := "mosaic/mosaiclaw31.TrackerNear", spec := "trackerNear", unfollowed := true, recurses := true, apart := false, narrowed := true }
def TrackerNearUptoSaid : Prop := trackerNearUptoRow.holds Try.pinned (OpenSpec.upto trackerNearSpec)

end Rows
end Go.Proofs.Ytleogddijlabdaa
