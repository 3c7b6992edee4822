/-
  No cell of these rows narrows 'for every input' (looked for: loops, veiled, ifaces, maps, wideKeys, modest, calm, conditions, laid).
  DERIVED. THE GIVEN ROWS OF THIS SEAT. 9 by the template 'for every input the law returns true; each argument reads behind the call as it read before'; 0 by the template 'total and deterministic' (their statements: YtipniooflaiikaaTotals.lean).
  GIVEN WITH THE SEED: the statements are not yours to turn. If you find one false, say at which input.
  Laid BY PROGRAM, IN A SANDBOX (cutbox-rows.mjs): the forced cells as the released guide's own fill.sh prints them over the translation 144d187167b48cfb… (all of the seat's roots in one cut). By AI agents, Wed Nov 11 2026. No macro, syntax, notation, axiom, sorry.
-/
import Derived.Test.YtipniooflaiikaaChecked
import GoSem.Claim
import GoSem.ClaimJoined
import GoSem.ClaimMapViews
import Derived.JoinedTies
import Derived.KernelRfl
namespace Go.Proofs.Ytipniooflaiikaa
/- THE CELL 'sum', in the pinned program and in every row, IS THE sha256 OF THE DUMP (.gsa) THAT YtipniooflaiikaaProg.lean LOADS. Nothing in Lean hashes anything: it is a label: what it is worth is what the hold of that sum in a sandbox is worth. -/
noncomputable def Try.pinned : Pinned := { name := "ytipniooflaiikaa", sum := "144d187167b48cfb6661ebb09ce3f210f409e75525e964a52d34a3a87e07c823", checked := Try.checked }
namespace Rows
def none {H : Type} : Left H := { results := [], args := [] }

/-- 'seepagelaw25.PartitionPairs': WHATEVER THE INPUT: true; the input reads as it did. -/
def partitionPairsSpec : ChangeSpec := { name := "partitionPairs", fn := fun _ => fun
  | [d1, d2] => { results := [.lit (.bool true)], args := [d1, d2] }
  | _ => none }
def partitionPairsRow : OpenClaim := { program := "ytipniooflaiikaa", sum := "144d187167b48cfb6661ebb09ce3f210f409e75525e964a52d34a3a87e07c823", func := "seepage/seepagelaw25.PartitionPairs", spec := "partitionPairs", unfollowed := true, recurses := true, named := ["math/bits.divideError", "math/bits.overflowError"], plainKeys := false, apart := false }
def PartitionPairsSaid : Prop := partitionPairsRow.holds Try.pinned (OpenSpec.ofChange partitionPairsSpec)

/-- ITS FALSE NEIGHBOUR: 'it returns false'. Refute it at one input. -/
def partitionPairsWrong : ChangeSpec := { name := "partitionPairs", fn := fun _ => fun
  | [d1, d2] => { results := [.lit (.bool false)], args := [d1, d2] }
  | _ => none }
def PartitionPairsWrongFalsely : Prop := partitionPairsRow.holds Try.pinned (OpenSpec.ofChange partitionPairsWrong)

/-- 'seepagelaw25.PartitionNexts': WHATEVER THE INPUT: true; the input reads as it did. -/
def partitionNextsSpec : ChangeSpec := { name := "partitionNexts", fn := fun _ => fun
  | [d] => { results := [.lit (.bool true)], args := [d] }
  | _ => none }
def partitionNextsRow : OpenClaim := { program := "ytipniooflaiikaa", sum := "144d187167b48cfb6661ebb09ce3f210f409e75525e964a52d34a3a87e07c823", func := "seepage/seepagelaw25.PartitionNexts", spec := "partitionNexts", unfollowed := true, recurses := true, named := ["math/bits.divideError", "math/bits.overflowError"], plainKeys := false, apart := false }
def PartitionNextsSaid : Prop := partitionNextsRow.holds Try.pinned (OpenSpec.ofChange partitionNextsSpec)

/-- ITS FALSE NEIGHBOUR: 'it returns false'. Refute it at one input. -/
def partitionNextsWrong : ChangeSpec := { name := "partitionNexts", fn := fun _ => fun
  | [d] => { results := [.lit (.bool false)], args := [d] }
  | _ => none }
def PartitionNextsWrongFalsely : Prop := partitionNextsRow.holds Try.pinned (OpenSpec.ofChange partitionNextsWrong)

/-- 'seepagelaw25.PartitionWalks': WHATEVER THE INPUT: true; the input reads as it did. -/
def partitionWalksSpec : ChangeSpec := { name := "partitionWalks", fn := fun _ => fun
  | [] => { results := [.lit (.bool true)], args := [] }
  | _ => none }
def partitionWalksRow : OpenClaim := { program := "ytipniooflaiikaa", sum := "144d187167b48cfb6661ebb09ce3f210f409e75525e964a52d34a3a87e07c823", func := "seepage/seepagelaw25.PartitionWalks", spec := "partitionWalks", unfollowed := true, recurses := true, named := ["math/bits.divideError", "math/bits.overflowError"], plainKeys := false, apart := false }
def PartitionWalksSaid : Prop := partitionWalksRow.holds Try.pinned (OpenSpec.ofChange partitionWalksSpec)

/-- ITS FALSE NEIGHBOUR: 'it returns false'. Refute it at one input. -/
def partitionWalksWrong : ChangeSpec := { name := "partitionWalks", fn := fun _ => fun
  | [] => { results := [.lit (.bool false)], args := [] }
  | _ => none }
def PartitionWalksWrongFalsely : Prop := partitionWalksRow.holds Try.pinned (OpenSpec.ofChange partitionWalksWrong)

/-- 'seepagelaw25.PartitionRenames': WHATEVER THE INPUT: true; the input reads as it did. -/
def partitionRenamesSpec : ChangeSpec := { name := "partitionRenames", fn := fun _ => fun
  | [d1, d2, d3] => { results := [.lit (.bool true)], args := [d1, d2, d3] }
  | _ => none }
def partitionRenamesRow : OpenClaim := { program := "ytipniooflaiikaa", sum := "144d187167b48cfb6661ebb09ce3f210f409e75525e964a52d34a3a87e07c823", func := "seepage/seepagelaw25.PartitionRenames", spec := "partitionRenames", unfollowed := true, recurses := true, named := ["math/bits.divideError", "math/bits.overflowError"], plainKeys := false, apart := false }
def PartitionRenamesSaid : Prop := partitionRenamesRow.holds Try.pinned (OpenSpec.ofChange partitionRenamesSpec)

/-- ITS FALSE NEIGHBOUR: 'it returns false'. Refute it at one input. -/
def partitionRenamesWrong : ChangeSpec := { name := "partitionRenames", fn := fun _ => fun
  | [d1, d2, d3] => { results := [.lit (.bool false)], args := [d1, d2, d3] }
  | _ => none }
def PartitionRenamesWrongFalsely : Prop := partitionRenamesRow.holds Try.pinned (OpenSpec.ofChange partitionRenamesWrong)

/-- 'seepagelaw25.PartitionCounts': WHATEVER THE INPUT: true; the input reads as it did. -/
def partitionCountsSpec : ChangeSpec := { name := "partitionCounts", fn := fun _ => fun
  | [d1, d2] => { results := [.lit (.bool true)], args := [d1, d2] }
  | _ => none }
def partitionCountsRow : OpenClaim := { program := "ytipniooflaiikaa", sum := "144d187167b48cfb6661ebb09ce3f210f409e75525e964a52d34a3a87e07c823", func := "seepage/seepagelaw25.PartitionCounts", spec := "partitionCounts", unfollowed := true, recurses := true, named := ["math/bits.divideError", "math/bits.overflowError"], plainKeys := false, apart := false }
def PartitionCountsSaid : Prop := partitionCountsRow.holds Try.pinned (OpenSpec.ofChange partitionCountsSpec)

/-- ITS FALSE NEIGHBOUR: 'it returns false'. Refute it at one input. -/
def partitionCountsWrong : ChangeSpec := { name := "partitionCounts", fn := fun _ => fun
  | [d1, d2] => { results := [.lit (.bool false)], args := [d1, d2] }
  | _ => none }
def PartitionCountsWrongFalsely : Prop := partitionCountsRow.holds Try.pinned (OpenSpec.ofChange partitionCountsWrong)

/-- 'seepagelaw25.PartitionMeets': WHATEVER THE INPUT: true; the input reads as it did. -/
def partitionMeetsSpec : ChangeSpec := { name := "partitionMeets", fn := fun _ => fun
  | [d1, d2] => { results := [.lit (.bool true)], args := [d1, d2] }
  | _ => none }
def partitionMeetsRow : OpenClaim := { program := "ytipniooflaiikaa", sum := "144d187167b48cfb6661ebb09ce3f210f409e75525e964a52d34a3a87e07c823", func := "seepage/seepagelaw25.PartitionMeets", spec := "partitionMeets", unfollowed := true, recurses := true, named := ["math/bits.divideError", "math/bits.overflowError"], plainKeys := false, apart := false }
def PartitionMeetsSaid : Prop := partitionMeetsRow.holds Try.pinned (OpenSpec.ofChange partitionMeetsSpec)

/-- ITS FALSE NEIGHBOUR: 'it returns false'. Refute it at one input. -/
def partitionMeetsWrong : ChangeSpec := { name := "partitionMeets", fn := fun _ => fun
  | [d1, d2] => { results := [.lit (.bool false)], args := [d1, d2] }
  | _ => none }
def PartitionMeetsWrongFalsely : Prop := partitionMeetsRow.holds Try.pinned (OpenSpec.ofChange partitionMeetsWrong)

/-- 'seepagelaw25.PartitionLattice': WHATEVER THE INPUT: true; the input reads as it did. -/
def partitionLatticeSpec : ChangeSpec := { name := "partitionLattice", fn := fun _ => fun
  | [d1, d2] => { results := [.lit (.bool true)], args := [d1, d2] }
  | _ => none }
def partitionLatticeRow : OpenClaim := { program := "ytipniooflaiikaa", sum := "144d187167b48cfb6661ebb09ce3f210f409e75525e964a52d34a3a87e07c823", func := "seepage/seepagelaw25.PartitionLattice", spec := "partitionLattice", unfollowed := true, recurses := true, named := ["math/bits.divideError", "math/bits.overflowError"], plainKeys := false, apart := false }
def PartitionLatticeSaid : Prop := partitionLatticeRow.holds Try.pinned (OpenSpec.ofChange partitionLatticeSpec)

/-- ITS FALSE NEIGHBOUR: 'it returns false'. Refute it at one input. -/
def partitionLatticeWrong : ChangeSpec := { name := "partitionLattice", fn := fun _ => fun
  | [d1, d2] => { results := [.lit (.bool false)], args := [d1, d2] }
  | _ => none }
def PartitionLatticeWrongFalsely : Prop := partitionLatticeRow.holds Try.pinned (OpenSpec.ofChange partitionLatticeWrong)

/-- 'seepagelaw25.PartitionCanons': WHATEVER THE INPUT: true; the input reads as it did. -/
def partitionCanonsSpec : ChangeSpec := { name := "partitionCanons", fn := fun _ => fun
  | [d] => { results := [.lit (.bool true)], args := [d] }
  | _ => none }
def partitionCanonsRow : OpenClaim := { program := "ytipniooflaiikaa", sum := "144d187167b48cfb6661ebb09ce3f210f409e75525e964a52d34a3a87e07c823", func := "seepage/seepagelaw25.PartitionCanons", spec := "partitionCanons", unfollowed := true, recurses := true, named := ["math/bits.divideError", "math/bits.overflowError"], plainKeys := false, apart := false }
def PartitionCanonsSaid : Prop := partitionCanonsRow.holds Try.pinned (OpenSpec.ofChange partitionCanonsSpec)

/-- ITS FALSE NEIGHBOUR: 'it returns false'. Refute it at one input. -/
def partitionCanonsWrong : ChangeSpec := { name := "partitionCanons", fn := fun _ => fun
  | [d] => { results := [.lit (.bool false)], args := [d] }
  | _ => none }
def PartitionCanonsWrongFalsely : Prop := partitionCanonsRow.holds Try.pinned (OpenSpec.ofChange partitionCanonsWrong)

/-- 'seepagelaw25.PartitionKnown': WHATEVER THE INPUT: true; the input reads as it did. -/
def partitionKnownSpec : ChangeSpec := { name := "partitionKnown", fn := fun _ => fun
  | [] => { results := [.lit (.bool true)], args := [] }
  | _ => none }
def partitionKnownRow : OpenClaim := { program := "ytipniooflaiikaa", sum := "144d187167b48cfb6661ebb09ce3f210f409e75525e964a52d34a3a87e07c823", func := "seepage/seepagelaw25.PartitionKnown", spec := "partitionKnown", unfollowed := true, recurses := true, named := ["math/bits.divideError", "math/bits.overflowError"], plainKeys := false, apart := false }
def PartitionKnownSaid : Prop := partitionKnownRow.holds Try.pinned (OpenSpec.ofChange partitionKnownSpec)

/-- ITS FALSE NEIGHBOUR: 'it returns false'. Refute it at one input. -/
def partitionKnownWrong : ChangeSpec := { name := "partitionKnown", fn := fun _ => fun
  | [] => { results := [.lit (.bool false)], args := [] }
  | _ => none }
def PartitionKnownWrongFalsely : Prop := partitionKnownRow.holds Try.pinned (OpenSpec.ofChange partitionKnownWrong)

/- THE SECOND FORM. 'bulk': how many values and letters a reading holds, each counted each time it is reached (what is shared counts as often as it is met; a slice's spare places count too). A statement '..UptoSaid' is the law's where the arguments, and the package variables that the reading takes, are together of bulk at most 1048576: NARROWER than '..Said'. Prove '..Said' where nothing that the law and all that it calls make is longer than what came in: it says more and counts as full. Else prove '..UptoSaid'. A law counts once. -/
mutual
def uptoBulk {H : Type} : DataW H → Nat
  | .lit (.string bytes) => bytes.length + 1
  | .lit _ => 1
  | .nil => 1
  | .ptr d => uptoBulk d + 1
  | .slice elems spare => uptoBulkAll elems + uptoBulkAll spare + 1
  | .agg parts => uptoBulkAll parts + 1
  | .iface _ d => uptoBulk d + 1
  | .map entries => uptoBulkEntries entries + 1
  | .held _ => 1
def uptoBulkAll {H : Type} : List (DataW H) → Nat
  | [] => 0
  | d :: r => uptoBulk d + uptoBulkAll r
def uptoBulkEntries {H : Type} : List (Lit × DataW H) → Nat
  | [] => 0
  | x :: r => uptoBulkEntry x + uptoBulkEntries r
def uptoBulkEntry {H : Type} : Lit × DataW H → Nat
  | (.string bytes, d) => bytes.length + uptoBulk d + 1
  | (_, d) => uptoBulk d + 1
 end
def uptoSmall : (H : Type) → List (DataW H) → Bool := fun _ ds => decide (uptoBulkAll ds ≤ 1048576)
def OpenSpec.upto (s : _root_.Go.ChangeSpec) : _root_.Go.OpenSpec := { _root_.Go.OpenSpec.ofChange s with cond := some uptoSmall }

/-- 'seepagelaw25.PartitionPairs', WHERE WHAT IT READS IS OF BULK AT MOST 1048576: true; the input reads as it did. -/
def partitionPairsUptoRow : OpenClaim := { program := "ytipniooflaiikaa", sum := "144d187167b48cfb6661ebb09ce3f210f409e75525e964a52d34a3a87e07c823", func := "seepage/seepagelaw25.PartitionPairs", spec := "partitionPairs", unfollowed := true, recurses := true, named := ["math/bits.divideError", "math/bits.overflowError"], plainKeys := false, apart := false, narrowed := true }
def PartitionPairsUptoSaid : Prop := partitionPairsUptoRow.holds Try.pinned (OpenSpec.upto partitionPairsSpec)

/-- 'seepagelaw25.PartitionNexts', WHERE WHAT IT READS IS OF BULK AT MOST 1048576: true; the input reads as it did. -/
def partitionNextsUptoRow : OpenClaim := { program := "ytipniooflaiikaa", sum := "144d187167b48cfb6661ebb09ce3f210f409e75525e964a52d34a3a87e07c823", func := "seepage/seepagelaw25.PartitionNexts", spec := "partitionNexts", unfollowed := true, recurses := true, named := ["math/bits.divideError", "math/bits.overflowError"], plainKeys := false, apart := false, narrowed := true }
def PartitionNextsUptoSaid : Prop := partitionNextsUptoRow.holds Try.pinned (OpenSpec.upto partitionNextsSpec)

/-- 'seepagelaw25.PartitionWalks', WHERE WHAT IT READS IS OF BULK AT MOST 1048576: true; the input reads as it did. -/
def partitionWalksUptoRow : OpenClaim := { program := "ytipniooflaiikaa", sum := "144d187167b48cfb6661ebb09ce3f210f409e75525e964a52d34a3a87e07c823", func := "seepage/seepagelaw25.PartitionWalks", spec := "partitionWalks", unfollowed := true, recurses := true, named := ["math/bits.divideError", "math/bits.overflowError"], plainKeys := false, apart := false, narrowed := true }
def PartitionWalksUptoSaid : Prop := partitionWalksUptoRow.holds Try.pinned (OpenSpec.upto partitionWalksSpec)

/-- 'seepagelaw25.PartitionRenames', WHERE WHAT IT READS IS OF BULK AT MOST 1048576: true; the input reads as it did. -/
def partitionRenamesUptoRow : OpenClaim := { program := "ytipniooflaiikaa", sum := "144d187167b48cfb6661ebb09ce3f210f409e75525e964a52d34a3a87e07c823", func := "seepage/seepagelaw25.PartitionRenames", spec := "partitionRenames", unfollowed := true, recurses := true, named := ["math/bits.divideError", "math/bits.overflowError"], plainKeys := false, apart := false, narrowed := true }
def PartitionRenamesUptoSaid : Prop := partitionRenamesUptoRow.holds Try.pinned (OpenSpec.upto partitionRenamesSpec)

/-- 'seepagelaw25.PartitionCounts', WHERE WHAT IT READS IS OF BULK AT MOST 1048576: true; the input reads as it did. -/
def partitionCountsUptoRow : OpenClaim := { program := "ytipniooflaiikaa", sum := "144d187167b48cfb6661ebb09ce3f210f409e75525e964a52d34a3a87e07c823", func := "seepage/seepagelaw25.PartitionCounts", spec := "partitionCounts", unfollowed := true, recurses := true, named := ["math/bits.divideError", "math/bits.overflowError"], plainKeys := false, apart := false, narrowed := true }
def PartitionCountsUptoSaid : Prop := partitionCountsUptoRow.holds Try.pinned (OpenSpec.upto partitionCountsSpec)

/-- 'seepagelaw25.PartitionMeets', WHERE WHAT IT READS IS OF BULK AT MOST 1048576: true; the input reads as it did. -/
def partitionMeetsUptoRow : OpenClaim := { program := "ytipniooflaiikaa", sum := "144d187167b48cfb6661ebb09ce3f210f409e75525e964a52d34a3a87e07c823", func := "seepage/seepagelaw25.PartitionMeets", spec := "partitionMeets", unfollowed := true, recurses := true, named := ["math/bits.divideError", "math/bits.overflowError"], plainKeys := false, apart := false, narrowed := true }
def PartitionMeetsUptoSaid : Prop := partitionMeetsUptoRow.holds Try.pinned (OpenSpec.upto partitionMeetsSpec)

/-- 'seepagelaw25.PartitionLattice', WHERE WHAT IT READS IS OF BULK AT MOST 1048576: true; the input reads as it did. -/
def partitionLatticeUptoRow : OpenClaim := { program := "ytipniooflaiikaa", sum := "144d187167b48cfb6661ebb09ce3f210f409e75525e964a52d34a3a87e07c823", func := "seepage/seepagelaw25.PartitionLattice", spec := "partitionLattice", unfollowed := true, recurses := true, named := ["math/bits.divideError", "math/bits.overflowError"], plainKeys := false, apart := false, narrowed := true }
def PartitionLatticeUptoSaid : Prop := partitionLatticeUptoRow.holds Try.pinned (OpenSpec.upto partitionLatticeSpec)

/-- 'seepagelaw25.PartitionCanons', WHERE WHAT IT READS IS OF BULK AT MOST 1048576: true; the input reads as it did. -/
def partitionCanonsUptoRow : OpenClaim := { program := "ytipniooflaiikaa", sum := "144d187167b48cfb6661ebb09ce3f210f409e75525e964a52d34a3a87e07c823", func := "seepage/seepagelaw25.PartitionCanons", spec := "partitionCanons", unfollowed := true, recurses := true, named := ["math/bits.divideError", "math/bits.overflowError"], plainKeys := false, apart := false, narrowed := true }
def PartitionCanonsUptoSaid : Prop := partitionCanonsUptoRow.holds Try.pinned (OpenSpec.upto partitionCanonsSpec)

/-- 'seepagelaw25.PartitionKnown', WHERE WHAT IT READS IS OF BULK AT MOST 1048576: true; the input reads as it did. -/
def partitionKnownUptoRow : OpenClaim := { program := "ytipniooflaiikaa", sum := "144d187167b48cfb6661ebb09ce3f210f409e75525e964a52d34a3a87e07c823", func := "seepage/seepagelaw25.PartitionKnown", spec := "partitionKnown", unfollowed := true, recurses := true, named := ["math/bits.divideError", "math/bits.overflowError"], plainKeys := false, apart := false, narrowed := true }
def PartitionKnownUptoSaid : Prop := partitionKnownUptoRow.holds Try.pinned (OpenSpec.upto partitionKnownSpec)

end Rows
end Go.Proofs.Ytipniooflaiikaa
