/-
  No cell of these rows narrows 'for every input' (looked for: loops, veiled, ifaces, maps, wideKeys, modest, calm, conditions, laid).
  DERIVED. THE GIVEN ROWS OF THIS SEAT. 10 by the template 'for every input the law returns true; each argument reads behind the call as it read before'; 0 by the template 'total and deterministic' (their statements: YtmjchiebpnnbpaaTotals.lean).
  GIVEN WITH THE SEED: the statements are not yours to turn. If you find one false, say at which input.
  Laid BY PROGRAM, IN A SANDBOX (cutbox-rows.mjs): the forced cells as the released guide's own fill.sh prints them over the translation 415717c1acf2b75f… (all of the seat's roots in one cut). By AI agents, Wed Nov 11 2026. No macro, syntax, notation, axiom, sorry.
-/
import Derived.Test.YtmjchiebpnnbpaaChecked
import GoSem.Claim
import GoSem.ClaimJoined
import GoSem.ClaimMapViews
import Derived.JoinedTies
import Derived.KernelRfl
namespace Go.Proofs.Ytmjchiebpnnbpaa
/- THE CELL 'sum', in the pinned program and in every row, IS THE sha256 OF THE DUMP (.gsa) THAT YtmjchiebpnnbpaaProg.lean LOADS. Nothing in Lean hashes anything: it is a label: what it is worth is what the hold of that sum in a sandbox is worth. -/
noncomputable def Try.pinned : Pinned := { name := "ytmjchiebpnnbpaa", sum := "415717c1acf2b75f99376ddb571dd484b414900f59aa79094d63ee338f6c4c6f", checked := Try.checked }
namespace Rows
def none {H : Type} : Left H := { results := [], args := [] }

/-- 'seepagelaw01.CheckedSums': WHATEVER THE INPUT: true; the input reads as it did. -/
def checkedSumsSpec : ChangeSpec := { name := "checkedSums", fn := fun _ => fun
  | [d] => { results := [.lit (.bool true)], args := [d] }
  | _ => none }
def checkedSumsRow : OpenClaim := { program := "ytmjchiebpnnbpaa", sum := "415717c1acf2b75f99376ddb571dd484b414900f59aa79094d63ee338f6c4c6f", func := "seepage/seepagelaw01.CheckedSums", spec := "checkedSums", inPlace := ["math/bits.Add64"], named := ["math/bits.divideError", "math/bits.overflowError"], apart := false }
def CheckedSumsSaid : Prop := checkedSumsRow.holds Try.pinned (OpenSpec.ofChange checkedSumsSpec)

/-- ITS FALSE NEIGHBOUR: 'it returns false'. Refute it at one input. -/
def checkedSumsWrong : ChangeSpec := { name := "checkedSums", fn := fun _ => fun
  | [d] => { results := [.lit (.bool false)], args := [d] }
  | _ => none }
def CheckedSumsWrongFalsely : Prop := checkedSumsRow.holds Try.pinned (OpenSpec.ofChange checkedSumsWrong)

/-- 'seepagelaw01.CheckedMulDivs': WHATEVER THE INPUT: true; the input reads as it did. -/
def checkedMulDivsSpec : ChangeSpec := { name := "checkedMulDivs", fn := fun _ => fun
  | [d1, d2, d3] => { results := [.lit (.bool true)], args := [d1, d2, d3] }
  | _ => none }
def checkedMulDivsRow : OpenClaim := { program := "ytmjchiebpnnbpaa", sum := "415717c1acf2b75f99376ddb571dd484b414900f59aa79094d63ee338f6c4c6f", func := "seepage/seepagelaw01.CheckedMulDivs", spec := "checkedMulDivs", inPlace := ["math/bits.Add64"], named := ["math/bits.divideError", "math/bits.overflowError"], apart := false }
def CheckedMulDivsSaid : Prop := checkedMulDivsRow.holds Try.pinned (OpenSpec.ofChange checkedMulDivsSpec)

/-- ITS FALSE NEIGHBOUR: 'it returns false'. Refute it at one input. -/
def checkedMulDivsWrong : ChangeSpec := { name := "checkedMulDivs", fn := fun _ => fun
  | [d1, d2, d3] => { results := [.lit (.bool false)], args := [d1, d2, d3] }
  | _ => none }
def CheckedMulDivsWrongFalsely : Prop := checkedMulDivsRow.holds Try.pinned (OpenSpec.ofChange checkedMulDivsWrong)

/-- 'seepagelaw01.CheckedReduces': WHATEVER THE INPUT: true; the input reads as it did. -/
def checkedReducesSpec : ChangeSpec := { name := "checkedReduces", fn := fun _ => fun
  | [d1, d2] => { results := [.lit (.bool true)], args := [d1, d2] }
  | _ => none }
def checkedReducesRow : OpenClaim := { program := "ytmjchiebpnnbpaa", sum := "415717c1acf2b75f99376ddb571dd484b414900f59aa79094d63ee338f6c4c6f", func := "seepage/seepagelaw01.CheckedReduces", spec := "checkedReduces", inPlace := ["math/bits.Add64"], named := ["math/bits.divideError", "math/bits.overflowError"], apart := false }
def CheckedReducesSaid : Prop := checkedReducesRow.holds Try.pinned (OpenSpec.ofChange checkedReducesSpec)

/-- ITS FALSE NEIGHBOUR: 'it returns false'. Refute it at one input. -/
def checkedReducesWrong : ChangeSpec := { name := "checkedReduces", fn := fun _ => fun
  | [d1, d2] => { results := [.lit (.bool false)], args := [d1, d2] }
  | _ => none }
def CheckedReducesWrongFalsely : Prop := checkedReducesRow.holds Try.pinned (OpenSpec.ofChange checkedReducesWrong)

/-- 'seepagelaw01.CheckedOrders': WHATEVER THE INPUT: true; the input reads as it did. -/
def checkedOrdersSpec : ChangeSpec := { name := "checkedOrders", fn := fun _ => fun
  | [d1, d2] => { results := [.lit (.bool true)], args := [d1, d2] }
  | _ => none }
def checkedOrdersRow : OpenClaim := { program := "ytmjchiebpnnbpaa", sum := "415717c1acf2b75f99376ddb571dd484b414900f59aa79094d63ee338f6c4c6f", func := "seepage/seepagelaw01.CheckedOrders", spec := "checkedOrders", inPlace := ["math/bits.Add64"], named := ["math/bits.divideError", "math/bits.overflowError"], apart := false }
def CheckedOrdersSaid : Prop := checkedOrdersRow.holds Try.pinned (OpenSpec.ofChange checkedOrdersSpec)

/-- ITS FALSE NEIGHBOUR: 'it returns false'. Refute it at one input. -/
def checkedOrdersWrong : ChangeSpec := { name := "checkedOrders", fn := fun _ => fun
  | [d1, d2] => { results := [.lit (.bool false)], args := [d1, d2] }
  | _ => none }
def CheckedOrdersWrongFalsely : Prop := checkedOrdersRow.holds Try.pinned (OpenSpec.ofChange checkedOrdersWrong)

/-- 'seepagelaw01.CheckedRounds': WHATEVER THE INPUT: true; the input reads as it did. -/
def checkedRoundsSpec : ChangeSpec := { name := "checkedRounds", fn := fun _ => fun
  | [d1, d2, d3] => { results := [.lit (.bool true)], args := [d1, d2, d3] }
  | _ => none }
def checkedRoundsRow : OpenClaim := { program := "ytmjchiebpnnbpaa", sum := "415717c1acf2b75f99376ddb571dd484b414900f59aa79094d63ee338f6c4c6f", func := "seepage/seepagelaw01.CheckedRounds", spec := "checkedRounds", inPlace := ["math/bits.Add64"], named := ["math/bits.divideError", "math/bits.overflowError"], apart := false }
def CheckedRoundsSaid : Prop := checkedRoundsRow.holds Try.pinned (OpenSpec.ofChange checkedRoundsSpec)

/-- ITS FALSE NEIGHBOUR: 'it returns false'. Refute it at one input. -/
def checkedRoundsWrong : ChangeSpec := { name := "checkedRounds", fn := fun _ => fun
  | [d1, d2, d3] => { results := [.lit (.bool false)], args := [d1, d2, d3] }
  | _ => none }
def CheckedRoundsWrongFalsely : Prop := checkedRoundsRow.holds Try.pinned (OpenSpec.ofChange checkedRoundsWrong)

/-- 'seepagelaw01.CheckedAdds': WHATEVER THE INPUT: true; the input reads as it did. -/
def checkedAddsSpec : ChangeSpec := { name := "checkedAdds", fn := fun _ => fun
  | [d1, d2] => { results := [.lit (.bool true)], args := [d1, d2] }
  | _ => none }
def checkedAddsRow : OpenClaim := { program := "ytmjchiebpnnbpaa", sum := "415717c1acf2b75f99376ddb571dd484b414900f59aa79094d63ee338f6c4c6f", func := "seepage/seepagelaw01.CheckedAdds", spec := "checkedAdds", inPlace := ["math/bits.Add64"], named := ["math/bits.divideError", "math/bits.overflowError"], apart := false }
def CheckedAddsSaid : Prop := checkedAddsRow.holds Try.pinned (OpenSpec.ofChange checkedAddsSpec)

/-- ITS FALSE NEIGHBOUR: 'it returns false'. Refute it at one input. -/
def checkedAddsWrong : ChangeSpec := { name := "checkedAdds", fn := fun _ => fun
  | [d1, d2] => { results := [.lit (.bool false)], args := [d1, d2] }
  | _ => none }
def CheckedAddsWrongFalsely : Prop := checkedAddsRow.holds Try.pinned (OpenSpec.ofChange checkedAddsWrong)

/-- 'seepagelaw01.CheckedInverts': WHATEVER THE INPUT: true; the input reads as it did. -/
def checkedInvertsSpec : ChangeSpec := { name := "checkedInverts", fn := fun _ => fun
  | [d1, d2] => { results := [.lit (.bool true)], args := [d1, d2] }
  | _ => none }
def checkedInvertsRow : OpenClaim := { program := "ytmjchiebpnnbpaa", sum := "415717c1acf2b75f99376ddb571dd484b414900f59aa79094d63ee338f6c4c6f", func := "seepage/seepagelaw01.CheckedInverts", spec := "checkedInverts", inPlace := ["math/bits.Add64"], named := ["math/bits.divideError", "math/bits.overflowError"], apart := false }
def CheckedInvertsSaid : Prop := checkedInvertsRow.holds Try.pinned (OpenSpec.ofChange checkedInvertsSpec)

/-- ITS FALSE NEIGHBOUR: 'it returns false'. Refute it at one input. -/
def checkedInvertsWrong : ChangeSpec := { name := "checkedInverts", fn := fun _ => fun
  | [d1, d2] => { results := [.lit (.bool false)], args := [d1, d2] }
  | _ => none }
def CheckedInvertsWrongFalsely : Prop := checkedInvertsRow.holds Try.pinned (OpenSpec.ofChange checkedInvertsWrong)

/-- 'seepagelaw01.CheckedCompares': WHATEVER THE INPUT: true; the input reads as it did. -/
def checkedComparesSpec : ChangeSpec := { name := "checkedCompares", fn := fun _ => fun
  | [d1, d2] => { results := [.lit (.bool true)], args := [d1, d2] }
  | _ => none }
def checkedComparesRow : OpenClaim := { program := "ytmjchiebpnnbpaa", sum := "415717c1acf2b75f99376ddb571dd484b414900f59aa79094d63ee338f6c4c6f", func := "seepage/seepagelaw01.CheckedCompares", spec := "checkedCompares", inPlace := ["math/bits.Add64"], named := ["math/bits.divideError", "math/bits.overflowError"], apart := false }
def CheckedComparesSaid : Prop := checkedComparesRow.holds Try.pinned (OpenSpec.ofChange checkedComparesSpec)

/-- ITS FALSE NEIGHBOUR: 'it returns false'. Refute it at one input. -/
def checkedComparesWrong : ChangeSpec := { name := "checkedCompares", fn := fun _ => fun
  | [d1, d2] => { results := [.lit (.bool false)], args := [d1, d2] }
  | _ => none }
def CheckedComparesWrongFalsely : Prop := checkedComparesRow.holds Try.pinned (OpenSpec.ofChange checkedComparesWrong)

/-- 'seepagelaw01.CheckedRanks': WHATEVER THE INPUT: true; the input reads as it did. -/
def checkedRanksSpec : ChangeSpec := { name := "checkedRanks", fn := fun _ => fun
  | [d1, d2, d3] => { results := [.lit (.bool true)], args := [d1, d2, d3] }
  | _ => none }
def checkedRanksRow : OpenClaim := { program := "ytmjchiebpnnbpaa", sum := "415717c1acf2b75f99376ddb571dd484b414900f59aa79094d63ee338f6c4c6f", func := "seepage/seepagelaw01.CheckedRanks", spec := "checkedRanks", inPlace := ["math/bits.Add64"], named := ["math/bits.divideError", "math/bits.overflowError"], apart := false }
def CheckedRanksSaid : Prop := checkedRanksRow.holds Try.pinned (OpenSpec.ofChange checkedRanksSpec)

/-- ITS FALSE NEIGHBOUR: 'it returns false'. Refute it at one input. -/
def checkedRanksWrong : ChangeSpec := { name := "checkedRanks", fn := fun _ => fun
  | [d1, d2, d3] => { results := [.lit (.bool false)], args := [d1, d2, d3] }
  | _ => none }
def CheckedRanksWrongFalsely : Prop := checkedRanksRow.holds Try.pinned (OpenSpec.ofChange checkedRanksWrong)

/-- 'seepagelaw01.CheckedKnown': WHATEVER THE INPUT: true; the input reads as it did. -/
def checkedKnownSpec : ChangeSpec := { name := "checkedKnown", fn := fun _ => fun
  | [] => { results := [.lit (.bool true)], args := [] }
  | _ => none }
def checkedKnownRow : OpenClaim := { program := "ytmjchiebpnnbpaa", sum := "415717c1acf2b75f99376ddb571dd484b414900f59aa79094d63ee338f6c4c6f", func := "seepage/seepagelaw01.CheckedKnown", spec := "checkedKnown", inPlace := ["math/bits.Add64"], named := ["math/bits.divideError", "math/bits.overflowError"], apart := false }
def CheckedKnownSaid : Prop := checkedKnownRow.holds Try.pinned (OpenSpec.ofChange checkedKnownSpec)

/-- ITS FALSE NEIGHBOUR: 'it returns false'. Refute it at one input. -/
def checkedKnownWrong : ChangeSpec := { name := "checkedKnown", fn := fun _ => fun
  | [] => { results := [.lit (.bool false)], args := [] }
  | _ => none }
def CheckedKnownWrongFalsely : Prop := checkedKnownRow.holds Try.pinned (OpenSpec.ofChange checkedKnownWrong)

/- THE SECOND FORM. 'bulk': how many values and letters a reading holds, each counted each time it is reached (what is shared counts as often as it is met; a slice's spare places count too). A statement '..UptoSaid' is the law's where the arguments, and the package variables that the reading takes, are together of bulk at most 1048576: NARROWER than '..Said'. Prove '..Said' where nothing that the law and all that it calls make is longer than what came in: it says more and counts as full. Else prove '..UptoSaid'. A law counts once. -/
mutual
def uptoBulk {H : Type} : DataW H → Nat
  | .lit (.string bytes) => bytes.length + 1
  | .lit _ => 1
  | .nil => 1
  | .ptr d => uptoBulk d + 1
  | .slice elems spare => uptoBulkAll elems + uptoBulkAll spare + 1
  | .agg parts => uptoBulkAll parts + 1
  | .iface _ d => uptoBulk d + 1
  | .map entries => uptoBulkEntries entries + 1
  | .held _ => 1
def uptoBulkAll {H : Type} : List (DataW H) → Nat
  | [] => 0
  | d :: r => uptoBulk d + uptoBulkAll r
def uptoBulkEntries {H : Type} : List (Lit × DataW H) → Nat
  | [] => 0
  | x :: r => uptoBulkEntry x + uptoBulkEntries r
def uptoBulkEntry {H : Type} : Lit × DataW H → Nat
  | (.string bytes, d) => bytes.length + uptoBulk d + 1
  | (_, d) => uptoBulk d + 1
 end
def uptoSmall : (H : Type) → List (DataW H) → Bool := fun _ ds => decide (uptoBulkAll ds ≤ 1048576)
def OpenSpec.upto (s : _root_.Go.ChangeSpec) : _root_.Go.OpenSpec := { _root_.Go.OpenSpec.ofChange s with cond := some uptoSmall }

/-- 'seepagelaw01.CheckedSums', WHERE WHAT IT READS IS OF BULK AT MOST 1048576: true; the input reads as it did. -/
def checkedSumsUptoRow : OpenClaim := { program := "ytmjchiebpnnbpaa", sum := "415717c1acf2b75f99376ddb571dd484b414900f59aa79094d63ee338f6c4c6f", func := "seepage/seepagelaw01.CheckedSums", spec := "checkedSums", inPlace := ["math/bits.Add64"], named := ["math/bits.divideError", "math/bits.overflowError"], apart := false, narrowed := true }
def CheckedSumsUptoSaid : Prop := checkedSumsUptoRow.holds Try.pinned (OpenSpec.upto checkedSumsSpec)

/-- 'seepagelaw01.CheckedMulDivs', WHERE WHAT IT READS IS OF BULK AT MOST 1048576: true; the input reads as it did. -/
def checkedMulDivsUptoRow : OpenClaim := { program := "ytmjchiebpnnbpaa", sum := "415717c1acf2b75f99376ddb571dd484b414900f59aa79094d63ee338f6c4c6f", func := "seepage/seepagelaw01.CheckedMulDivs", spec := "checkedMulDivs", inPlace := ["math/bits.Add64"], named := ["math/bits.divideError", "math/bits.overflowError"], apart := false, narrowed := true }
def CheckedMulDivsUptoSaid : Prop := checkedMulDivsUptoRow.holds Try.pinned (OpenSpec.upto checkedMulDivsSpec)

/-- 'seepagelaw01.CheckedReduces', WHERE WHAT IT READS IS OF BULK AT MOST 1048576: true; the input reads as it did. -/
def checkedReducesUptoRow : OpenClaim := { program := "ytmjchiebpnnbpaa", sum := "415717c1acf2b75f99376ddb571dd484b414900f59aa79094d63ee338f6c4c6f", func := "seepage/seepagelaw01.CheckedReduces", spec := "checkedReduces", inPlace := ["math/bits.Add64"], named := ["math/bits.divideError", "math/bits.overflowError"], apart := false, narrowed := true }
def CheckedReducesUptoSaid : Prop := checkedReducesUptoRow.holds Try.pinned (OpenSpec.upto checkedReducesSpec)

/-- 'seepagelaw01.CheckedOrders', WHERE WHAT IT READS IS OF BULK AT MOST 1048576: true; the input reads as it did. -/
def checkedOrdersUptoRow : OpenClaim := { program := "ytmjchiebpnnbpaa", sum := "415717c1acf2b75f99376ddb571dd484b414900f59aa79094d63ee338f6c4c6f", func := "seepage/seepagelaw01.CheckedOrders", spec := "checkedOrders", inPlace := ["math/bits.Add64"], named := ["math/bits.divideError", "math/bits.overflowError"], apart := false, narrowed := true }
def CheckedOrdersUptoSaid : Prop := checkedOrdersUptoRow.holds Try.pinned (OpenSpec.upto checkedOrdersSpec)

/-- 'seepagelaw01.CheckedRounds', WHERE WHAT IT READS IS OF BULK AT MOST 1048576: true; the input reads as it did. -/
def checkedRoundsUptoRow : OpenClaim := { program := "ytmjchiebpnnbpaa", sum := "415717c1acf2b75f99376ddb571dd484b414900f59aa79094d63ee338f6c4c6f", func := "seepage/seepagelaw01.CheckedRounds", spec := "checkedRounds", inPlace := ["math/bits.Add64"], named := ["math/bits.divideError", "math/bits.overflowError"], apart := false, narrowed := true }
def CheckedRoundsUptoSaid : Prop := checkedRoundsUptoRow.holds Try.pinned (OpenSpec.upto checkedRoundsSpec)

/-- 'seepagelaw01.CheckedAdds', WHERE WHAT IT READS IS OF BULK AT MOST 1048576: true; the input reads as it did. -/
def checkedAddsUptoRow : OpenClaim := { program := "ytmjchiebpnnbpaa", sum := "415717c1acf2b75f99376ddb571dd484b414900f59aa79094d63ee338f6c4c6f", func := "seepage/seepagelaw01.CheckedAdds", spec := "checkedAdds", inPlace := ["math/bits.Add64"], named := ["math/bits.divideError", "math/bits.overflowError"], apart := false, narrowed := true }
def CheckedAddsUptoSaid : Prop := checkedAddsUptoRow.holds Try.pinned (OpenSpec.upto checkedAddsSpec)

/-- 'seepagelaw01.CheckedInverts', WHERE WHAT IT READS IS OF BULK AT MOST 1048576: true; the input reads as it did. -/
def checkedInvertsUptoRow : OpenClaim := { program := "ytmjchiebpnnbpaa", sum := "415717c1acf2b75f99376ddb571dd484b414900f59aa79094d63ee338f6c4c6f", func := "seepage/seepagelaw01.CheckedInverts", spec := "checkedInverts", inPlace := ["math/bits.Add64"], named := ["math/bits.divideError", "math/bits.overflowError"], apart := false, narrowed := true }
def CheckedInvertsUptoSaid : Prop := checkedInvertsUptoRow.holds Try.pinned (OpenSpec.upto checkedInvertsSpec)

/-- 'seepagelaw01.CheckedCompares', WHERE WHAT IT READS IS OF BULK AT MOST 1048576: true; the input reads as it did. -/
def checkedComparesUptoRow : OpenClaim := { program := "ytmjchiebpnnbpaa", sum := "415717c1acf2b75f99376ddb571dd484b414900f59aa79094d63ee338f6c4c6f", func := "seepage/seepagelaw01.CheckedCompares", spec := "checkedCompares", inPlace := ["math/bits.Add64"], named := ["math/bits.divideError", "math/bits.overflowError"], apart := false, narrowed := true }
def CheckedComparesUptoSaid : Prop := checkedComparesUptoRow.holds Try.pinned (OpenSpec.upto checkedComparesSpec)

/-- 'seepagelaw01.CheckedRanks', WHERE WHAT IT READS IS OF BULK AT MOST 1048576: true; the input reads as it did. -/
def checkedRanksUptoRow : OpenClaim := { program := "ytmjchiebpnnbpaa", sum := "415717c1acf2b75f99376ddb571dd484b414900f59aa79094d63ee338f6c4c6f", func := "seepage/seepagelaw01.CheckedRanks", spec := "checkedRanks", inPlace := ["math/bits.Add64"], named := ["math/bits.divideError", "math/bits.overflowError"], apart := false, narrowed := true }
def CheckedRanksUptoSaid : Prop := checkedRanksUptoRow.holds Try.pinned (OpenSpec.upto checkedRanksSpec)

/-- 'seepagelaw01.CheckedKnown', WHERE WHAT IT READS IS OF BULK AT MOST 1048576: true; the input reads as it did. -/
def checkedKnownUptoRow : OpenClaim := { program := "ytmjchiebpnnbpaa", sum := "415717c1acf2b75f99376ddb571dd484b414900f59aa79094d63ee338f6c4c6f", func := "seepage/seepagelaw01.CheckedKnown", spec := "checkedKnown", inPlace := ["math/bits.Add64"], named := ["math/bits.divideError", "math/bits.overflowError"], apart := false, narrowed := true }
def CheckedKnownUptoSaid : Prop := checkedKnownUptoRow.holds Try.pinned (OpenSpec.upto checkedKnownSpec)

end Rows
end Go.Proofs.Ytmjchiebpnnbpaa
