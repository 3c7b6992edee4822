/-
  No cell of these rows narrows 'for every input' (looked for: loops, veiled, ifaces, maps, wideKeys, modest, calm, conditions, laid).
  DERIVED. THE GIVEN ROWS OF THIS SEAT. 11 by the template 'for every input the law returns true; each argument reads behind the call as it read before'; 0 by the template 'total and deterministic' (their statements: YtoiafopndlnknaaTotals.lean).
  GIVEN WITH THE SEED: the statements are not yours to turn. If you find one false, say at which input.
  Laid BY PROGRAM, IN A SANDBOX (cutbox-rows.mjs): the forced cells as the released guide's own fill.sh prints them over the translation c736499632155961… (all of the seat's roots in one cut). By AI agents, Wed Nov 11 2026. No macro, syntax, notation, axiom, sorry.
-/
import Derived.Test.YtoiafopndlnknaaChecked
import GoSem.Claim
import GoSem.ClaimJoined
import GoSem.ClaimMapViews
import Derived.JoinedTies
import Derived.KernelRfl
namespace Go.Proofs.Ytoiafopndlnknaa
/- THE CELL 'sum', in the pinned program and in every row, IS THE sha256 OF THE DUMP (.gsa) THAT YtoiafopndlnknaaProg.lean LOADS. Nothing in Lean hashes anything: it is a label: what it is worth is what the hold of that sum in a sandbox is worth. -/
noncomputable def Try.pinned : Pinned := { name := "ytoiafopndlnknaa", sum := "c73649963215596120661e62dc20709e7f03f0d9e49daad4e70a0b171352f8bc", checked := Try.checked }
namespace Rows
def none {H : Type} : Left H := { results := [], args := [] }

/-- 'seepagelaw15.CoresWithin': WHATEVER THE INPUT: true; the input reads as it did. -/
def coresWithinSpec : ChangeSpec := { name := "coresWithin", fn := fun _ => fun
  | [d1, d2, d3] => { results := [.lit (.bool true)], args := [d1, d2, d3] }
  | _ => none }
def coresWithinRow : OpenClaim := { program := "ytoiafopndlnknaa", sum := "c73649963215596120661e62dc20709e7f03f0d9e49daad4e70a0b171352f8bc", func := "seepage/seepagelaw15.CoresWithin", spec := "coresWithin", inPlace := ["math/bits.Add64"], unfollowed := true, recurses := true, apart := false }
def CoresWithinSaid : Prop := coresWithinRow.holds Try.pinned (OpenSpec.ofChange coresWithinSpec)

/-- ITS FALSE NEIGHBOUR: 'it returns false'. Refute it at one input. -/
def coresWithinWrong : ChangeSpec := { name := "coresWithin", fn := fun _ => fun
  | [d1, d2, d3] => { results := [.lit (.bool false)], args := [d1, d2, d3] }
  | _ => none }
def CoresWithinWrongFalsely : Prop := coresWithinRow.holds Try.pinned (OpenSpec.ofChange coresWithinWrong)

/-- 'seepagelaw15.CoresDensest': WHATEVER THE INPUT: true; the input reads as it did. -/
def coresDensestSpec : ChangeSpec := { name := "coresDensest", fn := fun _ => fun
  | [d1, d2] => { results := [.lit (.bool true)], args := [d1, d2] }
  | _ => none }
def coresDensestRow : OpenClaim := { program := "ytoiafopndlnknaa", sum := "c73649963215596120661e62dc20709e7f03f0d9e49daad4e70a0b171352f8bc", func := "seepage/seepagelaw15.CoresDensest", spec := "coresDensest", inPlace := ["math/bits.Add64"], unfollowed := true, recurses := true, apart := false }
def CoresDensestSaid : Prop := coresDensestRow.holds Try.pinned (OpenSpec.ofChange coresDensestSpec)

/-- ITS FALSE NEIGHBOUR: 'it returns false'. Refute it at one input. -/
def coresDensestWrong : ChangeSpec := { name := "coresDensest", fn := fun _ => fun
  | [d1, d2] => { results := [.lit (.bool false)], args := [d1, d2] }
  | _ => none }
def CoresDensestWrongFalsely : Prop := coresDensestRow.holds Try.pinned (OpenSpec.ofChange coresDensestWrong)

/-- 'seepagelaw15.CoresMore': WHATEVER THE INPUT: true; the input reads as it did. -/
def coresMoreSpec : ChangeSpec := { name := "coresMore", fn := fun _ => fun
  | [d1, d2, d3, d4] => { results := [.lit (.bool true)], args := [d1, d2, d3, d4] }
  | _ => none }
def coresMoreRow : OpenClaim := { program := "ytoiafopndlnknaa", sum := "c73649963215596120661e62dc20709e7f03f0d9e49daad4e70a0b171352f8bc", func := "seepage/seepagelaw15.CoresMore", spec := "coresMore", inPlace := ["math/bits.Add64"], unfollowed := true, recurses := true, apart := false }
def CoresMoreSaid : Prop := coresMoreRow.holds Try.pinned (OpenSpec.ofChange coresMoreSpec)

/-- ITS FALSE NEIGHBOUR: 'it returns false'. Refute it at one input. -/
def coresMoreWrong : ChangeSpec := { name := "coresMore", fn := fun _ => fun
  | [d1, d2, d3, d4] => { results := [.lit (.bool false)], args := [d1, d2, d3, d4] }
  | _ => none }
def CoresMoreWrongFalsely : Prop := coresMoreRow.holds Try.pinned (OpenSpec.ofChange coresMoreWrong)

/-- 'seepagelaw15.CoresTimes': WHATEVER THE INPUT: true; the input reads as it did. -/
def coresTimesSpec : ChangeSpec := { name := "coresTimes", fn := fun _ => fun
  | [d1, d2, d3] => { results := [.lit (.bool true)], args := [d1, d2, d3] }
  | _ => none }
def coresTimesRow : OpenClaim := { program := "ytoiafopndlnknaa", sum := "c73649963215596120661e62dc20709e7f03f0d9e49daad4e70a0b171352f8bc", func := "seepage/seepagelaw15.CoresTimes", spec := "coresTimes", inPlace := ["math/bits.Add64"], unfollowed := true, recurses := true, apart := false }
def CoresTimesSaid : Prop := coresTimesRow.holds Try.pinned (OpenSpec.ofChange coresTimesSpec)

/-- ITS FALSE NEIGHBOUR: 'it returns false'. Refute it at one input. -/
def coresTimesWrong : ChangeSpec := { name := "coresTimes", fn := fun _ => fun
  | [d1, d2, d3] => { results := [.lit (.bool false)], args := [d1, d2, d3] }
  | _ => none }
def CoresTimesWrongFalsely : Prop := coresTimesRow.holds Try.pinned (OpenSpec.ofChange coresTimesWrong)

/-- 'seepagelaw15.CoresMirror': WHATEVER THE INPUT: true; the input reads as it did. -/
def coresMirrorSpec : ChangeSpec := { name := "coresMirror", fn := fun _ => fun
  | [d1, d2] => { results := [.lit (.bool true)], args := [d1, d2] }
  | _ => none }
def coresMirrorRow : OpenClaim := { program := "ytoiafopndlnknaa", sum := "c73649963215596120661e62dc20709e7f03f0d9e49daad4e70a0b171352f8bc", func := "seepage/seepagelaw15.CoresMirror", spec := "coresMirror", inPlace := ["math/bits.Add64"], unfollowed := true, recurses := true, apart := false }
def CoresMirrorSaid : Prop := coresMirrorRow.holds Try.pinned (OpenSpec.ofChange coresMirrorSpec)

/-- ITS FALSE NEIGHBOUR: 'it returns false'. Refute it at one input. -/
def coresMirrorWrong : ChangeSpec := { name := "coresMirror", fn := fun _ => fun
  | [d1, d2] => { results := [.lit (.bool false)], args := [d1, d2] }
  | _ => none }
def CoresMirrorWrongFalsely : Prop := coresMirrorRow.holds Try.pinned (OpenSpec.ofChange coresMirrorWrong)

/-- 'seepagelaw15.CoresNumbers': WHATEVER THE INPUT: true; the input reads as it did. -/
def coresNumbersSpec : ChangeSpec := { name := "coresNumbers", fn := fun _ => fun
  | [d1, d2] => { results := [.lit (.bool true)], args := [d1, d2] }
  | _ => none }
def coresNumbersRow : OpenClaim := { program := "ytoiafopndlnknaa", sum := "c73649963215596120661e62dc20709e7f03f0d9e49daad4e70a0b171352f8bc", func := "seepage/seepagelaw15.CoresNumbers", spec := "coresNumbers", inPlace := ["math/bits.Add64"], unfollowed := true, recurses := true, apart := false }
def CoresNumbersSaid : Prop := coresNumbersRow.holds Try.pinned (OpenSpec.ofChange coresNumbersSpec)

/-- ITS FALSE NEIGHBOUR: 'it returns false'. Refute it at one input. -/
def coresNumbersWrong : ChangeSpec := { name := "coresNumbers", fn := fun _ => fun
  | [d1, d2] => { results := [.lit (.bool false)], args := [d1, d2] }
  | _ => none }
def CoresNumbersWrongFalsely : Prop := coresNumbersRow.holds Try.pinned (OpenSpec.ofChange coresNumbersWrong)

/-- 'seepagelaw15.CoresOrder': WHATEVER THE INPUT: true; the input reads as it did. -/
def coresOrderSpec : ChangeSpec := { name := "coresOrder", fn := fun _ => fun
  | [d1, d2] => { results := [.lit (.bool true)], args := [d1, d2] }
  | _ => none }
def coresOrderRow : OpenClaim := { program := "ytoiafopndlnknaa", sum := "c73649963215596120661e62dc20709e7f03f0d9e49daad4e70a0b171352f8bc", func := "seepage/seepagelaw15.CoresOrder", spec := "coresOrder", inPlace := ["math/bits.Add64"], unfollowed := true, recurses := true, apart := false }
def CoresOrderSaid : Prop := coresOrderRow.holds Try.pinned (OpenSpec.ofChange coresOrderSpec)

/-- ITS FALSE NEIGHBOUR: 'it returns false'. Refute it at one input. -/
def coresOrderWrong : ChangeSpec := { name := "coresOrder", fn := fun _ => fun
  | [d1, d2] => { results := [.lit (.bool false)], args := [d1, d2] }
  | _ => none }
def CoresOrderWrongFalsely : Prop := coresOrderRow.holds Try.pinned (OpenSpec.ofChange coresOrderWrong)

/-- 'seepagelaw15.CoresColors': WHATEVER THE INPUT: true; the input reads as it did. -/
def coresColorsSpec : ChangeSpec := { name := "coresColors", fn := fun _ => fun
  | [d1, d2] => { results := [.lit (.bool true)], args := [d1, d2] }
  | _ => none }
def coresColorsRow : OpenClaim := { program := "ytoiafopndlnknaa", sum := "c73649963215596120661e62dc20709e7f03f0d9e49daad4e70a0b171352f8bc", func := "seepage/seepagelaw15.CoresColors", spec := "coresColors", inPlace := ["math/bits.Add64"], unfollowed := true, recurses := true, apart := false }
def CoresColorsSaid : Prop := coresColorsRow.holds Try.pinned (OpenSpec.ofChange coresColorsSpec)

/-- ITS FALSE NEIGHBOUR: 'it returns false'. Refute it at one input. -/
def coresColorsWrong : ChangeSpec := { name := "coresColors", fn := fun _ => fun
  | [d1, d2] => { results := [.lit (.bool false)], args := [d1, d2] }
  | _ => none }
def CoresColorsWrongFalsely : Prop := coresColorsRow.holds Try.pinned (OpenSpec.ofChange coresColorsWrong)

/-- 'seepagelaw15.CoresSets': WHATEVER THE INPUT: true; the input reads as it did. -/
def coresSetsSpec : ChangeSpec := { name := "coresSets", fn := fun _ => fun
  | [d1, d2, d3] => { results := [.lit (.bool true)], args := [d1, d2, d3] }
  | _ => none }
def coresSetsRow : OpenClaim := { program := "ytoiafopndlnknaa", sum := "c73649963215596120661e62dc20709e7f03f0d9e49daad4e70a0b171352f8bc", func := "seepage/seepagelaw15.CoresSets", spec := "coresSets", inPlace := ["math/bits.Add64"], unfollowed := true, recurses := true, apart := false }
def CoresSetsSaid : Prop := coresSetsRow.holds Try.pinned (OpenSpec.ofChange coresSetsSpec)

/-- ITS FALSE NEIGHBOUR: 'it returns false'. Refute it at one input. -/
def coresSetsWrong : ChangeSpec := { name := "coresSets", fn := fun _ => fun
  | [d1, d2, d3] => { results := [.lit (.bool false)], args := [d1, d2, d3] }
  | _ => none }
def CoresSetsWrongFalsely : Prop := coresSetsRow.holds Try.pinned (OpenSpec.ofChange coresSetsWrong)

/-- 'seepagelaw15.CoresRaw': WHATEVER THE INPUT: true; the input reads as it did. -/
def coresRawSpec : ChangeSpec := { name := "coresRaw", fn := fun _ => fun
  | [d1, d2, d3] => { results := [.lit (.bool true)], args := [d1, d2, d3] }
  | _ => none }
def coresRawRow : OpenClaim := { program := "ytoiafopndlnknaa", sum := "c73649963215596120661e62dc20709e7f03f0d9e49daad4e70a0b171352f8bc", func := "seepage/seepagelaw15.CoresRaw", spec := "coresRaw", inPlace := ["math/bits.Add64"], unfollowed := true, recurses := true, apart := false }
def CoresRawSaid : Prop := coresRawRow.holds Try.pinned (OpenSpec.ofChange coresRawSpec)

/-- ITS FALSE NEIGHBOUR: 'it returns false'. Refute it at one input. -/
def coresRawWrong : ChangeSpec := { name := "coresRaw", fn := fun _ => fun
  | [d1, d2, d3] => { results := [.lit (.bool false)], args := [d1, d2, d3] }
  | _ => none }
def CoresRawWrongFalsely : Prop := coresRawRow.holds Try.pinned (OpenSpec.ofChange coresRawWrong)

/-- 'seepagelaw15.CoresNil': WHATEVER THE INPUT: true; the input reads as it did. -/
def coresNilSpec : ChangeSpec := { name := "coresNil", fn := fun _ => fun
  | [d] => { results := [.lit (.bool true)], args := [d] }
  | _ => none }
def coresNilRow : OpenClaim := { program := "ytoiafopndlnknaa", sum := "c73649963215596120661e62dc20709e7f03f0d9e49daad4e70a0b171352f8bc", func := "seepage/seepagelaw15.CoresNil", spec := "coresNil", inPlace := ["math/bits.Add64"], unfollowed := true, recurses := true, apart := false }
def CoresNilSaid : Prop := coresNilRow.holds Try.pinned (OpenSpec.ofChange coresNilSpec)

/-- ITS FALSE NEIGHBOUR: 'it returns false'. Refute it at one input. -/
def coresNilWrong : ChangeSpec := { name := "coresNil", fn := fun _ => fun
  | [d] => { results := [.lit (.bool false)], args := [d] }
  | _ => none }
def CoresNilWrongFalsely : Prop := coresNilRow.holds Try.pinned (OpenSpec.ofChange coresNilWrong)

/- THE SECOND FORM. 'bulk': how many values and letters a reading holds, each counted each time it is reached (what is shared counts as often as it is met; a slice's spare places count too). A statement '..UptoSaid' is the law's where the arguments, and the package variables that the reading takes, are together of bulk at most 1048576: NARROWER than '..Said'. Prove '..Said' where nothing that the law and all that it calls make is longer than what came in: it says more and counts as full. Else prove '..UptoSaid'. A law counts once. -/
mutual
def uptoBulk {H : Type} : DataW H → Nat
  | .lit (.string bytes) => bytes.length + 1
  | .lit _ => 1
  | .nil => 1
  | .ptr d => uptoBulk d + 1
  | .slice elems spare => uptoBulkAll elems + uptoBulkAll spare + 1
  | .agg parts => uptoBulkAll parts + 1
  | .iface _ d => uptoBulk d + 1
  | .map entries => uptoBulkEntries entries + 1
  | .held _ => 1
def uptoBulkAll {H : Type} : List (DataW H) → Nat
  | [] => 0
  | d :: r => uptoBulk d + uptoBulkAll r
def uptoBulkEntries {H : Type} : List (Lit × DataW H) → Nat
  | [] => 0
  | x :: r => uptoBulkEntry x + uptoBulkEntries r
def uptoBulkEntry {H : Type} : Lit × DataW H → Nat
  | (.string bytes, d) => bytes.length + uptoBulk d + 1
  | (_, d) => uptoBulk d + 1
 end
def uptoSmall : (H : Type) → List (DataW H) → Bool := fun _ ds => decide (uptoBulkAll ds ≤ 1048576)
def OpenSpec.upto (s : _root_.Go.ChangeSpec) : _root_.Go.OpenSpec := { _root_.Go.OpenSpec.ofChange s with cond := some uptoSmall }

/-- 'seepagelaw15.CoresWithin', WHERE WHAT IT READS IS OF BULK AT MOST 1048576: true; the input reads as it did. -/
def coresWithinUptoRow : OpenClaim := { program := "ytoiafopndlnknaa", sum := "c73649963215596120661e62dc20709e7f03f0d9e49daad4e70a0b171352f8bc", func := "seepage/seepagelaw15.CoresWithin", spec := "coresWithin", inPlace := ["math/bits.Add64"], unfollowed := true, recurses := true, apart := false, narrowed := true }
def CoresWithinUptoSaid : Prop := coresWithinUptoRow.holds Try.pinned (OpenSpec.upto coresWithinSpec)

/-- 'seepagelaw15.CoresDensest', WHERE WHAT IT READS IS OF BULK AT MOST 1048576: true; the input reads as it did. -/
def coresDensestUptoRow : OpenClaim := { program := "ytoiafopndlnknaa", sum := "c73649963215596120661e62dc20709e7f03f0d9e49daad4e70a0b171352f8bc", func := "seepage/seepagelaw15.CoresDensest", spec := "coresDensest", inPlace := ["math/bits.Add64"], unfollowed := true, recurses := true, apart := false, narrowed := true }
def CoresDensestUptoSaid : Prop := coresDensestUptoRow.holds Try.pinned (OpenSpec.upto coresDensestSpec)

/-- 'seepagelaw15.CoresMore', WHERE WHAT IT READS IS OF BULK AT MOST 1048576: true; the input reads as it did. -/
def coresMoreUptoRow : OpenClaim := { program := "ytoiafopndlnknaa", sum := "c73649963215596120661e62dc20709e7f03f0d9e49daad4e70a0b171352f8bc", func := "seepage/seepagelaw15.CoresMore", spec := "coresMore", inPlace := ["math/bits.Add64"], unfollowed := true, recurses := true, apart := false, narrowed := true }
def CoresMoreUptoSaid : Prop := coresMoreUptoRow.holds Try.pinned (OpenSpec.upto coresMoreSpec)

/-- 'seepagelaw15.CoresTimes', WHERE WHAT IT READS IS OF BULK AT MOST 1048576: true; the input reads as it did. -/
def coresTimesUptoRow : OpenClaim := { program := "ytoiafopndlnknaa", sum := "c73649963215596120661e62dc20709e7f03f0d9e49daad4e70a0b171352f8bc", func := "seepage/seepagelaw15.CoresTimes", spec := "coresTimes", inPlace := ["math/bits.Add64"], unfollowed := true, recurses := true, apart := false, narrowed := true }
def CoresTimesUptoSaid : Prop := coresTimesUptoRow.holds Try.pinned (OpenSpec.upto coresTimesSpec)

/-- 'seepagelaw15.CoresMirror', WHERE WHAT IT READS IS OF BULK AT MOST 1048576: true; the input reads as it did. -/
def coresMirrorUptoRow : OpenClaim := { program := "ytoiafopndlnknaa", sum := "c73649963215596120661e62dc20709e7f03f0d9e49daad4e70a0b171352f8bc", func := "seepage/seepagelaw15.CoresMirror", spec := "coresMirror", inPlace := ["math/bits.Add64"], unfollowed := true, recurses := true, apart := false, narrowed := true }
def CoresMirrorUptoSaid : Prop := coresMirrorUptoRow.holds Try.pinned (OpenSpec.upto coresMirrorSpec)

/-- 'seepagelaw15.CoresNumbers', WHERE WHAT IT READS IS OF BULK AT MOST 1048576: true; the input reads as it did. -/
def coresNumbersUptoRow : OpenClaim := { program := "ytoiafopndlnknaa", sum := "c73649963215596120661e62dc20709e7f03f0d9e49daad4e70a0b171352f8bc", func := "seepage/seepagelaw15.CoresNumbers", spec := "coresNumbers", inPlace := ["math/bits.Add64"], unfollowed := true, recurses := true, apart := false, narrowed := true }
def CoresNumbersUptoSaid : Prop := coresNumbersUptoRow.holds Try.pinned (OpenSpec.upto coresNumbersSpec)

/-- 'seepagelaw15.CoresOrder', WHERE WHAT IT READS IS OF BULK AT MOST 1048576: true; the input reads as it did. -/
def coresOrderUptoRow : OpenClaim := { program := "ytoiafopndlnknaa", sum := "c73649963215596120661e62dc20709e7f03f0d9e49daad4e70a0b171352f8bc", func := "seepage/seepagelaw15.CoresOrder", spec := "coresOrder", inPlace := ["math/bits.Add64"], unfollowed := true, recurses := true, apart := false, narrowed := true }
def CoresOrderUptoSaid : Prop := coresOrderUptoRow.holds Try.pinned (OpenSpec.upto coresOrderSpec)

/-- 'seepagelaw15.CoresColors', WHERE WHAT IT READS IS OF BULK AT MOST 1048576: true; the input reads as it did. -/
def coresColorsUptoRow : OpenClaim := { program := "ytoiafopndlnknaa", sum := "c73649963215596120661e62dc20709e7f03f0d9e49daad4e70a0b171352f8bc", func := "seepage/seepagelaw15.CoresColors", spec := "coresColors", inPlace := ["math/bits.Add64"], unfollowed := true, recurses := true, apart := false, narrowed := true }
def CoresColorsUptoSaid : Prop := coresColorsUptoRow.holds Try.pinned (OpenSpec.upto coresColorsSpec)

/-- 'seepagelaw15.CoresSets', WHERE WHAT IT READS IS OF BULK AT MOST 1048576: true; the input reads as it did. -/
def coresSetsUptoRow : OpenClaim := { program := "ytoiafopndlnknaa", sum := "c73649963215596120661e62dc20709e7f03f0d9e49daad4e70a0b171352f8bc", func := "seepage/seepagelaw15.CoresSets", spec := "coresSets", inPlace := ["math/bits.Add64"], unfollowed := true, recurses := true, apart := false, narrowed := true }
def CoresSetsUptoSaid : Prop := coresSetsUptoRow.holds Try.pinned (OpenSpec.upto coresSetsSpec)

/-- 'seepagelaw15.CoresRaw', WHERE WHAT IT READS IS OF BULK AT MOST 1048576: true; the input reads as it did. -/
def coresRawUptoRow : OpenClaim := { program := "ytoiafopndlnknaa", sum := "c73649963215596120661e62dc20709e7f03f0d9e49daad4e70a0b171352f8bc", func := "seepage/seepagelaw15.CoresRaw", spec := "coresRaw", inPlace := ["math/bits.Add64"], unfollowed := true, recurses := true, apart := false, narrowed := true }
def CoresRawUptoSaid : Prop := coresRawUptoRow.holds Try.pinned (OpenSpec.upto coresRawSpec)

/-- 'seepagelaw15.CoresNil', WHERE WHAT IT READS IS OF BULK AT MOST 1048576: true; the input reads as it did. -/
def coresNilUptoRow : OpenClaim := { program := "ytoiafopndlnknaa", sum := "c73649963215596120661e62dc20709e7f03f0d9e49daad4e70a0b171352f8bc", func := "seepage/seepagelaw15.CoresNil", spec := "coresNil", inPlace := ["math/bits.Add64"], unfollowed := true, recurses := true, apart := false, narrowed := true }
def CoresNilUptoSaid : Prop := coresNilUptoRow.holds Try.pinned (OpenSpec.upto coresNilSpec)

end Rows
end Go.Proofs.Ytoiafopndlnknaa
