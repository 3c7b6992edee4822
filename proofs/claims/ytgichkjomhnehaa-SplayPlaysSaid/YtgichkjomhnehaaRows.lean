/-
  No cell of these rows narrows 'for every input' (looked for: loops, veiled, ifaces, maps, wideKeys, modest, calm, conditions, laid).
  DERIVED. THE GIVEN ROWS OF THIS SEAT. 10 by the template 'for every input the law returns true; each argument reads behind the call as it read before'; 0 by the template 'total and deterministic' (their statements: YtgichkjomhnehaaTotals.lean).
  GIVEN WITH THE SEED: the statements are not yours to turn. If you find one false, say at which input.
  Laid BY PROGRAM, IN A SANDBOX (cutbox-rows.mjs): the forced cells as the released guide's own fill.sh prints them over the translation 59570511e7d13b7e… (all of the seat's roots in one cut). By AI agents, Wed Nov 11 2026. No macro, syntax, notation, axiom, sorry.
-/
import Derived.Test.YtgichkjomhnehaaChecked
import GoSem.Claim
import GoSem.ClaimJoined
import GoSem.ClaimMapViews
import Derived.JoinedTies
import Derived.KernelRfl
namespace Go.Proofs.Ytgichkjomhnehaa
/- THE CELL 'sum', in the pinned program and in every row, IS THE sha256 OF THE DUMP (.gsa) THAT YtgichkjomhnehaaProg.lean LOADS. Nothing in Lean hashes anything: it is a label: what it is worth is what the hold of that sum in a sandbox is worth. -/
noncomputable def Try.pinned : Pinned := { name := "ytgichkjomhnehaa", sum := "59570511e7d13b7e5742a04d0898f3aacd24ea16702a95c0237c566c34aa07ed", checked := Try.checked }
namespace Rows
def none {H : Type} : Left H := { results := [], args := [] }

/-- 'seepagelaw11.SplayCuts': WHATEVER THE INPUT: true; the input reads as it did. -/
def splayCutsSpec : ChangeSpec := { name := "splayCuts", fn := fun _ => fun
  | [d1, d2] => { results := [.lit (.bool true)], args := [d1, d2] }
  | _ => none }
def splayCutsRow : OpenClaim := { program := "ytgichkjomhnehaa", sum := "59570511e7d13b7e5742a04d0898f3aacd24ea16702a95c0237c566c34aa07ed", func := "seepage/seepagelaw11.SplayCuts", spec := "splayCuts", inPlace := ["math/bits.Add64"], unfollowed := true, recurses := true, apart := false }
def SplayCutsSaid : Prop := splayCutsRow.holds Try.pinned (OpenSpec.ofChange splayCutsSpec)

/-- ITS FALSE NEIGHBOUR: 'it returns false'. Refute it at one input. -/
def splayCutsWrong : ChangeSpec := { name := "splayCuts", fn := fun _ => fun
  | [d1, d2] => { results := [.lit (.bool false)], args := [d1, d2] }
  | _ => none }
def SplayCutsWrongFalsely : Prop := splayCutsRow.holds Try.pinned (OpenSpec.ofChange splayCutsWrong)

/-- 'seepagelaw11.SplaySums': WHATEVER THE INPUT: true; the input reads as it did. -/
def splaySumsSpec : ChangeSpec := { name := "splaySums", fn := fun _ => fun
  | [d1, d2, d3, d4] => { results := [.lit (.bool true)], args := [d1, d2, d3, d4] }
  | _ => none }
def splaySumsRow : OpenClaim := { program := "ytgichkjomhnehaa", sum := "59570511e7d13b7e5742a04d0898f3aacd24ea16702a95c0237c566c34aa07ed", func := "seepage/seepagelaw11.SplaySums", spec := "splaySums", inPlace := ["math/bits.Add64"], unfollowed := true, recurses := true, apart := false }
def SplaySumsSaid : Prop := splaySumsRow.holds Try.pinned (OpenSpec.ofChange splaySumsSpec)

/-- ITS FALSE NEIGHBOUR: 'it returns false'. Refute it at one input. -/
def splaySumsWrong : ChangeSpec := { name := "splaySums", fn := fun _ => fun
  | [d1, d2, d3, d4] => { results := [.lit (.bool false)], args := [d1, d2, d3, d4] }
  | _ => none }
def SplaySumsWrongFalsely : Prop := splaySumsRow.holds Try.pinned (OpenSpec.ofChange splaySumsWrong)

/-- 'seepagelaw11.SplayPlaces': WHATEVER THE INPUT: true; the input reads as it did. -/
def splayPlacesSpec : ChangeSpec := { name := "splayPlaces", fn := fun _ => fun
  | [d] => { results := [.lit (.bool true)], args := [d] }
  | _ => none }
def splayPlacesRow : OpenClaim := { program := "ytgichkjomhnehaa", sum := "59570511e7d13b7e5742a04d0898f3aacd24ea16702a95c0237c566c34aa07ed", func := "seepage/seepagelaw11.SplayPlaces", spec := "splayPlaces", inPlace := ["math/bits.Add64"], unfollowed := true, recurses := true, apart := false }
def SplayPlacesSaid : Prop := splayPlacesRow.holds Try.pinned (OpenSpec.ofChange splayPlacesSpec)

/-- ITS FALSE NEIGHBOUR: 'it returns false'. Refute it at one input. -/
def splayPlacesWrong : ChangeSpec := { name := "splayPlaces", fn := fun _ => fun
  | [d] => { results := [.lit (.bool false)], args := [d] }
  | _ => none }
def SplayPlacesWrongFalsely : Prop := splayPlacesRow.holds Try.pinned (OpenSpec.ofChange splayPlacesWrong)

/-- 'seepagelaw11.SplayTurns': WHATEVER THE INPUT: true; the input reads as it did. -/
def splayTurnsSpec : ChangeSpec := { name := "splayTurns", fn := fun _ => fun
  | [d1, d2, d3] => { results := [.lit (.bool true)], args := [d1, d2, d3] }
  | _ => none }
def splayTurnsRow : OpenClaim := { program := "ytgichkjomhnehaa", sum := "59570511e7d13b7e5742a04d0898f3aacd24ea16702a95c0237c566c34aa07ed", func := "seepage/seepagelaw11.SplayTurns", spec := "splayTurns", inPlace := ["math/bits.Add64"], unfollowed := true, recurses := true, apart := false }
def SplayTurnsSaid : Prop := splayTurnsRow.holds Try.pinned (OpenSpec.ofChange splayTurnsSpec)

/-- ITS FALSE NEIGHBOUR: 'it returns false'. Refute it at one input. -/
def splayTurnsWrong : ChangeSpec := { name := "splayTurns", fn := fun _ => fun
  | [d1, d2, d3] => { results := [.lit (.bool false)], args := [d1, d2, d3] }
  | _ => none }
def SplayTurnsWrongFalsely : Prop := splayTurnsRow.holds Try.pinned (OpenSpec.ofChange splayTurnsWrong)

/-- 'seepagelaw11.SplayMins': WHATEVER THE INPUT: true; the input reads as it did. -/
def splayMinsSpec : ChangeSpec := { name := "splayMins", fn := fun _ => fun
  | [d] => { results := [.lit (.bool true)], args := [d] }
  | _ => none }
def splayMinsRow : OpenClaim := { program := "ytgichkjomhnehaa", sum := "59570511e7d13b7e5742a04d0898f3aacd24ea16702a95c0237c566c34aa07ed", func := "seepage/seepagelaw11.SplayMins", spec := "splayMins", inPlace := ["math/bits.Add64"], unfollowed := true, recurses := true, apart := false }
def SplayMinsSaid : Prop := splayMinsRow.holds Try.pinned (OpenSpec.ofChange splayMinsSpec)

/-- ITS FALSE NEIGHBOUR: 'it returns false'. Refute it at one input. -/
def splayMinsWrong : ChangeSpec := { name := "splayMins", fn := fun _ => fun
  | [d] => { results := [.lit (.bool false)], args := [d] }
  | _ => none }
def SplayMinsWrongFalsely : Prop := splayMinsRow.holds Try.pinned (OpenSpec.ofChange splayMinsWrong)

/-- 'seepagelaw11.SplayCopies': WHATEVER THE INPUT: true; the input reads as it did. -/
def splayCopiesSpec : ChangeSpec := { name := "splayCopies", fn := fun _ => fun
  | [d1, d2] => { results := [.lit (.bool true)], args := [d1, d2] }
  | _ => none }
def splayCopiesRow : OpenClaim := { program := "ytgichkjomhnehaa", sum := "59570511e7d13b7e5742a04d0898f3aacd24ea16702a95c0237c566c34aa07ed", func := "seepage/seepagelaw11.SplayCopies", spec := "splayCopies", inPlace := ["math/bits.Add64"], unfollowed := true, recurses := true, apart := false }
def SplayCopiesSaid : Prop := splayCopiesRow.holds Try.pinned (OpenSpec.ofChange splayCopiesSpec)

/-- ITS FALSE NEIGHBOUR: 'it returns false'. Refute it at one input. -/
def splayCopiesWrong : ChangeSpec := { name := "splayCopies", fn := fun _ => fun
  | [d1, d2] => { results := [.lit (.bool false)], args := [d1, d2] }
  | _ => none }
def SplayCopiesWrongFalsely : Prop := splayCopiesRow.holds Try.pinned (OpenSpec.ofChange splayCopiesWrong)

/-- 'seepagelaw11.SplayNews': WHATEVER THE INPUT: true; the input reads as it did. -/
def splayNewsSpec : ChangeSpec := { name := "splayNews", fn := fun _ => fun
  | [d1, d2] => { results := [.lit (.bool true)], args := [d1, d2] }
  | _ => none }
def splayNewsRow : OpenClaim := { program := "ytgichkjomhnehaa", sum := "59570511e7d13b7e5742a04d0898f3aacd24ea16702a95c0237c566c34aa07ed", func := "seepage/seepagelaw11.SplayNews", spec := "splayNews", inPlace := ["math/bits.Add64"], unfollowed := true, recurses := true, apart := false }
def SplayNewsSaid : Prop := splayNewsRow.holds Try.pinned (OpenSpec.ofChange splayNewsSpec)

/-- ITS FALSE NEIGHBOUR: 'it returns false'. Refute it at one input. -/
def splayNewsWrong : ChangeSpec := { name := "splayNews", fn := fun _ => fun
  | [d1, d2] => { results := [.lit (.bool false)], args := [d1, d2] }
  | _ => none }
def SplayNewsWrongFalsely : Prop := splayNewsRow.holds Try.pinned (OpenSpec.ofChange splayNewsWrong)

/-- 'seepagelaw11.SplayPlays': WHATEVER THE INPUT: true; the input reads as it did. -/
def splayPlaysSpec : ChangeSpec := { name := "splayPlays", fn := fun _ => fun
  | [d1, d2] => { results := [.lit (.bool true)], args := [d1, d2] }
  | _ => none }
def splayPlaysRow : OpenClaim := { program := "ytgichkjomhnehaa", sum := "59570511e7d13b7e5742a04d0898f3aacd24ea16702a95c0237c566c34aa07ed", func := "seepage/seepagelaw11.SplayPlays", spec := "splayPlays", inPlace := ["math/bits.Add64"], unfollowed := true, recurses := true, apart := false }
def SplayPlaysSaid : Prop := splayPlaysRow.holds Try.pinned (OpenSpec.ofChange splayPlaysSpec)

/-- ITS FALSE NEIGHBOUR: 'it returns false'. Refute it at one input. -/
def splayPlaysWrong : ChangeSpec := { name := "splayPlays", fn := fun _ => fun
  | [d1, d2] => { results := [.lit (.bool false)], args := [d1, d2] }
  | _ => none }
def SplayPlaysWrongFalsely : Prop := splayPlaysRow.holds Try.pinned (OpenSpec.ofChange splayPlaysWrong)

/-- 'seepagelaw11.SplayNil': WHATEVER THE INPUT: true; the input reads as it did. -/
def splayNilSpec : ChangeSpec := { name := "splayNil", fn := fun _ => fun
  | [d] => { results := [.lit (.bool true)], args := [d] }
  | _ => none }
def splayNilRow : OpenClaim := { program := "ytgichkjomhnehaa", sum := "59570511e7d13b7e5742a04d0898f3aacd24ea16702a95c0237c566c34aa07ed", func := "seepage/seepagelaw11.SplayNil", spec := "splayNil", inPlace := ["math/bits.Add64"], unfollowed := true, recurses := true, apart := false }
def SplayNilSaid : Prop := splayNilRow.holds Try.pinned (OpenSpec.ofChange splayNilSpec)

/-- ITS FALSE NEIGHBOUR: 'it returns false'. Refute it at one input. -/
def splayNilWrong : ChangeSpec := { name := "splayNil", fn := fun _ => fun
  | [d] => { results := [.lit (.bool false)], args := [d] }
  | _ => none }
def SplayNilWrongFalsely : Prop := splayNilRow.holds Try.pinned (OpenSpec.ofChange splayNilWrong)

/-- 'seepagelaw11.SplayAsks': WHATEVER THE INPUT: true; the input reads as it did. -/
def splayAsksSpec : ChangeSpec := { name := "splayAsks", fn := fun _ => fun
  | [d] => { results := [.lit (.bool true)], args := [d] }
  | _ => none }
def splayAsksRow : OpenClaim := { program := "ytgichkjomhnehaa", sum := "59570511e7d13b7e5742a04d0898f3aacd24ea16702a95c0237c566c34aa07ed", func := "seepage/seepagelaw11.SplayAsks", spec := "splayAsks", inPlace := ["math/bits.Add64"], unfollowed := true, recurses := true, apart := false }
def SplayAsksSaid : Prop := splayAsksRow.holds Try.pinned (OpenSpec.ofChange splayAsksSpec)

/-- ITS FALSE NEIGHBOUR: 'it returns false'. Refute it at one input. -/
def splayAsksWrong : ChangeSpec := { name := "splayAsks", fn := fun _ => fun
  | [d] => { results := [.lit (.bool false)], args := [d] }
  | _ => none }
def SplayAsksWrongFalsely : Prop := splayAsksRow.holds Try.pinned (OpenSpec.ofChange splayAsksWrong)

/- THE SECOND FORM. 'bulk': how many values and letters a reading holds, each counted each time it is reached (what is shared counts as often as it is met; a slice's spare places count too). A statement '..UptoSaid' is the law's where the arguments, and the package variables that the reading takes, are together of bulk at most 1048576: NARROWER than '..Said'. Prove '..Said' where nothing that the law and all that it calls make is longer than what came in: it says more and counts as full. Else prove '..UptoSaid'. A law counts once. -/
mutual
def uptoBulk {H : Type} : DataW H → Nat
  | .lit (.string bytes) => bytes.length + 1
  | .lit _ => 1
  | .nil => 1
  | .ptr d => uptoBulk d + 1
  | .slice elems spare => uptoBulkAll elems + uptoBulkAll spare + 1
  | .agg parts => uptoBulkAll parts + 1
  | .iface _ d => uptoBulk d + 1
  | .map entries => uptoBulkEntries entries + 1
  | .held _ => 1
def uptoBulkAll {H : Type} : List (DataW H) → Nat
  | [] => 0
  | d :: r => uptoBulk d + uptoBulkAll r
def uptoBulkEntries {H : Type} : List (Lit × DataW H) → Nat
  | [] => 0
  | x :: r => uptoBulkEntry x + uptoBulkEntries r
def uptoBulkEntry {H : Type} : Lit × DataW H → Nat
  | (.string bytes, d) => bytes.length + uptoBulk d + 1
  | (_, d) => uptoBulk d + 1
 end
def uptoSmall : (H : Type) → List (DataW H) → Bool := fun _ ds => decide (uptoBulkAll ds ≤ 1048576)
def OpenSpec.upto (s : _root_.Go.ChangeSpec) : _root_.Go.OpenSpec := { _root_.Go.OpenSpec.ofChange s with cond := some uptoSmall }

/-- 'seepagelaw11.SplayCuts', WHERE WHAT IT READS IS OF BULK AT MOST 1048576: true; the input reads as it did. -/
def splayCutsUptoRow : OpenClaim := { program := "ytgichkjomhnehaa", sum := "59570511e7d13b7e5742a04d0898f3aacd24ea16702a95c0237c566c34aa07ed", func := "seepage/seepagelaw11.SplayCuts", spec := "splayCuts", inPlace := ["math/bits.Add64"], unfollowed := true, recurses := true, apart := false, narrowed := true }
def SplayCutsUptoSaid : Prop := splayCutsUptoRow.holds Try.pinned (OpenSpec.upto splayCutsSpec)

/-- 'seepagelaw11.SplaySums', WHERE WHAT IT READS IS OF BULK AT MOST 1048576: true; the input reads as it did. -/
def splaySumsUptoRow : OpenClaim := { program := "ytgichkjomhnehaa", sum := "59570511e7d13b7e5742a04d0898f3aacd24ea16702a95c0237c566c34aa07ed", func := "seepage/seepagelaw11.SplaySums", spec := "splaySums", inPlace := ["math/bits.Add64"], unfollowed := true, recurses := true, apart := false, narrowed := true }
def SplaySumsUptoSaid : Prop := splaySumsUptoRow.holds Try.pinned (OpenSpec.upto splaySumsSpec)

/-- 'seepagelaw11.SplayPlaces', WHERE WHAT IT READS IS OF BULK AT MOST 1048576: true; the input reads as it did. -/
def splayPlacesUptoRow : OpenClaim := { program := "ytgichkjomhnehaa", sum := "59570511e7d13b7e5742a04d0898f3aacd24ea16702a95c0237c566c34aa07ed", func := "seepage/seepagelaw11.SplayPlaces", spec := "splayPlaces", inPlace := ["math/bits.Add64"], unfollowed := true, recurses := true, apart := false, narrowed := true }
def SplayPlacesUptoSaid : Prop := splayPlacesUptoRow.holds Try.pinned (OpenSpec.upto splayPlacesSpec)

/-- 'seepagelaw11.SplayTurns', WHERE WHAT IT READS IS OF BULK AT MOST 1048576: true; the input reads as it did. -/
def splayTurnsUptoRow : OpenClaim := { program := "ytgichkjomhnehaa", sum := "59570511e7d13b7e5742a04d0898f3aacd24ea16702a95c0237c566c34aa07ed", func := "seepage/seepagelaw11.SplayTurns", spec := "splayTurns", inPlace := ["math/bits.Add64"], unfollowed := true, recurses := true, apart := false, narrowed := true }
def SplayTurnsUptoSaid : Prop := splayTurnsUptoRow.holds Try.pinned (OpenSpec.upto splayTurnsSpec)

/-- 'seepagelaw11.SplayMins', WHERE WHAT IT READS IS OF BULK AT MOST 1048576: true; the input reads as it did. -/
def splayMinsUptoRow : OpenClaim := { program := "ytgichkjomhnehaa", sum := "59570511e7d13b7e5742a04d0898f3aacd24ea16702a95c0237c566c34aa07ed", func := "seepage/seepagelaw11.SplayMins", spec := "splayMins", inPlace := ["math/bits.Add64"], unfollowed := true, recurses := true, apart := false, narrowed := true }
def SplayMinsUptoSaid : Prop := splayMinsUptoRow.holds Try.pinned (OpenSpec.upto splayMinsSpec)

/-- 'seepagelaw11.SplayCopies', WHERE WHAT IT READS IS OF BULK AT MOST 1048576: true; the input reads as it did. -/
def splayCopiesUptoRow : OpenClaim := { program := "ytgichkjomhnehaa", sum := "59570511e7d13b7e5742a04d0898f3aacd24ea16702a95c0237c566c34aa07ed", func := "seepage/seepagelaw11.SplayCopies", spec := "splayCopies", inPlace := ["math/bits.Add64"], unfollowed := true, recurses := true, apart := false, narrowed := true }
def SplayCopiesUptoSaid : Prop := splayCopiesUptoRow.holds Try.pinned (OpenSpec.upto splayCopiesSpec)

/-- 'seepagelaw11.SplayNews', WHERE WHAT IT READS IS OF BULK AT MOST 1048576: true; the input reads as it did. -/
def splayNewsUptoRow : OpenClaim := { program := "ytgichkjomhnehaa", sum := "59570511e7d13b7e5742a04d0898f3aacd24ea16702a95c0237c566c34aa07ed", func := "seepage/seepagelaw11.SplayNews", spec := "splayNews", inPlace := ["math/bits.Add64"], unfollowed := true, recurses := true, apart := false, narrowed := true }
def SplayNewsUptoSaid : Prop := splayNewsUptoRow.holds Try.pinned (OpenSpec.upto splayNewsSpec)

/-- 'seepagelaw11.SplayPlays', WHERE WHAT IT READS IS OF BULK AT MOST 1048576: true; the input reads as it did. -/
def splayPlaysUptoRow : OpenClaim := { program := "ytgichkjomhnehaa", sum := "59570511e7d13b7e5742a04d0898f3aacd24ea16702a95c0237c566c34aa07ed", func := "seepage/seepagelaw11.SplayPlays", spec := "splayPlays", inPlace := ["math/bits.Add64"], unfollowed := true, recurses := true, apart := false, narrowed := true }
def SplayPlaysUptoSaid : Prop := splayPlaysUptoRow.holds Try.pinned (OpenSpec.upto splayPlaysSpec)

/-- 'seepagelaw11.SplayNil', WHERE WHAT IT READS IS OF BULK AT MOST 1048576: true; the input reads as it did. -/
def splayNilUptoRow : OpenClaim := { program := "ytgichkjomhnehaa", sum := "59570511e7d13b7e5742a04d0898f3aacd24ea16702a95c0237c566c34aa07ed", func := "seepage/seepagelaw11.SplayNil", spec := "splayNil", inPlace := ["math/bits.Add64"], unfollowed := true, recurses := true, apart := false, narrowed := true }
def SplayNilUptoSaid : Prop := splayNilUptoRow.holds Try.pinned (OpenSpec.upto splayNilSpec)

/-- 'seepagelaw11.SplayAsks', WHERE WHAT IT READS IS OF BULK AT MOST 1048576: true; the input reads as it did. -/
def splayAsksUptoRow : OpenClaim := { program := "ytgichkjomhnehaa", sum := "59570511e7d13b7e5742a04d0898f3aacd24ea16702a95c0237c566c34aa07ed", func := "seepage/seepagelaw11.SplayAsks", spec := "splayAsks", inPlace := ["math/bits.Add64"], unfollowed := true, recurses := true, apart := false, narrowed := true }
def SplayAsksUptoSaid : Prop := splayAsksUptoRow.holds Try.pinned (OpenSpec.upto splayAsksSpec)

end Rows
end Go.Proofs.Ytgichkjomhnehaa
