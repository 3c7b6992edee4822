/-
  No cell of these rows narrows 'for every input' (looked for: loops, veiled, ifaces, maps, wideKeys, modest, calm, conditions, laid).
  DERIVED. THE GIVEN ROWS OF THIS SEAT. 11 by the template 'for every input the law returns true; each argument reads behind the call as it read before'; 0 by the template 'total and deterministic' (their statements: YtcmkjbliiggcbaaTotals.lean).
  GIVEN WITH THE SEED: the statements are not yours to turn. If you find one false, say at which input.
  Laid BY PROGRAM, IN A SANDBOX (cutbox-rows.mjs): the forced cells as the released guide's own fill.sh prints them over the translation b7386012aafdfff1… (all of the seat's roots in one cut). By AI agents, Wed Nov 11 2026. No macro, syntax, notation, axiom, sorry.
-/
import Derived.Test.YtcmkjbliiggcbaaChecked
import GoSem.Claim
import GoSem.ClaimJoined
import GoSem.ClaimMapViews
import Derived.JoinedTies
import Derived.KernelRfl
namespace Go.Proofs.Ytcmkjbliiggcbaa
/- THE CELL 'sum', in the pinned program and in every row, IS THE sha256 OF THE DUMP (.gsa) THAT YtcmkjbliiggcbaaProg.lean LOADS. Nothing in Lean hashes anything: it is a label: what it is worth is what the hold of that sum in a sandbox is worth. -/
noncomputable def Try.pinned : Pinned := { name := "ytcmkjbliiggcbaa", sum := "b7386012aafdfff1c2576062f52da6f718749914f420f13d378bc3daf3b35ca4", checked := Try.checked }
namespace Rows
def none {H : Type} : Left H := { results := [], args := [] }

/-- 'seepagelaw28.HistoQuantiles': WHATEVER THE INPUT: true; the input reads as it did. -/
def histoQuantilesSpec : ChangeSpec := { name := "histoQuantiles", fn := fun _ => fun
  | [d1, d2, d3] => { results := [.lit (.bool true)], args := [d1, d2, d3] }
  | _ => none }
def histoQuantilesRow : OpenClaim := { program := "ytcmkjbliiggcbaa", sum := "b7386012aafdfff1c2576062f52da6f718749914f420f13d378bc3daf3b35ca4", func := "seepage/seepagelaw28.HistoQuantiles", spec := "histoQuantiles", unfollowed := true, recurses := true, apart := false }
def HistoQuantilesSaid : Prop := histoQuantilesRow.holds Try.pinned (OpenSpec.ofChange histoQuantilesSpec)

/-- ITS FALSE NEIGHBOUR: 'it returns false'. Refute it at one input. -/
def histoQuantilesWrong : ChangeSpec := { name := "histoQuantiles", fn := fun _ => fun
  | [d1, d2, d3] => { results := [.lit (.bool false)], args := [d1, d2, d3] }
  | _ => none }
def HistoQuantilesWrongFalsely : Prop := histoQuantilesRow.holds Try.pinned (OpenSpec.ofChange histoQuantilesWrong)

/-- 'seepagelaw28.HistoBuckets': WHATEVER THE INPUT: true; the input reads as it did. -/
def histoBucketsSpec : ChangeSpec := { name := "histoBuckets", fn := fun _ => fun
  | [d1, d2] => { results := [.lit (.bool true)], args := [d1, d2] }
  | _ => none }
def histoBucketsRow : OpenClaim := { program := "ytcmkjbliiggcbaa", sum := "b7386012aafdfff1c2576062f52da6f718749914f420f13d378bc3daf3b35ca4", func := "seepage/seepagelaw28.HistoBuckets", spec := "histoBuckets", unfollowed := true, recurses := true, apart := false }
def HistoBucketsSaid : Prop := histoBucketsRow.holds Try.pinned (OpenSpec.ofChange histoBucketsSpec)

/-- ITS FALSE NEIGHBOUR: 'it returns false'. Refute it at one input. -/
def histoBucketsWrong : ChangeSpec := { name := "histoBuckets", fn := fun _ => fun
  | [d1, d2] => { results := [.lit (.bool false)], args := [d1, d2] }
  | _ => none }
def HistoBucketsWrongFalsely : Prop := histoBucketsRow.holds Try.pinned (OpenSpec.ofChange histoBucketsWrong)

/-- 'seepagelaw28.HistoTotals': WHATEVER THE INPUT: true; the input reads as it did. -/
def histoTotalsSpec : ChangeSpec := { name := "histoTotals", fn := fun _ => fun
  | [d1, d2] => { results := [.lit (.bool true)], args := [d1, d2] }
  | _ => none }
def histoTotalsRow : OpenClaim := { program := "ytcmkjbliiggcbaa", sum := "b7386012aafdfff1c2576062f52da6f718749914f420f13d378bc3daf3b35ca4", func := "seepage/seepagelaw28.HistoTotals", spec := "histoTotals", unfollowed := true, recurses := true, apart := false }
def HistoTotalsSaid : Prop := histoTotalsRow.holds Try.pinned (OpenSpec.ofChange histoTotalsSpec)

/-- ITS FALSE NEIGHBOUR: 'it returns false'. Refute it at one input. -/
def histoTotalsWrong : ChangeSpec := { name := "histoTotals", fn := fun _ => fun
  | [d1, d2] => { results := [.lit (.bool false)], args := [d1, d2] }
  | _ => none }
def HistoTotalsWrongFalsely : Prop := histoTotalsRow.holds Try.pinned (OpenSpec.ofChange histoTotalsWrong)

/-- 'seepagelaw28.HistoRanks': WHATEVER THE INPUT: true; the input reads as it did. -/
def histoRanksSpec : ChangeSpec := { name := "histoRanks", fn := fun _ => fun
  | [d1, d2, d3] => { results := [.lit (.bool true)], args := [d1, d2, d3] }
  | _ => none }
def histoRanksRow : OpenClaim := { program := "ytcmkjbliiggcbaa", sum := "b7386012aafdfff1c2576062f52da6f718749914f420f13d378bc3daf3b35ca4", func := "seepage/seepagelaw28.HistoRanks", spec := "histoRanks", unfollowed := true, recurses := true, apart := false }
def HistoRanksSaid : Prop := histoRanksRow.holds Try.pinned (OpenSpec.ofChange histoRanksSpec)

/-- ITS FALSE NEIGHBOUR: 'it returns false'. Refute it at one input. -/
def histoRanksWrong : ChangeSpec := { name := "histoRanks", fn := fun _ => fun
  | [d1, d2, d3] => { results := [.lit (.bool false)], args := [d1, d2, d3] }
  | _ => none }
def HistoRanksWrongFalsely : Prop := histoRanksRow.holds Try.pinned (OpenSpec.ofChange histoRanksWrong)

/-- 'seepagelaw28.HistoNews': WHATEVER THE INPUT: true; the input reads as it did. -/
def histoNewsSpec : ChangeSpec := { name := "histoNews", fn := fun _ => fun
  | [d1, d2] => { results := [.lit (.bool true)], args := [d1, d2] }
  | _ => none }
def histoNewsRow : OpenClaim := { program := "ytcmkjbliiggcbaa", sum := "b7386012aafdfff1c2576062f52da6f718749914f420f13d378bc3daf3b35ca4", func := "seepage/seepagelaw28.HistoNews", spec := "histoNews", unfollowed := true, recurses := true, apart := false }
def HistoNewsSaid : Prop := histoNewsRow.holds Try.pinned (OpenSpec.ofChange histoNewsSpec)

/-- ITS FALSE NEIGHBOUR: 'it returns false'. Refute it at one input. -/
def histoNewsWrong : ChangeSpec := { name := "histoNews", fn := fun _ => fun
  | [d1, d2] => { results := [.lit (.bool false)], args := [d1, d2] }
  | _ => none }
def HistoNewsWrongFalsely : Prop := histoNewsRow.holds Try.pinned (OpenSpec.ofChange histoNewsWrong)

/-- 'seepagelaw28.HistoPlays': WHATEVER THE INPUT: true; the input reads as it did. -/
def histoPlaysSpec : ChangeSpec := { name := "histoPlays", fn := fun _ => fun
  | [d1, d2, d3] => { results := [.lit (.bool true)], args := [d1, d2, d3] }
  | _ => none }
def histoPlaysRow : OpenClaim := { program := "ytcmkjbliiggcbaa", sum := "b7386012aafdfff1c2576062f52da6f718749914f420f13d378bc3daf3b35ca4", func := "seepage/seepagelaw28.HistoPlays", spec := "histoPlays", unfollowed := true, recurses := true, apart := false }
def HistoPlaysSaid : Prop := histoPlaysRow.holds Try.pinned (OpenSpec.ofChange histoPlaysSpec)

/-- ITS FALSE NEIGHBOUR: 'it returns false'. Refute it at one input. -/
def histoPlaysWrong : ChangeSpec := { name := "histoPlays", fn := fun _ => fun
  | [d1, d2, d3] => { results := [.lit (.bool false)], args := [d1, d2, d3] }
  | _ => none }
def HistoPlaysWrongFalsely : Prop := histoPlaysRow.holds Try.pinned (OpenSpec.ofChange histoPlaysWrong)

/-- 'seepagelaw28.HistoMerges': WHATEVER THE INPUT: true; the input reads as it did. -/
def histoMergesSpec : ChangeSpec := { name := "histoMerges", fn := fun _ => fun
  | [d1, d2] => { results := [.lit (.bool true)], args := [d1, d2] }
  | _ => none }
def histoMergesRow : OpenClaim := { program := "ytcmkjbliiggcbaa", sum := "b7386012aafdfff1c2576062f52da6f718749914f420f13d378bc3daf3b35ca4", func := "seepage/seepagelaw28.HistoMerges", spec := "histoMerges", unfollowed := true, recurses := true, apart := false }
def HistoMergesSaid : Prop := histoMergesRow.holds Try.pinned (OpenSpec.ofChange histoMergesSpec)

/-- ITS FALSE NEIGHBOUR: 'it returns false'. Refute it at one input. -/
def histoMergesWrong : ChangeSpec := { name := "histoMerges", fn := fun _ => fun
  | [d1, d2] => { results := [.lit (.bool false)], args := [d1, d2] }
  | _ => none }
def HistoMergesWrongFalsely : Prop := histoMergesRow.holds Try.pinned (OpenSpec.ofChange histoMergesWrong)

/-- 'seepagelaw28.HistoCoarse': WHATEVER THE INPUT: true; the input reads as it did. -/
def histoCoarseSpec : ChangeSpec := { name := "histoCoarse", fn := fun _ => fun
  | [d1, d2, d3] => { results := [.lit (.bool true)], args := [d1, d2, d3] }
  | _ => none }
def histoCoarseRow : OpenClaim := { program := "ytcmkjbliiggcbaa", sum := "b7386012aafdfff1c2576062f52da6f718749914f420f13d378bc3daf3b35ca4", func := "seepage/seepagelaw28.HistoCoarse", spec := "histoCoarse", unfollowed := true, recurses := true, apart := false }
def HistoCoarseSaid : Prop := histoCoarseRow.holds Try.pinned (OpenSpec.ofChange histoCoarseSpec)

/-- ITS FALSE NEIGHBOUR: 'it returns false'. Refute it at one input. -/
def histoCoarseWrong : ChangeSpec := { name := "histoCoarse", fn := fun _ => fun
  | [d1, d2, d3] => { results := [.lit (.bool false)], args := [d1, d2, d3] }
  | _ => none }
def HistoCoarseWrongFalsely : Prop := histoCoarseRow.holds Try.pinned (OpenSpec.ofChange histoCoarseWrong)

/-- 'seepagelaw28.HistoOrder': WHATEVER THE INPUT: true; the input reads as it did. -/
def histoOrderSpec : ChangeSpec := { name := "histoOrder", fn := fun _ => fun
  | [d1, d2, d3] => { results := [.lit (.bool true)], args := [d1, d2, d3] }
  | _ => none }
def histoOrderRow : OpenClaim := { program := "ytcmkjbliiggcbaa", sum := "b7386012aafdfff1c2576062f52da6f718749914f420f13d378bc3daf3b35ca4", func := "seepage/seepagelaw28.HistoOrder", spec := "histoOrder", unfollowed := true, recurses := true, apart := false }
def HistoOrderSaid : Prop := histoOrderRow.holds Try.pinned (OpenSpec.ofChange histoOrderSpec)

/-- ITS FALSE NEIGHBOUR: 'it returns false'. Refute it at one input. -/
def histoOrderWrong : ChangeSpec := { name := "histoOrder", fn := fun _ => fun
  | [d1, d2, d3] => { results := [.lit (.bool false)], args := [d1, d2, d3] }
  | _ => none }
def HistoOrderWrongFalsely : Prop := histoOrderRow.holds Try.pinned (OpenSpec.ofChange histoOrderWrong)

/-- 'seepagelaw28.HistoCoarser': WHATEVER THE INPUT: true; the input reads as it did. -/
def histoCoarserSpec : ChangeSpec := { name := "histoCoarser", fn := fun _ => fun
  | [d1, d2, d3] => { results := [.lit (.bool true)], args := [d1, d2, d3] }
  | _ => none }
def histoCoarserRow : OpenClaim := { program := "ytcmkjbliiggcbaa", sum := "b7386012aafdfff1c2576062f52da6f718749914f420f13d378bc3daf3b35ca4", func := "seepage/seepagelaw28.HistoCoarser", spec := "histoCoarser", unfollowed := true, recurses := true, apart := false }
def HistoCoarserSaid : Prop := histoCoarserRow.holds Try.pinned (OpenSpec.ofChange histoCoarserSpec)

/-- ITS FALSE NEIGHBOUR: 'it returns false'. Refute it at one input. -/
def histoCoarserWrong : ChangeSpec := { name := "histoCoarser", fn := fun _ => fun
  | [d1, d2, d3] => { results := [.lit (.bool false)], args := [d1, d2, d3] }
  | _ => none }
def HistoCoarserWrongFalsely : Prop := histoCoarserRow.holds Try.pinned (OpenSpec.ofChange histoCoarserWrong)

/-- 'seepagelaw28.HistoNil': WHATEVER THE INPUT: true; the input reads as it did. -/
def histoNilSpec : ChangeSpec := { name := "histoNil", fn := fun _ => fun
  | [d1, d2, d3] => { results := [.lit (.bool true)], args := [d1, d2, d3] }
  | _ => none }
def histoNilRow : OpenClaim := { program := "ytcmkjbliiggcbaa", sum := "b7386012aafdfff1c2576062f52da6f718749914f420f13d378bc3daf3b35ca4", func := "seepage/seepagelaw28.HistoNil", spec := "histoNil", unfollowed := true, recurses := true, apart := false }
def HistoNilSaid : Prop := histoNilRow.holds Try.pinned (OpenSpec.ofChange histoNilSpec)

/-- ITS FALSE NEIGHBOUR: 'it returns false'. Refute it at one input. -/
def histoNilWrong : ChangeSpec := { name := "histoNil", fn := fun _ => fun
  | [d1, d2, d3] => { results := [.lit (.bool false)], args := [d1, d2, d3] }
  | _ => none }
def HistoNilWrongFalsely : Prop := histoNilRow.holds Try.pinned (OpenSpec.ofChange histoNilWrong)

/- THE SECOND FORM. 'bulk': how many values and letters a reading holds, each counted each time it is reached (what is shared counts as often as it is met; a slice's spare places count too). A statement '..UptoSaid' is the law's where the arguments, and the package variables that the reading takes, are together of bulk at most 1048576: NARROWER than '..Said'. Prove '..Said' where nothing that the law and all that it calls make is longer than what came in: it says more and counts as full. Else prove '..UptoSaid'. A law counts once. -/
mutual
def uptoBulk {H : Type} : DataW H → Nat
  | .lit (.string bytes) => bytes.length + 1
  | .lit _ => 1
  | .nil => 1
  | .ptr d => uptoBulk d + 1
  | .slice elems spare => uptoBulkAll elems + uptoBulkAll spare + 1
  | .agg parts => uptoBulkAll parts + 1
  | .iface _ d => uptoBulk d + 1
  | .map entries => uptoBulkEntries entries + 1
  | .held _ => 1
def uptoBulkAll {H : Type} : List (DataW H) → Nat
  | [] => 0
  | d :: r => uptoBulk d + uptoBulkAll r
def uptoBulkEntries {H : Type} : List (Lit × DataW H) → Nat
  | [] => 0
  | x :: r => uptoBulkEntry x + uptoBulkEntries r
def uptoBulkEntry {H : Type} : Lit × DataW H → Nat
  | (.string bytes, d) => bytes.length + uptoBulk d + 1
  | (_, d) => uptoBulk d + 1
 end
def uptoSmall : (H : Type) → List (DataW H) → Bool := fun _ ds => decide (uptoBulkAll ds ≤ 1048576)
def OpenSpec.upto (s : _root_.Go.ChangeSpec) : _root_.Go.OpenSpec := { _root_.Go.OpenSpec.ofChange s with cond := some uptoSmall }

/-- 'seepagelaw28.HistoQuantiles', WHERE WHAT IT READS IS OF BULK AT MOST 1048576: true; the input reads as it did. -/
def histoQuantilesUptoRow : OpenClaim := { program := "ytcmkjbliiggcbaa", sum := "b7386012aafdfff1c2576062f52da6f718749914f420f13d378bc3daf3b35ca4", func := "seepage/seepagelaw28.HistoQuantiles", spec := "histoQuantiles", unfollowed := true, recurses := true, apart := false, narrowed := true }
def HistoQuantilesUptoSaid : Prop := histoQuantilesUptoRow.holds Try.pinned (OpenSpec.upto histoQuantilesSpec)

/-- 'seepagelaw28.HistoBuckets', WHERE WHAT IT READS IS OF BULK AT MOST 1048576: true; the input reads as it did. -/
def histoBucketsUptoRow : OpenClaim := { program := "ytcmkjbliiggcbaa", sum := "b7386012aafdfff1c2576062f52da6f718749914f420f13d378bc3daf3b35ca4", func := "seepage/seepagelaw28.HistoBuckets", spec := "histoBuckets", unfollowed := true, recurses := true, apart := false, narrowed := true }
def HistoBucketsUptoSaid : Prop := histoBucketsUptoRow.holds Try.pinned (OpenSpec.upto histoBucketsSpec)

/-- 'seepagelaw28.HistoTotals', WHERE WHAT IT READS IS OF BULK AT MOST 1048576: true; the input reads as it did. -/
def histoTotalsUptoRow : OpenClaim := { program := "ytcmkjbliiggcbaa", sum := "b7386012aafdfff1c2576062f52da6f718749914f420f13d378bc3daf3b35ca4", func := "seepage/seepagelaw28.HistoTotals", spec := "histoTotals", unfollowed := true, recurses := true, apart := false, narrowed := true }
def HistoTotalsUptoSaid : Prop := histoTotalsUptoRow.holds Try.pinned (OpenSpec.upto histoTotalsSpec)

/-- 'seepagelaw28.HistoRanks', WHERE WHAT IT READS IS OF BULK AT MOST 1048576: true; the input reads as it did. -/
def histoRanksUptoRow : OpenClaim := { program := "ytcmkjbliiggcbaa", sum := "b7386012aafdfff1c2576062f52da6f718749914f420f13d378bc3daf3b35ca4", func := "seepage/seepagelaw28.HistoRanks", spec := "histoRanks", unfollowed := true, recurses := true, apart := false, narrowed := true }
def HistoRanksUptoSaid : Prop := histoRanksUptoRow.holds Try.pinned (OpenSpec.upto histoRanksSpec)

/-- 'seepagelaw28.HistoNews', WHERE WHAT IT READS IS OF BULK AT MOST 1048576: true; the input reads as it did. -/
def histoNewsUptoRow : OpenClaim := { program := "ytcmkjbliiggcbaa", sum := "b7386012aafdfff1c2576062f52da6f718749914f420f13d378bc3daf3b35ca4", func := "seepage/seepagelaw28.HistoNews", spec := "histoNews", unfollowed := true, recurses := true, apart := false, narrowed := true }
def HistoNewsUptoSaid : Prop := histoNewsUptoRow.holds Try.pinned (OpenSpec.upto histoNewsSpec)

/-- 'seepagelaw28.HistoPlays', WHERE WHAT IT READS IS OF BULK AT MOST 1048576: true; the input reads as it did. -/
def histoPlaysUptoRow : OpenClaim := { program := "ytcmkjbliiggcbaa", sum := "b7386012aafdfff1c2576062f52da6f718749914f420f13d378bc3daf3b35ca4", func := "seepage/seepagelaw28.HistoPlays", spec := "histoPlays", unfollowed := true, recurses := true, apart := false, narrowed := true }
def HistoPlaysUptoSaid : Prop := histoPlaysUptoRow.holds Try.pinned (OpenSpec.upto histoPlaysSpec)

/-- 'seepagelaw28.HistoMerges', WHERE WHAT IT READS IS OF BULK AT MOST 1048576: true; the input reads as it did. -/
def histoMergesUptoRow : OpenClaim := { program := "ytcmkjbliiggcbaa", sum := "b7386012aafdfff1c2576062f52da6f718749914f420f13d378bc3daf3b35ca4", func := "seepage/seepagelaw28.HistoMerges", spec := "histoMerges", unfollowed := true, recurses := true, apart := false, narrowed := true }
def HistoMergesUptoSaid : Prop := histoMergesUptoRow.holds Try.pinned (OpenSpec.upto histoMergesSpec)

/-- 'seepagelaw28.HistoCoarse', WHERE WHAT IT READS IS OF BULK AT MOST 1048576: true; the input reads as it did. -/
def histoCoarseUptoRow : OpenClaim := { program := "ytcmkjbliiggcbaa", sum := "b7386012aafdfff1c2576062f52da6f718749914f420f13d378bc3daf3b35ca4", func := "seepage/seepagelaw28.HistoCoarse", spec := "histoCoarse", unfollowed := true, recurses := true, apart := false, narrowed := true }
def HistoCoarseUptoSaid : Prop := histoCoarseUptoRow.holds Try.pinned (OpenSpec.upto histoCoarseSpec)

/-- 'seepagelaw28.HistoOrder', WHERE WHAT IT READS IS OF BULK AT MOST 1048576: true; the input reads as it did. -/
def histoOrderUptoRow : OpenClaim := { program := "ytcmkjbliiggcbaa", sum := "b7386012aafdfff1c2576062f52da6f718749914f420f13d378bc3daf3b35ca4", func := "seepage/seepagelaw28.HistoOrder", spec := "histoOrder", unfollowed := true, recurses := true, apart := false, narrowed := true }
def HistoOrderUptoSaid : Prop := histoOrderUptoRow.holds Try.pinned (OpenSpec.upto histoOrderSpec)

/-- 'seepagelaw28.HistoCoarser', WHERE WHAT IT READS IS OF BULK AT MOST 1048576: true; the input reads as it did. -/
def histoCoarserUptoRow : OpenClaim := { program := "ytcmkjbliiggcbaa", sum := "b7386012aafdfff1c2576062f52da6f718749914f420f13d378bc3daf3b35ca4", func := "seepage/seepagelaw28.HistoCoarser", spec := "histoCoarser", unfollowed := true, recurses := true, apart := false, narrowed := true }
def HistoCoarserUptoSaid : Prop := histoCoarserUptoRow.holds Try.pinned (OpenSpec.upto histoCoarserSpec)

/-- 'seepagelaw28.HistoNil', WHERE WHAT IT READS IS OF BULK AT MOST 1048576: true; the input reads as it did. -/
def histoNilUptoRow : OpenClaim := { program := "ytcmkjbliiggcbaa", sum := "b7386012aafdfff1c2576062f52da6f718749914f420f13d378bc3daf3b35ca4", func := "seepage/seepagelaw28.HistoNil", spec := "histoNil", unfollowed := true, recurses := true, apart := false, narrowed := true }
def HistoNilUptoSaid : Prop := histoNilUptoRow.holds Try.pinned (OpenSpec.upto histoNilSpec)

end Rows
end Go.Proofs.Ytcmkjbliiggcbaa
