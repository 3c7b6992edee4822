/-
  The walk of CheckedReduces.
-/
import Derived.Test.YtmjchiebpnnbpaaG9
set_option linter.unusedVariables false
set_option linter.unusedSimpArgs false
namespace Go.Proofs.Ytmjchiebpnnbpaa
open Go.RowKit Go.Shelf

set_option maxRecDepth 100000 in
set_option maxHeartbeats 1000000 in
theorem reduces_walk (n d : Int) (hn : Fits n) (hd : Fits d) (w : World) :
    Calls Try.prog 5 #[.int .i64 n, .int .i64 d] w fun e w' => e = .returned (.bool true) ∧ Below w.heap.size w w' := by
  have hx1 := fun w => reduce_ok n d hn hd w
  have hx2 := fun w => rreduce_ok n d hn hd w
  generalize redN n d = v1 at *
  generalize redD n d = v2 at *
  generalize redE n d = u1 at *
  go_enter Try.func5, Try.ntmps5
  go_wp2_with fail
  refine (hx1 _).mono ?_
  rintro e w1 ⟨rfl, hv1⟩
  have k1 := Blk.new w1 32 #[.int .i64 v1, .int .i64 v2]
  have q := hv1.alloc hv1.size (.cells #[.int .i64 v1, .int .i64 v2] 32)
  go_wp2_with fail
  generalize w1.alloc (.cells #[.int .i64 v1, .int .i64 v2] 32) = W1 at *
  refine (hx2 _).mono ?_
  rintro e w2 ⟨rfl, hv2⟩
  have q := below_end q q.size hv2
  have k1 := k1.below hv2 k1.lt
  have k2 := Blk.new w2 32 #[.int .i64 v1, .int .i64 v2]
  have k1 := k1.alloc (.cells #[.int .i64 v1, .int .i64 v2] 32)
  have q := q.alloc q.size (.cells #[.int .i64 v1, .int .i64 v2] 32)
  go_upto_region 3 with fail
  generalize w2.alloc (.cells #[.int .i64 v1, .int .i64 v2] 32) = W2 at *
  have a0 := k1.cell 0
  have a1 := k1.cell 1
  have b0 := k2.cell 0
  have b1 := k2.cell 1
  simp at a0 a1 b0 b1
  go_wp2_with fail
  refine (works_ok _).mono ?_
  rintro e w9 ⟨rfl, hv9⟩
  go_wp2_with fail
  go_ret
  exact ⟨rfl, below_end q q.size hv9⟩
end Go.Proofs.Ytmjchiebpnnbpaa
