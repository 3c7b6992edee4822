/-
  The walk of CheckedCompares.
-/
import Derived.Test.YtmjchiebpnnbpaaG8
set_option linter.unusedVariables false
set_option linter.unusedSimpArgs false
namespace Go.Proofs.Ytmjchiebpnnbpaa
open Go.RowKit Go.Shelf

set_option maxRecDepth 100000 in
set_option maxHeartbeats 1000000 in
theorem compares_walk (an ad bn bd : Int) (h1 : Fits an) (h2 : Fits ad) (h3 : Fits bn) (h4 : Fits bd) (w : World) :
    Calls Try.prog 10 #[.agg #[.int .i64 an, .int .i64 ad], .agg #[.int .i64 bn, .int .i64 bd]] w fun e w' => e = .returned (.bool true) ∧ Below w.heap.size w w' := by
  have q := below_new2 w (.cells #[.int .i64 an, .int .i64 ad] 32) (.cells #[.int .i64 bn, .int .i64 bd] 32)
  have ka := (Blk.new w 32 #[.int .i64 an, .int .i64 ad]).alloc (.cells #[.int .i64 bn, .int .i64 bd] 32)
  have kb := Blk.new2 w (.cells #[.int .i64 an, .int .i64 ad] 32) 32 #[.int .i64 bn, .int .i64 bd]
  have hx1 := fun w => compare_ok an ad bn bd h1 h2 h3 h4 w
  have hx2 := fun w => rcompare_ok an ad bn bd h1 h2 h3 h4 w
  generalize comV an ad bn bd = v1 at *
  generalize comE an ad bn bd = u1 at *
  go_enter Try.func10, Try.ntmps10
  go_upto_region 1 with fail
  generalize (w.alloc (.cells #[.int .i64 an, .int .i64 ad] 32)).alloc (.cells #[.int .i64 bn, .int .i64 bd] 32) = W0 at *
  have ka0 := ka.cell 0
  have ka1 := ka.cell 1
  have kb0 := kb.cell 0
  have kb1 := kb.cell 1
  simp at ka0 ka1 kb0 kb1
  go_wp2_with fail
  refine (hx1 _).mono ?_
  rintro e w1 ⟨rfl, hv1⟩
  have q := below_end q q.size hv1
  have ka := ka.below hv1 ka.lt
  have kb := kb.below hv1 kb.lt
  clear ka0 ka1 kb0 kb1
  have ka0 := ka.cell 0
  have ka1 := ka.cell 1
  have kb0 := kb.cell 0
  have kb1 := kb.cell 1
  simp at ka0 ka1 kb0 kb1
  go_wp2_with fail
  refine (hx2 _).mono ?_
  rintro e w2 ⟨rfl, hv2⟩
  have q := below_end q q.size hv2
  go_wp2_with fail
  refine (works_ok _).mono ?_
  rintro e w9 ⟨rfl, hv9⟩
  go_wp2_with fail
  go_ret
  exact ⟨rfl, below_end q q.size hv9⟩
end Go.Proofs.Ytmjchiebpnnbpaa
