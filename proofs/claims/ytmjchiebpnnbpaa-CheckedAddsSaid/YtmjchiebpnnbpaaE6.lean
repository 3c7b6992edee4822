/-
  The walk of CheckedAdds.
-/
import Derived.Test.YtmjchiebpnnbpaaG7
set_option linter.unusedVariables false
set_option linter.unusedSimpArgs false
namespace Go.Proofs.Ytmjchiebpnnbpaa
open Go.RowKit Go.Shelf

set_option maxRecDepth 100000 in
set_option maxHeartbeats 1000000 in
theorem adds_walk (a b : Int) (ha : Fits a) (hb : Fits b) (w : World) :
    Calls Try.prog 8 #[.int .i64 a, .int .i64 b] w fun e w' => e = .returned (.bool true) ∧ Below w.heap.size w w' := by
  have hx1 := fun w => add_ok a b ha hb w
  have hx2 := fun w => radd_ok a b ha hb w
  have hx3 := fun w => sub_ok a b ha hb w
  have hx4 := fun w => rsub_ok a b ha hb w
  have hx5 := fun w => mul_ok a b ha hb w
  have hx6 := fun w => rmul_ok a b ha hb w
  generalize fitV (a + b) = v1 at *
  generalize fitE (a + b) = u1 at *
  generalize fitV (a - b) = v2 at *
  generalize fitE (a - b) = u2 at *
  generalize fitV (a * b) = v3 at *
  generalize fitE (a * b) = u3 at *
  go_enter Try.func8, Try.ntmps8
  go_wp2_with (first
    | (go_at_call 20; refine (hx1 _).mono ?_; rintro e w' ⟨rfl, rfl⟩)
    | (go_at_call 23; refine (hx2 _).mono ?_; rintro e w2 ⟨rfl, hv2⟩)
    | (go_at_call 22; refine (hx3 _).mono ?_; rintro e w' ⟨rfl, rfl⟩)
    | (go_at_call 24; refine (hx4 _).mono ?_; rintro e w4 ⟨rfl, hv4⟩)
    | (go_at_call 21; refine (hx5 _).mono ?_; rintro e w5 ⟨rfl, hv5⟩)
    | (go_at_call 25; refine (hx6 _).mono ?_; rintro e w6 ⟨rfl, hv6⟩)
    | (go_at_call 15; refine (works_ok _).mono ?_; rintro e w9 ⟨rfl, hv9⟩))
  go_ret
  have q := below_end hv2 hv2.size hv4
  have q := below_end q q.size hv5
  have q := below_end q q.size hv6
  exact ⟨rfl, below_end q q.size hv9⟩
end Go.Proofs.Ytmjchiebpnnbpaa
