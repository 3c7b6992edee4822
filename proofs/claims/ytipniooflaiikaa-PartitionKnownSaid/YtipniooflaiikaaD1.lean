/-
  math/bits.Div64: the walk. Where the high half is 0.
-/
import Derived.Test.YtipniooflaiikaaKn
import Derived.Deep.QuietTactic
import Derived.BigQuiet
set_option linter.unusedVariables false
set_option linter.unusedSimpArgs false
namespace Go.Proofs.Ytipniooflaiikaa
open Go.RowKit Go.Shelf

set_option maxRecDepth 100000 in
theorem div64_small (l y : Nat) (hl : l < 18446744073709551616) (hy : 0 < y) (hy1 : y < 18446744073709551616) (w : World) :
    Calls Try.prog 55 #[.int .u64 0, .int .u64 l, .int .u64 y] w fun e w' => e = .returned (.tuple #[.int .u64 (l / y : Nat), .int .u64 (l % y : Nat)]) ∧ Below w.heap.size w w' := by
  have y0 : ((y : Int) == 0) = false := by simp; omega
  have y1 : (y : Int) ≠ 0 := by omega
  have y2 : y ≠ 0 := by omega
  have y3 : 1 ≤ (y : Int) := by omega
  have y4 : decide ((y : Int) ≤ 0) = false := by simp; omega
  have l1 := Nat.div_le_self l y
  have l2 := Nat.mod_le l y
  have y5 : (l : Int) / (y : Int) = ((l / y : Nat) : Int) := (Int.natCast_ediv l y).symm
  have y6 : (l : Int).tmod (y : Int) = ((l % y : Nat) : Int) := by rw [Int.tmod_eq_emod_of_nonneg (by omega), ← Int.natCast_emod]
  generalize hq : l / y = q at *
  generalize hr : l % y = r at *
  have y7 : IntKind.u64.wrap (q : Int) = (q : Int) := by rw [IntKind.wrap_u64]; omega
  have y8 : IntKind.u64.wrap (r : Int) = (r : Int) := by rw [IntKind.wrap_u64]; omega
  clear hq hr
  go_enter Try.func55, Try.ntmps55
  go_wp2_with fail
  go_quiet (fail)
  go_wp2_with fail
  go_ret2
  exact ⟨rfl, below_drewN (Below.refl _ _) _⟩
end Go.Proofs.Ytipniooflaiikaa
