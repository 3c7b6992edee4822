/-
  What checked computes: sums, differences, sizes, signs.
-/
import Derived.Test.YtoiafopndlnknaaA1
import Derived.Test.YtoiafopndlnknaaShelf
import Derived.Test.YtoiafopndlnknaaProg
import Derived.Tactics
import Derived.Tactics2
import Derived.WalkKit
import Derived.RowKit3
import Derived.KernelRfl
set_option linter.unusedVariables false
set_option linter.unusedSimpArgs false
namespace Go.Proofs.Ytoiafopndlnknaa
open Go.RowKit Go.Shelf

/-- it fits into 64 bits with a sign -/
def fitV (x : Int) : Int := if Fits x then x else 0
def fitE (x : Int) : Int := if Fits x then 0 else 7
theorem fitV_in {x : Int} (h : Fits x) : fitV x = x := if_pos h
theorem fitE_in {x : Int} (h : Fits x) : fitE x = 0 := if_pos h
theorem fitV_out {x : Int} (h : ¬ Fits x) : fitV x = 0 := if_neg h
theorem fitE_out {x : Int} (h : ¬ Fits x) : fitE x = 7 := if_neg h
theorem fit_fits (x : Int) : Fits (fitV x) := by unfold fitV; split; assumption; exact ⟨by decide, by decide⟩


theorem decide_yes {p : Prop} [Decidable p] (h : p) : decide p = true := decide_eq_true h
theorem decide_no {p : Prop} [Decidable p] (h : ¬ p) : decide p = false := decide_eq_false h
theorem wrap_out {x : Int} (h0 : -18446744073709551616 ≤ x) (h1 : x ≤ 18446744073709551615) (hx : ¬ Fits x) : (0 ≤ x → wrap64 x < 0) ∧ (x < 0 → 0 ≤ wrap64 x) := by
  unfold Fits at hx; unfold wrap64; omega





end Go.Proofs.Ytoiafopndlnknaa
