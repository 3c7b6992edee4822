/-
  What checked computes: sums, differences, sizes, signs.
-/
import Derived.Test.YtcmkjbliiggcbaaMem2
import Derived.Test.YtcmkjbliiggcbaaShelf
import Derived.Test.YtcmkjbliiggcbaaProg
import Derived.Tactics
import Derived.Tactics2
import Derived.WalkKit
import Derived.RowKit3
import Derived.KernelRfl
set_option linter.unusedVariables false
set_option linter.unusedSimpArgs false
namespace Go.Proofs.Ytcmkjbliiggcbaa
open Go.RowKit Go.Shelf

/-- it fits into 64 bits with a sign -/
def Fits (x : Int) : Prop := -9223372036854775808 ≤ x ∧ x ≤ 9223372036854775807
instance (x : Int) : Decidable (Fits x) := by unfold Fits; infer_instance
def fitV (x : Int) : Int := if Fits x then x else 0
def fitE (x : Int) : Int := if Fits x then 0 else 7
theorem fitV_in {x : Int} (h : Fits x) : fitV x = x := if_pos h
theorem fitE_in {x : Int} (h : Fits x) : fitE x = 0 := if_pos h
theorem fitV_out {x : Int} (h : ¬ Fits x) : fitV x = 0 := if_neg h
theorem fitE_out {x : Int} (h : ¬ Fits x) : fitE x = 7 := if_neg h
theorem fit_fits (x : Int) : Fits (fitV x) := by unfold fitV; split; assumption; exact ⟨by decide, by decide⟩


theorem decide_yes {p : Prop} [Decidable p] (h : p) : decide p = true := decide_eq_true h
theorem decide_no {p : Prop} [Decidable p] (h : ¬ p) : decide p = false := decide_eq_false h
theorem wrap_out {x : Int} (h0 : -18446744073709551616 ≤ x) (h1 : x ≤ 18446744073709551615) (hx : ¬ Fits x) : (0 ≤ x → wrap64 x < 0) ∧ (x < 0 → 0 ≤ wrap64 x) := by
  unfold Fits at hx; unfold wrap64; omega

set_option maxRecDepth 100000 in
theorem add_ok (a b : Int) (ha : Fits a) (hb : Fits b) (w : World) :
    Calls Try.prog 42 #[.int .i64 a, .int .i64 b] w fun e w' => e = .returned (.tuple #[.int .i64 (fitV (a + b)), .int .i64 (fitE (a + b))]) ∧ w = w' := by
  obtain ⟨a0, a1⟩ := ha
  obtain ⟨b0, b1⟩ := hb
  by_cases hf : Fits (a + b)
  · rw [fitV_in hf, fitE_in hf]
    obtain ⟨f0, f1⟩ := hf
    by_cases pa : a < 0 <;> by_cases pb : b < 0 <;> by_cases ps : a + b < 0
    all_goals first
      | (exfalso; omega)
      | (((first | have da := decide_no pa | have da := decide_yes pa); (first | have db := decide_no pb | have db := decide_yes pb); (first | have ds := decide_no ps | have ds := decide_yes ps))
         go_enter Try.func42, Try.ntmps42
         go_wp2_with fail
         all_goals first
           | (go_ret2; exact ⟨rfl, rfl⟩)
           | (exfalso; simp_all; done)
           | (exfalso; simp_all; omega))
  · rw [fitV_out hf, fitE_out hf]
    have hs := wrap_out (x := a + b) (by omega) (by omega) hf
    unfold Fits at hf
    by_cases pa : a < 0 <;> by_cases pb : b < 0 <;> by_cases ps : wrap64 (a + b) < 0
    all_goals first
      | (exfalso; omega)
      | (((first | have da := decide_no pa | have da := decide_yes pa); (first | have db := decide_no pb | have db := decide_yes pb); (first | have ds := decide_no ps | have ds := decide_yes ps))
         clear hs
         go_enter Try.func42, Try.ntmps42
         go_wp2_with fail
         all_goals first
           | (go_ret2; exact ⟨rfl, rfl⟩)
           | (exfalso; simp_all; done)
           | (exfalso; simp_all; omega))



end Go.Proofs.Ytcmkjbliiggcbaa
