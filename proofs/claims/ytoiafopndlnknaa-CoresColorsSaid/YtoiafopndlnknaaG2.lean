/-
  What checked computes: sizes, signs, products.
-/
import Derived.Test.YtoiafopndlnknaaG1
import Derived.IntWalk
import Derived.WalkSpells
import Derived.WalkLawsBesides
import Derived.Lib.Hide
import Derived.Test.YtoiafopndlnknaaRows
set_option linter.unusedVariables false
set_option linter.unusedSimpArgs false
namespace Go.Proofs.Ytoiafopndlnknaa
open Go.RowKit Go.Shelf

set_option maxRecDepth 100000 in
theorem size_ok (a : Int) (ha : Fits a) (w : World) :
    Calls Try.prog 61 #[.int .i64 a] w fun e w' => e = .returned (.int .u64 (a.natAbs : Int)) ∧ w = w' := by
  obtain ⟨a0, a1⟩ := ha
  by_cases pa : a < 0
  · have e1 : (a.natAbs : Int) = -a := by omega
    rw [e1]
    have hw : IntKind.u64.wrap (-IntKind.u64.wrap a) = -a := by rw [IntKind.wrap_u64, IntKind.wrap_u64]; omega
    go_enter Try.func61, Try.ntmps61
    go_wp2_with fail
    go_ret
    exact ⟨rfl, rfl⟩
  · have e1 : (a.natAbs : Int) = a := by omega
    rw [e1]
    have pa : 0 ≤ a := by omega
    go_enter Try.func61, Try.ntmps61
    go_wp2_with fail
    go_ret
    exact ⟨rfl, rfl⟩

/-- the number of this size -/
def sgn (x : Nat) (b : Bool) : Int := if b then -(x : Int) else x
set_option maxRecDepth 100000 in
theorem signed_ok (x : Nat) (b : Bool) (hx : x < 18446744073709551616) (w : World) :
    Calls Try.prog 63 #[.int .u64 x, .bool b] w fun e w' => e = .returned (.tuple #[.int .i64 (fitV (sgn x b)), .int .i64 (fitE (sgn x b))]) ∧ w = w' := by
  cases b
  · by_cases hf : x ≤ 9223372036854775807
    · rw [fitV_in (by unfold Fits; simp only [sgn]; simp; omega), fitE_in (by unfold Fits; simp only [sgn]; simp; omega)]
      go_enter Try.func63, Try.ntmps63
      go_wp2_with fail
      go_ret2
      exact ⟨rfl, rfl⟩
    · have hn : ¬ Fits (sgn x false) := fun h => by have := h.2; simp [sgn] at this; omega
      rw [fitV_out hn, fitE_out hn]
      go_enter Try.func63, Try.ntmps63
      go_wp2_with fail
      go_ret2
      exact ⟨rfl, rfl⟩
  · by_cases hf : x ≤ 9223372036854775808
    · rw [fitV_in (by unfold Fits; simp only [sgn]; simp; omega), fitE_in (by unfold Fits; simp only [sgn]; simp; omega)]
      have hw : wrap64 (IntKind.u64.wrap (-(x : Int))) = sgn x true := by rw [IntKind.wrap_u64]; simp only [sgn, wrap64]; simp; omega
      rw [← hw]
      clear hw
      go_enter Try.func63, Try.ntmps63
      go_wp2_with fail
      go_ret2
      exact ⟨rfl, rfl⟩
    · have hn : ¬ Fits (sgn x true) := fun h => by have := h.1; simp [sgn] at this; omega
      rw [fitV_out hn, fitE_out hn]
      go_enter Try.func63, Try.ntmps63
      go_wp2_with fail
      go_ret2
      exact ⟨rfl, rfl⟩

/-- the two halves of a product -/
def hi (x y : Nat) : Nat := x * y / 18446744073709551616
def lo (x y : Nat) : Nat := x * y % 18446744073709551616
theorem lo_lt (x y : Nat) : lo x y < 18446744073709551616 := Nat.mod_lt _ (by decide)
theorem hi_lo (x y : Nat) : x * y = hi x y * 18446744073709551616 + lo x y := by unfold hi lo; omega
theorem mul64 (x y : Nat) (hx : x < 18446744073709551616) (hy : y < 18446744073709551616) (w : World) :
    Calls Try.prog 69 #[.int .u64 x, .int .u64 y] w fun e w' => e = .returned (.tuple #[.int .u64 (hi x y : Nat), .int .u64 (lo x y : Nat)]) ∧ w' = w := Try.bits_Mul64 x y hx hy w

set_option maxRecDepth 100000 in
theorem product_ok (x y : Nat) (hx : x < 18446744073709551616) (hy : y < 18446744073709551616) (w : World) :
    Calls Try.prog 60 #[.int .u64 x, .int .u64 y] w fun e w' => e = .returned (.agg #[.int .u64 (hi x y : Nat), .int .u64 (lo x y : Nat)]) ∧ Below w.heap.size w w' := by
  have hb := fun o => below_new1 w o
  go_enter Try.func60, Try.ntmps60
  go_wp2_with (go_at_call 69; refine (mul64 x y hx hy _).mono ?_; rintro e w' ⟨rfl, rfl⟩)
  simp [bodyPost, results, Try.results60, go_sem]
  exact hb _

theorem natAbs_lt {a : Int} (h : Fits a) : a.natAbs < 18446744073709551616 := by obtain ⟨h0, h1⟩ := h; omega
theorem mul_sign {a b : Int} : (a < 0 → b < 0 → 0 ≤ a * b) ∧ (¬ a < 0 → ¬ b < 0 → 0 ≤ a * b) ∧ (a < 0 → ¬ b < 0 → a * b ≤ 0) ∧ (¬ a < 0 → b < 0 → a * b ≤ 0) := by
  refine ⟨fun h k => ?_, fun h k => ?_, fun h k => ?_, fun h k => ?_⟩
  · exact Int.mul_nonneg_of_nonpos_of_nonpos (by omega) (by omega)
  · exact Int.mul_nonneg (by omega) (by omega)
  · exact Int.mul_nonpos_of_nonpos_of_nonneg (by omega) (by omega)
  · exact Int.mul_nonpos_of_nonneg_of_nonpos (by omega) (by omega)
/-- whether just one of both is below 0 -/
def oneNeg (a b : Int) : Bool := decide (a < 0) != decide (b < 0)
theorem sgn_mul (a b : Int) : sgn (a * b).natAbs (oneNeg a b) = a * b := by
  obtain ⟨h1, h2, h3, h4⟩ := mul_sign (a := a) (b := b)
  unfold sgn oneNeg
  by_cases pa : a < 0 <;> by_cases pb : b < 0 <;> simp [pa, pb] <;> simp [pa, pb] at h1 h2 h3 h4 <;> omega


end Go.Proofs.Ytoiafopndlnknaa
