/-
  Division of two digits by two digits, a digit at a time: the laws of the guess.
-/
import Derived.Test.YtipniooflaiikaaC2
set_option linter.unusedVariables false
namespace Go.Proofs.Ytipniooflaiikaa

/-- the guess times the divisor -/
theorem kn_mul (q vn1 vn0 : Nat) : q * (vn1 * 4294967296 + vn0) = q * vn1 * 4294967296 + q * vn0 := by rw [Nat.mul_add, ← Nat.mul_assoc]
theorem kn_le {u un1 vn1 vn0 q r : Nat} (hI : q * vn1 + r = u) (h : q * vn0 ≤ r * 4294967296 + un1) : q * (vn1 * 4294967296 + vn0) ≤ u * 4294967296 + un1 := by
  have e := kn_mul q vn1 vn0
  generalize q * (vn1 * 4294967296 + vn0) = X at *
  generalize q * vn1 = Y at *
  generalize q * vn0 = Z at *
  omega
theorem kn_gt {u un1 vn1 vn0 q r : Nat} (hI : q * vn1 + r = u) (h : r * 4294967296 + un1 < q * vn0) : u * 4294967296 + un1 < q * (vn1 * 4294967296 + vn0) := by
  subst hI
  rw [kn_mul q vn1 vn0, Nat.add_mul, Nat.add_assoc]
  exact Nat.add_lt_add_left h _
/-- a guess that is not too small and whose product is not too great is the quotient -/
theorem kn_eq {U v q : Nat} (hv : 0 < v) (h1 : U / v ≤ q) (h2 : q * v ≤ U) : q = U / v :=
  Nat.le_antisymm ((Nat.le_div_iff_mul_le hv).2 h2) h1
/-- a guess whose product is too great is above the quotient -/
theorem kn_down {U v q : Nat} (hv : 0 < v) (h : U < q * v) : U / v ≤ q - 1 := by
  have := (Nat.div_lt_iff_lt_mul hv).2 h
  omega
set_option maxRecDepth 100000 in
/-- the first guess -/
theorem kn_first {u un1 vn1 vn0 : Nat} (hv : 0 < vn1) (h1 : un1 < 4294967296) : (u * 4294967296 + un1) / (vn1 * 4294967296 + vn0) ≤ u / vn1 := by
  have e : u / vn1 * vn1 + u % vn1 = u := by rw [Nat.mul_comm]; exact Nat.div_add_mod u vn1
  have hr := Nat.mod_lt u hv
  generalize u / vn1 = q at *
  generalize u % vn1 = r at *
  have hlt : u * 4294967296 + un1 < (q + 1) * (vn1 * 4294967296 + vn0) := by
    have e1 := kn_mul (q + 1) vn1 vn0
    have e2 : (q + 1) * vn1 = q * vn1 + vn1 := by rw [Nat.add_mul, Nat.one_mul]
    rw [e2] at e1
    generalize (q + 1) * (vn1 * 4294967296 + vn0) = X at *
    generalize (q + 1) * vn0 = Z at *
    generalize q * vn1 = Y at *
    omega
  have := (Nat.div_lt_iff_lt_mul (show 0 < vn1 * 4294967296 + vn0 by omega)).2 hlt
  omega
/-- the quotient is one digit -/
theorem kn_digit {u un1 v : Nat} (hu : u < v) (h1 : un1 < 4294967296) : (u * 4294967296 + un1) / v < 4294967296 := by
  rw [Nat.div_lt_iff_lt_mul (by omega)]
  omega
end Go.Proofs.Ytipniooflaiikaa
