/-
  Division of two digits by two digits: both quotient digits together.
-/
import Derived.Test.YtipniooflaiikaaD2
set_option linter.unusedVariables false
namespace Go.Proofs.Ytipniooflaiikaa
open Go.RowKit Go.Shelf

set_option maxRecDepth 100000 in
theorem kt_two {u32 u1 u0 V Q1 R1 Q0 R0 : Nat} (hV : 0 < V) (e1 : u32 * 4294967296 + u1 = V * Q1 + R1) (e0 : R1 * 4294967296 + u0 = V * Q0 + R0) (hR : R0 < V) :
    (u32 * 18446744073709551616 + (u1 * 4294967296 + u0)) / V = Q1 * 4294967296 + Q0 ∧ (u32 * 18446744073709551616 + (u1 * 4294967296 + u0)) % V = R0 := by
  have e : u32 * 18446744073709551616 + (u1 * 4294967296 + u0) = R0 + V * (Q1 * 4294967296 + Q0) := by
    have h64 : u32 * 18446744073709551616 = u32 * 4294967296 * 4294967296 := by rw [Nat.mul_assoc]
    rw [h64, ← Nat.add_assoc, ← Nat.add_mul, e1, Nat.add_mul, Nat.add_assoc, e0, Nat.mul_add, ← Nat.mul_assoc]
    rw [Nat.add_comm (V * Q0) R0, Nat.add_comm (V * Q1 * 4294967296), Nat.add_assoc, Nat.add_comm (V * Q0)]
  rw [e, Nat.add_mul_div_left _ _ hV, Nat.add_mul_mod_self_left, Nat.div_eq_of_lt hR, Nat.mod_eq_of_lt hR, Nat.zero_add]
  exact ⟨rfl, rfl⟩
set_option maxRecDepth 100000 in
/-- what is left of the dividend, as the words reckon it -/
theorem kt_rest {u32 u1 V Q R : Nat} (e : u32 * 4294967296 + u1 = V * Q + R) (hR : R < 18446744073709551616) (x : Int) (hx : x = (Q : Int) * (V : Int)) :
    IntKind.u64.wrap (IntKind.u64.wrap (IntKind.u64.wrap ((u32 : Int) * 4294967296) + (u1 : Int)) - IntKind.u64.wrap x) = (R : Int) := by
  have e2 : x = ((V * Q : Nat) : Int) := by rw [hx, Int.natCast_mul, Int.mul_comm]
  rw [e2]
  generalize V * Q = A at *
  clear e2 hx
  simp only [IntKind.wrap_u64]
  omega
end Go.Proofs.Ytipniooflaiikaa
