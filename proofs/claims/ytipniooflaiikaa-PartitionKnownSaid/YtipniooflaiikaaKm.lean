/-
  Division of two digits: what the shift does.
-/
import Derived.Test.YtipniooflaiikaaKn
set_option linter.unusedVariables false
namespace Go.Proofs.Ytipniooflaiikaa

/-- a number shifted: what is carried out, and what stays -/
theorem km_low {l P R M : Nat} (hM : P * R = M) (hP : 0 < P) (hR : 0 < R) : l * P / M = l / R ∧ l * P % M = l % R * P := by
  have e := Nat.div_add_mod l R
  have hr := Nat.mod_lt l hR
  subst hM
  constructor
  · rw [Nat.mul_comm P R, Nat.mul_div_mul_right _ _ hP]
  · rw [Nat.mul_comm P R, Nat.mul_mod_mul_right]
theorem km_high {u l P R M y : Nat} (hM : P * R = M) (hP : 0 < P) (hR : 0 < R) (hl : l < M) (hu : u < y) : u * P + l / R < y * P := by
  have h1 : l / R < P := (Nat.div_lt_iff_lt_mul hR).2 (by rw [hM]; exact hl)
  have h2 : (u + 1) * P ≤ y * P := Nat.mul_le_mul_right _ hu
  rw [Nat.add_mul, Nat.one_mul] at h2
  omega
theorem km_all {u l P R M : Nat} (hM : P * R = M) (hP : 0 < P) (hR : 0 < R) : (u * M + l) * P = (u * P + l / R) * M + l * P % M := by
  obtain ⟨h1, h2⟩ := km_low (l := l) hM hP hR
  have e := Nat.div_add_mod (l * P) M
  rw [h1] at e
  rw [Nat.add_mul, Nat.add_mul, Nat.mul_right_comm u M P, Nat.add_assoc]
  congr 1
  rw [Nat.mul_comm (l / R) M]; exact e.symm
/-- shifted, the quotient is the same and the remainder is shifted -/
theorem km_div {N y P : Nat} (hP : 0 < P) : N * P / (y * P) = N / y ∧ N * P % (y * P) / P = N % y := by
  constructor
  · exact Nat.mul_div_mul_right _ _ hP
  · rw [Nat.mul_mod_mul_right, Nat.mul_div_cancel _ hP]
end Go.Proofs.Ytipniooflaiikaa
