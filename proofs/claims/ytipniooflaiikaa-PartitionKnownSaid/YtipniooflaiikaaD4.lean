/-
  What checked computes: quotients of products.
-/
import Derived.Test.YtipniooflaiikaaD3
import Derived.Test.YtipniooflaiikaaC6
set_option linter.unusedVariables false
set_option linter.unusedSimpArgs false
namespace Go.Proofs.Ytipniooflaiikaa
open Go.RowKit Go.Shelf

theorem div64_ok (u l y : Nat) (hu : u < y) (hl : l < 18446744073709551616) (hy1 : y < 18446744073709551616) (w : World) :
    Calls Try.prog 55 #[.int .u64 u, .int .u64 l, .int .u64 y] w fun e w' => e = .returned (.tuple #[.int .u64 (((u * 18446744073709551616 + l) / y : Nat) : Int), .int .u64 (((u * 18446744073709551616 + l) % y : Nat) : Int)]) ∧ Below w.heap.size w w' := by
  rcases Nat.eq_zero_or_pos u with h0 | h0
  · subst h0
    have := div64_small l y hl hu hy1 w
    rw [Nat.zero_mul, Nat.zero_add]
    exact this
  · refine (div64_big u l y (64 - Lib.bitLen y) h0 hu hl hy1 ?_ w).mono ?_
    · have := Lib.bitLen_le y 64 (Nat.le_refl _) hy1
      omega
    · rintro e w' ⟨rfl, rfl⟩
      exact ⟨rfl, Below.refl _ _⟩

/-- the quotient rounded down -/
theorem md_pos {a b : Int} {c : Int} (hc : 1 ≤ c) (ho : oneNeg a b = false) : a * b / c = ((a.natAbs * b.natAbs / c.natAbs : Nat) : Int) := by
  have h := sgn_mul a b
  rw [ho, Int.natAbs_mul] at h
  unfold sgn at h
  simp only [Bool.false_eq_true, if_false] at h
  rw [← h, Int.natCast_ediv]
  congr 1
  omega
theorem md_neg {a b : Int} {c : Int} (hc : 1 ≤ c) (ho : oneNeg a b = true) : a * b / c = if a.natAbs * b.natAbs % c.natAbs = 0 then -((a.natAbs * b.natAbs / c.natAbs : Nat) : Int) else -((a.natAbs * b.natAbs / c.natAbs + 1 : Nat) : Int) := by
  have h := sgn_mul a b
  rw [ho, Int.natAbs_mul] at h
  unfold sgn at h
  simp only [if_true] at h
  obtain ⟨k, rfl⟩ : ∃ k : Nat, c = k := ⟨c.natAbs, by omega⟩
  rw [← h]
  simp only [Int.natAbs_natCast]
  generalize a.natAbs * b.natAbs = N
  have e := Nat.div_add_mod N k
  have hr := Nat.mod_lt N (show 0 < k by omega)
  split
  · rename_i h0
    have : (N : Int) = (k : Int) * ((N / k : Nat) : Int) := by rw [← Int.natCast_mul]; omega
    rw [this, ← Int.mul_neg, Int.mul_ediv_cancel_left _ (by omega)]
  · rename_i h0
    have h1 : -(N : Int) = ((k - N % k : Nat) : Int) + (k : Int) * (-((N / k + 1 : Nat) : Int)) := by
      have h2 : (k : Int) * (-((N / k + 1 : Nat) : Int)) = -((k * (N / k) : Nat) : Int) - (k : Int) := by
        rw [Int.mul_neg, Int.natCast_add, Int.mul_add, Int.natCast_mul]
        simp
        omega
      rw [h2]; omega
    rw [h1, Int.add_mul_ediv_left _ _ (by omega), Int.ediv_eq_zero_of_lt (by omega) (by omega)]
    omega
def mdV (a b c : Int) : Int := if c < 1 then 0 else fitV (a * b / c)
def mdE (a b c : Int) : Int := if c < 1 then 2 else fitE (a * b / c)
end Go.Proofs.Ytipniooflaiikaa
