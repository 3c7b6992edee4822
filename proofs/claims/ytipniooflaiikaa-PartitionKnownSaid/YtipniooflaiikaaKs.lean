/-
  Division of two digits: the words that the walk shows, as numbers.
-/
import Derived.Test.YtipniooflaiikaaKm
import Derived.Laws.BitsLemmas
import Derived.Lib.EndianBits
import Derived.Lib.BitFns
import Derived.Shelf.Bits.Mul64
set_option linter.unusedVariables false
namespace Go.Proofs.Ytipniooflaiikaa
open Go.RowKit Go.Shelf

theorem mask32 (a : Nat) (ha : a < 18446744073709551616) : bits .and .u64 (a : Int) 4294967295 = ((a % 4294967296 : Nat) : Int) := by
  have h := bits_and_u64_nat a 4294967295 ha (by omega)
  have e : a &&& 4294967295 = a % 4294967296 := Nat.and_two_pow_sub_one_eq_mod a 32
  rw [e] at h
  exact h
theorem bitLen_pos {y : Nat} (hy : 0 < y) (hy1 : y < 2 ^ 64) : 1 ≤ Lib.bitLen y := by
  rw [Lib.bitLen_half y (by omega) hy1]; omega
theorem bitLen_low {y : Nat} (hy : 0 < y) (hy1 : y < 2 ^ 64) : 2 ^ (Lib.bitLen y - 1) ≤ y := by
  have h1 := bitLen_pos hy hy1
  have h2 := Lib.bitLen_le y 64 (Nat.le_refl _) hy1
  rcases Nat.lt_or_ge y (2 ^ (Lib.bitLen y - 1)) with h | h
  · have := Lib.bitLen_le y (Lib.bitLen y - 1) (by omega) h
    omega
  · exact h
theorem bitLen_high {y : Nat} (hy : 0 < y) (hy1 : y < 2 ^ 64) : y < 2 ^ Lib.bitLen y := by
  rcases Nat.lt_or_ge y (2 ^ Lib.bitLen y) with h | h
  · exact h
  · have e := Lib.bitLen_shift (Lib.bitLen y) y h hy1
    have h3 : 0 < y / 2 ^ Lib.bitLen y := Nat.div_pos h (Nat.two_pow_pos _)
    have h4 := bitLen_pos h3 (Nat.lt_of_le_of_lt (Nat.div_le_self _ _) hy1)
    omega
end Go.Proofs.Ytipniooflaiikaa
