/-
  math/bits.Div64: the words behind the shift.
-/
import Derived.Test.YtipniooflaiikaaD1
import Derived.Test.YtipniooflaiikaaKs
import Derived.Deep.DeepCutAuto
import Derived.Deep.CutBlock
set_option linter.unusedVariables false
set_option linter.unusedSimpArgs false
namespace Go.Proofs.Ytipniooflaiikaa
open Go.RowKit Go.Shelf

/-- the words of a division, after the shift -/
structure Words (u l y s V vn1 vn0 un32 un10 un1 un0 : Nat) : Prop where
  v : IntKind.u64.wrap ((y : Int) * 2 ^ s) = (V : Int)
  v1 : (V : Int) / 4294967296 = (vn1 : Int)
  v0 : bits .and .u64 (V : Int) 4294967295 = (vn0 : Int)
  u32 : bits .or .u64 (IntKind.u64.wrap ((u : Int) * 2 ^ s)) ((l : Int) / 2 ^ (64 - s)) = (un32 : Int)
  u10 : IntKind.u64.wrap ((l : Int) * 2 ^ s) = (un10 : Int)
  u1 : (un10 : Int) / 4294967296 = (un1 : Int)
  u0 : bits .and .u64 (un10 : Int) 4294967295 = (un0 : Int)
  ev : V = vn1 * 4294967296 + vn0
  lv0 : vn0 < 4294967296
  gv : 9223372036854775808 ≤ V
  lv : V < 18446744073709551616
  eu : un10 = un1 * 4294967296 + un0
  lu1 : un1 < 4294967296
  lu0 : un0 < 4294967296
  ltu : un32 < V
  quo : (un32 * 18446744073709551616 + un10) / V = (u * 18446744073709551616 + l) / y
  rem : (un32 * 18446744073709551616 + un10) % V / 2 ^ s = (u * 18446744073709551616 + l) % y

theorem words_of {u l y s : Nat} (hu : u < y) (hl : l < 18446744073709551616) (hy1 : y < 18446744073709551616) (hs : (64 - (Lib.bitLen y : Nat) : Int) = s) :
    ∃ V vn1 vn0 un32 un10 un1 un0 : Nat, Words u l y s V vn1 vn0 un32 un10 un1 un0 := by
  have hb1 := bitLen_pos (y := y) (by omega) hy1
  have hb2 := Lib.bitLen_le y 64 (Nat.le_refl _) hy1
  have hlow := bitLen_low (y := y) (by omega) hy1
  have hhigh := bitLen_high (y := y) (by omega) hy1
  have hP : 0 < 2 ^ s := Nat.two_pow_pos _
  have hR : 0 < 2 ^ (64 - s) := Nat.two_pow_pos _
  have hM : 2 ^ s * 2 ^ (64 - s) = 18446744073709551616 := by rw [← Nat.pow_add, show s + (64 - s) = 64 by omega]
  have hM2 : 2 ^ (Lib.bitLen y - 1) * 2 ^ s = 9223372036854775808 := by rw [← Nat.pow_add, show Lib.bitLen y - 1 + s = 63 by omega]
  have hM3 : 2 ^ Lib.bitLen y * 2 ^ s = 18446744073709551616 := by rw [← Nat.pow_add, show Lib.bitLen y + s = 64 by omega]
  have gv : 9223372036854775808 ≤ y * 2 ^ s := by rw [← hM2]; exact Nat.mul_le_mul_right _ hlow
  have lv : y * 2 ^ s < 18446744073709551616 := by rw [← hM3]; exact Nat.mul_lt_mul_of_pos_right hhigh hP
  have hh := km_high (l := l) hM hP hR hl hu
  have ha := km_all (u := u) (l := l) hM hP hR
  have hup : u * 2 ^ s < 18446744073709551616 := Nat.lt_trans (Nat.lt_of_le_of_lt (Nat.le_add_right _ _) hh) lv
  have hlr : l / 2 ^ (64 - s) < 2 ^ s := (Nat.div_lt_iff_lt_mul hR).2 (by rw [hM]; exact hl)
  have hd := km_div (N := u * 18446744073709551616 + l) (y := y) hP
  have h10 := Nat.mod_lt (l * 2 ^ s) (show 0 < 18446744073709551616 by decide)
  refine ⟨y * 2 ^ s, y * 2 ^ s / 4294967296, y * 2 ^ s % 4294967296, u * 2 ^ s + l / 2 ^ (64 - s), l * 2 ^ s % 18446744073709551616, l * 2 ^ s % 18446744073709551616 / 4294967296, l * 2 ^ s % 18446744073709551616 % 4294967296, ?_⟩
  refine ⟨?_, by omega, mask32 _ lv, ?_, ?_, by omega, mask32 _ h10, by omega, by omega, gv, lv, by omega, by omega, by omega, hh, ?_, ?_⟩
  · have e : ((y * 2 ^ s : Nat) : Int) = (y : Int) * 2 ^ s := by rw [Int.natCast_mul, Int.natCast_pow]; rfl
    rw [← e, IntKind.wrap_u64]; omega
  · have e : ((u * 2 ^ s : Nat) : Int) = (u : Int) * 2 ^ s := by rw [Int.natCast_mul, Int.natCast_pow]; rfl
    have e2 : ((l / 2 ^ (64 - s) : Nat) : Int) = (l : Int) / 2 ^ (64 - s) := by rw [Int.natCast_ediv, Int.natCast_pow]; rfl
    rw [← e, ← e2]
    have hdv : ((u * 2 ^ s : Nat) : Int) % 2 ^ s = 0 := by rw [e]; exact Int.mul_emod_left _ _
    have hlt2 : ((l / 2 ^ (64 - s) : Nat) : Int) < 2 ^ s := by exact_mod_cast hlr
    have hsum : u * 2 ^ s + l / 2 ^ (64 - s) < 18446744073709551616 := Nat.lt_trans hh lv
    clear e e2 hd ha hh h10 hlr
    generalize u * 2 ^ s = X at *
    generalize l / 2 ^ (64 - s) = Y at *
    have e3 : IntKind.u64.wrap (X : Int) = (X : Int) := by rw [IntKind.wrap_u64]; omega
    rw [e3, bits_join .u64 64 (by decide) wraps_u64 s _ _ (by omega) hdv (by omega) (by omega) hlt2 (by omega)]
    omega
  · have e : ((l * 2 ^ s : Nat) : Int) = (l : Int) * 2 ^ s := by rw [Int.natCast_mul, Int.natCast_pow]; rfl
    rw [← e, IntKind.wrap_u64]; omega
  · rw [← ha]; exact hd.1
  · rw [← ha]; exact hd.2
end Go.Proofs.Ytipniooflaiikaa
