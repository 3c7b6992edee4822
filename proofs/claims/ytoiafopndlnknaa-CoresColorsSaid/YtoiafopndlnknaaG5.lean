/-
  What checked computes: fractions in lowest terms.
-/
import Derived.Test.YtoiafopndlnknaaG2
import Derived.LoopTactic
set_option linter.unusedVariables false
set_option linter.unusedSimpArgs false
namespace Go.Proofs.Ytoiafopndlnknaa
open Go.RowKit Go.Shelf

set_option maxRecDepth 100000 in
theorem divisor_ok (x y : Nat) (hx : x < 18446744073709551616) (hy : y < 18446744073709551616) (w : World) :
    Calls Try.prog 62 #[.int .u64 x, .int .u64 y] w fun e w' => e = .returned (.int .u64 (Nat.gcd x y : Nat)) ∧ w = w' := by
  go_enter Try.func62, Try.ntmps62
  go_wp2_with fail
  go_loop [0, 1] (fun va vb => ∃ a b : Nat, va = .int .u64 a ∧ vb = .int .u64 b ∧ a < 18446744073709551616 ∧ b < 18446744073709551616 ∧ Hid (Nat.gcd a b = Nat.gcd x y)) (fun va _ => (intOf va).toNat)
  case atStart => exact ⟨x, y, rfl, rfl, hx, hy, Lib.hid rfl⟩
  case round =>
    obtain ⟨a, b, rfl, rfl, ha, hb, hg⟩ := hrel
    by_cases h0 : a = 0
    · subst h0
      have hg' : Hid (b = Nat.gcd x y) := Lib.hid (by have := hg.out; rwa [Nat.gcd_zero_left] at this)
      clear hg
      go_wp2_with fail
      go_ret
      exact ⟨by rw [← hg'.out]; rfl, rfl⟩
    · have hb1 := Nat.mod_lt b (show 0 < a by omega)
      have hgg : Hid (Nat.gcd (b % a) a = Nat.gcd x y) := Lib.hid (by rw [← Nat.gcd_rec]; exact hg.out)
      have ha1 : ((a : Int) == 0) = false := by simp; omega
      go_wp2_with fail
      go_round
      case rel => exact ⟨b % a, a, by simp, rfl, by omega, by omega, hgg⟩
      case measure => simp [intOf]; omega

end Go.Proofs.Ytoiafopndlnknaa
