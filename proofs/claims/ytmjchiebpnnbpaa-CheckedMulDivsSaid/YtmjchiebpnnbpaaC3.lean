/-
  What checked computes: the sum of numbers.
-/
import Derived.Test.YtmjchiebpnnbpaaC2
import Derived.Test.YtmjchiebpnnbpaaOpen
import Derived.Shelf.Spec.BitsCarry
set_option linter.unusedVariables false
set_option linter.unusedSimpArgs false
namespace Go.Proofs.Ytmjchiebpnnbpaa
open Go.RowKit Go.Shelf

theorem add64_nat (x y c : Nat) (hc : c ≤ 1) (w : World) :
    (callFunc 29 #[.int .u64 x, .int .u64 y, .int .u64 c]).run Try.prog w =
      .ok (.value (.tuple #[.int .u64 (((x + y + c) % 18446744073709551616 : Nat) : Int), .int .u64 (((x + y + c) / 18446744073709551616 : Nat) : Int)])) w := by
  rw [run_callFunc_extern Try.func29 (by kernel_rfl) (by kernel_rfl) (by kernel_rfl) (e := add64Entry) (by kernel_rfl), run_add64 x y c (by omega) (by omega) (by omega) (by omega)]
  simp only [Result.andThen]
  congr 5 <;> omega
/-- the two results of an addition with a carry -/
def addLo (x y c : Int) : Int := (x + y + c) % 18446744073709551616
def addHi (x y c : Int) : Int := (x + y + c) / 18446744073709551616
theorem add64 (x y c : Int) (hx : 0 ≤ x) (hy : 0 ≤ y) (hc0 : 0 ≤ c) (hc : c ≤ 1) (w : World) :
    (callFunc 29 #[.int .u64 x, .int .u64 y, .int .u64 c]).run Try.prog w = .ok (.value (.tuple #[.int .u64 (addLo x y c), .int .u64 (addHi x y c)])) w := by
  obtain ⟨x, rfl⟩ := Int.eq_ofNat_of_zero_le hx
  obtain ⟨y, rfl⟩ := Int.eq_ofNat_of_zero_le hy
  obtain ⟨c, rfl⟩ := Int.eq_ofNat_of_zero_le hc0
  refine (add64_nat x y c (by omega) w).trans ?_
  unfold addLo addHi
  congr 5 <;> omega

/-- the sum of the first numbers -/
def tot (z : Nat → Int) : Nat → Int
  | 0 => 0
  | k + 1 => tot z k + z k
theorem tot_bound {z : Nat → Int} (k : Nat) (h : ∀ j, j < k → Fits (z j)) : -(k : Int) * 9223372036854775808 ≤ tot z k ∧ tot z k ≤ (k : Int) * 9223372036854775808 := by
  induction k with
  | zero => simp [tot]
  | succ k ih =>
    have h1 := ih (fun j hj => h j (by omega))
    obtain ⟨h2, h3⟩ := h k (by omega)
    show _ ≤ tot z k + z k ∧ tot z k + z k ≤ _
    omega

/-- a number in two halves, as two's complement -/
def sLo (s : Int) : Int := s % 18446744073709551616
def sHi (s : Int) : Int := s / 18446744073709551616 % 18446744073709551616
def u64 (x : Int) : Int := IntKind.u64.wrap x
theorem sLo_in (s : Int) : 0 ≤ sLo s ∧ sLo s < 18446744073709551616 := ⟨Int.emod_nonneg _ (by decide), Int.emod_lt_of_pos _ (by decide)⟩
theorem sHi_in (s : Int) : 0 ≤ sHi s ∧ sHi s < 18446744073709551616 := ⟨Int.emod_nonneg _ (by decide), Int.emod_lt_of_pos _ (by decide)⟩
theorem u64_in (x : Int) : 0 ≤ IntKind.u64.wrap x ∧ IntKind.u64.wrap x < 18446744073709551616 := by rw [IntKind.wrap_u64]; exact ⟨Int.emod_nonneg _ (by decide), Int.emod_lt_of_pos _ (by decide)⟩

theorem step_lo (s x : Int) : addLo (sLo s) (IntKind.u64.wrap x) 0 = sLo (s + x) := by unfold addLo sLo; rw [IntKind.wrap_u64]; omega
theorem step_hi {s x : Int} (h : Fits x) : addLo (sHi s) (IntKind.u64.wrap (x / 9223372036854775808)) (addHi (sLo s) (IntKind.u64.wrap x) 0) = sHi (s + x) := by
  obtain ⟨h0, h1⟩ := h
  unfold addLo addHi sLo sHi; rw [IntKind.wrap_u64, IntKind.wrap_u64]
  by_cases hx : x < 0
  · have e1 : x / 9223372036854775808 = -1 := by omega
    have e2 : x % 18446744073709551616 = x + 18446744073709551616 := by omega
    rw [e1, e2]
    have e3 : (s + x) / 18446744073709551616 = s / 18446744073709551616 - 1 + (s % 18446744073709551616 + (x + 18446744073709551616) + 0) / 18446744073709551616 := by omega
    rw [e3]
    omega
  · have e1 : x / 9223372036854775808 = 0 := by omega
    have e2 : x % 18446744073709551616 = x := by omega
    rw [e1, e2]
    have e3 : (s + x) / 18446744073709551616 = s / 18446744073709551616 + (s % 18446744073709551616 + x + 0) / 18446744073709551616 := by omega
    rw [e3]
    omega
theorem carry_in (s x : Int) : 0 ≤ addHi (sLo s) (IntKind.u64.wrap x) 0 ∧ addHi (sLo s) (IntKind.u64.wrap x) 0 ≤ 1 := by
  unfold addHi sLo; rw [IntKind.wrap_u64]; omega
theorem sum_fits {s : Int} (h : Fits s) : wrap64 (sLo s) = s ∧ IntKind.u64.wrap (s / 9223372036854775808) = sHi s := by
  obtain ⟨h0, h1⟩ := h
  rw [IntKind.wrap_u64]; unfold wrap64 sLo sHi; omega
theorem sum_not {s : Int} (h : ¬ Fits s) (h0 : -85070591730234615865843651857942052864 ≤ s) (h1 : s ≤ 85070591730234615865843651857942052864) : sHi s ≠ IntKind.u64.wrap (wrap64 (sLo s) / 9223372036854775808) := by
  unfold Fits at h
  rw [IntKind.wrap_u64]; unfold wrap64 sLo sHi
  obtain ⟨t, ht⟩ : ∃ t, t = (s + 9223372036854775808) / 18446744073709551616 := ⟨_, rfl⟩
  have e1 : (s % 18446744073709551616 + 9223372036854775808) % 18446744073709551616 - 9223372036854775808 = s - 18446744073709551616 * t := by omega
  rw [e1]
  have e2 : t ≠ 0 := by omega
  by_cases hw : s - 18446744073709551616 * t < 0
  · have e3 : (s - 18446744073709551616 * t) / 9223372036854775808 = -1 := by omega
    have e4 : s / 18446744073709551616 = t - 1 := by omega
    rw [e3, e4]; omega
  · have e3 : (s - 18446744073709551616 * t) / 9223372036854775808 = 0 := by omega
    have e4 : s / 18446744073709551616 = t := by omega
    rw [e3, e4]; omega

set_option maxRecDepth 100000 in
theorem sum_ok (n c : Nat) (A : Option Addr) (z : Nat → Int) (w : World) (ha : ArgI .i64 w A n c z) :
    Calls Try.prog 13 #[.slice A n c] w fun e w' => e = .returned (.tuple #[.int .i64 (fitV (tot z n)), .int .i64 (fitE (tot z n))]) ∧ w = w' := by
  have hnc := ha.1
  have hn63 := ha.2.1
  have hz : ∀ j, j < n → Fits (z j) := fun j hj => wf_i64 (ha.2.2.2 j hj)
  have HZ := Lib.hid hz
  clear hz
  go_enter Try.func13, Try.ntmps13
  go_wp2_with fail
  go_loop [4, 5, 12] (fun vh vl vk => ∃ k : Nat, vk = .int .i64 k ∧ k ≤ n ∧ vh = .int .u64 (sHi (tot z k)) ∧ vl = .int .u64 (sLo (tot z k))) (fun _ _ vk => n - (intOf vk).toNat)
  case atStart => exact ⟨0, rfl, Nat.zero_le _, rfl, rfl⟩
  case round =>
    obtain ⟨k, rfl, hk, rfl, rfl⟩ := hrel
    by_cases hlt : k < n
    · obtain ⟨g, o, rfl, hg, hcs⟩ := ha.2.2.1 (by omega)
      have e0 := hcs k hlt
      clear hcs
      obtain ⟨z0, z1⟩ := HZ.out k hlt
      have q := sLo_in (tot z k)
      have qh := sHi_in (tot z k)
      have qx := u64_in (z k)
      have qc := carry_in (tot z k) (z k)
      have qy := u64_in (z k / 9223372036854775808)
      go_wp2_with (first
        | simp only [add64 (sLo (tot z k)) (IntKind.u64.wrap (z k)) 0 q.1 qx.1 (by decide) (by decide)]
        | simp only [add64 (sHi (tot z k)) (IntKind.u64.wrap (z k / 9223372036854775808)) (addHi (sLo (tot z k)) (IntKind.u64.wrap (z k)) 0) qh.1 qy.1 qc.1 qc.2])
      go_round
      case rel => exact ⟨k + 1, by go_num, by omega, congrArg (Value.int .u64) (step_hi (HZ.out k hlt)), congrArg (Value.int .u64) (step_lo _ _)⟩
      case measure => simp [intOf]; omega
    · obtain rfl : k = n := by omega
      have hb := tot_bound k HZ.out
      have h1 : -85070591730234615865843651857942052864 ≤ tot z k := by omega
      have h2 : tot z k ≤ 85070591730234615865843651857942052864 := by omega
      by_cases hf : Fits (tot z k)
      · obtain ⟨e1, e2⟩ := sum_fits hf
        have HF := Lib.hid hf
        clear hb h1 h2 hf
        go_wp2_with fail
        go_ret2
        exact ⟨by rw [fitV_in HF.out, fitE_in HF.out]; rfl, rfl⟩
      · have e1 := sum_not hf h1 h2
        have e2 : (sHi (tot z k) == IntKind.u64.wrap (wrap64 (sLo (tot z k)) / 9223372036854775808)) = false := by simpa using e1
        have HF := Lib.hid hf
        clear hb h1 h2 hf e1
        go_wp2_with fail
        go_ret2
        exact ⟨by rw [fitV_out HF.out, fitE_out HF.out]; rfl, rfl⟩
end Go.Proofs.Ytmjchiebpnnbpaa
