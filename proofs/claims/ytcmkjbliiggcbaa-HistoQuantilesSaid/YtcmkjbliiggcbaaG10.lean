/-
  The document's integers: one bit.
-/
import Derived.Test.YtcmkjbliiggcbaaG6
set_option linter.unusedVariables false
set_option linter.unusedSimpArgs false
namespace Go.Proofs.Ytcmkjbliiggcbaa
open Go.RowKit Go.Shelf

theorem psum_split (f : Nat → Int) (q : Nat) : ∀ k, ∃ H : Int, psum f (q + 1 + k) = psum f q + (f q + 4294967296 * H) * 4294967296 ^ q
  | 0 => ⟨0, by simp [psum]⟩
  | k + 1 => by
    obtain ⟨H, hH⟩ := psum_split f q k
    refine ⟨H + f (q + 1 + k) * 4294967296 ^ k, ?_⟩
    show psum f (q + 1 + k) + f (q + 1 + k) * 4294967296 ^ (q + 1 + k) = _
    rw [hH, Int.add_assoc, ← Int.add_assoc (psum f q), Int.add_assoc (psum f q)]
    congr 1
    rw [Nat.add_assoc q 1 k, Int.pow_add, Int.pow_add]
    simp [Int.mul_add, Int.add_mul, Int.mul_comm, Int.mul_assoc, Int.mul_left_comm, Int.add_assoc]
def bitOf (f : Nat → Int) (n : Nat) : Int := f (n / 32) / 2 ^ (n % 32) % 2
theorem bit_law {f : Nat → Int} (hf : Digits f) {n : Nat} (hn : n < 192) : mag f / 2 ^ n % 2 = bitOf f n := by
  obtain ⟨q, hq⟩ : ∃ q, n / 32 = q := ⟨_, rfl⟩
  obtain ⟨r, hr⟩ : ∃ r, n % 32 = r := ⟨_, rfl⟩
  have hn' : n = 32 * q + r := by omega
  obtain ⟨H, hH⟩ := psum_split f q (6 - (q + 1))
  rw [show q + 1 + (6 - (q + 1)) = 6 by omega] at hH
  have hp := psum_in (f := f) (k := q) (fun j hj => hf j (by omega))
  have hB := pow_pos' q
  have h2 : (0 : Int) < 2 ^ r := Int.pow_pos (by decide)
  have e2n : (2 : Int) ^ n = 4294967296 ^ q * 2 ^ r := by
    rw [hn', Int.pow_add, Int.pow_mul]; rfl
  have e32 : (4294967296 : Int) = 2 * 2 ^ (31 - r) * 2 ^ r := by
    rw [Int.mul_assoc, ← Int.pow_add, show 31 - r + r = 31 by omega]; rfl
  unfold bitOf mag
  rw [hq, hr, e2n, ← Int.ediv_ediv_of_nonneg (Int.le_of_lt hB), hH, Int.add_mul_ediv_right _ _ (by omega), Int.ediv_eq_zero_of_lt hp.1 hp.2, Int.zero_add]
  have e3 : f q + 4294967296 * H = f q + (2 * (2 ^ (31 - r) * H)) * 2 ^ r := by
    rw [show (4294967296 : Int) * H = 2 * 2 ^ (31 - r) * 2 ^ r * H by rw [← e32]]
    simp [Int.mul_comm, Int.mul_assoc, Int.mul_left_comm]
  rw [e3, Int.add_mul_ediv_right _ _ (by omega), Int.add_mul_emod_self_left]

set_option maxRecDepth 100000 in
set_option maxHeartbeats 2000000 in
theorem bit_ok (f : Nat → Int) (n : Nat) (hf : Digits f) (hn : n < 192) (w : World) :
    Calls Try.prog 56 #[.agg (six f), .int .i64 n] w fun e w' => e = .returned (.int .u64 (bitOf f n)) ∧ Below w.heap.size w w' := by
  have qq := below_new1 w (.cells (six f) 83)
  have kf := Blk.new w 83 (six f)
  unfold bitOf
  obtain ⟨q, hq⟩ : ∃ q, n / 32 = q := ⟨_, rfl⟩
  obtain ⟨r, hr⟩ : ∃ r, n % 32 = r := ⟨_, rfl⟩
  rw [hq, hr]
  have q6 : q < 6 := by omega
  have hfq := hf q q6
  have e1 : (n : Int) / 32 = (q : Int) := by omega
  have e2 : (n : Int) % 32 = (r : Int) := by omega
  have e3 : (n : Int).tmod 32 = (r : Int) := by rw [Int.tmod_eq_emod_of_nonneg (by omega)]; exact e2
  have e4 : (n : Int).tdiv 32 = (q : Int) := by rw [Int.tdiv_eq_ediv_of_nonneg (by omega)]; exact e1
  have q6i : (q : Int) < 6 := by omega
  have cf := (kf.cell q).trans (six_get f q6)
  obtain ⟨a, ha⟩ : ∃ a, f q = a := ⟨_, rfl⟩
  rw [ha] at hfq cf
  rw [ha]
  simp only [six] at qq kf cf ⊢
  clear ha hq hr
  go_enter Try.func56, Try.ntmps56
  go_upto_region 1 with fail
  generalize w.alloc (.cells #[.int .u64 (f 0), .int .u64 (f 1), .int .u64 (f 2), .int .u64 (f 3), .int .u64 (f 4), .int .u64 (f 5)] 83) = W0 at *
  go_wp2_with fail
  go_loop [5, 6] (fun vx vi => ∃ k : Nat, vi = .int .i64 k ∧ k ≤ r ∧ vx = .int .u64 (a / 2 ^ k)) (fun _ vi => r - (intOf vi).toNat)
  case atStart => exact ⟨0, rfl, Nat.zero_le _, by simp⟩
  case round =>
    obtain ⟨k, rfl, hk, rfl⟩ := hrel
    have h2 : (0 : Int) < 2 ^ k := Int.pow_pos (by decide)
    have g0 : 0 ≤ a / 2 ^ k := Int.ediv_nonneg hfq.1 (Int.le_of_lt h2)
    have g1 : a / 2 ^ k < 4294967296 := Int.lt_of_le_of_lt (Int.ediv_le_self _ hfq.1) hfq.2
    have es : a / 2 ^ k / 2 = a / 2 ^ (k + 1) := by rw [Int.ediv_ediv_of_nonneg (Int.le_of_lt h2), ← Int.pow_succ]
    have HE := Lib.hid es
    clear es h2
    obtain ⟨x, hx⟩ : ∃ x, a / 2 ^ k = x := ⟨_, rfl⟩
    have HX := Lib.hid hx
    rw [hx] at g0 g1 HE
    rw [hx]
    by_cases hlt : k < r
    · have hki : (k : Int) < (r : Int) := by omega
      clear hx
      go_wp2_with fail
      go_round
      case rel => exact ⟨k + 1, by simp, by omega, by rw [← HE.out]⟩
      case measure => simp [intOf]; omega
    · obtain rfl : k = r := by omega
      clear hx
      go_wp2_with fail
      go_ret
      exact ⟨by rw [HX.out]; rfl, qq⟩
end Go.Proofs.Ytcmkjbliiggcbaa
