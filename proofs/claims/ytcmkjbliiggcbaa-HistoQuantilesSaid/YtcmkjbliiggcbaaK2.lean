/-
  Division, a bit at a time: the plain laws.
-/
import Derived.Test.YtcmkjbliiggcbaaG10
set_option linter.unusedVariables false
set_option linter.unusedSimpArgs false
namespace Go.Proofs.Ytcmkjbliiggcbaa
open Go.RowKit Go.Shelf

/-- what stands in the middle of a division -/
structure Div (M c : Int) (j : Nat) (qf : Nat → Int) (rest : Int) : Prop where
  dig : Digits qf
  quo : mag qf = M / 2 ^ j / c
  rem : rest = M / 2 ^ j % c
theorem Div.in_ {M c : Int} {j : Nat} {qf : Nat → Int} {rest : Int} (h : Div M c j qf rest) (hc : 1 ≤ c) : 0 ≤ rest ∧ rest < c := by
  rw [h.rem]; exact ⟨Int.emod_nonneg _ (by omega), Int.emod_lt_of_pos _ (by omega)⟩
theorem div_zero {f : Nat → Int} {c : Int} (hf : Digits f) (hc : 1 ≤ c) : Div (mag f) c 192 (fun _ => 0) 0 := by
  have hm := mag_in hf
  have e : mag f / 2 ^ 192 = 0 := Int.ediv_eq_zero_of_lt hm.1 (by have := hm.2; rw [show (4294967296 : Int) ^ 6 = 2 ^ 192 by decide] at this; exact this)
  exact ⟨fun j _ => by show (0 : Int) ≤ 0 ∧ (0 : Int) < 4294967296; decide, by rw [e]; simp [mag, psum], by rw [e]; simp⟩
/-- the facts of a round -/
structure DivStep (f : Nat → Int) (c : Int) (i : Nat) (qf : Nat → Int) (rest : Int) : Prop where
  r0 : 0 ≤ 2 * rest + bitOf f i
  r1 : 2 * rest + bitOf f i < 18446744073709551616
  m0 : moreD qf qf 0 < 4294967295 ∧ 0 ≤ moreD qf qf 0
  low : 2 * rest + bitOf f i < c → Div (mag f) c i (moreD qf qf) (2 * rest + bitOf f i)
  high : c ≤ 2 * rest + bitOf f i → Div (mag f) c i (put (moreD qf qf) 0 (moreD qf qf 0 + 1)) (2 * rest + bitOf f i - c)
theorem Div.step {f : Nat → Int} {c : Int} {i : Nat} {qf : Nat → Int} {rest : Int} (h : Div (mag f) c (i + 1) qf rest) (hf : Digits f) (hc : 1 ≤ c) (hc1 : c ≤ 9223372036854775807) (hi : i < 192) : DivStep f c i qf rest := by
  have hb := bit_law hf hi
  have hr := h.in_ hc
  have hM := mag_in hf
  have h2 : (0 : Int) < 2 ^ i := Int.pow_pos (by decide)
  have b0 : 0 ≤ bitOf f i ∧ bitOf f i < 2 := by rw [← hb]; omega
  have eT : mag f / 2 ^ i / 2 = mag f / 2 ^ (i + 1) := by rw [Int.ediv_ediv_of_nonneg (Int.le_of_lt h2), ← Int.pow_succ]
  have hT0 : 0 ≤ mag f / 2 ^ i := Int.ediv_nonneg hM.1 (Int.le_of_lt h2)
  have hT1 : mag f / 2 ^ i ≤ mag f := Int.ediv_le_self _ hM.1
  have hq := h.quo
  have hm := h.rem
  rw [← eT] at hq hm
  generalize hTd : mag f / 2 ^ i = T at *
  have hTT : T = 2 * (T / 2) + bitOf f i := by rw [← hb]; omega
  have hqr := Int.mul_ediv_add_emod (T / 2) c
  rw [← hq, ← hm] at hqr
  have hq0 : mag qf ≤ T / 2 := by rw [hq]; exact Int.ediv_le_self _ (by omega)
  have hqn := (mag_in h.dig).1
  have hsum : mag qf + mag qf < 4294967296 ^ 6 := by omega
  have hmm := more_mag h.dig h.dig hsum
  have hmd := more_digits qf qf
  have hd0 := h.dig 0 (by decide)
  have e0 : moreD qf qf 0 = (qf 0 + qf 0) % 4294967296 := by unfold moreD moreC; rw [Int.add_zero]
  have hcq : c * mag qf * 2 = c * (mag qf + mag qf) := by rw [Int.mul_assoc]; congr 1; omega
  have hTe : T = (2 * rest + bitOf f i) + c * (mag qf + mag qf) := by omega
  refine ⟨by omega, by omega, by rw [e0]; omega, fun hl => ⟨hmd, ?_, ?_⟩, fun hl => ⟨digits_put hmd (by rw [e0]; omega) (by rw [e0]; omega), ?_, ?_⟩⟩
  · rw [hTd, hmm, hTe, Int.add_mul_ediv_left _ _ (by omega), Int.ediv_eq_zero_of_lt (by omega) hl, Int.zero_add]
  · rw [hTd, hTe, Int.add_mul_emod_self_left, Int.emod_eq_of_lt (by omega) hl]
  · rw [hTd, mag_put _ (by decide), hmm, hTe, show 2 * rest + bitOf f i + c * (mag qf + mag qf) = (2 * rest + bitOf f i - c) + c * (mag qf + mag qf + 1) by rw [Int.mul_add c _ 1]; omega, Int.add_mul_ediv_left _ _ (by omega), Int.ediv_eq_zero_of_lt (by omega) (by omega)]
    simp
    omega
  · rw [hTd, hTe, show 2 * rest + bitOf f i + c * (mag qf + mag qf) = (2 * rest + bitOf f i - c) + c * (mag qf + mag qf + 1) by rw [Int.mul_add c _ 1]; omega, Int.add_mul_emod_self_left, Int.emod_eq_of_lt (by omega) (by omega)]
theorem neg_div {M c : Int} (hc : 1 ≤ c) : (M % c = 0 → -M / c = -(M / c)) ∧ (M % c ≠ 0 → -M / c = -(M / c) + -1) := by
  have h := Int.mul_ediv_add_emod M c
  have h0 := Int.emod_nonneg M (show c ≠ 0 by omega)
  have h1 := Int.emod_lt_of_pos M (show 0 < c by omega)
  generalize M / c = q at *
  generalize M % c = r at *
  constructor
  · intro hr
    have : -M = c * -q := by rw [Int.mul_neg]; omega
    rw [this, Int.mul_ediv_cancel_left _ (by omega)]
  · intro hr
    have : -M = (c - r) + c * (-q + -1) := by rw [Int.mul_add, Int.mul_neg, Int.mul_neg, Int.mul_one]; omega
    rw [this, Int.add_mul_ediv_left _ _ (by omega), Int.ediv_eq_zero_of_lt (by omega) (by omega), Int.zero_add]
/-- what the division ends with -/
theorem div_pos {b : Bool} {f : Nat → Int} {c x : Int} {qf : Nat → Int} {rest : Int} (hx : Wide false f x) (h : Div (mag f) c 0 qf rest) : Wide false qf (x / c) := by
  refine ⟨h.dig, ?_⟩
  have h1 := hx.val
  have h2 := h.quo
  unfold val at h1 ⊢
  simp at h1 h2 ⊢
  rw [h2, h1]
theorem div_neg0 {f : Nat → Int} {c x : Int} {qf : Nat → Int} {rest : Int} (hx : Wide true f x) (h : Div (mag f) c 0 qf rest) (hc : 1 ≤ c) (hr : rest = 0) : Wide true qf (x / c) := by
  refine ⟨h.dig, ?_⟩
  have h1 := hx.val
  have h2 := h.quo
  have h3 := h.rem
  unfold val at h1 ⊢
  simp at h1 h2 h3 ⊢
  rw [h2, ← h1, (neg_div hc).1 (by omega)]
theorem div_neg1 {f : Nat → Int} {c x : Int} {qf : Nat → Int} {rest : Int} (hx : Wide true f x) (h : Div (mag f) c 0 qf rest) (hc : 1 ≤ c) (hr : rest ≠ 0) :
    Wide true qf (-(mag f / c)) ∧ -(mag f / c) + -1 = x / c ∧ ((-(mag f / c)).natAbs : Int) + (-1 : Int).natAbs < 4294967296 ^ 6 := by
  have h1 := hx.val
  have h2 := h.quo
  have h3 := h.rem
  have hM := mag_in hx.dig
  unfold val at h1
  simp at h1 h2 h3
  refine ⟨⟨h.dig, by unfold val; simp; exact h2⟩, by rw [← h1, (neg_div hc).2 (by omega)], ?_⟩
  have g0 : 0 ≤ mag f / c := Int.ediv_nonneg hM.1 (by omega)
  by_cases hc1 : c = 1
  · subst hc1; simp at h3; omega
  · have g1 : mag f / c ≤ mag f / 2 := by
      have : mag f / c * c ≤ mag f := Int.ediv_mul_le _ (by omega)
      have : mag f / c * 2 ≤ mag f / c * c := Int.mul_le_mul_of_nonneg_left (by omega) g0
      omega
    have h4 : ((4294967296 : Int) ^ 6) = 6277101735386680763835789423207666416102355444464034512896 := by decide
    have := hM.2
    rw [h4] at this ⊢
    omega
end Go.Proofs.Ytcmkjbliiggcbaa
