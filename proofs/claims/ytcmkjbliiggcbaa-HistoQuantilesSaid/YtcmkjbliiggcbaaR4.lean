/-
  The document's Quantile.
-/
import Derived.Test.YtcmkjbliiggcbaaR1
import Derived.Test.YtcmkjbliiggcbaaE11
set_option linter.unusedVariables false
set_option linter.unusedSimpArgs false
namespace Go.Proofs.Ytcmkjbliiggcbaa
open Go.RowKit Go.Shelf

theorem isq_unique {C : Nat → Int} {n : Nat} {T a d : Int} {i j : Nat} (h : IsQ C n T a d i) (k : IsQ C n T a d j) : i = j := by
  rcases Nat.lt_trichotomy i j with h1 | h1 | h1
  · have := k.lt i h1; have := h.ge; omega
  · exact h1
  · have := h.lt j h1; have := k.ge; omega
/-- so many are needed, rounded up -/
theorem need_law {a d T : Int} (h1 : 0 ≤ a) (h2 : 1 ≤ d) (h3 : a ≤ d) (hT : 1 ≤ T) (hT1 : T ≤ 9223372036854775807) :
    ∃ v : Int, mdV (-a) T d = v ∧ -T ≤ v ∧ v ≤ 0 ∧ ∀ u : Int, (-v ≤ u ↔ a * T ≤ u * d) := by
  have hq := Int.mul_ediv_add_emod (-a * T) d
  have hr0 := Int.emod_nonneg (-a * T) (show d ≠ 0 by omega)
  have hr1 := Int.emod_lt_of_pos (-a * T) (show 0 < d by omega)
  have e1 : -a * T = -(a * T) := Int.neg_mul a T
  have p0 : 0 ≤ a * T := Int.mul_nonneg h1 (by omega)
  have p1 : a * T ≤ d * T := Int.mul_le_mul_of_nonneg_right h3 (by omega)
  have v0 : -a * T / d ≤ 0 := by
    rcases Int.lt_or_le 0 (-a * T / d) with h | h
    · have : d * 1 ≤ d * (-a * T / d) := Int.mul_le_mul_of_nonneg_left (by omega) (by omega)
      rw [e1] at hq hr0 this
      omega
    · exact h
  have v1 : -T ≤ -a * T / d := by
    rcases Int.lt_or_le (-a * T / d) (-T) with h | h
    · have : d * (-a * T / d) ≤ d * (-T - 1) := Int.mul_le_mul_of_nonneg_left (by omega) (by omega)
      rw [Int.mul_sub, Int.mul_neg, Int.mul_one] at this
      rw [e1] at hq hr1 this
      omega
    · exact h
  refine ⟨-a * T / d, ?_, v1, v0, fun u => ?_⟩
  · unfold mdV; rw [if_neg (by omega)]; exact fitV_in ⟨by omega, by omega⟩
  · generalize -a * T / d = v at *
    constructor
    · intro h
      have : d * (-v) ≤ d * u := Int.mul_le_mul_of_nonneg_left h (by omega)
      rw [Int.mul_neg] at this
      rw [Int.mul_comm u d]
      rw [e1] at hq hr0
      omega
    · intro h
      rcases Int.lt_or_le u (-v) with h4 | h4
      · have : d * u ≤ d * (-v - 1) := Int.mul_le_mul_of_nonneg_left (by omega) (by omega)
        rw [Int.mul_sub, Int.mul_neg, Int.mul_one] at this
        rw [Int.mul_comm u d] at h
        rw [e1] at hq hr1
        omega
      · exact h4
section
variable {w : World} {p n : Nat} {B C : Nat → Int} {T : Int} {A : Option Addr} {cb s cs : Nat}
set_option maxRecDepth 100000 in
set_option maxHeartbeats 1000000 in
theorem rquant_bad (h : RHist w p n B C A cb s cs) (a d : Int) (hbad : a < 0 ∨ d < 1 ∨ d < a) :
    Calls Try.prog 17 #[.pointer (some ⟨p, 0, none⟩), .int .i64 a, .int .i64 d] w fun e w' => e = .returned (.tuple #[.int .i64 0, .int .i64 2]) ∧ w = w' := by
  have hv := rvalid_ok h
  by_cases h1 : a < 0
  · go_enter Try.func17, Try.ntmps17
    go_wp2_with (go_at_call 36; refine hv.mono ?_; rintro e w' ⟨rfl, rfl⟩)
    go_ret2
    exact ⟨rfl, rfl⟩
  · by_cases h2 : d < 1
    · go_enter Try.func17, Try.ntmps17
      go_wp2_with (go_at_call 36; refine hv.mono ?_; rintro e w' ⟨rfl, rfl⟩)
      go_ret2
      exact ⟨rfl, rfl⟩
    · have h3 : d < a := by omega
      go_enter Try.func17, Try.ntmps17
      go_wp2_with (go_at_call 36; refine hv.mono ?_; rintro e w' ⟨rfl, rfl⟩)
      go_ret2
      exact ⟨rfl, rfl⟩
set_option maxRecDepth 100000 in
set_option maxHeartbeats 1000000 in
theorem rquant_none (h : RHist w p n B C A cb s cs) (hg : Good C n 0) (a d : Int) (h1 : 0 ≤ a) (h2 : 1 ≤ d) (h3 : a ≤ d) :
    Calls Try.prog 17 #[.pointer (some ⟨p, 0, none⟩), .int .i64 a, .int .i64 d] w fun e w' => e = .returned (.tuple #[.int .i64 0, .int .i64 5]) ∧ w = w' := by
  have hv := rvalid_ok h
  have ht := rtotal_ok h hg
  have n1 : ¬ a < 0 := by omega
  have n2 : ¬ d < 1 := by omega
  have n3 : ¬ d < a := by omega
  go_enter Try.func17, Try.ntmps17
  go_wp2_with (first
    | (go_at_call 36; refine hv.mono ?_; rintro e w' ⟨rfl, rfl⟩)
    | (go_at_call 37; refine ht.mono ?_; rintro e w' ⟨rfl, rfl⟩))
  go_ret2
  exact ⟨rfl, rfl⟩
set_option maxRecDepth 100000 in
set_option maxHeartbeats 2000000 in
theorem rquant_ok (h : RHist w p n B C A cb s cs) (hg : Good C n T) (hT : 1 ≤ T) (a d : Int) (h1 : 0 ≤ a) (h2 : 1 ≤ d) (h3 : a ≤ d) (h4 : d ≤ 9223372036854775807) :
    Calls Try.prog 17 #[.pointer (some ⟨p, 0, none⟩), .int .i64 a, .int .i64 d] w fun e w' => ∃ k : Nat, e = .returned (.tuple #[.int .i64 k, .int .i64 0]) ∧ IsQ C n T a d k ∧ Below w.heap.size w w' := by
  have hv := rvalid_ok h
  have ht := rtotal_ok h hg
  have hle := h.le
  have hTl := hg.le
  have hT0 : (T == 0) = false := by simp; omega
  have HG := Lib.hid hg
  obtain ⟨v, hmd, v1, v0, hneed⟩ := need_law h1 h2 h3 hT hTl
  have HMd := Lib.hid hmd
  have HN := Lib.hid hneed
  clear hmd hneed
  have n1 : ¬ a < 0 := by omega
  have n2 : ¬ d < 1 := by omega
  have n3 : ¬ d < a := by omega
  have wa : wrap64 (-a) = -a := by unfold wrap64; omega
  have wv : wrap64 (-v) = -v := by unfold wrap64; omega
  go_enter Try.func17, Try.ntmps17
  go_upto_region 9 with (first
    | (go_at_call 36; refine hv.mono ?_; rintro e w' ⟨rfl, rfl⟩)
    | (go_at_call 37; refine ht.mono ?_; rintro e w' ⟨rfl, rfl⟩)
    | (go_at_call 38; refine (rmd_ok (-a) T d ⟨by omega, by omega⟩ ⟨by omega, by omega⟩ ⟨by omega, by omega⟩ _).mono ?_; rw [HMd.out]; rintro e w1 ⟨rfl, hv1⟩))
  have hh := h.below hv1
  clear hv ht
  obtain ⟨c0, c1, c2⟩ := hh.cells
  go_wp2_with fail
  go_loop [11, 12] (fun vu vk => ∃ k : Nat, vk = .int .i64 k ∧ k ≤ n + 1 ∧ vu = .int .i64 (tot C k) ∧ Hid (∀ j, j < k → tot C (j + 1) * d < a * T)) (fun _ vk => n + 1 - (intOf vk).toNat)
  case atStart => exact ⟨0, rfl, Nat.zero_le _, rfl, Lib.hid (fun j hj => by omega)⟩
  case round =>
    obtain ⟨k, rfl, hk, rfl, HJ⟩ := hrel
    by_cases hlt : k < n + 1
    · have hki : (k : Int) < (n : Int) + 1 := by omega
      have hck := hh.row.cell hlt
      have hcap := hh.cap
      have t0 := tot_in HG.out k hk
      have t1 := tot_in HG.out (k + 1) (by omega)
      have HS := Lib.hid (show tot C k + C k = tot C (k + 1) from rfl)
      have ck := HG.out.at_ hlt
      obtain ⟨u, hu⟩ : ∃ u, tot C k = u := ⟨_, rfl⟩
      obtain ⟨y, hy⟩ : ∃ y, C k = y := ⟨_, rfl⟩
      obtain ⟨x, hx⟩ : ∃ x, tot C (k + 1) = x := ⟨_, rfl⟩
      have HV := Lib.hid hx
      rw [hx] at t1 HS
      rw [hu] at t0 HS
      rw [hy] at ck hck HS
      rw [hu]
      have huy : u + y = x := HS.out
      have hnd := HN.out x
      clear hu hy hx HS
      by_cases hc : -v ≤ x
      · have HQ := Lib.hid (show IsQ C n T a d k from ⟨by omega, by rw [HV.out]; exact hnd.1 hc, HJ.out⟩)
        clear hnd
        go_wp2_with fail
        go_ret2
        exact ⟨k, rfl, HQ.out, hv1⟩
      · have hcl : x < -v := by omega
        have HJ2 := Lib.hid (show ∀ j, j < k + 1 → tot C (j + 1) * d < a * T from fun j hj => by
          rcases Nat.lt_or_ge j k with g1 | g1
          · exact HJ.out j g1
          · obtain rfl : j = k := by omega
            rw [HV.out]
            rcases Int.lt_or_le (x * d) (a * T) with g2 | g2
            · exact g2
            · exact (hc (hnd.2 g2)).elim)
        clear hnd hc
        go_wp2_with fail
        go_round
        case rel => exact ⟨k + 1, by simp, by omega, by rw [HV.out], HJ2⟩
        case measure => simp [intOf]; omega
    · obtain rfl : k = n + 1 := by omega
      exfalso
      have h5 := HJ.out n (by omega)
      rw [HG.out.sum] at h5
      have h6 : a * T ≤ d * T := Int.mul_le_mul_of_nonneg_right h3 (by omega)
      rw [Int.mul_comm d T] at h6
      omega
theorem rvoid_quant (w : World) (a d : Int) : Calls Try.prog 17 #[.pointer none, .int .i64 a, .int .i64 d] w fun e w' => e = .returned (.tuple #[.int .i64 0, .int .i64 1]) ∧ w = w' := by
  have hv := rvalid_no w
  go_enter Try.func17, Try.ntmps17
  go_wp2_with (go_at_call 36; refine hv.mono ?_; rintro e w' ⟨rfl, rfl⟩)
  go_ret2
  exact ⟨rfl, rfl⟩
end
end Go.Proofs.Ytcmkjbliiggcbaa
