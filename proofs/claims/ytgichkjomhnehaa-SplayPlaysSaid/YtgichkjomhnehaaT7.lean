/-
  The document's sequences: Total, Sum.
-/
import Derived.Test.YtgichkjomhnehaaT6
set_option linter.unusedVariables false
set_option linter.unusedSectionVars false
set_option linter.unusedSimpArgs false
namespace Go.Proofs.Ytgichkjomhnehaa
open Go.RowKit Go.Shelf

/-- the sum of the first numbers -/
def sumZ (z : Nat → Int) : Nat → Int
  | 0 => 0
  | k + 1 => sumZ z k + z k
set_option maxRecDepth 100000 in
set_option maxHeartbeats 1000000 in
theorem rtotal_ok (n c : Nat) (A : Option Addr) (z : Nat → Int) (w : World) (ha : ArgI .i64 w A n c z) (hn : n ≤ 1000) :
    Calls Try.prog 61 #[.slice A n c] w fun e w' => e = .returned (.tuple #[.int .i64 (sumV (sumZ z n)), .bool (decide (sumE (sumZ z n) = 0))]) ∧ w = w' := by
  have hn63 := ha.2.1
  have hnc := ha.1
  obtain ⟨T, hT⟩ : ∃ T, sumZ z n = T := ⟨_, rfl⟩
  rw [hT]
  have HT := Lib.hid hT
  clear hT
  go_enter Try.func61, Try.ntmps61
  go_wp2_with fail
  go_loop [4, 5, 6, 7] (fun vh vl vk _ => ∃ (k : Nat) (H L : Int), vh = .int .i64 H ∧ vl = .int .i64 L ∧ vk = .int .i64 k ∧ k ≤ n ∧ Hid (sumZ z k = H * 4294967296 + L ∧ -(2147483648 * (k : Int)) ≤ H ∧ H ≤ 2147483648 * (k : Int) ∧ 0 ≤ L ∧ L ≤ 4294967296 * (k : Int))) (fun _ _ vk _ => n - (intOf vk).toNat)
  case atStart => exact ⟨0, 0, 0, rfl, rfl, rfl, Nat.zero_le _, Lib.hid (by simp [sumZ])⟩
  case round =>
    obtain ⟨k, H, L, rfl, rfl, rfl, hk, HH⟩ := hrel
    by_cases hlt : k < n
    · have hkn : (k : Int) < (n : Int) := by omega
      obtain ⟨g, o, rfl, hg, hc⟩ := ha.2.2.1 (by omega)
      have ck := hc k hlt
      have hz := wf_i64 (ha.2.2.2 k hlt)
      obtain ⟨v, hv⟩ : ∃ v, z k = v := ⟨_, rfl⟩
      rw [hv] at ck hz
      have HV := Lib.hid hv
      obtain ⟨e1, e2, e3, e4, e5⟩ := HH.out
      have b1 : -2147483648000 ≤ H ∧ H ≤ 2147483648000 := by omega
      have b2 : 0 ≤ L ∧ L ≤ 4294967296000 := by omega
      obtain ⟨d, hd⟩ : ∃ d, v / 4294967296 = d := ⟨_, rfl⟩
      obtain ⟨p, hp⟩ : ∃ p, d * 4294967296 = p := ⟨_, rfl⟩
      obtain ⟨e, he⟩ : ∃ e, v - p = e := ⟨_, rfl⟩
      have hd1 : -2147483648 ≤ d ∧ d ≤ 2147483647 := by omega
      have hp1 : -9223372036854775808 ≤ p ∧ p ≤ 9223372036854775807 := by omega
      have he1 : 0 ≤ e ∧ e ≤ 4294967295 := by omega
      have HN := Lib.hid (show sumZ z (k + 1) = (H + d) * 4294967296 + (L + e) ∧ -(2147483648 * ((k + 1 : Nat) : Int)) ≤ H + d ∧ H + d ≤ 2147483648 * ((k + 1 : Nat) : Int) ∧ 0 ≤ L + e ∧ L + e ≤ 4294967296 * ((k + 1 : Nat) : Int) by
        have : sumZ z (k + 1) = sumZ z k + v := by rw [← hv]; rfl
        rw [this]
        omega)
      clear e1 e2 e3 e4 e5 hc hv
      go_wp2_with fail
      go_round
      case rel => exact ⟨k + 1, H + d, L + e, rfl, rfl, by simp, by omega, HN⟩
      case measure => simp [intOf]; omega
    · obtain rfl : k = n := by omega
      have hkn : ¬ (k : Int) < (k : Int) := by omega
      obtain ⟨e1, e2, e3, e4, e5⟩ := HH.out
      have b1 : -2147483648000 ≤ H ∧ H ≤ 2147483648000 := by omega
      have b2 : 0 ≤ L ∧ L ≤ 4294967296000 := by omega
      obtain ⟨d, hd⟩ : ∃ d, L / 4294967296 = d := ⟨_, rfl⟩
      obtain ⟨e, he⟩ : ∃ e, L % 4294967296 = e := ⟨_, rfl⟩
      have hd1 : 0 ≤ d ∧ d ≤ 1000 := by omega
      have he1 : 0 ≤ e ∧ e ≤ 4294967295 := by omega
      rw [HT.out] at e1
      have hTe : T = (H + d) * 4294967296 + e := by omega
      obtain ⟨G, hG⟩ : ∃ G, H + d = G := ⟨_, rfl⟩
      have hG1 : -2147483648000 ≤ G ∧ G ≤ 2147483649000 := by omega
      have d1 : L.tdiv 4294967296 = d := by rw [Int.tdiv_eq_ediv_of_nonneg (by omega)]; exact hd
      have d2 : L.tmod 4294967296 = e := by rw [Int.tmod_eq_emod_of_nonneg (by omega)]; exact he
      by_cases hf : -2147483648 ≤ G ∧ G < 2147483648
      · obtain ⟨p, hp⟩ : ∃ p, G * 4294967296 = p := ⟨_, rfl⟩
        have hp1 : -9223372036854775808 ≤ p ∧ p ≤ 9223372032559808512 := by omega
        have hfit : Fits T := ⟨by omega, by omega⟩
        have hs : p + e = T := by omega
        have HS := Lib.hid (show sumV T = T ∧ decide (sumE T = 0) = true from ⟨if_pos hfit, by rw [show sumE T = 0 from if_pos hfit]; rfl⟩)
        obtain ⟨f1, f2⟩ := hf
        have f3 : ¬ G < -2147483648 := by omega
        have f4 : ¬ 2147483648 ≤ G := by omega
        have hT1 := hfit.1
        have hT2 := hfit.2
        clear hfit hTe e1 e2 e3 e4 e5
        go_wp2_with fail
        go_ret2
        rw [HS.out.1, HS.out.2]
        exact ⟨rfl, rfl⟩
      · have hfit : ¬ Fits T := fun ⟨g1, g2⟩ => by omega
        have HS := Lib.hid (show sumV T = 0 ∧ decide (sumE T = 0) = false from ⟨if_neg hfit, by rw [show sumE T = 7 from if_neg hfit]; rfl⟩)
        clear hfit hTe e1 e2 e3 e4 e5
        by_cases f3 : G < -2147483648
        · go_wp2_with fail
          go_ret2
          rw [HS.out.1, HS.out.2]
          exact ⟨rfl, rfl⟩
        · have f4 : 2147483648 ≤ G := by omega
          have f5 : -2147483648 ≤ G := by omega
          clear hf
          go_wp2_with fail
          go_ret2
          rw [HS.out.1, HS.out.2]
          exact ⟨rfl, rfl⟩
end Go.Proofs.Ytgichkjomhnehaa
