/-
  The walk of HistoTotals.
-/
import Derived.Test.YtcmkjbliiggcbaaA7
set_option linter.unusedVariables false
set_option linter.unusedSimpArgs false
namespace Go.Proofs.Ytcmkjbliiggcbaa
open Go.RowKit Go.Shelf

def ks2 : List IntKind := [.i64, .i64]
theorem steps_at {w : World} {A : Option Addr} {m c : Nat} {z : Nat → Nat → Int} (h : ArgS ks2 w A m c z) {k : Nat} (hk : k < m) :
    ∃ g o, A = some ⟨g, o, none⟩ ∧ g < w.heap.size ∧ w.cell? ⟨g, o + k * 2, none⟩ = some (.int .i64 (z k 0)) ∧ w.cell? ⟨g, o + k * 2 + 1, none⟩ = some (.int .i64 (z k 1)) ∧ Fits (z k 0) ∧ Fits (z k 1) := by
  obtain ⟨g, o, e, hg, hc⟩ := h.2.2.1 (by omega)
  refine ⟨g, o, e, hg, ?_, ?_, wf_i64 (h.2.2.2 k hk 0 _ rfl), wf_i64 (h.2.2.2 k hk 1 _ rfl)⟩
  · exact hc k hk 0 _ rfl
  · exact hc k hk 1 _ rfl

set_option maxRecDepth 100000 in
set_option maxHeartbeats 4000000 in
theorem totals_walk (n c : Nat) (A : Option Addr) (B : Nat → Int) (m d : Nat) (L : Option Addr) (z : Nat → Nat → Int) (w : World) (ha : ArgI .i64 w A n c B) (hA : A = none → n = 0 ∧ c = 0) (hL : ArgS ks2 w L m d z) :
    Calls Try.prog 5 #[.slice A n c, .slice L m d] w fun e w' => e = .returned (.bool true) ∧ Below w.heap.size w w' := by
  by_cases hn : 200 < n
  · have hn' : (200 : Int) < (n : Int) := by omega
    go_enter Try.func5, Try.ntmps5
    go_wp2_with (go_at_call 14; refine (works_ok _).mono ?_; rintro e w9 ⟨rfl, hv9⟩)
    go_ret
    exact ⟨rfl, hv9⟩
  by_cases hm : 200 < m
  · have hn' : ¬ (200 : Int) < (n : Int) := by omega
    have hm' : (200 : Int) < (m : Int) := by omega
    go_enter Try.func5, Try.ntmps5
    go_wp2_with (go_at_call 14; refine (works_ok _).mono ?_; rintro e w9 ⟨rfl, hv9⟩)
    go_ret
    exact ⟨rfl, hv9⟩
  have hn' : ¬ (200 : Int) < (n : Int) := by omega
  have hm' : ¬ (200 : Int) < (m : Int) := by omega
  go_enter Try.func5, Try.ntmps5
  go_wp2_with fail
  refine (new_ok n c A B _ ha hA).mono ?_
  rintro e w1 (⟨p, A', cb, s, cs, rfl, h, hp, hs, hv1⟩ | ⟨rfl, hno, hv1⟩)
  case inr =>
    go_wp2_with (go_at_call 14; refine (works_ok _).mono ?_; rintro e w9 ⟨rfl, hv9⟩)
    go_ret
    exact ⟨rfl, below_end hv1 hv1.size hv9⟩
  have hS : ∀ k, k < w.heap.size → ¬ (k = p ∨ k = s) := fun k hk => by omega
  go_wp2_with fail
  go_loopw [7, 8] (fun vs vk wr => ∃ (k : Nat) (C : Nat → Int) (T : Int), vk = .int .i64 k ∧ k ≤ m ∧ vs = .int .i64 T ∧ Hid (Good C n T) ∧ Hist wr p n B C T A' cb s cs ∧ Below w.heap.size w wr) (fun _ vk _ => m - (intOf vk).toNat)
  case atStart => exact ⟨0, _, 0, rfl, Nat.zero_le _, rfl, Lib.hid (good_zero n), h, hv1⟩
  case round =>
    clear h hv1
    obtain ⟨k, C, T, rfl, hk, rfl, HG, h, q⟩ := hrel
    have hTl := HG.out.le
    have hT0 := HG.out.t0
    by_cases hlt : k < m
    · obtain ⟨g, o, rfl, hg, b0, b1, fx, ft⟩ := steps_at hL hlt
      have hmd := hL.1
      have hkm : (k : Int) < (m : Int) := by omega
      obtain ⟨x, hx⟩ : ∃ x, z k 0 = x := ⟨_, rfl⟩
      obtain ⟨t, ht⟩ : ∃ t, z k 1 = t := ⟨_, rfl⟩
      rw [hx] at b0 fx
      rw [ht] at b1 ft
      have ft0 := ft.1
      have ft1 := ft.2
      clear hx ht
      have d0 := (q.cell (p := ⟨g, o + k * 2, none⟩) hg).trans b0
      have d1 := (q.cell (p := ⟨g, o + k * 2 + 1, none⟩) hg).trans b1
      have hd := h.below (Below.refl _ wr).drew
      by_cases hneg : t < 0
      · have hn1 : ¬ 0 ≤ t := by omega
        go_wp2_with fail
        have e0 : wr.drew.cell? ⟨g, o + k * 2, none⟩ = some (.int .i64 x) := d0
        have e1 : wr.drew.cell? ⟨g, o + k * 2 + 1, none⟩ = some (.int .i64 t) := d1
        go_region_held3 (fun w' => w'.cell? ⟨g, o + k * 2, none⟩ = some (.int .i64 x) ∧ w'.cell? ⟨g, o + k * 2 + 1, none⟩ = some (.int .i64 t)) (go_keep)
          (first
            | (go_at_call 20; refine (hadd_neg hd x t hneg).mono ?_; rintro e w' ⟨rfl, rfl⟩)
            | fail)
        all_goals
          go_wp2_with fail
          go_roundw
          case rel => exact ⟨k + 1, C, T, by simp, by omega, rfl, HG, hd, q.drew⟩
          case measure => simp [intOf]; omega
      · have ht0 : 0 ≤ t := by omega
        by_cases hov : 9223372036854775807 < T + t
        · have hov1 : ¬ t ≤ 9223372036854775807 - T := by omega
          go_wp2_with fail
          have e0 : wr.drew.cell? ⟨g, o + k * 2, none⟩ = some (.int .i64 x) := d0
          have e1 : wr.drew.cell? ⟨g, o + k * 2 + 1, none⟩ = some (.int .i64 t) := d1
          go_region_held3 (fun w' => w'.cell? ⟨g, o + k * 2, none⟩ = some (.int .i64 x) ∧ w'.cell? ⟨g, o + k * 2 + 1, none⟩ = some (.int .i64 t)) (go_keep)
            (first
              | (go_at_call 20; refine (hadd_over hd HG.out x t ht0 ft1 hov).mono ?_; rintro e w' ⟨rfl, rfl⟩)
              | fail)
          all_goals
            go_wp2_with fail
            go_roundw
            case rel => exact ⟨k + 1, C, T, by simp, by omega, rfl, HG, hd, q.drew⟩
            case measure => simp [intOf]; omega
        · have hle : t ≤ 9223372036854775807 - T := by omega
          go_wp2_with fail
          have e0 : wr.drew.cell? ⟨g, o + k * 2, none⟩ = some (.int .i64 x) := d0
          have e1 : wr.drew.cell? ⟨g, o + k * 2 + 1, none⟩ = some (.int .i64 t) := d1
          go_region_held3 (fun w' => w'.cell? ⟨g, o + k * 2, none⟩ = some (.int .i64 x) ∧ w'.cell? ⟨g, o + k * 2 + 1, none⟩ = some (.int .i64 t)) (go_keep)
            (first
              | (go_at_call 20; refine (hadd_ok hd HG.out x t ht0 (by omega)).mono ?_; rintro e w2 ⟨rfl, h2, t2⟩; have q2 := below_turns q.drew q.drew.size t2 hS; have m0 := (q2.cell (p := ⟨g, o + k * 2, none⟩) hg).trans b0; have m1 := (q2.cell (p := ⟨g, o + k * 2 + 1, none⟩) hg).trans b1)
              | fail)
          all_goals
            have HG2 := Lib.hid (HG.out.add B x t ht0 (by omega))
            go_wp2_with fail
            go_roundw
            case rel => exact ⟨k + 1, _, T + t, by simp, by omega, rfl, HG2, h2, q2⟩
            case measure => simp [intOf]; omega
    · obtain rfl : k = m := by omega
      have hle := h.le
      have hft := HG.out.fits
      have HF := Lib.hid hft
      clear hft
      go_wp2_with fail
      refine (counts_ok h HF.out).mono ?_
      rintro e w2 ⟨D, cd, rfl, hD, _, hv2⟩
      have h2 := h.below hv2
      have q := below_end q q.size hv2
      go_wp2_with fail
      go_loop [11, 13] (fun va vi => ∃ i : Nat, vi = .int .i64 i ∧ i ≤ n + 1 ∧ va = .int .i64 (tot C i)) (fun _ vi => n + 1 - (intOf vi).toNat)
      case atStart => exact ⟨0, rfl, Nat.zero_le _, rfl⟩
      case round =>
        obtain ⟨i, rfl, hi, rfl⟩ := hrel
        have t0 := tot_in HG.out i hi
        by_cases hli : i < n + 1
        · obtain ⟨g, o, rfl, hg, hc⟩ := hD.2.2.1 (by omega)
          have ci := hc i hli
          have hin : (i : Int) < (n : Int) + 1 := by omega
          have cb0 := HG.out.at_ hli
          have t1 := tot_in HG.out (i + 1) (by omega)
          have HS := Lib.hid (show tot C i + C i = tot C (i + 1) from rfl)
          obtain ⟨u, hu⟩ : ∃ u, tot C i = u := ⟨_, rfl⟩
          obtain ⟨y, hy⟩ : ∃ y, C i = y := ⟨_, rfl⟩
          obtain ⟨v, hv⟩ : ∃ v, tot C (i + 1) = v := ⟨_, rfl⟩
          have HV := Lib.hid hv
          rw [hv] at t1 HS
          rw [hu] at t0 HS
          rw [hy] at ci cb0 HS
          rw [hu]
          have huv := HS.out
          have hdc := hD.1
          clear hc hu hy hv
          go_wp2_with fail
          go_round
          case rel => exact ⟨i + 1, by simp, by omega, by rw [HV.out]⟩
          case measure => simp [intOf]; omega
        · obtain rfl : i = n + 1 := by omega
          rw [HG.out.sum]
          go_wp2_with (first
            | (go_at_call 22; refine (total_ok h2).mono ?_; rintro e w' ⟨rfl, rfl⟩)
            | (go_at_call 14; refine (works_ok _).mono ?_; rintro e w9 ⟨rfl, hv9⟩))
          go_ret
          exact ⟨rfl, below_end q q.size hv9⟩
end Go.Proofs.Ytcmkjbliiggcbaa
