/-
  Histograms: Quantile; lists that are the same.
-/
import Derived.Test.YtcmkjbliiggcbaaA4
import Derived.Test.YtcmkjbliiggcbaaC4
set_option linter.unusedVariables false
set_option linter.unusedSimpArgs false
namespace Go.Proofs.Ytcmkjbliiggcbaa
open Go.RowKit Go.Shelf
section
variable {w : World} {p n : Nat} {B C : Nat → Int} {T : Int} {A : Option Addr} {cb s cs : Nat}
/-- the first bucket up to which there are enough -/
structure IsQ (C : Nat → Int) (n : Nat) (T a d : Int) (k : Nat) : Prop where
  le : k ≤ n
  ge : a * T ≤ tot C (k + 1) * d
  lt : ∀ j, j < k → tot C (j + 1) * d < a * T
theorem tot_in {C : Nat → Int} {n : Nat} {T : Int} (h : Good C n T) : ∀ k, k ≤ n + 1 → 0 ≤ tot C k ∧ tot C k ≤ T := by
  have h0 : ∀ k, 0 ≤ tot C k := fun k => by induction k with
    | zero => exact Int.le_refl _
    | succ k ih => simp only [tot]; have := h.nn k; omega
  have hm : ∀ k m, tot C k ≤ tot C (k + m) := fun k m => by induction m with
    | zero => exact Int.le_refl _
    | succ m ih => show _ ≤ tot C (k + m) + C (k + m); have := h.nn (k + m); omega
  intro k hk
  refine ⟨h0 k, ?_⟩
  have := hm k (n + 1 - k)
  rw [show k + (n + 1 - k) = n + 1 by omega, h.sum] at this
  exact this

set_option maxRecDepth 100000 in
set_option maxHeartbeats 1000000 in
theorem quant_bad (h : Hist w p n B C T A cb s cs) (a d : Int) (hbad : a < 0 ∨ d < 1 ∨ d < a) :
    Calls Try.prog 16 #[.pointer (some ⟨p, 0, none⟩), .int .i64 a, .int .i64 d] w fun e w' => e = .returned (.tuple #[.int .i64 0, .int .i64 2]) ∧ w = w' := by
  have hv := valid_ok h
  by_cases h1 : a < 0
  · go_enter Try.func16, Try.ntmps16
    go_wp2_with (go_at_call 34; refine hv.mono ?_; rintro e w' ⟨rfl, rfl⟩)
    go_ret2
    exact ⟨rfl, rfl⟩
  · by_cases h2 : d < 1
    · go_enter Try.func16, Try.ntmps16
      go_wp2_with (go_at_call 34; refine hv.mono ?_; rintro e w' ⟨rfl, rfl⟩)
      go_ret2
      exact ⟨rfl, rfl⟩
    · have h3 : d < a := by omega
      go_enter Try.func16, Try.ntmps16
      go_wp2_with (go_at_call 34; refine hv.mono ?_; rintro e w' ⟨rfl, rfl⟩)
      go_ret2
      exact ⟨rfl, rfl⟩
set_option maxRecDepth 100000 in
set_option maxHeartbeats 1000000 in
theorem quant_none (h : Hist w p n B C 0 A cb s cs) (a d : Int) (h1 : 0 ≤ a) (h2 : 1 ≤ d) (h3 : a ≤ d) :
    Calls Try.prog 16 #[.pointer (some ⟨p, 0, none⟩), .int .i64 a, .int .i64 d] w fun e w' => e = .returned (.tuple #[.int .i64 0, .int .i64 5]) ∧ w = w' := by
  have hv := valid_ok h
  obtain ⟨c0, c1, c2⟩ := h.cells
  have n1 : ¬ a < 0 := by omega
  have n2 : ¬ d < 1 := by omega
  have n3 : ¬ d < a := by omega
  go_enter Try.func16, Try.ntmps16
  go_wp2_with (go_at_call 34; refine hv.mono ?_; rintro e w' ⟨rfl, rfl⟩)
  go_ret2
  exact ⟨rfl, rfl⟩
set_option maxRecDepth 100000 in
set_option maxHeartbeats 2000000 in
theorem quant_ok (h : Hist w p n B C T A cb s cs) (hg : Good C n T) (hT : 1 ≤ T) (a d : Int) (h1 : 0 ≤ a) (h2 : 1 ≤ d) (h3 : a ≤ d) (h4 : d ≤ 9223372036854775807) :
    Calls Try.prog 16 #[.pointer (some ⟨p, 0, none⟩), .int .i64 a, .int .i64 d] w fun e w' => ∃ k : Nat, e = .returned (.tuple #[.int .i64 k, .int .i64 0]) ∧ IsQ C n T a d k ∧ Below w.heap.size w w' := by
  have hv := valid_ok h
  have hle := h.le
  have hTl := hg.le
  have q := below_new1 w (.cells #[.int .i64 a, .int .i64 d] 67)
  have kp := Blk.new w 67 #[.int .i64 a, .int .i64 d]
  have hh := h.below q
  have hT0 : (T == 0) = false := by simp; omega
  have HG := Lib.hid hg
  obtain ⟨c0, c1, c2⟩ := h.cells
  have n1 : ¬ a < 0 := by omega
  have n2 : ¬ d < 1 := by omega
  have n3 : ¬ d < a := by omega
  go_enter Try.func16, Try.ntmps16
  go_upto_region 8 with (go_at_call 34; refine hv.mono ?_; rintro e w' ⟨rfl, rfl⟩)
  generalize w.alloc (.cells #[.int .i64 a, .int .i64 d] 67) = W0 at *
  clear c0 c1 c2 hv
  obtain ⟨c0, c1, c2⟩ := hh.cells
  go_wp2_with fail
  go_loopw [9, 41] (fun vu vk wr => ∃ k : Nat, vk = .int .i64 k ∧ k ≤ n + 1 ∧ vu = .int .i64 (tot C k) ∧ Hid (∀ j, j < k → tot C (j + 1) * d < a * T) ∧ Hist wr p n B C T A cb s cs ∧ Blk wr w.heap.size 67 #[.int .i64 a, .int .i64 d] ∧ Below w.heap.size w wr) (fun _ vk _ => n + 1 - (intOf vk).toNat)
  case atStart => exact ⟨0, rfl, Nat.zero_le _, rfl, Lib.hid (fun j hj => by omega), hh, kp, q⟩
  case round =>
    clear hh kp q c0 c1 c2
    obtain ⟨k, rfl, hk, rfl, HJ, hh, kp, q⟩ := hrel
    by_cases hlt : k < n + 1
    · have hki : (k : Int) < (n : Int) + 1 := by omega
      have hck := hh.row.cell hlt
      have hcap := hh.cap
      have t0 := tot_in HG.out k hk
      have t1 := tot_in HG.out (k + 1) (by omega)
      have HS := Lib.hid (show tot C k + C k = tot C (k + 1) from rfl)
      have ck := HG.out.at_ hlt
      obtain ⟨u, hu⟩ : ∃ u, tot C k = u := ⟨_, rfl⟩
      obtain ⟨y, hy⟩ : ∃ y, C k = y := ⟨_, rfl⟩
      obtain ⟨v, hv⟩ : ∃ v, tot C (k + 1) = v := ⟨_, rfl⟩
      have HV := Lib.hid hv
      rw [hv] at t1 HS
      rw [hu] at t0 HS
      rw [hy] at ck hck HS
      rw [hu]
      have huy : u + y = v := HS.out
      have hwv : wrap64 (u + y) = v := by unfold wrap64; omega
      clear hu hy hv HS
      obtain ⟨c0, c1, c2⟩ := hh.cells
      go_wp2_with fail
      have hhd := hh.below (Below.refl _ wr).drew
      have kpd := kp.drew
      have cpd0 := kpd.cell 0
      have cpd1 := kpd.cell 1
      simp at cpd0 cpd1
      clear c0 c1 c2
      obtain ⟨c0, c1, c2⟩ := hhd.cells
      have HE := Lib.hid (show comE v T a d = 0 by unfold comE; rw [if_neg (by omega)])
      have HC := Lib.hid (show comV v T a d = cmp (v * d) (a * T) by unfold comV; rw [if_neg (by omega)])
      go_region_held3 (fun w' => w'.cell? ⟨p, 2, none⟩ = some (.int .i64 T) ∧ w'.cell? ⟨w.heap.size, 0, none⟩ = some (.int .i64 a) ∧ w'.cell? ⟨w.heap.size, 1, none⟩ = some (.int .i64 d)) (go_keep)
        (first
          | (go_at_call 35; refine (compare_ok v T a d ⟨by omega, by omega⟩ ⟨by omega, by omega⟩ ⟨by omega, by omega⟩ ⟨by omega, by omega⟩ _).mono ?_; rw [HE.out, HC.out]; rintro e w1 ⟨rfl, hv1⟩; have hh1 := hhd.below hv1; obtain ⟨m0, m1, m2⟩ := hh1.cells; have kp1 := kpd.below hv1 kpd.lt; have k0 := kp1.cell 0; have k1 := kp1.cell 1; simp at k0 k1)
          | fail)
      all_goals
        have q1 := below_end q.drew q.drew.size hv1
        by_cases hc : a * T ≤ v * d
        · have hcm : 0 ≤ cmp (v * d) (a * T) := by unfold cmp; rw [if_neg (by omega)]; split <;> decide
          generalize cmp (v * d) (a * T) = cv at *
          have HQ := Lib.hid (show IsQ C n T a d k from ⟨by omega, by rw [HV.out]; exact hc, HJ.out⟩)
          clear hc
          go_wp2_with fail
          go_ret2
          exact ⟨k, rfl, HQ.out, q1⟩
        · have hcm : cmp (v * d) (a * T) < 0 := by unfold cmp; rw [if_pos (by omega)]; decide
          generalize cmp (v * d) (a * T) = cv at *
          have HJ2 := Lib.hid (show ∀ j, j < k + 1 → tot C (j + 1) * d < a * T from fun j hj => by
            rcases Nat.lt_or_ge j k with g1 | g1
            · exact HJ.out j g1
            · obtain rfl : j = k := by omega
              rw [HV.out]; omega)
          clear hc
          go_wp2_with fail
          go_roundw
          case rel => exact ⟨k + 1, by simp, by omega, by rw [HV.out], HJ2, hh1, kp1, q1⟩
          case measure => simp [intOf]; omega
    · obtain rfl : k = n + 1 := by omega
      exfalso
      have h5 := HJ.out n (by omega)
      rw [HG.out.sum] at h5
      have h6 : a * T ≤ d * T := Int.mul_le_mul_of_nonneg_right h3 (by omega)
      rw [Int.mul_comm d T] at h6
      omega
end

set_option maxRecDepth 100000 in
theorem same_yes (n ca cb : Nat) (A B : Option Addr) (z : Nat → Int) (w : World) (ha : ArgI .i64 w A n ca z) (hb : ArgI .i64 w B n cb z) (hn : n ≤ 100000) :
    Calls Try.prog 32 #[.slice A n ca, .slice B n cb] w fun e w' => e = .returned (.bool true) ∧ Below w.heap.size w w' := by
  go_enter Try.func32, Try.ntmps32
  go_wp2_with fail
  go_loopw [5] (fun vi wr => ∃ k : Nat, vi = .int .i64 k ∧ k ≤ n ∧ ArgI .i64 wr A n ca z ∧ ArgI .i64 wr B n cb z ∧ Below w.heap.size w wr) (fun vi _ => n - (intOf vi).toNat)
  case atStart => exact ⟨0, rfl, Nat.zero_le _, ha, hb, Below.refl _ _⟩
  case round =>
    clear ha hb
    obtain ⟨k, rfl, hk, ha2, hB2, q⟩ := hrel
    by_cases hlt : k < n
    · obtain ⟨g, o, rfl, hg, hcell⟩ := ha2.2.2.1 (by omega)
      obtain ⟨g', o', rfl, hg', hcell'⟩ := hB2.2.2.1 (by omega)
      have c1 := hcell k hlt
      have c2 := hcell' k hlt
      have hkn : (k : Int) < (n : Int) := by omega
      have hcn := ha2.1
      have hcn' := hB2.1
      clear hcell hcell'
      go_wp2_with fail
      go_quiet (fail)
      go_wp2_with fail
      go_roundw
      case rel => exact ⟨k + 1, by simp, by omega, ha2.below (below_drewN (Below.refl _ _) _), hB2.below (below_drewN (Below.refl _ _) _), below_drewN q _⟩
      case measure => simp [intOf]; omega
    · obtain rfl : k = n := by omega
      go_wp2_with fail
      go_ret
      exact ⟨rfl, q⟩
end Go.Proofs.Ytcmkjbliiggcbaa
