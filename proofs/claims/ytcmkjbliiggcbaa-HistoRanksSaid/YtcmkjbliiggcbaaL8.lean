/-
  The walk of HistoRanks.
-/
import Derived.Test.YtcmkjbliiggcbaaL2
import Derived.Deep.RegionLaw
import Derived.BigQuiet
import Derived.Test.YtcmkjbliiggcbaaQTail
set_option linter.unusedVariables false
set_option linter.unusedSimpArgs false
namespace Go.Proofs.Ytcmkjbliiggcbaa
open Go.RowKit Go.Shelf

/-- a greater fraction has no smaller quantile -/
theorem isq_mono {C : Nat → Int} {n : Nat} {T a b d : Int} {i j : Nat} (h : IsQ C n T a d i) (k : IsQ C n T b d j) (hab : b ≤ a) (hT : 0 ≤ T) : j ≤ i := by
  rcases Nat.lt_or_ge i j with h1 | h1
  · have h2 := k.lt i h1
    have h3 := h.ge
    have h4 : b * T ≤ a * T := Int.mul_le_mul_of_nonneg_right hab hT
    omega
  · exact h1

set_option maxRecDepth 100000 in
set_option maxHeartbeats 4000000 in
theorem ranks_walk (n c : Nat) (A : Option Addr) (B : Nat → Int) (m d : Nat) (L : Option Addr) (z : Nat → Nat → Int) (x0 x1 x2 : Int) (w : World) (ha : ArgI .i64 w A n c B) (hA : A = none → n = 0 ∧ c = 0) (hL : ArgS ks2 w L m d z) (u0 : 0 ≤ x0 ∧ x0 ≤ 4294967295) (u1 : 0 ≤ x1 ∧ x1 ≤ 4294967295) (u2 : 0 ≤ x2 ∧ x2 ≤ 4294967295) :
    Calls Try.prog 6 #[.slice A n c, .slice L m d, .agg #[.int .u32 x0, .int .u32 x1, .int .u32 x2]] w fun e w' => e = .returned (.bool true) ∧ Below w.heap.size w w' := by
  have q0 := below_new1 w (.cells #[.int .u32 x0, .int .u32 x1, .int .u32 x2] 45)
  have k0 := Blk.new w 45 #[.int .u32 x0, .int .u32 x1, .int .u32 x2]
  have ha0 := ha.below q0
  by_cases hn : 200 < n
  · have hn' : (200 : Int) < (n : Int) := by omega
    go_enter Try.func6, Try.ntmps6
    go_wp2_with (go_at_call 14; refine (works_ok _).mono ?_; rintro e w9 ⟨rfl, hv9⟩)
    go_ret
    exact ⟨rfl, below_end q0 q0.size hv9⟩
  by_cases hm : 200 < m
  · have hn' : ¬ (200 : Int) < (n : Int) := by omega
    have hm' : (200 : Int) < (m : Int) := by omega
    go_enter Try.func6, Try.ntmps6
    go_wp2_with (go_at_call 14; refine (works_ok _).mono ?_; rintro e w9 ⟨rfl, hv9⟩)
    go_ret
    exact ⟨rfl, below_end q0 q0.size hv9⟩
  have hn' : ¬ (200 : Int) < (n : Int) := by omega
  have hm' : ¬ (200 : Int) < (m : Int) := by omega
  have hsz0 := q0.size
  go_enter Try.func6, Try.ntmps6
  go_upto_region 1 with fail
  generalize w.alloc (.cells #[.int .u32 x0, .int .u32 x1, .int .u32 x2] 45) = W0 at *
  go_wp2_with fail
  refine (new_ok n c A B _ ha0 hA).mono ?_
  rintro e w1 (⟨p, A', cb, s, cs, rfl, h, hp, hs, hv1⟩ | ⟨rfl, hno, hv1⟩)
  case inr =>
    go_wp2_with (go_at_call 14; refine (works_ok _).mono ?_; rintro e w9 ⟨rfl, hv9⟩)
    go_ret
    have q := below_end q0 hsz0 hv1
    exact ⟨rfl, below_end q q.size hv9⟩
  have hS : ∀ k, k < W0.heap.size → ¬ (k = p ∨ k = s) := fun k hk => by omega
  have q := hv1
  go_wp2_with fail
  go_loopw [9] (fun vk wr => ∃ (k : Nat) (C : Nat → Int) (T : Int), vk = .int .i64 k ∧ k ≤ m ∧ T ≤ k * 1048576 ∧ Hid (Good C n T) ∧ Hist wr p n B C T A' cb s cs ∧ Below W0.heap.size W0 wr) (fun vk _ => m - (intOf vk).toNat)
  case atStart => exact ⟨0, _, 0, rfl, Nat.zero_le _, by omega, Lib.hid (good_zero n), h, hv1⟩
  case round =>
    clear h hv1 q
    obtain ⟨k, C, T, rfl, hk, hTk, HG, h, q⟩ := hrel
    have hTl := HG.out.le
    have hT0 := HG.out.t0
    by_cases hlt : k < m
    · obtain ⟨g, o, rfl, hg, b0, b1, fx, ft⟩ := steps_at hL hlt
      have hmd := hL.1
      have hkm : (k : Int) < (m : Int) := by omega
      obtain ⟨x, hx⟩ : ∃ x, z k 0 = x := ⟨_, rfl⟩
      obtain ⟨t, ht⟩ : ∃ t, z k 1 = t := ⟨_, rfl⟩
      rw [hx] at b0 fx
      rw [ht] at b1 ft
      have ft0 := ft.1
      have ft1 := ft.2
      clear hx ht
      have hgW : g < W0.heap.size := Nat.lt_of_lt_of_le hg hsz0
      have B0 := (q0.cell (p := ⟨g, o + k * 2, none⟩) hg).trans b0
      have B1 := (q0.cell (p := ⟨g, o + k * 2 + 1, none⟩) hg).trans b1
      have d0 := (q.cell (p := ⟨g, o + k * 2, none⟩) hgW).trans B0
      have d1 := (q.cell (p := ⟨g, o + k * 2 + 1, none⟩) hgW).trans B1
      have hd := h.below (Below.refl _ wr).drew
      obtain ⟨t', ht'⟩ : ∃ t', min t 1048576 = t' := ⟨_, rfl⟩
      have ht2 : t' ≤ 1048576 := by omega
      by_cases hneg : t' < 0
      · go_wp2_with fail
        have e0 : wr.drew.cell? ⟨g, o + k * 2, none⟩ = some (.int .i64 x) := d0
        have e1 : wr.drew.cell? ⟨g, o + k * 2 + 1, none⟩ = some (.int .i64 t) := d1
        go_region_held3 (fun w' => w'.cell? ⟨g, o + k * 2, none⟩ = some (.int .i64 x) ∧ w'.cell? ⟨g, o + k * 2 + 1, none⟩ = some (.int .i64 t)) (go_keep)
          (first
            | (go_at_call 20; refine (hadd_neg hd x t' hneg).mono ?_; rintro e w' ⟨rfl, rfl⟩)
            | fail)
        all_goals
          go_wp2_with fail
          go_roundw
          case rel => exact ⟨k + 1, C, T, by simp, by omega, by omega, HG, hd, q.drew⟩
          case measure => simp [intOf]; omega
      · have ht0 : 0 ≤ t' := by omega
        go_wp2_with fail
        have e0 : wr.drew.cell? ⟨g, o + k * 2, none⟩ = some (.int .i64 x) := d0
        have e1 : wr.drew.cell? ⟨g, o + k * 2 + 1, none⟩ = some (.int .i64 t) := d1
        go_region_held3 (fun w' => w'.cell? ⟨g, o + k * 2, none⟩ = some (.int .i64 x) ∧ w'.cell? ⟨g, o + k * 2 + 1, none⟩ = some (.int .i64 t)) (go_keep)
          (first
            | (go_at_call 20; refine (hadd_ok hd HG.out x t' ht0 (by omega)).mono ?_; rintro e w2 ⟨rfl, h2, t2⟩; have q2 := below_turns q.drew q.drew.size t2 hS; have m0 := (q2.cell (p := ⟨g, o + k * 2, none⟩) hgW).trans B0; have m1 := (q2.cell (p := ⟨g, o + k * 2 + 1, none⟩) hgW).trans B1)
            | fail)
        all_goals
          have HG2 := Lib.hid (HG.out.add B x t' ht0 (by omega))
          go_wp2_with fail
          go_roundw
          case rel => exact ⟨k + 1, _, T + t', by simp, by omega, by omega, HG2, h2, q2⟩
          case measure => simp [intOf]; omega
    · obtain rfl : k = m := by omega
      have hTs : T ≤ 209715200 := by omega
      have hle := h.le
      have kq := k0.below q k0.lt
      have qw := below_end q0 hsz0 q
      have c0 := kq.cell 0
      have c1 := kq.cell 1
      have c2 := kq.cell 2
      simp at c0 c1 c2
      obtain ⟨D, hD⟩ : ∃ D, x0 % 1048576 + 1 = D := ⟨_, rfl⟩
      have D1 : 1 ≤ D ∧ D ≤ 1048576 := by omega
      obtain ⟨N, hN⟩ : ∃ N, x1 % (D + 1) = N := ⟨_, rfl⟩
      have N0 : 0 ≤ N ∧ N ≤ D := by
        have := Int.emod_nonneg x1 (show D + 1 ≠ 0 by omega)
        have := Int.emod_lt_of_pos x1 (show 0 < D + 1 by omega)
        omega
      obtain ⟨M, hM⟩ : ∃ M, x2 % (N + 1) = M := ⟨_, rfl⟩
      have M0 : 0 ≤ M ∧ M ≤ N := by
        have := Int.emod_nonneg x2 (show N + 1 ≠ 0 by omega)
        have := Int.emod_lt_of_pos x2 (show 0 < N + 1 by omega)
        omega
      have hD1 : D + 1 ≠ 0 := by omega
      have hN1 : N + 1 ≠ 0 := by omega
      by_cases hT : T = 0
      · subst hT
        go_wp2_with (first
          | (go_at_call 16; have mk := mark1; refine (quant_none h M D (by omega) (by omega) (by omega)).mono ?_; rintro e w' ⟨rfl, rfl⟩)
          | (go_at_call 16; refine (quant_none h N D (by omega) (by omega) (by omega)).mono ?_; rintro e w' ⟨rfl, rfl⟩; have mark1 := hD1)
          | (go_at_call 22; refine (total_ok h).mono ?_; rintro e w' ⟨rfl, rfl⟩)
          | (go_at_call 14; refine (works_ok _).mono ?_; rintro e w9 ⟨rfl, hv9⟩))
        go_ret
        exact ⟨rfl, below_end qw qw.size hv9⟩
      · have hT1 : 1 ≤ T := by omega
        have hTz : (T == 0) = false := by simp; omega
        go_wp2_with fail
        refine (quant_ok h HG.out hT1 N D (by omega) (by omega) (by omega) (by omega)).mono ?_
        rintro e w2 ⟨i, rfl, hi, hv2⟩
        have h2 := h.below hv2
        have qw := below_end qw qw.size hv2
        go_wp2_with fail
        refine (quant_ok h2 HG.out hT1 M D (by omega) (by omega) (by omega) (by omega)).mono ?_
        rintro e w3 ⟨j, rfl, hj, hv3⟩
        have h3 := h2.below hv3
        have qw := below_end qw qw.size hv3
        have hji := isq_mono hi hj M0.2 (by omega)
        have hile := hi.le
        have hige := hi.ge
        have HLt := Lib.hid hi.lt
        clear hi hj
        have hji' : (j : Int) ≤ (i : Int) := by omega
        have hin : (i : Int) < (n : Int) + 1 := by omega
        have hin0 : ¬ (i : Int) < 0 := by omega
        go_wp2_with fail
        refine (total_ok h3).mono ?_
        rintro e w' ⟨rfl, rfl⟩
        go_wp2_with fail
        refine (counts_ok h3 HG.out.fits).mono ?_
        rintro e w4 ⟨E, ce, rfl, hE, _, hv4⟩
        have h4 := h3.below hv4
        have qw := below_end qw qw.size hv4
        go_wp2_with fail
        have hEn := hE.1
        go_loop [18, 19] (fun vb vr => ∃ r : Nat, vr = .int .i64 r ∧ r ≤ i ∧ vb = .int .i64 (tot C r)) (fun _ vr => i - (intOf vr).toNat)
        case atStart => exact ⟨0, rfl, Nat.zero_le _, rfl⟩
        case round =>
          obtain ⟨r, rfl, hr, rfl⟩ := hrel
          obtain ⟨g, o, rfl, hg, hc⟩ := hE.2.2.1 (by omega)
          have t0 := tot_in HG.out r (by omega)
          have t1 := tot_in HG.out (r + 1) (by omega)
          have cr := hc r (by omega)
          have cb0 := HG.out.at_ (i := r) (by omega)
          have HS := Lib.hid (show tot C r + C r = tot C (r + 1) from rfl)
          obtain ⟨u, hu⟩ : ∃ u, tot C r = u := ⟨_, rfl⟩
          obtain ⟨y, hy⟩ : ∃ y, C r = y := ⟨_, rfl⟩
          obtain ⟨v, hv⟩ : ∃ v, tot C (r + 1) = v := ⟨_, rfl⟩
          have HV := Lib.hid hv
          have HU := Lib.hid hu
          rw [hv] at t1 HS
          rw [hu] at t0 HS
          rw [hy] at cr cb0 HS
          rw [hu]
          have huv := HS.out
          have hrn : (r : Int) < (n : Int) + 1 := by omega
          clear hc hu hy hv
          by_cases hri : r < i
          · have hrii : (r : Int) < (i : Int) := by omega
            go_wp2_with fail
            go_round
            case rel => exact ⟨r + 1, by simp, by omega, by rw [HV.out]⟩
            case measure => simp [intOf]; omega
          · obtain rfl : r = i := by omega
            rw [HV.out] at hige
            have hd4 := h4.below (Below.refl _ w4).drew
            have qd := qw.drew
            have p1 : v * D ≤ 209715200 * 1048576 := Int.mul_le_mul (by omega) D1.2 (by omega) (by omega)
            have p2 : 0 ≤ v * D := Int.mul_nonneg (by omega) (by omega)
            have p3 : N * T ≤ 1048576 * 209715200 := Int.mul_le_mul (by omega) (by omega) (by omega) (by omega)
            have p4 : 0 ≤ N * T := Int.mul_nonneg (by omega) (by omega)
            have p5 : u * D ≤ 209715200 * 1048576 := Int.mul_le_mul (by omega) D1.2 (by omega) (by omega)
            have p6 : 0 ≤ u * D := Int.mul_nonneg (by omega) (by omega)
            have w0' : IntKind.i64.wrap v = v := wrap_i64 (by omega) (by omega)
            have w1' : IntKind.i64.wrap (u + y) = v := by rw [huv]; exact wrap_i64 (by omega) (by omega)
            have w2' : IntKind.i64.wrap (v * D) = v * D := wrap_i64 (by omega) (by omega)
            have w3' : IntKind.i64.wrap (N * T) = N * T := wrap_i64 (by omega) (by omega)
            have w4' : IntKind.i64.wrap (u * D) = u * D := wrap_i64 (by omega) (by omega)
            have hlt' : r = 0 ∨ (0 < r ∧ u * D < N * T) := by
              rcases Nat.eq_zero_or_pos r with h0 | h0
              · exact Or.inl h0
              · right
                have := HLt.out (r - 1) (by omega)
                rw [show r - 1 + 1 = r by omega, HU.out] at this
                exact ⟨h0, this⟩
            have HL2 := Lib.hid hlt'
            have hige2 : decide (N * T ≤ v * D) = true := decide_yes hige
            clear hlt'
            rcases HL2.out with h0 | ⟨h0, hlt3⟩
            · subst h0
              go_wp2_with fail
              have e0 : w4.drew.cell? ⟨g, o + 0, none⟩ = some (.int .i64 y) := cr
              simp at e0
              refine wp_region_quiet_tail 28 (by kernel_rfl) (by kernel_rfl) ?_
              simp only [List.take_succ_cons, List.take_zero, List.drop_succ_cons, List.drop_zero]
              repeat (go_big_quiet_step ((go_at_call 22; exact Calls.quiet_of_same ((total_ok (h4.drewN _)).mono fun e w' ⟨he, hw⟩ => ⟨he, hw.symm⟩))))
              refine wpQuiet_nil ?_
              intro _ hw'
              obtain ⟨nq, hw''⟩ := hw'
              subst hw''
              have qn := below_drewN qw nq
              go_wp2_with (go_at_call 14; refine (works_ok _).mono ?_; rintro e w9 ⟨rfl, hv9⟩)
              go_ret
              exact ⟨rfl, below_end qn qn.size hv9⟩
            · have h00 : ((r : Int) == 0) = false := by simp; omega
              go_wp2_with fail
              have e0 : w4.drew.cell? ⟨g, o + r, none⟩ = some (.int .i64 y) := cr
              go_region_held3 (fun w' => w'.cell? ⟨g, o + r, none⟩ = some (.int .i64 y)) (go_keep)
                (first
                  | (go_at_call 22; refine (total_ok hd4).mono ?_; rintro e w' ⟨rfl, rfl⟩)
                  | (go_at_call 14; refine (works_ok _).mono ?_; rintro e w9 ⟨rfl, hv9⟩; have m0 := (hv9.cell (p := ⟨g, o + r, none⟩) hg).trans e0))
              all_goals
                go_wp2_with fail
                go_ret
                exact ⟨rfl, below_end qd qd.size hv9⟩
end Go.Proofs.Ytcmkjbliiggcbaa
