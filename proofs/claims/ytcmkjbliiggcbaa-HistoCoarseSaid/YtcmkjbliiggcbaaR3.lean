/-
  Both histograms, after some numbers: filled.
-/
import Derived.Test.YtcmkjbliiggcbaaL5
set_option linter.unusedVariables false
set_option linter.unusedSimpArgs false
namespace Go.Proofs.Ytcmkjbliiggcbaa
open Go.RowKit Go.Shelf

/-- what filled returns -/
def FilledOk (w : World) (n : Nat) (B : Nat → Int) (e : Ending) (w' : World) : Prop :=
  (∃ H p C T A cb s cs p' A' cb' s' cs', e = .returned (.tuple #[.pointer (some ⟨p, 0, none⟩), .pointer (some ⟨p', 0, none⟩)]) ∧ Both w' H p n B C T A cb s cs p' A' cb' s' cs' ∧ w.heap.size ≤ p ∧ w.heap.size ≤ s ∧ w.heap.size ≤ p' ∧ w.heap.size ≤ s' ∧ Below w.heap.size w w') ∨
  (e = .returned (.tuple #[.pointer none, .pointer none]) ∧ Below w.heap.size w w')

set_option maxRecDepth 100000 in
set_option maxHeartbeats 4000000 in
theorem filled_ok (n c : Nat) (A : Option Addr) (B : Nat → Int) (m d : Nat) (L : Option Addr) (z : Nat → Nat → Int) (w : World) (ha : ArgI .i64 w A n c B) (hA : A = none → n = 0 ∧ c = 0) (hL : ArgS ks2 w L m d z) (hm : m ≤ 200) :
    Calls Try.prog 15 #[.slice A n c, .slice L m d] w fun e w' => FilledOk w n B e w' := by
  go_enter Try.func15, Try.ntmps15
  go_wp2_with fail
  refine (new_ok n c A B _ ha hA).mono ?_
  rintro e w1 (⟨p, A1, cb, s, cs, rfl, h, hp, hs, hv1⟩ | ⟨rfl, hno, hv1⟩)
  · have ha1 := ha.below hv1
    go_wp2_with fail
    refine (rnew_ok n c A B _ ha1 hA).mono ?_
    rintro e w2 (⟨p', A2, cb', s', cs', rfl, r, hfr, hp', hs', hv2⟩ | ⟨rfl, hno, hv2⟩)
    · have q := below_end hv1 hv1.size hv2
      have hz1 := hv1.size
      have hS : ∀ k, k < w.heap.size → ¬ (k = p ∨ k = s) := fun k hk => by omega
      have hS' : ∀ k, k < w.heap.size → ¬ (k = p' ∨ k = s') := fun k hk => by omega
      have HB0 := Lib.hid (both_new h hv2 r hp' hs' hfr.2)
      clear h r hfr ha1
      go_wp2_with fail
      go_loopw [10] (fun vk wr => ∃ (k : Nat) (C : Nat → Int) (T : Int), vk = .int .i64 k ∧ k ≤ m ∧ Hid (Both wr w1.heap.size p n B C T A1 cb s cs p' A2 cb' s' cs') ∧ Below w.heap.size w wr) (fun vk _ => m - (intOf vk).toNat)
      case atStart => exact ⟨0, _, 0, rfl, Nat.zero_le _, HB0, q⟩
      case round =>
        clear HB0 q
        obtain ⟨k, C, T, rfl, hk, HB, q⟩ := hrel
        have hTl := HB.out.good.le
        have hT0 := HB.out.good.t0
        by_cases hlt : k < m
        · obtain ⟨g, o, rfl, hg, b0, b1, fx, ft⟩ := steps_at hL hlt
          have hmd := hL.1
          have hkm : (k : Int) < (m : Int) := by omega
          obtain ⟨x, hx⟩ : ∃ x, z k 0 = x := ⟨_, rfl⟩
          obtain ⟨t, ht⟩ : ∃ t, z k 1 = t := ⟨_, rfl⟩
          rw [hx] at b0 fx
          rw [ht] at b1 ft
          have ft0 := ft.1
          have ft1 := ft.2
          clear hx ht
          have d0 := (q.cell (p := ⟨g, o + k * 2, none⟩) hg).trans b0
          have d1 := (q.cell (p := ⟨g, o + k * 2 + 1, none⟩) hg).trans b1
          have qd := q.drew
          go_wp2_with fail
          have e0 : wr.drew.cell? ⟨g, o + k * 2, none⟩ = some (.int .i64 x) := d0
          have e1 : wr.drew.cell? ⟨g, o + k * 2 + 1, none⟩ = some (.int .i64 t) := d1
          have Bd := HB.out.below (Below.refl _ wr).drew
          by_cases hneg : t < 0
          · go_region_held3 (fun w' => w'.cell? ⟨g, o + k * 2, none⟩ = some (.int .i64 x) ∧ w'.cell? ⟨g, o + k * 2 + 1, none⟩ = some (.int .i64 t)) (go_keep)
              (first
                | (go_at_call 20; refine (hadd_neg Bd.hh x t hneg).mono ?_; rintro e w' ⟨rfl, rfl⟩)
                | fail)
            all_goals
              go_wp2_with fail
              have Be := Bd.below (Below.refl _ wr.drew).drew
              have qe := qd.drew
              have f0 : wr.drew.drew.cell? ⟨g, o + k * 2, none⟩ = some (.int .i64 x) := d0
              have f1 : wr.drew.drew.cell? ⟨g, o + k * 2 + 1, none⟩ = some (.int .i64 t) := d1
              go_region_held3 (fun w' => w'.cell? ⟨g, o + k * 2, none⟩ = some (.int .i64 x) ∧ w'.cell? ⟨g, o + k * 2 + 1, none⟩ = some (.int .i64 t)) (go_keep)
                (first
                  | (go_at_call 25; refine (radd_neg Be.rr x t hneg).mono ?_; rintro e w' ⟨rfl, rfl⟩)
                  | fail)
              all_goals
                go_wp2_with fail
                go_roundw
                case rel => exact ⟨k + 1, C, T, by simp, by omega, Lib.hid Be, qe⟩
                case measure => simp [intOf]; omega
          · have ht0 : 0 ≤ t := by omega
            by_cases hov : 9223372036854775807 < T + t
            · go_region_held3 (fun w' => w'.cell? ⟨g, o + k * 2, none⟩ = some (.int .i64 x) ∧ w'.cell? ⟨g, o + k * 2 + 1, none⟩ = some (.int .i64 t)) (go_keep)
                (first
                  | (go_at_call 20; refine (hadd_over Bd.hh Bd.good x t ht0 ft1 hov).mono ?_; rintro e w' ⟨rfl, rfl⟩)
                  | fail)
              all_goals
                go_wp2_with fail
                have Be := Bd.below (Below.refl _ wr.drew).drew
                have qe := qd.drew
                have f0 : wr.drew.drew.cell? ⟨g, o + k * 2, none⟩ = some (.int .i64 x) := d0
                have f1 : wr.drew.drew.cell? ⟨g, o + k * 2 + 1, none⟩ = some (.int .i64 t) := d1
                go_region_held3 (fun w' => w'.cell? ⟨g, o + k * 2, none⟩ = some (.int .i64 x) ∧ w'.cell? ⟨g, o + k * 2 + 1, none⟩ = some (.int .i64 t)) (go_keep)
                  (first
                    | (go_at_call 25; refine (radd_over Be.rr Be.good x t ht0 hov).mono ?_; rintro e w' ⟨rfl, rfl⟩)
                    | fail)
                all_goals
                  go_wp2_with fail
                  go_roundw
                  case rel => exact ⟨k + 1, C, T, by simp, by omega, Lib.hid Be, qe⟩
                  case measure => simp [intOf]; omega
            · go_region_held3 (fun w' => w'.cell? ⟨g, o + k * 2, none⟩ = some (.int .i64 x) ∧ w'.cell? ⟨g, o + k * 2 + 1, none⟩ = some (.int .i64 t)) (go_keep)
                (first
                  | (go_at_call 20; refine (hadd_ok Bd.hh Bd.good x t ht0 (by omega)).mono ?_; rintro e w2 ⟨rfl, h2, t2⟩; have r2 := Bd.mid t2; have q2 := below_turns qd qd.size t2 hS; have m20 := (q2.cell (p := ⟨g, o + k * 2, none⟩) hg).trans b0; have m21 := (q2.cell (p := ⟨g, o + k * 2 + 1, none⟩) hg).trans b1)
                  | fail)
              all_goals
                go_wp2_with fail
                have h2d := h2.below (Below.refl _ w2).drew
                have r2d := r2.below (Below.refl _ w2).drew
                have q2d := q2.drew
                have f0 : w2.drew.cell? ⟨g, o + k * 2, none⟩ = some (.int .i64 x) := m20
                have f1 : w2.drew.cell? ⟨g, o + k * 2 + 1, none⟩ = some (.int .i64 t) := m21
                go_region_held3 (fun w' => w'.cell? ⟨g, o + k * 2, none⟩ = some (.int .i64 x) ∧ w'.cell? ⟨g, o + k * 2 + 1, none⟩ = some (.int .i64 t)) (go_keep)
                  (first
                    | (go_at_call 25; refine (radd_ok r2d Bd.good x t ht0 (by omega)).mono ?_; rintro e w3 ⟨rfl, r3, t3⟩; have B3 := Bd.step h2d r3 (Bd.good.add B x t ht0 (by omega)) t3; have q3 := below_turns q2d q2d.size t3 hS'; have m30 := (q3.cell (p := ⟨g, o + k * 2, none⟩) hg).trans b0; have m31 := (q3.cell (p := ⟨g, o + k * 2 + 1, none⟩) hg).trans b1)
                    | fail)
                all_goals
                  go_wp2_with fail
                  go_roundw
                  case rel => exact ⟨k + 1, _, _, by simp, by omega, Lib.hid B3, q3⟩
                  case measure => simp [intOf]; omega
        · obtain rfl : k = m := by omega
          go_wp2_with fail
          go_ret2
          exact Or.inl ⟨_, p, C, T, A1, cb, s, cs, p', A2, cb', s', cs', rfl, HB.out, hp, hs, by omega, by omega, q⟩
    · exact (hno ⟨h.le, h.inc⟩).elim
  · have ha1 := ha.below hv1
    go_wp2_with fail
    refine (rnew_ok n c A B _ ha1 hA).mono ?_
    rintro e w2 (⟨p', A2, cb', s', cs', rfl, r, hy, _, _, hv2⟩ | ⟨rfl, _, hv2⟩)
    · exact (hno hy.1).elim
    · have q := below_end hv1 hv1.size hv2
      go_wp2_with fail
      go_loopw [10] (fun vk wr => ∃ k : Nat, vk = .int .i64 k ∧ k ≤ m ∧ Below w.heap.size w wr) (fun vk _ => m - (intOf vk).toNat)
      case atStart => exact ⟨0, rfl, Nat.zero_le _, q⟩
      case round =>
        clear q
        obtain ⟨k, rfl, hk, q⟩ := hrel
        by_cases hlt : k < m
        · obtain ⟨g, o, rfl, hg, b0, b1, fx, ft⟩ := steps_at hL hlt
          have hmd := hL.1
          have hkm : (k : Int) < (m : Int) := by omega
          obtain ⟨x, hx⟩ : ∃ x, z k 0 = x := ⟨_, rfl⟩
          obtain ⟨t, ht⟩ : ∃ t, z k 1 = t := ⟨_, rfl⟩
          rw [hx] at b0 fx
          rw [ht] at b1 ft
          have ft0 := ft.1
          have ft1 := ft.2
          clear hx ht
          have d0 := (q.cell (p := ⟨g, o + k * 2, none⟩) hg).trans b0
          have d1 := (q.cell (p := ⟨g, o + k * 2 + 1, none⟩) hg).trans b1
          have qd := q.drew
          go_wp2_with fail
          have e0 : wr.drew.cell? ⟨g, o + k * 2, none⟩ = some (.int .i64 x) := d0
          have e1 : wr.drew.cell? ⟨g, o + k * 2 + 1, none⟩ = some (.int .i64 t) := d1
          go_region_held3 (fun w' => w'.cell? ⟨g, o + k * 2, none⟩ = some (.int .i64 x) ∧ w'.cell? ⟨g, o + k * 2 + 1, none⟩ = some (.int .i64 t)) (go_keep)
            (first
              | (go_at_call 20; refine (void_add (Or.inl rfl) x t).mono ?_; rintro e w' ⟨rfl, rfl⟩)
              | fail)
          all_goals
            go_wp2_with fail
            have qe := qd.drew
            have f0 : wr.drew.drew.cell? ⟨g, o + k * 2, none⟩ = some (.int .i64 x) := d0
            have f1 : wr.drew.drew.cell? ⟨g, o + k * 2 + 1, none⟩ = some (.int .i64 t) := d1
            go_region_held3 (fun w' => w'.cell? ⟨g, o + k * 2, none⟩ = some (.int .i64 x) ∧ w'.cell? ⟨g, o + k * 2 + 1, none⟩ = some (.int .i64 t)) (go_keep)
              (first
                | (go_at_call 25; refine (rvoid_add _ x t).mono ?_; rintro e w' ⟨rfl, rfl⟩)
                | fail)
            all_goals
              go_wp2_with fail
              go_roundw
              case rel => exact ⟨k + 1, by simp, by omega, qe⟩
              case measure => simp [intOf]; omega
        · obtain rfl : k = m := by omega
          go_wp2_with fail
          go_ret2
          exact Or.inr ⟨rfl, q⟩
end Go.Proofs.Ytcmkjbliiggcbaa
