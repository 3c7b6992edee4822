/-
  The walk of HistoPlays.
-/
import Derived.Test.YtcmkjbliiggcbaaL5
set_option linter.unusedVariables false
set_option linter.unusedSimpArgs false
namespace Go.Proofs.Ytcmkjbliiggcbaa
open Go.RowKit Go.Shelf

set_option maxRecDepth 100000 in
set_option maxHeartbeats 8000000 in
theorem plays_walk (n c : Nat) (A : Option Addr) (B : Nat → Int) (m d : Nat) (L : Option Addr) (z : Nat → Nat → Int) (y : Int) (w : World) (ha : ArgI .i64 w A n c B) (hA : A = none → n = 0 ∧ c = 0) (hL : ArgS ks2 w L m d z) :
    Calls Try.prog 8 #[.slice A n c, .slice L m d, .int .i64 y] w fun e w' => e = .returned (.bool true) ∧ Below w.heap.size w w' := by
  by_cases hn : 200 < n
  · have hn' : (200 : Int) < (n : Int) := by omega
    go_enter Try.func8, Try.ntmps8
    go_wp2_with (go_at_call 14; refine (works_ok _).mono ?_; rintro e w9 ⟨rfl, hv9⟩)
    go_ret
    exact ⟨rfl, hv9⟩
  by_cases hm : 200 < m
  · have hn' : ¬ (200 : Int) < (n : Int) := by omega
    have hm' : (200 : Int) < (m : Int) := by omega
    go_enter Try.func8, Try.ntmps8
    go_wp2_with (go_at_call 14; refine (works_ok _).mono ?_; rintro e w9 ⟨rfl, hv9⟩)
    go_ret
    exact ⟨rfl, hv9⟩
  have hn' : ¬ (200 : Int) < (n : Int) := by omega
  have hm' : ¬ (200 : Int) < (m : Int) := by omega
  go_enter Try.func8, Try.ntmps8
  go_wp2_with fail
  refine (new_ok n c A B _ ha hA).mono ?_
  rintro e w1 (⟨p, A1, cb, s, cs, rfl, h, hp, hs, hv1⟩ | ⟨rfl, hno, hv1⟩)
  · have ha1 := ha.below hv1
    go_wp2_with fail
    refine (rnew_ok n c A B _ ha1 hA).mono ?_
    rintro e w2 (⟨p', A2, cb', s', cs', rfl, r, hfr, hp', hs', hv2⟩ | ⟨rfl, hno, hv2⟩)
    · have q := below_end hv1 hv1.size hv2
      have hz1 := hv1.size
      have hS : ∀ k, k < w.heap.size → ¬ (k = p ∨ k = s) := fun k hk => by omega
      have hS' : ∀ k, k < w.heap.size → ¬ (k = p' ∨ k = s') := fun k hk => by omega
      have HB0 := Lib.hid (both_new h hv2 r hp' hs' hfr.2)
      clear h r hfr ha1
      go_wp2_with fail
      go_loopw [11] (fun vk wr => ∃ (k : Nat) (C : Nat → Int) (T : Int), vk = .int .i64 k ∧ k ≤ m ∧ Hid (Both wr w1.heap.size p n B C T A1 cb s cs p' A2 cb' s' cs') ∧ Below w.heap.size w wr) (fun vk _ => m - (intOf vk).toNat)
      case atStart => exact ⟨0, _, 0, rfl, Nat.zero_le _, HB0, q⟩
      case round =>
        clear HB0 q
        obtain ⟨k, C, T, rfl, hk, HB, q⟩ := hrel
        have hTl := HB.out.good.le
        have hT0 := HB.out.good.t0
        by_cases hlt : k < m
        · obtain ⟨g, o, rfl, hg, b0, b1, fx, ft⟩ := steps_at hL hlt
          have hmd := hL.1
          have hkm : (k : Int) < (m : Int) := by omega
          obtain ⟨x, hx⟩ : ∃ x, z k 0 = x := ⟨_, rfl⟩
          obtain ⟨t, ht⟩ : ∃ t, z k 1 = t := ⟨_, rfl⟩
          rw [hx] at b0 fx
          rw [ht] at b1 ft
          have ft0 := ft.1
          have ft1 := ft.2
          clear hx ht
          have d0 := (q.cell (p := ⟨g, o + k * 2, none⟩) hg).trans b0
          have d1 := (q.cell (p := ⟨g, o + k * 2 + 1, none⟩) hg).trans b1
          have qd := q.drew
          have Bd := HB.out.below (Below.refl _ wr).drew
          by_cases hneg : t < 0
          · go_wp2_with fail
            have e0 : wr.drew.cell? ⟨g, o + k * 2, none⟩ = some (.int .i64 x) := d0
            have e1 : wr.drew.cell? ⟨g, o + k * 2 + 1, none⟩ = some (.int .i64 t) := d1
            go_region_held3 (fun w' => w'.cell? ⟨g, o + k * 2, none⟩ = some (.int .i64 x) ∧ w'.cell? ⟨g, o + k * 2 + 1, none⟩ = some (.int .i64 t)) (go_keep)
              (first
                | (go_at_call 20; refine (hadd_neg Bd.hh x t hneg).mono ?_; rintro e w' ⟨rfl, rfl⟩)
                | (go_at_call 25; refine (radd_neg Bd.rr x t hneg).mono ?_; rintro e w' ⟨rfl, rfl⟩)
                | (go_at_call 24; refine (agree_ok Bd.hh Bd.rr Bd.good y).mono ?_; rintro e w4 ⟨rfl, hv4⟩; have B4 := Bd.below hv4; have q4 := below_end qd qd.size hv4; have m40 := (q4.cell (p := ⟨g, o + k * 2, none⟩) hg).trans b0; have m41 := (q4.cell (p := ⟨g, o + k * 2 + 1, none⟩) hg).trans b1)
                | (go_at_call 19; refine (bucket_ok B4.hh x).mono ?_; rintro e w5 ⟨rfl, hv5⟩; have B5 := B4.below hv5; have q5 := below_end q4 q4.size hv5; have m50 := (q5.cell (p := ⟨g, o + k * 2, none⟩) hg).trans b0; have m51 := (q5.cell (p := ⟨g, o + k * 2 + 1, none⟩) hg).trans b1)
                | (go_at_call 26; refine (rbucket_ok B5.rr x).mono ?_; rintro e w' ⟨rfl, rfl⟩))
            all_goals
              go_wp2_with fail
              go_roundw
              case rel => exact ⟨k + 1, C, T, by simp, by omega, Lib.hid B5, q5⟩
              case measure => simp [intOf]; omega
          · have ht0 : 0 ≤ t := by omega
            by_cases hov : 9223372036854775807 < T + t
            · go_wp2_with fail
              have e0 : wr.drew.cell? ⟨g, o + k * 2, none⟩ = some (.int .i64 x) := d0
              have e1 : wr.drew.cell? ⟨g, o + k * 2 + 1, none⟩ = some (.int .i64 t) := d1
              go_region_held3 (fun w' => w'.cell? ⟨g, o + k * 2, none⟩ = some (.int .i64 x) ∧ w'.cell? ⟨g, o + k * 2 + 1, none⟩ = some (.int .i64 t)) (go_keep)
                (first
                  | (go_at_call 20; refine (hadd_over Bd.hh Bd.good x t ht0 ft1 hov).mono ?_; rintro e w' ⟨rfl, rfl⟩)
                  | (go_at_call 25; refine (radd_over Bd.rr Bd.good x t ht0 hov).mono ?_; rintro e w' ⟨rfl, rfl⟩)
                  | (go_at_call 24; refine (agree_ok Bd.hh Bd.rr Bd.good y).mono ?_; rintro e w4 ⟨rfl, hv4⟩; have B4 := Bd.below hv4; have q4 := below_end qd qd.size hv4; have m40 := (q4.cell (p := ⟨g, o + k * 2, none⟩) hg).trans b0; have m41 := (q4.cell (p := ⟨g, o + k * 2 + 1, none⟩) hg).trans b1)
                  | (go_at_call 19; refine (bucket_ok B4.hh x).mono ?_; rintro e w5 ⟨rfl, hv5⟩; have B5 := B4.below hv5; have q5 := below_end q4 q4.size hv5; have m50 := (q5.cell (p := ⟨g, o + k * 2, none⟩) hg).trans b0; have m51 := (q5.cell (p := ⟨g, o + k * 2 + 1, none⟩) hg).trans b1)
                  | (go_at_call 26; refine (rbucket_ok B5.rr x).mono ?_; rintro e w' ⟨rfl, rfl⟩))
              all_goals
                go_wp2_with fail
                go_roundw
                case rel => exact ⟨k + 1, C, T, by simp, by omega, Lib.hid B5, q5⟩
                case measure => simp [intOf]; omega
            · go_wp2_with fail
              have e0 : wr.drew.cell? ⟨g, o + k * 2, none⟩ = some (.int .i64 x) := d0
              have e1 : wr.drew.cell? ⟨g, o + k * 2 + 1, none⟩ = some (.int .i64 t) := d1
              go_region_held3 (fun w' => w'.cell? ⟨g, o + k * 2, none⟩ = some (.int .i64 x) ∧ w'.cell? ⟨g, o + k * 2 + 1, none⟩ = some (.int .i64 t)) (go_keep)
                (first
                  | (go_at_call 20; refine (hadd_ok Bd.hh Bd.good x t ht0 (by omega)).mono ?_; rintro e w2 ⟨rfl, h2, t2⟩; have r2 := Bd.mid t2; have q2 := below_turns qd qd.size t2 hS; have m20 := (q2.cell (p := ⟨g, o + k * 2, none⟩) hg).trans b0; have m21 := (q2.cell (p := ⟨g, o + k * 2 + 1, none⟩) hg).trans b1)
                  | (go_at_call 25; refine (radd_ok r2 Bd.good x t ht0 (by omega)).mono ?_; rintro e w3 ⟨rfl, r3, t3⟩; have B3 := Bd.step h2 r3 (Bd.good.add B x t ht0 (by omega)) t3; have q3 := below_turns q2 q2.size t3 hS'; have m30 := (q3.cell (p := ⟨g, o + k * 2, none⟩) hg).trans b0; have m31 := (q3.cell (p := ⟨g, o + k * 2 + 1, none⟩) hg).trans b1)
                  | (go_at_call 24; refine (agree_ok B3.hh B3.rr B3.good y).mono ?_; rintro e w4 ⟨rfl, hv4⟩; have B4 := B3.below hv4; have q4 := below_end q3 q3.size hv4; have m40 := (q4.cell (p := ⟨g, o + k * 2, none⟩) hg).trans b0; have m41 := (q4.cell (p := ⟨g, o + k * 2 + 1, none⟩) hg).trans b1)
                  | (go_at_call 19; refine (bucket_ok B4.hh x).mono ?_; rintro e w5 ⟨rfl, hv5⟩; have B5 := B4.below hv5; have q5 := below_end q4 q4.size hv5; have m50 := (q5.cell (p := ⟨g, o + k * 2, none⟩) hg).trans b0; have m51 := (q5.cell (p := ⟨g, o + k * 2 + 1, none⟩) hg).trans b1)
                  | (go_at_call 26; refine (rbucket_ok B5.rr x).mono ?_; rintro e w' ⟨rfl, rfl⟩))
              all_goals
                go_wp2_with fail
                go_roundw
                case rel => exact ⟨k + 1, _, _, by simp, by omega, Lib.hid B5, q5⟩
                case measure => simp [intOf]; omega
        · obtain rfl : k = m := by omega
          go_wp2_with (go_at_call 14; refine (works_ok _).mono ?_; rintro e w9 ⟨rfl, hv9⟩)
          go_ret
          exact ⟨rfl, below_end q q.size hv9⟩
    · exact (hno ⟨h.le, h.inc⟩).elim
  · have ha1 := ha.below hv1
    go_wp2_with fail
    refine (rnew_ok n c A B _ ha1 hA).mono ?_
    rintro e w2 (⟨p', A2, cb', s', cs', rfl, r, hy, _, _, hv2⟩ | ⟨rfl, _, hv2⟩)
    · exact (hno hy.1).elim
    · have q := below_end hv1 hv1.size hv2
      go_wp2_with fail
      go_loopw [11] (fun vk wr => ∃ k : Nat, vk = .int .i64 k ∧ k ≤ m ∧ Below w.heap.size w wr) (fun vk _ => m - (intOf vk).toNat)
      case atStart => exact ⟨0, rfl, Nat.zero_le _, q⟩
      case round =>
        clear q
        obtain ⟨k, rfl, hk, q⟩ := hrel
        by_cases hlt : k < m
        · obtain ⟨g, o, rfl, hg, b0, b1, fx, ft⟩ := steps_at hL hlt
          have hmd := hL.1
          have hkm : (k : Int) < (m : Int) := by omega
          obtain ⟨x, hx⟩ : ∃ x, z k 0 = x := ⟨_, rfl⟩
          obtain ⟨t, ht⟩ : ∃ t, z k 1 = t := ⟨_, rfl⟩
          rw [hx] at b0 fx
          rw [ht] at b1 ft
          have ft0 := ft.1
          have ft1 := ft.2
          clear hx ht
          have d0 := (q.cell (p := ⟨g, o + k * 2, none⟩) hg).trans b0
          have d1 := (q.cell (p := ⟨g, o + k * 2 + 1, none⟩) hg).trans b1
          have qd := q.drew
          go_wp2_with fail
          have e0 : wr.drew.cell? ⟨g, o + k * 2, none⟩ = some (.int .i64 x) := d0
          have e1 : wr.drew.cell? ⟨g, o + k * 2 + 1, none⟩ = some (.int .i64 t) := d1
          go_region_held3 (fun w' => w'.cell? ⟨g, o + k * 2, none⟩ = some (.int .i64 x) ∧ w'.cell? ⟨g, o + k * 2 + 1, none⟩ = some (.int .i64 t)) (go_keep)
            (first
              | (go_at_call 20; refine (void_add (Or.inl rfl) x t).mono ?_; rintro e w' ⟨rfl, rfl⟩)
              | (go_at_call 25; refine (rvoid_add _ x t).mono ?_; rintro e w' ⟨rfl, rfl⟩)
              | (go_at_call 24; refine (agree_none y _).mono ?_; rintro e w4 ⟨rfl, hv4⟩; have q4 := below_end qd qd.size hv4; have m40 := (q4.cell (p := ⟨g, o + k * 2, none⟩) hg).trans b0; have m41 := (q4.cell (p := ⟨g, o + k * 2 + 1, none⟩) hg).trans b1)
              | (go_at_call 19; refine (void_bucket (Or.inl rfl) x).mono ?_; rintro e w5 ⟨rfl, hv5⟩; have q5 := below_end q4 q4.size hv5; have m50 := (q5.cell (p := ⟨g, o + k * 2, none⟩) hg).trans b0; have m51 := (q5.cell (p := ⟨g, o + k * 2 + 1, none⟩) hg).trans b1)
              | (go_at_call 26; refine (rvoid_bucket _ x).mono ?_; rintro e w' ⟨rfl, rfl⟩))
          all_goals
            go_wp2_with fail
            go_roundw
            case rel => exact ⟨k + 1, by simp, by omega, q5⟩
            case measure => simp [intOf]; omega
        · obtain rfl : k = m := by omega
          go_wp2_with (go_at_call 14; refine (works_ok _).mono ?_; rintro e w9 ⟨rfl, hv9⟩)
          go_ret
          exact ⟨rfl, below_end q q.size hv9⟩
end Go.Proofs.Ytcmkjbliiggcbaa
