/-
  The document's sum of any numbers.
-/
import Derived.Test.YtmjchiebpnnbpaaG6
import Derived.Deep.RegionLaw
set_option linter.unusedVariables false
set_option linter.unusedSimpArgs false
namespace Go.Proofs.Ytmjchiebpnnbpaa
open Go.RowKit Go.Shelf

theorem tot_big {z : Nat → Int} {k : Nat} (hk : k < 1000) (h : ∀ j, j ≤ k → Fits (z j)) : ((tot z k).natAbs : Int) + (z k).natAbs < 4294967296 ^ 6 := by
  obtain ⟨h1, h2⟩ := tot_bound k (fun j hj => h j (by omega))
  have h3 := natAbs_le63 (h k (Nat.le_refl _))
  have h4 : ((4294967296 : Int) ^ 6) = 6277101735386680763835789423207666416102355444464034512896 := by decide
  rw [h4]
  omega
theorem wide_zero : Wide false (fun _ => 0) 0 := ⟨fun j _ => by show (0 : Int) ≤ 0 ∧ (0 : Int) < 4294967296; decide, by simp [val, mag, psum]⟩

set_option maxRecDepth 100000 in
set_option maxHeartbeats 4000000 in
theorem rsum_ok (n c : Nat) (A : Option Addr) (z : Nat → Int) (w : World) (ha : ArgI .i64 w A n c z) (hn : n ≤ 1000) :
    Calls Try.prog 14 #[.slice A n c] w fun e w' => e = .returned (.tuple #[.int .i64 (fitV (tot z n)), .int .i64 (fitE (tot z n))]) ∧ Below w.heap.size w w' := by
  have hz : ∀ j, j < n → Fits (z j) := fun j hj => wf_i64 (ha.2.2.2 j hj)
  have q := below_new1 w (.cells (wide false fun _ => 0) 48)
  have kt := Blk.new w 48 (wide false fun _ => 0)
  have hc := ha.2.2.1
  simp only [wide] at q kt
  go_enter Try.func14, Try.ntmps14
  go_upto_region 2 with fail
  generalize w.alloc (.cells #[.bool false, .int .u64 0, .int .u64 0, .int .u64 0, .int .u64 0, .int .u64 0, .int .u64 0] 48) = W0 at *
  have kt : Blk W0 w.heap.size 48 (wide false fun _ => 0) := kt
  go_wp2_with fail
  go_loopw [5] (fun vi wr => ∃ (k : Nat) (b : Bool) (f : Nat → Int), vi = .int .i64 k ∧ k ≤ n ∧ Hid (Wide b f (tot z k)) ∧ Blk wr w.heap.size 48 (wide b f) ∧ Below w.heap.size w wr) (fun vi _ => n - (intOf vi).toNat)
  case atStart => exact ⟨0, false, _, rfl, Nat.zero_le _, Lib.hid wide_zero, kt, q⟩
  case round =>
    clear kt q
    obtain ⟨k, b, f, rfl, hk, HW, kt, q⟩ := hrel
    by_cases hlt : k < n
    · obtain ⟨g, o, rfl, hg, hcell⟩ := hc (by omega)
      have hcw := (q.cell (p := ⟨g, o + k, none⟩) hg).trans (hcell k hlt)
      have hkn : (k : Int) < (n : Int) := by omega
      have hzk := hz k hlt
      have HB := Lib.hid (tot_big (k := k) (z := z) (by omega) (fun j hj => hz j (by omega)))
      obtain ⟨x, hx⟩ : ∃ x, z k = x := ⟨_, rfl⟩
      have HX := Lib.hid (show tot z k + x = tot z (k + 1) by rw [← hx]; rfl)
      rw [hx] at hcw hzk HB
      clear hx hc hcell
      obtain ⟨t0, t1, t2, t3, t4, t5, t6⟩ := kt.wides
      have hw0 := hcw
      go_wp2_with fail
      clear t0 t1 t2 t3 t4 t5 t6
      obtain ⟨t0, t1, t2, t3, t4, t5, t6⟩ := kt.drew.wides
      have hwd : wr.drew.cell? ⟨g, o + k, none⟩ = some (.int .i64 x) := hcw
      go_region_law (first
        | (go_simp; go_at_call 30; refine (plus_w HW.out W1 HB.out _).mono ?_; rintro e w2 ⟨b2, f2, rfl, W2, hv2⟩; have l2 := l1.below hv2 l1.lt; obtain ⟨p0, p1, p2, p3, p4, p5, p6⟩ := l2.wides; have z0 := l2.frozen 0; have z1 := l2.frozen 1; have z2 := l2.frozen 2; have z3 := l2.frozen 3; have z4 := l2.frozen 4; have z5 := l2.frozen 5; have z6 := l2.frozen 6; rw [show wide b2 f2 = #[.bool b2, .int .u64 (f2 0), .int .u64 (f2 1), .int .u64 (f2 2), .int .u64 (f2 3), .int .u64 (f2 4), .int .u64 (f2 5)] from rfl])
        | (go_simp; go_at_call 31; refine (from_w x hzk _).mono ?_; rintro e w1 ⟨b1, f1, rfl, W1, _, _, _, _, hv1⟩; have l1 := kt.drew.below hv1 kt.lt; obtain ⟨m0, m1, m2, m3, m4, m5, m6⟩ := l1.wides))
      all_goals
        go_wp2_with fail
        have q := below_end q.drew q.drew.size hv1
        have q := below_end q q.size hv2
        have R := l2.setWide b2 f2
        have q := below_setWide q (g := w.heap.size) (Nat.le_refl _) b2 f2
        simp only [setWide] at R q
        go_roundw
        case rel => exact ⟨k + 1, b2, f2, by simp, by omega, Lib.hid (by have := W2; rwa [HX.out] at this), R, q⟩
        case measure => simp [intOf]; omega
    · obtain rfl : k = n := by omega
      obtain ⟨t0, t1, t2, t3, t4, t5, t6⟩ := kt.wides
      have HF := fun w => fit_w HW.out w
      simp only [wide] at HF
      go_wp2_with (go_at_call 32; refine (HF _).mono ?_; rintro e w4 ⟨rfl, hv4⟩)
      go_ret2
      exact ⟨rfl, below_end q q.size hv4⟩
end Go.Proofs.Ytmjchiebpnnbpaa
