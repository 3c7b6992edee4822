/-
  The walk of FenwickSums.
-/
import Derived.Test.YtjikfmacdacgaaaR9
import Derived.Test.YtjikfmacdacgaaaR6
import Derived.Deep.RegionHeld3
import Derived.Deep.QuietTactic
import Derived.BigQuiet
set_option linter.unusedVariables false
set_option linter.unusedSimpArgs false
namespace Go.Proofs.Ytjikfmacdacgaaa
open Go.RowKit Go.Shelf Fw

theorem rangeV_nat {C : Nat → Int} {n i j : Nat} (hij : i ≤ j) (hj : j ≤ n) : rangeV C n i j = pre C j - pre C i := by
  unfold rangeV
  rw [clip_nat hj, clip_nat (Nat.le_trans hij hj)]
  split
  · rfl
  · rw [show i = j by omega, Int.sub_self]

theorem sums_plain (z : Nat → Int) (k : Nat) (g : GoodC k z) (a b d : Int) (h0 : 0 ≤ a) (h1 : a ≤ b) (h2 : b ≤ d) (h3 : d ≤ k) :
    (preV z k (k : Int) == pre z k) = true ∧ (rangeV z k a b + rangeV z k b d == rangeV z k a d) = true ∧ (rangeV z k a b == preV z k b - preV z k a) = true ∧ (rangeV z k b a == 0) = true ∧
    0 ≤ rangeV z k a b ∧ 0 ≤ rangeV z k b d ∧ rangeV z k a b + rangeV z k b d ≤ 9223372036854775807 ∧ 0 ≤ preV z k a ∧ preV z k a ≤ 9223372036854775807 ∧ 0 ≤ preV z k b ∧ preV z k b ≤ 9223372036854775807 := by
  obtain ⟨a, rfl⟩ := Int.eq_ofNat_of_zero_le h0
  obtain ⟨b, rfl⟩ := Int.eq_ofNat_of_zero_le (show 0 ≤ b by omega)
  obtain ⟨d, rfl⟩ := Int.eq_ofNat_of_zero_le (show 0 ≤ d by omega)
  have e1 := rangeV_nat (C := z) (n := k) (i := a) (j := b) (by omega) (by omega)
  have e2 := rangeV_nat (C := z) (n := k) (i := b) (j := d) (by omega) (by omega)
  have e3 := rangeV_nat (C := z) (n := k) (i := a) (j := d) (by omega) (by omega)
  have e4 : rangeV z k b a = 0 := by unfold rangeV; rw [if_neg (by omega)]
  have p1 : preV z k (k : Int) = pre z k := by unfold preV; rw [clip_nat (Nat.le_refl _)]
  have p2 : preV z k (a : Int) = pre z a := by unfold preV; rw [clip_nat (by omega)]
  have p3 : preV z k (b : Int) = pre z b := by unfold preV; rw [clip_nat (by omega)]
  have q1 := pre_mono g.nn a b (by omega) (by omega)
  have q2 := pre_mono g.nn b d (by omega) (by omega)
  have q3 := g.pre_nn (k := a) (by omega)
  have q4 := g.pre_le (k := d) (by omega)
  rw [e1, e2, e3, e4, p1, p2, p3]
  simp only [beq_iff_eq]
  refine ⟨trivial, ?_, trivial, trivial, ?_, ?_, ?_, ?_, ?_, ?_, ?_⟩ <;> omega

set_option maxRecDepth 100000 in
set_option maxHeartbeats 1000000 in
theorem sums_walk (n c : Nat) (A : Option Addr) (z : Nat → Int) (x y u : Int) (hx : 0 ≤ x ∧ x ≤ 65535) (hy : 0 ≤ y ∧ y ≤ 65535) (hu : 0 ≤ u ∧ u ≤ 65535) (w : World) (ha : ArgI .u16 w A n c z) :
    Calls Try.prog 4 #[.slice A n c, .int .u16 x, .int .u16 y, .int .u16 u] w fun e w' => e = .returned (.bool true) ∧ Below w.heap.size w w' := by
  have hnc := ha.1
  have hn63 := ha.2.1
  by_cases hbig : 300 < n
  · go_enter Try.func4, Try.ntmps4
    go_wp2_with (go_at_call 15; refine (works_ok _).mono ?_; rintro e w1 ⟨rfl, hb1⟩)
    go_ret
    exact ⟨rfl, hb1⟩
  have hbig' : decide (300 < (n : Int)) = false := by simp; omega
  have hz : ∀ j, j < n → 0 ≤ z j ∧ z j ≤ 65535 := fun j hj => wf_u16 (ha.2.2.2 j hj)
  have HG := Lib.hid (small_good (by omega) hz)
  have HZ := Lib.hid hz
  clear hz
  go_enter Try.func4, Try.ntmps4
  go_wp2_with fail
  refine (filled_ok n c A z (by omega) _ ha).mono ?_
  rintro e w1 ⟨b, s, rfl, hf, hb, hs, hv⟩
  go_wp2_with fail
  go_loopw [10, 11] (fun vs vk wr => ∃ k : Nat, vk = .int .i64 k ∧ k ≤ n ∧ vs = .int .i64 (pre z k) ∧ FC wr b s n z ∧ Below w.heap.size w wr) (fun _ vk _ => n - (intOf vk).toNat)
  case atStart => exact ⟨0, rfl, Nat.zero_le _, rfl, hf, hv⟩
  case round =>
    clear hf hv
    obtain ⟨k, rfl, hk, rfl, hf, hv⟩ := hrel
    by_cases hlt : k < n
    · obtain ⟨g, o, rfl, hg, hc⟩ := (ha.below hv).2.2.1 (by omega)
      have hck := hc k hlt
      have hzk := HZ.out k hlt
      have e1 : preV z n (k : Int) = pre z k := by unfold preV; rw [clip_nat hk]
      have e2 : getV z n (k : Int) = z k := by unfold getV; rw [if_pos ⟨by omega, by omega⟩]; rfl
      have E1 := Lib.hid e1
      have E2 := Lib.hid e2
      have hp0 := HG.out.pre_nn hk
      have hp1 := HG.out.pre_le (k := k + 1) hlt
      have e3 : pre z (k + 1) = pre z k + z k := rfl
      rw [e3] at hp1
      have E3 := Lib.hid e3
      have hfd : FC wr.drew b s n z := hf.below (Below.refl _ _).drew
      have hvd := hv.drew
      clear e1 e2 e3 hc
      have hlt0 : (k : Int) < (n : Int) := by omega
      have hwz : IntKind.i64.wrap (z k) = z k := by rw [IntKind.wrap_i64]; omega
      go_wp2_with fail
      go_region_held3 (fun w' => w'.cell? ⟨g, o + k, none⟩ = some (.int .u16 (z k))) (go_keep)
        (first
          | (go_at_call 17; refine (prefix_all _ b s n z _ _ (.inl ⟨rfl, hfd⟩)).mono ?_; rw [E1.out]; rintro e w2 ⟨rfl, hb2⟩; have hf2 := hfd.below hb2; have hv2 := below_go hvd (Nat.le_refl _) hb2; have hck2 := (hb2.cell (p := ⟨g, o + k, none⟩) hg).trans hck)
          | (go_at_call 18; refine (get_any _ b s n z _ _ (.inl ⟨rfl, hf2⟩)).mono ?_; rw [E2.out]; rintro e w3 ⟨rfl, hb3⟩; have hf3 := hf2.below hb3; have hv3 := below_go hv2 (Nat.le_refl _) hb3; have hck3 := (hb3.cell (p := ⟨g, o + k, none⟩) (Nat.lt_of_lt_of_le hg hb2.size)).trans hck2))
      clear hwz
      go_wp2_with fail
      go_roundw
      case rel => exact ⟨k + 1, by go_num, by omega, by rw [E3.out], hf3, hv3⟩
      case measure => simp [intOf]; omega
    · obtain rfl : k = n := by omega
      have hm0 : (0 : Int) ≤ (k : Int) + 1 := by omega
      go_wp2_with fail
      go_quiet (fail)
      go_wp2_with fail
      have hfd : FC (wr.drewN nq) b s k z := hf.below (below_drewN (Below.refl _ _) nq)
      have hvd : Below w.heap.size w (wr.drewN nq) := below_drewN hv nq
      have bx := Int.emod_nonneg x (show (k : Int) + 1 ≠ 0 by omega)
      have bx' := Int.emod_lt_of_pos x (show (0 : Int) < (k : Int) + 1 by omega)
      have by_ := Int.emod_nonneg y (show (k : Int) + 1 ≠ 0 by omega)
      have by' := Int.emod_lt_of_pos y (show (0 : Int) < (k : Int) + 1 by omega)
      have bu := Int.emod_nonneg u (show (k : Int) + 1 ≠ 0 by omega)
      have bu' := Int.emod_lt_of_pos u (show (0 : Int) < (k : Int) + 1 by omega)
      generalize x % ((k : Int) + 1) = X at *
      generalize y % ((k : Int) + 1) = Y at *
      generalize u % ((k : Int) + 1) = U at *
      have m1 : min X (min Y (min (max X Y) U)) ≤ max (min X Y) (min (max X Y) U) := by omega
      have m2 : max (min X Y) (min (max X Y) U) ≤ max X (max Y U) := by omega
      have m3 : 0 ≤ min X (min Y (min (max X Y) U)) := by omega
      have m4 : max X (max Y U) ≤ k := by omega
      generalize min X (min Y (min (max X Y) U)) = a at *
      generalize max (min X Y) (min (max X Y) U) = bb at *
      generalize max X (max Y U) = d at *
      clear bx bx' by_ by' bu bu'
      obtain ⟨t0, t1, t2, t3, r1, r2, r3, r4, r5, r6, r7⟩ := sums_plain z k HG.out a bb d m3 m1 m2 m4
      go_wp2_with (first
        | (go_at_call 17; refine (prefix_all _ b s k z _ _ (.inl ⟨rfl, hfd⟩)).mono ?_; rintro e wq ⟨rfl, hb2⟩; have hfd' := hfd.below hb2; have hvd' := below_go hvd (Nat.le_refl _) hb2; clear hfd hvd hb2; have hfd := hfd'; have hvd := hvd'; clear hfd' hvd')
        | (go_at_call 19; refine (total_any _ b s k z _ (.inl ⟨rfl, hfd⟩)).mono ?_; rintro e wq ⟨rfl, hb2⟩; have hfd' := hfd.below hb2; have hvd' := below_go hvd (Nat.le_refl _) hb2; clear hfd hvd hb2; have hfd := hfd'; have hvd := hvd'; clear hfd' hvd')
        | (go_at_call 20; refine (range_any _ b s k z _ _ _ (.inl ⟨rfl, hfd⟩)).mono ?_; rintro e wq ⟨rfl, hb2⟩; have hfd' := hfd.below hb2; have hvd' := below_go hvd (Nat.le_refl _) hb2; clear hfd hvd hb2; have hfd := hfd'; have hvd := hvd'; clear hfd' hvd')
        | (go_at_call 15; refine (works_ok _).mono ?_; rintro e wq ⟨rfl, hb2⟩))
      go_ret
      exact ⟨rfl, below_go hvd (Nat.le_refl _) hb2⟩

end Go.Proofs.Ytjikfmacdacgaaa
