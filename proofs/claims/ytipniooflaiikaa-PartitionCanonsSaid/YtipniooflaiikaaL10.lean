/-
  PartitionCanons, walked.
-/
import Derived.Test.YtipniooflaiikaaF6
import Derived.Test.YtipniooflaiikaaA9
set_option linter.unusedVariables false
set_option linter.unusedSimpArgs false
namespace Go.Proofs.Ytipniooflaiikaa
open Go.RowKit Go.Shelf

set_option maxRecDepth 100000 in
set_option maxHeartbeats 4000000 in
theorem canons_walk (n c : Nat) (A : Option Addr) (z : Nat → Int) (w : World) (ha : ArgI .i64 w A n c z) (hA : A = none → n = 0 ∧ c = 0) :
    Calls Try.prog 10 #[.slice A n c] w fun e w' => e = .returned (.bool true) ∧ Below w.heap.size w w' := by
  have hn63 := ha.2.1
  have hnc := ha.1
  by_cases hgt : 60 < n
  · have hgt : (60 : Int) < (n : Int) := by omega
    go_enter Try.func10, Try.ntmps10
    go_wp2_with fail
    go_ret
    exact ⟨rfl, Below.refl _ _⟩
  have hng : ¬ (60 : Int) < (n : Int) := by omega
  have hn : n ≤ 1000 := by omega
  have x0 := copied_ok n c A z w ha hA (by omega)
  go_enter Try.func10, Try.ntmps10
  go_wp2_with fail
  refine x0.mono ?_
  rintro e w1 ⟨X, c2, rfl, hx, _, q⟩
  have ha := ha.below q
  have hq := q.size
  have x1 := canon_ok n c2 X z w1 hx (by omega)
  clear x0
  go_wp2_with fail
  refine x1.mono ?_
  rintro e w2 ⟨s, rfl, hr, _, v⟩
  have ha := ha.below v
  have hx := hx.below v
  have q := below_end q hq v
  have hq := q.size
  have har := hr.arg (by omega) (fun i hi => by have := can_le (eqZ z) i; exact fits_wf ⟨by omega, by omega⟩)
  have x2 := rcanon_ok n c A z w2 ha hn
  clear x1 hr v
  go_wp2_with fail
  refine x2.mono ?_
  rintro e w3 ⟨A3, c3, rfl, h3, v⟩
  have ha := ha.below v
  have hx := hx.below v
  have har := har.below v
  have q := below_end q hq v
  have hq := q.size
  have x3 := same_yes n n c3 _ _ _ w3 har h3 (by omega)
  clear x2 v
  go_wp2_with fail
  refine x3.mono ?_
  rintro e w4 ⟨rfl, mm, hw⟩
  have v : Below w3.heap.size w3 w4 := by rw [hw]; exact below_drewN (Below.refl _ _) mm
  have ha := ha.below v
  have hx := hx.below v
  have q := below_end q hq v
  have hq := q.size
  clear x3 v hw har h3
  obtain ⟨cl, ec, g21, g32, g33, g34, hcl, hcm⟩ := classes_both n c c2 A X z w4 ha hx hn
  have G32 := Lib.hid g32
  have G33 := Lib.hid g33
  have G34 := Lib.hid g34
  have HCM := Lib.hid hcm
  have x := g21 w4 (Below.refl _ _)
  have b4 := Below.refl w4.heap.size w4
  clear g21 g32 g33 g34 hcm
  go_wp2_with fail
  refine x.mono ?_
  rintro e w5 ⟨rfl, v⟩
  have ha := ha.below v
  have hx := hx.below v
  have q := below_end q hq v
  have hq := q.size
  have b4 := below_go b4 (Nat.le_refl _) v
  clear x v
  have x := G32.out w5 b4
  go_wp2_with fail
  refine x.mono ?_
  rintro e w6 ⟨rfl, v⟩
  have ha := ha.below v
  have hx := hx.below v
  have q := below_end q hq v
  have hq := q.size
  have b4 := below_go b4 (Nat.le_refl _) v
  clear x v
  have x := G33.out w6 b4
  go_wp2_with fail
  refine x.mono ?_
  rintro e w7 ⟨A7, c7, B7, s7, rfl, C7, v⟩
  have ha := ha.below v
  have hx := hx.below v
  have q := below_end q hq v
  have hq := q.size
  have b4 := below_go b4 (Nat.le_refl _) v
  clear x v
  have x := G34.out w7 b4
  go_wp2_with fail
  refine x.mono ?_
  rintro e w8 ⟨A8, c8, B8, s8, rfl, C8, v⟩
  have ha := ha.below v
  have hx := hx.below v
  have C7 := C7.below v
  have q := below_end q hq v
  have hq := q.size
  clear x v b4
  have x := same_yes n c2 c X A z w8 hx ha (by omega)
  go_wp2_with fail
  refine x.mono ?_
  rintro e w9 ⟨rfl, mm, hw⟩
  have v : Below w8.heap.size w8 w9 := by rw [hw]; exact below_drewN (Below.refl _ _) mm
  have C7 := C7.below v
  have C8 := C8.below v
  have q := below_end q hq v
  have hq := q.size
  clear x v hw ha hx
  have HR := Lib.hid (show ∀ i, i < cl.length → RowPair w9 A7 A8 i from fun i hi => rowPair C7 C8 hi HCM.out)
  obtain ⟨m, hm⟩ : ∃ m, cl.length = m := ⟨_, rfl⟩
  rw [hm] at hcl HR ⊢
  clear C7 C8 HCM hm
  go_wp2_with fail
  go_loopw [8] (fun vi wr => ∃ i k : Nat, vi = .int .i64 i ∧ i ≤ m ∧ wr = w9.drewN k) (fun vi _ => m - (intOf vi).toNat)
  case atStart => exact ⟨0, 0, rfl, Nat.zero_le _, rfl⟩
  case round =>
    obtain ⟨i, k, rfl, hi, rfl⟩ := hrel
    by_cases hlt : i < m
    · obtain ⟨g1, g2, X1, d1, X2, d2, r, rfl, rfl, c1, c2, x⟩ := HR.out i hlt
      have hin : (i : Int) < (m : Int) := by omega
      go_wp2_with fail
      go_quiet ((go_at_call 20; exact x _ _))
      go_wp2_with fail
      go_roundw
      case rel => exact ⟨i + 1, k + nq, by simp, by omega, by first | rfl | simp⟩
      case measure => simp [intOf]; omega
    · have hin : ¬ (i : Int) < (m : Int) := by omega
      have q := below_drewN q k
      have hq := q.size
      generalize w9.drewN k = w10 at *
      clear HR
      have x := works_ok w10
      go_wp2_with fail
      refine x.mono ?_
      rintro e w20 ⟨rfl, v⟩
      have q := below_end q hq v
      go_wp2_with fail
      go_ret
      exact ⟨rfl, q⟩
end Go.Proofs.Ytipniooflaiikaa
