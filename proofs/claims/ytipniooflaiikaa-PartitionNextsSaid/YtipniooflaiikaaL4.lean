/-
  PartitionNexts, walked.
-/
import Derived.Test.YtipniooflaiikaaE3
import Derived.Test.YtipniooflaiikaaB3
import Derived.Test.YtipniooflaiikaaA9
set_option linter.unusedVariables false
set_option linter.unusedSimpArgs false
namespace Go.Proofs.Ytipniooflaiikaa
open Go.RowKit Go.Shelf

theorem NextIs.congr {a b : Nat → Nat} {n t v : Nat} (h : NextIs a n t v) (e : ∀ i, i < n → a i = b i) : NextIs b n t v := by
  have h1 := h.lt
  have h2 := h.le
  have h3 := h.gt
  refine ⟨h.lt, ?_, fun i k1 k2 => ?_, ?_, h.le, ?_, fun i k1 k2 => ?_⟩
  · rw [← e t h1]; exact h.ne
  · rw [← e i k2]; exact h.last i k1 k2
  · rw [← e t h1]; exact h.gt
  · rw [← e v (by omega)]; exact h.top
  · rw [← e i (by omega)]; rw [← e t h1] at k1; exact h.low i k1 k2
set_option maxRecDepth 100000 in
set_option maxHeartbeats 4000000 in
theorem nexts_walk (n c : Nat) (A : Option Addr) (z : Nat → Int) (w : World) (ha : ArgI .i64 w A n c z) (hA : A = none → n = 0 ∧ c = 0) :
    Calls Try.prog 4 #[.slice A n c] w fun e w' => e = .returned (.bool true) ∧ Below w.heap.size w w' := by
  have hn63 := ha.2.1
  have hnc := ha.1
  by_cases hgt : 40 < n
  · have hgt : (40 : Int) < (n : Int) := by omega
    go_enter Try.func4, Try.ntmps4
    go_wp2_with fail
    go_ret
    exact ⟨rfl, Below.refl _ _⟩
  have hng : ¬ (40 : Int) < (n : Int) := by omega
  have hn : n ≤ 1000 := by omega
  have x0 := copied_ok n c A z w ha hA (by omega)
  go_enter Try.func4, Try.ntmps4
  go_wp2_with fail
  refine x0.mono ?_
  rintro e w1 ⟨B, d, rfl, hb, _, q⟩
  have ha := ha.below q
  have hq := q.size
  have x1 := next_ok n d B z w1 hb (by omega)
  clear x0
  go_wp2_with fail
  refine x1.mono ?_
  rintro e w2 (⟨hno, rfl, v2⟩ | ⟨a, t, v, s, hca, ea, hN, rfl, hr, _, v2⟩)
  · have HNO := Lib.hid hno
    have ha := ha.below v2
    have hb := hb.below v2
    have q := below_end q hq v2
    have hq := q.size
    have x2 := rnext_ok n c A z w2 ha hn
    clear x1 hno v2
    go_wp2_with fail
    refine x2.mono ?_
    rintro e w3 (⟨_, rfl, v3⟩ | ⟨a, t, v, A', c', hca, ea, hN, rfl, _, v3⟩)
    · have ha := ha.below v3
      have hb := hb.below v3
      have q := below_end q hq v3
      have hq := q.size
      have x3 := same_yes 0 0 0 none none (fun _ => 0) w3 (argI_zero none 0 (by decide) _) (argI_zero none 0 (by decide) _) (by decide)
      clear x2 v3
      go_wp2_with fail
      refine x3.mono ?_
      rintro e w4 ⟨rfl, m4, hw4⟩
      have v4 : Below w3.heap.size w3 w4 := by rw [hw4]; exact below_drewN (Below.refl _ _) m4
      have ha := ha.below v4
      have hb := hb.below v4
      have q := below_end q hq v4
      have hq := q.size
      have x4 := same_yes n d c B A z w4 hb ha (by omega)
      clear x3 hw4
      go_wp2_with fail
      refine x4.mono ?_
      rintro e w5 ⟨rfl, m5, hw5⟩
      have v5 : Below w4.heap.size w4 w5 := by rw [hw5]; exact below_drewN (Below.refl _ _) m5
      have q := below_end q hq v5
      have hq := q.size
      have x5 := works_ok w5
      clear x4 hw5
      go_wp2_with fail
      refine x5.mono ?_
      rintro e w6 ⟨rfl, v6⟩
      have q := below_end q hq v6
      go_wp2_with fail
      go_ret
      exact ⟨rfl, q⟩
    · exfalso
      rcases HNO.out with h | h
      · exact h ((CanZ.of hca).congr fun i hi => (ea i hi).symm)
      · have := h t hN.lt
        rw [ea t hN.lt] at this
        exact hN.ne (Int.ofNat_inj.1 this)
  · have HCA := Lib.hid hca
    have HE := Lib.hid ea
    have HN := Lib.hid hN
    have ha := ha.below v2
    have hb := hb.below v2
    have q := below_end q hq v2
    have hq := q.size
    have x2 := rnext_ok n c A z w2 ha hn
    clear x1 v2 hca ea hN
    go_wp2_with fail
    refine x2.mono ?_
    rintro e w3 (⟨hno, _, v3⟩ | ⟨a', t', v', A', c', hca', ea', hN', rfl, hC, v3⟩)
    · exfalso
      rcases hno with h | h
      · exact h ((CanZ.of HCA.out).congr fun i hi => (HE.out i hi).symm)
      · have := h t HN.out.lt
        rw [HE.out t HN.out.lt] at this
        exact HN.out.ne (Int.ofNat_inj.1 this)
    · have heq : ∀ i, i < n → a' i = a i := fun i hi => by
        have h1 := ea' i hi
        rw [HE.out i hi] at h1
        exact (Int.ofNat_inj.1 h1).symm
      obtain ⟨e1, e2⟩ := (hN'.congr heq).unique HN.out
      subst e1 e2
      have hC := hC.congr (y := fun i => (nx a t' v' i : Int)) (fun i hi => by
        unfold nx
        by_cases h : i < t'
        · rw [if_pos h, if_pos h, heq i hi]
        · rw [if_neg h, if_neg h])
      have har := hr.arg (by omega) (fun i hi => by
        have := nx_le HCA.out HN.out.le i hi
        have k : nx a t' v' i ≤ i := this
        exact fits_wf ⟨by omega, by omega⟩)
      have har := har.below v3
      have ha := ha.below v3
      have hb := hb.below v3
      have q := below_end q hq v3
      have hq := q.size
      have x3 := same_yes n n c' _ _ _ w3 har hC (by omega)
      clear x2 v3 hr hca' ea' hN' heq
      go_wp2_with fail
      refine x3.mono ?_
      rintro e w4 ⟨rfl, m4, hw4⟩
      have v4 : Below w3.heap.size w3 w4 := by rw [hw4]; exact below_drewN (Below.refl _ _) m4
      have ha := ha.below v4
      have hb := hb.below v4
      have q := below_end q hq v4
      have hq := q.size
      have x4 := same_yes n d c B A z w4 hb ha (by omega)
      clear x3 hw4
      go_wp2_with fail
      refine x4.mono ?_
      rintro e w5 ⟨rfl, m5, hw5⟩
      have v5 : Below w4.heap.size w4 w5 := by rw [hw5]; exact below_drewN (Below.refl _ _) m5
      have q := below_end q hq v5
      have hq := q.size
      have x5 := works_ok w5
      clear x4 hw5
      go_wp2_with fail
      refine x5.mono ?_
      rintro e w6 ⟨rfl, v6⟩
      have q := below_end q hq v6
      go_wp2_with fail
      go_ret
      exact ⟨rfl, q⟩
end Go.Proofs.Ytipniooflaiikaa
