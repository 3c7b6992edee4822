/-
  The walk of HistoQuantiles.
-/
import Derived.Test.YtcmkjbliiggcbaaR3
import Derived.Test.YtcmkjbliiggcbaaR4
set_option linter.unusedVariables false
set_option linter.unusedSimpArgs false
namespace Go.Proofs.Ytcmkjbliiggcbaa
open Go.RowKit Go.Shelf

set_option maxRecDepth 100000 in
set_option maxHeartbeats 4000000 in
theorem quantiles_walk (n c : Nat) (A : Option Addr) (B : Nat → Int) (m d : Nat) (L : Option Addr) (z : Nat → Nat → Int) (a b : Int) (w : World) (ha : ArgI .i64 w A n c B) (hA : A = none → n = 0 ∧ c = 0) (hL : ArgS ks2 w L m d z) (fa : Fits a) (fb : Fits b) :
    Calls Try.prog 3 #[.slice A n c, .slice L m d, .agg #[.int .i64 a, .int .i64 b]] w fun e w' => e = .returned (.bool true) ∧ Below w.heap.size w w' := by
  have q0 := below_new1 w (.cells #[.int .i64 a, .int .i64 b] 24)
  have k0 := Blk.new w 24 #[.int .i64 a, .int .i64 b]
  have ha0 := ha.below q0
  have hL0 := hL.below q0
  by_cases hn : 200 < n
  · have hn' : (200 : Int) < (n : Int) := by omega
    go_enter Try.func3, Try.ntmps3
    go_wp2_with (go_at_call 14; refine (works_ok _).mono ?_; rintro e w9 ⟨rfl, hv9⟩)
    go_ret
    exact ⟨rfl, below_end q0 q0.size hv9⟩
  by_cases hm : 200 < m
  · have hn' : ¬ (200 : Int) < (n : Int) := by omega
    have hm' : (200 : Int) < (m : Int) := by omega
    go_enter Try.func3, Try.ntmps3
    go_wp2_with (go_at_call 14; refine (works_ok _).mono ?_; rintro e w9 ⟨rfl, hv9⟩)
    go_ret
    exact ⟨rfl, below_end q0 q0.size hv9⟩
  have hn' : ¬ (200 : Int) < (n : Int) := by omega
  have hm' : ¬ (200 : Int) < (m : Int) := by omega
  have hsz0 := q0.size
  go_enter Try.func3, Try.ntmps3
  go_upto_region 1 with fail
  generalize w.alloc (.cells #[.int .i64 a, .int .i64 b] 24) = W0 at *
  go_wp2_with fail
  refine (filled_ok n c A B m d L z _ ha0 hA hL0 (by omega)).mono ?_
  rintro e w1 (⟨H, p, C, T, A1, cb, s, cs, p', A2, cb', s', cs', rfl, hB, hp, hs, hp', hs', hv1⟩ | ⟨rfl, hv1⟩)
  · have q := below_end q0 hsz0 hv1
    have k1 := k0.below hv1 k0.lt
    have e0 := k1.cell 0
    have e1 := k1.cell 1
    simp at e0 e1
    have hT0 := hB.good.t0
    have hTl := hB.good.le
    by_cases hbad : a < 0 ∨ b < 1 ∨ b < a
    · go_wp2_with (first
        | (go_at_call 16; refine (quant_bad hB.hh a b hbad).mono ?_; rintro e w' ⟨rfl, rfl⟩)
        | (go_at_call 17; refine (rquant_bad hB.rr a b hbad).mono ?_; rintro e w' ⟨rfl, rfl⟩)
        | (go_at_call 14; refine (works_ok _).mono ?_; rintro e w9 ⟨rfl, hv9⟩))
      go_ret
      exact ⟨rfl, below_end q q.size hv9⟩
    · by_cases hz : T = 0
      · subst hz
        go_wp2_with (first
          | (go_at_call 16; refine (quant_none hB.hh a b (by omega) (by omega) (by omega)).mono ?_; rintro e w' ⟨rfl, rfl⟩)
          | (go_at_call 17; refine (rquant_none hB.rr hB.good a b (by omega) (by omega) (by omega)).mono ?_; rintro e w' ⟨rfl, rfl⟩)
          | (go_at_call 14; refine (works_ok _).mono ?_; rintro e w9 ⟨rfl, hv9⟩))
        go_ret
        exact ⟨rfl, below_end q q.size hv9⟩
      · have hT1 : 1 ≤ T := by omega
        have fb1 := fb.2
        go_wp2_with fail
        refine (quant_ok hB.hh hB.good hT1 a b (by omega) (by omega) (by omega) fb1).mono ?_
        rintro e w2 ⟨k, rfl, hk, hv2⟩
        have q := below_end q q.size hv2
        have k2 := k1.below hv2 k1.lt
        clear e0 e1
        have e0 := k2.cell 0
        have e1 := k2.cell 1
        simp at e0 e1
        go_wp2_with fail
        refine (rquant_ok (hB.rr.below hv2) hB.good hT1 a b (by omega) (by omega) (by omega) fb1).mono ?_
        rintro e w3 ⟨k', rfl, hk', hv3⟩
        have q := below_end q q.size hv3
        obtain rfl := isq_unique hk hk'
        clear hk hk'
        go_wp2_with (go_at_call 14; refine (works_ok _).mono ?_; rintro e w9 ⟨rfl, hv9⟩)
        go_ret
        exact ⟨rfl, below_end q q.size hv9⟩
  · have q := below_end q0 hsz0 hv1
    have k1 := k0.below hv1 k0.lt
    have e0 := k1.cell 0
    have e1 := k1.cell 1
    simp at e0 e1
    go_wp2_with (first
      | (go_at_call 16; refine (void_quant (Or.inl rfl) a b).mono ?_; rintro e w' ⟨rfl, rfl⟩)
      | (go_at_call 17; refine (rvoid_quant _ a b).mono ?_; rintro e w' ⟨rfl, rfl⟩)
      | (go_at_call 14; refine (works_ok _).mono ?_; rintro e w9 ⟨rfl, hv9⟩))
    go_ret
    exact ⟨rfl, below_end q q.size hv9⟩
end Go.Proofs.Ytcmkjbliiggcbaa
