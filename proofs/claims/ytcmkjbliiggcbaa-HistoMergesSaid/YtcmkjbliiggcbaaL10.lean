/-
  The walk of HistoMerges, joined.
-/
import Derived.Test.YtcmkjbliiggcbaaL9
set_option linter.unusedVariables false
set_option linter.unusedSimpArgs false
namespace Go.Proofs.Ytcmkjbliiggcbaa
open Go.RowKit Go.Shelf

set_option maxRecDepth 100000 in
set_option maxHeartbeats 2000000 in
theorem merges_walk (n c : Nat) (A : Option Addr) (B : Nat → Int) (n' c' : Nat) (A' : Option Addr) (B' : Nat → Int) (m d : Nat) (L : Option Addr) (z : Nat → Nat → Int) (m' d' : Nat) (L' : Option Addr) (z' : Nat → Nat → Int) (own : Bool) (w : World)
    (ha : ArgI .i64 w A n c B) (hA : A = none → n = 0 ∧ c = 0) (ha' : ArgI .i64 w A' n' c' B') (hA' : A' = none → n' = 0 ∧ c' = 0) (hL : ArgS ks2 w L m d z) (hL' : ArgS ks2 w L' m' d' z') :
    Calls Try.prog 9 #[.agg #[.slice A n c, .slice A' n' c', .slice L m d, .slice L' m' d'], .bool own] w fun e w' => e = .returned (.bool true) ∧ Below w.heap.size w w' := by
  have q0 := below_new1 w (.cells #[.slice A n c, .slice A' n' c', .slice L m d, .slice L' m' d'] 52)
  have k0 := Blk.new w 52 #[.slice A n c, .slice A' n' c', .slice L m d, .slice L' m' d']
  have ha0 := ha.below q0
  have hL0 := hL.below q0
  have ha0' := ha'.below q0
  have hL0' := hL'.below q0
  have hsz0 := q0.size
  go_enter Try.func9, Try.ntmps9
  go_upto_region 1 with fail
  generalize w.alloc (.cells #[.slice A n c, .slice A' n' c', .slice L m d, .slice L' m' d'] 52) = W0 at *
  have e0 := k0.cell 0
  have e1 := k0.cell 1
  have e2 := k0.cell 2
  have e3 := k0.cell 3
  simp at e0 e1 e2 e3
  by_cases h1 : 200 < n
  · have i1 : (200 : Int) < (n : Int) := by omega
    go_wp2_with (go_at_call 14; refine (works_ok _).mono ?_; rintro e w9 ⟨rfl, hv9⟩)
    go_ret
    exact ⟨rfl, below_end q0 hsz0 hv9⟩
  have i1 : ¬ (200 : Int) < (n : Int) := by omega
  by_cases h2 : 200 < n'
  · have i2 : (200 : Int) < (n' : Int) := by omega
    go_wp2_with (go_at_call 14; refine (works_ok _).mono ?_; rintro e w9 ⟨rfl, hv9⟩)
    go_ret
    exact ⟨rfl, below_end q0 hsz0 hv9⟩
  have i2 : ¬ (200 : Int) < (n' : Int) := by omega
  by_cases h3 : 200 < m
  · have i3 : (200 : Int) < (m : Int) := by omega
    go_wp2_with (go_at_call 14; refine (works_ok _).mono ?_; rintro e w9 ⟨rfl, hv9⟩)
    go_ret
    exact ⟨rfl, below_end q0 hsz0 hv9⟩
  have i3 : ¬ (200 : Int) < (m : Int) := by omega
  by_cases h4 : 200 < m'
  · have i4 : (200 : Int) < (m' : Int) := by omega
    go_wp2_with (go_at_call 14; refine (works_ok _).mono ?_; rintro e w9 ⟨rfl, hv9⟩)
    go_ret
    exact ⟨rfl, below_end q0 hsz0 hv9⟩
  have i4 : ¬ (200 : Int) < (m' : Int) := by omega
  go_wp2_with fail
  refine (filled_ok2 n c A B m d L z _ ha0 hA hL0 (by omega)).mono ?_
  rintro e w1 hF1
  obtain ⟨v, u, rfl, F1, hv1⟩ := fil_of hF1
  clear hF1 e0 e1 e2 e3
  have k1 := k0.below hv1 k0.lt
  have e0 := k1.cell 0
  have e1 := k1.cell 1
  have e2 := k1.cell 2
  have e3 := k1.cell 3
  simp at e0 e1 e2 e3
  go_wp2_with fail
  refine (filled_ok2 n' c' A' B' m' d' L' z' _ (ha0'.below hv1) hA' (hL0'.below hv1) (by omega)).mono ?_
  rintro e w2 hF2
  obtain ⟨v', u', rfl, F2, hv2⟩ := fil_of hF2
  have q1 := below_end q0 hsz0 hv1
  have q2 := below_end q1 q1.size hv2
  have hz1 := hv1.size
  cases own
  · obtain ⟨k, hM⟩ := (merged_two F1 hv2 F2 hsz0 hz1).run
    clear F1 F2 hF2 e0 e1 e2 e3
    go_wp2_with fail
    refine hM.mono ?_
    rintro e w3 ⟨rfl, hR⟩
    go_wp2_with fail
    refine hR.mono ?_
    rintro e w4 ⟨rfl, P1, P2, q4⟩
    have q5 := q2.trans q4
    go_wp2_with fail
    refine (pair_agree P1 0).mono ?_
    rintro e w5 ⟨rfl, hv5⟩
    go_wp2_with fail
    refine (pair_agree (P2.below hv5) 0).mono ?_
    rintro e w6 ⟨rfl, hv6⟩
    have q6 := below_end q5 q5.size hv5
    have q7 := below_end q6 q6.size hv6
    go_wp2_with (go_at_call 14; refine (works_ok _).mono ?_; rintro e w9 ⟨rfl, hv9⟩)
    go_ret
    exact ⟨rfl, below_end q7 q7.size hv9⟩
  · obtain ⟨k, hM⟩ := (merged_self (F1.below hv2) hsz0 q2.size).run
    clear F1 F2 hF2 e0 e1 e2 e3
    go_wp2_with fail
    refine hM.mono ?_
    rintro e w3 ⟨rfl, hR⟩
    go_wp2_with fail
    refine hR.mono ?_
    rintro e w4 ⟨rfl, P1, P2, q4⟩
    have q5 := q2.trans q4
    go_wp2_with fail
    refine (pair_agree P1 0).mono ?_
    rintro e w5 ⟨rfl, hv5⟩
    go_wp2_with fail
    refine (pair_agree (P2.below hv5) 0).mono ?_
    rintro e w6 ⟨rfl, hv6⟩
    have q6 := below_end q5 q5.size hv5
    have q7 := below_end q6 q6.size hv6
    go_wp2_with (go_at_call 14; refine (works_ok _).mono ?_; rintro e w9 ⟨rfl, hv9⟩)
    go_ret
    exact ⟨rfl, below_end q7 q7.size hv9⟩
end Go.Proofs.Ytcmkjbliiggcbaa
