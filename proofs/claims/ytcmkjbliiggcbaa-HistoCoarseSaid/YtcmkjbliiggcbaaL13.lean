/-
  The walk of HistoCoarse.
-/
import Derived.Test.YtcmkjbliiggcbaaD3
import Derived.Test.YtcmkjbliiggcbaaR3
import Derived.Test.YtcmkjbliiggcbaaL3
set_option linter.unusedVariables false
set_option linter.unusedSimpArgs false
namespace Go.Proofs.Ytcmkjbliiggcbaa
open Go.RowKit Go.Shelf

/-- both are nil, or both show the same -/
def Twin (w : World) (v u : Option Addr) : Prop :=
  (v = none ∧ u = none) ∨ ∃ p n B C T A cb s cs p' A' cb' s' cs', v = some ⟨p, 0, none⟩ ∧ u = some ⟨p', 0, none⟩ ∧ Hist w p n B C T A cb s cs ∧ RHist w p' n B C A' cb' s' cs' ∧ Good C n T
theorem Twin.below {w w' : World} {v u : Option Addr} (h : Twin w v u) (hb : Below w.heap.size w w') : Twin w' v u := by
  rcases h with h | ⟨p, n, B, C, T, A, cb, s, cs, p', A', cb', s', cs', h1, h2, h3, h4, h5⟩
  · exact Or.inl h
  · exact Or.inr ⟨p, n, B, C, T, A, cb, s, cs, p', A', cb', s', cs', h1, h2, h3.below hb, h4.below hb, h5⟩
theorem twin_agree {w : World} {v u : Option Addr} (h : Twin w v u) (x : Int) :
    Calls Try.prog 24 #[.pointer v, .pointer u, .int .i64 x] w fun e w' => e = .returned (.bool true) ∧ Below w.heap.size w w' := by
  rcases h with ⟨rfl, rfl⟩ | ⟨p, n, B, C, T, A, cb, s, cs, p', A', cb', s', cs', rfl, rfl, h3, h4, h5⟩
  · exact agree_none x w
  · exact agree_ok h3 h4 h5 x
theorem twin_of {w w' : World} {n : Nat} {B : Nat → Int} {e : Ending} (h : FilledOk w n B e w') : ∃ v u, e = .returned (.tuple #[.pointer v, .pointer u]) ∧ Twin w' v u ∧ Below w.heap.size w w' := by
  rcases h with ⟨H, p, C, T, A, cb, s, cs, p', A', cb', s', cs', rfl, hB, a1, a2, a3, a4, q⟩ | ⟨rfl, q⟩
  · exact ⟨_, _, rfl, Or.inr ⟨p, n, B, C, T, A, cb, s, cs, p', A', cb', s', cs', rfl, rfl, hB.hh, hB.rr, hB.good⟩, q⟩
  · exact ⟨_, _, rfl, Or.inl ⟨rfl, rfl⟩, q⟩
/-- Coarse of both -/
theorem twin_coarse {w : World} {v u : Option Addr} (h : Twin w v u) (b : Int) :
    ∃ k : Int, Calls Try.prog 29 #[.pointer v, .int .i64 b] w fun e w1 => ∃ a, e = .returned (.tuple #[.pointer a, .int .i64 k]) ∧ Calls Try.prog 30 #[.pointer u, .int .i64 b] w1 fun e w2 => ∃ a', e = .returned (.tuple #[.pointer a', .int .i64 k]) ∧ Twin w2 a a' ∧ Twin w2 v u ∧ Below w.heap.size w w2 := by
  have h0 := h
  rcases h with ⟨rfl, rfl⟩ | ⟨p, n, B, C, T, A, cb, s, cs, p', A', cb', s', cs', rfl, rfl, hh, hr, hg⟩
  · refine ⟨1, (void_coarse (Or.inl rfl) b).mono ?_⟩
    rintro e w1 ⟨rfl, rfl⟩
    refine ⟨none, rfl, (rcoarse_none w b).mono ?_⟩
    rintro e w2 ⟨rfl, rfl⟩
    exact ⟨none, rfl, Or.inl ⟨rfl, rfl⟩, Or.inl ⟨rfl, rfl⟩, Below.refl _ _⟩
  · by_cases hb : b < 0 ∨ (n : Int) ≤ b
    · refine ⟨3, (coarse_range hh b hb).mono ?_⟩
      rintro e w1 ⟨rfl, rfl⟩
      refine ⟨none, rfl, (rcoarse_range hr b hb).mono ?_⟩
      rintro e w2 ⟨rfl, rfl⟩
      exact ⟨none, rfl, Or.inl ⟨rfl, rfl⟩, h0, Below.refl _ _⟩
    · obtain ⟨m, rfl⟩ : ∃ m, n = m + 1 := ⟨n - 1, by omega⟩
      obtain ⟨k, rfl⟩ := Int.eq_ofNat_of_zero_le (show 0 ≤ b by omega)
      refine ⟨0, (coarse_ok hh hg k (by omega)).mono ?_⟩
      rintro e w1 ⟨p1, A1, cb1, s1, cs1, rfl, h1, _, _, _, q1⟩
      refine ⟨_, rfl, (rcoarse_ok (hr.below q1) hg k (by omega)).mono ?_⟩
      rintro e w2 ⟨p2, A2, cb2, s2, cs2, rfl, h2, q2⟩
      exact ⟨_, rfl, Or.inr ⟨_, _, _, _, _, _, _, _, _, _, _, _, _, _, rfl, rfl, h1.below q2, h2, hg.fold (by omega)⟩, (h0.below q1).below q2, below_end q1 q1.size q2⟩

set_option maxRecDepth 100000 in
set_option maxHeartbeats 2000000 in
theorem coarse_walk (n c : Nat) (A : Option Addr) (B : Nat → Int) (m d : Nat) (L : Option Addr) (z : Nat → Nat → Int) (b : Int) (w : World) (ha : ArgI .i64 w A n c B) (hA : A = none → n = 0 ∧ c = 0) (hL : ArgS ks2 w L m d z) :
    Calls Try.prog 10 #[.slice A n c, .slice L m d, .int .i64 b] w fun e w' => e = .returned (.bool true) ∧ Below w.heap.size w w' := by
  by_cases hn : 200 < n
  · have hn' : (200 : Int) < (n : Int) := by omega
    go_enter Try.func10, Try.ntmps10
    go_wp2_with (go_at_call 14; refine (works_ok _).mono ?_; rintro e w9 ⟨rfl, hv9⟩)
    go_ret
    exact ⟨rfl, hv9⟩
  by_cases hm : 200 < m
  · have hn' : ¬ (200 : Int) < (n : Int) := by omega
    have hm' : (200 : Int) < (m : Int) := by omega
    go_enter Try.func10, Try.ntmps10
    go_wp2_with (go_at_call 14; refine (works_ok _).mono ?_; rintro e w9 ⟨rfl, hv9⟩)
    go_ret
    exact ⟨rfl, hv9⟩
  have hn' : ¬ (200 : Int) < (n : Int) := by omega
  have hm' : ¬ (200 : Int) < (m : Int) := by omega
  go_enter Try.func10, Try.ntmps10
  go_wp2_with fail
  refine (filled_ok n c A B m d L z _ ha hA hL (by omega)).mono ?_
  rintro e w1 hF
  obtain ⟨v, u, rfl, F, hv1⟩ := twin_of hF
  obtain ⟨k, hM⟩ := twin_coarse F b
  clear F hF
  go_wp2_with fail
  refine hM.mono ?_
  rintro e w2 ⟨a, rfl, hR⟩
  go_wp2_with fail
  refine hR.mono ?_
  rintro e w3 ⟨a', rfl, T1, T2, q3⟩
  have q := below_end hv1 hv1.size q3
  have HT1 := Lib.hid T1
  rcases T1 with ⟨rfl, rfl⟩ | ⟨p, n1, B1, C1, t1, A1, cb1, s1, cs1, p', A', cb', s', cs', rfl, rfl, _, _, _⟩
  all_goals
    go_wp2_with fail
    refine (twin_agree HT1.out 0).mono ?_
    rintro e w5 ⟨rfl, hv5⟩
    have q5 := below_end q q.size hv5
    go_wp2_with fail
    refine (twin_agree (T2.below hv5) 0).mono ?_
    rintro e w6 ⟨rfl, hv6⟩
    have q6 := below_end q5 q5.size hv6
    go_wp2_with (go_at_call 14; refine (works_ok _).mono ?_; rintro e w9 ⟨rfl, hv9⟩)
    go_ret
    exact ⟨rfl, below_end q6 q6.size hv9⟩
end Go.Proofs.Ytcmkjbliiggcbaa
