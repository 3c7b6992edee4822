/-
  The walk of HistoNews.
-/
import Derived.Test.YtcmkjbliiggcbaaR2
set_option linter.unusedVariables false
set_option linter.unusedSimpArgs false
namespace Go.Proofs.Ytcmkjbliiggcbaa
open Go.RowKit Go.Shelf

set_option maxRecDepth 100000 in
set_option maxHeartbeats 2000000 in
theorem news_walk (n c : Nat) (A : Option Addr) (B : Nat → Int) (x : Int) (w : World) (ha : ArgI .i64 w A n c B) (hA : A = none → n = 0 ∧ c = 0) :
    Calls Try.prog 7 #[.slice A n c, .int .i64 x] w fun e w' => e = .returned (.bool true) ∧ Below w.heap.size w w' := by
  have hn63 := ha.2.1
  have hnc := ha.1
  by_cases hbig : 1100 < n
  · have hb1 : (1100 : Int) < (n : Int) := by omega
    go_enter Try.func7, Try.ntmps7
    go_wp2_with (go_at_call 14; refine (works_ok _).mono ?_; rintro e w9 ⟨rfl, hv9⟩)
    go_ret
    exact ⟨rfl, hv9⟩
  have hb1 : ¬ (1100 : Int) < (n : Int) := by omega
  go_enter Try.func7, Try.ntmps7
  go_wp2_with fail
  refine (new_ok n c A B _ ha hA).mono ?_
  rintro e w1 (⟨p, A1, cb, s, cs, rfl, h, hp, hs, hv1⟩ | ⟨rfl, hno, hv1⟩)
  · have ha1 := ha.below hv1
    go_wp2_with fail
    refine (rnew_ok n c A B _ ha1 hA).mono ?_
    rintro e w2 (⟨p', A2, cb', s', cs', rfl, r, _, _, _, hv2⟩ | ⟨rfl, hno, hv2⟩)
    · have q := below_end hv1 hv1.size hv2
      go_wp2_with (first
        | (go_at_call 24; refine (agree_ok (h.below hv2) r (good_zero n) x).mono ?_; rintro e w3 ⟨rfl, hv3⟩)
        | (go_at_call 14; refine (works_ok _).mono ?_; rintro e w9 ⟨rfl, hv9⟩))
      go_ret
      have q := below_end q q.size hv3
      exact ⟨rfl, below_end q q.size hv9⟩
    · exact (hno ⟨h.le, h.inc⟩).elim
  · have ha1 := ha.below hv1
    go_wp2_with fail
    refine (rnew_ok n c A B _ ha1 hA).mono ?_
    rintro e w2 (⟨p', A2, cb', s', cs', rfl, r, hy, _, _, hv2⟩ | ⟨rfl, _, hv2⟩)
    · exact (hno hy).elim
    · have q := below_end hv1 hv1.size hv2
      go_wp2_with (first
        | (go_at_call 24; refine (agree_none x _).mono ?_; rintro e w3 ⟨rfl, hv3⟩)
        | (go_at_call 14; refine (works_ok _).mono ?_; rintro e w9 ⟨rfl, hv9⟩))
      go_ret
      have q := below_end q q.size hv3
      exact ⟨rfl, below_end q q.size hv9⟩
end Go.Proofs.Ytcmkjbliiggcbaa
