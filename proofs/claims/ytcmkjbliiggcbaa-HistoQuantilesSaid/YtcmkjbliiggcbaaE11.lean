/-
  The document's quotients of products, and the walk of CheckedMulDivs.
-/
import Derived.Test.YtcmkjbliiggcbaaG11
set_option linter.unusedVariables false
set_option linter.unusedSimpArgs false
namespace Go.Proofs.Ytcmkjbliiggcbaa
open Go.RowKit Go.Shelf

def mdV (a b c : Int) : Int := if c < 1 then 0 else fitV (a * b / c)
def mdE (a b c : Int) : Int := if c < 1 then 2 else fitE (a * b / c)
set_option maxRecDepth 100000 in
set_option maxHeartbeats 2000000 in
theorem rmd_ok (a b c : Int) (ha : Fits a) (hb : Fits b) (hc : Fits c) (w : World) :
    Calls Try.prog 38 #[.int .i64 a, .int .i64 b, .int .i64 c] w fun e w' => e = .returned (.tuple #[.int .i64 (mdV a b c), .int .i64 (mdE a b c)]) ∧ Below w.heap.size w w' := by
  by_cases h0 : c < 1
  · have e1 : mdV a b c = 0 := if_pos h0
    have e2 : mdE a b c = 2 := if_pos h0
    rw [e1, e2]
    have d1 := decide_yes h0
    clear e1 e2
    go_enter Try.func38, Try.ntmps38
    go_wp2_with fail
    go_ret2
    exact ⟨rfl, Below.refl _ _⟩
  have e1 : mdV a b c = fitV (a * b / c) := if_neg h0
  have e2 : mdE a b c = fitE (a * b / c) := if_neg h0
  rw [e1, e2]
  clear e1 e2
  have hc1 : 1 ≤ c := by omega
  have d1 := decide_no h0
  go_enter Try.func38, Try.ntmps38
  go_wp2_with (first
    | (go_at_call 51; refine (divide_w W3 hc1 hc _).mono ?_; rintro e w4 ⟨b4, f4, r4, rfl, W4, hv4⟩; rw [show wide b4 f4 = #[.bool b4, .int .u64 (f4 0), .int .u64 (f4 1), .int .u64 (f4 2), .int .u64 (f4 3), .int .u64 (f4 4), .int .u64 (f4 5)] from rfl]; have F4 := fun w => fit_w W4 w; simp only [wide] at F4)
    | (go_at_call 54; refine (F4 _).mono ?_; rintro e w5 ⟨rfl, hv5⟩)
    | (go_at_call 52; refine (times_w W1 W2 Z1.out Z2.out _).mono ?_; rintro e w3 ⟨b3, f3, rfl, W3, hv3⟩)
    | (go_at_call 53; have mk := W1; refine (from_w b hb _).mono ?_; rintro e w2 ⟨b2, f2, rfl, W2, _, y1, y2, y3, hv2⟩; have Z2 := Lib.hid (And.intro y1 (And.intro y2 y3)); clear y1 y2 y3)
    | (go_at_call 53; refine (from_w a ha _).mono ?_; rintro e w1 ⟨b1, f1, rfl, W1, _, x1, x2, x3, hv1⟩; have Z1 := Lib.hid (And.intro x1 (And.intro x2 x3)); clear x1 x2 x3))
  go_ret2
  have q := below_end hv1 hv1.size hv2
  have q := below_end q q.size hv3
  have q := below_end q q.size hv4
  refine ⟨rfl, below_go (q.alloc q.size _) ?_ hv5⟩
  have := q.size
  simp


end Go.Proofs.Ytcmkjbliiggcbaa
