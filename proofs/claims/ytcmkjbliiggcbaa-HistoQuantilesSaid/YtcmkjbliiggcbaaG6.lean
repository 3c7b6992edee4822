/-
  The document's sums and differences, and its order.
-/
import Derived.Test.YtcmkjbliiggcbaaG5
import Derived.Deep.QuietTactic
import Derived.BigQuiet
set_option linter.unusedVariables false
set_option linter.unusedSimpArgs false
namespace Go.Proofs.Ytcmkjbliiggcbaa
open Go.RowKit Go.Shelf

/-- an integer of the document's that is worth x -/
structure Wide (b : Bool) (f : Nat → Int) (x : Int) : Prop where
  dig : Digits f
  val : val b f = x
theorem Wide.mag {b : Bool} {f : Nat → Int} {x : Int} (h : Wide b f x) : mag f = (x.natAbs : Int) := by
  have h1 := mag_in h.dig
  have h2 := h.val
  unfold Proofs.Ytcmkjbliiggcbaa.val at h2
  cases b <;> simp at h2 <;> omega
theorem wide_from {x : Int} (h : Fits x) : Wide (decide (x < 0)) (fromF x) x := ⟨from_digits h, from_val x⟩
theorem from_w (x : Int) (h : Fits x) (w : World) :
    Calls Try.prog 53 #[.int .i64 x] w fun e w' => ∃ b f, e = .returned (.agg (wide b f)) ∧ Wide b f x ∧ f 2 = 0 ∧ f 3 = 0 ∧ f 4 = 0 ∧ f 5 = 0 ∧ Below w.heap.size w w' :=
  (from_ok x h w).mono fun e w' k => ⟨_, _, k.1, wide_from h, rfl, rfl, rfl, rfl, k.2⟩
theorem plus_w {b : Bool} {f : Nat → Int} {c : Bool} {g : Nat → Int} {x y : Int} (hx : Wide b f x) (hy : Wide c g y) (h : (x.natAbs : Int) + y.natAbs < 4294967296 ^ 6) (w : World) :
    Calls Try.prog 58 #[.agg (wide b f), .agg (wide c g)] w fun e w' => ∃ d k, e = .returned (.agg (wide d k)) ∧ Wide d k (x + y) ∧ Below w.heap.size w w' :=
  (plus_ok b f c g hx.dig hy.dig w).mono fun e w' k => ⟨_, _, k.1, ⟨plus_digits b f c g, by rw [plus_val hx.dig hy.dig (by rw [hx.mag, hy.mag]; exact h), hx.val, hy.val]⟩, k.2⟩

theorem fit_w {b : Bool} {f : Nat → Int} {x : Int} (hx : Wide b f x) (w : World) :
    Calls Try.prog 54 #[.agg (wide b f)] w fun e w' => e = .returned (.tuple #[.int .i64 (fitV x), .int .i64 (fitE x)]) ∧ Below w.heap.size w w' := by
  have := fit_ok b f hx.dig w
  rwa [hx.val] at this
theorem natAbs_le63 {a : Int} (h : Fits a) : (a.natAbs : Int) ≤ 9223372036854775808 := by obtain ⟨h0, h1⟩ := h; omega





def sg (x : Int) : Int := cmp x 0


end Go.Proofs.Ytcmkjbliiggcbaa
