/-
  Histograms: Copy.
-/
import Derived.Test.YtcmkjbliiggcbaaA7
import Derived.Deep.RegionHeld3
set_option linter.unusedVariables false
set_option linter.unusedSimpArgs false
namespace Go.Proofs.Ytcmkjbliiggcbaa
open Go.RowKit Go.Shelf
/-- what owns a row, as a row whose capacity is a number -/
theorem own_row2 {w : World} {base n : Nat} {v : Value} {z : Nat → Int} (h : w.ownsRow base 2 1 v n (vals z n)) (hn : 0 < n) :
    ∃ g cap, v = .slice (some ⟨g, 0, none⟩) n cap ∧ base ≤ g ∧ n ≤ cap ∧ cap ≤ 9223372036854775807 ∧ RowF .i64 w g 2 n z := by
  rcases h.2 with ⟨_, h0⟩ | ⟨g, cap, cur, hv, hg, hh, hc, hm, hs, ht⟩
  · omega
  · refine ⟨g, cap, hv, hg, hc, by simpa [maxLen] using hm, cur, hh, fun i hi => ?_⟩
    have hu := vals_get (z := z) hi
    rw [← ht, List.getElem?_take] at hu
    split at hu
    · rw [← Array.getElem?_toList]; exact hu
    · cases hu
/-- what Copy returns -/
def CopyOk (w : World) (n : Nat) (B C : Nat → Int) (T : Int) (e : Ending) (w' : World) : Prop :=
  ∃ p A cb s cs, e = .returned (.pointer (some ⟨p, 0, none⟩)) ∧ Hist w' p n B C T A cb s cs ∧ w.heap.size ≤ p ∧ w.heap.size ≤ s ∧ (∀ g o, A = some ⟨g, o, none⟩ → w.heap.size ≤ g) ∧ Below w.heap.size w w'
section
variable {w : World} {p n : Nat} {B C : Nat → Int} {T : Int} {A : Option Addr} {cb s cs : Nat}
set_option maxRecDepth 100000 in
set_option maxHeartbeats 2000000 in
theorem copy_ok (h : Hist w p n B C T A cb s cs) (hg : Good C n T) :
    Calls Try.prog 31 #[.pointer (some ⟨p, 0, none⟩)] w fun e w' => CopyOk w n B C T e w' := by
  have hv := valid_ok h
  have hle := h.le
  have hF := Lib.hid hg.fits
  have hI := Lib.hid h.inc
  have hB : ∀ j, j < n → Fits (B j) := fun j hj => wf_i64 (h.arg.2.2.2 j hj)
  have HB := Lib.hid hB
  clear hB
  have hD := h.below (Below.refl _ w).drew
  have q0 : Below w.heap.size w w.drew := (Below.refl _ w).drew
  have x0 := clone_ok n cb A B _ hD.arg hD.nil (by omega)
  have y0 := clone_ok (n + 1) cs _ C _ (row_arg hD.row hD.cap hD.big hF.out) (fun h => by cases h) (by omega)
  go_enter Try.func31, Try.ntmps31
  go_wp2_with fail
  refine hv.mono ?_
  rintro e w' ⟨rfl, rfl⟩
  go_wp2_with fail
  obtain ⟨c0, c1, c2⟩ := hD.cells
  go_region_held3 (fun w'' => w''.cell? ⟨p, 0, none⟩ = some (.slice A n cb) ∧ w''.cell? ⟨p, 1, none⟩ = some (.slice (some ⟨s, 0, none⟩) (n + 1) cs) ∧ w''.cell? ⟨p, 2, none⟩ = some (.int .i64 T)) (go_keep)
    (first
      | (go_at_call 39; (with_reducible refine x1.mono ?_); rintro e w2 ⟨v2, rfl, hown2, hv2⟩; have h2 := h1.below hv2; obtain ⟨m0, m1, m2⟩ := h2.cells; obtain ⟨A', cap, rfl, hC, hCn, hCg⟩ := own_arg hown2 HB.out; have hR2 := hR1.below' hv2)
      | (go_at_call 39; (with_reducible refine y1.mono ?_); rintro e w2 ⟨v2, rfl, hown2, hv2⟩; have h2 := h1.below hv2; obtain ⟨m0, m1, m2⟩ := h2.cells; obtain ⟨g', cap', rfl, hgs, hgc, hgb, hR2⟩ := own_row2 hown2 (by omega); have hC2 := hC1.below hv2)
      | (go_at_call 39; (with_reducible refine x0.mono ?_); rintro e w1 ⟨v1, rfl, hown1, hv1⟩; have h1 := hD.below hv1; obtain ⟨m0, m1, m2⟩ := h1.cells; obtain ⟨A', cap, rfl, hC1, hCn, hCg⟩ := own_arg hown1 HB.out; have y1 := clone_ok (n + 1) cs _ C _ (row_arg h1.row h1.cap h1.big hF.out) (fun h => by cases h) (by omega))
      | (go_at_call 39; (with_reducible refine y0.mono ?_); rintro e w1 ⟨v1, rfl, hown1, hv1⟩; have h1 := hD.below hv1; obtain ⟨m0, m1, m2⟩ := h1.cells; obtain ⟨g', cap', rfl, hgs, hgc, hgb, hR1⟩ := own_row2 hown1 (by omega); have x1 := clone_ok n cb A B _ h1.arg h1.nil (by omega)))
  · have hz1 : w.heap.size ≤ w1.heap.size := hv1.size
    have hz2 := hv2.size
    have hg' : 0 < n → ∀ g o, A' = some ⟨g, o, none⟩ → g < w2.heap.size := fun hn g o e => by
      obtain ⟨g', o', e', hl, _⟩ := hC2.2.2.1 hn
      rw [e] at e'; cases e'; exact hl
    have hAg : ∀ g o, A' = some ⟨g, o, none⟩ → w.heap.size ≤ g := fun g o e => by have h0 : w.heap.size ≤ g := hCg g o e; omega
    have hgl := hR2.lt
    have hne : 0 < n → ∀ g o, A' = some ⟨g, o, none⟩ → g ≠ g' := fun hn g o e => by
      obtain ⟨g1, o1, e1, hl, _⟩ := hC1.2.2.1 hn
      rw [e] at e1; cases e1
      have h0 : w1.heap.size ≤ g' := hgs
      omega
    have R : Hist (w2.alloc (.cells #[.slice A' n cap, .slice (some ⟨g', 0, none⟩) (n + 1) cap', .int .i64 T] 63)) w2.heap.size n B C T A' cap g' cap' :=
      ⟨Blk.new _ _ _, hR2.alloc _, hC2.below (below_new1 _ _), hCn, fun hn g o e => by have := hg' hn g o e; have := hne hn g o e; omega, hgc, hgb, hI.out, by omega⟩
    have q2 := below_end (below_end q0 q0.size hv1) hz1 hv2
    have qq := q2.alloc (by omega) (.cells #[.slice A' n cap, .slice (some ⟨g', 0, none⟩) (n + 1) cap', .int .i64 T] 63)
    have hgs' : w.heap.size ≤ g' := by have h0 : w1.heap.size ≤ g' := hgs; omega
    go_wp2_with fail
    go_ret
    exact ⟨_, A', cap, _, _, rfl, R, by omega, hgs', hAg, qq⟩
end
end Go.Proofs.Ytcmkjbliiggcbaa
