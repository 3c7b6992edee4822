/-
  Histograms: what histo's functions compute: valid, Total, Bucket.
-/
import Derived.Test.YtcmkjbliiggcbaaA1
import Derived.Deep.QuietTactic
import Derived.BigQuiet
set_option linter.unusedVariables false
set_option linter.unusedSimpArgs false
namespace Go.Proofs.Ytcmkjbliiggcbaa
open Go.RowKit Go.Shelf

/-- strictly increasing -/
def Inc (B : Nat → Int) (n : Nat) : Prop := ∀ i j, i < j → j < n → B i < B j
/-- a histogram -/
structure Hist (w : World) (p n : Nat) (B C : Nat → Int) (T : Int) (A : Option Addr) (cb s cs : Nat) : Prop where
  blk : Blk w p 63 #[.slice A n cb, .slice (some ⟨s, 0, none⟩) (n + 1) cs, .int .i64 T]
  row : RowF .i64 w s 2 (n + 1) C
  arg : ArgI .i64 w A n cb B
  nil : A = none → n = 0 ∧ cb = 0
  far : 0 < n → ∀ g o, A = some ⟨g, o, none⟩ → g ≠ s ∧ g ≠ p
  cap : n + 1 ≤ cs
  big : cs ≤ 9223372036854775807
  inc : Inc B n
  le : n ≤ 1024
theorem Hist.below {w w' : World} {p n : Nat} {B C : Nat → Int} {T : Int} {A : Option Addr} {cb s cs : Nat} (h : Hist w p n B C T A cb s cs) (hb : Below w.heap.size w w') : Hist w' p n B C T A cb s cs :=
  ⟨h.blk.below hb h.blk.lt, h.row.below' hb, h.arg.below hb, h.nil, h.far, h.cap, h.big, h.inc, h.le⟩
theorem Hist.cells {w : World} {p n : Nat} {B C : Nat → Int} {T : Int} {A : Option Addr} {cb s cs : Nat} (h : Hist w p n B C T A cb s cs) :
    w.cell? ⟨p, 0, none⟩ = some (.slice A n cb) ∧ w.cell? ⟨p, 1, none⟩ = some (.slice (some ⟨s, 0, none⟩) (n + 1) cs) ∧ w.cell? ⟨p, 2, none⟩ = some (.int .i64 T) :=
  ⟨h.blk.cell 0, h.blk.cell 1, h.blk.cell 2⟩
theorem Hist.drewN {w : World} {p n : Nat} {B C : Nat → Int} {T : Int} {A : Option Addr} {cb s cs : Nat} (h : Hist w p n B C T A cb s cs) (k : Nat) : Hist (w.drewN k) p n B C T A cb s cs := h.below (below_drewN (Below.refl _ _) k)

/-- how many bounds are at most x -/
def bk (B : Nat → Int) (x : Int) : Nat → Nat
  | 0 => 0
  | k + 1 => bk B x k + if B k ≤ x then 1 else 0
theorem bk_le (B : Nat → Int) (x : Int) (n : Nat) : bk B x n ≤ n := by
  induction n with
  | zero => exact Nat.le_refl _
  | succ n ih => simp only [bk]; split <;> omega
theorem bk_of {B : Nat → Int} {x : Int} {n i : Nat} (hi : i ≤ n) (h1 : ∀ j, j < i → B j ≤ x) (h2 : ∀ j, i ≤ j → j < n → x < B j) : bk B x n = i := by
  have key : ∀ k, k ≤ n → bk B x k = min k i := by
    intro k
    induction k with
    | zero => intro _; simp [bk]
    | succ k ih =>
      intro hk
      simp only [bk]
      rw [ih (by omega)]
      rcases Nat.lt_or_ge k i with h | h
      · rw [if_pos (h1 k h)]; omega
      · rw [if_neg (by have := h2 k h (by omega); omega)]; omega
  rw [key n (Nat.le_refl _)]; omega
theorem bk_low {B : Nat → Int} {x : Int} {n : Nat} (h : Inc B n) : ∀ j, j < bk B x n → B j ≤ x := by
  induction n with
  | zero => intro j hj; simp [bk] at hj
  | succ n ih =>
    intro j hj
    have ih' := ih (fun i j h1 h2 => h i j h1 (by omega))
    simp only [bk] at hj
    by_cases hx : B n ≤ x
    · have hl := bk_le B x n
      rcases Nat.lt_or_ge j n with h3 | h3
      · have := h j n h3 (by omega); omega
      · rw [if_pos hx] at hj
        obtain rfl : j = n := by omega
        exact hx
    · rw [if_neg hx] at hj
      exact ih' j (by omega)
theorem bk_high {B : Nat → Int} {x : Int} {n : Nat} (h : Inc B n) : ∀ j, bk B x n ≤ j → j < n → x < B j := by
  induction n with
  | zero => intro j _ hj; omega
  | succ n ih =>
    intro j hj hjn
    have ih' := ih (fun i j h1 h2 => h i j h1 (by omega))
    simp only [bk] at hj
    by_cases hx : B n ≤ x
    · rw [if_pos hx] at hj
      rcases Nat.lt_or_ge j n with h3 | h3
      · exact ih' j (by omega) h3
      · obtain rfl : j = n := by omega
        have h4 := ih' (j - 1) (by omega) (by omega)
        have h5 := h (j - 1) j (by omega) (by omega)
        exfalso
        omega
    · rw [if_neg hx] at hj
      rcases Nat.lt_or_ge j n with h3 | h3
      · exact ih' j (by omega) h3
      · obtain rfl : j = n := by omega
        omega

section
variable {w : World} {p n : Nat} {B C : Nat → Int} {T : Int} {A : Option Addr} {cb s cs : Nat}
set_option maxRecDepth 100000 in
theorem valid_ok (h : Hist w p n B C T A cb s cs) : Calls Try.prog 34 #[.pointer (some ⟨p, 0, none⟩)] w fun e w' => e = .returned (.bool true) ∧ w = w' := by
  obtain ⟨c0, c1, c2⟩ := h.cells
  have hle := h.le
  go_enter Try.func34, Try.ntmps34
  go_wp2_with fail
  go_ret
  exact ⟨rfl, rfl⟩
theorem valid_no (w : World) : Calls Try.prog 34 #[.pointer none] w fun e w' => e = .returned (.bool false) ∧ w = w' := by
  go_enter Try.func34, Try.ntmps34
  go_wp2_with fail
  go_ret
  exact ⟨rfl, rfl⟩
set_option maxRecDepth 100000 in
theorem total_ok (h : Hist w p n B C T A cb s cs) : Calls Try.prog 22 #[.pointer (some ⟨p, 0, none⟩)] w fun e w' => e = .returned (.int .i64 T) ∧ w = w' := by
  have hv := valid_ok h
  obtain ⟨c0, c1, c2⟩ := h.cells
  go_enter Try.func22, Try.ntmps22
  go_wp2_with (go_at_call 34; refine hv.mono ?_; rintro e w' ⟨rfl, rfl⟩)
  go_ret
  exact ⟨rfl, rfl⟩
set_option maxRecDepth 100000 in
theorem closure_ok (h : Hist w p n B C T A cb s cs) (b1 b2 : Nat) (x : Int) (k1 : Blk w b1 26 #[.pointer (some ⟨p, 0, none⟩)]) (k2 : Blk w b2 2 #[.int .i64 x]) (i : Nat) (hi : i < n) :
    Calls Try.prog 41 #[.int .i64 i, .pointer (some ⟨b1, 0, none⟩), .pointer (some ⟨b2, 0, none⟩)] w fun e w' => e = .returned (.bool (decide (x < B i))) ∧ ∃ m, w' = w.drewN m := by
  obtain ⟨c0, c1, c2⟩ := h.cells
  have m1 := k1.cell 0
  have m2 := k2.cell 0
  simp at m1 m2
  obtain ⟨g, o, rfl, hg, hc⟩ := h.arg.2.2.1 (by omega)
  have ci := hc i hi
  have hin : (i : Int) < (n : Int) := by omega
  have hle := h.le
  have hcb := h.arg.1
  clear hc
  obtain ⟨y, hy⟩ : ∃ y, B i = y := ⟨_, rfl⟩
  rw [hy] at ci ⊢
  clear hy
  go_enter Try.func41, Try.ntmps41
  go_wp2_with fail
  go_quiet (fail)
  go_wp2_with fail
  go_ret
  exact ⟨rfl, _, rfl⟩
end
end Go.Proofs.Ytcmkjbliiggcbaa
