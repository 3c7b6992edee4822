/-
  Histograms that lie within a range of memory, and what additions make of them.
-/
import Derived.Test.YtcmkjbliiggcbaaA9
import Derived.Test.YtcmkjbliiggcbaaA8
import Derived.Test.YtcmkjbliiggcbaaL2
import Derived.Test.YtcmkjbliiggcbaaL5
set_option linter.unusedVariables false
set_option linter.unusedSimpArgs false
namespace Go.Proofs.Ytcmkjbliiggcbaa
open Go.RowKit Go.Shelf

/-- a histogram between the blocks lo and hi, whose total is at most M -/
def HIn (w : World) (lo hi p n : Nat) (B C : Nat → Int) (M : Int) : Prop :=
  ∃ T A cb s cs, Hist w p n B C T A cb s cs ∧ Good C n T ∧ T ≤ M ∧ lo ≤ p ∧ lo ≤ s ∧ p < hi ∧ s < hi ∧ (0 < n → ∀ g o, A = some ⟨g, o, none⟩ → lo ≤ g ∧ g < hi)
theorem Hist.argLt {w : World} {p n : Nat} {B C : Nat → Int} {T : Int} {A : Option Addr} {cb s cs : Nat} (h : Hist w p n B C T A cb s cs) (hn : 0 < n) {g o : Nat} (e : A = some ⟨g, o, none⟩) : g < w.heap.size := by
  obtain ⟨g', o', e', hl, _⟩ := h.arg.2.2.1 hn
  rw [e] at e'; cases e'; exact hl
theorem HIn.below {w w' : World} {lo hi p n : Nat} {B C : Nat → Int} {M : Int} (h : HIn w lo hi p n B C M) (hb : Below w.heap.size w w') : HIn w' lo hi p n B C M := by
  obtain ⟨T, A, cb, s, cs, h1, h2⟩ := h
  exact ⟨T, A, cb, s, cs, h1.below hb, h2⟩
theorem HIn.away {w w' : World} {lo hi p n : Nat} {B C : Nat → Int} {M : Int} (h : HIn w lo hi p n B C M) {S : Nat → Prop} (ht : Turns S w w') (hS : ∀ k, lo ≤ k → k < hi → ¬ S k) : HIn w' lo hi p n B C M := by
  obtain ⟨T, A, cb, s, cs, h1, h2, h3, a1, a2, a3, a4, a5⟩ := h
  exact ⟨T, A, cb, s, cs, h1.turns ht (hS p a1 a3) (hS s a2 a4) (fun hn g o e => hS g (a5 hn g o e).1 (a5 hn g o e).2), h2, h3, a1, a2, a3, a4, a5⟩
theorem HIn.more {w : World} {lo hi p n : Nat} {B C : Nat → Int} {M M' : Int} (h : HIn w lo hi p n B C M) (hm : M ≤ M') : HIn w lo hi p n B C M' := by
  obtain ⟨T, A, cb, s, cs, h1, h2, h3, h4⟩ := h
  exact ⟨T, A, cb, s, cs, h1, h2, by omega, h4⟩
/-- what a number that is counted so many times makes of the counts, if it may be counted -/
def addD (B C : Nat → Int) (n : Nat) (x t : Int) : Nat → Int := if t < 0 then C else addC B C n x t
theorem hin_add {w : World} {lo hi p n : Nat} {B C : Nat → Int} {M : Int} (h : HIn w lo hi p n B C M) (x t K : Int) (hK : t ≤ K) (hK0 : 0 ≤ K) (hM : M + K ≤ 9223372036854775807) :
    Calls Try.prog 20 #[.pointer (some ⟨p, 0, none⟩), .int .i64 x, .int .i64 t] w fun e w' => (∃ k : Int, e = .returned (.int .i64 k)) ∧ HIn w' lo hi p n B (addD B C n x t) (M + K) ∧ Turns (fun k => lo ≤ k ∧ k < hi) w w' := by
  obtain ⟨T, A, cb, s, cs, h1, h2, h3, a1, a2, a3, a4, a5⟩ := h
  by_cases ht : t < 0
  · refine (hadd_neg h1 x t ht).mono ?_
    rintro e w' ⟨rfl, rfl⟩
    exact ⟨⟨_, rfl⟩, ⟨T, A, cb, s, cs, by unfold addD; rw [if_pos ht]; exact h1, by unfold addD; rw [if_pos ht]; exact h2, by omega, a1, a2, a3, a4, a5⟩, Turns.refl _ _⟩
  · refine (hadd_ok h1 h2 x t (by omega) (by omega)).mono ?_
    rintro e w' ⟨rfl, k1, k2⟩
    exact ⟨⟨_, rfl⟩, ⟨_, A, cb, s, cs, by unfold addD; rw [if_neg ht]; exact k1, by unfold addD; rw [if_neg ht]; exact h2.add B x t (by omega) (by omega), by omega, a1, a2, a3, a4, a5⟩, k2.mono (fun k _ hk => by rcases hk with rfl | rfl; exact ⟨a1, a3⟩; exact ⟨a2, a4⟩)⟩
theorem hin_copy {w : World} {lo hi p n : Nat} {B C : Nat → Int} {M : Int} (h : HIn w lo hi p n B C M) :
    Calls Try.prog 31 #[.pointer (some ⟨p, 0, none⟩)] w fun e w' => ∃ p', e = .returned (.pointer (some ⟨p', 0, none⟩)) ∧ HIn w' w.heap.size w'.heap.size p' n B C M ∧ Below w.heap.size w w' := by
  obtain ⟨T, A, cb, s, cs, h1, h2, h3, _⟩ := h
  refine (copy_ok h1 h2).mono ?_
  rintro e w' ⟨p', A', cb', s', cs', rfl, k1, k2, k3, k4, k5⟩
  exact ⟨p', rfl, ⟨T, A', cb', s', cs', k1, h2, h3, k2, k3, k1.blk.lt, k1.row.lt, fun hn g o e => ⟨k4 g o e, k1.argLt hn e⟩⟩, k5⟩
theorem hin_counts {w : World} {lo hi p n : Nat} {B C : Nat → Int} {M : Int} (h : HIn w lo hi p n B C M) :
    Calls Try.prog 21 #[.pointer (some ⟨p, 0, none⟩)] w fun e w' => ∃ A' c', e = .returned (.slice A' (n + 1) c') ∧ ArgI .i64 w' A' (n + 1) c' C ∧ Below w.heap.size w w' := by
  obtain ⟨T, A, cb, s, cs, h1, h2, h3, _⟩ := h
  refine (counts_ok h1 h2.fits).mono ?_
  rintro e w' ⟨A', c', rfl, k1, _, k2⟩
  exact ⟨A', c', rfl, k1, k2⟩
/-- New, in these words -/
theorem hin_new (n c : Nat) (A : Option Addr) (B : Nat → Int) (w : World) (ha : ArgI .i64 w A n c B) (hA : A = none → n = 0 ∧ c = 0) :
    Calls Try.prog 18 #[.slice A n c] w fun e w' => ((∃ p, e = .returned (.tuple #[.pointer (some ⟨p, 0, none⟩), .int .i64 0]) ∧ HIn w' w.heap.size w'.heap.size p n B (fun _ => 0) 0 ∧ Inc B n) ∨ (e = .returned (.tuple #[.pointer none, .int .i64 2]) ∧ ¬ (n ≤ 1024 ∧ Inc B n))) ∧ Below w.heap.size w w' := by
  refine (new_ok2 n c A B w ha hA).mono ?_
  rintro e w' (⟨p, A', cb, s, cs, rfl, h, hp, hs, hg, q⟩ | ⟨rfl, hno, q⟩)
  · exact ⟨Or.inl ⟨p, rfl, ⟨0, A', cb, s, cs, h, good_zero n, Int.le_refl _, hp, hs, h.blk.lt, h.row.lt, fun hn g o e => ⟨hg g o e, h.argLt hn e⟩⟩, h.inc⟩, q⟩
  · exact ⟨Or.inr ⟨rfl, hno⟩, q⟩

/-- what step i makes of bucket j -/
def dl (B : Nat → Int) (n : Nat) (x t : Nat → Int) (i j : Nat) : Int := if t i < 0 then 0 else if j = bk B (x i) n then t i else 0
/-- the sum of what steps make -/
def acc (f : Nat → Nat → Int) (k : Nat) : Nat → Int := fun j => tot (fun i => f i j) k
theorem acc_dl (B : Nat → Int) (n : Nat) (x t : Nat → Int) (f : Nat → Nat → Int) (k i : Nat) (hf : f k = dl B n x t i) : addD B (acc f k) n (x i) (t i) = acc f (k + 1) := by
  funext j
  show _ = tot (fun i => f i j) k + f k j
  rw [hf]
  unfold addD dl
  by_cases ht : t i < 0
  · rw [if_pos ht, if_pos ht]; show tot _ k = _; omega
  · rw [if_neg ht, if_neg ht]
    unfold addC
    by_cases hj : j = bk B (x i) n
    · rw [if_pos hj, if_pos hj, ← hj]; rfl
    · rw [if_neg hj, if_neg hj]; show tot _ k = _; omega
theorem acc_none (f : Nat → Nat → Int) (k : Nat) (hf : f k = fun _ => 0) : acc f k = acc f (k + 1) := by
  funext j
  show tot (fun i => f i j) k = tot (fun i => f i j) k + f k j
  rw [hf]; show _ = _ + (0 : Int); omega
theorem acc_zero (f : Nat → Nat → Int) : acc f 0 = fun _ => 0 := rfl
theorem tot_shift (f : Nat → Int) (m : Nat) : tot f (m + 1) = f 0 + tot (fun i => f (i + 1)) m := by
  induction m with
  | zero => simp [tot]
  | succ m ih =>
    show tot f (m + 1) + f (m + 1) = f 0 + (tot (fun i => f (i + 1)) m + f (m + 1))
    rw [ih]; omega
theorem tot_congr {f g : Nat → Int} {k : Nat} (h : ∀ i, i < k → f i = g i) : tot f k = tot g k := by
  induction k with
  | zero => rfl
  | succ k ih =>
    show tot f k + f k = tot g k + g k
    rw [ih (fun i hi => h i (by omega)), h k (by omega)]
theorem tot_rev (f : Nat → Int) (m : Nat) : tot (fun i => f (m - 1 - i)) m = tot f m := by
  induction m with
  | zero => rfl
  | succ m ih =>
    rw [tot_shift]
    show f (m + 1 - 1 - 0) + tot (fun i => f (m + 1 - 1 - (i + 1))) m = tot f m + f m
    rw [← ih, tot_congr (f := fun i => f (m + 1 - 1 - (i + 1))) (g := fun i => f (m - 1 - i)) (fun i hi => congrArg f (by omega))]
    rw [show m + 1 - 1 - 0 = m by omega]; omega
theorem tot_both (f g : Nat → Int) (k : Nat) : tot f k + tot g k = tot (fun i => f i + g i) k := by
  induction k with
  | zero => rfl
  | succ k ih =>
    show tot f k + f k + (tot g k + g k) = tot (fun i => f i + g i) k + (f k + g k)
    rw [← ih]; omega
end Go.Proofs.Ytcmkjbliiggcbaa
