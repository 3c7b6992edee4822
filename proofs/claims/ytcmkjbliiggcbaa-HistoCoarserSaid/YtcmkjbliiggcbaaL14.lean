/-
  Histograms with and without a bound.
-/
import Derived.Test.YtcmkjbliiggcbaaD3
import Derived.Test.YtcmkjbliiggcbaaL11
set_option linter.unusedVariables false
set_option linter.unusedSimpArgs false
namespace Go.Proofs.Ytcmkjbliiggcbaa
open Go.RowKit Go.Shelf

theorem bk_del {B : Nat → Int} {m b : Nat} (hI : Inc B (m + 1)) (hb : b < m + 1) (x : Int) : bk (del B b) x m = if bk B x (m + 1) ≤ b then bk B x (m + 1) else bk B x (m + 1) - 1 := by
  have hl := bk_low (x := x) hI
  have hh := bk_high (x := x) hI
  have hle := bk_le B x (m + 1)
  generalize bk B x (m + 1) = q at *
  by_cases h : q ≤ b
  · rw [if_pos h]
    refine bk_of (by omega) (fun j hj => ?_) (fun j h1 h2 => ?_)
    · unfold del; rw [if_pos (by omega)]; exact hl j hj
    · unfold del; split
      · exact hh j h1 (by omega)
      · exact hh (j + 1) (by omega) (by omega)
  · rw [if_neg h]
    refine bk_of (by omega) (fun j hj => ?_) (fun j h1 h2 => ?_)
    · unfold del; split
      · exact hl j (by omega)
      · exact hl (j + 1) (by omega)
    · unfold del; rw [if_neg (by omega)]; exact hh (j + 1) (by omega) (by omega)
theorem fold_add {B : Nat → Int} {m b : Nat} (hI : Inc B (m + 1)) (hb : b < m + 1) (C : Nat → Int) (x t : Int) : addC (del B b) (fold C b) m x t = fold (addC B C (m + 1) x t) b := by
  have hq := bk_del hI hb x
  funext j
  unfold addC
  rw [hq]
  generalize bk B x (m + 1) = q at *
  clear hq
  rcases Nat.lt_trichotomy j b with h | h | h
  · rw [fold_lt (C := fun j => if j = q then C q + t else C j) h]
    by_cases e : j = q
    · subst e; rw [if_pos (show j ≤ b by omega), if_pos rfl, if_pos rfl, fold_lt h]
    · rw [if_neg (show ¬ j = if q ≤ b then q else q - 1 by split <;> omega), if_neg e, fold_lt h]
  · subst h
    rw [fold_eq (C := fun j => if j = q then C q + t else C j)]
    by_cases e : j = q
    · subst e; rw [if_pos (Nat.le_refl _), if_pos rfl, if_pos rfl, if_neg (by omega), fold_eq]; omega
    · by_cases e2 : j + 1 = q
      · subst e2; rw [if_neg (show ¬ j + 1 ≤ j by omega), if_pos (by omega), if_neg (by omega), if_pos rfl, show j + 1 - 1 = j by omega, fold_eq]; omega
      · rw [if_neg (show ¬ j = if q ≤ j then q else q - 1 by split <;> omega), if_neg e, if_neg e2, fold_eq]
  · rw [fold_gt (C := fun j => if j = q then C q + t else C j) h]
    by_cases e : j + 1 = q
    · subst e; rw [if_neg (show ¬ j + 1 ≤ b by omega), if_pos (by omega), if_pos rfl, show j + 1 - 1 = j by omega, fold_gt h]
    · rw [if_neg (show ¬ j = if q ≤ b then q else q - 1 by split <;> omega), if_neg e, fold_gt h]
/-- a histogram between the blocks lo and hi -/
def HAt (w : World) (lo hi p n : Nat) (B C : Nat → Int) (T : Int) : Prop :=
  ∃ A cb s cs, Hist w p n B C T A cb s cs ∧ Good C n T ∧ lo ≤ p ∧ lo ≤ s ∧ p < hi ∧ s < hi ∧ (0 < n → ∀ g o, A = some ⟨g, o, none⟩ → lo ≤ g ∧ g < hi)
theorem HAt.below {w w' : World} {lo hi p n : Nat} {B C : Nat → Int} {T : Int} (h : HAt w lo hi p n B C T) (hb : Below w.heap.size w w') : HAt w' lo hi p n B C T := by
  obtain ⟨A, cb, s, cs, h1, h2⟩ := h
  exact ⟨A, cb, s, cs, h1.below hb, h2⟩
theorem HAt.away {w w' : World} {lo hi p n : Nat} {B C : Nat → Int} {T : Int} (h : HAt w lo hi p n B C T) {S : Nat → Prop} (ht : Turns S w w') (hS : ∀ k, lo ≤ k → k < hi → ¬ S k) : HAt w' lo hi p n B C T := by
  obtain ⟨A, cb, s, cs, h1, h2, a1, a2, a3, a4, a5⟩ := h
  exact ⟨A, cb, s, cs, h1.turns ht (hS p a1 a3) (hS s a2 a4) (fun hn g o e => hS g (a5 hn g o e).1 (a5 hn g o e).2), h2, a1, a2, a3, a4, a5⟩
/-- what an addition says, and what it makes of the total and of the counts -/
def addX (T t : Int) : Int := if t < 0 then 2 else if 9223372036854775807 < T + t then 7 else 0
def addT (T t : Int) : Int := if t < 0 ∨ 9223372036854775807 < T + t then T else T + t
def addF (B C : Nat → Int) (n : Nat) (x t T : Int) : Nat → Int := if t < 0 ∨ 9223372036854775807 < T + t then C else addC B C n x t
theorem hat_add {w : World} {lo hi p n : Nat} {B C : Nat → Int} {T : Int} (h : HAt w lo hi p n B C T) (x t : Int) (ht1 : t ≤ 9223372036854775807) :
    Calls Try.prog 20 #[.pointer (some ⟨p, 0, none⟩), .int .i64 x, .int .i64 t] w fun e w' => e = .returned (.int .i64 (addX T t)) ∧ HAt w' lo hi p n B (addF B C n x t T) (addT T t) ∧ Turns (fun k => lo ≤ k ∧ k < hi) w w' := by
  have h0 := h
  obtain ⟨A, cb, s, cs, h1, h2, a1, a2, a3, a4, a5⟩ := h
  by_cases ht : t < 0
  · have e1 : addX T t = 2 := if_pos ht
    have e2 : addT T t = T := if_pos (Or.inl ht)
    have e3 : addF B C n x t T = C := if_pos (Or.inl ht)
    rw [e1, e2, e3]
    refine (hadd_neg h1 x t ht).mono ?_
    rintro e w' ⟨rfl, rfl⟩
    exact ⟨rfl, h0, Turns.refl _ _⟩
  · by_cases ho : 9223372036854775807 < T + t
    · have e1 : addX T t = 7 := by unfold addX; rw [if_neg ht, if_pos ho]
      have e2 : addT T t = T := if_pos (Or.inr ho)
      have e3 : addF B C n x t T = C := if_pos (Or.inr ho)
      rw [e1, e2, e3]
      refine (hadd_over h1 h2 x t (by omega) ht1 ho).mono ?_
      rintro e w' ⟨rfl, rfl⟩
      exact ⟨rfl, h0, Turns.refl _ _⟩
    · have hno : ¬ (t < 0 ∨ 9223372036854775807 < T + t) := by omega
      have e1 : addX T t = 0 := by unfold addX; rw [if_neg ht, if_neg ho]
      have e2 : addT T t = T + t := if_neg hno
      have e3 : addF B C n x t T = addC B C n x t := if_neg hno
      rw [e1, e2, e3]
      refine (hadd_ok h1 h2 x t (by omega) (by omega)).mono ?_
      rintro e w' ⟨rfl, k1, k2⟩
      exact ⟨rfl, ⟨A, cb, s, cs, k1, h2.add B x t (by omega) (by omega), a1, a2, a3, a4, a5⟩, k2.mono (fun k _ hk => by rcases hk with rfl | rfl; exact ⟨a1, a3⟩; exact ⟨a2, a4⟩)⟩
theorem fold_addF {B : Nat → Int} {m b : Nat} (hI : Inc B (m + 1)) (hb : b < m + 1) (C : Nat → Int) (x t T : Int) : addF (del B b) (fold C b) m x t T = fold (addF B C (m + 1) x t T) b := by
  unfold addF
  split
  · rfl
  · exact fold_add hI hb C x t
theorem hat_new (n c : Nat) (A : Option Addr) (B : Nat → Int) (w : World) (ha : ArgI .i64 w A n c B) (hA : A = none → n = 0 ∧ c = 0) :
    Calls Try.prog 18 #[.slice A n c] w fun e w' => ((∃ p, e = .returned (.tuple #[.pointer (some ⟨p, 0, none⟩), .int .i64 0]) ∧ HAt w' w.heap.size w'.heap.size p n B (fun _ => 0) 0 ∧ (n ≤ 1024 ∧ Inc B n)) ∨ (e = .returned (.tuple #[.pointer none, .int .i64 2]) ∧ ¬ (n ≤ 1024 ∧ Inc B n))) ∧ Below w.heap.size w w' := by
  refine (new_ok2 n c A B w ha hA).mono ?_
  rintro e w' (⟨p, A', cb, s, cs, rfl, h, hp, hs, hg, q⟩ | ⟨rfl, hno, q⟩)
  · exact ⟨Or.inl ⟨p, rfl, ⟨A', cb, s, cs, h, good_zero n, hp, hs, h.blk.lt, h.row.lt, fun hn g o e => ⟨hg g o e, h.argLt hn e⟩⟩, h.le, h.inc⟩, q⟩
  · exact ⟨Or.inr ⟨rfl, hno⟩, q⟩
theorem fold_zero (b : Nat) : fold (fun _ => 0) b = fun _ => 0 := by
  funext j
  rcases Nat.lt_trichotomy j b with h | h | h
  · rw [fold_lt h]
  · subst h; rw [fold_eq]; rfl
  · rw [fold_gt h]
theorem hat_coarse {w : World} {lo hi p m : Nat} {B C : Nat → Int} {T : Int} (h : HAt w lo hi p (m + 1) B C T) (b : Nat) (hb : b < m + 1) :
    Calls Try.prog 29 #[.pointer (some ⟨p, 0, none⟩), .int .i64 b] w fun e w' => ∃ p', e = .returned (.tuple #[.pointer (some ⟨p', 0, none⟩), .int .i64 0]) ∧ HAt w' w.heap.size w'.heap.size p' m (del B b) (fold C b) T ∧ Below w.heap.size w w' := by
  obtain ⟨A, cb, s, cs, h1, h2, _⟩ := h
  refine (coarse_ok h1 h2 b hb).mono ?_
  rintro e w' ⟨p', A', cb', s', cs', rfl, k1, k2, k3, k4, k5⟩
  exact ⟨p', rfl, ⟨A', cb', s', cs', k1, h2.fold hb, k2, k3, k1.blk.lt, k1.row.lt, fun hn g o e => ⟨k4 g o e, k1.argLt hn e⟩⟩, k5⟩
section
variable {w : World} {lo hi p n : Nat} {B C : Nat → Int} {T : Int}
theorem hat_counts (h : HAt w lo hi p n B C T) :
    Calls Try.prog 21 #[.pointer (some ⟨p, 0, none⟩)] w fun e w' => ∃ A' c', e = .returned (.slice A' (n + 1) c') ∧ ArgI .i64 w' A' (n + 1) c' C ∧ Below w.heap.size w w' := by
  obtain ⟨A, cb, s, cs, h1, h2, _⟩ := h
  refine (counts_ok h1 h2.fits).mono ?_
  rintro e w' ⟨A', c', rfl, k1, _, k2⟩
  exact ⟨A', c', rfl, k1, k2⟩
theorem hat_bounds (h : HAt w lo hi p n B C T) :
    Calls Try.prog 33 #[.pointer (some ⟨p, 0, none⟩)] w fun e w' => ∃ A' c', e = .returned (.slice A' n c') ∧ ArgI .i64 w' A' n c' B ∧ Below w.heap.size w w' := by
  obtain ⟨A, cb, s, cs, h1, h2, _⟩ := h
  refine (bounds_ok h1).mono ?_
  rintro e w' ⟨A', c', rfl, k1, _, k2⟩
  exact ⟨A', c', rfl, k1, k2⟩
theorem hat_total (h : HAt w lo hi p n B C T) :
    Calls Try.prog 22 #[.pointer (some ⟨p, 0, none⟩)] w fun e w' => e = .returned (.int .i64 T) ∧ w = w' := by
  obtain ⟨A, cb, s, cs, h1, h2, _⟩ := h
  exact total_ok h1
theorem hat_le (h : HAt w lo hi p n B C T) : n ≤ 1024 := by
  obtain ⟨A, cb, s, cs, h1, h2, _⟩ := h
  exact h1.le
end
end Go.Proofs.Ytcmkjbliiggcbaa
