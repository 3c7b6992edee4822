/-
  Either counters: valid or not, by one contract each.
-/
import Derived.Test.YtjikfmacdacgaaaR3
import Derived.Test.YtjikfmacdacgaaaW7
set_option linter.unusedVariables false
set_option linter.unusedSimpArgs false
namespace Go.Proofs.Ytjikfmacdacgaaa
open Go.RowKit Go.Shelf Fw

/-- counters, or none: then all is as of no counters -/
def EF (w : World) (p : Option Addr) (b s n : Nat) (C : Nat → Int) : Prop := (p = some ⟨b, 0, none⟩ ∧ FC w b s n C) ∨ (NoFw w p ∧ n = 0)
def ER (w : World) (p : Option Addr) (b s n : Nat) (C : Nat → Int) : Prop := (p = some ⟨b, 0, none⟩ ∧ RC w b s n C) ∨ (p = none ∧ n = 0)
theorem EF.below {w w' : World} {p : Option Addr} {b s n : Nat} {C : Nat → Int} (h : EF w p b s n C) (hb : Below w.heap.size w w') : EF w' p b s n C := by
  rcases h with ⟨h1, h2⟩ | ⟨h1, h2⟩
  · exact .inl ⟨h1, h2.below hb⟩
  · exact .inr ⟨h1.below hb, h2⟩
theorem ER.below {w w' : World} {p : Option Addr} {b s n : Nat} {C : Nat → Int} (h : ER w p b s n C) (hb : Below w.heap.size w w') : ER w' p b s n C := by
  rcases h with ⟨h1, h2⟩ | ⟨h1, h2⟩
  · exact .inl ⟨h1, h2.below hb⟩
  · exact .inr ⟨h1, h2⟩

def getV (C : Nat → Int) (n : Nat) (i : Int) : Int := if 0 ≤ i ∧ i < n then C i.toNat else 0
def preV (C : Nat → Int) (n : Nat) (k : Int) : Int := pre C (clip n k)
def fnd (C : Nat → Int) (x : Int) : Nat → Option Nat
  | 0 => none
  | k + 1 => match fnd C x k with
    | some i => some i
    | none => if 0 ≤ x ∧ x < pre C (k + 1) then some k else none
def findN (C : Nat → Int) (n : Nat) (x : Int) : Nat := (fnd C x n).getD 0
def findB (C : Nat → Int) (n : Nat) (x : Int) : Bool := (fnd C x n).isSome

theorem fnd_spec {C : Nat → Int} {x : Int} : ∀ n, (∀ j, j < n → 0 ≤ C j) → (∀ i, fnd C x n = some i → Fw.Found C n x i) ∧ (fnd C x n = none → x < 0 ∨ pre C n ≤ x) := by
  intro n
  induction n with
  | zero => intro _; exact ⟨fun i h => by simp [fnd] at h, fun _ => by simp [pre]; omega⟩
  | succ k ih =>
    intro nn
    obtain ⟨ih1, ih2⟩ := ih (fun j hj => nn j (by omega))
    cases h : fnd C x k with
    | some i =>
      have h0 := ih1 i h
      refine ⟨fun j hj => ?_, fun hj => by simp [fnd, h] at hj⟩
      simp [fnd, h] at hj
      subst hj
      exact ⟨by have := h0.1; omega, h0.2⟩
    | none =>
      have h0 := ih2 h
      by_cases hc : 0 ≤ x ∧ x < pre C (k + 1)
      · refine ⟨fun j hj => ?_, fun hj => by simp [fnd, h, hc] at hj⟩
        simp [fnd, h, hc] at hj
        subst hj
        exact ⟨by omega, by omega, hc.2⟩
      · refine ⟨fun j hj => ?_, fun _ => by omega⟩
        simp only [fnd, h, if_neg hc] at hj
        cases hj
theorem find_some {C : Nat → Int} {x : Int} {n i : Nat} (g : GoodC n C) (h : Fw.Found C n x i) : findN C n x = i ∧ findB C n x = true := by
  obtain ⟨h1, h2⟩ := fnd_spec (x := x) n g.nn
  cases hf : fnd C x n with
  | some j =>
    have := found_uniq g.nn h (h1 j hf)
    subst this
    simp [findN, findB, hf]
  | none =>
    exfalso
    have hp := pre_mono g.nn (i + 1) n h.1 (Nat.le_refl _)
    have h3 := g.pre_nn (k := i) (Nat.le_of_lt h.1)
    have h4 := h.2
    rcases h2 hf with h5 | h5 <;> omega
theorem find_none {C : Nat → Int} {x : Int} {n : Nat} (g : GoodC n C) (h : x < 0 ∨ pre C n ≤ x) : findN C n x = 0 ∧ findB C n x = false := by
  obtain ⟨h1, _⟩ := fnd_spec (x := x) n g.nn
  cases hf : fnd C x n with
  | some j =>
    exfalso
    obtain ⟨k1, k2, k3⟩ := h1 j hf
    have hp := pre_mono g.nn (j + 1) n k1 (Nat.le_refl _)
    have h3 := g.pre_nn (k := j) (Nat.le_of_lt k1)
    rcases h with h5 | h5 <;> omega
  | none => simp [findN, findB, hf]
theorem find_cases (C : Nat → Int) {x : Int} (n : Nat) (g : GoodC n C) : (x < 0 ∨ pre C n ≤ x) ∨ ∃ i, Fw.Found C n x i := by
  obtain ⟨h1, h2⟩ := fnd_spec (x := x) n g.nn
  cases hf : fnd C x n with
  | some j => exact .inr ⟨j, h1 j hf⟩
  | none => exact .inl (h2 hf)

theorem getV_zero (C : Nat → Int) (i : Int) : getV C 0 i = 0 := by unfold getV; rw [if_neg (by omega)]
theorem preV_zero (C : Nat → Int) (k : Int) : preV C 0 k = 0 := by unfold preV; have := clip_le 0 k; rw [show clip 0 k = 0 by omega]; rfl
theorem rangeV_zero (C : Nat → Int) (i j : Int) : rangeV C 0 i j = 0 := by
  unfold rangeV
  have := clip_le 0 i
  have := clip_le 0 j
  rw [show clip 0 i = 0 by omega, show clip 0 j = 0 by omega]
  split <;> simp
theorem rangeV_sum (C : Nat → Int) (n : Nat) (i j : Int) : sumV C (clip n i) (clip n j) = rangeV C n i j := by
  unfold sumV rangeV
  by_cases h : i < j
  · have := clip_mono n (Int.le_of_lt h)
    rw [if_pos h]
    by_cases h2 : clip n i < clip n j
    · rw [if_pos h2]
    · rw [if_neg h2, show clip n i = clip n j by omega, Int.sub_self]
  · have := clip_mono n (show j ≤ i by omega)
    rw [if_neg h, if_neg (by omega)]

section
variable (p : Option Addr) (b s n : Nat) (C : Nat → Int) (w : World)
theorem get_any (i : Int) (h : EF w p b s n C) : Calls Try.prog 18 #[.pointer p, .int .i64 i] w fun e w' => e = .returned (.int .i64 (getV C n i)) ∧ Below w.heap.size w w' := by
  rcases h with ⟨rfl, h⟩ | ⟨h, rfl⟩
  · by_cases hi : 0 ≤ i ∧ i < n
    · obtain ⟨j, rfl⟩ := Int.eq_ofNat_of_zero_le hi.1
      refine (get_ok b s n C j (by omega) w h).mono ?_
      rintro e w' ⟨v, rfl, hv, _, _, hb⟩
      refine ⟨?_, hb⟩
      unfold getV
      rw [if_pos hi, hv.out]
      rfl
    · refine (get_out b s n C i (by omega) w h).mono ?_
      rintro e w' ⟨rfl, rfl⟩
      unfold getV
      rw [if_neg hi]
      exact ⟨rfl, Below.refl _ _⟩
  · refine (get_no p i w h).mono ?_
    rintro e w' ⟨rfl, rfl⟩
    rw [getV_zero]
    exact ⟨rfl, Below.refl _ _⟩
theorem prefix_all (k : Int) (h : EF w p b s n C) : Calls Try.prog 17 #[.pointer p, .int .i64 k] w fun e w' => e = .returned (.int .i64 (preV C n k)) ∧ Below w.heap.size w w' := by
  rcases h with ⟨rfl, h⟩ | ⟨h, rfl⟩
  · refine (prefix_ok b s n C k w h).mono ?_
    rintro e w' ⟨v, rfl, hv, _, _, hb⟩
    exact ⟨by rw [hv.out]; rfl, hb⟩
  · refine (prefix_no p k w h).mono ?_
    rintro e w' ⟨rfl, hb⟩
    rw [preV_zero]
    exact ⟨rfl, hb⟩
theorem range_any (i j : Int) (h : EF w p b s n C) : Calls Try.prog 20 #[.pointer p, .int .i64 i, .int .i64 j] w fun e w' => e = .returned (.int .i64 (rangeV C n i j)) ∧ Below w.heap.size w w' := by
  rcases h with ⟨rfl, h⟩ | ⟨h, rfl⟩
  · refine (range_ok b s n C i j w h).mono ?_
    rintro e w' ⟨v, rfl, hv, _, _, hb⟩
    exact ⟨by rw [hv.out], hb⟩
  · refine (range_no p i j w h).mono ?_
    rintro e w' ⟨rfl, hb⟩
    rw [rangeV_zero]
    exact ⟨rfl, hb⟩
theorem total_any (h : EF w p b s n C) : Calls Try.prog 19 #[.pointer p] w fun e w' => e = .returned (.int .i64 (pre C n)) ∧ Below w.heap.size w w' := by
  rcases h with ⟨rfl, h⟩ | ⟨h, rfl⟩
  · refine (total_ok b s n C w h).mono ?_
    rintro e w' ⟨v, rfl, hv, _, _, hb⟩
    exact ⟨by rw [hv.out], hb⟩
  · refine (total_no p w h).mono ?_
    rintro e w' ⟨rfl, hb⟩
    exact ⟨rfl, hb⟩
theorem len_any (h : EF w p b s n C) : Calls Try.prog 26 #[.pointer p] w fun e w' => e = .returned (.int .i64 n) ∧ w = w' := by
  rcases h with ⟨rfl, h⟩ | ⟨h, rfl⟩
  · exact len_ok b s n _ w h.fw h.hn
  · exact len_no p w h
theorem find_any (x : Int) (h : EF w p b s n C) : Calls Try.prog 21 #[.pointer p, .int .i64 x] w fun e w' => e = .returned (.tuple #[.int .i64 (findN C n x : Nat), .bool (findB C n x)]) ∧ Below w.heap.size w w' := by
  rcases h with ⟨rfl, h⟩ | ⟨h, rfl⟩
  · rcases find_cases C (x := x) n h.good with hx | ⟨i, hi⟩
    · obtain ⟨e1, e2⟩ := find_none h.good hx
      rw [e1, e2]
      rcases Int.lt_or_le x 0 with h0 | h0
      · exact find_low _ x h0 w
      · exact find_big b s n C x w h h0 (by omega)
    · obtain ⟨e1, e2⟩ := find_some h.good hi
      rw [e1, e2]
      exact find_ok b s n C x i w h hi
  · exact find_no p x w h

theorem rget_any (i : Int) (h : ER w p b s n C) : Calls Try.prog 28 #[.pointer p, .int .i64 i] w fun e w' => e = .returned (.int .i64 (getV C n i)) ∧ w = w' := by
  rcases h with ⟨rfl, h⟩ | ⟨rfl, rfl⟩
  · by_cases hi : 0 ≤ i ∧ i < n
    · obtain ⟨j, rfl⟩ := Int.eq_ofNat_of_zero_le hi.1
      have e1 : getV C n (j : Int) = C j := by unfold getV; rw [if_pos hi]; rfl
      rw [e1]
      exact rget_ok b s n C j (by omega) w h
    · have e1 : getV C n i = 0 := by unfold getV; rw [if_neg hi]
      rw [e1]
      exact rget_out b s n C i (by omega) w h
  · rw [getV_zero]
    exact rget_no i w
theorem rprefix_all (k : Int) (h : ER w p b s n C) : Calls Try.prog 29 #[.pointer p, .int .i64 k] w fun e w' => e = .returned (.int .i64 (preV C n k)) ∧ w = w' := by
  rcases h with ⟨rfl, h⟩ | ⟨rfl, rfl⟩
  · exact rprefix_ok b s n C k w h
  · rw [preV_zero]
    exact rprefix_no k w
theorem rrange_any (i j : Int) (h : ER w p b s n C) : Calls Try.prog 30 #[.pointer p, .int .i64 i, .int .i64 j] w fun e w' => e = .returned (.int .i64 (rangeV C n i j)) ∧ w = w' := by
  rcases h with ⟨rfl, h⟩ | ⟨rfl, rfl⟩
  · rw [← rangeV_sum]
    exact rrange_ok b s n C i j w h
  · rw [rangeV_zero]
    exact rrange_no i j w
theorem rtotal_any (h : ER w p b s n C) : Calls Try.prog 31 #[.pointer p] w fun e w' => e = .returned (.int .i64 (pre C n)) ∧ w = w' := by
  rcases h with ⟨rfl, h⟩ | ⟨rfl, rfl⟩
  · exact rtotal_ok b s n C w h
  · exact rtotal_no w
theorem rlen_any (h : ER w p b s n C) : Calls Try.prog 32 #[.pointer p] w fun e w' => e = .returned (.int .i64 n) ∧ w = w' := by
  rcases h with ⟨rfl, h⟩ | ⟨rfl, rfl⟩
  · exact rlen_ok b s n C w h.rw
  · exact rlen_no w
theorem rfind_all (x : Int) (hx1 : x ≤ 9223372036854775807) (h : ER w p b s n C) : Calls Try.prog 27 #[.pointer p, .int .i64 x] w fun e w' => e = .returned (.tuple #[.int .i64 (findN C n x : Nat), .bool (findB C n x)]) ∧ w = w' := by
  rcases h with ⟨rfl, h⟩ | ⟨rfl, rfl⟩
  · rcases Int.lt_or_le x 0 with h0 | h0
    · obtain ⟨e1, e2⟩ := find_none (x := x) h.good (.inl h0)
      rw [e1, e2]
      exact rfind_low b s n C x h0 w h
    · refine (rfind_any b s n C x h0 hx1 w h).mono ?_
      rintro e w' ⟨v, rfl, hv, rfl⟩
      rcases hv with ⟨hv, rfl⟩ | ⟨i, hi, rfl⟩
      · obtain ⟨e1, e2⟩ := find_none (x := x) h.good (.inr hv)
        rw [e1, e2]
        exact ⟨rfl, rfl⟩
      · obtain ⟨e1, e2⟩ := find_some h.good hi
        rw [e1, e2]
        exact ⟨rfl, rfl⟩
  · exact rfind_no x w
end

end Go.Proofs.Ytjikfmacdacgaaa
