/-
  Graphs, plainly: edges, degrees, the removal order.
-/
import Derived.Test.YtoiafopndlnknaaR1
set_option linter.unusedVariables false
set_option linter.unusedSimpArgs false
namespace Go.Proofs.Ytoiafopndlnknaa
open Go.RowKit Go.Shelf

/-- the edges' ends -/
abbrev Es := List (Nat × Nat)
def hits (e : Nat × Nat) (v : Nat) : Bool := e.1 == v || e.2 == v
def other (e : Nat × Nat) (v : Nat) : Nat := if e.2 = v then e.1 else e.2
def edge (E : Es) (i : Nat) : Nat × Nat := E.getD i (0, 0)
/-- the edges of a vertex among the first k -/
def inc (E : Es) (v k : Nat) : List Nat := (List.range k).filter fun i => hits (edge E i) v
def cnt (E : Es) (v k : Nat) : Nat := (inc E v k).length
theorem inc_succ (E : Es) (v k : Nat) : inc E v (k + 1) = inc E v k ++ if hits (edge E k) v = true then [k] else [] := by
  unfold inc
  rw [List.range_succ, List.filter_append]
  congr 1
  by_cases h : hits (edge E k) v = true
  · rw [if_pos h]; simp [h]
  · rw [if_neg h]; simp [h]
theorem cnt_succ (E : Es) (v k : Nat) : cnt E v (k + 1) = cnt E v k + if hits (edge E k) v = true then 1 else 0 := by
  unfold cnt
  rw [inc_succ, List.length_append]
  split <;> rfl
theorem cnt_zero (E : Es) (v : Nat) : cnt E v 0 = 0 := rfl
theorem cnt_le (E : Es) (v k : Nat) : cnt E v k ≤ k := by
  unfold cnt inc
  exact Nat.le_trans (List.length_filter_le _ _) (by rw [List.length_range]; exact Nat.le_refl _)
theorem cnt_mono (E : Es) (v : Nat) {k m : Nat} (h : k ≤ m) : cnt E v k ≤ cnt E v m := by
  induction h with
  | refl => exact Nat.le_refl _
  | step _ ih => rw [cnt_succ]; omega
theorem inc_pre (E : Es) (v : Nat) {k m : Nat} (h : k ≤ m) : inc E v k <+: inc E v m := by
  induction h with
  | refl => exact List.prefix_refl _
  | step _ ih => rw [inc_succ]; exact ih.trans (List.prefix_append _ _)
theorem inc_lt {E : Es} {v k i : Nat} (h : i ∈ inc E v k) : i < k ∧ hits (edge E i) v = true := by
  unfold inc at h
  have := List.mem_filter.1 h
  exact ⟨by simpa using this.1, this.2⟩
/-- where the edges of a vertex begin -/
def off (E : Es) : Nat → Nat
  | 0 => 0
  | v + 1 => off E v + cnt E v E.length
theorem off_mono (E : Es) {u v : Nat} (h : u ≤ v) : off E u ≤ off E v := by
  induction h with
  | refl => exact Nat.le_refl _
  | step _ ih => exact Nat.le_trans ih (Nat.le_add_right _ _)
theorem off_sep (E : Es) {u v : Nat} (h : u < v) : off E u + cnt E u E.length ≤ off E v := off_mono E (show u + 1 ≤ v from h)
/-- the sum of what a set of k edges gives -/
def offK (E : Es) (k : Nat) : Nat → Nat
  | 0 => 0
  | v + 1 => offK E k v + cnt E v k
theorem offK_succ (E : Es) (k n : Nat) : offK E (k + 1) n = offK E k n + ((List.range n).filter fun v => hits (edge E k) v).length := by
  induction n with
  | zero => rfl
  | succ n ih =>
    show offK E (k + 1) n + cnt E n (k + 1) = offK E k n + cnt E n k + _
    rw [ih, cnt_succ, List.range_succ, List.filter_append, List.length_append]
    by_cases h : hits (edge E k) n = true
    · rw [if_pos h]
      simp [h]; omega
    · rw [if_neg h]
      simp [h]; omega
theorem hit_two (e : Nat × Nat) (n : Nat) : ((List.range n).filter fun v => hits e v).length ≤ 2 := by
  have h1 : ∀ a n : Nat, ((List.range n).filter fun v => a == v).length ≤ if a < n then 1 else 0 := by
    intro a n
    induction n with
    | zero => simp
    | succ n ih =>
      rw [List.range_succ, List.filter_append, List.length_append]
      by_cases h : a = n
      · subst h
        rw [if_neg (Nat.lt_irrefl _)] at ih
        rw [if_pos (by omega)]
        simp at ih ⊢
        omega
      · have : ((List.filter (fun v => a == v) [n]).length) = 0 := by simp [h]
        rw [this]
        split <;> split at ih <;> omega
  have h2 : ∀ l : List Nat, (l.filter fun v => hits e v).length ≤ (l.filter fun v => e.1 == v).length + (l.filter fun v => e.2 == v).length := by
    intro l
    induction l with
    | nil => simp
    | cons x l ih =>
      simp only [List.filter_cons, hits]
      unfold hits at ih
      cases h1 : e.1 == x <;> cases h2 : e.2 == x <;> simp <;> omega
  have a := h1 e.1 n
  have b := h1 e.2 n
  have c := h2 (List.range n)
  split at a <;> split at b <;> omega
theorem offK_le (E : Es) (k n : Nat) : offK E k n ≤ 2 * k := by
  induction k with
  | zero =>
    induction n with
    | zero => exact Nat.le_refl _
    | succ n ih => show offK E 0 n + cnt E n 0 ≤ 0; rw [cnt_zero]; omega
  | succ k ih =>
    rw [offK_succ]
    have := hit_two (edge E k) n
    omega
theorem off_eq (E : Es) (n : Nat) : off E n = offK E E.length n := by
  induction n with
  | zero => rfl
  | succ n ih => show off E n + _ = offK E _ n + _; rw [ih]
theorem off_le (E : Es) (n : Nat) : off E n ≤ 2 * E.length := by rw [off_eq]; exact offK_le E _ n
/-- two vertices' places are apart -/
theorem off_apart (E : Es) {u v s t : Nat} (hs : s < cnt E u E.length) (ht : t < cnt E v E.length) (h : off E u + s = off E v + t) : u = v ∧ s = t := by
  rcases Nat.lt_trichotomy u v with h1 | h1 | h1
  · have := off_sep E h1; omega
  · subst h1; exact ⟨rfl, by omega⟩
  · have := off_sep E h1; omega
end Go.Proofs.Ytoiafopndlnknaa
