/-
  Plain laws: the densest core, of edges several times, of names turned round.
-/
import Derived.Test.YtoiafopndlnknaaQ4
set_option linter.unusedVariables false
set_option linter.unusedSimpArgs false
namespace Go.Proofs.Ytoiafopndlnknaa
open Go.RowKit Go.Shelf

/-- x over t, rounded up -/
def up (t x : Nat) : Nat := (x + (t - 1)) / t
theorem up_le {t x f : Nat} (ht : 1 ≤ t) : up t x ≤ f ↔ x ≤ t * f := by
  unfold up
  rw [Nat.div_le_iff_le_mul_add_pred (by omega)]
  omega
theorem up_mul {t k : Nat} (ht : 1 ≤ t) : up t (t * k) = k := by
  refine Nat.le_antisymm ((up_le ht).2 (Nat.le_refl _)) ?_
  have := (up_le (t := t) (x := t * k) (f := up t (t * k)) ht).1 (Nat.le_refl _)
  exact Nat.le_of_mul_le_mul_left this (by omega)
theorem vge_up {t : Nat} (ht : 1 ≤ t) (f : Nat → Nat) (n x : Nat) : vge (fun u => t * f u) n x = vge f n (up t x) := by
  unfold vge
  refine List.countP_congr fun v _ => ?_
  simp only [decide_eq_true_eq]
  exact (up_le ht).symm
theorem ege_up {t : Nat} (ht : 1 ≤ t) (E : Es) (f : Nat → Nat) (x : Nat) : ege (reps E t) (fun u => t * f u) x = t * ege E f (up t x) := by
  unfold ege
  rw [reps_count]
  congr 1
  refine List.countP_congr fun e _ => ?_
  simp only [decide_eq_true_eq, Bool.and_eq_true]
  rw [up_le ht, up_le ht]
theorem dens_times {t : Nat} (ht : 1 ≤ t) {E : Es} {n k : Nat} (h : IsDens (vge (num E n) n) (ege E (num E n)) (most E n) k) :
    IsDens (vge (num (reps E t) n) n) (ege (reps E t) (num (reps E t) n)) (most (reps E t) n) (t * k) ∧ ege (reps E t) (num (reps E t) n) (t * k) = t * ege E (num E n) k ∧ vge (num (reps E t) n) n (t * k) = vge (num E n) n k := by
  have hd : ∀ L u, dg (reps E t) L u = t * dg E L u := fun L u => dg_reps E L u t
  rw [num_times ht hd n, most_times ht hd n]
  have e1 := ege_up ht E (num E n) (t * k)
  have e2 := vge_up ht (num E n) n (t * k)
  rw [up_mul ht] at e1 e2
  refine ⟨⟨Nat.mul_le_mul_left t h.1, fun j hj => ?_⟩, e1, e2⟩
  rw [e1, e2, ege_up ht, vge_up ht]
  obtain ⟨a, b⟩ := h.2 (up t j) ((up_le ht).2 hj)
  constructor
  · rw [Nat.mul_assoc, Nat.mul_assoc]
    exact Nat.mul_le_mul_left t a
  · intro hk
    rw [Nat.mul_assoc, Nat.mul_assoc]
    refine Nat.mul_lt_mul_of_pos_left (b ?_) (by omega)
    rcases Nat.lt_or_ge k (up t j) with g | g
    · exact g
    · have := (up_le ht).1 g
      omega
/-- the two ratios -/
theorem ratio_times {t a b N D N' D' : Nat} (hb : 1 ≤ b) (h : N * b = a * D) (h' : N' * b = t * a * D') : N' * D = t * N * D' := by
  refine Nat.eq_of_mul_eq_mul_left (show 0 < b by omega) ?_
  calc b * (N' * D) = N' * b * D := by rw [← Nat.mul_assoc, Nat.mul_comm b]
    _ = t * (a * D) * D' := by rw [h', Nat.mul_assoc t a D', Nat.mul_assoc t, Nat.mul_assoc t, Nat.mul_right_comm a D' D]
    _ = b * (t * N * D') := by rw [← h, ← Nat.mul_assoc t, Nat.mul_comm b, Nat.mul_right_comm (t * N) b D']
/-- the counts, of names turned round -/
theorem count_turn (n : Nat) (p : Nat → Bool) : (List.range n).countP (fun v => p (n - 1 - v)) = (List.range n).countP p := by
  have h : (List.range n).map (fun v => n - 1 - v) = (List.range n).reverse := by
    apply List.ext_getElem
    · simp
    · intro i h1 h2
      simp at h1
      simp [List.getElem_reverse]
  have := List.countP_map (p := p) (f := fun v => n - 1 - v) (l := List.range n)
  rw [h, List.countP_reverse] at this
  exact this.symm
theorem num_turn {E : Es} {n : Nat} (hF : Fine n E) {v : Nat} (hv : v < n) : num (turnE n E) n v = num E n (n - 1 - v) := by
  have := turn_law hF (fine_turn hF) (v := n - 1 - v) (by omega)
  rwa [show n - 1 - (n - 1 - v) = v by omega] at this
theorem count_num {E : Es} {n : Nat} (hF : Fine n E) (p : Nat → Bool) : (List.range n).countP (fun v => p (num (turnE n E) n v)) = (List.range n).countP (fun v => p (num E n v)) := by
  rw [← count_turn n (fun v => p (num E n v))]
  refine List.countP_congr fun v hv => ?_
  rw [num_turn hF (by simpa using hv)]
theorem cntN_turn {E : Es} {n : Nat} (hF : Fine n E) (x : Nat) : cntN (num (turnE n E) n) n x = cntN (num E n) n x := by
  rw [cntN_count, cntN_count]
  exact count_num hF (fun y => y == x)
theorem vge_turn {E : Es} {n : Nat} (hF : Fine n E) (x : Nat) : vge (num (turnE n E) n) n x = vge (num E n) n x := count_num hF (fun y => decide (x ≤ y))
theorem ege_turn {E : Es} {n : Nat} (hF : Fine n E) (x : Nat) : ege (turnE n E) (num (turnE n E) n) x = ege E (num E n) x := by
  unfold ege turnE
  rw [List.countP_map, List.countP_reverse]
  refine List.countP_congr fun e he => ?_
  obtain ⟨h1, h2, _⟩ := hF.2.2 e he
  have e1 := turn_law hF (fine_turn hF) h1
  have e2 := turn_law hF (fine_turn hF) h2
  unfold turnE at e1 e2
  show (decide (x ≤ num _ n (n - 1 - e.1)) && decide (x ≤ num _ n (n - 1 - e.2))) = true ↔ _
  rw [e1, e2]
theorem most_turn {E : Es} {n : Nat} (hF : Fine n E) : most (turnE n E) n = most E n := by
  refine (most_is (turnE n E) n).uniq ⟨fun v hv => ?_, fun hn => ?_, fun h0 => (most_is E n).2.2 h0⟩
  · rw [num_turn hF hv]
    exact (most_is E n).1 _ (by omega)
  · obtain ⟨v, hv, e⟩ := (most_is E n).2.1 hn
    exact ⟨n - 1 - v, by omega, by rw [turn_law hF (fine_turn hF) hv]; exact e⟩
theorem dens_turn {E : Es} {n k : Nat} (hF : Fine n E) (h : IsDens (vge (num E n) n) (ege E (num E n)) (most E n) k) : IsDens (vge (num (turnE n E) n) n) (ege (turnE n E) (num (turnE n E) n)) (most (turnE n E) n) k := by
  rw [most_turn hF]
  exact h.congr (fun i _ => vge_turn hF i) (fun i _ => ege_turn hF i)
theorem shells_turn {E : Es} {n : Nat} (hF : Fine n E) : shellsL (num (turnE n E) n) n (most E n) = shellsL (num E n) n (most E n) := by
  unfold shellsL
  split
  · rfl
  · exact List.map_congr_left fun x _ => cntN_turn hF x
end Go.Proofs.Ytoiafopndlnknaa
