/-
  Plain mathematics of partitions: pairs.
-/
import Derived.Test.YtipniooflaiikaaMath1
set_option linter.unusedVariables false
set_option linter.unusedSimpArgs false
namespace Go.Proofs.Ytipniooflaiikaa

/-- how many of the first n numbers have p -/
def cn (p : Nat → Bool) : Nat → Nat
  | 0 => 0
  | n + 1 => cn p n + if p n then 1 else 0
/-- sum -/
def sm (f : Nat → Nat) : Nat → Nat
  | 0 => 0
  | n + 1 => sm f n + f n
/-- unordered pairs of the first n that have e -/
def pr (e : Nat → Nat → Bool) (n : Nat) : Nat := sm (fun i => cn (fun j => e i j) i) n
theorem cn_le (p : Nat → Bool) : ∀ n, cn p n ≤ n
  | 0 => Nat.le_refl _
  | n + 1 => by have := cn_le p n; simp only [cn]; split <;> omega
theorem cn_congr {p q : Nat → Bool} : ∀ {n : Nat}, (∀ j, j < n → p j = q j) → cn p n = cn q n
  | 0, _ => rfl
  | n + 1, h => by simp only [cn]; rw [cn_congr (fun j hj => h j (by omega)), h n (by omega)]
theorem sm_congr {f g : Nat → Nat} : ∀ {n : Nat}, (∀ j, j < n → f j = g j) → sm f n = sm g n
  | 0, _ => rfl
  | n + 1, h => by simp only [sm]; rw [sm_congr (fun j hj => h j (by omega)), h n (by omega)]
theorem sm_add (f g : Nat → Nat) : ∀ n, sm (fun i => f i + g i) n = sm f n + sm g n
  | 0 => rfl
  | n + 1 => by simp only [sm]; rw [sm_add f g n]; omega
theorem sm_mono {f g : Nat → Nat} : ∀ {n : Nat}, (∀ j, j < n → f j ≤ g j) → sm f n ≤ sm g n
  | 0, _ => Nat.le_refl _
  | n + 1, h => by simp only [sm]; have := sm_mono (n := n) (fun j hj => h j (by omega)); have := h n (by omega); omega
theorem pr_congr {e f : Nat → Nat → Bool} {n : Nat} (h : ∀ i j, j < i → i < n → e i j = f i j) : pr e n = pr f n :=
  sm_congr fun i hi => cn_congr fun j hj => h i j hj hi
/-- half the product -/
def half (n : Nat) : Nat := n * (n - 1) / 2
theorem half_succ (n : Nat) : half (n + 1) = half n + n := by
  unfold half
  cases n with
  | zero => rfl
  | succ m =>
    rw [show m + 1 + 1 - 1 = m + 1 by omega, show m + 1 - 1 = m by omega]
    have h1 : (m + 1 + 1) * (m + 1) = (m + 1) * m + 2 * (m + 1) := by
      rw [show m + 1 + 1 = m + 2 by omega, Nat.add_mul m 2 (m + 1), Nat.mul_comm m (m + 1)]
    rw [h1]; omega
theorem cn_true : ∀ n, cn (fun _ => true) n = n
  | 0 => rfl
  | n + 1 => by simp only [cn]; rw [cn_true n]; rfl
theorem cn_split (p q : Nat → Bool) : ∀ n, cn p n = cn (fun j => p j && q j) n + cn (fun j => p j && !q j) n
  | 0 => rfl
  | n + 1 => by
    simp only [cn]
    rw [cn_split p q n]
    have h1 : (if p n = true then 1 else 0) = (if (p n && q n) = true then 1 else 0) + (if (p n && !q n) = true then 1 else 0) := by
      by_cases hp : p n = true <;> by_cases hq : q n = true <;> simp [hp, hq]
    omega
theorem pr_split (e f : Nat → Nat → Bool) (n : Nat) : pr e n = pr (fun i j => e i j && f i j) n + pr (fun i j => e i j && !f i j) n := by
  unfold pr
  rw [← sm_add]
  exact sm_congr fun i _ => cn_split _ _ _
theorem pr_all : ∀ n, pr (fun _ _ => true) n = half n
  | 0 => rfl
  | n + 1 => by
    show pr (fun _ _ => true) n + cn (fun _ => true) n = _
    rw [pr_all n, cn_true, half_succ]
theorem half_le {n m : Nat} (h : n ≤ m) : half n ≤ half m := by
  induction m with
  | zero => obtain rfl : n = 0 := by omega
            exact Nat.le_refl _
  | succ m ih =>
    rcases Nat.lt_or_ge n (m + 1) with k | k
    · have := ih (by omega); rw [half_succ]; omega
    · obtain rfl : n = m + 1 := by omega
      exact Nat.le_refl _
theorem pr_le (e : Nat → Nat → Bool) (n : Nat) : pr e n ≤ half n := by
  have := pr_split (fun _ _ => true) e n
  rw [pr_all] at this
  have h2 : pr (fun i j => true && e i j) n = pr e n := pr_congr fun i j _ _ => by simp
  omega
/-- how many of the first m have label k -/
def size (a : Nat → Nat) (m k : Nat) : Nat := cn (fun j => decide (a j = k)) m
/-- same label -/
def sameL (a : Nat → Nat) (i j : Nat) : Bool := decide (a i = a j)
theorem sm_one {f : Nat → Nat} {k v : Nat} : ∀ {n : Nat}, k < n → sm (fun i => f i + if i = k then v else 0) n = sm f n + v
  | 0, h => by omega
  | n + 1, h => by
    simp only [sm]
    rcases Nat.lt_or_ge k n with h1 | h1
    · rw [sm_one h1, if_neg (by omega)]; omega
    · obtain rfl : k = n := by omega
      rw [if_pos rfl, sm_congr (g := f) (fun i hi => by rw [if_neg (by omega)]; rfl)]; omega
theorem sm_zero : ∀ n, sm (fun _ => 0) n = 0
  | 0 => rfl
  | n + 1 => by simp only [sm]; rw [sm_zero n]
/-- pairs by classes -/
theorem pairs_by (a : Nat → Nat) (n : Nat) : ∀ m, (∀ i, i < m → a i < n) → sm (fun k => half (size a m k)) n = pr (sameL a) m
  | 0, _ => by
    show sm (fun k => half (size a 0 k)) n = 0
    exact (sm_congr (g := fun _ => 0) (fun k _ => by show half 0 = 0; rfl)).trans (sm_zero n)
  | m + 1, h => by
    show _ = pr (sameL a) m + cn (fun j => sameL a m j) m
    rw [← pairs_by a n m (fun i hi => h i (by omega))]
    rw [sm_congr (g := fun k => half (size a m k) + if k = a m then size a m (a m) else 0)]
    · rw [sm_one (h m (by omega))]
      congr 1
      unfold size
      exact cn_congr fun j _ => by simp [sameL, eq_comm]
    · intro k hk
      show half (cn (fun j => decide (a j = k)) m + if decide (a m = k) then 1 else 0) = _
      by_cases e : k = a m
      · subst e
        rw [if_pos rfl, if_pos (by simp), half_succ]
        rfl
      · rw [if_neg e, if_neg (by simp; exact fun h => e h.symm)]
        rfl
theorem size_le (a : Nat → Nat) (m k : Nat) : size a m k ≤ m := cn_le _ _
theorem size_succ (a : Nat → Nat) (m k : Nat) : size a (m + 1) k = size a m k + if k = a m then 1 else 0 := by
  show cn _ m + (if decide (a m = k) then 1 else 0) = _
  by_cases e : k = a m
  · rw [if_pos e, if_pos (by simp [e])]; rfl
  · rw [if_neg e, if_neg (by simp; exact fun h => e h.symm)]; rfl

/-- the four numbers of pairs -/
def p0 (a b : Nat → Nat) (n : Nat) : Nat := pr (fun i j => sameL a i j && sameL b i j) n
def p1 (a b : Nat → Nat) (n : Nat) : Nat := pr (fun i j => sameL a i j && !sameL b i j) n
def p2 (a b : Nat → Nat) (n : Nat) : Nat := pr (fun i j => !sameL a i j && sameL b i j) n
def p3 (a b : Nat → Nat) (n : Nat) : Nat := pr (fun i j => !sameL a i j && !sameL b i j) n
theorem in_a (a b : Nat → Nat) (n : Nat) : pr (sameL a) n = p0 a b n + p1 a b n := pr_split _ _ _
theorem in_b (a b : Nat → Nat) (n : Nat) : pr (sameL b) n = p0 a b n + p2 a b n := by
  rw [pr_split (sameL b) (sameL a) n]
  unfold p0 p2
  rw [pr_congr (e := fun i j => sameL b i j && sameL a i j) (f := fun i j => sameL a i j && sameL b i j) (fun i j _ _ => Bool.and_comm _ _), pr_congr (e := fun i j => sameL b i j && !sameL a i j) (f := fun i j => !sameL a i j && sameL b i j) (fun i j _ _ => Bool.and_comm _ _)]
theorem p_all (a b : Nat → Nat) (n : Nat) : p0 a b n + p1 a b n + p2 a b n + p3 a b n = half n := by
  have h1 := pr_split (fun _ _ => true) (sameL a) n
  rw [pr_all] at h1
  have h2 : pr (fun i j => true && sameL a i j) n = pr (sameL a) n := pr_congr fun i j _ _ => by simp
  have h3 : pr (fun i j => true && !sameL a i j) n = pr (fun i j => !sameL a i j) n := pr_congr fun i j _ _ => by simp
  have h4 := pr_split (fun i j => !sameL a i j) (sameL b) n
  have h5 := in_a a b n
  unfold p2 p3
  omega
theorem in_both (a b : Nat → Nat) (n : Nat) : pr (sameL (mt a b)) n = p0 a b n := by
  unfold p0
  refine pr_congr fun i j _ _ => ?_
  have := mt_eq (a := a) (b := b) (i := i) (j := j)
  unfold sameL
  by_cases h1 : a i = a j <;> by_cases h2 : b i = b j <;> simp [h1, h2, this]
theorem half_bound {n : Nat} (h : n ≤ 1000) : half n ≤ 500000 := by
  have := half_le h
  have h2 : half 1000 = 499500 := rfl
  omega
theorem pr_swap (a b : Nat → Nat) (n : Nat) : p0 b a n = p0 a b n ∧ p1 b a n = p2 a b n ∧ p2 b a n = p1 a b n ∧ p3 b a n = p3 a b n :=
  ⟨pr_congr fun i j _ _ => Bool.and_comm _ _, pr_congr fun i j _ _ => Bool.and_comm _ _, pr_congr fun i j _ _ => Bool.and_comm _ _, pr_congr fun i j _ _ => Bool.and_comm _ _⟩
theorem sm_pos {f : Nat → Nat} : ∀ {n : Nat}, sm f n = 0 → ∀ i, i < n → f i = 0
  | 0, _, i, h => by omega
  | n + 1, h, i, hi => by
    simp only [sm] at h
    rcases Nat.lt_or_ge i n with k | k
    · exact sm_pos (n := n) (by omega) i k
    · obtain rfl : i = n := by omega
      omega
theorem cn_pos {p : Nat → Bool} : ∀ {n : Nat}, cn p n = 0 → ∀ j, j < n → p j = false
  | 0, _, i, h => by omega
  | n + 1, h, i, hi => by
    simp only [cn] at h
    rcases Nat.lt_or_ge i n with k | k
    · exact cn_pos (n := n) (by omega) i k
    · obtain rfl : i = n := by omega
      cases hp : p i with
      | false => rfl
      | true => rw [hp] at h; simp at h
theorem pr_zero {e : Nat → Nat → Bool} {n : Nat} (h : pr e n = 0) : ∀ i j, j < i → i < n → e i j = false :=
  fun i j hj hi => cn_pos (sm_pos h i hi) j hj
/-- no pair is in one class of one partition alone just if the partitions are the same -/
theorem rand_same {a b : Nat → Nat} {n : Nat} (ha : Can a n) (hb : Can b n) : p1 a b n = 0 ∧ p2 a b n = 0 ↔ ∀ i, i < n → a i = b i := by
  constructor
  · rintro ⟨h1, h2⟩ i hi
    have k1 := pr_zero h1
    have k2 := pr_zero h2
    obtain ⟨a1, a2⟩ := ha i hi
    obtain ⟨b1, b2⟩ := hb i hi
    have l1 : b (a i) = b i := by
      rcases Nat.lt_or_ge (a i) i with h | h
      · have := k1 i (a i) h hi
        simp [sameL, a2] at this
        exact this.symm
      · rw [show a i = i by omega]
    have l2 : a (b i) = a i := by
      rcases Nat.lt_or_ge (b i) i with h | h
      · have := k2 i (b i) h hi
        simp [sameL, b2] at this
        exact this.symm
      · rw [show b i = i by omega]
    have m1 := (hb (a i) (by omega)).1
    have m2 := (ha (b i) (by omega)).1
    omega
  · intro h
    have hz : ∀ (e : Nat → Nat → Bool), (∀ i j, j < i → i < n → e i j = false) → pr e n = 0 := fun e he => by
      rw [pr_congr (f := fun _ _ => false) he]
      unfold pr
      rw [sm_congr (g := fun _ => 0) (fun i _ => ?_), sm_zero]
      generalize i = m
      induction m with
      | zero => rfl
      | succ m ih => simp only [cn]; rw [ih]; rfl
    exact ⟨hz _ fun i j hj hi => by simp [sameL, h i hi, h j (by omega)], hz _ fun i j hj hi => by simp [sameL, h i hi, h j (by omega)]⟩
end Go.Proofs.Ytipniooflaiikaa
