/-
  Plain laws: how many vertices and edges a core has; lowest terms.
-/
import Derived.Test.YtoiafopndlnknaaK4
set_option linter.unusedVariables false
set_option linter.unusedSimpArgs false
namespace Go.Proofs.Ytoiafopndlnknaa
open Go.RowKit Go.Shelf

/-- how many of the first n have at least k -/
def geN (f : Nat → Nat) (n k : Nat) : Nat := ((List.range n).filter fun v => decide (k ≤ f v)).length
theorem geN_succ (f : Nat → Nat) (n k : Nat) : geN f (n + 1) k = geN f n k + if k ≤ f n then 1 else 0 := by
  unfold geN
  rw [range_snoc_filter, List.length_append]
  by_cases h : k ≤ f n
  · rw [if_pos (decide_eq_true h), if_pos h]; rfl
  · rw [if_neg (by rw [decide_eq_false h]; simp), if_neg h]; rfl
theorem cntN_succ' (f : Nat → Nat) (n k : Nat) : cntN f (n + 1) k = cntN f n k + if f n = k then 1 else 0 := by
  unfold cntN
  rw [range_snoc_filter, List.length_append]
  by_cases h : f n = k
  · rw [if_pos (by simp [h]), if_pos h]; rfl
  · rw [if_neg (by simp [h]), if_neg h]; rfl
theorem geN_step (f : Nat → Nat) (k : Nat) : ∀ n, geN f n k = cntN f n k + geN f n (k + 1)
  | 0 => rfl
  | n + 1 => by
    rw [geN_succ, geN_succ, cntN_succ', geN_step f k n]
    by_cases h : f n = k
    · rw [if_pos (by omega), if_pos h, if_neg (by omega)]; omega
    · rw [if_neg h]
      by_cases h2 : k ≤ f n
      · rw [if_pos h2, if_pos (by omega)]; omega
      · rw [if_neg h2, if_neg (by omega)]; omega
theorem geN_top {f : Nat → Nat} {G : Nat} : ∀ {n : Nat}, (∀ i, i < n → f i ≤ G) → geN f n (G + 1) = 0
  | 0, _ => rfl
  | n + 1, h => by rw [geN_succ, geN_top (fun i hi => h i (by omega)), if_neg (by have := h n (by omega); omega)]
theorem geN_suf {f : Nat → Nat} {n G : Nat} (h : ∀ i, i < n → f i ≤ G) : ∀ k, k ≤ G → sufF (cntN f n) G k = geN f n k := by
  have key : ∀ d k, k + d = G → sufF (cntN f n) G k = geN f n k := by
    intro d
    induction d with
    | zero =>
      intro k hk
      obtain rfl : k = G := by omega
      rw [sufF_top, geN_step, geN_top h]
      rfl
    | succ d ih =>
      intro k hk
      rw [sufF_step _ (by omega), ih (k + 1) (by omega), geN_step f k]
  exact fun k hk => key (G - k) k (by omega)
theorem geN_le (f : Nat → Nat) (n k : Nat) : geN f n k ≤ n := by
  unfold geN
  have := List.length_filter_le (fun v => decide (k ≤ f v)) (List.range n)
  rwa [List.length_range] at this
theorem coreL_len (E : Es) (n k : Nat) : (coreL E n (k : Int)).length = geN (num E n) n k := by
  unfold coreL geN
  congr 2
  funext v
  by_cases h : k ≤ num E n v
  · rw [decide_eq_true h, decide_eq_true (by omega)]
  · rw [decide_eq_false h, decide_eq_false (by omega)]
theorem coreL_mem {E : Es} {n : Nat} {k : Int} {u : Nat} : u ∈ coreL E n k ↔ u < n ∧ k ≤ (num E n u : Nat) := by
  unfold coreL
  rw [List.mem_filter]
  simp
/-- the edges within a list of vertices, among the first k -/
def insN (E : Es) (l : List Nat) : Nat → Nat
  | 0 => 0
  | k + 1 => insN E l k + if (edge E k).1 ∈ l ∧ (edge E k).2 ∈ l then 1 else 0
theorem insN_le (E : Es) (l : List Nat) : ∀ k, insN E l k ≤ k
  | 0 => Nat.le_refl _
  | k + 1 => by have := insN_le E l k; unfold insN; split <;> omega
theorem insN_core {E : Es} {n : Nat} (hF : Fine n E) (x : Nat) : ∀ k, k ≤ E.length → insN E (coreL E n (x : Int)) k = geN (eMin E (num E n)) k x
  | 0, _ => rfl
  | k + 1, hk => by
    obtain ⟨h1, h2, _⟩ := fine_edge hF (i := k) (by omega)
    rw [geN_succ, ← insN_core hF x k (by omega)]
    show insN E (coreL E n (x : Int)) k + (if (edge E k).1 ∈ coreL E n (x : Int) ∧ (edge E k).2 ∈ coreL E n (x : Int) then 1 else 0) = insN E (coreL E n (x : Int)) k + (if x ≤ min (num E n (edge E k).1) (num E n (edge E k).2) then 1 else 0)
    congr 1
    by_cases h : x ≤ min (num E n (edge E k).1) (num E n (edge E k).2)
    · rw [if_pos h, if_pos ⟨coreL_mem.2 ⟨h1, by omega⟩, coreL_mem.2 ⟨h2, by omega⟩⟩]
    · rw [if_neg h, if_neg (fun ⟨a, b⟩ => h (by have := (coreL_mem.1 a).2; have := (coreL_mem.1 b).2; omega))]
/-- the document's search for the densest core -/
def densR (V W : Nat → Nat) : Nat → Nat × Nat × Nat
  | 0 => (0, 0, 1)
  | i + 1 => if (densR V W i).2.1 * V i ≤ W i * (densR V W i).2.2 then (i, W i, V i) else densR V W i
theorem dens_densR (V W : Nat → Nat) : ∀ i, dens V W (i + 1) = ((densR V W (i + 1)).1, ((densR V W (i + 1)).2.1 : Int), ((densR V W (i + 1)).2.2 : Int))
  | 0 => by
    have a : dens V W (0 + 1) = (0, (W 0 : Int), (V 0 : Int)) := if_pos (by show (-1 : Int) * _ ≤ _ * 1; omega)
    have b : densR V W (0 + 1) = (0, W 0, V 0) := if_pos (by show 0 * _ ≤ _ * 1; omega)
    rw [a, b]
  | i + 1 => by
    have ih := dens_densR V W i
    have ea : dens V W (i + 1 + 1) = if (dens V W (i + 1)).2.1 * (V (i + 1) : Nat) ≤ (W (i + 1) : Nat) * (dens V W (i + 1)).2.2 then (i + 1, (W (i + 1) : Int), (V (i + 1) : Int)) else dens V W (i + 1) := rfl
    have eb : densR V W (i + 1 + 1) = if (densR V W (i + 1)).2.1 * V (i + 1) ≤ W (i + 1) * (densR V W (i + 1)).2.2 then (i + 1, W (i + 1), V (i + 1)) else densR V W (i + 1) := rfl
    rw [ea, eb, ih]
    simp only []
    by_cases h : (densR V W (i + 1)).2.1 * V (i + 1) ≤ W (i + 1) * (densR V W (i + 1)).2.2
    · rw [if_pos h, if_pos (by rw [← Int.natCast_mul, ← Int.natCast_mul]; exact Int.ofNat_le.2 h)]
    · rw [if_neg h, if_neg (fun g => h (by rw [← Int.natCast_mul, ← Int.natCast_mul] at g; exact Int.ofNat_le.1 g))]
theorem densR_bound {V W : Nat → Nat} {M N : Nat} : ∀ {i : Nat}, (∀ j, j < i → 1 ≤ V j ∧ V j ≤ M ∧ W j ≤ N) → 1 ≤ M → (densR V W i).1 ≤ i ∧ (densR V W i).2.1 ≤ N ∧ 1 ≤ (densR V W i).2.2 ∧ (densR V W i).2.2 ≤ M
  | 0, _, h => ⟨Nat.le_refl _, Nat.zero_le _, Nat.le_refl _, h⟩
  | i + 1, h, hM => by
    have ih := densR_bound (i := i) (fun j hj => h j (by omega)) hM
    obtain ⟨h1, h2, h3⟩ := h i (by omega)
    unfold densR
    split
    · exact ⟨by show i ≤ i + 1; omega, h3, h1, h2⟩
    · exact ⟨by omega, ih.2⟩
theorem densR_ext {V W V' W' : Nat → Nat} : ∀ {i : Nat}, (∀ j, j < i → V j = V' j ∧ W j = W' j) → densR V W i = densR V' W' i
  | 0, _ => rfl
  | i + 1, h => by
    unfold densR
    rw [densR_ext (i := i) (fun j hj => h j (by omega)), (h i (by omega)).1, (h i (by omega)).2]
/-- lowest terms of two numbers -/
theorem red_nat {n d : Nat} (hd : 1 ≤ d) (hn : n ≤ 1000000000) (hd2 : d ≤ 1000000000) : redN (n : Int) (d : Int) = ((n / Nat.gcd n d : Nat) : Int) ∧ redD (n : Int) (d : Int) = ((d / Nat.gcd n d : Nat) : Int) := by
  have hneg : oneNeg (n : Int) (d : Int) = false := by
    unfold oneNeg
    rw [decide_eq_false (show ¬ ((n : Int) < 0) by omega), decide_eq_false (show ¬ ((d : Int) < 0) by omega)]
    rfl
  have e1 : redT (n : Int) (d : Int) = ((n / Nat.gcd n d : Nat) : Int) := by
    unfold redT
    rw [hneg, sgi_false]
    simp
  have e2 : redB (n : Int) (d : Int) = ((d / Nat.gcd n d : Nat) : Int) := by
    unfold redB
    simp
  have l1 : n / Nat.gcd n d ≤ n := Nat.div_le_self _ _
  have l2 : d / Nat.gcd n d ≤ d := Nat.div_le_self _ _
  have hok : RedOk (n : Int) (d : Int) := by
    unfold RedOk
    rw [e1, e2]
    generalize n / Nat.gcd n d = a at *
    generalize d / Nat.gcd n d = b at *
    exact ⟨⟨by omega, by omega⟩, ⟨by omega, by omega⟩⟩
  have hd0 : (d : Int) ≠ 0 := by omega
  refine ⟨?_, ?_⟩
  · unfold redN; rw [if_pos ⟨hd0, hok⟩, e1]
  · unfold redD; rw [if_pos ⟨hd0, hok⟩, e2]
/-- what the search for lowest terms holds: a and b are n and d without a common factor g, and no number below p divides both -/
structure Low (n d p a b : Nat) : Prop where
  fac : ∃ g, n = g * a ∧ d = g * b
  pos : 1 ≤ b
  dp : 1 ≤ d
  none : ∀ q, 2 ≤ q → q < p → ¬ (q ∣ a ∧ q ∣ b)
theorem Low.start {n d : Nat} (hd : 1 ≤ d) : Low n d 2 n d := ⟨⟨1, by omega, by omega⟩, hd, hd, fun q h1 h2 => by omega⟩
theorem Low.cut {n d p a b : Nat} (h : Low n d p a b) (hp : 2 ≤ p) (ha : p ∣ a) (hb : p ∣ b) : Low n d p (a / p) (b / p) := by
  obtain ⟨g, h1, h2⟩ := h.fac
  obtain ⟨x, rfl⟩ := ha
  obtain ⟨y, rfl⟩ := hb
  have ex : p * x / p = x := Nat.mul_div_cancel_left _ (by omega)
  have ey : p * y / p = y := Nat.mul_div_cancel_left _ (by omega)
  rw [ex, ey]
  refine ⟨⟨g * p, by rw [h1, Nat.mul_assoc], by rw [h2, Nat.mul_assoc]⟩, ?_, h.dp, fun q q1 q2 hq => h.none q q1 q2 ⟨Nat.dvd_trans hq.1 ⟨p, Nat.mul_comm _ _⟩, Nat.dvd_trans hq.2 ⟨p, Nat.mul_comm _ _⟩⟩⟩
  have := h.pos
  rcases y with _ | y
  · omega
  · omega
theorem Low.next {n d p a b : Nat} (h : Low n d p a b) (hno : ¬ (p ∣ a ∧ p ∣ b)) : Low n d (p + 1) a b :=
  ⟨h.fac, h.pos, h.dp, fun q h1 h2 hq => by
    by_cases e : q = p
    · subst e; exact hno hq
    · exact h.none q h1 (by omega) hq⟩
theorem Low.done {n d p a b : Nat} (h : Low n d p a b) (hp : b < p) : a = n / Nat.gcd n d ∧ b = d / Nat.gcd n d := by
  obtain ⟨g, h1, h2⟩ := h.fac
  have hb := h.pos
  have hc : Nat.gcd a b = 1 := by
    rcases Nat.lt_or_ge (Nat.gcd a b) 2 with h3 | h3
    · have : 0 < Nat.gcd a b := Nat.gcd_pos_of_pos_right _ hb
      omega
    · exact absurd ⟨Nat.gcd_dvd_left a b, Nat.gcd_dvd_right a b⟩ (h.none _ h3 (Nat.lt_of_le_of_lt (Nat.gcd_le_right _ hb) hp))
  have hg : 0 < g := by
    rcases Nat.eq_zero_or_pos g with h0 | h0
    · subst h0
      have := h.dp
      omega
    · exact h0
  have e : Nat.gcd n d = g := by rw [h1, h2, Nat.gcd_mul_left, hc, Nat.mul_one]
  rw [e, h1, h2, Nat.mul_div_cancel_left _ hg, Nat.mul_div_cancel_left _ hg]
  exact ⟨rfl, rfl⟩
end Go.Proofs.Ytoiafopndlnknaa
