/-
  Plain laws: the k-core is the greatest set each of whose vertices has k edges within it.
-/
import Derived.Test.YtoiafopndlnknaaL9
set_option linter.unusedVariables false
set_option linter.unusedSimpArgs false
namespace Go.Proofs.Ytoiafopndlnknaa
open Go.RowKit Go.Shelf

theorem dgK_sub {E : Es} {S T : Nat → Bool} {v : Nat} (h : ∀ i, i < E.length → ∀ u, (u = (edge E i).1 ∨ u = (edge E i).2) → S u = true → T u = true) : ∀ k, k ≤ E.length → dgK E S v k ≤ dgK E T v k
  | 0, _ => Nat.le_refl _
  | k + 1, hk => by
    have ih := dgK_sub (v := v) h k (by omega)
    show dgK E S v k + _ ≤ dgK E T v k + _
    have key : touch (edge E k) S v = true → touch (edge E k) T v = true := by
      unfold touch
      simp only [Bool.or_eq_true, Bool.and_eq_true, beq_iff_eq]
      rintro (⟨a, b⟩ | ⟨a, b⟩)
      · exact .inl ⟨a, h k (by omega) _ (.inr rfl) b⟩
      · exact .inr ⟨a, h k (by omega) _ (.inl rfl) b⟩
    by_cases hs : touch (edge E k) S v = true
    · rw [if_pos hs, if_pos (key hs)]; omega
    · rw [if_neg hs]; omega
theorem dg_sub {E : Es} {n : Nat} (hF : Fine n E) {S T : Nat → Bool} (h : ∀ u, u < n → S u = true → T u = true) (v : Nat) : dg E S v ≤ dg E T v :=
  dgK_sub (fun i hi u hu hs => by
    obtain ⟨a, b, _⟩ := fine_edge hF hi
    refine h u ?_ hs
    rcases hu with e | e
    · rw [e]; exact a
    · rw [e]; exact b) _ (Nat.le_refl _)
theorem dg_congr {E : Es} {n : Nat} (hF : Fine n E) {S T : Nat → Bool} (h : ∀ u, u < n → S u = T u) (v : Nat) : dg E S v = dg E T v :=
  Nat.le_antisymm (dg_sub hF (fun u hu hs => by rw [← h u hu]; exact hs) v) (dg_sub hF (fun u hu hs => by rw [h u hu]; exact hs) v)
/-- the greatest degree up to a place of the order -/
def topN (E : Es) (n i : Nat) : Nat := (numS ((peel E n).take i)).1
theorem top_mono (E : Es) (n : Nat) {i : Nat} : ∀ {j : Nat}, i ≤ j → j ≤ n → topN E n i ≤ topN E n j
  | 0, h, _ => by have : i = 0 := by omega
                  subst this; exact Nat.le_refl _
  | j + 1, h, hj => by
    by_cases e : i = j + 1
    · subst e; exact Nat.le_refl _
    · obtain ⟨v, d, _, _, _, hm, _, _⟩ := step_facts E n (i := j) (by omega)
      have := top_mono E n (i := i) (j := j) (by omega) (by omega)
      unfold topN at *
      rw [hm]
      omega
/-- the core number of the vertex at a place of the order -/
theorem num_at (E : Es) (n : Nat) {i : Nat} (hi : i < n) : num E n ((ord E n).getD i 0) = topN E n (i + 1) := by
  obtain ⟨v, d, hp, hL, ho, hm, h2, hg⟩ := step_facts E n hi
  rw [ho]
  have hlen : (peel E n).length = n := (peeled E n n (Nat.le_refl _)).len
  have key : ∀ j, i < j → j ≤ n → (numS ((peel E n).take j)).2 v = topN E n (i + 1) := by
    intro j
    induction j with
    | zero => intro h; omega
    | succ j ih =>
      intro h1 h3
      obtain ⟨v', d', hp', hL', ho', hm', h2', hg'⟩ := step_facts E n (i := j) (by omega)
      rw [numS_take (peel E n) (by omega), hg']
      unfold accN
      simp only []
      by_cases e : i = j
      · subst e
        rw [hg] at hg'
        cases hg'
        rw [if_pos rfl]
        unfold topN
        rw [hm]
      · rw [if_neg, ih (by omega) (by omega)]
        intro e2
        have hl : (peelN E n j).1 v = false := by
          refine ((peeled E n j (by omega)).left v).2 ?_
          rw [peel_take E n j (by omega)]
          refine List.mem_map.2 ⟨(v, d), ?_, rfl⟩
          have : ((peel E n).take j).getD i (0, 0) = (v, d) := by
            rw [List.getD_eq_getElem?_getD, List.getElem?_take, if_pos (by omega), ← List.getD_eq_getElem?_getD, hg]
          rw [← this, List.getD_eq_getElem?_getD, List.getElem?_eq_getElem (by rw [List.length_take]; omega)]
          exact List.getElem_mem _
        have := hp'.2.1
        rw [← e2, hl] at this
        cases this
  have := key n (by omega) (Nat.le_refl _)
  unfold num
  rw [List.take_of_length_le (by omega)] at this
  exact this
/-- each vertex has a place -/
theorem place_of (E : Es) (n : Nat) {u : Nat} (hu : u < n) : ∃ i, i < n ∧ (ord E n).getD i 0 = u := by
  obtain ⟨d, hd⟩ := peel_all E n hu
  have : u ∈ ord E n := List.mem_map.2 ⟨(u, d), hd, rfl⟩
  obtain ⟨i, hi, e⟩ := List.mem_iff_getElem.1 this
  refine ⟨i, by rw [← ord_len E n]; exact hi, ?_⟩
  rw [List.getD_eq_getElem?_getD, List.getElem?_eq_getElem hi]
  exact e
/-- who is left at a place -/
theorem left_iff (E : Es) (n : Nat) {i j : Nat} (hi : i < n) (hj : j ≤ n) : (peelN E n j).1 ((ord E n).getD i 0) = true ↔ j ≤ i := by
  have hlen := ord_len E n
  have hnd : (ord E n).Nodup := (peeled E n n (Nat.le_refl _)).nd
  have hmem : (ord E n).getD i 0 ∈ (peelN E n j).2.map (·.1) ↔ i < j := by
    have e : (peelN E n j).2.map (·.1) = (ord E n).take j := by rw [peel_take E n j hj]; unfold ord; rw [List.map_take]
    rw [e]
    have hgi : (ord E n).getD i 0 = (ord E n)[i]'(by omega) := by rw [List.getD_eq_getElem?_getD, List.getElem?_eq_getElem (by omega)]; rfl
    constructor
    · intro h
      obtain ⟨k, hk, ek⟩ := List.mem_iff_getElem.1 h
      rw [List.length_take] at hk
      rw [List.getElem_take, hgi] at ek
      have := (List.getElem_inj hnd).1 ek
      omega
    · intro h
      rw [List.mem_iff_getElem]
      exact ⟨i, by rw [List.length_take]; omega, by rw [List.getElem_take, hgi]⟩
  have h := (peeled E n j hj).left ((ord E n).getD i 0)
  rw [hmem] at h
  cases hl : (peelN E n j).1 ((ord E n).getD i 0)
  · rw [hl] at h; have := h.1 rfl; constructor
    · intro hh; cases hh
    · intro hh; omega
  · rw [hl] at h
    constructor
    · intro _
      rcases Nat.lt_or_ge i j with h1 | h1
      · have := h.2 h1; cases this
      · exact h1
    · intro _; rfl
/-- the vertices with a core number of at least k -/
def coreS (E : Es) (n k : Nat) : Nat → Bool := fun u => decide (k ≤ num E n u)
/-- THE CORE HOLDS: each of its vertices has at least k edges within it -/
theorem core_holds {E : Es} {n : Nat} (hF : Fine n E) {k u : Nat} (hu : u < n) (hk : k ≤ num E n u) : k ≤ dg E (coreS E n k) u := by
  rcases Nat.eq_zero_or_pos k with h0 | h0
  · omega
  -- the first place from which on the core begins
  obtain ⟨iu, hiu, eu⟩ := place_of E n hu
  have hex : ∃ i, i < n ∧ k ≤ topN E n (i + 1) := ⟨iu, hiu, by rw [← num_at E n hiu, eu]; exact hk⟩
  obtain ⟨i0, ⟨h1, h2⟩, hmin⟩ : ∃ i, (i < n ∧ k ≤ topN E n (i + 1)) ∧ ∀ j, j < i → ¬ (j < n ∧ k ≤ topN E n (j + 1)) := by
    have key : ∀ b, (∃ i, i < b ∧ i < n ∧ k ≤ topN E n (i + 1)) → ∃ i, (i < n ∧ k ≤ topN E n (i + 1)) ∧ ∀ j, j < i → ¬ (j < n ∧ k ≤ topN E n (j + 1)) := by
      intro b
      induction b with
      | zero => rintro ⟨i, h, _⟩; omega
      | succ b ih =>
        rintro ⟨i, a1, a2, a3⟩
        by_cases h : ∃ i, i < b ∧ i < n ∧ k ≤ topN E n (i + 1)
        · exact ih h
        · exact ⟨i, ⟨a2, a3⟩, fun j hj hh => h ⟨j, by omega, hh.1, hh.2⟩⟩
    obtain ⟨i, a, b⟩ := hex
    exact key n ⟨i, a, a, b⟩
  obtain ⟨v, d, hp, hL, ho, hm, _, _⟩ := step_facts E n h1
  have hd : k ≤ d := by
    unfold topN at h2
    rw [hm] at h2
    rcases Nat.eq_zero_or_pos i0 with e | e
    · subst e
      have : (numS ((peel E n).take 0)).1 = 0 := rfl
      omega
    · have := hmin (i0 - 1) (by omega)
      have h3 : ¬ k ≤ topN E n i0 := fun h => this ⟨by omega, by rw [Nat.sub_add_cancel e]; exact h⟩
      unfold topN at h3
      omega
  have hsame : ∀ x, x < n → coreS E n k x = (peelN E n i0).1 x := by
    intro x hx
    obtain ⟨ix, hix, ex⟩ := place_of E n hx
    have e1 : coreS E n k x = decide (k ≤ topN E n (ix + 1)) := by unfold coreS; rw [← ex, num_at E n hix]
    rw [e1]
    have e2 := left_iff E n hix (j := i0) (by omega)
    rw [ex] at e2
    by_cases hh : i0 ≤ ix
    · rw [e2.2 hh]
      exact decide_eq_true (Nat.le_trans h2 (top_mono E n (by omega) (by omega)))
    · have : (peelN E n i0).1 x = false := by
        cases hl : (peelN E n i0).1 x
        · rfl
        · exact absurd (e2.1 hl) hh
      rw [this]
      exact decide_eq_false (fun h => hmin ix (by omega) ⟨hix, h⟩)
  rw [dg_congr hF hsame]
  have hul : (peelN E n i0).1 u = true := by rw [← hsame u hu]; exact decide_eq_true hk
  rcases hp.2.2.2 u hu hul with h | ⟨h, _⟩ <;> omega
/-- THE CORE IS THE GREATEST: a set whose vertices each have at least c edges within it is part of the c-core -/
theorem core_greatest {E : Es} {n : Nat} (hF : Fine n E) {c : Nat} {S : Nat → Bool} (hS : ∀ u, u < n → S u = true → c ≤ dg E S u) {u : Nat} (hu : u < n) (hs : S u = true) : c ≤ num E n u := by
  -- the first of the set in the order
  obtain ⟨iu, hiu, eu⟩ := place_of E n hu
  obtain ⟨i0, ⟨h1, h2⟩, h3, hmin⟩ : ∃ i, (i < n ∧ S ((ord E n).getD i 0) = true) ∧ i ≤ iu ∧ ∀ j, j < i → S ((ord E n).getD j 0) = false := by
    have key : ∀ b, (∃ i, i < b ∧ i ≤ iu ∧ i < n ∧ S ((ord E n).getD i 0) = true) → ∃ i, (i < n ∧ S ((ord E n).getD i 0) = true) ∧ i ≤ iu ∧ ∀ j, j < i → S ((ord E n).getD j 0) = false := by
      intro b
      induction b with
      | zero => rintro ⟨i, h, _⟩; omega
      | succ b ih =>
        rintro ⟨i, a1, a2, a3, a4⟩
        by_cases h : ∃ i, i < b ∧ i ≤ iu ∧ i < n ∧ S ((ord E n).getD i 0) = true
        · exact ih h
        · refine ⟨i, ⟨a3, a4⟩, a2, fun j hj => ?_⟩
          cases hsj : S ((ord E n).getD j 0)
          · rfl
          · exact absurd ⟨j, by omega, by omega, by omega, hsj⟩ h
    exact key n ⟨iu, hiu, Nat.le_refl _, hiu, by rw [eu]; exact hs⟩
  obtain ⟨v, d, hp, hL, ho, hm, _, _⟩ := step_facts E n h1
  rw [ho] at h2
  have hsub : ∀ x, x < n → S x = true → (peelN E n i0).1 x = true := by
    intro x hx hsx
    obtain ⟨ix, hix, ex⟩ := place_of E n hx
    have := (left_iff E n hix (j := i0) (by omega)).2 (by
      rcases Nat.lt_or_ge ix i0 with h | h
      · have := hmin ix h
        rw [ex, hsx] at this
        cases this
      · exact h)
    rw [ex] at this
    exact this
  have hd : c ≤ d := by
    have a := hS v hp.1 h2
    have b := dg_sub hF hsub v
    have := hp.2.2.1
    omega
  rw [← eu, num_at E n hiu]
  have := top_mono E n (i := i0 + 1) (j := iu + 1) (by omega) (by omega)
  unfold topN at this ⊢
  rw [hm] at this
  omega
end Go.Proofs.Ytoiafopndlnknaa
