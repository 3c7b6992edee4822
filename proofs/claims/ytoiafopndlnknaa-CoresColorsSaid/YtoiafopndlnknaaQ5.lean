/-
  Plain laws: the coloring.
-/
import Derived.Test.YtoiafopndlnknaaQ3
set_option linter.unusedVariables false
set_option linter.unusedSimpArgs false
namespace Go.Proofs.Ytoiafopndlnknaa
open Go.RowKit Go.Shelf

theorem colFold_out (E : Es) {u : Nat} : ∀ (l : List Nat) (c : Nat → Int), u ∉ l → (l.foldl (colStep E) c) u = c u
  | [], _, _ => rfl
  | x :: l, c, h => by
    rw [List.foldl_cons, colFold_out E l _ (fun g => h (by simp [g]))]
    unfold colStep
    rw [if_neg (fun e => h (by simp [e]))]
theorem colF_out (E : Es) {u : Nat} {l : List Nat} (h : u ∉ l) : colF E l u = -1 := colFold_out E l _ h
theorem colF_app (E : Es) {u : Nat} {l l' : List Nat} (h : u ∉ l') : colF E (l ++ l') u = colF E l u := by
  unfold colF
  rw [List.foldl_append]
  exact colFold_out E l' _ h
/-- the colors -/
def col (E : Es) (n : Nat) : Nat → Int := colF E (ord E n).reverse
/-- the colors when a place's turn has come -/
def colP (E : Es) (n i : Nat) : Nat → Int := colF E ((ord E n).drop (i + 1)).reverse
theorem ord_nodup (E : Es) (n : Nat) : (ord E n).Nodup := (peeled E n n (Nat.le_refl _)).nd
theorem ord_split (E : Es) {n i : Nat} (hi : i < n) : ord E n = (ord E n).take i ++ (ord E n).getD i 0 :: (ord E n).drop (i + 1) := by
  have hl := ord_len E n
  rw [List.getD_eq_getElem?_getD, List.getElem?_eq_getElem (by omega)]
  show ord E n = _ ++ (ord E n)[i] :: _
  rw [← List.drop_eq_getElem_cons, List.take_append_drop]
theorem ord_inj (E : Es) {n i j : Nat} (hi : i < n) (hj : j < n) (h : (ord E n).getD i 0 = (ord E n).getD j 0) : i = j := by
  have hl := ord_len E n
  rw [List.getD_eq_getElem?_getD, List.getElem?_eq_getElem (by omega), List.getD_eq_getElem?_getD, List.getElem?_eq_getElem (by omega)] at h
  exact (List.getElem_inj (ord_nodup E n)).1 h
theorem mem_drop_ord (E : Es) {n i j : Nat} (hi : i < n) (hj : j < n) : (ord E n).getD j 0 ∈ (ord E n).drop (i + 1) ↔ i < j := by
  have hl := ord_len E n
  constructor
  · intro h
    obtain ⟨k, hk, e⟩ := List.mem_iff_getElem.1 h
    rw [List.length_drop] at hk
    rw [List.getElem_drop] at e
    have := ord_inj E (n := n) (i := i + 1 + k) (j := j) (by omega) hj (by
      rw [← e, List.getD_eq_getElem?_getD, List.getElem?_eq_getElem (by omega)]
      rfl)
    omega
  · intro h
    rw [List.mem_iff_getElem]
    refine ⟨j - (i + 1), by rw [List.length_drop]; omega, ?_⟩
    rw [List.getElem_drop, List.getD_eq_getElem?_getD, List.getElem?_eq_getElem (by omega)]
    simp only [Option.getD_some]
    congr 1
    omega
theorem colP_at (E : Es) {n i j : Nat} (hi : i < n) (hj : j < n) : colP E n i ((ord E n).getD j 0) = if i < j then col E n ((ord E n).getD j 0) else -1 := by
  have hm := mem_drop_ord E hi hj
  unfold colP col
  by_cases h : i < j
  · rw [if_pos h]
    have hin := hm.2 h
    have hs := ord_split E hi
    have e : (ord E n).reverse = ((ord E n).drop (i + 1)).reverse ++ ((ord E n).take i ++ [(ord E n).getD i 0]).reverse := by
      rw [← List.reverse_append, List.append_assoc]
      exact congrArg List.reverse hs
    rw [e, colF_app]
    rw [List.mem_reverse, List.mem_append, List.mem_singleton]
    rintro (g | g)
    · obtain ⟨k, hk, e2⟩ := List.mem_iff_getElem.1 g
      rw [List.length_take] at hk
      rw [List.getElem_take] at e2
      have hl := ord_len E n
      have := ord_inj E (n := n) (i := k) (j := j) (by omega) hj (by
        rw [← e2, List.getD_eq_getElem?_getD, List.getElem?_eq_getElem (by omega)]
        rfl)
      omega
    · have := ord_inj E hj hi g
      omega
  · rw [if_neg h]
    exact colF_out E (fun g => h (hm.1 (List.mem_reverse.1 g)))
/-- the color of a place's vertex -/
theorem col_at (E : Es) {n i : Nat} (hi : i < n) : col E n ((ord E n).getD i 0) = (mex ((oth E ((ord E n).getD i 0) E.length).map (colP E n i)) : Nat) := by
  have hs := ord_split E hi
  have e : (ord E n).reverse = (((ord E n).drop (i + 1)).reverse ++ [(ord E n).getD i 0]) ++ ((ord E n).take i).reverse := by
    have := congrArg List.reverse hs
    rw [List.reverse_append, List.reverse_cons] at this
    exact this
  unfold col
  rw [e, colF_app, colF_snoc]
  · unfold colStep
    rw [if_pos rfl]
    rfl
  · rw [List.mem_reverse]
    intro g
    obtain ⟨k, hk, e2⟩ := List.mem_iff_getElem.1 g
    rw [List.length_take] at hk
    rw [List.getElem_take] at e2
    have hl := ord_len E n
    have := ord_inj E (n := n) (i := k) (j := i) (by omega) hi (by
      rw [← e2, List.getD_eq_getElem?_getD, List.getElem?_eq_getElem (by omega)]
      rfl)
    omega
theorem mem_oth (E : Es) {v x : Nat} : x ∈ oth E v E.length ↔ ∃ i, i < E.length ∧ hits (edge E i) v = true ∧ x = other (edge E i) v := by
  unfold oth inc
  constructor
  · intro h
    obtain ⟨i, hi, rfl⟩ := List.mem_map.1 h
    have := List.mem_filter.1 hi
    exact ⟨i, by simpa using this.1, this.2, rfl⟩
  · rintro ⟨i, h1, h2, rfl⟩
    exact List.mem_map.2 ⟨i, List.mem_filter.2 ⟨by simpa using h1, h2⟩, rfl⟩
/-- THE ENDS OF AN EDGE HAVE DIFFERENT COLORS -/
theorem col_proper {E : Es} {n : Nat} (hF : Fine n E) {i : Nat} (hi : i < E.length) : col E n (edge E i).1 ≠ col E n (edge E i).2 := by
  obtain ⟨h1, h2, h3⟩ := fine_edge hF hi
  obtain ⟨pa, hpa, ea⟩ := place_of E n h1
  obtain ⟨pb, hpb, eb⟩ := place_of E n h2
  -- the earlier one avoids the later one's color
  have key : ∀ p q, p < n → q < n → p < q → hits (edge E i) ((ord E n).getD p 0) = true → other (edge E i) ((ord E n).getD p 0) = (ord E n).getD q 0 → col E n ((ord E n).getD p 0) ≠ col E n ((ord E n).getD q 0) := by
    intro p q hp hq hpq hh ho e
    have hc := col_at E hp
    have hm := (mex_spec ((oth E ((ord E n).getD p 0) E.length).map (colP E n p))).2.1
    rw [← hc, e] at hm
    refine hm (List.mem_map.2 ⟨(ord E n).getD q 0, (mem_oth E).2 ⟨i, hi, hh, ho.symm⟩, ?_⟩)
    rw [colP_at E hp hq, if_pos hpq]
  rcases Nat.lt_trichotomy pa pb with g | g | g
  · have := key pa pb hpa hpb g (by rw [ea]; simp [hits]) (by rw [ea, eb]; unfold other; rw [if_neg (Ne.symm h3)])
    rwa [ea, eb] at this
  · subst g
    exact absurd (ea.symm.trans eb) h3
  · have := key pb pa hpb hpa g (by rw [eb]; simp [hits]) (by rw [ea, eb]; unfold other; rw [if_pos rfl])
    rw [ea, eb] at this
    exact fun e => this e.symm
theorem oth_count {E : Es} {n : Nat} (hF : Fine n E) (L : Nat → Bool) (v : Nat) : ∀ k, k ≤ E.length → (oth E v k).countP L = dgK E L v k
  | 0, _ => rfl
  | k + 1, hk => by
    have h3 := (fine_edge hF (i := k) (by omega)).2.2
    rw [oth_succ, List.countP_append, oth_count hF L v k (by omega)]
    show _ = dgK E L v k + _
    congr 1
    generalize edge E k = e at *
    obtain ⟨a, b⟩ := e
    simp only [hits, touch, other] at *
    by_cases ea : a = v
    · subst ea
      simp [Ne.symm h3, List.countP_singleton]
    · by_cases eb : b = v
      · subst eb
        simp [ea, List.countP_singleton]
      · simp [ea, eb]
/-- THE COLORING IS GREEDY -/
theorem col_greedy {E : Es} {n : Nat} (hF : Fine n E) {v : Nat} (hv : v < n) : ∃ c : Nat, col E n v = c ∧ c ≤ most E n ∧ ∀ x : Nat, x < c → ∃ i, i < E.length ∧ hits (edge E i) v = true ∧ col E n (other (edge E i) v) = (x : Nat) ∧ (ord E n).idxOf v < (ord E n).idxOf (other (edge E i) v) := by
  obtain ⟨p, hp, ep⟩ := place_of E n hv
  have hl := ord_len E n
  have hidx : ∀ j, j < n → (ord E n).idxOf ((ord E n).getD j 0) = j := fun j hj => by
    rw [List.getD_eq_getElem?_getD, List.getElem?_eq_getElem (by omega)]
    exact (ord_nodup E n).idxOf_getElem j (by omega)
  have hc := col_at E hp
  rw [ep] at hc
  obtain ⟨_, hm2, hm3⟩ := mex_spec ((oth E v E.length).map (colP E n p))
  have hoth : ∀ x ∈ oth E v E.length, x < n := fun x hx => by
    obtain ⟨i, hi, _, rfl⟩ := (mem_oth E).1 hx
    have := fine_edge hF hi
    unfold other
    split
    · exact this.1
    · exact this.2.1
  -- where a smaller color comes from
  have hfrom : ∀ x : Nat, x < mex ((oth E v E.length).map (colP E n p)) → ∃ q, q < n ∧ p < q ∧ (ord E n).getD q 0 ∈ oth E v E.length ∧ col E n ((ord E n).getD q 0) = (x : Nat) := by
    intro x hx
    obtain ⟨y, hy, ey⟩ := List.mem_map.1 (hm3 x hx)
    obtain ⟨q, hq, rfl⟩ := place_of E n (hoth y hy)
    rw [colP_at E hp hq] at ey
    by_cases h : p < q
    · rw [if_pos h] at ey
      exact ⟨q, hq, h, hy, ey⟩
    · rw [if_neg h] at ey
      omega
  refine ⟨_, hc, ?_, fun x hx => ?_⟩
  · obtain ⟨v', d, hpk, hL, ho, hm, _, _⟩ := step_facts E n hp
    rw [ep] at ho
    subst ho
    have h1 : d ≤ most E n := by
      have a := top_mono E n (i := p + 1) (j := n) (by omega) (Nat.le_refl _)
      have b : most E n = topN E n n := by
        unfold most topN
        rw [List.take_of_length_le (by have : (peel E n).length = n := (peeled E n n (Nat.le_refl _)).len; omega)]
      unfold topN at a b
      rw [hm] at a
      omega
    refine Nat.le_trans ?_ h1
    rw [hpk.2.2.1]
    unfold dg
    rw [← oth_count hF _ _ _ (Nat.le_refl _), List.countP_eq_length_filter]
    have := nodup_sub' (l := (List.range (mex ((oth E v E.length).map (colP E n p)))).map fun x : Nat => (x : Int)) (m := ((oth E v E.length).filter (peelN E n p).1).map (col E n)) (by
      exact List.pairwise_map.2 (List.nodup_range.imp fun h e => h (by omega))) (fun x hx => by
      obtain ⟨y, hy, rfl⟩ := List.mem_map.1 hx
      obtain ⟨q, hq, hpq, hin, hcq⟩ := hfrom y (by simpa using hy)
      exact List.mem_map.2 ⟨_, List.mem_filter.2 ⟨hin, (left_iff E n hq (by omega)).2 (by omega)⟩, hcq⟩)
    rwa [List.length_map, List.length_map, List.length_range] at this
  · obtain ⟨q, hq, hpq, hin, hcq⟩ := hfrom x hx
    obtain ⟨i, hi, hh, e⟩ := (mem_oth E).1 hin
    refine ⟨i, hi, hh, by rw [← e]; exact hcq, ?_⟩
    rw [← e, hidx q hq]
    have := hidx p hp
    rw [ep] at this
    omega
/-- the same neighbors, the same colors -/
theorem mex_congr {S S' : List Int} (h : ∀ x, x ∈ S ↔ x ∈ S') : mex S = mex S' := by
  obtain ⟨_, a2, a3⟩ := mex_spec S
  obtain ⟨_, b2, b3⟩ := mex_spec S'
  rcases Nat.lt_trichotomy (mex S) (mex S') with g | g | g
  · exact absurd ((h _).2 (b3 _ g)) a2
  · exact g
  · exact absurd ((h _).1 (a3 _ g)) b2
theorem colF_congr {E E' : Es} (h : ∀ v x, x ∈ oth E v E.length ↔ x ∈ oth E' v E'.length) (l : List Nat) : colF E l = colF E' l := by
  unfold colF
  have e : colStep E = colStep E' := by
    funext c v u
    unfold colStep
    have : mex ((oth E v E.length).map c) = mex ((oth E' v E'.length).map c) := mex_congr fun x => by
      rw [List.mem_map, List.mem_map]
      constructor
      · rintro ⟨y, hy, e⟩; exact ⟨y, (h v y).1 hy, e⟩
      · rintro ⟨y, hy, e⟩; exact ⟨y, (h v y).2 hy, e⟩
    rw [this]
  rw [e]
theorem mem_oth2 (E : Es) {v x : Nat} : x ∈ oth E v E.length ↔ ∃ e ∈ E, hits e v = true ∧ x = other e v := by
  rw [mem_oth]
  constructor
  · rintro ⟨i, hi, h⟩
    refine ⟨edge E i, ?_, h⟩
    unfold edge
    rw [List.getD_eq_getElem?_getD, List.getElem?_eq_getElem hi]
    exact List.getElem_mem hi
  · rintro ⟨e, he, h⟩
    obtain ⟨i, hi, rfl⟩ := List.mem_iff_getElem.1 he
    refine ⟨i, hi, ?_⟩
    have : edge E i = E[i] := by
      unfold edge
      rw [List.getD_eq_getElem?_getD, List.getElem?_eq_getElem hi]
      rfl
    rw [this]
    exact h
theorem oth_back {E : Es} {n : Nat} (hF : Fine n E) (v x : Nat) : x ∈ oth E v E.length ↔ x ∈ oth (backE E) v (backE E).length := by
  rw [mem_oth2, mem_oth2]
  have key : ∀ e : Nat × Nat, e.1 ≠ e.2 → (hits e v = true ∧ x = other e v ↔ hits (swp e) v = true ∧ x = other (swp e) v) := by
    rintro ⟨a, b⟩ h
    simp only [hits, swp, other] at h ⊢
    by_cases ea : a = v
    · subst ea
      simp [Ne.symm h]
    · by_cases eb : b = v
      · subst eb
        simp [ea]
      · simp [ea, eb]
  unfold backE
  constructor
  · rintro ⟨e, he, h⟩
    exact ⟨swp e, List.mem_map.2 ⟨e, List.mem_reverse.2 he, rfl⟩, (key e (hF.2.2 e he).2.2).1 h⟩
  · rintro ⟨e', he', h⟩
    obtain ⟨e, he, rfl⟩ := List.mem_map.1 he'
    have he := List.mem_reverse.1 he
    exact ⟨e, he, (key e (hF.2.2 e he).2.2).2 h⟩
end Go.Proofs.Ytoiafopndlnknaa
