/-
  Plain laws: edges added, edges several times, edges turned.
-/
import Derived.Test.YtoiafopndlnknaaQ1
set_option linter.unusedVariables false
set_option linter.unusedSimpArgs false
namespace Go.Proofs.Ytoiafopndlnknaa

theorem edge_app_l' (E F : Es) {i : Nat} (h : i < E.length) : edge (E ++ F) i = edge E i := by
  unfold edge
  rw [List.getD_eq_getElem?_getD, List.getD_eq_getElem?_getD, List.getElem?_append_left h]
theorem edge_app_r' (E F : Es) (i : Nat) : edge (E ++ F) (E.length + i) = edge F i := by
  unfold edge
  rw [List.getD_eq_getElem?_getD, List.getD_eq_getElem?_getD, List.getElem?_append_right (by omega), Nat.add_sub_cancel_left]
theorem dgK_app_l (E F : Es) (L : Nat → Bool) (u : Nat) : ∀ k, k ≤ E.length → dgK (E ++ F) L u k = dgK E L u k
  | 0, _ => rfl
  | k + 1, hk => by
    show dgK (E ++ F) L u k + _ = dgK E L u k + _
    rw [dgK_app_l E F L u k (by omega), edge_app_l' E F (by omega)]
theorem dgK_app_r (E F : Es) (L : Nat → Bool) (u : Nat) : ∀ k, dgK (E ++ F) L u (E.length + k) = dg E L u + dgK F L u k
  | 0 => dgK_app_l E F L u _ (Nat.le_refl _)
  | k + 1 => by
    show dgK (E ++ F) L u (E.length + k) + (if touch (edge (E ++ F) (E.length + k)) L u = true then 1 else 0) = dg E L u + (dgK F L u k + if touch (edge F k) L u = true then 1 else 0)
    rw [dgK_app_r E F L u k, edge_app_r', Nat.add_assoc]
theorem dg_app (E F : Es) (L : Nat → Bool) (u : Nat) : dg (E ++ F) L u = dg E L u + dg F L u := by
  unfold dg
  rw [List.length_append]
  exact dgK_app_r E F L u F.length
theorem dg_one (e : Nat × Nat) (L : Nat → Bool) (u : Nat) : dg [e] L u = if touch e L u = true then 1 else 0 := by
  show 0 + _ = _
  rw [Nat.zero_add]
  rfl
theorem dg_count (L : Nat → Bool) (u : Nat) : ∀ E : Es, dg E L u = E.countP (fun e => touch e L u)
  | [] => rfl
  | e :: E => by
    have h := dg_app [e] E L u
    rw [show [e] ++ E = e :: E from rfl, dg_one, dg_count L u E] at h
    rw [h, List.countP_cons]
    omega
/-- all degrees t times as great: the same removals -/
def tim (t : Nat) (x : Nat × Nat) : Nat × Nat := (x.1, t * x.2)
theorem best_times {E E' : Es} {t : Nat} (ht : 1 ≤ t) (h : ∀ L u, dg E' L u = t * dg E L u) (L : Nat → Bool) : ∀ n, best E' L n = (best E L n).map (tim t)
  | 0 => rfl
  | k + 1 => by
    have ih := best_times ht h L k
    unfold best
    by_cases hk : L k = true
    · rw [if_pos hk, if_pos hk, ih]
      cases hb : best E L k with
      | none => simp [tim, h]
      | some b =>
        simp only [Option.map_some, tim, h]
        by_cases hl : dg E L k < b.2
        · rw [if_pos hl, if_pos (Nat.mul_lt_mul_of_pos_left hl (by omega))]; rfl
        · rw [if_neg hl, if_neg (fun g => hl (Nat.lt_of_mul_lt_mul_left g))]; rfl
    · rw [if_neg hk, if_neg hk, ih]
theorem peelN_times {E E' : Es} {t : Nat} (ht : 1 ≤ t) (h : ∀ L u, dg E' L u = t * dg E L u) (n : Nat) : ∀ k, peelN E' n k = ((peelN E n k).1, (peelN E n k).2.map (tim t))
  | 0 => rfl
  | k + 1 => by
    have ih := peelN_times ht h n k
    unfold peelN
    rw [ih]
    simp only []
    rw [best_times ht h]
    cases hb : best E (peelN E n k).1 n with
    | none => simp
    | some b => simp [tim]
theorem peel_times {E E' : Es} {t : Nat} (ht : 1 ≤ t) (h : ∀ L u, dg E' L u = t * dg E L u) (n : Nat) : peel E' n = (peel E n).map (tim t) := by
  unfold peel
  rw [peelN_times ht h]
theorem ord_times {E E' : Es} {t : Nat} (ht : 1 ≤ t) (h : ∀ L u, dg E' L u = t * dg E L u) (n : Nat) : ord E' n = ord E n := by
  unfold ord
  rw [peel_times ht h, List.map_map]
  rfl
theorem max_times (t a b : Nat) : max (t * a) (t * b) = t * max a b := by
  rcases Nat.le_total a b with h | h
  · rw [Nat.max_eq_right h, Nat.max_eq_right (Nat.mul_le_mul_left t h)]
  · rw [Nat.max_eq_left h, Nat.max_eq_left (Nat.mul_le_mul_left t h)]
theorem foldl_times (t : Nat) : ∀ (p : List (Nat × Nat)) (a : Nat) (f : Nat → Nat), (p.map (tim t)).foldl accN (t * a, fun u => t * f u) = (t * (p.foldl accN (a, f)).1, fun u => t * (p.foldl accN (a, f)).2 u)
  | [], a, f => rfl
  | x :: p, a, f => by
    have e : accN (t * a, fun u => t * f u) (tim t x) = (t * max a x.2, fun u => t * (if u = x.1 then max a x.2 else f u)) := by
      unfold accN tim
      simp only [max_times]
      congr 1
      funext u
      split <;> rfl
    rw [List.map_cons, List.foldl_cons, List.foldl_cons, e, foldl_times t p]
    rfl
theorem numS_times (t : Nat) (p : List (Nat × Nat)) : numS (p.map (tim t)) = (t * (numS p).1, fun u => t * (numS p).2 u) := foldl_times t p 0 fun _ => 0
theorem num_times {E E' : Es} {t : Nat} (ht : 1 ≤ t) (h : ∀ L u, dg E' L u = t * dg E L u) (n : Nat) : num E' n = fun u => t * num E n u := by
  unfold num
  rw [peel_times ht h, numS_times]
theorem most_times {E E' : Es} {t : Nat} (ht : 1 ≤ t) (h : ∀ L u, dg E' L u = t * dg E L u) (n : Nat) : most E' n = t * most E n := by
  unfold most
  rw [peel_times ht h, numS_times]
/-- the edges t times -/
def reps (E : Es) : Nat → Es
  | 0 => []
  | t + 1 => reps E t ++ E
theorem dg_reps (E : Es) (L : Nat → Bool) (u : Nat) : ∀ t, dg (reps E t) L u = t * dg E L u
  | 0 => by rw [Nat.zero_mul]; rfl
  | t + 1 => by
    show dg (reps E t ++ E) L u = _
    rw [dg_app, dg_reps E L u t, Nat.succ_mul]
theorem reps_len (E : Es) : ∀ t, (reps E t).length = t * E.length
  | 0 => by rw [Nat.zero_mul]; rfl
  | t + 1 => by
    show (reps E t ++ E).length = _
    rw [List.length_append, reps_len E t, Nat.succ_mul]
theorem reps_mem {E : Es} {e : Nat × Nat} : ∀ {t}, e ∈ reps E t → e ∈ E
  | 0, h => by cases h
  | t + 1, h => by
    rcases List.mem_append.1 h with g | g
    · exact reps_mem g
    · exact g
theorem reps_count (E : Es) (p : Nat × Nat → Bool) : ∀ t, (reps E t).countP p = t * E.countP p
  | 0 => by rw [Nat.zero_mul]; rfl
  | t + 1 => by
    show (reps E t ++ E).countP p = _
    rw [List.countP_append, reps_count E p t, Nat.succ_mul]
/-- the edges the other way round, from the last one on -/
def swp (e : Nat × Nat) : Nat × Nat := (e.2, e.1)
def backE (E : Es) : Es := E.reverse.map swp
theorem dg_back (E : Es) (L : Nat → Bool) (u : Nat) : dg (backE E) L u = dg E L u := by
  rw [dg_count, dg_count]
  unfold backE
  rw [List.countP_map, List.countP_reverse]
  refine List.countP_congr fun e _ => ?_
  show touch (swp e) L u = true ↔ _
  unfold touch swp
  simp only [Bool.or_comm]
/-- the vertices' names turned round -/
def trn (n : Nat) (e : Nat × Nat) : Nat × Nat := (n - 1 - e.1, n - 1 - e.2)
def turnE (n : Nat) (E : Es) : Es := E.reverse.map (trn n)
theorem dg_turn {n : Nat} {E : Es} (hE : ∀ e ∈ E, e.1 < n ∧ e.2 < n) (L : Nat → Bool) {u : Nat} (hu : u < n) : dg (turnE n E) L (n - 1 - u) = dg E (fun v => L (n - 1 - v)) u := by
  rw [dg_count, dg_count]
  unfold turnE
  rw [List.countP_map, List.countP_reverse]
  refine List.countP_congr fun e he => ?_
  obtain ⟨h1, h2⟩ := hE e he
  show touch (trn n e) L (n - 1 - u) = true ↔ _
  unfold touch trn
  simp only [Bool.or_eq_true, Bool.and_eq_true, beq_iff_eq]
  have a1 : n - 1 - e.1 = n - 1 - u ↔ e.1 = u := by omega
  have a2 : n - 1 - e.2 = n - 1 - u ↔ e.2 = u := by omega
  rw [a1, a2]
end Go.Proofs.Ytoiafopndlnknaa
