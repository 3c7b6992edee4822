/-
  The removal order, plainly.
-/
import Derived.Test.YtoiafopndlnknaaB1
set_option linter.unusedVariables false
set_option linter.unusedSimpArgs false
namespace Go.Proofs.Ytoiafopndlnknaa

/-- an edge from u to one that is left -/
def touch (e : Nat × Nat) (L : Nat → Bool) (u : Nat) : Bool := (e.1 == u && L e.2) || (e.2 == u && L e.1)
def dgK (E : Es) (L : Nat → Bool) (u : Nat) : Nat → Nat
  | 0 => 0
  | k + 1 => dgK E L u k + if touch (edge E k) L u = true then 1 else 0
def dg (E : Es) (L : Nat → Bool) (u : Nat) : Nat := dgK E L u E.length
def allL : Nat → Bool := fun _ => true
def rem (L : Nat → Bool) (v : Nat) : Nat → Bool := fun u => if u = v then false else L u
theorem dgK_all (E : Es) (u : Nat) : ∀ k, dgK E allL u k = cnt E u k
  | 0 => rfl
  | k + 1 => by
    rw [cnt_succ, ← dgK_all E u k]
    show _ + _ = _
    have e : touch (edge E k) allL u = hits (edge E k) u := by simp [touch, hits, allL]
    rw [e]
theorem dg_all (E : Es) (u : Nat) : dg E allL u = cnt E u E.length := dgK_all E u _
theorem dgK_le (E : Es) (L : Nat → Bool) (u : Nat) : ∀ k, dgK E L u k ≤ k
  | 0 => Nat.le_refl _
  | k + 1 => by
    have := dgK_le E L u k
    show dgK E L u k + _ ≤ _
    split <;> omega
theorem dgK_mono (E : Es) {L L' : Nat → Bool} (h : ∀ v, L v = true → L' v = true) (u : Nat) : ∀ k, dgK E L u k ≤ dgK E L' u k
  | 0 => Nat.le_refl _
  | k + 1 => by
    have := dgK_mono E h u k
    show dgK E L u k + _ ≤ dgK E L' u k + _
    by_cases h1 : touch (edge E k) L u = true
    · have h2 : touch (edge E k) L' u = true := by
        simp only [touch, Bool.or_eq_true, Bool.and_eq_true] at h1 ⊢
        rcases h1 with ⟨a, b⟩ | ⟨a, b⟩
        · exact .inl ⟨a, h _ b⟩
        · exact .inr ⟨a, h _ b⟩
      rw [if_pos h1, if_pos h2]; omega
    · rw [if_neg h1]; omega
theorem dg_mono (E : Es) {L L' : Nat → Bool} (h : ∀ v, L v = true → L' v = true) (u : Nat) : dg E L u ≤ dg E L' u := dgK_mono E h u _
theorem dgK_congr (E : Es) {L L' : Nat → Bool} {n : Nat} (hf : ∀ i, i < E.length → (edge E i).1 < n ∧ (edge E i).2 < n) (h : ∀ v, v < n → L v = L' v) (u : Nat) : ∀ k, k ≤ E.length → dgK E L u k = dgK E L' u k
  | 0, _ => rfl
  | k + 1, hk => by
    show dgK E L u k + _ = dgK E L' u k + _
    rw [dgK_congr E hf h u k (by omega)]
    have := hf k (by omega)
    have e : touch (edge E k) L u = touch (edge E k) L' u := by unfold touch; rw [h _ this.1, h _ this.2]
    rw [e]
/-- the other ends of a vertex's edges -/
def oth (E : Es) (v k : Nat) : List Nat := (inc E v k).map fun i => other (edge E i) v
theorem oth_succ (E : Es) (v k : Nat) : oth E v (k + 1) = oth E v k ++ if hits (edge E k) v = true then [other (edge E k) v] else [] := by
  unfold oth
  rw [inc_succ, List.map_append]
  split <;> rfl
/-- a vertex that goes takes its edges along -/
theorem dgK_rem (E : Es) (L : Nat → Bool) {u v : Nat} (huv : u ≠ v) (hv : L v = true) (hE : ∀ i, i < E.length → (edge E i).1 ≠ (edge E i).2) : ∀ k, k ≤ E.length → dgK E L u k = dgK E (rem L v) u k + (oth E v k).count u
  | 0, _ => rfl
  | k + 1, hk => by
    have ih := dgK_rem E L huv hv hE k (by omega)
    have he := hE k (by omega)
    rw [oth_succ, List.count_append]
    show dgK E L u k + _ = dgK E (rem L v) u k + _ + _
    rw [ih]
    generalize edge E k = e at *
    obtain ⟨a, b⟩ := e
    simp only [touch, hits, other, rem] at *
    by_cases h1 : a = v
    · subst h1
      have hb : b ≠ a := fun e => he e.symm
      by_cases h2 : b = u
      · subst h2; simp [hv, huv, hb, Ne.symm hb]; omega
      · simp [h2, huv, Ne.symm huv, hb]
        try omega
    · by_cases h3 : b = v
      · subst h3
        by_cases h2 : a = u
        · subst h2; simp [hv, huv, h1, Ne.symm h1]; try omega
        · simp [h2, huv, Ne.symm huv, h1]
          try omega
      · simp [h1, h3]
        try omega
theorem dg_rem {E : Es} {L : Nat → Bool} {u v : Nat} (huv : u ≠ v) (hv : L v = true) (hE : ∀ i, i < E.length → (edge E i).1 ≠ (edge E i).2) : dg E L u = dg E (rem L v) u + (oth E v E.length).count u := dgK_rem E L huv hv hE _ (Nat.le_refl _)
/-- the left one of least degree, the first of equal ones -/
def best (E : Es) (L : Nat → Bool) : Nat → Option (Nat × Nat)
  | 0 => none
  | k + 1 => if L k = true then (match best E L k with
    | none => some (k, dg E L k)
    | some b => if dg E L k < b.2 then some (k, dg E L k) else some b) else best E L k
def IsPick (E : Es) (L : Nat → Bool) (n v d : Nat) : Prop := v < n ∧ L v = true ∧ d = dg E L v ∧ ∀ u, u < n → L u = true → d < dg E L u ∨ (d = dg E L u ∧ v ≤ u)
theorem best_cases (E : Es) (L : Nat → Bool) : ∀ n, (∃ v d, best E L n = some (v, d) ∧ IsPick E L n v d) ∨ (best E L n = none ∧ ∀ u, u < n → L u = false)
  | 0 => .inr ⟨rfl, fun u hu => by omega⟩
  | k + 1 => by
    by_cases hk : L k = true
    · rcases best_cases E L k with ⟨v, d, h1, h2, h3, h4, h5⟩ | ⟨h1, h2⟩
      · left
        by_cases hd : dg E L k < d
        · refine ⟨k, dg E L k, by unfold best; rw [if_pos hk, h1]; simp [hd], by omega, hk, rfl, fun u hu hl => ?_⟩
          rcases Nat.lt_or_ge u k with h | h
          · rcases h5 u h hl with g | g <;> omega
          · obtain rfl : u = k := by omega
            exact .inr ⟨rfl, Nat.le_refl _⟩
        · refine ⟨v, d, by unfold best; rw [if_pos hk, h1]; simp [hd], by omega, h3, h4, fun u hu hl => ?_⟩
          rcases Nat.lt_or_ge u k with h | h
          · exact h5 u h hl
          · obtain rfl : u = k := by omega
            omega
      · left
        refine ⟨k, dg E L k, by unfold best; rw [if_pos hk, h1], by omega, hk, rfl, fun u hu hl => ?_⟩
        rcases Nat.lt_or_ge u k with h | h
        · rw [h2 u h] at hl; cases hl
        · obtain rfl : u = k := by omega
          exact .inr ⟨rfl, Nat.le_refl _⟩
    · have hk' : L k = false := by simpa using hk
      rcases best_cases E L k with ⟨v, d, h1, h2, h3, h4, h5⟩ | ⟨h1, h2⟩
      · refine .inl ⟨v, d, by unfold best; rw [if_neg hk, h1], by omega, h3, h4, fun u hu hl => ?_⟩
        rcases Nat.lt_or_ge u k with h | h
        · exact h5 u h hl
        · obtain rfl : u = k := by omega
          rw [hk'] at hl; cases hl
      · refine .inr ⟨by unfold best; rw [if_neg hk, h1], fun u hu => ?_⟩
        rcases Nat.lt_or_ge u k with h | h
        · exact h2 u h
        · obtain rfl : u = k := by omega
          exact hk'
theorem pick_one {E : Es} {L : Nat → Bool} {n v d v' d' : Nat} (h : IsPick E L n v d) (h' : IsPick E L n v' d') : v = v' ∧ d = d' := by
  obtain ⟨a1, a2, a3, a4⟩ := h
  obtain ⟨b1, b2, b3, b4⟩ := h'
  rcases a4 v' b1 b2 with g | g
  · rcases b4 v a1 a2 with k | k <;> omega
  · rcases b4 v a1 a2 with k | k <;> omega
theorem best_pick {E : Es} {L : Nat → Bool} {n v d : Nat} (h : IsPick E L n v d) : best E L n = some (v, d) := by
  rcases best_cases E L n with ⟨v', d', h1, h2⟩ | ⟨h1, h2⟩
  · obtain ⟨rfl, rfl⟩ := pick_one h h2
    exact h1
  · have := h2 v h.1
    rw [h.2.1] at this
    cases this
/-- the first k removals, and who is left -/
def peelN (E : Es) (n : Nat) : Nat → (Nat → Bool) × List (Nat × Nat)
  | 0 => (allL, [])
  | k + 1 => match best E (peelN E n k).1 n with
    | some b => (rem (peelN E n k).1 b.1, (peelN E n k).2 ++ [b])
    | none => peelN E n k
theorem nodup_sub : ∀ {l m : List Nat}, l.Nodup → (∀ x ∈ l, x ∈ m) → l.length ≤ m.length
  | [], m, _, _ => Nat.zero_le _
  | x :: l, m, h, hs => by
    have hx := hs x (by simp)
    have h2 := List.nodup_cons.1 h
    have ih := nodup_sub (l := l) (m := m.erase x) h2.2 (fun y hy => by
      have := hs y (by simp [hy])
      exact (List.mem_erase_of_ne (fun e => h2.1 (by rw [← e]; exact hy))).2 this)
    rw [List.length_erase_of_mem hx] at ih
    have : 0 < m.length := List.length_pos_of_mem hx
    simp only [List.length_cons]
    omega
/-- what holds of the first k removals -/
structure Peeled (E : Es) (n k : Nat) (L : Nat → Bool) (p : List (Nat × Nat)) : Prop where
  len : p.length = k
  nd : (p.map (·.1)).Nodup
  lt : ∀ x ∈ p, x.1 < n
  left : ∀ u, L u = false ↔ u ∈ p.map (·.1)
theorem Peeled.ex {E : Es} {n k : Nat} {L : Nat → Bool} {p : List (Nat × Nat)} (h : Peeled E n k L p) (hk : k < n) : ∃ u, u < n ∧ L u = true := by
  apply Classical.byContradiction
  intro hn
  have : n ≤ (p.map (·.1)).length := by
    have := nodup_sub (l := List.range n) (m := p.map (·.1)) List.nodup_range (fun x hx => by
      have hx : x < n := by simpa using hx
      rw [← h.left]
      cases hl : L x with
      | false => rfl
      | true => exact absurd ⟨x, hx, hl⟩ hn)
    rwa [List.length_range] at this
  rw [List.length_map, h.len] at this
  omega
theorem Peeled.pick {E : Es} {n k : Nat} {L : Nat → Bool} {p : List (Nat × Nat)} (h : Peeled E n k L p) (hk : k < n) : ∃ v d, best E L n = some (v, d) ∧ IsPick E L n v d := by
  obtain ⟨u, hu, hl⟩ := h.ex hk
  rcases best_cases E L n with g | ⟨_, h2⟩
  · exact g
  · have := h2 u hu
    rw [hl] at this
    cases this
theorem Peeled.step {E : Es} {n k v d : Nat} {L : Nat → Bool} {p : List (Nat × Nat)} (h : Peeled E n k L p) (hp : IsPick E L n v d) : Peeled E n (k + 1) (rem L v) (p ++ [(v, d)]) := by
  have hv : v ∉ p.map (·.1) := fun e => by
    rw [← h.left, hp.2.1] at e
    cases e
  refine ⟨by simp [h.len], ?_, fun x hx => ?_, fun u => ?_⟩
  · rw [List.map_append, List.map_cons, List.map_nil]
    refine List.nodup_append.2 ⟨h.nd, by simp, fun a ha b hb => ?_⟩
    simp at hb
    subst hb
    exact fun e => hv (e ▸ ha)
  · rcases List.mem_append.1 hx with g | g
    · exact h.lt x g
    · simp at g
      subst g
      exact hp.1
  · unfold rem
    rw [List.map_append, List.mem_append]
    by_cases e : u = v
    · subst e; simp
    · rw [if_neg e, h.left]
      simp [e]
theorem peeled (E : Es) (n : Nat) : ∀ k, k ≤ n → Peeled E n k (peelN E n k).1 (peelN E n k).2
  | 0, _ => ⟨rfl, by simp [peelN], fun x hx => by simp [peelN] at hx, fun u => by simp [peelN, allL]⟩
  | k + 1, hk => by
    have h := peeled E n k (by omega)
    obtain ⟨v, d, h1, h2⟩ := h.pick (by omega)
    unfold peelN
    rw [h1]
    exact h.step h2
/-- the next removal -/
theorem peel_step (E : Es) (n k : Nat) (hk : k < n) : ∃ v d, IsPick E (peelN E n k).1 n v d ∧ peelN E n (k + 1) = (rem (peelN E n k).1 v, (peelN E n k).2 ++ [(v, d)]) := by
  obtain ⟨v, d, h1, h2⟩ := (peeled E n k (by omega)).pick hk
  refine ⟨v, d, h2, ?_⟩
  show (match best E (peelN E n k).1 n with | some b => _ | none => _) = _
  rw [h1]
/-- the whole -/
def peel (E : Es) (n : Nat) : List (Nat × Nat) := (peelN E n n).2
theorem peel_pre (E : Es) (n k : Nat) : ∀ m, k ≤ m → m ≤ n → (peelN E n k).2 <+: (peelN E n m).2 := by
  intro m hm
  induction hm with
  | refl => intro _; exact List.prefix_refl _
  | step _ ih =>
    intro h
    obtain ⟨v, d, _, e⟩ := peel_step E n _ h
    rw [e]
    exact (ih (by omega)).trans (List.prefix_append _ _)
theorem peel_take (E : Es) (n k : Nat) (hk : k ≤ n) : (peelN E n k).2 = (peel E n).take k := by
  obtain ⟨r, hr⟩ := peel_pre E n k n hk (Nat.le_refl _)
  unfold peel
  rw [← hr]
  exact (List.take_left' (peeled E n k hk).len).symm
/-- core numbers: the greatest degree so far, and the number of each -/
def accN (s : Nat × (Nat → Nat)) (x : Nat × Nat) : Nat × (Nat → Nat) := (max s.1 x.2, fun u => if u = x.1 then max s.1 x.2 else s.2 u)
def numS (p : List (Nat × Nat)) : Nat × (Nat → Nat) := p.foldl accN (0, fun _ => 0)
theorem numS_snoc (p : List (Nat × Nat)) (x : Nat × Nat) : numS (p ++ [x]) = accN (numS p) x := by simp [numS]
def most (E : Es) (n : Nat) : Nat := (numS (peel E n)).1
def num (E : Es) (n : Nat) : Nat → Nat := (numS (peel E n)).2
def ord (E : Es) (n : Nat) : List Nat := (peel E n).map (·.1)
end Go.Proofs.Ytoiafopndlnknaa
