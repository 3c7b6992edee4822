/-
  Plain laws: how dense a core is.
-/
import Derived.Test.YtoiafopndlnknaaQ3
set_option linter.unusedVariables false
set_option linter.unusedSimpArgs false
namespace Go.Proofs.Ytoiafopndlnknaa
open Go.RowKit Go.Shelf

/-- the sum of a row's first n -/
def sumU (f : Nat → Nat) : Nat → Nat
  | 0 => 0
  | n + 1 => sumU f n + f n
theorem sumU_congr {f g : Nat → Nat} : ∀ {n}, (∀ v, v < n → f v = g v) → sumU f n = sumU g n
  | 0, _ => rfl
  | n + 1, h => by unfold sumU; rw [sumU_congr (fun v hv => h v (by omega)), h n (by omega)]
theorem sumU_add (f g : Nat → Nat) : ∀ n, sumU (fun v => f v + g v) n = sumU f n + sumU g n
  | 0 => rfl
  | n + 1 => by unfold sumU; rw [sumU_add f g n]; omega
theorem sumU_zero : ∀ n, sumU (fun _ => 0) n = 0
  | 0 => rfl
  | n + 1 => by unfold sumU; rw [sumU_zero n]
theorem sumU_one (a : Nat) : ∀ n, sumU (fun v => if a = v then 1 else 0) n = if a < n then 1 else 0
  | 0 => rfl
  | n + 1 => by
    unfold sumU
    rw [sumU_one a n]
    split <;> split <;> split <;> omega
theorem sumU_le {f g : Nat → Nat} : ∀ {n}, (∀ v, v < n → f v ≤ g v) → sumU f n ≤ sumU g n
  | 0, _ => Nat.le_refl _
  | n + 1, h => by unfold sumU; exact Nat.add_le_add (sumU_le (fun v hv => h v (by omega))) (h n (by omega))
theorem sumU_if (S : Nat → Bool) (c : Nat) : ∀ n, sumU (fun v => if S v = true then c else 0) n = c * (List.range n).countP S
  | 0 => rfl
  | n + 1 => by
    unfold sumU
    rw [sumU_if S c n, List.range_succ, List.countP_append, List.countP_singleton]
    split
    · rw [Nat.mul_add, Nat.mul_one]
    · rw [Nat.add_zero, Nat.add_zero]
/-- the edges within a set -/
def eIn (E : Es) (S : Nat → Bool) : Nat := E.countP fun e => S e.1 && S e.2
theorem sum_dI {E : Es} {n : Nat} (hF : Fine n E) (S : Nat → Bool) : ∀ k, k ≤ E.length → sumU (dI E S k) n = 2 * (List.range k).countP fun i => S (edge E i).1 && S (edge E i).2
  | 0, _ => by
    show sumU (fun _ => 0) n = _
    rw [sumU_zero]
    rfl
  | k + 1, hk => by
    obtain ⟨h1, h2, h3⟩ := fine_edge hF (i := k) (by omega)
    rw [List.range_succ, List.countP_append, List.countP_singleton, Nat.mul_add, ← sum_dI hF S k (by omega)]
    by_cases hs : (S (edge E k).1 && S (edge E k).2) = true
    · rw [if_pos hs]
      rw [Bool.and_eq_true] at hs
      have e : sumU (dI E S (k + 1)) n = sumU (fun v => dI E S k v + ((if (edge E k).1 = v then 1 else 0) + (if (edge E k).2 = v then 1 else 0))) n := by
        refine sumU_congr fun v hv => ?_
        show dI E S k v + _ = _
        congr 1
        by_cases a : (edge E k).1 = v
        · rw [if_pos ⟨hs, .inl a⟩, if_pos a, if_neg (by omega)]
        · by_cases b : (edge E k).2 = v
          · rw [if_pos ⟨hs, .inr b⟩, if_neg a, if_pos b]
          · rw [if_neg (fun h => by rcases h.2 with h | h; exact a h; exact b h), if_neg a, if_neg b]
      rw [e, sumU_add, sumU_add, sumU_one, sumU_one, if_pos h1, if_pos h2]
    · rw [if_neg hs]
      refine sumU_congr fun v hv => ?_
      show dI E S k v + _ = _
      rw [if_neg (fun h => hs (by rw [Bool.and_eq_true]; exact h.1))]
      rfl
theorem sum_ins {E : Es} {n : Nat} (hF : Fine n E) (S : Nat → Bool) : sumU (insD E S) n = 2 * eIn E S := by
  rw [sumU_congr (g := dI E S E.length) (fun v _ => (dI_ins (fun i hi => (fine_edge hF hi).2.2) v).symm), sum_dI hF S _ (Nat.le_refl _), range_count E (fun e => S e.1 && S e.2)]
  rfl
theorem count_rem {S : Nat → Bool} {v : Nat} (hs : S v = true) : ∀ n, v < n → (List.range n).countP S = (List.range n).countP (rem S v) + 1
  | 0, h => absurd h (Nat.not_lt_zero _)
  | n + 1, h => by
    rw [List.range_succ, List.countP_append, List.countP_append, List.countP_singleton, List.countP_singleton]
    by_cases e : v = n
    · subst e
      have : (List.range v).countP (rem S v) = (List.range v).countP S := List.countP_congr fun u hu => by
        have hu : u < v := by simpa using hu
        unfold rem
        rw [if_neg (by omega)]
      rw [this, if_pos hs]
      unfold rem
      simp
    · rw [count_rem hs n (by omega)]
      have : rem S v n = S n := by unfold rem; rw [if_neg (fun h => e h.symm)]
      rw [this]
      omega
theorem eIn_rem {S : Nat → Bool} {v : Nat} (hs : S v = true) : ∀ E : Es, (∀ e ∈ E, e.1 ≠ e.2) → eIn E S = eIn E (rem S v) + E.countP (fun e => touch e S v)
  | [], _ => rfl
  | e :: E, h => by
    have hn := h e (by simp)
    have ih := eIn_rem hs E (fun x hx => h x (by simp [hx]))
    unfold eIn at ih ⊢
    rw [List.countP_cons, List.countP_cons, List.countP_cons, ih]
    have : (if (S e.1 && S e.2) = true then 1 else 0) = (if (rem S v e.1 && rem S v e.2) = true then 1 else 0) + (if touch e S v = true then 1 else 0) := by
      obtain ⟨a, b⟩ := e
      simp only [] at hn
      unfold rem touch
      by_cases ea : a = v
      · subst ea
        have hb : ¬ b = a := fun h => hn h.symm
        simp [hs, hb]
      · by_cases eb : b = v
        · subst eb
          simp [hs, ea]
        · simp [ea, eb]
    omega
/-- a set has at most as many edges a vertex as the degeneracy -/
theorem eIn_le {E : Es} {n : Nat} (hF : Fine n E) : ∀ (s : Nat) (S : Nat → Bool), (List.range n).countP S = s → eIn E S ≤ most E n * s
  | 0, S, h => by
    have : eIn E S = 0 := by
      unfold eIn
      rw [List.countP_eq_zero]
      intro e he hh
      rw [Bool.and_eq_true] at hh
      have h1 := List.countP_eq_zero.1 h e.1 (by simpa using (hF.2.2 e he).1)
      exact h1 hh.1
    omega
  | s + 1, S, h => by
    obtain ⟨v, hv, hs, hd⟩ : ∃ v, v < n ∧ S v = true ∧ dg E S v ≤ most E n := by
      obtain ⟨u, hu, hsu⟩ := List.countP_pos_iff.1 (show 0 < (List.range n).countP S by omega)
      have hu : u < n := by simpa using hu
      apply Classical.byContradiction
      intro hno
      have := core_greatest hF (c := most E n + 1) (S := S) (fun x hx hsx => by
        rcases Nat.lt_or_ge (most E n) (dg E S x) with g | g
        · exact g
        · exact absurd ⟨x, hx, hsx, g⟩ hno) hu hsu
      have := (most_is E n).1 u hu
      omega
    have h1 := eIn_rem hs E (fun e he => (hF.2.2 e he).2.2)
    rw [← dg_count] at h1
    have h2 := count_rem hs n hv
    have h3 := eIn_le hF s (rem S v) (by omega)
    rw [Nat.mul_succ]
    omega
theorem ege_eIn (E : Es) (n x : Nat) : ege E (num E n) x = eIn E (coreS E n x) := rfl
theorem vge_count (E : Es) (n x : Nat) : vge (num E n) n x = (List.range n).countP (coreS E n x) := rfl
theorem dens_upper {E : Es} {n : Nat} (hF : Fine n E) (x : Nat) : ege E (num E n) x ≤ most E n * vge (num E n) n x := by
  rw [ege_eIn, vge_count]
  exact eIn_le hF _ _ rfl
theorem dens_lower {E : Es} {n : Nat} (hF : Fine n E) (x : Nat) : x * vge (num E n) n x ≤ 2 * ege E (num E n) x := by
  rw [ege_eIn, ← sum_ins hF, vge_count, ← sumU_if]
  refine sumU_le fun v hv => ?_
  unfold insD
  by_cases h : coreS E n x v = true
  · rw [if_pos h, if_pos h]
    exact core_holds hF hv (of_decide_eq_true h)
  · rw [if_neg h, if_neg h]
    exact Nat.le_refl _
/-- what the law asks of the densest core's ratio N / D -/
theorem dens_law {E : Es} {n k a b N D : Nat} (hF : Fine n E) (hn : 0 < n) (h : IsDens (vge (num E n) n) (ege E (num E n)) (most E n) k) (ha : a = ege E (num E n) k) (hb : b = vge (num E n) n k) (h1 : 1 ≤ b) (hD : 1 ≤ D) (hr : N * b = a * D) :
    most E n * D ≤ 2 * N ∧ N ≤ most E n * D ∧ ∀ i, i ≤ most E n → 2 * ege E (num E n) i * D ≤ 2 * N * vge (num E n) n i ∧ (k < i → 2 * ege E (num E n) i * D < 2 * N * vge (num E n) n i) ∧ (i = k → 2 * ege E (num E n) i * D = 2 * N * vge (num E n) n i) := by
  obtain ⟨G, hG⟩ : ∃ G, most E n = G := ⟨_, rfl⟩
  rw [hG] at h ⊢
  have hup := dens_upper hF k
  have hlo := dens_lower hF (most E n)
  have hvG := vge_pos hn (Nat.le_refl (most E n))
  rw [hG] at hup hlo hvG
  generalize vge (num E n) n = V at *
  generalize ege E (num E n) = W at *
  subst ha hb
  obtain ⟨hk, hi⟩ := h
  have comm3 : ∀ x y z : Nat, x * y * z = x * z * y := fun x y z => Nat.mul_right_comm x y z
  refine ⟨?_, ?_, fun i hle => ⟨?_, fun hki => ?_, fun e => ?_⟩⟩
  · have h2 := (hi G (Nat.le_refl _)).1
    have h3 : G * V k ≤ 2 * W k := by
      refine Nat.le_of_mul_le_mul_left (c := V G) ?_ (by omega)
      calc V G * (G * V k) = G * V G * V k := by rw [← Nat.mul_assoc, Nat.mul_comm (V G) G]
        _ ≤ 2 * W G * V k := Nat.mul_le_mul_right _ hlo
        _ = 2 * (W G * V k) := Nat.mul_assoc _ _ _
        _ ≤ 2 * (W k * V G) := Nat.mul_le_mul_left _ h2
        _ = V G * (2 * W k) := by rw [← Nat.mul_assoc, Nat.mul_comm]
    refine Nat.le_of_mul_le_mul_left (c := V k) ?_ (by omega)
    calc V k * (G * D) = G * V k * D := by rw [← Nat.mul_assoc, Nat.mul_comm (V k) G]
      _ ≤ 2 * W k * D := Nat.mul_le_mul_right _ h3
      _ = 2 * (N * V k) := by rw [hr, Nat.mul_assoc]
      _ = V k * (2 * N) := by rw [← Nat.mul_assoc, Nat.mul_comm]
  · refine Nat.le_of_mul_le_mul_left (c := V k) ?_ (by omega)
    calc V k * N = W k * D := by rw [Nat.mul_comm, hr]
      _ ≤ G * V k * D := Nat.mul_le_mul_right _ hup
      _ = V k * (G * D) := by rw [← Nat.mul_assoc, Nat.mul_comm (V k) G]
  · have h2 := (hi i hle).1
    refine Nat.le_of_mul_le_mul_left (c := V k) ?_ (by omega)
    calc V k * (2 * W i * D) = 2 * (W i * V k) * D := by rw [Nat.mul_comm (V k), comm3, Nat.mul_assoc 2]
      _ ≤ 2 * (W k * V i) * D := Nat.mul_le_mul_right _ (Nat.mul_le_mul_left _ h2)
      _ = 2 * (W k * D) * V i := by rw [← Nat.mul_assoc, comm3, Nat.mul_assoc 2 (W k) D]
      _ = V k * (2 * N * V i) := by rw [← hr, Nat.mul_comm (V k), ← Nat.mul_assoc, comm3]
  · have h2 := (hi i hle).2 hki
    refine Nat.lt_of_mul_lt_mul_left (a := V k) ?_
    calc V k * (2 * W i * D) = 2 * (W i * V k) * D := by rw [Nat.mul_comm (V k), comm3, Nat.mul_assoc 2]
      _ < 2 * (W k * V i) * D := Nat.mul_lt_mul_of_pos_right (by omega) (by omega)
      _ = 2 * (W k * D) * V i := by rw [← Nat.mul_assoc, comm3, Nat.mul_assoc 2 (W k) D]
      _ = V k * (2 * N * V i) := by rw [← hr, Nat.mul_comm (V k), ← Nat.mul_assoc, comm3]
  · subst e
    rw [Nat.mul_assoc, ← hr, ← Nat.mul_assoc]
end Go.Proofs.Ytoiafopndlnknaa
