/-
  Plain laws: counts from a core number on; the densest core.
-/
import Derived.Test.YtoiafopndlnknaaQ1
import Derived.Test.YtoiafopndlnknaaQ2
set_option linter.unusedVariables false
set_option linter.unusedSimpArgs false
namespace Go.Proofs.Ytoiafopndlnknaa
open Go.RowKit Go.Shelf

/-- the core number, by the sets -/
theorem num_ge {E : Es} {n : Nat} (hF : Fine n E) {k v : Nat} (hv : v < n) : k ≤ num E n v ↔ ∃ S : Nat → Bool, S v = true ∧ ∀ u, u < n → S u = true → k ≤ dg E S u :=
  ⟨fun h => ⟨coreS E n k, decide_eq_true h, fun u hu hs => core_holds hF hu (of_decide_eq_true hs)⟩, fun ⟨S, h1, h2⟩ => core_greatest hF h2 hv h1⟩
/-- ONE MORE EDGE -/
theorem more_law {E : Es} {n : Nat} {e : Nat × Nat} (hF : Fine n E) (hF' : Fine n (E ++ [e])) {v : Nat} (hv : v < n) : num E n v ≤ num (E ++ [e]) n v ∧ num (E ++ [e]) n v ≤ num E n v + 1 := by
  have h1 : ∀ S u, dg E S u ≤ dg (E ++ [e]) S u ∧ dg (E ++ [e]) S u ≤ dg E S u + 1 := by
    intro S u
    rw [dg_app, dg_one]
    split <;> omega
  constructor
  · obtain ⟨S, a, b⟩ := (num_ge hF hv).1 (Nat.le_refl _)
    exact (num_ge hF' hv).2 ⟨S, a, fun u hu hs => Nat.le_trans (b u hu hs) (h1 S u).1⟩
  · obtain ⟨S, a, b⟩ := (num_ge hF' hv).1 (Nat.le_refl _)
    have : num (E ++ [e]) n v - 1 ≤ num E n v := (num_ge hF hv).2 ⟨S, a, fun u hu hs => by have := b u hu hs; have := (h1 S u).2; omega⟩
    omega
/-- THE NAMES TURNED ROUND -/
theorem turn_le {E : Es} {n : Nat} (hF : Fine n E) (hF' : Fine n (turnE n E)) {v : Nat} (hv : v < n) : num (turnE n E) n (n - 1 - v) ≤ num E n v := by
  obtain ⟨S, a, b⟩ := (num_ge hF' (v := n - 1 - v) (by omega)).1 (Nat.le_refl _)
  refine (num_ge hF hv).2 ⟨fun u => S (n - 1 - u), a, fun u hu hs => ?_⟩
  rw [← dg_turn (fun e he => ⟨(hF.2.2 e he).1, (hF.2.2 e he).2.1⟩) S hu]
  exact b _ (by omega) hs
theorem turn_ge {E : Es} {n : Nat} (hF : Fine n E) (hF' : Fine n (turnE n E)) {v : Nat} (hv : v < n) : num E n v ≤ num (turnE n E) n (n - 1 - v) := by
  obtain ⟨S, a, b⟩ := (num_ge hF hv).1 (Nat.le_refl _)
  refine (num_ge hF' (by omega)).2 ⟨fun u => S (n - 1 - u), ?_, fun u hu hs => ?_⟩
  · show S (n - 1 - (n - 1 - v)) = true
    rw [show n - 1 - (n - 1 - v) = v by omega]
    exact a
  · have e := dg_turn (n := n) (E := E) (fun e he => ⟨(hF.2.2 e he).1, (hF.2.2 e he).2.1⟩) (fun u => S (n - 1 - u)) (u := n - 1 - u) (by omega)
    rw [show n - 1 - (n - 1 - u) = u by omega] at e
    rw [e]
    refine Nat.le_trans (b (n - 1 - u) (by omega) hs) (Nat.le_of_eq (dg_congr hF (fun x hx => ?_) _))
    show S x = S (n - 1 - (n - 1 - x))
    rw [show n - 1 - (n - 1 - x) = x by omega]
theorem turn_law {E : Es} {n : Nat} (hF : Fine n E) (hF' : Fine n (turnE n E)) {v : Nat} (hv : v < n) : num (turnE n E) n (n - 1 - v) = num E n v := Nat.le_antisymm (turn_le hF hF' hv) (turn_ge hF hF' hv)
theorem fine_turn {E : Es} {n : Nat} (hF : Fine n E) : Fine n (turnE n E) := by
  refine ⟨hF.1, by unfold turnE; simpa using hF.2.1, fun e he => ?_⟩
  unfold turnE at he
  obtain ⟨x, hx, rfl⟩ := List.mem_map.1 he
  have := hF.2.2 x (List.mem_reverse.1 hx)
  unfold trn
  simp only []
  omega
theorem fine_back {E : Es} {n : Nat} (hF : Fine n E) : Fine n (backE E) := by
  refine ⟨hF.1, by unfold backE; simpa using hF.2.1, fun e he => ?_⟩
  unfold backE at he
  obtain ⟨x, hx, rfl⟩ := List.mem_map.1 he
  have := hF.2.2 x (List.mem_reverse.1 hx)
  unfold swp
  simp only []
  exact ⟨this.2.1, this.1, Ne.symm this.2.2⟩
theorem fine_reps {E : Es} {n t : Nat} (hF : Fine n E) (ht : t * E.length ≤ 16384) : Fine n (reps E t) := ⟨hF.1, by rw [reps_len]; exact ht, fun e he => hF.2.2 e (reps_mem he)⟩
/-- vertices, edges from a core number on -/
def vge (f : Nat → Nat) (n x : Nat) : Nat := (List.range n).countP fun v => decide (x ≤ f v)
def ege (E : Es) (f : Nat → Nat) (x : Nat) : Nat := E.countP fun e => decide (x ≤ f e.1) && decide (x ≤ f e.2)
theorem cntN_count (f : Nat → Nat) (n x : Nat) : cntN f n x = (List.range n).countP fun v => f v == x := by
  unfold cntN
  rw [List.countP_eq_length_filter]
theorem vge_step (f : Nat → Nat) (n x : Nat) : vge f n x = cntN f n x + vge f n (x + 1) := by
  rw [cntN_count]
  unfold vge
  induction n with
  | zero => rfl
  | succ n ih =>
    rw [List.range_succ, List.countP_append, List.countP_append, List.countP_append, ih, List.countP_singleton, List.countP_singleton, List.countP_singleton]
    have : (if decide (x ≤ f n) = true then 1 else 0) = (if (f n == x) = true then 1 else 0) + (if decide (x + 1 ≤ f n) = true then 1 else 0) := by
      simp only [beq_iff_eq, decide_eq_true_eq]
      split <;> split <;> split <;> omega
    omega
theorem vge_top {f : Nat → Nat} {n G : Nat} (h : ∀ v, v < n → f v ≤ G) : vge f n (G + 1) = 0 := by
  unfold vge
  rw [List.countP_eq_zero]
  intro v hv
  have := h v (by simpa using hv)
  simp
  omega
theorem sufF_vge {f : Nat → Nat} {n G : Nat} (h : ∀ v, v < n → f v ≤ G) : ∀ j, j ≤ G → suf (cntN f n) G j = vge f n (G - j)
  | 0, _ => by
    rw [vge_step, Nat.sub_zero, vge_top h]
    rfl
  | j + 1, hj => by
    show cntN f n (G - (j + 1)) + suf (cntN f n) G j = _
    rw [sufF_vge h j (by omega), vge_step f n (G - (j + 1)), show G - (j + 1) + 1 = G - j by omega]
theorem vUp_eq {f : Nat → Nat} {n G x : Nat} (h : ∀ v, v < n → f v ≤ G) (hx : x ≤ G) : vUp f n G x = vge f n x := by
  unfold vUp sufF
  rw [sufF_vge h _ (by omega), show G - (G - x) = x by omega]
theorem range_count (E : Es) (p : Nat × Nat → Bool) : (List.range E.length).countP (fun i => p (edge E i)) = E.countP p := by
  have key : (List.range E.length).map (edge E) = E := by
    apply List.ext_getElem
    · simp
    · intro i h1 h2
      simp [edge, h2]
  have := List.countP_map (p := p) (f := edge E) (l := List.range E.length)
  rw [key] at this
  exact this.symm
theorem eUp_eq {E : Es} {n : Nat} (hF : Fine n E) {f : Nat → Nat} {G x : Nat} (h : ∀ v, v < n → f v ≤ G) (hx : x ≤ G) : eUp E f G x = ege E f x := by
  unfold eUp sufF
  rw [sufF_vge (f := eMin E f) (n := E.length) (fun i hi => by
    have := h _ (fine_edge hF hi).1
    unfold eMin
    omega) _ (by omega), show G - (G - x) = x by omega]
  unfold vge ege
  rw [← range_count E]
  refine List.countP_congr fun i hi => ?_
  unfold eMin
  simp only [decide_eq_true_eq, Bool.and_eq_true]
  omega
/-- the densest, and the last of equal ones -/
def IsDens (V W : Nat → Nat) (G k : Nat) : Prop := k ≤ G ∧ ∀ j, j ≤ G → W j * V k ≤ W k * V j ∧ (k < j → W j * V k < W k * V j)
theorem IsDens.uniq {V W : Nat → Nat} {G k k' : Nat} (h : IsDens V W G k) (h' : IsDens V W G k') : k = k' := by
  rcases Nat.lt_trichotomy k k' with g | g | g
  · have a := (h.2 k' h'.1).2 g
    have b := (h'.2 k h.1).1
    omega
  · exact g
  · have a := (h'.2 k h.1).2 g
    have b := (h.2 k' h'.1).1
    omega
theorem IsDens.congr {V W V' W' : Nat → Nat} {G k : Nat} (h : IsDens V W G k) (hV : ∀ i, i ≤ G → V' i = V i) (hW : ∀ i, i ≤ G → W' i = W i) : IsDens V' W' G k :=
  ⟨h.1, fun j hj => by rw [hV j hj, hW j hj, hV k h.1, hW k h.1]; exact h.2 j hj⟩
theorem dens_spec {V W : Nat → Nat} : ∀ i, (∀ j, j ≤ i → 1 ≤ V j) → IsDens V W i (dens V W (i + 1)).1 ∧ (dens V W (i + 1)).2 = ((W (dens V W (i + 1)).1 : Int), (V (dens V W (i + 1)).1 : Int))
  | 0, hV => by
    have e : dens V W 1 = (0, (W 0 : Int), (V 0 : Int)) := by
      show (if (-1 : Int) * (V 0 : Nat) ≤ (W 0 : Nat) * (1 : Int) then _ else _) = _
      rw [if_pos (by omega)]
    rw [e]
    exact ⟨⟨Nat.le_refl _, fun j hj => by obtain rfl : j = 0 := by omega
                                          exact ⟨Nat.le_refl _, fun h => absurd h (Nat.lt_irrefl _)⟩⟩, rfl⟩
  | i + 1, hV => by
    obtain ⟨⟨h1, h2⟩, h3⟩ := dens_spec i (fun j hj => hV j (by omega))
    have e : dens V W (i + 2) = if (dens V W (i + 1)).2.1 * (V (i + 1) : Nat) ≤ (W (i + 1) : Nat) * (dens V W (i + 1)).2.2 then (i + 1, ((W (i + 1) : Nat) : Int), ((V (i + 1) : Nat) : Int)) else dens V W (i + 1) := rfl
    rw [show i + 1 + 1 = i + 2 from rfl, e]
    obtain ⟨k, hk⟩ : ∃ k, (dens V W (i + 1)).1 = k := ⟨_, rfl⟩
    rw [hk] at h1 h2 h3
    rw [h3]
    simp only []
    have hkp := hV k (by omega)
    have hip := hV (i + 1) (Nat.le_refl _)
    by_cases hc : (W k : Int) * (V (i + 1) : Nat) ≤ (W (i + 1) : Nat) * (V k : Int)
    · rw [if_pos hc]
      have hc' : W k * V (i + 1) ≤ W (i + 1) * V k := by
        have : ((W k * V (i + 1) : Nat) : Int) ≤ ((W (i + 1) * V k : Nat) : Int) := by simpa using hc
        omega
      refine ⟨⟨Nat.le_refl _, fun j hj => ⟨?_, fun h => absurd h (by omega)⟩⟩, rfl⟩
      simp only []
      rcases Nat.lt_or_ge j (i + 1) with g | g
      · have a := (h2 j (by omega)).1
        have b : V k * (W j * V (i + 1)) ≤ V k * (W (i + 1) * V j) := by
          calc V k * (W j * V (i + 1)) = W j * V k * V (i + 1) := by rw [Nat.mul_comm (V k), Nat.mul_assoc, Nat.mul_assoc, Nat.mul_comm (V (i + 1))]
            _ ≤ W k * V j * V (i + 1) := Nat.mul_le_mul_right _ a
            _ = W k * V (i + 1) * V j := by rw [Nat.mul_assoc, Nat.mul_comm (V j), ← Nat.mul_assoc]
            _ ≤ W (i + 1) * V k * V j := Nat.mul_le_mul_right _ hc'
            _ = V k * (W (i + 1) * V j) := by rw [Nat.mul_comm (W (i + 1)), Nat.mul_assoc]
        exact Nat.le_of_mul_le_mul_left b (by omega)
      · obtain rfl : j = i + 1 := by omega
        exact Nat.le_refl _
    · rw [if_neg hc]
      have hc' : W (i + 1) * V k < W k * V (i + 1) := by
        have : ((W (i + 1) * V k : Nat) : Int) < ((W k * V (i + 1) : Nat) : Int) := by
          rw [Int.natCast_mul, Int.natCast_mul]
          omega
        omega
      rw [hk]
      refine ⟨⟨by omega, fun j hj => ?_⟩, h3⟩
      rcases Nat.lt_or_ge j (i + 1) with g | g
      · exact h2 j (by omega)
      · obtain rfl : j = i + 1 := by omega
        exact ⟨Nat.le_of_lt hc', fun _ => hc'⟩
theorem red_nat {a b : Nat} (hb : 1 ≤ b) (ha2 : a ≤ 1000000) (hb2 : b ≤ 1000000) : redN (a : Int) (b : Int) = ((a / Nat.gcd a b : Nat) : Int) ∧ redD (a : Int) (b : Int) = ((b / Nat.gcd a b : Nat) : Int) := by
  have eo : oneNeg (a : Int) (b : Int) = false := by
    unfold oneNeg
    rw [decide_eq_false (by omega), decide_eq_false (by omega)]
    rfl
  have e1 : redT (a : Int) (b : Int) = ((a / Nat.gcd a b : Nat) : Int) := by
    unfold redT
    rw [eo]
    simp [sgi]
  have e2 : redB (a : Int) (b : Int) = ((b / Nat.gcd a b : Nat) : Int) := by
    unfold redB
    simp
  have l1 : a / Nat.gcd a b ≤ a := Nat.div_le_self _ _
  have l2 : b / Nat.gcd a b ≤ b := Nat.div_le_self _ _
  have hr : RedOk (a : Int) (b : Int) := by
    unfold RedOk
    rw [e1, e2]
    generalize a / Nat.gcd a b = x at *
    generalize b / Nat.gcd a b = y at *
    exact ⟨⟨by omega, by omega⟩, ⟨by omega, by omega⟩⟩
  unfold redN redD
  rw [if_pos ⟨by omega, hr⟩, if_pos ⟨by omega, hr⟩]
  exact ⟨e1, e2⟩
/-- a fraction in lowest terms, in numbers: p / q = a / b -/
theorem red_facts {a b : Nat} (hb : 1 ≤ b) : 1 ≤ b / Nat.gcd a b ∧ (a / Nat.gcd a b) * b = a * (b / Nat.gcd a b) := by
  have hg : 0 < Nat.gcd a b := Nat.gcd_pos_of_pos_right _ (by omega)
  obtain ⟨x, hx⟩ := Nat.gcd_dvd_left a b
  obtain ⟨y, hy⟩ := Nat.gcd_dvd_right a b
  generalize Nat.gcd a b = g at *
  subst hx hy
  rw [Nat.mul_div_cancel_left _ hg, Nat.mul_div_cancel_left _ hg]
  constructor
  · rcases Nat.eq_zero_or_pos y with e | e
    · subst e; omega
    · exact e
  · rw [Nat.mul_comm g x, Nat.mul_assoc, ← Nat.mul_assoc]
/-- what Densest gives, in plain counts -/
def DensK (w : World) (n : Nat) (E : Es) (e : Ending) (w' : World) : Prop :=
  ((n = 0 ∧ e = .returned (.tuple #[.int .i64 0, .agg #[.int .i64 0, .int .i64 1]])) ∨ (0 < n ∧ ∃ k a b : Nat, IsDens (vge (num E n) n) (ege E (num E n)) (most E n) k ∧ a = ege E (num E n) k ∧ b = vge (num E n) n k ∧ 1 ≤ b ∧ a ≤ 16384 ∧ b ≤ 4096 ∧ e = .returned (.tuple #[.int .i64 (k : Nat), .agg #[.int .i64 (a / Nat.gcd a b : Nat), .int .i64 (b / Nat.gcd a b : Nat)]]))) ∧ Below w.heap.size w w'
theorem vge_pos {E : Es} {n x : Nat} (hn : 0 < n) (hx : x ≤ most E n) : 1 ≤ vge (num E n) n x := by
  obtain ⟨v, hv, e⟩ := (most_is E n).2.1 hn
  exact List.countP_pos_iff.2 ⟨v, by simpa using hv, by simp; omega⟩
theorem dens_congr {V W V' W' : Nat → Nat} : ∀ i, (∀ j, j < i → V j = V' j ∧ W j = W' j) → dens V W i = dens V' W' i
  | 0, _ => rfl
  | i + 1, h => by
    obtain ⟨a, b⟩ := h i (by omega)
    unfold dens
    rw [dens_congr i (fun j hj => h j (by omega)), a, b]
theorem densest_nice {w : World} {K : GB} {n : Nat} {E : Es} (hG : Gr w K n E) :
    Calls Try.prog 22 #[.pointer (some ⟨K.g, 0, none⟩)] w fun e w' => DensK w n E e w' := by
  have hF := hG.fine
  refine (densest_ok hG).mono ?_
  rintro e w' ⟨h, hb⟩
  refine ⟨?_, hb⟩
  rcases h with h | ⟨h0, G, hM, he⟩
  · exact .inl h
  · right
    refine ⟨h0, ?_⟩
    obtain rfl := hM.uniq (most_is E n)
    have e1 : dens (vUp (num E n) n (most E n)) (eUp E (num E n) (most E n)) (most E n + 1) = dens (vge (num E n) n) (ege E (num E n)) (most E n + 1) :=
      dens_congr _ (fun j hj => ⟨vUp_eq hM.1 (by omega), eUp_eq hF hM.1 (by omega)⟩)
    rw [e1] at he
    obtain ⟨h1, h2⟩ := dens_spec (V := vge (num E n) n) (W := ege E (num E n)) (most E n) (fun j hj => vge_pos h0 hj)
    generalize dens (vge (num E n) n) (ege E (num E n)) (most E n + 1) = D at *
    obtain ⟨k, x, y⟩ := D
    simp only [Prod.mk.injEq] at h1 h2 he
    obtain ⟨rfl, rfl⟩ := h2
    have hb1 := vge_pos h0 h1.1
    have la : ege E (num E n) k ≤ 16384 := Nat.le_trans List.countP_le_length hF.2.1
    have lb : vge (num E n) n k ≤ 4096 := by
      have := List.countP_le_length (p := fun v => decide (k ≤ num E n v)) (l := List.range n)
      rw [List.length_range] at this
      exact Nat.le_trans this hF.1
    obtain ⟨r1, r2⟩ := red_nat (a := ege E (num E n) k) hb1 (by omega) (by omega)
    rw [r1, r2] at he
    exact ⟨k, _, _, h1, rfl, rfl, hb1, la, lb, he⟩
end Go.Proofs.Ytoiafopndlnknaa
