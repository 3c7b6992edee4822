/-
  Plain arithmetic of Fenwick trees: the lowest bit of a number, which places cover an index, prefix sums.
-/
set_option linter.unusedVariables false
set_option linter.unusedSimpArgs false
namespace Go.Proofs.Ytjikfmacdacgaaa.Fw

/-- the lowest bit that is set -/
def lb (p : Nat) : Nat := p - (p &&& (p - 1))

theorem land_odd (q : Nat) : (2 * q + 1) &&& (2 * q) = 2 * q := by
  apply Nat.eq_of_testBit_eq
  intro i
  rw [Nat.testBit_and]
  cases i with
  | zero => simp
  | succ i =>
    rw [Nat.testBit_succ, Nat.testBit_succ]
    have h1 : (2 * q + 1) / 2 = q := by omega
    have h2 : (2 * q) / 2 = q := by omega
    rw [h1, h2, Bool.and_self]

theorem land_even (q : Nat) (hq : 0 < q) : (2 * q) &&& (2 * q - 1) = 2 * (q &&& (q - 1)) := by
  apply Nat.eq_of_testBit_eq
  intro i
  rw [Nat.testBit_and]
  cases i with
  | zero => simp
  | succ i =>
    rw [Nat.testBit_succ, Nat.testBit_succ, Nat.testBit_succ]
    have h1 : (2 * q - 1) / 2 = q - 1 := by omega
    have h2 : (2 * q) / 2 = q := by omega
    have h3 : 2 * (q &&& (q - 1)) / 2 = q &&& (q - 1) := by omega
    rw [h1, h2, h3, Nat.testBit_and]

theorem lb_odd (q : Nat) : lb (2 * q + 1) = 1 := by
  unfold lb
  rw [Nat.add_sub_cancel, land_odd]
  omega

theorem land_le (p : Nat) : p &&& (p - 1) ≤ p := Nat.and_le_left

theorem lb_even (q : Nat) (hq : 0 < q) : lb (2 * q) = 2 * lb q := by
  unfold lb
  rw [land_even q hq]
  have := land_le q
  omega

/-- the shape of a number above 0 -/
theorem shape (p : Nat) (hp : 0 < p) : ∃ k m, p = 2 ^ k * (2 * m + 1) ∧ lb p = 2 ^ k := by
  induction p using Nat.strongRecOn with
  | ind p ih =>
    rcases Nat.mod_two_eq_zero_or_one p with h | h
    · have hp2 : p = 2 * (p / 2) := by omega
      obtain ⟨k, m, h1, h2⟩ := ih (p / 2) (by omega) (by omega)
      refine ⟨k + 1, m, ?_, ?_⟩
      · rw [Nat.pow_succ, Nat.mul_comm (2 ^ k) 2, Nat.mul_assoc, ← h1]
        exact hp2
      · have h3 := lb_even (p / 2) (by omega)
        rw [← hp2] at h3
        rw [h3, h2, Nat.pow_succ, Nat.mul_comm]
    · refine ⟨0, p / 2, by omega, ?_⟩
      have hp2 : p = 2 * (p / 2) + 1 := by omega
      rw [hp2, lb_odd]

theorem lb_shape (k m : Nat) : lb (2 ^ k * (2 * m + 1)) = 2 ^ k := by
  induction k with
  | zero => simp [lb_odd]
  | succ k ih =>
    have h : 2 ^ (k + 1) * (2 * m + 1) = 2 * (2 ^ k * (2 * m + 1)) := by
      rw [Nat.pow_succ, Nat.mul_comm (2 ^ k) 2, Nat.mul_assoc]
    have hpos : 0 < 2 ^ k * (2 * m + 1) := Nat.mul_pos (Nat.two_pow_pos k) (by omega)
    rw [h, lb_even _ hpos, ih, Nat.pow_succ, Nat.mul_comm]

theorem lb_zero : lb 0 = 0 := by simp [lb]

theorem lb_pos {p : Nat} (hp : 0 < p) : 0 < lb p := by
  obtain ⟨k, m, _, h2⟩ := shape p hp
  rw [h2]; exact Nat.two_pow_pos k

theorem lb_le (p : Nat) : lb p ≤ p := Nat.sub_le _ _

theorem land_pred (p : Nat) : p &&& (p - 1) = p - lb p := by
  unfold lb
  have := land_le p
  omega

/-- the next place has at least twice the lowest bit -/
theorem lb_next {p : Nat} (hp : 0 < p) : 2 * lb p ≤ lb (p + lb p) := by
  obtain ⟨k, m, h1, h2⟩ := shape p hp
  have h3 : p + lb p = 2 ^ (k + 1) * (m + 1) := by
    rw [h2, Nat.pow_succ, h1, Nat.mul_assoc, ← Nat.mul_add_one]
    congr 1
  rw [h3, h2]
  obtain ⟨j, t, h4, h5⟩ := shape (m + 1) (by omega)
  have h6 : 2 ^ (k + 1) * (m + 1) = 2 ^ (k + 1 + j) * (2 * t + 1) := by
    rw [h4, Nat.pow_add _ (k + 1) j, Nat.mul_assoc]
  rw [h6, lb_shape, Nat.pow_add, Nat.pow_succ]
  have hj := Nat.two_pow_pos j
  have hk := Nat.two_pow_pos k
  calc 2 * 2 ^ k = 2 ^ k * 2 * 1 := by omega
    _ ≤ 2 ^ k * 2 * 2 ^ j := Nat.mul_le_mul_left _ hj

/-- between a place and the next one the lowest bits are those of the difference -/
theorem lb_between {p r : Nat} (hp : 0 < p) (hr : 0 < r) (hlt : r < lb p) : lb (p + r) = lb r := by
  obtain ⟨k, m, h1, h2⟩ := shape p hp
  obtain ⟨j, t, h3, h4⟩ := shape r hr
  have hjk : j < k := by
    rw [h2, h3] at hlt
    have h5 : 2 ^ j ≤ 2 ^ j * (2 * t + 1) := Nat.le_mul_of_pos_right _ (by omega)
    exact (Nat.pow_lt_pow_iff_right (by omega)).1 (Nat.lt_of_le_of_lt h5 hlt)
  obtain ⟨c, rfl⟩ : ∃ c, k = j + 1 + c := ⟨k - j - 1, by omega⟩
  have h6 : p + r = 2 ^ j * (2 * (2 ^ c * (2 * m + 1) + t) + 1) := by
    rw [h1, h3, Nat.pow_add, Nat.pow_succ]
    simp only [Nat.mul_add, Nat.add_mul, Nat.mul_assoc, Nat.one_mul, Nat.mul_comm, Nat.mul_left_comm]
    omega
  rw [h6, lb_shape, h4]

/-- place q covers index i -/
def Cov (q i : Nat) : Prop := q - lb q ≤ i ∧ i < q

instance (q i : Nat) : Decidable (Cov q i) := by unfold Cov; infer_instance

theorem cov_first (i : Nat) : Cov (i + 1) i := by
  have := lb_pos (p := i + 1) (by omega)
  exact ⟨by omega, by omega⟩

theorem cov_next {p i : Nat} (h : Cov p i) : Cov (p + lb p) i := by
  obtain ⟨h1, h2⟩ := h
  have h3 := lb_next (p := p) (by omega)
  have h4 := lb_le p
  exact ⟨by omega, by omega⟩

theorem not_cov_low {q i : Nat} (h : q ≤ i) : ¬ Cov q i := fun h2 => by have := h2.2; omega

theorem not_cov_between {p q i : Nat} (h : Cov p i) (h1 : p < q) (h2 : q < p + lb p) : ¬ Cov q i := by
  intro hq
  have h3 := lb_between (p := p) (r := q - p) (by have := h.2; omega) (by omega) (by omega)
  rw [show p + (q - p) = q by omega] at h3
  have h4 := lb_le (q - p)
  have h5 := hq.1
  have h6 := h.2
  omega

/-- the sum of the first k values -/
def pre (C : Nat → Int) : Nat → Int
  | 0 => 0
  | k + 1 => pre C k + C k

/-- what the tree holds at a place -/
def tree (C : Nat → Int) (p : Nat) : Int := pre C p - pre C (p - lb p)

/-- one value changed by d -/
def upd (C : Nat → Int) (i : Nat) (d : Int) : Nat → Int := fun j => if j = i then C j + d else C j

theorem pre_upd (C : Nat → Int) (i : Nat) (d : Int) (k : Nat) : pre (upd C i d) k = pre C k + (if i < k then d else 0) := by
  induction k with
  | zero => simp [pre]
  | succ k ih =>
    simp only [pre, ih, upd]
    by_cases h1 : k = i
    · subst h1
      simp; omega
    · simp only [h1, if_false]
      by_cases h2 : i < k
      · rw [if_pos h2, if_pos (by omega)]; omega
      · rw [if_neg h2, if_neg (by omega)]; omega

theorem tree_upd (C : Nat → Int) (i : Nat) (d : Int) (q : Nat) : tree (upd C i d) q = tree C q + (if Cov q i then d else 0) := by
  unfold tree
  rw [pre_upd, pre_upd]
  have := lb_le q
  by_cases h1 : i < q
  · by_cases h2 : i < q - lb q
    · rw [if_pos h1, if_pos h2, if_neg (fun h => by have := h.1; omega)]; omega
    · rw [if_pos h1, if_neg h2, if_pos ⟨by omega, h1⟩]; omega
  · rw [if_neg h1, if_neg (by omega), if_neg (fun h => h1 h.2)]; omega

theorem pre_congr {C D : Nat → Int} (k : Nat) (h : ∀ j, j < k → C j = D j) : pre C k = pre D k := by
  induction k with
  | zero => rfl
  | succ k ih => simp only [pre]; rw [ih (fun j hj => h j (by omega)), h k (by omega)]

theorem pre_mono {C : Nat → Int} {n : Nat} (h : ∀ j, j < n → 0 ≤ C j) (a b : Nat) (hab : a ≤ b) (hb : b ≤ n) : pre C a ≤ pre C b := by
  induction b with
  | zero => have : a = 0 := by omega
            subst this; exact Int.le_refl _
  | succ b ih =>
    by_cases hc : a = b + 1
    · subst hc; exact Int.le_refl _
    · have h1 := ih (by omega) (by omega)
      have h2 := h b (by omega)
      simp only [pre]; omega

theorem tree_nonneg {C : Nat → Int} {n : Nat} (h : ∀ j, j < n → 0 ≤ C j) (p : Nat) (hp : p ≤ n) : 0 ≤ tree C p := by
  have := pre_mono h (p - lb p) p (Nat.sub_le _ _) hp
  unfold tree; omega

theorem pre_nonneg {C : Nat → Int} {n : Nat} (h : ∀ j, j < n → 0 ≤ C j) (p : Nat) (hp : p ≤ n) : 0 ≤ pre C p := by
  have := pre_mono h 0 p (Nat.zero_le _) hp
  simpa [pre] using this

theorem tree_le {C : Nat → Int} {n : Nat} (h : ∀ j, j < n → 0 ≤ C j) (p : Nat) (hp : p ≤ n) : tree C p ≤ pre C n := by
  have h1 := pre_mono h p n hp (Nat.le_refl _)
  have h2 := pre_nonneg h (p - lb p) (by omega)
  unfold tree; omega

/-- the step of the descent: at is a multiple of twice the width -/
theorem tree_at (C : Nat → Int) (j c : Nat) : tree C (2 ^ (j + 1) * c + 2 ^ j) = pre C (2 ^ (j + 1) * c + 2 ^ j) - pre C (2 ^ (j + 1) * c) := by
  unfold tree
  have h : 2 ^ (j + 1) * c + 2 ^ j = 2 ^ j * (2 * c + 1) := by
    rw [Nat.pow_succ, Nat.mul_assoc, Nat.mul_add_one]
  have h2 : lb (2 ^ (j + 1) * c + 2 ^ j) = 2 ^ j := by rw [h, lb_shape]
  rw [h2, Nat.add_sub_cancel]

theorem neg_eq_not_pred (x : BitVec 64) : -x = ~~~(x - 1#64) := by
  have h := BitVec.neg_eq_not_add (x - 1#64)
  have h2 : ~~~(x - 1#64) = -(x - 1#64) - 1#64 := by rw [h, BitVec.add_sub_cancel]
  rw [h2, BitVec.neg_sub, BitVec.sub_eq_add_neg, BitVec.add_assoc]
  rw [show (1#64 : BitVec 64) + -1#64 = 0#64 from by decide, BitVec.add_zero]

theorem and_neg (x : BitVec 64) : x &&& -x = x - (x &&& (x - 1#64)) := by
  rw [neg_eq_not_pred]
  generalize x - 1#64 = y
  have h0 : (x &&& ~~~y) &&& (x &&& y) = 0#64 := by
    ext i; simp; intro a b c; simp_all
  have h1 := BitVec.add_eq_or_of_and_eq_zero _ _ h0
  have h2 : (x &&& ~~~y) ||| (x &&& y) = x := by
    ext i; simp; cases x[i] <;> cases y[i] <;> rfl
  rw [h2] at h1
  have h3 : (x &&& ~~~y) + (x &&& y) - (x &&& y) = x - (x &&& y) := by rw [h1]
  rw [BitVec.add_sub_cancel] at h3
  exact h3

theorem and_neg_nat (p : Nat) (h0 : 0 < p) (h1 : p < 9223372036854775808) : (BitVec.ofInt 64 (p : Int) &&& BitVec.ofInt 64 (-(p : Int))).toNat = p - (p &&& (p - 1)) := by
  rw [BitVec.ofInt_neg, and_neg, BitVec.toNat_sub, BitVec.toNat_and]
  have h2 : (BitVec.ofInt 64 (p : Int)).toNat = p := by
    rw [BitVec.ofInt_natCast, BitVec.toNat_ofNat]; exact Nat.mod_eq_of_lt (by omega)
  have h3 : (BitVec.ofInt 64 (p : Int) - 1#64).toNat = p - 1 := by
    rw [BitVec.toNat_sub, h2]; simp; omega
  rw [h2, h3]
  have := @Nat.and_le_left p (p - 1)
  omega

def IsDown : Nat → List Nat → Prop
  | k, [] => k = 0
  | k, x :: xs => x = k ∧ 0 < k ∧ IsDown (k - lb k) xs

/-- a place, held within the bounds -/
def cl (n p : Nat) : Nat := min p n
theorem cl_le (n p : Nat) : cl n p ≤ n := Nat.min_le_right _ _
theorem cl_eq {n p : Nat} (h : p ≤ n) : cl n p = p := Nat.min_eq_left h

def IsUp (n : Nat) : Nat → List Nat → Prop
  | i, [] => n < i
  | i, x :: xs => x = i ∧ i ≤ n ∧ IsUp n (i + lb i) xs

/-- counters that may be -/
structure GoodC (n : Nat) (C : Nat → Int) : Prop where
  nn : ∀ j, j < n → 0 ≤ C j
  tot : pre C n ≤ 9223372036854775807

theorem GoodC.pre_le {n : Nat} {C : Nat → Int} (g : GoodC n C) {k : Nat} (hk : k ≤ n) : pre C k ≤ 9223372036854775807 := by
  have := pre_mono g.nn k n hk (Nat.le_refl _)
  have := g.tot
  omega
theorem GoodC.pre_nn {n : Nat} {C : Nat → Int} (g : GoodC n C) {k : Nat} (hk : k ≤ n) : 0 ≤ pre C k := pre_nonneg g.nn k hk
theorem GoodC.le {n : Nat} {C : Nat → Int} (g : GoodC n C) {k : Nat} (hk : k < n) : C k ≤ 9223372036854775807 := by
  have h1 := g.pre_le (k := k + 1) hk
  have h2 := g.pre_nn (k := k) (by omega)
  simp only [pre] at h1
  omega

def w64 (n : Int) : Int := (n + 9223372036854775808) % 18446744073709551616 - 9223372036854775808
theorem w64_eq {n : Int} (h0 : -9223372036854775808 ≤ n) (h1 : n ≤ 9223372036854775807) : w64 n = n := by unfold w64; omega

theorem down_sum {n : Nat} {C : Nat → Int} (g : GoodC n C) : ∀ (xs : List Nat) (k : Nat) (s : Int), IsDown k xs → k ≤ n → 0 ≤ s → s + pre C k ≤ 9223372036854775807 →
    xs.foldl (fun s x => w64 (s + tree C (cl n x))) s = s + pre C k := by
  intro xs
  induction xs with
  | nil => intro k s h _ _ _; obtain rfl : k = 0 := h; simp [pre]
  | cons x xs ih =>
    intro k s h hk h0 h1
    obtain ⟨rfl, hx, hr⟩ := h
    have h2 := pre_nonneg g.nn (x - lb x) (by omega)
    have h3 := tree_nonneg g.nn x hk
    have h4 : tree C x = pre C x - pre C (x - lb x) := rfl
    rw [List.foldl_cons, cl_eq hk, w64_eq (by omega) (by omega), ih (x - lb x) _ hr (by omega) (by omega) (by omega)]
    omega

/-- the tree behind some places, wraps and all -/
def upT (t : Nat → Int) (d : Int) (n : Nat) (l : List Nat) : Nat → Int := l.foldl (fun t x => fun q => if q = cl n x then w64 (t q + d) else t q) t
theorem upT_snoc (t : Nat → Int) (d : Int) (n : Nat) (l : List Nat) (x : Nat) : upT t d n (l ++ [x]) = fun q => if q = cl n x then w64 (upT t d n l q + d) else upT t d n l q := by
  simp [upT]

theorem up_tree {n i : Nat} {d : Int} : ∀ (xs : List Nat) (p : Nat) (t : Nat → Int), IsUp n p xs → Cov p i →
    (∀ q, q ≤ n → p ≤ q → Cov q i → -9223372036854775808 ≤ t q + d ∧ t q + d ≤ 9223372036854775807) →
    ∀ q, q ≤ n → upT t d n xs q = t q + (if p ≤ q ∧ Cov q i then d else 0) := by
  intro xs
  induction xs with
  | nil => intro p t h _ _ q hq; have h : n < p := h; rw [if_neg (fun hh => by omega)]; simp [upT]
  | cons x xs ih =>
    intro p t h hc hr q hq
    obtain ⟨rfl, hx, hrest⟩ := h
    have hl := lb_pos (p := x) (by have := hc.2; omega)
    unfold upT
    rw [List.foldl_cons, cl_eq hx]
    have h0 := ih (x + lb x) (fun q => if q = x then w64 (t q + d) else t q) hrest (cov_next hc) (fun q h1 h2 h3 => by
      show -9223372036854775808 ≤ (if q = x then w64 (t q + d) else t q) + d ∧ _
      rw [if_neg (by omega)]
      exact hr q h1 (by omega) h3) q hq
    unfold upT at h0
    rw [h0]
    by_cases h1 : q = x
    · subst h1
      have := hr q hq (Nat.le_refl _) hc
      rw [if_pos rfl, if_neg (fun hh => by omega), if_pos ⟨Nat.le_refl _, hc⟩, w64_eq (by omega) (by omega)]
      omega
    · rw [if_neg h1]
      by_cases h2 : x + lb x ≤ q
      · by_cases h3 : Cov q i
        · rw [if_pos ⟨h2, h3⟩, if_pos ⟨by omega, h3⟩]
        · rw [if_neg (fun hh => h3 hh.2), if_neg (fun hh => h3 hh.2)]
      · rw [if_neg (fun hh => h2 hh.1)]
        by_cases h4 : x < q
        · rw [if_neg (fun hh => not_cov_between hc h4 (by omega) hh.2)]
        · rw [if_neg (fun hh => by omega)]

theorem good_upd {n i : Nat} {C : Nat → Int} {d : Int} (g : GoodC n C) (hi : i < n) (h0 : 0 ≤ C i + d) (h1 : pre C n + d ≤ 9223372036854775807) : GoodC n (upd C i d) := by
  refine ⟨fun j hj => ?_, ?_⟩
  · unfold upd
    split
    · rename_i h; subst h; exact h0
    · exact g.nn j hj
  · rw [pre_upd, if_pos hi]; exact h1

theorem up_all {n i : Nat} {C : Nat → Int} {d : Int} (g : GoodC n C) (hi : i < n) (h0 : 0 ≤ C i + d) (h1 : pre C n + d ≤ 9223372036854775807) {xs : List Nat} (h : IsUp n (i + 1) xs) (q : Nat) (hq : q ≤ n) :
    upT (tree C) d n xs q = tree (upd C i d) q := by
  have g' := good_upd g hi h0 h1
  rw [up_tree xs (i + 1) _ h (cov_first i) (fun q hq hp hc => ?_) q hq, tree_upd]
  · by_cases hc : Cov q i
    · rw [if_pos hc, if_pos ⟨by have := hc.2; omega, hc⟩]
    · rw [if_neg hc, if_neg (fun hh => hc hh.2)]
  · have h2 := tree_nonneg g'.nn q hq
    have h3 := tree_le g'.nn q hq
    have h4 := g'.tot
    have h5 := tree_upd C i d q
    rw [if_pos hc] at h5
    omega

/-- counter i holds the x-th unit -/
def Found (C : Nat → Int) (n : Nat) (x : Int) (i : Nat) : Prop := i < n ∧ pre C i ≤ x ∧ x < pre C (i + 1)

theorem found_ex (C : Nat → Int) (x : Int) (h0 : 0 ≤ x) : ∀ n, x < pre C n → ∃ i, Found C n x i := by
  intro n
  induction n with
  | zero => intro h; simp [pre] at h; omega
  | succ n ih =>
    intro h
    by_cases hx : x < pre C n
    · obtain ⟨i, h1, h2, h3⟩ := ih hx
      exact ⟨i, by omega, h2, h3⟩
    · exact ⟨n, by omega, by omega, h⟩

theorem found_uniq {C : Nat → Int} {n : Nat} {x : Int} {i j : Nat} (nn : ∀ j, j < n → 0 ≤ C j) (h : Found C n x i) (k : Found C n x j) : i = j := by
  obtain ⟨h1, h2, h3⟩ := h
  obtain ⟨k1, k2, k3⟩ := k
  rcases Nat.lt_trichotomy i j with hl | hl | hl
  · have := pre_mono nn (i + 1) j (by omega) (by omega); omega
  · exact hl
  · have := pre_mono nn (j + 1) i (by omega) (by omega); omega

end Go.Proofs.Ytjikfmacdacgaaa.Fw
