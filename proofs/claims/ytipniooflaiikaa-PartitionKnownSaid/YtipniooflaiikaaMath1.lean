/-
  Plain mathematics of partitions: least elements, canonical labels, meets.
-/
set_option linter.unusedVariables false
set_option linter.unusedSimpArgs false
namespace Go.Proofs.Ytipniooflaiikaa

/-- the least number below n of which p is true, or n -/
def low (p : Nat → Bool) : Nat → Nat
  | 0 => 0
  | n + 1 => if low p n < n then low p n else if p n then n else n + 1
theorem low_le (p : Nat → Bool) : ∀ n, low p n ≤ n
  | 0 => Nat.le_refl _
  | n + 1 => by
    have := low_le p n
    simp only [low]
    split
    · omega
    · split <;> omega
theorem low_min {p : Nat → Bool} : ∀ {n j : Nat}, j < low p n → p j = false
  | 0, j, h => by simp [low] at h
  | n + 1, j, h => by
    have hl := low_le p n
    simp only [low] at h
    split at h
    · exact low_min h
    · split at h
      · exact low_min (n := n) (by omega)
      · rename_i h1 h2
        rcases Nat.lt_or_ge j n with h3 | h3
        · exact low_min (n := n) (by omega)
        · obtain rfl : j = n := by omega
          simpa using h2
theorem low_is {p : Nat → Bool} : ∀ {n : Nat}, low p n < n → p (low p n) = true
  | 0, h => by omega
  | n + 1, h => by
    simp only [low] at h ⊢
    split
    · rename_i h1; exact low_is h1
    · rename_i h1
      rw [if_neg h1] at h
      split
      · assumption
      · rename_i h2; rw [if_neg h2] at h; omega
theorem low_of {p : Nat → Bool} {n i : Nat} (hi : i ≤ n) (h1 : ∀ j, j < i → p j = false) (h2 : i < n → p i = true) : low p n = i := by
  rcases Nat.lt_trichotomy (low p n) i with h | h | h
  · have := low_is (p := p) (n := n) (by omega)
    rw [h1 _ h] at this; cases this
  · exact h
  · have := low_min h
    have hl := low_le p n
    rw [h2 (by omega)] at this; cases this
theorem low_congr {p q : Nat → Bool} {n : Nat} (h : ∀ j, j < n → p j = q j) : low p n = low q n := by
  have hl := low_le q n
  exact low_of hl (fun j hj => by rw [h j (by omega)]; exact low_min hj) (fun hn => by rw [h _ hn]; exact low_is hn)

/-- the first element that is as element i, by e -/
def can (e : Nat → Nat → Bool) (i : Nat) : Nat := low (fun j => e j i) i
/-- e is an equivalence of the first n -/
structure Eqv (e : Nat → Nat → Bool) (n : Nat) : Prop where
  refl : ∀ i, i < n → e i i = true
  symm : ∀ i j, i < n → j < n → e i j = true → e j i = true
  trans : ∀ i j k, i < n → j < n → k < n → e i j = true → e j k = true → e i k = true
theorem can_le (e : Nat → Nat → Bool) (i : Nat) : can e i ≤ i := low_le _ _
theorem can_is {e : Nat → Nat → Bool} {n i : Nat} (h : Eqv e n) (hi : i < n) : e (can e i) i = true := by
  rcases Nat.lt_or_ge (can e i) i with h1 | h1
  · exact low_is h1
  · have := can_le e i
    rw [show can e i = i by omega]; exact h.refl i hi
theorem can_min {e : Nat → Nat → Bool} {i j : Nat} (h : j < can e i) : e j i = false := low_min (p := fun j => e j i) h
theorem can_eq {e : Nat → Nat → Bool} {n i j : Nat} (h : Eqv e n) (hi : i < n) (hj : j < n) : can e i = can e j ↔ e i j = true := by
  have hci := can_le e i
  have hcj := can_le e j
  constructor
  · intro h1
    have h2 := can_is h hi
    have h3 := can_is h hj
    rw [← h1] at h3
    exact h.trans _ _ _ hi (by omega) hj (h.symm _ _ (by omega) hi h2) h3
  · intro h1
    rcases Nat.lt_trichotomy (can e i) (can e j) with h2 | h2 | h2
    · have h3 := can_min h2
      rw [h.trans _ _ _ (by omega) hi hj (can_is h hi) h1] at h3; cases h3
    · exact h2
    · have h3 := can_min h2
      rw [h.trans _ _ _ (by omega) hj hi (can_is h hj) (h.symm _ _ hi hj h1)] at h3; cases h3
/-- canonical labels -/
def Can (a : Nat → Nat) (n : Nat) : Prop := ∀ i, i < n → a i ≤ i ∧ a (a i) = a i
theorem can_can {e : Nat → Nat → Bool} {n : Nat} (h : Eqv e n) : Can (can e) n := fun i hi => by
  have hl := can_le e i
  exact ⟨hl, (can_eq h (by omega) hi).2 (can_is h hi)⟩
/-- canonical labels are their own first elements -/
theorem can_self {a : Nat → Nat} {n i : Nat} (h : Can a n) (hi : i < n) : can (fun j k => decide (a j = a k)) i = a i := by
  obtain ⟨h1, h2⟩ := h i hi
  refine low_of h1 (fun j hj => ?_) (fun _ => by simpa using h2)
  have h3 := (h j (by omega)).1
  simp; omega
theorem eqv_of {α : Type} [DecidableEq α] (f : Nat → α) (n : Nat) : Eqv (fun j k => decide (f j = f k)) n :=
  ⟨fun _ _ => by simp, fun _ _ _ _ h => by simp at h ⊢; exact h.symm, fun _ _ _ _ _ _ h k => by simp at h k ⊢; exact h.trans k⟩
/-- the meet of two partitions -/
def meetE (a b : Nat → Nat) : Nat → Nat → Bool := fun j k => decide ((a j, b j) = (a k, b k))
def mt (a b : Nat → Nat) : Nat → Nat := can (meetE a b)
theorem meet_eqv (a b : Nat → Nat) (n : Nat) : Eqv (meetE a b) n := eqv_of (fun j => (a j, b j)) n
theorem mt_eq {a b : Nat → Nat} {i j : Nat} : mt a b i = mt a b j ↔ a i = a j ∧ b i = b j := by
  rw [show (mt a b i = mt a b j ↔ _) from can_eq (meet_eqv a b (i + j + 1)) (by omega) (by omega)]
  simp [meetE]
theorem mt_can (a b : Nat → Nat) (n : Nat) : Can (mt a b) n := can_can (meet_eqv a b n)
theorem mt_is (a b : Nat → Nat) (i : Nat) : a (mt a b i) = a i ∧ b (mt a b i) = b i := by
  have := can_is (meet_eqv a b (i + 1)) (show i < i + 1 by omega)
  simpa [meetE, mt] using this

/-- a refines b -/
def Ref (a b : Nat → Nat) (n : Nat) : Prop := ∀ i, i < n → b (a i) = b i
theorem ref_iff {a b : Nat → Nat} {n : Nat} (ha : Can a n) : Ref a b n ↔ ∀ i j, j < i → i < n → a i = a j → b i = b j := by
  constructor
  · intro h i j hj hi e
    rw [← h i hi, ← h j (by omega), e]
  · intro h i hi
    obtain ⟨h1, h2⟩ := ha i hi
    rcases Nat.lt_or_ge (a i) i with h3 | h3
    · exact (h i (a i) h3 hi h2.symm).symm
    · rw [show a i = i by omega]

/-! joins -/
/-- connected by steps of R -/
inductive Con (R : Nat → Nat → Prop) : Nat → Nat → Prop
  | refl (i : Nat) : Con R i i
  | step {i j : Nat} : R i j → Con R i j
  | symm {i j : Nat} : Con R i j → Con R j i
  | trans {i j k : Nat} : Con R i j → Con R j k → Con R i k
theorem Con.mono {R S : Nat → Nat → Prop} (h : ∀ i j, R i j → Con S i j) {i j : Nat} (c : Con R i j) : Con S i j := by
  induction c with
  | refl i => exact .refl i
  | step r => exact h _ _ r
  | symm _ ih => exact .symm ih
  | trans _ _ ih1 ih2 => exact .trans ih1 ih2
theorem Con.same {R : Nat → Nat → Prop} {f : Nat → Nat} (h : ∀ i j, R i j → f i = f j) {i j : Nat} (c : Con R i j) : f i = f j := by
  induction c with
  | refl i => rfl
  | step r => exact h _ _ r
  | symm _ ih => exact ih.symm
  | trans _ _ ih1 ih2 => exact ih1.trans ih2
/-- two of the first n, in one class of a or of b -/
def Near (a b : Nat → Nat) (n : Nat) (i j : Nat) : Prop := i < n ∧ j < n ∧ (a i = a j ∨ b i = b j)
/-- c is the join -/
structure IsJoin (a b : Nat → Nat) (n : Nat) (c : Nat → Nat) : Prop where
  le : ∀ i, i < n → c i ≤ i
  con : ∀ i, i < n → Con (Near a b n) (c i) i
  same : ∀ i j, Near a b n i j → c i = c j
theorem IsJoin.unique {a b c d : Nat → Nat} {n : Nat} (h : IsJoin a b n c) (k : IsJoin a b n d) {i : Nat} (hi : i < n) : c i = d i := by
  have h1 := h.le i hi
  have k1 := k.le i hi
  have h2 := (h.con i hi).same (fun x y r => k.same x y r)
  have k2 := (k.con i hi).same (fun x y r => h.same x y r)
  have h3 := k.le (c i) (by omega)
  have k3 := h.le (d i) (by omega)
  omega
theorem IsJoin.can {a b c : Nat → Nat} {n : Nat} (h : IsJoin a b n c) : Can c n := fun i hi => ⟨h.le i hi, (h.con i hi).same (fun x y r => h.same x y r)⟩
theorem IsJoin.swap {a b c : Nat → Nat} {n : Nat} (h : IsJoin a b n c) : IsJoin b a n c :=
  ⟨h.le, fun i hi => (h.con i hi).mono (fun x y r => .step ⟨r.1, r.2.1, r.2.2.symm⟩), fun i j r => h.same i j ⟨r.1, r.2.1, r.2.2.symm⟩⟩
theorem IsJoin.congr {a b a' b' c : Nat → Nat} {n : Nat} (h : IsJoin a b n c) (ha : ∀ i, i < n → a i = a' i) (hb : ∀ i, i < n → b i = b' i) : IsJoin a' b' n c := by
  have key : ∀ x y, Near a b n x y → Near a' b' n x y := fun x y r => ⟨r.1, r.2.1, by rw [← ha x r.1, ← ha y r.2.1, ← hb x r.1, ← hb y r.2.1]; exact r.2.2⟩
  exact ⟨h.le, fun i hi => (h.con i hi).mono (fun x y r => .step (key x y r)), fun x y r => h.same x y ⟨r.1, r.2.1, by rw [ha x r.1, ha y r.2.1, hb x r.1, hb y r.2.1]; exact r.2.2⟩⟩

/-! chains: each element points to one that is not greater; r is where its chain ends -/
structure Chain (c r : Nat → Nat) (n : Nat) : Prop where
  le : ∀ i, i < n → c i ≤ i
  rle : ∀ i, i < n → r i ≤ i
  end_ : ∀ i, i < n → c (r i) = r i
  next : ∀ i, i < n → r (c i) = r i
  top : ∀ i, i < n → c i = i → r i = i
/-- f with one value more -/
def upd (f : Nat → Nat) (i v : Nat) : Nat → Nat := fun j => if j = i then v else f j
theorem upd_at (f : Nat → Nat) (i v : Nat) : upd f i v i = v := if_pos rfl
theorem upd_ne (f : Nat → Nat) {i j : Nat} (v : Nat) (h : j ≠ i) : upd f i v j = f j := if_neg h
theorem Chain.halve {c r : Nat → Nat} {n x : Nat} (h : Chain c r n) (hx : x < n) : Chain (upd c x (c (c x))) r n := by
  have h1 := h.le x hx
  have h2 := h.le (c x) (by omega)
  refine ⟨fun i hi => ?_, h.rle, fun i hi => ?_, fun i hi => ?_, fun i hi e => ?_⟩
  · by_cases e : i = x
    · subst e; rw [upd_at]; omega
    · rw [upd_ne _ _ e]; exact h.le i hi
  · have h3 := h.rle i hi
    by_cases e : r i = x
    · have h4 := h.end_ i hi
      rw [e, upd_at]
      rw [e] at h4
      rw [h4, h4]
    · rw [upd_ne _ _ e]; exact h.end_ i hi
  · by_cases e : i = x
    · subst e; rw [upd_at, h.next _ (by omega), h.next _ hi]
    · rw [upd_ne _ _ e]; exact h.next i hi
  · by_cases e2 : i = x
    · subst e2; rw [upd_at] at e; exact h.top _ hi (by omega)
    · rw [upd_ne _ _ e2] at e; exact h.top i hi e
theorem Chain.of_can {a : Nat → Nat} {n : Nat} (h : Can a n) : Chain a a n :=
  ⟨fun i hi => (h i hi).1, fun i hi => (h i hi).1, fun i hi => (h i hi).2, fun i hi => (h i hi).2, fun i hi e => e⟩
/-- two ends made one -/
def union (r : Nat → Nat) (x y : Nat) : Nat → Nat := fun i => if r i = max x y then min x y else r i
theorem Chain.union {c r : Nat → Nat} {n i j : Nat} (h : Chain c r n) (hi : i < n) (hj : j < n) : Chain (upd c (max (r i) (r j)) (min (r i) (r j))) (union r (r i) (r j)) n := by
  have hri := h.rle i hi
  have hrj := h.rle j hj
  have ei := h.end_ i hi
  have ej := h.end_ j hj
  have rri : r (r i) = r i := h.top _ (by omega) ei
  have rrj : r (r j) = r j := h.top _ (by omega) ej
  generalize hx : r i = x at *
  generalize hy : r j = y at *
  have hmx : r (max x y) = max x y := by
    rcases Nat.le_total x y with k | k
    · rw [Nat.max_eq_right k]; exact rrj
    · rw [Nat.max_eq_left k]; exact rri
  have hmn : r (min x y) = min x y := by
    rcases Nat.le_total x y with k | k
    · rw [Nat.min_eq_left k]; exact rri
    · rw [Nat.min_eq_right k]; exact rrj
  have cmn : c (min x y) = min x y := by
    rcases Nat.le_total x y with k | k
    · rw [Nat.min_eq_left k]; exact ei
    · rw [Nat.min_eq_right k]; exact ej
  have hle : min x y ≤ max x y := by omega
  have hlt : max x y < n := by omega
  have cmx : c (max x y) = max x y := by
    rcases Nat.le_total x y with k | k
    · rw [Nat.max_eq_right k]; exact ej
    · rw [Nat.max_eq_left k]; exact ei
  unfold Ytipniooflaiikaa.union
  generalize max x y = M at *
  generalize min x y = N at *
  refine ⟨fun k hk => ?_, fun k hk => ?_, fun k hk => ?_, fun k hk => ?_, fun k hk e => ?_⟩
  · by_cases e : k = M
    · subst e; rw [upd_at]; exact hle
    · rw [upd_ne _ _ e]; exact h.le k hk
  · have := h.rle k hk
    split <;> omega
  · have h3 := h.rle k hk
    have h4 := h.end_ k hk
    split
    · by_cases e : N = M
      · rw [e, upd_at]
      · rw [upd_ne _ _ e]; exact cmn
    · rename_i hne
      rw [upd_ne _ _ hne]; exact h4
  · by_cases e : k = M
    · subst e
      rw [upd_at, hmn, hmx, if_pos rfl]
      split <;> rfl
    · rw [upd_ne _ _ e, h.next k hk]
  · by_cases e2 : k = M
    · subst e2
      rw [upd_at] at e
      rw [hmx, if_pos rfl]; exact e
    · rw [upd_ne _ _ e2] at e
      have := h.top k hk e
      rw [this, if_neg e2]
/-- what is near so far: by a, and by the first m of b -/
def Near2 (a b : Nat → Nat) (n m : Nat) (i j : Nat) : Prop := i < n ∧ j < n ∧ (a i = j ∨ (i < m ∧ b i = j))
/-- the ends are those of what is near so far -/
structure Ends (a b : Nat → Nat) (n m : Nat) (r : Nat → Nat) : Prop where
  con : ∀ i, i < n → Con (Near2 a b n m) (r i) i
  same : ∀ i j, Near2 a b n m i j → r i = r j
theorem Ends.start {a b : Nat → Nat} {n : Nat} (h : Can a n) : Ends a b n 0 a :=
  ⟨fun i hi => .symm (.step ⟨hi, by have := (h i hi).1; omega, Or.inl rfl⟩), fun i j r => by
    rcases r.2.2 with e | ⟨e, _⟩
    · rw [← e]; exact ((h i r.1).2).symm
    · omega⟩
theorem Ends.next {a b r : Nat → Nat} {n m : Nat} (h : Ends a b n m r) (hm : m < n) (hb : b m < n) : Ends a b n (m + 1) (union r (r m) (r (b m))) := by
  have up : ∀ i j, Near2 a b n m i j → Con (Near2 a b n (m + 1)) i j := fun i j k => .step ⟨k.1, k.2.1, by rcases k.2.2 with e | ⟨e1, e2⟩; exact Or.inl e; exact Or.inr ⟨by omega, e2⟩⟩
  have hcm := (h.con m hm).mono up
  have hcb := (h.con (b m) hb).mono up
  have hst : Con (Near2 a b n (m + 1)) m (b m) := .step ⟨hm, hb, Or.inr ⟨by omega, rfl⟩⟩
  have hxy : Con (Near2 a b n (m + 1)) (min (r m) (r (b m))) (max (r m) (r (b m))) := by
    have := (hcm.trans hst).trans hcb.symm
    rcases Nat.le_total (r m) (r (b m)) with k | k
    · rw [Nat.min_eq_left k, Nat.max_eq_right k]; exact this
    · rw [Nat.min_eq_right k, Nat.max_eq_left k]; exact this.symm
  refine ⟨fun i hi => ?_, fun i j k => ?_⟩
  · have hc := (h.con i hi).mono up
    unfold union
    split
    · rename_i e; rw [e] at hc; exact hxy.trans hc
    · exact hc
  · unfold union
    rcases k.2.2 with e | ⟨e1, e2⟩
    · rw [h.same i j ⟨k.1, k.2.1, Or.inl e⟩]
    · rcases Nat.lt_or_ge i m with h1 | h1
      · rw [h.same i j ⟨k.1, k.2.1, Or.inr ⟨h1, e2⟩⟩]
      · obtain rfl : i = m := by omega
        subst e2
        split <;> split <;> omega
theorem Ends.join {a b c r : Nat → Nat} {n : Nat} (h : Ends a b n n r) (hc : Chain c r n) (ha : Can a n) (hb : Can b n) : IsJoin a b n r := by
  have key : ∀ x y, Near2 a b n n x y → Near a b n x y := fun x y k => by
    refine ⟨k.1, k.2.1, ?_⟩
    rcases k.2.2 with e | ⟨_, e⟩
    · left; rw [← e]; exact ((ha x k.1).2).symm
    · right; rw [← e]; exact ((hb x k.1).2).symm
  refine ⟨hc.rle, fun i hi => (h.con i hi).mono (fun x y k => .step (key x y k)), ?_⟩
  intro i j k
  have hi := k.1
  have hj := k.2.1
  rcases k.2.2 with e | e
  · rw [h.same i (a i) ⟨hi, by have := (ha i hi).1; omega, Or.inl rfl⟩, h.same j (a j) ⟨hj, by have := (ha j hj).1; omega, Or.inl rfl⟩, e]
  · rw [h.same i (b i) ⟨hi, by have := (hb i hi).1; omega, Or.inr ⟨hi, rfl⟩⟩, h.same j (b j) ⟨hj, by have := (hb j hj).1; omega, Or.inr ⟨hj, rfl⟩⟩, e]
end Go.Proofs.Ytipniooflaiikaa
