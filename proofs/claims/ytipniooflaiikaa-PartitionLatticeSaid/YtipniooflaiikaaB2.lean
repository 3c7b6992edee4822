/-
  Partitions at hand: lists of labels of one length; what Meet, Join, Refines, same and Check do with them.
-/
import Derived.Test.YtipniooflaiikaaB1
import Derived.Test.YtipniooflaiikaaA6
set_option linter.unusedVariables false
set_option linter.unusedSimpArgs false
namespace Go.Proofs.Ytipniooflaiikaa
open Go.RowKit Go.Shelf

/-- lists of labels of length r, each in its block -/
def Rs (w : World) (l : List (Nat × (Nat → Nat))) (r : Nat) : Prop := ∀ p ∈ l, RowN w p.1 r p.2 ∧ Can p.2 r
theorem Rs.nil (w : World) (r : Nat) : Rs w [] r := fun p hp => by cases hp
theorem Rs.cons {w : World} {l : List (Nat × (Nat → Nat))} {r s : Nat} {f : Nat → Nat} (h : Rs w l r) (h1 : RowN w s r f) (h2 : Can f r) : Rs w ((s, f) :: l) r := fun p hp => by
  rcases List.mem_cons.1 hp with rfl | hp
  · exact ⟨h1, h2⟩
  · exact h p hp
theorem Rs.below {w w' : World} {l : List (Nat × (Nat → Nat))} {r : Nat} (h : Rs w l r) (hb : Below w.heap.size w w') : Rs w' l r := fun p hp => ⟨(h p hp).1.below' hb, (h p hp).2⟩
theorem Rs.arg {w : World} {l : List (Nat × (Nat → Nat))} {r s : Nat} {f : Nat → Nat} (h : Rs w l r) (hr : r ≤ 1000) (hm : (s, f) ∈ l) : ArgI .i64 w (some ⟨s, 0, none⟩) r r (fun i => (f i : Int)) :=
  RowF.arg (h _ hm).1 (by omega) (fun i hi => by
    have := ((h _ hm).2 i hi).1
    have k : f i ≤ i := this
    exact fits_wf ⟨by omega, by omega⟩)
theorem Rs.can {w : World} {l : List (Nat × (Nat → Nat))} {r s : Nat} {f : Nat → Nat} (h : Rs w l r) (hm : (s, f) ∈ l) : Can f r := (h _ hm).2
theorem two_of {r : Nat} {a b : Nat → Nat} (ha : Can a r) (hb : Can b r) : Two r r (fun i => (a i : Int)) (fun i => (b i : Int)) := ⟨CanZ.of ha, CanZ.of hb, rfl⟩
/-- a slice of labels -/
def sl (s r : Nat) : Value := .slice (some ⟨s, 0, none⟩) r r
section
variable {w : World} {l : List (Nat × (Nat → Nat))} {r s1 s2 : Nat} {a b : Nat → Nat}
theorem meetN (h : Rs w l r) (hr : r ≤ 1000) (h1 : (s1, a) ∈ l) (h2 : (s2, b) ∈ l) :
    Calls Try.prog 25 #[.slice (some ⟨s1, 0, none⟩) r r, .slice (some ⟨s2, 0, none⟩) r r] w fun e w' => ∃ s, e = .returned (.tuple #[.slice (some ⟨s, 0, none⟩) r r, .int .i64 0]) ∧ Rs w' ((s, mt a b) :: l) r ∧ Below w.heap.size w w' := by
  refine (meet_ok r r r r _ _ _ _ w (h.arg hr h1) (h.arg hr h2) (by omega)).mono ?_
  rintro e w' (⟨hno, _⟩ | ⟨_, s, rfl, hrow, _, hv⟩)
  · exact (hno (two_of (h.can h1) (h.can h2))).elim
  · refine ⟨s, rfl, (h.below hv).cons (hrow.congr fun i hi => ?_) (mt_can a b r), hv⟩
    rw [eqP_nat (n := r) (fun i _ => rfl) (fun i _ => rfl) hi]
theorem joinN (h : Rs w l r) (hr : r ≤ 1000) (h1 : (s1, a) ∈ l) (h2 : (s2, b) ∈ l) :
    Calls Try.prog 27 #[.slice (some ⟨s1, 0, none⟩) r r, .slice (some ⟨s2, 0, none⟩) r r] w fun e w' => ∃ s j, e = .returned (.tuple #[.slice (some ⟨s, 0, none⟩) r r, .int .i64 0]) ∧ IsJoin a b r j ∧ Rs w' ((s, j) :: l) r ∧ Below w.heap.size w w' := by
  refine (join_ok r r r r _ _ _ _ w (h.arg hr h1) (h.arg hr h2) (fun h => by cases h) (by omega)).mono ?_
  rintro e w' (⟨hno, _⟩ | ⟨_, s, j, rfl, hrow, hj, _, hv⟩)
  · exact (hno (two_of (h.can h1) (h.can h2))).elim
  · have hj := hj a b (fun i _ => rfl) (fun i _ => rfl)
    exact ⟨s, j, rfl, hj, (h.below hv).cons hrow hj.can, hv⟩
theorem refN (h : Rs w l r) (hr : r ≤ 1000) (h1 : (s1, a) ∈ l) (h2 : (s2, b) ∈ l) :
    Calls Try.prog 29 #[.slice (some ⟨s1, 0, none⟩) r r, .slice (some ⟨s2, 0, none⟩) r r] w fun e w' => ∃ v, e = .returned (.tuple #[.bool v, .int .i64 0]) ∧ (v = true ↔ Ref a b r) ∧ ∃ m, w' = w.drewN m := by
  refine (refines_ok r r r r _ _ _ _ w (h.arg hr h1) (h.arg hr h2) (by omega)).mono ?_
  rintro e w' ⟨⟨hno, _⟩ | ⟨_, v, rfl, hv⟩, hw⟩
  · exact (hno (two_of (h.can h1) (h.can h2))).elim
  · exact ⟨v, rfl, hv a b (fun i _ => rfl) (fun i _ => rfl), hw⟩
theorem refN_yes (h : Rs w l r) (hr : r ≤ 1000) (h1 : (s1, a) ∈ l) (h2 : (s2, b) ∈ l) (hR : Ref a b r) :
    Calls Try.prog 29 #[.slice (some ⟨s1, 0, none⟩) r r, .slice (some ⟨s2, 0, none⟩) r r] w fun e w' => e = .returned (.tuple #[.bool true, .int .i64 0]) ∧ ∃ m, w' = w.drewN m := by
  refine (refN h hr h1 h2).mono ?_
  rintro e w' ⟨v, rfl, hv, hw⟩
  rw [hv.2 hR]
  exact ⟨rfl, hw⟩
theorem sameN (h : Rs w l r) (hr : r ≤ 1000) (h1 : (s1, a) ∈ l) (h2 : (s2, b) ∈ l) :
    Calls Try.prog 20 #[.slice (some ⟨s1, 0, none⟩) r r, .slice (some ⟨s2, 0, none⟩) r r] w fun e w' => ∃ v, e = .returned (.bool v) ∧ (v = true ↔ ∀ i, i < r → a i = b i) ∧ Rs w' l r ∧ Below w.heap.size w w' := by
  refine (same_any r r r r _ _ _ _ w (h.arg hr h1) (h.arg hr h2) (by omega)).mono ?_
  rintro e w' ⟨h3, m, rfl⟩
  have hb := below_drewN (Below.refl w.heap.size w) m
  rcases h3 with ⟨rfl, hy⟩ | ⟨rfl, hn⟩
  · refine ⟨true, rfl, ⟨fun _ i hi => ?_, fun _ => rfl⟩, h.below hb, hb⟩
    have := hy.2 i hi
    exact Int.ofNat_inj.1 this
  · refine ⟨false, rfl, ⟨(fun h => by cases h), fun h => ?_⟩, h.below hb, hb⟩
    exact (hn ⟨rfl, fun i hi => by show (a i : Int) = (b i : Int); rw [h i hi]⟩).elim
theorem sameN_yes (h : Rs w l r) (hr : r ≤ 1000) (h1 : (s1, a) ∈ l) (h2 : (s2, b) ∈ l) (he : ∀ i, i < r → a i = b i) :
    Calls Try.prog 20 #[.slice (some ⟨s1, 0, none⟩) r r, .slice (some ⟨s2, 0, none⟩) r r] w fun e w' => e = .returned (.bool true) ∧ Rs w' l r ∧ Below w.heap.size w w' := by
  refine (sameN h hr h1 h2).mono ?_
  rintro e w' ⟨v, rfl, hv, hw⟩
  rw [hv.2 he]
  exact ⟨rfl, hw⟩
theorem sameN_is (h : Rs w l r) (hr : r ≤ 1000) (h1 : (s1, a) ∈ l) (h2 : (s2, b) ∈ l) {v : Bool} (he : v = true ↔ ∀ i, i < r → a i = b i) :
    Calls Try.prog 20 #[.slice (some ⟨s1, 0, none⟩) r r, .slice (some ⟨s2, 0, none⟩) r r] w fun e w' => e = .returned (.bool v) ∧ Rs w' l r ∧ Below w.heap.size w w' := by
  refine (sameN h hr h1 h2).mono ?_
  rintro e w' ⟨u, rfl, hu, hw⟩
  have : u = v := by rw [Bool.eq_iff_iff, hu, he]
  rw [this]
  exact ⟨rfl, hw⟩
theorem checkN (h : Rs w l r) (hr : r ≤ 1000) (h1 : (s1, a) ∈ l) : Calls Try.prog 21 #[.slice (some ⟨s1, 0, none⟩) r r] w fun e w' => e = .returned (.int .i64 0) ∧ w = w' := by
  refine (check_ok r r _ _ w (h.arg hr h1)).mono ?_
  rintro e w' ⟨⟨rfl, _⟩ | ⟨rfl, hno⟩, hw⟩
  · exact ⟨rfl, hw⟩
  · exact (hno (CanZ.of (h.can h1))).elim
end
/-! the lattice's laws -/
section
variable {a b c d : Nat → Nat} {r : Nat}
theorem ref_mt_left (a b : Nat → Nat) (r : Nat) : Ref (mt a b) a r := fun i _ => (mt_is a b i).1
theorem ref_mt_right (a b : Nat → Nat) (r : Nat) : Ref (mt a b) b r := fun i _ => (mt_is a b i).2
theorem ref_join_left (hj : IsJoin a b r d) (ha : Can a r) : Ref a d r := fun i hi => hj.same _ _ ⟨by have := (ha i hi).1; omega, hi, Or.inl (ha i hi).2⟩
theorem ref_join_right (hj : IsJoin a b r d) (hb : Can b r) : Ref b d r := fun i hi => hj.same _ _ ⟨by have := (hb i hi).1; omega, hi, Or.inr (hb i hi).2⟩
theorem mt_swap (a b : Nat → Nat) (i : Nat) : mt a b i = mt b a i := low_congr fun j hj => by
  unfold meetE
  rw [decide_eq_decide]
  simp only [Prod.mk.injEq]
  exact And.comm
theorem mt_of_ref (ha : Can a r) (h : Ref a b r) : ∀ i, i < r → mt a b i = a i := fun i hi => by
  rw [← can_self ha hi]
  refine low_congr fun j hj => ?_
  unfold meetE
  rw [decide_eq_decide]
  simp only [Prod.mk.injEq]
  refine ⟨fun k => k.1, fun k => ⟨k, ?_⟩⟩
  rw [← h j (by omega), ← h i hi, k]
theorem ref_of_mt (h : ∀ i, i < r → mt a b i = a i) : Ref a b r := fun i hi => by rw [← h i hi]; exact (mt_is a b i).2
theorem join_of_ref (hb : Can b r) (h : Ref a b r) : IsJoin a b r b :=
  ⟨fun i hi => (hb i hi).1, fun i hi => .step ⟨by have := (hb i hi).1; omega, hi, Or.inr (hb i hi).2⟩, fun i j k => by
    rcases k.2.2 with e | e
    · rw [← h i k.1, ← h j k.2.1, e]
    · exact e⟩
theorem ref_of_join (ha : Can a r) (hj : IsJoin a b r d) (h : ∀ i, i < r → d i = b i) : Ref a b r := fun i hi => by
  rw [← h i hi, ← h (a i) (by have := (ha i hi).1; omega)]
  exact ref_join_left hj ha i hi
theorem join_mt (ha : Can a r) : IsJoin a (mt a b) r a :=
  ⟨fun i hi => (ha i hi).1, fun i hi => .step ⟨by have := (ha i hi).1; omega, hi, Or.inl (ha i hi).2⟩, fun i j k => by
    rcases k.2.2 with e | e
    · exact e
    · exact (mt_eq.1 e).1⟩
end
end Go.Proofs.Ytipniooflaiikaa
