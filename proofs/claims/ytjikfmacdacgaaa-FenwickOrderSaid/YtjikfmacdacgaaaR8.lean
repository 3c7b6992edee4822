/-
  Either counters: Add and Copy by one contract each; both counters together.
-/
import Derived.Test.YtjikfmacdacgaaaR7
import Derived.Test.YtjikfmacdacgaaaL2
set_option linter.unusedVariables false
set_option linter.unusedSimpArgs false
namespace Go.Proofs.Ytjikfmacdacgaaa
open Go.RowKit Go.Shelf Fw

/-- the code that an addition answers -/
def addCode (v : Bool) (C : Nat → Int) (n : Nat) (i d : Int) : Int :=
  if v = false then 1 else if i < 0 ∨ (n : Int) ≤ i then 3 else if C i.toNat + d < 0 then 2 else if 9223372036854775807 < pre C n + d then 7 else 0
/-- the counters behind it -/
def addNew (v : Bool) (C : Nat → Int) (n : Nat) (i d : Int) : Nat → Int := if addCode v C n i d = 0 then upd C i.toNat d else C

def St (w : World) (p : Option Addr) (b s n : Nat) (C : Nat → Int) (v : Bool) : Prop := (v = true ∧ p = some ⟨b, 0, none⟩ ∧ FC w b s n C) ∨ (v = false ∧ NoFw w p ∧ n = 0)
def RSt (w : World) (p : Option Addr) (b s n : Nat) (C : Nat → Int) (v : Bool) : Prop := (v = true ∧ p = some ⟨b, 0, none⟩ ∧ RC w b s n C) ∨ (v = false ∧ p = none ∧ n = 0)

section
variable {w w' : World} {p : Option Addr} {b s n : Nat} {C : Nat → Int} {v : Bool}
theorem St.ef (h : St w p b s n C v) : EF w p b s n C := by
  rcases h with ⟨_, h1, h2⟩ | ⟨_, h1, h2⟩
  · exact .inl ⟨h1, h2⟩
  · exact .inr ⟨h1, h2⟩
theorem RSt.er (h : RSt w p b s n C v) : ER w p b s n C := by
  rcases h with ⟨_, h1, h2⟩ | ⟨_, h1, h2⟩
  · exact .inl ⟨h1, h2⟩
  · exact .inr ⟨h1, h2⟩
theorem St.below (h : St w p b s n C v) (hb : Below w.heap.size w w') : St w' p b s n C v := by
  rcases h with ⟨h0, h1, h2⟩ | ⟨h0, h1, h2⟩
  · exact .inl ⟨h0, h1, h2.below hb⟩
  · exact .inr ⟨h0, h1.below hb, h2⟩
theorem RSt.below (h : RSt w p b s n C v) (hb : Below w.heap.size w w') : RSt w' p b s n C v := by
  rcases h with ⟨h0, h1, h2⟩ | ⟨h0, h1, h2⟩
  · exact .inl ⟨h0, h1, h2.below hb⟩
  · exact .inr ⟨h0, h1, h2⟩
theorem RSt.turns {S : Nat → Prop} (h : RSt w p b s n C v) (ht : Turns S w w') (h1 : ¬ S b) (h2 : ¬ S s) : RSt w' p b s n C v := by
  rcases h with ⟨h0, h3, h4⟩ | h
  · exact .inl ⟨h0, h3, h4.turns ht h1 h2⟩
  · exact .inr h
end

/-- what makes an addition good -/
theorem add_st (p : Option Addr) (b s n : Nat) (C : Nat → Int) (v : Bool) (i d : Int) (w : World) (hd0 : -9223372036854775808 ≤ d) (hd1 : d ≤ 9223372036854775807) (h : St w p b s n C v) :
    Calls Try.prog 22 #[.pointer p, .int .i64 i, .int .i64 d] w fun e w' => e = .returned (.int .i64 (addCode v C n i d)) ∧ St w' p b s n (addNew v C n i d) v ∧ Turns (fun k => k = s ∧ v = true) w w' := by
  rcases h with ⟨rfl, rfl, hf⟩ | ⟨rfl, hno, rfl⟩
  · by_cases hi : i < 0 ∨ (n : Int) ≤ i
    · have e1 : addCode true C n i d = 3 := by unfold addCode; rw [if_neg (by decide), if_pos hi]
      have e2 : addNew true C n i d = C := by unfold addNew; rw [e1, if_neg (by decide)]
      rw [e1, e2]
      refine (add_out b s n C i d hi w hf).mono ?_
      rintro e w' ⟨rfl, hb⟩
      exact ⟨rfl, .inl ⟨rfl, rfl, hf.below hb⟩, Turns.of_below hb _⟩
    · obtain ⟨j, rfl⟩ := Int.eq_ofNat_of_zero_le (show 0 ≤ i by omega)
      have hj : j < n := by omega
      by_cases h1 : C j + d < 0
      · have e1 : addCode true C n j d = 2 := by unfold addCode; rw [if_neg (by decide), if_neg hi, Int.toNat_natCast, if_pos h1]
        have e2 : addNew true C n j d = C := by unfold addNew; rw [e1, if_neg (by decide)]
        rw [e1, e2]
        refine (add_neg b s n C j d hj hd0 h1 w hf).mono ?_
        rintro e w' ⟨rfl, hb⟩
        exact ⟨rfl, .inl ⟨rfl, rfl, hf.below hb⟩, Turns.of_below hb _⟩
      · by_cases h2 : 9223372036854775807 < pre C n + d
        · have e1 : addCode true C n j d = 7 := by unfold addCode; rw [if_neg (by decide), if_neg hi, Int.toNat_natCast, if_neg h1, if_pos h2]
          have e2 : addNew true C n j d = C := by unfold addNew; rw [e1, if_neg (by decide)]
          rw [e1, e2]
          refine (add_over b s n C j d hj hd0 hd1 (by omega) h2 w hf).mono ?_
          rintro e w' ⟨rfl, hb⟩
          exact ⟨rfl, .inl ⟨rfl, rfl, hf.below hb⟩, Turns.of_below hb _⟩
        · have e1 : addCode true C n j d = 0 := by unfold addCode; rw [if_neg (by decide), if_neg hi, Int.toNat_natCast, if_neg h1, if_neg h2]
          have e2 : addNew true C n j d = upd C j d := by unfold addNew; rw [e1, if_pos rfl, Int.toNat_natCast]
          rw [e1, e2]
          refine (add_good b s n C j d hj hd0 (by omega) (by omega) w hf).mono ?_
          rintro e w' ⟨rfl, hf', ht⟩
          exact ⟨rfl, .inl ⟨rfl, rfl, hf'⟩, ht.mono fun k _ h => ⟨h, rfl⟩⟩
  · have e1 : addCode false C 0 i d = 1 := rfl
    have e2 : addNew false C 0 i d = C := by unfold addNew; rw [e1, if_neg (by decide)]
    rw [e1, e2]
    refine (add_no p i d w hno).mono ?_
    rintro e w' ⟨rfl, hb⟩
    exact ⟨rfl, .inr ⟨rfl, hno.below hb, rfl⟩, Turns.of_below hb _⟩

theorem radd_st (p : Option Addr) (b s n : Nat) (C : Nat → Int) (v : Bool) (i d : Int) (w : World) (hd0 : -9223372036854775808 ≤ d) (hd1 : d ≤ 9223372036854775807) (h : RSt w p b s n C v) :
    Calls Try.prog 23 #[.pointer p, .int .i64 i, .int .i64 d] w fun e w' => e = .returned (.int .i64 (addCode v C n i d)) ∧ RSt w' p b s n (addNew v C n i d) v ∧ Turns (fun k => k = s ∧ v = true ∧ 0 < n) w w' := by
  rcases h with ⟨rfl, rfl, hf⟩ | ⟨rfl, rfl, rfl⟩
  · by_cases hi : i < 0 ∨ (n : Int) ≤ i
    · have e1 : addCode true C n i d = 3 := by unfold addCode; rw [if_neg (by decide), if_pos hi]
      have e2 : addNew true C n i d = C := by unfold addNew; rw [e1, if_neg (by decide)]
      rw [e1, e2]
      refine (radd_out b s n C i d hi w hf).mono ?_
      rintro e w' ⟨rfl, rfl⟩
      exact ⟨rfl, .inl ⟨rfl, rfl, hf⟩, Turns.refl _ _⟩
    · obtain ⟨j, rfl⟩ := Int.eq_ofNat_of_zero_le (show 0 ≤ i by omega)
      have hj : j < n := by omega
      by_cases h1 : C j + d < 0
      · have e1 : addCode true C n j d = 2 := by unfold addCode; rw [if_neg (by decide), if_neg hi, Int.toNat_natCast, if_pos h1]
        have e2 : addNew true C n j d = C := by unfold addNew; rw [e1, if_neg (by decide)]
        rw [e1, e2]
        refine (radd_neg b s n C j d hj hd0 h1 w hf).mono ?_
        rintro e w' ⟨rfl, rfl⟩
        exact ⟨rfl, .inl ⟨rfl, rfl, hf⟩, Turns.refl _ _⟩
      · by_cases h2 : 9223372036854775807 < pre C n + d
        · have e1 : addCode true C n j d = 7 := by unfold addCode; rw [if_neg (by decide), if_neg hi, Int.toNat_natCast, if_neg h1, if_pos h2]
          have e2 : addNew true C n j d = C := by unfold addNew; rw [e1, if_neg (by decide)]
          rw [e1, e2]
          refine (radd_over b s n C j d hj hd1 (by omega) h2 w hf).mono ?_
          rintro e w' ⟨rfl, rfl⟩
          exact ⟨rfl, .inl ⟨rfl, rfl, hf⟩, Turns.refl _ _⟩
        · have e1 : addCode true C n j d = 0 := by unfold addCode; rw [if_neg (by decide), if_neg hi, Int.toNat_natCast, if_neg h1, if_neg h2]
          have e2 : addNew true C n j d = upd C j d := by unfold addNew; rw [e1, if_pos rfl, Int.toNat_natCast]
          rw [e1, e2]
          refine (radd_good b s n C j d hj hd0 (by omega) (by omega) w hf).mono ?_
          rintro e w' ⟨rfl, hf', ht⟩
          exact ⟨rfl, .inl ⟨rfl, rfl, hf'⟩, ht.mono fun k _ h => ⟨h, rfl, by omega⟩⟩
  · have e1 : addCode false C 0 i d = 1 := rfl
    have e2 : addNew false C 0 i d = C := by unfold addNew; rw [e1, if_neg (by decide)]
    rw [e1, e2]
    refine (radd_no i d w).mono ?_
    rintro e w' ⟨rfl, rfl⟩
    exact ⟨rfl, .inr ⟨rfl, rfl, rfl⟩, Turns.refl _ _⟩

theorem RSt.lts {w : World} {p : Option Addr} {b s n : Nat} {C : Nat → Int} {v : Bool} (h : RSt w p b s n C v) (hv : v = true) (hn : 0 < n) : s < w.heap.size := by
  rcases h with ⟨_, _, h⟩ | ⟨h, _⟩
  · exact h.rw.lts hn
  · rw [hv] at h; cases h

/-- both counters -/
structure Pair (w : World) (B : Nat) (p q : Option Addr) (n : Nat) (C : Nat → Int) (v : Bool) (b s rb rs : Nat) : Prop where
  f : St w p b s n C v
  r : RSt w q rb rs n C v
  d1 : rb ≠ s
  d2 : rs ≠ s
  d3 : b ≠ rs
  Bs : B ≤ s
  Brs : B ≤ rs
  lt : s < w.heap.size ∨ v = false

end Go.Proofs.Ytjikfmacdacgaaa
