/-
  Fractions in lowest terms: the plain laws.
-/
import Derived.Test.YtmjchiebpnnbpaaE2
set_option linter.unusedVariables false
set_option linter.unusedSimpArgs false
namespace Go.Proofs.Ytmjchiebpnnbpaa

/-- a fraction in lowest terms -/
structure Low (n d N D : Int) : Prop where
  num : redN n d = N
  den : redD n d = D
  err : redE n d = 0
  pos : 1 ≤ D
  fitN : Fits N
  fitD : Fits D
  same : n * D = N * d
  cop : Nat.gcd N.natAbs D.natAbs = 1

theorem sgi_fits {n : Int} {p : Nat} (hn : Fits n) (hp : p ≤ n.natAbs) : Fits (sgi (p : Int) (decide (n < 0))) := by
  obtain ⟨h0, h1⟩ := hn
  unfold sgi Fits
  by_cases h : n < 0 <;> simp [h] <;> omega
theorem sgi_abs (p : Nat) (b : Bool) : (sgi (p : Int) b).natAbs = p := by unfold sgi; cases b <;> simp
theorem low_of {n d : Int} (hn : Fits n) (hd : Fits d) (h1 : 1 ≤ d) : ∃ N D : Int, Low n d N D := by
  have g0 : 0 < Nat.gcd n.natAbs d.natAbs := Nat.gcd_pos_of_pos_right _ (by omega)
  have e1 := Nat.div_mul_cancel (Nat.gcd_dvd_left n.natAbs d.natAbs)
  have e2 := Nat.div_mul_cancel (Nat.gcd_dvd_right n.natAbs d.natAbs)
  have hc : Nat.gcd (n.natAbs / Nat.gcd n.natAbs d.natAbs) (d.natAbs / Nat.gcd n.natAbs d.natAbs) = 1 := Nat.coprime_div_gcd_div_gcd g0
  have l1 := Nat.div_le_self n.natAbs (Nat.gcd n.natAbs d.natAbs)
  have l2 := Nat.div_le_self d.natAbs (Nat.gcd n.natAbs d.natAbs)
  have ho : oneNeg n d = decide (n < 0) := by unfold oneNeg; rw [decide_no (show ¬ d < 0 by omega)]; cases decide (n < 0) <;> rfl
  have hT : redT n d = sgi (((n.natAbs / Nat.gcd n.natAbs d.natAbs : Nat)) : Int) (decide (n < 0)) := by unfold redT; rw [ho]; rfl
  have hB : redB n d = ((d.natAbs / Nat.gcd n.natAbs d.natAbs : Nat) : Int) := rfl
  generalize Nat.gcd n.natAbs d.natAbs = g at *
  generalize n.natAbs / g = p at *
  generalize d.natAbs / g = q at *
  have q0 : 0 < q := by
    rcases Nat.eq_zero_or_pos q with h | h
    · subst h; omega
    · exact h
  have f1 := sgi_fits hn l1
  have f2 : Fits (q : Int) := ⟨by omega, by have := hd.2; omega⟩
  have hok : d ≠ 0 ∧ RedOk n d := ⟨by omega, by rw [RedOk, hT, hB]; exact ⟨f1, f2⟩⟩
  refine ⟨_, _, ⟨(if_pos hok).trans hT, (if_pos hok).trans hB, ?_, by omega, f1, f2, ?_, ?_⟩⟩
  · unfold redE; rw [if_neg hok.1, if_pos hok.2]
  · have k1 : (n.natAbs : Int) = (p : Int) * (g : Int) := by rw [← Int.natCast_mul]; omega
    have k2 : d = (q : Int) * (g : Int) := by rw [← Int.natCast_mul]; omega
    unfold sgi
    by_cases h : n < 0
    · have k3 : n = -((p : Int) * (g : Int)) := by omega
      simp only [h, decide_true, if_true]
      rw [k2, k3, Int.neg_mul, Int.neg_mul, Int.mul_assoc, Int.mul_comm (g : Int) (q : Int)]
    · have k3 : n = (p : Int) * (g : Int) := by omega
      simp only [h, decide_false, Bool.false_eq_true, if_false]
      rw [k2, k3, Int.mul_assoc, Int.mul_comm (g : Int) (q : Int)]
  · rw [sgi_abs, Int.natAbs_natCast]; exact hc

theorem low_cmp {n d N D : Int} (h : Low n d N D) (h1 : 1 ≤ d) : comV n d N D = 0 ∧ comE n d N D = 0 := by
  have hp := h.pos
  unfold comV comE
  rw [if_neg (by omega), if_neg (by omega)]
  exact ⟨cmp_eq h.same, rfl⟩
theorem low_rem {n d N D : Int} (h : Low n d N D) (k : Nat) (hk : 2 ≤ k) (h1 : N.tmod (k : Int) = 0) : D.tmod (k : Int) ≠ 0 := by
  intro h2
  have d1 : k ∣ N.natAbs := by
    have := Int.dvd_of_tmod_eq_zero h1
    exact Int.ofNat_dvd_left.1 this
  have d2 : k ∣ D.natAbs := Int.ofNat_dvd_left.1 (Int.dvd_of_tmod_eq_zero h2)
  have := Nat.dvd_gcd d1 d2
  rw [h.cop] at this
  have := Nat.le_of_dvd (by decide) this
  omega
/-- what is reduced is the same just if the fractions are equal -/
theorem low_eq {an ad bn bd N D M E : Int} (h : Low an ad N D) (k : Low bn bd M E) (ha : 1 ≤ ad) (hb : 1 ≤ bd) : an * bd = bn * ad ↔ N = M ∧ D = E := by
  have hp := h.pos
  have kp := k.pos
  constructor
  · intro he
    have h1 : N * E * (ad * bd) = M * D * (ad * bd) := by
      have a1 : N * E * (ad * bd) = (N * ad) * (E * bd) := by simp [Int.mul_comm, Int.mul_assoc, Int.mul_left_comm]
      have a2 : M * D * (ad * bd) = (M * bd) * (D * ad) := by simp [Int.mul_comm, Int.mul_assoc, Int.mul_left_comm]
      have a3 : an * D * (E * bd) = (an * bd) * (D * E) := by simp [Int.mul_comm, Int.mul_assoc, Int.mul_left_comm]
      have a4 : bn * E * (D * ad) = (bn * ad) * (D * E) := by simp [Int.mul_comm, Int.mul_assoc, Int.mul_left_comm]
      rw [a1, a2, ← h.same, ← k.same, a3, a4, he]
    have hab : ad * bd ≠ 0 := Int.mul_ne_zero (by omega) (by omega)
    have h2 : N * E = M * D := Int.eq_of_mul_eq_mul_right hab h1
    have h3 : N.natAbs * E.natAbs = M.natAbs * D.natAbs := by rw [← Int.natAbs_mul, ← Int.natAbs_mul, h2]
    have c1 : Nat.Coprime D.natAbs N.natAbs := Nat.Coprime.symm h.cop
    have c2 : Nat.Coprime E.natAbs M.natAbs := Nat.Coprime.symm k.cop
    have d1 : D.natAbs ∣ E.natAbs := c1.dvd_of_dvd_mul_left (by rw [h3]; exact Nat.dvd_mul_left _ _)
    have d2 : E.natAbs ∣ D.natAbs := c2.dvd_of_dvd_mul_left (by rw [← h3]; exact Nat.dvd_mul_left _ _)
    have hDE : D = E := by have := Nat.dvd_antisymm d1 d2; omega
    subst hDE
    exact ⟨Int.eq_of_mul_eq_mul_right (by omega) h2, rfl⟩
  · rintro ⟨rfl, rfl⟩
    have h1 : an * bd * D = bn * ad * D := by
      have a1 : an * bd * D = (an * D) * bd := by simp [Int.mul_comm, Int.mul_assoc, Int.mul_left_comm]
      have a2 : bn * ad * D = (bn * D) * ad := by simp [Int.mul_comm, Int.mul_assoc, Int.mul_left_comm]
      rw [a1, a2, h.same, k.same]
      simp [Int.mul_comm, Int.mul_assoc, Int.mul_left_comm]
    exact Int.eq_of_mul_eq_mul_right (by omega) h1

theorem cmp_sgn (x y : Int) : (cmp x y < 0 ↔ x < y) ∧ (0 < cmp x y ↔ y < x) ∧ (cmp x y = 0 ↔ x = y) ∧ cmp x y = -cmp y x ∧ -1 ≤ cmp x y ∧ cmp x y ≤ 1 := by
  unfold cmp
  split <;> split <;> omega
/-- comparing is transitive -/
theorem com_trans {an ad bn bd cn cd : Int} (ha : 1 ≤ ad) (hb : 1 ≤ bd) (hc : 1 ≤ cd) (h1 : an * bd ≤ bn * ad) (h2 : bn * cd ≤ cn * bd) : an * cd ≤ cn * ad := by
  have k1 := Int.mul_le_mul_of_nonneg_right h1 (show 0 ≤ cd by omega)
  have k2 := Int.mul_le_mul_of_nonneg_right h2 (show 0 ≤ ad by omega)
  have e1 : an * bd * cd = an * cd * bd := by simp [Int.mul_comm, Int.mul_assoc, Int.mul_left_comm]
  have e2 : bn * ad * cd = bn * cd * ad := by simp [Int.mul_comm, Int.mul_assoc, Int.mul_left_comm]
  have e3 : cn * bd * ad = cn * ad * bd := by simp [Int.mul_comm, Int.mul_assoc, Int.mul_left_comm]
  rw [e1, e2] at k1
  rw [e3] at k2
  exact Int.le_of_mul_le_mul_right (Int.le_trans k1 k2) (by omega)
end Go.Proofs.Ytmjchiebpnnbpaa
