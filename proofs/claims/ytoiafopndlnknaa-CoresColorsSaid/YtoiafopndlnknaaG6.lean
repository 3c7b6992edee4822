/-
  What checked computes: fractions in lowest terms.
-/
import Derived.Test.YtoiafopndlnknaaG5
set_option linter.unusedVariables false
set_option linter.unusedSimpArgs false
namespace Go.Proofs.Ytoiafopndlnknaa
open Go.RowKit Go.Shelf

/-- the number of this size -/
def sgi (x : Int) (b : Bool) : Int := if b then -x else x
theorem signed_i (x : Int) (b : Bool) (h0 : 0 ≤ x) (hx : x < 18446744073709551616) (w : World) :
    Calls Try.prog 63 #[.int .u64 x, .bool b] w fun e w' => e = .returned (.tuple #[.int .i64 (fitV (sgi x b)), .int .i64 (fitE (sgi x b))]) ∧ w = w' := by
  obtain ⟨x, rfl⟩ := Int.eq_ofNat_of_zero_le h0
  exact signed_ok x b (by omega) w
/-- the two numbers of a fraction in lowest terms -/
def redT (n d : Int) : Int := sgi ((n.natAbs : Int) / (Nat.gcd n.natAbs d.natAbs : Int)) (oneNeg n d)
def redB (n d : Int) : Int := (d.natAbs : Int) / (Nat.gcd n.natAbs d.natAbs : Int)
theorem sgi_false (x : Int) : sgi x false = x := rfl
def RedOk (n d : Int) : Prop := Fits (redT n d) ∧ Fits (redB n d)
instance (n d : Int) : Decidable (RedOk n d) := by unfold RedOk; infer_instance
def redN (n d : Int) : Int := if d ≠ 0 ∧ RedOk n d then redT n d else 0
def redD (n d : Int) : Int := if d ≠ 0 ∧ RedOk n d then redB n d else 0
def redE (n d : Int) : Int := if d = 0 then 2 else if RedOk n d then 0 else 7

set_option maxRecDepth 100000 in
set_option maxHeartbeats 4000000 in
theorem reduce_ok (n d : Int) (hn : Fits n) (hd : Fits d) (w : World) :
    Calls Try.prog 42 #[.int .i64 n, .int .i64 d] w fun e w' => e = .returned (.tuple #[.agg #[.int .i64 (redN n d), .int .i64 (redD n d)], .int .i64 (redE n d)]) ∧ Below w.heap.size w w' := by
  have hb := fun o => below_new1 w o
  by_cases h0 : d = 0
  · have e1 : redN n d = 0 := if_neg (fun h => h.1 h0)
    have e2 : redD n d = 0 := if_neg (fun h => h.1 h0)
    have e3 : redE n d = 2 := if_pos h0
    rw [e1, e2, e3]
    have h1 : (d == 0) = true := by simp [h0]
    clear e1 e2 e3 h0
    go_enter Try.func42, Try.ntmps42
    go_wp2_with fail
    simp [bodyPost, results, Try.results42, go_sem]
    exact hb _
  have h1 : (d == 0) = false := by simp [h0]
  have xn := natAbs_lt hn
  have xd := natAbs_lt hd
  have g0 : 0 < Nat.gcd n.natAbs d.natAbs := Nat.gcd_pos_of_pos_right _ (by omega)
  have q1 : (n.natAbs : Int) / (Nat.gcd n.natAbs d.natAbs : Int) < 18446744073709551616 := Int.lt_of_le_of_lt (Int.ediv_le_self _ (by omega)) (by omega)
  have q2 : (d.natAbs : Int) / (Nat.gcd n.natAbs d.natAbs : Int) < 18446744073709551616 := Int.lt_of_le_of_lt (Int.ediv_le_self _ (by omega)) (by omega)
  have p1 : 0 ≤ (n.natAbs : Int) / (Nat.gcd n.natAbs d.natAbs : Int) := Int.ediv_nonneg (by omega) (by omega)
  have p2 : 0 ≤ (d.natAbs : Int) / (Nat.gcd n.natAbs d.natAbs : Int) := Int.ediv_nonneg (by omega) (by omega)
  have g1 : ((Nat.gcd n.natAbs d.natAbs : Nat) : Int) ≠ 0 := by omega
  have g2 : 1 ≤ ((Nat.gcd n.natAbs d.natAbs : Nat) : Int) := by omega
  by_cases hT : Fits (redT n d)
  · have s1 := fitV_in hT
    have s2 := fitE_in hT
    by_cases hB : Fits (redB n d)
    · have e1 : redN n d = redT n d := if_pos ⟨h0, hT, hB⟩
      have e2 : redD n d = redB n d := if_pos ⟨h0, hT, hB⟩
      have e3 : redE n d = 0 := by unfold redE; rw [if_neg h0, if_pos ⟨hT, hB⟩]
      have s3 := fitV_in hB
      have s4 := fitE_in hB
      rw [e1, e2, e3]
      clear e1 e2 e3 hT hB
      unfold redT at s1 s2 ⊢
      unfold redB at s3 s4 ⊢
      by_cases pa : n < 0 <;> by_cases pb : d < 0
      all_goals
        (first | have da := decide_no pa | have da := decide_yes pa)
        (first | have db := decide_no pb | have db := decide_yes pb)
        (first
          | have eo : oneNeg n d = true := by unfold oneNeg; rw [da, db]; rfl
          | have eo : oneNeg n d = false := by unfold oneNeg; rw [da, db]; rfl)
        rw [eo] at s1 s2 ⊢
        have S1 := Lib.hid s1
        have S2 := Lib.hid s2
        have S3 := Lib.hid s3
        have S4 := Lib.hid s4
        clear eo pa pb s1 s2 s3 s4 h0
        go_enter Try.func42, Try.ntmps42
        go_wp2_with (first
          | (go_at_call 61; refine (size_ok _ (by assumption) _).mono ?_; rintro e w' ⟨rfl, rfl⟩)
          | (go_at_call 62; refine (divisor_ok _ _ xn xd _).mono ?_; rintro e w' ⟨rfl, rfl⟩)
          | (go_at_call 63; have mk := mark1; refine (signed_i ((d.natAbs : Int) / (Nat.gcd n.natAbs d.natAbs : Int)) false p2 q2 _).mono ?_; rw [sgi_false, S3.out, S4.out]; rintro e w' ⟨rfl, rfl⟩)
          | (go_at_call 63; refine (signed_i ((n.natAbs : Int) / (Nat.gcd n.natAbs d.natAbs : Int)) _ p1 q1 _).mono ?_; rw [S1.out, S2.out]; rintro e w' ⟨rfl, rfl⟩; have mark1 := p1))
        simp [bodyPost, results, Try.results42, go_sem]
        exact hb _
    · have e1 : redN n d = 0 := if_neg (fun h => hB h.2.2)
      have e2 : redD n d = 0 := if_neg (fun h => hB h.2.2)
      have e3 : redE n d = 7 := by unfold redE; rw [if_neg h0, if_neg (fun h => hB h.2)]
      have s3 := fitV_out hB
      have s4 := fitE_out hB
      rw [e1, e2, e3]
      clear e1 e2 e3 hT hB
      unfold redT at s1 s2
      unfold redB at s3 s4
      by_cases pa : n < 0 <;> by_cases pb : d < 0
      all_goals
        (first | have da := decide_no pa | have da := decide_yes pa)
        (first | have db := decide_no pb | have db := decide_yes pb)
        (first
          | have eo : oneNeg n d = true := by unfold oneNeg; rw [da, db]; rfl
          | have eo : oneNeg n d = false := by unfold oneNeg; rw [da, db]; rfl)
        rw [eo] at s1 s2
        have S1 := Lib.hid s1
        have S2 := Lib.hid s2
        have S3 := Lib.hid s3
        have S4 := Lib.hid s4
        clear eo pa pb s1 s2 s3 s4 h0
        go_enter Try.func42, Try.ntmps42
        go_wp2_with (first
          | (go_at_call 61; refine (size_ok _ (by assumption) _).mono ?_; rintro e w' ⟨rfl, rfl⟩)
          | (go_at_call 62; refine (divisor_ok _ _ xn xd _).mono ?_; rintro e w' ⟨rfl, rfl⟩)
          | (go_at_call 63; have mk := mark1; refine (signed_i ((d.natAbs : Int) / (Nat.gcd n.natAbs d.natAbs : Int)) false p2 q2 _).mono ?_; rw [sgi_false, S3.out, S4.out]; rintro e w' ⟨rfl, rfl⟩)
          | (go_at_call 63; refine (signed_i ((n.natAbs : Int) / (Nat.gcd n.natAbs d.natAbs : Int)) _ p1 q1 _).mono ?_; rw [S1.out, S2.out]; rintro e w' ⟨rfl, rfl⟩; have mark1 := p1))
        simp [bodyPost, results, Try.results42, go_sem]
        exact hb _
  · have e1 : redN n d = 0 := if_neg (fun h => hT h.2.1)
    have e2 : redD n d = 0 := if_neg (fun h => hT h.2.1)
    have e3 : redE n d = 7 := by unfold redE; rw [if_neg h0, if_neg (fun h => hT h.1)]
    have s1 := fitV_out hT
    have s2 := fitE_out hT
    rw [e1, e2, e3]
    clear e1 e2 e3 hT
    unfold redT at s1 s2
    by_cases pa : n < 0 <;> by_cases pb : d < 0
    all_goals
      (first | have da := decide_no pa | have da := decide_yes pa)
      (first | have db := decide_no pb | have db := decide_yes pb)
      (first
        | have eo : oneNeg n d = true := by unfold oneNeg; rw [da, db]; rfl
        | have eo : oneNeg n d = false := by unfold oneNeg; rw [da, db]; rfl)
      rw [eo] at s1 s2
      have S1 := Lib.hid s1
      have S2 := Lib.hid s2
      clear eo pa pb s1 s2 h0
      go_enter Try.func42, Try.ntmps42
      go_wp2_with (first
        | (go_at_call 61; refine (size_ok _ (by assumption) _).mono ?_; rintro e w' ⟨rfl, rfl⟩)
        | (go_at_call 62; refine (divisor_ok _ _ xn xd _).mono ?_; rintro e w' ⟨rfl, rfl⟩)
        | (go_at_call 63; refine (signed_i ((n.natAbs : Int) / (Nat.gcd n.natAbs d.natAbs : Int)) _ p1 q1 _).mono ?_; rw [S1.out, S2.out]; rintro e w' ⟨rfl, rfl⟩; have mark1 := p1))
      simp [bodyPost, results, Try.results42, go_sem]
      exact hb _
end Go.Proofs.Ytoiafopndlnknaa
