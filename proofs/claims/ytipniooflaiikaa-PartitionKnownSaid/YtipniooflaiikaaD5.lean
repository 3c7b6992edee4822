/-
  What checked computes: quotients of products: the walk.
-/
import Derived.Test.YtipniooflaiikaaD4
set_option linter.unusedVariables false
set_option linter.unusedSimpArgs false
namespace Go.Proofs.Ytipniooflaiikaa
open Go.RowKit Go.Shelf

theorem fits_big {x : Int} (h : 18446744073709551616 ≤ x ∨ x ≤ -18446744073709551616) : ¬ Fits x := fun k => by obtain ⟨h1, h2⟩ := k; omega
theorem fits_least {x : Int} (h : x < -9223372036854775808) : ¬ Fits x := fun k => by obtain ⟨h1, h2⟩ := k; omega
/-- the plain facts of a quotient -/
structure MdFacts (a b : Int) (k : Nat) (q r : Int) : Prop where
  quot : (((hi a.natAbs b.natAbs * 18446744073709551616 + lo a.natAbs b.natAbs) / k : Nat) : Int) = q
  rem : (((hi a.natAbs b.natAbs * 18446744073709551616 + lo a.natAbs b.natAbs) % k : Nat) : Int) = r
  q0 : 0 ≤ q
  r0 : 0 ≤ r
  lt : q < 18446744073709551616
  rlt : r < k
  pos : oneNeg a b = false → a * b / (k : Int) = sgi q false
  neg0 : oneNeg a b = true → r = 0 → a * b / (k : Int) = sgi q true
  neg1 : oneNeg a b = true → r ≠ 0 → a * b / (k : Int) = sgi (q + 1) true
set_option maxRecDepth 100000 in
theorem md_facts {a b : Int} {k : Nat} (hk : 0 < k) (hh : hi a.natAbs b.natAbs < k) : ∃ q r : Int, MdFacts a b k q r := by
  have hlt := lo_lt a.natAbs b.natAbs
  have hhl := hi_lo a.natAbs b.natAbs
  have hm := Nat.mod_lt (a.natAbs * b.natAbs) hk
  refine ⟨_, _, ⟨rfl, rfl, Int.natCast_nonneg _, Int.natCast_nonneg _, ?_, ?_, ?_, ?_, ?_⟩⟩
  · have : (hi a.natAbs b.natAbs * 18446744073709551616 + lo a.natAbs b.natAbs) / k < 18446744073709551616 := by
      rw [Nat.div_lt_iff_lt_mul hk, Nat.mul_comm 18446744073709551616 k]
      have h1 := Nat.mul_le_mul_right 18446744073709551616 (show hi a.natAbs b.natAbs + 1 ≤ k by omega)
      rw [Nat.add_mul, Nat.one_mul] at h1
      exact Nat.lt_of_lt_of_le (Nat.add_lt_add_left hlt _) h1
    exact Int.ofNat_lt.2 this
  · rw [← hhl]; exact_mod_cast hm
  · intro ho
    rw [← hhl, md_pos (by omega) ho]; rfl
  · intro ho hr
    rw [← hhl] at hr ⊢
    rw [md_neg (by omega) ho, Int.natAbs_natCast, if_pos (by omega)]; rfl
  · intro ho hr
    rw [← hhl] at hr ⊢
    rw [md_neg (by omega) ho, Int.natAbs_natCast, if_neg (by omega), Int.natCast_add]; rfl
theorem md_over {a b : Int} {k : Nat} (hk : 0 < k) (hh : k ≤ hi a.natAbs b.natAbs) : ¬ Fits (a * b / (k : Int)) := by
  have hhl := hi_lo a.natAbs b.natAbs
  have hq : 18446744073709551616 ≤ a.natAbs * b.natAbs / k := by
    rw [Nat.le_div_iff_mul_le hk]
    have := Nat.mul_le_mul_right 18446744073709551616 hh
    rw [Nat.mul_comm 18446744073709551616 k]
    omega
  refine fits_big ?_
  cases ho : oneNeg a b
  · rw [md_pos (by omega) ho, Int.natAbs_natCast]
    generalize a.natAbs * b.natAbs / k = X at *
    exact Or.inl (by omega)
  · rw [md_neg (by omega) ho, Int.natAbs_natCast]
    generalize a.natAbs * b.natAbs / k = X at *
    split <;> exact Or.inr (by omega)

set_option maxRecDepth 1000000 in
set_option maxHeartbeats 2000000 in
theorem md_ok (a b c : Int) (ha : Fits a) (hb : Fits b) (hc : Fits c) (w : World) :
    Calls Try.prog 48 #[.int .i64 a, .int .i64 b, .int .i64 c] w fun e w' => e = .returned (.tuple #[.int .i64 (mdV a b c), .int .i64 (mdE a b c)]) ∧ Below w.heap.size w w' := by
  by_cases h0 : c < 1
  · have e1 : mdV a b c = 0 := if_pos h0
    have e2 : mdE a b c = 2 := if_pos h0
    rw [e1, e2]
    have d1 := decide_yes h0
    clear e1 e2
    go_enter Try.func48, Try.ntmps48
    go_wp2_with fail
    go_ret2
    exact ⟨rfl, Below.refl _ _⟩
  have e1 : mdV a b c = fitV (a * b / c) := if_neg h0
  have e2 : mdE a b c = fitE (a * b / c) := if_neg h0
  rw [e1, e2]
  clear e1 e2
  obtain ⟨k, rfl⟩ : ∃ k : Nat, c = k := ⟨c.toNat, by omega⟩
  have hk : 0 < k := by omega
  have hk1 : k < 9223372036854775808 := by have := hc.2; omega
  have d1 := decide_no h0
  have xa := natAbs_lt ha
  have xb := natAbs_lt hb
  have hlt := lo_lt a.natAbs b.natAbs
  by_cases hA : k ≤ hi a.natAbs b.natAbs
  · have hf := md_over hk hA
    rw [fitV_out hf, fitE_out hf]
    clear hf h0
    have d2 : decide ((k : Int) ≤ (hi a.natAbs b.natAbs : Int)) = true := by simp; exact hA
    go_enter Try.func48, Try.ntmps48
    go_wp2_with (first
      | (go_at_call 49; refine (size_ok _ (by assumption) _).mono ?_; rintro e w' ⟨rfl, rfl⟩)
      | (go_at_call 54; refine (product_ok a.natAbs b.natAbs xa xb _).mono ?_; rintro e w1 ⟨rfl, hv1⟩))
    go_ret2
    exact ⟨rfl, hv1.alloc hv1.size _⟩
  have hA : hi a.natAbs b.natAbs < k := by omega
  obtain ⟨q, r, M⟩ := md_facts hk hA
  have HQ := Lib.hid M.quot
  have HR := Lib.hid M.rem
  have hq := M.lt
  have q0 := M.q0
  have r0 := M.r0
  have rl := M.rlt
  have hk2 : k < 18446744073709551616 := by omega
  have hhu : hi a.natAbs b.natAbs < 18446744073709551616 := by omega
  have HM := Lib.hid M
  clear M h0
  have HA := Lib.hid hA
  have d2 : decide ((k : Int) ≤ (hi a.natAbs b.natAbs : Int)) = false := by simp; exact hA
  clear hA
  by_cases pa : a < 0 <;> by_cases pb : b < 0
  · have da := decide_yes pa
    have db := decide_yes pb
    have eo : oneNeg a b = false := by unfold oneNeg; rw [da, db]; rfl
    rw [HM.out.pos eo]
    clear eo pa pb
    go_enter Try.func48, Try.ntmps48
    go_wp2_with (first
          | (go_at_call 49; refine (size_ok _ (by assumption) _).mono ?_; rintro e w' ⟨rfl, rfl⟩)
          | (go_at_call 54; refine (product_ok a.natAbs b.natAbs xa xb _).mono ?_; rintro e w1 ⟨rfl, hv1⟩)
          | (go_at_call 51; have mk := mark2; refine (signed_i q _ q0 hq _).mono ?_; rintro e w' ⟨rfl, rfl⟩)
          | (go_at_call 55; refine (div64_ok _ _ k HA.out hlt hk2 _).mono ?_; rw [HQ.out, HR.out]; rintro e w2 ⟨rfl, hv2⟩; have mark2 := hk2))
    go_ret2
    refine ⟨rfl, below_go (hv1.alloc hv1.size _) ?_ hv2⟩
    have := hv1.size
    simp
  · have da := decide_yes pa
    have db := decide_no pb
    have eo : oneNeg a b = true := by unfold oneNeg; rw [da, db]; rfl
    by_cases hr : r = 0
    · rw [HM.out.neg0 eo hr]
      subst hr
      clear eo pa pb
      go_enter Try.func48, Try.ntmps48
      go_wp2_with (first
            | (go_at_call 49; refine (size_ok _ (by assumption) _).mono ?_; rintro e w' ⟨rfl, rfl⟩)
            | (go_at_call 54; refine (product_ok a.natAbs b.natAbs xa xb _).mono ?_; rintro e w1 ⟨rfl, hv1⟩)
            | (go_at_call 51; have mk := mark2; refine (signed_i q _ q0 hq _).mono ?_; rintro e w' ⟨rfl, rfl⟩)
            | (go_at_call 55; refine (div64_ok _ _ k HA.out hlt hk2 _).mono ?_; rw [HQ.out, HR.out]; rintro e w2 ⟨rfl, hv2⟩; have mark2 := hk2))
      go_ret2
      refine ⟨rfl, below_go (hv1.alloc hv1.size _) ?_ hv2⟩
      have := hv1.size
      simp
    · have dr : decide (0 < r) = true := by simp; omega
      by_cases hB : 9223372036854775808 ≤ q
      · have hf : ¬ Fits (a * b / (k : Int)) := by
          rw [HM.out.neg1 eo hr]; unfold sgi; simp only [if_true]; exact fits_least (by omega)
        rw [fitV_out hf, fitE_out hf]
        clear eo pa pb hf HM
        go_enter Try.func48, Try.ntmps48
        go_wp2_with (first
              | (go_at_call 49; refine (size_ok _ (by assumption) _).mono ?_; rintro e w' ⟨rfl, rfl⟩)
              | (go_at_call 54; refine (product_ok a.natAbs b.natAbs xa xb _).mono ?_; rintro e w1 ⟨rfl, hv1⟩)
              | (go_at_call 55; refine (div64_ok _ _ k HA.out hlt hk2 _).mono ?_; rw [HQ.out, HR.out]; rintro e w2 ⟨rfl, hv2⟩; have mark2 := hk2))
        go_ret2
        refine ⟨rfl, below_go (hv1.alloc hv1.size _) ?_ hv2⟩
        have := hv1.size
        simp
      · rw [HM.out.neg1 eo hr]
        have hq1 : q + 1 < 18446744073709551616 := by omega
        have hq0 : 0 ≤ q + 1 := by omega
        have hB : q < 9223372036854775808 := by omega
        clear eo pa pb
        go_enter Try.func48, Try.ntmps48
        go_wp2_with (first
              | (go_at_call 49; refine (size_ok _ (by assumption) _).mono ?_; rintro e w' ⟨rfl, rfl⟩)
              | (go_at_call 54; refine (product_ok a.natAbs b.natAbs xa xb _).mono ?_; rintro e w1 ⟨rfl, hv1⟩)
              | (go_at_call 51; have mk := mark2; refine (signed_i (q + 1) _ hq0 hq1 _).mono ?_; rintro e w' ⟨rfl, rfl⟩)
              | (go_at_call 55; refine (div64_ok _ _ k HA.out hlt hk2 _).mono ?_; rw [HQ.out, HR.out]; rintro e w2 ⟨rfl, hv2⟩; have mark2 := hk2))
        go_ret2
        refine ⟨rfl, below_go (hv1.alloc hv1.size _) ?_ hv2⟩
        have := hv1.size
        simp
  · have da := decide_no pa
    have db := decide_yes pb
    have eo : oneNeg a b = true := by unfold oneNeg; rw [da, db]; rfl
    by_cases hr : r = 0
    · rw [HM.out.neg0 eo hr]
      subst hr
      clear eo pa pb
      go_enter Try.func48, Try.ntmps48
      go_wp2_with (first
            | (go_at_call 49; refine (size_ok _ (by assumption) _).mono ?_; rintro e w' ⟨rfl, rfl⟩)
            | (go_at_call 54; refine (product_ok a.natAbs b.natAbs xa xb _).mono ?_; rintro e w1 ⟨rfl, hv1⟩)
            | (go_at_call 51; have mk := mark2; refine (signed_i q _ q0 hq _).mono ?_; rintro e w' ⟨rfl, rfl⟩)
            | (go_at_call 55; refine (div64_ok _ _ k HA.out hlt hk2 _).mono ?_; rw [HQ.out, HR.out]; rintro e w2 ⟨rfl, hv2⟩; have mark2 := hk2))
      go_ret2
      refine ⟨rfl, below_go (hv1.alloc hv1.size _) ?_ hv2⟩
      have := hv1.size
      simp
    · have dr : decide (0 < r) = true := by simp; omega
      by_cases hB : 9223372036854775808 ≤ q
      · have hf : ¬ Fits (a * b / (k : Int)) := by
          rw [HM.out.neg1 eo hr]; unfold sgi; simp only [if_true]; exact fits_least (by omega)
        rw [fitV_out hf, fitE_out hf]
        clear eo pa pb hf HM
        go_enter Try.func48, Try.ntmps48
        go_wp2_with (first
              | (go_at_call 49; refine (size_ok _ (by assumption) _).mono ?_; rintro e w' ⟨rfl, rfl⟩)
              | (go_at_call 54; refine (product_ok a.natAbs b.natAbs xa xb _).mono ?_; rintro e w1 ⟨rfl, hv1⟩)
              | (go_at_call 55; refine (div64_ok _ _ k HA.out hlt hk2 _).mono ?_; rw [HQ.out, HR.out]; rintro e w2 ⟨rfl, hv2⟩; have mark2 := hk2))
        go_ret2
        refine ⟨rfl, below_go (hv1.alloc hv1.size _) ?_ hv2⟩
        have := hv1.size
        simp
      · rw [HM.out.neg1 eo hr]
        have hq1 : q + 1 < 18446744073709551616 := by omega
        have hq0 : 0 ≤ q + 1 := by omega
        have hB : q < 9223372036854775808 := by omega
        clear eo pa pb
        go_enter Try.func48, Try.ntmps48
        go_wp2_with (first
              | (go_at_call 49; refine (size_ok _ (by assumption) _).mono ?_; rintro e w' ⟨rfl, rfl⟩)
              | (go_at_call 54; refine (product_ok a.natAbs b.natAbs xa xb _).mono ?_; rintro e w1 ⟨rfl, hv1⟩)
              | (go_at_call 51; have mk := mark2; refine (signed_i (q + 1) _ hq0 hq1 _).mono ?_; rintro e w' ⟨rfl, rfl⟩)
              | (go_at_call 55; refine (div64_ok _ _ k HA.out hlt hk2 _).mono ?_; rw [HQ.out, HR.out]; rintro e w2 ⟨rfl, hv2⟩; have mark2 := hk2))
        go_ret2
        refine ⟨rfl, below_go (hv1.alloc hv1.size _) ?_ hv2⟩
        have := hv1.size
        simp
  · have da := decide_no pa
    have db := decide_no pb
    have eo : oneNeg a b = false := by unfold oneNeg; rw [da, db]; rfl
    rw [HM.out.pos eo]
    clear eo pa pb
    go_enter Try.func48, Try.ntmps48
    go_wp2_with (first
          | (go_at_call 49; refine (size_ok _ (by assumption) _).mono ?_; rintro e w' ⟨rfl, rfl⟩)
          | (go_at_call 54; refine (product_ok a.natAbs b.natAbs xa xb _).mono ?_; rintro e w1 ⟨rfl, hv1⟩)
          | (go_at_call 51; have mk := mark2; refine (signed_i q _ q0 hq _).mono ?_; rintro e w' ⟨rfl, rfl⟩)
          | (go_at_call 55; refine (div64_ok _ _ k HA.out hlt hk2 _).mono ?_; rw [HQ.out, HR.out]; rintro e w2 ⟨rfl, hv2⟩; have mark2 := hk2))
    go_ret2
    refine ⟨rfl, below_go (hv1.alloc hv1.size _) ?_ hv2⟩
    have := hv1.size
    simp
end Go.Proofs.Ytipniooflaiikaa
