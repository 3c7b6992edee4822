/-
  The walks of CheckedInverts and CheckedRounds.
-/
import Derived.Test.YtmjchiebpnnbpaaE1
set_option linter.unusedVariables false
set_option linter.unusedSimpArgs false
namespace Go.Proofs.Ytmjchiebpnnbpaa
open Go.RowKit Go.Shelf

theorem mdV_of {a b c : Int} (h : ¬ c < 1) (hf : Fits (a * b / c)) : mdV a b c = a * b / c := by unfold mdV; rw [if_neg h, fitV_in hf]
theorem mdE_of {a b c : Int} (h : ¬ c < 1) (hf : Fits (a * b / c)) : mdE a b c = 0 := by unfold mdE; rw [if_neg h, fitE_in hf]
theorem mdV_out {a b c : Int} (h : ¬ c < 1) (hf : ¬ Fits (a * b / c)) : mdV a b c = 0 := by unfold mdV; rw [if_neg h, fitV_out hf]
theorem mdE_out {a b c : Int} (h : ¬ c < 1) (hf : ¬ Fits (a * b / c)) : mdE a b c = 7 := by unfold mdE; rw [if_neg h, fitE_out hf]
theorem below_end {B : Nat} {a b c : World} (h : Below B a b) (hB : B ≤ b.heap.size) (k : Below b.heap.size b c) : Below B a c := h.trans (k.mono hB)

set_option maxRecDepth 100000 in
theorem inverts_walk (a b : Int) (ha : Fits a) (hb : Fits b) (w : World) :
    Calls Try.prog 9 #[.int .i64 a, .int .i64 b] w fun e w' => e = .returned (.bool true) ∧ Below w.heap.size w w' := by
  have e3 : a + b - b = a := by omega
  have S3 := Lib.hid (show fitV (a + b - b) = a by rw [e3]; exact fitV_in ha)
  have S4 := Lib.hid (show fitE (a + b - b) = 0 by rw [e3]; exact fitE_in ha)
  clear e3
  by_cases hs : Fits (a + b)
  · have S1 := Lib.hid (fitV_in hs)
    have S2 := Lib.hid (fitE_in hs)
    by_cases hp : Fits (a * b)
    · have P1 := Lib.hid (fitV_in hp)
      have P2 := Lib.hid (fitE_in hp)
      by_cases hb1 : b < 1
      · go_enter Try.func9, Try.ntmps9
        go_wp2_with (first
          | (go_at_call 20; refine (add_ok a b ha hb _).mono ?_; rw [S1.out, S2.out]; rintro e w' ⟨rfl, rfl⟩)
          | (go_at_call 22; refine (sub_ok (a + b) b hs hb _).mono ?_; rw [S3.out, S4.out]; rintro e w' ⟨rfl, rfl⟩)
          | (go_at_call 21; refine (mul_ok a b ha hb _).mono ?_; rw [P1.out, P2.out]; rintro e w1 ⟨rfl, hv1⟩)
          | (go_at_call 15; refine (works_ok _).mono ?_; rintro e w9 ⟨rfl, hv9⟩))
        go_ret
        exact ⟨rfl, below_end hv1 hv1.size hv9⟩
      · have hq : a * b * 1 / b = a := by rw [Int.mul_one]; exact Int.mul_ediv_cancel _ (by omega)
        have Q1 := Lib.hid (show mdV (a * b) 1 b = a by rw [mdV_of hb1 (by rw [hq]; exact ha), hq])
        have Q2 := Lib.hid (show mdE (a * b) 1 b = 0 by rw [mdE_of hb1 (by rw [hq]; exact ha)])
        clear hq
        go_enter Try.func9, Try.ntmps9
        go_wp2_with (first
          | (go_at_call 20; refine (add_ok a b ha hb _).mono ?_; rw [S1.out, S2.out]; rintro e w' ⟨rfl, rfl⟩)
          | (go_at_call 22; refine (sub_ok (a + b) b hs hb _).mono ?_; rw [S3.out, S4.out]; rintro e w' ⟨rfl, rfl⟩)
          | (go_at_call 21; refine (mul_ok a b ha hb _).mono ?_; rw [P1.out, P2.out]; rintro e w1 ⟨rfl, hv1⟩)
          | (go_at_call 16; refine (md_ok (a * b) 1 b hp (by decide) hb _).mono ?_; rw [Q1.out, Q2.out]; rintro e w2 ⟨rfl, hv2⟩)
          | (go_at_call 15; refine (works_ok _).mono ?_; rintro e w9 ⟨rfl, hv9⟩))
        go_ret
        have q2 := below_end hv1 hv1.size hv2
        exact ⟨rfl, below_end q2 q2.size hv9⟩
    · have P1 := Lib.hid (fitV_out hp)
      have P2 := Lib.hid (fitE_out hp)
      go_enter Try.func9, Try.ntmps9
      go_wp2_with (first
        | (go_at_call 20; refine (add_ok a b ha hb _).mono ?_; rw [S1.out, S2.out]; rintro e w' ⟨rfl, rfl⟩)
        | (go_at_call 22; refine (sub_ok (a + b) b hs hb _).mono ?_; rw [S3.out, S4.out]; rintro e w' ⟨rfl, rfl⟩)
        | (go_at_call 21; refine (mul_ok a b ha hb _).mono ?_; rw [P1.out, P2.out]; rintro e w1 ⟨rfl, hv1⟩)
        | (go_at_call 15; refine (works_ok _).mono ?_; rintro e w9 ⟨rfl, hv9⟩))
      go_ret
      exact ⟨rfl, below_end hv1 hv1.size hv9⟩
  · have S1 := Lib.hid (fitV_out hs)
    have S2 := Lib.hid (fitE_out hs)
    by_cases hp : Fits (a * b)
    · have P1 := Lib.hid (fitV_in hp)
      have P2 := Lib.hid (fitE_in hp)
      by_cases hb1 : b < 1
      · go_enter Try.func9, Try.ntmps9
        go_wp2_with (first
          | (go_at_call 20; refine (add_ok a b ha hb _).mono ?_; rw [S1.out, S2.out]; rintro e w' ⟨rfl, rfl⟩)
          | (go_at_call 21; refine (mul_ok a b ha hb _).mono ?_; rw [P1.out, P2.out]; rintro e w1 ⟨rfl, hv1⟩)
          | (go_at_call 15; refine (works_ok _).mono ?_; rintro e w9 ⟨rfl, hv9⟩))
        go_ret
        exact ⟨rfl, below_end hv1 hv1.size hv9⟩
      · have hq : a * b * 1 / b = a := by rw [Int.mul_one]; exact Int.mul_ediv_cancel _ (by omega)
        have Q1 := Lib.hid (show mdV (a * b) 1 b = a by rw [mdV_of hb1 (by rw [hq]; exact ha), hq])
        have Q2 := Lib.hid (show mdE (a * b) 1 b = 0 by rw [mdE_of hb1 (by rw [hq]; exact ha)])
        clear hq
        go_enter Try.func9, Try.ntmps9
        go_wp2_with (first
          | (go_at_call 20; refine (add_ok a b ha hb _).mono ?_; rw [S1.out, S2.out]; rintro e w' ⟨rfl, rfl⟩)
          | (go_at_call 21; refine (mul_ok a b ha hb _).mono ?_; rw [P1.out, P2.out]; rintro e w1 ⟨rfl, hv1⟩)
          | (go_at_call 16; refine (md_ok (a * b) 1 b hp (by decide) hb _).mono ?_; rw [Q1.out, Q2.out]; rintro e w2 ⟨rfl, hv2⟩)
          | (go_at_call 15; refine (works_ok _).mono ?_; rintro e w9 ⟨rfl, hv9⟩))
        go_ret
        have q2 := below_end hv1 hv1.size hv2
        exact ⟨rfl, below_end q2 q2.size hv9⟩
    · have P1 := Lib.hid (fitV_out hp)
      have P2 := Lib.hid (fitE_out hp)
      go_enter Try.func9, Try.ntmps9
      go_wp2_with (first
        | (go_at_call 20; refine (add_ok a b ha hb _).mono ?_; rw [S1.out, S2.out]; rintro e w' ⟨rfl, rfl⟩)
        | (go_at_call 21; refine (mul_ok a b ha hb _).mono ?_; rw [P1.out, P2.out]; rintro e w1 ⟨rfl, hv1⟩)
        | (go_at_call 15; refine (works_ok _).mono ?_; rintro e w9 ⟨rfl, hv9⟩))
      go_ret
      exact ⟨rfl, below_end hv1 hv1.size hv9⟩

set_option maxRecDepth 100000 in
theorem rounds_walk (a b c : Int) (ha : Fits a) (hb : Fits b) (hc : Fits c) (w : World) :
    Calls Try.prog 7 #[.int .i64 a, .int .i64 b, .int .i64 c] w fun e w' => e = .returned (.bool true) ∧ Below w.heap.size w w' := by
  by_cases h0 : c < 1
  · go_enter Try.func7, Try.ntmps7
    go_wp2_with (go_at_call 15; refine (works_ok _).mono ?_; rintro e w9 ⟨rfl, hv9⟩)
    go_ret
    exact ⟨rfl, hv9⟩
  have hq : a * c / c = a := Int.mul_ediv_cancel _ (by omega)
  have A1 := Lib.hid (show mdV a c c = a by rw [mdV_of h0 (by rw [hq]; exact ha), hq])
  have A2 := Lib.hid (show mdE a c c = 0 by rw [mdE_of h0 (by rw [hq]; exact ha)])
  have hem := Int.ediv_mul_add_emod (a * b) c
  have hm0 := Int.emod_nonneg (a * b) (show c ≠ 0 by omega)
  have hm1 := Int.emod_lt_of_pos (a * b) (show 0 < c by omega)
  clear hq
  obtain ⟨v, hv⟩ : ∃ v, mdV a b c = v := ⟨_, rfl⟩
  obtain ⟨u, hu⟩ : ∃ u, mdE a b c = u := ⟨_, rfl⟩
  have hvf : Fits v := by rw [← hv]; unfold mdV; split; exact ⟨by decide, by decide⟩; exact fit_fits _
  have V1 := Lib.hid hv
  have V2 := Lib.hid hu
  have U : u = 0 → Fits (a * b / c) := fun h => by
    rcases Classical.em (Fits (a * b / c)) with h1 | h1
    · exact h1
    · rw [← hu, mdE_out h0 h1] at h; cases h
  have U2 : Fits (a * b / c) → v = a * b / c := fun h => by rw [← hv, mdV_of h0 h]
  clear hv hu
  have d0 := decide_no h0
  by_cases hu0 : u = 0
  · obtain rfl := U2 (U hu0)
    subst hu0
    clear U U2
    by_cases hp : Fits (a * b)
    · have P1 := Lib.hid (fitV_in hp)
      have P2 := Lib.hid (fitE_in hp)
      by_cases hm : Fits (a * b / c * c)
      · have M1 := Lib.hid (fitV_in hm)
        have M2 := Lib.hid (fitE_in hm)
        obtain ⟨r, hr⟩ : ∃ r, a * b - a * b / c * c = r := ⟨_, rfl⟩
        have r0 : 0 ≤ r := by omega
        have r1 : r < c := by omega
        have hrf : Fits r := ⟨by omega, by have := hc.2; omega⟩
        have R1 := Lib.hid (show fitV (a * b - a * b / c * c) = r by rw [hr]; exact fitV_in hrf)
        have R2 := Lib.hid (show fitE (a * b - a * b / c * c) = 0 by rw [hr]; exact fitE_in hrf)
        clear hr hem hm0 hm1
        go_enter Try.func7, Try.ntmps7
        go_wp2_with (first
          | (go_at_call 15; refine (works_ok _).mono ?_; rintro e w9 ⟨rfl, hv9⟩)
          | (go_at_call 22; refine (sub_ok (a * b) (a * b / c * c) hp hm _).mono ?_; rw [R1.out, R2.out]; rintro e w' ⟨rfl, rfl⟩)
          | (go_at_call 21; have mk := mark3; refine (mul_ok (a * b / c) c hvf hc _).mono ?_; rw [M1.out, M2.out]; rintro e w4 ⟨rfl, hv4⟩)
          | (go_at_call 21; refine (mul_ok a b ha hb _).mono ?_; rw [P1.out, P2.out]; rintro e w3 ⟨rfl, hv3⟩; have mark3 := r0)
          | (go_at_call 16; have mk := mark1; refine (md_ok a b c ha hb hc _).mono ?_; rw [V1.out, V2.out]; rintro e w2 ⟨rfl, hv2⟩)
          | (go_at_call 16; refine (md_ok a c c ha hc hc _).mono ?_; rw [A1.out, A2.out]; rintro e w1 ⟨rfl, hv1⟩; have mark1 := r0))
        go_ret
        have q2 := below_end hv1 hv1.size hv2
        have q3 := below_end q2 q2.size hv3
        have q4 := below_end q3 q3.size hv4
        exact ⟨rfl, below_end q4 q4.size hv9⟩
      · have M1 := Lib.hid (fitV_out hm)
        have M2 := Lib.hid (fitE_out hm)
        clear hem hm0 hm1
        have r0 : True := trivial
        go_enter Try.func7, Try.ntmps7
        go_wp2_with (first
          | (go_at_call 15; refine (works_ok _).mono ?_; rintro e w9 ⟨rfl, hv9⟩)
          | (go_at_call 21; have mk := mark3; refine (mul_ok (a * b / c) c hvf hc _).mono ?_; rw [M1.out, M2.out]; rintro e w4 ⟨rfl, hv4⟩)
          | (go_at_call 21; refine (mul_ok a b ha hb _).mono ?_; rw [P1.out, P2.out]; rintro e w3 ⟨rfl, hv3⟩; have mark3 := r0)
          | (go_at_call 16; have mk := mark1; refine (md_ok a b c ha hb hc _).mono ?_; rw [V1.out, V2.out]; rintro e w2 ⟨rfl, hv2⟩)
          | (go_at_call 16; refine (md_ok a c c ha hc hc _).mono ?_; rw [A1.out, A2.out]; rintro e w1 ⟨rfl, hv1⟩; have mark1 := r0))
        go_ret
        have q2 := below_end hv1 hv1.size hv2
        have q3 := below_end q2 q2.size hv3
        have q4 := below_end q3 q3.size hv4
        exact ⟨rfl, below_end q4 q4.size hv9⟩
    · have P1 := Lib.hid (fitV_out hp)
      have P2 := Lib.hid (fitE_out hp)
      clear hem hm0 hm1
      have r0 : True := trivial
      go_enter Try.func7, Try.ntmps7
      go_wp2_with (first
        | (go_at_call 15; refine (works_ok _).mono ?_; rintro e w9 ⟨rfl, hv9⟩)
        | (go_at_call 21; have mk := mark3; refine (mul_ok (a * b / c) c hvf hc _).mono ?_; rintro e w4 ⟨rfl, hv4⟩)
        | (go_at_call 21; refine (mul_ok a b ha hb _).mono ?_; rw [P1.out, P2.out]; rintro e w3 ⟨rfl, hv3⟩; have mark3 := r0)
        | (go_at_call 16; have mk := mark1; refine (md_ok a b c ha hb hc _).mono ?_; rw [V1.out, V2.out]; rintro e w2 ⟨rfl, hv2⟩)
        | (go_at_call 16; refine (md_ok a c c ha hc hc _).mono ?_; rw [A1.out, A2.out]; rintro e w1 ⟨rfl, hv1⟩; have mark1 := r0))
      go_ret
      have q2 := below_end hv1 hv1.size hv2
      have q3 := below_end q2 q2.size hv3
      have q4 := below_end q3 q3.size hv4
      exact ⟨rfl, below_end q4 q4.size hv9⟩
  · clear U U2 hem hm0 hm1
    have hu1 : (u == 0) = false := by simpa using hu0
    have r0 : True := trivial
    go_enter Try.func7, Try.ntmps7
    go_wp2_with (first
      | (go_at_call 15; refine (works_ok _).mono ?_; rintro e w9 ⟨rfl, hv9⟩)
      | (go_at_call 21; have mk := mark3; refine (mul_ok v c hvf hc _).mono ?_; rintro e w4 ⟨rfl, hv4⟩)
      | (go_at_call 21; refine (mul_ok a b ha hb _).mono ?_; rintro e w3 ⟨rfl, hv3⟩; have mark3 := r0)
      | (go_at_call 16; have mk := mark1; refine (md_ok a b c ha hb hc _).mono ?_; rw [V1.out, V2.out]; rintro e w2 ⟨rfl, hv2⟩)
      | (go_at_call 16; refine (md_ok a c c ha hc hc _).mono ?_; rw [A1.out, A2.out]; rintro e w1 ⟨rfl, hv1⟩; have mark1 := r0))
    go_ret
    have q2 := below_end hv1 hv1.size hv2
    have q3 := below_end q2 q2.size hv3
    have q4 := below_end q3 q3.size hv4
    exact ⟨rfl, below_end q4 q4.size hv9⟩
end Go.Proofs.Ytmjchiebpnnbpaa
