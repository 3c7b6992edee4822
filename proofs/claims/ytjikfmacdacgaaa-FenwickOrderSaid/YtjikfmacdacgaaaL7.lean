/-
  The walk of FenwickOver.
-/
import Derived.Test.YtjikfmacdacgaaaR9
import Derived.Test.YtjikfmacdacgaaaR6
import Derived.Deep.QuietTactic
import Derived.BigQuiet
set_option linter.unusedVariables false
set_option linter.unusedSimpArgs false
namespace Go.Proofs.Ytjikfmacdacgaaa
open Go.RowKit Go.Shelf Fw

/-- what happens to the counters, step by step -/
theorem over_plain (M a b : Nat) (D : Int) (ha : a < M) (hb : b < M) (h0 : 0 ≤ D) (h1 : D ≤ 9223372036854775807) :
    0 ≤ c0 a + D ∧ pre c0 M + D ≤ 9223372036854775807 ∧
    0 ≤ upd c0 a D b + (9223372036854775807 - D) ∧ pre (upd c0 a D) M + (9223372036854775807 - D) ≤ 9223372036854775807 ∧
    pre (upd (upd c0 a D) b (9223372036854775807 - D)) M = 9223372036854775807 ∧
    0 ≤ upd (upd c0 a D) b (9223372036854775807 - D) a + 1 ∧ 0 ≤ upd (upd c0 a D) b (9223372036854775807 - D) b + 9223372036854775807 ∧
    0 ≤ upd (upd c0 a D) b (9223372036854775807 - D) a + -D ∧ 0 ≤ upd (upd (upd c0 a D) b (9223372036854775807 - D)) a (-D) 0 + D ∧
    pre (upd (upd (upd c0 a D) b (9223372036854775807 - D)) a (-D)) M = 9223372036854775807 - D ∧
    (∀ x, Fw.Found (upd (upd c0 a D) b (9223372036854775807 - D)) M 9223372036854775806 x → min a b ≤ x ∧ x ≤ max a b) := by
  have p0 : pre c0 M = 0 := pre_zero M
  have p1 : pre (upd c0 a D) M = D := by rw [pre_upd, p0, if_pos ha]; omega
  have p2 : pre (upd (upd c0 a D) b (9223372036854775807 - D)) M = 9223372036854775807 := by rw [pre_upd, p1, if_pos hb]; omega
  have p3 : pre (upd (upd (upd c0 a D) b (9223372036854775807 - D)) a (-D)) M = 9223372036854775807 - D := by rw [pre_upd, p2, if_pos ha]; omega
  have q1 : ∀ j, 0 ≤ upd c0 a D j := fun j => by unfold upd c0; split <;> omega
  have q1a : upd c0 a D a = D := by unfold upd c0; rw [if_pos rfl]; omega
  have q2 : ∀ j, upd c0 a D j ≤ upd (upd c0 a D) b (9223372036854775807 - D) j := fun j => by
    have := q1 j
    show _ ≤ (if j = b then upd c0 a D j + (9223372036854775807 - D) else upd c0 a D j)
    split <;> omega
  have q3 : ∀ j, 0 ≤ upd (upd (upd c0 a D) b (9223372036854775807 - D)) a (-D) j := fun j => by
    have h2 := q2 j
    have h3 := q1 j
    show 0 ≤ (if j = a then upd (upd c0 a D) b (9223372036854775807 - D) j + -D else upd (upd c0 a D) b (9223372036854775807 - D) j)
    split
    · rename_i e; subst e; omega
    · omega
  have r1 := q1 b
  have r2 := q1 a
  have r3 := q2 a
  have r4 := q2 b
  have r5 := q3 0
  refine ⟨by unfold c0; omega, by omega, by omega, by omega, p2, by omega, by omega, by omega, by omega, p3, fun x hx => ?_⟩
  have hx0 : upd (upd c0 a D) b (9223372036854775807 - D) x ≠ 0 := by
    have h2 := hx.2.1
    have h3 := hx.2.2
    simp only [pre] at h3
    omega
  by_cases e1 : x = a
  · omega
  · by_cases e2 : x = b
    · omega
    · exfalso
      apply hx0
      unfold upd c0
      rw [if_neg e2, if_neg e1]

set_option maxRecDepth 100000 in
set_option maxHeartbeats 1000000 in
theorem over_walk (x i k d : Int) (hx : 0 ≤ x ∧ x ≤ 255) (hi : 0 ≤ i ∧ i ≤ 255) (hk : 0 ≤ k ∧ k ≤ 255) (hd : -9223372036854775808 ≤ d ∧ d ≤ 9223372036854775807) (w : World) :
    Calls Try.prog 8 #[.int .u8 x, .int .u8 i, .int .u8 k, .int .i64 d] w fun e w' => e = .returned (.bool true) ∧ Below w.heap.size w w' := by
  obtain ⟨M, hM⟩ : ∃ M : Nat, 1 + x % 50 = (M : Int) := ⟨(1 + x % 50).toNat, by omega⟩
  have hM0 : 1 ≤ M := by omega
  have hM1 : M ≤ 50 := by omega
  obtain ⟨a, ha⟩ : ∃ a : Nat, i % (M : Int) = (a : Int) := ⟨(i % (M : Int)).toNat, by have := Int.emod_nonneg i (show (M : Int) ≠ 0 by omega); omega⟩
  obtain ⟨b, hb⟩ : ∃ b : Nat, k % (M : Int) = (b : Int) := ⟨(k % (M : Int)).toNat, by have := Int.emod_nonneg k (show (M : Int) ≠ 0 by omega); omega⟩
  have ha1 : a < M := by have := Int.emod_lt_of_pos i (show (0 : Int) < (M : Int) by omega); omega
  have hb1 : b < M := by have := Int.emod_lt_of_pos k (show (0 : Int) < (M : Int) by omega); omega
  by_cases hd0 : d < 0
  · go_enter Try.func8, Try.ntmps8
    go_wp2_with fail
    refine (new_ok M _ (by omega)).mono ?_
    rintro e w1 ⟨bb, s, rfl, hf, hbb, hs, hv⟩
    go_wp2_with fail
    go_quiet (fail)
    go_wp2_with fail
    have hD0 : 0 ≤ -(d + 1) := by omega
    have hD1 : -(d + 1) ≤ 9223372036854775807 := by omega
    generalize -(d + 1) = D at *
    have hv : Below w.heap.size w (w1.drewN nq) := below_drewN hv nq
    have hf : FC (w1.drewN nq) bb s M c0 := hf.below (below_drewN (Below.refl _ _) nq)
    obtain ⟨P1, P2, P3, P4, p5, P6, P7, P8, P9, P10, p11⟩ := over_plain M a b D ha1 hb1 hD0 hD1
    have P5 := Lib.hid p5
    have P11 := Lib.hid p11
    clear p11
    simp only [ha, hb]
    go_wp2_with (go_at_call 19; refine (total_any _ bb s M _ _ (.inl ⟨rfl, hf⟩)).mono ?_; rw [P5.out]; rintro e wq ⟨rfl, hb2⟩; have hf' := hf.below hb2; have hv' := below_go hv (Nat.le_refl _) hb2; clear hf hv hb2; have hf := hf'; have hv := hv'; clear hf' hv')
    refine (add_good bb s M c0 a D (by omega) (by omega) P1 P2 _ hf).mono ?_
    rintro e wq ⟨rfl, hf', ht⟩
    have hv' := below_turns hv hv.size ht (fun j hj h => by have h : j = s := h; omega)
    clear hf hv ht
    have hf := hf'
    have hv := hv'
    clear hf' hv'
    go_wp2_with (go_at_call 19; refine (total_any _ bb s M _ _ (.inl ⟨rfl, hf⟩)).mono ?_; rw [P5.out]; rintro e wq ⟨rfl, hb2⟩; have hf' := hf.below hb2; have hv' := below_go hv (Nat.le_refl _) hb2; clear hf hv hb2; have hf := hf'; have hv := hv'; clear hf' hv')
    refine (add_good bb s M (upd c0 a D) b (9223372036854775807 - D) (by omega) (by omega) P3 P4 _ hf).mono ?_
    rintro e wq ⟨rfl, hf', ht⟩
    have hv' := below_turns hv hv.size ht (fun j hj h => by have h : j = s := h; omega)
    clear hf hv ht
    have hf := hf'
    have hv := hv'
    clear hf' hv'
    go_wp2_with (go_at_call 19; refine (total_any _ bb s M _ _ (.inl ⟨rfl, hf⟩)).mono ?_; rw [P5.out]; rintro e wq ⟨rfl, hb2⟩; have hf' := hf.below hb2; have hv' := below_go hv (Nat.le_refl _) hb2; clear hf hv hb2; have hf := hf'; have hv := hv'; clear hf' hv')
    refine (add_over bb s M (upd (upd c0 a D) b (9223372036854775807 - D)) a 1 (by omega) (by omega) (by omega) P6 (by omega) _ hf).mono ?_
    rintro e wq ⟨rfl, hb2⟩
    have hf' := hf.below hb2; have hv' := below_go hv (Nat.le_refl _) hb2; clear hf hv hb2; have hf := hf'; have hv := hv'; clear hf' hv'
    go_wp2_with (go_at_call 19; refine (total_any _ bb s M _ _ (.inl ⟨rfl, hf⟩)).mono ?_; rw [P5.out]; rintro e wq ⟨rfl, hb2⟩; have hf' := hf.below hb2; have hv' := below_go hv (Nat.le_refl _) hb2; clear hf hv hb2; have hf := hf'; have hv := hv'; clear hf' hv')
    refine (add_over bb s M (upd (upd c0 a D) b (9223372036854775807 - D)) b 9223372036854775807 (by omega) (by omega) (by omega) P7 (by omega) _ hf).mono ?_
    rintro e wq ⟨rfl, hb2⟩
    have hf' := hf.below hb2; have hv' := below_go hv (Nat.le_refl _) hb2; clear hf hv hb2; have hf := hf'; have hv := hv'; clear hf' hv'
    go_wp2_with (go_at_call 19; refine (total_any _ bb s M _ _ (.inl ⟨rfl, hf⟩)).mono ?_; rw [P5.out]; rintro e wq ⟨rfl, hb2⟩; have hf' := hf.below hb2; have hv' := below_go hv (Nat.le_refl _) hb2; clear hf hv hb2; have hf := hf'; have hv := hv'; clear hf' hv')
    refine (add_out bb s M (upd (upd c0 a D) b (9223372036854775807 - D)) M 1 (.inr (Int.le_refl _)) _ hf).mono ?_
    rintro e wq ⟨rfl, hb2⟩
    have hf' := hf.below hb2; have hv' := below_go hv (Nat.le_refl _) hb2; clear hf hv hb2; have hf := hf'; have hv := hv'; clear hf' hv'
    go_wp2_with (go_at_call 19; refine (total_any _ bb s M _ _ (.inl ⟨rfl, hf⟩)).mono ?_; rw [P5.out]; rintro e wq ⟨rfl, hb2⟩; have hf' := hf.below hb2; have hv' := below_go hv (Nat.le_refl _) hb2; clear hf hv hb2; have hf := hf'; have hv := hv'; clear hf' hv')
    refine (prefix_all _ bb s M (upd (upd c0 a D) b (9223372036854775807 - D)) _ _ (.inl ⟨rfl, hf⟩)).mono ?_
    rw [show preV (upd (upd c0 a D) b (9223372036854775807 - D)) M (M : Int) = 9223372036854775807 from by unfold preV; rw [clip_nat (Nat.le_refl _)]; exact P5.out]
    rintro e wq ⟨rfl, hb2⟩
    have hf' := hf.below hb2; have hv' := below_go hv (Nat.le_refl _) hb2; clear hf hv hb2; have hf := hf'; have hv := hv'; clear hf' hv'
    obtain ⟨i0, hi0⟩ := found_ex (upd (upd c0 a D) b (9223372036854775807 - D)) 9223372036854775806 (by decide) M (by omega)
    obtain ⟨g1, g2⟩ := P11.out i0 hi0
    have HI := Lib.hid hi0
    clear hi0
    have g3 : decide ((i0 : Int) < min (a : Int) (b : Int)) = false := by simp; omega
    have g4 : decide (max (a : Int) (b : Int) < (i0 : Int)) = false := by simp; omega
    go_wp2_with (go_at_call 19; refine (total_any _ bb s M _ _ (.inl ⟨rfl, hf⟩)).mono ?_; rw [P5.out]; rintro e wq ⟨rfl, hb2⟩; have hf' := hf.below hb2; have hv' := below_go hv (Nat.le_refl _) hb2; clear hf hv hb2; have hf := hf'; have hv := hv'; clear hf' hv')
    refine (find_ok bb s M (upd (upd c0 a D) b (9223372036854775807 - D)) 9223372036854775806 i0 _ hf HI.out).mono ?_
    rintro e wq ⟨rfl, hb2⟩
    have hf' := hf.below hb2; have hv' := below_go hv (Nat.le_refl _) hb2; clear hf hv hb2; have hf := hf'; have hv := hv'; clear hf' hv'
    go_wp2_with (go_at_call 19; refine (total_any _ bb s M _ _ (.inl ⟨rfl, hf⟩)).mono ?_; rw [P5.out]; rintro e wq ⟨rfl, hb2⟩; have hf' := hf.below hb2; have hv' := below_go hv (Nat.le_refl _) hb2; clear hf hv hb2; have hf := hf'; have hv := hv'; clear hf' hv')
    refine (find_big bb s M (upd (upd c0 a D) b (9223372036854775807 - D)) 9223372036854775807 _ hf (by decide) (by omega)).mono ?_
    rintro e wq ⟨rfl, hb2⟩
    have hf' := hf.below hb2; have hv' := below_go hv (Nat.le_refl _) hb2; clear hf hv hb2; have hf := hf'; have hv := hv'; clear hf' hv'
    go_wp2_with (go_at_call 19; refine (total_any _ bb s M _ _ (.inl ⟨rfl, hf⟩)).mono ?_; rw [P5.out]; rintro e wq ⟨rfl, hb2⟩; have hf' := hf.below hb2; have hv' := below_go hv (Nat.le_refl _) hb2; clear hf hv hb2; have hf := hf'; have hv := hv'; clear hf' hv')
    refine (add_good bb s M (upd (upd c0 a D) b (9223372036854775807 - D)) a (-D) (by omega) (by omega) P8 (by omega) _ hf).mono ?_
    rintro e wq ⟨rfl, hf', ht⟩
    have hv' := below_turns hv hv.size ht (fun j hj h => by have h : j = s := h; omega)
    clear hf hv ht
    have hf := hf'
    have hv := hv'
    clear hf' hv'
    go_wp2_with (go_at_call 19; refine (total_any _ bb s M _ _ (.inl ⟨rfl, hf⟩)).mono ?_; rw [P5.out]; rintro e wq ⟨rfl, hb2⟩; have hf' := hf.below hb2; have hv' := below_go hv (Nat.le_refl _) hb2; clear hf hv hb2; have hf := hf'; have hv := hv'; clear hf' hv')
    refine (add_good bb s M (upd (upd (upd c0 a D) b (9223372036854775807 - D)) a (-D)) 0 D (by omega) (by omega) P9 (by omega) _ hf).mono ?_
    rintro e wq ⟨rfl, hf', ht⟩
    have hv' := below_turns hv hv.size ht (fun j hj h => by have h : j = s := h; omega)
    clear hf hv ht
    have hf := hf'
    have hv := hv'
    clear hf' hv'
    by_cases hlast : (upd (upd (upd (upd c0 a D) b (9223372036854775807 - D)) a (-D)) 0 D) 0 = 9223372036854775807
    · go_wp2_with (go_at_call 19; refine (total_any _ bb s M _ _ (.inl ⟨rfl, hf⟩)).mono ?_; rw [P5.out]; rintro e wq ⟨rfl, hb2⟩; have hf' := hf.below hb2; have hv' := below_go hv (Nat.le_refl _) hb2; clear hf hv hb2; have hf := hf'; have hv := hv'; clear hf' hv')
      refine (add_good bb s M (upd (upd (upd (upd c0 a D) b (9223372036854775807 - D)) a (-D)) 0 D) 0 (-9223372036854775807) (by omega) (by omega) (by omega) (by rw [pre_upd, if_pos (by omega)]; omega) _ hf).mono ?_
      rintro e wq ⟨rfl, hf', ht⟩
      have hv' := below_turns hv hv.size ht (fun j hj h => by have h : j = s := h; omega)
      clear hf hv ht
      have hf := hf'
      have hv := hv'
      clear hf' hv'
      go_wp2_with (go_at_call 15; refine (works_ok _).mono ?_; rintro e wq ⟨rfl, hb2⟩)
      go_ret
      exact ⟨rfl, below_go hv (Nat.le_refl _) hb2⟩
    · have hle := hf.good.le (k := 0) (by omega)
      have hnn := hf.good.nn 0 (by omega)
      have hne : ((upd (upd (upd (upd c0 a D) b (9223372036854775807 - D)) a (-D)) 0 D) 0 == 9223372036854775807) = false := by simp only [beq_eq_false_iff_ne]; exact hlast
      have HN := Lib.hid hne
      go_wp2_with (go_at_call 19; refine (total_any _ bb s M _ _ (.inl ⟨rfl, hf⟩)).mono ?_; rw [P5.out]; rintro e wq ⟨rfl, hb2⟩; have hf' := hf.below hb2; have hv' := below_go hv (Nat.le_refl _) hb2; clear hf hv hb2; have hf := hf'; have hv := hv'; clear hf' hv')
      refine (add_neg bb s M (upd (upd (upd (upd c0 a D) b (9223372036854775807 - D)) a (-D)) 0 D) 0 (-9223372036854775807) (by omega) (by omega) (by omega) _ hf).mono ?_
      rintro e wq ⟨rfl, hb2⟩
      have hf' := hf.below hb2; have hv' := below_go hv (Nat.le_refl _) hb2; clear hf hv hb2; have hf := hf'; have hv := hv'; clear hf' hv'
      have eg : getV (upd (upd (upd (upd c0 a D) b (9223372036854775807 - D)) a (-D)) 0 D) M 0 = (upd (upd (upd (upd c0 a D) b (9223372036854775807 - D)) a (-D)) 0 D) 0 := by unfold getV; rw [if_pos ⟨by omega, by omega⟩]; rfl
      have EG := Lib.hid eg
      clear eg
      go_wp2_with fail
      refine (get_any _ bb s M (upd (upd (upd (upd c0 a D) b (9223372036854775807 - D)) a (-D)) 0 D) _ 0 (.inl ⟨rfl, hf⟩)).mono ?_
      rw [EG.out]
      rintro e wq ⟨rfl, hb2⟩
      have hf' := hf.below hb2; have hv' := below_go hv (Nat.le_refl _) hb2; clear hf hv hb2; have hf := hf'; have hv := hv'; clear hf' hv'
      go_wp2_with (go_at_call 15; refine (works_ok _).mono ?_; rintro e wq ⟨rfl, hb2⟩)
      go_ret
      exact ⟨rfl, below_go hv (Nat.le_refl _) hb2⟩
  · go_enter Try.func8, Try.ntmps8
    go_wp2_with fail
    refine (new_ok M _ (by omega)).mono ?_
    rintro e w1 ⟨bb, s, rfl, hf, hbb, hs, hv⟩
    go_wp2_with fail
    go_quiet (fail)
    go_wp2_with fail
    have hD0 : 0 ≤ d := by omega
    have hD1 : d ≤ 9223372036854775807 := by omega
    generalize d = D at *
    have hv : Below w.heap.size w (w1.drewN nq) := below_drewN hv nq
    have hf : FC (w1.drewN nq) bb s M c0 := hf.below (below_drewN (Below.refl _ _) nq)
    obtain ⟨P1, P2, P3, P4, p5, P6, P7, P8, P9, P10, p11⟩ := over_plain M a b D ha1 hb1 hD0 hD1
    have P5 := Lib.hid p5
    have P11 := Lib.hid p11
    clear p11
    simp only [ha, hb]
    go_wp2_with (go_at_call 19; refine (total_any _ bb s M _ _ (.inl ⟨rfl, hf⟩)).mono ?_; rw [P5.out]; rintro e wq ⟨rfl, hb2⟩; have hf' := hf.below hb2; have hv' := below_go hv (Nat.le_refl _) hb2; clear hf hv hb2; have hf := hf'; have hv := hv'; clear hf' hv')
    refine (add_good bb s M c0 a D (by omega) (by omega) P1 P2 _ hf).mono ?_
    rintro e wq ⟨rfl, hf', ht⟩
    have hv' := below_turns hv hv.size ht (fun j hj h => by have h : j = s := h; omega)
    clear hf hv ht
    have hf := hf'
    have hv := hv'
    clear hf' hv'
    go_wp2_with (go_at_call 19; refine (total_any _ bb s M _ _ (.inl ⟨rfl, hf⟩)).mono ?_; rw [P5.out]; rintro e wq ⟨rfl, hb2⟩; have hf' := hf.below hb2; have hv' := below_go hv (Nat.le_refl _) hb2; clear hf hv hb2; have hf := hf'; have hv := hv'; clear hf' hv')
    refine (add_good bb s M (upd c0 a D) b (9223372036854775807 - D) (by omega) (by omega) P3 P4 _ hf).mono ?_
    rintro e wq ⟨rfl, hf', ht⟩
    have hv' := below_turns hv hv.size ht (fun j hj h => by have h : j = s := h; omega)
    clear hf hv ht
    have hf := hf'
    have hv := hv'
    clear hf' hv'
    go_wp2_with (go_at_call 19; refine (total_any _ bb s M _ _ (.inl ⟨rfl, hf⟩)).mono ?_; rw [P5.out]; rintro e wq ⟨rfl, hb2⟩; have hf' := hf.below hb2; have hv' := below_go hv (Nat.le_refl _) hb2; clear hf hv hb2; have hf := hf'; have hv := hv'; clear hf' hv')
    refine (add_over bb s M (upd (upd c0 a D) b (9223372036854775807 - D)) a 1 (by omega) (by omega) (by omega) P6 (by omega) _ hf).mono ?_
    rintro e wq ⟨rfl, hb2⟩
    have hf' := hf.below hb2; have hv' := below_go hv (Nat.le_refl _) hb2; clear hf hv hb2; have hf := hf'; have hv := hv'; clear hf' hv'
    go_wp2_with (go_at_call 19; refine (total_any _ bb s M _ _ (.inl ⟨rfl, hf⟩)).mono ?_; rw [P5.out]; rintro e wq ⟨rfl, hb2⟩; have hf' := hf.below hb2; have hv' := below_go hv (Nat.le_refl _) hb2; clear hf hv hb2; have hf := hf'; have hv := hv'; clear hf' hv')
    refine (add_over bb s M (upd (upd c0 a D) b (9223372036854775807 - D)) b 9223372036854775807 (by omega) (by omega) (by omega) P7 (by omega) _ hf).mono ?_
    rintro e wq ⟨rfl, hb2⟩
    have hf' := hf.below hb2; have hv' := below_go hv (Nat.le_refl _) hb2; clear hf hv hb2; have hf := hf'; have hv := hv'; clear hf' hv'
    go_wp2_with (go_at_call 19; refine (total_any _ bb s M _ _ (.inl ⟨rfl, hf⟩)).mono ?_; rw [P5.out]; rintro e wq ⟨rfl, hb2⟩; have hf' := hf.below hb2; have hv' := below_go hv (Nat.le_refl _) hb2; clear hf hv hb2; have hf := hf'; have hv := hv'; clear hf' hv')
    refine (add_out bb s M (upd (upd c0 a D) b (9223372036854775807 - D)) M 1 (.inr (Int.le_refl _)) _ hf).mono ?_
    rintro e wq ⟨rfl, hb2⟩
    have hf' := hf.below hb2; have hv' := below_go hv (Nat.le_refl _) hb2; clear hf hv hb2; have hf := hf'; have hv := hv'; clear hf' hv'
    go_wp2_with (go_at_call 19; refine (total_any _ bb s M _ _ (.inl ⟨rfl, hf⟩)).mono ?_; rw [P5.out]; rintro e wq ⟨rfl, hb2⟩; have hf' := hf.below hb2; have hv' := below_go hv (Nat.le_refl _) hb2; clear hf hv hb2; have hf := hf'; have hv := hv'; clear hf' hv')
    refine (prefix_all _ bb s M (upd (upd c0 a D) b (9223372036854775807 - D)) _ _ (.inl ⟨rfl, hf⟩)).mono ?_
    rw [show preV (upd (upd c0 a D) b (9223372036854775807 - D)) M (M : Int) = 9223372036854775807 from by unfold preV; rw [clip_nat (Nat.le_refl _)]; exact P5.out]
    rintro e wq ⟨rfl, hb2⟩
    have hf' := hf.below hb2; have hv' := below_go hv (Nat.le_refl _) hb2; clear hf hv hb2; have hf := hf'; have hv := hv'; clear hf' hv'
    obtain ⟨i0, hi0⟩ := found_ex (upd (upd c0 a D) b (9223372036854775807 - D)) 9223372036854775806 (by decide) M (by omega)
    obtain ⟨g1, g2⟩ := P11.out i0 hi0
    have HI := Lib.hid hi0
    clear hi0
    have g3 : decide ((i0 : Int) < min (a : Int) (b : Int)) = false := by simp; omega
    have g4 : decide (max (a : Int) (b : Int) < (i0 : Int)) = false := by simp; omega
    go_wp2_with (go_at_call 19; refine (total_any _ bb s M _ _ (.inl ⟨rfl, hf⟩)).mono ?_; rw [P5.out]; rintro e wq ⟨rfl, hb2⟩; have hf' := hf.below hb2; have hv' := below_go hv (Nat.le_refl _) hb2; clear hf hv hb2; have hf := hf'; have hv := hv'; clear hf' hv')
    refine (find_ok bb s M (upd (upd c0 a D) b (9223372036854775807 - D)) 9223372036854775806 i0 _ hf HI.out).mono ?_
    rintro e wq ⟨rfl, hb2⟩
    have hf' := hf.below hb2; have hv' := below_go hv (Nat.le_refl _) hb2; clear hf hv hb2; have hf := hf'; have hv := hv'; clear hf' hv'
    go_wp2_with (go_at_call 19; refine (total_any _ bb s M _ _ (.inl ⟨rfl, hf⟩)).mono ?_; rw [P5.out]; rintro e wq ⟨rfl, hb2⟩; have hf' := hf.below hb2; have hv' := below_go hv (Nat.le_refl _) hb2; clear hf hv hb2; have hf := hf'; have hv := hv'; clear hf' hv')
    refine (find_big bb s M (upd (upd c0 a D) b (9223372036854775807 - D)) 9223372036854775807 _ hf (by decide) (by omega)).mono ?_
    rintro e wq ⟨rfl, hb2⟩
    have hf' := hf.below hb2; have hv' := below_go hv (Nat.le_refl _) hb2; clear hf hv hb2; have hf := hf'; have hv := hv'; clear hf' hv'
    go_wp2_with (go_at_call 19; refine (total_any _ bb s M _ _ (.inl ⟨rfl, hf⟩)).mono ?_; rw [P5.out]; rintro e wq ⟨rfl, hb2⟩; have hf' := hf.below hb2; have hv' := below_go hv (Nat.le_refl _) hb2; clear hf hv hb2; have hf := hf'; have hv := hv'; clear hf' hv')
    refine (add_good bb s M (upd (upd c0 a D) b (9223372036854775807 - D)) a (-D) (by omega) (by omega) P8 (by omega) _ hf).mono ?_
    rintro e wq ⟨rfl, hf', ht⟩
    have hv' := below_turns hv hv.size ht (fun j hj h => by have h : j = s := h; omega)
    clear hf hv ht
    have hf := hf'
    have hv := hv'
    clear hf' hv'
    go_wp2_with (go_at_call 19; refine (total_any _ bb s M _ _ (.inl ⟨rfl, hf⟩)).mono ?_; rw [P5.out]; rintro e wq ⟨rfl, hb2⟩; have hf' := hf.below hb2; have hv' := below_go hv (Nat.le_refl _) hb2; clear hf hv hb2; have hf := hf'; have hv := hv'; clear hf' hv')
    refine (add_good bb s M (upd (upd (upd c0 a D) b (9223372036854775807 - D)) a (-D)) 0 D (by omega) (by omega) P9 (by omega) _ hf).mono ?_
    rintro e wq ⟨rfl, hf', ht⟩
    have hv' := below_turns hv hv.size ht (fun j hj h => by have h : j = s := h; omega)
    clear hf hv ht
    have hf := hf'
    have hv := hv'
    clear hf' hv'
    by_cases hlast : (upd (upd (upd (upd c0 a D) b (9223372036854775807 - D)) a (-D)) 0 D) 0 = 9223372036854775807
    · go_wp2_with (go_at_call 19; refine (total_any _ bb s M _ _ (.inl ⟨rfl, hf⟩)).mono ?_; rw [P5.out]; rintro e wq ⟨rfl, hb2⟩; have hf' := hf.below hb2; have hv' := below_go hv (Nat.le_refl _) hb2; clear hf hv hb2; have hf := hf'; have hv := hv'; clear hf' hv')
      refine (add_good bb s M (upd (upd (upd (upd c0 a D) b (9223372036854775807 - D)) a (-D)) 0 D) 0 (-9223372036854775807) (by omega) (by omega) (by omega) (by rw [pre_upd, if_pos (by omega)]; omega) _ hf).mono ?_
      rintro e wq ⟨rfl, hf', ht⟩
      have hv' := below_turns hv hv.size ht (fun j hj h => by have h : j = s := h; omega)
      clear hf hv ht
      have hf := hf'
      have hv := hv'
      clear hf' hv'
      go_wp2_with (go_at_call 15; refine (works_ok _).mono ?_; rintro e wq ⟨rfl, hb2⟩)
      go_ret
      exact ⟨rfl, below_go hv (Nat.le_refl _) hb2⟩
    · have hle := hf.good.le (k := 0) (by omega)
      have hnn := hf.good.nn 0 (by omega)
      have hne : ((upd (upd (upd (upd c0 a D) b (9223372036854775807 - D)) a (-D)) 0 D) 0 == 9223372036854775807) = false := by simp only [beq_eq_false_iff_ne]; exact hlast
      have HN := Lib.hid hne
      go_wp2_with (go_at_call 19; refine (total_any _ bb s M _ _ (.inl ⟨rfl, hf⟩)).mono ?_; rw [P5.out]; rintro e wq ⟨rfl, hb2⟩; have hf' := hf.below hb2; have hv' := below_go hv (Nat.le_refl _) hb2; clear hf hv hb2; have hf := hf'; have hv := hv'; clear hf' hv')
      refine (add_neg bb s M (upd (upd (upd (upd c0 a D) b (9223372036854775807 - D)) a (-D)) 0 D) 0 (-9223372036854775807) (by omega) (by omega) (by omega) _ hf).mono ?_
      rintro e wq ⟨rfl, hb2⟩
      have hf' := hf.below hb2; have hv' := below_go hv (Nat.le_refl _) hb2; clear hf hv hb2; have hf := hf'; have hv := hv'; clear hf' hv'
      have eg : getV (upd (upd (upd (upd c0 a D) b (9223372036854775807 - D)) a (-D)) 0 D) M 0 = (upd (upd (upd (upd c0 a D) b (9223372036854775807 - D)) a (-D)) 0 D) 0 := by unfold getV; rw [if_pos ⟨by omega, by omega⟩]; rfl
      have EG := Lib.hid eg
      clear eg
      go_wp2_with fail
      refine (get_any _ bb s M (upd (upd (upd (upd c0 a D) b (9223372036854775807 - D)) a (-D)) 0 D) _ 0 (.inl ⟨rfl, hf⟩)).mono ?_
      rw [EG.out]
      rintro e wq ⟨rfl, hb2⟩
      have hf' := hf.below hb2; have hv' := below_go hv (Nat.le_refl _) hb2; clear hf hv hb2; have hf := hf'; have hv := hv'; clear hf' hv'
      go_wp2_with (go_at_call 15; refine (works_ok _).mono ?_; rintro e wq ⟨rfl, hb2⟩)
      go_ret
      exact ⟨rfl, below_go hv (Nat.le_refl _) hb2⟩

end Go.Proofs.Ytjikfmacdacgaaa
