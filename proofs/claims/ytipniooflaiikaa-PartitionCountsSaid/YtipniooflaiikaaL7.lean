/-
  PartitionCounts, walked.
-/
import Derived.Test.YtipniooflaiikaaL6
set_option linter.unusedVariables false
set_option linter.unusedSimpArgs false
namespace Go.Proofs.Ytipniooflaiikaa
open Go.RowKit Go.Shelf

/-- a fraction of natural numbers, not above one -/
theorem red_nat {s h : Nat} (h0 : 0 < h) (hs : s ≤ h) (hb : h ≤ 1000000) : redE s h = 0 ∧ redN s h = ((s / Nat.gcd s h : Nat) : Int) ∧ redD s h = ((h / Nat.gcd s h : Nat) : Int) := by
  have e1 : redT (s : Int) (h : Int) = ((s / Nat.gcd s h : Nat) : Int) := by
    unfold redT
    have : oneNeg (s : Int) (h : Int) = false := by
      unfold oneNeg
      have h1 : ¬ (s : Int) < 0 := by omega
      have h2 : ¬ (h : Int) < 0 := by omega
      simp [h1, h2]
    rw [this, sgi_false, Int.natAbs_natCast, Int.natAbs_natCast]
    exact (Int.natCast_ediv _ _).symm
  have e2 : redB (s : Int) (h : Int) = ((h / Nat.gcd s h : Nat) : Int) := by
    unfold redB
    rw [Int.natAbs_natCast, Int.natAbs_natCast]
    exact (Int.natCast_ediv _ _).symm
  have l1 := Nat.div_le_self s (Nat.gcd s h)
  have l2 := Nat.div_le_self h (Nat.gcd s h)
  have hok : RedOk (s : Int) (h : Int) := by
    refine ⟨?_, ?_⟩
    · rw [e1]; generalize s / Nat.gcd s h = t at l1; exact ⟨by omega, by omega⟩
    · rw [e2]; generalize h / Nat.gcd s h = t at l2; exact ⟨by omega, by omega⟩
  have hne : (h : Int) ≠ 0 := by omega
  refine ⟨?_, ?_, ?_⟩
  · unfold redE; rw [if_neg hne, if_pos hok]
  · unfold redN; rw [if_pos ⟨hne, hok⟩, e1]
  · unfold redD; rw [if_pos ⟨hne, hok⟩, e2]
theorem red_one {s h : Nat} (h0 : 0 < h) (hs : s ≤ h) : (s / Nat.gcd s h = 1 ∧ h / Nat.gcd s h = 1) ↔ s = h := by
  have d1 := Nat.gcd_dvd_left s h
  have d2 := Nat.gcd_dvd_right s h
  constructor
  · rintro ⟨e1, e2⟩
    have h1 := Nat.div_mul_cancel d1
    have h2 := Nat.div_mul_cancel d2
    rw [e1] at h1
    rw [e2] at h2
    omega
  · rintro rfl
    rw [Nat.gcd_self, Nat.div_self h0]
    exact ⟨rfl, rfl⟩
theorem q_swap {n : Nat} (z y : Nat → Int) : q0 y z n = q0 z y n ∧ q1 y z n = q2 z y n ∧ q2 y z n = q1 z y n ∧ q3 y z n = q3 z y n :=
  ⟨pr_congr fun i j _ _ => Bool.and_comm _ _, pr_congr fun i j _ _ => Bool.and_comm _ _, pr_congr fun i j _ _ => Bool.and_comm _ _, pr_congr fun i j _ _ => Bool.and_comm _ _⟩
theorem half_two (n : Nat) : (n : Int) * ((n : Int) - 1) = 2 * (half n : Int) := by
  induction n with
  | zero => rfl
  | succ n ih =>
    rw [half_succ]
    have : ((n + 1 : Nat) : Int) * (((n + 1 : Nat) : Int) - 1) = (n : Int) * ((n : Int) - 1) + 2 * n := by
      rw [Int.natCast_add, show ((n : Int) + ((1 : Nat) : Int) - 1) = (n : Int) by omega, show ((1 : Nat) : Int) = 1 from rfl, Int.add_mul, Int.mul_sub]
      omega
    omega
/-- the numbers of the law, in plain words -/
structure CountsAre (z y : Nat → Int) (r c0 c1 c2 c3 : Nat) (N D E : Int) (S : Bool) : Prop where
  e0 : q0 z y r = c0
  e1 : q1 z y r = c1
  e2 : q2 z y r = c2
  e3 : q3 z y r = c3
  sum : c0 + c1 + c2 + c3 = half r
  same : S = true ↔ ∀ i, i < r → z i = y i
  one : S = true ↔ N = 1 ∧ D = 1
  ok : E = 0
  small : r < 2 → N = 1 ∧ D = 1
  big : 2 ≤ r → N = redN ((c0 : Int) + (c3 : Int)) (half r) ∧ D = redD ((c0 : Int) + (c3 : Int)) (half r) ∧ E = redE ((c0 : Int) + (c3 : Int)) (half r)
theorem counts_are {z y : Nat → Int} {r : Nat} (hz : CanZ z r) (hy : CanZ y r) (hr : r ≤ 1000) : ∃ c0 c1 c2 c3 N D E S, CountsAre z y r c0 c1 c2 c3 N D E S := by
  obtain ⟨a, ha, ea⟩ := hz.nat
  obtain ⟨b, hb, eb⟩ := hy.nat
  obtain ⟨k0, k1, k2, k3⟩ := q_nat ea eb
  have hsum := p_all a b r
  have hsame := rand_same ha hb
  have hs2 : (∀ i, i < r → z i = y i) ↔ (p1 a b r = 0 ∧ p2 a b r = 0) := by
    rw [hsame]
    constructor
    · intro h i hi; have := h i hi; rw [ea i hi, eb i hi] at this; omega
    · intro h i hi; rw [ea i hi, eb i hi, h i hi]
  have hbd := half_bound hr
  by_cases h2 : r < 2
  · have hall : ∀ i, i < r → z i = y i := fun i hi => by
      have h1 := hz i hi
      have h3 := hy i hi
      omega
    exact ⟨_, _, _, _, 1, 1, 0, true, k0, k1, k2, k3, hsum, ⟨fun _ => hall, fun _ => rfl⟩, ⟨fun _ => ⟨rfl, rfl⟩, fun _ => rfl⟩, rfl, fun _ => ⟨rfl, rfl⟩, fun h => by omega⟩
  · have hh : 0 < half r := by
      have h1 : ∀ k, 1 ≤ half (k + 2) := fun k => by rw [half_succ]; omega
      have := h1 (r - 2)
      rw [show r - 2 + 2 = r by omega] at this
      exact this
    obtain ⟨r1, r2, r3⟩ := red_nat (s := p0 a b r + p3 a b r) hh (by omega) (by omega)
    have r4 := red_one (s := p0 a b r + p3 a b r) hh (by omega)
    rw [Int.natCast_add] at r1 r2 r3
    refine ⟨_, _, _, _, redN ((p0 a b r : Int) + (p3 a b r : Int)) (half r), redD ((p0 a b r : Int) + (p3 a b r : Int)) (half r), _, decide (p1 a b r = 0 ∧ p2 a b r = 0), k0, k1, k2, k3, hsum, ?_, ?_, r1, fun h => absurd h h2, fun _ => ⟨rfl, rfl, rfl⟩⟩
    · rw [decide_eq_true_iff]; exact hs2.symm
    · rw [decide_eq_true_iff, r2, r3]
      constructor
      · intro h
        obtain ⟨e1, e2⟩ := r4.2 (by omega)
        rw [e1, e2]; exact ⟨rfl, rfl⟩
      · intro h
        have := r4.1 ⟨by omega, by omega⟩
        omega

set_option maxRecDepth 100000 in
set_option maxHeartbeats 4000000 in
theorem counts_walk (n c : Nat) (A : Option Addr) (z : Nat → Int) (m d : Nat) (B : Option Addr) (y : Nat → Int) (w : World) (ha : ArgI .u8 w A n c z) (hb : ArgI .u8 w B m d y) :
    Calls Try.prog 7 #[.slice A n c, .slice B m d] w fun e w' => e = .returned (.bool true) ∧ Below w.heap.size w w' := by
  have hn63 := ha.2.1
  have hnc := ha.1
  have hm63 := hb.2.1
  have hmd := hb.1
  by_cases hgn : 100 < n
  · have hgn : (100 : Int) < (n : Int) := by omega
    go_enter Try.func7, Try.ntmps7
    go_wp2_with fail
    refine (works_ok w).mono ?_
    rintro e w' ⟨rfl, q⟩
    go_wp2_with fail
    go_ret
    exact ⟨rfl, q⟩
  have hnn : ¬ (100 : Int) < (n : Int) := by omega
  by_cases hgm : 100 < m
  · have hgm : (100 : Int) < (m : Int) := by omega
    go_enter Try.func7, Try.ntmps7
    go_wp2_with fail
    refine (works_ok w).mono ?_
    rintro e w' ⟨rfl, q⟩
    go_wp2_with fail
    go_ret
    exact ⟨rfl, q⟩
  have hnm : ¬ (100 : Int) < (m : Int) := by omega
  have x0 := labels_ok n m c d A B z y w ha hb (by omega)
  have x1 := fun w1 (hv : Below w.heap.size w w1) => labels_ok m n d c B A y z w1 (hb.below hv) (ha.below hv) (by omega)
  rw [Nat.min_comm m n] at x1
  obtain ⟨r, hr⟩ : ∃ r, min n m = r := ⟨_, rfl⟩
  rw [hr] at x0 x1
  have hr100 : r ≤ 100 := by omega
  obtain ⟨c0, c1, c2, c3, N, D, E, S, K⟩ := counts_are (can_row z r) (can_row y r) (by omega)
  have hTwo : Two r r (fun i => (can (eqZ z) i : Int)) (fun i => (can (eqZ y) i : Int)) := ⟨can_row z r, can_row y r, rfl⟩
  have hTwo2 : Two r r (fun i => (can (eqZ y) i : Int)) (fun i => (can (eqZ z) i : Int)) := ⟨can_row y r, can_row z r, rfl⟩
  have FA := Lib.hid (show ∀ i, i < r → (Lit.int .i64 ((fun i => (can (eqZ z) i : Int)) i)).wf = true from can_fits (eqZ z) (n := r) (by omega))
  have FB := Lib.hid (show ∀ i, i < r → (Lit.int .i64 ((fun i => (can (eqZ y) i : Int)) i)).wf = true from can_fits (eqZ y) (n := r) (by omega))
  generalize (fun i => (can (eqZ z) i : Int)) = Z at *
  generalize (fun i => (can (eqZ y) i : Int)) = Y at *
  have hE := K.ok
  subst hE
  have hbd := half_bound (show r ≤ 1000 by omega)
  have hsum := K.sum
  have hmul := half_two r
  obtain ⟨h, hh⟩ : ∃ h, half r = h := ⟨_, rfl⟩
  obtain ⟨M, hM⟩ : ∃ M : Int, M = 2 * (h : Int) := ⟨_, rfl⟩
  rw [hh] at hbd hsum hmul
  rw [← hM] at hmul
  have hdiv : M.tdiv 2 = (h : Int) := by rw [Int.tdiv_eq_ediv]; omega
  have hsumi : (c0 : Int) + (c1 : Int) + (c2 : Int) + (c3 : Int) = (h : Int) := by omega
  have HT := Lib.hid (And.intro hTwo hTwo2)
  have HK := Lib.hid K
  clear K hTwo hTwo2 hr hh
  go_enter Try.func7, Try.ntmps7
  go_wp2_with fail
  refine x0.mono ?_
  rintro e w1 ⟨s1, rfl, r1, hs1, v1⟩
  have x1 := x1 w1 v1
  have q := v1
  have hq := q.size
  go_wp2_with fail
  refine x1.mono ?_
  rintro e w2 ⟨s2, rfl, r2, hs2, v2⟩
  have a1 := (r1.below' v2).arg (by omega) FA.out
  have a2 := r2.arg (by omega) FB.out
  have q := below_end q hq v2
  have hq := q.size
  clear r1 r2 x0 x1 v1 ha hb
  have x := allpairs_ok r r r r _ _ Z Y w2 a1 a2 (by omega)
  go_wp2_with fail
  refine x.mono ?_
  rintro e w3 ⟨⟨hno, rfl⟩ | ⟨_, rfl⟩, v3⟩
  · exact (hno HT.out.1).elim
  rw [HK.out.e0, HK.out.e1, HK.out.e2, HK.out.e3]
  have o3 := below_new1 w3 (.cells #[.int .i64 c0, .int .i64 c1, .int .i64 c2, .int .i64 c3] 23)
  have k3 := Blk.new w3 23 #[.int .i64 c0, .int .i64 c1, .int .i64 c2, .int .i64 c3]
  have a1 := (a1.below v3).below o3
  have a2 := (a2.below v3).below o3
  have q := below_end (below_end q hq v3) (below_end q hq v3).size o3
  have hq := q.size
  clear x v3 o3
  go_upto_region 5 with fail
  generalize hg3 : w3.heap.size = g3 at *
  generalize w3.alloc (.cells #[.int .i64 c0, .int .i64 c1, .int .i64 c2, .int .i64 c3] 23) = W3 at *
  have x := allpairs_ok r r r r _ _ Y Z W3 a2 a1 (by omega)
  go_wp2_with fail
  refine x.mono ?_
  rintro e w4 ⟨⟨hno, rfl⟩ | ⟨_, rfl⟩, v4⟩
  · exact (hno HT.out.2).elim
  rw [(q_swap Z Y).1, (q_swap Z Y).2.1, (q_swap Z Y).2.2.1, (q_swap Z Y).2.2.2, HK.out.e0, HK.out.e1, HK.out.e2, HK.out.e3]
  have o4 := below_new1 w4 (.cells #[.int .i64 c0, .int .i64 c2, .int .i64 c1, .int .i64 c3] 23)
  have k4 := Blk.new w4 23 #[.int .i64 c0, .int .i64 c2, .int .i64 c1, .int .i64 c3]
  have a1 := (a1.below v4).below o4
  have a2 := (a2.below v4).below o4
  have k3 := (k3.below v4 k3.lt).alloc (.cells #[.int .i64 c0, .int .i64 c2, .int .i64 c1, .int .i64 c3] 23)
  have q := below_end (below_end q hq v4) (below_end q hq v4).size o4
  have hq := q.size
  clear x v4 o4
  go_upto_region 6 with fail
  generalize hg4 : w4.heap.size = g4 at *
  generalize w4.alloc (.cells #[.int .i64 c0, .int .i64 c2, .int .i64 c1, .int .i64 c3] 23) = W4 at *
  have y1 : Calls Try.prog 14 #[.slice (some ⟨s1, 0, none⟩) r r, .slice (some ⟨s2, 0, none⟩) r r] W4 fun e w' => e = .returned (.tuple #[.agg #[.int .i64 N, .int .i64 D], .int .i64 0]) ∧ Below W4.heap.size W4 w' := by
    refine (rand_ok r r r r _ _ Z Y W4 a1 a2 (by omega)).mono ?_
    rintro e w5 ⟨⟨hno, rfl⟩ | ⟨_, h2, rfl⟩ | ⟨_, h2, rfl⟩, v5⟩
    · exact (hno HT.out.1).elim
    · obtain ⟨e1, e2⟩ := HK.out.small h2
      rw [e1, e2]; exact ⟨rfl, v5⟩
    · obtain ⟨e1, e2, e3⟩ := HK.out.big h2
      rw [HK.out.e0, HK.out.e3, ← e1, ← e2, ← e3]; exact ⟨rfl, v5⟩
  have y2 : ∀ W5, Below W4.heap.size W4 W5 → Calls Try.prog 14 #[.slice (some ⟨s2, 0, none⟩) r r, .slice (some ⟨s1, 0, none⟩) r r] W5 fun e w' => e = .returned (.tuple #[.agg #[.int .i64 N, .int .i64 D], .int .i64 0]) ∧ Below W5.heap.size W5 w' := by
    intro W5 hv5
    refine (rand_ok r r r r _ _ Y Z W5 (a2.below hv5) (a1.below hv5) (by omega)).mono ?_
    rintro e w5 ⟨⟨hno, rfl⟩ | ⟨_, h2, rfl⟩ | ⟨_, h2, rfl⟩, v5⟩
    · exact (hno HT.out.2).elim
    · obtain ⟨e1, e2⟩ := HK.out.small h2
      rw [e1, e2]; exact ⟨rfl, v5⟩
    · obtain ⟨e1, e2, e3⟩ := HK.out.big h2
      rw [(q_swap Z Y).1, (q_swap Z Y).2.2.2, HK.out.e0, HK.out.e3, ← e1, ← e2, ← e3]; exact ⟨rfl, v5⟩
  go_wp2_with fail
  refine y1.mono ?_
  rintro e w5 ⟨rfl, v5⟩
  have o5 := below_new1 w5 (.cells #[.int .i64 N, .int .i64 D] 28)
  have k5 := Blk.new w5 28 #[.int .i64 N, .int .i64 D]
  have y2 := y2 _ (below_go v5 (Nat.le_refl _) o5)
  have a1 := (a1.below v5).below o5
  have a2 := (a2.below v5).below o5
  have k3 := (k3.below v5 k3.lt).alloc (.cells #[.int .i64 N, .int .i64 D] 28)
  have k4 := (k4.below v5 k4.lt).alloc (.cells #[.int .i64 N, .int .i64 D] 28)
  have q := below_end (below_end q hq v5) (below_end q hq v5).size o5
  have hq := q.size
  clear y1 v5 o5
  go_upto_region 7 with fail
  generalize hg5 : w5.heap.size = g5 at *
  generalize w5.alloc (.cells #[.int .i64 N, .int .i64 D] 28) = W5 at *
  go_wp2_with fail
  refine y2.mono ?_
  rintro e w6 ⟨rfl, v6⟩
  have o6 := below_new1 w6 (.cells #[.int .i64 N, .int .i64 D] 28)
  have k6 := Blk.new w6 28 #[.int .i64 N, .int .i64 D]
  have a1 := (a1.below v6).below o6
  have a2 := (a2.below v6).below o6
  have k3 := (k3.below v6 k3.lt).alloc (.cells #[.int .i64 N, .int .i64 D] 28)
  have k4 := (k4.below v6 k4.lt).alloc (.cells #[.int .i64 N, .int .i64 D] 28)
  have k5 := (k5.below v6 k5.lt).alloc (.cells #[.int .i64 N, .int .i64 D] 28)
  have q := below_end (below_end q hq v6) (below_end q hq v6).size o6
  have hq := q.size
  clear y2 v6 o6
  go_upto_region 8 with fail
  generalize hg6 : w6.heap.size = g6 at *
  generalize w6.alloc (.cells #[.int .i64 N, .int .i64 D] 28) = W6 at *
  have c30 := k3.cell 0
  have c31 := k3.cell 1
  have c32 := k3.cell 2
  have c33 := k3.cell 3
  have c40 := k4.cell 0
  have c41 := k4.cell 1
  have c42 := k4.cell 2
  have c43 := k4.cell 3
  have c50 := k5.cell 0
  have c51 := k5.cell 1
  have c60 := k6.cell 0
  have c61 := k6.cell 1
  simp at c30 c31 c32 c33 c40 c41 c42 c43 c50 c51 c60 c61
  have e23 := eq23 c0 c1 c2 c3 c0 c1 c2 c3
  simp only [beq_self_eq_true, Bool.and_self] at e23
  clear k3 k4 k6
  go_upto_region 11 with fail
  have x := same_any r r r r _ _ Z Y W6 a1 a2 (by omega)
  cases S with
  | true =>
    obtain ⟨e1, e2⟩ := HK.out.one.1 rfl
    subst e1 e2
    have y1 : ∀ W7, Below W6.heap.size W6 W7 → Calls Try.prog 20 #[.slice (some ⟨s1, 0, none⟩) r r, .slice (some ⟨s2, 0, none⟩) r r] W7 fun e w' => e = .returned (.bool true) ∧ ∃ m, w' = W7.drewN m := fun W7 v7 => (same_any r r r r _ _ Z Y W7 (a1.below v7) (a2.below v7) (by omega)).mono fun e w' ⟨h, hw⟩ => by
      rcases h with ⟨rfl, _⟩ | ⟨rfl, hno⟩
      · exact ⟨rfl, hw⟩
      · exact (hno ⟨rfl, HK.out.same.1 rfl⟩).elim
    clear HK x
    refine wp_region_quiet_tail 7 (by kernel_rfl) (by kernel_rfl) ?_
    simp only [List.take_succ_cons, List.take_zero, List.drop_succ_cons, List.drop_zero]
    repeat (go_big_quiet_step ((go_at_call 20; exact Calls.quiet_of (y1 _ (below_drewN (Below.refl _ _) _)))))
    refine wpQuiet_nil ?_
    intro _ hw'
    obtain ⟨nq, hw''⟩ := hw'
    subst hw''
    have qn := below_drewN q nq
    go_wp2_with (go_at_call 16; refine (works_ok _).mono ?_; rintro e w9 ⟨rfl, hv9⟩)
    go_ret
    exact ⟨rfl, below_end qn qn.size hv9⟩
  | false =>
    have hne : (N == 1 && D == 1) = false := by
      cases hb : (N == 1 && D == 1) with
      | false => rfl
      | true =>
        simp at hb
        exact absurd (HK.out.one.2 hb) (by simp)
    have y1 : ∀ W7, Below W6.heap.size W6 W7 → Calls Try.prog 20 #[.slice (some ⟨s1, 0, none⟩) r r, .slice (some ⟨s2, 0, none⟩) r r] W7 fun e w' => e = .returned (.bool false) ∧ ∃ m, w' = W7.drewN m := fun W7 v7 => (same_any r r r r _ _ Z Y W7 (a1.below v7) (a2.below v7) (by omega)).mono fun e w' ⟨h, hw⟩ => by
      rcases h with ⟨rfl, hyes⟩ | ⟨rfl, hno⟩
      · exact absurd (HK.out.same.2 hyes.2) (by simp)
      · exact ⟨rfl, hw⟩
    by_cases hN : N = 1
    · have hD : (D == 1) = false := by
        cases hb : (D == 1) with
        | false => rfl
        | true => rw [hb] at hne; simp [hN] at hne
      subst hN
      clear hne
      clear HK x
      refine wp_region_quiet_tail 7 (by kernel_rfl) (by kernel_rfl) ?_
      simp only [List.take_succ_cons, List.take_zero, List.drop_succ_cons, List.drop_zero]
      repeat (go_big_quiet_step ((go_at_call 20; exact Calls.quiet_of (y1 _ (below_drewN (Below.refl _ _) _)))))
      refine wpQuiet_nil ?_
      intro _ hw'
      obtain ⟨nq, hw''⟩ := hw'
      subst hw''
      have qn := below_drewN q nq
      go_wp2_with (go_at_call 16; refine (works_ok _).mono ?_; rintro e w9 ⟨rfl, hv9⟩)
      go_ret
      exact ⟨rfl, below_end qn qn.size hv9⟩
    · have hN1 : (N == 1) = false := by simpa using hN
      clear hne
      clear HK x
      refine wp_region_quiet_tail 7 (by kernel_rfl) (by kernel_rfl) ?_
      simp only [List.take_succ_cons, List.take_zero, List.drop_succ_cons, List.drop_zero]
      repeat (go_big_quiet_step ((go_at_call 20; exact Calls.quiet_of (y1 _ (below_drewN (Below.refl _ _) _)))))
      refine wpQuiet_nil ?_
      intro _ hw'
      obtain ⟨nq, hw''⟩ := hw'
      subst hw''
      have qn := below_drewN q nq
      go_wp2_with (go_at_call 16; refine (works_ok _).mono ?_; rintro e w9 ⟨rfl, hv9⟩)
      go_ret
      exact ⟨rfl, below_end qn qn.size hv9⟩
end Go.Proofs.Ytipniooflaiikaa
