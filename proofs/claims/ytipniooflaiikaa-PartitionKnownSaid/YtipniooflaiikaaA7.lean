/-
  Pairs, Rand.
-/
import Derived.Test.YtipniooflaiikaaA6
import Derived.Deep.RegionHeld3
set_option linter.unusedVariables false
set_option linter.unusedSimpArgs false
namespace Go.Proofs.Ytipniooflaiikaa
open Go.RowKit Go.Shelf

/-- the four numbers, over whole numbers -/
def q0 (z y : Nat → Int) (n : Nat) : Nat := pr (fun i j => eqZ z i j && eqZ y i j) n
def q1 (z y : Nat → Int) (n : Nat) : Nat := pr (fun i j => eqZ z i j && !eqZ y i j) n
def q2 (z y : Nat → Int) (n : Nat) : Nat := pr (fun i j => !eqZ z i j && eqZ y i j) n
def q3 (z y : Nat → Int) (n : Nat) : Nat := pr (fun i j => !eqZ z i j && !eqZ y i j) n
theorem eqZ_nat {n : Nat} {z : Nat → Int} {a : Nat → Nat} (ea : ∀ i, i < n → z i = (a i : Int)) {i j : Nat} (hi : i < n) (hj : j < n) : eqZ z i j = sameL a i j := by
  unfold eqZ sameL
  rw [ea i hi, ea j hj, decide_eq_decide]
  omega
theorem q_nat {n : Nat} {z y : Nat → Int} {a b : Nat → Nat} (ea : ∀ i, i < n → z i = (a i : Int)) (eb : ∀ i, i < n → y i = (b i : Int)) : q0 z y n = p0 a b n ∧ q1 z y n = p1 a b n ∧ q2 z y n = p2 a b n ∧ q3 z y n = p3 a b n :=
  ⟨pr_congr fun i j hj hi => by rw [eqZ_nat ea hi (by omega), eqZ_nat eb hi (by omega)], pr_congr fun i j hj hi => by rw [eqZ_nat ea hi (by omega), eqZ_nat eb hi (by omega)], pr_congr fun i j hj hi => by rw [eqZ_nat ea hi (by omega), eqZ_nat eb hi (by omega)], pr_congr fun i j hj hi => by rw [eqZ_nat ea hi (by omega), eqZ_nat eb hi (by omega)]⟩
/-- what Pairs returns -/
def PairsOk (w : World) (n m : Nat) (z y : Nat → Int) (e : Ending) (w' : World) : Prop :=
  ((¬ Two n m z y ∧ e = .returned (.tuple #[.agg #[.int .i64 0, .int .i64 0, .int .i64 0, .int .i64 0], .int .i64 2])) ∨
  (Two n m z y ∧ e = .returned (.tuple #[.agg #[.int .i64 (q0 z y n), .int .i64 (q1 z y n), .int .i64 (q2 z y n), .int .i64 (q3 z y n)], .int .i64 0]))) ∧ Below w.heap.size w w'
set_option maxRecDepth 100000 in
set_option maxHeartbeats 2000000 in
theorem allpairs_ok (n m c d : Nat) (A B : Option Addr) (z y : Nat → Int) (w : World) (ha : ArgI .i64 w A n c z) (hb : ArgI .i64 w B m d y) (hn : n ≤ 1000) :
    Calls Try.prog 12 #[.slice A n c, .slice B m d] w fun e w' => PairsOk w n m z y e w' := by
  have b1 := below_new1 w (.cells #[.int .i64 0, .int .i64 0, .int .i64 0, .int .i64 0] 23)
  have k1 := Blk.new w 23 #[.int .i64 0, .int .i64 0, .int .i64 0, .int .i64 0]
  have ha1 := ha.below b1
  have hb1 := hb.below b1
  have x0 := check2_ok n m c d A B z y _ ha1 hb1
  go_enter Try.func12, Try.ntmps12
  go_upto_region 1 with fail
  generalize w.alloc (.cells #[.int .i64 0, .int .i64 0, .int .i64 0, .int .i64 0] 23) = W0 at *
  go_wp2_with fail
  refine x0.mono ?_
  rintro e w' ⟨⟨rfl, h1⟩ | ⟨rfl, h1⟩, rfl⟩
  case inr =>
    have H1 := Lib.hid h1
    have f0 := k1.frozen 0
    have f1 := k1.frozen 1
    have f2 := k1.frozen 2
    have f3 := k1.frozen 3
    have c0 := k1.cell 0
    have c1 := k1.cell 1
    have c2 := k1.cell 2
    have c3 := k1.cell 3
    simp at c0 c1 c2 c3
    have Q := (((b1.setCell (p := ⟨w.heap.size, 0, none⟩) (Nat.le_refl _) (.int .i64 0)).setCell (p := ⟨w.heap.size, 1, none⟩) (Nat.le_refl _) (.int .i64 0)).setCell (p := ⟨w.heap.size, 2, none⟩) (Nat.le_refl _) (.int .i64 0)).setCell (p := ⟨w.heap.size, 3, none⟩) (Nat.le_refl _) (.int .i64 0)
    have K := (((k1.set_ 0 (.int .i64 0)).set_ 1 (.int .i64 0)).set_ 2 (.int .i64 0)).set_ 3 (.int .i64 0)
    clear h1
    go_wp2_with fail
    clear c0 c1 c2 c3
    generalize (((W0.setCell ⟨w.heap.size, 0, none⟩ (.int .i64 0)).setCell ⟨w.heap.size, 1, none⟩ (.int .i64 0)).setCell ⟨w.heap.size, 2, none⟩ (.int .i64 0)).setCell ⟨w.heap.size, 3, none⟩ (.int .i64 0) = W2 at *
    have c0 := K.cell 0
    have c1 := K.cell 1
    have c2 := K.cell 2
    have c3 := K.cell 3
    simp at c0 c1 c2 c3
    simp [bodyPost, results, Try.results12, go_sem, c0, c1, c2, c3]
    exact ⟨Or.inl ⟨H1.out, rfl⟩, Q⟩
  obtain ⟨a, b, hnm, hca, hcb, ea, eb⟩ := h1.nat
  subst hnm
  have H1 := Lib.hid h1
  have HE := Lib.hid (And.intro ea eb)
  have la : ∀ i, i < n → a i < n := fun i hi => by have := (hca i hi).1; omega
  have lb : ∀ i, i < n → b i < n := fun i hi => by have := (hcb i hi).1; omega
  have lm : ∀ i, i < n → mt a b i < n := fun i hi => by have := (mt_can a b n i hi).1; omega
  have HLA := Lib.hid la
  have HLB := Lib.hid lb
  have HLM := Lib.hid lm
  have HM := Lib.hid (show ∀ i, i < n → (can (eqP z y) i : Int) = (mt a b i : Int) from fun i hi => by rw [eqP_nat ea eb hi])
  have HQ := Lib.hid (q_nat ea eb)
  have s1 := in_a a b n
  have s2 := in_b a b n
  have s3 := p_all a b n
  have s4 := in_both a b n
  have hh := half_bound hn
  have x1 := meet_any n c d A B z y W0 ha1 hb1 (by omega)
  clear h1 hca hcb ea eb x0 la lb lm
  obtain ⟨P0, e0⟩ : ∃ x, p0 a b n = x := ⟨_, rfl⟩
  obtain ⟨P1, e1⟩ : ∃ x, p1 a b n = x := ⟨_, rfl⟩
  obtain ⟨P2, e2⟩ : ∃ x, p2 a b n = x := ⟨_, rfl⟩
  obtain ⟨P3, e3⟩ : ∃ x, p3 a b n = x := ⟨_, rfl⟩
  obtain ⟨hh', e4⟩ : ∃ x, half n = x := ⟨_, rfl⟩
  rw [e0, e1] at s1
  rw [e0, e2] at s2
  rw [e0, e1, e2, e3, e4] at s3
  rw [e0] at s4
  rw [e4] at hh
  rw [e0, e1, e2, e3] at HQ
  obtain ⟨X, hX⟩ : ∃ X, pr (sameL a) n = X := ⟨_, rfl⟩
  obtain ⟨Y, hY⟩ : ∃ Y, pr (sameL b) n = Y := ⟨_, rfl⟩
  rw [hX] at s1
  rw [hY] at s2
  have S1 := Lib.hid hX
  have S2 := Lib.hid hY
  have S4 := Lib.hid s4
  have h4 : hh' ≤ 500000 := hh
  have i1 : X ≤ hh' := by omega
  have i2 : Y ≤ hh' := by omega
  have W1E := Lib.hid (show (X : Int) - (P0 : Int) = (P1 : Int) by omega)
  have W2E := Lib.hid (show (Y : Int) - (P0 : Int) = (P2 : Int) by omega)
  have W3E := Lib.hid (show (hh' : Int) - (X : Int) - (Y : Int) + (P0 : Int) = (P3 : Int) by omega)
  have i3 : P0 ≤ X := by omega
  have i4 : P0 ≤ Y := by omega
  have i5 : X ≤ hh' + P0 := by omega
  clear hX hY
  have E4 := Lib.hid e4
  have S3 := Lib.hid s3
  clear s1 s2 s4 e0 e1 e2 e3 e4 s3 hh
  go_wp2_with fail
  refine x1.mono ?_
  rintro e w1 ⟨s, rfl, hr, hs, hv1⟩
  have r1 : RowN w1 s n (mt a b) := hr.congr HM.out
  have x2 := together_ok n n (some ⟨s, 0, none⟩) (mt a b) w1 (r1.arg (by omega) (fun i hi => by have := HLM.out i hi; exact fits_wf ⟨by omega, by omega⟩)) HLM.out hn
  rw [S4.out] at x2
  clear x1 hr
  go_wp2_with fail
  refine x2.mono ?_
  rintro e w2 ⟨rfl, hv2⟩
  have q1 := below_end b1 b1.size hv1
  have q2 := below_end q1 q1.size hv2
  have x3 := together_ok n c A a w2 (((ha1.below hv1).below hv2).congr HE.out.1) HLA.out hn
  rw [S1.out] at x3
  clear x2
  go_wp2_with fail
  refine x3.mono ?_
  rintro e w3 ⟨rfl, hv3⟩
  have q3 := below_end q2 q2.size hv3
  have x4 := together_ok n d B b w3 ((((hb1.below hv1).below hv2).below hv3).congr HE.out.2) HLB.out hn
  rw [S2.out] at x4
  clear x3
  go_wp2_with fail
  refine x4.mono ?_
  rintro e w4 ⟨rfl, hv4⟩
  have q4 := below_end q3 q3.size hv4
  have x5 := pairs_ok n hn w4
  rw [E4.out] at x5
  clear x4
  have k5 := (((k1.below hv1 k1.lt).below hv2 (k1.below hv1 k1.lt).lt)).below hv3 ((k1.below hv1 k1.lt).below hv2 (k1.below hv1 k1.lt).lt).lt
  have k6 := k5.below hv4 k5.lt
  go_wp2_with fail
  refine x5.mono ?_
  rintro e w5 ⟨rfl, hv5⟩
  have q5 := below_end q4 q4.size hv5
  have k7 := k6.below hv5 k6.lt
  clear x5 k1 k5 k6
  have f0 := k7.frozen 0
  have f1 := k7.frozen 1
  have f2 := k7.frozen 2
  have f3 := k7.frozen 3
  have c0 := k7.cell 0
  have c1 := k7.cell 1
  have c2 := k7.cell 2
  have c3 := k7.cell 3
  simp at c0 c1 c2 c3
  have w1e := W1E.out
  have w2e := W2E.out
  have w3e := W3E.out
  go_wp2_with fail
  have K := (((k7.set_ 0 (.int .i64 (P0 : Int))).set_ 1 (.int .i64 (P1 : Int))).set_ 2 (.int .i64 (P2 : Int))).set_ 3 (.int .i64 (P3 : Int))
  have Q := (((q5.setCell (p := ⟨w.heap.size, 0, none⟩) (Nat.le_refl _) (.int .i64 (P0 : Int))).setCell (p := ⟨w.heap.size, 1, none⟩) (Nat.le_refl _) (.int .i64 (P1 : Int))).setCell (p := ⟨w.heap.size, 2, none⟩) (Nat.le_refl _) (.int .i64 (P2 : Int))).setCell (p := ⟨w.heap.size, 3, none⟩) (Nat.le_refl _) (.int .i64 (P3 : Int))
  clear c0 c1 c2 c3 w1e w2e w3e
  generalize (((w5.setCell ⟨w.heap.size, 0, none⟩ (.int .i64 (P0 : Int))).setCell ⟨w.heap.size, 1, none⟩ (.int .i64 (P1 : Int))).setCell ⟨w.heap.size, 2, none⟩ (.int .i64 (P2 : Int))).setCell ⟨w.heap.size, 3, none⟩ (.int .i64 (P3 : Int)) = W2 at *
  have c0 := K.cell 0
  have c1 := K.cell 1
  have c2 := K.cell 2
  have c3 := K.cell 3
  simp at c0 c1 c2 c3
  simp [bodyPost, results, Try.results12, go_sem, c0, c1, c2, c3]
  refine ⟨Or.inr ⟨H1.out, ?_⟩, Q⟩
  rw [HQ.out.1, HQ.out.2.1, HQ.out.2.2.1, HQ.out.2.2.2]

/-- what Rand returns -/
def RandOk (w : World) (n m : Nat) (z y : Nat → Int) (e : Ending) (w' : World) : Prop :=
  ((¬ Two n m z y ∧ e = .returned (.tuple #[.agg #[.int .i64 0, .int .i64 0], .int .i64 2])) ∨
  (Two n m z y ∧ n < 2 ∧ e = .returned (.tuple #[.agg #[.int .i64 1, .int .i64 1], .int .i64 0])) ∨
  (Two n m z y ∧ 2 ≤ n ∧ e = .returned (.tuple #[.agg #[.int .i64 (redN ((q0 z y n : Int) + (q3 z y n : Int)) (half n)), .int .i64 (redD ((q0 z y n : Int) + (q3 z y n : Int)) (half n))], .int .i64 (redE ((q0 z y n : Int) + (q3 z y n : Int)) (half n))]))) ∧ Below w.heap.size w w'
theorem q_sum (z y : Nat → Int) (n : Nat) : q0 z y n + q3 z y n ≤ half n := by
  have h1 := pr_split (fun _ _ => true) (fun i j => eqZ z i j && eqZ y i j) n
  rw [pr_all] at h1
  have h2 : pr (fun i j => true && (eqZ z i j && eqZ y i j)) n = q0 z y n := pr_congr fun i j _ _ => by simp
  have h3 := pr_split (fun i j => true && !(eqZ z i j && eqZ y i j)) (fun i j => !eqZ z i j && !eqZ y i j) n
  have h4 : pr (fun i j => (true && !(eqZ z i j && eqZ y i j)) && (!eqZ z i j && !eqZ y i j)) n = q3 z y n := pr_congr fun i j _ _ => by
    cases eqZ z i j <;> cases eqZ y i j <;> rfl
  omega
set_option maxRecDepth 100000 in
set_option maxHeartbeats 2000000 in
theorem rand_ok (n m c d : Nat) (A B : Option Addr) (z y : Nat → Int) (w : World) (ha : ArgI .i64 w A n c z) (hb : ArgI .i64 w B m d y) (hn : n ≤ 1000) :
    Calls Try.prog 14 #[.slice A n c, .slice B m d] w fun e w' => RandOk w n m z y e w' := by
  have b1 := below_new1 w (.cells #[.int .i64 0, .int .i64 0] 28)
  have k1 := Blk.new w 28 #[.int .i64 0, .int .i64 0]
  have ha1 := ha.below b1
  have hb1 := hb.below b1
  have x0 := allpairs_ok n m c d A B z y _ ha1 hb1 hn
  go_enter Try.func14, Try.ntmps14
  go_upto_region 1 with fail
  generalize w.alloc (.cells #[.int .i64 0, .int .i64 0] 28) = W0 at *
  go_wp2_with fail
  refine x0.mono ?_
  rintro e w1 ⟨⟨h1, rfl⟩ | ⟨h1, rfl⟩, hv1⟩
  · have H1 := Lib.hid h1
    have k2 := (k1.below hv1 k1.lt).alloc (.cells #[.int .i64 0, .int .i64 0, .int .i64 0, .int .i64 0] 23)
    have q2 := (below_end b1 b1.size hv1).alloc (Nat.le_trans b1.size hv1.size) (.cells #[.int .i64 0, .int .i64 0, .int .i64 0, .int .i64 0] 23)
    clear h1 x0 k1
    go_upto_region 2 with fail
    generalize w1.alloc (.cells #[.int .i64 0, .int .i64 0, .int .i64 0, .int .i64 0] 23) = W1 at *
    have f0 := k2.frozen 0
    have f1 := k2.frozen 1
    have c0 := k2.cell 0
    have c1 := k2.cell 1
    simp at c0 c1
    have K := (k2.set_ 0 (.int .i64 0)).set_ 1 (.int .i64 0)
    have Q := (q2.setCell (p := ⟨w.heap.size, 0, none⟩) (Nat.le_refl _) (.int .i64 0)).setCell (p := ⟨w.heap.size, 1, none⟩) (Nat.le_refl _) (.int .i64 0)
    go_wp2_with fail
    clear c0 c1
    generalize (W1.setCell ⟨w.heap.size, 0, none⟩ (.int .i64 0)).setCell ⟨w.heap.size, 1, none⟩ (.int .i64 0) = W2 at *
    have c0 := K.cell 0
    have c1 := K.cell 1
    simp at c0 c1
    simp [bodyPost, results, Try.results14, go_sem, c0, c1]
    exact ⟨Or.inl ⟨H1.out, rfl⟩, Q⟩
  · obtain rfl := h1.2.2
    have H1 := Lib.hid h1
    have hs := q_sum z y n
    have hh := half_bound hn
    obtain ⟨P0, e0⟩ : ∃ x, q0 z y n = x := ⟨_, rfl⟩
    obtain ⟨P1, e1⟩ : ∃ x, q1 z y n = x := ⟨_, rfl⟩
    obtain ⟨P2, e2⟩ : ∃ x, q2 z y n = x := ⟨_, rfl⟩
    obtain ⟨P3, e3⟩ : ∃ x, q3 z y n = x := ⟨_, rfl⟩
    rw [e0, e3] at hs
    rw [e0, e1, e2, e3]
    have HE := Lib.hid (And.intro e0 e3)
    have k2 := (k1.below hv1 k1.lt).alloc (.cells #[.int .i64 (P0 : Int), .int .i64 (P1 : Int), .int .i64 (P2 : Int), .int .i64 (P3 : Int)] 23)
    have q2 := (below_end b1 b1.size hv1).alloc (Nat.le_trans b1.size hv1.size) (.cells #[.int .i64 (P0 : Int), .int .i64 (P1 : Int), .int .i64 (P2 : Int), .int .i64 (P3 : Int)] 23)
    have p2 := Blk.new w1 23 #[.int .i64 (P0 : Int), .int .i64 (P1 : Int), .int .i64 (P2 : Int), .int .i64 (P3 : Int)]
    have hRP : w.heap.size < w1.heap.size := Nat.lt_of_lt_of_le k1.lt hv1.size
    clear h1 x0 k1 e0 e1 e2 e3
    go_upto_region 2 with fail
    generalize w1.alloc (.cells #[.int .i64 (P0 : Int), .int .i64 (P1 : Int), .int .i64 (P2 : Int), .int .i64 (P3 : Int)] 23) = W1 at *
    by_cases h2 : n < 2
    · have h2i : (n : Int) < 2 := by omega
      have f0 := k2.frozen 0
      have f1 := k2.frozen 1
      have c0 := k2.cell 0
      have c1 := k2.cell 1
      simp at c0 c1
      have K := (k2.set_ 0 (.int .i64 1)).set_ 1 (.int .i64 1)
      have Q := (q2.setCell (p := ⟨w.heap.size, 0, none⟩) (Nat.le_refl _) (.int .i64 1)).setCell (p := ⟨w.heap.size, 1, none⟩) (Nat.le_refl _) (.int .i64 1)
      go_wp2_with fail
      clear c0 c1
      generalize (W1.setCell ⟨w.heap.size, 0, none⟩ (.int .i64 1)).setCell ⟨w.heap.size, 1, none⟩ (.int .i64 1) = W2 at *
      have c0 := K.cell 0
      have c1 := K.cell 1
      simp at c0 c1
      simp [bodyPost, results, Try.results14, go_sem, c0, c1]
      exact ⟨Or.inr (Or.inl ⟨H1.out, h2, rfl⟩), Q⟩
    · have h2i : ¬ (n : Int) < 2 := by omega
      have hRP2 : ¬ w1.heap.size = w.heap.size := by omega
      have hRP3 : ¬ w.heap.size = w1.heap.size := by omega
      have pd := p2.drew
      have y0 : W1.drew.cell? ⟨w1.heap.size, 0, none⟩ = some (.int .i64 (P0 : Int)) := p2.cell 0
      have y3 : W1.drew.cell? ⟨w1.heap.size, 3, none⟩ = some (.int .i64 (P3 : Int)) := p2.cell 3
      have x5 := pairs_ok n hn W1.drew
      obtain ⟨h', e4⟩ : ∃ x, half n = x := ⟨_, rfl⟩
      rw [e4] at hs hh x5
      have E4 := Lib.hid e4
      have x6 := fun W => reduce_ok ((P0 : Int) + (P3 : Int)) (h' : Int) ⟨by omega, by omega⟩ ⟨by omega, by omega⟩ W
      have hw : IntKind.i64.wrap ((P0 : Int) + (P3 : Int)) = (P0 : Int) + (P3 : Int) := by rw [IntKind.wrap_i64]; omega
      obtain ⟨rn, ern⟩ : ∃ x, redN ((P0 : Int) + (P3 : Int)) (h' : Int) = x := ⟨_, rfl⟩
      obtain ⟨rd, erd⟩ : ∃ x, redD ((P0 : Int) + (P3 : Int)) (h' : Int) = x := ⟨_, rfl⟩
      obtain ⟨re, ere⟩ : ∃ x, redE ((P0 : Int) + (P3 : Int)) (h' : Int) = x := ⟨_, rfl⟩
      simp only [ern, erd, ere] at x6
      have ER := Lib.hid (And.intro ern (And.intro erd ere))
      clear e4 ern erd ere
      go_wp2_with fail
      go_region_held3 (fun w' => w'.cell? ⟨w1.heap.size, 0, none⟩ = some (.int .i64 (P0 : Int)) ∧ w'.cell? ⟨w1.heap.size, 3, none⟩ = some (.int .i64 (P3 : Int))) (go_keep)
        (first
          | (go_at_call 40; refine (x6 _).mono ?_; rintro e w4 ⟨rfl, hv4⟩; have p4 := p3.below hv4 p3.lt; have m0 := p4.cell 0; have m3 := p4.cell 3; simp at m0 m3; have k4 := k3.below hv4 k3.lt; have f0 := k4.frozen 0; have f1 := k4.frozen 1; have c0 := k4.cell 0; have c1 := k4.cell 1; simp at c0 c1)
          | (go_at_call 38; refine x5.mono ?_; rintro e w3 ⟨rfl, hv3⟩; have p3 := pd.below hv3 pd.lt; have n0 := p3.cell 0; have n3 := p3.cell 3; simp at n0 n3; have k3 := k2.drew.below hv3 k2.drew.lt))
      all_goals
        have q4 := below_end (below_end q2.drew q2.drew.size hv3) (Nat.le_trans q2.drew.size hv3.size) hv4
        have K := (k4.set_ 0 (.int .i64 rn)).set_ 1 (.int .i64 rd)
        have Q := (q4.setCell (p := ⟨w.heap.size, 0, none⟩) (Nat.le_refl _) (.int .i64 rn)).setCell (p := ⟨w.heap.size, 1, none⟩) (Nat.le_refl _) (.int .i64 rd)
        clear c0 c1 m0 m3 n0 n3
        generalize (w4.setCell ⟨w.heap.size, 0, none⟩ (.int .i64 rn)).setCell ⟨w.heap.size, 1, none⟩ (.int .i64 rd) = W2 at *
        have c0 := K.cell 0
        have c1 := K.cell 1
        simp at c0 c1
        go_wp2_with fail
        simp [bodyPost, results, Try.results14, go_sem, c0, c1]
        refine ⟨Or.inr (Or.inr ⟨H1.out, by omega, ?_⟩), Q⟩
        rw [HE.out.1, HE.out.2, E4.out, ER.out.1, ER.out.2.1, ER.out.2.2]
end Go.Proofs.Ytipniooflaiikaa
