/-
  The references: Pairs, Rand.
-/
import Derived.Test.YtipniooflaiikaaE1
import Derived.Test.YtipniooflaiikaaA7
import Derived.Test.YtipniooflaiikaaG9
set_option linter.unusedVariables false
set_option linter.unusedSimpArgs false
namespace Go.Proofs.Ytipniooflaiikaa
open Go.RowKit Go.Shelf

/-- the four kinds of pairs -/
def ek (z y : Nat → Int) : Nat → Nat → Nat → Bool
  | 0 => fun i j => eqZ z i j && eqZ y i j
  | 1 => fun i j => eqZ z i j && !eqZ y i j
  | 2 => fun i j => !eqZ z i j && eqZ y i j
  | _ => fun i j => !eqZ z i j && !eqZ y i j
/-- pairs of a kind, of the first i elements and of element i with the first j -/
def cnt (z y : Nat → Int) (k i j : Nat) : Nat := pr (ek z y k) i + cn (fun t => ek z y k i t) j
theorem cnt_row (z y : Nat → Int) (k i : Nat) : cnt z y k i i = cnt z y k (i + 1) 0 := rfl
theorem cnt_le (z y : Nat → Int) (k i j : Nat) : cnt z y k i j ≤ half i + j := by
  have h1 := pr_le (ek z y k) i
  have h2 := cn_le (fun t => ek z y k i t) j
  unfold cnt
  omega
theorem cnt_step (z y : Nat → Int) (k i j : Nat) : cnt z y k i (j + 1) = cnt z y k i j + if ek z y k i j = true then 1 else 0 := by
  unfold cnt
  simp only [cn]
  omega
theorem cnt_at {z y : Nat → Int} {i j s : Nat} (hs : s < 4) (h : ∀ k, k < 4 → (ek z y k i j = true ↔ k = s)) : ∀ k, k < 4 → (if k = s then (cnt z y s i j : Int) + 1 else (cnt z y k i j : Int)) = (cnt z y k i (j + 1) : Int) := fun k hk => by
  rw [cnt_step]
  by_cases e : k = s
  · subst e
    rw [if_pos rfl, if_pos ((h k hk).2 rfl)]
    omega
  · rw [if_neg e, if_neg (fun c => e ((h k hk).1 c))]
    omega
theorem ek_is {z y : Nat → Int} {i j s : Nat} {a b : Bool} (hz : eqZ z i j = a) (hy : eqZ y i j = b) (hs : s = (if a then 0 else 2) + (if b then 0 else 1)) : ∀ k, k < 4 → (ek z y k i j = true ↔ k = s) := fun k hk => by
  have h : k = 0 ∨ k = 1 ∨ k = 2 ∨ k = 3 := by omega
  subst hs
  cases a <;> cases b <;> rcases h with rfl | rfl | rfl | rfl <;> simp [ek, hz, hy]
set_option maxRecDepth 100000 in
set_option maxHeartbeats 4000000 in
theorem rpairs_ok (n m c d : Nat) (A B : Option Addr) (z y : Nat → Int) (w : World) (ha : ArgI .i64 w A n c z) (hb : ArgI .i64 w B m d y) (hn : n ≤ 1000) (hm : m ≤ 1000) :
    Calls Try.prog 13 #[.slice A n c, .slice B m d] w fun e w' => PairsOk w n m z y e w' := by
  have b1 := below_new2 w (.cells #[.int .i64 0, .int .i64 0, .int .i64 0, .int .i64 0] 23) (.cells #[.int .i64 0, .int .i64 0, .int .i64 0, .int .i64 0] 23)
  have k1 := (Blk.new w 23 #[.int .i64 0, .int .i64 0, .int .i64 0, .int .i64 0]).alloc (.cells #[.int .i64 0, .int .i64 0, .int .i64 0, .int .i64 0] 23)
  have k2 := Blk.new2 w (.cells #[.int .i64 0, .int .i64 0, .int .i64 0, .int .i64 0] 23) 23 #[.int .i64 0, .int .i64 0, .int .i64 0, .int .i64 0]
  have ha1 := ha.below b1
  have hb1 := hb.below b1
  have x0 := rtwo_ok n m c d A B z y _ ha1 hb1 hn hm
  have hnc := ha.1
  have hn63 := ha.2.1
  have hmd := hb.1
  go_enter Try.func13, Try.ntmps13
  go_upto_region 2 with fail
  generalize (w.alloc (.cells #[.int .i64 0, .int .i64 0, .int .i64 0, .int .i64 0] 23)).alloc (.cells #[.int .i64 0, .int .i64 0, .int .i64 0, .int .i64 0] 23) = W0 at *
  generalize hG : w.heap.size + 1 = G at *
  have hGS : w.heap.size ≤ G := by omega
  have hne1 : ¬ G = w.heap.size := by omega
  have hne2 : ¬ w.heap.size = G := by omega
  clear hG
  go_wp2_with fail
  refine x0.mono ?_
  rintro e w1 ⟨⟨rfl, h1⟩ | ⟨rfl, h1⟩, v1⟩
  case inr =>
    have H1 := Lib.hid h1
    have k1 := k1.below v1 k1.lt
    have k2 := k2.below v1 k2.lt
    have q := below_end b1 b1.size v1
    clear h1 x0 b1
    have f0 := k1.frozen 0
    have f1 := k1.frozen 1
    have f2 := k1.frozen 2
    have f3 := k1.frozen 3
    have c0 := k1.cell 0
    have c1 := k1.cell 1
    have c2 := k1.cell 2
    have c3 := k1.cell 3
    have d0 := k2.cell 0
    have d1 := k2.cell 1
    have d2 := k2.cell 2
    have d3 := k2.cell 3
    simp at c0 c1 c2 c3 d0 d1 d2 d3
    have Q := (((q.setCell (p := ⟨w.heap.size, 0, none⟩) (Nat.le_refl _) (.int .i64 0)).setCell (p := ⟨w.heap.size, 1, none⟩) (Nat.le_refl _) (.int .i64 0)).setCell (p := ⟨w.heap.size, 2, none⟩) (Nat.le_refl _) (.int .i64 0)).setCell (p := ⟨w.heap.size, 3, none⟩) (Nat.le_refl _) (.int .i64 0)
    have K := (((k1.set_ 0 (.int .i64 0)).set_ 1 (.int .i64 0)).set_ 2 (.int .i64 0)).set_ 3 (.int .i64 0)
    go_wp2_with fail
    clear c0 c1 c2 c3 d0 d1 d2 d3
    generalize (((w1.setCell ⟨w.heap.size, 0, none⟩ (.int .i64 0)).setCell ⟨w.heap.size, 1, none⟩ (.int .i64 0)).setCell ⟨w.heap.size, 2, none⟩ (.int .i64 0)).setCell ⟨w.heap.size, 3, none⟩ (.int .i64 0) = W2 at *
    have c0 := K.cell 0
    have c1 := K.cell 1
    have c2 := K.cell 2
    have c3 := K.cell 3
    simp at c0 c1 c2 c3
    simp [bodyPost, results, Try.results13, go_sem, c0, c1, c2, c3]
    exact ⟨Or.inl ⟨H1.out, rfl⟩, Q⟩
  obtain rfl := h1.2.2
  have H1 := Lib.hid h1
  have k1 := k1.below v1 k1.lt
  have r1 : RowF .i64 w1 G 23 4 (fun k => (cnt z y k 0 0 : Int)) := ⟨_, k2.below v1 k2.lt, fun i hi => by
    have h : i = 0 ∨ i = 1 ∨ i = 2 ∨ i = 3 := by omega
    rcases h with rfl | rfl | rfl | rfl <;> rfl⟩
  have q1 := below_end b1 b1.size v1
  have LIM := Lib.hid (half_bound hn)
  clear h1 x0 b1 k2 ha1 hb1 v1
  go_wp2_with fail
  go_loopw [7, 8, 9] (fun vi _ _ wr => ∃ i : Nat, vi = .int .i64 i ∧ i ≤ n ∧ RowF .i64 wr G 23 4 (fun k => (cnt z y k i 0 : Int)) ∧ Blk wr w.heap.size 23 #[.int .i64 0, .int .i64 0, .int .i64 0, .int .i64 0] ∧ Below w.heap.size w wr) (fun vi _ _ _ => n - (intOf vi).toNat)
  case atStart => exact ⟨0, rfl, Nat.zero_le _, r1, k1, q1⟩
  case round =>
    clear r1 k1 q1
    obtain ⟨i, rfl, hi, r1, k1, q⟩ := hrel
    by_cases hlt : i < n
    · have hin : (i : Int) < (n : Int) := by omega
      go_wp2_with fail
      go_loopw [8, 9] (fun vj _ wr => ∃ j : Nat, vj = .int .i64 j ∧ j ≤ i ∧ RowF .i64 wr G 23 4 (fun k => (cnt z y k i j : Int)) ∧ Blk wr w.heap.size 23 #[.int .i64 0, .int .i64 0, .int .i64 0, .int .i64 0] ∧ Below w.heap.size w wr) (fun vj _ _ => i - (intOf vj).toNat)
      case atStart => exact ⟨0, rfl, Nat.zero_le _, r1, k1, q⟩
      case round =>
        clear r1 k1 q
        obtain ⟨j, rfl, hj, r1, k1, q⟩ := hrel
        by_cases hlt2 : j < i
        · have hji : (j : Int) < (i : Int) := by omega
          have hjn : (j : Int) < (n : Int) := by omega
          have ha1 := ha.below q
          have hb1 := hb.below q
          obtain ⟨g, o, rfl, hg, hc⟩ := ha1.2.2.1 (by omega)
          obtain ⟨g', o', rfl, hg', hc'⟩ := hb1.2.2.1 (by omega)
          have c1 := hc i (by omega)
          have c2 := hc j (by omega)
          have c3 := hc' i (by omega)
          have c4 := hc' j (by omega)
          obtain ⟨x1, e1⟩ : ∃ x, z i = x := ⟨_, rfl⟩
          obtain ⟨x2, e2⟩ : ∃ x, z j = x := ⟨_, rfl⟩
          obtain ⟨x3, e3⟩ : ∃ x, y i = x := ⟨_, rfl⟩
          obtain ⟨x4, e4⟩ : ∃ x, y j = x := ⟨_, rfl⟩
          rw [e1] at c1
          rw [e2] at c2
          rw [e3] at c3
          rw [e4] at c4
          have HEZ := Lib.hid (And.intro (And.intro e1 e2) (And.intro e3 e4))
          clear hc hc' e1 e2 e3 e4 ha1 hb1
          by_cases hxz : x1 = x2 <;> by_cases hxy : x3 = x4
          · have HK := Lib.hid (cnt_at (z := z) (y := y) (i := i) (j := j) (s := 0) (by decide) (ek_is (a := true) (b := true) (by unfold eqZ; rw [HEZ.out.1.1, HEZ.out.1.2]; simp; exact hxz) (by unfold eqZ; rw [HEZ.out.2.1, HEZ.out.2.2]; simp; exact hxy) rfl))
            have hle := cnt_le z y 0 i j
            have hhi := half_le (n := i) (m := n) (by omega)
            have cs := r1.cell (i := 0) (by decide)
            have hfz := r1.frozen 0
            obtain ⟨x, hx⟩ : ∃ x : Nat, cnt z y 0 i j = x := ⟨_, rfl⟩
            rw [hx] at cs hle HK
            have HX := Lib.hid hx
            have hxb : x ≤ 501000 := by have := LIM.out; omega
            clear hx cs hfz hle hhi
            subst hxz
            subst hxy
            go_wp2_with fail
            go_quiet (fail)
            have r1 := r1.drewN nq
            have k1 := k1.drewN nq
            have q := below_drewN q nq
            generalize hw1 : wr.drewN nq = w2 at *
            have c1 : w2.cell? ⟨g, o + i, none⟩ = some (.int .i64 x1) := by rw [← hw1]; exact c1
            have c2 : w2.cell? ⟨g, o + j, none⟩ = some (.int .i64 x1) := by rw [← hw1]; exact c2
            have c3 : w2.cell? ⟨g', o' + i, none⟩ = some (.int .i64 x3) := by rw [← hw1]; exact c3
            have c4 : w2.cell? ⟨g', o' + j, none⟩ = some (.int .i64 x3) := by rw [← hw1]; exact c4
            clear hw1
            go_wp2_with fail
            go_quiet (fail)
            have r1 := r1.drewN nq
            have k1 := k1.drewN nq
            have q := below_drewN q nq
            generalize w2.drewN nq = w3 at *
            clear c1 c2 c3 c4
            have cs := r1.cell (i := 0) (by decide)
            have hfz := r1.frozen 0
            have hcs : w3.cell? ⟨G, 0, none⟩ = some (.int .i64 (x : Int)) := by rw [cs, HX.out]
            clear cs
            go_wp2_with fail
            have R := (r1.set_ 0 ((x : Int) + 1)).congr (f' := fun k => (cnt z y k i (j + 1) : Int)) HK.out
            have K := k1.far (p := ⟨G, 0, none⟩) hne2 (.int .i64 ((x : Int) + 1))
            have Q := q.setCell (p := ⟨G, 0, none⟩) hGS (.int .i64 ((x : Int) + 1))
            go_roundw
            case rel => exact ⟨j + 1, by simp, by omega, R, K, Q⟩
            case measure => simp [intOf]; omega
          · have HK := Lib.hid (cnt_at (z := z) (y := y) (i := i) (j := j) (s := 1) (by decide) (ek_is (a := true) (b := false) (by unfold eqZ; rw [HEZ.out.1.1, HEZ.out.1.2]; simp; exact hxz) (by unfold eqZ; rw [HEZ.out.2.1, HEZ.out.2.2]; simp; exact hxy) rfl))
            have hle := cnt_le z y 1 i j
            have hhi := half_le (n := i) (m := n) (by omega)
            have cs := r1.cell (i := 1) (by decide)
            have hfz := r1.frozen 1
            obtain ⟨x, hx⟩ : ∃ x : Nat, cnt z y 1 i j = x := ⟨_, rfl⟩
            rw [hx] at cs hle HK
            have HX := Lib.hid hx
            have hxb : x ≤ 501000 := by have := LIM.out; omega
            clear hx cs hfz hle hhi
            subst hxz
            have hb1 : (x3 == x4) = false := by simpa using hxy
            go_wp2_with fail
            go_quiet (fail)
            have r1 := r1.drewN nq
            have k1 := k1.drewN nq
            have q := below_drewN q nq
            generalize hw1 : wr.drewN nq = w2 at *
            have c1 : w2.cell? ⟨g, o + i, none⟩ = some (.int .i64 x1) := by rw [← hw1]; exact c1
            have c2 : w2.cell? ⟨g, o + j, none⟩ = some (.int .i64 x1) := by rw [← hw1]; exact c2
            have c3 : w2.cell? ⟨g', o' + i, none⟩ = some (.int .i64 x3) := by rw [← hw1]; exact c3
            have c4 : w2.cell? ⟨g', o' + j, none⟩ = some (.int .i64 x4) := by rw [← hw1]; exact c4
            clear hw1
            go_wp2_with fail
            go_quiet (fail)
            have r1 := r1.drewN nq
            have k1 := k1.drewN nq
            have q := below_drewN q nq
            generalize w2.drewN nq = w3 at *
            clear c1 c2 c3 c4
            have cs := r1.cell (i := 1) (by decide)
            have hfz := r1.frozen 1
            have hcs : w3.cell? ⟨G, 1, none⟩ = some (.int .i64 (x : Int)) := by rw [cs, HX.out]
            clear cs
            go_wp2_with fail
            have R := (r1.set_ 1 ((x : Int) + 1)).congr (f' := fun k => (cnt z y k i (j + 1) : Int)) HK.out
            have K := k1.far (p := ⟨G, 1, none⟩) hne2 (.int .i64 ((x : Int) + 1))
            have Q := q.setCell (p := ⟨G, 1, none⟩) hGS (.int .i64 ((x : Int) + 1))
            go_roundw
            case rel => exact ⟨j + 1, by simp, by omega, R, K, Q⟩
            case measure => simp [intOf]; omega
          · have HK := Lib.hid (cnt_at (z := z) (y := y) (i := i) (j := j) (s := 2) (by decide) (ek_is (a := false) (b := true) (by unfold eqZ; rw [HEZ.out.1.1, HEZ.out.1.2]; simp; exact hxz) (by unfold eqZ; rw [HEZ.out.2.1, HEZ.out.2.2]; simp; exact hxy) rfl))
            have hle := cnt_le z y 2 i j
            have hhi := half_le (n := i) (m := n) (by omega)
            have cs := r1.cell (i := 2) (by decide)
            have hfz := r1.frozen 2
            obtain ⟨x, hx⟩ : ∃ x : Nat, cnt z y 2 i j = x := ⟨_, rfl⟩
            rw [hx] at cs hle HK
            have HX := Lib.hid hx
            have hxb : x ≤ 501000 := by have := LIM.out; omega
            clear hx cs hfz hle hhi
            have ha1 : (x1 == x2) = false := by simpa using hxz
            subst hxy
            go_wp2_with fail
            go_quiet (fail)
            have r1 := r1.drewN nq
            have k1 := k1.drewN nq
            have q := below_drewN q nq
            generalize hw1 : wr.drewN nq = w2 at *
            have c1 : w2.cell? ⟨g, o + i, none⟩ = some (.int .i64 x1) := by rw [← hw1]; exact c1
            have c2 : w2.cell? ⟨g, o + j, none⟩ = some (.int .i64 x2) := by rw [← hw1]; exact c2
            have c3 : w2.cell? ⟨g', o' + i, none⟩ = some (.int .i64 x3) := by rw [← hw1]; exact c3
            have c4 : w2.cell? ⟨g', o' + j, none⟩ = some (.int .i64 x3) := by rw [← hw1]; exact c4
            clear hw1
            go_wp2_with fail
            go_quiet (fail)
            have r1 := r1.drewN nq
            have k1 := k1.drewN nq
            have q := below_drewN q nq
            generalize w2.drewN nq = w3 at *
            clear c1 c2 c3 c4
            have cs := r1.cell (i := 2) (by decide)
            have hfz := r1.frozen 2
            have hcs : w3.cell? ⟨G, 2, none⟩ = some (.int .i64 (x : Int)) := by rw [cs, HX.out]
            clear cs
            go_wp2_with fail
            have R := (r1.set_ 2 ((x : Int) + 1)).congr (f' := fun k => (cnt z y k i (j + 1) : Int)) HK.out
            have K := k1.far (p := ⟨G, 2, none⟩) hne2 (.int .i64 ((x : Int) + 1))
            have Q := q.setCell (p := ⟨G, 2, none⟩) hGS (.int .i64 ((x : Int) + 1))
            go_roundw
            case rel => exact ⟨j + 1, by simp, by omega, R, K, Q⟩
            case measure => simp [intOf]; omega
          · have HK := Lib.hid (cnt_at (z := z) (y := y) (i := i) (j := j) (s := 3) (by decide) (ek_is (a := false) (b := false) (by unfold eqZ; rw [HEZ.out.1.1, HEZ.out.1.2]; simp; exact hxz) (by unfold eqZ; rw [HEZ.out.2.1, HEZ.out.2.2]; simp; exact hxy) rfl))
            have hle := cnt_le z y 3 i j
            have hhi := half_le (n := i) (m := n) (by omega)
            have cs := r1.cell (i := 3) (by decide)
            have hfz := r1.frozen 3
            obtain ⟨x, hx⟩ : ∃ x : Nat, cnt z y 3 i j = x := ⟨_, rfl⟩
            rw [hx] at cs hle HK
            have HX := Lib.hid hx
            have hxb : x ≤ 501000 := by have := LIM.out; omega
            clear hx cs hfz hle hhi
            have ha1 : (x1 == x2) = false := by simpa using hxz
            have hb1 : (x3 == x4) = false := by simpa using hxy
            go_wp2_with fail
            go_quiet (fail)
            have r1 := r1.drewN nq
            have k1 := k1.drewN nq
            have q := below_drewN q nq
            generalize hw1 : wr.drewN nq = w2 at *
            have c1 : w2.cell? ⟨g, o + i, none⟩ = some (.int .i64 x1) := by rw [← hw1]; exact c1
            have c2 : w2.cell? ⟨g, o + j, none⟩ = some (.int .i64 x2) := by rw [← hw1]; exact c2
            have c3 : w2.cell? ⟨g', o' + i, none⟩ = some (.int .i64 x3) := by rw [← hw1]; exact c3
            have c4 : w2.cell? ⟨g', o' + j, none⟩ = some (.int .i64 x4) := by rw [← hw1]; exact c4
            clear hw1
            go_wp2_with fail
            go_quiet (fail)
            have r1 := r1.drewN nq
            have k1 := k1.drewN nq
            have q := below_drewN q nq
            generalize w2.drewN nq = w3 at *
            clear c1 c2 c3 c4
            have cs := r1.cell (i := 3) (by decide)
            have hfz := r1.frozen 3
            have hcs : w3.cell? ⟨G, 3, none⟩ = some (.int .i64 (x : Int)) := by rw [cs, HX.out]
            clear cs
            go_wp2_with fail
            have R := (r1.set_ 3 ((x : Int) + 1)).congr (f' := fun k => (cnt z y k i (j + 1) : Int)) HK.out
            have K := k1.far (p := ⟨G, 3, none⟩) hne2 (.int .i64 ((x : Int) + 1))
            have Q := q.setCell (p := ⟨G, 3, none⟩) hGS (.int .i64 ((x : Int) + 1))
            go_roundw
            case rel => exact ⟨j + 1, by simp, by omega, R, K, Q⟩
            case measure => simp [intOf]; omega
        · obtain rfl : j = i := by omega
          have hji : ¬ (j : Int) < (j : Int) := by omega
          go_wp2_with fail
          go_roundw
          case rel => exact ⟨j + 1, by simp, by omega, r1, k1, q⟩
          case measure => simp [intOf]; omega
    · obtain rfl : i = n := by omega
      have hin : ¬ (i : Int) < (i : Int) := by omega
      have e0 : cnt z y 0 i 0 = q0 z y i := rfl
      have e1 : cnt z y 1 i 0 = q1 z y i := rfl
      have e2 : cnt z y 2 i 0 = q2 z y i := rfl
      have e3 : cnt z y 3 i 0 = q3 z y i := rfl
      have d0 := r1.cell (i := 0) (by decide)
      have d1 := r1.cell (i := 1) (by decide)
      have d2 := r1.cell (i := 2) (by decide)
      have d3 := r1.cell (i := 3) (by decide)
      rw [e0] at d0
      rw [e1] at d1
      rw [e2] at d2
      rw [e3] at d3
      obtain ⟨P0, f0⟩ : ∃ x, q0 z y i = x := ⟨_, rfl⟩
      obtain ⟨P1, f1⟩ : ∃ x, q1 z y i = x := ⟨_, rfl⟩
      obtain ⟨P2, f2⟩ : ∃ x, q2 z y i = x := ⟨_, rfl⟩
      obtain ⟨P3, f3⟩ : ∃ x, q3 z y i = x := ⟨_, rfl⟩
      rw [f0] at d0
      rw [f1] at d1
      rw [f2] at d2
      rw [f3] at d3
      have HQ := Lib.hid (And.intro f0 (And.intro f1 (And.intro f2 f3)))
      clear e0 e1 e2 e3 f0 f1 f2 f3
      have f0 := k1.frozen 0
      have f1 := k1.frozen 1
      have f2 := k1.frozen 2
      have f3 := k1.frozen 3
      have c0 := k1.cell 0
      have c1 := k1.cell 1
      have c2 := k1.cell 2
      have c3 := k1.cell 3
      simp at c0 c1 c2 c3 d0 d1 d2 d3
      have K := (((k1.set_ 0 (.int .i64 (P0 : Int))).set_ 1 (.int .i64 (P1 : Int))).set_ 2 (.int .i64 (P2 : Int))).set_ 3 (.int .i64 (P3 : Int))
      have Q := (((q.setCell (p := ⟨w.heap.size, 0, none⟩) (Nat.le_refl _) (.int .i64 (P0 : Int))).setCell (p := ⟨w.heap.size, 1, none⟩) (Nat.le_refl _) (.int .i64 (P1 : Int))).setCell (p := ⟨w.heap.size, 2, none⟩) (Nat.le_refl _) (.int .i64 (P2 : Int))).setCell (p := ⟨w.heap.size, 3, none⟩) (Nat.le_refl _) (.int .i64 (P3 : Int))
      go_wp2_with fail
      clear c0 c1 c2 c3 d0 d1 d2 d3
      generalize (((wr.setCell ⟨w.heap.size, 0, none⟩ (.int .i64 (P0 : Int))).setCell ⟨w.heap.size, 1, none⟩ (.int .i64 (P1 : Int))).setCell ⟨w.heap.size, 2, none⟩ (.int .i64 (P2 : Int))).setCell ⟨w.heap.size, 3, none⟩ (.int .i64 (P3 : Int)) = W2 at *
      have c0 := K.cell 0
      have c1 := K.cell 1
      have c2 := K.cell 2
      have c3 := K.cell 3
      simp at c0 c1 c2 c3
      simp [bodyPost, results, Try.results13, go_sem, c0, c1, c2, c3]
      refine ⟨Or.inr ⟨H1.out, ?_⟩, Q⟩
      rw [HQ.out.1, HQ.out.2.1, HQ.out.2.2.1, HQ.out.2.2.2]
set_option maxRecDepth 100000 in
set_option maxHeartbeats 2000000 in
theorem rrand_ok (n m c d : Nat) (A B : Option Addr) (z y : Nat → Int) (w : World) (ha : ArgI .i64 w A n c z) (hb : ArgI .i64 w B m d y) (hn : n ≤ 1000) (hm : m ≤ 1000) :
    Calls Try.prog 15 #[.slice A n c, .slice B m d] w fun e w' => RandOk w n m z y e w' := by
  have b1 := below_new1 w (.cells #[.int .i64 0, .int .i64 0] 28)
  have k1 := Blk.new w 28 #[.int .i64 0, .int .i64 0]
  have ha1 := ha.below b1
  have hb1 := hb.below b1
  have x0 := rpairs_ok n m c d A B z y _ ha1 hb1 hn hm
  go_enter Try.func15, Try.ntmps15
  go_upto_region 1 with fail
  generalize w.alloc (.cells #[.int .i64 0, .int .i64 0] 28) = W0 at *
  go_wp2_with fail
  refine x0.mono ?_
  rintro e w1 ⟨⟨h1, rfl⟩ | ⟨h1, rfl⟩, hv1⟩
  · have H1 := Lib.hid h1
    have k2 := (k1.below hv1 k1.lt).alloc (.cells #[.int .i64 0, .int .i64 0, .int .i64 0, .int .i64 0] 23)
    have q2 := (below_end b1 b1.size hv1).alloc (Nat.le_trans b1.size hv1.size) (.cells #[.int .i64 0, .int .i64 0, .int .i64 0, .int .i64 0] 23)
    clear h1 x0 k1
    go_upto_region 2 with fail
    generalize w1.alloc (.cells #[.int .i64 0, .int .i64 0, .int .i64 0, .int .i64 0] 23) = W1 at *
    have f0 := k2.frozen 0
    have f1 := k2.frozen 1
    have c0 := k2.cell 0
    have c1 := k2.cell 1
    simp at c0 c1
    have K := (k2.set_ 0 (.int .i64 0)).set_ 1 (.int .i64 0)
    have Q := (q2.setCell (p := ⟨w.heap.size, 0, none⟩) (Nat.le_refl _) (.int .i64 0)).setCell (p := ⟨w.heap.size, 1, none⟩) (Nat.le_refl _) (.int .i64 0)
    go_wp2_with fail
    clear c0 c1
    generalize (W1.setCell ⟨w.heap.size, 0, none⟩ (.int .i64 0)).setCell ⟨w.heap.size, 1, none⟩ (.int .i64 0) = W2 at *
    have c0 := K.cell 0
    have c1 := K.cell 1
    simp at c0 c1
    simp [bodyPost, results, Try.results15, go_sem, c0, c1]
    exact ⟨Or.inl ⟨H1.out, rfl⟩, Q⟩
  · obtain rfl := h1.2.2
    have H1 := Lib.hid h1
    obtain ⟨a, b, _, hca, hcb, ea, eb⟩ := h1.nat
    have hq := q_nat ea eb
    have hs := p_all a b n
    rw [← hq.1, ← hq.2.1, ← hq.2.2.1, ← hq.2.2.2] at hs
    have hh := half_bound hn
    clear hq hca hcb ea eb
    obtain ⟨P0, e0⟩ : ∃ x, q0 z y n = x := ⟨_, rfl⟩
    obtain ⟨P1, e1⟩ : ∃ x, q1 z y n = x := ⟨_, rfl⟩
    obtain ⟨P2, e2⟩ : ∃ x, q2 z y n = x := ⟨_, rfl⟩
    obtain ⟨P3, e3⟩ : ∃ x, q3 z y n = x := ⟨_, rfl⟩
    obtain ⟨h', e4⟩ : ∃ x, half n = x := ⟨_, rfl⟩
    rw [e0, e1, e2, e3, e4] at hs
    rw [e4] at hh
    rw [e0, e1, e2, e3]
    have HE := Lib.hid (And.intro e0 e3)
    have E4 := Lib.hid e4
    have k2 := (k1.below hv1 k1.lt).alloc (.cells #[.int .i64 (P0 : Int), .int .i64 (P1 : Int), .int .i64 (P2 : Int), .int .i64 (P3 : Int)] 23)
    have q2 := (below_end b1 b1.size hv1).alloc (Nat.le_trans b1.size hv1.size) (.cells #[.int .i64 (P0 : Int), .int .i64 (P1 : Int), .int .i64 (P2 : Int), .int .i64 (P3 : Int)] 23)
    have p2 := Blk.new w1 23 #[.int .i64 (P0 : Int), .int .i64 (P1 : Int), .int .i64 (P2 : Int), .int .i64 (P3 : Int)]
    clear h1 x0 k1 e0 e1 e2 e3 e4
    go_upto_region 2 with fail
    generalize w1.alloc (.cells #[.int .i64 (P0 : Int), .int .i64 (P1 : Int), .int .i64 (P2 : Int), .int .i64 (P3 : Int)] 23) = W1 at *
    by_cases h2 : n < 2
    · have h2i : (n : Int) < 2 := by omega
      have f0 := k2.frozen 0
      have f1 := k2.frozen 1
      have c0 := k2.cell 0
      have c1 := k2.cell 1
      simp at c0 c1
      have K := (k2.set_ 0 (.int .i64 1)).set_ 1 (.int .i64 1)
      have Q := (q2.setCell (p := ⟨w.heap.size, 0, none⟩) (Nat.le_refl _) (.int .i64 1)).setCell (p := ⟨w.heap.size, 1, none⟩) (Nat.le_refl _) (.int .i64 1)
      go_wp2_with fail
      clear c0 c1
      generalize (W1.setCell ⟨w.heap.size, 0, none⟩ (.int .i64 1)).setCell ⟨w.heap.size, 1, none⟩ (.int .i64 1) = W2 at *
      have c0 := K.cell 0
      have c1 := K.cell 1
      simp at c0 c1
      simp [bodyPost, results, Try.results15, go_sem, c0, c1]
      exact ⟨Or.inr (Or.inl ⟨H1.out, h2, rfl⟩), Q⟩
    · have h2i : ¬ (n : Int) < 2 := by omega
      have y0 := p2.cell 0
      have y1 := p2.cell 1
      have y2 := p2.cell 2
      have y3 := p2.cell 3
      simp at y0 y1 y2 y3
      have hsum : (P0 : Int) + (P1 : Int) + (P2 : Int) + (P3 : Int) = (h' : Int) := by omega
      have x6 := fun W => rreduce_ok ((P0 : Int) + (P3 : Int)) (h' : Int) ⟨by omega, by omega⟩ ⟨by omega, by omega⟩ W
      obtain ⟨rn, ern⟩ : ∃ x, redN ((P0 : Int) + (P3 : Int)) (h' : Int) = x := ⟨_, rfl⟩
      obtain ⟨rd, erd⟩ : ∃ x, redD ((P0 : Int) + (P3 : Int)) (h' : Int) = x := ⟨_, rfl⟩
      obtain ⟨re, ere⟩ : ∃ x, redE ((P0 : Int) + (P3 : Int)) (h' : Int) = x := ⟨_, rfl⟩
      simp only [ern, erd, ere] at x6
      have ER := Lib.hid (And.intro ern (And.intro erd ere))
      clear ern erd ere
      go_wp2_with (go_at_call 41; refine (x6 _).mono ?_; rintro e w4 ⟨rfl, hv4⟩; have k4 := k2.below hv4 k2.lt; have f0 := k4.frozen 0; have f1 := k4.frozen 1; have c0 := k4.cell 0; have c1 := k4.cell 1; simp at c0 c1)
      have q4 := below_end q2 q2.size hv4
      have K := (k4.set_ 0 (.int .i64 rn)).set_ 1 (.int .i64 rd)
      have Q := (q4.setCell (p := ⟨w.heap.size, 0, none⟩) (Nat.le_refl _) (.int .i64 rn)).setCell (p := ⟨w.heap.size, 1, none⟩) (Nat.le_refl _) (.int .i64 rd)
      clear c0 c1
      generalize (w4.setCell ⟨w.heap.size, 0, none⟩ (.int .i64 rn)).setCell ⟨w.heap.size, 1, none⟩ (.int .i64 rd) = W2 at *
      have c0 := K.cell 0
      have c1 := K.cell 1
      simp at c0 c1
      simp [bodyPost, results, Try.results15, go_sem, c0, c1]
      refine ⟨Or.inr (Or.inr ⟨H1.out, by omega, ?_⟩), Q⟩
      rw [HE.out.1, HE.out.2, E4.out, ER.out.1, ER.out.2.1, ER.out.2.2]
end Go.Proofs.Ytipniooflaiikaa
