/-
  rotate.
-/
import Derived.Test.YtgichkjomhnehaaW4
set_option linter.unusedVariables false
set_option linter.unusedSimpArgs false
namespace Go.Proofs.Ytgichkjomhnehaa
open Go.RowKit Go.Shelf

theorem turns_join {s : Nat} {a b c : World} (h : Turns (· = s) a b) (k : Turns (· = s) b c) : Turns (· = s) a c := h.trans k
/-- what a rotation wants of the state -/
structure RotOk (n : Nat) (st : Nat → Nd) (x : Nat) : Prop where
  x0 : x ≤ n
  p0 : (st x).up ≠ 0
  p1 : (st x).up ≤ n
  px : (st x).up ≠ x
  g1 : (st (st x).up).up ≤ n
  m1 : kid (rot1 st x (st x).up (st (st x).up).up x) (!sideF st x) ≤ n
  v1 : Fits (midF st x (st x).up).v
  a0 : KidOk n (midF st x) (st x).up (midF st x (st x).up).k0
  a1 : KidOk n (midF st x) (st x).up (midF st x (st x).up).k1
  v2 : Fits (refreshF (midF st x) (st x).up x).v
  b0 : KidOk n (refreshF (midF st x) (st x).up) x (refreshF (midF st x) (st x).up x).k0
  b1 : KidOk n (refreshF (midF st x) (st x).up) x (refreshF (midF st x) (st x).up x).k1
set_option maxRecDepth 100000 in
set_option maxHeartbeats 2000000 in
theorem rotate_ok (b s n : Nat) (st : Nat → Nd) (x : Nat) (w : World) (h : SP w b s n st) (hn : n ≤ 65536) (hr : RotOk n st x) :
    Calls Try.prog 67 #[.pointer (some ⟨b, 0, none⟩), .int .i64 x] w fun e w' => e = .returned (.tuple #[]) ∧ SP w' b s n (rotateF st x) ∧ Turns (· = s) w w' := by
  obtain ⟨hx, hp0, hp1, hpx, hg1, hm1, v1, a0, a1, v2, b0, b1⟩ := hr
  have HR := Lib.hid (show rotateF st x = refreshF (refreshF (midF st x) (st x).up) x from rfl)
  have HMI := Lib.hid (show midF st x = rot2 (rot1 st x (st x).up (st (st x).up).up) x (st x).up (sideF st x) from rfl)
  have hxn : (x : Int) < (n : Int) + 1 := by omega
  obtain ⟨c, h1, h2, h3⟩ := h.cell1
  have cx : w.cell? ⟨s, x * 9 + 2, none⟩ = some (.int .i64 ((st x).up : Int)) := h.2.cell hx 2 (by decide)
  have y0 := side_ok b s n st x w h hn hx hp1
  generalize (st x).up = p at *
  have cp : w.cell? ⟨s, p * 9 + 2, none⟩ = some (.int .i64 ((st p).up : Int)) := h.2.cell hp1 2 (by decide)
  have hpn : (p : Int) < (n : Int) + 1 := by omega
  have y1 : ∀ W, SP W b s n st → _ := fun W hW => side_ok b s n st p W hW hn hp1 hg1
  generalize (st p).up = g at *
  generalize midF st x = M at *
  have z0 : ∀ W, SP W b s n M → _ := fun W hW => refresh_ok b s n M p W hW hn hp1 v1 a0 a1
  have z1 : ∀ W, SP W b s n (refreshF M p) → _ := fun W hW => refresh_ok b s n (refreshF M p) x W hW hn hx v2 b0 b1
  have Y1 := Lib.hid y1
  have Z0 := Lib.hid z0
  have Z1 := Lib.hid z1
  clear z0 z1 y1 v1 a0 a1 v2 b0 b1
  generalize sideF st x = sd at *
  cases sd with
  | false =>
    rw [show sv false = 0 from rfl] at y0
    rw [show (!false) = true from rfl] at hm1
    by_cases hg0 : g = 0
    · subst hg0
      go_enter Try.func67, Try.ntmps67
      go_wp2_with fail
      refine y0.mono ?_
      rintro e w0 ⟨rfl, m0, rfl⟩
      have S0 := h.drewN m0
      have Q := (Turns.refl (· = s) w).drewN m0
      have S1 := S0.set_ hx (f := 2) (by decide) (fld_up (st x) 0).1 (fld_up (st x) 0).2
      have Q := Q.setCell (p := ⟨s, x * 9 + 2, none⟩) (Or.inr rfl) (.int .i64 0)
      have S1 : SP ((w.drewN m0).setCell ⟨s, x * 9 + 2, none⟩ (.int .i64 0)) b s n (rot1 st x p 0) := by
        unfold rot1
        rw [if_pos rfl]
        exact S1
      have cx' : (w.drewN m0).cell? ⟨s, x * 9 + 2, none⟩ = some (.int .i64 (p : Int)) := cx
      have fx' := S0.2.frozen (x * 9 + 2)
      obtain ⟨c', d1', _, _⟩ := S0.cell1
      generalize w.drewN m0 = W0 at *
      clear cx cp h h1 y0
      go_upto_region 6 with fail
      generalize W0.setCell ⟨s, x * 9 + 2, none⟩ (.int .i64 0) = W1 at *
      clear cx' fx' d1' S0
      have cm : W1.cell? ⟨s, x * 9 + 1, none⟩ = some (.int .i64 (kid (rot1 st x p 0 x) true : Int)) := S1.2.cell hx 1 (by decide)
      obtain ⟨c1, d1, d2, d3⟩ := S1.cell1
      have y2 := hang_ok b s n (rot1 st x p 0) p (kid (rot1 st x p 0 x) true) false W1 S1 hn hp1 hm1
      rw [show sv false = 0 from rfl] at y2
      obtain ⟨m, hm⟩ : ∃ m, kid (rot1 st x p 0 x) true = m := ⟨_, rfl⟩
      rw [hm] at cm y2
      have HM := Lib.hid hm
      clear S1 hm
      go_wp2_with fail
      refine y2.mono ?_
      rintro e W2 ⟨rfl, S2, Q2⟩
      have Q := turns_join Q Q2
      have y3 := hang_ok b s n _ x p true W2 S2 hn hx hp1
      rw [show sv true = 1 from rfl] at y3
      clear y2 cm d1 Q2
      go_wp2_with fail
      refine y3.mono ?_
      rintro e W3 ⟨rfl, S3, Q3⟩
      have Q := turns_join Q Q3
      have S3 : SP W3 b s n M := by
        rw [HMI.out]
        unfold rot2
        rw [show (!false) = true from rfl, HM.out]
        exact S3
      have y4 := Z0.out W3 S3
      clear y3 Q3
      go_wp2_with fail
      refine y4.mono ?_
      rintro e W4 ⟨rfl, S4, Q4⟩
      have Q := turns_join Q Q4
      have y5 := Z1.out W4 S4
      clear y4 Q4
      go_wp2_with fail
      refine y5.mono ?_
      rintro e W5 ⟨rfl, S5, Q5⟩
      have Q := turns_join Q Q5
      clear y5 Q5
      go_wp2_with fail
      go_end0
      exact ⟨rfl, by rw [HR.out]; exact S5, Q⟩
    · have hgn : (g : Int) < (n : Int) + 1 := by omega
      have hg2 : ((g : Int) == 0) = false := by simp; omega
      have hg3 : ¬ (g : Int) = 0 := by omega
      go_enter Try.func67, Try.ntmps67
      go_wp2_with fail
      refine y0.mono ?_
      rintro e w0 ⟨rfl, m0, rfl⟩
      have S0 := h.drewN m0
      have Q := (Turns.refl (· = s) w).drewN m0
      generalize w.drewN m0 = W0 at *
      have y6 := Y1.out W0 S0
      clear cx cp h h1 y0
      go_wp2_with fail
      refine y6.mono ?_
      rintro e w0 ⟨rfl, m1, rfl⟩
      have S0 := S0.drewN m1
      have Q := Q.drewN m1
      have y7 := hang_ok b s n st g x (sideF st p) (W0.drewN m1) S0 hn hg1 hx
      generalize W0.drewN m1 = W00 at *
      clear y6
      go_wp2_with fail
      refine y7.mono ?_
      rintro e W1 ⟨rfl, S1, Q1⟩
      have Q := turns_join Q Q1
      have S1 : SP W1 b s n (rot1 st x p g) := by
        unfold rot1
        rw [if_neg hg0]
        exact S1
      clear y7 Q1 hg0 hg2 hg3
      have cm : W1.cell? ⟨s, x * 9 + 1, none⟩ = some (.int .i64 (kid (rot1 st x p g x) true : Int)) := S1.2.cell hx 1 (by decide)
      obtain ⟨c1, d1, d2, d3⟩ := S1.cell1
      have y2 := hang_ok b s n (rot1 st x p g) p (kid (rot1 st x p g x) true) false W1 S1 hn hp1 hm1
      rw [show sv false = 0 from rfl] at y2
      obtain ⟨m, hm⟩ : ∃ m, kid (rot1 st x p g x) true = m := ⟨_, rfl⟩
      rw [hm] at cm y2
      have HM := Lib.hid hm
      clear S1 hm
      go_wp2_with fail
      refine y2.mono ?_
      rintro e W2 ⟨rfl, S2, Q2⟩
      have Q := turns_join Q Q2
      have y3 := hang_ok b s n _ x p true W2 S2 hn hx hp1
      rw [show sv true = 1 from rfl] at y3
      clear y2 cm d1 Q2
      go_wp2_with fail
      refine y3.mono ?_
      rintro e W3 ⟨rfl, S3, Q3⟩
      have Q := turns_join Q Q3
      have S3 : SP W3 b s n M := by
        rw [HMI.out]
        unfold rot2
        rw [show (!false) = true from rfl, HM.out]
        exact S3
      have y4 := Z0.out W3 S3
      clear y3 Q3
      go_wp2_with fail
      refine y4.mono ?_
      rintro e W4 ⟨rfl, S4, Q4⟩
      have Q := turns_join Q Q4
      have y5 := Z1.out W4 S4
      clear y4 Q4
      go_wp2_with fail
      refine y5.mono ?_
      rintro e W5 ⟨rfl, S5, Q5⟩
      have Q := turns_join Q Q5
      clear y5 Q5
      go_wp2_with fail
      go_end0
      exact ⟨rfl, by rw [HR.out]; exact S5, Q⟩
  | true =>
    rw [show sv true = 1 from rfl] at y0
    rw [show (!true) = false from rfl] at hm1
    by_cases hg0 : g = 0
    · subst hg0
      go_enter Try.func67, Try.ntmps67
      go_wp2_with fail
      refine y0.mono ?_
      rintro e w0 ⟨rfl, m0, rfl⟩
      have S0 := h.drewN m0
      have Q := (Turns.refl (· = s) w).drewN m0
      have S1 := S0.set_ hx (f := 2) (by decide) (fld_up (st x) 0).1 (fld_up (st x) 0).2
      have Q := Q.setCell (p := ⟨s, x * 9 + 2, none⟩) (Or.inr rfl) (.int .i64 0)
      have S1 : SP ((w.drewN m0).setCell ⟨s, x * 9 + 2, none⟩ (.int .i64 0)) b s n (rot1 st x p 0) := by
        unfold rot1
        rw [if_pos rfl]
        exact S1
      have cx' : (w.drewN m0).cell? ⟨s, x * 9 + 2, none⟩ = some (.int .i64 (p : Int)) := cx
      have fx' := S0.2.frozen (x * 9 + 2)
      obtain ⟨c', d1', _, _⟩ := S0.cell1
      generalize w.drewN m0 = W0 at *
      clear cx cp h h1 y0
      go_upto_region 6 with fail
      generalize W0.setCell ⟨s, x * 9 + 2, none⟩ (.int .i64 0) = W1 at *
      clear cx' fx' d1' S0
      have cm : W1.cell? ⟨s, x * 9, none⟩ = some (.int .i64 (kid (rot1 st x p 0 x) false : Int)) := S1.2.cell hx 0 (by decide)
      obtain ⟨c1, d1, d2, d3⟩ := S1.cell1
      have y2 := hang_ok b s n (rot1 st x p 0) p (kid (rot1 st x p 0 x) false) true W1 S1 hn hp1 hm1
      rw [show sv true = 1 from rfl] at y2
      obtain ⟨m, hm⟩ : ∃ m, kid (rot1 st x p 0 x) false = m := ⟨_, rfl⟩
      rw [hm] at cm y2
      have HM := Lib.hid hm
      clear S1 hm
      go_wp2_with fail
      refine y2.mono ?_
      rintro e W2 ⟨rfl, S2, Q2⟩
      have Q := turns_join Q Q2
      have y3 := hang_ok b s n _ x p false W2 S2 hn hx hp1
      rw [show sv false = 0 from rfl] at y3
      clear y2 cm d1 Q2
      go_wp2_with fail
      refine y3.mono ?_
      rintro e W3 ⟨rfl, S3, Q3⟩
      have Q := turns_join Q Q3
      have S3 : SP W3 b s n M := by
        rw [HMI.out]
        unfold rot2
        rw [show (!true) = false from rfl, HM.out]
        exact S3
      have y4 := Z0.out W3 S3
      clear y3 Q3
      go_wp2_with fail
      refine y4.mono ?_
      rintro e W4 ⟨rfl, S4, Q4⟩
      have Q := turns_join Q Q4
      have y5 := Z1.out W4 S4
      clear y4 Q4
      go_wp2_with fail
      refine y5.mono ?_
      rintro e W5 ⟨rfl, S5, Q5⟩
      have Q := turns_join Q Q5
      clear y5 Q5
      go_wp2_with fail
      go_end0
      exact ⟨rfl, by rw [HR.out]; exact S5, Q⟩
    · have hgn : (g : Int) < (n : Int) + 1 := by omega
      have hg2 : ((g : Int) == 0) = false := by simp; omega
      have hg3 : ¬ (g : Int) = 0 := by omega
      go_enter Try.func67, Try.ntmps67
      go_wp2_with fail
      refine y0.mono ?_
      rintro e w0 ⟨rfl, m0, rfl⟩
      have S0 := h.drewN m0
      have Q := (Turns.refl (· = s) w).drewN m0
      generalize w.drewN m0 = W0 at *
      have y6 := Y1.out W0 S0
      clear cx cp h h1 y0
      go_wp2_with fail
      refine y6.mono ?_
      rintro e w0 ⟨rfl, m1, rfl⟩
      have S0 := S0.drewN m1
      have Q := Q.drewN m1
      have y7 := hang_ok b s n st g x (sideF st p) (W0.drewN m1) S0 hn hg1 hx
      generalize W0.drewN m1 = W00 at *
      clear y6
      go_wp2_with fail
      refine y7.mono ?_
      rintro e W1 ⟨rfl, S1, Q1⟩
      have Q := turns_join Q Q1
      have S1 : SP W1 b s n (rot1 st x p g) := by
        unfold rot1
        rw [if_neg hg0]
        exact S1
      clear y7 Q1 hg0 hg2 hg3
      have cm : W1.cell? ⟨s, x * 9, none⟩ = some (.int .i64 (kid (rot1 st x p g x) false : Int)) := S1.2.cell hx 0 (by decide)
      obtain ⟨c1, d1, d2, d3⟩ := S1.cell1
      have y2 := hang_ok b s n (rot1 st x p g) p (kid (rot1 st x p g x) false) true W1 S1 hn hp1 hm1
      rw [show sv true = 1 from rfl] at y2
      obtain ⟨m, hm⟩ : ∃ m, kid (rot1 st x p g x) false = m := ⟨_, rfl⟩
      rw [hm] at cm y2
      have HM := Lib.hid hm
      clear S1 hm
      go_wp2_with fail
      refine y2.mono ?_
      rintro e W2 ⟨rfl, S2, Q2⟩
      have Q := turns_join Q Q2
      have y3 := hang_ok b s n _ x p false W2 S2 hn hx hp1
      rw [show sv false = 0 from rfl] at y3
      clear y2 cm d1 Q2
      go_wp2_with fail
      refine y3.mono ?_
      rintro e W3 ⟨rfl, S3, Q3⟩
      have Q := turns_join Q Q3
      have S3 : SP W3 b s n M := by
        rw [HMI.out]
        unfold rot2
        rw [show (!true) = false from rfl, HM.out]
        exact S3
      have y4 := Z0.out W3 S3
      clear y3 Q3
      go_wp2_with fail
      refine y4.mono ?_
      rintro e W4 ⟨rfl, S4, Q4⟩
      have Q := turns_join Q Q4
      have y5 := Z1.out W4 S4
      clear y4 Q4
      go_wp2_with fail
      refine y5.mono ?_
      rintro e W5 ⟨rfl, S5, Q5⟩
      have Q := turns_join Q Q5
      clear y5 Q5
      go_wp2_with fail
      go_end0
      exact ⟨rfl, by rw [HR.out]; exact S5, Q⟩
end Go.Proofs.Ytgichkjomhnehaa
