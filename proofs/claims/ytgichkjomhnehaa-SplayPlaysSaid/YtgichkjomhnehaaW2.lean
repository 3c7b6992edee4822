/-
  The small functions of package splay that read or write a few cells.
-/
import Derived.Test.YtgichkjomhnehaaW1
set_option linter.unusedVariables false
set_option linter.unusedSimpArgs false
namespace Go.Proofs.Ytgichkjomhnehaa
open Go.RowKit Go.Shelf

set_option maxRecDepth 100000 in
theorem side_ok (b s n : Nat) (st : Nat → Nd) (i : Nat) (w : World) (h : SP w b s n st) (hn : n ≤ 65536) (hi : i ≤ n) (hu : (st i).up ≤ n) :
    Calls Try.prog 66 #[.pointer (some ⟨b, 0, none⟩), .int .i64 i] w fun e w' => e = .returned (.int .i64 (sv (sideF st i))) ∧ ∃ m, w' = w.drewN m := by
  obtain ⟨c, h1, h2, h3⟩ := h.cell1
  have cu : w.cell? ⟨s, i * 9 + 2, none⟩ = some (.int .i64 ((st i).up : Int)) := h.2.cell hi 2 (by decide)
  obtain ⟨p, hp⟩ : ∃ p, (st i).up = p := ⟨_, rfl⟩
  rw [hp] at cu hu
  have ck : w.cell? ⟨s, p * 9 + 1, none⟩ = some (.int .i64 ((st p).k1 : Int)) := h.2.cell hu 1 (by decide)
  have hpn : (p : Int) < (n : Int) + 1 := by omega
  have hin : (i : Int) < (n : Int) + 1 := by omega
  by_cases hs : (st p).k1 = i
  · have HS := Lib.hid (show sideF st i = true from by unfold sideF; rw [hp]; exact decide_eq_true hs)
    rw [hs] at ck
    clear hs hp
    go_enter Try.func66, Try.ntmps66
    go_wp2_with fail
    go_quiet (fail)
    go_wp2_with fail
    go_ret
    exact ⟨by rw [HS.out]; rfl, nq, rfl⟩
  · have HS := Lib.hid (show sideF st i = false from by unfold sideF; rw [hp]; exact decide_eq_false hs)
    obtain ⟨k, hk⟩ : ∃ k, (st p).k1 = k := ⟨_, rfl⟩
    rw [hk] at ck hs
    have hne : ((k : Int) == (i : Int)) = false := by simp; omega
    have hne2 : ¬ (k : Int) = (i : Int) := by omega
    clear hs hp hk
    go_enter Try.func66, Try.ntmps66
    go_wp2_with fail
    go_quiet (fail)
    go_wp2_with fail
    go_ret
    exact ⟨by rw [HS.out]; rfl, nq, rfl⟩
theorem hangF_zero (st : Nat → Nd) (i : Nat) (side : Bool) : hangF st i side 0 = put st i (setK (st i) side 0) := by
  unfold hangF
  rw [if_pos rfl]
theorem hangF_pos (st : Nat → Nd) (i : Nat) (side : Bool) {k : Nat} (h : k ≠ 0) : hangF st i side k = put (put st i (setK (st i) side k)) k { (put st i (setK (st i) side k)) k with up := i } := by
  unfold hangF
  rw [if_neg h]
set_option maxRecDepth 100000 in
theorem hang_ok (b s n : Nat) (st : Nat → Nd) (i k : Nat) (side : Bool) (w : World) (h : SP w b s n st) (hn : n ≤ 65536) (hi : i ≤ n) (hk : k ≤ n) :
    Calls Try.prog 44 #[.pointer (some ⟨b, 0, none⟩), .int .i64 i, .int .i64 (sv side), .int .i64 k] w fun e w' => e = .returned (.tuple #[]) ∧ SP w' b s n (hangF st i side k) ∧ Turns (· = s) w w' := by
  obtain ⟨c, h1, h2, h3⟩ := h.cell1
  have hkn : (k : Int) < (n : Int) + 1 := by omega
  have hin : (i : Int) < (n : Int) + 1 := by omega
  have ck0 : w.cell? ⟨s, i * 9, none⟩ = some (.int .i64 ((st i).k0 : Int)) := h.2.cell hi 0 (by decide)
  have ck1 : w.cell? ⟨s, i * 9 + 1, none⟩ = some (.int .i64 ((st i).k1 : Int)) := h.2.cell hi 1 (by decide)
  have fz0 := h.2.frozen (i * 9)
  have fz1 := h.2.frozen (i * 9 + 1)
  cases side with
  | false =>
    have e : sv false = 0 := rfl
    rw [e]
    have S := h.set0 hi (nd := setK (st i) false k) (fld_setK (st i) false k).1 (fun g hg hg0 => (fld_setK (st i) false k).2 g hg hg0)
    have Q := (Turns.refl (· = s) w).setCell (p := ⟨s, i * 9, none⟩) (Or.inr rfl) (.int .i64 (k : Int))
    by_cases hk0 : k = 0
    · subst hk0
      rw [hangF_zero]
      clear e
      go_enter Try.func44, Try.ntmps44
      go_wp2_with fail
      go_end0
      exact ⟨rfl, S, Q⟩
    · have hk1 : ((k : Int) == 0) = false := by simp; omega
      have hk2 : ¬ (k : Int) = 0 := by omega
      have S2 := S.set_ hk (f := 2) (by decide) (fld_up _ i).1 (fld_up _ i).2
      rw [← hangF_pos st i false hk0] at S2
      have Q2 := Q.setCell (p := ⟨s, k * 9 + 2, none⟩) (Or.inr rfl) (.int .i64 (i : Int))
      have cu1 := S.2.cell hk 2 (by decide)
      have cb1 := S.cell1
      obtain ⟨c', cb1, _, _⟩ := cb1
      have fz1 := S.2.frozen (k * 9 + 2)
      generalize hangF st i false k = H at *
      clear hk0 e
      go_enter Try.func44, Try.ntmps44
      go_wp2_with fail
      go_end0
      exact ⟨rfl, S2, Q2⟩
  | true =>
    have e : sv true = 1 := rfl
    rw [e]
    have S := h.set_ hi (f := 1) (by decide) (nd := setK (st i) true k) (fld_setK (st i) true k).1 (fun g hg hg0 => (fld_setK (st i) true k).2 g hg hg0)
    have Q := (Turns.refl (· = s) w).setCell (p := ⟨s, i * 9 + 1, none⟩) (Or.inr rfl) (.int .i64 (k : Int))
    by_cases hk0 : k = 0
    · subst hk0
      rw [hangF_zero]
      clear e
      go_enter Try.func44, Try.ntmps44
      go_wp2_with fail
      go_end0
      exact ⟨rfl, S, Q⟩
    · have hk1 : ((k : Int) == 0) = false := by simp; omega
      have hk2 : ¬ (k : Int) = 0 := by omega
      have S2 := S.set_ hk (f := 2) (by decide) (fld_up _ i).1 (fld_up _ i).2
      rw [← hangF_pos st i true hk0] at S2
      have Q2 := Q.setCell (p := ⟨s, k * 9 + 2, none⟩) (Or.inr rfl) (.int .i64 (i : Int))
      have cu1 := S.2.cell hk 2 (by decide)
      have cb1 := S.cell1
      obtain ⟨c', cb1, _, _⟩ := cb1
      have fz1 := S.2.frozen (k * 9 + 2)
      generalize hangF st i true k = H at *
      clear hk0 e
      go_enter Try.func44, Try.ntmps44
      go_wp2_with fail
      go_end0
      exact ⟨rfl, S2, Q2⟩
end Go.Proofs.Ytgichkjomhnehaa
