/-
  The document's sequences: Set, Min, without.
-/
import Derived.Test.YtgichkjomhnehaaT4
set_option linter.unusedVariables false
set_option linter.unusedSectionVars false
set_option linter.unusedSimpArgs false
namespace Go.Proofs.Ytgichkjomhnehaa
open Go.RowKit Go.Shelf

/-- why x is no node -/
def RChk (p : Option Addr) (X : Int) (w : World) (c : Int) : Prop := Calls Try.prog 55 #[.pointer p, .int .i64 X] w fun e w' => e = .returned (.int .i64 c) ∧ w = w'
theorem rchk_nil (X : Int) (w : World) : RChk none X w 1 := rcheck_nil X w
theorem rchk_out {r c n : Nat} {LL : List (List Nat)} {U : Nat → Int} {X : Int} {w : World} (h : RL w r c n LL U) (hX : hasB n X = false) : RChk (some ⟨r, 0, none⟩) X w 3 := by
  have := rcheck_ok r c n LL U X w h
  rw [hX] at this
  exact this
theorem rchk_in {r c n x : Nat} {LL : List (List Nat)} {U : Nat → Int} {w : World} (h : RL w r c n LL U) (hx : x < n) : RChk (some ⟨r, 0, none⟩) x w 0 := by
  have := rcheck_ok r c n LL U x w h
  rw [hasB_nat hx] at this
  exact this
section
variable (p : Option Addr) (X Y V : Int) (c : Int) (hc : c ≠ 0) (w : World)
include hc
theorem rset_bad (x0 : RChk p X w c) : Calls Try.prog 36 #[.pointer p, .int .i64 X, .int .i64 V] w fun e w' => e = .returned (.int .i64 c) ∧ w = w' := by
  unfold RChk at x0
  have hc1 : (c == 0) = false := by simpa using hc
  go_enter Try.func36, Try.ntmps36
  go_wp2_with fail
  refine x0.mono ?_
  rintro e w' ⟨rfl, rfl⟩
  go_wp2_with fail
  go_ret
  exact ⟨rfl, rfl⟩
theorem rreverse_bad (x0 : RChk p X w c) : Calls Try.prog 35 #[.pointer p, .int .i64 X] w fun e w' => e = .returned (.int .i64 c) ∧ w = w' := by
  unfold RChk at x0
  have hc1 : (c == 0) = false := by simpa using hc
  go_enter Try.func35, Try.ntmps35
  go_wp2_with fail
  refine x0.mono ?_
  rintro e w' ⟨rfl, rfl⟩
  go_wp2_with fail
  go_ret
  exact ⟨rfl, rfl⟩
theorem rsplit_bad (x0 : RChk p X w c) : Calls Try.prog 34 #[.pointer p, .int .i64 X] w fun e w' => e = .returned (.int .i64 c) ∧ w = w' := by
  unfold RChk at x0
  have hc1 : (c == 0) = false := by simpa using hc
  go_enter Try.func34, Try.ntmps34
  go_wp2_with fail
  refine x0.mono ?_
  rintro e w' ⟨rfl, rfl⟩
  go_wp2_with fail
  go_ret
  exact ⟨rfl, rfl⟩
theorem rsum_bad (x0 : RChk p X w c) : Calls Try.prog 49 #[.pointer p, .int .i64 X] w fun e w' => e = .returned (.tuple #[.int .i64 0, .int .i64 c]) ∧ w = w' := by
  unfold RChk at x0
  have hc1 : (c == 0) = false := by simpa using hc
  go_enter Try.func49, Try.ntmps49
  go_wp2_with fail
  refine x0.mono ?_
  rintro e w' ⟨rfl, rfl⟩
  go_wp2_with fail
  go_ret2
  exact ⟨rfl, rfl⟩
theorem rjoin_bad (x0 : RChk p X w c) : Calls Try.prog 33 #[.pointer p, .int .i64 X, .int .i64 Y] w fun e w' => e = .returned (.int .i64 c) ∧ w = w' := by
  unfold RChk at x0
  have hc1 : (c == 0) = false := by simpa using hc
  go_enter Try.func33, Try.ntmps33
  go_wp2_with fail
  refine x0.mono ?_
  rintro e w' ⟨rfl, rfl⟩
  go_wp2_with fail
  go_ret
  exact ⟨rfl, rfl⟩
theorem rjoin_bad2 (x0 : RChk p X w 0) (x1 : RChk p Y w c) : Calls Try.prog 33 #[.pointer p, .int .i64 X, .int .i64 Y] w fun e w' => e = .returned (.int .i64 c) ∧ w = w' := by
  unfold RChk at x0 x1
  have hc1 : (c == 0) = false := by simpa using hc
  go_enter Try.func33, Try.ntmps33
  go_wp2_with fail
  refine x0.mono ?_
  rintro e w' ⟨rfl, rfl⟩
  go_wp2_with fail
  refine x1.mono ?_
  rintro e w' ⟨rfl, rfl⟩
  go_wp2_with fail
  go_ret
  exact ⟨rfl, rfl⟩
end
theorem vals_set {U : Nat → Int} {n x : Nat} {v : Int} (hx : x < n) : (vals U n).set x (.int .i64 v) = vals (setU U x v) n := by
  apply List.ext_getElem?
  intro i
  rw [List.getElem?_set, vals_len]
  by_cases e : x = i
  · subst e
    rw [if_pos rfl, if_pos hx, vals_get hx]
    simp [setU]
  · rw [if_neg e]
    rcases Nat.lt_or_ge i n with h | h
    · rw [vals_get h, vals_get h]
      unfold setU
      rw [if_neg (fun h => e h.symm)]
    · rw [List.getElem?_eq_none (by rw [vals_len]; exact h), List.getElem?_eq_none (by rw [vals_len]; exact h)]
/-- the boxes of steps stay -/
def K55 (w w' : World) : Prop := ∀ bx cs, Blk w bx 55 cs → Blk w' bx 55 cs
theorem K55.trans {a b c : World} (h : K55 a b) (k : K55 b c) : K55 a c := fun bx cs x => k bx cs (h bx cs x)
theorem K55.of_below {w w' : World} (h : Below w.heap.size w w') : K55 w w' := fun bx cs x => Blk.below x h (Blk.lt x)
theorem RL.setV {w : World} {r c n x g cc : Nat} {LL : List (List Nat)} {U : Nat → Int} {v : Int} (h : RL w r c n LL U) (hx : x < n) (hv : Fits v) (h2 : w.cell? ⟨r, 2, none⟩ = some (.slice (some ⟨g, 0, none⟩) n cc)) :
    RL (w.setCell ⟨g, x, none⟩ (.int .i64 v)) r c n LL (setU U x v) ∧ Turns (fun k => c ≤ k) w (w.setCell ⟨g, x, none⟩ (.int .i64 v)) ∧ K55 w (w.setCell ⟨g, x, none⟩ (.int .i64 v)) := by
  obtain ⟨h0, hn, hf, vL, ss, vV, k1, k2, k3⟩ := h
  have e := k1.cell 2
  rw [h2] at e
  have e : vV = .slice (some ⟨g, 0, none⟩) n cc := by simpa using e.symm
  subst e
  have hg := World.ownsRow.lt k3 g rfl
  have gs := grownBy_set w ⟨g, x, none⟩ (.int .i64 v)
  have hs := World.ownsRow.stored k3 x (.int .i64 v)
  refine ⟨⟨h0, hn, fun y hy => ?_, vL, ss, _, k1.far ?_ _, ?_, ?_⟩, (Turns.refl _ w).setCell (.inr hg.1) _, fun bx cs hb => Blk.far hb (p := ⟨g, x, none⟩) (fun e => ?_) _⟩
  · unfold setU
    split
    · exact hv
    · exact hf y hy
  · intro e
    rcases k3.2 with ⟨e2, _⟩ | ⟨g', cap, cur, e2, _, hh, _⟩
    · cases e2
    · cases e2
      exact k1.ne_ (t' := 2) (cs' := cur) hh (by decide) e
  · exact k2.kept gs (own_apart k2.1 k3 (by decide)) (fun v l hr => own_apart hr k3 (by decide))
  · rw [← vals_set hx]
    exact hs.1
  · have e : bx = g := e
    rcases k3.2 with ⟨e2, _⟩ | ⟨g', cap, cur, e2, _, hh, _⟩
    · cases e2
    · cases e2
      exact Blk.ne_ hb (t' := 2) (cs' := cur) hh (by decide) e
set_option maxRecDepth 100000 in
theorem rset_ok (r c n : Nat) (LL : List (List Nat)) (U : Nat → Int) (x : Nat) (v : Int) (w : World) (h : RL w r c n LL U) (hx : x < n) (hv : Fits v) :
    Calls Try.prog 36 #[.pointer (some ⟨r, 0, none⟩), .int .i64 (x : Int), .int .i64 v] w fun e w' => e = .returned (.int .i64 0) ∧ RL w' r c n LL (setU U x v) ∧ Turns (fun k => c ≤ k) w w' ∧ K55 w w' := by
  have x0 := rchk_in h hx
  unfold RChk at x0
  obtain ⟨A, cc, c2, k1, k2, k3, hw⟩ := h.cellV
  obtain ⟨g, rfl, _, _⟩ := k3 (by omega)
  have c9 := owns_cell hw (vals_get (z := fun i => U i) hx)
  have f9 := World.ownsRow.frozenAt hw x
  have hxn : (x : Int) < (n : Int) := by omega
  have HF := Lib.hid (h.setV hx hv c2)
  clear h hw k3
  go_enter Try.func36, Try.ntmps36
  go_wp2_with fail
  refine x0.mono ?_
  rintro e w' ⟨rfl, rfl⟩
  go_wp2_with fail
  go_ret
  exact ⟨rfl, HF.out⟩
end Go.Proofs.Ytgichkjomhnehaa
