/-
  works: the chapter's example holds; filled.
-/
import Derived.Test.YtjikfmacdacgaaaR4
set_option linter.unusedVariables false
set_option linter.unusedSimpArgs false
namespace Go.Proofs.Ytjikfmacdacgaaa
open Go.RowKit Go.Shelf Fw

/-- the example's counters after some additions -/
def c0 : Nat → Int := fun _ => 0
def c1 : Nat → Int := upd c0 0 3
def c2 : Nat → Int := upd c1 2 5
def c3 : Nat → Int := upd c2 3 1

theorem ex_c : pre c3 0 = 0 ∧ pre c3 1 = 3 ∧ pre c3 2 = 3 ∧ pre c3 3 = 8 ∧ pre c3 4 = 9 ∧ c3 2 = 5 := by decide
theorem ex_found : Fw.Found c3 4 7 2 := by
  obtain ⟨h0, h1, h2, h3, h4, h5⟩ := ex_c
  exact ⟨by decide, by rw [h2]; decide, by rw [h3]; decide⟩
theorem ex_pre : preV c3 4 3 = 8 := by decide
theorem ex_range : rangeV c3 4 (-5) 9 = 9 := by decide

theorem works_ok (w : World) : Calls Try.prog 15 #[] w fun e w' => e = .returned (.bool true) ∧ Below w.heap.size w w' := by
  have p1 := Lib.hid ex_pre
  have p2 := Lib.hid ex_range
  go_enter Try.func15, Try.ntmps15
  go_wp2_with fail
  refine (new_ok 4 w (by decide)).mono ?_
  rintro e w1 ⟨b, s, rfl, hf1, hb, hs, hv1⟩
  go_wp2_with fail
  refine (add_good b s 4 c0 0 3 (by decide) (by decide) (by decide) (by decide) _ hf1).mono ?_
  rintro e w2 ⟨rfl, hf2, ht2⟩
  go_wp2_with fail
  refine (add_good b s 4 c1 2 5 (by decide) (by decide) (by decide) (by decide) _ hf2).mono ?_
  rintro e w3 ⟨rfl, hf3, ht3⟩
  go_wp2_with fail
  refine (add_good b s 4 c2 3 1 (by decide) (by decide) (by decide) (by decide) _ hf3).mono ?_
  rintro e w4 ⟨rfl, hf4, ht4⟩
  go_wp2_with fail
  refine (add_neg b s 4 c3 2 (-6) (by decide) (by decide) (by decide) _ hf4).mono ?_
  rintro e w5 ⟨rfl, hb5⟩
  have hf5 := hf4.below hb5
  go_wp2_with fail
  refine (find_ok b s 4 c3 7 2 _ hf5 ex_found).mono ?_
  rintro e w6 ⟨rfl, hb6⟩
  have hf6 := hf5.below hb6
  go_wp2_with fail
  refine (find_big b s 4 c3 9 _ hf6 (by decide) (by decide)).mono ?_
  rintro e w7 ⟨rfl, hb7⟩
  have hf7 := hf6.below hb7
  go_wp2_with fail
  refine (prefix_all _ b s 4 c3 _ 3 (.inl ⟨rfl, hf7⟩)).mono ?_
  rw [p1.out]
  rintro e w8 ⟨rfl, hb8⟩
  have hf8 := hf7.below hb8
  go_wp2_with fail
  refine (range_any _ b s 4 c3 _ (-5) 9 (.inl ⟨rfl, hf8⟩)).mono ?_
  rw [p2.out]
  rintro e w9 ⟨rfl, hb9⟩
  go_wp2_with fail
  go_ret
  refine ⟨rfl, ?_⟩
  have t4 := ((ht2.trans ht3).trans ht4)
  have q4 : Below w.heap.size w w4 := below_turns hv1 hv1.size t4 (by omega)
  have q5 := q4.trans (hb5.mono q4.size)
  have q6 := q5.trans (hb6.mono q5.size)
  have q7 := q6.trans (hb7.mono q6.size)
  have q8 := q7.trans (hb8.mono q7.size)
  exact q8.trans (hb9.mono q8.size)

end Go.Proofs.Ytjikfmacdacgaaa
