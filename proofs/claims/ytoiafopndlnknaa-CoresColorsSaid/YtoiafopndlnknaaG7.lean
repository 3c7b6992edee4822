/-
  Edges, Strength(-1); Densest.
-/
import Derived.Test.YtoiafopndlnknaaF2
import Derived.Test.YtoiafopndlnknaaG4
import Derived.Test.YtoiafopndlnknaaG6
set_option linter.unusedVariables false
set_option linter.unusedSimpArgs false
namespace Go.Proofs.Ytoiafopndlnknaa
open Go.RowKit Go.Shelf

set_option maxRecDepth 100000 in
theorem strength_ok {w : World} {K : GB} {n : Nat} {E : Es} (h : Gr w K n E) : Calls Try.prog 38 #[.pointer (some ⟨K.g, 0, none⟩), .int .i64 (-1)] w fun e w' => e = .returned (.tuple #[.int .i64 0, .int .i64 3]) ∧ w = w' := by
  have x0 := valid_ok h
  have x1 := has_ok h (-1)
  rw [show hasB n (-1) = false from decide_eq_false (by omega)] at x1
  clear h
  go_enter Try.func38, Try.ntmps38
  go_wp2_with fail
  refine x0.mono ?_
  rintro e w' ⟨rfl, rfl⟩
  go_wp2_with fail
  refine x1.mono ?_
  rintro e w' ⟨rfl, rfl⟩
  go_wp2_with fail
  go_ret2
  exact ⟨rfl, rfl⟩
set_option maxRecDepth 100000 in
theorem strength_no {w : World} {p : Option Addr} (h : NoGr w p) : Calls Try.prog 38 #[.pointer p, .int .i64 (-1)] w fun e w' => e = .returned (.tuple #[.int .i64 0, .int .i64 1]) ∧ w = w' := by
  have x0 := valid_no h
  clear h
  go_enter Try.func38, Try.ntmps38
  go_wp2_with fail
  refine x0.mono ?_
  rintro e w' ⟨rfl, rfl⟩
  go_wp2_with fail
  go_ret2
  exact ⟨rfl, rfl⟩
theorem gr_argS {w : World} {K : GB} {n : Nat} {E : Es} (h : Gr w K n E) : ∃ A c z, w.cell? ⟨K.g, 1, none⟩ = some (.slice A E.length c) ∧ ArgS k3 w A E.length c z ∧ ∀ i, i < E.length → z i 0 = ((edge E i).1 : Nat) ∧ z i 1 = ((edge E i).2 : Nat) := by
  obtain ⟨_, A, c, M, c1, _, _, _, hc1, hc2, hA⟩ := h.cells
  have hz : ∀ i, ∃ W : Int, i < E.length → w.cell? ⟨K.ge, i * 3 + 2, none⟩ = some (.int .i64 W) ∧ Fits W := fun i => by
    by_cases hi : i < E.length
    · obtain ⟨_, _, W, h1, h2⟩ := h.es i hi
      exact ⟨W, fun _ => ⟨h1, h2⟩⟩
    · exact ⟨0, fun hh => absurd hh hi⟩
  obtain ⟨Wf, hWf⟩ := Classical.axiomOfChoice hz
  refine ⟨A, c, fun i j => if j = 0 then ((edge E i).1 : Nat) else if j = 1 then ((edge E i).2 : Nat) else Wf i, c1, ⟨hc1, hc2, fun hn => ⟨K.ge, 0, hA hn, h.ltE, fun i hi j k hj => ?_⟩, fun i hi j k hj => ?_⟩, fun i hi => ⟨rfl, rfl⟩⟩
  · obtain ⟨hj3, rfl⟩ := k3_some hj
    obtain ⟨g1, g2, _⟩ := h.es i hi
    simp only [List.length_cons, List.length_nil, Nat.zero_add]
    rcases j with _ | _ | _ | j
    · exact g1
    · exact g2
    · exact (hWf i hi).1
    · omega
  · obtain ⟨hj3, rfl⟩ := k3_some hj
    obtain ⟨e1, e2, _⟩ := h.edge hi
    have hn := h.fine.1
    rcases j with _ | _ | _ | j
    · exact fits_wf ⟨by show (-9223372036854775808 : Int) ≤ ((edge E i).1 : Nat); omega, by show (((edge E i).1 : Nat) : Int) ≤ _; omega⟩
    · exact fits_wf ⟨by show (-9223372036854775808 : Int) ≤ ((edge E i).2 : Nat); omega, by show (((edge E i).2 : Nat) : Int) ≤ _; omega⟩
    · exact fits_wf (hWf i hi).2
    · omega
set_option maxRecDepth 100000 in
theorem edges_ok {w : World} {K : GB} {n : Nat} {E : Es} (h : Gr w K n E) : Calls Try.prog 40 #[.pointer (some ⟨K.g, 0, none⟩)] w fun e w' => ∃ A c z, e = .returned (.slice A E.length c) ∧ ArgS k3 w' A E.length c z ∧ (∀ i, i < E.length → z i 0 = ((edge E i).1 : Nat) ∧ z i 1 = ((edge E i).2 : Nat)) ∧ (0 < E.length → ∃ g, A = some ⟨g, 0, none⟩ ∧ w.heap.size ≤ g) ∧ Below w.heap.size w w' := by
  have x0 := valid_ok h
  have hm := h.fine.2.1
  obtain ⟨A, c, z, c1, ha, hz⟩ := gr_argS h
  have x1 := clone_e E.length c A z w ha (by omega)
  have HZ := Lib.hid hz
  have HA := Lib.hid (fun i (hi : i < E.length) j (hj : j < 3) => wf_i64 (ha.2.2.2 i hi j .i64 (k3_get hj)))
  clear h ha hz
  go_enter Try.func40, Try.ntmps40
  go_wp2_with fail
  refine x0.mono ?_
  rintro e w' ⟨rfl, rfl⟩
  go_wp2_with fail
  refine x1.mono ?_
  rintro e w2 ⟨v, rfl, r2, q⟩
  obtain ⟨A2, c2, rfl, ha2, _, hge⟩ := r2.arg HA.out
  go_wp2_with fail
  go_ret
  exact ⟨A2, c2, z, rfl, ha2, HZ.out, hge, q⟩
end Go.Proofs.Ytoiafopndlnknaa
