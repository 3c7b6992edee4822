/-
  A graph in memory, and what only reads it.
-/
import Derived.Test.YtoiafopndlnknaaB1
import Derived.Deep.QuietTactic
import Derived.BigQuiet
import Derived.Deep.DeepCutAuto
import Derived.Deep.RegionHeld3
set_option linter.unusedVariables false
set_option linter.unusedSimpArgs false
namespace Go.Proofs.Ytoiafopndlnknaa
open Go.RowKit Go.Shelf

/-- where a graph lies -/
structure GB where
  g : Nat
  gs : Nat
  gl : Nat
  ge : Nat
def GB.l (K : GB) : List Nat := [K.g, K.gs, K.gl, K.ge]
/-- n vertices, edges E, all ends there and different -/
def Fine (n : Nat) (E : Es) : Prop := n ≤ 4096 ∧ E.length ≤ 16384 ∧ ∀ e ∈ E, e.1 < n ∧ e.2 < n ∧ e.1 ≠ e.2
structure Gr (w : World) (K : GB) (n : Nat) (E : Es) : Prop where
  fine : Fine n E
  blk : ∃ A c M, Blk w K.g 58 #[.pointer (some ⟨K.g, 0, none⟩), .slice A E.length c, .slice (some ⟨K.gs, 0, none⟩) (n + 1) (n + 1), .slice (some ⟨K.gl, 0, none⟩) M M] ∧ M = 2 * E.length ∧ E.length ≤ c ∧ c ≤ 9223372036854775807 ∧ (0 < E.length → A = some ⟨K.ge, 0, none⟩)
  es : ∀ i, i < E.length → w.cell? ⟨K.ge, i * 3, none⟩ = some (.int .i64 ((edge E i).1 : Nat)) ∧ w.cell? ⟨K.ge, i * 3 + 1, none⟩ = some (.int .i64 ((edge E i).2 : Nat)) ∧ ∃ W, w.cell? ⟨K.ge, i * 3 + 2, none⟩ = some (.int .i64 W) ∧ Fits W
  start : RowF .i64 w K.gs 3 (n + 1) (fun v => (off E v : Nat))
  list : ∃ L : Nat → Int, RowF .i64 w K.gl 3 (2 * E.length) L ∧ ∀ v, v < n → ∀ t, t < cnt E v E.length → L (off E v + t) = ((inc E v E.length).getD t 0 : Nat)
  ltE : K.ge < w.heap.size
section
variable {w w' : World} {K : GB} {n : Nat} {E : Es}
theorem Gr.lt (h : Gr w K n E) : ∀ k ∈ K.l, k < w.heap.size := by
  obtain ⟨A, c, M, h1, _⟩ := h.blk
  obtain ⟨L, h2, _⟩ := h.list
  intro k hk
  simp [GB.l] at hk
  rcases hk with rfl | rfl | rfl | rfl
  · exact h1.lt
  · exact h.start.lt
  · exact h2.lt
  · exact h.ltE
theorem cell_heap {w w' : World} {k i : Nat} (e : w'.heap[k]? = w.heap[k]?) : w'.cell? ⟨k, i, none⟩ = w.cell? ⟨k, i, none⟩ := by
  unfold World.cell?
  rw [e]
theorem Gr.heap (h : Gr w K n E) (hb : ∀ k ∈ K.l, w'.heap[k]? = w.heap[k]?) (hs : w.heap.size ≤ w'.heap.size) : Gr w' K n E := by
  obtain ⟨A, c, M, h1, h2⟩ := h.blk
  obtain ⟨L, ⟨cs, l1, l2⟩, l3⟩ := h.list
  obtain ⟨cs2, s1, s2⟩ := h.start
  have e1 := hb K.g (by simp [GB.l])
  have e2 := hb K.gs (by simp [GB.l])
  have e3 := hb K.gl (by simp [GB.l])
  have e4 := hb K.ge (by simp [GB.l])
  refine ⟨h.fine, ⟨A, c, M, e1.trans h1, h2⟩, fun i hi => ?_, ⟨cs2, e2.trans s1, s2⟩, ⟨L, ⟨cs, e3.trans l1, l2⟩, l3⟩, Nat.lt_of_lt_of_le h.ltE hs⟩
  obtain ⟨g1, g2, W, g3, g4⟩ := h.es i hi
  exact ⟨(cell_heap e4).trans g1, (cell_heap e4).trans g2, W, (cell_heap e4).trans g3, g4⟩
theorem Gr.below (h : Gr w K n E) (hb : Below w.heap.size w w') : Gr w' K n E := h.heap (fun k hk => hb.block k (h.lt k hk)) hb.size
theorem Gr.turns {S : Nat → Prop} (h : Gr w K n E) (hT : Turns S w w') (hs : ∀ k ∈ K.l, ¬ S k) : Gr w' K n E := h.heap (fun k hk => hT.block k (h.lt k hk) (hs k hk)) hT.size
theorem Gr.cells (h : Gr w K n E) : w.cell? ⟨K.g, 0, none⟩ = some (.pointer (some ⟨K.g, 0, none⟩)) ∧ ∃ A c M, w.cell? ⟨K.g, 1, none⟩ = some (.slice A E.length c) ∧ w.cell? ⟨K.g, 2, none⟩ = some (.slice (some ⟨K.gs, 0, none⟩) (n + 1) (n + 1)) ∧ w.cell? ⟨K.g, 3, none⟩ = some (.slice (some ⟨K.gl, 0, none⟩) M M) ∧ M = 2 * E.length ∧ E.length ≤ c ∧ c ≤ 9223372036854775807 ∧ (0 < E.length → A = some ⟨K.ge, 0, none⟩) := by
  obtain ⟨A, c, M, h1, h2⟩ := h.blk
  exact ⟨h1.cell 0, A, c, M, h1.cell 1, h1.cell 2, h1.cell 3, h2⟩
theorem Gr.edge (h : Gr w K n E) {i : Nat} (hi : i < E.length) : (edge E i).1 < n ∧ (edge E i).2 < n ∧ (edge E i).1 ≠ (edge E i).2 := by
  apply h.fine.2.2
  unfold Ytoiafopndlnknaa.edge
  rw [List.getD_eq_getElem?_getD, List.getElem?_eq_getElem hi]
  exact List.getElem_mem hi
end
/-- no graph -/
def NoGr (w : World) (p : Option Addr) : Prop := p = none ∨ ∃ g, p = some ⟨g, 0, none⟩ ∧ w.cell? ⟨g, 0, none⟩ = some (.pointer none)
def hasB (n : Nat) (x : Int) : Bool := decide (0 ≤ x ∧ x < n)
theorem hasB_nat {n x : Nat} (h : x < n) : hasB n (x : Int) = true := decide_eq_true ⟨by omega, by omega⟩
theorem info58 : (Try.prog.info? 58).isSome = true := by kernel_rfl
set_option maxRecDepth 100000 in
theorem valid_ok {w : World} {K : GB} {n : Nat} {E : Es} (h : Gr w K n E) : Calls Try.prog 52 #[.pointer (some ⟨K.g, 0, none⟩)] w fun e w' => e = .returned (.bool true) ∧ w = w' := by
  have c0 := h.cells.1
  clear h
  generalize K.g = g at *
  obtain ⟨j, hj⟩ := Option.isSome_iff_exists.1 info58
  have he := run_eql_ptr_same (P := Try.prog) w (⟨g, 0, none⟩ : Addr) Try.underlying27 hj
  clear hj
  go_enter Try.func52, Try.ntmps52
  go_wp2_with fail
  go_ret
  exact ⟨rfl, rfl⟩
set_option maxRecDepth 100000 in
theorem valid_no {w : World} {p : Option Addr} (h : NoGr w p) : Calls Try.prog 52 #[.pointer p] w fun e w' => e = .returned (.bool false) ∧ w = w' := by
  rcases h with rfl | ⟨g, rfl, c0⟩
  · go_enter Try.func52, Try.ntmps52
    go_wp2_with fail
    go_ret
    exact ⟨rfl, rfl⟩
  · have he := run_eql_nil_ptr (P := Try.prog) w (⟨g, 0, none⟩ : Addr) Try.underlying27
    go_enter Try.func52, Try.ntmps52
    go_wp2_with fail
    go_ret
    exact ⟨rfl, rfl⟩
set_option maxRecDepth 100000 in
theorem n_ok {w : World} {K : GB} {n : Nat} {E : Es} (h : Gr w K n E) : Calls Try.prog 36 #[.pointer (some ⟨K.g, 0, none⟩)] w fun e w' => e = .returned (.int .i64 (n : Int)) ∧ w = w' := by
  have x0 := valid_ok h
  have hn := h.fine.1
  obtain ⟨c0, A, c, M, c1, c2, c3, _⟩ := h.cells
  have e1 : ((n + 1 : Nat) : Int) - 1 = (n : Int) := by omega
  clear h
  go_enter Try.func36, Try.ntmps36
  go_wp2_with fail
  refine x0.mono ?_
  rintro e w' ⟨rfl, rfl⟩
  go_wp2_with fail
  go_ret
  exact ⟨rfl, rfl⟩
set_option maxRecDepth 100000 in
theorem n_no {w : World} {p : Option Addr} (h : NoGr w p) : Calls Try.prog 36 #[.pointer p] w fun e w' => e = .returned (.int .i64 0) ∧ w = w' := by
  have x0 := valid_no h
  go_enter Try.func36, Try.ntmps36
  go_wp2_with fail
  refine x0.mono ?_
  rintro e w' ⟨rfl, rfl⟩
  go_wp2_with fail
  go_ret
  exact ⟨rfl, rfl⟩
set_option maxRecDepth 100000 in
theorem has_ok {w : World} {K : GB} {n : Nat} {E : Es} (h : Gr w K n E) (X : Int) : Calls Try.prog 57 #[.pointer (some ⟨K.g, 0, none⟩), .int .i64 X] w fun e w' => e = .returned (.bool (hasB n X)) ∧ w = w' := by
  have x0 := valid_ok h
  have hn := h.fine.1
  obtain ⟨c0, A, c, M, c1, c2, c3, _⟩ := h.cells
  clear h
  by_cases h1 : 0 ≤ X
  · by_cases h2 : X < n
    · have e : hasB n X = true := decide_eq_true ⟨h1, h2⟩
      rw [e]
      go_enter Try.func57, Try.ntmps57
      go_wp2_with fail
      refine x0.mono ?_
      rintro e w' ⟨rfl, rfl⟩
      go_wp2_with fail
      go_ret
      exact ⟨rfl, rfl⟩
    · have e : hasB n X = false := decide_eq_false (fun h => h2 h.2)
      rw [e]
      go_enter Try.func57, Try.ntmps57
      go_wp2_with fail
      refine x0.mono ?_
      rintro e w' ⟨rfl, rfl⟩
      go_wp2_with fail
      go_ret
      exact ⟨by simp [h2], rfl⟩
  · have e : hasB n X = false := decide_eq_false (fun h => h1 h.1)
    rw [e]
    go_enter Try.func57, Try.ntmps57
    go_wp2_with fail
    refine x0.mono ?_
    rintro e w' ⟨rfl, rfl⟩
    go_wp2_with fail
    go_ret
    exact ⟨rfl, rfl⟩
set_option maxRecDepth 100000 in
theorem has_no {w : World} {p : Option Addr} (h : NoGr w p) (X : Int) : Calls Try.prog 57 #[.pointer p, .int .i64 X] w fun e w' => e = .returned (.bool false) ∧ w = w' := by
  have x0 := valid_no h
  go_enter Try.func57, Try.ntmps57
  go_wp2_with fail
  refine x0.mono ?_
  rintro e w' ⟨rfl, rfl⟩
  go_wp2_with fail
  go_ret
  exact ⟨rfl, rfl⟩
theorem elem31 : Try.prog.elem 31 = 3 := by kernel_rfl
theorem und31 : Try.prog.underlying 31 = some (.slice (Try.prog.elem 31)) := by rw [elem31]; exact Try.underlying31
set_option maxRecDepth 100000 in
theorem at_ok {w : World} {K : GB} {n : Nat} {E : Es} (h : Gr w K n E) {v : Nat} (hv : v < n) :
    Calls Try.prog 58 #[.pointer (some ⟨K.g, 0, none⟩), .int .i64 (v : Int)] w fun e w' => ∃ o c, e = .returned (.slice (some ⟨K.gl, o, none⟩) (cnt E v E.length) c) ∧ (0 < cnt E v E.length → o = off E v) ∧ cnt E v E.length ≤ c ∧ c ≤ 40000 ∧ ∃ nq, w' = w.drewN nq := by
  have x0 := has_ok h v
  rw [hasB_nat hv] at x0
  have hn := h.fine.1
  have hm := h.fine.2.1
  obtain ⟨c0, A, c, M, c1, c2, c3, hM, _⟩ := h.cells
  have s0 := h.start.cell (i := v) (by omega)
  have s1 := h.start.cell (i := v + 1) (by omega)
  have s1' : w.cell? ⟨K.gs, v + 1, none⟩ = some (.int .i64 ((off E v + cnt E v E.length : Nat) : Int)) := s1
  have ho := off_le E (v + 1)
  have ho2 : off E v + cnt E v E.length ≤ M := by rw [hM]; exact ho
  generalize off E v = o at *
  generalize cnt E v E.length = q at *
  have hM2 : M ≤ 32768 := by omega
  clear h s1 ho hM
  have hv2 : (v : Int) < (n : Int) + 1 := by omega
  have hv3 : (v : Int) + 1 < (n : Int) + 1 := by omega
  have hw3 : IntKind.i64.wrap ((v : Int) + 1) = ((v + 1 : Nat) : Int) := by rw [IntKind.wrap_i64]; omega
  by_cases e : M = o
  · subst e
    obtain rfl : q = 0 := by omega
    go_enter Try.func58, Try.ntmps58
    go_wp2_with fail
    refine x0.mono ?_
    rintro e w' ⟨rfl, rfl⟩
    go_upto_region 3 with fail
    go_quiet (fail)
    go_wp2_with fail
    go_ret
    exact ⟨_, _, rfl, fun hq => absurd hq (Nat.lt_irrefl 0), by omega, by omega, _, rfl⟩
  · go_enter Try.func58, Try.ntmps58
    go_wp2_with fail
    refine x0.mono ?_
    rintro e w' ⟨rfl, rfl⟩
    go_upto_region 3 with fail
    go_quiet (fail)
    go_wp2_with fail
    go_ret
    exact ⟨o, M - o, by simp [show o + q - o = q by omega], fun hq => rfl, by omega, by omega, _, rfl⟩
end Go.Proofs.Ytoiafopndlnknaa
