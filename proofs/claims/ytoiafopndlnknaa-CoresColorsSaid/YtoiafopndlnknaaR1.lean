/-
  Lists of numbers in memory, of the call's own.
-/
import Derived.Test.YtoiafopndlnknaaA1
import Derived.OwnWalkIn
import Derived.Maps.OwnIn
set_option linter.unusedVariables false
set_option linter.unusedSimpArgs false
namespace Go.Proofs.Ytoiafopndlnknaa
open Go.RowKit Go.Shelf

theorem own_below {w w' : World} {base n : Nat} {v : Value} {z : Nat → Int} (h : w.ownsRow base 3 1 v n (vals z n)) (hb : Below w.heap.size w w') : w'.ownsRow base 3 1 v n (vals z n) := by
  refine ⟨h.1, h.2.imp id ?_⟩
  rintro ⟨g, cap, cur, hv, hg, hh, r⟩
  exact ⟨g, cap, cur, hv, hg, (hb.block g (Blk.lt (w := w) (t := 3) (cs := cur) hh)).trans hh, r⟩
theorem own_base {w : World} {base n : Nat} {v : Value} {z : Nat → Int} (h : w.ownsRow base 3 1 v n (vals z n)) : ∀ k, v.ownBlock = some k → base ≤ k := by
  intro k hk
  rcases h.2 with ⟨h0, _⟩ | ⟨g, cap, cur, hv, hg, _⟩
  · rw [h0] at hk; cases hk
  · rw [hv] at hk; cases hk; exact hg
/-- the numbers as values -/
def nums (l : List Nat) : List Value := l.map fun x : Nat => .int .i64 (x : Int)
theorem nums_len (l : List Nat) : (nums l).length = l.length := by simp [nums]
theorem nums_vals (l : List Nat) : nums l = vals (fun i => ((l.getD i 0 : Nat) : Int)) l.length := by
  apply List.ext_getElem?
  intro i
  rcases Nat.lt_or_ge i l.length with h | h
  · rw [vals_get h]
    unfold nums
    rw [List.getElem?_map, List.getElem?_eq_getElem h, List.getD_eq_getElem?_getD, List.getElem?_eq_getElem h]
    rfl
  · rw [List.getElem?_eq_none (by rw [nums_len]; exact h), List.getElem?_eq_none (by rw [vals_len]; exact h)]
/-- v owns the numbers l -/
def RowL (w : World) (B : Nat) (v : Value) (l : List Nat) : Prop := w.ownsRow B 3 1 v l.length (nums l)
theorem RowL.nil (w : World) (B : Nat) : RowL w B (.slice none 0 0) [] := World.ownsRow_nil _ _ _ _
theorem RowL.below {w w' : World} {B : Nat} {v : Value} {l : List Nat} (h : RowL w B v l) (hb : Below w.heap.size w w') : RowL w' B v l := by
  unfold RowL at *
  rw [nums_vals] at *
  exact own_below h hb
theorem RowL.arg {w : World} {B : Nat} {v : Value} {l : List Nat} (h : RowL w B v l) (hl : ∀ x ∈ l, x ≤ 1000000) : ∃ A c, v = .slice A l.length c ∧ ArgI .i64 w A l.length c (fun i => ((l.getD i 0 : Nat) : Int)) := by
  unfold RowL at h
  rw [nums_vals] at h
  obtain ⟨A, c, hv, ha, _, _⟩ := own_arg h (fun j hj => by
    rw [List.getD_eq_getElem?_getD, List.getElem?_eq_getElem hj]
    have := hl _ (List.getElem_mem hj)
    show Fits ((l[j] : Nat) : Int)
    exact ⟨by omega, by omega⟩)
  exact ⟨A, c, hv, ha⟩
theorem RowL.mono {w : World} {B B' : Nat} {v : Value} {l : List Nat} (h : RowL w B v l) (hB : B' ≤ B) : RowL w B' v l := by
  refine ⟨h.1, h.2.imp id ?_⟩
  rintro ⟨g, cap, cur, hv, hg, r⟩
  exact ⟨g, cap, cur, hv, Nat.le_trans hB hg, r⟩
theorem RowL.base {w : World} {B : Nat} {v : Value} {l : List Nat} (h : RowL w B v l) : ∀ k, v.ownBlock = some k → B ≤ k := fun k hk => (World.ownsRow.lt h k hk).1
/-- append of one number to a row -/
theorem wpList_append_num {ops : Array Oper} {rest : List Oper} {o : Oper} {a : Act} {w : World} {Q : Exit → Act → World → Prop} (hgd : o.guard = none) (s x : Operand) (ho : o.op = .call { callee := .builtin .append, args := #[s, x], argTypes := #[31, 31] })
    (B : Nat) (v : Value) (l : List Nat) (y g : Nat) (hs : a.eval s = v) (hR : RowL w B v l) (hx : a.eval x = .slice (some ⟨g, 0, none⟩) 1 1) (hc : w.cell? ⟨g, 0, none⟩ = some (.int .i64 (y : Int)))
    (hn : l.length ≤ 100000) (hB : B ≤ w.heap.size)
    (h : ∀ v' w', RowL w' B v' (l ++ [y]) → w.grownBy w' v.ownBlock → wpList Try.prog ops Q rest (a.put o.dst v') w') :
    wpList Try.prog ops Q (o :: rest) a w := by
  obtain ⟨i0, hi, hz0, hz1, hz2⟩ := info_parts info3
  refine wpList_append_own w hgd s x 31 ho B 3 i0 (.int .i64 0) 1 8 Try.underlying31 hi hz0 hz1 hz2 rfl (by decide) v l.length (nums l) hs hR ⟨g, 0, none⟩ 1 1 [.int .i64 (y : Int)] hx rfl ?_ ?_ (by simp only [maxLen]; omega) (by omega) hB ?_
  · intro j u hu
    rcases j with _ | j
    · simp at hu
      subst hu
      exact hc
    · simp at hu
  · intro u hu
    simp at hu
    subst hu
    rfl
  · intro v' w' h2 h3 _
    refine h v' w' ?_ h3
    have e : nums (l ++ [y]) = nums l ++ [.int .i64 (y : Int)] := by simp [nums]
    unfold RowL
    rw [e, List.length_append]
    exact h2
/-- the same inside a fence -/
theorem wpListIn_append_num {F : Fence} {nn : Nat} {ops : Array Oper} {rest : List Oper} {o : Oper} {a : Act} {w : World} {Q : Exit → Act → World → Prop} (hgd : o.guard = none) (s x : Operand) (ho : o.op = .call { callee := .builtin .append, args := #[s, x], argTypes := #[31, 31] })
    (B : Nat) (v : Value) (l : List Nat) (y g : Nat) (hs : a.eval s = v) (hR : RowL w B v l) (hx : a.eval x = .slice (some ⟨g, 0, none⟩) 1 1) (hc : w.cell? ⟨g, 0, none⟩ = some (.int .i64 (y : Int)))
    (hn : l.length ≤ 100000) (hB : B ≤ w.heap.size)
    (h : ∀ v' w', RowL w' B v' (l ++ [y]) → w.grownBy w' v.ownBlock → wpListIn F nn Try.prog ops Q rest (a.put o.dst v') w') :
    wpListIn F nn Try.prog ops Q (o :: rest) a w := by
  obtain ⟨i0, hi, hz0, hz1, hz2⟩ := info_parts info3
  refine wpListIn_append_own w hgd s x 31 ho B 3 i0 (.int .i64 0) 1 8 Try.underlying31 hi hz0 hz1 hz2 rfl (by decide) v l.length (nums l) hs hR ⟨g, 0, none⟩ 1 1 [.int .i64 (y : Int)] hx rfl ?_ ?_ (by simp only [maxLen]; omega) (by omega) hB ?_
  · intro j u hu
    rcases j with _ | j
    · simp at hu
      subst hu
      exact hc
    · simp at hu
  · intro u hu
    simp at hu
    subst hu
    rfl
  · intro v' w' h2 h3 _
    refine h v' w' ?_ h3
    have e : nums (l ++ [y]) = nums l ++ [.int .i64 (y : Int)] := by simp [nums]
    unfold RowL
    rw [e, List.length_append]
    exact h2
end Go.Proofs.Ytoiafopndlnknaa
