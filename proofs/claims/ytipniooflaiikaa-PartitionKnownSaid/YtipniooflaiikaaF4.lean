/-
  Classes: the plain part of a round.
-/
import Derived.Test.YtipniooflaiikaaF3
set_option linter.unusedVariables false
set_option linter.unusedSimpArgs false
namespace Go.Proofs.Ytipniooflaiikaa
open Go.RowKit Go.Shelf

theorem heads_root {a : Nat → Nat} {i : Nat} (h : a i = i) : heads a (i + 1) = heads a i ++ [i] := by
  unfold heads
  rw [mem_succ, if_pos (by simpa using h)]
theorem heads_same {a : Nat → Nat} {i : Nat} (h : a i ≠ i) : heads a (i + 1) = heads a i := by
  unfold heads
  rw [mem_succ, if_neg (by simpa using h), List.append_nil]
theorem heads_up (a : Nat → Nat) (i : Nat) : (heads a i).Pairwise (· < ·) := List.Pairwise.filter _ List.pairwise_lt_range
theorem heads_one {a : Nat → Nat} {i k k' x : Nat} (h : (heads a i)[k]? = some x) (h' : (heads a i)[k']? = some x) : k = k' := by
  obtain ⟨h1, e1⟩ := List.getElem?_eq_some_iff.1 h
  obtain ⟨h2, e2⟩ := List.getElem?_eq_some_iff.1 h'
  have up := List.pairwise_iff_getElem.1 (heads_up a i)
  rcases Nat.lt_trichotomy k k' with hk | hk | hk
  · have := up k k' h1 h2 hk
    omega
  · exact hk
  · have := up k' k h2 h1 hk
    omega
/-- the rows so far, for the first elements of the first m -/
def rows (a : Nat → Nat) (m i : Nat) : List (List Nat) := (heads a m).map fun r => mem (fun j => decide (a j = r)) i
theorem rows_cls (a : Nat → Nat) (i : Nat) : rows a i i = cls a i i := rfl
theorem rows_push {a : Nat → Nat} {n i : Nat} (hc : Can a n) (hi : i < n) (h : a i = i) : rows a (i + 1) i = rows a i i ++ [[]] := by
  unfold rows
  rw [heads_root h, List.map_append]
  congr 1
  show [mem (fun j => decide (a j = i)) i] = [[]]
  rw [mem_none fun j hj => by have := (hc j (by omega)).1; simp; omega]
theorem rows_set {a : Nat → Nat} {i k : Nat} (hk : (heads a (i + 1))[k]? = some (a i)) :
    (rows a (i + 1) i).set k (mem (fun j => decide (a j = a i)) i ++ [i]) = rows a (i + 1) (i + 1) := by
  apply List.ext_getElem?
  intro j
  unfold rows
  rw [List.getElem?_set, List.length_map, List.getElem?_map, List.getElem?_map]
  have hkl := (List.getElem?_eq_some_iff.1 hk).1
  by_cases e : k = j
  · subst e
    rw [if_pos rfl, if_pos hkl, hk]
    simp only [Option.map_some]
    rw [mem_succ, if_pos (by simp)]
  · rw [if_neg e]
    cases hx : (heads a (i + 1))[j]? with
    | none => rfl
    | some x =>
      simp only [Option.map_some]
      rw [mem_succ, if_neg (by
        simp
        intro c
        exact e (heads_one hk (by rw [hx, c]))), List.append_nil]
/-- append of one number to a row, and where the new one lies -/
theorem wpList_append_num_at {ops : Array Oper} {rest : List Oper} {o : Oper} {a : Act} {w : World} {Q : Exit → Act → World → Prop} (hgd : o.guard = none) (s x : Operand) (ho : o.op = .call { callee := .builtin .append, args := #[s, x], argTypes := #[22, 22] })
    (B : Nat) (v : Value) (l : List Nat) (y g : Nat) (hs : a.eval s = v) (hR : RowL w B v l) (hx : a.eval x = .slice (some ⟨g, 0, none⟩) 1 1) (hc : w.cell? ⟨g, 0, none⟩ = some (.int .i64 (y : Int)))
    (hn : l.length ≤ 100000) (hB : B ≤ w.heap.size)
    (h : ∀ v' w', RowL w' B v' (l ++ [y]) → w.grownBy w' v.ownBlock → (v'.ownBlock = v.ownBlock ∨ v'.ownBlock = some w.heap.size) → wpList Try.prog ops Q rest (a.put o.dst v') w') :
    wpList Try.prog ops Q (o :: rest) a w := by
  obtain ⟨i0, hi, hz0, hz1, hz2⟩ := info_parts info3
  refine wpList_append_own_at w hgd s x 22 ho B 3 i0 (.int .i64 0) 1 8 Try.underlying22 hi hz0 hz1 hz2 rfl (by decide) v l.length (nums l) hs hR ⟨g, 0, none⟩ 1 1 [.int .i64 (y : Int)] hx rfl ?_ ?_ (by simp only [maxLen]; omega) (by omega) hB ?_
  · intro j u hu
    rcases j with _ | j
    · simp at hu
      subst hu
      exact hc
    · simp at hu
  · intro u hu
    simp at hu
    subst hu
    rfl
  · intro v' w' h2 h3 _ h5
    refine h v' w' ?_ h3 h5
    have e : nums (l ++ [y]) = nums l ++ [.int .i64 (y : Int)] := by simp [nums]
    unfold RowL
    rw [e, List.length_append]
    exact h2
/-- a store elsewhere -/
theorem Cls.far {w : World} {B : Nat} {vo : Value} {ls : List (List Nat)} {ss : List Value} (h : Cls w B vo ls ss) {p : Addr} (hp : p.block < B) (u : Value) : Cls (w.setCell p u) B vo ls ss := by
  have gs := grownBy_set w p u
  have key : ∀ {v : Value}, (∀ k, v.ownBlock = some k → B ≤ k) → v.ownBlock = none ∨ v.ownBlock ≠ some p.block := fun {v} hv => by
    cases hb : v.ownBlock with
    | none => exact Or.inl rfl
    | some g => right; intro e; cases e; have := hv _ hb; omega
  exact ⟨World.ownsRow.kept h.1 gs (key h.base), h.2.1, fun k v l h1 h2 => World.ownsRow.kept (h.2.2 k v l h1 h2) gs (key (h.2.2 k v l h1 h2).base)⟩
/-- where a row lies in the list of rows -/
theorem Cls.cell {w : World} {B g cap k n : Nat} {ls : List (List Nat)} {ss : List Value} {v : Value} (h : Cls w B (.slice (some ⟨g, 0, none⟩) n cap) ls ss) (hk : ss[k]? = some v) : w.cell? ⟨g, k, none⟩ = some v := by
  have := World.ownsRow.cells h.1 (g := g) rfl k v hk
  rw [Addr.add_lit] at this
  simpa using this
theorem Cls.frozen {w : World} {B g cap n : Nat} {ls : List (List Nat)} {ss : List Value} (h : Cls w B (.slice (some ⟨g, 0, none⟩) n cap) ls ss) (k : Nat) : w.frozen? ⟨g, k, none⟩ = false := by
  rcases h.1.2 with ⟨h0, _⟩ | ⟨g', cap', cur, hv, _, hh, _⟩
  · cases h0
  · cases hv
    exact Blk.frozen (w := w) (g := g) (t := 22) (cs := cur) hh k
end Go.Proofs.Ytipniooflaiikaa
