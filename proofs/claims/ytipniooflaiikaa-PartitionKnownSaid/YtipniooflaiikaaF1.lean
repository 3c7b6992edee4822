/-
  Lists of labels, and lists of such lists: what Classes builds.
-/
import Derived.Test.YtipniooflaiikaaE1
set_option linter.unusedVariables false
set_option linter.unusedSimpArgs false
namespace Go.Proofs.Ytipniooflaiikaa
open Go.RowKit Go.Shelf

/-- the numbers below n of which p is true -/
def mem (p : Nat → Bool) (n : Nat) : List Nat := (List.range n).filter p
theorem mem_succ (p : Nat → Bool) (n : Nat) : mem p (n + 1) = mem p n ++ if p n = true then [n] else [] := by
  unfold mem
  rw [List.range_succ, List.filter_append]
  congr 1
  cases h : p n <;> simp [h]
theorem mem_none {p : Nat → Bool} {n : Nat} (h : ∀ i, i < n → p i = false) : mem p n = [] := by
  unfold mem
  rw [List.filter_eq_nil_iff]
  intro x hx
  rw [h x (List.mem_range.1 hx)]
  exact Bool.false_ne_true
theorem mem_len (p : Nat → Bool) (n : Nat) : (mem p n).length ≤ n := by
  unfold mem
  have := List.length_filter_le p (List.range n)
  simpa using this
theorem mem_lt {p : Nat → Bool} {n x : Nat} (h : x ∈ mem p n) : x < n := List.mem_range.1 (List.mem_filter.1 h).1
/-- the numbers as values -/
def nums (l : List Nat) : List Value := l.map fun x : Nat => .int .i64 (x : Int)
theorem nums_len (l : List Nat) : (nums l).length = l.length := by simp [nums]
theorem nums_vals (l : List Nat) : nums l = vals (fun i => ((l.getD i 0 : Nat) : Int)) l.length := by
  apply List.ext_getElem?
  intro i
  rcases Nat.lt_or_ge i l.length with h | h
  · rw [vals_get h]
    unfold nums
    rw [List.getElem?_map, List.getElem?_eq_getElem h, List.getD_eq_getElem?_getD, List.getElem?_eq_getElem h]
    rfl
  · rw [List.getElem?_eq_none (by rw [nums_len]; exact h), List.getElem?_eq_none (by rw [vals_len]; exact h)]
/-- v owns the numbers l -/
def RowL (w : World) (B : Nat) (v : Value) (l : List Nat) : Prop := w.ownsRow B 3 1 v l.length (nums l)
theorem RowL.nil (w : World) (B : Nat) : RowL w B (.slice none 0 0) [] := World.ownsRow_nil _ _ _ _
theorem RowL.below {w w' : World} {B : Nat} {v : Value} {l : List Nat} (h : RowL w B v l) (hb : Below w.heap.size w w') : RowL w' B v l := by
  unfold RowL at *
  rw [nums_vals] at *
  exact own_below h hb
theorem RowL.arg {w : World} {B : Nat} {v : Value} {l : List Nat} (h : RowL w B v l) (hl : ∀ x ∈ l, x ≤ 1000000) : ∃ A c, v = .slice A l.length c ∧ ArgI .i64 w A l.length c (fun i => ((l.getD i 0 : Nat) : Int)) := by
  unfold RowL at h
  rw [nums_vals] at h
  obtain ⟨A, c, hv, ha, _, _⟩ := own_arg h (fun j hj => by
    rw [List.getD_eq_getElem?_getD, List.getElem?_eq_getElem hj]
    have := hl _ (List.getElem_mem hj)
    show Fits ((l[j] : Nat) : Int)
    exact ⟨by omega, by omega⟩)
  exact ⟨A, c, hv, ha⟩
/-- one row is not in the other one's block: they differ in type -/
theorem own_apart {w : World} {B B' s s' n n' : Nat} {t t' : TypeId} {v v' : Value} {xs xs' : List Value} (h : w.ownsRow B t s v n xs) (h' : w.ownsRow B' t' s' v' n' xs') (hne : t ≠ t') : v.ownBlock = none ∨ v.ownBlock ≠ v'.ownBlock := by
  rcases h.2 with ⟨rfl, _⟩ | ⟨g, cap, cur, rfl, _, hh, _⟩
  · exact Or.inl rfl
  · right
    rcases h'.2 with ⟨rfl, _⟩ | ⟨g', cap', cur', rfl, _, hh', _⟩
    · intro e; cases e
    · intro e
      simp only [Value.ownBlock, Option.some.injEq] at e
      subst e
      rw [hh] at hh'
      simp only [Option.some.injEq, Obj.cells.injEq] at hh'
      exact hne hh'.2.1
theorem RowL.grown {w w' : World} {B B' s n : Nat} {t : TypeId} {v v' : Value} {l : List Nat} {xs : List Value} (h : RowL w B v l) (hg : w.grownBy w' v'.ownBlock) (h' : w.ownsRow B' t s v' n xs) (hne : 3 ≠ t) : RowL w' B v l :=
  World.ownsRow.kept h hg (own_apart h h' hne)
/-- vo owns a list of rows, which own the numbers of the lists ls -/
def Cls (w : World) (B : Nat) (vo : Value) (ls : List (List Nat)) (ss : List Value) : Prop :=
  w.ownsRow B 22 1 vo ls.length ss ∧ ss.length = ls.length ∧ ∀ (k : Nat) v l, ss[k]? = some v → ls[k]? = some l → RowL w B v l
theorem Cls.nil (w : World) (B : Nat) : Cls w B (.slice none 0 0) [] [] := ⟨World.ownsRow_nil _ _ _ _, rfl, fun k v l h => by simp at h⟩
theorem own22_below {w w' : World} {base n : Nat} {v : Value} {xs : List Value} (h : w.ownsRow base 22 1 v n xs) (hb : Below w.heap.size w w') : w'.ownsRow base 22 1 v n xs := by
  refine ⟨h.1, h.2.imp id ?_⟩
  rintro ⟨g, cap, cur, hv, hg, hh, r⟩
  exact ⟨g, cap, cur, hv, hg, (hb.block g (Blk.lt (w := w) (t := 22) (cs := cur) hh)).trans hh, r⟩
theorem Cls.below {w w' : World} {B : Nat} {vo : Value} {ls : List (List Nat)} {ss : List Value} (h : Cls w B vo ls ss) (hb : Below w.heap.size w w') : Cls w' B vo ls ss :=
  ⟨own22_below h.1 hb, h.2.1, fun k v l h1 h2 => (h.2.2 k v l h1 h2).below hb⟩
/-- one row more -/
theorem Cls.push {w w' : World} {B : Nat} {vo vo' : Value} {ls : List (List Nat)} {ss : List Value} {v : Value} {l : List Nat} (h : Cls w B vo ls ss) (hv : RowL w B v l) (hg : w.grownBy w' vo.ownBlock) (h' : w'.ownsRow B 22 1 vo' (ls.length + 1) (ss ++ [v])) : Cls w' B vo' (ls ++ [l]) (ss ++ [v]) := by
  refine ⟨by simpa using h', by simp [h.2.1], fun k u x h1 h2 => ?_⟩
  rcases Nat.lt_trichotomy k ls.length with hk | hk | hk
  · rw [List.getElem?_append_left (by rw [h.2.1]; exact hk)] at h1
    rw [List.getElem?_append_left hk] at h2
    exact (h.2.2 k u x h1 h2).grown hg h.1 (by decide)
  · subst hk
    rw [List.getElem?_append_right (by rw [h.2.1]; exact Nat.le_refl _), h.2.1, Nat.sub_self] at h1
    rw [List.getElem?_append_right (Nat.le_refl _), Nat.sub_self] at h2
    simp at h1 h2
    subst h1 h2
    exact hv.grown hg h.1 (by decide)
  · rw [List.getElem?_eq_none (by simp; omega)] at h2
    cases h2
theorem info22 : (Try.prog.info? 22).map (fun i => (i.zero, i.size, i.bytes)) = some (some (.slice none 0 0), 1, 24) := by kernel_rfl
/-- append of one row to a list of rows -/
theorem wpList_append_row {ops : Array Oper} {rest : List Oper} {o : Oper} {a : Act} {w : World} {Q : Exit → Act → World → Prop} (hgd : o.guard = none) (s x : Operand) (ho : o.op = .call { callee := .builtin .append, args := #[s, x], argTypes := #[46, 46] })
    (B : Nat) (vo v : Value) (ls : List (List Nat)) (ss : List Value) (l : List Nat) (g : Nat) (hs : a.eval s = vo) (hC : Cls w B vo ls ss) (hx : a.eval x = .slice (some ⟨g, 0, none⟩) 1 1) (hc : w.cell? ⟨g, 0, none⟩ = some v) (h1 : v.oneCell' = true) (hv : RowL w B v l)
    (hn : ls.length ≤ 100000) (hB : B ≤ w.heap.size)
    (h : ∀ v' w', Cls w' B v' (ls ++ [l]) (ss ++ [v]) → w.grownBy w' vo.ownBlock → wpList Try.prog ops Q rest (a.put o.dst v') w') :
    wpList Try.prog ops Q (o :: rest) a w := by
  obtain ⟨i0, hi, hz0, hz1, hz2⟩ := info_parts info22
  refine wpList_append_own w hgd s x 46 ho B 22 i0 (.slice none 0 0) 1 24 Try.underlying46 hi hz0 hz1 hz2 rfl (by decide) vo ls.length ss hs hC.1 ⟨g, 0, none⟩ 1 1 [v] hx rfl ?_ ?_ (by simp only [maxLen]; omega) (by omega) hB ?_
  · intro j u hu
    rcases j with _ | j
    · simp at hu
      subst hu
      exact hc
    · simp at hu
  · intro u hu
    simp at hu
    subst hu
    exact h1
  · intro v' w' h2 h3 _
    exact h v' w' (hC.push hv h3 h2) h3
end Go.Proofs.Ytipniooflaiikaa
