/-
  The document's sequences in memory.
-/
import Derived.Test.YtgichkjomhnehaaT1
set_option linter.unusedVariables false
set_option linter.unusedSimpArgs false
namespace Go.Proofs.Ytgichkjomhnehaa
open Go.RowKit Go.Shelf

theorem owns_turns {w w' : World} {B s n : Nat} {t : TypeId} {v : Value} {xs : List Value} {S : Nat → Prop} (h : w.ownsRow B t s v n xs) (hT : Turns S w w') (hs : ∀ k, S k → k < B) : w'.ownsRow B t s v n xs := by
  refine ⟨h.1, h.2.imp id ?_⟩
  rintro ⟨g, cap, cur, hv, hg, hh, r⟩
  exact ⟨g, cap, cur, hv, hg, (hT.block g (Blk.lt (w := w) (t := t) (cs := cur) hh) (fun e => by have := hs _ e; omega)).trans hh, r⟩
theorem owns_below {w w' : World} {B s n : Nat} {t : TypeId} {v : Value} {xs : List Value} (h : w.ownsRow B t s v n xs) (hb : Below w.heap.size w w') : w'.ownsRow B t s v n xs := owns_turns h (Turns.of_below hb (fun _ => False)) (fun _ e => e.elim)
theorem owns_mono {w : World} {B B' s n : Nat} {t : TypeId} {v : Value} {xs : List Value} (h : w.ownsRow B t s v n xs) (hB : B' ≤ B) : w.ownsRow B' t s v n xs := by
  refine ⟨h.1, h.2.imp id ?_⟩
  rintro ⟨g, cap, cur, hv, hg, r⟩
  exact ⟨g, cap, cur, hv, Nat.le_trans hB hg, r⟩
theorem owns_slice {w : World} {B s n : Nat} {t : TypeId} {v : Value} {xs : List Value} (h : w.ownsRow B t s v n xs) : ∃ A c, v = .slice A n c ∧ n ≤ c ∧ c ≤ 9223372036854775807 ∧ (0 < n → ∃ g, A = some ⟨g, 0, none⟩) := by
  rcases h.2 with ⟨h0, h3⟩ | ⟨g', cap, cur, h0, _, _, hc, hm, _⟩
  · exact ⟨none, 0, by rw [h0, h3], by omega, by omega, fun e => by omega⟩
  · exact ⟨_, _, h0, hc, by simpa [maxLen] using hm, fun _ => ⟨g', rfl⟩⟩
theorem owns_cell {w : World} {B n g c : Nat} {t : TypeId} {xs : List Value} (h : w.ownsRow B t 1 (.slice (some ⟨g, 0, none⟩) n c) n xs) {k : Nat} {v : Value} (hk : xs[k]? = some v) : w.cell? ⟨g, k, none⟩ = some v := by
  have := World.ownsRow.cells h (g := g) rfl k v hk
  rw [Addr.add_lit] at this
  simpa using this
/-- one row is not in the other one's block: they differ in type -/
theorem own_apart {w : World} {B B' s s' n n' : Nat} {t t' : TypeId} {v v' : Value} {xs xs' : List Value} (h : w.ownsRow B t s v n xs) (h' : w.ownsRow B' t' s' v' n' xs') (hne : t ≠ t') : v.ownBlock = none ∨ v.ownBlock ≠ v'.ownBlock := by
  rcases h.2 with ⟨rfl, _⟩ | ⟨g, cap, cur, rfl, _, hh, _⟩
  · exact Or.inl rfl
  · right
    rcases h'.2 with ⟨rfl, _⟩ | ⟨g', cap', cur', rfl, _, hh', _⟩
    · intro e; cases e
    · intro e
      simp only [Value.ownBlock, Option.some.injEq] at e
      subst e
      rw [hh] at hh'
      simp only [Option.some.injEq, Obj.cells.injEq] at hh'
      exact hne hh'.2.1
theorem RowL.grown {w w' : World} {B B' s n : Nat} {t : TypeId} {v v' : Value} {l : List Nat} {xs : List Value} (h : RowL w B v l) (hg : w.grownBy w' v'.ownBlock) (h' : w.ownsRow B' t s v' n xs) (hne : 3 ≠ t) : RowL w' B v l :=
  World.ownsRow.kept h hg (own_apart h h' hne)
/-- vo owns a list of rows, which own the numbers of the lists ls -/
def Cls (w : World) (B c : Nat) (vo : Value) (ls : List (List Nat)) (ss : List Value) : Prop :=
  w.ownsRow B 25 1 vo ls.length ss ∧ ss.length = ls.length ∧ ∀ (k : Nat) v l, ss[k]? = some v → ls[k]? = some l → RowL w c v l
section
variable {w w' : World} {B c : Nat} {vo : Value} {ls : List (List Nat)} {ss : List Value}
theorem Cls.nil (w : World) (B c : Nat) : Cls w B c (.slice none 0 0) [] [] := ⟨World.ownsRow_nil _ _ _ _, rfl, fun k v l h => by simp at h⟩
theorem Cls.turns {S : Nat → Prop} (h : Cls w B c vo ls ss) (hT : Turns S w w') (h1 : ∀ k, S k → k < B) (h2 : ∀ k, S k → k < c) : Cls w' B c vo ls ss := ⟨owns_turns h.1 hT h1, h.2.1, fun k v l a b => owns_turns (h.2.2 k v l a b) hT h2⟩
theorem Cls.below (h : Cls w B c vo ls ss) (hb : Below w.heap.size w w') : Cls w' B c vo ls ss := h.turns (Turns.of_below hb (fun _ => False)) (fun _ e => e.elim) (fun _ e => e.elim)
theorem Cls.mono (h : Cls w B c vo ls ss) {B' : Nat} (hB : B' ≤ B) : Cls w B' c vo ls ss := ⟨owns_mono h.1 hB, h.2⟩
theorem Cls.base (h : Cls w B c vo ls ss) : ∀ k, vo.ownBlock = some k → B ≤ k := fun k hk => (World.ownsRow.lt h.1 k hk).1
theorem Cls.get (h : Cls w B c vo ls ss) {k : Nat} {l : List Nat} (hl : ls[k]? = some l) : ∃ v, ss[k]? = some v ∧ RowL w c v l := by
  have hk := (List.getElem?_eq_some_iff.1 hl).1
  have e : ss[k]? = some (ss[k]'(by rw [h.2.1]; exact hk)) := List.getElem?_eq_getElem _
  exact ⟨_, e, h.2.2 k _ l e hl⟩
/-- rows of one more list: the outer row is another one's -/
theorem Cls.kept (h : Cls w B c vo ls ss) {row : Option Nat} (hg : w.grownBy w' row) (h1 : vo.ownBlock = none ∨ vo.ownBlock ≠ row) (h2 : ∀ v l, RowL w c v l → v.ownBlock = none ∨ v.ownBlock ≠ row) : Cls w' B c vo ls ss :=
  ⟨World.ownsRow.kept h.1 hg h1, h.2.1, fun k v l a b => World.ownsRow.kept (h.2.2 k v l a b) hg (h2 v l (h.2.2 k v l a b))⟩
theorem Cls.push {vo' v : Value} {l : List Nat} (h : Cls w B c vo ls ss) (hv : RowL w c v l) (hg : w.grownBy w' vo.ownBlock) (h' : w'.ownsRow B 25 1 vo' (ls.length + 1) (ss ++ [v])) : Cls w' B c vo' (ls ++ [l]) (ss ++ [v]) := by
  refine ⟨by simpa using h', by simp [h.2.1], fun k u x h1 h2 => ?_⟩
  rcases Nat.lt_trichotomy k ls.length with hk | hk | hk
  · rw [List.getElem?_append_left (by rw [h.2.1]; exact hk)] at h1
    rw [List.getElem?_append_left hk] at h2
    exact (h.2.2 k u x h1 h2).grown hg h.1 (by decide)
  · subst hk
    rw [List.getElem?_append_right (by rw [h.2.1]; exact Nat.le_refl _), h.2.1, Nat.sub_self] at h1
    rw [List.getElem?_append_right (Nat.le_refl _), Nat.sub_self] at h2
    simp at h1 h2
    subst h1 h2
    exact hv.grown hg h.1 (by decide)
  · rw [List.getElem?_eq_none (by simp; omega)] at h2
    cases h2
end
theorem info25 : (Try.prog.info? 25).map (fun i => (i.zero, i.size, i.bytes)) = some (some (.slice none 0 0), 1, 24) := by kernel_rfl
theorem info2 : (Try.prog.info? 2).map (fun i => (i.zero, i.size, i.bytes)) = some (some (.int .i64 0), 1, 8) := by kernel_rfl
theorem slice_one {w : World} {B s n : Nat} {t : TypeId} {v : Value} {xs : List Value} (h : w.ownsRow B t s v n xs) : v.oneCell' = true := by
  obtain ⟨A, c, rfl, _⟩ := owns_slice h
  rfl
/-- append of one row to a list of rows -/
theorem wpList_append_row {ops : Array Oper} {rest : List Oper} {o : Oper} {a : Act} {w : World} {Q : Exit → Act → World → Prop} (hgd : o.guard = none) (s x : Operand) (ho : o.op = .call { callee := .builtin .append, args := #[s, x], argTypes := #[84, 84] })
    (B c : Nat) (vo v : Value) (ls : List (List Nat)) (ss : List Value) (l : List Nat) (g : Nat) (hs : a.eval s = vo) (hC : Cls w B c vo ls ss) (hx : a.eval x = .slice (some ⟨g, 0, none⟩) 1 1) (hc : w.cell? ⟨g, 0, none⟩ = some v) (hv : RowL w c v l)
    (hn : ls.length ≤ 100000) (hB : B ≤ w.heap.size)
    (h : ∀ v' w', Cls w' B c v' (ls ++ [l]) (ss ++ [v]) → w.grownBy w' vo.ownBlock → wpList Try.prog ops Q rest (a.put o.dst v') w') :
    wpList Try.prog ops Q (o :: rest) a w := by
  obtain ⟨i0, hi, hz0, hz1, hz2⟩ := info_parts info25
  refine wpList_append_own w hgd s x 84 ho B 25 i0 (.slice none 0 0) 1 24 Try.underlying84 hi hz0 hz1 hz2 rfl (by decide) vo ls.length ss hs hC.1 ⟨g, 0, none⟩ 1 1 [v] hx rfl ?_ ?_ (by simp only [maxLen]; omega) (by omega) hB ?_
  · intro j u hu
    rcases j with _ | j
    · simp at hu
      subst hu
      exact hc
    · simp at hu
  · intro u hu
    simp at hu
    subst hu
    exact slice_one hv
  · intro v' w' h2 h3 _
    exact h v' w' (hC.push hv h3 h2) h3
/-- the document's sequences: the struct in block r, all of them from block c on -/
def RL (w : World) (r c n : Nat) (LL : List (List Nat)) (U : Nat → Int) : Prop :=
  c ≤ r ∧ n ≤ 1000 ∧ (∀ x, x < n → Fits (U x)) ∧ ∃ vL ss vV, Blk w r 86 #[.bool true, vL, vV] ∧ Cls w c c vL LL ss ∧ w.ownsRow c 2 1 vV n (vals U n)
section
variable {w w' : World} {r c n : Nat} {LL : List (List Nat)} {U : Nat → Int}
theorem RL.turns {S : Nat → Prop} (h : RL w r c n LL U) (hT : Turns S w w') (hs : ∀ k, S k → k < c) : RL w' r c n LL U := by
  obtain ⟨h0, hn, hf, vL, ss, vV, h1, h2, h3⟩ := h
  exact ⟨h0, hn, hf, vL, ss, vV, h1.turns hT (fun e => by have := hs _ e; omega), h2.turns hT hs hs, owns_turns h3 hT hs⟩
theorem RL.below (h : RL w r c n LL U) (hb : Below w.heap.size w w') : RL w' r c n LL U := h.turns (Turns.of_below hb (fun _ => False)) (fun _ e => e.elim)
theorem RL.lt (h : RL w r c n LL U) : r < w.heap.size := by
  obtain ⟨h0, hn, hf, vL, ss, vV, h1, h2, h3⟩ := h
  exact h1.lt
end
end Go.Proofs.Ytgichkjomhnehaa
