/-
  Lists of rows, one of which grows: what Classes does in a round.
-/
import Derived.Test.YtipniooflaiikaaF2
set_option linter.unusedVariables false
set_option linter.unusedSimpArgs false
namespace Go.Proofs.Ytipniooflaiikaa
open Go.RowKit Go.Shelf

theorem grownBy_set (w : World) (p : Addr) (u : Value) : w.grownBy (w.setCell p u) (some p.block) :=
  ⟨rfl, rfl, rfl, by simp, fun k hk hne => Below.heap_setCell w p u k (fun e => hne (by rw [e]))⟩
/-- no two rows lie in one block -/
def Apart (ss : List Value) : Prop := ∀ (k k' : Nat) v v', k ≠ k' → ss[k]? = some v → ss[k']? = some v' → v.ownBlock = none ∨ v.ownBlock ≠ v'.ownBlock
theorem Apart.nil : Apart [] := fun k k' v v' _ h => by simp at h
theorem Apart.push {ss : List Value} (h : Apart ss) : Apart (ss ++ [.slice none 0 0]) := fun k k' v v' hne h1 h2 => by
  have key : ∀ (j : Nat) u, (ss ++ [Value.slice none 0 0])[j]? = some u → ss[j]? = some u ∨ u = .slice none 0 0 := fun j u hu => by
    rcases Nat.lt_trichotomy j ss.length with hj | hj | hj
    · rw [List.getElem?_append_left hj] at hu; exact Or.inl hu
    · subst hj
      rw [List.getElem?_append_right (Nat.le_refl _), Nat.sub_self] at hu
      simp at hu
      exact Or.inr hu.symm
    · rw [List.getElem?_eq_none (by simp; omega)] at hu; cases hu
  rcases key k v h1 with h3 | rfl
  · rcases key k' v' h2 with h4 | rfl
    · exact h k k' v v' hne h3 h4
    · cases hb : v.ownBlock with
      | none => exact Or.inl rfl
      | some g => right; intro e; cases e
  · exact Or.inl rfl
theorem own22_set {w : World} {base n g cap : Nat} {xs : List Value} (h : w.ownsRow base 22 1 (.slice (some ⟨g, 0, none⟩) n cap) n xs) {i : Nat} (hi : i < n) (u : Value) :
    (w.setCell ⟨g, i, none⟩ u).ownsRow base 22 1 (.slice (some ⟨g, 0, none⟩) n cap) n (xs.set i u) := by
  refine ⟨by rw [List.length_set]; exact h.1, Or.inr ?_⟩
  rcases h.2 with ⟨h0, _⟩ | ⟨g', cap', cur, hv, hg, hh, hc, hm, hs, ht⟩
  · cases h0
  · cases hv
    refine ⟨g, cap, cur.setIfInBounds i u, rfl, hg, Blk.set_ (w := w) (g := g) (t := 22) (cs := cur) hh i u, hc, hm, by simpa using hs, ?_⟩
    rw [← ht]
    apply List.ext_getElem?
    intro j
    rw [Array.toList_setIfInBounds, List.getElem?_take, List.getElem?_set, List.getElem?_set, List.getElem?_take, List.length_take]
    by_cases hj : j < n * 1
    · rw [if_pos hj, if_pos hj]
      by_cases e : i = j
      · subst e
        rw [if_pos rfl, if_pos rfl]
        have hl : n * 1 ≤ cur.toList.length := by
          have := h.1
          have h2 := congrArg List.length ht
          rw [List.length_take, this] at h2
          omega
        rw [if_pos (by omega), if_pos (by omega)]
      · rw [if_neg e, if_neg e]
    · rw [if_neg hj, if_neg (by omega), if_neg hj]
theorem Cls.put {w w' : World} {B g cap k : Nat} {ls : List (List Nat)} {ss : List Value} {v v' : Value} {l l' : List Nat} (h : Cls w B (.slice (some ⟨g, 0, none⟩) ls.length cap) ls ss) (hA : Apart ss) (hk : ss[k]? = some v) (hl : ls[k]? = some l)
    (hg : w.grownBy w' v.ownBlock) (hv : RowL w' B v' l') (hb : v'.ownBlock = v.ownBlock ∨ v'.ownBlock = some w.heap.size) :
    Cls (w'.setCell ⟨g, k, none⟩ v') B (.slice (some ⟨g, 0, none⟩) ls.length cap) (ls.set k l') (ss.set k v') ∧ Apart (ss.set k v') := by
  have hlt : k < ls.length := (List.getElem?_eq_some_iff.1 hl).1
  have hrow := h.2.2 k v l hk hl
  have o1 : w'.ownsRow B 22 1 (.slice (some ⟨g, 0, none⟩) ls.length cap) ls.length ss := World.ownsRow.kept h.1 hg (own_apart h.1 hrow (by decide))
  have o2 := own22_set o1 hlt v'
  have gs := grownBy_set w' ⟨g, k, none⟩ v'
  have far : ∀ {u : Value} {x : List Nat}, RowL w' B u x → RowL (w'.setCell ⟨g, k, none⟩ v') B u x := fun hu =>
    World.ownsRow.kept hu gs (by
      have := own_apart hu o1 (by decide)
      exact this)
  refine ⟨⟨by rw [List.length_set]; exact o2, by rw [List.length_set, List.length_set]; exact h.2.1, fun j u x h1 h2 => ?_⟩, fun j j' u u' hne h1 h2 => ?_⟩
  · rw [List.getElem?_set] at h1 h2
    by_cases e : k = j
    · subst e
      rw [if_pos rfl, if_pos (by rw [h.2.1]; exact hlt)] at h1
      rw [if_pos rfl, if_pos hlt] at h2
      cases h1
      cases h2
      exact far hv
    · rw [if_neg e] at h1 h2
      refine far (World.ownsRow.kept (h.2.2 j u x h1 h2) hg (hA j k u v (Ne.symm e) h1 hk))
  · have hkl : k < ss.length := by rw [h.2.1]; exact hlt
    have old : ∀ (t : Nat) y, ss[t]? = some y → ∀ b, y.ownBlock = some b → b < w.heap.size := fun t y hy b hyb => by
      have htl := (List.getElem?_eq_some_iff.1 hy).1
      have := h.2.2 t y (ls[t]'(by rw [← h.2.1]; exact htl)) hy (List.getElem?_eq_getElem _)
      exact (World.ownsRow.lt this b hyb).2
    rw [List.getElem?_set] at h1 h2
    by_cases e : k = j
    · subst e
      rw [if_pos rfl, if_pos hkl] at h1
      cases h1
      rw [if_neg hne] at h2
      rcases hb with hb | hb
      · rw [hb]; exact hA k j' v u' hne hk h2
      · right
        rw [hb]
        intro e2
        have := old j' u' h2 _ e2.symm
        omega
    · rw [if_neg e] at h1
      by_cases e' : k = j'
      · subst e'
        rw [if_pos rfl, if_pos hkl] at h2
        cases h2
        rcases hb with hb | hb
        · rw [hb]; exact hA j k u v hne h1 hk
        · rw [hb]
          cases hu : u.ownBlock with
          | none => exact Or.inl rfl
          | some b =>
            right
            intro e2
            cases e2
            have := old j u h1 _ hu
            omega
      · rw [if_neg e'] at h2
        exact hA j j' u u' hne h1 h2
end Go.Proofs.Ytipniooflaiikaa
