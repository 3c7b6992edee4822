/-
  The buckets: memory; lose.
-/
import Derived.Test.YtoiafopndlnknaaB6
import Derived.Test.YtoiafopndlnknaaRw
set_option linter.unusedVariables false
set_option linter.unusedSimpArgs false
namespace Go.Proofs.Ytoiafopndlnknaa
open Go.RowKit Go.Shelf

theorem grownBy_set (w : World) (p : Addr) (u : Value) : w.grownBy (w.setCell p u) (some p.block) :=
  ⟨rfl, rfl, rfl, by simp, fun k hk hne => Below.heap_setCell w p u k (fun e => hne (by rw [e]))⟩
theorem RowL.cells_ {w : World} {B : Nat} {v : Value} {l : List Nat} (h : RowL w B v l) : ∀ k, v.ownBlock = some k → ∃ cs, w.heap[k]? = some (.cells cs 3 (0, 0)) := by
  intro k hk
  rcases h.2 with ⟨h0, _⟩ | ⟨g, cap, cur, hv, hg, hh, _⟩
  · rw [h0] at hk; cases hk
  · rw [hv] at hk; cases hk; exact ⟨cur, hh⟩
theorem RowL.slice {w : World} {B : Nat} {v : Value} {l : List Nat} (h : RowL w B v l) : ∃ A c, v = .slice A l.length c := by
  rcases h.2 with ⟨h0, h3⟩ | ⟨g', cap, cur, h0, _⟩
  · exact ⟨none, 0, by rw [h0, h3]⟩
  · exact ⟨_, _, h0⟩
def upd {β : Type} (f : Nat → β) (d : Nat) (x : β) : Nat → β := fun k => if k = d then x else f k
/-- lists, each in a slice of its own, apart from each other -/
def Ms (w : World) (gm B : Nat) (mem : Nat → List Nat) (X : Nat → Prop) : Prop :=
  ∃ vs : Nat → Value, (∃ cs, Blk w gm 31 cs ∧ ∀ d, d < B → cs[d]? = some (vs d)) ∧ (∀ d, d < B → RowL w 0 (vs d) (mem d) ∧ ∀ k, (vs d).ownBlock = some k → ¬ X k) ∧ ∀ d d', d < B → d' < B → d ≠ d' → (vs d).ownBlock = none ∨ (vs d).ownBlock ≠ (vs d').ownBlock
/-- the buckets; the blocks of X are none of theirs -/
structure Bk (w : World) (b gd gm n B : Nat) (dv : Nat → Int) (mem : Nat → List Nat) (low : Nat) (X : Nat → Prop) : Prop where
  box : Blk w b 109 #[.slice (some ⟨gd, 0, none⟩) n n, .slice (some ⟨gm, 0, none⟩) B B, .int .i64 (low : Nat)]
  deg : RowF .i64 w gd 3 n dv
  ms : Ms w gm B mem (fun k => X k ∨ k = gd)
  nx : ¬ X b ∧ ¬ X gd ∧ ¬ X gm
  xs : ∀ k, X k → k < w.heap.size
  nb : n ≤ 4096 ∧ B ≤ 40000 ∧ low ≤ 40000
/-- what the buckets' own functions turn -/
def Tn (X : Nat → Prop) (w w' : World) : Prop := Turns (fun k => ¬ X k) w w' ∧ KeepsOthers w w'
theorem Tn.refl (X : Nat → Prop) (w : World) : Tn X w w := ⟨Turns.refl _ w, KeepsOthers.refl w⟩
theorem Tn.trans {X : Nat → Prop} {a b c : World} (h : Tn X a b) (k : Tn X b c) : Tn X a c := ⟨h.1.trans k.1, h.2.trans k.2⟩
section
variable {w w' : World} {b gd gm n B low : Nat} {dv : Nat → Int} {mem : Nat → List Nat} {X : Nat → Prop}
theorem Ms.lists (h : Ms w gm B mem X) {d : Nat} (hd : d < B) : ∃ v, w.cell? ⟨gm, d, none⟩ = some v ∧ RowL w 0 v (mem d) ∧ (∀ k, v.ownBlock = some k → ¬ X k ∧ k < w.heap.size ∧ k ≠ gm) ∧ w.frozen? ⟨gm, d, none⟩ = false := by
  obtain ⟨vs, ⟨cs, k1, k2⟩, h2, h3⟩ := h
  obtain ⟨r1, r2⟩ := h2 d hd
  refine ⟨vs d, (k1.cell d).trans (k2 d hd), r1, fun k hk => ⟨r2 k hk, (World.ownsRow.lt r1 k hk).2, fun e => ?_⟩, k1.frozen d⟩
  obtain ⟨cs2, hc⟩ := RowL.cells_ r1 k hk
  rw [e] at hc
  exact k1.ne_ (t' := 3) (cs' := cs2) hc (by decide) rfl
theorem Ms.heap (h : Ms w gm B mem X) (hk : ∀ k cs t, ¬ X k → Blk w k t cs → Blk w' k t cs) (hg : ¬ X gm) : Ms w' gm B mem X := by
  obtain ⟨vs, ⟨cs, k1, k2⟩, h2, h3⟩ := h
  refine ⟨vs, ⟨cs, hk _ _ _ hg k1, k2⟩, fun d hd => ⟨?_, (h2 d hd).2⟩, h3⟩
  obtain ⟨r1, r2⟩ := h2 d hd
  refine ⟨r1.1, r1.2.imp id ?_⟩
  rintro ⟨g, cap, cur, hv, hg, hh, r⟩
  exact ⟨g, cap, cur, hv, hg, hk g cur 3 (r2 g (by rw [hv]; rfl)) hh, r⟩
/-- one list grows -/
theorem Ms.push (h : Ms w gm B mem X) {d : Nat} (hd : d < B) {v v' : Value} (hv : w.cell? ⟨gm, d, none⟩ = some v) {l : List Nat} (hr : RowL w' 0 v' l) (hg : w.grownBy w' v.ownBlock) (hat : v'.ownBlock = v.ownBlock ∨ v'.ownBlock = some w.heap.size) (hX : ∀ k, X k → k < w.heap.size) :
    Ms (w'.setCell ⟨gm, d, none⟩ v') gm B (upd mem d l) X := by
  obtain ⟨vs, ⟨cs, k1, k2⟩, h2, h3⟩ := h
  have e : v = vs d := by
    have := (k1.cell d).trans (k2 d hd)
    rw [hv] at this
    exact Option.some.inj this
  subst e
  have hgm : ∀ e, e < B → (vs e).ownBlock ≠ some gm := fun e he g => by
    obtain ⟨cs2, hc⟩ := RowL.cells_ (h2 e he).1 gm g
    exact k1.ne_ (t' := 3) (cs' := cs2) hc (by decide) rfl
  have k3 : Blk w' gm 31 cs := (hg.block gm k1.lt (fun e => hgm d hd e.symm)).trans k1
  have hgs := k1.lt
  have gs : w'.grownBy (w'.setCell ⟨gm, d, none⟩ v') (some gm) := ⟨rfl, rfl, rfl, by simp, fun k hk hne => Below.heap_setCell w' _ v' k (fun e => hne (by rw [e]))⟩
  have hv'gm : v'.ownBlock = none ∨ v'.ownBlock ≠ some gm := by
    rcases hat with e | e
    · right; rw [e]; exact hgm d hd
    · right; rw [e]; intro g; have := Option.some.inj g; omega
  refine ⟨fun k => if k = d then v' else vs k, ⟨_, k3.set_ d v', fun e he => ?_⟩, fun e he => ?_, fun e e' he he' hne => ?_⟩
  · have hsz : d < cs.size := by
      have := k2 d hd
      exact (Array.getElem?_eq_some_iff.1 this).1
    show _ = some (if e = d then v' else vs e)
    rw [Array.getElem?_setIfInBounds]
    by_cases hed : d = e
    · subst hed; simp [hsz]
    · rw [if_neg hed, if_neg (fun g => hed g.symm)]
      exact k2 e he
  · by_cases hed : e = d
    · subst hed
      simp only [upd, if_pos]
      refine ⟨World.ownsRow.kept hr gs hv'gm, fun k hk => ?_⟩
      rcases hat with g | g
      · rw [g] at hk; exact (h2 e he).2 k hk
      · rw [g] at hk
        have := Option.some.inj hk
        exact fun hx => by have := hX k hx; omega
    · simp only [upd, if_neg hed]
      refine ⟨World.ownsRow.kept (World.ownsRow.kept (h2 e he).1 hg (h3 e d he hd hed)) gs (.inr (hgm e he)), (h2 e he).2⟩
  · have fresh : ∀ k, k < B → k ≠ d → (vs k).ownBlock = none ∨ (vs k).ownBlock ≠ v'.ownBlock := fun k hk hkd => by
      rcases hat with g | g
      · rw [g]; exact h3 k d hk hd hkd
      · cases hb : (vs k).ownBlock with
        | none => exact .inl rfl
        | some x =>
          right
          rw [g]
          intro e
          have e := Option.some.inj e
          have := (World.ownsRow.lt (h2 k hk).1 x hb).2
          omega
    by_cases hed : e = d
    · subst hed
      have hne' : e' ≠ e := fun g => hne g.symm
      simp only [if_pos, if_neg hne']
      rcases fresh e' he' hne' with g | g
      · cases hb : v'.ownBlock with
        | none => exact .inl rfl
        | some x => right; rw [g]; simp
      · exact .inr (fun e => g e.symm)
    · by_cases hed' : e' = d
      · subst hed'
        simp only [if_pos, if_neg hed]
        exact fresh e he hed
      · simp only [if_neg hed, if_neg hed']
        exact h3 e e' he he' hne
theorem Bk.lt (h : Bk w b gd gm n B dv mem low X) : b < w.heap.size ∧ gd < w.heap.size ∧ gm < w.heap.size := by
  obtain ⟨vs, ⟨cs, k1, k2⟩, _⟩ := h.ms
  exact ⟨h.box.lt, h.deg.lt, k1.lt⟩
theorem Bk.ne (h : Bk w b gd gm n B dv mem low X) : b ≠ gd ∧ b ≠ gm ∧ gd ≠ gm := by
  obtain ⟨vs, ⟨cs, k1, k2⟩, _⟩ := h.ms
  obtain ⟨cd, d1, d2⟩ := h.deg
  exact ⟨h.box.ne_ d1 (by decide), h.box.ne_ k1 (by decide), d1.ne_ k1 (by decide)⟩
/-- whatever keeps the cells that are not X's -/
theorem Bk.heap (h : Bk w b gd gm n B dv mem low X) (hk : ∀ k cs t, ¬ X k → Blk w k t cs → Blk w' k t cs) (hs : w.heap.size ≤ w'.heap.size) : Bk w' b gd gm n B dv mem low X := by
  obtain ⟨cd, d1, d2⟩ := h.deg
  have hlt := h.lt
  have hne := h.ne
  refine ⟨hk _ _ _ h.nx.1 h.box, ⟨cd, hk _ _ _ h.nx.2.1 d1, d2⟩, ?_, h.nx, fun k hx => Nat.lt_of_lt_of_le (h.xs k hx) hs, h.nb⟩
  have := h.ms
  refine Ms.heap this (fun k cs t hx hb => hk k cs t (fun g => hx (.inl g)) hb) ?_
  rintro (g | g)
  · exact h.nx.2.2 g
  · exact hne.2.2 g.symm
theorem Bk.below (h : Bk w b gd gm n B dv mem low X) (hb : Below w.heap.size w w') : Bk w' b gd gm n B dv mem low X := h.heap (fun k cs t _ hk => hk.below hb hk.lt) hb.size
/-- what is new is none of the buckets' -/
theorem Bk.guard (h : Bk w b gd gm n B dv mem low X) (hb : Below w.heap.size w w') : Bk w' b gd gm n B dv mem low (fun k => X k ∨ (w.heap.size ≤ k ∧ k < w'.heap.size)) := by
  have h1 := h.below hb
  have hlt := h.lt
  have hs := hb.size
  refine ⟨h1.box, h1.deg, ?_, ⟨fun g => g.elim h.nx.1 (fun g => by omega), fun g => g.elim h.nx.2.1 (fun g => by omega), fun g => g.elim h.nx.2.2 (fun g => by omega)⟩, fun k hk => hk.elim (fun g => h1.xs k g) (fun g => g.2), h.nb⟩
  obtain ⟨vs, a1, a2, a3⟩ := h1.ms
  obtain ⟨vs0, b1, b2, b3⟩ := h.ms
  refine ⟨vs0, ?_, fun d hd => ⟨(b2 d hd).1.below hb, fun k hk => ?_⟩, b3⟩
  · obtain ⟨cs, c1, c2⟩ := b1
    exact ⟨cs, c1.below hb c1.lt, c2⟩
  · have := (World.ownsRow.lt (b2 d hd).1 k hk).2
    have := (b2 d hd).2 k hk
    rintro ((g | g) | g)
    · exact this (.inl g)
    · omega
    · exact this (.inr g)
theorem Bk.less {X' : Nat → Prop} (h : Bk w b gd gm n B dv mem low X) (hx : ∀ k, X' k → X k) : Bk w b gd gm n B dv mem low X' := by
  obtain ⟨vs, a1, a2, a3⟩ := h.ms
  exact ⟨h.box, h.deg, ⟨vs, a1, fun d hd => ⟨(a2 d hd).1, fun k hk g => (a2 d hd).2 k hk (g.imp (hx k) id)⟩, a3⟩, ⟨fun g => h.nx.1 (hx _ g), fun g => h.nx.2.1 (hx _ g), fun g => h.nx.2.2 (hx _ g)⟩, fun k g => h.xs k (hx k g), h.nb⟩
end
end Go.Proofs.Ytoiafopndlnknaa
