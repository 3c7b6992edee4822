/-
  The walk of HistoPlays.
-/
import Derived.Test.YtcmkjbliiggcbaaR2
import Derived.Test.YtcmkjbliiggcbaaL2
set_option linter.unusedVariables false
set_option linter.unusedSimpArgs false
namespace Go.Proofs.Ytcmkjbliiggcbaa
open Go.RowKit Go.Shelf

theorem ArgI.turns {w w' : World} {A : Option Addr} {n c : Nat} {z : Nat → Int} {S : Nat → Prop} (h : ArgI .i64 w A n c z) (ht : Turns S w w') (hn : 0 < n → ∀ g o, A = some ⟨g, o, none⟩ → ¬ S g) : ArgI .i64 w' A n c z := by
  obtain ⟨h1, h2, h3, h4⟩ := h
  refine ⟨h1, h2, fun h0 => ?_, h4⟩
  obtain ⟨g, o, e, hg, hc⟩ := h3 h0
  exact ⟨g, o, e, Nat.lt_of_lt_of_le hg ht.size, fun i hi => (World.cell?_of_block (ht.block g hg (hn h0 g o e))).trans (hc i hi)⟩
/-- both histograms, side by side -/
structure Both (w : World) (H p n : Nat) (B C : Nat → Int) (T : Int) (A : Option Addr) (cb s cs p' : Nat) (A' : Option Addr) (cb' s' cs' : Nat) : Prop where
  hh : Hist w p n B C T A cb s cs
  rr : RHist w p' n B C A' cb' s' cs'
  good : Good C n T
  l1 : p < H
  l2 : s < H
  l3 : 0 < n → ∀ g o, A = some ⟨g, o, none⟩ → g < H
  g1 : H ≤ p'
  g2 : H ≤ s'
  g3 : ∀ g o, A' = some ⟨g, o, none⟩ → H ≤ g
theorem Both.below {w w' : World} {H p n : Nat} {B C : Nat → Int} {T : Int} {A : Option Addr} {cb s cs p' : Nat} {A' : Option Addr} {cb' s' cs' : Nat} (h : Both w H p n B C T A cb s cs p' A' cb' s' cs') (hb : Below w.heap.size w w') : Both w' H p n B C T A cb s cs p' A' cb' s' cs' :=
  ⟨h.hh.below hb, h.rr.below hb, h.good, h.l1, h.l2, h.l3, h.g1, h.g2, h.g3⟩
theorem RHist.turns {w w' : World} {p n : Nat} {B C : Nat → Int} {A : Option Addr} {cb s cs : Nat} {S : Nat → Prop} (h : RHist w p n B C A cb s cs) (ht : Turns S w w') (h1 : ¬ S p) (h2 : ¬ S s) (h3 : 0 < n → ∀ g o, A = some ⟨g, o, none⟩ → ¬ S g) : RHist w' p n B C A cb s cs :=
  ⟨h.blk.turns ht h1, h.row.turns ht h2, ArgI.turns h.arg ht h3, h.nil, h.far, h.cap, h.big, h.le⟩
theorem Hist.turns {w w' : World} {p n : Nat} {B C : Nat → Int} {T : Int} {A : Option Addr} {cb s cs : Nat} {S : Nat → Prop} (h : Hist w p n B C T A cb s cs) (ht : Turns S w w') (h1 : ¬ S p) (h2 : ¬ S s) (h3 : 0 < n → ∀ g o, A = some ⟨g, o, none⟩ → ¬ S g) : Hist w' p n B C T A cb s cs :=
  ⟨h.blk.turns ht h1, h.row.turns ht h2, ArgI.turns h.arg ht h3, h.nil, h.far, h.cap, h.big, h.inc, h.le⟩
section
variable {w w' w'' : World} {H p n : Nat} {B C C' : Nat → Int} {T T' : Int} {A : Option Addr} {cb s cs p' : Nat} {A' : Option Addr} {cb' s' cs' : Nat}
/-- what is left of the document's behind histo's addition -/
theorem Both.mid (h : Both w H p n B C T A cb s cs p' A' cb' s' cs') (ht : Turns (fun k => k = p ∨ k = s) w w') : RHist w' p' n B C A' cb' s' cs' := by
  have a1 := h.l1; have a2 := h.l2; have a3 := h.g1; have a4 := h.g2
  exact h.rr.turns ht (by omega) (by omega) (fun hn g o e => by have := h.g3 g o e; omega)
theorem Both.step (h : Both w H p n B C T A cb s cs p' A' cb' s' cs') (hh : Hist w' p n B C' T' A cb s cs) (hr : RHist w'' p' n B C' A' cb' s' cs') (hg : Good C' n T') (ht : Turns (fun k => k = p' ∨ k = s') w' w'') : Both w'' H p n B C' T' A cb s cs p' A' cb' s' cs' := by
  have a1 := h.l1; have a2 := h.l2; have a3 := h.g1; have a4 := h.g2
  exact ⟨hh.turns ht (by omega) (by omega) (fun hn g o e => by have := h.l3 hn g o e; omega), hr, hg, h.l1, h.l2, h.l3, h.g1, h.g2, h.g3⟩
theorem both_new {w1 w2 : World} (h : Hist w1 p n B (fun _ => 0) 0 A cb s cs) (hv : Below w1.heap.size w1 w2) (hr : RHist w2 p' n B (fun _ => 0) A' cb' s' cs') (h1 : w1.heap.size ≤ p') (h2 : w1.heap.size ≤ s') (h3 : ∀ g o, A' = some ⟨g, o, none⟩ → w1.heap.size ≤ g) :
    Both w2 w1.heap.size p n B (fun _ => 0) 0 A cb s cs p' A' cb' s' cs' :=
  ⟨h.below hv, hr, good_zero n, h.blk.lt, h.row.lt, fun hn g o e => by obtain ⟨g', o', e', hl, _⟩ := h.arg.2.2.1 hn; rw [e] at e'; cases e'; exact hl, h1, h2, h3⟩
end
end Go.Proofs.Ytcmkjbliiggcbaa
