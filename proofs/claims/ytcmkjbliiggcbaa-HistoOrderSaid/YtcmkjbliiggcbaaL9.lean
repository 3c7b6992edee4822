/-
  The walk of HistoMerges.
-/
import Derived.Test.YtcmkjbliiggcbaaR5
import Derived.Test.YtcmkjbliiggcbaaM4
import Derived.Test.YtcmkjbliiggcbaaM5
set_option linter.unusedVariables false
set_option linter.unusedSimpArgs false
namespace Go.Proofs.Ytcmkjbliiggcbaa
open Go.RowKit Go.Shelf

theorem tot_addR (C D : Nat → Int) (n : Nat) : ∀ k, k ≤ n → tot (addR C D n) k = tot C k + tot D k
  | 0, _ => rfl
  | k + 1, hk => by
    simp only [tot]
    rw [tot_addR C D n k (by omega)]
    unfold addR
    rw [if_pos (by omega)]
    omega
theorem Good.addR {C D : Nat → Int} {n : Nat} {T U : Int} (h : Good C n T) (k : Good D n U) (hs : T + U ≤ 9223372036854775807) : Good (addR C D (n + 1)) n (T + U) := by
  refine ⟨fun j => ?_, ?_, hs⟩
  · have := h.nn j
    have := k.nn j
    unfold Ytcmkjbliiggcbaa.addR
    split <;> omega
  · rw [tot_addR C D (n + 1) (n + 1) (Nat.le_refl _), h.sum, k.sum]
theorem Both.far {w w' : World} {H p n : Nat} {B C : Nat → Int} {T : Int} {A : Option Addr} {cb s cs p' : Nat} {A' : Option Addr} {cb' s' cs' : Nat} (h : Both w H p n B C T A cb s cs p' A' cb' s' cs') {S : Nat → Prop} (ht : Turns S w w')
    (hS : ∀ k, S k → k ≠ p ∧ k ≠ s ∧ k ≠ p' ∧ k ≠ s' ∧ (∀ g o, A = some ⟨g, o, none⟩ → g ≠ k) ∧ (∀ g o, A' = some ⟨g, o, none⟩ → g ≠ k)) : Both w' H p n B C T A cb s cs p' A' cb' s' cs' :=
  ⟨h.hh.turns ht (fun k => (hS _ k).1 rfl) (fun k => (hS _ k).2.1 rfl) (fun _ g o e k => (hS _ k).2.2.2.2.1 g o e rfl),
   h.rr.turns ht (fun k => (hS _ k).2.2.1 rfl) (fun k => (hS _ k).2.2.2.1 rfl) (fun _ g o e k => (hS _ k).2.2.2.2.2 g o e rfl), h.good, h.l1, h.l2, h.l3, h.g1, h.g2, h.g3⟩

section
variable {w : World} {H p n : Nat} {B C : Nat → Int} {T : Int} {A : Option Addr} {cb s cs p' : Nat} {A' : Option Addr} {cb' s' cs' : Nat}
/-- a histogram merged with itself, and the document's -/
theorem pair_self (h : Both w H p n B C T A cb s cs p' A' cb' s' cs') (ho : T + T ≤ 9223372036854775807) {w3 w4 : World}
    (h3 : Hist w3 p n B (addR C C (n + 1)) (T + T) A cb s cs) (t3 : Turns (fun x => x = p ∨ x = s) w w3) (r4 : RHist w4 p' n B (addR C C (n + 1)) A' cb' s' cs') (t4 : Turns (· = s') w3 w4) :
    Both w4 H p n B (addR C C (n + 1)) (T + T) A cb s cs p' A' cb' s' cs' :=
  h.step h3 r4 (h.good.addR h.good ho) (t4.mono (fun k _ hk => .inr hk))
end

/-- where a pair lies: at or above b -/
def Above (b p s p' s' : Nat) (A A' : Option Addr) : Prop := b ≤ p ∧ b ≤ s ∧ b ≤ p' ∧ b ≤ s' ∧ (∀ g o, A = some ⟨g, o, none⟩ → b ≤ g) ∧ (∀ g o, A' = some ⟨g, o, none⟩ → b ≤ g)
theorem Both.away {w w' : World} {H p n : Nat} {B C : Nat → Int} {T : Int} {A : Option Addr} {cb s cs p' : Nat} {A' : Option Addr} {cb' s' cs' : Nat} (h : Both w H p n B C T A cb s cs p' A' cb' s' cs') {b : Nat} (ha : Above b p s p' s' A A') {S : Nat → Prop} (ht : Turns S w w') (hS : ∀ k, S k → k < b) :
    Both w' H p n B C T A cb s cs p' A' cb' s' cs' := by
  obtain ⟨a1, a2, a3, a4, a5, a6⟩ := ha
  refine h.far ht (fun k hk => ?_)
  have := hS k hk
  exact ⟨by omega, by omega, by omega, by omega, fun g o e => by have := a5 g o e; omega, fun g o e => by have := a6 g o e; omega⟩

/-- what filled returns, in few words -/
def Fil (w : World) (n : Nat) (B : Nat → Int) (v u : Option Addr) (w' : World) : Prop :=
  (v = none ∧ u = none) ∨ ∃ H p C T A cb s cs p' A' cb' s' cs', v = some ⟨p, 0, none⟩ ∧ u = some ⟨p', 0, none⟩ ∧ Both w' H p n B C T A cb s cs p' A' cb' s' cs' ∧ Above w.heap.size p s p' s' A A'
theorem fil_of {w w' : World} {n : Nat} {B : Nat → Int} {e : Ending} (h : FilledOk2 w n B e w') : ∃ v u, e = .returned (.tuple #[.pointer v, .pointer u]) ∧ Fil w n B v u w' ∧ Below w.heap.size w w' := by
  rcases h with ⟨H, p, C, T, A, cb, s, cs, p', A', cb', s', cs', rfl, hB, a1, a2, a3, a4, a5, a6, q⟩ | ⟨rfl, q⟩
  · exact ⟨_, _, rfl, Or.inr ⟨H, p, C, T, A, cb, s, cs, p', A', cb', s', cs', rfl, rfl, hB, a1, a2, a3, a4, a5, a6⟩, q⟩
  · exact ⟨_, _, rfl, Or.inl ⟨rfl, rfl⟩, q⟩
/-- agree is true of such a pair -/
def Pair (w : World) (v u : Option Addr) : Prop :=
  (v = none ∧ u = none) ∨ ∃ H p n B C T A cb s cs p' A' cb' s' cs', v = some ⟨p, 0, none⟩ ∧ u = some ⟨p', 0, none⟩ ∧ Both w H p n B C T A cb s cs p' A' cb' s' cs'
theorem Pair.below {w w' : World} {v u : Option Addr} (h : Pair w v u) (hb : Below w.heap.size w w') : Pair w' v u := by
  rcases h with h | ⟨H, p, n, B, C, T, A, cb, s, cs, p', A', cb', s', cs', h1, h2, h3⟩
  · exact Or.inl h
  · exact Or.inr ⟨H, p, n, B, C, T, A, cb, s, cs, p', A', cb', s', cs', h1, h2, h3.below hb⟩
theorem pair_agree {w : World} {v u : Option Addr} (h : Pair w v u) (x : Int) :
    Calls Try.prog 24 #[.pointer v, .pointer u, .int .i64 x] w fun e w' => e = .returned (.bool true) ∧ Below w.heap.size w w' := by
  rcases h with ⟨rfl, rfl⟩ | ⟨H, p, n, B, C, T, A, cb, s, cs, p', A', cb', s', cs', rfl, rfl, h⟩
  · exact agree_none x w
  · exact agree_ok h.hh h.rr h.good x
/-- both Merges give the same, and both pairs agree behind it -/
structure Merged (w : World) (v u v' u' : Option Addr) (b : Nat) : Prop where
  run : ∃ k : Int, Calls Try.prog 27 #[.pointer v, .pointer v'] w fun e w1 => e = .returned (.int .i64 k) ∧ Calls Try.prog 28 #[.pointer u, .pointer u'] w1 fun e w2 => e = .returned (.int .i64 k) ∧ Pair w2 v u ∧ Pair w2 v' u' ∧ Below b w w2

theorem merged_self {w : World} {v u : Option Addr} {b : Nat} {n : Nat} {B : Nat → Int} {w0 : World} (h : Fil w0 n B v u w) (hb : b ≤ w0.heap.size) (hw : b ≤ w.heap.size) : Merged w v u v u b := by
  rcases h with ⟨rfl, rfl⟩ | ⟨H, p, C, T, A, cb, s, cs, p', A', cb', s', cs', rfl, rfl, h, a1, a2, a3, a4, a5, a6⟩
  · refine ⟨1, (void_merge (Or.inl rfl) none).mono ?_⟩
    rintro e w1 ⟨rfl, rfl⟩
    refine ⟨rfl, (rvoid_merge w none).mono ?_⟩
    rintro e w2 ⟨rfl, rfl⟩
    exact ⟨rfl, Or.inl ⟨rfl, rfl⟩, Or.inl ⟨rfl, rfl⟩, Below.refl _ _⟩
  · by_cases ho : T + T ≤ 9223372036854775807
    · refine ⟨0, (merge_self h.hh h.good ho).mono ?_⟩
      rintro e w1 ⟨rfl, h3, t3⟩
      have r3 := h.mid t3
      refine ⟨rfl, (rmerge_ok r3 r3 ⟨rfl, fun _ _ => rfl⟩ h.good h.good ho).mono ?_⟩
      rintro e w2 ⟨rfl, r4, t4⟩
      have P := pair_self h ho h3 t3 r4 t4
      have q3 := below_turns (Below.refl b w) hw t3 (fun k hk => by omega)
      have q4 := below_turns q3 (Nat.le_trans hw t3.size) t4 (fun k hk => by show ¬ k = s'; omega)
      exact ⟨rfl, Or.inr ⟨_, _, _, _, _, _, _, _, _, _, _, _, _, _, _, rfl, rfl, P⟩, Or.inr ⟨_, _, _, _, _, _, _, _, _, _, _, _, _, _, _, rfl, rfl, P⟩, q4⟩
    · refine ⟨7, (merge_over h.hh h.hh ⟨rfl, fun _ _ => rfl⟩ h.good h.good (by omega)).mono ?_⟩
      rintro e w1 ⟨rfl, hv1⟩
      have h1 := h.below hv1
      refine ⟨rfl, (rmerge_over h1.rr h1.rr ⟨rfl, fun _ _ => rfl⟩ h.good h.good (by omega)).mono ?_⟩
      rintro e w2 ⟨rfl, hv2⟩
      have h2 := h1.below hv2
      exact ⟨rfl, Or.inr ⟨_, _, _, _, _, _, _, _, _, _, _, _, _, _, _, rfl, rfl, h2⟩, Or.inr ⟨_, _, _, _, _, _, _, _, _, _, _, _, _, _, _, rfl, rfl, h2⟩, (hv1.mono hw).trans (hv2.mono (Nat.le_trans hw hv1.size))⟩

theorem Fil.below {w0 w w' : World} {n : Nat} {B : Nat → Int} {v u : Option Addr} (h : Fil w0 n B v u w) (hb : Below w.heap.size w w') : Fil w0 n B v u w' := by
  rcases h with h | ⟨H, p, C, T, A, cb, s, cs, p', A', cb', s', cs', h1, h2, h3, h4⟩
  · exact Or.inl h
  · exact Or.inr ⟨H, p, C, T, A, cb, s, cs, p', A', cb', s', cs', h1, h2, h3.below hb, h4⟩
theorem Fil.pair {w0 w : World} {n : Nat} {B : Nat → Int} {v u : Option Addr} (h : Fil w0 n B v u w) : Pair w v u := by
  rcases h with h | ⟨H, p, C, T, A, cb, s, cs, p', A', cb', s', cs', h1, h2, h3, h4⟩
  · exact Or.inl h
  · exact Or.inr ⟨H, p, n, B, C, T, A, cb, s, cs, p', A', cb', s', cs', h1, h2, h3⟩

theorem merged_two {w0 w1 w2 : World} {b n n' : Nat} {B B' : Nat → Int} {v u v' u' : Option Addr} (h : Fil w0 n B v u w1) (hv : Below w1.heap.size w1 w2) (k : Fil w1 n' B' v' u' w2) (hb : b ≤ w0.heap.size) (hw : w0.heap.size ≤ w1.heap.size) : Merged w2 v u v' u' b := by
  have hz := hv.size
  have h2 := h.below hv
  have kp := k.pair
  have hp := h2.pair
  rcases h with ⟨rfl, rfl⟩ | ⟨H, p, C, T, A, cb, s, cs, p', A', cb', s', cs', rfl, rfl, h, a1, a2, a3, a4, a5, a6⟩
  · refine ⟨1, (void_merge (Or.inl rfl) v').mono ?_⟩
    rintro e w3 ⟨rfl, rfl⟩
    refine ⟨rfl, (rvoid_merge w2 u').mono ?_⟩
    rintro e w4 ⟨rfl, rfl⟩
    exact ⟨rfl, hp, kp, Below.refl _ _⟩
  · have l1 := h.hh.blk.lt
    have l2 := h.hh.row.lt
    have l3 := h.rr.blk.lt
    have l4 := h.rr.row.lt
    have h := h.below hv
    rcases k with ⟨rfl, rfl⟩ | ⟨H2, p2, C2, T2, A2, cb2, s2, cs2, p2', A2', cb2', s2', cs2', rfl, rfl, k, ka⟩
    · refine ⟨1, (merge_void h.hh (Or.inl rfl)).mono ?_⟩
      rintro e w3 ⟨rfl, rfl⟩
      refine ⟨rfl, (rmerge_void h.rr).mono ?_⟩
      rintro e w4 ⟨rfl, rfl⟩
      exact ⟨rfl, hp, kp, Below.refl _ _⟩
    · by_cases hd : SameL n n' B B'
      · obtain rfl := hd.1
        by_cases ho : T + T2 ≤ 9223372036854775807
        · refine ⟨0, (merge_ok h.hh k.hh hd h.good k.good ho (by have := ka.1; have := ka.2.1; omega)).mono ?_⟩
          rintro e w3 ⟨rfl, h3, t3⟩
          have r3 := h.mid t3
          have k3 := k.away ka t3 (fun x hx => by omega)
          refine ⟨rfl, (rmerge_ok r3 k3.rr hd h.good k.good ho).mono ?_⟩
          rintro e w4 ⟨rfl, r4, t4⟩
          have P := h.step h3 r4 (h.good.addR k.good ho) (t4.mono (fun k _ hk => .inr hk))
          have k4 := k3.away ka t4 (fun x hx => by have hx' : x = s' := hx; omega)
          have q3 := below_turns (Below.refl b w2) (by omega) t3 (fun k hk => by omega)
          have q4 := below_turns q3 (Nat.le_trans (by omega) t3.size) t4 (fun k hk => by show ¬ k = s'; omega)
          exact ⟨rfl, Or.inr ⟨_, _, _, _, _, _, _, _, _, _, _, _, _, _, _, rfl, rfl, P⟩, Or.inr ⟨_, _, _, _, _, _, _, _, _, _, _, _, _, _, _, rfl, rfl, k4⟩, q4⟩
        · refine ⟨7, (merge_over h.hh k.hh hd h.good k.good (by omega)).mono ?_⟩
          rintro e w3 ⟨rfl, hv3⟩
          have h3 := h.below hv3
          have k3 := k.below hv3
          refine ⟨rfl, (rmerge_over h3.rr k3.rr hd h.good k.good (by omega)).mono ?_⟩
          rintro e w4 ⟨rfl, hv4⟩
          exact ⟨rfl, (hp.below hv3).below hv4, (kp.below hv3).below hv4, (hv3.mono (by omega)).trans (hv4.mono (Nat.le_trans (by omega) hv3.size))⟩
      · refine ⟨2, (merge_diff h.hh k.hh hd).mono ?_⟩
        rintro e w3 ⟨rfl, hv3⟩
        have h3 := h.below hv3
        have k3 := k.below hv3
        refine ⟨rfl, (rmerge_diff h3.rr k3.rr hd).mono ?_⟩
        rintro e w4 ⟨rfl, hv4⟩
        exact ⟨rfl, (hp.below hv3).below hv4, (kp.below hv3).below hv4, (hv3.mono (by omega)).trans (hv4.mono (Nat.le_trans (by omega) hv3.size))⟩
end Go.Proofs.Ytcmkjbliiggcbaa
