/-
  Both sides, write by write.
-/
import Derived.Test.YtgichkjomhnehaaT15
set_option linter.unusedVariables false
set_option linter.unusedSectionVars false
set_option linter.unusedSimpArgs false
namespace Go.Proofs.Ytgichkjomhnehaa
open Go.RowKit Go.Shelf

def cOne (n : Nat) (er X : Int) : Int := if hasB n X = true then 0 else er
def uSet (n : Nat) (U : Nat → Int) (X V : Int) : Nat → Int := if hasB n X = true then setU U X.toNat V else U
def qRev (n : Nat) (Q : Nat → List Nat) (X : Int) : Nat → List Nat := if hasB n X = true then revQ Q X.toNat else Q
def qSplit (n : Nat) (Q : Nat → List Nat) (X : Int) : Nat → List Nat := if hasB n X = true then splitQ Q X.toNat (posL (Q X.toNat) X.toNat) else Q
def cJoin (n : Nat) (Q : Nat → List Nat) (er X Y : Int) : Int := if hasB n X = true ∧ hasB n Y = true then (if Y.toNat ∈ Q X.toNat then 6 else 0) else er
def qJoin (n : Nat) (Q : Nat → List Nat) (X Y : Int) : Nat → List Nat := if hasB n X = true ∧ hasB n Y = true ∧ Y.toNat ∉ Q X.toNat then joinQ Q X.toNat Y.toNat else Q
section
variable {w w' : World} {p p2 : Option Addr} {c0 c n : Nat} {Q Q' : Nat → List Nat} {U U' : Nat → Int} {er : Int}
theorem SS.ins (a : SS w p c0 c n Q U er) {X : Int} (h : hasB n X = true) : ∃ b s, p = some ⟨b, 0, none⟩ ∧ c0 ≤ s ∧ b < c ∧ s < c ∧ SQ w b s n Q U ∧ er = 3 := by
  obtain ⟨x, rfl, hx⟩ := hasB_some h
  rcases a.2.2 with ⟨_, rfl, _⟩ | ⟨b, s, e, k1, k2, k3, hs, he⟩
  · omega
  · exact ⟨b, s, e, k1, k2, k3, hs, he⟩
theorem RS.ins (a : RS w p2 c n Q U er) {X : Int} (h : hasB n X = true) : ∃ r LL, p2 = some ⟨r, 0, none⟩ ∧ RL w r c n LL U ∧ LQ LL n Q ∧ er = 3 := by
  obtain ⟨x, rfl, hx⟩ := hasB_some h
  rcases a.2 with ⟨_, rfl, _⟩ | ⟨r, LL, e2, hr, hq, he⟩
  · omega
  · exact ⟨r, LL, e2, hr, hq, he⟩
theorem SS.chk (a : SS w p c0 c n Q U er) {X : Int} (hX : Fits X) (h : hasB n X = false) : Chk1 p X w er ∧ er ≠ 0 := by
  rcases a.2.2 with ⟨rfl, hn, rfl⟩ | ⟨b, s, rfl, _, _, _, hs, rfl⟩
  · exact ⟨chk1_no (Or.inl rfl), by omega⟩
  · exact ⟨chk1_out hs hX h, by omega⟩
theorem SS.chk2 (a : SS w p c0 c n Q U er) {X Y : Int} (hX : Fits X) (hY : Fits Y) (h : hasB n X = false ∨ hasB n Y = false) : Chk2 p X Y w er ∧ er ≠ 0 := by
  rcases a.2.2 with ⟨rfl, hn, rfl⟩ | ⟨b, s, rfl, _, _, _, hs, rfl⟩
  · exact ⟨chk2_no (Or.inl rfl), by omega⟩
  · exact ⟨chk2_out hs hX hY h, by omega⟩
theorem RS.chk (a : RS w p2 c n Q U er) {X : Int} (h : hasB n X = false) : RChk p2 X w er ∧ er ≠ 0 := by
  rcases a.2 with ⟨rfl, _, rfl⟩ | ⟨r, LL, rfl, hr, _, rfl⟩
  · exact ⟨rchk_nil X w, by omega⟩
  · exact ⟨rchk_out hr h, by omega⟩
theorem SS.turn {b s : Nat} (a : SS w p c0 c n Q U er) (e : p = some ⟨b, 0, none⟩) (k1 : c0 ≤ s) (k2 : b < c) (k3 : s < c) (he : er = 3) (h : SQ w' b s n Q' U') (hT : Turns (· = s) w w') :
    SS w' p c0 c n Q' U' er ∧ Turns (fun k => c0 ≤ k ∧ k < c) w w' :=
  ⟨⟨a.1, Nat.le_trans a.2.1 hT.size, Or.inr ⟨b, s, e, k1, k2, k3, h, he⟩⟩, hT.mono fun k _ e => ⟨by omega, by omega⟩⟩
theorem RS.turn {r : Nat} {LL : List (List Nat)} (a : RS w p2 c n Q U er) (e : p2 = some ⟨r, 0, none⟩) (he : er = 3) (h : RL w' r c n LL U') (hq : LQ LL n Q') (hs : w.heap.size ≤ w'.heap.size) : RS w' p2 c n Q' U' er :=
  ⟨Nat.le_trans a.1 hs, Or.inr ⟨r, LL, e, h, hq, he⟩⟩
/-- what a write of the program's does -/
def SW (w w' : World) (p : Option Addr) (c0 c n : Nat) (Q : Nat → List Nat) (U : Nat → Int) (er : Int) : Prop := SS w' p c0 c n Q U er ∧ Turns (fun k => c0 ≤ k ∧ k < c) w w'
def RW (w w' : World) (p : Option Addr) (c n : Nat) (Q : Nat → List Nat) (U : Nat → Int) (er : Int) : Prop := RS w' p c n Q U er ∧ Turns (fun k => c ≤ k) w w' ∧ K55 w w'
theorem SS.sw (a : SS w p c0 c n Q U er) (h : Below w.heap.size w w') : SW w w' p c0 c n Q U er := ⟨a.below h, Turns.of_below h _⟩
theorem RS.rw (a : RS w p2 c n Q U er) : RW w w p2 c n Q U er := ⟨a, Turns.refl _ _, fun _ _ hb => hb⟩
theorem s_set (a : SS w p c0 c n Q U er) (X V : Int) (hX : Fits X) (hV : Fits V) : Calls Try.prog 22 #[.pointer p, .int .i64 X, .int .i64 V] w fun e w' => e = .returned (.int .i64 (cOne n er X)) ∧ SW w w' p c0 c n Q (uSet n U X V) er := by
  unfold cOne uSet
  rcases bool_cases (hasB n X) with h | h
  · rw [if_pos h, if_pos h]
    obtain ⟨b, s, e, k1, k2, k3, hs, he⟩ := a.ins h
    obtain ⟨x, rfl, hx⟩ := hasB_some h
    rw [show ((x : Int)).toNat = x by omega]
    have x0 := set_ok b s n Q U x V w hs hx hV
    rw [← e] at x0
    exact x0.mono fun e' w' ⟨h1, h2, h3⟩ => ⟨h1, a.turn e k1 k2 k3 he h2 h3⟩
  · rw [if_neg (by rw [h]; simp), if_neg (by rw [h]; simp)]
    obtain ⟨h1, h3⟩ := a.chk hX h
    exact (set_bad p X V er w h3 h1).mono fun e' w' ⟨h1, h2⟩ => ⟨h1, a.sw h2⟩
theorem s_rev (a : SS w p c0 c n Q U er) (X : Int) (hX : Fits X) : Calls Try.prog 26 #[.pointer p, .int .i64 X] w fun e w' => e = .returned (.int .i64 (cOne n er X)) ∧ SW w w' p c0 c n (qRev n Q X) U er := by
  unfold cOne qRev
  rcases bool_cases (hasB n X) with h | h
  · rw [if_pos h, if_pos h]
    obtain ⟨b, s, e, k1, k2, k3, hs, he⟩ := a.ins h
    obtain ⟨x, rfl, hx⟩ := hasB_some h
    rw [show ((x : Int)).toNat = x by omega]
    have x0 := reverse_ok b s n Q U x w hs hx
    rw [← e] at x0
    exact x0.mono fun e' w' ⟨h1, h2, h3⟩ => ⟨h1, a.turn e k1 k2 k3 he h2 h3⟩
  · rw [if_neg (by rw [h]; simp), if_neg (by rw [h]; simp)]
    obtain ⟨h1, h3⟩ := a.chk hX h
    exact (reverse_bad p X er w h3 h1).mono fun e' w' ⟨h1, h2⟩ => ⟨h1, a.sw h2⟩
theorem s_split (a : SS w p c0 c n Q U er) (X : Int) (hX : Fits X) : Calls Try.prog 16 #[.pointer p, .int .i64 X] w fun e w' => e = .returned (.int .i64 (cOne n er X)) ∧ SW w w' p c0 c n (qSplit n Q X) U er := by
  unfold cOne qSplit
  rcases bool_cases (hasB n X) with h | h
  · rw [if_pos h, if_pos h]
    obtain ⟨b, s, e, k1, k2, k3, hs, he⟩ := a.ins h
    obtain ⟨x, rfl, hx⟩ := hasB_some h
    rw [show ((x : Int)).toNat = x by omega]
    have hnd := (hs.abs hx).2.1
    have x0 := split_ok b s n Q U x w hs hx
    rw [← e] at x0
    exact x0.mono fun e' w' ⟨k, hk, h1, h2, h3⟩ => ⟨h1, by
      have hk2 : posL (Q x) x = k := by have := pos_eq hnd hk; omega
      rw [hk2]
      exact a.turn e k1 k2 k3 he h2 h3⟩
  · rw [if_neg (by rw [h]; simp), if_neg (by rw [h]; simp)]
    obtain ⟨h1, h3⟩ := a.chk hX h
    exact (split_bad p X er w h3 h1).mono fun e' w' ⟨h1, h2⟩ => ⟨h1, a.sw h2⟩
theorem s_join (a : SS w p c0 c n Q U er) (X Y : Int) (hX : Fits X) (hY : Fits Y) : Calls Try.prog 20 #[.pointer p, .int .i64 X, .int .i64 Y] w fun e w' => e = .returned (.int .i64 (cJoin n Q er X Y)) ∧ SW w w' p c0 c n (qJoin n Q X Y) U er := by
  unfold cJoin qJoin
  by_cases h : hasB n X = true ∧ hasB n Y = true
  · rw [if_pos h]
    obtain ⟨b, s, e, k1, k2, k3, hs, he⟩ := a.ins h.1
    obtain ⟨h1, h2⟩ := h
    obtain ⟨x, rfl, hx⟩ := hasB_some h1
    obtain ⟨y, rfl, hy⟩ := hasB_some h2
    rw [show ((x : Int)).toNat = x by omega, show ((y : Int)).toNat = y by omega]
    by_cases hm : y ∈ Q x
    · rw [if_pos hm, if_neg (fun g => g.2.2 hm)]
      have x0 := join_have b s n Q U x y w hs hx hy hm
      rw [← e] at x0
      exact x0.mono fun e' w' ⟨h1, h2, h3⟩ => ⟨h1, a.turn e k1 k2 k3 he h2 h3⟩
    · rw [if_neg hm, if_pos ⟨h1, h2, hm⟩]
      have x0 := join_ok b s n Q U x y w hs hx hy hm
      rw [← e] at x0
      exact x0.mono fun e' w' ⟨h1, h2, h3⟩ => ⟨h1, a.turn e k1 k2 k3 he h2 h3⟩
  · rw [if_neg h, if_neg (fun g => h ⟨g.1, g.2.1⟩)]
    have hh : hasB n X = false ∨ hasB n Y = false := by
      rcases bool_cases (hasB n X) with g | g
      · rcases bool_cases (hasB n Y) with g2 | g2
        · exact absurd ⟨g, g2⟩ h
        · exact .inr g2
      · exact .inl g
    obtain ⟨h1, h3⟩ := a.chk2 hX hY hh
    exact (join_bad p X Y er w h3 h1).mono fun e' w' ⟨h1, h2⟩ => ⟨h1, a.sw h2⟩
theorem r_set (a : RS w p2 c n Q U er) (X V : Int) (hV : Fits V) : Calls Try.prog 36 #[.pointer p2, .int .i64 X, .int .i64 V] w fun e w' => e = .returned (.int .i64 (cOne n er X)) ∧ RW w w' p2 c n Q (uSet n U X V) er := by
  unfold cOne uSet
  rcases bool_cases (hasB n X) with h | h
  · rw [if_pos h, if_pos h]
    obtain ⟨r, LL, e, hr, hq, he⟩ := a.ins h
    obtain ⟨x, rfl, hx⟩ := hasB_some h
    rw [show ((x : Int)).toNat = x by omega]
    have x0 := rset_ok r c n LL U x V w hr hx hV
    rw [← e] at x0
    exact x0.mono fun e' w' ⟨h1, h2, h3, h4⟩ => ⟨h1, a.turn e he h2 hq h3.size, h3, h4⟩
  · rw [if_neg (by rw [h]; simp), if_neg (by rw [h]; simp)]
    obtain ⟨h1, h3⟩ := a.chk h
    exact (rset_bad p2 X V er h3 w h1).mono fun e' w' ⟨h1, h2⟩ => ⟨h1, by rw [← h2]; exact a.rw⟩
theorem r_rev (a : RS w p2 c n Q U er) (X : Int) : Calls Try.prog 35 #[.pointer p2, .int .i64 X] w fun e w' => e = .returned (.int .i64 (cOne n er X)) ∧ RW w w' p2 c n (qRev n Q X) U er := by
  unfold cOne qRev
  rcases bool_cases (hasB n X) with h | h
  · rw [if_pos h, if_pos h]
    obtain ⟨r, LL, e, hr, hq, he⟩ := a.ins h
    obtain ⟨x, rfl, hx⟩ := hasB_some h
    rw [show ((x : Int)).toNat = x by omega]
    have x0 := rreverse_ok r c n LL Q U x w hr hq hx
    rw [← e] at x0
    exact x0.mono fun e' w' ⟨LL', h1, hq', h2, h3, h4⟩ => ⟨h1, a.turn e he h2 hq' h3.size, h3, h4⟩
  · rw [if_neg (by rw [h]; simp), if_neg (by rw [h]; simp)]
    obtain ⟨h1, h3⟩ := a.chk h
    exact (rreverse_bad p2 X er h3 w h1).mono fun e' w' ⟨h1, h2⟩ => ⟨h1, by rw [← h2]; exact a.rw⟩
theorem r_split (a : RS w p2 c n Q U er) (X : Int) : Calls Try.prog 34 #[.pointer p2, .int .i64 X] w fun e w' => e = .returned (.int .i64 (cOne n er X)) ∧ RW w w' p2 c n (qSplit n Q X) U er := by
  unfold cOne qSplit
  rcases bool_cases (hasB n X) with h | h
  · rw [if_pos h, if_pos h]
    obtain ⟨r, LL, e, hr, hq, he⟩ := a.ins h
    obtain ⟨x, rfl, hx⟩ := hasB_some h
    rw [show ((x : Int)).toNat = x by omega]
    have hnd := (hq.abs x hx).2.1
    have x0 := rsplit_ok r c n LL Q U x w hr hq hx
    rw [← e] at x0
    exact x0.mono fun e' w' ⟨LL', k, hk, h1, hq', h2, h3, h4⟩ => ⟨h1, by
      have hk2 : posL (Q x) x = k := by have := pos_eq hnd hk; omega
      rw [hk2]
      exact ⟨a.turn e he h2 hq' h3.size, h3, h4⟩⟩
  · rw [if_neg (by rw [h]; simp), if_neg (by rw [h]; simp)]
    obtain ⟨h1, h3⟩ := a.chk h
    exact (rsplit_bad p2 X er h3 w h1).mono fun e' w' ⟨h1, h2⟩ => ⟨h1, by rw [← h2]; exact a.rw⟩
theorem r_join (a : RS w p2 c n Q U er) (X Y : Int) : Calls Try.prog 33 #[.pointer p2, .int .i64 X, .int .i64 Y] w fun e w' => e = .returned (.int .i64 (cJoin n Q er X Y)) ∧ RW w w' p2 c n (qJoin n Q X Y) U er := by
  unfold cJoin qJoin
  by_cases h : hasB n X = true ∧ hasB n Y = true
  · rw [if_pos h]
    obtain ⟨r, LL, e, hr, hq, he⟩ := a.ins h.1
    obtain ⟨h1, h2⟩ := h
    obtain ⟨x, rfl, hx⟩ := hasB_some h1
    obtain ⟨y, rfl, hy⟩ := hasB_some h2
    rw [show ((x : Int)).toNat = x by omega, show ((y : Int)).toNat = y by omega]
    by_cases hm : y ∈ Q x
    · rw [if_pos hm, if_neg (fun g => g.2.2 hm)]
      have x0 := rjoin_have r c n LL Q U x y w hr hq hx hy hm
      rw [← e] at x0
      exact x0.mono fun e' w' ⟨h1, h2⟩ => ⟨h1, by rw [← h2]; exact a.rw⟩
    · rw [if_neg hm, if_pos ⟨h1, h2, hm⟩]
      have x0 := rjoin_ok r c n LL Q U x y w hr hq hx hy hm
      rw [← e] at x0
      exact x0.mono fun e' w' ⟨LL', h1, hq', h2, h3, h4⟩ => ⟨h1, a.turn e he h2 hq' h3.size, h3, h4⟩
  · rw [if_neg h, if_neg (fun g => h ⟨g.1, g.2.1⟩)]
    rcases bool_cases (hasB n X) with g | g
    · have g2 : hasB n Y = false := by
        rcases bool_cases (hasB n Y) with g2 | g2
        · exact absurd ⟨g, g2⟩ h
        · exact g2
      obtain ⟨h1, h3⟩ := a.chk g2
      obtain ⟨r, LL, e, hr, hq, he⟩ := a.ins g
      obtain ⟨x, rfl, hx⟩ := hasB_some g
      have h0 := rchk_in hr hx
      rw [← e] at h0
      exact (rjoin_bad2 p2 x Y er h3 w h0 h1).mono fun e' w' ⟨h1, h2⟩ => ⟨h1, by rw [← h2]; exact a.rw⟩
    · obtain ⟨h1, h3⟩ := a.chk g
      exact (rjoin_bad p2 X Y er h3 w h1).mono fun e' w' ⟨h1, h2⟩ => ⟨h1, by rw [← h2]; exact a.rw⟩
theorem s_copy (a : SS w p c0 c n Q U er) : Calls Try.prog 27 #[.pointer p] w fun e w' => ∃ p', e = .returned (.pointer p') ∧ SS w' p' w.heap.size w'.heap.size n Q U er ∧ Below w.heap.size w w' := by
  rcases a.2.2 with ⟨rfl, hn, rfl⟩ | ⟨b, s, rfl, _, _, _, hs, rfl⟩
  · exact (copy_no none w (Or.inl rfl)).mono fun e' w' ⟨h1, h2⟩ => ⟨none, h1, by
      rw [← h2]
      exact ⟨⟨Nat.le_refl _, Nat.le_refl _, .inl ⟨rfl, hn, rfl⟩⟩, Below.refl _ _⟩⟩
  · exact (copy_ok b s n Q U w hs).mono fun e' w' ⟨b', s', h1, h2, h3, h4, h5⟩ => ⟨_, h1, ⟨h5.size, Nat.le_refl _, .inr ⟨b', s', rfl, h4, h2.lt.1, h2.lt.2.1, h2, rfl⟩⟩, h5⟩
theorem r_copy (a : RS w p2 c n Q U er) : Calls Try.prog 37 #[.pointer p2] w fun e w' => ∃ p', e = .returned (.pointer p') ∧ RS w' p' w.heap.size n Q U er ∧ Below w.heap.size w w' := by
  rcases a.2 with ⟨rfl, hn, rfl⟩ | ⟨r, LL, rfl, hr, hq, rfl⟩
  · exact (rcopy_nil w).mono fun e' w' ⟨h1, h2⟩ => ⟨none, h1, by
      rw [← h2]
      exact ⟨⟨Nat.le_refl _, .inl ⟨rfl, hn, rfl⟩⟩, Below.refl _ _⟩⟩
  · exact (rcopy_ok r c n LL Q U w hr hq).mono fun e' w' ⟨r', h1, h2, h3⟩ => ⟨_, h1, ⟨h3.size, .inr ⟨r', LL, rfl, h2, hq, rfl⟩⟩, h3⟩
end
end Go.Proofs.Ytgichkjomhnehaa
