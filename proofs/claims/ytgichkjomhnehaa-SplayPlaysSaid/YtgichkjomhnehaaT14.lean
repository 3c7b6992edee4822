/-
  Both sides, question by question.
-/
import Derived.Test.YtgichkjomhnehaaT13
set_option linter.unusedVariables false
set_option linter.unusedSectionVars false
set_option linter.unusedSimpArgs false
namespace Go.Proofs.Ytgichkjomhnehaa
open Go.RowKit Go.Shelf

/-- sequences of the program's, nil or made -/
def SS (w : World) (p : Option Addr) (c0 c n : Nat) (Q : Nat → List Nat) (U : Nat → Int) (er : Int) : Prop :=
  c0 ≤ c ∧ c ≤ w.heap.size ∧ ((p = none ∧ n = 0 ∧ er = 1) ∨ ∃ b s, p = some ⟨b, 0, none⟩ ∧ c0 ≤ s ∧ b < c ∧ s < c ∧ SQ w b s n Q U ∧ er = 3)
/-- sequences of the document's, nil or made -/
def RS (w : World) (p : Option Addr) (c n : Nat) (Q : Nat → List Nat) (U : Nat → Int) (er : Int) : Prop :=
  c ≤ w.heap.size ∧ ((p = none ∧ n = 0 ∧ er = 1) ∨ ∃ r LL, p = some ⟨r, 0, none⟩ ∧ RL w r c n LL U ∧ LQ LL n Q ∧ er = 3)
section
variable {w w' : World} {p : Option Addr} {c0 c n : Nat} {Q : Nat → List Nat} {U : Nat → Int} {er : Int}
theorem SS.below (h : SS w p c0 c n Q U er) (hb : Below w.heap.size w w') : SS w' p c0 c n Q U er := by
  obtain ⟨h1, h2, h3⟩ := h
  refine ⟨h1, Nat.le_trans h2 hb.size, h3.imp id ?_⟩
  rintro ⟨b, s, e, k1, k2, k3, k4, k5⟩
  exact ⟨b, s, e, k1, k2, k3, k4.below hb, k5⟩
theorem RS.turns {S : Nat → Prop} (h : RS w p c n Q U er) (hT : Turns S w w') (hs : ∀ k, S k → k < c) : RS w' p c n Q U er := by
  obtain ⟨h2, h3⟩ := h
  refine ⟨Nat.le_trans h2 hT.size, h3.imp id ?_⟩
  rintro ⟨r, LL, e, k1, k2, k3⟩
  exact ⟨r, LL, e, k1.turns hT hs, k2, k3⟩
theorem RS.below (h : RS w p c n Q U er) (hb : Below w.heap.size w w') : RS w' p c n Q U er := h.turns (Turns.of_below hb (fun _ => False)) (fun _ e => e.elim)
theorem SS.turns {S : Nat → Prop} (h : SS w p c0 c n Q U er) (hT : Turns S w w') (hs : ∀ k, S k → c ≤ k) : SS w' p c0 c n Q U er := by
  obtain ⟨h1, h2, h3⟩ := h
  refine ⟨h1, Nat.le_trans h2 hT.size, h3.imp id ?_⟩
  rintro ⟨b, s, e, k1, k2, k3, k4, k5⟩
  exact ⟨b, s, e, k1, k2, k3, k4.turns hT (fun e => by have := hs _ e; omega) (fun e => by have := hs _ e; omega), k5⟩
end
theorem hasB_some {n : Nat} {X : Int} (h : hasB n X = true) : ∃ x : Nat, X = x ∧ x < n := by
  have := of_decide_eq_true h
  exact ⟨X.toNat, by omega, by omega⟩
def qAt (n : Nat) (Q : Nat → List Nat) (X K : Int) : Int × Bool := if hasB n X = true ∧ 0 ≤ K ∧ K < ((Q X.toNat).length : Int) then (((Q X.toNat).getD K.toNat 0 : Nat), true) else (0, false)
open Classical in
noncomputable def minOf (U : Nat → Int) (l : List Nat) : Nat := if h : ∃ m, IsMin U l m then h.choose else 0
theorem minOf_eq {U : Nat → Int} {l : List Nat} {m : Nat} (h : IsMin U l m) : minOf U l = m := by
  have hx : ∃ m, IsMin U l m := ⟨m, h⟩
  unfold minOf
  rw [dif_pos hx]
  exact isMin_one hx.choose_spec h
noncomputable def qMin (n : Nat) (Q : Nat → List Nat) (U : Nat → Int) (X : Int) : Int × Bool := if hasB n X = true then ((minOf U (Q X.toNat) : Nat), true) else (0, false)
def qSum (n : Nat) (Q : Nat → List Nat) (U : Nat → Int) (er X : Int) : Int × Int := if hasB n X = true then (sumV (tot U (Q X.toNat)), sumE (tot U (Q X.toNat))) else (0, er)
def qSame (n : Nat) (Q : Nat → List Nat) (X Y : Int) : Bool := hasB n X && hasB n Y && sameB Q X.toNat Y.toNat
def qPos (n : Nat) (Q : Nat → List Nat) (X : Int) : Int := if hasB n X = true then (posL (Q X.toNat) X.toNat : Nat) else 0
def qLen (n : Nat) (Q : Nat → List Nat) (X : Int) : Int := if hasB n X = true then ((Q X.toNat).length : Nat) else 0
def qVal (n : Nat) (U : Nat → Int) (X : Int) : Int := if hasB n X = true then U X.toNat else 0
def qList (n : Nat) (Q : Nat → List Nat) (X : Int) : List Nat := if hasB n X = true then Q X.toNat else []
/-- the program's sequences and the document's, and the step's own box -/
structure AG (w0 w : World) (p p2 : Option Addr) (c0 c n : Nat) (Q : Nat → List Nat) (U : Nat → Int) (er : Int) (bx : Nat) (cs : Array Value) : Prop where
  s : SS w p c0 c n Q U er
  r : RS w p2 c n Q U er
  box : Blk w bx 55 cs
  hb : c ≤ bx
  T : Turns (fun k => c0 ≤ k ∧ k < c) w0 w
  hn : n ≤ 1000
section
variable {w0 w w' : World} {p p2 : Option Addr} {c0 c n : Nat} {Q : Nat → List Nat} {U : Nat → Int} {er : Int} {bx : Nat} {cs : Array Value}
theorem AG.below (a : AG w0 w p p2 c0 c n Q U er bx cs) (b : Below w.heap.size w w') : AG w0 w' p p2 c0 c n Q U er bx cs :=
  ⟨a.s.below b, a.r.below b, a.box.below b a.box.lt, a.hb, a.T.trans (Turns.of_below b _), a.hn⟩
theorem AG.drew (a : AG w0 w p p2 c0 c n Q U er bx cs) : AG w0 w.drew p p2 c0 c n Q U er bx cs := a.below (Below.refl _ _).drew
theorem AG.turn {b s : Nat} (a : AG w0 w p p2 c0 c n Q U er bx cs) (e : p = some ⟨b, 0, none⟩) (k1 : c0 ≤ s) (k2 : b < c) (k3 : s < c) (h : SQ w' b s n Q U) (hT : Turns (· = s) w w') (he : er = 3) : AG w0 w' p p2 c0 c n Q U er bx cs := by
  refine ⟨⟨a.s.1, Nat.le_trans a.s.2.1 hT.size, Or.inr ⟨b, s, e, k1, k2, k3, h, he⟩⟩, a.r.turns hT (fun k e => by omega), a.box.turns hT (fun e => ?_), a.hb, a.T.trans (hT.mono fun k _ e => ⟨by omega, by omega⟩), a.hn⟩
  have := a.hb
  omega
/-- out of the nodes -/
theorem AG.no (a : AG w0 w p p2 c0 c n Q U er bx cs) {X : Int} (h : hasB n X = false) : NoNode p X w ∧ RNo p2 X w := by
  constructor
  · rcases a.s.2.2 with ⟨rfl, _⟩ | ⟨b, s, rfl, _, _, _, hs, _⟩
    · exact noNode_no (Or.inl rfl)
    · exact noNode_out hs h
  · rcases a.r.2 with ⟨rfl, _⟩ | ⟨r, LL, rfl, hr, _⟩
    · exact rnode_nil X w
    · exact rno_out hr h
theorem AG.ins (a : AG w0 w p p2 c0 c n Q U er bx cs) {X : Int} (h : hasB n X = true) : ∃ b s r LL, p = some ⟨b, 0, none⟩ ∧ p2 = some ⟨r, 0, none⟩ ∧ c0 ≤ s ∧ b < c ∧ s < c ∧ SQ w b s n Q U ∧ RL w r c n LL U ∧ LQ LL n Q ∧ er = 3 := by
  obtain ⟨x, rfl, hx⟩ := hasB_some h
  rcases a.s.2.2 with ⟨_, rfl, _⟩ | ⟨b, s, e, k1, k2, k3, hs, he⟩
  · omega
  · rcases a.r.2 with ⟨_, rfl, _⟩ | ⟨r, LL, e2, hr, hq, _⟩
    · omega
    · exact ⟨b, s, r, LL, e, e2, k1, k2, k3, hs, hr, hq, he⟩
theorem bool_cases (b : Bool) : b = true ∨ b = false := by cases b <;> simp
theorem pos_eq {x k : Nat} (h : (Q x).Nodup) (hk : IsPos Q x k) : (posL (Q x) x : Nat) = k := posL_eq h hk
theorem ag_at (a : AG w0 w p p2 c0 c n Q U er bx cs) (X K : Int) : Calls Try.prog 25 #[.pointer p, .int .i64 X, .int .i64 K] w fun e w' => e = .returned (.tuple #[.int .i64 (qAt n Q X K).1, .bool (qAt n Q X K).2]) ∧ AG w0 w' p p2 c0 c n Q U er bx cs := by
  rcases bool_cases (hasB n X) with h | h
  · obtain ⟨b, s, r, LL, e, e2, k1, k2, k3, hs, hr, hq, he⟩ := a.ins h
    obtain ⟨x, rfl, hx⟩ := hasB_some h
    have ht : ((x : Int)).toNat = x := by omega
    by_cases hK : 0 ≤ K ∧ K < ((Q x).length : Int)
    · obtain ⟨k, rfl⟩ : ∃ k : Nat, K = k := ⟨K.toNat, by omega⟩
      have hk : k < (Q x).length := by omega
      have hq : qAt n Q x k = ((((Q x)[k] : Nat) : Int), true) := by
        unfold qAt
        rw [ht, if_pos ⟨h, hK⟩, List.getD_eq_getElem?_getD, show ((k : Int)).toNat = k by omega, List.getElem?_eq_getElem hk]
        rfl
      rw [hq, e]
      exact (at_in b s n Q U x k _ w hs hx (List.getElem?_eq_getElem hk)).mono fun e' w' ⟨h1, h2, h3⟩ => ⟨h1, by have z := a.turn e k1 k2 k3 h2 h3 he; rw [e] at z; exact z⟩
    · have hq : qAt n Q x K = (0, false) := by
        unfold qAt
        rw [ht, if_neg (fun hh => hK hh.2)]
      rw [hq, e]
      exact (at_off b s n Q U x K w hs hx (by omega)).mono fun e' w' ⟨h1, h2, h3⟩ => ⟨h1, by have z := a.turn e k1 k2 k3 h2 h3 he; rw [e] at z; exact z⟩
  · have hq : qAt n Q X K = (0, false) := by
      unfold qAt
      rw [if_neg (fun hh => by rw [h] at hh; exact absurd hh.1 (by simp))]
    rw [hq]
    exact (at_out p X K w (a.no h).1).mono fun e' w' ⟨h1, h2⟩ => ⟨h1, by rw [← h2]; exact a⟩
theorem ag_rat (a : AG w0 w p p2 c0 c n Q U er bx cs) (X K : Int) : Calls Try.prog 47 #[.pointer p2, .int .i64 X, .int .i64 K] w fun e w' => e = .returned (.tuple #[.int .i64 (qAt n Q X K).1, .bool (qAt n Q X K).2]) ∧ AG w0 w' p p2 c0 c n Q U er bx cs := by
  rcases bool_cases (hasB n X) with h | h
  · obtain ⟨b, s, r, LL, e, e2, k1, k2, k3, hs, hr, hq, he⟩ := a.ins h
    obtain ⟨x, rfl, hx⟩ := hasB_some h
    have ht : ((x : Int)).toNat = x := by omega
    by_cases hK : 0 ≤ K ∧ K < ((Q x).length : Int)
    · obtain ⟨k, rfl⟩ : ∃ k : Nat, K = k := ⟨K.toNat, by omega⟩
      have hk : k < (Q x).length := by omega
      have hqq : qAt n Q x k = ((((Q x)[k] : Nat) : Int), true) := by
        unfold qAt
        rw [ht, if_pos ⟨h, hK⟩, List.getD_eq_getElem?_getD, show ((k : Int)).toNat = k by omega, List.getElem?_eq_getElem hk]
        rfl
      rw [hqq, e2]
      exact (rat_in r c n LL Q U x w hr hq hx k _ (List.getElem?_eq_getElem hk)).mono fun e' w' ⟨h1, h2⟩ => ⟨h1, by rw [← e2]; exact a.below h2⟩
    · have hqq : qAt n Q x K = (0, false) := by
        unfold qAt
        rw [ht, if_neg (fun hh => hK hh.2)]
      rw [hqq, e2]
      exact (rat_off r c n LL Q U x w hr hq hx K (by omega)).mono fun e' w' ⟨h1, h2⟩ => ⟨h1, by rw [← e2]; exact a.below h2⟩
  · have hq : qAt n Q X K = (0, false) := by
      unfold qAt
      rw [if_neg (fun hh => by rw [h] at hh; exact absurd hh.1 (by simp))]
    rw [hq]
    exact (rat_out p2 X K w (a.no h).2).mono fun e' w' ⟨h1, h2⟩ => ⟨h1, by rw [← h2]; exact a⟩
theorem ag_min (a : AG w0 w p p2 c0 c n Q U er bx cs) (X : Int) : Calls Try.prog 28 #[.pointer p, .int .i64 X] w fun e w' => e = .returned (.tuple #[.int .i64 (qMin n Q U X).1, .bool (qMin n Q U X).2]) ∧ AG w0 w' p p2 c0 c n Q U er bx cs := by
  unfold qMin
  rcases bool_cases (hasB n X) with h | h
  · obtain ⟨b, s, r, LL, e, e2, k1, k2, k3, hs, hr, hq, he⟩ := a.ins h
    obtain ⟨x, rfl, hx⟩ := hasB_some h
    rw [if_pos h, e]
    exact (min_ok b s n Q U x w hs hx).mono fun e' w' ⟨m, h1, hm, h2, h3⟩ => ⟨by rw [h1, ← minOf_eq hm]; rfl, by have z := a.turn e k1 k2 k3 h2 h3 he; rw [e] at z; exact z⟩
  · rw [if_neg (by rw [h]; simp)]
    exact (min_out p X w (a.no h).1).mono fun e' w' ⟨h1, h2⟩ => ⟨h1, by rw [← h2]; exact a⟩
theorem ag_rmin (a : AG w0 w p p2 c0 c n Q U er bx cs) (X : Int) : Calls Try.prog 48 #[.pointer p2, .int .i64 X] w fun e w' => e = .returned (.tuple #[.int .i64 (qMin n Q U X).1, .bool (qMin n Q U X).2]) ∧ AG w0 w' p p2 c0 c n Q U er bx cs := by
  unfold qMin
  rcases bool_cases (hasB n X) with h | h
  · obtain ⟨b, s, r, LL, e, e2, k1, k2, k3, hs, hr, hq, he⟩ := a.ins h
    obtain ⟨x, rfl, hx⟩ := hasB_some h
    rw [if_pos h, e2]
    exact (rmin_ok r c n LL Q U x w hr hq hx).mono fun e' w' ⟨m, h1, hm, h2⟩ => ⟨by rw [h1, ← minOf_eq hm]; rfl, by rw [← e2]; exact a.below h2⟩
  · rw [if_neg (by rw [h]; simp)]
    exact (rmin_out p2 X w (a.no h).2).mono fun e' w' ⟨h1, h2⟩ => ⟨h1, by rw [← h2]; exact a⟩
theorem AG.chk (a : AG w0 w p p2 c0 c n Q U er bx cs) {X : Int} (hX : Fits X) (h : hasB n X = false) : Chk1 p X w er ∧ RChk p2 X w er ∧ er ≠ 0 := by
  rcases a.s.2.2 with ⟨rfl, hn, rfl⟩ | ⟨b, s, rfl, _, _, _, hs, rfl⟩
  · rcases a.r.2 with ⟨rfl, _, _⟩ | ⟨r, LL, rfl, hr, _, e⟩
    · exact ⟨chk1_no (Or.inl rfl), rchk_nil X w, by omega⟩
    · omega
  · rcases a.r.2 with ⟨rfl, _, e⟩ | ⟨r, LL, rfl, hr, _, e⟩
    · omega
    · exact ⟨chk1_out hs hX h, rchk_out hr h, by omega⟩
theorem ag_sum (a : AG w0 w p p2 c0 c n Q U er bx cs) (X : Int) (hX : Fits X) : Calls Try.prog 23 #[.pointer p, .int .i64 X] w fun e w' => e = .returned (.tuple #[.int .i64 (qSum n Q U er X).1, .int .i64 (qSum n Q U er X).2]) ∧ AG w0 w' p p2 c0 c n Q U er bx cs := by
  unfold qSum
  rcases bool_cases (hasB n X) with h | h
  · obtain ⟨b, s, r, LL, e, e2, k1, k2, k3, hs, hr, hq, he⟩ := a.ins h
    obtain ⟨x, rfl, hx⟩ := hasB_some h
    rw [if_pos h, e]
    exact (sum_ok b s n Q U x w hs hx).mono fun e' w' ⟨h1, h2, h3⟩ => ⟨h1, by have z := a.turn e k1 k2 k3 h2 h3 he; rw [e] at z; exact z⟩
  · rw [if_neg (by rw [h]; simp)]
    obtain ⟨h1, h2, h3⟩ := a.chk hX h
    exact (sum_bad p X er w h3 h1).mono fun e' w' ⟨h1, h2⟩ => ⟨h1, a.below h2⟩
theorem ag_rsum (a : AG w0 w p p2 c0 c n Q U er bx cs) (X : Int) (hX : Fits X) : Calls Try.prog 49 #[.pointer p2, .int .i64 X] w fun e w' => e = .returned (.tuple #[.int .i64 (qSum n Q U er X).1, .int .i64 (qSum n Q U er X).2]) ∧ AG w0 w' p p2 c0 c n Q U er bx cs := by
  unfold qSum
  rcases bool_cases (hasB n X) with h | h
  · obtain ⟨b, s, r, LL, e, e2, k1, k2, k3, hs, hr, hq, he⟩ := a.ins h
    obtain ⟨x, rfl, hx⟩ := hasB_some h
    rw [if_pos h, e2]
    exact (rsum_ok r c n LL Q U x w hr hq hx).mono fun e' w' ⟨h1, h2⟩ => ⟨h1, by rw [← e2]; exact a.below h2⟩
  · rw [if_neg (by rw [h]; simp)]
    obtain ⟨h1, h2, h3⟩ := a.chk hX h
    exact (rsum_bad p2 X er h3 w h2).mono fun e' w' ⟨h1, h2⟩ => ⟨h1, by rw [← h2]; exact a⟩
theorem ag_pos (a : AG w0 w p p2 c0 c n Q U er bx cs) (X : Int) : Calls Try.prog 15 #[.pointer p, .int .i64 X] w fun e w' => e = .returned (.int .i64 (qPos n Q X)) ∧ AG w0 w' p p2 c0 c n Q U er bx cs := by
  unfold qPos
  rcases bool_cases (hasB n X) with h | h
  · obtain ⟨b, s, r, LL, e, e2, k1, k2, k3, hs, hr, hq, he⟩ := a.ins h
    obtain ⟨x, rfl, hx⟩ := hasB_some h
    rw [if_pos h, e]
    exact (pos_ok b s n Q U x w hs hx).mono fun e' w' ⟨k, h1, hk, h2, h3⟩ => ⟨by rw [h1, show ((x : Int)).toNat = x by omega, pos_eq (hs.abs hx).2.1 hk], by have z := a.turn e k1 k2 k3 h2 h3 he; rw [e] at z; exact z⟩
  · rw [if_neg (by rw [h]; simp)]
    exact (pos_out p X w (a.no h).1).mono fun e' w' ⟨h1, h2⟩ => ⟨h1, by rw [← h2]; exact a⟩
theorem ag_rpos (a : AG w0 w p p2 c0 c n Q U er bx cs) (X : Int) : Calls Try.prog 51 #[.pointer p2, .int .i64 X] w fun e w' => e = .returned (.int .i64 (qPos n Q X)) ∧ AG w0 w' p p2 c0 c n Q U er bx cs := by
  unfold qPos
  rcases bool_cases (hasB n X) with h | h
  · obtain ⟨b, s, r, LL, e, e2, k1, k2, k3, hs, hr, hq, he⟩ := a.ins h
    obtain ⟨x, rfl, hx⟩ := hasB_some h
    rw [if_pos h, e2]
    exact (rpos_ok r c n LL Q U x w hr hq hx).mono fun e' w' ⟨k, h1, hk, h2⟩ => ⟨by rw [h1, show ((x : Int)).toNat = x by omega, pos_eq (hs.abs hx).2.1 hk], by rw [← e2, ← h2]; exact a⟩
  · rw [if_neg (by rw [h]; simp)]
    exact (rpos_out p2 X w (a.no h).2).mono fun e' w' ⟨h1, h2⟩ => ⟨h1, by rw [← h2]; exact a⟩
theorem ag_len (a : AG w0 w p p2 c0 c n Q U er bx cs) (X : Int) : Calls Try.prog 24 #[.pointer p, .int .i64 X] w fun e w' => e = .returned (.int .i64 (qLen n Q X)) ∧ AG w0 w' p p2 c0 c n Q U er bx cs := by
  unfold qLen
  rcases bool_cases (hasB n X) with h | h
  · obtain ⟨b, s, r, LL, e, e2, k1, k2, k3, hs, hr, hq, he⟩ := a.ins h
    obtain ⟨x, rfl, hx⟩ := hasB_some h
    rw [if_pos h, e]
    exact (len_ok b s n Q U x w hs hx).mono fun e' w' ⟨h1, h2, h3⟩ => ⟨h1, by have z := a.turn e k1 k2 k3 h2 h3 he; rw [e] at z; exact z⟩
  · rw [if_neg (by rw [h]; simp)]
    exact (len_out p X w (a.no h).1).mono fun e' w' ⟨h1, h2⟩ => ⟨h1, by rw [← h2]; exact a⟩
theorem ag_rlen (a : AG w0 w p p2 c0 c n Q U er bx cs) (X : Int) : Calls Try.prog 52 #[.pointer p2, .int .i64 X] w fun e w' => e = .returned (.int .i64 (qLen n Q X)) ∧ AG w0 w' p p2 c0 c n Q U er bx cs := by
  unfold qLen
  rcases bool_cases (hasB n X) with h | h
  · obtain ⟨b, s, r, LL, e, e2, k1, k2, k3, hs, hr, hq, he⟩ := a.ins h
    obtain ⟨x, rfl, hx⟩ := hasB_some h
    rw [if_pos h, e2]
    exact (rlen_ok r c n LL Q U x w hr hq hx).mono fun e' w' ⟨h1, h2⟩ => ⟨h1, by rw [← e2]; exact a.below h2⟩
  · rw [if_neg (by rw [h]; simp)]
    exact (rlen_out p2 X w (a.no h).2).mono fun e' w' ⟨h1, h2⟩ => ⟨h1, by rw [← h2]; exact a⟩
theorem ag_val (a : AG w0 w p p2 c0 c n Q U er bx cs) (X : Int) : Calls Try.prog 29 #[.pointer p, .int .i64 X] w fun e w' => e = .returned (.int .i64 (qVal n U X)) ∧ AG w0 w' p p2 c0 c n Q U er bx cs := by
  unfold qVal
  rcases bool_cases (hasB n X) with h | h
  · obtain ⟨b, s, r, LL, e, e2, k1, k2, k3, hs, hr, hq, he⟩ := a.ins h
    obtain ⟨x, rfl, hx⟩ := hasB_some h
    rw [if_pos h, e]
    exact (value_ok b s n Q U x w hs hx).mono fun e' w' ⟨h1, h2⟩ => ⟨h1, by rw [← e, ← h2]; exact a⟩
  · rw [if_neg (by rw [h]; simp)]
    exact (value_out p X w (a.no h).1).mono fun e' w' ⟨h1, h2⟩ => ⟨h1, by rw [← h2]; exact a⟩
theorem ag_rval (a : AG w0 w p p2 c0 c n Q U er bx cs) (X : Int) : Calls Try.prog 53 #[.pointer p2, .int .i64 X] w fun e w' => e = .returned (.int .i64 (qVal n U X)) ∧ AG w0 w' p p2 c0 c n Q U er bx cs := by
  unfold qVal
  rcases bool_cases (hasB n X) with h | h
  · obtain ⟨b, s, r, LL, e, e2, k1, k2, k3, hs, hr, hq, he⟩ := a.ins h
    obtain ⟨x, rfl, hx⟩ := hasB_some h
    rw [if_pos h, e2]
    exact (rvalue_ok r c n LL Q U x w hr hq hx).mono fun e' w' ⟨h1, h2⟩ => ⟨h1, by rw [← e2, ← h2]; exact a⟩
  · rw [if_neg (by rw [h]; simp)]
    exact (rvalue_out p2 X w (a.no h).2).mono fun e' w' ⟨h1, h2⟩ => ⟨h1, by rw [← h2]; exact a⟩
theorem ag_same (a : AG w0 w p p2 c0 c n Q U er bx cs) (X Y : Int) : Calls Try.prog 19 #[.pointer p, .int .i64 X, .int .i64 Y] w fun e w' => e = .returned (.bool (qSame n Q X Y)) ∧ AG w0 w' p p2 c0 c n Q U er bx cs := by
  unfold qSame
  rcases bool_cases (hasB n X) with h | h
  · obtain ⟨b, s, r, LL, e, e2, k1, k2, k3, hs, hr, hq, he⟩ := a.ins h
    rcases bool_cases (hasB n Y) with h' | h'
    · obtain ⟨x, rfl, hx⟩ := hasB_some h
      obtain ⟨y, rfl, hy⟩ := hasB_some h'
      rw [h, h', e]
      exact (same_ok b s n Q U x y w hs hx hy).mono fun e' w' ⟨h1, h2, h3⟩ => ⟨h1, by have z := a.turn e k1 k2 k3 h2 h3 he; rw [e] at z; exact z⟩
    · rw [h, h', e]
      exact (same_out2 b s n Q U X Y w hs h h').mono fun e' w' ⟨h1, h2⟩ => ⟨h1, by rw [← e, ← h2]; exact a⟩
  · rw [h]
    exact (same_out p X Y w (a.no h).1).mono fun e' w' ⟨h1, h2⟩ => ⟨h1, by rw [← h2]; exact a⟩
theorem ag_rsame (a : AG w0 w p p2 c0 c n Q U er bx cs) (X Y : Int) : Calls Try.prog 50 #[.pointer p2, .int .i64 X, .int .i64 Y] w fun e w' => e = .returned (.bool (qSame n Q X Y)) ∧ AG w0 w' p p2 c0 c n Q U er bx cs := by
  unfold qSame
  rcases bool_cases (hasB n X) with h | h
  · obtain ⟨b, s, r, LL, e, e2, k1, k2, k3, hs, hr, hq, he⟩ := a.ins h
    obtain ⟨x, rfl, hx⟩ := hasB_some h
    rcases bool_cases (hasB n Y) with h' | h'
    · obtain ⟨y, rfl, hy⟩ := hasB_some h'
      rw [h, h', e2]
      exact (rsame_ok r c n LL Q U x w hr hq hx y hy).mono fun e' w' ⟨h1, h2⟩ => ⟨h1, by rw [← e2, ← h2]; exact a⟩
    · rw [h, h', e2]
      exact (rsame_out2 r c n LL Q U x w hr hq hx Y h').mono fun e' w' ⟨h1, h2⟩ => ⟨h1, by rw [← e2, ← h2]; exact a⟩
  · rw [h]
    exact (rsame_out p2 X Y w (a.no h).2).mono fun e' w' ⟨h1, h2⟩ => ⟨h1, by rw [← h2]; exact a⟩
theorem ag_list (a : AG w0 w p p2 c0 c n Q U er bx cs) (X : Int) : Calls Try.prog 14 #[.pointer p, .int .i64 X] w fun e w' => ∃ v, e = .returned v ∧ RowL w' w.heap.size v (qList n Q X) ∧ AG w0 w' p p2 c0 c n Q U er bx cs := by
  unfold qList
  rcases bool_cases (hasB n X) with h | h
  · obtain ⟨b, s, r, LL, e, e2, k1, k2, k3, hs, hr, hq, he⟩ := a.ins h
    obtain ⟨x, rfl, hx⟩ := hasB_some h
    rw [if_pos h, e]
    exact (list_ok b s n Q U x w hs hx).mono fun e' w' ⟨v, h1, h4, h2, h3⟩ => ⟨v, h1, h4, by have z := a.turn e k1 k2 k3 h2 h3 he; rw [e] at z; exact z⟩
  · rw [if_neg (by rw [h]; simp)]
    exact (list_out p X w (a.no h).1).mono fun e' w' ⟨h1, h2⟩ => ⟨_, h1, RowL.nil _ _, by rw [← h2]; exact a⟩
theorem ag_rlist (a : AG w0 w p p2 c0 c n Q U er bx cs) (X : Int) : Calls Try.prog 54 #[.pointer p2, .int .i64 X] w fun e w' => ∃ v, e = .returned v ∧ RowL w' w.heap.size v (qList n Q X) ∧ Below w.heap.size w w' ∧ AG w0 w' p p2 c0 c n Q U er bx cs := by
  unfold qList
  rcases bool_cases (hasB n X) with h | h
  · obtain ⟨b, s, r, LL, e, e2, k1, k2, k3, hs, hr, hq, he⟩ := a.ins h
    obtain ⟨x, rfl, hx⟩ := hasB_some h
    rw [if_pos h, e2]
    exact (rlist_ok r c n LL Q U x w hr hq hx).mono fun e' w' ⟨v, h1, h4, h2⟩ => ⟨v, h1, h4, h2, by rw [← e2]; exact a.below h2⟩
  · rw [if_neg (by rw [h]; simp)]
    exact (rlist_out p2 X w (a.no h).2).mono fun e' w' ⟨h1, h2⟩ => ⟨_, h1, RowL.nil _ _, by rw [← h2]; exact Below.refl _ _, by rw [← h2]; exact a⟩
theorem AG.small (a : AG w0 w p p2 c0 c n Q U er bx cs) (X : Int) : (qList n Q X).length ≤ 100000 ∧ ∀ y ∈ qList n Q X, y ≤ 1000000 := by
  unfold qList
  have hn := a.hn
  rcases bool_cases (hasB n X) with h | h
  · obtain ⟨b, s, r, LL, e, e2, k1, k2, k3, hs, hr, hq, he⟩ := a.ins h
    obtain ⟨x, rfl, hx⟩ := hasB_some h
    rw [if_pos h]
    have := hs.len hx
    rw [show ((x : Int)).toNat = x by omega]
    exact ⟨by omega, this.2⟩
  · rw [if_neg (by rw [h]; simp)]
    exact ⟨by simp, fun y hy => by cases hy⟩
end
end Go.Proofs.Ytgichkjomhnehaa
