/-
  Questions: Value, Len, Min, Pos, Same, At.
-/
import Derived.Test.YtgichkjomhnehaaW11
set_option linter.unusedVariables false
set_option linter.unusedSimpArgs false
namespace Go.Proofs.Ytgichkjomhnehaa
open Go.RowKit Go.Shelf

/-- x is no node there -/
def NoNode (p : Option Addr) (X : Int) (w : World) : Prop := Calls Try.prog 38 #[.pointer p, .int .i64 X] w fun e w' => e = .returned (.bool false) ∧ w = w'
theorem noNode_no {p : Option Addr} {X : Int} {w : World} (h : NoSeqs w p) : NoNode p X w := has_no p X w h
theorem noNode_out {b s n : Nat} {Q : Nat → List Nat} {U : Nat → Int} {X : Int} {w : World} (h : SQ w b s n Q U) (hX : hasB n X = false) : NoNode (some ⟨b, 0, none⟩) X w := by
  have := hasQ_ok b s n Q U X w h
  rw [hX] at this
  exact this
theorem hasB_nat {n x : Nat} (h : x < n) : hasB n (x : Int) = true := decide_eq_true (by omega)
section
variable (p : Option Addr) (X K : Int) (w : World) (h : NoNode p X w)
include h
theorem value_out : Calls Try.prog 29 #[.pointer p, .int .i64 X] w fun e w' => e = .returned (.int .i64 0) ∧ w = w' := by
  have x0 := h
  unfold NoNode at x0
  clear h
  go_enter Try.func29, Try.ntmps29
  go_wp2_with fail
  refine x0.mono ?_
  rintro e w' ⟨rfl, rfl⟩
  go_wp2_with fail
  go_ret
  exact ⟨rfl, rfl⟩
theorem len_out : Calls Try.prog 24 #[.pointer p, .int .i64 X] w fun e w' => e = .returned (.int .i64 0) ∧ w = w' := by
  have x0 := h
  unfold NoNode at x0
  clear h
  go_enter Try.func24, Try.ntmps24
  go_wp2_with fail
  refine x0.mono ?_
  rintro e w' ⟨rfl, rfl⟩
  go_wp2_with fail
  go_ret
  exact ⟨rfl, rfl⟩
theorem pos_out : Calls Try.prog 15 #[.pointer p, .int .i64 X] w fun e w' => e = .returned (.int .i64 0) ∧ w = w' := by
  have x0 := h
  unfold NoNode at x0
  clear h
  go_enter Try.func15, Try.ntmps15
  go_wp2_with fail
  refine x0.mono ?_
  rintro e w' ⟨rfl, rfl⟩
  go_wp2_with fail
  go_ret
  exact ⟨rfl, rfl⟩
theorem min_out : Calls Try.prog 28 #[.pointer p, .int .i64 X] w fun e w' => e = .returned (.tuple #[.int .i64 0, .bool false]) ∧ w = w' := by
  have x0 := h
  unfold NoNode at x0
  clear h
  go_enter Try.func28, Try.ntmps28
  go_wp2_with fail
  refine x0.mono ?_
  rintro e w' ⟨rfl, rfl⟩
  go_wp2_with fail
  go_ret2
  exact ⟨rfl, rfl⟩
theorem at_out : Calls Try.prog 25 #[.pointer p, .int .i64 X, .int .i64 K] w fun e w' => e = .returned (.tuple #[.int .i64 0, .bool false]) ∧ w = w' := by
  have x0 := h
  unfold NoNode at x0
  clear h
  go_enter Try.func25, Try.ntmps25
  go_wp2_with fail
  refine x0.mono ?_
  rintro e w' ⟨rfl, rfl⟩
  go_wp2_with fail
  go_ret2
  exact ⟨rfl, rfl⟩
theorem same_out : Calls Try.prog 19 #[.pointer p, .int .i64 X, .int .i64 K] w fun e w' => e = .returned (.bool false) ∧ w = w' := by
  have x0 := h
  unfold NoNode at x0
  clear h
  go_enter Try.func19, Try.ntmps19
  go_wp2_with fail
  refine x0.mono ?_
  rintro e w' ⟨rfl, rfl⟩
  go_wp2_with fail
  go_ret
  exact ⟨rfl, rfl⟩
theorem list_out : Calls Try.prog 14 #[.pointer p, .int .i64 X] w fun e w' => e = .returned (.slice none 0 0) ∧ w = w' := by
  have x0 := h
  unfold NoNode at x0
  clear h
  go_enter Try.func14, Try.ntmps14
  go_wp2_with fail
  refine x0.mono ?_
  rintro e w' ⟨rfl, rfl⟩
  go_wp2_with fail
  go_ret
  exact ⟨rfl, rfl⟩
end
set_option maxRecDepth 100000 in
theorem same_out2 (b s n : Nat) (Q : Nat → List Nat) (U : Nat → Int) (X K : Int) (w : World) (h : SQ w b s n Q U) (hX : hasB n X = true) (hK : hasB n K = false) :
    Calls Try.prog 19 #[.pointer (some ⟨b, 0, none⟩), .int .i64 X, .int .i64 K] w fun e w' => e = .returned (.bool false) ∧ w = w' := by
  have x0 := hasQ_ok b s n Q U X w h
  have x1 := hasQ_ok b s n Q U K w h
  rw [hX] at x0
  rw [hK] at x1
  clear hX hK
  go_enter Try.func19, Try.ntmps19
  go_wp2_with fail
  refine x0.mono ?_
  rintro e w' ⟨rfl, rfl⟩
  go_wp2_with fail
  refine x1.mono ?_
  rintro e w' ⟨rfl, rfl⟩
  go_wp2_with fail
  go_ret
  exact ⟨rfl, rfl⟩
set_option maxRecDepth 100000 in
theorem value_ok (b s n : Nat) (Q : Nat → List Nat) (U : Nat → Int) (x : Nat) (w : World) (h : SQ w b s n Q U) (hx : x < n) :
    Calls Try.prog 29 #[.pointer (some ⟨b, 0, none⟩), .int .i64 (x : Int)] w fun e w' => e = .returned (.int .i64 (U x)) ∧ w = w' := by
  have x0 := hasQ_ok b s n Q U (x : Int) w h
  rw [hasB_nat hx] at x0
  obtain ⟨h0, st, V, S, F, h1, h2, h3, h4, h5⟩ := h
  obtain ⟨t, G, hS, ht⟩ := h2.focus (x := x + 1) (by omega) (by omega)
  have hv := ((hS.1.rep t (by simp)).pos _ ht).2
  rw [h5 x hx] at hv
  have cv : w.cell? ⟨s, (x + 1) * 9 + 4, none⟩ = some (.int .i64 (st (x + 1)).v) := h1.2.cell (by omega) 4 (by decide)
  rw [hv] at cv
  obtain ⟨c, c1, c2, c3⟩ := h1.cell1
  have hxn : (x : Int) < (n : Int) := by omega
  clear h2 h3 h4 h5 hS ht hv h1
  go_enter Try.func29, Try.ntmps29
  go_wp2_with fail
  refine x0.mono ?_
  rintro e w' ⟨rfl, rfl⟩
  go_wp2_with fail
  go_ret
  exact ⟨rfl, rfl⟩
theorem map_len {x : Nat} {Q : Nat → List Nat} {l : List Nat} (h : (Q x).map (· + 1) = l) : (Q x).length = l.length := by rw [← h, List.length_map]
section
variable {w : World} {b s n x : Nat} {Q : Nat → List Nat} {U : Nat → Int} {st : Nat → Nd} {V : Nat → Int} {S : Nat → List Nat} {l r : T} {F : List T}
theorem Up.rep (h : Up w b s n Q U x st V S l r F) : Rep V st 0 (.node l (x + 1) false r) := h.2.2.1.1.rep _ (by simp)
theorem Up.zero (h : Up w b s n Q U x st V S l r F) : st 0 = Z0 := h.2.2.1.1.zero 0 (Or.inl rfl)
theorem Up.size (h : Up w b s n Q U x st V S l r F) : (st (x + 1)).size = (Q x).length := by
  rw [map_len h.seq, h.rep.1.2.2.2.2.2.2.size]
  have h1 := (T.seq_perm l).length_eq
  have h2 := (T.seq_perm r).length_eq
  simp [h1, h2]
theorem Up.len (h : Up w b s n Q U x st V S l r F) : (Q x).length ≤ n := by
  have hE := h.2.2.1.1.env h.2.2.2.1 h.1
  have := nodup_len n _ hE.2.nd hE.2.mem
  have h2 := (T.seq_perm (.node l (x + 1) false r)).length_eq
  rw [map_len h.seq]
  exact Nat.le_trans (Nat.le_of_eq h2) this
theorem Up.pos (h : Up w b s n Q U x st V S l r F) : (st l.root).size = l.seq.length := by
  rw [kid_size h.rep.2.1 (by rw [h.zero]; rfl), (T.seq_perm l).length_eq]
theorem Up.idx (h : Up w b s n Q U x st V S l r F) : (Q x)[l.seq.length]? = some x := by
  have e := h.seq
  have : ((Q x).map (· + 1))[l.seq.length]? = some (x + 1) := by rw [e, List.getElem?_append_right (Nat.le_refl _), Nat.sub_self]; rfl
  rw [List.getElem?_map] at this
  cases hq : (Q x)[l.seq.length]? with
  | none => rw [hq] at this; cases this
  | some y => rw [hq] at this; simpa using this
theorem Up.kid (h : Up w b s n Q U x st V S l r F) : (st (x + 1)).k0 = l.root ∧ l.root ≤ n ∧ (st (x + 1)).k1 = r.root ∧ r.root ≤ n := by
  have hk := h.2.2.1.1.kb (x + 1)
  rw [h.rep.1.2.2.1, h.rep.1.2.2.2.1] at hk
  exact ⟨h.rep.1.2.2.1, hk.1, h.rep.1.2.2.2.1, hk.2⟩
end
/-- where x is in its sequence -/
def IsPos (Q : Nat → List Nat) (x k : Nat) : Prop := (Q x)[k]? = some x
set_option maxRecDepth 100000 in
theorem len_ok (b s n : Nat) (Q : Nat → List Nat) (U : Nat → Int) (x : Nat) (w : World) (h : SQ w b s n Q U) (hx : x < n) :
    Calls Try.prog 24 #[.pointer (some ⟨b, 0, none⟩), .int .i64 (x : Int)] w fun e w' => e = .returned (.int .i64 ((Q x).length : Nat)) ∧ SQ w' b s n Q U ∧ Turns (· = s) w w' := by
  have x0 := hasQ_ok b s n Q U (x : Int) w h
  rw [hasB_nat hx] at x0
  have x1 := liftQ_ok b s n Q U x w h hx
  go_enter Try.func24, Try.ntmps24
  go_wp2_with fail
  refine x0.mono ?_
  rintro e w' ⟨rfl, rfl⟩
  go_wp2_with fail
  refine x1.mono ?_
  rintro e w1 ⟨rfl, ⟨st, V, S, l, r, F, hU⟩, hT⟩
  have c5 : w1.cell? ⟨s, (x + 1) * 9 + 5, none⟩ = some (.int .i64 ((st (x + 1)).size : Int)) := hU.2.1.2.cell (by omega) 5 (by decide)
  rw [hU.size] at c5
  have HU := Lib.hid hU
  clear hU x0 x1
  go_wp2_with fail
  go_ret
  exact ⟨rfl, HU.out.sq, hT⟩
/-- the node with the smallest value, and then the smallest number -/
def IsMin (U : Nat → Int) (l : List Nat) (m : Nat) : Prop := m ∈ l ∧ ∀ x ∈ l, U m < U x ∨ (U m = U x ∧ m ≤ x)
theorem Up.min {w : World} {b s n x : Nat} {Q : Nat → List Nat} {U : Nat → Int} {st : Nat → Nd} {V : Nat → Int} {S : Nat → List Nat} {l r : T} {F : List T} (h : Up w b s n Q U x st V S l r F) : ∃ m, (st (x + 1)).first = m + 1 ∧ IsMin U (Q x) m ∧ m < n := by
  have hm := h.rep.1.2.2.2.2.2.2.first
  have hp := T.seq_perm (.node l (x + 1) false r)
  have hm2 : Mn V ((Q x).map (· + 1)) (st (x + 1)).first := by rw [h.seq]; exact hm.perm hp.symm
  obtain ⟨m, hmQ, e⟩ := List.mem_map.1 hm2.1
  have hab := h.sq.abs h.at_
  have hmn := (hab.2.2 m hmQ).1
  refine ⟨m, e.symm, ⟨hmQ, fun y hy => ?_⟩, hmn⟩
  have hyn := (hab.2.2 y hy).1
  have := hm2.2 (y + 1) (List.mem_map.2 ⟨y, hy, rfl⟩)
  rw [← e] at this
  rcases this with k | k
  · right
    obtain rfl : y = m := by omega
    exact ⟨rfl, Nat.le_refl _⟩
  · unfold bef at k
    have k := of_decide_eq_true k
    rw [h.2.2.2.2.2 m hmn, h.2.2.2.2.2 y hyn] at k
    omega
set_option maxRecDepth 100000 in
theorem min_ok (b s n : Nat) (Q : Nat → List Nat) (U : Nat → Int) (x : Nat) (w : World) (h : SQ w b s n Q U) (hx : x < n) :
    Calls Try.prog 28 #[.pointer (some ⟨b, 0, none⟩), .int .i64 (x : Int)] w fun e w' => ∃ m : Nat, e = .returned (.tuple #[.int .i64 (m : Int), .bool true]) ∧ IsMin U (Q x) m ∧ SQ w' b s n Q U ∧ Turns (· = s) w w' := by
  have x0 := hasQ_ok b s n Q U (x : Int) w h
  have hn := h.1
  rw [hasB_nat hx] at x0
  have x1 := liftQ_ok b s n Q U x w h hx
  go_enter Try.func28, Try.ntmps28
  go_wp2_with fail
  refine x0.mono ?_
  rintro e w' ⟨rfl, rfl⟩
  go_wp2_with fail
  refine x1.mono ?_
  rintro e w1 ⟨rfl, ⟨st, V, S, l, r, F, hU⟩, hT⟩
  have c6 : w1.cell? ⟨s, (x + 1) * 9 + 6, none⟩ = some (.int .i64 ((st (x + 1)).first : Int)) := hU.2.1.2.cell (by omega) 6 (by decide)
  obtain ⟨m, hm, hM, hmn⟩ := hU.min
  rw [hm, show ((m + 1 : Nat) : Int) = (m : Int) + 1 by omega] at c6
  have HU := Lib.hid hU
  have HM := Lib.hid hM
  clear hU x0 x1 hm hM
  go_wp2_with fail
  go_ret2
  exact ⟨m, rfl, HM.out, HU.out.sq, hT⟩
end Go.Proofs.Ytgichkjomhnehaa
