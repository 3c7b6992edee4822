/-
  The document's sequences: List, Value, Len, Pos, Same, At.
-/
import Derived.Test.YtgichkjomhnehaaT3
set_option linter.unusedVariables false
set_option linter.unusedSectionVars false
set_option linter.unusedSimpArgs false
namespace Go.Proofs.Ytgichkjomhnehaa
open Go.RowKit Go.Shelf

theorem RowL.argN {w : World} {B : Nat} {v : Value} {l : List Nat} (h : RowL w B v l) (hl : ∀ x ∈ l, x ≤ 1000000) : ∃ A c, v = .slice A l.length c ∧ ArgI .i64 w A l.length c (fun i => ((l.getD i 0 : Nat) : Int)) ∧ (A = none → l.length = 0 ∧ c = 0) := by
  unfold RowL at h
  rw [nums_vals] at h
  obtain ⟨A, c, hv, ha, h2, _⟩ := own_arg h (fun j hj => by
    rw [List.getD_eq_getElem?_getD, List.getElem?_eq_getElem hj]
    have := hl _ (List.getElem_mem hj)
    show Fits ((l[j] : Nat) : Int)
    exact ⟨by omega, by omega⟩)
  exact ⟨A, c, hv, ha, h2⟩
/-- one row behind another -/
theorem rowL_cat {w : World} {B : Nat} {v : Value} (l m : List Nat) (h : w.ownsRow B 3 1 v (l.length + m.length) (vals (cat (fun i => ((l.getD i 0 : Nat) : Int)) l.length (fun i => ((m.getD i 0 : Nat) : Int))) (l.length + m.length))) : RowL w B v (l ++ m) := by
  unfold RowL
  rw [nums_vals, List.length_append]
  rw [vals_ext (y := cat (fun i => ((l.getD i 0 : Nat) : Int)) l.length (fun i => ((m.getD i 0 : Nat) : Int)))]
  · exact h
  · intro j hj
    unfold cat
    split
    · rename_i h1
      show (((l ++ m).getD j 0 : Nat) : Int) = _
      rw [List.getD_eq_getElem?_getD, List.getElem?_append_left h1, ← List.getD_eq_getElem?_getD]
    · rename_i h1
      show (((l ++ m).getD j 0 : Nat) : Int) = _
      rw [List.getD_eq_getElem?_getD, List.getElem?_append_right (by omega), ← List.getD_eq_getElem?_getD]
theorem empty_row (w : World) : (w.alloc (.cells #[] 3)).ownsRow w.heap.size 3 1 (.slice (some ⟨w.heap.size, 0, none⟩) 0 0) 0 (vals (fun i => (([].getD i 0 : Nat) : Int)) 0) :=
  ⟨rfl, .inr ⟨w.heap.size, 0, #[], rfl, Nat.le_refl _, Blk.new w 3 #[], Nat.le_refl _, by simp [maxLen], rfl, rfl⟩⟩
/-- x is no node there -/
def RNo (p : Option Addr) (X : Int) (w : World) : Prop := Calls Try.prog 62 #[.pointer p, .int .i64 X] w fun e w' => e = .returned (.bool false) ∧ w = w'
section
variable (p : Option Addr) (X K : Int) (w : World) (h : RNo p X w)
include h
theorem rlist_out : Calls Try.prog 54 #[.pointer p, .int .i64 X] w fun e w' => e = .returned (.slice none 0 0) ∧ w = w' := by
  have x0 := h
  unfold RNo at x0
  clear h
  go_enter Try.func54, Try.ntmps54
  go_wp2_with fail
  refine x0.mono ?_
  rintro e w' ⟨rfl, rfl⟩
  go_wp2_with fail
  go_ret
  exact ⟨rfl, rfl⟩
theorem rvalue_out : Calls Try.prog 53 #[.pointer p, .int .i64 X] w fun e w' => e = .returned (.int .i64 0) ∧ w = w' := by
  have x0 := h
  unfold RNo at x0
  clear h
  go_enter Try.func53, Try.ntmps53
  go_wp2_with fail
  refine x0.mono ?_
  rintro e w' ⟨rfl, rfl⟩
  go_wp2_with fail
  go_ret
  exact ⟨rfl, rfl⟩
theorem rpos_out : Calls Try.prog 51 #[.pointer p, .int .i64 X] w fun e w' => e = .returned (.int .i64 0) ∧ w = w' := by
  have x0 := h
  unfold RNo at x0
  clear h
  go_enter Try.func51, Try.ntmps51
  go_wp2_with fail
  refine x0.mono ?_
  rintro e w' ⟨rfl, rfl⟩
  go_wp2_with fail
  go_ret
  exact ⟨rfl, rfl⟩
theorem rsame_out : Calls Try.prog 50 #[.pointer p, .int .i64 X, .int .i64 K] w fun e w' => e = .returned (.bool false) ∧ w = w' := by
  have x0 := h
  unfold RNo at x0
  clear h
  go_enter Try.func50, Try.ntmps50
  go_wp2_with fail
  refine x0.mono ?_
  rintro e w' ⟨rfl, rfl⟩
  go_wp2_with fail
  go_ret
  exact ⟨rfl, rfl⟩
end
theorem rlen_out (p : Option Addr) (X : Int) (w : World) (h : RNo p X w) : Calls Try.prog 52 #[.pointer p, .int .i64 X] w fun e w' => e = .returned (.int .i64 0) ∧ w = w' := by
  have x0 := rlist_out p X w h
  clear h
  go_enter Try.func52, Try.ntmps52
  go_wp2_with fail
  refine x0.mono ?_
  rintro e w' ⟨rfl, rfl⟩
  go_wp2_with fail
  go_ret
  exact ⟨rfl, rfl⟩
theorem rat_out (p : Option Addr) (X K : Int) (w : World) (h : RNo p X w) : Calls Try.prog 47 #[.pointer p, .int .i64 X, .int .i64 K] w fun e w' => e = .returned (.tuple #[.int .i64 0, .bool false]) ∧ w = w' := by
  have x0 := rlist_out p X w h
  clear h
  by_cases hK : K < 0
  · go_enter Try.func47, Try.ntmps47
    go_wp2_with fail
    refine x0.mono ?_
    rintro e w' ⟨rfl, rfl⟩
    go_wp2_with fail
    go_ret2
    exact ⟨rfl, rfl⟩
  · have hK2 : 0 ≤ K := by omega
    go_enter Try.func47, Try.ntmps47
    go_wp2_with fail
    refine x0.mono ?_
    rintro e w' ⟨rfl, rfl⟩
    go_wp2_with fail
    go_ret2
    exact ⟨rfl, rfl⟩
theorem rmin_out (p : Option Addr) (X : Int) (w : World) (h : RNo p X w) : Calls Try.prog 48 #[.pointer p, .int .i64 X] w fun e w' => e = .returned (.tuple #[.int .i64 0, .bool false]) ∧ w = w' := by
  have x0 := rlist_out p X w h
  clear h
  go_enter Try.func48, Try.ntmps48
  go_wp2_with fail
  refine x0.mono ?_
  rintro e w' ⟨rfl, rfl⟩
  go_wp2_with fail
  go_ret2
  exact ⟨rfl, rfl⟩
/-- what finds the lists -/
theorem rfindQ (r c n : Nat) (LL : List (List Nat)) (Q : Nat → List Nat) (U : Nat → Int) (x : Nat) (w : World) (h : RL w r c n LL U) (hQ : LQ LL n Q) (hx : x < n) :
    Calls Try.prog 56 #[.pointer (some ⟨r, 0, none⟩), .int .i64 (x : Int)] w fun e w' => ∃ i k : Nat, e = .returned (.tuple #[.int .i64 (i : Int), .int .i64 (k : Int)]) ∧ IsAt LL x i k ∧ w = w' := by
  have hn := h.2.1
  have := hQ.len
  exact rfind_ok r c n LL U x w h (hQ.at_ hx) (by omega) (fun l hl => by have := (hQ.small (by omega) hl).1; omega)
theorem rno_out {r c n : Nat} {LL : List (List Nat)} {U : Nat → Int} {X : Int} {w : World} (h : RL w r c n LL U) (hX : hasB n X = false) : RNo (some ⟨r, 0, none⟩) X w := by
  have := rnode_ok r c n LL U X w h
  rw [hX] at this
  exact this
section
variable (r c n : Nat) (LL : List (List Nat)) (Q : Nat → List Nat) (U : Nat → Int) (x : Nat) (w : World) (h : RL w r c n LL U) (hQ : LQ LL n Q) (hx : x < n)
include h hQ hx
set_option maxRecDepth 100000 in
set_option maxHeartbeats 1000000 in
theorem rlist_ok : Calls Try.prog 54 #[.pointer (some ⟨r, 0, none⟩), .int .i64 (x : Int)] w fun e w' => ∃ v, e = .returned v ∧ RowL w' w.heap.size v (Q x) ∧ Below w.heap.size w w' := by
  have x0 := rnode_ok r c n LL U x w h
  rw [hasB_nat hx] at x0
  have x1 := rfindQ r c n LL Q U x w h hQ hx
  have hn := h.2.1
  obtain ⟨A, cc, c1, k1, k2, _, ss, hC⟩ := h.cellL
  have HC := Lib.hid hC
  have HQ := Lib.hid hQ
  obtain ⟨m, hm⟩ : ∃ m, LL.length = m := ⟨_, rfl⟩
  rw [hm] at c1 k1
  have HM := Lib.hid hm
  clear hm hC hQ h
  go_enter Try.func54, Try.ntmps54
  go_wp2_with fail
  refine x0.mono ?_
  rintro e w' ⟨rfl, rfl⟩
  go_wp2_with fail
  refine x1.mono ?_
  rintro e w' ⟨i, k, rfl, hi, rfl⟩
  obtain ⟨hi1, hi2⟩ := hi.list HQ.out
  have him : i < m := by rw [← HM.out]; exact (List.getElem?_eq_some_iff.1 hi1).1
  have him2 : (i : Int) < (m : Int) := by omega
  obtain ⟨g, Ai, ci, rfl, e1, e2, e3, e4, _, _⟩ := HC.out.row hi1
  have hsm := HQ.out.small (by omega) (List.mem_of_getElem? hi1)
  have hb0 := below_new1 w (.cells #[] 3)
  obtain ⟨A', c', he, ha, hA⟩ := (e4.below hb0).argN (fun y hy => by have := hsm.2 y hy; omega)
  cases he
  have hlen := hsm.1
  have HFIN := Lib.hid (fun (w1 : World) (v' : Value) => rowL_cat (w := w1) (v := v') (B := w.heap.size) [] (Q x))
  have hrow := empty_row w
  have hsz : w.heap.size ≤ (w.alloc (.cells #[] 3)).heap.size := by simp
  generalize (Q x).length = q at *
  have c1' := (hb0.cell (p := ⟨r, 1, none⟩) (cell?_lt c1)).trans c1
  have e1' := (hb0.cell (p := ⟨g, i, none⟩) (cell?_lt e1)).trans e1
  clear hi hi1 hi2 hsm e4 x0 x1 HC HM
  go_wp2_with (at_builtin; refine wpList_append_ints rfl _ _ rfl w.heap.size (.slice (some ⟨w.heap.size, 0, none⟩) 0 0) 0 _ rfl hrow _ q _ _ rfl ha hA (by omega) hsz ?_; intro v' w1 hown hgrow)
  have hb1 := hb0.grown hgrow hsz (fun k hk => by simp [Value.ownBlock] at hk; omega)
  go_ret
  exact ⟨_, rfl, HFIN.out w1 _ hown, hb1⟩
set_option maxRecDepth 100000 in
theorem rpos_ok : Calls Try.prog 51 #[.pointer (some ⟨r, 0, none⟩), .int .i64 (x : Int)] w fun e w' => ∃ k : Nat, e = .returned (.int .i64 (k : Int)) ∧ IsPos Q x k ∧ w = w' := by
  have x0 := rnode_ok r c n LL U x w h
  rw [hasB_nat hx] at x0
  have x1 := rfindQ r c n LL Q U x w h hQ hx
  have HQ := Lib.hid hQ
  clear hQ h
  go_enter Try.func51, Try.ntmps51
  go_wp2_with fail
  refine x0.mono ?_
  rintro e w' ⟨rfl, rfl⟩
  go_wp2_with fail
  refine x1.mono ?_
  rintro e w' ⟨i, k, rfl, hi, rfl⟩
  have HI := Lib.hid (hi.list HQ.out).2
  clear hi
  go_wp2_with fail
  go_ret
  exact ⟨k, rfl, HI.out, rfl⟩
set_option maxRecDepth 100000 in
theorem rlen_ok : Calls Try.prog 52 #[.pointer (some ⟨r, 0, none⟩), .int .i64 (x : Int)] w fun e w' => e = .returned (.int .i64 ((Q x).length : Nat)) ∧ Below w.heap.size w w' := by
  have x0 := rlist_ok r c n LL Q U x w h hQ hx
  generalize Q x = l at *
  clear hQ h
  go_enter Try.func52, Try.ntmps52
  go_wp2_with fail
  refine x0.mono ?_
  rintro e w1 ⟨v, rfl, hr, hb⟩
  obtain ⟨A, cc, rfl⟩ := hr.slice
  clear hr x0
  go_wp2_with fail
  go_ret
  exact ⟨rfl, hb⟩
set_option maxRecDepth 100000 in
theorem rvalue_ok : Calls Try.prog 53 #[.pointer (some ⟨r, 0, none⟩), .int .i64 (x : Int)] w fun e w' => e = .returned (.int .i64 (U x)) ∧ w = w' := by
  have x0 := rnode_ok r c n LL U x w h
  rw [hasB_nat hx] at x0
  obtain ⟨A, cc, c2, k1, k2, k3, hv⟩ := h.cellV
  obtain ⟨g, rfl, _, _⟩ := k3 (by omega)
  have c9 := owns_cell hv (vals_get (z := fun i => U i) hx)
  have hxn : (x : Int) < (n : Int) := by omega
  obtain ⟨u, hu⟩ : ∃ u, U x = u := ⟨_, rfl⟩
  simp only [hu] at c9
  rw [hu]
  clear hQ h hv k3 hu
  go_enter Try.func53, Try.ntmps53
  go_wp2_with fail
  refine x0.mono ?_
  rintro e w' ⟨rfl, rfl⟩
  go_wp2_with fail
  go_ret
  exact ⟨rfl, rfl⟩
set_option maxRecDepth 100000 in
theorem rsame_out2 (Y : Int) (hY : hasB n Y = false) : Calls Try.prog 50 #[.pointer (some ⟨r, 0, none⟩), .int .i64 (x : Int), .int .i64 Y] w fun e w' => e = .returned (.bool false) ∧ w = w' := by
  have x0 := rnode_ok r c n LL U x w h
  rw [hasB_nat hx] at x0
  have x1 := rnode_ok r c n LL U Y w h
  rw [hY] at x1
  clear hQ h
  go_enter Try.func50, Try.ntmps50
  go_wp2_with fail
  refine x0.mono ?_
  rintro e w' ⟨rfl, rfl⟩
  go_wp2_with fail
  refine x1.mono ?_
  rintro e w' ⟨rfl, rfl⟩
  go_wp2_with fail
  go_ret
  exact ⟨rfl, rfl⟩
set_option maxRecDepth 100000 in
theorem rsame_ok (y : Nat) (hy : y < n) : Calls Try.prog 50 #[.pointer (some ⟨r, 0, none⟩), .int .i64 (x : Int), .int .i64 (y : Int)] w fun e w' => e = .returned (.bool (sameB Q x y)) ∧ w = w' := by
  have x0 := rnode_ok r c n LL U x w h
  rw [hasB_nat hx] at x0
  have x1 := rnode_ok r c n LL U y w h
  rw [hasB_nat hy] at x1
  have x2 := rfindQ r c n LL Q U x w h hQ hx
  have x3 := rfindQ r c n LL Q U y w h hQ hy
  have HQ := Lib.hid hQ
  obtain ⟨v, hv⟩ : ∃ v, sameB Q x y = v := ⟨_, rfl⟩
  rw [hv]
  have HV := Lib.hid hv
  clear hQ h hv
  go_enter Try.func50, Try.ntmps50
  go_wp2_with fail
  refine x0.mono ?_
  rintro e w' ⟨rfl, rfl⟩
  go_wp2_with fail
  refine x1.mono ?_
  rintro e w' ⟨rfl, rfl⟩
  go_wp2_with fail
  refine x2.mono ?_
  rintro e w' ⟨i, k, rfl, hi, rfl⟩
  have HI := Lib.hid hi
  clear hi
  go_wp2_with fail
  refine x3.mono ?_
  rintro e w' ⟨j, k2, rfl, hj, rfl⟩
  have hs := HI.out.same hj HQ.out
  have n1 : ((i : Int) == (j : Int)) = v := by
    rw [← HV.out]
    unfold sameB
    rw [Bool.eq_iff_iff, beq_iff_eq, decide_eq_true_eq, ← hs]
    omega
  clear hj hs
  go_wp2_with fail
  go_ret
  exact ⟨rfl, rfl⟩
set_option maxRecDepth 100000 in
theorem rat_in (k y : Nat) (hy : (Q x)[k]? = some y) : Calls Try.prog 47 #[.pointer (some ⟨r, 0, none⟩), .int .i64 (x : Int), .int .i64 (k : Int)] w fun e w' => e = .returned (.tuple #[.int .i64 (y : Int), .bool true]) ∧ Below w.heap.size w w' := by
  have x0 := rlist_ok r c n LL Q U x w h hQ hx
  have hn := h.2.1
  generalize Q x = l at *
  have hk := (List.getElem?_eq_some_iff.1 hy).1
  have HY := Lib.hid hy
  clear hQ h hy
  go_enter Try.func47, Try.ntmps47
  go_wp2_with fail
  refine x0.mono ?_
  rintro e w1 ⟨v, rfl, hr, hb⟩
  obtain ⟨A, cc, rfl, k1, k2, k3⟩ := owns_slice hr
  obtain ⟨g, rfl⟩ := k3 (by omega)
  have c9 := owns_cell hr (k := k) (v := .int .i64 (y : Int)) (by unfold nums; rw [List.getElem?_map, HY.out]; rfl)
  generalize l.length = q at *
  have hkq : (k : Int) < (q : Int) := by omega
  have hkq2 : ¬ (q : Int) ≤ (k : Int) := by omega
  clear hr x0 k3
  go_wp2_with fail
  go_ret2
  exact ⟨rfl, hb⟩
set_option maxRecDepth 100000 in
theorem rat_off (K : Int) (hK : K < 0 ∨ ((Q x).length : Int) ≤ K) : Calls Try.prog 47 #[.pointer (some ⟨r, 0, none⟩), .int .i64 (x : Int), .int .i64 K] w fun e w' => e = .returned (.tuple #[.int .i64 0, .bool false]) ∧ Below w.heap.size w w' := by
  have x0 := rlist_ok r c n LL Q U x w h hQ hx
  generalize Q x = l at *
  clear hQ h
  by_cases hK0 : K < 0
  · go_enter Try.func47, Try.ntmps47
    go_wp2_with fail
    refine x0.mono ?_
    rintro e w1 ⟨v, rfl, hr, hb⟩
    obtain ⟨A, cc, rfl⟩ := hr.slice
    clear hr x0
    go_wp2_with fail
    go_ret2
    exact ⟨rfl, hb⟩
  · have hK1 : (l.length : Int) ≤ K := by omega
    have hK2 : 0 ≤ K := by omega
    clear hK
    go_enter Try.func47, Try.ntmps47
    go_wp2_with fail
    refine x0.mono ?_
    rintro e w1 ⟨v, rfl, hr, hb⟩
    obtain ⟨A, cc, rfl⟩ := hr.slice
    generalize l.length = q at *
    clear hr x0
    go_wp2_with fail
    go_ret2
    exact ⟨rfl, hb⟩
end
end Go.Proofs.Ytgichkjomhnehaa
