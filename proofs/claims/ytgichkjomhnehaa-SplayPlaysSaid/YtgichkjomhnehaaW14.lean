/-
  Changes: Set, Reverse, Split.
-/
import Derived.Test.YtgichkjomhnehaaW13
import Derived.Test.YtgichkjomhnehaaM6
set_option linter.unusedVariables false
set_option linter.unusedSimpArgs false
namespace Go.Proofs.Ytgichkjomhnehaa
open Go.RowKit Go.Shelf

/-- the check of one node returns the code c -/
def Chk1 (p : Option Addr) (X : Int) (w : World) (c : Int) : Prop :=
  Calls Try.prog 41 #[.pointer p, .slice (some ⟨w.heap.size, 0, none⟩) 1 1] (w.alloc (.cells #[.int .i64 X] 3)) fun e w' => e = .returned (.int .i64 c) ∧ w.alloc (.cells #[.int .i64 X] 3) = w'
def Chk2 (p : Option Addr) (X Y : Int) (w : World) (c : Int) : Prop :=
  Calls Try.prog 41 #[.pointer p, .slice (some ⟨w.heap.size, 0, none⟩) 2 2] (w.alloc (.cells #[.int .i64 X, .int .i64 Y] 3)) fun e w' => e = .returned (.int .i64 c) ∧ w.alloc (.cells #[.int .i64 X, .int .i64 Y] 3) = w'
theorem chk1_no {p : Option Addr} {X : Int} {w : World} (h : NoSeqs w p) : Chk1 p X w 1 := check_no p _ 1 1 _ (h.below (below_new1 w _))
theorem chk2_no {p : Option Addr} {X Y : Int} {w : World} (h : NoSeqs w p) : Chk2 p X Y w 1 := check_no p _ 2 2 _ (h.below (below_new1 w _))
theorem arg_new1 (w : World) (X : Int) (hX : Fits X) : ArgI .i64 (w.alloc (.cells #[.int .i64 X] 3)) (some ⟨w.heap.size, 0, none⟩) 1 1 (fun _ => X) :=
  argI_row (Blk.new w 3 #[.int .i64 X]) (by decide) (fun i hi => by obtain rfl : i = 0 := by omega
                                                                    rfl) (fun i hi => hX)
theorem arg_new2 (w : World) (X Y : Int) (hX : Fits X) (hY : Fits Y) : ArgI .i64 (w.alloc (.cells #[.int .i64 X, .int .i64 Y] 3)) (some ⟨w.heap.size, 0, none⟩) 2 2 (fun i => if i = 0 then X else Y) :=
  argI_row (Blk.new w 3 #[.int .i64 X, .int .i64 Y]) (by decide) (fun i hi => by rcases i with _ | _ | i
                                                                                 · rfl
                                                                                 · rfl
                                                                                 · omega) (fun i hi => by show Fits (if i = 0 then X else Y); split <;> assumption)
section
variable {b s n : Nat} {Q : Nat → List Nat} {U : Nat → Int} {X Y : Int} {w : World} (h : SQ w b s n Q U)
include h
theorem chk1_in (hX : Fits X) (hb : hasB n X = true) : Chk1 (some ⟨b, 0, none⟩) X w 0 := by
  refine (check_ok b s n Q U _ 1 1 _ _ (h.below (below_new1 w _)) (arg_new1 w X hX)).mono ?_
  rintro e w' ⟨⟨rfl, _⟩ | ⟨_, i, _, hno⟩, hw⟩
  · exact ⟨rfl, hw⟩
  · rw [hb] at hno; cases hno
theorem chk1_out (hX : Fits X) (hb : hasB n X = false) : Chk1 (some ⟨b, 0, none⟩) X w 3 := by
  refine (check_ok b s n Q U _ 1 1 _ _ (h.below (below_new1 w _)) (arg_new1 w X hX)).mono ?_
  rintro e w' ⟨⟨_, hy⟩ | ⟨rfl, _⟩, hw⟩
  · have := hy 0 (by decide); rw [hb] at this; cases this
  · exact ⟨rfl, hw⟩
theorem chk2_in (hX : Fits X) (hY : Fits Y) (hb : hasB n X = true) (hc : hasB n Y = true) : Chk2 (some ⟨b, 0, none⟩) X Y w 0 := by
  refine (check_ok b s n Q U _ 2 2 _ _ (h.below (below_new1 w _)) (arg_new2 w X Y hX hY)).mono ?_
  rintro e w' ⟨⟨rfl, _⟩ | ⟨_, i, _, hno⟩, hw⟩
  · exact ⟨rfl, hw⟩
  · split at hno
    · rw [hb] at hno; cases hno
    · rw [hc] at hno; cases hno
theorem chk2_out (hX : Fits X) (hY : Fits Y) (hb : hasB n X = false ∨ hasB n Y = false) : Chk2 (some ⟨b, 0, none⟩) X Y w 3 := by
  refine (check_ok b s n Q U _ 2 2 _ _ (h.below (below_new1 w _)) (arg_new2 w X Y hX hY)).mono ?_
  rintro e w' ⟨⟨_, hy⟩ | ⟨rfl, _⟩, hw⟩
  · rcases hb with hb | hb
    · have := hy 0 (by decide); rw [if_pos rfl, hb] at this; cases this
    · have := hy 1 (by decide); rw [if_neg (by decide), hb] at this; cases this
  · exact ⟨rfl, hw⟩
end
section
variable (p : Option Addr) (X Y v c : Int) (w : World) (hc : c ≠ 0)
include hc
theorem set_bad (x0 : Chk1 p X w c) : Calls Try.prog 22 #[.pointer p, .int .i64 X, .int .i64 v] w fun e w' => e = .returned (.int .i64 c) ∧ Below w.heap.size w w' := by
  unfold Chk1 at x0
  have q := below_new1 w (.cells #[.int .i64 X] 3)
  have hc1 : (c == 0) = false := by simpa using hc
  go_enter Try.func22, Try.ntmps22
  go_wp2_with fail
  refine x0.mono ?_
  rintro e w' ⟨rfl, rfl⟩
  go_wp2_with fail
  go_ret
  exact ⟨rfl, q⟩
theorem reverse_bad (x0 : Chk1 p X w c) : Calls Try.prog 26 #[.pointer p, .int .i64 X] w fun e w' => e = .returned (.int .i64 c) ∧ Below w.heap.size w w' := by
  unfold Chk1 at x0
  have q := below_new1 w (.cells #[.int .i64 X] 3)
  have hc1 : (c == 0) = false := by simpa using hc
  go_enter Try.func26, Try.ntmps26
  go_wp2_with fail
  refine x0.mono ?_
  rintro e w' ⟨rfl, rfl⟩
  go_wp2_with fail
  go_ret
  exact ⟨rfl, q⟩
theorem split_bad (x0 : Chk1 p X w c) : Calls Try.prog 16 #[.pointer p, .int .i64 X] w fun e w' => e = .returned (.int .i64 c) ∧ Below w.heap.size w w' := by
  unfold Chk1 at x0
  have q := below_new1 w (.cells #[.int .i64 X] 3)
  have hc1 : (c == 0) = false := by simpa using hc
  go_enter Try.func16, Try.ntmps16
  go_wp2_with fail
  refine x0.mono ?_
  rintro e w' ⟨rfl, rfl⟩
  go_wp2_with fail
  go_ret
  exact ⟨rfl, q⟩
theorem sum_bad (x0 : Chk1 p X w c) : Calls Try.prog 23 #[.pointer p, .int .i64 X] w fun e w' => e = .returned (.tuple #[.int .i64 0, .int .i64 c]) ∧ Below w.heap.size w w' := by
  unfold Chk1 at x0
  have q := below_new1 w (.cells #[.int .i64 X] 3)
  have hc1 : (c == 0) = false := by simpa using hc
  go_enter Try.func23, Try.ntmps23
  go_wp2_with fail
  refine x0.mono ?_
  rintro e w' ⟨rfl, rfl⟩
  go_wp2_with fail
  go_ret2
  exact ⟨rfl, q⟩
theorem join_bad (x0 : Chk2 p X Y w c) : Calls Try.prog 20 #[.pointer p, .int .i64 X, .int .i64 Y] w fun e w' => e = .returned (.int .i64 c) ∧ Below w.heap.size w w' := by
  unfold Chk2 at x0
  have q := below_new1 w (.cells #[.int .i64 X, .int .i64 Y] 3)
  have hc1 : (c == 0) = false := by simpa using hc
  go_enter Try.func20, Try.ntmps20
  go_wp2_with fail
  refine x0.mono ?_
  rintro e w' ⟨rfl, rfl⟩
  go_wp2_with fail
  go_ret
  exact ⟨rfl, q⟩
end
theorem mem_succ_map {y : Nat} {l : List Nat} : y + 1 ∈ l.map (· + 1) ↔ y ∈ l := by
  constructor
  · intro h
    obtain ⟨z, hz, e⟩ := List.mem_map.1 h
    obtain rfl : z = y := by omega
    exact hz
  · intro h
    exact List.mem_map.2 ⟨y, h, rfl⟩
def setU (U : Nat → Int) (x : Nat) (v : Int) : Nat → Int := fun y => if y = x then v else U y
def revQ (Q : Nat → List Nat) (x : Nat) : Nat → List Nat := fun y => if y ∈ Q x then (Q x).reverse else Q y
def splitQ (Q : Nat → List Nat) (x k : Nat) : Nat → List Nat := fun y => if y ∈ (Q x).take k then (Q x).take k else if y ∈ (Q x).drop k then (Q x).drop k else Q y
def joinQ (Q : Nat → List Nat) (x y : Nat) : Nat → List Nat := fun z => if z ∈ Q x ∨ z ∈ Q y then Q x ++ Q y else Q z
theorem fits_nat {x n : Nat} (hx : x < n) (hn : n ≤ 65536) : Fits (x : Int) := ⟨by omega, by omega⟩
/-- what a refresh wants -/
theorem over_kids {V : Nat → Int} {n : Nat} {st : Nat → Nd} {i : Nat} {I : List Nat} (hF : Fit V) (h : Over V st i I) (hd : I.Nodup) (hI : ∀ j ∈ I, 1 ≤ j ∧ j ≤ n) (hn : n ≤ 65536) (hz : st 0 = Z0) : Fits (st i).v ∧ KidOk n st i (st i).k0 ∧ KidOk n st i (st i).k1 :=
  over_ok hF h hI (Nat.le_trans (nodup_len n I hd hI) hn) hz
set_option maxRecDepth 100000 in
theorem set_ok (b s n : Nat) (Q : Nat → List Nat) (U : Nat → Int) (x : Nat) (v : Int) (w : World) (h : SQ w b s n Q U) (hx : x < n) (hv : Fits v) :
    Calls Try.prog 22 #[.pointer (some ⟨b, 0, none⟩), .int .i64 (x : Int), .int .i64 v] w fun e w' => e = .returned (.int .i64 0) ∧ SQ w' b s n Q (setU U x v) ∧ Turns (· = s) w w' := by
  have hn := h.1
  have x0 := chk1_in h (fits_nat hx hn) (hasB_nat hx)
  unfold Chk1 at x0
  have q := below_new1 w (.cells #[.int .i64 (x : Int)] 3)
  have x1 := liftQ_ok b s n Q U x _ (h.below q) hx
  have hT0 := Turns.of_below q (· = s)
  go_enter Try.func22, Try.ntmps22
  go_wp2_with fail
  refine x0.mono ?_
  rintro e w' ⟨rfl, rfl⟩
  clear x0 q
  generalize w.alloc (.cells #[.int .i64 (x : Int)] 3) = W0 at *
  go_wp2_with fail
  refine x1.mono ?_
  rintro e w1 ⟨rfl, ⟨st, V, S, l, r, F, hU⟩, hT⟩
  have hT := hT0.trans hT
  have hx1 : x + 1 ≤ n := by omega
  have c4 : w1.cell? ⟨s, (x + 1) * 9 + 4, none⟩ = some (.int .i64 (st (x + 1)).v) := hU.2.1.2.cell hx1 4 (by decide)
  have f4 := hU.2.1.2.frozen ((x + 1) * 9 + 4)
  obtain ⟨hov, hsq⟩ := set_plain hU.2.2.2.1 hU.2.2.1 hv
  have S2 := hU.2.1.set_ hx1 (f := 4) (by decide) (fld_v (st (x + 1)) v).1 (fld_v (st (x + 1)) v).2
  have T2 := hT.setCell (p := ⟨s, (x + 1) * 9 + 4, none⟩) (Or.inr rfl) (.int .i64 v)
  obtain ⟨hw, hE⟩ := hU.2.2.1.1.env hU.2.2.2.1 hn
  obtain ⟨v1, a0, a1⟩ := over_kids (fit_putV hU.2.2.2.1 hv) hov hE.nd hE.mem hn ((put_ne _ _ (by omega)).trans hU.zero)
  have x2 := refresh_ok b s n _ (x + 1) _ S2 hn hx1 v1 a0 a1
  rw [show ((x + 1 : Nat) : Int) = (x : Int) + 1 by omega] at x2
  have HU := Lib.hid (And.intro hU hsq)
  have HF := Lib.hid (fit_putV (z := x + 1) hU.2.2.2.1 hv)
  clear hov hsq S2 hw hE v1 a0 a1 hU x1 hT hT0
  go_wp2_with fail
  refine x2.mono ?_
  rintro e w2 ⟨rfl, S3, T3⟩
  have hT := T2.trans T3
  have HS := Lib.hid S3
  clear x2 c4 f4 T2 T3 S3
  go_wp2_with fail
  go_ret
  obtain ⟨hU, hsq⟩ := HU.out
  refine ⟨rfl, ⟨hn, _, _, S, _, HS.out, hsq, HF.out, hU.2.2.2.2.1, fun y hy => ?_⟩, hT⟩
  unfold putV setU
  by_cases e : y = x
  · rw [if_pos (by omega), if_pos e]
  · rw [if_neg (by omega), if_neg e]
    exact hU.2.2.2.2.2 y hy
set_option maxRecDepth 100000 in
theorem reverse_ok (b s n : Nat) (Q : Nat → List Nat) (U : Nat → Int) (x : Nat) (w : World) (h : SQ w b s n Q U) (hx : x < n) :
    Calls Try.prog 26 #[.pointer (some ⟨b, 0, none⟩), .int .i64 (x : Int)] w fun e w' => e = .returned (.int .i64 0) ∧ SQ w' b s n (revQ Q x) U ∧ Turns (· = s) w w' := by
  have hn := h.1
  have x0 := chk1_in h (fits_nat hx hn) (hasB_nat hx)
  unfold Chk1 at x0
  have q := below_new1 w (.cells #[.int .i64 (x : Int)] 3)
  have x1 := liftQ_ok b s n Q U x _ (h.below q) hx
  have hT0 := Turns.of_below q (· = s)
  go_enter Try.func26, Try.ntmps26
  go_wp2_with fail
  refine x0.mono ?_
  rintro e w' ⟨rfl, rfl⟩
  clear x0 q
  generalize w.alloc (.cells #[.int .i64 (x : Int)] 3) = W0 at *
  go_wp2_with fail
  refine x1.mono ?_
  rintro e w1 ⟨rfl, ⟨st, V, S, l, r, F, hU⟩, hT⟩
  have hT := hT0.trans hT
  have hx1 : x + 1 ≤ n := by omega
  have c3 : w1.cell? ⟨s, (x + 1) * 9 + 3, none⟩ = some (.bool (st (x + 1)).flip) := hU.2.1.2.cell hx1 3 (by decide)
  have f3 := hU.2.1.2.frozen ((x + 1) * 9 + 3)
  have hsq := reverse_plain hU.2.2.1
  have S2 := hU.2.1.set_ hx1 (f := 3) (by decide) (fld_flip (st (x + 1)) true).1 (fld_flip (st (x + 1)) true).2
  have T2 := hT.setCell (p := ⟨s, (x + 1) * 9 + 3, none⟩) (Or.inr rfl) (.bool true)
  have HU := Lib.hid (And.intro hU hsq)
  have HS := Lib.hid S2
  clear hsq S2 hU x1 hT hT0
  go_wp2_with fail
  go_ret
  obtain ⟨hU, hsq⟩ := HU.out
  refine ⟨rfl, ⟨hn, _, _, _, _, HS.out, hsq, hU.2.2.2.1, fun y hy => ?_, hU.2.2.2.2.2⟩, T2⟩
  unfold revQ
  by_cases e : y ∈ Q x
  · rw [if_pos e, if_pos (hU.mem.1 e), ← hU.seq, List.map_reverse]
  · rw [if_neg e, if_neg (fun k => e (hU.mem.2 k))]
    exact hU.2.2.2.2.1 y hy
set_option maxRecDepth 100000 in
theorem split_ok (b s n : Nat) (Q : Nat → List Nat) (U : Nat → Int) (x : Nat) (w : World) (h : SQ w b s n Q U) (hx : x < n) :
    Calls Try.prog 16 #[.pointer (some ⟨b, 0, none⟩), .int .i64 (x : Int)] w fun e w' => ∃ k, IsPos Q x k ∧ e = .returned (.int .i64 0) ∧ SQ w' b s n (splitQ Q x k) U ∧ Turns (· = s) w w' := by
  have hn := h.1
  have x0 := chk1_in h (fits_nat hx hn) (hasB_nat hx)
  unfold Chk1 at x0
  have q := below_new1 w (.cells #[.int .i64 (x : Int)] 3)
  have x1 := liftQ_ok b s n Q U x _ (h.below q) hx
  have hT0 := Turns.of_below q (· = s)
  go_enter Try.func16, Try.ntmps16
  go_wp2_with fail
  refine x0.mono ?_
  rintro e w' ⟨rfl, rfl⟩
  clear x0 q
  generalize w.alloc (.cells #[.int .i64 (x : Int)] 3) = W0 at *
  go_wp2_with fail
  refine x1.mono ?_
  rintro e w1 ⟨rfl, ⟨st, V, S, l, r, F, hU⟩, hT⟩
  have hT := hT0.trans hT
  have hx1 : x + 1 ≤ n := by omega
  have hkd := hU.kid
  have c0 : w1.cell? ⟨s, (x + 1) * 9, none⟩ = some (.int .i64 ((st (x + 1)).k0 : Int)) := hU.2.1.2.cell hx1 0 (by decide)
  rw [hkd.1] at c0
  have f0 := hU.2.1.2.frozen ((x + 1) * 9)
  have hlseq := hU.seq
  by_cases hl0 : l.root = 0
  · rw [hl0] at c0
    have hnil := (hU.rep.2.1.root_zero).1 hl0
    have HU := Lib.hid (And.intro hU (And.intro hlseq hnil))
    clear hU x1 hT0 hkd hlseq hnil hl0
    go_wp2_with fail
    go_ret
    obtain ⟨hU, hlseq, rfl⟩ := HU.out
    refine ⟨0, ?_, rfl, hU.sq.congr (fun y hy => ?_) (fun _ _ => rfl), hT⟩
    · exact hU.idx
    · unfold splitQ
      simp only [List.take_zero, List.not_mem_nil, if_false, List.drop_zero]
      split
      · next e => exact ((hU.sq.abs hx).2.2 y e).2
      · rfl
  · obtain ⟨hov, hsq⟩ := split_plain hU.2.2.2.1 hU.2.2.1 hl0
    obtain ⟨k, hk⟩ : ∃ k, l.root = k := ⟨_, rfl⟩
    have hkn : k ≤ n := by rw [← hk]; exact hkd.2.1
    have hkz : x + 1 ≠ k := fun e => (root_parts hU.2.2.1).2.2.1 (by have := root_ids hl0; rw [hk, ← e] at this; exact this)
    have hk0 : k ≠ 0 := by rw [← hk]; exact hl0
    rw [hk] at c0 hov hsq
    have hk1 : ((k : Int) == 0) = false := not_eq_nat hk0
    have hk2 : ¬ (k : Int) = 0 := by omega
    have hki : (k : Int) < (n : Int) + 1 := by omega
    have cu : w1.cell? ⟨s, k * 9 + 2, none⟩ = some (.int .i64 ((st k).up : Int)) := hU.2.1.2.cell hkn 2 (by decide)
    have fu := hU.2.1.2.frozen (k * 9 + 2)
    obtain ⟨c, cs, d1, d2⟩ := hU.2.1.cell1
    have S2 := hU.2.1.set_ hkn (f := 2) (by decide) (fld_up (st k) 0).1 (fld_up (st k) 0).2
    have T2 := hT.setCell (p := ⟨s, k * 9 + 2, none⟩) (Or.inr rfl) (.int .i64 0)
    have c0' : (w1.setCell ⟨s, k * 9 + 2, none⟩ (.int .i64 (0 : Nat))).cell? ⟨s, (x + 1) * 9, none⟩ = some (.int .i64 (k : Int)) := by
      have := S2.2.cell hx1 0 (by decide)
      rw [put_ne _ _ hkz] at this
      have e2 : fld (st (x + 1)) 0 = .int .i64 (k : Int) := by rw [← hk, ← hkd.1]; rfl
      rw [← e2]
      exact this
    have f0' := S2.2.frozen ((x + 1) * 9)
    have S3 := S2.set0 hx1 (u := .int .i64 (0 : Nat)) (nd := setK (put st k { st k with up := 0 } (x + 1)) false 0) (fld_setK _ false 0).1 (fun g hg hg0 => (fld_setK _ false 0).2 g hg hg0)
    have T3 := T2.setCell (p := ⟨s, (x + 1) * 9, none⟩) (Or.inr rfl) (.int .i64 0)
    have S3 : SP ((w1.setCell ⟨s, k * 9 + 2, none⟩ (.int .i64 0)).setCell ⟨s, (x + 1) * 9, none⟩ (.int .i64 0)) b s n (cutF st k (x + 1)) := S3
    replace c0' : (w1.setCell ⟨s, k * 9 + 2, none⟩ (.int .i64 0)).cell? ⟨s, (x + 1) * 9, none⟩ = some (.int .i64 (k : Int)) := c0'
    replace f0' : (w1.setCell ⟨s, k * 9 + 2, none⟩ (.int .i64 0)).frozen? ⟨s, (x + 1) * 9, none⟩ = false := f0'
    obtain ⟨hw, hE⟩ := hU.2.2.1.1.env hU.2.2.2.1 hn
    obtain ⟨v1, a0, a1⟩ := over_kids hU.2.2.2.1 hov hE.nd hE.mem hn (by
      unfold cutF
      rw [put_ne _ _ (by omega), put_ne _ _ (Ne.symm hk0)]
      exact hU.zero)
    have x2 := refresh_ok b s n _ (x + 1) _ S3 hn hx1 v1 a0 a1
    rw [show ((x + 1 : Nat) : Int) = (x : Int) + 1 by omega] at x2
    have HU := Lib.hid (And.intro hU (And.intro hlseq hsq))
    clear hov hsq S2 S3 hw hE v1 a0 a1 hU x1 hT0 hkd hlseq hk hl0 hk0 T2 hT
    go_wp2_with fail
    refine x2.mono ?_
    rintro e w2 ⟨rfl, S4, T4⟩
    have hT := T3.trans T4
    have HS := Lib.hid S4
    clear x2 c0 f0 T3 T4 S4 c0' f0' cu fu cs
    go_wp2_with fail
    go_ret
    obtain ⟨hU, hlseq, hsq⟩ := HU.out
    refine ⟨l.seq.length, hU.idx, rfl, ⟨hn, _, _, _, _, HS.out, hsq, hU.2.2.2.1, fun y hy => ?_, hU.2.2.2.2.2⟩, hT⟩
    have e1 : ((Q x).take l.seq.length).map (· + 1) = l.seq := by rw [List.map_take, hlseq, List.take_left]
    have e2 : ((Q x).drop l.seq.length).map (· + 1) = (x + 1) :: r.seq := by rw [List.map_drop, hlseq, List.drop_left]
    have m1 : y + 1 ∈ l.ids ↔ y ∈ (Q x).take l.seq.length := by
      have := mem_succ_map (y := y) (l := (Q x).take l.seq.length)
      rw [e1] at this
      rw [← (T.seq_perm l).mem_iff]
      exact this
    have m2 : y + 1 ∈ (T.node .nil (x + 1) false r).ids ↔ y ∈ (Q x).drop l.seq.length := by
      have := mem_succ_map (y := y) (l := (Q x).drop l.seq.length)
      rw [e2] at this
      rw [← (T.seq_perm (.node .nil (x + 1) false r)).mem_iff]
      exact this
    unfold splitQ
    by_cases h1 : y ∈ (Q x).take l.seq.length
    · rw [if_pos h1, if_pos (m1.2 h1), e1]
    · rw [if_neg h1, if_neg (fun e => h1 (m1.1 e))]
      by_cases h2 : y ∈ (Q x).drop l.seq.length
      · rw [if_pos h2, if_pos (m2.2 h2), e2]
      · rw [if_neg h2, if_neg (fun e => h2 (m2.1 e))]
        exact hU.2.2.2.2.1 y hy
end Go.Proofs.Ytgichkjomhnehaa
