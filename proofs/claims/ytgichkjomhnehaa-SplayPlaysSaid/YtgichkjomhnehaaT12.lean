/-
  The document's sequences: New.
-/
import Derived.Test.YtgichkjomhnehaaT11
set_option linter.unusedVariables false
set_option linter.unusedSectionVars false
set_option linter.unusedSimpArgs false
namespace Go.Proofs.Ytgichkjomhnehaa
open Go.RowKit Go.Shelf

/-- the struct and the values -/
def RL0 (w : World) (r c n : Nat) (U : Nat → Int) : Prop := c ≤ r ∧ n ≤ 1000 ∧ (∀ x, x < n → Fits (U x)) ∧ ∃ vL vV, Blk w r 86 #[.bool true, vL, vV] ∧ w.ownsRow c 2 1 vV n (vals U n)
theorem RL.zero {w : World} {r c n : Nat} {LL : List (List Nat)} {U : Nat → Int} (h : RL w r c n LL U) : RL0 w r c n U := by
  obtain ⟨h0, hn, hf, vL, s0, vV, k1, k2, k3⟩ := h
  exact ⟨h0, hn, hf, vL, vV, k1, k3⟩
theorem RL0.below {w w' : World} {r c n : Nat} {U : Nat → Int} (h : RL0 w r c n U) (hb : Below w.heap.size w w') : RL0 w' r c n U := by
  obtain ⟨h0, hn, hf, vL, vV, k1, k3⟩ := h
  exact ⟨h0, hn, hf, vL, vV, k1.below hb k1.lt, owns_below k3 hb⟩
theorem RL0.cell {w : World} {r c n : Nat} {U : Nat → Int} (h : RL0 w r c n U) : w.frozen? ⟨r, 1, none⟩ = false ∧ ∃ old, w.cell? ⟨r, 1, none⟩ = some old := by
  obtain ⟨h0, hn, hf, vL, vV, k1, k3⟩ := h
  exact ⟨k1.frozen 1, vL, k1.cell 1⟩
theorem RL0.grown {w w' : World} {r c n B m : Nat} {U : Nat → Int} {vo : Value} {ss : List Value} (h : RL0 w r c n U) (hg : w.grownBy w' vo.ownBlock) (ho : w.ownsRow B 25 1 vo m ss) : RL0 w' r c n U := by
  obtain ⟨h0, hn, hf, vL, vV, k1, k3⟩ := h
  refine ⟨h0, hn, hf, vL, vV, (hg.block r k1.lt (fun e => ?_)).trans k1, World.ownsRow.kept k3 hg (own_apart k3 ho (by decide))⟩
  rcases ho.2 with ⟨e3, _⟩ | ⟨g, cap, cur, e3, _, hh, _⟩
  · rw [e3] at e; cases e
  · rw [e3] at e
    have e : r = g := Option.some.inj e
    exact k1.ne_ (t' := 25) (cs' := cur) (g' := g) hh (by decide) e
theorem RL0.set {w : World} {r c n B : Nat} {LL' : List (List Nat)} {U : Nat → Int} {vo : Value} {ss : List Value} (h : RL0 w r c n U) (hC : Cls w B c vo LL' ss) (hB : c ≤ B) :
    RL (w.setCell ⟨r, 1, none⟩ vo) r c n LL' U ∧ Turns (fun k => c ≤ k) w (w.setCell ⟨r, 1, none⟩ vo) := by
  obtain ⟨h0, hn, hf, vL, vV, k1, k3⟩ := h
  have gs := grownBy_set w ⟨r, 1, none⟩ vo
  have key : ∀ {t : TypeId} {B' s' n' : Nat} {v : Value} {xs : List Value}, w.ownsRow B' t s' v n' xs → t ≠ 86 → v.ownBlock = none ∨ v.ownBlock ≠ some r := fun {t B' s' n' v xs} hr ht => by
    rcases hr.2 with ⟨e, _⟩ | ⟨g, cap, cur, e, _, hh, _⟩
    · left; rw [e]; rfl
    · right
      rw [e]
      intro e2
      have e2 : g = r := Option.some.inj e2
      exact k1.ne_ (t' := t) (cs' := cur) (g' := g) hh (fun e3 => ht e3.symm) e2.symm
  refine ⟨⟨h0, hn, hf, vo, ss, vV, ?_, ?_, World.ownsRow.kept k3 gs (key k3 (by decide))⟩, (Turns.refl _ w).setCell (.inr h0) _⟩
  · have := k1.set_ 1 vo
    simpa using this
  · exact (hC.mono hB).kept gs (key hC.1 (by decide)) (fun v l hr => key hr (by decide))
theorem run_make83 (n : Nat) (hn : n ≤ 100000) (w : World) :
    (Instr.makeSlice 83 (.int .i64 (n : Int)) (.int .i64 (n : Int))).run Try.prog w = .ok (.slice (some ⟨w.heap.size, 0, none⟩) n n) (w.alloc (.cells (zerosK .i64 n) 2)) := by
  obtain ⟨i0, hi, hz0, hz1, hz2⟩ := info_parts info2
  have hr := Go.run_make (P := Try.prog) w 83 2 i0 (.int .i64 0) Try.underlying83 hi hz0 .i64 .i64 n n (by omega) (by omega) (by rw [hz2]; omega) (by omega)
  simp only [Int.toNat_natCast] at hr
  rw [hr, hz1, Nat.mul_one]
  rfl
theorem zeros_row (w : World) (n : Nat) (hn : n ≤ 100000) : (w.alloc (.cells (zerosK .i64 n) 2)).ownsRow w.heap.size 2 1 (.slice (some ⟨w.heap.size, 0, none⟩) n n) n (vals (fun _ => 0) n) := by
  have e : (zerosK .i64 n).toList = vals (fun _ => 0) n := by
    unfold zerosK
    rw [toList_madeCells_one]
    apply List.ext_getElem?
    intro j
    rcases Nat.lt_or_ge j n with h | h
    · rw [vals_get h, List.getElem?_replicate, if_pos h]
    · rw [List.getElem?_eq_none (by simpa using h), List.getElem?_eq_none (by rw [vals_len]; exact h)]
  rw [← e]
  exact World.ownsRow_lit w _ n (Nat.le_refl _) (by simp only [maxLen]; omega) (by unfold zerosK; rw [← Array.length_toList, toList_madeCells_one, List.length_replicate, Nat.mul_one])
theorem rnew_bad (X : Int) (w : World) (h : X < 0 ∨ 65536 < X) : Calls Try.prog 31 #[.int .i64 X] w fun e w' => e = .returned (.tuple #[.pointer none, .int .i64 2]) ∧ w = w' := by
  by_cases h0 : X < 0
  · go_enter Try.func31, Try.ntmps31
    go_wp2_with fail
    go_ret2
    exact ⟨rfl, rfl⟩
  · have h1 : 65536 < X := by omega
    clear h
    go_enter Try.func31, Try.ntmps31
    go_wp2_with fail
    go_ret2
    exact ⟨rfl, rfl⟩
/-- the first lists of New -/
def oneL (i : Nat) : List (List Nat) := (List.range i).map fun x => [x]
theorem oneL_succ (i : Nat) : oneL (i + 1) = oneL i ++ [[i]] := by unfold oneL; rw [List.range_succ, List.map_append]; rfl
theorem oneL_len (i : Nat) : (oneL i).length = i := by simp [oneL]
set_option maxRecDepth 100000 in
set_option maxHeartbeats 2000000 in
theorem rnew_ok (n : Nat) (w : World) (hn : n ≤ 1000) :
    Calls Try.prog 31 #[.int .i64 (n : Int)] w fun e w' => ∃ r, e = .returned (.tuple #[.pointer (some ⟨r, 0, none⟩), .int .i64 0]) ∧ w.heap.size ≤ r ∧ RL w' r w.heap.size n (oneL n) (fun _ => 0) ∧ Below w.heap.size w w' := by
  have hmk := run_make83 n (by omega) w
  have h0 : RL ((w.alloc (.cells (zerosK .i64 n) 2)).alloc (.cells #[.bool true, .slice none 0 0, .slice (some ⟨w.heap.size, 0, none⟩) n n] 86)) (w.heap.size + 1) w.heap.size n (oneL 0) (fun _ => 0) :=
    ⟨by omega, hn, fun _ _ => show Fits 0 by decide, _, [], _, Blk.new2 w _ 86 _, Cls.nil _ _ _, owns_below (zeros_row w n (by omega)) (below_new1 _ _)⟩
  have q0 := below_new2 w (.cells (zerosK .i64 n) 2) (.cells #[.bool true, .slice none 0 0, .slice (some ⟨w.heap.size, 0, none⟩) n n] 86)
  have hn1 : (n : Int) ≤ 1000 := by omega
  go_enter Try.func31, Try.ntmps31
  go_upto_region 4 with fail
  clear hmk
  generalize ((w.alloc (.cells (zerosK .i64 n) 2)).alloc (.cells #[.bool true, .slice none 0 0, .slice (some ⟨w.heap.size, 0, none⟩) n n] 86)) = W0 at *
  obtain ⟨r, hr⟩ : ∃ r, w.heap.size + 1 = r := ⟨_, rfl⟩
  rw [hr] at h0 ⊢
  have hrw : w.heap.size ≤ r := by omega
  clear hr
  go_wp2_with fail
  go_loopw [5] (fun vk wr => ∃ i : Nat, vk = .int .i64 i ∧ i ≤ n ∧ RL wr r w.heap.size n (oneL i) (fun _ => 0) ∧ Below w.heap.size w wr) (fun vk _ => n - (intOf vk).toNat)
  case atStart => exact ⟨0, rfl, Nat.zero_le _, h0, q0⟩
  case round =>
    clear h0 q0
    obtain ⟨i, rfl, hi, h, q⟩ := hrel
    by_cases hlt : i < n
    · have hin : (i : Int) < (n : Int) := by omega
      have hq := q.size
      obtain ⟨A, cc, c1, k1, k2, _, ss, hC⟩ := h.cellL
      rw [oneL_len] at c1 k1 hC
      have HC := Lib.hid hC
      have HH := Lib.hid h
      have hrl := h.lt
      have b1 := below_new1 wr (.cells #[.int .i64 (i : Int)] 3)
      have b2 := below_new2 wr (.cells #[.int .i64 (i : Int)] 3) (.cells #[.slice (some ⟨wr.heap.size, 0, none⟩) 1 1] 25)
      have c1a := (b1.cell (p := ⟨r, 1, none⟩) hrl).trans c1
      have c1b := (b2.cell (p := ⟨r, 1, none⟩) hrl).trans c1
      have R : RowL (wr.alloc (.cells #[.int .i64 (i : Int)] 3)) w.heap.size (.slice (some ⟨wr.heap.size, 0, none⟩) 1 1) [i] := World.ownsRow_lit (base := w.heap.size) wr #[.int .i64 (i : Int)] 1 hq (by decide) rfl
      have R := R.below (below_new1 _ (.cells #[.slice (some ⟨wr.heap.size, 0, none⟩) 1 1] 25))
      have hC2 := hC.below b2
      have HKC := Lib.hid (show ((wr.alloc (.cells #[.int .i64 (i : Int)] 3)).alloc (.cells #[.slice (some ⟨wr.heap.size, 0, none⟩) 1 1] 25)).cell? ⟨wr.heap.size + 1, 0, none⟩ = some (.slice (some ⟨wr.heap.size, 0, none⟩) 1 1) from (Blk.new2 wr _ 25 #[.slice (some ⟨wr.heap.size, 0, none⟩) 1 1]).cell 0)
      have hz : w.heap.size ≤ ((wr.alloc (.cells #[.int .i64 (i : Int)] 3)).alloc (.cells #[.slice (some ⟨wr.heap.size, 0, none⟩) 1 1] 25)).heap.size := by simp; omega
      have FIN := Lib.hid (show ∀ (v' : Value) (w3 : World), Cls w3 w.heap.size w.heap.size v' (oneL i ++ [[i]]) (ss ++ [.slice (some ⟨wr.heap.size, 0, none⟩) 1 1]) → ((wr.alloc (.cells #[.int .i64 (i : Int)] 3)).alloc (.cells #[.slice (some ⟨wr.heap.size, 0, none⟩) 1 1] 25)).grownBy w3 (Value.slice A i cc).ownBlock → ∃ A9 n9 d9, v' = .slice A9 n9 d9 ∧ w3.frozen? ⟨r, 1, none⟩ = false ∧ (∃ old, w3.cell? ⟨r, 1, none⟩ = some old) ∧ RL (w3.setCell ⟨r, 1, none⟩ (.slice A9 n9 d9)) r w.heap.size n (oneL (i + 1)) (fun _ => 0) ∧ Below w.heap.size w (w3.setCell ⟨r, 1, none⟩ (.slice A9 n9 d9)) from fun v' w3 t1 t2 => by
        rw [← oneL_succ] at t1
        obtain ⟨A9, d9, rfl, _⟩ := owns_slice t1.1
        have z3 := (HH.out.zero.below b2).grown t2 hC2.1
        have g := z3.cell
        exact ⟨A9, _, d9, rfl, g.1, g.2, (z3.set t1 (Nat.le_refl _)).1, (((q.trans (b2.mono hq)).grown t2 hz hC2.base)).setCell (p := ⟨r, 1, none⟩) hrw _⟩)
      have hbl : (oneL i).length ≤ 100000 := by rw [oneL_len]; omega
      have HBL := Lib.hid hbl
      clear hC h b1 b2 hbl
      go_wp2_with (at_builtin; refine wpList_append_row rfl _ _ rfl w.heap.size w.heap.size (.slice A i cc) (.slice (some ⟨wr.heap.size, 0, none⟩) 1 1) (oneL i) ss [i] (wr.heap.size + 1) rfl hC2 rfl HKC.out R HBL.out hz ?_; intro v' w3 t1 t2; obtain ⟨A9, n9, d9, rfl, f1, ⟨old, f2⟩, f3, f4⟩ := FIN.out v' w3 t1 t2; clear t1 t2)
      go_roundw
      case rel => exact ⟨i + 1, by simp, by omega, f3, f4⟩
      case measure => simp [intOf]; omega
    · obtain rfl : i = n := by omega
      have HH := Lib.hid h
      clear h
      go_wp2_with fail
      go_ret2
      exact ⟨r, rfl, hrw, HH.out, q⟩
end Go.Proofs.Ytgichkjomhnehaa
