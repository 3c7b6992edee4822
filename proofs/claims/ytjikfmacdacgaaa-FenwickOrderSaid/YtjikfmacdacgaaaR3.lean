/-
  The document's Add, and both New.
-/
import Derived.Test.YtjikfmacdacgaaaR2
import Derived.Test.YtjikfmacdacgaaaW6
import Derived.Deep.RegionHeld3
set_option linter.unusedVariables false
set_option linter.unusedSimpArgs false
namespace Go.Proofs.Ytjikfmacdacgaaa
open Go.RowKit Go.Shelf Fw

theorem radd_good (b s n : Nat) (C : Nat → Int) (i : Nat) (d : Int) (hi : i < n) (hd : -9223372036854775808 ≤ d) (hlt : 0 ≤ C i + d) (hov : pre C n + d ≤ 9223372036854775807) (w : World) (hr : RC w b s n C) :
    Calls Try.prog 23 #[.pointer (some ⟨b, 0, none⟩), .int .i64 i, .int .i64 d] w fun e w' => e = .returned (.int .i64 0) ∧ RC w' b s n (upd C i d) ∧ Turns (· = s) w w' := by
  have hn0 : 0 < n := by omega
  obtain ⟨c, h1, hc⟩ := hr.rw.cell1' hn0
  have h2 := hr.rw.at_ hi
  have hf := hr.rw.frozen hn0 i
  have hn := hr.hn
  have b4 := hr.good.tot
  have b5 := hr.good.nn i hi
  have b6 := hr.good.pre_nn (Nat.le_refl n)
  have b7 : C i + d ≤ 9223372036854775807 := by
    have := (good_upd hr.good hi hlt hov).le hi
    simpa [upd] using this
  have hfin : ∀ W : World, W = (w.setCell ⟨s, i, none⟩ (.int .i64 (C i + d))).drew → RC W b s n (upd C i d) ∧ Turns (· = s) w W := by
    rintro W rfl
    refine ⟨⟨((hr.rw.set_ i (C i + d) hn0).congr (fun j hj => ?_)).drew, hr.hn, good_upd hr.good hi hlt hov⟩, ((Turns.refl (· = s) w).setCell (p := ⟨s, i, none⟩) (.inr rfl) _).drew⟩
    show (if j = i then C i + d else C j) = (if j = i then C j + d else C j)
    by_cases e : j = i
    · rw [if_pos e, if_pos e, e]
    · rw [if_neg e, if_neg e]
  have HF := Lib.hid hfin
  clear hfin
  have hlt' : decide (C i + d < 0) = false := by simp; omega
  by_cases hd0 : d < 0
  · have hd2 : decide (0 < d) = false := by simp; omega
    go_enter Try.func23, Try.ntmps23
    go_wp2_with (first | (go_at_call 39; refine (rvalid_ok b s n C _ hr.rw).mono ?_; rintro e w' ⟨rfl, rfl⟩) | (go_at_call 31; refine (rtotal_ok b s n C _ hr).mono ?_; rintro e w' ⟨rfl, rfl⟩))
    go_region
    all_goals go_wp2
    all_goals go_ret
    all_goals exact ⟨rfl, HF.out _ rfl⟩
  · have hd3 : decide (9223372036854775807 - pre C n < d) = false := by simp; omega
    by_cases hd2 : 0 < d
    all_goals
      go_enter Try.func23, Try.ntmps23
      go_wp2_with (first | (go_at_call 39; refine (rvalid_ok b s n C _ hr.rw).mono ?_; rintro e w' ⟨rfl, rfl⟩) | (go_at_call 31; refine (rtotal_ok b s n C _ hr).mono ?_; rintro e w' ⟨rfl, rfl⟩))
      go_region
      all_goals go_wp2
      all_goals go_ret
      all_goals exact ⟨rfl, HF.out _ rfl⟩

/-- a row of zeros -/
def zeros (n : Nat) : Array Value := madeCells #[.int .i64 0] n
theorem zeros_get {n i : Nat} (h : i < n) : (zeros n)[i]? = some (.int .i64 0) := by
  unfold zeros
  rw [← Array.getElem?_toList, toList_madeCells_one, List.getElem?_replicate, if_pos h]

theorem info2 : (Try.prog.info? 2).map (fun i => (i.zero, i.size, i.bytes)) = some (some (.int .i64 0), 1, 8) := by kernel_rfl

theorem run_make (n : Nat) (hn : n ≤ 100000) (w : World) :
    (Instr.makeSlice 47 (.int .i64 (n : Int)) (.int .i64 (n : Int))).run Try.prog w = .ok (.slice (some ⟨w.heap.size, 0, none⟩) n n) (w.alloc (.cells (zeros n) 2)) := by
  obtain ⟨i0, hi, hz0, hz1, hz2⟩ := info_parts info2
  have hr := Go.run_make (P := Try.prog) w 47 2 i0 (.int .i64 0) Try.underlying47 hi hz0 .i64 .i64 n n (by omega) (by omega) (by rw [hz2]; omega) (by omega)
  simp only [Int.toNat_natCast] at hr
  rw [hr, hz1, Nat.mul_one]
  rfl

theorem pre_zero (k : Nat) : pre (fun _ => 0) k = 0 := by
  induction k with
  | zero => rfl
  | succ k ih => simp [pre, ih]
theorem tree_zero (k : Nat) : tree (fun _ => 0) k = 0 := by simp [tree, pre_zero]
theorem good_zero (n : Nat) : GoodC n (fun _ => 0) := ⟨fun _ _ => Int.le_refl _, by rw [pre_zero]; decide⟩

theorem new_bad (n : Int) (w : World) (h : n < 0 ∨ 65536 < n) :
    Calls Try.prog 12 #[.int .i64 n] w fun e w' => e = .returned (.tuple #[.pointer none, .int .i64 2]) ∧ w = w' := by
  rcases h with h | h
  · go_enter Try.func12, Try.ntmps12
    go_wp2
    go_ret2
    exact ⟨rfl, rfl⟩
  · have hd : decide (n < 0) = false := by simp; omega
    go_enter Try.func12, Try.ntmps12
    go_wp2
    go_ret2
    exact ⟨rfl, rfl⟩

theorem new_ok (n : Nat) (w : World) (h : n ≤ 65536) :
    Calls Try.prog 12 #[.int .i64 n] w fun e w' => ∃ b s, e = .returned (.tuple #[.pointer (some ⟨b, 0, none⟩), .int .i64 0]) ∧ FC w' b s n (fun _ => 0) ∧ w.heap.size ≤ b ∧ w.heap.size ≤ s ∧ Below w.heap.size w w' := by
  have hmk := run_make (n + 1) (by omega)
  have ec : ((n + 1 : Nat) : Int) = (n : Int) + 1 := by omega
  rw [ec] at hmk
  clear ec
  have hd : decide ((n : Int) < 0) = false := by simp
  go_enter Try.func12, Try.ntmps12
  go_wp2
  go_ret2
  have e1 := Blk.new w 2 (zeros (n + 1))
  have e2 := Blk.new (w.alloc (.cells (zeros (n + 1)) 2)) 59 #[.pointer (some ⟨w.heap.size + 1, 0, none⟩), .slice (some ⟨w.heap.size, 0, none⟩) (n + 1) (n + 1)]
  refine ⟨_, w.heap.size, rfl, ⟨⟨n + 1, _, ?_, e1.alloc _, Nat.le_refl _, fun i hi => ?_⟩, h, good_zero n⟩, by omega, Nat.le_refl _, ((Below.refl _ _).alloc (Nat.le_refl _) _).alloc (by simp) _⟩
  · simpa using e2
  · rw [zeros_get (by omega), tree_zero]

theorem rnew_bad (n : Int) (w : World) (h : n < 0 ∨ 65536 < n) :
    Calls Try.prog 13 #[.int .i64 n] w fun e w' => e = .returned (.tuple #[.pointer none, .int .i64 2]) ∧ w = w' := by
  rcases h with h | h
  · go_enter Try.func13, Try.ntmps13
    go_wp2
    go_ret2
    exact ⟨rfl, rfl⟩
  · have hd : decide (n < 0) = false := by simp; omega
    go_enter Try.func13, Try.ntmps13
    go_wp2
    go_ret2
    exact ⟨rfl, rfl⟩

theorem rnew_ok (n : Nat) (w : World) (h : n ≤ 65536) :
    Calls Try.prog 13 #[.int .i64 n] w fun e w' => ∃ b s, e = .returned (.tuple #[.pointer (some ⟨b, 0, none⟩), .int .i64 0]) ∧ RC w' b s n (fun _ => 0) ∧ w.heap.size ≤ b ∧ w.heap.size ≤ s ∧ Below w.heap.size w w' := by
  have hmk := run_make n (by omega)
  have hd : decide ((n : Int) < 0) = false := by simp
  go_enter Try.func13, Try.ntmps13
  go_wp2
  go_ret2
  have e1 := Blk.new w 2 (zeros n)
  have e2 := Blk.new (w.alloc (.cells (zeros n) 2)) 65 #[.bool true, .slice (some ⟨w.heap.size, 0, none⟩) n n]
  refine ⟨_, w.heap.size, rfl, ⟨⟨_, n, ?_, Nat.le_refl _, fun hn => ⟨rfl, _, e1.alloc _, fun i hi => zeros_get hi⟩⟩, h, good_zero n⟩, by omega, Nat.le_refl _, ((Below.refl _ _).alloc (Nat.le_refl _) _).alloc (by simp) _⟩
  simpa using e2

end Go.Proofs.Ytjikfmacdacgaaa
