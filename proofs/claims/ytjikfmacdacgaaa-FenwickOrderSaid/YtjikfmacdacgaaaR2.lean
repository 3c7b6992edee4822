/-
  The document's counters: Prefix, Total, Find, Add.
-/
import Derived.Test.YtjikfmacdacgaaaR1
set_option linter.unusedVariables false
set_option linter.unusedSimpArgs false
namespace Go.Proofs.Ytjikfmacdacgaaa
open Go.RowKit Go.Shelf Fw

theorem rrange_no (i j : Int) (w : World) : Calls Try.prog 30 #[.pointer none, .int .i64 i, .int .i64 j] w fun e w' => e = .returned (.int .i64 0) ∧ w = w' := by
  go_enter Try.func30, Try.ntmps30
  go_wp2_with (go_at_call 39; refine (rvalid_no _).mono ?_; rintro e w' ⟨rfl, rfl⟩)
  go_ret
  exact ⟨rfl, rfl⟩

theorem sumV_zero (C : Nat → Int) (k : Nat) : sumV C 0 k = pre C k := by
  unfold sumV
  split
  · simp [pre]
  · obtain rfl : k = 0 := by omega
    rfl

theorem rprefix_ok (b s n : Nat) (C : Nat → Int) (k : Int) (w : World) (hr : RC w b s n C) :
    Calls Try.prog 29 #[.pointer (some ⟨b, 0, none⟩), .int .i64 k] w fun e w' => e = .returned (.int .i64 (pre C (clip n k))) ∧ w = w' := by
  have e1 : sumV C (clip n 0) (clip n k) = pre C (clip n k) := by rw [clip_neg (Int.le_refl _), sumV_zero]
  have E1 := Lib.hid e1
  clear e1
  go_enter Try.func29, Try.ntmps29
  go_wp2_with (go_at_call 30; refine (rrange_ok b s n C _ _ _ hr).mono ?_; rw [E1.out]; rintro e w' ⟨rfl, rfl⟩)
  go_ret
  exact ⟨rfl, rfl⟩
theorem rprefix_no (k : Int) (w : World) : Calls Try.prog 29 #[.pointer none, .int .i64 k] w fun e w' => e = .returned (.int .i64 0) ∧ w = w' := by
  go_enter Try.func29, Try.ntmps29
  go_wp2_with (go_at_call 30; refine (rrange_no _ _ _).mono ?_; rintro e w' ⟨rfl, rfl⟩)
  go_ret
  exact ⟨rfl, rfl⟩

theorem rtotal_ok (b s n : Nat) (C : Nat → Int) (w : World) (hr : RC w b s n C) :
    Calls Try.prog 31 #[.pointer (some ⟨b, 0, none⟩)] w fun e w' => e = .returned (.int .i64 (pre C n)) ∧ w = w' := by
  have e1 : sumV C (clip n 0) (clip n n) = pre C n := by rw [clip_neg (Int.le_refl _), sumV_zero, clip_nat (Nat.le_refl _)]
  have E1 := Lib.hid e1
  clear e1
  go_enter Try.func31, Try.ntmps31
  go_wp2_with (first | (go_at_call 32; refine (rlen_ok b s n C _ hr.rw).mono ?_; rintro e w' ⟨rfl, rfl⟩) | (go_at_call 30; refine (rrange_ok b s n C _ _ _ hr).mono ?_; rw [E1.out]; rintro e w' ⟨rfl, rfl⟩))
  go_ret
  exact ⟨rfl, rfl⟩
theorem rtotal_no (w : World) : Calls Try.prog 31 #[.pointer none] w fun e w' => e = .returned (.int .i64 0) ∧ w = w' := by
  go_enter Try.func31, Try.ntmps31
  go_wp2_with (first | (go_at_call 32; refine (rlen_no _).mono ?_; rintro e w' ⟨rfl, rfl⟩) | (go_at_call 30; refine (rrange_no _ _ _).mono ?_; rintro e w' ⟨rfl, rfl⟩))
  go_ret
  exact ⟨rfl, rfl⟩

theorem rfind_no (x : Int) (w : World) : Calls Try.prog 27 #[.pointer none, .int .i64 x] w fun e w' => e = .returned (.tuple #[.int .i64 0, .bool false]) ∧ w = w' := by
  go_enter Try.func27, Try.ntmps27
  go_wp2_with (go_at_call 39; refine (rvalid_no _).mono ?_; rintro e w' ⟨rfl, rfl⟩)
  go_ret2
  exact ⟨rfl, rfl⟩
theorem rfind_low (b s n : Nat) (C : Nat → Int) (x : Int) (hx : x < 0) (w : World) (hr : RC w b s n C) :
    Calls Try.prog 27 #[.pointer (some ⟨b, 0, none⟩), .int .i64 x] w fun e w' => e = .returned (.tuple #[.int .i64 0, .bool false]) ∧ w = w' := by
  go_enter Try.func27, Try.ntmps27
  go_wp2_with (go_at_call 39; refine (rvalid_ok b s n C _ hr.rw).mono ?_; rintro e w' ⟨rfl, rfl⟩)
  go_ret2
  exact ⟨rfl, rfl⟩

/-- what Find answers -/
def FindV (C : Nat → Int) (n : Nat) (x : Int) (v : Value) : Prop := (pre C n ≤ x ∧ v = .tuple #[.int .i64 0, .bool false]) ∨ (∃ i, Fw.Found C n x i ∧ v = .tuple #[.int .i64 (i : Nat), .bool true])

theorem rfind_any (b s n : Nat) (C : Nat → Int) (x : Int) (hx : 0 ≤ x) (hx1 : x ≤ 9223372036854775807) (w : World) (hr : RC w b s n C) :
    Calls Try.prog 27 #[.pointer (some ⟨b, 0, none⟩), .int .i64 x] w fun e w' => ∃ v, e = .returned v ∧ FindV C n x v ∧ w = w' := by
  obtain ⟨A, c, h1, _⟩ := hr.rw.cell1
  have hn := hr.hn
  have hd : decide (x < 0) = false := by simp; omega
  go_enter Try.func27, Try.ntmps27
  go_wp2_with (go_at_call 39; refine (rvalid_ok b s n C _ hr.rw).mono ?_; rintro e w' ⟨rfl, rfl⟩)
  go_loop [1, 6] (fun v k => ∃ q : Nat, k = .int .i64 q ∧ q ≤ n ∧ pre C q ≤ x ∧ v = .int .i64 (x - pre C q)) (fun _ k => n - (intOf k).toNat)
  case atStart => exact ⟨0, rfl, Nat.zero_le _, hx, by simp [pre]⟩
  case round =>
    obtain ⟨q, rfl, hq, hp, rfl⟩ := hrel
    by_cases hlt : q < n
    · obtain ⟨c', h1', _⟩ := hr.rw.cell1' (by omega)
      have h2 := hr.rw.at_ (i := q) (by omega)
      have b3 := hr.good.pre_nn (k := q) (by omega)
      have b4 := hr.good.nn q (by omega)
      have b5 := hr.good.le (k := q) hlt
      have e1 : pre C (q + 1) = pre C q + C q := rfl
      clear h1
      by_cases hy : x < pre C q + C q
      · have hy' : x - pre C q < C q := by omega
        have HF : Hid (Fw.Found C n x q) := ⟨hlt, hp, by rw [e1]; exact hy⟩
        clear e1
        go_wp2
        go_ret2
        exact ⟨_, rfl, .inr ⟨q, HF.out, rfl⟩, rfl⟩
      · have hy' : ¬ (x - pre C q < C q) := by omega
        have E1 := Lib.hid e1
        clear e1
        go_wp2
        go_round
        case rel => exact ⟨q + 1, by go_num, by omega, by rw [E1.out]; omega, by rw [E1.out]; congr 1; omega⟩
        case measure => simp [intOf]; omega
    · obtain rfl : q = n := by omega
      go_wp2
      go_ret2
      exact ⟨_, rfl, .inl ⟨hp, rfl⟩, rfl⟩

theorem radd_no (i d : Int) (w : World) : Calls Try.prog 23 #[.pointer none, .int .i64 i, .int .i64 d] w fun e w' => e = .returned (.int .i64 1) ∧ w = w' := by
  go_enter Try.func23, Try.ntmps23
  go_wp2_with (go_at_call 39; refine (rvalid_no _).mono ?_; rintro e w' ⟨rfl, rfl⟩)
  go_ret
  exact ⟨rfl, rfl⟩
theorem radd_out (b s n : Nat) (C : Nat → Int) (i d : Int) (hi : i < 0 ∨ (n : Int) ≤ i) (w : World) (hr : RC w b s n C) :
    Calls Try.prog 23 #[.pointer (some ⟨b, 0, none⟩), .int .i64 i, .int .i64 d] w fun e w' => e = .returned (.int .i64 3) ∧ w = w' := by
  obtain ⟨A, c, h1, _⟩ := hr.rw.cell1
  have hn := hr.hn
  rcases hi with hi | hi
  all_goals
    go_enter Try.func23, Try.ntmps23
    go_wp2_with (go_at_call 39; refine (rvalid_ok b s n C _ hr.rw).mono ?_; rintro e w' ⟨rfl, rfl⟩)
    go_ret
    exact ⟨rfl, rfl⟩
theorem radd_neg (b s n : Nat) (C : Nat → Int) (i : Nat) (d : Int) (hi : i < n) (hd : -9223372036854775808 ≤ d) (hlt : C i + d < 0) (w : World) (hr : RC w b s n C) :
    Calls Try.prog 23 #[.pointer (some ⟨b, 0, none⟩), .int .i64 i, .int .i64 d] w fun e w' => e = .returned (.int .i64 2) ∧ w = w' := by
  obtain ⟨c, h1, _⟩ := hr.rw.cell1' (by omega)
  have h2 := hr.rw.at_ hi
  have hn := hr.hn
  have b4 := hr.good.nn i hi
  have b5 := hr.good.le hi
  have hd0 : d < 0 := by omega
  go_enter Try.func23, Try.ntmps23
  go_wp2_with (go_at_call 39; refine (rvalid_ok b s n C _ hr.rw).mono ?_; rintro e w' ⟨rfl, rfl⟩)
  go_ret
  exact ⟨rfl, rfl⟩
theorem radd_over (b s n : Nat) (C : Nat → Int) (i : Nat) (d : Int) (hi : i < n) (hd1 : d ≤ 9223372036854775807) (hlt : 0 ≤ C i + d) (hov : 9223372036854775807 < pre C n + d) (w : World) (hr : RC w b s n C) :
    Calls Try.prog 23 #[.pointer (some ⟨b, 0, none⟩), .int .i64 i, .int .i64 d] w fun e w' => e = .returned (.int .i64 7) ∧ w = w' := by
  obtain ⟨c, h1, _⟩ := hr.rw.cell1' (by omega)
  have h2 := hr.rw.at_ hi
  have hn := hr.hn
  have b4 := hr.good.tot
  have b6 := hr.good.pre_nn (Nat.le_refl n)
  have hd0 : decide (d < 0) = false := by simp; omega
  have hd2 : 0 < d := by omega
  have hd3 : decide (9223372036854775807 - pre C n < d) = true := by simp; omega
  go_enter Try.func23, Try.ntmps23
  go_wp2_with (first | (go_at_call 39; refine (rvalid_ok b s n C _ hr.rw).mono ?_; rintro e w' ⟨rfl, rfl⟩) | (go_at_call 31; refine (rtotal_ok b s n C _ hr).mono ?_; rintro e w' ⟨rfl, rfl⟩))
  go_ret
  exact ⟨rfl, rfl⟩

end Go.Proofs.Ytjikfmacdacgaaa
