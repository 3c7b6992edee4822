/-
  Counters by their values: Prefix, Get, Range, Total; checked.Add.
-/
import Derived.Test.YtjikfmacdacgaaaW3
set_option linter.unusedVariables false
set_option linter.unusedSimpArgs false
namespace Go.Proofs.Ytjikfmacdacgaaa
open Go.RowKit Go.Shelf Fw

theorem wrap64_eq_w64 (n : Int) : wrap64 n = w64 n := by
  unfold wrap64 w64
  rfl

/-- counters in memory, by their values -/
structure FC (w : World) (b s n : Nat) (C : Nat → Int) : Prop where
  fw : FW w b s n (tree C)
  hn : n ≤ 65536
  good : GoodC n C
theorem FC.below {w w' : World} {b s n : Nat} {C : Nat → Int} (h : FC w b s n C) (hb : Below w.heap.size w w') : FC w' b s n C := ⟨h.fw.below hb, h.hn, h.good⟩
theorem FC.turns {w w' : World} {b s n : Nat} {C : Nat → Int} {S : Nat → Prop} (h : FC w b s n C) (ht : Turns S w w') (h1 : ¬ S b) (h2 : ¬ S s) : FC w' b s n C := ⟨h.fw.turns ht h1 h2, h.hn, h.good⟩

/-- an index, held within the bounds -/
def clip (n : Nat) (k : Int) : Nat := if k < n then k.toNat else n
theorem clip_le (n : Nat) (k : Int) : clip n k ≤ n := by unfold clip; split <;> omega
theorem clip_nat {n k : Nat} (h : k ≤ n) : clip n k = k := by unfold clip; split <;> omega
theorem clip_neg {n : Nat} {k : Int} (h : k ≤ 0) : clip n k = 0 := by unfold clip; split <;> omega
theorem clip_big {n : Nat} {k : Int} (h : n ≤ k) : clip n k = n := by unfold clip; split <;> omega
theorem clip_mono (n : Nat) {j k : Int} (h : j ≤ k) : clip n j ≤ clip n k := by unfold clip; split <;> split <;> omega

theorem prefix_ok (b s n : Nat) (C : Nat → Int) (k : Int) (w : World) (h : FC w b s n C) :
    Calls Try.prog 17 #[.pointer (some ⟨b, 0, none⟩), .int .i64 k] w fun e w' => ∃ v, e = .returned (.int .i64 v) ∧ Hid (v = pre C (clip n k)) ∧ 0 ≤ v ∧ v ≤ 9223372036854775807 ∧ Below w.heap.size w w' := by
  refine (prefix_walk b s n (tree C) k _ w h.fw h.hn rfl (by split <;> omega)).mono ?_
  rintro e w' ⟨ys, hys, rfl, hb⟩
  have e1 : (if (n : Int) < k then (n : Int) else k).toNat = clip n k := by
    unfold clip
    split <;> split <;> omega
  rw [e1] at hys
  have h2 := down_sum h.good ys _ 0 hys (clip_le n k) (Int.le_refl _) (by have := h.good.pre_le (clip_le n k); omega)
  have h3 : sumD (tree C) n ys = pre C (clip n k) := by
    rw [Int.zero_add] at h2
    have e2 : (fun (s : Int) (x : Nat) => wrap64 (s + tree C (cl n x))) = (fun s x => w64 (s + tree C (cl n x))) := by
      funext s x
      rw [wrap64_eq_w64]
    unfold sumD
    rw [e2]
    exact h2
  rw [h3]
  exact ⟨_, rfl, rfl, h.good.pre_nn (clip_le n k), h.good.pre_le (clip_le n k), hb⟩

theorem prefix_no (p : Option Addr) (k : Int) (w : World) (h : NoFw w p) :
    Calls Try.prog 17 #[.pointer p, .int .i64 k] w fun e w' => e = .returned (.int .i64 0) ∧ Below w.heap.size w w' := by
  have hv0 : Below w.heap.size w (w.alloc (.cells #[.pointer p] 24)) := (Below.refl _ _).alloc (Nat.le_refl _) _
  refine calls_of_marks Try.func17 rfl ?_
  simp only [Try.ntmps17, List.size_toArray, List.length_cons, List.length_nil, Nat.reduceAdd, Nat.reduceSub, Array.replicate_succ, Array.replicate_zero, List.push_toArray, List.append_toArray, List.nil_append, List.cons_append]
  go_wp2_with (go_at_call 33; refine (valid_no p _ (h.below hv0)).mono ?_; rintro e w' ⟨rfl, rfl⟩)
  exact postM_ret (results_tmp rfl _ _ _) rfl ⟨rfl, hv0⟩

theorem total_ok (b s n : Nat) (C : Nat → Int) (w : World) (h : FC w b s n C) :
    Calls Try.prog 19 #[.pointer (some ⟨b, 0, none⟩)] w fun e w' => ∃ v, e = .returned (.int .i64 v) ∧ Hid (v = pre C n) ∧ 0 ≤ v ∧ v ≤ 9223372036854775807 ∧ Below w.heap.size w w' := by
  go_enter Try.func19, Try.ntmps19
  go_wp2_with (first | (go_at_call 26; refine (len_ok b s n _ _ h.fw h.hn).mono ?_; rintro e w' ⟨rfl, rfl⟩) | (go_at_call 17; refine (prefix_ok b s n C _ _ h).mono ?_; rintro e w1 ⟨v, rfl, hv, hv0, hv1, hb⟩))
  go_ret
  exact ⟨v, rfl, by rw [hv.out, clip_nat (Nat.le_refl _)]; rfl, hv0, hv1, hb⟩

theorem total_no (p : Option Addr) (w : World) (h : NoFw w p) :
    Calls Try.prog 19 #[.pointer p] w fun e w' => e = .returned (.int .i64 0) ∧ Below w.heap.size w w' := by
  go_enter Try.func19, Try.ntmps19
  go_wp2_with (first | (go_at_call 26; refine (len_no p _ h).mono ?_; rintro e w' ⟨rfl, rfl⟩) | (go_at_call 17; refine (prefix_no p _ _ h).mono ?_; rintro e w1 ⟨rfl, hb⟩))
  go_ret
  exact ⟨rfl, hb⟩

theorem get_ok (b s n : Nat) (C : Nat → Int) (i : Nat) (hi : i < n) (w : World) (h : FC w b s n C) :
    Calls Try.prog 18 #[.pointer (some ⟨b, 0, none⟩), .int .i64 i] w fun e w' => ∃ v, e = .returned (.int .i64 v) ∧ Hid (v = C i) ∧ 0 ≤ v ∧ v ≤ 9223372036854775807 ∧ Below w.heap.size w w' := by
  have hn := h.hn
  go_enter Try.func18, Try.ntmps18
  go_wp2_with (go_at_call 26; refine (len_ok b s n _ _ h.fw h.hn).mono ?_; rintro e w' ⟨rfl, rfl⟩)
  refine (prefix_ok b s n C _ _ h).mono ?_
  rintro e w1 ⟨v1, rfl, hv, hv0, hv1, hb⟩
  go_wp2_with fail
  refine (prefix_ok b s n C _ _ (h.below hb)).mono ?_
  rintro e w2 ⟨v2, rfl, hu, hu0, hu1, hb2⟩
  go_wp2_with fail
  go_ret
  have e1 : v1 - v2 = C i := by
    rw [hv.out, hu.out, clip_nat (by omega), show ((i : Int) + 1) = ((i + 1 : Nat) : Int) by omega, clip_nat (by omega)]
    simp only [pre]; omega
  exact ⟨_, rfl, e1, by rw [e1]; exact h.good.nn i hi, by rw [e1]; exact h.good.le hi, hb.trans (hb2.mono hb.size)⟩

theorem get_out (b s n : Nat) (C : Nat → Int) (i : Int) (hi : i < 0 ∨ (n : Int) ≤ i) (w : World) (h : FC w b s n C) :
    Calls Try.prog 18 #[.pointer (some ⟨b, 0, none⟩), .int .i64 i] w fun e w' => e = .returned (.int .i64 0) ∧ w = w' := by
  have hn := h.hn
  rcases hi with hi | hi
  · go_enter Try.func18, Try.ntmps18
    go_wp2_with (go_at_call 26; refine (len_ok b s n _ _ h.fw h.hn).mono ?_; rintro e w' ⟨rfl, rfl⟩)
    go_ret
    exact ⟨rfl, rfl⟩
  · go_enter Try.func18, Try.ntmps18
    go_wp2_with (go_at_call 26; refine (len_ok b s n _ _ h.fw h.hn).mono ?_; rintro e w' ⟨rfl, rfl⟩)
    go_ret
    exact ⟨rfl, rfl⟩

theorem get_no (p : Option Addr) (i : Int) (w : World) (h : NoFw w p) :
    Calls Try.prog 18 #[.pointer p, .int .i64 i] w fun e w' => e = .returned (.int .i64 0) ∧ w = w' := by
  by_cases hi : i < 0
  all_goals
    go_enter Try.func18, Try.ntmps18
    go_wp2_with (go_at_call 26; refine (len_no p _ h).mono ?_; rintro e w' ⟨rfl, rfl⟩)
    go_ret
    exact ⟨rfl, rfl⟩

def rangeV (C : Nat → Int) (n : Nat) (i j : Int) : Int := if i < j then pre C (clip n j) - pre C (clip n i) else 0

theorem range_ok (b s n : Nat) (C : Nat → Int) (i j : Int) (w : World) (hfc : FC w b s n C) :
    Calls Try.prog 20 #[.pointer (some ⟨b, 0, none⟩), .int .i64 i, .int .i64 j] w fun e w' => ∃ v, e = .returned (.int .i64 v) ∧ Hid (v = rangeV C n i j) ∧ 0 ≤ v ∧ v ≤ 9223372036854775807 ∧ Below w.heap.size w w' := by
  by_cases hij : i < j
  · go_enter Try.func20, Try.ntmps20
    go_wp2_with fail
    refine (prefix_ok b s n C _ _ hfc).mono ?_
    rintro e w1 ⟨v1, rfl, hv, hv0, hv1, hb⟩
    go_wp2_with fail
    refine (prefix_ok b s n C _ _ (hfc.below hb)).mono ?_
    rintro e w2 ⟨v2, rfl, hu, hu0, hu1, hb2⟩
    go_wp2_with fail
    go_ret
    have e1 := pre_mono hfc.good.nn _ _ (clip_mono n (Int.le_of_lt hij)) (clip_le n j)
    rw [← hv.out, ← hu.out] at e1
    exact ⟨_, rfl, by unfold rangeV; rw [if_pos hij, ← hv.out, ← hu.out]; rfl, by omega, by omega, hb.trans (hb2.mono hb.size)⟩
  · go_enter Try.func20, Try.ntmps20
    go_wp2_with fail
    go_ret
    exact ⟨_, rfl, by unfold rangeV; rw [if_neg (by omega)]; rfl, by omega, by omega, Below.refl _ _⟩

theorem range_no (p : Option Addr) (i j : Int) (w : World) (h : NoFw w p) :
    Calls Try.prog 20 #[.pointer p, .int .i64 i, .int .i64 j] w fun e w' => e = .returned (.int .i64 0) ∧ Below w.heap.size w w' := by
  by_cases hij : i < j
  · go_enter Try.func20, Try.ntmps20
    go_wp2_with fail
    refine (prefix_no p _ _ h).mono ?_
    rintro e w1 ⟨rfl, hb⟩
    go_wp2_with fail
    refine (prefix_no p _ _ (h.below hb)).mono ?_
    rintro e w2 ⟨rfl, hb2⟩
    go_wp2_with fail
    go_ret
    exact ⟨rfl, hb.trans (hb2.mono hb.size)⟩
  · go_enter Try.func20, Try.ntmps20
    go_wp2_with fail
    go_ret
    exact ⟨rfl, Below.refl _ _⟩

/-- checked.Add, its first argument not below 0 -/
theorem cadd_fit (a d : Int) (w : World) (h0 : 0 ≤ a) (h1 : a ≤ 9223372036854775807) (h2 : -9223372036854775808 ≤ d) (h3 : a + d ≤ 9223372036854775807) :
    Calls Try.prog 37 #[.int .i64 a, .int .i64 d] w fun e w' => e = .returned (.tuple #[.int .i64 (a + d), .int .i64 0]) ∧ w = w' := by
  have ka : decide (a < 0) = false := by simp; omega
  by_cases hd : d < 0
  · by_cases hs : a + d < 0
    all_goals
      go_enter Try.func37, Try.ntmps37
      go_wp2
      go_ret2
      exact ⟨rfl, rfl⟩
  · have ks : decide (a + d < 0) = false := by simp; omega
    go_enter Try.func37, Try.ntmps37
    go_wp2
    go_ret2
    exact ⟨rfl, rfl⟩
theorem cadd_over (a d : Int) (w : World) (h0 : 0 ≤ a) (h1 : a ≤ 9223372036854775807) (h2 : d ≤ 9223372036854775807) (h3 : 9223372036854775807 < a + d) :
    Calls Try.prog 37 #[.int .i64 a, .int .i64 d] w fun e w' => e = .returned (.tuple #[.int .i64 0, .int .i64 7]) ∧ w = w' := by
  have ka : decide (a < 0) = false := by simp; omega
  have kd : decide (d < 0) = false := by simp; omega
  have hw : decide (wrap64 (a + d) < 0) = true := by simp [wrap64]; omega
  go_enter Try.func37, Try.ntmps37
  go_wp2
  go_ret2
  exact ⟨rfl, rfl⟩

end Go.Proofs.Ytjikfmacdacgaaa
