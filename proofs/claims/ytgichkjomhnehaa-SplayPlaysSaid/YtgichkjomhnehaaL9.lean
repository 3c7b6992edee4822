/-
  SplayNews, walked.
-/
import Derived.Test.YtgichkjomhnehaaT15
set_option linter.unusedVariables false
set_option linter.unusedSectionVars false
set_option linter.unusedSimpArgs false
namespace Go.Proofs.Ytgichkjomhnehaa
open Go.RowKit Go.Shelf

theorem made_ss {w1 w2 w : World} {b s r n : Nat} (h : SQ w1 b s n (fun x => [x]) (fun _ => 0)) (hb : w.heap.size ≤ b) (hs : w.heap.size ≤ s) (hr : RL w2 r w1.heap.size n (oneL n) (fun _ => 0)) (q : Below w.heap.size w w1) (v : Below w1.heap.size w1 w2) :
    SS w2 (some ⟨b, 0, none⟩) w.heap.size w1.heap.size n (fun x => [x]) (fun _ => 0) 3 ∧ RS w2 (some ⟨r, 0, none⟩) w1.heap.size n (fun x => [x]) (fun _ => 0) 3 ∧ n ≤ 1000 := by
  have hl := h.lt
  exact ⟨⟨q.size, v.size, .inr ⟨b, s, rfl, hs, hl.1, hl.2.1, h.below v, rfl⟩⟩, ⟨v.size, .inr ⟨r, _, rfl, hr, LQ.start n, rfl⟩⟩, hr.2.1⟩
theorem nil_ss (w : World) (c : Nat) (hc : c ≤ w.heap.size) : SS w none c c 0 (fun x => [x]) (fun _ => 0) 1 ∧ RS w none c 0 (fun x => [x]) (fun _ => 0) 1 :=
  ⟨⟨Nat.le_refl _, hc, .inl ⟨rfl, rfl, rfl⟩⟩, ⟨hc, .inl ⟨rfl, rfl, rfl⟩⟩⟩
theorem step_fits {a : Nat → Int} (hw : ∀ j k, [IntKind.i64, .i64, .i64, .i64, .i64][j]? = some k → (Lit.int k (a j)).wf = true) : Fits (a 1) ∧ Fits (a 2) ∧ Fits (a 3) := ⟨wf_i64 (hw 1 _ rfl), wf_i64 (hw 2 _ rfl), wf_i64 (hw 3 _ rfl)⟩
set_option maxRecDepth 100000 in
set_option maxHeartbeats 2500000 in
theorem news_bad (N : Int) (hN : N < 0 ∨ 65536 < N) (D X Y V K : Int) (w : World) (hX : Fits X) (hY : Fits Y) :
    Calls Try.prog 9 #[.int .i64 N, .agg #[.int .i64 D, .int .i64 X, .int .i64 Y, .int .i64 V, .int .i64 K]] w fun e w' => e = .returned (.bool true) ∧ Below w.heap.size w w' := by
  have q0 := below_new1 w (.cells #[.int .i64 D, .int .i64 X, .int .i64 Y, .int .i64 V, .int .i64 K] 55)
  have k0 := Blk.new w 55 #[.int .i64 D, .int .i64 X, .int .i64 Y, .int .i64 V, .int .i64 K]
  have n1 : (N == 65536) = false := by rw [beq_eq_false_iff_ne]; omega
  have n2 : ¬ N = 65536 := by omega
  have HN := Lib.hid hN
  have hd : (300 < N ∧ ¬ N < 65536) ∨ ¬ 300 < N := by omega
  clear hN
  rcases hd with ⟨d1, d2⟩ | d1
  all_goals
    go_enter Try.func9, Try.ntmps9
    go_upto_region 3 with fail
    generalize w.alloc (.cells #[.int .i64 D, .int .i64 X, .int .i64 Y, .int .i64 V, .int .i64 K] 55) = W0 at *
    have hz0 := q0.size
    have x0 := new_bad N W0 HN.out
    go_wp2_with fail
    refine x0.mono ?_
    rintro e w1 ⟨rfl, rfl⟩
    have x1 := rnew_bad N W0 HN.out
    clear x0
    go_wp2_with fail
    refine x1.mono ?_
    rintro e w2 ⟨rfl, rfl⟩
    obtain ⟨hS, hR⟩ := nil_ss W0 W0.heap.size (Nat.le_refl _)
    have f0 := k0.cell 0
    have f1 := k0.cell 1
    have f2 := k0.cell 2
    have f3 := k0.cell 3
    have f4 := k0.cell 4
    simp at f0 f1 f2 f3 f4
    have x2 := agree_ok W0 _ _ _ _ 0 _ _ 1 D X Y V K hS hR (by omega) hX hY
    clear x1 k0 hS hR
    go_wp2_with fail
    refine x2.mono ?_
    rintro e w3 ⟨rfl, _, _, T⟩
    have q3 : Below w.heap.size w w3 := q0.trans (T.below q0.size (fun k hk hS => by omega))
    have x3 := works_ok w3
    clear x2 f0 f1 f2 f3 f4
    go_wp2_with fail
    refine x3.mono ?_
    rintro e w4 ⟨rfl, v4⟩
    have q4 := below_end q3 q3.size v4
    go_wp2_with fail
    go_ret
    exact ⟨rfl, q4⟩
set_option maxRecDepth 100000 in
set_option maxHeartbeats 2500000 in
theorem news_top (D X Y V K : Int) (w : World) :
    Calls Try.prog 9 #[.int .i64 65536, .agg #[.int .i64 D, .int .i64 X, .int .i64 Y, .int .i64 V, .int .i64 K]] w fun e w' => e = .returned (.bool true) ∧ Below w.heap.size w w' := by
  have q0 := below_new1 w (.cells #[.int .i64 D, .int .i64 X, .int .i64 Y, .int .i64 V, .int .i64 K] 55)
  go_enter Try.func9, Try.ntmps9
  go_upto_region 3 with fail
  generalize w.alloc (.cells #[.int .i64 D, .int .i64 X, .int .i64 Y, .int .i64 V, .int .i64 K] 55) = W0 at *
  have hz0 := q0.size
  have x0 : Calls Try.prog 21 #[.int .i64 65536] W0 _ := new_ok 65536 W0 (by omega)
  go_wp2_with fail
  refine x0.mono ?_
  rintro e w1 ⟨b, s, rfl, h, hb, hs, q⟩
  have q1 := below_end q0 hz0 q
  have hs2 : w.heap.size ≤ s := by omega
  have x1 : Calls Try.prog 24 #[.pointer (some ⟨b, 0, none⟩), .int .i64 65535] w1 fun e w' => e = .returned (.int .i64 1) ∧ SQ w' b s 65536 (fun x => [x]) (fun _ => 0) ∧ Turns (· = s) w1 w' := len_ok b s 65536 _ _ 65535 w1 h (by omega)
  clear x0
  go_wp2_with fail
  refine x1.mono ?_
  rintro e w2 ⟨rfl, h, T⟩
  have q2 := below_step q1 hs2 T
  have x2 : Calls Try.prog 15 #[.pointer (some ⟨b, 0, none⟩), .int .i64 65535] w2 fun e w' => e = .returned (.int .i64 0) ∧ SQ w' b s 65536 (fun x => [x]) (fun _ => 0) ∧ Turns (· = s) w2 w' := (pos_ok b s 65536 _ _ 65535 w2 h (by omega)).mono fun e w' ⟨k, h1, hk, h2⟩ => by
    obtain rfl : k = 0 := by
      unfold IsPos at hk
      rcases k with _ | k
      · rfl
      · simp at hk
    exact ⟨h1, h2⟩
  clear x1 T
  go_wp2_with fail
  refine x2.mono ?_
  rintro e w3 ⟨rfl, h, T⟩
  have q3 := below_step q2 hs2 T
  have hsl := h.lt.2.1
  have x3 : Calls Try.prog 14 #[.pointer (some ⟨b, 0, none⟩), .int .i64 65535] w3 fun e w' => ∃ v, e = .returned v ∧ RowL w' w3.heap.size v [65535] ∧ SQ w' b s 65536 (fun x => [x]) (fun _ => 0) ∧ Turns (· = s) w3 w' := list_ok b s 65536 _ _ 65535 w3 h (by omega)
  clear x2 T
  go_wp2_with fail
  refine x3.mono ?_
  rintro e w4 ⟨v4, rfl, r4, h, T⟩
  have q4 := below_step q3 hs2 T
  obtain ⟨A4, c4, e4, a4⟩ := row_list r4 [65535] (by decide) (fun i hi => by
    obtain rfl : i = 0 := by simp at hi; omega
    rfl)
  have e4 : v4 = .slice A4 1 c4 := e4
  subst e4
  have x4 := known_same 1 c4 A4 [65535] #[.int .i64 65535] w4 a4 rfl rfl (by omega) (by decide)
  clear x3 T r4 a4
  go_wp2_with fail
  refine x4.mono ?_
  rintro e w5 ⟨rfl, v5⟩
  have q5 := below_end q4 q4.size v5
  have h := h.below v5
  have x5 := list_out (some ⟨b, 0, none⟩) 65536 w5 (noNode_out h (by decide))
  clear x4
  go_wp2_with fail
  refine x5.mono ?_
  rintro e w6 ⟨rfl, rfl⟩
  have x6 := works_ok w5
  clear x5 h
  go_wp2_with fail
  refine x6.mono ?_
  rintro e w7 ⟨rfl, v7⟩
  have q7 := below_end q5 q5.size v7
  go_wp2_with fail
  go_ret
  exact ⟨rfl, q7⟩
set_option maxRecDepth 100000 in
set_option maxHeartbeats 2500000 in
theorem news_low (n : Nat) (hn : n ≤ 300) (D X Y V K : Int) (w : World) (hX : Fits X) (hY : Fits Y) :
    Calls Try.prog 9 #[.int .i64 (n : Int), .agg #[.int .i64 D, .int .i64 X, .int .i64 Y, .int .i64 V, .int .i64 K]] w fun e w' => e = .returned (.bool true) ∧ Below w.heap.size w w' := by
  have q0 := below_new1 w (.cells #[.int .i64 D, .int .i64 X, .int .i64 Y, .int .i64 V, .int .i64 K] 55)
  have k0 := Blk.new w 55 #[.int .i64 D, .int .i64 X, .int .i64 Y, .int .i64 V, .int .i64 K]
  have n1 : ((n : Int) == 65536) = false := by rw [beq_eq_false_iff_ne]; omega
  have n2 : ¬ (n : Int) = 65536 := by omega
  have n3 : ¬ 300 < (n : Int) := by omega
  go_enter Try.func9, Try.ntmps9
  go_upto_region 3 with fail
  generalize w.alloc (.cells #[.int .i64 D, .int .i64 X, .int .i64 Y, .int .i64 V, .int .i64 K] 55) = W0 at *
  have hz0 := q0.size
  have x0 : Calls Try.prog 21 #[.int .i64 (n : Int)] W0 _ := new_ok n W0 (by omega)
  go_wp2_with fail
  refine x0.mono ?_
  rintro e w1 ⟨b, s, rfl, h, hb, hs, q⟩
  have q1 := below_end q0 hz0 q
  have k1 := k0.below q k0.lt
  have x1 : Calls Try.prog 31 #[.int .i64 (n : Int)] w1 _ := rnew_ok n w1 (by omega)
  clear x0
  go_wp2_with fail
  refine x1.mono ?_
  rintro e w2 ⟨r, rfl, hr, hR, v⟩
  obtain ⟨hS, hR, hn⟩ := made_ss h hb hs hR q v
  have k2 := k1.below v k1.lt
  have q2 := below_end q1 q1.size v
  have f0 := k2.cell 0
  have f1 := k2.cell 1
  have f2 := k2.cell 2
  have f3 := k2.cell 3
  have f4 := k2.cell 4
  simp at f0 f1 f2 f3 f4
  have x2 := agree_ok w2 _ _ _ _ n _ _ 3 D X Y V K hS hR hn hX hY
  have hz1 := q.size
  clear x1 h hr k0 k1 k2 q v hS hR
  go_wp2_with fail
  refine x2.mono ?_
  rintro e w3 ⟨rfl, _, _, T⟩
  have q3 : Below w.heap.size w w3 := q2.trans (T.below q2.size (fun k hk hS => by omega))
  have x3 := works_ok w3
  clear x2 f0 f1 f2 f3 f4
  go_wp2_with fail
  refine x3.mono ?_
  rintro e w4 ⟨rfl, v4⟩
  have q4 := below_end q3 q3.size v4
  go_wp2_with fail
  go_ret
  exact ⟨rfl, q4⟩
set_option maxRecDepth 100000 in
set_option maxHeartbeats 2500000 in
theorem news_mid (N : Int) (h1 : 300 < N) (h2 : N < 65536) (D X Y V K : Int) (w : World) (hX : Fits X) (hY : Fits Y) :
    Calls Try.prog 9 #[.int .i64 N, .agg #[.int .i64 D, .int .i64 X, .int .i64 Y, .int .i64 V, .int .i64 K]] w fun e w' => e = .returned (.bool true) ∧ Below w.heap.size w w' := by
  have q0 := below_new1 w (.cells #[.int .i64 D, .int .i64 X, .int .i64 Y, .int .i64 V, .int .i64 K] 55)
  have k0 := Blk.new w 55 #[.int .i64 D, .int .i64 X, .int .i64 Y, .int .i64 V, .int .i64 K]
  go_enter Try.func9, Try.ntmps9
  go_upto_region 3 with fail
  generalize w.alloc (.cells #[.int .i64 D, .int .i64 X, .int .i64 Y, .int .i64 V, .int .i64 K] 55) = W0 at *
  have hz0 := q0.size
  have x0 : Calls Try.prog 21 #[.int .i64 300] W0 _ := new_ok 300 W0 (by omega)
  go_wp2_with fail
  refine x0.mono ?_
  rintro e w1 ⟨b, s, rfl, h, hb, hs, q⟩
  have q1 := below_end q0 hz0 q
  have k1 := k0.below q k0.lt
  have x1 : Calls Try.prog 31 #[.int .i64 300] w1 _ := rnew_ok 300 w1 (by omega)
  clear x0
  go_wp2_with fail
  refine x1.mono ?_
  rintro e w2 ⟨r, rfl, hr, hR, v⟩
  obtain ⟨hS, hR, hn⟩ := made_ss h hb hs hR q v
  have k2 := k1.below v k1.lt
  have q2 := below_end q1 q1.size v
  have f0 := k2.cell 0
  have f1 := k2.cell 1
  have f2 := k2.cell 2
  have f3 := k2.cell 3
  have f4 := k2.cell 4
  simp at f0 f1 f2 f3 f4
  have x2 := agree_ok w2 _ _ _ _ 300 _ _ 3 D X Y V K hS hR hn hX hY
  have hz1 := q.size
  clear x1 h hr k0 k1 k2 q v hS hR
  go_wp2_with fail
  refine x2.mono ?_
  rintro e w3 ⟨rfl, _, _, T⟩
  have q3 : Below w.heap.size w w3 := q2.trans (T.below q2.size (fun k hk hS => by omega))
  have x3 := works_ok w3
  clear x2 f0 f1 f2 f3 f4
  go_wp2_with fail
  refine x3.mono ?_
  rintro e w4 ⟨rfl, v4⟩
  have q4 := below_end q3 q3.size v4
  go_wp2_with fail
  go_ret
  exact ⟨rfl, q4⟩
theorem news_walk (N : Int) (a : Nat → Int) (w : World) (hw : ∀ j k, [IntKind.i64, .i64, .i64, .i64, .i64][j]? = some k → (Lit.int k (a j)).wf = true) :
    Calls Try.prog 9 #[.int .i64 N, .agg #[.int .i64 (a 0), .int .i64 (a 1), .int .i64 (a 2), .int .i64 (a 3), .int .i64 (a 4)]] w fun e w' => e = .returned (.bool true) ∧ Below w.heap.size w w' := by
  obtain ⟨hX, hY, _⟩ := step_fits hw
  by_cases h1 : N < 0 ∨ 65536 < N
  · exact news_bad N h1 _ _ _ _ _ w hX hY
  by_cases h2 : N = 65536
  · subst h2
    exact news_top _ _ _ _ _ w
  by_cases h3 : N ≤ 300
  · obtain ⟨n, rfl⟩ : ∃ n : Nat, N = n := ⟨N.toNat, by omega⟩
    exact news_low n (by omega) _ _ _ _ _ w hX hY
  · exact news_mid N (by omega) (by omega) _ _ _ _ _ w hX hY
end Go.Proofs.Ytgichkjomhnehaa
