/-
  CoresSets.
-/
import Derived.Test.YtoiafopndlnknaaK8
set_option linter.unusedVariables false
set_option linter.unusedSimpArgs false
namespace Go.Proofs.Ytoiafopndlnknaa
open Go.RowKit Go.Shelf

theorem colF_fits (E : Es) (hE : E.length ≤ 16384) : ∀ (l : List Nat) (u : Nat), -1 ≤ colF E l.reverse u ∧ colF E l.reverse u ≤ 16384
  | [], u => ⟨Int.le_refl _, by show (-1 : Int) ≤ _; omega⟩
  | v :: l, u => by
    rw [List.reverse_cons, colF_snoc]
    have ih := colF_fits E hE l u
    unfold colStep
    split
    · have h := (mex_spec ((oth E v E.length).map (colF E l.reverse))).1
      have hl : ((oth E v E.length).map (colF E l.reverse)).length ≤ E.length := by
        rw [List.length_map]
        unfold oth
        rw [List.length_map]
        exact cnt_le E v E.length
      omega
    · exact ih
theorem shells_le (f : Nat → Nat) (n G : Nat) (hn : n ≤ 4096) (hG : G ≤ 20000) : (∀ x ∈ shellsL f n G, x ≤ 1000000) ∧ (shellsL f n G).length ≤ 100000 := by
  unfold shellsL
  by_cases h0 : n = 0
  · rw [if_pos h0]
    exact ⟨fun x hx => by (cases hx), Nat.zero_le _⟩
  · rw [if_neg h0]
    refine ⟨fun x hx => ?_, by simp; omega⟩
    obtain ⟨k, _, rfl⟩ := List.mem_map.1 hx
    have := cntN_le f n k
    omega
theorem core_le (E : Es) (n : Nat) (k : Int) (hn : n ≤ 4096) : (∀ x ∈ coreL E n k, x ≤ 1000000) ∧ (coreL E n k).length ≤ 100000 := by
  refine ⟨fun x hx => by have := (coreL_mem.1 hx).1; omega, ?_⟩
  unfold coreL
  have := List.length_filter_le (fun v => decide (k ≤ (num E n v : Nat))) (List.range n)
  rw [List.length_range] at this
  omega
theorem most_le (E : Es) (n : Nat) (hE : E.length ≤ 16384) : most E n ≤ 20000 := by
  obtain ⟨_, h2, h3⟩ := most_is E n
  rcases Nat.eq_zero_or_pos n with h0 | h0
  · rw [h3 h0]; omega
  · obtain ⟨v, _, e⟩ := h2 h0
    rw [e]
    exact num_le20 E n v hE
set_option maxRecDepth 100000 in
set_option maxHeartbeats 4000000 in
theorem sets_walk (N : Int) (n c : Nat) (A : Option Addr) (z : Nat → Nat → Int) (k : Int) (w : World) (hN : (Lit.int .u8 N).wf = true) (ha : ArgS [.u8, .u8] w A n c z) :
    Calls Try.prog 11 #[.int .u8 N, .slice A n c, .int .i64 k] w fun e w' => e = .returned (.bool true) ∧ Below w.heap.size w w' := by
  have x := drawn_ok N n c A z w hN ha
  clear ha hN
  go_enter Try.func11, Try.ntmps11
  go_wp2_with fail
  refine x.mono ?_
  rintro e w1 ⟨m, v, E, rfl, hm, hEl, hF, hE, q⟩
  clear x
  obtain ⟨A2, c2, rfl, hEA, _⟩ := hE.ea hF
  clear hE
  have x := new_ea hEA hF
  go_wp2_with fail
  refine x.mono ?_
  rintro e w2 ⟨K, rfl, hG, v1⟩
  have hEA := hEA.below v1
  have q := below_end q q.size v1
  clear x v1
  have x := densest_v hG
  obtain ⟨⟨dk, dn, dd⟩, hd⟩ : ∃ s, densV E m = s := ⟨_, rfl⟩
  have HD := Lib.hid hd
  rw [hd] at x
  simp only [] at x
  clear hd
  go_wp2_with fail
  refine x.mono ?_
  rintro e w3 ⟨rfl, v1⟩
  have ka := Blk.new w3 42 #[.int .i64 (dn : Int), .int .i64 (dd : Int)]
  have v1 := below_end v1 v1.size (below_new1 w3 (.cells #[.int .i64 (dn : Int), .int .i64 (dd : Int)] 42))
  have hEA := hEA.below v1
  have hG := hG.below v1
  have q := below_end q q.size v1
  clear x v1
  go_upto_region 6 with fail
  generalize w3.alloc (.cells #[.int .i64 (dn : Int), .int .i64 (dd : Int)] 42) = W3 at *
  generalize w3.heap.size = gA at *
  have x := rdensest_ok hEA hF
  rw [HD.out] at x
  simp only [] at x
  go_wp2_with fail
  refine x.mono ?_
  rintro e w4 ⟨rfl, v1⟩
  have kb := Blk.new w4 42 #[.int .i64 (dn : Int), .int .i64 (dd : Int)]
  have v1 := below_end v1 v1.size (below_new1 w4 (.cells #[.int .i64 (dn : Int), .int .i64 (dd : Int)] 42))
  have hEA := hEA.below v1
  have hG := hG.below v1
  have ka := ka.below v1 ka.lt
  have q := below_end q q.size v1
  clear x v1
  go_upto_region 7 with fail
  generalize w4.alloc (.cells #[.int .i64 (dn : Int), .int .i64 (dd : Int)] 42) = W4 at *
  generalize w4.heap.size = gB at *
  have a0 := ka.cell 0
  have a1 := ka.cell 1
  have b0 := kb.cell 0
  have b1 := kb.cell 1
  simp at a0 a1 b0 b1
  clear ka kb
  have x := core_ok hG k
  go_wp2_with fail
  refine x.mono ?_
  rintro e w5 ⟨vo, rfl, ro, v1⟩
  have hEA := hEA.below v1
  have hG := hG.below v1
  have q := below_end q q.size v1
  clear x v1 a0 a1 b0 b1
  have x := rcore_ok hEA hF k
  go_wp2_with fail
  refine x.mono ?_
  rintro e w6 ⟨vr, rfl, rr, v1⟩
  have hEA := hEA.below v1
  have hG := hG.below v1
  have ro := ro.below v1
  have q := below_end q q.size v1
  clear x v1
  obtain ⟨Ao, Ar, co, cr, rfl, rfl, x⟩ := rows_same ro rr (core_le E m k hF.1).1 (core_le E m k hF.1).2
  clear ro rr
  go_wp2_with fail
  refine x.mono ?_
  rintro e w7 ⟨rfl, v1⟩
  have hEA := hEA.below v1
  have hG := hG.below v1
  have q := below_end q q.size v1
  clear x v1
  have x := shells_ok hG
  go_wp2_with fail
  refine x.mono ?_
  rintro e w8 ⟨vo, G, rfl, hmx, ro, v1⟩
  obtain rfl := hmx.uniq (most_is E m)
  have hEA := hEA.below v1
  have hG := hG.below v1
  have q := below_end q q.size v1
  clear x v1 hmx
  have x := rshells_ok hEA hF
  go_wp2_with fail
  refine x.mono ?_
  rintro e w9 ⟨vr, rfl, rr, v1⟩
  have hEA := hEA.below v1
  have hG := hG.below v1
  have ro := ro.below v1
  have q := below_end q q.size v1
  clear x v1
  obtain ⟨Ap, Aq, cp, cq, rfl, rfl, x⟩ := rows_same ro rr (shells_le _ m _ hF.1 (most_le E m hF.2.1)).1 (shells_le _ m _ hF.1 (most_le E m hF.2.1)).2
  clear ro rr
  go_wp2_with fail
  refine x.mono ?_
  rintro e w10 ⟨rfl, v1⟩
  have hEA := hEA.below v1
  have hG := hG.below v1
  have q := below_end q q.size v1
  clear x v1
  have x := colors_ok hG
  go_wp2_with fail
  refine x.mono ?_
  rintro e w11 ⟨gn, rfl, _, ro, v1⟩
  have hEA := hEA.below v1
  have q := below_end q q.size v1
  clear x v1 hG
  have x := rcolors_ok hEA hF
  go_wp2_with fail
  refine x.mono ?_
  rintro e w12 ⟨gr, rfl, _, rr, v1⟩
  have ro := ro.below' v1
  have q := below_end q q.size v1
  clear x v1 hEA
  have x := rowF_same ro rr (by omega) (fun i hi => by have := colF_fits E hF.2.1 (ord E m) i; exact ⟨by omega, by omega⟩)
  clear ro rr
  go_wp2_with fail
  refine x.mono ?_
  rintro e w13 ⟨rfl, v1⟩
  have q := below_end q q.size v1
  clear x v1
  have x := works_ok w13
  go_wp2_with fail
  refine x.mono ?_
  rintro e w14 ⟨rfl, v1⟩
  have q := below_end q q.size v1
  clear x v1
  go_wp2_with fail
  go_ret
  exact ⟨rfl, q⟩
end Go.Proofs.Ytoiafopndlnknaa
