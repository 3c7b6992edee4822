/-
  CoresRaw.
-/
import Derived.Test.YtoiafopndlnknaaL11
import Derived.Test.YtoiafopndlnknaaN2
set_option linter.unusedVariables false
set_option linter.unusedSimpArgs false
namespace Go.Proofs.Ytoiafopndlnknaa
open Go.RowKit Go.Shelf

theorem good_ea {w : World} {A : Option Addr} {N : Int} {m c : Nat} {z : Nat → Nat → Int} (ha : ArgS k3 w A m c z) (hg : Good N m z) : EA w A c (esOf z m) := by
  refine ⟨z, by rw [esOf_len]; exact ha, fun i hi => ?_⟩
  rw [esOf_len] at hi
  rw [esOf_edge z hi]
  obtain ⟨h1, h2, h3, h4, h5⟩ := hg.2.2.2 i hi
  exact ⟨by show z i 0 = (((z i 0).toNat : Nat) : Int); omega, by show z i 1 = (((z i 1).toNat : Nat) : Int); omega⟩
theorem Good.fine2 {N : Int} {m : Nat} {z : Nat → Nat → Int} (h : Good N m z) : Fine N.toNat (esOf z m) := by
  have h0 := h.1
  obtain ⟨n, rfl⟩ : ∃ n : Nat, N = n := ⟨N.toNat, by omega⟩
  rw [Int.toNat_natCast]
  exact Good.fine h
set_option maxRecDepth 100000 in
set_option maxHeartbeats 8000000 in
theorem raw_walk (N : Int) (m c : Nat) (A : Option Addr) (z : Nat → Nat → Int) (k : Int) (w : World) (ha : ArgS k3 w A m c z) :
    Calls Try.prog 12 #[.int .i64 N, .slice A m c, .int .i64 k] w fun e w' => e = .returned (.bool true) ∧ Below w.heap.size w w' := by
  have hmc := ha.1
  have hc63 := ha.2.1
  by_cases hout : (60 < N ∧ N ≤ 4096) ∨ 200 < m
  · have x := works_ok w
    clear ha
    by_cases h1 : 60 < N
    · by_cases h2 : N ≤ 4096
      · go_enter Try.func12, Try.ntmps12
        go_wp2_with fail
        refine x.mono ?_
        rintro e w14 ⟨rfl, v1⟩
        go_wp2_with fail
        go_ret
        exact ⟨rfl, v1⟩
      · have h3 : 200 < (m : Int) := by omega
        go_enter Try.func12, Try.ntmps12
        go_wp2_with fail
        refine x.mono ?_
        rintro e w14 ⟨rfl, v1⟩
        go_wp2_with fail
        go_ret
        exact ⟨rfl, v1⟩
    · have h3 : 200 < (m : Int) := by omega
      go_enter Try.func12, Try.ntmps12
      go_wp2_with fail
      refine x.mono ?_
      rintro e w14 ⟨rfl, v1⟩
      go_wp2_with fail
      go_ret
      exact ⟨rfl, v1⟩
  · have h3 : ¬ 200 < (m : Int) := by omega
    have hcond : (¬ 60 < N) ∨ (60 < N ∧ ¬ N ≤ 4096) := by omega
    have x := new_any N m c A z w ha
    have HA := Lib.hid (fun (W : World) (q : Below w.heap.size w W) => ha.below q)
    clear ha hout
    rcases hcond with h1 | ⟨h1, h2⟩
    all_goals
      go_enter Try.func12, Try.ntmps12
      go_wp2_with fail
      refine x.mono ?_
      rintro e w1 ⟨hN, q⟩
      clear x
      rcases hN with ⟨hgood, K, rfl, hG⟩ | ⟨hno, cd, hcd, rfl⟩
      · have hF := hgood.fine2
        have HEA := Lib.hid (fun (W : World) (q : Below w.heap.size w W) => good_ea (HA.out W q) hgood)
        have hN0 := hgood.1
        have hel := esOf_len z m
        obtain ⟨n, rfl⟩ : ∃ n : Nat, N = n := ⟨N.toNat, by omega⟩
        rw [Int.toNat_natCast] at hF hG
        obtain ⟨E, hE⟩ : ∃ E, esOf z m = E := ⟨_, rfl⟩
        rw [hE] at hF hG HEA hel
        have HEL := Lib.hid hel
        clear hE hel hgood hN0
        have x := densest_v hG
        obtain ⟨⟨dk, dn, dd⟩, hd⟩ : ∃ s, densV E n = s := ⟨_, rfl⟩
        have HD := Lib.hid hd
        rw [hd] at x
        simp only [] at x
        clear hd
        go_wp2_with fail
        refine x.mono ?_
        rintro e w3 ⟨rfl, v1⟩
        have ka := Blk.new w3 42 #[.int .i64 (dn : Int), .int .i64 (dd : Int)]
        have v1 := below_end v1 v1.size (below_new1 w3 (.cells #[.int .i64 (dn : Int), .int .i64 (dd : Int)] 42))
        have hG := hG.below v1
        have q := below_end q q.size v1
        clear x v1
        go_upto_region 5 with fail
        generalize w3.alloc (.cells #[.int .i64 (dn : Int), .int .i64 (dd : Int)] 42) = W3 at *
        generalize w3.heap.size = gA at *
        have x := rdensest_ok (HEA.out _ q) hF
        rw [HD.out, HEL.out] at x
        simp only [] at x
        go_wp2_with fail
        refine x.mono ?_
        rintro e w4 ⟨rfl, v1⟩
        have kb := Blk.new w4 42 #[.int .i64 (dn : Int), .int .i64 (dd : Int)]
        have v1 := below_end v1 v1.size (below_new1 w4 (.cells #[.int .i64 (dn : Int), .int .i64 (dd : Int)] 42))
        have hG := hG.below v1
        have ka := ka.below v1 ka.lt
        have q := below_end q q.size v1
        clear x v1
        go_upto_region 8 with fail
        generalize w4.alloc (.cells #[.int .i64 (dn : Int), .int .i64 (dd : Int)] 42) = W4 at *
        generalize w4.heap.size = gB at *
        have a0 := ka.cell 0
        have a1 := ka.cell 1
        have b0 := kb.cell 0
        have b1 := kb.cell 1
        simp at a0 a1 b0 b1
        clear ka kb
        have x := order_ok hG
        go_wp2_with fail
        refine x.mono ?_
        rintro e w5 ⟨vo, rfl, ro, v1⟩
        have hG := hG.below v1
        have q := below_end q q.size v1
        clear x v1 a0 a1 b0 b1
        have x := rorder_ok (HEA.out _ q) hF
        rw [HEL.out] at x
        go_wp2_with fail
        refine x.mono ?_
        rintro e w6 ⟨vr, rfl, rr, v1⟩
        have hG := hG.below v1
        have ro := ro.below v1
        have q := below_end q q.size v1
        clear x v1
        obtain ⟨Ao, Ar, co, cr, rfl, rfl, x⟩ := rows_same ro rr (fun x hx => by have := ord_lt hx; have := hF.1; omega) (by rw [ord_len]; have := hF.1; omega)
        clear ro rr
        go_wp2_with fail
        refine x.mono ?_
        rintro e w7 ⟨rfl, v1⟩
        have hG := hG.below v1
        have q := below_end q q.size v1
        clear x v1
        have x := core_ok hG k
        go_wp2_with fail
        refine x.mono ?_
        rintro e w8 ⟨vo, rfl, ro, v1⟩
        have q := below_end q q.size v1
        clear x v1 hG
        have x := rcore_ok (HEA.out _ q) hF k
        rw [HEL.out] at x
        go_wp2_with fail
        refine x.mono ?_
        rintro e w9 ⟨vr, rfl, rr, v1⟩
        have ro := ro.below v1
        have q := below_end q q.size v1
        clear x v1
        obtain ⟨Ap, Aq, cp, cq, rfl, rfl, x⟩ := rows_same ro rr (core_le E n k hF.1).1 (core_le E n k hF.1).2
        clear ro rr
        go_wp2_with fail
        refine x.mono ?_
        rintro e w10 ⟨rfl, v1⟩
        have q := below_end q q.size v1
        clear x v1
        have x := works_ok w10
        go_wp2_with fail
        refine x.mono ?_
        rintro e w14 ⟨rfl, v1⟩
        have q := below_end q q.size v1
        clear x v1
        go_wp2_with fail
        go_ret
        exact ⟨rfl, q⟩
      · have hN : NoGr w1 none := .inl rfl
        have hcd1 : (cd == 0) = false := by simpa using hcd
        have hcd2 : ¬ cd = 0 := hcd
        clear hno
        have x := densest_no hN
        go_wp2_with fail
        refine x.mono ?_
        rintro e w2 ⟨rfl, v⟩
        have kb := Blk.new w2 42 #[.int .i64 0, .int .i64 0]
        have v := below_end v v.size (below_new1 w2 (.cells #[.int .i64 0, .int .i64 0] 42))
        have hN := hN.below v
        have q := below_end q q.size v
        clear x v
        go_upto_region 5 with fail
        generalize w2.alloc (.cells #[.int .i64 0, .int .i64 0] 42) = W3 at *
        generalize w2.heap.size = gB at *
        have c0 := kb.cell 0
        have c1 := kb.cell 1
        simp at c0 c1
        have x := numbers_no hN
        go_wp2_with fail
        refine x.mono ?_
        rintro e w4 ⟨g1, rfl, v⟩
        have hN := hN.below v
        have q := below_end q q.size v
        clear x v c0 c1 kb
        have x := order_no hN
        go_wp2_with fail
        refine x.mono ?_
        rintro e w5 ⟨g2, rfl, _, v⟩
        have hN := hN.below v
        have q := below_end q q.size v
        clear x v
        have x := core_no hN k
        go_wp2_with fail
        refine x.mono ?_
        rintro e w6 ⟨rfl, v⟩
        have hN := hN.below v
        have q := below_end q q.size v
        clear x v
        have x := shells_no hN
        go_wp2_with fail
        refine x.mono ?_
        rintro e w7 ⟨rfl, rfl⟩
        clear x
        have x := colors_no hN
        go_wp2_with fail
        refine x.mono ?_
        rintro e w8 ⟨g3, rfl, v⟩
        have hN := hN.below v
        have q := below_end q q.size v
        clear x v
        have x := degeneracy_no hN
        go_wp2_with fail
        refine x.mono ?_
        rintro e w9 ⟨rfl, v⟩
        have q := below_end q q.size v
        clear x v hN
        have x := works_ok w9
        go_wp2_with fail
        refine x.mono ?_
        rintro e w14 ⟨rfl, v1⟩
        have q := below_end q q.size v1
        clear x v1
        go_wp2_with fail
        go_ret
        exact ⟨rfl, q⟩
end Go.Proofs.Ytoiafopndlnknaa
