/-
  CoresNumbers.
-/
import Derived.Test.YtoiafopndlnknaaK2
set_option linter.unusedVariables false
set_option linter.unusedSimpArgs false
namespace Go.Proofs.Ytoiafopndlnknaa
open Go.RowKit Go.Shelf

theorem new_ea {w : World} {A : Option Addr} {c n : Nat} {E : Es} (h : EA w A c E) (hF : Fine n E) :
    Calls Try.prog 15 #[.int .i64 (n : Int), .slice A E.length c] w fun e w' => ∃ K, e = .returned (.tuple #[.pointer (some ⟨K.g, 0, none⟩), .int .i64 0]) ∧ Gr w' K n E ∧ Below w.heap.size w w' := by
  obtain ⟨y, ha, hy⟩ := h
  refine (new_any (n : Int) E.length c A y w ha).mono ?_
  rintro e w' ⟨hN, q⟩
  rcases hN with ⟨_, K, rfl, hG⟩ | ⟨hno, _⟩
  · rw [esOf_eq hy, Int.toNat_natCast] at hG
    exact ⟨K, rfl, hG, q⟩
  · exact absurd (good_of hF hy) hno
theorem ord_lt {E : Es} {n x : Nat} (h : x ∈ ord E n) : x < n := by
  unfold ord at h
  obtain ⟨y, hy, rfl⟩ := List.mem_map.1 h
  exact (peeled E n n (Nat.le_refl _)).lt y hy
theorem ord_len (E : Es) (n : Nat) : (ord E n).length = n := by
  unfold ord
  rw [List.length_map]
  exact (peeled E n n (Nat.le_refl _)).len
/-- two rows of the same numbers -/
theorem rowF_same {w : World} {g g' n : Nat} {f : Nat → Int} (h : RowF .i64 w g 3 n f) (h' : RowF .i64 w g' 3 n f) (hn : n ≤ 100000) (hf : ∀ i, i < n → Fits (f i)) :
    Calls Try.prog 23 #[.slice (some ⟨g, 0, none⟩) n n, .slice (some ⟨g', 0, none⟩) n n] w fun e w' => e = .returned (.bool true) ∧ Below w.heap.size w w' := by
  refine (same_yes n n n _ _ f w (h.argf hn hf) (h'.argf hn hf) hn).mono ?_
  rintro e w' ⟨rfl, m, rfl⟩
  exact ⟨rfl, below_drewN (Below.refl _ _) m⟩
set_option maxRecDepth 100000 in
set_option maxHeartbeats 4000000 in
theorem numbers_walk (N : Int) (n c : Nat) (A : Option Addr) (z : Nat → Nat → Int) (w : World) (hN : (Lit.int .u8 N).wf = true) (ha : ArgS [.u8, .u8] w A n c z) :
    Calls Try.prog 8 #[.int .u8 N, .slice A n c] w fun e w' => e = .returned (.bool true) ∧ Below w.heap.size w w' := by
  have x := drawn_ok N n c A z w hN ha
  clear ha hN
  go_enter Try.func8, Try.ntmps8
  go_wp2_with fail
  refine x.mono ?_
  rintro e w1 ⟨m, v, E, rfl, hm, hEl, hF, hE, q⟩
  clear x
  obtain ⟨A2, c2, rfl, hEA, _⟩ := hE.ea hF
  clear hE
  have x := new_ea hEA hF
  go_wp2_with fail
  refine x.mono ?_
  rintro e w2 ⟨K, rfl, hG, v1⟩
  have hEA := hEA.below v1
  have q := below_end q q.size v1
  clear x v1
  have x := order_ok hG
  go_wp2_with fail
  refine x.mono ?_
  rintro e w3 ⟨vo, rfl, ro, v1⟩
  have hEA := hEA.below v1
  have hG := hG.below v1
  have q := below_end q q.size v1
  clear x v1
  have x := rorder_ok hEA hF
  go_wp2_with fail
  refine x.mono ?_
  rintro e w4 ⟨vr, rfl, rr, v1⟩
  have hEA := hEA.below v1
  have hG := hG.below v1
  have ro := ro.below v1
  have q := below_end q q.size v1
  clear x v1
  obtain ⟨Ao, Ar, co, cr, rfl, rfl, x⟩ := rows_same ro rr (fun x hx => by have := ord_lt hx; omega) (by rw [ord_len]; omega)
  clear ro rr
  go_wp2_with fail
  refine x.mono ?_
  rintro e w5 ⟨rfl, v1⟩
  have hEA := hEA.below v1
  have hG := hG.below v1
  have q := below_end q q.size v1
  clear x v1
  have x := numbers_ok hG
  go_wp2_with fail
  refine x.mono ?_
  rintro e w6 ⟨gn, rfl, _, ro, v1⟩
  have hEA := hEA.below v1
  have hG := hG.below v1
  have q := below_end q q.size v1
  clear x v1
  have x := rnumbers_ok hEA hF
  go_wp2_with fail
  refine x.mono ?_
  rintro e w7 ⟨gr, rfl, _, rr, v1⟩
  have hEA := hEA.below v1
  have hG := hG.below v1
  have ro := ro.below' v1
  have q := below_end q q.size v1
  clear x v1
  have x := rowF_same ro rr (by omega) (fun i hi => by have := num_le20 E m i hF.2.1; exact ⟨by omega, by omega⟩)
  clear ro rr
  go_wp2_with fail
  refine x.mono ?_
  rintro e w8 ⟨rfl, v1⟩
  have hEA := hEA.below v1
  have hG := hG.below v1
  have q := below_end q q.size v1
  clear x v1
  have x := degeneracy_ok hG
  go_wp2_with fail
  refine x.mono ?_
  rintro e w9 ⟨rfl, v1⟩
  have hEA := hEA.below v1
  have q := below_end q q.size v1
  clear x v1 hG
  have x := rdegeneracy_ok hEA hF
  go_wp2_with fail
  refine x.mono ?_
  rintro e w10 ⟨rfl, v1⟩
  have q := below_end q q.size v1
  clear x v1 hEA
  have x := works_ok w10
  go_wp2_with fail
  refine x.mono ?_
  rintro e w11 ⟨rfl, v1⟩
  have q := below_end q q.size v1
  clear x v1
  go_wp2_with fail
  go_ret
  exact ⟨rfl, q⟩
end Go.Proofs.Ytoiafopndlnknaa
