/-
  The walk of FenwickNil.
-/
import Derived.Test.YtjikfmacdacgaaaR6
import Derived.Test.YtjikfmacdacgaaaMem2
set_option linter.unusedVariables false
set_option linter.unusedSimpArgs false
namespace Go.Proofs.Ytjikfmacdacgaaa
open Go.RowKit Go.Shelf Fw

theorem copy_no (p : Option Addr) (w : World) (h : NoFw w p) :
    Calls Try.prog 24 #[.pointer p] w fun e w' => e = .returned (.pointer none) ∧ w = w' := by
  go_enter Try.func24, Try.ntmps24
  go_wp2_with (go_at_call 33; refine (valid_no p _ h).mono ?_; rintro e w' ⟨rfl, rfl⟩)
  go_ret
  exact ⟨rfl, rfl⟩

set_option maxRecDepth 100000 in
set_option maxHeartbeats 1000000 in
theorem nil_walk (x0 x1 x2 x3 x4 x5 : Int) (w : World) :
    Calls Try.prog 10 #[.agg #[.int .i64 x0, .int .i64 x1, .int .i64 x2, .int .i64 x3, .int .i64 x4, .int .i64 x5]] w fun e w' => e = .returned (.bool true) ∧ Below w.heap.size w w' := by
  have m0 := ((Blk.new w 23 #[.int .i64 x0, .int .i64 x1, .int .i64 x2, .int .i64 x3, .int .i64 x4, .int .i64 x5]).alloc (.cells #[.pointer none, .slice none 0 0] 59)).alloc (.cells #[.pointer none, .pointer (some ⟨w.heap.size + 1, 0, none⟩)] 24)
  have m1 := (Blk.new2 w (.cells #[.int .i64 x0, .int .i64 x1, .int .i64 x2, .int .i64 x3, .int .i64 x4, .int .i64 x5] 23) 59 #[.pointer none, .slice none 0 0]).alloc (.cells #[.pointer none, .pointer (some ⟨w.heap.size + 1, 0, none⟩)] 24)
  have m2 := Blk.new3 w (.cells #[.int .i64 x0, .int .i64 x1, .int .i64 x2, .int .i64 x3, .int .i64 x4, .int .i64 x5] 23) (.cells #[.pointer none, .slice none 0 0] 59) 24 #[.pointer none, .pointer (some ⟨w.heap.size + 1, 0, none⟩)]
  have hb := below_new3 w (.cells #[.int .i64 x0, .int .i64 x1, .int .i64 x2, .int .i64 x3, .int .i64 x4, .int .i64 x5] 23) (.cells #[.pointer none, .slice none 0 0] 59) (.cells #[.pointer none, .pointer (some ⟨w.heap.size + 1, 0, none⟩)] 24)
  go_enter Try.func10, Try.ntmps10
  go_wp2_with fail
  generalize ((w.alloc (.cells #[.int .i64 x0, .int .i64 x1, .int .i64 x2, .int .i64 x3, .int .i64 x4, .int .i64 x5] 23)).alloc (.cells #[.pointer none, .slice none 0 0] 59)).alloc (.cells #[.pointer none, .pointer (some ⟨w.heap.size + 1, 0, none⟩)] 24) = W0 at *
  go_loopw [6] (fun k wr => ∃ i : Nat, k = .int .i64 i ∧ i ≤ 2 ∧ Blk wr w.heap.size 23 #[.int .i64 x0, .int .i64 x1, .int .i64 x2, .int .i64 x3, .int .i64 x4, .int .i64 x5] ∧ Blk wr (w.heap.size + 1) 59 #[.pointer none, .slice none 0 0] ∧
      Blk wr (w.heap.size + 1 + 1) 24 #[.pointer none, .pointer (some ⟨w.heap.size + 1, 0, none⟩)] ∧ Below w.heap.size w wr) (fun k _ => 2 - (intOf k).toNat)
  case atStart => exact ⟨0, rfl, by omega, m0, m1, m2, hb⟩
  case round =>
    clear m0 m1 m2 hb
    obtain ⟨i, rfl, hi, m0, m1, m2, hb⟩ := hrel
    by_cases hlt : i < 2
    · obtain ⟨p, hp, hno⟩ : ∃ p, wr.cell? ⟨w.heap.size + 1 + 1, i, none⟩ = some (.pointer p) ∧ NoFw wr p := by
        have h2 : i = 0 ∨ i = 1 := by omega
        rcases h2 with rfl | rfl
        · exact ⟨none, by simpa using m2.cell 0, .inl rfl⟩
        · exact ⟨_, by simpa using m2.cell 1, .inr ⟨_, rfl, m1⟩⟩
      have c1 := m0.cell 1
      have c2 := m0.cell 2
      have c3 := m0.cell 3
      have c4 := m0.cell 4
      have c5 := m0.cell 5
      simp at c1 c2 c3 c4 c5
      go_wp2_with fail
      refine (find_no p x5 _ hno).mono ?_
      rintro e w1 ⟨rfl, hb1⟩
      have n1 := hno.below hb1
      have k0 := m0.below hb1 m0.lt
      have k1 := m1.below hb1 m1.lt
      have k2 := m2.below hb1 m2.lt
      have q1 := below_go hb (Nat.le_refl _) hb1
      clear c1 c2 c3 c4 c5 m0 m1 m2 hp hno hb hb1
      have c1 := k0.cell 1
      have c2 := k0.cell 2
      simp at c1 c2
      go_wp2_with fail
      refine (add_no p x1 x2 _ n1).mono ?_
      rintro e w2 ⟨rfl, hb1⟩
      have n2 := n1.below hb1
      have m0 := k0.below hb1 k0.lt
      have m1 := k1.below hb1 k1.lt
      have m2 := k2.below hb1 k2.lt
      have q2 := below_go q1 (Nat.le_refl _) hb1
      clear c1 c2 k0 k1 k2 n1 q1 hb1
      have c1 := m0.cell 1
      have c3 := m0.cell 3
      simp at c1 c3
      go_wp2_with (go_at_call 18; refine (get_no p x1 _ n2).mono ?_; rintro e w' ⟨rfl, rfl⟩)
      refine (prefix_no p x3 _ n2).mono ?_
      rintro e w3 ⟨rfl, hb1⟩
      have n1 := n2.below hb1
      have k0 := m0.below hb1 m0.lt
      have k1 := m1.below hb1 m1.lt
      have k2 := m2.below hb1 m2.lt
      have q1 := below_go q2 (Nat.le_refl _) hb1
      clear c1 c3 m0 m1 m2 n2 q2 hb1
      have c3 := k0.cell 3
      have c4 := k0.cell 4
      simp at c3 c4
      go_wp2_with fail
      refine (range_no p x3 x4 _ n1).mono ?_
      rintro e w4 ⟨rfl, hb1⟩
      have n2 := n1.below hb1
      have m0 := k0.below hb1 k0.lt
      have m1 := k1.below hb1 k1.lt
      have m2 := k2.below hb1 k2.lt
      have q2 := below_go q1 (Nat.le_refl _) hb1
      clear c3 c4 k0 k1 k2 n1 q1 hb1
      go_wp2_with fail
      refine (total_no p _ n2).mono ?_
      rintro e w5 ⟨rfl, hb1⟩
      have n1 := n2.below hb1
      have k0 := m0.below hb1 m0.lt
      have k1 := m1.below hb1 m1.lt
      have k2 := m2.below hb1 m2.lt
      have q1 := below_go q2 (Nat.le_refl _) hb1
      clear m0 m1 m2 n2 q2 hb1
      go_wp2_with (first | (go_at_call 26; refine (len_no p _ n1).mono ?_; rintro e w' ⟨rfl, rfl⟩) | (go_at_call 24; refine (copy_no p _ n1).mono ?_; rintro e w' ⟨rfl, rfl⟩))
      go_roundw
      case rel => exact ⟨i + 1, by go_num, by omega, k0, k1, k2, q1⟩
      case measure => simp [intOf]; omega
    · go_wp2_with fail
      refine (works_ok _).mono ?_
      rintro e w1 ⟨rfl, hb1⟩
      go_wp2_with fail
      go_ret
      exact ⟨rfl, below_go hb (Nat.le_refl _) hb1⟩

end Go.Proofs.Ytjikfmacdacgaaa
