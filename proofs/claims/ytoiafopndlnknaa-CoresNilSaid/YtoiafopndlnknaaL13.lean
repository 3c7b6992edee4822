/-
  CoresNil.
-/
import Derived.Test.YtoiafopndlnknaaN2
set_option linter.unusedVariables false
set_option linter.unusedSimpArgs false
namespace Go.Proofs.Ytoiafopndlnknaa
open Go.RowKit Go.Shelf

set_option maxRecDepth 100000 in
set_option maxHeartbeats 4000000 in
theorem nil_walk (k : Int) (w : World) : Calls Try.prog 13 #[.int .i64 k] w fun e w' => e = .returned (.bool true) ∧ Below w.heap.size w w' := by
  have q := below_new2 w (.cells #[.pointer none, .slice none 0 0, .slice none 0 0, .slice none 0 0] 58) (.cells #[.pointer none, .pointer (some ⟨w.heap.size, 0, none⟩)] 27)
  have kZ := (Blk.new w 58 #[.pointer none, .slice none 0 0, .slice none 0 0, .slice none 0 0]).alloc (.cells #[.pointer none, .pointer (some ⟨w.heap.size, 0, none⟩)] 27)
  have kB := Blk.new2 w (.cells #[.pointer none, .slice none 0 0, .slice none 0 0, .slice none 0 0] 58) 27 #[.pointer none, .pointer (some ⟨w.heap.size, 0, none⟩)]
  go_enter Try.func13, Try.ntmps13
  go_upto_region 4 with fail
  generalize (w.alloc (.cells #[.pointer none, .slice none 0 0, .slice none 0 0, .slice none 0 0] 58)).alloc (.cells #[.pointer none, .pointer (some ⟨w.heap.size, 0, none⟩)] 27) = W1 at *
  obtain ⟨Z, hZ⟩ : ∃ x, w.heap.size = x := ⟨_, rfl⟩
  obtain ⟨BL, hBL⟩ : ∃ x, w.heap.size + 1 = x := ⟨_, rfl⟩
  have hb0 : w.heap.size ≤ BL ∧ w.heap.size ≤ Z := by omega
  rw [hBL, hZ] at kB
  rw [hZ] at kZ
  rw [hBL, hZ]
  clear hZ hBL
  go_wp2_with fail
  go_loopw [6, 7, 8, 9] (fun v6 _ _ _ wr => ∃ i : Nat, v6 = .int .i64 i ∧ i ≤ 2 ∧ Blk wr BL 27 #[.pointer none, .pointer (some ⟨Z, 0, none⟩)] ∧ Blk wr Z 58 #[.pointer none, .slice none 0 0, .slice none 0 0, .slice none 0 0] ∧ Below w.heap.size w wr) (fun v _ _ _ _ => 20 - (intOf v).toNat)
  case atStart => exact ⟨0, rfl, by omega, kB, kZ, q⟩
  case round =>
    clear kB kZ q
    obtain ⟨i, rfl, hi, kB, kZ, q⟩ := hrel
    by_cases hlt : i < 2
    · have hin : (i : Int) < 2 := by omega
      obtain ⟨p, hp, hN⟩ : ∃ p, wr.cell? ⟨BL, i, none⟩ = some (.pointer p) ∧ NoGr wr p := by
        rcases i with _ | _ | i
        · exact ⟨none, by have := kB.cell 0; simpa using this, .inl rfl⟩
        · exact ⟨some ⟨Z, 0, none⟩, by have := kB.cell 1; simpa using this, .inr ⟨Z, rfl, by have := kZ.cell 0; simpa using this⟩⟩
        · omega
      have x := densest_no hN
      go_wp2_with fail
      refine x.mono ?_
      rintro e w2 ⟨rfl, v⟩
      have kb := Blk.new w2 42 #[.int .i64 0, .int .i64 0]
      have bA := below_new1 w2 (.cells #[.int .i64 0, .int .i64 0] 42)
      have v := below_end v v.size bA
      have hN := hN.below v
      have kB := kB.below v kB.lt
      have kZ := kZ.below v kZ.lt
      have q := below_end q q.size v
      clear x hp bA v
      go_upto_region 9 with fail
      generalize w2.alloc (.cells #[.int .i64 0, .int .i64 0] 42) = W3 at *
      generalize w2.heap.size = gB at *
      have c0 := kb.cell 0
      have c1 := kb.cell 1
      simp at c0 c1
      have x := numbers_no hN
      go_wp2_with fail
      refine x.mono ?_
      rintro e w4 ⟨g1, rfl, v⟩
      have hN := hN.below v
      have kB := kB.below v kB.lt
      have kZ := kZ.below v kZ.lt
      have q := below_end q q.size v
      clear x v c0 c1 kb
      have x := order_no hN
      go_wp2_with fail
      refine x.mono ?_
      rintro e w5 ⟨g2, rfl, _, v⟩
      have hN := hN.below v
      have kB := kB.below v kB.lt
      have kZ := kZ.below v kZ.lt
      have q := below_end q q.size v
      clear x v
      have x := core_no hN k
      go_wp2_with fail
      refine x.mono ?_
      rintro e w6 ⟨rfl, v⟩
      have hN := hN.below v
      have kB := kB.below v kB.lt
      have kZ := kZ.below v kZ.lt
      have q := below_end q q.size v
      clear x v
      have x := shells_no hN
      go_wp2_with fail
      refine x.mono ?_
      rintro e w7 ⟨rfl, rfl⟩
      clear x
      have x := colors_no hN
      go_wp2_with fail
      refine x.mono ?_
      rintro e w8 ⟨g3, rfl, v⟩
      have hN := hN.below v
      have kB := kB.below v kB.lt
      have kZ := kZ.below v kZ.lt
      have q := below_end q q.size v
      clear x v
      have x := degeneracy_no hN
      go_wp2_with fail
      refine x.mono ?_
      rintro e w9 ⟨rfl, v⟩
      have kB := kB.below v kB.lt
      have kZ := kZ.below v kZ.lt
      have q := below_end q q.size v
      clear x v hN
      go_wp2_with fail
      go_roundw
      case rel => exact ⟨i + 1, by simp, by omega, kB, kZ, q⟩
      case measure => simp [intOf]; omega
    · have hin : ¬ (i : Int) < 2 := by omega
      have x := works_ok wr
      clear kB kZ
      go_wp2_with fail
      refine x.mono ?_
      rintro e w9 ⟨rfl, v⟩
      have q := below_end q q.size v
      go_wp2_with fail
      go_ret
      exact ⟨rfl, q⟩
end Go.Proofs.Ytoiafopndlnknaa
