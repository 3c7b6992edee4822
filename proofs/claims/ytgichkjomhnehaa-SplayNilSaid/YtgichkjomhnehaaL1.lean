/-
  SplayNil, walked.
-/
import Derived.Test.YtgichkjomhnehaaW19
set_option linter.unusedVariables false
set_option linter.unusedSimpArgs false
namespace Go.Proofs.Ytgichkjomhnehaa
open Go.RowKit Go.Shelf

set_option maxRecDepth 100000 in
set_option maxHeartbeats 4000000 in
theorem nil_walk (d X Y V K : Int) (w : World) :
    Calls Try.prog 11 #[.agg #[.int .i64 d, .int .i64 X, .int .i64 Y, .int .i64 V, .int .i64 K]] w fun e w' => e = .returned (.bool true) ∧ Below w.heap.size w w' := by
  have q := below_new3 w (.cells #[.int .i64 d, .int .i64 X, .int .i64 Y, .int .i64 V, .int .i64 K] 55) (.cells #[.pointer none, .slice none 0 0] 66) (.cells #[.pointer none, .pointer (some ⟨w.heap.size + 1, 0, none⟩)] 23)
  have kB : Blk (((w.alloc (.cells #[.int .i64 d, .int .i64 X, .int .i64 Y, .int .i64 V, .int .i64 K] 55)).alloc (.cells #[.pointer none, .slice none 0 0] 66)).alloc (.cells #[.pointer none, .pointer (some ⟨w.heap.size + 1, 0, none⟩)] 23)) w.heap.size 55 #[.int .i64 d, .int .i64 X, .int .i64 Y, .int .i64 V, .int .i64 K] := ((Blk.new w 55 _).alloc _).alloc _
  have kZ : Blk (((w.alloc (.cells #[.int .i64 d, .int .i64 X, .int .i64 Y, .int .i64 V, .int .i64 K] 55)).alloc (.cells #[.pointer none, .slice none 0 0] 66)).alloc (.cells #[.pointer none, .pointer (some ⟨w.heap.size + 1, 0, none⟩)] 23)) (w.heap.size + 1) 66 #[.pointer none, .slice none 0 0] := (Blk.new2 w _ 66 _).alloc _
  have kL := Blk.new3 w (.cells #[.int .i64 d, .int .i64 X, .int .i64 Y, .int .i64 V, .int .i64 K] 55) (.cells #[.pointer none, .slice none 0 0] 66) 23 #[.pointer none, .pointer (some ⟨w.heap.size + 1, 0, none⟩)]
  go_enter Try.func11, Try.ntmps11
  go_upto_region 4 with fail
  generalize ((w.alloc (.cells #[.int .i64 d, .int .i64 X, .int .i64 Y, .int .i64 V, .int .i64 K] 55)).alloc (.cells #[.pointer none, .slice none 0 0] 66)).alloc (.cells #[.pointer none, .pointer (some ⟨w.heap.size + 1, 0, none⟩)] 23) = W0 at *
  have HL := Lib.hid (show ∀ k, k < 2 → ∃ p, W0.cell? ⟨w.heap.size + 1 + 1, k, none⟩ = some (.pointer p) ∧ NoSeqs W0 p from fun k hk => by
    rcases k with _ | _ | k
    · exact ⟨none, kL.cell 0, Or.inl rfl⟩
    · exact ⟨some ⟨w.heap.size + 1, 0, none⟩, kL.cell 1, Or.inr ⟨_, rfl, kZ⟩⟩
    · omega)
  have hgL := kL.lt
  clear kL kZ
  go_wp2_with fail
  go_loopw [6, 7, 8, 9, 10, 11, 12, 13] (fun vk _ _ _ _ _ _ _ wr => ∃ k : Nat, vk = .int .i64 k ∧ k ≤ 2 ∧ Below W0.heap.size W0 wr) (fun vk _ _ _ _ _ _ _ _ => 2 - (intOf vk).toNat)
  case atStart => exact ⟨0, rfl, by omega, Below.refl _ _⟩
  case round =>
    obtain ⟨k, rfl, hk, b0⟩ := hrel
    by_cases hlt : k < 2
    · obtain ⟨p, cp, hp⟩ := HL.out k hlt
      have hk2 : (k : Int) < 2 := by omega
      have cp : wr.cell? ⟨w.heap.size + 1 + 1, k, none⟩ = some (.pointer p) := (b0.cell (p := ⟨w.heap.size + 1 + 1, k, none⟩) hgL).trans cp
      have hp := hp.below b0
      have kB := kB.below b0 kB.lt
      obtain ⟨w1, hw1⟩ : ∃ w1 : World, w1 = wr := ⟨_, rfl⟩
      subst hw1
      have cX := kB.cell 1
      have cY := kB.cell 2
      have cV := kB.cell 3
      have cK := kB.cell 4
      simp at cX cY cV cK
      have x := at_out p X K w1 (noNode_no hp)
      go_wp2_with fail
      refine x.mono ?_
      rintro e w' ⟨rfl, rfl⟩
      clear x cp
      have x := min_out p X w1 (noNode_no hp)
      go_wp2_with fail
      refine x.mono ?_
      rintro e w' ⟨rfl, rfl⟩
      clear x
      have x := sum_bad p X 1 w1 (by decide) (chk1_no hp)
      go_wp2_with fail
      refine x.mono ?_
      rintro e w2 ⟨rfl, v⟩
      have hp := hp.below v
      have kB := kB.below v kB.lt
      have b0 := below_go b0 (Nat.le_refl _) v
      clear x v cX cY cV cK
      have cX := kB.cell 1
      have cY := kB.cell 2
      have cV := kB.cell 3
      have cK := kB.cell 4
      simp at cX cY cV cK
      have x := set_bad p X V 1 w2 (by decide) (chk1_no hp)
      go_wp2_with fail
      refine x.mono ?_
      rintro e w3 ⟨rfl, v⟩
      have hp := hp.below v
      have kB := kB.below v kB.lt
      have b0 := below_go b0 (Nat.le_refl _) v
      clear x v cX cY cV cK
      have cX := kB.cell 1
      have cY := kB.cell 2
      have cV := kB.cell 3
      have cK := kB.cell 4
      simp at cX cY cV cK
      have x := join_bad p X Y 1 w3 (by decide) (chk2_no hp)
      go_wp2_with fail
      refine x.mono ?_
      rintro e w4 ⟨rfl, v⟩
      have hp := hp.below v
      have kB := kB.below v kB.lt
      have b0 := below_go b0 (Nat.le_refl _) v
      clear x v cX cY cV cK
      have cX := kB.cell 1
      have cY := kB.cell 2
      have cV := kB.cell 3
      have cK := kB.cell 4
      simp at cX cY cV cK
      have x := split_bad p X 1 w4 (by decide) (chk1_no hp)
      go_wp2_with fail
      refine x.mono ?_
      rintro e w5 ⟨rfl, v⟩
      have hp := hp.below v
      have kB := kB.below v kB.lt
      have b0 := below_go b0 (Nat.le_refl _) v
      clear x v cX cY cV cK
      have cX := kB.cell 1
      have cY := kB.cell 2
      have cV := kB.cell 3
      have cK := kB.cell 4
      simp at cX cY cV cK
      have x := reverse_bad p X 1 w5 (by decide) (chk1_no hp)
      go_wp2_with fail
      refine x.mono ?_
      rintro e w6 ⟨rfl, v⟩
      have hp := hp.below v
      have kB := kB.below v kB.lt
      have b0 := below_go b0 (Nat.le_refl _) v
      clear x v cX cY cV cK
      have cX := kB.cell 1
      have cY := kB.cell 2
      have cV := kB.cell 3
      have cK := kB.cell 4
      simp at cX cY cV cK
      have x := value_out p X w6 (noNode_no hp)
      go_wp2_with fail
      refine x.mono ?_
      rintro e w' ⟨rfl, rfl⟩
      clear x
      have x := same_out p X X w6 (noNode_no hp)
      go_wp2_with fail
      refine x.mono ?_
      rintro e w' ⟨rfl, rfl⟩
      clear x
      have x := pos_out p X w6 (noNode_no hp)
      go_wp2_with fail
      refine x.mono ?_
      rintro e w' ⟨rfl, rfl⟩
      clear x
      have x := len_out p X w6 (noNode_no hp)
      go_wp2_with fail
      refine x.mono ?_
      rintro e w' ⟨rfl, rfl⟩
      clear x
      have x := list_out p X w6 (noNode_no hp)
      go_wp2_with fail
      refine x.mono ?_
      rintro e w' ⟨rfl, rfl⟩
      clear x
      have x := copy_no p w6 hp
      go_wp2_with fail
      refine x.mono ?_
      rintro e w' ⟨rfl, rfl⟩
      clear x cX cY cV cK
      go_wp2_with fail
      go_roundw
      case rel => exact ⟨k + 1, by simp, by omega, b0⟩
      case measure => simp [intOf]; omega
    · have hk2 : ¬ (k : Int) < 2 := by omega
      have q := below_end q q.size b0
      have hq := q.size
      have x := works_ok wr
      go_wp2_with fail
      refine x.mono ?_
      rintro e w9 ⟨rfl, v⟩
      have q := below_end q hq v
      go_wp2_with fail
      go_ret
      exact ⟨rfl, q⟩
end Go.Proofs.Ytgichkjomhnehaa
