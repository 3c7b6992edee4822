/-
  The walk of CheckedKnown.
-/
import Derived.Test.YtmjchiebpnnbpaaE2
set_option linter.unusedVariables false
set_option linter.unusedSimpArgs false
namespace Go.Proofs.Ytmjchiebpnnbpaa
open Go.RowKit Go.Shelf

set_option maxRecDepth 100000 in
set_option maxHeartbeats 2000000 in
theorem known_walk (w : World) :
    Calls Try.prog 12 #[] w fun e w' => e = .returned (.bool true) ∧ Below w.heap.size w w' := by
  have F0_0 := Lib.hid (show fitV (9223372036854775807 + 1) = 0 by decide)
  have F0_1 := Lib.hid (show fitE (9223372036854775807 + 1) = 7 by decide)
  have F1_0 := Lib.hid (show fitV (9223372036854775807 + (-9223372036854775808)) = -1 by decide)
  have F1_1 := Lib.hid (show fitE (9223372036854775807 + (-9223372036854775808)) = 0 by decide)
  have F2_0 := Lib.hid (show fitV ((-1) - (-9223372036854775808)) = 9223372036854775807 by decide)
  have F2_1 := Lib.hid (show fitE ((-1) - (-9223372036854775808)) = 0 by decide)
  have F3_0 := Lib.hid (show fitV (0 - (-9223372036854775808)) = 0 by decide)
  have F3_1 := Lib.hid (show fitE (0 - (-9223372036854775808)) = 7 by decide)
  have F4_0 := Lib.hid (show fitV ((-9223372036854775808) * (-1)) = 0 by decide)
  have F4_1 := Lib.hid (show fitE ((-9223372036854775808) * (-1)) = 7 by decide)
  have F5_0 := Lib.hid (show fitV ((-9223372036854775808) * 1) = (-9223372036854775808) by decide)
  have F5_1 := Lib.hid (show fitE ((-9223372036854775808) * 1) = 0 by decide)
  have F6_0 := Lib.hid (show fitV (tot (fun _ => 0) 0) = 0 by decide)
  have F6_1 := Lib.hid (show fitE (tot (fun _ => 0) 0) = 0 by decide)
  have F7_0 := Lib.hid (show mdV (-7) 1 2 = -4 by decide)
  have F7_1 := Lib.hid (show mdE (-7) 1 2 = 0 by decide)
  have F8_0 := Lib.hid (show mdV 1 1 0 = 0 by decide)
  have F8_1 := Lib.hid (show mdE 1 1 0 = 2 by decide)
  have F9_0 := Lib.hid (show mdV (-9223372036854775808) (-9223372036854775808) 9223372036854775807 = 0 by decide)
  have F9_1 := Lib.hid (show mdE (-9223372036854775808) (-9223372036854775808) 9223372036854775807 = 7 by decide)
  have F10_0 := Lib.hid (show mdV (-9223372036854775808) 1 1 = (-9223372036854775808) by decide)
  have F10_1 := Lib.hid (show mdE (-9223372036854775808) 1 1 = 0 by decide)
  have F11_0 := Lib.hid (show redN 0 (-5) = 0 by decide)
  have F11_1 := Lib.hid (show redD 0 (-5) = 1 by decide)
  have F11_2 := Lib.hid (show redE 0 (-5) = 0 by decide)
  have F12_0 := Lib.hid (show redN (-9223372036854775808) (-1) = 0 by decide)
  have F12_1 := Lib.hid (show redD (-9223372036854775808) (-1) = 0 by decide)
  have F12_2 := Lib.hid (show redE (-9223372036854775808) (-1) = 7 by decide)
  have F13_0 := Lib.hid (show redN 4611686018427387904 (-9223372036854775808) = -1 by decide)
  have F13_1 := Lib.hid (show redD 4611686018427387904 (-9223372036854775808) = 2 by decide)
  have F13_2 := Lib.hid (show redE 4611686018427387904 (-9223372036854775808) = 0 by decide)
  have F14_0 := Lib.hid (show redN 3 0 = 0 by decide)
  have F14_1 := Lib.hid (show redD 3 0 = 0 by decide)
  have F14_2 := Lib.hid (show redE 3 0 = 2 by decide)
  have F15_0 := Lib.hid (show comV 1 2 2 4 = 0 by decide)
  have F15_1 := Lib.hid (show comE 1 2 2 4 = 0 by decide)
  have F16_0 := Lib.hid (show comV (-1) 3 1 (-3) = 0 by decide)
  have F16_1 := Lib.hid (show comE (-1) 3 1 (-3) = 2 by decide)
  have F17_0 := Lib.hid (show comV 9223372036854775807 9223372036854775806 9223372036854775806 9223372036854775805 = -1 by decide)
  have F17_1 := Lib.hid (show comE 9223372036854775807 9223372036854775806 9223372036854775806 9223372036854775805 = 0 by decide)
  have q := Below.refl w.heap.size w
  go_enter Try.func12, Try.ntmps12
  go_wp2_with fail
  refine (add_ok 9223372036854775807 1 (by decide) (by decide) _).mono ?_
  rw [F0_0.out, F0_1.out]
  rintro e w' ⟨rfl, rfl⟩
  go_wp2_with fail
  refine (add_ok 9223372036854775807 (-9223372036854775808) (by decide) (by decide) _).mono ?_
  rw [F1_0.out, F1_1.out]
  rintro e w' ⟨rfl, rfl⟩
  go_wp2_with fail
  refine (sub_ok (-1) (-9223372036854775808) (by decide) (by decide) _).mono ?_
  rw [F2_0.out, F2_1.out]
  rintro e w' ⟨rfl, rfl⟩
  go_wp2_with fail
  refine (sub_ok 0 (-9223372036854775808) (by decide) (by decide) _).mono ?_
  rw [F3_0.out, F3_1.out]
  rintro e w' ⟨rfl, rfl⟩
  go_wp2_with fail
  refine (mul_ok (-9223372036854775808) (-1) (by decide) (by decide) _).mono ?_
  rw [F4_0.out, F4_1.out]
  rintro e w4 ⟨rfl, hv4⟩
  have q := below_end q q.size hv4
  go_wp2_with fail
  refine (mul_ok (-9223372036854775808) 1 (by decide) (by decide) _).mono ?_
  rw [F5_0.out, F5_1.out]
  rintro e w5 ⟨rfl, hv5⟩
  have q := below_end q q.size hv5
  go_wp2_with fail
  refine (sum_ok 0 0 none (fun _ => 0) _ (argI_zero _ _ (by decide) _)).mono ?_
  rw [F6_0.out, F6_1.out]
  rintro e w' ⟨rfl, rfl⟩
  go_wp2_with fail
  refine (md_ok (-7) 1 2 (by decide) (by decide) (by decide) _).mono ?_
  rw [F7_0.out, F7_1.out]
  rintro e w7 ⟨rfl, hv7⟩
  have q := below_end q q.size hv7
  go_wp2_with fail
  refine (md_ok 1 1 0 (by decide) (by decide) (by decide) _).mono ?_
  rw [F8_0.out, F8_1.out]
  rintro e w8 ⟨rfl, hv8⟩
  have q := below_end q q.size hv8
  go_wp2_with fail
  refine (md_ok (-9223372036854775808) (-9223372036854775808) 9223372036854775807 (by decide) (by decide) (by decide) _).mono ?_
  rw [F9_0.out, F9_1.out]
  rintro e w9 ⟨rfl, hv9⟩
  have q := below_end q q.size hv9
  go_wp2_with fail
  refine (md_ok (-9223372036854775808) 1 1 (by decide) (by decide) (by decide) _).mono ?_
  rw [F10_0.out, F10_1.out]
  rintro e w10 ⟨rfl, hv10⟩
  have q := below_end q q.size hv10
  go_wp2_with fail
  refine (reduce_ok 0 (-5) (by decide) (by decide) _).mono ?_
  rw [F11_0.out, F11_1.out, F11_2.out]
  rintro e w11 ⟨rfl, hv11⟩
  have q := below_end q q.size hv11
  have K11 := Blk.new w11 32 #[.int .i64 (0), .int .i64 (1)]
  have q := q.alloc q.size (.cells #[.int .i64 (0), .int .i64 (1)] 32)
  go_wp2_with fail
  generalize w11.alloc (.cells #[.int .i64 (0), .int .i64 (1)] 32) = W11 at *
  refine (reduce_ok (-9223372036854775808) (-1) (by decide) (by decide) _).mono ?_
  rw [F12_0.out, F12_1.out, F12_2.out]
  rintro e w12 ⟨rfl, hv12⟩
  have q := below_end q q.size hv12
  have K11 := K11.below hv12 K11.lt
  have K12 := Blk.new w12 32 #[.int .i64 (0), .int .i64 (0)]
  have K11 := K11.alloc (.cells #[.int .i64 (0), .int .i64 (0)] 32)
  have q := q.alloc q.size (.cells #[.int .i64 (0), .int .i64 (0)] 32)
  go_wp2_with fail
  generalize w12.alloc (.cells #[.int .i64 (0), .int .i64 (0)] 32) = W12 at *
  refine (reduce_ok 4611686018427387904 (-9223372036854775808) (by decide) (by decide) _).mono ?_
  rw [F13_0.out, F13_1.out, F13_2.out]
  rintro e w13 ⟨rfl, hv13⟩
  have q := below_end q q.size hv13
  have K11 := K11.below hv13 K11.lt
  have K12 := K12.below hv13 K12.lt
  have K13 := Blk.new w13 32 #[.int .i64 (-1), .int .i64 (2)]
  have K11 := K11.alloc (.cells #[.int .i64 (-1), .int .i64 (2)] 32)
  have K12 := K12.alloc (.cells #[.int .i64 (-1), .int .i64 (2)] 32)
  have q := q.alloc q.size (.cells #[.int .i64 (-1), .int .i64 (2)] 32)
  go_wp2_with fail
  generalize w13.alloc (.cells #[.int .i64 (-1), .int .i64 (2)] 32) = W13 at *
  refine (reduce_ok 3 0 (by decide) (by decide) _).mono ?_
  rw [F14_0.out, F14_1.out, F14_2.out]
  rintro e w14 ⟨rfl, hv14⟩
  have q := below_end q q.size hv14
  have K11 := K11.below hv14 K11.lt
  have K12 := K12.below hv14 K12.lt
  have K13 := K13.below hv14 K13.lt
  have K14 := Blk.new w14 32 #[.int .i64 (0), .int .i64 (0)]
  have K11 := K11.alloc (.cells #[.int .i64 (0), .int .i64 (0)] 32)
  have K12 := K12.alloc (.cells #[.int .i64 (0), .int .i64 (0)] 32)
  have K13 := K13.alloc (.cells #[.int .i64 (0), .int .i64 (0)] 32)
  have q := q.alloc q.size (.cells #[.int .i64 (0), .int .i64 (0)] 32)
  have K11a := K11.cell 0
  have K11b := K11.cell 1
  simp at K11a K11b
  have K12a := K12.cell 0
  have K12b := K12.cell 1
  simp at K12a K12b
  have K13a := K13.cell 0
  have K13b := K13.cell 1
  simp at K13a K13b
  have K14a := K14.cell 0
  have K14b := K14.cell 1
  simp at K14a K14b
  go_wp2_with fail
  generalize w14.alloc (.cells #[.int .i64 (0), .int .i64 (0)] 32) = W14 at *
  refine (compare_ok 1 2 2 4 (by decide) (by decide) (by decide) (by decide) _).mono ?_
  rw [F15_0.out, F15_1.out]
  rintro e w15 ⟨rfl, hv15⟩
  have q := below_end q q.size hv15
  have K11 := K11.below hv15 K11.lt
  have K12 := K12.below hv15 K12.lt
  have K13 := K13.below hv15 K13.lt
  have K14 := K14.below hv15 K14.lt
  go_wp2_with fail
  refine (compare_ok (-1) 3 1 (-3) (by decide) (by decide) (by decide) (by decide) _).mono ?_
  rw [F16_0.out, F16_1.out]
  rintro e w16 ⟨rfl, hv16⟩
  have q := below_end q q.size hv16
  have K11 := K11.below hv16 K11.lt
  have K12 := K12.below hv16 K12.lt
  have K13 := K13.below hv16 K13.lt
  have K14 := K14.below hv16 K14.lt
  go_wp2_with fail
  refine (compare_ok 9223372036854775807 9223372036854775806 9223372036854775806 9223372036854775805 (by decide) (by decide) (by decide) (by decide) _).mono ?_
  rw [F17_0.out, F17_1.out]
  rintro e w17 ⟨rfl, hv17⟩
  have q := below_end q q.size hv17
  have K11 := K11.below hv17 K11.lt
  have K12 := K12.below hv17 K12.lt
  have K13 := K13.below hv17 K13.lt
  have K14 := K14.below hv17 K14.lt
  go_wp2_with fail
  refine (works_ok _).mono ?_
  rintro e w18 ⟨rfl, hv18⟩
  have q := below_end q q.size hv18
  have K11 := K11.below hv18 K11.lt
  have K12 := K12.below hv18 K12.lt
  have K13 := K13.below hv18 K13.lt
  have K14 := K14.below hv18 K14.lt
  go_wp2_with fail
  go_ret
  exact ⟨rfl, q⟩
end Go.Proofs.Ytmjchiebpnnbpaa
