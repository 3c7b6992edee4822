/-
  PartitionKnown, walked.
-/
import Derived.Test.YtipniooflaiikaaF7
set_option linter.unusedVariables false
set_option linter.unusedSimpArgs false
namespace Go.Proofs.Ytipniooflaiikaa
open Go.RowKit Go.Shelf

set_option maxRecDepth 100000 in
set_option maxHeartbeats 4000000 in
theorem known_walk (w : World) : Calls Try.prog 11 #[] w fun e w' => e = .returned (.bool true) ∧ Below w.heap.size w w' := by
  have x := known_canon w
  go_enter Try.func11, Try.ntmps11
  go_wp2_with fail
  refine x.mono ?_
  rintro e w1 ⟨s1, rfl, a1, q⟩
  have hq := q.size
  clear x
  have x := known_classes w1 s1 a1
  go_wp2_with fail
  refine x.mono ?_
  rintro e w2 ⟨g, c, B, ss, rfl, hC, v⟩
  have a1 := a1.below v
  have q := below_end q hq v
  have hq := q.size
  clear x v
  have x := known_same 5 5 _ [0, 1, 0, 3, 1] #[.int .i64 0, .int .i64 1, .int .i64 0, .int .i64 3, .int .i64 1] w2 a1 rfl rfl (by decide) (by decide)
  go_wp2_with fail
  refine x.mono ?_
  rintro e w3 ⟨rfl, v⟩
  have hC := hC.below v
  have q := below_end q hq v
  have hq := q.size
  clear x v a1
  obtain ⟨X, d, ck, ak⟩ := known_class hC (k := 0) [0, 2] [0, 2] rfl (by decide) rfl (by decide)
  have ck : w3.cell? ⟨g, 0, none⟩ = some (.slice X 2 d) := ck
  have x := known_same 2 d X [0, 2] #[.int .i64 0, .int .i64 2] w3 ak rfl rfl (by decide) (by decide)
  go_wp2_with fail
  refine x.mono ?_
  rintro e w4 ⟨rfl, v⟩
  have hC := hC.below v
  have q := below_end q hq v
  have hq := q.size
  clear x v ck ak
  obtain ⟨X, d, ck, ak⟩ := known_class hC (k := 1) [1, 4] [1, 4] rfl (by decide) rfl (by decide)
  have ck : w4.cell? ⟨g, 1, none⟩ = some (.slice X 2 d) := ck
  have x := known_same 2 d X [1, 4] #[.int .i64 1, .int .i64 4] w4 ak rfl rfl (by decide) (by decide)
  go_wp2_with fail
  refine x.mono ?_
  rintro e w5 ⟨rfl, v⟩
  have hC := hC.below v
  have q := below_end q hq v
  have hq := q.size
  clear x v ck ak
  obtain ⟨X, d, ck, ak⟩ := known_class hC (k := 2) [3] [3] rfl (by decide) rfl (by decide)
  have ck : w5.cell? ⟨g, 2, none⟩ = some (.slice X 1 d) := ck
  have x := known_same 1 d X [3] #[.int .i64 3] w5 ak rfl rfl (by decide) (by decide)
  go_wp2_with fail
  refine x.mono ?_
  rintro e w6 ⟨rfl, v⟩
  have hC := hC.below v
  have q := below_end q hq v
  have hq := q.size
  clear x v ck ak
  clear hC
  have x := known_ref1 w6
  go_wp2_with fail
  refine x.mono ?_
  rintro e w7 ⟨rfl, v⟩
  have q := below_end q hq v
  have hq := q.size
  clear x v
  have x := known_ref2 w7
  go_wp2_with fail
  refine x.mono ?_
  rintro e w8 ⟨rfl, v⟩
  have q := below_end q hq v
  have hq := q.size
  clear x v
  have x := known_check1 w8
  go_wp2_with fail
  refine x.mono ?_
  rintro e w9 ⟨rfl, v⟩
  have q := below_end q hq v
  have hq := q.size
  clear x v
  have x := known_check2 w9
  go_wp2_with fail
  refine x.mono ?_
  rintro e w10 ⟨rfl, v⟩
  have q := below_end q hq v
  have hq := q.size
  clear x v
  have x := known_check3 w10
  go_wp2_with fail
  refine x.mono ?_
  rintro e w11 ⟨rfl, v⟩
  have q := below_end q hq v
  have hq := q.size
  clear x v
  have x := known_check4 w11
  go_wp2_with fail
  refine x.mono ?_
  rintro e w12 ⟨rfl, v⟩
  have q := below_end q hq v
  have hq := q.size
  clear x v
  have x := known_meet w12
  go_wp2_with fail
  refine x.mono ?_
  rintro e w13 ⟨rfl, v⟩
  have q := below_end q hq v
  have hq := q.size
  clear x v
  have x := known_join w13
  go_wp2_with fail
  refine x.mono ?_
  rintro e w14 ⟨rfl, v⟩
  have q := below_end q hq v
  have hq := q.size
  clear x v
  have x := known_pairs w14
  go_wp2_with fail
  refine x.mono ?_
  rintro e w15 ⟨rfl, v⟩
  have q := below_end q hq v
  have hq := q.size
  clear x v
  have q := q.alloc hq (.cells #[.int .i64 0, .int .i64 0, .int .i64 0, .int .i64 0] 23)
  have hq := q.size
  go_upto_region 12 with fail
  generalize w15.alloc (.cells #[.int .i64 0, .int .i64 0, .int .i64 0, .int .i64 0] 23) = V1 at *
  have x := known_rand1 V1
  go_wp2_with fail
  refine x.mono ?_
  rintro e u1 ⟨rfl, v⟩
  have q := below_end q hq v
  have hq := q.size
  clear x v
  have q := q.alloc hq (.cells #[.int .i64 1, .int .i64 1] 28)
  have hq := q.size
  have KV2 := Blk.new u1 28 #[.int .i64 1, .int .i64 1]
  go_upto_region 13 with fail
  generalize u1.alloc (.cells #[.int .i64 1, .int .i64 1] 28) = V2 at *
  have x := known_rand2 V2
  go_wp2_with fail
  refine x.mono ?_
  rintro e u2 ⟨rfl, v⟩
  have KV2 := KV2.below v KV2.lt
  have q := below_end q hq v
  have hq := q.size
  clear x v
  have q := q.alloc hq (.cells #[.int .i64 1, .int .i64 1] 28)
  have hq := q.size
  have KV3 := Blk.new u2 28 #[.int .i64 1, .int .i64 1]
  have KV2 := KV2.alloc (.cells #[.int .i64 1, .int .i64 1] 28)
  go_upto_region 14 with fail
  generalize u2.alloc (.cells #[.int .i64 1, .int .i64 1] 28) = V3 at *
  have x := known_rand3 V3
  go_wp2_with fail
  refine x.mono ?_
  rintro e u3 ⟨rfl, v⟩
  have KV2 := KV2.below v KV2.lt
  have KV3 := KV3.below v KV3.lt
  have q := below_end q hq v
  have hq := q.size
  clear x v
  have q := q.alloc hq (.cells #[.int .i64 0, .int .i64 1] 28)
  have hq := q.size
  have KV4 := Blk.new u3 28 #[.int .i64 0, .int .i64 1]
  have KV2 := KV2.alloc (.cells #[.int .i64 0, .int .i64 1] 28)
  have KV3 := KV3.alloc (.cells #[.int .i64 0, .int .i64 1] 28)
  go_upto_region 15 with fail
  generalize u3.alloc (.cells #[.int .i64 0, .int .i64 1] 28) = V4 at *
  have KV2a := KV2.cell 0
  have KV2b := KV2.cell 1
  simp at KV2a KV2b
  have KV3a := KV3.cell 0
  have KV3b := KV3.cell 1
  simp at KV3a KV3b
  have KV4a := KV4.cell 0
  have KV4b := KV4.cell 1
  simp at KV4a KV4b
  clear KV2
  clear KV3
  clear KV4
  go_upto_region 17 with fail
  clear KV2a KV2b KV3a KV3b KV4a KV4b
  have x := known_next1 V4
  go_wp2_with fail
  refine x.mono ?_
  rintro e n1 ⟨s2, rfl, a2, v⟩
  have q := below_end q hq v
  have hq := q.size
  clear x v
  have x := known_next2 n1
  go_wp2_with fail
  refine x.mono ?_
  rintro e n2 ⟨rfl, v⟩
  have a2 := a2.below v
  have q := below_end q hq v
  have hq := q.size
  clear x v
  have x := known_next3 n2
  go_wp2_with fail
  refine x.mono ?_
  rintro e n3 ⟨rfl, v⟩
  have a2 := a2.below v
  have q := below_end q hq v
  have hq := q.size
  clear x v
  have x := known_next4 n3
  go_wp2_with fail
  refine x.mono ?_
  rintro e n4 ⟨s3, rfl, a3, v⟩
  have a2 := a2.below v
  have q := below_end q hq v
  have hq := q.size
  clear x v
  have x := known_same 3 3 _ [0, 1, 2] #[.int .i64 0, .int .i64 1, .int .i64 2] n4 a2 rfl rfl (by decide) (by decide)
  go_wp2_with fail
  refine x.mono ?_
  rintro e n5 ⟨rfl, v⟩
  have a3 := a3.below v
  have q := below_end q hq v
  have hq := q.size
  clear x v a2
  have x := known_same 4 4 _ [0, 0, 2, 3] #[.int .i64 0, .int .i64 0, .int .i64 2, .int .i64 3] n5 a3 rfl rfl (by decide) (by decide)
  go_wp2_with fail
  refine x.mono ?_
  rintro e n6 ⟨rfl, v⟩
  have q := below_end q hq v
  have hq := q.size
  clear x v a3
  have x := works_ok n6
  go_wp2_with fail
  refine x.mono ?_
  rintro e n7 ⟨rfl, v⟩
  have q := below_end q hq v
  go_wp2_with fail
  go_ret
  exact ⟨rfl, q⟩
end Go.Proofs.Ytipniooflaiikaa
