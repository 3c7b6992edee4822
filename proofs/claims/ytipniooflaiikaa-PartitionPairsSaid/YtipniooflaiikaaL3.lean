/-
  PartitionPairs, walked.
-/
import Derived.Test.YtipniooflaiikaaE2
import Derived.Test.YtipniooflaiikaaA9
set_option linter.unusedVariables false
set_option linter.unusedSimpArgs false
namespace Go.Proofs.Ytipniooflaiikaa
open Go.RowKit Go.Shelf

/-- a call that returns these numbers and an error -/
def GivesN (f : Nat) (args : Array Value) (w : World) (xs : Array Value) (e : Int) : Prop :=
  ∀ W, Below w.heap.size w W → Calls Try.prog f args W fun en w' => en = .returned (.tuple #[.agg xs, .int .i64 e]) ∧ Below W.heap.size W w'
theorem pairs_both (n m c d : Nat) (A B : Option Addr) (z y : Nat → Int) (w : World) (ha : ArgI .i64 w A n c z) (hb : ArgI .i64 w B m d y) (hn : n ≤ 1000) (hm : m ≤ 1000) :
    ∃ P0 P1 P2 P3 E N D F : Int, GivesN 12 #[.slice A n c, .slice B m d] w #[.int .i64 P0, .int .i64 P1, .int .i64 P2, .int .i64 P3] E ∧ GivesN 13 #[.slice A n c, .slice B m d] w #[.int .i64 P0, .int .i64 P1, .int .i64 P2, .int .i64 P3] E ∧
      GivesN 14 #[.slice A n c, .slice B m d] w #[.int .i64 N, .int .i64 D] F ∧ GivesN 15 #[.slice A n c, .slice B m d] w #[.int .i64 N, .int .i64 D] F := by
  by_cases hT : Two n m z y
  · have hp : ∀ {W e w'}, PairsOk W n m z y e w' → e = .returned (.tuple #[.agg #[.int .i64 (q0 z y n), .int .i64 (q1 z y n), .int .i64 (q2 z y n), .int .i64 (q3 z y n)], .int .i64 0]) ∧ Below W.heap.size W w' := by
      rintro W e w' ⟨⟨hno, _⟩ | ⟨_, he⟩, hv⟩
      · exact (hno hT).elim
      · exact ⟨he, hv⟩
    by_cases h2 : n < 2
    · have hr : ∀ {W e w'}, RandOk W n m z y e w' → e = .returned (.tuple #[.agg #[.int .i64 1, .int .i64 1], .int .i64 0]) ∧ Below W.heap.size W w' := by
        rintro W e w' ⟨⟨hno, _⟩ | ⟨_, _, he⟩ | ⟨_, h3, _⟩, hv⟩
        · exact (hno hT).elim
        · exact ⟨he, hv⟩
        · omega
      exact ⟨_, _, _, _, _, _, _, _, fun W hv => (allpairs_ok n m c d A B z y W (ha.below hv) (hb.below hv) hn).mono fun e w' h => hp h, fun W hv => (rpairs_ok n m c d A B z y W (ha.below hv) (hb.below hv) hn hm).mono fun e w' h => hp h,
        fun W hv => (rand_ok n m c d A B z y W (ha.below hv) (hb.below hv) hn).mono fun e w' h => hr h, fun W hv => (rrand_ok n m c d A B z y W (ha.below hv) (hb.below hv) hn hm).mono fun e w' h => hr h⟩
    · have hr : ∀ {W e w'}, RandOk W n m z y e w' → e = .returned (.tuple #[.agg #[.int .i64 (redN ((q0 z y n : Int) + (q3 z y n : Int)) (half n)), .int .i64 (redD ((q0 z y n : Int) + (q3 z y n : Int)) (half n))], .int .i64 (redE ((q0 z y n : Int) + (q3 z y n : Int)) (half n))]) ∧ Below W.heap.size W w' := by
        rintro W e w' ⟨⟨hno, _⟩ | ⟨_, h3, _⟩ | ⟨_, _, he⟩, hv⟩
        · exact (hno hT).elim
        · exact absurd h3 h2
        · exact ⟨he, hv⟩
      exact ⟨_, _, _, _, _, _, _, _, fun W hv => (allpairs_ok n m c d A B z y W (ha.below hv) (hb.below hv) hn).mono fun e w' h => hp h, fun W hv => (rpairs_ok n m c d A B z y W (ha.below hv) (hb.below hv) hn hm).mono fun e w' h => hp h,
        fun W hv => (rand_ok n m c d A B z y W (ha.below hv) (hb.below hv) hn).mono fun e w' h => hr h, fun W hv => (rrand_ok n m c d A B z y W (ha.below hv) (hb.below hv) hn hm).mono fun e w' h => hr h⟩
  · have hp : ∀ {W e w'}, PairsOk W n m z y e w' → e = .returned (.tuple #[.agg #[.int .i64 0, .int .i64 0, .int .i64 0, .int .i64 0], .int .i64 2]) ∧ Below W.heap.size W w' := by
      rintro W e w' ⟨⟨_, he⟩ | ⟨h, _⟩, hv⟩
      · exact ⟨he, hv⟩
      · exact (hT h).elim
    have hr : ∀ {W e w'}, RandOk W n m z y e w' → e = .returned (.tuple #[.agg #[.int .i64 0, .int .i64 0], .int .i64 2]) ∧ Below W.heap.size W w' := by
      rintro W e w' ⟨⟨_, he⟩ | ⟨h, _⟩ | ⟨h, _⟩, hv⟩
      · exact ⟨he, hv⟩
      · exact (hT h).elim
      · exact (hT h).elim
    exact ⟨_, _, _, _, _, _, _, _, fun W hv => (allpairs_ok n m c d A B z y W (ha.below hv) (hb.below hv) hn).mono fun e w' h => hp h, fun W hv => (rpairs_ok n m c d A B z y W (ha.below hv) (hb.below hv) hn hm).mono fun e w' h => hp h,
      fun W hv => (rand_ok n m c d A B z y W (ha.below hv) (hb.below hv) hn).mono fun e w' h => hr h, fun W hv => (rrand_ok n m c d A B z y W (ha.below hv) (hb.below hv) hn hm).mono fun e w' h => hr h⟩

set_option maxRecDepth 100000 in
set_option maxHeartbeats 4000000 in
theorem pairs_walk (n c : Nat) (A : Option Addr) (z : Nat → Int) (m d : Nat) (B : Option Addr) (y : Nat → Int) (w : World) (ha : ArgI .i64 w A n c z) (hA : A = none → n = 0 ∧ c = 0) (hb : ArgI .i64 w B m d y) (hB : B = none → m = 0 ∧ d = 0) :
    Calls Try.prog 3 #[.slice A n c, .slice B m d] w fun e w' => e = .returned (.bool true) ∧ Below w.heap.size w w' := by
  have hn63 := ha.2.1
  have hnc := ha.1
  have hm63 := hb.2.1
  have hmd := hb.1
  by_cases hgn : 60 < n
  · have hgn : (60 : Int) < (n : Int) := by omega
    go_enter Try.func3, Try.ntmps3
    go_wp2_with fail
    go_ret
    exact ⟨rfl, Below.refl _ _⟩
  have hnn : ¬ (60 : Int) < (n : Int) := by omega
  by_cases hgm : 60 < m
  · have hgm : (60 : Int) < (m : Int) := by omega
    go_enter Try.func3, Try.ntmps3
    go_wp2_with fail
    go_ret
    exact ⟨rfl, Below.refl _ _⟩
  have hnm : ¬ (60 : Int) < (m : Int) := by omega
  obtain ⟨P0, P1, P2, P3, E, N, D, F, g12, g13, g14, g15⟩ := pairs_both n m c d A B z y w ha hb (by omega) (by omega)
  have G13 := Lib.hid g13
  have G14 := Lib.hid g14
  have G15 := Lib.hid g15
  have x := g12 w (Below.refl _ _)
  clear g12 g13 g14 g15 ha hb
  go_enter Try.func3, Try.ntmps3
  go_wp2_with fail
  refine x.mono ?_
  rintro e w1 ⟨rfl, v⟩
  have o3 := below_new1 w1 (.cells #[.int .i64 P0, .int .i64 P1, .int .i64 P2, .int .i64 P3] 23)
  have k3 := Blk.new w1 23 #[.int .i64 P0, .int .i64 P1, .int .i64 P2, .int .i64 P3]
  have q := below_end v v.size o3
  have hq := q.size
  clear x v o3
  go_upto_region 4 with fail
  generalize hg3 : w1.heap.size = g3 at *
  generalize w1.alloc (.cells #[.int .i64 P0, .int .i64 P1, .int .i64 P2, .int .i64 P3] 23) = W3 at *
  have x := G13.out W3 q
  go_wp2_with fail
  refine x.mono ?_
  rintro e w2 ⟨rfl, v⟩
  have o4 := below_new1 w2 (.cells #[.int .i64 P0, .int .i64 P1, .int .i64 P2, .int .i64 P3] 23)
  have k4 := Blk.new w2 23 #[.int .i64 P0, .int .i64 P1, .int .i64 P2, .int .i64 P3]
  have k3 := (k3.below v k3.lt).alloc (.cells #[.int .i64 P0, .int .i64 P1, .int .i64 P2, .int .i64 P3] 23)
  have q := below_end (below_end q hq v) (below_end q hq v).size o4
  have hq := q.size
  clear x v o4
  go_upto_region 5 with fail
  generalize hg4 : w2.heap.size = g4 at *
  generalize w2.alloc (.cells #[.int .i64 P0, .int .i64 P1, .int .i64 P2, .int .i64 P3] 23) = W4 at *
  have x := G14.out W4 q
  go_wp2_with fail
  refine x.mono ?_
  rintro e w5 ⟨rfl, v⟩
  have o5 := below_new1 w5 (.cells #[.int .i64 N, .int .i64 D] 28)
  have k5 := Blk.new w5 28 #[.int .i64 N, .int .i64 D]
  have k3 := (k3.below v k3.lt).alloc (.cells #[.int .i64 N, .int .i64 D] 28)
  have k4 := (k4.below v k4.lt).alloc (.cells #[.int .i64 N, .int .i64 D] 28)
  have q := below_end (below_end q hq v) (below_end q hq v).size o5
  have hq := q.size
  clear x v o5
  go_upto_region 6 with fail
  generalize hg5 : w5.heap.size = g5 at *
  generalize w5.alloc (.cells #[.int .i64 N, .int .i64 D] 28) = W5 at *
  have x := G15.out W5 q
  go_wp2_with fail
  refine x.mono ?_
  rintro e w6 ⟨rfl, v⟩
  have o6 := below_new1 w6 (.cells #[.int .i64 N, .int .i64 D] 28)
  have k6 := Blk.new w6 28 #[.int .i64 N, .int .i64 D]
  have k3 := (k3.below v k3.lt).alloc (.cells #[.int .i64 N, .int .i64 D] 28)
  have k4 := (k4.below v k4.lt).alloc (.cells #[.int .i64 N, .int .i64 D] 28)
  have k5 := (k5.below v k5.lt).alloc (.cells #[.int .i64 N, .int .i64 D] 28)
  have q := below_end (below_end q hq v) (below_end q hq v).size o6
  have hq := q.size
  clear x v o6
  go_upto_region 7 with fail
  generalize hg6 : w6.heap.size = g6 at *
  generalize w6.alloc (.cells #[.int .i64 N, .int .i64 D] 28) = W6 at *
  have c30 := k3.cell 0
  have c31 := k3.cell 1
  have c32 := k3.cell 2
  have c33 := k3.cell 3
  have c40 := k4.cell 0
  have c41 := k4.cell 1
  have c42 := k4.cell 2
  have c43 := k4.cell 3
  have c50 := k5.cell 0
  have c51 := k5.cell 1
  have c60 := k6.cell 0
  have c61 := k6.cell 1
  simp at c30 c31 c32 c33 c40 c41 c42 c43 c50 c51 c60 c61
  have e23 := eq23 P0 P1 P2 P3 P0 P1 P2 P3
  simp only [beq_self_eq_true, Bool.and_self] at e23
  clear k3 k4 k5 k6
  have x := works_ok W6
  go_wp2_with fail
  refine x.mono ?_
  rintro e w9 ⟨rfl, v⟩
  have q := below_end q hq v
  go_wp2_with fail
  go_ret
  exact ⟨rfl, q⟩
end Go.Proofs.Ytipniooflaiikaa
