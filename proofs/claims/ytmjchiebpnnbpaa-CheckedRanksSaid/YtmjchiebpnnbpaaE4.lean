/-
  The walk of twins: what two fractions are reduced to.
-/
import Derived.Test.YtmjchiebpnnbpaaK1
set_option linter.unusedVariables false
set_option linter.unusedSimpArgs false
namespace Go.Proofs.Ytmjchiebpnnbpaa
open Go.RowKit Go.Shelf

set_option maxRecDepth 100000 in
set_option maxHeartbeats 4000000 in
theorem twins_ok (an ad bn bd : Int) (h1 : Fits an) (h2 : Fits ad) (h3 : Fits bn) (h4 : Fits bd) (p1 : 1 ≤ ad) (p2 : 1 ≤ bd) (w : World) :
    Calls Try.prog 28 #[.agg #[.int .i64 an, .int .i64 ad], .agg #[.int .i64 bn, .int .i64 bd]] w fun e w' => e = .returned (.bool true) ∧ Below w.heap.size w w' := by
  obtain ⟨N, D, L⟩ := low_of h1 h2 p1
  obtain ⟨M, E, K⟩ := low_of h3 h4 p2
  have q := below_new2 w (.cells #[.int .i64 an, .int .i64 ad] 32) (.cells #[.int .i64 bn, .int .i64 bd] 32)
  have ka := (Blk.new w 32 #[.int .i64 an, .int .i64 ad]).alloc (.cells #[.int .i64 bn, .int .i64 bd] 32)
  have kb := Blk.new2 w (.cells #[.int .i64 an, .int .i64 ad] 32) 32 #[.int .i64 bn, .int .i64 bd]
  have D1 := L.pos
  have E1 := K.pos
  have hN := L.fitN
  have hD := L.fitD
  obtain ⟨c1, c2⟩ := low_cmp L p1
  have C1 := Lib.hid c1
  have C2 := Lib.hid c2
  have HL := Lib.hid L
  have HK := Lib.hid K
  have X2 := Lib.hid (show comE an ad bn bd = 0 by unfold comE; rw [if_neg (by omega)])
  have hx : (comV an ad bn bd = 0 ∧ N = M ∧ D = E) ∨ (comV an ad bn bd ≠ 0 ∧ ¬ (N = M ∧ D = E)) := by
    have hq := low_eq L K p1 p2
    have hv : comV an ad bn bd = cmp (an * bd) (bn * ad) := by unfold comV; rw [if_neg (by omega)]
    have hz := (cmp_sgn (an * bd) (bn * ad)).2.2.1
    rw [hv]
    by_cases h : an * bd = bn * ad
    · exact Or.inl ⟨hz.2 h, hq.1 h⟩
    · exact Or.inr ⟨fun k => h (hz.1 k), fun k => h (hq.2 k)⟩
  have HX := Lib.hid hx
  clear hx c1 c2 L K
  go_enter Try.func28, Try.ntmps28
  go_upto_region 1 with fail
  generalize (w.alloc (.cells #[.int .i64 an, .int .i64 ad] 32)).alloc (.cells #[.int .i64 bn, .int .i64 bd] 32) = W0 at *
  have ka0 := ka.cell 0
  have ka1 := ka.cell 1
  simp at ka0 ka1
  go_wp2_with fail
  refine (reduce_ok an ad h1 h2 _).mono ?_
  rw [HL.out.num, HL.out.den, HL.out.err]
  rintro e w1 ⟨rfl, hv1⟩
  have q := below_end q q.size hv1
  have ka := ka.below hv1 ka.lt
  have kb := kb.below hv1 kb.lt
  clear ka0 ka1
  have kx := Blk.new w1 32 #[.int .i64 N, .int .i64 D]
  have ka := ka.alloc (.cells #[.int .i64 N, .int .i64 D] 32)
  have kb := kb.alloc (.cells #[.int .i64 N, .int .i64 D] 32)
  have q := q.alloc q.size (.cells #[.int .i64 N, .int .i64 D] 32)
  go_upto_region 2 with fail
  generalize w1.alloc (.cells #[.int .i64 N, .int .i64 D] 32) = W1 at *
  have kb0 := kb.cell 0
  have kb1 := kb.cell 1
  simp at kb0 kb1
  go_wp2_with fail
  refine (reduce_ok bn bd h3 h4 _).mono ?_
  rw [HK.out.num, HK.out.den, HK.out.err]
  rintro e w2 ⟨rfl, hv2⟩
  have q := below_end q q.size hv2
  have ka := ka.below hv2 ka.lt
  have kb := kb.below hv2 kb.lt
  have kx := kx.below hv2 kx.lt
  clear kb0 kb1
  have ky := Blk.new w2 32 #[.int .i64 M, .int .i64 E]
  have ka := ka.alloc (.cells #[.int .i64 M, .int .i64 E] 32)
  have kb := kb.alloc (.cells #[.int .i64 M, .int .i64 E] 32)
  have kx := kx.alloc (.cells #[.int .i64 M, .int .i64 E] 32)
  have q := q.alloc q.size (.cells #[.int .i64 M, .int .i64 E] 32)
  go_upto_region 3 with fail
  generalize w2.alloc (.cells #[.int .i64 M, .int .i64 E] 32) = W2 at *
  have ka0 := ka.cell 0
  have ka1 := ka.cell 1
  have kb0 := kb.cell 0
  have kb1 := kb.cell 1
  have kx0 := kx.cell 0
  have kx1 := kx.cell 1
  have ky0 := ky.cell 0
  have ky1 := ky.cell 1
  simp at ka0 ka1 kb0 kb1 kx0 kx1 ky0 ky1
  go_wp2_with fail
  go_loop [9] (fun vd => ∃ k : Nat, vd = .int .i64 k ∧ 2 ≤ k ∧ k ≤ 50) (fun vd => 50 - (intOf vd).toNat)
  case atStart => exact ⟨2, rfl, by omega, by omega⟩
  case round =>
    obtain ⟨k, rfl, hk2, hk⟩ := hrel
    by_cases hlt : k < 50
    · have hk0 : (k : Int) ≠ 0 := by omega
      by_cases hr : N.tmod (k : Int) = 0
      · have hs : (D.tmod (k : Int) == 0) = false := by simpa using low_rem HL.out k hk2 hr
        have hr' : (N.tmod (k : Int) == 0) = true := by simpa using hr
        have hs2 := low_rem HL.out k hk2 hr
        have hs3 : D % (k : Int) ≠ 0 := by rwa [Int.tmod_eq_emod_of_nonneg (by omega)] at hs2
        have hs4 : (D % (k : Int) == 0) = false := by simpa using hs3
        have hd1 := decide_no hs3
        have hd2 := decide_yes hr
        go_wp2_with fail
        go_round
        case rel => exact ⟨k + 1, by simp, by omega, by omega⟩
        case measure => simp [intOf]; omega
      · have hr' : (N.tmod (k : Int) == 0) = false := by simpa using hr
        go_wp2_with fail
        go_round
        case rel => exact ⟨k + 1, by simp, by omega, by omega⟩
        case measure => simp [intOf]; omega
    · go_wp2_with fail
      refine (compare_ok an ad bn bd h1 h2 h3 h4 _).mono ?_
      rw [X2.out]
      rintro e w3 ⟨rfl, hv3⟩
      have q := below_end q q.size hv3
      have ka := ka.below hv3 ka.lt
      have kx := kx.below hv3 kx.lt
      have ky := ky.below hv3 ky.lt
      clear ka0 ka1 kb0 kb1 kx0 kx1 ky0 ky1 kb
      have ka0 := ka.cell 0
      have ka1 := ka.cell 1
      have kx0 := kx.cell 0
      have kx1 := kx.cell 1
      simp at ka0 ka1 kx0 kx1
      go_wp2_with fail
      refine (compare_ok an ad N D h1 h2 hN hD _).mono ?_
      rw [C1.out, C2.out]
      rintro e w4 ⟨rfl, hv4⟩
      have q := below_end q q.size hv4
      have kx := kx.below hv4 kx.lt
      have ky := ky.below hv4 ky.lt
      clear ka0 ka1 kx0 kx1 ka
      have kx0 := kx.cell 0
      have kx1 := kx.cell 1
      have ky0 := ky.cell 0
      have ky1 := ky.cell 1
      simp at kx0 kx1 ky0 ky1
      rcases HX.out with ⟨hc, rfl, rfl⟩ | ⟨hc, hne⟩
      · go_wp2_with fail
        all_goals
          go_ret
          exact ⟨rfl, q⟩
      · have hc' : (comV an ad bn bd == 0) = false := by simpa using hc
        go_wp2_with fail
        all_goals
          go_ret
          exact ⟨rfl, q⟩
end Go.Proofs.Ytmjchiebpnnbpaa
