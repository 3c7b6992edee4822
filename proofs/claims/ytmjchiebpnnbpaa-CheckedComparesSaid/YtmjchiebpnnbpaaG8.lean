/-
  The document's order of fractions.
-/
import Derived.Test.YtmjchiebpnnbpaaG7
set_option linter.unusedVariables false
set_option linter.unusedSimpArgs false
namespace Go.Proofs.Ytmjchiebpnnbpaa
open Go.RowKit Go.Shelf

theorem sg_sub (x y : Int) : sg (x + -y) = cmp x y := by unfold sg cmp; split <;> split <;> (repeat' split) <;> omega

set_option maxRecDepth 100000 in
set_option maxHeartbeats 4000000 in
theorem order_w {b : Bool} {f : Nat → Int} {c : Bool} {g : Nat → Int} {x y : Int} (hx : Wide b f x) (hy : Wide c g y) (h : (x.natAbs : Int) + (-y).natAbs < 4294967296 ^ 6) (w : World) :
    Calls Try.prog 43 #[.agg (wide b f), .agg (wide c g)] w fun e w' => e = .returned (.int .i64 (cmp x y)) ∧ Below w.heap.size w w' := by
  have q := below_new2 w (.cells (wide b f) 48) (.cells (wide c g) 48)
  have kf := (Blk.new w 48 (wide b f)).alloc (.cells (wide c g) 48)
  have kg := Blk.new2 w (.cells (wide b f) 48) 48 (wide c g)
  have HN := fun w => negate_w hy w
  have HP := fun (d : Bool) (k : Nat → Int) (hk : Wide d k (-y)) w => plus_w hx hk h w
  rw [← sg_sub]
  clear hx hy h
  simp only [wide] at q kf kg HN HP ⊢
  go_enter Try.func43, Try.ntmps43
  go_upto_region 1 with fail
  generalize (w.alloc (.cells #[.bool b, .int .u64 (f 0), .int .u64 (f 1), .int .u64 (f 2), .int .u64 (f 3), .int .u64 (f 4), .int .u64 (f 5)] 48)).alloc (.cells #[.bool c, .int .u64 (g 0), .int .u64 (g 1), .int .u64 (g 2), .int .u64 (g 3), .int .u64 (g 4), .int .u64 (g 5)] 48) = W0 at *
  have kf : Blk W0 w.heap.size 48 (wide b f) := kf
  have kg : Blk W0 (w.heap.size + 1) 48 (wide c g) := kg
  go_wp2_with fail
  obtain ⟨f0, f1, f2, f3, f4, f5, f6⟩ := kf.drew.wides
  obtain ⟨g0, g1, g2, g3, g4, g5, g6⟩ := kg.drew.wides
  go_region_held3 (fun w' => w'.cell? ⟨w.heap.size, 0, none⟩ = some (.bool b) ∧ w'.cell? ⟨w.heap.size, 1, none⟩ = some (.int .u64 (f 0)) ∧ w'.cell? ⟨w.heap.size, 2, none⟩ = some (.int .u64 (f 1)) ∧ w'.cell? ⟨w.heap.size, 3, none⟩ = some (.int .u64 (f 2)) ∧ w'.cell? ⟨w.heap.size, 4, none⟩ = some (.int .u64 (f 3)) ∧ w'.cell? ⟨w.heap.size, 5, none⟩ = some (.int .u64 (f 4)) ∧ w'.cell? ⟨w.heap.size, 6, none⟩ = some (.int .u64 (f 5)) ∧ w'.cell? ⟨w.heap.size + 1, 0, none⟩ = some (.bool c) ∧ w'.cell? ⟨w.heap.size + 1, 1, none⟩ = some (.int .u64 (g 0)) ∧ w'.cell? ⟨w.heap.size + 1, 2, none⟩ = some (.int .u64 (g 1)) ∧ w'.cell? ⟨w.heap.size + 1, 3, none⟩ = some (.int .u64 (g 2)) ∧ w'.cell? ⟨w.heap.size + 1, 4, none⟩ = some (.int .u64 (g 3)) ∧ w'.cell? ⟨w.heap.size + 1, 5, none⟩ = some (.int .u64 (g 4)) ∧ w'.cell? ⟨w.heap.size + 1, 6, none⟩ = some (.int .u64 (g 5))) (go_keep)
    (first
      | (go_at_call 50; refine (sign_w W2 _).mono ?_; rintro e w3 ⟨rfl, hv3⟩; have lf3 := lf2.below hv3 lf2.lt; have lg3 := lg2.below hv3 lg2.lt; obtain ⟨u0, u1, u2, u3, u4, u5, u6⟩ := lf3.wides; obtain ⟨v0, v1, v2, v3, v4, v5, v6⟩ := lg3.wides)
      | (go_at_call 30; refine (HP _ _ W1 _).mono ?_; rintro e w2 ⟨d2, k2, rfl, W2, hv2⟩; have lf2 := lf1.below hv2 lf1.lt; have lg2 := lg1.below hv2 lg1.lt; obtain ⟨p0, p1, p2, p3, p4, p5, p6⟩ := lf2.wides; obtain ⟨r0, r1, r2, r3, r4, r5, r6⟩ := lg2.wides)
      | (go_at_call 42; refine (HN _).mono ?_; rintro e w1 ⟨d1, k1, rfl, W1, hv1⟩; have lf1 := kf.drew.below hv1 kf.lt; have lg1 := kg.drew.below hv1 kg.lt; obtain ⟨m0, m1, m2, m3, m4, m5, m6⟩ := lf1.wides; obtain ⟨n0, n1, n2, n3, n4, n5, n6⟩ := lg1.wides))
  all_goals go_wp2_with fail
  go_ret
  have q := below_end q.drew q.drew.size hv1
  have q := below_end q q.size hv2
  exact ⟨rfl, below_end q q.size hv3⟩

theorem ord_big {an ad bn bd : Int} (h1 : Fits an) (h2 : Fits ad) (h3 : Fits bn) (h4 : Fits bd) : ((an * bd).natAbs : Int) + (-(bn * ad)).natAbs < 4294967296 ^ 6 := by
  have a1 := natAbs_le63 h1
  have a2 := natAbs_le63 h2
  have a3 := natAbs_le63 h3
  have a4 := natAbs_le63 h4
  rw [Int.natAbs_neg, Int.natAbs_mul, Int.natAbs_mul, Int.natCast_mul, Int.natCast_mul]
  have b1 : (an.natAbs : Int) * (bd.natAbs : Int) ≤ 9223372036854775808 * 9223372036854775808 := Int.mul_le_mul a1 a4 (by omega) (by decide)
  have b2 : (bn.natAbs : Int) * (ad.natAbs : Int) ≤ 9223372036854775808 * 9223372036854775808 := Int.mul_le_mul a3 a2 (by omega) (by decide)
  generalize (an.natAbs : Int) * (bd.natAbs : Int) = X at *
  generalize (bn.natAbs : Int) * (ad.natAbs : Int) = Y at *
  omega
set_option maxRecDepth 1000000 in
set_option maxHeartbeats 4000000 in
theorem rcompare_ok (an ad bn bd : Int) (h1 : Fits an) (h2 : Fits ad) (h3 : Fits bn) (h4 : Fits bd) (w : World) :
    Calls Try.prog 27 #[.agg #[.int .i64 an, .int .i64 ad], .agg #[.int .i64 bn, .int .i64 bd]] w fun e w' => e = .returned (.tuple #[.int .i64 (comV an ad bn bd), .int .i64 (comE an ad bn bd)]) ∧ Below w.heap.size w w' := by
  have q := below_new2 w (.cells #[.int .i64 an, .int .i64 ad] 32) (.cells #[.int .i64 bn, .int .i64 bd] 32)
  have ka := (Blk.new w 32 #[.int .i64 an, .int .i64 ad]).alloc (.cells #[.int .i64 bn, .int .i64 bd] 32)
  have kb := Blk.new2 w (.cells #[.int .i64 an, .int .i64 ad] 32) 32 #[.int .i64 bn, .int .i64 bd]
  by_cases hbad : ad < 1 ∨ bd < 1
  · have e1 : comV an ad bn bd = 0 := if_pos hbad
    have e2 : comE an ad bn bd = 2 := if_pos hbad
    rw [e1, e2]
    clear e1 e2
    go_enter Try.func27, Try.ntmps27
    go_upto_region 1 with fail
    generalize (w.alloc (.cells #[.int .i64 an, .int .i64 ad] 32)).alloc (.cells #[.int .i64 bn, .int .i64 bd] 32) = W0 at *
    have ka1 := ka.cell 1
    have kb1 := kb.cell 1
    simp at ka1 kb1
    by_cases pa : ad < 1
    · go_wp2_with fail
      go_ret2
      exact ⟨rfl, q⟩
    · have pb : bd < 1 := by omega
      go_wp2_with fail
      go_ret2
      exact ⟨rfl, q⟩
  have e1 : comV an ad bn bd = cmp (an * bd) (bn * ad) := if_neg hbad
  have e2 : comE an ad bn bd = 0 := if_neg hbad
  rw [e1, e2]
  clear e1 e2
  have pa : 1 ≤ ad := by omega
  have pb : 1 ≤ bd := by omega
  clear hbad
  go_enter Try.func27, Try.ntmps27
  go_upto_region 1 with fail
  generalize (w.alloc (.cells #[.int .i64 an, .int .i64 ad] 32)).alloc (.cells #[.int .i64 bn, .int .i64 bd] 32) = W0 at *
  have ka0 := ka.cell 0
  have ka1 := ka.cell 1
  have kb0 := kb.cell 0
  have kb1 := kb.cell 1
  simp at ka0 ka1 kb0 kb1
  go_wp2_with fail
  clear ka0 ka1 kb0 kb1
  have ka0 := ka.drew.cell 0
  have ka1 := ka.drew.cell 1
  have kb0 := kb.drew.cell 0
  have kb1 := kb.drew.cell 1
  simp at ka0 ka1 kb0 kb1
  go_region_held3 (fun w' => w'.cell? ⟨w.heap.size, 0, none⟩ = some (.int .i64 an) ∧ w'.cell? ⟨w.heap.size, 1, none⟩ = some (.int .i64 ad) ∧ w'.cell? ⟨w.heap.size + 1, 0, none⟩ = some (.int .i64 bn) ∧ w'.cell? ⟨w.heap.size + 1, 1, none⟩ = some (.int .i64 bd)) (go_keep)
    (first
      | (go_at_call 43; refine (order_w W3 W6 (ord_big h1 h2 h3 h4) _).mono ?_; rintro e w7 ⟨rfl, hv7⟩; have la7 := la6.below hv7 la6.lt; have lb7 := lb6.below hv7 lb6.lt; have p0 := la7.cell 0; have p1 := la7.cell 1; have p2 := lb7.cell 0; have p3 := lb7.cell 1; simp at p0 p1 p2 p3)
      | (go_at_call 38; have mk := W5; refine (times_w W4 W5 Z4.out Z5.out _).mono ?_; rintro e w6 ⟨b6, f6, rfl, W6, hv6⟩; have la6 := la5.below hv6 la5.lt; have lb6 := lb5.below hv6 lb5.lt; have p0 := la6.cell 0; have p1 := la6.cell 1; have p2 := lb6.cell 0; have p3 := lb6.cell 1; simp at p0 p1 p2 p3)
      | (go_at_call 31; have mk := W4; refine (from_w ad h2 _).mono ?_; rintro e w5 ⟨b5, f5, rfl, W5, _, y1, y2, y3, hv5⟩; have Z5 := Lib.hid (And.intro y1 (And.intro y2 y3)); clear y1 y2 y3; have la5 := la4.below hv5 la4.lt; have lb5 := lb4.below hv5 lb4.lt; have p0 := la5.cell 0; have p1 := la5.cell 1; have p2 := lb5.cell 0; have p3 := lb5.cell 1; simp at p0 p1 p2 p3)
      | (go_at_call 31; have mk := W3; refine (from_w bn h3 _).mono ?_; rintro e w4 ⟨b4, f4, rfl, W4, _, y1, y2, y3, hv4⟩; have Z4 := Lib.hid (And.intro y1 (And.intro y2 y3)); clear y1 y2 y3; have la4 := la3.below hv4 la3.lt; have lb4 := lb3.below hv4 lb3.lt; have p0 := la4.cell 0; have p1 := la4.cell 1; have p2 := lb4.cell 0; have p3 := lb4.cell 1; simp at p0 p1 p2 p3)
      | (go_at_call 38; refine (times_w W1 W2 Z1.out Z2.out _).mono ?_; rintro e w3 ⟨b3, f3, rfl, W3, hv3⟩; have la3 := la2.below hv3 la2.lt; have lb3 := lb2.below hv3 lb2.lt; have p0 := la3.cell 0; have p1 := la3.cell 1; have p2 := lb3.cell 0; have p3 := lb3.cell 1; simp at p0 p1 p2 p3)
      | (go_at_call 31; have mk := W1; refine (from_w bd h4 _).mono ?_; rintro e w2 ⟨b2, f2, rfl, W2, _, y1, y2, y3, hv2⟩; have Z2 := Lib.hid (And.intro y1 (And.intro y2 y3)); clear y1 y2 y3; have la2 := la1.below hv2 la1.lt; have lb2 := lb1.below hv2 lb1.lt; have p0 := la2.cell 0; have p1 := la2.cell 1; have p2 := lb2.cell 0; have p3 := lb2.cell 1; simp at p0 p1 p2 p3)
      | (go_at_call 31; refine (from_w an h1 _).mono ?_; rintro e w1 ⟨b1, f1, rfl, W1, _, y1, y2, y3, hv1⟩; have Z1 := Lib.hid (And.intro y1 (And.intro y2 y3)); clear y1 y2 y3; have la1 := ka.drew.below hv1 ka.lt; have lb1 := kb.drew.below hv1 kb.lt; have p0 := la1.cell 0; have p1 := la1.cell 1; have p2 := lb1.cell 0; have p3 := lb1.cell 1; simp at p0 p1 p2 p3))
  all_goals go_wp2_with fail
  go_ret2
  have q := below_end q.drew q.drew.size hv1
  have q := below_end q q.size hv2
  have q := below_end q q.size hv3
  have q := below_end q q.size hv4
  have q := below_end q q.size hv5
  have q := below_end q q.size hv6
  exact ⟨rfl, below_end q q.size hv7⟩
end Go.Proofs.Ytmjchiebpnnbpaa
