/-
  agree.
-/
import Derived.Test.YtgichkjomhnehaaT14
set_option linter.unusedVariables false
set_option linter.unusedSectionVars false
set_option linter.unusedSimpArgs false
namespace Go.Proofs.Ytgichkjomhnehaa
open Go.RowKit Go.Shelf

theorem AG.xyk {w0 w : World} {p p2 : Option Addr} {c0 c n : Nat} {Q : Nat → List Nat} {U : Nat → Int} {er : Int} {bx : Nat} {D X Y V K : Int} (a : AG w0 w p p2 c0 c n Q U er bx #[.int .i64 D, .int .i64 X, .int .i64 Y, .int .i64 V, .int .i64 K]) :
    w.cell? ⟨bx, 1, none⟩ = some (.int .i64 X) ∧ w.cell? ⟨bx, 2, none⟩ = some (.int .i64 Y) ∧ w.cell? ⟨bx, 4, none⟩ = some (.int .i64 K) := ⟨a.box.cell 1, a.box.cell 2, a.box.cell 4⟩
set_option maxRecDepth 100000 in
set_option maxHeartbeats 2500000 in
theorem agree_ok (w : World) (p p2 : Option Addr) (c0 c n : Nat) (Q : Nat → List Nat) (U : Nat → Int) (er D X Y V K : Int) (hS : SS w p c0 c n Q U er) (hR : RS w p2 c n Q U er) (hn : n ≤ 1000) (hX : Fits X) (hY : Fits Y) :
    Calls Try.prog 32 #[.pointer p, .pointer p2, .agg #[.int .i64 D, .int .i64 X, .int .i64 Y, .int .i64 V, .int .i64 K]] w fun e w' => e = .returned (.bool true) ∧ SS w' p c0 c n Q U er ∧ RS w' p2 c n Q U er ∧ Turns (fun k => c0 ≤ k ∧ k < c) w w' := by
  have hb := below_new1 w (.cells #[.int .i64 D, .int .i64 X, .int .i64 Y, .int .i64 V, .int .i64 K] 55)
  have a0 : AG w (w.alloc (.cells #[.int .i64 D, .int .i64 X, .int .i64 Y, .int .i64 V, .int .i64 K] 55)) p p2 c0 c n Q U er w.heap.size #[.int .i64 D, .int .i64 X, .int .i64 Y, .int .i64 V, .int .i64 K] :=
    ⟨hS.below hb, hR.below hb, Blk.new w 55 _, hR.1, Turns.of_below hb _, hn⟩
  have HX := Lib.hid hX
  obtain ⟨i1, hi1⟩ : ∃ i, (qAt n Q X K).1 = i := ⟨_, rfl⟩
  obtain ⟨j1, hj1⟩ : ∃ i, (qAt n Q X K).2 = i := ⟨_, rfl⟩
  obtain ⟨i2, hi2⟩ : ∃ i, (qMin n Q U X).1 = i := ⟨_, rfl⟩
  obtain ⟨j2, hj2⟩ : ∃ i, (qMin n Q U X).2 = i := ⟨_, rfl⟩
  obtain ⟨i3, hi3⟩ : ∃ i, (qSum n Q U er X).1 = i := ⟨_, rfl⟩
  obtain ⟨j3, hj3⟩ : ∃ i, (qSum n Q U er X).2 = i := ⟨_, rfl⟩
  obtain ⟨b4, hb4⟩ : ∃ i, qSame n Q X Y = i := ⟨_, rfl⟩
  obtain ⟨i5, hi5⟩ : ∃ i, qPos n Q X = i := ⟨_, rfl⟩
  obtain ⟨i6, hi6⟩ : ∃ i, qPos n Q Y = i := ⟨_, rfl⟩
  obtain ⟨i7, hi7⟩ : ∃ i, qLen n Q X = i := ⟨_, rfl⟩
  obtain ⟨i8, hi8⟩ : ∃ i, qVal n U X = i := ⟨_, rfl⟩
  have H1 := Lib.hid (And.intro hi1 hj1)
  have H2 := Lib.hid (And.intro hi2 hj2)
  have H3 := Lib.hid (And.intro hi3 hj3)
  have H4 := Lib.hid hb4
  have H5 := Lib.hid hi5
  have H6 := Lib.hid hi6
  have H7 := Lib.hid hi7
  have H8 := Lib.hid hi8
  clear hi1 hj1 hi2 hj2 hi3 hj3 hb4 hi5 hi6 hi7 hi8 hS hR hb hX hY
  go_enter Try.func32, Try.ntmps32
  go_upto_region 1 with fail
  generalize w.alloc (.cells #[.int .i64 D, .int .i64 X, .int .i64 Y, .int .i64 V, .int .i64 K] 55) = W0 at *
  generalize w.heap.size = bx at *
  obtain ⟨cX, cY, cK⟩ := a0.xyk
  have x1 := ag_at a0 X K
  rw [H1.out.1, H1.out.2] at x1
  go_wp2_with fail
  refine x1.mono ?_
  rintro e w1 ⟨rfl, a1⟩
  clear cX cY cK x1
  obtain ⟨cX, cY, cK⟩ := a1.xyk
  have x1 := ag_rat a1 X K
  rw [H1.out.1, H1.out.2] at x1
  go_wp2_with fail
  refine x1.mono ?_
  rintro e w2 ⟨rfl, a2⟩
  clear cX cY cK x1
  obtain ⟨cX, cY, cK⟩ := a2.xyk
  have x1 := ag_min a2 X
  rw [H2.out.1, H2.out.2] at x1
  go_wp2_with fail
  refine x1.mono ?_
  rintro e w3 ⟨rfl, a3⟩
  clear cX cY cK x1
  obtain ⟨cX, cY, cK⟩ := a3.xyk
  have x1 := ag_rmin a3 X
  rw [H2.out.1, H2.out.2] at x1
  go_wp2_with fail
  refine x1.mono ?_
  rintro e w4 ⟨rfl, a4⟩
  clear cX cY cK x1
  obtain ⟨cX, cY, cK⟩ := a4.xyk
  have x1 := ag_sum a4 X HX.out
  rw [H3.out.1, H3.out.2] at x1
  go_wp2_with fail
  refine x1.mono ?_
  rintro e w5 ⟨rfl, a5⟩
  clear cX cY cK x1
  obtain ⟨cX, cY, cK⟩ := a5.xyk
  have x1 := ag_rsum a5 X HX.out
  rw [H3.out.1, H3.out.2] at x1
  go_wp2_with fail
  refine x1.mono ?_
  rintro e w6 ⟨rfl, a6⟩
  clear cX cY cK x1 a0 a1 a2 a3 a4 a5
  go_upto_region 9 with fail
  have z0 := a6.drew
  obtain ⟨cX, cY, _⟩ := z0.xyk
  have x1 := ag_same z0 X Y
  rw [H4.out] at x1
  go_region_held3 (fun w' => w'.cell? ⟨bx, 1, none⟩ = some (.int .i64 X) ∧ w'.cell? ⟨bx, 2, none⟩ = some (.int .i64 Y)) (exact ⟨by assumption, by assumption⟩) (first
    | (go_at_call 53; (with_reducible refine x10.mono ?_); rintro e v10 ⟨rfl, z10⟩; obtain ⟨cX10, cY10, _⟩ := z10.xyk)
    | (go_at_call 29; (with_reducible refine x9.mono ?_); rintro e v9 ⟨rfl, z9⟩; obtain ⟨cX9, cY9, _⟩ := z9.xyk; have x10 := ag_rval z9 X; rw [H8.out] at x10)
    | (go_at_call 52; (with_reducible refine x8.mono ?_); rintro e v8 ⟨rfl, z8⟩; obtain ⟨cX8, cY8, _⟩ := z8.xyk; have x9 := ag_val z8 X; rw [H8.out] at x9)
    | (go_at_call 24; (with_reducible refine x7.mono ?_); rintro e v7 ⟨rfl, z7⟩; obtain ⟨cX7, cY7, _⟩ := z7.xyk; have x8 := ag_rlen z7 X; rw [H7.out] at x8)
    | (go_at_call 51; (with_reducible refine x6.mono ?_); rintro e v6 ⟨rfl, z6⟩; obtain ⟨cX6, cY6, _⟩ := z6.xyk; have x7 := ag_len z6 X; rw [H7.out] at x7)
    | (go_at_call 15; (with_reducible refine x5.mono ?_); rintro e v5 ⟨rfl, z5⟩; obtain ⟨cX5, cY5, _⟩ := z5.xyk; have x6 := ag_rpos z5 Y; rw [H6.out] at x6)
    | (go_at_call 51; (with_reducible refine x4.mono ?_); rintro e v4 ⟨rfl, z4⟩; obtain ⟨cX4, cY4, _⟩ := z4.xyk; have x5 := ag_pos z4 Y; rw [H6.out] at x5)
    | (go_at_call 15; (with_reducible refine x3.mono ?_); rintro e v3 ⟨rfl, z3⟩; obtain ⟨cX3, cY3, _⟩ := z3.xyk; have x4 := ag_rpos z3 X; rw [H5.out] at x4)
    | (go_at_call 50; (with_reducible refine x2.mono ?_); rintro e v2 ⟨rfl, z2⟩; obtain ⟨cX2, cY2, _⟩ := z2.xyk; have x3 := ag_pos z2 X; rw [H5.out] at x3)
    | (go_at_call 19; (with_reducible refine x1.mono ?_); rintro e v1 ⟨rfl, z1⟩; obtain ⟨cX1, cY1, _⟩ := z1.xyk; have x2 := ag_rsame z1 X Y; rw [H4.out] at x2))
  clear x1 x2 x3 x4 x5 x6 x7 x8 x9 x10 z0 z1 z2 z3 z4 z5 z6 z7 z8 z9
  go_upto_region 11 with fail
  have y0 := z10.drew
  have HSX := Lib.hid (y0.small X)
  have HSY := Lib.hid (y0.small Y)
  obtain ⟨cX, cY, _⟩ := y0.xyk
  have x1 := ag_list y0 X
  go_region_held3 (fun w' => w'.cell? ⟨bx, 1, none⟩ = some (.int .i64 X) ∧ w'.cell? ⟨bx, 2, none⟩ = some (.int .i64 Y)) (exact ⟨by assumption, by assumption⟩) (first
    | (go_at_call 17; (with_reducible refine x6.mono ?_); rintro e u6 ⟨rfl, b6⟩; have y6 := y5.below b6; obtain ⟨dX6, dY6, _⟩ := y6.xyk)
    | (go_at_call 54; (with_reducible refine x5.mono ?_); rintro e u5 ⟨v5, rfl, r5, b5, y5⟩; have r4 := r4.below b5; obtain ⟨dX5, dY5, _⟩ := y5.xyk; obtain ⟨A4, A5, e4, e5, rfl, rfl, x6⟩ := rows_same r4 r5 HSY.out.2 HSY.out.1)
    | (go_at_call 14; (with_reducible refine x4.mono ?_); rintro e u4 ⟨v4, rfl, r4, y4⟩; obtain ⟨dX4, dY4, _⟩ := y4.xyk; have x5 := ag_rlist y4 Y)
    | (go_at_call 17; (with_reducible refine x3.mono ?_); rintro e u3 ⟨rfl, b3⟩; have y3 := y2.below b3; obtain ⟨dX3, dY3, _⟩ := y3.xyk; have x4 := ag_list y3 Y)
    | (go_at_call 54; (with_reducible refine x2.mono ?_); rintro e u2 ⟨v2', rfl, r2, b2, y2⟩; have r1 := r1.below b2; obtain ⟨dX2, dY2, _⟩ := y2.xyk; obtain ⟨A1, A2, e1, e2, rfl, rfl, x3⟩ := rows_same r1 r2 HSX.out.2 HSX.out.1)
    | (go_at_call 14; (with_reducible refine x1.mono ?_); rintro e u1 ⟨v1', rfl, r1, y1⟩; obtain ⟨dX1, dY1, _⟩ := y1.xyk; have x2 := ag_rlist y1 X))
  go_wp2_with fail
  go_ret
  exact ⟨rfl, y6.s, y6.r, y6.T⟩
end Go.Proofs.Ytgichkjomhnehaa
