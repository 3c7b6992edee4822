/-
  The document's integers: quotients.
-/
import Derived.Test.YtcmkjbliiggcbaaK2
import Derived.Test.YtcmkjbliiggcbaaG7
set_option linter.unusedVariables false
set_option linter.unusedSimpArgs false
namespace Go.Proofs.Ytcmkjbliiggcbaa
open Go.RowKit Go.Shelf

/-- the digits of an integer written -/
def setL (w : World) (g : Nat) (d : Nat → Int) : World := (((((w.setCell ⟨g, 1, none⟩ (.int .u64 (d 0))).setCell ⟨g, 2, none⟩ (.int .u64 (d 1))).setCell ⟨g, 3, none⟩ (.int .u64 (d 2))).setCell ⟨g, 4, none⟩ (.int .u64 (d 3))).setCell ⟨g, 5, none⟩ (.int .u64 (d 4))).setCell ⟨g, 6, none⟩ (.int .u64 (d 5))
theorem l_sets (c : Bool) (f : Nat → Int) (d : Nat → Int) : ((((((wide c f).setIfInBounds 1 (.int .u64 (d 0))).setIfInBounds 2 (.int .u64 (d 1))).setIfInBounds 3 (.int .u64 (d 2))).setIfInBounds 4 (.int .u64 (d 3))).setIfInBounds 5 (.int .u64 (d 4))).setIfInBounds 6 (.int .u64 (d 5)) = wide c d := by
  simp [wide]
theorem Blk.setL {w : World} {g t : Nat} {c : Bool} {f : Nat → Int} (h : Blk w g t (wide c f)) (d : Nat → Int) : Blk (setL w g d) g t (wide c d) := by
  have := (((((h.set_ 1 (.int .u64 (d 0))).set_ 2 (.int .u64 (d 1))).set_ 3 (.int .u64 (d 2))).set_ 4 (.int .u64 (d 3))).set_ 5 (.int .u64 (d 4))).set_ 6 (.int .u64 (d 5))
  rw [l_sets] at this
  exact this
theorem Blk.farL {w : World} {g g' t : Nat} {cs : Array Value} (h : Blk w g t cs) (hne : g ≠ g') (d : Nat → Int) : Blk (Proofs.Ytcmkjbliiggcbaa.setL w g' d) g t cs :=
  (((((h.far (p := ⟨g', 1, none⟩) hne _).far (p := ⟨g', 2, none⟩) hne _).far (p := ⟨g', 3, none⟩) hne _).far (p := ⟨g', 4, none⟩) hne _).far (p := ⟨g', 5, none⟩) hne _).far (p := ⟨g', 6, none⟩) hne _
theorem below_setL {B : Nat} {a w : World} (h : Below B a w) {g : Nat} (hg : B ≤ g) (d : Nat → Int) : Below B a (setL w g d) :=
  (((((h.setCell (p := ⟨g, 1, none⟩) hg _).setCell (p := ⟨g, 2, none⟩) hg _).setCell (p := ⟨g, 3, none⟩) hg _).setCell (p := ⟨g, 4, none⟩) hg _).setCell (p := ⟨g, 5, none⟩) hg _).setCell (p := ⟨g, 6, none⟩) hg _

set_option maxRecDepth 100000 in
set_option maxHeartbeats 4000000 in
theorem divide_w {b : Bool} {f : Nat → Int} {x c : Int} (hx : Wide b f x) (hc : 1 ≤ c) (hcf : Fits c) (w : World) :
    Calls Try.prog 51 #[.agg (wide b f), .int .i64 c] w fun e w' => ∃ d k r, e = .returned (.tuple #[.agg (wide d k), .int .i64 r]) ∧ Wide d k (x / c) ∧ Below w.heap.size w w' := by
  have hc1 : c ≤ 9223372036854775807 := hcf.2
  have hf := hx.dig
  have q := below_new3 w (.cells (wide b f) 85) (.cells (wide false fun _ => 0) 85) (.cells (wide false fun _ => 0) 85)
  have kf := ((Blk.new w 85 (wide b f)).alloc (.cells (wide false fun _ => 0) 85)).alloc (.cells (wide false fun _ => 0) 85)
  have kr := (Blk.new2 w (.cells (wide b f) 85) 85 (wide false fun _ => 0)).alloc (.cells (wide false fun _ => 0) 85)
  have kq := Blk.new3 w (.cells (wide b f) 85) (.cells (wide false fun _ => 0) 85) 85 (wide false fun _ => 0)
  have HB := fun (i : Nat) (hi : i < 192) w => bit_ok f i hf hi w
  have HM := fun (g : Nat → Int) (hg : Digits g) w => more_ok g g hg hg w
  have HD0 := Lib.hid (div_zero hf hc)
  have HX := Lib.hid hx
  have HHf := Lib.hid hf
  clear hx hf
  simp only [six] at HB HM
  simp only [wide] at q kf kr kq ⊢
  go_enter Try.func51, Try.ntmps51
  go_upto_region 2 with fail
  generalize ((w.alloc (.cells #[.bool b, .int .u64 (f 0), .int .u64 (f 1), .int .u64 (f 2), .int .u64 (f 3), .int .u64 (f 4), .int .u64 (f 5)] 85)).alloc (.cells #[.bool false, .int .u64 0, .int .u64 0, .int .u64 0, .int .u64 0, .int .u64 0, .int .u64 0] 85)).alloc (.cells #[.bool false, .int .u64 0, .int .u64 0, .int .u64 0, .int .u64 0, .int .u64 0, .int .u64 0] 85) = W0 at *
  have kf : Blk W0 w.heap.size 85 (wide b f) := kf
  have kr : Blk W0 (w.heap.size + 1) 85 (wide false fun _ => 0) := kr
  have kq : Blk W0 (w.heap.size + 1 + 1) 85 (wide false fun _ => 0) := kq
  go_wp2_with fail
  go_loopw [7, 8] (fun vr vi wr => ∃ (j : Nat) (qf : Nat → Int) (rest : Int), vi = .int .i64 ((j : Int) - 1) ∧ j ≤ 192 ∧ vr = .int .u64 rest ∧ Hid (Div (mag f) c j qf rest) ∧ Blk wr w.heap.size 85 (wide b f) ∧ Blk wr (w.heap.size + 1) 85 (wide false fun _ => 0) ∧ Blk wr (w.heap.size + 1 + 1) 85 (wide false qf) ∧ Below w.heap.size w wr) (fun _ vi _ => (intOf vi + 1).toNat)
  case atStart => exact ⟨192, _, 0, rfl, by omega, rfl, HD0, kf, kr, kq, q⟩
  case round =>
    clear kf kr kq q
    obtain ⟨j, qf, rest, rfl, hj, rfl, HDv, kf, kr, kq, q⟩ := hrel
    have hrin := HDv.out.in_ hc
    rcases Nat.eq_zero_or_pos j with h0 | h0
    · subst h0
      cases b
      · have HW := Lib.hid (div_pos (b := true) HX.out HDv.out)
        obtain ⟨f0, f1, f2, f3, f4, f5, f6⟩ := kf.wides
        obtain ⟨g0, g1, g2, g3, g4, g5, g6⟩ := kq.wides
        obtain ⟨r0, r1, r2, r3, r4, r5, r6⟩ := kr.wides
        have z0 := kr.frozen 0
        have z1 := kr.frozen 1
        have z2 := kr.frozen 2
        have z3 := kr.frozen 3
        have z4 := kr.frozen 4
        have z5 := kr.frozen 5
        have z6 := kr.frozen 6
        go_wp2_with fail
        have R := kr.setWide false qf
        have q := below_setWide q (g := w.heap.size + 1) (by omega) false qf
        simp only [setWide] at R q
        generalize (((((((wr.setCell ⟨w.heap.size + 1, 0, none⟩ (.bool false)).setCell ⟨w.heap.size + 1, 1, none⟩ (.int .u64 (qf 0))).setCell ⟨w.heap.size + 1, 2, none⟩ (.int .u64 (qf 1))).setCell ⟨w.heap.size + 1, 3, none⟩ (.int .u64 (qf 2))).setCell ⟨w.heap.size + 1, 4, none⟩ (.int .u64 (qf 3))).setCell ⟨w.heap.size + 1, 5, none⟩ (.int .u64 (qf 4))).setCell ⟨w.heap.size + 1, 6, none⟩ (.int .u64 (qf 5))) = WF at *
        obtain ⟨c0, c1, c2, c3, c4, c5, c6⟩ := R.wides
        simp [bodyPost, results, Try.results51, go_sem, c0, c1, c2, c3, c4, c5, c6]
        exact ⟨qf, ⟨rfl, rfl, rfl, rfl, rfl, rfl⟩, HW.out, q⟩
      · obtain ⟨f0, f1, f2, f3, f4, f5, f6⟩ := kf.wides
        obtain ⟨g0, g1, g2, g3, g4, g5, g6⟩ := kq.wides
        have z0 := kq.frozen 0
        go_upto_region 14 with fail
        have kf := kf.far (p := ⟨w.heap.size + 1 + 1, 0, none⟩) (by simp; omega) (.bool true)
        have kr := kr.far (p := ⟨w.heap.size + 1 + 1, 0, none⟩) (by simp) (.bool true)
        have kq := kq.set_ 0 (.bool true)
        have q := q.setCell (p := ⟨w.heap.size + 1 + 1, 0, none⟩) (by simp; omega) (.bool true)
        generalize wr.setCell ⟨w.heap.size + 1 + 1, 0, none⟩ (.bool true) = WW at *
        have kq : Blk WW (w.heap.size + 1 + 1) 85 (wide true qf) := kq
        clear f0 f1 f2 f3 f4 f5 f6 g0 g1 g2 g3 g4 g5 g6 z0
        obtain ⟨g0, g1, g2, g3, g4, g5, g6⟩ := kq.wides
        by_cases hr : rest = 0
        · have HW := Lib.hid (div_neg0 HX.out HDv.out hc hr)
          have hr1 : (rest == 0) = true := by simpa using hr
          obtain ⟨r0, r1, r2, r3, r4, r5, r6⟩ := kr.wides
          have z0 := kr.frozen 0
          have z1 := kr.frozen 1
          have z2 := kr.frozen 2
          have z3 := kr.frozen 3
          have z4 := kr.frozen 4
          have z5 := kr.frozen 5
          have z6 := kr.frozen 6
          subst hr
          go_wp2_with fail
          have R := kr.setWide true qf
          have q := below_setWide q (g := w.heap.size + 1) (by omega) true qf
          simp only [setWide] at R q
          generalize (((((((WW.setCell ⟨w.heap.size + 1, 0, none⟩ (.bool true)).setCell ⟨w.heap.size + 1, 1, none⟩ (.int .u64 (qf 0))).setCell ⟨w.heap.size + 1, 2, none⟩ (.int .u64 (qf 1))).setCell ⟨w.heap.size + 1, 3, none⟩ (.int .u64 (qf 2))).setCell ⟨w.heap.size + 1, 4, none⟩ (.int .u64 (qf 3))).setCell ⟨w.heap.size + 1, 5, none⟩ (.int .u64 (qf 4))).setCell ⟨w.heap.size + 1, 6, none⟩ (.int .u64 (qf 5))) = WF at *
          obtain ⟨c0, c1, c2, c3, c4, c5, c6⟩ := R.wides
          simp [bodyPost, results, Try.results51, go_sem, c0, c1, c2, c3, c4, c5, c6]
          exact ⟨qf, ⟨rfl, rfl, rfl, rfl, rfl, rfl⟩, HW.out, q⟩
        · have hr1 : (rest == 0) = false := by simpa using hr
          obtain ⟨W1, he, hlt⟩ := div_neg1 HX.out HDv.out hc hr
          have HE := Lib.hid he
          have HP : ∀ (d : Bool) (k : Nat → Int), Wide d k (-1) → ∀ w, Calls Try.prog 58 #[.agg #[.bool true, .int .u64 (qf 0), .int .u64 (qf 1), .int .u64 (qf 2), .int .u64 (qf 3), .int .u64 (qf 4), .int .u64 (qf 5)], .agg (wide d k)] w fun e w' => ∃ d' k', e = .returned (.agg (wide d' k')) ∧ Wide d' k' (-(mag f / c) + -1) ∧ Below w.heap.size w w' := fun d k hk w => plus_w W1 hk hlt w
          clear he hlt W1
          go_wp2_with fail
          clear g0 g1 g2 g3 g4 g5 g6
          obtain ⟨g0, g1, g2, g3, g4, g5, g6⟩ := kq.drew.wides
          go_region_held3 (fun w' => w'.cell? ⟨w.heap.size + 1 + 1, 0, none⟩ = some (.bool true) ∧ w'.cell? ⟨w.heap.size + 1 + 1, 1, none⟩ = some (.int .u64 (qf 0)) ∧ w'.cell? ⟨w.heap.size + 1 + 1, 2, none⟩ = some (.int .u64 (qf 1)) ∧ w'.cell? ⟨w.heap.size + 1 + 1, 3, none⟩ = some (.int .u64 (qf 2)) ∧ w'.cell? ⟨w.heap.size + 1 + 1, 4, none⟩ = some (.int .u64 (qf 3)) ∧ w'.cell? ⟨w.heap.size + 1 + 1, 5, none⟩ = some (.int .u64 (qf 4)) ∧ w'.cell? ⟨w.heap.size + 1 + 1, 6, none⟩ = some (.int .u64 (qf 5))) (go_keep)
            (first
              | (go_at_call 58; refine (HP _ _ W5 _).mono ?_; rintro e w6 ⟨b6, f6, rfl, W6, hv6⟩; have lq6 := lq5.below hv6 lq5.lt; have lr6 := lr5.below hv6 lr5.lt; obtain ⟨p0, p1, p2, p3, p4, p5, p6⟩ := lq6.wides; obtain ⟨r0, r1, r2, r3, r4, r5, r6⟩ := lr6.wides; have z0 := lr6.frozen 0; have z1 := lr6.frozen 1; have z2 := lr6.frozen 2; have z3 := lr6.frozen 3; have z4 := lr6.frozen 4; have z5 := lr6.frozen 5; have z6 := lr6.frozen 6; rw [show wide b6 f6 = #[.bool b6, .int .u64 (f6 0), .int .u64 (f6 1), .int .u64 (f6 2), .int .u64 (f6 3), .int .u64 (f6 4), .int .u64 (f6 5)] from rfl]; obtain ⟨s0, s1, s2, s3, s4, s5, s6⟩ := (lq6.farWide (g' := w.heap.size + 1) (by omega) b6 f6).wides; simp only [setWide] at s0 s1 s2 s3 s4 s5 s6)
              | (go_at_call 53; refine (from_w (-1) (by decide) _).mono ?_; rintro e w5 ⟨b5, f5, rfl, W5, _, _, _, _, hv5⟩; have lq5 := kq.drew.below hv5 kq.lt; have lr5 := kr.drew.below hv5 kr.lt; obtain ⟨m0, m1, m2, m3, m4, m5, m6⟩ := lq5.wides))
          all_goals
            have q := below_end q.drew q.drew.size hv5
            have q := below_end q q.size hv6
            go_wp2_with fail
            have R := lr6.setWide b6 f6
            have q := below_setWide q (g := w.heap.size + 1) (by omega) b6 f6
            simp only [setWide] at R q
            generalize (((((((w6.setCell ⟨w.heap.size + 1, 0, none⟩ (.bool b6)).setCell ⟨w.heap.size + 1, 1, none⟩ (.int .u64 (f6 0))).setCell ⟨w.heap.size + 1, 2, none⟩ (.int .u64 (f6 1))).setCell ⟨w.heap.size + 1, 3, none⟩ (.int .u64 (f6 2))).setCell ⟨w.heap.size + 1, 4, none⟩ (.int .u64 (f6 3))).setCell ⟨w.heap.size + 1, 5, none⟩ (.int .u64 (f6 4))).setCell ⟨w.heap.size + 1, 6, none⟩ (.int .u64 (f6 5))) = WF at *
            obtain ⟨c0, c1, c2, c3, c4, c5, c6⟩ := R.wides
            simp [bodyPost, results, Try.results51, go_sem, c0, c1, c2, c3, c4, c5, c6]
            have W7 : Wide b6 f6 (x / c) := by rw [← HE.out]; exact W6
            cases b6
            · exact Or.inl ⟨f6, ⟨rfl, rfl, rfl, rfl, rfl, rfl, rfl⟩, W7, q⟩
            · exact Or.inr ⟨f6, ⟨rfl, rfl, rfl, rfl, rfl, rfl, rfl⟩, W7, q⟩
    · obtain ⟨i, rfl⟩ : ∃ i, j = i + 1 := ⟨j - 1, by omega⟩
      have ei : ((i + 1 : Nat) : Int) - 1 = (i : Int) := by omega
      rw [ei]
      have hi : i < 192 := by omega
      have S := HDv.out.step HHf.out hc hc1 hi
      have HLo := Lib.hid S.low
      have HHi := Lib.hid S.high
      have s0 := S.r0
      have s1 := S.r1
      have m0 := S.m0
      have hqd := HDv.out.dig
      have HBi := HB i hi
      have HMq := HM qf hqd
      clear S ei hqd
      obtain ⟨t, ht⟩ : ∃ t, bitOf f i = t := ⟨_, rfl⟩
      rw [ht] at HBi s0 s1 HLo HHi
      obtain ⟨md, hmd⟩ : ∃ md, moreD qf qf = md := ⟨_, rfl⟩
      rw [hmd] at m0 HLo HHi HMq
      clear ht hmd
      obtain ⟨f0, f1, f2, f3, f4, f5, f6⟩ := kf.wides
      go_wp2_with fail
      refine (HBi _).mono ?_
      rintro e w1 ⟨rfl, hv1⟩
      have kf := kf.below hv1 kf.lt
      have kr := kr.below hv1 kr.lt
      have kq := kq.below hv1 kq.lt
      have q := below_end q q.size hv1
      clear f0 f1 f2 f3 f4 f5 f6
      obtain ⟨f0, f1, f2, f3, f4, f5, f6⟩ := kq.wides
      go_wp2_with fail
      refine (HMq _).mono ?_
      rintro e w2 ⟨rfl, hv2⟩
      have kf := kf.below hv2 kf.lt
      have kr := kr.below hv2 kr.lt
      have kq := kq.below hv2 kq.lt
      have q := below_end q q.size hv2
      clear f0 f1 f2 f3 f4 f5 f6
      obtain ⟨f0, f1, f2, f3, f4, f5, f6⟩ := kq.wides
      have z1 := kq.frozen 1
      have z2 := kq.frozen 2
      have z3 := kq.frozen 3
      have z4 := kq.frozen 4
      have z5 := kq.frozen 5
      have z6 := kq.frozen 6
      go_upto_region 8 with fail
      have kf := kf.farL (g' := w.heap.size + 1 + 1) (by omega) md
      have kr := kr.farL (g' := w.heap.size + 1 + 1) (by omega) md
      have kq := kq.setL md
      have q := below_setL q (g := w.heap.size + 1 + 1) (by omega) md
      simp only [setL] at kf kr kq q
      generalize ((((((w2.setCell ⟨w.heap.size + 1 + 1, 1, none⟩ (.int .u64 (md 0))).setCell ⟨w.heap.size + 1 + 1, 2, none⟩ (.int .u64 (md 1))).setCell ⟨w.heap.size + 1 + 1, 3, none⟩ (.int .u64 (md 2))).setCell ⟨w.heap.size + 1 + 1, 4, none⟩ (.int .u64 (md 3))).setCell ⟨w.heap.size + 1 + 1, 5, none⟩ (.int .u64 (md 4))).setCell ⟨w.heap.size + 1 + 1, 6, none⟩ (.int .u64 (md 5))) = W3 at *
      clear f0 f1 f2 f3 f4 f5 f6 z1 z2 z3 z4 z5 z6
      by_cases hlow : 2 * rest + t < c
      · go_wp2_with fail
        go_roundw
        case rel => exact ⟨i, md, _, rfl, by omega, rfl, Lib.hid (HLo.out hlow), kf, kr, kq, q⟩
        case measure => simp [intOf]
      · have hhigh : c ≤ 2 * rest + t := by omega
        obtain ⟨f0, f1, f2, f3, f4, f5, f6⟩ := kq.wides
        have z1 := kq.frozen 1
        go_wp2_with fail
        go_roundw
        case rel =>
          refine ⟨i, put md 0 (md 0 + 1), _, rfl, by omega, rfl, Lib.hid (HHi.out hhigh), kf.far (by simp; omega) _, kr.far (by simp) _, ?_, q.setCell (by simp; omega) _⟩
          have h := Blk.set_ kq (1 + 0) (.int .u64 (md 0 + 1))
          rw [wide_set _ _ (by decide)] at h
          exact h
        case measure => simp [intOf]
end Go.Proofs.Ytcmkjbliiggcbaa
