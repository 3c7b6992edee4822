/-
  The document's integers: sums.
-/
import Derived.Test.YtcmkjbliiggcbaaG3
import Derived.Deep.RegionHeld3
import Derived.Deep.DrawnRows
set_option linter.unusedVariables false
set_option linter.unusedSimpArgs false
namespace Go.Proofs.Ytcmkjbliiggcbaa
open Go.RowKit Go.Shelf

def plusB (b : Bool) (f : Nat → Int) (c : Bool) (g : Nat → Int) : Bool := if b = c then b else if mag g ≤ mag f then b else c
def plusD (b : Bool) (f : Nat → Int) (c : Bool) (g : Nat → Int) : Nat → Int := if b = c then moreD f g else if mag g ≤ mag f then lessD f g else lessD g f
theorem plus_digits (b : Bool) (f : Nat → Int) (c : Bool) (g : Nat → Int) : Digits (plusD b f c g) := by
  unfold plusD; split
  · exact more_digits _ _
  · split <;> exact less_digits _ _
theorem plus_val {b : Bool} {f : Nat → Int} {c : Bool} {g : Nat → Int} (hf : Digits f) (hg : Digits g) (h : mag f + mag g < 4294967296 ^ 6) : val (plusB b f c g) (plusD b f c g) = val b f + val c g := by
  unfold plusB plusD
  by_cases e : b = c
  · subst e
    rw [if_pos rfl, if_pos rfl]
    unfold val
    rw [more_mag hf hg h]
    cases b <;> simp <;> omega
  · rw [if_neg e, if_neg e]
    by_cases k : mag g ≤ mag f
    · rw [if_pos k, if_pos k]
      unfold val
      rw [less_mag hf hg k]
      cases b <;> cases c <;> simp at e ⊢ <;> omega
    · rw [if_neg k, if_neg k]
      unfold val
      rw [less_mag hg hf (by omega)]
      cases b <;> cases c <;> simp at e ⊢ <;> omega
def setWide (w : World) (g : Nat) (b : Bool) (d : Nat → Int) : World := ((((((w.setCell ⟨g, 0, none⟩ (.bool b)).setCell ⟨g, 1, none⟩ (.int .u64 (d 0))).setCell ⟨g, 2, none⟩ (.int .u64 (d 1))).setCell ⟨g, 3, none⟩ (.int .u64 (d 2))).setCell ⟨g, 4, none⟩ (.int .u64 (d 3))).setCell ⟨g, 5, none⟩ (.int .u64 (d 4))).setCell ⟨g, 6, none⟩ (.int .u64 (d 5))
theorem wide_sets (c : Bool) (f : Nat → Int) (b : Bool) (d : Nat → Int) : (((((((wide c f).setIfInBounds 0 (.bool b)).setIfInBounds 1 (.int .u64 (d 0))).setIfInBounds 2 (.int .u64 (d 1))).setIfInBounds 3 (.int .u64 (d 2))).setIfInBounds 4 (.int .u64 (d 3))).setIfInBounds 5 (.int .u64 (d 4))).setIfInBounds 6 (.int .u64 (d 5)) = wide b d := by
  simp [wide]
theorem Blk.setWide {w : World} {g t : Nat} {c : Bool} {f : Nat → Int} (h : Blk w g t (wide c f)) (b : Bool) (d : Nat → Int) : Blk (setWide w g b d) g t (wide b d) := by
  have := ((((((h.set_ 0 (.bool b)).set_ 1 (.int .u64 (d 0))).set_ 2 (.int .u64 (d 1))).set_ 3 (.int .u64 (d 2))).set_ 4 (.int .u64 (d 3))).set_ 5 (.int .u64 (d 4))).set_ 6 (.int .u64 (d 5))
  rw [wide_sets] at this
  exact this
theorem Blk.farWide {w : World} {g g' t : Nat} {cs : Array Value} (h : Blk w g t cs) (hne : g ≠ g') (b : Bool) (d : Nat → Int) : Blk (Proofs.Ytcmkjbliiggcbaa.setWide w g' b d) g t cs :=
  ((((((h.far (p := ⟨g', 0, none⟩) hne _).far (p := ⟨g', 1, none⟩) hne _).far (p := ⟨g', 2, none⟩) hne _).far (p := ⟨g', 3, none⟩) hne _).far (p := ⟨g', 4, none⟩) hne _).far (p := ⟨g', 5, none⟩) hne _).far (p := ⟨g', 6, none⟩) hne _
theorem below_setWide {B : Nat} {a w : World} (h : Below B a w) {g : Nat} (hg : B ≤ g) (b : Bool) (d : Nat → Int) : Below B a (setWide w g b d) :=
  ((((((h.setCell (p := ⟨g, 0, none⟩) hg _).setCell (p := ⟨g, 1, none⟩) hg _).setCell (p := ⟨g, 2, none⟩) hg _).setCell (p := ⟨g, 3, none⟩) hg _).setCell (p := ⟨g, 4, none⟩) hg _).setCell (p := ⟨g, 5, none⟩) hg _).setCell (p := ⟨g, 6, none⟩) hg _
/-- the cells of an integer, one by one -/
theorem Blk.wides {w : World} {g t : Nat} {b : Bool} {f : Nat → Int} (h : Blk w g t (wide b f)) :
    w.cell? ⟨g, 0, none⟩ = some (.bool b) ∧ w.cell? ⟨g, 1, none⟩ = some (.int .u64 (f 0)) ∧ w.cell? ⟨g, 2, none⟩ = some (.int .u64 (f 1)) ∧ w.cell? ⟨g, 3, none⟩ = some (.int .u64 (f 2)) ∧ w.cell? ⟨g, 4, none⟩ = some (.int .u64 (f 3)) ∧ w.cell? ⟨g, 5, none⟩ = some (.int .u64 (f 4)) ∧ w.cell? ⟨g, 6, none⟩ = some (.int .u64 (f 5)) :=
  ⟨h.cell 0, h.cell 1, h.cell 2, h.cell 3, h.cell 4, h.cell 5, h.cell 6⟩

set_option maxRecDepth 100000 in
set_option maxHeartbeats 4000000 in
theorem plus_ok (b : Bool) (f : Nat → Int) (c : Bool) (g : Nat → Int) (hf : Digits f) (hg : Digits g) (w : World) :
    Calls Try.prog 58 #[.agg (wide b f), .agg (wide c g)] w fun e w' => e = .returned (.agg (wide (plusB b f c g) (plusD b f c g))) ∧ Below w.heap.size w w' := by
  have q := below_new3 w (.cells (wide b f) 85) (.cells (wide c g) 85) (.cells (wide false fun _ => 0) 85)
  have kf := ((Blk.new w 85 (wide b f)).alloc (.cells (wide c g) 85)).alloc (.cells (wide false fun _ => 0) 85)
  have kg := (Blk.new2 w (.cells (wide b f) 85) 85 (wide c g)).alloc (.cells (wide false fun _ => 0) 85)
  have kr := Blk.new3 w (.cells (wide b f) 85) (.cells (wide c g) 85) 85 (wide false fun _ => 0)
  have HM := fun w => more_ok f g hf hg w
  have HS := fun w => size6_ok f g hf hg w
  have HL := fun w => less_ok f g hf hg w
  have HL2 := fun w => less_ok g f hg hf w
  simp only [six] at HM HS HL HL2
  simp only [wide] at q kf kg kr ⊢
  by_cases e : b = c
  · subst e
    have e1 : plusB b f b g = b := if_pos rfl
    have e2 : plusD b f b g = moreD f g := if_pos rfl
    rw [e1, e2]
    clear e1 e2
    go_enter Try.func58, Try.ntmps58
    go_upto_region 1 with fail
    generalize ((w.alloc (.cells #[.bool b, .int .u64 (f 0), .int .u64 (f 1), .int .u64 (f 2), .int .u64 (f 3), .int .u64 (f 4), .int .u64 (f 5)] 85)).alloc (.cells #[.bool b, .int .u64 (g 0), .int .u64 (g 1), .int .u64 (g 2), .int .u64 (g 3), .int .u64 (g 4), .int .u64 (g 5)] 85)).alloc (.cells #[.bool false, .int .u64 0, .int .u64 0, .int .u64 0, .int .u64 0, .int .u64 0, .int .u64 0] 85) = W0 at *
    have kf : Blk W0 w.heap.size 85 (wide b f) := kf
    have kg : Blk W0 (w.heap.size + 1) 85 (wide b g) := kg
    have kr : Blk W0 (w.heap.size + 1 + 1) 85 (wide false fun _ => 0) := kr
    obtain ⟨f0, f1, f2, f3, f4, f5, f6⟩ := kf.wides
    obtain ⟨g0, g1, g2, g3, g4, g5, g6⟩ := kg.wides
    go_wp2_with fail
    clear f0 f1 f2 f3 f4 f5 f6 g0 g1 g2 g3 g4 g5 g6
    obtain ⟨f0, f1, f2, f3, f4, f5, f6⟩ := kf.drew.wides
    obtain ⟨g0, g1, g2, g3, g4, g5, g6⟩ := kg.drew.wides
    go_region_held3 (fun w' => w'.cell? ⟨w.heap.size, 0, none⟩ = some (.bool b) ∧ w'.cell? ⟨w.heap.size, 1, none⟩ = some (.int .u64 (f 0)) ∧ w'.cell? ⟨w.heap.size, 2, none⟩ = some (.int .u64 (f 1)) ∧ w'.cell? ⟨w.heap.size, 3, none⟩ = some (.int .u64 (f 2)) ∧ w'.cell? ⟨w.heap.size, 4, none⟩ = some (.int .u64 (f 3)) ∧ w'.cell? ⟨w.heap.size, 5, none⟩ = some (.int .u64 (f 4)) ∧ w'.cell? ⟨w.heap.size, 6, none⟩ = some (.int .u64 (f 5)) ∧ w'.cell? ⟨w.heap.size + 1, 0, none⟩ = some (.bool b) ∧ w'.cell? ⟨w.heap.size + 1, 1, none⟩ = some (.int .u64 (g 0)) ∧ w'.cell? ⟨w.heap.size + 1, 2, none⟩ = some (.int .u64 (g 1)) ∧ w'.cell? ⟨w.heap.size + 1, 3, none⟩ = some (.int .u64 (g 2)) ∧ w'.cell? ⟨w.heap.size + 1, 4, none⟩ = some (.int .u64 (g 3)) ∧ w'.cell? ⟨w.heap.size + 1, 5, none⟩ = some (.int .u64 (g 4)) ∧ w'.cell? ⟨w.heap.size + 1, 6, none⟩ = some (.int .u64 (g 5))) (go_keep)
      (first
        | (go_at_call 57; refine (HM _).mono ?_; rintro e w1 ⟨rfl, hv1⟩; have lf := (kf.drew.below hv1 kf.lt); have lg := (kg.drew.below hv1 kg.lt); have lr := (kr.drew.below hv1 kr.lt); have qq := below_end q.drew q.drew.size hv1; obtain ⟨m0, m1, m2, m3, m4, m5, m6⟩ := lf.wides; obtain ⟨n0, n1, n2, n3, n4, n5, n6⟩ := lg.wides; obtain ⟨r0, r1, r2, r3, r4, r5, r6⟩ := lr.wides; have z0 := lr.frozen 0; have z1 := lr.frozen 1; have z2 := lr.frozen 2; have z3 := lr.frozen 3; have z4 := lr.frozen 4; have z5 := lr.frozen 5; have z6 := lr.frozen 6; obtain ⟨p0, p1, p2, p3, p4, p5, p6⟩ := (lf.farWide (g' := w.heap.size + 1 + 1) (by omega) b (moreD f g)).wides; obtain ⟨s0, s1, s2, s3, s4, s5, s6⟩ := (lg.farWide (g' := w.heap.size + 1 + 1) (by omega) b (moreD f g)).wides; simp only [setWide] at p0 p1 p2 p3 p4 p5 p6 s0 s1 s2 s3 s4 s5 s6)
        | fail)
    all_goals
      go_wp2_with fail
      have R := lr.setWide b (moreD f g)
      have qz := below_setWide qq (g := w.heap.size + 1 + 1) (by omega) b (moreD f g)
      simp only [setWide] at R qz
      generalize (((((((w1.setCell ⟨w.heap.size + 1 + 1, 0, none⟩ (.bool b)).setCell ⟨w.heap.size + 1 + 1, 1, none⟩ (.int .u64 (moreD f g 0))).setCell ⟨w.heap.size + 1 + 1, 2, none⟩ (.int .u64 (moreD f g 1))).setCell ⟨w.heap.size + 1 + 1, 3, none⟩ (.int .u64 (moreD f g 2))).setCell ⟨w.heap.size + 1 + 1, 4, none⟩ (.int .u64 (moreD f g 3))).setCell ⟨w.heap.size + 1 + 1, 5, none⟩ (.int .u64 (moreD f g 4))).setCell ⟨w.heap.size + 1 + 1, 6, none⟩ (.int .u64 (moreD f g 5))) = WF at *
      obtain ⟨c0, c1, c2, c3, c4, c5, c6⟩ := R.wides
      simp [bodyPost, results, Try.results58, go_sem, c0, c1, c2, c3, c4, c5, c6]
      exact qz
  · have e3 : (b == c) = false := by simpa using e
    by_cases k : mag g ≤ mag f
    · have e1 : plusB b f c g = b := by unfold plusB; rw [if_neg e, if_pos k]
      have e2 : plusD b f c g = lessD f g := by unfold plusD; rw [if_neg e, if_pos k]
      have k1 : 0 ≤ cmp (mag f) (mag g) := by unfold cmp; rw [if_neg (by omega)]; split <;> decide
      rw [e1, e2]
      clear e1 e2 e k
      generalize cmp (mag f) (mag g) = cv at *
      go_enter Try.func58, Try.ntmps58
      go_upto_region 1 with fail
      generalize ((w.alloc (.cells #[.bool b, .int .u64 (f 0), .int .u64 (f 1), .int .u64 (f 2), .int .u64 (f 3), .int .u64 (f 4), .int .u64 (f 5)] 85)).alloc (.cells #[.bool c, .int .u64 (g 0), .int .u64 (g 1), .int .u64 (g 2), .int .u64 (g 3), .int .u64 (g 4), .int .u64 (g 5)] 85)).alloc (.cells #[.bool false, .int .u64 0, .int .u64 0, .int .u64 0, .int .u64 0, .int .u64 0, .int .u64 0] 85) = W0 at *
      have kf : Blk W0 w.heap.size 85 (wide b f) := kf
      have kg : Blk W0 (w.heap.size + 1) 85 (wide c g) := kg
      have kr : Blk W0 (w.heap.size + 1 + 1) 85 (wide false fun _ => 0) := kr
      obtain ⟨f0, f1, f2, f3, f4, f5, f6⟩ := kf.wides
      obtain ⟨g0, g1, g2, g3, g4, g5, g6⟩ := kg.wides
      go_wp2_with fail
      refine (HS _).mono ?_
      rintro e w3 ⟨rfl, hv3⟩
      have kf := kf.below hv3 kf.lt
      have kg := kg.below hv3 kg.lt
      have kr := kr.below hv3 kr.lt
      have q := below_end q q.size hv3
      go_wp2_with fail
      clear f0 f1 f2 f3 f4 f5 f6 g0 g1 g2 g3 g4 g5 g6
      obtain ⟨f0, f1, f2, f3, f4, f5, f6⟩ := kf.drew.wides
      obtain ⟨g0, g1, g2, g3, g4, g5, g6⟩ := kg.drew.wides
      go_region_held3 (fun w' => w'.cell? ⟨w.heap.size, 0, none⟩ = some (.bool b) ∧ w'.cell? ⟨w.heap.size, 1, none⟩ = some (.int .u64 (f 0)) ∧ w'.cell? ⟨w.heap.size, 2, none⟩ = some (.int .u64 (f 1)) ∧ w'.cell? ⟨w.heap.size, 3, none⟩ = some (.int .u64 (f 2)) ∧ w'.cell? ⟨w.heap.size, 4, none⟩ = some (.int .u64 (f 3)) ∧ w'.cell? ⟨w.heap.size, 5, none⟩ = some (.int .u64 (f 4)) ∧ w'.cell? ⟨w.heap.size, 6, none⟩ = some (.int .u64 (f 5)) ∧ w'.cell? ⟨w.heap.size + 1, 0, none⟩ = some (.bool c) ∧ w'.cell? ⟨w.heap.size + 1, 1, none⟩ = some (.int .u64 (g 0)) ∧ w'.cell? ⟨w.heap.size + 1, 2, none⟩ = some (.int .u64 (g 1)) ∧ w'.cell? ⟨w.heap.size + 1, 3, none⟩ = some (.int .u64 (g 2)) ∧ w'.cell? ⟨w.heap.size + 1, 4, none⟩ = some (.int .u64 (g 3)) ∧ w'.cell? ⟨w.heap.size + 1, 5, none⟩ = some (.int .u64 (g 4)) ∧ w'.cell? ⟨w.heap.size + 1, 6, none⟩ = some (.int .u64 (g 5))) (go_keep)
        (first
          | (go_at_call 61; refine (HL _).mono ?_; rintro e w1 ⟨rfl, hv1⟩; have lf := (kf.drew.below hv1 kf.lt); have lg := (kg.drew.below hv1 kg.lt); have lr := (kr.drew.below hv1 kr.lt); have qq := below_end q.drew q.drew.size hv1; obtain ⟨m0, m1, m2, m3, m4, m5, m6⟩ := lf.wides; obtain ⟨n0, n1, n2, n3, n4, n5, n6⟩ := lg.wides; obtain ⟨r0, r1, r2, r3, r4, r5, r6⟩ := lr.wides; have z0 := lr.frozen 0; have z1 := lr.frozen 1; have z2 := lr.frozen 2; have z3 := lr.frozen 3; have z4 := lr.frozen 4; have z5 := lr.frozen 5; have z6 := lr.frozen 6; obtain ⟨p0, p1, p2, p3, p4, p5, p6⟩ := (lf.farWide (g' := w.heap.size + 1 + 1) (by omega) b (lessD f g)).wides; obtain ⟨s0, s1, s2, s3, s4, s5, s6⟩ := (lg.farWide (g' := w.heap.size + 1 + 1) (by omega) b (lessD f g)).wides; simp only [setWide] at p0 p1 p2 p3 p4 p5 p6 s0 s1 s2 s3 s4 s5 s6)
          | fail)
      all_goals
        go_wp2_with fail
        have R := lr.setWide b (lessD f g)
        have qz := below_setWide qq (g := w.heap.size + 1 + 1) (by omega) b (lessD f g)
        simp only [setWide] at R qz
        generalize (((((((w1.setCell ⟨w.heap.size + 1 + 1, 0, none⟩ (.bool b)).setCell ⟨w.heap.size + 1 + 1, 1, none⟩ (.int .u64 (lessD f g 0))).setCell ⟨w.heap.size + 1 + 1, 2, none⟩ (.int .u64 (lessD f g 1))).setCell ⟨w.heap.size + 1 + 1, 3, none⟩ (.int .u64 (lessD f g 2))).setCell ⟨w.heap.size + 1 + 1, 4, none⟩ (.int .u64 (lessD f g 3))).setCell ⟨w.heap.size + 1 + 1, 5, none⟩ (.int .u64 (lessD f g 4))).setCell ⟨w.heap.size + 1 + 1, 6, none⟩ (.int .u64 (lessD f g 5))) = WF at *
        obtain ⟨c0, c1, c2, c3, c4, c5, c6⟩ := R.wides
        simp [bodyPost, results, Try.results58, go_sem, c0, c1, c2, c3, c4, c5, c6]
        exact qz
    · have e1 : plusB b f c g = c := by unfold plusB; rw [if_neg e, if_neg k]
      have e2 : plusD b f c g = lessD g f := by unfold plusD; rw [if_neg e, if_neg k]
      have k1 : cmp (mag f) (mag g) < 0 := by unfold cmp; rw [if_pos (by omega)]; decide
      rw [e1, e2]
      clear e1 e2 e k
      generalize cmp (mag f) (mag g) = cv at *
      go_enter Try.func58, Try.ntmps58
      go_upto_region 1 with fail
      generalize ((w.alloc (.cells #[.bool b, .int .u64 (f 0), .int .u64 (f 1), .int .u64 (f 2), .int .u64 (f 3), .int .u64 (f 4), .int .u64 (f 5)] 85)).alloc (.cells #[.bool c, .int .u64 (g 0), .int .u64 (g 1), .int .u64 (g 2), .int .u64 (g 3), .int .u64 (g 4), .int .u64 (g 5)] 85)).alloc (.cells #[.bool false, .int .u64 0, .int .u64 0, .int .u64 0, .int .u64 0, .int .u64 0, .int .u64 0] 85) = W0 at *
      have kf : Blk W0 w.heap.size 85 (wide b f) := kf
      have kg : Blk W0 (w.heap.size + 1) 85 (wide c g) := kg
      have kr : Blk W0 (w.heap.size + 1 + 1) 85 (wide false fun _ => 0) := kr
      obtain ⟨f0, f1, f2, f3, f4, f5, f6⟩ := kf.wides
      obtain ⟨g0, g1, g2, g3, g4, g5, g6⟩ := kg.wides
      go_wp2_with fail
      refine (HS _).mono ?_
      rintro e w3 ⟨rfl, hv3⟩
      have kf := kf.below hv3 kf.lt
      have kg := kg.below hv3 kg.lt
      have kr := kr.below hv3 kr.lt
      have q := below_end q q.size hv3
      go_wp2_with fail
      clear f0 f1 f2 f3 f4 f5 f6 g0 g1 g2 g3 g4 g5 g6
      obtain ⟨f0, f1, f2, f3, f4, f5, f6⟩ := kf.drew.wides
      obtain ⟨g0, g1, g2, g3, g4, g5, g6⟩ := kg.drew.wides
      go_region_held3 (fun w' => w'.cell? ⟨w.heap.size, 0, none⟩ = some (.bool b) ∧ w'.cell? ⟨w.heap.size, 1, none⟩ = some (.int .u64 (f 0)) ∧ w'.cell? ⟨w.heap.size, 2, none⟩ = some (.int .u64 (f 1)) ∧ w'.cell? ⟨w.heap.size, 3, none⟩ = some (.int .u64 (f 2)) ∧ w'.cell? ⟨w.heap.size, 4, none⟩ = some (.int .u64 (f 3)) ∧ w'.cell? ⟨w.heap.size, 5, none⟩ = some (.int .u64 (f 4)) ∧ w'.cell? ⟨w.heap.size, 6, none⟩ = some (.int .u64 (f 5)) ∧ w'.cell? ⟨w.heap.size + 1, 0, none⟩ = some (.bool c) ∧ w'.cell? ⟨w.heap.size + 1, 1, none⟩ = some (.int .u64 (g 0)) ∧ w'.cell? ⟨w.heap.size + 1, 2, none⟩ = some (.int .u64 (g 1)) ∧ w'.cell? ⟨w.heap.size + 1, 3, none⟩ = some (.int .u64 (g 2)) ∧ w'.cell? ⟨w.heap.size + 1, 4, none⟩ = some (.int .u64 (g 3)) ∧ w'.cell? ⟨w.heap.size + 1, 5, none⟩ = some (.int .u64 (g 4)) ∧ w'.cell? ⟨w.heap.size + 1, 6, none⟩ = some (.int .u64 (g 5))) (go_keep)
        (first
          | (go_at_call 61; refine (HL2 _).mono ?_; rintro e w1 ⟨rfl, hv1⟩; have lf := (kf.drew.below hv1 kf.lt); have lg := (kg.drew.below hv1 kg.lt); have lr := (kr.drew.below hv1 kr.lt); have qq := below_end q.drew q.drew.size hv1; obtain ⟨m0, m1, m2, m3, m4, m5, m6⟩ := lf.wides; obtain ⟨n0, n1, n2, n3, n4, n5, n6⟩ := lg.wides; obtain ⟨r0, r1, r2, r3, r4, r5, r6⟩ := lr.wides; have z0 := lr.frozen 0; have z1 := lr.frozen 1; have z2 := lr.frozen 2; have z3 := lr.frozen 3; have z4 := lr.frozen 4; have z5 := lr.frozen 5; have z6 := lr.frozen 6; obtain ⟨p0, p1, p2, p3, p4, p5, p6⟩ := (lf.farWide (g' := w.heap.size + 1 + 1) (by omega) c (lessD g f)).wides; obtain ⟨s0, s1, s2, s3, s4, s5, s6⟩ := (lg.farWide (g' := w.heap.size + 1 + 1) (by omega) c (lessD g f)).wides; simp only [setWide] at p0 p1 p2 p3 p4 p5 p6 s0 s1 s2 s3 s4 s5 s6)
          | fail)
      all_goals
        go_wp2_with fail
        have R := lr.setWide c (lessD g f)
        have qz := below_setWide qq (g := w.heap.size + 1 + 1) (by omega) c (lessD g f)
        simp only [setWide] at R qz
        generalize (((((((w1.setCell ⟨w.heap.size + 1 + 1, 0, none⟩ (.bool c)).setCell ⟨w.heap.size + 1 + 1, 1, none⟩ (.int .u64 (lessD g f 0))).setCell ⟨w.heap.size + 1 + 1, 2, none⟩ (.int .u64 (lessD g f 1))).setCell ⟨w.heap.size + 1 + 1, 3, none⟩ (.int .u64 (lessD g f 2))).setCell ⟨w.heap.size + 1 + 1, 4, none⟩ (.int .u64 (lessD g f 3))).setCell ⟨w.heap.size + 1 + 1, 5, none⟩ (.int .u64 (lessD g f 4))).setCell ⟨w.heap.size + 1 + 1, 6, none⟩ (.int .u64 (lessD g f 5))) = WF at *
        obtain ⟨c0, c1, c2, c3, c4, c5, c6⟩ := R.wides
        simp [bodyPost, results, Try.results58, go_sem, c0, c1, c2, c3, c4, c5, c6]
        exact qz
end Go.Proofs.Ytcmkjbliiggcbaa
