/-
  The document's integers: sums of magnitudes.
-/
import Derived.Test.YtcmkjbliiggcbaaG1
set_option linter.unusedVariables false
set_option linter.unusedSimpArgs false
namespace Go.Proofs.Ytcmkjbliiggcbaa
open Go.RowKit Go.Shelf

def moreC (f g : Nat → Int) : Nat → Int
  | 0 => 0
  | k + 1 => (f k + g k + moreC f g k) / 4294967296
def moreD (f g : Nat → Int) (k : Nat) : Int := (f k + g k + moreC f g k) % 4294967296
theorem moreC_in {f g : Nat → Int} {k : Nat} (h : ∀ j, j < k → 0 ≤ f j ∧ f j < 4294967296) (h' : ∀ j, j < k → 0 ≤ g j ∧ g j < 4294967296) : 0 ≤ moreC f g k ∧ moreC f g k ≤ 1 := by
  induction k with
  | zero => simp [moreC]
  | succ k ih =>
    have h1 := ih (fun j hj => h j (by omega)) (fun j hj => h' j (by omega))
    have h2 := h k (by omega)
    have h3 := h' k (by omega)
    simp only [moreC]
    omega
theorem more_law (f g : Nat → Int) (k : Nat) : psum (moreD f g) k + moreC f g k * 4294967296 ^ k = psum f k + psum g k := by
  induction k with
  | zero => simp [psum, moreC]
  | succ k ih =>
    have e : moreD f g k + moreC f g (k + 1) * 4294967296 = f k + g k + moreC f g k := by simp only [moreD, moreC]; omega
    have h6 : (4294967296 : Int) ^ (k + 1) = 4294967296 * 4294967296 ^ k := by rw [Int.pow_succ, Int.mul_comm]
    simp only [psum]
    rw [h6, ← Int.mul_assoc]
    have e2 : moreD f g k * 4294967296 ^ k + moreC f g (k + 1) * 4294967296 * 4294967296 ^ k = (f k + g k + moreC f g k) * 4294967296 ^ k := by rw [← Int.add_mul, e]
    rw [Int.add_mul, Int.add_mul] at e2
    omega
theorem more_digits (f g : Nat → Int) : Digits (moreD f g) := fun j _ => by unfold moreD; omega
theorem more_mag {f g : Nat → Int} (hf : Digits f) (hg : Digits g) (h : mag f + mag g < 4294967296 ^ 6) : mag (moreD f g) = mag f + mag g := by
  have hl := more_law f g 6
  have hc := moreC_in (k := 6) hf hg
  have hd := mag_in (more_digits f g)
  unfold mag at *
  have : moreC f g 6 = 0 := by
    rcases (show moreC f g 6 = 0 ∨ moreC f g 6 = 1 by omega) with e | e
    · exact e
    · rw [e] at hl; omega
  rw [this] at hl
  omega
/-- the digits below k, and 0 from there on -/
def upTo (f : Nat → Int) (k : Nat) : Nat → Int := fun j => if j < k then f j else 0
theorem upTo_step (f : Nat → Int) (k : Nat) : six (put (upTo f k) k (f k)) = six (upTo f (k + 1)) := six_ext fun j _ => by
  unfold put upTo
  by_cases h : j = k
  · subst h; simp
  · by_cases h2 : j < k
    · rw [if_neg h, if_pos h2, if_pos (by omega)]
    · rw [if_neg h, if_neg h2, if_neg (by omega)]
theorem upTo_all (f : Nat → Int) : six (upTo f 6) = six f := six_ext fun j hj => if_pos hj
/-- six cells written -/
def setSix (w : World) (g : Nat) (d : Nat → Int) : World := (((((w.setCell ⟨g, 0, none⟩ (.int .u64 (d 0))).setCell ⟨g, 1, none⟩ (.int .u64 (d 1))).setCell ⟨g, 2, none⟩ (.int .u64 (d 2))).setCell ⟨g, 3, none⟩ (.int .u64 (d 3))).setCell ⟨g, 4, none⟩ (.int .u64 (d 4))).setCell ⟨g, 5, none⟩ (.int .u64 (d 5))
theorem Blk.setSix {w : World} {g t : Nat} {f : Nat → Int} (h : Blk w g t (six f)) (d : Nat → Int) : Blk (setSix w g d) g t (six d) :=
  (((((h.set_ 0 (.int .u64 (d 0))).set_ 1 (.int .u64 (d 1))).set_ 2 (.int .u64 (d 2))).set_ 3 (.int .u64 (d 3))).set_ 4 (.int .u64 (d 4))).set_ 5 (.int .u64 (d 5))
theorem below_setSix {B : Nat} {a w : World} (h : Below B a w) {g : Nat} (hg : B ≤ g) (d : Nat → Int) : Below B a (setSix w g d) :=
  (((((h.setCell (p := ⟨g, 0, none⟩) hg _).setCell (p := ⟨g, 1, none⟩) hg _).setCell (p := ⟨g, 2, none⟩) hg _).setCell (p := ⟨g, 3, none⟩) hg _).setCell (p := ⟨g, 4, none⟩) hg _).setCell (p := ⟨g, 5, none⟩) hg _

set_option maxRecDepth 100000 in
set_option maxHeartbeats 2000000 in
theorem more_ok (f g : Nat → Int) (hf : Digits f) (hg : Digits g) (w : World) :
    Calls Try.prog 57 #[.agg (six f), .agg (six g)] w fun e w' => e = .returned (.agg (six (moreD f g))) ∧ Below w.heap.size w w' := by
  have q := (below_new3 w (.cells (six f) 83) (.cells (six g) 83) (.cells (six fun _ => 0) 83)).alloc (by simp; omega) (.cells (six fun _ => 0) 83)
  have kf := (((Blk.new w 83 (six f)).alloc (.cells (six g) 83)).alloc (.cells (six fun _ => 0) 83)).alloc (.cells (six fun _ => 0) 83)
  have kg := ((Blk.new2 w (.cells (six f) 83) 83 (six g)).alloc (.cells (six fun _ => 0) 83)).alloc (.cells (six fun _ => 0) 83)
  have kr := (Blk.new3 w (.cells (six f) 83) (.cells (six g) 83) 83 (six fun _ => 0)).alloc (.cells (six fun _ => 0) 83)
  have ko := Blk.new4 w (.cells (six f) 83) (.cells (six g) 83) (.cells (six fun _ => 0) 83) 83 (six fun _ => 0)
  have hW : ((((w.alloc (.cells (six f) 83)).alloc (.cells (six g) 83)).alloc (.cells (six fun _ => 0) 83)).alloc (.cells (six fun _ => 0) 83)).heap.size = w.heap.size + 1 + 1 + 1 + 1 := by simp
  simp only [six] at q kf kg kr ko hW ⊢
  go_enter Try.func57, Try.ntmps57
  go_upto_region 4 with fail
  generalize (((w.alloc (.cells #[.int .u64 (f 0), .int .u64 (f 1), .int .u64 (f 2), .int .u64 (f 3), .int .u64 (f 4), .int .u64 (f 5)] 83)).alloc (.cells #[.int .u64 (g 0), .int .u64 (g 1), .int .u64 (g 2), .int .u64 (g 3), .int .u64 (g 4), .int .u64 (g 5)] 83)).alloc (.cells #[.int .u64 0, .int .u64 0, .int .u64 0, .int .u64 0, .int .u64 0, .int .u64 0] 83)).alloc (.cells #[.int .u64 0, .int .u64 0, .int .u64 0, .int .u64 0, .int .u64 0, .int .u64 0] 83) = W0 at *
  have kf : Blk W0 w.heap.size 83 (six f) := kf
  have kg : Blk W0 (w.heap.size + 1) 83 (six g) := kg
  have kr : Blk W0 (w.heap.size + 1 + 1) 83 (six fun _ => 0) := kr
  have ko : Blk W0 (w.heap.size + 1 + 1 + 1) 83 (six (upTo (moreD f g) 0)) := ko
  go_loopw [6, 7] (fun vc vi wr => ∃ k : Nat, vi = .int .i64 k ∧ k ≤ 6 ∧ vc = .int .u64 (moreC f g k) ∧ Blk wr w.heap.size 83 (six f) ∧ Blk wr (w.heap.size + 1) 83 (six g) ∧ Blk wr (w.heap.size + 1 + 1) 83 (six fun _ => 0) ∧ Blk wr (w.heap.size + 1 + 1 + 1) 83 (six (upTo (moreD f g) k)) ∧ Below w.heap.size w wr) (fun _ vi _ => 6 - (intOf vi).toNat)
  case atStart => exact ⟨0, rfl, by omega, rfl, kf, kg, kr, ko, q⟩
  case round =>
    obtain ⟨k, rfl, hk, rfl, kf, kg, kr, ko, q⟩ := hrel
    by_cases hlt : k < 6
    · have cf := (kf.cell k).trans (six_get f hlt)
      have cg := (kg.cell k).trans (six_get g hlt)
      have fz := ko.frozen k
      have co := (ko.cell k).trans (six_get _ hlt)
      have hfk := hf k hlt
      have hgk := hg k hlt
      have hc := moreC_in (f := f) (g := g) (k := k) (fun j hj => hf j (by omega)) (fun j hj => hg j (by omega))
      have ki : (k : Int) < 6 := by omega
      have H1 := Lib.hid (show moreD f g k = (f k + g k + moreC f g k) % 4294967296 from rfl)
      have H2 := Lib.hid (show moreC f g (k + 1) = (f k + g k + moreC f g k) / 4294967296 from rfl)
      have kf' := kf
      obtain ⟨a, ha⟩ : ∃ a, f k = a := ⟨_, rfl⟩
      obtain ⟨b, hb⟩ : ∃ b, g k = b := ⟨_, rfl⟩
      obtain ⟨c, hcc⟩ : ∃ c, moreC f g k = c := ⟨_, rfl⟩
      rw [ha] at cf hfk H1 H2
      rw [hb] at cg hgk H1 H2
      rw [hcc] at hc H1 H2 ⊢
      clear ha hb hcc
      go_wp2_with fail
      go_quiet (fail)
      go_wp2_with fail
      go_roundw
      case rel =>
        refine ⟨k + 1, by simp, by omega, by rw [H2.out], (kf.drewN _).far (by simp; omega) _, (kg.drewN _).far (by simp) _, (kr.drewN _).far (by simp) _, ?_, (below_drewN q _).setCell (by simp; omega) _⟩
        have h := Blk.set_ (ko.drewN nq) k (.int .u64 ((a + b + c) % 4294967296))
        rw [six_set _ hlt] at h
        have e : six (put (upTo (moreD f g) k) k ((a + b + c) % 4294967296)) = six (upTo (moreD f g) (k + 1)) := by rw [← H1.out]; exact upTo_step _ _
        rwa [e] at h
      case measure => simp [intOf]; omega
    · obtain rfl : k = 6 := by omega
      rw [upTo_all] at ko
      have o0 := ko.cell 0
      have o1 := ko.cell 1
      have o2 := ko.cell 2
      have o3 := ko.cell 3
      have o4 := ko.cell 4
      have o5 := ko.cell 5
      have fz := fun j => kr.frozen j
      have r0 := kr.cell 0
      have r1 := kr.cell 1
      have r2 := kr.cell 2
      have r3 := kr.cell 3
      have r4 := kr.cell 4
      have r5 := kr.cell 5
      simp [six] at o0 o1 o2 o3 o4 o5 r0 r1 r2 r3 r4 r5
      go_wp2_with fail
      have R := kr.setSix (moreD f g)
      have qq := below_setSix q (g := w.heap.size + 1 + 1) (by omega) (moreD f g)
      unfold setSix at R qq
      generalize ((((((wr.setCell ⟨w.heap.size + 1 + 1, 0, none⟩ (.int .u64 (moreD f g 0))).setCell ⟨w.heap.size + 1 + 1, 1, none⟩ (.int .u64 (moreD f g 1))).setCell ⟨w.heap.size + 1 + 1, 2, none⟩ (.int .u64 (moreD f g 2))).setCell ⟨w.heap.size + 1 + 1, 3, none⟩ (.int .u64 (moreD f g 3))).setCell ⟨w.heap.size + 1 + 1, 4, none⟩ (.int .u64 (moreD f g 4))).setCell ⟨w.heap.size + 1 + 1, 5, none⟩ (.int .u64 (moreD f g 5))) = WF at *
      have c0 := R.cell 0
      have c1 := R.cell 1
      have c2 := R.cell 2
      have c3 := R.cell 3
      have c4 := R.cell 4
      have c5 := R.cell 5
      simp [six] at c0 c1 c2 c3 c4 c5
      simp [bodyPost, results, Try.results57, go_sem, c0, c1, c2, c3, c4, c5]
      exact qq
end Go.Proofs.Ytcmkjbliiggcbaa
