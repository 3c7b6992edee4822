/-
  The document's integers: differences of magnitudes, and which is the greater one.
-/
import Derived.Test.YtcmkjbliiggcbaaG2
set_option linter.unusedVariables false
set_option linter.unusedSimpArgs false
namespace Go.Proofs.Ytcmkjbliiggcbaa
open Go.RowKit Go.Shelf

def lessB (f g : Nat → Int) : Nat → Int
  | 0 => 0
  | k + 1 => 1 - (f k + 4294967296 - g k - lessB f g k) / 4294967296
def lessD (f g : Nat → Int) (k : Nat) : Int := (f k + 4294967296 - g k - lessB f g k) % 4294967296
theorem lessB_in {f g : Nat → Int} {k : Nat} (h : ∀ j, j < k → 0 ≤ f j ∧ f j < 4294967296) (h' : ∀ j, j < k → 0 ≤ g j ∧ g j < 4294967296) : 0 ≤ lessB f g k ∧ lessB f g k ≤ 1 := by
  induction k with
  | zero => simp [lessB]
  | succ k ih =>
    have h1 := ih (fun j hj => h j (by omega)) (fun j hj => h' j (by omega))
    have h2 := h k (by omega)
    have h3 := h' k (by omega)
    simp only [lessB]
    omega
theorem less_law (f g : Nat → Int) (k : Nat) : psum (lessD f g) k + psum g k = psum f k + lessB f g k * 4294967296 ^ k := by
  induction k with
  | zero => simp [psum, lessB]
  | succ k ih =>
    have e : lessD f g k + g k + lessB f g k = f k + lessB f g (k + 1) * 4294967296 := by simp only [lessD, lessB]; omega
    have h6 : (4294967296 : Int) ^ (k + 1) = 4294967296 * 4294967296 ^ k := by rw [Int.pow_succ, Int.mul_comm]
    simp only [psum]
    rw [h6, ← Int.mul_assoc]
    have e2 : (lessD f g k + g k + lessB f g k) * 4294967296 ^ k = f k * 4294967296 ^ k + lessB f g (k + 1) * 4294967296 * 4294967296 ^ k := by rw [e, Int.add_mul]
    rw [Int.add_mul, Int.add_mul] at e2
    omega
theorem less_digits (f g : Nat → Int) : Digits (lessD f g) := fun j _ => by unfold lessD; omega
theorem less_mag {f g : Nat → Int} (hf : Digits f) (hg : Digits g) (h : mag g ≤ mag f) : mag (lessD f g) = mag f - mag g := by
  have hl := less_law f g 6
  have hc := lessB_in (k := 6) hf hg
  have hd := mag_in (less_digits f g)
  have h1 := mag_in hf
  have h2 := mag_in hg
  unfold mag at *
  have : lessB f g 6 = 0 := by
    rcases (show lessB f g 6 = 0 ∨ lessB f g 6 = 1 by omega) with e | e
    · exact e
    · rw [e] at hl; omega
  rw [this] at hl
  omega

set_option maxRecDepth 100000 in
set_option maxHeartbeats 2000000 in
theorem less_ok (f g : Nat → Int) (hf : Digits f) (hg : Digits g) (w : World) :
    Calls Try.prog 61 #[.agg (six f), .agg (six g)] w fun e w' => e = .returned (.agg (six (lessD f g))) ∧ Below w.heap.size w w' := by
  have q := (below_new3 w (.cells (six f) 83) (.cells (six g) 83) (.cells (six fun _ => 0) 83)).alloc (by simp; omega) (.cells (six fun _ => 0) 83)
  have kf := (((Blk.new w 83 (six f)).alloc (.cells (six g) 83)).alloc (.cells (six fun _ => 0) 83)).alloc (.cells (six fun _ => 0) 83)
  have kg := ((Blk.new2 w (.cells (six f) 83) 83 (six g)).alloc (.cells (six fun _ => 0) 83)).alloc (.cells (six fun _ => 0) 83)
  have kr := (Blk.new3 w (.cells (six f) 83) (.cells (six g) 83) 83 (six fun _ => 0)).alloc (.cells (six fun _ => 0) 83)
  have ko := Blk.new4 w (.cells (six f) 83) (.cells (six g) 83) (.cells (six fun _ => 0) 83) 83 (six fun _ => 0)
  have hW : ((((w.alloc (.cells (six f) 83)).alloc (.cells (six g) 83)).alloc (.cells (six fun _ => 0) 83)).alloc (.cells (six fun _ => 0) 83)).heap.size = w.heap.size + 1 + 1 + 1 + 1 := by simp
  simp only [six] at q kf kg kr ko hW ⊢
  go_enter Try.func61, Try.ntmps61
  go_upto_region 4 with fail
  generalize (((w.alloc (.cells #[.int .u64 (f 0), .int .u64 (f 1), .int .u64 (f 2), .int .u64 (f 3), .int .u64 (f 4), .int .u64 (f 5)] 83)).alloc (.cells #[.int .u64 (g 0), .int .u64 (g 1), .int .u64 (g 2), .int .u64 (g 3), .int .u64 (g 4), .int .u64 (g 5)] 83)).alloc (.cells #[.int .u64 0, .int .u64 0, .int .u64 0, .int .u64 0, .int .u64 0, .int .u64 0] 83)).alloc (.cells #[.int .u64 0, .int .u64 0, .int .u64 0, .int .u64 0, .int .u64 0, .int .u64 0] 83) = W0 at *
  have kf : Blk W0 w.heap.size 83 (six f) := kf
  have kg : Blk W0 (w.heap.size + 1) 83 (six g) := kg
  have kr : Blk W0 (w.heap.size + 1 + 1) 83 (six fun _ => 0) := kr
  have ko : Blk W0 (w.heap.size + 1 + 1 + 1) 83 (six (upTo (lessD f g) 0)) := ko
  go_loopw [6, 7] (fun vc vi wr => ∃ k : Nat, vi = .int .i64 k ∧ k ≤ 6 ∧ vc = .int .u64 (lessB f g k) ∧ Blk wr w.heap.size 83 (six f) ∧ Blk wr (w.heap.size + 1) 83 (six g) ∧ Blk wr (w.heap.size + 1 + 1) 83 (six fun _ => 0) ∧ Blk wr (w.heap.size + 1 + 1 + 1) 83 (six (upTo (lessD f g) k)) ∧ Below w.heap.size w wr) (fun _ vi _ => 6 - (intOf vi).toNat)
  case atStart => exact ⟨0, rfl, by omega, rfl, kf, kg, kr, ko, q⟩
  case round =>
    obtain ⟨k, rfl, hk, rfl, kf, kg, kr, ko, q⟩ := hrel
    by_cases hlt : k < 6
    · have cf := (kf.cell k).trans (six_get f hlt)
      have cg := (kg.cell k).trans (six_get g hlt)
      have fz := ko.frozen k
      have co := (ko.cell k).trans (six_get _ hlt)
      have hfk := hf k hlt
      have hgk := hg k hlt
      have hc := lessB_in (f := f) (g := g) (k := k) (fun j hj => hf j (by omega)) (fun j hj => hg j (by omega))
      have ki : (k : Int) < 6 := by omega
      have H1 := Lib.hid (show lessD f g k = (f k + 4294967296 - g k - lessB f g k) % 4294967296 from rfl)
      have H2 := Lib.hid (show lessB f g (k + 1) = 1 - (f k + 4294967296 - g k - lessB f g k) / 4294967296 from rfl)
      have kf' := kf
      obtain ⟨a, ha⟩ : ∃ a, f k = a := ⟨_, rfl⟩
      obtain ⟨b, hb⟩ : ∃ b, g k = b := ⟨_, rfl⟩
      obtain ⟨c, hcc⟩ : ∃ c, lessB f g k = c := ⟨_, rfl⟩
      rw [ha] at cf hfk H1 H2
      rw [hb] at cg hgk H1 H2
      rw [hcc] at hc H1 H2 ⊢
      clear ha hb hcc
      go_wp2_with fail
      go_quiet (fail)
      go_wp2_with fail
      go_roundw
      case rel =>
        refine ⟨k + 1, by simp, by omega, by rw [H2.out], (kf.drewN _).far (by simp; omega) _, (kg.drewN _).far (by simp) _, (kr.drewN _).far (by simp) _, ?_, (below_drewN q _).setCell (by simp; omega) _⟩
        have h := Blk.set_ (ko.drewN nq) k (.int .u64 ((a + 4294967296 - b - c) % 4294967296))
        rw [six_set _ hlt] at h
        have e : six (put (upTo (lessD f g) k) k ((a + 4294967296 - b - c) % 4294967296)) = six (upTo (lessD f g) (k + 1)) := by rw [← H1.out]; exact upTo_step _ _
        rwa [e] at h
      case measure => simp [intOf]; omega
    · obtain rfl : k = 6 := by omega
      rw [upTo_all] at ko
      have o0 := ko.cell 0
      have o1 := ko.cell 1
      have o2 := ko.cell 2
      have o3 := ko.cell 3
      have o4 := ko.cell 4
      have o5 := ko.cell 5
      have fz := fun j => kr.frozen j
      have r0 := kr.cell 0
      have r1 := kr.cell 1
      have r2 := kr.cell 2
      have r3 := kr.cell 3
      have r4 := kr.cell 4
      have r5 := kr.cell 5
      simp [six] at o0 o1 o2 o3 o4 o5 r0 r1 r2 r3 r4 r5
      go_wp2_with fail
      have R := kr.setSix (lessD f g)
      have qq := below_setSix q (g := w.heap.size + 1 + 1) (by omega) (lessD f g)
      unfold setSix at R qq
      generalize ((((((wr.setCell ⟨w.heap.size + 1 + 1, 0, none⟩ (.int .u64 (lessD f g 0))).setCell ⟨w.heap.size + 1 + 1, 1, none⟩ (.int .u64 (lessD f g 1))).setCell ⟨w.heap.size + 1 + 1, 2, none⟩ (.int .u64 (lessD f g 2))).setCell ⟨w.heap.size + 1 + 1, 3, none⟩ (.int .u64 (lessD f g 3))).setCell ⟨w.heap.size + 1 + 1, 4, none⟩ (.int .u64 (lessD f g 4))).setCell ⟨w.heap.size + 1 + 1, 5, none⟩ (.int .u64 (lessD f g 5))) = WF at *
      have c0 := R.cell 0
      have c1 := R.cell 1
      have c2 := R.cell 2
      have c3 := R.cell 3
      have c4 := R.cell 4
      have c5 := R.cell 5
      simp [six] at c0 c1 c2 c3 c4 c5
      simp [bodyPost, results, Try.results61, go_sem, c0, c1, c2, c3, c4, c5]
      exact qq
theorem psum_lt {f g : Nat → Int} {i m : Nat} (hi : i < m) (hf : ∀ j, j < m → 0 ≤ f j ∧ f j < 4294967296) (hg : ∀ j, j < m → 0 ≤ g j ∧ g j < 4294967296) (he : ∀ j, i < j → j < m → f j = g j) (hlt : f i < g i) : psum f m < psum g m := by
  induction m with
  | zero => omega
  | succ m ih =>
    rcases Nat.lt_or_ge i m with h | h
    · have := ih h (fun j hj => hf j (by omega)) (fun j hj => hg j (by omega)) (fun j h1 h2 => he j h1 (by omega))
      simp only [psum]
      rw [he m h (by omega)]
      omega
    · obtain rfl : i = m := by omega
      have h1 := psum_in (f := f) (k := i) (fun j hj => hf j (by omega))
      have h2 := psum_in (f := g) (k := i) (fun j hj => hg j (by omega))
      have h3 := pow_pos' i
      have h4 : (f i + 1) * 4294967296 ^ i ≤ g i * 4294967296 ^ i := Int.mul_le_mul_of_nonneg_right (by omega) (Int.le_of_lt h3)
      rw [Int.add_mul, Int.one_mul] at h4
      simp only [psum]
      omega

set_option maxRecDepth 100000 in
set_option maxHeartbeats 2000000 in
theorem size6_ok (f g : Nat → Int) (hf : Digits f) (hg : Digits g) (w : World) :
    Calls Try.prog 60 #[.agg (six f), .agg (six g)] w fun e w' => e = .returned (.int .i64 (cmp (mag f) (mag g))) ∧ Below w.heap.size w w' := by
  have q := below_new2 w (.cells (six f) 83) (.cells (six g) 83)
  have kf := ((Blk.new w 83 (six f)).alloc (.cells (six g) 83))
  have kg := (Blk.new2 w (.cells (six f) 83) 83 (six g))
  simp only [six] at q kf kg ⊢
  go_enter Try.func60, Try.ntmps60
  go_upto_region 1 with fail
  generalize (w.alloc (.cells #[.int .u64 (f 0), .int .u64 (f 1), .int .u64 (f 2), .int .u64 (f 3), .int .u64 (f 4), .int .u64 (f 5)] 83)).alloc (.cells #[.int .u64 (g 0), .int .u64 (g 1), .int .u64 (g 2), .int .u64 (g 3), .int .u64 (g 4), .int .u64 (g 5)] 83) = W0 at *
  have kf : Blk W0 w.heap.size 83 (six f) := kf
  have kg : Blk W0 (w.heap.size + 1) 83 (six g) := kg
  go_wp2_with fail
  go_loopw [5] (fun vi wr => ∃ k : Nat, vi = .int .i64 ((k : Int) - 1) ∧ k ≤ 6 ∧ (∀ j, k ≤ j → j < 6 → f j = g j) ∧ Blk wr w.heap.size 83 (six f) ∧ Blk wr (w.heap.size + 1) 83 (six g) ∧ Below w.heap.size w wr) (fun vi _ => (intOf vi + 1).toNat)
  case atStart => exact ⟨6, rfl, by omega, fun j h1 h2 => by omega, kf, kg, q⟩
  case round =>
    obtain ⟨k, rfl, hk, he, kf, kg, q⟩ := hrel
    rcases Nat.eq_zero_or_pos k with h0 | h0
    · subst h0
      have hm : mag f = mag g := psum_ext (fun j hj => he j (Nat.zero_le _) hj)
      have HM := Lib.hid (cmp_eq hm)
      clear he hm
      go_wp2_with fail
      go_ret
      exact ⟨by rw [HM.out]; rfl, q⟩
    · obtain ⟨i, rfl⟩ : ∃ i, k = i + 1 := ⟨k - 1, by omega⟩
      have hlt : i < 6 := by omega
      have cf := (kf.cell i).trans (six_get f hlt)
      have cg := (kg.cell i).trans (six_get g hlt)
      have hfk := hf i hlt
      have hgk := hg i hlt
      have HE := Lib.hid he
      have ei : ((i + 1 : Nat) : Int) - 1 = (i : Int) := by omega
      rw [ei]
      have ii : (i : Int) < 6 := by omega
      have L1 := Lib.hid (fun h : f i < g i => psum_lt (m := 6) hlt hf hg (fun j h1 h2 => he j (by omega) h2) h)
      have L2 := Lib.hid (fun h : g i < f i => psum_lt (m := 6) hlt hg hf (fun j h1 h2 => (he j (by omega) h2).symm) h)
      have HI := Lib.hid (fun h : f i = g i => fun j (h1 : i ≤ j) (h2 : j < 6) => (by
        rcases Nat.lt_or_ge i j with h3 | h3
        · exact he j h3 h2
        · obtain rfl : j = i := by omega
          exact h : f j = g j))
      clear he ei
      obtain ⟨a, ha⟩ : ∃ a, f i = a := ⟨_, rfl⟩
      obtain ⟨b, hb⟩ : ∃ b, g i = b := ⟨_, rfl⟩
      rw [ha] at cf hfk L1 L2 HI
      rw [hb] at cg hgk L1 L2 HI
      clear ha hb
      by_cases h1 : a < b
      · have HM := Lib.hid (cmp_lt (L1.out h1))
        have HM2 := Lib.hid (show cmp (mag f) (mag g) = -1 from HM.out)
        go_wp2_with fail
        go_quiet (fail)
        go_wp2_with fail
        go_ret
        exact ⟨by rw [HM2.out]; rfl, below_drewN q _⟩
      · by_cases h2 : b < a
        · have HM := Lib.hid (show cmp (mag f) (mag g) = 1 from cmp_gt (L2.out h2))
          go_wp2_with fail
          go_quiet (fail)
          go_wp2_with fail
          go_quiet (fail)
          go_wp2_with fail
          go_ret
          exact ⟨by rw [HM.out]; rfl, below_drewN (below_drewN q _) _⟩
        · obtain rfl : a = b := by omega
          go_wp2_with fail
          go_quiet (fail)
          go_wp2_with fail
          go_quiet (fail)
          go_wp2_with fail
          go_roundw
          case rel => exact ⟨i, rfl, by omega, HI.out (by first | rfl | trivial), kf.drewN _, kg.drewN _, below_drewN q _⟩
          case measure => simp [intOf]
end Go.Proofs.Ytcmkjbliiggcbaa
