/-
  The document's integers: products.
-/
import Derived.Test.YtcmkjbliiggcbaaG6
set_option linter.unusedVariables false
set_option linter.unusedSimpArgs false
namespace Go.Proofs.Ytcmkjbliiggcbaa
open Go.RowKit Go.Shelf

/-- what stands in the middle of a product -/
structure Half (f g o : Nat → Int) (i j : Nat) (c : Int) : Prop where
  dig : Digits o
  c0 : 0 ≤ c
  c1 : c < 4294967296
  zero : ∀ k, i + 3 ≤ k → k < 6 → o k = 0
  sum : mag o + c * 4294967296 ^ (i + j) = psum f i * psum g 3 + f i * 4294967296 ^ i * psum g j
theorem Half.step {f g o : Nat → Int} {i j : Nat} {c : Int} (h : Half f g o i j c) (hi : i < 3) (hj : j < 3) (hf : Digits f) (hg : Digits g) (s : Int) (hs : s = o (i + j) + f i * g j + c) :
    0 ≤ s ∧ s < 18446744073709551616 ∧ Half f g (put o (i + j) (s % 4294967296)) i (j + 1) (s / 4294967296) := by
  have d := h.dig (i + j) (by omega)
  have hfi := hf i (by omega)
  have hgj := hg j (by omega)
  have c0 := h.c0
  have c1 := h.c1
  have p0 : 0 ≤ f i * g j := Int.mul_nonneg hfi.1 hgj.1
  have p1 : f i * g j ≤ 4294967295 * 4294967295 := Int.mul_le_mul (by omega) (by omega) hgj.1 (by decide)
  have s0 : 0 ≤ s := by omega
  have s1 : s < 18446744073709551616 := by omega
  refine ⟨s0, s1, ⟨digits_put h.dig (by omega) (by omega), by omega, by omega, fun k h1 h2 => ?_, ?_⟩⟩
  · rw [put_ne _ _ (by omega)]; exact h.zero k h1 h2
  · rw [mag_put _ (show i + j < 6 by omega)]
    have hsum := h.sum
    have e1 : (4294967296 : Int) ^ (i + (j + 1)) = 4294967296 * 4294967296 ^ (i + j) := by rw [← Nat.add_assoc, Int.pow_succ, Int.mul_comm]
    have e2 : f i * 4294967296 ^ i * psum g (j + 1) = f i * 4294967296 ^ i * psum g j + f i * g j * 4294967296 ^ (i + j) := by
      simp only [psum]
      rw [Int.mul_add, Int.pow_add]
      simp [Int.mul_comm, Int.mul_assoc, Int.mul_left_comm]
    rw [e1, e2]
    have e3 : (s % 4294967296 - o (i + j)) * 4294967296 ^ (i + j) + s / 4294967296 * (4294967296 * 4294967296 ^ (i + j)) = (f i * g j + c) * 4294967296 ^ (i + j) := by
      rw [← Int.mul_assoc, ← Int.add_mul]
      congr 1
      omega
    rw [Int.add_mul] at e3
    omega
theorem Half.first {f g o : Nat → Int} {i : Nat} (hi : i < 3) (hd : Digits o) (hz : ∀ k, i + 3 ≤ k → k < 6 → o k = 0) (hs : mag o = psum f i * psum g 3) : Half f g o i 0 0 :=
  ⟨hd, by decide, by decide, hz, by rw [hs]; simp [psum]⟩
theorem Half.last {f g o : Nat → Int} {i : Nat} {c : Int} (h : Half f g o i 3 c) (hi : i < 3) :
    Digits (put o (i + 3) c) ∧ (∀ k, i + 1 + 3 ≤ k → k < 6 → put o (i + 3) c k = 0) ∧ mag (put o (i + 3) c) = psum f (i + 1) * psum g 3 := by
  refine ⟨digits_put h.dig h.c0 h.c1, fun k h1 h2 => ?_, ?_⟩
  · rw [put_ne _ _ (by omega)]; exact h.zero k (by omega) h2
  · rw [mag_put _ (show i + 3 < 6 by omega), h.zero (i + 3) (Nat.le_refl _) (by omega), Int.sub_zero]
    rw [h.sum]
    simp only [psum]
    rw [← Int.add_mul]

set_option maxRecDepth 100000 in
set_option maxHeartbeats 4000000 in
theorem times_ok (b : Bool) (f : Nat → Int) (c : Bool) (g : Nat → Int) (hf : Digits f) (hg : Digits g) (w : World) :
    Calls Try.prog 52 #[.agg (wide b f), .agg (wide c g)] w fun e w' => ∃ o, e = .returned (.agg (wide (!(b == c)) o)) ∧ Digits o ∧ mag o = psum f 3 * psum g 3 ∧ Below w.heap.size w w' := by
  have q := (below_new3 w (.cells (wide b f) 85) (.cells (wide c g) 85) (.cells (wide false fun _ => 0) 85)).alloc (by simp; omega) (.cells (wide (!(b == c)) fun _ => 0) 85)
  have kf := (((Blk.new w 85 (wide b f)).alloc (.cells (wide c g) 85)).alloc (.cells (wide false fun _ => 0) 85)).alloc (.cells (wide (!(b == c)) fun _ => 0) 85)
  have kg := ((Blk.new2 w (.cells (wide b f) 85) 85 (wide c g)).alloc (.cells (wide false fun _ => 0) 85)).alloc (.cells (wide (!(b == c)) fun _ => 0) 85)
  have kr := (Blk.new3 w (.cells (wide b f) 85) (.cells (wide c g) 85) 85 (wide false fun _ => 0)).alloc (.cells (wide (!(b == c)) fun _ => 0) 85)
  have ko := Blk.new4 w (.cells (wide b f) 85) (.cells (wide c g) 85) (.cells (wide false fun _ => 0) 85) 85 (wide (!(b == c)) fun _ => 0)
  obtain ⟨x, hx⟩ : ∃ x, (!(b == c)) = x := ⟨_, rfl⟩
  rw [hx] at q kf kg kr ko
  simp only [wide] at q kf kg kr ko ⊢
  go_enter Try.func52, Try.ntmps52
  go_upto_region 2 with fail
  try rw [hx]
  have HX := Lib.hid hx
  clear hx
  generalize (((w.alloc (.cells #[.bool b, .int .u64 (f 0), .int .u64 (f 1), .int .u64 (f 2), .int .u64 (f 3), .int .u64 (f 4), .int .u64 (f 5)] 85)).alloc (.cells #[.bool c, .int .u64 (g 0), .int .u64 (g 1), .int .u64 (g 2), .int .u64 (g 3), .int .u64 (g 4), .int .u64 (g 5)] 85)).alloc (.cells #[.bool false, .int .u64 0, .int .u64 0, .int .u64 0, .int .u64 0, .int .u64 0, .int .u64 0] 85)).alloc (.cells #[.bool x, .int .u64 0, .int .u64 0, .int .u64 0, .int .u64 0, .int .u64 0, .int .u64 0] 85) = W0 at *
  have kf : Blk W0 w.heap.size 85 (wide b f) := kf
  have kg : Blk W0 (w.heap.size + 1) 85 (wide c g) := kg
  have kr : Blk W0 (w.heap.size + 1 + 1) 85 (wide false fun _ => 0) := kr
  have ko : Blk W0 (w.heap.size + 1 + 1 + 1) 85 (wide x fun _ => 0) := ko
  go_wp2_with fail
  go_loopw [6] (fun vi wr => ∃ (i : Nat) (o : Nat → Int), vi = .int .i64 i ∧ i ≤ 3 ∧ Hid (Digits o ∧ (∀ k, i + 3 ≤ k → k < 6 → o k = 0) ∧ mag o = psum f i * psum g 3) ∧ Blk wr w.heap.size 85 (wide b f) ∧ Blk wr (w.heap.size + 1) 85 (wide c g) ∧ Blk wr (w.heap.size + 1 + 1) 85 (wide false fun _ => 0) ∧ Blk wr (w.heap.size + 1 + 1 + 1) 85 (wide x o) ∧ Below w.heap.size w wr) (fun vi _ => 3 - (intOf vi).toNat)
  case atStart =>
    have hz : Digits (fun _ => 0) := fun j _ => by show (0 : Int) ≤ 0 ∧ (0 : Int) < 4294967296; decide
    exact ⟨0, _, rfl, by omega, Lib.hid ⟨hz, fun _ _ _ => rfl, by simp [mag, psum]⟩, kf, kg, kr, ko, q⟩
  case round =>
    obtain ⟨i, o, rfl, hi, HH, kf, kg, kr, ko, q⟩ := hrel
    by_cases hlt : i < 3
    · go_wp2_with fail
      go_loopw [7, 8] (fun vc vj wr => ∃ (j : Nat) (c' : Int) (o : Nat → Int), vj = .int .i64 j ∧ j ≤ 3 ∧ vc = .int .u64 c' ∧ Hid (Half f g o i j c') ∧ Blk wr w.heap.size 85 (wide b f) ∧ Blk wr (w.heap.size + 1) 85 (wide c g) ∧ Blk wr (w.heap.size + 1 + 1) 85 (wide false fun _ => 0) ∧ Blk wr (w.heap.size + 1 + 1 + 1) 85 (wide x o) ∧ Below w.heap.size w wr) (fun _ vj _ => 3 - (intOf vj).toNat)
      case atStart => exact ⟨0, 0, o, rfl, by omega, rfl, Lib.hid (Half.first hlt HH.out.1 HH.out.2.1 HH.out.2.2), kf, kg, kr, ko, q⟩
      case round =>
        clear HH ko q kf kg kr
        obtain ⟨j, c', o, rfl, hj, rfl, HF, kf, kg, kr, ko, q⟩ := hrel
        have c0 := HF.out.c0
        have c1 := HF.out.c1
        by_cases hjl : j < 3
        · have cf := (kf.cell (1 + i)).trans (wide_get b f (show i < 6 by omega))
          have cg := (kg.cell (1 + j)).trans (wide_get c g (show j < 6 by omega))
          have co := (ko.cell (1 + (i + j))).trans (wide_get x o (show i + j < 6 by omega))
          have fz := ko.frozen (1 + (i + j))
          have hs := HF.out.step hlt hjl hf hg _ rfl
          have hfi := hf i (by omega)
          have hgj := hg j (by omega)
          have hoij := HF.out.dig (i + j) (by omega)
          have p0 : 0 ≤ f i * g j := Int.mul_nonneg hfi.1 hgj.1
          have p1 : f i * g j ≤ 18446744065119617025 := Int.mul_le_mul (c := 4294967295) (d := 4294967295) (by omega) (by omega) hgj.1 (by decide)
          obtain ⟨s0, s1, hs2⟩ := hs
          have HS := Lib.hid hs2
          obtain ⟨m, hm⟩ : ∃ m, i + j = m := ⟨_, rfl⟩
          have hmi : (i : Int) + (j : Int) = (m : Int) := by omega
          have hm6 : (m : Int) < 6 := by omega
          rw [hm] at co fz hoij s0 s1
          clear hs2
          have hi3 : (i : Int) < 3 := by omega
          have hj3 : (j : Int) < 3 := by omega
          obtain ⟨a, ha⟩ : ∃ a, f i = a := ⟨_, rfl⟩
          obtain ⟨d, hd⟩ : ∃ d, g j = d := ⟨_, rfl⟩
          obtain ⟨e, he⟩ : ∃ e, o m = e := ⟨_, rfl⟩
          rw [ha] at cf hfi p0 p1 s0 s1
          rw [hd] at cg hgj p0 p1 s0 s1
          rw [he] at co hoij s0 s1
          have HA := Lib.hid (And.intro ha (And.intro hd (And.intro he hm)))
          clear ha hd he hm
          go_wp2_with fail
          go_quiet (fail)
          go_wp2_with fail
          go_roundw
          case rel =>
            have H := HS.out
            obtain ⟨ha, hd, he, hm⟩ := HA.out
            rw [hm, he, ha, hd] at H
            refine ⟨j + 1, _, _, by simp, by omega, rfl, Lib.hid H, (kf.drewN _).far (by simp; omega) _, (kg.drewN _).far (by simp) _, (kr.drewN _).far (by simp) _, ?_, (below_drewN q _).setCell (by simp; omega) _⟩
            have h := Blk.set_ (ko.drewN nq) (1 + m) (.int .u64 ((e + a * d + c') % 4294967296))
            rw [wide_set _ _ (by omega)] at h
            exact h
          case measure => simp [intOf]; omega
        · obtain rfl : j = 3 := by omega
          have co := (ko.cell (1 + (i + 3))).trans (wide_get x o (show i + 3 < 6 by omega))
          have fz := ko.frozen (1 + (i + 3))
          obtain ⟨m, hm⟩ : ∃ m, i + 3 = m := ⟨_, rfl⟩
          have hmi : (i : Int) + 3 = (m : Int) := by omega
          have hm6 : (m : Int) < 6 := by omega
          rw [hm] at co fz
          have HMm := Lib.hid hm
          clear hm
          have hi3 : (i : Int) < 3 := by omega
          go_wp2_with fail
          go_roundw
          case rel =>
            have L := HF.out.last hlt
            rw [HMm.out] at L
            refine ⟨i + 1, _, by simp, by omega, Lib.hid L, kf.far (by simp; omega) _, kg.far (by simp) _, kr.far (by simp) _, ?_, q.setCell (by simp; omega) _⟩
            have h := Blk.set_ ko (1 + m) (.int .u64 c')
            rw [wide_set _ _ (by omega)] at h
            exact h
          case measure => simp [intOf]; omega
    · obtain rfl : i = 3 := by omega
      have hd := HH.out.1
      have HM := Lib.hid HH.out.2.2
      clear HH
      obtain ⟨o0, o1, o2, o3, o4, o5, o6⟩ := ko.wides
      obtain ⟨r0, r1, r2, r3, r4, r5, r6⟩ := kr.wides
      have z0 := kr.frozen 0
      have z1 := kr.frozen 1
      have z2 := kr.frozen 2
      have z3 := kr.frozen 3
      have z4 := kr.frozen 4
      have z5 := kr.frozen 5
      have z6 := kr.frozen 6
      go_wp2_with fail
      have R := kr.setWide x o
      have qz := below_setWide q (g := w.heap.size + 1 + 1) (by omega) x o
      simp only [setWide] at R qz
      generalize (((((((wr.setCell ⟨w.heap.size + 1 + 1, 0, none⟩ (.bool x)).setCell ⟨w.heap.size + 1 + 1, 1, none⟩ (.int .u64 (o 0))).setCell ⟨w.heap.size + 1 + 1, 2, none⟩ (.int .u64 (o 1))).setCell ⟨w.heap.size + 1 + 1, 3, none⟩ (.int .u64 (o 2))).setCell ⟨w.heap.size + 1 + 1, 4, none⟩ (.int .u64 (o 3))).setCell ⟨w.heap.size + 1 + 1, 5, none⟩ (.int .u64 (o 4))).setCell ⟨w.heap.size + 1 + 1, 6, none⟩ (.int .u64 (o 5))) = WF at *
      obtain ⟨c0, c1, c2, c3, c4, c5, c6⟩ := R.wides
      simp [bodyPost, results, Try.results52, go_sem, c0, c1, c2, c3, c4, c5, c6]
      exact ⟨o, by rw [← HX.out]; simp, hd, HM.out, qz⟩
theorem val_prod {b c : Bool} {f g o : Nat → Int} {x y : Int} (hx : Wide b f x) (hy : Wide c g y) (hf : f 3 = 0 ∧ f 4 = 0 ∧ f 5 = 0) (hg : g 3 = 0 ∧ g 4 = 0 ∧ g 5 = 0) (ho : Digits o) (hm : mag o = psum f 3 * psum g 3) : Wide (!(b == c)) o (x * y) := by
  have e1 : mag f = psum f 3 := by unfold mag; simp only [psum]; rw [hf.1, hf.2.1, hf.2.2]; simp
  have e2 : mag g = psum g 3 := by unfold mag; simp only [psum]; rw [hg.1, hg.2.1, hg.2.2]; simp
  refine ⟨ho, ?_⟩
  rw [← e1, ← e2] at hm
  rw [← hx.val, ← hy.val]
  unfold val
  rw [hm]
  cases b <;> cases c <;> simp [Int.mul_neg, Int.neg_mul]
theorem times_w {b : Bool} {f : Nat → Int} {c : Bool} {g : Nat → Int} {x y : Int} (hx : Wide b f x) (hy : Wide c g y) (hf : f 3 = 0 ∧ f 4 = 0 ∧ f 5 = 0) (hg : g 3 = 0 ∧ g 4 = 0 ∧ g 5 = 0) (w : World) :
    Calls Try.prog 52 #[.agg (wide b f), .agg (wide c g)] w fun e w' => ∃ d k, e = .returned (.agg (wide d k)) ∧ Wide d k (x * y) ∧ Below w.heap.size w w' :=
  (times_ok b f c g hx.dig hy.dig w).mono fun e w' k => by
    obtain ⟨o, h1, h2, h3, h4⟩ := k
    exact ⟨_, _, h1, val_prod hx hy hf hg h2 h3, h4⟩


end Go.Proofs.Ytcmkjbliiggcbaa
