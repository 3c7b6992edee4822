/-
  What checked computes: which of two fractions is the greater one.
-/
import Derived.Test.YtoiafopndlnknaaG2
import Derived.Deep.RegionHeld3
import Derived.Deep.QuietTactic
import Derived.BigQuiet
import Derived.Deep.DeepCutAuto
set_option linter.unusedVariables false
set_option linter.unusedSimpArgs false
namespace Go.Proofs.Ytoiafopndlnknaa
open Go.RowKit Go.Shelf

/-- -1, 0 or 1 -/
def cmp (x y : Int) : Int := if x < y then -1 else if y < x then 1 else 0
theorem cmp_lt {x y : Int} (h : x < y) : cmp x y = -1 := if_pos h
theorem cmp_gt {x y : Int} (h : y < x) : cmp x y = 1 := by unfold cmp; rw [if_neg (by omega), if_pos h]
theorem cmp_eq {x y : Int} (h : x = y) : cmp x y = 0 := by unfold cmp; rw [if_neg (by omega), if_neg (by omega)]
/-- which of two fractions is the greater one, and the error -/
def comV (an ad bn bd : Int) : Int := if ad < 1 ∨ bd < 1 then 0 else cmp (an * bd) (bn * ad)
def comE (an ad bn bd : Int) : Int := if ad < 1 ∨ bd < 1 then 2 else 0

/-- what the halves say of the whole -/
structure Ord (A B : Int) (s0 s1 t0 t1 : Nat) : Prop where
  lt0 : s0 < t0 → cmp A B = -1
  gt0 : t0 < s0 → cmp A B = 1
  lt1 : s0 = t0 → s1 < t1 → cmp A B = -1
  gt1 : s0 = t0 → t1 < s1 → cmp A B = 1
  eq : s0 = t0 → s1 = t1 → cmp A B = 0
theorem ord_up {A B : Int} {x y : Nat} (hA : A = x) (hB : B = y) {s0 s1 t0 t1 : Nat} (hx : x = s0 * 18446744073709551616 + s1) (hy : y = t0 * 18446744073709551616 + t1) (l1 : s1 < 18446744073709551616) (l2 : t1 < 18446744073709551616) : Ord A B s0 s1 t0 t1 :=
  ⟨fun h => cmp_lt (by omega), fun h => cmp_gt (by omega), fun h k => cmp_lt (by omega), fun h k => cmp_gt (by omega), fun h k => cmp_eq (by omega)⟩
theorem ord_down {A B : Int} {x y : Nat} (hA : A = -(x : Int)) (hB : B = -(y : Int)) {s0 s1 t0 t1 : Nat} (hx : x = s0 * 18446744073709551616 + s1) (hy : y = t0 * 18446744073709551616 + t1) (l1 : s1 < 18446744073709551616) (l2 : t1 < 18446744073709551616) : Ord A B t0 t1 s0 s1 :=
  ⟨fun h => cmp_lt (by omega), fun h => cmp_gt (by omega), fun h k => cmp_lt (by omega), fun h k => cmp_gt (by omega), fun h k => cmp_eq (by omega)⟩

theorem neg_prod {a : Int} {D : Nat} (h : a < 0) : a * (D : Int) = -((a.natAbs * D : Nat) : Int) := by
  rw [Int.natCast_mul, Int.ofNat_natAbs_of_nonpos (by omega), Int.neg_mul, Int.neg_neg]

set_option maxRecDepth 100000 in
set_option maxHeartbeats 8000000 in
theorem compare_ok (an ad bn bd : Int) (h1 : Fits an) (h2 : Fits ad) (h3 : Fits bn) (h4 : Fits bd) (w : World) :
    Calls Try.prog 41 #[.agg #[.int .i64 an, .int .i64 ad], .agg #[.int .i64 bn, .int .i64 bd]] w fun e w' => e = .returned (.tuple #[.int .i64 (comV an ad bn bd), .int .i64 (comE an ad bn bd)]) ∧ Below w.heap.size w w' := by
  have bb := below_new2 w (.cells #[.int .i64 an, .int .i64 ad] 42) (.cells #[.int .i64 bn, .int .i64 bd] 42)
  have ka := (Blk.new w 42 #[.int .i64 an, .int .i64 ad]).alloc (.cells #[.int .i64 bn, .int .i64 bd] 42)
  have kb := Blk.new2 w (.cells #[.int .i64 an, .int .i64 ad] 42) 42 #[.int .i64 bn, .int .i64 bd]
  by_cases pa : ad < 1
  · have ev : comV an ad bn bd = 0 := if_pos (.inl pa)
    have ee : comE an ad bn bd = 2 := if_pos (.inl pa)
    rw [ev, ee]
    have da := decide_yes pa
    clear pa ev ee
    go_enter Try.func41, Try.ntmps41
    go_wp2_with fail
    go_ret2
    exact ⟨rfl, bb⟩
  by_cases pb : bd < 1
  · have ev : comV an ad bn bd = 0 := if_pos (.inr pb)
    have ee : comE an ad bn bd = 2 := if_pos (.inr pb)
    rw [ev, ee]
    have da := decide_no pa
    have db := decide_yes pb
    clear pa pb ev ee
    go_enter Try.func41, Try.ntmps41
    go_wp2_with fail
    go_ret2
    exact ⟨rfl, bb⟩
  have hor : ¬ (ad < 1 ∨ bd < 1) := by omega
  have ev : comV an ad bn bd = cmp (an * bd) (bn * ad) := if_neg hor
  have ee : comE an ad bn bd = 0 := if_neg hor
  rw [ev, ee]
  have da := decide_no pa
  have db := decide_no pb
  obtain ⟨D, rfl⟩ := Int.eq_ofNat_of_zero_le (show 0 ≤ bd by omega)
  obtain ⟨E, rfl⟩ := Int.eq_ofNat_of_zero_le (show 0 ≤ ad by omega)
  have hD : D < 18446744073709551616 := by have := h4.2; omega
  have hE : E < 18446744073709551616 := by have := h2.2; omega
  have wD : IntKind.u64.wrap (D : Int) = (D : Int) := by rw [IntKind.wrap_u64]; omega
  have wE : IntKind.u64.wrap (E : Int) = (E : Int) := by rw [IntKind.wrap_u64]; omega
  have xa := natAbs_lt h1
  have xb := natAbs_lt h3
  have sg1 := mul_sign (a := an) (b := (D : Int))
  have sg2 := mul_sign (a := bn) (b := (E : Int))
  clear ev ee hor
  by_cases qa : an < 0
  · by_cases qb : bn < 0
    · have dc := decide_yes qa
      have dd := decide_yes qb
      clear sg1 sg2
      go_enter Try.func41, Try.ntmps41
      go_upto_region 8 with fail
      generalize (w.alloc (.cells #[.int .i64 an, .int .i64 (E : Int)] 42)).alloc (.cells #[.int .i64 bn, .int .i64 (D : Int)] 42) = W0 at *
      have a0 := ka.cell 0
      have a1 := ka.cell 1
      have b0 := kb.cell 0
      have b1 := kb.cell 1
      simp at a0 a1 b0 b1
      have la := ka.lt
      have lb := kb.lt
      have m1 : w.heap.size ≠ W0.heap.size := by omega
      have m2 : w.heap.size + 1 ≠ W0.heap.size := by omega
      have m3 : W0.heap.size ≠ w.heap.size := by omega
      have m4 : W0.heap.size ≠ w.heap.size + 1 := by omega
      go_cut [7] (fun sx wx => ∃ y : Nat, sx = .pointer (some ⟨y, 0, none⟩) ∧ W0.heap.size ≤ y ∧ Blk wx y 100 #[.int .u64 (hi an.natAbs D : Nat), .int .u64 (lo an.natAbs D : Nat)] ∧ Below W0.heap.size W0 wx)
      case first =>
        go_region_held3 (fun w' => w'.cell? ⟨w.heap.size, 0, none⟩ = some (.int .i64 an) ∧ w'.cell? ⟨w.heap.size + 1, 1, none⟩ = some (.int .i64 (D : Int))) (go_keep)
          (first
            | (go_at_call 61; refine (size_ok an h1 _).mono ?_; rintro e w' ⟨rfl, rfl⟩)
            | (go_at_call 60; refine (product_ok an.natAbs D xa hD _).mono ?_; rintro e w1 ⟨rfl, hv1⟩; have hV : Below W0.heap.size W0 w1 := (by first | exact below_go (Below.refl W0.heap.size W0).drew (Nat.le_refl _) hv1 | exact below_go (below_new1 W0 _).drew (Nat.le_refl _) hv1); have ka1 := ka.below hV ka.lt; have kb1 := kb.below hV kb.lt; have c0 := ka1.cell 0; have c1 := kb1.cell 0; have c2 := ka1.cell 1; have c3 := kb1.cell 1; simp at c0 c1 c2 c3; (try (have kz := (Blk.new W0 100 #[.int .u64 0, .int .u64 0]).drew.below hv1 (Blk.lt (Blk.drew (Blk.new W0 100 #[.int .u64 0, .int .u64 0]))); have z0 := kz.cell 0; have z1 := kz.cell 1; have z2 := kz.frozen 0; have z3 := kz.frozen 1; simp at z0 z1 z2 z3))))
        all_goals go_wp2_with fail
        all_goals go_meet
        all_goals first
          | exact ⟨_, rfl, hV.size, Blk.new _ _ _, hV.alloc hV.size _⟩
          | (refine ⟨_, rfl, Nat.le_refl _, ?_, (hV.setCell (p := ⟨W0.heap.size, 0, none⟩) (Nat.le_refl _) _).setCell (p := ⟨W0.heap.size, 1, none⟩) (Nat.le_refl _) _⟩
             have kk := (kz.set_ 0 (.int .u64 (hi an.natAbs D : Nat))).set_ 1 (.int .u64 (lo an.natAbs D : Nat))
             simpa using kk)
      case rest =>
      obtain ⟨x, rfl, hx, kx, hv1⟩ := hcut
      have hw0 := bb.size
      have hB1 := below_go bb (by omega) hv1
      have ka := ka.below hv1 ka.lt
      have kb := kb.below hv1 kb.lt
      clear a0 a1 b0 b1 m1 m2 m3 m4 la lb hv1 bb
      go_upto_region 9 with fail
      generalize wc = W1 at *
      have a0 := ka.cell 0
      have a1 := ka.cell 1
      have b0 := kb.cell 0
      have b1 := kb.cell 1
      simp at a0 a1 b0 b1
      have la := ka.lt
      have lb := kb.lt
      have m1 : w.heap.size ≠ W1.heap.size := by omega
      have m2 : w.heap.size + 1 ≠ W1.heap.size := by omega
      have m3 : W1.heap.size ≠ w.heap.size := by omega
      have m4 : W1.heap.size ≠ w.heap.size + 1 := by omega
      go_cut [8] (fun sx wx => ∃ y : Nat, sx = .pointer (some ⟨y, 0, none⟩) ∧ W1.heap.size ≤ y ∧ Blk wx y 100 #[.int .u64 (hi bn.natAbs E : Nat), .int .u64 (lo bn.natAbs E : Nat)] ∧ Below W1.heap.size W1 wx)
      case first =>
        go_region_held3 (fun w' => w'.cell? ⟨w.heap.size + 1, 0, none⟩ = some (.int .i64 bn) ∧ w'.cell? ⟨w.heap.size, 1, none⟩ = some (.int .i64 (E : Int))) (go_keep)
          (first
            | (go_at_call 61; refine (size_ok bn h3 _).mono ?_; rintro e w' ⟨rfl, rfl⟩)
            | (go_at_call 60; refine (product_ok bn.natAbs E xb hE _).mono ?_; rintro e w1 ⟨rfl, hv1⟩; have hV : Below W1.heap.size W1 w1 := (by first | exact below_go (Below.refl W1.heap.size W1).drew (Nat.le_refl _) hv1 | exact below_go (below_new1 W1 _).drew (Nat.le_refl _) hv1); have ka1 := ka.below hV ka.lt; have kb1 := kb.below hV kb.lt; have c0 := ka1.cell 0; have c1 := kb1.cell 0; have c2 := ka1.cell 1; have c3 := kb1.cell 1; simp at c0 c1 c2 c3; (try (have kz := (Blk.new W1 100 #[.int .u64 0, .int .u64 0]).drew.below hv1 (Blk.lt (Blk.drew (Blk.new W1 100 #[.int .u64 0, .int .u64 0]))); have z0 := kz.cell 0; have z1 := kz.cell 1; have z2 := kz.frozen 0; have z3 := kz.frozen 1; simp at z0 z1 z2 z3))))
        all_goals go_wp2_with fail
        all_goals go_meet
        all_goals first
          | exact ⟨_, rfl, hV.size, Blk.new _ _ _, hV.alloc hV.size _⟩
          | (refine ⟨_, rfl, Nat.le_refl _, ?_, (hV.setCell (p := ⟨W1.heap.size, 0, none⟩) (Nat.le_refl _) _).setCell (p := ⟨W1.heap.size, 1, none⟩) (Nat.le_refl _) _⟩
             have kk := (kz.set_ 0 (.int .u64 (hi bn.natAbs E : Nat))).set_ 1 (.int .u64 (lo bn.natAbs E : Nat))
             simpa using kk)
      case rest =>
      obtain ⟨y, rfl, hy, ky, hv1⟩ := hcut
      have hB2 := below_go hB1 (Nat.le_refl _) hv1
      have hxl := kx.lt
      have hwx : w.heap.size ≤ x := by omega
      have hwy : w.heap.size ≤ y := by omega
      have kx := kx.below hv1 hxl
      clear a0 a1 b0 b1 m1 m2 m3 m4 la lb hv1 hB1 ka kb
      have O := Lib.hid (ord_down (A := an * (D : Int)) (B := bn * (E : Int)) (neg_prod qa) (neg_prod qb) (hi_lo an.natAbs D) (hi_lo bn.natAbs E) (lo_lt _ _) (lo_lt _ _))
      generalize hi an.natAbs D = s0 at *
      generalize lo an.natAbs D = s1 at *
      generalize hi bn.natAbs E = t0 at *
      generalize lo bn.natAbs E = t1 at *
      have x0 := kx.cell 0
      have x1 := kx.cell 1
      have y0 := ky.cell 0
      have y1 := ky.cell 1
      simp at x0 x1 y0 y1
      have fx0 := kx.frozen 0
      have fx1 := kx.frozen 1
      have fy0 := ky.frozen 0
      have fy1 := ky.frozen 1
      have nxy : x ≠ y := by omega
      have nyx : y ≠ x := by omega
      go_wp2_with fail
      clear x0 x1 y0 y1 fx0 fx1 fy0 fy1
      go_loopw [44] (fun vk wr => ∃ k : Nat, vk = .int .i64 k ∧ k ≤ 2 ∧ (0 < k → t0 = s0) ∧ (1 < k → t1 = s1) ∧ Blk wr x 100 #[.int .u64 t0, .int .u64 t1] ∧ Blk wr y 100 #[.int .u64 s0, .int .u64 s1] ∧ Below w.heap.size w wr) (fun vk _ => 2 - (intOf vk).toNat)
      case atStart => exact ⟨0, rfl, by decide, fun h => absurd h (by decide), fun h => absurd h (by decide),
          by have kk := (((kx.set_ 0 (.int .u64 t0)).set_ 1 (.int .u64 t1)).far (p := ⟨y, 0, none⟩) nxy (.int .u64 s0)).far (p := ⟨y, 1, none⟩) nxy (.int .u64 s1); simpa using kk,
          by have kk := (((ky.far (p := ⟨x, 0, none⟩) nyx (.int .u64 t0)).far (p := ⟨x, 1, none⟩) nyx (.int .u64 t1)).set_ 0 (.int .u64 s0)).set_ 1 (.int .u64 s1); simpa using kk,
          (((hB2.setCell (p := ⟨x, 0, none⟩) hwx _).setCell (p := ⟨x, 1, none⟩) hwx _).setCell (p := ⟨y, 0, none⟩) hwy _).setCell (p := ⟨y, 1, none⟩) hwy _⟩
      case round =>
        clear kx ky hB2
        obtain ⟨k, rfl, hk, e0, e1, kx, ky, hB⟩ := hrel
        have x0 := kx.cell 0
        have x1 := kx.cell 1
        have y0 := ky.cell 0
        have y1 := ky.cell 1
        simp at x0 x1 y0 y1
        rcases (show k = 0 ∨ k = 1 ∨ k = 2 by omega) with rfl | rfl | rfl
        · rcases Nat.lt_trichotomy t0 s0 with c | c | c
          · have HC := Lib.hid c
            have c1 : decide ((t0 : Int) < (s0 : Int)) = true := by simp; omega
            go_wp2_with fail
            go_quiet (fail)
            go_wp2_with fail
            go_ret2
            exact ⟨by rw [O.out.lt0 HC.out]; rfl, below_drewN hB _⟩
          · have HC := Lib.hid c
            have c1 : decide ((t0 : Int) < (s0 : Int)) = false := by simp; omega
            have c2 : decide ((s0 : Int) < (t0 : Int)) = false := by simp; omega
            have c3 : decide (t0 < s0) = false := by simp; omega
            have c4 : decide (s0 < t0) = false := by simp; omega
            have c5 : t0 ≤ s0 := by omega
            have c6 : s0 ≤ t0 := by omega
            clear c
            go_wp2_with fail
            go_quiet (fail)
            go_wp2_with fail
            go_quiet (fail)
            go_wp2_with fail
            go_roundw
            case rel => exact ⟨1, rfl, by omega, fun _ => HC.out, fun h => absurd h (by decide), kx.drewN _, ky.drewN _, below_drewN hB _⟩
            case measure => simp [intOf]
          · have HC := Lib.hid c
            have c1 : decide ((t0 : Int) < (s0 : Int)) = false := by simp; omega
            have c2 : decide ((s0 : Int) < (t0 : Int)) = true := by simp; omega
            go_wp2_with fail
            go_quiet (fail)
            go_wp2_with fail
            go_quiet (fail)
            go_wp2_with fail
            go_ret2
            exact ⟨by rw [O.out.gt0 HC.out]; rfl, below_drewN (below_drewN hB _) _⟩
        · rcases Nat.lt_trichotomy t1 s1 with c | c | c
          · have HC := Lib.hid c
            have c1 : decide ((t1 : Int) < (s1 : Int)) = true := by simp; omega
            go_wp2_with fail
            go_quiet (fail)
            go_wp2_with fail
            go_ret2
            exact ⟨by rw [O.out.lt1 (e0 (by decide)) HC.out]; rfl, below_drewN hB _⟩
          · have HC := Lib.hid c
            have c1 : decide ((t1 : Int) < (s1 : Int)) = false := by simp; omega
            have c2 : decide ((s1 : Int) < (t1 : Int)) = false := by simp; omega
            have c3 : decide (t1 < s1) = false := by simp; omega
            have c4 : decide (s1 < t1) = false := by simp; omega
            have c5 : t1 ≤ s1 := by omega
            have c6 : s1 ≤ t1 := by omega
            clear c
            go_wp2_with fail
            go_quiet (fail)
            go_wp2_with fail
            go_quiet (fail)
            go_wp2_with fail
            go_roundw
            case rel => exact ⟨2, rfl, by omega, fun _ => e0 (by decide), fun _ => HC.out, kx.drewN _, ky.drewN _, below_drewN hB _⟩
            case measure => simp [intOf]
          · have HC := Lib.hid c
            have c1 : decide ((t1 : Int) < (s1 : Int)) = false := by simp; omega
            have c2 : decide ((s1 : Int) < (t1 : Int)) = true := by simp; omega
            go_wp2_with fail
            go_quiet (fail)
            go_wp2_with fail
            go_quiet (fail)
            go_wp2_with fail
            go_ret2
            exact ⟨by rw [O.out.gt1 (e0 (by decide)) HC.out]; rfl, below_drewN (below_drewN hB _) _⟩
        · go_wp2_with fail
          go_ret2
          exact ⟨by rw [O.out.eq (e0 (by decide)) (e1 (by decide))]; rfl, hB⟩
    · have hl : an * (D : Int) < bn * (E : Int) := by
        have := sg2.2.1 qb (by omega)
        have := Int.mul_neg_of_neg_of_pos qa (show (0 : Int) < D by omega)
        omega
      rw [cmp_lt hl]
      have dc := decide_yes qa
      have dd := decide_no qb
      clear hl sg1 sg2 qa qb
      go_enter Try.func41, Try.ntmps41
      go_wp2_with fail
      go_ret2
      exact ⟨rfl, bb⟩
  · by_cases qb : bn < 0
    · have hl : bn * (E : Int) < an * (D : Int) := by
        have := sg1.2.1 qa (by omega)
        have := Int.mul_neg_of_neg_of_pos qb (show (0 : Int) < E by omega)
        omega
      rw [cmp_gt hl]
      have dc := decide_no qa
      have dd := decide_yes qb
      clear hl sg1 sg2 qa qb
      go_enter Try.func41, Try.ntmps41
      go_wp2_with fail
      go_ret2
      exact ⟨rfl, bb⟩
    · have dc := decide_no qa
      have dd := decide_no qb
      clear sg1 sg2
      go_enter Try.func41, Try.ntmps41
      go_upto_region 8 with fail
      generalize (w.alloc (.cells #[.int .i64 an, .int .i64 (E : Int)] 42)).alloc (.cells #[.int .i64 bn, .int .i64 (D : Int)] 42) = W0 at *
      have a0 := ka.cell 0
      have a1 := ka.cell 1
      have b0 := kb.cell 0
      have b1 := kb.cell 1
      simp at a0 a1 b0 b1
      have la := ka.lt
      have lb := kb.lt
      have m1 : w.heap.size ≠ W0.heap.size := by omega
      have m2 : w.heap.size + 1 ≠ W0.heap.size := by omega
      have m3 : W0.heap.size ≠ w.heap.size := by omega
      have m4 : W0.heap.size ≠ w.heap.size + 1 := by omega
      go_cut [7] (fun sx wx => ∃ y : Nat, sx = .pointer (some ⟨y, 0, none⟩) ∧ W0.heap.size ≤ y ∧ Blk wx y 100 #[.int .u64 (hi an.natAbs D : Nat), .int .u64 (lo an.natAbs D : Nat)] ∧ Below W0.heap.size W0 wx)
      case first =>
        go_region_held3 (fun w' => w'.cell? ⟨w.heap.size, 0, none⟩ = some (.int .i64 an) ∧ w'.cell? ⟨w.heap.size + 1, 1, none⟩ = some (.int .i64 (D : Int))) (go_keep)
          (first
            | (go_at_call 61; refine (size_ok an h1 _).mono ?_; rintro e w' ⟨rfl, rfl⟩)
            | (go_at_call 60; refine (product_ok an.natAbs D xa hD _).mono ?_; rintro e w1 ⟨rfl, hv1⟩; have hV : Below W0.heap.size W0 w1 := (by first | exact below_go (Below.refl W0.heap.size W0).drew (Nat.le_refl _) hv1 | exact below_go (below_new1 W0 _).drew (Nat.le_refl _) hv1); have ka1 := ka.below hV ka.lt; have kb1 := kb.below hV kb.lt; have c0 := ka1.cell 0; have c1 := kb1.cell 0; have c2 := ka1.cell 1; have c3 := kb1.cell 1; simp at c0 c1 c2 c3; (try (have kz := (Blk.new W0 100 #[.int .u64 0, .int .u64 0]).drew.below hv1 (Blk.lt (Blk.drew (Blk.new W0 100 #[.int .u64 0, .int .u64 0]))); have z0 := kz.cell 0; have z1 := kz.cell 1; have z2 := kz.frozen 0; have z3 := kz.frozen 1; simp at z0 z1 z2 z3))))
        all_goals go_wp2_with fail
        all_goals go_meet
        all_goals first
          | exact ⟨_, rfl, hV.size, Blk.new _ _ _, hV.alloc hV.size _⟩
          | (refine ⟨_, rfl, Nat.le_refl _, ?_, (hV.setCell (p := ⟨W0.heap.size, 0, none⟩) (Nat.le_refl _) _).setCell (p := ⟨W0.heap.size, 1, none⟩) (Nat.le_refl _) _⟩
             have kk := (kz.set_ 0 (.int .u64 (hi an.natAbs D : Nat))).set_ 1 (.int .u64 (lo an.natAbs D : Nat))
             simpa using kk)
      case rest =>
      obtain ⟨x, rfl, hx, kx, hv1⟩ := hcut
      have hw0 := bb.size
      have hB1 := below_go bb (by omega) hv1
      have ka := ka.below hv1 ka.lt
      have kb := kb.below hv1 kb.lt
      clear a0 a1 b0 b1 m1 m2 m3 m4 la lb hv1 bb
      go_upto_region 9 with fail
      generalize wc = W1 at *
      have a0 := ka.cell 0
      have a1 := ka.cell 1
      have b0 := kb.cell 0
      have b1 := kb.cell 1
      simp at a0 a1 b0 b1
      have la := ka.lt
      have lb := kb.lt
      have m1 : w.heap.size ≠ W1.heap.size := by omega
      have m2 : w.heap.size + 1 ≠ W1.heap.size := by omega
      have m3 : W1.heap.size ≠ w.heap.size := by omega
      have m4 : W1.heap.size ≠ w.heap.size + 1 := by omega
      go_cut [8] (fun sx wx => ∃ y : Nat, sx = .pointer (some ⟨y, 0, none⟩) ∧ W1.heap.size ≤ y ∧ Blk wx y 100 #[.int .u64 (hi bn.natAbs E : Nat), .int .u64 (lo bn.natAbs E : Nat)] ∧ Below W1.heap.size W1 wx)
      case first =>
        go_region_held3 (fun w' => w'.cell? ⟨w.heap.size + 1, 0, none⟩ = some (.int .i64 bn) ∧ w'.cell? ⟨w.heap.size, 1, none⟩ = some (.int .i64 (E : Int))) (go_keep)
          (first
            | (go_at_call 61; refine (size_ok bn h3 _).mono ?_; rintro e w' ⟨rfl, rfl⟩)
            | (go_at_call 60; refine (product_ok bn.natAbs E xb hE _).mono ?_; rintro e w1 ⟨rfl, hv1⟩; have hV : Below W1.heap.size W1 w1 := (by first | exact below_go (Below.refl W1.heap.size W1).drew (Nat.le_refl _) hv1 | exact below_go (below_new1 W1 _).drew (Nat.le_refl _) hv1); have ka1 := ka.below hV ka.lt; have kb1 := kb.below hV kb.lt; have c0 := ka1.cell 0; have c1 := kb1.cell 0; have c2 := ka1.cell 1; have c3 := kb1.cell 1; simp at c0 c1 c2 c3; (try (have kz := (Blk.new W1 100 #[.int .u64 0, .int .u64 0]).drew.below hv1 (Blk.lt (Blk.drew (Blk.new W1 100 #[.int .u64 0, .int .u64 0]))); have z0 := kz.cell 0; have z1 := kz.cell 1; have z2 := kz.frozen 0; have z3 := kz.frozen 1; simp at z0 z1 z2 z3))))
        all_goals go_wp2_with fail
        all_goals go_meet
        all_goals first
          | exact ⟨_, rfl, hV.size, Blk.new _ _ _, hV.alloc hV.size _⟩
          | (refine ⟨_, rfl, Nat.le_refl _, ?_, (hV.setCell (p := ⟨W1.heap.size, 0, none⟩) (Nat.le_refl _) _).setCell (p := ⟨W1.heap.size, 1, none⟩) (Nat.le_refl _) _⟩
             have kk := (kz.set_ 0 (.int .u64 (hi bn.natAbs E : Nat))).set_ 1 (.int .u64 (lo bn.natAbs E : Nat))
             simpa using kk)
      case rest =>
      obtain ⟨y, rfl, hy, ky, hv1⟩ := hcut
      have hB2 := below_go hB1 (Nat.le_refl _) hv1
      have hxl := kx.lt
      have hwx : w.heap.size ≤ x := by omega
      have hwy : w.heap.size ≤ y := by omega
      have kx := kx.below hv1 hxl
      clear a0 a1 b0 b1 m1 m2 m3 m4 la lb hv1 hB1 ka kb
      have O := Lib.hid (ord_up (A := an * (D : Int)) (B := bn * (E : Int)) (by rw [Int.natCast_mul, Int.natAbs_of_nonneg (by omega)]) (by rw [Int.natCast_mul, Int.natAbs_of_nonneg (by omega)]) (hi_lo an.natAbs D) (hi_lo bn.natAbs E) (lo_lt _ _) (lo_lt _ _))
      generalize hi an.natAbs D = s0 at *
      generalize lo an.natAbs D = s1 at *
      generalize hi bn.natAbs E = t0 at *
      generalize lo bn.natAbs E = t1 at *
      go_wp2_with fail
      go_loopw [44] (fun vk wr => ∃ k : Nat, vk = .int .i64 k ∧ k ≤ 2 ∧ (0 < k → s0 = t0) ∧ (1 < k → s1 = t1) ∧ Blk wr x 100 #[.int .u64 s0, .int .u64 s1] ∧ Blk wr y 100 #[.int .u64 t0, .int .u64 t1] ∧ Below w.heap.size w wr) (fun vk _ => 2 - (intOf vk).toNat)
      case atStart => exact ⟨0, rfl, by decide, fun h => absurd h (by decide), fun h => absurd h (by decide), kx, ky, hB2⟩
      case round =>
        clear kx ky hB2
        obtain ⟨k, rfl, hk, e0, e1, kx, ky, hB⟩ := hrel
        have x0 := kx.cell 0
        have x1 := kx.cell 1
        have y0 := ky.cell 0
        have y1 := ky.cell 1
        simp at x0 x1 y0 y1
        rcases (show k = 0 ∨ k = 1 ∨ k = 2 by omega) with rfl | rfl | rfl
        · rcases Nat.lt_trichotomy s0 t0 with c | c | c
          · have HC := Lib.hid c
            have c1 : decide ((s0 : Int) < (t0 : Int)) = true := by simp; omega
            go_wp2_with fail
            go_quiet (fail)
            go_wp2_with fail
            go_ret2
            exact ⟨by rw [O.out.lt0 HC.out]; rfl, below_drewN hB _⟩
          · have HC := Lib.hid c
            have c1 : decide ((s0 : Int) < (t0 : Int)) = false := by simp; omega
            have c2 : decide ((t0 : Int) < (s0 : Int)) = false := by simp; omega
            have c3 : decide (s0 < t0) = false := by simp; omega
            have c4 : decide (t0 < s0) = false := by simp; omega
            have c5 : s0 ≤ t0 := by omega
            have c6 : t0 ≤ s0 := by omega
            clear c
            go_wp2_with fail
            go_quiet (fail)
            go_wp2_with fail
            go_quiet (fail)
            go_wp2_with fail
            go_roundw
            case rel => exact ⟨1, rfl, by omega, fun _ => HC.out, fun h => absurd h (by decide), kx.drewN _, ky.drewN _, below_drewN hB _⟩
            case measure => simp [intOf]
          · have HC := Lib.hid c
            have c1 : decide ((s0 : Int) < (t0 : Int)) = false := by simp; omega
            have c2 : decide ((t0 : Int) < (s0 : Int)) = true := by simp; omega
            go_wp2_with fail
            go_quiet (fail)
            go_wp2_with fail
            go_quiet (fail)
            go_wp2_with fail
            go_ret2
            exact ⟨by rw [O.out.gt0 HC.out]; rfl, below_drewN (below_drewN hB _) _⟩
        · rcases Nat.lt_trichotomy s1 t1 with c | c | c
          · have HC := Lib.hid c
            have c1 : decide ((s1 : Int) < (t1 : Int)) = true := by simp; omega
            go_wp2_with fail
            go_quiet (fail)
            go_wp2_with fail
            go_ret2
            exact ⟨by rw [O.out.lt1 (e0 (by decide)) HC.out]; rfl, below_drewN hB _⟩
          · have HC := Lib.hid c
            have c1 : decide ((s1 : Int) < (t1 : Int)) = false := by simp; omega
            have c2 : decide ((t1 : Int) < (s1 : Int)) = false := by simp; omega
            have c3 : decide (s1 < t1) = false := by simp; omega
            have c4 : decide (t1 < s1) = false := by simp; omega
            have c5 : s1 ≤ t1 := by omega
            have c6 : t1 ≤ s1 := by omega
            clear c
            go_wp2_with fail
            go_quiet (fail)
            go_wp2_with fail
            go_quiet (fail)
            go_wp2_with fail
            go_roundw
            case rel => exact ⟨2, rfl, by omega, fun _ => e0 (by decide), fun _ => HC.out, kx.drewN _, ky.drewN _, below_drewN hB _⟩
            case measure => simp [intOf]
          · have HC := Lib.hid c
            have c1 : decide ((s1 : Int) < (t1 : Int)) = false := by simp; omega
            have c2 : decide ((t1 : Int) < (s1 : Int)) = true := by simp; omega
            go_wp2_with fail
            go_quiet (fail)
            go_wp2_with fail
            go_quiet (fail)
            go_wp2_with fail
            go_ret2
            exact ⟨by rw [O.out.gt1 (e0 (by decide)) HC.out]; rfl, below_drewN (below_drewN hB _) _⟩
        · go_wp2_with fail
          go_ret2
          exact ⟨by rw [O.out.eq (e0 (by decide)) (e1 (by decide))]; rfl, hB⟩
end Go.Proofs.Ytoiafopndlnknaa
