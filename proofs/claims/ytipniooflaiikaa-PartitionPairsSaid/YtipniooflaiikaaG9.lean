/-
  The document's fractions in lowest terms.
-/
import Derived.Test.YtipniooflaiikaaG1
import Derived.Test.YtipniooflaiikaaA1
set_option linter.unusedVariables false
set_option linter.unusedSimpArgs false
namespace Go.Proofs.Ytipniooflaiikaa
open Go.RowKit Go.Shelf

theorem Blk.wides {w : World} {g t : Nat} {b : Bool} {f : Nat → Int} (h : Blk w g t (wide b f)) :
    w.cell? ⟨g, 0, none⟩ = some (.bool b) ∧ w.cell? ⟨g, 1, none⟩ = some (.int .u64 (f 0)) ∧ w.cell? ⟨g, 2, none⟩ = some (.int .u64 (f 1)) ∧ w.cell? ⟨g, 3, none⟩ = some (.int .u64 (f 2)) ∧ w.cell? ⟨g, 4, none⟩ = some (.int .u64 (f 3)) ∧ w.cell? ⟨g, 5, none⟩ = some (.int .u64 (f 4)) ∧ w.cell? ⟨g, 6, none⟩ = some (.int .u64 (f 5)) :=
  ⟨h.cell 0, h.cell 1, h.cell 2, h.cell 3, h.cell 4, h.cell 5, h.cell 6⟩
set_option maxRecDepth 100000 in
set_option maxHeartbeats 1000000 in
theorem magnitude_ok (x : Int) (h : Fits x) (w : World) :
    Calls Try.prog 52 #[.int .i64 x] w fun e w' => e = .returned (.int .u64 (x.natAbs : Int)) ∧ Below w.heap.size w w' := by
  have hx := natAbs_lt h
  have e : (x.natAbs : Int) = fromF x 1 * 4294967296 + fromF x 0 := by simp only [fromF]; omega
  have g0 := from_digits h 0 (by decide)
  have g1 := from_digits h 1 (by decide)
  have HF := fun w => from_ok x h w
  rw [e]
  simp only [wide] at HF
  have gs : fromF x 1 * 4294967296 + fromF x 0 < 18446744073709551616 := by omega
  clear e
  generalize fromF x 0 = d0 at *
  generalize fromF x 1 = d1 at *
  go_enter Try.func52, Try.ntmps52
  go_wp2_with (go_at_call 56; refine (HF _).mono ?_; rintro e w1 ⟨rfl, hv1⟩)
  go_ret
  exact ⟨rfl, hv1.alloc hv1.size _⟩
def topF (x : Int) : Nat → Int | 0 => x % 4294967296 | 1 => x / 4294967296 | _ => 0
theorem top_digits {x : Int} (h0 : 0 ≤ x) (h1 : x < 18446744073709551616) : Digits (topF x) := fun j _ => by
  rcases j with _ | _ | j
  · show 0 ≤ x % 4294967296 ∧ x % 4294967296 < 4294967296; omega
  · show 0 ≤ x / 4294967296 ∧ x / 4294967296 < 4294967296; omega
  · show (0 : Int) ≤ 0 ∧ (0 : Int) < 4294967296; decide
theorem top_mag (x : Int) : mag (topF x) = x := by
  rw [mag_at]
  simp only [topF]
  omega
theorem top_val (x : Int) (b : Bool) : val b (topF x) = sgi x b := by unfold val sgi; rw [top_mag]

/-- the plain facts of the fraction -/
structure RedFacts (n d a b g : Int) : Prop where
  top : ∀ x, x = (!(decide (n < 0) == decide (d < 0))) → sgi a x = redT n d
  bot : b = redB n d
  a0 : 0 ≤ a
  b0 : 0 ≤ b
  a1 : a < 18446744073709551616
  b1 : b < 18446744073709551616
  g0 : 0 < g
  qa : (n.natAbs : Int) / g = a
  qb : (d.natAbs : Int) / g = b
theorem red_facts {n d : Int} (hn : Fits n) (hd : Fits d) (h0 : d ≠ 0) : ∃ a b : Int, RedFacts n d a b (Nat.gcd n.natAbs d.natAbs : Int) := by
  have xn := natAbs_lt hn
  have xd := natAbs_lt hd
  have g0 : 0 < Nat.gcd n.natAbs d.natAbs := Nat.gcd_pos_of_pos_right _ (by omega)
  have l1 := Nat.div_le_self n.natAbs (Nat.gcd n.natAbs d.natAbs)
  have l2 := Nat.div_le_self d.natAbs (Nat.gcd n.natAbs d.natAbs)
  refine ⟨((n.natAbs / Nat.gcd n.natAbs d.natAbs : Nat) : Int), ((d.natAbs / Nat.gcd n.natAbs d.natAbs : Nat) : Int), ⟨?_, rfl, Int.natCast_nonneg _, Int.natCast_nonneg _, by omega, by omega, by omega, rfl, rfl⟩⟩
  rintro x rfl
  rfl

set_option maxRecDepth 100000 in
set_option maxHeartbeats 4000000 in
theorem rreduce_ok (n d : Int) (hn : Fits n) (hd : Fits d) (w : World) :
    Calls Try.prog 41 #[.int .i64 n, .int .i64 d] w fun e w' => e = .returned (.tuple #[.agg #[.int .i64 (redN n d), .int .i64 (redD n d)], .int .i64 (redE n d)]) ∧ Below w.heap.size w w' := by
  have q := below_new1 w (.cells #[.int .i64 0, .int .i64 0] 28)
  have kr := Blk.new w 28 #[.int .i64 0, .int .i64 0]
  by_cases h0 : d = 0
  · have e1 : redN n d = 0 := if_neg (fun h => h.1 h0)
    have e2 : redD n d = 0 := if_neg (fun h => h.1 h0)
    have e3 : redE n d = 2 := if_pos h0
    rw [e1, e2, e3]
    have h1 : (d == 0) = true := by simp [h0]
    clear e1 e2 e3 h0
    go_enter Try.func41, Try.ntmps41
    go_wp2_with fail
    simp [bodyPost, results, Try.results41, go_sem]
    exact q
  have h1 : (d == 0) = false := by simp [h0]
  obtain ⟨a, b, F⟩ := red_facts hn hd h0
  have a0 := F.a0
  have b0 := F.b0
  have a1 := F.a1
  have b1 := F.b1
  have HF := Lib.hid F
  clear F
  have xn := natAbs_lt hn
  have xd := natAbs_lt hd
  have H0 := Lib.hid h0
  go_enter Try.func41, Try.ntmps41
  go_upto_region 1 with fail
  generalize w.alloc (.cells #[.int .i64 0, .int .i64 0] 28) = W0 at *
  go_wp2_with (first
    | (go_at_call 52; have mk := mark1; refine (magnitude_ok d hd _).mono ?_; rintro e w2 ⟨rfl, hv2⟩)
    | (go_at_call 52; refine (magnitude_ok n hn _).mono ?_; rintro e w1 ⟨rfl, hv1⟩; have mark1 := xn))
  have kr := (kr.below hv1 kr.lt)
  have kr := (kr.below hv2 kr.lt)
  have q := below_end q q.size hv1
  have q := below_end q q.size hv2
  go_loopw [8, 9] (fun vx vy wr => ∃ x y : Nat, vx = .int .u64 x ∧ vy = .int .u64 y ∧ x < 18446744073709551616 ∧ y < 18446744073709551616 ∧ Hid (Nat.gcd x y = Nat.gcd n.natAbs d.natAbs) ∧ Blk wr w.heap.size 28 #[.int .i64 0, .int .i64 0] ∧ Below w.heap.size w wr) (fun _ vy _ => (intOf vy).toNat)
  case atStart => exact ⟨n.natAbs, d.natAbs, rfl, rfl, xn, xd, Lib.hid rfl, kr, q⟩
  case round =>
    clear kr q
    obtain ⟨x, y, rfl, rfl, hx, hy, HG, kr, q⟩ := hrel
    by_cases hy0 : y = 0
    · subst hy0
      have hg : x = Nat.gcd n.natAbs d.natAbs := by have := HG.out; rwa [Nat.gcd_zero_right] at this
      have hgi : (Nat.gcd n.natAbs d.natAbs : Int) = (x : Int) := by rw [← hg]
      have g0 := HF.out.g0
      have qa := HF.out.qa
      have qb := HF.out.qb
      rw [hgi] at g0 qa qb
      clear HG hg hgi
      have x0 : x ≠ 0 := by omega
      have x1 : (x : Int) ≠ 0 := by omega
      have wa : IntKind.u64.wrap a = a := by rw [IntKind.wrap_u64]; omega
      have wb : IntKind.u64.wrap b = b := by rw [IntKind.wrap_u64]; omega
      go_wp2_with fail
      go_quiet (fail)
      obtain ⟨sn, hsn⟩ : ∃ sn, decide (n < 0) = sn := ⟨_, rfl⟩
      obtain ⟨sd, hsd⟩ : ∃ sd, decide (d < 0) = sd := ⟨_, rfl⟩
      have HT := Lib.hid (HF.out.top _ rfl)
      rw [hsn, hsd] at HT
      clear x1 x0 qa qb g0
      have kr := kr.drewN nq
      have q := below_drewN q nq
      generalize wr.drewN nq = WD at *
      have q0 := below_end q q.size (Below.refl WD.heap.size WD)
      have l0 := kr.lt
      go_upto_region 9 with fail
      have kt := Blk.new WD 67 (wide false fun _ => 0)
      have kr := kr.alloc (.cells (wide false fun _ => 0) 67)
      have q := q.alloc q.size (.cells (wide false fun _ => 0) 67)
      simp only [wide] at kt kr q
      generalize WD.alloc (.cells #[.bool false, .int .u64 0, .int .u64 0, .int .u64 0, .int .u64 0, .int .u64 0, .int .u64 0] 67) = WE at *
      have hlt0 : w.heap.size < WD.heap.size := l0
      obtain ⟨t0, t1, t2, t3, t4, t5, t6⟩ := (show Blk WE WD.heap.size 67 (wide false fun _ => 0) from kt).wides
      have z0 := kt.frozen 0
      have z1 := kt.frozen 1
      have z2 := kt.frozen 2
      go_upto_region 12 with fail
      have kt3 := ((kt.set_ 1 (.int .u64 (a % 4294967296))).set_ 2 (.int .u64 (a / 4294967296))).set_ 0 (.bool (!(sn == sd)))
      have kr3 := ((kr.far (p := ⟨WD.heap.size, 1, none⟩) (Nat.ne_of_lt hlt0) (.int .u64 (a % 4294967296))).far (p := ⟨WD.heap.size, 2, none⟩) (Nat.ne_of_lt hlt0) (.int .u64 (a / 4294967296))).far (p := ⟨WD.heap.size, 0, none⟩) (Nat.ne_of_lt hlt0) (.bool (!(sn == sd)))
      have q3 := ((q.setCell (p := ⟨WD.heap.size, 1, none⟩) (Nat.le_of_lt hlt0) (.int .u64 (a % 4294967296))).setCell (p := ⟨WD.heap.size, 2, none⟩) (Nat.le_of_lt hlt0) (.int .u64 (a / 4294967296))).setCell (p := ⟨WD.heap.size, 0, none⟩) (Nat.le_of_lt hlt0) (.bool (!(sn == sd)))
      generalize ((WE.setCell ⟨WD.heap.size, 1, none⟩ (.int .u64 (a % 4294967296))).setCell ⟨WD.heap.size, 2, none⟩ (.int .u64 (a / 4294967296))).setCell ⟨WD.heap.size, 0, none⟩ (.bool (!(sn == sd))) = WF at *
      clear t0 t1 t2 t3 t4 t5 t6 z0 z1 z2
      have t0 := kt3.cell 0
      have t1 := kt3.cell 1
      have t2 := kt3.cell 2
      have t3 := kt3.cell 3
      have t4 := kt3.cell 4
      have t5 := kt3.cell 5
      have t6 := kt3.cell 6
      simp at t0 t1 t2 t3 t4 t5 t6
      have HI := fun w => int_ok (!(sn == sd)) (topF a) (top_digits a0 a1) w
      rw [top_val] at HI
      simp only [wide, topF] at HI
      obtain ⟨T, hT⟩ : ∃ T, redT n d = T := ⟨_, rfl⟩
      rw [HT.out, hT] at HI
      have hB := HF.out.bot
      by_cases fT : Fits T
      · have E1 := fitV_in fT
        have E2 := decide_yes fT
        by_cases fB : Fits b
        · have r1 : redN n d = T := by unfold redN; rw [if_pos ⟨H0.out, by rw [RedOk, hT, ← hB]; exact ⟨fT, fB⟩⟩, hT]
          have r2 : redD n d = b := by unfold redD; rw [if_pos ⟨H0.out, by rw [RedOk, hT, ← hB]; exact ⟨fT, fB⟩⟩, ← hB]
          have r3 : redE n d = 0 := by unfold redE; rw [if_neg H0.out, if_pos (by rw [RedOk, hT, ← hB]; exact ⟨fT, fB⟩)]
          have R1 := Lib.hid r1
          have R2 := Lib.hid r2
          have R3 := Lib.hid r3
          have b9 : b ≤ 9223372036854775807 := fB.2
          clear r1 r2 r3 hB hT
          go_wp2_with fail
          refine (HI _).mono ?_
          rw [E1, E2]
          rintro e w5 ⟨rfl, hv5⟩
          have kr5 := kr3.below hv5 kr3.lt
          have q5 := below_end q3 q3.size hv5
          have c0 := kr5.cell 0
          have c1 := kr5.cell 1
          have z0 := kr5.frozen 0
          have z1 := kr5.frozen 1
          simp at c0 c1
          go_wp2_with fail
          clear c0 c1 z0 z1
          have R := (kr5.set_ 0 (.int .i64 T)).set_ 1 (.int .i64 b)
          have qz := (q5.setCell (p := ⟨w.heap.size, 0, none⟩) (Nat.le_refl _) (.int .i64 T)).setCell (p := ⟨w.heap.size, 1, none⟩) (Nat.le_refl _) (.int .i64 b)
          generalize (w5.setCell ⟨w.heap.size, 0, none⟩ (.int .i64 T)).setCell ⟨w.heap.size, 1, none⟩ (.int .i64 b) = WZ at *
          have c0 := R.cell 0
          have c1 := R.cell 1
          simp at c0 c1
          simp [bodyPost, results, Try.results41, go_sem, c0, c1]
          exact ⟨⟨⟨R1.out.symm, R2.out.symm⟩, R3.out.symm⟩, qz⟩
        · have r1 : redN n d = 0 := if_neg (fun k => fB (by rw [hB]; exact k.2.2))
          have r2 : redD n d = 0 := if_neg (fun k => fB (by rw [hB]; exact k.2.2))
          have r3 : redE n d = 7 := by unfold redE; rw [if_neg H0.out, if_neg (fun k => fB (by rw [hB]; exact k.2))]
          have R1 := Lib.hid r1
          have R2 := Lib.hid r2
          have R3 := Lib.hid r3
          have b9 : 9223372036854775807 < b := by
            rcases Int.lt_or_le 9223372036854775807 b with k | k
            · exact k
            · exact (fB ⟨by omega, k⟩).elim
          clear r1 r2 r3 hB hT
          go_wp2_with fail
          refine (HI _).mono ?_
          rw [E1, E2]
          rintro e w5 ⟨rfl, hv5⟩
          have kr5 := kr3.below hv5 kr3.lt
          have q5 := below_end q3 q3.size hv5
          have c0 := kr5.cell 0
          have c1 := kr5.cell 1
          have z0 := kr5.frozen 0
          have z1 := kr5.frozen 1
          simp at c0 c1
          go_wp2_with fail
          clear c0 c1 z0 z1
          have R := (kr5.set_ 0 (.int .i64 0)).set_ 1 (.int .i64 0)
          have qz := (q5.setCell (p := ⟨w.heap.size, 0, none⟩) (Nat.le_refl _) (.int .i64 0)).setCell (p := ⟨w.heap.size, 1, none⟩) (Nat.le_refl _) (.int .i64 0)
          generalize (w5.setCell ⟨w.heap.size, 0, none⟩ (.int .i64 0)).setCell ⟨w.heap.size, 1, none⟩ (.int .i64 0) = WZ at *
          have c0 := R.cell 0
          have c1 := R.cell 1
          simp at c0 c1
          simp [bodyPost, results, Try.results41, go_sem, c0, c1]
          exact ⟨⟨⟨R1.out.symm, R2.out.symm⟩, R3.out.symm⟩, qz⟩
      · have E1 := fitV_out fT
        have E2 := decide_no fT
        have r1 : redN n d = 0 := if_neg (fun k => fT (by rw [← hT]; exact k.2.1))
        have r2 : redD n d = 0 := if_neg (fun k => fT (by rw [← hT]; exact k.2.1))
        have r3 : redE n d = 7 := by unfold redE; rw [if_neg H0.out, if_neg (fun k => fT (by rw [← hT]; exact k.1))]
        have R1 := Lib.hid r1
        have R2 := Lib.hid r2
        have R3 := Lib.hid r3
        clear r1 r2 r3 hB hT
        go_wp2_with fail
        refine (HI _).mono ?_
        rw [E1, E2]
        rintro e w5 ⟨rfl, hv5⟩
        have kr5 := kr3.below hv5 kr3.lt
        have q5 := below_end q3 q3.size hv5
        have c0 := kr5.cell 0
        have c1 := kr5.cell 1
        have z0 := kr5.frozen 0
        have z1 := kr5.frozen 1
        simp at c0 c1
        go_wp2_with fail
        clear c0 c1 z0 z1
        have R := (kr5.set_ 0 (.int .i64 0)).set_ 1 (.int .i64 0)
        have qz := (q5.setCell (p := ⟨w.heap.size, 0, none⟩) (Nat.le_refl _) (.int .i64 0)).setCell (p := ⟨w.heap.size, 1, none⟩) (Nat.le_refl _) (.int .i64 0)
        generalize (w5.setCell ⟨w.heap.size, 0, none⟩ (.int .i64 0)).setCell ⟨w.heap.size, 1, none⟩ (.int .i64 0) = WZ at *
        have c0 := R.cell 0
        have c1 := R.cell 1
        simp at c0 c1
        simp [bodyPost, results, Try.results41, go_sem, c0, c1]
        exact ⟨⟨⟨R1.out.symm, R2.out.symm⟩, R3.out.symm⟩, qz⟩
    · have y1 : ((y : Int) == 0) = false := by simp; omega
      have y2 : (y : Int) ≠ 0 := by omega
      have hm := Nat.mod_lt x (show 0 < y by omega)
      have HG2 := Lib.hid (show Nat.gcd y (x % y) = Nat.gcd n.natAbs d.natAbs by rw [← HG.out, Nat.gcd_comm y, ← Nat.gcd_rec, Nat.gcd_comm])
      have y6 : (x : Int).tmod (y : Int) = ((x % y : Nat) : Int) := by rw [Int.tmod_eq_emod_of_nonneg (by omega), ← Int.natCast_emod]
      obtain ⟨r, hr⟩ : ∃ r, x % y = r := ⟨_, rfl⟩
      rw [hr] at hm HG2 y6
      clear hr HG
      have y8 : IntKind.u64.wrap (r : Int) = (r : Int) := by rw [IntKind.wrap_u64]; omega
      go_wp2_with fail
      go_quiet (fail)
      go_wp2_with fail
      go_roundw
      case rel => exact ⟨y, r, rfl, rfl, hy, by omega, HG2, kr.drewN _, below_drewN q _⟩
      case measure => simp [intOf]; omega
end Go.Proofs.Ytipniooflaiikaa
