/-
  CoresDensest.
-/
import Derived.Test.YtoiafopndlnknaaU1
set_option linter.unusedVariables false
set_option linter.unusedSimpArgs false
namespace Go.Proofs.Ytoiafopndlnknaa
open Go.RowKit Go.Shelf

theorem most_le4 (E : Es) (n : Nat) (hE : E.length ≤ 16384) : most E n ≤ 20000 := by
  obtain ⟨_, h2, h3⟩ := most_is E n
  rcases Nat.eq_zero_or_pos n with h0 | h0
  · rw [h3 h0]; omega
  · obtain ⟨v, _, e⟩ := h2 h0
    rw [e]
    exact num_le20 E n v hE
theorem sumU_mono (f : Nat → Nat) {i : Nat} : ∀ {n}, i ≤ n → sumU f i ≤ sumU f n
  | 0, h => by obtain rfl : i = 0 := by omega
               exact Nat.le_refl _
  | n + 1, h => by
    by_cases e : i = n + 1
    · subst e; exact Nat.le_refl _
    · exact Nat.le_trans (sumU_mono f (by omega)) (Nat.le_add_right _ _)
theorem count_le (S : Nat → Bool) (u : Nat) : (List.range u).countP S ≤ u := by
  have := List.countP_le_length (p := S) (l := List.range u)
  rwa [List.length_range] at this
theorem count_snoc (S : Nat → Bool) (u : Nat) : (List.range (u + 1)).countP S = (List.range u).countP S + if S u = true then 1 else 0 := by
  rw [List.range_succ, List.countP_append, List.countP_singleton]
set_option maxRecDepth 100000 in
set_option maxHeartbeats 8000000 in
theorem densest_walk (N : Int) (n c : Nat) (A : Option Addr) (z : Nat → Nat → Int) (w : World) (hN : (Lit.int .u8 N).wf = true) (ha : ArgS [.u8, .u8] w A n c z) :
    Calls Try.prog 4 #[.int .u8 N, .slice A n c] w fun e w' => e = .returned (.bool true) ∧ Below w.heap.size w w' := by
  have x := drawn_ok N n c A z w hN ha
  clear ha hN
  go_enter Try.func4, Try.ntmps4
  go_wp2_with fail
  refine x.mono ?_
  rintro e w1 ⟨m, v, E, rfl, hm, hEl, hF, hE, q⟩
  clear x
  obtain ⟨A2, c2, rfl, hEA, _⟩ := hE.ea hF
  clear hE
  have x := new_ea hEA hF
  go_wp2_with fail
  refine x.mono ?_
  rintro e w2 ⟨K, rfl, hG, v1⟩
  have hEA := hEA.below v1
  have q := below_end q q.size v1
  clear x v1
  have x := densest_nice hG
  go_wp2_with fail
  refine x.mono ?_
  rintro e w3 ⟨hd, v1⟩
  clear x
  rcases hd with ⟨h0, rfl⟩ | ⟨h0, k, a, b, hI, ha, hb, h1, la, lb, rfl⟩
  · subst h0
    have ka := Blk.new w3 42 #[.int .i64 0, .int .i64 1]
    have v1 := below_end v1 v1.size (below_new1 w3 (.cells #[.int .i64 0, .int .i64 1] 42))
    have hG := hG.below v1
    have q := below_end q q.size v1
    clear v1
    go_upto_region 6 with fail
    generalize w3.alloc (.cells #[.int .i64 0, .int .i64 1] 42) = W3 at *
    generalize w3.heap.size = gA at *
    have x := degeneracy_ok hG
    go_wp2_with fail
    refine x.mono ?_
    rintro e w4 ⟨rfl, v1⟩
    have ka := ka.below v1 ka.lt
    have q := below_end q q.size v1
    clear x v1
    have a0 := ka.cell 0
    have a1 := ka.cell 1
    simp at a0 a1
    clear ka
    have x := works_ok w4
    go_wp2_with fail
    refine x.mono ?_
    rintro e w5 ⟨rfl, v1⟩
    have q := below_end q q.size v1
    clear x v1 a0 a1
    go_wp2_with fail
    go_ret
    exact ⟨rfl, q⟩
  · obtain ⟨hD, hr⟩ := red_facts (a := a) h1
    have lN : a / Nat.gcd a b ≤ a := Nat.div_le_self _ _
    have lD : b / Nat.gcd a b ≤ b := Nat.div_le_self _ _
    have hkM := hI.1
    have hlaw := dens_law hF h0 hI ha hb h1 hD hr
    have hM2 := most_le4 E m hF.2.1
    obtain ⟨M, hM⟩ : ∃ M, most E m = M := ⟨_, rfl⟩
    obtain ⟨P, hP⟩ : ∃ P, a / Nat.gcd a b = P := ⟨_, rfl⟩
    obtain ⟨D, hDD⟩ : ∃ D, b / Nat.gcd a b = D := ⟨_, rfl⟩
    rw [hM] at hkM hlaw hM2
    rw [hP] at hlaw lN
    rw [hDD] at hlaw lD hD
    obtain ⟨hl1, hl2, hl3⟩ := hlaw
    rw [hP, hDD]
    have HM := Lib.hid hM
    have HL := Lib.hid hl3
    have hPM : P ≤ 16384 := by omega
    have hDM : D ≤ 4096 := by omega
    clear hP hDD hr hI ha hb la lb lN lD h1 hl3 hM a b
    have ka := Blk.new w3 42 #[.int .i64 (P : Int), .int .i64 (D : Int)]
    have v1 := below_end v1 v1.size (below_new1 w3 (.cells #[.int .i64 (P : Int), .int .i64 (D : Int)] 42))
    have hEA := hEA.below v1
    have hG := hG.below v1
    have q := below_end q q.size v1
    clear v1
    go_upto_region 6 with fail
    generalize w3.alloc (.cells #[.int .i64 (P : Int), .int .i64 (D : Int)] 42) = W3 at *
    generalize w3.heap.size = gA at *
    have x := degeneracy_ok hG
    rw [HM.out] at x
    go_wp2_with fail
    refine x.mono ?_
    rintro e w4 ⟨rfl, v1⟩
    have hEA := hEA.below v1
    have hG := hG.below v1
    have ka := ka.below v1 ka.lt
    have q := below_end q q.size v1
    clear x v1
    have a0 := ka.cell 0
    have a1 := ka.cell 1
    simp at a0 a1
    have hm0 : ((m : Int) == 0) = false := by simp; omega
    have hm0' : ¬ (m : Int) = 0 := by omega
    obtain ⟨MD, hMD⟩ : ∃ MD, M * D = MD := ⟨_, rfl⟩
    have hMD3 : MD ≤ 81920000 := by rw [← hMD]; exact Nat.le_trans (Nat.mul_le_mul hM2 hDM) (by decide)
    have hMD2 : (M : Int) * (D : Int) = (MD : Int) := by rw [← hMD]; simp
    rw [hMD] at hl1 hl2
    clear hMD
    have g1 : decide ((k : Int) < 0) = false := decide_eq_false (by omega)
    have g2 : decide ((M : Int) < (k : Int)) = false := decide_eq_false (by omega)
    have g3 : decide ((D : Int) < 1) = false := decide_eq_false (by omega)
    have g4 : decide (2 * (P : Int) < (MD : Int)) = false := decide_eq_false (by omega)
    have g5 : decide ((MD : Int) < (P : Int)) = false := decide_eq_false (by omega)
    have HEA := Lib.hid (fun (W : World) (q : Below w4.heap.size w4 W) => hEA.below q)
    have HGR := Lib.hid (fun (W : World) (q : Below w4.heap.size w4 W) => hG.below q)
    have HKA := Lib.hid (fun (W : World) (q : Below w4.heap.size w4 W) => ka.below q ka.lt)
    have HF := Lib.hid hF
    have HQ := Lib.hid q
    have hb4 := Below.refl w4.heap.size w4
    have hE1 := hF.2.1
    have g6 := hl1
    have g7 := hl2
    clear hEA hG ka q hF
    go_wp2_with fail
    clear g1 g2 g3 g4 g5 g6 g7 hl1 hl2 hMD2 hMD3 a0 a1
    go_loopw [12, 13, 14, 15, 16, 17, 18, 19, 20] (fun v12 _ _ _ _ _ _ _ _ wr => ∃ i : Nat, v12 = .int .i64 i ∧ i ≤ M + 1 ∧ Below w4.heap.size w4 wr) (fun v _ _ _ _ _ _ _ _ _ => 30000 - (intOf v).toNat)
    case atStart => exact ⟨0, rfl, Nat.zero_le _, hb4⟩
    case round =>
      clear hb4
      obtain ⟨i, rfl, hi, q⟩ := hrel
      by_cases hiM : i ≤ M
      · have hiM2 : (i : Int) ≤ (M : Int) := by omega
        have x := core_nice (HGR.out _ q) (i : Int)
        go_wp2_with fail
        refine x.mono ?_
        rintro e w5 ⟨Ac, qc, cc, rfl, hlq, hqm, _, hac, v1⟩
        have q := below_end q q.size v1
        clear x v1
        have x := members_core hlq hac (by omega)
        clear hlq hac
        go_wp2_with fail
        refine x.mono ?_
        rintro e w6 ⟨gi, rfl, _, ri, v1⟩
        rw [coreZ_nat] at ri
        have q := below_end q q.size v1
        clear x v1
        have x := inside_ok (HEA.out _ q) HF.out ri
        go_wp2_with fail
        refine x.mono ?_
        rintro e w7 ⟨gd, rfl, _, rd, v1⟩
        have q := below_end q q.size v1
        have ri := ri.below v1 ri.lt
        clear x v1
        obtain ⟨hlA, hlB, hlC⟩ := HL.out i hiM
        have h2e : 2 * ege E (num E m) i = sumU (insD E (coreS E m i)) m := by
          rw [ege_eIn]
          exact (sum_ins HF.out _).symm
        have h2v : vge (num E m) m i = (List.range m).countP (coreS E m i) := rfl
        rw [h2e, h2v] at hlA hlB hlC
        have hbe : sumU (insD E (coreS E m i)) m ≤ 32768 := by
          rw [← h2e]
          have : ege E (num E m) i ≤ E.length := List.countP_le_length
          omega
        obtain ⟨T, hT⟩ : ∃ T, coreS E m i = T := ⟨_, rfl⟩
        rw [hT] at ri rd hlA hlB hlC hbe
        obtain ⟨dF, hdF⟩ : ∃ dF, insD E T = dF := ⟨_, rfl⟩
        rw [hdF] at hlA hlB hlC hbe rd
        have HA := Lib.hid (And.intro hlA (And.intro hlB hlC))
        have HSM := Lib.hid (fun u (h : u ≤ m) => Nat.le_trans (sumU_mono dF h) hbe)
        have HCL := Lib.hid (fun u => count_le T u)
        have HCS := Lib.hid (fun u => count_snoc T u)
        have HSS := Lib.hid (show ∀ u, sumU dF (u + 1) = sumU dF u + dF u from fun _ => rfl)
        clear hlA hlB hlC h2e h2v hbe hT hdF
        go_wp2_with fail
        go_loopw [16, 17, 18] (fun v16 v17 v18 wr => ∃ u : Nat, v18 = .int .i64 u ∧ u ≤ m ∧ v16 = .int .i64 (sumU dF u : Nat) ∧ v17 = .int .i64 ((List.range u).countP T : Nat) ∧ ∃ j, wr = w7.drewN j) (fun _ _ v _ => 20000 - (intOf v).toNat)
        case atStart => exact ⟨0, rfl, Nat.zero_le _, rfl, rfl, 0, rfl⟩
        case round =>
          obtain ⟨u, rfl, hu, rfl, rfl, j, rfl⟩ := hrel
          have hs0 := HSM.out u hu
          have hc0 := HCL.out u
          by_cases hlt : u < m
          · have hum : (u : Int) < (m : Int) := by omega
            have c0 := rd.cell hlt
            have c1 := ri.cell hlt
            have hs1 := HSM.out (u + 1) (by omega)
            have hss := HSS.out u
            have hcs := HCS.out u
            obtain ⟨s, hs⟩ : ∃ s, sumU dF u = s := ⟨_, rfl⟩
            obtain ⟨s', hs'⟩ : ∃ s, sumU dF (u + 1) = s := ⟨_, rfl⟩
            obtain ⟨q0, hq0⟩ : ∃ s, (List.range u).countP T = s := ⟨_, rfl⟩
            obtain ⟨d, hd⟩ : ∃ s, dF u = s := ⟨_, rfl⟩
            obtain ⟨b, hb⟩ : ∃ s, T u = s := ⟨_, rfl⟩
            have HS' := Lib.hid hs'
            rw [hs] at hs0 hss
            rw [hs'] at hs1 hss
            rw [hd] at hss c0
            rw [hb] at c1 hcs
            rw [hq0] at hc0 hcs
            rw [hs, hq0]
            have HCS2 := Lib.hid hcs
            clear hs hs' hq0 hd hb hcs
            cases b
            · go_wp2_with fail
              go_roundw
              case rel => exact ⟨u + 1, by simp, by omega, by rw [HS'.out, hss]; simp, by rw [HCS2.out]; simp, j, rfl⟩
              case measure => simp [intOf]; omega
            · go_wp2_with fail
              go_roundw
              case rel => exact ⟨u + 1, by simp, by omega, by rw [HS'.out, hss]; simp, by rw [HCS2.out]; simp, j, rfl⟩
              case measure => simp [intOf]; omega
          · have eum : m = u := by omega
            subst eum
            have hum : ¬ (m : Int) < (m : Int) := by omega
            obtain ⟨hlA, hlB, hlC⟩ := HA.out
            obtain ⟨s, hs⟩ : ∃ s, sumU dF m = s := ⟨_, rfl⟩
            obtain ⟨t, ht⟩ : ∃ s, (List.range m).countP T = s := ⟨_, rfl⟩
            rw [hs] at hlA hlB hlC hs0 ⊢
            rw [ht] at hlA hlB hlC hc0 ⊢
            obtain ⟨X, hX⟩ : ∃ X, s * D = X := ⟨_, rfl⟩
            obtain ⟨Y, hY⟩ : ∃ Y, 2 * P * t = Y := ⟨_, rfl⟩
            have hXb : X ≤ 200000000 := by rw [← hX]; exact Nat.le_trans (Nat.mul_le_mul hs0 hDM) (by decide)
            have hYb : Y ≤ 200000000 := by rw [← hY]; exact Nat.le_trans (Nat.mul_le_mul (Nat.mul_le_mul_left 2 hPM) (show t ≤ 40 by omega)) (by decide)
            have e1 : (s : Int) * (D : Int) = (X : Int) := by rw [← hX]; simp
            have e2 : 2 * (P : Int) * (t : Int) = (Y : Int) := by rw [← hY]; simp
            rw [hX] at hlA hlB hlC
            rw [hY] at hlA hlB hlC
            have kb := HKA.out _ q
            have a0 : (w7.drewN j).cell? _ = _ := kb.cell 0
            have a1 : (w7.drewN j).cell? _ = _ := kb.cell 1
            simp at a0 a1
            clear hs ht hX hY kb rd ri
            by_cases hlt : X < Y
            · have g1 : decide ((Y : Int) < (X : Int)) = false := decide_eq_false (by omega)
              have g2 : ((X : Int) == (Y : Int)) = false := by simp; omega
              have g3 : ((i : Int) == (k : Int)) = false := by
                simp
                intro e
                have e : i = k := by omega
                have := hlC e
                omega
              have g2' : ¬ (X : Int) = (Y : Int) := by omega
              have g3' : ¬ (i : Int) = (k : Int) := by simpa using g3
              clear hlA hlB hlC
              go_upto_region 25 with fail
              go_quiet (fail)
              go_wp2_with fail
              go_roundw
              case rel => exact ⟨i + 1, by simp, by omega, below_drewN q (j + nq)⟩
              case measure => simp [intOf]; omega
            · obtain rfl : X = Y := by omega
              have g1 : decide ((X : Int) < (X : Int)) = false := decide_eq_false (by omega)
              have g2 : ((X : Int) == (X : Int)) = true := by simp
              have hik : ¬ (k : Int) < (i : Int) := by
                intro e
                have := hlB (by omega)
                omega
              have g3 : decide ((k : Int) < (i : Int)) = false := decide_eq_false hik
              clear hlA hlB hlC
              by_cases hk2 : i = k
              · have g4 : ((i : Int) == (k : Int)) = true := by simp; omega
                have g4' : (i : Int) = (k : Int) := by omega
                go_upto_region 25 with fail
                go_quiet (fail)
                go_wp2_with fail
                go_roundw
                case rel => exact ⟨i + 1, by simp; omega, by omega, below_drewN q (j + nq)⟩
                case measure => simp [intOf]; omega
              · have g4 : ((i : Int) == (k : Int)) = false := by simp; omega
                have g4' : ¬ (i : Int) = (k : Int) := by omega
                go_upto_region 25 with fail
                go_quiet (fail)
                go_wp2_with fail
                go_roundw
                case rel => exact ⟨i + 1, by simp, by omega, below_drewN q (j + nq)⟩
                case measure => simp [intOf]; omega
      · have hiM2 : ¬ (i : Int) ≤ (M : Int) := by omega
        have q := below_end HQ.out HQ.out.size q
        have x := works_ok wr
        go_wp2_with fail
        refine x.mono ?_
        rintro e w9 ⟨rfl, v1⟩
        have q := below_end q q.size v1
        clear x v1
        go_wp2_with fail
        go_ret
        exact ⟨rfl, q⟩
end Go.Proofs.Ytoiafopndlnknaa
