/-
  The document's Densest; what both Densests give.
-/
import Derived.Test.YtoiafopndlnknaaK7
set_option linter.unusedVariables false
set_option linter.unusedSimpArgs false
namespace Go.Proofs.Ytoiafopndlnknaa
open Go.RowKit Go.Shelf

/-- what the search over the cores gives -/
def densD (E : Es) (n : Nat) : Nat × Nat × Nat := if n = 0 then (0, 0, 1) else densR (fun k => geN (num E n) n k) (fun k => geN (eMin E (num E n)) E.length k) (most E n + 1)
/-- number and ratio of the densest core -/
def densV (E : Es) (n : Nat) : Nat × Nat × Nat := ((densD E n).1, (densD E n).2.1 / Nat.gcd (densD E n).2.1 (densD E n).2.2, (densD E n).2.2 / Nat.gcd (densD E n).2.1 (densD E n).2.2)
theorem densV_zero (E : Es) : densV E 0 = (0, 0, 1) := by
  unfold densV densD
  simp
theorem geN_pos {E : Es} {n : Nat} (h0 : n ≠ 0) {k : Nat} (hk : k ≤ most E n) : 1 ≤ geN (num E n) n k := by
  rw [← geN_suf (fun i hi => (most_is E n).1 i hi) k hk]
  have h1 := suf_ge (cntN (num E n) n) (most E n) (most E n - k)
  have h2 := cntN_pos (most_is E n) h0
  unfold sufF
  omega
theorem densD_bound (E : Es) (n : Nat) (hF : Fine n E) : (densD E n).1 ≤ most E n + 1 ∧ (densD E n).2.1 ≤ 16384 ∧ 1 ≤ (densD E n).2.2 ∧ (densD E n).2.2 ≤ 4096 := by
  unfold densD
  by_cases h0 : n = 0
  · rw [if_pos h0]; exact ⟨Nat.zero_le _, Nat.zero_le _, Nat.le_refl _, by show 1 ≤ 4096; omega⟩
  · rw [if_neg h0]
    exact densR_bound (M := 4096) (N := 16384) (fun j hj => ⟨geN_pos h0 (by omega), Nat.le_trans (geN_le _ _ _) hF.1, Nat.le_trans (geN_le _ _ _) hF.2.1⟩) (by omega)
theorem densest_v {w : World} {K : GB} {n : Nat} {E : Es} (hG : Gr w K n E) :
    Calls Try.prog 22 #[.pointer (some ⟨K.g, 0, none⟩)] w fun e w' => e = .returned (.tuple #[.int .i64 ((densV E n).1 : Nat), .agg #[.int .i64 ((densV E n).2.1 : Nat), .int .i64 ((densV E n).2.2 : Nat)]]) ∧ Below w.heap.size w w' := by
  have hF := hG.fine
  refine (densest_ok hG).mono ?_
  rintro e w' ⟨⟨h0, rfl⟩ | ⟨h0, G, hmx, rfl⟩, q⟩
  · subst h0
    rw [densV_zero]
    exact ⟨rfl, q⟩
  · obtain rfl := hmx.uniq (most_is E n)
    refine ⟨?_, q⟩
    have hmE : ∀ i, i < E.length → eMin E (num E n) i ≤ most E n := fun i hi => by
      have := (most_is E n).1 _ (fine_edge hF hi).1
      unfold eMin
      omega
    have eD : densD E n = densR (vUp (num E n) n (most E n)) (eUp E (num E n) (most E n)) (most E n + 1) := by
      unfold densD
      rw [if_neg (by omega)]
      exact densR_ext (fun j hj => ⟨(geN_suf (fun i hi => (most_is E n).1 i hi) j (by omega)).symm, (geN_suf hmE j (by omega)).symm⟩)
    rw [dens_densR, ← eD]
    obtain ⟨h1, h2, h3, h4⟩ := densD_bound E n hF
    obtain ⟨r1, r2⟩ := red_nat (n := (densD E n).2.1) (d := (densD E n).2.2) h3 (by omega) (by omega)
    simp only []
    rw [r1, r2]
    rfl
set_option maxRecDepth 100000 in
set_option maxHeartbeats 4000000 in
theorem rdensest_ok {w : World} {A : Option Addr} {c n : Nat} {E : Es} (ha : EA w A c E) (hF : Fine n E) :
    Calls Try.prog 30 #[.int .i64 (n : Int), .slice A E.length c] w fun e w' => e = .returned (.tuple #[.int .i64 ((densV E n).1 : Nat), .agg #[.int .i64 ((densV E n).2.1 : Nat), .int .i64 ((densV E n).2.2 : Nat)]]) ∧ Below w.heap.size w w' := by
  have hn := hF.1
  have hm := hF.2.1
  have HA := Lib.hid (fun (W : World) (q : Below w.heap.size w W) => ha.below q)
  have HL := Lib.hid (fun k => coreL_len E n k)
  have HI := Lib.hid (fun x => insN_core hF x E.length (Nat.le_refl _))
  have HMX := Lib.hid (show 0 < n → most E n ≤ 20000 from fun h0 => by
    obtain ⟨v, _, e⟩ := (most_is E n).2.1 h0
    rw [e]
    exact num_le20 E n v hF.2.1)
  have HCM := Lib.hid (show ∀ (k : Int) x, x ∈ coreL E n k → x < n from fun k x hx => (coreL_mem.1 hx).1)
  obtain ⟨M, hMe⟩ : ∃ M, most E n = M := ⟨_, rfl⟩
  have HME := Lib.hid hMe
  rw [hMe] at HMX
  obtain ⟨V, hV⟩ : ∃ V, (fun k => geN (num E n) n k) = V := ⟨_, rfl⟩
  obtain ⟨W, hW⟩ : ∃ V, (fun k => geN (eMin E (num E n)) E.length k) = V := ⟨_, rfl⟩
  have HV := Lib.hid (show ∀ k, geN (num E n) n k = V k ∧ V k ≤ n from fun k => by rw [← hV]; exact ⟨rfl, geN_le _ _ _⟩)
  have HW := Lib.hid (show ∀ k, geN (eMin E (num E n)) E.length k = W k ∧ W k ≤ E.length from fun k => by rw [← hW]; exact ⟨rfl, geN_le _ _ _⟩)
  have HVP := Lib.hid (show ∀ k, 0 < n → k ≤ M → 1 ≤ V k from fun k h0 hk => by rw [← hV]; exact geN_pos (by omega) (by omega))
  have HD := Lib.hid (show densD E n = if n = 0 then (0, 0, 1) else densR V W (M + 1) from by unfold densD; rw [hV, hW, hMe])
  have HB := Lib.hid (show ∀ k, 0 < n → k ≤ M + 1 → (densR V W k).1 ≤ k ∧ (densR V W k).2.1 ≤ E.length ∧ 1 ≤ (densR V W k).2.2 ∧ (densR V W k).2.2 ≤ 4096 from fun k h0 hk => densR_bound (M := 4096) (N := E.length) (fun j hj => ⟨HVP.out j h0 (by omega), Nat.le_trans (HV.out j).2 hn, (HW.out j).2⟩) (by omega))
  have HST := Lib.hid (show ∀ k, densR V W (k + 1) = if (densR V W k).2.1 * V k ≤ W k * (densR V W k).2.2 then (k, W k, V k) else densR V W k from fun k => rfl)
  have HF := Lib.hid (show ∀ k, densD E n = densR V W k → densV E n = ((densR V W k).1, (densR V W k).2.1 / Nat.gcd (densR V W k).2.1 (densR V W k).2.2, (densR V W k).2.2 / Nat.gcd (densR V W k).2.1 (densR V W k).2.2) from fun k h => by unfold densV; rw [h])
  obtain ⟨m, hm'⟩ : ∃ m, E.length = m := ⟨_, rfl⟩
  have b1 := below_new1 w (.cells #[.int .i64 0, .int .i64 0] 42)
  have kb := Blk.new w 42 #[.int .i64 0, .int .i64 0]
  clear ha hMe hV hW
  rcases Nat.eq_zero_or_pos n with h0 | h0
  · subst h0
    have hfin := densV_zero E
    rw [hfin]
    simp only []
    have x := rlowest_ok 0 1 (by omega) (by omega) (by omega) (w.alloc (.cells #[.int .i64 0, .int .i64 0] 42))
    have x : Calls Try.prog 49 #[.int .i64 0, .int .i64 1] (w.alloc (.cells #[.int .i64 0, .int .i64 0] 42)) fun e w' => e = .returned (.agg #[.int .i64 0, .int .i64 1]) ∧ Below (w.alloc (.cells #[.int .i64 0, .int .i64 0] 42)).heap.size (w.alloc (.cells #[.int .i64 0, .int .i64 0] 42)) w' := x
    clear hfin HF HST HB HD HVP HW HV HME HMX HI HL HCM HA hm' hm
    go_enter Try.func30, Try.ntmps30
    go_upto_region 1 with fail
    generalize w.alloc (.cells #[.int .i64 0, .int .i64 0] 42) = W1 at *
    obtain ⟨gB, hgB⟩ : ∃ x, w.heap.size = x := ⟨_, rfl⟩
    have hg0 : w.heap.size ≤ gB := by omega
    rw [hgB] at kb
    rw [hgB]
    clear hgB
    go_wp2_with fail
    go_loopw [6, 7, 8, 9, 10, 11] (fun v6 v7 v8 v9 _ _ wr => v6 = .int .i64 0 ∧ v7 = .int .i64 0 ∧ v8 = .int .i64 1 ∧ v9 = .int .i64 0 ∧ W1 = wr) (fun _ _ _ _ _ _ _ => 0)
    case atStart => exact ⟨rfl, rfl, rfl, rfl, rfl⟩
    case round =>
      obtain ⟨rfl, rfl, rfl, rfl, rfl⟩ := hrel
      go_wp2_with fail
      refine x.mono ?_
      rintro e w5 ⟨rfl, v1⟩
      have kb := kb.below v1 kb.lt
      have q := below_end b1 b1.size v1
      have c0 := kb.cell 0
      have c1 := kb.cell 1
      have c2 := kb.frozen 0
      have c3 := kb.frozen 1
      simp at c0 c1
      clear x v1
      go_wp2_with fail
      have k4 : Blk ((w5.setCell ⟨gB, 0, none⟩ (.int .i64 0)).setCell ⟨gB, 1, none⟩ (.int .i64 1)) gB 42 #[.int .i64 0, .int .i64 1] := by
        have := (kb.set_ 0 (.int .i64 0)).set_ 1 (.int .i64 1)
        simpa using this
      have q4 := (q.setCell (p := ⟨gB, 0, none⟩) hg0 (.int .i64 0)).setCell (p := ⟨gB, 1, none⟩) hg0 (.int .i64 1)
      clear c0 c1 c2 c3
      generalize (w5.setCell ⟨gB, 0, none⟩ (.int .i64 0)).setCell ⟨gB, 1, none⟩ (.int .i64 1) = W2 at *
      have c0 := k4.cell 0
      have c1 := k4.cell 1
      simp at c0 c1
      simp [bodyPost, results, Try.results30, go_sem, c0, c1]
      exact q4
  · have hn0 : (0 : Int) < (n : Int) := by omega
    have hn1 : n ≠ 0 := by omega
    have hM := HMX.out h0
    obtain ⟨dv, hdv⟩ : ∃ dv, densV E n = dv := ⟨_, rfl⟩
    have HDV := Lib.hid hdv
    rw [hdv]
    clear hdv hm'
    go_enter Try.func30, Try.ntmps30
    go_upto_region 1 with fail
    generalize w.alloc (.cells #[.int .i64 0, .int .i64 0] 42) = W1 at *
    obtain ⟨gB, hgB⟩ : ∃ x, w.heap.size = x := ⟨_, rfl⟩
    have hg0 : w.heap.size ≤ gB := by omega
    rw [hgB] at kb
    rw [hgB]
    clear hgB
    go_wp2_with fail
    go_loopw [6, 7, 8, 9, 10, 11] (fun v6 v7 v8 v9 _ _ wr => ∃ k : Nat, v6 = .int .i64 ((densR V W k).1 : Nat) ∧ v7 = .int .i64 ((densR V W k).2.1 : Nat) ∧ v8 = .int .i64 ((densR V W k).2.2 : Nat) ∧ v9 = .int .i64 k ∧ k ≤ M + 1 ∧ Blk wr gB 42 #[.int .i64 0, .int .i64 0] ∧ Below w.heap.size w wr) (fun _ _ _ v _ _ _ => 30000 - (intOf v).toNat)
    case atStart => exact ⟨0, rfl, rfl, rfl, rfl, Nat.zero_le _, kb, b1⟩
    case round =>
      clear kb b1
      obtain ⟨k, rfl, rfl, rfl, rfl, hk, kb, q⟩ := hrel
      have x := rdegeneracy_ok (HA.out _ q) hF
      rw [HME.out] at x
      obtain ⟨hb1, hb2, hb3, hb4⟩ := HB.out k h0 hk
      have HSK := Lib.hid (HST.out k)
      have HFK := Lib.hid (HF.out k)
      obtain ⟨⟨kk, bn, bd⟩, hdd⟩ : ∃ s, densR V W k = s := ⟨_, rfl⟩
      have HDD := Lib.hid hdd
      rw [hdd] at HSK HFK hb1 hb2 hb3 hb4 ⊢
      simp only [] at HSK HFK hb1 hb2 hb3 hb4 ⊢
      clear hdd
      by_cases hlt : k ≤ M
      · have hkM : (k : Int) ≤ (M : Int) := by omega
        go_wp2_with fail
        refine x.mono ?_
        rintro e w2 ⟨rfl, v1⟩
        have kb := kb.below v1 kb.lt
        have q := below_end q q.size v1
        clear x v1
        have x := rcore_ok (HA.out _ q) hF (k : Int)
        go_wp2_with fail
        refine x.mono ?_
        rintro e w3 ⟨va, rfl, ra, v1⟩
        have kb := kb.below v1 kb.lt
        have q := below_end q q.size v1
        obtain ⟨Aa, ca, rfl, hArg⟩ := ra.arg (fun x hx => by have := HCM.out _ x hx; omega)
        have x := rinside_ok (HA.out _ q) hF Aa ca _ (coreL E n (k : Int)) rfl hArg (by rw [HL.out k]; have := (HV.out k); omega)
        rw [HI.out k, (HW.out k).1, HL.out k, (HV.out k).1] at x
        rw [HL.out k, (HV.out k).1]
        have hvk := (HV.out k).2
        have hwk := (HW.out k).2
        obtain ⟨vk, hvk'⟩ : ∃ x, V k = x := ⟨_, rfl⟩
        obtain ⟨wk, hwk'⟩ : ∃ x, W k = x := ⟨_, rfl⟩
        rw [hvk'] at hvk x HSK ⊢
        rw [hwk'] at hwk x HSK
        clear v1 ra hArg hvk' hwk'
        obtain ⟨P, hP⟩ : ∃ P, wk * bd = P := ⟨_, rfl⟩
        obtain ⟨Q, hQ⟩ : ∃ P, bn * vk = P := ⟨_, rfl⟩
        have hPb : P ≤ 16384 * 4096 := by rw [← hP]; exact Nat.mul_le_mul (by omega) hb4
        have hQb : Q ≤ 16384 * 4096 := by rw [← hQ]; exact Nat.mul_le_mul (by omega) (by omega)
        have eP : (wk : Int) * (bd : Int) = (P : Int) := by rw [← hP, Int.natCast_mul]
        have eQ : (bn : Int) * (vk : Int) = (Q : Int) := by rw [← hQ, Int.natCast_mul]
        have wP : IntKind.i64.wrap ((wk : Int) * (bd : Int)) = (P : Int) := by rw [eP, IntKind.wrap_i64]; omega
        have wQ : IntKind.i64.wrap ((bn : Int) * (vk : Int)) = (Q : Int) := by rw [eQ, IntKind.wrap_i64]; omega
        rw [hP, hQ] at HSK
        clear hP hQ
        go_wp2_with fail
        refine x.mono ?_
        rintro e w' ⟨rfl, rfl⟩
        clear x
        by_cases hc : Q ≤ P
        · have hc2 : (Q : Int) ≤ (P : Int) := by omega
          rw [if_pos hc] at HSK
          go_wp2_with fail
          go_roundw
          case rel => exact ⟨k + 1, by rw [HSK.out], by rw [HSK.out], by rw [HSK.out], by simp, by omega, kb, q⟩
          case measure => simp [intOf]; omega
        · have hc2 : ¬ (Q : Int) ≤ (P : Int) := by omega
          rw [if_neg hc] at HSK
          go_wp2_with fail
          go_roundw
          case rel => exact ⟨k + 1, by rw [HSK.out], by rw [HSK.out], by rw [HSK.out], by simp, by omega, kb, q⟩
          case measure => simp [intOf]; omega
      · have hkM : ¬ (k : Int) ≤ (M : Int) := by omega
        have hfin := HFK.out (by rw [HD.out, if_neg hn1, ← HDD.out, show k = M + 1 by omega])
        rw [HDV.out] at hfin
        have x2 := rlowest_ok bn bd hb3 (by omega) (by omega)
        obtain ⟨rn, hrn⟩ : ∃ x, bn / Nat.gcd bn bd = x := ⟨_, rfl⟩
        obtain ⟨rd, hrd⟩ : ∃ x, bd / Nat.gcd bn bd = x := ⟨_, rfl⟩
        rw [hrn, hrd] at hfin x2
        subst hfin
        clear hrn hrd HSK
        go_wp2_with fail
        refine x.mono ?_
        rintro e w2 ⟨rfl, v1⟩
        have kb := kb.below v1 kb.lt
        have q := below_end q q.size v1
        clear x v1
        have x := x2 w2
        go_wp2_with fail
        refine x.mono ?_
        rintro e w5 ⟨rfl, v1⟩
        have kb := kb.below v1 kb.lt
        have q := below_end q q.size v1
        have c0 := kb.cell 0
        have c1 := kb.cell 1
        have c2 := kb.frozen 0
        have c3 := kb.frozen 1
        simp at c0 c1
        clear x v1 x2
        go_wp2_with fail
        have k4 : Blk ((w5.setCell ⟨gB, 0, none⟩ (.int .i64 (rn : Int))).setCell ⟨gB, 1, none⟩ (.int .i64 (rd : Int))) gB 42 #[.int .i64 (rn : Int), .int .i64 (rd : Int)] := by
          have := (kb.set_ 0 (.int .i64 (rn : Int))).set_ 1 (.int .i64 (rd : Int))
          simpa using this
        have q4 := (q.setCell (p := ⟨gB, 0, none⟩) hg0 (.int .i64 (rn : Int))).setCell (p := ⟨gB, 1, none⟩) hg0 (.int .i64 (rd : Int))
        clear c0 c1 c2 c3
        generalize (w5.setCell ⟨gB, 0, none⟩ (.int .i64 (rn : Int))).setCell ⟨gB, 1, none⟩ (.int .i64 (rd : Int)) = W2 at *
        have c0 := k4.cell 0
        have c1 := k4.cell 1
        simp at c0 c1
        simp [bodyPost, results, Try.results30, go_sem, c0, c1]
        exact q4
end Go.Proofs.Ytoiafopndlnknaa
