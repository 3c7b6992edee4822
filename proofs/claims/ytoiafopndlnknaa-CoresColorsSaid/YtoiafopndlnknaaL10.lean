/-
  CoresColors.
-/
import Derived.Test.YtoiafopndlnknaaU1
set_option linter.unusedVariables false
set_option linter.unusedSimpArgs false
namespace Go.Proofs.Ytoiafopndlnknaa
open Go.RowKit Go.Shelf

def colN (E : Es) (n v : Nat) : Nat := (col E n v).toNat
def idx (E : Es) (n v : Nat) : Nat := (ord E n).idxOf v
/-- an edge shows a color -/
def cnd (E : Es) (n v c k : Nat) : Bool := (hits (edge E k) v && (colN E n (other (edge E k) v) == c)) && decide (idx E n v < idx E n (other (edge E k) v))
def fnd (E : Es) (n v c : Nat) : Nat → Bool
  | 0 => false
  | k + 1 => fnd E n v c k || cnd E n v c k
theorem fnd_true {E : Es} {n v c i : Nat} (h : cnd E n v c i = true) : ∀ k, i < k → fnd E n v c k = true
  | 0, hk => absurd hk (Nat.not_lt_zero _)
  | k + 1, hk => by
    unfold fnd
    by_cases e : i = k
    · subst e; rw [h, Bool.or_true]
    · rw [fnd_true h k (by omega), Bool.true_or]
theorem col_nat {E : Es} {n : Nat} (hF : Fine n E) {v : Nat} (hv : v < n) : col E n v = (colN E n v : Nat) ∧ colN E n v ≤ most E n ∧ ∀ c, c < colN E n v → fnd E n v c E.length = true := by
  obtain ⟨c, h1, h2, h3⟩ := col_greedy hF hv
  have e : colN E n v = c := by unfold colN; rw [h1]; rfl
  rw [e]
  refine ⟨h1, h2, fun x hx => ?_⟩
  obtain ⟨i, hi, hh, hc, hl⟩ := h3 x hx
  refine fnd_true (i := i) ?_ _ hi
  unfold cnd
  have e2 : colN E n (other (edge E i) v) = x := by unfold colN; rw [hc]; rfl
  rw [hh, e2]
  simp
  exact hl
theorem idx_at (E : Es) {n i : Nat} (hi : i < n) : idx E n ((ord E n).getD i 0) = i := by
  have hl := ord_len E n
  unfold idx
  rw [List.getD_eq_getElem?_getD, List.getElem?_eq_getElem (by omega)]
  exact (ord_nodup E n).idxOf_getElem i (by omega)
theorem idx_lt (E : Es) {n u : Nat} (hu : u < n) : idx E n u < n := by
  obtain ⟨i, hi, e⟩ := place_of E n hu
  rw [← e, idx_at E hi]
  exact hi
theorem idx_back (E : Es) {n u : Nat} (hu : u < n) : (ord E n).getD (idx E n u) 0 = u := by
  obtain ⟨i, hi, e⟩ := place_of E n hu
  rw [← e, idx_at E hi]
theorem ord_at_lt (E : Es) {n i : Nat} (hi : i < n) : (ord E n).getD i 0 < n := by
  have hl := ord_len E n
  refine ord_lt (E := E) ?_
  rw [List.getD_eq_getElem?_getD, List.getElem?_eq_getElem (by omega)]
  exact List.getElem_mem _
/-- the places so far -/
def plc (E : Es) (n i u : Nat) : Int := if idx E n u < i then (idx E n u : Nat) else 0
theorem plc_step (E : Es) {n i u : Nat} (hi : i < n) (hu : u < n) : (if u = (ord E n).getD i 0 then (i : Int) else plc E n i u) = plc E n (i + 1) u := by
  unfold plc
  by_cases e : u = (ord E n).getD i 0
  · rw [if_pos e, e, idx_at E hi, if_pos (by omega)]
  · rw [if_neg e]
    have : idx E n u ≠ i := fun h => e (by rw [← h, idx_back E hu])
    by_cases g : idx E n u < i
    · rw [if_pos g, if_pos (by omega)]
    · rw [if_neg g, if_neg (by omega)]
set_option maxRecDepth 100000 in
set_option maxHeartbeats 8000000 in
theorem colors_walk (N : Int) (n c : Nat) (A : Option Addr) (z : Nat → Nat → Int) (w : World) (hN : (Lit.int .u8 N).wf = true) (ha : ArgS [.u8, .u8] w A n c z) :
    Calls Try.prog 10 #[.int .u8 N, .slice A n c] w fun e w' => e = .returned (.bool true) ∧ Below w.heap.size w w' := by
  have x := drawn_ok N n c A z w hN ha
  clear ha hN
  go_enter Try.func10, Try.ntmps10
  go_wp2_with fail
  refine x.mono ?_
  rintro e w1 ⟨m, v, E, rfl, hm, hEl, hF, hE, q⟩
  clear x
  obtain ⟨A2, c2, rfl, hEA, _⟩ := hE.ea hF
  clear hE
  have x := new_ea hEA hF
  go_wp2_with fail
  refine x.mono ?_
  rintro e w2 ⟨K, rfl, hG, v1⟩
  have hEA := hEA.below v1
  have q := below_end q q.size v1
  clear x v1
  have x := colors_ok hG
  go_wp2_with fail
  refine x.mono ?_
  rintro e w3 ⟨gc, rfl, _, rc, v1⟩
  have rc := rc.congr (f' := fun u => (colN E m u : Nat)) (fun i hi => (col_nat hF hi).1)
  have hEA := hEA.below v1
  have hG := hG.below v1
  have q := below_end q q.size v1
  clear x v1
  have x := order_ok hG
  go_wp2_with fail
  refine x.mono ?_
  rintro e w4 ⟨vo, rfl, ro, v1⟩
  have hEA := hEA.below v1
  have hG := hG.below v1
  have rc := rc.below' v1
  have q := below_end q q.size v1
  obtain ⟨Ao, co, rfl, go, hgo⟩ := ro.rowF (ord_len E m)
  clear x v1 ro
  have HGO := Lib.hid (show 0 < m → Ao = some ⟨go, 0, none⟩ ∧ go < w4.heap.size ∧ m ≤ co from fun h => by
    obtain ⟨a, b, d, e⟩ := hgo h
    exact ⟨a, e.lt, d⟩)
  have HO := Lib.hid (fun (W : World) (q : Below w4.heap.size w4 W) (h : 0 < m) i (hi : i < m) => ((hgo h).2.2.2.below' q).cell hi)
  have HEA := Lib.hid (fun (W : World) (q : Below w4.heap.size w4 W) => hEA.below q)
  have HGR := Lib.hid (fun (W : World) (q : Below w4.heap.size w4 W) => hG.below q)
  have HRC := Lib.hid (fun (W : World) (q : Below w4.heap.size w4 W) => rc.below' q)
  have hgc := rc.lt
  have HF := Lib.hid hF
  have HFE := Lib.hid (fun i (hi : i < E.length) => fine_edge hF hi)
  have HQ := Lib.hid q
  have HM20 := Lib.hid (show most E m ≤ 20000 from by
    rcases Nat.eq_zero_or_pos m with h0 | h0
    · rw [(most_is E m).2.2 h0]; omega
    · obtain ⟨v, _, e⟩ := (most_is E m).2.1 h0
      rw [e]
      exact num_le20 E m v hF.2.1)
  have HOL := Lib.hid (fun i (hi : i < m) => ord_at_lt E hi)
  have mk1 := run_make31 m (by omega)
  have bA := below_new1 w4 (.cells (zerosK .i64 m) 3)
  have rp := RowF.new .i64 w4 3 m
  clear hgo hEA hG rc q hF
  go_upto_region 9 with fail
  clear mk1
  generalize w4.alloc (.cells (zerosK .i64 m) 3) = W4 at *
  obtain ⟨gp, hgp⟩ : ∃ x, w4.heap.size = x := ⟨_, rfl⟩
  have hgp0 : w4.heap.size ≤ gp := by omega
  rw [hgp] at rp
  rw [hgp]
  clear hgp
  have rp := rp.congr (f' := plc E m 0) (fun u hu => by unfold plc; rw [if_neg (by omega)])
  go_wp2_with fail
  go_loopw [12] (fun v wr => ∃ i : Nat, v = .int .i64 i ∧ i ≤ m ∧ RowF .i64 wr gp 3 m (plc E m i) ∧ Below w4.heap.size w4 wr) (fun v _ => 20000 - (intOf v).toNat)
  case atStart => exact ⟨0, rfl, Nat.zero_le _, rp, bA⟩
  case round =>
    clear rp bA
    obtain ⟨i, rfl, hi, r, q⟩ := hrel
    by_cases hlt : i < m
    · have him : (i : Int) < (m : Int) := by omega
      obtain ⟨rfl, hgo1, hgo2⟩ := HGO.out (by omega)
      have c0 := HO.out _ q (by omega) i hlt
      have hxm := HOL.out i hlt
      have HST := Lib.hid (fun u (hu : u < m) => plc_step E hlt hu)
      obtain ⟨x, hx⟩ : ∃ x, (ord E m).getD i 0 = x := ⟨_, rfl⟩
      rw [hx] at c0 hxm HST
      have hx0 : ¬ (x : Int) < 0 := by omega
      have hx1 : (x : Int) < (m : Int) := by omega
      have hx2 : ¬ (m : Int) ≤ (x : Int) := by omega
      have c1 := r.frozen x
      have c2 := r.cell hxm
      have r2 := r.set_ x (i : Int)
      have q2 := q.setCell (p := ⟨gp, x, none⟩) hgp0 (.int .i64 (i : Int))
      clear hx r q
      go_wp2_with fail
      go_roundw
      case rel => exact ⟨i + 1, by simp, by omega, r2.congr (fun u hu => HST.out u hu), q2⟩
      case measure => simp [intOf]; omega
    · have eim : m = i := by omega
      subst eim
      have him : ¬ (m : Int) < (m : Int) := by omega
      have rp := r.congr (f' := fun u => (idx E m u : Nat)) (fun u hu => by unfold plc; rw [if_pos (idx_lt E hu)])
      have hgp3 := rp.lt
      have rc := HRC.out _ q
      have HPR := Lib.hid (fun i (hi : i < E.length) => col_proper HF.out hi)
      have HCN := Lib.hid (fun u (hu : u < m) => col_nat HF.out hu)
      clear r
      go_wp2_with fail
      go_loopw [13] (fun v wr2 => ∃ i : Nat, v = .int .i64 i ∧ i ≤ E.length ∧ ∃ j, wr2 = wr.drewN j) (fun v _ => 20000 - (intOf v).toNat)
      case atStart => exact ⟨0, rfl, Nat.zero_le _, 0, rfl⟩
      case round =>
        obtain ⟨i, rfl, hi, j, rfl⟩ := hrel
        by_cases hlt : i < E.length
        · have him2 : (i : Int) < (E.length : Int) := by omega
          obtain ⟨ge, oe, rfl, hge, c0, c1⟩ := (HEA.out _ q).edge hlt
          obtain ⟨h1, h2, h3⟩ := HFE.out i hlt
          have hpr := HPR.out i hlt
          rw [(HCN.out _ h1).1, (HCN.out _ h2).1] at hpr
          have hcl := (HEA.out _ q).len
          obtain ⟨⟨a, b⟩, hab⟩ : ∃ e, edge E i = e := ⟨_, rfl⟩
          rw [hab] at c0 c1 h1 h2 hpr
          simp only [] at c0 c1 h1 h2 hpr
          have d0 := rc.cell h1
          have d1 := rc.cell h2
          obtain ⟨ca, hca⟩ : ∃ x, colN E m a = x := ⟨_, rfl⟩
          obtain ⟨cb, hcb⟩ : ∃ x, colN E m b = x := ⟨_, rfl⟩
          rw [hca] at d0 hpr
          rw [hcb] at d1 hpr
          have ham : (a : Int) < (m : Int) := by omega
          have hbm : (b : Int) < (m : Int) := by omega
          have g1 : ((ca : Int) == (cb : Int)) = false := by simp; omega
          have g1' : ¬ ca = cb := by omega
          clear hab hca hcb rc rp hpr
          go_upto_region 18 with fail
          go_quiet (fail)
          go_wp2_with fail
          go_roundw
          case rel => exact ⟨i + 1, by simp, by omega, j + nq, by first | rfl | simp⟩
          case measure => simp [intOf]; omega
        · have eim : E.length = i := by omega
          have him2 : ¬ (i : Int) < (E.length : Int) := by omega
          have HRP := Lib.hid (fun (W : World) (qq : Below wr.heap.size wr W) => rp.below' qq)
          have q5 := below_drewN (Below.refl wr.heap.size wr) j
          clear rc rp
          generalize wr = Wb at *
          go_wp2_with fail
          go_loopw [14, 15, 16, 17, 18, 19] (fun v14 _ _ _ _ _ wr3 => ∃ v : Nat, v14 = .int .i64 v ∧ v ≤ m ∧ Below Wb.heap.size Wb wr3) (fun v _ _ _ _ _ _ => 20000 - (intOf v).toNat)
          case atStart => exact ⟨0, rfl, Nat.zero_le _, q5⟩
          case round =>
            clear q5
            obtain ⟨v, rfl, hv, qq⟩ := hrel
            by_cases hlt2 : v < m
            · have hvm : (v : Int) < (m : Int) := by omega
              have q3 := below_end q q.size qq
              have hcell := (HRC.out _ q3).cell hlt2
              obtain ⟨hcn1, hcn2, hcn3⟩ := HCN.out v hlt2
              have x := degeneracy_ok ((HGR.out _ q3).below (bdrew (Below.refl wr.heap.size wr)))
              obtain ⟨M, hM⟩ : ∃ M, most E m = M := ⟨_, rfl⟩
              obtain ⟨cv, hcv⟩ : ∃ M, colN E m v = M := ⟨_, rfl⟩
              have hM20 := HM20.out
              rw [hM] at hcn2 x hM20
              rw [hcv] at hcn2 hcn3 hcell
              have HFN := Lib.hid hcn3
              have HCV := Lib.hid hcv
              have g1 : decide ((cv : Int) < 0) = false := decide_eq_false (by omega)
              have g2 : decide ((M : Int) < (cv : Int)) = false := decide_eq_false (by omega)
              have hgc3 : gc < wr.drew.heap.size := Nat.lt_of_lt_of_le hgc q3.size
              clear hM hcv hcn1 hcn3
              go_upto_region 23 with fail
              have e0 : wr.drew.cell? ⟨gc, v, none⟩ = some (.int .i64 (cv : Int)) := hcell
              go_region_held3 (fun w' => w'.cell? ⟨gc, v, none⟩ = some (.int .i64 (cv : Int))) (go_keep) (first | (go_at_call 17; refine x.mono ?_; rintro e w9 ⟨rfl, v9⟩; have m0 := (v9.cell (p := ⟨gc, v, none⟩) hgc3).trans e0))
              all_goals
                have q9 := below_end (bdrew qq) (bdrew qq).size v9
                have q10 := below_end q q.size q9
                have rc := HRC.out _ q10
                have rp := HRP.out _ q9
                clear m0 e0
                go_wp2_with fail
                go_loopw [15, 16, 17, 18, 19] (fun v15 _ _ _ _ wr3 => ∃ c : Nat, v15 = .int .i64 c ∧ c ≤ cv ∧ ∃ j, wr3 = w9.drewN j) (fun v _ _ _ _ _ => 20000 - (intOf v).toNat)
                case atStart => exact ⟨0, rfl, Nat.zero_le _, 0, rfl⟩
                case round =>
                  obtain ⟨c, rfl, hc, j, rfl⟩ := hrel
                  have d0 := rc.cell hlt2
                  rw [HCV.out] at d0
                  by_cases hlt3 : c < cv
                  · have hccv : (c : Int) < (cv : Int) := by omega
                    go_wp2_with fail
                    clear d0
                    go_loopw [16, 17, 18, 19] (fun v16 v17 _ _ wr3 => ∃ i : Nat, v17 = .int .i64 i ∧ i ≤ E.length ∧ v16 = .bool (fnd E m v c i) ∧ ∃ j, wr3 = w9.drewN j) (fun _ v _ _ _ => 20000 - (intOf v).toNat)
                    case atStart => exact ⟨0, rfl, Nat.zero_le _, rfl, j, rfl⟩
                    case round =>
                      clear j
                      obtain ⟨i, rfl, hi, rfl, j, rfl⟩ := hrel
                      by_cases hlt4 : i < E.length
                      · have hiE : (i : Int) < (E.length : Int) := by omega
                        obtain ⟨ge, oe, rfl, hge, c0, c1⟩ := (HEA.out _ q10).edge hlt4
                        obtain ⟨h1, h2, h3⟩ := HFE.out i hlt4
                        have hcl := (HEA.out _ q10).len
                        have hfs : fnd E m v c (i + 1) = (fnd E m v c i || cnd E m v c i) := rfl
                        have hcd : cnd E m v c i = ((hits (edge E i) v && (colN E m (other (edge E i) v) == c)) && decide (idx E m v < idx E m (other (edge E i) v))) := rfl
                        obtain ⟨⟨a, b⟩, hab⟩ : ∃ e, edge E i = e := ⟨_, rfl⟩
                        rw [hab] at c0 c1 h1 h2 h3 hcd
                        simp only [] at c0 c1 h1 h2 h3
                        obtain ⟨fb, hfb⟩ : ∃ x, fnd E m v c i = x := ⟨_, rfl⟩
                        rw [hfb] at hfs
                        rw [hfb]
                        clear hab hfb
                        go_upto_region 32 with fail
                        go_quiet (fail)
                        clear c0 c1
                        by_cases hbv : b = v
                        · subst hbv
                          have gb : ((b : Int) == (b : Int)) = true := by simp
                          have hh : hits (a, b) b = true := by simp [hits]
                          have ho : other (a, b) b = a := by unfold other; rw [if_pos rfl]
                          rw [hh, ho, Bool.true_and] at hcd
                          have d0 := rc.cell h1
                          have d1 := rp.cell h1
                          have d2 := rp.cell hlt2
                          obtain ⟨cc, hcc⟩ : ∃ x, colN E m a = x := ⟨_, rfl⟩
                          obtain ⟨po, hpo⟩ : ∃ x, idx E m a = x := ⟨_, rfl⟩
                          obtain ⟨pv, hpv⟩ : ∃ x, idx E m b = x := ⟨_, rfl⟩
                          rw [hcc] at hcd d0
                          rw [hpo] at hcd d1
                          rw [hpv] at hcd d2
                          have hom : (a : Int) < (m : Int) := by omega
                          clear hh ho hcc hpo hpv
                          have ga : ((b : Int) == (b : Int)) = true := by simp
                          cases fb
                          · by_cases hc2 : cc = c
                            · subst hc2
                              have gc2 : ((cc : Int) == (cc : Int)) = true := by simp
                              by_cases hp2 : pv < po
                              · have gp2 : decide ((pv : Int) < (po : Int)) = true := decide_eq_true (by omega)
                                rw [decide_eq_true hp2, beq_self_eq_true, Bool.and_self] at hcd
                                rw [hcd, Bool.or_true] at hfs
                                clear hcd rc rp
                                have HFS := Lib.hid hfs
                                clear hfs
                                go_upto_region 35 with fail
                                go_quiet (fail)
                                go_wp2_with fail
                                go_roundw
                                case rel => exact ⟨i + 1, by simp, by omega, by rw [HFS.out], _, by first | rfl | simp⟩
                                case measure => simp [intOf]; omega
                              · have gp2 : decide ((pv : Int) < (po : Int)) = false := decide_eq_false (by omega)
                                rw [decide_eq_false hp2, Bool.and_false] at hcd
                                rw [hcd, Bool.or_false] at hfs
                                clear hcd rc rp
                                have HFS := Lib.hid hfs
                                clear hfs
                                go_upto_region 35 with fail
                                go_quiet (fail)
                                go_wp2_with fail
                                go_roundw
                                case rel => exact ⟨i + 1, by simp, by omega, by rw [HFS.out], _, by first | rfl | simp⟩
                                case measure => simp [intOf]; omega
                            · have gc2 : ((cc : Int) == (c : Int)) = false := by simp; omega
                              have gc2' : ¬ (cc : Int) = (c : Int) := by omega
                              have gc3 : (cc == c) = false := by simp; exact hc2
                              rw [gc3, Bool.false_and] at hcd
                              rw [hcd, Bool.or_false] at hfs
                              clear hcd gc3 rc rp
                              have HFS := Lib.hid hfs
                              clear hfs
                              go_upto_region 35 with fail
                              go_quiet (fail)
                              go_wp2_with fail
                              go_roundw
                              case rel => exact ⟨i + 1, by simp, by omega, by rw [HFS.out], _, by first | rfl | simp⟩
                              case measure => simp [intOf]; omega
                          · rw [Bool.true_or] at hfs
                            clear hcd rc rp
                            have HFS := Lib.hid hfs
                            clear hfs
                            go_upto_region 35 with fail
                            go_quiet (fail)
                            go_wp2_with fail
                            go_roundw
                            case rel => exact ⟨i + 1, by simp, by omega, by rw [HFS.out], _, by first | rfl | simp⟩
                            case measure => simp [intOf]; omega
                        · have gb : ((b : Int) == (v : Int)) = false := by simp; omega
                          have gb' : ¬ (b : Int) = (v : Int) := by omega
                          by_cases hav : a = v
                          · subst hav
                            have hh : hits (a, b) a = true := by simp [hits]
                            have ho : other (a, b) a = b := by unfold other; rw [if_neg hbv]
                            rw [hh, ho, Bool.true_and] at hcd
                            have d0 := rc.cell h2
                            have d1 := rp.cell h2
                            have d2 := rp.cell hlt2
                            obtain ⟨cc, hcc⟩ : ∃ x, colN E m b = x := ⟨_, rfl⟩
                            obtain ⟨po, hpo⟩ : ∃ x, idx E m b = x := ⟨_, rfl⟩
                            obtain ⟨pv, hpv⟩ : ∃ x, idx E m a = x := ⟨_, rfl⟩
                            rw [hcc] at hcd d0
                            rw [hpo] at hcd d1
                            rw [hpv] at hcd d2
                            have hom : (b : Int) < (m : Int) := by omega
                            clear hh ho hcc hpo hpv
                            have ga : ((a : Int) == (a : Int)) = true := by simp
                            cases fb
                            · by_cases hc2 : cc = c
                              · subst hc2
                                have gc2 : ((cc : Int) == (cc : Int)) = true := by simp
                                by_cases hp2 : pv < po
                                · have gp2 : decide ((pv : Int) < (po : Int)) = true := decide_eq_true (by omega)
                                  rw [decide_eq_true hp2, beq_self_eq_true, Bool.and_self] at hcd
                                  rw [hcd, Bool.or_true] at hfs
                                  clear hcd rc rp
                                  have HFS := Lib.hid hfs
                                  clear hfs
                                  go_upto_region 35 with fail
                                  go_quiet (fail)
                                  go_wp2_with fail
                                  go_roundw
                                  case rel => exact ⟨i + 1, by simp, by omega, by rw [HFS.out], _, by first | rfl | simp⟩
                                  case measure => simp [intOf]; omega
                                · have gp2 : decide ((pv : Int) < (po : Int)) = false := decide_eq_false (by omega)
                                  rw [decide_eq_false hp2, Bool.and_false] at hcd
                                  rw [hcd, Bool.or_false] at hfs
                                  clear hcd rc rp
                                  have HFS := Lib.hid hfs
                                  clear hfs
                                  go_upto_region 35 with fail
                                  go_quiet (fail)
                                  go_wp2_with fail
                                  go_roundw
                                  case rel => exact ⟨i + 1, by simp, by omega, by rw [HFS.out], _, by first | rfl | simp⟩
                                  case measure => simp [intOf]; omega
                              · have gc2 : ((cc : Int) == (c : Int)) = false := by simp; omega
                                have gc2' : ¬ (cc : Int) = (c : Int) := by omega
                                have gc3 : (cc == c) = false := by simp; exact hc2
                                rw [gc3, Bool.false_and] at hcd
                                rw [hcd, Bool.or_false] at hfs
                                clear hcd gc3 rc rp
                                have HFS := Lib.hid hfs
                                clear hfs
                                go_upto_region 35 with fail
                                go_quiet (fail)
                                go_wp2_with fail
                                go_roundw
                                case rel => exact ⟨i + 1, by simp, by omega, by rw [HFS.out], _, by first | rfl | simp⟩
                                case measure => simp [intOf]; omega
                            · rw [Bool.true_or] at hfs
                              clear hcd rc rp
                              have HFS := Lib.hid hfs
                              clear hfs
                              go_upto_region 35 with fail
                              go_quiet (fail)
                              go_wp2_with fail
                              go_roundw
                              case rel => exact ⟨i + 1, by simp, by omega, by rw [HFS.out], _, by first | rfl | simp⟩
                              case measure => simp [intOf]; omega
                          · have hh : hits (a, b) v = false := by simp [hits, hav, hbv]
                            rw [hh, Bool.false_and, Bool.false_and] at hcd
                            rw [hcd, Bool.or_false] at hfs
                            have ga : ((a : Int) == (v : Int)) = false := by simp; omega
                            have ga' : ¬ (a : Int) = (v : Int) := by omega
                            clear hh hcd rc rp
                            cases fb
                            · have HFS := Lib.hid hfs
                              clear hfs
                              go_upto_region 35 with fail
                              go_quiet (fail)
                              go_wp2_with fail
                              go_roundw
                              case rel => exact ⟨i + 1, by simp, by omega, by rw [HFS.out], _, by first | rfl | simp⟩
                              case measure => simp [intOf]; omega
                            · have HFS := Lib.hid hfs
                              clear hfs
                              go_upto_region 35 with fail
                              go_quiet (fail)
                              go_wp2_with fail
                              go_roundw
                              case rel => exact ⟨i + 1, by simp, by omega, by rw [HFS.out], _, by first | rfl | simp⟩
                              case measure => simp [intOf]; omega
                      · have eiE : E.length = i := by omega
                        have hiE : ¬ (i : Int) < (E.length : Int) := by omega
                        have hft : fnd E m v c i = true := by rw [← eiE]; exact HFN.out c hlt3
                        rw [hft]
                        clear eiE hft rc rp
                        go_wp2_with fail
                        go_roundw
                        case rel => exact ⟨c + 1, by simp, by omega, _, by first | rfl | simp⟩
                        case measure => simp [intOf]; omega
                  · have ecv : cv = c := by omega
                    have hccv : ¬ (c : Int) < (cv : Int) := by omega
                    have q11 := below_drewN q9 j
                    clear ecv rc rp
                    go_wp2_with fail
                    go_roundw
                    case rel => exact ⟨v + 1, by simp, by omega, q11⟩
                    case measure => simp [intOf]; omega
            · have evm : m = v := by omega
              subst evm
              have hvm : ¬ (m : Int) < (m : Int) := by omega
              have q3 := below_end q q.size qq
              have q3 := below_end HQ.out HQ.out.size q3
              have x := works_ok wr
              go_wp2_with fail
              refine x.mono ?_
              rintro e w10 ⟨rfl, v1⟩
              have q := below_end q3 q3.size v1
              clear x v1
              go_wp2_with fail
              go_ret
              exact ⟨rfl, q⟩
end Go.Proofs.Ytoiafopndlnknaa
