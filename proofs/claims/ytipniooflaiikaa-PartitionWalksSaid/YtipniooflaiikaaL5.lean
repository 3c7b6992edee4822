/-
  PartitionWalks, walked.
-/
import Derived.Test.YtipniooflaiikaaB3
import Derived.Test.YtipniooflaiikaaA9
set_option linter.unusedVariables false
set_option linter.unusedSimpArgs false
namespace Go.Proofs.Ytipniooflaiikaa
open Go.RowKit Go.Shelf

theorem bell_le (q : Nat) : bell q ≤ 877 := by
  unfold bell; split <;> omega
set_option maxRecDepth 100000 in
set_option maxHeartbeats 4000000 in
theorem walks_walk (w : World) : Calls Try.prog 5 #[] w fun e w' => e = .returned (.bool true) ∧ Below w.heap.size w w' := by
  obtain ⟨cs, hcs⟩ : ∃ cs : Array Value, cs = #[.int .i64 1, .int .i64 2, .int .i64 5, .int .i64 15, .int .i64 52, .int .i64 203, .int .i64 877] := ⟨_, rfl⟩
  have HCS := Lib.hid (show ∀ q, q < 7 → cs[q]? = some (.int .i64 (bell q)) from fun q hq => by
    have h : q = 0 ∨ q = 1 ∨ q = 2 ∨ q = 3 ∨ q = 4 ∨ q = 5 ∨ q = 6 := by omega
    rw [hcs]
    rcases h with rfl | rfl | rfl | rfl | rfl | rfl | rfl <;> rfl)
  have b0 := below_new1 w (.cells cs 3)
  have k0 := Blk.new w 3 cs
  go_enter Try.func5, Try.ntmps5
  go_upto_region 2 with fail
  rw [← hcs]
  clear hcs
  generalize hg : w.heap.size = g at *
  generalize w.alloc (.cells cs 3) = W at *
  have hgle : g ≤ w.heap.size := by omega
  go_wp2_with fail
  go_loopw [2, 3, 4, 5, 6, 7] (fun vi _ _ _ _ _ wr => ∃ n : Nat, vi = .int .i64 n ∧ 1 ≤ n ∧ n ≤ 8 ∧ Blk wr g 3 cs ∧ Below g w wr ∧ g < wr.heap.size) (fun vi _ _ _ _ _ _ => 8 - (intOf vi).toNat)
  case atStart => exact ⟨1, rfl, by omega, by omega, k0, b0, k0.lt⟩
  case round =>
    clear k0 b0
    obtain ⟨n, rfl, h1, h8, k0, q, hgw⟩ := hrel
    by_cases hlt : n < 8
    · have hin : (n : Int) ≤ 7 := by omega
      have hmk := run_make22 n (by omega) wr
      obtain ⟨p, hp⟩ : ∃ p, n = p + 1 := ⟨n - 1, by omega⟩
      have hnp : (n : Int) - 1 = (p : Int) := by omega
      have hp7 : (p : Int) < 7 := by omega
      have r0 := RowF.new .i64 wr 3 n
      have k1 := k0.alloc (.cells (zerosK .i64 n) 3)
      have q1 := q.alloc (by omega) (.cells (zerosK .i64 n) 3)
      have hq1 := q1.size
      have hgw1 := k1.lt
      obtain ⟨f, l, hrun, hl⟩ := run_all (q := p) (by omega)
      rw [← hp] at hrun
      have r1 : RowN (wr.alloc (.cells (zerosK .i64 n) 3)) wr.heap.size n (at0 l) := r0.congr fun i _ => by rw [hl i]; rfl
      obtain ⟨V, hV⟩ : ∃ V, bell p = V := ⟨_, rfl⟩
      have hV8 : V ≤ 877 := by rw [← hV]; exact bell_le p
      have HV := Lib.hid (show cs[p]? = some (.int .i64 V) by rw [← hV]; exact HCS.out p (by omega))
      rw [hV] at hrun
      have HR := Lib.hid hrun
      clear r0 hrun hl k0 q hV hp
      go_upto_region 6 with fail
      generalize wr.alloc (.cells (zerosK .i64 n) 3) = W1 at *
      generalize wr.heap.size = s0 at *
      clear hmk
      go_wp2_with fail
      go_loopw [3, 4, 5, 6, 7] (fun v3 v4 v5 _ _ w1 => ∃ (seen s : Nat) (ok : Bool), v3 = .slice (some ⟨s, 0, none⟩) n n ∧ v4 = .int .i64 seen ∧ v5 = .bool ok ∧ (ok = true → ∃ f l, Hid (run n V f l seen = true) ∧ RowN w1 s n (at0 l)) ∧ (ok = false → seen = V) ∧ Blk w1 g 3 cs ∧ Below g w w1 ∧ g < w1.heap.size) (fun _ v4 _ _ _ _ => 878 - (intOf v4).toNat)
      case atStart => exact ⟨0, s0, true, rfl, rfl, rfl, fun _ => ⟨f, l, HR, r1⟩, (fun h => by cases h), k1, q1, hgw1⟩
      case round =>
        clear r1 k1 q1 hq1 hgw1
        obtain ⟨seen, s, ok, rfl, rfl, rfl, hok, hend, k1, q1, hgw1⟩ := hrel
        have cw := (k1.cell p).trans HV.out
        cases ok with
        | true =>
          obtain ⟨f, l, HR, hrow⟩ := hok rfl
          have hle := run_le HR.out
          have hle1 : (seen : Int) ≤ (V : Int) := by omega
          have hcan := run_can HR.out
          have harg : ArgI .i64 wr (some ⟨s, 0, none⟩) n n (fun i => (at0 l i : Int)) := RowF.arg hrow (by omega) (fun i hi => by
            have k : at0 l i ≤ i := (hcan i hi).1
            exact fits_wf ⟨by omega, by omega⟩)
          have x0 := check_ok n n _ _ wr harg
          have x1 := next_ok n n _ _ wr harg (by omega)
          have HC := Lib.hid hcan
          clear hok hend hcan
          go_wp2_with fail
          refine x0.mono ?_
          rintro e w2 ⟨⟨rfl, _⟩ | ⟨rfl, hno⟩, rfl⟩
          case inr => exact (hno (CanZ.of HC.out)).elim
          clear x0
          go_wp2_with fail
          refine x1.mono ?_
          rintro e w2 (⟨hno, rfl, v2⟩ | ⟨a, t, v, s2, ha, ea, hN, rfl, r2, hs2, v2⟩)
          · have hall : ∀ i, i < n → at0 l i = i := fun i hi => by
              rcases hno with h | h
              · exact (h (CanZ.of HC.out)).elim
              · exact Int.ofNat_inj.1 (h i hi)
            have hV2 := run_end HR.out hall
            have k2 := k1.below v2 k1.lt
            have q2 := below_go q1 hgle v2
            have hrow2 := hrow.below' v2
            have cp := hrow2.cell (i := p) (by omega)
            rw [hall p (by omega)] at cp
            have hpn : (p : Int) < (n : Int) := by omega
            have hg2 := k2.lt
            have cw2 := (k2.cell p).trans HV.out
            clear hno x1 hall hrow hrow2 harg
            go_wp2_with fail
            go_roundw
            case rel => exact ⟨seen + 1, s, false, rfl, by simp, rfl, (fun h => by cases h), fun _ => hV2, k2, q2, hg2⟩
            case measure => simp [intOf]; omega
          · have hN2 : NextIs (at0 l) n t v := by
              have h : ∀ i, i < n → a i = at0 l i := fun i hi => Int.ofNat_inj.1 (ea i hi).symm
              have hle := hN.le
              have hgt := hN.gt
              have htn := hN.lt
              refine ⟨hN.lt, ?_, fun i k1 k2 => ?_, ?_, hN.le, ?_, fun i k1 k2 => ?_⟩
              · rw [← h t htn]; exact hN.ne
              · rw [← h i k2]; exact hN.last i k1 k2
              · rw [← h t htn]; exact hN.gt
              · rw [← h v (by omega)]; exact hN.top
              · rw [← h i (by omega)]; rw [← h t htn] at k1; exact hN.low i k1 k2
            obtain ⟨f', l', hrun', hl'⟩ := run_next HR.out hN2
            have r2' : RowN w2 s2 n (at0 l') := r2.congr fun i hi => by
              show (nx a t v i : Int) = (at0 l' i : Int)
              rw [hl' i hi]
              unfold nx
              split
              · exact (ea i hi).symm
              · rfl
            have HR2 := Lib.hid hrun'
            have HB := Lib.hid (show (∀ j, j < t → (at0 l j : Int) = (at0 l' j : Int)) ∧ (at0 l t : Int) < (at0 l' t : Int) ∧ t < n from by
              have htn := hN2.lt
              refine ⟨fun j hj => ?_, ?_, htn⟩
              · rw [hl' j (by omega)]; unfold nx; rw [if_pos hj]
              · rw [hl' t htn]; unfold nx; rw [if_neg (Nat.lt_irrefl t), if_pos rfl]; have := hN2.gt; omega)
            have hcan' := run_can HR2.out
            have harg' : ArgI .i64 w2 (some ⟨s2, 0, none⟩) n n (fun i => (at0 l' i : Int)) := RowF.arg r2' (by omega) (fun i hi => by
              have k : at0 l' i ≤ i := (hcan' i hi).1
              exact fits_wf ⟨by omega, by omega⟩)
            have xb := before_yes n n n _ _ _ _ w2 (harg.below v2) harg' (by omega) t HB.out.2.2 HB.out.1 HB.out.2.1
            have k2 := k1.below v2 k1.lt
            have q2 := below_go q1 hgle v2
            clear x1 hrun' hl' r2 hN hN2 ea ha hcan' harg' harg hrow
            go_wp2_with fail
            refine xb.mono ?_
            rintro e w3 ⟨rfl, m3, hw3⟩
            have v3 : Below w2.heap.size w2 w3 := by rw [hw3]; exact below_drewN (Below.refl _ _) m3
            have k3 := k2.below v3 k2.lt
            have q3 := below_go q2 hgle v3
            have r3 := RowF.below' r2' v3
            have hg3 := k3.lt
            clear hw3 xb
            go_wp2_with fail
            go_roundw
            case rel => exact ⟨seen + 1, s2, true, rfl, by simp, rfl, fun _ => ⟨f', l', HR2, r3⟩, (fun h => by cases h), k3, q3, hg3⟩
            case measure => simp [intOf]; omega
        | false =>
          have hs := hend rfl
          subst hs
          clear hok hend
          go_wp2_with fail
          go_roundw
          case rel => exact ⟨n + 1, by simp, by omega, by omega, k1, q1, hgw1⟩
          case measure => simp [intOf]; omega
    · have hin : ¬ (n : Int) ≤ 7 := by omega
      have x := works_ok wr
      go_wp2_with fail
      refine x.mono ?_
      rintro e w1 ⟨rfl, v⟩
      have q := below_go q hgle v
      go_wp2_with fail
      go_ret
      subst hg
      exact ⟨rfl, q⟩
end Go.Proofs.Ytipniooflaiikaa
