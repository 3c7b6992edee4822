/-
  CoresOrder.
-/
import Derived.Test.YtoiafopndlnknaaJ2
import Derived.Test.YtoiafopndlnknaaK4
set_option linter.unusedVariables false
set_option linter.unusedSimpArgs false
namespace Go.Proofs.Ytoiafopndlnknaa
open Go.RowKit Go.Shelf

/-- one step of the removal order -/
theorem step_facts (E : Es) (n : Nat) {i : Nat} (hi : i < n) : ∃ v d, IsPick E (peelN E n i).1 n v d ∧ (peelN E n (i + 1)).1 = rem (peelN E n i).1 v ∧ (ord E n).getD i 0 = v ∧ (numS ((peel E n).take (i + 1))).1 = max (numS ((peel E n).take i)).1 d ∧ (peelN E n (i + 1)).2 = (peelN E n i).2 ++ [(v, d)] ∧ (peel E n).getD i (0, 0) = (v, d) := by
  obtain ⟨v, d, hp, e⟩ := peel_step E n i hi
  have e2 : (peel E n).take (i + 1) = (peel E n).take i ++ [(v, d)] := by rw [← peel_take E n (i + 1) (by omega), ← peel_take E n i (by omega), e]
  have hl : (peel E n).length = n := (peeled E n n (Nat.le_refl _)).len
  have e3 : (peel E n).getD i (0, 0) = (v, d) := by
    have := take_getD (peel E n) (0, 0) (i := i) (by omega)
    rw [e2] at this
    have := List.append_cancel_left this
    simpa using this.symm
  refine ⟨v, d, hp, by rw [e], ?_, ?_, by rw [e], e3⟩
  · unfold ord
    rw [List.getD_eq_getElem?_getD, List.getElem?_map, List.getElem?_eq_getElem (by omega)]
    rw [List.getD_eq_getElem?_getD, List.getElem?_eq_getElem (by omega)] at e3
    have e3 : (peel E n)[i] = (v, d) := by simpa using e3
    rw [e3]
    rfl
  · rw [e2, numS_snoc]
    rfl
set_option maxRecDepth 100000 in
set_option maxHeartbeats 8000000 in
theorem order_walk (N : Int) (n c : Nat) (A : Option Addr) (z : Nat → Nat → Int) (w : World) (hN : (Lit.int .u8 N).wf = true) (ha : ArgS [.u8, .u8] w A n c z) :
    Calls Try.prog 9 #[.int .u8 N, .slice A n c] w fun e w' => e = .returned (.bool true) ∧ Below w.heap.size w w' := by
  have x := drawn_ok N n c A z w hN ha
  clear ha hN
  go_enter Try.func9, Try.ntmps9
  go_wp2_with fail
  refine x.mono ?_
  rintro e w1 ⟨m, v, E, rfl, hm, hEl, hF, hE, q⟩
  clear x
  obtain ⟨A2, c2, rfl, hEA, _⟩ := hE.ea hF
  clear hE
  have x := new_ea hEA hF
  go_wp2_with fail
  refine x.mono ?_
  rintro e w2 ⟨K, rfl, hG, v1⟩
  have hEA := hEA.below v1
  have q := below_end q q.size v1
  clear x v1
  have x := order_ok hG
  go_wp2_with fail
  refine x.mono ?_
  rintro e w3 ⟨vo, rfl, ro, v1⟩
  have hEA := hEA.below v1
  have hG := hG.below v1
  have q := below_end q q.size v1
  obtain ⟨Ao, co, rfl, go, hgo⟩ := ro.rowF (ord_len E m)
  clear x v1 ro
  have mk1 := run_make34 m (by omega)
  have bA := below_new1 w3 (.cells (falses m) 4)
  have rl := RowB.made w3 m
  have HEA := Lib.hid (fun (W : World) (q : Below w3.heap.size w3 W) => hEA.below q)
  have HGR := Lib.hid (fun (W : World) (q : Below w3.heap.size w3 W) => hG.below q)
  have HGO := Lib.hid (show 0 < m → Ao = some ⟨go, 0, none⟩ ∧ go < w3.heap.size ∧ m ≤ co from fun h => by
    obtain ⟨a, b, d, e⟩ := hgo h
    exact ⟨a, e.lt, d⟩)
  have HO := Lib.hid (fun (W : World) (q : Below w3.heap.size w3 W) (h : 0 < m) i (hi : i < m) => ((hgo h).2.2.2.below' q).cell hi)
  have HST := Lib.hid (fun i (hi : i < m) => step_facts E m hi)
  have HNE := Lib.hid (show ∀ S v, S v = true → insD E S v = dg E S v from fun S v h => if_pos h)
  have HMO := Lib.hid (show most E m = (numS ((peel E m).take m)).1 from by
    unfold most
    rw [List.take_of_length_le (by have : (peel E m).length = m := (peeled E m m (Nat.le_refl _)).len; omega)])
  have HQ := Lib.hid q
  have hw3 := q.size
  clear hgo hEA hG q
  go_upto_region 9 with fail
  clear mk1
  generalize w3.alloc (.cells (falses m) 4) = W4 at *
  obtain ⟨gl, hgl⟩ : ∃ x, w3.heap.size = x := ⟨_, rfl⟩
  have hgl0 : w3.heap.size ≤ gl := by omega
  rw [hgl] at rl
  rw [hgl]
  clear hgl
  go_wp2_with fail
  go_loopw [12] (fun v wr => ∃ i : Nat, v = .int .i64 i ∧ i ≤ m ∧ RowB wr gl m (fun u => decide (u < i)) ∧ Below w3.heap.size w3 wr) (fun v _ => 20000 - (intOf v).toNat)
  case atStart => exact ⟨0, rfl, Nat.zero_le _, rl.congr (fun u _ => by simp), bA⟩
  case round =>
    clear rl bA
    obtain ⟨i, rfl, hi, r, q⟩ := hrel
    by_cases hlt : i < m
    · have him : (i : Int) < (m : Int) := by omega
      have c0 := r.cell hlt
      have c1 := r.frozen i
      have r2 := r.set_ i true
      have q2 := q.setCell (p := ⟨gl, i, none⟩) hgl0 (.bool true)
      clear r q
      go_wp2_with fail
      go_roundw
      case rel => exact ⟨i + 1, by simp, by omega, r2.congr (fun u hu => by
        by_cases e : u = i
        · subst e; simp
        · rw [if_neg e]; simp; omega), q2⟩
      case measure => simp [intOf]; omega
    · have eim : m = i := by omega
      subst eim
      have him : ¬ (m : Int) < (m : Int) := by omega
      have r0 : RowB wr gl m (peelN E m 0).1 := r.congr (fun u hu => by show decide (u < m) = true; simp; exact hu)
      have HL0 := Lib.hid (show (numS ((peel E m).take 0)).1 = 0 from rfl)
      clear r
      go_wp2_with fail
      go_loopw [10, 13, 14, 15, 16] (fun v10 v13 _ _ _ wr => ∃ i : Nat, v13 = .int .i64 i ∧ v10 = .int .i64 ((numS ((peel E m).take i)).1 : Nat) ∧ i ≤ m ∧ RowB wr gl m (peelN E m i).1 ∧ Below w3.heap.size w3 wr) (fun _ v _ _ _ _ => 20000 - (intOf v).toNat)
      case atStart => exact ⟨0, rfl, by rw [HL0.out]; rfl, Nat.zero_le _, r0, q⟩
      case round =>
        clear r0 q him
        obtain ⟨i, rfl, rfl, hi, r, q⟩ := hrel
        by_cases hlt : i < m
        · have him : (i : Int) < (m : Int) := by omega
          obtain ⟨x, d, hp, hL, hox, hmx, _, _⟩ := HST.out i hlt
          obtain ⟨rfl, hgo1, hgo2⟩ := HGO.out (by omega)
          have c0 := HO.out _ q (by omega) i hlt
          rw [hox] at c0
          obtain ⟨L, hLe⟩ : ∃ L, (peelN E m i).1 = L := ⟨_, rfl⟩
          rw [hLe] at r hp hL
          have HL := Lib.hid hL
          obtain ⟨M, hM⟩ : ∃ M, (numS ((peel E m).take i)).1 = M := ⟨_, rfl⟩
          rw [hM] at hmx ⊢
          have HMX := Lib.hid hmx
          obtain ⟨hxm, hLx, hdx, hmin⟩ := hp
          have c1 := r.cell hxm
          rw [hLx] at c1
          have hx0 : ¬ (x : Int) < 0 := by omega
          have hx1 : (x : Int) < (m : Int) := by omega
          have hx2 : ¬ (m : Int) ≤ (x : Int) := by omega
          have xi := inside_ok (HEA.out _ q) hF r
          have HMIN := Lib.hid hmin
          have HDX := Lib.hid (show insD E L x = d from by rw [HNE.out L x hLx, hdx])
          have HR := Lib.hid r
          have hrl := r.lt
          clear hmin hdx hLx hL hmx hLe hM hox r
          go_wp2_with fail
          refine xi.mono ?_
          rintro e w5 ⟨gd, rfl, hgd, rd, v1⟩
          have HRW := Lib.hid (fun (W : World) (q : Below wr.heap.size wr W) => HR.out.below q hrl)
          have hqs := q.size
          clear xi
          go_wp2_with fail
          go_loopw [16] (fun v wi => ∃ u : Nat, v = .int .i64 u ∧ u ≤ m ∧ ∃ k, wi = w5.drewN k) (fun v _ => 20000 - (intOf v).toNat)
          case atStart => exact ⟨0, rfl, Nat.zero_le _, 0, rfl⟩
          case round =>
            obtain ⟨u, rfl, hu, k, rfl⟩ := hrel
            by_cases hlt2 : u < m
            · have hum : (u : Int) < (m : Int) := by omega
              have r2 := HRW.out _ v1
              have rd2 := rd
              have d0 := r2.cell hlt2
              have d1 := rd2.cell hlt2
              have d2 := rd2.cell hxm
              rw [HDX.out] at d2
              cases hLu : L u
              · rw [hLu] at d0
                clear r2 rd2
                go_upto_region 23 with fail
                go_quiet (fail)
                go_wp2_with fail
                go_roundw
                case rel => exact ⟨u + 1, by simp, by omega, k + nq, by first | rfl | simp⟩
                case measure => simp [intOf]; omega
              · rw [hLu] at d0
                rw [HNE.out L u hLu] at d1
                have hmu := HMIN.out u hlt2 hLu
                obtain ⟨du, hdu⟩ : ∃ y, dg E L u = y := ⟨_, rfl⟩
                rw [hdu] at d1 hmu
                clear hdu hLu r2 rd2
                rcases hmu with h1 | ⟨h1, h2⟩
                · have g1 : decide ((du : Int) < (d : Int)) = false := decide_eq_false (by omega)
                  have g2 : ((du : Int) == (d : Int)) = false := by simp; omega
                  have g3 : decide (du < d) = false := decide_eq_false (by omega)
                  have g4 : (du == d) = false := by simp; omega
                  go_upto_region 23 with fail
                  go_quiet (fail)
                  go_wp2_with fail
                  go_roundw
                  case rel => exact ⟨u + 1, by simp, by omega, k + nq, by first | rfl | simp⟩
                  case measure => simp [intOf]; omega
                · subst h1
                  have g1 : decide ((d : Int) < (d : Int)) = false := decide_eq_false (by omega)
                  have g2 : ((d : Int) == (d : Int)) = true := by simp
                  have g3 : decide ((u : Int) < (x : Int)) = false := decide_eq_false (by omega)
                  have g4 : decide (u < x) = false := decide_eq_false (by omega)
                  go_upto_region 23 with fail
                  go_quiet (fail)
                  go_wp2_with fail
                  go_roundw
                  case rel => exact ⟨u + 1, by simp, by omega, k + nq, by first | rfl | simp⟩
                  case measure => simp [intOf]; omega
            · have eum : m = u := by omega
              subst eum
              have hum : ¬ (m : Int) < (m : Int) := by omega
              have r2 := HRW.out _ (below_drewN v1 k)
              have rd2 := rd.drewN k
              have d2 := rd2.cell hxm
              rw [HDX.out] at d2
              have d3 := r2.frozen x
              have d4 := r2.cell hxm
              have q2 := below_end q q.size (below_drewN v1 k)
              obtain ⟨M2, hM2⟩ : ∃ M2, max M d = M2 := ⟨_, rfl⟩
              have hmax : max (M : Int) (d : Int) = (M2 : Int) := by omega
              have HM2 := Lib.hid hM2
              have r3 := r2.set_ x false
              have q3 := q2.setCell (p := ⟨gl, x, none⟩) hgl0 (.bool false)
              clear r2 rd2 q2 hM2
              go_wp2_with fail
              go_roundw
              case rel => exact ⟨i + 1, by simp, by rw [HMX.out, HM2.out], by omega, r3.congr (fun v _ => by rw [HL.out]; rfl), q3⟩
              case measure => simp [intOf]; omega
        · have eim : m = i := by omega
          subst eim
          have him : ¬ (m : Int) < (m : Int) := by omega
          rw [← HMO.out]
          have x := degeneracy_ok (HGR.out _ q)
          have q := below_end HQ.out hw3 q
          clear r
          go_wp2_with fail
          refine x.mono ?_
          rintro e w10 ⟨rfl, v1⟩
          have q := below_end q q.size v1
          clear x v1
          have x := works_ok w10
          go_wp2_with fail
          refine x.mono ?_
          rintro e w11 ⟨rfl, v1⟩
          have q := below_end q q.size v1
          clear x v1
          go_wp2_with fail
          go_ret
          exact ⟨rfl, q⟩
end Go.Proofs.Ytoiafopndlnknaa
