/-
  CoresWithin.
-/
import Derived.Test.YtoiafopndlnknaaU1
set_option linter.unusedVariables false
set_option linter.unusedSimpArgs false
namespace Go.Proofs.Ytoiafopndlnknaa
open Go.RowKit Go.Shelf

/-- a bit of the drawn set -/
def bitB (S : Int) (u : Nat) : Bool := Go.bits BinOp.and IntKind.u64 (S / 2 ^ u) 1 == 1
/-- the least degree so far within the drawn set -/
def LeastI (E : Es) (S : Int) (u : Nat) (lv : Int) : Prop := (lv < 0 ∧ ∀ x, x < u → bitB S x = false) ∨ (0 ≤ lv ∧ ∀ x, x < u → bitB S x = true → lv ≤ (insD E (bitB S) x : Nat))
theorem LeastI.skip {E : Es} {S : Int} {u : Nat} {lv : Int} (h : LeastI E S u lv) (hb : bitB S u = false) : LeastI E S (u + 1) lv := by
  rcases h with ⟨a, b⟩ | ⟨a, b⟩
  · refine .inl ⟨a, fun x hx => ?_⟩
    by_cases e : x = u
    · rw [e]; exact hb
    · exact b x (by omega)
  · refine .inr ⟨a, fun x hx hs => ?_⟩
    by_cases e : x = u
    · rw [e, hb] at hs; cases hs
    · exact b x (by omega) hs
theorem LeastI.take {E : Es} {S : Int} {u d : Nat} {lv : Int} (h : LeastI E S u lv) (hd : insD E (bitB S) u = d) (hl : lv < 0 ∨ (d : Int) < lv) : LeastI E S (u + 1) (d : Int) := by
  refine .inr ⟨by omega, fun x hx hs => ?_⟩
  by_cases e : x = u
  · rw [e, hd]; exact Int.le_refl _
  · rcases h with ⟨a, b⟩ | ⟨a, b⟩
    · rw [b x (by omega)] at hs; cases hs
    · have := b x (by omega) hs
      omega
theorem LeastI.keep {E : Es} {S : Int} {u d : Nat} {lv : Int} (h : LeastI E S u lv) (hd : insD E (bitB S) u = d) (h0 : 0 ≤ lv) (hl : lv ≤ (d : Int)) : LeastI E S (u + 1) lv := by
  refine .inr ⟨h0, fun x hx hs => ?_⟩
  by_cases e : x = u
  · rw [e, hd]; exact hl
  · rcases h with ⟨a, b⟩ | ⟨a, b⟩
    · omega
    · exact b x (by omega) hs
theorem LeastI.law {E : Es} {S : Int} {m : Nat} {lv : Int} (h : LeastI E S m lv) (hF : Fine m E) {u : Nat} (hu : u < m) (hs : bitB S u = true) : lv ≤ (num E m u : Nat) := by
  rcases h with ⟨a, _⟩ | ⟨a, b⟩
  · omega
  · have := core_greatest hF (c := lv.toNat) (S := bitB S) (fun x hx hsx => by
      have h1 := b x hx hsx
      unfold insD at h1
      rw [if_pos hsx] at h1
      omega) hu hs
    omega
set_option maxRecDepth 100000 in
set_option maxHeartbeats 8000000 in
theorem within_walk (N : Int) (n c : Nat) (A : Option Addr) (z : Nat → Nat → Int) (S : Int) (w : World) (hN : (Lit.int .u8 N).wf = true) (ha : ArgS [.u8, .u8] w A n c z) (hS : (Lit.int .u64 S).wf = true) :
    Calls Try.prog 3 #[.int .u8 N, .slice A n c, .int .u64 S] w fun e w' => e = .returned (.bool true) ∧ Below w.heap.size w w' := by
  have x := drawn_ok N n c A z w hN ha
  have HS := Lib.hid hS
  clear ha hN hS
  go_enter Try.func3, Try.ntmps3
  go_wp2_with fail
  refine x.mono ?_
  rintro e w1 ⟨m, v, E, rfl, hm, hEl, hF, hE, q⟩
  clear x
  obtain ⟨A2, c2, rfl, hEA, _⟩ := hE.ea hF
  clear hE
  have x := new_ea hEA hF
  go_wp2_with fail
  refine x.mono ?_
  rintro e w2 ⟨K, rfl, hG, v1⟩
  have hEA := hEA.below v1
  have q := below_end q q.size v1
  clear x v1
  have x := numbers_ok hG
  go_wp2_with fail
  refine x.mono ?_
  rintro e w3 ⟨gn, rfl, _, rn, v1⟩
  have hEA := hEA.below v1
  have hG := hG.below v1
  have q := below_end q q.size v1
  clear x v1
  have x := degeneracy_ok hG
  go_wp2_with fail
  refine x.mono ?_
  rintro e w4 ⟨rfl, v1⟩
  have hEA := hEA.below v1
  have hG := hG.below v1
  have rn := rn.below' v1
  have q := below_end q q.size v1
  clear x v1
  have HEA := Lib.hid (fun (W : World) (q : Below w4.heap.size w4 W) => hEA.below q)
  have HGR := Lib.hid (fun (W : World) (q : Below w4.heap.size w4 W) => hG.below q)
  have HRN := Lib.hid (fun (W : World) (q : Below w4.heap.size w4 W) => rn.below' q)
  have HF := Lib.hid hF
  have HMX := Lib.hid (show ∀ v, v < m → num E m v ≤ most E m from (most_is E m).1)
  have HM2 : most E m ≤ 20000 := by
    rcases Nat.eq_zero_or_pos m with h0 | h0
    · rw [(most_is E m).2.2 h0]; omega
    · obtain ⟨v, _, e⟩ := (most_is E m).2.1 h0
      rw [e]
      exact num_le20 E m v hF.2.1
  have HQ := Lib.hid q
  obtain ⟨M, hM⟩ : ∃ M, most E m = M := ⟨_, rfl⟩
  have HMM := Lib.hid hM
  rw [hM] at HM2 HMX
  rw [hM]
  have hb4 := Below.refl w4.heap.size w4
  clear hEA hG rn q hF hM
  go_wp2_with fail
  go_loopw [13, 14, 15, 16, 17] (fun v13 _ _ _ _ wr => ∃ k : Int, v13 = .int .i64 k ∧ -1 ≤ k ∧ k ≤ (M : Int) + 2 ∧ Below w4.heap.size w4 wr) (fun v _ _ _ _ _ => 30000 - (intOf v + 1).toNat)
  case atStart => exact ⟨-1, rfl, by omega, by omega, hb4⟩
  case round =>
    clear hb4
    obtain ⟨k, rfl, hk1, hk2, q⟩ := hrel
    by_cases hkm : k ≤ (M : Int) + 1
    · have x := core_nice (HGR.out _ q) k
      go_wp2_with fail
      refine x.mono ?_
      rintro e w5 ⟨Ac, qc, cc, rfl, hlq, hqm, hnil, hac, v1⟩
      rw [HMM.out] at hnil
      have q := below_end q q.size v1
      clear x v1
      have x := members_core hlq hac (by omega)
      clear hlq hac
      go_wp2_with fail
      refine x.mono ?_
      rintro e w6 ⟨gi, rfl, _, ri, v1⟩
      have q := below_end q q.size v1
      clear x v1
      by_cases hkM : (M : Int) < k
      · have x := core_nice (HGR.out _ q) k
        have g0 : decide ((M : Int) < k) = true := decide_eq_true hkM
        obtain rfl := hnil hkM
        go_wp2_with fail
        refine x.mono ?_
        rintro e w7 ⟨Ad, qd, cd, rfl, _, _, hnil2, _, v1⟩
        rw [HMM.out] at hnil2
        obtain rfl := hnil2 hkM
        have q := below_end q q.size v1
        have ri := ri.below v1 ri.lt
        clear x v1
        have x := inside_ok (HEA.out _ q) HF.out ri
        go_wp2_with fail
        refine x.mono ?_
        rintro e w8 ⟨gd, rfl, _, rd, v1⟩
        have q := below_end q q.size v1
        have ri := ri.below v1 ri.lt
        have rn := HRN.out _ q
        have HD := Lib.hid (fun v (hv : v < m) (h : k ≤ (num E m v : Nat)) => coreZ_deg HF.out hv h)
        clear x v1
        go_wp2_with fail
        go_loopw [17] (fun v wr => ∃ u : Nat, v = .int .i64 u ∧ u ≤ m ∧ ∃ j, wr = w8.drewN j) (fun v _ => 20000 - (intOf v).toNat)
        case atStart => exact ⟨0, rfl, Nat.zero_le _, 0, rfl⟩
        case round =>
          obtain ⟨u, rfl, hu, j, rfl⟩ := hrel
          by_cases hlt : u < m
          · have hum : (u : Int) < (m : Int) := by omega
            have c0 := ri.cell hlt
            have c1 := rn.cell hlt
            have c2 := rd.cell hlt
            have hd := HD.out u hlt
            obtain ⟨f, hf⟩ : ∃ f, num E m u = f := ⟨_, rfl⟩
            obtain ⟨d, hd2⟩ : ∃ d, insD E (coreZ E m k) u = d := ⟨_, rfl⟩
            have hz : coreZ E m k u = decide (k ≤ (f : Nat)) := by rw [← hf]; rfl
            rw [hz] at c0
            rw [hf] at c1 hd
            rw [hd2] at c2 hd
            clear hf hd2 hz ri rn rd
            by_cases hkf : k ≤ (f : Int)
            · have g1 : decide (k ≤ (f : Int)) = true := decide_eq_true hkf
              have g2 : decide ((d : Int) < k) = false := decide_eq_false (by have := hd hkf; omega)
              rw [g1] at c0
              clear hd
              go_upto_region 19 with fail
              go_quiet (fail)
              go_wp2_with fail
              go_roundw
              case rel => exact ⟨u + 1, by simp, by omega, j + nq, by first | rfl | simp⟩
              case measure => simp [intOf]; omega
            · have g1 : decide (k ≤ (f : Int)) = false := decide_eq_false hkf
              rw [g1] at c0
              clear hd
              go_upto_region 19 with fail
              go_quiet (fail)
              go_wp2_with fail
              go_roundw
              case rel => exact ⟨u + 1, by simp, by omega, j + nq, by first | rfl | simp⟩
              case measure => simp [intOf]; omega
          · have eum : m = u := by omega
            subst eum
            have hum : ¬ (m : Int) < (m : Int) := by omega
            have q := below_drewN q j
            clear ri rn rd
            go_wp2_with fail
            go_roundw
            case rel => exact ⟨k + 1, rfl, by omega, by omega, q⟩
            case measure => simp [intOf]; omega
      · have g0 : decide ((M : Int) < k) = false := decide_eq_false hkM
        have x := inside_ok (HEA.out _ q) HF.out ri
        go_wp2_with fail
        refine x.mono ?_
        rintro e w8 ⟨gd, rfl, _, rd, v1⟩
        have q := below_end q q.size v1
        have ri := ri.below v1 ri.lt
        have rn := HRN.out _ q
        have HD := Lib.hid (fun v (hv : v < m) (h : k ≤ (num E m v : Nat)) => coreZ_deg HF.out hv h)
        clear x v1
        go_wp2_with fail
        go_loopw [17] (fun v wr => ∃ u : Nat, v = .int .i64 u ∧ u ≤ m ∧ ∃ j, wr = w8.drewN j) (fun v _ => 20000 - (intOf v).toNat)
        case atStart => exact ⟨0, rfl, Nat.zero_le _, 0, rfl⟩
        case round =>
          obtain ⟨u, rfl, hu, j, rfl⟩ := hrel
          by_cases hlt : u < m
          · have hum : (u : Int) < (m : Int) := by omega
            have c0 := ri.cell hlt
            have c1 := rn.cell hlt
            have c2 := rd.cell hlt
            have hd := HD.out u hlt
            obtain ⟨f, hf⟩ : ∃ f, num E m u = f := ⟨_, rfl⟩
            obtain ⟨d, hd2⟩ : ∃ d, insD E (coreZ E m k) u = d := ⟨_, rfl⟩
            have hz : coreZ E m k u = decide (k ≤ (f : Nat)) := by rw [← hf]; rfl
            rw [hz] at c0
            rw [hf] at c1 hd
            rw [hd2] at c2 hd
            clear hf hd2 hz ri rn rd
            by_cases hkf : k ≤ (f : Int)
            · have g1 : decide (k ≤ (f : Int)) = true := decide_eq_true hkf
              have g2 : decide ((d : Int) < k) = false := decide_eq_false (by have := hd hkf; omega)
              rw [g1] at c0
              clear hd
              go_upto_region 19 with fail
              go_quiet (fail)
              go_wp2_with fail
              go_roundw
              case rel => exact ⟨u + 1, by simp, by omega, j + nq, by first | rfl | simp⟩
              case measure => simp [intOf]; omega
            · have g1 : decide (k ≤ (f : Int)) = false := decide_eq_false hkf
              rw [g1] at c0
              clear hd
              go_upto_region 19 with fail
              go_quiet (fail)
              go_wp2_with fail
              go_roundw
              case rel => exact ⟨u + 1, by simp, by omega, j + nq, by first | rfl | simp⟩
              case measure => simp [intOf]; omega
          · have eum : m = u := by omega
            subst eum
            have hum : ¬ (m : Int) < (m : Int) := by omega
            have q := below_drewN q j
            clear ri rn rd
            go_wp2_with fail
            go_roundw
            case rel => exact ⟨k + 1, rfl, by omega, by omega, q⟩
            case measure => simp [intOf]; omega
    · have mk1 := run_make34 m (by omega)
      have bA := below_new1 wr (.cells (falses m) 4)
      have rl := RowB.made wr m
      have hwr := q.size
      have HWR := Lib.hid q
      have q0 := Below.refl wr.heap.size wr
      clear q
      go_upto_region 22 with fail
      clear mk1
      generalize wr.alloc (.cells (falses m) 4) = W5 at *
      obtain ⟨gs, hgs⟩ : ∃ x, wr.heap.size = x := ⟨_, rfl⟩
      have hgs0 : wr.heap.size ≤ gs := by omega
      rw [hgs] at rl
      rw [hgs]
      clear hgs q0
      go_wp2_with fail
      go_loopw [19] (fun v wr2 => ∃ u : Nat, v = .int .i64 u ∧ u ≤ m ∧ RowB wr2 gs m (fun x => decide (x < u) && bitB S x) ∧ Below wr.heap.size wr wr2) (fun v _ => 20000 - (intOf v).toNat)
      case atStart => exact ⟨0, rfl, Nat.zero_le _, rl.congr (fun x _ => by simp), bA⟩
      case round =>
        clear rl bA
        obtain ⟨u, rfl, hu, r, q⟩ := hrel
        by_cases hlt : u < m
        · have hum : (u : Int) < (m : Int) := by omega
          have c0 := r.cell hlt
          have c1 := r.frozen u
          obtain ⟨y, hy⟩ : ∃ y, Go.bits BinOp.and IntKind.u64 (S / 2 ^ u) 1 = y := ⟨_, rfl⟩
          obtain ⟨b, hb⟩ : ∃ b, (y == 1) = b := ⟨_, rfl⟩
          have HB := Lib.hid (show bitB S u = b from by unfold bitB; rw [hy]; exact hb)
          have r2 := r.set_ u b
          have q2 := q.setCell (p := ⟨gs, u, none⟩) hgs0 (.bool b)
          clear r q
          go_wp2_with fail
          go_roundw
          case rel => exact ⟨u + 1, by simp, by omega, r2.congr (fun x hx => by
            by_cases e : x = u
            · subst e; rw [if_pos rfl, HB.out]; simp
            · rw [if_neg e]
              have : decide (x < u) = decide (x < u + 1) := by simp; omega
              rw [this]), q2⟩
          case measure => simp [intOf]; omega
        · have eum : m = u := by omega
          subst eum
          have hum : ¬ (m : Int) < (m : Int) := by omega
          have r := r.congr (f' := bitB S) (fun x hx => by simp [hx])
          have q := below_end HWR.out hwr q
          have x := inside_ok (HEA.out _ q) HF.out r
          go_wp2_with fail
          refine x.mono ?_
          rintro e w6 ⟨gd, rfl, _, rd, v1⟩
          have q := below_end q q.size v1
          have r := r.below v1 r.lt
          have rn := HRN.out _ q
          clear x v1
          have HL := Lib.hid (show LeastI E S 0 (-1) from .inl ⟨by omega, fun x hx => absurd hx (Nat.not_lt_zero _)⟩)
          go_wp2_with fail
          go_loopw [21, 22] (fun v21 v22 wr => ∃ (u : Nat) (lv : Int), v21 = .int .i64 lv ∧ v22 = .int .i64 u ∧ u ≤ m ∧ Hid (LeastI E S u lv) ∧ ∃ j, wr = w6.drewN j) (fun _ v _ => 20000 - (intOf v).toNat)
          case atStart => exact ⟨0, -1, rfl, rfl, Nat.zero_le _, HL, 0, rfl⟩
          case round =>
            clear HL
            obtain ⟨u, lv, rfl, rfl, hu, HL, j, rfl⟩ := hrel
            by_cases hlt : u < m
            · have hum : (u : Int) < (m : Int) := by omega
              have c0 := r.cell hlt
              have c1 := rd.cell hlt
              obtain ⟨b, hb⟩ : ∃ b, bitB S u = b := ⟨_, rfl⟩
              obtain ⟨d, hd⟩ : ∃ d, insD E (bitB S) u = d := ⟨_, rfl⟩
              rw [hb] at c0
              rw [hd] at c1
              have HB := Lib.hid hb
              have HD := Lib.hid hd
              clear hb hd
              cases b
              · go_wp2_with fail
                go_roundw
                case rel => exact ⟨u + 1, lv, rfl, by simp, by omega, Lib.hid (HL.out.skip HB.out), j, rfl⟩
                case measure => simp [intOf]; omega
              · by_cases h1 : lv < 0
                · have g1 : decide (lv < 0) = true := decide_eq_true h1
                  go_wp2_with fail
                  go_roundw
                  case rel => exact ⟨u + 1, d, rfl, by simp, by omega, Lib.hid (HL.out.take HD.out (.inl h1)), j, rfl⟩
                  case measure => simp [intOf]; omega
                · have g1 : decide (lv < 0) = false := decide_eq_false h1
                  by_cases h2 : (d : Int) < lv
                  · have g2 : decide ((d : Int) < lv) = true := decide_eq_true h2
                    go_wp2_with fail
                    go_roundw
                    case rel => exact ⟨u + 1, d, rfl, by simp, by omega, Lib.hid (HL.out.take HD.out (.inr h2)), j, rfl⟩
                    case measure => simp [intOf]; omega
                  · have g2 : decide ((d : Int) < lv) = false := decide_eq_false h2
                    go_wp2_with fail
                    go_roundw
                    case rel => exact ⟨u + 1, lv, rfl, by simp, by omega, Lib.hid (HL.out.keep HD.out (by omega) (by omega)), j, rfl⟩
                    case measure => simp [intOf]; omega
            · have eum : m = u := by omega
              subst eum
              have hum : ¬ (m : Int) < (m : Int) := by omega
              have HLW := Lib.hid (fun u (hu : u < m) (hs : bitB S u = true) => HL.out.law HF.out hu hs)
              clear HL
              go_wp2_with fail
              go_loopw [23] (fun v wr => ∃ u : Nat, v = .int .i64 u ∧ u ≤ m ∧ ∃ j, wr = w6.drewN j) (fun v _ => 20000 - (intOf v).toNat)
              case atStart => exact ⟨0, rfl, Nat.zero_le _, j, rfl⟩
              case round =>
                clear j
                obtain ⟨u, rfl, hu, j, rfl⟩ := hrel
                by_cases hlt : u < m
                · have hum : (u : Int) < (m : Int) := by omega
                  have c0 := r.cell hlt
                  have c1 := rn.cell hlt
                  have hlw := HLW.out u hlt
                  obtain ⟨b, hb⟩ : ∃ b, bitB S u = b := ⟨_, rfl⟩
                  obtain ⟨f, hf⟩ : ∃ f, num E m u = f := ⟨_, rfl⟩
                  rw [hb] at c0 hlw
                  rw [hf] at c1 hlw
                  clear hb hf
                  cases b
                  · go_wp2_with fail
                    go_roundw
                    case rel => exact ⟨u + 1, by simp, by omega, j, rfl⟩
                    case measure => simp [intOf]; omega
                  · have g1 : decide ((f : Int) < lv) = false := decide_eq_false (by have := hlw rfl; omega)
                    clear hlw
                    go_wp2_with fail
                    go_roundw
                    case rel => exact ⟨u + 1, by simp, by omega, j, rfl⟩
                    case measure => simp [intOf]; omega
                · have eum : m = u := by omega
                  subst eum
                  have hum : ¬ (m : Int) < (m : Int) := by omega
                  have q := below_end HQ.out HQ.out.size (below_drewN q j)
                  have x := works_ok (w6.drewN j)
                  go_wp2_with fail
                  refine x.mono ?_
                  rintro e w9 ⟨rfl, v1⟩
                  have q := below_end q q.size v1
                  clear x v1
                  go_wp2_with fail
                  go_ret
                  exact ⟨rfl, q⟩
end Go.Proofs.Ytoiafopndlnknaa
