/-
  CoresMore.
-/
import Derived.Test.YtoiafopndlnknaaV2
set_option linter.unusedVariables false
set_option linter.unusedSimpArgs false
namespace Go.Proofs.Ytoiafopndlnknaa
open Go.RowKit Go.Shelf

set_option maxRecDepth 100000 in
set_option maxHeartbeats 8000000 in
theorem more_walk (N : Int) (n c : Nat) (A : Option Addr) (z : Nat → Nat → Int) (U V : Int) (w : World) (hN : (Lit.int .u8 N).wf = true) (ha : ArgS [.u8, .u8] w A n c z) (hU : (Lit.int .u8 U).wf = true) (hV : (Lit.int .u8 V).wf = true) :
    Calls Try.prog 5 #[.int .u8 N, .slice A n c, .int .u8 U, .int .u8 V] w fun e w' => e = .returned (.bool true) ∧ Below w.heap.size w w' := by
  have hUb := wf_u8 hU
  have hVb := wf_u8 hV
  have x := drawn_ok N n c A z w hN ha
  obtain ⟨x1, rfl⟩ : ∃ x : Nat, U = x := ⟨U.toNat, by omega⟩
  obtain ⟨y1, rfl⟩ : ∃ x : Nat, V = x := ⟨V.toNat, by omega⟩
  clear ha hN hU hV
  go_enter Try.func5, Try.ntmps5
  go_wp2_with fail
  refine x.mono ?_
  rintro e w1 ⟨m, v, E, rfl, hm, hEl, hF, hE, q⟩
  clear x
  by_cases hm2 : m < 2
  · have g0 : decide ((m : Int) < 2) = true := decide_eq_true (by omega)
    have t0 : True := trivial
    have t1 : True := trivial
    have s0 : True := trivial
    have s1 : True := trivial
    go_upto_region 2 with fail
    go_quiet (fail)
    have q := below_drewN q nq
    clear t0 t1 s0 s1
    generalize w1.drewN nq = W2 at *
    have x := works_ok W2
    go_wp2_with fail
    refine x.mono ?_
    rintro e w9 ⟨rfl, v1⟩
    have q := below_end q q.size v1
    clear x v1
    go_wp2_with fail
    go_ret
    exact ⟨rfl, q⟩
  · have g0 : decide ((m : Int) < 2) = false := decide_eq_false (by omega)
    obtain ⟨a, ha⟩ : ∃ a, x1 % m = a := ⟨_, rfl⟩
    obtain ⟨b, hb⟩ : ∃ b, y1 % m = b := ⟨_, rfl⟩
    have ham : a < m := by rw [← ha]; exact Nat.mod_lt _ (by omega)
    have hbm : b < m := by rw [← hb]; exact Nat.mod_lt _ (by omega)
    have t0 : (x1 : Int).tmod (m : Int) = (a : Int) := by rw [Int.tmod_eq_emod_of_nonneg (by omega), ← ha, Int.natCast_emod]
    have t1 : (y1 : Int).tmod (m : Int) = (b : Int) := by rw [Int.tmod_eq_emod_of_nonneg (by omega), ← hb, Int.natCast_emod]
    have s0 : IntKind.i64.wrap (x1 : Int) = (x1 : Int) := by rw [IntKind.wrap_i64]; omega
    have s1 : IntKind.i64.wrap (y1 : Int) = (y1 : Int) := by rw [IntKind.wrap_i64]; omega
    have hmz : (m : Int) ≠ 0 := by omega
    have hmz2 : m ≠ 0 := by omega
    clear ha hb
    by_cases hab : a = b
    · subst hab
      go_upto_region 2 with fail
      go_quiet (fail)
      have q := below_drewN q nq
      clear t0 t1 s0 s1
      generalize w1.drewN nq = W2 at *
      have x := works_ok W2
      go_wp2_with fail
      refine x.mono ?_
      rintro e w9 ⟨rfl, v1⟩
      have q := below_end q q.size v1
      clear x v1
      go_wp2_with fail
      go_ret
      exact ⟨rfl, q⟩
    · have g1 : ((a : Int) == (b : Int)) = false := by simp; omega
      have hab2 : ¬ (a : Int) = (b : Int) := by omega
      go_upto_region 2 with fail
      go_quiet (fail)
      have q := below_drewN q nq
      have hE : EL (w1.drewN nq) w.heap.size v E := hE.below (below_drewN (Below.refl _ _) nq)
      generalize w1.drewN nq = W2 at *
      have x := new_fr hE hF
      go_wp2_with fail
      refine x.mono ?_
      rintro e w3 ⟨K, rfl, hG, hfr, v1⟩
      have hE3 := hE.below v1
      have hB3 := Nat.le_trans q.size v1.size
      have q3 := below_end q q.size v1
      have hlt := hE.lt
      have hEB := hE.base
      have hF2 := hF.snoc (e := (a, b)) (by omega) ham hbm hab
      have HEV := Lib.hid (fun (W : World) (q : Below w3.heap.size w3 W) => hE3.below q)
      have HSZ := Lib.hid (fun (W : World) (q : Below w3.heap.size w3 W) => Nat.le_trans q3.size q.size)
      have HKB := Lib.hid (fun (W : World) => Blk.new W 47 #[.int .i64 (a : Int), .int .i64 (b : Int), .int .i64 0])
      have HAFT := Lib.hid (show ∀ (Wp w5 : World) (v' : Value), Below w3.heap.size w3 Wp → EL w5 w.heap.size v' (E ++ [(a, b)]) → Wp.grownBy w5 v.ownBlock → Calls Try.prog 15 #[.int .i64 (m : Int), v'] w5 fun e w6 => ∃ K2, e = .returned (.tuple #[.pointer (some ⟨K2.g, 0, none⟩), .int .i64 0]) ∧ Gr w6 K2 m (E ++ [(a, b)]) ∧ Gr w6 K m E ∧ Below w.heap.size w w6 from fun Wp w5 v' g1 g2 g3 => by
        have hG5 : Gr w5 K m E := (hG.below g1).grown g3 (fun k hk e => by
          have := hlt k e.symm
          have := hfr k hk
          omega)
        have q5 := (below_end q3 q3.size g1).grown g3 (Nat.le_trans q3.size g1.size) (fun k hk => hEB k hk)
        refine (new_el g2 hF2).mono ?_
        rintro e w6 ⟨K2, rfl, hG2, q6⟩
        exact ⟨K2, rfl, hG2, hG5.below q6, below_end q5 q5.size q6⟩)
      have HF := Lib.hid hF
      have HF2 := Lib.hid hF2
      clear x v1 hE hE3 hG hfr hlt hF hF2 hEB
      go_upto_region 5 with fail
      go_region_law (first
        | (refine step_append_edge rfl (.tmp 46) (.tmp 56) rfl w.heap.size v E a b 0 _ rfl (HEV.out _ (by repeat (first | (with_reducible exact Below.refl _ _) | (with_reducible apply bdrew) | (with_reducible apply balloc)))) rfl (HKB.out _) ⟨by omega, by omega⟩ (by omega) (HSZ.out _ (by repeat (first | (with_reducible exact Below.refl _ _) | (with_reducible apply bdrew) | (with_reducible apply balloc)))) ?_; intro v' w5 t1 t2; have x5 := HAFT.out _ w5 v' (by repeat (first | (with_reducible exact Below.refl _ _) | (with_reducible apply bdrew) | (with_reducible apply balloc))) t1 t2; clear t1 t2)
        | (go_simp; go_at_call 15; refine x5.mono ?_; rintro e w6 ⟨K2, rfl, hG2, hG, q6⟩))
      all_goals
        clear x5
        have x := numbers_ok hG
        go_wp2_with fail
        refine x.mono ?_
        rintro e w7 ⟨gn, rfl, _, rn, v1⟩
        have hG2 := hG2.below v1
        have q := below_end q6 q6.size v1
        clear x v1 hG q6
        have x := numbers_ok hG2
        go_wp2_with fail
        refine x.mono ?_
        rintro e w8 ⟨gn2, rfl, _, rn2, v1⟩
        have rn := rn.below' v1
        have q := below_end q q.size v1
        clear x v1 hG2
        have HM := Lib.hid (fun i (hi : i < m) => more_law HF.out HF2.out hi)
        have HN1 := Lib.hid (fun u => num_le20 E m u HF.out.2.1)
        have HN2 := Lib.hid (fun u => num_le20 (E ++ [(a, b)]) m u HF2.out.2.1)
        clear HEV HSZ HKB HAFT
        go_wp2_with fail
        go_loopw [17] (fun v17 wr => ∃ i : Nat, v17 = .int .i64 i ∧ i ≤ m ∧ ∃ j, wr = w8.drewN j) (fun v _ => 20000 - (intOf v).toNat)
        case atStart => exact ⟨0, rfl, Nat.zero_le _, 0, rfl⟩
        case round =>
          obtain ⟨i, rfl, hi, j, rfl⟩ := hrel
          by_cases hlt : i < m
          · have him : (i : Int) < (m : Int) := by omega
            have c0 := rn.cell hlt
            have c1 := rn2.cell hlt
            obtain ⟨h1, h2⟩ := HM.out i hlt
            have h3 := HN1.out i
            have h4 := HN2.out i
            obtain ⟨f, hf⟩ : ∃ f, num E m i = f := ⟨_, rfl⟩
            obtain ⟨f2, hf2⟩ : ∃ f, num (E ++ [(a, b)]) m i = f := ⟨_, rfl⟩
            rw [hf] at h1 h2 h3 c0
            rw [hf2] at h1 h2 h4 c1
            have g1 : decide ((f2 : Int) < (f : Int)) = false := decide_eq_false (by omega)
            obtain ⟨f1, hf1⟩ : ∃ f1 : Nat, f1 = f + 1 := ⟨_, rfl⟩
            have g2 : decide ((f1 : Int) < (f2 : Int)) = false := decide_eq_false (by omega)
            clear hf hf2 rn rn2
            go_upto_region 14 with fail
            have hw : IntKind.i64.wrap ((f : Int) + 1) = (f1 : Int) := by rw [IntKind.wrap_i64]; omega
            go_quiet (fail)
            go_wp2_with fail
            go_roundw
            case rel => exact ⟨i + 1, by simp, by omega, j + nq, by first | rfl | simp⟩
            case measure => simp [intOf]; omega
          · have eim : m = i := by omega
            subst eim
            have him : ¬ (m : Int) < (m : Int) := by omega
            have q := below_drewN q j
            clear rn rn2
            have x := works_ok (w8.drewN j)
            go_wp2_with fail
            refine x.mono ?_
            rintro e w9 ⟨rfl, v1⟩
            have q := below_end q q.size v1
            clear x v1
            go_wp2_with fail
            go_ret
            exact ⟨rfl, q⟩
end Go.Proofs.Ytoiafopndlnknaa
