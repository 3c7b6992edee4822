/-
  CoresTimes.
-/
import Derived.Test.YtoiafopndlnknaaU1
import Derived.Test.YtoiafopndlnknaaQ6
set_option linter.unusedVariables false
set_option linter.unusedSimpArgs false
namespace Go.Proofs.Ytoiafopndlnknaa
open Go.RowKit Go.Shelf

/-- append of edges to edges -/
theorem wpList_append_el {ops : Array Oper} {rest : List Oper} {o : Oper} {a : Act} {w : World} {Q : Exit → Act → World → Prop} (hgd : o.guard = none) (s x : Operand) (ho : o.op = .call { callee := .builtin .append, args := #[s, x], argTypes := #[24, 24] })
    (B : Nat) (v : Value) (F : Es) (hs : a.eval s = v) (hR : EL w B v F) (Bx : Nat) (vx : Value) (E : Es) (hx : a.eval x = vx) (hX : EL w Bx vx E) (hE : ∀ i, i < E.length → (edge E i).1 < 5000 ∧ (edge E i).2 < 5000)
    (hn : F.length + E.length ≤ 100000) (hB : B ≤ w.heap.size)
    (h : ∀ v' w', EL w' B v' (F ++ E) → w.grownBy w' v.ownBlock → wpList Try.prog ops Q rest (a.put o.dst v') w') :
    wpList Try.prog ops Q (o :: rest) a w := by
  obtain ⟨y, hr, hy⟩ := hR
  obtain ⟨yx, hrx, hyx⟩ := hX
  obtain ⟨A, c, rfl, ha, hN, _⟩ := hrx.arg (fun i hi j hj => by
    obtain ⟨e0, e1, e2⟩ := hyx i hi
    obtain ⟨f0, f1⟩ := hE i hi
    rcases j with _ | _ | _ | j
    · rw [e0]; exact ⟨by omega, by omega⟩
    · rw [e1]; exact ⟨by omega, by omega⟩
    · exact e2
    · omega)
  cases A with
  | some ad =>
    refine wpList_append_edges hgd s x ho B v F.length y hs hr ad E.length c yx hx ha hn hB ?_
    intro v' w' g1 g2
    refine h v' w' ⟨_, by rw [List.length_append]; exact g1, fun i hi => ?_⟩ g2
    rw [List.length_append] at hi
    by_cases hlt : i < F.length
    · rw [edge_app_l F _ hlt]
      simp only [if_pos hlt]
      exact hy i hlt
    · simp only [if_neg hlt]
      have e := edge_app_r F E (i - F.length)
      rw [show F.length + (i - F.length) = i by omega] at e
      rw [e]
      exact hyx _ (by omega)
  | none =>
    obtain ⟨h0, rfl⟩ := hN rfl
    have e0 := List.eq_nil_of_length_eq_zero h0
    subst e0
    obtain ⟨i0, hi, hz0, hz1, hz2⟩ := info_parts info47
    refine wpList_append_own_none hgd s x 24 ho B 47 i0 3 Try.underlying24 hi v F.length (edgs y F.length) hs hr hx ?_
    refine h v w ?_ (⟨rfl, rfl, rfl, Nat.le_refl _, fun _ _ _ => rfl⟩)
    rw [List.append_nil]
    exact ⟨y, hr, hy⟩
set_option maxRecDepth 100000 in
set_option maxHeartbeats 8000000 in
theorem times_walk (N : Int) (n c : Nat) (A : Option Addr) (z : Nat → Nat → Int) (U : Int) (w : World) (hN : (Lit.int .u8 N).wf = true) (ha : ArgS [.u8, .u8] w A n c z) (hU : (Lit.int .u8 U).wf = true) :
    Calls Try.prog 6 #[.int .u8 N, .slice A n c, .int .u8 U] w fun e w' => e = .returned (.bool true) ∧ Below w.heap.size w w' := by
  have hUb := wf_u8 hU
  have x := drawn_ok N n c A z w hN ha
  obtain ⟨x1, rfl⟩ : ∃ x : Nat, U = x := ⟨U.toNat, by omega⟩
  clear ha hN hU
  go_enter Try.func6, Try.ntmps6
  go_wp2_with fail
  refine x.mono ?_
  rintro e w1 ⟨m, v, E, rfl, hm, hEl, hF, hE, q⟩
  clear x
  obtain ⟨T0, hT0⟩ : ∃ a, x1 % 4 = a := ⟨_, rfl⟩
  have t0 : (x1 : Int).tmod 4 = (T0 : Int) := by rw [Int.tmod_eq_emod_of_nonneg (by omega)]; omega
  have hT4 : T0 < 4 := by omega
  have s0 : IntKind.i64.wrap (x1 : Int) = (x1 : Int) := by rw [IntKind.wrap_i64]; omega
  obtain ⟨T, hT⟩ : ∃ a, 1 + T0 = a := ⟨_, rfl⟩
  have hTT : 1 + (T0 : Int) = (T : Int) := by omega
  have hT1 : 1 ≤ T := by omega
  have hT5 : T ≤ 4 := by omega
  have HEV := Lib.hid (fun (W : World) (q : Below w1.heap.size w1 W) => hE.below q)
  have HF := Lib.hid hF
  have HQ := Lib.hid q
  have HFE := Lib.hid (fun i (hi : i < E.length) => show (edge E i).1 < 5000 ∧ (edge E i).2 < 5000 from by have := fine_edge hF hi; omega)
  have hE0 := EL.nil w1 w1.heap.size
  have q0 := Below.refl w1.heap.size w1
  clear hT0 hT hE q hF
  go_wp2_with fail
  go_loopw [10, 11] (fun v10 v11 wr => ∃ i : Nat, v11 = .int .i64 i ∧ i ≤ T ∧ EL wr w1.heap.size v10 (reps E i) ∧ Below w1.heap.size w1 wr) (fun _ v _ => 30 - (intOf v).toNat)
  case atStart => exact ⟨0, rfl, Nat.zero_le _, hE0, q0⟩
  case round =>
    clear hE0 q0
    obtain ⟨i, rfl, hi, hEi, q⟩ := hrel
    by_cases hlt : i < T
    · have hiT : (i : Int) < (T : Int) := by omega
      have hEv := HEV.out _ q
      have hbs := hEi.base
      have hlen : (reps E i).length + E.length ≤ 100000 := by
        rw [reps_len]
        have : i * E.length ≤ 4 * 120 := Nat.mul_le_mul (by omega) hEl
        omega
      have hqs := q.size
      go_wp2_with (at_builtin; refine wpList_append_el rfl _ _ rfl w1.heap.size u10 (reps E i) rfl hEi w.heap.size v E rfl hEv HFE.out hlen hqs ?_; intro v' w5 hE5 gr5)
      have q5 := q.grown gr5 hqs (fun k hk => hbs k hk)
      go_roundw
      case rel => exact ⟨i + 1, by simp, by omega, hE5, q5⟩
      case measure => simp [intOf]; omega
    · have eiT : T = i := by omega
      subst eiT
      have hiT : ¬ (T : Int) < (T : Int) := by omega
      have hE := HEV.out _ q
      have q := below_end HQ.out HQ.out.size q
      have HF2 := Lib.hid (fine_reps (t := T) HF.out (by have : T * E.length ≤ 4 * 120 := Nat.mul_le_mul hT5 hEl; omega))
      have hd : ∀ L u, dg (reps E T) L u = T * dg E L u := fun L u => dg_reps E L u T
      have HORD := Lib.hid (ord_times hT1 hd m)
      have HNUM := Lib.hid (num_times hT1 hd m)
      have HDEN := Lib.hid (fun k => dens_times (t := T) hT1 (E := E) (n := m) (k := k))
      clear HEV HQ hd t0 s0 hTT
      have x := new_el hE HF.out
      go_wp2_with fail
      refine x.mono ?_
      rintro e w2 ⟨K, rfl, hG, v1⟩
      have hEi := hEi.below v1
      have q := below_end q q.size v1
      clear x v1 hE
      have x := new_el hEi HF2.out
      go_wp2_with fail
      refine x.mono ?_
      rintro e w3 ⟨K2, rfl, hH, v1⟩
      have hG := hG.below v1
      have q := below_end q q.size v1
      clear x v1 hEi
      have x := numbers_ok hG
      go_wp2_with fail
      refine x.mono ?_
      rintro e w4 ⟨gn, rfl, _, rn, v1⟩
      have hG := hG.below v1
      have hH := hH.below v1
      have q := below_end q q.size v1
      clear x v1
      have x := numbers_ok hH
      go_wp2_with fail
      refine x.mono ?_
      rintro e w5 ⟨gn2, rfl, _, rn2, v1⟩
      rw [HNUM.out] at rn2
      have hG := hG.below v1
      have hH := hH.below v1
      have rn := rn.below' v1
      have q := below_end q q.size v1
      clear x v1
      have x := order_ok hG
      go_wp2_with fail
      refine x.mono ?_
      rintro e w6 ⟨vo, rfl, ro, v1⟩
      have hG := hG.below v1
      have hH := hH.below v1
      have rn := rn.below' v1
      have rn2 := rn2.below' v1
      have q := below_end q q.size v1
      clear x v1
      have x := order_ok hH
      rw [HORD.out] at x
      go_wp2_with fail
      refine x.mono ?_
      rintro e w7 ⟨vo2, rfl, ro2, v1⟩
      have hG := hG.below v1
      have hH := hH.below v1
      have rn := rn.below' v1
      have rn2 := rn2.below' v1
      have ro := ro.below v1
      have q := below_end q q.size v1
      clear x v1
      obtain ⟨Ao, Ar, co, cr, rfl, rfl, x⟩ := rows_same ro ro2 (fun x hx => by have := ord_lt hx; omega) (by rw [ord_len]; omega)
      clear ro ro2
      go_wp2_with fail
      refine x.mono ?_
      rintro e w8 ⟨rfl, v1⟩
      have hG := hG.below v1
      have hH := hH.below v1
      have rn := rn.below' v1
      have rn2 := rn2.below' v1
      have q := below_end q q.size v1
      clear x v1
      have HG := Lib.hid hG
      have HH := Lib.hid hH
      have HN := Lib.hid (fun u => num_le20 E m u HF.out.2.1)
      clear hG hH
      go_wp2_with fail
      go_loopw [18] (fun v18 wr => ∃ i : Nat, v18 = .int .i64 i ∧ i ≤ m ∧ ∃ j, wr = w8.drewN j) (fun v _ => 20000 - (intOf v).toNat)
      case atStart => exact ⟨0, rfl, Nat.zero_le _, 0, rfl⟩
      case round =>
        obtain ⟨i, rfl, hi, j, rfl⟩ := hrel
        by_cases hlt : i < m
        · have him : (i : Int) < (m : Int) := by omega
          have c0 := rn.cell hlt
          have c1 := rn2.cell hlt
          have h3 := HN.out i
          obtain ⟨f, hf⟩ : ∃ f, num E m i = f := ⟨_, rfl⟩
          obtain ⟨f2, hf2⟩ : ∃ f2, T * f = f2 := ⟨_, rfl⟩
          simp only [hf, hf2] at c0 c1
          rw [hf] at h3
          have hb2 : f2 ≤ 80000 := by rw [← hf2]; exact Nat.mul_le_mul hT5 h3
          have he2 : (T : Int) * (f : Int) = (f2 : Int) := by rw [← hf2]; simp
          clear hf hf2 rn rn2
          go_upto_region 18 with fail
          have hw : IntKind.i64.wrap ((T : Int) * (f : Int)) = (f2 : Int) := by rw [he2, IntKind.wrap_i64]; omega
          go_quiet (fail)
          go_wp2_with fail
          go_roundw
          case rel => exact ⟨i + 1, by simp, by omega, j + nq, by first | rfl | simp⟩
          case measure => simp [intOf]; omega
        · have eim : m = i := by omega
          subst eim
          have him : ¬ (m : Int) < (m : Int) := by omega
          have v1 := below_drewN (Below.refl w8.heap.size w8) j
          have hG := HG.out.below v1
          have hH := HH.out.below v1
          have q := below_end q q.size v1
          clear rn rn2 v1
          generalize w8.drewN j = w8 at *
          have x := densest_nice hG
          go_wp2_with fail
          refine x.mono ?_
          rintro e w9 ⟨hd, v1⟩
          clear x
          have hH := hH.below v1
          have q := below_end q q.size v1
          clear v1
          rcases hd with ⟨h0, rfl⟩ | ⟨h0, k, a, b, hI, ha, hb, h1, la, lb, rfl⟩
          · subst h0
            have ka := Blk.new w9 42 #[.int .i64 0, .int .i64 1]
            have v1 := below_new1 w9 (.cells #[.int .i64 0, .int .i64 1] 42)
            have hH := hH.below v1
            have q := below_end q q.size v1
            clear v1
            go_upto_region 21 with fail
            generalize w9.alloc (.cells #[.int .i64 0, .int .i64 1] 42) = W3 at *
            generalize w9.heap.size = gA at *
            have x := densest_nice hH
            go_wp2_with fail
            refine x.mono ?_
            rintro e w10 ⟨hd, v1⟩
            rcases hd with ⟨_, rfl⟩ | ⟨h0, _⟩
            · have ka := ka.below v1 ka.lt
              have q := below_end q q.size v1
              clear x v1
              have kb := Blk.new w10 42 #[.int .i64 0, .int .i64 1]
              have v1 := below_new1 w10 (.cells #[.int .i64 0, .int .i64 1] 42)
              have ka := ka.below v1 ka.lt
              have q := below_end q q.size v1
              clear v1
              go_upto_region 22 with fail
              generalize w10.alloc (.cells #[.int .i64 0, .int .i64 1] 42) = W4 at *
              generalize w10.heap.size = gB at *
              have a0 := ka.cell 0
              have a1 := ka.cell 1
              have b0 := kb.cell 0
              have b1 := kb.cell 1
              simp at a0 a1 b0 b1
              clear ka kb
              have x := works_ok W4
              go_wp2_with fail
              refine x.mono ?_
              rintro e w11 ⟨rfl, v1⟩
              have q := below_end q q.size v1
              clear x v1 a0 a1 b0 b1
              go_wp2_with fail
              go_ret
              exact ⟨rfl, q⟩
            · exact absurd h0 (Nat.lt_irrefl _)
          · obtain ⟨hD, hr⟩ := red_facts (a := a) h1
            have lN : a / Nat.gcd a b ≤ a := Nat.div_le_self _ _
            have lD : b / Nat.gcd a b ≤ b := Nat.div_le_self _ _
            obtain ⟨hI', ea, eb⟩ := HDEN.out k hI
            have hk2 := Nat.le_trans hI.1 (show most E m ≤ 20000 from by
              obtain ⟨v, _, e⟩ := (most_is E m).2.1 h0
              rw [e]
              exact HN.out v)
            obtain ⟨P, hP⟩ : ∃ P, a / Nat.gcd a b = P := ⟨_, rfl⟩
            obtain ⟨D, hDD⟩ : ∃ D, b / Nat.gcd a b = D := ⟨_, rfl⟩
            rw [hP] at hr lN
            rw [hDD] at hr lD hD
            rw [hP, hDD]
            have HI := Lib.hid hI'
            rw [← ha] at ea
            rw [← hb] at eb
            have HEA := Lib.hid (And.intro ea eb)
            have HR := Lib.hid hr
            have HB := Lib.hid h1
            have hPM : P ≤ 16384 := by omega
            have hDM : D ≤ 4096 := by omega
            clear hP hDD hr hI ha hb la lb lN lD h1 hI' ea eb
            have ka := Blk.new w9 42 #[.int .i64 (P : Int), .int .i64 (D : Int)]
            have v1 := below_new1 w9 (.cells #[.int .i64 (P : Int), .int .i64 (D : Int)] 42)
            have hH := hH.below v1
            have q := below_end q q.size v1
            clear v1
            go_upto_region 21 with fail
            generalize w9.alloc (.cells #[.int .i64 (P : Int), .int .i64 (D : Int)] 42) = W3 at *
            generalize w9.heap.size = gA at *
            have x := densest_nice hH
            go_wp2_with fail
            refine x.mono ?_
            rintro e w10 ⟨hd, v1⟩
            clear x
            rcases hd with ⟨h0', _⟩ | ⟨_, k2, a2, b2, hI2, ha2, hb2, h12, la2, lb2, rfl⟩
            · exact absurd h0' (by omega)
            · obtain rfl := hI2.uniq HI.out
              obtain ⟨hD2, hr2⟩ := red_facts (a := a2) h12
              have lN : a2 / Nat.gcd a2 b2 ≤ a2 := Nat.div_le_self _ _
              have lD : b2 / Nat.gcd a2 b2 ≤ b2 := Nat.div_le_self _ _
              rw [HEA.out.1] at ha2
              rw [HEA.out.2] at hb2
              obtain ⟨P2, hP⟩ : ∃ P, a2 / Nat.gcd a2 b2 = P := ⟨_, rfl⟩
              obtain ⟨D2, hDD⟩ : ∃ D, b2 / Nat.gcd a2 b2 = D := ⟨_, rfl⟩
              rw [hP] at hr2 lN
              rw [hDD] at hr2 lD hD2
              rw [hP, hDD]
              have hP2M : P2 ≤ 16384 := by omega
              have hD2M : D2 ≤ 4096 := by omega
              rw [ha2, hb2] at hr2
              have hrat := ratio_times HB.out HR.out hr2
              clear hP hDD hr2 hI2 ha2 hb2 la2 lb2 lN lD h12
              obtain ⟨X, hX⟩ : ∃ X, P2 * D = X := ⟨_, rfl⟩
              obtain ⟨Y, hY⟩ : ∃ Y, T * P = Y := ⟨_, rfl⟩
              obtain ⟨kk, hkk⟩ : ∃ Y, T * k = Y := ⟨_, rfl⟩
              rw [hX, hY] at hrat
              have eX : (P2 : Int) * (D : Int) = (X : Int) := by rw [← hX]; simp
              have eY : (T : Int) * (P : Int) = (Y : Int) := by rw [← hY]; simp
              have eX2 : (Y : Int) * (D2 : Int) = (X : Int) := by rw [hrat]; simp
              have ek : (T : Int) * (k : Int) = (kk : Int) := by rw [← hkk]; simp
              have bX : X ≤ 16384 * 4096 := by rw [← hX]; exact Nat.mul_le_mul hP2M hDM
              have bY : Y ≤ 4 * 16384 := by rw [← hY]; exact Nat.mul_le_mul hT5 hPM
              have bk : kk ≤ 4 * 20000 := by rw [← hkk]; exact Nat.mul_le_mul hT5 hk2
              rw [hkk]
              clear hX hY hrat hkk HI
              have ka := ka.below v1 ka.lt
              have q := below_end q q.size v1
              clear v1
              have kb := Blk.new w10 42 #[.int .i64 (P2 : Int), .int .i64 (D2 : Int)]
              have v1 := below_new1 w10 (.cells #[.int .i64 (P2 : Int), .int .i64 (D2 : Int)] 42)
              have ka := ka.below v1 ka.lt
              have q := below_end q q.size v1
              clear v1
              go_upto_region 22 with fail
              generalize w10.alloc (.cells #[.int .i64 (P2 : Int), .int .i64 (D2 : Int)] 42) = W4 at *
              generalize w10.heap.size = gB at *
              have a0 := ka.cell 0
              have a1 := ka.cell 1
              have b0 := kb.cell 0
              have b1 := kb.cell 1
              simp at a0 a1 b0 b1
              clear ka kb
              have x := works_ok W4
              go_wp2_with fail
              refine x.mono ?_
              rintro e w11 ⟨rfl, v1⟩
              have q := below_end q q.size v1
              clear x v1 a0 a1 b0 b1
              go_wp2_with fail
              go_ret
              exact ⟨rfl, q⟩
end Go.Proofs.Ytoiafopndlnknaa
