/-
  CoresMirror.
-/
import Derived.Test.YtoiafopndlnknaaU1
import Derived.Test.YtoiafopndlnknaaQ6
set_option linter.unusedVariables false
set_option linter.unusedSimpArgs false
namespace Go.Proofs.Ytoiafopndlnknaa
open Go.RowKit Go.Shelf

theorem colF_fits7 (E : Es) (hE : E.length ≤ 16384) : ∀ (l : List Nat) (u : Nat), -1 ≤ colF E l.reverse u ∧ colF E l.reverse u ≤ 16384
  | [], u => ⟨Int.le_refl _, by show (-1 : Int) ≤ _; omega⟩
  | v :: l, u => by
    rw [List.reverse_cons, colF_snoc]
    have ih := colF_fits7 E hE l u
    unfold colStep
    split
    · have h := (mex_spec ((oth E v E.length).map (colF E l.reverse))).1
      have hl : ((oth E v E.length).map (colF E l.reverse)).length ≤ E.length := by
        rw [List.length_map]
        unfold oth
        rw [List.length_map]
        exact cnt_le E v E.length
      omega
    · exact ih
theorem shells_le7 (f : Nat → Nat) (n G : Nat) (hn : n ≤ 4096) (hG : G ≤ 20000) : (∀ x ∈ shellsL f n G, x ≤ 1000000) ∧ (shellsL f n G).length ≤ 100000 := by
  unfold shellsL
  by_cases h0 : n = 0
  · rw [if_pos h0]
    exact ⟨fun x hx => by (cases hx), Nat.zero_le _⟩
  · rw [if_neg h0]
    refine ⟨fun x hx => ?_, by simp; omega⟩
    obtain ⟨k, _, rfl⟩ := List.mem_map.1 hx
    have := cntN_le f n k
    omega
theorem step_append_edge_at {ops : Array Oper} {o : Oper} {a : Act} {w : World} {K : Act → World → Prop} {Q : Exit → Act → World → Prop} {X : Prop} (hgd : o.guard = none) (s x : Operand) (ho : o.op = .call { callee := .builtin .append, args := #[s, x], argTypes := #[24, 24] })
    (B : Nat) (v : Value) (E : Es) (u1 u2 : Nat) (W : Int) (bx : Nat) (hs : a.eval s = v) (hR : EL w B v E) (hx : a.eval x = .slice (some ⟨bx, 0, none⟩) 1 1) (hk : Blk w bx 47 #[.int .i64 (u1 : Int), .int .i64 (u2 : Int), .int .i64 W]) (hW : Fits W)
    (hn : E.length ≤ 20000) (hB : B ≤ w.heap.size)
    (h : ∀ v' w', EL w' B v' (E ++ [(u1, u2)]) → w.grownBy w' v.ownBlock → (v'.ownBlock = v.ownBlock ∨ v'.ownBlock = some w.heap.size) → K (a.put o.dst v') w') :
    if Region.wanted o (yielded ops a.tmps) = true then Oper.wp Try.prog o a w K Q else X := by
  have hw : Region.wanted o (yielded ops a.tmps) = true := by simp [Region.wanted, hgd]
  rw [if_pos hw]
  obtain ⟨y, hr, hy⟩ := hR
  obtain ⟨z, hz⟩ : ∃ z : Nat → Nat → Int, z = fun _ j => if j = 0 then (u1 : Int) else if j = 1 then (u2 : Int) else W := ⟨_, rfl⟩
  obtain ⟨i0, hi, hz0, hz1, hz2⟩ := info_parts info47
  obtain ⟨v', w', hrun, h2, h3, h4, h5⟩ := run_append_own_at (P := Try.prog) w B 24 o.type 47 i0 _ 3 24 Try.underlying24 hi hz0 hz1 hz2 rfl (by decide) v E.length (edgs y E.length) hr ⟨bx, 0, none⟩ 1 1 (edgs z 1) (edgs_len z 1) (fun j u hu => by
    obtain ⟨hj, rfl⟩ := edgs_some hu
    rw [Addr.add_lit]
    have hj3 : j < 3 := by omega
    have ej : j / 3 = 0 := by omega
    have em : j % 3 = j := by omega
    rw [ej, em, hz]
    refine (hk.cell _).trans ?_
    rcases j with _ | _ | _ | j
    · rfl
    · rfl
    · rfl
    · omega) (edgs_one z 1) (by simp only [maxLen]; omega) (by omega) hB
  unfold Oper.wp execOp
  simp only [ho, resolve, invoke, builtin, Sem.run_bind, Sem.run_pure, Result.andThen_ok, List.map_toArray, List.map_cons, List.map_nil, hs, hx, hrun]
  refine h v' w' ⟨fun i => if i < E.length then y i else z (i - E.length), ?_, fun i hi => ?_⟩ h3 h5
  · rw [List.length_append, List.length_singleton]
    unfold RowE
    rw [← edgs_cat]
    exact h2
  · rw [List.length_append, List.length_singleton] at hi
    by_cases hlt : i < E.length
    · rw [edge_app_l E _ hlt]
      simp only [if_pos hlt]
      exact hy i hlt
    · obtain rfl : i = E.length := by omega
      have := edge_app_r E [(u1, u2)] 0
      rw [Nat.add_zero] at this
      rw [this]
      simp only [if_neg hlt, hz]
      exact ⟨rfl, rfl, hW⟩
theorem EL.lt7 {w : World} {B : Nat} {v : Value} {E : Es} (h : EL w B v E) : ∀ k, v.ownBlock = some k → k < w.heap.size := by
  obtain ⟨y, h1, _⟩ := h
  exact fun k hk => (World.ownsRow.lt h1 k hk).2
/-- a list of edges, where another one has grown -/
theorem EL.far {w w' : World} {B : Nat} {v : Value} {E : Es} {row : Option Nat} (h : EL w B v E) (gr : w.grownBy w' row) (hne : ∀ k, v.ownBlock = some k → row ≠ some k) : EL w' B v E := by
  obtain ⟨y, ⟨h1, h2⟩, h3⟩ := h
  refine ⟨y, ⟨h1, h2.imp id ?_⟩, h3⟩
  rintro ⟨g, cap, cur, hv, hg, hh, r⟩
  exact ⟨g, cap, cur, hv, hg, (gr.block g (Blk.lt (w := w) (t := 47) (cs := cur) hh) (fun e => hne g (by rw [hv]; rfl) e.symm)).trans hh, r⟩
/-- two lists of edges, apart -/
def Two (w : World) (B : Nat) (v : Value) (F : Es) (u : Value) (H : Es) : Prop := EL w B v F ∧ EL w B u H ∧ ∀ k, v.ownBlock = some k → u.ownBlock ≠ some k
section
variable {w w' : World} {B : Nat} {v v' u u' : Value} {F F' H H' : Es}
theorem Two.below (h : Two w B v F u H) (hb : Below w.heap.size w w') : Two w' B v F u H := ⟨h.1.below hb, h.2.1.below hb, h.2.2⟩
theorem Two.first (h : Two w B v F u H) (h1 : EL w' B v' F') (gr : w.grownBy w' v.ownBlock) (hp : v'.ownBlock = v.ownBlock ∨ v'.ownBlock = some w.heap.size) : Two w' B v' F' u H := by
  refine ⟨h1, h.2.1.far gr (fun k hk e => h.2.2 k e hk), fun k hk e => ?_⟩
  rcases hp with g | g
  · exact h.2.2 k (by rw [← g]; exact hk) e
  · rw [g] at hk
    cases hk
    exact Nat.lt_irrefl _ (h.2.1.lt7 _ e)
theorem Two.second (h : Two w B v F u H) (h1 : EL w' B u' H') (gr : w.grownBy w' u.ownBlock) (hp : u'.ownBlock = u.ownBlock ∨ u'.ownBlock = some w.heap.size) : Two w' B v F u' H' := by
  refine ⟨h.1.far gr (fun k hk e => h.2.2 k hk e), h1, fun k hk e => ?_⟩
  rcases hp with g | g
  · exact h.2.2 k hk (by rw [← g]; exact e)
  · rw [g] at e
    cases e
    exact Nat.lt_irrefl _ (h.1.lt7 _ hk)
end
theorem drop_step (E : Es) {i : Nat} (hi : i < E.length) : E.drop i = edge E i :: E.drop (i + 1) := by
  rw [List.drop_eq_getElem_cons hi]
  congr 1
  unfold edge
  rw [List.getD_eq_getElem?_getD, List.getElem?_eq_getElem hi]
  rfl
theorem back_step (E : Es) {i : Nat} (hi : i < E.length) : backE (E.drop i) = backE (E.drop (i + 1)) ++ [((edge E i).2, (edge E i).1)] := by
  unfold backE
  rw [drop_step E hi, List.reverse_cons, List.map_append]
  rfl
theorem turn_step (m : Nat) (E : Es) {i : Nat} (hi : i < E.length) : turnE m (E.drop i) = turnE m (E.drop (i + 1)) ++ [(m - 1 - (edge E i).1, m - 1 - (edge E i).2)] := by
  unfold turnE
  rw [drop_step E hi, List.reverse_cons, List.map_append]
  rfl
set_option maxRecDepth 100000 in
set_option maxHeartbeats 8000000 in
theorem mirror_walk (N : Int) (n c : Nat) (A : Option Addr) (z : Nat → Nat → Int) (w : World) (hN : (Lit.int .u8 N).wf = true) (ha : ArgS [.u8, .u8] w A n c z) :
    Calls Try.prog 7 #[.int .u8 N, .slice A n c] w fun e w' => e = .returned (.bool true) ∧ Below w.heap.size w w' := by
  have x := drawn_ok N n c A z w hN ha
  clear ha hN
  go_enter Try.func7, Try.ntmps7
  go_wp2_with fail
  refine x.mono ?_
  rintro e w1 ⟨m, v, E, rfl, hm, hEl, hF, hE, q⟩
  clear x
  obtain ⟨A2, c2, rfl, hEA, _⟩ := hE.ea hF
  clear hE
  have HEA := Lib.hid (fun (W : World) (q : Below w1.heap.size w1 W) => hEA.below q)
  have HF := Lib.hid hF
  have HQ := Lib.hid q
  have HFE := Lib.hid (fun i (hi : i < E.length) => fine_edge hF hi)
  have HLC := hEA.len
  have h20 : Two w1 w1.heap.size (.slice none 0 0) (backE (E.drop E.length)) (.slice none 0 0) (turnE m (E.drop E.length)) := by
    rw [List.drop_length]
    exact ⟨EL.nil _ _, EL.nil _ _, fun k hk => by cases hk⟩
  have q0 := Below.refl w1.heap.size w1
  clear hEA q hF
  go_wp2_with fail
  go_loopw [7, 8, 9] (fun v7 v8 v9 wr => ∃ (j : Nat) (x : Int), v9 = .int .i64 x ∧ x = (j : Int) - 1 ∧ j ≤ E.length ∧ Two wr w1.heap.size v7 (backE (E.drop j)) v8 (turnE m (E.drop j)) ∧ Below w1.heap.size w1 wr) (fun _ _ v _ => (intOf v + 1).toNat)
  case atStart => exact ⟨E.length, _, rfl, rfl, Nat.le_refl _, h20, q0⟩
  case round =>
    clear h20 q0
    obtain ⟨j, x, rfl, hx, hj, h2, q⟩ := hrel
    rcases Nat.eq_zero_or_pos j with hj0 | hj0
    · subst hj0
      have hx1 : x = -1 := by omega
      subst hx1
      rw [List.drop_zero] at h2
      have hEA := HEA.out _ q
      have q := below_end HQ.out HQ.out.size q
      obtain ⟨hB, hT, _⟩ := h2
      have HFB := Lib.hid (fine_back HF.out)
      have HFT := Lib.hid (fine_turn HF.out)
      have hd : ∀ L u, dg (backE E) L u = 1 * dg E L u := fun L u => by rw [dg_back, Nat.one_mul]
      have HORD := Lib.hid (ord_times (Nat.le_refl 1) hd m)
      have HNUM := Lib.hid (show num (backE E) m = num E m from by rw [num_times (Nat.le_refl 1) hd m]; funext u; exact Nat.one_mul _)
      have HCOL := Lib.hid (show ∀ l, colF (backE E) l = colF E l from fun l => (colF_congr (oth_back HF.out) l).symm)
      have HTN := Lib.hid (fun v (hv : v < m) => turn_law HF.out HFT.out hv)
      have HN20 := Lib.hid (fun u => num_le20 E m u HF.out.2.1)
      clear hd hx HFE HLC HEA
      have x := new_ea hEA HF.out
      go_wp2_with fail
      refine x.mono ?_
      rintro e w' ⟨K, rfl, hG, v1⟩
      have hB := hB.below v1
      have hT := hT.below v1
      have q := below_end q q.size v1
      clear x v1 hEA
      have x := new_el hB HFB.out
      go_wp2_with fail
      refine x.mono ?_
      rintro e w' ⟨K2, rfl, hH, v1⟩
      have hG := hG.below v1
      have hT := hT.below v1
      have q := below_end q q.size v1
      clear x v1 hB
      have x := new_el hT HFT.out
      go_wp2_with fail
      refine x.mono ?_
      rintro e w' ⟨K3, rfl, hO, v1⟩
      have hG := hG.below v1
      have hH := hH.below v1
      have q := below_end q q.size v1
      clear x v1 hT
      have x := numbers_ok hG
      go_wp2_with fail
      refine x.mono ?_
      rintro e w' ⟨gn, rfl, _, rn, v1⟩
      have hG := hG.below v1
      have hH := hH.below v1
      have hO := hO.below v1
      have q := below_end q q.size v1
      clear x v1
      have x := numbers_ok hO
      go_wp2_with fail
      refine x.mono ?_
      rintro e w8 ⟨gn2, rfl, _, rn2, v1⟩
      have hG := hG.below v1
      have hH := hH.below v1
      have hO := hO.below v1
      have rn := rn.below' v1
      have q := below_end q q.size v1
      clear x v1
      have HG := Lib.hid hG
      have HH := Lib.hid hH
      have HO := Lib.hid hO
      have HRN := Lib.hid rn
      clear hG hH hO
      go_wp2_with fail
      go_loopw [18] (fun v18 wr => ∃ i : Nat, v18 = .int .i64 i ∧ i ≤ m ∧ ∃ j, wr = w8.drewN j) (fun v _ => 20000 - (intOf v).toNat)
      case atStart => exact ⟨0, rfl, Nat.zero_le _, 0, rfl⟩
      case round =>
        obtain ⟨i, rfl, hi, j, rfl⟩ := hrel
        by_cases hlt : i < m
        · have him : (i : Int) < (m : Int) := by omega
          have c0 := rn.cell hlt
          have hk : m - 1 - i < m := by omega
          have c1 := rn2.cell hk
          rw [HTN.out i hlt] at c1
          obtain ⟨m1, hm1⟩ : ∃ m1, m - 1 = m1 := ⟨_, rfl⟩
          rw [hm1] at c1 hk
          have em1 : (m : Int) - 1 = (m1 : Int) := by omega
          obtain ⟨k, hk2⟩ : ∃ a', m1 - i = a' := ⟨_, rfl⟩
          rw [hk2] at c1 hk
          have ek : (m1 : Int) - (i : Int) = (k : Int) := by omega
          have ew1 : IntKind.i64.wrap (m1 : Int) = (m1 : Int) := by rw [IntKind.wrap_i64]; omega
          have ew2 : IntKind.i64.wrap (k : Int) = (k : Int) := by rw [IntKind.wrap_i64]; omega
          have hkm : (k : Int) < (m : Int) := by omega
          obtain ⟨f, hf⟩ : ∃ f, num E m i = f := ⟨_, rfl⟩
          rw [hf] at c0 c1
          clear hf rn rn2 hm1 hk2
          go_upto_region 19 with fail
          go_quiet (fail)
          go_wp2_with fail
          go_roundw
          case rel => exact ⟨i + 1, by simp, by omega, j + nq, by first | rfl | simp⟩
          case measure => simp [intOf]; omega
        · have eim : m = i := by omega
          subst eim
          have him : ¬ (m : Int) < (m : Int) := by omega
          have v1 := below_drewN (Below.refl w8.heap.size w8) j
          have hG := HG.out.below v1
          have hH := HH.out.below v1
          have hO := HO.out.below v1
          have rn : RowF .i64 (w8.drewN j) gn 3 m (fun u => (num E m u : Nat)) := HRN.out.drewN j
          have q := below_end q q.size v1
          clear rn2 v1 HG HH HO HRN HTN
          generalize w8.drewN j = w8 at *
          have x := densest_nice hG
          go_wp2_with fail
          refine x.mono ?_
          rintro e w9 ⟨hd, v1⟩
          have hG := hG.below v1
          have hH := hH.below v1
          have hO := hO.below v1
          have rn := rn.below' v1
          have q := below_end q q.size v1
          clear x v1
          have HDD : ∃ k N D : Int, e = .returned (.tuple #[.int .i64 k, .agg #[.int .i64 N, .int .i64 D]]) ∧ ∀ (W : World), Gr W K3 m (turnE m E) → Calls Try.prog 22 #[.pointer (some ⟨K3.g, 0, none⟩)] W fun e' w' => e' = .returned (.tuple #[.int .i64 k, .agg #[.int .i64 N, .int .i64 D]]) ∧ Below W.heap.size W w' := by
            rcases hd with ⟨h0, rfl⟩ | ⟨h0, k, a, b, hI, ha, hb, h1, la, lb, rfl⟩
            · refine ⟨_, _, _, rfl, fun W hW => (densest_nice hW).mono ?_⟩
              rintro e' w' ⟨hd', hb'⟩
              rcases hd' with ⟨_, rfl⟩ | ⟨h0', _⟩
              · exact ⟨rfl, hb'⟩
              · omega
            · refine ⟨_, _, _, rfl, fun W hW => (densest_nice hW).mono ?_⟩
              rintro e' w' ⟨hd', hb'⟩
              rcases hd' with ⟨h0', _⟩ | ⟨_, k', a', b', hI', ha', hb2, _, _, _, rfl⟩
              · omega
              · obtain rfl := hI'.uniq (dens_turn HF.out hI)
                rw [ege_turn HF.out, ← ha] at ha'
                rw [vge_turn HF.out, ← hb] at hb2
                subst ha' hb2
                exact ⟨rfl, hb'⟩
          clear hd
          obtain ⟨k, P, D, rfl, hDD⟩ := HDD
          have ka := Blk.new w9 42 #[.int .i64 P, .int .i64 D]
          have v1 := below_new1 w9 (.cells #[.int .i64 P, .int .i64 D] 42)
          have hG := hG.below v1
          have hH := hH.below v1
          have hO := hO.below v1
          have rn := rn.below' v1
          have q := below_end q q.size v1
          clear v1
          go_upto_region 22 with fail
          generalize w9.alloc (.cells #[.int .i64 P, .int .i64 D] 42) = W3 at *
          generalize w9.heap.size = gA at *
          have x := hDD _ hO
          clear hDD
          go_wp2_with fail
          refine x.mono ?_
          rintro e w10 ⟨rfl, v1⟩
          have ka := ka.below v1 ka.lt
          have hG := hG.below v1
          have hH := hH.below v1
          have hO := hO.below v1
          have rn := rn.below' v1
          have q := below_end q q.size v1
          clear x v1
          have kb := Blk.new w10 42 #[.int .i64 P, .int .i64 D]
          have v1 := below_new1 w10 (.cells #[.int .i64 P, .int .i64 D] 42)
          have ka := ka.below v1 ka.lt
          have hG := hG.below v1
          have hH := hH.below v1
          have hO := hO.below v1
          have rn := rn.below' v1
          have q := below_end q q.size v1
          clear v1
          go_upto_region 23 with fail
          generalize w10.alloc (.cells #[.int .i64 P, .int .i64 D] 42) = W4 at *
          generalize w10.heap.size = gB at *
          have a0 := ka.cell 0
          have a1 := ka.cell 1
          have b0 := kb.cell 0
          have b1 := kb.cell 1
          simp at a0 a1 b0 b1
          clear ka kb
          have x := shells_ok hG
          go_wp2_with fail
          refine x.mono ?_
          rintro e w11 ⟨vo, G, rfl, hmx, ro, v1⟩
          obtain rfl := hmx.uniq (most_is E m)
          have hG := hG.below v1
          have hH := hH.below v1
          have hO := hO.below v1
          have rn := rn.below' v1
          have q := below_end q q.size v1
          clear x v1 hmx a0 a1 b0 b1
          have x := shells_ok hO
          go_wp2_with fail
          refine x.mono ?_
          rintro e w12 ⟨vr, G, rfl, hmx, rr, v1⟩
          obtain rfl := hmx.uniq (most_is (turnE m E) m)
          rw [most_turn HF.out, shells_turn HF.out] at rr
          have hG := hG.below v1
          have hH := hH.below v1
          have rn := rn.below' v1
          have ro := ro.below v1
          have q := below_end q q.size v1
          clear x v1 hmx hO
          have hml : most E m ≤ 20000 := by
            rcases Nat.eq_zero_or_pos m with h0 | h0
            · rw [(most_is E m).2.2 h0]; omega
            · obtain ⟨v, _, e⟩ := (most_is E m).2.1 h0
              rw [e]
              exact HN20.out v
          obtain ⟨Ap, Aq, cp, cq, rfl, rfl, x⟩ := rows_same ro rr (shells_le7 _ m _ HF.out.1 hml).1 (shells_le7 _ m _ HF.out.1 hml).2
          clear ro rr hml
          go_wp2_with fail
          refine x.mono ?_
          rintro e w13 ⟨rfl, v1⟩
          have hG := hG.below v1
          have hH := hH.below v1
          have rn := rn.below' v1
          have q := below_end q q.size v1
          clear x v1
          have x := order_ok hG
          go_wp2_with fail
          refine x.mono ?_
          rintro e w14 ⟨vo, rfl, ro, v1⟩
          have hG := hG.below v1
          have hH := hH.below v1
          have rn := rn.below' v1
          have q := below_end q q.size v1
          clear x v1
          have x := order_ok hH
          rw [HORD.out] at x
          go_wp2_with fail
          refine x.mono ?_
          rintro e w15 ⟨vo2, rfl, ro2, v1⟩
          have hG := hG.below v1
          have hH := hH.below v1
          have rn := rn.below' v1
          have ro := ro.below v1
          have q := below_end q q.size v1
          clear x v1
          obtain ⟨Ao, Ar, co, cr, rfl, rfl, x⟩ := rows_same ro ro2 (fun x hx => by have := ord_lt hx; omega) (by rw [ord_len]; omega)
          clear ro ro2
          go_wp2_with fail
          refine x.mono ?_
          rintro e w16 ⟨rfl, v1⟩
          have hG := hG.below v1
          have hH := hH.below v1
          have rn := rn.below' v1
          have q := below_end q q.size v1
          clear x v1
          have x := colors_ok hG
          go_wp2_with fail
          refine x.mono ?_
          rintro e w17 ⟨g1, rfl, _, ro, v1⟩
          have hH := hH.below v1
          have rn := rn.below' v1
          have q := below_end q q.size v1
          clear x v1 hG
          have x := colors_ok hH
          rw [HORD.out, HCOL.out] at x
          go_wp2_with fail
          refine x.mono ?_
          rintro e w18 ⟨g2, rfl, _, rr, v1⟩
          have hH := hH.below v1
          have rn := rn.below' v1
          have ro := ro.below' v1
          have q := below_end q q.size v1
          clear x v1
          have x := rowF_same ro rr (by omega) (fun i hi => by have := colF_fits7 E HF.out.2.1 (ord E m) i; exact ⟨by omega, by omega⟩)
          clear ro rr
          go_wp2_with fail
          refine x.mono ?_
          rintro e w19 ⟨rfl, v1⟩
          have hH := hH.below v1
          have rn := rn.below' v1
          have q := below_end q q.size v1
          clear x v1
          have x := numbers_ok hH
          rw [HNUM.out] at x
          go_wp2_with fail
          refine x.mono ?_
          rintro e w20 ⟨g3, rfl, _, rr, v1⟩
          have rn := rn.below' v1
          have q := below_end q q.size v1
          clear x v1 hH
          have x := rowF_same rn rr (by omega) (fun i hi => by have := HN20.out i; exact ⟨by omega, by omega⟩)
          clear rn rr
          go_wp2_with fail
          refine x.mono ?_
          rintro e w21 ⟨rfl, v1⟩
          have q := below_end q q.size v1
          clear x v1
          have x := works_ok w21
          go_wp2_with fail
          refine x.mono ?_
          rintro e w22 ⟨rfl, v1⟩
          have q := below_end q q.size v1
          clear x v1
          go_wp2_with fail
          go_ret
          exact ⟨rfl, q⟩
    · obtain ⟨i, rfl⟩ : ∃ i, j = i + 1 := ⟨j - 1, by omega⟩
      have hxi : x = (i : Int) := by omega
      subst hxi
      have hi : i < E.length := by omega
      obtain ⟨g, o, hA2, hg, c0, c1⟩ := (HEA.out _ q).edge hi
      obtain ⟨ha1, hb1, hab⟩ := HFE.out i hi
      have hbk := back_step E hi
      have htk := turn_step m E hi
      obtain ⟨⟨a, b⟩, he⟩ : ∃ e, edge E i = e := ⟨_, rfl⟩
      rw [he] at c0 c1 ha1 hb1 hbk htk
      simp only [] at c0 c1 ha1 hb1 hbk htk
      subst hA2
      have HBK := Lib.hid hbk
      have HTK := Lib.hid htk
      have hlb : (backE (E.drop (i + 1))).length ≤ 20000 := by unfold backE; rw [List.length_map, List.length_reverse, List.length_drop]; omega
      have hlt : (turnE m (E.drop (i + 1))).length ≤ 20000 := by unfold turnE; rw [List.length_map, List.length_reverse, List.length_drop]; omega
      obtain ⟨FB, hFB⟩ : ∃ F, backE (E.drop (i + 1)) = F := ⟨_, rfl⟩
      obtain ⟨FT, hFT⟩ : ∃ F, turnE m (E.drop (i + 1)) = F := ⟨_, rfl⟩
      rw [hFB] at h2 HBK hlb
      rw [hFT] at h2 HTK hlt
      have H2 := Lib.hid (fun (W : World) (q : Below wr.heap.size wr W) => h2.below q)
      have HSZ := Lib.hid (fun (W : World) (qq : Below wr.heap.size wr W) => Nat.le_trans q.size qq.size)
      have HKB := Lib.hid (fun (W : World) => Blk.new W 47 #[.int .i64 (b : Int), .int .i64 (a : Int), .int .i64 7])
      have HFIN := Lib.hid (show ∀ (Wp w5 : World) (v' : Value), Below wr.heap.size wr Wp → EL w5 w1.heap.size v' (FB ++ [(b, a)]) → Wp.grownBy w5 u7.ownBlock → (v'.ownBlock = u7.ownBlock ∨ v'.ownBlock = some Wp.heap.size) → Two w5 w1.heap.size v' (FB ++ [(b, a)]) u8 FT ∧ Below w1.heap.size w1 w5 from fun Wp w5 v' g1 g2 g3 g4 => by
        have hb := below_end q q.size g1
        exact ⟨(h2.below g1).first g2 g3 g4, hb.grown g3 hb.size (fun k hk => h2.1.base k hk)⟩)
      have him : (i : Int) < (E.length : Int) := by omega
      have d0 : wr.drew.cell? _ = _ := c0
      have d1 : wr.drew.cell? _ = _ := c1
      have HE := Lib.hid he
      clear hFB hFT hbk htk he h2 q hx
      go_upto_region 6 with fail
      go_region_law (refine step_append_edge_at rfl (.tmp 36) (.tmp 48) rfl w1.heap.size u7 FB b a 7 _ rfl (H2.out _ (by repeat (first | (with_reducible exact Below.refl _ _) | (with_reducible apply bdrew) | (with_reducible apply balloc)))).1 rfl (HKB.out _) ⟨by omega, by omega⟩ hlb (HSZ.out _ (by repeat (first | (with_reducible exact Below.refl _ _) | (with_reducible apply bdrew) | (with_reducible apply balloc)))) ?_; intro v' w5 t1 t2 t3; obtain ⟨y1, y2⟩ := HFIN.out _ w5 v' (by repeat (first | (with_reducible exact Below.refl _ _) | (with_reducible apply bdrew) | (with_reducible apply balloc))) t1 t2 t3; clear t1 t2 t3)
      all_goals
        clear d0 d1 c0 c1
        obtain ⟨g', o', eA, hg', c0, c1⟩ := (HEA.out _ y2).edge hi
        cases eA
        rw [HE.out] at c0 c1
        simp only [] at c0 c1
        have d0 : w5.drew.cell? _ = _ := c0
        have d1 : w5.drew.cell? _ = _ := c1
        obtain ⟨m1, hm1⟩ : ∃ m1, m - 1 = m1 := ⟨_, rfl⟩
        have em1 : (m : Int) - 1 = (m1 : Int) := by omega
        obtain ⟨a', ha'⟩ : ∃ a', m1 - a = a' := ⟨_, rfl⟩
        obtain ⟨b', hb'⟩ : ∃ a', m1 - b = a' := ⟨_, rfl⟩
        have ea' : (m1 : Int) - (a : Int) = (a' : Int) := by omega
        have eb' : (m1 : Int) - (b : Int) = (b' : Int) := by omega
        have la' : a' < 5000 := by omega
        have lb' : b' < 5000 := by omega
        have htk2 := HTK.out
        rw [hm1, ha', hb'] at htk2
        have HTK2 := Lib.hid htk2
        have ew1 : IntKind.i64.wrap (m1 : Int) = (m1 : Int) := by rw [IntKind.wrap_i64]; omega
        have ew2 : IntKind.i64.wrap (a' : Int) = (a' : Int) := by rw [IntKind.wrap_i64]; omega
        have ew3 : IntKind.i64.wrap (b' : Int) = (b' : Int) := by rw [IntKind.wrap_i64]; omega
        have H3 := Lib.hid (fun (W : World) (q : Below w5.heap.size w5 W) => y1.below q)
        have HSZ2 := Lib.hid (fun (W : World) (qq : Below w5.heap.size w5 W) => Nat.le_trans y2.size qq.size)
        have HKB2 := Lib.hid (fun (W : World) => Blk.new W 47 #[.int .i64 (a' : Int), .int .i64 (b' : Int), .int .i64 0])
        have HFIN2 := Lib.hid (show ∀ (Wp w6 : World) (u' : Value), Below w5.heap.size w5 Wp → EL w6 w1.heap.size u' (FT ++ [(a', b')]) → Wp.grownBy w6 u8.ownBlock → (u'.ownBlock = u8.ownBlock ∨ u'.ownBlock = some Wp.heap.size) → Two w6 w1.heap.size v' (FB ++ [(b, a)]) u' (FT ++ [(a', b')]) ∧ Below w1.heap.size w1 w6 from fun Wp w6 u' g1 g2 g3 g4 => by
          have hb := below_end y2 y2.size g1
          exact ⟨(y1.below g1).second g2 g3 g4, hb.grown g3 hb.size (fun k hk => y1.2.1.base k hk)⟩)
        clear y1 y2 hm1 ha' hb' htk2 H2 HSZ HKB HFIN HTK
        go_upto_region 7 with fail
        go_region_law (refine step_append_edge_at rfl (.tmp 50) (.tmp 68) rfl w1.heap.size u8 FT a' b' 0 _ rfl (H3.out _ (by repeat (first | (with_reducible exact Below.refl _ _) | (with_reducible apply bdrew) | (with_reducible apply balloc)))).2.1 rfl (HKB2.out _) ⟨by omega, by omega⟩ hlt (HSZ2.out _ (by repeat (first | (with_reducible exact Below.refl _ _) | (with_reducible apply bdrew) | (with_reducible apply balloc)))) ?_; intro v2 w6 t1 t2 t3; obtain ⟨y1, y2⟩ := HFIN2.out _ w6 v2 (by repeat (first | (with_reducible exact Below.refl _ _) | (with_reducible apply bdrew) | (with_reducible apply balloc))) t1 t2 t3; clear t1 t2 t3)
        all_goals
          clear d0 d1 c0 c1
          go_wp2_with fail
          go_roundw
          case rel => exact ⟨i, (i : Int) - 1, by first | rfl | simp, rfl, by omega, by rw [HBK.out, HTK2.out]; exact y1, y2⟩
          case measure => simp [intOf]; try omega
end Go.Proofs.Ytoiafopndlnknaa
