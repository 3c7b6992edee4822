/-
  Densest, walked.
-/
import Derived.Test.YtoiafopndlnknaaG7
set_option linter.unusedVariables false
set_option linter.unusedSimpArgs false
namespace Go.Proofs.Ytoiafopndlnknaa
open Go.RowKit Go.Shelf

theorem info2 : (Try.prog.info? 2).map (fun i => (i.zero, i.size, i.bytes)) = some (some (.int .i64 0), 1, 8) := by kernel_rfl
theorem run_make72 (n : Nat) (hn : n ≤ 100000) (w : World) :
    (Instr.makeSlice 72 (.int .i64 (n : Int)) (.int .i64 (n : Int))).run Try.prog w = .ok (.slice (some ⟨w.heap.size, 0, none⟩) n n) (w.alloc (.cells (zerosK .i64 n) 2)) := by
  obtain ⟨i0, hi, hz0, hz1, hz2⟩ := info_parts info2
  have hr := Go.run_make (P := Try.prog) w 72 2 i0 (.int .i64 0) Try.underlying72 hi hz0 .i64 .i64 n n (by omega) (by omega) (by rw [hz2]; omega) (by omega)
  simp only [Int.toNat_natCast] at hr
  rw [hr, hz1, Nat.mul_one]
  rfl
/-- sums from x on: at distance j from G -/
def suf (c : Nat → Nat) (G : Nat) : Nat → Nat
  | 0 => c G
  | j + 1 => c (G - (j + 1)) + suf c G j
def sufF (c : Nat → Nat) (G x : Nat) : Nat := suf c G (G - x)
theorem sufF_top (c : Nat → Nat) (G : Nat) : sufF c G G = c G := by unfold sufF; rw [Nat.sub_self]; rfl
theorem sufF_step (c : Nat → Nat) {G x : Nat} (h : x < G) : sufF c G x = c x + sufF c G (x + 1) := by
  unfold sufF
  rw [show G - x = (G - (x + 1)) + 1 by omega]
  show c (G - (G - (x + 1) + 1)) + _ = _
  rw [show G - (G - (x + 1) + 1) = x by omega]
theorem suf_le {c : Nat → Nat} {G M : Nat} (h : ∀ x, c x ≤ M) : ∀ j, suf c G j ≤ (j + 1) * M
  | 0 => by show c G ≤ _; have := h G; omega
  | j + 1 => by
    show c _ + suf c G j ≤ _
    have h1 := suf_le (G := G) h j
    have h2 := h (G - (j + 1))
    rw [Nat.succ_mul]
    omega
theorem suf_ge (c : Nat → Nat) (G : Nat) : ∀ j, c G ≤ suf c G j
  | 0 => Nat.le_refl _
  | j + 1 => by have := suf_ge c G j; show c G ≤ c _ + suf c G j; omega
theorem cntN_pos {f : Nat → Nat} {n G : Nat} (h : IsMaxOf f n G) (hn : n ≠ 0) : 1 ≤ cntN f n G := by
  obtain ⟨i, hi, e⟩ := h.2.1 (by omega)
  have key : ∀ m, i < m → 1 ≤ cntN f m G := by
    intro m
    induction m with
    | zero => intro h; omega
    | succ m ih =>
      intro h
      rw [cntN_succ]
      unfold upd
      by_cases e2 : i = m
      · subst e2; rw [if_pos e]; omega
      · have := ih (by omega)
        by_cases e3 : G = f m
        · rw [if_pos e3]; omega
        · rw [if_neg e3]; exact this
  exact key n hi
/-- the half-summed row: below i as it was, from i on summed -/
def half (c : Nat → Nat) (G i : Nat) : Nat → Nat := fun x => if x < i then c x else sufF c G x
/-- what the search for the densest core holds -/
def dens (V W : Nat → Nat) : Nat → Nat × Int × Int
  | 0 => (0, -1, 1)
  | i + 1 => if (dens V W i).2.1 * (V i : Nat) ≤ (W i : Nat) * (dens V W i).2.2 then (i, (W i : Nat), (V i : Nat)) else dens V W i
theorem dens_bound {V W : Nat → Nat} {M : Nat} (hV : ∀ i, 1 ≤ V i ∧ V i ≤ M) (hW : ∀ i, W i ≤ M) (hM : 1 ≤ M) : ∀ i, (dens V W i).1 ≤ i ∧ -1 ≤ (dens V W i).2.1 ∧ (dens V W i).2.1 ≤ M ∧ 1 ≤ (dens V W i).2.2 ∧ (dens V W i).2.2 ≤ M
  | 0 => by refine ⟨Nat.le_refl _, by show (-1 : Int) ≤ -1; omega, by show (-1 : Int) ≤ _; omega, by show (1 : Int) ≤ 1; omega, by show (1 : Int) ≤ _; omega⟩
  | i + 1 => by
    have ih := dens_bound hV hW hM i
    have h1 := hV i
    have h2 := hW i
    unfold dens
    split
    · exact ⟨by show i ≤ i + 1; omega, by show (-1 : Int) ≤ (W i : Nat); omega, by show ((W i : Nat) : Int) ≤ _; omega, by show (1 : Int) ≤ (V i : Nat); omega, by show ((V i : Nat) : Int) ≤ _; omega⟩
    · exact ⟨by omega, ih.2⟩
def eMin (E : Es) (f : Nat → Nat) : Nat → Nat := fun i => min (f (edge E i).1) (f (edge E i).2)
/-- the vertices and the edges from core number x on -/
def vUp (f : Nat → Nat) (n G : Nat) : Nat → Nat := sufF (cntN f n) G
def eUp (E : Es) (f : Nat → Nat) (G : Nat) : Nat → Nat := sufF (cntN (eMin E f) E.length) G
theorem ArgS.far {ks : List IntKind} {w : World} {A : Option Addr} {m c : Nat} {z : Nat → Nat → Int} (h : ArgS ks w A m c z) {p : Addr} (hp : ∀ g o, A = some ⟨g, o, none⟩ → g ≠ p.block) (u : Value) : ArgS ks (w.setCell p u) A m c z := by
  obtain ⟨h1, h2, h3, h4⟩ := h
  refine ⟨h1, h2, fun hn => ?_, h4⟩
  obtain ⟨g, o, e, hg, hc⟩ := h3 hn
  exact ⟨g, o, e, by simpa using hg, fun i hi j k hj => (World.cell?_of_block (w := w) (Below.heap_setCell w p u g (hp g o e))).trans (hc i hi j k hj)⟩
theorem ArgS.drew {ks : List IntKind} {w : World} {A : Option Addr} {m c : Nat} {z : Nat → Nat → Int} (h : ArgS ks w A m c z) : ArgS ks w.drew A m c z := h
theorem comV_of {y x : Nat} {a b : Int} (hx : 1 ≤ x) (hb : 1 ≤ b) : 0 ≤ comV (y : Int) (x : Int) a b ↔ a * (x : Int) ≤ (y : Int) * b := by
  unfold comV
  rw [if_neg (by omega)]
  rcases Int.lt_trichotomy ((y : Int) * b) (a * (x : Int)) with h | h | h
  · rw [cmp_lt h]; omega
  · rw [cmp_eq h]; omega
  · rw [cmp_gt h]; omega
theorem half_top (c : Nat → Nat) (G x : Nat) (hx : x < G + 1) : (c x : Int) = (half c G G x : Nat) := by
  unfold half
  by_cases h : x < G
  · rw [if_pos h]
  · rw [if_neg h, show x = G by omega, sufF_top]
theorem half_low (c : Nat → Nat) (G x : Nat) : half c G 0 x = sufF c G x := if_neg (by omega)
theorem half_at (c : Nat → Nat) (G j : Nat) : half c G (j + 1) j = c j := if_pos (by omega)
theorem half_above (c : Nat → Nat) (G j : Nat) : half c G (j + 1) (j + 1) = sufF c G (j + 1) := if_neg (by omega)
theorem half_step (c : Nat → Nat) {G j : Nat} (hj : j < G) (x : Nat) : half c G j x = if x = j then c j + sufF c G (j + 1) else half c G (j + 1) x := by
  unfold half
  by_cases e : x = j
  · subst e; rw [if_neg (by omega), if_pos rfl, sufF_step c hj]
  · rw [if_neg e]
    by_cases h : x < j
    · rw [if_pos h, if_pos (by omega)]
    · rw [if_neg h, if_neg (by omega)]
/-- what Densest gives -/
def DensR (w : World) (n : Nat) (E : Es) (f : Nat → Nat) (e : Ending) (w' : World) : Prop :=
  ((n = 0 ∧ e = .returned (.tuple #[.int .i64 0, .agg #[.int .i64 0, .int .i64 1]])) ∨ (0 < n ∧ ∃ G, IsMaxOf f n G ∧ e = .returned (.tuple #[.int .i64 ((dens (vUp f n G) (eUp E f G) (G + 1)).1 : Nat), .agg #[.int .i64 (redN (dens (vUp f n G) (eUp E f G) (G + 1)).2.1 (dens (vUp f n G) (eUp E f G) (G + 1)).2.2), .int .i64 (redD (dens (vUp f n G) (eUp E f G) (G + 1)).2.1 (dens (vUp f n G) (eUp E f G) (G + 1)).2.2)]]))) ∧ Below w.heap.size w w'
set_option maxRecDepth 100000 in
set_option maxHeartbeats 4000000 in
theorem densest_ok {w : World} {K : GB} {n : Nat} {E : Es} (hG : Gr w K n E) :
    Calls Try.prog 22 #[.pointer (some ⟨K.g, 0, none⟩)] w fun e w' => DensR w n E (num E n) e w' := by
  have hn := hG.fine.1
  have hm := hG.fine.2.1
  have HF := Lib.hid (fun u => num_le20 E n u hG.fine.2.1)
  have b1 := below_new1 w (.cells #[.int .i64 0, .int .i64 0] 42)
  have kb3 := Blk.new w 42 #[.int .i64 0, .int .i64 0]
  have hG1 := hG.below b1
  have HKL := Lib.hid hG.lt
  have x0 := strength_ok hG1
  have x1 := n_ok hG1
  clear hG
  go_enter Try.func22, Try.ntmps22
  go_upto_region 1 with fail
  generalize w.alloc (.cells #[.int .i64 0, .int .i64 0] 42) = W1 at *
  obtain ⟨B3, hB3⟩ : ∃ x, w.heap.size = x := ⟨_, rfl⟩
  have hB30 : w.heap.size ≤ B3 := by omega
  rw [hB3] at kb3
  rw [hB3]
  clear hB3
  go_wp2_with fail
  refine x0.mono ?_
  rintro e w' ⟨rfl, rfl⟩
  clear x0
  by_cases hn0 : n = 0
  · subst hn0
    have c0 := kb3.cell 0
    have c1 := kb3.cell 1
    have c2 := kb3.frozen 0
    have c3 := kb3.frozen 1
    simp at c0 c1
    go_wp2_with fail
    refine x1.mono ?_
    rintro e w' ⟨rfl, rfl⟩
    go_wp2_with fail
    have k4 : Blk ((W1.setCell ⟨B3, 0, none⟩ (.int .i64 0)).setCell ⟨B3, 1, none⟩ (.int .i64 1)) B3 42 #[.int .i64 0, .int .i64 1] := by
      have := (kb3.set_ 0 (.int .i64 0)).set_ 1 (.int .i64 1)
      simpa using this
    have q4 := (b1.setCell (p := ⟨B3, 0, none⟩) hB30 (.int .i64 0)).setCell (p := ⟨B3, 1, none⟩) hB30 (.int .i64 1)
    clear c0 c1 c2 c3
    generalize (W1.setCell ⟨B3, 0, none⟩ (.int .i64 0)).setCell ⟨B3, 1, none⟩ (.int .i64 1) = W2 at *
    have c0 := k4.cell 0
    have c1 := k4.cell 1
    simp at c0 c1
    simp [bodyPost, results, Try.results22, go_sem, c0, c1]
    exact ⟨.inl ⟨rfl, rfl⟩, q4⟩
  · have hnz : ((n : Int) == 0) = false := by simp; omega
    have hnz2 : ¬ (n : Int) = 0 := by omega
    go_wp2_with fail
    refine x1.mono ?_
    rintro e w' ⟨rfl, rfl⟩
    clear x1
    have xn := numbers_ok hG1
    obtain ⟨f, hf⟩ : ∃ f, num E n = f := ⟨_, rfl⟩
    rw [hf] at xn HF
    have HFE := Lib.hid hf
    go_wp2_with fail
    refine xn.mono ?_
    rintro e w2 ⟨gn, rfl, hgn, hR, q2⟩
    have hG2 := hG1.below q2
    have k32 := kb3.below q2 kb3.lt
    have q := below_end b1 b1.size q2
    have xm := max_ok n n (some ⟨gn, 0, none⟩) f w2 (hR.arg (by omega) (fun i hi => fits_wf ⟨by have := HF.out i; omega, by have := HF.out i; omega⟩)) (by omega) (by omega)
    have hB3n : B3 < gn := Nat.lt_of_lt_of_le kb3.lt hgn
    clear xn hG1 kb3 b1 q2 hf
    go_wp2_with fail
    refine xm.mono ?_
    rintro e w' ⟨G, rfl, hG1, hG2', rfl⟩
    clear xm
    have HMX := Lib.hid (show IsMaxOf f n G from ⟨hG2', fun _ => hG1, fun h => absurd h hn0⟩)
    have hGl : G ≤ 20000 := by obtain ⟨i, _, e⟩ := hG1; rw [e]; exact HF.out i
    have HGL := Lib.hid hG2'
    clear hG1 hG2'
    have mk1 : ∀ w, (Instr.makeSlice 72 (.int .i64 ((G : Int) + 1)) (.int .i64 ((G : Int) + 1))).run Try.prog w = _ := fun w => run_make72 (G + 1) (by omega) w
    have b3 := below_new2 w2 (.cells (zerosK .i64 (G + 1)) 2) (.cells (zerosK .i64 (G + 1)) 2)
    have rv := (RowF.new .i64 w2 2 (G + 1)).alloc (.cells (zerosK .i64 (G + 1)) 2)
    have re : RowF .i64 ((w2.alloc (.cells (zerosK .i64 (G + 1)) 2)).alloc (.cells (zerosK .i64 (G + 1)) 2)) (w2.heap.size + 1) 2 (G + 1) (fun _ => 0) := by
      have := RowF.new .i64 (w2.alloc (.cells (zerosK .i64 (G + 1)) 2)) 2 (G + 1)
      simpa using this
    have hR3 := hR.below' b3
    have hG3 := hG2.below b3
    have k33 := k32.below b3 k32.lt
    have q3 := below_end q q.size b3
    have hlt := hR.lt
    have hq := q.size
    go_upto_region 10 with fail
    clear mk1 hR hG2 k32 q b3
    generalize (w2.alloc (.cells (zerosK .i64 (G + 1)) 2)).alloc (.cells (zerosK .i64 (G + 1)) 2) = W3 at *
    obtain ⟨gv, hgv⟩ : ∃ x, w2.heap.size = x := ⟨_, rfl⟩
    obtain ⟨ge, hge⟩ : ∃ x, w2.heap.size + 1 = x := ⟨_, rfl⟩
    have hne : gv ≠ ge ∧ gn < gv ∧ B3 < gv ∧ B3 < ge ∧ gn < ge ∧ w.heap.size ≤ gv ∧ w.heap.size ≤ ge ∧ B3 < gn := by omega
    rw [hgv] at rv
    rw [hge] at re
    rw [hge, hgv]
    clear hgv hge hlt hq hgn
    go_wp2_with fail
    go_loopw [11, 44] (fun _ v wr => ∃ i : Nat, v = .int .i64 i ∧ i ≤ n ∧ RowF .i64 wr gv 2 (G + 1) (fun x => (cntN f i x : Nat)) ∧ RowF .i64 wr ge 2 (G + 1) (fun _ => 0) ∧ RowF .i64 wr gn 3 n (fun u => (f u : Nat)) ∧ Gr wr K n E ∧ Blk wr B3 42 #[.int .i64 0, .int .i64 0] ∧ Below w.heap.size w wr) (fun _ v _ => 20000 - (intOf v).toNat)
    case atStart => exact ⟨0, rfl, Nat.zero_le _, rv.congr (fun _ _ => rfl), re, hR3, hG3, k33, q3⟩
    case round =>
      clear rv re hR3 hG3 k33 q3
      obtain ⟨i, rfl, hi, rv, re, hR, hG, kb3, q⟩ := hrel
      by_cases hlt : i < n
      · have hin : (i : Int) < (n : Int) := by omega
        have c1 := hR.cell hlt
        have hxG := HGL.out i hlt
        have HC := Lib.hid (cntN_succ f i)
        obtain ⟨x, hx⟩ : ∃ x, f i = x := ⟨_, rfl⟩
        rw [hx] at c1 hxG HC
        have hxG2 : (x : Int) < (G : Int) + 1 := by omega
        have c2 := rv.cell (i := x) (by omega)
        have c3 := rv.frozen x
        have hq := cntN_le f i x
        obtain ⟨q0, hq0⟩ : ∃ q0, cntN f i x = q0 := ⟨_, rfl⟩
        rw [hq0] at c2 hq
        have HQ := Lib.hid hq0
        have rv2 := rv.set_ x ((q0 : Int) + 1)
        have re2 := re.far (p := ⟨gv, x, none⟩) (Ne.symm hne.1) (.int .i64 ((q0 : Int) + 1))
        have hR2 := hR.far (p := ⟨gv, x, none⟩) (by show gn ≠ gv; omega) (.int .i64 ((q0 : Int) + 1))
        have k32 := kb3.far (p := ⟨gv, x, none⟩) (by show B3 ≠ gv; omega) (.int .i64 ((q0 : Int) + 1))
        have hG2 : Gr (wr.setCell ⟨gv, x, none⟩ (.int .i64 ((q0 : Int) + 1))) K n E := hG.heap (fun k hk => Below.heap_setCell wr _ _ k (by have := HKL.out k hk; show k ≠ gv; omega)) (by simp)
        have q2 := q.setCell (p := ⟨gv, x, none⟩) hne.2.2.2.2.2.1 (.int .i64 ((q0 : Int) + 1))
        clear hx hq0 rv re hR kb3 hG q
        go_wp2_with fail
        go_roundw
        case rel => exact ⟨i + 1, by simp, by omega, rv2.congr (fun y hy => by
          rw [HC.out y]
          unfold upd
          by_cases e : y = x
          · subst e; rw [if_pos rfl, if_pos rfl, HQ.out]; omega
          · rw [if_neg e, if_neg e]), re2, hR2, hG2, k32, q2⟩
        case measure => simp [intOf]; omega
      · have ein : n = i := by omega
        subst ein
        have hin : ¬ (n : Int) < (n : Int) := by omega
        have xe := edges_ok hG
        go_wp2_with fail
        refine xe.mono ?_
        rintro e w4 ⟨A, c, z, rfl, ha, hz, hga, q4⟩
        have rv := rv.below' q4
        have hge4 := re.lt
        have re := re.below' q4
        have hR := hR.below' q4
        have kb3 := kb3.below q4 kb3.lt
        have hEN := Lib.hid (fun i (hi : i < E.length) => hG.edge hi)
        have q := below_end q q.size q4
        have HZ := Lib.hid hz
        have hgew := hge4
        have HGA := Lib.hid (show 0 < E.length → ∃ g, A = some ⟨g, 0, none⟩ ∧ ge < g from fun h => by obtain ⟨g, e, hg⟩ := hga h; exact ⟨g, e, by omega⟩)
        clear hga
        obtain ⟨m, hm'⟩ : ∃ m, E.length = m := ⟨_, rfl⟩
        rw [hm'] at ha hm ⊢
        have HM := Lib.hid hm'
        have hc63 := ha.2.1
        have hmc := ha.1
        clear xe hG q4 hz hm'
        go_wp2_with fail
        go_loopw [13, 58] (fun _ v wr => ∃ i : Nat, v = .int .i64 i ∧ i ≤ m ∧ RowF .i64 wr gv 2 (G + 1) (fun x => (cntN f n x : Nat)) ∧ RowF .i64 wr ge 2 (G + 1) (fun x => (cntN (eMin E f) i x : Nat)) ∧ RowF .i64 wr gn 3 n (fun u => (f u : Nat)) ∧ ArgS k3 wr A m c z ∧ Blk wr B3 42 #[.int .i64 0, .int .i64 0] ∧ Below w.heap.size w wr) (fun _ v _ => 20000 - (intOf v).toNat)
        case atStart => exact ⟨0, rfl, Nat.zero_le _, rv, re.congr (fun _ _ => rfl), hR, ha, kb3, q⟩
        case round =>
          clear rv re hR kb3 q ha
          obtain ⟨i, rfl, hi, rv, re, hR, ha, kb3, q⟩ := hrel
          by_cases hlt : i < m
          · have hin : (i : Int) < (m : Int) := by omega
            obtain ⟨g9, o9, rfl, hg9, e0, e1, e2, f0, f1, f2⟩ := ha.edge hlt
            obtain ⟨z0, z1⟩ := HZ.out i (by rw [HM.out]; exact hlt)
            obtain ⟨hu, hv, huv⟩ := hEN.out i (by rw [HM.out]; exact hlt)
            rw [z0] at e0
            rw [z1] at e1
            have HC := Lib.hid (cntN_succ (eMin E f) i)
            obtain ⟨u, hu'⟩ : ∃ u, (edge E i).1 = u := ⟨_, rfl⟩
            obtain ⟨v, hv'⟩ : ∃ u, (edge E i).2 = u := ⟨_, rfl⟩
            obtain ⟨x, hx⟩ : ∃ x, eMin E f i = x := ⟨_, rfl⟩
            have hx2 : min (f u) (f v) = x := by rw [← hx]; unfold eMin; rw [hu', hv']
            rw [hu'] at e0 hu
            rw [hv'] at e1 hv
            rw [hx] at HC
            obtain ⟨y, hy⟩ : ∃ y, z i 2 = y := ⟨_, rfl⟩
            rw [hy] at e2
            have c1 := hR.cell hu
            have c2 := hR.cell hv
            have hfu := HGL.out u hu
            obtain ⟨fu, hfu'⟩ : ∃ q, f u = q := ⟨_, rfl⟩
            obtain ⟨fv, hfv'⟩ : ∃ q, f v = q := ⟨_, rfl⟩
            rw [hfu'] at c1 hfu hx2
            rw [hfv'] at c2 hx2
            have hmin : min (fu : Int) (fv : Int) = (x : Int) := by omega
            have hxG2 : (x : Int) < (G : Int) + 1 := by omega
            have hun : (u : Int) < (n : Int) := by omega
            have hvn : (v : Int) < (n : Int) := by omega
            have hq := cntN_le (eMin E f) i x
            have HFU := Lib.hid hfu'
            have HFV := Lib.hid hfv'
            clear hx hx2 hu' hv' hy hfu' hfv' z0 z1 f0 f1 f2
            go_upto_region 18 with fail
            clear e0 e1 e2 c1 c2
            have kb := Blk.new wr 47 #[.int .i64 (u : Int), .int .i64 (v : Int), .int .i64 y]
            have bA := below_new1 wr (.cells #[.int .i64 (u : Int), .int .i64 (v : Int), .int .i64 y] 47)
            have rv := rv.below' bA
            have re := re.below' bA
            have haA := ha.below bA
            have kb3 := kb3.below bA kb3.lt
            have hR := hR.below' bA
            have q := below_end q q.size bA
            generalize wr.alloc (.cells #[.int .i64 (u : Int), .int .i64 (v : Int), .int .i64 y] 47) = WA at *
            generalize wr.heap.size = gB at *
            clear bA ha
            have c0 := kb.cell 0
            have d0 := kb.cell 1
            simp at c0 d0
            have c1 := hR.cell hu
            have c2 := hR.cell hv
            rw [HFU.out] at c1
            rw [HFV.out] at c2
            have c3 := re.cell (i := x) (by omega)
            have c4 := re.frozen x
            obtain ⟨q0, hq0⟩ : ∃ q0, cntN (eMin E f) i x = q0 := ⟨_, rfl⟩
            rw [hq0] at c3 hq
            have HQ := Lib.hid hq0
            clear hq0
            go_region
            have re2 := (re.set_ x ((q0 : Int) + 1)).drew
            have rv2 := (rv.far (p := ⟨ge, x, none⟩) hne.1 (.int .i64 ((q0 : Int) + 1))).drew
            have hR2 := (hR.far (p := ⟨ge, x, none⟩) (by show gn ≠ ge; omega) (.int .i64 ((q0 : Int) + 1))).drew
            have kb32 := (kb3.far (p := ⟨ge, x, none⟩) (by show B3 ≠ ge; omega) (.int .i64 ((q0 : Int) + 1))).drew
            have ha2 := (haA.far (p := ⟨ge, x, none⟩) (by
              intro g o e
              obtain ⟨g', e', hg'⟩ := HGA.out (by rw [HM.out]; omega)
              rw [e] at e'
              cases e'
              show g ≠ ge
              omega) (.int .i64 ((q0 : Int) + 1))).drew
            have q2 := (q.setCell (p := ⟨ge, x, none⟩) hne.2.2.2.2.2.2.1 (.int .i64 ((q0 : Int) + 1))).drew
            generalize (WA.setCell ⟨ge, x, none⟩ (.int .i64 ((q0 : Int) + 1))).drew = WB at *
            clear rv re hR haA kb3 q kb c0 d0 c1 c2 c3 c4
            go_wp2_with fail
            go_roundw
            case rel => exact ⟨i + 1, by simp, by omega, rv2, re2.congr (fun y hy => by
              rw [HC.out y]
              unfold upd
              by_cases e : y = x
              · subst e; rw [if_pos rfl, if_pos rfl, HQ.out]; omega
              · rw [if_neg e, if_neg e]), hR2, ha2, kb32, q2⟩
            case measure => simp [intOf]; omega
          · have eim : m = i := by omega
            subst eim
            have hin : ¬ (m : Int) < (m : Int) := by omega
            clear ha hR HZ hEN HGA
            have HV := Lib.hid (fun x => cntN_le f n x)
            have HW := Lib.hid (fun x => cntN_le (eMin E f) m x)
            have HX := Lib.hid (HMX.out)
            obtain ⟨cv, hcv⟩ : ∃ cv, cntN f n = cv := ⟨_, rfl⟩
            obtain ⟨cw, hcw⟩ : ∃ cv, cntN (eMin E f) m = cv := ⟨_, rfl⟩
            rw [hcv] at rv HV
            rw [hcw] at re HW
            have HCV := Lib.hid hcv
            have HCW := Lib.hid hcw
            clear hcv hcw
            have rv := rv.congr (half_top cv G)
            have re := re.congr (half_top cw G)
            go_wp2_with fail
            go_loopg [14] G (fun k p wr => p = .int .i64 ((k : Int) - 1) ∧ k ≤ G ∧ RowF .i64 wr gv 2 (G + 1) (fun x => (half cv G k x : Nat)) ∧ RowF .i64 wr ge 2 (G + 1) (fun x => (half cw G k x : Nat)) ∧ Blk wr B3 42 #[.int .i64 0, .int .i64 0] ∧ Below w.heap.size w wr)
            case atStart => exact ⟨rfl, Nat.le_refl _, rv, re, kb3, q⟩
            case round =>
              clear rv re kb3 q
              obtain ⟨rfl, hk, rv, re, kb3, q⟩ := hrel
              rcases gk with _ | j
              · have rv := rv.congr (f' := fun x => (sufF cv G x : Nat)) (fun x _ => by rw [half_low])
                have re := re.congr (f' := fun x => (sufF cw G x : Nat)) (fun x _ => by rw [half_low])
                have HVB := Lib.hid (show ∀ i, 1 ≤ sufF cv G i ∧ sufF cv G i ≤ 400080004 from fun i => by
                  refine ⟨?_, ?_⟩
                  · have h1 := suf_ge cv G (G - i)
                    have h2 := cntN_pos HX.out hn0
                    rw [HCV.out] at h2
                    unfold sufF; omega
                  · have h1 := suf_le (G := G) (M := n) HV.out (G - i)
                    have h2 : (G - i + 1) * n ≤ 20001 * 4096 := Nat.mul_le_mul (by omega) hn
                    unfold sufF; omega)
                have HWB := Lib.hid (show ∀ i, sufF cw G i ≤ 400080004 from fun i => by
                  have h1 := suf_le (G := G) (M := m) HW.out (G - i)
                  have h2 : (G - i + 1) * m ≤ 20001 * 20000 := Nat.mul_le_mul (by omega) (by omega)
                  unfold sufF; omega)
                have HVE := Lib.hid (show vUp f n G = sufF cv G by unfold vUp; rw [HCV.out])
                have HWE := Lib.hid (show eUp E f G = sufF cw G by unfold eUp; rw [HM.out, HCW.out])
                obtain ⟨V, hV⟩ : ∃ V, sufF cv G = V := ⟨_, rfl⟩
                obtain ⟨W, hW⟩ : ∃ V, sufF cw G = V := ⟨_, rfl⟩
                rw [hV] at rv HVB HVE
                rw [hW] at re HWB HWE
                clear hV hW HV HW HCV HCW HX
                have HB := Lib.hid (fun i => dens_bound HVB.out HWB.out (by omega) i)
                have e0 : ((0 : Nat) : Int) - 1 = -1 := rfl
                rw [e0]
                clear e0 HM hk
                go_upto_region 26 with fail
                have HLV := Lib.hid rv.lt
                have HLE := Lib.hid re.lt
                have HL3 := Lib.hid kb3.lt
                have kb := Blk.new wr 42 #[.int .i64 (-1), .int .i64 1]
                have bA := below_new1 wr (.cells #[.int .i64 (-1), .int .i64 1] 42)
                have rv := rv.below' bA
                have re := re.below' bA
                have kb3 := kb3.below bA kb3.lt
                have hq := q.size
                have q := below_end q q.size bA
                generalize wr.alloc (.cells #[.int .i64 (-1), .int .i64 1] 42) = WA at *
                obtain ⟨gB, hgB⟩ : ∃ x, wr.heap.size = x := ⟨_, rfl⟩
                have hgB2 := kb3.lt
                have hgB3 : w.heap.size ≤ gB := by omega
                rw [hgB] at kb
                rw [hgB]
                have hlv := rv.lt
                have hle := re.lt
                have hne2 : gv ≠ gB ∧ ge ≠ gB ∧ B3 ≠ gB := by
                  refine ⟨?_, ?_, ?_⟩
                  · rintro rfl; exact absurd (HLV.out) (by rw [← hgB]; omega)
                  · rintro rfl; exact absurd (HLE.out) (by rw [← hgB]; omega)
                  · rintro rfl; exact absurd (HL3.out) (by rw [← hgB]; omega)
                clear hgB hgB2 hq hlv hle bA HLV HLE HL3
                go_wp2_with fail
                go_loopw [2, 16, 17, 18, 19, 110] (fun v2 _ _ _ _ v wr => ∃ i : Nat, v = .int .i64 i ∧ i ≤ G + 1 ∧ v2 = .int .i64 ((dens V W i).1 : Nat) ∧ RowF .i64 wr gv 2 (G + 1) (fun x => (V x : Nat)) ∧ RowF .i64 wr ge 2 (G + 1) (fun x => (W x : Nat)) ∧ Blk wr gB 42 #[.int .i64 (dens V W i).2.1, .int .i64 (dens V W i).2.2] ∧ Blk wr B3 42 #[.int .i64 0, .int .i64 0] ∧ Below w.heap.size w wr) (fun _ _ _ _ _ v _ => 30000 - (intOf v).toNat)
                case atStart => exact ⟨0, rfl, Nat.zero_le _, rfl, rv, re, kb, kb3, q⟩
                case round =>
                  clear rv re kb kb3 q
                  obtain ⟨i, rfl, hi, rfl, rv, re, kb, kb3, q⟩ := hrel
                  by_cases hlt : i < G + 1
                  · have hin : (i : Int) < ((G + 1 : Nat) : Int) := by omega
                    have hin2 : (i : Int) < (G : Int) + 1 := by omega
                    have p1 := rv.cell hlt
                    have p2 := re.cell hlt
                    have hV1 := HVB.out i
                    have hW1 := HWB.out i
                    obtain ⟨_, hb1, hb2, hb3, hb4⟩ := HB.out i
                    have HD := Lib.hid (show dens V W (i + 1) = if (dens V W i).2.1 * (V i : Nat) ≤ ((W i : Nat) : Int) * (dens V W i).2.2 then (i, ((W i : Nat) : Int), ((V i : Nat) : Int)) else dens V W i from rfl)
                    obtain ⟨x, hx⟩ : ∃ x, V i = x := ⟨_, rfl⟩
                    obtain ⟨y, hy⟩ : ∃ x, W i = x := ⟨_, rfl⟩
                    rw [hx, hy] at HD
                    rw [hx] at p1 hV1
                    rw [hy] at p2 hW1
                    obtain ⟨kk, bn, bd, hdd⟩ : ∃ kk bn bd, dens V W i = (kk, bn, bd) := ⟨_, _, _, rfl⟩
                    rw [hdd] at HD kb hb1 hb2 hb3 hb4 ⊢
                    have HDD := Lib.hid hdd
                    have p3 := (rv.alloc (.cells #[.int .i64 0, .int .i64 0] 42)).cell hlt
                    have p4 := (re.alloc (.cells #[.int .i64 0, .int .i64 0] 42)).cell hlt
                    rw [hx] at p3
                    rw [hy] at p4
                    have HCO := Lib.hid (comV_of (y := y) (x := x) (a := bn) (b := bd) hV1.1 hb3)
                    simp only [] at HD kb hb1 hb2 hb3 hb4 ⊢
                    clear hx hy hdd
                    go_upto_region 29 with fail
                    go_region
                    all_goals (
                      have bA := (below_new1 wr (.cells #[.int .i64 (y : Int), .int .i64 (x : Int)] 42)).drew
                      have kN := (Blk.new wr 42 #[.int .i64 (y : Int), .int .i64 (x : Int)]).drew
                      have rv := rv.below' bA
                      have re := re.below' bA
                      have kb := kb.below bA kb.lt
                      have kb3 := kb3.below bA kb3.lt
                      have q := below_end q q.size bA
                      generalize (wr.alloc (.cells #[.int .i64 (y : Int), .int .i64 (x : Int)] 42)).drew = WA at *
                      generalize wr.heap.size = gN at *
                      clear bA)
                    all_goals (
                      have fy : Fits (y : Int) := ⟨by omega, by omega⟩
                      have fx : Fits (x : Int) := ⟨by omega, by omega⟩
                      have fn : Fits bn := ⟨by omega, by omega⟩
                      have fd : Fits bd := ⟨by omega, by omega⟩
                      have xc := compare_ok (y : Int) (x : Int) bn bd fy fx fn fd WA
                      have r0 := kN.cell 0
                      have r1 := kN.cell 1
                      have s0 := kb.cell 0
                      have s1 := kb.cell 1
                      simp at r0 r1 s0 s1
                      obtain ⟨cc, hcc⟩ : ∃ c, comV (y : Int) (x : Int) bn bd = c := ⟨_, rfl⟩
                      obtain ⟨ce, hce⟩ : ∃ c, comE (y : Int) (x : Int) bn bd = c := ⟨_, rfl⟩
                      rw [hcc] at HCO xc
                      rw [hce] at xc
                      have hgN := kN.lt
                      clear hcc hce fy fx fn fd p1 p2 p3 p4
                      go_wp2_with fail
                      refine xc.mono ?_
                      rintro e w5 ⟨rfl, q5⟩
                      have rv := rv.below' q5
                      have re := re.below' q5
                      have kb := kb.below q5 kb.lt
                      have kN := kN.below q5 kN.lt
                      have kb3 := kb3.below q5 kb3.lt
                      have q := below_end q q.size q5
                      clear xc q5 r0 r1 s0 s1
                      by_cases hc : 0 ≤ cc
                      · rw [if_pos (HCO.out.1 hc)] at HD
                        have r0 := kN.cell 0
                        have r1 := kN.cell 1
                        have s0 := kb.cell 0
                        have s1 := kb.cell 1
                        have s2 := kb.frozen 0
                        have s3 := kb.frozen 1
                        simp at r0 r1 s0 s1
                        clear HCO
                        go_upto_region 32 with fail
                        go_region
                        all_goals (
                          have kb2 : Blk ((w5.setCell ⟨gB, 0, none⟩ (.int .i64 (y : Int))).setCell ⟨gB, 1, none⟩ (.int .i64 (x : Int))).drew gB 42 #[.int .i64 (y : Int), .int .i64 (x : Int)] := by
                            have := ((kb.set_ 0 (.int .i64 (y : Int))).set_ 1 (.int .i64 (x : Int))).drew
                            simpa using this
                          have rv2 := ((rv.far (p := ⟨gB, 0, none⟩) hne2.1 (.int .i64 (y : Int))).far (p := ⟨gB, 1, none⟩) hne2.1 (.int .i64 (x : Int))).drew
                          have re2 := ((re.far (p := ⟨gB, 0, none⟩) hne2.2.1 (.int .i64 (y : Int))).far (p := ⟨gB, 1, none⟩) hne2.2.1 (.int .i64 (x : Int))).drew
                          have kb32 := ((kb3.far (p := ⟨gB, 0, none⟩) hne2.2.2 (.int .i64 (y : Int))).far (p := ⟨gB, 1, none⟩) hne2.2.2 (.int .i64 (x : Int))).drew
                          have q2 := ((q.setCell (p := ⟨gB, 0, none⟩) hgB3 (.int .i64 (y : Int))).setCell (p := ⟨gB, 1, none⟩) hgB3 (.int .i64 (x : Int))).drew
                          generalize ((w5.setCell ⟨gB, 0, none⟩ (.int .i64 (y : Int))).setCell ⟨gB, 1, none⟩ (.int .i64 (x : Int))).drew = W6 at *
                          clear rv re kb kb3 q r0 r1 s0 s1 s2 s3 kN
                          go_wp2_with fail
                          go_roundw
                          case rel => exact ⟨i + 1, by simp, by omega, by rw [HD.out], rv2, re2, by rw [HD.out]; exact kb2, kb32, q2⟩
                          case measure => simp [intOf]; omega)
                      · rw [if_neg (fun h => hc (HCO.out.2 h))] at HD
                        clear HCO
                        go_wp2_with fail
                        go_roundw
                        case rel => exact ⟨i + 1, by simp, by omega, by rw [HD.out], rv, re, by rw [HD.out]; exact kb, kb3, q⟩
                        case measure => simp [intOf]; omega)
                  · have eiG : i = G + 1 := by omega
                    subst eiG
                    have hin : ¬ ((G + 1 : Nat) : Int) < ((G + 1 : Nat) : Int) := by omega
                    have hin2 : ¬ (G : Int) + 1 < (G : Int) + 1 := by omega
                    obtain ⟨_, hb1, hb2, hb3, hb4⟩ := HB.out (G + 1)
                    obtain ⟨kk, bn, bd, hdd⟩ : ∃ kk bn bd, dens V W (G + 1) = (kk, bn, bd) := ⟨_, _, _, rfl⟩
                    rw [hdd] at kb hb1 hb2 hb3 hb4 ⊢
                    simp only [] at kb hb1 hb2 hb3 hb4 ⊢
                    have HDD := Lib.hid hdd
                    have fn : Fits bn := ⟨by omega, by omega⟩
                    have fd : Fits bd := ⟨by omega, by omega⟩
                    have xc := reduce_ok bn bd fn fd wr
                    obtain ⟨rn, hrn⟩ : ∃ x, redN bn bd = x := ⟨_, rfl⟩
                    obtain ⟨rd, hrd⟩ : ∃ x, redD bn bd = x := ⟨_, rfl⟩
                    rw [hrn, hrd] at xc
                    have HRN := Lib.hid (And.intro hrn hrd)
                    have s0 := kb.cell 0
                    have s1 := kb.cell 1
                    simp at s0 s1
                    clear hrn hrd hdd rv re fn fd
                    go_wp2_with fail
                    refine xc.mono ?_
                    rintro e w5 ⟨rfl, q5⟩
                    have kb3 := kb3.below q5 kb3.lt
                    have q := below_end q q.size q5
                    have s2 := kb3.frozen 0
                    have s3 := kb3.frozen 1
                    have t0 := kb3.cell 0
                    have t1 := kb3.cell 1
                    simp at t0 t1
                    clear xc q5 s0 s1 kb
                    go_upto_region 35 with fail
                    have kb32 : Blk ((w5.setCell ⟨B3, 0, none⟩ (.int .i64 rn)).setCell ⟨B3, 1, none⟩ (.int .i64 rd)) B3 42 #[.int .i64 rn, .int .i64 rd] := by
                      have := ((kb3.set_ 0 (.int .i64 rn)).set_ 1 (.int .i64 rd))
                      simpa using this
                    have q2 := ((q.setCell (p := ⟨B3, 0, none⟩) hB30 (.int .i64 rn)).setCell (p := ⟨B3, 1, none⟩) hB30 (.int .i64 rd))
                    generalize (w5.setCell ⟨B3, 0, none⟩ (.int .i64 rn)).setCell ⟨B3, 1, none⟩ (.int .i64 rd) = W6 at *
                    clear q kb3 s2 s3 t0 t1
                    have s2 := kb32.frozen 0
                    have s3 := kb32.frozen 1
                    have t0 := kb32.cell 0
                    have t1 := kb32.cell 1
                    simp at t0 t1
                    go_region
                    all_goals (
                      have kb33 : Blk ((W6.setCell ⟨B3, 0, none⟩ (.int .i64 rn)).setCell ⟨B3, 1, none⟩ (.int .i64 rd)).drew B3 42 #[.int .i64 rn, .int .i64 rd] := by
                        have := ((kb32.set_ 0 (.int .i64 rn)).set_ 1 (.int .i64 rd)).drew
                        simpa using this
                      have q3 := ((q2.setCell (p := ⟨B3, 0, none⟩) hB30 (.int .i64 rn)).setCell (p := ⟨B3, 1, none⟩) hB30 (.int .i64 rd)).drew
                      generalize ((W6.setCell ⟨B3, 0, none⟩ (.int .i64 rn)).setCell ⟨B3, 1, none⟩ (.int .i64 rd)).drew = W7 at *
                      clear s2 s3 t0 t1
                      have t0 := kb33.cell 0
                      have t1 := kb33.cell 1
                      simp at t0 t1
                      go_wp2_with fail
                      simp [bodyPost, results, Try.results22, go_sem, t0, t1]
                      refine ⟨.inr ⟨by omega, G, by rw [HFE.out]; exact HMX.out, ?_⟩, q3⟩
                      rw [HFE.out, HVE.out, HWE.out, HDD.out]
                      simp only []
                      rw [HRN.out.1, HRN.out.2])
              · obtain ⟨c1, hc1⟩ : ∃ x, cv j = x := ⟨_, rfl⟩
                obtain ⟨c2, hc2⟩ : ∃ x, sufF cv G (j + 1) = x := ⟨_, rfl⟩
                obtain ⟨c3, hc3⟩ : ∃ x, cw j = x := ⟨_, rfl⟩
                obtain ⟨c4, hc4⟩ : ∃ x, sufF cw G (j + 1) = x := ⟨_, rfl⟩
                have hb1 : c1 ≤ 20000 := by have := HV.out j; omega
                have hb2 : c2 ≤ 400080004 := by
                  have h1 := suf_le (G := G) (M := n) HV.out (G - (j + 1))
                  have h2 : (G - (j + 1) + 1) * n ≤ 20001 * 4096 := Nat.mul_le_mul (by omega) hn
                  unfold sufF at hc2; omega
                have hb3 : c3 ≤ 20000 := by have := HW.out j; omega
                have hb4 : c4 ≤ 400080004 := by
                  have h1 := suf_le (G := G) (M := m) HW.out (G - (j + 1))
                  have h2 : (G - (j + 1) + 1) * m ≤ 20001 * 20000 := Nat.mul_le_mul (by omega) (by omega)
                  unfold sufF at hc4; omega
                have p1 := rv.cell (i := j) (by omega)
                have p2 := rv.cell (i := j + 1) (by omega)
                have p3 := rv.frozen j
                rw [half_at, hc1] at p1
                rw [half_above, hc2] at p2
                have HC := Lib.hid (And.intro hc1 (And.intro hc2 (And.intro hc3 hc4)))
                have hjG : j < G := by omega
                clear hc1 hc2 hc3 hc4
                have e1 : ((j + 1 : Nat) : Int) - 1 = (j : Int) := by omega
                rw [e1]
                have hj1 : (j : Int) < ((G + 1 : Nat) : Int) := by omega
                have hj2 : (j : Int) + 1 < ((G + 1 : Nat) : Int) := by omega
                have hj0 : (0 : Int) ≤ (j : Int) := by omega
                have hwj : IntKind.i64.wrap ((j : Int) + 1) = ((j + 1 : Nat) : Int) := by rw [IntKind.wrap_i64]; omega
                clear e1
                go_upto_region 23 with fail
                go_region
                have rv2 := ((rv.set_ j ((c1 : Int) + c2)).drew).congr (f' := fun x => (half cv G j x : Nat)) (fun x _ => by
                  show (if x = j then _ else _) = _
                  rw [half_step cv hjG x, HC.out.1, HC.out.2.1]
                  by_cases e : x = j
                  · rw [if_pos e, if_pos e]; omega
                  · rw [if_neg e, if_neg e])
                have re2 := (re.far (p := ⟨gv, j, none⟩) (Ne.symm hne.1) (.int .i64 ((c1 : Int) + c2))).drew
                have kb32 := (kb3.far (p := ⟨gv, j, none⟩) (by show B3 ≠ gv; omega) (.int .i64 ((c1 : Int) + c2))).drew
                have q2 := (q.setCell (p := ⟨gv, j, none⟩) hne.2.2.2.2.2.1 (.int .i64 ((c1 : Int) + c2))).drew
                generalize (wr.setCell ⟨gv, j, none⟩ (.int .i64 ((c1 : Int) + c2))).drew = WA at *
                clear rv re kb3 q p1 p2 p3
                have p1 := re2.cell (i := j) (by omega)
                have p2 := re2.cell (i := j + 1) (by omega)
                have p3 := re2.frozen j
                rw [half_at, HC.out.2.2.1] at p1
                rw [half_above, HC.out.2.2.2] at p2
                go_upto_region 24 with fail
                go_region
                have re3 := ((re2.set_ j ((c3 : Int) + c4)).drew).congr (f' := fun x => (half cw G j x : Nat)) (fun x _ => by
                  show (if x = j then _ else _) = _
                  rw [half_step cw hjG x, HC.out.2.2.1, HC.out.2.2.2]
                  by_cases e : x = j
                  · rw [if_pos e, if_pos e]; omega
                  · rw [if_neg e, if_neg e])
                have rv3 := (rv2.far (p := ⟨ge, j, none⟩) hne.1 (.int .i64 ((c3 : Int) + c4))).drew
                have kb33 := (kb32.far (p := ⟨ge, j, none⟩) (by show B3 ≠ ge; omega) (.int .i64 ((c3 : Int) + c4))).drew
                have q3 := (q2.setCell (p := ⟨ge, j, none⟩) hne.2.2.2.2.2.2.1 (.int .i64 ((c3 : Int) + c4))).drew
                generalize (WA.setCell ⟨ge, j, none⟩ (.int .i64 ((c3 : Int) + c4))).drew = WB at *
                clear rv2 re2 kb32 q2 p1 p2 p3
                go_wp2_with fail
                go_roundg j
                case measure => omega
                case rel => exact ⟨rfl, by omega, rv3, re3, kb33, q3⟩
end Go.Proofs.Ytoiafopndlnknaa
