/-
  Degeneracy, Order.
-/
import Derived.Test.YtoiafopndlnknaaD3
set_option linter.unusedVariables false
set_option linter.unusedSimpArgs false
namespace Go.Proofs.Ytoiafopndlnknaa
open Go.RowKit Go.Shelf

attribute [local go_sem] Oper.semAt_some

set_option maxRecDepth 100000 in
set_option maxHeartbeats 2500000 in
theorem degeneracy_ok {w : World} {K : GB} {n : Nat} {E : Es} (hG : Gr w K n E) :
    Calls Try.prog 17 #[.pointer (some ⟨K.g, 0, none⟩)] w fun e w' => e = .returned (.int .i64 (most E n : Nat)) ∧ Below w.heap.size w w' := by
  have hn := hG.fine.1
  have hGL := Lib.hid hG.lt
  refine calls_of_marks Try.func17 rfl ?_
  simp only [Try.ntmps17, List.size_toArray, List.length_cons, List.length_nil, Nat.reduceAdd, Nat.reduceSub, Array.replicate_succ, Array.replicate_zero, List.push_toArray, List.append_toArray, List.nil_append, List.cons_append]
  have b3 := below_new1 w (.cells #[.int .i64 0] 3)
  have k2 := Blk.new w 3 #[.int .i64 0]
  have hG3 := hG.below b3
  clear hG
  go_upto_region 2 with fail
  generalize w.alloc (.cells #[.int .i64 0] 3) = W3 at *
  have xr := removals_any (some ⟨K.g, 0, none⟩) W3
  go_wp2_with fail
  refine xr.mono ?_
  rintro e w' ⟨rfl, rfl⟩
  have b4 := below_new1 W3 (.cells #[.pointer (some ⟨K.g, 0, none⟩)] 27)
  have hBg := Blk.new W3 27 #[.pointer (some ⟨K.g, 0, none⟩)]
  have k24 := k2.below b4 k2.lt
  have hG4 := hG3.below b4
  have q4 := below_end b3 b3.size b4
  have hs2 := k2.lt
  have hs3 : W3.heap.size < (W3.alloc (.cells #[.pointer (some ⟨K.g, 0, none⟩)] 27)).heap.size := by simp
  clear xr b3 k2 hG3 b4
  obtain ⟨Bm, hBm⟩ : ∃ x, w.heap.size = x := ⟨_, rfl⟩
  obtain ⟨Bg, hBgE⟩ : ∃ x, W3.heap.size = x := ⟨_, rfl⟩
  have hne : w.heap.size ≤ Bm ∧ Bm < Bg := by omega
  rw [hBm] at k24
  rw [hBgE] at hBg hs3
  rw [hBm, hBgE]
  clear hBm hBgE hs2
  go_wp2_with fail
  generalize W3.alloc (.cells #[.pointer (some ⟨K.g, 0, none⟩)] 27) = W4 at *
  have hseq := removals_w hBg hG4
  refine wpIn_wide.1 (wpIn_range_writes (F := Fence.wide) (n := 9) rfl (by decide) (gf := 53) (lb := #[.pointer (some ⟨Bg, 0, none⟩)]) rfl trivial (enters_of Try.func53 (by kernel_rfl) rfl) hseq
    (fun h k => h.trans k) (fun m W k o o' h1 h2 h3 h4 => Kc.put o' h2 h3 h4) (fun _ => rfl)
    (fun pre W => Blk W Bm 3 #[.int .i64 ((numS (pre.map (fun x : VD n => x.1))).1 : Nat)] ∧ Below w.heap.size w W)
    (fun s A A' ⟨h3, h4⟩ hz hb => ⟨h3.below hb (by omega), h4.trans (hb.mono (by have := q4.size; omega))⟩)
    ⟨k24, q4⟩
    (fun x => { tmps := #[.pointer (some ⟨K.g, 0, none⟩), undef, .int .i64 0, .pointer (some ⟨Bm, 0, none⟩), undef, .int .i64 (x.1.2 : Nat), .pointer (some ⟨K.g, 0, none⟩), .func (.func 53) #[] #[.pointer (some ⟨Bg, 0, none⟩)], .int .i64 (x.1.1 : Nat), .int .i64 (x.1.2 : Nat), undef, undef, undef, undef], defers := [] }) ?assign ?body ?done)
  case assign =>
    intro l x W K' hK'
    gi_wp2
    exact hK'
  case body =>
    rintro l pre ⟨⟨v, d⟩, hv, hd⟩ W hsz ⟨hbm, hb⟩ hl
    have hd : d ≤ 20000 := hd
    have hle := numS_le' pre
    have HS := Lib.hid (numS_snoc (pre.map (fun x : VD n => x.1)) (v, d))
    have hp : ∀ k, (k ∈ Bg :: K.l ∨ W4.heap.size ≤ k) → k ≠ Bm := fun k hk => by
      rcases hk with hk | hk
      · rcases List.mem_cons.1 hk with rfl | hk
        · omega
        · have := hGL.out k hk; omega
      · omega
    have HP := Lib.hid hp
    obtain ⟨g, hg⟩ : ∃ g, (numS (pre.map (·.1))).1 = g := ⟨_, rfl⟩
    have HE := Lib.hid (show (accN (numS (pre.map (·.1))) (v, d)).1 = max g d from by unfold accN; rw [hg])
    rw [hg] at hbm hle
    clear hg hp hl
    have c0 := hbm.cell 0
    have c1 := hbm.frozen 0
    simp at c0
    obtain ⟨M, hM⟩ : ∃ M, max g d = M := ⟨_, rfl⟩
    have hmax : max (g : Int) (d : Int) = (M : Int) := by omega
    have hbm2 : Blk (W.setCell ⟨Bm, 0, none⟩ (.int .i64 (M : Nat))) Bm 3 #[.int .i64 (M : Nat)] := by
      have := hbm.set_ 0 (.int .i64 (M : Nat))
      simpa using this
    have hb2 := hb.setCell (p := ⟨Bm, 0, none⟩) hne.1 (.int .i64 (M : Nat))
    have hc2 : Kc (Bg :: K.l) W4.heap.size (W4.heap.size + 2) W (W.setCell ⟨Bm, 0, none⟩ (.int .i64 (M : Nat))) := Kc.setCell _ (fun k hk => HP.out k hk)
    have hk2 := KeepsOthers.setCell W ⟨Bm, 0, none⟩ (.int .i64 (M : Nat))
    have HM := Lib.hid hM
    clear hbm hb hM
    gi_wp2_with fail
    refine ⟨hk2, hc2, ?_, hb2⟩
    simp only [List.map_append, List.map_cons, List.map_nil, HS.out, HE.out, HM.out]
    exact hbm2
  case done =>
    rintro D ys W hD hys ⟨hbm, hb⟩ hK
    have c2 := hbm.cell 0
    rw [hys] at c2
    simp at c2
    have hDl := (Array.getElem?_eq_some_iff.1 hK).1
    have hq4 := q4.size
    go_wp2_with fail
    refine postM_mark rfl hK (results_tmp rfl _ _ _) ?_
    exact ⟨rfl, below_putObj hb (by omega) hDl⟩
/-- a row of numbers with room n, the first of them known -/
def RowO (W : World) (g n : Nat) (l : List Nat) : Prop := l.length ≤ n ∧ W.ownsRow g 3 1 (.slice (some ⟨g, 0, none⟩) l.length n) l.length (nums l)
theorem RowO.below {W W' : World} {g n B : Nat} {l : List Nat} (h : RowO W g n l) (hb : Below B W W') (hg : g < B) : RowO W' g n l := by
  refine ⟨h.1, h.2.1, h.2.2.imp id ?_⟩
  rintro ⟨g', cap, cur, hv, h1, hh, r⟩
  cases hv
  exact ⟨g, n, cur, rfl, h1, (hb.block g hg).trans hh, r⟩
theorem RowO.cells {W : World} {g n : Nat} {l : List Nat} (h : RowO W g n l) : ∃ cs, Blk W g 3 cs := by
  rcases h.2.2 with ⟨e, _⟩ | ⟨g', cap, cur, hv, h1, hh, r⟩
  · cases e
  · cases hv
    exact ⟨cur, hh⟩
theorem RowO.far {W : World} {g n : Nat} {l : List Nat} (h : RowO W g n l) {p : Addr} (hp : g ≠ p.block) (u : Value) : RowO (W.setCell p u) g n l := by
  refine ⟨h.1, h.2.1, h.2.2.imp id ?_⟩
  rintro ⟨g', cap, cur, hv, h1, hh, r⟩
  cases hv
  exact ⟨g, n, cur, rfl, h1, (Below.heap_setCell W p u g hp).trans hh, r⟩
theorem run_make31_0 (n : Nat) (hn : n ≤ 100000) (w : World) :
    (Instr.makeSlice 31 (.int .i64 0) (.int .i64 (n : Int))).run Try.prog w = .ok (.slice (some ⟨w.heap.size, 0, none⟩) 0 n) (w.alloc (.cells (zerosK .i64 n) 3)) := by
  obtain ⟨i0, hi, hz0, hz1, hz2⟩ := info_parts info3
  have hr := Go.run_make (P := Try.prog) w 31 3 i0 (.int .i64 0) Try.underlying31 hi hz0 .i64 .i64 (0 : Nat) n (by omega) (by omega) (by rw [hz2]; omega) (by omega)
  simp only [Int.toNat_natCast] at hr
  rw [show (((0 : Nat) : Int)) = 0 from rfl] at hr
  rw [hr, hz1, Nat.mul_one]
  rfl
theorem made_rowO (w : World) (n : Nat) (hn : n ≤ 100000) : RowO (w.alloc (.cells (zerosK .i64 n) 3)) w.heap.size n [] :=
  ⟨Nat.zero_le _, rfl, .inr ⟨w.heap.size, n, zerosK .i64 n, rfl, Nat.le_refl _, Blk.new w 3 _, Nat.zero_le _, by simp only [maxLen]; omega, by unfold zerosK; rw [← Array.length_toList, toList_madeCells_one, List.length_replicate, Nat.mul_one], rfl⟩⟩
/-- append of one number to a row with room, inside a fence -/
theorem wpListIn_append_one {F : Fence} {nn : Nat} {ops : Array Oper} {rest : List Oper} {o : Oper} {a : Act} {w : World} {Q : Exit → Act → World → Prop} (hgd : o.guard = none) (s x : Operand) (ho : o.op = .call { callee := .builtin .append, args := #[s, x], argTypes := #[31, 31] })
    (g n : Nat) (l : List Nat) (y bx : Nat) (hs : a.eval s = .slice (some ⟨g, 0, none⟩) l.length n) (hR : RowO w g n l) (hl : l.length < n) (hx : a.eval x = .slice (some ⟨bx, 0, none⟩) 1 1) (hc : w.cell? ⟨bx, 0, none⟩ = some (.int .i64 (y : Int)))
    (h : ∀ w', RowO w' g n (l ++ [y]) → w.grownBy w' (some g) → wpListIn F nn Try.prog ops Q rest (a.put o.dst (.slice (some ⟨g, 0, none⟩) (l.length + 1) n)) w') :
    wpListIn F nn Try.prog ops Q (o :: rest) a w := by
  obtain ⟨i0, hi, hz0, hz1, hz2⟩ := info_parts info3
  refine wpListIn_append_fits w hgd s x 31 ho g 3 i0 1 Try.underlying31 hi hz1 g l.length n (nums l) hs hR.2 ⟨bx, 0, none⟩ 1 1 [.int .i64 (y : Int)] hx rfl ?_ ?_ (by omega) ?_
  · intro j u hu
    rcases j with _ | j
    · simp at hu
      subst hu
      exact hc
    · simp at hu
  · intro u hu
    simp at hu
    subst hu
    rfl
  · intro w' h2 h3
    refine h w' ⟨by simp; omega, ?_⟩ h3
    have e : nums (l ++ [y]) = nums l ++ [.int .i64 (y : Int)] := by simp [nums]
    rw [e, List.length_append]
    exact h2
set_option maxRecDepth 100000 in
set_option maxHeartbeats 2500000 in
theorem order_at {w : World} {K : GB} {n : Nat} {E : Es} (hG : Gr w K n E) :
    Calls Try.prog 24 #[.pointer (some ⟨K.g, 0, none⟩)] w fun e w' => ∃ g, e = .returned (.slice (some ⟨g, 0, none⟩) (ord E n).length n) ∧ w.heap.size ≤ g ∧ RowO w' g n (ord E n) ∧ Below w.heap.size w w' := by
  have xn := n_ok hG
  have hn := hG.fine.1
  have hGL := Lib.hid hG.lt
  have mk1 := run_make31_0 n (by omega)
  refine calls_of_marks Try.func24 rfl ?_
  simp only [Try.ntmps24, List.size_toArray, List.length_cons, List.length_nil, Nat.reduceAdd, Nat.reduceSub, Array.replicate_succ, Array.replicate_zero, List.push_toArray, List.append_toArray, List.nil_append, List.cons_append]
  go_wp2_with fail
  refine xn.mono ?_
  rintro e w' ⟨rfl, rfl⟩
  have b3 := below_new2 w (.cells (zerosK .i64 n) 3) (.cells #[.slice (some ⟨w.heap.size, 0, none⟩) 0 n] 31)
  have r0 := (made_rowO w n (by omega)).below (below_new1 _ (.cells #[.slice (some ⟨w.heap.size, 0, none⟩) 0 n] 31)) (by simp)
  have k1 := Blk.new2 w (.cells (zerosK .i64 n) 3) 31 #[.slice (some ⟨w.heap.size, 0, none⟩) 0 n]
  have hG3 := hG.below b3
  clear xn hG
  go_upto_region 2 with fail
  clear mk1
  have hs1 := k1.lt
  generalize (w.alloc (.cells (zerosK .i64 n) 3)).alloc (.cells #[.slice (some ⟨w.heap.size, 0, none⟩) 0 n] 31) = W3 at *
  have xr := removals_any (some ⟨K.g, 0, none⟩) W3
  go_wp2_with fail
  refine xr.mono ?_
  rintro e w' ⟨rfl, rfl⟩
  have b4 := below_new1 W3 (.cells #[.pointer (some ⟨K.g, 0, none⟩)] 27)
  have hBg := Blk.new W3 27 #[.pointer (some ⟨K.g, 0, none⟩)]
  have r4 := r0.below b4 (by omega)
  have k14 := k1.below b4 k1.lt
  have hG4 := hG3.below b4
  have q4 := below_end b3 b3.size b4
  have hs3 : W3.heap.size < (W3.alloc (.cells #[.pointer (some ⟨K.g, 0, none⟩)] 27)).heap.size := by simp
  clear xr b3 r0 k1 hG3 b4
  obtain ⟨gn, hgn⟩ : ∃ x, w.heap.size = x := ⟨_, rfl⟩
  obtain ⟨Bn, hBn⟩ : ∃ x, w.heap.size + 1 = x := ⟨_, rfl⟩
  obtain ⟨Bg, hBgE⟩ : ∃ x, W3.heap.size = x := ⟨_, rfl⟩
  have hne : gn ≠ Bn ∧ w.heap.size ≤ gn ∧ w.heap.size ≤ Bn ∧ gn < Bg ∧ Bn < Bg := by omega
  rw [hBn, hgn] at k14
  rw [hgn] at r4
  rw [hBgE] at hBg hs3
  rw [hBn, hgn, hBgE]
  have HGN := Lib.hid hgn
  clear hgn hBn hBgE hs1
  go_wp2_with fail
  generalize W3.alloc (.cells #[.pointer (some ⟨K.g, 0, none⟩)] 27) = W4 at *
  have hseq := removals_w hBg hG4
  refine wpIn_wide.1 (wpIn_range_writes (F := Fence.wide) (n := 9) rfl (by decide) (gf := 53) (lb := #[.pointer (some ⟨Bg, 0, none⟩)]) rfl trivial (enters_of Try.func53 (by kernel_rfl) rfl) hseq
    (fun h k => h.trans k) (fun m W k o o' h1 h2 h3 h4 => Kc.put o' h2 h3 h4) (fun _ => rfl)
    (fun pre W => RowO W gn n (pre.map (fun x : VD n => x.1.1)) ∧ Blk W Bn 31 #[.slice (some ⟨gn, 0, none⟩) (pre.map (fun x : VD n => x.1.1)).length n] ∧ Below w.heap.size w W)
    (fun s A A' ⟨h1, h2, h4⟩ hz hb => ⟨h1.below hb (by omega), h2.below hb (by omega), h4.trans (hb.mono (by have := q4.size; omega))⟩)
    ⟨r4, k14, q4⟩
    (fun x => { tmps := #[.pointer (some ⟨K.g, 0, none⟩), undef, .slice none 0 0, .pointer (some ⟨Bn, 0, none⟩), .int .i64 (x.1.1 : Nat), .pointer (some ⟨K.g, 0, none⟩), .int .i64 (n : Nat), .slice (some ⟨gn, 0, none⟩) 0 n, .pointer (some ⟨K.g, 0, none⟩), .func (.func 53) #[] #[.pointer (some ⟨Bg, 0, none⟩)], .int .i64 (x.1.1 : Nat), .int .i64 (x.1.2 : Nat), undef, undef, undef, undef, undef], defers := [] }) ?assign ?body ?done)
  case assign =>
    intro l x W K' hK'
    gi_wp2
    exact hK'
  case body =>
    rintro l pre ⟨⟨v, d⟩, hv, hd⟩ W hsz ⟨hR, hbn, hb⟩ hl
    have hv : v < n := hv
    have hp : ∀ k, (k ∈ Bg :: K.l ∨ W4.heap.size ≤ k) → k ≠ gn ∧ k ≠ Bn := fun k hk => by
      rcases hk with hk | hk
      · rcases List.mem_cons.1 hk with rfl | hk
        · omega
        · have := hGL.out k hk; omega
      · omega
    have HP := Lib.hid hp
    have hl2 : (pre.map (fun x : VD n => x.1.1)).length < n := by rw [List.length_map]; exact hl
    have HL := Lib.hid (show (pre ++ [(⟨(v, d), hv, hd⟩ : VD n)]).map (fun x : VD n => x.1.1) = pre.map (fun x : VD n => x.1.1) ++ [v] from by simp)
    obtain ⟨l0, hl0⟩ : ∃ l0, pre.map (fun x : VD n => x.1.1) = l0 := ⟨_, rfl⟩
    rw [hl0] at hR hbn hl2 HL
    clear hl0 hp hl
    have c2 := hbn.cell 0
    simp at c2
    have bA := below_new1 W (.cells #[.int .i64 (v : Int)] 3)
    have hRA := hR.below bA (by have := hR.cells; obtain ⟨cs, hc⟩ := this; exact hc.lt)
    have hbnA := hbn.below bA hbn.lt
    have KC := Lib.hid (show (W.alloc (.cells #[.int .i64 (v : Int)] 3)).cell? ⟨W.heap.size, 0, none⟩ = some (.int .i64 (v : Int)) from (Blk.new W 3 #[.int .i64 (v : Int)]).cell 0)
    obtain ⟨q, hq⟩ : ∃ q, l0.length = q := ⟨_, rfl⟩
    have HQ := Lib.hid hq
    have FIN := Lib.hid (show ∀ w2, RowO w2 gn n (l0 ++ [v]) → (W.alloc (.cells #[.int .i64 (v : Int)] 3)).grownBy w2 (some gn) → w2.frozen? ⟨Bn, 0, none⟩ = false ∧ (∃ old, w2.cell? ⟨Bn, 0, none⟩ = some old) ∧ KeepsOthers W (w2.setCell ⟨Bn, 0, none⟩ (.slice (some ⟨gn, 0, none⟩) (q + 1) n)) ∧ Kc (Bg :: K.l) W4.heap.size (W4.heap.size + 2) W (w2.setCell ⟨Bn, 0, none⟩ (.slice (some ⟨gn, 0, none⟩) (q + 1) n)) ∧ RowO (w2.setCell ⟨Bn, 0, none⟩ (.slice (some ⟨gn, 0, none⟩) (q + 1) n)) gn n (l0 ++ [v]) ∧ Blk (w2.setCell ⟨Bn, 0, none⟩ (.slice (some ⟨gn, 0, none⟩) (q + 1) n)) Bn 31 #[.slice (some ⟨gn, 0, none⟩) (l0 ++ [v]).length n] ∧ Below w.heap.size w (w2.setCell ⟨Bn, 0, none⟩ (.slice (some ⟨gn, 0, none⟩) (q + 1) n)) from fun w2 g1 g2 => by
      have kb : Blk w2 Bn 31 _ := (g2.block Bn hbnA.lt (fun e => hne.1 (Option.some.inj e).symm)).trans hbnA
      have hA : KeepsOthers W w2 := (KeepsOthers.alloc W _).trans (KeepsOthers.of_grownBy g2 (fun j o hj ho => by
        cases hj
        obtain ⟨cs, hc⟩ := hRA.cells
        rw [hc] at ho
        cases ho
        rfl))
      have hz := bA.size
      have hz2 := g2.size
      have blk : ∀ k, k < W.heap.size → k ≠ gn → w2.heap[k]? = W.heap[k]? := fun k h1 h2 => (g2.block k (by omega) (fun e => h2 (Option.some.inj e))).trans (bA.block k h1)
      refine ⟨kb.frozen 0, ⟨_, kb.cell 0⟩, hA.trans (KeepsOthers.setCell _ _ _), ⟨by simp; omega, fun k o h1 h2 h3 => ?_, fun k o h1 h2 h3 => (hA.trans (KeepsOthers.setCell _ _ _)).same k o h2 h3⟩, ?_, ?_, ?_⟩
      · exact (Below.heap_setCell w2 _ _ k (HP.out k h1).2).trans ((blk k (Array.getElem?_eq_some_iff.1 h2).1 (HP.out k h1).1).trans h2)
      · exact g1.far (p := ⟨Bn, 0, none⟩) hne.1 _
      · have := kb.set_ 0 (.slice (some ⟨gn, 0, none⟩) (q + 1) n)
        rw [List.length_append, hq]
        simpa using this
      · exact (hb.trans ⟨g2.os.trans bA.os, g2.tape.trans bA.tape, g2.output.trans bA.output, by omega, fun k hk => blk k (by have := hb.size; omega) (by omega)⟩).setCell (p := ⟨Bn, 0, none⟩) hne.2.2.1 _)
    rw [hq] at c2
    clear hR hbn hb bA
    gi_wp2_with (gi_at_builtin; refine wpListIn_append_one rfl _ _ rfl gn n l0 v W.heap.size (by rw [HQ.out]; rfl) hRA hl2 rfl KC.out ?_; intro w2 t1 t2; rw [HQ.out]; obtain ⟨f1, ⟨old, f2⟩, f3, f4, f5, f6, f7⟩ := FIN.out w2 t1 t2; clear t1 t2)
    refine ⟨f3, f4, ?_, ?_, f7⟩
    · rw [HL.out]; exact f5
    · rw [HL.out]; exact f6
  case done =>
    rintro D ys W hD hys ⟨hR, hbn, hb⟩ hK
    have c2 := hbn.cell 0
    have hR := Lib.hid hR
    have hys2 : ys.map (fun x : VD n => x.1.1) = ord E n := by
      unfold ord
      rw [← hys, List.map_map]
      rfl
    simp only [hys2] at c2 hR
    have hDl := (Array.getElem?_eq_some_iff.1 hK).1
    have hq4 := q4.size
    simp at c2
    go_wp2_with fail
    refine postM_mark rfl hK (results_tmp rfl _ _ _) ?_
    refine ⟨gn, rfl, hne.2.1, ?_, below_putObj hb (by omega) hDl⟩
    have h1 := hR.out
    refine ⟨h1.1, World.ownsRow.kept (w := W) h1.2 (grownBy_putObj' W D _) (.inr (fun e => by have e : gn = D := Option.some.inj e; omega))⟩
theorem RowO.list {W : World} {g n B : Nat} {l : List Nat} (h : RowO W g n l) (hB : B ≤ g) : RowL W B (.slice (some ⟨g, 0, none⟩) l.length n) l := by
  refine ⟨h.2.1, h.2.2.imp id ?_⟩
  rintro ⟨g', cap, cur, hv, hg, r⟩
  exact ⟨g', cap, cur, hv, by omega, r⟩
theorem order_ok {w : World} {K : GB} {n : Nat} {E : Es} (hG : Gr w K n E) :
    Calls Try.prog 24 #[.pointer (some ⟨K.g, 0, none⟩)] w fun e w' => ∃ v, e = .returned v ∧ RowL w' w.heap.size v (ord E n) ∧ Below w.heap.size w w' :=
  (order_at hG).mono fun e w' ⟨g, h1, h2, h3, h4⟩ => ⟨_, h1, h3.list h2, h4⟩
end Go.Proofs.Ytoiafopndlnknaa
