/-
  What the functions give where there is no graph.
-/
import Derived.Test.YtoiafopndlnknaaH1
set_option linter.unusedVariables false
set_option linter.unusedSimpArgs false
namespace Go.Proofs.Ytoiafopndlnknaa
open Go.RowKit Go.Shelf

attribute [local go_sem] Oper.semAt_some

theorem NoGr.below {w w' : World} {p : Option Addr} (h : NoGr w p) (hb : Below w.heap.size w w') : NoGr w' p := by
  rcases h with rfl | ⟨g, rfl, hc⟩
  · exact .inl rfl
  · exact .inr ⟨g, rfl, (hb.cell (cell?_lt hc)).trans hc⟩
theorem mk31_0 (w : World) : (Instr.makeSlice 31 (.int .i64 0) (.int .i64 0)).run Try.prog w = .ok (.slice (some ⟨w.heap.size, 0, none⟩) 0 0) (w.alloc (.cells (zerosK .i64 0) 3)) := run_make31 0 (by omega) w
theorem mk107_1 (w : World) : (Instr.makeSlice 107 (.int .i64 1) (.int .i64 1)).run Try.prog w = .ok (.slice (some ⟨w.heap.size, 0, none⟩) 1 1) (w.alloc (.cells (nilsV 1) 31)) := run_make107 1 (by omega) w
set_option maxRecDepth 100000 in
set_option maxHeartbeats 1000000 in
theorem sorted_no {w : World} {p : Option Addr} (h : NoGr w p) : Calls Try.prog 54 #[.pointer p] w fun e w' => ∃ b, e = .returned (.pointer (some ⟨b, 0, none⟩)) ∧ Below w.heap.size w w' := by
  have x0 := n_no h
  have mk1 := mk31_0
  have mk2 := mk107_1
  clear h
  go_enter Try.func54, Try.ntmps54
  go_wp2_with fail
  refine x0.mono ?_
  rintro e w' ⟨rfl, rfl⟩
  clear x0
  go_upto_region 4 with fail
  have b2 := below_new2 w (.cells (zerosK .i64 0) 3) (.cells #[.slice (some ⟨w.heap.size, 0, none⟩) 0 0, .slice none 0 0, .int .i64 0] 109)
  have k0 := Blk.new2 w (.cells (zerosK .i64 0) 3) 109 #[.slice (some ⟨w.heap.size, 0, none⟩) 0 0, .slice none 0 0, .int .i64 0]
  generalize (w.alloc (.cells (zerosK .i64 0) 3)).alloc (.cells #[.slice (some ⟨w.heap.size, 0, none⟩) 0 0, .slice none 0 0, .int .i64 0] 109) = W1 at *
  obtain ⟨gd, hgd⟩ : ∃ g, w.heap.size = g := ⟨_, rfl⟩
  obtain ⟨b, hb⟩ : ∃ b, w.heap.size + 1 = b := ⟨_, rfl⟩
  have hb0 : w.heap.size ≤ b := by omega
  rw [hb, hgd] at k0
  rw [hb, hgd]
  clear hgd hb
  go_loopw [4, 5, 18] (fun vg _ v wr => vg = .int .i64 0 ∧ v = .int .i64 0 ∧ W1 = wr) (fun _ _ _ _ => 0)
  case atStart => exact ⟨rfl, rfl, rfl⟩
  case round =>
    obtain ⟨rfl, rfl, rfl⟩ := hrel
    have c0 := k0.cell 0
    have c1 := k0.cell 1
    have c3 := k0.frozen 1
    simp at c0 c1
    have hs0 := b2.size
    have hl0 := k0.lt
    have k1 : Blk (W1.setCell ⟨b, 1, none⟩ (.slice (some ⟨W1.heap.size, 0, none⟩) 1 1)) b 109 #[.slice (some ⟨gd, 0, none⟩) 0 0, .slice (some ⟨W1.heap.size, 0, none⟩) 1 1, .int .i64 0] := by
      have := k0.set_ 1 (.slice (some ⟨W1.heap.size, 0, none⟩) 1 1)
      simpa using this
    have q1 := b2.setCell (p := ⟨b, 1, none⟩) hb0 (.slice (some ⟨W1.heap.size, 0, none⟩) 1 1)
    have q2 := q1.alloc q1.size (.cells (nilsV 1) 31)
    have k2 := k1.alloc (.cells (nilsV 1) 31)
    go_upto_region 10 with fail
    clear mk2 c0 c1 c3 k1 q1
    generalize (W1.setCell ⟨b, 1, none⟩ (.slice (some ⟨W1.heap.size, 0, none⟩) 1 1)).alloc (.cells (nilsV 1) 31) = W3 at *
    have c0 := k2.cell 0
    simp at c0
    go_wp2_with fail
    go_loopw [6, 7, 51] (fun _ _ v wr => v = .int .i64 0 ∧ W3 = wr) (fun _ _ _ _ => 0)
    case atStart => exact ⟨rfl, rfl⟩
    case round =>
      obtain ⟨rfl, rfl⟩ := hrel
      go_wp2_with fail
      go_ret
      exact ⟨b, rfl, q2⟩
set_option maxRecDepth 100000 in
set_option maxHeartbeats 1000000 in
theorem removals_no {w : World} {Bg : Nat} {p : Option Addr} (hBg : Blk w Bg 27 #[.pointer p]) (hG : NoGr w p) (Kp : Nat → World → World → Prop) :
    SeqW Fence.wide 8 Try.prog 53 #[.pointer (some ⟨Bg, 0, none⟩)] (fun x : VD 0 => #[.int .i64 (x.1.1 : Nat), .int .i64 (x.1.2 : Nat)]) Kp (fun ys => ys = []) 0 w := fun l J W hW hJa hY h0 => by
  have hBg := hBg.below hW hBg.lt
  have hG := hG.below hW
  have xs := sorted_no hG
  have cg := hBg.cell 0
  simp at cg
  clear hW hY
  refine callsIn_of_wp (F := Fence.wide) (n := 8) Try.func53 rfl trivial ?_ rfl
  simp only [Try.ntmps53, List.size_toArray, List.length_cons, List.length_nil, Nat.reduceAdd, Nat.reduceSub, Array.replicate_succ, Array.replicate_zero, List.push_toArray, List.append_toArray, List.nil_append, List.cons_append]
  gi_wp2_with fail
  refine ⟨trivial, (callsIn_wide.2 xs).mono ?_⟩
  rintro e W1 ⟨b, rfl, q1⟩
  have b1 := below_new1 W1 (.cells #[.pointer (some ⟨b, 0, none⟩)] 93)
  have q2 := below_end q1 q1.size b1
  have hBg2 := (hBg.below q2 hBg.lt)
  have xn := n_no (hG.below q2)
  have c1 := hBg2.cell 0
  simp at c1
  clear xs cg hBg hG q1 b1 hBg2
  gi_wp2_with fail
  generalize W1.alloc (.cells #[.pointer (some ⟨b, 0, none⟩)] 93) = W2 at *
  refine ⟨trivial, (callsIn_wide.2 xn).mono ?_⟩
  rintro e w' ⟨rfl, rfl⟩
  clear xn c1
  have hJ := hJa _ _ _ h0 (Nat.le_refl _) q2
  gi_wp2_with fail
  gi_loopg [12] 0 (fun k v wr => v = .int .i64 0 ∧ W2 = wr)
  case atStart => exact ⟨rfl, rfl⟩
  case round =>
    obtain ⟨rfl, rfl⟩ := hrel
    gi_wp2_with fail
    go_end0
    exact ⟨⟨_, rfl⟩, [], rfl, hJ⟩
set_option maxRecDepth 100000 in
set_option maxHeartbeats 1000000 in
theorem numbers_no {w : World} {p : Option Addr} (h : NoGr w p) : Calls Try.prog 16 #[.pointer p] w fun e w' => ∃ g, e = .returned (.slice (some ⟨g, 0, none⟩) 0 0) ∧ Below w.heap.size w w' := by
  have xn := n_no h
  have mk1 := mk31_0
  refine calls_of_marks Try.func16 rfl ?_
  simp only [Try.ntmps16, List.size_toArray, List.length_cons, List.length_nil, Nat.reduceAdd, Nat.reduceSub, Array.replicate_succ, Array.replicate_zero, List.push_toArray, List.append_toArray, List.nil_append, List.cons_append]
  go_wp2_with fail
  refine xn.mono ?_
  rintro e w' ⟨rfl, rfl⟩
  have b3 := below_new3 w (.cells (zerosK .i64 0) 3) (.cells #[.slice (some ⟨w.heap.size, 0, none⟩) 0 0] 31) (.cells #[.int .i64 0] 3)
  have k1 := (Blk.new2 w (.cells (zerosK .i64 0) 3) 31 #[.slice (some ⟨w.heap.size, 0, none⟩) 0 0]).alloc (.cells #[.int .i64 0] 3)
  have hG3 := h.below b3
  clear xn h
  go_upto_region 3 with fail
  clear mk1
  generalize ((w.alloc (.cells (zerosK .i64 0) 3)).alloc (.cells #[.slice (some ⟨w.heap.size, 0, none⟩) 0 0] 31)).alloc (.cells #[.int .i64 0] 3) = W3 at *
  have xr := removals_any p W3
  go_wp2_with fail
  refine xr.mono ?_
  rintro e w' ⟨rfl, rfl⟩
  have b4 := below_new1 W3 (.cells #[.pointer p] 27)
  have hBg := Blk.new W3 27 #[.pointer p]
  have k14 := k1.below b4 k1.lt
  have hG4 := hG3.below b4
  have q4 := below_end b3 b3.size b4
  clear xr b3 k1 hG3 b4
  obtain ⟨gn, hgn⟩ : ∃ x, w.heap.size = x := ⟨_, rfl⟩
  obtain ⟨Bn, hBn⟩ : ∃ x, w.heap.size + 1 = x := ⟨_, rfl⟩
  obtain ⟨Bm, hBm⟩ : ∃ x, w.heap.size + 1 + 1 = x := ⟨_, rfl⟩
  obtain ⟨Bg, hBgE⟩ : ∃ x, W3.heap.size = x := ⟨_, rfl⟩
  rw [hBn, hgn] at k14
  rw [hBgE] at hBg
  rw [hBm, hBn, hgn, hBgE]
  clear hgn hBn hBm hBgE
  go_wp2_with fail
  have hBg4 := hBg
  generalize W3.alloc (.cells #[.pointer p] 27) = W4 at *
  have hseq := removals_no hBg hG4 (fun _ _ _ => True)
  refine wpIn_wide.1 (wpIn_range_writes (F := Fence.wide) (n := 9) rfl (by decide) (gf := 53) (lb := #[.pointer (some ⟨Bg, 0, none⟩)]) rfl trivial (enters_of Try.func53 (by kernel_rfl) rfl) hseq
    (fun _ _ => trivial) (fun _ _ _ _ _ _ _ _ _ => trivial) (fun _ => rfl)
    (fun pre W => Blk W Bn 31 #[.slice (some ⟨gn, 0, none⟩) 0 0] ∧ Below w.heap.size w W)
    (fun s A A' ⟨h2, h4⟩ hz hb => ⟨h2.below hb k14.lt, h4.trans (hb.mono q4.size)⟩)
    ⟨k14, q4⟩
    (fun x => { tmps := #[.pointer p, undef, .slice none 0 0, .pointer (some ⟨Bn, 0, none⟩), .pointer (some ⟨Bm, 0, none⟩), .int .i64 (x.1.1 : Nat), .int .i64 (x.1.2 : Nat), .pointer p, .int .i64 0, .slice (some ⟨gn, 0, none⟩) 0 0, .pointer p, .func (.func 53) #[] #[.pointer (some ⟨Bg, 0, none⟩)], .int .i64 (x.1.1 : Nat), .int .i64 (x.1.2 : Nat), undef, undef, undef, undef, undef, undef, undef, undef], defers := [] }) ?assign ?body ?done)
  case assign =>
    intro l x W K' hK'
    gi_wp2
    exact hK'
  case body =>
    rintro l pre x W hsz _ hl
    exact absurd hl (Nat.not_lt_zero _)
  case done =>
    rintro D ys W hD hys ⟨hbn, hb⟩ hK
    have c2 := hbn.cell 0
    simp at c2
    have hDl := (Array.getElem?_eq_some_iff.1 hK).1
    have hq4 := q4.size
    go_wp2_with fail
    refine postM_mark rfl hK (results_tmp rfl _ _ _) ?_
    exact ⟨gn, rfl, below_putObj hb (by omega) hDl⟩
set_option maxRecDepth 100000 in
set_option maxHeartbeats 1000000 in
theorem degeneracy_no {w : World} {p : Option Addr} (h : NoGr w p) : Calls Try.prog 17 #[.pointer p] w fun e w' => e = .returned (.int .i64 0) ∧ Below w.heap.size w w' := by
  refine calls_of_marks Try.func17 rfl ?_
  simp only [Try.ntmps17, List.size_toArray, List.length_cons, List.length_nil, Nat.reduceAdd, Nat.reduceSub, Array.replicate_succ, Array.replicate_zero, List.push_toArray, List.append_toArray, List.nil_append, List.cons_append]
  have b3 := below_new1 w (.cells #[.int .i64 0] 3)
  have k1 := Blk.new w 3 #[.int .i64 0]
  have hG3 := h.below b3
  clear h
  go_upto_region 2 with fail
  generalize w.alloc (.cells #[.int .i64 0] 3) = W3 at *
  have xr := removals_any p W3
  go_wp2_with fail
  refine xr.mono ?_
  rintro e w' ⟨rfl, rfl⟩
  have b4 := below_new1 W3 (.cells #[.pointer p] 27)
  have hBg := Blk.new W3 27 #[.pointer p]
  have k14 := k1.below b4 k1.lt
  have hG4 := hG3.below b4
  have q4 := below_end b3 b3.size b4
  clear xr b3 k1 hG3 b4
  obtain ⟨Bm, hBm⟩ : ∃ x, w.heap.size = x := ⟨_, rfl⟩
  obtain ⟨Bg, hBgE⟩ : ∃ x, W3.heap.size = x := ⟨_, rfl⟩
  rw [hBm] at k14
  rw [hBgE] at hBg
  rw [hBm, hBgE]
  clear hBm hBgE
  go_wp2_with fail
  have hBg4 := hBg
  generalize W3.alloc (.cells #[.pointer p] 27) = W4 at *
  have hseq := removals_no hBg hG4 (fun _ _ _ => True)
  refine wpIn_wide.1 (wpIn_range_writes (F := Fence.wide) (n := 9) rfl (by decide) (gf := 53) (lb := #[.pointer (some ⟨Bg, 0, none⟩)]) rfl trivial (enters_of Try.func53 (by kernel_rfl) rfl) hseq
    (fun _ _ => trivial) (fun _ _ _ _ _ _ _ _ _ => trivial) (fun _ => rfl)
    (fun pre W => Blk W Bm 3 #[.int .i64 0] ∧ Below w.heap.size w W)
    (fun s A A' ⟨h2, h4⟩ hz hb => ⟨h2.below hb k14.lt, h4.trans (hb.mono q4.size)⟩)
    ⟨k14, q4⟩
    (fun x => { tmps := #[.pointer p, undef, .int .i64 0, .pointer (some ⟨Bm, 0, none⟩), undef, .int .i64 (x.1.2 : Nat), .pointer p, .func (.func 53) #[] #[.pointer (some ⟨Bg, 0, none⟩)], .int .i64 (x.1.1 : Nat), .int .i64 (x.1.2 : Nat), undef, undef, undef, undef], defers := [] }) ?assign ?body ?done)
  case assign =>
    intro l x W K' hK'
    gi_wp2
    exact hK'
  case body =>
    rintro l pre x W hsz _ hl
    exact absurd hl (Nat.not_lt_zero _)
  case done =>
    rintro D ys W hD hys ⟨hbn, hb⟩ hK
    have c2 := hbn.cell 0
    simp at c2
    have hDl := (Array.getElem?_eq_some_iff.1 hK).1
    have hq4 := q4.size
    go_wp2_with fail
    refine postM_mark rfl hK (results_tmp rfl _ _ _) ?_
    exact ⟨rfl, below_putObj hb (by omega) hDl⟩
set_option maxRecDepth 100000 in
set_option maxHeartbeats 1000000 in
theorem order_no {w : World} {p : Option Addr} (h : NoGr w p) : Calls Try.prog 24 #[.pointer p] w fun e w' => ∃ g, e = .returned (.slice (some ⟨g, 0, none⟩) 0 0) ∧ (∃ cs, Blk w' g 3 cs) ∧ Below w.heap.size w w' := by
  have xn := n_no h
  have mk1 := mk31_0
  refine calls_of_marks Try.func24 rfl ?_
  simp only [Try.ntmps24, List.size_toArray, List.length_cons, List.length_nil, Nat.reduceAdd, Nat.reduceSub, Array.replicate_succ, Array.replicate_zero, List.push_toArray, List.append_toArray, List.nil_append, List.cons_append]
  go_wp2_with fail
  refine xn.mono ?_
  rintro e w' ⟨rfl, rfl⟩
  have b3 := below_new2 w (.cells (zerosK .i64 0) 3) (.cells #[.slice (some ⟨w.heap.size, 0, none⟩) 0 0] 31)
  have r1 := (Blk.new w 3 (zerosK .i64 0)).alloc (.cells #[.slice (some ⟨w.heap.size, 0, none⟩) 0 0] 31)
  have k1 := Blk.new2 w (.cells (zerosK .i64 0) 3) 31 #[.slice (some ⟨w.heap.size, 0, none⟩) 0 0]
  have hG3 := h.below b3
  clear xn h
  go_upto_region 2 with fail
  clear mk1
  generalize (w.alloc (.cells (zerosK .i64 0) 3)).alloc (.cells #[.slice (some ⟨w.heap.size, 0, none⟩) 0 0] 31) = W3 at *
  have xr := removals_any p W3
  go_wp2_with fail
  refine xr.mono ?_
  rintro e w' ⟨rfl, rfl⟩
  have b4 := below_new1 W3 (.cells #[.pointer p] 27)
  have hBg := Blk.new W3 27 #[.pointer p]
  have k14 := k1.below b4 k1.lt
  have r14 := r1.below b4 r1.lt
  have hG4 := hG3.below b4
  have q4 := below_end b3 b3.size b4
  have hltr := r14.lt
  clear xr b3 k1 r1 hG3
  obtain ⟨gn, hgn⟩ : ∃ x, w.heap.size = x := ⟨_, rfl⟩
  obtain ⟨Bn, hBn⟩ : ∃ x, w.heap.size + 1 = x := ⟨_, rfl⟩
  obtain ⟨Bg, hBgE⟩ : ∃ x, W3.heap.size = x := ⟨_, rfl⟩
  rw [hBn, hgn] at k14
  rw [hgn] at r14 hltr
  rw [hBgE] at hBg
  rw [hBn, hgn, hBgE]
  clear hgn hBn hBgE b4
  go_wp2_with fail
  have hBg4 := hBg
  generalize W3.alloc (.cells #[.pointer p] 27) = W4 at *
  have hseq := removals_no hBg hG4 (fun _ _ _ => True)
  refine wpIn_wide.1 (wpIn_range_writes (F := Fence.wide) (n := 9) rfl (by decide) (gf := 53) (lb := #[.pointer (some ⟨Bg, 0, none⟩)]) rfl trivial (enters_of Try.func53 (by kernel_rfl) rfl) hseq
    (fun _ _ => trivial) (fun _ _ _ _ _ _ _ _ _ => trivial) (fun _ => rfl)
    (fun pre W => Blk W gn 3 (zerosK .i64 0) ∧ Blk W Bn 31 #[.slice (some ⟨gn, 0, none⟩) 0 0] ∧ Below w.heap.size w W)
    (fun s A A' ⟨h1, h2, h4⟩ hz hb => ⟨h1.below hb hltr, h2.below hb k14.lt, h4.trans (hb.mono q4.size)⟩)
    ⟨r14, k14, q4⟩
    (fun x => { tmps := #[.pointer p, undef, .slice none 0 0, .pointer (some ⟨Bn, 0, none⟩), .int .i64 (x.1.1 : Nat), .pointer p, .int .i64 0, .slice (some ⟨gn, 0, none⟩) 0 0, .pointer p, .func (.func 53) #[] #[.pointer (some ⟨Bg, 0, none⟩)], .int .i64 (x.1.1 : Nat), .int .i64 (x.1.2 : Nat), undef, undef, undef, undef, undef], defers := [] }) ?assign ?body ?done)
  case assign =>
    intro l x W K' hK'
    gi_wp2
    exact hK'
  case body =>
    rintro l pre x W hsz _ hl
    exact absurd hl (Nat.not_lt_zero _)
  case done =>
    rintro D ys W hD hys ⟨hr, hbn, hb⟩ hK
    have c2 := hbn.cell 0
    simp at c2
    have hDl := (Array.getElem?_eq_some_iff.1 hK).1
    have hq4 := q4.size
    go_wp2_with fail
    refine postM_mark rfl hK (results_tmp rfl _ _ _) ?_
    exact ⟨gn, rfl, ⟨_, (World.putObj_heap_other (by omega)).trans hr⟩, below_putObj hb (by omega) hDl⟩
set_option maxRecDepth 100000 in
set_option maxHeartbeats 1000000 in
theorem core_no {w : World} {p : Option Addr} (h : NoGr w p) (k : Int) : Calls Try.prog 19 #[.pointer p, .int .i64 k] w fun e w' => e = .returned (.slice none 0 0) ∧ Below w.heap.size w w' := by
  have xn := numbers_no h
  clear h
  go_enter Try.func19, Try.ntmps19
  go_wp2_with fail
  refine xn.mono ?_
  rintro e w1 ⟨gn, rfl, q1⟩
  clear xn
  go_wp2_with fail
  go_loopw [5, 6, 7, 11] (fun v5 _ _ v wr => v5 = .slice none 0 0 ∧ v = .int .i64 0 ∧ w1 = wr) (fun _ _ _ _ _ => 0)
  case atStart => exact ⟨rfl, rfl, rfl⟩
  case round =>
    obtain ⟨rfl, rfl, rfl⟩ := hrel
    go_wp2_with fail
    go_ret
    exact ⟨rfl, q1⟩
set_option maxRecDepth 100000 in
theorem shells_no {w : World} {p : Option Addr} (h : NoGr w p) : Calls Try.prog 25 #[.pointer p] w fun e w' => e = .returned (.slice none 0 0) ∧ w = w' := by
  have x0 := n_no h
  clear h
  go_enter Try.func25, Try.ntmps25
  go_wp2_with fail
  refine x0.mono ?_
  rintro e w' ⟨rfl, rfl⟩
  go_wp2_with fail
  go_ret
  exact ⟨rfl, rfl⟩
set_option maxRecDepth 100000 in
set_option maxHeartbeats 1000000 in
theorem densest_no {w : World} {p : Option Addr} (h : NoGr w p) : Calls Try.prog 22 #[.pointer p] w fun e w' => e = .returned (.tuple #[.int .i64 0, .agg #[.int .i64 0, .int .i64 0]]) ∧ Below w.heap.size w w' := by
  have b1 := below_new1 w (.cells #[.int .i64 0, .int .i64 0] 42)
  have kb3 := Blk.new w 42 #[.int .i64 0, .int .i64 0]
  have x0 := strength_no (h.below b1)
  clear h
  go_enter Try.func22, Try.ntmps22
  go_upto_region 1 with fail
  generalize w.alloc (.cells #[.int .i64 0, .int .i64 0] 42) = W1 at *
  obtain ⟨B3, hB3⟩ : ∃ x, w.heap.size = x := ⟨_, rfl⟩
  have hB30 : w.heap.size ≤ B3 := by omega
  rw [hB3] at kb3
  rw [hB3]
  clear hB3
  go_wp2_with fail
  refine x0.mono ?_
  rintro e w' ⟨rfl, rfl⟩
  clear x0
  have c0 := kb3.cell 0
  have c1 := kb3.cell 1
  have c2 := kb3.frozen 0
  have c3 := kb3.frozen 1
  simp at c0 c1
  go_wp2_with fail
  have k4 : Blk ((W1.setCell ⟨B3, 0, none⟩ (.int .i64 0)).setCell ⟨B3, 1, none⟩ (.int .i64 0)) B3 42 #[.int .i64 0, .int .i64 0] := by
    have := (kb3.set_ 0 (.int .i64 0)).set_ 1 (.int .i64 0)
    simpa using this
  have q4 := (b1.setCell (p := ⟨B3, 0, none⟩) hB30 (.int .i64 0)).setCell (p := ⟨B3, 1, none⟩) hB30 (.int .i64 0)
  clear c0 c1 c2 c3
  generalize (W1.setCell ⟨B3, 0, none⟩ (.int .i64 0)).setCell ⟨B3, 1, none⟩ (.int .i64 0) = W2 at *
  have c0 := k4.cell 0
  have c1 := k4.cell 1
  simp at c0 c1
  simp [bodyPost, results, Try.results22, go_sem, c0, c1]
  exact q4
end Go.Proofs.Ytoiafopndlnknaa
