/-
  Colors where there is no graph.
-/
import Derived.Test.YtoiafopndlnknaaN1
set_option linter.unusedVariables false
set_option linter.unusedSimpArgs false
namespace Go.Proofs.Ytoiafopndlnknaa
open Go.RowKit Go.Shelf

attribute [local go_sem] Oper.semAt_some

set_option maxRecDepth 100000 in
set_option maxHeartbeats 1000000 in
theorem colors_no {w : World} {p : Option Addr} (h : NoGr w p) : Calls Try.prog 26 #[.pointer p] w fun e w' => ∃ g, e = .returned (.slice (some ⟨g, 0, none⟩) 0 0) ∧ Below w.heap.size w w' := by
  have mk1 := mk31_0
  refine calls_of_marks Try.func26 rfl ?_
  simp only [Try.ntmps26, List.size_toArray, List.length_cons, List.length_nil, Nat.reduceAdd, Nat.reduceSub, Array.replicate_succ, Array.replicate_zero, List.push_toArray, List.append_toArray, List.nil_append, List.cons_append]
  have b1 := below_new1 w (.cells #[.pointer p] 27)
  have kG := Blk.new w 27 #[.pointer p]
  have hG1 := h.below b1
  clear h
  go_upto_region 1 with fail
  generalize w.alloc (.cells #[.pointer p] 27) = W1 at *
  obtain ⟨BG, hBG⟩ : ∃ x, w.heap.size = x := ⟨_, rfl⟩
  rw [hBG] at kG
  rw [hBG]
  clear hBG
  have cG := kG.cell 0
  simp at cG
  have xn := n_no hG1
  go_wp2_with fail
  refine xn.mono ?_
  rintro e w' ⟨rfl, rfl⟩
  have b3 := below_new2 W1 (.cells (zerosK .i64 0) 3) (.cells #[.slice (some ⟨W1.heap.size, 0, none⟩) 0 0] 31)
  have kc := Blk.new2 W1 (.cells (zerosK .i64 0) 3) 31 #[.slice (some ⟨W1.heap.size, 0, none⟩) 0 0]
  have hG3 := hG1.below b3
  have kG3 := kG.below b3 kG.lt
  have q3 := below_end b1 b1.size b3
  clear xn hG1 kG cG
  go_upto_region 3 with fail
  clear mk1
  generalize (W1.alloc (.cells (zerosK .i64 0) 3)).alloc (.cells #[.slice (some ⟨W1.heap.size, 0, none⟩) 0 0] 31) = W3 at *
  obtain ⟨gc, hgc⟩ : ∃ x, W1.heap.size = x := ⟨_, rfl⟩
  obtain ⟨Bc, hBc⟩ : ∃ x, W1.heap.size + 1 = x := ⟨_, rfl⟩
  rw [hBc, hgc] at kc
  rw [hBc, hgc]
  clear hgc hBc b1 b3
  go_loopw [4, 17] (fun _ v wr => v = .int .i64 0 ∧ W3 = wr) (fun _ _ _ => 0)
  case atStart => exact ⟨rfl, rfl⟩
  case round =>
    obtain ⟨rfl, rfl⟩ := hrel
    have xo := order_no hG3
    have cG := kG3.cell 0
    simp at cG
    go_wp2_with fail
    refine xo.mono ?_
    rintro e w4 ⟨go, rfl, ⟨cso, hko⟩, q4⟩
    have kc4 := kc.below q4 kc.lt
    have q5 := below_end q3 q3.size q4
    clear xo cG kc kG3 hG3 q3 q4
    have xb := back_any (.slice (some ⟨go, 0, none⟩) 0 0) (some ⟨go, 0, none⟩) 0 0 rfl w4
    go_wp2_with fail
    refine xb.mono ?_
    rintro e w' ⟨rfl, rfl⟩
    have b5 := below_new1 w4 (.cells #[.slice (some ⟨go, 0, none⟩) 0 0] 31)
    have kB := Blk.new w4 31 #[.slice (some ⟨go, 0, none⟩) 0 0]
    have kc5 := kc4.below b5 kc4.lt
    have hR5 : ∃ cs, Blk (w4.alloc (.cells #[.slice (some ⟨go, 0, none⟩) 0 0] 31)) go 3 cs ∧ ∀ i, i < 0 → cs[i]? = some (Value.int .i64 (([] : List Nat).getD i 0 : Nat)) := ⟨cso, hko.below b5 hko.lt, fun i hi => by omega⟩
    have q6 := below_end q5 q5.size b5
    go_wp2_with fail
    have hsz5 : w4.heap.size < (w4.alloc (.cells #[.slice (some ⟨go, 0, none⟩) 0 0] 31)).heap.size := by simp
    generalize w4.alloc (.cells #[.slice (some ⟨go, 0, none⟩) 0 0] 31) = W5 at *
    obtain ⟨BS, hBS⟩ : ∃ x, w4.heap.size = x := ⟨_, rfl⟩
    rw [hBS] at kB hsz5
    rw [hBS]
    have hgoS : go < BS := by rw [← hBS]; exact hko.lt
    clear hBS kc4 q5 b5 xb hko
    have hxs := back_stops BS go 0 0 [] rfl (by omega) (Nat.le_refl _) W5 kB hR5
    have hq6 := q6.size
    have hlt5 := kc5.lt
    clear kB hR5
    refine wpIn_wide.1 (wpIn_rangeFunc_ownH (F := Fence.wide) (n := 9) rfl (by decide) (gf := 64) (lb := #[.pointer (some ⟨BS, 0, none⟩)]) rfl trivial (enters_of Try.func64 (by kernel_rfl) rfl) hxs
      (fun h k => h.trans k) (fun W k o o' hk _ _ _ => KpB.putObj o' (fun j hj => by simp at hj hk; rcases hj with rfl | rfl <;> omega)) (Below.refl _ _) (fun _ => rfl)
      (fun pre W => Blk W Bc 31 #[.slice (some ⟨gc, 0, none⟩) 0 0] ∧ Below w.heap.size w W ∧ W5.heap.size ≤ W.heap.size)
      (fun _ _ _ => False)
      (fun s A A' row ⟨h1, h2, h3⟩ hg hr => ⟨h1.own' hg (fun r e => (hr r e).2), h2.grown hg h2.size (fun k hk => Nat.le_trans hq6 (hr k hk).1), Nat.le_trans h3 hg.size⟩)
      (fun _ _ _ _ _ hs _ _ => hs)
      ⟨kc5, q6, Nat.le_refl _⟩
      (fun k a' W => a' = { tmps := #[.pointer p, .pointer (some ⟨BG, 0, none⟩), .slice none 0 0, .pointer (some ⟨Bc, 0, none⟩), u4, .slice (some ⟨go, 0, none⟩) 0 0, undef, .int .i64 (([] : List Nat).getD k 0 : Nat), undef, undef, undef, undef, .pointer p, .int .i64 0, .slice (some ⟨gc, 0, none⟩) 0 0, .slice (some ⟨gc, 0, none⟩) 0 0, .int .i64 0, .int .i64 0, .bool false, u19, u20, u21, u22, u23, .pointer p, .slice (some ⟨go, 0, none⟩) 0 0, .slice (some ⟨go, 0, none⟩) 0 0, .func (.func 64) #[] #[.pointer (some ⟨BS, 0, none⟩)], .int .i64 (k : Nat), .int .i64 (([] : List Nat).getD k 0 : Nat), undef, undef, undef, undef, undef, undef, undef, undef, undef, undef, undef, undef, undef, undef, undef, undef, undef, undef, undef, undef, undef, undef, undef, undef, undef, undef, undef, undef, undef, undef, undef], defers := [] })
      (fun _ _ _ _ _ _ hs _ _ => hs)
      ?assign ?body ?done ?stop)
    case assign =>
      intro l pre k W K' hI hK'
      gi_wp2
      exact hK' _ _ (KeepsFrom.refl _ _) (fun _ _ => rfl) hI rfl
    case stop =>
      rintro D c pre W _ _ h _
      exact h.elim
    case body =>
      rintro l pre k a' W hl ⟨r, hr⟩ hC rfl hpl
      exact absurd hpl (Nat.not_lt_zero _)
    case done =>
      rintro D ys W hD rfl ⟨hkc, hb, hz⟩ hK
      have c2 := hkc.cell 0
      simp at c2
      have hDl := (Array.getElem?_eq_some_iff.1 hK).1
      go_wp2_with fail
      refine postM_mark rfl hK (results_tmp rfl _ _ _) ?_
      exact ⟨gc, rfl, below_putObj hb (by omega) hDl⟩
end Go.Proofs.Ytoiafopndlnknaa
