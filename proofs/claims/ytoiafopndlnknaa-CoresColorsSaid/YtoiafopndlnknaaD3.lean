/-
  Numbers, Degeneracy, Order.
-/
import Derived.Test.YtoiafopndlnknaaD2
set_option linter.unusedVariables false
set_option linter.unusedSimpArgs false
namespace Go.Proofs.Ytoiafopndlnknaa
open Go.RowKit Go.Shelf

attribute [local go_sem] Oper.semAt_some

theorem removals_any (p : Option Addr) (w : World) :
    Calls Try.prog 37 #[.pointer p] w fun e w' => e = .returned (.func (.func 53) #[] #[.pointer (some ⟨w.heap.size, 0, none⟩)]) ∧ w.alloc (.cells #[.pointer p] 27) = w' := by
  go_enter Try.func37, Try.ntmps37
  go_wp2
  go_ret
  exact ⟨rfl, rfl⟩
theorem removals_w {w : World} {Bg n : Nat} {K : GB} {E : Es} (hBg : Blk w Bg 27 #[.pointer (some ⟨K.g, 0, none⟩)]) (hG : Gr w K n E) :
    SeqW Fence.wide 8 Try.prog 53 #[.pointer (some ⟨Bg, 0, none⟩)] (fun x : VD n => #[.int .i64 (x.1.1 : Nat), .int .i64 (x.1.2 : Nat)]) (Kc (Bg :: K.l) w.heap.size) (fun ys => ys.map (·.1) = peel E n) n w := fun l J W hW hJa hY h0 => by
  refine (removals8_in l Bg n w.heap.size K E (fun pre W => ∃ p : List (VD n), p.map (·.1) = pre ∧ J p W) W hW.size (fun s A A' ⟨p, e, h⟩ hz hb => ⟨p, e, hJa p A A' h hz hb⟩) ?_ (hBg.below hW hBg.lt) (hG.below hW) ⟨[], rfl, h0⟩).mono ?_
  · rintro pre x W1 hx hx2 ⟨p, rfl, hj⟩ hl
    refine (hY p ⟨x, hx, hx2⟩ W1 hj (by simpa using hl)).mono ?_
    rintro e W' ⟨h1, h2, h3⟩
    exact ⟨h1, ⟨p ++ [⟨x, hx, hx2⟩], by simp, h2⟩, h3⟩
  · rintro e W' ⟨hv, ys, rfl, p, hp, hj⟩
    exact ⟨hv, p, hp, hj⟩
theorem Kc.setCell {l : List Nat} {B m : Nat} {W : World} {p : Addr} (u : Value) (hk : ∀ k, (k ∈ l ∨ B ≤ k) → k ≠ p.block) : Kc l B m W (W.setCell p u) :=
  ⟨by simp, fun k o h1 h2 _ => (Below.heap_setCell W p u k (hk k h1)).trans h2, fun k o _ h2 hc => (KeepsOthers.setCell W p u).same k o h2 hc⟩
theorem numS_le {n : Nat} : ∀ (r : List (VD n)), (numS ((r.map (·.1)).reverse)).1 ≤ 20000
  | [] => by simp [numS]
  | x :: r => by
    rw [List.map_cons, List.reverse_cons, numS_snoc]
    have := numS_le r
    have := x.2.2
    unfold accN
    show max _ _ ≤ _
    omega
theorem numS_le' {n : Nat} (p : List (VD n)) : (numS (p.map (·.1))).1 ≤ 20000 := by
  have := numS_le p.reverse
  rwa [List.map_reverse, List.reverse_reverse] at this
set_option maxRecDepth 100000 in
set_option maxHeartbeats 2500000 in
theorem numbers_ok {w : World} {K : GB} {n : Nat} {E : Es} (hG : Gr w K n E) :
    Calls Try.prog 16 #[.pointer (some ⟨K.g, 0, none⟩)] w fun e w' => ∃ gn, e = .returned (.slice (some ⟨gn, 0, none⟩) n n) ∧ w.heap.size ≤ gn ∧ RowF .i64 w' gn 3 n (fun u => (num E n u : Nat)) ∧ Below w.heap.size w w' := by
  have xn := n_ok hG
  have hn := hG.fine.1
  have hGL := Lib.hid hG.lt
  have mk1 := run_make31 n (by omega)
  refine calls_of_marks Try.func16 rfl ?_
  simp only [Try.ntmps16, List.size_toArray, List.length_cons, List.length_nil, Nat.reduceAdd, Nat.reduceSub, Array.replicate_succ, Array.replicate_zero, List.push_toArray, List.append_toArray, List.nil_append, List.cons_append]
  go_wp2_with fail
  refine xn.mono ?_
  rintro e w' ⟨rfl, rfl⟩
  have b3 := below_new3 w (.cells (zerosK .i64 n) 3) (.cells #[.slice (some ⟨w.heap.size, 0, none⟩) n n] 31) (.cells #[.int .i64 0] 3)
  have r0 := ((RowF.new .i64 w 3 n).alloc (.cells #[.slice (some ⟨w.heap.size, 0, none⟩) n n] 31)).alloc (.cells #[.int .i64 0] 3)
  have k1 := (Blk.new2 w (.cells (zerosK .i64 n) 3) 31 #[.slice (some ⟨w.heap.size, 0, none⟩) n n]).alloc (.cells #[.int .i64 0] 3)
  have k2 := Blk.new3 w (.cells (zerosK .i64 n) 3) (.cells #[.slice (some ⟨w.heap.size, 0, none⟩) n n] 31) 3 #[.int .i64 0]
  have hG3 := hG.below b3
  clear xn hG
  go_upto_region 3 with fail
  clear mk1
  generalize ((w.alloc (.cells (zerosK .i64 n) 3)).alloc (.cells #[.slice (some ⟨w.heap.size, 0, none⟩) n n] 31)).alloc (.cells #[.int .i64 0] 3) = W3 at *
  have xr := removals_any (some ⟨K.g, 0, none⟩) W3
  go_wp2_with fail
  refine xr.mono ?_
  rintro e w' ⟨rfl, rfl⟩
  have b4 := below_new1 W3 (.cells #[.pointer (some ⟨K.g, 0, none⟩)] 27)
  have hBg := Blk.new W3 27 #[.pointer (some ⟨K.g, 0, none⟩)]
  have r4 := r0.below' b4
  have k14 := k1.below b4 k1.lt
  have k24 := k2.below b4 k2.lt
  have hG4 := hG3.below b4
  have q4 := below_end b3 b3.size b4
  have hs1 := k1.lt
  have hs2 := k2.lt
  have hs3 : W3.heap.size < (W3.alloc (.cells #[.pointer (some ⟨K.g, 0, none⟩)] 27)).heap.size := by simp
  clear xr b3 r0 k1 k2 hG3 b4
  obtain ⟨gn, hgn⟩ : ∃ x, w.heap.size = x := ⟨_, rfl⟩
  obtain ⟨Bn, hBn⟩ : ∃ x, w.heap.size + 1 = x := ⟨_, rfl⟩
  obtain ⟨Bm, hBm⟩ : ∃ x, w.heap.size + 1 + 1 = x := ⟨_, rfl⟩
  obtain ⟨Bg, hBgE⟩ : ∃ x, W3.heap.size = x := ⟨_, rfl⟩
  have hne : gn ≠ Bn ∧ gn ≠ Bm ∧ Bn ≠ Bm ∧ w.heap.size ≤ gn ∧ w.heap.size ≤ Bn ∧ w.heap.size ≤ Bm ∧ gn < Bg ∧ Bn < Bg ∧ Bm < Bg := by omega
  rw [hBm] at k24
  rw [hBn, hgn] at k14
  rw [hgn] at r4
  rw [hBgE] at hBg hs3
  rw [hBm, hBn, hgn, hBgE]
  clear hgn hBn hBm hBgE hs1 hs2
  go_wp2_with fail
  generalize W3.alloc (.cells #[.pointer (some ⟨K.g, 0, none⟩)] 27) = W4 at *
  have hseq := removals_w hBg hG4
  refine wpIn_wide.1 (wpIn_range_writes (F := Fence.wide) (n := 9) rfl (by decide) (gf := 53) (lb := #[.pointer (some ⟨Bg, 0, none⟩)]) rfl trivial (enters_of Try.func53 (by kernel_rfl) rfl) hseq
    (fun h k => h.trans k) (fun m W k o o' h1 h2 h3 h4 => Kc.put o' h2 h3 h4) (fun _ => rfl)
    (fun pre W => RowF .i64 W gn 3 n (fun u => ((numS (pre.map (·.1))).2 u : Nat)) ∧ Blk W Bn 31 #[.slice (some ⟨gn, 0, none⟩) n n] ∧ Blk W Bm 3 #[.int .i64 ((numS (pre.map (·.1))).1 : Nat)] ∧ Below w.heap.size w W)
    (fun s A A' ⟨h1, h2, h3, h4⟩ hz hb => by
      obtain ⟨cs, g1, g2⟩ := h1
      exact ⟨⟨cs, g1.below hb (by omega), g2⟩, h2.below hb (by omega), h3.below hb (by omega), h4.trans (hb.mono (by have := q4.size; omega))⟩)
    ⟨r4.congr (fun u hu => rfl), k14, k24, q4⟩
    (fun x => { tmps := #[.pointer (some ⟨K.g, 0, none⟩), undef, .slice none 0 0, .pointer (some ⟨Bn, 0, none⟩), .pointer (some ⟨Bm, 0, none⟩), .int .i64 (x.1.1 : Nat), .int .i64 (x.1.2 : Nat), .pointer (some ⟨K.g, 0, none⟩), .int .i64 (n : Nat), .slice (some ⟨gn, 0, none⟩) n n, .pointer (some ⟨K.g, 0, none⟩), .func (.func 53) #[] #[.pointer (some ⟨Bg, 0, none⟩)], .int .i64 (x.1.1 : Nat), .int .i64 (x.1.2 : Nat), undef, undef, undef, undef, undef, undef, undef, undef], defers := [] }) ?assign ?body ?done)
  case assign =>
    intro l x W K' hK'
    gi_wp2
    exact hK'
  case body =>
    rintro l pre ⟨⟨v, d⟩, hv, hd⟩ W hsz ⟨hR, hbn, hbm, hb⟩ hl
    have hv : v < n := hv
    have hd : d ≤ 20000 := hd
    have hle := numS_le' pre
    have HS := Lib.hid (numS_snoc (pre.map (fun x : VD n => x.1)) (v, d))
    have hp : ∀ k, (k ∈ Bg :: K.l ∨ W4.heap.size ≤ k) → k ≠ gn ∧ k ≠ Bn ∧ k ≠ Bm := fun k hk => by
      rcases hk with hk | hk
      · rcases List.mem_cons.1 hk with rfl | hk
        · omega
        · have := hGL.out k hk; omega
      · omega
    have HP := Lib.hid hp
    obtain ⟨g, hg⟩ : ∃ g, (numS (pre.map (·.1))).1 = g := ⟨_, rfl⟩
    obtain ⟨f, hf⟩ : ∃ g, (numS (pre.map (·.1))).2 = g := ⟨_, rfl⟩
    have HE := Lib.hid (show accN (numS (pre.map (·.1))) (v, d) = (max g d, fun u => if u = v then max g d else f u) from by unfold accN; rw [hg, hf])
    rw [hg] at hbm hle
    rw [hf] at hR
    clear hg hf hp hl
    have c0 := hbm.cell 0
    have c1 := hbm.frozen 0
    have c2 := hbn.cell 0
    have c3 := hR.cell hv
    have c4 := hR.frozen v
    simp at c0 c2
    have hvn : (v : Int) < (n : Int) := by omega
    obtain ⟨M, hM⟩ : ∃ M, max g d = M := ⟨_, rfl⟩
    have hmax : max (g : Int) (d : Int) = (M : Int) := by omega
    have hbm2 : Blk (W.setCell ⟨Bm, 0, none⟩ (.int .i64 (M : Nat))) Bm 3 #[.int .i64 (M : Nat)] := by
      have := hbm.set_ 0 (.int .i64 (M : Nat))
      simpa using this
    have hbn2 := hbn.far (p := ⟨Bm, 0, none⟩) hne.2.2.1 (.int .i64 (M : Nat))
    have hR2 := hR.far (p := ⟨Bm, 0, none⟩) hne.2.1 (.int .i64 (M : Nat))
    have hb2 := hb.setCell (p := ⟨Bm, 0, none⟩) hne.2.2.2.2.2.1 (.int .i64 (M : Nat))
    have hc2 : Kc (Bg :: K.l) W4.heap.size (W4.heap.size + 2) W (W.setCell ⟨Bm, 0, none⟩ (.int .i64 (M : Nat))) := Kc.setCell _ (fun k hk => (HP.out k hk).2.2)
    have hk2 := KeepsOthers.setCell W ⟨Bm, 0, none⟩ (.int .i64 (M : Nat))
    have d0 := hbm2.cell 0
    have d2 := hbn2.cell 0
    have d3 := hR2.cell hv
    have d4 := hR2.frozen v
    simp at d0 d2
    have hbm3 := hbm2.far (p := ⟨gn, v, none⟩) (Ne.symm hne.2.1) (.int .i64 (M : Nat))
    have hbn3 := hbn2.far (p := ⟨gn, v, none⟩) (Ne.symm hne.1) (.int .i64 (M : Nat))
    have hR3 := hR2.set_ v ((M : Nat) : Int)
    have hb3 := hb2.setCell (p := ⟨gn, v, none⟩) hne.2.2.2.1 (.int .i64 (M : Nat))
    have hc3 := hc2.trans (Kc.setCell (l := Bg :: K.l) (B := W4.heap.size) (m := W4.heap.size + 2) (p := ⟨gn, v, none⟩) (.int .i64 (M : Nat)) (fun k hk => (HP.out k hk).1))
    have hk3 := hk2.trans (KeepsOthers.setCell _ ⟨gn, v, none⟩ (.int .i64 (M : Nat)))
    have HM := Lib.hid hM
    clear hbm hbn hR hb hc2 hk2 hbm2 hbn2 hR2 hb2 hM
    gi_wp2_with fail
    refine ⟨hk3, hc3, ?_, hbn3, ?_, hb3⟩
    · simp only [List.map_append, List.map_cons, List.map_nil, HS.out, HE.out, HM.out]
      exact hR3.congr (fun u hu => by show (if u = v then ((M : Nat) : Int) else (f u : Nat)) = ((if u = v then M else f u : Nat) : Int); split <;> rfl)
    · simp only [List.map_append, List.map_cons, List.map_nil, HS.out, HE.out, HM.out]
      exact hbm3
  case done =>
    rintro D ys W hD hys ⟨hR, hbn, hbm, hb⟩ hK
    have c2 := hbn.cell 0
    simp at c2
    rw [hys] at hR
    have hDl := (Array.getElem?_eq_some_iff.1 hK).1
    have hq4 := q4.size
    go_wp2_with fail
    refine postM_mark rfl hK (results_tmp rfl _ _ _) ?_
    obtain ⟨cs, g1, g2⟩ := hR
    exact ⟨gn, rfl, hne.2.2.2.1, ⟨cs, (World.putObj_heap_other (by omega)).trans g1, g2⟩, below_putObj hb (by omega) hDl⟩
end Go.Proofs.Ytoiafopndlnknaa
