/-
  The document's sequences: Split.
-/
import Derived.Test.YtgichkjomhnehaaT9
set_option linter.unusedVariables false
set_option linter.unusedSectionVars false
set_option linter.unusedSimpArgs false
namespace Go.Proofs.Ytgichkjomhnehaa
open Go.RowKit Go.Shelf

theorem balloc {a w : World} (h : Below a.heap.size a w) (o : Obj) : Below a.heap.size a (w.alloc o) := h.alloc h.size o
theorem bdrew {a w : World} (h : Below a.heap.size a w) : Below a.heap.size a w.drew := h.drew
/-- append of numbers to an empty slice, at a step of a region that draws -/
theorem step_append_empty {ops : Array Oper} {o : Oper} {a : Act} {w : World} {K : Act → World → Prop} {Q : Exit → Act → World → Prop} {E : Prop} (hg : o.guard = none) (s x : Operand) (ho : o.op = .call { callee := .builtin .append, args := #[s, x], argTypes := #[25, 25] })
    (p : Addr) (hs : a.eval s = .slice (some p) 0 0) (ad : Addr) (m c : Nat) (z : Nat → Int) (hx : a.eval x = .slice (some ad) m c) (hz : ArgI .i64 w (some ad) m c z) (hm : 0 < m) (h63 : m ≤ 100000)
    (h : ∀ A' c' w', w'.ownsRow w.heap.size 3 1 (.slice A' m c') m (vals z m) → Below w.heap.size w w' → K (a.put o.dst (.slice A' m c')) w') :
    if Region.wanted o (yielded ops a.tmps) = true then Oper.wp Try.prog o a w K Q else E := by
  have hw : Region.wanted o (yielded ops a.tmps) = true := by simp [Region.wanted, hg]
  rw [if_pos hw]
  obtain ⟨i0, hi, hz0, hz1, hz2⟩ := info_parts info3
  have hlen : (vals z m).length = m * i0.size := by rw [vals_len, hz1, Nat.mul_one]
  have hnews : ∀ (j : Nat) (v : Value), (vals z m)[j]? = some v → w.cell? (ad.add j) = some v := fun j u hu => by
    obtain ⟨hj, rfl⟩ := vals_some hu
    obtain ⟨g, o', e, hg, hc⟩ := hz.2.2.1 (by omega)
    cases e
    rw [Addr.add_lit]
    exact hc j hj
  have hr := run_append_grow (P := Try.prog) w 25 o.type 3 i0 _ Try.underlying25 hi hz0 p 0 0 [] (by simp) (fun j v hv => by simp at hv) ad m c (vals z m) hlen hnews (by omega) (by omega) (growslice_fits (by omega) (by rw [hz2]; omega))
  have hge := grownCap_ge w (0 + m) 0 3
  have hcm : grownCap w (0 + m) 0 3 ≤ maxLen := grownCap_le_maxLen w (0 + m) 0 3 (by simp only [maxLen]; omega)
  unfold Oper.wp execOp
  simp only [ho, resolve, invoke, builtin, Sem.run_bind, Sem.run_pure, Result.andThen_ok, List.map_toArray, List.map_cons, List.map_nil, hs, hx, hr]
  simp only [Nat.zero_add] at hge hcm ⊢
  refine h _ _ _ ⟨by rw [vals_len, Nat.mul_one], .inr ⟨w.heap.size, _, _, rfl, Nat.le_refl _, heap_alloc_new w.drew _, hge, hcm, ?_, ?_⟩⟩ ((Below.refl _ w).drew.alloc (by simp) _)
  · simp only [Array.size_append, List.size_toArray, size_zeroCells, vals_len, List.length_nil]
    show 0 + m + (grownCap w m 0 3 - m) * 1 = _
    omega
  · simp only [Array.toList_append, List.append_assoc, Nat.mul_one]
    rw [List.nil_append]
    exact List.take_left' (vals_len z m)
/-- append of two rows to a list of rows, at a step of a region that draws -/
theorem step_append_rows2 {ops : Array Oper} {o : Oper} {a : Act} {w : World} {K : Act → World → Prop} {Q : Exit → Act → World → Prop} {E : Prop} (hgd : o.guard = none) (s x : Operand) (ho : o.op = .call { callee := .builtin .append, args := #[s, x], argTypes := #[84, 84] })
    (B c : Nat) (vo v1 v2 : Value) (ls : List (List Nat)) (ss : List Value) (l1 l2 : List Nat) (g : Nat) (hs : a.eval s = vo) (hC : Cls w B c vo ls ss) (hx : a.eval x = .slice (some ⟨g, 0, none⟩) 2 2) (hc : w.cell? ⟨g, 0, none⟩ = some v1 ∧ w.cell? ⟨g, 1, none⟩ = some v2) (hv1 : RowL w c v1 l1) (hv2 : RowL w c v2 l2)
    (hn : ls.length ≤ 100000) (hB : B ≤ w.heap.size)
    (h : ∀ v' w', Cls w' B c v' (ls ++ [l1, l2]) (ss ++ [v1, v2]) → w.grownBy w' vo.ownBlock → K (a.put o.dst v') w') :
    if Region.wanted o (yielded ops a.tmps) = true then Oper.wp Try.prog o a w K Q else E := by
  have hw : Region.wanted o (yielded ops a.tmps) = true := by simp [Region.wanted, hgd]
  rw [if_pos hw]
  obtain ⟨i0, hi, hz0, hz1, hz2⟩ := info_parts info25
  refine wp_append_own w s x 84 ho B 25 i0 (.slice none 0 0) 1 24 Try.underlying84 hi hz0 hz1 hz2 rfl (by decide) vo ls.length ss hs hC.1 ⟨g, 0, none⟩ 2 2 [v1, v2] hx rfl ?_ ?_ (by simp only [maxLen]; omega) (by omega) hB ?_
  · intro j u hu
    rcases j with _ | _ | j
    · simp at hu
      subst hu
      exact hc.1
    · simp at hu
      subst hu
      exact hc.2
    · simp at hu
  · intro u hu
    simp at hu
    rcases hu with rfl | rfl
    · exact slice_one hv1
    · exact slice_one hv2
  · intro v' w' h2 h3 _
    refine h v' w' ⟨by simpa using h2, by simp [hC.2.1], fun k u x h4 h5 => ?_⟩ h3
    rcases Nat.lt_or_ge k ls.length with hk | hk
    · rw [List.getElem?_append_left (by rw [hC.2.1]; exact hk)] at h4
      rw [List.getElem?_append_left hk] at h5
      exact (hC.2.2 k u x h4 h5).grown h3 hC.1 (by decide)
    · rw [List.getElem?_append_right (by rw [hC.2.1]; exact hk), hC.2.1] at h4
      rw [List.getElem?_append_right hk] at h5
      rcases hj : k - ls.length with _ | _ | j
      · rw [hj] at h4 h5
        simp at h4 h5
        subst h4 h5
        exact hv1.grown h3 hC.1 (by decide)
      · rw [hj] at h4 h5
        simp at h4 h5
        subst h4 h5
        exact hv2.grown h3 hC.1 (by decide)
      · rw [hj] at h5
        simp at h5
set_option maxRecDepth 100000 in
set_option maxHeartbeats 2000000 in
theorem rsplit_ok (r c n : Nat) (LL : List (List Nat)) (Q : Nat → List Nat) (U : Nat → Int) (x : Nat) (w : World) (h : RL w r c n LL U) (hQ : LQ LL n Q) (hx : x < n) :
    Calls Try.prog 34 #[.pointer (some ⟨r, 0, none⟩), .int .i64 (x : Int)] w fun e w' => ∃ LL' k, IsPos Q x k ∧ e = .returned (.int .i64 0) ∧ LQ LL' n (splitQ Q x k) ∧ RL w' r c n LL' U ∧ Turns (fun k => c ≤ k) w w' ∧ K55 w w' := by
  have xc := rchk_in h hx
  unfold RChk at xc
  have x1 := rfindQ r c n LL Q U x w h hQ hx
  have hn := h.2.1
  have hcw : c ≤ w.heap.size := by have := h.1; have := h.lt; omega
  obtain ⟨A, cc, c1, k1, k2, _, ss, hC⟩ := h.cellL
  have HC := Lib.hid hC
  have HQ := Lib.hid hQ
  have hLL := hQ.len
  have HSM := Lib.hid (show ∀ l ∈ LL, l.length ≤ 1000 ∧ ∀ x ∈ l, x < n from fun l hl => by have := hQ.small (by omega) hl; exact ⟨by omega, this.2⟩)
  obtain ⟨m, hm⟩ : ∃ m, LL.length = m := ⟨_, rfl⟩
  rw [hm] at c1 k1 hLL
  have HM := Lib.hid hm
  have HW := Lib.hid h
  clear hm hC hQ h
  go_enter Try.func34, Try.ntmps34
  go_wp2_with fail
  refine xc.mono ?_
  rintro e w' ⟨rfl, rfl⟩
  go_wp2_with fail
  refine x1.mono ?_
  rintro e w' ⟨i, k, rfl, hi, rfl⟩
  obtain ⟨hi1, hi2⟩ := hi.list HQ.out
  have HI2 := Lib.hid hi2
  by_cases hk0 : k = 0
  · subst hk0
    have HR := Lib.hid (HQ.out.split0 hi)
    clear hi hi1 hi2 xc x1
    go_wp2_with fail
    go_ret
    exact ⟨LL, 0, HI2.out, rfl, HR.out, HW.out, Turns.refl _ _, fun _ _ hb => hb⟩
  · have hk1 : ((k : Int) == 0) = false := by simp; omega
    have hk2 : ¬ (k : Int) = 0 := by omega
    have HR := Lib.hid (HQ.out.split hi hk0)
    have him : i < m := by rw [← HM.out]; exact (List.getElem?_eq_some_iff.1 hi1).1
    have him2 : (i : Int) < (m : Int) := by omega
    obtain ⟨g, Ai, ci, rfl, e1, e2, e3, e4, e5, _⟩ := HC.out.row hi1
    have hql := (HSM.out _ (List.mem_of_getElem? hi1)).1
    have hkl := (List.getElem?_eq_some_iff.1 hi2).1
    obtain ⟨gi, rfl, _⟩ := e5 k x hi2
    have HE4 := Lib.hid e4
    have HS5 := Lib.hid (HSM.out _ (List.mem_of_getElem? hi1)).2
    obtain ⟨q, hq⟩ : ∃ q, (Q x).length = q := ⟨_, rfl⟩
    rw [hq] at e1 e2 hql hkl
    have HQL := Lib.hid hq
    clear e4 e5 hq hi hi1 hi2 xc x1
    have hk0' : 0 < k := by omega
    have XC := Lib.hid (show ∀ W, Below w.heap.size w W → Calls Try.prog 57 #[.pointer (some ⟨r, 0, none⟩), .int .i64 (i : Int)] W fun e w' => ∃ A2 n2 d2 ss, e = .returned (.slice A2 n2 d2) ∧ Cls w' w.heap.size c (.slice A2 n2 d2) (LL.eraseIdx i) ss ∧ Below w.heap.size w w' ∧ Below W.heap.size W w' from fun W hb => by
      refine (rwithout_ok r c n LL U i W (HW.out.below hb) (by rw [HM.out]; exact him) (by rw [HM.out]; omega) (fun l hl => by have := (HSM.out l hl).1; omega) (by have := hb.size; omega)).mono ?_
      rintro e w' ⟨vo, ss, rfl, h1, h2⟩
      obtain ⟨A2, d2, rfl, _⟩ := owns_slice h1.1
      exact ⟨A2, _, d2, ss, rfl, h1.mono hb.size, below_go hb (Nat.le_refl _) h2 |> fun t => (hb.trans (h2.mono hb.size)), h2⟩)
    have HARG := Lib.hid (show ∀ W, Below w.heap.size w W → ArgI .i64 W (some ⟨gi, 0, none⟩) k ci (fun j => ((((Q x).take k).getD j 0 : Nat) : Int)) ∧ ArgI .i64 W (some ⟨gi, k, none⟩) (q - k) (ci - k) (fun j => ((((Q x).drop k).getD j 0 : Nat) : Int)) from fun W hb => by
      have hr := HE4.out.below hb
      obtain ⟨g', c', hv, _, _, _, _, a1, a2, _⟩ := hr.cut (fun y hy => by have := HS5.out y hy; omega) k (by rw [HQL.out]; exact hkl)
      cases hv
      rw [HQL.out] at a1
      exact ⟨a2, a1⟩)
    have S1 := slice_to gi q ci k (by omega)
    have S2 := slice_from gi q ci k hkl e2
    have HR1 := Lib.hid (show ∀ (Wp w3 : World) (v : Value), Below w.heap.size w Wp → w3.ownsRow Wp.heap.size 3 1 v k (vals (fun j => ((((Q x).take k).getD j 0 : Nat) : Int)) k) → RowL w3 c v ((Q x).take k) from fun Wp w3 v hb ho => by
      have hl : ((Q x).take k).length = k := by rw [List.length_take, HQL.out]; omega
      unfold RowL
      rw [nums_vals, hl]
      exact owns_mono ho (by have := hb.size; omega))
    have HR2 := Lib.hid (show ∀ (Wp w3 : World) (v : Value), Below w.heap.size w Wp → w3.ownsRow Wp.heap.size 3 1 v (q - k) (vals (fun j => ((((Q x).drop k).getD j 0 : Nat) : Int)) (q - k)) → RowL w3 c v ((Q x).drop k) from fun Wp w3 v hb ho => by
      have hl : ((Q x).drop k).length = q - k := by rw [List.length_drop, HQL.out]
      unfold RowL
      rw [nums_vals, hl]
      exact owns_mono ho (by have := hb.size; omega))
    have hel : (LL.eraseIdx i).length ≤ 100000 := by
      have := (List.eraseIdx_sublist LL i).length_le
      rw [HM.out] at this
      omega
    have HEL := Lib.hid hel
    have HSZ := Lib.hid (show ∀ W, Below w.heap.size w W → w.heap.size ≤ W.heap.size from fun W hb => hb.size)
    have HK2 := Lib.hid (show ∀ (W : World) (a b : Value), (W.alloc (.cells #[a, b] 25)).cell? ⟨W.heap.size, 0, none⟩ = some a ∧ (W.alloc (.cells #[a, b] 25)).cell? ⟨W.heap.size, 1, none⟩ = some b from fun W a b => ⟨(Blk.new W 25 #[a, b]).cell 0, (Blk.new W 25 #[a, b]).cell 1⟩)
    have FIN := Lib.hid (show ∀ (W5 w6 : World) (s5 s6 : List Value) (vo v' : Value), Below w.heap.size w W5 → Cls W5 w.heap.size c vo (LL.eraseIdx i) s5 → Cls w6 w.heap.size c v' (LL.eraseIdx i ++ [(Q x).take k, (Q x).drop k]) s6 → W5.grownBy w6 vo.ownBlock → ∃ A6 n6 d6, v' = .slice A6 n6 d6 ∧ w6.frozen? ⟨r, 1, none⟩ = false ∧ (∃ old, w6.cell? ⟨r, 1, none⟩ = some old) ∧ RL (w6.setCell ⟨r, 1, none⟩ (.slice A6 n6 d6)) r c n (LL.eraseIdx i ++ [(Q x).take k, (Q x).drop k]) U ∧ Turns (fun k => c ≤ k) w (w6.setCell ⟨r, 1, none⟩ (.slice A6 n6 d6)) ∧ K55 w (w6.setCell ⟨r, 1, none⟩ (.slice A6 n6 d6)) from fun W5 w6 s5 s6 vo v' f1 f4 f5 f6 => by
      obtain ⟨A6, d6, rfl, _⟩ := owns_slice f5.1
      have g1 := f1.grown f6 f1.size f4.base
      have g2 := HW.out.below g1
      obtain ⟨g3, g4, g7⟩ := g2.setL f5 hcw
      obtain ⟨_, _, g5, _⟩ := g2.cellL
      exact ⟨A6, _, d6, rfl, frozen_of g2 1, ⟨_, g5⟩, g3, (Turns.of_below g1 _).trans g4, (K55.of_below g1).trans g7⟩)
    clear hel S1 S2
    have S1 := slice_to gi q ci k (by omega)
    have S2 := slice_from gi q ci k hkl e2
    have hqk : 0 < q - k := by omega
    go_upto_region 8 with fail
    go_region_held3 (fun w' => True) (trivial) (first
      | (go_at_call 57; (with_reducible refine (XC.out _ (by repeat (first | (with_reducible exact q1) | (with_reducible exact Below.refl _ _) | (with_reducible apply bdrew) | (with_reducible apply balloc)))).mono ?_); rintro e w2 ⟨A2, n2, d2, s2, rfl, C2, q2, q2'⟩)
      | (refine step_append_empty rfl (.tmp 34) (.tmp 37) rfl _ rfl _ k ci _ rfl (HARG.out _ (by repeat (first | (with_reducible exact q2) | (with_reducible exact Below.refl _ _) | (with_reducible apply bdrew) | (with_reducible apply balloc)))).1 hk0' (by omega) ?_; intro A3 c3 w3 r3 q3'; have q3 : Below w.heap.size w w3 := below_go (by repeat (first | (with_reducible exact q2) | (with_reducible exact Below.refl _ _) | (with_reducible apply bdrew) | (with_reducible apply balloc))) (Nat.le_refl _) q3'; have Q32 : Below w2.heap.size w2 w3 := below_go (by repeat (first | (with_reducible exact q2) | (with_reducible exact Below.refl _ _) | (with_reducible apply bdrew) | (with_reducible apply balloc))) (Nat.le_refl _) q3'; have R3 := HR1.out _ w3 _ (by repeat (first | (with_reducible exact q2) | (with_reducible exact Below.refl _ _) | (with_reducible apply bdrew) | (with_reducible apply balloc))) r3)
      | (refine step_append_empty rfl (.tmp 39) (.tmp 42) rfl _ rfl _ (q - k) (ci - k) _ rfl (HARG.out _ (by repeat (first | (with_reducible exact q3) | (with_reducible exact Q32) | (with_reducible exact Below.refl _ _) | (with_reducible apply bdrew) | (with_reducible apply balloc)))).2 hqk (by omega) ?_; intro A4 c4 w4 r4 q4'; have q4 : Below w.heap.size w w4 := below_go (by repeat (first | (with_reducible exact q3) | (with_reducible exact Q32) | (with_reducible exact Below.refl _ _) | (with_reducible apply bdrew) | (with_reducible apply balloc))) (Nat.le_refl _) q4'; have Q42 : Below w2.heap.size w2 w4 := below_go (by repeat (first | (with_reducible exact q3) | (with_reducible exact Q32) | (with_reducible exact Below.refl _ _) | (with_reducible apply bdrew) | (with_reducible apply balloc))) (Nat.le_refl _) q4'; have Q43 : Below w3.heap.size w3 w4 := below_go (by repeat (first | (with_reducible exact q3) | (with_reducible exact Q32) | (with_reducible exact Below.refl _ _) | (with_reducible apply bdrew) | (with_reducible apply balloc))) (Nat.le_refl _) q4'; have R4 := HR2.out _ w4 _ (by repeat (first | (with_reducible exact q3) | (with_reducible exact Below.refl _ _) | (with_reducible apply bdrew) | (with_reducible apply balloc))) r4)
      | (refine step_append_rows2 rfl (.tmp 33) (.tmp 44) rfl w.heap.size c (.slice A2 n2 d2) _ _ (LL.eraseIdx i) s2 _ _ _ rfl (C2.below (by repeat (first | (with_reducible exact Q42) | (with_reducible exact Below.refl _ _) | (with_reducible apply bdrew) | (with_reducible apply balloc)))) rfl (HK2.out _ _ _) (R3.below (by repeat (first | (with_reducible exact Q43) | (with_reducible exact Below.refl _ _) | (with_reducible apply bdrew) | (with_reducible apply balloc)))) (R4.below (by repeat (first | (with_reducible exact q4) | (with_reducible exact Below.refl _ _) | (with_reducible apply bdrew) | (with_reducible apply balloc)))) HEL.out (HSZ.out _ (by repeat (first | (with_reducible exact q4) | (with_reducible exact Below.refl _ _) | (with_reducible apply bdrew) | (with_reducible apply balloc)))) ?_; intro v' w6 t1 t2; obtain ⟨A6, n6, d6, rfl, f1, ⟨old, f2⟩, f3, f4⟩ := FIN.out _ w6 _ _ _ v' (by repeat (first | (with_reducible exact q4) | (with_reducible exact Below.refl _ _) | (with_reducible apply bdrew) | (with_reducible apply balloc))) (C2.below (by repeat (first | (with_reducible exact Q42) | (with_reducible exact Below.refl _ _) | (with_reducible apply bdrew) | (with_reducible apply balloc)))) t1 t2; clear t1 t2))
    all_goals
      go_wp2_with fail
      go_ret
      exact ⟨_, k, HI2.out, rfl, HR.out, f3, f4⟩
end Go.Proofs.Ytgichkjomhnehaa
