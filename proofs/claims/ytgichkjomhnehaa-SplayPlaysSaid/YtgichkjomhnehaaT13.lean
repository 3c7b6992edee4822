/-
  The document's sequences: Copy.
-/
import Derived.Test.YtgichkjomhnehaaT12
set_option linter.unusedVariables false
set_option linter.unusedSectionVars false
set_option linter.unusedSimpArgs false
namespace Go.Proofs.Ytgichkjomhnehaa
open Go.RowKit Go.Shelf

set_option maxRecDepth 100000 in
theorem rcopy_nil (w : World) : Calls Try.prog 37 #[.pointer none] w fun e w' => e = .returned (.pointer none) ∧ w = w' := by
  go_enter Try.func37, Try.ntmps37
  go_wp2_with fail
  go_ret
  exact ⟨rfl, rfl⟩
theorem empty_rowV (w : World) : (w.alloc (.cells #[] 2)).ownsRow w.heap.size 2 1 (.slice (some ⟨w.heap.size, 0, none⟩) 0 0) 0 [] :=
  ⟨rfl, .inr ⟨w.heap.size, 0, #[], rfl, Nat.le_refl _, Blk.new w 2 #[], Nat.le_refl _, by simp [maxLen], rfl, rfl⟩⟩
/-- append of numbers of 64 bits to an empty row -/
theorem wpList_append_vals {ops : Array Oper} {rest : List Oper} {o : Oper} {a : Act} {w : World} {Q : Exit → Act → World → Prop} (hgd : o.guard = none) (s x : Operand) (ho : o.op = .call { callee := .builtin .append, args := #[s, x], argTypes := #[83, 83] })
    (B B2 : Nat) (v : Value) (hs : a.eval s = v) (hown : w.ownsRow B 2 1 v 0 []) (u : Value) (n : Nat) (z : Nat → Int) (hx : a.eval x = u) (hu : w.ownsRow B2 2 1 u n (vals z n)) (h63 : n ≤ 100000) (hB : B ≤ w.heap.size)
    (h : ∀ v' w', w'.ownsRow B 2 1 v' n (vals z n) → w.grownBy w' v.ownBlock → wpList Try.prog ops Q rest (a.put o.dst v') w') :
    wpList Try.prog ops Q (o :: rest) a w := by
  obtain ⟨i0, hi, hz0, hz1, hz2⟩ := info_parts info2
  rcases hu.2 with ⟨rfl, rfl⟩ | ⟨g, cap, cur, rfl, hg, hh, hc, hm, hsz, ht⟩
  · refine wpList_append_own_none hgd s x 83 ho B 2 i0 1 Try.underlying83 hi v 0 [] hs hown hx ?_
    exact h v w hown ⟨rfl, rfl, rfl, Nat.le_refl _, fun _ _ _ => rfl⟩
  · refine wpList_append_own w hgd s x 83 ho B 2 i0 (.int .i64 0) 1 8 Try.underlying83 hi hz0 hz1 hz2 rfl (by decide) v 0 [] hs hown ⟨g, 0, none⟩ n cap (vals z n) hx (by rw [vals_len, Nat.mul_one]) ?_ (vals_one z n) (by simp only [maxLen]; omega) (by omega) hB ?_
    · intro j u hj
      rw [Addr.add_lit, Nat.zero_add]
      exact owns_cell hu hj
    · intro v' w' h1 h2 _
      rw [Nat.zero_add, List.nil_append] at h1
      exact h v' w' h1 h2
/-- append of one row to a list of rows, at a step of a region that draws -/
theorem step_append_row {ops : Array Oper} {o : Oper} {a : Act} {w : World} {K : Act → World → Prop} {Q : Exit → Act → World → Prop} {E : Prop} (hgd : o.guard = none) (s x : Operand) (ho : o.op = .call { callee := .builtin .append, args := #[s, x], argTypes := #[84, 84] })
    (B c : Nat) (vo v : Value) (ls : List (List Nat)) (ss : List Value) (l : List Nat) (g : Nat) (hs : a.eval s = vo) (hC : Cls w B c vo ls ss) (hx : a.eval x = .slice (some ⟨g, 0, none⟩) 1 1) (hc : w.cell? ⟨g, 0, none⟩ = some v) (hv : RowL w c v l)
    (hn : ls.length ≤ 100000) (hB : B ≤ w.heap.size)
    (h : ∀ v' w', Cls w' B c v' (ls ++ [l]) (ss ++ [v]) → w.grownBy w' vo.ownBlock → K (a.put o.dst v') w') :
    if Region.wanted o (yielded ops a.tmps) = true then Oper.wp Try.prog o a w K Q else E := by
  have hw : Region.wanted o (yielded ops a.tmps) = true := by simp [Region.wanted, hgd]
  rw [if_pos hw]
  obtain ⟨i0, hi, hz0, hz1, hz2⟩ := info_parts info25
  refine wp_append_own w s x 84 ho B 25 i0 (.slice none 0 0) 1 24 Try.underlying84 hi hz0 hz1 hz2 rfl (by decide) vo ls.length ss hs hC.1 ⟨g, 0, none⟩ 1 1 [v] hx rfl ?_ ?_ (by simp only [maxLen]; omega) (by omega) hB ?_
  · intro j u hu
    rcases j with _ | j
    · simp at hu
      subst hu
      exact hc
    · simp at hu
  · intro u hu
    simp at hu
    subst hu
    exact slice_one hv
  · intro v' w' h2 h3 _
    exact h v' w' (hC.push hv h3 h2) h3
theorem RL0.apart {w : World} {r c n B m : Nat} {U : Nat → Int} {vo : Value} {ss : List Value} (h : RL0 w r c n U) (ho : w.ownsRow B 25 1 vo m ss) : some r ≠ vo.ownBlock := by
  obtain ⟨h0, hn, hf, vL, vV, k1, k3⟩ := h
  intro e
  rcases ho.2 with ⟨e3, _⟩ | ⟨g, cap, cur, e3, _, hh, _⟩
  · rw [e3] at e; cases e
  · rw [e3] at e
    have e : r = g := Option.some.inj e
    exact k1.ne_ (t' := 25) (cs' := cur) (g' := g) hh (by decide) e
set_option maxRecDepth 100000 in
set_option maxHeartbeats 2000000 in
theorem rcopy_ok (r c n : Nat) (LL : List (List Nat)) (Q : Nat → List Nat) (U : Nat → Int) (w : World) (h : RL w r c n LL U) (hQ : LQ LL n Q) :
    Calls Try.prog 37 #[.pointer (some ⟨r, 0, none⟩)] w fun e w' => ∃ r', e = .returned (.pointer (some ⟨r', 0, none⟩)) ∧ RL w' r' w.heap.size n LL U ∧ Below w.heap.size w w' := by
  have hn := h.2.1
  have c0 := h.cell0
  obtain ⟨AV, ccV, c2, v1, v2, v3, hV⟩ := h.cellV
  have hrl := h.lt
  have hLL := hQ.len
  have HQ := Lib.hid hQ
  have HSM := Lib.hid (show ∀ l ∈ LL, l.length ≤ 1000 ∧ 0 < l.length ∧ ∀ x ∈ l, x < n from fun l hl => by have := hQ.small (by omega) hl; exact ⟨by omega, List.length_pos_iff.2 (hQ.ne l hl), this.2⟩)
  have HH := Lib.hid h
  have b1 := below_new1 w (.cells #[] 2)
  have c0a := (b1.cell (p := ⟨r, 0, none⟩) hrl).trans c0
  have c2a := (b1.cell (p := ⟨r, 2, none⟩) hrl).trans c2
  have hVa := owns_below hV b1
  have hE := empty_rowV w
  have hz1 : w.heap.size ≤ (w.alloc (.cells #[] 2)).heap.size := by simp
  have FIN := Lib.hid (show ∀ (v' : Value) (w3 : World), w3.ownsRow w.heap.size 2 1 v' n (vals U n) → (w.alloc (.cells #[] 2)).grownBy w3 (Value.slice (some ⟨w.heap.size, 0, none⟩) 0 0).ownBlock → ∃ A3 n3 d3, v' = .slice A3 n3 d3 ∧ RL (w3.alloc (.cells #[.bool true, .slice none 0 0, .slice A3 n3 d3] 86)) w3.heap.size w.heap.size n [] U ∧ Below w.heap.size w (w3.alloc (.cells #[.bool true, .slice none 0 0, .slice A3 n3 d3] 86)) ∧ w.heap.size ≤ w3.heap.size from fun v' w3 t1 t2 => by
    obtain ⟨A3, d3, rfl, _⟩ := owns_slice t1
    have q3 : Below w.heap.size w w3 := b1.grown t2 hz1 (fun k e => by simp [Value.ownBlock] at e; omega)
    have hz3 := q3.size
    exact ⟨A3, n, d3, rfl, ⟨hz3, hn, HH.out.2.2.1, _, [], _, Blk.new w3 86 _, Cls.nil _ _ _, owns_below t1 (below_new1 _ _)⟩, balloc q3 _, hz3⟩)
  clear hQ h hV b1 v3
  go_enter Try.func37, Try.ntmps37
  go_wp2_with (at_builtin; refine wpList_append_vals rfl _ _ rfl w.heap.size c (.slice (some ⟨w.heap.size, 0, none⟩) 0 0) rfl hE (.slice AV n ccV) n U rfl hVa (by omega) hz1 ?_; intro v' w3 t1 t2; obtain ⟨A3, n3, d3, rfl, f1, f2, f3⟩ := FIN.out v' w3 t1 t2; clear t1 t2)
  go_upto_region 5 with fail
  generalize w3.alloc (.cells #[.bool true, .slice none 0 0, .slice A3 n3 d3] 86) = W0 at *
  obtain ⟨r2, hr2⟩ : ∃ r2, w3.heap.size = r2 := ⟨_, rfl⟩
  rw [hr2] at f1 f3 ⊢
  obtain ⟨m, hm⟩ : ∃ m, LL.length = m := ⟨_, rfl⟩
  have HM := Lib.hid hm
  have hm1 : m ≤ 1000 := by omega
  clear hr2 hm hE c0a c2a hVa c0 c2
  go_loopw [4] (fun vk wr => ∃ i : Nat, vk = .int .i64 i ∧ i ≤ m ∧ RL wr r2 w.heap.size n (LL.take i) U ∧ Below w.heap.size w wr) (fun vk _ => m - (intOf vk).toNat)
  case atStart => exact ⟨0, rfl, Nat.zero_le _, f1, f2⟩
  case round =>
    clear f1 f2
    obtain ⟨i, rfl, hi, h2, q⟩ := hrel
    have hq := q.size
    obtain ⟨A, cc, c1, k1, k2, _, ss, hC⟩ := (HH.out.below q).cellL
    have HC := Lib.hid hC
    rw [HM.out] at c1 k1
    clear hC
    by_cases hlt : i < m
    · have him : (i : Int) < (m : Int) := by omega
      obtain ⟨l, hl⟩ : ∃ l, LL[i]? = some l := ⟨_, List.getElem?_eq_getElem (by rw [HM.out]; exact hlt)⟩
      obtain ⟨g, Ai, ci, rfl, e1, e2, e3, e4, e5, e7⟩ := HC.out.row hl
      have hsm := HSM.out l (List.mem_of_getElem? hl)
      have htk : LL.take (i + 1) = LL.take i ++ [l] := by
        obtain ⟨hk, e⟩ := List.getElem?_eq_some_iff.1 hl
        rw [List.take_succ_eq_append_getElem hk, e]
      have HTK := Lib.hid htk
      obtain ⟨gi, rfl, e6⟩ := e5 0 _ (List.getElem?_eq_getElem hsm.2.1)
      obtain ⟨A9, c9, d1, d2, d3, _, s9, hC9⟩ := h2.cellL
      have hti : (LL.take i).length = i := by rw [List.length_take, HM.out]; omega
      rw [hti] at d1 d2 hC9
      have HTI := Lib.hid (show (LL.take i).length ≤ 100000 by rw [hti]; omega)
      have HE4 := Lib.hid e4
      have H2 := Lib.hid h2
      have HSML := Lib.hid hsm.2.2
      obtain ⟨ql, hql⟩ : ∃ ql, l.length = ql := ⟨_, rfl⟩
      rw [hql] at e1 e2
      have hq1 : 0 < ql := by rw [← hql]; exact hsm.2.1
      have hq2 : ql ≤ 1000 := by rw [← hql]; exact hsm.1
      have HQL := Lib.hid hql
      have KEEP := Lib.hid (show ∀ W, Below wr.heap.size wr W → W.cell? ⟨r2, 1, none⟩ = some (.slice A9 i c9) ∧ W.cell? ⟨r, 1, none⟩ = some (.slice (some ⟨g, 0, none⟩) m cc) ∧ W.cell? ⟨g, i, none⟩ = some (.slice (some ⟨gi, 0, none⟩) ql ci) from fun W hb => ⟨(hb.cell (p := ⟨r2, 1, none⟩) (cell?_lt d1)).trans d1, (hb.cell (p := ⟨r, 1, none⟩) (cell?_lt c1)).trans c1, (hb.cell (p := ⟨g, i, none⟩) (cell?_lt e1)).trans e1⟩)
      have HARG := Lib.hid (show ∀ W, Below wr.heap.size wr W → ArgI .i64 W (some ⟨gi, 0, none⟩) ql ci (fun j => ((l.getD j 0 : Nat) : Int)) from fun W hb => by
        obtain ⟨A', c', he, ha, _⟩ := (HE4.out.below hb).argN (fun y hy => by have := HSML.out y hy; omega)
        cases he
        rw [HQL.out] at ha
        exact ha)
      have HR1 := Lib.hid (show ∀ (Wp w3 : World) (v : Value), Below wr.heap.size wr Wp → w3.ownsRow Wp.heap.size 3 1 v ql (vals (fun j => ((l.getD j 0 : Nat) : Int)) ql) → RowL w3 w.heap.size v l from fun Wp w3 v hb ho => by
        unfold RowL
        rw [nums_vals, HQL.out]
        exact owns_mono ho (by have := hb.size; omega))
      have HK1 := Lib.hid (show ∀ (W : World) (a : Value), (W.alloc (.cells #[a] 25)).cell? ⟨W.heap.size, 0, none⟩ = some a from fun W a => (Blk.new W 25 #[a]).cell 0)
      have HSZ := Lib.hid (show ∀ W, Below wr.heap.size wr W → w.heap.size ≤ W.heap.size from fun W hb => by have := hb.size; omega)
      have HC9 := Lib.hid hC9
      have FIN := Lib.hid (show ∀ (W5 w6 : World) (s6 : List Value) (v' : Value), Below wr.heap.size wr W5 → Cls w6 w.heap.size w.heap.size v' (LL.take i ++ [l]) s6 → W5.grownBy w6 (Value.slice A9 i c9).ownBlock → ∃ A6 n6 d6, v' = .slice A6 n6 d6 ∧ w6.frozen? ⟨r2, 1, none⟩ = false ∧ (∃ old, w6.cell? ⟨r2, 1, none⟩ = some old) ∧ w6.cell? ⟨r, 1, none⟩ = some (.slice (some ⟨g, 0, none⟩) m cc) ∧ w6.cell? ⟨g, i, none⟩ = some (.slice (some ⟨gi, 0, none⟩) ql ci) ∧ w6.cell? ⟨r2, 1, none⟩ = some (.slice A9 i c9) ∧ RL (w6.setCell ⟨r2, 1, none⟩ (.slice A6 n6 d6)) r2 w.heap.size n (LL.take (i + 1)) U ∧ Below w.heap.size w (w6.setCell ⟨r2, 1, none⟩ (.slice A6 n6 d6)) from fun W5 w6 s6 v' g1 g2 g3 => by
        rw [← HTK.out] at g2
        obtain ⟨A6, d6, rfl, _⟩ := owns_slice g2.1
        have z := H2.out.zero.below g1
        have hC5 := HC9.out.below g1
        have z3 := z.grown g3 hC5.1
        have gc := z3.cell
        obtain ⟨t1, t2, t3⟩ := KEEP.out W5 g1
        have hbs := hC5.base
        obtain ⟨A', c', y1, _, _, _, s', y2⟩ := HH.out.cellL
        have y3 := (q.cell (p := ⟨r, 1, none⟩) hrl).trans y1
        rw [c1] at y3
        have hgw : g < w.heap.size := by
          cases y3
          exact (World.ownsRow.lt y2.1 g rfl).2
        refine ⟨A6, _, d6, rfl, gc.1, gc.2, g3.cell t2 (fun e => by have := hbs r e.symm; omega), g3.cell t3 (fun e => by have := hbs g e.symm; omega), g3.cell t1 (z.apart hC5.1), (z3.set g2 (Nat.le_refl _)).1, ?_⟩
        exact (((q.trans (g1.mono hq)).grown g3 (by have := g1.size; omega) hbs)).setCell (p := ⟨r2, 1, none⟩) f3 _)
      clear e4 e5 e6 e7 hql hl htk hti hC9 h2 hsm
      obtain ⟨kA, kB, kC⟩ := KEEP.out wr (Below.refl _ _)
      go_upto_region 7 with fail
      obtain ⟨kA2, kB2, kC2⟩ := KEEP.out wr.drew (bdrew (Below.refl _ _))
      obtain ⟨kA3, kB3, kC3⟩ := KEEP.out (wr.alloc (.cells #[] 3)).drew (bdrew (balloc (Below.refl _ _) _))
      go_region_law (first
        | (refine step_append_empty rfl (.tmp 36) (.tmp 43) rfl _ rfl _ ql ci _ rfl (HARG.out _ (by repeat (first | (with_reducible exact q0) | (with_reducible exact Below.refl _ _) | (with_reducible apply bdrew) | (with_reducible apply balloc)))) hq1 (by omega) ?_; intro A4 c4 w4 r4 q4'; have q4 : Below wr.heap.size wr w4 := below_go (by repeat (first | (with_reducible exact q0) | (with_reducible exact Below.refl _ _) | (with_reducible apply bdrew) | (with_reducible apply balloc))) (Nat.le_refl _) q4'; have R4 := HR1.out _ w4 _ (by repeat (first | (with_reducible exact q0) | (with_reducible exact Below.refl _ _) | (with_reducible apply bdrew) | (with_reducible apply balloc))) r4; obtain ⟨kA4, kB4, kC4⟩ := KEEP.out w4 q4; obtain ⟨kA5, kB5, kC5⟩ := KEEP.out (w4.alloc (.cells #[.slice A4 ql c4] 25)) (balloc q4 _))
        | (refine step_append_row rfl (.tmp 35) (.tmp 45) rfl w.heap.size w.heap.size (.slice A9 i c9) _ (LL.take i) s9 l _ rfl (HC9.out.below (by repeat (first | (with_reducible exact q4) | (with_reducible exact Below.refl _ _) | (with_reducible apply bdrew) | (with_reducible apply balloc)))) rfl (HK1.out _ _) (R4.below (by repeat (first | (with_reducible exact q4) | (with_reducible exact Below.refl _ _) | (with_reducible apply bdrew) | (with_reducible apply balloc)))) HTI.out (HSZ.out _ (by repeat (first | (with_reducible exact q4) | (with_reducible exact Below.refl _ _) | (with_reducible apply bdrew) | (with_reducible apply balloc)))) ?_; intro v' w6 t1 t2; obtain ⟨A6, n6, d6, rfl, f1, ⟨old, f2⟩, f5, f6, f7, f8, f9⟩ := FIN.out _ w6 _ v' (by repeat (first | (with_reducible exact q4) | (with_reducible exact Below.refl _ _) | (with_reducible apply bdrew) | (with_reducible apply balloc))) t1 t2; clear t1 t2))
      all_goals
        go_wp2_with fail
        go_roundw
        case rel => exact ⟨i + 1, by simp, by omega, f8, f9⟩
        case measure => simp [intOf]; omega
    · obtain rfl : i = m := by omega
      have HF := Lib.hid (show RL wr r2 w.heap.size n LL U by have := h2; rwa [List.take_of_length_le (by rw [HM.out]; exact Nat.le_refl _)] at this)
      clear h2
      go_wp2_with fail
      go_ret
      exact ⟨r2, rfl, HF.out, q⟩
end Go.Proofs.Ytgichkjomhnehaa
