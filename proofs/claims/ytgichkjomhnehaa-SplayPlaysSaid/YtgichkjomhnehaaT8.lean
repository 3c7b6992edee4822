/-
  The document's sequences: Sum.
-/
import Derived.Test.YtgichkjomhnehaaT7
set_option linter.unusedVariables false
set_option linter.unusedSectionVars false
set_option linter.unusedSimpArgs false
namespace Go.Proofs.Ytgichkjomhnehaa
open Go.RowKit Go.Shelf

theorem owns_arg2 {w : World} {base n : Nat} {v : Value} {z : Nat → Int} (h : w.ownsRow base 2 1 v n (vals z n)) (hz : ∀ j, j < n → Fits (z j)) : ∃ A c, v = .slice A n c ∧ ArgI .i64 w A n c z := by
  obtain ⟨A, c, rfl, h1, h2, h3⟩ := owns_slice h
  refine ⟨A, c, rfl, h1, h2, fun hn => ?_, fun j hj => fits_wf (hz j hj)⟩
  obtain ⟨g, rfl⟩ := h3 hn
  refine ⟨g, 0, rfl, (World.ownsRow.lt h g rfl).2, fun i hi => ?_⟩
  rw [Nat.zero_add]
  exact owns_cell h (vals_get hi)
/-- append of one number of 64 bits, at a step of a region that draws -/
theorem step_append_v {ops : Array Oper} {o : Oper} {a : Act} {w : World} {K : Act → World → Prop} {Q : Exit → Act → World → Prop} {E : Prop} (hg : o.guard = none) (s x : Operand) (ho : o.op = .call { callee := .builtin .append, args := #[s, x], argTypes := #[83, 83] })
    (base : Nat) (v : Value) (n : Nat) (z : Nat → Int) (hs : a.eval s = v) (hown : w.ownsRow base 2 1 v n (vals z n)) (g : Nat) (hx : a.eval x = .slice (some ⟨g, 0, none⟩) 1 1) (hc : w.cell? ⟨g, 0, none⟩ = some (.int .i64 (z n)))
    (h63 : n ≤ 100000) (hbase : base ≤ w.heap.size)
    (h : ∀ v' w', w'.ownsRow base 2 1 v' (n + 1) (vals z (n + 1)) → w.grownBy w' v.ownBlock → K (a.put o.dst v') w') :
    if Region.wanted o (yielded ops a.tmps) = true then Oper.wp Try.prog o a w K Q else E := by
  have hw : Region.wanted o (yielded ops a.tmps) = true := by simp [Region.wanted, hg]
  rw [if_pos hw]
  obtain ⟨i0, hi, hz0, hz1, hz2⟩ := info_parts info2
  refine wp_append_own w s x 83 ho base 2 i0 (.int .i64 0) 1 8 Try.underlying83 hi hz0 hz1 hz2 rfl (by decide) v n (vals z n) hs hown ⟨g, 0, none⟩ 1 1 [.int .i64 (z n)] hx rfl ?_ ?_ (by simp only [maxLen]; omega) (by omega) hbase ?_
  · intro j u hu
    rcases j with _ | j
    · simp at hu
      subst hu
      exact hc
    · simp at hu
  · intro u hu
    simp at hu
    subst hu
    rfl
  · intro v' w' h1 h2 _
    refine h v' w' ?_ h2
    have e : vals z (n + 1) = vals z n ++ [.int .i64 (z n)] := by
      unfold vals
      rw [List.range_succ, List.map_append]
      rfl
    rw [e]
    exact h1
theorem sumZ_tot {U : Nat → Int} {l : List Nat} : ∀ k, k ≤ l.length → sumZ (fun i => U (l.getD i 0)) k = tot U (l.take k)
  | 0, _ => by simp [sumZ, tot]
  | k + 1, h => by
    have hk : l[k]? = some (l[k]'(by omega)) := List.getElem?_eq_getElem _
    show sumZ _ k + U (l.getD k 0) = _
    rw [sumZ_tot k (by omega), List.take_succ_eq_append_getElem (by omega), tot_append, List.getD_eq_getElem?_getD, hk]
    simp [tot]
set_option maxRecDepth 100000 in
set_option maxHeartbeats 2000000 in
theorem rsum_ok (r c n : Nat) (LL : List (List Nat)) (Q : Nat → List Nat) (U : Nat → Int) (x : Nat) (w : World) (h : RL w r c n LL U) (hQ : LQ LL n Q) (hx : x < n) :
    Calls Try.prog 49 #[.pointer (some ⟨r, 0, none⟩), .int .i64 (x : Int)] w fun e w' => e = .returned (.tuple #[.int .i64 (sumV (tot U (Q x))), .int .i64 (sumE (tot U (Q x)))]) ∧ Below w.heap.size w w' := by
  have xc := rchk_in h hx
  unfold RChk at xc
  have x0 := rlist_ok r c n LL Q U x w h hQ hx
  have hn := h.2.1
  have hpos := List.length_pos_of_mem (hQ.mem hx)
  have hab := hQ.abs x hx
  have HLT := Lib.hid (show ∀ y ∈ Q x, y < n from fun y hy => (hab.2.2 y hy).1)
  have hlen := hQ.size hx
  generalize Q x = l at *
  clear hQ hab
  obtain ⟨T, hT⟩ : ∃ T, tot U l = T := ⟨_, rfl⟩
  rw [hT]
  have HT := Lib.hid (show sumZ (fun i => U (l.getD i 0)) l.length = T by rw [sumZ_tot _ (Nat.le_refl _), List.take_length]; exact hT)
  obtain ⟨q, hq⟩ : ∃ q, l.length = q := ⟨_, rfl⟩
  rw [hq] at hpos hlen
  have HQ := Lib.hid hq
  clear hT
  go_enter Try.func49, Try.ntmps49
  go_wp2_with fail
  refine xc.mono ?_
  rintro e w' ⟨rfl, rfl⟩
  go_wp2_with fail
  refine x0.mono ?_
  rintro e w1 ⟨v, rfl, hr, b1⟩
  clear x0 xc
  obtain ⟨A, cc, rfl, k1, k2, k3⟩ := owns_slice hr
  rw [hq] at k1 k3
  obtain ⟨gl, rfl⟩ := k3 hpos
  rw [hq]
  have hr' : RowL w1 w.heap.size (.slice (some ⟨gl, 0, none⟩) l.length cc) l := hr
  have h1 := h.below b1
  have hwl := b1.size
  obtain ⟨B, hB⟩ : ∃ B, w1.heap.size = B := ⟨_, rfl⟩
  have hwB : w.heap.size ≤ B := by omega
  have hBB : B ≤ w1.heap.size := by omega
  have HB1 := Lib.hid (Below.refl w1.heap.size w1)
  clear k3 hq h hr hwl
  go_wp2_with fail
  go_loopw [8, 9] (fun va vk wr => ∃ (k : Nat) (A1 : Option Addr) (d1 : Nat), va = .slice A1 k d1 ∧ vk = .int .i64 k ∧ k ≤ q ∧ wr.ownsRow B 2 1 (.slice A1 k d1) k (vals (fun i => U (l.getD i 0)) k) ∧ Below w1.heap.size w1 wr) (fun _ vk _ => q - (intOf vk).toNat)
  case atStart => exact ⟨0, none, 0, rfl, rfl, Nat.zero_le _, World.ownsRow_nil _ _ _ _, HB1.out⟩
  case round =>
    obtain ⟨k, A1, d1, rfl, rfl, hk, ho, q1⟩ := hrel
    have hq1 := q1.size
    by_cases hlt : k < q
    · have hkq : (k : Int) < (q : Int) := by omega
      have h2 := h1.below q1
      have hr2 := hr'.below q1
      obtain ⟨y, hy⟩ : ∃ y, l[k]? = some y := ⟨_, List.getElem?_eq_getElem (by rw [HQ.out]; exact hlt)⟩
      have hyn := HLT.out y (List.mem_of_getElem? hy)
      have c9 := owns_cell hr2 (k := k) (v := .int .i64 (y : Int)) (by unfold nums; rw [List.getElem?_map, hy]; rfl)
      obtain ⟨A2, cv, c2, e1, e2, e3, e4⟩ := h2.cellV
      obtain ⟨gv, rfl, _, _⟩ := e3 (by omega)
      have cy := owns_cell e4 (vals_get (z := fun i => U i) hyn)
      obtain ⟨u, hu⟩ : ∃ u, U y = u := ⟨_, rfl⟩
      rw [hu] at cy
      have HU := Lib.hid (show (fun i => U (l.getD i 0)) k = u by show U (l.getD k 0) = u; rw [List.getD_eq_getElem?_getD, hy]; exact hu)
      have i1 : (y : Int) < (n : Int) := by omega
      have hn63 : (n : Int) ≤ 1000 := by omega
      have bA := below_new1 wr (.cells #[.int .i64 u] 2)
      have c9A := (bA.cell (p := ⟨gl, k, none⟩) (cell?_lt c9)).trans c9
      have c2A := (bA.cell (p := ⟨r, 2, none⟩) (cell?_lt c2)).trans c2
      have cyA := (bA.cell (p := ⟨gv, y, none⟩) (cell?_lt cy)).trans cy
      have hoA : (wr.alloc (.cells #[.int .i64 u] 2)).drew.ownsRow B 2 1 (.slice A1 k d1) k (vals (fun i => U (l.getD i 0)) k) := owns_below ho bA.drew
      have HCA := Lib.hid (show (wr.alloc (.cells #[.int .i64 u] 2)).drew.cell? ⟨wr.heap.size, 0, none⟩ = some (.int .i64 ((fun i => U (l.getD i 0)) k)) by rw [HU.out]; exact (Blk.new wr 2 #[.int .i64 u]).cell 0)
      have qA : Below w1.heap.size w1 (wr.alloc (.cells #[.int .i64 u] 2)).drew := (q1.alloc hq1 _).drew
      have hzA : B ≤ (wr.alloc (.cells #[.int .i64 u] 2)).drew.heap.size := by simp; omega
      have FIN := Lib.hid (show ∀ (v' : Value) (w3 : World), w3.ownsRow B 2 1 v' (k + 1) (vals (fun i => U (l.getD i 0)) (k + 1)) → (wr.alloc (.cells #[.int .i64 u] 2)).drew.grownBy w3 (Value.slice A1 k d1).ownBlock → ∃ A2 d2, v' = .slice A2 (k + 1) d2 ∧ w3.ownsRow B 2 1 (.slice A2 (k + 1) d2) (k + 1) (vals (fun i => U (l.getD i 0)) (k + 1)) ∧ Below w1.heap.size w1 w3 ∧ w3.cell? ⟨gl, k, none⟩ = some (.int .i64 (y : Int)) ∧ w3.cell? ⟨r, 2, none⟩ = some (.slice (some ⟨gv, 0, none⟩) n cv) ∧ w3.cell? ⟨gv, y, none⟩ = some (.int .i64 u) from fun v' w3 t1 t2 => by
        obtain ⟨A3, d3, rfl, _⟩ := owns_slice t1
        have q3 := qA.grown t2 (by rw [hB]; exact hzA) (fun j hj => by rw [hB]; exact (World.ownsRow.lt hoA j hj).1)
        have hr3 := hr'.below q3
        have h3 := h1.below q3
        obtain ⟨A4, cv4, f2, _, _, f3, f4⟩ := h3.cellV
        have g9 := owns_cell hr3 (k := k) (v := .int .i64 (y : Int)) (by unfold nums; rw [List.getElem?_map, hy]; rfl)
        obtain ⟨g4, rfl, _, _⟩ := f3 (by omega)
        have same : w3.cell? ⟨r, 2, none⟩ = some (.slice (some ⟨gv, 0, none⟩) n cv) := by
          rw [← c2]
          exact (q3.cell (p := ⟨r, 2, none⟩) h1.lt).trans (q1.cell (p := ⟨r, 2, none⟩) h1.lt).symm
        rw [same] at f2
        cases f2
        have gy := owns_cell f4 (vals_get (z := fun i => U i) hyn)
        rw [hu] at gy
        exact ⟨A3, d3, rfl, t1, q3, g9, same, gy⟩)
      have c9d : wr.drew.cell? ⟨gl, k, none⟩ = some (.int .i64 (y : Int)) := c9
      have c2d : wr.drew.cell? ⟨r, 2, none⟩ = some (.slice (some ⟨gv, 0, none⟩) n cv) := c2
      have cyd : wr.drew.cell? ⟨gv, y, none⟩ = some (.int .i64 u) := cy
      have c9B : (wr.alloc (.cells #[.int .i64 u] 2)).drew.cell? ⟨gl, k, none⟩ = some (.int .i64 (y : Int)) := c9A
      have c2B : (wr.alloc (.cells #[.int .i64 u] 2)).drew.cell? ⟨r, 2, none⟩ = some (.slice (some ⟨gv, 0, none⟩) n cv) := c2A
      have cyB : (wr.alloc (.cells #[.int .i64 u] 2)).drew.cell? ⟨gv, y, none⟩ = some (.int .i64 u) := cyA
      clear hu hy e3 e4 bA ho c9A c2A cyA h2 hr2
      go_upto_region 9 with fail
      go_region_held3 (fun w' => w'.cell? ⟨gl, k, none⟩ = some (.int .i64 (y : Int)) ∧ w'.cell? ⟨r, 2, none⟩ = some (.slice (some ⟨gv, 0, none⟩) n cv) ∧ w'.cell? ⟨gv, y, none⟩ = some (.int .i64 u)) (exact ⟨by assumption, by assumption, by assumption⟩) (first
        | (refine step_append_v rfl (.tmp 27) (.tmp 38) rfl B (.slice A1 k d1) k _ (by simp [Act.eval, Act.put]) hoA wr.heap.size (by simp [Act.eval, Act.put]) HCA.out (by omega) hzA ?_; intro v' w3 t1 t2; obtain ⟨A2, d2, rfl, t3, t4, t5, t6, t7⟩ := FIN.out v' w3 t1 t2; clear t1 t2))
      go_wp2_with fail
      go_roundw
      case rel => exact ⟨k + 1, A2, d2, rfl, by simp, by omega, t3, t4⟩
      case measure => simp [intOf]; omega
    · obtain rfl : k = q := by omega
      have hfz : ∀ j, j < k → Fits ((fun i => U (l.getD i 0)) j) := fun j hj => by
        show Fits (U (l.getD j 0))
        rw [List.getD_eq_getElem?_getD, List.getElem?_eq_getElem (by rw [HQ.out]; exact hj)]
        exact h1.2.2.1 _ (HLT.out _ (List.getElem_mem _))
      obtain ⟨A3, d3, he, ha⟩ := owns_arg2 ho hfz
      cases he
      have xt := rtotal_ok k _ _ _ wr ha (by omega)
      have hTT := HT.out
      rw [HQ.out] at hTT
      rw [hTT] at xt
      have q := below_end b1 (by rw [hB]; exact hwB) q1
      clear hfz ha hTT ho
      by_cases hf : Fits T
      · have hs : sumE T = 0 := if_pos hf
        rw [hs] at xt
        have HS := Lib.hid hs
        clear hs hf
        go_wp2_with fail
        refine xt.mono ?_
        rintro e w' ⟨rfl, rfl⟩
        go_wp2_with fail
        go_ret2
        rw [HS.out]
        exact ⟨rfl, q⟩
      · have hs : sumE T = 7 := if_neg hf
        have hv : sumV T = 0 := if_neg hf
        rw [hs] at xt
        have HS := Lib.hid (And.intro hs hv)
        clear hs hf hv
        go_wp2_with fail
        refine xt.mono ?_
        rintro e w' ⟨rfl, rfl⟩
        go_wp2_with fail
        go_ret2
        rw [HS.out.1, HS.out.2]
        exact ⟨rfl, q⟩
end Go.Proofs.Ytgichkjomhnehaa
