/-
  Shells.
-/
import Derived.Test.YtoiafopndlnknaaE1
import Derived.Maps.OwnOps
import Derived.Maps.OwnSet
import Derived.Maps.Views
import Derived.Carry
set_option linter.unusedVariables false
set_option linter.unusedSimpArgs false
namespace Go.Proofs.Ytoiafopndlnknaa
open Go.RowKit Go.Shelf Go.Maps

theorem law3 : Keyed Try.prog 3 := int_keyed Try.underlying3
theorem zero3 (w : World) : (zeroValue 3).run Try.prog w = .ok (.int .i64 0) w := by kernel_rfl
/-- a map of the call's own: how often each number came -/
def MapC (w : World) (b k : Nat) (cf : Nat → Nat) : Prop := ∃ D : DataW Unit, w.ownsMap Try.prog 3 (plainElem Try.prog 3) b k D ∧ ∀ x : Nat, D.atKey (.int .i64 (x : Int)) (.lit (.int .i64 0)) = .lit (.int .i64 (cf x : Nat))
theorem MapC.made (w : World) : MapC (w.alloc (.map #[] 0)) w.heap.size 0 (fun _ => 0) := ⟨_, World.ownsMap_made _ _ _ _, fun x => rfl⟩
theorem MapC.below {w w' : World} {b k B : Nat} {cf : Nat → Nat} (h : MapC w b k cf) (hb : Below B w w') (hk : b < B) : MapC w' b k cf := by
  obtain ⟨D, ⟨es, clock, h1, h2⟩, h3⟩ := h
  exact ⟨D, ⟨es, clock, (hb.block b hk).trans h1, h2⟩, h3⟩
theorem MapC.step {w w' : World} {b k x c : Nat} {cf : Nat → Nat} {D : DataW Unit} (h : w.ownsMap Try.prog 3 (plainElem Try.prog 3) b k D) (ha : ∀ x : Nat, D.atKey (.int .i64 (x : Int)) (.lit (.int .i64 0)) = .lit (.int .i64 (cf x : Nat))) (hc : cf x + 1 = c)
    (h' : w'.ownsMap Try.prog 3 (plainElem Try.prog 3) b (k + 1) (D.put (.int .i64 (x : Int)) (.lit (.int .i64 (c : Nat))))) : MapC w' b (k + 1) (upd cf x (cf x + 1)) := by
  refine ⟨_, h', fun y => ?_⟩
  unfold upd
  by_cases e : y = x
  · subst e
    rw [if_pos rfl, hc]
    exact atKey_put_same h.isMap (show WideAt.IsKeyLit (.int .i64 (y : Int)) from trivial) _ _
  · rw [if_neg e, ← ha y]
    exact atKey_put_other (fun g => e (by have := (Lit.int.inj g).2; omega)) _ _
def cntN (f : Nat → Nat) (i x : Nat) : Nat := ((List.range i).filter fun v => f v == x).length
theorem cntN_succ (f : Nat → Nat) (i x : Nat) : cntN f (i + 1) x = upd (cntN f i) (f i) (cntN f i (f i) + 1) x := by
  unfold cntN upd
  rw [range_snoc_filter, List.length_append]
  by_cases h : x = f i
  · subst h; simp
  · rw [if_neg h, if_neg (by simp; exact fun e => h e.symm)]
    rfl
theorem cntN_le (f : Nat → Nat) (i x : Nat) : cntN f i x ≤ i := by
  unfold cntN
  have := List.length_filter_le (fun v => f v == x) (List.range i)
  rwa [List.length_range] at this
section
variable {w w' : World} {g k cap : Nat} {F : Nat → Int}
theorem RowS.frozen (h : RowS w g k cap F) (i : Nat) : w.frozen? ⟨g, i, none⟩ = false := by obtain ⟨cs, h1, _⟩ := h; exact h1.frozen i
theorem RowS.far (h : RowS w g k cap F) {p : Addr} (hp : g ≠ p.block) (u : Value) : RowS (w.setCell p u) g k cap F := by obtain ⟨cs, h1, h2, h3⟩ := h; exact ⟨cs, h1.far hp u, h2, h3⟩
theorem RowS.set_ (h : RowS w g k cap F) (q : Nat) (v : Int) : RowS (w.setCell ⟨g, q, none⟩ (.int .i64 v)) g k cap (fun j => if j = q then v else F j) := by
  obtain ⟨cs, h1, h2, h3⟩ := h
  refine ⟨_, h1.set_ q _, by simpa using h2, fun i hi => ?_⟩
  have := h3 i hi
  rw [Array.getElem?_setIfInBounds]
  by_cases e : q = i
  · subst e
    rw [if_pos rfl, if_pos (Array.getElem?_eq_some_iff.1 this).1]
    simp
  · rw [if_neg e, this]
    show _ = some (Value.int .i64 (if i = q then v else F i))
    rw [if_neg (Ne.symm e)]
theorem RowS.made (w : World) (n : Nat) : RowS (w.alloc (.cells (zerosK .i64 n) 3)) w.heap.size n n (fun _ => 0) :=
  ⟨_, Blk.new w 3 _, by unfold zerosK; rw [← Array.length_toList, toList_madeCells_one, List.length_replicate], fun i hi => by unfold zerosK; rw [← Array.getElem?_toList, toList_madeCells_one, List.getElem?_replicate, if_pos hi]⟩
theorem RowS.congr {F' : Nat → Int} (h : RowS w g k cap F) (he : ∀ i, i < k → F i = F' i) : RowS w g k cap F' := by obtain ⟨cs, h1, h2, h3⟩ := h; exact ⟨cs, h1, h2, fun i hi => by rw [h3 i hi, he i hi]⟩
theorem RowS.to_listB {l : List Nat} {B : Nat} (h : RowS w g k cap F) (hB : B ≤ g) (hl : l.length ≤ k) (hkc : k ≤ cap) (hm : cap ≤ maxLen) (he : ∀ i, i < l.length → F i = (l.getD i 0 : Nat)) : RowL w B (.slice (some ⟨g, 0, none⟩) l.length cap) l := by
  have h0 := h.to_list hl hkc hm he
  refine ⟨h0.1, h0.2.imp id ?_⟩
  rintro ⟨g', c', cur, hv, _, r⟩
  cases hv
  exact ⟨g, cap, cur, rfl, hB, r⟩
end
/-- how many vertices have each core number -/
def shellsL (f : Nat → Nat) (n G : Nat) : List Nat := if n = 0 then [] else (List.range (G + 1)).map fun x => cntN f n x
def IsMaxOf (f : Nat → Nat) (n G : Nat) : Prop := (∀ v, v < n → f v ≤ G) ∧ (0 < n → ∃ v, v < n ∧ G = f v) ∧ (n = 0 → G = 0)
/-- what Shells gives -/
def ShellsR (w : World) (n : Nat) (f : Nat → Nat) (e : Ending) (w' : World) : Prop := ∃ v G, e = .returned v ∧ IsMaxOf f n G ∧ RowL w' w.heap.size v (shellsL f n G) ∧ Below w.heap.size w w'
set_option maxRecDepth 100000 in
set_option maxHeartbeats 1500000 in
theorem shells_ok {w : World} {K : GB} {n : Nat} {E : Es} (hG : Gr w K n E) :
    Calls Try.prog 25 #[.pointer (some ⟨K.g, 0, none⟩)] w fun e w' => ShellsR w n (num E n) e w' := by
  have x0 := n_ok hG
  have hn := hG.fine.1
  have HF := Lib.hid (fun u => num_le20 E n u hG.fine.2.1)
  obtain ⟨f, hf⟩ : ∃ f, num E n = f := ⟨_, rfl⟩
  rw [hf] at HF ⊢
  have HFE := Lib.hid hf
  have HG := Lib.hid hG
  clear hG hf
  by_cases hn0 : n = 0
  · subst hn0
    go_enter Try.func25, Try.ntmps25
    go_wp2_with fail
    refine x0.mono ?_
    rintro e w' ⟨rfl, rfl⟩
    go_wp2_with fail
    go_ret
    exact ⟨_, 0, rfl, ⟨fun v hv => by omega, fun h => by omega, fun _ => rfl⟩, RowL.nil _ _, Below.refl _ _⟩
  · have hnz : ¬ (n : Int) = 0 := by omega
    have hnz2 : ((n : Int) == 0) = false := by simp; omega
    have hmm := @run_makeMap Try.prog
    go_enter Try.func25, Try.ntmps25
    go_wp2_with fail
    refine x0.mono ?_
    rintro e w' ⟨rfl, rfl⟩
    clear x0
    have b1 := below_new1 w (.map #[] 0)
    have hm1 := MapC.made w
    have xn := numbers_ok (HG.out.below b1)
    rw [HFE.out] at xn
    have hs1 : w.heap.size < (w.alloc (.map #[] 0)).heap.size := by simp
    go_upto_region 5 with fail
    clear hmm
    generalize w.alloc (.map #[] 0) = W1 at *
    obtain ⟨bm, hbm⟩ : ∃ x, w.heap.size = x := ⟨_, rfl⟩
    rw [hbm] at hm1
    rw [hbm]
    have hbm1 : bm < W1.heap.size ∧ w.heap.size ≤ bm := by omega
    clear hbm
    go_wp2_with fail
    refine xn.mono ?_
    rintro e w1 ⟨gn, rfl, hgn, hR, q1⟩
    have hm2 := hm1.below q1 hbm1.1
    have q2 := below_end b1 b1.size q1
    have hne : gn ≠ bm := by omega
    have hgn0 : w.heap.size ≤ gn := by omega
    clear xn hm1 b1 q1
    go_wp2_with fail
    go_loopw [4, 6, 16] (fun v4 _ v wr => ∃ (i G : Nat), v4 = .int .i64 G ∧ v = .int .i64 i ∧ i ≤ n ∧ G ≤ 20000 ∧ Hid (IsMaxOf f i G) ∧ MapC wr bm i (cntN f i) ∧ RowF .i64 wr gn 3 n (fun u => (f u : Nat)) ∧ Below w.heap.size w wr) (fun _ _ v _ => 20000 - (intOf v).toNat)
    case atStart => exact ⟨0, 0, rfl, rfl, Nat.zero_le _, by omega, Lib.hid ⟨fun v hv => by omega, fun h => by omega, fun _ => rfl⟩, hm2, hR, q2⟩
    case round =>
      clear hm2 hR q2
      obtain ⟨i, G, rfl, rfl, hi, hGl, HM, hm, hR, q⟩ := hrel
      by_cases hlt : i < n
      · have hin : (i : Int) < (n : Int) := by omega
        obtain ⟨D, hown, hat⟩ := hm
        have c1 := hR.cell hlt
        have hfi := HF.out i
        have HC := Lib.hid (cntN_succ f i)
        have HMN := Lib.hid (show IsMaxOf f (i + 1) (max G (f i)) from by
          obtain ⟨h1, h2, h3⟩ := HM.out
          refine ⟨fun v hv => ?_, fun _ => ?_, fun h => by omega⟩
          · rcases Nat.lt_or_ge v i with g | g
            · have := h1 v g; omega
            · obtain rfl : v = i := by omega
              omega
          · rcases Nat.le_total G (f i) with g | g
            · exact ⟨i, by omega, by omega⟩
            · rcases Nat.eq_zero_or_pos i with z | z
              · have := h3 z
                exact ⟨i, by omega, by omega⟩
              · obtain ⟨v, hv, e⟩ := h2 z
                exact ⟨v, by omega, by omega⟩)
        obtain ⟨x, hx⟩ : ∃ x, f i = x := ⟨_, rfl⟩
        have hq := cntN_le f i x
        have hatx := hat x
        rw [hx] at c1 hfi HC HMN
        obtain ⟨q0, hq0⟩ : ∃ q0, cntN f i x = q0 := ⟨_, rfl⟩
        have HST := Lib.hid (fun (w' : World) (h' : w'.ownsMap Try.prog 3 (plainElem Try.prog 3) bm (i + 1) (D.put (.int .i64 (x : Int)) (.lit (.int .i64 ((q0 + 1 : Nat) : Int))))) => show MapC w' bm (i + 1) (cntN f (i + 1)) from by
          have := MapC.step hown hat (by rw [hq0]) h'
          rw [show cntN f (i + 1) = upd (cntN f i) x (cntN f i x + 1) from funext HC.out]
          exact this)
        rw [hq0] at hq hatx
        have hkey : keyOf Try.prog 3 (.int .i64 (x : Int)) = some (.int .i64 (x : Int)) := keyOf_int_mk Try.underlying3 (fits_wf ⟨by omega, by omega⟩)
        have hmax : max (G : Int) (x : Int) = ((max G x : Nat) : Int) := by omega
        obtain ⟨G2, hG2⟩ : ∃ G2, max G x = G2 := ⟨_, rfl⟩
        have hG2l : G2 ≤ 20000 := by omega
        rw [hG2] at hmax HMN
        have hq1 : (q0 : Int) + 1 = ((q0 + 1 : Nat) : Int) := by omega
        have HQ1 := Lib.hid hq1
        have HAT := Lib.hid hatx
        have HIM := Lib.hid (show i < maxLen from by simp only [maxLen]; omega)
        have hwf : (Lit.int .i64 ((q0 : Int) + 1)).wf = true := fits_wf ⟨by omega, by omega⟩
        clear hx hat hG2 hq0 hatx hq1
        go_wp2_with (first
          | (at_lookup; refine wpList_lookup_own_int _ rfl _ _ 78 rfl 3 3 .i64 law3 Try.underlying78 Try.underlying3 (zero3 _) bm i D rfl hown _ _ rfl hkey ?_; intro c hc hwc; have hcq : c = (q0 : Int) := ((Lit.int.inj (DataW.lit.inj (HAT.out.symm.trans hc))).2).symm; subst hcq; clear hc hwc)
          | (at_mapUpdate; refine wpList_mapUpdate_own _ rfl _ _ _ 78 rfl 3 3 law3 Try.underlying78 _ bm i D rfl hown HIM.out _ _ _ rfl rfl hkey _ [] (plainElem_int Try.underlying3 hwf) ?_; intro w2 hown2 hgrow2; rw [HQ1.out] at hown2; have hm2 := HST.out w2 hown2; have hR2 : RowF .i64 w2 gn 3 n (fun u => (f u : Nat)) := (by obtain ⟨cs, g1, g2⟩ := hR; exact ⟨cs, (hgrow2.block gn g1.lt (fun e => hne (Option.some.inj e))).trans g1, g2⟩); have q2 := q.grown hgrow2 q.size (fun k hk => by cases hk; exact hbm1.2)))
        go_roundw
        case rel => exact ⟨i + 1, G2, by simp [hmax], by simp, by omega, by omega, HMN, hm2, hR2, q2⟩
        case measure => simp [intOf]; omega
      · have ein : n = i := by omega
        subst ein
        have hin : ¬ (n : Int) < (n : Int) := by omega
        have hmk := run_make31 (G + 1) (by omega)
        have hg1 : (G : Int) + 1 = ((G + 1 : Nat) : Int) := by omega
        have mk1 : ∀ w, (Instr.makeSlice 31 (.int .i64 ((G : Int) + 1)) (.int .i64 ((G : Int) + 1))).run Try.prog w = _ := fun w => run_make31 (G + 1) (by omega) w
        have b3 := below_new1 wr (.cells (zerosK .i64 (G + 1)) 3)
        have hr3 := RowS.made wr (G + 1)
        have hm3 := hm.below b3 (by obtain ⟨D, hown, _⟩ := hm; exact hown.lt)
        have q3 := below_end q q.size b3
        have hs3 := q.size
        have hbmw : bm < wr.heap.size := by obtain ⟨D, hown, _⟩ := hm; exact hown.lt
        clear hmk hg1
        go_upto_region 13 with fail
        clear mk1 hm hR q
        generalize wr.alloc (.cells (zerosK .i64 (G + 1)) 3) = W3 at *
        obtain ⟨gs, hgs⟩ : ∃ x, wr.heap.size = x := ⟨_, rfl⟩
        rw [hgs] at hr3 hs3 hbmw
        rw [hgs]
        clear hgs b3
        go_loopw [8, 33] (fun _ v wr => ∃ j : Nat, v = .int .i64 j ∧ j ≤ G + 1 ∧ MapC wr bm n (cntN f n) ∧ RowS wr gs (G + 1) (G + 1) (fun x => if x < j then (cntN f n x : Nat) else 0) ∧ Below w.heap.size w wr) (fun _ v _ => 60000 - (intOf v).toNat)
        case atStart => exact ⟨0, rfl, Nat.zero_le _, hm3, hr3.congr (fun i hi => by rw [if_neg (by omega)]), q3⟩
        case round =>
          clear hm3 hr3 q3
          obtain ⟨j, rfl, hj, hm, hr, q⟩ := hrel
          by_cases hjl : j < G + 1
          · have hjn : (j : Int) < (G : Int) + 1 := by omega
            obtain ⟨D, hown, hat⟩ := hm
            have hatx := hat j
            have HMC := Lib.hid (fun (w' : World) (h' : w'.ownsMap Try.prog 3 (plainElem Try.prog 3) bm n D) => show MapC w' bm n (cntN f n) from ⟨D, h', hat⟩)
            have hq := cntN_le f n j
            obtain ⟨q0, hq0⟩ : ∃ q0, cntN f n j = q0 := ⟨_, rfl⟩
            rw [hq0] at hq hatx
            have HQ0 := Lib.hid hq0
            have HAT := Lib.hid hatx
            have hkey : keyOf Try.prog 3 (.int .i64 (j : Int)) = some (.int .i64 (j : Int)) := keyOf_int_mk Try.underlying3 (fits_wf ⟨by omega, by omega⟩)
            have c1 := hr.cell hjl
            have c2 := hr.frozen j
            clear hq0 hat hatx
            go_wp2_with (at_lookup; refine wpList_lookup_own_int _ rfl _ _ 78 rfl 3 3 .i64 law3 Try.underlying78 Try.underlying3 (zero3 _) bm n D rfl hown _ _ rfl hkey ?_; intro c hc hwc; have hcq : c = (q0 : Int) := by (rw [HAT.out] at hc; injection hc with hc; injection hc with _ hc; exact hc.symm)
                         subst hcq
                         clear hc hwc)
            go_roundw
            case rel => exact ⟨j + 1, by simp, by omega, HMC.out _ (hown.setCell (a := ⟨gs, j, none⟩) (by show bm ≠ gs; omega) _), (hr.set_ j (q0 : Int)).congr (fun x hx => by
              by_cases e : x = j
              · subst e; rw [if_pos rfl, if_pos (by omega), HQ0.out]
              · rw [if_neg e]
                by_cases h2 : x < j
                · rw [if_pos h2, if_pos (by omega)]
                · rw [if_neg h2, if_neg (by omega)]), q.setCell (p := ⟨gs, j, none⟩) hs3 _⟩
            case measure => simp [intOf]; omega
          · have hjG : G + 1 = j := by omega
            have hjn : ¬ (j : Int) < (G : Int) + 1 := by omega
            have hlen : (shellsL f n G).length = G + 1 := by unfold shellsL; rw [if_neg hn0]; simp
            have HL := Lib.hid (show RowL wr w.heap.size (.slice (some ⟨gs, 0, none⟩) (G + 1) (G + 1)) (shellsL f n G) from by
              have := hr.to_listB (l := shellsL f n G) hs3 (by rw [hlen]; exact Nat.le_refl _) (Nat.le_refl _) (by simp only [maxLen]; omega) (fun i hi => by
                rw [hlen] at hi
                rw [if_pos (by omega)]
                unfold shellsL
                rw [if_neg hn0, List.getD_eq_getElem?_getD, List.getElem?_map, List.getElem?_range hi]
                rfl)
              rwa [hlen] at this)
            clear hm hr hlen hjG hjl
            go_wp2_with fail
            go_ret
            exact ⟨_, G, rfl, HM.out, HL.out, q⟩
end Go.Proofs.Ytoiafopndlnknaa
