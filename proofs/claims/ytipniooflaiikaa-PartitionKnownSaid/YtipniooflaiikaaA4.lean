/-
  Labels by pairs of keys; meet, Meet.
-/
import Derived.Test.YtipniooflaiikaaA3
import Derived.DeepKeys3
set_option linter.unusedVariables false
set_option linter.unusedSimpArgs false
namespace Go.Proofs.Ytipniooflaiikaa
open Go.RowKit Go.Shelf Go.Maps

theorem types_some : ∃ m, Try.prog.types.size = m + 1 := by
  have h : decide (0 < Try.prog.types.size) = true := by kernel_rfl
  have := of_decide_eq_true h
  exact ⟨Try.prog.types.size - 1, by omega⟩
/-- what a pair reads as, as a key -/
def kp (a b : Int) : Lit := .string (keyBytes [.int .i64 a, .int .i64 b])
theorem kp_key {a b : Int} (ha : (Lit.int .i64 a).wf = true) (hb : (Lit.int .i64 b).wf = true) : keyOf Try.prog 57 (.agg #[.int .i64 a, .int .i64 b]) = some (kp a b) :=
  WideMaps.keyOf_pair arr57 Try.underlying3 types_some ha hb
theorem kp_inj {a b c d : Int} (ha : (Lit.int .i64 a).wf = true) (hb : (Lit.int .i64 b).wf = true) (hc : (Lit.int .i64 c).wf = true) (hd : (Lit.int .i64 d).wf = true) (h : kp a b = kp c d) : a = c ∧ b = d := by
  have h1 := kp_key ha hb
  have h2 := kp_key hc hd
  rw [h] at h1
  have h3 := keyOf_inj_deep arr57.tiled arr57.wide h1 h2
  simp at h3
  exact h3
/-- same pair of numbers -/
def eqP (z y : Nat → Int) : Nat → Nat → Bool := fun j k => decide ((z j, y j) = (z k, y k))

set_option maxRecDepth 100000 in
set_option maxHeartbeats 4000000 in
theorem name2_ok (n c d g h : Nat) (A B : Option Addr) (z y : Nat → Int) (w : World) (hb : Blk w g 22 #[.slice A n c]) (hb' : Blk w h 22 #[.slice B n d]) (ha : ArgI .i64 w A n c z) (ha' : ArgI .i64 w B n d y) (hn : n ≤ 100000) :
    Calls Try.prog 46 #[.int .i64 n, .func (.func 47) #[] #[.pointer (some ⟨g, 0, none⟩), .pointer (some ⟨h, 0, none⟩)]] w fun e w' => ∃ s, e = .returned (.slice (some ⟨s, 0, none⟩) n n) ∧ RowF .i64 w' s 3 n (fun i => (can (eqP z y) i : Int)) ∧ w.heap.size ≤ s ∧ Below w.heap.size w w' := by
  have hmm := @run_makeMap Try.prog
  have hmk : ∀ W : World, (Instr.makeSlice 22 (.int .i64 (n : Int)) (.int .i64 (n : Int))).run Try.prog W = .ok (.slice (some ⟨W.heap.size, 0, none⟩) n n) (W.alloc (.cells (zerosK .i64 n) 3)) := fun W => run_make22 n hn W
  have heq : Eqv (eqP z y) n := eqv_of (fun j => (z j, y j)) n
  have HEQ := Lib.hid heq
  have HWF := Lib.hid (And.intro ha.2.2.2 ha'.2.2.2)
  clear heq
  have b2 := below_new2 w (.map #[] 0) (.cells (zerosK .i64 n) 3)
  have r0 : RowF .i64 ((w.alloc (.map #[] 0)).alloc (.cells (zerosK .i64 n) 3)) (w.heap.size + 1) 3 n (labs (eqP z y) 0) := by have h := RowF.new .i64 (w.alloc (.map #[] 0)) 3 n; rw [show (w.alloc (.map #[] 0)).heap.size = w.heap.size + 1 by simp] at h; exact h.congr (fun i hi => by unfold labs; rw [if_neg (by omega)])
  have m0 : ((w.alloc (.map #[] 0)).alloc (.cells (zerosK .i64 n) 3)).ownsMap Try.prog 57 (plainElem (H := Unit) Try.prog 3) w.heap.size 0 (.map []) := (World.ownsMap_made w Try.prog 57 _).alloc _
  go_enter Try.func46, Try.ntmps46
  go_upto_region 3 with fail
  generalize (w.alloc (.map #[] 0)).alloc (.cells (zerosK .i64 n) 3) = W0 at *
  clear hmk
  go_wp2_with fail
  go_loopw [7, 8, 9, 10, 16] (fun _ _ _ _ vi wr => ∃ (i : Nat) (D : DataW Unit), vi = .int .i64 i ∧ i ≤ n ∧ wr.ownsMap Try.prog 57 (plainElem (H := Unit) Try.prog 3) w.heap.size i D ∧ Hid (Firsts D (fun j => kp (z j) (y j)) (eqP z y) n i) ∧ RowF .i64 wr (w.heap.size + 1) 3 n (labs (eqP z y) i) ∧ Below w.heap.size w wr) (fun _ _ _ _ vi _ => n - (intOf vi).toNat)
  case atStart => exact ⟨0, .map [], rfl, Nat.zero_le _, m0, Lib.hid (Firsts.start _ _ _), r0, b2⟩
  case round =>
    clear m0 r0 b2
    obtain ⟨i, D, rfl, hi, hown, HF, hr, q⟩ := hrel
    by_cases hlt : i < n
    · have hin : (i : Int) < (n : Int) := by omega
      have x0 := key2_ok n c d g h A B z y wr (hb.below q hb.lt) (hb'.below q hb'.lt) (ha.below q) (ha'.below q) i hlt
      have hkey := kp_key (HWF.out.1 i hlt) (HWF.out.2 i hlt)
      have hkk : ∀ j, j < n → (kp (z j) (y j) = kp (z i) (y i) ↔ eqP z y i j = true) := fun j hj => by
        constructor
        · intro e
          obtain ⟨e1, e2⟩ := kp_inj (HWF.out.1 j hj) (HWF.out.2 j hj) (HWF.out.1 i hlt) (HWF.out.2 i hlt) e
          simp [eqP, e1, e2]
        · intro e
          simp [eqP] at e
          rw [e.1, e.2]
      have HKK := Lib.hid hkk
      have hle := low_le (fun t => eqP z y t i) i
      obtain ⟨x, hx⟩ : ∃ x, z i = x := ⟨_, rfl⟩
      obtain ⟨u, hu⟩ : ∃ x, y i = x := ⟨_, rfl⟩
      have HX := Lib.hid (And.intro hx hu)
      rw [hx, hu] at x0 hkey
      clear hkk hx hu
      go_wp2_with fail
      refine x0.mono ?_
      rintro e w1 ⟨rfl, hv1⟩
      have hown1 := hown.kept (w' := w1) (row := none) ⟨hv1.os, hv1.tape, hv1.output, hv1.size, fun k hk _ => hv1.block k hk⟩ (by simp)
      have hr1 := hr.below' hv1
      have q1 := below_end q q.size hv1
      have kb := Blk.new w1 57 #[.int .i64 x, .int .i64 u]
      have hown2 := hown1.alloc (.cells #[.int .i64 x, .int .i64 u] 57)
      have hr2 := hr1.alloc (.cells #[.int .i64 x, .int .i64 u] 57)
      have q2 := q1.alloc q1.size (.cells #[.int .i64 x, .int .i64 u] 57)
      clear x0 hown hr hown1 hr1 q1 q
      go_upto_region 7 with fail
      generalize w1.alloc (.cells #[.int .i64 x, .int .i64 u] 57) = W1 at *
      have k0 := kb.cell 0
      have k1 := kb.cell 1
      simp at k0 k1
      have hrc := hr2.cell hlt
      have hrz := hr2.frozen i
      have hzz : w.heap.size ≤ W1.heap.size := q2.size
      have hml := hown2.lt
      by_cases hf : low (fun t => eqP z y t i) i < i
      · obtain ⟨hhas, hatk⟩ := HF.out.yes i hlt hf
        simp only [HX.out.1, HX.out.2] at hhas hatk
        obtain ⟨f, hfe⟩ : ∃ f, can (eqP z y) i = f := ⟨_, rfl⟩
        rw [show low (fun t => eqP z y t i) i = f from hfe] at hatk
        have HA := Lib.hid hatk
        have HF2 := Lib.hid (HF.out.keep HEQ.out hlt hf)
        have HFE := Lib.hid hfe
        clear hatk hfe hf hle
        go_wp2_with (at_lookup; refine wpList_lookup_own_ok_int _ rfl _ _ 72 rfl 57 3 .i64 law57 Try.underlying72 Try.underlying3 (zero3 _) w.heap.size i D rfl hown2 _ _ rfl hkey ?_; intro c hat hwc; have hc : c = (f : Int) := (by rw [HA.out] at hat; injection hat with h1; injection h1 with _ h2; exact h2.symm); subst hc)
        have R : RowF .i64 (W1.setCell ⟨w.heap.size + 1, i, none⟩ (.int .i64 (f : Int))) (w.heap.size + 1) 3 n (labs (eqP z y) (i + 1)) := (hr2.set_ i (f : Int)).congr (fun j hj => by rw [← HFE.out]; exact labs_step (eqP z y) i j)
        have O := (hown2.setCell (a := ⟨w.heap.size + 1, i, none⟩) (by simp) (.int .i64 (f : Int))).mono (show i ≤ i + 1 by omega)
        have Q := q2.setCell (p := ⟨w.heap.size + 1, i, none⟩) (by simp) (.int .i64 (f : Int))
        go_roundw
        case rel => exact ⟨i + 1, D, by simp, by omega, O, HF2, R, Q⟩
        case measure => simp [intOf]; omega
      · have hf2 : low (fun t => eqP z y t i) i = i := by omega
        have hhas := HF.out.no i hlt hf2
        simp only [HX.out.1, HX.out.2] at hhas
        have HF2 := Lib.hid (HF.out.put HEQ.out hlt hf2 hown2.isMap (by rw [HX.out.1, HX.out.2]; exact law57.key hkey) HKK.out)
        have HFE := Lib.hid (show can (eqP z y) i = i from hf2)
        have hi63 : (Lit.int .i64 (i : Int)).wf = true := fits_wf ⟨by omega, by omega⟩
        have him : i < maxLen := by unfold maxLen; omega
        clear hf2 hf hle
        go_wp2_with (first
          | (at_lookup; refine wpList_lookup_own_ok_int _ rfl _ _ 72 rfl 57 3 .i64 law57 Try.underlying72 Try.underlying3 (zero3 _) w.heap.size i D rfl hown2 _ _ rfl hkey ?_; intro c hat hwc)
          | (at_mapUpdate; refine wpList_mapUpdate_own _ rfl _ _ _ 72 rfl 57 3 law57 Try.underlying72 _ w.heap.size i D rfl hown2 him _ _ _ rfl rfl hkey _ [] (plainElem_int Try.underlying3 hi63) ?_; intro w3 hown3 hgrow3; have hr3 := hr2.grown hgrow3 (by simp); have hrc3 := hr3.cell hlt; have hrz3 := hr3.frozen i))
        have R : RowF .i64 (w3.setCell ⟨w.heap.size + 1, i, none⟩ (.int .i64 (i : Int))) (w.heap.size + 1) 3 n (labs (eqP z y) (i + 1)) := (hr3.set_ i (i : Int)).congr (fun j hj => by
          have h := labs_step (eqP z y) i j
          rw [HFE.out] at h
          exact h)
        have O := hown3.setCell (a := ⟨w.heap.size + 1, i, none⟩) (by simp) (.int .i64 (i : Int))
        have Q := (q2.grown hgrow3 q2.size (fun k hk => by cases hk; exact Nat.le_refl _)).setCell (p := ⟨w.heap.size + 1, i, none⟩) (by simp) (.int .i64 (i : Int))
        rw [← HX.out.1, ← HX.out.2] at O
        go_roundw
        case rel => exact ⟨i + 1, _, by simp, by omega, O, HF2, R, Q⟩
        case measure => simp [intOf]; omega
    · obtain rfl : i = n := by omega
      have R := Lib.hid (hr.congr (f' := fun j => (can (eqP z y) j : Int)) (fun j hj => by unfold labs; rw [if_pos hj]))
      go_wp2_with fail
      go_ret
      exact ⟨_, rfl, R.out, by omega, q⟩
set_option maxRecDepth 100000 in
theorem meet_any (n c d : Nat) (A B : Option Addr) (z y : Nat → Int) (w : World) (ha : ArgI .i64 w A n c z) (hb : ArgI .i64 w B n d y) (hn : n ≤ 100000) :
    Calls Try.prog 37 #[.slice A n c, .slice B n d] w fun e w' => ∃ s, e = .returned (.slice (some ⟨s, 0, none⟩) n n) ∧ RowF .i64 w' s 3 n (fun i => (can (eqP z y) i : Int)) ∧ w.heap.size ≤ s ∧ Below w.heap.size w w' := by
  have b2 := below_new2 w (.cells #[.slice A n c] 22) (.cells #[.slice B n d] 22)
  have ka := (Blk.new w 22 #[.slice A n c]).alloc (.cells #[.slice B n d] 22)
  have kb := Blk.new2 w (.cells #[.slice A n c] 22) 22 #[.slice B n d]
  have x0 := name2_ok n c d w.heap.size (w.heap.size + 1) A B z y _ ka kb (ha.below b2) (hb.below b2) hn
  have hz : ((w.alloc (.cells #[.slice A n c] 22)).alloc (.cells #[.slice B n d] 22)).heap.size = w.heap.size + 1 + 1 := by simp
  go_enter Try.func37, Try.ntmps37
  go_upto_region 1 with fail
  generalize (w.alloc (.cells #[.slice A n c] 22)).alloc (.cells #[.slice B n d] 22) = W0 at *
  have k0 := ka.cell 0
  simp at k0
  go_wp2_with (go_at_call 46; refine x0.mono ?_; rintro e w1 ⟨s, rfl, hr, hs, hv⟩)
  go_ret
  exact ⟨s, rfl, hr, by omega, below_go b2 (by omega) hv⟩
/-- two partitions, in natural numbers -/
theorem Two.nat {n m : Nat} {z y : Nat → Int} (h : Two n m z y) : ∃ a b : Nat → Nat, n = m ∧ Can a n ∧ Can b n ∧ (∀ i, i < n → z i = (a i : Int)) ∧ ∀ i, i < n → y i = (b i : Int) := by
  obtain ⟨h1, h2, rfl⟩ := h
  obtain ⟨a, ha, ea⟩ := h1.nat
  obtain ⟨b, hb, eb⟩ := h2.nat
  exact ⟨a, b, rfl, ha, hb, ea, eb⟩
theorem eqP_nat {n : Nat} {z y : Nat → Int} {a b : Nat → Nat} (ea : ∀ i, i < n → z i = (a i : Int)) (eb : ∀ i, i < n → y i = (b i : Int)) {i : Nat} (hi : i < n) : can (eqP z y) i = mt a b i :=
  low_congr fun j hj => by
    unfold eqP meetE
    rw [ea j (by omega), eb j (by omega), ea i hi, eb i hi]
    simp only [Prod.mk.injEq]
    rw [decide_eq_decide]
    omega
/-- what Meet returns -/
def MeetOk (w : World) (n m : Nat) (z y : Nat → Int) (e : Ending) (w' : World) : Prop :=
  (¬ Two n m z y ∧ e = .returned (.tuple #[.slice none 0 0, .int .i64 2]) ∧ w = w') ∨
  (Two n m z y ∧ ∃ s, e = .returned (.tuple #[.slice (some ⟨s, 0, none⟩) n n, .int .i64 0]) ∧ RowF .i64 w' s 3 n (fun i => (can (eqP z y) i : Int)) ∧ w.heap.size ≤ s ∧ Below w.heap.size w w')
set_option maxRecDepth 100000 in
theorem meet_ok (n m c d : Nat) (A B : Option Addr) (z y : Nat → Int) (w : World) (ha : ArgI .i64 w A n c z) (hb : ArgI .i64 w B m d y) (hn : n ≤ 100000) :
    Calls Try.prog 25 #[.slice A n c, .slice B m d] w fun e w' => MeetOk w n m z y e w' := by
  have x0 := check2_ok n m c d A B z y w ha hb
  go_enter Try.func25, Try.ntmps25
  go_wp2_with fail
  refine x0.mono ?_
  rintro e w' ⟨⟨rfl, h1⟩ | ⟨rfl, h1⟩, rfl⟩
  · obtain rfl := h1.2.2
    have H1 := Lib.hid h1
    clear h1
    have y0 := meet_any n c d A B z y w ha hb hn
    go_wp2_with (go_at_call 37; refine y0.mono ?_; rintro e w1 ⟨s, rfl, hr, hs, hv⟩)
    go_ret2
    exact Or.inr ⟨H1.out, s, rfl, hr, hs, hv⟩
  · have H1 := Lib.hid h1
    clear h1
    go_wp2_with fail
    go_ret2
    exact Or.inl ⟨H1.out, rfl, rfl⟩
end Go.Proofs.Ytipniooflaiikaa
