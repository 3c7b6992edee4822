/-
  Labels by keys: name at both kinds of keys; Canon; meet.
-/
import Derived.Test.YtipniooflaiikaaA2
import Derived.Maps.OwnSet
import Derived.Maps.OwnOps
import Derived.WideKeyPair
import Derived.DeepKeys4
set_option linter.unusedVariables false
set_option linter.unusedSimpArgs false
namespace Go.Proofs.Ytipniooflaiikaa
open Go.RowKit Go.Shelf Go.Maps

theorem law3 : Keyed Try.prog 3 := int_keyed Try.underlying3
theorem arr57 : WideMaps.ArrKey Try.prog 57 3 2 := ⟨Try.underlying57, by kernel_rfl, by kernel_rfl, by kernel_rfl⟩
theorem law57 : Keyed Try.prog 57 := Keyed.of_law arr57.law
theorem zero3 (w : World) : (zeroValue 3).run Try.prog w = .ok (.int .i64 0) w := by kernel_rfl

/-- the map knows the first element of each class among the first i -/
structure Firsts (D : DataW Unit) (kl : Nat → Lit) (e : Nat → Nat → Bool) (n i : Nat) : Prop where
  yes : ∀ j, j < n → low (fun t => e t j) i < i → Maps.has D (kl j) = true ∧ D.atKey (kl j) (.lit (.int .i64 0)) = .lit (.int .i64 (low (fun t => e t j) i))
  no : ∀ j, j < n → low (fun t => e t j) i = i → Maps.has D (kl j) = false
theorem Firsts.start (kl : Nat → Lit) (e : Nat → Nat → Bool) (n : Nat) : Firsts (.map []) kl e n 0 :=
  ⟨fun j _ h => by simp [low] at h, fun j _ _ => rfl⟩
theorem low_succ_in {p : Nat → Bool} {i : Nat} (h : low p i < i) : low p (i + 1) = low p i := by simp only [low]; rw [if_pos h]
theorem low_succ_yes {p : Nat → Bool} {i : Nat} (h : low p i = i) (hp : p i = true) : low p (i + 1) = i := by simp only [low]; rw [if_neg (by omega), if_pos hp]
theorem low_succ_no {p : Nat → Bool} {i : Nat} (h : low p i = i) (hp : p i = false) : low p (i + 1) = i + 1 := by simp only [low]; rw [if_neg (by omega), if_neg (by rw [hp]; exact Bool.false_ne_true)]
theorem Firsts.keep {D : DataW Unit} {kl : Nat → Lit} {e : Nat → Nat → Bool} {n i : Nat} (h : Firsts D kl e n i) (he : Eqv e n) (hi : i < n) (hf : low (fun t => e t i) i < i) : Firsts D kl e n (i + 1) := by
  have key : ∀ j, j < n → low (fun t => e t j) i = i → e i j = false := fun j hj hl => by
    cases hx : e i j with
    | false => rfl
    | true =>
      have h1 := low_is (p := fun t => e t i) hf
      have h2 := he.trans _ _ _ (by omega) hi hj h1 hx
      have h3 := low_min (p := fun t => e t j) (n := i) (j := low (fun t => e t i) i) (by omega)
      rw [h2] at h3; cases h3
  refine ⟨fun j hj hl => ?_, fun j hj hl => ?_⟩
  · have hle := low_le (fun t => e t j) i
    rcases Nat.lt_or_ge (low (fun t => e t j) i) i with h1 | h1
    · rw [low_succ_in h1]; exact h.yes j hj h1
    · have h2 : low (fun t => e t j) i = i := by omega
      rw [low_succ_no h2 (key j hj h2)] at hl; omega
  · have hle := low_le (fun t => e t j) i
    rcases Nat.lt_or_ge (low (fun t => e t j) i) i with h1 | h1
    · rw [low_succ_in h1] at hl; omega
    · exact h.no j hj (by omega)
theorem Firsts.put {D : DataW Unit} {kl : Nat → Lit} {e : Nat → Nat → Bool} {n i : Nat} (h : Firsts D kl e n i) (he : Eqv e n) (hi : i < n) (hf : low (fun t => e t i) i = i) (hD : IsMap D) (hk : WideAt.IsKeyLit (kl i)) (hkl : ∀ j, j < n → (kl j = kl i ↔ e i j = true)) :
    Firsts (D.put (kl i) (.lit (.int .i64 i))) kl e n (i + 1) := by
  have key : ∀ j, j < n → e i j = true → low (fun t => e t j) i = i := fun j hj hx => by
    have hle := low_le (fun t => e t j) i
    rcases Nat.lt_or_ge (low (fun t => e t j) i) i with h1 | h1
    · have h2 := low_is (p := fun t => e t j) h1
      have h3 := he.trans _ _ _ (by omega) hj hi h2 (he.symm _ _ hi hj hx)
      have h4 := low_min (p := fun t => e t i) (n := i) (j := low (fun t => e t j) i) (by omega)
      rw [h3] at h4; cases h4
    · omega
  refine ⟨fun j hj hl => ?_, fun j hj hl => ?_⟩
  · have hle := low_le (fun t => e t j) i
    by_cases hx : e i j = true
    · have h1 := key j hj hx
      have h2 := (hkl j hj).2 hx
      rw [h2, low_succ_yes h1 hx]
      exact ⟨has_put_same hD hk _, atKey_put_same hD hk _ _⟩
    · have hne : kl j ≠ kl i := fun c => hx ((hkl j hj).1 c)
      rw [has_put_other hne, atKey_put_other hne]
      rcases Nat.lt_or_ge (low (fun t => e t j) i) i with h1 | h1
      · rw [low_succ_in h1]; exact h.yes j hj h1
      · rw [low_succ_no (by omega) (by simpa using hx)] at hl; omega
  · have hle := low_le (fun t => e t j) i
    by_cases hx : e i j = true
    · rw [low_succ_yes (key j hj hx) hx] at hl; omega
    · have hne : kl j ≠ kl i := fun c => hx ((hkl j hj).1 c)
      rw [has_put_other hne]
      rcases Nat.lt_or_ge (low (fun t => e t j) i) i with h1 | h1
      · rw [low_succ_in h1] at hl; omega
      · exact h.no j hj (by omega)
theorem int_keys {z : Nat → Int} (i j : Nat) : (Lit.int .i64 (z j) = Lit.int .i64 (z i)) ↔ decide (z i = z j) = true := by
  simp [eq_comm]
/-- the labels so far -/
def labs (e : Nat → Nat → Bool) (i : Nat) : Nat → Int := fun j => if j < i then (can e j : Int) else 0
theorem labs_step (e : Nat → Nat → Bool) (i j : Nat) : (if j = i then (can e i : Int) else labs e i j) = labs e (i + 1) j := by
  unfold labs
  by_cases h : j = i
  · subst h; rw [if_pos rfl, if_pos (by omega)]
  · rw [if_neg h]
    by_cases h2 : j < i
    · rw [if_pos h2, if_pos (by omega)]
    · rw [if_neg h2, if_neg (by omega)]
theorem RowF.grown {k : IntKind} {w w' : World} {g e n b : Nat} {f : Nat → Int} (h : RowF k w g e n f) (hg : w.grownBy w' (some b)) (hne : g ≠ b) : RowF k w' g e n f := by
  obtain ⟨cs, h1, h2⟩ := h
  exact ⟨cs, (hg.block g h1.lt (fun e => hne (by injection e))).trans h1, h2⟩
/-- same number -/
def eqZ (z : Nat → Int) : Nat → Nat → Bool := fun j k => decide (z j = z k)

set_option maxRecDepth 100000 in
set_option maxHeartbeats 4000000 in
theorem name1_ok (n c g : Nat) (A : Option Addr) (z : Nat → Int) (w : World) (hb : Blk w g 22 #[.slice A n c]) (ha : ArgI .i64 w A n c z) (hn : n ≤ 100000) :
    Calls Try.prog 42 #[.int .i64 n, .func (.func 43) #[] #[.pointer (some ⟨g, 0, none⟩)]] w fun e w' => ∃ s, e = .returned (.slice (some ⟨s, 0, none⟩) n n) ∧ RowF .i64 w' s 3 n (fun i => (can (eqZ z) i : Int)) ∧ w.heap.size ≤ s ∧ Below w.heap.size w w' := by
  have hmm := @run_makeMap Try.prog
  have hmk : ∀ W : World, (Instr.makeSlice 22 (.int .i64 (n : Int)) (.int .i64 (n : Int))).run Try.prog W = .ok (.slice (some ⟨W.heap.size, 0, none⟩) n n) (W.alloc (.cells (zerosK .i64 n) 3)) := fun W => run_make22 n hn W
  have heq : Eqv (eqZ z) n := eqv_of z n
  have HEQ := Lib.hid heq
  have hwf : ∀ i, i < n → (Lit.int .i64 (z i)).wf = true := ha.2.2.2
  have HWF := Lib.hid hwf
  clear heq hwf
  have b2 := below_new2 w (.map #[] 0) (.cells (zerosK .i64 n) 3)
  have r0 : RowF .i64 ((w.alloc (.map #[] 0)).alloc (.cells (zerosK .i64 n) 3)) (w.heap.size + 1) 3 n (labs (eqZ z) 0) := by have h := RowF.new .i64 (w.alloc (.map #[] 0)) 3 n; rw [show (w.alloc (.map #[] 0)).heap.size = w.heap.size + 1 by simp] at h; exact h.congr (fun i hi => by unfold labs; rw [if_neg (by omega)])
  have m0 : ((w.alloc (.map #[] 0)).alloc (.cells (zerosK .i64 n) 3)).ownsMap Try.prog 3 (plainElem (H := Unit) Try.prog 3) w.heap.size 0 (.map []) := (World.ownsMap_made w Try.prog 3 _).alloc _
  go_enter Try.func42, Try.ntmps42
  go_upto_region 3 with fail
  generalize (w.alloc (.map #[] 0)).alloc (.cells (zerosK .i64 n) 3) = W0 at *
  clear hmk
  go_wp2_with fail
  go_loopw [7, 8, 9, 10, 16] (fun _ _ _ _ vi wr => ∃ (i : Nat) (D : DataW Unit), vi = .int .i64 i ∧ i ≤ n ∧ wr.ownsMap Try.prog 3 (plainElem (H := Unit) Try.prog 3) w.heap.size i D ∧ Hid (Firsts D (fun j => .int .i64 (z j)) (eqZ z) n i) ∧ RowF .i64 wr (w.heap.size + 1) 3 n (labs (eqZ z) i) ∧ Below w.heap.size w wr) (fun _ _ _ _ vi _ => n - (intOf vi).toNat)
  case atStart => exact ⟨0, .map [], rfl, Nat.zero_le _, m0, Lib.hid (Firsts.start _ _ _), r0, b2⟩
  case round =>
    clear m0 r0 b2
    obtain ⟨i, D, rfl, hi, hown, HF, hr, q⟩ := hrel
    by_cases hlt : i < n
    · have hin : (i : Int) < (n : Int) := by omega
      have x0 := key1_ok n c g A z wr (hb.below q hb.lt) (ha.below q) i hlt
      have hkey := keyOf_int_mk Try.underlying3 (HWF.out i hlt)
      have hrc := hr.cell hlt
      have hrz := hr.frozen i
      have hkk : ∀ j, j < n → ((Lit.int .i64 (z j)) = (Lit.int .i64 (z i)) ↔ eqZ z i j = true) := fun j _ => int_keys i j
      have HKK := Lib.hid hkk
      have hle := low_le (fun t => eqZ z t i) i
      obtain ⟨x, hx⟩ : ∃ x, z i = x := ⟨_, rfl⟩
      have HX := Lib.hid hx
      rw [hx] at x0 hkey
      clear hkk hx
      by_cases hf : low (fun t => eqZ z t i) i < i
      · obtain ⟨hhas, hatk⟩ := HF.out.yes i hlt hf
        simp only [HX.out] at hhas hatk
        obtain ⟨f, hfe⟩ : ∃ f, can (eqZ z) i = f := ⟨_, rfl⟩
        rw [show low (fun t => eqZ z t i) i = f from hfe] at hatk
        have HA := Lib.hid hatk
        have HF2 := Lib.hid (HF.out.keep HEQ.out hlt hf)
        have HFE := Lib.hid hfe
        clear hatk hfe hf hle
        go_wp2_with (first
          | (refine x0.mono ?_; rintro e w' ⟨rfl, rfl⟩)
          | (at_lookup; refine wpList_lookup_own_ok_int _ rfl _ _ 70 rfl 3 3 .i64 law3 Try.underlying70 Try.underlying3 (zero3 _) w.heap.size i D rfl hown _ _ rfl hkey ?_; intro c hat hwc; have hc : c = (f : Int) := (by rw [HA.out] at hat; injection hat with h1; injection h1 with _ h2; exact h2.symm); subst hc))
        have R : RowF .i64 (wr.setCell ⟨w.heap.size + 1, i, none⟩ (.int .i64 (f : Int))) (w.heap.size + 1) 3 n (labs (eqZ z) (i + 1)) := (hr.set_ i (f : Int)).congr (fun j hj => by rw [← HFE.out]; exact labs_step (eqZ z) i j)
        have O := (hown.setCell (a := ⟨w.heap.size + 1, i, none⟩) (by simp) (.int .i64 (f : Int))).mono (show i ≤ i + 1 by omega)
        have Q := q.setCell (p := ⟨w.heap.size + 1, i, none⟩) (by simp) (.int .i64 (f : Int))
        go_roundw
        case rel => exact ⟨i + 1, D, by simp, by omega, O, HF2, R, Q⟩
        case measure => simp [intOf]; omega
      · have hf2 : low (fun t => eqZ z t i) i = i := by omega
        have hhas := HF.out.no i hlt hf2
        simp only [HX.out] at hhas
        have HF2 := Lib.hid (HF.out.put HEQ.out hlt hf2 hown.isMap (by rw [HX.out]; exact law3.key hkey) HKK.out)
        have HFE := Lib.hid (show can (eqZ z) i = i from hf2)
        have hi63 : (Lit.int .i64 (i : Int)).wf = true := fits_wf ⟨by omega, by omega⟩
        have him : i < maxLen := by unfold maxLen; omega
        clear hf2 hf hle
        go_wp2_with (first
          | (refine x0.mono ?_; rintro e w' ⟨rfl, rfl⟩)
          | (at_lookup; refine wpList_lookup_own_ok_int _ rfl _ _ 70 rfl 3 3 .i64 law3 Try.underlying70 Try.underlying3 (zero3 _) w.heap.size i D rfl hown _ _ rfl hkey ?_; intro c hat hwc)
          | (at_mapUpdate; refine wpList_mapUpdate_own _ rfl _ _ _ 70 rfl 3 3 law3 Try.underlying70 _ w.heap.size i D rfl hown him _ _ _ rfl rfl hkey _ [] (plainElem_int Try.underlying3 hi63) ?_; intro w1 hown1 hgrow1; have hr1 := hr.grown hgrow1 (by simp); have hrc1 := hr1.cell hlt; have hrz1 := hr1.frozen i))
        have R : RowF .i64 (w1.setCell ⟨w.heap.size + 1, i, none⟩ (.int .i64 (i : Int))) (w.heap.size + 1) 3 n (labs (eqZ z) (i + 1)) := (hr1.set_ i (i : Int)).congr (fun j hj => by
          have h := labs_step (eqZ z) i j
          rw [HFE.out] at h
          exact h)
        have O := hown1.setCell (a := ⟨w.heap.size + 1, i, none⟩) (by simp) (.int .i64 (i : Int))
        have Q := (q.grown hgrow1 q.size (fun k hk => by cases hk; exact Nat.le_refl _)).setCell (p := ⟨w.heap.size + 1, i, none⟩) (by simp) (.int .i64 (i : Int))
        rw [← HX.out] at O
        go_roundw
        case rel => exact ⟨i + 1, _, by simp, by omega, O, HF2, R, Q⟩
        case measure => simp [intOf]; omega
    · obtain rfl : i = n := by omega
      have R := Lib.hid (hr.congr (f' := fun j => (can (eqZ z) j : Int)) (fun j hj => by unfold labs; rw [if_pos hj]))
      go_wp2_with fail
      go_ret
      exact ⟨_, rfl, R.out, by omega, q⟩
set_option maxRecDepth 100000 in
theorem canon_ok (n c : Nat) (A : Option Addr) (z : Nat → Int) (w : World) (ha : ArgI .i64 w A n c z) (hn : n ≤ 100000) :
    Calls Try.prog 23 #[.slice A n c] w fun e w' => ∃ s, e = .returned (.slice (some ⟨s, 0, none⟩) n n) ∧ RowF .i64 w' s 3 n (fun i => (can (eqZ z) i : Int)) ∧ w.heap.size ≤ s ∧ Below w.heap.size w w' := by
  have b1 := below_new1 w (.cells #[.slice A n c] 22)
  have kb := Blk.new w 22 #[.slice A n c]
  have x0 := name1_ok n c w.heap.size A z _ kb (ha.below b1) hn
  have k0 := kb.cell 0
  simp at k0
  have hz : (w.alloc (.cells #[.slice A n c] 22)).heap.size = w.heap.size + 1 := by simp
  go_enter Try.func23, Try.ntmps23
  go_wp2_with (go_at_call 42; refine x0.mono ?_; rintro e w1 ⟨s, rfl, hr, hs, hv⟩)
  go_ret
  exact ⟨s, rfl, hr, by omega, below_go b1 (by omega) hv⟩
end Go.Proofs.Ytipniooflaiikaa
