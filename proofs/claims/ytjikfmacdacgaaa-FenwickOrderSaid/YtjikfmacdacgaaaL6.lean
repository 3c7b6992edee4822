/-
  The walk of FenwickCounts.
-/
import Derived.Test.YtjikfmacdacgaaaL5
set_option linter.unusedVariables false
set_option linter.unusedSimpArgs false
namespace Go.Proofs.Ytjikfmacdacgaaa
open Go.RowKit Go.Shelf Fw

/-- block g holds a row of n integers -/
def RowF (k : IntKind) (w : World) (g e n : Nat) (f : Nat → Int) : Prop := ∃ cs, Blk w g e cs ∧ ∀ i, i < n → cs[i]? = some (Value.int k (f i))
section
variable {k : IntKind} {w w' : World} {g e n : Nat} {f : Nat → Int}
theorem RowF.lt (h : RowF k w g e n f) : g < w.heap.size := by obtain ⟨cs, h1, _⟩ := h; exact h1.lt
theorem RowF.cell (h : RowF k w g e n f) {i : Nat} (hi : i < n) : w.cell? ⟨g, i, none⟩ = some (.int k (f i)) := by
  obtain ⟨cs, h1, h2⟩ := h
  rw [h1.cell]; exact h2 i hi
theorem RowF.frozen (h : RowF k w g e n f) (i : Nat) : w.frozen? ⟨g, i, none⟩ = false := by obtain ⟨cs, h1, _⟩ := h; exact h1.frozen i
theorem RowF.below {B : Nat} (h : RowF k w g e n f) (hb : Below B w w') (hg : g < B) : RowF k w' g e n f := by obtain ⟨cs, h1, h2⟩ := h; exact ⟨cs, h1.below hb hg, h2⟩
theorem RowF.below' (h : RowF k w g e n f) (hb : Below w.heap.size w w') : RowF k w' g e n f := h.below hb h.lt
theorem RowF.turns {S : Nat → Prop} (h : RowF k w g e n f) (ht : Turns S w w') (hg : ¬ S g) : RowF k w' g e n f := by obtain ⟨cs, h1, h2⟩ := h; exact ⟨cs, h1.turns ht hg, h2⟩
theorem RowF.alloc (h : RowF k w g e n f) (o : Obj) : RowF k (w.alloc o) g e n f := by obtain ⟨cs, h1, h2⟩ := h; exact ⟨cs, h1.alloc o, h2⟩
theorem RowF.drewN (h : RowF k w g e n f) (m : Nat) : RowF k (w.drewN m) g e n f := h
theorem RowF.drew (h : RowF k w g e n f) : RowF k w.drew g e n f := h
theorem RowF.far (h : RowF k w g e n f) {p : Addr} (hp : g ≠ p.block) (u : Value) : RowF k (w.setCell p u) g e n f := by obtain ⟨cs, h1, h2⟩ := h; exact ⟨cs, h1.far hp u, h2⟩
theorem RowF.set_ (h : RowF k w g e n f) (q : Nat) (v : Int) : RowF k (w.setCell ⟨g, q, none⟩ (.int k v)) g e n (fun j => if j = q then v else f j) := by
  obtain ⟨cs, h1, h2⟩ := h
  refine ⟨_, h1.set_ q _, fun i hi => ?_⟩
  have := h2 i hi
  rw [Array.getElem?_setIfInBounds]
  by_cases e : q = i
  · subst e
    rw [if_pos rfl, if_pos (Array.getElem?_eq_some_iff.1 this).1]
    simp
  · rw [if_neg e, this]
    show _ = some (Value.int k (if i = q then v else f i))
    rw [if_neg (Ne.symm e)]
theorem RowF.congr {f' : Nat → Int} (h : RowF k w g e n f) (hf : ∀ i, i < n → f i = f' i) : RowF k w g e n f' := by
  obtain ⟨cs, h1, h2⟩ := h
  exact ⟨cs, h1, fun i hi => by rw [h2 i hi, hf i hi]⟩
theorem RowF.arg (h : RowF k w g e n f) (hn : n ≤ 9223372036854775807) (hwf : ∀ i, i < n → (Lit.int k (f i)).wf = true) : ArgI k w (some ⟨g, 0, none⟩) n n f :=
  ⟨Nat.le_refl _, hn, fun _ => ⟨g, 0, rfl, h.lt, fun i hi => by rw [Nat.zero_add]; exact h.cell hi⟩, hwf⟩
end

/-- a row of zeros of a kind -/
def zerosK (k : IntKind) (n : Nat) : Array Value := madeCells #[.int k 0] n
theorem RowF.new (k : IntKind) (w : World) (e n : Nat) : RowF k (w.alloc (.cells (zerosK k n) e)) w.heap.size e n (fun _ => 0) :=
  ⟨_, Blk.new w e _, fun i hi => by unfold zerosK; rw [← Array.getElem?_toList, toList_madeCells_one, List.getElem?_replicate, if_pos hi]⟩

theorem info35 : (Try.prog.info? 35).map (fun i => (i.zero, i.size, i.bytes)) = some (some (.int .u16 0), 1, 2) := by kernel_rfl
theorem info3 : (Try.prog.info? 3).map (fun i => (i.zero, i.size, i.bytes)) = some (some (.int .i64 0), 1, 8) := by kernel_rfl
theorem run_make34 (n : Nat) (hn : n ≤ 100000) (w : World) :
    (Instr.makeSlice 34 (.int .i64 (n : Int)) (.int .i64 (n : Int))).run Try.prog w = .ok (.slice (some ⟨w.heap.size, 0, none⟩) n n) (w.alloc (.cells (zerosK .u16 n) 35)) := by
  obtain ⟨i0, hi, hz0, hz1, hz2⟩ := info_parts info35
  have hr := Go.run_make (P := Try.prog) w 34 35 i0 (.int .u16 0) Try.underlying34 hi hz0 .i64 .i64 n n (by omega) (by omega) (by rw [hz2]; omega) (by omega)
  simp only [Int.toNat_natCast] at hr
  rw [hr, hz1, Nat.mul_one]
  rfl
theorem run_make44 (n : Nat) (hn : n ≤ 100000) (w : World) :
    (Instr.makeSlice 44 (.int .i64 (n : Int)) (.int .i64 (n : Int))).run Try.prog w = .ok (.slice (some ⟨w.heap.size, 0, none⟩) n n) (w.alloc (.cells (zerosK .i64 n) 3)) := by
  obtain ⟨i0, hi, hz0, hz1, hz2⟩ := info_parts info3
  have hr := Go.run_make (P := Try.prog) w 44 3 i0 (.int .i64 0) Try.underlying44 hi hz0 .i64 .i64 n n (by omega) (by omega) (by rw [hz2]; omega) (by omega)
  simp only [Int.toNat_natCast] at hr
  rw [hr, hz1, Nat.mul_one]
  rfl

/-- how many of the first x units are in counter i -/
def seenV (z : Nat → Int) (x : Int) (i : Nat) : Int := if x ≤ pre z i then 0 else if pre z (i + 1) ≤ x then z i else x - pre z i
theorem seen_start {z : Nat → Int} {n : Nat} (g : GoodC n z) {i : Nat} (hi : i < n) : seenV z 0 i = 0 := by
  unfold seenV; rw [if_pos (g.pre_nn (Nat.le_of_lt hi))]
theorem seen_end {z : Nat → Int} {n : Nat} (g : GoodC n z) {i : Nat} (hi : i < n) : seenV z (pre z n) i = z i := by
  have h1 := pre_mono g.nn (i + 1) n hi (Nat.le_refl _)
  have h2 := g.nn i hi
  have e : pre z (i + 1) = pre z i + z i := rfl
  unfold seenV
  by_cases h : pre z n ≤ pre z i
  · rw [if_pos h]; omega
  · rw [if_neg h, if_pos h1]
theorem seen_step {z : Nat → Int} {n : Nat} (g : GoodC n z) {x : Int} {i : Nat} (h : Fw.Found z n x i) {j : Nat} (hj : j < n) : seenV z (x + 1) j = if j = i then seenV z x i + 1 else seenV z x j := by
  obtain ⟨h1, h2, h3⟩ := h
  have e : pre z (i + 1) = pre z i + z i := rfl
  have e' : pre z (j + 1) = pre z j + z j := rfl
  by_cases hji : j = i
  · subst hji
    rw [if_pos rfl]
    unfold seenV
    rw [if_neg (by omega)]
    have h9 : ¬ pre z (j + 1) ≤ x := by omega
    by_cases h4 : x ≤ pre z j
    · rw [if_pos h4]
      by_cases h8 : pre z (j + 1) ≤ x + 1
      · rw [if_pos h8]; omega
      · rw [if_neg h8]; omega
    · rw [if_neg h4, if_neg h9]
      by_cases h8 : pre z (j + 1) ≤ x + 1
      · rw [if_pos h8]; omega
      · rw [if_neg h8]; omega
  · rw [if_neg hji]
    unfold seenV
    rcases Nat.lt_or_gt_of_ne hji with hl | hl
    · have h5 := pre_mono g.nn (j + 1) i hl (Nat.le_of_lt h1)
      have h6 := g.nn j hj
      by_cases h7 : x ≤ pre z j
      · rw [if_pos h7]
        split
        · rfl
        · rw [if_pos (by omega)]; omega
      · rw [if_neg h7, if_neg (by omega), if_pos (by omega), if_pos (by omega)]
    · have h5 := pre_mono g.nn (i + 1) j hl (Nat.le_of_lt hj)
      rw [if_pos (by omega), if_pos (by omega)]
theorem seen_range {z : Nat → Int} {n : Nat} (g : GoodC n z) {x : Int} {i : Nat} (hi : i < n) : 0 ≤ seenV z x i ∧ seenV z x i ≤ z i := by
  have h2 := g.nn i hi
  have e : pre z (i + 1) = pre z i + z i := rfl
  unfold seenV
  split
  · omega
  · split <;> omega

set_option maxRecDepth 100000 in
set_option maxHeartbeats 1000000 in
theorem counts_walk (n c : Nat) (A : Option Addr) (z : Nat → Int) (w : World) (ha : ArgI .u16 w A n c z) :
    Calls Try.prog 6 #[.slice A n c] w fun e w' => e = .returned (.bool true) ∧ Below w.heap.size w w' := by
  have hnc := ha.1
  have hn63 := ha.2.1
  by_cases hbig : 40 < n
  · go_enter Try.func6, Try.ntmps6
    go_wp2_with (go_at_call 15; refine (works_ok _).mono ?_; rintro e w1 ⟨rfl, hb1⟩)
    go_ret
    exact ⟨rfl, hb1⟩
  have hbig' : decide (40 < (n : Int)) = false := by simp; omega
  have hz : ∀ j, j < n → 0 ≤ z j ∧ z j ≤ 65535 := fun j hj => wf_u16 (ha.2.2.2 j hj)
  have HZ := Lib.hid hz
  clear hz
  have hmk := fun W => run_make34 n (by omega) W
  have hb0 := below_new1 w (.cells (zerosK .u16 n) 35)
  have hr0 := RowF.new .u16 w 35 n
  go_enter Try.func6, Try.ntmps6
  go_wp2_with fail
  generalize w.alloc (.cells (zerosK .u16 n) 35) = W0 at *
  go_loopw [4] (fun vk wr => ∃ k : Nat, vk = .int .i64 k ∧ k ≤ n ∧ RowF .u16 wr w.heap.size 35 n (fun j => if j < k then z j % 16 else 0) ∧ Below w.heap.size w wr) (fun vk _ => n - (intOf vk).toNat)
  case atStart => exact ⟨0, rfl, Nat.zero_le _, hr0.congr (fun i hi => by simp), hb0⟩
  case round =>
    clear hb0 hr0
    obtain ⟨k, rfl, hk, hr, hv⟩ := hrel
    by_cases hlt : k < n
    · obtain ⟨g, o, rfl, hg, hc⟩ := (ha.below hv).2.2.1 (by omega)
      have hck := hc k hlt
      have hzk := HZ.out k hlt
      have hs := hr.cell hlt
      have fs := hr.frozen k
      clear hc
      go_wp2_with fail
      go_roundw
      case rel =>
        refine ⟨k + 1, by go_num, by omega, (hr.set_ k (z k % 16)).congr (fun i hi => ?_), hv.setCell (p := ⟨w.heap.size, k, none⟩) (Nat.le_refl _) _⟩
        show (if i = k then z k % 16 else if i < k then z i % 16 else 0) = if i < k + 1 then z i % 16 else 0
        by_cases h1 : i = k
        · rw [if_pos h1, if_pos (by omega), h1]
        · rw [if_neg h1]
          by_cases h2 : i < k
          · rw [if_pos h2, if_pos (by omega)]
          · rw [if_neg h2, if_neg (by omega)]
      case measure => simp [intOf]; omega
    · obtain rfl : k = n := by omega
      have hm : ∀ j, j < k → 0 ≤ z j % 16 ∧ z j % 16 ≤ 15 := fun j hj => by omega
      have hr' : RowF .u16 wr w.heap.size 35 k (fun j => z j % 16) := hr.congr (fun i hi => by simp [hi])
      have ha' : ArgI .u16 wr (some ⟨w.heap.size, 0, none⟩) k k (fun j => z j % 16) := hr'.arg (by omega) (fun i hi => by
        have := hm i hi
        simp [Lit.wf, IntKind.min, IntKind.max, IntKind.signed, IntKind.bits]; omega)
      have HG := Lib.hid (small_good (z := fun j => z j % 16) (n := k) (by omega) (fun j hj => by have := hm j hj; omega))
      have HM := Lib.hid hm
      clear hm hr hmk
      have hmk := fun W => run_make44 k (by omega) W
      go_wp2_with fail
      refine (filled_ok k k _ _ (by omega) _ ha').mono ?_
      rintro e w1 ⟨b, s, rfl, hf, hb, hs, hv1⟩
      have hr1 := hr'.below' hv1
      have hv2 := below_go hv (Nat.le_refl _) hv1
      have hltw := hr'.lt
      have hb3 := below_new1 w1 (.cells (zerosK .i64 k) 3)
      have hse := RowF.new .i64 w1 3 k
      have hf3 := hf.below hb3
      have hr3 := hr1.below' hb3
      have hv3 := below_go hv2 (Nat.le_refl _) hb3
      have hfl := hf.fw.lt
      have hrl := hr1.lt
      have hw1 := hv2.size
      clear ha' hf hr1 hv2 hr' hv1 hv hb3
      generalize hZ : (fun j => z j % 16) = y at *
      have HY := Lib.hid hZ
      clear hZ
      go_wp2_with fail
      generalize w1.alloc (.cells (zerosK .i64 k) 3) = W1 at *
      have HM' : Hid (∀ j, j < k → 0 ≤ y j ∧ y j ≤ 15) := by rw [← HY.out]; exact HM.out
      have hT : pre y k ≤ (k : Int) * 15 := pre_bound k (fun j hj => (HM'.out j hj).2)
      have ht0 := HG.out.pre_nn (Nat.le_refl k)
      go_loopw [7, 8] (fun vl vx wr => ∃ x l : Nat, vx = .int .i64 x ∧ vl = .int .i64 l ∧ (x : Int) ≤ pre y k ∧ l ≤ k ∧ pre y l ≤ x ∧ FC wr b s k y ∧ RowF .i64 wr w1.heap.size 3 k (seenV y x) ∧ RowF .u16 wr w.heap.size 35 k y ∧ Below w.heap.size w wr)
        (fun _ vx _ => (pre y k).toNat - (intOf vx).toNat)
      case atStart => exact ⟨0, 0, rfl, rfl, ht0, Nat.zero_le _, Int.le_refl _, hf3, hse.congr (fun i hi => (seen_start HG.out hi).symm), hr3, hv3⟩
      case round =>
        clear hf3 hse hr3 hv3
        obtain ⟨x, l, rfl, rfl, hx, hl, hlx, hf, hse, hr, hv⟩ := hrel
        by_cases hlt : (x : Int) < pre y k
        · obtain ⟨i, hi⟩ := found_ex y x (by omega) k hlt
          have hi0 := hi.1
          have hi1 := hi.2.1
          have hi2 := hi.2.2
          have hli : l ≤ i := by
            rcases Nat.lt_or_ge i l with h1 | h1
            · have := pre_mono HG.out.nn (i + 1) l h1 hl; omega
            · exact h1
          have HI := Lib.hid hi
          have hsr := seen_range HG.out (x := x) hi0
          have hyi := HG.out.nn i hi0
          have hyt := HM'.out i hi0
          clear hi
          go_wp2_with fail
          refine (total_any _ b s k y _ (.inl ⟨rfl, hf⟩)).mono ?_
          rintro e w2 ⟨rfl, hb2⟩
          have hf2 := hf.below hb2
          have hse2 := hse.below' hb2
          have hr2 := hr.below' hb2
          have hv2 := below_go hv (Nat.le_refl _) hb2
          clear hf hse hr hv hb2
          go_wp2_with fail
          refine (find_ok b s k y x i _ hf2 HI.out).mono ?_
          rintro e w3 ⟨rfl, hb2⟩
          have hf := hf2.below hb2
          have hse := hse2.below' hb2
          have hr := hr2.below' hb2
          have hv := below_go hv2 (Nat.le_refl _) hb2
          clear hf2 hse2 hr2 hv2 hb2
          have cs := hse.cell hi0
          have fs := hse.frozen i
          have hlif : decide (i < l) = false := by simp; omega
          have hik : decide (k ≤ i) = false := by simp; omega
          go_wp2_with fail
          go_roundw
          case rel =>
            have hT3 : Turns (· = w1.heap.size) w3 (w3.setCell ⟨w1.heap.size, i, none⟩ (.int .i64 (seenV y x i + 1))) := (Turns.refl (· = w1.heap.size) w3).setCell (p := ⟨w1.heap.size, i, none⟩) (.inr rfl) _
            refine ⟨x + 1, i, by go_num, rfl, by omega, by omega, by omega, hf.turns hT3 (fun h => by have h : b = w1.heap.size := h; omega) (fun h => by have h : s = w1.heap.size := h; omega), (hse.set_ i _).congr (fun j hj => ?_), hr.turns hT3 (fun h => by have h : w.heap.size = w1.heap.size := h; omega), hv.setCell (p := ⟨w1.heap.size, i, none⟩) (by show w.heap.size ≤ w1.heap.size; omega) _⟩
            have := seen_step HG.out HI.out hj
            rw [Int.natCast_add]
            exact this.symm
          case measure => simp [intOf]; omega
        · have hxe : (x : Int) = pre y k := by omega
          go_wp2_with fail
          refine (total_any _ b s k y _ (.inl ⟨rfl, hf⟩)).mono ?_
          rintro e w2 ⟨rfl, hb2⟩
          have hse2 := hse.below' hb2
          have hr2 := hr.below' hb2
          have hv2 := below_go hv (Nat.le_refl _) hb2
          rw [hxe] at hse2
          have hse3 := hse2.congr (fun i hi => seen_end HG.out hi)
          clear hf hse hr hv hb2 hse2
          have HX := Lib.hid hxe
          clear hxe
          go_wp2_with fail
          go_loopw [11] (fun vk wr => ∃ q : Nat, vk = .int .i64 q ∧ q ≤ k ∧ RowF .i64 wr w1.heap.size 3 k y ∧ RowF .u16 wr w.heap.size 35 k y ∧ Below w.heap.size w wr) (fun vk _ => k - (intOf vk).toNat)
          case atStart => exact ⟨0, rfl, Nat.zero_le _, hse3, hr2, hv2⟩
          case round =>
            clear hse3 hr2 hv2
            obtain ⟨q, rfl, hq, hse, hr, hv⟩ := hrel
            by_cases hlq : q < k
            · have c1 := hse.cell hlq
              have c2 := hr.cell hlq
              have hyq := HM'.out q hlq
              have hwy : IntKind.i64.wrap (y q) = y q := by rw [IntKind.wrap_i64]; omega
              have hi0 : (0 : Int) ≤ (q : Int) := by omega
              have hi1 : (q : Int) < (k : Int) := by omega
              go_wp2_with fail
              go_quiet (fail)
              clear hwy
              go_wp2_with fail
              go_roundw
              case rel => exact ⟨q + 1, by go_num, by omega, hse.drewN _, hr.drewN _, below_drewN hv _⟩
              case measure => simp [intOf]; omega
            · go_wp2_with fail
              refine (works_ok _).mono ?_
              rintro e w3 ⟨rfl, hb3⟩
              go_wp2_with fail
              go_ret
              exact ⟨rfl, below_go hv (Nat.le_refl _) hb3⟩

end Go.Proofs.Ytjikfmacdacgaaa
