/-
  Histograms: New.
-/
import Derived.Test.YtcmkjbliiggcbaaA4
set_option linter.unusedVariables false
set_option linter.unusedSimpArgs false
namespace Go.Proofs.Ytcmkjbliiggcbaa
open Go.RowKit Go.Shelf

theorem inc_of {B : Nat → Int} {n : Nat} (h : ∀ j, j + 1 < n → B j < B (j + 1)) : Inc B n := by
  intro i j hij hj
  induction j with
  | zero => omega
  | succ j ih =>
    have h1 := h j hj
    rcases Nat.lt_or_ge i j with h2 | h2
    · have := ih h2 (by omega); omega
    · obtain rfl : i = j := by omega
      exact h1
/-- what New returns -/
def NewOk (w : World) (n : Nat) (B : Nat → Int) (e : Ending) (w' : World) : Prop :=
  (∃ p A cb s cs, e = .returned (.tuple #[.pointer (some ⟨p, 0, none⟩), .int .i64 0]) ∧ Hist w' p n B (fun _ => 0) 0 A cb s cs ∧ w.heap.size ≤ p ∧ w.heap.size ≤ s ∧ Below w.heap.size w w') ∨
  (e = .returned (.tuple #[.pointer none, .int .i64 2]) ∧ ¬ (n ≤ 1024 ∧ Inc B n) ∧ Below w.heap.size w w')

set_option maxRecDepth 100000 in
set_option maxHeartbeats 2000000 in
theorem new_ok (n c : Nat) (A : Option Addr) (B : Nat → Int) (w : World) (ha : ArgI .i64 w A n c B) (hA : A = none → n = 0 ∧ c = 0) :
    Calls Try.prog 18 #[.slice A n c] w fun e w' => NewOk w n B e w' := by
  have hn63 := ha.2.1
  have hnc := ha.1
  by_cases hbig : 1024 < n
  · have hb1 : (1024 : Int) < (n : Int) := by omega
    go_enter Try.func18, Try.ntmps18
    go_wp2_with fail
    go_ret2
    exact Or.inr ⟨rfl, fun k => by omega, Below.refl _ _⟩
  have hb1 : ¬ (1024 : Int) < (n : Int) := by omega
  go_enter Try.func18, Try.ntmps18
  go_wp2_with fail
  go_loopw [4] (fun vi wr => ∃ j : Nat, vi = .int .i64 ((j : Int) + 1) ∧ (j + 1 ≤ n ∨ j = 0) ∧ Hid (∀ i, i < j → B i < B (i + 1)) ∧ ArgI .i64 wr A n c B ∧ Below w.heap.size w wr) (fun vi _ => n + 1 - (intOf vi).toNat)
  case atStart => exact ⟨0, rfl, Or.inr rfl, Lib.hid (fun i hi => by omega), ha, Below.refl _ _⟩
  case round =>
    clear ha
    obtain ⟨j, rfl, hj, HI, ha, q⟩ := hrel
    by_cases hlt : j + 1 < n
    · have hji : (j : Int) + 1 < (n : Int) := by omega
      obtain ⟨g, o, rfl, hg, hc⟩ := ha.2.2.1 (by omega)
      have c1 := hc (j + 1) hlt
      have c0 := hc j (by omega)
      clear hc
      obtain ⟨x, hx⟩ : ∃ x, B j = x := ⟨_, rfl⟩
      obtain ⟨y, hy⟩ : ∃ y, B (j + 1) = y := ⟨_, rfl⟩
      have HX := Lib.hid (And.intro hx hy)
      rw [hx] at c0
      rw [hy] at c1
      clear hx hy
      by_cases hle : y ≤ x
      · go_wp2_with fail
        go_quiet (fail)
        go_wp2_with fail
        go_ret2
        refine Or.inr ⟨rfl, fun k => ?_, below_drewN q _⟩
        have := k.2 j (j + 1) (by omega) hlt
        rw [HX.out.1, HX.out.2] at this
        omega
      · have hxy : x < y := by omega
        go_wp2_with fail
        go_quiet (fail)
        go_wp2_with fail
        go_roundw
        case rel =>
          refine ⟨j + 1, by simp, Or.inl (by omega), Lib.hid (fun i hi => ?_), ha.below (below_drewN (Below.refl _ _) _), below_drewN q _⟩
          rcases Nat.lt_or_ge i j with h1 | h1
          · exact HI.out i h1
          · obtain rfl : i = j := by omega
            rw [HX.out.1, HX.out.2]; exact hxy
        case measure => simp [intOf]; omega
    · have hji : ¬ (j : Int) + 1 < (n : Int) := by omega
      have hinc : Inc B n := inc_of (fun i hi => HI.out i (by omega))
      have HInc := Lib.hid hinc
      clear hinc
      have hwn : IntKind.i64.wrap ((n : Int) + 1) = (n : Int) + 1 := wrap_i64 (by omega) (by omega)
      have hmk : ∀ W : World, (Instr.makeSlice 22 (.int .i64 ((n : Int) + 1)) (.int .i64 ((n : Int) + 1))).run Try.prog W = .ok (.slice (some ⟨W.heap.size, 0, none⟩) (n + 1) (n + 1)) (W.alloc (.cells (zerosK .i64 (n + 1)) 2)) := fun W => run_make22 (n + 1) (by omega) W
      have ha1 := ha.below (Below.refl _ wr).drew
      have ha2 := ha1.below (below_new1 wr.drew (.cells (zerosK .i64 (n + 1)) 2))
      have hr1 := RowF.new .i64 wr.drew 2 (n + 1)
      have hB : ∀ j, j < n → Fits (B j) := fun j hj => wf_i64 (ha.2.2.2 j hj)
      have HB := Lib.hid hB
      clear hB
      go_upto_region 8 with fail
      go_cut [2, 3] (fun vp ve wx => ve = .int .i64 0 ∧ ∃ p A' cb s cs, vp = .pointer (some ⟨p, 0, none⟩) ∧ Hist wx p n B (fun _ => 0) 0 A' cb s cs ∧ w.heap.size ≤ p ∧ w.heap.size ≤ s ∧ Below w.heap.size w wx)
      case first =>
        go_wp2_with fail
        go_region_law (first
          | (go_simp; go_at_call 39; refine (clone_ok n c A B _ (by first | exact ha1 | exact ha2) hA (by omega)).mono ?_; rintro e w1 ⟨v, rfl, hown, hv1⟩; obtain ⟨A', cap, rfl, hC, hCn, hCg⟩ := own_arg hown HB.out))
        · have hz := hv1.size
          have hz0 := q.size
          have hzd : wr.drew.heap.size = wr.heap.size := rfl
          have hg : 0 < n → ∀ g o, A' = some ⟨g, o, none⟩ → g < w1.heap.size := fun hn g o e => by
            obtain ⟨g', o', e', hl, _⟩ := hC.2.2.1 hn
            rw [e] at e'; cases e'; exact hl
          have R : Hist ((w1.alloc (.cells (zerosK .i64 (n + 1)) 2)).alloc (.cells #[.slice A' n cap, .slice (some ⟨w1.heap.size, 0, none⟩) (n + 1) (n + 1), .int .i64 0] 63)) (w1.heap.size + 1) n B (fun _ => 0) 0 A' cap w1.heap.size (n + 1) :=
            ⟨Blk.new2 _ _ _ _, (RowF.new .i64 w1 2 (n + 1)).alloc _, hC.below (below_new2 _ _ _), hCn, fun hn g o e => by have := hg hn g o e; omega, Nat.le_refl _, by omega, HInc.out, by omega⟩
          have qq := (((below_end q.drew q.drew.size hv1).alloc (by omega) (.cells (zerosK .i64 (n + 1)) 2))).alloc (by simp; omega) (.cells #[.slice A' n cap, .slice (some ⟨w1.heap.size, 0, none⟩) (n + 1) (n + 1), .int .i64 0] 63)
          clear hmk
          go_wp2_with fail
          go_meet
          exact ⟨rfl, _, A', cap, _, _, rfl, R, by omega, by omega, qq⟩
        · have hz := hv1.size
          have hz0 := q.size
          have hzd : wr.drew.heap.size = wr.heap.size := rfl
          have hza : (wr.alloc (.cells (zerosK .i64 (n + 1)) 2)).drew.heap.size = wr.heap.size + 1 := by simp
          have hg : 0 < n → ∀ g o, A' = some ⟨g, o, none⟩ → g < w1.heap.size := fun hn g o e => by
            obtain ⟨g', o', e', hl, _⟩ := hC.2.2.1 hn
            rw [e] at e'; cases e'; exact hl
          have R : Hist (w1.alloc (.cells #[.slice A' n cap, .slice (some ⟨wr.heap.size, 0, none⟩) (n + 1) (n + 1), .int .i64 0] 63)) w1.heap.size n B (fun _ => 0) 0 A' cap wr.heap.size (n + 1) :=
            ⟨Blk.new _ _ _, (hr1.below' hv1).alloc _, hC.below (below_new1 _ _), hCn, fun hn g o e => by have := hg hn g o e; have := hCg g o e; omega, Nat.le_refl _, by omega, HInc.out, by omega⟩
          have q1 := (q.alloc (by omega) (.cells (zerosK .i64 (n + 1)) 2)).drew
          have qq := (below_end q1 q1.size hv1).alloc (by omega) (.cells #[.slice A' n cap, .slice (some ⟨wr.heap.size, 0, none⟩) (n + 1) (n + 1), .int .i64 0] 63)
          clear hmk
          go_wp2_with fail
          go_meet
          exact ⟨rfl, _, A', cap, _, _, rfl, R, by omega, by omega, qq⟩
      case rest =>
        obtain ⟨rfl, p, A', cb, s, cs, rfl, hh, h1, h2, h3⟩ := hcut
        go_wp2_with fail
        go_ret2
        exact Or.inl ⟨p, A', cb, s, cs, rfl, hh, h1, h2, h3⟩
end Go.Proofs.Ytcmkjbliiggcbaa
