/-
  The document's counters in memory, and its functions that only read.
-/
import Derived.Test.YtjikfmacdacgaaaW4
set_option linter.unusedVariables false
set_option linter.unusedSimpArgs false
namespace Go.Proofs.Ytjikfmacdacgaaa
open Go.RowKit Go.Shelf Fw

/-- the document's counters: the struct's block b, the list's block s -/
def RW (w : World) (b s n : Nat) (C : Nat → Int) : Prop :=
  ∃ (A : Addr) (c : Nat), Blk w b 65 #[.bool true, .slice (some A) n c] ∧ n ≤ c ∧ (0 < n → A = ⟨s, 0, none⟩ ∧ ∃ cs, Blk w s 2 cs ∧ ∀ i, i < n → cs[i]? = some (Value.int .i64 (C i)))

section
variable {w w' : World} {b s n : Nat} {C : Nat → Int}
theorem RW.lt (h : RW w b s n C) : b < w.heap.size := by
  obtain ⟨A, c, hb, _⟩ := h
  exact hb.lt
theorem RW.cell0 (h : RW w b s n C) : w.cell? ⟨b, 0, none⟩ = some (.bool true) := by
  obtain ⟨A, c, hb, _⟩ := h
  simpa using hb.cell 0
theorem RW.cell1 (h : RW w b s n C) : ∃ A c, w.cell? ⟨b, 1, none⟩ = some (.slice (some A) n c) ∧ n ≤ c := by
  obtain ⟨A, c, hb, hc, _⟩ := h
  exact ⟨A, c, by simpa using hb.cell 1, hc⟩
theorem RW.cell1' (h : RW w b s n C) (hn : 0 < n) : ∃ c, w.cell? ⟨b, 1, none⟩ = some (.slice (some ⟨s, 0, none⟩) n c) ∧ n ≤ c := by
  obtain ⟨A, c, hb, hc, hr⟩ := h
  obtain ⟨rfl, _⟩ := hr hn
  exact ⟨c, by simpa using hb.cell 1, hc⟩
theorem RW.at_ (h : RW w b s n C) {i : Nat} (hi : i < n) : w.cell? ⟨s, i, none⟩ = some (.int .i64 (C i)) := by
  obtain ⟨A, c, hb, hc, hr⟩ := h
  obtain ⟨rfl, cs, hs, hcs⟩ := hr (by omega)
  rw [hs.cell]
  exact hcs i hi
theorem RW.frozen (h : RW w b s n C) (hn : 0 < n) (i : Nat) : w.frozen? ⟨s, i, none⟩ = false := by
  obtain ⟨A, c, hb, hc, hr⟩ := h
  obtain ⟨rfl, cs, hs, hcs⟩ := hr hn
  exact hs.frozen i
theorem RW.ne (h : RW w b s n C) (hn : 0 < n) : b ≠ s := by
  obtain ⟨A, c, hb, hc, hr⟩ := h
  obtain ⟨rfl, cs, hs, hcs⟩ := hr hn
  exact hb.ne_ hs (by decide)
theorem RW.lts (h : RW w b s n C) (hn : 0 < n) : s < w.heap.size := by
  obtain ⟨A, c, hb, hc, hr⟩ := h
  obtain ⟨rfl, cs, hs, hcs⟩ := hr hn
  exact hs.lt
theorem RW.below (h : RW w b s n C) (hb : Below w.heap.size w w') : RW w' b s n C := by
  obtain ⟨A, c, h1, hc, hr⟩ := h
  refine ⟨A, c, h1.below hb h1.lt, hc, fun hn => ?_⟩
  obtain ⟨e, cs, hs, hcs⟩ := hr hn
  exact ⟨e, cs, hs.below hb hs.lt, hcs⟩
theorem RW.turns {S : Nat → Prop} (h : RW w b s n C) (ht : Turns S w w') (g1 : ¬ S b) (g2 : ¬ S s) : RW w' b s n C := by
  obtain ⟨A, c, h1, hc, hr⟩ := h
  refine ⟨A, c, h1.turns ht g1, hc, fun hn => ?_⟩
  obtain ⟨e, cs, hs, hcs⟩ := hr hn
  exact ⟨e, cs, hs.turns ht g2, hcs⟩
theorem RW.drew (h : RW w b s n C) : RW w.drew b s n C := h
theorem RW.set_ (h : RW w b s n C) (q : Nat) (v : Int) (hn : 0 < n) : RW (w.setCell ⟨s, q, none⟩ (.int .i64 v)) b s n (fun j => if j = q then v else C j) := by
  have hne := h.ne hn
  obtain ⟨A, c, h1, hc, hr⟩ := h
  refine ⟨A, c, h1.far (p := ⟨s, q, none⟩) hne _, hc, fun hn => ?_⟩
  obtain ⟨e, cs, hs, hcs⟩ := hr hn
  refine ⟨e, _, hs.set_ q _, fun i hi => ?_⟩
  have := hcs i hi
  rw [Array.getElem?_setIfInBounds]
  by_cases e : q = i
  · subst e
    rw [if_pos rfl]
    have hlt := (Array.getElem?_eq_some_iff.1 this).1
    rw [if_pos hlt]
    simp
  · rw [if_neg e, this]
    show _ = some (Value.int IntKind.i64 (if i = q then v else C i))
    rw [if_neg (Ne.symm e)]
theorem RW.congr {D : Nat → Int} (h : RW w b s n C) (hD : ∀ i, i < n → C i = D i) : RW w b s n D := by
  obtain ⟨A, c, h1, hc, hr⟩ := h
  refine ⟨A, c, h1, hc, fun hn => ?_⟩
  obtain ⟨e, cs, hs, hcs⟩ := hr hn
  exact ⟨e, cs, hs, fun i hi => by rw [hcs i hi, hD i hi]⟩
end

structure RC (w : World) (b s n : Nat) (C : Nat → Int) : Prop where
  rw : RW w b s n C
  hn : n ≤ 65536
  good : GoodC n C
theorem RC.below {w w' : World} {b s n : Nat} {C : Nat → Int} (h : RC w b s n C) (hb : Below w.heap.size w w') : RC w' b s n C := ⟨h.rw.below hb, h.hn, h.good⟩
theorem RC.turns {w w' : World} {b s n : Nat} {C : Nat → Int} {S : Nat → Prop} (h : RC w b s n C) (ht : Turns S w w') (h1 : ¬ S b) (h2 : ¬ S s) : RC w' b s n C := ⟨h.rw.turns ht h1 h2, h.hn, h.good⟩

theorem rvalid_ok (b s n : Nat) (C : Nat → Int) (w : World) (h : RW w b s n C) :
    Calls Try.prog 39 #[.pointer (some ⟨b, 0, none⟩)] w fun e w' => e = .returned (.bool true) ∧ w = w' := by
  have h0 := h.cell0
  go_enter Try.func39, Try.ntmps39
  go_wp2
  go_ret
  exact ⟨rfl, rfl⟩
theorem rvalid_no (w : World) : Calls Try.prog 39 #[.pointer none] w fun e w' => e = .returned (.bool false) ∧ w = w' := by
  go_enter Try.func39, Try.ntmps39
  go_wp2
  go_ret
  exact ⟨rfl, rfl⟩

theorem rlen_ok (b s n : Nat) (C : Nat → Int) (w : World) (h : RW w b s n C) :
    Calls Try.prog 32 #[.pointer (some ⟨b, 0, none⟩)] w fun e w' => e = .returned (.int .i64 n) ∧ w = w' := by
  obtain ⟨A, c, h1, _⟩ := h.cell1
  go_enter Try.func32, Try.ntmps32
  go_wp2_with (go_at_call 39; refine (rvalid_ok b s n C _ h).mono ?_; rintro e w' ⟨rfl, rfl⟩)
  go_ret
  exact ⟨rfl, rfl⟩
theorem rlen_no (w : World) : Calls Try.prog 32 #[.pointer none] w fun e w' => e = .returned (.int .i64 0) ∧ w = w' := by
  go_enter Try.func32, Try.ntmps32
  go_wp2_with (go_at_call 39; refine (rvalid_no _).mono ?_; rintro e w' ⟨rfl, rfl⟩)
  go_ret
  exact ⟨rfl, rfl⟩

theorem rclip_any (k : Int) (n : Nat) (w : World) : Calls Try.prog 41 #[.int .i64 k, .int .i64 n] w fun e w' => e = .returned (.int .i64 (clip n k : Nat)) ∧ w = w' := by
  by_cases h0 : k < 0
  · have e : clip n k = 0 := clip_neg (by omega)
    rw [e]
    go_enter Try.func41, Try.ntmps41
    go_wp2
    go_ret
    exact ⟨rfl, rfl⟩
  · by_cases h1 : (n : Int) < k
    · have e : clip n k = n := clip_big (by omega)
      rw [e]
      go_enter Try.func41, Try.ntmps41
      go_wp2
      go_ret
      exact ⟨rfl, rfl⟩
    · have e : ((clip n k : Nat) : Int) = k := by unfold clip; split <;> omega
      rw [e]
      go_enter Try.func41, Try.ntmps41
      go_wp2
      go_ret
      exact ⟨rfl, rfl⟩

theorem rget_ok (b s n : Nat) (C : Nat → Int) (i : Nat) (hi : i < n) (w : World) (hr : RC w b s n C) :
    Calls Try.prog 28 #[.pointer (some ⟨b, 0, none⟩), .int .i64 i] w fun e w' => e = .returned (.int .i64 (C i)) ∧ w = w' := by
  obtain ⟨c, h1, _⟩ := hr.rw.cell1' (by omega)
  have h2 := hr.rw.at_ hi
  have hn := hr.hn
  go_enter Try.func28, Try.ntmps28
  go_wp2_with (go_at_call 39; refine (rvalid_ok b s n C _ hr.rw).mono ?_; rintro e w' ⟨rfl, rfl⟩)
  go_ret
  exact ⟨rfl, rfl⟩
theorem rget_out (b s n : Nat) (C : Nat → Int) (i : Int) (hi : i < 0 ∨ (n : Int) ≤ i) (w : World) (hr : RC w b s n C) :
    Calls Try.prog 28 #[.pointer (some ⟨b, 0, none⟩), .int .i64 i] w fun e w' => e = .returned (.int .i64 0) ∧ w = w' := by
  obtain ⟨A, c, h1, _⟩ := hr.rw.cell1
  have hn := hr.hn
  rcases hi with hi | hi
  all_goals
    go_enter Try.func28, Try.ntmps28
    go_wp2_with (go_at_call 39; refine (rvalid_ok b s n C _ hr.rw).mono ?_; rintro e w' ⟨rfl, rfl⟩)
    go_ret
    exact ⟨rfl, rfl⟩
theorem rget_no (i : Int) (w : World) : Calls Try.prog 28 #[.pointer none, .int .i64 i] w fun e w' => e = .returned (.int .i64 0) ∧ w = w' := by
  go_enter Try.func28, Try.ntmps28
  go_wp2_with (go_at_call 39; refine (rvalid_no _).mono ?_; rintro e w' ⟨rfl, rfl⟩)
  go_ret
  exact ⟨rfl, rfl⟩

/-- the sum from i on, below j -/
def sumV (C : Nat → Int) (i j : Nat) : Int := if i < j then pre C j - pre C i else 0

theorem rrange_ok (b s n : Nat) (C : Nat → Int) (i j : Int) (w : World) (hr : RC w b s n C) :
    Calls Try.prog 30 #[.pointer (some ⟨b, 0, none⟩), .int .i64 i, .int .i64 j] w fun e w' => e = .returned (.int .i64 (sumV C (clip n i) (clip n j))) ∧ w = w' := by
  obtain ⟨A, c, h1, _⟩ := hr.rw.cell1
  have hn := hr.hn
  have hi := clip_le n i
  have hj := clip_le n j
  generalize hI : clip n i = I at *
  generalize hJ : clip n j = J at *
  have HI := Lib.hid hI
  have HJ := Lib.hid hJ
  clear hI hJ
  go_enter Try.func30, Try.ntmps30
  go_wp2_with (first | (go_at_call 39; refine (rvalid_ok b s n C _ hr.rw).mono ?_; rintro e w' ⟨rfl, rfl⟩) | (go_at_call 41; refine (rclip_any _ _ _).mono ?_; rintro e w' ⟨rfl, rfl⟩))
  go_loop [7, 8] (fun v k => ∃ q : Nat, k = .int .i64 q ∧ I ≤ q ∧ (q ≤ J ∨ q = I) ∧ v = .int .i64 (pre C q - pre C I)) (fun _ k => J - (intOf k).toNat)
  case atStart => exact ⟨I, by rw [HI.out], Nat.le_refl _, .inr rfl, by rw [Int.sub_self]⟩
  case round =>
    obtain ⟨q, rfl, hq, hq2, rfl⟩ := hrel
    have HR := HJ.out
    by_cases hlt : q < J
    · obtain ⟨c', h1', _⟩ := hr.rw.cell1' (by omega)
      have h2 := hr.rw.at_ (i := q) (by omega)
      have b1 := pre_mono hr.good.nn I q hq (by omega)
      have b2 := hr.good.pre_le (k := q + 1) (by omega)
      have b3 := hr.good.pre_nn (k := I) (by omega)
      have b4 := hr.good.nn q (by omega)
      have e1 : pre C (q + 1) = pre C q + C q := rfl
      rw [e1] at b2
      have E1 := Lib.hid e1
      clear e1 HR h1
      go_wp2_with (go_at_call 41; refine (rclip_any j n _).mono ?_; rw [HJ.out]; rintro e w' ⟨rfl, rfl⟩)
      go_round
      case rel => exact ⟨q + 1, by go_num, by omega, .inl hlt, by rw [E1.out]; congr 1; omega⟩
      case measure => simp [intOf]; omega
    · clear HR
      go_wp2_with (go_at_call 41; refine (rclip_any j n _).mono ?_; rw [HJ.out]; rintro e w' ⟨rfl, rfl⟩)
      go_ret
      refine ⟨?_, rfl⟩
      unfold sumV
      by_cases hIJ : I < J
      · rw [if_pos hIJ]
        obtain rfl : q = J := by omega
        rfl
      · rw [if_neg hIJ]
        obtain rfl : q = I := by omega
        show Ending.returned (Value.int .i64 (pre C q - pre C q)) = _
        rw [Int.sub_self]

end Go.Proofs.Ytjikfmacdacgaaa
