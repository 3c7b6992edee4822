/-
  The walk of HistoBuckets.
-/
import Derived.Test.YtcmkjbliiggcbaaA7
set_option linter.unusedVariables false
set_option linter.unusedSimpArgs false
namespace Go.Proofs.Ytcmkjbliiggcbaa
open Go.RowKit Go.Shelf

set_option maxRecDepth 100000 in
set_option maxHeartbeats 2000000 in
theorem buckets_walk (n c : Nat) (A : Option Addr) (B : Nat → Int) (x : Int) (w : World) (ha : ArgI .i64 w A n c B) (hA : A = none → n = 0 ∧ c = 0) :
    Calls Try.prog 4 #[.slice A n c, .int .i64 x] w fun e w' => e = .returned (.bool true) ∧ Below w.heap.size w w' := by
  go_enter Try.func4, Try.ntmps4
  go_wp2_with fail
  refine (new_ok n c A B _ ha hA).mono ?_
  rintro e w1 (⟨p, A', cb, s, cs, rfl, h, hp, hs, hv1⟩ | ⟨rfl, hno, hv1⟩)
  · have ha1 := ha.below hv1
    go_wp2_with fail
    refine (bucket_ok h x).mono ?_
    rintro e w2 ⟨rfl, hv2⟩
    have ha2 := ha1.below hv2
    have q := below_end hv1 hv1.size hv2
    have hle := h.le
    have hl := bk_le B x n
    have HL := Lib.hid (bk_low (x := x) h.inc)
    have HH := Lib.hid (bk_high (x := x) h.inc)
    have hnc := ha2.1
    obtain ⟨r, hr⟩ : ∃ r, bk B x n = r := ⟨_, rfl⟩
    rw [hr] at hl HL HH
    rw [hr]
    clear hr
    rcases Nat.eq_zero_or_pos r with h0 | h0
    · subst h0
      rcases Nat.eq_zero_or_pos n with hn | hn
      · subst hn
        go_wp2_with (go_at_call 14; refine (works_ok _).mono ?_; rintro e w9 ⟨rfl, hv9⟩)
        go_ret
        exact ⟨rfl, below_end q q.size hv9⟩
      · obtain ⟨g, o, rfl, hg, hc⟩ := ha2.2.2.1 hn
        have c0 := hc 0 hn
        have hx := HH.out 0 (Nat.zero_le _) hn
        have hn0 : ((0 : Int) == (n : Int)) = false := by simp; omega
        obtain ⟨y, hy⟩ : ∃ y, B 0 = y := ⟨_, rfl⟩
        rw [hy] at c0 hx
        simp at c0
        clear hc hy
        have hni : (0 : Int) < (n : Int) := by omega
        go_wp2_with (go_at_call 14; refine (works_ok _).mono ?_; rintro e w9 ⟨rfl, hv9⟩)
        go_ret
        exact ⟨rfl, below_end q q.size hv9⟩
    · obtain ⟨j, rfl⟩ : ∃ j, r = j + 1 := ⟨r - 1, by omega⟩
      obtain ⟨g, o, rfl, hg, hc⟩ := ha2.2.2.1 (by omega)
      have c0 := hc j (by omega)
      have hx := HL.out j (by omega)
      obtain ⟨y, hy⟩ : ∃ y, B j = y := ⟨_, rfl⟩
      rw [hy] at c0 hx
      clear hy
      have hji : (j : Int) < (n : Int) := by omega
      have hj0 : ((j : Int) + 1 == 0) = false := by simp; omega
      rcases Nat.lt_or_ge (j + 1) n with h1 | h1
      · have c1 := hc (j + 1) h1
        have hx1 := HH.out (j + 1) (Nat.le_refl _) h1
        obtain ⟨z, hz⟩ : ∃ z, B (j + 1) = z := ⟨_, rfl⟩
        rw [hz] at c1 hx1
        clear hz hc
        have hjn : ((j : Int) + 1 == (n : Int)) = false := by simp; omega
        have hjl : (j : Int) + 1 < (n : Int) := by omega
        go_wp2_with (go_at_call 14; refine (works_ok _).mono ?_; rintro e w9 ⟨rfl, hv9⟩)
        go_ret
        exact ⟨rfl, below_end q q.size hv9⟩
      · obtain rfl : n = j + 1 := by omega
        clear hc
        go_wp2_with (go_at_call 14; refine (works_ok _).mono ?_; rintro e w9 ⟨rfl, hv9⟩)
        go_ret
        exact ⟨rfl, below_end q q.size hv9⟩
  · go_wp2_with (go_at_call 14; refine (works_ok _).mono ?_; rintro e w9 ⟨rfl, hv9⟩)
    go_ret
    exact ⟨rfl, below_end hv1 hv1.size hv9⟩
end Go.Proofs.Ytcmkjbliiggcbaa
