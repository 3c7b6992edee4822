/-
  Histograms: sort.Search with the bounds, and Bucket.
-/
import Derived.Test.YtcmkjbliiggcbaaA2
import Derived.Deep.DeepCutAuto
import Derived.Deep.RegionHeld3
import Derived.Deep.RegionLaw
set_option linter.unusedVariables false
set_option linter.unusedSimpArgs false
namespace Go.Proofs.Ytcmkjbliiggcbaa
open Go.RowKit Go.Shelf
section
variable {w : World} {p n : Nat} {B C : Nat → Int} {T : Int} {A : Option Addr} {cb s cs : Nat}
set_option maxRecDepth 100000 in
set_option maxHeartbeats 1000000 in
theorem search_ok (h : Hist w p n B C T A cb s cs) (b1 b2 : Nat) (x : Int) (k1 : Blk w b1 26 #[.pointer (some ⟨p, 0, none⟩)]) (k2 : Blk w b2 2 #[.int .i64 x]) :
    Calls Try.prog 40 #[.int .i64 n, .func (.func 41) #[] #[.pointer (some ⟨b1, 0, none⟩), .pointer (some ⟨b2, 0, none⟩)]] w fun e w' => e = .returned (.int .i64 (bk B x n)) ∧ ∃ m, w' = w.drewN m := by
  have hle := h.le
  have hbl := bk_le B x n
  have hlow := bk_low (x := x) h.inc
  have hhigh := bk_high (x := x) h.inc
  have HL := Lib.hid hlow
  have HH := Lib.hid hhigh
  obtain ⟨r, hr⟩ : ∃ r, bk B x n = r := ⟨_, rfl⟩
  rw [hr] at hbl HL HH
  rw [hr]
  clear hlow hhigh hr
  go_enter Try.func40, Try.ntmps40
  go_wp2_with fail
  go_loopw [5, 6] (fun vi vj wr => ∃ i j : Nat, vi = .int .i64 i ∧ vj = .int .i64 j ∧ i ≤ r ∧ r ≤ j ∧ j ≤ n ∧ ∃ m, wr = w.drewN m) (fun vi vj _ => (intOf vj - intOf vi).toNat)
  case atStart => exact ⟨0, n, rfl, rfl, Nat.zero_le _, hbl, Nat.le_refl _, 0, rfl⟩
  case round =>
    obtain ⟨i, j, rfl, rfl, hi, hj, hjn, m, rfl⟩ := hrel
    by_cases hlt : i < j
    · have hij : (i : Int) < (j : Int) := by omega
      obtain ⟨q, hq⟩ : ∃ q, (i + j) / 2 = q := ⟨_, rfl⟩
      have hqi : ((i : Int) + (j : Int)) / 2 = (q : Int) := by omega
      have q1 : i ≤ q := by omega
      have q2 : q < j := by omega
      have q3 : (q : Int) < 1024 := by omega
      have hw1 : IntKind.u64.wrap ((i : Int) + (j : Int)) = (i : Int) + (j : Int) := by rw [IntKind.wrap_u64]; omega
      have hc := closure_ok (h.drewN m) b1 b2 x (k1.drewN m) (k2.drewN m) q (by omega)
      by_cases hb : q < r
      · have hx : ¬ x < B q := by have := HL.out q hb; omega
        rw [decide_no hx] at hc
        clear hx
        go_wp2_with fail
        refine hc.mono ?_
        rintro e w' ⟨rfl, k, rfl⟩
        go_wp2_with fail
        go_roundw
        case rel => exact ⟨q + 1, j, by simp, rfl, by omega, hj, hjn, m + k, by first | rfl | simp⟩
        case measure => simp [intOf]; omega
      · have hx : x < B q := HH.out q (by omega) (by omega)
        rw [decide_yes hx] at hc
        clear hx
        go_wp2_with fail
        refine hc.mono ?_
        rintro e w' ⟨rfl, k, rfl⟩
        go_wp2_with fail
        go_roundw
        case rel => exact ⟨i, q, rfl, rfl, hi, by omega, by omega, m + k, by first | rfl | simp⟩
        case measure => simp [intOf]; omega
    · obtain rfl : i = r := by omega
      have hij : ¬ (i : Int) < (j : Int) := by omega
      go_wp2_with fail
      go_ret
      exact ⟨rfl, m, rfl⟩

set_option maxRecDepth 100000 in
set_option maxHeartbeats 1000000 in
theorem bucket_ok (h : Hist w p n B C T A cb s cs) (x : Int) :
    Calls Try.prog 19 #[.pointer (some ⟨p, 0, none⟩), .int .i64 x] w fun e w' => e = .returned (.int .i64 (bk B x n)) ∧ Below w.heap.size w w' := by
  have q := below_new2 w (.cells #[.pointer (some ⟨p, 0, none⟩)] 26) (.cells #[.int .i64 x] 2)
  have k1 := (Blk.new w 26 #[.pointer (some ⟨p, 0, none⟩)]).alloc (.cells #[.int .i64 x] 2)
  have k2 := Blk.new2 w (.cells #[.pointer (some ⟨p, 0, none⟩)] 26) 2 #[.int .i64 x]
  have hh := h.below q
  have hle := h.le
  go_enter Try.func19, Try.ntmps19
  go_upto_region 1 with fail
  generalize (w.alloc (.cells #[.pointer (some ⟨p, 0, none⟩)] 26)).alloc (.cells #[.int .i64 x] 2) = W0 at *
  have m1 := k1.cell 0
  simp at m1
  obtain ⟨c0, c1, c2⟩ := hh.cells
  go_wp2_with (go_at_call 34; refine (valid_ok hh).mono ?_; rintro e w' ⟨rfl, rfl⟩)
  refine (search_ok hh w.heap.size (w.heap.size + 1) x k1 k2).mono ?_
  rintro e w1 ⟨rfl, m, rfl⟩
  go_wp2_with fail
  go_ret
  exact ⟨rfl, below_drewN q m⟩
end
end Go.Proofs.Ytcmkjbliiggcbaa
