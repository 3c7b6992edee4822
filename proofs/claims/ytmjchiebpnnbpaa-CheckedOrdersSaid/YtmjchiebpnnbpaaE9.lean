/-
  The walk of CheckedSums.
-/
import Derived.Test.YtmjchiebpnnbpaaH1
import Derived.Test.YtmjchiebpnnbpaaH2
set_option linter.unusedVariables false
set_option linter.unusedSimpArgs false
namespace Go.Proofs.Ytmjchiebpnnbpaa
open Go.RowKit Go.Shelf

/-- what owns a row, as an argument -/
theorem own_arg {w : World} {base n : Nat} {v : Value} {z : Nat → Int} (h : w.ownsRow base 2 1 v n (vals z n)) (hz : ∀ j, j < n → Fits (z j)) :
    ∃ A cap, v = .slice A n cap ∧ ArgI .i64 w A n cap z ∧ (A = none → n = 0 ∧ cap = 0) ∧ ∀ g o, A = some ⟨g, o, none⟩ → base ≤ g := by
  rcases h.2 with ⟨h0, h1⟩ | ⟨g, cap, cur, hv, hg, hh, hc, hm, hs, ht⟩
  · subst h0 h1
    exact ⟨none, 0, rfl, argI_zero _ _ (by decide) _, fun _ => ⟨rfl, rfl⟩, fun g o e => by cases e⟩
  · refine ⟨_, cap, hv, ⟨hc, by simpa [maxLen] using hm, fun hn => ⟨g, 0, rfl, ?_, fun i hi => ?_⟩, fun i hi => fits_wf (hz i hi)⟩, (fun e => nomatch e), (fun g' o e => by cases e; exact hg)⟩
    · exact Blk.lt (w := w) (t := 2) (cs := cur) hh
    · rw [Nat.zero_add]
      refine (Blk.cell (w := w) (t := 2) (cs := cur) hh i).trans ?_
      have hu := vals_get (z := z) hi
      rw [← ht, List.getElem?_take] at hu
      split at hu
      · rw [← Array.getElem?_toList]; exact hu
      · cases hu

set_option maxRecDepth 100000 in
set_option maxHeartbeats 2000000 in
theorem sums_walk (n c : Nat) (A : Option Addr) (z : Nat → Int) (w : World) (ha : ArgI .i64 w A n c z) (hA : A = none → n = 0 ∧ c = 0) :
    Calls Try.prog 3 #[.slice A n c] w fun e w' => e = .returned (.bool true) ∧ Below w.heap.size w w' := by
  by_cases hn : 1000 < n
  · have hn' : (1000 : Int) < (n : Int) := by omega
    go_enter Try.func3, Try.ntmps3
    go_wp2_with fail
    go_ret
    exact ⟨rfl, Below.refl _ _⟩
  have hn1 : n ≤ 1000 := by omega
  have hz : ∀ j, j < n → Fits (z j) := fun j hj => wf_i64 (ha.2.2.2 j hj)
  have hb0 := below_new1 w (.cells #[] 2)
  have ha0 := ha.below hb0
  have hown0 : (w.alloc (.cells #[] 2)).ownsRow w.heap.size 2 1 (.slice (some ⟨w.heap.size, 0, none⟩) 0 0) 0 (vals (fun _ => 0) 0) :=
    ⟨rfl, .inr ⟨w.heap.size, 0, #[], rfl, Nat.le_refl _, Blk.new w 2 #[], Nat.le_refl _, by simp [maxLen], rfl, rfl⟩⟩
  have hsz : w.heap.size ≤ (w.alloc (.cells #[] 2)).heap.size := by simp
  have HZ := Lib.hid hz
  clear hz
  go_enter Try.func3, Try.ntmps3
  go_wp2_with (at_builtin; refine wpList_append_ints rfl _ _ rfl w.heap.size (.slice (some ⟨w.heap.size, 0, none⟩) 0 0) 0 (fun _ => 0) rfl hown0 A n c z rfl ha0 hA (by omega) hsz ?_; intro v' w1 hown hgrow)
  have hb1 := hb0.grown hgrow hsz (fun k hk => by simp [Value.ownBlock] at hk; omega)
  rw [Nat.zero_add, vals_ext (y := z) (fun j hj => by unfold cat; rw [if_neg (by omega)]; rfl)] at hown
  obtain ⟨B, cap, rfl, hB, hBn, hBg⟩ := own_arg hown HZ.out
  have ha1 := ha.below hb1
  have q := hb1
  clear hown hgrow hown0 ha0
  refine (sum_ok n cap B z _ hB).mono ?_
  rintro e w' ⟨rfl, rfl⟩
  go_wp2_with fail
  refine (rsum_ok n c A z _ ha1 hn1).mono ?_
  rintro e w2 ⟨rfl, hv2⟩
  have ha2 := ha1.below hv2
  have hB2 := hB.below hv2
  have q := below_end q q.size hv2
  obtain ⟨V, hV⟩ : ∃ V, fitV (tot z n) = V := ⟨_, rfl⟩
  obtain ⟨U, hU⟩ : ∃ U, fitE (tot z n) = U := ⟨_, rfl⟩
  rw [hV, hU]
  clear hV hU
  go_wp2_with fail
  go_loopw [8] (fun vi wr => ∃ k : Nat, vi = .int .i64 k ∧ k ≤ n ∧ ArgI .i64 wr A n c z ∧ ArgI .i64 wr B n cap z ∧ Below w.heap.size w wr) (fun vi _ => n - (intOf vi).toNat)
  case atStart => exact ⟨0, rfl, Nat.zero_le _, ha2, hB2, q⟩
  case round =>
    clear ha2 hB2 q
    obtain ⟨k, rfl, hk, ha2, hB2, q⟩ := hrel
    by_cases hlt : k < n
    · obtain ⟨g, o, rfl, hg, hcell⟩ := ha2.2.2.1 (by omega)
      obtain ⟨g', o', rfl, hg', hcell'⟩ := hB2.2.2.1 (by omega)
      have c1 := hcell k hlt
      have c2 := hcell' k hlt
      have hkn : (k : Int) < (n : Int) := by omega
      have hcn := ha2.1
      have hcn' := hB2.1
      clear hcell hcell'
      go_wp2_with fail
      go_quiet (fail)
      go_wp2_with fail
      go_roundw
      case rel => exact ⟨k + 1, by simp, by omega, ha2.below (below_drewN (Below.refl _ _) _), hB2.below (below_drewN (Below.refl _ _) _), below_drewN q _⟩
      case measure => simp [intOf]; omega
    · obtain rfl : k = n := by omega
      go_wp2_with fail
      refine (works_ok _).mono ?_
      rintro e w9 ⟨rfl, hv9⟩
      go_wp2_with fail
      go_ret
      exact ⟨rfl, below_end q q.size hv9⟩
end Go.Proofs.Ytmjchiebpnnbpaa
