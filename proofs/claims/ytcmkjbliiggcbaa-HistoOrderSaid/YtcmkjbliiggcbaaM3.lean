/-
  Histograms: addTo on one row.
-/
import Derived.Test.YtcmkjbliiggcbaaM1
set_option linter.unusedVariables false
set_option linter.unusedSimpArgs false
namespace Go.Proofs.Ytcmkjbliiggcbaa
open Go.RowKit Go.Shelf

set_option maxRecDepth 100000 in
set_option maxHeartbeats 1000000 in
theorem addTo_self (n ca cb s : Nat) (C : Nat → Int) (w : World) (hC : RowF .i64 w s 2 n C) (hn : n ≤ 100000) (ha : n ≤ ca) (hb : n ≤ cb) (hs : ∀ j, j < n → Fits (C j) ∧ Fits (C j + C j)) :
    Calls Try.prog 46 #[.slice (some ⟨s, 0, none⟩) n ca, .slice (some ⟨s, 0, none⟩) n cb] w fun e w' => e = .returned (.tuple #[]) ∧ RowF .i64 w' s 2 n (addR C C n) ∧ Turns (· = s) w w' := by
  have HS := Lib.hid hs
  clear hs
  go_enter Try.func46, Try.ntmps46
  go_wp2_with fail
  go_loopw [7] (fun vi wr => ∃ k : Nat, vi = .int .i64 k ∧ k ≤ n ∧ RowF .i64 wr s 2 n (addR C C k) ∧ Turns (· = s) w wr) (fun vi _ => n - (intOf vi).toNat)
  case atStart => exact ⟨0, rfl, Nat.zero_le _, hC.congr (fun i hi => by unfold addR; rw [if_neg (by omega)]), Turns.refl _ _⟩
  case round =>
    clear hC
    obtain ⟨k, rfl, hk, hC, ht⟩ := hrel
    by_cases hlt : k < n
    · have c1 := hC.cell hlt
      have z1 := hC.frozen k
      have hkn : (k : Int) < (n : Int) := by omega
      have ek : addR C C k k = C k := by unfold addR; rw [if_neg (by omega)]
      rw [ek] at c1
      obtain ⟨f1, f3⟩ := HS.out k hlt
      obtain ⟨u, hu⟩ : ∃ u, C k = u := ⟨_, rfl⟩
      rw [hu] at c1 f1 f3
      have HU := Lib.hid hu
      have hw : IntKind.i64.wrap (u + u) = u + u := wrap_i64 f3.1 f3.2
      clear ek hu f1 f3
      go_wp2_with fail
      have d1 : wr.drew.cell? ⟨s, k, none⟩ = some (.int .i64 u) := c1
      have dz : wr.drew.frozen? ⟨s, k, none⟩ = false := z1
      go_region
      all_goals
        go_wp2_with fail
        go_roundw
        case rel =>
          refine ⟨k + 1, by simp, by omega, (RowF.set_ (hC.drew) k (u + u)).congr (fun i hi => ?_), (ht.drew).setCell (p := ⟨s, k, none⟩) (.inr rfl) _⟩
          unfold addR
          by_cases h1 : i = k
          · subst h1; rw [if_pos rfl, if_pos (by omega), HU.out]
          · rw [if_neg h1]
            by_cases h2 : i < k
            · rw [if_pos h2, if_pos (by omega)]
            · rw [if_neg h2, if_neg (by omega)]
        case measure => simp [intOf]; omega
    · obtain rfl : k = n := by omega
      go_wp2_with fail
      simp [bodyPost, results, go_sem]
      exact ⟨hC, ht⟩
end Go.Proofs.Ytcmkjbliiggcbaa
