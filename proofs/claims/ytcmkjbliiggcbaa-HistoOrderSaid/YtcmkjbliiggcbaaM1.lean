/-
  Histograms: slices.Equal and addTo.
-/
import Derived.Test.YtcmkjbliiggcbaaL5
set_option linter.unusedVariables false
set_option linter.unusedSimpArgs false
namespace Go.Proofs.Ytcmkjbliiggcbaa
open Go.RowKit Go.Shelf

/-- both lists are the same -/
def SameL (n m : Nat) (z y : Nat → Int) : Prop := n = m ∧ ∀ j, j < n → z j = y j
set_option maxRecDepth 100000 in
set_option maxHeartbeats 1000000 in
theorem equal_ok (n m ca cb : Nat) (A B : Option Addr) (z y : Nat → Int) (w : World) (ha : ArgI .i64 w A n ca z) (hb : ArgI .i64 w B m cb y) (hn : n ≤ 100000) :
    Calls Try.prog 45 #[.slice A n ca, .slice B m cb] w fun e w' => ((e = .returned (.bool true) ∧ SameL n m z y) ∨ (e = .returned (.bool false) ∧ ¬ SameL n m z y)) ∧ Below w.heap.size w w' := by
  by_cases hnm : n = m
  · subst hnm
    go_enter Try.func45, Try.ntmps45
    go_wp2_with fail
    go_loopw [13] (fun vi wr => ∃ k : Nat, vi = .int .i64 k ∧ k ≤ n ∧ Hid (∀ j, j < k → z j = y j) ∧ ArgI .i64 wr A n ca z ∧ ArgI .i64 wr B n cb y ∧ Below w.heap.size w wr) (fun vi _ => n - (intOf vi).toNat)
    case atStart => exact ⟨0, rfl, Nat.zero_le _, Lib.hid (fun j hj => by omega), ha, hb, Below.refl _ _⟩
    case round =>
      clear ha hb
      obtain ⟨k, rfl, hk, HJ, ha, hb, q⟩ := hrel
      by_cases hlt : k < n
      · obtain ⟨g, o, rfl, hg, hcell⟩ := ha.2.2.1 (by omega)
        obtain ⟨g', o', rfl, hg', hcell'⟩ := hb.2.2.1 (by omega)
        have c1 := hcell k hlt
        have c2 := hcell' k hlt
        have hkn : (k : Int) < (n : Int) := by omega
        have hcn := ha.1
        have hcn' := hb.1
        clear hcell hcell'
        obtain ⟨u, hu⟩ : ∃ u, z k = u := ⟨_, rfl⟩
        obtain ⟨v, hv⟩ : ∃ v, y k = v := ⟨_, rfl⟩
        have HU := Lib.hid (And.intro hu hv)
        rw [hu] at c1
        rw [hv] at c2
        clear hu hv
        by_cases huv : u = v
        · have HJ2 := Lib.hid (show ∀ j, j < k + 1 → z j = y j from fun j hj => by
            rcases Nat.lt_or_ge j k with h1 | h1
            · exact HJ.out j h1
            · obtain rfl : j = k := by omega
              rw [HU.out.1, HU.out.2]; exact huv)
          subst huv
          go_wp2_with fail
          go_quiet (fail)
          go_wp2_with fail
          go_roundw
          case rel => exact ⟨k + 1, by simp, by omega, HJ2, ha.below (below_drewN (Below.refl _ _) _), hb.below (below_drewN (Below.refl _ _) _), below_drewN q _⟩
          case measure => simp [intOf]; omega
        · have HD := Lib.hid (show ¬ SameL n n z y from fun h => huv (by have := h.2 k hlt; rw [HU.out.1, HU.out.2] at this; exact this))
          have huv1 : (u == v) = false := by simpa using huv
          go_wp2_with fail
          go_quiet (fail)
          go_wp2_with fail
          go_ret
          exact ⟨Or.inr ⟨rfl, HD.out⟩, below_drewN q _⟩
      · obtain rfl : k = n := by omega
        go_wp2_with fail
        go_ret
        exact ⟨Or.inl ⟨rfl, rfl, HJ.out⟩, q⟩
  · have hnm1 : ((n : Int) == (m : Int)) = false := by simp; omega
    have HD := Lib.hid (show ¬ SameL n m z y from fun h => hnm h.1)
    have hnm2 : ¬ (n : Int) = (m : Int) := by omega
    clear hnm
    go_enter Try.func45, Try.ntmps45
    go_wp2_with fail
    go_ret
    exact ⟨Or.inr ⟨rfl, HD.out⟩, Below.refl _ _⟩

/-- the counts of one row added to those of another one -/
def addR (C D : Nat → Int) (k : Nat) : Nat → Int := fun j => if j < k then C j + D j else C j
set_option maxRecDepth 100000 in
set_option maxHeartbeats 1000000 in
theorem addTo_ok (n ca cb s t : Nat) (C D : Nat → Int) (w : World) (hC : RowF .i64 w s 2 n C) (hD : RowF .i64 w t 2 n D) (hst : s ≠ t) (hn : n ≤ 100000) (ha : n ≤ ca) (hb : n ≤ cb) (hs : ∀ j, j < n → Fits (C j) ∧ Fits (D j) ∧ Fits (C j + D j)) :
    Calls Try.prog 46 #[.slice (some ⟨s, 0, none⟩) n ca, .slice (some ⟨t, 0, none⟩) n cb] w fun e w' => e = .returned (.tuple #[]) ∧ RowF .i64 w' s 2 n (addR C D n) ∧ Turns (· = s) w w' := by
  have HS := Lib.hid hs
  clear hs
  go_enter Try.func46, Try.ntmps46
  go_wp2_with fail
  go_loopw [7] (fun vi wr => ∃ k : Nat, vi = .int .i64 k ∧ k ≤ n ∧ RowF .i64 wr s 2 n (addR C D k) ∧ RowF .i64 wr t 2 n D ∧ Turns (· = s) w wr) (fun vi _ => n - (intOf vi).toNat)
  case atStart => exact ⟨0, rfl, Nat.zero_le _, hC.congr (fun i hi => by unfold addR; rw [if_neg (by omega)]), hD, Turns.refl _ _⟩
  case round =>
    clear hC hD
    obtain ⟨k, rfl, hk, hC, hD, ht⟩ := hrel
    by_cases hlt : k < n
    · have c1 := hC.cell hlt
      have c2 := hD.cell hlt
      have z1 := hC.frozen k
      have hkn : (k : Int) < (n : Int) := by omega
      have ek : addR C D k k = C k := by unfold addR; rw [if_neg (by omega)]
      rw [ek] at c1
      obtain ⟨f1, f2, f3⟩ := HS.out k hlt
      obtain ⟨u, hu⟩ : ∃ u, C k = u := ⟨_, rfl⟩
      obtain ⟨v, hv⟩ : ∃ v, D k = v := ⟨_, rfl⟩
      rw [hu] at c1 f1 f3
      rw [hv] at c2 f2 f3
      have HU := Lib.hid (And.intro hu hv)
      have hw : IntKind.i64.wrap (u + v) = u + v := wrap_i64 f3.1 f3.2
      clear ek hu hv f1 f2 f3
      go_wp2_with fail
      have d1 : wr.drew.cell? ⟨s, k, none⟩ = some (.int .i64 u) := c1
      have d2 : wr.drew.cell? ⟨t, k, none⟩ = some (.int .i64 v) := c2
      have dz : wr.drew.frozen? ⟨s, k, none⟩ = false := z1
      go_region
      all_goals
        go_wp2_with fail
        go_roundw
        case rel =>
          refine ⟨k + 1, by simp, by omega, (RowF.set_ (hC.drew) k (u + v)).congr (fun i hi => ?_), (hD.drew).far (Ne.symm hst) _, (ht.drew).setCell (p := ⟨s, k, none⟩) (.inr rfl) _⟩
          unfold addR
          by_cases h1 : i = k
          · subst h1; rw [if_pos rfl, if_pos (by omega), HU.out.1, HU.out.2]
          · rw [if_neg h1]
            by_cases h2 : i < k
            · rw [if_pos h2, if_pos (by omega)]
            · rw [if_neg h2, if_neg (by omega)]
        case measure => simp [intOf]; omega
    · obtain rfl : k = n := by omega
      go_wp2_with fail
      simp [bodyPost, results, go_sem]
      exact ⟨hC, ht⟩
end Go.Proofs.Ytcmkjbliiggcbaa
