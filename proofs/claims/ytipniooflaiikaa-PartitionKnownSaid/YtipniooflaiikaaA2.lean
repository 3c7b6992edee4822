/-
  Labels; Check and check; the closures; lists that are the same; copies.
-/
import Derived.Test.YtipniooflaiikaaA1
import Derived.Test.YtipniooflaiikaaMath2
import Derived.Deep.QuietTactic
import Derived.BigQuiet
import Derived.Deep.RegionLaw
import Derived.Deep.DeepCutAuto
import Derived.Deep.RegionHeld3
set_option linter.unusedVariables false
set_option linter.unusedSimpArgs false
namespace Go.Proofs.Ytipniooflaiikaa
open Go.RowKit Go.Shelf

theorem ArgI.congr {k : IntKind} {w : World} {A : Option Addr} {n c : Nat} {z y : Nat → Int} (h : ArgI k w A n c z) (e : ∀ i, i < n → z i = y i) : ArgI k w A n c y := by
  obtain ⟨h1, h2, h3, h4⟩ := h
  refine ⟨h1, h2, fun hn => ?_, fun i hi => by rw [← e i hi]; exact h4 i hi⟩
  obtain ⟨g, o, e', hg, hc⟩ := h3 hn
  exact ⟨g, o, e', hg, fun i hi => by rw [← e i hi]; exact hc i hi⟩
/-- canonical labels, over whole numbers -/
def CanZ (z : Nat → Int) (n : Nat) : Prop := ∀ i, i < n → 0 ≤ z i ∧ z i ≤ i ∧ z (z i).toNat = z i
theorem CanZ.nat {z : Nat → Int} {n : Nat} (h : CanZ z n) : ∃ a : Nat → Nat, Can a n ∧ ∀ i, i < n → z i = (a i : Int) := by
  refine ⟨fun i => (z i).toNat, fun i hi => ?_, fun i hi => by show z i = ((z i).toNat : Int); have := (h i hi).1; omega⟩
  obtain ⟨h0, h1, h2⟩ := h i hi
  exact ⟨by show (z i).toNat ≤ i; omega, by show (z (z i).toNat).toNat = _; rw [h2]⟩
theorem CanZ.of {a : Nat → Nat} {n : Nat} (h : Can a n) : CanZ (fun i => (a i : Int)) n := fun i hi => by
  obtain ⟨h0, h1⟩ := h i hi
  exact ⟨by show (0 : Int) ≤ (a i : Int); omega, by show (a i : Int) ≤ i; omega, by show ((a ((a i : Int)).toNat : Nat) : Int) = _; rw [Int.toNat_natCast, h1]⟩
theorem CanZ.congr {z y : Nat → Int} {n : Nat} (h : CanZ z n) (e : ∀ i, i < n → z i = y i) : CanZ y n := fun i hi => by
  obtain ⟨h0, h1, h2⟩ := h i hi
  rw [← e i hi]
  exact ⟨h0, h1, by rw [← e _ (by omega)]; exact h2⟩

set_option maxRecDepth 100000 in
set_option maxHeartbeats 1000000 in
theorem check_ok (n c : Nat) (A : Option Addr) (z : Nat → Int) (w : World) (ha : ArgI .i64 w A n c z) :
    Calls Try.prog 21 #[.slice A n c] w fun e w' => ((e = .returned (.int .i64 0) ∧ CanZ z n) ∨ (e = .returned (.int .i64 2) ∧ ¬ CanZ z n)) ∧ w = w' := by
  have hn63 := ha.2.1
  have hnc := ha.1
  go_enter Try.func21, Try.ntmps21
  go_wp2_with fail
  go_loop [3, 4, 7] (fun _ _ vi => ∃ i : Nat, vi = .int .i64 i ∧ i ≤ n ∧ Hid (CanZ z i)) (fun _ _ vi => n - (intOf vi).toNat)
  case atStart => exact ⟨0, rfl, Nat.zero_le _, Lib.hid (fun i hi => by omega)⟩
  case round =>
    obtain ⟨i, rfl, hi, HC⟩ := hrel
    by_cases hlt : i < n
    · obtain ⟨g, o, rfl, hg, hc⟩ := ha.2.2.1 (by omega)
      have hin : (i : Int) < (n : Int) := by omega
      have ci := hc i hlt
      have HCC := Lib.hid hc
      obtain ⟨x, hx⟩ : ∃ x, z i = x := ⟨_, rfl⟩
      rw [hx] at ci
      have HX := Lib.hid hx
      clear hx hc
      by_cases h0 : x < 0
      · have HD := Lib.hid (show ¬ CanZ z n from fun k => by have := (k i hlt).1; rw [HX.out] at this; omega)
        go_wp2_with fail
        go_ret
        exact ⟨Or.inr ⟨rfl, HD.out⟩, rfl⟩
      · by_cases h1 : (i : Int) < x
        · have HD := Lib.hid (show ¬ CanZ z n from fun k => by have := (k i hlt).2.1; rw [HX.out] at this; omega)
          go_wp2_with fail
          go_ret
          exact ⟨Or.inr ⟨rfl, HD.out⟩, rfl⟩
        · obtain ⟨q, rfl⟩ := Int.eq_ofNat_of_zero_le (show 0 ≤ x by omega)
          have hqi : q ≤ i := by omega
          have hqn : (q : Int) < (n : Int) := by omega
          have hq1 : (q : Int) ≤ (i : Int) := by omega
          have cq := HCC.out q (by omega)
          obtain ⟨y, hy⟩ : ∃ y, z q = y := ⟨_, rfl⟩
          rw [hy] at cq
          have HY := Lib.hid hy
          clear hy
          by_cases h2 : y = (q : Int)
          · subst h2
            have HD := Lib.hid (show CanZ z (i + 1) from fun j hj => by
              rcases Nat.lt_or_ge j i with k | k
              · exact HC.out j k
              · obtain rfl : j = i := by omega
                rw [HX.out]; exact ⟨by omega, by omega, by rw [Int.toNat_natCast]; exact HY.out⟩)
            go_wp2_with fail
            go_round
            case rel => exact ⟨i + 1, by simp, by omega, HD⟩
            case measure => simp [intOf]; omega
          · have h3 : (y == (q : Int)) = false := by simpa using h2
            have HD := Lib.hid (show ¬ CanZ z n from fun k => by have := (k i hlt).2.2; rw [HX.out, Int.toNat_natCast, HY.out] at this; exact h2 this)
            go_wp2_with fail
            go_ret
            exact ⟨Or.inr ⟨rfl, HD.out⟩, rfl⟩
    · obtain rfl : i = n := by omega
      go_wp2_with fail
      go_ret
      exact ⟨Or.inl ⟨rfl, HC.out⟩, rfl⟩
/-- two partitions of the same elements -/
def Two (n m : Nat) (z y : Nat → Int) : Prop := CanZ z n ∧ CanZ y m ∧ n = m
set_option maxRecDepth 100000 in
theorem check2_ok (n m c d : Nat) (A B : Option Addr) (z y : Nat → Int) (w : World) (ha : ArgI .i64 w A n c z) (hb : ArgI .i64 w B m d y) :
    Calls Try.prog 35 #[.slice A n c, .slice B m d] w fun e w' => ((e = .returned (.int .i64 0) ∧ Two n m z y) ∨ (e = .returned (.int .i64 2) ∧ ¬ Two n m z y)) ∧ w = w' := by
  have x0 := check_ok n c A z w ha
  have y0 := check_ok m d B y w hb
  have hnc := ha.1
  have hmd := hb.1
  go_enter Try.func35, Try.ntmps35
  go_wp2_with fail
  refine x0.mono ?_
  rintro e w' ⟨⟨rfl, h1⟩ | ⟨rfl, h1⟩, rfl⟩
  · have H1 := Lib.hid h1
    clear h1
    go_wp2_with fail
    refine y0.mono ?_
    rintro e w' ⟨⟨rfl, h2⟩ | ⟨rfl, h2⟩, rfl⟩
    · by_cases hnm : n = m
      · subst hnm
        have HT := Lib.hid (show Two n n z y from ⟨H1.out, h2, rfl⟩)
        clear h2
        go_wp2_with fail
        go_ret
        exact ⟨Or.inl ⟨rfl, HT.out⟩, rfl⟩
      · have h3 : ((n : Int) == (m : Int)) = false := by simp; omega
        have h4 : ¬ (n : Int) = (m : Int) := by omega
        have HT := Lib.hid (show ¬ Two n m z y from fun k => hnm k.2.2)
        clear h2 hnm
        go_wp2_with fail
        go_ret
        exact ⟨Or.inr ⟨rfl, HT.out⟩, rfl⟩
    · have HT := Lib.hid (show ¬ Two n m z y from fun k => h2 k.2.1)
      clear h2
      go_wp2_with fail
      go_ret
      exact ⟨Or.inr ⟨rfl, HT.out⟩, rfl⟩
  · have HT := Lib.hid (show ¬ Two n m z y from fun k => h1 k.1)
    clear h1
    go_wp2_with fail
    go_ret
    exact ⟨Or.inr ⟨rfl, HT.out⟩, rfl⟩
set_option maxRecDepth 100000 in
theorem key1_ok (n c g : Nat) (A : Option Addr) (z : Nat → Int) (w : World) (hb : Blk w g 22 #[.slice A n c]) (ha : ArgI .i64 w A n c z) (i : Nat) (hi : i < n) :
    Calls Try.prog 43 #[.int .i64 i, .pointer (some ⟨g, 0, none⟩)] w fun e w' => e = .returned (.int .i64 (z i)) ∧ w = w' := by
  have c0 := hb.cell 0
  simp at c0
  have hn63 := ha.2.1
  have hnc := ha.1
  obtain ⟨g, o, rfl, hg, hc⟩ := ha.2.2.1 (by omega)
  have ci := hc i hi
  have hin : (i : Int) < (n : Int) := by omega
  clear hc
  go_enter Try.func43, Try.ntmps43
  go_wp2_with fail
  go_ret
  exact ⟨rfl, rfl⟩
set_option maxRecDepth 100000 in
set_option maxHeartbeats 1000000 in
theorem key2_ok (n c d g h : Nat) (A B : Option Addr) (z y : Nat → Int) (w : World) (hb : Blk w g 22 #[.slice A n c]) (hb' : Blk w h 22 #[.slice B n d]) (ha : ArgI .i64 w A n c z) (ha' : ArgI .i64 w B n d y) (i : Nat) (hi : i < n) :
    Calls Try.prog 47 #[.int .i64 i, .pointer (some ⟨g, 0, none⟩), .pointer (some ⟨h, 0, none⟩)] w fun e w' => e = .returned (.agg #[.int .i64 (z i), .int .i64 (y i)]) ∧ Below w.heap.size w w' := by
  have b1 := below_new1 w (.cells #[.int .i64 0, .int .i64 0] 57)
  have kn := (Blk.new w 57 #[.int .i64 0, .int .i64 0]).drew
  have hb1 := (hb.alloc (.cells #[.int .i64 0, .int .i64 0] 57)).drew
  have hb2 := (hb'.alloc (.cells #[.int .i64 0, .int .i64 0] 57)).drew
  have ha1 := (ha.below b1).below (Below.refl _ _).drew
  have ha2 := (ha'.below b1).below (Below.refl _ _).drew
  have c0 := hb1.cell 0
  have c1 := hb2.cell 0
  simp at c0 c1
  have hn63 := ha.2.1
  have hnc := ha.1
  have hn63' := ha'.2.1
  have hnc' := ha'.1
  obtain ⟨g, o, rfl, hg, hc⟩ := ha1.2.2.1 (by omega)
  obtain ⟨g', o', rfl, hg', hc'⟩ := ha2.2.2.1 (by omega)
  have ci := hc i hi
  have ci' := hc' i hi
  have hin : (i : Int) < (n : Int) := by omega
  obtain ⟨x, hx⟩ : ∃ x, z i = x := ⟨_, rfl⟩
  obtain ⟨u, hu⟩ : ∃ u, y i = u := ⟨_, rfl⟩
  rw [hx] at ci ⊢
  rw [hu] at ci' ⊢
  clear hc hc' ha ha' ha1 ha2 hb hb' hb1 hb2 hx hu
  have z0 := kn.frozen 0
  have z1 := kn.frozen 1
  have k0 := kn.cell 0
  have k1 := kn.cell 1
  simp at k0 k1
  go_enter Try.func47, Try.ntmps47
  go_wp2_with fail
  go_region
  all_goals
    go_wp2_with fail
    have R : Blk (w.alloc (.cells #[.int .i64 x, .int .i64 u] 57)).drew w.heap.size 57 #[.int .i64 x, .int .i64 u] := Blk.new w 57 _
    have q := (below_new1 w (.cells #[.int .i64 x, .int .i64 u] 57)).drew
    clear c0 c1 k0 k1 z0 z1 ci ci'
    generalize (w.alloc (.cells #[.int .i64 x, .int .i64 u] 57)).drew = W at *
    have c0 := R.cell 0
    have c1 := R.cell 1
    simp at c0 c1
    simp [bodyPost, results, Try.results47, go_sem, c0, c1]
    exact q

set_option maxRecDepth 100000 in
set_option maxHeartbeats 1000000 in
theorem same_yes (n ca cb : Nat) (A B : Option Addr) (z : Nat → Int) (w : World) (ha : ArgI .i64 w A n ca z) (hb : ArgI .i64 w B n cb z) (hn : n ≤ 100000) :
    Calls Try.prog 20 #[.slice A n ca, .slice B n cb] w fun e w' => e = .returned (.bool true) ∧ ∃ m, w' = w.drewN m := by
  go_enter Try.func20, Try.ntmps20
  go_wp2_with fail
  go_loopw [5] (fun vi wr => ∃ k : Nat, vi = .int .i64 k ∧ k ≤ n ∧ ∃ m, wr = w.drewN m) (fun vi _ => n - (intOf vi).toNat)
  case atStart => exact ⟨0, rfl, Nat.zero_le _, 0, rfl⟩
  case round =>
    obtain ⟨k, rfl, hk, m, rfl⟩ := hrel
    by_cases hlt : k < n
    · obtain ⟨g, o, rfl, hg, hcell⟩ := ha.2.2.1 (by omega)
      obtain ⟨g', o', rfl, hg', hcell'⟩ := hb.2.2.1 (by omega)
      have c1 := hcell k hlt
      have c2 := hcell' k hlt
      have hkn : (k : Int) < (n : Int) := by omega
      have hcn := ha.1
      have hcn' := hb.1
      clear hcell hcell'
      go_wp2_with fail
      go_quiet (fail)
      go_wp2_with fail
      go_roundw
      case rel => exact ⟨k + 1, by simp, by omega, m + nq, by first | rfl | simp⟩
      case measure => simp [intOf]; omega
    · obtain rfl : k = n := by omega
      go_wp2_with fail
      go_ret
      exact ⟨rfl, m, rfl⟩
/-- both lists are the same -/
def SameZ (n m : Nat) (z y : Nat → Int) : Prop := n = m ∧ ∀ j, j < n → z j = y j
set_option maxRecDepth 100000 in
set_option maxHeartbeats 1000000 in
theorem same_any (n m ca cb : Nat) (A B : Option Addr) (z y : Nat → Int) (w : World) (ha : ArgI .i64 w A n ca z) (hb : ArgI .i64 w B m cb y) (hn : n ≤ 100000) :
    Calls Try.prog 20 #[.slice A n ca, .slice B m cb] w fun e w' => ((e = .returned (.bool true) ∧ SameZ n m z y) ∨ (e = .returned (.bool false) ∧ ¬ SameZ n m z y)) ∧ ∃ m, w' = w.drewN m := by
  by_cases hnm : n = m
  · subst hnm
    go_enter Try.func20, Try.ntmps20
    go_wp2_with fail
    go_loopw [5] (fun vi wr => ∃ k : Nat, vi = .int .i64 k ∧ k ≤ n ∧ Hid (∀ j, j < k → z j = y j) ∧ ∃ m, wr = w.drewN m) (fun vi _ => n - (intOf vi).toNat)
    case atStart => exact ⟨0, rfl, Nat.zero_le _, Lib.hid (fun j hj => by omega), 0, rfl⟩
    case round =>
      obtain ⟨k, rfl, hk, HJ, m, rfl⟩ := hrel
      by_cases hlt : k < n
      · obtain ⟨g, o, rfl, hg, hcell⟩ := ha.2.2.1 (by omega)
        obtain ⟨g', o', rfl, hg', hcell'⟩ := hb.2.2.1 (by omega)
        have c1 := hcell k hlt
        have c2 := hcell' k hlt
        have hkn : (k : Int) < (n : Int) := by omega
        have hcn := ha.1
        have hcn' := hb.1
        clear hcell hcell'
        obtain ⟨u, hu⟩ : ∃ u, z k = u := ⟨_, rfl⟩
        obtain ⟨v, hv⟩ : ∃ v, y k = v := ⟨_, rfl⟩
        have HU := Lib.hid (And.intro hu hv)
        rw [hu] at c1
        rw [hv] at c2
        clear hu hv
        by_cases huv : u = v
        · have HJ2 := Lib.hid (show ∀ j, j < k + 1 → z j = y j from fun j hj => by
            rcases Nat.lt_or_ge j k with h1 | h1
            · exact HJ.out j h1
            · obtain rfl : j = k := by omega
              rw [HU.out.1, HU.out.2]; exact huv)
          subst huv
          go_wp2_with fail
          go_quiet (fail)
          go_wp2_with fail
          go_roundw
          case rel => exact ⟨k + 1, by simp, by omega, HJ2, m + nq, by first | rfl | simp⟩
          case measure => simp [intOf]; omega
        · have HD := Lib.hid (show ¬ SameZ n n z y from fun h => huv (by have := h.2 k hlt; rw [HU.out.1, HU.out.2] at this; exact this))
          have huv1 : (u == v) = false := by simpa using huv
          go_wp2_with fail
          go_quiet (fail)
          go_wp2_with fail
          go_ret
          exact ⟨Or.inr ⟨rfl, HD.out⟩, m + nq, by first | rfl | simp⟩
      · obtain rfl : k = n := by omega
        go_wp2_with fail
        go_ret
        exact ⟨Or.inl ⟨rfl, rfl, HJ.out⟩, m, rfl⟩
  · have hnm1 : ((n : Int) == (m : Int)) = false := by simp; omega
    have HD := Lib.hid (show ¬ SameZ n m z y from fun h => hnm h.1)
    have hnm2 : ¬ (n : Int) = (m : Int) := by omega
    clear hnm
    go_enter Try.func20, Try.ntmps20
    go_wp2_with fail
    go_ret
    exact ⟨Or.inr ⟨rfl, HD.out⟩, 0, rfl⟩
set_option maxRecDepth 100000 in
theorem copied_ok (n c : Nat) (A : Option Addr) (z : Nat → Int) (w : World) (ha : ArgI .i64 w A n c z) (hA : A = none → n = 0 ∧ c = 0) (hn : n ≤ 100000) :
    Calls Try.prog 17 #[.slice A n c] w fun e w' => ∃ A' c', e = .returned (.slice A' n c') ∧ ArgI .i64 w' A' n c' z ∧ (∀ g o, A' = some ⟨g, o, none⟩ → w.heap.size ≤ g) ∧ Below w.heap.size w w' := by
  have hb0 := below_new1 w (.cells #[] 3)
  have ha0 := ha.below hb0
  have hz : ∀ j, j < n → Fits (z j) := fun j hj => wf_i64 (ha.2.2.2 j hj)
  have HZ := Lib.hid hz
  clear hz
  have hown0 : (w.alloc (.cells #[] 3)).ownsRow w.heap.size 3 1 (.slice (some ⟨w.heap.size, 0, none⟩) 0 0) 0 (vals (fun _ => 0) 0) :=
    ⟨rfl, .inr ⟨w.heap.size, 0, #[], rfl, Nat.le_refl _, Blk.new w 3 #[], Nat.le_refl _, by simp [maxLen], rfl, rfl⟩⟩
  have hsz : w.heap.size ≤ (w.alloc (.cells #[] 3)).heap.size := by simp
  go_enter Try.func17, Try.ntmps17
  go_wp2_with (at_builtin; refine wpList_append_ints rfl _ _ rfl w.heap.size (.slice (some ⟨w.heap.size, 0, none⟩) 0 0) 0 (fun _ => 0) rfl hown0 A n c z rfl ha0 hA (by omega) hsz ?_; intro v' w1 hown hgrow)
  have hb1 := hb0.grown hgrow hsz (fun k hk => by simp [Value.ownBlock] at hk; omega)
  rw [Nat.zero_add, vals_ext (y := z) (fun j hj => by unfold cat; rw [if_neg (by omega)]; rfl)] at hown
  obtain ⟨A', c', rfl, h1, h2, h3⟩ := own_arg hown HZ.out
  go_ret
  exact ⟨A', c', rfl, h1, h3, hb1⟩
end Go.Proofs.Ytipniooflaiikaa
